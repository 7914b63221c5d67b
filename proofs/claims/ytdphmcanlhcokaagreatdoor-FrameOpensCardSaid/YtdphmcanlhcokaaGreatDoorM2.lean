/-
  Texts of this claim, put together: CNumG, StrSpec, NumF, ReadF, LexF, TakeF, PackSpec2, VcNest, VcAggs, CTreeG, TreeSpec, CRefN, RefName, CRef04, RefTree, CWithin, WithinSpec, CDigG, DigSpec.
  Conditions: those of each theorem.
-/
import Derived.Test.YtdphmcanlhcokaaGreatDoorM0
import Derived.Test.YtdphmcanlhcokaaGreatDoorM1
import Derived.ChangeSlices
import Derived.KernelRfl
import Derived.Laws.IdiomStrings
import Derived.Lib.ItoaNum
import Derived.Test.YtdphmcanlhcokaaGreatDoorProg
namespace Go.Proofs.YtdphmcanlhcokaaGreatDoor
open Vc
set_option maxRecDepth 100000
set_option linter.unusedVariables false
def C213 (p0:ByteArray) (w:World) (K:Value→World→Prop):Prop:=
 CallK Tryz.prog 218 #[.string p0,.string (⟨#[45]⟩:ByteArray)] w (.v (.one .str)) (fun (x1:ByteArray) w2=>JoinK (Bool×Unit) (fun J3=>ifB (x1.toList==(⟨#[]⟩:ByteArray).toList)
 (J3 (true,()) w2)
 (ifB (decide ((x1.size:Int) > 13))
 (J3 (true,()) w2)
 (CallK Tryz.prog 219 #[.string x1,.string (⟨#[48,49,50,51,52,53,54,55,56,57]⟩:ByteArray)] w2 (.v (.one .str)) (fun (x6:ByteArray) w7=>ifB (!(x6.toList==(⟨#[]⟩:ByteArray).toList))
 (J3 (true,()) w7)
 (StrK x1 0 (fun x8=>ifB (x8==48)
 (J3 ((!(p0.toList==(⟨#[48]⟩:ByteArray).toList)),()) w7)
 (J3 (false,()) w7)))))))
 (fun _ s4 w5=>ifB s4.1
 (K (.tuple #[.int .i64 0,.bool false]) w5)
 (CallK Tryz.prog 220 #[.string p0] w5 (.tup [.one (.int .i64),.one .raw]) (fun (x9:Int×Value×Unit) w10=>RunK Tryz.prog (do eqGuard .neq 294 (.tmp 35) (.const .nilIface) x9.2.1 .nilIface;binOp .neq 294 x9.2.1 .nilIface) w10 (.v (.one .bool)) (fun (x11:Bool) w12=>ifB x11
 (K (.tuple #[.int .i64 0,.bool false]) w12)
 (ifB (decide (x9.1<(-1000000000000)))
 (K (.tuple #[.int .i64 0,.bool false]) w12)
 (ifB (decide (x9.1 > 1000000000000))
 (K (.tuple #[.int .i64 0,.bool false]) w12)
 (K (.tuple #[.int .i64 x9.1,.bool true]) w12))))))))
def pl213:Plan:=(.seq .auto (.seq .auto (.seq (.join [(29,.one .bool)] .auto .auto) .auto)))
theorem c213 (p0:ByteArray) (w:World) (K:Value→World→Prop) (h:C213 p0 w K):Ret Tryz.prog 213 #[.string p0] w K:=z0z (by kernel_rfl) Tryz.func213 (p:=pl213) (Eq.mpr (by kernel_rfl) h)
theorem extract_str (a:List UInt8) (i j:Nat):(str a).extract i j=str ((a.drop i).take (j - i)):=by
 apply ByteArray.ext
 rw [ByteArray.data_extract]
 unfold str
 simp
theorem subs_ok {a:List UInt8} {lo hi:Int} (h0:0≤lo) (h1:lo≤hi) (h2:hi≤a.length) {K:ByteArray→Prop} (k:K (str ((a.drop lo.toNat).take (hi.toNat - lo.toNat)))):SubsK (str a) lo hi K:=
 ⟨h0,h1,by rw [z1z];exact h2,by rw [extract_str];exact k⟩
theorem strk_ok {a:List UInt8} {i:Int} (h0:0≤i) (h1:i<a.length) {K:Int→Prop} (k:K ((a.getD i.toNat 0).toNat:Int)):StrK (str a) i K:=by
 refine ⟨a.getD i.toNat 0,h0,?_,k⟩
 have hlt:i.toNat<(str a).size:=by rw [z1z];omega
 rw [getElem?_pos (str a) i.toNat hlt,List.getD_eq_getElem?_getD,List.getElem?_eq_getElem (by omega)]
 rfl
theorem hasPrefix_spec (a b:List UInt8) (w:World):Ret Tryz.prog 231 #[.string (str a),.string (str b)] w fun r w'=>r=.bool (decide (a.take b.length=b))∧w=w':=by
 refine c231 _ _ w _ ?_
 unfold C231
 rw [z1z,z1z]
 refine ifB.dec (fun h=>?_) (fun h=>?_)
 ·refine subs_ok (by omega) (by omega) (by omega) ?_
  rw [str_beq]
  exact ⟨by simp,rfl⟩
 ·refine ⟨?_,rfl⟩
  rw [decide_eq_false]
  intro t
  have:=congrArg List.length t
  rw [List.length_take] at this
  omega
def noMinus (s:List UInt8):List UInt8:=if s.take 1=[45] then s.drop 1 else s
theorem trimPrefix_spec (s:List UInt8) (w:World):Ret Tryz.prog 218 #[.string (str s),.string (str [45])] w fun r w'=>r=.string (str (noMinus s))∧w=w':=by
 refine c218 _ _ w _ ?_
 refine CallK.of (R:=fun r w'=>r=.string (str (noMinus s))∧w=w') ?_ (by rintro _ _ ⟨rfl,rfl⟩;exact ⟨_,rfl,rfl,rfl⟩)
 refine c221 _ _ w _ ?_
 refine CallK.of (hasPrefix_spec s [45] w) ?_
 rintro _ _ ⟨rfl,rfl⟩
 refine ⟨_,rfl,?_⟩
 unfold noMinus
 refine ifB.dec (fun h=>?_) (fun h=>?_)
 ·have h:s.take 1=[45]:=h
  have hl:1≤s.length:=by
   have:=congrArg List.length h
   rw [List.length_take] at this
   simp only [List.length_cons,List.length_nil] at this
   omega
  rw [if_pos h,z1z,z1z]
  refine subs_ok (by simp) (by simp only [List.length_cons,List.length_nil];omega) (by omega) ?_
  refine ⟨?_,rfl⟩
  rw [List.take_of_length_le (by simp)]
  rfl
 ·have h:¬ s.take 1=[45]:=h
  rw [if_neg h];exact ⟨rfl,rfl⟩
def setA (cs:List UInt8):List Value:=(List.range 256).map fun c=>.bool (decide (c∈cs.map (·.toNat)))
theorem z53z (cs:List UInt8):(setA cs).length=256:=by unfold setA;simp
theorem setA_at (cs:List UInt8) {c:Nat} (h:c<256):(setA cs)[c]? = some (.bool (decide (c∈cs.map (·.toNat)))):=by
 unfold setA
 rw [List.getElem?_map,List.getElem?_range h]
 rfl
theorem setA_one (cs:List UInt8):(setA cs).all one1=true:=by
 rw [List.all_eq_true]
 intro v hv
 obtain ⟨c,_,rfl⟩:=List.mem_map.1 hv
 rfl
theorem setA_snoc (cs:List UInt8) (c:UInt8):(setA cs).set c.toNat (.bool true)=setA (cs++[c]):=by
 refine List.ext_getElem? fun i=>?_
 by_cases hi:i<256
 ·rw [setA_at _ hi,List.getElem?_set]
  by_cases hc:c.toNat=i
  ·rw [if_pos hc,if_pos (by rw [z53z,hc];exact hi)]
   simp [hc]
  ·rw [if_neg hc,setA_at _ hi]
   congr 2
   refine decide_eq_decide.2 ?_
   rw [List.map_append,List.mem_append]
   simp only [List.map_cons,List.map_nil,List.mem_singleton]
   exact ⟨.inl,fun t=>t.elim id (fun t=>absurd t.symm hc)⟩
 ·rw [List.getElem?_eq_none (by rw [List.length_set,z53z];omega),List.getElem?_eq_none (by rw [z53z];omega)]
def IsSet (w:World) (g:Nat) (cs:List UInt8):Prop:=w.heap[g]? = some (.cells (setA cs).toArray 341 (0,0))
theorem IsSet.lda {w:World} {g:Nat} {cs:List UInt8} (h:IsSet w g cs) {K:List Value→Prop} (k:K (setA cs)):LdaK 256 (⟨g,0,none⟩:Addr) w K:=
 ⟨setA cs,z53z cs,z12z h _ 0 fun j _=>by simp,k⟩
theorem contains_spec {w:World} {g:Nat} {cs:List UInt8} (h:IsSet w g cs) (c:UInt8):Ret Tryz.prog 232 #[.pointer (some ⟨g,0,none⟩),.int .u8 (c.toNat:Int)] w fun r w'=>r=.bool (decide (c∈cs))∧w=w':=by
 refine c232 _ _ w _ ?_
 have hc:=UInt8.toNat_lt c
 refine ⟨by omega,by omega,?_⟩
 rw [z2z,Nat.mul_one,Int.toNat_natCast,Nat.zero_add]
 refine LdK.of h (x:=decide (c∈cs)) ?_ ⟨rfl,rfl⟩
 rw [List.getElem?_toArray,setA_at _ (by omega)]
 congr 2
 refine decide_eq_decide.2 ?_
 rw [List.mem_map]
 constructor
 ·rintro ⟨d,hd,e⟩
  rwa [← UInt8.toNat_inj.1 e]
 ·intro t;exact ⟨c,t,rfl⟩
theorem makeSet_spec (cs:List UInt8) (hcs:∀ c∈cs,c.toNat<128) (hl:cs.length≤1000) (w:World):Ret Tryz.prog 224 #[.string (str cs)] w fun r w'=>r=.tuple #[.agg (setA cs).toArray,.bool true]∧Fr none1 w w':=by
 refine c224 _ w _ ?_
 unfold C224
 refine NewK.of fun g w1 hg hg1 f1 _=>?_
 have h1:IsSet w1 g []:=hg1
 have F1:Fr (only g) w1 w1:=Fr.refl _ _
 refine LoopK.of (fun s w'=>∃ n:Nat,s.1=n∧n≤cs.length∧IsSet w' g (cs.take n)∧Fr (only g) w1 w') (fun s _=>cs.length - s.1.toNat) ⟨0,rfl,by omega,h1,F1⟩ ?_
 rintro _ ⟨i,_⟩ w2 ⟨n,hn,hnl,h2,f2⟩
 dsimp only at hn ⊢
 subst hn
 rw [z1z]
 refine ifB.dec (fun hlt=>?_) (fun hge=>?_)
 ·refine strk_ok (by omega) (by omega) ?_
  rw [Int.toNat_natCast]
  have hmem:cs.getD n 0∈cs:=by
   rw [List.getD_eq_getElem?_getD,List.getElem?_eq_getElem (by omega)]
   exact List.getElem_mem _
  have hc:=hcs _ hmem
  refine ifB.no (by omega) ?_
  refine ⟨by omega,by omega,?_⟩
  rw [z2z,Nat.mul_one,Int.toNat_natCast,Nat.zero_add]
  refine StK.of h2 (by rw [List.size_toArray,z53z];omega) rfl fun w3 h3 f3 _=>?_
  rw [wI (x:=(n:Int)+1) (by omega) (by omega)]
  refine ⟨⟨n+1,by omega,by omega,?_,f2.trans f3⟩,by omega⟩
  unfold IsSet
  rw [h3,List.setIfInBounds_toArray,setA_snoc]
  have:cs.take n++[cs.getD n 0]=cs.take (n+1):=by
   rw [List.take_succ_eq_append_getElem (by omega),List.getD_eq_getElem?_getD,List.getElem?_eq_getElem (by omega)]
   rfl
  rw [this]
 ·have:n=cs.length:=by omega
  subst this
  rw [List.take_length] at h2
  refine h2.lda ?_
  refine ⟨z53z cs,StsK.blk h2 rfl (setA_one cs) fun w3 h3 f3 _=>?_⟩
  have h3:IsSet w3 g cs:=h3
  refine h3.lda ⟨rfl,(f1.fresh f2 (by omega)).fresh f3 (by omega)⟩
theorem trimRight_spec {w:World} {g:Nat} {cs:List UInt8} (h:IsSet w g cs) (s:List UInt8) (hl:s.length≤1000000):Ret Tryz.prog 226 #[.string (str s),.pointer (some ⟨g,0,none⟩)] w fun r w'=>
  (∃ t u,r=.string (str t)∧s=t++u∧(∀ c∈u,c∈cs)∧(t=[]∨¬ t.getD (t.length - 1) 0∈cs))∧w=w':=by
 refine c226 _ _ w _ ?_
 refine LoopK.of (fun q w'=>w=w'∧∃ t u,q.1=str t∧s=t++u∧∀ c∈u,c∈cs) (fun q _=>q.1.size) ⟨rfl,s,[],rfl,by simp,by simp⟩ ?_
 rintro _ ⟨q,_⟩ _ ⟨rfl,t,u,hq,hs,hu⟩
 dsimp only at hq ⊢
 subst hq
 have htl:t.length≤s.length:=by rw [hs,List.length_append];omega
 rw [z1z]
 refine ifB.dec (fun hpos=>?_) (fun hz=>?_)
 ·rw [wI (x:=(t.length:Int) - 1) (by omega) (by omega)]
  refine strk_ok (by omega) (by omega) ?_
  rw [show ((t.length:Int) - 1).toNat=t.length - 1 by omega]
  refine CallK.of (contains_spec h _) ?_
  rintro _ _ ⟨rfl,rfl⟩
  refine ⟨_,rfl,?_⟩
  by_cases hc:t.getD (t.length - 1) 0∈cs
  ·refine ifB.f (by rw [decide_eq_true hc];rfl) ?_
   refine subs_ok (by omega) (by omega) (by omega) ?_
   have e:(t.drop (0:Int).toNat).take (((t.length:Int) - 1).toNat - (0:Int).toNat)=t.take (t.length - 1):=by
    rw [show (0:Int).toNat=0 from rfl,List.drop_zero,show ((t.length:Int) - 1).toNat - 0=t.length - 1 by omega]
   rw [e]
   refine ⟨⟨rfl,t.take (t.length - 1),t.getD (t.length - 1) 0::u,rfl,?_,fun c hc'=>?_⟩,?_⟩
   ·rw [hs]
    have:t=t.take (t.length - 1)++[t.getD (t.length - 1) 0]:=by
     conv=>lhs;rw [← List.take_length (l:=t),show t.length=(t.length - 1)+1 by omega,List.take_succ_eq_append_getElem (by omega)]
     rw [List.getD_eq_getElem?_getD,List.getElem?_eq_getElem (by omega)]
     rfl
    conv=>lhs;rw [this]
    simp
   ·rcases List.mem_cons.1 hc' with t' | t'
    ·rw [t'];exact hc
    ·exact hu c t'
   ·rw [z1z,List.length_take];omega
  ·refine ifB.t (by rw [decide_eq_false hc];rfl) ⟨⟨t,u,rfl,hs,hu,.inr hc⟩,rfl⟩
 ·exact ⟨⟨t,u,rfl,hs,hu,.inl (List.eq_nil_of_length_eq_zero (by omega))⟩,rfl⟩
theorem trimLeft_spec {w:World} {g:Nat} {cs:List UInt8} (h:IsSet w g cs) (s:List UInt8) (hl:s.length≤1000000):Ret Tryz.prog 225 #[.string (str s),.pointer (some ⟨g,0,none⟩)] w fun r w'=>
  (∃ t u,r=.string (str t)∧s=u++t∧(∀ c∈u,c∈cs)∧(t=[]∨¬ t.getD 0 0∈cs))∧w=w':=by
 refine c225 _ _ w _ ?_
 refine LoopK.of (fun q w'=>w=w'∧∃ t u,q.1=str t∧s=u++t∧∀ c∈u,c∈cs) (fun q _=>q.1.size) ⟨rfl,s,[],rfl,by simp,by simp⟩ ?_
 rintro _ ⟨q,_⟩ _ ⟨rfl,t,u,hq,hs,hu⟩
 dsimp only at hq ⊢
 subst hq
 have htl:t.length≤s.length:=by rw [hs,List.length_append];omega
 rw [z1z]
 refine ifB.dec (fun hpos=>?_) (fun hz=>?_)
 ·refine strk_ok (by omega) (by omega) ?_
  rw [show (0:Int).toNat=0 from rfl]
  refine CallK.of (contains_spec h _) ?_
  rintro _ _ ⟨rfl,rfl⟩
  refine ⟨_,rfl,?_⟩
  by_cases hc:t.getD 0 0∈cs
  ·refine ifB.f (by rw [decide_eq_true hc];rfl) ?_
   refine subs_ok (by omega) (by omega) (by omega) ?_
   have e:(t.drop (1:Int).toNat).take (((t.length:Nat):Int).toNat - (1:Int).toNat)=t.drop 1:=by
    rw [show (1:Int).toNat=1 from rfl,List.take_of_length_le (by rw [List.length_drop];omega)]
   rw [e]
   refine ⟨⟨rfl,t.drop 1,u++[t.getD 0 0],rfl,?_,fun c hc'=>?_⟩,?_⟩
   ·rw [hs]
    cases t with
    | nil=>simp at hpos
    | cons x t=>simp
   ·rcases List.mem_append.1 hc' with t' | t'
    ·exact hu c t'
    ·simp only [List.mem_singleton] at t';rw [t'];exact hc
   ·rw [z1z,List.length_drop];omega
  ·refine ifB.t (by rw [decide_eq_false hc];rfl) ⟨⟨t,u,rfl,hs,hu,.inr hc⟩,rfl⟩
 ·exact ⟨⟨t,u,rfl,hs,hu,.inl (List.eq_nil_of_length_eq_zero (by omega))⟩,rfl⟩
theorem trim_spec (s cs:List UInt8) (hne:s≠[]) (hcs:∀ c∈cs,c.toNat<128) (h2:2≤cs.length) (hcl:cs.length≤1000) (hl:s.length≤1000000) (w:World):Ret Tryz.prog 219 #[.string (str s),.string (str cs)] w fun r w'=>
  (∃ v,r=.string (str v)∧(v=[]↔∀ c∈s,c∈cs))∧Fr none1 w w':=by
 refine c219 _ _ w _ ?_
 unfold C219
 have e0:(⟨#[]⟩:ByteArray)=str []:=rfl
 rw [e0,str_beq,str_beq]
 refine ifB.no hne (ifB.no (fun t=>by rw [t] at h2;simp at h2) ?_)
 refine JoinK.of (fun q w'=>q.1=false∧w=w') ?_ ?_
 ·refine ifB.f ?_ ⟨rfl,rfl⟩
  rw [z1z,beq_eq_false_iff_ne];omega
 rintro _ ⟨q,_⟩ _ ⟨hq,rfl⟩
 dsimp only at hq
 subst hq
 refine ifB.f rfl ?_
 refine CallK.of (makeSet_spec cs hcs hcl w) ?_
 rintro _ w1 ⟨rfl,f1⟩
 refine ⟨(setA cs,true,()),rfl,?_⟩
 refine NewK.of fun g w2 hg hg2 f2 _=>?_
 have h2':IsSet w2 g []:=hg2
 refine ⟨z53z cs,StsK.blk h2' (by rw [z53z,z53z]) (setA_one cs) fun w3 h3 f3 _=>?_⟩
 have h3:IsSet w3 g cs:=h3
 refine ifB.t rfl ?_
 refine CallK.of (trimRight_spec h3 s hl) ?_
 rintro _ _ ⟨⟨t,u,rfl,hs,hu,ht⟩,rfl⟩
 refine ⟨_,rfl,?_⟩
 have htl:t.length≤s.length:=by rw [hs,List.length_append];omega
 refine CallK.of (trimLeft_spec h3 t (by omega)) ?_
 rintro _ _ ⟨⟨v,u',rfl,ht',hu',hv⟩,rfl⟩
 refine ⟨_,rfl,⟨v,rfl,?_⟩,f1.trans (f2.fresh f3 (by omega))⟩
 constructor
 ·intro hv0 c hc
  rw [hs,ht',hv0,List.append_nil] at hc
  rcases List.mem_append.1 hc with hc | hc
  ·exact hu' c hc
  ·exact hu c hc
 ·intro hall
  rcases hv with hv | hv
  ·exact hv
  ·cases v with
   | nil=>rfl
   | cons x v=>
    refine absurd (hall x ?_) hv
    rw [hs,ht'];simp
def isD (c:UInt8):Bool:=decide (48≤c.toNat)&&decide (c.toNat≤57)
def digsT:List UInt8:=[48,49,50,51,52,53,54,55,56,57]
theorem mem_digsT (c:UInt8):c∈digsT↔isD c=true:=by
 have hc:=UInt8.toNat_lt c
 constructor
 ·intro h
  have h:c=48∨c=49∨c=50∨c=51∨c=52∨c=53∨c=54∨c=55∨c=56∨c=57:=by simpa [digsT] using h
  rcases h with h | h | h | h | h | h | h | h | h | h<;>subst h<;>rfl
 ·intro h
  have h:48≤c.toNat∧c.toNat≤57:=by simpa [isD] using h
  obtain ⟨n,hn⟩:∃ n,c.toNat=n:=⟨_,rfl⟩
  have e:c=UInt8.ofNat n:=by rw [← hn];exact (UInt8.ofNat_toNat).symm
  have:n=48∨n=49∨n=50∨n=51∨n=52∨n=53∨n=54∨n=55∨n=56∨n=57:=by omega
  rcases this with t | t | t | t | t | t | t | t | t | t<;>(rw [t] at e;rw [e];decide)
def valL (d:List UInt8):Int:=d.foldl (fun n c=>n * 10+((c.toNat:Int) - 48)) 0
theorem valL_snoc (d:List UInt8) (c:UInt8):valL (d++[c])=valL d * 10+((c.toNat:Int) - 48):=by unfold valL;rw [List.foldl_append];rfl
theorem foldl_val:∀ (d:List UInt8) (n:Int),0≤n→(∀ c∈d,isD c=true)→0≤d.foldl (fun n c=>n * 10+((c.toNat:Int) - 48)) n∧d.foldl (fun n c=>n * 10+((c.toNat:Int) - 48)) n<(n+1) * ((10 ^ d.length:Nat):Int)
 | [],n,h0,_=>by simp;omega
 | c::d,n,h0,h=>by
  have hc:48≤c.toNat∧c.toNat≤57:=by simpa [isD] using h c (by simp)
  obtain ⟨i1,i2⟩:=foldl_val d (n * 10+((c.toNat:Int) - 48)) (by omega) (fun x hx=>h x (by simp [hx]))
  refine ⟨i1,Int.lt_of_lt_of_le i2 ?_⟩
  have e:(n+1) * ((10 ^ (c::d).length:Nat):Int)=(n * 10+10) * ((10 ^ d.length:Nat):Int):=by
   rw [List.length_cons,Nat.pow_succ,Int.natCast_mul,Int.mul_comm ((10 ^ d.length:Nat):Int),← Int.mul_assoc]
   congr 1
   omega
  rw [e]
  exact Int.mul_le_mul_of_nonneg_right (by omega) (Int.natCast_nonneg _)
theorem z43z (d:List UInt8) (h:∀ c∈d,isD c=true) (hl:d.length≤18):0≤valL d∧valL d<1000000000000000000:=by
 obtain ⟨a,b⟩:=foldl_val d 0 (Int.le_refl _) h
 have:10 ^ d.length≤10 ^ 18:=Nat.pow_le_pow_right (by decide) hl
 unfold valL
 omega
theorem bytes_of {w:World} (s:List UInt8):∃ (v:Sl) (w':World),(convert 9 22 (.string (str s))).run Tryz.prog w=.ok (.slice v.1 v.2.1 v.2.2) w'∧RdSl w' 1 v (s.map fun b=>Value.int .u8 (b.toNat:Int))∧v.2.1=s.length∧Fr none1 w w':=by
 refine ⟨(some ⟨w.heap.size,0,none⟩,(str s).size,_),_,run_bytes_of_string w 9 22 5 (str s) Tryz.underlying9 Tryz.underlying22 Tryz.underlying5,?_,z1z s,?_⟩
 ·refine ⟨by rw [List.length_map,Nat.mul_one];exact (z1z s).symm,(fun t=>nomatch t),fun a ha=>?_⟩
  injection ha with ha
  subst ha
  refine z12z (Array.getElem?_push_size ..) _ 0 fun j hj=>?_
  rw [List.length_map] at hj
  unfold bytesRow
  rw [Nat.zero_add,Array.getElem?_append_left (by unfold str;simpa using hj)]
  unfold str
  simp
 ·exact (drew_fr w).trans (push_fr _ _)
theorem iatoi_spec (s d:List UInt8) (neg:Bool) (hs:s=(if neg then 45::d else d)) (hne:d≠[]) (hd:∀ c∈d,isD c=true) (hl:s.length<19) (w:World) :
  Ret Tryz.prog 229 #[.string (str s)] w fun r w'=>r=.tuple #[.int .i64 (if neg then -(valL d) else valL d),.nilIface]∧Fr none1 w w':=by
 refine c229 _ w _ ?_
 unfold C229
 have hdl:0<d.length:=List.length_pos_iff.2 hne
 have hsl:s.length=d.length+(if neg then 1 else 0):=by rw [hs];cases neg<;>simp
 have hd18:d.length≤18:=by omega
 have h0:0<s.length:=by omega
 have hd0:48≤(d.getD 0 0).toNat∧(d.getD 0 0).toNat≤57:=by
  have:isD (d.getD 0 0)=true:=hd _ (by rw [List.getD_eq_getElem?_getD,List.getElem?_eq_getElem hdl];exact List.getElem_mem _)
  simpa [isD] using this
 have hs0:((s.getD 0 0).toNat=45∧neg=true)∨(48≤(s.getD 0 0).toNat∧(s.getD 0 0).toNat≤57∧neg=false):=by
  rw [hs]
  cases neg with
  | true=>exact .inl ⟨rfl,rfl⟩
  | false=>exact .inr ⟨hd0.1,hd0.2,rfl⟩
 refine JoinK.of (fun q w'=>q.1=true∧w=w') ?_ ?_
 ·rw [z1z]
  refine ifB.yes (by omega) ⟨decide_eq_true (by omega),rfl⟩
 rintro _ ⟨q,_⟩ _ ⟨hq,rfl⟩
 dsimp only at hq
 subst hq
 refine ifB.t rfl ?_
 refine JoinK.of (fun q w'=>q.1=str d∧w=w') ?_ ?_
 ·refine JoinK.of (fun q w'=>q.1=neg∧w=w') ?_ ?_
  ·refine strk_ok (by omega) (by omega) ?_
   rw [show (0:Int).toNat=0 from rfl]
   refine ifB.eq (fun h=>?_) (fun h=>?_)
   ·refine ⟨?_,rfl⟩
    rcases hs0 with ⟨_,hn⟩ | ⟨h1,_,_⟩
    ·exact hn.symm
    ·omega
   ·refine strk_ok (by omega) (by omega) ⟨?_,rfl⟩
    rw [show (0:Int).toNat=0 from rfl]
    rcases hs0 with ⟨h1,_⟩ | ⟨h1,_,hn⟩
    ·omega
    ·rw [hn];simp only [beq_eq_false_iff_ne];omega
  rintro _ ⟨q,_⟩ _ ⟨hq,rfl⟩
  dsimp only at hq
  subst hq
  refine ifB.by (fun hn=>?_) (fun hn=>?_)
  ·subst hn
   refine subs_ok (by omega) (by rw [z1z];omega) (by rw [z1z];omega) ?_
   have e:(s.drop (1:Int).toNat).take (((str s).size:Int).toNat - (1:Int).toNat)=d:=by
    rw [z1z,hs]
    simp
   rw [e,z1z]
   refine ifB.no (by omega) ⟨rfl,rfl⟩
  ·subst hn
   refine ⟨?_,rfl⟩
   show str s=str d
   rw [hs];rfl
 rintro _ ⟨q,_⟩ _ ⟨hq,rfl⟩
 dsimp only at hq
 subst hq
 obtain ⟨v,w1,r1,hv,hvl,f1⟩:=bytes_of (w:=w) d
 refine ⟨v,w1,r1,?_⟩
 refine LoopK.of (fun q w'=>w1=w'∧∃ n:Nat,q.2.1=n∧n≤d.length∧q.1=valL (d.take n)) (fun q _=>d.length - q.2.1.toNat) ⟨rfl,0,rfl,by omega,rfl⟩ ?_
 rintro _ ⟨m,i,_⟩ _ ⟨rfl,n,hn,hnl,hm⟩
 dsimp only at hn hm ⊢
 subst hn;subst hm
 refine ifB.dec (fun hlt=>?_) (fun hge=>?_)
 ·have hmem:d.getD n 0∈d:=by rw [List.getD_eq_getElem?_getD,List.getElem?_eq_getElem (by omega)];exact List.getElem_mem _
  have hc:48≤(d.getD n 0).toNat∧(d.getD n 0).toNat≤57:=by simpa [isD] using hd _ hmem
  refine RdSl.ld hv (by omega) hlt (x:=((d.getD n 0).toNat:Int)) (by rw [Int.toNat_natCast,List.getElem?_map,List.getD_eq_getElem?_getD,List.getElem?_eq_getElem (by omega)];rfl) ?_
  have e1:IntKind.u8.wrap (((d.getD n 0).toNat:Int) - 48)=((d.getD n 0).toNat:Int) - 48:=by rw [IntKind.wrap_u8];omega
  rw [e1]
  refine ifB.no (by omega) ?_
  obtain ⟨b1,b2⟩:=z43z (d.take n) (fun c hc=>hd c (List.mem_of_mem_take hc)) (by rw [List.length_take];omega)
  rw [wI (x:=((d.getD n 0).toNat:Int) - 48) (by omega) (by omega)]
  obtain ⟨b3,b4⟩:=z43z (d.take (n+1)) (fun c hc=>hd c (List.mem_of_mem_take hc)) (by rw [List.length_take];omega)
  have e2:d.take (n+1)=d.take n++[d.getD n 0]:=by
   rw [List.take_succ_eq_append_getElem (by omega),List.getD_eq_getElem?_getD,List.getElem?_eq_getElem (by omega)];rfl
  rw [e2,valL_snoc] at b3 b4
  rw [wI (x:=valL (d.take n) * 10) (by omega) (by omega),wI (x:=valL (d.take n) * 10+(((d.getD n 0).toNat:Int) - 48)) (by omega) (by omega),wI (x:=(n:Int)+1) (by omega) (by omega)]
  refine ⟨⟨rfl,n+1,by omega,by omega,?_⟩,by omega⟩
  rw [e2,valL_snoc]
 ·have:n=d.length:=by omega
  subst this
  rw [List.take_length]
  obtain ⟨b1,b2⟩:=z43z d hd hd18
  refine strk_ok (by omega) (by omega) ?_
  rw [show (0:Int).toNat=0 from rfl]
  rcases hs0 with ⟨h1,hn⟩ | ⟨h1,h2,hn⟩
  ·subst hn
   refine ifB.t (by rw [h1];rfl) ?_
   rw [wI (x:=0 - valL d) (by omega) (by omega),Int.zero_sub]
   exact ⟨rfl,f1⟩
  ·subst hn
   refine ifB.f (by simp only [beq_eq_false_iff_ne];omega) ⟨rfl,f1⟩
theorem nil_ne {t:TypeId} (ht:∃ ms,Tryz.prog.underlying t=some (.interface ms)) (o:Operand) (w:World) :
  (do eqGuard .neq t o (.const .nilIface) .nilIface .nilIface;binOp .neq t .nilIface .nilIface:Sem Value).run Tryz.prog w=.ok (.bool false) w:=by
 obtain ⟨ms,ht⟩:=ht
 have h1:(eqGuard .neq t o (.const .nilIface) .nilIface .nilIface).run Tryz.prog w=.ok () w:=by
  unfold eqGuard
  simp
 rw [Sem.run_bind,h1,Result.andThen_ok]
 have h2:(Op.equalIn (9999+1) t .nilIface .nilIface).run Tryz.prog w=.ok true w:=by
  unfold Op.equalIn
  simp only [Sem.run_bind,under ht,Result.andThen_ok,Sem.run_pure]
 show (do pure (Value.bool (!(← Op.equalIn (9999+1) t .nilIface .nilIface))):Sem Value).run Tryz.prog w=_
 rw [Sem.run_bind,h2]
 rfl
theorem atoi_spec (s d:List UInt8) (neg:Bool) (hs:s=(if neg then 45::d else d)) (hne:d≠[]) (hd:∀ c∈d,isD c=true) (hl:s.length<19) (w:World) :
  Ret Tryz.prog 220 #[.string (str s)] w fun r w'=>r=.tuple #[.int .i64 (if neg then -(valL d) else valL d),.nilIface]∧Fr none1 w w':=by
 refine c220 _ w _ ?_
 refine CallK.of (iatoi_spec s d neg hs hne hd hl w) ?_
 rintro _ w1 ⟨rfl,f1⟩
 refine ⟨(_,.nilIface,()),rfl,?_⟩
 refine ⟨false,w1,nil_ne ⟨_,Tryz.underlying294⟩ _ w1,ifB.f rfl ⟨rfl,f1⟩⟩
def numF (s:List UInt8):Int×Bool:=
 if noMinus s=[]∨13<(noMinus s).length∨(noMinus s).all isD=false∨((noMinus s).getD 0 0=48∧s≠[48]) then (0,false) else
 if 1000000000000<valL (noMinus s) then (0,false) else (if s.take 1=[45] then -(valL (noMinus s)) else valL (noMinus s),true)
theorem number_spec (s : List UInt8) (hl : s.length ≤ 100000) (w : World) : Ret Tryz.prog 213 #[.string (str s)] w fun r w' => r = .tuple #[.int .i64 (numF s).1, .bool (numF s).2] ∧ Fr none1 w w' := by
  refine c213 _ w _ ?_
  unfold C213
  have e0 : (⟨#[]⟩ : ByteArray) = str [] := rfl
  have e45 : (⟨#[45]⟩ : ByteArray) = str [45] := rfl
  have e48 : (⟨#[48]⟩ : ByteArray) = str [48] := rfl
  have ed : (⟨#[48, 49, 50, 51, 52, 53, 54, 55, 56, 57]⟩ : ByteArray) = str digsT := rfl
  rw [e0, e45, e48, ed]
  refine CallK.of (trimPrefix_spec s w) ?_
  rintro _ _ ⟨rfl, rfl⟩
  refine ⟨_, rfl, ?_⟩
  have hdl : (noMinus s).length ≤ s.length := by unfold noMinus; split <;> simp
  refine JoinK.of (fun q w' => q.1 = decide (noMinus s = [] ∨ 13 < (noMinus s).length ∨ (noMinus s).all isD = false ∨ ((noMinus s).getD 0 0 = 48 ∧ s ≠ [48])) ∧ Fr none1 w w') ?_ ?_
  · rw [str_beq]
    refine ifB.dec (fun h => ?_) (fun h => ?_)
    · exact ⟨(decide_eq_true (.inl h)).symm, Fr.refl _ _⟩
    rw [z1z]
    refine ifB.dec (fun h2 => ?_) (fun h2 => ?_)
    · exact ⟨(decide_eq_true (.inr (.inl (by omega)))).symm, Fr.refl _ _⟩
    refine CallK.of (trim_spec (noMinus s) digsT h (by decide) (by decide) (by decide) (by omega) w) ?_
    rintro _ w1 ⟨⟨v, rfl, hv⟩, f1⟩
    refine ⟨_, rfl, ?_⟩
    rw [str_beq]
    have hall : v = [] ↔ (noMinus s).all isD = true := by
      rw [hv, List.all_eq_true]
      exact ⟨fun t c hc => (mem_digsT c).1 (t c hc), fun t c hc => (mem_digsT c).2 (t c hc)⟩
    by_cases hv0 : v = []
    · refine ifB.f (by simp [hv0]) ?_
      have ha := hall.1 hv0
      have hpos : 0 < (noMinus s).length := List.length_pos_iff.2 h
      refine strk_ok (by omega) (by omega) ?_
      rw [show (0 : Int).toNat = 0 from rfl]
      refine ifB.eq (fun h48 => ?_) (fun h48 => ?_)
      · refine ⟨?_, f1⟩
        have h48' : (noMinus s).getD 0 0 = 48 := UInt8.toNat_inj.1 (by have : (48 : UInt8).toNat = 48 := rfl
                                                                       omega)
        rw [str_beq]
        by_cases hs48 : s = [48]
        · rw [decide_eq_true hs48, decide_eq_false]
          · rfl
          · rintro (t | t | t | t)
            · exact h t
            · omega
            · rw [ha] at t; cases t
            · exact t.2 hs48
        · rw [decide_eq_false hs48, decide_eq_true (.inr (.inr (.inr ⟨h48', hs48⟩)))]; rfl
      · refine ⟨?_, f1⟩
        rw [decide_eq_false]
        rintro (t | t | t | t)
        · exact h t
        · omega
        · rw [ha] at t; cases t
        · exact h48 (by rw [t.1]; rfl)
    · refine ifB.t (by simp [hv0]) ⟨?_, f1⟩
      refine (decide_eq_true (.inr (.inr (.inl ?_)))).symm
      have := fun t => hv0 (hall.2 t)
      simpa using this
  rintro _ ⟨q, _⟩ w1 ⟨hq, f1⟩
  dsimp only at hq
  subst hq
  unfold numF
  refine ifB.dec (fun h => ?_) (fun h => ?_)
  · rw [if_pos h]; exact ⟨rfl, f1⟩
  rw [if_neg h]
  have hne : noMinus s ≠ [] := fun t => h (.inl t)
  have h13 : (noMinus s).length ≤ 13 := by
    by_cases t : 13 < (noMinus s).length
    · exact absurd (.inr (.inl t)) h
    · omega
  have hall : ∀ c ∈ noMinus s, isD c = true := by
    have : (noMinus s).all isD = true := by
      cases ha : (noMinus s).all isD with
      | true => rfl
      | false => exact absurd (.inr (.inr (.inl ha))) h
    exact List.all_eq_true.1 this
  have hsn : s = (if decide (s.take 1 = [45]) then 45 :: noMinus s else noMinus s) := by
    unfold noMinus
    by_cases t : s.take 1 = [45]
    · rw [if_pos (decide_eq_true t), if_pos t]
      conv => lhs; rw [← List.take_append_drop 1 s, t]
      rfl
    · rw [if_neg (by simpa using t), if_neg t]
  have hsl : s.length ≤ 14 := by
    rw [hsn]
    split
    · simp only [List.length_cons]; omega
    · omega
  obtain ⟨b1, b2⟩ := z43z (noMinus s) hall (by omega)
  by_cases hn : s.take 1 = [45]
  · rw [if_pos (decide_eq_true hn)] at hsn
    rw [if_pos hn]
    refine CallK.of (atoi_spec s (noMinus s) true hsn hne hall (by omega) w1) ?_
    rintro _ w2 ⟨rfl, f2⟩
    refine ⟨(-(valL (noMinus s)), .nilIface, ()), rfl, ?_⟩
    refine ⟨false, w2, nil_ne ⟨_, Tryz.underlying294⟩ _ w2, ifB.f rfl ?_⟩
    have f12 := f1.trans f2
    refine ifB.dec (fun h1 => ?_) (fun h1 => ?_)
    · rw [if_pos (by omega)]; exact ⟨rfl, f12⟩
    · rw [if_neg (by omega)]
      refine ifB.no (by omega) ⟨rfl, f12⟩
  · rw [if_neg (by simpa using hn)] at hsn
    rw [if_neg hn]
    refine CallK.of (atoi_spec s (noMinus s) false hsn hne hall (by omega) w1) ?_
    rintro _ w2 ⟨rfl, f2⟩
    refine ⟨(valL (noMinus s), .nilIface, ()), rfl, ?_⟩
    refine ⟨false, w2, nil_ne ⟨_, Tryz.underlying294⟩ _ w2, ifB.f rfl ?_⟩
    have f12 := f1.trans f2
    refine ifB.no (by omega) ?_
    refine ifB.dec (fun h1 => ?_) (fun h1 => ?_)
    · rw [if_pos (by omega)]; exact ⟨rfl, f12⟩
    · rw [if_neg (by omega)]; exact ⟨rfl, f12⟩
theorem ddec_lo {n:Nat} (h:n<10):Lib.decDigits n=[UInt8.ofNat (48+n)]:=Lib.decDigits_one h
theorem ddec_hi {n:Nat} (h:¬ n<10):Lib.decDigits n=Lib.decDigits (n / 10)++[UInt8.ofNat (48+n % 10)]:=by rw [Lib.decDigits,dif_neg h]
theorem isD_dig {k:Nat} (h:k<10):isD (UInt8.ofNat (48+k))=true:=by
 unfold isD
 rw [u8_of (by omega),decide_eq_true (by omega),decide_eq_true (by omega)];rfl
theorem isD_rg {c:UInt8} (h:isD c=true):48≤c.toNat∧c.toNat≤57:=by
 unfold isD at h
 simp only [Bool.and_eq_true,decide_eq_true_eq] at h
 exact h
theorem dec_ok:∀ n:Nat,Lib.decDigits n≠[]∧(∀ c∈Lib.decDigits n,isD c=true)∧valL (Lib.decDigits n)=n∧((Lib.decDigits n).getD 0 0=48→n=0)∧(∀ k:Nat,1≤k→n<10 ^ k→(Lib.decDigits n).length≤k):=by
 intro n
 induction n using Nat.strongRecOn with
 | _ n ih=>
  by_cases h:n<10
  ·rw [ddec_lo h]
   refine ⟨by simp,fun c hc=>?_,?_,fun t=>?_,fun k hk _=>by simpa using hk⟩
   ·simp only [List.mem_singleton] at hc;rw [hc];exact isD_dig h
   ·show (0:Int) * 10+(((UInt8.ofNat (48+n)).toNat:Int) - 48)=n
    rw [u8_of (by omega)];omega
   ·have t:UInt8.ofNat (48+n)=48:=t
    have:=congrArg UInt8.toNat t
    rw [u8_of (by omega)] at this
    have e:(48:UInt8).toNat=48:=rfl
    omega
  ·obtain ⟨i1,i2,i3,i4,i5⟩:=ih (n / 10) (by omega)
   rw [ddec_hi h]
   refine ⟨by simp,fun c hc=>?_,?_,fun t=>?_,fun k hk hlt=>?_⟩
   ·rcases List.mem_append.1 hc with hc | hc
    ·exact i2 c hc
    ·simp only [List.mem_singleton] at hc;rw [hc];exact isD_dig (by omega)
   ·rw [valL_snoc,i3,u8_of (by omega)];omega
   ·have hp:0<(Lib.decDigits (n / 10)).length:=List.length_pos_iff.2 i1
    rw [List.getD_eq_getElem?_getD,List.getElem?_append_left hp,← List.getD_eq_getElem?_getD] at t
    have:=i4 t
    omega
   ·obtain ⟨k',rfl⟩:∃ k',k=k'+1:=⟨k - 1,by omega⟩
    have hk1:1≤k':=by
     cases k' with
     | zero=>simp at hlt;omega
     | succ k'=>omega
    have hlt':n / 10<10 ^ k':=by rw [Nat.pow_succ] at hlt;omega
    have:=i5 k' hk1 hlt'
    simp only [List.length_append,List.length_singleton]
    omega
theorem dec_13 {n:Nat} (h:n≤1000000000000):(Lib.decDigits n).length≤13:=(dec_ok n).2.2.2.2 13 (by omega) (by omega)
theorem nm_minus1 (s:List UInt8):noMinus (45::s)=s:=by unfold noMinus;rw [if_pos (by simp)];rfl
theorem nm_digits {s:List UInt8} (h:∀ c∈s,isD c=true):noMinus s=s∧s.take 1≠[45]:=by
 have ht:s.take 1≠[45]:=fun t=>by
  cases s with
  | nil=>simp at t
  | cons c l=>
   have hc:=h c (by simp)
   simp at t
   rw [t] at hc
   exact absurd hc (by decide)
 exact ⟨by unfold noMinus;rw [if_neg ht],ht⟩
theorem numF_dec {n:Nat} (h:n≤1000000000000):numF (Lib.decDigits n)=((n:Int),true):=by
 obtain ⟨hne,hd,hv,h0,_⟩:=dec_ok n
 have h13:=dec_13 h
 obtain ⟨hnm,ht1⟩:=nm_digits hd
 unfold numF
 rw [hnm,if_neg,hv,if_neg (by omega),if_neg ht1]
 rintro (t | t | t | t)
 ·exact hne t
 ·omega
 ·rw [List.all_eq_true.2 hd] at t;cases t
 ·have:=h0 t.1
  subst this
  exact t.2 (by rw [ddec_lo (by omega)];rfl)
theorem numF_mdec {n:Nat} (h:n≤1000000000000) (hn:n≠0):numF (45::Lib.decDigits n)=(-(n:Int),true):=by
 obtain ⟨hne,hd,hv,h0,_⟩:=dec_ok n
 have h13:=dec_13 h
 unfold numF
 rw [nm_minus1,if_neg,hv,if_neg (by omega),if_pos (by simp)]
 rintro (t | t | t | t)
 ·exact hne t
 ·omega
 ·rw [List.all_eq_true.2 hd] at t;cases t
 ·exact hn (h0 t.1)
theorem numF_itoa {n:Int} (h0:-1000000000000≤n) (h1:n≤1000000000000):numF (Lib.itoa n)=(n,true):=by
 unfold Lib.itoa
 by_cases h:n<0
 ·rw [if_pos h,numF_mdec (by omega) (by omega)]
  congr 1;omega
 ·rw [if_neg h,numF_dec (by omega)]
  congr 1;omega
theorem snoc_rec {α:Type} {Q:List α→Prop} (h0:Q []) (h1:∀ l a,Q l→Q (l++[a])) (l:List α):Q l:=by
 have:∀ r:List α,Q r.reverse:=fun r=>by
  induction r with
  | nil=>exact h0
  | cons a r ih=>rw [List.reverse_cons];exact h1 _ _ ih
 have:=this l.reverse
 rwa [List.reverse_reverse] at this
theorem valL_nonneg (d:List UInt8) (h:∀ c∈d,isD c=true):0≤valL d:=(foldl_val d 0 (by omega) h).1
theorem dec_valL:∀ d:List UInt8,d≠[]→(∀ c∈d,isD c=true)→(d.getD 0 0=48→d=[48])→Lib.decDigits (valL d).toNat=d∧(d≠[48]→1≤valL d):=by
 intro d
 induction d using snoc_rec with
 | h0=>intro h;exact absurd rfl h
 | h1 e c ih=>
  intro _ hd hz
  have hc:=isD_rg (hd c (by simp))
  have hv:=valL_snoc e c
  have hcc:UInt8.ofNat (48+(c.toNat - 48))=c:=by rw [show 48+(c.toNat - 48)=c.toNat by omega];exact UInt8.ofNat_toNat
  by_cases he:e=[]
  ·subst he
   have hv0:valL []=0:=rfl
   rw [List.nil_append] at *
   have:valL [c]=(c.toNat:Int) - 48:=by rw [hv,hv0];omega
   rw [this]
   refine ⟨?_,fun hne=>?_⟩
   ·rw [show ((c.toNat:Int) - 48).toNat=c.toNat - 48 by omega,ddec_lo (by omega),hcc]
   ·have:c≠48:=fun t=>hne (by rw [t])
    have:c.toNat≠48:=fun t=>this (by rw [← UInt8.toNat_inj];exact t)
    omega
  ·have hp:0<e.length:=List.length_pos_iff.2 he
   have hg:(e++[c]).getD 0 0=e.getD 0 0:=by rw [List.getD_eq_getElem?_getD,List.getElem?_append_left hp,← List.getD_eq_getElem?_getD]
   have hn48:e.getD 0 0≠48:=fun t=>by
    have:=hz (hg.trans t)
    have:=congrArg List.length this
    rw [List.length_append,List.length_singleton,List.length_singleton] at this
    omega
   obtain ⟨i1,i2⟩:=ih he (fun c hc=>hd c (by simp [hc])) (fun t=>absurd t hn48)
   have hv1:=i2 (fun t=>hn48 (by rw [t];rfl))
   rw [hv]
   refine ⟨?_,fun _=>by omega⟩
   rw [ddec_hi (n:=(valL e * 10+((c.toNat:Int) - 48)).toNat) (by omega),show (valL e * 10+((c.toNat:Int) - 48)).toNat / 10=(valL e).toNat by omega,i1,show (valL e * 10+((c.toNat:Int) - 48)).toNat % 10=c.toNat - 48 by omega,hcc]
theorem numF_inv {s:List UInt8} (h:(numF s).2=true):s=Lib.itoa (numF s).1∧-1000000000000≤(numF s).1∧(numF s).1≤1000000000000:=by
 unfold numF at h ⊢
 split at h
 ·cases h
 rename_i hc
 split at h
 ·cases h
 rename_i hb
 rw [if_neg hc,if_neg hb]
 simp only [not_or] at hc
 obtain ⟨h1,h2,h3,h4⟩:=hc
 have hd:∀ c∈noMinus s,isD c=true:=by
  have:(noMinus s).all isD=true:=by cases h:(noMinus s).all isD;exact absurd h h3;rfl
  exact List.all_eq_true.1 this
 have hn:=valL_nonneg _ hd
 by_cases hm:s.take 1=[45]
 ·have hs:s=45::noMinus s:=by
   unfold noMinus
   rw [if_pos hm]
   cases s with
   | nil=>simp at hm
   | cons c l=>simp at hm;subst hm;rfl
  have hz:(noMinus s).getD 0 0≠48:=fun t=>h4 ⟨t,fun e=>by rw [e] at hm;simp at hm⟩
  obtain ⟨i1,i2⟩:=dec_valL _ h1 hd (fun t=>absurd t hz)
  have:=i2 (fun t=>hz (by rw [t];rfl))
  rw [if_pos hm]
  refine ⟨?_,by dsimp only;omega,by dsimp only;omega⟩
  dsimp only
  unfold Lib.itoa
  rw [if_pos (by omega),show (-valL (noMinus s)).natAbs=(valL (noMinus s)).toNat by omega,i1]
  exact hs
 ·have hs:noMinus s=s:=by unfold noMinus;rw [if_neg hm]
  rw [if_neg hm]
  rw [hs] at h1 h2 h3 h4 hb hn hd ⊢
  obtain ⟨i1,i2⟩:=dec_valL s h1 hd (fun t=>by
   by_cases e:s=[48]
   ·exact e
   ·exact absurd ⟨t,e⟩ h4)
  refine ⟨?_,by dsimp only;omega,by dsimp only;omega⟩
  dsimp only
  unfold Lib.itoa
  rw [if_neg (by omega),i1]
structure RS where
 l:List SignV
 at_:Int
 e:Int
def placeF (fin:Int) (s:RS):Int:=match s.l with | x::_=>x.2 | []=>fin
def failF (fin c:Int) (s:RS):RS:=if s.e=0 then ⟨s.l,placeF fin s,c⟩ else s
def takeF (fin:Int) (right:List UInt8→Bool) (s:RS):List UInt8×RS:=
 if s.e=0 then match s.l with
  | []=>([],⟨[],fin,2⟩)
  | x::l=>if right x.1=true then (x.1,⟨l,s.at_,0⟩) else ([],⟨x::l,x.2,2⟩)
 else ([],s)
def mustF (fin:Int) (x:List UInt8) (s:RS):RS:=(takeF fin (fun y=>decide (y=x)) s).2
def wordF' (x:List UInt8):Bool:=(numF x).2||(x==[102,105,120]||(x==[97,100,100]||(x==[110,101,103]||(x==[109,117,108]||x==[109,97,120]))))
def beginsF (x:List UInt8):Bool:=x==[122,101,114,111]||(x==[111,110,101]||(x==[103,105,118,101]||(x==[97,110,100]||(x==[111,114]||(x==[115,99,97,108,101]||(x==[119,104,101,110]||x==[105,102]))))))
def dayF (x:List UInt8):Bool:=(numF x).2&&(decide (0≤(numF x).1)&&decide ((numF x).1≤10000))
def pairF (fin:Int) (rec:RS→Ob×RS) (s:RS):Ob×Ob×RS:=
 ((rec (mustF fin [40] s)).1,(rec (mustF fin [44] (rec (mustF fin [40] s)).2)).1,mustF fin [41] (rec (mustF fin [44] (rec (mustF fin [40] s)).2)).2)
def numK (fin:Int) (rec:RS→Ob×RS) (x:List UInt8) (s:RS):Ob×RS:=
 if x=[102,105,120] then (.fix (takeF fin nameL (mustF fin [40] s)).1,mustF fin [41] (takeF fin nameL (mustF fin [40] s)).2)
 else if x=[110,101,103] then (.neg (rec (mustF fin [40] s)).1,mustF fin [41] (rec (mustF fin [40] s)).2)
 else if x=[97,100,100] then (.add (pairF fin rec s).1 (pairF fin rec s).2.1,(pairF fin rec s).2.2)
 else if x=[109,117,108] then (.mul (pairF fin rec s).1 (pairF fin rec s).2.1,(pairF fin rec s).2.2)
 else if x=[109,97,120] then (.max (pairF fin rec s).1 (pairF fin rec s).2.1,(pairF fin rec s).2.2)
 else (.const (numF x).1,s)
def numR (fin:Int):Nat→RS→Ob×RS
 | 0,s=>(.none,failF fin 5 s)
 | n+1,s=>if s.e≠0 then (.none,s) else if (takeF fin wordF' s).1=[] then (.none,(takeF fin wordF' s).2) else numK fin (numR fin n) (takeF fin wordF' s).1 (takeF fin wordF' s).2
def oneF (fin:Int) (rec:RS→Tm×RS) (s:RS):Tm×RS:=((rec s).1,mustF fin [41] (rec s).2)
def bothF (fin:Int) (rec:RS→Tm×RS) (s:RS):Tm×Tm×RS:=((rec s).1,(rec (mustF fin [44] (rec s).2)).1,mustF fin [41] (rec (mustF fin [44] (rec s).2)).2)
def conK (fin:Int) (num:RS→Ob×RS) (rec:RS→Tm×RS) (x:List UInt8) (s:RS):Tm×RS:=
 if x=[111,110,101] then (.one (takeF fin nameL s).1,mustF fin [41] (takeF fin nameL s).2)
 else if x=[103,105,118,101] then (.give (oneF fin rec s).1,(oneF fin rec s).2)
 else if x=[97,110,100] then (.and (bothF fin rec s).1 (bothF fin rec s).2.1,(bothF fin rec s).2.2)
 else if x=[111,114] then
  (.or (takeF fin nameL s).1 (bothF fin rec (mustF fin [44] (takeF fin nameL s).2)).1 (bothF fin rec (mustF fin [44] (takeF fin nameL s).2)).2.1,(bothF fin rec (mustF fin [44] (takeF fin nameL s).2)).2.2)
 else if x=[115,99,97,108,101] then (.scale (num s).1 (oneF fin rec (mustF fin [44] (num s).2)).1,(oneF fin rec (mustF fin [44] (num s).2)).2)
 else if x=[119,104,101,110] then
  (.when (numF (takeF fin dayF s).1).1 (oneF fin rec (mustF fin [44] (takeF fin dayF s).2)).1,(oneF fin rec (mustF fin [44] (takeF fin dayF s).2)).2)
 else (.cond (num s).1 (bothF fin rec (mustF fin [44] (num s).2)).1 (bothF fin rec (mustF fin [44] (num s).2)).2.1,(bothF fin rec (mustF fin [44] (num s).2)).2.2)
def conR (fin:Int):Nat→RS→Tm×RS
 | 0,s=>(.none,failF fin 5 s)
 | n+1,s=>if s.e≠0 then (.none,s) else if (takeF fin beginsF s).1=[] then (.zero,(takeF fin beginsF s).2) else if (takeF fin beginsF s).1=[122,101,114,111] then (.zero,(takeF fin beginsF s).2)
   else conK fin (numR fin n) (conR fin n) (takeF fin beginsF s).1 (mustF fin [40] (takeF fin beginsF s).2)
def doneF (fin:Int) (s:RS):RS:=match s.l with | []=>s | _::_=>failF fin 2 s
def endF (bs:List UInt8):Int:=((runesL bs).length:Int)+1
def beginF (bs:List UInt8):RS:=if 1000<bs.length then ⟨[],0,5⟩ else if 0<(sgF [] 0 false (runesL bs)).2 then ⟨(sgF [] 0 false (runesL bs)).1,(sgF [] 0 false (runesL bs)).2,2⟩ else ⟨(sgF [] 0 false (runesL bs)).1,0,0⟩
def conS (bs:List UInt8):RS:=doneF (endF bs) (conR (endF bs) 12 (beginF bs)).2
def readT (bs:List UInt8):Tm×Int×Int:=
 if (conS bs).e≠0 then (.none,(conS bs).at_,(conS bs).e) else if checkT (conR (endF bs) 12 (beginF bs)).1≠0 then (.none,(conS bs).at_,checkT (conR (endF bs) 12 (beginF bs)).1) else ((conR (endF bs) 12 (beginF bs)).1,0,0)
theorem takeF_hit {fin:Int} {right:List UInt8→Bool} {x:SignV} {l:List SignV} {a:Int} (h:right x.1=true):takeF fin right ⟨x::l,a,0⟩=(x.1,⟨l,a,0⟩):=by
 unfold takeF;simp [h]
theorem z57z {fin:Int} {right:List UInt8→Bool} {x:SignV} {l:List SignV} {a:Int} (h:¬ right x.1=true):takeF fin right ⟨x::l,a,0⟩=([],⟨x::l,x.2,2⟩):=by
 unfold takeF;simp [h]
theorem takeF_nil {fin:Int} {right:List UInt8→Bool} {a:Int}:takeF fin right ⟨[],a,0⟩=([],⟨[],fin,2⟩):=by
 unfold takeF;simp
theorem takeF_err {fin:Int} {right:List UInt8→Bool} {s:RS} (h:s.e≠0):takeF fin right s=([],s):=by
 unfold takeF;rw [if_neg h]
theorem mustF_err {fin:Int} {x:List UInt8} {s:RS} (h:s.e≠0):mustF fin x s=s:=by unfold mustF;rw [takeF_err h]
theorem z48z {fin c:Int} {s:RS} (h:s.e≠0):failF fin c s=s:=by unfold failF;rw [if_neg h]
structure Ate (s:RS) (ts:List (List UInt8)) (s':RS):Prop where
 e:s.e=0
 e':s'.e=0
 at_:s'.at_=s.at_
 eat:∃ xs:List SignV,s.l=xs++s'.l∧xs.map Prod.fst=ts
theorem Ate.trans {s s1 s2:RS} {a b:List (List UInt8)} (h:Ate s a s1) (k:Ate s1 b s2):Ate s (a++b) s2:=by
 obtain ⟨xs,hx,hxs⟩:=h.eat
 obtain ⟨ys,hy,hys⟩:=k.eat
 exact ⟨h.e,k.e',k.at_.trans h.at_,xs++ys,by rw [hx,hy,List.append_assoc],by rw [List.map_append,hxs,hys]⟩
theorem Ate.nil {s s':RS} (h:Ate s [] s'):s=s':=by
 obtain ⟨xs,hx,hxs⟩:=h.eat
 have:xs=[]:=by simpa using hxs
 subst this
 rcases s with ⟨l,a,e⟩
 rcases s' with ⟨l',a',e'⟩
 have h1:=h.e;have h2:=h.e';have h3:=h.at_
 dsimp only at h1 h2 h3 hx
 subst h1 h2 h3
 rw [List.nil_append] at hx
 rw [hx]
theorem Ate.split {s s':RS} {a b:List (List UInt8)} (h:Ate s (a++b) s'):∃ s1,Ate s a s1∧Ate s1 b s':=by
 obtain ⟨xs,hx,hxs⟩:=h.eat
 obtain ⟨ys,zs,rfl,hy,hz⟩:=List.map_eq_append_iff.1 hxs
 exact ⟨⟨zs++s'.l,s.at_,0⟩,⟨h.e,rfl,rfl,ys,by rw [hx,List.append_assoc],hy⟩,⟨rfl,h.e',h.at_,zs,rfl,hz⟩⟩
theorem Ate.head {s s':RS} {t:List UInt8} {ts:List (List UInt8)} (h:Ate s (t::ts) s'):∃ (x:SignV) (l:List SignV),s=⟨x::l,s.at_,0⟩∧x.1=t∧Ate ⟨l,s.at_,0⟩ ts s':=by
 obtain ⟨xs,hx,hxs⟩:=h.eat
 cases xs with
 | nil=>simp at hxs
 | cons x xs=>
  simp only [List.map_cons,List.cons.injEq] at hxs
  refine ⟨x,xs++s'.l,?_,hxs.1,rfl,h.e',h.at_,xs,rfl,hxs.2⟩
  rcases s with ⟨l,a,e⟩
  have h1:=h.e
  dsimp only at h1 hx ⊢
  rw [h1,hx];rfl
theorem z50z {fin:Int} {right:List UInt8→Bool} {s:RS} (h:(takeF fin right s).2.e=0):Ate s [(takeF fin right s).1] (takeF fin right s).2∧right (takeF fin right s).1=true:=by
 rcases s with ⟨l,a,e⟩
 by_cases he:e=0
 ·subst he
  cases l with
  | nil=>rw [takeF_nil] at h;exact absurd (show (2:Int)=0 from h) (by decide)
  | cons x l=>
   by_cases hr:right x.1=true
   ·rw [takeF_hit hr];exact ⟨⟨rfl,rfl,rfl,[x],rfl,rfl⟩,hr⟩
   ·rw [z57z hr] at h;exact absurd (show (2:Int)=0 from h) (by decide)
 ·rw [takeF_err he] at h;exact absurd h he
theorem z16z {fin:Int} {x:List UInt8} {s:RS} (h:(mustF fin x s).e=0):Ate s [x] (mustF fin x s):=by
 obtain ⟨h1,h2⟩:=z50z (fin:=fin) (right:=fun y=>decide (y=x)) h
 have h2:=of_decide_eq_true h2
 rw [h2] at h1
 exact h1
theorem take_of {fin:Int} {right:List UInt8→Bool} {s s':RS} {t:List UInt8} {ts:List (List UInt8)} (hr:right t=true) (h:Ate s (t::ts) s'):∃ s1,takeF fin right s=(t,s1)∧Ate s1 ts s':=by
 obtain ⟨x,l,hs,hx,ha⟩:=h.head
 refine ⟨_,?_,ha⟩
 rw [hs,takeF_hit (by rw [hx];exact hr),hx]
theorem must_of {fin:Int} {s s':RS} {t:List UInt8} {ts:List (List UInt8)} (h:Ate s (t::ts) s'):∃ s1,mustF fin t s=s1∧Ate s1 ts s':=by
 obtain ⟨s1,h1,h2⟩:=take_of (fin:=fin) (right:=fun y=>decide (y=t)) (by simp) h
 exact ⟨s1,by unfold mustF;rw [h1],h2⟩
theorem numR_err (fin:Int):∀ (n:Nat) (s:RS),s.e≠0→(numR fin n s).2=s
 | 0,s,h=>z48z h
 | n+1,s,h=>by unfold numR;rw [if_pos h]
theorem z41z (fin:Int):∀ (n:Nat) (s:RS),s.e≠0→(conR fin n s).2=s
 | 0,s,h=>z48z h
 | n+1,s,h=>by unfold conR;rw [if_pos h]
def toksO:Ob→List (List UInt8)
 | .none=>[]
 | .const n=>[Lib.itoa n]
 | .fix s=>[102,105,120]::[40]::s::[[41]]
 | .neg o=>[110,101,103]::[40]::(toksO o++[[41]])
 | .add l r=>[97,100,100]::[40]::(toksO l++([44]::(toksO r++[[41]])))
 | .mul l r=>[109,117,108]::[40]::(toksO l++([44]::(toksO r++[[41]])))
 | .max l r=>[109,97,120]::[40]::(toksO l++([44]::(toksO r++[[41]])))
def toksT:Tm→List (List UInt8)
 | .none=>[]
 | .zero=>[[122,101,114,111]]
 | .one s=>[111,110,101]::[40]::s::[[41]]
 | .give t=>[103,105,118,101]::[40]::(toksT t++[[41]])
 | .and l r=>[97,110,100]::[40]::(toksT l++([44]::(toksT r++[[41]])))
 | .or s l r=>[111,114]::[40]::s::[44]::(toksT l++([44]::(toksT r++[[41]])))
 | .scale o t=>[115,99,97,108,101]::[40]::(toksO o++([44]::(toksT t++[[41]])))
 | .when d t=>[119,104,101,110]::[40]::Lib.itoa d::[44]::(toksT t++[[41]])
 | .cond o l r=>[105,102]::[40]::(toksO o++([44]::(toksT l++([44]::(toksT r++[[41]])))))
theorem word_cases {x:List UInt8} (h:wordF' x=true):x=[102,105,120]∨x=[97,100,100]∨x=[110,101,103]∨x=[109,117,108]∨x=[109,97,120]∨(numF x).2=true:=by
 unfold wordF' at h
 simp only [Bool.or_eq_true,beq_iff_eq] at h
 rcases h with h | h | h | h | h | h<;>simp [h]
theorem word_num {x:List UInt8} (h:(numF x).2=true):x≠[]∧x≠[102,105,120]∧x≠[110,101,103]∧x≠[97,100,100]∧x≠[109,117,108]∧x≠[109,97,120]:=by
 refine ⟨?_,?_,?_,?_,?_,?_⟩<;>(rintro rfl;exact absurd h (by decide +kernel))
theorem begins_cases {x:List UInt8} (h:beginsF x=true):x=[122,101,114,111]∨x=[111,110,101]∨x=[103,105,118,101]∨x=[97,110,100]∨x=[111,114]∨x=[115,99,97,108,101]∨x=[119,104,101,110]∨x=[105,102]:=by
 unfold beginsF at h
 simpa only [Bool.or_eq_true,beq_iff_eq] using h
theorem day_cases {x:List UInt8} (h:dayF x=true):(numF x).2=true∧0≤(numF x).1∧(numF x).1≤10000:=by
 unfold dayF at h
 simpa only [Bool.and_eq_true,decide_eq_true_eq] using h
def GoodO (n:Nat) (rec:RS→Ob×RS):Prop:=∀ s,(rec s).2.e=0→Ate s (toksO (rec s).1) (rec s).2∧formO (rec s).1=true∧depthO (rec s).1≤n
def GoodT (n:Nat) (rec:RS→Tm×RS):Prop:=∀ s,(rec s).2.e=0→Ate s (toksT (rec s).1) (rec s).2∧formT (rec s).1=true∧depthT (rec s).1≤n
theorem pair_inv {fin:Int} {n:Nat} {rec:RS→Ob×RS} (hr:GoodO n rec) {s:RS} (h:(pairF fin rec s).2.2.e=0) :
  Ate s ([40]::(toksO (pairF fin rec s).1++([44]::(toksO (pairF fin rec s).2.1++[[41]])))) (pairF fin rec s).2.2∧(formO (pairF fin rec s).1=true∧depthO (pairF fin rec s).1≤n)∧formO (pairF fin rec s).2.1=true∧depthO (pairF fin rec s).2.1≤n:=by
 unfold pairF at h ⊢
 dsimp only at h ⊢
 have h5:=z16z h
 have h4:=hr _ h5.e
 have h3:=z16z h4.1.e
 have h2:=hr _ h3.e
 have h1:=z16z h2.1.e
 have:=h1.trans (h2.1.trans (h3.trans (h4.1.trans h5)))
 exact ⟨by simpa using this,h2.2,h4.2⟩
theorem numR_inv (fin:Int):∀ n,GoodO n (numR fin n)
 | 0,s,h=>by
  exfalso
  by_cases he:s.e=0
  ·have:(numR fin 0 s).2.e=5:=by show (failF fin 5 s).e=5;unfold failF;rw [if_pos he]
   rw [this] at h;exact absurd h (by decide)
  ·rw [numR_err fin 0 s he] at h;exact he h
 | n+1,s,h=>by
  have ih:=numR_inv fin n
  have he:s.e=0:=by
   refine Classical.byContradiction fun he=>?_
   rw [numR_err fin (n+1) s he] at h;exact he h
  unfold numR at h ⊢
  rw [if_neg (by simpa using he)] at h ⊢
  by_cases hnil:(takeF fin wordF' s).1=[]
  ·rw [if_pos hnil] at h
   have:=(z50z h).2
   rw [hnil] at this
   exact absurd this (by decide +kernel)
  rw [if_neg hnil] at h ⊢
  have step:∀ {o:Ob} {u:List (List UInt8)} {s':RS},Ate (takeF fin wordF' s).2 u s'→Ate s ((takeF fin wordF' s).1::u) s'∧wordF' (takeF fin wordF' s).1=true:=fun ha=>by
   have t:=z50z (fin:=fin) (right:=wordF') (s:=s) ha.e
   exact ⟨t.1.trans ha,t.2⟩
  generalize hx:(takeF fin wordF' s).1=x at h hnil step ⊢
  generalize hs1:(takeF fin wordF' s).2=s1 at h step ⊢
  unfold numK at h ⊢
  by_cases c1:x=[102,105,120]
  ·rw [if_pos c1] at h ⊢
   dsimp only at h ⊢
   have h3:=z16z h
   have h2:=z50z h3.e
   have h1:=z16z h2.1.e
   have:=h1.trans (h2.1.trans h3)
   refine ⟨by have:=(step (o:=.none) this).1;rw [c1] at this;simpa [toksO] using this,h2.2,by unfold depthO;omega⟩
  rw [if_neg c1] at h ⊢
  by_cases c2:x=[110,101,103]
  ·rw [if_pos c2] at h ⊢
   dsimp only at h ⊢
   have h3:=z16z h
   have h2:=ih _ h3.e
   have h1:=z16z h2.1.e
   have:=h1.trans (h2.1.trans h3)
   refine ⟨by have:=(step (o:=.none) this).1;rw [c2] at this;simpa [toksO] using this,h2.2.1,by unfold depthO;have:=h2.2.2;omega⟩
  rw [if_neg c2] at h ⊢
  by_cases c3:x=[97,100,100]
  ·rw [if_pos c3] at h ⊢
   dsimp only at h ⊢
   have hp:=pair_inv ih h
   refine ⟨by have:=(step (o:=.none) hp.1).1;rw [c3] at this;exact this,by unfold formO;rw [hp.2.1.1,hp.2.2.1];rfl,by unfold depthO;have:=hp.2.1.2;have:=hp.2.2.2;omega⟩
  rw [if_neg c3] at h ⊢
  by_cases c4:x=[109,117,108]
  ·rw [if_pos c4] at h ⊢
   dsimp only at h ⊢
   have hp:=pair_inv ih h
   refine ⟨by have:=(step (o:=.none) hp.1).1;rw [c4] at this;exact this,by unfold formO;rw [hp.2.1.1,hp.2.2.1];rfl,by unfold depthO;have:=hp.2.1.2;have:=hp.2.2.2;omega⟩
  rw [if_neg c4] at h ⊢
  by_cases c5:x=[109,97,120]
  ·rw [if_pos c5] at h ⊢
   dsimp only at h ⊢
   have hp:=pair_inv ih h
   refine ⟨by have:=(step (o:=.none) hp.1).1;rw [c5] at this;exact this,by unfold formO;rw [hp.2.1.1,hp.2.2.1];rfl,by unfold depthO;have:=hp.2.1.2;have:=hp.2.2.2;omega⟩
  rw [if_neg c5] at h ⊢
  dsimp only at h ⊢
  have h1:=step (o:=.none) (u:=[]) (s':=s1) ⟨h,h,rfl,[],rfl,rfl⟩
  rcases word_cases h1.2 with t | t | t | t | t | t
  ·exact absurd t c1
  ·exact absurd t c3
  ·exact absurd t c2
  ·exact absurd t c4
  ·exact absurd t c5
  ·have hi:=numF_inv t
   refine ⟨?_,?_,by unfold depthO;omega⟩
   ·unfold toksO
    rw [← hi.1];exact h1.1
   ·unfold formO validF
    rw [decide_eq_true hi.2.1,decide_eq_true hi.2.2];rfl
theorem one_inv {fin:Int} {n:Nat} {rec:RS→Tm×RS} (hr:GoodT n rec) {s:RS} (h:(oneF fin rec s).2.e=0) :
  Ate s (toksT (oneF fin rec s).1++[[41]]) (oneF fin rec s).2∧formT (oneF fin rec s).1=true∧depthT (oneF fin rec s).1≤n:=by
 unfold oneF at h ⊢
 dsimp only at h ⊢
 have h5:=z16z h
 have h4:=hr _ h5.e
 exact ⟨h4.1.trans h5,h4.2⟩
theorem both_inv {fin:Int} {n:Nat} {rec:RS→Tm×RS} (hr:GoodT n rec) {s:RS} (h:(bothF fin rec s).2.2.e=0) :
  Ate s (toksT (bothF fin rec s).1++([44]::(toksT (bothF fin rec s).2.1++[[41]]))) (bothF fin rec s).2.2∧(formT (bothF fin rec s).1=true∧depthT (bothF fin rec s).1≤n)∧formT (bothF fin rec s).2.1=true∧depthT (bothF fin rec s).2.1≤n:=by
 unfold bothF at h ⊢
 dsimp only at h ⊢
 have h5:=z16z h
 have h4:=hr _ h5.e
 have h3:=z16z h4.1.e
 have h2:=hr _ h3.e
 have:=h2.1.trans (h3.trans (h4.1.trans h5))
 exact ⟨by simpa using this,h2.2,h4.2⟩
theorem conR_inv (fin:Int):∀ n,GoodT n (conR fin n)
 | 0,s,h=>by
  exfalso
  by_cases he:s.e=0
  ·have:(conR fin 0 s).2.e=5:=by show (failF fin 5 s).e=5;unfold failF;rw [if_pos he]
   rw [this] at h;exact absurd h (by decide)
  ·rw [z41z fin 0 s he] at h;exact he h
 | n+1,s,h=>by
  have ih:=conR_inv fin n
  have ihO:=numR_inv fin n
  have he:s.e=0:=by
   refine Classical.byContradiction fun he=>?_
   rw [z41z fin (n+1) s he] at h;exact he h
  unfold conR at h ⊢
  rw [if_neg (by simpa using he)] at h ⊢
  by_cases hnil:(takeF fin beginsF s).1=[]
  ·rw [if_pos hnil] at h
   have:=(z50z h).2
   rw [hnil] at this
   exact absurd this (by decide +kernel)
  rw [if_neg hnil] at h ⊢
  have step:∀ {u:List (List UInt8)} {s':RS},Ate (takeF fin beginsF s).2 u s'→Ate s ((takeF fin beginsF s).1::u) s'∧beginsF (takeF fin beginsF s).1=true:=fun ha=>by
   have t:=z50z (fin:=fin) (right:=beginsF) (s:=s) ha.e
   exact ⟨t.1.trans ha,t.2⟩
  generalize hx:(takeF fin beginsF s).1=x at h hnil step ⊢
  generalize hs1:(takeF fin beginsF s).2=s1 at h step ⊢
  by_cases c0:x=[122,101,114,111]
  ·rw [if_pos c0] at h ⊢
   dsimp only at h ⊢
   refine ⟨by have:=(step (u:=[]) (s':=s1) ⟨h,h,rfl,[],rfl,rfl⟩).1;rw [c0] at this;exact this,rfl,by unfold depthT;omega⟩
  rw [if_neg c0] at h ⊢
  have step2:∀ {u:List (List UInt8)} {s':RS},Ate (mustF fin [40] s1) u s'→Ate s (x::[40]::u) s'∧beginsF x=true:=fun ha=>step ((z16z ha.e).trans ha)
  generalize hs2:mustF fin [40] s1=s2 at h step2 ⊢
  unfold conK at h ⊢
  by_cases c1:x=[111,110,101]
  ·rw [if_pos c1] at h ⊢
   dsimp only at h ⊢
   have h3:=z16z h
   have h2:=z50z h3.e
   refine ⟨by have:=(step2 (h2.1.trans h3)).1;rw [c1] at this;simpa [toksT] using this,h2.2,by unfold depthT;omega⟩
  rw [if_neg c1] at h ⊢
  by_cases c2:x=[103,105,118,101]
  ·rw [if_pos c2] at h ⊢
   dsimp only at h ⊢
   have hp:=one_inv ih h
   refine ⟨by have:=(step2 hp.1).1;rw [c2] at this;exact this,hp.2.1,by unfold depthT;have:=hp.2.2;omega⟩
  rw [if_neg c2] at h ⊢
  by_cases c3:x=[97,110,100]
  ·rw [if_pos c3] at h ⊢
   dsimp only at h ⊢
   have hp:=both_inv ih h
   refine ⟨by have:=(step2 hp.1).1;rw [c3] at this;exact this,by unfold formT;rw [hp.2.1.1,hp.2.2.1];rfl,by unfold depthT;have:=hp.2.1.2;have:=hp.2.2.2;omega⟩
  rw [if_neg c3] at h ⊢
  by_cases c4:x=[111,114]
  ·rw [if_pos c4] at h ⊢
   dsimp only at h ⊢
   have hp:=both_inv ih h
   have h2:=z16z hp.1.e
   have h1:=z50z h2.e
   refine ⟨by have:=(step2 (h1.1.trans (h2.trans hp.1))).1;rw [c4] at this;simpa [toksT] using this,by unfold formT;rw [hp.2.1.1,hp.2.2.1,h1.2];rfl,by unfold depthT;have:=hp.2.1.2;have:=hp.2.2.2;omega⟩
  rw [if_neg c4] at h ⊢
  by_cases c5:x=[115,99,97,108,101]
  ·rw [if_pos c5] at h ⊢
   dsimp only at h ⊢
   have hp:=one_inv ih h
   have h2:=z16z hp.1.e
   have h1:=ihO _ h2.e
   refine ⟨by have:=(step2 (h1.1.trans (h2.trans hp.1))).1;rw [c5] at this;simpa [toksT] using this,by unfold formT;rw [hp.2.1,h1.2.1];rfl,by unfold depthT;have:=hp.2.2;have:=h1.2.2;omega⟩
  rw [if_neg c5] at h ⊢
  by_cases c6:x=[119,104,101,110]
  ·rw [if_pos c6] at h ⊢
   dsimp only at h ⊢
   have hp:=one_inv ih h
   have h2:=z16z hp.1.e
   have h1:=z50z h2.e
   have hd:=day_cases h1.2
   have hi:=numF_inv hd.1
   refine ⟨?_,by unfold formT;rw [hp.2.1,decide_eq_true hd.2.1,decide_eq_true hd.2.2];rfl,by unfold depthT;have:=hp.2.2;omega⟩
   have:=(step2 (h1.1.trans (h2.trans hp.1))).1
   rw [c6] at this
   unfold toksT
   rw [← hi.1]
   simpa using this
  rw [if_neg c6] at h ⊢
  dsimp only at h ⊢
  have hp:=both_inv ih h
  have h2:=z16z hp.1.e
  have h1:=ihO _ h2.e
  have h0:=step2 (h1.1.trans (h2.trans hp.1))
  have c7:x=[105,102]:=by
   rcases begins_cases h0.2 with t | t | t | t | t | t | t | t
   ·exact absurd t c0
   ·exact absurd t c1
   ·exact absurd t c2
   ·exact absurd t c3
   ·exact absurd t c4
   ·exact absurd t c5
   ·exact absurd t c6
   ·exact t
  refine ⟨by have:=h0.1;rw [c7] at this;simpa [toksT] using this,by unfold formT;rw [hp.2.1.1,hp.2.2.1,h1.2.1];rfl,by unfold depthT;have:=hp.2.1.2;have:=hp.2.2.2;have:=h1.2.2;omega⟩
theorem numR_of (fin:Int):∀ (n:Nat) (o:Ob),formO o=true→depthO o≤n→∀ {s s':RS},Ate s (toksO o) s'→numR fin n s=(o,s')
 | 0,o,hf,hd,s,s',h=>by cases o<;>simp [formO,depthO] at hf hd
 | n+1,o,hf,hd,s,s',h=>by
  have ih:=numR_of fin n
  have he:=h.e
  unfold numR
  rw [if_neg (by simpa using he)]
  cases o with
  | none=>cases hf
  | const k=>
   have hv:=validF_iff hf
   have hn:=numF_itoa hv.1 hv.2
   have hw:wordF' (Lib.itoa k)=true:=by unfold wordF';rw [hn];rfl
   obtain ⟨s1,e1,h⟩:=take_of (fin:=fin) hw h
   have:=h.nil;subst this
   have hne:=word_num (x:=Lib.itoa k) (by rw [hn])
   rw [e1]
   dsimp only
   rw [if_neg hne.1]
   unfold numK
   rw [if_neg hne.2.1,if_neg hne.2.2.1,if_neg hne.2.2.2.1,if_neg hne.2.2.2.2.1,if_neg hne.2.2.2.2.2,hn]
  | fix x=>
   obtain ⟨s1,e1,h⟩:=take_of (fin:=fin) (right:=wordF') (by decide +kernel) h
   obtain ⟨s2,e2,h⟩:=must_of (fin:=fin) h
   obtain ⟨s3,e3,h⟩:=take_of (fin:=fin) (right:=nameL) hf h
   obtain ⟨s4,e4,h⟩:=must_of (fin:=fin) h
   have:=h.nil;subst this
   rw [e1]
   dsimp only
   rw [if_neg (by decide)]
   unfold numK
   rw [if_pos rfl,e2,e3]
   dsimp only
   rw [e4]
  | neg x=>
   have hd':depthO x≤n:=by unfold depthO at hd;omega
   obtain ⟨s1,e1,h⟩:=take_of (fin:=fin) (right:=wordF') (by decide +kernel) h
   obtain ⟨s2,e2,h⟩:=must_of (fin:=fin) h
   obtain ⟨s3,ha,h⟩:=h.split
   obtain ⟨s4,e4,h⟩:=must_of (fin:=fin) h
   have:=h.nil;subst this
   rw [e1]
   dsimp only
   rw [if_neg (by decide)]
   unfold numK
   rw [if_neg (by decide),if_pos rfl,e2,ih x hf hd' ha]
   dsimp only
   rw [e4]
  | add l r=>
   simp only [formO,Bool.and_eq_true] at hf
   have hl:depthO l≤n:=by unfold depthO at hd;omega
   have hr:depthO r≤n:=by unfold depthO at hd;omega
   obtain ⟨s1,e1,h⟩:=take_of (fin:=fin) (right:=wordF') (by decide +kernel) h
   obtain ⟨s2,e2,h⟩:=must_of (fin:=fin) h
   obtain ⟨s3,ha,h⟩:=h.split
   obtain ⟨s4,e4,h⟩:=must_of (fin:=fin) h
   obtain ⟨s5,hb,h⟩:=h.split
   obtain ⟨s6,e6,h⟩:=must_of (fin:=fin) h
   have:=h.nil;subst this
   rw [e1]
   dsimp only
   rw [if_neg (by decide)]
   unfold numK
   rw [if_neg (by decide),if_neg (by decide),if_pos rfl]
   unfold pairF
   rw [e2,ih l hf.1 hl ha]
   dsimp only
   rw [e4,ih r hf.2 hr hb]
   dsimp only
   rw [e6]
  | mul l r=>
   simp only [formO,Bool.and_eq_true] at hf
   have hl:depthO l≤n:=by unfold depthO at hd;omega
   have hr:depthO r≤n:=by unfold depthO at hd;omega
   obtain ⟨s1,e1,h⟩:=take_of (fin:=fin) (right:=wordF') (by decide +kernel) h
   obtain ⟨s2,e2,h⟩:=must_of (fin:=fin) h
   obtain ⟨s3,ha,h⟩:=h.split
   obtain ⟨s4,e4,h⟩:=must_of (fin:=fin) h
   obtain ⟨s5,hb,h⟩:=h.split
   obtain ⟨s6,e6,h⟩:=must_of (fin:=fin) h
   have:=h.nil;subst this
   rw [e1]
   dsimp only
   rw [if_neg (by decide)]
   unfold numK
   rw [if_neg (by decide),if_neg (by decide),if_neg (by decide),if_pos rfl]
   unfold pairF
   rw [e2,ih l hf.1 hl ha]
   dsimp only
   rw [e4,ih r hf.2 hr hb]
   dsimp only
   rw [e6]
  | max l r=>
   simp only [formO,Bool.and_eq_true] at hf
   have hl:depthO l≤n:=by unfold depthO at hd;omega
   have hr:depthO r≤n:=by unfold depthO at hd;omega
   obtain ⟨s1,e1,h⟩:=take_of (fin:=fin) (right:=wordF') (by decide +kernel) h
   obtain ⟨s2,e2,h⟩:=must_of (fin:=fin) h
   obtain ⟨s3,ha,h⟩:=h.split
   obtain ⟨s4,e4,h⟩:=must_of (fin:=fin) h
   obtain ⟨s5,hb,h⟩:=h.split
   obtain ⟨s6,e6,h⟩:=must_of (fin:=fin) h
   have:=h.nil;subst this
   rw [e1]
   dsimp only
   rw [if_neg (by decide)]
   unfold numK
   rw [if_neg (by decide),if_neg (by decide),if_neg (by decide),if_neg (by decide),if_pos rfl]
   unfold pairF
   rw [e2,ih l hf.1 hl ha]
   dsimp only
   rw [e4,ih r hf.2 hr hb]
   dsimp only
   rw [e6]
theorem oneF_of {fin:Int} {rec:RS→Tm×RS} {t:Tm} {s s1 s2:RS} (h:rec s=(t,s1)) (e:mustF fin [41] s1=s2):oneF fin rec s=(t,s2):=by
 unfold oneF;rw [h];dsimp only;rw [e]
theorem bothF_of {fin:Int} {rec:RS→Tm×RS} {l r:Tm} {s s1 s2 s3 s4:RS} (h:rec s=(l,s1)) (e:mustF fin [44] s1=s2) (h2:rec s2=(r,s3)) (e2:mustF fin [41] s3=s4):bothF fin rec s=(l,r,s4):=by
 unfold bothF;rw [h];dsimp only;rw [e,h2];dsimp only;rw [e2]
theorem conR_of (fin:Int):∀ (n:Nat) (t:Tm),formT t=true→depthT t≤n→∀ {s s':RS},Ate s (toksT t) s'→conR fin n s=(t,s')
 | 0,t,hf,hd,s,s',h=>by cases t<;>simp [formT,depthT] at hf hd
 | n+1,t,hf,hd,s,s',h=>by
  have ih:=conR_of fin n
  have ihO:=numR_of fin n
  have he:=h.e
  unfold conR
  rw [if_neg (by simpa using he)]
  cases t with
  | none=>cases hf
  | zero=>
   obtain ⟨s1,e1,h⟩:=take_of (fin:=fin) (right:=beginsF) (by decide) h
   have:=h.nil;subst this
   rw [e1]
   dsimp only
   rw [if_neg (by decide),if_pos rfl]
  | one x=>
   obtain ⟨s1,e1,h⟩:=take_of (fin:=fin) (right:=beginsF) (by decide) h
   obtain ⟨s2,e2,h⟩:=must_of (fin:=fin) h
   obtain ⟨s3,e3,h⟩:=take_of (fin:=fin) (right:=nameL) hf h
   obtain ⟨s4,e4,h⟩:=must_of (fin:=fin) h
   have:=h.nil;subst this
   rw [e1]
   dsimp only
   rw [if_neg (by decide),if_neg (by decide),e2]
   unfold conK
   rw [if_pos rfl,e3]
   dsimp only
   rw [e4]
  | give x=>
   have hd':depthT x≤n:=by unfold depthT at hd;omega
   obtain ⟨s1,e1,h⟩:=take_of (fin:=fin) (right:=beginsF) (by decide) h
   obtain ⟨s2,e2,h⟩:=must_of (fin:=fin) h
   obtain ⟨s3,ha,h⟩:=h.split
   obtain ⟨s4,e4,h⟩:=must_of (fin:=fin) h
   have:=h.nil;subst this
   rw [e1]
   dsimp only
   rw [if_neg (by decide),if_neg (by decide),e2]
   unfold conK
   rw [if_neg (by decide),if_pos rfl,oneF_of (ih x hf hd' ha) e4]
  | and l r=>
   simp only [formT,Bool.and_eq_true] at hf
   have hl:depthT l≤n:=by unfold depthT at hd;omega
   have hr:depthT r≤n:=by unfold depthT at hd;omega
   obtain ⟨s1,e1,h⟩:=take_of (fin:=fin) (right:=beginsF) (by decide) h
   obtain ⟨s2,e2,h⟩:=must_of (fin:=fin) h
   obtain ⟨s3,ha,h⟩:=h.split
   obtain ⟨s4,e4,h⟩:=must_of (fin:=fin) h
   obtain ⟨s5,hb,h⟩:=h.split
   obtain ⟨s6,e6,h⟩:=must_of (fin:=fin) h
   have:=h.nil;subst this
   rw [e1]
   dsimp only
   rw [if_neg (by decide),if_neg (by decide),e2]
   unfold conK
   rw [if_neg (by decide),if_neg (by decide),if_pos rfl,bothF_of (ih l hf.1 hl ha) e4 (ih r hf.2 hr hb) e6]
  | or x l r=>
   simp only [formT,Bool.and_eq_true] at hf
   have hl:depthT l≤n:=by unfold depthT at hd;omega
   have hr:depthT r≤n:=by unfold depthT at hd;omega
   obtain ⟨s1,e1,h⟩:=take_of (fin:=fin) (right:=beginsF) (by decide) h
   obtain ⟨s2,e2,h⟩:=must_of (fin:=fin) h
   obtain ⟨s7,e7,h⟩:=take_of (fin:=fin) (right:=nameL) hf.1 h
   obtain ⟨s8,e8,h⟩:=must_of (fin:=fin) h
   obtain ⟨s3,ha,h⟩:=h.split
   obtain ⟨s4,e4,h⟩:=must_of (fin:=fin) h
   obtain ⟨s5,hb,h⟩:=h.split
   obtain ⟨s6,e6,h⟩:=must_of (fin:=fin) h
   have:=h.nil;subst this
   rw [e1]
   dsimp only
   rw [if_neg (by decide),if_neg (by decide),e2]
   unfold conK
   rw [if_neg (by decide),if_neg (by decide),if_neg (by decide),if_pos rfl,e7]
   dsimp only
   rw [e8,bothF_of (ih l hf.2.1 hl ha) e4 (ih r hf.2.2 hr hb) e6]
  | scale o x=>
   simp only [formT,Bool.and_eq_true] at hf
   have hl:depthO o≤n:=by unfold depthT at hd;omega
   have hr:depthT x≤n:=by unfold depthT at hd;omega
   obtain ⟨s1,e1,h⟩:=take_of (fin:=fin) (right:=beginsF) (by decide) h
   obtain ⟨s2,e2,h⟩:=must_of (fin:=fin) h
   obtain ⟨s3,ha,h⟩:=h.split
   obtain ⟨s4,e4,h⟩:=must_of (fin:=fin) h
   obtain ⟨s5,hb,h⟩:=h.split
   obtain ⟨s6,e6,h⟩:=must_of (fin:=fin) h
   have:=h.nil;subst this
   rw [e1]
   dsimp only
   rw [if_neg (by decide),if_neg (by decide),e2]
   unfold conK
   rw [if_neg (by decide),if_neg (by decide),if_neg (by decide),if_neg (by decide),if_pos rfl,ihO o hf.1 hl ha]
   dsimp only
   rw [e4,oneF_of (ih x hf.2 hr hb) e6]
  | when d x=>
   simp only [formT,Bool.and_eq_true,decide_eq_true_eq] at hf
   have hr:depthT x≤n:=by unfold depthT at hd;omega
   have hn:=numF_itoa (n:=d) (by omega) (by omega)
   have hday:dayF (Lib.itoa d)=true:=by unfold dayF;rw [hn];simp [hf.1.1,hf.1.2]
   obtain ⟨s1,e1,h⟩:=take_of (fin:=fin) (right:=beginsF) (by decide) h
   obtain ⟨s2,e2,h⟩:=must_of (fin:=fin) h
   obtain ⟨s3,e3,h⟩:=take_of (fin:=fin) (right:=dayF) hday h
   obtain ⟨s4,e4,h⟩:=must_of (fin:=fin) h
   obtain ⟨s5,hb,h⟩:=h.split
   obtain ⟨s6,e6,h⟩:=must_of (fin:=fin) h
   have:=h.nil;subst this
   rw [e1]
   dsimp only
   rw [if_neg (by decide),if_neg (by decide),e2]
   unfold conK
   rw [if_neg (by decide),if_neg (by decide),if_neg (by decide),if_neg (by decide),if_neg (by decide),if_pos rfl,e3]
   dsimp only
   rw [e4,oneF_of (ih x hf.2 hr hb) e6,hn]
  | cond o l r=>
   simp only [formT,Bool.and_eq_true] at hf
   have ho:depthO o≤n:=by unfold depthT at hd;omega
   have hl:depthT l≤n:=by unfold depthT at hd;omega
   have hr:depthT r≤n:=by unfold depthT at hd;omega
   obtain ⟨s1,e1,h⟩:=take_of (fin:=fin) (right:=beginsF) (by decide) h
   obtain ⟨s2,e2,h⟩:=must_of (fin:=fin) h
   obtain ⟨s7,hc,h⟩:=h.split
   obtain ⟨s8,e8,h⟩:=must_of (fin:=fin) h
   obtain ⟨s3,ha,h⟩:=h.split
   obtain ⟨s4,e4,h⟩:=must_of (fin:=fin) h
   obtain ⟨s5,hb,h⟩:=h.split
   obtain ⟨s6,e6,h⟩:=must_of (fin:=fin) h
   have:=h.nil;subst this
   rw [e1]
   dsimp only
   rw [if_neg (by decide),if_neg (by decide),e2]
   unfold conK
   rw [if_neg (by decide),if_neg (by decide),if_neg (by decide),if_neg (by decide),if_neg (by decide),if_neg (by decide),ihO o hf.1 ho hc]
   dsimp only
   rw [e8,bothF_of (ih l hf.2.1 hl ha) e4 (ih r hf.2.2 hr hb) e6]
theorem u8_self (b:UInt8):UInt8.ofNat b.toNat=b:=UInt8.ofNat_toNat
theorem dec_take (l:List UInt8) (hne:l≠[]) (h:(decL l).1≠65533):enc ((decL l).1:Int)=l.take (decL l).2:=by
 have hok:=okR_dec l
 rw [enc_eq _ hok]
 cases l with
 | nil=>exact absurd rfl hne
 | cons b0 t=>
  have hb0:=b0.toNat_lt
  simp only [decL,Utf8.decode,get_list,z5z,z1z,Nat.zero_add,List.getD_cons_zero,List.length_cons] at h hok ⊢
  by_cases c1:b0.toNat<128
  ·simp only [if_pos c1] at h hok ⊢
   rw [u8_self];rfl
  simp only [if_neg c1] at h hok ⊢
  cases t with
  | nil=>simp [Utf8.runeError] at h
  | cons b1 t=>
   have hb1:=b1.toNat_lt
   simp only [List.getD_cons_succ,List.getD_cons_zero,List.length_cons] at h hok ⊢
   by_cases c2:(b0.toNat / 32==6&&(decide (1<t.length+1+1)&&b1.toNat / 64==2))=true
   ·simp only [if_pos c2] at h hok ⊢
    simp only [Bool.and_eq_true,beq_iff_eq,decide_eq_true_eq] at c2
    by_cases c3:b0.toNat % 32 * 64+b1.toNat % 64 ≥ 128
    ·simp only [if_pos c3] at h hok ⊢
     rw [if_neg (by omega),if_pos (by omega)]
     rw [show 192+(b0.toNat % 32 * 64+b1.toNat % 64) / 64=b0.toNat by omega,show 128+(b0.toNat % 32 * 64+b1.toNat % 64) % 64=b1.toNat by omega,u8_self,u8_self];rfl
    ·simp only [if_neg c3] at h;exact absurd rfl h
   simp only [if_neg c2] at h hok ⊢
   cases t with
   | nil=>simp [Utf8.runeError] at h
   | cons b2 t=>
    have hb2:=b2.toNat_lt
    simp only [List.getD_cons_succ,List.getD_cons_zero,List.length_cons] at h hok ⊢
    by_cases c4:(b0.toNat / 16==14&&(decide (1<t.length+1+1+1)&&b1.toNat / 64==2)&&(decide (2<t.length+1+1+1)&&b2.toNat / 64==2))=true
    ·simp only [if_pos c4] at h hok ⊢
     simp only [Bool.and_eq_true,beq_iff_eq,decide_eq_true_eq] at c4
     by_cases c5:(decide (b0.toNat % 16 * 4096+b1.toNat % 64 * 64+b2.toNat % 64 ≥ 2048)&&Utf8.valid ((b0.toNat % 16 * 4096+b1.toNat % 64 * 64+b2.toNat % 64:Nat):Int))=true
     ·simp only [if_pos c5] at h hok ⊢
      simp only [Bool.and_eq_true,decide_eq_true_eq] at c5
      rw [if_neg (by omega),if_neg (by omega),if_pos (by omega)]
      rw [show 224+(b0.toNat % 16 * 4096+b1.toNat % 64 * 64+b2.toNat % 64) / 4096=b0.toNat by omega,show 128+(b0.toNat % 16 * 4096+b1.toNat % 64 * 64+b2.toNat % 64) / 64 % 64=b1.toNat by omega,
       show 128+(b0.toNat % 16 * 4096+b1.toNat % 64 * 64+b2.toNat % 64) % 64=b2.toNat by omega,u8_self,u8_self,u8_self];rfl
     ·simp only [if_neg c5] at h;exact absurd rfl h
    simp only [if_neg c4] at h hok ⊢
    cases t with
    | nil=>simp [Utf8.runeError] at h
    | cons b3 t=>
     have hb3:=b3.toNat_lt
     simp only [List.getD_cons_zero,List.length_cons] at h hok ⊢
     by_cases c6:(b0.toNat / 8==30&&(decide (1<t.length+1+1+1+1)&&b1.toNat / 64==2)&&(decide (2<t.length+1+1+1+1)&&b2.toNat / 64==2)&&(decide (3<t.length+1+1+1+1)&&b3.toNat / 64==2))=true
     ·simp only [if_pos c6] at h hok ⊢
      simp only [Bool.and_eq_true,beq_iff_eq,decide_eq_true_eq] at c6
      by_cases c7:(decide (b0.toNat % 8 * 262144+b1.toNat % 64 * 4096+b2.toNat % 64 * 64+b3.toNat % 64 ≥ 65536)&&Utf8.valid ((b0.toNat % 8 * 262144+b1.toNat % 64 * 4096+b2.toNat % 64 * 64+b3.toNat % 64:Nat):Int))=true
      ·simp only [if_pos c7] at h hok ⊢
       simp only [Bool.and_eq_true,decide_eq_true_eq] at c7
       rw [if_neg (by omega),if_neg (by omega),if_neg (by omega)]
       rw [show 240+(b0.toNat % 8 * 262144+b1.toNat % 64 * 4096+b2.toNat % 64 * 64+b3.toNat % 64) / 262144=b0.toNat by omega,show 128+(b0.toNat % 8 * 262144+b1.toNat % 64 * 4096+b2.toNat % 64 * 64+b3.toNat % 64) / 4096 % 64=b1.toNat by omega,
        show 128+(b0.toNat % 8 * 262144+b1.toNat % 64 * 4096+b2.toNat % 64 * 64+b3.toNat % 64) / 64 % 64=b2.toNat by omega,show 128+(b0.toNat % 8 * 262144+b1.toNat % 64 * 4096+b2.toNat % 64 * 64+b3.toNat % 64) % 64=b3.toNat by omega,u8_self,u8_self,u8_self,u8_self];rfl
      ·simp only [if_neg c7] at h;exact absurd rfl h
     ·simp only [if_neg c6] at h;exact absurd rfl h
theorem txt_runes:∀ (n:Nat) (l:List UInt8),l.length≤n→(∀ r∈runesL l,r≠65533)→txt (runesL l)=l
 | 0,l,h,_=>by
  have:l=[]:=List.eq_nil_of_length_eq_zero (by omega)
  subst this;rfl
 | n+1,l,h,hr=>by
  by_cases hl:l=[]
  ·subst hl;rfl
  ·rw [runesL_step l hl] at hr ⊢
   have h1:=z56z l
   have hd:(l.drop (decL l).2).length=l.length - (decL l).2:=List.length_drop
   rw [txt_cons,dec_take l hl (fun t=>hr _ (List.mem_cons_self ..) (by omega)),txt_runes n _ (by omega) (fun r hm=>hr r (List.mem_cons_of_mem _ hm)),List.take_append_drop]
theorem txt_runesL (l:List UInt8) (h:∀ r∈runesL l,r≠65533):txt (runesL l)=l:=txt_runes l.length l (Nat.le_refl _) h
theorem isLet_kd {r:Int} (h:isLet r=true):kd r=97:=by unfold kd;rw [if_pos h]
theorem isLet_no {r:Int} (h:isLet r=true):r≠65533∧r≠32:=by
 refine ⟨?_,?_⟩<;>(rintro rfl;exact absurd h (by decide))
theorem kd_no {r:Int} (h:kd r≠0):r≠65533:=by rintro rfl;exact h (by decide)
theorem enc_ascii {b:UInt8} (h:b.toNat<128):enc (b.toNat:Int)=[b]:=by
 rw [enc_eq _ (by unfold okR;omega),if_pos h,u8_self]
theorem txt_ascii:∀ (l:List UInt8),(∀ b∈l,b.toNat<128)→txt (l.map fun b=>(b.toNat:Int))=l
 | [],_=>rfl
 | b::l,h=>by rw [List.map_cons,txt_cons,enc_ascii (h b (by simp)),txt_ascii l (fun c hc=>h c (by simp [hc]))];rfl
theorem lx_more (W:List SignV) (a:Int) (X:List Int):∀ (ls:List Int) (t:List UInt8) (at_:Int),(∀ r∈ls,kd r=97)→sgF (W++[(t,a)]) at_ true (ls++X)=sgF (W++[(t++txt ls,a)]) (at_+ls.length) true X
 | [],t,at_,_=>by simp [txt_nil]
 | r::ls,t,at_,h=>by
  have h1:=h r (by simp)
  rw [List.cons_append]
  conv=>lhs;unfold sgF
  rw [h1,if_neg (by decide),if_pos ⟨rfl,rfl⟩,addLast_of,lx_more W a X ls _ _ (fun x hx=>h x (by simp [hx])),txt_cons,List.append_assoc]
  congr 1
  simp only [List.length_cons];omega
theorem lx_word (W:List SignV) (X:List Int) (wd:List Int) (at_:Int) (hne:wd≠[]) (h:∀ r∈wd,kd r=97):sgF W at_ false (wd++X)=sgF (W++[(txt wd,at_+1)]) (at_+wd.length) true X:=by
 cases wd with
 | nil=>exact absurd rfl hne
 | cons r ls=>
  have h1:=h r (by simp)
  rw [List.cons_append]
  conv=>lhs;unfold sgF
  rw [h1,if_neg (by decide),if_neg (by simp),if_pos (by decide),show ((97:Int)==97)=true from rfl,lx_more W _ X ls _ _ (fun x hx=>h x (by simp [hx])),txt_cons]
  congr 1
  simp only [List.length_cons];omega
theorem lx_sign (W:List SignV) (X:List Int) (c:Int) (at_:Int) (run:Bool) (h:kd c=40):sgF W at_ run (c::X)=sgF (W++[(enc c,at_+1)]) (at_+1) false X:=by
 conv=>lhs;unfold sgF
 rw [h,if_neg (by decide),if_neg (by simp),if_pos (by decide)]
 rfl
def LxB (b:Bool) (bs:List UInt8) (ts:List (List UInt8)):Prop:=
 ∃ R:List Int,(∀ r∈R,okR r∧r≠32)∧txt R=bs∧∀ (W:List SignV) (at_:Int),∃ (ys:List SignV) (run:Bool),ys.map Prod.fst=ts∧(b=true→run=false)∧∀ X,sgF W at_ false (R++X)=sgF (W++ys) (at_+R.length) run X
theorem LxB.app {b:Bool} {x y:List UInt8} {s t:List (List UInt8)} (h:LxB true x s) (k:LxB b y t):LxB b (x++y) (s++t):=by
 obtain ⟨R,h1,h2,h3⟩:=h
 obtain ⟨Q,k1,k2,k3⟩:=k
 refine ⟨R++Q,fun r hr=>(List.mem_append.1 hr).elim (h1 r) (k1 r),by rw [txt_append,h2,k2],fun W at_=>?_⟩
 obtain ⟨ys,run,a1,a2,a3⟩:=h3 W at_
 obtain ⟨zs,run2,b1,b2,b3⟩:=k3 (W++ys) (at_+R.length)
 have:=a2 rfl
 subst this
 refine ⟨ys++zs,run2,by rw [List.map_append,a1,b1],b2,fun X=>?_⟩
 rw [List.append_assoc,a3,b3,List.append_assoc,List.length_append]
 congr 1
 omega
theorem LxB.sign {b:Bool} {x:List UInt8} {s:List (List UInt8)} (h:LxB b x s) {c:UInt8} (hc:c=40∨c=41∨c=44):LxB true (x++[c]) (s++[[c]]):=by
 have hk:c.toNat<128∧kd (c.toNat:Int)=40∧c.toNat≠32:=by rcases hc with rfl | rfl | rfl<;>decide
 obtain ⟨R,h1,h2,h3⟩:=h
 refine ⟨R++[(c.toNat:Int)],fun r hr=>?_,by rw [txt_append,h2,txt_one,enc_ascii hk.1],fun W at_=>?_⟩
 ·rcases List.mem_append.1 hr with hr | hr
  ·exact h1 r hr
  ·have:=List.mem_singleton.1 hr
   subst this
   exact ⟨by unfold okR;omega,by omega⟩
 ·obtain ⟨ys,run,a1,a2,a3⟩:=h3 W at_
  refine ⟨ys++[([c],at_+R.length+1)],false,by rw [List.map_append,a1];rfl,fun _=>rfl,fun X=>?_⟩
  rw [List.append_assoc,a3,List.singleton_append,lx_sign _ _ _ _ _ hk.2.1,enc_ascii hk.1,List.append_assoc,List.length_append]
  congr 1
  simp only [List.length_singleton];omega
theorem lxb_runes (wd:List Int) (hne:wd≠[]) (h:∀ r∈wd,kd r=97∧okR r):LxB false (txt wd) [txt wd]:=
 ⟨wd,fun r hr=>⟨(h r hr).2,by rintro rfl;exact absurd (h 32 hr).1 (by decide)⟩,rfl,fun W at_=>⟨[(txt wd,at_+1)],true,rfl,(fun t=>nomatch t),fun X=>lx_word W X wd at_ hne fun r hr=>(h r hr).1⟩⟩
theorem z13z (wd:List UInt8) (hne:wd≠[]) (h:∀ b∈wd,b.toNat<128∧kd (b.toNat:Int)=97):LxB false wd [wd]:=by
 have:=lxb_runes (wd.map fun b=>(b.toNat:Int)) (by simp [hne]) fun r hr=>by
  obtain ⟨b,hb,rfl⟩:=List.mem_map.1 hr
  exact ⟨(h b hb).2,by unfold okR;have:=(h b hb).1;omega⟩
 rwa [txt_ascii wd fun b hb=>(h b hb).1] at this
theorem nameF_let:∀ (rs:List Int) (n:Nat),nameF n rs=true→∀ r∈rs,isLet r=true
 | [],_,_,r,hr=>by cases hr
 | a::rs,n,h,r,hr=>by
  unfold nameF at h
  split at h
  ·cases h
  rename_i ha
  split at h
  ·cases h
  split at h
  ·cases h
  rcases List.mem_cons.1 hr with rfl | hr
  ·simpa using ha
  ·exact nameF_let rs (n+1) h r hr
theorem lxb_name {s:List UInt8} (h:nameL s=true):LxB false s [s]:=by
 have hl:=nameF_let _ _ h
 have hne:runesL s≠[]:=fun t=>by
  have:nameF 0 (runesL s)=true:=h
  rw [t] at this;exact absurd this (by decide)
 have:=lxb_runes (runesL s) hne fun r hr=>⟨isLet_kd (hl r hr),okR_runes s r hr⟩
 rwa [txt_runesL s fun r hr=>(isLet_no (hl r hr)).1] at this
theorem isD_kd {c:UInt8} (h:isD c=true):c.toNat<128∧kd (c.toNat:Int)=97:=by
 have:=isD_rg h
 refine ⟨by omega,isLet_kd ?_⟩
 unfold isLet isDig
 rw [decide_eq_true (show (48:Int)≤(c.toNat:Int) by omega),decide_eq_true (show (c.toNat:Int)≤57 by omega)]
 simp
theorem lxb_num (n:Int):LxB false (Lib.itoa n) [Lib.itoa n]:=by
 refine z13z _ ?_ ?_
 ·unfold Lib.itoa
  split
  ·simp
  ·exact (dec_ok _).1
 ·unfold Lib.itoa
  split
  ·intro b hb
   rcases List.mem_cons.1 hb with rfl | hb
   ·decide
   ·exact isD_kd ((dec_ok _).2.1 b hb)
  ·exact fun b hb=>isD_kd ((dec_ok _).2.1 b hb)
theorem lx_call1 {b:Bool} {wd x:List UInt8} {s:List (List UInt8)} (hw:LxB false wd [wd]) (h:LxB b x s):LxB true (callL wd [x]) (wd::[40]::(s++[[41]])):=by
 have:=((hw.sign (c:=40) (.inl rfl)).app h).sign (c:=41) (.inr (.inl rfl))
 unfold callL
 rw [join1]
 simpa using this
theorem lx_call2 {b d:Bool} {wd x y:List UInt8} {s t:List (List UInt8)} (hw:LxB false wd [wd]) (h:LxB b x s) (k:LxB d y t):LxB true (callL wd [x,y]) (wd::[40]::(s++([44]::(t++[[41]])))):=by
 have:=((((hw.sign (c:=40) (.inl rfl)).app h).sign (c:=44) (.inr (.inr rfl))).app k).sign (c:=41) (.inr (.inl rfl))
 unfold callL
 rw [join2]
 simpa using this
theorem lx_call3 {b d f:Bool} {wd x y z:List UInt8} {s t u:List (List UInt8)} (hw:LxB false wd [wd]) (h:LxB b x s) (k:LxB d y t) (m:LxB f z u) :
  LxB true (callL wd [x,y,z]) (wd::[40]::(s++([44]::(t++([44]::(u++[[41]])))))):=by
 have:=((((((hw.sign (c:=40) (.inl rfl)).app h).sign (c:=44) (.inr (.inr rfl))).app k).sign (c:=44) (.inr (.inr rfl))).app m).sign (c:=41) (.inr (.inl rfl))
 unfold callL
 rw [join3]
 simpa using this
theorem lx_num:∀ o:Ob,formO o=true→∃ b,LxB b (numO o) (toksO o)
 | .none,h=>by cases h
 | .const n,_=>⟨_,lxb_num n⟩
 | .fix s,h=>⟨_,lx_call1 (z13z _ (by decide) (by decide)) (lxb_name h)⟩
 | .neg o,h=>by
  obtain ⟨b,hb⟩:=lx_num o h
  exact ⟨_,lx_call1 (z13z _ (by decide) (by decide)) hb⟩
 | .add l r,h=>by
  simp only [formO,Bool.and_eq_true] at h
  obtain ⟨b,hb⟩:=lx_num l h.1
  obtain ⟨c,hc⟩:=lx_num r h.2
  exact ⟨_,lx_call2 (z13z _ (by decide) (by decide)) hb hc⟩
 | .mul l r,h=>by
  simp only [formO,Bool.and_eq_true] at h
  obtain ⟨b,hb⟩:=lx_num l h.1
  obtain ⟨c,hc⟩:=lx_num r h.2
  exact ⟨_,lx_call2 (z13z _ (by decide) (by decide)) hb hc⟩
 | .max l r,h=>by
  simp only [formO,Bool.and_eq_true] at h
  obtain ⟨b,hb⟩:=lx_num l h.1
  obtain ⟨c,hc⟩:=lx_num r h.2
  exact ⟨_,lx_call2 (z13z _ (by decide) (by decide)) hb hc⟩
theorem lx_con:∀ t:Tm,formT t=true→∃ b,LxB b (conT t) (toksT t)∧(t≠.zero→b=true)
 | .none,h=>by cases h
 | .zero,_=>⟨_,z13z _ (by decide) (by decide),fun t=>absurd rfl t⟩
 | .one s,h=>⟨_,lx_call1 (z13z _ (by decide) (by decide)) (lxb_name h),fun _=>rfl⟩
 | .give t,h=>by
  obtain ⟨b,hb,_⟩:=lx_con t h
  exact ⟨_,lx_call1 (z13z _ (by decide) (by decide)) hb,fun _=>rfl⟩
 | .and l r,h=>by
  simp only [formT,Bool.and_eq_true] at h
  obtain ⟨b,hb,_⟩:=lx_con l h.1
  obtain ⟨c,hc,_⟩:=lx_con r h.2
  exact ⟨_,lx_call2 (z13z _ (by decide) (by decide)) hb hc,fun _=>rfl⟩
 | .or s l r,h=>by
  simp only [formT,Bool.and_eq_true] at h
  obtain ⟨b,hb,_⟩:=lx_con l h.2.1
  obtain ⟨c,hc,_⟩:=lx_con r h.2.2
  exact ⟨_,lx_call3 (z13z _ (by decide) (by decide)) (lxb_name h.1) hb hc,fun _=>rfl⟩
 | .scale o t,h=>by
  simp only [formT,Bool.and_eq_true] at h
  obtain ⟨b,hb⟩:=lx_num o h.1
  obtain ⟨c,hc,_⟩:=lx_con t h.2
  exact ⟨_,lx_call2 (z13z _ (by decide) (by decide)) hb hc,fun _=>rfl⟩
 | .when d t,h=>by
  simp only [formT,Bool.and_eq_true] at h
  obtain ⟨c,hc,_⟩:=lx_con t h.2
  exact ⟨_,lx_call2 (z13z _ (by decide) (by decide)) (lxb_num d) hc,fun _=>rfl⟩
 | .cond o l r,h=>by
  simp only [formT,Bool.and_eq_true] at h
  obtain ⟨a,ha⟩:=lx_num o h.1
  obtain ⟨b,hb,_⟩:=lx_con l h.2.1
  obtain ⟨c,hc,_⟩:=lx_con r h.2.2
  exact ⟨_,lx_call3 (z13z _ (by decide) (by decide)) ha hb hc,fun _=>rfl⟩
theorem LxB.signs {b:Bool} {bs:List UInt8} {ts:List (List UInt8)} (h:LxB b bs ts):∃ ys:List SignV,sgF [] 0 false (runesL bs)=(ys,0)∧ys.map Prod.fst=ts:=by
 obtain ⟨R,h1,h2,h3⟩:=h
 obtain ⟨ys,run,a1,a2,a3⟩:=h3 [] 0
 have hR:runesL bs=R:=by rw [← h2];exact runes_txt0 R fun r hr=>(h1 r hr).1
 refine ⟨ys,?_,a1⟩
 have:=a3 []
 rw [List.append_nil] at this
 rw [hR,this,List.nil_append]
 rfl
theorem doneF_nil {fin:Int} {s:RS} (h:s.l=[]):doneF fin s=s:=by unfold doneF;rw [h]
theorem doneF_ok {fin:Int} {s:RS} (h:(doneF fin s).e=0):s.e=0∧s.l=[]∧doneF fin s=s:=by
 unfold doneF at h ⊢
 cases hl:s.l with
 | nil=>rw [hl] at h;exact ⟨h,rfl,rfl⟩
 | cons x l=>
  rw [hl] at h
  dsimp only at h
  unfold failF at h
  split at h
  ·exact absurd (show (2:Int)=0 from h) (by decide)
  ·contradiction
theorem readT_of {bs:List UInt8} {t:Tm} {ys:List SignV} (hc:checkT t=0) (hl:bs.length≤1000) (hs:sgF [] 0 false (runesL bs)=(ys,0)) (ht:ys.map Prod.fst=toksT t):readT bs=(t,0,0):=by
 have hf:=checkT_form hc
 have hb:beginF bs=⟨ys,0,0⟩:=by unfold beginF;rw [if_neg (by omega),hs];rfl
 have hr:=conR_of (endF bs) 12 t hf.1 hf.2.2 (s:=⟨ys,0,0⟩) (s':=⟨[],0,0⟩) ⟨rfl,rfl,rfl,ys,by simp,ht⟩
 unfold readT conS
 rw [hb,hr]
 dsimp only
 rw [doneF_nil rfl,if_neg (by simp),if_neg (by simpa using hc)]
theorem writeT_ok {t:Tm} (h:(writeT t).2=0):checkT t=0∧(conT t).length≤1000∧writeT t=(conT t,0):=by
 unfold writeT at h ⊢
 split at h
 ·rename_i hc;exact absurd h hc
 rename_i hc
 split at h
 ·exact absurd h (by decide)
 rename_i hl
 exact ⟨by simpa using hc,by omega,by rw [if_neg hc,if_neg hl]⟩
theorem read_write {t:Tm} (h:(writeT t).2=0):readT (writeT t).1=(t,0,0):=by
 obtain ⟨h1,h2,h3⟩:=writeT_ok h
 obtain ⟨b,hb,_⟩:=lx_con t (checkT_form h1).1
 obtain ⟨ys,a1,a2⟩:=hb.signs
 rw [h3]
 exact readT_of h1 h2 a1 a2
def lenS (l:List (List UInt8)):Nat:=l.flatten.length
theorem lenS_app (a b:List (List UInt8)):lenS (a++b)=lenS a+lenS b:=by unfold lenS;rw [List.flatten_append,List.length_append]
theorem lenS_add (l:List SignV) (x:List UInt8):lenS ((addLast l x).map Prod.fst)=lenS (l.map Prod.fst)+x.length:=by
 by_cases h:l=[]
 ·subst h;unfold addLast lenS;simp
 ·obtain ⟨a,y,rfl⟩:=last_split l h
  rw [addLast_of,List.map_append,List.map_append,lenS_app,lenS_app]
  simp [lenS];omega
theorem sgF_lenS:∀ (R:List Int) (W:List SignV) (at_:Int) (run:Bool),lenS ((sgF W at_ run R).1.map Prod.fst)≤lenS (W.map Prod.fst)+(txt R).length
 | [],W,at_,run=>by show lenS (W.map Prod.fst)≤_;omega
 | r::R,W,at_,run=>by
  unfold sgF
  rw [txt_cons,List.length_append]
  split
  ·simp [lenS]
  split
  ·have:=sgF_lenS R (addLast W (enc r)) (at_+1) true
   rw [lenS_add] at this;omega
  split
  ·have:=sgF_lenS R (W++[(enc r,at_+1)]) (at_+1) (kd r==97)
   rw [List.map_append,lenS_app] at this
   have e:lenS ([(enc r,at_+1)].map Prod.fst)=(enc r).length:=by simp [lenS]
   omega
  ·have:=sgF_lenS R W (at_+1) false
   omega
theorem sgF_ok:∀ (R:List Int) (W:List SignV) (at_:Int) (run:Bool),0≤at_→¬ 0<(sgF W at_ run R).2→∀ r∈R,kd r≠0
 | [],_,_,_,_,_,r,hr=>by cases hr
 | c::R,W,at_,run,h0,h,r,hr=>by
  unfold sgF at h
  split at h
  ·exact absurd (by dsimp only;omega) h
  rename_i hc
  have key:∀ x∈R,kd x≠0:=by
   split at h
   ·exact sgF_ok R _ _ _ (by omega) h
   split at h
   ·exact sgF_ok R _ _ _ (by omega) h
   ·exact sgF_ok R _ _ _ (by omega) h
  rcases List.mem_cons.1 hr with rfl | hr
  ·exact hc
  ·exact key r hr
theorem sgF_bytes {bs:List UInt8} (h:¬ 0<(sgF [] 0 false (runesL bs)).2):lenS ((sgF [] 0 false (runesL bs)).1.map Prod.fst)≤bs.length:=by
 have h1:=sgF_ok _ _ _ _ (Int.le_refl _) h
 have h2:=sgF_lenS (runesL bs) [] 0 false
 rw [txt_runesL bs fun r hr=>kd_no (h1 r hr)] at h2
 simpa [lenS] using h2
theorem beginF_ok {bs:List UInt8} (h:(beginF bs).e=0):bs.length≤1000∧¬ 0<(sgF [] 0 false (runesL bs)).2∧beginF bs=⟨(sgF [] 0 false (runesL bs)).1,0,0⟩:=by
 unfold beginF at h ⊢
 split at h
 ·exact absurd (show (5:Int)=0 from h) (by decide)
 split at h
 ·exact absurd (show (2:Int)=0 from h) (by decide)
 rename_i h1 h2
 exact ⟨by omega,h2,by rw [if_neg h1,if_neg h2]⟩
abbrev EvM:=Int×List UInt8×List UInt8×List UInt8×List UInt8×Int×Int×Tm
def EvM.e (m:EvM):EvT:=(m.1,str m.2.1,str m.2.2.1,str m.2.2.2.1,str m.2.2.2.2.1,m.2.2.2.2.2.1,m.2.2.2.2.2.2.1,m.2.2.2.2.2.2.2.v,())
def EvM.t (m:EvM):Tm:=m.2.2.2.2.2.2.2
def zeroM:EvM:=(0,[],[],[],[],0,0,.none)
def packM (m:EvM):List UInt8×Int:=packF m.e (writeT m.t).1 (writeT m.t).2
abbrev TkS:=List UInt8×Bool
def tkF (z:Bool) (n:Nat) (s:TkS):List UInt8×TkS:=if s.2=true∨s.1.length<n then (if z=true then List.replicate n 0 else [],(s.1,true)) else (s.1.take n,(s.1.drop n,false))
def txF (z:Bool) (size:Nat) (s:TkS):List UInt8×TkS:=tkF z (big (tkF z size s).1) (tkF z size s).2
def nuF (z:Bool) (s:TkS):Int×TkS:=((takeL (tkF z 8 s).1).1,((tkF z 8 s).2.1,(tkF z 8 s).2.2||(!z&&!(takeL (tkF z 8 s).1).2)))
def teF (z:Bool) (s:TkS):Tm×TkS:=((readT (txF z 2 s).1).1,((txF z 2 s).2.1,(txF z 2 s).2.2||(!z&&((readT (txF z 2 s).1).2.2 != 0))))
def evStep (z:Bool) (x:TkS×EvM) (c:UInt8):TkS×EvM:=
 if c=68 then ((nuF z x.1).2,(x.2.1,x.2.2.1,x.2.2.2.1,x.2.2.2.2.1,x.2.2.2.2.2.1,(nuF z x.1).1,x.2.2.2.2.2.2.2.1,x.2.2.2.2.2.2.2.2))
 else if c=86 then ((nuF z x.1).2,(x.2.1,x.2.2.1,x.2.2.2.1,x.2.2.2.2.1,x.2.2.2.2.2.1,x.2.2.2.2.2.2.1,(nuF z x.1).1,x.2.2.2.2.2.2.2.2))
 else if c=84 then ((teF z x.1).2,(x.2.1,x.2.2.1,x.2.2.2.1,x.2.2.2.2.1,x.2.2.2.2.2.1,x.2.2.2.2.2.2.1,x.2.2.2.2.2.2.2.1,(teF z x.1).1))
 else if c=73 then ((txF z 1 x.1).2,(x.2.1,(txF z 1 x.1).1,x.2.2.2.1,x.2.2.2.2.1,x.2.2.2.2.2.1,x.2.2.2.2.2.2.1,x.2.2.2.2.2.2.2.1,x.2.2.2.2.2.2.2.2))
 else if c=78 then ((txF z 1 x.1).2,(x.2.1,x.2.2.1,(txF z 1 x.1).1,x.2.2.2.2.1,x.2.2.2.2.2.1,x.2.2.2.2.2.2.1,x.2.2.2.2.2.2.2.1,x.2.2.2.2.2.2.2.2))
 else if c=76 then ((txF z 1 x.1).2,(x.2.1,x.2.2.1,x.2.2.2.1,(txF z 1 x.1).1,x.2.2.2.2.2.1,x.2.2.2.2.2.2.1,x.2.2.2.2.2.2.2.1,x.2.2.2.2.2.2.2.2))
 else ((txF z 1 x.1).2,(x.2.1,x.2.2.1,x.2.2.2.1,x.2.2.2.2.1,(txF z 1 x.1).1,x.2.2.2.2.2.2.1,x.2.2.2.2.2.2.2.1,x.2.2.2.2.2.2.2.2))
def takeM (z:Bool) (bs:List UInt8):TkS×EvM:=
 (fieldL (big (tkF z 1 (bs,false)).1:Int)).foldl (evStep z) ((tkF z 1 (bs,false)).2,((big (tkF z 1 (bs,false)).1:Int),[],[],[],[],0,0,.none))
def takeOk (z:Bool) (bs:List UInt8):Bool:=!(takeM z bs).1.2&&((packM (takeM z bs).2).2==0&&((packM (takeM z bs).2).1==bs&&(!z||(takeM z bs).1.1==[])))
def takeP (z:Bool) (bs:List UInt8):EvM×Int:=if takeOk z bs=true then ((takeM z bs).2,0) else (zeroM,2)
theorem tk_app (z:Bool) (a rest:List UInt8):tkF z a.length (a++rest,false)=(a,(rest,false)):=by
 unfold tkF
 rw [if_neg (by simp)]
 simp
theorem tk_app' (z:Bool) {n:Nat} (a rest:List UInt8) (h:a.length=n):tkF z n (a++rest,false)=(a,(rest,false)):=by rw [← h];exact tk_app z a rest
theorem big1 (b:UInt8):big [b]=b.toNat:=by unfold big;simp
theorem big2 (a b:UInt8):big [a,b]=a.toNat * 256+b.toNat:=by unfold big;simp
theorem tx_app (z:Bool) (s rest:List UInt8) (h:s.length≤255):txF z 1 (txtB s++rest,false)=(s,(rest,false)):=by
 unfold txF
 have h1:tkF z 1 (txtB s++rest,false)=([UInt8.ofNat (s.length % 256)],(s++rest,false)):=tk_app' z [UInt8.ofNat (s.length % 256)] (s++rest) rfl
 rw [h1]
 dsimp only
 rw [big1,u8_nat (Nat.mod_lt _ (by decide)),Nat.mod_eq_of_lt (by omega)]
 exact tk_app z s rest
theorem nu_app (z:Bool) (n:Int) (h0:-9223372036854775808≤n) (h1:n≤9223372036854775807) (rest:List UInt8):nuF z (numL n++rest,false)=(n,(rest,false)):=by
 unfold nuF
 rw [tk_app' z (numL n) rest (z9z n)]
 dsimp only
 rw [take_num n h0 h1]
 simp
theorem z32z (t:Tm):(writeT t).1.length≤1000:=by
 unfold writeT
 split
 ·simp
 split
 ·simp
 ·dsimp only;omega
theorem te_app (z:Bool) (t:Tm) (h:(writeT t).2=0) (rest:List UInt8) :
  teF z (UInt8.ofNat ((writeT t).1.length / 256 % 256)::UInt8.ofNat ((writeT t).1.length % 256)::(writeT t).1++rest,false)=(t,(rest,false)):=by
 unfold teF
 have hl:=z32z t
 have h1:txF z 2 (UInt8.ofNat ((writeT t).1.length / 256 % 256)::UInt8.ofNat ((writeT t).1.length % 256)::(writeT t).1++rest,false)=((writeT t).1,(rest,false)):=by
  unfold txF
  have h2:tkF z 2 (UInt8.ofNat ((writeT t).1.length / 256 % 256)::UInt8.ofNat ((writeT t).1.length % 256)::(writeT t).1++rest,false)=([UInt8.ofNat ((writeT t).1.length / 256 % 256),UInt8.ofNat ((writeT t).1.length % 256)],((writeT t).1++rest,false)):=
   tk_app' z [UInt8.ofNat ((writeT t).1.length / 256 % 256),UInt8.ofNat ((writeT t).1.length % 256)] ((writeT t).1++rest) rfl
  rw [h2]
  dsimp only
  rw [big2,u8_nat (Nat.mod_lt _ (by decide)),u8_nat (Nat.mod_lt _ (by decide)),show (writeT t).1.length / 256 % 256 * 256+(writeT t).1.length % 256=(writeT t).1.length by omega]
  exact tk_app z _ rest
 rw [h1]
 dsimp only
 rw [read_write h]
 simp
theorem check_zero {e:EvT} {tr:Int} (h:checkF e tr=0):fieldsF e.1≠[63]∧onlyF e=true∧namedF e=true∧0≤e.2.2.2.2.2.1∧e.2.2.2.2.2.1≤10000∧validF e.2.2.2.2.2.2.1=true∧(e.1=2→tr=0):=by
 unfold checkF at h
 by_cases c0:fieldsF e.1=[63]
 ·rw [if_pos c0] at h;cases h
 rw [if_neg c0] at h
 by_cases c1:onlyF e=false
 ·rw [if_pos c1] at h;cases h
 rw [if_neg c1] at h
 by_cases c2:namedF e=false
 ·rw [if_pos c2] at h;cases h
 rw [if_neg c2] at h
 by_cases c3:e.2.2.2.2.2.1<0
 ·rw [if_pos c3] at h;cases h
 rw [if_neg c3] at h
 by_cases c4:e.2.2.2.2.2.1 > 10000
 ·rw [if_pos c4] at h;cases h
 rw [if_neg c4] at h
 by_cases c5:validF e.2.2.2.2.2.2.1=false
 ·rw [if_pos c5] at h;cases h
 rw [if_neg c5] at h
 by_cases c6:e.1=4∧e.2.2.2.2.2.2.1≠0∧e.2.2.2.2.2.2.1≠1
 ·rw [if_pos c6] at h;cases h
 rw [if_neg c6] at h
 refine ⟨c0,by simpa using c1,by simpa using c2,by omega,by omega,by simpa using c5,fun k=>?_⟩
 rw [if_pos k] at h;exact h
theorem kinds_of {k:Int} (h:fieldsF k≠[63]):k=1∨k=2∨k=3∨k=4∨k=5∨k=6:=by
 unfold fieldsF at h
 repeat' split at h
 all_goals first | omega | exact (h rfl).elim
theorem z47z (s:List UInt8):emptyB (str s)=decide (s=[]):=by
 have e0:(⟨#[]⟩:ByteArray)=str []:=rfl
 unfold emptyB;rw [e0,str_beq]
theorem named_str (s:List UInt8):nameB (str s)=nameF 0 (runesL s):=by unfold nameB;rw [z5z]
theorem named_len {s:List UInt8} (h:nameF 0 (runesL s)=true):s.length≤255:=by
 have hb:=runes_bytes s.length s (Nat.le_refl _)
 rcases nameF_len _ _ h with t | t
 ·rw [t,List.length_nil] at hb;omega
 ·omega
theorem z42z {t:Tm} (h:nilT t.v=true):t=.none:=by cases t<;>first | rfl | (cases h)
theorem valid_rng {n:Int} (h:validF n=true):-9223372036854775808≤n∧n≤9223372036854775807:=by
 unfold validF at h
 simp only [Bool.and_eq_true,decide_eq_true_eq] at h
 omega
theorem tkp_head (z:Bool) (k:Nat) (hk:k<256) (rest:List UInt8):takeM z (UInt8.ofNat k::rest)=(fieldL (k:Int)).foldl (evStep z) ((rest,false),((k:Int),[],[],[],[],0,0,.none)):=by
 unfold takeM
 have h1:tkF z 1 (UInt8.ofNat k::rest,false)=([UInt8.ofNat k],(rest,false)):=tk_app' z [UInt8.ofNat k] rest rfl
 rw [h1]
 dsimp only
 rw [big1,u8_nat hk]
theorem field2:fieldL 2=[73,84]:=by decide
theorem field3:fieldL 3=[78,68,86]:=by decide
theorem field4:fieldL 4=[73,76,86]:=by decide
theorem field5:fieldL 5=[68]:=by decide
theorem field6:fieldL 6=[67,68,86]:=by decide
theorem pack_zero {m:EvM} {bs:List UInt8} (h:packM m=(bs,0)):checkF m.e (writeT m.t).2=0∧bs=UInt8.ofNat (m.e.1 % 256).toNat::(fieldL m.e.1).flatMap (fieldB m.e (writeT m.t).1):=by
 unfold packM packF at h
 split at h
 ·rename_i c
  injection h with _ h
  exact (c h).elim
 ·rename_i c
  injection h with h _
  exact ⟨Classical.not_not.1 c,h.symm⟩
theorem app_cons (a:UInt8) (l r:List UInt8):(a::l)++r=a::(l++r):=rfl
theorem tkp_rest (z:Bool) (m:EvM) {bs:List UInt8} (h:packM m=(bs,0)) (rest:List UInt8):takeM z (bs++rest)=((rest,false),m):=by
 obtain ⟨hc,rfl⟩:=pack_zero h
 obtain ⟨hk,ho,hn,d0,d1,hv,ht⟩:=check_zero hc
 obtain ⟨v0,v1⟩:=valid_rng hv
 obtain ⟨k,i,n,l,c,d,v,t⟩:=m
 simp only [EvM.e] at hk ho hn d0 d1 hv ht v0 v1
 simp only [EvM.e,EvM.t] at ht ⊢
 rcases kinds_of hk with rfl | rfl | rfl | rfl | rfl | rfl
 ·simp [onlyF,hasF,fieldsF,z47z] at ho
  obtain ⟨⟨⟨⟨rfl,rfl⟩,rfl⟩,rfl⟩,⟨rfl,rfl⟩,hz⟩:=ho
  obtain rfl:=z42z hz
  rw [app_cons (UInt8.ofNat ((1:Int) % 256).toNat),show ((1:Int) % 256).toNat=1 by decide,tkp_head z 1 (by decide)]
  rfl
 ·simp [onlyF,hasF,fieldsF,z47z] at ho
  simp [namedF,hasF,fieldsF,named_str] at hn
  obtain ⟨⟨⟨rfl,rfl⟩,rfl⟩,rfl,rfl⟩:=ho
  rw [app_cons (UInt8.ofNat ((2:Int) % 256).toNat),show ((2:Int) % 256).toNat=2 by decide,tkp_head z 2 (by decide),field2,show ((2:Nat):Int)=2 by rfl,field2]
  have hb1:fieldB (2,str i,str [],str [],str [],0,0,t.v,()) (writeT t).1 73=txtB i:=by
   show txtB (str i).data.toList=_;rw [z5z]
  have hb2:fieldB (2,str i,str [],str [],str [],0,0,t.v,()) (writeT t).1 84=UInt8.ofNat ((writeT t).1.length / 256 % 256)::UInt8.ofNat ((writeT t).1.length % 256)::(writeT t).1:=rfl
  rw [List.flatMap_cons,List.flatMap_cons,List.flatMap_nil,hb1,hb2,List.append_nil,List.append_assoc]
  rw [List.foldl_cons,List.foldl_cons,List.foldl_nil]
  have s1:∀ x,evStep z x 73=((txF z 1 x.1).2,(x.2.1,(txF z 1 x.1).1,x.2.2.2.1,x.2.2.2.2.1,x.2.2.2.2.2.1,x.2.2.2.2.2.2.1,x.2.2.2.2.2.2.2.1,x.2.2.2.2.2.2.2.2)):=fun x=>rfl
  have s2:∀ x,evStep z x 84=((teF z x.1).2,(x.2.1,x.2.2.1,x.2.2.2.1,x.2.2.2.2.1,x.2.2.2.2.2.1,x.2.2.2.2.2.2.1,x.2.2.2.2.2.2.2.1,(teF z x.1).1)):=fun x=>rfl
  rw [s1,s2]
  dsimp only
  rw [tx_app z i _ (named_len hn)]
  dsimp only
  rw [te_app z t (ht rfl)]
 ·simp [onlyF,hasF,fieldsF,z47z] at ho
  simp [namedF,hasF,fieldsF,named_str] at hn
  obtain ⟨⟨⟨rfl,rfl⟩,rfl⟩,hz⟩:=ho
  obtain rfl:=z42z hz
  rw [app_cons (UInt8.ofNat ((3:Int) % 256).toNat),show ((3:Int) % 256).toNat=3 by decide,tkp_head z 3 (by decide),field3,show ((3:Nat):Int)=3 by rfl,field3]
  have hb1:fieldB (3,str [],str n,str [],str [],d,v,Tm.none.v,()) (writeT .none).1 78=txtB n:=by
   show txtB (str n).data.toList=_;rw [z5z]
  have hb2:fieldB (3,str [],str n,str [],str [],d,v,Tm.none.v,()) (writeT .none).1 68=numL d:=rfl
  have hb3:fieldB (3,str [],str n,str [],str [],d,v,Tm.none.v,()) (writeT .none).1 86=numL v:=rfl
  rw [List.flatMap_cons,List.flatMap_cons,List.flatMap_cons,List.flatMap_nil,hb1,hb2,hb3,List.append_nil,List.append_assoc,List.append_assoc]
  rw [List.foldl_cons,List.foldl_cons,List.foldl_cons,List.foldl_nil]
  have s1:∀ x,evStep z x 78=((txF z 1 x.1).2,(x.2.1,x.2.2.1,(txF z 1 x.1).1,x.2.2.2.2.1,x.2.2.2.2.2.1,x.2.2.2.2.2.2.1,x.2.2.2.2.2.2.2.1,x.2.2.2.2.2.2.2.2)):=fun x=>rfl
  have s2:∀ x,evStep z x 68=((nuF z x.1).2,(x.2.1,x.2.2.1,x.2.2.2.1,x.2.2.2.2.1,x.2.2.2.2.2.1,(nuF z x.1).1,x.2.2.2.2.2.2.2.1,x.2.2.2.2.2.2.2.2)):=fun x=>rfl
  have s3:∀ x,evStep z x 86=((nuF z x.1).2,(x.2.1,x.2.2.1,x.2.2.2.1,x.2.2.2.2.1,x.2.2.2.2.2.1,x.2.2.2.2.2.2.1,(nuF z x.1).1,x.2.2.2.2.2.2.2.2)):=fun x=>rfl
  rw [s1,s2,s3]
  dsimp only
  rw [tx_app z n _ (named_len hn)]
  dsimp only
  rw [nu_app z d (by omega) (by omega)]
  dsimp only
  rw [nu_app z v v0 v1]
 ·simp [onlyF,hasF,fieldsF,z47z] at ho
  simp [namedF,hasF,fieldsF,named_str] at hn
  obtain ⟨⟨rfl,rfl⟩,rfl,hz⟩:=ho
  obtain rfl:=z42z hz
  rw [app_cons (UInt8.ofNat ((4:Int) % 256).toNat),show ((4:Int) % 256).toNat=4 by decide,tkp_head z 4 (by decide),field4,show ((4:Nat):Int)=4 by rfl,field4]
  have hb1:fieldB (4,str i,str [],str l,str [],0,v,Tm.none.v,()) (writeT .none).1 73=txtB i:=by
   show txtB (str i).data.toList=_;rw [z5z]
  have hb2:fieldB (4,str i,str [],str l,str [],0,v,Tm.none.v,()) (writeT .none).1 76=txtB l:=by
   show txtB (str l).data.toList=_;rw [z5z]
  have hb3:fieldB (4,str i,str [],str l,str [],0,v,Tm.none.v,()) (writeT .none).1 86=numL v:=rfl
  rw [List.flatMap_cons,List.flatMap_cons,List.flatMap_cons,List.flatMap_nil,hb1,hb2,hb3,List.append_nil,List.append_assoc,List.append_assoc]
  rw [List.foldl_cons,List.foldl_cons,List.foldl_cons,List.foldl_nil]
  have s1:∀ x,evStep z x 73=((txF z 1 x.1).2,(x.2.1,(txF z 1 x.1).1,x.2.2.2.1,x.2.2.2.2.1,x.2.2.2.2.2.1,x.2.2.2.2.2.2.1,x.2.2.2.2.2.2.2.1,x.2.2.2.2.2.2.2.2)):=fun x=>rfl
  have s2:∀ x,evStep z x 76=((txF z 1 x.1).2,(x.2.1,x.2.2.1,x.2.2.2.1,(txF z 1 x.1).1,x.2.2.2.2.2.1,x.2.2.2.2.2.2.1,x.2.2.2.2.2.2.2.1,x.2.2.2.2.2.2.2.2)):=fun x=>rfl
  have s3:∀ x,evStep z x 86=((nuF z x.1).2,(x.2.1,x.2.2.1,x.2.2.2.1,x.2.2.2.2.1,x.2.2.2.2.2.1,x.2.2.2.2.2.2.1,(nuF z x.1).1,x.2.2.2.2.2.2.2.2)):=fun x=>rfl
  rw [s1,s2,s3]
  dsimp only
  rw [tx_app z i _ (named_len hn.1)]
  dsimp only
  rw [tx_app z l _ (named_len hn.2)]
  dsimp only
  rw [nu_app z v v0 v1]
 ·simp [onlyF,hasF,fieldsF,z47z] at ho
  obtain ⟨⟨⟨⟨rfl,rfl⟩,rfl⟩,rfl⟩,rfl,hz⟩:=ho
  obtain rfl:=z42z hz
  rw [app_cons (UInt8.ofNat ((5:Int) % 256).toNat),show ((5:Int) % 256).toNat=5 by decide,tkp_head z 5 (by decide),field5,show ((5:Nat):Int)=5 by rfl,field5]
  have hb2:fieldB (5,str [],str [],str [],str [],d,0,Tm.none.v,()) (writeT .none).1 68=numL d:=rfl
  rw [List.flatMap_cons,List.flatMap_nil,hb2,List.append_nil]
  rw [List.foldl_cons,List.foldl_nil]
  have s2:∀ x,evStep z x 68=((nuF z x.1).2,(x.2.1,x.2.2.1,x.2.2.2.1,x.2.2.2.2.1,x.2.2.2.2.2.1,(nuF z x.1).1,x.2.2.2.2.2.2.2.1,x.2.2.2.2.2.2.2.2)):=fun x=>rfl
  rw [s2]
  dsimp only
  rw [nu_app z d (by omega) (by omega)]
 ·simp [onlyF,hasF,fieldsF,z47z] at ho
  simp [namedF,hasF,fieldsF,named_str] at hn
  obtain ⟨⟨⟨rfl,rfl⟩,rfl⟩,hz⟩:=ho
  obtain rfl:=z42z hz
  rw [app_cons (UInt8.ofNat ((6:Int) % 256).toNat),show ((6:Int) % 256).toNat=6 by decide,tkp_head z 6 (by decide),field6,show ((6:Nat):Int)=6 by rfl,field6]
  have hb1:fieldB (6,str [],str [],str [],str c,d,v,Tm.none.v,()) (writeT .none).1 67=txtB c:=by
   show txtB (str c).data.toList=_;rw [z5z]
  have hb2:fieldB (6,str [],str [],str [],str c,d,v,Tm.none.v,()) (writeT .none).1 68=numL d:=rfl
  have hb3:fieldB (6,str [],str [],str [],str c,d,v,Tm.none.v,()) (writeT .none).1 86=numL v:=rfl
  rw [List.flatMap_cons,List.flatMap_cons,List.flatMap_cons,List.flatMap_nil,hb1,hb2,hb3,List.append_nil,List.append_assoc,List.append_assoc]
  rw [List.foldl_cons,List.foldl_cons,List.foldl_cons,List.foldl_nil]
  have s1:∀ x,evStep z x 67=((txF z 1 x.1).2,(x.2.1,x.2.2.1,x.2.2.2.1,x.2.2.2.2.1,(txF z 1 x.1).1,x.2.2.2.2.2.2.1,x.2.2.2.2.2.2.2.1,x.2.2.2.2.2.2.2.2)):=fun x=>rfl
  have s2:∀ x,evStep z x 68=((nuF z x.1).2,(x.2.1,x.2.2.1,x.2.2.2.1,x.2.2.2.2.1,x.2.2.2.2.2.1,(nuF z x.1).1,x.2.2.2.2.2.2.2.1,x.2.2.2.2.2.2.2.2)):=fun x=>rfl
  have s3:∀ x,evStep z x 86=((nuF z x.1).2,(x.2.1,x.2.2.1,x.2.2.2.1,x.2.2.2.2.1,x.2.2.2.2.2.1,x.2.2.2.2.2.2.1,(nuF z x.1).1,x.2.2.2.2.2.2.2.2)):=fun x=>rfl
  rw [s1,s2,s3]
  dsimp only
  rw [tx_app z c _ (named_len hn)]
  dsimp only
  rw [nu_app z d (by omega) (by omega)]
  dsimp only
  rw [nu_app z v v0 v1]
theorem tkp_step (z:Bool) (m:EvM) {bs:List UInt8} (h:packM m=(bs,0)):takeM z bs=(([],false),m):=by
 have:=tkp_rest z m h []
 rwa [List.append_nil] at this
theorem tkp_back (z:Bool) {m:EvM} {bs:List UInt8} (h:packM m=(bs,0)):takeP z bs=(m,0):=by
 unfold takeP takeOk
 rw [tkp_step z m h]
 dsimp only
 rw [h]
 simp
theorem tkp_sound {z:Bool} {bs:List UInt8} (h:(takeP z bs).2=0):packM (takeP z bs).1=(bs,0):=by
 unfold takeP at h ⊢
 split at h
 ·rename_i c
  rw [if_pos c]
  unfold takeOk at c
  simp only [Bool.and_eq_true,beq_iff_eq] at c
  obtain ⟨_,c1,c2,_⟩:=c
  exact Prod.ext c2 c1
 ·cases h
theorem tkp_bad {z:Bool} {bs:List UInt8} (h:(takeP z bs).2≠0):takeP z bs=(zeroM,2):=by
 unfold takeP at h ⊢
 split at h
 ·exact (h rfl).elim
 ·rename_i c;rw [if_neg c]
theorem tkp_same (bs:List UInt8):takeP true bs=takeP false bs:=by
 by_cases h:(takeP true bs).2=0
 ·rw [tkp_back false (tkp_sound h)];exact Prod.ext rfl h
 by_cases h':(takeP false bs).2=0
 ·rw [tkp_back true (tkp_sound h')];exact Prod.ext rfl h'.symm
 rw [tkp_bad h,tkp_bad h']
namespace Vc
end Vc
theorem txt_of {w:World} {v:Sl} {bs:List UInt8} (h:RdB w v bs):(convert 22 9 (.slice v.1 v.2.1 v.2.2)).run Tryz.prog w=.ok (.string (str bs)) w:=by
 show _=Result.ok (Value.string ⟨bs.toArray⟩) w
 rw [run_convert_bytes_string w _ _ 5 v.1 v.2.1 v.2.2 Tryz.underlying22 Tryz.underlying5 Tryz.underlying9]
 have hl:=h.len
 obtain ⟨h1,h2,h3⟩:=h
 cases hv:v.1 with
 | none=>
  have:bs=[]:=by have:=(h2 hv).2.2;simpa using this
  subst this
  rfl
 | some a=>
  have hc:=h3 a hv
  have hload:(loadCells a v.2.1).run Tryz.prog w=.ok ((bs.map fun b=>(b.toNat:Int)).map (Value.int .u8)).toArray w:=by
   have:=z31z (P:=Tryz.prog) (bs.map bc) hc
   rw [List.length_map,← hl] at this
   rw [this]
   congr 1
   rw [List.map_map]
   rfl
  rw [run_bytesToString w a v.2.1 v.2.2 _ hload,foldl_push_bytes]
  have e:((bs.map fun b=>(b.toNat:Int)).map fun n=>UInt8.ofNat n.toNat)=bs:=by
   rw [List.map_map]
   conv=>rhs;rw [← List.map_id bs]
   refine List.map_congr_left fun b _=>?_
   simp
  rw [e]
  congr 2
  simp
theorem packF_len (e:EvT) (hz:smallE e) (ts:List UInt8) (hts:ts.length≤1000000) (tr:Int):(packF e ts tr).1.length≤10000000:=by
 unfold packF
 split
 ·simp
 have hl7:(fieldL e.1).length≤7:=by unfold fieldL;exact Nat.le_trans (List.length_filter_le _ _) (by decide)
 have hbound:∀ l:List UInt8,(l.flatMap (fieldB e ts)).length≤l.length * 1000010:=by
  intro l
  induction l with
  | nil=>simp
  | cons a l ih=>rw [List.flatMap_cons,List.length_append,List.length_cons];have:=fieldB_len e hz ts hts a;omega
 have:=hbound (fieldL e.1)
 simp only [List.length_cons]
 omega
namespace Vc
open Go.ChangeShapes Go.WideShapes
variable {P:Program}
def IsNest (k:IntKind) (w:World) (a:Option Addr) (len cap:Nat) (us:List (Sl×List Int)):Prop:=
 (a=none∧len=0∧cap=0∧us=[]) ∨
 ∃ x,a=some x∧len≤cap∧cap≤maxLen∧us.length=len∧∀ i u,us[i]? = some u→w.cell? (x.add i)=some (.slice u.1.1 u.1.2.1 u.1.2.2)∧IsInts k w u.1.1 u.1.2.1 u.1.2.2 u.2
theorem list_of {α:Type} {Q:Nat→α→Prop}:∀ (n:Nat),(∀ i,i<n→∃ u,Q i u)→∃ us:List α,us.length=n∧∀ i u,us[i]? = some u→Q i u
 | 0,_=>⟨[],rfl,fun i u h=>by simp at h⟩
 | n+1,h=>by
  obtain ⟨us,hl,hu⟩:=list_of n (fun i hi=>h i (by omega))
  obtain ⟨u,hq⟩:=h n (by omega)
  refine ⟨us++[u],by simp [hl],fun i x hx=>?_⟩
  by_cases hi:i<us.length
  ·rw [List.getElem?_append_left hi] at hx;exact hu i x hx
  ·rw [List.getElem?_append_right (by omega)] at hx
   have:i=n:=by
    have:=(List.getElem?_eq_some_iff.1 hx).1
    simp at this;omega
   subst this
   rw [← hl,Nat.sub_self] at hx
   simp at hx
   subst hx;exact hq
theorem open_nest {H:Type} {enc:TypeId×Value→H} {w:World} {base:Nat} {held:Bool} {t e ee:TypeId} {k:IntKind} {fuel:Nat} {cs:List Value} {x:DataW H×List MemPlace}
  (ht:P.underlying t=some (.slice e)) (he:P.underlying e=some (.slice ee)) (hee:P.underlying ee=some (.int k)) (hc:P.cellsOf e=1) (hc2:P.cellsOf ee=1)
  (h:DataW.trod enc P w base (fun _=>true) held fuel t cs=some x):∃ a len cap us,cs=[.slice a len cap]∧IsNest k w a len cap us:=by
 rcases DataW.trod_slice ht h with ⟨h0,_⟩ | ⟨a,len,cap,elems,rest,n,_,hcs,_,hb,hl,hm,hlen,hel,_,_⟩
 ·exact ⟨none,0,0,[],h0,.inl ⟨rfl,rfl,rfl,rfl⟩⟩
 obtain ⟨us,ul,hu⟩:=list_of (α:=Sl×List Int) (Q:=fun i u=>w.cell? (a.add i)=some (.slice u.1.1 u.1.2.1 u.1.2.2)∧IsInts k w u.1.1 u.1.2.1 u.1.2.2 u.2) len fun i hi=>by
  have hb':=hel i hi
  rw [List.getElem?_eq_getElem (by omega),hc,Nat.mul_one,Option.bind_eq_some_iff] at hb'
  obtain ⟨cs',hcs',hy'⟩:=hb'
  rcases open_ints he hee hc2 hy' with ⟨rfl,_⟩ | ⟨y,l,c,zs,rfl,_,hl',hm',hz',_,hcell,hwz⟩
  ·exact ⟨((none,0,0),[]),cell_of_cells?_one hcs',.inl ⟨rfl,rfl,rfl,rfl⟩⟩
  ·exact ⟨((some y,l,c),zs),cell_of_cells?_one hcs',.inr ⟨y,rfl,hl',hm',by simpa using hz',hcell,hwz⟩⟩
 exact ⟨some a,len,cap,us,hcs,.inr ⟨a,rfl,hl,hm,ul,hu⟩⟩
theorem add_add (a:Addr) (m n:Nat):(a.add m).add n=a.add (m+n):=by
 unfold Addr.add
 by_cases hm:m=0
 ·subst hm;simp
 ·by_cases hn:n=0
  ·subst hn;simp [hm]
  ·simp [hm,hn,Nat.add_assoc]
theorem z10z {w:World} {a:Addr} {m:Nat}:∀ (vs:List Value) (i:Nat),CellsAt w a (m+i) vs→CellsAt w (a.add m) i vs
 | [],_,_=>trivial
 | v::vs,i,⟨h1,h2⟩=>⟨by rw [add_add];exact h1,z10z vs (i+1) h2⟩
theorem cellsAt_drop {w:World} {a:Addr}:∀ (m:Nat) (vs:List Value) (i:Nat),CellsAt w a i vs→CellsAt w a (i+m) (vs.drop m)
 | 0,vs,i,h=>h
 | m+1,[],i,_=>trivial
 | m+1,v::vs,i,⟨_,h2⟩=>by
  have:=cellsAt_drop m vs (i+1) h2
  rw [show i+1+m=i+(m+1) by omega] at this
  exact this
theorem RdSl.mid {w:World} {v:Sl} {xs:List Value} (h:RdSl w 1 v xs) {lo hi:Int} (h0:0≤lo) (h1:lo≤hi) (h2:hi≤v.2.1) (hc:v.2.1≤v.2.2) {K:Option Addr→Nat→Nat→Prop}
  (k:∀ u:Sl,RdSl w 1 u ((xs.drop lo.toNat).take (hi - lo).toNat)→u.2.1≤u.2.2→u.2.1=(hi - lo).toNat→(∀ k,blkOf u k→blkOf v k)→K u.1 u.2.1 u.2.2):SubK v.1 v.2.2 lo hi v.2.2 1 K:=by
 refine ⟨h0,h1,by omega,by omega,?_⟩
 obtain ⟨a,b,c⟩:=h
 obtain ⟨B,hB⟩:∃ B:Option Addr,(if (v.2.2:Int)=lo then v.1 else v.1.map (·.add (lo.toNat * 1)))=B:=⟨_,rfl⟩
 obtain ⟨n,hn⟩:∃ n:Nat,(hi - lo).toNat=n:=⟨_,rfl⟩
 obtain ⟨m,hm⟩:∃ m:Nat,((v.2.2:Int) - lo).toNat=m:=⟨_,rfl⟩
 rw [hn] at k
 rw [hB,hn,hm]
 refine k (B,n,m) ⟨?_,fun hN=>?_,fun y hy=>?_⟩ (by dsimp only;omega) rfl ?_
 ·dsimp only
  simp only [List.length_take,List.length_drop]
  omega
 ·dsimp only at hN ⊢
  have hv:v.1=none:=by
   rw [hN] at hB
   split at hB
   ·exact hB
   ·cases hv:v.1 with
    | none=>rfl
    | some x=>rw [hv] at hB;cases hB
  obtain ⟨e1,e2,e3⟩:=b hv
  subst e3
  exact ⟨by omega,by omega,by simp⟩
 ·dsimp only at hy
  rw [hy] at hB
  split at hB
  ·rename_i he
   have:n=0:=by omega
   rw [this,List.take_zero]
   exact trivial
  ·cases hv:v.1 with
   | none=>rw [hv] at hB;cases hB
   | some x=>
    rw [hv] at hB
    injection hB with hB
    subst hB
    rw [Nat.mul_one]
    refine z28z _ _ _ (z10z _ 0 ?_)
    have:=cellsAt_drop lo.toNat xs 0 (c x hv)
    rw [Nat.zero_add] at this
    exact this
 ·rintro j ⟨y,hy,hj⟩
  dsimp only at hy
  rw [hy] at hB
  split at hB
  ·exact ⟨y,hB,hj⟩
  ·cases hv:v.1 with
   | none=>rw [hv] at hB;cases hB
   | some x=>
    rw [hv] at hB
    injection hB with hB
    refine ⟨x,hv,?_⟩
    rw [hj,← hB]
    unfold Addr.add
    split<;>rfl
end Vc
namespace Vc
variable {P:Program}
theorem fold_set (off:Nat):∀ (l:List Value) (j:Nat) (cur:Array Value),off+j+l.length≤cur.size →
  ((l.zipIdx j).foldl (fun (cs:Array Value) (x:Value×Nat)=>cs.setIfInBounds (off+x.2) x.1) cur).toList=cur.toList.take (off+j)++l++cur.toList.drop (off+j+l.length)
 | [],j,cur,_=>by simp
 | c::l,j,cur,h=>by
  simp only [List.length_cons] at h
  rw [List.zipIdx_cons,List.foldl_cons,fold_set off l (j+1) _ (by simp;omega)]
  rw [Array.toList_setIfInBounds]
  have hlt:off+j<cur.toList.length:=by simp;omega
  rw [show off+(j+1)=off+j+1 by omega,List.take_succ_eq_append_getElem (by rw [List.length_set];exact hlt),List.take_set_of_le (Nat.le_refl _),List.getElem_set_self,List.drop_set_of_lt (by omega)]
  simp only [List.append_assoc,List.cons_append,List.nil_append,List.length_cons]
  congr 4
  omega
theorem fill_many (s n:Nat):∀ (vs:List (List Value)) (k:Nat) (cur:Array Value),(∀ l∈vs,l.length=s)→k+vs.length=n→cur.size=n * s →
  ∃ out,Instr.fill (fun i=>some (i * s,s)) cur ((vs.zipIdx k).map fun (l,i)=>(i,.agg l.toArray))=some out∧out.toList=cur.toList.take (k * s)++vs.flatten
 | [],k,cur,_,hk,hc=>by
  simp only [List.length_nil,Nat.add_zero] at hk
  subst hk
  exact ⟨cur,rfl,by rw [List.take_of_length_le (by simp [hc])];simp⟩
 | l::vs,k,cur,hl,hk,hc=>by
  simp only [List.length_cons] at hk
  have hls:=hl l (by simp)
  have hb:k * s+s≤n * s:=by rw [← Nat.succ_mul];exact Nat.mul_le_mul_right _ (by omega)
  have hcur:(l.toArray.zipIdx.foldl (fun cs (x:Value×Nat)=>cs.setIfInBounds (k * s+x.2) x.1) cur).toList=cur.toList.take (k * s)++l++cur.toList.drop (k * s+l.length):=by
   rw [← Array.foldl_toList,Array.toList_zipIdx]
   have:=fold_set (k * s) l 0 cur (by omega)
   simpa using this
  have hsz:(l.toArray.zipIdx.foldl (fun cs (x:Value×Nat)=>cs.setIfInBounds (k * s+x.2) x.1) cur).size=n * s:=by
   rw [← Array.length_toList,hcur]
   simp only [List.length_append,List.length_take,List.length_drop,Array.length_toList]
   omega
  obtain ⟨out,ho,hout⟩:=fill_many s n vs (k+1) _ (fun x hx=>hl x (by simp [hx])) (by omega) hsz
  refine ⟨out,?_,?_⟩
  ·have hc1:(Value.agg l.toArray).cells.size=s:=by show l.toArray.size=s;simp [hls]
   simp only [List.zipIdx_cons,List.map_cons,Instr.fill]
   rw [if_neg (by simp [hc1];omega)]
   exact ho
  ·have hlen:(cur.toList.take (k * s)++l).length=(k+1) * s:=by
    rw [List.length_append,List.length_take,Array.length_toList,Nat.succ_mul];omega
   rw [hout,hcur,List.take_left' hlen,List.flatten_cons,List.append_assoc]
theorem lits_ok {w:World} {t E s bytes:Nat} {z:Value} (he:ElemOk P t E s z bytes) (vs:List (List Value)) (hl:∀ l∈vs,l.length=s) (hn:vs.length * s≤2 ^ 24) :
  ∃ (v:Sl) (w':World),(Instr.buildSlice t vs.length ((vs.zipIdx.map fun (l,i)=>(i,Value.agg l.toArray)).toArray)).run P w=.ok (.slice v.1 v.2.1 v.2.2) w'∧IsSl w' E s v vs.flatten∧v.2.1=vs.length∧Fr none1 w w'∧(∀ k,blkOf v k→w.heap.size≤k):=by
 obtain ⟨out,ho,hout⟩:=fill_many s vs.length vs 0 ((Array.range (vs.length * s)).map (z.cells[· % z.cells.size]!)) hl (by simp) (by simp)
 rw [Nat.zero_mul,List.take_zero,List.nil_append] at hout
 have hfl:∀ vs:List (List Value),(∀ l∈vs,l.length=s)→vs.flatten.length=vs.length * s:=by
  intro vs
  induction vs with
  | nil=>intro _;simp
  | cons l vs ih=>
   intro h
   rw [List.flatten_cons,List.length_append,h l (by simp),ih (fun x hx=>h x (by simp [hx])),List.length_cons,Nat.succ_mul]
   omega
 obtain ⟨v,w',a,b,c⟩:=z55z (w:=w) he vs.length ((vs.zipIdx.map fun (l,i)=>(i,Value.agg l.toArray)).toArray) out hn (by simpa using ho) (by rw [← Array.length_toList,hout,hfl vs hl])
 rw [hout] at b
 exact ⟨v,w',a,b,c⟩
theorem flat_drop {α:Type} {s:Nat}:∀ (vs:List (List α)) (i:Nat),(∀ l∈vs,l.length=s)→vs.flatten.drop (i * s)=(vs.drop i).flatten
 | vs,0,_=>by simp
 | [],i+1,_=>by simp
 | l::vs,i+1,h=>by
  rw [List.flatten_cons,List.drop_succ_cons,Nat.succ_mul,Nat.add_comm,← h l (by simp),← List.drop_drop,List.drop_left,h l (by simp),flat_drop vs i fun x hx=>h x (by simp [hx])]
theorem RdSl.lds {w:World} {v:Sl} {vs:List (List Value)} {s:Nat} (h:RdSl w s v vs.flatten) (hs:∀ l∈vs,l.length=s) {cks:List Ck} {x:Cs cks} {i:Nat} (hx:vs[i]? = some (Cs.vals cks x)) (hi:i<v.2.1) {K:Cs cks→Prop} (k:K x) {p:Addr} (hp:v.1=some p) :
  LdsK cks (p.add (i * s)) w K:=by
 obtain ⟨h1,h2,h3⟩:=h
 have hc:=cellsAt_drop (i * s) _ 0 (h3 p hp)
 rw [Nat.zero_add,flat_drop vs i hs] at hc
 refine ⟨x,?_,k⟩
 have hlen:=hs _ (List.mem_of_getElem? hx)
 have hd:vs.drop i=Cs.vals cks x::vs.drop (i+1):=by
  obtain ⟨hlt,he⟩:=List.getElem?_eq_some_iff.1 hx
  rw [List.drop_eq_getElem_cons hlt,he]
 rw [hd,List.flatten_cons] at hc
 have ht:=z28z _ _ s (z10z (m:=i * s) _ 0 hc)
 rw [← hlen,List.take_left] at ht
 rw [hlen] at ht
 exact ht
end Vc
def C104 (p0:YZ3) (w:World) (K:Value→World→Prop):Prop:=
 NewK (.cells ((LZ3 p0).toArray) 41) w (fun g1 w2=>LdK (.int .i64) ((ad g1).add 0) w2 (fun (x3:Int)=>ifB (x3==11)
 (LdK (.int .i64) ((ad g1).add 2) w2 (fun (x4:Int)=>K (.iface 108 (.agg #[.int .i64 x4])) w2))
 (ifB (x3==12)
 (LdK .str ((ad g1).add 1) w2 (fun (x5:ByteArray)=>K (.iface 210 (.agg #[.string x5])) w2))
 (ifB (x3==13)
 (DrewK w2 (fun w6=>HoldK (fun S7=>InK S7 ((ad g1).add 3) (LdK .slc ((ad g1).add 3) w6 (fun (x8:SlT)=>IdxK x8.1 x8.2.1 0 4 (fun a9=>InK S7 a9 (LdsK KZ3 a9 w6 (fun (x10:YZ3)=>InK S7 ((ad g1).add 3) (LdK .slc ((ad g1).add 3) w6 (fun (x11:SlT)=>IdxK x11.1 x11.2.1 1 4 (fun a12=>InK S7 a12 (LdsK KZ3 a12 w6 (fun (x13:YZ3)=>CallK Tryz.prog 104 #[.agg (LZ3 x10).toArray] w6 (.v (.one .raw)) (fun (x14:Value) w15=>KeepK S7 w6 w15 (CallK Tryz.prog 104 #[.agg (LZ3 x13).toArray] w15 (.v (.one .raw)) (fun (x16:Value) w17=>KeepK S7 w15 w17 (OneK x14 (OneK x16 (K (.iface 252 (.agg #[x14,x16])) w17)))))))))))))))))))
 (ifB (x3==14)
 (LdK .slc ((ad g1).add 3) w2 (fun (x18:SlT)=>IdxK x18.1 x18.2.1 0 4 (fun a19=>LdsK KZ3 a19 w2 (fun (x20:YZ3)=>CallK Tryz.prog 104 #[.agg (LZ3 x20).toArray] w2 (.v (.one .raw)) (fun (x21:Value) w22=>OneK x21 (K (.iface 254 (.agg #[x21])) w22))))))
 (ifB (x3==15)
 (DrewK w2 (fun w23=>HoldK (fun S24=>InK S24 ((ad g1).add 3) (LdK .slc ((ad g1).add 3) w23 (fun (x25:SlT)=>IdxK x25.1 x25.2.1 0 4 (fun a26=>InK S24 a26 (LdsK KZ3 a26 w23 (fun (x27:YZ3)=>InK S24 ((ad g1).add 3) (LdK .slc ((ad g1).add 3) w23 (fun (x28:SlT)=>IdxK x28.1 x28.2.1 1 4 (fun a29=>InK S24 a29 (LdsK KZ3 a29 w23 (fun (x30:YZ3)=>CallK Tryz.prog 104 #[.agg (LZ3 x27).toArray] w23 (.v (.one .raw)) (fun (x31:Value) w32=>KeepK S24 w23 w32 (CallK Tryz.prog 104 #[.agg (LZ3 x30).toArray] w32 (.v (.one .raw)) (fun (x33:Value) w34=>KeepK S24 w32 w34 (OneK x31 (OneK x33 (K (.iface 255 (.agg #[x31,x33])) w34)))))))))))))))))))
 (ifB (x3==16)
 (DrewK w2 (fun w35=>HoldK (fun S36=>InK S36 ((ad g1).add 3) (LdK .slc ((ad g1).add 3) w35 (fun (x37:SlT)=>IdxK x37.1 x37.2.1 0 4 (fun a38=>InK S36 a38 (LdsK KZ3 a38 w35 (fun (x39:YZ3)=>InK S36 ((ad g1).add 3) (LdK .slc ((ad g1).add 3) w35 (fun (x40:SlT)=>IdxK x40.1 x40.2.1 1 4 (fun a41=>InK S36 a41 (LdsK KZ3 a41 w35 (fun (x42:YZ3)=>CallK Tryz.prog 104 #[.agg (LZ3 x39).toArray] w35 (.v (.one .raw)) (fun (x43:Value) w44=>KeepK S36 w35 w44 (CallK Tryz.prog 104 #[.agg (LZ3 x42).toArray] w44 (.v (.one .raw)) (fun (x45:Value) w46=>KeepK S36 w44 w46 (OneK x43 (OneK x45 (K (.iface 256 (.agg #[x43,x45])) w46)))))))))))))))))))
 (K .nilIface w2))))))))
def pl104:Plan:=(.seq .auto (.seq (.seq .auto (.block (.seq .auto (.cond .auto (.seq .auto (.cond .auto (.seq .auto (.cond (.seq (.held (.soft 0 (.soft 1 (.soft 2 (.soft 3 (.soft 5 (.soft 6 (.soft 7 (.soft 8 (.pick 4 (.pick 9 (.soft 10 (.soft 11 (.soft 12 .done))) .stop) .stop)))))))))) .auto) (.seq .auto (.cond .auto (.seq .auto (.cond (.seq (.held (.soft 0 (.soft 1 (.soft 2 (.soft 3 (.soft 5 (.soft 6 (.soft 7 (.soft 8 (.pick 4 (.pick 9 (.soft 10 (.soft 11 (.soft 12 .done))) .stop) .stop)))))))))) .auto) (.seq .auto (.cond (.seq (.held (.soft 0 (.soft 1 (.soft 2 (.soft 3 (.soft 5 (.soft 6 (.soft 7 (.soft 8 (.pick 4 (.pick 9 (.soft 10 (.soft 11 (.soft 12 .done))) .stop) .stop)))))))))) .auto) .auto)))))))))))))) .auto))
theorem c104 (p0:YZ3) (w:World) (K:Value→World→Prop) (h:C104 p0 w K):Ret Tryz.prog 104 #[.agg (LZ3 p0).toArray] w K:=z0z (by kernel_rfl) Tryz.func104 (p:=pl104) (Eq.mpr (by kernel_rfl) h)
def C71 (p0:YZ3) (w:World) (K:Value→World→Prop):Prop:=
 NewK (.cells ((LZ3 p0).toArray) 41) w (fun g1 w2=>LdK (.int .i64) ((ad g1).add 0) w2 (fun (x3:Int)=>ifB (x3==1)
 (K (.iface 188 (.agg #[])) w2)
 (ifB (x3==2)
 (LdK .str ((ad g1).add 1) w2 (fun (x4:ByteArray)=>K (.iface 102 (.agg #[.string x4])) w2))
 (ifB (x3==3)
 (LdK .slc ((ad g1).add 3) w2 (fun (x5:SlT)=>IdxK x5.1 x5.2.1 0 4 (fun a6=>LdsK KZ3 a6 w2 (fun (x7:YZ3)=>CallK Tryz.prog 71 #[.agg (LZ3 x7).toArray] w2 (.v (.one .raw)) (fun (x8:Value) w9=>OneK x8 (K (.iface 190 (.agg #[x8])) w9))))))
 (ifB (x3==4)
 (DrewK w2 (fun w10=>HoldK (fun S11=>InK S11 ((ad g1).add 3) (LdK .slc ((ad g1).add 3) w10 (fun (x12:SlT)=>IdxK x12.1 x12.2.1 0 4 (fun a13=>InK S11 a13 (LdsK KZ3 a13 w10 (fun (x14:YZ3)=>InK S11 ((ad g1).add 3) (LdK .slc ((ad g1).add 3) w10 (fun (x15:SlT)=>IdxK x15.1 x15.2.1 1 4 (fun a16=>InK S11 a16 (LdsK KZ3 a16 w10 (fun (x17:YZ3)=>CallK Tryz.prog 71 #[.agg (LZ3 x14).toArray] w10 (.v (.one .raw)) (fun (x18:Value) w19=>KeepK S11 w10 w19 (CallK Tryz.prog 71 #[.agg (LZ3 x17).toArray] w19 (.v (.one .raw)) (fun (x20:Value) w21=>KeepK S11 w19 w21 (OneK x18 (OneK x20 (K (.iface 192 (.agg #[x18,x20])) w21)))))))))))))))))))
 (ifB (x3==5)
 (DrewK w2 (fun w22=>HoldK (fun S23=>InK S23 ((ad g1).add 1) (LdK .str ((ad g1).add 1) w22 (fun (x24:ByteArray)=>InK S23 ((ad g1).add 3) (LdK .slc ((ad g1).add 3) w22 (fun (x25:SlT)=>IdxK x25.1 x25.2.1 0 4 (fun a26=>InK S23 a26 (LdsK KZ3 a26 w22 (fun (x27:YZ3)=>InK S23 ((ad g1).add 3) (LdK .slc ((ad g1).add 3) w22 (fun (x28:SlT)=>IdxK x28.1 x28.2.1 1 4 (fun a29=>InK S23 a29 (LdsK KZ3 a29 w22 (fun (x30:YZ3)=>CallK Tryz.prog 71 #[.agg (LZ3 x27).toArray] w22 (.v (.one .raw)) (fun (x31:Value) w32=>KeepK S23 w22 w32 (CallK Tryz.prog 71 #[.agg (LZ3 x30).toArray] w32 (.v (.one .raw)) (fun (x33:Value) w34=>KeepK S23 w32 w34 (OneK x31 (OneK x33 (K (.iface 194 (.agg #[.string x24,x31,x33])) w34)))))))))))))))))))))
 (ifB (x3==6)
 (DrewK w2 (fun w35=>HoldK (fun S36=>InK S36 ((ad g1).add 3) (LdK .slc ((ad g1).add 3) w35 (fun (x37:SlT)=>IdxK x37.1 x37.2.1 0 4 (fun a38=>InK S36 a38 (LdsK KZ3 a38 w35 (fun (x39:YZ3)=>InK S36 ((ad g1).add 3) (LdK .slc ((ad g1).add 3) w35 (fun (x40:SlT)=>IdxK x40.1 x40.2.1 1 4 (fun a41=>InK S36 a41 (LdsK KZ3 a41 w35 (fun (x42:YZ3)=>CallK Tryz.prog 104 #[.agg (LZ3 x39).toArray] w35 (.v (.one .raw)) (fun (x43:Value) w44=>KeepK S36 w35 w44 (CallK Tryz.prog 71 #[.agg (LZ3 x42).toArray] w44 (.v (.one .raw)) (fun (x45:Value) w46=>KeepK S36 w44 w46 (OneK x43 (OneK x45 (K (.iface 197 (.agg #[x43,x45])) w46)))))))))))))))))))
 (ifB (x3==7)
 (DrewK w2 (fun w47=>HoldK (fun S48=>InK S48 ((ad g1).add 2) (LdK (.int .i64) ((ad g1).add 2) w47 (fun (x49:Int)=>InK S48 ((ad g1).add 3) (LdK .slc ((ad g1).add 3) w47 (fun (x50:SlT)=>IdxK x50.1 x50.2.1 0 4 (fun a51=>InK S48 a51 (LdsK KZ3 a51 w47 (fun (x52:YZ3)=>CallK Tryz.prog 71 #[.agg (LZ3 x52).toArray] w47 (.v (.one .raw)) (fun (x53:Value) w54=>KeepK S48 w47 w54 (OneK x53 (K (.iface 199 (.agg #[.int .i64 x49,x53])) w54)))))))))))))
 (ifB (x3==8)
 (DrewK w2 (fun w55=>HoldK (fun S56=>InK S56 ((ad g1).add 3) (LdK .slc ((ad g1).add 3) w55 (fun (x57:SlT)=>IdxK x57.1 x57.2.1 0 4 (fun a58=>InK S56 a58 (LdsK KZ3 a58 w55 (fun (x59:YZ3)=>InK S56 ((ad g1).add 3) (LdK .slc ((ad g1).add 3) w55 (fun (x60:SlT)=>IdxK x60.1 x60.2.1 1 4 (fun a61=>InK S56 a61 (LdsK KZ3 a61 w55 (fun (x62:YZ3)=>InK S56 ((ad g1).add 3) (LdK .slc ((ad g1).add 3) w55 (fun (x63:SlT)=>IdxK x63.1 x63.2.1 2 4 (fun a64=>InK S56 a64 (LdsK KZ3 a64 w55 (fun (x65:YZ3)=>CallK Tryz.prog 104 #[.agg (LZ3 x59).toArray] w55 (.v (.one .raw)) (fun (x66:Value) w67=>KeepK S56 w55 w67 (CallK Tryz.prog 71 #[.agg (LZ3 x62).toArray] w67 (.v (.one .raw)) (fun (x68:Value) w69=>KeepK S56 w67 w69 (CallK Tryz.prog 71 #[.agg (LZ3 x65).toArray] w69 (.v (.one .raw)) (fun (x70:Value) w71=>KeepK S56 w69 w71 (OneK x66 (OneK x68 (OneK x70 (K (.iface 201 (.agg #[x66,x68,x70])) w71)))))))))))))))))))))))))))
 (K .nilIface w2))))))))))
def pl71:Plan:=(.seq .auto (.seq (.seq .auto (.block (.seq .auto (.cond .auto (.seq .auto (.cond .auto (.seq .auto (.cond .auto (.seq .auto (.cond (.seq (.held (.soft 0 (.soft 1 (.soft 2 (.soft 3 (.soft 5 (.soft 6 (.soft 7 (.soft 8 (.pick 4 (.pick 9 (.soft 10 (.soft 11 (.soft 12 .done))) .stop) .stop)))))))))) .auto) (.seq .auto (.cond (.seq (.held (.soft 0 (.soft 1 (.soft 2 (.soft 3 (.soft 4 (.soft 5 (.soft 7 (.soft 8 (.soft 9 (.soft 10 (.pick 6 (.pick 11 (.soft 12 (.soft 13 (.soft 14 .done))) .stop) .stop)))))))))))) .auto) (.seq .auto (.cond (.seq (.held (.soft 0 (.soft 1 (.soft 2 (.soft 3 (.soft 5 (.soft 6 (.soft 7 (.soft 8 (.pick 4 (.pick 9 (.soft 10 (.soft 11 (.soft 12 .done))) .stop) .stop)))))))))) .auto) (.seq .auto (.cond (.seq (.held (.soft 0 (.soft 1 (.soft 2 (.soft 3 (.soft 4 (.soft 5 (.pick 6 (.soft 7 (.soft 8 (.soft 9 .done))) .stop)))))))) .auto) (.seq .auto (.cond (.seq (.held (.soft 0 (.soft 1 (.soft 2 (.soft 3 (.soft 5 (.soft 6 (.soft 7 (.soft 8 (.soft 10 (.soft 11 (.soft 12 (.soft 13 (.pick 4 (.pick 9 (.pick 14 (.soft 15 (.soft 16 (.soft 17 .done))) .stop) .stop) .stop)))))))))))))) .auto) .auto)))))))))))))))))) .auto))
theorem c71 (p0:YZ3) (w:World) (K:Value→World→Prop) (h:C71 p0 w K):Ret Tryz.prog 71 #[.agg (LZ3 p0).toArray] w K:=z0z (by kernel_rfl) Tryz.func71 (p:=pl71) (Eq.mpr (by kernel_rfl) h)
inductive Tr where
 | mk (kind:Int) (s:List UInt8) (n:Int) (ks:List Tr)
abbrev TV:=Int×ByteArray×Int×(Option Addr×Nat×Nat)×Unit
def tvA (v:TV):Value:=.agg #[.int .i64 v.1,.string v.2.1,.int .i64 v.2.2.1,.slice v.2.2.2.1.1 v.2.2.2.1.2.1 v.2.2.2.1.2.2]
def tvL (v:TV):List Value:=[.int .i64 v.1,.string v.2.1,.int .i64 v.2.2.1,.slice v.2.2.2.1.1 v.2.2.2.1.2.1 v.2.2.2.1.2.2]
theorem tvL_len (vs:List TV):∀ l∈vs.map tvL,l.length=4:=by intro l hl;obtain ⟨v,_,rfl⟩:=List.mem_map.1 hl;rfl
mutual
def IsTr (w:World) (S:Nat→Prop):Tr→TV→Prop
 | .mk k s n ks,v=>v.1=k∧v.2.1=str s∧v.2.2.1=n∧∃ vs:List TV,RdSl w 4 v.2.2.2.1 (vs.map tvL).flatten∧vs.length=v.2.2.2.1.2.1∧(∀ b,blkOf v.2.2.2.1 b→S b)∧IsTrs w S ks vs
def IsTrs (w:World) (S:Nat→Prop):List Tr→List TV→Prop
 | [],vs=>vs=[]
 | t::ts,vs=>∃ v vs',vs=v::vs'∧IsTr w S t v∧IsTrs w S ts vs'
end
mutual
theorem IsTr.keep {w w':World} {S T:Nat→Prop} (f:Fr T w w') (hn:∀ k,S k→¬ T k):∀ (t:Tr) (v:TV),IsTr w S t v→IsTr w' S t v
 | .mk k s n ks,v,h=>by
  unfold IsTr at h ⊢
  obtain ⟨a,b,c,vs,d,e,g,h⟩:=h
  exact ⟨a,b,c,vs,d.keep f (fun k hk=>hn k (g k hk)),e,g,IsTrs.keep f hn ks vs h⟩
theorem IsTrs.keep {w w':World} {S T:Nat→Prop} (f:Fr T w w') (hn:∀ k,S k→¬ T k):∀ (ts:List Tr) (vs:List TV),IsTrs w S ts vs→IsTrs w' S ts vs
 | [],vs,h=>by unfold IsTrs at h ⊢;exact h
 | t::ts,vs,h=>by
  unfold IsTrs at h ⊢
  obtain ⟨v,vs',rfl,h1,h2⟩:=h
  exact ⟨v,vs',rfl,IsTr.keep f hn t v h1,IsTrs.keep f hn ts vs' h2⟩
end
mutual
theorem IsTr.mono {w:World} {S T:Nat→Prop} (hST:∀ k,S k→T k):∀ (t:Tr) (v:TV),IsTr w S t v→IsTr w T t v
 | .mk k s n ks,v,h=>by
  unfold IsTr at h ⊢
  obtain ⟨a,b,c,vs,d,e,g,h⟩:=h
  exact ⟨a,b,c,vs,d,e,fun k hk=>hST k (g k hk),IsTrs.mono hST ks vs h⟩
theorem IsTrs.mono {w:World} {S T:Nat→Prop} (hST:∀ k,S k→T k):∀ (ts:List Tr) (vs:List TV),IsTrs w S ts vs→IsTrs w T ts vs
 | [],vs,h=>by unfold IsTrs at h ⊢;exact h
 | t::ts,vs,h=>by
  unfold IsTrs at h ⊢
  obtain ⟨v,vs',rfl,h1,h2⟩:=h
  exact ⟨v,vs',rfl,IsTr.mono hST t v h1,IsTrs.mono hST ts vs' h2⟩
end
theorem IsTr.keep0 {w w':World} {S:Nat→Prop} {t:Tr} {v:TV} (h:IsTr w S t v) (f:Fr none1 w w'):IsTr w' S t v:=IsTr.keep f (fun _ _ t=>t) t v h
theorem IsTrs.keep0 {w w':World} {S:Nat→Prop} {t:List Tr} {v:List TV} (h:IsTrs w S t v) (f:Fr none1 w w'):IsTrs w' S t v:=IsTrs.keep f (fun _ _ t=>t) t v h
theorem IsTrs.get {w:World} {S:Nat→Prop}:∀ {ts:List Tr} {vs:List TV},IsTrs w S ts vs→∀ {i:Nat} {t:Tr},ts[i]? = some t→∃ v,vs[i]? = some v∧IsTr w S t v
 | [],vs,h,i,t,ht=>by simp at ht
 | t::ts,vs,h,i,u,hu=>by
  unfold IsTrs at h
  obtain ⟨v,vs',rfl,h1,h2⟩:=h
  cases i with
  | zero=>simp at hu;subst hu;exact ⟨v,rfl,h1⟩
  | succ i=>exact h2.get (by simpa using hu)
theorem IsTrs.len {w:World} {S:Nat→Prop}:∀ {ts:List Tr} {vs:List TV},IsTrs w S ts vs→vs.length=ts.length
 | [],vs,h=>by unfold IsTrs at h;subst h;rfl
 | t::ts,vs,h=>by
  unfold IsTrs at h
  obtain ⟨v,vs',rfl,h1,h2⟩:=h
  simp [h2.len]
theorem IsTr.ld {w:World} {S:Nat→Prop} {k:Int} {s:List UInt8} {n:Int} {ks:List Tr} {v:TV} (h:IsTr w S (.mk k s n ks) v) {i:Nat} {t:Tr} (ht:ks[i]? = some t) {K:TV→Prop} (hK:∀ x,IsTr w S t x→K x) :
  IdxK v.2.2.2.1.1 v.2.2.2.1.2.1 (i:Int) 4 fun a=>InK all1 a (LdsK [.int .i64,.str,.int .i64,.slc] a w K):=by
 unfold IsTr at h
 obtain ⟨_,_,_,vs,hr,hl,_,hts⟩:=h
 obtain ⟨x,hx,hxt⟩:=hts.get ht
 have hi:=(List.getElem?_eq_some_iff.1 hx).1
 cases hp:v.2.2.2.1.1 with
 | none=>
  have:=(hr.2.1 hp).1
  omega
 | some p=>
  refine ⟨p,rfl,by omega,by omega,InK.all ?_⟩
  rw [Int.toNat_natCast]
  exact RdSl.lds hr (tvL_len vs) (x:=x) (by rw [List.getElem?_map,hx];rfl) (by omega) (hK x hxt) hp
theorem IdxK.out_ink {base:Option Addr} {len:Nat} {i:Int} {size:Nat} {K:Addr→Prop} (h:IdxK base len i size fun a=>InK all1 a (K a)):IdxK base len i size K:=by
 obtain ⟨a,h1,h2,h3,h4⟩:=h.out
 exact ⟨a,h1,h2,h3,h4.out.2⟩
theorem IsTr.len {w:World} {S:Nat→Prop} {k:Int} {s:List UInt8} {n:Int} {ks:List Tr} {v:TV} (h:IsTr w S (.mk k s n ks) v):v.2.2.2.1.2.1=ks.length:=by
 unfold IsTr at h
 obtain ⟨_,_,_,vs,hr,hl,_,hts⟩:=h
 rw [← hl,hts.len]
theorem IsTr.kind {w:World} {S:Nat→Prop} {k:Int} {s:List UInt8} {n:Int} {ks:List Tr} {v:TV} (h:IsTr w S (.mk k s n ks) v):v.1=k:=by unfold IsTr at h;exact h.1
theorem IsTr.name {w:World} {S:Nat→Prop} {k:Int} {s:List UInt8} {n:Int} {ks:List Tr} {v:TV} (h:IsTr w S (.mk k s n ks) v):v.2.1=str s:=by unfold IsTr at h;exact h.2.1
theorem IsTr.num {w:World} {S:Nat→Prop} {k:Int} {s:List UInt8} {n:Int} {ks:List Tr} {v:TV} (h:IsTr w S (.mk k s n ks) v):v.2.2.1=n:=by unfold IsTr at h;exact h.2.2.1
def trO:Ob→Tr
 | .none=>.mk 0 [] 0 []
 | .const n=>.mk 11 [] n []
 | .fix s=>.mk 12 s 0 []
 | .add l r=>.mk 13 [] 0 [trO l,trO r]
 | .neg o=>.mk 14 [] 0 [trO o]
 | .mul l r=>.mk 15 [] 0 [trO l,trO r]
 | .max l r=>.mk 16 [] 0 [trO l,trO r]
def trT:Tm→Tr
 | .none=>.mk 0 [] 0 []
 | .zero=>.mk 1 [] 0 []
 | .one s=>.mk 2 s 0 []
 | .give t=>.mk 3 [] 0 [trT t]
 | .and l r=>.mk 4 [] 0 [trT l,trT r]
 | .or s l r=>.mk 5 s 0 [trT l,trT r]
 | .scale o t=>.mk 6 [] 0 [trO o,trT t]
 | .when d t=>.mk 7 [] d [trT t]
 | .cond o l r=>.mk 8 [] 0 [trO o,trT l,trT r]
theorem Ob.cell1 (o:Ob):o.v.cells=#[o.v]:=by cases o<;>rfl
theorem Tm.cell1 (t:Tm):t.v.cells=#[t.v]:=by cases t<;>rfl
theorem z38z (o:Ob) {w:World} {S:Nat→Prop} {v:TV} (h:IsTr w S (trO o) v):Ret Tryz.prog 104 #[tvA v] w fun r w'=>r=o.v∧Fr none1 w w':=by
 refine c104 v w _ ?_
 unfold C104
 refine NewK.of fun b w1 hb hb1 f1 _=>?_
 refine LdK.fld hb1 (x:=v.1) rfl ?_
 have h1:=h.keep0 f1
 have two:∀ (l r:Ob) (k:Int) (T:TypeId),IsTr w1 S (.mk k [] 0 [trO l,trO r]) v→(∀ {w:World} {v:TV},IsTr w S (trO l) v→Ret Tryz.prog 104 #[tvA v] w fun r' w'=>r'=l.v∧Fr none1 w w') →
   (∀ {w:World} {v:TV},IsTr w S (trO r) v→Ret Tryz.prog 104 #[tvA v] w fun r' w'=>r'=r.v∧Fr none1 w w')→o.v=.iface T (.agg #[l.v,r.v]) →
   DrewK w1 (fun w6=>HoldK (fun S7=>InK S7 ((⟨b,0,none⟩:Addr).add 3) (LdK .slc ((⟨b,0,none⟩:Addr).add 3) w6 (fun (x7:Option Addr×Nat×Nat)=>IdxK x7.1 x7.2.1 0 4 (fun a8=>InK S7 a8 (LdsK [.int .i64,.str,.int .i64,.slc] a8 w6 (fun (x9:TV)=>
    InK S7 ((⟨b,0,none⟩:Addr).add 3) (LdK .slc ((⟨b,0,none⟩:Addr).add 3) w6 (fun (x10:Option Addr×Nat×Nat)=>IdxK x10.1 x10.2.1 1 4 (fun a11=>InK S7 a11 (LdsK [.int .i64,.str,.int .i64,.slc] a11 w6 (fun (x12:TV)=>
     CallK Tryz.prog 104 #[tvA x9] w6 (.v (.one .raw)) (fun (x13:Value) w14=>KeepK S7 w6 w14
      (CallK Tryz.prog 104 #[tvA x12] w14 (.v (.one .raw)) (fun (x15:Value) w16=>KeepK S7 w14 w16
       (OneK x13 (OneK x15 ((Value.iface T (.agg #[x13,x15]))=o.v∧Fr none1 w w16)))))))))))))))))):=fun l r k T h1 ihl ihr ho=>by
  refine DrewK.of fun w2 _ f2=>HoldK.all (InK.all ?_)
  have hb2:=f2.keep0 hb1
  have h2:=h1.keep0 f2
  refine LdK.fld hb2 (x:=v.2.2.2.1) rfl ?_
  refine h2.ld (i:=0) rfl fun x hx=>InK.all ?_
  refine LdK.fld hb2 (x:=v.2.2.2.1) rfl ?_
  refine h2.ld (i:=1) rfl fun y hy=>?_
  refine CallK.of (ihl hx) ?_
  rintro _ w3 ⟨rfl,f3⟩
  refine ⟨_,rfl,KeepK.of f3 ?_⟩
  refine CallK.of (ihr (hy.keep0 f3)) ?_
  rintro _ w4 ⟨rfl,f4⟩
  exact ⟨_,rfl,KeepK.of f4 ⟨l.cell1,⟨r.cell1,ho.symm,((f1.trans f2).trans f3).trans f4⟩⟩⟩
 cases o with
 | none=>
  rw [h.kind]
  exact ifB.f rfl (ifB.f rfl (ifB.f rfl (ifB.f rfl (ifB.f rfl (ifB.f rfl ⟨rfl,f1⟩)))))
 | const n=>
  rw [h.kind]
  refine ifB.t rfl (LdK.fld hb1 (x:=v.2.2.1) rfl ?_)
  rw [h.num];exact ⟨rfl,f1⟩
 | fix s=>
  rw [h.kind]
  refine ifB.f rfl (ifB.t rfl (LdK.fld hb1 (x:=v.2.1) rfl ?_))
  rw [h.name];exact ⟨rfl,f1⟩
 | add l r=>
  rw [h.kind]
  exact ifB.f rfl (ifB.f rfl (ifB.t rfl (two l r 13 _ h1 (z38z l) (z38z r) rfl)))
 | neg x=>
  rw [h.kind]
  refine ifB.f rfl (ifB.f rfl (ifB.f rfl (ifB.t rfl (LdK.fld hb1 (x:=v.2.2.2.1) rfl ?_))))
  refine IdxK.out_ink (h1.ld (i:=0) rfl fun y hy=>?_)
  refine CallK.of (z38z x hy) ?_
  rintro _ w2 ⟨rfl,f2⟩
  exact ⟨_,rfl,⟨x.cell1,rfl,f1.trans f2⟩⟩
 | mul l r=>
  rw [h.kind]
  exact ifB.f rfl (ifB.f rfl (ifB.f rfl (ifB.f rfl (ifB.t rfl (two l r 15 _ h1 (z38z l) (z38z r) rfl)))))
 | max l r=>
  rw [h.kind]
  exact ifB.f rfl (ifB.f rfl (ifB.f rfl (ifB.f rfl (ifB.f rfl (ifB.t rfl (two l r 16 _ h1 (z38z l) (z38z r) rfl))))))
theorem z26z (t:Tm) {w:World} {S:Nat→Prop} {v:TV} (h:IsTr w S (trT t) v):Ret Tryz.prog 71 #[tvA v] w fun r w'=>r=t.v∧Fr none1 w w':=by
 refine c71 v w _ ?_
 unfold C71
 refine NewK.of fun b w1 hb hb1 f1 _=>?_
 refine LdK.fld hb1 (x:=v.1) rfl ?_
 have h1:=h.keep0 f1
 cases t with
 | none=>
  rw [h.kind]
  exact ifB.f rfl (ifB.f rfl (ifB.f rfl (ifB.f rfl (ifB.f rfl (ifB.f rfl (ifB.f rfl (ifB.f rfl ⟨rfl,f1⟩)))))))
 | zero=>rw [h.kind];exact ifB.t rfl ⟨rfl,f1⟩
 | one s=>
  rw [h.kind]
  refine ifB.f rfl (ifB.t rfl (LdK.fld hb1 (x:=v.2.1) rfl ?_))
  rw [h.name];exact ⟨rfl,f1⟩
 | give x=>
  rw [h.kind]
  refine ifB.f rfl (ifB.f rfl (ifB.t rfl (LdK.fld hb1 (x:=v.2.2.2.1) rfl ?_)))
  refine IdxK.out_ink (h1.ld (i:=0) rfl fun y hy=>?_)
  refine CallK.of (z26z x hy) ?_
  rintro _ w2 ⟨rfl,f2⟩
  exact ⟨_,rfl,⟨x.cell1,rfl,f1.trans f2⟩⟩
 | and l r=>
  rw [h.kind]
  refine ifB.f rfl (ifB.f rfl (ifB.f rfl (ifB.t rfl ?_)))
  refine DrewK.of fun w2 _ f2=>HoldK.all (InK.all ?_)
  have hb2:=f2.keep0 hb1
  have h2:=h1.keep0 f2
  refine LdK.fld hb2 (x:=v.2.2.2.1) rfl ?_
  refine h2.ld (i:=0) rfl fun x hx=>InK.all ?_
  refine LdK.fld hb2 (x:=v.2.2.2.1) rfl ?_
  refine h2.ld (i:=1) rfl fun y hy=>?_
  refine CallK.of (z26z l hx) ?_
  rintro _ w3 ⟨rfl,f3⟩
  refine ⟨_,rfl,KeepK.of f3 ?_⟩
  refine CallK.of (z26z r (hy.keep0 f3)) ?_
  rintro _ w4 ⟨rfl,f4⟩
  exact ⟨_,rfl,KeepK.of f4 ⟨l.cell1,⟨r.cell1,rfl,((f1.trans f2).trans f3).trans f4⟩⟩⟩
 | or s l r=>
  rw [h.kind]
  refine ifB.f rfl (ifB.f rfl (ifB.f rfl (ifB.f rfl (ifB.t rfl ?_))))
  refine DrewK.of fun w2 _ f2=>HoldK.all (InK.all ?_)
  have hb2:=f2.keep0 hb1
  have h2:=h1.keep0 f2
  refine LdK.fld hb2 (x:=v.2.1) rfl (InK.all ?_)
  refine LdK.fld hb2 (x:=v.2.2.2.1) rfl ?_
  refine h2.ld (i:=0) rfl fun x hx=>InK.all ?_
  refine LdK.fld hb2 (x:=v.2.2.2.1) rfl ?_
  refine h2.ld (i:=1) rfl fun y hy=>?_
  refine CallK.of (z26z l hx) ?_
  rintro _ w3 ⟨rfl,f3⟩
  refine ⟨_,rfl,KeepK.of f3 ?_⟩
  refine CallK.of (z26z r (hy.keep0 f3)) ?_
  rintro _ w4 ⟨rfl,f4⟩
  rw [h.name]
  exact ⟨_,rfl,KeepK.of f4 ⟨l.cell1,⟨r.cell1,rfl,((f1.trans f2).trans f3).trans f4⟩⟩⟩
 | scale o x=>
  rw [h.kind]
  refine ifB.f rfl (ifB.f rfl (ifB.f rfl (ifB.f rfl (ifB.f rfl (ifB.t rfl ?_)))))
  refine DrewK.of fun w2 _ f2=>HoldK.all (InK.all ?_)
  have hb2:=f2.keep0 hb1
  have h2:=h1.keep0 f2
  refine LdK.fld hb2 (x:=v.2.2.2.1) rfl ?_
  refine h2.ld (i:=0) rfl fun y hy=>InK.all ?_
  refine LdK.fld hb2 (x:=v.2.2.2.1) rfl ?_
  refine h2.ld (i:=1) rfl fun z hz=>?_
  refine CallK.of (z38z o hy) ?_
  rintro _ w3 ⟨rfl,f3⟩
  refine ⟨_,rfl,KeepK.of f3 ?_⟩
  refine CallK.of (z26z x (hz.keep0 f3)) ?_
  rintro _ w4 ⟨rfl,f4⟩
  exact ⟨_,rfl,KeepK.of f4 ⟨o.cell1,⟨x.cell1,rfl,((f1.trans f2).trans f3).trans f4⟩⟩⟩
 | when d x=>
  rw [h.kind]
  refine ifB.f rfl (ifB.f rfl (ifB.f rfl (ifB.f rfl (ifB.f rfl (ifB.f rfl (ifB.t rfl ?_))))))
  refine DrewK.of fun w2 _ f2=>HoldK.all (InK.all ?_)
  have hb2:=f2.keep0 hb1
  have h2:=h1.keep0 f2
  refine LdK.fld hb2 (x:=v.2.2.1) rfl (InK.all ?_)
  refine LdK.fld hb2 (x:=v.2.2.2.1) rfl ?_
  refine h2.ld (i:=0) rfl fun y hy=>?_
  refine CallK.of (z26z x hy) ?_
  rintro _ w3 ⟨rfl,f3⟩
  rw [h.num]
  exact ⟨_,rfl,KeepK.of f3 ⟨x.cell1,rfl,(f1.trans f2).trans f3⟩⟩
 | cond o l r=>
  rw [h.kind]
  refine ifB.f rfl (ifB.f rfl (ifB.f rfl (ifB.f rfl (ifB.f rfl (ifB.f rfl (ifB.f rfl (ifB.t rfl ?_)))))))
  refine DrewK.of fun w2 _ f2=>HoldK.all (InK.all ?_)
  have hb2:=f2.keep0 hb1
  have h2:=h1.keep0 f2
  refine LdK.fld hb2 (x:=v.2.2.2.1) rfl ?_
  refine h2.ld (i:=0) rfl fun x hx=>InK.all ?_
  refine LdK.fld hb2 (x:=v.2.2.2.1) rfl ?_
  refine h2.ld (i:=1) rfl fun y hy=>InK.all ?_
  refine LdK.fld hb2 (x:=v.2.2.2.1) rfl ?_
  refine h2.ld (i:=2) rfl fun z hz=>?_
  refine CallK.of (z38z o hx) ?_
  rintro _ w3 ⟨rfl,f3⟩
  refine ⟨_,rfl,KeepK.of f3 ?_⟩
  refine CallK.of (z26z l (hy.keep0 f3)) ?_
  rintro _ w4 ⟨rfl,f4⟩
  refine ⟨_,rfl,KeepK.of f4 ?_⟩
  refine CallK.of (z26z r (hz.keep0 (f3.trans f4))) ?_
  rintro _ w5 ⟨rfl,f5⟩
  exact ⟨_,rfl,KeepK.of f5 ⟨o.cell1,⟨l.cell1,⟨r.cell1,rfl,(((f1.trans f2).trans f3).trans f4).trans f5⟩⟩⟩⟩
def C116 (p0:ByteArray) (w:World) (K:Value→World→Prop):Prop:=
 RunK Tryz.prog (Instr.range 9 (.string p0)) w (.v (.one .ptr)) (fun (x1:Option Addr) w2=>LoopK (SlT×Unit) (fun _ s3 w4 next5=>NextK x1 w4 (fun x6 x7 w8=>RunK Tryz.prog (Instr.buildSlice 165 1 #[(0,.int .i32 x7)]) w8 (.v (.one .slc)) (fun (x9:SlT) w10=>RunK Tryz.prog (Builtin.append_ #[165,165] 165 #[.slice s3.1.1 s3.1.2.1 s3.1.2.2,.slice x9.1 x9.2.1 x9.2.2]) w10 (.v (.one .slc)) (fun (x11:SlT) w12=>next5 ((x11.1,x11.2.1,x11.2.2),()) w12)))
 (K (.slice s3.1.1 s3.1.2.1 s3.1.2.2) w4))
 ((none,0,0),()) w2)
def pl116:Plan:=(.seq .auto (.seq .auto (.seq (.seq .auto (.block (.loop [(3,.one .slc)] .auto))) .auto)))
theorem c116 (p0:ByteArray) (w:World) (K:Value→World→Prop) (h:C116 p0 w K):Ret Tryz.prog 116 #[.string p0] w K:=z0z (by kernel_rfl) Tryz.func116 (p:=pl116) (Eq.mpr (by kernel_rfl) h)
def C117 (p0:Int) (w:World) (K:Value→World→Prop):Prop:=
 ifB (decide (p0 ≥ 97))
 (ifB (decide (p0≤122))
 (K (.bool true) w)
 (ifB (decide (p0 ≥ 48))
 (ifB (decide (p0≤57))
 (K (.bool true) w)
 (ifB (p0==95)
 (K (.bool true) w)
 (ifB (decide (p0 ≥ 128))
 (K (.bool (p0 != 65533)) w)
 (K (.bool false) w))))
 (ifB (p0==95)
 (K (.bool true) w)
 (ifB (decide (p0 ≥ 128))
 (K (.bool (p0 != 65533)) w)
 (K (.bool false) w)))))
 (ifB (decide (p0 ≥ 48))
 (ifB (decide (p0≤57))
 (K (.bool true) w)
 (ifB (p0==95)
 (K (.bool true) w)
 (ifB (decide (p0 ≥ 128))
 (K (.bool (p0 != 65533)) w)
 (K (.bool false) w))))
 (ifB (p0==95)
 (K (.bool true) w)
 (ifB (decide (p0 ≥ 128))
 (K (.bool (p0 != 65533)) w)
 (K (.bool false) w))))
def pl117:Plan:=.auto
theorem c117 (p0:Int) (w:World) (K:Value→World→Prop) (h:C117 p0 w K):Ret Tryz.prog 117 #[.int .i32 p0] w K:=z0z (by kernel_rfl) Tryz.func117 (p:=pl117) (Eq.mpr (by kernel_rfl) h)
def C88 (p0:ByteArray) (w:World) (K:Value→World→Prop):Prop:=
 CallK Tryz.prog 116 #[.string p0] w (.v (.one .slc)) (fun (x1:SlT) w2=>LoopK (Int×Unit) (fun _ s3 w4 next5=>ifB (decide (s3.1<(x1.2.1:Int)))
 (IdxK x1.1 x1.2.1 s3.1 1 (fun a6=>LdK (.int .i32) a6 w4 (fun (x7:Int)=>CallK Tryz.prog 117 #[.int .i32 x7] w4 (.v (.one .bool)) (fun (x8:Bool) w9=>ifB (!x8)
 (K (.bool false) w9)
 (ifB (s3.1==0)
 (IdxK x1.1 x1.2.1 s3.1 1 (fun a10=>LdK (.int .i32) a10 w9 (fun (x11:Int)=>ifB (decide (x11 ≥ 48))
 (IdxK x1.1 x1.2.1 s3.1 1 (fun a12=>LdK (.int .i32) a12 w9 (fun (x13:Int)=>ifB (decide (x13≤57))
 (K (.bool false) w9)
 (next5 (IntKind.i64.wrap (s3.1+1),()) w9))))
 (next5 (IntKind.i64.wrap (s3.1+1),()) w9))))
 (next5 (IntKind.i64.wrap (s3.1+1),()) w9))))))
 (ifB (decide ((x1.2.1:Int) ≥ 1))
 (K (.bool (decide ((x1.2.1:Int)≤12))) w4)
 (K (.bool false) w4)))
 (0,()) w2)
def pl88:Plan:=(.seq .auto (.seq .auto (.seq (.seq .auto (.block (.loop [(9,.one (.int .i64))] .auto))) .auto)))
theorem c88 (p0:ByteArray) (w:World) (K:Value→World→Prop) (h:C88 p0 w K):Ret Tryz.prog 88 #[.string p0] w K:=z0z (by kernel_rfl) Tryz.func88 (p:=pl88) (Eq.mpr (by kernel_rfl) h)
def C55 (p0:Int) (w:World) (K:Value→World→Prop):Prop:=
 ifB (decide (p0 ≥ (-1000000000000)))
 (K (.bool (decide (p0≤1000000000000))) w)
 (K (.bool false) w)
def pl55:Plan:=.auto
theorem c55 (p0:Int) (w:World) (K:Value→World→Prop) (h:C55 p0 w K):Ret Tryz.prog 55 #[.int .i64 p0] w K:=z0z (by kernel_rfl) Tryz.func55 (p:=pl55) (Eq.mpr (by kernel_rfl) h)
theorem rletter_spec (r:Int) (w:World):Ret Tryz.prog 117 #[.int .i32 r] w fun v w'=>v=.bool (isLet r)∧w=w':=by
 refine c117 r w _ ?_
 unfold C117
 have tl:isLet r=(r==95||(decide (128≤r)&&r != 65533))→ifB (r==95) ((.bool true:Value)=.bool (isLet r)∧w=w) (ifB (decide (r ≥ 128)) ((.bool (r != 65533):Value)=.bool (isLet r)∧w=w) ((.bool false:Value)=.bool (isLet r)∧w=w)):=fun h=>by
  rw [h]
  refine ifB.by (fun h2=>?_) (fun h2=>?_)
  ·rw [h2];exact ⟨rfl,rfl⟩
  rw [h2,Bool.false_or]
  refine ifB.dec (fun h3=>?_) (fun h3=>?_)
  ·rw [decide_eq_true (p:=128≤r) (by omega)];exact ⟨by rw [Bool.true_and],rfl⟩
  ·rw [decide_eq_false (p:=128≤r) (by omega)];exact ⟨rfl,rfl⟩
 have mid:(decide (97≤r)&&decide (r≤122))=false→ifB (decide (r ≥ 48)) (ifB (decide (r≤57)) ((.bool true:Value)=.bool (isLet r)∧w=w) (ifB (r==95) ((.bool true:Value)=.bool (isLet r)∧w=w) (ifB (decide (r ≥ 128)) ((.bool (r != 65533):Value)=.bool (isLet r)∧w=w) ((.bool false:Value)=.bool (isLet r)∧w=w))))
   (ifB (r==95) ((.bool true:Value)=.bool (isLet r)∧w=w) (ifB (decide (r ≥ 128)) ((.bool (r != 65533):Value)=.bool (isLet r)∧w=w) ((.bool false:Value)=.bool (isLet r)∧w=w))):=fun h=>by
  refine ifB.dec (fun h1=>?_) (fun h1=>?_)
  ·refine ifB.dec (fun h2=>?_) (fun h2=>?_)
   ·refine ⟨?_,rfl⟩
    unfold isLet isDig
    rw [decide_eq_true (p:=48≤r) (by omega),decide_eq_true (p:=r≤57) (by omega)];simp
   ·refine tl ?_
    unfold isLet isDig
    rw [h,decide_eq_false (p:=r≤57) (by omega),Bool.and_false,Bool.false_or,Bool.false_or]
  ·refine tl ?_
   unfold isLet isDig
   rw [h,decide_eq_false (p:=48≤r) (by omega),Bool.false_and,Bool.false_or,Bool.false_or]
 refine ifB.dec (fun h=>?_) (fun h=>?_)
 ·refine ifB.dec (fun h2=>?_) (fun h2=>?_)
  ·unfold isLet
   rw [decide_eq_true (p:=97≤r) (by omega),decide_eq_true (p:=r≤122) (by omega)];exact ⟨rfl,rfl⟩
  ·exact mid (by rw [decide_eq_false (p:=r≤122) (by omega),Bool.and_false])
 ·exact mid (by rw [decide_eq_false (p:=97≤r) (by omega),Bool.false_and])
theorem rrunes_spec (bs:List UInt8) (hl:bs.length≤1000000) (w:World):Ret Tryz.prog 116 #[.string (str bs)] w fun r w'=>∃ v:Sl,r=.slice v.1 v.2.1 v.2.2∧IsR w' v (runesL bs)∧Fr none1 w w'∧∀ k,blkOf v k→w.heap.size≤k:=by
 refine c116 _ w _ ?_
 refine range_okS bs fun r w1 hr hit f1=>?_
 have hrl:=z37z bs
 have s1:=f1.size
 refine LoopK.of (fun s w'=>∃ (done rest:List Int),runesL bs=done++rest∧IsR w' s.1 done∧(∀ k,blkOf s.1 k→w.heap.size<k)∧IsIt w' r rest∧Fr none1 w w') (fun _ w'=>itLen w' r)
  ⟨[],_,rfl,.inl ⟨rfl,rfl⟩,(fun k ⟨a,ha,_⟩=>by cases ha),hit,f1⟩ ?_
 rintro _ ⟨v,_⟩ w2 ⟨done,rest,heq,hv,hvf,hit2,f2⟩
 dsimp only at hv hvf ⊢
 refine next_ok hit2 (fun c rest' pos w3 hc hok hit3 f3=>?_) (fun hnil=>?_)
 ·subst hc
  have hdl:done.length≤1000000:=by
   have:=congrArg List.length heq
   rw [List.length_append] at this;omega
  have fw3:Fr none1 w w3:=f2.fresh f3 (by omega)
  have hv3:IsR w3 v done:=IsSl.keep hv f3 (fun k hk t=>by have:=hvf k hk;have:k=r:=t;omega)
  refine r_snoc hv3 c hdl fun u w4 hu f4 uf=>?_
  have hit4:=hit3.keep f4 (fun t=>by have:=hvf r t;omega)
  have rlt:=hit3.lt
  refine ⟨⟨done++[c],rest',by rw [heq];simp,hu,fun k hk=>?_,hit4,fw3.comp f4 (fun k hk t=>by have:=hvf k t;omega)⟩,by rw [hit4.left,hit2.left];simp⟩
  rcases uf k hk with t | t
  ·exact hvf k t
  ·omega
 ·subst hnil
  rw [List.append_nil] at heq
  exact ⟨v,rfl,by rw [heq];exact hv,f2,fun k hk=>by have:=hvf k hk;omega⟩
theorem rname_spec (bs:List UInt8) (hl:bs.length≤1000000) (w:World):Ret Tryz.prog 88 #[.string (str bs)] w fun v w'=>v=.bool (nameF 0 (runesL bs))∧Fr none1 w w':=by
 refine c88 _ w _ ?_
 refine CallK.of (rrunes_spec bs hl w) ?_
 rintro _ w1 ⟨v,rfl,hv,f1,_⟩
 refine ⟨v,rfl,?_⟩
 have hrl:=z37z bs
 generalize runesL bs=rs at *
 have hvl:=hv.len
 have mem:∀ j,j<rs.length→rs.getD j 0∈rs:=fun j hj=>by rw [List.getD_eq_getElem?_getD,List.getElem?_eq_getElem hj];exact List.getElem_mem _
 refine LoopK.of (fun s w'=>w1=w'∧0≤s.1∧s.1≤rs.length∧(∀ j:Nat,(j:Int)<s.1→isLet (rs.getD j 0)=true)∧(0<s.1→isDig (rs.getD 0 0)=false)) (fun s _=>(rs.length - s.1).toNat)
  ⟨rfl,Int.le_refl _,by dsimp only;omega,fun j hj=>by dsimp only at hj;omega,fun t=>by dsimp only at t;omega⟩ ?_
 rintro _ ⟨i,_⟩ _ ⟨rfl,i0,i1,hlet,hdig⟩
 dsimp only at i0 i1 hlet hdig ⊢
 refine ifB.dec (fun hlt=>?_) (fun hge=>?_)
 ·refine hv.ld i0 hlt ?_
  refine CallK.of (rletter_spec _ w1) ?_
  rintro _ _ ⟨rfl,rfl⟩
  refine ⟨_,rfl,?_⟩
  have hi:i.toNat<rs.length:=by omega
  refine ifB.by (fun hb=>?_) (fun hb=>?_)
  ·refine ⟨?_,f1⟩
   rw [nameF_bad rs 0 ⟨_,mem _ hi,by simpa using hb⟩]
  have hli:isLet (rs.getD i.toNat 0)=true:=by simpa using hb
  have next:(0<i+1→isDig (rs.getD 0 0)=false)→((w1=w1∧0≤IntKind.i64.wrap (i+1)∧IntKind.i64.wrap (i+1)≤rs.length∧(∀ j:Nat,(j:Int)<IntKind.i64.wrap (i+1)→isLet (rs.getD j 0)=true)∧(0<IntKind.i64.wrap (i+1)→isDig (rs.getD 0 0)=false))∧(rs.length - IntKind.i64.wrap (i+1)).toNat<(rs.length - i).toNat):=fun hd=>by
   rw [wI (by omega) (by omega)]
   refine ⟨⟨rfl,by omega,by omega,fun j hj=>?_,hd⟩,by omega⟩
   by_cases hji:(j:Int)<i
   ·exact hlet j hji
   ·rw [show j=i.toNat by omega];exact hli
  refine ifB.eq (fun h0=>?_) (fun h0=>?_)
  ·subst h0
   have e0:(0:Int).toNat=0:=rfl
   refine hv.ld i0 hlt ?_
   rw [e0]
   have fin:isDig (rs.getD 0 0)=true→nameF 0 rs=false:=fun hd=>by
    cases rs with
    | nil=>simp at hi
    | cons r l=>
     unfold nameF
     have hli:isLet r=true:=hli
     rw [if_neg (by simp [hli]),if_pos ⟨rfl,hd⟩]
   refine ifB.dec (fun h48=>?_) (fun h48=>?_)
   ·refine hv.ld i0 hlt ?_
    rw [e0]
    refine ifB.dec (fun h57=>?_) (fun h57=>?_)
    ·refine ⟨?_,f1⟩
     rw [fin (by unfold isDig;rw [decide_eq_true (p:=48≤rs.getD 0 0) (by omega),decide_eq_true (p:=rs.getD 0 0≤57) (by omega)];rfl)]
    ·exact next fun _=>by unfold isDig;rw [decide_eq_false (p:=rs.getD 0 0≤57) (by omega),Bool.and_false]
   ·exact next fun _=>by unfold isDig;rw [decide_eq_false (p:=48≤rs.getD 0 0) (by omega),Bool.false_and]
  ·exact next fun _=>hdig (by omega)
 ·have hall:∀ r∈rs,isLet r=true:=fun r hr=>by
   obtain ⟨j,hj,rfl⟩:=List.mem_iff_getElem.1 hr
   have:=hlet j (by omega)
   rwa [List.getD_eq_getElem?_getD,List.getElem?_eq_getElem hj] at this
  refine ifB.dec (fun h1=>?_) (fun h1=>?_)
  ·refine ⟨?_,f1⟩
   rw [nameF_all rs 0 hall (fun _=>?_) (by omega) (by omega)]
   ·congr 1
    exact decide_eq_decide.2 (by omega)
   ·have:=hdig (by omega)
    cases rs with
    | nil=>rfl
    | cons r l=>exact this
  ·refine ⟨?_,f1⟩
   have:rs=[]:=List.eq_nil_of_length_eq_zero (by omega)
   rw [this];rfl
theorem rvalid_spec (n:Int) (w:World):Ret Tryz.prog 55 #[.int .i64 n] w fun r w'=>r=.bool (decide (-1000000000000≤n)&&decide (n≤1000000000000))∧w=w':=by
 refine c55 n w _ ?_
 unfold C55
 refine ifB.dec (fun h=>?_) (fun h=>?_)
 ·rw [decide_eq_true (show -1000000000000≤n from h)];exact ⟨rfl,rfl⟩
 ·rw [decide_eq_false (show ¬ -1000000000000≤n from h)];exact ⟨rfl,rfl⟩
def C118 (p0:YZ3) (p1:Bool) (w:World) (K:Value→World→Prop):Prop:=
 NewK (.cells ((LZ3 p0).toArray) 41) w (fun g1 w2=>JoinK (Unit) (fun J3=>LdK (.int .i64) ((ad g1).add 0) w2 (fun (x6:Int)=>JoinK (Bool×Unit) (fun J7=>ifB (x6==1)
 (J7 ((x6==1),()) w2)
 (ifB (x6==3)
 (J7 ((x6==3),()) w2)
 (ifB (x6==4)
 (J7 ((x6==4),()) w2)
 (ifB (x6==14)
 (J7 ((x6==14),()) w2)
 (ifB (x6==13)
 (J7 ((x6==13),()) w2)
 (ifB (x6==15)
 (J7 ((x6==15),()) w2)
 (ifB (x6==16)
 (J7 ((x6==16),()) w2)
 (ifB (x6==6)
 (J7 ((x6==6),()) w2)
 (J7 ((x6==8),()) w2)))))))))
 (fun _ s8 w9=>ifB s8.1
 (J3 (()) w9)
 (JoinK (Bool×Unit) (fun J10=>ifB (x6==2)
 (J10 ((x6==2),()) w9)
 (ifB (x6==5)
 (J10 ((x6==5),()) w9)
 (J10 ((x6==12),()) w9)))
 (fun _ s11 w12=>ifB s11.1
 (LdK .str ((ad g1).add 1) w12 (fun (x13:ByteArray)=>CallK Tryz.prog 88 #[.string x13] w12 (.v (.one .bool)) (fun (x14:Bool) w15=>ifB (!x14)
 (K (.bool false) w15)
 (J3 (()) w15))))
 (ifB (x6==7)
 (LdK (.int .i64) ((ad g1).add 2) w12 (fun (x16:Int)=>ifB (decide (x16<0))
 (K (.bool false) w12)
 (LdK (.int .i64) ((ad g1).add 2) w12 (fun (x17:Int)=>ifB (decide (x17 > 10000))
 (K (.bool false) w12)
 (J3 (()) w12)))))
 (ifB (x6==11)
 (LdK (.int .i64) ((ad g1).add 2) w12 (fun (x18:Int)=>CallK Tryz.prog 55 #[.int .i64 x18] w12 (.v (.one .bool)) (fun (x19:Bool) w20=>ifB (!x19)
 (K (.bool false) w20)
 (J3 (()) w20))))
 (K (.bool false) w12))))))))
 (fun _ s4 w5=>LdK (.int .i64) ((ad g1).add 0) w5 (fun (x21:Int)=>ifB (!((decide (x21 ≥ 11))==p1))
 (K (.bool false) w5)
 (LdK .slc ((ad g1).add 3) w5 (fun (x22:SlT)=>LoopK (Int×Unit) (fun _ s23 w24 next25=>ifB (decide (s23.1<(x22.2.1:Int)))
 (DrewK w24 (fun w26=>LdK .slc ((ad g1).add 3) w26 (fun (x27:SlT)=>IdxK x27.1 x27.2.1 s23.1 4 (fun a28=>LdsK KZ3 a28 w26 (fun (x29:YZ3)=>ifB p1
 (CallK Tryz.prog 118 #[.agg (LZ3 x29).toArray,.bool true] w26 (.v (.one .bool)) (fun (x30:Bool) w31=>ifB (!x30)
 (K (.bool false) w31)
 (next25 (IntKind.i64.wrap (s23.1+1),()) w31)))
 (ifB (s23.1==0)
 (LdK (.int .i64) ((ad g1).add 0) w26 (fun (x32:Int)=>ifB (x32==6)
 (CallK Tryz.prog 118 #[.agg (LZ3 x29).toArray,.bool true] w26 (.v (.one .bool)) (fun (x33:Bool) w34=>ifB (!x33)
 (K (.bool false) w34)
 (next25 (IntKind.i64.wrap (s23.1+1),()) w34)))
 (LdK (.int .i64) ((ad g1).add 0) w26 (fun (x35:Int)=>CallK Tryz.prog 118 #[.agg (LZ3 x29).toArray,.bool (x35==8)] w26 (.v (.one .bool)) (fun (x36:Bool) w37=>ifB (!x36)
 (K (.bool false) w37)
 (next25 (IntKind.i64.wrap (s23.1+1),()) w37))))))
 (CallK Tryz.prog 118 #[.agg (LZ3 x29).toArray,.bool false] w26 (.v (.one .bool)) (fun (x38:Bool) w39=>ifB (!x38)
 (K (.bool false) w39)
 (next25 (IntKind.i64.wrap (s23.1+1),()) w39)))))))))
 (K (.bool true) w24))
 (0,()) w5)))))
def pl118:Plan:=(.seq .auto (.join [] (.seq .auto (.block (.join [(8,.one .bool)] .auto (.cond .auto (.join [(18,.one .bool)] .auto .auto))))) (.seq .auto (.seq (.seq .auto (.block (.loop [(50,.one (.int .i64))] (.seq .auto (.seq .auto (.seq (.block (.seq .auto (.seq (.tail 20) .auto))) .auto)))))) .auto))))
theorem c118 (p0:YZ3) (p1:Bool) (w:World) (K:Value→World→Prop) (h:C118 p0 p1 w K):Ret Tryz.prog 118 #[.agg (LZ3 p0).toArray,.bool p1] w K:=z0z (by kernel_rfl) Tryz.func118 (p:=pl118) (Eq.mpr (by kernel_rfl) h)
def C119 (p0:YZ3) (w:World) (K:Value→World→Prop):Prop:=
 NewK (.cells ((LZ3 p0).toArray) 41) w (fun g1 w2=>LdK (.int .i64) ((ad g1).add 0) w2 (fun (x3:Int)=>ifB (x3==0)
 (K (.tuple #[.int .i64 0,.int .i64 0]) w2)
 (LdK .slc ((ad g1).add 3) w2 (fun (x4:SlT)=>LoopK (Int×Int×Int×Unit) (fun _ s5 w6 next7=>ifB (decide (s5.2.2.1<(x4.2.1:Int)))
 (LdK .slc ((ad g1).add 3) w6 (fun (x8:SlT)=>IdxK x8.1 x8.2.1 s5.2.2.1 4 (fun a9=>LdsK KZ3 a9 w6 (fun (x10:YZ3)=>CallK Tryz.prog 119 #[.agg (LZ3 x10).toArray] w6 (.tup [.one (.int .i64),.one (.int .i64)]) (fun (x11:Int×Int×Unit) w12=>next7 (IntKind.i64.wrap (s5.1+x11.1),(if x11.2.1 > s5.2.1 then x11.2.1 else s5.2.1),IntKind.i64.wrap (s5.2.2.1+1),()) w12)))))
 (K (.tuple #[.int .i64 s5.1,.int .i64 (IntKind.i64.wrap (s5.2.1+1))]) w6))
 (1,0,0,()) w2))))
def pl119:Plan:=(.seq .auto (.seq .auto (.seq .auto (.seq (.seq .auto (.block (.loop [(4,.one (.int .i64)),(5,.one (.int .i64)),(15,.one (.int .i64))] .auto))) .auto))))
theorem c119 (p0:YZ3) (w:World) (K:Value→World→Prop) (h:C119 p0 w K):Ret Tryz.prog 119 #[.agg (LZ3 p0).toArray] w K:=z0z (by kernel_rfl) Tryz.func119 (p:=pl119) (Eq.mpr (by kernel_rfl) h)
def C120 (p0:YZ3) (w:World) (K:Value→World→Prop):Prop:=
 NewK (.cells ((LZ3 p0).toArray) 41) w (fun g1 w2=>JoinK (SlT×Unit) (fun J3=>LdK (.int .i64) ((ad g1).add 0) w2 (fun (x6:Int)=>ifB (x6==5)
 (LdK .str ((ad g1).add 1) w2 (fun (x7:ByteArray)=>RunK Tryz.prog (Instr.buildSlice 27 1 #[(0,.string x7)]) w2 (.v (.one .slc)) (fun (x8:SlT) w9=>RunK Tryz.prog (Builtin.append_ #[27,27] 27 #[.slice none 0 0,.slice x8.1 x8.2.1 x8.2.2]) w9 (.v (.one .slc)) (fun (x10:SlT) w11=>J3 ((x10.1,x10.2.1,x10.2.2),()) w11))))
 (J3 ((none,0,0),()) w2)))
 (fun _ s4 w5=>LdK .slc ((ad g1).add 3) w5 (fun (x12:SlT)=>LoopK (SlT×Int×Unit) (fun _ s13 w14 next15=>ifB (decide (s13.2.1<(x12.2.1:Int)))
 (LdK .slc ((ad g1).add 3) w14 (fun (x16:SlT)=>IdxK x16.1 x16.2.1 s13.2.1 4 (fun a17=>LdsK KZ3 a17 w14 (fun (x18:YZ3)=>CallK Tryz.prog 120 #[.agg (LZ3 x18).toArray] w14 (.v (.one .slc)) (fun (x19:SlT) w20=>RunK Tryz.prog (Builtin.append_ #[27,27] 27 #[.slice s13.1.1 s13.1.2.1 s13.1.2.2,.slice x19.1 x19.2.1 x19.2.2]) w20 (.v (.one .slc)) (fun (x21:SlT) w22=>next15 ((x21.1,x21.2.1,x21.2.2),IntKind.i64.wrap (s13.2.1+1),()) w22))))))
 (K (.slice s13.1.1 s13.1.2.1 s13.1.2.2) w14))
 ((s4.1.1,s4.1.2.1,s4.1.2.2),0,()) w5)))
def pl120:Plan:=(.seq .auto (.seq .auto (.join [(3,.one .slc)] .auto (.seq (.seq .auto (.block (.loop [(3,.one .slc),(16,.one (.int .i64))] .auto))) .auto))))
theorem c120 (p0:YZ3) (w:World) (K:Value→World→Prop) (h:C120 p0 w K):Ret Tryz.prog 120 #[.agg (LZ3 p0).toArray] w K:=z0z (by kernel_rfl) Tryz.func120 (p:=pl120) (Eq.mpr (by kernel_rfl) h)
def C89 (p0:YZ3) (p1:Bool) (w:World) (K:Value→World→Prop):Prop:=
 NewK (.cells ((LZ3 p0).toArray) 41) w (fun g1 w2=>LdsK KZ3 (ad g1) w2 (fun (x3:YZ3)=>CallK Tryz.prog 118 #[.agg (LZ3 x3).toArray,.bool p1] w2 (.v (.one .bool)) (fun (x4:Bool) w5=>ifB (!x4)
 (K (.int .i64 2) w5)
 (LdsK KZ3 (ad g1) w5 (fun (x6:YZ3)=>CallK Tryz.prog 119 #[.agg (LZ3 x6).toArray] w5 (.tup [.one (.int .i64),.one (.int .i64)]) (fun (x7:Int×Int×Unit) w8=>ifB (decide (x7.1 > 60))
 (K (.int .i64 5) w8)
 (ifB (decide (x7.2.1 > 12))
 (K (.int .i64 5) w8)
 (LdsK KZ3 (ad g1) w8 (fun (x9:YZ3)=>CallK Tryz.prog 120 #[.agg (LZ3 x9).toArray] w8 (.v (.one .slc)) (fun (x10:SlT) w11=>LoopK (Int×Unit) (fun _ s12 w13 next14=>ifB (decide (s12.1<(x10.2.1:Int)))
 (LoopK (Int×Unit) (fun _ s15 w16 next17=>ifB (decide (s15.1<s12.1))
 (DrewK w16 (fun w18=>IdxK x10.1 x10.2.1 s12.1 1 (fun a19=>LdK .str a19 w18 (fun (x20:ByteArray)=>IdxK x10.1 x10.2.1 s15.1 1 (fun a21=>LdK .str a21 w18 (fun (x22:ByteArray)=>ifB (x20.toList==x22.toList)
 (K (.int .i64 4) w18)
 (next17 (IntKind.i64.wrap (s15.1+1),()) w18)))))))
 (next14 (IntKind.i64.wrap (s12.1+1),()) w16))
 (0,()) w13)
 (K (.int .i64 0) w13))
 (0,()) w11))))))))))
def pl89:Plan:=(.seq .auto (.seq .auto (.seq .auto (.seq .auto (.seq (.seq .auto (.block (.loop [(29,.one (.int .i64))] (.seq .auto (.seq .auto (.seq (.block (.seq .auto (.seq .auto (.block (.loop [(9,.one (.int .i64))] (.seq .auto (.seq (.block (.seq .still .auto)) .auto))))))) .auto)))))) .auto)))))
theorem c89 (p0:YZ3) (p1:Bool) (w:World) (K:Value→World→Prop) (h:C89 p0 p1 w K):Ret Tryz.prog 89 #[.agg (LZ3 p0).toArray,.bool p1] w K:=z0z (by kernel_rfl) Tryz.func89 (p:=pl89) (Eq.mpr (by kernel_rfl) h)
def C121 (p0:Int) (w:World) (K:Value→World→Prop):Prop:=
 RunK Tryz.prog (Instr.buildSlice 27 17 #[(0,.string (⟨#[]⟩:ByteArray)),(1,.string (⟨#[122,101,114,111]⟩:ByteArray)),(2,.string (⟨#[111,110,101]⟩:ByteArray)),(3,.string (⟨#[103,105,118,101]⟩:ByteArray)),(4,.string (⟨#[97,110,100]⟩:ByteArray)),(5,.string (⟨#[111,114]⟩:ByteArray)),(6,.string (⟨#[115,99,97,108,101]⟩:ByteArray)),(7,.string (⟨#[119,104,101,110]⟩:ByteArray)),(8,.string (⟨#[105,102]⟩:ByteArray)),(9,.string (⟨#[]⟩:ByteArray)),(10,.string (⟨#[]⟩:ByteArray)),(11,.string (⟨#[]⟩:ByteArray)),(12,.string (⟨#[102,105,120]⟩:ByteArray)),(13,.string (⟨#[97,100,100]⟩:ByteArray)),(14,.string (⟨#[110,101,103]⟩:ByteArray)),(15,.string (⟨#[109,117,108]⟩:ByteArray)),(16,.string (⟨#[109,97,120]⟩:ByteArray))]) w (.v (.one .slc)) (fun (x1:SlT) w2=>IdxK x1.1 x1.2.1 p0 1 (fun a3=>LdK .str a3 w2 (fun (x4:ByteArray)=>K (.string x4) w2)))
def pl121:Plan:=.auto
theorem c121 (p0:Int) (w:World) (K:Value→World→Prop) (h:C121 p0 w K):Ret Tryz.prog 121 #[.int .i64 p0] w K:=z0z (by kernel_rfl) Tryz.func121 (p:=pl121) (Eq.mpr (by kernel_rfl) h)
def C90 (p0:YZ3) (w:World) (K:Value→World→Prop):Prop:=
 NewK (.cells ((LZ3 p0).toArray) 41) w (fun g1 w2=>LdK (.int .i64) ((ad g1).add 0) w2 (fun (x3:Int)=>ifB (x3==11)
 (LdK (.int .i64) ((ad g1).add 2) w2 (fun (x4:Int)=>CallK Tryz.prog 83 #[.int .i64 x4] w2 (.v (.one .str)) (fun (x5:ByteArray) w6=>K (.string x5) w6)))
 (ifB (x3==1)
 (K (.string (⟨#[122,101,114,111]⟩:ByteArray)) w2)
 (LdK (.int .i64) ((ad g1).add 0) w2 (fun (x7:Int)=>CallK Tryz.prog 121 #[.int .i64 x7] w2 (.v (.one .str)) (fun (x8:ByteArray) w9=>CatK x8 (⟨#[40]⟩:ByteArray) (JoinK (ByteArray×ByteArray×Unit) (fun J10=>JoinK (Bool×Unit) (fun J13=>LdK (.int .i64) ((ad g1).add 0) w9 (fun (x16:Int)=>ifB (x16==2)
 (J13 (true,()) w9)
 (LdK (.int .i64) ((ad g1).add 0) w9 (fun (x17:Int)=>ifB (x17==5)
 (J13 (true,()) w9)
 (LdK (.int .i64) ((ad g1).add 0) w9 (fun (x18:Int)=>J13 ((x18==12),()) w9))))))
 (fun _ s14 w15=>ifB s14.1
 (LdK .str ((ad g1).add 1) w15 (fun (x19:ByteArray)=>CatK (x8++(⟨#[40]⟩:ByteArray)) x19 (J10 (((x8++(⟨#[40]⟩:ByteArray))++x19),(⟨#[44]⟩:ByteArray),()) w15)))
 (J10 ((x8++(⟨#[40]⟩:ByteArray)),(⟨#[]⟩:ByteArray),()) w15)))
 (fun _ s11 w12=>JoinK (ByteArray×ByteArray×Unit) (fun J20=>LdK (.int .i64) ((ad g1).add 0) w12 (fun (x23:Int)=>ifB (x23==7)
 (LdK (.int .i64) ((ad g1).add 2) w12 (fun (x24:Int)=>CallK Tryz.prog 83 #[.int .i64 x24] w12 (.v (.one .str)) (fun (x25:ByteArray) w26=>CatK s11.1 x25 (J20 ((s11.1++x25),(⟨#[44]⟩:ByteArray),()) w26))))
 (J20 (s11.1,s11.2.1,()) w12)))
 (fun _ s21 w22=>LdK .slc ((ad g1).add 3) w22 (fun (x27:SlT)=>LoopK (ByteArray×ByteArray×Int×Unit) (fun _ s28 w29 next30=>ifB (decide (s28.2.2.1<(x27.2.1:Int)))
 (CatK s28.1 s28.2.1 (LdK .slc ((ad g1).add 3) w29 (fun (x31:SlT)=>IdxK x31.1 x31.2.1 s28.2.2.1 4 (fun a32=>LdsK KZ3 a32 w29 (fun (x33:YZ3)=>CallK Tryz.prog 90 #[.agg (LZ3 x33).toArray] w29 (.v (.one .str)) (fun (x34:ByteArray) w35=>CatK (s28.1++s28.2.1) x34 (next30 (((s28.1++s28.2.1)++x34),(⟨#[44]⟩:ByteArray),IntKind.i64.wrap (s28.2.2.1+1),()) w35)))))))
 (CatK s28.1 (⟨#[41]⟩:ByteArray) (K (.string (s28.1++(⟨#[41]⟩:ByteArray))) w29)))
 (s21.1,s21.2.1,0,()) w22))))))))))
def pl90:Plan:=(.seq .auto (.seq .auto (.seq .auto (.seq .auto (.join [(3,.one .str),(4,.one .str)] (.join [(31,.one .bool)] .auto .auto) (.join [(3,.one .str),(4,.one .str)] .auto (.seq (.seq .auto (.block (.loop [(3,.one .str),(4,.one .str),(47,.one (.int .i64))] .auto))) .auto)))))))
theorem c90 (p0:YZ3) (w:World) (K:Value→World→Prop) (h:C90 p0 w K):Ret Tryz.prog 90 #[.agg (LZ3 p0).toArray] w K:=z0z (by kernel_rfl) Tryz.func90 (p:=pl90) (Eq.mpr (by kernel_rfl) h)
def C56 (p0:YZ3) (p1:Bool) (w:World) (K:Value→World→Prop):Prop:=
 NewK (.cells ((LZ3 p0).toArray) 41) w (fun g1 w2=>LdsK KZ3 (ad g1) w2 (fun (x3:YZ3)=>CallK Tryz.prog 89 #[.agg (LZ3 x3).toArray,.bool p1] w2 (.v (.one (.int .i64))) (fun (x4:Int) w5=>ifB (x4 != 0)
 (K (.tuple #[.string (⟨#[]⟩:ByteArray),.int .i64 x4]) w5)
 (LdsK KZ3 (ad g1) w5 (fun (x6:YZ3)=>CallK Tryz.prog 90 #[.agg (LZ3 x6).toArray] w5 (.v (.one .str)) (fun (x7:ByteArray) w8=>ifB (decide ((x7.size:Int) > 1000))
 (K (.tuple #[.string (⟨#[]⟩:ByteArray),.int .i64 5]) w8)
 (K (.tuple #[.string x7,.int .i64 0]) w8)))))))
def pl56:Plan:=.auto
theorem c56 (p0:YZ3) (p1:Bool) (w:World) (K:Value→World→Prop) (h:C56 p0 p1 w K):Ret Tryz.prog 56 #[.agg (LZ3 p0).toArray,.bool p1] w K:=z0z (by kernel_rfl) Tryz.func56 (p:=pl56) (Eq.mpr (by kernel_rfl) h)
def C87 (p0:Value) (w:World) (K:Value→World→Prop):Prop:=
 NewK (.cells #[.int .i64 0,.string (⟨#[]⟩:ByteArray),.int .i64 0,.slice none 0 0] 41) w (fun g1 w2=>TaK p0 188 (.agg []) (fun (x3:Unit)=>NewK (.cells #[] 188) w2 (fun g4 w5=>StsK (ad g4) [] w5 (fun w6=>StsK (ad g1) [.int .i64 1,.string (⟨#[]⟩:ByteArray),.int .i64 0,.slice none 0 0] w6 (fun w7=>LdsK KZ3 (ad g1) w7 (fun (x8:YZ3)=>K (.agg (LZ3 x8).toArray) w7)))))
 (TaK p0 102 (.agg [.str]) (fun (x9:ByteArray×Unit)=>NewK (.cells #[.string (⟨#[]⟩:ByteArray)] 102) w2 (fun g10 w11=>StsK (ad g10) [.string x9.1] w11 (fun w12=>LdK .str ((ad g10).add 0) w12 (fun (x13:ByteArray)=>StsK (ad g1) [.int .i64 2,.string x13,.int .i64 0,.slice none 0 0] w12 (fun w14=>LdsK KZ3 (ad g1) w14 (fun (x15:YZ3)=>K (.agg (LZ3 x15).toArray) w14))))))
 (TaK p0 190 (.agg [.raw]) (fun (x16:Value×Unit)=>NewK (.cells #[.nilIface] 190) w2 (fun g17 w18=>StsK (ad g17) [x16.1] w18 (fun w19=>LdK .raw ((ad g17).add 0) w19 (fun (x20:Value)=>CallK Tryz.prog 87 #[x20] w19 (.v (.agg KZ3)) (fun (x21:YZ3) w22=>RunK Tryz.prog (Instr.buildSlice 39 1 #[(0,.agg (LZ3 x21).toArray)]) w22 (.v (.one .slc)) (fun (x23:SlT) w24=>StsK (ad g1) [.int .i64 3,.string (⟨#[]⟩:ByteArray),.int .i64 0,.slice x23.1 x23.2.1 x23.2.2] w24 (fun w25=>LdsK KZ3 (ad g1) w25 (fun (x26:YZ3)=>K (.agg (LZ3 x26).toArray) w25))))))))
 (TaK p0 192 (.agg [.raw,.raw]) (fun (x27:Value×Value×Unit)=>NewK (.cells #[.nilIface,.nilIface] 192) w2 (fun g28 w29=>StsK (ad g28) [x27.1,x27.2.1] w29 (fun w30=>DrewK w30 (fun w31=>HoldK (fun S32=>InK S32 ((ad g28).add 0) (LdK .raw ((ad g28).add 0) w31 (fun (x33:Value)=>InK S32 ((ad g28).add 1) (LdK .raw ((ad g28).add 1) w31 (fun (x34:Value)=>CallK Tryz.prog 87 #[x33] w31 (.v (.agg KZ3)) (fun (x35:YZ3) w36=>KeepK S32 w31 w36 (CallK Tryz.prog 87 #[x34] w36 (.v (.agg KZ3)) (fun (x37:YZ3) w38=>KeepK S32 w36 w38 (CallK Tryz.prog 114 #[.int .i64 4,.agg (LZ3 x35).toArray,.agg (LZ3 x37).toArray] w38 (.v (.agg KZ3)) (fun (x39:YZ3) w40=>KeepK S32 w38 w40 (StsK (ad g1) (LZ3 x39) w40 (fun w41=>KeepK S32 w40 w41 (LdsK KZ3 (ad g1) w41 (fun (x42:YZ3)=>K (.agg (LZ3 x42).toArray) w41))))))))))))))))))
 (TaK p0 194 (.agg [.str,.raw,.raw]) (fun (x43:ByteArray×Value×Value×Unit)=>NewK (.cells #[.string (⟨#[]⟩:ByteArray),.nilIface,.nilIface] 194) w2 (fun g44 w45=>StsK (ad g44) [.string x43.1,x43.2.1,x43.2.2.1] w45 (fun w46=>DrewK w46 (fun w47=>HoldK (fun S48=>InK S48 ((ad g44).add 1) (LdK .raw ((ad g44).add 1) w47 (fun (x49:Value)=>InK S48 ((ad g44).add 2) (LdK .raw ((ad g44).add 2) w47 (fun (x50:Value)=>AndK (CallK Tryz.prog 87 #[x49] w47 (.v (.agg KZ3)) (fun (x51:YZ3) w52=>KeepK S48 w47 w52 (AndK (CallK Tryz.prog 87 #[x50] w52 (.v (.agg KZ3)) (fun (x53:YZ3) w54=>KeepK S48 w52 w54 (AndK (CallK Tryz.prog 114 #[.int .i64 5,.agg (LZ3 x51).toArray,.agg (LZ3 x53).toArray] w54 (.v (.agg KZ3)) (fun (x55:YZ3) w56=>KeepK S48 w54 w56 (NewK (.cells #[.int .i64 0,.string (⟨#[]⟩:ByteArray),.int .i64 0,.slice none 0 0] 41) w56 (fun g57 w58=>KeepK S48 w56 w58 (StsK (ad g57) (LZ3 x55) w58 (fun w59=>KeepK S48 w58 w59 (LdK .str ((ad g44).add 0) w59 (fun (x60:ByteArray)=>StK ((ad g57).add 1) (.string x60) w59 (fun w61=>LdsK KZ3 (ad g57) w61 (fun (x62:YZ3)=>StsK (ad g1) (LZ3 x62) w61 (fun w63=>LdsK KZ3 (ad g1) w63 (fun (x64:YZ3)=>K (.agg (LZ3 x64).toArray) w63))))))))))))
 (NewK (.cells #[.int .i64 0,.string (⟨#[]⟩:ByteArray),.int .i64 0,.slice none 0 0] 41) w54 (fun g65 w66=>KeepK S48 w54 w66 (CallK Tryz.prog 114 #[.int .i64 5,.agg (LZ3 x51).toArray,.agg (LZ3 x53).toArray] w66 (.v (.agg KZ3)) (fun (x67:YZ3) w68=>KeepK S48 w66 w68 (StsK (ad g65) (LZ3 x67) w68 (fun w69=>KeepK S48 w68 w69 (LdK .str ((ad g44).add 0) w69 (fun (x70:ByteArray)=>StK ((ad g65).add 1) (.string x70) w69 (fun w71=>LdsK KZ3 (ad g65) w71 (fun (x72:YZ3)=>StsK (ad g1) (LZ3 x72) w71 (fun w73=>LdsK KZ3 (ad g1) w73 (fun (x74:YZ3)=>K (.agg (LZ3 x74).toArray) w73)))))))))))))))
 (NewK (.cells #[.int .i64 0,.string (⟨#[]⟩:ByteArray),.int .i64 0,.slice none 0 0] 41) w52 (fun g75 w76=>KeepK S48 w52 w76 (CallK Tryz.prog 87 #[x50] w76 (.v (.agg KZ3)) (fun (x77:YZ3) w78=>KeepK S48 w76 w78 (CallK Tryz.prog 114 #[.int .i64 5,.agg (LZ3 x51).toArray,.agg (LZ3 x77).toArray] w78 (.v (.agg KZ3)) (fun (x79:YZ3) w80=>KeepK S48 w78 w80 (StsK (ad g75) (LZ3 x79) w80 (fun w81=>KeepK S48 w80 w81 (LdK .str ((ad g44).add 0) w81 (fun (x82:ByteArray)=>StK ((ad g75).add 1) (.string x82) w81 (fun w83=>LdsK KZ3 (ad g75) w83 (fun (x84:YZ3)=>StsK (ad g1) (LZ3 x84) w83 (fun w85=>LdsK KZ3 (ad g1) w85 (fun (x86:YZ3)=>K (.agg (LZ3 x86).toArray) w85)))))))))))))))))
 (NewK (.cells #[.int .i64 0,.string (⟨#[]⟩:ByteArray),.int .i64 0,.slice none 0 0] 41) w47 (fun g87 w88=>KeepK S48 w47 w88 (CallK Tryz.prog 87 #[x49] w88 (.v (.agg KZ3)) (fun (x89:YZ3) w90=>KeepK S48 w88 w90 (CallK Tryz.prog 87 #[x50] w90 (.v (.agg KZ3)) (fun (x91:YZ3) w92=>KeepK S48 w90 w92 (CallK Tryz.prog 114 #[.int .i64 5,.agg (LZ3 x89).toArray,.agg (LZ3 x91).toArray] w92 (.v (.agg KZ3)) (fun (x93:YZ3) w94=>KeepK S48 w92 w94 (StsK (ad g87) (LZ3 x93) w94 (fun w95=>KeepK S48 w94 w95 (LdK .str ((ad g44).add 0) w95 (fun (x96:ByteArray)=>StK ((ad g87).add 1) (.string x96) w95 (fun w97=>LdsK KZ3 (ad g87) w97 (fun (x98:YZ3)=>StsK (ad g1) (LZ3 x98) w97 (fun w99=>LdsK KZ3 (ad g1) w99 (fun (x100:YZ3)=>K (.agg (LZ3 x100).toArray) w99)))))))))))))))))))))))))
 (TaK p0 197 (.agg [.raw,.raw]) (fun (x101:Value×Value×Unit)=>NewK (.cells #[.nilIface,.nilIface] 197) w2 (fun g102 w103=>StsK (ad g102) [x101.1,x101.2.1] w103 (fun w104=>DrewK w104 (fun w105=>HoldK (fun S106=>InK S106 ((ad g102).add 0) (LdK .raw ((ad g102).add 0) w105 (fun (x107:Value)=>InK S106 ((ad g102).add 1) (LdK .raw ((ad g102).add 1) w105 (fun (x108:Value)=>CallK Tryz.prog 115 #[x107] w105 (.v (.agg KZ3)) (fun (x109:YZ3) w110=>KeepK S106 w105 w110 (CallK Tryz.prog 87 #[x108] w110 (.v (.agg KZ3)) (fun (x111:YZ3) w112=>KeepK S106 w110 w112 (CallK Tryz.prog 114 #[.int .i64 6,.agg (LZ3 x109).toArray,.agg (LZ3 x111).toArray] w112 (.v (.agg KZ3)) (fun (x113:YZ3) w114=>KeepK S106 w112 w114 (StsK (ad g1) (LZ3 x113) w114 (fun w115=>KeepK S106 w114 w115 (LdsK KZ3 (ad g1) w115 (fun (x116:YZ3)=>K (.agg (LZ3 x116).toArray) w115))))))))))))))))))
 (TaK p0 199 (.agg [.int .i64,.raw]) (fun (x117:Int×Value×Unit)=>NewK (.cells #[.int .i64 0,.nilIface] 199) w2 (fun g118 w119=>StsK (ad g118) [.int .i64 x117.1,x117.2.1] w119 (fun w120=>DrewK w120 (fun w121=>HoldK (fun S122=>InK S122 ((ad g118).add 0) (LdK (.int .i64) ((ad g118).add 0) w121 (fun (x123:Int)=>InK S122 ((ad g118).add 1) (LdK .raw ((ad g118).add 1) w121 (fun (x124:Value)=>CallK Tryz.prog 87 #[x124] w121 (.v (.agg KZ3)) (fun (x125:YZ3) w126=>KeepK S122 w121 w126 (RunK Tryz.prog (Instr.buildSlice 39 1 #[(0,.agg (LZ3 x125).toArray)]) w126 (.v (.one .slc)) (fun (x127:SlT) w128=>KeepK S122 w126 w128 (StsK (ad g1) [.int .i64 7,.string (⟨#[]⟩:ByteArray),.int .i64 x123,.slice x127.1 x127.2.1 x127.2.2] w128 (fun w129=>KeepK S122 w128 w129 (LdsK KZ3 (ad g1) w129 (fun (x130:YZ3)=>K (.agg (LZ3 x130).toArray) w129))))))))))))))))
 (TaK p0 201 (.agg [.raw,.raw,.raw]) (fun (x131:Value×Value×Value×Unit)=>NewK (.cells #[.nilIface,.nilIface,.nilIface] 201) w2 (fun g132 w133=>StsK (ad g132) [x131.1,x131.2.1,x131.2.2.1] w133 (fun w134=>DrewK w134 (fun w135=>HoldK (fun S136=>InK S136 ((ad g132).add 0) (LdK .raw ((ad g132).add 0) w135 (fun (x137:Value)=>InK S136 ((ad g132).add 1) (LdK .raw ((ad g132).add 1) w135 (fun (x138:Value)=>InK S136 ((ad g132).add 2) (LdK .raw ((ad g132).add 2) w135 (fun (x139:Value)=>CallK Tryz.prog 115 #[x137] w135 (.v (.agg KZ3)) (fun (x140:YZ3) w141=>KeepK S136 w135 w141 (CallK Tryz.prog 87 #[x138] w141 (.v (.agg KZ3)) (fun (x142:YZ3) w143=>KeepK S136 w141 w143 (CallK Tryz.prog 87 #[x139] w143 (.v (.agg KZ3)) (fun (x144:YZ3) w145=>KeepK S136 w143 w145 (RunK Tryz.prog (Instr.buildSlice 39 3 #[(0,.agg (LZ3 x140).toArray),(1,.agg (LZ3 x142).toArray),(2,.agg (LZ3 x144).toArray)]) w145 (.v (.one .slc)) (fun (x146:SlT) w147=>KeepK S136 w145 w147 (StsK (ad g1) [.int .i64 8,.string (⟨#[]⟩:ByteArray),.int .i64 0,.slice x146.1 x146.2.1 x146.2.2] w147 (fun w148=>KeepK S136 w147 w148 (LdsK KZ3 (ad g1) w148 (fun (x149:YZ3)=>K (.agg (LZ3 x149).toArray) w148))))))))))))))))))))))
 (StsK (ad g1) [.int .i64 0,.string (⟨#[]⟩:ByteArray),.int .i64 0,.slice none 0 0] w2 (fun w150=>LdsK KZ3 (ad g1) w150 (fun (x151:YZ3)=>K (.agg (LZ3 x151).toArray) w150)))))))))))
def pl87:Plan:=(.seq .auto (.seq (.seq .auto (.block (.seq .auto (.cond .auto (.seq .auto (.cond .auto (.seq .auto (.cond .auto (.seq .auto (.cond (.seq .auto (.seq (.held (.soft 0 (.soft 1 (.soft 3 (.soft 4 (.pick 2 (.pick 5 (.pick 6 (.pick 7 .done .stop) .stop) .stop) .stop)))))) .auto)) (.seq .auto (.cond (.seq .auto (.seq (.held (.soft 0 (.soft 1 (.soft 3 (.soft 4 (.pick 2 (.pick 5 (.pick 6 (.pick 7 (.pick 8 .done .stop) .stop) (.pick 7 (.pick 6 (.pick 8 .done .stop) .stop) .stop)) (.pick 7 (.pick 5 (.pick 6 (.pick 8 .done .stop) .stop) .stop) .stop)) (.pick 7 (.pick 2 (.pick 5 (.pick 6 (.pick 8 .done .stop) .stop) .stop) .stop) .stop))))))) .auto)) (.seq .auto (.cond (.seq .auto (.seq (.held (.soft 0 (.soft 1 (.soft 3 (.soft 4 (.pick 2 (.pick 5 (.pick 6 (.pick 7 .done .stop) .stop) .stop) .stop)))))) .auto)) (.seq .auto (.cond (.seq .auto (.seq (.held (.soft 0 (.soft 1 (.soft 2 (.soft 3 (.pick 4 (.pick 5 (.soft 6 (.pick 7 .done .stop)) .stop) .stop)))))) .auto)) (.seq .auto (.cond (.seq .auto (.seq (.held (.soft 0 (.soft 1 (.soft 3 (.soft 4 (.soft 6 (.soft 7 (.pick 2 (.pick 5 (.pick 8 (.pick 9 (.soft 10 (.pick 11 .done .stop)) .stop) .stop) .stop) .stop)))))))) .auto)) .auto)))))))))))))))))) .auto))
theorem c87 (p0:Value) (w:World) (K:Value→World→Prop) (h:C87 p0 w K):Ret Tryz.prog 87 #[p0] w K:=z0z (by kernel_rfl) Tryz.func87 (p:=pl87) (Eq.mpr (by kernel_rfl) h)
def C115 (p0:Value) (w:World) (K:Value→World→Prop):Prop:=
 NewK (.cells #[.int .i64 0,.string (⟨#[]⟩:ByteArray),.int .i64 0,.slice none 0 0] 41) w (fun g1 w2=>TaK p0 108 (.agg [.int .i64]) (fun (x3:Int×Unit)=>NewK (.cells #[.int .i64 0] 108) w2 (fun g4 w5=>StsK (ad g4) [.int .i64 x3.1] w5 (fun w6=>LdK (.int .i64) ((ad g4).add 0) w6 (fun (x7:Int)=>StsK (ad g1) [.int .i64 11,.string (⟨#[]⟩:ByteArray),.int .i64 x7,.slice none 0 0] w6 (fun w8=>LdsK KZ3 (ad g1) w8 (fun (x9:YZ3)=>K (.agg (LZ3 x9).toArray) w8))))))
 (TaK p0 210 (.agg [.str]) (fun (x10:ByteArray×Unit)=>NewK (.cells #[.string (⟨#[]⟩:ByteArray)] 210) w2 (fun g11 w12=>StsK (ad g11) [.string x10.1] w12 (fun w13=>LdK .str ((ad g11).add 0) w13 (fun (x14:ByteArray)=>StsK (ad g1) [.int .i64 12,.string x14,.int .i64 0,.slice none 0 0] w13 (fun w15=>LdsK KZ3 (ad g1) w15 (fun (x16:YZ3)=>K (.agg (LZ3 x16).toArray) w15))))))
 (TaK p0 252 (.agg [.raw,.raw]) (fun (x17:Value×Value×Unit)=>NewK (.cells #[.nilIface,.nilIface] 252) w2 (fun g18 w19=>StsK (ad g18) [x17.1,x17.2.1] w19 (fun w20=>DrewK w20 (fun w21=>HoldK (fun S22=>InK S22 ((ad g18).add 0) (LdK .raw ((ad g18).add 0) w21 (fun (x23:Value)=>InK S22 ((ad g18).add 1) (LdK .raw ((ad g18).add 1) w21 (fun (x24:Value)=>CallK Tryz.prog 115 #[x23] w21 (.v (.agg KZ3)) (fun (x25:YZ3) w26=>KeepK S22 w21 w26 (CallK Tryz.prog 115 #[x24] w26 (.v (.agg KZ3)) (fun (x27:YZ3) w28=>KeepK S22 w26 w28 (CallK Tryz.prog 114 #[.int .i64 13,.agg (LZ3 x25).toArray,.agg (LZ3 x27).toArray] w28 (.v (.agg KZ3)) (fun (x29:YZ3) w30=>KeepK S22 w28 w30 (StsK (ad g1) (LZ3 x29) w30 (fun w31=>KeepK S22 w30 w31 (LdsK KZ3 (ad g1) w31 (fun (x32:YZ3)=>K (.agg (LZ3 x32).toArray) w31))))))))))))))))))
 (TaK p0 254 (.agg [.raw]) (fun (x33:Value×Unit)=>NewK (.cells #[.nilIface] 254) w2 (fun g34 w35=>StsK (ad g34) [x33.1] w35 (fun w36=>LdK .raw ((ad g34).add 0) w36 (fun (x37:Value)=>CallK Tryz.prog 115 #[x37] w36 (.v (.agg KZ3)) (fun (x38:YZ3) w39=>RunK Tryz.prog (Instr.buildSlice 39 1 #[(0,.agg (LZ3 x38).toArray)]) w39 (.v (.one .slc)) (fun (x40:SlT) w41=>StsK (ad g1) [.int .i64 14,.string (⟨#[]⟩:ByteArray),.int .i64 0,.slice x40.1 x40.2.1 x40.2.2] w41 (fun w42=>LdsK KZ3 (ad g1) w42 (fun (x43:YZ3)=>K (.agg (LZ3 x43).toArray) w42))))))))
 (TaK p0 255 (.agg [.raw,.raw]) (fun (x44:Value×Value×Unit)=>NewK (.cells #[.nilIface,.nilIface] 255) w2 (fun g45 w46=>StsK (ad g45) [x44.1,x44.2.1] w46 (fun w47=>DrewK w47 (fun w48=>HoldK (fun S49=>InK S49 ((ad g45).add 0) (LdK .raw ((ad g45).add 0) w48 (fun (x50:Value)=>InK S49 ((ad g45).add 1) (LdK .raw ((ad g45).add 1) w48 (fun (x51:Value)=>CallK Tryz.prog 115 #[x50] w48 (.v (.agg KZ3)) (fun (x52:YZ3) w53=>KeepK S49 w48 w53 (CallK Tryz.prog 115 #[x51] w53 (.v (.agg KZ3)) (fun (x54:YZ3) w55=>KeepK S49 w53 w55 (CallK Tryz.prog 114 #[.int .i64 15,.agg (LZ3 x52).toArray,.agg (LZ3 x54).toArray] w55 (.v (.agg KZ3)) (fun (x56:YZ3) w57=>KeepK S49 w55 w57 (StsK (ad g1) (LZ3 x56) w57 (fun w58=>KeepK S49 w57 w58 (LdsK KZ3 (ad g1) w58 (fun (x59:YZ3)=>K (.agg (LZ3 x59).toArray) w58))))))))))))))))))
 (TaK p0 256 (.agg [.raw,.raw]) (fun (x60:Value×Value×Unit)=>NewK (.cells #[.nilIface,.nilIface] 256) w2 (fun g61 w62=>StsK (ad g61) [x60.1,x60.2.1] w62 (fun w63=>DrewK w63 (fun w64=>HoldK (fun S65=>InK S65 ((ad g61).add 0) (LdK .raw ((ad g61).add 0) w64 (fun (x66:Value)=>InK S65 ((ad g61).add 1) (LdK .raw ((ad g61).add 1) w64 (fun (x67:Value)=>CallK Tryz.prog 115 #[x66] w64 (.v (.agg KZ3)) (fun (x68:YZ3) w69=>KeepK S65 w64 w69 (CallK Tryz.prog 115 #[x67] w69 (.v (.agg KZ3)) (fun (x70:YZ3) w71=>KeepK S65 w69 w71 (CallK Tryz.prog 114 #[.int .i64 16,.agg (LZ3 x68).toArray,.agg (LZ3 x70).toArray] w71 (.v (.agg KZ3)) (fun (x72:YZ3) w73=>KeepK S65 w71 w73 (StsK (ad g1) (LZ3 x72) w73 (fun w74=>KeepK S65 w73 w74 (LdsK KZ3 (ad g1) w74 (fun (x75:YZ3)=>K (.agg (LZ3 x75).toArray) w74))))))))))))))))))
 (StsK (ad g1) [.int .i64 0,.string (⟨#[]⟩:ByteArray),.int .i64 0,.slice none 0 0] w2 (fun w76=>LdsK KZ3 (ad g1) w76 (fun (x77:YZ3)=>K (.agg (LZ3 x77).toArray) w76)))))))))
def pl115:Plan:=(.seq .auto (.seq (.seq .auto (.block (.seq .auto (.cond .auto (.seq .auto (.cond .auto (.seq .auto (.cond (.seq .auto (.seq (.held (.soft 0 (.soft 1 (.soft 3 (.soft 4 (.pick 2 (.pick 5 (.pick 6 (.pick 7 .done .stop) .stop) .stop) .stop)))))) .auto)) (.seq .auto (.cond .auto (.seq .auto (.cond (.seq .auto (.seq (.held (.soft 0 (.soft 1 (.soft 3 (.soft 4 (.pick 2 (.pick 5 (.pick 6 (.pick 7 .done .stop) .stop) .stop) .stop)))))) .auto)) (.seq .auto (.cond (.seq .auto (.seq (.held (.soft 0 (.soft 1 (.soft 3 (.soft 4 (.pick 2 (.pick 5 (.pick 6 (.pick 7 .done .stop) .stop) .stop) .stop)))))) .auto)) .auto)))))))))))))) .auto))
theorem c115 (p0:Value) (w:World) (K:Value→World→Prop) (h:C115 p0 w K):Ret Tryz.prog 115 #[p0] w K:=z0z (by kernel_rfl) Tryz.func115 (p:=pl115) (Eq.mpr (by kernel_rfl) h)
def C114 (p0:Int) (p1:YZ3) (p2:YZ3) (w:World) (K:Value→World→Prop):Prop:=
 NewK (.cells ((LZ3 p1).toArray) 41) w (fun g1 w2=>NewK (.cells ((LZ3 p2).toArray) 41) w2 (fun g3 w4=>NewK (.cells #[.int .i64 0,.string (⟨#[]⟩:ByteArray),.int .i64 0,.slice none 0 0] 41) w4 (fun g5 w6=>LdsK KZ3 (ad g1) w6 (fun (x7:YZ3)=>LdsK KZ3 (ad g3) w6 (fun (x8:YZ3)=>RunK Tryz.prog (Instr.buildSlice 39 2 #[(0,.agg (LZ3 x7).toArray),(1,.agg (LZ3 x8).toArray)]) w6 (.v (.one .slc)) (fun (x9:SlT) w10=>StsK (ad g5) [.int .i64 p0,.string (⟨#[]⟩:ByteArray),.int .i64 0,.slice x9.1 x9.2.1 x9.2.2] w10 (fun w11=>LdsK KZ3 (ad g5) w11 (fun (x12:YZ3)=>K (.agg (LZ3 x12).toArray) w11))))))))
def pl114:Plan:=.auto
theorem c114 (p0:Int) (p1:YZ3) (p2:YZ3) (w:World) (K:Value→World→Prop) (h:C114 p0 p1 p2 w K):Ret Tryz.prog 114 #[.int .i64 p0,.agg (LZ3 p1).toArray,.agg (LZ3 p2).toArray] w K:=z0z (by kernel_rfl) Tryz.func114 (p:=pl114) (Eq.mpr (by kernel_rfl) h)
def okK (k:Int) (s:List UInt8) (n:Int):Bool:=
 if k=1∨k=3∨k=4∨k=14∨k=13∨k=15∨k=16∨k=6∨k=8 then true
 else if k=2∨k=5∨k=12 then nameL s
 else if k=7 then decide (0≤n)&&decide (n≤10000)
 else if k=11 then validF n
 else false
mutual
def formR:Tr→Bool→Bool
 | .mk k s n ks,b=>okK k s n&&(decide (11≤k)==b)&&formRs ks b (k==6||k==8)
def formRs:List Tr→Bool→Bool→Bool
 | [],_,_=>true
 | t::ts,b,f=>formR t (b||f)&&formRs ts b false
end
mutual
def sizeR:Tr→Nat
 | .mk k _ _ ks=>if k=0 then 0 else sizeRs ks+1
def sizeRs:List Tr→Nat
 | []=>0
 | t::ts=>sizeR t+sizeRs ts
end
mutual
def depthR:Tr→Nat
 | .mk k _ _ ks=>if k=0 then 0 else depthRs ks+1
def depthRs:List Tr→Nat
 | []=>0
 | t::ts=>max (depthR t) (depthRs ts)
end
mutual
def labelsR:Tr→List (List UInt8)
 | .mk k s _ ks=>(if k=5 then [s] else [])++labelsRs ks
def labelsRs:List Tr→List (List UInt8)
 | []=>[]
 | t::ts=>labelsR t++labelsRs ts
end
mutual
def cntR:Tr→Nat
 | .mk _ _ _ ks=>cntRs ks+1
def cntRs:List Tr→Nat
 | []=>0
 | t::ts=>cntR t+cntRs ts
end
mutual
def shortR:Tr→Prop
 | .mk _ s _ ks=>s.length≤1000∧shortRs ks
def shortRs:List Tr→Prop
 | []=>True
 | t::ts=>shortR t∧shortRs ts
end
def checkR (t:Tr) (b:Bool):Int:=if formR t b=false then 2 else if 60<sizeR t then 5 else if 12<depthR t then 5 else if (labelsR t).Nodup then 0 else 4
mutual
theorem sizeR_le:∀ t:Tr,sizeR t≤cntR t
 | .mk k s n ks=>by unfold sizeR cntR;have:=sizeRs_le ks;split<;>omega
theorem sizeRs_le:∀ ts:List Tr,sizeRs ts≤cntRs ts
 | []=>Nat.le_refl _
 | t::ts=>by unfold sizeRs cntRs;have:=sizeR_le t;have:=sizeRs_le ts;omega
end
mutual
theorem depthR_le:∀ t:Tr,depthR t≤cntR t
 | .mk k s n ks=>by unfold depthR cntR;have:=depthRs_le ks;split<;>omega
theorem depthRs_le:∀ ts:List Tr,depthRs ts≤cntRs ts
 | []=>Nat.le_refl _
 | t::ts=>by unfold depthRs cntRs;have:=depthR_le t;have:=depthRs_le ts;omega
end
mutual
theorem labelsR_le:∀ t:Tr,(labelsR t).length≤cntR t
 | .mk k s n ks=>by
  unfold labelsR cntR
  have:=labelsRs_le ks
  rw [List.length_append]
  split<;>simp<;>omega
theorem labelsRs_le:∀ ts:List Tr,(labelsRs ts).length≤cntRs ts
 | []=>Nat.le_refl _
 | t::ts=>by unfold labelsRs cntRs;have:=labelsR_le t;have:=labelsRs_le ts;rw [List.length_append];omega
end
theorem cntR_pos (t:Tr):1≤cntR t:=by cases t;unfold cntR;omega
theorem cntRs_app:∀ (a b:List Tr),cntRs (a++b)=cntRs a+cntRs b
 | [],b=>by simp [cntRs]
 | t::a,b=>by simp only [List.cons_append,cntRs,cntRs_app a b];omega
theorem cntRs_len:∀ ts:List Tr,ts.length≤cntRs ts
 | []=>Nat.le_refl _
 | t::ts=>by unfold cntRs;have:=cntR_pos t;have:=cntRs_len ts;rw [List.length_cons];omega
theorem cntRs_get {ts:List Tr} {i:Nat} {t:Tr} (h:ts[i]? = some t):cntRs (ts.take i)+cntR t+cntRs (ts.drop (i+1))=cntRs ts:=by
 have hi:=(List.getElem?_eq_some_iff.1 h).1
 have e:ts=ts.take i++(t::ts.drop (i+1)):=by
  conv=>lhs;rw [← List.take_append_drop i ts]
  rw [List.drop_eq_getElem_cons hi,(List.getElem?_eq_some_iff.1 h).2]
 conv=>rhs;rw [e]
 rw [cntRs_app,show cntRs (t::ts.drop (i+1))=cntR t+cntRs (ts.drop (i+1)) from rfl];omega
theorem shortRs_get:∀ {ts:List Tr} {i:Nat} {t:Tr},shortRs ts→ts[i]? = some t→shortR t
 | [],i,t,h,ht=>by simp at ht
 | u::us,0,t,h,ht=>by simp at ht;subst ht;exact h.1
 | u::us,i+1,t,h,ht=>shortRs_get h.2 (by simpa using ht)
theorem sizeRs_app:∀ (a b:List Tr),sizeRs (a++b)=sizeRs a+sizeRs b
 | [],b=>by simp [sizeRs]
 | t::a,b=>by simp only [List.cons_append,sizeRs,sizeRs_app a b];omega
theorem depthRs_app:∀ (a b:List Tr),depthRs (a++b)=max (depthRs a) (depthRs b)
 | [],b=>by simp [depthRs]
 | t::a,b=>by simp only [List.cons_append,depthRs,depthRs_app a b];omega
theorem labelsRs_app:∀ (a b:List Tr),labelsRs (a++b)=labelsRs a++labelsRs b
 | [],b=>by simp [labelsRs]
 | t::a,b=>by simp only [List.cons_append,labelsRs,labelsRs_app a b,List.append_assoc]
theorem take_one {α:Type} {ts:List α} {i:Nat} {t:α} (h:ts[i]? = some t):ts.take (i+1)=ts.take i++[t]:=by rw [List.take_add_one,h];rfl
theorem drop_one {α:Type} {ts:List α} {i:Nat} {t:α} (h:ts[i]? = some t):ts.drop i=t::ts.drop (i+1):=by
 have hi:=(List.getElem?_eq_some_iff.1 h).1
 rw [List.drop_eq_getElem_cons hi,(List.getElem?_eq_some_iff.1 h).2]
theorem kid_lt {k:Int} {s:List UInt8} {n:Int} {ks:List Tr} {t:Tr} (h:t∈ks):SizeOf.sizeOf t<SizeOf.sizeOf (Tr.mk k s n ks):=by
 have:=List.sizeOf_lt_of_mem h
 simp only [Tr.mk.sizeOf_spec];omega
def shortO:Ob→Prop
 | .none=>True
 | .const _=>True
 | .fix s=>s.length≤1000
 | .add l r | .mul l r | .max l r=>shortO l∧shortO r
 | .neg o=>shortO o
def shortT:Tm→Prop
 | .none=>True
 | .zero=>True
 | .one s=>s.length≤1000
 | .give t=>shortT t
 | .and l r=>shortT l∧shortT r
 | .or s l r=>s.length≤1000∧shortT l∧shortT r
 | .scale o t=>shortO o∧shortT t
 | .when _ t=>shortT t
 | .cond o l r=>shortO o∧shortT l∧shortT r
theorem cnt_trO (o:Ob):cntR (trO o)≤4 * nodesO o+1:=by
 induction o<;>simp only [trO,cntR,cntRs,nodesO]<;>omega
theorem cnt_trT (t:Tm):cntR (trT t)≤4 * nodesT t+1:=by
 induction t<;>simp only [trT,cntR,cntRs,nodesT]<;>(try have:=cnt_trO)<;>first | omega | (rename_i o _ _;have:=cnt_trO o;omega) | (rename_i o _ _ _ _;have:=cnt_trO o;omega)
theorem short_trO (o:Ob) (h:shortO o):shortR (trO o):=by
 induction o<;>simp_all [trO,shortR,shortRs,shortO]
theorem short_trT (t:Tm) (h:shortT t):shortR (trT t):=by
 induction t<;>simp_all [trT,shortR,shortRs,shortT,short_trO]
theorem size_trO (o:Ob):sizeR (trO o)=nodesO o:=by
 induction o<;>simp_all [trO,sizeR,sizeRs,nodesO]
theorem size_trT (t:Tm):sizeR (trT t)=nodesT t:=by
 induction t<;>simp_all [trT,sizeR,sizeRs,nodesT,size_trO]<;>omega
theorem depth_trO (o:Ob):depthR (trO o)=depthO o:=by
 induction o<;>simp_all [trO,depthR,depthRs,depthO]
theorem depth_trT (t:Tm):depthR (trT t)=depthT t:=by
 induction t<;>simp_all [trT,depthR,depthRs,depthT,depth_trO]<;>omega
theorem labels_trO (o:Ob):labelsR (trO o)=[]:=by
 induction o<;>simp_all [trO,labelsR,labelsRs]
theorem labels_trT (t:Tm):labelsR (trT t)=labelsT t:=by
 induction t<;>simp_all [trT,labelsR,labelsRs,labelsT,labels_trO]
theorem form_trO (o:Ob):formR (trO o) true=formO o:=by
 induction o<;>simp_all [trO,formR,formRs,formO,okK]
theorem form_trT (t:Tm):formR (trT t) false=formT t:=by
 induction t<;>simp_all [trT,formR,formRs,formT,okK,form_trO]
theorem check_trT (t:Tm):checkR (trT t) false=checkT t:=by unfold checkR checkT;rw [form_trT,size_trT,depth_trT,labels_trT]
theorem IsTr.kids {w:World} {S:Nat→Prop} {k:Int} {s:List UInt8} {n:Int} {ks:List Tr} {v:TV} (h:IsTr w S (.mk k s n ks) v) {i:Nat} {t:Tr} (ht:ks[i]? = some t) {K:TV→Prop} (hK:∀ x,IsTr w S t x→K x) :
  IdxK v.2.2.2.1.1 v.2.2.2.1.2.1 (i:Int) 4 fun a=>LdsK [.int .i64,.str,.int .i64,.slc] a w K:=IdxK.out_ink (h.ld ht hK)
theorem rsize_spec:∀ (t:Tr) (hn:cntR t≤1000000) {w:World} {S:Nat→Prop} {v:TV} (h:IsTr w S t v),Ret Tryz.prog 119 #[tvA v] w fun r w'=>r=.tuple #[.int .i64 (sizeR t:Int),.int .i64 (depthR t:Int)]∧Fr none1 w w'
 | .mk k s n ks,hn,w,S,v,h=>by
  have ih:∀ t∈ks,cntR t≤1000000→∀ {w:World} {S:Nat→Prop} {v:TV},IsTr w S t v→Ret Tryz.prog 119 #[tvA v] w fun r w'=>r=.tuple #[.int .i64 (sizeR t:Int),.int .i64 (depthR t:Int)]∧Fr none1 w w':=fun t ht hn w S v h=>rsize_spec t hn h
  refine c119 v w _ ?_
  unfold C119
  refine NewK.of fun g w1 hg hb f1 _=>LdK.fld hb (x:=v.1) rfl ?_
  have h1:=h.keep0 f1
  rw [h.kind]
  unfold sizeR depthR
  unfold cntR at hn
  refine ifB.eq (fun hk=>?_) (fun hk=>?_)
  ·subst hk;exact ⟨rfl,f1⟩
  rw [if_neg hk,if_neg hk]
  refine LdK.fld hb (x:=v.2.2.2.1) rfl ?_
  have hl:=h.len
  have hcl:=cntRs_len ks
  refine LoopK.of (fun s w'=>∃ i:Nat,s.2.2.1=i∧i≤ks.length∧s.1=((sizeRs (ks.take i)+1:Nat):Int)∧s.2.1=(depthRs (ks.take i):Int)∧Fr none1 w1 w') (fun s _=>(ks.length - s.2.2.1).toNat)
   ⟨0,rfl,Nat.zero_le _,rfl,rfl,Fr.refl _ _⟩ ?_
  rintro _ ⟨a,b,i',_⟩ w3 ⟨i,hi,hil,ha,hb3,f3⟩
  dsimp only at hi ha hb3 ⊢
  subst hi ha hb3
  rw [hl]
  have hszb:sizeRs (ks.take i)≤cntRs ks:=by
   have e:=cntRs_app (ks.take i) (ks.drop i);rw [List.take_append_drop] at e;have:=sizeRs_le (ks.take i);omega
  have hdb:depthRs (ks.take i)≤cntRs ks:=by
   have e:=cntRs_app (ks.take i) (ks.drop i);rw [List.take_append_drop] at e;have:=depthRs_le (ks.take i);omega
  refine ifB.dec (fun hlt=>?_) (fun hge=>?_)
  ·have hi2:i<ks.length:=by omega
   obtain ⟨t,ht⟩:∃ t,ks[i]? = some t:=⟨_,List.getElem?_eq_getElem hi2⟩
   have hcg:=cntRs_get ht
   refine LdK.fld (f3.keep0 hb) (x:=v.2.2.2.1) rfl ?_
   refine (h1.keep0 f3).kids ht fun x hx=>?_
   refine CallK.of (ih t (List.mem_of_getElem? ht) (by omega) hx) ?_
   rintro _ w4 ⟨rfl,f4⟩
   refine ⟨((sizeR t:Int),(depthR t:Int),()),rfl,?_⟩
   dsimp only
   have h5:=sizeR_le t
   have h6:=depthR_le t
   have h7:=sizeRs_le (ks.take i)
   refine ⟨⟨i+1,by rw [wI (by omega) (by omega)];omega,by omega,?_,?_,f3.trans f4⟩,by rw [wI (by omega) (by omega)];omega⟩
   ·rw [take_one ht,sizeRs_app,wI (by omega) (by omega)]
    simp only [sizeRs];omega
   ·rw [take_one ht,depthRs_app]
    simp only [depthRs]
    by_cases hm:depthRs (ks.take i)<depthR t
    ·rw [if_pos (by omega)];omega
    ·rw [if_neg (by omega)];omega
  ·have:i=ks.length:=by omega
   subst this
   rw [List.take_length] at hdb ⊢
   rw [wI (by omega) (by omega)]
   exact ⟨by simp,f1.trans f3⟩
termination_by t=>SizeOf.sizeOf t
decreasing_by exact kid_lt ht
theorem rlabels_spec:∀ (t:Tr) (hn:cntR t≤1000000) {w:World} {S:Nat→Prop} {v:TV} (h:IsTr w S t v) (hS:∀ k,S k→k<w.heap.size),Ret Tryz.prog 120 #[tvA v] w fun r w'=>∃ u:Sl,r=.slice u.1 u.2.1 u.2.2∧IsSs w' u (labelsR t)∧Fr none1 w w'∧∀ k,blkOf u k→w.heap.size≤k
 | .mk k s n ks,hn,w,S,v,h,hS=>by
  have ih:∀ t∈ks,cntR t≤1000000→∀ {w:World} {S:Nat→Prop} {v:TV},IsTr w S t v→(∀ k,S k→k<w.heap.size)→Ret Tryz.prog 120 #[tvA v] w fun r w'=>∃ u:Sl,r=.slice u.1 u.2.1 u.2.2∧IsSs w' u (labelsR t)∧Fr none1 w w'∧∀ k,blkOf u k→w.heap.size≤k:=
   fun t ht hn w S v h hS=>rlabels_spec t hn h hS
  refine c120 v w _ ?_
  unfold C120
  refine NewK.of fun g w1 hg hb f1 hsz1=>?_
  have h1:=h.keep0 f1
  unfold cntR at hn
  unfold labelsR
  refine JoinK.of (fun s' w'=>IsSs w' s'.1 (if k=5 then [s] else [])∧Fr none1 w1 w'∧∀ k,blkOf s'.1 k→w1.heap.size≤k) ?_ ?_
  ·refine LdK.fld hb (x:=v.1) rfl ?_
   rw [h.kind]
   refine ifB.eq (fun hk=>?_) (fun hk=>?_)
   ·refine LdK.fld hb (x:=v.2.1) rfl ?_
    rw [h.name,if_pos hk]
    obtain ⟨u,w3,hr,hu,hul,f3,uf⟩:=one_ok (P:=Tryz.prog) (w:=w1) elem_str (sv s) rfl
    refine ⟨u,w3,hr,?_⟩
    obtain ⟨x,w4,hr4,hx,f4,xf⟩:=ss_app (none_ss w3) (ys:=[s]) hu.rd (by simp)
    refine ⟨x,w4,hr4,hx,f3.comp f4 (fun k _ t=>(z39z k t).elim),fun k hk=>?_⟩
    rcases xf k hk with t | t
    ·exact (z39z k t).elim
    ·have:=f3.size;omega
   ·rw [if_neg hk]
    exact ⟨none_ss _,Fr.refl _ _,fun k t=>(z39z k t).elim⟩
  rintro _ ⟨s1,_⟩ w2 ⟨hs1,f2,sf⟩
  dsimp only at hs1 sf ⊢
  refine LdK.fld (f2.keep0 hb) (x:=v.2.2.2.1) rfl ?_
  have hl:=h.len
  have hcl:=cntRs_len ks
  have h2:=h1.keep0 f2
  have hll:=labelsRs_le ks
  refine LoopK.of (fun s' w'=>∃ i:Nat,s'.2.1=i∧i≤ks.length∧IsSs w' s'.1 ((if k=5 then [s] else [])++labelsRs (ks.take i))∧Fr none1 w1 w'∧∀ k,blkOf s'.1 k→w1.heap.size≤k) (fun s' _=>(ks.length - s'.2.1).toNat)
   ⟨0,rfl,Nat.zero_le _,by rw [List.take_zero];simpa [labelsRs] using hs1,f2,sf⟩ ?_
  rintro _ ⟨u,i',_⟩ w3 ⟨i,hi,hil,hu,f3,uf⟩
  dsimp only at hi hu uf ⊢
  subst hi
  rw [hl]
  refine ifB.dec (fun hlt=>?_) (fun hge=>?_)
  ·have hi2:i<ks.length:=by omega
   obtain ⟨t,ht⟩:∃ t,ks[i]? = some t:=⟨_,List.getElem?_eq_getElem hi2⟩
   have hcg:=cntRs_get ht
   refine LdK.fld (f3.keep0 hb) (x:=v.2.2.2.1) rfl ?_
   refine (h1.keep0 f3).kids ht fun x hx=>?_
   have hsz3:w.heap.size≤w3.heap.size:=(f1.trans f3).size
   refine CallK.of (ih t (List.mem_of_getElem? ht) (by omega) hx (fun k hk=>by have:=hS k hk;omega)) ?_
   rintro _ w4 ⟨y,rfl,hy,f4,yf⟩
   refine ⟨y,rfl,?_⟩
   have hlb:=labelsR_le t
   have hlt:=labelsRs_le (ks.take i)
   obtain ⟨z,w5,hr5,hz,f5,zf⟩:=ss_app (hu.keep0 f4) (IsSl.rd hy) (by rw [List.length_append];split<;>simp<;>omega)
   refine ⟨z,w5,hr5,⟨i+1,by rw [wI (by omega) (by omega)];omega,by omega,?_,?_,?_⟩,by rw [wI (by omega) (by omega)];omega⟩
   ·rw [take_one ht,labelsRs_app]
    simpa [labelsRs,List.append_assoc] using hz
   ·exact (f3.trans f4).comp f5 (fun k hk t=>by have:=uf k t;have:=hk;omega)
   ·intro k hk
    rcases zf k hk with t | t
    ·exact uf k t
    ·have:=(f3.trans f4).size;omega
  ·have:i=ks.length:=by omega
   subst this
   rw [List.take_length] at hu
   exact ⟨u,rfl,hu,f1.trans f3,fun k hk=>by have:=uf k hk;have:=f1.size;omega⟩
termination_by t=>SizeOf.sizeOf t
decreasing_by exact kid_lt ht
theorem rform_spec:∀ (t:Tr) (b:Bool) (hn:cntR t≤1000000) (hsh:shortR t) {w:World} {S:Nat→Prop} {v:TV} (h:IsTr w S t v),Ret Tryz.prog 118 #[tvA v,.bool b] w fun r w'=>r=.bool (formR t b)∧Fr none1 w w'
 | .mk k s n ks,b,hn,hsh,w,S,v,h=>by
  have ih:∀ t∈ks,cntR t≤1000000→shortR t→∀ (b:Bool) {w:World} {S:Nat→Prop} {v:TV},IsTr w S t v→Ret Tryz.prog 118 #[tvA v,.bool b] w fun r w'=>r=.bool (formR t b)∧Fr none1 w w':=
   fun t ht hn hsh b w S v h=>rform_spec t b hn hsh h
  refine c118 v b w _ ?_
  unfold C118
  refine NewK.of fun g w1 hg hb f1 hsz1=>?_
  have h1:=h.keep0 f1
  unfold cntR at hn
  unfold shortR at hsh
  unfold formR
  refine JoinK.of (fun _ w'=>okK k s n=true∧Fr none1 w1 w') ?_ ?_
  ·refine LdK.fld hb (x:=v.1) rfl ?_
   rw [h.kind]
   have any9:∀ {J:Bool×Unit→World→Prop} ,(J (decide (k=1∨k=3∨k=4∨k=14∨k=13∨k=15∨k=16∨k=6∨k=8),()) w1)→True:=fun _=>trivial
   refine JoinK.of (fun s' w'=>s'.1=decide (k=1∨k=3∨k=4∨k=14∨k=13∨k=15∨k=16∨k=6∨k=8)∧w1=w') ?_ ?_
   ·repeat' (refine ifB.eq (fun e=>⟨?_,rfl⟩) (fun _=>?_))
    all_goals first | (subst e;rfl) | skip
    simp only [*,false_or]
    by_cases e:k=8<;>simp [e]
   rintro _ ⟨c,_⟩ _ ⟨hc,rfl⟩
   dsimp only at hc ⊢
   refine ifB.by (fun e=>?_) (fun e=>?_)
   ·refine ⟨?_,Fr.refl _ _⟩
    unfold okK
    rw [if_pos (of_decide_eq_true (hc.symm.trans e))]
   have hk9:=of_decide_eq_false (hc.symm.trans e)
   have hok:okK k s n=if k=2∨k=5∨k=12 then nameL s else if k=7 then decide (0≤n)&&decide (n≤10000) else if k=11 then validF n else false:=by unfold okK;rw [if_neg hk9]
   refine JoinK.of (fun s' w'=>s'.1=decide (k=2∨k=5∨k=12)∧w1=w') ?_ ?_
   ·repeat' (refine ifB.eq (fun e=>⟨?_,rfl⟩) (fun _=>?_))
    all_goals first | (subst e;rfl) | skip
    simp only [*,false_or]
    by_cases e:k=12<;>simp [e]
   rintro _ ⟨d,_⟩ _ ⟨hd,rfl⟩
   dsimp only at hd ⊢
   refine ifB.by (fun e=>?_) (fun e=>?_)
   ·rw [if_pos (of_decide_eq_true (hd.symm.trans e))] at hok
    refine LdK.fld hb (x:=v.2.1) rfl ?_
    rw [h.name]
    refine CallK.of (rname_spec s (by omega) w1) ?_
    rintro _ w2 ⟨rfl,f2⟩
    refine ⟨_,rfl,ifB.not (ifB.by (fun e=>?_) (fun e=>?_))⟩
    ·exact ⟨by rw [hok];exact e,f2⟩
    ·refine ⟨?_,f1.trans f2⟩
     rw [hok,show nameL s=false from e];rfl
   ·rw [if_neg (of_decide_eq_false (hd.symm.trans e))] at hok
    refine ifB.eq (fun e7=>?_) (fun e7=>?_)
    ·rw [if_pos e7] at hok
     refine LdK.fld hb (x:=v.2.2.1) rfl ?_
     rw [h.num]
     refine ifB.dec (fun hlo=>?_) (fun hlo=>LdK.fld hb (x:=v.2.2.1) rfl ?_)
     ·refine ⟨?_,f1⟩
      rw [hok,decide_eq_false (show ¬ 0≤n by omega)];rfl
     rw [h.num]
     refine ifB.dec (fun hhi=>?_) (fun hhi=>?_)
     ·refine ⟨?_,f1⟩
      rw [hok,decide_eq_false (show ¬ n≤10000 by omega),Bool.and_false];rfl
     ·exact ⟨by rw [hok,decide_eq_true (show 0≤n by omega),decide_eq_true (show n≤10000 by omega)];rfl,Fr.refl _ _⟩
    ·rw [if_neg e7] at hok
     refine ifB.eq (fun e11=>?_) (fun e11=>?_)
     ·rw [if_pos e11] at hok
      refine LdK.fld hb (x:=v.2.2.1) rfl ?_
      rw [h.num]
      refine CallK.of (rvalid_spec n w1) ?_
      rintro _ _ ⟨rfl,rfl⟩
      refine ⟨_,rfl,ifB.not (ifB.by (fun e=>?_) (fun e=>?_))⟩
      ·exact ⟨by rw [hok];exact e,Fr.refl _ _⟩
      ·refine ⟨?_,f1⟩
       rw [hok,show validF n=false from e];rfl
     ·rw [if_neg e11] at hok
      exact ⟨by rw [hok];rfl,f1⟩
  rintro _ _ w2 ⟨hok,f2⟩
  rw [hok]
  have hb2:=f2.keep0 hb
  have h2:=h1.keep0 f2
  refine LdK.fld hb2 (x:=v.1) rfl ?_
  rw [h.kind]
  refine ifB.not (ifB.by (fun e=>?_) (fun e=>?_))
  ·have e':(decide (11≤k)==b)=true:=e
   rw [e']
   refine LdK.fld hb2 (x:=v.2.2.2.1) rfl ?_
   have hl:=h.len
   have hcl:=cntRs_len ks
   refine LoopK.of (fun s' w'=>∃ i:Nat,s'.1=i∧i≤ks.length∧formRs ks b (k==6||k==8)=formRs (ks.drop i) b ((k==6||k==8)&&decide (i=0))∧Fr none1 w1 w') (fun s' _=>(ks.length - s'.1).toNat)
    ⟨0,rfl,Nat.zero_le _,by simp,f2⟩ ?_
   rintro _ ⟨i',_⟩ w3 ⟨i,hi,hil,hF,f3⟩
   dsimp only at hi ⊢
   subst hi
   rw [hl]
   refine ifB.dec (fun hlt=>?_) (fun hge=>?_)
   ·have hi2:i<ks.length:=by omega
    obtain ⟨t,ht⟩:∃ t,ks[i]? = some t:=⟨_,List.getElem?_eq_getElem hi2⟩
    have hcg:=cntRs_get ht
    have hsht:=shortRs_get hsh.2 ht
    rw [drop_one ht] at hF
    rw [show formRs (t::ks.drop (i+1)) b ((k==6||k==8)&&decide (i=0))=(formR t (b||(k==6||k==8)&&decide (i=0))&&formRs (ks.drop (i+1)) b false) from rfl] at hF
    refine DrewK.of fun w4 _ f4=>LdK.fld ((f3.trans f4).keep0 hb) (x:=v.2.2.2.1) rfl ?_
    refine (h1.keep0 (f3.trans f4)).kids ht fun x hx=>?_
    have last:∀ (c:Bool),(b||(k==6||k==8)&&decide (i=0))=c→CallK Tryz.prog 118 #[tvA x,.bool c] w4 (.v (.one .bool)) (fun (x30:Bool) w31=>ifB (!x30)
      ((Value.bool false)=.bool (true&&true&&formRs ks b (k==6||k==8))∧Fr none1 w w31)
      ((∃ j:Nat,IntKind.i64.wrap ((i:Int)+1)=j∧j≤ks.length∧formRs ks b (k==6||k==8)=formRs (ks.drop j) b ((k==6||k==8)&&decide (j=0))∧Fr none1 w1 w31)∧(ks.length - IntKind.i64.wrap ((i:Int)+1)).toNat<(ks.length - (i:Int)).toNat)):=fun c hc=>by
     refine CallK.of (ih t (List.mem_of_getElem? ht) (by omega) hsht c hx) ?_
     rintro _ w5 ⟨rfl,f5⟩
     rw [hc] at hF
     refine ⟨_,rfl,ifB.not (ifB.by (fun e=>?_) (fun e=>?_))⟩
     ·rw [e,Bool.true_and] at hF
      refine ⟨⟨i+1,by rw [wI (by omega) (by omega)];omega,by omega,?_,(f3.trans f4).trans f5⟩,by rw [wI (by omega) (by omega)];omega⟩
      rw [hF,decide_eq_false (show ¬ i+1=0 by omega),Bool.and_false]
     ·rw [e,Bool.false_and] at hF
      exact ⟨by rw [hF];rfl,f1.trans ((f3.trans f4).trans f5)⟩
    refine ifB.by (fun eb=>last true (by rw [eb];rfl)) (fun eb=>?_)
    refine ifB.eq (fun ei=>?_) (fun ei=>?_)
    ·have ei:i=0:=by omega
     refine LdK.fld ((f3.trans f4).keep0 hb) (x:=v.1) rfl ?_
     rw [h.kind]
     refine ifB.eq (fun e6=>last true (by rw [eb,e6,ei];rfl)) (fun e6=>?_)
     refine LdK.fld ((f3.trans f4).keep0 hb) (x:=v.1) rfl ?_
     rw [h.kind]
     exact last (k==8) (by rw [eb,ei,show (k==6)=false from beq_false_of_ne e6];simp)
    ·exact last false (by rw [eb,decide_eq_false (show ¬ i=0 by omega)];simp)
   ·have:i=ks.length:=by omega
    subst this
    rw [List.drop_length] at hF
    exact ⟨by rw [hF];rfl,f1.trans f3⟩
  ·have e':(decide (11≤k)==b)=false:=e
   rw [e']
   exact ⟨rfl,f1.trans f2⟩
termination_by t=>SizeOf.sizeOf t
decreasing_by exact kid_lt ht
def unlike (l:List (List UInt8)) (i j:Nat):Prop:=∀ b a:Nat,a<b→(b<i∨b=i∧a<j)→l[a]? ≠ l[b]?
theorem unlike_all {l:List (List UInt8)} (h:unlike l l.length 0):l.Nodup:=by
 unfold List.Nodup
 rw [List.pairwise_iff_getElem]
 intro i j hi hj hij e
 exact h j i hij (.inl hj) (by rw [List.getElem?_eq_getElem hi,List.getElem?_eq_getElem hj,e])
theorem nodup_ne {l:List (List UInt8)} (h:l.Nodup) {i j:Nat} (hij:i<j) (hj:j<l.length):l[i]? ≠ l[j]? := by
 unfold List.Nodup at h
 rw [List.pairwise_iff_getElem] at h
 rw [List.getElem?_eq_getElem (show i<l.length by omega),List.getElem?_eq_getElem hj]
 intro e
 exact h i j (by omega) hj hij (Option.some.inj e)
theorem rcheck_spec (t:Tr) (b:Bool) (hn:cntR t≤1000000) (hsh:shortR t) {w:World} {S:Nat→Prop} {v:TV} (h:IsTr w S t v) (hS:∀ k,S k→k<w.heap.size) :
  Ret Tryz.prog 89 #[tvA v,.bool b] w fun r w'=>r=.int .i64 (checkR t b)∧Fr none1 w w':=by
 refine c89 v b w _ ?_
 unfold C89
 refine NewK.of fun g w1 hg hb f1 hsz1=>LdsK.blk (x:=v) hb ?_
 unfold checkR
 refine CallK.of (rform_spec t b hn hsh (h.keep0 f1)) ?_
 rintro _ w2 ⟨rfl,f2⟩
 have f12:=f1.trans f2
 refine ⟨_,rfl,ifB.not (ifB.by (fun e=>?_) (fun e=>by rw [if_pos e];exact ⟨rfl,f12⟩))⟩
 rw [if_neg (by rw [e];decide)]
 refine LdsK.blk (x:=v) (f2.keep0 hb) ?_
 refine CallK.of (rsize_spec t hn (h.keep0 f12)) ?_
 rintro _ w3 ⟨rfl,f3⟩
 have f13:=f12.trans f3
 refine ⟨((sizeR t:Int),(depthR t:Int),()),rfl,?_⟩
 dsimp only
 refine ifB.dec (fun h60=>?_) (fun h60=>?_)
 ·rw [if_pos (by omega)];exact ⟨rfl,f13⟩
 rw [if_neg (by omega)]
 refine ifB.dec (fun h12=>?_) (fun h12=>?_)
 ·rw [if_pos (by omega)];exact ⟨rfl,f13⟩
 rw [if_neg (by omega)]
 refine LdsK.blk (x:=v) ((f2.trans f3).keep0 hb) ?_
 refine CallK.of (rlabels_spec t hn (h.keep0 f13) (fun k hk=>by have:=hS k hk;have:=f13.size;omega)) ?_
 rintro _ w4 ⟨u,rfl,hu,f4,_⟩
 have f14:=f13.trans f4
 refine ⟨u,rfl,?_⟩
 have hul:=hu.len
 have hle:=labelsR_le t
 have rd:∀ {i:Nat} {w5:World} {K:ByteArray→Prop},i<(labelsR t).length→Fr none1 w4 w5→K (str ((labelsR t).getD i []))→IdxK u.1 (labelsR t).length (i:Int) 1 fun p=>LdK .str p w5 K:=fun {i w5 K} hi f5 k=>by
  rw [← hul]
  refine (hu.keep0 f5).ld (i:=i) (s:=(labelsR t).getD i []) ?_ k
  rw [List.getD_eq_getElem?_getD,List.getElem?_eq_getElem hi];rfl
 refine LoopK.of (fun s w'=>∃ i:Nat,s.1=i∧i≤(labelsR t).length∧unlike (labelsR t) i 0∧Fr none1 w4 w') (fun s _=>((labelsR t).length - s.1).toNat)
  ⟨0,rfl,Nat.zero_le _,fun b a hab hb=>by omega,Fr.refl _ _⟩ ?_
 rintro _ ⟨i',_⟩ w5 ⟨i,hi,hil,hun,f5⟩
 dsimp only at hi ⊢
 subst hi
 rw [hul]
 refine ifB.dec (fun hlt=>?_) (fun hge=>?_)
 ·have hi2:i<(labelsR t).length:=by omega
  refine LoopK.of (fun s w'=>∃ j:Nat,s.1=j∧j≤i∧unlike (labelsR t) i j∧Fr none1 w4 w') (fun s _=>(i - s.1).toNat)
   ⟨0,rfl,Nat.zero_le _,hun,f5⟩ ?_
  rintro _ ⟨j',_⟩ w6 ⟨j,hj,hjl,hun6,f6⟩
  dsimp only at hj ⊢
  subst hj
  refine ifB.dec (fun hlt2=>?_) (fun hge2=>?_)
  ·have hj2:j<i:=by omega
   refine DrewK.of fun w7 _ f7=>?_
   refine rd hi2 (f6.trans f7) ?_
   refine rd (i:=j) (by omega) (f6.trans f7) ?_
   refine ifB.by (fun e=>?_) (fun e=>?_)
   ·rw [str_beq] at e
    have e2:=of_decide_eq_true e
    refine ⟨?_,(f14.trans f6).trans f7⟩
    rw [if_neg]
    intro hnd
    refine nodup_ne hnd hj2 hi2 ?_
    rw [List.getD_eq_getElem?_getD,List.getD_eq_getElem?_getD,List.getElem?_eq_getElem hi2,List.getElem?_eq_getElem (show j<_ by omega)] at e2
    rw [List.getElem?_eq_getElem hi2,List.getElem?_eq_getElem (show j<_ by omega)]
    simp only [Option.getD_some] at e2
    rw [e2]
   ·refine ⟨⟨j+1,by rw [wI (by omega) (by omega)];omega,by omega,?_,f6.trans f7⟩,by rw [wI (by omega) (by omega)];omega⟩
    intro b a hab hb
    by_cases hc:b=i∧a=j
    ·obtain ⟨rfl,rfl⟩:=hc
     intro e2
     rw [str_beq,List.getD_eq_getElem?_getD,List.getD_eq_getElem?_getD,e2] at e
     simp at e
    ·exact hun6 b a hab (by omega)
  ·have:j=i:=by omega
   subst this
   refine ⟨⟨j+1,by rw [wI (by omega) (by omega)];omega,by omega,fun b a hab hb=>hun6 b a hab (by omega),f6⟩,by rw [wI (by omega) (by omega)];omega⟩
 ·have:i=(labelsR t).length:=by omega
  subst this
  rw [if_pos (unlike_all hun)]
  exact ⟨rfl,f14.trans f5⟩
def C14 (p0:Int) (p1:Int) (w:World) (K:Value→World→Prop):Prop:=
 ifB (decide (p1<1))
 (K (.int .i64 0) w)
 (NzK p1 (ifB (decide ((Int.tmod p0 p1)<0))
 (K (.int .i64 (IntKind.i64.wrap ((Int.tmod p0 p1)+p1))) w)
 (K (.int .i64 (Int.tmod p0 p1)) w)))
def pl14:Plan:=.auto
theorem c14 (p0:Int) (p1:Int) (w:World) (K:Value→World→Prop) (h:C14 p0 p1 w K):Ret Tryz.prog 14 #[.int .i64 p0,.int .i64 p1] w K:=z0z (by kernel_rfl) Tryz.func14 (p:=pl14) (Eq.mpr (by kernel_rfl) h)
def within (v n:Int):Int:=if n<1 then 0 else v % n
theorem within_lo (v n:Int):0≤within v n:=by unfold within;split;omega;exact Int.emod_nonneg _ (by omega)
theorem within_hi (v:Int) {n:Int} (h:1≤n):within v n<n:=by unfold within;rw [if_neg (by omega)];exact Int.emod_lt_of_pos _ (by omega)
theorem z30z (v n:Int) (w:World) (hn:n≤9223372036854775807) :
  Ret Tryz.prog 14 #[.int .i64 v,.int .i64 n] w fun r w'=>r=.int .i64 (within v n)∧w=w':=by
 refine c14 v n w _ ?_
 unfold C14 within
 refine ifB.dec (fun h=>?_) (fun h=>⟨by omega,?_⟩)
 ·rw [if_pos h];exact ⟨rfl,rfl⟩
 ·rw [if_neg h]
  have e:v.tmod n=if 0≤v∨n ∣ v then v % n else v % n - n:=by
   rw [Int.tmod_eq_emod]
   split<;>omega
  have b0:=Int.emod_nonneg v (show n≠0 by omega)
  have b1:=Int.emod_lt_of_pos v (show 0<n by omega)
  refine ifB.dec (fun h2=>⟨?_,rfl⟩) (fun h2=>⟨?_,rfl⟩)
  ·split at e
   ·omega
   ·rw [wI (by omega) (by omega)];congr 1;omega
  ·split at e
   ·rw [e]
   ·omega
def C83 (p0:Int) (w:World) (K:Value→World→Prop):Prop:=
 ifB (decide (p0<0))
 (NzK 10 (CallK Tryz.prog 83 #[.int .i64 (IntKind.i64.wrap (0 - (Int.tmod p0 10)))] w (.v (.one .str)) (fun (x1:ByteArray) w2=>ifB (decide (p0 > (-10)))
 (CatK (⟨#[45]⟩:ByteArray) x1 (K (.string ((⟨#[45]⟩:ByteArray)++x1)) w2))
 (NzK 10 (CallK Tryz.prog 83 #[.int .i64 (IntKind.i64.wrap (Int.tdiv p0 10))] w2 (.v (.one .str)) (fun (x3:ByteArray) w4=>CatK x3 x1 (K (.string (x3++x1)) w4)))))))
 (ifB (decide (p0<10))
 (RunK Tryz.prog (Instr.buildSlice 22 1 #[(0,.int .u8 (IntKind.u8.wrap (IntKind.i64.wrap (48+p0))))]) w (.v (.one .slc)) (fun (x5:SlT) w6=>RunK Tryz.prog (convert 22 9 (.slice x5.1 x5.2.1 x5.2.2)) w6 (.v (.one .str)) (fun (x7:ByteArray) w8=>K (.string x7) w8)))
 (DrewK w (fun w9=>HoldK (fun S10=>NzK 10 (NzK 10 (AndK (CallK Tryz.prog 83 #[.int .i64 (IntKind.i64.wrap (Int.tdiv p0 10))] w9 (.v (.one .str)) (fun (x11:ByteArray) w12=>KeepK S10 w9 w12 (KeepK S10 w12 w12 (RunK Tryz.prog (Instr.buildSlice 22 1 #[(0,.int .u8 (IntKind.u8.wrap (IntKind.i64.wrap (48+(Int.tmod p0 10)))))]) w12 (.v (.one .slc)) (fun (x13:SlT) w14=>KeepK S10 w12 w14 (RunK Tryz.prog (convert 22 9 (.slice x13.1 x13.2.1 x13.2.2)) w14 (.v (.one .str)) (fun (x15:ByteArray) w16=>KeepK S10 w14 w16 (CatK x11 x15 (K (.string (x11++x15)) w16)))))))))
 (KeepK S10 w9 w9 (AndK (CallK Tryz.prog 83 #[.int .i64 (IntKind.i64.wrap (Int.tdiv p0 10))] w9 (.v (.one .str)) (fun (x17:ByteArray) w18=>KeepK S10 w9 w18 (RunK Tryz.prog (Instr.buildSlice 22 1 #[(0,.int .u8 (IntKind.u8.wrap (IntKind.i64.wrap (48+(Int.tmod p0 10)))))]) w18 (.v (.one .slc)) (fun (x19:SlT) w20=>KeepK S10 w18 w20 (RunK Tryz.prog (convert 22 9 (.slice x19.1 x19.2.1 x19.2.2)) w20 (.v (.one .str)) (fun (x21:ByteArray) w22=>KeepK S10 w20 w22 (CatK x17 x21 (K (.string (x17++x21)) w22))))))))
 (RunK Tryz.prog (Instr.buildSlice 22 1 #[(0,.int .u8 (IntKind.u8.wrap (IntKind.i64.wrap (48+(Int.tmod p0 10)))))]) w9 (.v (.one .slc)) (fun (x23:SlT) w24=>KeepK S10 w9 w24 (AndK (CallK Tryz.prog 83 #[.int .i64 (IntKind.i64.wrap (Int.tdiv p0 10))] w24 (.v (.one .str)) (fun (x25:ByteArray) w26=>KeepK S10 w24 w26 (RunK Tryz.prog (convert 22 9 (.slice x23.1 x23.2.1 x23.2.2)) w26 (.v (.one .str)) (fun (x27:ByteArray) w28=>KeepK S10 w26 w28 (CatK x25 x27 (K (.string (x25++x27)) w28))))))
 (RunK Tryz.prog (convert 22 9 (.slice x23.1 x23.2.1 x23.2.2)) w24 (.v (.one .str)) (fun (x29:ByteArray) w30=>KeepK S10 w24 w30 (CallK Tryz.prog 83 #[.int .i64 (IntKind.i64.wrap (Int.tdiv p0 10))] w30 (.v (.one .str)) (fun (x31:ByteArray) w32=>KeepK S10 w30 w32 (CatK x31 x29 (K (.string (x31++x29)) w32)))))))))))))))))
def pl83:Plan:=(.seq .auto (.seq .auto (.seq .auto (.seq (.held (.soft 0 (.soft 1 (.soft 3 (.soft 4 (.soft 5 (.pick 2 (.pick 6 (.pick 7 (.pick 8 (.soft 9 (.soft 10 .done)) .stop) .stop) .stop) (.pick 6 (.pick 2 (.pick 7 (.pick 8 (.soft 9 (.soft 10 .done)) .stop) .stop) (.pick 7 (.pick 2 (.pick 8 (.soft 9 (.soft 10 .done)) .stop) (.pick 8 (.pick 2 (.soft 9 (.soft 10 .done)) .stop) .stop)) .stop)) .stop)))))))) .auto))))
theorem c83 (p0:Int) (w:World) (K:Value→World→Prop) (h:C83 p0 w K):Ret Tryz.prog 83 #[.int .i64 p0] w K:=z0z (by kernel_rfl) Tryz.func83 (p:=pl83) (Eq.mpr (by kernel_rfl) h)
def dig1 (n:Nat):List UInt8:=[UInt8.ofNat (48+n)]
theorem elem_u8:ElemOk Tryz.prog 22 5 1 (.int .u8 0) 1:=⟨Tryz.underlying22,⟨Tryz.t5,by kernel_rfl,rfl,rfl,rfl⟩,rfl,by decide⟩
theorem dig1_slice (x:Int) (n:Nat) (hx:x=(n:Int)) (hn:n<10) (w:World):∃ (v:Sl) (w':World),(Instr.buildSlice 22 1 #[(0,.int .u8 (IntKind.u8.wrap (IntKind.i64.wrap (48+x))))]).run Tryz.prog w=.ok (.slice v.1 v.2.1 v.2.2) w' ∧
  IsSl w' 5 1 v [.int .u8 ((UInt8.ofNat (48+n)).toNat:Int)]∧v.2.1=1∧Fr none1 w w':=by
 have e:IntKind.u8.wrap (IntKind.i64.wrap (48+x))=((UInt8.ofNat (48+n)).toNat:Int):=by
  rw [wI (by omega) (by omega),IntKind.wrap_u8,u8_of (by omega)];omega
 rw [e]
 obtain ⟨v,w1,r1,hv,hl,f1,_⟩:=one_ok (P:=Tryz.prog) (w:=w) elem_u8 (.int .u8 ((UInt8.ofNat (48+n)).toNat:Int)) rfl
 exact ⟨v,w1,r1,hv,hl,f1⟩
theorem dig1_text {v:Sl} {w:World} {n:Nat} (hv:IsSl w 5 1 v [.int .u8 ((UInt8.ofNat (48+n)).toNat:Int)]) (hl:v.2.1=1) :
  (convert 22 9 (.slice v.1 v.2.1 v.2.2)).run Tryz.prog w=.ok (.string (str (dig1 n))) w:=by
 have hr:=IsSl.rd hv
 cases hx:v.1 with
 | none=>have:=(hr.2.1 hx).1;omega
 | some a=>
  have hc:=hr.2.2 a hx
  rw [hl]
  exact run_convert_bytes_back w 22 9 5 a v.2.2 [UInt8.ofNat (48+n)] Tryz.underlying22 Tryz.underlying5 Tryz.underlying9 (fun j hj=>by
   have:j=0:=by simpa using hj
   subst this
   exact hc.1)
theorem dec_lo {n:Nat} (h:n<10):Lib.decDigits n=dig1 n:=by rw [Lib.decDigits,dif_pos h];rfl
theorem dec_hi {n:Nat} (h:¬ n<10):Lib.decDigits n=Lib.decDigits (n / 10)++dig1 (n % 10):=by rw [Lib.decDigits,dif_neg h];rfl
theorem dec_len:∀ (k u:Nat),u<10 ^ (k+1)→(Lib.decDigits u).length≤k+1
 | 0,u,h=>by rw [dec_lo (by omega)];simp [dig1]
 | k+1,u,h=>by
  by_cases hu:u<10
  ·rw [dec_lo hu];simp [dig1]
  ·rw [dec_hi hu,List.length_append]
   have:=dec_len k (u / 10) (by rw [Nat.pow_succ] at h;omega)
   simp only [dig1,List.length_singleton];omega
theorem cat_small {a b:ByteArray} {K:Prop} (h:a.size+b.size≤1000000) (k:K):CatK a b K:=⟨by show ((a.size+b.size:Nat):Int)≤9223372036854775807;omega,k⟩
theorem digits_nat:∀ n:Nat,n≤9223372036854775807→∀ w,Ret Tryz.prog 83 #[.int .i64 (n:Int)] w fun r w'=>r=.string (str (Lib.decDigits n))∧Fr none1 w w':=by
 intro n
 induction n using Nat.strongRecOn with
 | _ n ih=>
  intro hn w
  refine c83 _ w _ ?_
  unfold C83
  refine ifB.no (by omega) ?_
  by_cases h:n<10
  ·refine ifB.yes (by omega) ?_
   rw [dec_lo h]
   obtain ⟨v,w1,r1,hv,hl,f1⟩:=dig1_slice (n:Int) n rfl h w
   exact ⟨v,w1,r1,_,w1,dig1_text hv hl,rfl,f1⟩
  ·refine ifB.no (by omega) ?_
   have hq:IntKind.i64.wrap ((n:Int).tdiv 10)=((n / 10:Nat):Int):=by
    rw [Int.tdiv_eq_ediv_of_nonneg (by omega),wI (by omega) (by omega)];omega
   have hm:(n:Int).tmod 10=((n % 10:Nat):Int):=by rw [Int.tmod_eq_emod_of_nonneg (by omega)];omega
   rw [hq,hm,dec_hi h,← str_app]
   have ih':=ih (n / 10) (by omega) (by omega)
   have hc:∀ {K:Prop},K→CatK (str (Lib.decDigits (n / 10))) (str (dig1 (n % 10))) K:=fun k=>by
    refine cat_small ?_ k
    have:=dec_len 18 (n / 10) (by omega)
    rw [z1z,z1z];simp only [dig1,List.length_singleton];omega
   refine DrewK.of fun w0 _ f0=>HoldK.all ⟨by omega,⟨by omega,⟨?_,KeepK.of (Fr.refl _ _) ⟨?_,?_⟩⟩⟩⟩
   ·refine CallK.of (ih' w0) ?_
    rintro _ w1 ⟨rfl,f1⟩
    refine ⟨_,rfl,KeepK.of f1 (KeepK.of (Fr.refl _ _) ?_)⟩
    obtain ⟨v,w2,r2,hv,hl,f2⟩:=dig1_slice ((n % 10:Nat):Int) (n % 10) rfl (by omega) w1
    exact ⟨v,w2,r2,KeepK.of f2 ⟨_,w2,dig1_text hv hl,KeepK.of (Fr.refl _ _) (hc ⟨rfl,(f0.trans f1).trans f2⟩)⟩⟩
   ·refine CallK.of (ih' w0) ?_
    rintro _ w1 ⟨rfl,f1⟩
    refine ⟨_,rfl,KeepK.of f1 ?_⟩
    obtain ⟨v,w2,r2,hv,hl,f2⟩:=dig1_slice ((n % 10:Nat):Int) (n % 10) rfl (by omega) w1
    exact ⟨v,w2,r2,KeepK.of f2 ⟨_,w2,dig1_text hv hl,KeepK.of (Fr.refl _ _) (hc ⟨rfl,(f0.trans f1).trans f2⟩)⟩⟩
   ·obtain ⟨v,w1,r1,hv,hl,f1⟩:=dig1_slice ((n % 10:Nat):Int) (n % 10) rfl (by omega) w0
    refine ⟨v,w1,r1,KeepK.of f1 ⟨?_,?_⟩⟩
    ·refine CallK.of (ih' w1) ?_
     rintro _ w2 ⟨rfl,f2⟩
     exact ⟨_,rfl,KeepK.of f2 ⟨_,w2,dig1_text (hv.keep0 f2) hl,KeepK.of (Fr.refl _ _) (hc ⟨rfl,(f0.trans f1).trans f2⟩)⟩⟩
    ·refine ⟨_,w1,dig1_text hv hl,KeepK.of (Fr.refl _ _) ?_⟩
     refine CallK.of (ih' w1) ?_
     rintro _ w2 ⟨rfl,f2⟩
     exact ⟨_,rfl,KeepK.of f2 (hc ⟨rfl,(f0.trans f1).trans f2⟩)⟩
theorem digits_neg:∀ n:Nat,1≤n→n≤9223372036854775808→∀ w,Ret Tryz.prog 83 #[.int .i64 (-(n:Int))] w fun r w'=>r=.string (str (45::Lib.decDigits n))∧Fr none1 w w':=by
 intro n
 induction n using Nat.strongRecOn with
 | _ n ih=>
  intro h1 hn w
  refine c83 _ w _ ?_
  unfold C83
  refine ifB.yes (by omega) ⟨by omega,?_⟩
  have hm:IntKind.i64.wrap (0 - (-(n:Int)).tmod 10)=((n % 10:Nat):Int):=by
   rw [Int.neg_tmod,Int.tmod_eq_emod_of_nonneg (by omega),wI (by omega) (by omega)];omega
  rw [hm]
  refine CallK.of (digits_nat (n % 10) (by omega) w) ?_
  rintro _ w1 ⟨rfl,f1⟩
  refine ⟨_,rfl,?_⟩
  by_cases h:n<10
  ·refine ifB.yes (by omega) ?_
   have:n % 10=n:=by omega
   rw [this,dec_lo h]
   exact cat_small (by rw [z1z];simp only [dig1,List.length_singleton];decide) ⟨by show Value.string (str [45]++str (dig1 n))=_;rw [str_app];rfl,f1⟩
  ·refine ifB.no (by omega) ⟨by omega,?_⟩
   have hq:IntKind.i64.wrap ((-(n:Int)).tdiv 10)=-((n / 10:Nat):Int):=by
    rw [Int.neg_tdiv,Int.tdiv_eq_ediv_of_nonneg (by omega),wI (by omega) (by omega)];omega
   rw [hq]
   refine CallK.of (ih (n / 10) (by omega) (by omega) (by omega) w1) ?_
   rintro _ w2 ⟨rfl,f2⟩
   refine ⟨_,rfl,?_⟩
   rw [dec_lo (show n % 10<10 by omega),dec_hi h]
   refine cat_small ?_ ⟨by rw [str_app];rfl,f1.trans f2⟩
   have:=dec_len 18 (n / 10) (by omega)
   rw [z1z,z1z];simp only [dig1,List.length_nil,List.length_cons];omega
theorem digits_spec (n:Int) (h0:-9223372036854775808≤n) (h1:n≤9223372036854775807) (w:World):Ret Tryz.prog 83 #[.int .i64 n] w fun r w'=>r=.string (str (Lib.itoa n))∧Fr none1 w w':=by
 unfold Lib.itoa
 by_cases h:n<0
 ·rw [if_pos h]
  have:=digits_neg n.natAbs (by omega) (by omega) w
  rwa [show -(n.natAbs:Int)=n by omega] at this
 ·rw [if_neg h]
  have:=digits_nat n.toNat (by omega) w
  rwa [show (n.toNat:Int)=n by omega] at this
end Go.Proofs.YtdphmcanlhcokaaGreatDoor
