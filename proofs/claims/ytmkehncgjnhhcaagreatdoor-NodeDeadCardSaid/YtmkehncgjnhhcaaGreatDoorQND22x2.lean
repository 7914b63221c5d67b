/-
  Texts of this claim, put together: StrSpec, NumF, ReadF, LexF, TakeF, LedF, SipF, PackSpec2, VcNest, VcAggs, TreeSpec, RefTree, CWithin, WithinSpec, MakeSpec, MakeSpec2, VcPlan, RefEv, SomeSpec, CReadG, ReadSpec, ReadSpec2, BytesMore, LendB, CPackT.
  Conditions: those of each theorem.
-/
import Derived.Test.YtmkehncgjnhhcaaGreatDoorQND22x0
import Derived.Test.YtmkehncgjnhhcaaGreatDoorQND22x1
import Derived.ChangeSame
import Derived.ChangeSlices
import Derived.KernelRfl
import Derived.Laws.IdiomStrings
import Derived.Lib.ItoaNum
import Derived.Lib.RuneCount
import Derived.SliceStrings
import Derived.Test.YtmkehncgjnhhcaaGreatDoorProg
set_option linter.unusedVariables false
set_option maxRecDepth 100000
namespace Go.Proofs.YtmkehncgjnhhcaaGreatDoor
open Vc
theorem T9 (a:List UInt8)(i j:Nat):(str a).extract i j=str ((a.drop i).take (j - i)):=by
 apply ByteArray.ext;rw[ByteArray.data_extract];unfold str;simp
theorem zM {a:List UInt8}{lo hi:Int}(h0:0<=lo)(h1:lo<=hi)(h2:hi<=a.length){K:ByteArray->Prop}(k:K (str ((a.drop lo.toNat).take (hi.toNat - lo.toNat)))):uq (str a) lo hi K:=
 ⟨h0,h1,by rw[dU];exact h2,by rw[T9];exact k⟩
theorem vi {a:List UInt8}{i:Int}(h0:0<=i)(h1:i<a.length){K:Int->Prop}(k:K ((a.getD i.toNat 0).toNat:Int)):oM (str a) i K:=by
 refine⟨a.getD i.toNat 0,h0,?_,k⟩;have aU:i.toNat<(str a).size:=by rw[dU];omega
 rw[getElem?_pos (str a) i.toNat aU,List.getD_eq_getElem?_getD,List.getElem?_eq_getElem (by omega)];rfl
theorem Ua (a b:List UInt8)(w:World):Ret Tryz.prog 343 #[.string (str a),.string (str b)] w fun r w'=>r=.bool (decide (a.take b.length=b))/\w=w':=by
 refine c343 _ _ w _ ?_;unfold C343;rw[dU,dU];refine aa.dec (fun h=>?_) (fun h=>?_)
 ·refine zM (by omega) (by omega) (by omega) ?_
  rw[jc];exact⟨by simp,rfl⟩
 ·refine⟨?_,rfl⟩
  rw[decide_eq_false];intro t;have:=congrArg List.length t;rw[List.length_take] at this;omega
def dB (s:List UInt8):List UInt8:=if s.take 1=[45] then s.drop 1 else s
theorem Ub (s:List UInt8)(w:World):Ret Tryz.prog 319 #[.string (str s),.string (str [45])] w fun r w'=>r=.string (str (dB s))/\w=w':=by
 refine c319 _ _ w _ ?_;refine ab.of (R:=fun r w'=>r=.string (str (dB s))/\w=w') ?_ (by rintro _ _ ⟨rfl,rfl⟩;exact⟨_,rfl,rfl,rfl⟩);refine c329 _ _ w _ ?_;refine ab.of (Ua s [45] w) ?_;rintro _ _ ⟨rfl,rfl⟩;refine⟨_,rfl,?_⟩;unfold dB;refine aa.dec (fun h=>?_) (fun h=>?_)
 ·have h:s.take 1=[45]:=h
  have hl:1<=s.length:=by
   have:=congrArg List.length h;rw[List.length_take] at this;simp only[List.length_cons,List.length_nil] at this;omega
  rw[if_pos h,dU,dU];refine zM (by simp) (by simp only[List.length_cons,List.length_nil];omega) (by omega) ?_;refine⟨?_,rfl⟩;rw[List.take_of_length_le (by simp)];rfl
 ·have h:¬ s.take 1=[45]:=h
  rw[if_neg h];exact⟨rfl,rfl⟩
def pc (cs:List UInt8):List Value:=(List.range 256).map fun c=>.bool (decide (c∈cs.map (·.toNat)))
theorem si (cs:List UInt8):(pc cs).length=256:=by unfold pc;simp
theorem Gf (cs:List UInt8){c:Nat}(h:c<256):(pc cs)[c]? = some (.bool (decide (c∈cs.map (·.toNat)))):=by
 unfold pc;rw[List.getElem?_map,List.getElem?_range h];rfl
theorem LX (cs:List UInt8):(pc cs).all bK=true:=by
 rw[List.all_eq_true];intro v hv;obtain⟨c,_,rfl⟩:=List.mem_map.1 hv;rfl
theorem Uc (cs:List UInt8)(c:UInt8):(pc cs).set c.toNat (.bool true)=pc (cs++[c]):=by
 refine List.ext_getElem? fun i=>?_
 by_cases hi:i<256
 ·rw[Gf _ hi,List.getElem?_set]
  by_cases hc:c.toNat=i
  ·rw[if_pos hc,if_pos (by rw[si,hc];exact hi)]
   simp[hc]
  ·rw[if_neg hc,Gf _ hi]
   congr 2
   refine decide_eq_decide.2 ?_;rw[List.map_append,List.mem_append];simp only[List.map_cons,List.map_nil,List.mem_singleton];exact⟨.inl,fun t=>t.elim id (fun t=>absurd t.symm hc)⟩
 ·rw[List.getElem?_eq_none (by rw[List.length_set,si];omega),List.getElem?_eq_none (by rw[si];omega)]
def qe (w:World)(g:Nat)(cs:List UInt8):Prop:=w.heap[g]? = some (.cells (pc cs).toArray 472 (0,0))
theorem qe.LY {w:World}{g:Nat}{cs:List UInt8}(h:qe w g cs){K:List Value->Prop}(k:K (pc cs)):eK 256 (⟨g,0,none⟩:Addr) w K:=
 ⟨pc cs,si cs,nY h _ 0 fun j _=>by simp,k⟩
theorem LZ {w:World}{g:Nat}{cs:List UInt8}(h:qe w g cs)(c:UInt8):Ret Tryz.prog 344 #[.pointer (some ⟨g,0,none⟩),.int .u8 (c.toNat:Int)] w fun r w'=>r=.bool (decide (c∈cs))/\w=w':=by
 refine c344 _ _ w _ ?_;have hc:=UInt8.toNat_lt c;refine⟨by omega,by omega,?_⟩;rw[dT,Nat.mul_one,Int.toNat_natCast,Nat.zero_add];refine ae.of h (x:=decide (c∈cs)) ?_ ⟨rfl,rfl⟩;rw[List.getElem?_toArray,Gf _ (by omega)]
 congr 2
 refine decide_eq_decide.2 ?_;rw[List.mem_map]
 constructor
 ·rintro⟨d,hd,e⟩
  rwa[<- UInt8.toNat_inj.1 e]
 ·intro t;exact⟨c,t,rfl⟩
theorem Ud (cs:List UInt8)(hcs:∀ c∈cs,c.toNat<128)(hl:cs.length<=1000)(w:World):Ret Tryz.prog 332 #[.string (str cs)] w fun r w'=>r=.tuple #[.agg (pc cs).toArray,.bool true]/\Fr none1 w w':=by
 refine c332 _ w _ ?_;unfold C332;refine ak.of fun g w1 hg dp f1 _=>?_;have h1:qe w1 g []:=dp;have F1:Fr (only g) w1 w1:=Fr.refl _ _;refine bC.of (fun s w'=>∃ n:Nat,s.1=n/\n<=cs.length/\qe w' g (cs.take n)/\Fr (only g) w1 w') (fun s _=>cs.length - s.1.toNat) ⟨0,rfl,by omega,h1,F1⟩ ?_;rintro _ ⟨i,_⟩ w2 ⟨n,hn,oq,h2,f2⟩;dsimp only at hn ⊢;subst hn;rw[dU];refine aa.dec (fun aU=>?_) (fun eu=>?_)
 ·refine vi (by omega) (by omega) ?_
  rw[Int.toNat_natCast];have tg:cs.getD n 0∈cs:=by
   rw[List.getD_eq_getElem?_getD,List.getElem?_eq_getElem (by omega)];exact List.getElem_mem _
  have hc:=hcs _ tg;refine aa.no (by omega) ?_;refine⟨by omega,by omega,?_⟩;rw[dT,Nat.mul_one,Int.toNat_natCast,Nat.zero_add];refine az.of h2 (by rw[List.size_toArray,si];omega) rfl fun w3 h3 f3 _=>?_;rw[wI (x:=(n:Int)+1) (by omega) (by omega)];refine⟨⟨n+1,by omega,by omega,?_,f2.trans f3⟩,by omega⟩;unfold qe;rw[h3,List.setIfInBounds_toArray,Uc];have:cs.take n++[cs.getD n 0]=cs.take (n+1):=by
   rw[List.take_succ_eq_append_getElem (by omega),List.getD_eq_getElem?_getD,List.getElem?_eq_getElem (by omega)];rfl
  rw[this]
 ·have:n=cs.length:=by omega
  subst this;rw[List.take_length] at h2;refine h2.LY ?_;refine⟨si cs,ar.aE h2 rfl (LX cs) fun w3 h3 f3 _=>?_⟩;have h3:qe w3 g cs:=h3;refine h3.LY ⟨rfl,(f1.fresh f2 (by omega)).fresh f3 (by omega)⟩
theorem Ue {w:World}{g:Nat}{cs:List UInt8}(h:qe w g cs)(s:List UInt8)(hl:s.length<=1000000):Ret Tryz.prog 334 #[.string (str s),.pointer (some ⟨g,0,none⟩)] w fun r w'=>
  (∃ t u,r=.string (str t)/\s=t++u/\(∀ c∈u,c∈cs)/\(t=[]\/¬ t.getD (t.length - 1) 0∈cs))/\w=w':=by
 refine c334 _ _ w _ ?_;refine bC.of (fun q w'=>w=w'/\∃ t u,q.1=str t/\s=t++u/\∀ c∈u,c∈cs) (fun q _=>q.1.size) ⟨rfl,s,[],rfl,by simp,by simp⟩ ?_;rintro _ ⟨q,_⟩ _ ⟨rfl,t,u,hq,hs,hu⟩;dsimp only at hq ⊢;subst hq;have Ch:t.length<=s.length:=by rw[hs,List.length_append];omega
 rw[dU];refine aa.dec (fun oT=>?_) (fun hz=>?_)
 ·rw[wI (x:=(t.length:Int) - 1) (by omega) (by omega)]
  refine vi (by omega) (by omega) ?_;rw[show((t.length:Int) - 1).toNat=t.length - 1 by omega];refine ab.of (LZ h _) ?_;rintro _ _ ⟨rfl,rfl⟩;refine⟨_,rfl,?_⟩
  by_cases hc:t.getD (t.length - 1) 0∈cs
  ·refine aa.f (by rw[decide_eq_true hc];rfl) ?_
   refine zM (by omega) (by omega) (by omega) ?_;have e:(t.drop (0:Int).toNat).take (((t.length:Int) - 1).toNat - (0:Int).toNat)=t.take (t.length - 1):=by
    rw[show(0:Int).toNat=0 from rfl,List.drop_zero,show((t.length:Int) - 1).toNat - 0=t.length - 1 by omega]
   rw[e];refine⟨⟨rfl,t.take (t.length - 1),t.getD (t.length - 1) 0::u,rfl,?_,fun c qL=>?_⟩,?_⟩
   ·rw[hs]
    have:t=t.take (t.length - 1)++[t.getD (t.length - 1) 0]:=by
     conv=>lhs;rw[<- List.take_length (l:=t),show t.length=(t.length - 1)+1 by omega,List.take_succ_eq_append_getElem (by omega)]
     rw[List.getD_eq_getElem?_getD,List.getElem?_eq_getElem (by omega)];rfl
    conv=>lhs;rw[this]
    simp
   ·rcases List.mem_cons.1 qL with t' | t'
    ·rw[t'];exact hc
    ·exact hu c t'
   ·rw[dU,List.length_take];omega
  ·refine aa.t (by rw[decide_eq_false hc];rfl) ⟨⟨t,u,rfl,hs,hu,.inr hc⟩,rfl⟩
 ·exact⟨⟨t,u,rfl,hs,hu,.inl (List.eq_nil_of_length_eq_zero (by omega))⟩,rfl⟩
theorem Uf {w:World}{g:Nat}{cs:List UInt8}(h:qe w g cs)(s:List UInt8)(hl:s.length<=1000000):Ret Tryz.prog 333 #[.string (str s),.pointer (some ⟨g,0,none⟩)] w fun r w'=>
  (∃ t u,r=.string (str t)/\s=u++t/\(∀ c∈u,c∈cs)/\(t=[]\/¬ t.getD 0 0∈cs))/\w=w':=by
 refine c333 _ _ w _ ?_;refine bC.of (fun q w'=>w=w'/\∃ t u,q.1=str t/\s=u++t/\∀ c∈u,c∈cs) (fun q _=>q.1.size) ⟨rfl,s,[],rfl,by simp,by simp⟩ ?_;rintro _ ⟨q,_⟩ _ ⟨rfl,t,u,hq,hs,hu⟩;dsimp only at hq ⊢;subst hq;have Ch:t.length<=s.length:=by rw[hs,List.length_append];omega
 rw[dU];refine aa.dec (fun oT=>?_) (fun hz=>?_)
 ·refine vi (by omega) (by omega) ?_
  rw[show(0:Int).toNat=0 from rfl];refine ab.of (LZ h _) ?_;rintro _ _ ⟨rfl,rfl⟩;refine⟨_,rfl,?_⟩
  by_cases hc:t.getD 0 0∈cs
  ·refine aa.f (by rw[decide_eq_true hc];rfl) ?_
   refine zM (by omega) (by omega) (by omega) ?_;have e:(t.drop (1:Int).toNat).take (((t.length:Nat):Int).toNat - (1:Int).toNat)=t.drop 1:=by
    rw[show(1:Int).toNat=1 from rfl,List.take_of_length_le (by rw[List.length_drop];omega)]
   rw[e];refine⟨⟨rfl,t.drop 1,u++[t.getD 0 0],rfl,?_,fun c qL=>?_⟩,?_⟩
   ·rw[hs]
    cases t with
    | nil=>simp at oT
    | cons x t=>simp
   ·rcases List.mem_append.1 qL with t' | t'
    ·exact hu c t'
    ·simp only[List.mem_singleton] at t';rw[t'];exact hc
   ·rw[dU,List.length_drop];omega
  ·refine aa.t (by rw[decide_eq_false hc];rfl) ⟨⟨t,u,rfl,hs,hu,.inr hc⟩,rfl⟩
 ·exact⟨⟨t,u,rfl,hs,hu,.inl (List.eq_nil_of_length_eq_zero (by omega))⟩,rfl⟩
theorem Ug (s cs:List UInt8)(ay:s≠[])(hcs:∀ c∈cs,c.toNat<128)(h2:2<=cs.length)(eH:cs.length<=1000)(hl:s.length<=1000000)(w:World):Ret Tryz.prog 320 #[.string (str s),.string (str cs)] w fun r w'=>
  (∃ v,r=.string (str v)/\(v=[]↔∀ c∈s,c∈cs))/\Fr none1 w w':=by
 refine c320 _ _ w _ ?_;unfold C320;have e0:(⟨#[]⟩:ByteArray)=str []:=rfl;rw[e0,jc,jc];refine aa.no ay (aa.no (fun t=>by rw[t] at h2;simp at h2) ?_);refine cy.of (fun q w'=>q.1=false/\w=w') ?_ ?_
 ·refine aa.f ?_ ⟨rfl,rfl⟩
  rw[dU,beq_eq_false_iff_ne];omega
 rintro _ ⟨q,_⟩ _ ⟨hq,rfl⟩;dsimp only at hq;subst hq;refine aa.f rfl ?_;refine ab.of (Ud cs hcs eH w) ?_;rintro _ w1 ⟨rfl,f1⟩;refine⟨(pc cs,true,()),rfl,?_⟩;refine ak.of fun g w2 hg mF f2 _=>?_;have Ci:qe w2 g []:=mF;refine⟨si cs,ar.aE Ci (by rw[si,si]) (LX cs) fun w3 h3 f3 _=>?_⟩;have h3:qe w3 g cs:=h3;refine aa.t rfl ?_;refine ab.of (Ue h3 s hl) ?_;rintro _ _ ⟨⟨t,u,rfl,hs,hu,ht⟩,rfl⟩;refine⟨_,rfl,?_⟩;have Ch:t.length<=s.length:=by rw[hs,List.length_append];omega
 refine ab.of (Uf h3 t (by omega)) ?_;rintro _ _ ⟨⟨v,u',rfl,L0,Uh,hv⟩,rfl⟩;refine⟨_,rfl,⟨v,rfl,?_⟩,f1.trans (f2.fresh f3 (by omega))⟩
 constructor
 ·intro tC c hc
  rw[hs,L0,tC,List.append_nil] at hc
  rcases List.mem_append.1 hc with hc | hc
  ·exact Uh c hc
  ·exact hu c hc
 ·intro hall
  rcases hv with hv | hv
  ·exact hv
  ·cases v with
   | nil=>rfl
   | cons x v=>
    refine absurd (hall x ?_) hv;rw[hs,L0];simp
def gT (c:UInt8):Bool:=decide (48<=c.toNat)&&decide (c.toNat<=57)
def Cj:List UInt8:=[48,49,50,51,52,53,54,55,56,57]
theorem L1 (c:UInt8):c∈Cj↔gT c=true:=by
 have hc:=UInt8.toNat_lt c
 constructor
 ·intro h
  have h:c=48\/c=49\/c=50\/c=51\/c=52\/c=53\/c=54\/c=55\/c=56\/c=57:=by simpa[Cj] using h
  rcases h with h | h | h | h | h | h | h | h | h | h<;>subst h<;>rfl
 ·intro h
  have h:48<=c.toNat/\c.toNat<=57:=by simpa[gT] using h
  obtain⟨n,hn⟩:∃ n,c.toNat=n:=⟨_,rfl⟩;have e:c=UInt8.ofNat n:=by rw[<- hn];exact(UInt8.ofNat_toNat).symm
  have:n=48\/n=49\/n=50\/n=51\/n=52\/n=53\/n=54\/n=55\/n=56\/n=57:=by omega
  rcases this with t | t | t | t | t | t | t | t | t | t<;>(rw[t] at e;rw[e];decide)
def gu (d:List UInt8):Int:=d.foldl (fun n c=>n * 10+((c.toNat:Int) - 48)) 0
theorem Cl (d:List UInt8)(c:UInt8):gu (d++[c])=gu d * 10+((c.toNat:Int) - 48):=by unfold gu;rw[List.foldl_append];rfl
theorem Gg:∀ (d:List UInt8) (n:Int),0<=n->(∀ c∈d,gT c=true)->0<=d.foldl (fun n c=>n * 10+((c.toNat:Int) - 48)) n/\d.foldl (fun n c=>n * 10+((c.toNat:Int) - 48)) n<(n+1) * ((10 ^ d.length:Nat):Int)
 | [],n,h0,_=>by simp;omega
 | c::d,n,h0,h=>by
  have hc:48<=c.toNat/\c.toNat<=57:=by simpa[gT] using h c (by simp)
  obtain⟨i1,i2⟩:=Gg d (n * 10+((c.toNat:Int) - 48)) (by omega) (fun x hx=>h x (by simp[hx]));refine⟨i1,Int.lt_of_lt_of_le i2 ?_⟩;have e:(n+1) * ((10 ^ (c::d).length:Nat):Int)=(n * 10+10) * ((10 ^ d.length:Nat):Int):=by
   rw[List.length_cons,Nat.pow_succ,Int.natCast_mul,Int.mul_comm ((10 ^ d.length:Nat):Int),<- Int.mul_assoc]
   congr 1
   omega
  rw[e];exact Int.mul_le_mul_of_nonneg_right (by omega) (Int.natCast_nonneg _)
theorem Cm (d:List UInt8)(h:∀ c∈d,gT c=true)(hl:d.length<=18):0<=gu d/\gu d<1000000000000000000:=by
 obtain⟨a,b⟩:=Gg d 0 (Int.le_refl _) h;have:10 ^ d.length<=10 ^ 18:=Nat.pow_le_pow_right (by decide) hl;unfold gu;omega
theorem Ui {w:World}(s:List UInt8):∃ (v:Sl) (w':World),(convert 9 22 (.string (str s))).run Tryz.prog w=.ok (.slice v.1 v.2.1 v.2.2) w'/\du w' 1 v (s.map fun b=>Value.int .u8 (b.toNat:Int))/\v.2.1=s.length/\Fr none1 w w':=by
 refine⟨(some ⟨w.heap.size,0,none⟩,(str s).size,_),_,run_bytes_of_string w 9 22 5 (str s) Tryz.underlying9 Tryz.underlying22 Tryz.underlying5,?_,dU s,?_⟩
 ·refine⟨by rw[List.length_map,Nat.mul_one];exact(dU s).symm,(fun t=>nomatch t),fun a ha=>?_⟩
  injection ha with ha
  subst ha;refine nY (Array.getElem?_push_size ..) _ 0 fun j hj=>?_;rw[List.length_map] at hj;unfold bytesRow;rw[Nat.zero_add,Array.getElem?_append_left (by unfold str;simpa using hj)];unfold str;simp
 ·exact(wE w).trans (mu _ _)
theorem Uj (s d:List UInt8)(neg:Bool)(hs:s=(if neg then 45::d else d))(ay:d≠[])(hd:∀ c∈d,gT c=true)(hl:s.length<19)(w:World):
  Ret Tryz.prog 337 #[.string (str s)] w fun r w'=>r=.tuple #[.int .i64 (if neg then -(gu d) else gu d),.nilIface]/\Fr none1 w w':=by
 refine c337 _ w _ ?_;unfold C337;have ot:0<d.length:=List.length_pos_iff.2 ay;have jh:s.length=d.length+(if neg then 1 else 0):=by rw[hs];cases neg<;>simp
 have Uk:d.length<=18:=by omega
 have h0:0<s.length:=by omega
 have zN:48<=(d.getD 0 0).toNat/\(d.getD 0 0).toNat<=57:=by
  have:gT (d.getD 0 0)=true:=hd _ (by rw[List.getD_eq_getElem?_getD,List.getElem?_eq_getElem ot];exact List.getElem_mem _);simpa[gT] using this
 have qM:((s.getD 0 0).toNat=45/\neg=true)\/(48<=(s.getD 0 0).toNat/\(s.getD 0 0).toNat<=57/\neg=false):=by
  rw[hs];cases neg with
  | true=>exact .inl ⟨rfl,rfl⟩
  | false=>exact .inr ⟨zN.1,zN.2,rfl⟩
 refine cy.of (fun q w'=>q.1=true/\w=w') ?_ ?_
 ·rw[dU]
  refine aa.yes (by omega) ⟨decide_eq_true (by omega),rfl⟩
 rintro _ ⟨q,_⟩ _ ⟨hq,rfl⟩;dsimp only at hq;subst hq;refine aa.t rfl ?_;refine cy.of (fun q w'=>q.1=str d/\w=w') ?_ ?_
 ·refine cy.of (fun q w'=>q.1=neg/\w=w') ?_ ?_
  ·refine vi (by omega) (by omega) ?_
   rw[show(0:Int).toNat=0 from rfl];refine aa.eq (fun h=>?_) (fun h=>?_)
   ·refine⟨?_,rfl⟩
    rcases qM with⟨_,hn⟩ | ⟨h1,_,_⟩
    ·exact hn.symm
    ·omega
   ·refine vi (by omega) (by omega) ⟨?_,rfl⟩
    rw[show(0:Int).toNat=0 from rfl]
    rcases qM with⟨h1,_⟩ | ⟨h1,_,hn⟩
    ·omega
    ·rw[hn];simp only[beq_eq_false_iff_ne];omega
  rintro _ ⟨q,_⟩ _ ⟨hq,rfl⟩;dsimp only at hq;subst hq;refine aa.by (fun hn=>?_) (fun hn=>?_)
  ·subst hn
   refine zM (by omega) (by rw[dU];omega) (by rw[dU];omega) ?_;have e:(s.drop (1:Int).toNat).take (((str s).size:Int).toNat - (1:Int).toNat)=d:=by
    rw[dU,hs];simp
   rw[e,dU];refine aa.no (by omega) ⟨rfl,rfl⟩
  ·subst hn
   refine⟨?_,rfl⟩;show str s=str d;rw[hs];rfl
 rintro _ ⟨q,_⟩ _ ⟨hq,rfl⟩;dsimp only at hq;subst hq;obtain⟨v,w1,r1,hv,cO,f1⟩:=Ui (w:=w) d;refine⟨v,w1,r1,?_⟩;refine bC.of (fun q w'=>w1=w'/\∃ n:Nat,q.2.1=n/\n<=d.length/\q.1=gu (d.take n)) (fun q _=>d.length - q.2.1.toNat) ⟨rfl,0,rfl,by omega,rfl⟩ ?_;rintro _ ⟨m,i,_⟩ _ ⟨rfl,n,hn,oq,hm⟩;dsimp only at hn hm ⊢;subst hn;subst hm;refine aa.dec (fun aU=>?_) (fun eu=>?_)
 ·have tg:d.getD n 0∈d:=by rw[List.getD_eq_getElem?_getD,List.getElem?_eq_getElem (by omega)];exact List.getElem_mem _
  have hc:48<=(d.getD n 0).toNat/\(d.getD n 0).toNat<=57:=by simpa[gT] using hd _ tg
  refine du.ld hv (by omega) aU (x:=((d.getD n 0).toNat:Int)) (by rw[Int.toNat_natCast,List.getElem?_map,List.getD_eq_getElem?_getD,List.getElem?_eq_getElem (by omega)];rfl) ?_;have e1:IntKind.u8.wrap (((d.getD n 0).toNat:Int) - 48)=((d.getD n 0).toNat:Int) - 48:=by rw[IntKind.wrap_u8];omega
  rw[e1];refine aa.no (by omega) ?_;obtain⟨b1,b2⟩:=Cm (d.take n) (fun c hc=>hd c (List.mem_of_mem_take hc)) (by rw[List.length_take];omega);rw[wI (x:=((d.getD n 0).toNat:Int) - 48) (by omega) (by omega)];obtain⟨b3,b4⟩:=Cm (d.take (n+1)) (fun c hc=>hd c (List.mem_of_mem_take hc)) (by rw[List.length_take];omega);have e2:d.take (n+1)=d.take n++[d.getD n 0]:=by
   rw[List.take_succ_eq_append_getElem (by omega),List.getD_eq_getElem?_getD,List.getElem?_eq_getElem (by omega)];rfl
  rw[e2,Cl] at b3 b4;rw[wI (x:=gu (d.take n) * 10) (by omega) (by omega),wI (x:=gu (d.take n) * 10+(((d.getD n 0).toNat:Int) - 48)) (by omega) (by omega),wI (x:=(n:Int)+1) (by omega) (by omega)];refine⟨⟨rfl,n+1,by omega,by omega,?_⟩,by omega⟩;rw[e2,Cl]
 ·have:n=d.length:=by omega
  subst this;rw[List.take_length];obtain⟨b1,b2⟩:=Cm d hd Uk;refine vi (by omega) (by omega) ?_;rw[show(0:Int).toNat=0 from rfl]
  rcases qM with⟨h1,hn⟩ | ⟨h1,h2,hn⟩
  ·subst hn
   refine aa.t (by rw[h1];rfl) ?_;rw[wI (x:=0 - gu d) (by omega) (by omega),Int.zero_sub];exact⟨rfl,f1⟩
  ·subst hn
   refine aa.f (by simp only[beq_eq_false_iff_ne];omega) ⟨rfl,f1⟩
theorem Gh {t:TypeId}(ht:∃ ms,Tryz.prog.underlying t=some (.interface ms))(o:Operand)(w:World):
  (do eqGuard .neq t o (.const .nilIface) .nilIface .nilIface;binOp .neq t .nilIface .nilIface:Sem Value).run Tryz.prog w=.ok (.bool false) w:=by
 obtain⟨ms,ht⟩:=ht;have h1:(eqGuard .neq t o (.const .nilIface) .nilIface .nilIface).run Tryz.prog w=.ok () w:=by
  unfold eqGuard;simp
 rw[Sem.run_bind,h1,Result.andThen_ok];have h2:(Op.equalIn (9999+1) t .nilIface .nilIface).run Tryz.prog w=.ok true w:=by
  unfold Op.equalIn;simp only[Sem.run_bind,under ht,Result.andThen_ok,Sem.run_pure]
 show(do pure (Value.bool (!(<- Op.equalIn (9999+1) t .nilIface .nilIface))):Sem Value).run Tryz.prog w=_
 rw[Sem.run_bind,h2];rfl
theorem L2 (s d:List UInt8)(neg:Bool)(hs:s=(if neg then 45::d else d))(ay:d≠[])(hd:∀ c∈d,gT c=true)(hl:s.length<19)(w:World):
  Ret Tryz.prog 321 #[.string (str s)] w fun r w'=>r=.tuple #[.int .i64 (if neg then -(gu d) else gu d),.nilIface]/\Fr none1 w w':=by
 refine c321 _ w _ ?_;refine ab.of (Uj s d neg hs ay hd hl w) ?_;rintro _ w1 ⟨rfl,f1⟩;refine⟨(_,.nilIface,()),rfl,?_⟩;refine⟨false,w1,Gh ⟨_,Tryz.underlying422⟩ _ w1,aa.f rfl ⟨rfl,f1⟩⟩
def gi (s:List UInt8):Int×Bool:=
 if dB s=[]\/13<(dB s).length\/(dB s).all gT=false\/((dB s).getD 0 0=48/\s≠[48]) then(0,false) else
 if 1000000000000<gu (dB s) then(0,false) else(if s.take 1=[45] then -(gu (dB s)) else gu (dB s),true)
theorem Cn (s:List UInt8)(hl:s.length<=100000)(w:World):Ret Tryz.prog 303 #[.string (str s)] w fun r w'=>r=.tuple #[.int .i64 (gi s).1,.bool (gi s).2]/\Fr none1 w w':=by
 refine c303 _ w _ ?_;unfold C303;have e0:(⟨#[]⟩:ByteArray)=str []:=rfl;have e45:(⟨#[45]⟩:ByteArray)=str [45]:=rfl;have e48:(⟨#[48]⟩:ByteArray)=str [48]:=rfl;have ed:(⟨#[48,49,50,51,52,53,54,55,56,57]⟩:ByteArray)=str Cj:=rfl;rw[e0,e45,e48,ed];refine ab.of (Ub s w) ?_;rintro _ _ ⟨rfl,rfl⟩;refine⟨_,rfl,?_⟩;have ot:(dB s).length<=s.length:=by unfold dB;split<;>simp
 refine cy.of (fun q w'=>q.1=decide (dB s=[]\/13<(dB s).length\/(dB s).all gT=false\/((dB s).getD 0 0=48/\s≠[48]))/\Fr none1 w w') ?_ ?_
 ·rw[jc]
  refine aa.dec (fun h=>?_) (fun h=>?_)
  ·exact⟨(decide_eq_true (.inl h)).symm,Fr.refl _ _⟩
  rw[dU];refine aa.dec (fun h2=>?_) (fun h2=>?_)
  ·exact⟨(decide_eq_true (.inr (.inl (by omega)))).symm,Fr.refl _ _⟩
  refine ab.of (Ug (dB s) Cj h (by decide) (by decide) (by decide) (by omega) w) ?_;rintro _ w1 ⟨⟨v,rfl,hv⟩,f1⟩;refine⟨_,rfl,?_⟩;rw[jc];have hall:v=[]↔(dB s).all gT=true:=by
   rw[hv,List.all_eq_true];exact⟨fun t c hc=>(L1 c).1 (t c hc),fun t c hc=>(L1 c).2 (t c hc)⟩
  by_cases tC:v=[]
  ·refine aa.f (by simp[tC]) ?_
   have ha:=hall.1 tC;have oT:0<(dB s).length:=List.length_pos_iff.2 h;refine vi (by omega) (by omega) ?_;rw[show(0:Int).toNat=0 from rfl];refine aa.eq (fun L3=>?_) (fun L3=>?_)
   ·refine⟨?_,f1⟩
    have Ul:(dB s).getD 0 0=48:=UInt8.toNat_inj.1 (by have:(48:UInt8).toNat=48:=rfl;omega);rw[jc]
    by_cases Co:s=[48]
    ·rw[decide_eq_true Co,decide_eq_false]
     ·rfl
     ·rintro(t | t | t | t)
      ·exact h t
      ·omega
      ·rw[ha] at t;cases t
      ·exact t.2 Co
    ·rw[decide_eq_false Co,decide_eq_true (.inr (.inr (.inr ⟨Ul,Co⟩)))];rfl
   ·refine⟨?_,f1⟩
    rw[decide_eq_false];rintro(t | t | t | t)
    ·exact h t
    ·omega
    ·rw[ha] at t;cases t
    ·exact L3 (by rw[t.1];rfl)
  ·refine aa.t (by simp[tC]) ⟨?_,f1⟩
   refine(decide_eq_true (.inr (.inr (.inl ?_)))).symm;have:=fun t=>tC (hall.2 t);simpa using this
 rintro _ ⟨q,_⟩ w1 ⟨hq,f1⟩;dsimp only at hq;subst hq;unfold gi;refine aa.dec (fun h=>?_) (fun h=>?_)
 ·rw[if_pos h];exact⟨rfl,f1⟩
 rw[if_neg h];have ay:dB s≠[]:=fun t=>h (.inl t);have L4:(dB s).length<=13:=by
  by_cases t:13<(dB s).length
  ·exact absurd (.inr (.inl t)) h
  ·omega
 have hall:∀ c∈dB s,gT c=true:=by
  have:(dB s).all gT=true:=by
   cases ha:(dB s).all gT with
   | true=>rfl
   | false=>exact absurd (.inr (.inr (.inl ha))) h
  exact List.all_eq_true.1 this
 have xp:s=(if decide (s.take 1=[45]) then 45::dB s else dB s):=by
  unfold dB
  by_cases t:s.take 1=[45]
  ·rw[if_pos (decide_eq_true t),if_pos t]
   conv=>lhs;rw[<- List.take_append_drop 1 s,t]
   rfl
  ·rw[if_neg (by simpa using t),if_neg t]
 have jh:s.length<=14:=by
  rw[xp];split
  ·simp only[List.length_cons];omega
  ·omega
 obtain⟨b1,b2⟩:=Cm (dB s) hall (by omega)
 by_cases hn:s.take 1=[45]
 ·rw[if_pos (decide_eq_true hn)] at xp
  rw[if_pos hn];refine ab.of (L2 s (dB s) true xp ay hall (by omega) w1) ?_;rintro _ w2 ⟨rfl,f2⟩;refine⟨(-(gu (dB s)),.nilIface,()),rfl,?_⟩;refine⟨false,w2,Gh ⟨_,Tryz.underlying422⟩ _ w2,aa.f rfl ?_⟩;have f12:=f1.trans f2;refine aa.dec (fun h1=>?_) (fun h1=>?_)
  ·rw[if_pos (by omega)];exact⟨rfl,f12⟩
  ·rw[if_neg (by omega)]
   refine aa.no (by omega) ⟨rfl,f12⟩
 ·rw[if_neg (by simpa using hn)] at xp
  rw[if_neg hn];refine ab.of (L2 s (dB s) false xp ay hall (by omega) w1) ?_;rintro _ w2 ⟨rfl,f2⟩;refine⟨(gu (dB s),.nilIface,()),rfl,?_⟩;refine⟨false,w2,Gh ⟨_,Tryz.underlying422⟩ _ w2,aa.f rfl ?_⟩;have f12:=f1.trans f2;refine aa.no (by omega) ?_;refine aa.dec (fun h1=>?_) (fun h1=>?_)
  ·rw[if_pos (by omega)];exact⟨rfl,f12⟩
  ·rw[if_neg (by omega)];exact⟨rfl,f12⟩
theorem Gi {n:Nat}(h:n<10):Lib.decDigits n=[UInt8.ofNat (48+n)]:=Lib.decDigits_one h
theorem L5 {n:Nat}(h:¬ n<10):Lib.decDigits n=Lib.decDigits (n / 10)++[UInt8.ofNat (48+n % 10)]:=by rw[Lib.decDigits,dif_neg h]
theorem L6 {k:Nat}(h:k<10):gT (UInt8.ofNat (48+k))=true:=by
 unfold gT;rw[nh (by omega),decide_eq_true (by omega),decide_eq_true (by omega)];rfl
theorem L7 {c:UInt8}(h:gT c=true):48<=c.toNat/\c.toNat<=57:=by
 unfold gT at h;simp only[Bool.and_eq_true,decide_eq_true_eq] at h;exact h
theorem xq:∀ n:Nat,Lib.decDigits n≠[]/\(∀ c∈Lib.decDigits n,gT c=true)/\gu (Lib.decDigits n)=n/\((Lib.decDigits n).getD 0 0=48->n=0)/\(∀ k:Nat,1<=k->n<10 ^ k->(Lib.decDigits n).length<=k):=by
 intro n
 induction n using Nat.strongRecOn with
 | _ n ih=>
  by_cases h:n<10
  ·rw[Gi h]
   refine⟨by simp,fun c hc=>?_,?_,fun t=>?_,fun k hk _=>by simpa using hk⟩
   ·simp only[List.mem_singleton] at hc;rw[hc];exact L6 h
   ·show(0:Int) * 10+(((UInt8.ofNat (48+n)).toNat:Int) - 48)=n
    rw[nh (by omega)];omega
   ·have t:UInt8.ofNat (48+n)=48:=t
    have:=congrArg UInt8.toNat t;rw[nh (by omega)] at this;have e:(48:UInt8).toNat=48:=rfl;omega
  ·obtain⟨i1,i2,i3,i4,i5⟩:=ih (n / 10) (by omega)
   rw[L5 h];refine⟨by simp,fun c hc=>?_,?_,fun t=>?_,fun k hk aU=>?_⟩
   ·rcases List.mem_append.1 hc with hc | hc
    ·exact i2 c hc
    ·simp only[List.mem_singleton] at hc;rw[hc];exact L6 (by omega)
   ·rw[Cl,i3,nh (by omega)];omega
   ·have hp:0<(Lib.decDigits (n / 10)).length:=List.length_pos_iff.2 i1
    rw[List.getD_eq_getElem?_getD,List.getElem?_append_left hp,<- List.getD_eq_getElem?_getD] at t;have:=i4 t;omega
   ·obtain⟨k',rfl⟩:∃ k',k=k'+1:=⟨k - 1,by omega⟩
    have q7:1<=k':=by
     cases k' with
     | zero=>simp at aU;omega
     | succ k'=>omega
    have vj:n / 10<10 ^ k':=by rw[Nat.pow_succ] at aU;omega
    have:=i5 k' q7 vj;simp only[List.length_append,List.length_singleton];omega
theorem L8 {n:Nat}(h:n<=1000000000000):(Lib.decDigits n).length<=13:=(xq n).2.2.2.2 13 (by omega) (by omega)
theorem Um (s:List UInt8):dB (45::s)=s:=by unfold dB;rw[if_pos (by simp)];rfl
theorem Un {s:List UInt8}(h:∀ c∈s,gT c=true):dB s=s/\s.take 1≠[45]:=by
 have ht:s.take 1≠[45]:=fun t=>by
  cases s with
  | nil=>simp at t
  | cons c l=>
   have hc:=h c (by simp);simp at t;rw[t] at hc;exact absurd hc (by decide)
 exact⟨by unfold dB;rw[if_neg ht],ht⟩
theorem Uo {n:Nat}(h:n<=1000000000000):gi (Lib.decDigits n)=((n:Int),true):=by
 obtain⟨ay,hd,hv,h0,_⟩:=xq n;have L4:=L8 h;obtain⟨j6,uE⟩:=Un hd;unfold gi;rw[j6,if_neg,hv,if_neg (by omega),if_neg uE];rintro(t | t | t | t)
 ·exact ay t
 ·omega
 ·rw[List.all_eq_true.2 hd] at t;cases t
 ·have:=h0 t.1
  subst this;exact t.2 (by rw[Gi (by omega)];rfl)
theorem Up {n:Nat}(h:n<=1000000000000)(hn:n≠0):gi (45::Lib.decDigits n)=(-(n:Int),true):=by
 obtain⟨ay,hd,hv,h0,_⟩:=xq n;have L4:=L8 h;unfold gi;rw[Um,if_neg,hv,if_neg (by omega),if_pos (by simp)];rintro(t | t | t | t)
 ·exact ay t
 ·omega
 ·rw[List.all_eq_true.2 hd] at t;cases t
 ·exact hn (h0 t.1)
theorem L9 {n:Int}(h0:-1000000000000<=n)(h1:n<=1000000000000):gi (Lib.itoa n)=(n,true):=by
 unfold Lib.itoa
 by_cases h:n<0
 ·rw[if_pos h,Up (by omega) (by omega)]
  congr 1;omega
 ·rw[if_neg h,Uo (by omega)]
  congr 1;omega
theorem Uq {α:Type}{Q:List α->Prop}(h0:Q [])(h1:∀ l a,Q l->Q (l++[a]))(l:List α):Q l:=by
 have:∀ r:List α,Q r.reverse:=fun r=>by
  induction r with
  | nil=>exact h0
  | cons a r ih=>rw[List.reverse_cons];exact h1 _ _ ih
 have:=this l.reverse;rwa[List.reverse_reverse] at this
theorem Ur (d:List UInt8)(h:∀ c∈d,gT c=true):0<=gu d:=(Gg d 0 (by omega) h).1
theorem Ma:∀ d:List UInt8,d≠[]->(∀ c∈d,gT c=true)->(d.getD 0 0=48->d=[48])->Lib.decDigits (gu d).toNat=d/\(d≠[48]->1<=gu d):=by
 intro d
 induction d using Uq with
 | h0=>intro h;exact absurd rfl h
 | h1 e c ih=>
  intro _ hd hz;have hc:=L7 (hd c (by simp));have hv:=Cl e c;have Mb:UInt8.ofNat (48+(c.toNat - 48))=c:=by rw[show 48+(c.toNat - 48)=c.toNat by omega];exact UInt8.ofNat_toNat
  by_cases he:e=[]
  ·subst he
   have tC:gu []=0:=rfl;rw[List.nil_append] at *;have:gu [c]=(c.toNat:Int) - 48:=by rw[hv,tC];omega
   rw[this];refine⟨?_,fun ay=>?_⟩
   ·rw[show((c.toNat:Int) - 48).toNat=c.toNat - 48 by omega,Gi (by omega),Mb]
   ·have:c≠48:=fun t=>ay (by rw[t])
    have:c.toNat≠48:=fun t=>this (by rw[<- UInt8.toNat_inj];exact t);omega
  ·have hp:0<e.length:=List.length_pos_iff.2 he
   have hg:(e++[c]).getD 0 0=e.getD 0 0:=by rw[List.getD_eq_getElem?_getD,List.getElem?_append_left hp,<- List.getD_eq_getElem?_getD]
   have Mc:e.getD 0 0≠48:=fun t=>by
    have:=hz (hg.trans t);have:=congrArg List.length this;rw[List.length_append,List.length_singleton,List.length_singleton] at this;omega
   obtain⟨i1,i2⟩:=ih he (fun c hc=>hd c (by simp[hc])) (fun t=>absurd t Mc);have tD:=i2 (fun t=>Mc (by rw[t];rfl));rw[hv];refine⟨?_,fun _=>by omega⟩;rw[L5 (n:=(gu e * 10+((c.toNat:Int) - 48)).toNat) (by omega),show(gu e * 10+((c.toNat:Int) - 48)).toNat / 10=(gu e).toNat by omega,i1,show(gu e * 10+((c.toNat:Int) - 48)).toNat % 10=c.toNat - 48 by omega,Mb]
theorem Md {s:List UInt8}(h:(gi s).2=true):s=Lib.itoa (gi s).1/\-1000000000000<=(gi s).1/\(gi s).1<=1000000000000:=by
 unfold gi at h ⊢;split at h
 ·cases h
 rename_i hc;split at h
 ·cases h
 rename_i hb;rw[if_neg hc,if_neg hb];simp only[not_or] at hc;obtain⟨h1,h2,h3,h4⟩:=hc;have hd:∀ c∈dB s,gT c=true:=by
  have:(dB s).all gT=true:=by cases h:(dB s).all gT;exact absurd h h3;rfl
  exact List.all_eq_true.1 this
 have hn:=Ur _ hd
 by_cases hm:s.take 1=[45]
 ·have hs:s=45::dB s:=by
   unfold dB;rw[if_pos hm];cases s with
   | nil=>simp at hm
   | cons c l=>simp at hm;subst hm;rfl
  have hz:(dB s).getD 0 0≠48:=fun t=>h4 ⟨t,fun e=>by rw[e] at hm;simp at hm⟩;obtain⟨i1,i2⟩:=Ma _ h1 hd (fun t=>absurd t hz);have:=i2 (fun t=>hz (by rw[t];rfl));rw[if_pos hm];refine⟨?_,by dsimp only;omega,by dsimp only;omega⟩;dsimp only;unfold Lib.itoa;rw[if_pos (by omega),show(-gu (dB s)).natAbs=(gu (dB s)).toNat by omega,i1];exact hs
 ·have hs:dB s=s:=by unfold dB;rw[if_neg hm]
  rw[if_neg hm];rw[hs] at h1 h2 h3 h4 hb hn hd ⊢;obtain⟨i1,i2⟩:=Ma s h1 hd (fun t=>by
   by_cases e:s=[48]
   ·exact e
   ·exact absurd ⟨t,e⟩ h4)
  refine⟨?_,by dsimp only;omega,by dsimp only;omega⟩;dsimp only;unfold Lib.itoa;rw[if_neg (by omega),i1]
structure RS where
 l:List dM
 at_:Int
 e:Int
def Gj (fin:Int)(s:RS):Int:=match s.l with | x::_=>x.2 | []=>fin
def kZ (fin c:Int)(s:RS):RS:=if s.e=0 then⟨s.l,Gj fin s,c⟩ else s
def cp (fin:Int)(right:List UInt8->Bool)(s:RS):List UInt8×RS:=
 if s.e=0 then match s.l with
  | []=>([],⟨[],fin,2⟩)
  | x::l=>if right x.1=true then(x.1,⟨l,s.at_,0⟩) else([],⟨x::l,x.2,2⟩)
 else([],s)
def dC (fin:Int)(x:List UInt8)(s:RS):RS:=(cp fin (fun y=>decide (y=x)) s).2
def ie (x:List UInt8):Bool:=(gi x).2||(x==[102,105,120]||(x==[97,100,100]||(x==[110,101,103]||(x==[109,117,108]||x==[109,97,120]))))
def gz (x:List UInt8):Bool:=x==[122,101,114,111]||(x==[111,110,101]||(x==[103,105,118,101]||(x==[97,110,100]||(x==[111,114]||(x==[115,99,97,108,101]||(x==[119,104,101,110]||x==[105,102]))))))
def lW (x:List UInt8):Bool:=(gi x).2&&(decide (0<=(gi x).1)&&decide ((gi x).1<=10000))
def ig (fin:Int)(rec:RS->Ob×RS)(s:RS):Ob×Ob×RS:=
 ((rec (dC fin [40] s)).1,(rec (dC fin [44] (rec (dC fin [40] s)).2)).1,dC fin [41] (rec (dC fin [44] (rec (dC fin [40] s)).2)).2)
def sj (fin:Int)(rec:RS->Ob×RS)(x:List UInt8)(s:RS):Ob×RS:=
 if x=[102,105,120] then(.fix (cp fin fm (dC fin [40] s)).1,dC fin [41] (cp fin fm (dC fin [40] s)).2)
 else if x=[110,101,103] then(.neg (rec (dC fin [40] s)).1,dC fin [41] (rec (dC fin [40] s)).2)
 else if x=[97,100,100] then(.add (ig fin rec s).1 (ig fin rec s).2.1,(ig fin rec s).2.2)
 else if x=[109,117,108] then(.mul (ig fin rec s).1 (ig fin rec s).2.1,(ig fin rec s).2.2)
 else if x=[109,97,120] then(.max (ig fin rec s).1 (ig fin rec s).2.1,(ig fin rec s).2.2)
 else(.const (gi x).1,s)
def ji (fin:Int):Nat->RS->Ob×RS
 | 0,s=>(.none,kZ fin 5 s)
 | n+1,s=>if s.e≠0 then(.none,s) else if(cp fin ie s).1=[] then(.none,(cp fin ie s).2) else sj fin (ji fin n) (cp fin ie s).1 (cp fin ie s).2
def k8 (fin:Int)(rec:RS->Tm×RS)(s:RS):Tm×RS:=((rec s).1,dC fin [41] (rec s).2)
def ij (fin:Int)(rec:RS->Tm×RS)(s:RS):Tm×Tm×RS:=((rec s).1,(rec (dC fin [44] (rec s).2)).1,dC fin [41] (rec (dC fin [44] (rec s).2)).2)
def q8 (fin:Int)(num:RS->Ob×RS)(rec:RS->Tm×RS)(x:List UInt8)(s:RS):Tm×RS:=
 if x=[111,110,101] then(.one (cp fin fm s).1,dC fin [41] (cp fin fm s).2)
 else if x=[103,105,118,101] then(.gG (k8 fin rec s).1,(k8 fin rec s).2)
 else if x=[97,110,100] then(.and (ij fin rec s).1 (ij fin rec s).2.1,(ij fin rec s).2.2)
 else if x=[111,114] then
  (.or (cp fin fm s).1 (ij fin rec (dC fin [44] (cp fin fm s).2)).1 (ij fin rec (dC fin [44] (cp fin fm s).2)).2.1,(ij fin rec (dC fin [44] (cp fin fm s).2)).2.2)
 else if x=[115,99,97,108,101] then(.scale (num s).1 (k8 fin rec (dC fin [44] (num s).2)).1,(k8 fin rec (dC fin [44] (num s).2)).2)
 else if x=[119,104,101,110] then
  (.when (gi (cp fin lW s).1).1 (k8 fin rec (dC fin [44] (cp fin lW s).2)).1,(k8 fin rec (dC fin [44] (cp fin lW s).2)).2)
 else(.cond (num s).1 (ij fin rec (dC fin [44] (num s).2)).1 (ij fin rec (dC fin [44] (num s).2)).2.1,(ij fin rec (dC fin [44] (num s).2)).2.2)
def fK (fin:Int):Nat->RS->Tm×RS
 | 0,s=>(.none,kZ fin 5 s)
 | n+1,s=>if s.e≠0 then(.none,s) else if(cp fin gz s).1=[] then(.zero,(cp fin gz s).2) else if(cp fin gz s).1=[122,101,114,111] then(.zero,(cp fin gz s).2)
   else q8 fin (ji fin n) (fK fin n) (cp fin gz s).1 (dC fin [40] (cp fin gz s).2)
def tE (fin:Int)(s:RS):RS:=match s.l with | []=>s | _::_=>kZ fin 2 s
def ny (bs:List UInt8):Int:=((cK bs).length:Int)+1
def lX (bs:List UInt8):RS:=if 1000<bs.length then⟨[],0,5⟩ else if 0<(eS [] 0 false (cK bs)).2 then⟨(eS [] 0 false (cK bs)).1,(eS [] 0 false (cK bs)).2,2⟩ else⟨(eS [] 0 false (cK bs)).1,0,0⟩
def pd (bs:List UInt8):RS:=tE (ny bs) (fK (ny bs) 12 (lX bs)).2
def nz (bs:List UInt8):Tm×Int×Int:=
 if(pd bs).e≠0 then(.none,(pd bs).at_,(pd bs).e) else if jR (fK (ny bs) 12 (lX bs)).1≠0 then(.none,(pd bs).at_,jR (fK (ny bs) 12 (lX bs)).1) else((fK (ny bs) 12 (lX bs)).1,0,0)
theorem Gk {fin:Int}{right:List UInt8->Bool}{x:dM}{l:List dM}{a:Int}(h:right x.1=true):cp fin right ⟨x::l,a,0⟩=(x.1,⟨l,a,0⟩):=by
 unfold cp;simp[h]
theorem Me {fin:Int}{right:List UInt8->Bool}{x:dM}{l:List dM}{a:Int}(h:¬ right x.1=true):cp fin right ⟨x::l,a,0⟩=([],⟨x::l,x.2,2⟩):=by
 unfold cp;simp[h]
theorem Mf {fin:Int}{right:List UInt8->Bool}{a:Int}:cp fin right ⟨[],a,0⟩=([],⟨[],fin,2⟩):=by
 unfold cp;simp
theorem Mg {fin:Int}{right:List UInt8->Bool}{s:RS}(h:s.e≠0):cp fin right s=([],s):=by
 unfold cp;rw[if_neg h]
theorem Mh {fin c:Int}{s:RS}(h:s.e≠0):kZ fin c s=s:=by unfold kZ;rw[if_neg h]
structure fU (s:RS)(ts:List (List UInt8))(s':RS):Prop where
 e:s.e=0
 e':s'.e=0
 at_:s'.at_=s.at_
 xr:∃ xs:List dM,s.l=xs++s'.l/\xs.map Prod.fst=ts
theorem fU.trans {s s1 s2:RS}{a b:List (List UInt8)}(h:fU s a s1)(k:fU s1 b s2):fU s (a++b) s2:=by
 obtain⟨xs,hx,ou⟩:=h.xr;obtain⟨ys,hy,uJ⟩:=k.xr;exact⟨h.e,k.e',k.at_.trans h.at_,xs++ys,by rw[hx,hy,List.append_assoc],by rw[List.map_append,ou,uJ]⟩
theorem fU.nil {s s':RS}(h:fU s [] s'):s=s':=by
 obtain⟨xs,hx,ou⟩:=h.xr;have:xs=[]:=by simpa using ou
 subst this
 rcases s with⟨l,a,e⟩
 rcases s' with⟨l',a',e'⟩
 have h1:=h.e;have h2:=h.e';have h3:=h.at_;dsimp only at h1 h2 h3 hx;subst h1 h2 h3;rw[List.nil_append] at hx;rw[hx]
theorem fU.split {s s':RS}{a b:List (List UInt8)}(h:fU s (a++b) s'):∃ s1,fU s a s1/\fU s1 b s':=by
 obtain⟨xs,hx,ou⟩:=h.xr;obtain⟨ys,zs,rfl,hy,hz⟩:=List.map_eq_append_iff.1 ou;exact⟨⟨zs++s'.l,s.at_,0⟩,⟨h.e,rfl,rfl,ys,by rw[hx,List.append_assoc],hy⟩,⟨rfl,h.e',h.at_,zs,rfl,hz⟩⟩
theorem fU.head {s s':RS}{t:List UInt8}{ts:List (List UInt8)}(h:fU s (t::ts) s'):∃ (x:dM) (l:List dM),s=⟨x::l,s.at_,0⟩/\x.1=t/\fU ⟨l,s.at_,0⟩ ts s':=by
 obtain⟨xs,hx,ou⟩:=h.xr;cases xs with
 | nil=>simp at ou
 | cons x xs=>
  simp only[List.map_cons,List.cons.injEq] at ou;refine⟨x,xs++s'.l,?_,ou.1,rfl,h.e',h.at_,xs,rfl,ou.2⟩
  rcases s with⟨l,a,e⟩
  have h1:=h.e;dsimp only at h1 hx ⊢;rw[h1,hx];rfl
theorem sk {fin:Int}{right:List UInt8->Bool}{s:RS}(h:(cp fin right s).2.e=0):fU s [(cp fin right s).1] (cp fin right s).2/\right (cp fin right s).1=true:=by
 rcases s with⟨l,a,e⟩
 by_cases he:e=0
 ·subst he
  cases l with
  | nil=>rw[Mf] at h;exact absurd (show(2:Int)=0 from h) (by decide)
  | cons x l=>
   by_cases hr:right x.1=true
   ·rw[Gk hr];exact⟨⟨rfl,rfl,rfl,[x],rfl,rfl⟩,hr⟩
   ·rw[Me hr] at h;exact absurd (show(2:Int)=0 from h) (by decide)
 ·rw[Mg he] at h;exact absurd h he
theorem lY {fin:Int}{x:List UInt8}{s:RS}(h:(dC fin x s).e=0):fU s [x] (dC fin x s):=by
 obtain⟨h1,h2⟩:=sk (fin:=fin) (right:=fun y=>decide (y=x)) h;have h2:=of_decide_eq_true h2;rw[h2] at h1;exact h1
theorem kC {fin:Int}{right:List UInt8->Bool}{s s':RS}{t:List UInt8}{ts:List (List UInt8)}(hr:right t=true)(h:fU s (t::ts) s'):∃ s1,cp fin right s=(t,s1)/\fU s1 ts s':=by
 obtain⟨x,l,hs,hx,ha⟩:=h.head;refine⟨_,?_,ha⟩;rw[hs,Gk (by rw[hx];exact hr),hx]
theorem fL {fin:Int}{s s':RS}{t:List UInt8}{ts:List (List UInt8)}(h:fU s (t::ts) s'):∃ s1,dC fin t s=s1/\fU s1 ts s':=by
 obtain⟨s1,h1,h2⟩:=kC (fin:=fin) (right:=fun y=>decide (y=t)) (by simp) h;exact⟨s1,by unfold dC;rw[h1],h2⟩
structure Cut (s:RS)(ts:List (List UInt8)):Prop where
 e:s.e=0
 cut:∃ u:List (List UInt8),u≠[]/\s.l.map Prod.fst++u=ts
theorem Cut.head {s:RS}{t:List UInt8}{ts:List (List UInt8)}(h:Cut s (t::ts)):s=⟨[],s.at_,0⟩\/∃ (x:dM) (l:List dM),s=⟨x::l,s.at_,0⟩/\x.1=t/\Cut ⟨l,s.at_,0⟩ ts:=by
 obtain⟨u,hu,he⟩:=h.cut
 rcases s with⟨l,a,e⟩
 have h1:=h.e;dsimp only at h1 he ⊢;subst h1;cases l with
 | nil=>exact .inl rfl
 | cons x l=>
  simp only[List.map_cons,List.cons_append,List.cons.injEq] at he;exact .inr ⟨x,l,rfl,he.1,rfl,u,hu,he.2⟩
theorem Cut.split {s:RS}{a b:List (List UInt8)}(h:Cut s (a++b)):Cut s a\/∃ s1,fU s a s1/\Cut s1 b:=by
 obtain⟨u,hu,he⟩:=h.cut
 rcases List.append_eq_append_iff.1 he with⟨c,ov,pe⟩ | ⟨c,ov,pe⟩
 ·by_cases hc:c=[]
  ·subst hc
   rw[List.append_nil] at ov;rw[List.nil_append] at pe;refine .inr ⟨⟨[],s.at_,0⟩,⟨h.e,rfl,rfl,s.l,by simp,ov.symm⟩,rfl,b,?_,by simp⟩;rw[<- pe];exact hu
  ·exact .inl ⟨h.e,c,hc,ov.symm⟩
 ·obtain⟨ys,zs,hl,hy,hz⟩:=List.map_eq_append_iff.1 ov
  exact .inr ⟨⟨zs,s.at_,0⟩,⟨h.e,rfl,rfl,ys,hl,hy⟩,rfl,u,hu,by rw[hz];exact pe.symm⟩
theorem Mi (fin:Int):∀ (n:Nat) (s:RS),s.e≠0->(ji fin n s).2=s
 | 0,s,h=>Mh h
 | n+1,s,h=>by unfold ji;rw[if_pos h]
theorem Mj (fin:Int):∀ (n:Nat) (s:RS),s.e≠0->(fK fin n s).2=s
 | 0,s,h=>Mh h
 | n+1,s,h=>by unfold fK;rw[if_pos h]
def kD:Ob->List (List UInt8)
 | .none=>[]
 | .const n=>[Lib.itoa n]
 | .fix s=>[102,105,120]::[40]::s::[[41]]
 | .neg o=>[110,101,103]::[40]::(kD o++[[41]])
 | .add l r=>[97,100,100]::[40]::(kD l++([44]::(kD r++[[41]])))
 | .mul l r=>[109,117,108]::[40]::(kD l++([44]::(kD r++[[41]])))
 | .max l r=>[109,97,120]::[40]::(kD l++([44]::(kD r++[[41]])))
def jj:Tm->List (List UInt8)
 | .none=>[]
 | .zero=>[[122,101,114,111]]
 | .one s=>[111,110,101]::[40]::s::[[41]]
 | .gG t=>[103,105,118,101]::[40]::(jj t++[[41]])
 | .and l r=>[97,110,100]::[40]::(jj l++([44]::(jj r++[[41]])))
 | .or s l r=>[111,114]::[40]::s::[44]::(jj l++([44]::(jj r++[[41]])))
 | .scale o t=>[115,99,97,108,101]::[40]::(kD o++([44]::(jj t++[[41]])))
 | .when d t=>[119,104,101,110]::[40]::Lib.itoa d::[44]::(jj t++[[41]])
 | .cond o l r=>[105,102]::[40]::(kD o++([44]::(jj l++([44]::(jj r++[[41]])))))
theorem Us {x:List UInt8}(h:ie x=true):x=[102,105,120]\/x=[97,100,100]\/x=[110,101,103]\/x=[109,117,108]\/x=[109,97,120]\/(gi x).2=true:=by
 unfold ie at h;simp only[Bool.or_eq_true,beq_iff_eq] at h
 rcases h with h | h | h | h | h | h<;>simp[h]
theorem Ut {x:List UInt8}(h:(gi x).2=true):x≠[]/\x≠[102,105,120]/\x≠[110,101,103]/\x≠[97,100,100]/\x≠[109,117,108]/\x≠[109,97,120]:=by
 refine⟨?_,?_,?_,?_,?_,?_⟩<;>(rintro rfl;exact absurd h (by decide +kernel))
theorem Uu {x:List UInt8}(h:gz x=true):x=[122,101,114,111]\/x=[111,110,101]\/x=[103,105,118,101]\/x=[97,110,100]\/x=[111,114]\/x=[115,99,97,108,101]\/x=[119,104,101,110]\/x=[105,102]:=by
 unfold gz at h;simpa only[Bool.or_eq_true,beq_iff_eq] using h
theorem Uv {x:List UInt8}(h:lW x=true):(gi x).2=true/\0<=(gi x).1/\(gi x).1<=10000:=by
 unfold lW at h;simpa only[Bool.and_eq_true,decide_eq_true_eq] using h
def Mk (n:Nat)(rec:RS->Ob×RS):Prop:=∀ s,(rec s).2.e=0->fU s (kD (rec s).1) (rec s).2/\cZ (rec s).1=true/\dt (rec s).1<=n
def Gl (n:Nat)(rec:RS->Tm×RS):Prop:=∀ s,(rec s).2.e=0->fU s (jj (rec s).1) (rec s).2/\cJ (rec s).1=true/\cC (rec s).1<=n
theorem Gm {fin:Int}{n:Nat}{rec:RS->Ob×RS}(hr:Mk n rec){s:RS}(h:(ig fin rec s).2.2.e=0):
  fU s ([40]::(kD (ig fin rec s).1++([44]::(kD (ig fin rec s).2.1++[[41]])))) (ig fin rec s).2.2/\(cZ (ig fin rec s).1=true/\dt (ig fin rec s).1<=n)/\cZ (ig fin rec s).2.1=true/\dt (ig fin rec s).2.1<=n:=by
 unfold ig at h ⊢;dsimp only at h ⊢;have h5:=lY h;have h4:=hr _ h5.e;have h3:=lY h4.1.e;have h2:=hr _ h3.e;have h1:=lY h2.1.e;have:=h1.trans (h2.1.trans (h3.trans (h4.1.trans h5)));exact⟨by simpa using this,h2.2,h4.2⟩
theorem Ml (fin:Int):∀ n,Mk n (ji fin n)
 | 0,s,h=>by
  exfalso
  by_cases he:s.e=0
  ·have:(ji fin 0 s).2.e=5:=by show(kZ fin 5 s).e=5;unfold kZ;rw[if_pos he]
   rw[this] at h;exact absurd h (by decide)
  ·rw[Mi fin 0 s he] at h;exact he h
 | n+1,s,h=>by
  have ih:=Ml fin n;have he:s.e=0:=by
   refine Classical.byContradiction fun he=>?_;rw[Mi fin (n+1) s he] at h;exact he h
  unfold ji at h ⊢;rw[if_neg (by simpa using he)] at h ⊢
  by_cases jM:(cp fin ie s).1=[]
  ·rw[if_pos jM] at h
   have:=(sk h).2;rw[jM] at this;exact absurd this (by decide +kernel)
  rw[if_neg jM] at h ⊢;have step:∀ {o:Ob} {u:List (List UInt8)} {s':RS},fU (cp fin ie s).2 u s'->fU s ((cp fin ie s).1::u) s'/\ie (cp fin ie s).1=true:=fun ha=>by
   have t:=sk (fin:=fin) (right:=ie) (s:=s) ha.e;exact⟨t.1.trans ha,t.2⟩
  generalize hx:(cp fin ie s).1=x at h jM step ⊢;generalize kq:(cp fin ie s).2=s1 at h step ⊢;unfold sj at h ⊢
  by_cases c1:x=[102,105,120]
  ·rw[if_pos c1] at h ⊢
   dsimp only at h ⊢;have h3:=lY h;have h2:=sk h3.e;have h1:=lY h2.1.e;have:=h1.trans (h2.1.trans h3);refine⟨by have:=(step (o:=.none) this).1;rw[c1] at this;simpa[kD] using this,h2.2,by unfold dt;omega⟩
  rw[if_neg c1] at h ⊢
  by_cases c2:x=[110,101,103]
  ·rw[if_pos c2] at h ⊢
   dsimp only at h ⊢;have h3:=lY h;have h2:=ih _ h3.e;have h1:=lY h2.1.e;have:=h1.trans (h2.1.trans h3);refine⟨by have:=(step (o:=.none) this).1;rw[c2] at this;simpa[kD] using this,h2.2.1,by unfold dt;have:=h2.2.2;omega⟩
  rw[if_neg c2] at h ⊢
  by_cases c3:x=[97,100,100]
  ·rw[if_pos c3] at h ⊢
   dsimp only at h ⊢;have hp:=Gm ih h;refine⟨by have:=(step (o:=.none) hp.1).1;rw[c3] at this;exact this,by unfold cZ;rw[hp.2.1.1,hp.2.2.1];rfl,by unfold dt;have:=hp.2.1.2;have:=hp.2.2.2;omega⟩
  rw[if_neg c3] at h ⊢
  by_cases c4:x=[109,117,108]
  ·rw[if_pos c4] at h ⊢
   dsimp only at h ⊢;have hp:=Gm ih h;refine⟨by have:=(step (o:=.none) hp.1).1;rw[c4] at this;exact this,by unfold cZ;rw[hp.2.1.1,hp.2.2.1];rfl,by unfold dt;have:=hp.2.1.2;have:=hp.2.2.2;omega⟩
  rw[if_neg c4] at h ⊢
  by_cases c5:x=[109,97,120]
  ·rw[if_pos c5] at h ⊢
   dsimp only at h ⊢;have hp:=Gm ih h;refine⟨by have:=(step (o:=.none) hp.1).1;rw[c5] at this;exact this,by unfold cZ;rw[hp.2.1.1,hp.2.2.1];rfl,by unfold dt;have:=hp.2.1.2;have:=hp.2.2.2;omega⟩
  rw[if_neg c5] at h ⊢;dsimp only at h ⊢;have h1:=step (o:=.none) (u:=[]) (s':=s1) ⟨h,h,rfl,[],rfl,rfl⟩
  rcases Us h1.2 with t | t | t | t | t | t
  ·exact absurd t c1
  ·exact absurd t c3
  ·exact absurd t c2
  ·exact absurd t c4
  ·exact absurd t c5
  ·have hi:=Md t
   refine⟨?_,?_,by unfold dt;omega⟩
   ·unfold kD
    rw[<- hi.1];exact h1.1
   ·unfold cZ cI
    rw[decide_eq_true hi.2.1,decide_eq_true hi.2.2];rfl
theorem Gn {fin:Int}{n:Nat}{rec:RS->Tm×RS}(hr:Gl n rec){s:RS}(h:(k8 fin rec s).2.e=0):
  fU s (jj (k8 fin rec s).1++[[41]]) (k8 fin rec s).2/\cJ (k8 fin rec s).1=true/\cC (k8 fin rec s).1<=n:=by
 unfold k8 at h ⊢;dsimp only at h ⊢;have h5:=lY h;have h4:=hr _ h5.e;exact⟨h4.1.trans h5,h4.2⟩
theorem Gp {fin:Int}{n:Nat}{rec:RS->Tm×RS}(hr:Gl n rec){s:RS}(h:(ij fin rec s).2.2.e=0):
  fU s (jj (ij fin rec s).1++([44]::(jj (ij fin rec s).2.1++[[41]]))) (ij fin rec s).2.2/\(cJ (ij fin rec s).1=true/\cC (ij fin rec s).1<=n)/\cJ (ij fin rec s).2.1=true/\cC (ij fin rec s).2.1<=n:=by
 unfold ij at h ⊢;dsimp only at h ⊢;have h5:=lY h;have h4:=hr _ h5.e;have h3:=lY h4.1.e;have h2:=hr _ h3.e;have:=h2.1.trans (h3.trans (h4.1.trans h5));exact⟨by simpa using this,h2.2,h4.2⟩
theorem Mm (fin:Int):∀ n,Gl n (fK fin n)
 | 0,s,h=>by
  exfalso
  by_cases he:s.e=0
  ·have:(fK fin 0 s).2.e=5:=by show(kZ fin 5 s).e=5;unfold kZ;rw[if_pos he]
   rw[this] at h;exact absurd h (by decide)
  ·rw[Mj fin 0 s he] at h;exact he h
 | n+1,s,h=>by
  have ih:=Mm fin n;have zO:=Ml fin n;have he:s.e=0:=by
   refine Classical.byContradiction fun he=>?_;rw[Mj fin (n+1) s he] at h;exact he h
  unfold fK at h ⊢;rw[if_neg (by simpa using he)] at h ⊢
  by_cases jM:(cp fin gz s).1=[]
  ·rw[if_pos jM] at h
   have:=(sk h).2;rw[jM] at this;exact absurd this (by decide +kernel)
  rw[if_neg jM] at h ⊢;have step:∀ {u:List (List UInt8)} {s':RS},fU (cp fin gz s).2 u s'->fU s ((cp fin gz s).1::u) s'/\gz (cp fin gz s).1=true:=fun ha=>by
   have t:=sk (fin:=fin) (right:=gz) (s:=s) ha.e;exact⟨t.1.trans ha,t.2⟩
  generalize hx:(cp fin gz s).1=x at h jM step ⊢;generalize kq:(cp fin gz s).2=s1 at h step ⊢
  by_cases c0:x=[122,101,114,111]
  ·rw[if_pos c0] at h ⊢
   dsimp only at h ⊢;refine⟨by have:=(step (u:=[]) (s':=s1) ⟨h,h,rfl,[],rfl,rfl⟩).1;rw[c0] at this;exact this,rfl,by unfold cC;omega⟩
  rw[if_neg c0] at h ⊢;have step2:∀ {u:List (List UInt8)} {s':RS},fU (dC fin [40] s1) u s'->fU s (x::[40]::u) s'/\gz x=true:=fun ha=>step ((lY ha.e).trans ha);generalize gw:dC fin [40] s1=s2 at h step2 ⊢;unfold q8 at h ⊢
  by_cases c1:x=[111,110,101]
  ·rw[if_pos c1] at h ⊢
   dsimp only at h ⊢;have h3:=lY h;have h2:=sk h3.e;refine⟨by have:=(step2 (h2.1.trans h3)).1;rw[c1] at this;simpa[jj] using this,h2.2,by unfold cC;omega⟩
  rw[if_neg c1] at h ⊢
  by_cases c2:x=[103,105,118,101]
  ·rw[if_pos c2] at h ⊢
   dsimp only at h ⊢;have hp:=Gn ih h;refine⟨by have:=(step2 hp.1).1;rw[c2] at this;exact this,hp.2.1,by unfold cC;have:=hp.2.2;omega⟩
  rw[if_neg c2] at h ⊢
  by_cases c3:x=[97,110,100]
  ·rw[if_pos c3] at h ⊢
   dsimp only at h ⊢;have hp:=Gp ih h;refine⟨by have:=(step2 hp.1).1;rw[c3] at this;exact this,by unfold cJ;rw[hp.2.1.1,hp.2.2.1];rfl,by unfold cC;have:=hp.2.1.2;have:=hp.2.2.2;omega⟩
  rw[if_neg c3] at h ⊢
  by_cases c4:x=[111,114]
  ·rw[if_pos c4] at h ⊢
   dsimp only at h ⊢;have hp:=Gp ih h;have h2:=lY hp.1.e;have h1:=sk h2.e;refine⟨by have:=(step2 (h1.1.trans (h2.trans hp.1))).1;rw[c4] at this;simpa[jj] using this,by unfold cJ;rw[hp.2.1.1,hp.2.2.1,h1.2];rfl,by unfold cC;have:=hp.2.1.2;have:=hp.2.2.2;omega⟩
  rw[if_neg c4] at h ⊢
  by_cases c5:x=[115,99,97,108,101]
  ·rw[if_pos c5] at h ⊢
   dsimp only at h ⊢;have hp:=Gn ih h;have h2:=lY hp.1.e;have h1:=zO _ h2.e;refine⟨by have:=(step2 (h1.1.trans (h2.trans hp.1))).1;rw[c5] at this;simpa[jj] using this,by unfold cJ;rw[hp.2.1,h1.2.1];rfl,by unfold cC;have:=hp.2.2;have:=h1.2.2;omega⟩
  rw[if_neg c5] at h ⊢
  by_cases c6:x=[119,104,101,110]
  ·rw[if_pos c6] at h ⊢
   dsimp only at h ⊢;have hp:=Gn ih h;have h2:=lY hp.1.e;have h1:=sk h2.e;have hd:=Uv h1.2;have hi:=Md hd.1;refine⟨?_,by unfold cJ;rw[hp.2.1,decide_eq_true hd.2.1,decide_eq_true hd.2.2];rfl,by unfold cC;have:=hp.2.2;omega⟩;have:=(step2 (h1.1.trans (h2.trans hp.1))).1;rw[c6] at this;unfold jj;rw[<- hi.1];simpa using this
  rw[if_neg c6] at h ⊢;dsimp only at h ⊢;have hp:=Gp ih h;have h2:=lY hp.1.e;have h1:=zO _ h2.e;have h0:=step2 (h1.1.trans (h2.trans hp.1));have c7:x=[105,102]:=by
   rcases Uu h0.2 with t | t | t | t | t | t | t | t
   ·exact absurd t c0
   ·exact absurd t c1
   ·exact absurd t c2
   ·exact absurd t c3
   ·exact absurd t c4
   ·exact absurd t c5
   ·exact absurd t c6
   ·exact t
  refine⟨by have:=h0.1;rw[c7] at this;simpa[jj] using this,by unfold cJ;rw[hp.2.1.1,hp.2.2.1,h1.2.1];rfl,by unfold cC;have:=hp.2.1.2;have:=hp.2.2.2;have:=h1.2.2;omega⟩
theorem Mn (fin:Int):∀ (n:Nat) (o:Ob),cZ o=true->dt o<=n->∀ {s s':RS},fU s (kD o) s'->ji fin n s=(o,s')
 | 0,o,hf,hd,s,s',h=>by cases o<;>simp[cZ,dt] at hf hd
 | n+1,o,hf,hd,s,s',h=>by
  have ih:=Mn fin n;have he:=h.e;unfold ji;rw[if_neg (by simpa using he)];cases o with
  | none=>cases hf
  | const k=>
   have hv:=FW hf;have hn:=L9 hv.1 hv.2;have hw:ie (Lib.itoa k)=true:=by unfold ie;rw[hn];rfl
   obtain⟨s1,e1,h⟩:=kC (fin:=fin) hw h;have:=h.nil;subst this;have ay:=Ut (x:=Lib.itoa k) (by rw[hn]);rw[e1];dsimp only;rw[if_neg ay.1];unfold sj;rw[if_neg ay.2.1,if_neg ay.2.2.1,if_neg ay.2.2.2.1,if_neg ay.2.2.2.2.1,if_neg ay.2.2.2.2.2,hn]
  | fix x=>
   obtain⟨s1,e1,h⟩:=kC (fin:=fin) (right:=ie) (by decide +kernel) h;obtain⟨s2,e2,h⟩:=fL (fin:=fin) h;obtain⟨s3,e3,h⟩:=kC (fin:=fin) (right:=fm) hf h;obtain⟨s4,e4,h⟩:=fL (fin:=fin) h;have:=h.nil;subst this;rw[e1];dsimp only;rw[if_neg (by decide)];unfold sj;rw[if_pos rfl,e2,e3];dsimp only;rw[e4]
  | neg x=>
   have Gq:dt x<=n:=by unfold dt at hd;omega
   obtain⟨s1,e1,h⟩:=kC (fin:=fin) (right:=ie) (by decide +kernel) h;obtain⟨s2,e2,h⟩:=fL (fin:=fin) h;obtain⟨s3,ha,h⟩:=h.split;obtain⟨s4,e4,h⟩:=fL (fin:=fin) h;have:=h.nil;subst this;rw[e1];dsimp only;rw[if_neg (by decide)];unfold sj;rw[if_neg (by decide),if_pos rfl,e2,ih x hf Gq ha];dsimp only;rw[e4]
  | add l r=>
   simp only[cZ,Bool.and_eq_true] at hf;have hl:dt l<=n:=by unfold dt at hd;omega
   have hr:dt r<=n:=by unfold dt at hd;omega
   obtain⟨s1,e1,h⟩:=kC (fin:=fin) (right:=ie) (by decide +kernel) h;obtain⟨s2,e2,h⟩:=fL (fin:=fin) h;obtain⟨s3,ha,h⟩:=h.split;obtain⟨s4,e4,h⟩:=fL (fin:=fin) h;obtain⟨s5,hb,h⟩:=h.split;obtain⟨s6,e6,h⟩:=fL (fin:=fin) h;have:=h.nil;subst this;rw[e1];dsimp only;rw[if_neg (by decide)];unfold sj;rw[if_neg (by decide),if_neg (by decide),if_pos rfl];unfold ig;rw[e2,ih l hf.1 hl ha];dsimp only;rw[e4,ih r hf.2 hr hb];dsimp only;rw[e6]
  | mul l r=>
   simp only[cZ,Bool.and_eq_true] at hf;have hl:dt l<=n:=by unfold dt at hd;omega
   have hr:dt r<=n:=by unfold dt at hd;omega
   obtain⟨s1,e1,h⟩:=kC (fin:=fin) (right:=ie) (by decide +kernel) h;obtain⟨s2,e2,h⟩:=fL (fin:=fin) h;obtain⟨s3,ha,h⟩:=h.split;obtain⟨s4,e4,h⟩:=fL (fin:=fin) h;obtain⟨s5,hb,h⟩:=h.split;obtain⟨s6,e6,h⟩:=fL (fin:=fin) h;have:=h.nil;subst this;rw[e1];dsimp only;rw[if_neg (by decide)];unfold sj;rw[if_neg (by decide),if_neg (by decide),if_neg (by decide),if_pos rfl];unfold ig;rw[e2,ih l hf.1 hl ha];dsimp only;rw[e4,ih r hf.2 hr hb];dsimp only;rw[e6]
  | max l r=>
   simp only[cZ,Bool.and_eq_true] at hf;have hl:dt l<=n:=by unfold dt at hd;omega
   have hr:dt r<=n:=by unfold dt at hd;omega
   obtain⟨s1,e1,h⟩:=kC (fin:=fin) (right:=ie) (by decide +kernel) h;obtain⟨s2,e2,h⟩:=fL (fin:=fin) h;obtain⟨s3,ha,h⟩:=h.split;obtain⟨s4,e4,h⟩:=fL (fin:=fin) h;obtain⟨s5,hb,h⟩:=h.split;obtain⟨s6,e6,h⟩:=fL (fin:=fin) h;have:=h.nil;subst this;rw[e1];dsimp only;rw[if_neg (by decide)];unfold sj;rw[if_neg (by decide),if_neg (by decide),if_neg (by decide),if_neg (by decide),if_pos rfl];unfold ig;rw[e2,ih l hf.1 hl ha];dsimp only;rw[e4,ih r hf.2 hr hb];dsimp only;rw[e6]
theorem Gr {fin:Int}{rec:RS->Tm×RS}{t:Tm}{s s1 s2:RS}(h:rec s=(t,s1))(e:dC fin [41] s1=s2):k8 fin rec s=(t,s2):=by
 unfold k8;rw[h];dsimp only;rw[e]
theorem Gs {fin:Int}{rec:RS->Tm×RS}{l r:Tm}{s s1 s2 s3 s4:RS}(h:rec s=(l,s1))(e:dC fin [44] s1=s2)(h2:rec s2=(r,s3))(e2:dC fin [41] s3=s4):ij fin rec s=(l,r,s4):=by
 unfold ij;rw[h];dsimp only;rw[e,h2];dsimp only;rw[e2]
theorem Mo (fin:Int):∀ (n:Nat) (t:Tm),cJ t=true->cC t<=n->∀ {s s':RS},fU s (jj t) s'->fK fin n s=(t,s')
 | 0,t,hf,hd,s,s',h=>by cases t<;>simp[cJ,cC] at hf hd
 | n+1,t,hf,hd,s,s',h=>by
  have ih:=Mo fin n;have zO:=Mn fin n;have he:=h.e;unfold fK;rw[if_neg (by simpa using he)];cases t with
  | none=>cases hf
  | zero=>
   obtain⟨s1,e1,h⟩:=kC (fin:=fin) (right:=gz) (by decide) h;have:=h.nil;subst this;rw[e1];dsimp only;rw[if_neg (by decide),if_pos rfl]
  | one x=>
   obtain⟨s1,e1,h⟩:=kC (fin:=fin) (right:=gz) (by decide) h;obtain⟨s2,e2,h⟩:=fL (fin:=fin) h;obtain⟨s3,e3,h⟩:=kC (fin:=fin) (right:=fm) hf h;obtain⟨s4,e4,h⟩:=fL (fin:=fin) h;have:=h.nil;subst this;rw[e1];dsimp only;rw[if_neg (by decide),if_neg (by decide),e2];unfold q8;rw[if_pos rfl,e3];dsimp only;rw[e4]
  | gG x=>
   have Gq:cC x<=n:=by unfold cC at hd;omega
   obtain⟨s1,e1,h⟩:=kC (fin:=fin) (right:=gz) (by decide) h;obtain⟨s2,e2,h⟩:=fL (fin:=fin) h;obtain⟨s3,ha,h⟩:=h.split;obtain⟨s4,e4,h⟩:=fL (fin:=fin) h;have:=h.nil;subst this;rw[e1];dsimp only;rw[if_neg (by decide),if_neg (by decide),e2];unfold q8;rw[if_neg (by decide),if_pos rfl,Gr (ih x hf Gq ha) e4]
  | and l r=>
   simp only[cJ,Bool.and_eq_true] at hf;have hl:cC l<=n:=by unfold cC at hd;omega
   have hr:cC r<=n:=by unfold cC at hd;omega
   obtain⟨s1,e1,h⟩:=kC (fin:=fin) (right:=gz) (by decide) h;obtain⟨s2,e2,h⟩:=fL (fin:=fin) h;obtain⟨s3,ha,h⟩:=h.split;obtain⟨s4,e4,h⟩:=fL (fin:=fin) h;obtain⟨s5,hb,h⟩:=h.split;obtain⟨s6,e6,h⟩:=fL (fin:=fin) h;have:=h.nil;subst this;rw[e1];dsimp only;rw[if_neg (by decide),if_neg (by decide),e2];unfold q8;rw[if_neg (by decide),if_neg (by decide),if_pos rfl,Gs (ih l hf.1 hl ha) e4 (ih r hf.2 hr hb) e6]
  | or x l r=>
   simp only[cJ,Bool.and_eq_true] at hf;have hl:cC l<=n:=by unfold cC at hd;omega
   have hr:cC r<=n:=by unfold cC at hd;omega
   obtain⟨s1,e1,h⟩:=kC (fin:=fin) (right:=gz) (by decide) h;obtain⟨s2,e2,h⟩:=fL (fin:=fin) h;obtain⟨s7,e7,h⟩:=kC (fin:=fin) (right:=fm) hf.1 h;obtain⟨s8,e8,h⟩:=fL (fin:=fin) h;obtain⟨s3,ha,h⟩:=h.split;obtain⟨s4,e4,h⟩:=fL (fin:=fin) h;obtain⟨s5,hb,h⟩:=h.split;obtain⟨s6,e6,h⟩:=fL (fin:=fin) h;have:=h.nil;subst this;rw[e1];dsimp only;rw[if_neg (by decide),if_neg (by decide),e2];unfold q8;rw[if_neg (by decide),if_neg (by decide),if_neg (by decide),if_pos rfl,e7];dsimp only;rw[e8,Gs (ih l hf.2.1 hl ha) e4 (ih r hf.2.2 hr hb) e6]
  | scale o x=>
   simp only[cJ,Bool.and_eq_true] at hf;have hl:dt o<=n:=by unfold cC at hd;omega
   have hr:cC x<=n:=by unfold cC at hd;omega
   obtain⟨s1,e1,h⟩:=kC (fin:=fin) (right:=gz) (by decide) h;obtain⟨s2,e2,h⟩:=fL (fin:=fin) h;obtain⟨s3,ha,h⟩:=h.split;obtain⟨s4,e4,h⟩:=fL (fin:=fin) h;obtain⟨s5,hb,h⟩:=h.split;obtain⟨s6,e6,h⟩:=fL (fin:=fin) h;have:=h.nil;subst this;rw[e1];dsimp only;rw[if_neg (by decide),if_neg (by decide),e2];unfold q8;rw[if_neg (by decide),if_neg (by decide),if_neg (by decide),if_neg (by decide),if_pos rfl,zO o hf.1 hl ha];dsimp only;rw[e4,Gr (ih x hf.2 hr hb) e6]
  | when d x=>
   simp only[cJ,Bool.and_eq_true,decide_eq_true_eq] at hf;have hr:cC x<=n:=by unfold cC at hd;omega
   have hn:=L9 (n:=d) (by omega) (by omega);have sq:lW (Lib.itoa d)=true:=by unfold lW;rw[hn];simp[hf.1.1,hf.1.2]
   obtain⟨s1,e1,h⟩:=kC (fin:=fin) (right:=gz) (by decide) h;obtain⟨s2,e2,h⟩:=fL (fin:=fin) h;obtain⟨s3,e3,h⟩:=kC (fin:=fin) (right:=lW) sq h;obtain⟨s4,e4,h⟩:=fL (fin:=fin) h;obtain⟨s5,hb,h⟩:=h.split;obtain⟨s6,e6,h⟩:=fL (fin:=fin) h;have:=h.nil;subst this;rw[e1];dsimp only;rw[if_neg (by decide),if_neg (by decide),e2];unfold q8;rw[if_neg (by decide),if_neg (by decide),if_neg (by decide),if_neg (by decide),if_neg (by decide),if_pos rfl,e3];dsimp only;rw[e4,Gr (ih x hf.2 hr hb) e6,hn]
  | cond o l r=>
   simp only[cJ,Bool.and_eq_true] at hf;have ho:dt o<=n:=by unfold cC at hd;omega
   have hl:cC l<=n:=by unfold cC at hd;omega
   have hr:cC r<=n:=by unfold cC at hd;omega
   obtain⟨s1,e1,h⟩:=kC (fin:=fin) (right:=gz) (by decide) h;obtain⟨s2,e2,h⟩:=fL (fin:=fin) h;obtain⟨s7,hc,h⟩:=h.split;obtain⟨s8,e8,h⟩:=fL (fin:=fin) h;obtain⟨s3,ha,h⟩:=h.split;obtain⟨s4,e4,h⟩:=fL (fin:=fin) h;obtain⟨s5,hb,h⟩:=h.split;obtain⟨s6,e6,h⟩:=fL (fin:=fin) h;have:=h.nil;subst this;rw[e1];dsimp only;rw[if_neg (by decide),if_neg (by decide),e2];unfold q8;rw[if_neg (by decide),if_neg (by decide),if_neg (by decide),if_neg (by decide),if_neg (by decide),if_neg (by decide),zO o hf.1 ho hc];dsimp only;rw[e8,Gs (ih l hf.2.1 hl ha) e4 (ih r hf.2.2 hr hb) e6]
theorem qg (b:UInt8):UInt8.ofNat b.toNat=b:=UInt8.ofNat_toNat
theorem Uw (l:List UInt8)(ay:l≠[])(h:(ib l).1≠65533):enc ((ib l).1:Int)=l.take (ib l).2:=by
 have j7:=E0 l;rw[E3 _ j7];cases l with
 | nil=>exact absurd rfl ay
 | cons b0 t=>
  have sr:=b0.toNat_lt;simp only[ib,Utf8.decode,uO,ku,dU,Nat.zero_add,List.getD_cons_zero,List.length_cons] at h j7 ⊢
  by_cases c1:b0.toNat<128
  ·simp only[if_pos c1] at h j7 ⊢
   rw[qg];rfl
  simp only[if_neg c1] at h j7 ⊢;cases t with
  | nil=>simp[Utf8.runeError] at h
  | cons b1 t=>
   have au:=b1.toNat_lt;simp only[List.getD_cons_succ,List.getD_cons_zero,List.length_cons] at h j7 ⊢
   by_cases c2:(b0.toNat / 32==6&&(decide (1<t.length+1+1)&&b1.toNat / 64==2))=true
   ·simp only[if_pos c2] at h j7 ⊢
    simp only[Bool.and_eq_true,beq_iff_eq,decide_eq_true_eq] at c2
    by_cases c3:b0.toNat % 32 * 64+b1.toNat % 64 >= 128
    ·simp only[if_pos c3] at h j7 ⊢
     rw[if_neg (by omega),if_pos (by omega)];rw[show 192+(b0.toNat % 32 * 64+b1.toNat % 64) / 64=b0.toNat by omega,show 128+(b0.toNat % 32 * 64+b1.toNat % 64) % 64=b1.toNat by omega,qg,qg];rfl
    ·simp only[if_neg c3] at h;exact absurd rfl h
   simp only[if_neg c2] at h j7 ⊢;cases t with
   | nil=>simp[Utf8.runeError] at h
   | cons b2 t=>
    have aI:=b2.toNat_lt;simp only[List.getD_cons_succ,List.getD_cons_zero,List.length_cons] at h j7 ⊢
    by_cases c4:(b0.toNat / 16==14&&(decide (1<t.length+1+1+1)&&b1.toNat / 64==2)&&(decide (2<t.length+1+1+1)&&b2.toNat / 64==2))=true
    ·simp only[if_pos c4] at h j7 ⊢
     simp only[Bool.and_eq_true,beq_iff_eq,decide_eq_true_eq] at c4
     by_cases c5:(decide (b0.toNat % 16 * 4096+b1.toNat % 64 * 64+b2.toNat % 64 >= 2048)&&Utf8.valid ((b0.toNat % 16 * 4096+b1.toNat % 64 * 64+b2.toNat % 64:Nat):Int))=true
     ·simp only[if_pos c5] at h j7 ⊢
      simp only[Bool.and_eq_true,decide_eq_true_eq] at c5;rw[if_neg (by omega),if_neg (by omega),if_pos (by omega)];rw[show 224+(b0.toNat % 16 * 4096+b1.toNat % 64 * 64+b2.toNat % 64) / 4096=b0.toNat by omega,show 128+(b0.toNat % 16 * 4096+b1.toNat % 64 * 64+b2.toNat % 64) / 64 % 64=b1.toNat by omega,
       show 128+(b0.toNat % 16 * 4096+b1.toNat % 64 * 64+b2.toNat % 64) % 64=b2.toNat by omega,qg,qg,qg];rfl
     ·simp only[if_neg c5] at h;exact absurd rfl h
    simp only[if_neg c4] at h j7 ⊢;cases t with
    | nil=>simp[Utf8.runeError] at h
    | cons b3 t=>
     have aR:=b3.toNat_lt;simp only[List.getD_cons_zero,List.length_cons] at h j7 ⊢
     by_cases c6:(b0.toNat / 8==30&&(decide (1<t.length+1+1+1+1)&&b1.toNat / 64==2)&&(decide (2<t.length+1+1+1+1)&&b2.toNat / 64==2)&&(decide (3<t.length+1+1+1+1)&&b3.toNat / 64==2))=true
     ·simp only[if_pos c6] at h j7 ⊢
      simp only[Bool.and_eq_true,beq_iff_eq,decide_eq_true_eq] at c6
      by_cases c7:(decide (b0.toNat % 8 * 262144+b1.toNat % 64 * 4096+b2.toNat % 64 * 64+b3.toNat % 64 >= 65536)&&Utf8.valid ((b0.toNat % 8 * 262144+b1.toNat % 64 * 4096+b2.toNat % 64 * 64+b3.toNat % 64:Nat):Int))=true
      ·simp only[if_pos c7] at h j7 ⊢
       simp only[Bool.and_eq_true,decide_eq_true_eq] at c7;rw[if_neg (by omega),if_neg (by omega),if_neg (by omega)];rw[show 240+(b0.toNat % 8 * 262144+b1.toNat % 64 * 4096+b2.toNat % 64 * 64+b3.toNat % 64) / 262144=b0.toNat by omega,show 128+(b0.toNat % 8 * 262144+b1.toNat % 64 * 4096+b2.toNat % 64 * 64+b3.toNat % 64) / 4096 % 64=b1.toNat by omega,
        show 128+(b0.toNat % 8 * 262144+b1.toNat % 64 * 4096+b2.toNat % 64 * 64+b3.toNat % 64) / 64 % 64=b2.toNat by omega,show 128+(b0.toNat % 8 * 262144+b1.toNat % 64 * 4096+b2.toNat % 64 * 64+b3.toNat % 64) % 64=b3.toNat by omega,qg,qg,qg,qg];rfl
      ·simp only[if_neg c7] at h;exact absurd rfl h
     ·simp only[if_neg c6] at h;exact absurd rfl h
theorem Mp:∀ (n:Nat) (l:List UInt8),l.length<=n->(∀ r∈cK l,r≠65533)->ez (cK l)=l
 | 0,l,h,_=>by
  have:l=[]:=List.eq_nil_of_length_eq_zero (by omega);subst this;rfl
 | n+1,l,h,hr=>by
  by_cases hl:l=[]
  ·subst hl;rfl
  ·rw[yU l hl] at hr ⊢
   have h1:=wR l;have hd:(l.drop (ib l).2).length=l.length - (ib l).2:=List.length_drop;rw[tj,Uw l hl (fun t=>hr _ (List.mem_cons_self ..) (by omega)),Mp n _ (by omega) (fun r hm=>hr r (List.mem_cons_of_mem _ hm)),List.take_append_drop]
theorem Ux (l:List UInt8)(h:∀ r∈cK l,r≠65533):ez (cK l)=l:=Mp l.length l (Nat.le_refl _) h
theorem Mq {r:Int}(h:isLet r=true):kd r=97:=by unfold kd;rw[if_pos h]
theorem Uy {r:Int}(h:isLet r=true):r≠65533/\r≠32:=by
 refine⟨?_,?_⟩<;>(rintro rfl;exact absurd h (by decide))
theorem Gt {b:UInt8}(h:b.toNat<128):enc (b.toNat:Int)=[b]:=by
 rw[E3 _ (by unfold j3;omega),if_pos h,qg]
theorem Mr:∀ (l:List UInt8),(∀ b∈l,b.toNat<128)->ez (l.map fun b=>(b.toNat:Int))=l
 | [],_=>rfl
 | b::l,h=>by rw[List.map_cons,tj,Gt (h b (by simp)),Mr l (fun c hc=>h c (by simp[hc]))];rfl
theorem Ms (W:List dM)(a:Int)(X:List Int):∀ (ls:List Int) (t:List UInt8) (at_:Int),(∀ r∈ls,kd r=97)->eS (W++[(t,a)]) at_ true (ls++X)=eS (W++[(t++ez ls,a)]) (at_+ls.length) true X
 | [],t,at_,_=>by simp[So]
 | r::ls,t,at_,h=>by
  have h1:=h r (by simp);rw[List.cons_append]
  conv=>lhs;unfold eS
  rw[h1,if_neg (by decide),if_pos ⟨rfl,rfl⟩,Gb,Ms W a X ls _ _ (fun x hx=>h x (by simp[hx])),tj,List.append_assoc]
  congr 1
  simp only[List.length_cons];omega
theorem Uz (W:List dM)(X:List Int)(wd:List Int)(at_:Int)(ay:wd≠[])(h:∀ r∈wd,kd r=97):eS W at_ false (wd++X)=eS (W++[(ez wd,at_+1)]) (at_+wd.length) true X:=by
 cases wd with
 | nil=>exact absurd rfl ay
 | cons r ls=>
  have h1:=h r (by simp);rw[List.cons_append]
  conv=>lhs;unfold eS
  rw[h1,if_neg (by decide),if_neg (by simp),if_pos (by decide),show((97:Int)==97)=true from rfl,Ms W _ X ls _ _ (fun x hx=>h x (by simp[hx])),tj]
  congr 1
  simp only[List.length_cons];omega
theorem UA (W:List dM)(X:List Int)(c:Int)(at_:Int)(run:Bool)(h:kd c=40):eS W at_ run (c::X)=eS (W++[(enc c,at_+1)]) (at_+1) false X:=by
 conv=>lhs;unfold eS
 rw[h,if_neg (by decide),if_neg (by simp),if_pos (by decide)];rfl
def ik (b:Bool)(bs:List UInt8)(ts:List (List UInt8)):Prop:=
 ∃ R:List Int,(∀ r∈R,j3 r/\r≠32)/\ez R=bs/\∀ (W:List dM) (at_:Int),∃ (ys:List dM) (run:Bool),ys.map Prod.fst=ts/\(b=true->run=false)/\∀ X,eS W at_ false (R++X)=eS (W++ys) (at_+R.length) run X
theorem ik.app {b:Bool}{x y:List UInt8}{s t:List (List UInt8)}(h:ik true x s)(k:ik b y t):ik b (x++y) (s++t):=by
 obtain⟨R,h1,h2,h3⟩:=h;obtain⟨Q,k1,k2,k3⟩:=k;refine⟨R++Q,fun r hr=>(List.mem_append.1 hr).elim (h1 r) (k1 r),by rw[K2,h2,k2],fun W at_=>?_⟩;obtain⟨ys,run,a1,a2,a3⟩:=h3 W at_;obtain⟨zs,UB,b1,b2,b3⟩:=k3 (W++ys) (at_+R.length);have:=a2 rfl;subst this;refine⟨ys++zs,UB,by rw[List.map_append,a1,b1],b2,fun X=>?_⟩;rw[List.append_assoc,a3,b3,List.append_assoc,List.length_append]
 congr 1
 omega
theorem ik.sign {b:Bool}{x:List UInt8}{s:List (List UInt8)}(h:ik b x s){c:UInt8}(hc:c=40\/c=41\/c=44):ik true (x++[c]) (s++[[c]]):=by
 have hk:c.toNat<128/\kd (c.toNat:Int)=40/\c.toNat≠32:=by rcases hc with rfl | rfl | rfl<;>decide
 obtain⟨R,h1,h2,h3⟩:=h;refine⟨R++[(c.toNat:Int)],fun r hr=>?_,by rw[K2,h2,Sn,Gt hk.1],fun W at_=>?_⟩
 ·rcases List.mem_append.1 hr with hr | hr
  ·exact h1 r hr
  ·have:=List.mem_singleton.1 hr
   subst this;exact⟨by unfold j3;omega,by omega⟩
 ·obtain⟨ys,run,a1,a2,a3⟩:=h3 W at_
  refine⟨ys++[([c],at_+R.length+1)],false,by rw[List.map_append,a1];rfl,fun _=>rfl,fun X=>?_⟩;rw[List.append_assoc,a3,List.singleton_append,UA _ _ _ _ _ hk.2.1,Gt hk.1,List.append_assoc,List.length_append]
  congr 1
  simp only[List.length_singleton];omega
theorem Mt (wd:List Int)(ay:wd≠[])(h:∀ r∈wd,kd r=97/\j3 r):ik false (ez wd) [ez wd]:=
 ⟨wd,fun r hr=>⟨(h r hr).2,by rintro rfl;exact absurd (h 32 hr).1 (by decide)⟩,rfl,fun W at_=>⟨[(ez wd,at_+1)],true,rfl,(fun t=>nomatch t),fun X=>Uz W X wd at_ ay fun r hr=>(h r hr).1⟩⟩
theorem nA (wd:List UInt8)(ay:wd≠[])(h:∀ b∈wd,b.toNat<128/\kd (b.toNat:Int)=97):ik false wd [wd]:=by
 have:=Mt (wd.map fun b=>(b.toNat:Int)) (by simp[ay]) fun r hr=>by
  obtain⟨b,hb,rfl⟩:=List.mem_map.1 hr;exact⟨(h b hb).2,by unfold j3;have:=(h b hb).1;omega⟩
 rwa[Mr wd fun b hb=>(h b hb).1] at this
theorem Mu:∀ (rs:List Int) (n:Nat),kv n rs=true->∀ r∈rs,isLet r=true
 | [],_,_,r,hr=>by cases hr
 | a::rs,n,h,r,hr=>by
  unfold kv at h;split at h
  ·cases h
  rename_i ha;split at h
  ·cases h
  split at h
  ·cases h
  rcases List.mem_cons.1 hr with rfl | hr
  ·simpa using ha
  ·exact Mu rs (n+1) h r hr
theorem Gu {s:List UInt8}(h:fm s=true):ik false s [s]:=by
 have hl:=Mu _ _ h;have ay:cK s≠[]:=fun t=>by
  have:kv 0 (cK s)=true:=h;rw[t] at this;exact absurd this (by decide)
 have:=Mt (cK s) ay fun r hr=>⟨Mq (hl r hr),Sm s r hr⟩;rwa[Ux s fun r hr=>(Uy (hl r hr)).1] at this
theorem Mv {c:UInt8}(h:gT c=true):c.toNat<128/\kd (c.toNat:Int)=97:=by
 have:=L7 h;refine⟨by omega,Mq ?_⟩;unfold isLet uP;rw[decide_eq_true (show(48:Int)<=(c.toNat:Int) by omega),decide_eq_true (show(c.toNat:Int)<=57 by omega)];simp
theorem Mw (n:Int):ik false (Lib.itoa n) [Lib.itoa n]:=by
 refine nA _ ?_ ?_
 ·unfold Lib.itoa
  split
  ·simp
  ·exact(xq _).1
 ·unfold Lib.itoa
  split
  ·intro b hb
   rcases List.mem_cons.1 hb with rfl | hb
   ·decide
   ·exact Mv ((xq _).2.1 b hb)
  ·exact fun b hb=>Mv ((xq _).2.1 b hb)
theorem Cp {b:Bool}{wd x:List UInt8}{s:List (List UInt8)}(hw:ik false wd [wd])(h:ik b x s):ik true (gS wd [x]) (wd::[40]::(s++[[41]])):=by
 have:=((hw.sign (c:=40) (.inl rfl)).app h).sign (c:=41) (.inr (.inl rfl));unfold gS;rw[LK];simpa using this
theorem xu {b d:Bool}{wd x y:List UInt8}{s t:List (List UInt8)}(hw:ik false wd [wd])(h:ik b x s)(k:ik d y t):ik true (gS wd [x,y]) (wd::[40]::(s++([44]::(t++[[41]])))):=by
 have:=((((hw.sign (c:=40) (.inl rfl)).app h).sign (c:=44) (.inr (.inr rfl))).app k).sign (c:=41) (.inr (.inl rfl));unfold gS;rw[LL];simpa using this
theorem Mx {b d f:Bool}{wd x y z:List UInt8}{s t u:List (List UInt8)}(hw:ik false wd [wd])(h:ik b x s)(k:ik d y t)(m:ik f z u):
  ik true (gS wd [x,y,z]) (wd::[40]::(s++([44]::(t++([44]::(u++[[41]])))))):=by
 have:=((((((hw.sign (c:=40) (.inl rfl)).app h).sign (c:=44) (.inr (.inr rfl))).app k).sign (c:=44) (.inr (.inr rfl))).app m).sign (c:=41) (.inr (.inl rfl));unfold gS;rw[LM];simpa using this
theorem ss:∀ o:Ob,cZ o=true->∃ b,ik b (gh o) (kD o)
 | .none,h=>by cases h
 | .const n,_=>⟨_,Mw n⟩
 | .fix s,h=>⟨_,Cp (nA _ (by decide) (by decide)) (Gu h)⟩
 | .neg o,h=>by
  obtain⟨b,hb⟩:=ss o h;exact⟨_,Cp (nA _ (by decide) (by decide)) hb⟩
 | .add l r,h=>by
  simp only[cZ,Bool.and_eq_true] at h;obtain⟨b,hb⟩:=ss l h.1;obtain⟨c,hc⟩:=ss r h.2;exact⟨_,xu (nA _ (by decide) (by decide)) hb hc⟩
 | .mul l r,h=>by
  simp only[cZ,Bool.and_eq_true] at h;obtain⟨b,hb⟩:=ss l h.1;obtain⟨c,hc⟩:=ss r h.2;exact⟨_,xu (nA _ (by decide) (by decide)) hb hc⟩
 | .max l r,h=>by
  simp only[cZ,Bool.and_eq_true] at h;obtain⟨b,hb⟩:=ss l h.1;obtain⟨c,hc⟩:=ss r h.2;exact⟨_,xu (nA _ (by decide) (by decide)) hb hc⟩
theorem q9:∀ t:Tm,cJ t=true->∃ b,ik b (eh t) (jj t)/\(t≠.zero->b=true)
 | .none,h=>by cases h
 | .zero,_=>⟨_,nA _ (by decide) (by decide),fun t=>absurd rfl t⟩
 | .one s,h=>⟨_,Cp (nA _ (by decide) (by decide)) (Gu h),fun _=>rfl⟩
 | .gG t,h=>by
  obtain⟨b,hb,_⟩:=q9 t h;exact⟨_,Cp (nA _ (by decide) (by decide)) hb,fun _=>rfl⟩
 | .and l r,h=>by
  simp only[cJ,Bool.and_eq_true] at h;obtain⟨b,hb,_⟩:=q9 l h.1;obtain⟨c,hc,_⟩:=q9 r h.2;exact⟨_,xu (nA _ (by decide) (by decide)) hb hc,fun _=>rfl⟩
 | .or s l r,h=>by
  simp only[cJ,Bool.and_eq_true] at h;obtain⟨b,hb,_⟩:=q9 l h.2.1;obtain⟨c,hc,_⟩:=q9 r h.2.2;exact⟨_,Mx (nA _ (by decide) (by decide)) (Gu h.1) hb hc,fun _=>rfl⟩
 | .scale o t,h=>by
  simp only[cJ,Bool.and_eq_true] at h;obtain⟨b,hb⟩:=ss o h.1;obtain⟨c,hc,_⟩:=q9 t h.2;exact⟨_,xu (nA _ (by decide) (by decide)) hb hc,fun _=>rfl⟩
 | .when d t,h=>by
  simp only[cJ,Bool.and_eq_true] at h;obtain⟨c,hc,_⟩:=q9 t h.2;exact⟨_,xu (nA _ (by decide) (by decide)) (Mw d) hc,fun _=>rfl⟩
 | .cond o l r,h=>by
  simp only[cJ,Bool.and_eq_true] at h;obtain⟨a,ha⟩:=ss o h.1;obtain⟨b,hb,_⟩:=q9 l h.2.1;obtain⟨c,hc,_⟩:=q9 r h.2.2;exact⟨_,Mx (nA _ (by decide) (by decide)) ha hb hc,fun _=>rfl⟩
theorem ik.UC {b:Bool}{bs:List UInt8}{ts:List (List UInt8)}(h:ik b bs ts):∃ ys:List dM,eS [] 0 false (cK bs)=(ys,0)/\ys.map Prod.fst=ts:=by
 obtain⟨R,h1,h2,h3⟩:=h;obtain⟨ys,run,a1,a2,a3⟩:=h3 [] 0;have hR:cK bs=R:=by rw[<- h2];exact Ss R fun r hr=>(h1 r hr).1
 refine⟨ys,?_,a1⟩;have:=a3 [];rw[List.append_nil] at this;rw[hR,this,List.nil_append];rfl
theorem UD {fin:Int}{s:RS}(h:s.l=[]):tE fin s=s:=by unfold tE;rw[h]
theorem UE {fin:Int}{s:RS}(h:(tE fin s).e=0):s.e=0/\s.l=[]/\tE fin s=s:=by
 unfold tE at h ⊢;cases hl:s.l with
 | nil=>rw[hl] at h;exact⟨h,rfl,rfl⟩
 | cons x l=>
  rw[hl] at h;dsimp only at h;unfold kZ at h;split at h
  ·exact absurd (show(2:Int)=0 from h) (by decide)
  ·contradiction
theorem UF {bs:List UInt8}{t:Tm}{ys:List dM}(hc:jR t=0)(hl:bs.length<=1000)(hs:eS [] 0 false (cK bs)=(ys,0))(ht:ys.map Prod.fst=jj t):nz bs=(t,0,0):=by
 have hf:=FY hc;have hb:lX bs=⟨ys,0,0⟩:=by unfold lX;rw[if_neg (by omega),hs];rfl
 have hr:=Mo (ny bs) 12 t hf.1 hf.2.2 (s:=⟨ys,0,0⟩) (s':=⟨[],0,0⟩) ⟨rfl,rfl,rfl,ys,by simp,ht⟩;unfold nz pd;rw[hb,hr];dsimp only;rw[UD rfl,if_neg (by simp),if_neg (by simpa using hc)]
theorem UG {t:Tm}(h:(bp t).2=0):jR t=0/\(eh t).length<=1000/\bp t=(eh t,0):=by
 unfold bp at h ⊢;split at h
 ·rename_i hc;exact absurd h hc
 rename_i hc;split at h
 ·exact absurd h (by decide)
 rename_i hl;exact⟨by simpa using hc,by omega,by rw[if_neg hc,if_neg hl]⟩
theorem UH {t:Tm}(h:(bp t).2=0):nz (bp t).1=(t,0,0):=by
 obtain⟨h1,h2,h3⟩:=UG h;obtain⟨b,hb,_⟩:=q9 t (FY h1).1;obtain⟨ys,a1,a2⟩:=hb.UC;rw[h3];exact UF h1 h2 a1 a2
def kE (l:List (List UInt8)):Nat:=l.flatten.length
theorem Gv (a b:List (List UInt8)):kE (a++b)=kE a+kE b:=by unfold kE;rw[List.flatten_append,List.length_append]
theorem UI (l:List dM)(x:List UInt8):kE ((qZ l x).map Prod.fst)=kE (l.map Prod.fst)+x.length:=by
 by_cases h:l=[]
 ·subst h;unfold qZ kE;simp
 ·obtain⟨a,y,rfl⟩:=LU l h
  rw[Gb,List.map_append,List.map_append,Gv,Gv];simp[kE];omega
theorem Cq:∀ (R:List Int) (W:List dM) (at_:Int) (run:Bool),kE ((eS W at_ run R).1.map Prod.fst)<=kE (W.map Prod.fst)+(ez R).length
 | [],W,at_,run=>by show kE (W.map Prod.fst)<=_;omega
 | r::R,W,at_,run=>by
  unfold eS;rw[tj,List.length_append];split
  ·simp[kE]
  split
  ·have:=Cq R (qZ W (enc r)) (at_+1) true
   rw[UI] at this;omega
  split
  ·have:=Cq R (W++[(enc r,at_+1)]) (at_+1) (kd r==97)
   rw[List.map_append,Gv] at this;have e:kE ([(enc r,at_+1)].map Prod.fst)=(enc r).length:=by simp[kE]
   omega
  ·have:=Cq R W (at_+1) false
   omega
theorem UJ {bs:List UInt8}(h:(lX bs).e=0):bs.length<=1000/\¬ 0<(eS [] 0 false (cK bs)).2/\lX bs=⟨(eS [] 0 false (cK bs)).1,0,0⟩:=by
 unfold lX at h ⊢;split at h
 ·exact absurd (show(5:Int)=0 from h) (by decide)
 split at h
 ·exact absurd (show(2:Int)=0 from h) (by decide)
 rename_i h1 h2;exact⟨by omega,h2,by rw[if_neg h1,if_neg h2]⟩
abbrev aT:=Int×List UInt8×List UInt8×List UInt8×List UInt8×Int×Int×Tm
def aT.e (m:aT):dV:=(m.1,str m.2.1,str m.2.2.1,str m.2.2.2.1,str m.2.2.2.2.1,m.2.2.2.2.2.1,m.2.2.2.2.2.2.1,m.2.2.2.2.2.2.2.v,())
def aT.t (m:aT):Tm:=m.2.2.2.2.2.2.2
def bb:aT:=(0,[],[],[],[],0,0,.none)
def dw (m:aT):List UInt8×Int:=je m.e (bp m.t).1 (bp m.t).2
abbrev iO:=List UInt8×Bool
def dQ (z:Bool)(n:Nat)(s:iO):List UInt8×iO:=if s.2=true\/s.1.length<n then(if z=true then List.replicate n 0 else[],(s.1,true)) else(s.1.take n,(s.1.drop n,false))
def fM (z:Bool)(size:Nat)(s:iO):List UInt8×iO:=dQ z (fH (dQ z size s).1) (dQ z size s).2
def jk (z:Bool)(s:iO):Int×iO:=((ia (dQ z 8 s).1).1,((dQ z 8 s).2.1,(dQ z 8 s).2.2||(!z&&!(ia (dQ z 8 s).1).2)))
def su (z:Bool)(s:iO):Tm×iO:=((nz (fM z 2 s).1).1,((fM z 2 s).2.1,(fM z 2 s).2.2||(!z&&((nz (fM z 2 s).1).2.2 != 0))))
def gU (z:Bool)(x:iO×aT)(c:UInt8):iO×aT:=
 if c=68 then((jk z x.1).2,(x.2.1,x.2.2.1,x.2.2.2.1,x.2.2.2.2.1,x.2.2.2.2.2.1,(jk z x.1).1,x.2.2.2.2.2.2.2.1,x.2.2.2.2.2.2.2.2))
 else if c=86 then((jk z x.1).2,(x.2.1,x.2.2.1,x.2.2.2.1,x.2.2.2.2.1,x.2.2.2.2.2.1,x.2.2.2.2.2.2.1,(jk z x.1).1,x.2.2.2.2.2.2.2.2))
 else if c=84 then((su z x.1).2,(x.2.1,x.2.2.1,x.2.2.2.1,x.2.2.2.2.1,x.2.2.2.2.2.1,x.2.2.2.2.2.2.1,x.2.2.2.2.2.2.2.1,(su z x.1).1))
 else if c=73 then((fM z 1 x.1).2,(x.2.1,(fM z 1 x.1).1,x.2.2.2.1,x.2.2.2.2.1,x.2.2.2.2.2.1,x.2.2.2.2.2.2.1,x.2.2.2.2.2.2.2.1,x.2.2.2.2.2.2.2.2))
 else if c=78 then((fM z 1 x.1).2,(x.2.1,x.2.2.1,(fM z 1 x.1).1,x.2.2.2.2.1,x.2.2.2.2.2.1,x.2.2.2.2.2.2.1,x.2.2.2.2.2.2.2.1,x.2.2.2.2.2.2.2.2))
 else if c=76 then((fM z 1 x.1).2,(x.2.1,x.2.2.1,x.2.2.2.1,(fM z 1 x.1).1,x.2.2.2.2.2.1,x.2.2.2.2.2.2.1,x.2.2.2.2.2.2.2.1,x.2.2.2.2.2.2.2.2))
 else((fM z 1 x.1).2,(x.2.1,x.2.2.1,x.2.2.2.1,x.2.2.2.2.1,(fM z 1 x.1).1,x.2.2.2.2.2.2.1,x.2.2.2.2.2.2.2.1,x.2.2.2.2.2.2.2.2))
def lB (z:Bool)(bs:List UInt8):iO×aT:=
 (eQ (fH (dQ z 1 (bs,false)).1:Int)).foldl (gU z) ((dQ z 1 (bs,false)).2,((fH (dQ z 1 (bs,false)).1:Int),[],[],[],[],0,0,.none))
def zP (z:Bool)(bs:List UInt8):Bool:=!(lB z bs).1.2&&((dw (lB z bs).2).2==0&&((dw (lB z bs).2).1==bs&&(!z||(lB z bs).1.1==[])))
def fV (z:Bool)(bs:List UInt8):aT×Int:=if zP z bs=true then((lB z bs).2,0) else(bb,2)
theorem Gw (z:Bool)(a rest:List UInt8):dQ z a.length (a++rest,false)=(a,(rest,false)):=by
 unfold dQ;rw[if_neg (by simp)];simp
theorem Cr (z:Bool){n:Nat}(a rest:List UInt8)(h:a.length=n):dQ z n (a++rest,false)=(a,(rest,false)):=by rw[<- h];exact Gw z a rest
theorem My (b:UInt8):fH [b]=b.toNat:=by unfold fH;simp
theorem UK (a b:UInt8):fH [a,b]=a.toNat * 256+b.toNat:=by unfold fH;simp
theorem zQ (z:Bool)(s rest:List UInt8)(h:s.length<=255):fM z 1 (ky s++rest,false)=(s,(rest,false)):=by
 unfold fM;have h1:dQ z 1 (ky s++rest,false)=([UInt8.ofNat (s.length % 256)],(s++rest,false)):=Cr z [UInt8.ofNat (s.length % 256)] (s++rest) rfl;rw[h1];dsimp only;rw[My,oU (Nat.mod_lt _ (by decide)),Nat.mod_eq_of_lt (by omega)];exact Gw z s rest
theorem xv (z:Bool)(n:Int)(h0:-9223372036854775808<=n)(h1:n<=9223372036854775807)(rest:List UInt8):jk z (cu n++rest,false)=(n,(rest,false)):=by
 unfold jk;rw[Cr z (cu n) rest (iJ n)];dsimp only;rw[BS n h0 h1];simp
theorem tF (t:Tm):(bp t).1.length<=1000:=by
 unfold bp;split
 ·simp
 split
 ·simp
 ·dsimp only;omega
theorem UL (z:Bool)(t:Tm)(h:(bp t).2=0)(rest:List UInt8):
  su z (UInt8.ofNat ((bp t).1.length / 256 % 256)::UInt8.ofNat ((bp t).1.length % 256)::(bp t).1++rest,false)=(t,(rest,false)):=by
 unfold su;have hl:=tF t;have h1:fM z 2 (UInt8.ofNat ((bp t).1.length / 256 % 256)::UInt8.ofNat ((bp t).1.length % 256)::(bp t).1++rest,false)=((bp t).1,(rest,false)):=by
  unfold fM;have h2:dQ z 2 (UInt8.ofNat ((bp t).1.length / 256 % 256)::UInt8.ofNat ((bp t).1.length % 256)::(bp t).1++rest,false)=([UInt8.ofNat ((bp t).1.length / 256 % 256),UInt8.ofNat ((bp t).1.length % 256)],((bp t).1++rest,false)):=
   Cr z [UInt8.ofNat ((bp t).1.length / 256 % 256),UInt8.ofNat ((bp t).1.length % 256)] ((bp t).1++rest) rfl
  rw[h2];dsimp only;rw[UK,oU (Nat.mod_lt _ (by decide)),oU (Nat.mod_lt _ (by decide)),show(bp t).1.length / 256 % 256 * 256+(bp t).1.length % 256=(bp t).1.length by omega];exact Gw z _ rest
 rw[h1];dsimp only;rw[UH h];simp
theorem Ct {e:dV}{tr:Int}(h:mA e tr=0):fZ e.1≠[63]/\nn e=true/\oW e=true/\0<=e.2.2.2.2.2.1/\e.2.2.2.2.2.1<=10000/\cI e.2.2.2.2.2.2.1=true/\(e.1=2->tr=0):=by
 unfold mA at h
 by_cases c0:fZ e.1=[63]
 ·rw[if_pos c0] at h;cases h
 rw[if_neg c0] at h
 by_cases c1:nn e=false
 ·rw[if_pos c1] at h;cases h
 rw[if_neg c1] at h
 by_cases c2:oW e=false
 ·rw[if_pos c2] at h;cases h
 rw[if_neg c2] at h
 by_cases c3:e.2.2.2.2.2.1<0
 ·rw[if_pos c3] at h;cases h
 rw[if_neg c3] at h
 by_cases c4:e.2.2.2.2.2.1 > 10000
 ·rw[if_pos c4] at h;cases h
 rw[if_neg c4] at h
 by_cases c5:cI e.2.2.2.2.2.2.1=false
 ·rw[if_pos c5] at h;cases h
 rw[if_neg c5] at h
 by_cases c6:e.1=4/\e.2.2.2.2.2.2.1≠0/\e.2.2.2.2.2.2.1≠1
 ·rw[if_pos c6] at h;cases h
 rw[if_neg c6] at h;refine⟨c0,by simpa using c1,by simpa using c2,by omega,by omega,by simpa using c5,fun k=>?_⟩;rw[if_pos k] at h;exact h
theorem UM {k:Int}(h:fZ k≠[63]):k=1\/k=2\/k=3\/k=4\/k=5\/k=6:=by
 unfold fZ at h
 repeat' split at h
 all_goals first | omega | exact(h rfl).elim
theorem tG (s:List UInt8):jd (str s)=decide (s=[]):=by
 have e0:(⟨#[]⟩:ByteArray)=str []:=rfl;unfold jd;rw[e0,jc]
theorem Cu (s:List UInt8):pQ (str s)=kv 0 (cK s):=by unfold pQ;rw[ku]
theorem zR {s:List UInt8}(h:kv 0 (cK s)=true):s.length<=255:=by
 have hb:=FR s.length s (Nat.le_refl _)
 rcases FU _ _ h with t | t
 ·rw[t,List.length_nil] at hb;omega
 ·omega
theorem xw {t:Tm}(h:gR t.v=true):t=.none:=by cases t<;>first | rfl | (cases h)
theorem UN {n:Int}(h:cI n=true):-9223372036854775808<=n/\n<=9223372036854775807:=by
 unfold cI at h;simp only[Bool.and_eq_true,decide_eq_true_eq] at h;omega
theorem xx (z:Bool)(k:Nat)(hk:k<256)(rest:List UInt8):lB z (UInt8.ofNat k::rest)=(eQ (k:Int)).foldl (gU z) ((rest,false),((k:Int),[],[],[],[],0,0,.none)):=by
 unfold lB;have h1:dQ z 1 (UInt8.ofNat k::rest,false)=([UInt8.ofNat k],(rest,false)):=Cr z [UInt8.ofNat k] rest rfl;rw[h1];dsimp only;rw[My,oU hk]
theorem Mz:eQ 2=[73,84]:=by decide
theorem MA:eQ 3=[78,68,86]:=by decide
theorem MB:eQ 4=[73,76,86]:=by decide
theorem MC:eQ 5=[68]:=by decide
theorem MD:eQ 6=[67,68,86]:=by decide
theorem ME {m:aT}{bs:List UInt8}(h:dw m=(bs,0)):mA m.e (bp m.t).2=0/\bs=UInt8.ofNat (m.e.1 % 256).toNat::(eQ m.e.1).flatMap (fj m.e (bp m.t).1):=by
 unfold dw je at h;split at h
 ·rename_i c
  injection h with _ h
  exact(c h).elim
 ·rename_i c
  injection h with h _
  exact⟨Classical.not_not.1 c,h.symm⟩
theorem xy (a:UInt8)(l r:List UInt8):(a::l)++r=a::(l++r):=rfl
theorem UO (z:Bool)(m:aT){bs:List UInt8}(h:dw m=(bs,0))(rest:List UInt8):lB z (bs++rest)=((rest,false),m):=by
 obtain⟨hc,rfl⟩:=ME h;obtain⟨hk,ho,hn,d0,d1,hv,ht⟩:=Ct hc;obtain⟨v0,v1⟩:=UN hv;obtain⟨k,i,n,l,c,d,v,t⟩:=m;simp only[aT.e] at hk ho hn d0 d1 hv ht v0 v1;simp only[aT.e,aT.t] at ht ⊢
 rcases UM hk with rfl | rfl | rfl | rfl | rfl | rfl
 ·simp[nn,cS,fZ,tG] at ho
  obtain⟨⟨⟨⟨rfl,rfl⟩,rfl⟩,rfl⟩,⟨rfl,rfl⟩,hz⟩:=ho;obtain rfl:=xw hz;rw[xy (UInt8.ofNat ((1:Int) % 256).toNat),show((1:Int) % 256).toNat=1 by decide,xx z 1 (by decide)];rfl
 ·simp[nn,cS,fZ,tG] at ho
  simp[oW,cS,fZ,Cu] at hn;obtain⟨⟨⟨rfl,rfl⟩,rfl⟩,rfl,rfl⟩:=ho;rw[xy (UInt8.ofNat ((2:Int) % 256).toNat),show((2:Int) % 256).toNat=2 by decide,xx z 2 (by decide),Mz,show((2:Nat):Int)=2 by rfl,Mz];have au:fj (2,str i,str [],str [],str [],0,0,t.v,()) (bp t).1 73=ky i:=by
   show ky (str i).data.toList=_;rw[ku]
  have aI:fj (2,str i,str [],str [],str [],0,0,t.v,()) (bp t).1 84=UInt8.ofNat ((bp t).1.length / 256 % 256)::UInt8.ofNat ((bp t).1.length % 256)::(bp t).1:=rfl;rw[List.flatMap_cons,List.flatMap_cons,List.flatMap_nil,au,aI,List.append_nil,List.append_assoc];rw[List.foldl_cons,List.foldl_cons,List.foldl_nil];have s1:∀ x,gU z x 73=((fM z 1 x.1).2,(x.2.1,(fM z 1 x.1).1,x.2.2.2.1,x.2.2.2.2.1,x.2.2.2.2.2.1,x.2.2.2.2.2.2.1,x.2.2.2.2.2.2.2.1,x.2.2.2.2.2.2.2.2)):=fun x=>rfl;have s2:∀ x,gU z x 84=((su z x.1).2,(x.2.1,x.2.2.1,x.2.2.2.1,x.2.2.2.2.1,x.2.2.2.2.2.1,x.2.2.2.2.2.2.1,x.2.2.2.2.2.2.2.1,(su z x.1).1)):=fun x=>rfl;rw[s1,s2];dsimp only;rw[zQ z i _ (zR hn)];dsimp only;rw[UL z t (ht rfl)]
 ·simp[nn,cS,fZ,tG] at ho
  simp[oW,cS,fZ,Cu] at hn;obtain⟨⟨⟨rfl,rfl⟩,rfl⟩,hz⟩:=ho;obtain rfl:=xw hz;rw[xy (UInt8.ofNat ((3:Int) % 256).toNat),show((3:Int) % 256).toNat=3 by decide,xx z 3 (by decide),MA,show((3:Nat):Int)=3 by rfl,MA];have au:fj (3,str [],str n,str [],str [],d,v,Tm.none.v,()) (bp .none).1 78=ky n:=by
   show ky (str n).data.toList=_;rw[ku]
  have aI:fj (3,str [],str n,str [],str [],d,v,Tm.none.v,()) (bp .none).1 68=cu d:=rfl;have aR:fj (3,str [],str n,str [],str [],d,v,Tm.none.v,()) (bp .none).1 86=cu v:=rfl;rw[List.flatMap_cons,List.flatMap_cons,List.flatMap_cons,List.flatMap_nil,au,aI,aR,List.append_nil,List.append_assoc,List.append_assoc];rw[List.foldl_cons,List.foldl_cons,List.foldl_cons,List.foldl_nil];have s1:∀ x,gU z x 78=((fM z 1 x.1).2,(x.2.1,x.2.2.1,(fM z 1 x.1).1,x.2.2.2.2.1,x.2.2.2.2.2.1,x.2.2.2.2.2.2.1,x.2.2.2.2.2.2.2.1,x.2.2.2.2.2.2.2.2)):=fun x=>rfl;have s2:∀ x,gU z x 68=((jk z x.1).2,(x.2.1,x.2.2.1,x.2.2.2.1,x.2.2.2.2.1,x.2.2.2.2.2.1,(jk z x.1).1,x.2.2.2.2.2.2.2.1,x.2.2.2.2.2.2.2.2)):=fun x=>rfl;have s3:∀ x,gU z x 86=((jk z x.1).2,(x.2.1,x.2.2.1,x.2.2.2.1,x.2.2.2.2.1,x.2.2.2.2.2.1,x.2.2.2.2.2.2.1,(jk z x.1).1,x.2.2.2.2.2.2.2.2)):=fun x=>rfl;rw[s1,s2,s3];dsimp only;rw[zQ z n _ (zR hn)];dsimp only;rw[xv z d (by omega) (by omega)];dsimp only;rw[xv z v v0 v1]
 ·simp[nn,cS,fZ,tG] at ho
  simp[oW,cS,fZ,Cu] at hn;obtain⟨⟨rfl,rfl⟩,rfl,hz⟩:=ho;obtain rfl:=xw hz;rw[xy (UInt8.ofNat ((4:Int) % 256).toNat),show((4:Int) % 256).toNat=4 by decide,xx z 4 (by decide),MB,show((4:Nat):Int)=4 by rfl,MB];have au:fj (4,str i,str [],str l,str [],0,v,Tm.none.v,()) (bp .none).1 73=ky i:=by
   show ky (str i).data.toList=_;rw[ku]
  have aI:fj (4,str i,str [],str l,str [],0,v,Tm.none.v,()) (bp .none).1 76=ky l:=by
   show ky (str l).data.toList=_;rw[ku]
  have aR:fj (4,str i,str [],str l,str [],0,v,Tm.none.v,()) (bp .none).1 86=cu v:=rfl;rw[List.flatMap_cons,List.flatMap_cons,List.flatMap_cons,List.flatMap_nil,au,aI,aR,List.append_nil,List.append_assoc,List.append_assoc];rw[List.foldl_cons,List.foldl_cons,List.foldl_cons,List.foldl_nil];have s1:∀ x,gU z x 73=((fM z 1 x.1).2,(x.2.1,(fM z 1 x.1).1,x.2.2.2.1,x.2.2.2.2.1,x.2.2.2.2.2.1,x.2.2.2.2.2.2.1,x.2.2.2.2.2.2.2.1,x.2.2.2.2.2.2.2.2)):=fun x=>rfl;have s2:∀ x,gU z x 76=((fM z 1 x.1).2,(x.2.1,x.2.2.1,x.2.2.2.1,(fM z 1 x.1).1,x.2.2.2.2.2.1,x.2.2.2.2.2.2.1,x.2.2.2.2.2.2.2.1,x.2.2.2.2.2.2.2.2)):=fun x=>rfl;have s3:∀ x,gU z x 86=((jk z x.1).2,(x.2.1,x.2.2.1,x.2.2.2.1,x.2.2.2.2.1,x.2.2.2.2.2.1,x.2.2.2.2.2.2.1,(jk z x.1).1,x.2.2.2.2.2.2.2.2)):=fun x=>rfl;rw[s1,s2,s3];dsimp only;rw[zQ z i _ (zR hn.1)];dsimp only;rw[zQ z l _ (zR hn.2)];dsimp only;rw[xv z v v0 v1]
 ·simp[nn,cS,fZ,tG] at ho
  obtain⟨⟨⟨⟨rfl,rfl⟩,rfl⟩,rfl⟩,rfl,hz⟩:=ho;obtain rfl:=xw hz;rw[xy (UInt8.ofNat ((5:Int) % 256).toNat),show((5:Int) % 256).toNat=5 by decide,xx z 5 (by decide),MC,show((5:Nat):Int)=5 by rfl,MC];have aI:fj (5,str [],str [],str [],str [],d,0,Tm.none.v,()) (bp .none).1 68=cu d:=rfl;rw[List.flatMap_cons,List.flatMap_nil,aI,List.append_nil];rw[List.foldl_cons,List.foldl_nil];have s2:∀ x,gU z x 68=((jk z x.1).2,(x.2.1,x.2.2.1,x.2.2.2.1,x.2.2.2.2.1,x.2.2.2.2.2.1,(jk z x.1).1,x.2.2.2.2.2.2.2.1,x.2.2.2.2.2.2.2.2)):=fun x=>rfl;rw[s2];dsimp only;rw[xv z d (by omega) (by omega)]
 ·simp[nn,cS,fZ,tG] at ho
  simp[oW,cS,fZ,Cu] at hn;obtain⟨⟨⟨rfl,rfl⟩,rfl⟩,hz⟩:=ho;obtain rfl:=xw hz;rw[xy (UInt8.ofNat ((6:Int) % 256).toNat),show((6:Int) % 256).toNat=6 by decide,xx z 6 (by decide),MD,show((6:Nat):Int)=6 by rfl,MD];have au:fj (6,str [],str [],str [],str c,d,v,Tm.none.v,()) (bp .none).1 67=ky c:=by
   show ky (str c).data.toList=_;rw[ku]
  have aI:fj (6,str [],str [],str [],str c,d,v,Tm.none.v,()) (bp .none).1 68=cu d:=rfl;have aR:fj (6,str [],str [],str [],str c,d,v,Tm.none.v,()) (bp .none).1 86=cu v:=rfl;rw[List.flatMap_cons,List.flatMap_cons,List.flatMap_cons,List.flatMap_nil,au,aI,aR,List.append_nil,List.append_assoc,List.append_assoc];rw[List.foldl_cons,List.foldl_cons,List.foldl_cons,List.foldl_nil];have s1:∀ x,gU z x 67=((fM z 1 x.1).2,(x.2.1,x.2.2.1,x.2.2.2.1,x.2.2.2.2.1,(fM z 1 x.1).1,x.2.2.2.2.2.2.1,x.2.2.2.2.2.2.2.1,x.2.2.2.2.2.2.2.2)):=fun x=>rfl;have s2:∀ x,gU z x 68=((jk z x.1).2,(x.2.1,x.2.2.1,x.2.2.2.1,x.2.2.2.2.1,x.2.2.2.2.2.1,(jk z x.1).1,x.2.2.2.2.2.2.2.1,x.2.2.2.2.2.2.2.2)):=fun x=>rfl;have s3:∀ x,gU z x 86=((jk z x.1).2,(x.2.1,x.2.2.1,x.2.2.2.1,x.2.2.2.2.1,x.2.2.2.2.2.1,x.2.2.2.2.2.2.1,(jk z x.1).1,x.2.2.2.2.2.2.2.2)):=fun x=>rfl;rw[s1,s2,s3];dsimp only;rw[zQ z c _ (zR hn)];dsimp only;rw[xv z d (by omega) (by omega)];dsimp only;rw[xv z v v0 v1]
theorem UP (z:Bool)(m:aT){bs:List UInt8}(h:dw m=(bs,0)):lB z bs=(([],false),m):=by
 have:=UO z m h [];rwa[List.append_nil] at this
theorem MF (z:Bool){m:aT}{bs:List UInt8}(h:dw m=(bs,0)):fV z bs=(m,0):=by
 unfold fV zP;rw[UP z m h];dsimp only;rw[h];simp
structure de where
 fx:List ((List UInt8×Int)×Int)
 ch:List ((List UInt8×List UInt8)×Int×Int)
def bq {κ ν:Type}[DecidableEq κ](k:κ):List (κ×ν)->Option ν
 | []=>none
 | (a,v)::l=>if a=k then some v else bq k l
def jT {κ ν:Type}[DecidableEq κ](k:κ)(v:ν):List (κ×ν)->List (κ×ν)
 | []=>[(k,v)]
 | (a,u)::l=>if a=k then(a,v)::l else(a,u)::jT k v l
theorem MG {κ ν:Type}[DecidableEq κ](k:κ):∀ (l m:List (κ×ν)),bq k (l++m)=(bq k l).or (bq k m)
 | [],m=>by simp[bq]
 | (a,v)::l,m=>by
  simp only[List.cons_append,bq];split
  ·rfl
  ·exact MG k l m
theorem Cv {κ ν:Type}[DecidableEq κ](k:κ)(v:ν):∀ (l:List (κ×ν)),bq k l=none->jT k v l=l++[(k,v)]
 | [],_=>rfl
 | (a,u)::l,h=>by
  unfold bq at h;split at h
  ·cases h
  ·rename_i ay
   rw[jT,if_neg ay,Cv k v l h];rfl
theorem MH {κ ν:Type}[DecidableEq κ](k k':κ)(v:ν):∀ (l:List (κ×ν)),bq k' (jT k v l)=if k=k' then some v else bq k' l
 | []=>rfl
 | (a,u)::l=>by
  unfold jT
  by_cases h:a=k
  ·subst h
   rw[if_pos rfl];unfold bq;split
   ·rfl
   ·rfl
  ·rw[if_neg h]
   unfold bq
   by_cases h2:a=k'
   ·subst h2
    rw[if_pos rfl,if_neg (fun t=>h t.symm),if_pos rfl]
   ·rw[if_neg h2,if_neg h2,MH k k' v l]
def vk (a b:Int):Int×Bool:=if(cI a&&cI b)&&cI (a+b) then(a+b,true) else(0,false)
def la (a b:Int):Int×Bool:=if(cI a&&cI b)&&cI (a * b) then(a * b,true) else(0,false)
def vl (a b:Int):Int×Bool:=(max a b,true)
def pg (r:Int×Bool):Int×Bool×Int:=if r.2=true then(r.1,true,0) else(0,false,6)
def zS (a b:Int×Bool×Int)(f:Int->Int->Int×Bool):Int×Bool×Int:=
 if a.2.2≠0 then(0,false,a.2.2) else if b.2.2≠0\/a.2.1=false\/b.2.1=false then(0,false,b.2.2) else pg (f a.1 b.1)
def Gy (a:Int×Bool×Int):Int×Bool×Int:=
 if a.2.2≠0\/a.2.1=false then(0,false,a.2.2) else pg (if cI a.1 then(-a.1,true) else(0,false))
def eI (w:de)(d:Int):Ob->Int×Bool×Int
 | .none=>(0,false,0)
 | .const n=>(n,true,0)
 | .fix s=>match bq (s,d) w.fx with | some v=>(v,true,0) | none=>(0,false,0)
 | .add l r=>zS (eI w d l) (eI w d r) vk
 | .mul l r=>zS (eI w d l) (eI w d r) la
 | .max l r=>zS (eI w d l) (eI w d r) vl
 | .neg o=>Gy (eI w d o)
def fp (w:de)(d:Int)(o:Ob):Int×Bool×Int:=if uZ o≠0 then(0,false,2) else eI w d o
def gA (out:List (List UInt8))(s:List UInt8):List (List UInt8):=if s∈out then out else out++[s]
def cx:Ob->List (List UInt8)
 | .none=>[]
 | .const _=>[]
 | .fix s=>[s]
 | .add l r=>(cx r).foldl gA ((cx l).foldl gA [])
 | .mul l r=>(cx r).foldl gA ((cx l).foldl gA [])
 | .max l r=>(cx r).foldl gA ((cx l).foldl gA [])
 | .neg o=>(cx o).foldl gA []
def nB (w:de)(d:Int)(o:Ob):List (List UInt8):=if uZ o≠0 then[] else(cx o).filter fun s=>(bq (s,d) w.fx).isNone
abbrev lC:=Int×List UInt8×Int
abbrev gB:=Bool×List UInt8×List UInt8×Int×Int
abbrev iP:=List lC×List gB
def lD (d:Int)(names:List (List UInt8))(ws:List gB):List gB:=
 names.foldl (fun ws s=>if(false,s,[],d,0)∈ws then ws else ws++[(false,s,[],d,0)]) ws
def cD (id:List UInt8)(w:de):Tm->Int->Int->iP->iP×Int
 | .none,_,_,x=>(x,0)
 | .zero,_,_,x=>(x,0)
 | .one s,d,k,x=>((x.1++[(d,s,k)],x.2),0)
 | .gG t,d,k,x=>cD id w t d (-k) x
 | .and l r,d,k,x=>if(cD id w l d k x).2≠0 then cD id w l d k x else cD id w r d k (cD id w l d k x).1
 | .when n t,d,k,x=>cD id w t (max d n) k x
 | .scale o t,d,k,x=>
  if(fp w d o).2.2≠0 then(x,(fp w d o).2.2) else if(fp w d o).2.1=false then((x.1,lD d (nB w d o) x.2),0)
  else if(la k (fp w d o).1).2=false then(x,6) else if(la k (fp w d o).1).1=0 then(x,0) else cD id w t d (la k (fp w d o).1).1 x
 | .cond o l r,d,k,x=>
  if(fp w d o).2.2≠0 then(x,(fp w d o).2.2) else if(fp w d o).2.1=false then((x.1,lD d (nB w d o) x.2),0)
  else if 0<(fp w d o).1 then cD id w l d k x else cD id w r d k x
 | .or s l r,d,k,x=>match bq (id,s) w.ch with
  | none=>((x.1,x.2++[(true,[],s,d,if 0<k then 0 else 1)]),0)
  | some (p,since)=>if p=0 then cD id w l (max d since) k x else cD id w r (max d since) k x
def fN (id:List UInt8)(t:Tm)(day:Int)(w:de):iP×Int:=
 if jR t≠0\/day<0\/10000<day then(([],[]),1) else
 if(cD id w t day 1 ([],[])).2≠0 then(([],[]),(cD id w t day 1 ([],[])).2) else((cD id w t day 1 ([],[])).1,0)
abbrev ke:=List UInt8×Int×Tm
structure cH where
 day:Int
 cP:List ke
 w:de
 gj:List ((Int×List UInt8)×Int)
def aT.kind (m:aT):Int:=m.1
def aT.id (m:aT):List UInt8:=m.2.1
def aT.name (m:aT):List UInt8:=m.2.2.1
def aT.label (m:aT):List UInt8:=m.2.2.2.1
def aT.cur (m:aT):List UInt8:=m.2.2.2.2.1
def aT.day (m:aT):Int:=m.2.2.2.2.2.1
def aT.val (m:aT):Int:=m.2.2.2.2.2.2.1
def jm (m:aT):Int:=mA m.e (bp m.t).2
def ow (w:de):List ke->iP->iP×Int
 | [],x=>(x,0)
 | d::l,x=>if(fN d.1 d.2.2 d.2.1 w).2≠0 then(([],[]),(fN d.1 d.2.2 d.2.1 w).2) else ow w l (x.1++(fN d.1 d.2.2 d.2.1 w).1.1,x.2++(fN d.1 d.2.2 d.2.1 w).1.2)
def cH.all (l:cH):iP×Int:=ow l.w l.cP ([],[])
def cH.kf (l:cH)(d:Int)(c:List UInt8):Int:=(bq (d,c) l.gj).getD 0
def kF (d:Int)(c:List UInt8)(n:Int)(fs:List lC):Int:=fs.foldl (fun n f=>if f.1=d/\f.2.1=c then n+f.2.2 else n) n
def cH.ox (l:cH)(d:Int)(c:List UInt8):Int:=kF d c (-l.kf d c) l.all.1.1
def tH (d:Int):Bool:=decide (0<=d)&&decide (d<=10000)
def ra (w:de)(s:List UInt8)(d v:Int):de×Int:=
 if fm s=false\/tH d=false\/cI v=false then(w,1) else if(bq (s,d) w.fx).isSome then(w,4) else if 32<=w.fx.length then(w,5) else({ w with fx:=jT (s,d) v w.fx },0)
def lE (w:de)(id label:List UInt8)(side day:Int):de×Int:=
 if fm id=false\/fm label=false\/(side≠0/\side≠1)\/tH day=false then(w,1) else if(bq (id,label) w.ch).isSome then(w,4) else({ w with ch:=jT (id,label) (side,day) w.ch },0)
def tI (l:cH)(m:aT):cH×Int:=
 if l.cP.any (fun d=>d.1==m.id)=true then(l,4) else if 8<=l.cP.length then(l,5) else
 if(fN m.id m.t l.day l.w).2≠0 then(l,(fN m.id m.t l.day l.w).2) else({ l with cP:=l.cP++[(m.id,l.day,m.t)] },0)
def sx (l:cH)(m:aT):cH×Int:=
 if l.day<m.day then(l,7) else if(ra l.w m.name m.day m.val).2≠0 then(l,(ra l.w m.name m.day m.val).2) else
 if(({ l with w:=(ra l.w m.name m.day m.val).1 }:cH).all).2≠0 then(l,(({ l with w:=(ra l.w m.name m.day m.val).1 }:cH).all).2) else({ l with w:=(ra l.w m.name m.day m.val).1 },0)
def sy (l:cH)(m:aT)(eP:Int):cH×Int:=
 match l.cP.find? (fun d=>d.1==m.id) with
 | none=>(l,3)
 | some d=>match (fN d.1 d.2.2 d.2.1 l.w).1.2.find? (fun x=>x.1&&x.2.2.1==m.label) with
  | none=>(l,3)
  | some x=>if l.day<x.2.2.2.1 then(l,7) else if x.2.2.2.2≠eP then(l,8) else
   if(lE l.w m.id m.label m.val l.day).2≠0 then(l,(lE l.w m.id m.label m.val l.day).2) else
   if(fN d.1 d.2.2 d.2.1 (lE l.w m.id m.label m.val l.day).1).2≠0 then(l,(fN d.1 d.2.2 d.2.1 (lE l.w m.id m.label m.val l.day).1).2) else
   ({ l with w:=(lE l.w m.id m.label m.val l.day).1 },0)
def tJ (l:cH)(m:aT):cH×Int:=
 if l.day<m.day then(l,7) else if l.ox m.day m.cur=0 then(l,3) else if l.ox m.day m.cur≠m.val then(l,1) else
 ({ l with gj:=jT (m.day,m.cur) (l.kf m.day m.cur+l.ox m.day m.cur) l.gj },0)
def iQ (l:cH)(m:aT)(eP:Int):cH×Int:=
 if eP≠0/\eP≠1 then(l,1) else if jm m≠0 then(l,jm m) else
 if m.kind=2 then tI l m else if m.kind=3 then sx l m else if m.kind=4 then sy l m eP else if m.kind=6 then tJ l m else
 if m.kind=5 then(if m.day<=l.day then(l,7) else({ l with day:=m.day },0)) else(l,0)
def jU (l:cH)(m:aT)(eP:Int):Int:=(iQ l m eP).2
def xz:cH:=⟨0,[],⟨[],[]⟩,[]⟩
theorem UQ {l:cH}{m:aT}{b:Int}:(iQ l m b).2≠0->(iQ l m b).1=l:=by
 have ht:(tI l m).2≠0->(tI l m).1=l:=by
  unfold tI
  repeat' split
  all_goals first | (intro _;rfl) | (intro h;exact absurd rfl h)
 have hf:(sx l m).2≠0->(sx l m).1=l:=by
  unfold sx
  repeat' split
  all_goals first | (intro _;rfl) | (intro h;exact absurd rfl h)
 have hc:(sy l m b).2≠0->(sy l m b).1=l:=by
  unfold sy
  repeat' split
  all_goals first | (intro _;rfl) | (intro h;exact absurd rfl h)
 have hs:(tJ l m).2≠0->(tJ l m).1=l:=by
  unfold tJ
  repeat' split
  all_goals first | (intro _;rfl) | (intro h;exact absurd rfl h)
 unfold iQ;split
 ·intro _;rfl
 split
 ·intro _;rfl
 split
 ·exact ht
 split
 ·exact hf
 split
 ·exact hc
 split
 ·exact hs
 split
 ·split
  ·intro _;rfl
  ·intro h;exact absurd rfl h
 ·intro _;rfl
def eJ (a b:Int):Int:=IntKind.u64.wrap (a+b)
def dX (a b:Int):Int:=IntKind.u64.wrap ((BitVec.ofInt 64 a ^^^ BitVec.ofInt 64 b).toNat:Int)
def gk (x:Int)(k:Nat):Int:=IntKind.u64.wrap ((BitVec.ofInt 64 (IntKind.u64.wrap (x * 2 ^ (min k 64))) ||| BitVec.ofInt 64 (Int.fdiv x (2 ^ (min (64 - k) 64)))).toNat:Int)
abbrev lg:=Int×Int×Int×Int
def Gz (s:lg):lg:=
 let a0:=eJ s.1 s.2.1
 let a1:=dX (gk s.2.1 13) a0
 let a0:=gk a0 32
 let a2:=eJ s.2.2.1 s.2.2.2
 let a3:=dX (gk s.2.2.2 16) a2
 let a0:=eJ a0 a3
 let a3:=dX (gk a3 21) a0
 let a2:=eJ a2 a1
 let a1:=dX (gk a1 17) a2
 let a2:=gk a2 32
 (a0,a1,a2,a3)
def qh:Nat->lg->lg
 | 0,s=>s
 | n+1,s=>Gz (qh n s)
def zT (m:Int)(s:lg):lg:=(dX (qh 2 (s.1,s.2.1,s.2.2.1,dX s.2.2.2 m)).1 m,(qh 2 (s.1,s.2.1,s.2.2.1,dX s.2.2.2 m)).2)
def gK (bs:List UInt8):Nat:=bs.foldr (fun b n=>n * 256+b.toNat) 0
def GA (kb:List UInt8):lg:=(dX (gK (kb.take 8):Int) 8317987319222330741,dX (gK (kb.drop 8):Int) 7237128888997146477,dX (gK (kb.take 8):Int) 7816392313619706465,dX (gK (kb.drop 8):Int) 8387220255154660723)
def UR (bs:List UInt8)(j:Nat):Nat:=gK ((bs.drop (8 * j)).take 8)
def Cw (bs:List UInt8)(s:lg):Nat->lg
 | 0=>s
 | n+1=>zT (UR bs n:Int) (Cw bs s n)
def Cx (bs:List UInt8):Nat:=gK (bs.drop (8 * (bs.length / 8)))+bs.length % 256 * 72057594037927936
def MI (s:lg):Int:=dX (dX (dX (qh 4 (s.1,s.2.1,dX s.2.2.1 255,s.2.2.2)).1 (qh 4 (s.1,s.2.1,dX s.2.2.1 255,s.2.2.2)).2.1) (qh 4 (s.1,s.2.1,dX s.2.2.1 255,s.2.2.2)).2.2.1) (qh 4 (s.1,s.2.1,dX s.2.2.1 255,s.2.2.2)).2.2.2
def nC (kb bs:List UInt8):Int:=MI (zT (Cx bs:Int) (Cw bs (GA kb) (bs.length / 8)))
theorem US:gK []=0:=rfl
theorem Cy (b:UInt8)(bs:List UInt8):gK (b::bs)=gK bs * 256+b.toNat:=rfl
theorem MJ:∀ a b:List UInt8,gK (a++b)=gK a+256 ^ a.length * gK b
 | [],b=>by rw[List.nil_append,US,List.length_nil,Nat.pow_zero];omega
 | x::a,b=>by
  rw[List.cons_append,Cy,Cy,MJ a b,List.length_cons,Nat.pow_succ,Nat.add_mul,Nat.mul_assoc,Nat.mul_comm (gK b) 256,<- Nat.mul_assoc];omega
theorem Cz:∀ bs:List UInt8,gK bs<256 ^ bs.length
 | []=>by decide
 | b::bs=>by
  have h:=Cz bs;have hb:=b.toNat_lt;rw[Cy,List.length_cons,Nat.pow_succ];omega
theorem UT (bs:List UInt8)(i:Nat)(h:i<bs.length):gK (bs.take (i+1))=gK (bs.take i)+256 ^ i * (bs.getD i 0).toNat:=by
 rw[List.take_add_one,List.getElem?_eq_getElem h,List.getD_eq_getElem?_getD,List.getElem?_eq_getElem h,MJ,List.length_take,Nat.min_eq_left (by omega)];simp[gK]
def ph:Nat->Nat->List UInt8
 | 0,_=>[]
 | k+1,m=>UInt8.ofNat (m % 256)::ph k (m / 256)
theorem GB:∀ k m,(ph k m).length=k
 | 0,_=>rfl
 | k+1,m=>by unfold ph;rw[List.length_cons,GB k]
theorem MK:∀ k m,gK (ph k m)=m % 256 ^ k
 | 0,m=>by rw[Nat.pow_zero,Nat.mod_one];rfl
 | k+1,m=>by
  unfold ph;rw[Cy,MK k,oU (Nat.mod_lt _ (by decide)),Nat.pow_succ,Nat.mul_comm (256 ^ k) 256,Nat.mod_mul,Nat.mul_comm];omega
theorem ML:∀ (k m i:Nat),i<k->(ph k m)[i]? = some (UInt8.ofNat (m / 256 ^ i % 256))
 | 0,_,_,h=>by omega
 | k+1,m,0,_=>by unfold ph;simp
 | k+1,m,i+1,h=>by
  unfold ph;rw[List.getElem?_cons_succ,ML k (m / 256) i (by omega),Nat.div_div_eq_div_mul,Nat.pow_succ,Nat.mul_comm 256]
def gL (n:Int):List UInt8:=ph 8 (n % 18446744073709551616).toNat
theorem qi (n:Int):(gL n).length=8:=GB _ _
theorem UU (n:Int)(h0:0<=n)(h1:n<18446744073709551616):(gK (gL n):Int)=n:=by
 unfold gL;rw[MK,show 256 ^ 8=18446744073709551616 by decide];omega
theorem UW (a b:Int):0<=dX a b/\dX a b<18446744073709551616:=by
 unfold dX;rw[ES];exact⟨Int.emod_nonneg _ (by decide),Int.emod_lt_of_pos _ (by decide)⟩
theorem GC (kb bs:List UInt8):0<=nC kb bs/\nC kb bs<18446744073709551616:=UW _ _
namespace Vc
theorem aq.pre {cks:List Ck}{b:Nat}{w:World}{K:Cs cks->Prop}{cs:Array Value}{T:TypeId}{fr:Nat×Nat}{x:Cs cks}(hb:w.heap[b]? = some (.cells cs T fr))(hx:∀ j,j<(Cs.vals cks x).length->cs[j]? = (Cs.vals cks x)[j]?)(h:K x):aq cks ((⟨b,0,none⟩:Addr).add 0) w K:=
 ⟨x,by rw[dT];exact nY hb _ 0 fun j hj=>by rw[Nat.zero_add];exact hx j hj,h⟩
end Vc
theorem GD {w:World}{v:Sl}{bs:List UInt8}(h:bd w v bs):(convert 22 9 (.slice v.1 v.2.1 v.2.2)).run Tryz.prog w=.ok (.string (str bs)) w:=by
 show _=Result.ok (Value.string ⟨bs.toArray⟩) w;rw[run_convert_bytes_string w _ _ 5 v.1 v.2.1 v.2.2 Tryz.underlying22 Tryz.underlying5 Tryz.underlying9];have hl:=h.len;obtain⟨h1,h2,h3⟩:=h;cases hv:v.1 with
 | none=>
  have:bs=[]:=by have:=(h2 hv).2.2;simpa using this
  subst this;rfl
 | some a=>
  have hc:=h3 a hv;have UX:(loadCells a v.2.1).run Tryz.prog w=.ok ((bs.map fun b=>(b.toNat:Int)).map (Value.int .u8)).toArray w:=by
   have:=uA (P:=Tryz.prog) (bs.map bc) hc;rw[List.length_map,<- hl] at this;rw[this]
   congr 1
   rw[List.map_map];rfl
  rw[run_bytesToString w a v.2.1 v.2.2 _ UX,foldl_push_bytes];have e:((bs.map fun b=>(b.toNat:Int)).map fun n=>UInt8.ofNat n.toNat)=bs:=by
   rw[List.map_map]
   conv=>rhs;rw[<- List.map_id bs]
   refine List.map_congr_left fun b _=>?_;simp
  rw[e]
  congr 2
  simp
abbrev MM:=Int×ByteArray×ByteArray×ByteArray×ByteArray×Int×Int×Value×Bool×Unit
def lh (e:dV)(r:Bool):MM:=(e.1,e.2.1,e.2.2.1,e.2.2.2.1,e.2.2.2.2.1,e.2.2.2.2.2.1,e.2.2.2.2.2.2.1,e.2.2.2.2.2.2.2.1,r,())
def GF (e:dV)(r:Bool):Value:=.agg #[.int .i64 e.1,.string e.2.1,.string e.2.2.1,.string e.2.2.2.1,.string e.2.2.2.2.1,.int .i64 e.2.2.2.2.2.1,.int .i64 e.2.2.2.2.2.2.1,e.2.2.2.2.2.2.2.1,.bool r]
def tK (e:dV)(ts:List UInt8)(tr:Int)(r:Bool):List UInt8×Int:=if(je e ts tr).2≠0 then([],(je e ts tr).2) else((if r=true then 1 else 0)::(je e ts tr).1,0)
theorem zU (e:dV)(hz:pU e)(ts:List UInt8)(kc:ts.length<=1000000)(tr:Int):(je e ts tr).1.length<=10000000:=by
 unfold je;split
 ·simp
 have BZ:(eQ e.1).length<=7:=by unfold eQ;exact Nat.le_trans (List.length_filter_le _ _) (by decide)
 have hbound:∀ l:List UInt8,(l.flatMap (fj e ts)).length<=l.length * 1000010:=by
  intro l
  induction l with
  | nil=>simp
  | cons a l ih=>rw[List.flatMap_cons,List.length_append,List.length_cons];have:=Fm e hz ts kc a;omega
 have:=hbound (eQ e.1);simp only[List.length_cons];omega
theorem MN (e:dV)(r:Bool)(hT:pR e.2.2.2.2.2.2.2.1)(hz:pU e)(ts:List UInt8)(kc:ts.length<=1000000)(tr:Int)(w:World)
  (ht:e.1=2->∀ w1,Fr none1 w w1->Ret Tryz.prog 132 #[e.2.2.2.2.2.2.2.1] w1 fun r w'=>r=.tuple #[.string (str ts),.int .i64 tr]/\Fr none1 w1 w') :
  Ret Tryz.prog 153 #[GF e r] w fun q w'=>∃ v:Sl,q=.tuple #[.slice v.1 v.2.1 v.2.2,.int .i64 (tK e ts tr r).2]/\cd w' v (tK e ts tr r).1/\Fr none1 w w'/\∀ k,aw v k->w.heap.size<=k:=by
 refine c153 (lh e r) w _ ?_;unfold C153;refine ak.of fun g w1 hg hb f1 _=>?_;refine aq.pre (x:=e) hb (fun j hj=>?_) ?_
 ·match j,hj with
  | 0,_=>rfl
  | 1,_=>rfl
  | 2,_=>rfl
  | 3,_=>rfl
  | 4,_=>rfl
  | 5,_=>rfl
  | 6,_=>rfl
  | 7,_=>rfl
  | j+8,h=>exact absurd h (by show ¬ j+8<8;omega)
 refine ab.of (Fo e hT hz ts kc tr w1 (fun h w' f=>ht h w' (f1.trans f))) ?_;rintro _ w2 ⟨v,rfl,hv,f2,vf⟩;refine⟨(v,(je e ts tr).2,()),rfl,?_⟩;have f12:=f1.trans f2;have hlen:=zU e hz ts kc tr;have hsz:=f1.size;unfold tK;dsimp only;refine aa.ne (fun ay=>?_) (fun he=>?_)
 ·simp only[if_pos ay]
  exact⟨(none,0,0),rfl,.inl ⟨rfl,rfl⟩,f12,fun k ⟨a,ha,_⟩=>by cases ha⟩
 simp only[if_neg (show ¬ (je e ts tr).2≠0 from fun t=>t he)];refine ae.ah (f2.af hb) (x:=r) rfl ?_;have fin:∀ (c:UInt8),aA Tryz.prog (Instr.buildSlice 22 1 #[(0,bc c)]) w2 (.v (.one .aj)) (fun(x7:Option Addr×Nat×Nat) w8=>aA Tryz.prog (Builtin.append_ #[22,22] 22 #[.slice x7.1 x7.2.1 x7.2.2,.slice v.1 v.2.1 v.2.2]) w8 (.v (.one .aj)) (fun(x9:Option Addr×Nat×Nat) aG=>
   ∃ u:Sl,(Value.tuple #[.slice x9.1 x9.2.1 x9.2.2,.int .i64 0])=.tuple #[.slice u.1 u.2.1 u.2.2,.int .i64 0]/\cd aG u (c::(je e ts tr).1)/\Fr none1 w aG/\∀ k,aw u k->w.heap.size<=k)):=by
  intro c;obtain⟨x,w3,Fq,hx,kW,f3,xf⟩:=rN (P:=Tryz.prog) (w:=w2) mZ [bc c] (by simp[bc,Value.cells]) (by simp);refine⟨x,w3,Fq,?_⟩;have yP:cd w3 x [c]:=hx;obtain⟨y,w4,zt,hy,f4,yf⟩:=rO yP (cd.af hv f3).rd (by simp only[List.length_singleton];omega);have s2:=f12.size;have s3:=f3.size;refine⟨y,w4,zt,y,rfl,hy,(f12.trans f3).comp f4 (fun k hk t=>by have:=xf k t;omega),fun k hk=>?_⟩
  rcases yf k hk with t | t
  ·have:=xf k t;omega
  ·omega
 refine aa.by (fun h=>?_) (fun h=>?_)
 ·rw[if_pos h];exact fin 1
 ·rw[if_neg (by rw[h];decide)];exact fin 0
namespace Vc
open Go.ChangeShapes Go.WideShapes
variable {P:Program}
def IsNest (k:IntKind)(w:World)(a:Option Addr)(len cap:Nat)(us:List (Sl×List Int)):Prop:=
 (a=none/\len=0/\cap=0/\us=[]) \/
 ∃ x,a=some x/\len<=cap/\cap<=maxLen/\us.length=len/\∀ i u,us[i]? = some u->w.cell? (x.add i)=some (.slice u.1.1 u.1.2.1 u.1.2.2)/\IsInts k w u.1.1 u.1.2.1 u.1.2.2 u.2
theorem MO {α:Type}{Q:Nat->α->Prop}:∀ (n:Nat),(∀ i,i<n->∃ u,Q i u)->∃ us:List α,us.length=n/\∀ i u,us[i]? = some u->Q i u
 | 0,_=>⟨[],rfl,fun i u h=>by simp at h⟩
 | n+1,h=>by
  obtain⟨us,hl,hu⟩:=MO n (fun i hi=>h i (by omega));obtain⟨u,hq⟩:=h n (by omega);refine⟨us++[u],by simp[hl],fun i x hx=>?_⟩
  by_cases hi:i<us.length
  ·rw[List.getElem?_append_left hi] at hx;exact hu i x hx
  ·rw[List.getElem?_append_right (by omega)] at hx
   have:i=n:=by
    have:=(List.getElem?_eq_some_iff.1 hx).1;simp at this;omega
   subst this;rw[<- hl,Nat.sub_self] at hx;simp at hx;subst hx;exact hq
theorem open_nest {H:Type}{enc:TypeId×Value->H}{w:World}{base:Nat}{held:Bool}{t e ee:TypeId}{k:IntKind}{fuel:Nat}{cs:List Value}{x:DataW H×List MemPlace}
  (ht:P.underlying t=some (.slice e)) (he:P.underlying e=some (.slice ee)) (GG:P.underlying ee=some (.int k)) (hc:P.cellsOf e=1) (pe:P.cellsOf ee=1)
  (h:DataW.trod enc P w base (fun _=>true) held fuel t cs=some x):∃ a len cap us,cs=[.slice a len cap]/\IsNest k w a len cap us:=by
 rcases DataW.trod_slice ht h with⟨h0,_⟩ | ⟨a,len,cap,elems,rest,n,_,hcs,_,hb,hl,hm,hlen,BP,_,_⟩
 ·exact⟨none,0,0,[],h0,.inl ⟨rfl,rfl,rfl,rfl⟩⟩
 obtain⟨us,ul,hu⟩:=MO (α:=Sl×List Int) (Q:=fun i u=>w.cell? (a.add i)=some (.slice u.1.1 u.1.2.1 u.1.2.2)/\IsInts k w u.1.1 u.1.2.1 u.1.2.2 u.2) len fun i hi=>by
  have gv:=BP i hi;rw[List.getElem?_eq_getElem (by omega),hc,Nat.mul_one,Option.bind_eq_some_iff] at gv;obtain⟨j2,MP,UY⟩:=gv
  rcases open_ints he GG pe UY with⟨rfl,_⟩ | ⟨y,l,c,zs,rfl,_,vm,UZ,GH,_,hcell,hwz⟩
  ·exact⟨((none,0,0),[]),cell_of_cells?_one MP,.inl ⟨rfl,rfl,rfl,rfl⟩⟩
  ·exact⟨((some y,l,c),zs),cell_of_cells?_one MP,.inr ⟨y,rfl,vm,UZ,by simpa using GH,hcell,hwz⟩⟩
 exact⟨some a,len,cap,us,hcs,.inr ⟨a,rfl,hl,hm,ul,hu⟩⟩
theorem add_add (a:Addr)(m n:Nat):(a.add m).add n=a.add (m+n):=by
 unfold Addr.add
 by_cases hm:m=0
 ·subst hm;simp
 ·by_cases hn:n=0
  ·subst hn;simp[hm]
  ·simp[hm,hn,Nat.add_assoc]
theorem xA {w:World}{a:Addr}{m:Nat}:∀ (vs:List Value) (i:Nat),jH w a (m+i) vs->jH w (a.add m) i vs
 | [],_,_=>trivial
 | v::vs,i,⟨h1,h2⟩=>⟨by rw[add_add];exact h1,xA vs (i+1) h2⟩
theorem zV {w:World}{a:Addr}:∀ (m:Nat) (vs:List Value) (i:Nat),jH w a i vs->jH w a (i+m) (vs.drop m)
 | 0,vs,i,h=>h
 | m+1,[],i,_=>trivial
 | m+1,v::vs,i,⟨_,h2⟩=>by
  have:=zV m vs (i+1) h2;rw[show i+1+m=i+(m+1) by omega] at this;exact this
theorem du.jV {w:World}{v:Sl}{xs:List Value}(h:du w 1 v xs){lo hi:Int}(h0:0<=lo)(h1:lo<=hi)(h2:hi<=v.2.1)(hc:v.2.1<=v.2.2){K:Option Addr->Nat->Nat->Prop}
  (k:∀ u:Sl,du w 1 u ((xs.drop lo.toNat).take (hi - lo).toNat)->u.2.1<=u.2.2->u.2.1=(hi - lo).toNat->(∀ k,aw u k->aw v k)->K u.1 u.2.1 u.2.2):eX v.1 v.2.2 lo hi v.2.2 1 K:=by
 refine⟨h0,h1,by omega,by omega,?_⟩;obtain⟨a,b,c⟩:=h;obtain⟨B,hB⟩:∃ B:Option Addr,(if(v.2.2:Int)=lo then v.1 else v.1.map (·.add (lo.toNat * 1)))=B:=⟨_,rfl⟩;obtain⟨n,hn⟩:∃ n:Nat,(hi - lo).toNat=n:=⟨_,rfl⟩;obtain⟨m,hm⟩:∃ m:Nat,((v.2.2:Int) - lo).toNat=m:=⟨_,rfl⟩;rw[hn] at k;rw[hB,hn,hm];refine k (B,n,m) ⟨?_,fun hN=>?_,fun y hy=>?_⟩ (by dsimp only;omega) rfl ?_
 ·dsimp only
  simp only[List.length_take,List.length_drop];omega
 ·dsimp only at hN ⊢
  have hv:v.1=none:=by
   rw[hN] at hB;split at hB
   ·exact hB
   ·cases hv:v.1 with
    | none=>rfl
    | some x=>rw[hv] at hB;cases hB
  obtain⟨e1,e2,e3⟩:=b hv;subst e3;exact⟨by omega,by omega,by simp⟩
 ·dsimp only at hy
  rw[hy] at hB;split at hB
  ·rename_i he
   have:n=0:=by omega
   rw[this,List.take_zero];exact trivial
  ·cases hv:v.1 with
   | none=>rw[hv] at hB;cases hB
   | some x=>
    rw[hv] at hB;injection hB with hB
    subst hB;rw[Nat.mul_one];refine wK _ _ _ (xA _ 0 ?_);have:=zV lo.toNat xs 0 (c x hv);rw[Nat.zero_add] at this;exact this
 ·rintro j ⟨y,hy,hj⟩
  dsimp only at hy;rw[hy] at hB;split at hB
  ·exact⟨y,hB,hj⟩
  ·cases hv:v.1 with
   | none=>rw[hv] at hB;cases hB
   | some x=>
    rw[hv] at hB;injection hB with hB
    refine⟨x,hv,?_⟩;rw[hj,<- hB];unfold Addr.add;split<;>rfl
def nD (w:World):(Nat->Bool)->World->Prop:=fun _ w'=>Fr none1 w w'
theorem oN.nD {w:World}{body:((Nat->Bool)->World->Prop)->Prop}(h:body (Vc.nD w)):oN w body:=⟨Vc.nD w,⟨rfl,rfl,rfl,Nat.le_refl _,fun _ _ _=>rfl⟩,h⟩
theorem gn.nD {w:World}{i:Nat}{pr:List Nat}{k:Rk}{op:World->(Value->World->Prop)->Prop}{next:k.C->Prop}(x:k.C)
  (h:∀ w1,Fr none1 w w1->op w1 fun v w'=>v=k.val x/\Vc.nD w (fun _=>true) w') (hn:next x):gn (Vc.nD w) i pr k op next:=
 ⟨x,fun _ w1 _ _ hC=>h w1 hC,hn⟩
end Vc
namespace Vc
variable {P:Program}
theorem MQ (off:Nat):∀ (l:List Value) (j:Nat) (cur:Array Value),off+j+l.length<=cur.size ->
  ((l.zipIdx j).foldl (fun(cs:Array Value) (x:Value×Nat)=>cs.setIfInBounds (off+x.2) x.1) cur).toList=cur.toList.take (off+j)++l++cur.toList.drop (off+j+l.length)
 | [],j,cur,_=>by simp
 | c::l,j,cur,h=>by
  simp only[List.length_cons] at h;rw[List.zipIdx_cons,List.foldl_cons,MQ off l (j+1) _ (by simp;omega)];rw[Array.toList_setIfInBounds];have aU:off+j<cur.toList.length:=by simp;omega
  rw[show off+(j+1)=off+j+1 by omega,List.take_succ_eq_append_getElem (by rw[List.length_set];exact aU),List.take_set_of_le (Nat.le_refl _),List.getElem_set_self,List.drop_set_of_lt (by omega)];simp only[List.append_assoc,List.cons_append,List.nil_append,List.length_cons]
  congr 4
  omega
theorem MR (s n:Nat):∀ (vs:List (List Value)) (k:Nat) (cur:Array Value),(∀ l∈vs,l.length=s)->k+vs.length=n->cur.size=n * s ->
  ∃ out,Instr.fill (fun i=>some (i * s,s)) cur ((vs.zipIdx k).map fun(l,i)=>(i,.agg l.toArray))=some out/\out.toList=cur.toList.take (k * s)++vs.flatten
 | [],k,cur,_,hk,hc=>by
  simp only[List.length_nil,Nat.add_zero] at hk;subst hk;exact⟨cur,rfl,by rw[List.take_of_length_le (by simp[hc])];simp⟩
 | l::vs,k,cur,hl,hk,hc=>by
  simp only[List.length_cons] at hk;have U0:=hl l (by simp);have hb:k * s+s<=n * s:=by rw[<- Nat.succ_mul];exact Nat.mul_le_mul_right _ (by omega)
  have MS:(l.toArray.zipIdx.foldl (fun cs (x:Value×Nat)=>cs.setIfInBounds (k * s+x.2) x.1) cur).toList=cur.toList.take (k * s)++l++cur.toList.drop (k * s+l.length):=by
   rw[<- Array.foldl_toList,Array.toList_zipIdx];have:=MQ (k * s) l 0 cur (by omega);simpa using this
  have hsz:(l.toArray.zipIdx.foldl (fun cs (x:Value×Nat)=>cs.setIfInBounds (k * s+x.2) x.1) cur).size=n * s:=by
   rw[<- Array.length_toList,MS];simp only[List.length_append,List.length_take,List.length_drop,Array.length_toList];omega
  obtain⟨out,ho,zW⟩:=MR s n vs (k+1) _ (fun x hx=>hl x (by simp[hx])) (by omega) hsz;refine⟨out,?_,?_⟩
  ·have ov:(Value.agg l.toArray).cells.size=s:=by show l.toArray.size=s;simp[U0]
   simp only[List.zipIdx_cons,List.map_cons,Instr.fill];rw[if_neg (by simp[ov];omega)];exact ho
  ·have hlen:(cur.toList.take (k * s)++l).length=(k+1) * s:=by
    rw[List.length_append,List.length_take,Array.length_toList,Nat.succ_mul];omega
   rw[zW,MS,List.take_left' hlen,List.flatten_cons,List.append_assoc]
theorem MT {w:World}{t E s bytes:Nat}{z:Value}(he:iw P t E s z bytes)(vs:List (List Value))(hl:∀ l∈vs,l.length=s)(hn:vs.length * s<=2 ^ 24):
  ∃ (v:Sl) (w':World),(Instr.buildSlice t vs.length ((vs.zipIdx.map fun(l,i)=>(i,Value.agg l.toArray)).toArray)).run P w=.ok (.slice v.1 v.2.1 v.2.2) w'/\aF w' E s v vs.flatten/\v.2.1=vs.length/\Fr none1 w w'/\(∀ k,aw v k->w.heap.size<=k):=by
 obtain⟨out,ho,zW⟩:=MR s vs.length vs 0 ((Array.range (vs.length * s)).map (z.cells[· % z.cells.size]!)) hl (by simp) (by simp);rw[Nat.zero_mul,List.take_zero,List.nil_append] at zW;have jP:∀ vs:List (List Value),(∀ l∈vs,l.length=s)->vs.flatten.length=vs.length * s:=by
  intro vs
  induction vs with
  | nil=>intro _;simp
  | cons l vs ih=>
   intro h;rw[List.flatten_cons,List.length_append,h l (by simp),ih (fun x hx=>h x (by simp[hx])),List.length_cons,Nat.succ_mul];omega
 obtain⟨v,w',a,b,c⟩:=EO (w:=w) he vs.length ((vs.zipIdx.map fun(l,i)=>(i,Value.agg l.toArray)).toArray) out hn (by simpa using ho) (by rw[<- Array.length_toList,zW,jP vs hl]);rw[zW] at b;exact⟨v,w',a,b,c⟩
theorem GI {α:Type}{s:Nat}:∀ (vs:List (List α)) (i:Nat),(∀ l∈vs,l.length=s)->vs.flatten.drop (i * s)=(vs.drop i).flatten
 | vs,0,_=>by simp
 | [],i+1,_=>by simp
 | l::vs,i+1,h=>by
  rw[List.flatten_cons,List.drop_succ_cons,Nat.succ_mul,Nat.add_comm,<- h l (by simp),<- List.drop_drop,List.drop_left,h l (by simp),GI vs i fun x hx=>h x (by simp[hx])]
theorem du.sA {w:World}{v:Sl}{vs:List (List Value)}{s:Nat}(h:du w s v vs.flatten)(hs:∀ l∈vs,l.length=s){cks:List Ck}{x:Cs cks}{i:Nat}(hx:vs[i]? = some (Cs.vals cks x))(hi:i<v.2.1){K:Cs cks->Prop}(k:K x){p:Addr}(hp:v.1=some p):
  aq cks (p.add (i * s)) w K:=by
 obtain⟨h1,h2,h3⟩:=h;have hc:=zV (i * s) _ 0 (h3 p hp);rw[Nat.zero_add,GI vs i hs] at hc;refine⟨x,?_,k⟩;have hlen:=hs _ (List.mem_of_getElem? hx);have hd:vs.drop i=Cs.vals cks x::vs.drop (i+1):=by
  obtain⟨aU,he⟩:=List.getElem?_eq_some_iff.1 hx;rw[List.drop_eq_getElem_cons aU,he]
 rw[hd,List.flatten_cons] at hc;have ht:=wK _ _ s (xA (m:=i * s) _ 0 hc);rw[<- hlen,List.take_left] at ht;rw[hlen] at ht;exact ht
end Vc
inductive Tr where
 | mk (kind:Int) (s:List UInt8) (n:Int) (ks:List Tr)
abbrev TV:=Int×ByteArray×Int×(Option Addr×Nat×Nat)×Unit
def MU (v:TV):List Value:=[.int .i64 v.1,.string v.2.1,.int .i64 v.2.2.1,.slice v.2.2.2.1.1 v.2.2.2.1.2.1 v.2.2.2.1.2.2]
mutual
def lF (w:World)(S:Nat->Prop):Tr->TV->Prop
 | .mk k s n ks,v=>v.1=k/\v.2.1=str s/\v.2.2.1=n/\∃ vs:List TV,du w 4 v.2.2.2.1 (vs.map MU).flatten/\vs.length=v.2.2.2.1.2.1/\(∀ b,aw v.2.2.2.1 b->S b)/\kG w S ks vs
def kG (w:World)(S:Nat->Prop):List Tr->List TV->Prop
 | [],vs=>vs=[]
 | t::ts,vs=>∃ v tL,vs=v::tL/\lF w S t v/\kG w S ts tL
end
mutual
theorem lF.ag {w w':World}{S T:Nat->Prop}(f:Fr T w w')(hn:∀ k,S k->¬ T k):∀ (t:Tr) (v:TV),lF w S t v->lF w' S t v
 | .mk k s n ks,v,h=>by
  unfold lF at h ⊢;obtain⟨a,b,c,vs,d,e,g,h⟩:=h;exact⟨a,b,c,vs,d.ag f (fun k hk=>hn k (g k hk)),e,g,kG.ag f hn ks vs h⟩
theorem kG.ag {w w':World}{S T:Nat->Prop}(f:Fr T w w')(hn:∀ k,S k->¬ T k):∀ (ts:List Tr) (vs:List TV),kG w S ts vs->kG w' S ts vs
 | [],vs,h=>by unfold kG at h ⊢;exact h
 | t::ts,vs,h=>by
  unfold kG at h ⊢;obtain⟨v,tL,rfl,h1,h2⟩:=h;exact⟨v,tL,rfl,lF.ag f hn t v h1,kG.ag f hn ts tL h2⟩
end
mutual
theorem lF.mono {w:World}{S T:Nat->Prop}(zX:∀ k,S k->T k):∀ (t:Tr) (v:TV),lF w S t v->lF w T t v
 | .mk k s n ks,v,h=>by
  unfold lF at h ⊢;obtain⟨a,b,c,vs,d,e,g,h⟩:=h;exact⟨a,b,c,vs,d,e,fun k hk=>zX k (g k hk),kG.mono zX ks vs h⟩
theorem kG.mono {w:World}{S T:Nat->Prop}(zX:∀ k,S k->T k):∀ (ts:List Tr) (vs:List TV),kG w S ts vs->kG w T ts vs
 | [],vs,h=>by unfold kG at h ⊢;exact h
 | t::ts,vs,h=>by
  unfold kG at h ⊢;obtain⟨v,tL,rfl,h1,h2⟩:=h;exact⟨v,tL,rfl,lF.mono zX t v h1,kG.mono zX ts tL h2⟩
end
theorem lF.kind {w:World}{S:Nat->Prop}{k:Int}{s:List UInt8}{n:Int}{ks:List Tr}{v:TV}(h:lF w S (.mk k s n ks) v):v.1=k:=by unfold lF at h;exact h.1
def sB:Ob->Tr
 | .none=>.mk 0 [] 0 []
 | .const n=>.mk 11 [] n []
 | .fix s=>.mk 12 s 0 []
 | .add l r=>.mk 13 [] 0 [sB l,sB r]
 | .neg o=>.mk 14 [] 0 [sB o]
 | .mul l r=>.mk 15 [] 0 [sB l,sB r]
 | .max l r=>.mk 16 [] 0 [sB l,sB r]
def rb:Tm->Tr
 | .none=>.mk 0 [] 0 []
 | .zero=>.mk 1 [] 0 []
 | .one s=>.mk 2 s 0 []
 | .gG t=>.mk 3 [] 0 [rb t]
 | .and l r=>.mk 4 [] 0 [rb l,rb r]
 | .or s l r=>.mk 5 s 0 [rb l,rb r]
 | .scale o t=>.mk 6 [] 0 [sB o,rb t]
 | .when d t=>.mk 7 [] d [rb t]
 | .cond o l r=>.mk 8 [] 0 [sB o,rb l,rb r]
def zY:Ob->Prop
 | .none=>True
 | .const _=>True
 | .fix s=>s.length<=1000
 | .add l r | .mul l r | .max l r=>zY l/\zY r
 | .neg o=>zY o
def rf:Tm->Prop
 | .none=>True
 | .zero=>True
 | .one s=>s.length<=1000
 | .gG t=>rf t
 | .and l r=>rf l/\rf r
 | .or s l r=>s.length<=1000/\rf l/\rf r
 | .scale o t=>zY o/\rf t
 | .when _ t=>rf t
 | .cond o l r=>zY o/\rf l/\rf r
def C9 (p0:Int)(p1:Int)(w:World)(K:Value->World->Prop):Prop:=
 aa (decide (p1<1))
 (K (.int .i64 0) w)
 (ur p1 (aa (decide ((Int.tmod p0 p1)<0))
 (K (.int .i64 (IntKind.i64.wrap ((Int.tmod p0 p1)+p1))) w)
 (K (.int .i64 (Int.tmod p0 p1)) w)))
def pl9:aB:=.auto
theorem c9 (p0:Int)(p1:Int)(w:World)(K:Value->World->Prop)(h:C9 p0 p1 w K):Ret Tryz.prog 9 #[.int .i64 p0,.int .i64 p1] w K:=aC (by kernel_rfl) Tryz.func9 (p:=pl9) (Eq.mpr (by kernel_rfl) h)
def within (v n:Int):Int:=if n<1 then 0 else v % n
theorem U1 (v n:Int):0<=within v n:=by unfold within;split;omega;exact Int.emod_nonneg _ (by omega)
theorem U2 (v:Int){n:Int}(h:1<=n):within v n<n:=by unfold within;rw[if_neg (by omega)];exact Int.emod_lt_of_pos _ (by omega)
theorem U3 (v n:Int)(w:World)(hn:n<=9223372036854775807):
  Ret Tryz.prog 9 #[.int .i64 v,.int .i64 n] w fun r w'=>r=.int .i64 (within v n)/\w=w':=by
 refine c9 v n w _ ?_;unfold C9 within;refine aa.dec (fun h=>?_) (fun h=>⟨by omega,?_⟩)
 ·rw[if_pos h];exact⟨rfl,rfl⟩
 ·rw[if_neg h]
  have e:v.tmod n=if 0<=v\/n ∣ v then v % n else v % n - n:=by
   rw[Int.tmod_eq_emod];split<;>omega
  have b0:=Int.emod_nonneg v (show n≠0 by omega);have b1:=Int.emod_lt_of_pos v (show 0<n by omega);refine aa.dec (fun h2=>⟨?_,rfl⟩) (fun h2=>⟨?_,rfl⟩)
  ·split at e
   ·omega
   ·rw[wI (by omega) (by omega)];congr 1;omega
  ·split at e
   ·rw[e]
   ·omega
theorem IsInts.ag {k:IntKind}{w w':World}{v:Sl}{zs:List Int}(h:IsInts k w v.1 v.2.1 v.2.2 zs){S:Nat->Prop}(f:Fr S w w')(hn:∀ b,0<v.2.2->aw v b->¬ S b):IsInts k w' v.1 v.2.1 v.2.2 zs:=by
 rcases h with h | ⟨x,hx,hl,hc,hz,hcell,hw⟩
 ·exact .inl h
 ·exact .inr ⟨x,hx,hl,hc,hz,fun i hi=>f.cell (hcell i hi) (by rw[show(x.add i).block=x.block by unfold Addr.add;split<;>rfl];exact hn _ (by omega) ⟨x,hx,rfl⟩),hw⟩
theorem IsStrs.ag {w w':World}{v:Sl}{zs:List ByteArray}(h:IsStrs w v.1 v.2.1 v.2.2 zs){S:Nat->Prop}(f:Fr S w w')(hn:∀ b,0<v.2.2->aw v b->¬ S b):IsStrs w' v.1 v.2.1 v.2.2 zs:=by
 rcases h with h | ⟨x,hx,hl,hc,hz,hcell,hw⟩
 ·exact .inl h
 ·exact .inr ⟨x,hx,hl,hc,hz,fun i hi=>f.cell (hcell i hi) (by rw[show(x.add i).block=x.block by unfold Addr.add;split<;>rfl];exact hn _ (by omega) ⟨x,hx,rfl⟩),hw⟩
structure CA (w:World)(m b:Nat)(i:Int):Prop where
 out:∃ (sn sw:Sl) (l lb:Int) (ns:List Int) (ws:List ByteArray),w.heap[b]? = some (.cells #[.slice sn.1 sn.2.1 sn.2.2,.slice sw.1 sw.2.1 sw.2.2,.int .i64 i,.int .i64 l,.int .i64 lb] 253 (0,0)) /\
  IsInts .i64 w sn.1 sn.2.1 sn.2.2 ns/\IsStrs w sw.1 sw.2.1 sw.2.2 ws/\(∀ k,0<sn.2.2->aw sn k->k<m/\k≠b)/\(∀ k,0<sw.2.2->aw sw k->k<m/\k≠b)
 lt:b<m
 le:m<=w.heap.size
structure At (w0:World)(m b:Nat)(i0:Int)(n:Nat)(w:World)(i:Int):Prop where
 U4:CA w m b i
 lo:i0<=i
 hi:i<=i0+n
 fr:Fr (only b) w0 w
 le:m<=w0.heap.size
theorem CA.ag {w w':World}{m b:Nat}{i:Int}(h:CA w m b i){S:Nat->Prop}(f:Fr S w w')(hn:∀ k,k<m->¬ S k):CA w' m b i:=by
 obtain⟨⟨sn,sw,l,lb,ns,ws,hb,h1,h2,h3,h4⟩,aU,hle⟩:=h;exact⟨⟨sn,sw,l,lb,ns,ws,f.ag hb (hn _ aU),IsInts.ag h1 f fun k hc hk=>hn k (h3 k hc hk).1,IsStrs.ag h2 f fun k hc hk=>hn k (h4 k hc hk).1,h3,h4⟩,aU,by have:=f.size;omega⟩
theorem At.ag {w0 w w':World}{m b n:Nat}{i0 i:Int}(h:At w0 m b i0 n w i){S:Nat->Prop}(f:Fr S w w')(hn:∀ k,k<w0.heap.size->¬ S k):At w0 m b i0 n w' i:=
 ⟨h.U4.ag f (fun k hk=>hn k (by have:=h.le;omega)),h.lo,h.hi,h.fr.comp f (fun x hx t=>(hn x hx t).elim),h.le⟩
def since (w w':World):Nat->Prop:=fun k=>w.heap.size<=k/\k<w'.heap.size
def TB (w:World)(g:Nat)(v:TV):Prop:=w.heap[g]? = some (.cells (MU v).toArray 60 (0,0))
theorem TB.ag {w w':World}{g:Nat}{v:TV}(h:TB w g v){S:Nat->Prop}(f:Fr S w w')(hn:¬ S g):TB w' g v:=f.ag h hn
theorem TB.k {w:World}{g:Nat}{v:TV}(h:TB w g v)(x:Int){K:World->Prop}(k:∀ w',TB w' g (x,v.2)->Fr (only g) w w'->K w'):az ((⟨g,0,none⟩:Addr).add 0) (.int .i64 x) w K:=
 az.ah h (by show 0+0<4;omega) rfl fun w' hb f _=>k w' hb f
theorem TB.s {w:World}{g:Nat}{v:TV}(h:TB w g v)(x:ByteArray){K:World->Prop}(k:∀ w',TB w' g (v.1,x,v.2.2)->Fr (only g) w w'->K w'):az ((⟨g,0,none⟩:Addr).add 1) (.string x) w K:=
 az.ah h (by show 0+1<4;omega) rfl fun w' hb f _=>k w' hb f
theorem TB.n {w:World}{g:Nat}{v:TV}(h:TB w g v)(x:Int){K:World->Prop}(k:∀ w',TB w' g (v.1,v.2.1,x,v.2.2.2)->Fr (only g) w w'->K w'):az ((⟨g,0,none⟩:Addr).add 2) (.int .i64 x) w K:=
 az.ah h (by show 0+2<4;omega) rfl fun w' hb f _=>k w' hb f
theorem TB.u {w:World}{g:Nat}{v:TV}(h:TB w g v)(x:Sl){K:World->Prop}(k:∀ w',TB w' g (v.1,v.2.1,v.2.2.1,x,())->Fr (only g) w w'->K w'):az ((⟨g,0,none⟩:Addr).add 3) (.slice x.1 x.2.1 x.2.2) w K:=
 az.ah h (by show 0+3<4;omega) rfl fun w' hb f _=>k w' hb f
def xB (w w':World)(ts:List Tr)(vs:List TV):Prop:=kG w' (since w w') ts vs
theorem xB.ag {w w1 w2:World}{t:List Tr}{v:List TV}(h:xB w w1 t v){S:Nat->Prop}(f:Fr S w1 w2)(hn:∀ k,w.heap.size<=k->k<w1.heap.size->¬ S k):xB w w2 t v:=
 kG.mono (fun k hk=>⟨hk.1,by have:=f.size;have:=hk.2;omega⟩) t v (kG.ag f (fun k hk=>hn k hk.1 hk.2) t v h)
structure CB (w wB wc:World)(m b g1 g2:Nat)(i:Int)(n:Nat)(i':Int)(v:TV):Prop where
 at_:At w m b i n wc i'
 t1:TB wc g1 (0,str [],0,(none,0,0),())
 t2:TB wc g2 v
 U5:w.heap.size<=g1
 MV:w.heap.size<=g2
 ne:g1≠g2
 U6:g1<wB.heap.size
 MW:g2<wB.heap.size
 B:wB.heap.size<=wc.heap.size
theorem CB.set {w wB wc wd:World}{m b g1 g2 n:Nat}{i i':Int}{v u:TV}(s:CB w wB wc m b g1 g2 i n i' v)(f:Fr (only g2) wc wd)(t:TB wd g2 u):CB w wB wd m b g1 g2 i n i' u:=
 ⟨s.at_.ag f (fun k hk t=>by have:k=g2:=t;have:=s.MV;omega),s.t1.ag f (fun t=>s.ne t),t,s.U5,s.MV,s.ne,s.U6,s.MW,Nat.le_trans s.B f.size⟩
theorem xB.set {w wB wc wd:World}{m b g1 g2 n:Nat}{i i':Int}{v:TV}(s:CB w wB wc m b g1 g2 i n i' v){ts:List Tr}{vs:List TV}(h:xB wB wc ts vs)(f:Fr (only g2) wc wd):xB wB wd ts vs:=
 h.ag f fun k hk _ t=>by have:k=g2:=t;have:=s.MW;omega
namespace Vc
variable {P:Program}
abbrev PlV:=(Option Addr×Nat×Nat)×(Option Addr×Nat×Nat)×Unit
def IsPl (w:World)(p:PlV):Prop:=(∃ ns,IsInts .i64 w p.1.1 p.1.2.1 p.1.2.2 ns)/\∃ ws,IsStrs w p.2.1.1 p.2.1.2.1 p.2.1.2.2 ws
theorem U7 {H:Type}{enc:TypeId×Value->H}{w:World}{base:Nat}{held:Bool}{t e:TypeId}{fuel:Nat}{cs:List Value}{x:DataW H×List MemPlace}(ht:P.underlying t=some (.slice e))(he:P.underlying e=some (.int .i64))(hc:P.cellsOf e=1)
  (h:DataW.trod enc P w base (fun _=>true) held fuel t cs=some x):∃ (u:Option Addr×Nat×Nat),cs=[.slice u.1 u.2.1 u.2.2]/\∃ ns,IsInts .i64 w u.1 u.2.1 u.2.2 ns:=by
 rcases Go.ChangeShapes.open_ints ht he hc h with⟨hcs,_⟩ | ⟨a,l,c,zs,hcs,_,hl,hm,hz,_,hcell,hwz⟩
 ·exact⟨(none,0,0),hcs,[],.inl ⟨rfl,rfl,rfl,rfl⟩⟩
 ·exact⟨(some a,l,c),hcs,zs,.inr ⟨a,rfl,hl,hm,by simpa using hz,hcell,hwz⟩⟩
theorem U8 {H:Type}{enc:TypeId×Value->H}{w:World}{base:Nat}{held:Bool}{t e:TypeId}{fuel:Nat}{cs:List Value}{x:DataW H×List MemPlace}(ht:P.underlying t=some (.slice e))(he:P.underlying e=some .string)(hc:P.cellsOf e=1)
  (h:DataW.trod enc P w base (fun _=>true) held fuel t cs=some x):∃ (u:Option Addr×Nat×Nat),cs=[.slice u.1 u.2.1 u.2.2]/\∃ ws,IsStrs w u.1 u.2.1 u.2.2 ws:=by
 rcases Go.ChangeShapes.open_strings ht he hc h with⟨hcs,_⟩ | ⟨a,l,c,zs,hcs,_,hl,hm,hz,_,hcell,hwz⟩
 ·exact⟨(none,0,0),hcs,[],.inl ⟨rfl,rfl,rfl,rfl⟩⟩
 ·exact⟨(some a,l,c),hcs,zs,.inr ⟨a,rfl,hl,hm,by simpa using hz,hcell,hwz⟩⟩
theorem open_plan {H:Type}{enc:TypeId×Value->H}{w:World}{base:Nat}{held:Bool}{t t0 t1 e0 e1:TypeId}{f0 f1:Field}{fuel:Nat}{cs:List Value}{x:DataW H×List MemPlace}
  (ht:P.underlying t=some (.struct #[f0,f1])) (U9:f0.type=t0) (xd:f1.type=t1) (GJ:f0.offset=0) (GK:f1.offset=1) (hc:P.cellsOf t=2) (GL:P.cellsOf t0=1) (ov:P.cellsOf t1=1)
  (h0:P.underlying t0=some (.slice e0)) (h1:P.underlying t1=some (.slice e1)) (k0:P.underlying e0=some (.int .i64)) (k1:P.underlying e1=some .string) (d0:P.cellsOf e0=1) (d1:P.cellsOf e1=1)
  (h:DataW.trod enc P w base (fun _=>true) held fuel t cs=some x):∃ p:PlV,cs=[.slice p.1.1 p.1.2.1 p.1.2.2,.slice p.2.1.1 p.2.1.2.1 p.2.1.2.2]/\IsPl w p:=by
 obtain⟨y0,y1,n,_,hlen,g0,g1⟩:=Go.ChangeShapes.trod_struct2 ht h;rw[U9,GJ,GL] at g0;rw[xd,GK,ov] at g1;obtain⟨u,hu,hi⟩:=U7 h0 k0 d0 g0;obtain⟨v,hv,hs⟩:=U8 h1 k1 d1 g1;rw[hc] at hlen
 match cs,hlen with
 | [a,b],_=>
  simp only[List.drop_zero,List.drop_succ_cons,List.take_succ_cons,List.take_zero,List.cons.injEq,and_true] at hu hv;exact⟨(u,v,()),by rw[hu,hv],hi,hs⟩
end Vc
abbrev qj:=Int×ByteArray×ByteArray×ByteArray×ByteArray×Int×Int×Int×ByteArray×Int×(Option Addr×Nat×Nat)×Unit
def CC (e:dV)(v:TV):qj:=(e.1,e.2.1,e.2.2.1,e.2.2.2.1,e.2.2.2.2.1,e.2.2.2.2.2.1,e.2.2.2.2.2.2.1,v.1,v.2.1,v.2.2.1,v.2.2.2.1,())
def vn (x:qj):List Value:=[.int .i64 x.1,.string x.2.1,.string x.2.2.1,.string x.2.2.2.1,.string x.2.2.2.2.1,.int .i64 x.2.2.2.2.2.1,.int .i64 x.2.2.2.2.2.2.1,.int .i64 x.2.2.2.2.2.2.2.1,.string x.2.2.2.2.2.2.2.2.1,.int .i64 x.2.2.2.2.2.2.2.2.2.1,.slice x.2.2.2.2.2.2.2.2.2.2.1.1 x.2.2.2.2.2.2.2.2.2.2.1.2.1 x.2.2.2.2.2.2.2.2.2.2.1.2.2]
def MX (x:qj):Value:=.agg #[.int .i64 x.1,.string x.2.1,.string x.2.2.1,.string x.2.2.2.1,.string x.2.2.2.2.1,.int .i64 x.2.2.2.2.2.1,.int .i64 x.2.2.2.2.2.2.1,.int .i64 x.2.2.2.2.2.2.2.1,.string x.2.2.2.2.2.2.2.2.1,.int .i64 x.2.2.2.2.2.2.2.2.2.1,.slice x.2.2.2.2.2.2.2.2.2.2.1.1 x.2.2.2.2.2.2.2.2.2.2.1.2.1 x.2.2.2.2.2.2.2.2.2.2.1.2.2]
abbrev EK:List Ck:=[.int .i64,.str,.str,.str,.str,.int .i64,.int .i64,.raw]
abbrev CD:List Ck:=[.int .i64,.str,.str,.str,.str,.int .i64,.int .i64,.int .i64,.str,.int .i64,.aj]
def gV (e:dV):List Value:=[.int .i64 e.1,.string e.2.1,.string e.2.2.1,.string e.2.2.2.1,.string e.2.2.2.2.1,.int .i64 e.2.2.2.2.2.1,.int .i64 e.2.2.2.2.2.2.1,e.2.2.2.2.2.2.2.1]
theorem GM {e:dV}(h:bK e.2.2.2.2.2.2.2.1=true):(gV e).all bK=true:=by
 show(bK (.int .i64 _)&&(bK (.string _)&&(bK (.string _)&&(bK (.string _)&&(bK (.string _)&&(bK (.int .i64 _)&&(bK (.int .i64 _)&&(bK e.2.2.2.2.2.2.2.1&&true))))))))=true;rw[h];rfl
def C305 (p0:Addr)(w:World)(K:Value->World->Prop):Prop:=
 ae .aj (p0.add 0) w (fun(x1:an)=>aa (decide ((x1.2.1:Int) > 0))
 (ae .aj (p0.add 0) w (fun(x2:an)=>bQ x2.1 x2.2.1 0 2 (fun a3=>ae (.int .i64) (a3.add 1) w (fun(x4:Int)=>K (.int .i64 x4) w))))
 (ae (.int .i64) (p0.add 1) w (fun(x5:Int)=>K (.int .i64 x5) w)))
def pl305:aB:=.auto
theorem c305 (p0:Addr)(w:World)(K:Value->World->Prop)(h:C305 p0 w K):Ret Tryz.prog 305 #[.pointer (some p0)] w K:=aC (by kernel_rfl) Tryz.func305 (p:=pl305) (Eq.mpr (by kernel_rfl) h)
def C281 (p0:Addr)(p1:Int)(w:World)(K:Value->World->Prop):Prop:=
 ae (.int .i64) (p0.add 3) w (fun(x1:Int)=>aa (x1==0)
 (ab Tryz.prog 305 #[.pointer (some p0)] w (.v (.one (.int .i64))) (fun(x2:Int) w3=>az (p0.add 3) (.int .i64 p1) w3 (fun w4=>az (p0.add 2) (.int .i64 x2) w4 (fun w5=>K (.tuple #[]) w5))))
 (K (.tuple #[]) w))
def pl281:aB:=.auto
theorem c281 (p0:Addr)(p1:Int)(w:World)(K:Value->World->Prop)(h:C281 p0 p1 w K):Ret Tryz.prog 281 #[.pointer (some p0),.int .i64 p1] w K:=aC (by kernel_rfl) Tryz.func281 (p:=pl281) (Eq.mpr (by kernel_rfl) h)
def C273 (p0:Addr)(p1:Value)(w:World)(K:Value->World->Prop):Prop:=
 cy (Bool×Unit) (fun J1=>ae (.int .i64) (p0.add 3) w (fun(x4:Int)=>aa (x4==0)
 (ae .aj (p0.add 0) w (fun(x5:an)=>aa ((x5.2.1:Int)==0)
 (J1 (true,()) w)
 (ae .aj (p0.add 0) w (fun(x6:an)=>bQ x6.1 x6.2.1 0 2 (fun a7=>ae .str (a7.add 0) w (fun(x8:ByteArray)=>kQ Tryz.prog p1 [.string x8] (.v (.one .bool)) w (fun(x9:Bool) aG=>J1 ((!x9),()) aG)))))))
 (J1 (false,()) w)))
 (fun _ s2 w3=>aa s2.1
 (ab Tryz.prog 281 #[.pointer (some p0),.int .i64 2] w3 (.aN []) (fun(aX:Unit) aL=>ae (.int .i64) (p0.add 3) aL (fun(bz:Int)=>aa (bz != 0)
 (K (.string (⟨#[]⟩:ByteArray)) aL)
 (ae .aj (p0.add 0) aL (fun(bg:an)=>bQ bg.1 bg.2.1 0 2 (fun uU=>ae .str (uU.add 0) aL (fun(aS:ByteArray)=>ae .aj (p0.add 0) aL (fun(ba:an)=>eX ba.1 ba.2.2 1 ba.2.1 ba.2.2 2 (fun vh GN c20=>az (p0.add 0) (.slice vh GN c20) aL (fun bw=>K (.string aS) bw))))))))))
 (ae (.int .i64) (p0.add 3) w3 (fun(bU:Int)=>aa (bU != 0)
 (K (.string (⟨#[]⟩:ByteArray)) w3)
 (ae .aj (p0.add 0) w3 (fun(cv:an)=>bQ cv.1 cv.2.1 0 2 (fun a24=>ae .str (a24.add 0) w3 (fun(bD:ByteArray)=>ae .aj (p0.add 0) w3 (fun(dc:an)=>eX dc.1 dc.2.2 1 dc.2.1 dc.2.2 2 (fun zZ Aa c29=>az (p0.add 0) (.slice zZ Aa c29) w3 (fun bS=>K (.string bD) bS))))))))))
def pl273:aB:=(.seq .auto (.seq (.join [(30,.one .bool)] .auto .auto) .auto))
theorem c273 (p0:Addr)(p1:Value)(w:World)(K:Value->World->Prop)(h:C273 p0 p1 w K):Ret Tryz.prog 273 #[.pointer (some p0),p1] w K:=aC (by kernel_rfl) Tryz.func273 (p:=pl273) (Eq.mpr (by kernel_rfl) h)
def C275 (p0:Addr)(p1:ByteArray)(w:World)(K:Value->World->Prop):Prop:=
 ak (.cells #[.string p1] 9) w (fun g1 w2=>ab Tryz.prog 273 #[.pointer (some p0),.func (.func 300) #[] #[.pointer (some (ad g1))]] w2 (.v (.one .str)) (fun(x3:ByteArray) w4=>K (.tuple #[]) w4))
def pl275:aB:=.auto
theorem c275 (p0:Addr)(p1:ByteArray)(w:World)(K:Value->World->Prop)(h:C275 p0 p1 w K):Ret Tryz.prog 275 #[.pointer (some p0),.string p1] w K:=aC (by kernel_rfl) Tryz.func275 (p:=pl275) (Eq.mpr (by kernel_rfl) h)
def C300 (p0:ByteArray)(c0:Addr)(w:World)(K:Value->World->Prop):Prop:=
 ae .str c0 w (fun(x1:ByteArray)=>K (.bool (p0.toList==x1.toList)) w)
def pl300:aB:=.auto
theorem c300 (p0:ByteArray)(c0:Addr)(w:World)(K:Value->World->Prop)(h:C300 p0 c0 w K):Ret Tryz.prog 300 #[.string p0,.pointer (some c0)] w K:=aC (by kernel_rfl) Tryz.func300 (p:=pl300) (Eq.mpr (by kernel_rfl) h)
def C276 (p0:Addr)(w:World)(K:Value->World->Prop):Prop:=
 ab Tryz.prog 273 #[.pointer (some p0),.func (.func 169) #[] #[]] w (.v (.one .str)) (fun(x1:ByteArray) w2=>K (.string x1) w2)
def pl276:aB:=.auto
theorem c276 (p0:Addr)(w:World)(K:Value->World->Prop)(h:C276 p0 w K):Ret Tryz.prog 276 #[.pointer (some p0)] w K:=aC (by kernel_rfl) Tryz.func276 (p:=pl276) (Eq.mpr (by kernel_rfl) h)
def C272 (p0:Addr)(p1:Int)(w:World)(K:Value->World->Prop):Prop:=
 aa (decide (p1 >= 12))
 (ab Tryz.prog 281 #[.pointer (some p0),.int .i64 5] w (.aN []) (fun(x1:Unit) w2=>ae (.int .i64) (p0.add 3) w2 (fun(x3:Int)=>K (.bool (x3 != 0)) w2)))
 (ae (.int .i64) (p0.add 3) w (fun(x4:Int)=>K (.bool (x4 != 0)) w))
def pl272:aB:=.auto
theorem c272 (p0:Addr)(p1:Int)(w:World)(K:Value->World->Prop)(h:C272 p0 p1 w K):Ret Tryz.prog 272 #[.pointer (some p0),.int .i64 p1] w K:=aC (by kernel_rfl) Tryz.func272 (p:=pl272) (Eq.mpr (by kernel_rfl) h)
def C302 (p0:Addr)(p1:Int)(w:World)(K:Value->World->Prop):Prop:=
 ab Tryz.prog 275 #[.pointer (some p0),.string (⟨#[40]⟩:ByteArray)] w (.aN []) (fun(x1:Unit) w2=>ab Tryz.prog 279 #[.pointer (some p0),.int .i64 p1] w2 (.v (.one .raw)) (fun(x3:Value) w4=>ab Tryz.prog 275 #[.pointer (some p0),.string (⟨#[44]⟩:ByteArray)] w4 (.aN []) (fun(x5:Unit) w6=>ab Tryz.prog 279 #[.pointer (some p0),.int .i64 p1] w6 (.v (.one .raw)) (fun(x7:Value) w8=>ab Tryz.prog 275 #[.pointer (some p0),.string (⟨#[41]⟩:ByteArray)] w8 (.aN []) (fun(x9:Unit) aG=>K (.tuple #[x3,x7]) aG)))))
def pl302:aB:=.auto
theorem c302 (p0:Addr)(p1:Int)(w:World)(K:Value->World->Prop)(h:C302 p0 p1 w K):Ret Tryz.prog 302 #[.pointer (some p0),.int .i64 p1] w K:=aC (by kernel_rfl) Tryz.func302 (p:=pl302) (Eq.mpr (by kernel_rfl) h)
def C279 (p0:Addr)(p1:Int)(w:World)(K:Value->World->Prop):Prop:=
 ab Tryz.prog 272 #[.pointer (some p0),.int .i64 p1] w (.v (.one .bool)) (fun(x1:Bool) w2=>aa x1
 (K .nilIface w2)
 (ab Tryz.prog 273 #[.pointer (some p0),.func (.func 301) #[] #[]] w2 (.v (.one .str)) (fun(x3:ByteArray) w4=>aa (x3.toList==(⟨#[]⟩:ByteArray).toList)
 (K .nilIface w4)
 (aa (x3.toList==(⟨#[102,105,120]⟩:ByteArray).toList)
 (ab Tryz.prog 275 #[.pointer (some p0),.string (⟨#[40]⟩:ByteArray)] w4 (.aN []) (fun(x5:Unit) w6=>ab Tryz.prog 276 #[.pointer (some p0)] w6 (.v (.one .str)) (fun(x7:ByteArray) w8=>ak (.cells #[.string (⟨#[]⟩:ByteArray)] 300) w8 (fun g9 aG=>ar (ad g9) [.string x7] aG (fun aO=>ab Tryz.prog 275 #[.pointer (some p0),.string (⟨#[41]⟩:ByteArray)] aO (.aN []) (fun(bx:Unit) aY=>aq [.str] (ad g9) aY (fun(bg:ByteArray×Unit)=>K (.iface 300 (.agg #[.string bg.1])) aY)))))))
 (aa (x3.toList==(⟨#[110,101,103]⟩:ByteArray).toList)
 (ab Tryz.prog 275 #[.pointer (some p0),.string (⟨#[40]⟩:ByteArray)] w4 (.aN []) (fun(bn:Unit) bj=>ab Tryz.prog 279 #[.pointer (some p0),.int .i64 (IntKind.i64.wrap (p1+1))] bj (.v (.one .raw)) (fun(ba:Value) bt=>jb ba (ak (.cells #[.nilIface] 304) bt (fun g19 bh=>ar (ad g19) [ba] bh (fun bw=>ab Tryz.prog 275 #[.pointer (some p0),.string (⟨#[41]⟩:ByteArray)] bw (.aN []) (fun(bU:Unit) cL=>aq [.raw] (ad g19) cL (fun(cm:Value×Unit)=>K (.iface 304 (.agg #[cm.1])) cL))))))))
 (aa (x3.toList==(⟨#[97,100,100]⟩:ByteArray).toList)
 (ab Tryz.prog 302 #[.pointer (some p0),.int .i64 (IntKind.i64.wrap (p1+1))] w4 (.aN [.one .raw,.one .raw]) (fun(bD:Value×Value×Unit) cn=>jb bD.1 (jb bD.2.1 (K (.iface 302 (.agg #[bD.1,bD.2.1])) cn))))
 (aa (x3.toList==(⟨#[109,117,108]⟩:ByteArray).toList)
 (ab Tryz.prog 302 #[.pointer (some p0),.int .i64 (IntKind.i64.wrap (p1+1))] w4 (.aN [.one .raw,.one .raw]) (fun(cA:Value×Value×Unit) bV=>jb cA.1 (jb cA.2.1 (K (.iface 305 (.agg #[cA.1,cA.2.1])) bV))))
 (aa (x3.toList==(⟨#[109,97,120]⟩:ByteArray).toList)
 (ab Tryz.prog 302 #[.pointer (some p0),.int .i64 (IntKind.i64.wrap (p1+1))] w4 (.aN [.one .raw,.one .raw]) (fun(cB:Value×Value×Unit) bS=>jb cB.1 (jb cB.2.1 (K (.iface 306 (.agg #[cB.1,cB.2.1])) bS))))
 (ab Tryz.prog 303 #[.string x3] w4 (.aN [.one (.int .i64),.one .bool]) (fun(bZ:Int×Bool×Unit) cU=>K (.iface 222 (.agg #[.int .i64 bZ.1])) cU))))))))))
def pl279:aB:=.auto
theorem c279 (p0:Addr)(p1:Int)(w:World)(K:Value->World->Prop)(h:C279 p0 p1 w K):Ret Tryz.prog 279 #[.pointer (some p0),.int .i64 p1] w K:=aC (by kernel_rfl) Tryz.func279 (p:=pl279) (Eq.mpr (by kernel_rfl) h)
def C280 (p0:Addr)(w:World)(K:Value->World->Prop):Prop:=
 ab Tryz.prog 273 #[.pointer (some p0),.func (.func 304) #[] #[]] w (.v (.one .str)) (fun(x1:ByteArray) w2=>ab Tryz.prog 303 #[.string x1] w2 (.aN [.one (.int .i64),.one .bool]) (fun(x3:Int×Bool×Unit) w4=>K (.int .i64 x3.1) w4))
def pl280:aB:=.auto
theorem c280 (p0:Addr)(w:World)(K:Value->World->Prop)(h:C280 p0 w K):Ret Tryz.prog 280 #[.pointer (some p0)] w K:=aC (by kernel_rfl) Tryz.func280 (p:=pl280) (Eq.mpr (by kernel_rfl) h)
def C304 (p0:ByteArray)(w:World)(K:Value->World->Prop):Prop:=
 ab Tryz.prog 303 #[.string p0] w (.aN [.one (.int .i64),.one .bool]) (fun(x1:Int×Bool×Unit) w2=>aa x1.2.1
 (aa (decide (x1.1 >= 0))
 (K (.bool (decide (x1.1<=10000))) w2)
 (K (.bool false) w2))
 (K (.bool false) w2))
def pl304:aB:=.auto
theorem c304 (p0:ByteArray)(w:World)(K:Value->World->Prop)(h:C304 p0 w K):Ret Tryz.prog 304 #[.string p0] w K:=aC (by kernel_rfl) Tryz.func304 (p:=pl304) (Eq.mpr (by kernel_rfl) h)
def C278 (p0:Addr)(p1:Int)(w:World)(K:Value->World->Prop):Prop:=
 ab Tryz.prog 256 #[.pointer (some p0),.int .i64 p1] w (.v (.one .raw)) (fun(x1:Value) w2=>ab Tryz.prog 275 #[.pointer (some p0),.string (⟨#[44]⟩:ByteArray)] w2 (.aN []) (fun(x3:Unit) w4=>ab Tryz.prog 256 #[.pointer (some p0),.int .i64 p1] w4 (.v (.one .raw)) (fun(x5:Value) w6=>ab Tryz.prog 275 #[.pointer (some p0),.string (⟨#[41]⟩:ByteArray)] w6 (.aN []) (fun(x7:Unit) w8=>K (.tuple #[x1,x5]) w8))))
def pl278:aB:=.auto
theorem c278 (p0:Addr)(p1:Int)(w:World)(K:Value->World->Prop)(h:C278 p0 p1 w K):Ret Tryz.prog 278 #[.pointer (some p0),.int .i64 p1] w K:=aC (by kernel_rfl) Tryz.func278 (p:=pl278) (Eq.mpr (by kernel_rfl) h)
def C277 (p0:Addr)(p1:Int)(w:World)(K:Value->World->Prop):Prop:=
 ab Tryz.prog 256 #[.pointer (some p0),.int .i64 p1] w (.v (.one .raw)) (fun(x1:Value) w2=>ab Tryz.prog 275 #[.pointer (some p0),.string (⟨#[41]⟩:ByteArray)] w2 (.aN []) (fun(x3:Unit) w4=>K x1 w4))
def pl277:aB:=.auto
theorem c277 (p0:Addr)(p1:Int)(w:World)(K:Value->World->Prop)(h:C277 p0 p1 w K):Ret Tryz.prog 277 #[.pointer (some p0),.int .i64 p1] w K:=aC (by kernel_rfl) Tryz.func277 (p:=pl277) (Eq.mpr (by kernel_rfl) h)
def C256 (p0:Addr)(p1:Int)(w:World)(K:Value->World->Prop):Prop:=
 ab Tryz.prog 272 #[.pointer (some p0),.int .i64 p1] w (.v (.one .bool)) (fun(x1:Bool) w2=>aa x1
 (K .nilIface w2)
 (ab Tryz.prog 273 #[.pointer (some p0),.func (.func 274) #[] #[]] w2 (.v (.one .str)) (fun(x3:ByteArray) w4=>aa (x3.toList==(⟨#[]⟩:ByteArray).toList)
 (K (.iface 235 (.agg #[])) w4)
 (aa (x3.toList==(⟨#[122,101,114,111]⟩:ByteArray).toList)
 (K (.iface 235 (.agg #[])) w4)
 (ab Tryz.prog 275 #[.pointer (some p0),.string (⟨#[40]⟩:ByteArray)] w4 (.aN []) (fun(x5:Unit) w6=>aa (x3.toList==(⟨#[111,110,101]⟩:ByteArray).toList)
 (ab Tryz.prog 276 #[.pointer (some p0)] w6 (.v (.one .str)) (fun(x7:ByteArray) w8=>ak (.cells #[.string (⟨#[]⟩:ByteArray)] 216) w8 (fun g9 aG=>ar (ad g9) [.string x7] aG (fun aO=>ab Tryz.prog 275 #[.pointer (some p0),.string (⟨#[41]⟩:ByteArray)] aO (.aN []) (fun(bx:Unit) aY=>aq [.str] (ad g9) aY (fun(bg:ByteArray×Unit)=>K (.iface 216 (.agg #[.string bg.1])) aY))))))
 (aa (x3.toList==(⟨#[103,105,118,101]⟩:ByteArray).toList)
 (ab Tryz.prog 277 #[.pointer (some p0),.int .i64 (IntKind.i64.wrap (p1+1))] w6 (.v (.one .raw)) (fun(bn:Value) bj=>jb bn (K (.iface 237 (.agg #[bn])) bj)))
 (aa (x3.toList==(⟨#[97,110,100]⟩:ByteArray).toList)
 (ab Tryz.prog 278 #[.pointer (some p0),.int .i64 (IntKind.i64.wrap (p1+1))] w6 (.aN [.one .raw,.one .raw]) (fun(ba:Value×Value×Unit) bt=>jb ba.1 (jb ba.2.1 (K (.iface 239 (.agg #[ba.1,ba.2.1])) bt))))
 (aa (x3.toList==(⟨#[111,114]⟩:ByteArray).toList)
 (ab Tryz.prog 276 #[.pointer (some p0)] w6 (.v (.one .str)) (fun(br:ByteArray) bh=>ak (.cells #[.string (⟨#[]⟩:ByteArray),.nilIface,.nilIface] 241) bh (fun g21 bJ=>ar (ad g21) [.string br,.nilIface,.nilIface] bJ (fun cL=>ab Tryz.prog 275 #[.pointer (some p0),.string (⟨#[44]⟩:ByteArray)] cL (.aN []) (fun(cm:Unit) di=>ab Tryz.prog 278 #[.pointer (some p0),.int .i64 (IntKind.i64.wrap (p1+1))] di (.aN [.one .raw,.one .raw]) (fun(dc:Value×Value×Unit) eN=>jb dc.1 (ar ((ad g21).add 1) [dc.1] eN (fun bV=>jb dc.2.1 (ar ((ad g21).add 2) [dc.2.1] bV (fun eD=>aq [.str,.raw,.raw] (ad g21) eD (fun(eB:ByteArray×Value×Value×Unit)=>K (.iface 241 (.agg #[.string eB.1,eB.2.1,eB.2.2.1])) eD)))))))))))
 (aa (x3.toList==(⟨#[115,99,97,108,101]⟩:ByteArray).toList)
 (ab Tryz.prog 279 #[.pointer (some p0),.int .i64 (IntKind.i64.wrap (p1+1))] w6 (.v (.one .raw)) (fun(bZ:Value) cU=>jb bZ (ak (.cells #[.nilIface,.nilIface] 245) cU (fun GO gJ=>ar (ad GO) [bZ,.nilIface] gJ (fun dL=>ab Tryz.prog 275 #[.pointer (some p0),.string (⟨#[44]⟩:ByteArray)] dL (.aN []) (fun(eg:Unit) dz=>ab Tryz.prog 277 #[.pointer (some p0),.int .i64 (IntKind.i64.wrap (p1+1))] dz (.v (.one .raw)) (fun(dF:Value) dO=>jb dF (ar ((ad GO).add 1) [dF] dO (fun dP=>aq [.raw,.raw] (ad GO) dP (fun(eM:Value×Value×Unit)=>K (.iface 245 (.agg #[eM.1,eM.2.1])) dP))))))))))
 (aa (x3.toList==(⟨#[119,104,101,110]⟩:ByteArray).toList)
 (ab Tryz.prog 280 #[.pointer (some p0)] w6 (.v (.one (.int .i64))) (fun(iA:Int) jQ=>ak (.cells #[.int .i64 0,.nilIface] 247) jQ (fun xe gr=>ar (ad xe) [.int .i64 iA,.nilIface] gr (fun iy=>ab Tryz.prog 275 #[.pointer (some p0),.string (⟨#[44]⟩:ByteArray)] iy (.aN []) (fun(dG:Unit) gF=>ab Tryz.prog 277 #[.pointer (some p0),.int .i64 (IntKind.i64.wrap (p1+1))] gF (.v (.one .raw)) (fun(fD:Value) mG=>jb fD (ar ((ad xe).add 1) [fD] mG (fun kB=>aq [.int .i64,.raw] (ad xe) kB (fun(qU:Int×Value×Unit)=>K (.iface 247 (.agg #[.int .i64 qU.1,qU.2.1])) kB)))))))))
 (ab Tryz.prog 279 #[.pointer (some p0),.int .i64 (IntKind.i64.wrap (p1+1))] w6 (.v (.one .raw)) (fun(fY:Value) gW=>jb fY (ak (.cells #[.nilIface,.nilIface,.nilIface] 249) gW (fun CE rV=>ar (ad CE) [fY,.nilIface,.nilIface] rV (fun om=>ab Tryz.prog 275 #[.pointer (some p0),.string (⟨#[44]⟩:ByteArray)] om (.aN []) (fun(oh:Unit) lV=>ab Tryz.prog 278 #[.pointer (some p0),.int .i64 (IntKind.i64.wrap (p1+1))] lV (.aN [.one .raw,.one .raw]) (fun(oc:Value×Value×Unit) uS=>jb oc.1 (ar ((ad CE).add 1) [oc.1] uS (fun jA=>jb oc.2.1 (ar ((ad CE).add 2) [oc.2.1] jA (fun tw=>aq [.raw,.raw,.raw] (ad CE) tw (fun(zz:Value×Value×Value×Unit)=>K (.iface 249 (.agg #[zz.1,zz.2.1,zz.2.2.1])) tw)))))))))))))))))))))))
def pl256:aB:=.auto
theorem c256 (p0:Addr)(p1:Int)(w:World)(K:Value->World->Prop)(h:C256 p0 p1 w K):Ret Tryz.prog 256 #[.pointer (some p0),.int .i64 p1] w K:=aC (by kernel_rfl) Tryz.func256 (p:=pl256) (Eq.mpr (by kernel_rfl) h)
def C257 (p0:Addr)(w:World)(K:Value->World->Prop):Prop:=
 ae .aj (p0.add 0) w (fun(x1:an)=>aa (decide ((x1.2.1:Int) > 0))
 (ab Tryz.prog 281 #[.pointer (some p0),.int .i64 2] w (.aN []) (fun(x2:Unit) w3=>K (.tuple #[]) w3))
 (K (.tuple #[]) w))
def pl257:aB:=.auto
theorem c257 (p0:Addr)(w:World)(K:Value->World->Prop)(h:C257 p0 w K):Ret Tryz.prog 257 #[.pointer (some p0)] w K:=aC (by kernel_rfl) Tryz.func257 (p:=pl257) (Eq.mpr (by kernel_rfl) h)
def C301 (p0:ByteArray)(w:World)(K:Value->World->Prop):Prop:=
 ab Tryz.prog 303 #[.string p0] w (.aN [.one (.int .i64),.one .bool]) (fun(x1:Int×Bool×Unit) w2=>aa x1.2.1
 (K (.bool true) w2)
 (aa (p0.toList==(⟨#[102,105,120]⟩:ByteArray).toList)
 (K (.bool true) w2)
 (aa (p0.toList==(⟨#[97,100,100]⟩:ByteArray).toList)
 (K (.bool true) w2)
 (aa (p0.toList==(⟨#[110,101,103]⟩:ByteArray).toList)
 (K (.bool true) w2)
 (aa (p0.toList==(⟨#[109,117,108]⟩:ByteArray).toList)
 (K (.bool true) w2)
 (K (.bool (p0.toList==(⟨#[109,97,120]⟩:ByteArray).toList)) w2))))))
def pl301:aB:=.auto
theorem c301 (p0:ByteArray)(w:World)(K:Value->World->Prop)(h:C301 p0 w K):Ret Tryz.prog 301 #[.string p0] w K:=aC (by kernel_rfl) Tryz.func301 (p:=pl301) (Eq.mpr (by kernel_rfl) h)
def C274 (p0:ByteArray)(w:World)(K:Value->World->Prop):Prop:=
 aa (p0.toList==(⟨#[122,101,114,111]⟩:ByteArray).toList)
 (aa (p0.toList==(⟨#[122,101,114,111]⟩:ByteArray).toList)
 (K (.bool true) w)
 (K (.bool false) w))
 (aa (p0.toList==(⟨#[111,110,101]⟩:ByteArray).toList)
 (aa (p0.toList==(⟨#[111,110,101]⟩:ByteArray).toList)
 (K (.bool true) w)
 (K (.bool false) w))
 (aa (p0.toList==(⟨#[103,105,118,101]⟩:ByteArray).toList)
 (aa (p0.toList==(⟨#[103,105,118,101]⟩:ByteArray).toList)
 (K (.bool true) w)
 (K (.bool false) w))
 (aa (p0.toList==(⟨#[97,110,100]⟩:ByteArray).toList)
 (aa (p0.toList==(⟨#[97,110,100]⟩:ByteArray).toList)
 (K (.bool true) w)
 (K (.bool false) w))
 (aa (p0.toList==(⟨#[111,114]⟩:ByteArray).toList)
 (aa (p0.toList==(⟨#[111,114]⟩:ByteArray).toList)
 (K (.bool true) w)
 (K (.bool false) w))
 (aa (p0.toList==(⟨#[115,99,97,108,101]⟩:ByteArray).toList)
 (aa (p0.toList==(⟨#[115,99,97,108,101]⟩:ByteArray).toList)
 (K (.bool true) w)
 (K (.bool false) w))
 (aa (p0.toList==(⟨#[119,104,101,110]⟩:ByteArray).toList)
 (aa (p0.toList==(⟨#[119,104,101,110]⟩:ByteArray).toList)
 (K (.bool true) w)
 (K (.bool false) w))
 (aa (p0.toList==(⟨#[105,102]⟩:ByteArray).toList)
 (K (.bool true) w)
 (K (.bool false) w))))))))
def pl274:aB:=.auto
theorem c274 (p0:ByteArray)(w:World)(K:Value->World->Prop)(h:C274 p0 w K):Ret Tryz.prog 274 #[.string p0] w K:=aC (by kernel_rfl) Tryz.func274 (p:=pl274) (Eq.mpr (by kernel_rfl) h)
def C255 (p0:ByteArray)(w:World)(K:Value->World->Prop):Prop:=
 ab Tryz.prog 270 #[.string p0] w (.v (.one (.int .i64))) (fun(x1:Int) w2=>ak (.cells #[.slice none 0 0,.int .i64 (IntKind.i64.wrap (x1+1)),.int .i64 0,.int .i64 0] 410) w2 (fun g3 w4=>aa (decide ((p0.size:Int) > 1000))
 (az ((ad g3).add 3) (.int .i64 5) w4 (fun w5=>K (.pointer (some (ad g3))) w5))
 (ab Tryz.prog 271 #[.string p0] w4 (.aN [.one .aj,.one (.int .i64)]) (fun(x6:an×Int×Unit) w7=>aa (decide (x6.2.1 > 0))
 (az ((ad g3).add 3) (.int .i64 2) w7 (fun w8=>az ((ad g3).add 2) (.int .i64 x6.2.1) w8 (fun w9=>az ((ad g3).add 0) (.slice x6.1.1 x6.1.2.1 x6.1.2.2) w9 (fun aG=>K (.pointer (some (ad g3))) aG))))
 (az ((ad g3).add 0) (.slice x6.1.1 x6.1.2.1 x6.1.2.2) w7 (fun aO=>K (.pointer (some (ad g3))) aO))))))
def pl255:aB:=.auto
theorem c255 (p0:ByteArray)(w:World)(K:Value->World->Prop)(h:C255 p0 w K):Ret Tryz.prog 255 #[.string p0] w K:=aC (by kernel_rfl) Tryz.func255 (p:=pl255) (Eq.mpr (by kernel_rfl) h)
def C230 (p0:ByteArray)(w:World)(K:Value->World->Prop):Prop:=
 ab Tryz.prog 255 #[.string p0] w (.v (.one .ptr)) (fun(x1:Option Addr) w2=>ab Tryz.prog 256 #[.pointer x1,.int .i64 0] w2 (.v (.one .raw)) (fun(x3:Value) w4=>ab Tryz.prog 257 #[.pointer x1] w4 (.aN []) (fun(x5:Unit) w6=>jI x1 (fun a7=>ae (.int .i64) (a7.add 3) w6 (fun(x8:Int)=>aa (x8==0)
 (ab Tryz.prog 170 #[x3] w6 (.v (.one (.int .i64))) (fun(x9:Int) aG=>jI x1 (fun GP=>az (GP.add 3) (.int .i64 x9) aG (fun aL=>jI x1 (fun GQ=>ae (.int .i64) (GQ.add 3) aL (fun(bg:Int)=>aa (bg != 0)
 (aD aL (fun bM=>jI x1 (fun yW=>ae (.int .i64) (yW.add 2) bM (fun(ba:Int)=>jI x1 (fun vh=>ae (.int .i64) (vh.add 3) bM (fun(br:Int)=>K (.tuple #[.nilIface,.int .i64 ba,.int .i64 br]) bM))))))
 (K (.tuple #[x3,.int .i64 0,.int .i64 0]) aL)))))))
 (jI x1 (fun a20=>ae (.int .i64) (a20.add 3) w6 (fun(bY:Int)=>aa (bY != 0)
 (aD w6 (fun bJ=>jI x1 (fun a23=>ae (.int .i64) (a23.add 2) bJ (fun(cm:Int)=>jI x1 (fun Va=>ae (.int .i64) (Va.add 3) bJ (fun(dc:Int)=>K (.tuple #[.nilIface,.int .i64 cm,.int .i64 dc]) bJ))))))
 (K (.tuple #[x3,.int .i64 0,.int .i64 0]) w6)))))))))
def pl230:aB:=(.seq .auto (.seq .auto (.seq .auto (.seq .auto (.seq .auto (.seq (.seq .auto (.cond (.seq .still .auto) .auto)) .auto))))))
theorem c230 (p0:ByteArray)(w:World)(K:Value->World->Prop)(h:C230 p0 w K):Ret Tryz.prog 230 #[.string p0] w K:=aC (by kernel_rfl) Tryz.func230 (p:=pl230) (Eq.mpr (by kernel_rfl) h)
theorem CF:∀ (R:List Int) (acc:List dM) (at_:Int) (run:Bool),(eS acc at_ run R).1.length<=acc.length+1+R.length
 | [],acc,at_,run=>by show acc.length<=_;simp only[List.length_nil];omega
 | r::R,acc,at_,run=>by
  have h1:=CF R (qZ acc (enc r)) (at_+1) true;have h2:=CF R (acc++[(enc r,at_+1)]) (at_+1) (kd r==97);have h3:=CF R acc (at_+1) false;have e1:(qZ acc (enc r)).length<=acc.length+1:=by unfold qZ;simp
  simp only[List.length_append,List.length_cons,List.length_nil] at h2 ⊢;unfold eS;split
  ·simp
  split
  ·omega
  split
  ·omega
  ·omega
theorem GR (o:Ob):bA o<=(kD o).length:=by
 induction o<;>simp_all [bA,kD]<;>omega
theorem Vb (t:Tm):aK t<=(jj t).length:=by
 induction t<;>simp_all [aK,jj]<;>(try have:=GR)<;>first | omega | (rename_i o _ _;have:=GR o;omega) | (rename_i o _ _ _ _;have:=GR o;omega)
theorem Vd {x:dM}{l:List dM}(h:x∈l):x.1.length<=kE (l.map Prod.fst):=by
 induction l with
 | nil=>cases h
 | cons y l ih=>
  have e:kE ((y::l).map Prod.fst)=y.1.length+kE (l.map Prod.fst):=by simp[kE]
  rw[e]
  rcases List.mem_cons.1 h with rfl | h
  ·omega
  ·have:=ih h;omega
theorem Ve {bs:List UInt8}(h:bs.length<=1000):∀ x∈(eS [] 0 false (cK bs)).1,x.1.length<=10000:=fun x hx=>by
 have h1:=Vd hx;have h2:=Cq (cK bs) [] 0 false;have h3:=Su (cK bs);have h4:=E1 bs;have h5:kE ((([]:List dM)).map Prod.fst)=0:=rfl;omega
theorem Vf (R:List Int):reads R<=R.length:=by unfold reads;exact(List.takeWhile_sublist _).length_le
theorem MY (s:ByteArray):∀ (fuel pos:Nat),s.size - pos<=fuel->Lib.runeCountFrom s fuel pos=(cK (s.data.toList.drop pos)).length
 | 0,pos,h=>by
  have:s.data.toList.drop pos=[]:=List.drop_eq_nil_of_le (by rw[yT];omega);rw[this];rfl
 | f+1,pos,h=>by
  unfold Lib.runeCountFrom
  by_cases hp:pos<s.size
  ·rw[if_pos hp]
   have ay:s.data.toList.drop pos≠[]:=fun t=>by
    have:=congrArg List.length t;rw[List.length_drop,yT,List.length_nil] at this;omega
   have hw:=wR (s.data.toList.drop pos);rw[yU _ ay,EZ,MY s f _ (by omega),List.length_cons,List.drop_drop];omega
  ·rw[if_neg hp]
   have:s.data.toList.drop pos=[]:=List.drop_eq_nil_of_le (by rw[yT];omega);rw[this];rfl
namespace Vc
theorem ar.one {b i:Nat}{v:Value}{w:World}{K:World->Prop}{cs:Array Value}{T:TypeId}(hb:w.heap[b]? = some (.cells cs T (0,0)))(hi:i<cs.size)(h1:bK v=true)
  (h:∀ w1,w1.heap[b]? = some (.cells (cs.setIfInBounds i v) T (0,0))->Fr (only b) w w1->w1.heap.size=w.heap.size->K w1):ar ((⟨b,0,none⟩:Addr).add i) [v] w K:=by
 have e:((⟨b,0,none⟩:Addr).add i).add 0=⟨b,i,none⟩:=by rw[dT,dT,Nat.zero_add,Nat.add_zero]
 refine⟨⟨h1,by rw[e,pM hb];simp[hi],by rw[e];exact yL hb,trivial⟩,?_⟩;show K (w.setCell (((⟨b,0,none⟩:Addr).add i).add 0) v);rw[e];exact h _ (heap_setCell_same hb) (yK _ _ _ _) (by simp[World.setCell])
end Vc
theorem Vg (x y:List UInt8):((str x).toList==(str y).toList)=(x==y):=by
 rw[jc]
 by_cases h:x=y<;>simp[h]
theorem aa.str {y z:List UInt8}{A B:Prop}(h:y=z->A)(k:y≠z->B):aa ((str y).toList==(str z).toList) A B:=by
 rw[jc];exact aa.dec h k
def Vh (sl:Sl)(fin a e:Int):Obj:=.cells #[.slice sl.1 sl.2.1 sl.2.2,.int .i64 fin,.int .i64 a,.int .i64 e] 410 (0,0)
def dR (w:World)(m b:Nat)(fin:Int)(s:RS):Prop:=∃ sl:Sl,w.heap[b]? = some (Vh sl fin s.at_ s.e)/\nx w sl s.l/\(¬ aw sl b/\b<m/\m<=w.heap.size/\∀ k,aw sl k->k<m)/\∀ x∈s.l,x.1.length<=10000
theorem dR.lt {w:World}{m b:Nat}{fin:Int}{s:RS}(h:dR w m b fin s):b<m/\m<=w.heap.size:=by
 obtain⟨sl,hb,_,⟨_,h1,h2,_⟩,_⟩:=h;exact⟨h1,h2⟩
theorem dR.ag {w w':World}{m b:Nat}{fin:Int}{s:RS}(h:dR w m b fin s){S:Nat->Prop}(f:Fr S w w')(hn:∀ k,k<m->¬ S k):dR w' m b fin s:=by
 obtain⟨sl,hb,hs,⟨h1,h2,h3,h4⟩,h5⟩:=h;exact⟨sl,f.ag hb (hn b h2),hs.ag f (fun k hk=>hn k (h4 k hk)),⟨h1,h2,Nat.le_trans h3 f.size,h4⟩,h5⟩
theorem dR.af {w w':World}{m b:Nat}{fin:Int}{s:RS}(h:dR w m b fin s)(f:Fr none1 w w'):dR w' m b fin s:=h.ag f (fun _ _ t=>t)
theorem Vi {w:World}{v:Sl}{x:dM}{l:List dM}(h:nx w v (x::l)){K:Option Addr->Nat->Nat->Prop}(k:∀ u:Sl,nx w u l->(∀ j,aw u j->aw v j)->K u.1 u.2.1 u.2.2):eX v.1 v.2.2 1 (v.2.1:Int) (v.2.2:Int) 2 K:=by
 obtain⟨hs,hl⟩:=h;simp only[List.length_cons] at hl;have e:nv (x::l)=[.string (str x.1),.int .i64 x.2]++nv l:=rfl
 rcases hs with⟨rfl,jM⟩ | ⟨g,off,cs,hv,hb,hle,hc,hn,he⟩
 ·dsimp only at hl;omega
 ·refine⟨by omega,by omega,by omega,by omega,?_⟩
  rw[hv];have hlen:=vg l;have Fj:=vg (x::l);simp only[List.length_cons] at Fj
  by_cases h1:(v.2.2:Int)=1
  ·rw[if_pos h1]
   have:l=[]:=List.eq_nil_of_length_eq_zero (by omega);subst this;refine k (some ⟨g,off,none⟩,((v.2.1:Int) - 1).toNat,((v.2.2:Int) - 1).toNat) ⟨.inr ⟨g,off,cs,rfl,hb,by dsimp only;omega,by dsimp only;omega,?_,fun i hi=>?_⟩,?_⟩ (fun j hj=>?_)
   ·dsimp only;rw[hlen,List.length_nil];omega
   ·rw[hlen,List.length_nil] at hi;omega
   ·dsimp only;rw[List.length_nil];omega
   ·obtain⟨a,ha,rfl⟩:=hj;injection ha with ha;subst ha;exact⟨_,hv,rfl⟩
  ·rw[if_neg h1]
   have ea:(some (⟨g,off,none⟩:Addr)).map (·.add (Int.toNat 1 * 2))=some ⟨g,off+2,none⟩:=by
    show some ((⟨g,off,none⟩:Addr).add (1 * 2))=_;rw[dT]
   rw[ea];refine k (some ⟨g,off+2,none⟩,((v.2.1:Int) - 1).toNat,((v.2.2:Int) - 1).toNat) ⟨.inr ⟨g,off+2,cs,rfl,hb,by dsimp only;omega,by dsimp only;omega,?_,fun i hi=>?_⟩,?_⟩ (fun j hj=>?_)
   ·dsimp only;rw[hlen];omega
   ·rw[hlen] at hi
    have:=he (i+2) (by omega);rw[show off+2+i=off+(i+2) by omega,this,e];rfl
   ·dsimp only;omega
   ·obtain⟨a,ha,rfl⟩:=hj;injection ha with ha;subst ha;exact⟨_,hv,rfl⟩
theorem Vj {w:World}{m b:Nat}{fin:Int}{s:RS}(h:dR w m b fin s):Ret Tryz.prog 305 #[.pointer (some ⟨b,0,none⟩)] w fun r w'=>r=.int .i64 (Gj fin s)/\w=w':=by
 refine c305 _ w _ ?_;obtain⟨sl,hb,hs,_⟩:=h;have hl:=hs.len;refine ae.ah hb (x:=sl) rfl ?_;unfold Gj;cases jh:s.l with
 | nil=>
  rw[jh] at hl;refine aa.no (by rw[hl];decide) (ae.ah hb (x:=fin) rfl ⟨rfl,rfl⟩)
 | cons x l=>
  rw[jh] at hl hs;simp only[List.length_cons] at hl;refine aa.yes (by omega) (ae.ah hb (x:=sl) rfl ?_);exact Ce hs (i:=0) (by omega) (by omega) (x:=x) rfl fun a _ k2 _=>k2 _ ⟨rfl,rfl⟩
theorem GS {w:World}{m b:Nat}{fin:Int}{s:RS}(h:dR w m b fin s)(c:Int):Ret Tryz.prog 281 #[.pointer (some ⟨b,0,none⟩),.int .i64 c] w fun r w'=>r=.tuple #[]/\dR w' m b fin (kZ fin c s)/\Fr (only b) w w':=by
 refine c281 _ c w _ ?_;obtain⟨sl,hb,hs,lA,hsz⟩:=id h;refine ae.ah hb (x:=s.e) rfl ?_;unfold kZ;refine aa.eq (fun he=>?_) (fun he=>?_)
 ·rw[if_pos he]
  refine ab.of (Vj h) ?_;rintro _ _ ⟨rfl,rfl⟩;refine⟨_,rfl,?_⟩;refine az.ah hb (by show 0+3<4;omega) rfl fun w1 au f1 _=>?_;refine az.ah au (by show 0+2<4;omega) rfl fun w2 aI f2 _=>?_;have f:=f1.trans f2;exact⟨rfl,⟨sl,aI,hs.ag f (fun k hk t=>lA.1 (by have:k=b:=t;rw[<- this];exact hk)),⟨lA.1,lA.2.1,Nat.le_trans lA.2.2.1 f.size,lA.2.2.2⟩,hsz⟩,f⟩
 ·rw[if_neg he]
  exact⟨rfl,h,Fr.refl _ _⟩
theorem Ab {w:World}{m b:Nat}{fin:Int}{s:RS}(h:dR w m b fin s)(v:Value)(right:List UInt8->Bool)
  (hr:∀ x:List UInt8,x.length<=10000->∀ K:Bool->World->Prop,(∀ w1,Fr none1 w w1->K (right x) w1)->kQ Tryz.prog v [.string (str x)] (.v (.one .bool)) w K) :
  Ret Tryz.prog 273 #[.pointer (some ⟨b,0,none⟩),v] w fun r w'=>r=.string (str (cp fin right s).1)/\dR w' m b fin (cp fin right s).2/\Fr (only b) w w':=by
 refine c273 _ v w _ ?_;obtain⟨sl,hb,hs,lA,hsz⟩:=id h;have hl:=hs.len
 rcases s with⟨l,a,e⟩
 dsimp only at hb hs hsz hl;refine cy.of (fun c w'=>c.1=(decide (e=0)&&match l with | []=>true | x::_=>!right x.1)/\Fr none1 w w') ?_ ?_
 ·refine ae.ah hb (x:=e) rfl ?_
  refine aa.eq (fun he=>ae.ah hb (x:=sl) rfl ?_) (fun he=>⟨by simp[he],Fr.refl _ _⟩);cases l with
  | nil=>exact aa.t (by rw[hl];rfl) ⟨by simp[he],Fr.refl _ _⟩
  | cons x l=>
   simp only[List.length_cons] at hl;refine aa.f (by rw[hl];exact beq_eq_false_iff_ne.2 (by omega)) (ae.ah hb (x:=sl) rfl ?_);refine Ce hs (i:=0) (by omega) (by omega) (x:=x) rfl fun q k1 _ _=>k1 _ ?_;exact hr x.1 (hsz x (by simp)) _ fun w1 f1=>⟨by simp[he],f1⟩
 rintro _ ⟨c,_⟩ w3 ⟨hc,f3⟩;dsimp only at hc ⊢;have h3:=h.af f3;refine aa.by (fun e1=>?_) (fun e1=>?_)
 ·rw[e1] at hc
  have pe:=Bool.and_eq_true_iff.1 hc.symm;have he:e=0:=of_decide_eq_true pe.1;subst he;refine ab.of (GS h3 2) ?_;rintro _ w4 ⟨rfl,h4,f4⟩;refine⟨(),rfl,?_⟩;have ht:cp fin right ⟨l,a,0⟩=([],kZ fin 2 ⟨l,a,0⟩):=by
   cases l with
   | nil=>exact Mf
   | cons x l=>exact Me (by simpa using pe.2)
  rw[ht];obtain⟨sl4,dy,MZ⟩:=id h4;refine ae.ah dy (x:=2) rfl (aa.t rfl ?_);exact⟨rfl,h4,Fr.eL f3 f4⟩
 ·obtain⟨M0,aR,pj,CG,_⟩:=id h3
  refine ae.ah aR (x:=e) rfl ?_;refine aa.ne (fun he=>?_) (fun he=>?_)
  ·rw[Mg (s:=⟨l,a,e⟩) he]
   exact⟨rfl,h3,Fr.eL f3 (Fr.refl _ _)⟩
  ·subst he
   rw[e1] at hc;cases l with
   | nil=>simp at hc
   | cons x l=>
    have hx:right x.1=true:=by simpa using hc
    rw[Gk hx];have Vk:=pj.len;simp only[List.length_cons] at Vk;refine ae.ah aR (x:=M0) rfl ?_;refine Ce pj (i:=0) (by omega) (by omega) (x:=x) rfl fun q k1 _ _=>k1 _ ?_;refine ae.ah aR (x:=M0) rfl ?_;refine Vi pj fun u hu mH=>?_;refine az.ah aR (by show 0+0<4;omega) rfl fun w4 dy f4 _=>?_;have M1:¬ aw u b:=fun t=>CG.1 (mH b t);exact⟨rfl,⟨u,dy,hu.ag f4 (fun k hk t=>M1 (by have:k=b:=t;rw[<- this];exact hk)),⟨M1,CG.2.1,Nat.le_trans CG.2.2.1 f4.size,fun k hk=>CG.2.2.2 k (mH k hk)⟩,fun y hy=>hsz y (by simp[hy])⟩,Fr.eL f3 f4⟩
theorem nE {w:World}{m b:Nat}{fin:Int}{s:RS}(h:dR w m b fin s)(x:List UInt8):Ret Tryz.prog 275 #[.pointer (some ⟨b,0,none⟩),.string (str x)] w fun r w'=>r=.tuple #[]/\dR w' m b fin (dC fin x s)/\Fr (only b) w w':=by
 refine c275 _ (str x) w _ ?_;refine ak.of fun g w1 hg au f1 _=>?_;refine ab.of (Ab (h.af f1) _ (fun y=>decide (y=x)) fun y _ K hK=>?_) ?_
 ·have hf:Ret Tryz.prog 300 #[.string (str y),.pointer (some ⟨g,0,none⟩)] w1 fun r w'=>r=.bool (decide (y=x))/\w1=w':=by
   refine c300 (str y) _ w1 _ ?_;refine ae.of au (x:=str x) rfl ?_;rw[jc];exact⟨rfl,rfl⟩
  refine mm (by kernel_rfl) Tryz.func300 (by kernel_rfl) (hf.mono ?_);rintro _ _ ⟨rfl,rfl⟩;exact⟨_,rfl,hK _ (Fr.refl _ _)⟩
 ·rintro _ w2 ⟨rfl,h2,f2⟩
  exact⟨_,rfl,rfl,h2,Fr.eL f1 f2⟩
theorem GU {w:World}{m b:Nat}{fin:Int}{s:RS}(h:dR w m b fin s):Ret Tryz.prog 276 #[.pointer (some ⟨b,0,none⟩)] w fun r w'=>r=.string (str (cp fin fm s).1)/\dR w' m b fin (cp fin fm s).2/\Fr (only b) w w':=by
 refine c276 _ w _ ?_;refine ab.of (Ab h _ fm fun y _ K hK=>?_) ?_
 ·refine mm (by kernel_rfl) Tryz.func169 (by kernel_rfl) ((uQ y w).mono ?_)
  rintro _ w1 ⟨rfl,f1⟩;exact⟨_,rfl,hK w1 f1⟩
 ·rintro _ w2 ⟨rfl,h2,f2⟩
  exact⟨_,rfl,rfl,h2,f2⟩
theorem Vl (y:List UInt8)(hl:y.length<=10000)(w:World):Ret Tryz.prog 301 #[.string (str y)] w fun r w'=>r=.bool (ie y)/\Fr none1 w w':=by
 refine c301 (str y) w _ ?_;refine ab.of (Cn y (by omega) w) ?_;rintro _ w1 ⟨rfl,f1⟩;refine⟨(_,_,()),rfl,?_⟩;unfold ie;refine aa.by (fun e=>?_) (fun e=>?_)
 ·have e:(gi y).2=true:=e
  rw[e];exact⟨rfl,f1⟩
 have e:(gi y).2=false:=e;rw[e,Bool.false_or];refine aa.str (z:=[102,105,120]) (fun e=>⟨by rw[e];rfl,f1⟩) (fun e=>?_);rw[beq_eq_false_iff_ne.2 e,Bool.false_or];refine aa.str (z:=[97,100,100]) (fun e=>⟨by rw[e];rfl,f1⟩) (fun e=>?_);rw[beq_eq_false_iff_ne.2 e,Bool.false_or];refine aa.str (z:=[110,101,103]) (fun e=>⟨by rw[e];rfl,f1⟩) (fun e=>?_);rw[beq_eq_false_iff_ne.2 e,Bool.false_or];refine aa.str (z:=[109,117,108]) (fun e=>⟨by rw[e];rfl,f1⟩) (fun e=>?_);rw[beq_eq_false_iff_ne.2 e,Bool.false_or,<- Vg y [109,97,120]];exact⟨rfl,f1⟩
theorem Vm (y:List UInt8)(w:World):Ret Tryz.prog 274 #[.string (str y)] w fun r w'=>r=.bool (gz y)/\w=w':=by
 refine c274 (str y) w _ ?_;unfold gz;refine aa.str (z:=[122,101,114,111]) (fun e=>aa.str (z:=[122,101,114,111]) (fun _=>⟨by rw[e];rfl,rfl⟩) (fun k=>absurd e k)) (fun e=>?_);rw[beq_eq_false_iff_ne.2 e,Bool.false_or];refine aa.str (z:=[111,110,101]) (fun e=>aa.str (z:=[111,110,101]) (fun _=>⟨by rw[e];rfl,rfl⟩) (fun k=>absurd e k)) (fun e=>?_);rw[beq_eq_false_iff_ne.2 e,Bool.false_or];refine aa.str (z:=[103,105,118,101]) (fun e=>aa.str (z:=[103,105,118,101]) (fun _=>⟨by rw[e];rfl,rfl⟩) (fun k=>absurd e k)) (fun e=>?_);rw[beq_eq_false_iff_ne.2 e,Bool.false_or];refine aa.str (z:=[97,110,100]) (fun e=>aa.str (z:=[97,110,100]) (fun _=>⟨by rw[e];rfl,rfl⟩) (fun k=>absurd e k)) (fun e=>?_);rw[beq_eq_false_iff_ne.2 e,Bool.false_or];refine aa.str (z:=[111,114]) (fun e=>aa.str (z:=[111,114]) (fun _=>⟨by rw[e];rfl,rfl⟩) (fun k=>absurd e k)) (fun e=>?_);rw[beq_eq_false_iff_ne.2 e,Bool.false_or];refine aa.str (z:=[115,99,97,108,101]) (fun e=>aa.str (z:=[115,99,97,108,101]) (fun _=>⟨by rw[e];rfl,rfl⟩) (fun k=>absurd e k)) (fun e=>?_);rw[beq_eq_false_iff_ne.2 e,Bool.false_or];refine aa.str (z:=[119,104,101,110]) (fun e=>aa.str (z:=[119,104,101,110]) (fun _=>⟨by rw[e];rfl,rfl⟩) (fun k=>absurd e k)) (fun e=>?_);rw[beq_eq_false_iff_ne.2 e,Bool.false_or];refine aa.str (z:=[105,102]) (fun e=>⟨by rw[e];rfl,rfl⟩) (fun e=>?_);rw[beq_eq_false_iff_ne.2 e];exact⟨rfl,rfl⟩
theorem Vn (y:List UInt8)(hl:y.length<=10000)(w:World):Ret Tryz.prog 304 #[.string (str y)] w fun r w'=>r=.bool (lW y)/\Fr none1 w w':=by
 refine c304 (str y) w _ ?_;refine ab.of (Cn y (by omega) w) ?_;rintro _ w1 ⟨rfl,f1⟩;refine⟨(_,_,()),rfl,?_⟩;unfold lW;refine aa.by (fun e=>?_) (fun e=>?_)
 ·have e:(gi y).2=true:=e
  rw[e,Bool.true_and];refine aa.dec (fun h=>?_) (fun h=>?_)
  ·have h:0<=(gi y).1:=h
   rw[decide_eq_true h,Bool.true_and];exact⟨rfl,f1⟩
  ·have h:¬ 0<=(gi y).1:=h
   rw[decide_eq_false h];exact⟨rfl,f1⟩
 ·have e:(gi y).2=false:=e
  rw[e];exact⟨rfl,f1⟩
theorem Vo {w:World}{m b:Nat}{fin:Int}{s:RS}(h:dR w m b fin s):Ret Tryz.prog 280 #[.pointer (some ⟨b,0,none⟩)] w fun r w'=>r=.int .i64 (gi (cp fin lW s).1).1/\dR w' m b fin (cp fin lW s).2/\Fr (only b) w w':=by
 refine c280 _ w _ ?_;refine ab.of (Ab h _ lW fun y hy K hK=>?_) ?_
 ·refine mm (by kernel_rfl) Tryz.func304 (by kernel_rfl) ((Vn y hy w).mono ?_)
  rintro _ w1 ⟨rfl,f1⟩;exact⟨_,rfl,hK w1 f1⟩
 ·rintro _ w2 ⟨rfl,h2,f2⟩
  refine⟨_,rfl,?_⟩;have hsz:(cp fin lW s).1.length<=100000:=by
   obtain⟨_,_,_,_,hz⟩:=h;unfold cp;split
   ·split
    ·simp
    ·rename_i x l hl
     split
     ·have:=hz x (by rw[hl];simp);dsimp only;omega
     ·simp
   ·simp
  refine ab.of (Cn _ hsz w2) ?_;rintro _ w3 ⟨rfl,f3⟩;exact⟨(_,_,()),rfl,rfl,h2.af f3,f2.dq f3⟩
theorem Vp {w:World}{m b:Nat}{fin:Int}{s:RS}(h:dR w m b fin s)(right:List UInt8->Bool):(cp fin right s).1.length<=10000:=by
 obtain⟨_,_,_,_,hz⟩:=h;unfold cp;split
 ·split
  ·simp
  ·rename_i x l hl
   split
   ·have:=hz x (by rw[hl];simp);dsimp only;omega
   ·simp
 ·simp
theorem CH {w:World}{m b:Nat}{fin:Int}{s:RS}(h:dR w m b fin s)(n:Nat)(hn:n<=12):Ret Tryz.prog 272 #[.pointer (some ⟨b,0,none⟩),.int .i64 (12 - (n:Int))] w fun r w'=>
  r=.bool (decide (n=0)||decide (s.e≠0))/\dR w' m b fin (if n=0 then kZ fin 5 s else s)/\Fr (only b) w w':=by
 refine c272 _ _ w _ ?_;refine aa.dec (fun h0=>?_) (fun h0=>?_)
 ·have:n=0:=by omega
  subst this;refine ab.of (GS h 5) ?_;rintro _ w1 ⟨rfl,h1,f1⟩;refine⟨(),rfl,?_⟩;obtain⟨sl,hb,_⟩:=id h1;refine ae.ah hb (x:=(kZ fin 5 s).e) rfl ?_;refine⟨?_,h1,f1⟩;have:(kZ fin 5 s).e≠0:=by
   unfold kZ;split
   ·show(5:Int)≠0;decide
   ·assumption
  rw[show((kZ fin 5 s).e != 0)=true from by simp[this]];rfl
 ·have M3:n≠0:=by omega
  obtain⟨sl,hb,_⟩:=id h;refine ae.ah hb (x:=s.e) rfl ?_;refine⟨?_,by rw[if_neg M3];exact h,Fr.refl _ _⟩;rw[decide_eq_false M3,Bool.false_or]
  congr 1
  by_cases he:s.e=0<;>simp[he]
theorem GV {w:World}{m b:Nat}{fin:Int}{s:RS}(h:dR w m b fin s)(x:List UInt8){T:TypeId}{zs:List Value}{cks:List Ck}(c:Cs cks)(hl:zs.length=(Cs.vals cks c).length)(h1:(Cs.vals cks c).all bK=true){K:Cs cks->World->Prop}
  (k:∀ w',dR w' m b fin (dC fin x s)->Fr (only b) w w'->K c w') :
  ak (.cells zs.toArray T) w fun g w1=>ar ⟨g,0,none⟩ (Cs.vals cks c) w1 fun w2=>ab Tryz.prog 275 #[.pointer (some ⟨b,0,none⟩),.string (str x)] w2 (.aN []) fun(_:Unit) w3=>aq cks ⟨g,0,none⟩ w3 fun y=>K y w3:=by
 refine cM hl h1 fun g w4 hg hb f=>?_;have aU:=h.lt;refine ab.of (nE (h.af f) x) ?_;rintro _ w5 ⟨rfl,h5,f5⟩;refine⟨(),rfl,?_⟩;refine aq.aE (f5.ag hb (fun t=>by have:g=b:=t;omega)) ?_;exact k w5 h5 (Fr.eL f f5)
theorem M4 (n:Nat)(hn:n+1<=12):IntKind.i64.wrap (12 - ((n+1:Nat):Int)+1)=12 - (n:Int):=by
 rw[wI (by omega) (by omega)];omega
theorem GW:∀ (n:Nat) (hn:n<=12) {w:World} {m b:Nat} {fin:Int} {s:RS} (h:dR w m b fin s),Ret Tryz.prog 279 #[.pointer (some ⟨b,0,none⟩),.int .i64 (12 - (n:Int))] w fun r w'=>r=(ji fin n s).1.v/\dR w' m b fin (ji fin n s).2/\Fr (only b) w w'
 | 0,hn,w,m,b,fin,s,h=>by
  refine c279 _ _ w _ ?_;refine ab.of (CH h 0 hn) ?_;rintro _ w1 ⟨rfl,h1,f1⟩;exact⟨_,rfl,aa.t rfl ⟨rfl,h1,f1⟩⟩
 | n+1,hn,w,m,b,fin,s,h=>by
  have ih:=fun{w:World} {s:RS} (h:dR w m b fin s)=>GW n (by omega) h;refine c279 _ _ w _ ?_;refine ab.of (CH h (n+1) hn) ?_;rintro _ w1 ⟨rfl,h1,f1⟩;rw[if_neg (by omega)] at h1;refine⟨_,rfl,?_⟩;dsimp only;rw[M4 n hn];unfold ji
  by_cases he:s.e=0
  case neg=>
   rw[if_pos he];exact aa.t (by simp[he]) ⟨rfl,h1,f1⟩
  rw[if_neg (by simpa using he)];refine aa.f (by simp[he]) ?_;refine ab.of (Ab h1 _ ie fun y hy K hK=>?_) ?_
  ·refine mm (by kernel_rfl) Tryz.func301 (by kernel_rfl) ((Vl y hy w1).mono ?_)
   rintro _ w2 ⟨rfl,f2⟩;exact⟨_,rfl,hK w2 f2⟩
  rintro _ w2 ⟨rfl,h2,f2⟩;have vo:=Vp h1 ie;refine⟨_,rfl,?_⟩;generalize(cp fin ie s).1=x at vo ⊢;generalize(cp fin ie s).2=s2 at h2 ⊢;have f12:=f1.trans f2;have pair:∀ {K:Value×Value×Unit->World->Prop},(∀ w',dR w' m b fin (ig fin (ji fin n) s2).2.2->Fr (only b) w w'->K ((ig fin (ji fin n) s2).1.v,(ig fin (ji fin n) s2).2.1.v,()) w') ->
    ab Tryz.prog 302 #[.pointer (some ⟨b,0,none⟩),.int .i64 (12 - (n:Int))] w2 (.aN [.one .raw,.one .raw]) K:=fun{K} hK=>by
   have hp:Ret Tryz.prog 302 #[.pointer (some ⟨b,0,none⟩),.int .i64 (12 - (n:Int))] w2 fun r w'=>r=.tuple #[(ig fin (ji fin n) s2).1.v,(ig fin (ji fin n) s2).2.1.v]/\dR w' m b fin (ig fin (ji fin n) s2).2.2/\Fr (only b) w2 w':=by
    refine c302 _ _ w2 _ ?_;refine ab.of (nE h2 [40]) ?_;rintro _ w3 ⟨rfl,h3,f3⟩;refine⟨(),rfl,?_⟩;refine ab.of (ih h3) ?_;rintro _ w4 ⟨rfl,h4,f4⟩;refine⟨_,rfl,?_⟩;refine ab.of (nE h4 [44]) ?_;rintro _ w5 ⟨rfl,h5,f5⟩;refine⟨(),rfl,?_⟩;refine ab.of (ih h5) ?_;rintro _ w6 ⟨rfl,h6,f6⟩;refine⟨_,rfl,?_⟩;refine ab.of (nE h6 [41]) ?_;rintro _ w7 ⟨rfl,h7,f7⟩;exact⟨(),rfl,rfl,h7,(((f3.trans f4).trans f5).trans f6).trans f7⟩
   refine ab.of hp ?_;rintro _ w3 ⟨rfl,h3,f3⟩;exact⟨(_,_,()),rfl,hK w3 h3 (f12.trans f3)⟩
  refine aa.str (z:=[]) (fun e=>?_) (fun e=>?_)
  ·rw[if_pos e];exact⟨rfl,h2,f12⟩
  rw[if_neg e];unfold sj;refine aa.str (z:=[102,105,120]) (fun e=>?_) (fun e=>?_)
  ·rw[if_pos e]
   refine ab.of (nE h2 [40]) ?_;rintro _ w3 ⟨rfl,h3,f3⟩;refine⟨(),rfl,?_⟩;refine ab.of (GU h3) ?_;rintro _ w4 ⟨rfl,h4,f4⟩;refine⟨_,rfl,?_⟩;exact GV h4 [41] (zs:=[.string (⟨#[]⟩:ByteArray)]) (cks:=[.str]) (str (cp fin fm (dC fin [40] s2)).1,()) rfl rfl fun w5 h5 f5=>⟨rfl,h5,((f12.trans f3).trans f4).trans f5⟩
  rw[if_neg e];refine aa.str (z:=[110,101,103]) (fun e=>?_) (fun e=>?_)
  ·rw[if_pos e]
   refine ab.of (nE h2 [40]) ?_;rintro _ w3 ⟨rfl,h3,f3⟩;refine⟨(),rfl,?_⟩;refine ab.of (ih h3) ?_;rintro _ w4 ⟨rfl,h4,f4⟩;refine⟨_,rfl,⟨Ob.fR _,?_⟩⟩;exact GV h4 [41] (zs:=[.nilIface]) (cks:=[.raw]) ((ji fin n (dC fin [40] s2)).1.v,()) rfl (by simp[Cs.vals,Ck.val,Ob.bW]) fun w5 h5 f5=>⟨rfl,h5,((f12.trans f3).trans f4).trans f5⟩
  rw[if_neg e];refine aa.str (z:=[97,100,100]) (fun e=>?_) (fun e=>?_)
  ·rw[if_pos e]
   exact pair fun w3 h3 f3=>⟨Ob.fR _,⟨Ob.fR _,rfl,h3,f3⟩⟩
  rw[if_neg e];refine aa.str (z:=[109,117,108]) (fun e=>?_) (fun e=>?_)
  ·rw[if_pos e]
   exact pair fun w3 h3 f3=>⟨Ob.fR _,⟨Ob.fR _,rfl,h3,f3⟩⟩
  rw[if_neg e];refine aa.str (z:=[109,97,120]) (fun e=>?_) (fun e=>?_)
  ·rw[if_pos e]
   exact pair fun w3 h3 f3=>⟨Ob.fR _,⟨Ob.fR _,rfl,h3,f3⟩⟩
  rw[if_neg e];refine ab.of (Cn x (by omega) w2) ?_;rintro _ w3 ⟨rfl,f3⟩;exact⟨(_,_,()),rfl,rfl,h2.af f3,f12.dq f3⟩
theorem M5:bK .nilIface=true:=rfl
theorem GX {n:Nat}(ih:∀ {w:World} {m b:Nat} {fin:Int} {s:RS},dR w m b fin s->Ret Tryz.prog 256 #[.pointer (some ⟨b,0,none⟩),.int .i64 (12 - (n:Int))] w fun r w'=>r=(fK fin n s).1.v/\dR w' m b fin (fK fin n s).2/\Fr (only b) w w')
  {w:World} {m b:Nat} {fin:Int} {s:RS} (h:dR w m b fin s):Ret Tryz.prog 277 #[.pointer (some ⟨b,0,none⟩),.int .i64 (12 - (n:Int))] w fun r w'=>r=(k8 fin (fK fin n) s).1.v/\dR w' m b fin (k8 fin (fK fin n) s).2/\Fr (only b) w w':=by
 refine c277 _ _ w _ ?_;refine ab.of (ih h) ?_;rintro _ w1 ⟨rfl,h1,f1⟩;refine⟨_,rfl,?_⟩;refine ab.of (nE h1 [41]) ?_;rintro _ w2 ⟨rfl,h2,f2⟩;exact⟨(),rfl,rfl,h2,f1.trans f2⟩
theorem GY {n:Nat}(ih:∀ {w:World} {m b:Nat} {fin:Int} {s:RS},dR w m b fin s->Ret Tryz.prog 256 #[.pointer (some ⟨b,0,none⟩),.int .i64 (12 - (n:Int))] w fun r w'=>r=(fK fin n s).1.v/\dR w' m b fin (fK fin n s).2/\Fr (only b) w w')
  {w:World} {m b:Nat} {fin:Int} {s:RS} (h:dR w m b fin s):Ret Tryz.prog 278 #[.pointer (some ⟨b,0,none⟩),.int .i64 (12 - (n:Int))] w fun r w'=>
   r=.tuple #[(ij fin (fK fin n) s).1.v,(ij fin (fK fin n) s).2.1.v]/\dR w' m b fin (ij fin (fK fin n) s).2.2/\Fr (only b) w w':=by
 refine c278 _ _ w _ ?_;refine ab.of (ih h) ?_;rintro _ w1 ⟨rfl,h1,f1⟩;refine⟨_,rfl,?_⟩;refine ab.of (nE h1 [44]) ?_;rintro _ w2 ⟨rfl,h2,f2⟩;refine⟨(),rfl,?_⟩;refine ab.of (ih h2) ?_;rintro _ w3 ⟨rfl,h3,f3⟩;refine⟨_,rfl,?_⟩;refine ab.of (nE h3 [41]) ?_;rintro _ w4 ⟨rfl,h4,f4⟩;exact⟨(),rfl,rfl,h4,((f1.trans f2).trans f3).trans f4⟩
theorem M6:∀ (n:Nat) (hn:n<=12) {w:World} {m b:Nat} {fin:Int} {s:RS} (h:dR w m b fin s),Ret Tryz.prog 256 #[.pointer (some ⟨b,0,none⟩),.int .i64 (12 - (n:Int))] w fun r w'=>r=(fK fin n s).1.v/\dR w' m b fin (fK fin n s).2/\Fr (only b) w w'
 | 0,hn,w,m,b,fin,s,h=>by
  refine c256 _ _ w _ ?_;refine ab.of (CH h 0 hn) ?_;rintro _ w1 ⟨rfl,h1,f1⟩;exact⟨_,rfl,aa.t rfl ⟨rfl,h1,f1⟩⟩
 | n+1,hn,w,m,b,fin,s,h=>by
  have ih:=fun{w:World} {m b:Nat} {fin:Int} {s:RS} (h:dR w m b fin s)=>M6 n (by omega) h;refine c256 _ _ w _ ?_;refine ab.of (CH h (n+1) hn) ?_;rintro _ w1 ⟨rfl,h1,f1⟩;rw[if_neg (by omega)] at h1;refine⟨_,rfl,?_⟩;dsimp only;rw[M4 n hn];unfold fK
  by_cases he:s.e=0
  case neg=>
   rw[if_pos he];exact aa.t (by simp[he]) ⟨rfl,h1,f1⟩
  rw[if_neg (by simpa using he)];refine aa.f (by simp[he]) ?_;refine ab.of (Ab h1 _ gz fun y hy K hK=>?_) ?_
  ·refine mm (by kernel_rfl) Tryz.func274 (by kernel_rfl) ((Vm y w1).mono ?_)
   rintro _ _ ⟨rfl,rfl⟩;exact⟨_,rfl,hK w1 (Fr.refl _ _)⟩
  rintro _ w2 ⟨rfl,h2,f2⟩;refine⟨_,rfl,?_⟩;generalize(cp fin gz s).1=x;generalize(cp fin gz s).2=s1 at h2 ⊢;have f12:=f1.trans f2;refine aa.str (z:=[]) (fun e=>?_) (fun e=>?_)
  ·rw[if_pos e];exact⟨rfl,h2,f12⟩
  rw[if_neg e];refine aa.str (z:=[122,101,114,111]) (fun e=>?_) (fun e=>?_)
  ·rw[if_pos e];exact⟨rfl,h2,f12⟩
  rw[if_neg e];refine ab.of (nE h2 [40]) ?_;rintro _ w3 ⟨rfl,h3,f3⟩;refine⟨(),rfl,?_⟩;have f13:=f12.trans f3;generalize dC fin [40] s1=s2 at h3 ⊢;have aU:=h.lt;unfold q8;refine aa.str (z:=[111,110,101]) (fun e=>?_) (fun e=>?_)
  ·rw[if_pos e]
   refine ab.of (GU h3) ?_;rintro _ w4 ⟨rfl,h4,f4⟩;refine⟨_,rfl,?_⟩;exact GV h4 [41] (zs:=[.string (⟨#[]⟩:ByteArray)]) (cks:=[.str]) (str (cp fin fm s2).1,()) rfl rfl fun w5 h5 f5=>⟨rfl,h5,(f13.trans f4).trans f5⟩
  rw[if_neg e];refine aa.str (z:=[103,105,118,101]) (fun e=>?_) (fun e=>?_)
  ·rw[if_pos e]
   refine ab.of (GX ih h3) ?_;rintro _ w4 ⟨rfl,h4,f4⟩;exact⟨_,rfl,⟨Tm.fR _,rfl,h4,f13.trans f4⟩⟩
  rw[if_neg e];refine aa.str (z:=[97,110,100]) (fun e=>?_) (fun e=>?_)
  ·rw[if_pos e]
   refine ab.of (GY ih h3) ?_;rintro _ w4 ⟨rfl,h4,f4⟩;exact⟨(_,_,()),rfl,⟨Tm.fR _,⟨Tm.fR _,rfl,h4,f13.trans f4⟩⟩⟩
  rw[if_neg e];refine aa.str (z:=[111,114]) (fun e=>?_) (fun e=>?_)
  ·rw[if_pos e]
   refine ab.of (GU h3) ?_;rintro _ w4 ⟨rfl,h4,f4⟩;refine⟨_,rfl,?_⟩;generalize(cp fin fm s2).1=y;generalize(cp fin fm s2).2=s3 at h4 ⊢;refine cM (zs:=[.string (⟨#[]⟩:ByteArray),.nilIface,.nilIface]) (vs:=[.string (str y),.nilIface,.nilIface]) rfl rfl fun g w5 hg hb f5=>?_;have GZ:m<=g:=by have:=h4.lt;omega
   have j9:g≠b:=by have:=h4.lt;omega
   refine ab.of (nE (h4.af f5) [44]) ?_;rintro _ w6 ⟨rfl,h6,f6⟩;refine⟨(),rfl,?_⟩;refine ab.of (GY ih h6) ?_;rintro _ w7 ⟨rfl,h7,f7⟩;refine⟨(_,_,()),rfl,⟨Tm.fR _,?_⟩⟩;have gC:=f7.jK (f6.jK hb j9) j9;refine ar.one gC (by show 1<3;omega) (Tm.bW _) fun w8 jB f8 _=>⟨Tm.fR _,?_⟩;refine ar.one jB (by show 2<3;omega) (Tm.bW _) fun w9 lG f9 _=>?_;refine aq.aE (x:=(str y,(ij fin (fK fin n) (dC fin [44] s3)).1.v,(ij fin (fK fin n) (dC fin [44] s3)).2.1.v,())) lG ?_;have f89:=f8.trans f9;exact⟨rfl,h7.ag f89 (fun k hk t=>by have:k=g:=t;omega),(f13.trans f4).trans ((Fr.eL f5 (f6.trans f7)).comp f89 fun x hx t=>by have:x=g:=t;omega)⟩
  rw[if_neg e];refine aa.str (z:=[115,99,97,108,101]) (fun e=>?_) (fun e=>?_)
  ·rw[if_pos e]
   refine ab.of (GW n (by omega) h3) ?_;rintro _ w4 ⟨rfl,h4,f4⟩;refine⟨_,rfl,⟨Ob.fR _,?_⟩⟩;generalize(ji fin n s2).1=y;generalize(ji fin n s2).2=s3 at h4 ⊢;refine cM (zs:=[.nilIface,.nilIface]) (vs:=[y.v,.nilIface]) rfl (by simp[Ob.bW,M5]) fun g w5 hg hb f5=>?_;have GZ:m<=g:=by have:=h4.lt;omega
   have j9:g≠b:=by have:=h4.lt;omega
   refine ab.of (nE (h4.af f5) [44]) ?_;rintro _ w6 ⟨rfl,h6,f6⟩;refine⟨(),rfl,?_⟩;refine ab.of (GX ih h6) ?_;rintro _ w7 ⟨rfl,h7,f7⟩;refine⟨_,rfl,⟨Tm.fR _,?_⟩⟩;have gC:=f7.jK (f6.jK hb j9) j9;refine ar.one gC (by show 1<2;omega) (Tm.bW _) fun w8 jB f8 _=>?_;refine aq.aE (x:=(y.v,(k8 fin (fK fin n) (dC fin [44] s3)).1.v,())) jB ?_;exact⟨rfl,h7.ag f8 (fun k hk t=>by have:k=g:=t;omega),(f13.trans f4).trans ((Fr.eL f5 (f6.trans f7)).comp f8 fun x hx t=>by have:x=g:=t;omega)⟩
  rw[if_neg e];refine aa.str (z:=[119,104,101,110]) (fun e=>?_) (fun e=>?_)
  ·rw[if_pos e]
   refine ab.of (Vo h3) ?_;rintro _ w4 ⟨rfl,h4,f4⟩;refine⟨_,rfl,?_⟩;generalize(gi (cp fin lW s2).1).1=y;generalize(cp fin lW s2).2=s3 at h4 ⊢;refine cM (zs:=[.int .i64 0,.nilIface]) (vs:=[.int .i64 y,.nilIface]) rfl rfl fun g w5 hg hb f5=>?_;have GZ:m<=g:=by have:=h4.lt;omega
   have j9:g≠b:=by have:=h4.lt;omega
   refine ab.of (nE (h4.af f5) [44]) ?_;rintro _ w6 ⟨rfl,h6,f6⟩;refine⟨(),rfl,?_⟩;refine ab.of (GX ih h6) ?_;rintro _ w7 ⟨rfl,h7,f7⟩;refine⟨_,rfl,⟨Tm.fR _,?_⟩⟩;have gC:=f7.jK (f6.jK hb j9) j9;refine ar.one gC (by show 1<2;omega) (Tm.bW _) fun w8 jB f8 _=>?_;refine aq.aE (x:=(y,(k8 fin (fK fin n) (dC fin [44] s3)).1.v,())) jB ?_;exact⟨rfl,h7.ag f8 (fun k hk t=>by have:k=g:=t;omega),(f13.trans f4).trans ((Fr.eL f5 (f6.trans f7)).comp f8 fun x hx t=>by have:x=g:=t;omega)⟩
  rw[if_neg e];refine ab.of (GW n (by omega) h3) ?_;rintro _ w4 ⟨rfl,h4,f4⟩;refine⟨_,rfl,⟨Ob.fR _,?_⟩⟩;generalize(ji fin n s2).1=y;generalize(ji fin n s2).2=s3 at h4 ⊢;refine cM (zs:=[.nilIface,.nilIface,.nilIface]) (vs:=[y.v,.nilIface,.nilIface]) rfl (by simp[Ob.bW,M5]) fun g w5 hg hb f5=>?_;have GZ:m<=g:=by have:=h4.lt;omega
  have j9:g≠b:=by have:=h4.lt;omega
  refine ab.of (nE (h4.af f5) [44]) ?_;rintro _ w6 ⟨rfl,h6,f6⟩;refine⟨(),rfl,?_⟩;refine ab.of (GY ih h6) ?_;rintro _ w7 ⟨rfl,h7,f7⟩;refine⟨(_,_,()),rfl,⟨Tm.fR _,?_⟩⟩;have gC:=f7.jK (f6.jK hb j9) j9;refine ar.one gC (by show 1<3;omega) (Tm.bW _) fun w8 jB f8 _=>⟨Tm.fR _,?_⟩;refine ar.one jB (by show 2<3;omega) (Tm.bW _) fun w9 lG f9 _=>?_;refine aq.aE (x:=(y.v,(ij fin (fK fin n) (dC fin [44] s3)).1.v,(ij fin (fK fin n) (dC fin [44] s3)).2.1.v,())) lG ?_;have f89:=f8.trans f9;exact⟨rfl,h7.ag f89 (fun k hk t=>by have:k=g:=t;omega),(f13.trans f4).trans ((Fr.eL f5 (f6.trans f7)).comp f89 fun x hx t=>by have:x=g:=t;omega)⟩
theorem Vq (bs:List UInt8)(hl:bs.length<9223372036854775807)(w:World):Ret Tryz.prog 270 #[.string (str bs)] w fun r w'=>r=.int .i64 ((cK bs).length:Int)/\Fr none1 w w':=by
 refine(Tryz.utf8_RuneCountInString (str bs) w (by rw[dU];exact hl)).mono ?_;rintro e w' ⟨rfl,pos,rfl⟩;refine⟨_,rfl,?_,mu _ _⟩;unfold Lib.runeCount;rw[MY _ _ _ (by omega),ku,List.drop_zero]
theorem Vr (bs:List UInt8)(hl:bs.length<=1000000000000)(w:World):Ret Tryz.prog 255 #[.string (str bs)] w fun r w'=>∃ m g:Nat,r=.pointer (some ⟨g,0,none⟩)/\dR w' m g (ny bs) (lX bs)/\Fr none1 w w'/\w.heap.size<=g:=by
 refine c255 (str bs) w _ ?_;refine ab.of (Vq bs (by omega) w) ?_;rintro _ w1 ⟨rfl,f1⟩;refine⟨_,rfl,?_⟩;have Ac:=E1 bs;have Vs:IntKind.i64.wrap (((cK bs).length:Int)+1)=ny bs:=wI (by omega) (by omega);refine ak.of fun g w2 hg hb f2 gw=>?_;rw[Vs] at hb;have vp:w.heap.size<=g:=by have:=f1.size;omega
 unfold lX;rw[dU];refine aa.dec (fun h=>?_) (fun h=>?_)
 ·rw[if_pos (by omega)]
  refine az.ah hb (by show 0+3<4;omega) rfl fun w3 aR f3 pj=>?_;exact⟨g+1,g,rfl,⟨(none,0,0),aR,Ga _,⟨kz _,by omega,by omega,fun k t=>(kz k t).elim⟩,fun x hx=>by cases hx⟩,f1.trans (f2.fresh f3 (by omega)),vp⟩
 ·rw[if_neg (by omega)]
  refine ab.of (T5 bs w2 (by have:=Vf (cK bs);omega)) ?_;rintro _ w3 ⟨sl,rfl,jh,f3,hf⟩;refine⟨((sl.1,sl.2.1,sl.2.2),_,()),rfl,?_⟩;have aR:=f3.af hb;have hz:=Ve (bs:=bs) (by omega);have vq:¬ aw sl g:=fun t=>by have:=hf g t;omega
  have M7:∀ k,aw sl k->k<w3.heap.size:=fun k hk=>jh.sl.lt hk;refine aa.dec (fun hp=>?_) (fun hp=>?_)
  ·rw[if_pos (show 0<(eS [] 0 false (cK bs)).2 from hp)]
   refine az.ah aR (by show 0+3<4;omega) rfl fun w4 dy f4 sC=>?_;refine az.ah dy (by show 0+2<4;omega) rfl fun w5 cY f5 Ad=>?_;refine az.ah cY (by show 0+0<4;omega) rfl fun w6 fq f6 M8=>?_;have f46:=(f4.trans f5).trans f6;exact⟨w3.heap.size,g,rfl,⟨sl,fq,jh.ag f46 (fun k hk t=>vq (by have:k=g:=t;rw[<- this];exact hk)),⟨vq,bL aR,by omega,M7⟩,hz⟩,f1.trans ((f2.trans f3).fresh f46 (by omega)),vp⟩
  ·rw[if_neg (show ¬ 0<(eS [] 0 false (cK bs)).2 from hp)]
   refine az.ah aR (by show 0+0<4;omega) rfl fun w4 dy f4 sC=>?_;exact⟨w3.heap.size,g,rfl,⟨sl,dy,jh.ag f4 (fun k hk t=>vq (by have:k=g:=t;rw[<- this];exact hk)),⟨vq,bL aR,by omega,M7⟩,hz⟩,f1.trans ((f2.trans f3).fresh f4 (by omega)),vp⟩
theorem Vt {w:World}{m b:Nat}{fin:Int}{s:RS}(h:dR w m b fin s):Ret Tryz.prog 257 #[.pointer (some ⟨b,0,none⟩)] w fun r w'=>r=.tuple #[]/\dR w' m b fin (tE fin s)/\Fr (only b) w w':=by
 refine c257 _ w _ ?_;obtain⟨sl,hb,hs,_⟩:=id h;have hl:=hs.len;refine ae.ah hb (x:=sl) rfl ?_;unfold tE;cases jh:s.l with
 | nil=>
  rw[jh] at hl;exact aa.no (by rw[hl];decide) ⟨rfl,h,Fr.refl _ _⟩
 | cons x l=>
  rw[jh] at hl;simp only[List.length_cons] at hl;refine aa.yes (by omega) ?_;refine ab.of (GS h 2) ?_;rintro _ w1 ⟨rfl,h1,f1⟩;exact⟨(),rfl,rfl,h1,f1⟩
theorem M9 {bs:List UInt8}(h:(pd bs).e=0):aK (fK (ny bs) 12 (lX bs)).1<=1000000:=by
 obtain⟨h1,h2,_⟩:=UE h;obtain⟨i1,_,_⟩:=Mm (ny bs) 12 (lX bs) h1;obtain⟨b1,_,b3⟩:=UJ i1.e;obtain⟨xs,hx,ou⟩:=i1.xr;have h3:=Vb (fK (ny bs) 12 (lX bs)).1;rw[<- ou,List.length_map] at h3;rw[h2,List.append_nil,b3] at hx;have h4:=CF (cK bs) [] 0 false;have h5:=E1 bs;have hx:(eS [] 0 false (cK bs)).1=xs:=hx;rw[hx,List.length_nil] at h4;omega
theorem Vu (bs:List UInt8)(hl:bs.length<=1000000000000)(w:World):Ret Tryz.prog 230 #[.string (str bs)] w fun r w'=>r=.tuple #[(nz bs).1.v,.int .i64 (nz bs).2.1,.int .i64 (nz bs).2.2]/\Fr none1 w w':=by
 refine c230 (str bs) w _ ?_;refine ab.of (Vr bs hl w) ?_;rintro _ w1 ⟨m,g,rfl,h1,f1,hg⟩;refine⟨_,rfl,?_⟩;refine ab.of (M6 12 (Nat.le_refl _) h1) ?_;rintro _ w2 ⟨rfl,h2,f2⟩;refine⟨_,rfl,?_⟩;refine ab.of (Vt h2) ?_;rintro _ w3 ⟨rfl,h3,f3⟩;refine⟨(),rfl,?_⟩;have f13:Fr none1 w w3:=f1.fresh (f2.trans f3) hg;have h3:dR w3 m g (ny bs) (pd bs):=h3;obtain⟨sl,hb,_⟩:=id h3;unfold nz;refine ae.ah hb (x:=(pd bs).e) rfl ?_;refine aa.eq (fun he=>?_) (fun he=>?_)
 ·rw[if_neg (fun t=>t he)]
  refine ab.of (FH _ (M9 he) w3) ?_;rintro _ w4 ⟨rfl,f4⟩;refine⟨_,rfl,?_⟩;refine az.ah (f4.af hb) (by show 0+3<4;omega) rfl fun w5 cY f5 _=>?_;refine ae.ah cY (x:=jR (fK (ny bs) 12 (lX bs)).1) rfl ?_;have f15:Fr none1 w w5:=(f13.trans f4).fresh f5 (by omega);refine aa.ne (fun hc=>?_) (fun hc=>?_)
  ·rw[if_pos hc]
   refine aD.of fun w6 _ f6=>?_;refine ae.ah (f6.af cY) (x:=(pd bs).at_) rfl (ae.ah (f6.af cY) (x:=jR (fK (ny bs) 12 (lX bs)).1) rfl ?_);exact⟨rfl,f15.trans f6⟩
  ·rw[if_neg (fun t=>t hc)]
   exact⟨rfl,f15⟩
 ·rw[if_pos he]
  refine ae.ah hb (x:=(pd bs).e) rfl ?_;refine aa.ne (fun _=>?_) (fun hc=>absurd hc he);refine aD.of fun w6 _ f6=>?_;refine ae.ah (f6.af hb) (x:=(pd bs).at_) rfl (ae.ah (f6.af hb) (x:=(pd bs).e) rfl ?_);exact⟨rfl,f13.trans f6⟩
theorem G1 {α:Type}(a b:List α)(d:α){i:Nat}(h:i<a.length):(a++b).getD i d=a.getD i d:=by
 rw[List.getD_eq_getElem?_getD,List.getD_eq_getElem?_getD,List.getElem?_append_left h]
theorem Na {α:Type}(a:List α)(x d:α):(a++[x]).getD a.length d=x:=by
 rw[List.getD_eq_getElem?_getD];simp
theorem bd.jV {w:World}{v:Sl}{bs:List UInt8}(h:bd w v bs){lo hi:Int}(h0:0<=lo)(h1:lo<=hi)(h2:hi<=v.2.1)(hc:v.2.1<=v.2.2){K:Option Addr->Nat->Nat->Prop}
  (k:∀ u:Sl,bd w u ((bs.drop lo.toNat).take (hi - lo).toNat)->u.2.1<=u.2.2->u.2.1=(hi - lo).toNat->(∀ k,aw u k->aw v k)->K u.1 u.2.1 u.2.2):eX v.1 v.2.2 lo hi v.2.2 1 K:=by
 refine du.jV h h0 h1 h2 hc fun u hu=>k u ?_;unfold bd;rw[List.map_take,List.map_drop];exact hu
theorem bd.tM {w w':World}{v:Sl}{bs:List UInt8}(h:bd w v bs){S:Nat->Prop}(f:Fr S w w')(hn:bs≠[]->∀ k,aw v k->¬ S k):bd w' v bs:=by
 by_cases e:bs=[]
 ·subst e
  obtain⟨h1,h2,h3⟩:=h;exact⟨h1,h2,fun a ha=>trivial⟩
 ·exact h.ag f (hn e)
theorem bd.G2 {w:World}{v:Sl}{bs:List UInt8}(h:bd w v bs)(hn:bs≠[]){k:Nat}(hk:aw v k):k<w.heap.size:=by
 obtain⟨a,ha,rfl⟩:=hk;obtain⟨_,_,h3⟩:=h;have:=h3 a ha;cases bs with
 | nil=>exact(hn rfl).elim
 | cons b bs=>exact KD this.1
theorem Vv {w:World}{n m:Int}(h0:0<=n)(h1:n<=m)(hb:m<=281474976710656):
  ∃ w',(Instr.makeSlice 22 (.int .i64 n) (.int .i64 m)).run Tryz.prog w=.ok (.slice (some ⟨w.heap.size,0,none⟩) n.toNat m.toNat) w'/\cd w' (some ⟨w.heap.size,0,none⟩,m.toNat,m.toNat) (List.replicate m.toNat 0)/\Fr none1 w w':=by
 obtain⟨hu,⟨i,hi,hs,hz,qN⟩,hc,oT⟩:=mZ;have nZ:∀ w,(typeInfo 5).run Tryz.prog w=.ok i w:=fun w=>by simp[typeInfo,hi]
 have mv:∀ w,(sizeOf 5).run Tryz.prog w=.ok 1 w:=fun w=>by rw[ko hi,hs]
 have ha:∀ (k:IntKind) (n:Int) w,(asInt (.int k n)).run Tryz.prog w=.ok n w:=fun _ _ _=>rfl;unfold Instr.makeSlice;simp only[Sem.run_bind,under hu,Result.andThen_ok,ha,nZ,wI (x:=n) (by omega) (by omega),wI (x:=m) (by omega) (by omega)];have R3:¬ ((i.bytes:Int) * m > 2 ^ 48):=by rw[qN];omega
 rw[if_neg (by simp;omega)];have uM:∀ zc:Array Value,(m.toNat * 1≠0->zc=#[.int .u8 0])->(Array.range (m.toNat * 1)).map (zc[· % zc.size]!)=Array.replicate m.toNat (.int .u8 0):=fun zc uL=>by
  by_cases h:m.toNat * 1=0
  ·have:m.toNat=0:=by omega
   rw[this];simp
  ·rw[uL h]
   apply Array.ext
   ·simp
   ·intro j h1 h2
    have:j % 1=0:=Nat.mod_one _;simp[this]
 have fin:∀ cs:Array Value,cs=Array.replicate m.toNat (.int .u8 0) ->
   ∃ w',(do pure (Value.slice (some (<- newRow 5 cs)) n.toNat m.toNat):Sem Value).run Tryz.prog w=.ok (.slice (some ⟨w.heap.size,0,none⟩) n.toNat m.toNat) w'/\cd w' (some ⟨w.heap.size,0,none⟩,m.toNat,m.toNat) (List.replicate m.toNat 0)/\Fr none1 w w':=fun cs hcs=>by
  subst hcs;simp only[newRow,Sem.run_bind,run_newObj,Result.andThen_ok,Sem.run_pure];refine⟨_,rfl,.inr ⟨w.heap.size,0,_,rfl,Array.getElem?_push_size ..,Nat.le_refl _,by simp,by simp,fun j hj=>?_⟩,mu _ _⟩;simp at hj;rw[List.map_replicate,Array.getElem?_replicate,List.getElem?_replicate,if_pos (show 0+j<m.toNat by omega),if_pos (show j<m.toNat by omega)];rfl
 by_cases h:m.toNat * 1=0
 ·simp only[Sem.run_bind,run_askRoom,Result.andThen_ok,mv,if_pos h,Sem.run_pure]
  exact fin _ (uM #[] (fun hh=>absurd h hh))
 ·simp only[Sem.run_bind,run_askRoom,Result.andThen_ok,mv,if_neg h,qG hi hz,Sem.run_pure]
  exact fin _ (uM _ (fun _=>rfl))
theorem Nb {g:Nat}{T:TypeId}:∀ (vs:List Value) (w:World) (cs j2:Array Value) (off i:Nat),w.heap[g]? = some (.cells cs T (0,0))->(setCells w ⟨g,off,none⟩ i vs).heap[g]? = some (.cells j2 T (0,0))->∀ j,off+i+vs.length<=j->j2[j]? = cs[j]?
 | [],w,cs,j2,off,i,hb,gv,j,_=>by
  have:some (Obj.cells cs T (0,0))=some (.cells j2 T (0,0)):=by rw[<- hb,<- gv];rfl
  injection this with this
  injection this with this
  rw[this]
 | v::vs,w,cs,j2,off,i,hb,gv,j,hj=>by
  simp only[List.length_cons] at hj;unfold setCells at gv;rw[dT] at gv;have hs:=Vc.heap_setCell_same (i:=off+i) (v:=v) hb;have:=Nb vs _ _ j2 off (i+1) hs gv j (by omega);rw[this,Array.getElem?_setIfInBounds_ne (by omega)]
def C150 (p0:Addr)(p1:Int)(w:World)(K:Value->World->Prop):Prop:=
 ae .bool (p0.add 1) w (fun(x1:Bool)=>aa x1
 (az (p0.add 1) (.bool true) w (fun w2=>K (.slice none 0 0) w2))
 (ae .aj (p0.add 0) w (fun(x3:an)=>aa (decide (p1 > (x3.2.1:Int)))
 (az (p0.add 1) (.bool true) w (fun w4=>K (.slice none 0 0) w4))
 (ae .aj (p0.add 0) w (fun(x5:an)=>eX x5.1 x5.2.2 0 p1 x5.2.2 1 (fun a6 l7 c8=>ae .aj (p0.add 0) w (fun(x9:an)=>eX x9.1 x9.2.2 p1 x9.2.1 x9.2.2 1 (fun pY Vw c12=>az (p0.add 0) (.slice pY Vw c12) w (fun aY=>K (.slice a6 l7 c8) aY)))))))))
def pl150:aB:=.auto
theorem c150 (p0:Addr)(p1:Int)(w:World)(K:Value->World->Prop)(h:C150 p0 p1 w K):Ret Tryz.prog 150 #[.pointer (some p0),.int .i64 p1] w K:=aC (by kernel_rfl) Tryz.func150 (p:=pl150) (Eq.mpr (by kernel_rfl) h)
def C194 (p0:Addr)(p1:Int)(w:World)(K:Value->World->Prop):Prop:=
 ab Tryz.prog 150 #[.pointer (some p0),.int .i64 p1] w (.v (.one .aj)) (fun(x1:an) w2=>bC (Int×Int×Unit) (fun _ s3 w4 kV=>aa (decide (s3.2.1<(x1.2.1:Int)))
 (bQ x1.1 x1.2.1 s3.2.1 1 (fun a6=>ae (.int .u8) a6 w4 (fun(x7:Int)=>jJ 8 (kV (IntKind.i64.wrap ((BitVec.ofInt 64 (IntKind.i64.wrap (s3.1 * 2 ^ (min (Int.toNat 8) 64))) ||| BitVec.ofInt 64 (IntKind.i64.wrap x7)).toNat:Int),IntKind.i64.wrap (s3.2.1+1),()) w4))))
 (ab Tryz.prog 150 #[.pointer (some p0),.int .i64 s3.1] w4 (.v (.one .aj)) (fun(x8:an) w9=>aA Tryz.prog (convert 22 9 (.slice x8.1 x8.2.1 x8.2.2)) w9 (.v (.one .str)) (fun(aQ:ByteArray) aO=>K (.string aQ) aO))))
 (0,0,()) w2)
def pl194:aB:=(.seq .auto (.seq .auto (.seq (.seq .auto (.block (.loop [(5,.one (.int .i64)),(12,.one (.int .i64))] .auto))) .auto)))
theorem c194 (p0:Addr)(p1:Int)(w:World)(K:Value->World->Prop)(h:C194 p0 p1 w K):Ret Tryz.prog 194 #[.pointer (some p0),.int .i64 p1] w K:=aC (by kernel_rfl) Tryz.func194 (p:=pl194) (Eq.mpr (by kernel_rfl) h)
def C192 (p0:Addr)(w:World)(K:Value->World->Prop):Prop:=
 ab Tryz.prog 150 #[.pointer (some p0),.int .i64 8] w (.v (.one .aj)) (fun(x1:an) w2=>ab Tryz.prog 107 #[.slice x1.1 x1.2.1 x1.2.2] w2 (.aN [.one (.int .i64),.one .bool]) (fun(x3:Int×Bool×Unit) w4=>ae .bool (p0.add 1) w4 (fun(x5:Bool)=>aa x5
 (az (p0.add 1) (.bool true) w4 (fun w6=>K (.int .i64 x3.1) w6))
 (az (p0.add 1) (.bool (!x3.2.1)) w4 (fun w7=>K (.int .i64 x3.1) w7)))))
def pl192:aB:=.auto
theorem c192 (p0:Addr)(w:World)(K:Value->World->Prop)(h:C192 p0 w K):Ret Tryz.prog 192 #[.pointer (some p0)] w K:=aC (by kernel_rfl) Tryz.func192 (p:=pl192) (Eq.mpr (by kernel_rfl) h)
def C193 (p0:Addr)(w:World)(K:Value->World->Prop):Prop:=
 ab Tryz.prog 194 #[.pointer (some p0),.int .i64 2] w (.v (.one .str)) (fun(x1:ByteArray) w2=>ab Tryz.prog 230 #[.string x1] w2 (.aN [.one .raw,.one (.int .i64),.one (.int .i64)]) (fun(x3:Value×Int×Int×Unit) w4=>ae .bool (p0.add 1) w4 (fun(x5:Bool)=>aa x5
 (az (p0.add 1) (.bool true) w4 (fun w6=>K x3.1 w6))
 (az (p0.add 1) (.bool (x3.2.2.1 != 0)) w4 (fun w7=>K x3.1 w7)))))
def pl193:aB:=.auto
theorem c193 (p0:Addr)(w:World)(K:Value->World->Prop)(h:C193 p0 w K):Ret Tryz.prog 193 #[.pointer (some p0)] w K:=aC (by kernel_rfl) Tryz.func193 (p:=pl193) (Eq.mpr (by kernel_rfl) h)
def C151 (p0:Addr)(p1:Addr)(p2:Int)(w:World)(K:Value->World->Prop):Prop:=
 aa (p2==68)
 (ab Tryz.prog 192 #[.pointer (some p0)] w (.v (.one (.int .i64))) (fun(x1:Int) w2=>az (p1.add 5) (.int .i64 x1) w2 (fun w3=>K (.tuple #[]) w3)))
 (aa (p2==86)
 (ab Tryz.prog 192 #[.pointer (some p0)] w (.v (.one (.int .i64))) (fun(x4:Int) w5=>az (p1.add 6) (.int .i64 x4) w5 (fun w6=>K (.tuple #[]) w6)))
 (aa (p2==84)
 (ab Tryz.prog 193 #[.pointer (some p0)] w (.v (.one .raw)) (fun(x7:Value) w8=>jb x7 (ar (p1.add 7) [x7] w8 (fun w9=>K (.tuple #[]) w9))))
 (aa (p2==73)
 (ab Tryz.prog 194 #[.pointer (some p0),.int .i64 1] w (.v (.one .str)) (fun(aQ:ByteArray) aO=>az (p1.add 1) (.string aQ) aO (fun aL=>K (.tuple #[]) aL)))
 (aa (p2==78)
 (ab Tryz.prog 194 #[.pointer (some p0),.int .i64 1] w (.v (.one .str)) (fun(bz:ByteArray) bo=>az (p1.add 2) (.string bz) bo (fun bM=>K (.tuple #[]) bM)))
 (aa (p2==76)
 (ab Tryz.prog 194 #[.pointer (some p0),.int .i64 1] w (.v (.one .str)) (fun(aS:ByteArray) cj=>az (p1.add 3) (.string aS) cj (fun bt=>K (.tuple #[]) bt)))
 (aa (p2==67)
 (ab Tryz.prog 194 #[.pointer (some p0),.int .i64 1] w (.v (.one .str)) (fun(br:ByteArray) bh=>az (p1.add 4) (.string br) bh (fun bw=>K (.tuple #[]) bw)))
 (K (.tuple #[]) w)))))))
def pl151:aB:=.auto
theorem c151 (p0:Addr)(p1:Addr)(p2:Int)(w:World)(K:Value->World->Prop)(h:C151 p0 p1 p2 w K):Ret Tryz.prog 151 #[.pointer (some p0),.pointer (some p1),.int .i32 p2] w K:=aC (by kernel_rfl) Tryz.func151 (p:=pl151) (Eq.mpr (by kernel_rfl) h)
def C93 (p0:Option Addr)(aJ aP:Nat)(w:World)(K:Value->World->Prop):Prop:=
 ak (.cells #[.int .i64 0,.string (⟨#[]⟩:ByteArray),.string (⟨#[]⟩:ByteArray),.string (⟨#[]⟩:ByteArray),.string (⟨#[]⟩:ByteArray),.int .i64 0,.int .i64 0,.nilIface] 36) w (fun g1 w2=>ak (.cells #[.slice p0 aJ aP,.bool false] 274) w2 (fun g3 w4=>ak (.cells #[.int .i64 0,.string (⟨#[]⟩:ByteArray),.string (⟨#[]⟩:ByteArray),.string (⟨#[]⟩:ByteArray),.string (⟨#[]⟩:ByteArray),.int .i64 0,.int .i64 0,.nilIface] 36) w4 (fun g5 w6=>ar (ad g5) [.int .i64 0,.string (⟨#[]⟩:ByteArray),.string (⟨#[]⟩:ByteArray),.string (⟨#[]⟩:ByteArray),.string (⟨#[]⟩:ByteArray),.int .i64 0,.int .i64 0,.nilIface] w6 (fun w7=>ab Tryz.prog 150 #[.pointer (some (ad g3)),.int .i64 1] w7 (.v (.one .aj)) (fun(x8:an) w9=>bC (Int×Unit) (fun _ sD aO Vx=>aa (decide (sD.1<(x8.2.1:Int)))
 (bQ x8.1 x8.2.1 sD.1 1 (fun GQ=>ae (.int .u8) GQ aO (fun(bg:Int)=>az ((ad g5).add 0) (.int .i64 (IntKind.i64.wrap bg)) aO (fun bM=>Vx (IntKind.i64.wrap (sD.1+1),()) bM))))
 (ae (.int .i64) ((ad g5).add 0) aO (fun(aS:Int)=>ab Tryz.prog 71 #[.int .i64 aS] aO (.v (.one .aj)) (fun(ba:an) bt=>bC (Int×Unit) (fun _ CI bh Vy=>aa (decide (CI.1<(ba.2.1:Int)))
 (bQ ba.1 ba.2.1 CI.1 1 (fun G3=>ae (.int .i32) G3 bh (fun(cv:Int)=>ab Tryz.prog 151 #[.pointer (some (ad g3)),.pointer (some (ad g5)),.int .i32 cv] bh (.aN []) (fun(cm:Unit) di=>Vy (IntKind.i64.wrap (CI.1+1),()) di))))
 (aq dK (ad g5) bh (fun(dc:bE)=>ab Tryz.prog 33 #[.agg (bT dc).toArray] bh (.aN [.one .aj,.one (.int .i64)]) (fun(cA:an×Int×Unit) bV=>ae .bool ((ad g3).add 1) bV (fun(cB:Bool)=>aa cB
 (ar (ad g1) [.int .i64 0,.string (⟨#[]⟩:ByteArray),.string (⟨#[]⟩:ByteArray),.string (⟨#[]⟩:ByteArray),.string (⟨#[]⟩:ByteArray),.int .i64 0,.int .i64 0,.nilIface] bV (fun bS=>aq dK (ad g1) bS (fun(bZ:bE)=>K (.tuple #[.agg (bT bZ).toArray,.int .i64 2]) bS)))
 (aa (cA.2.1 != 0)
 (ar (ad g1) [.int .i64 0,.string (⟨#[]⟩:ByteArray),.string (⟨#[]⟩:ByteArray),.string (⟨#[]⟩:ByteArray),.string (⟨#[]⟩:ByteArray),.int .i64 0,.int .i64 0,.nilIface] bV (fun cU=>aq dK (ad g1) cU (fun(dA:bE)=>K (.tuple #[.agg (bT dA).toArray,.int .i64 2]) cU)))
 (ab Tryz.prog 53 #[.slice cA.1.1 cA.1.2.1 cA.1.2.2,.slice p0 aJ aP] bV (.v (.one .bool)) (fun(dh:Bool) dL=>aa (!dh)
 (ar (ad g1) [.int .i64 0,.string (⟨#[]⟩:ByteArray),.string (⟨#[]⟩:ByteArray),.string (⟨#[]⟩:ByteArray),.string (⟨#[]⟩:ByteArray),.int .i64 0,.int .i64 0,.nilIface] dL (fun dd=>aq dK (ad g1) dd (fun(gP:bE)=>K (.tuple #[.agg (bT gP).toArray,.int .i64 2]) dd)))
 (aq dK (ad g5) dL (fun(dF:bE)=>ar (ad g1) (bT dF) dL (fun dO=>aq dK (ad g1) dO (fun(iK:bE)=>K (.tuple #[.agg (bT iK).toArray,.int .i64 0]) dO))))))))))))
 (0,()) bt))))
 (0,()) w9)))))
def pl93:aB:=(.seq .auto (.seq .auto (.seq .auto (.seq (.seq .auto (.block (.loop [(19,.one (.int .i64))] .auto))) (.seq (.seq .auto (.block (.loop [(31,.one (.int .i64))] .auto))) .auto)))))
theorem c93 (p0:Option Addr)(aJ aP:Nat)(w:World)(K:Value->World->Prop)(h:C93 p0 aJ aP w K):Ret Tryz.prog 93 #[.slice p0 aJ aP] w K:=aC (by kernel_rfl) Tryz.func93 (p:=pl93) (Eq.mpr (by kernel_rfl) h)
def C91 (p0:Option Addr)(aJ aP:Nat)(w:World)(K:Value->World->Prop):Prop:=
 ak (.cells #[.int .i64 0,.string (⟨#[]⟩:ByteArray),.string (⟨#[]⟩:ByteArray),.string (⟨#[]⟩:ByteArray),.string (⟨#[]⟩:ByteArray),.int .i64 0,.int .i64 0,.nilIface,.bool false] 110) w (fun g1 w2=>aa ((aJ:Int)==0)
 (ar (ad g1) [.int .i64 0,.string (⟨#[]⟩:ByteArray),.string (⟨#[]⟩:ByteArray),.string (⟨#[]⟩:ByteArray),.string (⟨#[]⟩:ByteArray),.int .i64 0,.int .i64 0,.nilIface,.bool false] w2 (fun w3=>aq lS (ad g1) w3 (fun(x4:iI)=>K (.tuple #[.agg (iX x4).toArray,.int .i64 2]) w3)))
 (bQ p0 aJ 0 1 (fun a5=>ae (.int .u8) a5 w2 (fun(x6:Int)=>aa (decide (x6 > 1))
 (ar (ad g1) [.int .i64 0,.string (⟨#[]⟩:ByteArray),.string (⟨#[]⟩:ByteArray),.string (⟨#[]⟩:ByteArray),.string (⟨#[]⟩:ByteArray),.int .i64 0,.int .i64 0,.nilIface,.bool false] w2 (fun w7=>aq lS (ad g1) w7 (fun(x8:iI)=>K (.tuple #[.agg (iX x8).toArray,.int .i64 2]) w7)))
 (eX p0 aP 1 aJ aP 1 (fun a9 l10 c11=>ab Tryz.prog 93 #[.slice a9 l10 c11] w2 (.aN [.agg dK,.one (.int .i64)]) (fun(bx:bE×Int×Unit) aY=>ak (.cells #[.int .i64 0,.string (⟨#[]⟩:ByteArray),.string (⟨#[]⟩:ByteArray),.string (⟨#[]⟩:ByteArray),.string (⟨#[]⟩:ByteArray),.int .i64 0,.int .i64 0,.nilIface] 36) aY (fun g14 bM=>ar (ad g14) [.int .i64 bx.1.1,.string bx.1.2.1,.string bx.1.2.2.1,.string bx.1.2.2.2.1,.string bx.1.2.2.2.2.1,.int .i64 bx.1.2.2.2.2.2.1,.int .i64 bx.1.2.2.2.2.2.2.1,bx.1.2.2.2.2.2.2.2.1] bM (fun bj=>aa (bx.2.1 != 0)
 (ar (ad g1) [.int .i64 0,.string (⟨#[]⟩:ByteArray),.string (⟨#[]⟩:ByteArray),.string (⟨#[]⟩:ByteArray),.string (⟨#[]⟩:ByteArray),.int .i64 0,.int .i64 0,.nilIface,.bool false] bj (fun cj=>aq lS (ad g1) cj (fun(bB:iI)=>K (.tuple #[.agg (iX bB).toArray,.int .i64 bx.2.1]) cj)))
 (aD bj (fun bu=>aq dK (ad g14) bu (fun(cG:bE)=>bQ p0 aJ 0 1 (fun a21=>ae (.int .u8) a21 bu (fun(bU:Int)=>ar (ad g1) [.int .i64 cG.1,.string cG.2.1,.string cG.2.2.1,.string cG.2.2.2.1,.string cG.2.2.2.2.1,.int .i64 cG.2.2.2.2.2.1,.int .i64 cG.2.2.2.2.2.2.1,cG.2.2.2.2.2.2.2.1,.bool (bU==1)] bu (fun cL=>aq lS (ad g1) cL (fun(cm:iI)=>K (.tuple #[.agg (iX cm).toArray,.int .i64 0]) cL))))))))))))))))
def pl91:aB:=(.seq .auto (.seq .auto (.seq .auto (.seq .auto (.seq (.tail 6) .auto)))))
theorem c91 (p0:Option Addr)(aJ aP:Nat)(w:World)(K:Value->World->Prop)(h:C91 p0 aJ aP w K):Ret Tryz.prog 91 #[.slice p0 aJ aP] w K:=aC (by kernel_rfl) Tryz.func91 (p:=pl91) (Eq.mpr (by kernel_rfl) h)
end Go.Proofs.YtmkehncgjnhhcaaGreatDoor
