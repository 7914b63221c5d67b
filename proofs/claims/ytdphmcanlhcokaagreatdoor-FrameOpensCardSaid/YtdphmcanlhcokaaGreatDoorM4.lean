/-
  Texts of this claim, put together: ReadSpec, ReadSpec2, BytesMore, CLend, LendB, CPackT, TakeSpec, CKName, KName, VcCmd, DoSpec, RefEv2, RefReadF, CRefSg, RTellSpec, CRefRd, RefReadSpec, RefReadSpec2.
  Conditions: those of each theorem.
-/
import Derived.Test.YtdphmcanlhcokaaGreatDoorM0
import Derived.Test.YtdphmcanlhcokaaGreatDoorM1
import Derived.Test.YtdphmcanlhcokaaGreatDoorM2
import Derived.Test.YtdphmcanlhcokaaGreatDoorM3
import Derived.KernelRfl
import Derived.Laws.BytesString
import Derived.Laws.IdiomStrings
import Derived.Lib.Bytes
import Derived.Lib.RuneCount
import Derived.Test.YtdphmcanlhcokaaGreatDoorProg
set_option linter.unusedVariables false
set_option maxRecDepth 100000
namespace Go.Proofs.YtdphmcanlhcokaaGreatDoor
open Vc
theorem sgF_cnt:∀ (R:List Int) (acc:List SignV) (at_:Int) (run:Bool),(sgF acc at_ run R).1.length≤acc.length+1+R.length
 | [],acc,at_,run=>by show acc.length≤_;simp only [List.length_nil];omega
 | r::R,acc,at_,run=>by
  have h1:=sgF_cnt R (addLast acc (enc r)) (at_+1) true
  have h2:=sgF_cnt R (acc++[(enc r,at_+1)]) (at_+1) (kd r==97)
  have h3:=sgF_cnt R acc (at_+1) false
  have e1:(addLast acc (enc r)).length≤acc.length+1:=by unfold addLast;simp
  simp only [List.length_append,List.length_cons,List.length_nil] at h2 ⊢
  unfold sgF
  split
  ·simp
  split
  ·omega
  split
  ·omega
  ·omega
theorem nodesO_toks (o:Ob):nodesO o≤(toksO o).length:=by
 induction o<;>simp_all [nodesO,toksO]<;>omega
theorem nodesT_toks (t:Tm):nodesT t≤(toksT t).length:=by
 induction t<;>simp_all [nodesT,toksT]<;>(try have:=nodesO_toks)<;>first | omega | (rename_i o _ _;have:=nodesO_toks o;omega) | (rename_i o _ _ _ _;have:=nodesO_toks o;omega)
theorem mem_lenS {x:SignV} {l:List SignV} (h:x∈l):x.1.length≤lenS (l.map Prod.fst):=by
 induction l with
 | nil=>cases h
 | cons y l ih=>
  have e:lenS ((y::l).map Prod.fst)=y.1.length+lenS (l.map Prod.fst):=by simp [lenS]
  rw [e]
  rcases List.mem_cons.1 h with rfl | h
  ·omega
  ·have:=ih h;omega
theorem signs_short {bs:List UInt8} (h:bs.length≤1000):∀ x∈(sgF [] 0 false (runesL bs)).1,x.1.length≤10000:=fun x hx=>by
 have h1:=mem_lenS hx
 have h2:=sgF_lenS (runesL bs) [] 0 false
 have h3:=txt_len (runesL bs)
 have h4:=z37z bs
 have h5:lenS ((([]:List SignV)).map Prod.fst)=0:=rfl
 omega
theorem reads_le (R:List Int):reads R≤R.length:=by unfold reads;exact (List.takeWhile_sublist _).length_le
theorem count_runes (s:ByteArray):∀ (fuel pos:Nat),s.size - pos≤fuel→Lib.runeCountFrom s fuel pos=(runesL (s.data.toList.drop pos)).length
 | 0,pos,h=>by
  have:s.data.toList.drop pos=[]:=List.drop_eq_nil_of_le (by rw [ba_len];omega)
  rw [this];rfl
 | f+1,pos,h=>by
  unfold Lib.runeCountFrom
  by_cases hp:pos<s.size
  ·rw [if_pos hp]
   have hne:s.data.toList.drop pos≠[]:=fun t=>by
    have:=congrArg List.length t
    rw [List.length_drop,ba_len,List.length_nil] at this;omega
   have hw:=z56z (s.data.toList.drop pos)
   rw [runesL_step _ hne,decL_drop,count_runes s f _ (by omega),List.length_cons,List.drop_drop]
   omega
  ·rw [if_neg hp]
   have:s.data.toList.drop pos=[]:=List.drop_eq_nil_of_le (by rw [ba_len];omega)
   rw [this];rfl
namespace Vc
theorem StsK.one {b i:Nat} {v:Value} {w:World} {K:World→Prop} {cs:Array Value} {T:TypeId} (hb:w.heap[b]? = some (.cells cs T (0,0))) (hi:i<cs.size) (h1:one1 v=true)
  (h:∀ w1,w1.heap[b]? = some (.cells (cs.setIfInBounds i v) T (0,0))→Fr (only b) w w1→w1.heap.size=w.heap.size→K w1):StsK ((⟨b,0,none⟩:Addr).add i) [v] w K:=by
 have e:((⟨b,0,none⟩:Addr).add i).add 0=⟨b,i,none⟩:=by rw [z2z,z2z,Nat.zero_add,Nat.add_zero]
 refine ⟨⟨h1,by rw [e,z27z hb];simp [hi],by rw [e];exact frozen_blk hb,trivial⟩,?_⟩
 show K (w.setCell (((⟨b,0,none⟩:Addr).add i).add 0) v)
 rw [e]
 exact h _ (heap_setCell_same hb) (setCell_fr _ _ _ _) (by simp [World.setCell])
end Vc
theorem str_eqb (x y:List UInt8):((str x).toList==(str y).toList)=(x==y):=by
 rw [str_beq]
 by_cases h:x=y<;>simp [h]
theorem ifB.str {y z:List UInt8} {A B:Prop} (h:y=z→A) (k:y≠z→B):ifB ((str y).toList==(str z).toList) A B:=by
 rw [str_beq];exact ifB.dec h k
def rdObj (sl:Sl) (fin a e:Int):Obj:=.cells #[.slice sl.1 sl.2.1 sl.2.2,.int .i64 fin,.int .i64 a,.int .i64 e] 303 (0,0)
def IsRd (w:World) (m b:Nat) (fin:Int) (s:RS):Prop:=∃ sl:Sl,w.heap[b]? = some (rdObj sl fin s.at_ s.e)∧IsSg w sl s.l∧(¬ blkOf sl b∧b<m∧m≤w.heap.size∧∀ k,blkOf sl k→k<m)∧∀ x∈s.l,x.1.length≤10000
theorem IsRd.lt {w:World} {m b:Nat} {fin:Int} {s:RS} (h:IsRd w m b fin s):b<m∧m≤w.heap.size:=by
 obtain ⟨sl,hb,_,⟨_,h1,h2,_⟩,_⟩:=h;exact ⟨h1,h2⟩
theorem IsRd.keep {w w':World} {m b:Nat} {fin:Int} {s:RS} (h:IsRd w m b fin s) {S:Nat→Prop} (f:Fr S w w') (hn:∀ k,k<m→¬ S k):IsRd w' m b fin s:=by
 obtain ⟨sl,hb,hs,⟨h1,h2,h3,h4⟩,h5⟩:=h
 exact ⟨sl,f.keep hb (hn b h2),hs.keep f (fun k hk=>hn k (h4 k hk)),⟨h1,h2,Nat.le_trans h3 f.size,h4⟩,h5⟩
theorem IsRd.keep0 {w w':World} {m b:Nat} {fin:Int} {s:RS} (h:IsRd w m b fin s) (f:Fr none1 w w'):IsRd w' m b fin s:=h.keep f (fun _ _ t=>t)
theorem sg_tail {w:World} {v:Sl} {x:SignV} {l:List SignV} (h:IsSg w v (x::l)) {K:Option Addr→Nat→Nat→Prop} (k:∀ u:Sl,IsSg w u l→(∀ j,blkOf u j→blkOf v j)→K u.1 u.2.1 u.2.2):SubK v.1 v.2.2 1 (v.2.1:Int) (v.2.2:Int) 2 K:=by
 obtain ⟨hs,hl⟩:=h
 simp only [List.length_cons] at hl
 have e:signCells (x::l)=[.string (str x.1),.int .i64 x.2]++signCells l:=rfl
 rcases hs with ⟨rfl,hnil⟩ | ⟨g,off,cs,hv,hb,hle,hc,hn,he⟩
 ·dsimp only at hl;omega
 ·refine ⟨by omega,by omega,by omega,by omega,?_⟩
  rw [hv]
  have hlen:=z14z l
  have hlen2:=z14z (x::l)
  simp only [List.length_cons] at hlen2
  by_cases h1:(v.2.2:Int)=1
  ·rw [if_pos h1]
   have:l=[]:=List.eq_nil_of_length_eq_zero (by omega)
   subst this
   refine k (some ⟨g,off,none⟩,((v.2.1:Int) - 1).toNat,((v.2.2:Int) - 1).toNat) ⟨.inr ⟨g,off,cs,rfl,hb,by dsimp only;omega,by dsimp only;omega,?_,fun i hi=>?_⟩,?_⟩ (fun j hj=>?_)
   ·dsimp only;rw [hlen,List.length_nil];omega
   ·rw [hlen,List.length_nil] at hi;omega
   ·dsimp only;rw [List.length_nil];omega
   ·obtain ⟨a,ha,rfl⟩:=hj;injection ha with ha;subst ha;exact ⟨_,hv,rfl⟩
  ·rw [if_neg h1]
   have ea:(some (⟨g,off,none⟩:Addr)).map (·.add (Int.toNat 1 * 2))=some ⟨g,off+2,none⟩:=by
    show some ((⟨g,off,none⟩:Addr).add (1 * 2))=_
    rw [z2z]
   rw [ea]
   refine k (some ⟨g,off+2,none⟩,((v.2.1:Int) - 1).toNat,((v.2.2:Int) - 1).toNat) ⟨.inr ⟨g,off+2,cs,rfl,hb,by dsimp only;omega,by dsimp only;omega,?_,fun i hi=>?_⟩,?_⟩ (fun j hj=>?_)
   ·dsimp only;rw [hlen];omega
   ·rw [hlen] at hi
    have:=he (i+2) (by omega)
    rw [show off+2+i=off+(i+2) by omega,this,e]
    rfl
   ·dsimp only;omega
   ·obtain ⟨a,ha,rfl⟩:=hj;injection ha with ha;subst ha;exact ⟨_,hv,rfl⟩
theorem rplace_spec {w:World} {m b:Nat} {fin:Int} {s:RS} (h:IsRd w m b fin s):Ret Tryz.prog 215 #[.pointer (some ⟨b,0,none⟩)] w fun r w'=>r=.int .i64 (placeF fin s)∧w=w':=by
 refine c215 _ w _ ?_
 obtain ⟨sl,hb,hs,_⟩:=h
 have hl:=hs.len
 refine LdK.fld hb (x:=sl) rfl ?_
 unfold placeF
 cases hsl:s.l with
 | nil=>
  rw [hsl] at hl
  refine ifB.no (by rw [hl];decide) (LdK.fld hb (x:=fin) rfl ⟨rfl,rfl⟩)
 | cons x l=>
  rw [hsl] at hl hs
  simp only [List.length_cons] at hl
  refine ifB.yes (by omega) (LdK.fld hb (x:=sl) rfl ?_)
  exact sg_ld hs (i:=0) (by omega) (by omega) (x:=x) rfl fun a _ k2 _=>k2 _ ⟨rfl,rfl⟩
theorem rfail_spec {w:World} {m b:Nat} {fin:Int} {s:RS} (h:IsRd w m b fin s) (c:Int):Ret Tryz.prog 198 #[.pointer (some ⟨b,0,none⟩),.int .i64 c] w fun r w'=>r=.tuple #[]∧IsRd w' m b fin (failF fin c s)∧Fr (only b) w w':=by
 refine c198 _ c w _ ?_
 obtain ⟨sl,hb,hs,hbl,hsz⟩:=id h
 refine LdK.fld hb (x:=s.e) rfl ?_
 unfold failF
 refine ifB.eq (fun he=>?_) (fun he=>?_)
 ·rw [if_pos he]
  refine CallK.of (rplace_spec h) ?_
  rintro _ _ ⟨rfl,rfl⟩
  refine ⟨_,rfl,?_⟩
  refine StK.fld hb (by show 0+3<4;omega) rfl fun w1 hb1 f1 _=>?_
  refine StK.fld hb1 (by show 0+2<4;omega) rfl fun w2 hb2 f2 _=>?_
  have f:=f1.trans f2
  exact ⟨rfl,⟨sl,hb2,hs.keep f (fun k hk t=>hbl.1 (by have:k=b:=t;rw [← this];exact hk)),⟨hbl.1,hbl.2.1,Nat.le_trans hbl.2.2.1 f.size,hbl.2.2.2⟩,hsz⟩,f⟩
 ·rw [if_neg he]
  exact ⟨rfl,h,Fr.refl _ _⟩
theorem rtake_spec {w:World} {m b:Nat} {fin:Int} {s:RS} (h:IsRd w m b fin s) (v:Value) (right:List UInt8→Bool)
  (hr:∀ x:List UInt8,x.length≤10000→∀ K:Bool→World→Prop,(∀ w1,Fr none1 w w1→K (right x) w1)→callV Tryz.prog v [.string (str x)] (.v (.one .bool)) w K) :
  Ret Tryz.prog 190 #[.pointer (some ⟨b,0,none⟩),v] w fun r w'=>r=.string (str (takeF fin right s).1)∧IsRd w' m b fin (takeF fin right s).2∧Fr (only b) w w':=by
 refine c190 _ v w _ ?_
 obtain ⟨sl,hb,hs,hbl,hsz⟩:=id h
 have hl:=hs.len
 rcases s with ⟨l,a,e⟩
 dsimp only at hb hs hsz hl
 refine JoinK.of (fun c w'=>c.1=(decide (e=0)&&match l with | []=>true | x::_=>!right x.1)∧Fr none1 w w') ?_ ?_
 ·refine LdK.fld hb (x:=e) rfl ?_
  refine ifB.eq (fun he=>LdK.fld hb (x:=sl) rfl ?_) (fun he=>⟨by simp [he],Fr.refl _ _⟩)
  cases l with
  | nil=>exact ifB.t (by rw [hl];rfl) ⟨by simp [he],Fr.refl _ _⟩
  | cons x l=>
   simp only [List.length_cons] at hl
   refine ifB.f (by rw [hl];exact beq_eq_false_iff_ne.2 (by omega)) (LdK.fld hb (x:=sl) rfl ?_)
   refine sg_ld hs (i:=0) (by omega) (by omega) (x:=x) rfl fun q k1 _ _=>k1 _ ?_
   exact hr x.1 (hsz x (by simp)) _ fun w1 f1=>⟨by simp [he],f1⟩
 rintro _ ⟨c,_⟩ w3 ⟨hc,f3⟩
 dsimp only at hc ⊢
 have h3:=h.keep0 f3
 refine ifB.by (fun e1=>?_) (fun e1=>?_)
 ·rw [e1] at hc
  have hc2:=Bool.and_eq_true_iff.1 hc.symm
  have he:e=0:=of_decide_eq_true hc2.1
  subst he
  refine CallK.of (rfail_spec h3 2) ?_
  rintro _ w4 ⟨rfl,h4,f4⟩
  refine ⟨(),rfl,?_⟩
  have ht:takeF fin right ⟨l,a,0⟩=([],failF fin 2 ⟨l,a,0⟩):=by
   cases l with
   | nil=>exact takeF_nil
   | cons x l=>exact z57z (by simpa using hc2.2)
  rw [ht]
  obtain ⟨sl4,hb4,h4'⟩:=id h4
  refine LdK.fld hb4 (x:=2) rfl (ifB.t rfl ?_)
  exact ⟨rfl,h4,Fr.of0 f3 f4⟩
 ·obtain ⟨sl3,hb3,hs3,hbl3,_⟩:=id h3
  refine LdK.fld hb3 (x:=e) rfl ?_
  refine ifB.ne (fun he=>?_) (fun he=>?_)
  ·rw [takeF_err (s:=⟨l,a,e⟩) he]
   exact ⟨rfl,h3,Fr.of0 f3 (Fr.refl _ _)⟩
  ·subst he
   rw [e1] at hc
   cases l with
   | nil=>simp at hc
   | cons x l=>
    have hx:right x.1=true:=by simpa using hc
    rw [takeF_hit hx]
    have hl3:=hs3.len
    simp only [List.length_cons] at hl3
    refine LdK.fld hb3 (x:=sl3) rfl ?_
    refine sg_ld hs3 (i:=0) (by omega) (by omega) (x:=x) rfl fun q k1 _ _=>k1 _ ?_
    refine LdK.fld hb3 (x:=sl3) rfl ?_
    refine sg_tail hs3 fun u hu hub=>?_
    refine StK.fld hb3 (by show 0+0<4;omega) rfl fun w4 hb4 f4 _=>?_
    have hub':¬ blkOf u b:=fun t=>hbl3.1 (hub b t)
    exact ⟨rfl,⟨u,hb4,hu.keep f4 (fun k hk t=>hub' (by have:k=b:=t;rw [← this];exact hk)),⟨hub',hbl3.2.1,Nat.le_trans hbl3.2.2.1 f4.size,fun k hk=>hbl3.2.2.2 k (hub k hk)⟩,fun y hy=>hsz y (by simp [hy])⟩,Fr.of0 f3 f4⟩
theorem z8z {w:World} {m b:Nat} {fin:Int} {s:RS} (h:IsRd w m b fin s) (x:List UInt8):Ret Tryz.prog 192 #[.pointer (some ⟨b,0,none⟩),.string (str x)] w fun r w'=>r=.tuple #[]∧IsRd w' m b fin (mustF fin x s)∧Fr (only b) w w':=by
 refine c192 _ (str x) w _ ?_
 refine NewK.of fun g w1 hg hb1 f1 _=>?_
 refine CallK.of (rtake_spec (h.keep0 f1) _ (fun y=>decide (y=x)) fun y _ K hK=>?_) ?_
 ·have hf:Ret Tryz.prog 210 #[.string (str y),.pointer (some ⟨g,0,none⟩)] w1 fun r w'=>r=.bool (decide (y=x))∧w1=w':=by
   refine c210 (str y) _ w1 _ ?_
   refine LdK.of hb1 (x:=str x) rfl ?_
   rw [str_beq]
   exact ⟨rfl,rfl⟩
  refine z52z (by kernel_rfl) Tryz.func210 (by kernel_rfl) (hf.mono ?_)
  rintro _ _ ⟨rfl,rfl⟩
  exact ⟨_,rfl,hK _ (Fr.refl _ _)⟩
 ·rintro _ w2 ⟨rfl,h2,f2⟩
  exact ⟨_,rfl,rfl,h2,Fr.of0 f1 f2⟩
theorem rname_spec' {w:World} {m b:Nat} {fin:Int} {s:RS} (h:IsRd w m b fin s):Ret Tryz.prog 193 #[.pointer (some ⟨b,0,none⟩)] w fun r w'=>r=.string (str (takeF fin nameL s).1)∧IsRd w' m b fin (takeF fin nameL s).2∧Fr (only b) w w':=by
 refine c193 _ w _ ?_
 refine CallK.of (rtake_spec h _ nameL fun y _ K hK=>?_) ?_
 ·refine z52z (by kernel_rfl) Tryz.func94 (by kernel_rfl) ((name_spec y w).mono ?_)
  rintro _ w1 ⟨rfl,f1⟩
  exact ⟨_,rfl,hK w1 f1⟩
 ·rintro _ w2 ⟨rfl,h2,f2⟩
  exact ⟨_,rfl,rfl,h2,f2⟩
theorem rword_spec (y:List UInt8) (hl:y.length≤10000) (w:World):Ret Tryz.prog 211 #[.string (str y)] w fun r w'=>r=.bool (wordF' y)∧Fr none1 w w':=by
 refine c211 (str y) w _ ?_
 refine CallK.of (number_spec y (by omega) w) ?_
 rintro _ w1 ⟨rfl,f1⟩
 refine ⟨(_,_,()),rfl,?_⟩
 unfold wordF'
 refine ifB.by (fun e=>?_) (fun e=>?_)
 ·have e:(numF y).2=true:=e
  rw [e];exact ⟨rfl,f1⟩
 have e:(numF y).2=false:=e
 rw [e,Bool.false_or]
 refine ifB.str (z:=[102,105,120]) (fun e=>⟨by rw [e];rfl,f1⟩) (fun e=>?_)
 rw [beq_eq_false_iff_ne.2 e,Bool.false_or]
 refine ifB.str (z:=[97,100,100]) (fun e=>⟨by rw [e];rfl,f1⟩) (fun e=>?_)
 rw [beq_eq_false_iff_ne.2 e,Bool.false_or]
 refine ifB.str (z:=[110,101,103]) (fun e=>⟨by rw [e];rfl,f1⟩) (fun e=>?_)
 rw [beq_eq_false_iff_ne.2 e,Bool.false_or]
 refine ifB.str (z:=[109,117,108]) (fun e=>⟨by rw [e];rfl,f1⟩) (fun e=>?_)
 rw [beq_eq_false_iff_ne.2 e,Bool.false_or,← str_eqb y [109,97,120]]
 exact ⟨rfl,f1⟩
theorem rbegins_spec (y:List UInt8) (w:World):Ret Tryz.prog 191 #[.string (str y)] w fun r w'=>r=.bool (beginsF y)∧w=w':=by
 refine c191 (str y) w _ ?_
 unfold beginsF
 refine ifB.str (z:=[122,101,114,111]) (fun e=>ifB.str (z:=[122,101,114,111]) (fun _=>⟨by rw [e];rfl,rfl⟩) (fun k=>absurd e k)) (fun e=>?_)
 rw [beq_eq_false_iff_ne.2 e,Bool.false_or]
 refine ifB.str (z:=[111,110,101]) (fun e=>ifB.str (z:=[111,110,101]) (fun _=>⟨by rw [e];rfl,rfl⟩) (fun k=>absurd e k)) (fun e=>?_)
 rw [beq_eq_false_iff_ne.2 e,Bool.false_or]
 refine ifB.str (z:=[103,105,118,101]) (fun e=>ifB.str (z:=[103,105,118,101]) (fun _=>⟨by rw [e];rfl,rfl⟩) (fun k=>absurd e k)) (fun e=>?_)
 rw [beq_eq_false_iff_ne.2 e,Bool.false_or]
 refine ifB.str (z:=[97,110,100]) (fun e=>ifB.str (z:=[97,110,100]) (fun _=>⟨by rw [e];rfl,rfl⟩) (fun k=>absurd e k)) (fun e=>?_)
 rw [beq_eq_false_iff_ne.2 e,Bool.false_or]
 refine ifB.str (z:=[111,114]) (fun e=>ifB.str (z:=[111,114]) (fun _=>⟨by rw [e];rfl,rfl⟩) (fun k=>absurd e k)) (fun e=>?_)
 rw [beq_eq_false_iff_ne.2 e,Bool.false_or]
 refine ifB.str (z:=[115,99,97,108,101]) (fun e=>ifB.str (z:=[115,99,97,108,101]) (fun _=>⟨by rw [e];rfl,rfl⟩) (fun k=>absurd e k)) (fun e=>?_)
 rw [beq_eq_false_iff_ne.2 e,Bool.false_or]
 refine ifB.str (z:=[119,104,101,110]) (fun e=>ifB.str (z:=[119,104,101,110]) (fun _=>⟨by rw [e];rfl,rfl⟩) (fun k=>absurd e k)) (fun e=>?_)
 rw [beq_eq_false_iff_ne.2 e,Bool.false_or]
 refine ifB.str (z:=[105,102]) (fun e=>⟨by rw [e];rfl,rfl⟩) (fun e=>?_)
 rw [beq_eq_false_iff_ne.2 e]
 exact ⟨rfl,rfl⟩
theorem rday1_spec (y:List UInt8) (hl:y.length≤10000) (w:World):Ret Tryz.prog 214 #[.string (str y)] w fun r w'=>r=.bool (dayF y)∧Fr none1 w w':=by
 refine c214 (str y) w _ ?_
 refine CallK.of (number_spec y (by omega) w) ?_
 rintro _ w1 ⟨rfl,f1⟩
 refine ⟨(_,_,()),rfl,?_⟩
 unfold dayF
 refine ifB.by (fun e=>?_) (fun e=>?_)
 ·have e:(numF y).2=true:=e
  rw [e,Bool.true_and]
  refine ifB.dec (fun h=>?_) (fun h=>?_)
  ·have h:0≤(numF y).1:=h
   rw [decide_eq_true h,Bool.true_and];exact ⟨rfl,f1⟩
  ·have h:¬ 0≤(numF y).1:=h
   rw [decide_eq_false h];exact ⟨rfl,f1⟩
 ·have e:(numF y).2=false:=e
  rw [e];exact ⟨rfl,f1⟩
theorem rday_spec {w:World} {m b:Nat} {fin:Int} {s:RS} (h:IsRd w m b fin s):Ret Tryz.prog 197 #[.pointer (some ⟨b,0,none⟩)] w fun r w'=>r=.int .i64 (numF (takeF fin dayF s).1).1∧IsRd w' m b fin (takeF fin dayF s).2∧Fr (only b) w w':=by
 refine c197 _ w _ ?_
 refine CallK.of (rtake_spec h _ dayF fun y hy K hK=>?_) ?_
 ·refine z52z (by kernel_rfl) Tryz.func214 (by kernel_rfl) ((rday1_spec y hy w).mono ?_)
  rintro _ w1 ⟨rfl,f1⟩
  exact ⟨_,rfl,hK w1 f1⟩
 ·rintro _ w2 ⟨rfl,h2,f2⟩
  refine ⟨_,rfl,?_⟩
  have hsz:(takeF fin dayF s).1.length≤100000:=by
   obtain ⟨_,_,_,_,hz⟩:=h
   unfold takeF
   split
   ·split
    ·simp
    ·rename_i x l hl
     split
     ·have:=hz x (by rw [hl];simp);dsimp only;omega
     ·simp
   ·simp
  refine CallK.of (number_spec _ hsz w2) ?_
  rintro _ w3 ⟨rfl,f3⟩
  exact ⟨(_,_,()),rfl,rfl,h2.keep0 f3,f2.then0 f3⟩
theorem take_short {w:World} {m b:Nat} {fin:Int} {s:RS} (h:IsRd w m b fin s) (right:List UInt8→Bool):(takeF fin right s).1.length≤10000:=by
 obtain ⟨_,_,_,_,hz⟩:=h
 unfold takeF
 split
 ·split
  ·simp
  ·rename_i x l hl
   split
   ·have:=hz x (by rw [hl];simp);dsimp only;omega
   ·simp
 ·simp
theorem rdeep_spec {w:World} {m b:Nat} {fin:Int} {s:RS} (h:IsRd w m b fin s) (n:Nat) (hn:n≤12):Ret Tryz.prog 189 #[.pointer (some ⟨b,0,none⟩),.int .i64 (12 - (n:Int))] w fun r w'=>
  r=.bool (decide (n=0)||decide (s.e≠0))∧IsRd w' m b fin (if n=0 then failF fin 5 s else s)∧Fr (only b) w w':=by
 refine c189 _ _ w _ ?_
 refine ifB.dec (fun h0=>?_) (fun h0=>?_)
 ·have:n=0:=by omega
  subst this
  refine CallK.of (rfail_spec h 5) ?_
  rintro _ w1 ⟨rfl,h1,f1⟩
  refine ⟨(),rfl,?_⟩
  obtain ⟨sl,hb,_⟩:=id h1
  refine LdK.fld hb (x:=(failF fin 5 s).e) rfl ?_
  refine ⟨?_,h1,f1⟩
  have:(failF fin 5 s).e≠0:=by
   unfold failF
   split
   ·show (5:Int)≠0;decide
   ·assumption
  rw [show ((failF fin 5 s).e != 0)=true from by simp [this]];rfl
 ·have hn0:n≠0:=by omega
  obtain ⟨sl,hb,_⟩:=id h
  refine LdK.fld hb (x:=s.e) rfl ?_
  refine ⟨?_,by rw [if_neg hn0];exact h,Fr.refl _ _⟩
  rw [decide_eq_false hn0,Bool.false_or]
  congr 1
  by_cases he:s.e=0<;>simp [he]
theorem wrap_ok {w:World} {m b:Nat} {fin:Int} {s:RS} (h:IsRd w m b fin s) (x:List UInt8) {T:TypeId} {zs:List Value} {cks:List Ck} (c:Cs cks) (hl:zs.length=(Cs.vals cks c).length) (h1:(Cs.vals cks c).all one1=true) {K:Cs cks→World→Prop}
  (k:∀ w',IsRd w' m b fin (mustF fin x s)→Fr (only b) w w'→K c w') :
  NewK (.cells zs.toArray T) w fun g w1=>StsK ⟨g,0,none⟩ (Cs.vals cks c) w1 fun w2=>CallK Tryz.prog 192 #[.pointer (some ⟨b,0,none⟩),.string (str x)] w2 (.tup []) fun (_:Unit) w3=>LdsK cks ⟨g,0,none⟩ w3 fun y=>K y w3:=by
 refine ns_ok hl h1 fun g w4 hg hb f=>?_
 have hlt:=h.lt
 refine CallK.of (z8z (h.keep0 f) x) ?_
 rintro _ w5 ⟨rfl,h5,f5⟩
 refine ⟨(),rfl,?_⟩
 refine LdsK.blk (f5.keep hb (fun t=>by have:g=b:=t;omega)) ?_
 exact k w5 h5 (Fr.of0 f f5)
theorem sub1 (n:Nat) (hn:n+1≤12):IntKind.i64.wrap (12 - ((n+1:Nat):Int)+1)=12 - (n:Int):=by
 rw [wI (by omega) (by omega)];omega
theorem rnumber_spec:∀ (n:Nat) (hn:n≤12) {w:World} {m b:Nat} {fin:Int} {s:RS} (h:IsRd w m b fin s),Ret Tryz.prog 196 #[.pointer (some ⟨b,0,none⟩),.int .i64 (12 - (n:Int))] w fun r w'=>r=(numR fin n s).1.v∧IsRd w' m b fin (numR fin n s).2∧Fr (only b) w w'
 | 0,hn,w,m,b,fin,s,h=>by
  refine c196 _ _ w _ ?_
  refine CallK.of (rdeep_spec h 0 hn) ?_
  rintro _ w1 ⟨rfl,h1,f1⟩
  exact ⟨_,rfl,ifB.t rfl ⟨rfl,h1,f1⟩⟩
 | n+1,hn,w,m,b,fin,s,h=>by
  have ih:=fun {w:World} {s:RS} (h:IsRd w m b fin s)=>rnumber_spec n (by omega) h
  refine c196 _ _ w _ ?_
  refine CallK.of (rdeep_spec h (n+1) hn) ?_
  rintro _ w1 ⟨rfl,h1,f1⟩
  rw [if_neg (by omega)] at h1
  refine ⟨_,rfl,?_⟩
  dsimp only
  rw [sub1 n hn]
  unfold numR
  by_cases he:s.e=0
  case neg=>
   rw [if_pos he]
   exact ifB.t (by simp [he]) ⟨rfl,h1,f1⟩
  rw [if_neg (by simpa using he)]
  refine ifB.f (by simp [he]) ?_
  refine CallK.of (rtake_spec h1 _ wordF' fun y hy K hK=>?_) ?_
  ·refine z52z (by kernel_rfl) Tryz.func211 (by kernel_rfl) ((rword_spec y hy w1).mono ?_)
   rintro _ w2 ⟨rfl,f2⟩
   exact ⟨_,rfl,hK w2 f2⟩
  rintro _ w2 ⟨rfl,h2,f2⟩
  have hsh:=take_short h1 wordF'
  refine ⟨_,rfl,?_⟩
  generalize (takeF fin wordF' s).1=x at hsh ⊢
  generalize (takeF fin wordF' s).2=s2 at h2 ⊢
  have f12:=f1.trans f2
  have pair:∀ {K:Value×Value×Unit→World→Prop},(∀ w',IsRd w' m b fin (pairF fin (numR fin n) s2).2.2→Fr (only b) w w'→K ((pairF fin (numR fin n) s2).1.v,(pairF fin (numR fin n) s2).2.1.v,()) w') →
    CallK Tryz.prog 212 #[.pointer (some ⟨b,0,none⟩),.int .i64 (12 - (n:Int))] w2 (.tup [.one .raw,.one .raw]) K:=fun {K} hK=>by
   have hp:Ret Tryz.prog 212 #[.pointer (some ⟨b,0,none⟩),.int .i64 (12 - (n:Int))] w2 fun r w'=>r=.tuple #[(pairF fin (numR fin n) s2).1.v,(pairF fin (numR fin n) s2).2.1.v]∧IsRd w' m b fin (pairF fin (numR fin n) s2).2.2∧Fr (only b) w2 w':=by
    refine c212 _ _ w2 _ ?_
    refine CallK.of (z8z h2 [40]) ?_
    rintro _ w3 ⟨rfl,h3,f3⟩
    refine ⟨(),rfl,?_⟩
    refine CallK.of (ih h3) ?_
    rintro _ w4 ⟨rfl,h4,f4⟩
    refine ⟨_,rfl,?_⟩
    refine CallK.of (z8z h4 [44]) ?_
    rintro _ w5 ⟨rfl,h5,f5⟩
    refine ⟨(),rfl,?_⟩
    refine CallK.of (ih h5) ?_
    rintro _ w6 ⟨rfl,h6,f6⟩
    refine ⟨_,rfl,?_⟩
    refine CallK.of (z8z h6 [41]) ?_
    rintro _ w7 ⟨rfl,h7,f7⟩
    exact ⟨(),rfl,rfl,h7,(((f3.trans f4).trans f5).trans f6).trans f7⟩
   refine CallK.of hp ?_
   rintro _ w3 ⟨rfl,h3,f3⟩
   exact ⟨(_,_,()),rfl,hK w3 h3 (f12.trans f3)⟩
  refine ifB.str (z:=[]) (fun e=>?_) (fun e=>?_)
  ·rw [if_pos e];exact ⟨rfl,h2,f12⟩
  rw [if_neg e]
  unfold numK
  refine ifB.str (z:=[102,105,120]) (fun e=>?_) (fun e=>?_)
  ·rw [if_pos e]
   refine CallK.of (z8z h2 [40]) ?_
   rintro _ w3 ⟨rfl,h3,f3⟩
   refine ⟨(),rfl,?_⟩
   refine CallK.of (rname_spec' h3) ?_
   rintro _ w4 ⟨rfl,h4,f4⟩
   refine ⟨_,rfl,?_⟩
   exact wrap_ok h4 [41] (zs:=[.string (⟨#[]⟩:ByteArray)]) (cks:=[.str]) (str (takeF fin nameL (mustF fin [40] s2)).1,()) rfl rfl fun w5 h5 f5=>⟨rfl,h5,((f12.trans f3).trans f4).trans f5⟩
  rw [if_neg e]
  refine ifB.str (z:=[110,101,103]) (fun e=>?_) (fun e=>?_)
  ·rw [if_pos e]
   refine CallK.of (z8z h2 [40]) ?_
   rintro _ w3 ⟨rfl,h3,f3⟩
   refine ⟨(),rfl,?_⟩
   refine CallK.of (ih h3) ?_
   rintro _ w4 ⟨rfl,h4,f4⟩
   refine ⟨_,rfl,⟨Ob.v_cells _,?_⟩⟩
   exact wrap_ok h4 [41] (zs:=[.nilIface]) (cks:=[.raw]) ((numR fin n (mustF fin [40] s2)).1.v,()) rfl (by simp [Cs.vals,Ck.val,Ob.v_one]) fun w5 h5 f5=>⟨rfl,h5,((f12.trans f3).trans f4).trans f5⟩
  rw [if_neg e]
  refine ifB.str (z:=[97,100,100]) (fun e=>?_) (fun e=>?_)
  ·rw [if_pos e]
   exact pair fun w3 h3 f3=>⟨Ob.v_cells _,⟨Ob.v_cells _,rfl,h3,f3⟩⟩
  rw [if_neg e]
  refine ifB.str (z:=[109,117,108]) (fun e=>?_) (fun e=>?_)
  ·rw [if_pos e]
   exact pair fun w3 h3 f3=>⟨Ob.v_cells _,⟨Ob.v_cells _,rfl,h3,f3⟩⟩
  rw [if_neg e]
  refine ifB.str (z:=[109,97,120]) (fun e=>?_) (fun e=>?_)
  ·rw [if_pos e]
   exact pair fun w3 h3 f3=>⟨Ob.v_cells _,⟨Ob.v_cells _,rfl,h3,f3⟩⟩
  rw [if_neg e]
  refine CallK.of (number_spec x (by omega) w2) ?_
  rintro _ w3 ⟨rfl,f3⟩
  exact ⟨(_,_,()),rfl,rfl,h2.keep0 f3,f12.then0 f3⟩
theorem one1_nil:one1 .nilIface=true:=rfl
theorem rone_of {n:Nat} (ih:∀ {w:World} {m b:Nat} {fin:Int} {s:RS},IsRd w m b fin s→Ret Tryz.prog 171 #[.pointer (some ⟨b,0,none⟩),.int .i64 (12 - (n:Int))] w fun r w'=>r=(conR fin n s).1.v∧IsRd w' m b fin (conR fin n s).2∧Fr (only b) w w')
  {w:World} {m b:Nat} {fin:Int} {s:RS} (h:IsRd w m b fin s):Ret Tryz.prog 194 #[.pointer (some ⟨b,0,none⟩),.int .i64 (12 - (n:Int))] w fun r w'=>r=(oneF fin (conR fin n) s).1.v∧IsRd w' m b fin (oneF fin (conR fin n) s).2∧Fr (only b) w w':=by
 refine c194 _ _ w _ ?_
 refine CallK.of (ih h) ?_
 rintro _ w1 ⟨rfl,h1,f1⟩
 refine ⟨_,rfl,?_⟩
 refine CallK.of (z8z h1 [41]) ?_
 rintro _ w2 ⟨rfl,h2,f2⟩
 exact ⟨(),rfl,rfl,h2,f1.trans f2⟩
theorem rboth_of {n:Nat} (ih:∀ {w:World} {m b:Nat} {fin:Int} {s:RS},IsRd w m b fin s→Ret Tryz.prog 171 #[.pointer (some ⟨b,0,none⟩),.int .i64 (12 - (n:Int))] w fun r w'=>r=(conR fin n s).1.v∧IsRd w' m b fin (conR fin n s).2∧Fr (only b) w w')
  {w:World} {m b:Nat} {fin:Int} {s:RS} (h:IsRd w m b fin s):Ret Tryz.prog 195 #[.pointer (some ⟨b,0,none⟩),.int .i64 (12 - (n:Int))] w fun r w'=>
   r=.tuple #[(bothF fin (conR fin n) s).1.v,(bothF fin (conR fin n) s).2.1.v]∧IsRd w' m b fin (bothF fin (conR fin n) s).2.2∧Fr (only b) w w':=by
 refine c195 _ _ w _ ?_
 refine CallK.of (ih h) ?_
 rintro _ w1 ⟨rfl,h1,f1⟩
 refine ⟨_,rfl,?_⟩
 refine CallK.of (z8z h1 [44]) ?_
 rintro _ w2 ⟨rfl,h2,f2⟩
 refine ⟨(),rfl,?_⟩
 refine CallK.of (ih h2) ?_
 rintro _ w3 ⟨rfl,h3,f3⟩
 refine ⟨_,rfl,?_⟩
 refine CallK.of (z8z h3 [41]) ?_
 rintro _ w4 ⟨rfl,h4,f4⟩
 exact ⟨(),rfl,rfl,h4,((f1.trans f2).trans f3).trans f4⟩
theorem rcontract_spec:∀ (n:Nat) (hn:n≤12) {w:World} {m b:Nat} {fin:Int} {s:RS} (h:IsRd w m b fin s),Ret Tryz.prog 171 #[.pointer (some ⟨b,0,none⟩),.int .i64 (12 - (n:Int))] w fun r w'=>r=(conR fin n s).1.v∧IsRd w' m b fin (conR fin n s).2∧Fr (only b) w w'
 | 0,hn,w,m,b,fin,s,h=>by
  refine c171 _ _ w _ ?_
  refine CallK.of (rdeep_spec h 0 hn) ?_
  rintro _ w1 ⟨rfl,h1,f1⟩
  exact ⟨_,rfl,ifB.t rfl ⟨rfl,h1,f1⟩⟩
 | n+1,hn,w,m,b,fin,s,h=>by
  have ih:=fun {w:World} {m b:Nat} {fin:Int} {s:RS} (h:IsRd w m b fin s)=>rcontract_spec n (by omega) h
  refine c171 _ _ w _ ?_
  refine CallK.of (rdeep_spec h (n+1) hn) ?_
  rintro _ w1 ⟨rfl,h1,f1⟩
  rw [if_neg (by omega)] at h1
  refine ⟨_,rfl,?_⟩
  dsimp only
  rw [sub1 n hn]
  unfold conR
  by_cases he:s.e=0
  case neg=>
   rw [if_pos he]
   exact ifB.t (by simp [he]) ⟨rfl,h1,f1⟩
  rw [if_neg (by simpa using he)]
  refine ifB.f (by simp [he]) ?_
  refine CallK.of (rtake_spec h1 _ beginsF fun y hy K hK=>?_) ?_
  ·refine z52z (by kernel_rfl) Tryz.func191 (by kernel_rfl) ((rbegins_spec y w1).mono ?_)
   rintro _ _ ⟨rfl,rfl⟩
   exact ⟨_,rfl,hK w1 (Fr.refl _ _)⟩
  rintro _ w2 ⟨rfl,h2,f2⟩
  refine ⟨_,rfl,?_⟩
  generalize (takeF fin beginsF s).1=x
  generalize (takeF fin beginsF s).2=s1 at h2 ⊢
  have f12:=f1.trans f2
  refine ifB.str (z:=[]) (fun e=>?_) (fun e=>?_)
  ·rw [if_pos e];exact ⟨rfl,h2,f12⟩
  rw [if_neg e]
  refine ifB.str (z:=[122,101,114,111]) (fun e=>?_) (fun e=>?_)
  ·rw [if_pos e];exact ⟨rfl,h2,f12⟩
  rw [if_neg e]
  refine CallK.of (z8z h2 [40]) ?_
  rintro _ w3 ⟨rfl,h3,f3⟩
  refine ⟨(),rfl,?_⟩
  have f13:=f12.trans f3
  generalize mustF fin [40] s1=s2 at h3 ⊢
  have hlt:=h.lt
  unfold conK
  refine ifB.str (z:=[111,110,101]) (fun e=>?_) (fun e=>?_)
  ·rw [if_pos e]
   refine CallK.of (rname_spec' h3) ?_
   rintro _ w4 ⟨rfl,h4,f4⟩
   refine ⟨_,rfl,?_⟩
   exact wrap_ok h4 [41] (zs:=[.string (⟨#[]⟩:ByteArray)]) (cks:=[.str]) (str (takeF fin nameL s2).1,()) rfl rfl fun w5 h5 f5=>⟨rfl,h5,(f13.trans f4).trans f5⟩
  rw [if_neg e]
  refine ifB.str (z:=[103,105,118,101]) (fun e=>?_) (fun e=>?_)
  ·rw [if_pos e]
   refine CallK.of (rone_of ih h3) ?_
   rintro _ w4 ⟨rfl,h4,f4⟩
   exact ⟨_,rfl,⟨Tm.v_cells _,rfl,h4,f13.trans f4⟩⟩
  rw [if_neg e]
  refine ifB.str (z:=[97,110,100]) (fun e=>?_) (fun e=>?_)
  ·rw [if_pos e]
   refine CallK.of (rboth_of ih h3) ?_
   rintro _ w4 ⟨rfl,h4,f4⟩
   exact ⟨(_,_,()),rfl,⟨Tm.v_cells _,⟨Tm.v_cells _,rfl,h4,f13.trans f4⟩⟩⟩
  rw [if_neg e]
  refine ifB.str (z:=[111,114]) (fun e=>?_) (fun e=>?_)
  ·rw [if_pos e]
   refine CallK.of (rname_spec' h3) ?_
   rintro _ w4 ⟨rfl,h4,f4⟩
   refine ⟨_,rfl,?_⟩
   generalize (takeF fin nameL s2).1=y
   generalize (takeF fin nameL s2).2=s3 at h4 ⊢
   refine ns_ok (zs:=[.string (⟨#[]⟩:ByteArray),.nilIface,.nilIface]) (vs:=[.string (str y),.nilIface,.nilIface]) rfl rfl fun g w5 hg hb f5=>?_
   have hgm:m≤g:=by have:=h4.lt;omega
   have hgb:g≠b:=by have:=h4.lt;omega
   refine CallK.of (z8z (h4.keep0 f5) [44]) ?_
   rintro _ w6 ⟨rfl,h6,f6⟩
   refine ⟨(),rfl,?_⟩
   refine CallK.of (rboth_of ih h6) ?_
   rintro _ w7 ⟨rfl,h7,f7⟩
   refine ⟨(_,_,()),rfl,⟨Tm.v_cells _,?_⟩⟩
   have hb7:=f7.keep1 (f6.keep1 hb hgb) hgb
   refine StsK.one hb7 (by show 1<3;omega) (Tm.v_one _) fun w8 hb8 f8 _=>⟨Tm.v_cells _,?_⟩
   refine StsK.one hb8 (by show 2<3;omega) (Tm.v_one _) fun w9 hb9 f9 _=>?_
   refine LdsK.blk (x:=(str y,(bothF fin (conR fin n) (mustF fin [44] s3)).1.v,(bothF fin (conR fin n) (mustF fin [44] s3)).2.1.v,())) hb9 ?_
   have f89:=f8.trans f9
   exact ⟨rfl,h7.keep f89 (fun k hk t=>by have:k=g:=t;omega),(f13.trans f4).trans ((Fr.of0 f5 (f6.trans f7)).comp f89 fun x hx t=>by have:x=g:=t;omega)⟩
  rw [if_neg e]
  refine ifB.str (z:=[115,99,97,108,101]) (fun e=>?_) (fun e=>?_)
  ·rw [if_pos e]
   refine CallK.of (rnumber_spec n (by omega) h3) ?_
   rintro _ w4 ⟨rfl,h4,f4⟩
   refine ⟨_,rfl,⟨Ob.v_cells _,?_⟩⟩
   generalize (numR fin n s2).1=y
   generalize (numR fin n s2).2=s3 at h4 ⊢
   refine ns_ok (zs:=[.nilIface,.nilIface]) (vs:=[y.v,.nilIface]) rfl (by simp [Ob.v_one,one1_nil]) fun g w5 hg hb f5=>?_
   have hgm:m≤g:=by have:=h4.lt;omega
   have hgb:g≠b:=by have:=h4.lt;omega
   refine CallK.of (z8z (h4.keep0 f5) [44]) ?_
   rintro _ w6 ⟨rfl,h6,f6⟩
   refine ⟨(),rfl,?_⟩
   refine CallK.of (rone_of ih h6) ?_
   rintro _ w7 ⟨rfl,h7,f7⟩
   refine ⟨_,rfl,⟨Tm.v_cells _,?_⟩⟩
   have hb7:=f7.keep1 (f6.keep1 hb hgb) hgb
   refine StsK.one hb7 (by show 1<2;omega) (Tm.v_one _) fun w8 hb8 f8 _=>?_
   refine LdsK.blk (x:=(y.v,(oneF fin (conR fin n) (mustF fin [44] s3)).1.v,())) hb8 ?_
   exact ⟨rfl,h7.keep f8 (fun k hk t=>by have:k=g:=t;omega),(f13.trans f4).trans ((Fr.of0 f5 (f6.trans f7)).comp f8 fun x hx t=>by have:x=g:=t;omega)⟩
  rw [if_neg e]
  refine ifB.str (z:=[119,104,101,110]) (fun e=>?_) (fun e=>?_)
  ·rw [if_pos e]
   refine CallK.of (rday_spec h3) ?_
   rintro _ w4 ⟨rfl,h4,f4⟩
   refine ⟨_,rfl,?_⟩
   generalize (numF (takeF fin dayF s2).1).1=y
   generalize (takeF fin dayF s2).2=s3 at h4 ⊢
   refine ns_ok (zs:=[.int .i64 0,.nilIface]) (vs:=[.int .i64 y,.nilIface]) rfl rfl fun g w5 hg hb f5=>?_
   have hgm:m≤g:=by have:=h4.lt;omega
   have hgb:g≠b:=by have:=h4.lt;omega
   refine CallK.of (z8z (h4.keep0 f5) [44]) ?_
   rintro _ w6 ⟨rfl,h6,f6⟩
   refine ⟨(),rfl,?_⟩
   refine CallK.of (rone_of ih h6) ?_
   rintro _ w7 ⟨rfl,h7,f7⟩
   refine ⟨_,rfl,⟨Tm.v_cells _,?_⟩⟩
   have hb7:=f7.keep1 (f6.keep1 hb hgb) hgb
   refine StsK.one hb7 (by show 1<2;omega) (Tm.v_one _) fun w8 hb8 f8 _=>?_
   refine LdsK.blk (x:=(y,(oneF fin (conR fin n) (mustF fin [44] s3)).1.v,())) hb8 ?_
   exact ⟨rfl,h7.keep f8 (fun k hk t=>by have:k=g:=t;omega),(f13.trans f4).trans ((Fr.of0 f5 (f6.trans f7)).comp f8 fun x hx t=>by have:x=g:=t;omega)⟩
  rw [if_neg e]
  refine CallK.of (rnumber_spec n (by omega) h3) ?_
  rintro _ w4 ⟨rfl,h4,f4⟩
  refine ⟨_,rfl,⟨Ob.v_cells _,?_⟩⟩
  generalize (numR fin n s2).1=y
  generalize (numR fin n s2).2=s3 at h4 ⊢
  refine ns_ok (zs:=[.nilIface,.nilIface,.nilIface]) (vs:=[y.v,.nilIface,.nilIface]) rfl (by simp [Ob.v_one,one1_nil]) fun g w5 hg hb f5=>?_
  have hgm:m≤g:=by have:=h4.lt;omega
  have hgb:g≠b:=by have:=h4.lt;omega
  refine CallK.of (z8z (h4.keep0 f5) [44]) ?_
  rintro _ w6 ⟨rfl,h6,f6⟩
  refine ⟨(),rfl,?_⟩
  refine CallK.of (rboth_of ih h6) ?_
  rintro _ w7 ⟨rfl,h7,f7⟩
  refine ⟨(_,_,()),rfl,⟨Tm.v_cells _,?_⟩⟩
  have hb7:=f7.keep1 (f6.keep1 hb hgb) hgb
  refine StsK.one hb7 (by show 1<3;omega) (Tm.v_one _) fun w8 hb8 f8 _=>⟨Tm.v_cells _,?_⟩
  refine StsK.one hb8 (by show 2<3;omega) (Tm.v_one _) fun w9 hb9 f9 _=>?_
  refine LdsK.blk (x:=(y.v,(bothF fin (conR fin n) (mustF fin [44] s3)).1.v,(bothF fin (conR fin n) (mustF fin [44] s3)).2.1.v,())) hb9 ?_
  have f89:=f8.trans f9
  exact ⟨rfl,h7.keep f89 (fun k hk t=>by have:k=g:=t;omega),(f13.trans f4).trans ((Fr.of0 f5 (f6.trans f7)).comp f89 fun x hx t=>by have:x=g:=t;omega)⟩
theorem rcount_spec (bs:List UInt8) (hl:bs.length<9223372036854775807) (w:World):Ret Tryz.prog 187 #[.string (str bs)] w fun r w'=>r=.int .i64 ((runesL bs).length:Int)∧Fr none1 w w':=by
 refine (Tryz.utf8_RuneCountInString (str bs) w (by rw [z1z];exact hl)).mono ?_
 rintro e w' ⟨rfl,pos,rfl⟩
 refine ⟨_,rfl,?_,push_fr _ _⟩
 unfold Lib.runeCount
 rw [count_runes _ _ _ (by omega),z5z,List.drop_zero]
theorem rbegin_spec (bs:List UInt8) (hl:bs.length≤1000000000000) (w:World):Ret Tryz.prog 170 #[.string (str bs)] w fun r w'=>∃ m g:Nat,r=.pointer (some ⟨g,0,none⟩)∧IsRd w' m g (endF bs) (beginF bs)∧Fr none1 w w'∧w.heap.size≤g:=by
 refine c170 (str bs) w _ ?_
 refine CallK.of (rcount_spec bs (by omega) w) ?_
 rintro _ w1 ⟨rfl,f1⟩
 refine ⟨_,rfl,?_⟩
 have hrl:=z37z bs
 have hfin:IntKind.i64.wrap (((runesL bs).length:Int)+1)=endF bs:=wI (by omega) (by omega)
 refine NewK.of fun g w2 hg hb f2 hs2=>?_
 rw [hfin] at hb
 have hgw:w.heap.size≤g:=by have:=f1.size;omega
 unfold beginF
 rw [z1z]
 refine ifB.dec (fun h=>?_) (fun h=>?_)
 ·rw [if_pos (by omega)]
  refine StK.fld hb (by show 0+3<4;omega) rfl fun w3 hb3 f3 hs3=>?_
  exact ⟨g+1,g,rfl,⟨(none,0,0),hb3,none_sg _,⟨z39z _,by omega,by omega,fun k t=>(z39z k t).elim⟩,fun x hx=>by cases hx⟩,f1.trans (f2.fresh f3 (by omega)),hgw⟩
 ·rw [if_neg (by omega)]
  refine CallK.of (signs_spec bs w2 (by have:=reads_le (runesL bs);omega)) ?_
  rintro _ w3 ⟨sl,rfl,hsl,f3,hf⟩
  refine ⟨((sl.1,sl.2.1,sl.2.2),_,()),rfl,?_⟩
  have hb3:=f3.keep0 hb
  have hz:=signs_short (bs:=bs) (by omega)
  have hblk:¬ blkOf sl g:=fun t=>by have:=hf g t;omega
  have hltm:∀ k,blkOf sl k→k<w3.heap.size:=fun k hk=>hsl.sl.lt hk
  refine ifB.dec (fun hp=>?_) (fun hp=>?_)
  ·rw [if_pos (show 0<(sgF [] 0 false (runesL bs)).2 from hp)]
   refine StK.fld hb3 (by show 0+3<4;omega) rfl fun w4 hb4 f4 hs4=>?_
   refine StK.fld hb4 (by show 0+2<4;omega) rfl fun w5 hb5 f5 hs5=>?_
   refine StK.fld hb5 (by show 0+0<4;omega) rfl fun w6 hb6 f6 hs6=>?_
   have f46:=(f4.trans f5).trans f6
   exact ⟨w3.heap.size,g,rfl,⟨sl,hb6,hsl.keep f46 (fun k hk t=>hblk (by have:k=g:=t;rw [← this];exact hk)),⟨hblk,z3z hb3,by omega,hltm⟩,hz⟩,f1.trans ((f2.trans f3).fresh f46 (by omega)),hgw⟩
  ·rw [if_neg (show ¬ 0<(sgF [] 0 false (runesL bs)).2 from hp)]
   refine StK.fld hb3 (by show 0+0<4;omega) rfl fun w4 hb4 f4 hs4=>?_
   exact ⟨w3.heap.size,g,rfl,⟨sl,hb4,hsl.keep f4 (fun k hk t=>hblk (by have:k=g:=t;rw [← this];exact hk)),⟨hblk,z3z hb3,by omega,hltm⟩,hz⟩,f1.trans ((f2.trans f3).fresh f4 (by omega)),hgw⟩
theorem rdone_spec {w:World} {m b:Nat} {fin:Int} {s:RS} (h:IsRd w m b fin s):Ret Tryz.prog 172 #[.pointer (some ⟨b,0,none⟩)] w fun r w'=>r=.tuple #[]∧IsRd w' m b fin (doneF fin s)∧Fr (only b) w w':=by
 refine c172 _ w _ ?_
 obtain ⟨sl,hb,hs,_⟩:=id h
 have hl:=hs.len
 refine LdK.fld hb (x:=sl) rfl ?_
 unfold doneF
 cases hsl:s.l with
 | nil=>
  rw [hsl] at hl
  exact ifB.no (by rw [hl];decide) ⟨rfl,h,Fr.refl _ _⟩
 | cons x l=>
  rw [hsl] at hl
  simp only [List.length_cons] at hl
  refine ifB.yes (by omega) ?_
  refine CallK.of (rfail_spec h 2) ?_
  rintro _ w1 ⟨rfl,h1,f1⟩
  exact ⟨(),rfl,rfl,h1,f1⟩
theorem con_small {bs:List UInt8} (h:(conS bs).e=0):nodesT (conR (endF bs) 12 (beginF bs)).1≤1000000:=by
 obtain ⟨h1,h2,_⟩:=doneF_ok h
 obtain ⟨i1,_,_⟩:=conR_inv (endF bs) 12 (beginF bs) h1
 obtain ⟨b1,_,b3⟩:=beginF_ok i1.e
 obtain ⟨xs,hx,hxs⟩:=i1.eat
 have h3:=nodesT_toks (conR (endF bs) 12 (beginF bs)).1
 rw [← hxs,List.length_map] at h3
 rw [h2,List.append_nil,b3] at hx
 have h4:=sgF_cnt (runesL bs) [] 0 false
 have h5:=z37z bs
 have hx:(sgF [] 0 false (runesL bs)).1=xs:=hx
 rw [hx,List.length_nil] at h4
 omega
theorem rterm_spec (bs:List UInt8) (hl:bs.length≤1000000000000) (w:World):Ret Tryz.prog 157 #[.string (str bs)] w fun r w'=>r=.tuple #[(readT bs).1.v,.int .i64 (readT bs).2.1,.int .i64 (readT bs).2.2]∧Fr none1 w w':=by
 refine c157 (str bs) w _ ?_
 refine CallK.of (rbegin_spec bs hl w) ?_
 rintro _ w1 ⟨m,g,rfl,h1,f1,hg⟩
 refine ⟨_,rfl,?_⟩
 refine CallK.of (rcontract_spec 12 (Nat.le_refl _) h1) ?_
 rintro _ w2 ⟨rfl,h2,f2⟩
 refine ⟨_,rfl,?_⟩
 refine CallK.of (rdone_spec h2) ?_
 rintro _ w3 ⟨rfl,h3,f3⟩
 refine ⟨(),rfl,?_⟩
 have f13:Fr none1 w w3:=f1.fresh (f2.trans f3) hg
 have h3:IsRd w3 m g (endF bs) (conS bs):=h3
 obtain ⟨sl,hb,_⟩:=id h3
 unfold readT
 refine LdK.fld hb (x:=(conS bs).e) rfl ?_
 refine ifB.eq (fun he=>?_) (fun he=>?_)
 ·rw [if_neg (fun t=>t he)]
  refine CallK.of (tcheck_spec _ (con_small he) w3) ?_
  rintro _ w4 ⟨rfl,f4⟩
  refine ⟨_,rfl,?_⟩
  refine StK.fld (f4.keep0 hb) (by show 0+3<4;omega) rfl fun w5 hb5 f5 _=>?_
  refine LdK.fld hb5 (x:=checkT (conR (endF bs) 12 (beginF bs)).1) rfl ?_
  have f15:Fr none1 w w5:=(f13.trans f4).fresh f5 (by omega)
  refine ifB.ne (fun hc=>?_) (fun hc=>?_)
  ·rw [if_pos hc]
   refine DrewK.of fun w6 _ f6=>?_
   refine LdK.fld (f6.keep0 hb5) (x:=(conS bs).at_) rfl (LdK.fld (f6.keep0 hb5) (x:=checkT (conR (endF bs) 12 (beginF bs)).1) rfl ?_)
   exact ⟨rfl,f15.trans f6⟩
  ·rw [if_neg (fun t=>t hc)]
   exact ⟨rfl,f15⟩
 ·rw [if_pos he]
  refine LdK.fld hb (x:=(conS bs).e) rfl ?_
  refine ifB.ne (fun _=>?_) (fun hc=>absurd hc he)
  refine DrewK.of fun w6 _ f6=>?_
  refine LdK.fld (f6.keep0 hb) (x:=(conS bs).at_) rfl (LdK.fld (f6.keep0 hb) (x:=(conS bs).e) rfl ?_)
  exact ⟨rfl,f13.trans f6⟩
theorem getD_l {α:Type} (a b:List α) (d:α) {i:Nat} (h:i<a.length):(a++b).getD i d=a.getD i d:=by
 rw [List.getD_eq_getElem?_getD,List.getD_eq_getElem?_getD,List.getElem?_append_left h]
theorem RdB.mid {w:World} {v:Sl} {bs:List UInt8} (h:RdB w v bs) {lo hi:Int} (h0:0≤lo) (h1:lo≤hi) (h2:hi≤v.2.1) (hc:v.2.1≤v.2.2) {K:Option Addr→Nat→Nat→Prop}
  (k:∀ u:Sl,RdB w u ((bs.drop lo.toNat).take (hi - lo).toNat)→u.2.1≤u.2.2→u.2.1=(hi - lo).toNat→(∀ k,blkOf u k→blkOf v k)→K u.1 u.2.1 u.2.2):SubK v.1 v.2.2 lo hi v.2.2 1 K:=by
 refine RdSl.mid h h0 h1 h2 hc fun u hu=>k u ?_
 unfold RdB;rw [List.map_take,List.map_drop];exact hu
theorem RdB.keepE {w w':World} {v:Sl} {bs:List UInt8} (h:RdB w v bs) {S:Nat→Prop} (f:Fr S w w') (hn:bs≠[]→∀ k,blkOf v k→¬ S k):RdB w' v bs:=by
 by_cases e:bs=[]
 ·subst e
  obtain ⟨h1,h2,h3⟩:=h
  exact ⟨h1,h2,fun a ha=>trivial⟩
 ·exact h.keep f (hn e)
theorem RdB.ltE {w:World} {v:Sl} {bs:List UInt8} (h:RdB w v bs) (hn:bs≠[]) {k:Nat} (hk:blkOf v k):k<w.heap.size:=by
 obtain ⟨a,ha,rfl⟩:=hk
 obtain ⟨_,_,h3⟩:=h
 have:=h3 a ha
 cases bs with
 | nil=>exact (hn rfl).elim
 | cons b bs=>exact blk_of_cell this.1
def C17 (p0:Option Addr) (p0l p0c:Nat) (w:World) (K:Value→World→Prop):Prop:=
 RunK Tryz.prog (Instr.makeSlice 22 (.int .i64 (p0l:Int)) (.int .i64 (IntKind.i64.wrap ((p0l:Int)+3)))) w (.v (.one .slc)) (fun (x1:SlT) w2=>RunK Tryz.prog (Builtin.copy_ #[22,22] 3 #[.slice x1.1 x1.2.1 x1.2.2,.slice p0 p0l p0c]) w2 (.v (.one (.int .i64))) (fun (x3:Int) w4=>SubK x1.1 x1.2.2 0 (IntKind.i64.wrap ((p0l:Int)+3)) x1.2.2 1 (fun a5 l6 c7=>LoopK (Int×Unit) (fun _ s8 w9 next10=>ifB (decide (s8.1<(l6:Int)))
 (IdxK a5 l6 s8.1 1 (fun a11=>StK a11 (.int .u8 85) w9 (fun w12=>next10 (IntKind.i64.wrap (s8.1+1),()) w12)))
 (K (.slice x1.1 x1.2.1 x1.2.2) w9))
 ((p0l:Int),()) w4)))
def pl17:Plan:=(.seq .auto (.seq .auto (.seq .auto (.seq .auto (.seq (.seq .auto (.block (.loop [(5,.one (.int .i64))] .auto))) .auto)))))
theorem c17 (p0:Option Addr) (p0l p0c:Nat) (w:World) (K:Value→World→Prop) (h:C17 p0 p0l p0c w K):Ret Tryz.prog 17 #[.slice p0 p0l p0c] w K:=z0z (by kernel_rfl) Tryz.func17 (p:=pl17) (Eq.mpr (by kernel_rfl) h)
def C21 (p0:Option Addr) (p0l p0c:Nat) (p1:Option Addr) (p1l p1c:Nat) (w:World) (K:Value→World→Prop):Prop:=
 ifB ((p0l:Int) != (p1l:Int))
 (K (.bool false) w)
 (ifB ((p0c:Int) != (IntKind.i64.wrap ((p1l:Int)+3)))
 (K (.bool false) w)
 (SubK p0 p0c 0 (IntKind.i64.wrap ((p1l:Int)+3)) p0c 1 (fun a1 l2 c3=>LoopK (Int×Unit) (fun _ s4 w5 next6=>ifB (decide (s4.1<(l2:Int)))
 (DrewK w5 (fun w7=>ifB (decide (s4.1<(p1l:Int)))
 (IdxK a1 l2 s4.1 1 (fun a8=>LdK (.int .u8) a8 w7 (fun (x9:Int)=>IdxK p1 p1l s4.1 1 (fun a10=>LdK (.int .u8) a10 w7 (fun (x11:Int)=>ifB (x9 != x11)
 (K (.bool false) w7)
 (ifB (decide (s4.1 ≥ (p1l:Int)))
 (IdxK a1 l2 s4.1 1 (fun a12=>LdK (.int .u8) a12 w7 (fun (x13:Int)=>ifB (x13 != 85)
 (K (.bool false) w7)
 (next6 (IntKind.i64.wrap (s4.1+1),()) w7))))
 (next6 (IntKind.i64.wrap (s4.1+1),()) w7)))))))
 (ifB (decide (s4.1 ≥ (p1l:Int)))
 (IdxK a1 l2 s4.1 1 (fun a14=>LdK (.int .u8) a14 w7 (fun (x15:Int)=>ifB (x15 != 85)
 (K (.bool false) w7)
 (next6 (IntKind.i64.wrap (s4.1+1),()) w7))))
 (next6 (IntKind.i64.wrap (s4.1+1),()) w7))))
 (K (.bool true) w5))
 (0,()) w)))
def pl21:Plan:=(.seq .auto (.seq .auto (.seq .auto (.seq (.seq .auto (.block (.loop [(27,.one (.int .i64))] (.seq .auto (.seq .auto (.seq (.block (.seq .auto (.seq .still .auto))) .auto)))))) .auto))))
theorem c21 (p0:Option Addr) (p0l p0c:Nat) (p1:Option Addr) (p1l p1c:Nat) (w:World) (K:Value→World→Prop) (h:C21 p0 p0l p0c p1 p1l p1c w K):Ret Tryz.prog 21 #[.slice p0 p0l p0c,.slice p1 p1l p1c] w K:=z0z (by kernel_rfl) Tryz.func21 (p:=pl21) (Eq.mpr (by kernel_rfl) h)
theorem make_full {w:World} {n m:Int} (h0:0≤n) (h1:n≤m) (hb:m≤281474976710656) :
  ∃ w',(Instr.makeSlice 22 (.int .i64 n) (.int .i64 m)).run Tryz.prog w=.ok (.slice (some ⟨w.heap.size,0,none⟩) n.toNat m.toNat) w'∧IsB w' (some ⟨w.heap.size,0,none⟩,m.toNat,m.toNat) (List.replicate m.toNat 0)∧Fr none1 w w':=by
 obtain ⟨hu,⟨i,hi,hs,hz,hby⟩,hc,hpos⟩:=z7z
 have hti:∀ w,(typeInfo 5).run Tryz.prog w=.ok i w:=fun w=>by simp [typeInfo,hi]
 have hsize:∀ w,(sizeOf 5).run Tryz.prog w=.ok 1 w:=fun w=>by rw [sizeof hi,hs]
 have ha:∀ (k:IntKind) (n:Int) w,(asInt (.int k n)).run Tryz.prog w=.ok n w:=fun _ _ _=>rfl
 unfold Instr.makeSlice
 simp only [Sem.run_bind,under hu,Result.andThen_ok,ha,hti,wI (x:=n) (by omega) (by omega),wI (x:=m) (by omega) (by omega)]
 have hbm:¬ ((i.bytes:Int) * m > 2 ^ 48):=by rw [hby];omega
 rw [if_neg (by simp;omega)]
 have hcells:∀ zc:Array Value,(m.toNat * 1≠0→zc=#[.int .u8 0])→(Array.range (m.toNat * 1)).map (zc[· % zc.size]!)=Array.replicate m.toNat (.int .u8 0):=fun zc hzc=>by
  by_cases h:m.toNat * 1=0
  ·have:m.toNat=0:=by omega
   rw [this];simp
  ·rw [hzc h]
   apply Array.ext
   ·simp
   ·intro j h1 h2
    have:j % 1=0:=Nat.mod_one _
    simp [this]
 have fin:∀ cs:Array Value,cs=Array.replicate m.toNat (.int .u8 0) →
   ∃ w',(do pure (Value.slice (some (← newRow 5 cs)) n.toNat m.toNat):Sem Value).run Tryz.prog w=.ok (.slice (some ⟨w.heap.size,0,none⟩) n.toNat m.toNat) w'∧IsB w' (some ⟨w.heap.size,0,none⟩,m.toNat,m.toNat) (List.replicate m.toNat 0)∧Fr none1 w w':=fun cs hcs=>by
  subst hcs
  simp only [newRow,Sem.run_bind,run_newObj,Result.andThen_ok,Sem.run_pure]
  refine ⟨_,rfl,.inr ⟨w.heap.size,0,_,rfl,Array.getElem?_push_size ..,Nat.le_refl _,by simp,by simp,fun j hj=>?_⟩,push_fr _ _⟩
  simp at hj
  rw [List.map_replicate,Array.getElem?_replicate,List.getElem?_replicate,if_pos (show 0+j<m.toNat by omega),if_pos (show j<m.toNat by omega)]
  rfl
 by_cases h:m.toNat * 1=0
 ·simp only [Sem.run_bind,run_askRoom,Result.andThen_ok,hsize,if_pos h,Sem.run_pure]
  exact fin _ (hcells #[] (fun hh=>absurd h hh))
 ·simp only [Sem.run_bind,run_askRoom,Result.andThen_ok,hsize,if_neg h,zeroof hi hz,Sem.run_pure]
  exact fin _ (hcells _ (fun _=>rfl))
theorem setCells_above {g:Nat} {T:TypeId}:∀ (vs:List Value) (w:World) (cs cs':Array Value) (off i:Nat),w.heap[g]? = some (.cells cs T (0,0))→(setCells w ⟨g,off,none⟩ i vs).heap[g]? = some (.cells cs' T (0,0))→∀ j,off+i+vs.length≤j→cs'[j]? = cs[j]?
 | [],w,cs,cs',off,i,hb,hb',j,_=>by
  have:some (Obj.cells cs T (0,0))=some (.cells cs' T (0,0)):=by rw [← hb,← hb'];rfl
  injection this with this
  injection this with this
  rw [this]
 | v::vs,w,cs,cs',off,i,hb,hb',j,hj=>by
  simp only [List.length_cons] at hj
  unfold setCells at hb'
  rw [z2z] at hb'
  have hs:=Vc.heap_setCell_same (i:=off+i) (v:=v) hb
  have:=setCells_above vs _ _ cs' off (i+1) hs hb' j (by omega)
  rw [this,Array.getElem?_setIfInBounds_ne (by omega)]
theorem copy_ok {w:World} {g n m:Nat} {y:Sl} {fs ys:List UInt8} (hx:IsB w (some ⟨g,0,none⟩,m,m) fs) (hy:RdB w y ys) (hn:y.2.1=n) (hnm:n≤m) (o:TypeId) :
  ∃ (r:Int) (w':World),(Builtin.copy_ #[22,22] o #[.slice (some ⟨g,0,none⟩) n m,.slice y.1 y.2.1 y.2.2]).run Tryz.prog w=.ok (.int .i64 r) w'∧IsB w' (some ⟨g,0,none⟩,m,m) (ys++fs.drop n)∧Fr (only g) w w':=by
 obtain ⟨hu,⟨i,hi,hs,hz,hby⟩,hc,hpos⟩:=z7z
 have hsize:∀ w,(sizeOf 5).run Tryz.prog w=.ok 1 w:=fun w=>by rw [sizeof hi,hs]
 have hlen:∀ w,(Builtin.lenOf (.slice y.1 y.2.1 y.2.2)).run Tryz.prog w=.ok y.2.1 w:=fun w=>rfl
 have hyl:=hy.len
 have hfl:=hx.len
 dsimp only at hfl
 unfold Builtin.copy_
 simp only [Sem.run_bind,under hu,Result.andThen_ok,hsize,List.getElem?_toArray,List.getElem?_cons_zero,List.getElem?_cons_succ,Sem.run_pure,hlen]
 have hmin:Nat.min y.2.1 n=y.2.1:=by rw [hn];exact Nat.min_self n
 rw [hmin]
 simp only [RdSl.first hy,Result.andThen_ok]
 rcases hx with ⟨e,_⟩ | ⟨g',off,cs,h1,h2,h3,h4,h5,h6⟩
 ·cases e
 ·injection h1 with h1
  injection h1 with e1 e2
  subst e1;subst e2
  dsimp only at h4 h5
  obtain ⟨hw,cs',a1,a2,a3,a4,a5,a6⟩:=writes_blk (ys.map bc) w cs 0 0 h2 (by simp;omega) (bc_one ys)
  rw [show (storeCells ⟨g,0,none⟩ ((ys.map bc).toArray).toList 0).run Tryz.prog w=.ok () _ from z22z (ys.map bc) 0 w hw]
  refine ⟨_,_,rfl,.inr ⟨g,0,cs',rfl,a1,Nat.le_refl _,by rw [a2];exact h4,by simp;omega,fun j hj=>?_⟩,a5⟩
  have habove:=setCells_above (ys.map bc) w cs cs' 0 0 h2 a1
  simp only [List.length_map,List.length_append,List.length_drop] at hj habove
  rw [List.map_append]
  by_cases hjy:j<ys.length
  ·have:=a3 j (by simpa using hjy)
   rw [show 0+0+j=0+j by omega] at this
   rw [this,List.getElem?_append_left (by simpa using hjy)]
  ·have q1:=habove (0+j) (by omega)
   have q2:=h6 j (by rw [List.length_map];omega)
   rw [q1,q2,List.getElem?_append_right (by rw [List.length_map];omega),List.length_map,List.map_drop,List.getElem?_drop]
   have:n+(j - ys.length)=j:=by omega
   rw [this]
def lendL (bs:List UInt8):List UInt8:=bs++[85,85,85]
theorem lend_spec {w:World} {v:Sl} {bs:List UInt8} (h:RdB w v bs) (hl:bs.length≤140737488352000):Ret Tryz.prog 17 #[.slice v.1 v.2.1 v.2.2] w fun r w'=>
  ∃ g:Nat,r=.slice (some ⟨g,0,none⟩) bs.length (bs.length+3)∧w.heap.size≤g∧IsB w' (some ⟨g,0,none⟩,bs.length+3,bs.length+3) (lendL bs)∧Fr none1 w w':=by
 have hvl:=h.len
 refine c17 v.1 v.2.1 v.2.2 w _ ?_
 unfold C17
 rw [wI (x:=(v.2.1:Int)+3) (by omega) (by omega)]
 obtain ⟨w1,hr1,hx1,f1⟩:=make_full (w:=w) (n:=(v.2.1:Int)) (m:=(v.2.1:Int)+3) (by omega) (by omega) (by omega)
 rw [show ((v.2.1:Int)).toNat=bs.length by omega,show ((v.2.1:Int)+3).toNat=bs.length+3 by omega] at hr1
 rw [show ((v.2.1:Int)+3).toNat=bs.length+3 by omega] at hx1
 obtain ⟨g,hg⟩:∃ g,w.heap.size=g:=⟨_,rfl⟩
 rw [hg] at hr1 hx1
 refine ⟨(some ⟨g,0,none⟩,bs.length,bs.length+3),w1,hr1,?_⟩
 obtain ⟨r,w2,hr2,hx2,f2⟩:=copy_ok hx1 (h.keep0 f1) hvl (by omega) 3
 refine ⟨r,w2,hr2,?_⟩
 have f12:Fr none1 w w2:=f1.fresh f2 (by omega)
 have hll:(lendL bs).length=bs.length+3:=by simp [lendL]
 have hl3:∀ j,bs.length≤j→j<bs.length+3→(lendL bs).getD j 0=85:=fun j h1 h2=>by
  unfold lendL
  rw [List.getD_eq_getElem?_getD,List.getElem?_append_right h1]
  have:j - bs.length=0∨j - bs.length=1∨j - bs.length=2:=by omega
  rcases this with t | t | t<;>rw [t]<;>rfl
 have hlo:∀ j,j<bs.length→(lendL bs).getD j 0=bs.getD j 0:=fun j h1=>getD_l _ _ _ h1
 have hx2l:=hx2.len
 refine RdB.sub (v:=(some ⟨g,0,none⟩,bs.length+3,bs.length+3)) (n:=(v.2.1:Int)+3) hx2.rd (by omega) (by dsimp only;omega) (Nat.le_refl _) fun _=>?_
 rw [show ((v.2.1:Int)+3).toNat=bs.length+3 by omega]
 refine LoopK.of (fun s w'=>(bs.length:Int)≤s.1∧s.1≤bs.length+3∧Fr none1 w w'∧∃ cs:List UInt8,IsB w' (some ⟨g,0,none⟩,bs.length+3,bs.length+3) cs∧∀ j:Nat,(j:Int)<s.1→cs.getD j 0=(lendL bs).getD j 0) (fun s _=>(bs.length+3 - s.1).toNat)
  ⟨by dsimp only;omega,by dsimp only;omega,f12,_,hx2,fun j hj=>?_⟩ ?_
 ·dsimp only at hj
  rw [getD_l _ _ _ (by omega),hlo j (by omega)]
 rintro _ ⟨i,_⟩ w3 ⟨i0,i1,f3,cs,hc,hall⟩
 dsimp only at i0 i1 hall ⊢
 have hcl:=hc.len
 dsimp only at hcl
 refine ifB.dec (fun hlt=>?_) (fun hge=>?_)
 ·refine IsSl.st (v:=(some ⟨g,0,none⟩,bs.length+3,bs.length+3)) hc (by omega) (by dsimp only;omega) rfl fun w4 hc4 f4 _=>?_
  rw [wI (x:=i+1) (by omega) (by omega)]
  refine ⟨⟨by omega,by omega,f3.comp f4 (fun k hk ⟨a,ha,e⟩=>by injection ha with ha;subst ha;dsimp only at e;omega),cs.set i.toNat 85,by unfold IsB;rw [List.map_set];exact hc4,fun j hj=>?_⟩,by omega⟩
  rw [List.getD_eq_getElem?_getD,List.getElem?_set]
  by_cases hji:i.toNat=j
  ·rw [if_pos hji,if_pos (by omega),hl3 j (by omega) (by omega)];rfl
  ·rw [if_neg hji,← List.getD_eq_getElem?_getD]
   exact hall j (by omega)
 ·refine ⟨g,rfl,by omega,?_,f3⟩
  have:cs=lendL bs:=by
   refine List.ext_getElem (by omega) fun j h1 h2=>?_
   have:=hall j (by omega)
   rw [List.getD_eq_getElem?_getD,List.getD_eq_getElem?_getD,List.getElem?_eq_getElem h1,List.getElem?_eq_getElem h2] at this
   simpa using this
  rw [← this];exact hc
theorem intact_spec {w:World} {g:Nat} {v:Sl} {bs:List UInt8} (hx:IsB w (some ⟨g,0,none⟩,bs.length+3,bs.length+3) (lendL bs)) (h:RdB w v bs) (hl:bs.length≤140737488352000) :
  Ret Tryz.prog 21 #[.slice (some ⟨g,0,none⟩) bs.length (bs.length+3),.slice v.1 v.2.1 v.2.2] w fun r w'=>r=.bool true∧Fr none1 w w':=by
 have hvl:=h.len
 refine c21 _ _ _ v.1 v.2.1 v.2.2 w _ ?_
 unfold C21
 rw [wI (x:=(v.2.1:Int)+3) (by omega) (by omega)]
 refine ifB.f (by rw [hvl];simp) (ifB.f (by rw [hvl];simp) ?_)
 refine RdB.sub (v:=(some ⟨g,0,none⟩,bs.length+3,bs.length+3)) (n:=(v.2.1:Int)+3) hx.rd (by omega) (by dsimp only;omega) (Nat.le_refl _) fun _=>?_
 rw [show ((v.2.1:Int)+3).toNat=bs.length+3 by omega]
 have hl3:∀ j,bs.length≤j→j<bs.length+3→(lendL bs).getD j 0=85:=fun j h1 h2=>by
  unfold lendL
  rw [List.getD_eq_getElem?_getD,List.getElem?_append_right h1]
  have:j - bs.length=0∨j - bs.length=1∨j - bs.length=2:=by omega
  rcases this with t | t | t<;>rw [t]<;>rfl
 refine LoopK.of (fun s w'=>0≤s.1∧s.1≤bs.length+3∧Fr none1 w w') (fun s _=>(bs.length+3 - s.1).toNat) ⟨by dsimp only;omega,by dsimp only;omega,Fr.refl _ _⟩ ?_
 rintro _ ⟨i,_⟩ w1 ⟨i0,i1,f1⟩
 dsimp only at i0 i1 ⊢
 refine ifB.dec (fun hlt=>?_) (fun _=>⟨rfl,f1⟩)
 refine DrewK.of fun w2 _ f2=>?_
 have hx2:=(hx.keep0 f1).keep0 f2
 have h2:=(h.keep0 f1).keep0 f2
 rw [wI (x:=i+1) (by omega) (by omega)]
 have next:(0≤i+1∧i+1≤bs.length+3∧Fr none1 w w2)∧(bs.length+3 - (i+1)).toNat<(bs.length+3 - i).toNat:=⟨⟨by omega,by omega,f1.trans f2⟩,by omega⟩
 refine ifB.dec (fun h3=>?_) (fun h3=>?_)
 ·refine RdB.at (v:=(some ⟨g,0,none⟩,bs.length+3,bs.length+3)) hx2.rd i0 hlt ?_
  refine RdB.at h2 i0 h3 ?_
  refine ifB.f (by unfold lendL;rw [getD_l _ _ _ (by omega)];simp) ?_
  exact ifB.no (by omega) next
 ·refine ifB.yes (by omega) ?_
  refine RdB.at (v:=(some ⟨g,0,none⟩,bs.length+3,bs.length+3)) hx2.rd i0 hlt ?_
  rw [hl3 i.toNat (by omega) (by omega)]
  exact ifB.f rfl next
theorem lend_rd {w:World} {g:Nat} {bs:List UInt8} (h:IsB w (some ⟨g,0,none⟩,bs.length+3,bs.length+3) (lendL bs)):RdB w (some ⟨g,0,none⟩,bs.length,bs.length+3) bs:=by
 obtain ⟨h1,h2,h3⟩:=h.rd
 refine ⟨by simp,(fun t=>nomatch t),fun a ha=>?_⟩
 have:=z28z _ 0 bs.length (h3 a ha)
 unfold lendL at this
 rw [List.map_append,List.take_append_of_le_length (by simp),List.take_of_length_le (by simp)] at this
 exact this
def C98 (p0:Addr) (p1:Int) (w:World) (K:Value→World→Prop):Prop:=
 LdK .bool (p0.add 1) w (fun (x1:Bool)=>ifB x1
 (StK (p0.add 1) (.bool true) w (fun w2=>K (.slice none 0 0) w2))
 (LdK .slc (p0.add 0) w (fun (x3:SlT)=>ifB (decide (p1 > (x3.2.1:Int)))
 (StK (p0.add 1) (.bool true) w (fun w4=>K (.slice none 0 0) w4))
 (LdK .slc (p0.add 0) w (fun (x5:SlT)=>SubK x5.1 x5.2.2 0 p1 x5.2.2 1 (fun a6 l7 c8=>LdK .slc (p0.add 0) w (fun (x9:SlT)=>SubK x9.1 x9.2.2 p1 x9.2.1 x9.2.2 1 (fun a10 l11 c12=>StK (p0.add 0) (.slice a10 l11 c12) w (fun w13=>K (.slice a6 l7 c8) w13)))))))))
def pl98:Plan:=.auto
theorem c98 (p0:Addr) (p1:Int) (w:World) (K:Value→World→Prop) (h:C98 p0 p1 w K):Ret Tryz.prog 98 #[.pointer (some p0),.int .i64 p1] w K:=z0z (by kernel_rfl) Tryz.func98 (p:=pl98) (Eq.mpr (by kernel_rfl) h)
def C134 (p0:Addr) (p1:Int) (w:World) (K:Value→World→Prop):Prop:=
 CallK Tryz.prog 98 #[.pointer (some p0),.int .i64 p1] w (.v (.one .slc)) (fun (x1:SlT) w2=>LoopK (Int×Int×Unit) (fun _ s3 w4 next5=>ifB (decide (s3.2.1<(x1.2.1:Int)))
 (IdxK x1.1 x1.2.1 s3.2.1 1 (fun a6=>LdK (.int .u8) a6 w4 (fun (x7:Int)=>NnK 8 (next5 (IntKind.i64.wrap ((BitVec.ofInt 64 (IntKind.i64.wrap (s3.1 * 2 ^ (min (Int.toNat 8) 64))) ||| BitVec.ofInt 64 (IntKind.i64.wrap x7)).toNat:Int),IntKind.i64.wrap (s3.2.1+1),()) w4))))
 (CallK Tryz.prog 98 #[.pointer (some p0),.int .i64 s3.1] w4 (.v (.one .slc)) (fun (x8:SlT) w9=>RunK Tryz.prog (convert 22 9 (.slice x8.1 x8.2.1 x8.2.2)) w9 (.v (.one .str)) (fun (x10:ByteArray) w11=>K (.string x10) w11))))
 (0,0,()) w2)
def pl134:Plan:=(.seq .auto (.seq .auto (.seq (.seq .auto (.block (.loop [(5,.one (.int .i64)),(12,.one (.int .i64))] .auto))) .auto)))
theorem c134 (p0:Addr) (p1:Int) (w:World) (K:Value→World→Prop) (h:C134 p0 p1 w K):Ret Tryz.prog 134 #[.pointer (some p0),.int .i64 p1] w K:=z0z (by kernel_rfl) Tryz.func134 (p:=pl134) (Eq.mpr (by kernel_rfl) h)
def C132 (p0:Addr) (w:World) (K:Value→World→Prop):Prop:=
 CallK Tryz.prog 98 #[.pointer (some p0),.int .i64 8] w (.v (.one .slc)) (fun (x1:SlT) w2=>CallK Tryz.prog 67 #[.slice x1.1 x1.2.1 x1.2.2] w2 (.tup [.one (.int .i64),.one .bool]) (fun (x3:Int×Bool×Unit) w4=>LdK .bool (p0.add 1) w4 (fun (x5:Bool)=>ifB x5
 (StK (p0.add 1) (.bool true) w4 (fun w6=>K (.int .i64 x3.1) w6))
 (StK (p0.add 1) (.bool (!x3.2.1)) w4 (fun w7=>K (.int .i64 x3.1) w7)))))
def pl132:Plan:=.auto
theorem c132 (p0:Addr) (w:World) (K:Value→World→Prop) (h:C132 p0 w K):Ret Tryz.prog 132 #[.pointer (some p0)] w K:=z0z (by kernel_rfl) Tryz.func132 (p:=pl132) (Eq.mpr (by kernel_rfl) h)
def C133 (p0:Addr) (w:World) (K:Value→World→Prop):Prop:=
 CallK Tryz.prog 134 #[.pointer (some p0),.int .i64 2] w (.v (.one .str)) (fun (x1:ByteArray) w2=>CallK Tryz.prog 157 #[.string x1] w2 (.tup [.one .raw,.one (.int .i64),.one (.int .i64)]) (fun (x3:Value×Int×Int×Unit) w4=>LdK .bool (p0.add 1) w4 (fun (x5:Bool)=>ifB x5
 (StK (p0.add 1) (.bool true) w4 (fun w6=>K x3.1 w6))
 (StK (p0.add 1) (.bool (x3.2.2.1 != 0)) w4 (fun w7=>K x3.1 w7)))))
def pl133:Plan:=.auto
theorem c133 (p0:Addr) (w:World) (K:Value→World→Prop) (h:C133 p0 w K):Ret Tryz.prog 133 #[.pointer (some p0)] w K:=z0z (by kernel_rfl) Tryz.func133 (p:=pl133) (Eq.mpr (by kernel_rfl) h)
def C99 (p0:Addr) (p1:Addr) (p2:Int) (w:World) (K:Value→World→Prop):Prop:=
 ifB (p2==68)
 (CallK Tryz.prog 132 #[.pointer (some p0)] w (.v (.one (.int .i64))) (fun (x1:Int) w2=>StK (p1.add 5) (.int .i64 x1) w2 (fun w3=>K (.tuple #[]) w3)))
 (ifB (p2==86)
 (CallK Tryz.prog 132 #[.pointer (some p0)] w (.v (.one (.int .i64))) (fun (x4:Int) w5=>StK (p1.add 6) (.int .i64 x4) w5 (fun w6=>K (.tuple #[]) w6)))
 (ifB (p2==84)
 (CallK Tryz.prog 133 #[.pointer (some p0)] w (.v (.one .raw)) (fun (x7:Value) w8=>OneK x7 (StsK (p1.add 7) [x7] w8 (fun w9=>K (.tuple #[]) w9))))
 (ifB (p2==73)
 (CallK Tryz.prog 134 #[.pointer (some p0),.int .i64 1] w (.v (.one .str)) (fun (x10:ByteArray) w11=>StK (p1.add 1) (.string x10) w11 (fun w12=>K (.tuple #[]) w12)))
 (ifB (p2==78)
 (CallK Tryz.prog 134 #[.pointer (some p0),.int .i64 1] w (.v (.one .str)) (fun (x13:ByteArray) w14=>StK (p1.add 2) (.string x13) w14 (fun w15=>K (.tuple #[]) w15)))
 (ifB (p2==76)
 (CallK Tryz.prog 134 #[.pointer (some p0),.int .i64 1] w (.v (.one .str)) (fun (x16:ByteArray) w17=>StK (p1.add 3) (.string x16) w17 (fun w18=>K (.tuple #[]) w18)))
 (ifB (p2==67)
 (CallK Tryz.prog 134 #[.pointer (some p0),.int .i64 1] w (.v (.one .str)) (fun (x19:ByteArray) w20=>StK (p1.add 4) (.string x19) w20 (fun w21=>K (.tuple #[]) w21)))
 (K (.tuple #[]) w)))))))
def pl99:Plan:=.auto
theorem c99 (p0:Addr) (p1:Addr) (p2:Int) (w:World) (K:Value→World→Prop) (h:C99 p0 p1 p2 w K):Ret Tryz.prog 99 #[.pointer (some p0),.pointer (some p1),.int .i32 p2] w K:=z0z (by kernel_rfl) Tryz.func99 (p:=pl99) (Eq.mpr (by kernel_rfl) h)
def C68 (p0:Option Addr) (p0l p0c:Nat) (w:World) (K:Value→World→Prop):Prop:=
 NewK (.cells #[.int .i64 0,.string (⟨#[]⟩:ByteArray),.string (⟨#[]⟩:ByteArray),.string (⟨#[]⟩:ByteArray),.string (⟨#[]⟩:ByteArray),.int .i64 0,.int .i64 0,.nilIface] 36) w (fun g1 w2=>NewK (.cells #[.slice p0 p0l p0c,.bool false] 175) w2 (fun g3 w4=>NewK (.cells #[.int .i64 0,.string (⟨#[]⟩:ByteArray),.string (⟨#[]⟩:ByteArray),.string (⟨#[]⟩:ByteArray),.string (⟨#[]⟩:ByteArray),.int .i64 0,.int .i64 0,.nilIface] 36) w4 (fun g5 w6=>StsK (ad g5) [.int .i64 0,.string (⟨#[]⟩:ByteArray),.string (⟨#[]⟩:ByteArray),.string (⟨#[]⟩:ByteArray),.string (⟨#[]⟩:ByteArray),.int .i64 0,.int .i64 0,.nilIface] w6 (fun w7=>CallK Tryz.prog 98 #[.pointer (some (ad g3)),.int .i64 1] w7 (.v (.one .slc)) (fun (x8:SlT) w9=>LoopK (Int×Unit) (fun _ s10 w11 next12=>ifB (decide (s10.1<(x8.2.1:Int)))
 (IdxK x8.1 x8.2.1 s10.1 1 (fun a13=>LdK (.int .u8) a13 w11 (fun (x14:Int)=>StK ((ad g5).add 0) (.int .i64 (IntKind.i64.wrap x14)) w11 (fun w15=>next12 (IntKind.i64.wrap (s10.1+1),()) w15))))
 (LdK (.int .i64) ((ad g5).add 0) w11 (fun (x16:Int)=>CallK Tryz.prog 91 #[.int .i64 x16] w11 (.v (.one .slc)) (fun (x17:SlT) w18=>LoopK (Int×Unit) (fun _ s19 w20 next21=>ifB (decide (s19.1<(x17.2.1:Int)))
 (IdxK x17.1 x17.2.1 s19.1 1 (fun a22=>LdK (.int .i32) a22 w20 (fun (x23:Int)=>CallK Tryz.prog 99 #[.pointer (some (ad g3)),.pointer (some (ad g5)),.int .i32 x23] w20 (.tup []) (fun (x24:Unit) w25=>next21 (IntKind.i64.wrap (s19.1+1),()) w25))))
 (LdsK KZ14 (ad g5) w20 (fun (x26:YZ14)=>CallK Tryz.prog 59 #[.agg (LZ14 x26).toArray] w20 (.tup [.one .slc,.one (.int .i64)]) (fun (x27:SlT×Int×Unit) w28=>LdK .bool ((ad g3).add 1) w28 (fun (x29:Bool)=>ifB x29
 (StsK (ad g1) [.int .i64 0,.string (⟨#[]⟩:ByteArray),.string (⟨#[]⟩:ByteArray),.string (⟨#[]⟩:ByteArray),.string (⟨#[]⟩:ByteArray),.int .i64 0,.int .i64 0,.nilIface] w28 (fun w30=>LdsK KZ14 (ad g1) w30 (fun (x31:YZ14)=>K (.tuple #[.agg (LZ14 x31).toArray,.int .i64 2]) w30)))
 (ifB (x27.2.1 != 0)
 (StsK (ad g1) [.int .i64 0,.string (⟨#[]⟩:ByteArray),.string (⟨#[]⟩:ByteArray),.string (⟨#[]⟩:ByteArray),.string (⟨#[]⟩:ByteArray),.int .i64 0,.int .i64 0,.nilIface] w28 (fun w32=>LdsK KZ14 (ad g1) w32 (fun (x33:YZ14)=>K (.tuple #[.agg (LZ14 x33).toArray,.int .i64 2]) w32)))
 (CallK Tryz.prog 41 #[.slice x27.1.1 x27.1.2.1 x27.1.2.2,.slice p0 p0l p0c] w28 (.v (.one .bool)) (fun (x34:Bool) w35=>ifB (!x34)
 (StsK (ad g1) [.int .i64 0,.string (⟨#[]⟩:ByteArray),.string (⟨#[]⟩:ByteArray),.string (⟨#[]⟩:ByteArray),.string (⟨#[]⟩:ByteArray),.int .i64 0,.int .i64 0,.nilIface] w35 (fun w36=>LdsK KZ14 (ad g1) w36 (fun (x37:YZ14)=>K (.tuple #[.agg (LZ14 x37).toArray,.int .i64 2]) w36)))
 (LdsK KZ14 (ad g5) w35 (fun (x38:YZ14)=>StsK (ad g1) (LZ14 x38) w35 (fun w39=>LdsK KZ14 (ad g1) w39 (fun (x40:YZ14)=>K (.tuple #[.agg (LZ14 x40).toArray,.int .i64 0]) w39))))))))))))
 (0,()) w18))))
 (0,()) w9)))))
def pl68:Plan:=(.seq .auto (.seq .auto (.seq .auto (.seq (.seq .auto (.block (.loop [(19,.one (.int .i64))] .auto))) (.seq (.seq .auto (.block (.loop [(31,.one (.int .i64))] .auto))) .auto)))))
theorem c68 (p0:Option Addr) (p0l p0c:Nat) (w:World) (K:Value→World→Prop) (h:C68 p0 p0l p0c w K):Ret Tryz.prog 68 #[.slice p0 p0l p0c] w K:=z0z (by kernel_rfl) Tryz.func68 (p:=pl68) (Eq.mpr (by kernel_rfl) h)
def IsTk (T:TypeId) (w:World) (g n:Nat) (s:TkS):Prop:=
 ∃ u:Sl,w.heap[g]? = some (.cells #[.slice u.1 u.2.1 u.2.2,.bool s.2] T (0,0))∧RdB w u s.1∧u.2.1≤u.2.2∧(s.1≠[]→∀ k,blkOf u k→k<n)
theorem IsTk.keep {T:TypeId} {w w':World} {g n:Nat} {s:TkS} (h:IsTk T w g n s) {S:Nat→Prop} (f:Fr S w w') (hg:¬ S g) (hS:∀ k,S k→n≤k):IsTk T w' g n s:=by
 obtain ⟨u,a,b,c,d⟩:=h
 exact ⟨u,f.keep a hg,b.keepE f fun hn k hk t=>by have:=d hn k hk;have:=hS k t;omega,c,d⟩
theorem IsTk.keep0 {T:TypeId} {w w':World} {g n:Nat} {s:TkS} (h:IsTk T w g n s) (f:Fr none1 w w'):IsTk T w' g n s:=h.keep f (fun t=>t) (fun _ t=>t.elim)
theorem none_rd (w:World):RdB w (none,0,0) []:=(none_b w).rd
theorem or_byte64 (m:Nat) (b:UInt8) (hm:m<65536):IntKind.i64.wrap ((BitVec.ofInt 64 (IntKind.i64.wrap ((m:Int) * 2 ^ (min (Int.toNat 8) 64))) ||| BitVec.ofInt 64 (IntKind.i64.wrap (b.toNat:Int))).toNat:Int)=((m * 256+b.toNat:Nat):Int):=by
 have hb:=b.toNat_lt
 have e1:((m:Int) * 2 ^ (min (Int.toNat 8) 64))=((m * 256:Nat):Int):=by
  rw [show min (Int.toNat 8) 64=8 by decide];norm_cast
 rw [e1,wI (x:=((m * 256:Nat):Int)) (by omega) (by omega),wI (x:=(b.toNat:Int)) (by omega) (by omega),BitVec.toNat_or,ofInt_nat,ofInt_nat,Nat.mod_eq_of_lt (by omega),Nat.mod_eq_of_lt (by omega)]
 have e2:m * 256 ||| b.toNat=m * 256+b.toNat:=by
  rw [show m * 256=m <<< 8 by rw [Nat.shiftLeft_eq],← Nat.shiftLeft_add_eq_or_of_lt (show b.toNat<2 ^ 8 from hb)]
 rw [e2,wI (by omega) (by omega)]
theorem tk_bad {z:Bool} {n:Nat} {s:TkS} (h:s.2=true∨s.1.length<n):tkF z n s=(if z=true then List.replicate n 0 else [],(s.1,true)):=by unfold tkF;rw [if_pos h]
theorem tk_good {z:Bool} {n:Nat} {s:TkS} (h:s.2=false) (h':n≤s.1.length):tkF z n s=(s.1.take n,(s.1.drop n,false)):=by
 unfold tkF;rw [if_neg (by rw [h];simp;omega)]
theorem tk_take {w:World} {g n0:Nat} {s:TkS} (h:IsTk 175 w g n0 s) (hg:n0≤g) (n:Nat):Ret Tryz.prog 98 #[.pointer (some ⟨g,0,none⟩),.int .i64 (n:Int)] w fun r w'=>
  ∃ v:Sl,r=.slice v.1 v.2.1 v.2.2∧RdB w' v (tkF false n s).1∧((tkF false n s).1≠[]→∀ k,blkOf v k→k<n0)∧IsTk 175 w' g n0 (tkF false n s).2∧Fr (only g) w w':=by
 obtain ⟨u,hb,hu,hc,hlt⟩:=h
 have hul:=hu.len
 refine c98 _ _ w _ ?_
 unfold C98
 have bad:s.2=true∨s.1.length<n→∀ w1,w1.heap[g]? = some (.cells #[.slice u.1 u.2.1 u.2.2,.bool true] 175 (0,0))→Fr (only g) w w1 →
   ∃ v:Sl,(Value.slice none 0 0)=.slice v.1 v.2.1 v.2.2∧RdB w1 v (tkF false n s).1∧((tkF false n s).1≠[]→∀ k,blkOf v k→k<n0)∧IsTk 175 w1 g n0 (tkF false n s).2∧Fr (only g) w w1:=fun hbad w1 hb1 f1=>by
  rw [tk_bad hbad]
  exact ⟨(none,0,0),rfl,none_rd w1,(fun h=>(h rfl).elim),⟨u,hb1,hu.keepE f1 fun hn k hk t=>by have:=hlt hn k hk;have:k=g:=t;omega,hc,hlt⟩,f1⟩
 refine LdK.fld hb (x:=s.2) rfl ?_
 refine ifB.by (fun e=>?_) (fun e=>?_)
 ·exact StK.fld hb (by show 0+1<2;omega) rfl fun w1 hb1 f1 _=>bad (.inl e) w1 hb1 f1
 refine LdK.fld hb (x:=u) rfl ?_
 refine ifB.dec (fun hgt=>?_) (fun hle=>?_)
 ·exact StK.fld hb (by show 0+1<2;omega) rfl fun w1 hb1 f1 _=>bad (.inr (by omega)) w1 hb1 f1
 refine LdK.fld hb (x:=u) rfl ?_
 refine RdB.sub hu (by omega) (by omega) hc fun ha=>?_
 refine LdK.fld hb (x:=u) rfl ?_
 refine RdB.mid hu (by omega) (by omega) (Int.le_refl _) hc fun v hv hvc hvl hvb=>?_
 refine StK.fld hb (by show 0+0<2;omega) rfl fun w1 hb1 f1 _=>?_
 rw [Int.toNat_natCast] at ha hv ⊢
 have e2:(s.1.drop n).take ((u.2.1:Int) - (n:Int)).toNat=s.1.drop n:=List.take_of_length_le (by rw [List.length_drop];omega)
 rw [e2] at hv
 rw [tk_good e (by omega)]
 have ne1:s.1.take n≠[]→s.1≠[]:=fun h t=>h (by rw [t];simp)
 have ne2:s.1.drop n≠[]→s.1≠[]:=fun h t=>h (by rw [t];simp)
 refine ⟨(u.1,n,u.2.2),rfl,ha.keepE f1 fun hn k hk t=>by have:=hlt (ne1 hn) k hk;have:k=g:=t;omega,(fun hn k hk=>hlt (ne1 hn) k hk),⟨v,?_,hv.keepE f1 fun hn k hk t=>by have:=hlt (ne2 hn) k (hvb k hk);have:k=g:=t;omega,hvc,fun hn k hk=>hlt (ne2 hn) k (hvb k hk)⟩,f1⟩
 rw [hb1,← e];rfl
theorem tk_text {w:World} {g n0:Nat} {s:TkS} (h:IsTk 175 w g n0 s) (hg:n0≤g) (size:Nat) (hs:size≤2):Ret Tryz.prog 134 #[.pointer (some ⟨g,0,none⟩),.int .i64 (size:Int)] w fun r w'=>
  r=.string (str (txF false size s).1)∧IsTk 175 w' g n0 (txF false size s).2∧Fr (only g) w w':=by
 refine c134 _ _ w _ ?_
 unfold C134
 refine CallK.of (tk_take h hg size) ?_
 rintro _ w1 ⟨v,rfl,hv,_,h1,f1⟩
 refine ⟨v,rfl,?_⟩
 have hvl:=hv.len
 have hl2:(tkF false size s).1.length≤2:=by
  unfold tkF;split
  ·simp
  ·dsimp only;rw [List.length_take];omega
 unfold txF
 generalize tkF false size s=x at *
 have hbig:∀ i,i≤2→big (x.1.take i)<65536:=fun i hi=>by
  have h1:=big_lt (x.1.take i)
  have h2:256 ^ (x.1.take i).length≤256 ^ 2:=Nat.pow_le_pow_right (by decide) (by rw [List.length_take];omega)
  have:(256:Nat) ^ 2=65536:=by decide
  omega
 refine LoopK.of (fun st w'=>∃ i:Nat,st.2.1=i∧i≤x.1.length∧st.1=(big (x.1.take i):Int)∧w1=w') (fun st _=>(2 - st.2.1).toNat) ⟨0,rfl,by omega,rfl,rfl⟩ ?_
 rintro _ ⟨m,i',_⟩ _ ⟨i,hi,hi8,hm,rfl⟩
 dsimp only at hi hm ⊢
 subst hi hm
 refine ifB.dec (fun hlt=>?_) (fun hge=>?_)
 ·refine RdB.at hv (by omega) hlt ?_
  refine ⟨by omega,?_⟩
  rw [Int.toNat_natCast,or_byte64 _ _ (hbig i (by omega)),wI (by omega) (by omega)]
  refine ⟨⟨i+1,by omega,by omega,?_,rfl⟩,by omega⟩
  rw [big_take x.1 i (by omega)]
 ·rw [List.take_of_length_le (by omega)]
  refine CallK.of (tk_take h1 hg (big x.1)) ?_
  rintro _ w2 ⟨u,rfl,hu,_,h2,f2⟩
  refine ⟨u,rfl,?_⟩
  exact ⟨_,w2,txt_of hu,rfl,h2,f1.trans f2⟩
theorem tk_num {w:World} {g n0:Nat} {s:TkS} (h:IsTk 175 w g n0 s) (hg:n0≤g):Ret Tryz.prog 132 #[.pointer (some ⟨g,0,none⟩)] w fun r w'=>
  r=.int .i64 (nuF false s).1∧IsTk 175 w' g n0 (nuF false s).2∧Fr (only g) w w':=by
 refine c132 _ w _ ?_
 unfold C132
 refine CallK.of (tk_take h hg 8) ?_
 rintro _ w1 ⟨v,rfl,hv,_,h1,f1⟩
 refine ⟨v,rfl,?_⟩
 unfold nuF
 generalize tkF false 8 s=x at *
 refine CallK.of (ptake_spec hv) ?_
 rintro _ _ ⟨rfl,rfl⟩
 refine ⟨((takeL x.1).1,(takeL x.1).2,()),rfl,?_⟩
 obtain ⟨u,hb,hu,hc,hlt⟩:=h1
 have kp:∀ w2,Fr (only g) w1 w2→RdB w2 u x.2.1:=fun w2 f2=>hu.keepE f2 fun hn k hk t=>by have:=hlt hn k hk;have:k=g:=t;omega
 refine LdK.fld hb (x:=x.2.2) rfl ?_
 refine ifB.by (fun e=>?_) (fun e=>?_)
 ·refine StK.fld hb (by show 0+1<2;omega) rfl fun w2 hb2 f2 _=>?_
  exact ⟨rfl,⟨u,by rw [hb2,e];rfl,kp w2 f2,hc,hlt⟩,f1.trans f2⟩
 ·refine StK.fld hb (by show 0+1<2;omega) rfl fun w2 hb2 f2 _=>?_
  exact ⟨rfl,⟨u,by rw [hb2,e];simp,kp w2 f2,hc,hlt⟩,f1.trans f2⟩
theorem tx_len (z:Bool) (size:Nat) (hs:size≤2) (s:TkS):(txF z size s).1.length≤65535:=by
 have hb:big (tkF z size s).1≤65535:=by
  have hl2:(tkF z size s).1.length≤2:=by
   unfold tkF;split
   ·dsimp only;split<;>simp<;>omega
   ·dsimp only;rw [List.length_take];omega
  have h1:=big_lt (tkF z size s).1
  have h2:256 ^ (tkF z size s).1.length≤256 ^ 2:=Nat.pow_le_pow_right (by decide) hl2
  have:(256:Nat) ^ 2=65536:=by decide
  omega
 unfold txF
 generalize (tkF z size s).2=t
 generalize big (tkF z size s).1=n at *
 unfold tkF
 split
 ·dsimp only;split<;>simp;omega
 ·dsimp only;rw [List.length_take];omega
theorem tk_term {w:World} {g n0:Nat} {s:TkS} (h:IsTk 175 w g n0 s) (hg:n0≤g):Ret Tryz.prog 133 #[.pointer (some ⟨g,0,none⟩)] w fun r w'=>
  r=(teF false s).1.v∧IsTk 175 w' g n0 (teF false s).2∧Fr (only g) w w':=by
 refine c133 _ w _ ?_
 unfold C133
 refine CallK.of (tk_text h hg 2 (by decide)) ?_
 rintro _ w1 ⟨rfl,h1,f1⟩
 have hl:=tx_len false 2 (by decide) s
 unfold teF
 generalize txF false 2 s=x at *
 refine ⟨_,rfl,?_⟩
 refine CallK.of (rterm_spec x.1 (by omega) w1) ?_
 rintro _ w2 ⟨rfl,f2⟩
 refine ⟨((readT x.1).1.v,(readT x.1).2.1,(readT x.1).2.2,()),rfl,?_⟩
 obtain ⟨u,hb,hu,hc,hlt⟩:=h1.keep0 f2
 have kp:∀ w3,Fr (only g) w2 w3→RdB w3 u x.2.1:=fun w3 f3=>hu.keepE f3 fun hn k hk t=>by have:=hlt hn k hk;have:k=g:=t;omega
 refine LdK.fld hb (x:=x.2.2) rfl ?_
 have f12:Fr (only g) w w2:=f1.then0 f2
 refine ifB.by (fun e=>?_) (fun e=>?_)
 ·refine StK.fld hb (by show 0+1<2;omega) rfl fun w3 hb3 f3 _=>?_
  exact ⟨rfl,⟨u,by rw [hb3,e];rfl,kp w3 f3,hc,hlt⟩,f12.trans f3⟩
 ·refine StK.fld hb (by show 0+1<2;omega) rfl fun w3 hb3 f3 _=>?_
  exact ⟨rfl,⟨u,by rw [hb3,e];simp,kp w3 f3,hc,hlt⟩,f12.trans f3⟩
def evMc (m:EvM):Obj:=.cells (evL' m) 36 (0,0)
 where evL' (m:EvM):Array Value:=#[.int .i64 m.1,.string (str m.2.1),.string (str m.2.2.1),.string (str m.2.2.2.1),.string (str m.2.2.2.2.1),.int .i64 m.2.2.2.2.2.1,.int .i64 m.2.2.2.2.2.2.1,m.2.2.2.2.2.2.2.v]
theorem both_of {g b:Nat} {w w1 w2:World} (f1:Fr (only g) w w1) (f2:Fr (only b) w1 w2):Fr (fun k=>k=g∨k=b) w w2:=(f1.mono fun k _ t=>.inl t).trans (f2.mono fun k _ t=>.inr t)
theorem tk_field {w:World} {g b n0:Nat} {x:TkS×EvM} (h:IsTk 175 w g n0 x.1) (hg:n0≤g) (hb:w.heap[b]? = some (evMc x.2)) (hn:n0≤b) (hgb:b≠g) (c:UInt8) (hc:c=73∨c=78∨c=76∨c=67∨c=68∨c=86∨c=84) :
  Ret Tryz.prog 99 #[.pointer (some ⟨g,0,none⟩),.pointer (some ⟨b,0,none⟩),.int .i32 (u8I c)] w fun r w'=>
   r=.tuple #[]∧IsTk 175 w' g n0 (evStep false x c).1∧w'.heap[b]? = some (evMc (evStep false x c).2)∧Fr (fun k=>k=g∨k=b) w w':=by
 refine c99 _ _ _ w _ ?_
 unfold C99
 have hd:∀ (a:UInt8) (n:Int),u8I a=n→c≠a→(u8I c==n)=false:=fun a n ha hne=>by
  subst ha
  unfold u8I
  have:c.toNat≠a.toNat:=fun t=>hne (UInt8.toNat_inj.1 t)
  simp;omega
 have num:∀ (o:Nat) (ho:o<8) (m':EvM) (hm:((evMc.evL' x.2).setIfInBounds o (.int .i64 (nuF false x.1).1))=evMc.evL' m') (hs:evStep false x c=((nuF false x.1).2,m')),
   CallK Tryz.prog 132 #[.pointer (some ⟨g,0,none⟩)] w (.v (.one (.int .i64))) (fun (x1:Int) w2=>StK ((⟨b,0,none⟩:Addr).add o) (.int .i64 x1) w2 (fun w3=>(Value.tuple #[])=.tuple #[]∧IsTk 175 w3 g n0 (evStep false x c).1∧w3.heap[b]? = some (evMc (evStep false x c).2)∧Fr (fun k=>k=g∨k=b) w w3)):=fun o ho m' hm hs=>by
  refine CallK.of (tk_num h hg) ?_
  rintro _ w1 ⟨rfl,h1,f1⟩
  refine ⟨_,rfl,?_⟩
  have hb1:=f1.keep1 hb hgb
  refine StK.fld hb1 (by show 0+o<8;omega) rfl fun w2 hb2 f2 _=>?_
  rw [hs]
  refine ⟨rfl,h1.keep f2 (fun t=>by have:g=b:=t;omega) (fun k t=>by have:k=b:=t;omega),?_,both_of f1 f2⟩
  rw [hb2,Nat.zero_add,hm];rfl
 have txt:∀ (o:Nat) (ho:o<8) (m':EvM) (hm:((evMc.evL' x.2).setIfInBounds o (.string (str (txF false 1 x.1).1)))=evMc.evL' m') (hs:evStep false x c=((txF false 1 x.1).2,m')),
   CallK Tryz.prog 134 #[.pointer (some ⟨g,0,none⟩),.int .i64 1] w (.v (.one .str)) (fun (x1:ByteArray) w2=>StK ((⟨b,0,none⟩:Addr).add o) (.string x1) w2 (fun w3=>(Value.tuple #[])=.tuple #[]∧IsTk 175 w3 g n0 (evStep false x c).1∧w3.heap[b]? = some (evMc (evStep false x c).2)∧Fr (fun k=>k=g∨k=b) w w3)):=fun o ho m' hm hs=>by
  refine CallK.of (tk_text h hg 1 (by decide)) ?_
  rintro _ w1 ⟨rfl,h1,f1⟩
  refine ⟨_,rfl,?_⟩
  have hb1:=f1.keep1 hb hgb
  refine StK.fld hb1 (by show 0+o<8;omega) rfl fun w2 hb2 f2 _=>?_
  rw [hs]
  refine ⟨rfl,h1.keep f2 (fun t=>by have:g=b:=t;omega) (fun k t=>by have:k=b:=t;omega),?_,both_of f1 f2⟩
  rw [hb2,Nat.zero_add,hm];rfl
 rcases hc with rfl | rfl | rfl | rfl | rfl | rfl | rfl
 ·exact ifB.f (by decide) (ifB.f (by decide) (ifB.f (by decide) (ifB.t (by decide) (txt 1 (by decide) _ rfl rfl))))
 ·exact ifB.f (by decide) (ifB.f (by decide) (ifB.f (by decide) (ifB.f (by decide) (ifB.t (by decide) (txt 2 (by decide) _ rfl rfl)))))
 ·exact ifB.f (by decide) (ifB.f (by decide) (ifB.f (by decide) (ifB.f (by decide) (ifB.f (by decide) (ifB.t (by decide) (txt 3 (by decide) _ rfl rfl))))))
 ·exact ifB.f (by decide) (ifB.f (by decide) (ifB.f (by decide) (ifB.f (by decide) (ifB.f (by decide) (ifB.f (by decide) (ifB.t (by decide) (txt 4 (by decide) _ rfl rfl)))))))
 ·exact ifB.t (by decide) (num 5 (by decide) _ rfl rfl)
 ·exact ifB.f (by decide) (ifB.t (by decide) (num 6 (by decide) _ rfl rfl))
 ·refine ifB.f (by decide) (ifB.f (by decide) (ifB.t (by decide) ?_))
  refine CallK.of (tk_term h hg) ?_
  rintro _ w1 ⟨rfl,h1,f1⟩
  refine ⟨_,rfl,?_⟩
  have hb1:=f1.keep1 hb hgb
  refine ⟨Tm.v_cells _,StsK.one hb1 (by show 7<8;omega) (Tm.v_one _) fun w2 hb2 f2 _=>?_⟩
  refine ⟨rfl,h1.keep f2 (fun t=>by have:g=b:=t;omega) (fun k t=>by have:k=b:=t;omega),?_,both_of f1 f2⟩
  rw [hb2];rfl
def smallM (m:EvM):Prop:=m.2.1.length≤65535∧m.2.2.1.length≤65535∧m.2.2.2.1.length≤65535∧m.2.2.2.2.1.length≤65535∧nodesT m.2.2.2.2.2.2.2≤1000000
theorem read_small (bs:List UInt8):nodesT (readT bs).1≤1000000:=by
 unfold readT
 split
 ·show nodesT .none≤_;decide
 split
 ·show nodesT .none≤_;decide
 ·rename_i h _
  exact con_small (Classical.not_not.1 h)
theorem step_small (z:Bool) (x:TkS×EvM) (c:UInt8) (h:smallM x.2):smallM (evStep z x c).2:=by
 obtain ⟨h1,h2,h3,h4,h5⟩:=h
 have ht:=tx_len z 1 (by decide) x.1
 unfold evStep
 repeat' split
 ·exact ⟨h1,h2,h3,h4,h5⟩
 ·exact ⟨h1,h2,h3,h4,h5⟩
 ·exact ⟨h1,h2,h3,h4,read_small _⟩
 ·exact ⟨ht,h2,h3,h4,h5⟩
 ·exact ⟨h1,ht,h3,h4,h5⟩
 ·exact ⟨h1,h2,ht,h4,h5⟩
 ·exact ⟨h1,h2,h3,ht,h5⟩
theorem fold_small (z:Bool):∀ (l:List UInt8) (x:TkS×EvM),smallM x.2→smallM (l.foldl (evStep z) x).2
 | [],x,h=>h
 | c::l,x,h=>fold_small z l _ (step_small z x c h)
theorem takeM_small (z:Bool) (bs:List UInt8):smallM (takeM z bs).2:=fold_small z _ _ ⟨by simp,by simp,by simp,by simp,by show nodesT .none≤_;decide⟩
theorem smallM.e {m:EvM} (h:smallM m):smallE m.e:=by
 obtain ⟨h1,h2,h3,h4,h5⟩:=h
 exact ⟨by show (str _).size≤_;rw [z1z];omega,by show (str _).size≤_;rw [z1z];omega,by show (str _).size≤_;rw [z1z];omega,by show (str _).size≤_;rw [z1z];omega⟩
theorem ifc_v (t:Tm):ifcT t.v:=by cases t<;>first | (exact .inl rfl) | (exact .inr ⟨_,_,rfl⟩)
theorem pack_m (m:EvM) (h:smallM m) (w:World) (ht:TabW w):Ret Tryz.prog 59 #[evA m.e] w fun r w'=>∃ v:Sl,r=.tuple #[.slice v.1 v.2.1 v.2.2,.int .i64 (packM m).2]∧IsB w' v (packM m).1∧Fr none1 w w'∧∀ k,blkOf v k→w.heap.size≤k:=by
 have hl:=z32z m.t
 exact event_spec m.e (ifc_v m.t) h.e (writeT m.t).1 (by omega) (writeT m.t).2 w fun _ w1 f=>wterm_spec m.t h.2.2.2.2 w1 (ht.keep0 f)
theorem nums_str (bs:List UInt8):Go.strOfNums (bs.map fun b=>(b.toNat:Int))=str bs:=by
 unfold Go.strOfNums str
 congr 1
 rw [List.map_map]
 congr 1
 conv=>rhs;rw [← List.map_id bs]
 refine List.map_congr_left fun b _=>?_
 simp
theorem nums_bytes (bs:List UInt8):Lib.bytesOf (bs.map fun b=>(b.toNat:Int))=bs:=by
 unfold Lib.bytesOf
 rw [List.map_map]
 conv=>rhs;rw [← List.map_id bs]
 refine List.map_congr_left fun b _=>?_
 simp
theorem bequal_spec {w:World} {v u:Sl} {bs cs:List UInt8} (h:RdB w v bs) (h':RdB w u cs):Ret Tryz.prog 41 #[.slice v.1 v.2.1 v.2.2,.slice u.1 u.2.1 u.2.2] w fun r w'=>r=.bool (bs==cs)∧w=w':=by
 refine (Tryz.bytes_Equal _ _ (bs.map fun b=>(b.toNat:Int)) (cs.map fun b=>(b.toNat:Int)) w (by rw [nums_str];exact txt_of h) (by rw [nums_str];exact txt_of h')).mono ?_
 rintro e w' ⟨rfl,rfl⟩
 exact ⟨_,rfl,by rw [nums_bytes,nums_bytes],rfl⟩
theorem ord_mem {c:UInt8} {k:Int} (h:c∈fieldL k):c=73∨c=78∨c=76∨c=67∨c=68∨c=86∨c=84:=by
 have:=(List.mem_filter.1 h).1
 simpa [ordL] using this
theorem take_spec {w:World} {v:Sl} {bs:List UInt8} (h:RdB w v bs) (hc:v.2.1≤v.2.2) (ht:TabW w):Ret Tryz.prog 68 #[.slice v.1 v.2.1 v.2.2] w fun r w'=>
  r=.tuple #[evA (takeP false bs).1.e,.int .i64 (takeP false bs).2]∧Fr none1 w w':=by
 refine c68 v.1 v.2.1 v.2.2 w _ ?_
 unfold C68
 refine NewK.of fun g1 w1 hg1 hb1 f1 hs1=>NewK.of fun g3 w2 hg3 hb3 f2 hs2=>NewK.of fun g5 w3 hg5 hb5 f3 hs3=>?_
 have hb5':w3.heap[g5]? = some (.cells (evL zeroM.e).toArray 36 (0,0)):=hb5
 refine StsK.blk (cs:=evL zeroM.e) (vs:=evL zeroM.e) hb5' rfl rfl fun w4 hb54 f4 hs4=>?_
 have f13:=(f1.trans f2).trans f3
 have f14:Fr none1 w w4:=f13.fresh f4 (by have:=f13.size;omega)
 have hb34:w4.heap[g3]? = _:=f4.keep (f3.keep0 hb3) (fun t=>by have:g3=g5:=t;omega)
 have hb14:w4.heap[g1]? = some (.cells (evL zeroM.e).toArray 36 (0,0)):=f4.keep (f3.keep0 (f2.keep0 hb1)) (fun t=>by have:g1=g5:=t;omega)
 have tk4:IsTk 175 w4 g3 w.heap.size (bs,false):=⟨v,hb34,h.keep0 f14,hc,fun hn k hk=>h.ltE hn hk⟩
 refine CallK.of (tk_take tk4 (by omega) 1) ?_
 rintro _ w5 ⟨x8,rfl,hx,hxb,tk5,f5⟩
 refine ⟨x8,rfl,?_⟩
 have hb55:w5.heap[g5]? = some (evMc zeroM):=f5.keep1 hb54 (by omega)
 have hb15:=f5.keep1 hb14 (by omega)
 have f15:Fr none1 w w5:=f14.fresh f5 (by omega)
 have hxl:(tkF false 1 (bs,false)).1.length≤1:=by
  unfold tkF;split
  ·simp
  ·dsimp only;rw [List.length_take];omega
 have hM:takeM false bs=(fieldL (big (tkF false 1 (bs,false)).1:Int)).foldl (evStep false) ((tkF false 1 (bs,false)).2,((big (tkF false 1 (bs,false)).1:Int),[],[],[],[],0,0,.none)):=rfl
 have hsm:=takeM_small false bs
 have hP:takeP false bs=if takeOk false bs=true then ((takeM false bs).2,0) else (zeroM,2):=rfl
 have hO:takeOk false bs=(!(takeM false bs).1.2&&((packM (takeM false bs).2).2==0&&((packM (takeM false bs).2).1==bs&&(!false||(takeM false bs).1.1==[])))):=rfl
 generalize takeP false bs=P at *
 generalize takeOk false bs=O at *
 generalize takeM false bs=M at *
 generalize tkF false 1 (bs,false)=x at *
 have hxlen:=hx.len
 refine LoopK.of (fun st w'=>∃ i:Nat,st.1=i∧i≤x.1.length∧w'.heap[g5]? = some (evMc ((big (x.1.take i):Int),[],[],[],[],0,0,.none))∧Fr (only g5) w5 w') (fun st _=>(1 - st.1).toNat) ⟨0,rfl,by omega,hb55,Fr.refl _ _⟩ ?_
 rintro _ ⟨i',_⟩ w6 ⟨i,hi,hil,hb56,f6⟩
 dsimp only at hi ⊢
 subst hi
 have hx6:RdB w6 x8 x.1:=hx.keepE f6 fun hn k hk t=>by have:=hxb hn k hk;have:k=g5:=t;omega
 have tk6:=tk5.keep f6 (fun t=>by have:g3=g5:=t;omega) (fun k t=>by have:k=g5:=t;omega)
 have hb16:=f6.keep1 hb15 (by omega)
 refine ifB.dec (fun hlt=>?_) (fun hge=>?_)
 ·refine RdB.at hx6 (by omega) hlt ?_
  have hb:=(x.1.getD (Int.toNat (i:Int)) 0).toNat_lt
  refine StK.fld hb56 (by show 0+0<8;omega) rfl fun w7 hb57 f7 _=>?_
  rw [wI (by omega) (by omega)] at hb57
  refine ⟨⟨i+1,by rw [wI (by omega) (by omega)];omega,by omega,?_,f6.trans f7⟩,by rw [wI (by omega) (by omega)];omega⟩
  have hi0:i=0:=by omega
  subst hi0
  rw [hb57,big_take x.1 0 (by omega)]
  show some (Obj.cells _ _ _)=some (Obj.cells _ _ _)
  simp [evMc.evL',big]
 rw [List.take_of_length_le (by omega)] at hb56
 clear hx hx6 hxb
 refine LdK.fld hb56 (x:=(big x.1:Int)) rfl ?_
 refine CallK.of (fields_spec (big x.1:Int) w6) ?_
 rintro _ w7 ⟨fv,rfl,hfv,f7,ff⟩
 refine ⟨fv,rfl,?_⟩
 have s5:=f15.size;have s6:=f6.size;have s7:=f7.size
 have hb57:=f7.keep0 hb56
 have hb17:=f7.keep0 hb16
 have tk7:=tk6.keep0 f7
 have f17:Fr none1 w w7:=(f15.fresh f6 (by omega)).trans f7
 have hfl:=hfv.len
 rw [List.length_map] at hfl
 have hl7:(fieldL (big x.1:Int)).length≤7:=by unfold fieldL;exact Nat.le_trans (List.length_filter_le _ _) (by decide)
 have hmem:∀ c∈fieldL (big x.1:Int),c=73∨c=78∨c=76∨c=67∨c=68∨c=86∨c=84:=fun c h=>ord_mem h
 generalize fieldL (big x.1:Int)=L at *
 obtain ⟨X,hX⟩:∃ X:TkS×EvM,X=(x.2,((big x.1:Int),[],[],[],[],0,0,.none)):=⟨_,rfl⟩
 rw [← hX] at hM
 have tk7:IsTk 175 w7 g3 w.heap.size X.1:=by rw [hX];exact tk7
 have hb57:w7.heap[g5]? = some (evMc X.2):=by rw [hX];exact hb57
 refine LoopK.of (fun st w'=>∃ i:Nat,st.1=i∧i≤L.length∧IsTk 175 w' g3 w.heap.size ((L.take i).foldl (evStep false) X).1∧w'.heap[g5]? = some (evMc ((L.take i).foldl (evStep false) X).2)∧Fr (fun k=>k=g3∨k=g5) w7 w') (fun st _=>(L.length - st.1).toNat) ⟨0,rfl,by omega,tk7,hb57,Fr.refl _ _⟩ ?_
 rintro _ ⟨i',_⟩ w8 ⟨i,hi,hil,tk8,hb58,f8⟩
 dsimp only at hi ⊢
 subst hi
 have hfv8:IsR w8 fv (L.map u8I):=IsSl.keep hfv f8 fun k hk t=>by have:=ff k hk;have h5:=z3z hb56;rcases t with t | t<;>omega
 refine ifB.dec (fun hlt=>?_) (fun hge=>?_)
 ·have hilt:i<L.length:=by omega
  refine IsR.ld hfv8 (by omega) hlt ?_
  obtain ⟨c,hc⟩:∃ c,L[i]? = some c:=⟨_,List.getElem?_eq_getElem hilt⟩
  have hcv:(L.map u8I).getD (Int.toNat (i:Int)) 0=u8I c:=by
   rw [Int.toNat_natCast,List.getD_eq_getElem?_getD,List.getElem?_map,hc];rfl
  rw [hcv]
  refine CallK.of (tk_field tk8 (by omega) hb58 (by omega) (by omega) c (hmem c (List.mem_of_getElem? hc))) ?_
  rintro _ w9 ⟨rfl,tk9,hb59,f9⟩
  refine ⟨(),rfl,⟨i+1,by rw [wI (by omega) (by omega)];omega,by omega,?_,?_,f8.trans f9⟩,by rw [wI (by omega) (by omega)];omega⟩
  ·rw [List.take_add_one,hc,List.foldl_append];exact tk9
  ·rw [List.take_add_one,hc,List.foldl_append];exact hb59
 rw [List.take_of_length_le (by omega),← hM] at tk8 hb58
 have f18:Fr none1 w w8:=f17.comp f8 fun k hk t=>by rcases t with t | t<;>omega
 have hb18:w8.heap[g1]? = _:=f8.keep hb17 (fun t=>by rcases t with t | t<;>omega)
 refine LdsK.blk (cks:=EK) (x:=M.2.e) hb58 ?_
 refine CallK.of (pack_m M.2 hsm w8 (ht.keep0 f18)) ?_
 rintro _ w9 ⟨u,rfl,hu,f9,uf⟩
 refine ⟨(u,(packM M.2).2,()),rfl,?_⟩
 have hb19:=f9.keep0 hb18
 have hb59:=f9.keep0 hb58
 have f19:=f18.trans f9
 have fail:O=false→∀ w10,w10.heap[g1]? = some (.cells (evL zeroM.e).toArray 36 (0,0))→Fr none1 w w10→StsK ⟨g1,0,none⟩ (evL zeroM.e) w10 (fun w30=>LdsK EK ⟨g1,0,none⟩ w30 (fun (y:EvT)=>(Value.tuple #[evA y,.int .i64 2])=.tuple #[evA P.1.e,.int .i64 P.2]∧Fr none1 w w30)):=fun ho w10 hb f10=>by
  rw [hP,ho]
  refine StsK.blk (cs:=evL zeroM.e) (vs:=evL zeroM.e) hb rfl rfl fun w11 hb11 f11 _=>LdsK.blk (cks:=EK) (x:=zeroM.e) hb11 ?_
  exact ⟨rfl,f10.fresh f11 (by omega)⟩
 obtain ⟨ru,hrb,hru,hrc,hrl⟩:=tk8.keep0 f9
 refine LdK.fld hrb (x:=M.1.2) rfl ?_
 refine ifB.by (fun e=>fail (by rw [hO,e];rfl) w9 hb19 f19) (fun e=>?_)
 dsimp only
 refine ifB.ne (fun hne=>fail (by rw [hO,e];simp [hne]) w9 hb19 f19) (fun he=>?_)
 refine CallK.of (bequal_spec hu.rd (h.keep0 f19)) ?_
 rintro _ _ ⟨rfl,rfl⟩
 refine ⟨_,rfl,ifB.not (ifB.by (fun eq=>?_) (fun ne=>fail (by rw [hO,ne];simp) w9 hb19 f19))⟩
 have ho:O=true:=by rw [hO,e,he,eq];rfl
 rw [hP,ho]
 refine LdsK.blk (cks:=EK) (x:=M.2.e) hb59 ?_
 refine StsK.blk (cs:=evL zeroM.e) (vs:=evL M.2.e) hb19 rfl (evL_one (Tm.v_one _)) fun w10 hb110 f10 _=>LdsK.blk (cks:=EK) (x:=M.2.e) hb110 ?_
 exact ⟨rfl,f19.fresh f10 (by omega)⟩
def C79 (p0:ByteArray) (p1:Int) (p2:Int) (w:World) (K:Value→World→Prop):Prop:=
 CallK Tryz.prog 14 #[.int .i64 p1,.int .i64 p2] w (.v (.one (.int .i64))) (fun (x1:Int) w2=>RunK Tryz.prog (Instr.buildSlice 22 1 #[(0,.int .u8 (IntKind.u8.wrap (IntKind.i64.wrap (97+x1))))]) w2 (.v (.one .slc)) (fun (x3:SlT) w4=>RunK Tryz.prog (convert 22 9 (.slice x3.1 x3.2.1 x3.2.2)) w4 (.v (.one .str)) (fun (x5:ByteArray) w6=>CatK p0 x5 (K (.string (p0++x5)) w6))))
def pl79:Plan:=.auto
theorem c79 (p0:ByteArray) (p1:Int) (p2:Int) (w:World) (K:Value→World→Prop) (h:C79 p0 p1 p2 w K):Ret Tryz.prog 79 #[.string p0,.int .i64 p1,.int .i64 p2] w K:=z0z (by kernel_rfl) Tryz.func79 (p:=pl79) (Eq.mpr (by kernel_rfl) h)
theorem cat_few {a b:ByteArray} {K:Prop} (h:a.size+b.size≤1000000) (k:K):CatK a b K:=⟨by show ((a.size+b.size:Nat):Int)≤9223372036854775807;omega,k⟩
theorem elem_u8':ElemOk Tryz.prog 22 5 1 (.int .u8 0) 1:=⟨Tryz.underlying22,⟨Tryz.t5,by kernel_rfl,rfl,rfl,rfl⟩,rfl,by decide⟩
theorem kname_spec (hd:List UInt8) (n of:Int) (h1:1≤of) (h2:of≤26) (hl:hd.length≤1000) (w:World):Ret Tryz.prog 79 #[.string (str hd),.int .i64 n,.int .i64 of] w fun r w'=>
  r=.string (str (hd++[UInt8.ofNat (97+(within n of).toNat)]))∧Fr none1 w w':=by
 refine c79 (str hd) n of w _ ?_
 refine CallK.of (z30z n of w (by omega)) ?_
 rintro _ _ ⟨rfl,rfl⟩
 refine ⟨_,rfl,?_⟩
 have hlo:=within_lo n of
 have hhi:=within_hi n h1
 have e:IntKind.u8.wrap (IntKind.i64.wrap (97+within n of))=((UInt8.ofNat (97+(within n of).toNat)).toNat:Int):=by
  rw [wI (by omega) (by omega),IntKind.wrap_u8,u8_of (by omega)];omega
 rw [e]
 obtain ⟨v,w1,r1,hv,hl1,f1,_⟩:=one_ok (P:=Tryz.prog) (w:=w) elem_u8' (.int .u8 ((UInt8.ofNat (97+(within n of).toNat)).toNat:Int)) rfl
 refine ⟨v,w1,r1,?_⟩
 have hr:=IsSl.rd hv
 cases hx:v.1 with
 | none=>have:=(hr.2.1 hx).1;omega
 | some a=>
  have hc:=hr.2.2 a hx
  have r2:=run_convert_bytes_back w1 22 9 5 a v.2.2 [UInt8.ofNat (97+(within n of).toNat)] Tryz.underlying22 Tryz.underlying5 Tryz.underlying9 (fun j hj=>by
   have:j=0:=by simpa using hj
   subst this
   exact hc.1)
  refine ⟨str [UInt8.ofNat (97+(within n of).toNat)],w1,?_,?_⟩
  ·rw [hl1]
   exact r2
  ·refine cat_few (by rw [z1z,z1z];simp;omega) ?_
   rw [str_app]
   exact ⟨rfl,f1⟩
namespace Vc
variable {P:Program}
abbrev CmV:=Int×Int×Int×Int×Int×ByteArray×(Option Addr×Nat×Nat)×(Option Addr×Nat×Nat)×Unit
def cmL (c:CmV):List Value:=[.int .i64 c.1,.int .i64 c.2.1,.int .i64 c.2.2.1,.int .i64 c.2.2.2.1,.int .i64 c.2.2.2.2.1,.string c.2.2.2.2.2.1,.slice c.2.2.2.2.2.2.1.1 c.2.2.2.2.2.2.1.2.1 c.2.2.2.2.2.2.1.2.2,.slice c.2.2.2.2.2.2.2.1.1 c.2.2.2.2.2.2.2.1.2.1 c.2.2.2.2.2.2.2.1.2.2]
def cmPl (c:CmV):PlV:=(c.2.2.2.2.2.2.1,c.2.2.2.2.2.2.2.1,())
def IsCm (w:World) (c:CmV):Prop:=IsPl w (cmPl c)∧(Lit.int .i64 c.1).wf=true∧(Lit.int .i64 c.2.1).wf=true∧(Lit.int .i64 c.2.2.1).wf=true∧(Lit.int .i64 c.2.2.2.1).wf=true∧(Lit.int .i64 c.2.2.2.2.1).wf=true∧c.2.2.2.2.2.1.size≤maxLen
theorem open_cmd {H:Type} {enc:TypeId×Value→H} {w:World} {base:Nat} {held:Bool} {t ti ts tp t0 t1 e0 e1:TypeId} {f0 f1 f2 f3 f4 f5 f6 g0 g1:Field} {fuel:Nat} {cs:List Value} {x:DataW H×List MemPlace}
  (ht:P.underlying t=some (.struct #[f0,f1,f2,f3,f4,f5,f6]))
  (q0:f0.type=ti∧f0.offset=0) (q1:f1.type=ti∧f1.offset=1) (q2:f2.type=ti∧f2.offset=2) (q3:f3.type=ti∧f3.offset=3) (q4:f4.type=ti∧f4.offset=4) (q5:f5.type=ts∧f5.offset=5) (q6:f6.type=tp∧f6.offset=6)
  (hti:P.underlying ti=some (.int .i64)) (hts:P.underlying ts=some .string) (htp:P.underlying tp=some (.struct #[g0,g1])) (hg0:g0.type=t0) (hg1:g1.type=t1) (ho0:g0.offset=0) (ho1:g1.offset=1)
  (hc:P.cellsOf t=8) (hci:P.cellsOf ti=1) (hcs:P.cellsOf ts=1) (hcp:P.cellsOf tp=2) (hc0:P.cellsOf t0=1) (hc1:P.cellsOf t1=1)
  (h0:P.underlying t0=some (.slice e0)) (h1:P.underlying t1=some (.slice e1)) (k0:P.underlying e0=some (.int .i64)) (k1:P.underlying e1=some .string) (d0:P.cellsOf e0=1) (d1:P.cellsOf e1=1)
  (h:DataW.trod enc P w base (fun _=>true) held fuel t cs=some x):∃ c:CmV,cs=cmL c∧IsCm w c:=by
 obtain ⟨xs,n,_,_,hl,hlen,hf⟩:=DataW.trod_struct ht h
 rw [hc] at hl
 match xs,hlen with
 | [y0,y1,y2,y3,y4,y5,y6],_=>
  match cs,hl with
  | [c0,c1,c2,c3,c4,c5,c6,c7],_=>
   have a0:=hf 0 f0 rfl
   have a1:=hf 1 f1 rfl
   have a2:=hf 2 f2 rfl
   have a3:=hf 3 f3 rfl
   have a4:=hf 4 f4 rfl
   have a5:=hf 5 f5 rfl
   have a6:=hf 6 f6 rfl
   rw [q0.1,q0.2,hci] at a0
   rw [q1.1,q1.2,hci] at a1
   rw [q2.1,q2.2,hci] at a2
   rw [q3.1,q3.2,hci] at a3
   rw [q4.1,q4.2,hci] at a4
   rw [q5.1,q5.2,hcs] at a5
   rw [q6.1,q6.2,hcp] at a6
   simp only [List.drop_zero,List.drop_succ_cons,List.take_succ_cons,List.take_zero,List.getElem?_cons_zero,List.getElem?_cons_succ] at a0 a1 a2 a3 a4 a5 a6
   obtain ⟨z0,e0,_,w0⟩:=DataW.trod_int hti a0
   obtain ⟨z1,e1,_,w1⟩:=DataW.trod_int hti a1
   obtain ⟨z2,e2,_,w2⟩:=DataW.trod_int hti a2
   obtain ⟨z3,e3,_,w3⟩:=DataW.trod_int hti a3
   obtain ⟨z4,e4,_,w4⟩:=DataW.trod_int hti a4
   obtain ⟨s5,e5,_,w5⟩:=DataW.trod_string hts a5
   obtain ⟨p,ep,hp⟩:=open_plan htp hg0 hg1 ho0 ho1 hcp hc0 hc1 h0 h1 k0 k1 d0 d1 a6
   simp only [List.cons.injEq,and_true] at e0 e1 e2 e3 e4 e5 ep
   obtain ⟨p1,p2⟩:=ep
   subst e0;subst e1;subst e2;subst e3;subst e4;subst e5;subst p1;subst p2
   exact ⟨(z0,z1,z2,z3,z4,s5,p.1,p.2.1,()),rfl,hp,w0,w1,w2,w3,w4,w5⟩
end Vc
def Fine (w:World) (S:Nat→Prop) (x:EvR):Prop:=∃ (e:EvT) (t:Tm) (v:TV),x=evR e v∧e.2.2.2.2.2.2.2.1=t.v∧smallE e∧nodesT t≤2000∧shortT t∧IsTr w S (trT t) v
structure DoS (w wc:World) (g1 g3 g5:Nat) (c:CmV):Prop where
 b1:wc.heap[g1]? = some (.cells (cmL c).toArray 31 (0,0))
 pl:IsPl w (cmPl c)
 b3:∃ x:EvR,wc.heap[g3]? = some (.cells (evRL x).toArray 43 (0,0))
 b5:∃ x:EvR,wc.heap[g5]? = some (.cells (evRL x).toArray 43 (0,0))∧Fine wc (fun k=>w.heap.size≤k∧k<wc.heap.size∧k≠g3∧k≠g5) x
 fr:Fr none1 w wc
 lo:w.heap.size≤g1∧w.heap.size≤g3∧w.heap.size≤g5∧g1≠g3∧g1≠g5∧g3≠g5
theorem Fine.keep {w w':World} {S S' T:Nat→Prop} {x:EvR} (h:Fine w S x) (f:Fr T w w') (hn:∀ k,S k→¬ T k) (hs:∀ k,S k→S' k):Fine w' S' x:=by
 obtain ⟨e,t,v,h1,h2,h3,h4,h5,h6⟩:=h
 exact ⟨e,t,v,h1,h2,h3,h4,h5,IsTr.mono hs _ _ (IsTr.keep f hn _ _ h6)⟩
theorem DoS.keep0 {w wc wd:World} {g1 g3 g5:Nat} {c:CmV} (h:DoS w wc g1 g3 g5 c) (f:Fr none1 wc wd):DoS w wd g1 g3 g5 c:=by
 obtain ⟨x3,h3⟩:=h.b3
 obtain ⟨x5,h5,hf⟩:=h.b5
 exact ⟨f.keep0 h.b1,h.pl,⟨x3,f.keep0 h3⟩,⟨x5,f.keep0 h5,hf.keep f (fun _ _ t=>t) fun k hk=>⟨hk.1,Nat.lt_of_lt_of_le hk.2.1 f.size,hk.2.2⟩⟩,h.fr.trans f,h.lo⟩
def Told (w:World) (r:Value) (w':World):Prop:=∃ x:EvR,r=evRA x∧Fine w' (fun k=>w.heap.size≤k∧k<w'.heap.size) x∧Fr none1 w w'
theorem DoS.fin {w wc:World} {g1 g3 g5:Nat} {c:CmV} (h:DoS w wc g1 g3 g5 c) :
  LdsK ERK ⟨g5,0,none⟩ wc (fun (x:EvR)=>StsK ⟨g3,0,none⟩ (evRL x) wc (fun w2=>LdsK ERK ⟨g3,0,none⟩ w2 (fun (y:EvR)=>Told w (evRA y) w2))):=by
 obtain ⟨x3,h3⟩:=h.b3
 obtain ⟨x5,h5,hf⟩:=h.b5
 refine LdsK.blk (cks:=ERK) (x:=x5) h5 ?_
 refine StsK.blk (cs:=evRL x3) (vs:=evRL x5) h3 rfl rfl fun w2 hb2 f2 _=>LdsK.blk (cks:=ERK) (x:=x5) hb2 ?_
 exact ⟨x5,rfl,hf.keep f2 (fun k hk t=>hk.2.2.1 t) (fun k hk=>⟨hk.1,Nat.lt_of_lt_of_le hk.2.1 f2.size⟩),h.fr.fresh f2 h.lo.2.1⟩
theorem DoS.put {w wc wd:World} {g1 g3 g5:Nat} {c:CmV} (h:DoS w wc g1 g3 g5 c) {x x':EvR} (hx:wc.heap[g5]? = some (.cells (evRL x).toArray 43 (0,0))) (f:Fr (only g5) wc wd) (hb:wd.heap[g5]? = some (.cells (evRL x').toArray 43 (0,0)))
  (hf:Fine wc (fun k=>w.heap.size≤k∧k<wc.heap.size∧k≠g3∧k≠g5) x'):DoS w wd g1 g3 g5 c:=by
 obtain ⟨x3,h3⟩:=h.b3
 obtain ⟨l1,l2,l3,l4,l5,l6⟩:=h.lo
 exact ⟨f.keep h.b1 (fun t=>l5 t),h.pl,⟨x3,f.keep h3 (fun t=>l6 t)⟩,⟨x',hb,hf.keep f (fun k hk t=>hk.2.2.2 t) fun k hk=>⟨hk.1,Nat.lt_of_lt_of_le hk.2.1 f.size,hk.2.2⟩⟩,h.fr.fresh f l3,h.lo⟩
theorem DoS.n0 {w wc:World} {g1 g3 g5:Nat} {c:CmV} (h:DoS w wc g1 g3 g5 c) (n:Int) {K:World→Prop} (k:∀ wd,DoS w wd g1 g3 g5 c→Fr (only g5) wc wd→K wd):StK ((⟨g5,0,none⟩:Addr).add 0) (.int .i64 n) wc K:=by
 obtain ⟨x5,h5,e,t,v,rfl,he,hz,hn,hsh,hT⟩:=h.b5
 exact StK.fld h5 (by show 0+0<11;omega) rfl fun wd hb f _=>k wd (h.put h5 (x':=evR (n,e.2) v) f hb ⟨(n,e.2),t,v,rfl,he,hz,hn,hsh,hT⟩) f
theorem DoS.s1 {w wc:World} {g1 g3 g5:Nat} {c:CmV} (h:DoS w wc g1 g3 g5 c) (s:ByteArray) (hs:s.size≤1000000) {K:World→Prop} (k:∀ wd,DoS w wd g1 g3 g5 c→Fr (only g5) wc wd→K wd):StK ((⟨g5,0,none⟩:Addr).add 1) (.string s) wc K:=by
 obtain ⟨x5,h5,e,t,v,rfl,he,hz,hn,hsh,hT⟩:=h.b5
 exact StK.fld h5 (by show 0+1<11;omega) rfl fun wd hb f _=>k wd (h.put h5 (x':=evR (e.1,s,e.2.2) v) f hb ⟨(e.1,s,e.2.2),t,v,rfl,he,⟨hs,hz.2⟩,hn,hsh,hT⟩) f
theorem DoS.s2 {w wc:World} {g1 g3 g5:Nat} {c:CmV} (h:DoS w wc g1 g3 g5 c) (s:ByteArray) (hs:s.size≤1000000) {K:World→Prop} (k:∀ wd,DoS w wd g1 g3 g5 c→Fr (only g5) wc wd→K wd):StK ((⟨g5,0,none⟩:Addr).add 2) (.string s) wc K:=by
 obtain ⟨x5,h5,e,t,v,rfl,he,hz,hn,hsh,hT⟩:=h.b5
 exact StK.fld h5 (by show 0+2<11;omega) rfl fun wd hb f _=>k wd (h.put h5 (x':=evR (e.1,e.2.1,s,e.2.2.2) v) f hb ⟨(e.1,e.2.1,s,e.2.2.2),t,v,rfl,he,⟨hz.1,hs,hz.2.2⟩,hn,hsh,hT⟩) f
theorem DoS.s3 {w wc:World} {g1 g3 g5:Nat} {c:CmV} (h:DoS w wc g1 g3 g5 c) (s:ByteArray) (hs:s.size≤1000000) {K:World→Prop} (k:∀ wd,DoS w wd g1 g3 g5 c→Fr (only g5) wc wd→K wd):StK ((⟨g5,0,none⟩:Addr).add 3) (.string s) wc K:=by
 obtain ⟨x5,h5,e,t,v,rfl,he,hz,hn,hsh,hT⟩:=h.b5
 exact StK.fld h5 (by show 0+3<11;omega) rfl fun wd hb f _=>k wd (h.put h5 (x':=evR (e.1,e.2.1,e.2.2.1,s,e.2.2.2.2) v) f hb ⟨(e.1,e.2.1,e.2.2.1,s,e.2.2.2.2),t,v,rfl,he,⟨hz.1,hz.2.1,hs,hz.2.2.2⟩,hn,hsh,hT⟩) f
theorem DoS.s4 {w wc:World} {g1 g3 g5:Nat} {c:CmV} (h:DoS w wc g1 g3 g5 c) (s:ByteArray) (hs:s.size≤1000000) {K:World→Prop} (k:∀ wd,DoS w wd g1 g3 g5 c→Fr (only g5) wc wd→K wd):StK ((⟨g5,0,none⟩:Addr).add 4) (.string s) wc K:=by
 obtain ⟨x5,h5,e,t,v,rfl,he,hz,hn,hsh,hT⟩:=h.b5
 exact StK.fld h5 (by show 0+4<11;omega) rfl fun wd hb f _=>k wd (h.put h5 (x':=evR (e.1,e.2.1,e.2.2.1,e.2.2.2.1,s,e.2.2.2.2.2) v) f hb ⟨(e.1,e.2.1,e.2.2.1,e.2.2.2.1,s,e.2.2.2.2.2),t,v,rfl,he,⟨hz.1,hz.2.1,hz.2.2.1,hs⟩,hn,hsh,hT⟩) f
theorem DoS.n5 {w wc:World} {g1 g3 g5:Nat} {c:CmV} (h:DoS w wc g1 g3 g5 c) (n:Int) {K:World→Prop} (k:∀ wd,DoS w wd g1 g3 g5 c→Fr (only g5) wc wd→K wd):StK ((⟨g5,0,none⟩:Addr).add 5) (.int .i64 n) wc K:=by
 obtain ⟨x5,h5,e,t,v,rfl,he,hz,hn,hsh,hT⟩:=h.b5
 exact StK.fld h5 (by show 0+5<11;omega) rfl fun wd hb f _=>k wd (h.put h5 (x':=evR (e.1,e.2.1,e.2.2.1,e.2.2.2.1,e.2.2.2.2.1,n,e.2.2.2.2.2.2) v) f hb ⟨(e.1,e.2.1,e.2.2.1,e.2.2.2.1,e.2.2.2.2.1,n,e.2.2.2.2.2.2),t,v,rfl,he,hz,hn,hsh,hT⟩) f
theorem DoS.n6 {w wc:World} {g1 g3 g5:Nat} {c:CmV} (h:DoS w wc g1 g3 g5 c) (n:Int) {K:World→Prop} (k:∀ wd,DoS w wd g1 g3 g5 c→Fr (only g5) wc wd→K wd):StK ((⟨g5,0,none⟩:Addr).add 6) (.int .i64 n) wc K:=by
 obtain ⟨x5,h5,e,t,v,rfl,he,hz,hn,hsh,hT⟩:=h.b5
 exact StK.fld h5 (by show 0+6<11;omega) rfl fun wd hb f _=>k wd (h.put h5 (x':=evR (e.1,e.2.1,e.2.2.1,e.2.2.2.1,e.2.2.2.2.1,e.2.2.2.2.2.1,n,e.2.2.2.2.2.2.2) v) f hb ⟨(e.1,e.2.1,e.2.2.1,e.2.2.2.1,e.2.2.2.2.1,e.2.2.2.2.2.1,n,e.2.2.2.2.2.2.2),t,v,rfl,he,hz,hn,hsh,hT⟩) f
theorem z20z {p:Addr} {m:Nat}:∀ (vs:List Value) (w:World) (i:Nat),Writes w p (m+i) vs→Writes w (p.add m) i vs
 | [],_,_,_=>trivial
 | v::vs,w,i,⟨h1,h2,h3,h4⟩=>⟨h1,by rw [add_add];exact h2,by rw [add_add];exact h3,by rw [add_add];exact z20z vs _ (i+1) h4⟩
theorem z11z {p:Addr} {m:Nat}:∀ (vs:List Value) (w:World) (i:Nat),setCells w (p.add m) i vs=setCells w p (m+i) vs
 | [],_,_=>rfl
 | v::vs,w,i=>by
  show setCells (w.setCell ((p.add m).add i) v) (p.add m) (i+1) vs=setCells (w.setCell (p.add (m+i)) v) p (m+i+1) vs
  rw [add_add,z11z vs _ (i+1)];rfl
theorem DoS.term {w wc:World} {g1 g3 g5:Nat} {c:CmV} (h:DoS w wc g1 g3 g5 c) {t:Tm} {v:TV} (hn:nodesT t≤2000) (hsh:shortT t) (hT:IsTr wc (fun k=>w.heap.size≤k∧k<wc.heap.size∧k≠g3∧k≠g5) (trT t) v) {K:World→Prop} (k:∀ wd,DoS w wd g1 g3 g5 c→Fr (only g5) wc wd→K wd) :
  StsK ((⟨g5,0,none⟩:Addr).add 7) (tvL v) wc K:=by
 obtain ⟨x5,h5,e,t',v',rfl,he,hz,_⟩:=h.b5
 obtain ⟨a1,a2,a3,a4⟩:=z19z (T:=43) (b:=g5) (tvL v) wc [.int .i64 e.1,.string e.2.1,.string e.2.2.1,.string e.2.2.2.1,.string e.2.2.2.2.1,.int .i64 e.2.2.2.2.2.1,.int .i64 e.2.2.2.2.2.2.1] (tvL v') h5 rfl rfl
 refine ⟨z20z _ _ 0 a1,?_⟩
 rw [z11z]
 exact k _ (h.put h5 (x':=evR (e.1,e.2.1,e.2.2.1,e.2.2.2.1,e.2.2.2.2.1,e.2.2.2.2.2.1,e.2.2.2.2.2.2.1,t.v,()) v) a3 a2 ⟨_,t,v,rfl,rfl,hz,hn,hsh,hT⟩) a3
theorem DoS.ri {w wc:World} {g1 g3 g5:Nat} {c:CmV} (h:DoS w wc g1 g3 g5 c) {i:Nat} (hi:i<5) {K:Int→Prop} (k:∀ x,K x):LdK (.int .i64) ((⟨g1,0,none⟩:Addr).add i) wc K:=by
 match i,hi with
 | 0,_=>exact LdK.fld h.b1 (x:=c.1) rfl (k _)
 | 1,_=>exact LdK.fld h.b1 (x:=c.2.1) rfl (k _)
 | 2,_=>exact LdK.fld h.b1 (x:=c.2.2.1) rfl (k _)
 | 3,_=>exact LdK.fld h.b1 (x:=c.2.2.2.1) rfl (k _)
 | 4,_=>exact LdK.fld h.b1 (x:=c.2.2.2.2.1) rfl (k _)
theorem DoS.rs {w wc:World} {g1 g3 g5:Nat} {c:CmV} (h:DoS w wc g1 g3 g5 c) {K:ByteArray→Prop} (k:∀ x,K x):LdK .str ((⟨g1,0,none⟩:Addr).add 5) wc K:=LdK.fld h.b1 (x:=c.2.2.2.2.2.1) rfl (k _)
theorem inG {S:Nat→Prop} {g i:Nat} {K:Prop} (hS:S g) (k:K):InK S ((⟨g,0,none⟩:Addr).add i) K:=⟨by rw [z2z];exact hS,k⟩
theorem witK (v of:Int) (hof:of≤9223372036854775807) {wc:World} {K:Int→World→Prop} (k:∀ x,0≤x→(1≤of→x<of)→K x wc):CallK Tryz.prog 14 #[.int .i64 v,.int .i64 of] wc (.v (.one (.int .i64))) (fun (x:Int) w'=>K x w'):=by
 refine CallK.of (z30z v of wc hof) ?_
 rintro _ _ ⟨rfl,rfl⟩
 exact ⟨_,rfl,k _ (within_lo v of) (fun h=>within_hi v h)⟩
theorem txtK (s:ByteArray) (n:Int) (h0:0≤n) (h1:n≤1000) {wc:World} {K:ByteArray→World→Prop} (k:∀ x:ByteArray,x.size≤1000→K x wc):CallK Tryz.prog 50 #[.string s,.int .i64 n] wc (.v (.one .str)) (fun (x:ByteArray) w'=>K x w'):=by
 obtain ⟨l,rfl⟩:∃ l,s=str l:=⟨s.data.toList,(str_of s).symm⟩
 refine CallK.of (text1_spec l n wc h0) ?_
 rintro _ _ ⟨rfl,rfl⟩
 exact ⟨_,rfl,k _ (by rw [z1z,List.length_take];omega)⟩
theorem wordK (ss:List (List UInt8)) (hl:ss.length=3) (hs:∀ s∈ss,s.length≤1000) {wc:World} {K:(Option Addr×Nat×Nat)→World→Prop} (k:∀ (u:Sl) w',(∀ (x:Int) (wd:World) (S:Nat→Prop),0≤x→x<3→Fr none1 w' wd→(∀ j,wc.heap.size≤j→S j)→∀ K:ByteArray→Prop,(∀ s:ByteArray,s.size≤1000→K s)→IdxK u.1 u.2.1 x 1 fun a=>InK S a (LdK .str a wd K))→Fr none1 wc w'→K u w') :
  RunK Tryz.prog (Instr.buildSlice 27 ss.length (((ss.map sv).zipIdx.map fun (v,i)=>(i,v)).toArray)) wc (.v (.one .slc)) (fun (x:Option Addr×Nat×Nat) w'=>K x w'):=by
 refine words_lit ss (by omega) fun u w' hu f hf=>k u w' (fun x wd S h0 h1 fd hS K hK=>?_) f
 have hu2:IsSs wd u ss:=hu.keep0 fd
 have hul:=hu2.len
 rcases hu2 with ⟨hh,_⟩ | ⟨g,off,cs,hv,hb,hle,hc,hn,he⟩
 ·rw [hh] at hul;dsimp only at hul;omega
 ·refine ⟨⟨g,off,none⟩,hv,h0,by omega,?_⟩
  have hx:x.toNat<ss.length:=by omega
  rw [z2z]
  refine ⟨hS _ (hf _ ⟨_,hv,rfl⟩),LdK.cell (x:=str (ss[x.toNat])) ?_ (hK _ (by rw [z1z];exact hs _ (List.getElem_mem hx)))⟩
  rw [z27z hb,Nat.mul_one,he _ (by rw [List.length_map];exact hx),List.getElem?_map,List.getElem?_eq_getElem hx]
  rfl
theorem DoS.rp {w wc:World} {g1 g3 g5:Nat} {c:CmV} (h:DoS w wc g1 g3 g5 c) {K:PlV→Prop} (k:K (cmPl c)):LdsK [.slc,.slc] ((⟨g1,0,none⟩:Addr).add 6) wc K:=
 ⟨cmPl c,z10z (m:=6) _ 0 (z12z h.b1 _ 6 fun j hj=>(by
  match j,hj with
  | 0,_=>rfl
  | 1,_=>rfl
  | j+2,h=>exact absurd h (by show ¬ j+2<2;omega))),k⟩
theorem DoS.lt5 {w wc:World} {g1 g3 g5:Nat} {c:CmV} (h:DoS w wc g1 g3 g5 c):g5<wc.heap.size∧g3<wc.heap.size:=by
 obtain ⟨_,h3⟩:=h.b3
 obtain ⟨_,h5,_⟩:=h.b5
 exact ⟨z3z h5,z3z h3⟩
theorem DoS.made {w wc wd:World} {g1 g3 g5:Nat} {c:CmV} (h:DoS w wc g1 g3 g5 c) {t:Tr} {v:TV} (m:Made wc wd t v) {we:World} (f:Fr (only g5) wd we):IsTr we (fun k=>w.heap.size≤k∧k<we.heap.size∧k≠g3∧k≠g5) t v:=by
 have l:=h.lt5;have s:=h.fr.size
 have m':=IsTr.keep (T:=only g5) f (fun k hk q=>by have:=hk.1;have:k=g5:=q;omega) _ _ m
 exact IsTr.mono (fun k hk=>⟨by have:=hk.1;omega,Nat.lt_of_lt_of_le hk.2 f.size,by have:=hk.1;omega,by have:=hk.1;omega⟩) _ _ m'
theorem do_spec (c:CmV) (p2:Int) {w:World} (hp:IsPl w (cmPl c)):Ret Tryz.prog 49 #[.pointer none,.agg (cmL c).toArray,.int .i64 p2] w (Told w):=by
 refine c49 none c p2 w _ ?_
 unfold C49
 refine NewK.of fun g1 w1 hg1 hb1 f1 hs1=>NewK.of fun g3 w2 hg3 hb3 f2 hs2=>NewK.of fun g5 w3 hg5 hb5 f3 hs3=>?_
 refine StsK.blk (cs:=evRL (0,(⟨#[]⟩:ByteArray),(⟨#[]⟩:ByteArray),(⟨#[]⟩:ByteArray),(⟨#[]⟩:ByteArray),0,0,0,(⟨#[]⟩:ByteArray),0,(none,0,0),())) (vs:=evRL (0,(⟨#[]⟩:ByteArray),(⟨#[]⟩:ByteArray),(⟨#[]⟩:ByteArray),(⟨#[]⟩:ByteArray),0,0,0,(⟨#[]⟩:ByteArray),0,(none,0,0),())) hb5 rfl rfl fun w4 hb54 f4 hs4=>?_
 have e0:(⟨#[]⟩:ByteArray)=str []:=rfl
 have hz0:(⟨#[]⟩:ByteArray).size≤1000000:=by decide
 have zfine:∀ (wa:World) (S:Nat→Prop) (a:ByteArray) (k d v:Int),a.size≤1000000→Fine wa S (k,a,(⟨#[]⟩:ByteArray),(⟨#[]⟩:ByteArray),(⟨#[]⟩:ByteArray),d,v,0,(⟨#[]⟩:ByteArray),0,(none,0,0),()):=fun wa S a k d v ha=>
  ⟨(k,a,(⟨#[]⟩:ByteArray),(⟨#[]⟩:ByteArray),(⟨#[]⟩:ByteArray),d,v,.nilIface,()),.none,(0,str [],0,(none,0,0),()),rfl,rfl,⟨ha,hz0,hz0,hz0⟩,by decide,trivial,IsTr.mono (fun k hk=>by have:=hk.1;have:=hk.2;omega) _ _ (z17z wa wa 0 [] 0)⟩
 have D:DoS w w4 g1 g3 g5 c:=by
  have f14:Fr none1 w w4:=((f1.trans f2).trans f3).fresh f4 (by omega)
  exact ⟨f4.keep ((f2.trans f3).keep0 hb1) (fun t=>by have:g1=g5:=t;omega),hp,⟨(0,(⟨#[]⟩:ByteArray),(⟨#[]⟩:ByteArray),(⟨#[]⟩:ByteArray),(⟨#[]⟩:ByteArray),0,0,0,(⟨#[]⟩:ByteArray),0,(none,0,0),()),f4.keep (f3.keep0 hb3) (fun t=>by have:g3=g5:=t;omega)⟩,⟨_,hb54,zfine _ _ _ _ _ _ (by decide)⟩,f14,by omega⟩
 have hlo:=D.lo
 clear hb1 hb3 hb5 hb54 f1 f2 f3 f4
 refine D.ri (by omega) fun x8=>?_
 have et:(⟨#[116]⟩:ByteArray)=str [116]:=rfl
 rw [et]
 refine CallK.of (kname_spec [116] x8 5 (by omega) (by omega) (by decide) w4) ?_
 rintro _ w5 ⟨rfl,f5⟩
 refine ⟨_,rfl,?_⟩
 have D:=D.keep0 f5
 refine JoinK.of (fun q w'=>q.1.size≤1000∧w5=w') ?_ ?_
 ·refine D.ri (by omega) fun x14=>⟨by decide,ifB.by (fun _=>?_) (fun _=>⟨by rw [z1z];simp,rfl⟩)⟩
  exact D.rs fun x=>txtK x 14 (by decide) (by decide) fun y hy=>⟨hy,rfl⟩
 rintro _ ⟨nm,_⟩ _ ⟨hnm,rfl⟩
 dsimp only at hnm ⊢
 refine D.ri (by omega) fun x18=>witK x18 20 (by decide) fun k hk0 hk1=>?_
 have hwr:=wrap_rg (p2+2)
 -- the last steps
 have turn:∀ {wa:World} (n:Int),n≠0→DoS w wa g1 g3 g5 c→LdK (.int .i64) ((⟨g1,0,none⟩:Addr).add 2) wa (fun (x139:Int)=>NzK n (ifB ((x139.tmod n)==n - 1)
   (LdK (.int .i64) ((⟨g1,0,none⟩:Addr).add 4) wa (fun (x140:Int)=>StK ((⟨g5,0,none⟩:Addr).add 6) (.int .i64 x140) wa (fun w141=>LdsK ERK ⟨g5,0,none⟩ w141 (fun (x:EvR)=>StsK ⟨g3,0,none⟩ (evRL x) w141 (fun w2=>LdsK ERK ⟨g3,0,none⟩ w2 (fun (y:EvR)=>Told w (evRA y) w2))))))
   (LdsK ERK ⟨g5,0,none⟩ wa (fun (x:EvR)=>StsK ⟨g3,0,none⟩ (evRL x) wa (fun w2=>LdsK ERK ⟨g3,0,none⟩ w2 (fun (y:EvR)=>Told w (evRA y) w2)))))):=fun {wa} n hn D=>
  D.ri (by omega) fun x=>⟨hn,ifB.by (fun _=>D.ri (by omega) fun y=>D.n6 y fun wd D' _=>D'.fin) (fun _=>D.fin)⟩
 refine ifB.by (fun _=>D.n0 1 fun wd D' _=>D'.fin) (fun _=>?_)
 refine ifB.by (fun _=>?_) (fun _=>?_)
 ·refine D.rp ?_
  refine CallK.of (right_spec (D.pl.keep0 D.fr)) ?_
  rintro _ w6 ⟨v,tt,rfl,mv,hc,hsh,f6⟩
  refine ⟨v,rfl,?_⟩
  have D6:=D.keep0 f6
  refine D6.n0 2 fun w7 D7 f7=>D7.s1 nm (by omega) fun w8 D8 f8=>?_
  have hf:=checkT_form hc
  refine D8.term (t:=tt) (by omega) hsh (D.made mv (f7.trans f8)) fun w9 D9 f9=>?_
  refine D9.ri (by omega) fun x=>⟨by decide,ifB.by (fun _=>?_) (fun _=>D9.fin)⟩
  refine D9.rp ?_
  refine CallK.of (contract_spec (D9.pl.keep0 D9.fr)) ?_
  rintro _ wa ⟨v2,t2,rfl,mv2,hn2,hsh2,fa⟩
  refine ⟨v2,rfl,?_⟩
  exact (D9.keep0 fa).term hn2 hsh2 (D9.made mv2 (Fr.refl _ _)) fun wb Db _=>Db.fin
 refine ifB.by (fun _=>?_) (fun _=>?_)
 ·refine JoinK.of (fun _ w'=>DoS w w' g1 g3 g5 c) ?_ ?_
  ·refine DrewK.of fun w6 _ f6=>HoldK.of (fun k=>k≠g5) ?_
   have D:=D.keep0 f6
   refine inG hlo.2.2.2.2.1 (D.ri (by omega) fun xa=>inG hlo.2.2.2.2.1 (D.ri (by omega) fun xb=>inG hlo.2.2.2.2.1 (D.ri (by omega) fun xc=>?_)))
   repeat' first
    | exact D
    | (refine (⟨?_,?_⟩:AndK _ _))
    | (refine wordK [[108,105,98,111,114],[114,97,105,110],[195,182,108]] rfl (by decide) fun u wd pick f=>KeepK.of f ?_;have hlt:=D.lt5;have D:=D.keep0 f)
    | (refine witK _ _ (by first | decide | exact hwr.2) fun y hy0 hy1=>KeepK.of (Fr.refl _ _) ?_)
    | (refine pick _ _ _ (by assumption) (by first | (exact hy1 (by decide)) | (exact hyA (by decide)) | omega) (Fr.refl _ _) (fun j hj t=>by omega) _ (fun s hs=>?_))
    | (refine D.n0 _ fun wd D' f=>KeepK.on f (fun _ hk t=>hk t) ?_;have D:=D')
    | (refine D.s2 _ (by omega) fun wd D' f=>KeepK.on f (fun _ hk t=>hk t) ?_;have D:=D')
    | (refine D.n5 _ fun wd D' f=>KeepK.on f (fun _ hk t=>hk t) ?_;have D:=D')
    | (refine D.n6 _ fun wd D' f=>KeepK.on f (fun _ hk t=>hk t) ?_;have D:=D')
    | fail
  rintro _ _ w6 D
  refine D.ri (by omega) fun x=>⟨by decide,ifB.by (fun _=>ifB.f rfl (turn 13 (by decide) D)) (fun _=>turn 13 (by decide) D)⟩
 refine ifB.by (fun _=>?_) (fun _=>?_)
 ·refine DrewK.of fun w6 _ f6=>HoldK.of (fun k=>k≠g5) ?_
  have D:=D.keep0 f6
  refine inG hlo.2.2.2.2.1 (D.ri (by omega) fun xa=>inG hlo.2.2.2.2.1 (D.ri (by omega) fun xb=>?_))
  refine witK _ 3 (by decide) fun y hy0 hy1=>KeepK.of (Fr.refl _ _) ?_
  have hr:=wrap_rg (1+y)
  refine CallK.of (digits_spec (IntKind.i64.wrap (1+y)) hr.1 hr.2 w6) ?_
  rintro _ w7 ⟨rfl,f7⟩
  refine ⟨_,rfl,KeepK.of f7 ?_⟩
  have hit:=itoa_short (IntKind.i64.wrap (1+y)) hr.1 hr.2
  have D:=D.keep0 f7
  have ech:(⟨#[99,104]⟩:ByteArray)=str [99,104]:=rfl
  rw [ech]
  refine ⟨by rw [z1z,z1z];show ((_:Nat):Int)≤9223372036854775807;simp only [List.length_cons,List.length_nil];omega,?_⟩
  rw [str_app]
  refine witK _ 2 (by decide) fun z hz0' hz1=>KeepK.of (Fr.refl _ _) ?_
  refine D.n0 _ fun wa D f=>KeepK.on f (fun _ hk t=>hk t) ?_
  refine D.s1 _ (by omega) fun wb D f=>KeepK.on f (fun _ hk t=>hk t) ?_
  refine D.s3 _ (by rw [z1z];simp only [List.length_append,List.length_cons,List.length_nil];omega) fun wc D f=>KeepK.on f (fun _ hk t=>hk t) ?_
  refine D.n6 _ fun wd D f=>KeepK.on f (fun _ hk t=>hk t) ?_
  refine D.ri (by omega) fun x=>⟨by decide,ifB.by (fun _=>ifB.f rfl D.fin) (fun _=>D.fin)⟩
 refine ifB.by (fun _=>?_) (fun _=>?_)
 ·exact D.ri (by omega) fun x=>witK x 4 (by decide) fun y _ _=>D.n0 5 fun wa Da _=>Da.n5 _ fun wb Db _=>Db.fin
 refine ifB.by (fun _=>?_) (fun _=>?_)
 ·refine JoinK.of (fun _ w'=>DoS w w' g1 g3 g5 c) ?_ ?_
  ·refine DrewK.of fun w6 _ f6=>HoldK.of (fun k=>k≠g5) ?_
   have D:=D.keep0 f6
   refine inG hlo.2.2.2.2.1 (D.ri (by omega) fun xa=>inG hlo.2.2.2.2.1 (D.ri (by omega) fun xb=>?_))
   repeat' first
    | exact D
    | (refine (⟨?_,?_⟩:AndK _ _))
    | (refine wordK [[117,115,100],[101,117,114],[103,98,112]] rfl (by decide) fun u wd pick f=>KeepK.of f ?_;have hlt:=D.lt5;have D:=D.keep0 f)
    | (refine witK _ _ (by first | decide | exact hwr.2) fun y hy0 hy1=>KeepK.of (Fr.refl _ _) ?_)
    | (refine pick _ _ _ (by assumption) (by first | (exact hy1 (by decide)) | (exact hyA (by decide)) | omega) (Fr.refl _ _) (fun j hj t=>by omega) _ (fun s hs=>?_))
    | (refine D.n0 _ fun wd D' f=>KeepK.on f (fun _ hk t=>hk t) ?_;have D:=D')
    | (refine D.s4 _ (by omega) fun wd D' f=>KeepK.on f (fun _ hk t=>hk t) ?_;have D:=D')
    | (refine D.n5 _ fun wd D' f=>KeepK.on f (fun _ hk t=>hk t) ?_;have D:=D')
    | (refine D.n6 _ fun wd D' f=>KeepK.on f (fun _ hk t=>hk t) ?_;have D:=D')
    | fail
  rintro _ _ w6 D
  exact ifB.f rfl (turn 7 (by decide) D)
 ·refine DrewK.of fun w6 _ f6=>HoldK.of (fun k=>k≠g5) ?_
  have D:=D.keep0 f6
  refine inG hlo.2.2.2.2.1 (D.ri (by omega) fun xa=>inG hlo.2.2.2.2.1 (D.rs fun xs=>inG hlo.2.2.2.2.1 (D.ri (by omega) fun xb=>inG hlo.2.2.2.2.1 (D.ri (by omega) fun xc=>?_))))
  refine witK _ 9 (by decide) fun y hy0 hy1=>KeepK.of (Fr.refl _ _) ?_
  refine txtK xs 5 (by decide) (by decide) fun s hs=>KeepK.of (Fr.refl _ _) ?_
  obtain ⟨x5,h5,_⟩:=D.b5
  refine StsK.blk (cs:=evRL x5) (vs:=evRL (y,s,(⟨#[]⟩:ByteArray),(⟨#[]⟩:ByteArray),(⟨#[]⟩:ByteArray),xb,xc,0,(⟨#[]⟩:ByteArray),0,(none,0,0),())) h5 rfl rfl fun w7 hb7 f7 _=>KeepK.on f7 (fun _ hk t=>hk t) ?_
  exact (D.put h5 f7 hb7 (zfine _ _ s y xb xc (by omega))).fin
theorem app_some {w:World} {x:Sl} {xs:List UInt8} (hx:IsB w x xs) {y:Sl} {ys:List UInt8} (hy:IsB w y ys) (hl:xs.length+ys.length≤140737488355000) {K:(Option Addr×Nat×Nat)→World→Prop}
  (k:∀ (u:Sl) w',IsB w' u (xs++ys)→Fr (blkOf x) w w'→(∀ k,blkOf u k→blkOf x k∨w.heap.size≤k)→K u w') :
  RunK Tryz.prog (Builtin.append_ #[22,22] 22 #[.slice x.1 x.2.1 x.2.2,.slice y.1 y.2.1 y.2.2]) w (.v (.one .slc)) (fun (u:Option Addr×Nat×Nat) w'=>K u w'):=by
 obtain ⟨u,w',hr,hu,f,uf⟩:=z33z hx hy.rd hl
 exact ⟨u,w',hr,k u w' hu f uf⟩
theorem number11_spec (n:Int) (w:World):Ret Tryz.prog 35 #[.int .i64 n] w fun r w'=>∃ u:Sl,r=.slice u.1 u.2.1 u.2.2∧IsB w' u (numL n)∧Fr none1 w w'∧∀ k,blkOf u k→w.heap.size≤k:=by
 refine c35 n w _ ?_
 unfold C35
 obtain ⟨M,hM⟩:∃ M:Nat,M=(n % 18446744073709551616).toNat:=⟨_,rfl⟩
 have hMn:IntKind.u64.wrap n=(M:Int):=by rw [wrapU];omega
 have hnum:numL n=digs 8 M:=by rw [hM];rfl
 rw [hnum,hMn]
 refine LoopK.of (fun s w'=>∃ j:Nat,s.2.1=7 - (j:Int)∧j≤8∧IsB w' s.1 ((digs 8 M).take j)∧(∀ k,blkOf s.1 k→w.heap.size≤k)∧Fr none1 w w') (fun s _=>(s.2.1+1).toNat) ⟨0,rfl,by omega,.inl ⟨rfl,rfl⟩,(fun k ⟨a,ha,_⟩=>by cases ha),Fr.refl _ _⟩ ?_
 rintro _ ⟨v,i,_⟩ w1 ⟨j,hi,hj,hv,hvf,f1⟩
 dsimp only at hi hv hvf ⊢
 subst hi
 refine ifB.dec (fun hge=>?_) (fun hlt=>?_)
 rotate_left
 ·have:j=8:=by omega
  subst this
  rw [List.take_of_length_le (by rw [z51z];omega)] at hv
  exact ⟨v,rfl,hv,f1,hvf⟩
 have hj8:j<8:=by omega
 have e1:IntKind.u64.wrap (IntKind.i64.wrap (8 * (7 - (j:Int))))=((8 * (7 - j):Nat):Int):=by
  rw [wI (x:=8 * (7 - (j:Int))) (by omega) (by omega),wrapU];omega
 rw [e1]
 refine ⟨by omega,?_⟩
 rw [Int.toNat_natCast,fdiv_nat M (8 * (7 - j)) (by omega),wrapB,show 2 ^ (8 * (7 - j))=256 ^ (7 - j) by rw [Nat.pow_mul]]
 have hb:Value.int .u8 ((M / 256 ^ (7 - j) % 256:Nat):Int)=bc (UInt8.ofNat (M / 256 ^ (7 - j) % 256)):=by
  unfold bc
  rw [u8_nat (Nat.mod_lt _ (by decide))]
 rw [hb]
 obtain ⟨x,w2,hr2,hx,hxl,f2,xf⟩:=lit_ok (P:=Tryz.prog) (w:=w1) z7z [bc (UInt8.ofNat (M / 256 ^ (7 - j) % 256))] (by simp [bc,Value.cells]) (by simp)
 refine ⟨x,w2,hr2,?_⟩
 have hx0:IsB w2 x [UInt8.ofNat (M / 256 ^ (7 - j) % 256)]:=hx
 have s1:=f1.size;have s2:=f2.size
 refine app_some (IsB.keep0 hv f2) hx0 (by rw [List.length_take,z51z];simp only [List.length_singleton];omega) fun u w3 hu f3 uf=>?_
 rw [wI (x:=7 - (j:Int) - 1) (by omega) (by omega)]
 refine ⟨⟨j+1,by omega,by omega,?_,fun k hk=>?_,(f1.trans f2).comp f3 (fun k hk t=>by have:=hvf k t;omega)⟩,by omega⟩
 ·have hd:=digs_at 8 M j hj8
  rw [List.take_add_one,hd]
  exact hu
 ·rcases uf k hk with t | t
  ·exact hvf k t
  ·omega
theorem row11_spec (s:ByteArray) (hs:s.size≤1000000) (w:World):Ret Tryz.prog 65 #[.string s] w fun r w'=>∃ u:Sl,r=.slice u.1 u.2.1 u.2.2∧IsB w' u (txtB s.data.toList)∧Fr none1 w w'∧∀ k,blkOf u k→w.heap.size≤k:=by
 refine c65 s w _ ?_
 unfold C65
 rw [wrapB_bc]
 refine rowText_ok (w:=w) [UInt8.ofNat (s.size % 256)] (by simp) s hs fun u w2 hu f2 uf=>?_
 refine ⟨u,rfl,?_,f2,uf⟩
 unfold txtB
 rw [show s.data.toList.length=s.size from rfl]
 exact hu
theorem rowK (s:ByteArray) (hs:s.size≤1000000) (w:World) {K:(Option Addr×Nat×Nat)→World→Prop} (h:∀ u w',IsB w' u (txtB s.data.toList)→Fr none1 w w'→(∀ k,blkOf u k→w.heap.size≤k)→K u w'):CallK Tryz.prog 65 #[.string s] w (.v (.one .slc)) (fun (x:Option Addr×Nat×Nat) w'=>K x w'):=by
 refine CallK.of (row11_spec s hs w) ?_
 rintro _ w1 ⟨u,rfl,hu,f1,uf⟩
 exact ⟨u,rfl,h u w1 hu f1 uf⟩
theorem numK11 (n:Int) (w:World) {K:(Option Addr×Nat×Nat)→World→Prop} (h:∀ u w',IsB w' u (numL n)→Fr none1 w w'→(∀ k,blkOf u k→w.heap.size≤k)→K u w'):CallK Tryz.prog 35 #[.int .i64 n] w (.v (.one .slc)) (fun (x:Option Addr×Nat×Nat) w'=>K x w'):=by
 refine CallK.of (number11_spec n w) ?_
 rintro _ w1 ⟨u,rfl,hu,f1,uf⟩
 exact ⟨u,rfl,h u w1 hu f1 uf⟩
theorem pack11_spec (e:EvT) (t:Tm) (he:e.2.2.2.2.2.2.2.1=t.v) (hz:smallE e) (hn:nodesT t≤30000) (hsh:shortT t) (hts:(writeT t).1.length≤1000000) {w:World} {S:Nat→Prop} {v:TV} (h:IsTr w S (trT t) v) (hS:∀ k,S k→k<w.heap.size) :
  Ret Tryz.prog 36 #[evRA (evR e v)] w fun r w'=>∃ u:Sl,r=.tuple #[.slice u.1 u.2.1 u.2.2,.int .i64 (packF e (writeT t).1 (writeT t).2).2]∧IsB w' u (packF e (writeT t).1 (writeT t).2).1∧Fr none1 w w'∧∀ k,blkOf u k→w.heap.size≤k:=by
 refine c36 (evR e v) w _ ?_
 unfold C36
 refine NewK.of fun g w1 hg hb f1 _=>?_
 refine LdsK.blk (cks:=[.int .i64,.str,.str,.str,.str,.int .i64,.int .i64,.int .i64,.str,.int .i64,.slc]) (x:=evR e v) hb ?_
 refine CallK.of (check11_spec e t he hz hn hsh (h.keep0 f1) (fun k hk=>by have:=hS k hk;have:=f1.size;omega)) ?_
 rintro _ w2 ⟨rfl,f2⟩
 refine ⟨_,rfl,?_⟩
 have f12:=f1.trans f2
 have hb2:=f2.keep0 hb
 unfold packF
 refine ifB.ne (fun hne=>?_) (fun heq=>?_)
 ·rw [if_pos hne]
  exact ⟨(none,0,0),rfl,.inl ⟨rfl,rfl⟩,f12,fun k ⟨a,ha,_⟩=>by cases ha⟩
 rw [if_neg (fun t=>t heq)]
 refine LdK.fld hb2 (x:=e.1) rfl ?_
 have hkB:Value.int .u8 (IntKind.u8.wrap e.1)=bc (UInt8.ofNat (e.1 % 256).toNat):=by
  unfold bc
  rw [u8_nat (by omega)]
  congr 1
  simp [IntKind.wrap,IntKind.signed,IntKind.bits]
  omega
 rw [hkB]
 obtain ⟨x,w3,hr3,hx,hxl,f3,xf⟩:=lit_ok (P:=Tryz.prog) (w:=w2) z7z [bc (UInt8.ofNat (e.1 % 256).toNat)] (by simp [bc,Value.cells]) (by simp)
 refine ⟨x,w3,hr3,?_⟩
 have hx0:IsB w3 x [UInt8.ofNat (e.1 % 256).toNat]:=hx
 obtain ⟨y,w4,hr4,hy,hyl,f4,yf⟩:=lit_ok (P:=Tryz.prog) (w:=w3) z7z (ordL.map bc) (by intro v hv;obtain ⟨x,_,rfl⟩:=List.mem_map.1 hv;rfl) (by decide)
 refine ⟨y,w4,hr4,?_⟩
 have hy0:IsB w4 y ordL:=hy
 have s12:=f12.size
 have s3:=f3.size
 have s4:=f4.size
 have hysome:y.1.isSome=true:=by
  rcases hy0 with ⟨hh,_⟩ | ⟨g',off,cs,hv',_⟩
  ·rw [hh] at hyl;exact absurd hyl (by decide)
  ·rw [hv'];rfl
 obtain ⟨w5,hr5,hy5,f5⟩:=conv_ok (P:=Tryz.prog) Tryz.underlying22 Tryz.underlying5 hy0 hysome
 refine ⟨y,w5,hr5,?_⟩
 have hyr:RdB w5 y ordL:=hy5
 have s5:=f5.size
 have f25:Fr none1 w2 w5:=(f3.trans f4).comp f5 (fun k hk t=>by have:=yf k t;omega)
 have hb5:=f25.keep0 hb2
 have f15:=f12.trans f25
 have hyold:∀ k,blkOf y k→k<w4.heap.size:=fun k hk=>IsSl.lt hy0 hk
 have ylt:∀ k,blkOf y k→k<w5.heap.size:=fun k hk=>by have:=IsSl.lt hy0 hk;omega
 have hx5:IsB w5 x [UInt8.ofNat (e.1 % 256).toNat]:=IsB.keep (IsB.keep0 hx0 f4) f5 (fun k hk t=>by have:=yf k t;have:=IsSl.lt hx0 hk;omega)
 have hyl7:y.2.1=7:=hyl
 have htr:hasF e.1 84=true→(writeT t).2=0:=fun h84=>by
  have h2:e.1=2:=by
   unfold hasF fieldsF at h84
   by_cases h2:e.1=2
   ·exact h2
   ·rw [if_neg h2] at h84
    repeat' split at h84
    all_goals exact absurd h84 (by decide)
  unfold checkF at heq
  rw [h2] at heq
  repeat' split at heq
  all_goals first | exact heq | (exact absurd heq (by decide)) | (rename_i hx;exact absurd rfl hx)
 refine LoopK.of (fun s w'=>∃ i:Nat,s.2.1=i∧i≤7∧IsB w' s.1 (UInt8.ofNat (e.1 % 256).toNat::((ordL.take i).filter (hasF e.1)).flatMap (fieldB e (writeT t).1))∧(∀ k,blkOf s.1 k→w2.heap.size≤k∧¬ blkOf y k)∧RdB w' y ordL∧Fr none1 w2 w'∧w5.heap.size≤w'.heap.size)
  (fun s _=>(7 - s.2.1).toNat) ⟨0,rfl,by omega,hx5,fun k hk=>⟨xf k hk,fun t=>by have:=yf k t;have:=IsSl.lt hx0 hk;omega⟩,hyr,f25,Nat.le_refl _⟩ ?_
 rintro _ ⟨u,i',_⟩ w6 ⟨i,hi,hil,hu,huf,hy6,f6,hs56⟩
 dsimp only at hi hu huf ⊢
 subst hi
 refine ifB.dec (fun hlt=>?_) (fun hge=>?_)
 rotate_left
 ·have:i=7:=by omega
  subst this
  have hfl:(ordL.take 7).filter (hasF e.1)=fieldL e.1:=rfl
  rw [hfl] at hu
  exact ⟨u,rfl,hu,f12.trans f6,fun k hk=>by have:=(huf k hk).1;omega⟩
 have hi7:i<7:=by omega
 refine RdB.at hy6 (i:=(i:Int)) (by omega) hlt ?_
 rw [Int.toNat_natCast]
 obtain ⟨c,hc⟩:∃ c,ordL[i]? = some c:=⟨_,List.getElem?_eq_getElem (by show i<7;exact hi7)⟩
 have hcv:ordL.getD i 0=c:=by rw [List.getD_eq_getElem?_getD,hc];rfl
 rw [hcv]
 have hb6:=f6.keep0 hb2
 refine LdK.fld hb6 (x:=e.1) rfl ?_
 refine CallK.of (fields11_spec e.1 w6) ?_
 rintro _ _ ⟨rfl,rfl⟩
 refine ⟨_,rfl,?_⟩
 refine hasK e.1 c w6 ?_
 have hstep:((ordL.take (i+1)).filter (hasF e.1)).flatMap (fieldB e (writeT t).1)=((ordL.take i).filter (hasF e.1)).flatMap (fieldB e (writeT t).1)++(if hasF e.1 c=true then fieldB e (writeT t).1 c else []):=by
  rw [List.take_add_one,hc,List.filter_append,List.flatMap_append]
  by_cases hh:hasF e.1 c=true
  ·simp [hh]
  ·simp [hh]
 have hwi:IntKind.i64.wrap ((i:Int)+1)=((i+1:Nat):Int):=by rw [wI (x:=(i:Int)+1) (by omega) (by omega)];rfl
 rw [hwi]
 refine ifB.not (ifB.by (fun hh=>?_) (fun hh=>?_))
 rotate_left
 ·rw [if_neg (by rw [hh];decide),List.append_nil] at hstep
  exact ⟨⟨i+1,rfl,by omega,by rw [hstep];exact hu,huf,hy6,f6,hs56⟩,by omega⟩
 rw [if_pos hh] at hstep
 have hbound:∀ l:List UInt8,(l.flatMap (fieldB e (writeT t).1)).length≤l.length * 1000010:=by
  intro l
  induction l with
  | nil=>simp
  | cons a l ih=>rw [List.flatMap_cons,List.length_append,List.length_cons];have:=fieldB_len e hz (writeT t).1 hts a;omega
 have hb1':=hbound ((ordL.take i).filter (hasF e.1))
 have hb2':=fieldB_len e hz (writeT t).1 hts c
 have ht7:((ordL.take i).filter (hasF e.1)).length≤7:=by have:=List.length_filter_le (hasF e.1) (ordL.take i);rw [List.length_take] at this;omega
 have s6:=f6.size
 -- the field's bytes put behind
 have go:∀ (wa:World) (q:Sl),IsB wa q (fieldB e (writeT t).1 c)→Fr none1 w6 wa→RunK Tryz.prog (Builtin.append_ #[22,22] 22 #[.slice u.1 u.2.1 u.2.2,.slice q.1 q.2.1 q.2.2]) wa (.v (.one .slc)) (fun (x26:Option Addr×Nat×Nat) w27=>
   (∃ j:Nat,((i+1:Nat):Int)=j∧j≤7∧IsB w27 (x26.1,x26.2.1,x26.2.2) (UInt8.ofNat (e.1 % 256).toNat::((ordL.take j).filter (hasF e.1)).flatMap (fieldB e (writeT t).1))∧(∀ k,blkOf (x26.1,x26.2.1,x26.2.2) k→w2.heap.size≤k∧¬ blkOf y k)∧RdB w27 y ordL∧Fr none1 w2 w27∧w5.heap.size≤w27.heap.size)∧(7 - ((i+1:Nat):Int)).toNat<(7 - (i:Int)).toNat):=by
  intro wa q hq fa
  refine app_some (IsB.keep0 hu fa) hq (by simp only [List.length_cons];omega) fun z w7 hz7 f7 zf=>?_
  have sa:=fa.size
  refine ⟨⟨i+1,rfl,by omega,by rw [hstep,← List.cons_append];exact hz7,fun k hk=>?_,RdB.keep (RdB.keep0 hy6 fa) f7 (fun k hk t=>(huf k t).2 hk),(f6.trans fa).comp f7 (fun k hk t=>by have:=(huf k t).1;omega),by have:=f7.size;omega⟩,by omega⟩
  rcases zf k hk with t | t
  ·exact huf k t
  ·exact ⟨by omega,fun q=>by have:=IsSl.lt hy0 q;have:=s5;have:=hyold k q;omega⟩
 have eqc:∀ d:UInt8,(c.toNat:Int)=(d.toNat:Int)→c=d:=fun d h=>UInt8.toNat_inj.1 (by omega)
 refine ifB.eq (fun q=>?_) (fun n73=>?_)
 ·have hc':=eqc 73 q
  exact LdK.fld hb6 (x:=e.2.1) rfl (rowK _ hz.1 w6 fun q w7 hq f7 _=>go w7 q (by rw [hc'];exact hq) f7)
 refine ifB.eq (fun q=>?_) (fun n78=>?_)
 ·have hc':=eqc 78 q
  exact LdK.fld hb6 (x:=e.2.2.1) rfl (rowK _ hz.2.1 w6 fun q w7 hq f7 _=>go w7 q (by rw [hc'];exact hq) f7)
 refine ifB.eq (fun q=>?_) (fun n76=>?_)
 ·have hc':=eqc 76 q
  exact LdK.fld hb6 (x:=e.2.2.2.1) rfl (rowK _ hz.2.2.1 w6 fun q w7 hq f7 _=>go w7 q (by rw [hc'];exact hq) f7)
 refine ifB.eq (fun q=>?_) (fun n67=>?_)
 ·have hc':=eqc 67 q
  exact LdK.fld hb6 (x:=e.2.2.2.2.1) rfl (rowK _ hz.2.2.2 w6 fun q w7 hq f7 _=>go w7 q (by rw [hc'];exact hq) f7)
 refine ifB.eq (fun q=>?_) (fun n68=>?_)
 ·have hc':=eqc 68 q
  exact LdK.fld hb6 (x:=e.2.2.2.2.2.1) rfl (numK11 _ w6 fun q w7 hq f7 _=>go w7 q (by rw [hc'];exact hq) f7)
 refine ifB.eq (fun q=>?_) (fun n86=>?_)
 ·have hc':=eqc 86 q
  exact LdK.fld hb6 (x:=e.2.2.2.2.2.2.1) rfl (numK11 _ w6 fun q w7 hq f7 _=>go w7 q (by rw [hc'];exact hq) f7)
 have h84:c=84:=by
  have hmem:c∈ordL:=List.mem_of_getElem? hc
  simp only [ordL,List.mem_cons,List.not_mem_nil,or_false] at hmem
  rcases hmem with q | q | q | q | q | q | q
  ·exact (n73 (by rw [q];rfl)).elim
  ·exact (n78 (by rw [q];rfl)).elim
  ·exact (n76 (by rw [q];rfl)).elim
  ·exact (n67 (by rw [q];rfl)).elim
  ·exact (n68 (by rw [q];rfl)).elim
  ·exact (n86 (by rw [q];rfl)).elim
  ·exact q
 have he84:(writeT t).2=0:=htr (by rw [← h84];exact hh)
 have tv:∀ {K:TV→Prop},K v→LdsK TVK ((⟨g,0,none⟩:Addr).add 7) w6 K:=fun {K} k=>⟨v,z10z (m:=7) _ 0 (z12z hb6 (Cs.vals TVK v) 7 fun j hj=>(by
  match j,hj with
  | 0,_=>rfl
  | 1,_=>rfl
  | 2,_=>rfl
  | 3,_=>rfl
  | j+4,h=>exact absurd h (by show ¬ j+4<4;omega))),k⟩
 refine tv ?_
 have hcn:=cnt_trT t
 have hln:=len_trT t hsh
 have f06:=f12.trans f6
 refine CallK.of (rwrite_spec (trT t) false (by omega) (short_trT t hsh) (by omega) (h.keep0 f06) (fun k hk=>by have:=hS k hk;have:=f06.size;omega)) ?_
 rintro _ w7 ⟨rfl,f7⟩
 rw [writeR_trT]
 refine ⟨(str (writeT t).1,(writeT t).2,()),rfl,?_⟩
 dsimp only
 rw [he84]
 refine ifB.f rfl ⟨by decide,?_⟩
 have es:((str (writeT t).1).size:Int)=((writeT t).1.length:Int):=by rw [z1z]
 rw [es,show Int.toNat 8=8 from rfl,fdiv_nat (writeT t).1.length 8 (by omega),wrapB_bc,wrapB_bc]
 obtain ⟨x2,w8,hr8,hx2,hxl2,f8,xf2⟩:=lit_ok (P:=Tryz.prog) (w:=w7) z7z [bc (UInt8.ofNat ((writeT t).1.length / 2 ^ 8 % 256)),bc (UInt8.ofNat ((writeT t).1.length % 256))] (by simp [bc,Value.cells]) (by simp)
 refine ⟨x2,w8,hr8,?_⟩
 have hx20:IsB w8 x2 [UInt8.ofNat ((writeT t).1.length / 2 ^ 8 % 256),UInt8.ofNat ((writeT t).1.length % 256)]:=hx2
 have s7:=f7.size;have s8:=f8.size
 refine app_some (IsB.keep0 hu (f7.trans f8)) hx20 (by simp only [List.length_cons,List.length_nil];omega) fun z w9 hz9 f9 zf=>?_
 have s9:=f9.size
 have hul:=hz9.len
 obtain ⟨q,w10,hr10,hq,_,f10,qf⟩:=append_text z7z 22 Tryz.underlying9 hz9 (str (writeT t).1) (by rw [hul,z1z];simp only [List.length_append,List.length_cons,List.length_nil];omega)
 have zof:∀ k,blkOf z k→w2.heap.size≤k∧¬ blkOf y k:=fun k hk=>(zf k hk).elim (huf k) fun t=>⟨by omega,fun q=>by have:=hyold k q;omega⟩
 refine ⟨q,w10,hr10,⟨i+1,rfl,by omega,?_,fun k hk=>?_,RdB.keep (RdB.keep (RdB.keep0 hy6 (f7.trans f8)) f9 (fun k hk t=>(huf k t).2 hk)) f10 (fun k hk t=>(zof k t).2 hk),((f6.trans (f7.trans f8)).comp f9 (fun k hk t=>by have:=(huf k t).1;omega)).comp f10 (fun k hk t=>by have:=(zof k t).1;omega),by have:=f10.size;omega⟩,by omega⟩
 ·rw [hstep]
  have hF:fieldB e (writeT t).1 c=[UInt8.ofNat ((writeT t).1.length / 2 ^ 8 % 256),UInt8.ofNat ((writeT t).1.length % 256)]++(writeT t).1:=by rw [h84];rfl
  rw [hF,← List.cons_append,← List.append_assoc]
  unfold IsB
  rw [List.map_append,← z5z (writeT t).1]
  simp only [z5z] at hq ⊢
  exact hq
 ·rcases qf k hk with t | t
  ·exact zof k t
  ·exact ⟨by omega,fun q=>by have:=hyold k q;omega⟩
def nextF (s:RS):List UInt8:=if s.e=0 then match s.l with | x::_=>x.1 | []=>[] else []
def stepF (s:RS):RS:=⟨s.l.tail,s.at_,s.e⟩
def kindG (x:List UInt8) (num:Bool):Nat→Int→Int
 | 0,_=>0
 | n+1,k=>if x≠[]∧wordL k=x∧decide (11≤k)=num then k else kindG x num n (k+1)
def kindR (x:List UInt8) (num:Bool):Int:=kindG x num 16 1
def numOk (day:Bool) (x:List UInt8):Bool:=if day then dayF x else (numF x).2
def partsN (k:Int):Nat:=if k=3∨k=7∨k=14 then 1 else if k=4∨k=5∨k=6∨k=13∨k=15∨k=16 then 2 else if k=8 then 3 else 0
def comF (k:Int) (i:Nat):Bool:=decide (0<i)||(k==5||k==7)
def partB (k:Int) (num:Bool) (i:Nat):Bool:=num||((i==0)&&(k==6||k==8))
def kidsR (fin:Int) (rec:Bool→RS→Tr×RS) (k:Int) (num:Bool):Nat→Nat→List Tr→RS→List Tr×RS
 | 0,_,acc,s=>(acc,s)
 | m+1,i,acc,s=>if s.e≠0 then (acc,s) else
   kidsR fin rec k num m (i+1) (acc++[(rec (partB k num i) (if comF k i=true then mustF fin [44] s else s)).1]) (rec (partB k num i) (if comF k i=true then mustF fin [44] s else s)).2
def headS (fin:Int) (k:Int) (s:RS):List UInt8×Int×RS:=
 if k=2∨k=5∨k=12 then ((takeF fin nameL s).1,0,(takeF fin nameL s).2) else if k=7 then ([],(numF (takeF fin dayF s).1).1,(takeF fin dayF s).2) else ([],0,s)
def bodyF (fin:Int) (rec:Bool→RS→Tr×RS) (k:Int) (num:Bool) (s:RS):Tr×RS:=
 (.mk k (headS fin k s).1 (headS fin k s).2.1 (kidsR fin rec k num (partsN k) 0 [] (headS fin k s).2.2).1,mustF fin [41] (kidsR fin rec k num (partsN k) 0 [] (headS fin k s).2.2).2)
def treeF (fin:Int):Nat→Bool→RS→Tr×RS
 | 0,num,s=>(if num=true then .mk 11 [] 0 [] else .mk 0 [] 0 [],failF fin 5 s)
 | n+1,num,s=>
  if kindR (nextF s) num=0 then (if num=true then (.mk 11 [] (numF (takeF fin (numOk false) s).1).1 [],(takeF fin (numOk false) s).2) else (.mk 0 [] 0 [],failF fin 2 s))
  else if kindR (nextF s) num=1 then (.mk 1 [] 0 [],stepF s)
  else bodyF fin (treeF fin n) (kindR (nextF s) num) num (mustF fin [40] (stepF s))
def begR (bs:List UInt8):RS:=⟨(sgF [] 0 false (runesL bs)).1,0,0⟩
def endR (fin:Int) (s:RS):RS:=if s.e=0∧s.l≠[] then failF fin 2 s else s
def readR (bs:List UInt8) (num:Bool):Tr×Int×Int:=
 if 1000<bs.length then (.mk 0 [] 0 [],0,5) else if 0<(sgF [] 0 false (runesL bs)).2 then (.mk 0 [] 0 [],(sgF [] 0 false (runesL bs)).2,2) else
  if (endR (endF bs) (treeF (endF bs) 12 num (begR bs)).2).e≠0 then (.mk 0 [] 0 [],(endR (endF bs) (treeF (endF bs) 12 num (begR bs)).2).at_,(endR (endF bs) (treeF (endF bs) 12 num (begR bs)).2).e)
  else if checkR (treeF (endF bs) 12 num (begR bs)).1 num≠0 then (.mk 0 [] 0 [],0,checkR (treeF (endF bs) 12 num (begR bs)).1 num) else ((treeF (endF bs) 12 num (begR bs)).1,0,0)
theorem kindG_eq (x:List UInt8) (num:Bool) (n:Nat) (k:Int):kindG x num (n+1) k=if x≠[]∧wordL k=x∧decide (11≤k)=num then k else kindG x num n (k+1):=rfl
theorem kindR_nil (num:Bool):kindR [] num=0:=by cases num<;>decide
theorem kindR_none {x:List UInt8} {num:Bool} (h:∀ k:Int,1≤k→k≤16→decide (11≤k)=num→x≠[]→wordL k≠x):kindR x num=0:=by
 have go:∀ (n:Nat) (k:Int),1≤k→k+n≤17→kindG x num n k=0:=by
  intro n
  induction n with
  | zero=>intro k _ _;rfl
  | succ n ih=>
   intro k h1 h2
   rw [kindG_eq,if_neg (fun t=>h k h1 (by omega) t.2.2 t.1 t.2.1)]
   exact ih (k+1) (by omega) (by omega)
 exact go 16 1 (by omega) (by omega)
theorem kind_k {k:Int} (h1:1≤k) (h2:k≤16):k=1∨k=2∨k=3∨k=4∨k=5∨k=6∨k=7∨k=8∨k=9∨k=10∨k=11∨k=12∨k=13∨k=14∨k=15∨k=16:=by omega
theorem kindR_noT {x:List UInt8} (h:beginsF x=false):kindR x false=0:=by
 refine kindR_none fun k h1 h2 h3 h4 h5=>?_
 unfold beginsF at h
 simp only [Bool.or_eq_false_iff,beq_eq_false_iff_ne] at h
 obtain ⟨a1,a2,a3,a4,a5,a6,a7,a8⟩:=h
 have h3:¬ 11≤k:=of_decide_eq_false h3
 rcases kind_k h1 h2 with e | e | e | e | e | e | e | e | e | e | e | e | e | e | e | e<;>subst e<;>first | exact a1 h5.symm | exact a2 h5.symm | exact a3 h5.symm | exact a4 h5.symm | exact a5 h5.symm | exact a6 h5.symm | exact a7 h5.symm | exact a8 h5.symm | exact h4 h5.symm | exact h3 (by decide)
theorem kindR_noO {x:List UInt8} (h:x≠[102,105,120]∧x≠[97,100,100]∧x≠[110,101,103]∧x≠[109,117,108]∧x≠[109,97,120]):kindR x true=0:=by
 refine kindR_none fun k h1 h2 h3 h4 h5=>?_
 obtain ⟨a1,a2,a3,a4,a5⟩:=h
 have h3:11≤k:=of_decide_eq_true h3
 rcases kind_k h1 h2 with e | e | e | e | e | e | e | e | e | e | e | e | e | e | e | e<;>subst e<;>first | exact a1 h5.symm | exact a2 h5.symm | exact a3 h5.symm | exact a4 h5.symm | exact a5 h5.symm | exact h4 h5.symm | exact absurd h3 (by decide)
theorem kindR_le (x:List UInt8) (num:Bool):0≤kindR x num∧kindR x num≤16:=by
 have go:∀ (n:Nat) (k:Int),1≤k→k+n≤17→0≤kindG x num n k∧kindG x num n k≤16:=by
  intro n
  induction n with
  | zero=>intro k _ _;exact ⟨Int.le_refl _,show (0:Int)≤16 by decide⟩
  | succ n ih=>
   intro k h1 h2
   rw [kindG_eq]
   split
   ·omega
   ·exact ih (k+1) (by omega) (by omega)
 exact go 16 1 (by omega) (by omega)
theorem nextF_err {s:RS} (h:s.e≠0):nextF s=[]:=by unfold nextF;rw [if_neg h]
theorem treeF_err (fin:Int):∀ (n:Nat) (b:Bool) (s:RS),s.e≠0→(treeF fin n b s).2=s
 | 0,b,s,h=>z48z h
 | n+1,b,s,h=>by
  unfold treeF
  rw [nextF_err h,kindR_nil,if_pos rfl]
  cases b
  ·exact z48z h
  ·show (takeF fin (numOk false) s).2=s;rw [takeF_err h]
section
variable {fin:Int} {rec:Bool→RS→Tr×RS} (hr:∀ b s,s.e≠0→(rec b s).2=s)
include hr
def fst (fin k:Int) (i:Nat) (s:RS):RS:=if comF k i=true then mustF fin [44] s else s
omit hr in
theorem fst_err {k:Int} {i:Nat} {s:RS} (h:s.e≠0):fst fin k i s=s:=by unfold fst;split;exact mustF_err h;rfl
omit hr in
theorem kidsR_err (k:Int) (num:Bool) (m i:Nat) (acc:List Tr) {s:RS} (h:s.e≠0):kidsR fin rec k num m i acc s=(acc,s):=by
 cases m with
 | zero=>rfl
 | succ m=>unfold kidsR;rw [if_pos h]
omit hr in
theorem z45z (k:Int) (num:Bool) (m i:Nat) (acc:List Tr) {s:RS} (h:s.e=0):kidsR fin rec k num (m+1) i acc s=kidsR fin rec k num m (i+1) (acc++[(rec (partB k num i) (fst fin k i s)).1]) (rec (partB k num i) (fst fin k i s)).2:=by
 rw [kidsR,if_neg (by simpa using h)];rfl
theorem z44z (k:Int) (num:Bool) (m i:Nat) (acc:List Tr) (s:RS):(kidsR fin rec k num (m+1) i acc s).2=(kidsR fin rec k num m (i+1) [] (rec (partB k num i) (fst fin k i s)).2).2:=by
 have acc_eq:∀ (m i:Nat) (a b:List Tr) (s:RS),(kidsR fin rec k num m i a s).2=(kidsR fin rec k num m i b s).2:=by
  intro m
  induction m with
  | zero=>intro i a b s;rfl
  | succ m ih=>
   intro i a b s
   by_cases h:s.e=0
   ·rw [z45z k num m i a h,z45z k num m i b h];exact ih _ _ _ _
   ·rw [kidsR_err k num _ i a h,kidsR_err k num _ i b h]
 by_cases h:s.e=0
 ·rw [z45z k num m i acc h];exact acc_eq _ _ _ _ _
 ·rw [kidsR_err k num _ i acc h,fst_err h,hr _ s h,kidsR_err k num m (i+1) [] h]
end
theorem z6z {fin:Int} {x:List UInt8} {s:RS} (h:(mustF fin x s).e=0):s.e=0:=(z16z h).e
theorem fst_back {fin k:Int} {i:Nat} {s:RS} (h:(fst fin k i s).e=0):s.e=0:=by
 unfold fst at h;split at h
 ·exact z6z h
 ·exact h
theorem fail_not {fin c:Int} (hc:c≠0) {s:RS}:(failF fin c s).e≠0:=by
 unfold failF;split
 ·exact hc
 ·rename_i h;exact h
section
variable {fin:Int} {rec:Bool→RS→Tr×RS} (hr:∀ b s,s.e≠0→(rec b s).2=s)
include hr
theorem rec_back {b:Bool} {s:RS} (h:(rec b s).2.e=0):s.e=0:=Classical.byContradiction fun hn=>by rw [hr b s hn] at h;exact hn h
theorem kids1_state (k:Int) (num:Bool) (s:RS):(kidsR fin rec k num 1 0 [] s).2=(rec (partB k num 0) (fst fin k 0 s)).2:=z44z hr k num 0 0 [] s
theorem kids1_list (k:Int) (num:Bool) (s:RS) (h:(rec (partB k num 0) (fst fin k 0 s)).2.e=0):(kidsR fin rec k num 1 0 [] s).1=[(rec (partB k num 0) (fst fin k 0 s)).1]:=by
 rw [z45z k num 0 0 [] (fst_back (rec_back hr h))];rfl
theorem kids2_state (k:Int) (num:Bool) (s:RS):(kidsR fin rec k num 2 0 [] s).2=(rec (partB k num 1) (mustF fin [44] (rec (partB k num 0) (fst fin k 0 s)).2)).2:=by
 rw [z44z hr k num 1 0 [] s,z44z hr k num 0 1 [] _];rfl
theorem kids2_list (k:Int) (num:Bool) (s:RS) (h:(rec (partB k num 1) (mustF fin [44] (rec (partB k num 0) (fst fin k 0 s)).2)).2.e=0) :
  (kidsR fin rec k num 2 0 [] s).1=[(rec (partB k num 0) (fst fin k 0 s)).1,(rec (partB k num 1) (mustF fin [44] (rec (partB k num 0) (fst fin k 0 s)).2)).1]:=by
 have h1:=z6z (rec_back hr h)
 exact congrArg Prod.fst ((z45z k num 1 0 [] (fst_back (rec_back hr h1))).trans (z45z k num 0 1 _ h1))
theorem kids3_state (k:Int) (num:Bool) (s:RS):(kidsR fin rec k num 3 0 [] s).2=(rec (partB k num 2) (mustF fin [44] (rec (partB k num 1) (mustF fin [44] (rec (partB k num 0) (fst fin k 0 s)).2)).2)).2:=by
 rw [z44z hr k num 2 0 [] s,z44z hr k num 1 1 [] _,z44z hr k num 0 2 [] _];rfl
theorem kids3_list (k:Int) (num:Bool) (s:RS) (h:(rec (partB k num 2) (mustF fin [44] (rec (partB k num 1) (mustF fin [44] (rec (partB k num 0) (fst fin k 0 s)).2)).2)).2.e=0) :
  (kidsR fin rec k num 3 0 [] s).1=[(rec (partB k num 0) (fst fin k 0 s)).1,(rec (partB k num 1) (mustF fin [44] (rec (partB k num 0) (fst fin k 0 s)).2)).1,(rec (partB k num 2) (mustF fin [44] (rec (partB k num 1) (mustF fin [44] (rec (partB k num 0) (fst fin k 0 s)).2)).2)).1]:=by
 have h2:=z6z (rec_back hr h)
 have h1:=z6z (rec_back hr h2)
 exact congrArg Prod.fst ((z45z k num 2 0 [] (fst_back (rec_back hr h1))).trans ((z45z k num 1 1 _ h1).trans (z45z k num 0 2 _ h2)))
end
def SameO (a:Tr×RS) (b:Ob×RS):Prop:=a.2=b.2∧(b.2.e=0→a.1=trO b.1)
def SameT (a:Tr×RS) (b:Tm×RS):Prop:=a.2=b.2∧(b.2.e=0→a.1=trT b.1)
theorem sameO_num (fin:Int):∀ (n:Nat) (s:RS),SameO (treeF fin n true s) (numR fin n s)
 | 0,s=>⟨rfl,fun h=>(fail_not (by decide) h).elim⟩
 | n+1,s=>by
  have ih:=sameO_num fin n
  have hr:=treeF_err fin n
  by_cases he:s.e=0
  rotate_left
  ·refine ⟨?_,fun h=>?_⟩
   ·rw [treeF_err fin _ _ s he,numR_err fin _ s he]
   ·rw [numR_err fin _ s he] at h;exact (he h).elim
  obtain ⟨l,a,e⟩:=s
  dsimp only at he;subst he
  unfold treeF numR
  rw [if_neg (show ¬ ((0:Int)≠0) by decide)]
  cases l with
  | nil=>
   rw [show nextF ⟨[],a,0⟩=[] from rfl,kindR_nil,if_pos rfl,if_pos rfl,takeF_nil,takeF_nil,if_pos rfl]
   exact ⟨rfl,fun h=>absurd (show (2:Int)=0 from h) (by decide)⟩
  | cons x l=>
   obtain ⟨x,p⟩:=x
   rw [show nextF ⟨(x,p)::l,a,0⟩=x from rfl,show stepF ⟨(x,p)::l,a,0⟩=⟨l,a,0⟩ from rfl]
   by_cases hw:wordF' x=true
   ·rw [takeF_hit (right:=wordF') (x:=(x,p)) hw]
    have hne:x≠[]:=by rintro rfl;exact absurd hw (by decide +kernel)
    rw [if_neg hne]
    dsimp only
    have two:∀ k:Int,(k=13∨k=15∨k=16)→∀ (s2:RS) (f:Ob→Ob→Ob),(∀ l r,trO (f l r)=.mk k [] 0 [trO l,trO r])→SameO (bodyF fin (treeF fin n) k true (mustF fin [40] s2)) (f (pairF fin (numR fin n) s2).1 (pairF fin (numR fin n) s2).2.1,(pairF fin (numR fin n) s2).2.2):=by
     intro k hk s2 f hf
     have hp:partsN k=2:=by rcases hk with rfl | rfl | rfl<;>decide
     have hh:∀ s,headS fin k s=([],0,s):=fun s=>by rcases hk with rfl | rfl | rfl<;>rfl
     have hf0:∀ s,fst fin k 0 s=s:=fun s=>by rcases hk with rfl | rfl | rfl<;>rfl
     have hb:∀ i,partB k true i=true:=fun i=>rfl
     unfold bodyF pairF
     rw [hh,hp]
     dsimp only
     generalize mustF fin [40] s2=s3
     rw [kids2_state hr,hf0,hb,hb]
     have i1:=ih s3
     have i2:=ih (mustF fin [44] (numR fin n s3).2)
     have hl:=kids2_list (fin:=fin) hr k true s3
     rw [hf0,hb,hb] at hl
     rw [i1.1] at hl ⊢
     rw [i2.1] at hl ⊢
     refine ⟨rfl,fun h=>?_⟩
     have h2:=z6z h
     have h1:(numR fin n s3).2.e=0:=z6z (Classical.byContradiction fun hn=>by rw [numR_err fin n _ hn] at h2;exact hn h2)
     show Tr.mk k [] 0 _=trO (f _ _)
     rw [hl h2,hf,i1.2 h1,i2.2 h2]
    rcases word_cases hw with c | c | c | c | c | c
    ·subst c
     rw [show kindR [102,105,120] true=12 by decide,if_neg (by decide),if_neg (by decide)]
     exact ⟨rfl,fun _=>rfl⟩
    ·subst c
     rw [show kindR [97,100,100] true=13 by decide,if_neg (by decide),if_neg (by decide)]
     exact two 13 (by decide) _ Ob.add (fun _ _=>rfl)
    ·subst c
     rw [show kindR [110,101,103] true=14 by decide,if_neg (by decide),if_neg (by decide)]
     show SameO (Tr.mk 14 [] 0 (kidsR fin (treeF fin n) 14 true 1 0 [] (mustF fin [40] ⟨l,a,0⟩)).1,mustF fin [41] (kidsR fin (treeF fin n) 14 true 1 0 [] (mustF fin [40] ⟨l,a,0⟩)).2) (Ob.neg (numR fin n (mustF fin [40] ⟨l,a,0⟩)).1,mustF fin [41] (numR fin n (mustF fin [40] ⟨l,a,0⟩)).2)
     generalize mustF fin [40] ⟨l,a,0⟩=s3
     have i1:=ih s3
     have hl:=kids1_list (fin:=fin) hr 14 true s3
     rw [kids1_state hr]
     rw [show fst fin 14 0 s3=s3 from rfl,show partB 14 true 0=true from rfl] at hl ⊢
     rw [i1.1] at hl ⊢
     refine ⟨rfl,fun h=>?_⟩
     have h1:=z6z h
     show Tr.mk 14 [] 0 _=trO (.neg _)
     rw [hl h1,i1.2 h1];rfl
    ·subst c
     rw [show kindR [109,117,108] true=15 by decide,if_neg (by decide),if_neg (by decide)]
     exact two 15 (by decide) _ Ob.mul (fun _ _=>rfl)
    ·subst c
     rw [show kindR [109,97,120] true=16 by decide,if_neg (by decide),if_neg (by decide)]
     exact two 16 (by decide) _ Ob.max (fun _ _=>rfl)
    ·have hn:=word_num c
     rw [kindR_noO ⟨hn.2.1,hn.2.2.2.1,hn.2.2.1,hn.2.2.2.2.1,hn.2.2.2.2.2⟩,if_pos rfl,if_pos rfl,takeF_hit (right:=numOk false) (x:=(x,p)) c]
     unfold numK
     rw [if_neg hn.2.1,if_neg hn.2.2.1,if_neg hn.2.2.2.1,if_neg hn.2.2.2.2.1,if_neg hn.2.2.2.2.2]
     exact ⟨rfl,fun _=>rfl⟩
   ·rw [z57z (right:=wordF') (x:=(x,p)) hw,if_pos rfl]
    have hw':wordF' x=false:=by simpa using hw
    unfold wordF' at hw'
    simp only [Bool.or_eq_false_iff,beq_eq_false_iff_ne] at hw'
    obtain ⟨a0,a1,a2,a3,a4,a5⟩:=hw'
    rw [kindR_noO ⟨a1,a2,a3,a4,a5⟩,if_pos rfl,if_pos rfl,z57z (right:=numOk false) (x:=(x,p)) (by show ¬ (numF x).2=true;rw [a0];decide)]
    exact ⟨rfl,fun h=>absurd (show (2:Int)=0 from h) (by decide)⟩
theorem sameT_con (fin:Int):∀ (n:Nat) (s:RS),SameT (treeF fin n false s) (conR fin n s)
 | 0,s=>⟨rfl,fun h=>(fail_not (by decide) h).elim⟩
 | n+1,s=>by
  have ih:=sameT_con fin n
  have ihO:=sameO_num fin n
  have hr:=treeF_err fin n
  by_cases he:s.e=0
  rotate_left
  ·refine ⟨?_,fun h=>?_⟩
   ·rw [treeF_err fin _ _ s he,z41z fin _ s he]
   ·rw [z41z fin _ s he] at h;exact (he h).elim
  obtain ⟨l,a,e⟩:=s
  dsimp only at he;subst he
  unfold treeF conR
  rw [if_neg (show ¬ ((0:Int)≠0) by decide)]
  cases l with
  | nil=>
   rw [show nextF ⟨[],a,0⟩=[] from rfl,kindR_nil,if_pos rfl,if_neg (by decide),takeF_nil,if_pos rfl]
   exact ⟨rfl,fun h=>absurd (show (2:Int)=0 from h) (by decide)⟩
  | cons x l=>
   obtain ⟨x,p⟩:=x
   rw [show nextF ⟨(x,p)::l,a,0⟩=x from rfl,show stepF ⟨(x,p)::l,a,0⟩=⟨l,a,0⟩ from rfl]
   by_cases hw:beginsF x=true
   ·rw [takeF_hit (right:=beginsF) (x:=(x,p)) hw]
    have hne:x≠[]:=by rintro rfl;exact absurd hw (by decide)
    rw [if_neg hne]
    dsimp only
    rcases begins_cases hw with c | c | c | c | c | c | c | c
    ·subst c
     rw [show kindR [122,101,114,111] false=1 by decide,if_neg (by decide),if_pos rfl,if_pos rfl]
     exact ⟨rfl,fun _=>rfl⟩
    all_goals (subst c;generalize mustF fin [40] ⟨l,a,0⟩=s3)
    ·rw [show kindR [111,110,101] false=2 by decide,if_neg (by decide),if_neg (by decide),if_neg (by decide)]
     exact ⟨rfl,fun _=>rfl⟩
    ·rw [show kindR [103,105,118,101] false=3 by decide,if_neg (by decide),if_neg (by decide),if_neg (by decide)]
     show SameT (Tr.mk 3 [] 0 (kidsR fin (treeF fin n) 3 false 1 0 [] s3).1,mustF fin [41] (kidsR fin (treeF fin n) 3 false 1 0 [] s3).2) (Tm.give (conR fin n s3).1,mustF fin [41] (conR fin n s3).2)
     have i1:=ih s3
     have hl:=kids1_list (fin:=fin) hr 3 false s3
     rw [kids1_state hr]
     rw [show fst fin 3 0 s3=s3 from rfl,show partB 3 false 0=false from rfl] at hl ⊢
     rw [i1.1] at hl ⊢
     refine ⟨rfl,fun h=>?_⟩
     have h1:=z6z h
     show Tr.mk 3 [] 0 _=trT (.give _)
     rw [hl h1,i1.2 h1];rfl
    ·rw [show kindR [97,110,100] false=4 by decide,if_neg (by decide),if_neg (by decide),if_neg (by decide)]
     show SameT (Tr.mk 4 [] 0 (kidsR fin (treeF fin n) 4 false 2 0 [] s3).1,mustF fin [41] (kidsR fin (treeF fin n) 4 false 2 0 [] s3).2) (Tm.and (bothF fin (conR fin n) s3).1 (bothF fin (conR fin n) s3).2.1,(bothF fin (conR fin n) s3).2.2)
     unfold bothF
     dsimp only
     have i1:=ih s3
     have i2:=ih (mustF fin [44] (conR fin n s3).2)
     have hl:=kids2_list (fin:=fin) hr 4 false s3
     rw [kids2_state hr]
     rw [show fst fin 4 0 s3=s3 from rfl,show partB 4 false 0=false from rfl,show partB 4 false 1=false from rfl] at hl ⊢
     rw [i1.1] at hl ⊢
     rw [i2.1] at hl ⊢
     refine ⟨rfl,fun h=>?_⟩
     have h2:=z6z h
     have h1:(conR fin n s3).2.e=0:=z6z (Classical.byContradiction fun hn=>by rw [z41z fin n _ hn] at h2;exact hn h2)
     show Tr.mk 4 [] 0 _=trT (.and _ _)
     rw [hl h2,i1.2 h1,i2.2 h2];rfl
    ·rw [show kindR [111,114] false=5 by decide,if_neg (by decide),if_neg (by decide),if_neg (by decide)]
     show SameT (Tr.mk 5 (takeF fin nameL s3).1 0 (kidsR fin (treeF fin n) 5 false 2 0 [] (takeF fin nameL s3).2).1,mustF fin [41] (kidsR fin (treeF fin n) 5 false 2 0 [] (takeF fin nameL s3).2).2)
      (Tm.or (takeF fin nameL s3).1 (bothF fin (conR fin n) (mustF fin [44] (takeF fin nameL s3).2)).1 (bothF fin (conR fin n) (mustF fin [44] (takeF fin nameL s3).2)).2.1,(bothF fin (conR fin n) (mustF fin [44] (takeF fin nameL s3).2)).2.2)
     generalize (takeF fin nameL s3).1=nm
     generalize (takeF fin nameL s3).2=s4
     unfold bothF
     dsimp only
     have hl:=kids2_list (fin:=fin) hr 5 false s4
     rw [kids2_state hr]
     rw [show fst fin 5 0 s4=mustF fin [44] s4 from rfl,show partB 5 false 0=false from rfl,show partB 5 false 1=false from rfl] at hl ⊢
     generalize mustF fin [44] s4=s5 at hl ⊢
     have i1:=ih s5
     have i2:=ih (mustF fin [44] (conR fin n s5).2)
     rw [i1.1] at hl ⊢
     rw [i2.1] at hl ⊢
     refine ⟨rfl,fun h=>?_⟩
     have h2:=z6z h
     have h1:(conR fin n s5).2.e=0:=z6z (Classical.byContradiction fun hn=>by rw [z41z fin n _ hn] at h2;exact hn h2)
     show Tr.mk 5 nm 0 _=trT (.or nm _ _)
     rw [hl h2,i1.2 h1,i2.2 h2];rfl
    ·rw [show kindR [115,99,97,108,101] false=6 by decide,if_neg (by decide),if_neg (by decide),if_neg (by decide)]
     show SameT (Tr.mk 6 [] 0 (kidsR fin (treeF fin n) 6 false 2 0 [] s3).1,mustF fin [41] (kidsR fin (treeF fin n) 6 false 2 0 [] s3).2)
      (Tm.scale (numR fin n s3).1 (conR fin n (mustF fin [44] (numR fin n s3).2)).1,mustF fin [41] (conR fin n (mustF fin [44] (numR fin n s3).2)).2)
     have i1:=ihO s3
     have i2:=ih (mustF fin [44] (numR fin n s3).2)
     have hl:=kids2_list (fin:=fin) hr 6 false s3
     rw [kids2_state hr]
     rw [show fst fin 6 0 s3=s3 from rfl,show partB 6 false 0=true from rfl,show partB 6 false 1=false from rfl] at hl ⊢
     rw [i1.1] at hl ⊢
     rw [i2.1] at hl ⊢
     refine ⟨rfl,fun h=>?_⟩
     have h2:=z6z h
     have h1:(numR fin n s3).2.e=0:=z6z (Classical.byContradiction fun hn=>by rw [z41z fin n _ hn] at h2;exact hn h2)
     show Tr.mk 6 [] 0 _=trT (.scale _ _)
     rw [hl h2,i1.2 h1,i2.2 h2];rfl
    ·rw [show kindR [119,104,101,110] false=7 by decide,if_neg (by decide),if_neg (by decide),if_neg (by decide)]
     show SameT (Tr.mk 7 [] (numF (takeF fin dayF s3).1).1 (kidsR fin (treeF fin n) 7 false 1 0 [] (takeF fin dayF s3).2).1,mustF fin [41] (kidsR fin (treeF fin n) 7 false 1 0 [] (takeF fin dayF s3).2).2)
      (Tm.when (numF (takeF fin dayF s3).1).1 (conR fin n (mustF fin [44] (takeF fin dayF s3).2)).1,mustF fin [41] (conR fin n (mustF fin [44] (takeF fin dayF s3).2)).2)
     generalize (numF (takeF fin dayF s3).1).1=nm
     generalize (takeF fin dayF s3).2=s4
     have hl:=kids1_list (fin:=fin) hr 7 false s4
     rw [kids1_state hr]
     rw [show fst fin 7 0 s4=mustF fin [44] s4 from rfl,show partB 7 false 0=false from rfl] at hl ⊢
     generalize mustF fin [44] s4=s5 at hl ⊢
     have i1:=ih s5
     rw [i1.1] at hl ⊢
     refine ⟨rfl,fun h=>?_⟩
     have h1:=z6z h
     show Tr.mk 7 [] nm _=trT (.when nm _)
     rw [hl h1,i1.2 h1];rfl
    ·rw [show kindR [105,102] false=8 by decide,if_neg (by decide),if_neg (by decide),if_neg (by decide)]
     show SameT (Tr.mk 8 [] 0 (kidsR fin (treeF fin n) 8 false 3 0 [] s3).1,mustF fin [41] (kidsR fin (treeF fin n) 8 false 3 0 [] s3).2)
      (Tm.cond (numR fin n s3).1 (bothF fin (conR fin n) (mustF fin [44] (numR fin n s3).2)).1 (bothF fin (conR fin n) (mustF fin [44] (numR fin n s3).2)).2.1,(bothF fin (conR fin n) (mustF fin [44] (numR fin n s3).2)).2.2)
     unfold bothF
     dsimp only
     have i1:=ihO s3
     have hl:=kids3_list (fin:=fin) hr 8 false s3
     rw [kids3_state hr]
     rw [show fst fin 8 0 s3=s3 from rfl,show partB 8 false 0=true from rfl,show partB 8 false 1=false from rfl,show partB 8 false 2=false from rfl] at hl ⊢
     rw [i1.1] at hl ⊢
     have i2:=ih (mustF fin [44] (numR fin n s3).2)
     rw [i2.1] at hl ⊢
     have i3:=ih (mustF fin [44] (conR fin n (mustF fin [44] (numR fin n s3).2)).2)
     rw [i3.1] at hl ⊢
     refine ⟨rfl,fun h=>?_⟩
     have h3:=z6z h
     have h2:(conR fin n (mustF fin [44] (numR fin n s3).2)).2.e=0:=z6z (Classical.byContradiction fun hn=>by rw [z41z fin n _ hn] at h3;exact hn h3)
     have h1:(numR fin n s3).2.e=0:=z6z (Classical.byContradiction fun hn=>by rw [z41z fin n _ hn] at h2;exact hn h2)
     show Tr.mk 8 [] 0 _=trT (.cond _ _ _)
     rw [hl h3,i1.2 h1,i2.2 h2,i3.2 h3];rfl
   ·rw [z57z (right:=beginsF) (x:=(x,p)) hw,if_pos rfl]
    rw [kindR_noT (by simpa using hw),if_pos rfl,if_neg (by decide)]
    exact ⟨rfl,fun h=>absurd (show (2:Int)=0 from h) (by decide)⟩
theorem endR_done {fin:Int} {s:RS}:(endR fin s)=doneF fin s:=by
 unfold endR doneF
 obtain ⟨l,a,e⟩:=s
 cases l with
 | nil=>simp
 | cons x l=>
  dsimp only
  by_cases he:e=0
  ·rw [if_pos ⟨he,by simp⟩]
  ·rw [if_neg (fun t=>he t.1)];exact (z48z he).symm
theorem doneF_err {fin:Int} {s:RS} (h:s.e≠0):doneF fin s=s:=by
 unfold doneF;split
 ·rfl
 ·exact z48z h
theorem readR_T (bs:List UInt8):readR bs false=(trT (readT bs).1,(readT bs).2):=by
 unfold readR readT conS
 by_cases hl:1000<bs.length
 ·rw [if_pos hl]
  have hb:beginF bs=⟨[],0,5⟩:=by unfold beginF;rw [if_pos hl]
  have h5:(⟨[],0,5⟩:RS).e≠0:=by show (5:Int)≠0;decide
  rw [hb,z41z _ _ _ h5,doneF_err h5,if_pos h5];rfl
 rw [if_neg hl]
 by_cases hb:0<(sgF [] 0 false (runesL bs)).2
 ·rw [if_pos hb]
  have hbe:beginF bs=⟨(sgF [] 0 false (runesL bs)).1,(sgF [] 0 false (runesL bs)).2,2⟩:=by unfold beginF;rw [if_neg hl,if_pos hb]
  have h2:(⟨(sgF [] 0 false (runesL bs)).1,(sgF [] 0 false (runesL bs)).2,2⟩:RS).e≠0:=by show (2:Int)≠0;decide
  rw [hbe,z41z _ _ _ h2,doneF_err h2,if_pos h2];rfl
 rw [if_neg hb]
 have hbe:beginF bs=begR bs:=by unfold beginF begR;rw [if_neg hl,if_neg hb]
 have hs:=sameT_con (endF bs) 12 (begR bs)
 rw [hbe,endR_done,hs.1]
 by_cases he:(doneF (endF bs) (conR (endF bs) 12 (begR bs)).2).e=0
 ·have hd:=doneF_ok he
  have ha:=(conR_inv (endF bs) 12 (begR bs) hd.1).1.at_
  have ha:(conR (endF bs) 12 (begR bs)).2.at_=0:=ha
  have hne:¬ (doneF (endF bs) (conR (endF bs) 12 (begR bs)).2).e≠0:=by simpa using he
  simp only [if_neg hne]
  rw [hs.2 hd.1,check_trT,hd.2.2,ha]
  split<;>rfl
 ·simp only [if_pos he];rfl
def C158 (p0:ByteArray) (w:World) (K:Value→World→Prop):Prop:=
 JoinK (Bool×Unit) (fun J1=>ifB (decide ((p0.size:Int) > 0))
 (StrK p0 0 (fun x4=>J1 ((x4==45),()) w))
 (J1 (false,()) w))
 (fun _ s2 w3=>JoinK (ByteArray×Unit) (fun J5=>ifB s2.1
 (SubsK p0 1 p0.size (fun x8=>J5 (x8,()) w3))
 (J5 (p0,()) w3))
 (fun _ s6 w7=>JoinK (Bool×Unit) (fun J9=>ifB (decide ((s6.1.size:Int)<1))
 (J9 (true,()) w7)
 (ifB (decide ((s6.1.size:Int) > 13))
 (J9 (true,()) w7)
 (StrK s6.1 0 (fun x12=>ifB (x12==48)
 (ifB (decide ((s6.1.size:Int) > 1))
 (J9 (true,()) w7)
 (J9 (s2.1,()) w7))
 (J9 (false,()) w7)))))
 (fun _ s10 w11=>ifB s10.1
 (K (.tuple #[.int .i64 0,.bool false]) w11)
 (LoopK (Int×Int×Unit) (fun _ s13 w14 next15=>ifB (decide (s13.2.1<(s6.1.size:Int)))
 (StrK s6.1 s13.2.1 (fun x16=>ifB (decide (x16<48))
 (K (.tuple #[.int .i64 0,.bool false]) w14)
 (StrK s6.1 s13.2.1 (fun x17=>ifB (decide (x17 > 57))
 (K (.tuple #[.int .i64 0,.bool false]) w14)
 (StrK s6.1 s13.2.1 (fun x18=>next15 (IntKind.i64.wrap ((IntKind.i64.wrap (10 * s13.1))+(IntKind.i64.wrap (IntKind.u8.wrap (x18 - 48)))),IntKind.i64.wrap (s13.2.1+1),()) w14))))))
 (ifB (decide (s13.1 > 1000000000000))
 (K (.tuple #[.int .i64 0,.bool false]) w14)
 (ifB s2.1
 (K (.tuple #[.int .i64 (IntKind.i64.wrap (0 - s13.1)),.bool true]) w14)
 (K (.tuple #[.int .i64 s13.1,.bool true]) w14))))
 (0,0,()) w11))))
def pl158:Plan:=(.seq .auto (.join [(4,.one .bool)] .auto (.join [(0,.one .str)] .auto (.seq (.join [(38,.one .bool)] .auto .auto) (.seq .auto (.seq (.seq .auto (.block (.loop [(5,.one (.int .i64)),(6,.one (.int .i64))] .auto))) .auto))))))
theorem c158 (p0:ByteArray) (w:World) (K:Value→World→Prop) (h:C158 p0 w K):Ret Tryz.prog 158 #[.string p0] w K:=z0z (by kernel_rfl) Tryz.func158 (p:=pl158) (Eq.mpr (by kernel_rfl) h)
def C100 (p0:ByteArray) (w:World) (K:Value→World→Prop):Prop:=
 CallK Tryz.prog 116 #[.string p0] w (.v (.one .slc)) (fun (x1:SlT) w2=>RunK Tryz.prog (Instr.buildSlice 165 1 #[(0,.int .i32 32)]) w2 (.v (.one .slc)) (fun (x3:SlT) w4=>RunK Tryz.prog (Builtin.append_ #[165,165] 165 #[.slice x1.1 x1.2.1 x1.2.2,.slice x3.1 x3.2.1 x3.2.2]) w4 (.v (.one .slc)) (fun (x5:SlT) w6=>LoopK (SlT×ByteArray×Int×Int×Unit) (fun _ s7 w8 next9=>ifB (decide (s7.2.2.2.1<(x5.2.1:Int)))
 (IdxK x5.1 x5.2.1 s7.2.2.2.1 1 (fun a10=>LdK (.int .i32) a10 w8 (fun (x11:Int)=>JoinK (Bool×Unit) (fun J12=>CallK Tryz.prog 117 #[.int .i32 x11] w8 (.v (.one .bool)) (fun (x15:Bool) w16=>ifB x15
 (J12 (true,()) w16)
 (J12 ((x11==45),()) w16)))
 (fun _ s13 w14=>ifB s13.1
 (ifB (s7.2.1.toList==(⟨#[]⟩:ByteArray).toList)
 (CatK s7.2.1 (Utf8.encode x11) (next9 ((s7.1.1,s7.1.2.1,s7.1.2.2),(s7.2.1++(Utf8.encode x11)),IntKind.i64.wrap (s7.2.2.2.1+1),IntKind.i64.wrap (s7.2.2.2.1+1),()) w14))
 (CatK s7.2.1 (Utf8.encode x11) (next9 ((s7.1.1,s7.1.2.1,s7.1.2.2),(s7.2.1++(Utf8.encode x11)),s7.2.2.1,IntKind.i64.wrap (s7.2.2.2.1+1),()) w14)))
 (JoinK (SlT×ByteArray×Unit) (fun J17=>ifB (!(s7.2.1.toList==(⟨#[]⟩:ByteArray).toList))
 (RunK Tryz.prog (Instr.buildSlice 178 1 #[(0,.agg #[.string s7.2.1,.int .i64 s7.2.2.1])]) w14 (.v (.one .slc)) (fun (x20:SlT) w21=>RunK Tryz.prog (Builtin.append_ #[178,178] 178 #[.slice s7.1.1 s7.1.2.1 s7.1.2.2,.slice x20.1 x20.2.1 x20.2.2]) w21 (.v (.one .slc)) (fun (x22:SlT) w23=>J17 ((x22.1,x22.2.1,x22.2.2),(⟨#[]⟩:ByteArray),()) w23)))
 (J17 ((s7.1.1,s7.1.2.1,s7.1.2.2),s7.2.1,()) w14))
 (fun _ s18 w19=>ifB (x11==40)
 (ifB (x11==40)
 (RunK Tryz.prog (Instr.buildSlice 178 1 #[(0,.agg #[.string (Utf8.encode x11),.int .i64 (IntKind.i64.wrap (s7.2.2.2.1+1))])]) w19 (.v (.one .slc)) (fun (x24:SlT) w25=>RunK Tryz.prog (Builtin.append_ #[178,178] 178 #[.slice s18.1.1 s18.1.2.1 s18.1.2.2,.slice x24.1 x24.2.1 x24.2.2]) w25 (.v (.one .slc)) (fun (x26:SlT) w27=>next9 ((x26.1,x26.2.1,x26.2.2),s18.2.1,s7.2.2.1,IntKind.i64.wrap (s7.2.2.2.1+1),()) w27)))
 (ifB (x11==32)
 (next9 ((s18.1.1,s18.1.2.1,s18.1.2.2),s18.2.1,s7.2.2.1,IntKind.i64.wrap (s7.2.2.2.1+1),()) w19)
 (K (.tuple #[.slice none 0 0,.int .i64 (IntKind.i64.wrap (s7.2.2.2.1+1))]) w19)))
 (ifB (x11==41)
 (ifB (x11==41)
 (RunK Tryz.prog (Instr.buildSlice 178 1 #[(0,.agg #[.string (Utf8.encode x11),.int .i64 (IntKind.i64.wrap (s7.2.2.2.1+1))])]) w19 (.v (.one .slc)) (fun (x28:SlT) w29=>RunK Tryz.prog (Builtin.append_ #[178,178] 178 #[.slice s18.1.1 s18.1.2.1 s18.1.2.2,.slice x28.1 x28.2.1 x28.2.2]) w29 (.v (.one .slc)) (fun (x30:SlT) w31=>next9 ((x30.1,x30.2.1,x30.2.2),s18.2.1,s7.2.2.1,IntKind.i64.wrap (s7.2.2.2.1+1),()) w31)))
 (ifB (x11==32)
 (next9 ((s18.1.1,s18.1.2.1,s18.1.2.2),s18.2.1,s7.2.2.1,IntKind.i64.wrap (s7.2.2.2.1+1),()) w19)
 (K (.tuple #[.slice none 0 0,.int .i64 (IntKind.i64.wrap (s7.2.2.2.1+1))]) w19)))
 (ifB (x11==44)
 (RunK Tryz.prog (Instr.buildSlice 178 1 #[(0,.agg #[.string (Utf8.encode x11),.int .i64 (IntKind.i64.wrap (s7.2.2.2.1+1))])]) w19 (.v (.one .slc)) (fun (x32:SlT) w33=>RunK Tryz.prog (Builtin.append_ #[178,178] 178 #[.slice s18.1.1 s18.1.2.1 s18.1.2.2,.slice x32.1 x32.2.1 x32.2.2]) w33 (.v (.one .slc)) (fun (x34:SlT) w35=>next9 ((x34.1,x34.2.1,x34.2.2),s18.2.1,s7.2.2.1,IntKind.i64.wrap (s7.2.2.2.1+1),()) w35)))
 (ifB (x11==32)
 (next9 ((s18.1.1,s18.1.2.1,s18.1.2.2),s18.2.1,s7.2.2.1,IntKind.i64.wrap (s7.2.2.2.1+1),()) w19)
 (K (.tuple #[.slice none 0 0,.int .i64 (IntKind.i64.wrap (s7.2.2.2.1+1))]) w19))))))))))
 (K (.tuple #[.slice s7.1.1 s7.1.2.1 s7.1.2.2,.int .i64 0]) w8))
 ((none,0,0),(⟨#[]⟩:ByteArray),0,0,()) w6)))
def pl100:Plan:=(.seq .auto (.seq .auto (.seq .auto (.seq .auto (.seq (.seq .auto (.block (.loop [(4,.one .slc),(5,.one .str),(6,.one (.int .i64)),(14,.one (.int .i64))] (.seq .auto (.seq .auto (.seq (.block (.seq .auto (.seq (.join [(24,.one .bool)] .auto .auto) (.join [(4,.one .slc),(5,.one .str)] .auto .auto)))) .auto)))))) .auto)))))
theorem c100 (p0:ByteArray) (w:World) (K:Value→World→Prop) (h:C100 p0 w K):Ret Tryz.prog 100 #[.string p0] w K:=z0z (by kernel_rfl) Tryz.func100 (p:=pl100) (Eq.mpr (by kernel_rfl) h)
theorem elem_signR:ElemOk Tryz.prog 178 245 2 (.agg #[.string ByteArray.empty,.int .i64 0]) 24:=⟨Tryz.underlying178,⟨Tryz.t245,by kernel_rfl,rfl,rfl,rfl⟩,rfl,by decide⟩
structure IsSgR (w:World) (v:Sl) (l:List SignV):Prop where
 sl:IsSl w 245 2 v (signCells l)
 len:v.2.1=l.length
theorem IsSgR.keep {w w':World} {v:Sl} {l:List SignV} (h:IsSgR w v l) {S:Nat→Prop} (f:Fr S w w') (hn:∀ k,blkOf v k→¬ S k):IsSgR w' v l:=⟨h.sl.keep f hn,h.len⟩
theorem IsSgR.keep0 {w w':World} {v:Sl} {l:List SignV} (h:IsSgR w v l) (f:Fr none1 w w'):IsSgR w' v l:=h.keep f (fun _ _ t=>t)
theorem none_sgR (w:World):IsSgR w (none,0,0) []:=⟨.inl ⟨rfl,rfl⟩,rfl⟩
theorem sg_snocR {w:World} {v:Sl} {l:List SignV} (h:IsSgR w v l) (x:List UInt8) (at_:Int) (hl:l.length≤10000000) {K:Sl→World→Prop}
  (hK:∀ y w',IsSgR w' y (l++[(x,at_)])→Fr (blkOf v) w w'→(∀ k,blkOf y k→blkOf v k∨w.heap.size≤k)→K y w') :
  RunK Tryz.prog (Instr.buildSlice 178 1 #[(0,.agg #[.string (str x),.int .i64 at_])]) w (.v (.one .slc)) fun (y:Option Addr×Nat×Nat) w'=>
   RunK Tryz.prog (Builtin.append_ #[178,178] 178 #[.slice v.1 v.2.1 v.2.2,.slice y.1 y.2.1 y.2.2]) w' (.v (.one .slc)) fun (u:Option Addr×Nat×Nat) w''=>K u w'':=by
 obtain ⟨y,w1,r1,hy,hyl,f1,yf⟩:=z55z (w:=w) elem_signR 1 #[(0,.agg #[.string (str x),.int .i64 at_])] #[.string (str x),.int .i64 at_] (by omega) (by
  simp [Instr.fill,Value.cells]
  refine Array.ext (by simp) fun i h1 h2=>?_
  have:i=0∨i=1:=by simp at h2;omega
  rcases this with t | t<;>subst t<;>simp) rfl
 refine ⟨y,w1,r1,?_⟩
 have hvl:=h.len
 obtain ⟨z,w2,r2,hz,hzl,f2,zf⟩:=append_ok elem_signR 178 (h.sl.keep0 f1) hy.rd (by intro v hv;simp at hv;rcases hv with rfl | rfl<;>rfl) (by rw [hyl,hvl];omega)
 refine ⟨z,w2,r2,hK z w2 ⟨?_,?_⟩ (f1.of0 f2) fun k hk=>?_⟩
 ·rw [z54z];exact hz
 ·rw [hzl,hyl,hvl,List.length_append];rfl
 ·rcases zf k hk with t | t
  ·exact .inl t
  ·exact .inr (Nat.le_trans f1.size t)
theorem sg_ldR {w:World} {v:Sl} {l:List SignV} (h:IsSgR w v l) {i:Int} (h0:0≤i) (h1:i<v.2.1) {x:SignV} (hx:l[i.toNat]? = some x) {K:Addr→Prop}
  (hK:∀ a:Addr,(∀ (K:ByteArray→Prop),K (str x.1)→LdK .str (a.add 0) w K)→(∀ (K:Int→Prop),K x.2→LdK (.int .i64) (a.add 1) w K)→(∀ (K:ByteArray×Int×Unit→Prop),K (str x.1,x.2,())→LdsK [.str,.int .i64] a w K)→K a):IdxK v.1 v.2.1 i 2 K:=by
 obtain ⟨hs,hl⟩:=h
 obtain ⟨c1,c2⟩:=signCells_at l i.toNat x hx
 rcases hs with ⟨rfl,hnil⟩ | ⟨g,off,cs,hv,hb,hle,hc,hn,he⟩
 ·dsimp only at h1;omega
 ·refine ⟨_,hv,h0,h1,?_⟩
  rw [z2z]
  have hlen:=z14z l
  have hi:i.toNat<l.length:=by omega
  have e0:w.cell? (⟨g,off+i.toNat * 2,none⟩:Addr)=some (.string (str x.1)):=by
   rw [z27z hb,he _ (by omega)];exact c1
  have e1:w.cell? (⟨g,off+i.toNat * 2+1,none⟩:Addr)=some (.int .i64 x.2):=by
   rw [z27z hb,show off+i.toNat * 2+1=off+(i.toNat * 2+1) by omega,he _ (by omega)];exact c2
  have a0:((⟨g,off+i.toNat * 2,none⟩:Addr).add 0)=⟨g,off+i.toNat * 2,none⟩:=by rw [z2z];rfl
  have a1:((⟨g,off+i.toNat * 2,none⟩:Addr).add 1)=⟨g,off+i.toNat * 2+1,none⟩:=by rw [z2z]
  refine hK _ (fun K k=>LdK.cell (by rw [a0];exact e0) k) (fun K k=>LdK.cell (by rw [a1];exact e1) k) (fun K k=>⟨_,⟨by rw [a0];exact e0,by rw [a1];exact e1,trivial⟩,k⟩)
theorem take1 {s:List UInt8} (h:0<s.length):s.take 1=[45]↔(s.getD 0 0).toNat=45:=by
 cases s with
 | nil=>simp at h
 | cons x s=>
  constructor
  ·intro t
   have:x=45:=by simpa using t
   rw [this];rfl
  ·intro t
   have:x=45:=UInt8.toNat_inj.1 t
   rw [this];rfl
theorem refnum_spec (s : List UInt8) (hl : s.length ≤ 100000) (w : World) : Ret Tryz.prog 158 #[.string (str s)] w fun r w' => r = .tuple #[.int .i64 (numF s).1, .bool (numF s).2] ∧ Fr none1 w w' := by
  refine c158 _ w _ ?_
  unfold C158
  have F0 : Fr none1 w w := Fr.refl _ _
  refine JoinK.of (fun q w' => q.1 = decide (s.take 1 = [45]) ∧ w = w') ?_ ?_
  · rw [z1z]
    refine ifB.dec (fun h => ?_) (fun h => ?_)
    · refine strk_ok (by omega) (by omega) ⟨?_, rfl⟩
      rw [show (0 : Int).toNat = 0 from rfl]
      have := take1 (s := s) (by omega)
      by_cases t : s.take 1 = [45]
      · rw [decide_eq_true t]; have := this.1 t; simp only [beq_iff_eq]; omega
      · rw [decide_eq_false t]; simp only [beq_eq_false_iff_ne]; intro q; exact t (this.2 (by omega))
    · refine ⟨?_, rfl⟩
      have : s = [] := List.eq_nil_of_length_eq_zero (by omega)
      rw [this]; rfl
  rintro _ ⟨neg, _⟩ _ ⟨hneg, rfl⟩
  dsimp only at hneg ⊢
  subst hneg
  refine JoinK.of (fun q w' => q.1 = str (noMinus s) ∧ w = w') ?_ ?_
  · unfold noMinus
    refine ifB.dec (fun h => ?_) (fun h => ?_)
    · rw [if_pos h]
      have hl1 : 1 ≤ s.length := by
        have := congrArg List.length h
        rw [List.length_take] at this
        simp only [List.length_cons, List.length_nil] at this
        omega
      refine subs_ok (by omega) (by rw [z1z]; omega) (by rw [z1z]; omega) ⟨?_, rfl⟩
      rw [z1z, List.take_of_length_le (by simp)]
      rfl
    · rw [if_neg h]; exact ⟨rfl, rfl⟩
  rintro _ ⟨q, _⟩ _ ⟨hq, rfl⟩
  dsimp only at hq ⊢
  subst hq
  have hdl : (noMinus s).length ≤ s.length := by unfold noMinus; split <;> simp
  have hneg : s.take 1 = [45] → s ≠ [48] := fun t q => by rw [q] at t; simp at t
  have hpos : s.take 1 ≠ [45] → noMinus s = s := fun t => by unfold noMinus; rw [if_neg t]
  obtain ⟨d, hd⟩ : ∃ d, noMinus s = d := ⟨_, rfl⟩
  unfold numF
  rw [hd] at hdl hpos ⊢
  rw [z1z]
  refine JoinK.of (fun q w' => w = w' ∧ (q.1 = true → d = [] ∨ 13 < d.length ∨ (d.getD 0 0 = 48 ∧ s ≠ [48])) ∧ (q.1 = false → d ≠ [] ∧ d.length ≤ 13 ∧ (d.getD 0 0 = 48 → s = [48]))) ?_ ?_
  · refine ifB.dec (fun h => ?_) (fun h => ?_)
    · exact ⟨rfl, fun _ => .inl (List.eq_nil_of_length_eq_zero (by omega)), fun t => by cases t⟩
    refine ifB.dec (fun h2 => ?_) (fun h2 => ?_)
    · exact ⟨rfl, fun _ => .inr (.inl (by omega)), fun t => by cases t⟩
    have hne : d ≠ [] := fun t => by rw [t] at h; simp at h
    refine strk_ok (by omega) (by omega) ?_
    rw [show (0 : Int).toNat = 0 from rfl]
    refine ifB.eq (fun h48 => ?_) (fun h48 => ?_)
    · have h48' : d.getD 0 0 = 48 := UInt8.toNat_inj.1 (by have : (48 : UInt8).toNat = 48 := rfl
                                                           omega)
      refine ifB.dec (fun h1 => ?_) (fun h1 => ?_)
      · refine ⟨rfl, fun _ => .inr (.inr ⟨h48', fun t => ?_⟩), fun t => by cases t⟩
        rw [t] at hdl
        simp only [List.length_cons, List.length_nil] at hdl
        omega
      · refine ⟨rfl, fun t => .inr (.inr ⟨h48', hneg (of_decide_eq_true t)⟩), fun t => ⟨hne, by omega, fun _ => ?_⟩⟩
        have e := hpos (of_decide_eq_false t)
        rw [← e]
        match d, hne, h1, h48' with
        | [x], _, _, h48' => rw [show x = 48 from h48']
        | x :: y :: l, _, h1, _ => simp at h1; omega
    · refine ⟨rfl, (fun t => by cases t), fun _ => ⟨hne, by omega, fun t => absurd (by rw [t]; rfl) h48⟩⟩
  rintro _ ⟨q, _⟩ _ ⟨rfl, hqt, hqf⟩
  dsimp only at hqt hqf ⊢
  refine ifB.by (fun hq => ?_) (fun hq => ?_)
  · rw [if_pos]
    · exact ⟨rfl, F0⟩
    rcases hqt hq with t | t | t
    · exact .inl t
    · exact .inr (.inl t)
    · exact .inr (.inr (.inr t))
  obtain ⟨hne, h13, h48⟩ := hqf hq
  refine LoopK.of (fun q w' => w = w' ∧ ∃ n : Nat, q.2.1 = n ∧ n ≤ d.length ∧ q.1 = valL (d.take n) ∧ ∀ c ∈ d.take n, isD c = true) (fun q _ => d.length - q.2.1.toNat) ⟨rfl, 0, rfl, by omega, rfl, by simp⟩ ?_
  rintro _ ⟨m, i, _⟩ _ ⟨rfl, n, hn, hnl, hm, hall⟩
  dsimp only at hn hm ⊢
  subst hn; subst hm
  refine ifB.dec (fun hlt => ?_) (fun hge => ?_)
  · have hmem : d.getD n 0 ∈ d := by rw [List.getD_eq_getElem?_getD, List.getElem?_eq_getElem (by omega)]; exact List.getElem_mem _
    have bad : isD (d.getD n 0) = false → ((.tuple #[.int .i64 0, .bool false] : Value) = .tuple #[.int .i64 (if d = [] ∨ 13 < d.length ∨ d.all isD = false ∨ (d.getD 0 0 = 48 ∧ s ≠ [48]) then ((0, false) : Int × Bool) else if 1000000000000 < valL d then (0, false) else (if s.take 1 = [45] then -(valL d) else valL d, true)).1, .bool (if d = [] ∨ 13 < d.length ∨ d.all isD = false ∨ (d.getD 0 0 = 48 ∧ s ≠ [48]) then ((0, false) : Int × Bool) else if 1000000000000 < valL d then (0, false) else (if s.take 1 = [45] then -(valL d) else valL d, true)).2] ∧ Fr none1 w w) := fun hb => by
      rw [if_pos]
      · exact ⟨rfl, F0⟩
      refine .inr (.inr (.inl ?_))
      cases ha : d.all isD with
      | false => rfl
      | true => rw [List.all_eq_true.1 ha _ hmem] at hb; cases hb
    refine strk_ok (by omega) (by omega) ?_
    rw [Int.toNat_natCast]
    refine ifB.dec (fun h1 => ?_) (fun h1 => ?_)
    · exact bad (by unfold isD; rw [decide_eq_false (by omega), Bool.false_and])
    refine strk_ok (by omega) (by omega) ?_
    rw [Int.toNat_natCast]
    refine ifB.dec (fun h2 => ?_) (fun h2 => ?_)
    · exact bad (by unfold isD; rw [decide_eq_false (p := (d.getD n 0).toNat ≤ 57) (by omega), Bool.and_false])
    refine strk_ok (by omega) (by omega) ?_
    rw [Int.toNat_natCast]
    have e1 : IntKind.u8.wrap (((d.getD n 0).toNat : Int) - 48) = ((d.getD n 0).toNat : Int) - 48 := by rw [IntKind.wrap_u8]; omega
    rw [e1, wI (x := ((d.getD n 0).toNat : Int) - 48) (by omega) (by omega)]
    have hall' : ∀ c ∈ d.take (n + 1), isD c = true := fun c hc => by
      rw [List.take_succ_eq_append_getElem (by omega)] at hc
      rcases List.mem_append.1 hc with hc | hc
      · exact hall c hc
      · simp only [List.mem_singleton] at hc
        rw [hc]
        have e : d[n] = d.getD n 0 := by rw [List.getD_eq_getElem?_getD, List.getElem?_eq_getElem (by omega)]; rfl
        rw [e]
        unfold isD
        rw [decide_eq_true (by omega), decide_eq_true (by omega)]; rfl
    obtain ⟨b1, b2⟩ := z43z (d.take n) hall (by rw [List.length_take]; omega)
    obtain ⟨b3, b4⟩ := z43z (d.take (n + 1)) hall' (by rw [List.length_take]; omega)
    have e2 : d.take (n + 1) = d.take n ++ [d.getD n 0] := by
      rw [List.take_succ_eq_append_getElem (by omega), List.getD_eq_getElem?_getD, List.getElem?_eq_getElem (by omega)]; rfl
    rw [e2, valL_snoc] at b3 b4
    rw [wI (x := 10 * valL (d.take n)) (by omega) (by omega), wI (x := 10 * valL (d.take n) + (((d.getD n 0).toNat : Int) - 48)) (by omega) (by omega), wI (x := (n : Int) + 1) (by omega) (by omega)]
    refine ⟨⟨rfl, n + 1, by omega, by omega, ?_, hall'⟩, by omega⟩
    rw [e2, valL_snoc]; omega
  · have : n = d.length := by omega
    subst this
    rw [List.take_length] at hall ⊢
    obtain ⟨b1, b2⟩ := z43z d hall (by omega)
    rw [if_neg]
    rotate_left
    · rintro (t | t | t | t)
      · exact hne t
      · omega
      · rw [List.all_eq_true.2 hall] at t; cases t
      · exact t.2 (h48 t.1)
    refine ifB.dec (fun h1 => ?_) (fun h1 => ?_)
    · rw [if_pos (by omega)]; exact ⟨rfl, F0⟩
    rw [if_neg (by omega)]
    refine ifB.dec (fun h2 => ?_) (fun h2 => ?_)
    · rw [if_pos h2, wI (x := 0 - valL d) (by omega) (by omega), Int.zero_sub]; exact ⟨rfl, F0⟩
    · rw [if_neg h2]; exact ⟨rfl, F0⟩
def rsF (out:List SignV) (word:List UInt8) (a i:Int):List Int→List SignV×Int
 | []=>(out,0)
 | r::rs=>if isLet r=true∨r=45 then rsF out (word++enc r) (if word=[] then i+1 else a) (i+1) rs else
   if r=40∨r=41∨r=44 then rsF ((if word=[] then out else out++[(word,a)])++[(enc r,i+1)]) [] a (i+1) rs else
   if r=32 then rsF (if word=[] then out else out++[(word,a)]) [] a (i+1) rs else ([],i+1)
theorem rsF_eq:∀ (R:List Int) (out:List SignV) (word:List UInt8) (a i:Int),rsF out word a i (R++[32])=sgF (if word=[] then out else out++[(word,a)]) i (!decide (word=[])) R
 | [],out,word,a,i=>by
  have h1:isLet 32=false:=rfl
  show rsF out word a i [32]=_
  unfold rsF
  rw [if_neg (by rw [h1];simp),if_neg (by omega),if_pos rfl]
  rfl
 | r::R,out,word,a,i=>by
  have ih:=rsF_eq R
  have hen:=enc_pos r
  have hr:rsF out word a i (r::R++[32])=if isLet r=true∨r=45 then rsF out (word++enc r) (if word=[] then i+1 else a) (i+1) (R++[32]) else
   if r=40∨r=41∨r=44 then rsF ((if word=[] then out else out++[(word,a)])++[(enc r,i+1)]) [] a (i+1) (R++[32]) else
   if r=32 then rsF (if word=[] then out else out++[(word,a)]) [] a (i+1) (R++[32]) else ([],i+1):=rfl
  have hs:∀ acc run,sgF acc i run (r::R)=if kd r=0 then ([],i+1) else if kd r=97∧run=true then sgF (addLast acc (enc r)) (i+1) true R else
   if kd r≠32 then sgF (acc++[(enc r,i+1)]) (i+1) (kd r==97) R else sgF acc (i+1) false R:=fun _ _=>rfl
  rw [hr,hs]
  by_cases hl:isLet r=true∨r=45
  ·have hk:kd r=97:=by
    unfold kd
    rcases hl with t | t
    ·rw [if_pos t]
    ·subst t;rfl
   rw [if_pos hl,hk,if_neg (show ¬ (97:Int)=0 by decide),ih]
   have hne:word++enc r≠[]:=by simp [hen]
   rw [if_neg hne,decide_eq_false hne]
   by_cases hw:word=[]
   ·subst hw
    rfl
   ·rw [if_neg hw,if_neg hw,decide_eq_false hw,if_pos (show (97:Int)=97∧(!false)=true from ⟨rfl,rfl⟩),addLast_of]
    rfl
  ·have hlf:¬ isLet r=true:=fun t=>hl (.inl t)
   have h45:¬ r=45:=fun t=>hl (.inr t)
   rw [if_neg hl]
   by_cases hs:r=40∨r=41∨r=44
   ·have hk:kd r=40:=by rcases hs with t | t | t<;>subst t<;>rfl
    rw [if_pos hs,hk,if_neg (show ¬ (40:Int)=0 by decide),if_neg (show ¬ ((40:Int)=97∧(!decide (word=[]))=true) from fun t=>absurd t.1 (by decide)),if_pos (show (40:Int)≠32 by decide),ih]
    rfl
   ·rw [if_neg hs]
    by_cases h32:r=32
    ·have hk:kd r=32:=by subst h32;rfl
     rw [if_pos h32,hk,if_neg (show ¬ (32:Int)=0 by decide),if_neg (show ¬ ((32:Int)=97∧(!decide (word=[]))=true) from fun t=>absurd t.1 (by decide)),if_neg (show ¬ (32:Int)≠32 by decide),ih]
     rfl
    ·have hk:kd r=0:=by
      unfold kd
      rw [if_neg hlf,if_neg h45,if_neg (fun t=>hs (.inl t)),if_neg (fun t=>hs (.inr (.inl t))),if_neg (fun t=>hs (.inr (.inr t))),if_neg h32]
     rw [if_neg h32,if_pos hk]
theorem rsigns_spec (bs:List UInt8) (hl:bs.length≤100000) (w:World):Ret Tryz.prog 100 #[.string (str bs)] w fun v w'=>
  ∃ sl:Sl,v=.tuple #[.slice sl.1 sl.2.1 sl.2.2,.int .i64 (sgF [] 0 false (runesL bs)).2]∧IsSgR w' sl (sgF [] 0 false (runesL bs)).1∧Fr none1 w w':=by
 refine c100 _ w _ ?_
 unfold C100
 have e0:(⟨#[]⟩:ByteArray)=str []:=rfl
 rw [e0]
 refine CallK.of (rrunes_spec bs (by omega) w) ?_
 rintro _ w1 ⟨v,rfl,hv,f1,hvf⟩
 refine ⟨v,rfl,?_⟩
 have hrl:=z37z bs
 have hok:=okR_runes bs
 have heq:=rsF_eq (runesL bs) [] [] 0 0
 rw [if_pos rfl] at heq
 have heq:rsF [] [] 0 0 (runesL bs++[32])=sgF [] 0 false (runesL bs):=heq
 rw [← heq]
 generalize runesL bs=R at *
 refine r_snoc hv 32 (by omega) fun x w2 hx f2 xf=>?_
 have fw2:Fr none1 w w2:=f1.comp f2 (fun k hk t=>by have:=hvf k t;omega)
 obtain ⟨L,hL⟩:∃ L,R++[32]=L:=⟨_,rfl⟩
 rw [hL] at hx heq ⊢
 have hxl:=hx.len
 have hLl:L.length≤100001:=by rw [← hL,List.length_append,List.length_singleton];omega
 have xlt:∀ k,blkOf x k→k<w2.heap.size:=fun k hk=>IsSl.lt hx hk
 refine LoopK.of (fun s w'=>∃ (n:Nat) (out:List SignV) (word:List UInt8),s.2.2.2.1=n∧n≤L.length∧s.2.1=str word∧word.length≤4 * n∧out.length≤2 * n∧IsSgR w' s.1 out∧(∀ k,blkOf s.1 k→w2.heap.size≤k)∧Fr none1 w2 w'∧rsF out word s.2.2.1 n (L.drop n)=rsF [] [] 0 0 L) (fun s _=>L.length - s.2.2.2.1.toNat)
  ⟨0,[],[],rfl,by omega,rfl,by simp,by simp,none_sgR _,(fun k ⟨a,ha,_⟩=>by cases ha),Fr.refl _ _,rfl⟩ ?_
 rintro _ ⟨l,ws,a,i,_⟩ w3 ⟨n,out,word,hn,hnl,hws,hwl,hol,hsl,hsf,f3,hst⟩
 dsimp only at hn hws hsl hsf hst ⊢
 subst hn;subst hws
 refine ifB.dec (fun hlt=>?_) (fun hge=>?_)
 rotate_left
 ·have:n=L.length:=by omega
  subst this
  rw [List.drop_length] at hst
  rw [← hst]
  exact ⟨l,rfl,hsl,fw2.trans f3⟩
 have hnL:n<L.length:=by omega
 have hx3:IsR w3 x L:=IsSl.keep0 hx f3
 refine hx3.ld (by omega) hlt ?_
 rw [Int.toNat_natCast]
 obtain ⟨r,hr⟩:∃ r,L.getD n 0=r:=⟨_,rfl⟩
 rw [hr]
 have hdr:L.drop n=r::L.drop (n+1):=by
  rw [List.drop_eq_getElem_cons hnL,← hr,List.getD_eq_getElem?_getD,List.getElem?_eq_getElem hnL];rfl
 rw [hdr] at hst
 have hunf:rsF out word a n (r::L.drop (n+1))=if isLet r=true∨r=45 then rsF out (word++enc r) (if word=[] then (n:Int)+1 else a) ((n:Int)+1) (L.drop (n+1)) else
   if r=40∨r=41∨r=44 then rsF ((if word=[] then out else out++[(word,a)])++[(enc r,(n:Int)+1)]) [] a ((n:Int)+1) (L.drop (n+1)) else
   if r=32 then rsF (if word=[] then out else out++[(word,a)]) [] a ((n:Int)+1) (L.drop (n+1)) else ([],(n:Int)+1):=rfl
 rw [hunf] at hst
 have hel:=enc_len r
 rw [wI (x:=(n:Int)+1) (by omega) (by omega)]
 refine JoinK.of (fun q w'=>w3=w'∧(q.1=true↔(isLet r=true∨r=45))) ?_ ?_
 ·refine CallK.of (rletter_spec r w3) ?_
  rintro _ _ ⟨rfl,rfl⟩
  refine ⟨_,rfl,?_⟩
  refine ifB.by (fun h=>?_) (fun h=>?_)
  ·exact ⟨rfl,fun _=>.inl h,fun _=>rfl⟩
  ·exact ⟨rfl,fun t=>.inr (by simpa using t),fun t=>t.elim (fun t=>by rw [h] at t;cases t) (fun t=>by simpa using t)⟩
 rintro _ ⟨q,_⟩ _ ⟨rfl,hq⟩
 dsimp only at hq ⊢
 refine ifB.by (fun hqt=>?_) (fun hqf=>?_)
 ·rw [if_pos (hq.1 hqt)] at hst
  rw [str_beq,enc_str]
  have cat:∀ K:Prop,K→CatK (str word) (str (enc r)) K:=fun K k=>⟨by rw [z1z,z1z];show ((word.length+(enc r).length:Nat):Int)≤9223372036854775807;omega,k⟩
  refine ifB.dec (fun hw=>?_) (fun hw=>?_)
  ·refine cat _ ?_
   rw [if_pos hw] at hst
   rw [str_app]
   exact ⟨⟨n+1,out,_,by omega,by omega,rfl,by simp only [List.length_append];omega,by omega,hsl,hsf,f3,hst⟩,by omega⟩
  ·refine cat _ ?_
   rw [if_neg hw] at hst
   rw [str_app]
   exact ⟨⟨n+1,out,_,by omega,by omega,rfl,by simp only [List.length_append];omega,by omega,hsl,hsf,f3,hst⟩,by omega⟩
 have hq':¬ (isLet r=true∨r=45):=fun t=>by rw [hq.2 t] at hqf;cases hqf
 rw [if_neg hq'] at hst
 obtain ⟨out',hout⟩:∃ o,(if word=[] then out else out++[(word,a)])=o:=⟨_,rfl⟩
 rw [hout] at hst
 have hol':out'.length≤2 * n+1:=by
  rw [← hout]
  split
  ·omega
  ·simp only [List.length_append,List.length_singleton];omega
 refine JoinK.of (fun q w'=>q.2.1=str []∧IsSgR w' q.1 out'∧(∀ k,blkOf q.1 k→w2.heap.size≤k)∧Fr none1 w2 w') ?_ ?_
 ·rw [str_beq]
  refine ifB.by (fun hw=>?_) (fun hw=>?_)
  ·have hw':word≠[]:=by simpa using hw
   rw [if_neg hw'] at hout
   refine sg_snocR hsl word a (by omega) fun y w4 hy f4 yf=>?_
   refine ⟨rfl,by rw [← hout];exact hy,fun k hk=>?_,f3.comp f4 (fun k hk t=>by have:=hsf k t;omega)⟩
   rcases yf k hk with t | t
   ·exact hsf k t
   ·exact Nat.le_trans f3.size t
  ·have hw':word=[]:=by simpa using hw
   rw [if_pos hw'] at hout
   exact ⟨by rw [hw'],by rw [← hout];exact hsl,hsf,f3⟩
 rintro _ ⟨l',ws,_⟩ w4 ⟨hws,hsl4,hsf4,f4⟩
 dsimp only at hws hsl4 hsf4 ⊢
 subst hws
 have sign:(r=40∨r=41∨r=44)→RunK Tryz.prog (Instr.buildSlice 178 1 #[(0,.agg #[.string (Utf8.encode r),.int .i64 ((n:Int)+1)])]) w4 (.v (.one .slc)) (fun (x24:Option Addr×Nat×Nat) w25=>RunK Tryz.prog (Builtin.append_ #[178,178] 178 #[.slice l'.1 l'.2.1 l'.2.2,.slice x24.1 x24.2.1 x24.2.2]) w25 (.v (.one .slc)) (fun (x26:Option Addr×Nat×Nat) w27=>
   (∃ (m:Nat) (out:List SignV) (word:List UInt8),(n:Int)+1=m∧m≤L.length∧str []=str word∧word.length≤4 * m∧out.length≤2 * m∧IsSgR w27 (x26.1,x26.2.1,x26.2.2) out∧(∀ k,blkOf (x26.1,x26.2.1,x26.2.2) k→w2.heap.size≤k)∧Fr none1 w2 w27∧rsF out word a m (L.drop m)=rsF [] [] 0 0 L)∧L.length - ((n:Int)+1).toNat<L.length - (n:Int).toNat)):=fun hs=>by
  rw [if_pos hs] at hst
  rw [enc_str]
  refine sg_snocR hsl4 (enc r) ((n:Int)+1) (by omega) fun y w5 hy f5 yf=>?_
  refine ⟨⟨n+1,_,[],by omega,by omega,rfl,by simp,by simp only [List.length_append,List.length_singleton];omega,hy,fun k hk=>?_,f4.comp f5 (fun k hk t=>by have:=hsf4 k t;omega),hst⟩,by omega⟩
  rcases yf k hk with t | t
  ·exact hsf4 k t
  ·exact Nat.le_trans f4.size t
 have blank:¬ (r=40∨r=41∨r=44)→ifB (r==32) ((∃ (m:Nat) (out:List SignV) (word:List UInt8),(n:Int)+1=m∧m≤L.length∧str []=str word∧word.length≤4 * m∧out.length≤2 * m∧IsSgR w4 (l'.1,l'.2.1,l'.2.2) out∧(∀ k,blkOf (l'.1,l'.2.1,l'.2.2) k→w2.heap.size≤k)∧Fr none1 w2 w4∧rsF out word a m (L.drop m)=rsF [] [] 0 0 L)∧L.length - ((n:Int)+1).toNat<L.length - (n:Int).toNat)
   (∃ sl:Sl,(.tuple #[.slice none 0 0,.int .i64 ((n:Int)+1)]:Value)=.tuple #[.slice sl.1 sl.2.1 sl.2.2,.int .i64 (rsF [] [] 0 0 L).2]∧IsSgR w4 sl (rsF [] [] 0 0 L).1∧Fr none1 w w4):=fun hs=>by
  rw [if_neg hs] at hst
  refine ifB.eq (fun h32=>?_) (fun h32=>?_)
  ·rw [if_pos h32] at hst
   exact ⟨⟨n+1,_,[],by omega,by omega,rfl,by simp,by omega,hsl4,hsf4,f4,hst⟩,by omega⟩
  ·rw [if_neg h32] at hst
   rw [← hst]
   exact ⟨(none,0,0),rfl,none_sgR _,fw2.trans f4⟩
 refine ifB.eq (fun h40=>?_) (fun h40=>?_)
 ·exact ifB.t (by simpa using h40) (sign (.inl h40))
 refine ifB.eq (fun h41=>?_) (fun h41=>?_)
 ·exact ifB.t (by simpa using h41) (sign (.inr (.inl h41)))
 refine ifB.eq (fun h44=>?_) (fun h44=>?_)
 ·exact sign (.inr (.inr h44))
 ·exact blank (fun t=>by rcases t with t | t | t;exact h40 t;exact h41 t;exact h44 t)
def C140 (p0:Addr) (w:World) (K:Value→World→Prop):Prop:=
 DrewK w (fun w1=>LdK (.int .i64) (p0.add 1) w1 (fun (x2:Int)=>LdK .slc (p0.add 0) w1 (fun (x3:SlT)=>ifB (decide (x2<(x3.2.1:Int)))
 (DrewK w1 (fun w4=>LdK .slc (p0.add 0) w4 (fun (x5:SlT)=>LdK (.int .i64) (p0.add 1) w4 (fun (x6:Int)=>IdxK x5.1 x5.2.1 x6 2 (fun a7=>LdK (.int .i64) (a7.add 1) w4 (fun (x8:Int)=>K (.int .i64 x8) w4))))))
 (LdK (.int .i64) (p0.add 2) w1 (fun (x9:Int)=>K (.int .i64 x9) w1)))))
def pl140:Plan:=(.seq .auto (.seq (.seq .still (.cond (.seq .still .auto) .auto)) .auto))
theorem c140 (p0:Addr) (w:World) (K:Value→World→Prop) (h:C140 p0 w K):Ret Tryz.prog 140 #[.pointer (some p0)] w K:=z0z (by kernel_rfl) Tryz.func140 (p:=pl140) (Eq.mpr (by kernel_rfl) h)
def C103 (p0:Addr) (p1:Int) (w:World) (K:Value→World→Prop):Prop:=
 LdK (.int .i64) (p0.add 4) w (fun (x1:Int)=>ifB (x1==0)
 (CallK Tryz.prog 140 #[.pointer (some p0)] w (.v (.one (.int .i64))) (fun (x2:Int) w3=>StK (p0.add 3) (.int .i64 x2) w3 (fun w4=>StK (p0.add 4) (.int .i64 p1) w4 (fun w5=>K (.tuple #[]) w5))))
 (K (.tuple #[]) w))
def pl103:Plan:=.auto
theorem c103 (p0:Addr) (p1:Int) (w:World) (K:Value→World→Prop) (h:C103 p0 p1 w K):Ret Tryz.prog 103 #[.pointer (some p0),.int .i64 p1] w K:=z0z (by kernel_rfl) Tryz.func103 (p:=pl103) (Eq.mpr (by kernel_rfl) h)
def C135 (p0:Addr) (w:World) (K:Value→World→Prop):Prop:=
 DrewK w (fun w1=>LdK (.int .i64) (p0.add 1) w1 (fun (x2:Int)=>LdK .slc (p0.add 0) w1 (fun (x3:SlT)=>ifB (decide (x2 ≥ (x3.2.1:Int)))
 (K (.string (⟨#[]⟩:ByteArray)) w1)
 (LdK (.int .i64) (p0.add 4) w1 (fun (x4:Int)=>ifB (x4 != 0)
 (K (.string (⟨#[]⟩:ByteArray)) w1)
 (DrewK w1 (fun w5=>LdK .slc (p0.add 0) w5 (fun (x6:SlT)=>LdK (.int .i64) (p0.add 1) w5 (fun (x7:Int)=>IdxK x6.1 x6.2.1 x7 2 (fun a8=>LdK .str (a8.add 0) w5 (fun (x9:ByteArray)=>K (.string x9) w5)))))))))))
def pl135:Plan:=(.seq .auto (.seq (.seq .still .auto) (.seq .still .auto)))
theorem c135 (p0:Addr) (w:World) (K:Value→World→Prop) (h:C135 p0 w K):Ret Tryz.prog 135 #[.pointer (some p0)] w K:=z0z (by kernel_rfl) Tryz.func135 (p:=pl135) (Eq.mpr (by kernel_rfl) h)
def C138 (p0:Addr) (p1:ByteArray) (w:World) (K:Value→World→Prop):Prop:=
 CallK Tryz.prog 135 #[.pointer (some p0)] w (.v (.one .str)) (fun (x1:ByteArray) w2=>ifB (!(x1.toList==p1.toList))
 (CallK Tryz.prog 103 #[.pointer (some p0),.int .i64 2] w2 (.tup []) (fun (x3:Unit) w4=>K (.tuple #[]) w4))
 (LdK (.int .i64) (p0.add 1) w2 (fun (x5:Int)=>StK (p0.add 1) (.int .i64 (IntKind.i64.wrap (x5+1))) w2 (fun w6=>K (.tuple #[]) w6))))
def pl138:Plan:=.auto
theorem c138 (p0:Addr) (p1:ByteArray) (w:World) (K:Value→World→Prop) (h:C138 p0 p1 w K):Ret Tryz.prog 138 #[.pointer (some p0),.string p1] w K:=z0z (by kernel_rfl) Tryz.func138 (p:=pl138) (Eq.mpr (by kernel_rfl) h)
def C139 (p0:Addr) (w:World) (K:Value→World→Prop):Prop:=
 CallK Tryz.prog 135 #[.pointer (some p0)] w (.v (.one .str)) (fun (x1:ByteArray) w2=>CallK Tryz.prog 88 #[.string x1] w2 (.v (.one .bool)) (fun (x3:Bool) w4=>ifB (!x3)
 (CallK Tryz.prog 103 #[.pointer (some p0),.int .i64 2] w4 (.tup []) (fun (x5:Unit) w6=>K (.string (⟨#[]⟩:ByteArray)) w6))
 (LdK (.int .i64) (p0.add 1) w4 (fun (x7:Int)=>StK (p0.add 1) (.int .i64 (IntKind.i64.wrap (x7+1))) w4 (fun w8=>K (.string x1) w8)))))
def pl139:Plan:=.auto
theorem c139 (p0:Addr) (w:World) (K:Value→World→Prop) (h:C139 p0 w K):Ret Tryz.prog 139 #[.pointer (some p0)] w K:=z0z (by kernel_rfl) Tryz.func139 (p:=pl139) (Eq.mpr (by kernel_rfl) h)
def C137 (p0:Addr) (p1:Bool) (w:World) (K:Value→World→Prop):Prop:=
 CallK Tryz.prog 135 #[.pointer (some p0)] w (.v (.one .str)) (fun (x1:ByteArray) w2=>CallK Tryz.prog 158 #[.string x1] w2 (.tup [.one (.int .i64),.one .bool]) (fun (x3:Int×Bool×Unit) w4=>JoinK (Bool×Unit) (fun J5=>ifB (!x3.2.1)
 (J5 (true,()) w4)
 (ifB p1
 (ifB (decide (x3.1<0))
 (J5 (true,()) w4)
 (J5 (decide (x3.1 > 10000),()) w4))
 (J5 (false,()) w4)))
 (fun _ s6 w7=>ifB s6.1
 (CallK Tryz.prog 103 #[.pointer (some p0),.int .i64 2] w7 (.tup []) (fun (x8:Unit) w9=>K (.int .i64 0) w9))
 (LdK (.int .i64) (p0.add 1) w7 (fun (x10:Int)=>StK (p0.add 1) (.int .i64 (IntKind.i64.wrap (x10+1))) w7 (fun w11=>K (.int .i64 x3.1) w11))))))
def pl137:Plan:=(.seq .auto (.seq .auto (.seq (.join [(25,.one .bool)] .auto .auto) .auto)))
theorem c137 (p0:Addr) (p1:Bool) (w:World) (K:Value→World→Prop) (h:C137 p0 p1 w K):Ret Tryz.prog 137 #[.pointer (some p0),.bool p1] w K:=z0z (by kernel_rfl) Tryz.func137 (p:=pl137) (Eq.mpr (by kernel_rfl) h)
def C102 (p0:Addr) (p1:Bool) (p2:Int) (w:World) (K:Value→World→Prop):Prop:=
 NewK (.cells #[.int .i64 0,.string (⟨#[]⟩:ByteArray),.int .i64 0,.slice none 0 0] 41) w (fun g1 w2=>JoinK (Unit) (fun J3=>ifB (decide (p2 > 12))
 (CallK Tryz.prog 103 #[.pointer (some p0),.int .i64 5] w2 (.tup []) (fun (x6:Unit) w7=>J3 (()) w7))
 (J3 (()) w2))
 (fun _ s4 w5=>CallK Tryz.prog 135 #[.pointer (some p0)] w5 (.v (.one .str)) (fun (x8:ByteArray) w9=>CallK Tryz.prog 136 #[.string x8,.bool p1] w9 (.v (.one (.int .i64))) (fun (x10:Int) w11=>JoinK (Bool×Unit) (fun J12=>ifB (x10==0)
 (J12 (p1,()) w11)
 (J12 (false,()) w11))
 (fun _ s13 w14=>ifB s13.1
 (CallK Tryz.prog 137 #[.pointer (some p0),.bool false] w14 (.v (.one (.int .i64))) (fun (x15:Int) w16=>StsK (ad g1) [.int .i64 11,.string (⟨#[]⟩:ByteArray),.int .i64 x15,.slice none 0 0] w16 (fun w17=>LdsK KZ3 (ad g1) w17 (fun (x18:YZ3)=>K (.agg (LZ3 x18).toArray) w17))))
 (ifB (x10==0)
 (CallK Tryz.prog 103 #[.pointer (some p0),.int .i64 2] w14 (.tup []) (fun (x19:Unit) w20=>StsK (ad g1) [.int .i64 0,.string (⟨#[]⟩:ByteArray),.int .i64 0,.slice none 0 0] w20 (fun w21=>LdsK KZ3 (ad g1) w21 (fun (x22:YZ3)=>K (.agg (LZ3 x22).toArray) w21))))
 (LdK (.int .i64) (p0.add 1) w14 (fun (x23:Int)=>StK (p0.add 1) (.int .i64 (IntKind.i64.wrap (x23+1))) w14 (fun w24=>NewK (.cells #[.int .i64 0,.string (⟨#[]⟩:ByteArray),.int .i64 0,.slice none 0 0] 41) w24 (fun g25 w26=>StsK (ad g25) [.int .i64 x10,.string (⟨#[]⟩:ByteArray),.int .i64 0,.slice none 0 0] w26 (fun w27=>ifB (x10==1)
 (LdsK KZ3 (ad g25) w27 (fun (x28:YZ3)=>StsK (ad g1) (LZ3 x28) w27 (fun w29=>LdsK KZ3 (ad g1) w29 (fun (x30:YZ3)=>K (.agg (LZ3 x30).toArray) w29))))
 (CallK Tryz.prog 138 #[.pointer (some p0),.string (⟨#[40]⟩:ByteArray)] w27 (.tup []) (fun (x31:Unit) w32=>NewK (.map #[] 0) w32 (fun g33 w34=>RunU Tryz.prog (Instr.mapUpdate 250 (.map (some g33)) (.int .i64 3) (.int .i64 1)) w34 (fun w35=>RunU Tryz.prog (Instr.mapUpdate 250 (.map (some g33)) (.int .i64 4) (.int .i64 2)) w35 (fun w36=>RunU Tryz.prog (Instr.mapUpdate 250 (.map (some g33)) (.int .i64 5) (.int .i64 2)) w36 (fun w37=>RunU Tryz.prog (Instr.mapUpdate 250 (.map (some g33)) (.int .i64 6) (.int .i64 2)) w37 (fun w38=>RunU Tryz.prog (Instr.mapUpdate 250 (.map (some g33)) (.int .i64 7) (.int .i64 1)) w38 (fun w39=>RunU Tryz.prog (Instr.mapUpdate 250 (.map (some g33)) (.int .i64 8) (.int .i64 3)) w39 (fun w40=>RunU Tryz.prog (Instr.mapUpdate 250 (.map (some g33)) (.int .i64 13) (.int .i64 2)) w40 (fun w41=>RunU Tryz.prog (Instr.mapUpdate 250 (.map (some g33)) (.int .i64 14) (.int .i64 1)) w41 (fun w42=>RunU Tryz.prog (Instr.mapUpdate 250 (.map (some g33)) (.int .i64 15) (.int .i64 2)) w42 (fun w43=>RunU Tryz.prog (Instr.mapUpdate 250 (.map (some g33)) (.int .i64 16) (.int .i64 2)) w43 (fun w44=>RunK Tryz.prog (Instr.lookup 250 (.map (some g33)) (.int .i64 x10) false) w44 (.v (.one (.int .i64))) (fun (x45:Int) w46=>JoinK (Unit) (fun J47=>JoinK (Bool×Unit) (fun J50=>ifB (x10==2)
 (J50 ((x10==2),()) w46)
 (ifB (x10==5)
 (J50 ((x10==5),()) w46)
 (J50 ((x10==12),()) w46)))
 (fun _ s51 w52=>ifB s51.1
 (CallK Tryz.prog 139 #[.pointer (some p0)] w52 (.v (.one .str)) (fun (x53:ByteArray) w54=>StK ((ad g25).add 1) (.string x53) w54 (fun w55=>J47 (()) w55)))
 (ifB (x10==7)
 (CallK Tryz.prog 137 #[.pointer (some p0),.bool true] w52 (.v (.one (.int .i64))) (fun (x56:Int) w57=>StK ((ad g25).add 2) (.int .i64 x56) w57 (fun w58=>J47 (()) w58)))
 (J47 (()) w52))))
 (fun _ s48 w49=>LoopK (Int×Unit) (fun _ s59 w60 next61=>ifB (decide (s59.1<x45))
 (LdK (.int .i64) (p0.add 4) w60 (fun (x62:Int)=>ifB (x62==0)
 (JoinK (Bool×Unit) (fun J63=>ifB (decide (s59.1 > 0))
 (J63 (true,()) w60)
 (ifB (x10==5)
 (J63 (true,()) w60)
 (J63 ((x10==7),()) w60)))
 (fun _ s64 w65=>ifB s64.1
 (CallK Tryz.prog 138 #[.pointer (some p0),.string (⟨#[44]⟩:ByteArray)] w65 (.tup []) (fun (x66:Unit) w67=>DrewK w67 (fun w68=>HoldK (fun S69=>InK S69 ((ad g25).add 3) (LdK .slc ((ad g25).add 3) w68 (fun (x70:SlT)=>ifB p1
 (CallK Tryz.prog 102 #[.pointer (some p0),.bool true,.int .i64 (IntKind.i64.wrap (p2+1))] w68 (.v (.agg KZ3)) (fun (x71:YZ3) w72=>KeepK S69 w68 w72 (RunK Tryz.prog (Instr.buildSlice 39 1 #[(0,.agg (LZ3 x71).toArray)]) w72 (.v (.one .slc)) (fun (x73:SlT) w74=>KeepK S69 w72 w74 (RunK Tryz.prog (Builtin.append_ #[39,39] 39 #[.slice x70.1 x70.2.1 x70.2.2,.slice x73.1 x73.2.1 x73.2.2]) w74 (.v (.one .slc)) (fun (x75:SlT) w76=>StK ((ad g25).add 3) (.slice x75.1 x75.2.1 x75.2.2) w76 (fun w77=>next61 (IntKind.i64.wrap (s59.1+1),()) w77)))))))
 (ifB (s59.1==0)
 (ifB (x10==6)
 (CallK Tryz.prog 102 #[.pointer (some p0),.bool true,.int .i64 (IntKind.i64.wrap (p2+1))] w68 (.v (.agg KZ3)) (fun (x78:YZ3) w79=>KeepK S69 w68 w79 (RunK Tryz.prog (Instr.buildSlice 39 1 #[(0,.agg (LZ3 x78).toArray)]) w79 (.v (.one .slc)) (fun (x80:SlT) w81=>KeepK S69 w79 w81 (RunK Tryz.prog (Builtin.append_ #[39,39] 39 #[.slice x70.1 x70.2.1 x70.2.2,.slice x80.1 x80.2.1 x80.2.2]) w81 (.v (.one .slc)) (fun (x82:SlT) w83=>StK ((ad g25).add 3) (.slice x82.1 x82.2.1 x82.2.2) w83 (fun w84=>next61 (IntKind.i64.wrap (s59.1+1),()) w84)))))))
 (CallK Tryz.prog 102 #[.pointer (some p0),.bool (x10==8),.int .i64 (IntKind.i64.wrap (p2+1))] w68 (.v (.agg KZ3)) (fun (x85:YZ3) w86=>KeepK S69 w68 w86 (RunK Tryz.prog (Instr.buildSlice 39 1 #[(0,.agg (LZ3 x85).toArray)]) w86 (.v (.one .slc)) (fun (x87:SlT) w88=>KeepK S69 w86 w88 (RunK Tryz.prog (Builtin.append_ #[39,39] 39 #[.slice x70.1 x70.2.1 x70.2.2,.slice x87.1 x87.2.1 x87.2.2]) w88 (.v (.one .slc)) (fun (x89:SlT) w90=>StK ((ad g25).add 3) (.slice x89.1 x89.2.1 x89.2.2) w90 (fun w91=>next61 (IntKind.i64.wrap (s59.1+1),()) w91))))))))
 (CallK Tryz.prog 102 #[.pointer (some p0),.bool false,.int .i64 (IntKind.i64.wrap (p2+1))] w68 (.v (.agg KZ3)) (fun (x92:YZ3) w93=>KeepK S69 w68 w93 (RunK Tryz.prog (Instr.buildSlice 39 1 #[(0,.agg (LZ3 x92).toArray)]) w93 (.v (.one .slc)) (fun (x94:SlT) w95=>KeepK S69 w93 w95 (RunK Tryz.prog (Builtin.append_ #[39,39] 39 #[.slice x70.1 x70.2.1 x70.2.2,.slice x94.1 x94.2.1 x94.2.2]) w95 (.v (.one .slc)) (fun (x96:SlT) w97=>StK ((ad g25).add 3) (.slice x96.1 x96.2.1 x96.2.2) w97 (fun w98=>next61 (IntKind.i64.wrap (s59.1+1),()) w98))))))))))))))
 (DrewK w65 (fun w99=>HoldK (fun S100=>InK S100 ((ad g25).add 3) (LdK .slc ((ad g25).add 3) w99 (fun (x101:SlT)=>ifB p1
 (CallK Tryz.prog 102 #[.pointer (some p0),.bool true,.int .i64 (IntKind.i64.wrap (p2+1))] w99 (.v (.agg KZ3)) (fun (x102:YZ3) w103=>KeepK S100 w99 w103 (RunK Tryz.prog (Instr.buildSlice 39 1 #[(0,.agg (LZ3 x102).toArray)]) w103 (.v (.one .slc)) (fun (x104:SlT) w105=>KeepK S100 w103 w105 (RunK Tryz.prog (Builtin.append_ #[39,39] 39 #[.slice x101.1 x101.2.1 x101.2.2,.slice x104.1 x104.2.1 x104.2.2]) w105 (.v (.one .slc)) (fun (x106:SlT) w107=>StK ((ad g25).add 3) (.slice x106.1 x106.2.1 x106.2.2) w107 (fun w108=>next61 (IntKind.i64.wrap (s59.1+1),()) w108)))))))
 (ifB (s59.1==0)
 (ifB (x10==6)
 (CallK Tryz.prog 102 #[.pointer (some p0),.bool true,.int .i64 (IntKind.i64.wrap (p2+1))] w99 (.v (.agg KZ3)) (fun (x109:YZ3) w110=>KeepK S100 w99 w110 (RunK Tryz.prog (Instr.buildSlice 39 1 #[(0,.agg (LZ3 x109).toArray)]) w110 (.v (.one .slc)) (fun (x111:SlT) w112=>KeepK S100 w110 w112 (RunK Tryz.prog (Builtin.append_ #[39,39] 39 #[.slice x101.1 x101.2.1 x101.2.2,.slice x111.1 x111.2.1 x111.2.2]) w112 (.v (.one .slc)) (fun (x113:SlT) w114=>StK ((ad g25).add 3) (.slice x113.1 x113.2.1 x113.2.2) w114 (fun w115=>next61 (IntKind.i64.wrap (s59.1+1),()) w115)))))))
 (CallK Tryz.prog 102 #[.pointer (some p0),.bool (x10==8),.int .i64 (IntKind.i64.wrap (p2+1))] w99 (.v (.agg KZ3)) (fun (x116:YZ3) w117=>KeepK S100 w99 w117 (RunK Tryz.prog (Instr.buildSlice 39 1 #[(0,.agg (LZ3 x116).toArray)]) w117 (.v (.one .slc)) (fun (x118:SlT) w119=>KeepK S100 w117 w119 (RunK Tryz.prog (Builtin.append_ #[39,39] 39 #[.slice x101.1 x101.2.1 x101.2.2,.slice x118.1 x118.2.1 x118.2.2]) w119 (.v (.one .slc)) (fun (x120:SlT) w121=>StK ((ad g25).add 3) (.slice x120.1 x120.2.1 x120.2.2) w121 (fun w122=>next61 (IntKind.i64.wrap (s59.1+1),()) w122))))))))
 (CallK Tryz.prog 102 #[.pointer (some p0),.bool false,.int .i64 (IntKind.i64.wrap (p2+1))] w99 (.v (.agg KZ3)) (fun (x123:YZ3) w124=>KeepK S100 w99 w124 (RunK Tryz.prog (Instr.buildSlice 39 1 #[(0,.agg (LZ3 x123).toArray)]) w124 (.v (.one .slc)) (fun (x125:SlT) w126=>KeepK S100 w124 w126 (RunK Tryz.prog (Builtin.append_ #[39,39] 39 #[.slice x101.1 x101.2.1 x101.2.2,.slice x125.1 x125.2.1 x125.2.2]) w126 (.v (.one .slc)) (fun (x127:SlT) w128=>StK ((ad g25).add 3) (.slice x127.1 x127.2.1 x127.2.2) w128 (fun w129=>next61 (IntKind.i64.wrap (s59.1+1),()) w129)))))))))))))))
 (CallK Tryz.prog 138 #[.pointer (some p0),.string (⟨#[41]⟩:ByteArray)] w60 (.tup []) (fun (x130:Unit) w131=>LdsK KZ3 (ad g25) w131 (fun (x132:YZ3)=>StsK (ad g1) (LZ3 x132) w131 (fun w133=>LdsK KZ3 (ad g1) w133 (fun (x134:YZ3)=>K (.agg (LZ3 x134).toArray) w133)))))))
 (CallK Tryz.prog 138 #[.pointer (some p0),.string (⟨#[41]⟩:ByteArray)] w60 (.tup []) (fun (x135:Unit) w136=>LdsK KZ3 (ad g25) w136 (fun (x137:YZ3)=>StsK (ad g1) (LZ3 x137) w136 (fun w138=>LdsK KZ3 (ad g1) w138 (fun (x139:YZ3)=>K (.agg (LZ3 x139).toArray) w138))))))
 (0,()) w49))))))))))))))))))))))))))
def pl102:Plan:=(.seq .auto (.join [] .auto (.seq .auto (.seq .auto (.seq (.join [(25,.one .bool)] .auto .auto) (.seq .auto (.seq .auto (.seq .auto (.seq .auto (.seq .auto (.seq .auto (.join [] (.seq .auto (.block (.join [(53,.one .bool)] .auto .auto))) (.seq (.seq .auto (.block (.loop [(11,.one (.int .i64))] (.seq .auto (.seq (.block (.seq (.join [(86,.one .bool)] .auto .auto) (.held (.soft 0 (.soft 1 (.soft 2 (.soft 3 (.soft 4 (.soft 5 (.soft 6 (.soft 7 (.soft 8 (.soft 9 (.soft 10 (.soft 11 (.soft 12 (.soft 13 (.soft 14 (.soft 15 (.soft 16 (.soft 17 (.pick 18 (.pick 19 (.last 20 (.soft 21 (.last 22 .done))) .stop) .stop)))))))))))))))))))))) .auto))))) .auto)))))))))))))
theorem c102 (p0:Addr) (p1:Bool) (p2:Int) (w:World) (K:Value→World→Prop) (h:C102 p0 p1 p2 w K):Ret Tryz.prog 102 #[.pointer (some p0),.bool p1,.int .i64 p2] w K:=z0z (by kernel_rfl) Tryz.func102 (p:=pl102) (Eq.mpr (by kernel_rfl) h)
def C136 (p0:ByteArray) (p1:Bool) (w:World) (K:Value→World→Prop):Prop:=
 LoopK (Int×Unit) (fun _ s1 w2 next3=>ifB (decide (s1.1≤16))
 (ifB (!(p0.toList==(⟨#[]⟩:ByteArray).toList))
 (CallK Tryz.prog 121 #[.int .i64 s1.1] w2 (.v (.one .str)) (fun (x4:ByteArray) w5=>ifB (x4.toList==p0.toList)
 (ifB ((decide (s1.1 ≥ 11))==p1)
 (K (.int .i64 s1.1) w5)
 (next3 (IntKind.i64.wrap (s1.1+1),()) w5))
 (next3 (IntKind.i64.wrap (s1.1+1),()) w5)))
 (next3 (IntKind.i64.wrap (s1.1+1),()) w2))
 (K (.int .i64 0) w2))
 (1,()) w
def pl136:Plan:=(.seq .auto (.seq (.seq .auto (.block (.loop [(5,.one (.int .i64))] .auto))) .auto))
theorem c136 (p0:ByteArray) (p1:Bool) (w:World) (K:Value→World→Prop) (h:C136 p0 p1 w K):Ret Tryz.prog 136 #[.string p0,.bool p1] w K:=z0z (by kernel_rfl) Tryz.func136 (p:=pl136) (Eq.mpr (by kernel_rfl) h)
def C70 (p0:ByteArray) (p1:Bool) (w:World) (K:Value→World→Prop):Prop:=
 NewK (.cells #[.int .i64 0,.string (⟨#[]⟩:ByteArray),.int .i64 0,.slice none 0 0] 41) w (fun g1 w2=>ifB (decide ((p0.size:Int) > 1000))
 (StsK (ad g1) [.int .i64 0,.string (⟨#[]⟩:ByteArray),.int .i64 0,.slice none 0 0] w2 (fun w3=>LdsK KZ3 (ad g1) w3 (fun (x4:YZ3)=>K (.tuple #[.agg (LZ3 x4).toArray,.int .i64 0,.int .i64 5]) w3)))
 (CallK Tryz.prog 100 #[.string p0] w2 (.tup [.one .slc,.one (.int .i64)]) (fun (x5:SlT×Int×Unit) w6=>ifB (decide (x5.2.1 > 0))
 (StsK (ad g1) [.int .i64 0,.string (⟨#[]⟩:ByteArray),.int .i64 0,.slice none 0 0] w6 (fun w7=>LdsK KZ3 (ad g1) w7 (fun (x8:YZ3)=>K (.tuple #[.agg (LZ3 x8).toArray,.int .i64 x5.2.1,.int .i64 2]) w7)))
 (CallK Tryz.prog 101 #[.string p0] w6 (.v (.one (.int .i64))) (fun (x9:Int) w10=>NewK (.cells #[.slice x5.1.1 x5.1.2.1 x5.1.2.2,.int .i64 0,.int .i64 (IntKind.i64.wrap (x9+1)),.int .i64 0,.int .i64 0] 184) w10 (fun g11 w12=>CallK Tryz.prog 102 #[.pointer (some (ad g11)),.bool p1,.int .i64 1] w12 (.v (.agg KZ3)) (fun (x13:YZ3) w14=>NewK (.cells #[.int .i64 0,.string (⟨#[]⟩:ByteArray),.int .i64 0,.slice none 0 0] 41) w14 (fun g15 w16=>StsK (ad g15) (LZ3 x13) w16 (fun w17=>JoinK (Bool×Unit) (fun J18=>LdK (.int .i64) ((ad g11).add 4) w17 (fun (x21:Int)=>ifB (x21==0)
 (LdK (.int .i64) ((ad g11).add 1) w17 (fun (x22:Int)=>J18 (decide (x22<(x5.1.2.1:Int)),()) w17))
 (J18 (false,()) w17)))
 (fun _ s19 w20=>ifB s19.1
 (CallK Tryz.prog 103 #[.pointer (some (ad g11)),.int .i64 2] w20 (.tup []) (fun (x23:Unit) w24=>LdK (.int .i64) ((ad g11).add 4) w24 (fun (x25:Int)=>ifB (x25 != 0)
 (DrewK w24 (fun w26=>HoldK (fun S27=>InK S27 ((ad g11).add 3) (LdK (.int .i64) ((ad g11).add 3) w26 (fun (x28:Int)=>InK S27 ((ad g11).add 4) (LdK (.int .i64) ((ad g11).add 4) w26 (fun (x29:Int)=>StsK (ad g1) [.int .i64 0,.string (⟨#[]⟩:ByteArray),.int .i64 0,.slice none 0 0] w26 (fun w30=>KeepK S27 w26 w30 (LdsK KZ3 (ad g1) w30 (fun (x31:YZ3)=>K (.tuple #[.agg (LZ3 x31).toArray,.int .i64 x28,.int .i64 x29]) w30))))))))))
 (LdsK KZ3 (ad g15) w24 (fun (x32:YZ3)=>CallK Tryz.prog 89 #[.agg (LZ3 x32).toArray,.bool p1] w24 (.v (.one (.int .i64))) (fun (x33:Int) w34=>ifB (x33 != 0)
 (StsK (ad g1) [.int .i64 0,.string (⟨#[]⟩:ByteArray),.int .i64 0,.slice none 0 0] w34 (fun w35=>LdsK KZ3 (ad g1) w35 (fun (x36:YZ3)=>K (.tuple #[.agg (LZ3 x36).toArray,.int .i64 0,.int .i64 x33]) w35)))
 (LdsK KZ3 (ad g15) w34 (fun (x37:YZ3)=>StsK (ad g1) (LZ3 x37) w34 (fun w38=>LdsK KZ3 (ad g1) w38 (fun (x39:YZ3)=>K (.tuple #[.agg (LZ3 x39).toArray,.int .i64 0,.int .i64 0]) w38))))))))))
 (LdK (.int .i64) ((ad g11).add 4) w20 (fun (x40:Int)=>ifB (x40 != 0)
 (DrewK w20 (fun w41=>HoldK (fun S42=>InK S42 ((ad g11).add 3) (LdK (.int .i64) ((ad g11).add 3) w41 (fun (x43:Int)=>InK S42 ((ad g11).add 4) (LdK (.int .i64) ((ad g11).add 4) w41 (fun (x44:Int)=>StsK (ad g1) [.int .i64 0,.string (⟨#[]⟩:ByteArray),.int .i64 0,.slice none 0 0] w41 (fun w45=>KeepK S42 w41 w45 (LdsK KZ3 (ad g1) w45 (fun (x46:YZ3)=>K (.tuple #[.agg (LZ3 x46).toArray,.int .i64 x43,.int .i64 x44]) w45))))))))))
 (LdsK KZ3 (ad g15) w20 (fun (x47:YZ3)=>CallK Tryz.prog 89 #[.agg (LZ3 x47).toArray,.bool p1] w20 (.v (.one (.int .i64))) (fun (x48:Int) w49=>ifB (x48 != 0)
 (StsK (ad g1) [.int .i64 0,.string (⟨#[]⟩:ByteArray),.int .i64 0,.slice none 0 0] w49 (fun w50=>LdsK KZ3 (ad g1) w50 (fun (x51:YZ3)=>K (.tuple #[.agg (LZ3 x51).toArray,.int .i64 0,.int .i64 x48]) w50)))
 (LdsK KZ3 (ad g15) w49 (fun (x52:YZ3)=>StsK (ad g1) (LZ3 x52) w49 (fun w53=>LdsK KZ3 (ad g1) w53 (fun (x54:YZ3)=>K (.tuple #[.agg (LZ3 x54).toArray,.int .i64 0,.int .i64 0]) w53)))))))))))))))))))
def pl70:Plan:=(.seq .auto (.seq .auto (.seq .auto (.seq .auto (.seq .auto (.seq .auto (.seq (.join [(47,.one .bool)] .auto .auto) (.seq (.seq .auto (.cond (.seq (.held (.soft 0 (.soft 1 (.soft 2 (.soft 3 (.soft 4 (.soft 5 (.soft 6 (.soft 7 (.soft 8 (.pick 9 (.soft 10 (.soft 11 .done)) .stop))))))))))) .auto) .auto)) .auto))))))))
theorem c70 (p0:ByteArray) (p1:Bool) (w:World) (K:Value→World→Prop) (h:C70 p0 p1 w K):Ret Tryz.prog 70 #[.string p0,.bool p1] w K:=z0z (by kernel_rfl) Tryz.func70 (p:=pl70) (Eq.mpr (by kernel_rfl) h)
def C101 (p0:ByteArray) (w:World) (K:Value→World→Prop):Prop:=
 CallK Tryz.prog 116 #[.string p0] w (.v (.one .slc)) (fun (x1:SlT) w2=>K (.int .i64 (x1.2.1:Int)) w2)
def pl101:Plan:=.auto
theorem c101 (p0:ByteArray) (w:World) (K:Value→World→Prop) (h:C101 p0 w K):Ret Tryz.prog 101 #[.string p0] w K:=z0z (by kernel_rfl) Tryz.func101 (p:=pl101) (Eq.mpr (by kernel_rfl) h)
theorem take_step {fin:Int} {right:List UInt8→Bool} {s:RS} (h0:right []=false) (h:right (nextF s)=true):takeF fin right s=(nextF s,stepF s)∧s.l≠[]:=by
 obtain ⟨l,a,e⟩:=s
 by_cases he:e=0
 ·subst he
  cases l with
  | nil=>rw [show nextF ⟨[],a,0⟩=[] from rfl,h0] at h;cases h
  | cons x l=>rw [show nextF ⟨x::l,a,0⟩=x.1 from rfl] at h ⊢;exact ⟨takeF_hit h,by simp⟩
 ·rw [nextF_err (s:=⟨l,a,e⟩) he,h0] at h;cases h
theorem take_fail {fin:Int} {right:List UInt8→Bool} {s:RS} (h:right (nextF s)=false):takeF fin right s=([],failF fin 2 s):=by
 obtain ⟨l,a,e⟩:=s
 by_cases he:e=0
 ·subst he
  cases l with
  | nil=>rw [takeF_nil];rfl
  | cons x l=>rw [show nextF ⟨x::l,a,0⟩=x.1 from rfl] at h;rw [z57z (by rw [h];decide)];rfl
 ·rw [takeF_err (s:=⟨l,a,e⟩) he,z48z (s:=⟨l,a,e⟩) he]
theorem must_step {fin:Int} {x:List UInt8} {s:RS} (hx:x≠[]) (h:nextF s=x):mustF fin x s=stepF s∧s.l≠[]:=by
 have:=take_step (fin:=fin) (right:=fun y=>decide (y=x)) (s:=s) (decide_eq_false fun t=>hx t.symm) (decide_eq_true h)
 exact ⟨by unfold mustF;rw [this.1],this.2⟩
theorem must_fail {fin:Int} {x:List UInt8} {s:RS} (h:nextF s≠x):mustF fin x s=failF fin 2 s:=by
 unfold mustF;rw [take_fail (decide_eq_false h)]
theorem nameL_nil:nameL []=false:=by decide
theorem numF_nil:numF []=(0,false):=by decide +kernel
theorem numOk_nil (d:Bool):numOk d []=false:=by cases d<;>decide +kernel
def rrObj (sl:Sl) (n:Nat) (fin:Int) (s:RS):Obj:=.cells #[.slice sl.1 sl.2.1 sl.2.2,.int .i64 n,.int .i64 fin,.int .i64 s.at_,.int .i64 s.e] 184 (0,0)
structure IsRr (w:World) (m b N:Nat) (fin:Int) (s:RS):Prop where
 out:∃ (sl:Sl) (L:List SignV) (n:Nat),w.heap[b]? = some (rrObj sl n fin s)∧IsSgR w sl L∧s.l=L.drop n∧n≤L.length∧(L.length≤1000000∧L.length=N)∧(∀ x∈L,x.1.length≤10000)∧∀ k,blkOf sl k→k<m∧k≠b
 lt:b<m
 le:m≤w.heap.size
theorem IsRr.keep {w w':World} {m b N:Nat} {fin:Int} {s:RS} (h:IsRr w m b N fin s) {S:Nat→Prop} (f:Fr S w w') (hn:∀ k,k<m→¬ S k):IsRr w' m b N fin s:=by
 obtain ⟨⟨sl,L,n,hb,hs,h1,h2,h3,h4,h5⟩,hlt,hle⟩:=h
 exact ⟨⟨sl,L,n,f.keep hb (hn b hlt),hs.keep f (fun k hk=>hn k (h5 k hk).1),h1,h2,h3,h4,h5⟩,hlt,Nat.le_trans hle f.size⟩
theorem IsRr.keep0 {w w':World} {m b N:Nat} {fin:Int} {s:RS} (h:IsRr w m b N fin s) (f:Fr none1 w w'):IsRr w' m b N fin s:=h.keep f (fun _ _ t=>t)
theorem IsRr.next_len {w:World} {m b N:Nat} {fin:Int} {s:RS} (h:IsRr w m b N fin s):(nextF s).length≤10000:=by
 obtain ⟨⟨sl,L,n,hb,hs,h1,h2,h3,h4,h5⟩,hlt,hle⟩:=h
 unfold nextF
 split
 ·split
  ·rename_i x l hl
   refine h4 _ (List.mem_of_mem_drop (i:=n) ?_)
   rw [← h1,hl];simp
  ·simp
 ·simp
theorem drop_next {L:List SignV} {n:Nat} (h:n<L.length):∃ x,L[n]? = some x∧L.drop n=x::L.drop (n+1):=
 ⟨L[n],List.getElem?_eq_getElem h,List.drop_eq_getElem_cons h⟩
theorem rr_place {w:World} {m b N:Nat} {fin:Int} {s:RS} (h:IsRr w m b N fin s):Ret Tryz.prog 140 #[.pointer (some ⟨b,0,none⟩)] w fun r w'=>r=.int .i64 (placeF fin s)∧Fr none1 w w':=by
 refine c140 _ w _ ?_
 obtain ⟨⟨sl,L,n,hb,hs,h1,h2,h3,h4,h5⟩,hlt,hle⟩:=h
 have hl:=hs.len
 unfold C140
 refine DrewK.of fun w1 _ f1=>LdK.fld (f1.keep0 hb) (x:=(n:Int)) rfl (LdK.fld (f1.keep0 hb) (x:=sl) rfl ?_)
 unfold placeF
 refine ifB.dec (fun hn=>?_) (fun hn=>?_)
 ·obtain ⟨x,hx,hd⟩:=drop_next (L:=L) (n:=n) (by omega)
  rw [h1,hd]
  refine DrewK.of fun w2 _ f2=>LdK.fld ((f1.trans f2).keep0 hb) (x:=sl) rfl (LdK.fld ((f1.trans f2).keep0 hb) (x:=(n:Int)) rfl ?_)
  exact sg_ldR (hs.keep0 (f1.trans f2)) (i:=(n:Int)) (by omega) (by omega) (x:=x) (by rw [Int.toNat_natCast];exact hx) fun a _ k2 _=>k2 _ ⟨rfl,f1.trans f2⟩
 ·have:L.drop n=[]:=List.drop_eq_nil_of_le (by omega)
  rw [h1,this]
  exact LdK.fld (f1.keep0 hb) (x:=fin) rfl ⟨rfl,f1⟩
theorem rr_fail {w:World} {m b N:Nat} {fin:Int} {s:RS} (h:IsRr w m b N fin s) (c:Int):Ret Tryz.prog 103 #[.pointer (some ⟨b,0,none⟩),.int .i64 c] w fun r w'=>r=.tuple #[]∧IsRr w' m b N fin (failF fin c s)∧Fr (only b) w w':=by
 refine c103 _ c w _ ?_
 obtain ⟨⟨sl,L,n,hb,hs,h1,h2,h3,h4,h5⟩,hlt,hle⟩:=id h
 unfold C103
 refine LdK.fld hb (x:=s.e) rfl ?_
 unfold failF
 refine ifB.eq (fun he=>?_) (fun he=>?_)
 ·rw [if_pos he]
  refine CallK.of (rr_place h) ?_
  rintro _ w1 ⟨rfl,f1⟩
  refine ⟨_,rfl,?_⟩
  refine StK.fld (f1.keep0 hb) (by show 0+3<5;omega) rfl fun w2 hb2 f2 _=>?_
  refine StK.fld hb2 (by show 0+4<5;omega) rfl fun w3 hb3 f3 _=>?_
  have f:Fr (only b) w w3:=Fr.of0 f1 (f2.trans f3)
  exact ⟨rfl,⟨⟨sl,L,n,hb3,hs.keep f (fun k hk t=>(h5 k hk).2 t),h1,h2,h3,h4,h5⟩,hlt,Nat.le_trans hle f.size⟩,f⟩
 ·rw [if_neg he]
  exact ⟨rfl,h,Fr.refl _ _⟩
theorem rr_next {w:World} {m b N:Nat} {fin:Int} {s:RS} (h:IsRr w m b N fin s):Ret Tryz.prog 135 #[.pointer (some ⟨b,0,none⟩)] w fun r w'=>r=.string (str (nextF s))∧Fr none1 w w':=by
 refine c135 _ w _ ?_
 obtain ⟨⟨sl,L,n,hb,hs,h1,h2,h3,h4,h5⟩,hlt,hle⟩:=h
 have hl:=hs.len
 unfold C135
 refine DrewK.of fun w1 _ f1=>LdK.fld (f1.keep0 hb) (x:=(n:Int)) rfl (LdK.fld (f1.keep0 hb) (x:=sl) rfl ?_)
 unfold nextF
 refine ifB.dec (fun hn=>?_) (fun hn=>?_)
 ·have:L.drop n=[]:=List.drop_eq_nil_of_le (by omega)
  rw [h1,this]
  exact ⟨by split<;>rfl,f1⟩
 obtain ⟨x,hx,hd⟩:=drop_next (L:=L) (n:=n) (by omega)
 rw [h1,hd]
 refine LdK.fld (f1.keep0 hb) (x:=s.e) rfl (ifB.ne (fun he=>?_) (fun he=>?_))
 ·rw [if_neg he];exact ⟨rfl,f1⟩
 ·rw [if_pos he]
  refine DrewK.of fun w2 _ f2=>LdK.fld ((f1.trans f2).keep0 hb) (x:=sl) rfl (LdK.fld ((f1.trans f2).keep0 hb) (x:=(n:Int)) rfl ?_)
  exact sg_ldR (hs.keep0 (f1.trans f2)) (i:=(n:Int)) (by omega) (by omega) (x:=x) (by rw [Int.toNat_natCast];exact hx) fun a k1 _ _=>k1 _ ⟨rfl,f1.trans f2⟩
theorem rr_step {w:World} {m b N:Nat} {fin:Int} {s:RS} (h:IsRr w m b N fin s) (hne:s.l≠[]) {K:World→Prop} (k:∀ w',IsRr w' m b N fin (stepF s)→Fr (only b) w w'→K w') :
  LdK (.int .i64) ((⟨b,0,none⟩:Addr).add 1) w fun (x:Int)=>StK ((⟨b,0,none⟩:Addr).add 1) (.int .i64 (IntKind.i64.wrap (x+1))) w fun w'=>K w':=by
 obtain ⟨⟨sl,L,n,hb,hs,h1,h2,h3,h4,h5⟩,hlt,hle⟩:=h
 refine LdK.fld hb (x:=(n:Int)) rfl ?_
 have hn:n<L.length:=Classical.byContradiction fun t=>hne (by rw [h1];exact List.drop_eq_nil_of_le (by omega))
 rw [wI (x:=(n:Int)+1) (by omega) (by omega)]
 refine StK.fld hb (by show 0+1<5;omega) rfl fun w' hb' f _=>k w' ?_ f
 exact ⟨⟨sl,L,n+1,hb',hs.keep f (fun k hk t=>(h5 k hk).2 t),by show s.l.tail=_;rw [h1,List.tail_drop],by omega,h3,h4,h5⟩,hlt,Nat.le_trans hle f.size⟩
theorem rr_sign {w:World} {m b N:Nat} {fin:Int} {s:RS} (h:IsRr w m b N fin s) (x:List UInt8) (hx:x≠[]):Ret Tryz.prog 138 #[.pointer (some ⟨b,0,none⟩),.string (str x)] w fun r w'=>r=.tuple #[]∧IsRr w' m b N fin (mustF fin x s)∧Fr (only b) w w':=by
 refine c138 _ _ w _ ?_
 unfold C138
 refine CallK.of (rr_next h) ?_
 rintro _ w1 ⟨rfl,f1⟩
 refine ⟨_,rfl,ifB.not (ifB.str (fun e=>?_) (fun e=>?_))⟩
 ·have hm:=must_step (fin:=fin) hx e
  rw [hm.1]
  exact rr_step (h.keep0 f1) hm.2 fun w2 h2 f2=>⟨rfl,h2,Fr.of0 f1 f2⟩
 ·rw [must_fail e]
  refine CallK.of (rr_fail (h.keep0 f1) 2) ?_
  rintro _ w2 ⟨rfl,h2,f2⟩
  exact ⟨(),rfl,rfl,h2,Fr.of0 f1 f2⟩
theorem rr_name {w:World} {m b N:Nat} {fin:Int} {s:RS} (h:IsRr w m b N fin s):Ret Tryz.prog 139 #[.pointer (some ⟨b,0,none⟩)] w fun r w'=>r=.string (str (takeF fin nameL s).1)∧IsRr w' m b N fin (takeF fin nameL s).2∧Fr (only b) w w':=by
 refine c139 _ w _ ?_
 unfold C139
 refine CallK.of (rr_next h) ?_
 rintro _ w1 ⟨rfl,f1⟩
 refine ⟨_,rfl,?_⟩
 refine CallK.of (rname_spec (nextF s) (by have:=h.next_len;omega) w1) ?_
 rintro _ w2 ⟨rfl,f2⟩
 have f12:=f1.trans f2
 refine ⟨_,rfl,ifB.not (ifB.by (fun e=>?_) (fun e=>?_))⟩
 ·have hm:=take_step (fin:=fin) (right:=nameL) (s:=s) nameL_nil e
  rw [hm.1]
  exact rr_step (h.keep0 f12) hm.2 fun w3 h3 f3=>⟨rfl,h3,Fr.of0 f12 f3⟩
 ·have hm:=take_fail (fin:=fin) (right:=nameL) (s:=s) e
  rw [hm]
  refine CallK.of (rr_fail (h.keep0 f12) 2) ?_
  rintro _ w3 ⟨rfl,h3,f3⟩
  exact ⟨(),rfl,rfl,h3,Fr.of0 f12 f3⟩
theorem rr_number {w:World} {m b N:Nat} {fin:Int} {s:RS} (h:IsRr w m b N fin s) (day:Bool):Ret Tryz.prog 137 #[.pointer (some ⟨b,0,none⟩),.bool day] w fun r w'=>r=.int .i64 (numF (takeF fin (numOk day) s).1).1∧IsRr w' m b N fin (takeF fin (numOk day) s).2∧Fr (only b) w w':=by
 refine c137 _ day w _ ?_
 unfold C137
 refine CallK.of (rr_next h) ?_
 rintro _ w1 ⟨rfl,f1⟩
 refine ⟨_,rfl,?_⟩
 refine CallK.of (refnum_spec (nextF s) (by have:=h.next_len;omega) w1) ?_
 rintro _ w2 ⟨rfl,f2⟩
 have f12:=f1.trans f2
 refine ⟨((numF (nextF s)).1,(numF (nextF s)).2,()),rfl,?_⟩
 refine JoinK.of (fun c w'=>c.1=(!(numOk day (nextF s)))∧w2=w') ?_ ?_
 ·refine ifB.not (ifB.by (fun e=>?_) (fun e=>?_))
  ·refine ifB.by (fun ed=>?_) (fun ed=>?_)
   ·refine ifB.dec (fun e0=>⟨?_,rfl⟩) (fun e0=>⟨?_,rfl⟩)
    ·subst ed;unfold numOk;rw [if_pos rfl];unfold dayF;rw [decide_eq_false (show ¬ 0≤(numF (nextF s)).1 by omega)];simp
    ·subst ed;unfold numOk;rw [if_pos rfl];unfold dayF;dsimp only at e;rw [e,decide_eq_true (show 0≤(numF (nextF s)).1 by omega)]
     by_cases hh:(numF (nextF s)).1≤10000
     ·rw [decide_eq_true hh,decide_eq_false (by omega)];rfl
     ·rw [decide_eq_false hh,decide_eq_true (by omega)];rfl
   ·subst ed;exact ⟨by unfold numOk;rw [if_neg (by decide)];dsimp only at e;rw [e];rfl,rfl⟩
  ·refine ⟨?_,rfl⟩
   dsimp only at e
   cases day
   ·unfold numOk;rw [if_neg (by decide),e];rfl
   ·unfold numOk;rw [if_pos rfl];unfold dayF;rw [e];rfl
 rintro _ ⟨c,_⟩ _ ⟨hc,rfl⟩
 dsimp only at hc ⊢
 rw [hc]
 refine ifB.not (ifB.by (fun e=>?_) (fun e=>?_))
 ·have hm:=take_step (fin:=fin) (right:=numOk day) (s:=s) (numOk_nil day) e
  rw [hm.1]
  exact rr_step (h.keep0 f12) hm.2 fun w3 h3 f3=>⟨rfl,h3,Fr.of0 f12 f3⟩
 ·rw [take_fail e]
  refine CallK.of (rr_fail (h.keep0 f12) 2) ?_
  rintro _ w3 ⟨rfl,h3,f3⟩
  exact ⟨(),rfl,by rw [numF_nil],h3,Fr.of0 f12 f3⟩
theorem rr_kind (x:List UInt8) (num:Bool) (w:World):Ret Tryz.prog 136 #[.string (str x),.bool num] w fun r w'=>r=.int .i64 (kindR x num)∧Fr none1 w w':=by
 refine c136 _ num w _ ?_
 unfold C136
 refine LoopK.of (fun s w'=>∃ (n:Nat) (k:Int),s.1=k∧1≤k∧k+n=17∧kindR x num=kindG x num n k∧Fr none1 w w') (fun s _=>(17 - s.1).toNat) ⟨16,1,rfl,by omega,by omega,rfl,Fr.refl _ _⟩ ?_
 rintro _ ⟨k,_⟩ w1 ⟨n,k',rfl,h1,h2,hk,f1⟩
 dsimp only at h1 h2 hk ⊢
 refine ifB.dec (fun hle=>?_) (fun hle=>?_)
 rotate_left
 ·have:n=0:=by omega
  subst this
  exact ⟨by rw [hk];rfl,f1⟩
 obtain ⟨n',rfl⟩:∃ n',n=n'+1:=⟨n - 1,by omega⟩
 rw [kindG_eq] at hk
 have e0:(⟨#[]⟩:ByteArray)=str []:=rfl
 rw [e0,wI (x:=k+1) (by omega) (by omega)]
 have next:∀ w2,Fr none1 w1 w2→¬ (x≠[]∧wordL k=x∧decide (11≤k)=num)→(∃ (n:Nat) (k':Int),k+1=k'∧1≤k'∧k'+n=17∧kindR x num=kindG x num n k'∧Fr none1 w w2)∧(17 - (k+1)).toNat<(17 - k).toNat:=fun w2 f2 hno=>by
  rw [if_neg hno] at hk
  exact ⟨⟨n',k+1,rfl,by omega,by omega,hk,f1.trans f2⟩,by omega⟩
 refine ifB.not (ifB.str (fun e=>next w1 (Fr.refl _ _) (fun t=>t.1 e)) (fun e=>?_))
 refine CallK.of (rword_tab k (by omega) hle w1) ?_
 rintro _ w2 ⟨rfl,f2⟩
 refine ⟨_,rfl,ifB.str (fun e2=>?_) (fun e2=>next w2 f2 (fun t=>e2 t.2.1))⟩
 refine ifB.by (fun e3=>?_) (fun e3=>next w2 f2 (fun t=>?_))
 ·rw [if_pos ⟨e,e2,by simpa using e3⟩] at hk
  exact ⟨by rw [hk],f1.trans f2⟩
 ·have e4:(decide (11≤k)==num)=true:=by rw [t.2.2];exact beq_self_eq_true _
  rw [show (decide (k ≥ 11)==num)=(decide (11≤k)==num) from rfl,e4] at e3;cases e3
theorem upd_ok {w:World} {g:Nat} {M:Int→Option Value} (hm:IsMap w g M) (n:Int) (v:Value) {K:World→Prop} (h:∀ w',IsMap w' g (fun m=>if m=n then some v else M m)→Fr (only g) w w'→K w') :
  RunU Tryz.prog (Instr.mapUpdate 250 (.map (some g)) (.int .i64 n) v) w K:=by
 obtain ⟨w',hr,f,_,hm'⟩:=update_ok hm n v Tryz.underlying250 Tryz.underlying3
 exact ⟨w',hr,h w' hm' f⟩
theorem parts_tab (k:Int):((if k=16 then some (Value.int .i64 2) else if k=15 then some (.int .i64 2) else if k=14 then some (.int .i64 1) else if k=13 then some (.int .i64 2) else if k=8 then some (.int .i64 3) else if k=7 then some (.int .i64 1)
  else if k=6 then some (.int .i64 2) else if k=5 then some (.int .i64 2) else if k=4 then some (.int .i64 2) else if k=3 then some (.int .i64 1) else none).getD (.int .i64 0))=.int .i64 (partsN k):=by
 by_cases h1:k=16;· subst h1;rfl
 by_cases h2:k=15;· subst h2;rfl
 by_cases h3:k=14;· subst h3;rfl
 by_cases h4:k=13;· subst h4;rfl
 by_cases h5:k=8;· subst h5;rfl
 by_cases h6:k=7;· subst h6;rfl
 by_cases h7:k=6;· subst h7;rfl
 by_cases h8:k=5;· subst h8;rfl
 by_cases h9:k=4;· subst h9;rfl
 by_cases h10:k=3;· subst h10;rfl
 simp [partsN,h1,h2,h3,h4,h5,h6,h7,h8,h9,h10]
theorem parts_map (k:Int) {w:World} {K:Int→World→Prop} (hK:∀ w',Fr none1 w w'→K (partsN k) w') :
  NewK (.map #[] 0) w (fun g33 w34=>RunU Tryz.prog (Instr.mapUpdate 250 (.map (some g33)) (.int .i64 3) (.int .i64 1)) w34 (fun w35=>RunU Tryz.prog (Instr.mapUpdate 250 (.map (some g33)) (.int .i64 4) (.int .i64 2)) w35 (fun w36=>RunU Tryz.prog (Instr.mapUpdate 250 (.map (some g33)) (.int .i64 5) (.int .i64 2)) w36 (fun w37=>RunU Tryz.prog (Instr.mapUpdate 250 (.map (some g33)) (.int .i64 6) (.int .i64 2)) w37 (fun w38=>RunU Tryz.prog (Instr.mapUpdate 250 (.map (some g33)) (.int .i64 7) (.int .i64 1)) w38 (fun w39=>RunU Tryz.prog (Instr.mapUpdate 250 (.map (some g33)) (.int .i64 8) (.int .i64 3)) w39 (fun w40=>RunU Tryz.prog (Instr.mapUpdate 250 (.map (some g33)) (.int .i64 13) (.int .i64 2)) w40 (fun w41=>RunU Tryz.prog (Instr.mapUpdate 250 (.map (some g33)) (.int .i64 14) (.int .i64 1)) w41 (fun w42=>RunU Tryz.prog (Instr.mapUpdate 250 (.map (some g33)) (.int .i64 15) (.int .i64 2)) w42 (fun w43=>RunU Tryz.prog (Instr.mapUpdate 250 (.map (some g33)) (.int .i64 16) (.int .i64 2)) w43 (fun w44=>RunK Tryz.prog (Instr.lookup 250 (.map (some g33)) (.int .i64 k) false) w44 (.v (.one (.int .i64))) (fun (x45:Int) w46=>K x45 w46)))))))))))):=by
 refine NewK.of fun g w1 hg hb f1 _=>?_
 have m1:=IsMap.new hb
 refine upd_ok m1 3 _ fun w2 m2 f2=>upd_ok m2 4 _ fun w3 m3 f3=>upd_ok m3 5 _ fun w4 m4 f4=>upd_ok m4 6 _ fun w5 m5 f5=>upd_ok m5 7 _ fun w6 m6 f6=>upd_ok m6 8 _ fun w7 m7 f7=>upd_ok m7 13 _ fun w8 m8 f8=>upd_ok m8 14 _ fun w9 m9 f9=>upd_ok m9 15 _ fun w10 m10 f10=>upd_ok m10 16 _ fun w11 m11 f11=>?_
 have f:Fr none1 w w11:=((((((((((f1.fresh f2 (by omega)).fresh f3 (by omega)).fresh f4 (by omega)).fresh f5 (by omega)).fresh f6 (by omega)).fresh f7 (by omega)).fresh f8 (by omega)).fresh f9 (by omega)).fresh f10 (by omega)).fresh f11 (by omega))
 refine ⟨((partsN k:Nat):Int),w11,?_,hK w11 f⟩
 rw [lookup_ok (.int .i64 0) m11 k false Tryz.underlying250 Tryz.underlying3 (by kernel_rfl)]
 rw [if_neg (by decide)]
 exact congrArg (fun v=>Result.ok v w11) (parts_tab k)
theorem rr_code {w:World} {m b N:Nat} {fin:Int} {s:RS} (h:IsRr w m b N fin s) {K:Int→Prop} (k:K s.e):LdK (.int .i64) ((⟨b,0,none⟩:Addr).add 4) w K:=by
 obtain ⟨⟨sl,L,n,hb,_⟩,hlt,hle⟩:=h
 exact LdK.fld hb (x:=s.e) rfl k
theorem rr_tell {w wB wc:World} {m b g N:Nat} {fin:Int} {s:RS} {v0 v:TV} {t:Tr} (h:IsRr wc m b N fin s) (f:Fr (only b) w wc) (hm:m≤w.heap.size) (hg:w.heap.size≤g) (hgB:g<wB.heap.size) (hB:w.heap.size≤wB.heap.size) (tb:TB wc g v0) (hmd:Made wB wc t v) {K:TV→World→Prop}
  (k:∀ w2,IsRr w2 m b N fin s→Fr (only b) w w2→Made w w2 t v→K v w2):StsK ⟨g,0,none⟩ (tvL v) wc fun w2=>LdsK TVK ⟨g,0,none⟩ w2 fun x=>K x w2:=
 StsK.blk (cs:=tvL v0) (vs:=tvL v) tb rfl rfl fun w2 hb2 f2 _=>LdsK.blk (cks:=TVK) (x:=v) hb2 (k w2 (h.keep f2 fun k hk t=>by have:k=g:=t;omega) (f.comp f2 fun k hk t=>by have:k=g:=t;omega) ((hmd.keep f2 fun k hk _ t=>by have:k=g:=t;omega).older hB))
theorem IsTrs.snoc {w:World} {S:Nat→Prop}:∀ {ts:List Tr} {vs:List TV} {t:Tr} {v:TV},IsTrs w S ts vs→IsTr w S t v→IsTrs w S (ts++[t]) (vs++[v])
 | [],vs,t,v,h,h2=>by unfold IsTrs at h;subst h;unfold IsTrs;exact ⟨v,[],rfl,h2,by unfold IsTrs;rfl⟩
 | t'::ts,vs,t,v,h,h2=>by
  unfold IsTrs at h
  obtain ⟨v',vs',rfl,h1,h3⟩:=h
  show IsTrs w S (t'::(ts++[t])) _
  unfold IsTrs
  exact ⟨v',vs'++[v],rfl,h1,h3.snoc h2⟩
def deepF (fin:Int) (n:Nat) (s:RS):RS:=if n=0 then failF fin 5 s else s
theorem treeF_zero {fin:Int} {n:Nat} {num:Bool} {s:RS} (h:kindR (nextF (deepF fin n s)) num=0):treeF fin n num s=if num=true then (.mk 11 [] (numF (takeF fin (numOk false) (deepF fin n s)).1).1 [],(takeF fin (numOk false) (deepF fin n s)).2) else (.mk 0 [] 0 [],failF fin 2 (deepF fin n s)):=by
 cases n with
 | zero=>
  have he:(failF fin 5 s).e≠0:=fail_not (by decide)
  unfold treeF deepF
  rw [if_pos rfl,takeF_err he,z48z he]
  cases num
  ·rfl
  ·show (Tr.mk 11 [] 0 [],failF fin 5 s)=(Tr.mk 11 [] (numF []).1 [],failF fin 5 s)
   rw [numF_nil]
 | succ n=>
  have hd:deepF fin (n+1) s=s:=if_neg (by omega)
  rw [hd] at h ⊢
  unfold treeF
  rw [if_pos h]
structure Kids (w wB wc:World) (m b g1 g2 N:Nat) (fin:Int) (s:RS) (k:Int) (nm:List UInt8) (nn:Int) (ts:List Tr) (u:Sl) (vs:List TV) (S:Nat→Prop):Prop where
 rd:IsRr wc m b N fin s
 fr:Fr (only b) w wc
 B:wB.heap.size≤wc.heap.size
 t1:TB wc g1 (0,str [],0,(none,0,0),())
 t2:TB wc g2 (k,str nm,nn,u,())
 sl:IsSl wc 41 4 u (vs.map tvL).flatten
 len:u.2.1=vs.length
 kids:IsTrs wc S ts vs
 low:∀ k,blkOf u k→wB.heap.size≤k
 off:∀ k,S k→wB.heap.size≤k∧k<wc.heap.size∧¬ blkOf u k
structure Spot (w wB:World) (m b g1 g2:Nat):Prop where
 bm:b<m
 mw:m≤w.heap.size
 wg:w.heap.size≤g1
 gg:g1<g2
 gB:g2<wB.heap.size
theorem Kids.keep {w wB wc wd:World} {m b g1 g2 N:Nat} {fin:Int} {s s':RS} {k:Int} {nm:List UInt8} {nn:Int} {ts:List Tr} {u:Sl} {vs:List TV} {S:Nat→Prop} (h:Kids w wB wc m b g1 g2 N fin s k nm nn ts u vs S) (p:Spot w wB m b g1 g2) (f:Fr (only b) wc wd) (hr:IsRr wd m b N fin s'):Kids w wB wd m b g1 g2 N fin s' k nm nn ts u vs S:=by
 obtain ⟨p1,p2,p3,p4,p5⟩:=p
 exact ⟨hr,h.fr.trans f,Nat.le_trans h.B f.size,h.t1.keep f (fun t=>by have:g1=b:=t;omega),h.t2.keep f (fun t=>by have:g2=b:=t;omega),h.sl.keep f (fun k hk t=>by have:k=b:=t;have:=h.low k hk;omega),h.len,
  IsTrs.keep f (fun k hk t=>by have:k=b:=t;have:=(h.off k hk).1;omega) _ _ h.kids,h.low,fun k hk=>⟨(h.off k hk).1,Nat.lt_of_lt_of_le (h.off k hk).2.1 f.size,(h.off k hk).2.2⟩⟩
theorem Kids.keep0 {w wB wc wd:World} {m b g1 g2 N:Nat} {fin:Int} {s:RS} {k:Int} {nm:List UInt8} {nn:Int} {ts:List Tr} {u:Sl} {vs:List TV} {S:Nat→Prop} (h:Kids w wB wc m b g1 g2 N fin s k nm nn ts u vs S) (p:Spot w wB m b g1 g2) (f:Fr none1 wc wd):Kids w wB wd m b g1 g2 N fin s k nm nn ts u vs S:=
 h.keep p (f.mono fun _ _ t=>t.elim) (h.rd.keep0 f)
theorem Kids.tell {w wB wc:World} {m b g1 g2 N:Nat} {fin:Int} {s:RS} {k:Int} {nm:List UInt8} {nn:Int} {ts:List Tr} {u:Sl} {vs:List TV} {S:Nat→Prop} (h:Kids w wB wc m b g1 g2 N fin s k nm nn ts u vs S) (p:Spot w wB m b g1 g2) :
  CallK Tryz.prog 138 #[.pointer (some ⟨b,0,none⟩),.string (⟨#[41]⟩:ByteArray)] wc (.tup []) (fun (x130:Unit) w131=>LdsK TVK ⟨g2,0,none⟩ w131 (fun (x132:TV)=>StsK ⟨g1,0,none⟩ (tvL x132) w131 (fun w133=>LdsK TVK ⟨g1,0,none⟩ w133 (fun (x134:TV)=>
   ∃ v:TV,tvA x134=tvA v∧Made w w133 (.mk k nm nn ts) v∧IsRr w133 m b N fin (mustF fin [41] s)∧Fr (only b) w w133)))):=by
 refine CallK.of (rr_sign h.rd [41] (by decide)) ?_
 rintro _ w1 ⟨rfl,h1,f1⟩
 have h1:=h.keep p f1 h1
 refine ⟨(),rfl,h1.t2.ld ?_⟩
 have hm:Made wB w1 (.mk k nm nn ts) (k,str nm,nn,u,()):=z24z k nm nn h1.sl h1.len h1.low (IsTrs.mono (fun k hk=>⟨(h1.off k hk).1,(h1.off k hk).2.1⟩) _ _ h1.kids)
 have:=h1.fr.size
 have p2:=p.wg;have p3:=p.gg;have p4:=p.gB
 exact rr_tell h1.rd h1.fr p.mw p.wg (by omega) (by omega) h1.t1 hm fun w2 r2 f2 m2=>⟨_,rfl,m2,r2,f2⟩
theorem Kids.more {w wB wc wd:World} {m b g1 g2 N:Nat} {fin:Int} {s s':RS} {k:Int} {nm:List UInt8} {nn:Int} {ts:List Tr} {u:Sl} {vs:List TV} {S:Nat→Prop} (h:Kids w wB wc m b g1 g2 N fin s k nm nn ts u vs S) (p:Spot w wB m b g1 g2) (hl:vs.length≤10)
  (hr:IsRr wd m b N fin s') (f:Fr (only b) wc wd) {t:Tr} {v:TV} (hm:Made wc wd t v) {K:World→Prop} (hK:∀ we u' S',Kids w wB we m b g1 g2 N fin s' k nm nn (ts++[t]) u' (vs++[v]) S'→K we) :
  KeepK (fun k=>k≠b) wc wd (RunK Tryz.prog (Instr.buildSlice 39 1 #[(0,tvA v)]) wd (.v (.one .slc)) (fun (x73:Option Addr×Nat×Nat) w74=>KeepK (fun k=>k≠b) wd w74 (RunK Tryz.prog (Builtin.append_ #[39,39] 39 #[.slice u.1 u.2.1 u.2.2,.slice x73.1 x73.2.1 x73.2.2]) w74 (.v (.one .slc)) (fun (x75:Option Addr×Nat×Nat) w76=>StK ((⟨g2,0,none⟩:Addr).add 3) (.slice x75.1 x75.2.1 x75.2.2) w76 K)))):=by
 refine KeepK.on f (fun k hk t=>hk t) ?_
 have h1:=h.keep p f hr
 refine tr_lit [v] (by show 1≤3;omega) fun y w2 hy hyl f2 hyf=>KeepK.of f2 ?_
 have h2:=h1.keep0 p f2
 obtain ⟨z,w3,r3,hz,hzl,f3,zf⟩:=append_ok elem_tr 39 h2.sl hy.rd (by
  intro x hx
  simp only [List.map_cons,List.map_nil,List.flatten_cons,List.flatten_nil,List.append_nil,tvL,List.mem_cons,List.not_mem_nil,or_false] at hx
  rcases hx with rfl | rfl | rfl | rfl<;>rfl) (by rw [hyl,h2.len];simp only [List.length_singleton];omega)
 refine ⟨z,w3,r3,?_⟩
 obtain ⟨p1,p2,p3,p4,p5⟩:=p
 have lowU:∀ k,blkOf u k→wB.heap.size≤k:=h.low
 have r3:IsRr w3 m b N fin s':=h2.rd.keep f3 fun k hk t=>by have:=lowU k t;omega
 have t13:=h2.t1.keep f3 (fun t=>by have:=lowU _ t;omega)
 have t23:=h2.t2.keep f3 (fun t=>by have:=lowU _ t;omega)
 have lowZ:∀ k,blkOf z k→wB.heap.size≤k:=fun k hk=>(zf k hk).elim (lowU k) fun t=>by have:=h2.B;omega
 refine t23.u z fun w4 t4 f4=>hK w4 z (fun k=>S k∨since wc wd k) ?_
 have hsd:=f.size
 have hs2:=f2.size
 have hs3:=f3.size
 have hs4:=f4.size
 have off1:∀ k,since wc wd k→¬ blkOf u k:=fun k hk t=>by have:=h.sl.lt t;have:=hk.1;omega
 have kid:IsTr w4 (since wc wd) t v:=IsTr.keep f4 (fun k hk t=>by have:k=g2:=t;have:=hk.1;have:=h.B;omega) t v (IsTr.keep f3 (fun k hk t=>off1 k hk t) t v (IsTr.keep0 hm f2))
 have kids:IsTrs w4 S ts vs:=IsTrs.keep f4 (fun k hk t=>by have:k=g2:=t;have:=(h.off k hk).1;omega) _ _ (IsTrs.keep f3 (fun k hk t=>(h.off k hk).2.2 t) _ _ h2.kids)
 refine ⟨r3.keep f4 (fun k hk t=>by have:k=g2:=t;omega),(h2.fr.comp f3 (fun k hk t=>by have:=lowU k t;omega)).comp f4 (fun k hk t=>by have:k=g2:=t;omega),by have:=h2.B;omega,t13.keep f4 (fun t=>by have:g1=g2:=t;omega),t4,
  ?_,by rw [hzl,hyl,h2.len,List.length_append],IsTrs.snoc (IsTrs.mono (fun _ h=>.inl h) _ _ kids) (IsTr.mono (fun _ h=>.inr h) _ _ kid),lowZ,?_⟩
 ·rw [List.map_append,List.flatten_append]
  exact hz.keep f4 fun k hk t=>by have:k=g2:=t;have:=lowZ k hk;omega
 ·intro k hk
  rcases hk with hk | hk
  ·have o:=h.off k hk
   exact ⟨o.1,by omega,fun t=>(zf k t).elim o.2.2 fun t=>by have:=o.2.1;omega⟩
  ·have:=h.B
   exact ⟨by have:=hk.1;omega,by have:=hk.2;omega,fun t=>(zf k t).elim (off1 k hk) fun t=>by have:=hk.2;omega⟩
theorem kidsR_last {fin:Int} {rec:Bool→RS→Tr×RS} {k:Int} {num:Bool} {i:Nat} {acc:List Tr} {s:RS}:kidsR fin rec k num 0 i acc s=(acc,s):=rfl
theorem pE1 {k:Int} {num:Bool} {j:Nat} (h:j=0) (h6:k=6) (e:num=false):true=partB k num j:=by subst h h6;simp [partB]
theorem pE2 {k:Int} {num:Bool} {j:Nat} (h:j=0) (h6:k≠6) (e:num=false):(k==8)=partB k num j:=by subst h e;simp [partB,h6]
theorem pE3 {k:Int} {num:Bool} {j:Nat} (h:j≠0) (e:num=false):false=partB k num j:=by subst e;simp [partB,h]
theorem rr_tree (fin:Int):∀ (n:Nat) {w:World} {m b N:Nat} {s:RS} (h:IsRr w m b N fin s) (num:Bool) (p2:Int) (hp:p2+n=13) (h1:1≤p2),
  Ret Tryz.prog 102 #[.pointer (some ⟨b,0,none⟩),.bool num,.int .i64 p2] w fun r w'=>∃ v:TV,r=tvA v∧Made w w' (treeF fin n num s).1 v∧IsRr w' m b N fin (treeF fin n num s).2∧Fr (only b) w w':=by
 intro n
 induction n using Nat.strongRecOn with
 | _ n IH=>
 intro w m b N s h num p2 hp hp1
 have hbm:=h.lt
 have hmw:=h.le
 refine c102 _ num p2 w _ ?_
 unfold C102
 have e40:(⟨#[40]⟩:ByteArray)=str [40]:=rfl
 have e44:(⟨#[44]⟩:ByteArray)=str [44]:=rfl
 rw [e40,e44]
 refine TB.new fun g1 w1 hg1 tb1 f1 hs1=>?_
 refine JoinK.of (fun _ w'=>IsRr w' m b N fin (deepF fin n s)∧Fr (only b) w1 w') ?_ ?_
 ·unfold deepF
  refine ifB.dec (fun e=>?_) (fun e=>?_)
  ·rw [if_pos (by omega)]
   refine CallK.of (rr_fail (h.keep0 f1) 5) ?_
   rintro _ w2 ⟨rfl,h2,f2⟩
   exact ⟨(),rfl,h2,f2⟩
  ·rw [if_neg (by omega)]
   exact ⟨h.keep0 f1,Fr.refl _ _⟩
 rintro _ _ w2 ⟨h2,f2⟩
 have f12:Fr (only b) w w2:=Fr.of0 f1 f2
 have tb2:=tb1.keep f2 (fun t=>by have:g1=b:=t;omega)
 have hsz1:=f1.size
 have hsz2:=f2.size
 refine CallK.of (rr_next h2) ?_
 rintro _ w3 ⟨rfl,f3⟩
 refine ⟨_,rfl,?_⟩
 refine CallK.of (rr_kind _ num w3) ?_
 rintro _ w4 ⟨rfl,f4⟩
 refine ⟨_,rfl,?_⟩
 have f34:=f3.trans f4
 have h4:=h2.keep0 f34
 have tb4:=tb2.keep0 f34
 have f14:Fr (only b) w w4:=f12.then0 f34
 have hsz4:=f34.size
 obtain ⟨k,hk⟩:∃ k,kindR (nextF (deepF fin n s)) num=k:=⟨_,rfl⟩
 rw [hk]
 refine JoinK.of (fun c w'=>c.1=(decide (k=0)&&num)∧w4=w') ?_ ?_
 ·exact ifB.eq (fun e=>⟨by simp [e],rfl⟩) (fun e=>⟨by simp [e],rfl⟩)
 rintro _ ⟨c,_⟩ _ ⟨hc,rfl⟩
 dsimp only at hc ⊢
 rw [hc]
 refine ifB.by (fun e=>?_) (fun e=>?_)
 ·rw [Bool.and_eq_true,decide_eq_true_eq] at e
  obtain ⟨e0,rfl⟩:=e
  rw [treeF_zero (hk.trans e0),if_pos rfl]
  refine CallK.of (rr_number h4 false) ?_
  rintro _ w5 ⟨rfl,h5,f5⟩
  refine ⟨_,rfl,?_⟩
  have hsz5:=f5.size
  exact rr_tell (wB:=w5) (v:=(11,str [],_,(none,0,0),())) h5 (f14.trans f5) hmw (by omega) (by omega) (by omega) (tb4.keep f5 (fun t=>by have:g1=b:=t;omega)) (z17z _ _ 11 [] _) fun w6 h6 f6 m6=>⟨_,rfl,m6,h6,f6⟩
 refine ifB.eq (fun e0=>?_) (fun e0=>?_)
 ·have hnum:num=false:=by rw [decide_eq_true e0] at e;simpa using e
  subst hnum
  rw [treeF_zero (hk.trans e0),if_neg (by decide)]
  refine CallK.of (rr_fail h4 2) ?_
  rintro _ w5 ⟨rfl,h5,f5⟩
  refine ⟨(),rfl,?_⟩
  have hsz5:=f5.size
  exact rr_tell (wB:=w5) (v:=(0,str [],0,(none,0,0),())) h5 (f14.trans f5) hmw (by omega) (by omega) (by omega) (tb4.keep f5 (fun t=>by have:g1=b:=t;omega)) (z17z _ _ 0 [] 0) fun w6 h6 f6 m6=>⟨_,rfl,m6,h6,f6⟩
 -- some kind
 clear hc e c tb1 tb2
 obtain ⟨n',rfl⟩:∃ n',n=n'+1:=by
  cases n with
  | zero=>
   refine (e0 ?_).elim
   rw [← hk,nextF_err (s:=deepF fin 0 s) (fail_not (by decide)),kindR_nil]
  | succ n=>exact ⟨n,rfl⟩
 have hd:deepF fin (n'+1) s=s:=if_neg (by omega)
 rw [hd] at hk h2 h4
 have hne:s.l≠[]:=fun t=>by
  refine e0 ?_
  rw [← hk]
  have:nextF s=[]:=by unfold nextF;rw [t];split<;>rfl
  rw [this,kindR_nil]
 refine rr_step h4 hne fun w5 h5 f5=>?_
 have hsz5:=f5.size
 have tb5:=tb4.keep f5 (fun t=>by have:g1=b:=t;omega)
 refine TB.put (k,str [],0,(none,0,0),()) fun g2 w6 hg2 t26 f6=>?_
 have hsz6:=f6.size
 have hg26:=z3z t26
 have f16:Fr (only b) w w6:=(f14.trans f5).then0 f6
 have h6:=h5.keep0 f6
 have t16:=tb5.keep0 f6
 have hT:treeF fin (n'+1) num s=if k=1 then (.mk 1 [] 0 [],stepF s) else bodyF fin (treeF fin n') k num (mustF fin [40] (stepF s)):=by
  rw [treeF,hk,if_neg e0]
 rw [hT]
 refine ifB.eq (fun e1=>?_) (fun e1=>?_)
 ·subst e1
  rw [if_pos rfl]
  refine t26.ld ?_
  exact rr_tell (wB:=w6) h6 f16 hmw (by omega) (by omega) (by omega) t16 (z17z _ _ 1 [] 0) fun w7 h7 f7 m7=>⟨_,rfl,m7,h7,f7⟩
 rw [if_neg e1]
 refine CallK.of (rr_sign h6 [40] (by decide)) ?_
 rintro _ w7 ⟨rfl,h7,f7⟩
 refine ⟨(),rfl,?_⟩
 have hsz7:=f7.size
 have t17:=t16.keep f7 (fun t=>by have:g1=b:=t;omega)
 have t27:=t26.keep f7 (fun t=>by have:g2=b:=t;omega)
 refine parts_map k fun w8 f8=>?_
 have hsz8:=f8.size
 have h8:=h7.keep0 f8
 have t18:=t17.keep0 f8
 have t28:=t27.keep0 f8
 have f18:Fr (only b) w w8:=(f16.trans f7).then0 f8
 have hk16:=kindR_le (nextF s) num
 rw [hk] at hk16
 generalize mustF fin [40] (stepF s)=s2 at h8 ⊢
 have w25:str ([]:List UInt8)=(⟨#[]⟩:ByteArray):=rfl
 refine JoinK.of (fun _ w'=>IsRr w' m b N fin (headS fin k s2).2.2∧TB w' g1 (0,str [],0,(none,0,0),())∧TB w' g2 (k,str (headS fin k s2).1,(headS fin k s2).2.1,(none,0,0),())∧Fr (only b) w w') ?_ ?_
 ·refine JoinK.of (fun c w'=>(c.1=true↔k=2∨k=5∨k=12)∧w8=w') ?_ ?_
  ·refine ifB.eq (fun e=>⟨by simp [e],rfl⟩) (fun e=>ifB.eq (fun e'=>⟨by simp [e'],rfl⟩) (fun e'=>⟨by simp [e,e'],rfl⟩))
  rintro _ ⟨c,_⟩ _ ⟨hc,rfl⟩
  dsimp only at hc ⊢
  unfold headS
  refine ifB.by (fun e=>?_) (fun e=>?_)
  ·have e':=hc.1 e
   rw [if_pos e']
   refine CallK.of (rr_name h8) ?_
   rintro _ w9 ⟨rfl,h9,f9⟩
   refine ⟨_,rfl,?_⟩
   have t19:=t18.keep f9 (fun t=>by have:g1=b:=t;omega)
   refine (t28.keep f9 (fun t=>by have:g2=b:=t;omega)).s _ fun w10 t2a f10=>?_
   exact ⟨h9.keep f10 (fun k hk t=>by have:k=g2:=t;omega),t19.keep f10 (fun t=>by have:g1=g2:=t;omega),t2a,(f18.trans f9).comp f10 (fun k hk t=>by have:k=g2:=t;omega)⟩
  ·have e':¬ (k=2∨k=5∨k=12):=fun t=>by rw [hc.2 t] at e;cases e
   rw [if_neg e']
   refine ifB.eq (fun e7=>?_) (fun e7=>?_)
   ·rw [if_pos e7]
    refine CallK.of (rr_number h8 true) ?_
    rintro _ w9 ⟨rfl,h9,f9⟩
    refine ⟨_,rfl,?_⟩
    have t19:=t18.keep f9 (fun t=>by have:g1=b:=t;omega)
    refine (t28.keep f9 (fun t=>by have:g2=b:=t;omega)).n _ fun w10 t2a f10=>?_
    exact ⟨h9.keep f10 (fun k hk t=>by have:k=g2:=t;omega),t19.keep f10 (fun t=>by have:g1=g2:=t;omega),t2a,(f18.trans f9).comp f10 (fun k hk t=>by have:k=g2:=t;omega)⟩
   ·rw [if_neg e7]
    exact ⟨h8,t18,t28,f18⟩
 rintro _ _ wB ⟨hB,t1B,t2B,fB⟩
 have hszB:=fB.size
 have hg2B:=z3z t2B
 unfold bodyF
 generalize (headS fin k s2).1=nm at t2B ⊢
 generalize (headS fin k s2).2.1=nn at t2B ⊢
 generalize (headS fin k s2).2.2=s3 at hB ⊢
 have spot:Spot w wB m b g1 g2:=⟨hbm,hmw,by omega,by omega,hg2B⟩
 have hpn:partsN k≤3:=by unfold partsN;split;omega;split;omega;split<;>omega
 refine LoopK.of (fun st wc=>∃ (j:Nat) (acc:List Tr) (s':RS) (u:Sl) (vs:List TV) (S:Nat→Prop),st.1=j∧j≤partsN k∧vs.length=j∧Kids w wB wc m b g1 g2 N fin s' k nm nn acc u vs S ∧
   kidsR fin (treeF fin n') k num (partsN k - j) j acc s'=kidsR fin (treeF fin n') k num (partsN k) 0 [] s3) (fun st _=>partsN k - st.1.toNat)
  ⟨0,[],s3,(none,0,0),[],fun _=>False,rfl,by omega,rfl,⟨hB,fB,Nat.le_refl _,t1B,t2B,.inl ⟨rfl,rfl⟩,rfl,by unfold IsTrs;rfl,fun k t=>(z39z k t).elim,fun k t=>t.elim⟩,rfl⟩ ?_
 rintro _ ⟨i,_⟩ wc ⟨j,acc,s',u,vs,S,rfl,hj,hvl,K,hst⟩
 dsimp only
 refine ifB.dec (fun hlt=>?_) (fun hge=>?_)
 rotate_left
 ·have:j=partsN k:=by omega
  subst this
  rw [Nat.sub_self,kidsR_last] at hst
  rw [← hst]
  exact K.tell spot
 refine rr_code K.rd (ifB.eq (fun he=>?_) (fun he=>?_))
 rotate_left
 ·rw [kidsR_err k num _ j acc he] at hst
  rw [← hst]
  exact K.tell spot
 obtain ⟨q,hq⟩:∃ q,partsN k - j=q+1:=⟨partsN k - j - 1,by omega⟩
 rw [hq,z45z k num q j acc he] at hst
 have hszc:=K.fr.size
 -- a part, the comma behind
 have part:∀ (bb:Bool) (w68:World) (s'':RS),bb=partB k num j→s''=fst fin k j s'→Kids w wB w68 m b g1 g2 N fin s'' k nm nn acc u vs S →
   CallK Tryz.prog 102 #[.pointer (some ⟨b,0,none⟩),.bool bb,.int .i64 (IntKind.i64.wrap (p2+1))] w68 (.v (.agg TVK)) (fun (x71:TV) w72=>KeepK (fun k=>k≠b) w68 w72 (RunK Tryz.prog (Instr.buildSlice 39 1 #[(0,tvA x71)]) w72 (.v (.one .slc)) (fun (x73:Option Addr×Nat×Nat) w74=>KeepK (fun k=>k≠b) w72 w74 (RunK Tryz.prog (Builtin.append_ #[39,39] 39 #[.slice u.1 u.2.1 u.2.2,.slice x73.1 x73.2.1 x73.2.2]) w74 (.v (.one .slc)) (fun (x75:Option Addr×Nat×Nat) w76=>StK ((⟨g2,0,none⟩:Addr).add 3) (.slice x75.1 x75.2.1 x75.2.2) w76 (fun w77=>
     (∃ (j':Nat) (acc:List Tr) (s':RS) (u:Sl) (vs:List TV) (S:Nat→Prop),IntKind.i64.wrap ((j:Int)+1)=j'∧j'≤partsN k∧vs.length=j'∧Kids w wB w77 m b g1 g2 N fin s' k nm nn acc u vs S ∧
      kidsR fin (treeF fin n') k num (partsN k - j') j' acc s'=kidsR fin (treeF fin n') k num (partsN k) 0 [] s3)∧partsN k - (IntKind.i64.wrap ((j:Int)+1)).toNat<partsN k - (j:Int).toNat)))))):=by
  rintro bb w68 s'' rfl rfl KD
  rw [wI (x:=p2+1) (by omega) (by omega),wI (x:=(j:Int)+1) (by omega) (by omega)]
  refine CallK.of (IH n' (by omega) KD.rd (partB k num j) (p2+1) (by omega) (by omega)) ?_
  rintro _ w72 ⟨v,rfl,mv,r72,f72⟩
  refine ⟨v,rfl,?_⟩
  refine KD.more spot (by omega) r72 f72 mv fun we u' S' KE=>?_
  refine ⟨⟨j+1,_,_,u',_,S',rfl,by omega,by simp [hvl],KE,?_⟩,by omega⟩
  rw [show partsN k - (j+1)=q by omega]
  exact hst
 refine JoinK.of (fun c w'=>c.1=comF k j∧wc=w') ?_ ?_
 ·unfold comF
  refine ifB.dec (fun e=>⟨by rw [decide_eq_true (show 0<j by omega)];rfl,rfl⟩) (fun e=>?_)
  rw [decide_eq_false (show ¬ 0<j by omega)]
  refine ifB.eq (fun e5=>⟨by simp [e5],rfl⟩) (fun e5=>⟨by simp [e5],rfl⟩)
 rintro _ ⟨c,_⟩ _ ⟨hc,rfl⟩
 dsimp only at hc ⊢
 rw [hc]
 refine ifB.by (fun ec=>?_) (fun ec=>?_)
 ·refine CallK.of (rr_sign K.rd [44] (by decide)) ?_
  rintro _ w67 ⟨rfl,r67,f67⟩
  have KC:=K.keep spot f67 r67
  have hs'':mustF fin [44] s'=fst fin k j s':=by unfold fst;rw [if_pos ec]
  refine ⟨(),rfl,?_⟩
  refine DrewK.of fun w68 _ f68=>?_
  have KD:=KC.keep0 spot f68
  refine HoldK.of (fun k=>k≠b) ⟨by rw [z2z];show g2≠b;omega,?_⟩
  refine LdK.fld KD.t2 (x:=u) rfl ?_
  refine ifB.by (fun e=>part true _ _ (by simp [partB,e]) hs'' KD) (fun e=>ifB.eq (fun e0=>ifB.eq (fun e6=>part true _ _ (pE1 (by omega) e6 e) hs'' KD) (fun e6=>part (k==8) _ _ (pE2 (by omega) e6 e) hs'' KD)) (fun e0=>part false _ _ (pE3 (by omega) e) hs'' KD))
 ·have hs'':s'=fst fin k j s':=by unfold fst;rw [if_neg (by rw [ec];decide)]
  refine DrewK.of fun w68 _ f68=>?_
  have KD:=K.keep0 spot f68
  refine HoldK.of (fun k=>k≠b) ⟨by rw [z2z];show g2≠b;omega,?_⟩
  refine LdK.fld KD.t2 (x:=u) rfl ?_
  refine ifB.by (fun e=>part true _ _ (by simp [partB,e]) hs'' KD) (fun e=>ifB.eq (fun e0=>ifB.eq (fun e6=>part true _ _ (pE1 (by omega) e6 e) hs'' KD) (fun e6=>part (k==8) _ _ (pE2 (by omega) e6 e) hs'' KD)) (fun e0=>part false _ _ (pE3 (by omega) e) hs'' KD))
end Go.Proofs.YtdphmcanlhcokaaGreatDoor
