/-
  Texts of this claim, put together: JOpen, JPlain, JOpen2, NodeF, LedLaw, AgreeLaw, FrameSpec2, FrameSpec3, NodeLaw0, JCrash, NodeLaw, NodeLaw2, VcPv, CWorldG, WorldSpec, CCentsG, CValueG, ValueSpec, CCashG.
  Conditions: those of each theorem.
-/
import Derived.Test.YtmkehncgjnhhcaaGreatDoorQNL23x0
import Derived.Test.YtmkehncgjnhhcaaGreatDoorQNL23x1
import Derived.Test.YtmkehncgjnhhcaaGreatDoorQNL23x2
import Derived.Test.YtmkehncgjnhhcaaGreatDoorQNL23x3
import Derived.KernelRfl
import Derived.Laws.StructEq
import Derived.Test.YtmkehncgjnhhcaaGreatDoorProg
set_option linter.unusedVariables false
namespace Go.Proofs.YtmkehncgjnhhcaaGreatDoor
open Vc
def mV (bs:List UInt8):Nat:=256 * (bs.getD 0 0).toNat+(bs.getD 1 0).toNat
def iJ (bs:List UInt8):Option (List UInt8×List UInt8):=
 if bs.length<2 then none else if 4000<mV bs then none else if bs.length<mV bs+3 then none else
 if bs.getD (2+mV bs) 0≠jI 150 (bs.take (2+mV bs)) then none else some ((bs.drop 2).take (mV bs),bs.drop (mV bs+3))
theorem WJ (a b:UInt8):((BitVec.ofInt 64 ((a.toNat:Int) * 256) ||| BitVec.ofInt 64 (b.toNat:Int)).toNat:Int)=256 * (a.toNat:Int)+(b.toNat:Int):=by
 have ha:=UInt8.toNat_lt a;have hb:=UInt8.toNat_lt b;have e1:(BitVec.ofInt 64 ((a.toNat:Int) * 256)).toNat=2 ^ 8 * a.toNat:=by
  rw[show(a.toNat:Int) * 256=((2 ^ 8 * a.toNat:Nat):Int) by omega,BitVec.ofInt_natCast,BitVec.toNat_ofNat,Nat.mod_eq_of_lt (by omega)]
 have e2:(BitVec.ofInt 64 (b.toNat:Int)).toNat=b.toNat:=by
  rw[BitVec.ofInt_natCast,BitVec.toNat_ofNat,Nat.mod_eq_of_lt (by omega)]
 rw[BitVec.toNat_or,e1,e2,<- Nat.two_pow_add_eq_or_of_lt (by omega)];omega
def MX (w:World)(v:Sl)(bs:List UInt8)(r:Value)(w':World):Prop:=
 Fr none1 w w'/\match iJ bs with
 | none=>r=.tuple #[.slice none 0 0,.slice v.1 v.2.1 v.2.2,.bool false]
 | some (x,t)=>∃ u q:Sl,r=.tuple #[.slice u.1 u.2.1 u.2.2,.slice q.1 q.2.1 q.2.2,.bool true]/\bR w' u x/\(∀ k,au u k->w.heap.size<=k)/\aY w' q t/\q.2.1<=q.2.2/\∀ k,au q k->au v k
theorem WK {w:World}{v:Sl}{bs:List UInt8}(h:aY w v bs)(hc:v.2.1<=v.2.2)(hl:bs.length<=1000000):Ret Tryz.prog 87 #[.slice v.1 v.2.1 v.2.2] w (MX w v bs):=by
 have cC:=h.len;refine c87 v.1 v.2.1 v.2.2 w _ ?_;unfold C87 MX iJ;refine aa.dec (fun h2=>?_) (fun h2=>?_)
 ·rw[if_pos (by omega)];exact⟨Fr.refl _ _,rfl⟩
 rw[if_neg (by omega)];obtain⟨a0,WL,WM⟩:=h.cellAt (i:=0) (by omega) (by omega);obtain⟨a1,WN,WO⟩:=h.cellAt (i:=1) (by omega) (by omega);have b0:=UInt8.toNat_lt (bs.getD 0 0);have b1:=UInt8.toNat_lt (bs.getD 1 0);refine nP.mQ ?_;refine⟨a0,WL,by omega,by omega,?_⟩;refine fJ.mQ ((bs.getD 0 0).toNat:Int) (fun w7 f7=>ae.cell (WM w7 f7) ⟨rfl,f7⟩) ?_;refine fJ.mQ (IntKind.i64.wrap ((bs.getD 0 0).toNat:Int)) (fun w7 f7=>⟨rfl,f7⟩) ?_;refine⟨by omega,a1,WN,by omega,by omega,?_⟩;refine fJ.mQ ((bs.getD 1 0).toNat:Int) (fun w7 f7=>ae.cell (WO w7 f7) ⟨rfl,f7⟩) ?_;refine fJ.mQ (IntKind.i64.wrap ((bs.getD 1 0).toNat:Int)) (fun w7 f7=>⟨rfl,f7⟩) ?_;intro w1 f1;have f1:Fr none1 w w1:=f1;have WQ:IntKind.i64.wrap ((BitVec.ofInt 64 (IntKind.i64.wrap (IntKind.i64.wrap ((bs.getD 0 0).toNat:Int) * 2 ^ (min (Int.toNat 8) 64))) ||| BitVec.ofInt 64 (IntKind.i64.wrap ((bs.getD 1 0).toNat:Int))).toNat:Int)=(mV bs:Int):=by
  rw[wI (x:=((bs.getD 0 0).toNat:Int)) (by omega) (by omega),wI (x:=((bs.getD 1 0).toNat:Int)) (by omega) (by omega),show(2:Int) ^ (min (Int.toNat 8) 64)=256 from rfl,wI (x:=((bs.getD 0 0).toNat:Int) * 256) (by omega) (by omega),WJ];unfold mV;rw[wI (by omega) (by omega)];omega
 have abr:mV bs<=65535:=by unfold mV;omega
 rw[WQ];generalize mV bs=n at *;rw[wI (x:=2+(n:Int)) (by omega) (by omega),wI (x:=2+(n:Int)+1) (by omega) (by omega)];refine nP.mQ ?_;refine aa.dec (fun h3=>?_) (fun h3=>?_)
 ·rw[if_pos (by omega)]
  refine⟨fun D w2 f2=>f2,⟨fun D w2 f2=>f2,fun w2 f2=>?_⟩⟩;have f2:Fr none1 w1 w2:=f2;exact⟨f1.trans f2,rfl⟩
 rw[if_neg (by omega)];refine aa.dec (fun h4=>?_) (fun h4=>?_)
 ·rw[if_pos (by omega)]
  refine⟨fun D w2 f2=>f2,⟨fun D w2 f2=>f2,fun w2 f2=>?_⟩⟩;have f2:Fr none1 w1 w2:=f2;exact⟨f1.trans f2,rfl⟩
 rw[if_neg (by omega)];have r1:=h.af f1;obtain⟨a2,WR,MY⟩:=r1.cellAt (i:=2+(n:Int)) (by omega) (by omega);rw[show(2+(n:Int)).toNat=2+n by omega] at MY;refine⟨a2,WR,by omega,by omega,?_⟩;rw[show(2+(n:Int)).toNat=2+n by omega];refine fJ.mQ ((bs.getD (2+n) 0).toNat:Int) (fun w7 f7=>ae.cell (MY w7 f7) ⟨rfl,f7⟩) ?_;refine aY.sub r1 (n:=2+(n:Int)) (by omega) (by omega) hc fun hs=>?_;rw[show(2+(n:Int)).toNat=2+n by omega] at hs;refine fJ.mQ ((jI 150 (bs.take (2+n))).toNat:Int) (fun w7 f7=>?_) ?_
 ·refine ab.of (MJ (v:=(v.1,(2+(n:Int)).toNat,v.2.2)) (bs:=bs.take (2+n)) ?_ (by simp only[List.length_take];omega)) ?_
  ·rw[show(2+(n:Int)).toNat=2+n by omega];exact hs.af f7
  rintro _ _ ⟨rfl,rfl⟩;exact⟨_,rfl,rfl,f7⟩
 intro w2 f2;have f2:Fr none1 w1 w2:=f2;refine aa.ne (fun aA=>?_) (fun heq=>?_)
 ·rw[if_pos (fun t=>aA (by rw[t]))]
  exact⟨f1.trans f2,rfl⟩
 rw[if_neg (by rw[Decidable.not_not];exact UInt8.toNat_inj.1 (by omega))];have mW:=f1.trans f2;have r0:=vr w2;generalize Gs:({ w2 with drawn:=w2.drawn+1 }:World)=W0 at r0
 have MZ:=(h.af mW).af r0;have WS:((bs.drop (2:Int).toNat).take (2+(n:Int) - 2).toNat)=(bs.drop 2).take n:=by rw[show(2+(n:Int) - 2).toNat=n by omega];rfl
 -- the record in new memory
 obtain⟨jj,WU,WV⟩:∃ jj:Sl,aY W0 jj ((bs.drop 2).take n)/\∀ K:Option Addr->Nat->Nat->Prop,K jj.1 jj.2.1 jj.2.2->eu v.1 v.2.2 2 (2+(n:Int)) v.2.2 1 K:=by
  have:=aY.jj MZ (lo:=2) (hi:=2+(n:Int)) (K:=fun a l c=>∃ u:Sl,u=(a,l,c)/\aY W0 u ((bs.drop 2).take n)) (by omega) (by omega) (by omega) hc (fun u hu _ _ _=>⟨u,rfl,by rw[WS] at hu;exact hu⟩);obtain⟨q1,q2,q3,q4,u,hu,hr⟩:=this.out;exact⟨u,hr,fun K hK=>⟨q1,q2,q3,q4,by rw[hu] at hK;exact hK⟩⟩
 obtain⟨u,W1,dG,hu,q1,sU⟩:=MI WU (by simp only[List.length_take,List.length_drop];omega);refine⟨⟨fun D w9=>(D 4=false->w9=W0)/\(D 4=true->w9=W1),⟨fun _=>Gs,(fun t=>by cases t)⟩,?_⟩⟩;refine WV _ ?_;refine⟨u,fun D w9 hD _ hC=>?_,?_⟩
 ·obtain rfl:=hC.1 hD
  refine ab.of dG ?_;rintro _ _ ⟨rfl,rfl⟩;exact⟨u,rfl,rfl,(fun t=>by rw[sS] at t;cases t),fun _=>rfl⟩
 refine aY.jj ((MZ.af q1)) (lo:=2+(n:Int)+1) (hi:=v.2.1) (by omega) (by omega) (Int.le_refl _) hc fun q hq BW _ pF=>?_;intro w9 hC;obtain rfl:=hC.2 rfl;have e4:((bs.drop (2+(n:Int)+1).toNat).take ((v.2.1:Int) - (2+(n:Int)+1)).toNat)=bs.drop (n+3):=by
  rw[show(2+(n:Int)+1).toNat=n+3 by omega,List.take_of_length_le (by simp only[List.length_drop];omega)]
 rw[e4] at hq;refine⟨(mW.trans r0).trans q1,u,q,rfl,hu,fun k U=>?_,hq,BW,pF⟩;exact Nat.le_trans (mW.trans r0).size (sU k U)
theorem GC {bs x t:List UInt8}(h:iJ bs=some (x,t)):t.length+3<=bs.length/\x.length+t.length+3=bs.length/\x.length<=4000:=by
 unfold iJ at h;split at h
 ·cases h
 split at h
 ·cases h
 split at h
 ·cases h
 split at h
 ·cases h
 injection h with h
 injection h with h1 h2
 subst h1;subst h2;simp only[List.length_take,List.length_drop];omega
inductive lX:List UInt8->List (List UInt8)->List UInt8->Prop where
 | stop {bs:List UInt8}:iJ bs=none->lX bs [] bs
 | next {bs x t q:List UInt8} {l:List (List UInt8)}:iJ bs=some (x,t)->lX t l q->lX bs (x::l) q
theorem lX.len {bs q:List UInt8}{l:List (List UInt8)}(h:lX bs l q):q.length+3 * l.length<=bs.length/\∀ r∈l,r.length<=4000:=by
 induction h with
 | stop _=>simp
 | next h _ ih=>
  have:=GC h;simp only[List.length_cons,List.mem_cons];refine⟨by omega,fun r hr=>?_⟩
  rcases hr with rfl | hr
  ·exact this.2.2
  ·exact ih.2 r hr
theorem il.row {w:World}{S:Nat->Prop}{v:Sl}{rs:List (List UInt8)}(h:il w S v rs){i:Int}(h0:0<=i)(h1:i<v.2.1){K:Sl->Prop}(k:∀ u:Sl,aY w u (rs.getD i.toNat [])->K u):bK v.1 v.2.1 i 1 fun p=>ae .ah p w K:=by
 have hl:=h.len;obtain⟨⟨us,a1,a2,a3,a4⟩,o,l⟩:=h;have hi:i.toNat<us.length:=by omega
 exact aD.ld a1 h0 h1 (x:=us.getD i.toNat zl) (by rw[List.getElem?_map,List.getD_eq_getElem?_getD,List.getElem?_eq_getElem hi];rfl) (k _ (a3 i.toNat hi))
theorem il.M0 {w:World}{S:Nat->Prop}{v:Sl}{rs:List (List UInt8)}(h:il w S v rs){i:Int}(h0:0<=i)(h1:i<v.2.1){K:Sl->Prop}(k:∀ u:Sl,aY w u (rs.getD i.toNat [])->u.2.1<=u.2.2->(∀ k,au u k->S k)->K u):bK v.1 v.2.1 i 1 fun p=>ae .ah p w K:=by
 have hl:=h.len;obtain⟨⟨us,a1,a2,a3,a4⟩,o,l⟩:=h;have hi:i.toNat<us.length:=by omega
 have hm:us.getD i.toNat zl∈us:=by rw[List.getD_eq_getElem?_getD,List.getElem?_eq_getElem hi];exact List.getElem_mem hi
 exact aD.ld a1 h0 h1 (x:=us.getD i.toNat zl) (by rw[List.getElem?_map,List.getD_eq_getElem?_getD,List.getElem?_eq_getElem hi];rfl) (k _ (a3 i.toNat hi) (a4 _ hm).2 fun k U=>((a4 _ hm).1 k U).1)
theorem M1 {a b c:UInt8}(h:a ^^^ c=b ^^^ c):a=b:=by
 have:(a ^^^ c) ^^^ c=(b ^^^ c) ^^^ c:=by rw[h]
 rwa[UInt8.xor_assoc,UInt8.xor_assoc,UInt8.xor_self,UInt8.xor_zero,UInt8.xor_zero] at this
theorem WW {a b c:UInt8}(h:c ^^^ a=c ^^^ b):a=b:=by
 rw[UInt8.xor_comm c a,UInt8.xor_comm c b] at h;exact M1 h
theorem M3:∀ (l:List UInt8) (a v:UInt8) (j:Nat),j<l.length->jI a (l.set j v)=jI a l->v=l.getD j 0
 | [],_,_,_,h,_=>by simp at h
 | c::l,a,v,0,_,h=>by
  rw[List.set_cons_zero,wN,wN,MV (a ^^^ v),MV (a ^^^ c)] at h;exact WW (M1 h)
 | c::l,a,v,j+1,hj,h=>by
  rw[List.set_cons_succ,wN,wN] at h;have:=M3 l (a ^^^ c) v j (by simpa using hj) h;simpa using this
def hd (n:Nat):List UInt8:=[toByte ((n:Int) / 256),toByte ((n:Int) % 256)]
theorem M4 {n:Nat}(h:n<=4000)(t:List UInt8):mV (hd n++t)=n:=by
 have e1:=MW (z:=(n:Int) / 256) (by omega) (by omega);have e2:=MW (z:=(n:Int) % 256) (by omega) (by omega);show 256 * (toByte ((n:Int) / 256)).toNat+(toByte ((n:Int) % 256)).toNat=n;omega
theorem GD {n:Nat}(hn:n<=4000){m t:List UInt8}(hm:m.length=n)(e:UInt8):iJ (hd n++m++[e]++t)=if e=jI 150 (hd n++m) then some (m,t) else none:=by
 have hs:mV (hd n++m++[e]++t)=n:=by
  rw[List.append_assoc,List.append_assoc];exact M4 hn _
 have hlen:(hd n++m).length=2+n:=by rw[List.length_append,hm];rfl
 unfold iJ;have abt:(hd n++m++[e]++t).length=2+n+1+t.length:=by rw[List.length_append,List.length_append,hlen];rfl
 rw[hs,if_neg (by omega),if_neg (by omega),if_neg (by omega)];have e1:(hd n++m++[e]++t).getD (2+n) 0=e:=by
  rw[List.getD_eq_getElem?_getD,List.append_assoc,List.getElem?_append_right (by omega),hlen,Nat.sub_self];rfl
 have e2:(hd n++m++[e]++t).take (2+n)=hd n++m:=by
  rw[List.append_assoc,<- hlen,List.take_left]
 have e3:((hd n++m++[e]++t).drop 2).take n=m:=by
  show((m++[e]++t)).take n=m;rw[List.append_assoc,<- hm,List.take_left]
 have e4:(hd n++m++[e]++t).drop (n+3)=t:=by
  rw[show n+3=(hd n++m++[e]).length by simp[hd,hm],List.drop_left]
 rw[e1,e2,e3,e4]
 by_cases h:e=jI 150 (hd n++m)
 ·rw[if_neg (by simpa using h),if_pos h]
 ·rw[if_pos h,if_neg h]
theorem GF (x:List UInt8):bN x=hd x.length++x++[jI 150 (hd x.length++x)]:=rfl
theorem WX {x:List UInt8}(t:List UInt8)(h:x.length<=4000):iJ (bN x++t)=some (x,t):=by
 rw[GF,GD h rfl,if_pos rfl]
theorem WY {x:List UInt8}(t:List UInt8)(h:x.length<=4000){j:Nat}{v:UInt8}(h2:2<=j)(hj:j<x.length+3)(hv:v≠(bN x).getD j 0):iJ ((bN x).set j v++t)=none:=by
 have hh:(hd x.length).length=2:=rfl;have hl:(hd x.length++x).length=2+x.length:=by rw[List.length_append,hh]
 rw[GF] at hv ⊢
 by_cases he:j=2+x.length
 ·subst he
  rw[List.set_append_right _ _ (by omega),hl,Nat.sub_self,List.set_cons_zero,GD h rfl,if_neg];intro t;apply hv;rw[t,List.getD_eq_getElem?_getD,List.getElem?_append_right (by omega),hl,Nat.sub_self];rfl
 ·have e0:(hd x.length++x).set j v=hd x.length++x.set (j - 2) v:=by
   rw[List.set_append_right _ _ (by omega)];rfl
  rw[List.set_append_left _ _ (by omega),e0,GD h (by simp),if_neg];intro t;apply hv;rw[<- e0] at t;have:=M3 _ 150 v j (by omega) t.symm;rw[this,Fs (hd x.length++x) _ _ (by omega)]
def cQ:List (List UInt8)->List UInt8
 | []=>[]
 | x::l=>bN x++cQ l
theorem WZ (a b:List (List UInt8)):cQ (a++b)=cQ a++cQ b:=by
 induction a with
 | nil=>rfl
 | cons x l ih=>show bN x++cQ (l++b)=(bN x++cQ l)++cQ b;rw[ih,List.append_assoc]
theorem zt (a:List (List UInt8))(x:List UInt8):cQ (a++[x])=cQ a++bN x:=by
 rw[WZ];show cQ a++(bN x++[])=_;rw[List.append_nil]
theorem BX {t:List UInt8}(ht:iJ t=none):∀ (l:List (List UInt8)),(∀ r∈l,r.length<=4000)->lX (cQ l++t) l t
 | [],_=>.stop ht
 | x::l,h=>by
  refine .next (x:=x) (t:=cQ l++t) ?_ (BX ht l fun r hr=>h r (by simp[hr]));show iJ (bN x++cQ l++t)=_;rw[List.append_assoc];exact WX _ (h x (by simp))
theorem M5:iJ []=none:=by unfold iJ;rw[if_pos (by simp)]
def W4 (w:World)(b g:Nat)(s:bM)(rows:List (List UInt8))(rest:List UInt8)(r:Value)(w':World):Prop:=
 (∃ (p:Nat) (S:Nat->Prop) (g':Nat) (s':bM),r=.tuple #[.pointer (some ⟨p,0,none⟩),.int .i64 0]/\w.heap.size<=p/\Fr (only b) w w'/\(∀ k,S k->w.heap.size<=k)/\(g'=b\/g'=g\/w.heap.size<=g')/\ib w' S p b g' s' false rows /\
  (rest=[]/\s'=s\/rest≠[]/\(kR s ((s.b.length - rest.length:Nat):Int)).2=0/\s'=(kR s ((s.b.length - rest.length:Nat):Int)).1)) \/
 (rest≠[]/\(kR s ((s.b.length - rest.length:Nat):Int)).2≠0/\r=.tuple #[.pointer none,.int .i64 (kR s ((s.b.length - rest.length:Nat):Int)).2]/\j0 w b g (kR s ((s.b.length - rest.length:Nat):Int)).1 w')
theorem W5 {w:World}{b g:Nat}{s:bM}{rows:List (List UInt8)}{rest:List UInt8}(h:gn w b g s)(hd:s.dead=false)(hP:lX s.b rows rest):
  Ret Tryz.prog 39 #[.pointer (some ⟨b,0,none⟩)] w (W4 w b g s rows rest):=by
 have kK:=h.lt;have lr:=h.pB;have jE:=h.ok.len;refine c39 _ w _ ?_;refine ab.of (MB h) ?_;rintro _ _ ⟨rfl,rfl⟩;rw[hd];refine⟨_,rfl,aa.f rfl ?_⟩;refine aq.of fun p w1 hp BU f1 jL=>?_;have h1:=h.af f1;refine ab.of (VG h1) ?_;rintro _ w2 ⟨u,rfl,hu,f2,sU⟩;refine⟨u,rfl,?_⟩;have cS:=hu.len;have mW:=f1.trans f2;have VK:=f2.size;have M6:∀ k,au u k->k<w2.heap.size:=fun k U=>aD.lt hu U;have F0:Fr (only p) w2 w2:=Fr.refl _ _;refine bj.of (fun q w'=>∃ (jl:Sl) (S:Nat->Prop) (rs:List (List UInt8)) (bs:List UInt8),aY w' q.1 bs/\q.1.2.1<=q.1.2.2/\(∀ k,au q.1 k->au u k)/\(∃ l,rows=rs++l/\lX bs l rest)/\bs.length+3 * rs.length<=s.b.length /\
   w'.heap[p]? = some (.cells #[.pointer (some ⟨b,0,none⟩),.slice jl.1 jl.2.1 jl.2.2,.bool false] 181 (0,0))/\il w' S jl rs/\(∀ k,S k->w2.heap.size<=k)/\Fr (only p) w2 w') (fun q _=>q.1.2.1)
  ⟨(none,0,0),fun _=>False,[],s.b,hu.rd,hu.cap,fun k U=>U,⟨rows,rfl,hP⟩,by simp,f2.af BU,zm _ _ (fun k t=>t.elim),fun k t=>t.elim,F0⟩ ?_
 rintro _ ⟨q,_⟩ w3 ⟨jl,S,rs,bs,hq,BW,pF,⟨l,qt,BY⟩,hlen,Gw,oE,hS,f3⟩;dsimp only at hq BW pF ⊢;have W6:=hq.len;refine ab.of (WK hq BW (by omega)) ?_;rintro r w4 ⟨f4,hr⟩;have wO:=f4.af Gw;have M7:=oE.af f4;have f24:Fr (only p) w2 w4:=f3.dp f4;have Vm:=f24.size;cases BY with
 | stop hn=>
  rw[hn] at hr;dsimp only at hr;subst hr;refine⟨((none,0,0),(q.1,q.2.1,q.2.2),false,()),rfl,aa.t rfl ?_⟩;rw[List.append_nil] at qt;subst qt;have h4:gn w4 b g s:=(h.af mW).ag f24 (fun t=>by have:b=p:=t;omega) (fun t=>by have:g=p:=t;omega);have j4:ib w4 S p b g s false rows:=⟨h4,⟨jl,wO,M7⟩,by omega,fun k U=>by have:=hS k U;omega⟩;refine aa.dec (fun nW=>?_) (fun hz=>?_)
  ·have BG:((u.2.1:Int) - (q.2.1:Int))=((s.b.length - rest.length:Nat):Int):=by omega
   rw[wI (x:=(u.2.1:Int) - (q.2.1:Int)) (by omega) (by omega),BG];have yw:rest≠[]:=fun e=>by rw[e,List.length_nil] at W6;omega
   refine ab.of (VM h4 _) ?_;rintro _ w5 ⟨rfl,t5⟩;have f5:=t5.1;have xU:=mW.fresh f24 (by omega);obtain⟨g',ry,j5⟩:=j4.Gp t5;have zu:g'=b\/g'=g\/w.heap.size<=g':=by
    have:=xU.size
    rcases ry with t | t | t
    ·exact .inl t
    ·exact .inr (.inl t)
    ·exact .inr (.inr (by omega))
   refine⟨_,rfl,aa.ne (fun he=>?_) (fun he=>?_)⟩
   ·refine .inr ⟨yw,he,rfl,(xU.mono fun _ _ t=>t.elim).trans f5,g',zu,j5.file⟩
   ·exact .inl ⟨p,S,g',_,rfl,by omega,(xU.mono fun _ _ t=>t.elim).trans f5,fun k U=>Nat.le_trans mW.size (hS k U),zu,j5,.inr ⟨yw,he,rfl⟩⟩
  ·have W7:rest=[]:=List.eq_nil_of_length_eq_zero (by omega)
   exact .inl ⟨p,S,g,s,rfl,by omega,(mW.fresh f24 (by omega)).mono fun _ _ t=>t.elim,fun k U=>Nat.le_trans mW.size (hS k U),.inr (.inl rfl),j4,.inl ⟨W7,rfl⟩⟩
 | next hf W8=>
  rename_i x t l';rw[hf] at hr;obtain⟨y,q2,hr,hy,M8,nU,W9,BZ⟩:=hr;subst hr;have aU:=GC hf;refine⟨((y.1,y.2.1,y.2.2),(q2.1,q2.2.1,q2.2.2),true,()),rfl,aa.f rfl ?_⟩;refine ae.ai wO (x:=jl) rfl ?_;have B0:=f4.size;have s23:=f3.size;have BT:=oE.lt;obtain⟨m,w5,z,w6,r1,f5,r2,f6,S',mU,hz⟩:=M7.snoc hy.rd hy.cap (fun k U=>⟨aD.lt hy U,fun t=>by have:=BT k t;have:=M8 k U;omega⟩) (by omega);refine⟨m,w5,r1,z,w6,r2,?_⟩;have GA:¬ au jl p:=fun t=>by have:=hS p (oE.own p t);omega
  have Xa:=f6.ag wO GA;refine ay.ai Xa (by simp) rfl fun w7 GG f7 _=>?_;have zr:∀ k,S' k->w2.heap.size<=k:=fun k U=>by
   rcases mU k U with t | t | t
   ·exact hS k t
   ·have:=M8 k t;omega
   ·omega
  have f46:∀ k,au q2 k->¬ au jl k:=fun k U t=>by have:=M6 k (pF k (BZ k U));have:=hS k (oE.own k t);omega
  have B1:aY w7 q2 t:=(nU.ag f6 f46).ag f7 (fun k U t=>by have:=M6 k (pF k (BZ k U));have:=sU k (pF k (BZ k U));have:k=p:=t;omega);refine⟨⟨z,S',rs++[x],t,B1,W9,fun k U=>pF k (BZ k U),⟨l',by rw[qt];simp,W8⟩,by simp only[List.length_append,List.length_singleton];omega,GG,hz.ag f7 (fun k U t=>by have:=zr k U;have:k=p:=t;omega),zr,?_⟩,?_⟩
  ·exact(f24.comp f6 (fun x hx t=>by have:=hS x (oE.own x t);omega)).trans f7
  ·have:=nU.len
   dsimp only;omega
theorem Xb:∀ (n:Nat) (bs:List UInt8),bs.length<=n->∃ rows rest,lX bs rows rest:=by
 intro n
 induction n with
 | zero=>
  intro bs h;refine⟨[],bs,.stop ?_⟩;unfold iJ;rw[if_pos (by omega)]
 | succ n ih=>
  intro bs h;cases hf:iJ bs with
  | none=>exact⟨[],bs,.stop hf⟩
  | some xt=>
   obtain⟨x,t⟩:=xt;have:=GC hf;obtain⟨rows,rest,hp⟩:=ih t (by omega);exact⟨x::rows,rest,.next hf hp⟩
set_option maxRecDepth 100000
def wP:Nat->List UInt8->List (List UInt8)×List UInt8
 | 0,bs=>([],bs)
 | n+1,bs=>match iJ bs with
  | none=>([],bs)
  | some (x,t)=>(x::(wP n t).1,(wP n t).2)
def uS (bs:List UInt8):List (List UInt8)×List UInt8:=wP bs.length bs
def lv (s:bM):bM×List (List UInt8)×Int:=
 if s.dead=true then(s,[],11) else if(uS s.b).2=[] then(s,(uS s.b).1,0) else
 ((kR s ((s.b.length - (uS s.b).2.length:Nat):Int)).1,if(kR s ((s.b.length - (uS s.b).2.length:Nat):Int)).2≠0 then[] else(uS s.b).1,(kR s ((s.b.length - (uS s.b).2.length:Nat):Int)).2)
structure j1 where
 fs:bM
 d:Bool
 rs:List (List UInt8)
def j1.put (j:j1)(x:List UInt8):j1×Int:=
 (⟨(iq j.fs j.d x).1,(iq j.fs j.d x).2.1,if(iq j.fs j.d x).2.2.2=true then j.rs++[x] else j.rs⟩,(iq j.fs j.d x).2.2.1)
structure M9 where
 e:Int
 h:Int
 s:Int->Bool
def sV:M9:=⟨-1,-1,fun _=>false⟩
structure NodeM where
 kb:List UInt8
 side:Int
 j:j1
 p:PeerM
 w:M9
 aV:Int
 number:Int
namespace NodeM
def record (n:NodeM)(b:List UInt8):NodeM×Bool:=
 match b with
 | []=>(n,false)
 | c::r=>
  if c=1 then({ n with aV:=n.aV+1 },r.isEmpty)
  else if c=2 then
   (if(hZ false r).2≠0 then(n,false) else({ n with p:=(n.p.bD { eD with dj:=true,bg:=(hZ false r).1 }).1 },(n.p.bD { eD with dj:=true,bg:=(hZ false r).1 }).2==0))
  else if c=3 then
   (if(fw false r).2≠0 then(n,false) else if n.p.len % 2≠n.side then(n,false) else({ n with p:=(n.p.bD { eD with cM:=true,bI:=(fw false r).1 }).1 },true))
  else(n,false)
def records (n:NodeM):List (List UInt8)->NodeM×Bool
 | []=>(n,true)
 | b::l=>if(n.record b).2=true then records (n.record b).1 l else((n.record b).1,false)
def fresh (kb:List UInt8)(side:Int)(fs:bM)(rs:List (List UInt8)):NodeM:=⟨kb,side,⟨fs,false,rs⟩,lT kb side,sV,0,0⟩
def open_ (kb:List UInt8)(side:Int)(s:bM):bM×Option NodeM×Int:=
 if side≠0/\side≠1 then(s,none,1) else if(lv s).2.2≠0 then((lv s).1,none,(lv s).2.2) else
 if((fresh kb side (lv s).1 (lv s).2.1).records (lv s).2.1).2=false then((lv s).1,none,12) else
 let n:=((fresh kb side (lv s).1 (lv s).2.1).records (lv s).2.1).1
 if(n.j.put [1]).2≠0 then((n.j.put [1]).1.fs,none,(n.j.put [1]).2) else((n.j.put [1]).1.fs,some { n with j:=(n.j.put [1]).1,aV:=n.aV+1 },0)
def dead (n:NodeM):Bool:=n.j.d
def offer (n:NodeM)(m:aQ):NodeM×Int:=if n.dead=true then(n,11) else({ n with p:=(n.p.offer m).1 },(n.p.offer m).2)
def dV (a:cG):List UInt8×Int:=if a.dj=true then(2::(fZ a.bg).1,(fZ a.bg).2) else(3::(da a.bI).1,(da a.bI).2)
def ag (n:NodeM)(a:cG):NodeM×Int:=
 if a.dj=false/\a.cM=false then(n,0) else if(dV a).2≠0 then(n,(dV a).2) else({ n with j:=(n.j.put (dV a).1).1 },(n.j.put (dV a).1).2)
def jn (kb:List UInt8)(side aV:Int):List cU->Int->List (List UInt8)×Int×Int
 | [],n=>([],n,0)
 | f::l,n=>
  if(jX kb (side,aV,n,f.2.2.2)).2≠0 then([],n,(jX kb (side,aV,n,f.2.2.2)).2) else
  if(jn kb side aV l (n+1)).2.2≠0 then([],(jn kb side aV l (n+1)).2.1,(jn kb side aV l (n+1)).2.2) else
  ((jX kb (side,aV,n,f.2.2.2)).1::(jn kb side aV l (n+1)).1,(jn kb side aV l (n+1)).2.1,0)
def act (n:NodeM)(a:cG):NodeM×List (List UInt8)×Int:=
 if(n.ag a).2≠0 then((n.ag a).1,[],(n.ag a).2) else
 if((n.ag a).1.p.bD a).2≠0 then((n.ag a).1,[],((n.ag a).1.p.bD a).2) else
 ({ (n.ag a).1 with p:=((n.ag a).1.p.bD a).1,number:=(jn n.kb n.side n.aV a.cz n.number).2.1 },(jn n.kb n.side n.aV a.cz n.number).1,(jn n.kb n.side n.aV a.cz n.number).2.2)
def tick (n:NodeM):NodeM×List (List UInt8)×Int:=if n.dead=true then(n,[],11) else n.act n.p.tick
end NodeM
theorem qu (n:Int):cv n=true↔-1000000000000<=n/\n<=1000000000000:=by unfold cv;rw[Bool.and_eq_true,decide_eq_true_eq,decide_eq_true_eq]
theorem Na {a b:Int}(h:(kA a b).2=true):cv a=true/\cv b=true/\cv (a * b)=true/\(kA a b).1=a * b:=by
 unfold kA at *;split at h
 ·rename_i hc
  rw[Bool.and_eq_true,Bool.and_eq_true] at hc;rw[if_pos (by rw[hc.1.1,hc.1.2,hc.2];rfl)];exact⟨hc.1.1,hc.1.2,hc.2,rfl⟩
 ·cases h
theorem Nb {n:Int}(h:cv n=true):cv (-n)=true:=by rw[qu] at *;omega
structure zv (w:cP):Prop where
 fx:∀ x∈w.fx,cv x.2=true
 Xc:w.fx.length<=32
 ch:∀ x∈w.ch,(x.2.1=0\/x.2.1=1)/\0<=x.2.2/\x.2.2<=10000
theorem Nc {κ ν:Type}[DecidableEq κ]{k:κ}{v:ν}:∀ {l:List (κ×ν)},bd k l=some v->(k,v)∈l
 | [],h=>by simp[bd] at h
 | (a,u)::l,h=>by
  unfold bd at h;split at h
  ·rename_i e;subst e;injection h with h;subst h;simp
  ·exact List.mem_cons_of_mem _ (Nc h)
theorem B2 {κ ν:Type}[DecidableEq κ]{k:κ}{v:ν}{x:κ×ν}:∀ {l:List (κ×ν)},x∈ji k v l->x∈l\/x=(k,v)
 | [],h=>by simp[ji] at h;exact .inr h
 | (a,u)::l,h=>by
  unfold ji at h;split at h
  ·rename_i e;subst e
   rcases List.mem_cons.1 h with h | h
   ·exact .inr h
   ·exact .inl (List.mem_cons_of_mem _ h)
  ·rcases List.mem_cons.1 h with h | h
   ·exact .inl (by simp[h])
   ·rcases B2 h with h | h
    ·exact .inl (List.mem_cons_of_mem _ h)
    ·exact .inr h
theorem Xd (o:Ob):(bY o).length<=bo o:=by
 have hf:∀ (l out:List (List UInt8)),(l.foldl fW out).length<=out.length+l.length:=by
  intro l
  induction l with
  | nil=>intro out;simp
  | cons s l ih=>
   intro out;have:=ih (fW out s);have h2:(fW out s).length<=out.length+1:=by unfold fW;split<;>simp
   simp only[List.foldl_cons,List.length_cons];omega
 induction o with
 | none=>simp[bY]
 | const n=>simp[bY]
 | fix s=>simp[bY,bo]
 | neg o ih=>unfold bY bo;have:=hf (bY o) [];simp at this;omega
 | add l r a b=>unfold bY bo;have h1:=hf (bY l) [];have h2:=hf (bY r) ((bY l).foldl fW []);simp at h1;omega
 | mul l r a b=>unfold bY bo;have h1:=hf (bY l) [];have h2:=hf (bY r) ((bY l).foldl fW []);simp at h1;omega
 | max l r a b=>unfold bY bo;have h1:=hf (bY l) [];have h2:=hf (bY r) ((bY l).foldl fW []);simp at h1;omega
theorem GH (w:cP)(d:Int)(o:Ob):(mM w d o).length<=bo o:=by
 unfold mM;split
 ·simp
 ·exact Nat.le_trans (List.length_filter_le _ _) (Xd o)
theorem zy (d:Int):∀ (names:List (List UInt8)) (ws:List fX),∃ new,kO d names ws=ws++new/\new.length<=names.length
 | [],ws=>⟨[],by simp[kO],by simp⟩
 | s::names,ws=>by
  unfold kO;simp only[List.foldl_cons];split
  ·obtain⟨new,h1,h2⟩:=zy d names ws
   exact⟨new,h1,by simp;omega⟩
  ·obtain⟨new,h1,h2⟩:=zy d names (ws++[(false,s,[],d,0)])
   refine⟨(false,s,[],d,0)::new,?_,by simp;omega⟩;unfold kO at h1;rw[h1];simp
theorem Nd (id:List UInt8)(w:cP):∀ (t:Tm) (d k:Int) (x:gY),∃ fs ws,(cg id w t d k x).1=(x.1++fs,x.2++ws)/\fs.length<=aJ t/\ws.length<=aJ t/\(cv k=true->∀ f∈fs,cv f.2.2=true):=by
 intro t
 induction t with
 | none=>intro d k x;exact⟨[],[],by simp[cg],by simp,by simp,by simp⟩
 | zero=>intro d k x;exact⟨[],[],by simp[cg],by simp,by simp,by simp⟩
 | one s=>intro d k x;exact⟨[(d,s,k)],[],by simp[cg],by simp[aJ],by simp,fun h f hf=>by simp at hf;subst hf;exact h⟩
 | gh t ih=>
  intro d k x;obtain⟨fs,ws,h1,h2,h3,h4⟩:=ih d (-k) x;exact⟨fs,ws,h1,by unfold aJ;omega,by unfold aJ;omega,fun h=>h4 (Nb h)⟩
 | and l r a b=>
  intro d k x;obtain⟨fs,ws,h1,h2,h3,h4⟩:=a d k x;obtain⟨Xe,Xf,g1,g2,g3,g4⟩:=b d k (cg id w l d k x).1;unfold cg;split
  ·exact⟨fs,ws,h1,by unfold aJ;omega,by unfold aJ;omega,h4⟩
  ·refine⟨fs++Xe,ws++Xf,by rw[g1,h1];simp,by unfold aJ;simp;omega,by unfold aJ;simp;omega,fun h f hf=>?_⟩
   rcases List.mem_append.1 hf with hf | hf
   ·exact h4 h f hf
   ·exact g4 h f hf
 | when n t ih=>
  intro d k x;obtain⟨fs,ws,h1,h2,h3,h4⟩:=ih (max d n) k x;exact⟨fs,ws,h1,by unfold aJ;omega,by unfold aJ;omega,h4⟩
 | scale o t ih=>
  intro d k x;unfold cg;split
  ·exact⟨[],[],by simp,by simp,by simp,by simp⟩
  split
  ·obtain⟨new,h1,h2⟩:=zy d (mM w d o) x.2
   have:=GH w d o;exact⟨[],new,by simp[h1],by simp,by unfold aJ;omega,by simp⟩
  split
  ·exact⟨[],[],by simp,by simp,by simp,by simp⟩
  rename_i hm;split
  ·exact⟨[],[],by simp,by simp,by simp,by simp⟩
  ·obtain⟨fs,ws,h1,h2,h3,h4⟩:=ih d (kA k (eN w d o).1).1 x
   have hm:=Na (by simpa using hm);exact⟨fs,ws,h1,by unfold aJ;omega,by unfold aJ;omega,fun _=>h4 (by rw[hm.2.2.2];exact hm.2.2.1)⟩
 | cond o l r a b=>
  intro d k x;unfold cg;split
  ·exact⟨[],[],by simp,by simp,by simp,by simp⟩
  split
  ·obtain⟨new,h1,h2⟩:=zy d (mM w d o) x.2
   have:=GH w d o;exact⟨[],new,by simp[h1],by simp,by unfold aJ;omega,by simp⟩
  split
  ·obtain⟨fs,ws,h1,h2,h3,h4⟩:=a d k x
   exact⟨fs,ws,h1,by unfold aJ;omega,by unfold aJ;omega,h4⟩
  ·obtain⟨fs,ws,h1,h2,h3,h4⟩:=b d k x
   exact⟨fs,ws,h1,by unfold aJ;omega,by unfold aJ;omega,h4⟩
 | or s l r a b=>
  intro d k x;unfold cg;split
  ·exact⟨[],_,by simp;rfl,by simp,by unfold aJ;simp,by simp⟩
  ·rename_i p since _
   split
   ·obtain⟨fs,ws,h1,h2,h3,h4⟩:=a (max d since) k x
    exact⟨fs,ws,h1,by unfold aJ;omega,by unfold aJ;omega,h4⟩
   ·obtain⟨fs,ws,h1,h2,h3,h4⟩:=b (max d since) k x
    exact⟨fs,ws,h1,by unfold aJ;omega,by unfold aJ;omega,h4⟩
theorem Nf {id:List UInt8}{t:Tm}{day:Int}{w:cP}(h:(fm id t day w).2=0):jf t=0/\0<=day/\day<=10000/\(cg id w t day 1 ([],[])).2=0/\(fm id t day w).1=(cg id w t day 1 ([],[])).1:=by
 unfold fm at h ⊢;split at h
 ·cases h
 ·rename_i h1
  rw[if_neg h1];split at h
  ·rename_i h2;exact absurd h h2
  ·rename_i h2
   rw[if_neg h2];have h1:¬ jf t≠0/\¬ day<0/\¬ 10000<day:=⟨fun q=>h1 (.inl q),fun q=>h1 (.inr (.inl q)),fun q=>h1 (.inr (.inr q))⟩;exact⟨Classical.not_not.1 h1.1,by omega,by omega,Classical.not_not.1 h2,rfl⟩
theorem GI {t:Tm}(h:jf t=0):cx t=true/\aJ t<=60/\cd t<=12/\(fq t).Nodup:=by
 unfold jf at h;split at h
 ·cases h
 split at h
 ·cases h
 split at h
 ·cases h
 split at h
 ·rename_i h1 h2 h3 h4;exact⟨by simpa using h1,by omega,by omega,h4⟩
 ·cases h
theorem GJ (id:List UInt8)(t:Tm)(day:Int)(w:cP):(fm id t day w).1.1.length<=60/\(fm id t day w).1.2.length<=60/\∀ f∈(fm id t day w).1.1,cv f.2.2=true:=by
 by_cases h:(fm id t day w).2=0
 ·obtain⟨h1,_,_,_,h5⟩:=Nf h
  obtain⟨_,h6,_⟩:=GI h1;obtain⟨fs,ws,g1,g2,g3,g4⟩:=Nd id w t day 1 ([],[]);rw[h5,g1];simp only[List.nil_append];exact⟨by omega,by omega,g4 rfl⟩
 ·have:(fm id t day w).1=([],[]):=by
   unfold fm at h ⊢;split
   ·rfl
   ·rename_i h1
    rw[if_neg h1] at h;split
    ·rfl
    ·rename_i h2;rw[if_neg h2] at h;exact absurd rfl h
  rw[this];exact⟨by simp,by simp,by simp⟩
structure lY (l:cu):Prop where
 day:0<=l.day/\l.day<=10000
 num:l.cF.length<=8
 ids:(l.cF.map (·.1)).Nodup
 ok:∀ d∈l.cF,(fm d.1 d.2.2 d.2.1 l.w).2=0
 w:zv l.w
 fC:∀ x∈l.fC,-480000000000000<=x.2/\x.2<=480000000000000
theorem Xg:lY wo:=⟨⟨by decide,by decide⟩,by decide,List.nodup_nil,(fun d hd=>nomatch hd),⟨(fun x hx=>nomatch hx),by decide,(fun x hx=>nomatch hx)⟩,(fun x hx=>nomatch hx)⟩
theorem Ng (w:cP):∀ (l:List jF) (x:gY),(∀ f∈x.1,cv f.2.2=true)->(nD w l x).1.1.length<=x.1.length+60 * l.length/\(nD w l x).1.2.length<=x.2.length+60 * l.length/\∀ f∈(nD w l x).1.1,cv f.2.2=true
 | [],x,h=>by unfold nD;exact⟨by simp,by simp,h⟩
 | d::l,x,h=>by
  unfold nD;obtain⟨h1,h2,h3⟩:=GJ d.1 d.2.2 d.2.1 w;split
  ·exact⟨by simp,by simp,by simp⟩
  ·obtain⟨g1,g2,g3⟩:=Ng w l (x.1++(fm d.1 d.2.2 d.2.1 w).1.1,x.2++(fm d.1 d.2.2 d.2.1 w).1.2) (by
    intro f hf
    rcases List.mem_append.1 hf with hf | hf
    ·exact h f hf
    ·exact h3 f hf)
   simp only[List.length_append] at g1 g2;refine⟨?_,?_,g3⟩<;>simp only[List.length_cons]<;>omega
theorem GK {l:cu}(h:lY l):l.all.1.1.length<=480/\l.all.1.2.length<=480/\∀ f∈l.all.1.1,cv f.2.2=true:=by
 have:=h.num;obtain⟨h1,h2,h3⟩:=Ng l.w l.cF ([],[]) (by simp);exact⟨by unfold cu.all;simp at h1;omega,by unfold cu.all;simp at h2;omega,h3⟩
theorem B3 (d:Int)(c:List UInt8):∀ (fs:List kN) (n:Int),(∀ f∈fs,cv f.2.2=true)->n - 1000000000000 * fs.length<=jT d c n fs/\jT d c n fs<=n+1000000000000 * fs.length
 | [],n,_=>by simp[jT]
 | f::fs,n,h=>by
  have h1:=(qu _).1 (h f (by simp));unfold jT;simp only[List.foldl_cons,List.length_cons];have ih:=B3 d c fs (if f.1=d/\f.2.1=c then n+f.2.2 else n) (fun g hg=>h g (by simp[hg]));unfold jT at ih;split at ih<;>rename_i hc
  ·rw[if_pos hc];omega
  ·rw[if_neg hc];omega
theorem GL (d:Int)(c:List UInt8):∀ (fs:List kN) (n:Int),jT d c n fs=n+jT d c 0 fs
 | [],n=>by simp[jT]
 | f::fs,n=>by
  have e:∀ n,jT d c n (f::fs)=jT d c (if f.1=d/\f.2.1=c then n+f.2.2 else n) fs:=fun n=>rfl;rw[e,e,GL d c fs,GL d c fs (if f.1=d/\f.2.1=c then 0+f.2.2 else 0)];split<;>omega
theorem GM {l:cu}(h:lY l)(d:Int)(c:List UInt8):-480000000000000<=l.jG d c/\l.jG d c<=480000000000000:=by
 unfold cu.jG;cases hg:bd (d,c) l.fC with
 | none=>simp
 | some v=>exact h.fC _ (Nc hg)
theorem Xh {id:List UInt8}{w w':cP}(hf:w'.fx=w.fx)(hc:∀ s,bd (id,s) w'.ch=bd (id,s) w.ch):∀ (t:Tm) (d k:Int) (x:gY),cg id w' t d k x=cg id w t d k x:=by
 have hn:∀ d o,dT w' d o=dT w d o:=by
  intro d o
  induction o with
  | none=>rfl
  | const n=>rfl
  | fix s=>unfold dT;rw[hf]
  | add l r a b=>unfold dT;rw[a,b]
  | mul l r a b=>unfold dT;rw[a,b]
  | max l r a b=>unfold dT;rw[a,b]
  | neg o ih=>unfold dT;rw[ih]
 have hv:∀ d o,eN w' d o=eN w d o:=fun d o=>by unfold eN;rw[hn]
 have hd:∀ d o,mM w' d o=mM w d o:=fun d o=>by unfold mM;rw[hf]
 intro t
 induction t with
 | none=>intro d k x;rfl
 | zero=>intro d k x;rfl
 | one s=>intro d k x;rfl
 | gh t ih=>intro d k x;unfold cg;exact ih _ _ _
 | and l r a b=>intro d k x;unfold cg;rw[a,b]
 | when n t ih=>intro d k x;unfold cg;exact ih _ _ _
 | scale o t ih=>intro d k x;unfold cg;rw[hv,hd,ih]
 | cond o l r a b=>intro d k x;unfold cg;rw[hv,hd,a,b]
 | or s l r a b=>intro d k x;unfold cg;rw[hc];split<;>simp only[a,b]
theorem Xi {id:List UInt8}{w w':cP}(hf:w'.fx=w.fx)(hc:∀ s,bd (id,s) w'.ch=bd (id,s) w.ch)(t:Tm)(d:Int):fm id t d w'=fm id t d w:=by
 unfold fm;rw[Xh hf hc]
theorem Nh {w:cP}:∀ {l:List jF} {x:gY},(nD w l x).2=0↔∀ d∈l,(fm d.1 d.2.2 d.2.1 w).2=0
 | [],x=>by simp[nD]
 | d::l,x=>by
  unfold nD;split
  ·rename_i h
   constructor
   ·intro h2;exact absurd h2 h
   ·intro h2;exact absurd (h2 d (by simp)) h
  ·rename_i h
   rw[Nh]
   constructor
   ·intro h2 e he
    rcases List.mem_cons.1 he with rfl | he
    ·exact Classical.not_not.1 h
    ·exact h2 e he
   ·intro h2 e he;exact h2 e (List.mem_cons_of_mem _ he)
theorem Xj {w:cP}(hw:zv w){s:List UInt8}{d v:Int}:zv (qk w s d v).1:=by
 unfold qk;split
 ·exact hw
 split
 ·exact hw
 split
 ·exact hw
 ·rename_i h1 h2 h3
  refine⟨fun x hx=>?_,?_,hw.ch⟩
  ·rcases B2 hx with hx | rfl
   ·exact hw.fx x hx
   ·have:¬ cv v=false:=fun q=>h1 (.inr (.inr q))
    simpa using this
  ·rw[Bg _ _ _ (by simpa using h2)]
   simp;omega
theorem Xk {w:cP}(hw:zv w){id label:List UInt8}{side day:Int}:zv (kP w id label side day).1:=by
 unfold kP;split
 ·exact hw
 split
 ·exact hw
 ·rename_i h1 h2
  refine⟨hw.fx,hw.Xc,fun x hx=>?_⟩
  rcases B2 hx with hx | rfl
  ·exact hw.ch x hx
  ·have a:¬ (side≠0/\side≠1):=fun q=>h1 (.inr (.inr (.inl q)))
   have b:¬ sG day=false:=fun q=>h1 (.inr (.inr (.inr q)));unfold sG at b;simp only[Bool.not_eq_false,Bool.and_eq_true,decide_eq_true_eq] at b;exact⟨by dsimp only;omega,b⟩
theorem Xl {m:aQ}(h:iF m=0):0<=m.day/\m.day<=10000:=by
 obtain⟨_,_,_,h4,h5,_⟩:=Be h;exact⟨h4,h5⟩
theorem Xm {l:cu}(h:lY l)(m:aQ)(b:Int):lY (gZ l m b).1:=by
 unfold gZ;split
 ·exact h
 split
 ·exact h
 rename_i hb hc;have hd:=Xl (Classical.not_not.1 hc);split
 ·unfold sH
  split
  ·exact h
  split
  ·exact h
  split
  ·exact h
  ·rename_i h1 h2 h3
   refine⟨h.day,by simp;omega,?_,?_,h.w,h.fC⟩
   ·simp only[List.map_append,List.map_cons,List.map_nil]
    rw[List.nodup_append];refine⟨h.ids,by simp,?_⟩;intro a ha c hc;simp at hc;subst hc;intro e;apply h1;rw[List.mem_map] at ha;obtain⟨x,hx,rfl⟩:=ha;rw[List.any_eq_true];exact⟨x,hx,by simp[e]⟩
   ·intro d hd
    rcases List.mem_append.1 hd with hd | hd
    ·exact h.ok d hd
    ·simp at hd;subst hd;exact Classical.not_not.1 h3
 split
 ·unfold rk
  split
  ·exact h
  split
  ·exact h
  split
  ·exact h
  ·rename_i h1 h2 h3
   have h3:=Classical.not_not.1 h3;exact⟨h.day,h.num,h.ids,Nh.1 h3,Xj h.w,h.fC⟩
 split
 ·unfold rl
  split
  ·exact h
  ·rename_i d B4
   split
   ·exact h
   ·rename_i x hfx
    split
    ·exact h
    split
    ·exact h
    split
    ·exact h
    split
    ·exact h
    ·rename_i h1 h2 h3 h4
     have Xn:d.1=m.id:=by
      have:=List.find?_some B4;simpa using this
     have wQ:=List.mem_of_find?_eq_some B4;refine⟨h.day,h.num,h.ids,fun e he=>?_,Xk h.w,h.fC⟩
     by_cases hid:e.1=m.id
     ·have:e=d:=by
       have hn:=h.ids;obtain⟨i,hi,rfl⟩:=List.getElem_of_mem he;obtain⟨j,hj,rfl⟩:=List.getElem_of_mem wQ;have kJ:i=j:=by
        have h5:(l.cF.map (·.1))[i]'(by simpa using hi)=(l.cF.map (·.1))[j]'(by simpa using hj):=by simp[hid,Xn]
        exact(List.getElem_inj hn).1 h5
       subst kJ;rfl
      subst this;exact Classical.not_not.1 h4
     ·rw[show(({ l with w:=(kP l.w m.id m.label m.val l.day).1 }:cu).w)=(kP l.w m.id m.label m.val l.day).1 from rfl]
      rw[Xi (w:=l.w) (w':=(kP l.w m.id m.label m.val l.day).1) ?_ ?_]
      ·exact h.ok e he
      ·unfold kP;split
       ·rfl
       split<;>rfl
      ·intro s
       unfold kP;split
       ·rfl
       split
       ·rfl
       ·dsimp only
        rw[Lo,if_neg (fun q=>hid (by injection q with q _;exact q.symm))]
 split
 ·unfold sI
  split
  ·exact h
  split
  ·exact h
  split
  ·exact h
  ·refine⟨h.day,h.num,h.ids,h.ok,h.w,fun x hx=>?_⟩
   rcases B2 hx with hx | rfl
   ·exact h.fC x hx
   ·obtain⟨a1,_,a3⟩:=GK h
    have:=B3 m.day m.cur l.all.1.1 0 a3;dsimp only;unfold cu.nE;rw[GL];omega
 split
 ·split
  ·exact h
  ·exact⟨hd,h.num,h.ids,h.ok,h.w,h.fC⟩
 ·exact h
structure dK (p:PeerM):Prop where
 kb:p.kb.length=16
 side:p.side=0\/p.side=1
 hs:p.hs.length=p.es.length+1
 num:p.es.length<=64
 uT:∀ h∈p.hs,0<=h/\h<18446744073709551616
 es:∀ x∈p.es,dD x.1
 off:dD p.off.1
 bB:dD p.bB.1
 cy:lY p.cy
theorem iK:dD bp:=⟨by decide,by decide,by decide,by decide,by decide⟩
theorem Xo:dD wJ:=⟨by decide,by decide,by decide,by decide,by decide⟩
theorem Ni {kb:List UInt8}(U:kb.length=16)(side:Int):dK (lT kb side):=
 ⟨U,(by unfold lT;dsimp only;split<;>simp),rfl,Nat.zero_le _,(by intro h hh;simp[lT] at hh;subst hh;decide),(fun x hx=>nomatch hx),iK,iK,Xg⟩
theorem dK.B5 {p:PeerM}(h:dK p):0<=p.head/\p.head<18446744073709551616:=by
 unfold PeerM.head;have hl:=h.hs;rw[List.getD_eq_getElem?_getD,List.getElem?_eq_getElem (by omega)];exact h.uT _ (List.getElem_mem _)
theorem Xp (kb:List UInt8)(h:Int)(x:fE):0<=(iV kb h x).1/\(iV kb h x).1<18446744073709551616:=by
 unfold iV;split
 ·dsimp only;omega
 ·exact E3 _ _
theorem dK.entry {p:PeerM}(h:dK p){x:fE}(hx:dD x.1):dK (p.entry x).1:=by
 unfold PeerM.entry;split
 ·exact h
 split
 ·exact h
 split
 ·exact h
 ·rename_i h1 h2 h3
  have hs:=h.hs;refine⟨h.kb,h.side,by simp[hs],by simp;omega,fun y hy=>?_,fun y hy=>?_,h.off,iK,?_⟩
  ·rcases List.mem_append.1 hy with hy | hy
   ·exact h.uT y hy
   ·simp at hy;subst hy;exact Xp _ _ _
  ·rcases List.mem_append.1 hy with hy | hy
   ·exact h.es y hy
   ·simp at hy;subst hy;exact hx
  ·dsimp only
   split
   ·exact h.cy
   ·exact Xm h.cy _ _
theorem dK.ended {p:PeerM}(h:dK p){a:cG}(hp:dD a.bI):dK (p.ended a):=by
 have ho:dD (if p.oB a=true then((bp,false):aQ×Bool) else p.off).1:=by
  split
  ·exact iK
  ·exact h.off
 unfold PeerM.ended PeerM.jZ;split
 ·exact⟨h.kb,h.side,h.hs,h.num,h.uT,h.es,ho,hp,h.cy⟩
 ·exact⟨h.kb,h.side,h.hs,h.num,h.uT,h.es,ho,h.bB,h.cy⟩
theorem dK.bD {p:PeerM}(h:dK p){a:cG}(he:dD a.bg.1)(hp:dD a.bI):dK (p.bD a).1:=by
 unfold PeerM.bD;split
 ·split
  ·exact h
  ·exact(h.entry he).ended hp
 ·exact h.ended hp
theorem dK.offer {p:PeerM}(h:dK p){m:aQ}(hm:dD m):dK (p.offer m).1:=by
 unfold PeerM.offer;split
 ·exact h
 split
 ·exact h
 split
 ·exact h
 split
 ·exact h
 ·exact⟨h.kb,h.side,h.hs,h.num,h.uT,h.es,hm,h.bB,h.cy⟩
structure oF (a:cG):Prop where
 bg:dD a.bg.1
 bI:dD a.bI
 cz:∀ f∈a.cz,dD f.m/\0<=f.2.2.2.2.2.1/\f.2.2.2.2.2.1<18446744073709551616
 num:a.cz.length<=1
theorem Nj:oF eD:=⟨iK,iK,(fun f hf=>nomatch hf),Nat.zero_le _⟩
theorem Xq {a:cG}(h1:dD a.bg.1)(h2:dD a.bI)(h3:a.cz=[]):oF a:=⟨h1,h2,(by rw[h3];exact(fun f hf=>nomatch hf)),(by rw[h3];decide)⟩
theorem B6 {f:cU}(h1:dD f.m)(h2:0<=f.2.2.2.2.2.1/\f.2.2.2.2.2.1<18446744073709551616):(∀ g∈[f],dD g.m/\0<=g.2.2.2.2.2.1/\g.2.2.2.2.2.1<18446744073709551616)/\([f]:List cU).length<=1:=
 ⟨(fun g hg=>by simp at hg;subst hg;exact⟨h1,h2⟩),Nat.le_refl _⟩
theorem dK.jY {p:PeerM}(h:dK p){m:aQ}(hm:dD m):oF (p.jY m):=by
 unfold PeerM.jY;split
 ·exact Xq iK iK rfl
 ·have:=B6 (f:=p.gm 1 false m) hm h.B5
  exact⟨iK,hm,this.1,this.2⟩
theorem dK.tick {p:PeerM}(h:dK p):oF p.tick:=by
 unfold PeerM.tick;split
 ·have:=B6 (f:=p.gm 4 true bp) iK h.B5
  exact⟨iK,iK,this.1,this.2⟩
 split
 ·exact Nj
 split
 ·have:=B6 (f:=p.gm 1 false p.bB.1) h.bB h.B5
  exact⟨iK,iK,this.1,this.2⟩
 split
 ·exact h.jY h.off
 split
 ·exact h.jY Xo
 split
 ·have:=B6 (f:=p.gm 3 false bp) iK h.B5
  exact⟨iK,iK,this.1,this.2⟩
 ·exact Nj
theorem B7 (m:cU):(dv m.f).all bJ=true:=FR (Tm.bP _)
theorem Xr {w:World}{v:Sl}{bs:List UInt8}(h:aY w v bs)(hc:v.2.1<=v.2.2)(hl:35<=bs.length)(ht:TabW w):Ret Tryz.prog 51 #[.slice v.1 v.2.1 v.2.2] w fun r w'=>r=qo (iH bs).f/\Fr none1 w w':=by
 refine c51 v.1 v.2.1 v.2.2 w _ ?_;unfold C51;have cC:=h.len;refine aq.of fun g1 w1 di ar f1 jL=>?_;have ar:w1.heap[g1]? = some (.cells (dv iT.f).toArray 42 (0,0)):=ar;refine aH.of fun w2 _ f2=>bb.of (fun k=>k<w.heap.size) ?_;have f12:=f1.trans f2;have h2:=h.af f12;have aA:bs≠[]:=fun t=>by rw[t] at hl;simp at hl
 have hS:∀ a,v.1=some a->(fun k=>k<w.heap.size) a.block:=fun a ha=>h.Ft aA ⟨a,ha,rfl⟩;refine bK.FH hS (aY.at h2 (by decide) (by omega) (bK.FH hS (aY.at h2 (by decide) (by omega) (bK.FH hS (aY.at h2 (by decide) (by omega) ?_)))));rw[show Int.toNat 0=0 by rfl,show Int.toNat 17=17 by rfl,show Int.toNat 34=34 by rfl];have b0:=(bs.getD 0 0).toNat_lt;have FZ:=(bs.getD 17 0).toNat_lt;rw[wI (x:=((bs.getD 0 0).toNat:Int)) (by omega) (by omega),wI (x:=((bs.getD 17 0).toNat:Int)) (by omega) (by omega)];have eW:=f12.size;refine aq.of fun g w3 hg ba f3 ox=>ak.of f3 ?_;obtain⟨fl,je⟩:∃ fl,fl=(((bs.getD 34 0).toNat:Int)==1):=⟨_,rfl⟩;rw[<- je];obtain⟨X,hX⟩:∃ X:cU,X=(((bs.getD 0 0).toNat:Int),0,0,((bs.getD 17 0).toNat:Int),0,0,fl,bp):=⟨_,rfl⟩;refine av.aG (cs:=dv iT.f) (vs:=dv (aQ.e bp |> fun e=>((((bs.getD 0 0).toNat:Int),0,0,((bs.getD 17 0).toNat:Int),0,0,fl,e):kC))) ba rfl (FR rfl) fun w4 dm f4 rn=>ak.on f4 (fun k U t=>by have:k=g:=t;omega) ?_;have F4:Fr none1 w w4:=(f12.trans f3).fresh f4 (by omega);have g14:=f4.ag (f3.af (f2.af ar)) (fun t=>by have:g1=g:=t;have:=cj ar;have:=f2.size;omega);have h4:=h.af F4;refine aY.jj h4 (by decide) (by decide) (by omega) hc fun u1 Xs _ _ _=>?_;refine ab.of (AB Xs) ?_;rintro _ _ ⟨rfl,rfl⟩;refine⟨((gC (eQ bs 1 9)).1,(gC (eQ bs 1 9)).2,()),rfl,?_⟩;refine ay.ai dm (by show 0+1<15;omega) rfl fun w5 dr f5 _=>?_;have F5:Fr none1 w w5:=F4.fresh f5 (by omega);have h5:=h.af F5;have g15:=f5.ag g14 (fun t=>by have:g1=g:=t;have:=cj ar;have:=f2.size;omega);refine aY.jj h5 (by decide) (by decide) (by omega) hc fun u2 tG _ _ _=>?_;refine ab.of (AB tG) ?_;rintro _ _ ⟨rfl,rfl⟩;refine⟨((gC (eQ bs 9 17)).1,(gC (eQ bs 9 17)).2,()),rfl,?_⟩;refine ay.ai dr (by show 0+2<15;omega) rfl fun w6 gI f6 _=>?_;have F6:Fr none1 w w6:=F5.fresh f6 (by omega);have h6:=h.af F6;have g16:=f6.ag g15 (fun t=>by have:g1=g:=t;have:=cj ar;have:=f2.size;omega);refine aY.jj h6 (by decide) (by decide) (by omega) hc fun u3 ke _ _ _=>?_;refine ab.of (AB ke) ?_;rintro _ _ ⟨rfl,rfl⟩;refine⟨((gC (eQ bs 18 26)).1,(gC (eQ bs 18 26)).2,()),rfl,?_⟩;refine ay.ai gI (by show 0+4<15;omega) rfl fun w7 hU f7 _=>?_;have F7:Fr none1 w w7:=F6.fresh f7 (by omega);have h7:=h.af F7;have g17:=f7.ag g16 (fun t=>by have:g1=g:=t;have:=cj ar;have:=f2.size;omega);refine aY.jj h7 (by decide) (by decide) (by omega) hc fun u4 vO _ _ _=>?_;have yV:(eQ bs 26 34).length=8:=by unfold eQ;rw[List.length_take,List.length_drop];omega
 have vO:aY w7 u4 (eQ bs 26 34):=vO;refine ab.of (U0 vO) ?_;rintro _ _ ⟨rfl,rfl⟩;rw[if_pos yV];refine⟨((gj (eQ bs 26 34):Int),decide ((eQ bs 26 34).length=8),()),rfl,?_⟩;refine ay.ai hU (by show 0+5<15;omega) rfl fun w8 jW f8 _=>?_;have F8:Fr none1 w w8:=F7.fresh f8 (by omega);have h8:=h.af F8;have g18:=f8.ag g17 (fun t=>by have:g1=g:=t;have:=cj ar;have:=f2.size;omega);have jW:w8.heap[g]? = some (.cells (dv (cU.f (((bs.getD 0 0).toNat:Int),(gC (eQ bs 1 9)).1,(gC (eQ bs 9 17)).1,((bs.getD 17 0).toNat:Int),(gC (eQ bs 18 26)).1,(gj (eQ bs 26 34):Int),fl,bp))).toArray 42 (0,0)):=by rw[jW];rfl
 have fin:∀ (Y:cU) (w9:World),w9.heap[g]? = some (.cells (dv Y.f).toArray 42 (0,0))->w9.heap[g1]? = some (.cells (dv iT.f).toArray 42 (0,0))->Fr none1 w w9->Y=iH bs ->
   az FK ⟨g,0,none⟩ w9 (fun(fY:Cs FK)=>av ⟨g1,0,none⟩ (Cs.vals FK fY) w9 (fun gN=>az FK ⟨g1,0,none⟩ gN (fun(fO:Cs FK)=>(Value.agg (Cs.vals FK fO).toArray)=qo (iH bs).f/\Fr none1 w gN))):=fun Y w9 hY h1 F9 e=>by
  subst e;refine az.aG (cks:=FK) (x:=(iH bs).f) hY ?_;refine av.aG (cs:=dv iT.f) (vs:=dv (iH bs).f) h1 rfl (B7 _) fun aK rr f10 _=>az.aG (cks:=FK) (x:=(iH bs).f) rr ?_;exact⟨rfl,F9.fresh f10 (by omega)⟩
 have Nk:((bs.getD 34 0).toNat==1)=fl:=by
  rw[je,Bool.eq_iff_iff];simp only[beq_iff_eq];omega
 refine ae.ai jW (x:=((bs.getD 17 0).toNat:Int)) rfl ?_;refine aa.eq (fun h1=>?_) (fun h1=>?_)
 ·refine aY.jj h8 (by decide) (by omega) (Int.le_refl _) hc fun u5 mE Xt _ _=>?_
  have e35:(bs.drop (35:Int).toNat).take ((v.2.1:Int) - 35).toNat=bs.drop 35:=by
   rw[show(35:Int).toNat=35 by rfl];exact List.take_of_length_le (by rw[List.length_drop];omega)
  rw[e35] at mE;refine ab.of (FA mE Xt (ht.af F8)) ?_;rintro _ w9 ⟨rfl,f9⟩;refine⟨((fw false (bs.drop 35)).1.e,(fw false (bs.drop 35)).2,()),rfl,?_⟩;have e:iH bs=(((bs.getD 0 0).toNat:Int),(gC (eQ bs 1 9)).1,(gC (eQ bs 9 17)).1,((bs.getD 17 0).toNat:Int),(gC (eQ bs 18 26)).1,(gj (eQ bs 26 34):Int),fl,(fw false (bs.drop 35)).1):=by
   unfold iH;rw[if_pos (by omega),Nk]
  obtain⟨a1,a2,a3,a4⟩:=Dv (T:=42) (b:=g) (gP (fw false (bs.drop 35)).1.e) w9 [.int .i64 ((bs.getD 0 0).toNat:Int),.int .i64 (gC (eQ bs 1 9)).1,.int .i64 (gC (eQ bs 9 17)).1,.int .i64 ((bs.getD 17 0).toNat:Int),.int .i64 (gC (eQ bs 18 26)).1,.int .u64 (gj (eQ bs 26 34):Int),.bool fl] (gP bp.e) (f9.af jW) rfl (E9 (Tm.bP _));refine⟨L9 _ _ 0 a1,?_⟩;rw[Ma];refine fin _ _ ?_ (a3.ag (f9.af g18) (fun t=>by have:g1=g:=t;have:=cj ar;have:=f2.size;omega)) ((F8.trans f9).fresh a3 (by omega)) e.symm;exact a2
 ·refine fin _ w8 jW g18 F8 ?_
  unfold iH;rw[if_neg (by omega),Nk]
theorem Xu (bs:List UInt8):dD (iH bs).m:=by
 unfold iH;show dD (if(bs.getD 17 0).toNat=1 then(fw false (bs.drop 35)).1 else bp);have hz:dD bp:=⟨by decide,by decide,by decide,by decide,by decide⟩;split
 ·unfold fw;split
  ·exact Fy false _
  ·exact hz
 ·exact hz
theorem Xv (bs:List UInt8):0<=(iH bs).2.2.2.2.2.1/\(iH bs).2.2.2.2.2.1<18446744073709551616:=by
 unfold iH;dsimp only;have h:=Bk (eQ bs 26 34);have h2:256 ^ (eQ bs 26 34).length<=256 ^ 8:=Nat.pow_le_pow_right (by decide) (by unfold eQ;rw[List.length_take];omega);have:(256:Nat) ^ 8=18446744073709551616:=by decide
 omega
theorem Xw (m:cU)(hs:o7 m.m.e)(hn:aJ m.m.t<=1000000)(hh:0<=m.2.2.2.2.2.1/\m.2.2.2.2.2.1<18446744073709551616)(w:World)(ht:TabW w):
  Ret Tryz.prog 52 #[qo m.f] w fun r w'=>∃ v:Sl,r=.tuple #[.slice v.1 v.2.1 v.2.2,.int .i64 (lq m).2]/\Own w w' v (lq m).1/\Fr none1 w w':=by
 have hl:=sE m.m.t;exact Mg m.f (wz m.m.t) hs hh (bh m.m.t).1 (by omega) (bh m.m.t).2 w (FV m.m.t hn ht)
theorem Xx (kb:List UInt8)(U:kb.length=16)(m:cU)(hs:o7 m.m.e)(hn:aJ m.m.t<=1000000)(hh:0<=m.2.2.2.2.2.1/\m.2.2.2.2.2.1<18446744073709551616)(w:World)(ht:TabW w):
  Ret Tryz.prog 24 #[.agg (cK kb).toArray,qo m.f] w fun r w'=>∃ v:Sl,r=.tuple #[.slice v.1 v.2.1 v.2.2,.int .i64 (jX kb m).2]/\Own w w' v (jX kb m).1/\Fr none1 w w':=by
 have hl:=sE m.m.t;exact Vk kb U m.f (wz m.m.t) hs hh (bh m.m.t).1 (by omega) (bh m.m.t).2 w (FV m.m.t hn ht)
theorem Xy (kb:List UInt8)(U:kb.length=16){w:World}{v:Sl}{bs:List UInt8}(h:aY w v bs)(hc:v.2.1<=v.2.2)(hl:bs.length<=140737488355300)(ht:TabW w):
  Ret Tryz.prog 14 #[.agg (cK kb).toArray,.slice v.1 v.2.1 v.2.2] w fun r w'=>r=.tuple #[qo (pA kb bs).1.f,.int .i64 (pA kb bs).2]/\Fr none1 w w':=by
 refine c14 (cK kb) v.1 v.2.1 v.2.2 w _ ?_;unfold C14;have cC:=h.len;refine aq.of fun g0 w0 FF rh f0 oS=>aq.of fun g w1 hg ar f1 jL=>?_;have ar:w1.heap[g]? = some (.cells (dv iT.f).toArray 42 (0,0)):=ar;have uP:=f0.trans f1;have fail:∀ (code:Int),pA kb bs=(iT,code)->∀ w2,w2.heap[g]? = some (.cells (dv iT.f).toArray 42 (0,0))->Fr none1 w w2->av ⟨g,0,none⟩ (dv iT.f) w2 (fun w5=>az FK ⟨g,0,none⟩ w5 (fun(x6:Cs FK)=>(Value.tuple #[.agg (Cs.vals FK x6).toArray,.int .i64 code])=.tuple #[qo (pA kb bs).1.f,.int .i64 (pA kb bs).2]/\Fr none1 w w5)):=fun code e w2 hb f2=>by
  rw[e];refine av.aG (cs:=dv iT.f) (vs:=dv iT.f) hb rfl (B7 iT) fun w3 ba f3 _=>az.aG (cks:=FK) (x:=iT.f) ba ?_;exact⟨rfl,f2.fresh f3 (by omega)⟩
 have Vl:=uP.size;have hO:pA kb bs=if bs.length<8 then(iT,2) else if wH bs≠gk (mO kb (jk bs)) then(iT,12) else if(jk bs).length<35 then(iT,2)
   else if(lq (iH (jk bs))).2≠0\/(lq (iH (jk bs))).1≠jk bs then(iT,2) else(iH (jk bs),0):=rfl
 refine aa.dec (fun aU=>?_) (fun dh=>?_)
 ·exact fail 2 (by rw[hO,if_pos (by omega)]) w1 ar uP
 rw[if_neg (by omega)] at hO;refine aH.of fun w2 _ f2=>?_;have mW:=uP.trans f2;have aM:=f2.af ar;have h2:=h.af mW;rw[wI (x:=(v.2.1:Int) - 8) (by omega) (by omega)];obtain⟨n,hn⟩:∃ n,n=bs.length - 8:=⟨_,rfl⟩;refine aY.sub h2 (by omega) (by omega) hc fun hT=>?_;refine aY.jj h2 (by omega) (by omega) (Int.le_refl _) hc fun u hu oy cS lQ=>?_;have en:((v.2.1:Int) - 8).toNat=n:=by omega
 have e8:((v.2.1:Int) - ((v.2.1:Int) - 8)).toNat=8:=by omega
 rw[en] at hT hu ⊢;rw[e8,List.take_of_length_le (by rw[List.length_drop];omega)] at hu;have tN:n<=v.2.2:=by omega
 have Nl:jk bs=bs.take n:=by unfold jk;rw[hn]
 have Xz:wH bs=bs.drop n:=by unfold wH;rw[hn]
 rw[<- Nl] at hT;rw[<- Xz] at hu;have A4:(jk bs).length=n:=by rw[Nl,List.length_take];omega
 refine eF.of (f2.af (f1.af rh)) (by simp[cK,U]) ?_;refine ab.of (FN (v:=(v.1,n,v.2.2)) U hT tN (by omega)) ?_;rintro _ w3 ⟨rfl,f3⟩;refine⟨_,rfl,?_⟩;have hr:=E3 kb (jk bs);refine FY _ hr.1 hr.2 w3 fun q w4 hq f4=>?_;have f24:=f3.trans f4;refine ab.of (U1 (hu.af f24) hq.rd) ?_;rintro _ _ ⟨rfl,rfl⟩;refine⟨_,rfl,?_⟩;have B8:=mW.trans f24;have dm:=f24.af aM;refine aa.not (aa.by (fun heq=>?_) (fun aA=>fail 12 (by rw[hO,if_pos (by intro t;rw[t] at aA;simp at aA)]) w4 dm B8));rw[if_neg (by simpa using heq)] at hO;refine aa.dec (fun aU=>?_) (fun abu=>?_)
 ·exact fail 2 (by rw[hO,if_pos (by omega)]) w4 dm B8
 rw[if_neg (by omega)] at hO;have Nn:=hT.af f24;have sM:=Xu (jk bs);have XA:=Xv (jk bs);refine ab.of (Xr (v:=(v.1,n,v.2.2)) Nn tN (by omega) (ht.af B8)) ?_;rintro _ w5 ⟨rfl,f5⟩;generalize jk bs=tx at *;generalize iH tx=X at *;refine⟨X.f,rfl,?_⟩;refine cB (zs:=dv iT.f) (vs:=dv X.f) rfl (B7 X) fun g6 w6 No gI f6=>?_;have f46:=f5.trans f6;have B9:=B8.trans f46;refine az.aG (cks:=FK) (x:=X.f) gI ?_;refine ab.of (Xw X sM.e sM.2.2.2.2 XA w6 (ht.af B9)) ?_;rintro _ w7 ⟨y,rfl,hy,f7⟩;refine⟨(y,(lq X).2,()),rfl,?_⟩;have zz:=B9.trans f7;have hU:=f7.af (f46.af dm);dsimp only;refine aa.ne (fun aA=>?_) (fun he=>?_)
 ·exact fail 2 (by rw[hO,if_pos (.inl aA)]) w7 hU zz
 refine ab.of (Fz (u:=(v.1,n,v.2.2)) hy.is.rd ((Nn.af f46).af f7)) ?_;rintro _ _ ⟨rfl,rfl⟩;refine⟨_,rfl,aa.not (aa.by (fun lN=>?_) (fun Gu=>?_))⟩
 ·rw[if_neg (by rw[he];simpa using lN)] at hO
  rw[hO];refine az.aG (cks:=FK) (x:=X.f) (f7.af gI) ?_;refine av.aG (cs:=dv iT.f) (vs:=dv X.f) hU rfl (B7 X) fun w8 jW f8 _=>az.aG (cks:=FK) (x:=X.f) jW ?_;exact⟨rfl,zz.fresh f8 (by omega)⟩
 ·exact fail 2 (by rw[hO,if_pos (.inr (by intro t;rw[t] at Gu;simp at Gu))]) w7 hU zz
theorem wR (m:aQ):(da m).2=iF m:=by
 unfold da iy iF;split
 ·rfl
 ·rename_i h;exact(Classical.not_not.1 h).symm
theorem Ca (x:fE):(fZ x).2=iF x.1:=by
 have h:=wR x.1;unfold da at h;unfold fZ sJ;split
 ·exact h
 ·rename_i h2;rw[h] at h2;exact(Classical.not_not.1 h2).symm
theorem Np {m:aQ}(h:iF m=0):da m=((da m).1,0):=by
 have:=wR m;rw[h] at this;exact Prod.ext rfl this
theorem Nq {m:aQ}(h:iF m=0):fw false (da m).1=(m,0):=Lm false (Np h)
theorem Nr {x:fE}(h:iF x.1=0):(fZ x).1=(if x.2=true then 1 else 0)::(da x.1).1:=by
 have h2:=wR x.1;rw[h] at h2;unfold fZ sJ;rw[if_neg (fun t=>t h2)];rfl
theorem XB {x:fE}(h:iF x.1=0):hZ false (fZ x).1=(x,0):=by
 have e:=Nq h;rw[Nr h];unfold hZ;obtain⟨m,r⟩:=x;rw[if_neg (by cases r<;>simp),if_neg (by rw[List.drop_one,List.tail_cons,e];simp)]
 rw[List.drop_one,List.tail_cons,e];cases r<;>rfl
theorem GN (bs:List UInt8):dD (fw false bs).1:=by
 unfold fw;split
 ·exact Fy false bs
 ·exact iK
theorem Ns (bs:List UInt8):dD (hZ false bs).1.1:=by
 unfold hZ;split
 ·exact iK
 split
 ·exact iK
 ·exact GN _
theorem GO {s:bM}(h:s.Ok)(ag:Int):0<=iI s ag/\iI s ag<=s.b.length:=by
 have h1:=h.s0;have h2:=h.s1;unfold iI;omega
theorem Nt {s:bM}(h:s.Ok)(ag sp:Int):(sR s (iI s ag) sp).length=(iI s ag).toNat:=by
 have U:=GO h ag;unfold sR;split
 ·rw[List.length_set,List.length_take];omega
 ·rw[List.length_take];omega
theorem XC {s:bM}(h:s.Ok)(ag sp:Int):(lW s ag sp).Ok:=by
 have U:=GO h ag;have hl:=h.len;have hb:=Nt h ag sp;refine⟨?_,h.q0,h.q1,U.1,?_⟩
 ·show(sR s (iI s ag) sp).length<=65536
  omega
 ·show iI s ag<=((sR s (iI s ag) sp).length:Int)
  omega
theorem XD {m:aQ}(h:iF m=0):(cI m.1 73=true->m.2.1.length<=48)/\(cI m.1 78=true->m.2.2.1.length<=48)/\(cI m.1 76=true->m.2.2.2.1.length<=48)/\(cI m.1 67=true->m.2.2.2.2.1.length<=48):=by
 obtain⟨_,_,hn,_⟩:=Be h;unfold ob at hn;simp only[Bool.and_eq_true,Bool.or_eq_true,Bool.not_eq_true'] at hn;have nm:∀ s:List UInt8,oZ (str s)=true->s.length<=48:=fun s hs=>AY (by unfold oZ at hs;unfold eI;simpa[str] using hs);obtain⟨⟨⟨h1,h2⟩,h3⟩,h4⟩:=hn;have e0:m.e.1=m.1:=rfl;rw[e0] at h1 h2 h3 h4;refine⟨fun q=>?_,fun q=>?_,fun q=>?_,fun q=>?_⟩
 ·rw[q] at h1;exact nm _ (h1.resolve_left (by simp))
 ·rw[q] at h2;exact nm _ (h2.resolve_left (by simp))
 ·rw[q] at h3;exact nm _ (h3.resolve_left (by simp))
 ·rw[q] at h4;exact nm _ (h4.resolve_left (by simp))
def GP (c:UInt8):Nat:=if c=68 then 8 else if c=86 then 8 else if c=84 then 1002 else 49
theorem Nu (q:UInt8->Bool)(f:UInt8->List UInt8):∀ l:List UInt8,(∀ c∈l,q c=true->(f c).length<=GP c)->((l.filter q).flatMap f).length<=(l.map GP).sum
 | [],_=>by simp
 | c::l,h=>by
  have ih:=Nu q f l fun d hd=>h d (List.mem_cons_of_mem _ hd);rw[List.filter_cons,List.map_cons,List.sum_cons];split
  ·rename_i hq
   have:=h c (by simp) hq;rw[List.flatMap_cons,List.length_append];omega
  ·omega
theorem Cb {m:aQ}(h:iF m=0):(da m).1.length<=1215:=by
 obtain⟨n1,n2,n3,n4⟩:=XD h;have hw:=sE m.t;have h':mB m.e (bh m.t).2=0:=h;unfold da iy;rw[if_neg (fun t=>t h')];have:=Nu (cI m.1) (eH m.e (bh m.t).1) o6 (fun c hc hq=>by
  simp only[o6,List.mem_cons,List.not_mem_nil,or_false] at hc;have sz:∀ s:List UInt8,s.length<=48->(jO (str s).data.toList).length<=49:=fun s hs=>by unfold jO;simp[str];omega
  rcases hc with rfl | rfl | rfl | rfl | rfl | rfl | rfl
  ·exact sz m.2.1 (n1 hq)
  ·exact sz m.2.2.1 (n2 hq)
  ·exact sz m.2.2.2.1 (n3 hq)
  ·exact sz m.2.2.2.2.1 (n4 hq)
  ·show(bW _).length<=8;rw[gU];exact Nat.le_refl _
  ·show(bW _).length<=8;rw[gU];exact Nat.le_refl _
  ·show(_::_::(bh m.t).1).length<=1002;simp only[List.length_cons];omega)
 have e:(o6.map GP).sum=1214:=by decide
 rw[e] at this;simp only[List.length_cons];have e2:(dZ m.e.1).flatMap (eH m.e (bh m.t).1)=(o6.filter (cI m.1)).flatMap (eH m.e (bh m.t).1):=rfl;rw[e2];omega
theorem Nv {x:fE}(h:iF x.1=0):(fZ x).1.length<=1216:=by
 rw[Nr h,List.length_cons];have:=Cb h;omega
theorem XE {bs:List UInt8}(h:bs.length<mV bs+3):iJ bs=none:=by
 unfold iJ
 repeat' split
 all_goals first | rfl | (exfalso;omega)
theorem XF {x:List UInt8}(hx:x.length<=4000){m:Nat}(hm:m<x.length+3)(h0:0<m)(v:UInt8):iJ (((bN x).take m).set (m - 1) v)=none:=by
 have hl:(((bN x).take m).set (m - 1) v).length=m:=by rw[List.length_set,List.length_take,oD];omega
 refine XE ?_;rw[hl]
 by_cases h2:m<=2
 ·omega
 have hh:(hd x.length).length=2:=rfl;have e:((bN x).take m).set (m - 1) v=hd x.length++((x++[jI 150 (hd x.length++x)]).take (m - 2)).set (m - 1 - 2) v:=by
  rw[GF,List.append_assoc,show m=(hd x.length).length+(m - 2) by omega,List.take_length_add_append,List.set_append_right _ _ (by omega)];rw[hh,show 2+(m - 2) - 2=m - 2 by omega]
 rw[e,M4 hx];exact hm
theorem XG {G:List (List UInt8)}{x y:List UInt8}{s:bM}(ok:s.Ok)(hy:y=[]\/y=bN x)(hx:x.length<=4000)(hb:s.b=cQ G++y)(hs:s.synced=((cQ G).length:Int))(hG:∀ r∈G,r.length<=4000)(ag sp:Int):
  ∃ R rest,(R=G\/R=G++[x]/\y=bN x)/\lX (lW s ag sp).b R rest/\(lW s ag sp).b.take ((lW s ag sp).b.length - rest.length)=cQ R/\(lW s ag sp).synced=((lW s ag sp).b.length:Int):=by
 obtain⟨m,hm,xR⟩:∃ m:Nat,iI s ag=((cQ G).length:Int)+m/\m<=y.length:=by
  have kK:(s.b.length:Int)=(cQ G).length+y.length:=by rw[hb,List.length_append];omega
  refine⟨(iI s ag - (cQ G).length).toNat,?_,?_⟩<;>unfold iI<;>rw[hs,kK]<;>repeat' split
  all_goals omega
 have hB:(lW s ag sp).b=sR s (iI s ag) sp:=rfl;have hS:(lW s ag sp).synced=iI s ag:=rfl;rw[hB,hS,hm];unfold sR;rw[hs,hb];have XH:(cQ G++y).take (((cQ G).length:Int)+m).toNat=cQ G++y.take m:=by
  rw[show(((cQ G).length:Int)+m).toNat=(cQ G).length+m by omega,List.take_length_add_append]
 rw[XH]
 by_cases h0:m=0
 ·subst h0
  rw[if_neg (by omega),List.take_zero];refine⟨G,[],.inl rfl,BX M5 G hG,?_,by simp⟩;simp
 ·rw[if_pos (by omega)]
  have GQ:y=bN x:=by
   rcases hy with t | t
   ·subst t;simp at xR;omega
   ·exact t
  subst GQ;rw[oD] at xR;generalize rq ((cQ G++bN x).getD (((cQ G).length:Int)+(m:Int) - 1).toNat 0) sp=v;have XI:(cQ G++(bN x).take m).set (((cQ G).length:Int)+(m:Int) - 1).toNat v=cQ G++((bN x).take m).set (m - 1) v:=by
   rw[show(((cQ G).length:Int)+(m:Int) - 1).toNat=(cQ G).length+(m - 1) by omega,List.set_append_right _ _ (by omega),Nat.add_sub_cancel_left]
  rw[XI];have hl:(((bN x).take m).set (m - 1) v).length=m:=by rw[List.length_set,List.length_take,oD];omega
  have bad:iJ (((bN x).take m).set (m - 1) v)=none->∃ R rest,(R=G\/R=G++[x]/\bN x=bN x)/\lX (cQ G++((bN x).take m).set (m - 1) v) R rest/\(cQ G++((bN x).take m).set (m - 1) v).take ((cQ G++((bN x).take m).set (m - 1) v).length - rest.length)=cQ R/\((cQ G).length:Int)+m=((cQ G++((bN x).take m).set (m - 1) v).length:Int):=fun hn=>by
   refine⟨G,_,.inl rfl,BX hn G hG,?_,by rw[List.length_append,hl];omega⟩;rw[List.length_append,Nat.add_sub_cancel,List.take_left]
  by_cases XJ:m<x.length+3
  ·exact bad (XF hx XJ (by omega) v)
  ·have hmm:m=x.length+3:=by omega
   have Nw:(bN x).take m=bN x:=List.take_of_length_le (by rw[oD];omega)
   by_cases hv:v=(bN x).getD (m - 1) 0
   ·have XK:((bN x).take m).set (m - 1) v=bN x:=by
     rw[Nw,hv,List.getD_eq_getElem?_getD,List.getElem?_eq_getElem (by rw[oD];omega)];simp
    rw[XK];refine⟨G++[x],[],.inr ⟨rfl,rfl⟩,?_,?_,by rw[List.length_append,oD];omega⟩
    ·rw[<- zt]
     have:=BX M5 (G++[x]) (fun r hr=>by
      simp only[List.mem_append,List.mem_singleton] at hr
      rcases hr with t | t
      ·exact hG r t
      ·rw[t];exact hx)
     rw[List.append_nil] at this;exact this
    ·rw[<- zt];simp
   ·refine bad ?_
    rw[Nw];have:=WY (x:=x) [] hx (j:=m - 1) (v:=v) (by omega) (by omega) hv;rw[List.append_nil] at this;exact this
structure df (p q:PeerM):Prop where
 kb:p.kb=q.kb
 side:p.side=q.side
 es:p.es=q.es
 hs:p.hs=q.hs
 cy:p.cy=q.cy
 bB:p.bB=q.bB
theorem df.refl (p:PeerM):df p p:=⟨rfl,rfl,rfl,rfl,rfl,rfl⟩
theorem df.symm {p q:PeerM}(h:df p q):df q p:=⟨h.kb.symm,h.side.symm,h.es.symm,h.hs.symm,h.cy.symm,h.bB.symm⟩
theorem df.trans {p q r:PeerM}(h:df p q)(k:df q r):df p r:=⟨h.kb.trans k.kb,h.side.trans k.side,h.es.trans k.es,h.hs.trans k.hs,h.cy.trans k.cy,h.bB.trans k.bB⟩
theorem df.len {p q:PeerM}(h:df p q):p.len=q.len:=by unfold PeerM.len;rw[h.es]
theorem df.head {p q:PeerM}(h:df p q):p.head=q.head:=by unfold PeerM.head;rw[h.es,h.hs]
theorem df.entry {p q:PeerM}(h:df p q)(x:fE):(p.entry x).2=(q.entry x).2/\df (p.entry x).1 (q.entry x).1:=by
 unfold PeerM.entry;rw[h.es,h.kb,h.head,h.cy,h.len];split
 ·exact⟨rfl,h⟩
 split
 ·exact⟨rfl,h⟩
 split
 ·exact⟨rfl,h⟩
 ·exact⟨rfl,rfl,h.side,rfl,(by dsimp only;rw[h.hs]),rfl,rfl⟩
theorem rz (p:PeerM)(a:cG):df (p.ended a) { p with bB:=if a.cM=true then(a.bI,true) else p.bB }:=by
 unfold PeerM.ended PeerM.jZ;split
 ·exact⟨rfl,rfl,rfl,rfl,rfl,rfl⟩
 ·exact⟨rfl,rfl,rfl,rfl,rfl,rfl⟩
theorem df.ended {p q:PeerM}(h:df p q){a b:cG}(hp:a.cM=b.cM)(he:a.cM=true->a.bI=b.bI):df (p.ended a) (q.ended b):=by
 refine(rz p a).trans (df.trans ?_ (rz q b).symm);refine⟨h.kb,h.side,h.es,h.hs,h.cy,?_⟩;dsimp only;rw[<- hp];split
 ·rename_i t;rw[he t]
 ·exact h.bB
theorem df.bD {p q:PeerM}(h:df p q){a b:cG}(hE:a.dj=b.dj)(hx:a.dj=true->a.bg=b.bg)(hp:a.cM=b.cM)(he:a.cM=true->a.bI=b.bI):(p.bD a).2=(q.bD b).2/\df (p.bD a).1 (q.bD b).1:=by
 unfold PeerM.bD;rw[<- hE];split
 ·rename_i t
  rw[<- hx t,(h.entry a.bg).1];split
  ·exact⟨rfl,h⟩
  ·exact⟨rfl,(h.entry a.bg).2.ended hp he⟩
 ·exact⟨rfl,h.ended hp he⟩
def uU:bM:=⟨[],0,0,false,0,false⟩
def log (kb:List UInt8)(side:Int)(rs:List (List UInt8)):NodeM×Bool:=(NodeM.fresh kb side uU []).records rs
theorem XL (n:NodeM)(j:j1)(b:List UInt8):({ n with j:=j }:NodeM).record b=({ (n.record b).1 with j:=j },(n.record b).2):=by
 unfold NodeM.record;cases b with
 | nil=>rfl
 | cons c r=>
  dsimp only;split
  ·rfl
  split
  ·split<;>rfl
  split
  ·split
   ·rfl
   split<;>rfl
  ·rfl
theorem rA (n:NodeM)(b:List UInt8)(l:List (List UInt8)):n.records (b::l)=if(n.record b).2=true then(n.record b).1.records l else((n.record b).1,false):=rfl
theorem Nx (j:j1):∀ (l:List (List UInt8)) (n:NodeM),({ n with j:=j }:NodeM).records l=({ (n.records l).1 with j:=j },(n.records l).2)
 | [],n=>rfl
 | b::l,n=>by
  rw[rA,rA,XL];dsimp only;split
  ·exact Nx j l _
  ·rfl
theorem XM (kb:List UInt8)(side:Int)(fs:bM)(rs l:List (List UInt8)):(NodeM.fresh kb side fs rs).records l=({ (log kb side l).1 with j:=⟨fs,false,rs⟩ },(log kb side l).2):=
 Nx ⟨fs,false,rs⟩ l (NodeM.fresh kb side uU [])
theorem Ny:∀ (l m:List (List UInt8)) (n:NodeM),n.records (l++m)=if(n.records l).2=true then(n.records l).1.records m else n.records l
 | [],m,n=>by simp[NodeM.records]
 | b::l,m,n=>by
  rw[List.cons_append,rA,rA]
  by_cases h:(n.record b).2=true
  ·rw[if_pos h,if_pos h,Ny l m]
  ·rw[if_neg h,if_neg h];simp
theorem uV {kb:List UInt8}{side:Int}{l:List (List UInt8)}{b:List UInt8}(h:(log kb side l).2=true):log kb side (l++[b])=(log kb side l).1.record b:=by
 unfold log at *;rw[Ny,if_pos h,rA];generalize((NodeM.fresh kb side uU []).records l).1.record b=r
 by_cases t:r.2=true
 ·rw[if_pos t];exact Prod.ext rfl t.symm
 ·rw[if_neg t];exact Prod.ext rfl (by simpa using t)
theorem Nz (n:NodeM)(b:List UInt8):(n.record b).1.kb=n.kb/\(n.record b).1.side=n.side/\(n.record b).1.j=n.j/\(n.record b).1.w=n.w/\(n.record b).1.number=n.number:=by
 unfold NodeM.record;cases b with
 | nil=>exact⟨rfl,rfl,rfl,rfl,rfl⟩
 | cons c r=>
  dsimp only;split
  ·exact⟨rfl,rfl,rfl,rfl,rfl⟩
  split
  ·split<;>exact⟨rfl,rfl,rfl,rfl,rfl⟩
  split
  ·split
   ·exact⟨rfl,rfl,rfl,rfl,rfl⟩
   split<;>exact⟨rfl,rfl,rfl,rfl,rfl⟩
  ·exact⟨rfl,rfl,rfl,rfl,rfl⟩
theorem GR:∀ (l:List (List UInt8)) (n:NodeM),(n.records l).1.kb=n.kb/\(n.records l).1.side=n.side/\(n.records l).1.j=n.j/\(n.records l).1.w=n.w/\(n.records l).1.number=n.number
 | [],n=>⟨rfl,rfl,rfl,rfl,rfl⟩
 | b::l,n=>by
  rw[rA];obtain⟨a1,a2,a3,a4,a5⟩:=Nz n b;split
  ·obtain⟨b1,b2,b3,b4,b5⟩:=GR l (n.record b).1
   exact⟨b1.trans a1,b2.trans a2,b3.trans a3,b4.trans a4,b5.trans a5⟩
  ·exact⟨a1,a2,a3,a4,a5⟩
theorem zA {l:cu}{m:aQ}{b:Int}(h:mN l m b=0):iF m=0:=by
 unfold mN gZ at h;split at h
 ·cases h
 split at h
 ·exact h
 ·rename_i t;exact Classical.not_not.1 t
theorem XN {n s:Int}(h:PeerM.owner n=s):n % 2=s:=by
 unfold PeerM.owner at h;split at h<;>omega
def oG (p:PeerM):Prop:=p.bB.2=true->PeerM.owner p.len=p.side/\mN p.cy p.bB.1 p.side=0/\p.es.length<64
structure Fits (p:PeerM)(a:cG):Prop where
 one:a.dj=true->a.cM=false
 own:a.cM=true->PeerM.owner p.len=p.side/\mN p.cy a.bI p.side=0/\p.es.length<64
 bg:a.dj=true->(p.entry a.bg).2=0
 new:a.cM=true->p.bB.2=false/\(p.off.2=true/\a.bI=p.off.1\/p.off.2=false/\a.bI=wJ)
 src:a.dj=true->PeerM.owner p.len≠p.side\/p.bB.2=true/\a.bg.1=p.bB.1
theorem wS {p:PeerM}{a:cG}(h1:a.dj=false)(h2:a.cM=false):Fits p a:=⟨fun t=>(by rw[h1] at t;cases t),fun t=>(by rw[h2] at t;cases t),fun t=>(by rw[h1] at t;cases t),fun t=>(by rw[h2] at t;cases t),fun t=>(by rw[h1] at t;cases t)⟩
theorem NA {p:PeerM}(m:aQ)(ho:PeerM.owner p.len=p.side)(hf:¬ p.full=true)(hp:¬ p.bB.2=true)(hm:p.off.2=true/\m=p.off.1\/p.off.2=false/\m=wJ):Fits p (p.jY m):=by
 unfold PeerM.jY;split
 ·exact wS rfl rfl
 ·rename_i t
  exact⟨fun t=>(by cases t),fun _=>⟨ho,Classical.not_not.1 t,by unfold PeerM.full at hf;simpa using hf⟩,fun t=>(by cases t),fun _=>⟨by simpa using hp,hm⟩,fun t=>(by cases t)⟩
theorem XO (p:PeerM):Fits p p.tick:=by
 unfold PeerM.tick;split
 ·exact wS rfl rfl
 split
 ·exact wS rfl rfl
 rename_i hf;split
 ·exact wS rfl rfl
 rename_i hp;split
 ·rename_i t;exact NA _ t.1 hf hp (.inl ⟨t.2,rfl⟩)
 rename_i ho;split
 ·rename_i t;exact NA _ t.1 hf hp (.inr ⟨by simpa using fun q=>ho ⟨t.1,q⟩,rfl⟩)
 split
 ·exact wS rfl rfl
 ·exact wS rfl rfl
theorem Fits.bD {p:PeerM}{a:cG}(h:Fits p a):(p.bD a).2=0:=by
 unfold PeerM.bD;split
 ·rename_i t;rw[if_neg (fun q=>q (h.bg t))]
 ·rfl
theorem oG.bD {p:PeerM}{a:cG}(hp:oG p)(h:Fits p a):oG (p.bD a).1:=by
 have hc:∀ q:PeerM,df p q->oG q:=fun q s t=>by
  obtain⟨a1,a2,a3⟩:=hp (by rw[s.bB];exact t);rw[<- s.len,<- s.side,<- s.cy,<- s.bB,<- s.es];exact⟨a1,a2,a3⟩
 unfold PeerM.bD;split
 ·rename_i t
  rw[if_neg (fun q=>q (h.bg t))];have e:=rz (p.entry a.bg).1 a;have hP:=h.one t;intro w;rw[e.bB] at w;dsimp only at w;rw[if_neg (by rw[hP];simp)] at w
  exfalso
  have h0:=h.bg t;unfold PeerM.entry at w h0;split at h0
  ·cases h0
  rename_i g1;rw[if_neg g1] at w;split at h0
  ·rename_i q;exact q h0
  rename_i g2;rw[if_neg g2] at w;split at h0
  ·rename_i q;exact q.2 h0
  rename_i g3;rw[if_neg g3] at w;cases w
 ·have e:=rz p a
  intro w;rw[e.bB] at w;rw[e.len,e.side,e.cy,e.bB,e.es];dsimp only at w ⊢;cases hP:a.cM with
  | true=>rw[if_pos rfl];exact h.own hP
  | false=>rw[hP] at w;rw[if_neg (by simp)] at w ⊢;exact hp w
theorem Cc (s:bM):(cY s).2=true->(cY s).1.dead=s.dead:=by
 unfold cY;split
 ·intro h;cases h
 ·intro _;rfl
theorem GS (s:bM)(h:s.lit=false):(cY s).2=true/\(cY s).1.lit=false:=by
 unfold cY;rw[h];exact⟨rfl,rfl⟩
def Holds (s:bM)(rs:List (List UInt8))(y:List UInt8):Prop:=s.b=cQ rs++y/\s.synced=((cQ rs).length:Int)
theorem NB {j:j1}{x:List UInt8}(hd:j.d=false)(hf:j.fs.dead=false)(hb:Holds j.fs j.rs [])(hx:x.length<=4000):
  ((j.put x).2=0/\(j.put x).1.d=false/\(j.put x).1.rs=j.rs++[x]/\(j.put x).1.fs.dead=false/\Holds (j.put x).1.fs (j.rs++[x]) []) \/
  ((j.put x).2=10/\(j.put x).1.d=false/\(j.put x).1.rs=j.rs/\(j.put x).1.fs=j.fs) \/
  ((j.put x).2=11/\(j.put x).1.d=true/\(j.put x).1.rs=j.rs/\((j.put x).1.fs.b=j.fs.b\/(j.put x).1.fs.b=j.fs.b++bN x)/\(j.put x).1.fs.synced=j.fs.synced):=by
 obtain⟨hb,hs⟩:=hb;rw[List.append_nil] at hb;unfold j1.put iq;dsimp only;rw[if_neg (by rw[hd,hf];simp),if_neg (by omega)];obtain⟨e1,e2,e3⟩:=oC j.fs;have hA:fo j.fs (bN x)=if((bN x).length:Int) > j.fs.cp - j.fs.b.length then(j.fs,10) else if(cY j.fs).2 then({ (cY j.fs).1 with b:=j.fs.b++bN x },0) else((cY j.fs).1,11):=by
  unfold fo;rw[if_neg (by rw[hf];simp)]
 by_cases hq:((bN x).length:Int) > j.fs.cp - j.fs.b.length
 ·rw[hA,if_pos hq,if_pos (by simp)]
  exact .inr (.inl ⟨rfl,rfl,rfl,rfl⟩)
 rw[if_neg hq] at hA
 by_cases h1:(cY j.fs).2=true
 ·rw[if_pos h1] at hA
  rw[hA,if_neg (fun t=>t rfl)];generalize fQ:({ (cY j.fs).1 with b:=j.fs.b++bN x }:bM)=s2
  have d2:s2.dead=false:=by rw[<- fQ];exact(Cc _ h1).trans hf
  have b2:s2.b=j.fs.b++bN x:=by rw[<- fQ]
  have y2:s2.synced=j.fs.synced:=by rw[<- fQ];exact e3
  obtain⟨g1,g2,g3⟩:=oC s2;have hS:ia s2=if(cY s2).2 then({ (cY s2).1 with synced:=s2.b.length },0) else((cY s2).1,11):=by unfold ia;rw[if_neg (by rw[d2];simp)]
  by_cases h2:(cY s2).2=true
  ·rw[if_pos h2] at hS
   rw[hS,if_neg (fun t=>t rfl)];refine .inl ⟨rfl,rfl,rfl,(Cc _ h2).trans d2,?_,?_⟩
   ·show(cY s2).1.b=_
    rw[g1,b2,hb,zt,List.append_nil]
   ·show(s2.b.length:Int)=_
    rw[b2,hb,zt]
  ·rw[if_neg h2] at hS
   rw[hS,if_pos (by simp)];exact .inr (.inr ⟨rfl,rfl,rfl,.inr (g1.trans b2),g3.trans y2⟩)
 ·rw[if_neg h1] at hA
  rw[hA,if_pos (by simp)];exact .inr (.inr ⟨rfl,rfl,rfl,.inl e1,e3⟩)
theorem XP {L:NodeM}{p:PeerM}{a:cG}(hc:df L.p p)(hs:L.side=p.side)(hf:Fits p a)(hb:a.dj=true\/a.cM=true)(h0:(NodeM.dV a).2=0):
  (L.record (NodeM.dV a).1).2=true/\df (L.record (NodeM.dV a).1).1.p (p.bD a).1/\(L.record (NodeM.dV a).1).1.aV=L.aV:=by
 have p8:=hf.bD;unfold NodeM.dV at h0 ⊢
 by_cases hE:a.dj=true
 ·rw[if_pos hE] at h0 ⊢
  have hP:=hf.one hE;have U:iF a.bg.1=0:=by rw[<- Ca];exact h0
  unfold NodeM.record;dsimp only;rw[if_neg (by decide),if_pos rfl,XB U,if_neg (fun t=>t rfl)];dsimp only;have:=hc.bD (a:={ eD with dj:=true,bg:=a.bg }) (b:=a) hE.symm (fun _=>rfl) hP.symm (fun t=>by cases t)
  refine⟨?_,this.2,rfl⟩;rw[this.1,p8];rfl
 ·rw[if_neg hE] at h0 ⊢
  have hP:a.cM=true:=hb.resolve_left hE;obtain⟨o1,o2,o3⟩:=hf.own hP;have U:iF a.bI=0:=zA o2;unfold NodeM.record;dsimp only;rw[if_neg (by decide),if_neg (by decide),if_pos rfl,Nq U,if_neg (fun t=>t rfl),if_neg (by rw[hc.len,hs];exact fun t=>t (XN o1))];have XQ:a.dj=false:=by simpa using hE
  have:=hc.bD (a:={ eD with cM:=true,bI:=a.bI }) (b:=a) XQ.symm (fun t=>by cases t) hP.symm (fun _=>rfl)
  exact⟨rfl,this.2,rfl⟩
theorem XR {a:cG}(h0:(NodeM.dV a).2=0):(NodeM.dV a).1.length<=4000:=by
 unfold NodeM.dV at h0 ⊢;split
 ·rename_i t
  rw[if_pos t] at h0;have:=Nv (x:=a.bg) (by rw[<- Ca];exact h0);simp only[List.length_cons];omega
 ·rename_i t
  rw[if_neg t] at h0;have:=Cb (m:=a.bI) (by rw[<- wR];exact h0);simp only[List.length_cons];omega
def GU (n:NodeM)(x:List UInt8):Prop:=
 x.length<=4000/\(log n.kb n.side (n.j.rs++[x])).2=true/\∃ a,Fits n.p a/\(a.dj=true\/a.cM=true)/\oF a/\df (log n.kb n.side (n.j.rs++[x])).1.p (n.p.bD a).1/\(log n.kb n.side (n.j.rs++[x])).1.aV=n.aV
structure Cd (n:NodeM):Prop where
 ok:(log n.kb n.side n.j.rs).2=true
 p:df (log n.kb n.side n.j.rs).1.p n.p
 aV:(log n.kb n.side n.j.rs).1.aV=n.aV
 rows:∀ r∈n.j.rs,r.length<=4000
structure Live (n:NodeM):Prop where
 ok:dK n.p
 side:n.p.side=n.side
 kb:n.p.kb=n.kb
 bB:oG n.p
 log:Cd n
 rB:n.j.fs.Ok
 live:n.j.d=false->n.j.fs.dead=false/\Holds n.j.fs n.j.rs []
 dead:n.j.d=true->∃ y,Holds n.j.fs n.j.rs y/\(y=[]\/∃ x,y=bN x/\GU n x)
theorem GV {s:bM}(h:s.Ok):(cY s).1.Ok:=by
 unfold cY;split<;>exact⟨h.len,h.q0,h.q1,h.s0,h.s1⟩
theorem NC {s:bM}(h:s.Ok)(d:Bool)(x:List UInt8):(iq s d x).1.Ok:=by
 have rC:=GV h;obtain⟨e1,e2,e3⟩:=oC s;have hA:(fo s (bN x)).1.Ok:=by
  unfold fo;split
  ·exact h
  split
  ·exact h
  rename_i hq;split
  ·have h4:=h.s1;have h5:=h.q1
   refine⟨?_,rC.q0,rC.q1,rC.s0,?_⟩
   ·show(s.b++bN x).length<=_
    rw[List.length_append];omega
   ·show(cY s).1.synced<=((s.b++bN x).length:Int)
    rw[e3,List.length_append];omega
  ·exact rC
 have hS:∀ {s:bM},s.Ok->(ia s).1.Ok:=fun{s} h=>by
  have rC:=GV h;obtain⟨e1,e2,e3⟩:=oC s;unfold ia;split
  ·exact h
  split
  ·refine⟨rC.len,rC.q0,rC.q1,?_,?_⟩
   ·show(0:Int)<=(s.b.length:Int);omega
   ·show(s.b.length:Int)<=((cY s).1.b.length:Int);rw[e1];exact Int.le_refl _
  ·exact rC
 unfold iq;split
 ·exact h
 split
 ·exact h
 split
 ·exact hA
 split
 ·exact hS hA
 ·exact hS hA
theorem Cd.snoc {n n':NodeM}(h:Cd n){x:List UInt8}(U:n'.kb=n.kb)(hs:n'.side=n.side)(hr:n'.j.rs=n.j.rs++[x])(hx:x.length<=4000)(h1:((log n.kb n.side n.j.rs).1.record x).2=true)(h2:df ((log n.kb n.side n.j.rs).1.record x).1.p n'.p)(h3:((log n.kb n.side n.j.rs).1.record x).1.aV=n'.aV):Cd n':=by
 have e:=uV (b:=x) h.ok;refine⟨?_,?_,?_,?_⟩
 ·rw[U,hs,hr,e];exact h1
 ·rw[U,hs,hr,e];exact h2
 ·rw[U,hs,hr,e];exact h3
 ·rw[hr];intro r hr
  rcases List.mem_append.1 hr with hr | hr
  ·exact h.rows r hr
  ·simp at hr;subst hr;exact hx
theorem ND (kb:List UInt8)(side:Int)(l:List (List UInt8)):(log kb side l).1.kb=kb/\(log kb side l).1.side=side/\(log kb side l).1.number=0:=by
 obtain⟨a,b,c,d,e⟩:=GR l (NodeM.fresh kb side uU []);exact⟨a,b,e⟩
theorem Live.ag {n:NodeM}(h:Live n)(hd:n.j.d=false){a:cG}(hf:Fits n.p a)(ha:oF a):
  ((n.ag a).2=0/\(n.ag a).1.j.d=false/\(n.ag a).1.p=n.p/\Live { (n.ag a).1 with p:=(n.p.bD a).1 }/\(n.ag a).1.aV=n.aV/\(n.ag a).1.number=n.number/\(n.ag a).1.kb=n.kb/\(n.ag a).1.side=n.side/\(n.ag a).1.w=n.w) \/
  ((n.ag a).2≠0/\(n.ag a).1.p=n.p/\Live (n.ag a).1/\((n.ag a).2=11↔(n.ag a).1.j.d=true)/\(n.ag a).1.aV=n.aV/\(n.ag a).1.number=n.number/\(n.ag a).1.kb=n.kb/\(n.ag a).1.side=n.side/\(n.ag a).1.w=n.w/\((n.ag a).1.j.d=false->(n.ag a).1=n)):=by
 obtain⟨B4,hH⟩:=h.live hd
 by_cases hn:a.dj=false/\a.cM=false
 ·have e:n.ag a=(n,0):=by unfold NodeM.ag;rw[if_pos hn]
  rw[e];refine .inl ⟨rfl,hd,rfl,?_,rfl,rfl,rfl,rfl,rfl⟩;have hc:df n.p (n.p.bD a).1:=by
   unfold PeerM.bD;rw[if_neg (by rw[hn.1];simp)];refine df.symm ((rz n.p a).trans ?_);rw[hn.2];exact df.refl _
  exact⟨h.ok.bD ha.bg ha.bI,hc.side.symm.trans h.side,hc.kb.symm.trans h.kb,h.bB.bD hf,⟨h.log.ok,h.log.p.trans hc,h.log.aV,h.log.rows⟩,h.rB,h.live,fun t=>by rw[hd] at t;cases t⟩
 have hb:a.dj=true\/a.cM=true:=by
  cases hE:a.dj
  ·cases hP:a.cM
   ·exact absurd ⟨hE,hP⟩ hn
   ·exact .inr rfl
  ·exact .inl rfl
 have GW:(NodeM.dV a).2=0:=by
  unfold NodeM.dV;split
  ·rename_i t
   have h0:=hf.bg t;show(fZ a.bg).2=0;unfold PeerM.entry at h0;split at h0
   ·cases h0
   split at h0
   ·rename_i q;exact absurd h0 q
   rename_i q;have q:=Classical.not_not.1 q;unfold iV at q;split at q
   ·rename_i r;exact q
   ·rename_i r;exact Classical.not_not.1 r
  ·rename_i t
   have:=hf.own (hb.resolve_left t);show(da a.bI).2=0;rw[wR];exact zA this.2.1
 have hx:=XR GW;have e:n.ag a=({ n with j:=(n.j.put (NodeM.dV a).1).1 },(n.j.put (NodeM.dV a).1).2):=by
  unfold NodeM.ag;rw[if_neg hn,if_neg (fun t=>t GW)]
 obtain⟨lk,ls,ln⟩:=ND n.kb n.side n.j.rs;have lx:=XP h.log.p (ls.trans h.side.symm) hf hb GW;have NF:(n.j.put (NodeM.dV a).1).1.fs.Ok:=NC h.rB _ _;have hcs:(n.p.bD a).1.side=n.p.side/\(n.p.bD a).1.kb=n.p.kb:=by
  unfold PeerM.bD;split
  ·split
   ·exact⟨rfl,rfl⟩
   ·have:=rz (n.p.entry a.bg).1 a
    have e2:(n.p.entry a.bg).1.side=n.p.side/\(n.p.entry a.bg).1.kb=n.p.kb:=by
     unfold PeerM.entry;split
     ·exact⟨rfl,rfl⟩
     split
     ·exact⟨rfl,rfl⟩
     split<;>exact⟨rfl,rfl⟩
    exact⟨this.side.trans e2.1,this.kb.trans e2.2⟩
  ·have:=rz n.p a
   exact⟨this.side,this.kb⟩
 rw[e]
 rcases NB hd B4 hH hx with⟨c0,c1,c2,c3,c4⟩ | ⟨c0,c1,c2,c3⟩ | ⟨c0,c1,c2,c3,c4⟩
 ·refine .inl ⟨c0,c1,rfl,?_,rfl,rfl,rfl,rfl,rfl⟩
  refine⟨h.ok.bD ha.bg ha.bI,hcs.1.trans h.side,hcs.2.trans h.kb,h.bB.bD hf,?_,NF,fun _=>⟨c3,by rw[<- c2] at c4;exact c4⟩,fun t=>by rw[c1] at t;cases t⟩;exact h.log.snoc rfl rfl c2 hx lx.1 lx.2.1 (lx.2.2.trans h.log.aV)
 ·refine .inr ⟨by rw[c0];decide,rfl,?_,⟨fun t=>(by rw[c0] at t;cases t),fun t=>(by rw[c1] at t;cases t)⟩,rfl,rfl,rfl,rfl,rfl,fun _=>?_⟩
  ·have ej:(n.j.put (NodeM.dV a).1).1=n.j:=by
    generalize(n.j.put (NodeM.dV a).1).1=j' at c1 c2 c3;cases j';simp only at c1 c2 c3;cases rD:n.j;rw[rD] at c2 c3 hd;simp only at c2 c3 hd;rw[c1,c2,c3,hd]
   rw[ej];exact h
  ·have ej:(n.j.put (NodeM.dV a).1).1=n.j:=by
    generalize(n.j.put (NodeM.dV a).1).1=j' at c1 c2 c3;cases j';simp only at c1 c2 c3;cases rD:n.j;rw[rD] at c2 c3 hd;simp only at c2 c3 hd;rw[c1,c2,c3,hd]
   rw[ej]
 ·refine .inr ⟨by rw[c0];decide,rfl,?_,⟨fun _=>c1,fun _=>c0⟩,rfl,rfl,rfl,rfl,rfl,fun t=>by dsimp only at t;rw[c1] at t;cases t⟩
  refine⟨h.ok,h.side,h.kb,h.bB,⟨?_,?_,?_,?_⟩,NF,fun t=>(by rw[c1] at t;cases t),fun _=>?_⟩
  ·dsimp only;rw[c2];exact h.log.ok
  ·dsimp only;rw[c2];exact h.log.p
  ·dsimp only;rw[c2];exact h.log.aV
  ·dsimp only;rw[c2];exact h.log.rows
  ·dsimp only
   obtain⟨ar,aM⟩:=hH;rw[List.append_nil] at ar
   rcases c3 with c3 | c3
   ·exact⟨[],⟨by rw[c2,c3,ar,List.append_nil],by rw[c2,c4,aM]⟩,.inl rfl⟩
   ·refine⟨bN (NodeM.dV a).1,⟨by rw[c2,c3,ar],by rw[c2,c4,aM]⟩,.inr ⟨_,rfl,hx,?_,a,hf,hb,ha,?_,?_⟩⟩
    ·rw[c2,uV h.log.ok];exact lx.1
    ·rw[c2,uV h.log.ok];exact lx.2.1
    ·rw[c2,uV h.log.ok];exact lx.2.2.trans h.log.aV
theorem Live.XS {n:NodeM}(h:Live n)(k:Int):Live { n with number:=k }:=⟨h.ok,h.side,h.kb,h.bB,⟨h.log.ok,h.log.p,h.log.aV,h.log.rows⟩,h.rB,h.live,fun t=>h.dead t⟩
theorem Live.XT {n:NodeM}(h:Live n){p:PeerM}(hp:df n.p p)(ho:dD p.off.1)(hq:n.j.d=false\/p.off=n.p.off):Live { n with p:=p }:=by
 have XU:oG p:=fun t=>by
  obtain⟨a1,a2,a3⟩:=h.bB (by rw[hp.bB];exact t);rw[<- hp.len,<- hp.side,<- hp.cy,<- hp.bB,<- hp.es];exact⟨a1,a2,a3⟩
 refine⟨⟨?_,?_,?_,?_,?_,?_,ho,?_,?_⟩,hp.side.symm.trans h.side,hp.kb.symm.trans h.kb,XU,⟨h.log.ok,h.log.p.trans hp,h.log.aV,h.log.rows⟩,h.rB,h.live,fun t=>?_⟩
 ·rw[<- hp.kb];exact h.ok.kb
 ·rw[<- hp.side];exact h.ok.side
 ·rw[<- hp.hs,<- hp.es];exact h.ok.hs
 ·rw[<- hp.es];exact h.ok.num
 ·rw[<- hp.hs];exact h.ok.uT
 ·rw[<- hp.es];exact h.ok.es
 ·rw[<- hp.bB];exact h.ok.bB
 ·rw[<- hp.cy];exact h.ok.cy
 ·obtain⟨y,hy,hx⟩:=h.dead t
  have hq:=hq.resolve_left (fun u=>by have t:n.j.d=true:=t;rw[t] at u;cases u);refine⟨y,hy,hx.imp id fun⟨x,q,l,r1,a,hf,hb,ha,r2,r3⟩=>⟨x,q,l,r1,a,?_,hb,ha,?_,r3⟩⟩
  ·refine⟨hf.one,fun t=>?_,fun t=>?_,fun t=>?_,fun t=>?_⟩
   ·have:=hf.own t
    rw[<- hp.len,<- hp.side,<- hp.cy,<- hp.es];exact this
   ·have:=hf.bg t
    rw[<- (hp.entry a.bg).1];exact this
   ·have:=hf.new t
    rw[<- hp.bB,hq];exact this
   ·have:=hf.src t
    rw[<- hp.len,<- hp.side,<- hp.bB];exact this
  ·exact r2.trans (hp.bD rfl (fun _=>rfl) rfl (fun _=>rfl)).2
theorem Live.act {n:NodeM}(h:Live n)(hd:n.j.d=false){a:cG}(hf:Fits n.p a)(ha:oF a):Live (n.act a).1:=by
 unfold NodeM.act
 rcases h.ag hd hf ha with⟨c0,c1,c2,c3,c4,c5,c6,c7,c8⟩ | ⟨c0,c1,c2,c3⟩
 ·rw[if_neg (fun t=>t c0),c2,if_neg (fun t=>t hf.bD)]
  exact Live.XS c3 _
 ·rw[if_pos c0];exact c2
theorem Live.offer {n:NodeM}(h:Live n){m:aQ}(hm:dD m):Live (n.offer m).1:=by
 unfold NodeM.offer NodeM.dead;split
 ·exact h
 ·rename_i hd
  refine h.XT ?_ (h.ok.offer hm).off (.inl (by simpa using hd));unfold PeerM.offer;split
  ·exact df.refl _
  split
  ·exact df.refl _
  split
  ·exact df.refl _
  split
  ·exact df.refl _
  ·exact⟨rfl,rfl,rfl,rfl,rfl,rfl⟩
theorem XV {bs q:List UInt8}{l:List (List UInt8)}(h:lX bs l q):∀ n,l.length<=n->wP n bs=(l,q):=by
 induction h with
 | stop h0=>
  intro n _;cases n with
  | zero=>rfl
  | succ n=>unfold wP;rw[h0]
 | next h0 _ ih=>
  intro n hn;cases n with
  | zero=>simp at hn
  | succ n=>
   unfold wP;rw[h0];dsimp only;rw[ih n (by simpa using hn)]
theorem GX {bs q:List UInt8}{l:List (List UInt8)}(h:lX bs l q):uS bs=(l,q):=XV h _ (by have:=h.len;omega)
theorem XW {j:j1}{x:List UInt8}(hd:j.d=false)(hf:j.fs.dead=false)(hl:j.fs.lit=false)(hx:x.length<=4000):
  (j.put x).2≠11/\(j.put x).1.fs.lit=false/\(j.put x).1.fs.cp=j.fs.cp/\((j.put x).2=10->j.fs.cp - j.fs.b.length<x.length+3):=by
 obtain⟨e1,e2,e3⟩:=oC j.fs;obtain⟨k1,k2⟩:=GS _ hl;unfold j1.put iq;dsimp only;rw[if_neg (by rw[hd,hf];simp),if_neg (by omega)];have hA:fo j.fs (bN x)=if((bN x).length:Int) > j.fs.cp - j.fs.b.length then(j.fs,10) else({ (cY j.fs).1 with b:=j.fs.b++bN x },0):=by
  unfold fo;rw[if_neg (by rw[hf];simp),if_pos k1]
 by_cases hq:((bN x).length:Int) > j.fs.cp - j.fs.b.length
 ·rw[hA,if_pos hq,if_pos (by simp)]
  refine⟨by simp,hl,rfl,fun _=>?_⟩;rw[oD] at hq;omega
 rw[if_neg hq] at hA;rw[hA,if_neg (fun t=>t rfl)];generalize fQ:({ (cY j.fs).1 with b:=j.fs.b++bN x }:bM)=s2
 have d2:s2.dead=false:=by rw[<- fQ];exact(Cc _ k1).trans hf
 have l2:s2.lit=false:=by rw[<- fQ];exact k2
 have q2:s2.cp=j.fs.cp:=by rw[<- fQ];exact e2
 obtain⟨g1,g2,g3⟩:=oC s2;obtain⟨m1,m2⟩:=GS _ l2;have hS:ia s2=({ (cY s2).1 with synced:=s2.b.length },0):=by unfold ia;rw[if_neg (by rw[d2];simp),if_pos m1]
 rw[hS,if_neg (fun t=>t rfl)];exact⟨by simp,m2,g2.trans q2,fun t=>by cases t⟩
theorem NG:([1]:List UInt8).length<=4000:=by decide
theorem NH {kb:List UInt8}(U:kb.length=16){side:Int}(hs:side=0\/side=1){s:bM}(ok:s.Ok)(hd:s.dead=false)(hl:s.lit=false){R:List (List UInt8)}{rest:List UInt8}(hP:lX s.b R rest)(ht:s.b.take (s.b.length - rest.length)=cQ R)
  (GY:s.synced=(s.b.length:Int)) (hR:∀ r∈R,r.length<=4000) (Ce:(log kb side R).2=true) (jw:dK (log kb side R).1.p) (hp:oG (log kb side R).1.p) (Gr:(log kb side R).1.p.side=side/\(log kb side R).1.p.kb=kb) :
  (∃ m,NodeM.open_ kb side s=(m.j.fs,some m,0)/\Live m/\m.kb=kb/\m.side=side/\m.p=(log kb side R).1.p/\m.aV=(log kb side R).1.aV+1/\m.number=0/\m.w=sV/\m.j.rs=R++[[1]]/\m.j.d=false/\m.j.fs.lit=false/\m.j.fs.cp=s.cp) \/
  (∃ s',NodeM.open_ kb side s=(s',none,10)/\s'.cp - s'.b.length<4/\s'.b=cQ R/\s'.cp=s.cp):=by
 have NI:rest.length<=s.b.length:=by have:=hP.len;omega
 obtain⟨s1,e1,b1,d1,l1,y1,XX,q1⟩:∃ s1,lv s=(s1,R,0)/\s1.b=cQ R/\s1.dead=false/\s1.lit=false/\s1.synced=((cQ R).length:Int)/\s1.Ok/\s1.cp=s.cp:=by
  unfold lv;rw[GX hP,if_neg (by rw[hd];simp)];dsimp only
  by_cases h0:rest=[]
  ·subst h0
   rw[if_pos rfl];have:s.b=cQ R:=by rw[<- ht];simp
   exact⟨s,rfl,this,hd,hl,by rw[GY,this],ok,rfl⟩
  ·rw[if_neg h0]
   have cV:=GS s hl;obtain⟨g1,g2,g3⟩:=oC s;have hc:kR s ((s.b.length - rest.length:Nat):Int)=({ (cY s).1 with b:=s.b.take (s.b.length - rest.length),synced:=((s.b.length - rest.length:Nat):Int) },0):=by
    unfold kR;rw[if_neg (by rw[hd];simp),if_neg (by omega),if_neg (by omega),if_pos cV.1];rfl
   rw[hc];have hlen:(cQ R).length=s.b.length - rest.length:=by rw[<- ht,List.length_take];omega
   have wT:=GV ok;refine⟨_,rfl,ht,(Cc _ cV.1).trans hd,cV.2,by rw[hlen],?_,g2⟩;have:=ok.len;exact⟨by dsimp only;rw[ht];omega,wT.q0,wT.q1,by dsimp only;omega,by dsimp only;rw[ht];omega⟩
 unfold NodeM.open_;rw[if_neg (by rcases hs with rfl | rfl<;>decide),e1]
 dsimp only;rw[if_neg (fun t=>t rfl),XM,Ce,if_neg (by simp)];obtain⟨lk,ls,ln⟩:=ND kb side R;have lw:(log kb side R).1.w=sV:=(GR R (NodeM.fresh kb side uU [])).2.2.2.1;have hH:Holds s1 R []:=⟨by rw[b1,List.append_nil],y1⟩;obtain⟨p1,p2,p3,p4⟩:=XW (j:=⟨s1,false,R⟩) (x:=[1]) rfl d1 l1 NG
 rcases NB (j:=⟨s1,false,R⟩) (x:=[1]) rfl d1 hH NG with⟨c0,c1,c2,c3,c4⟩ | ⟨c0,c1,c2,c3⟩ | ⟨c0,_⟩
 ·rw[if_neg (fun t=>t c0)]
  refine .inl ⟨{ (log kb side R).1 with j:=(j1.put ⟨s1,false,R⟩ [1]).1,aV:=(log kb side R).1.aV+1 },rfl,?_,lk,ls,rfl,rfl,ln,lw,c2,c1,p2,p3.trans q1⟩
  refine⟨jw,Gr.1.trans ls.symm,Gr.2.trans lk.symm,hp,?_,NC XX _ _,fun _=>⟨c3,by dsimp only;rw[c2];exact c4⟩,fun t=>by dsimp only at t;rw[c1] at t;cases t⟩;refine⟨?_,?_,?_,?_⟩<;>dsimp only<;>rw[c2]
  ·rw[lk,ls,uV Ce];rfl
  ·rw[lk,ls,uV Ce];exact df.refl _
  ·rw[lk,ls,uV Ce];rfl
  ·intro r hr
   rcases List.mem_append.1 hr with hr | hr
   ·exact hR r hr
   ·simp at hr;subst hr;decide
 ·rw[if_pos (by rw[c0];decide),c0]
  refine .inr ⟨_,rfl,?_⟩;have:=p4 c0;have c3:(j1.put ⟨s1,false,R⟩ [1]).1.fs=s1:=c3;rw[c3];have e:([1]:List UInt8).length=1:=rfl;rw[e] at this;dsimp only at this;exact⟨by omega,b1,q1⟩
 ·exact absurd c0 p1
theorem NJ {n:NodeM}(h:dK n.p)(b:List UInt8):dK (n.record b).1.p/\(n.record b).1.p.side=n.p.side/\(n.record b).1.p.kb=n.p.kb:=by
 have hcs:∀ a:cG,(n.p.bD a).1.side=n.p.side/\(n.p.bD a).1.kb=n.p.kb:=by
  intro a;unfold PeerM.bD;split
  ·split
   ·exact⟨rfl,rfl⟩
   ·have:=rz (n.p.entry a.bg).1 a
    have e2:(n.p.entry a.bg).1.side=n.p.side/\(n.p.entry a.bg).1.kb=n.p.kb:=by
     unfold PeerM.entry;split
     ·exact⟨rfl,rfl⟩
     split
     ·exact⟨rfl,rfl⟩
     split<;>exact⟨rfl,rfl⟩
    exact⟨this.side.trans e2.1,this.kb.trans e2.2⟩
  ·have:=rz n.p a
   exact⟨this.side,this.kb⟩
 unfold NodeM.record;cases b with
 | nil=>exact⟨h,rfl,rfl⟩
 | cons c r=>
  dsimp only;split
  ·exact⟨h,rfl,rfl⟩
  split
  ·split
   ·exact⟨h,rfl,rfl⟩
   ·exact⟨h.bD (Ns r) iK,hcs _⟩
  split
  ·split
   ·exact⟨h,rfl,rfl⟩
   split
   ·exact⟨h,rfl,rfl⟩
   ·exact⟨h.bD iK (GN r),hcs _⟩
  ·exact⟨h,rfl,rfl⟩
theorem NK:∀ (l:List (List UInt8)) {n:NodeM},dK n.p->dK (n.records l).1.p/\(n.records l).1.p.side=n.p.side/\(n.records l).1.p.kb=n.p.kb
 | [],n,h=>⟨h,rfl,rfl⟩
 | b::l,n,h=>by
  rw[rA];obtain⟨a1,a2,a3⟩:=NJ h b;split
  ·obtain⟨b1,b2,b3⟩:=NK l a1
   exact⟨b1,b2.trans a2,b3.trans a3⟩
  ·exact⟨a1,a2,a3⟩
theorem NL {kb:List UInt8}(U:kb.length=16){side:Int}(hs:side=0\/side=1)(l:List (List UInt8)):dK (log kb side l).1.p/\(log kb side l).1.p.side=side/\(log kb side l).1.p.kb=kb:=by
 obtain⟨a,b,c⟩:=NK l (n:=NodeM.fresh kb side uU []) (Ni U side);refine⟨a,b.trans ?_,c⟩
 rcases hs with rfl | rfl<;>rfl
theorem oG.same {p q:PeerM}(h:oG p)(s:df p q):oG q:=fun t=>by
 obtain⟨a1,a2,a3⟩:=h (by rw[s.bB];exact t);rw[<- s.len,<- s.side,<- s.cy,<- s.bB,<- s.es];exact⟨a1,a2,a3⟩
theorem XY {n:NodeM}(h:Live n)(ag sp:Int):∃ R,
    (R=n.j.rs/\df (log n.kb n.side R).1.p n.p\/n.j.d=true/\∃ a,Fits n.p a/\(a.dj=true\/a.cM=true)/\oF a/\df (log n.kb n.side R).1.p (n.p.bD a).1)/\(log n.kb n.side R).1.aV=n.aV /\
    ((∃ m,NodeM.open_ n.kb n.side (lW n.j.fs ag sp)=(m.j.fs,some m,0)/\Live m/\m.kb=n.kb/\m.side=n.side/\m.p=(log n.kb n.side R).1.p/\m.aV=n.aV+1/\m.number=0/\m.w=sV/\m.j.rs=R++[[1]]/\m.j.d=false/\m.j.fs.lit=false/\m.j.fs.cp=n.j.fs.cp) \/
     (∃ s',NodeM.open_ n.kb n.side (lW n.j.fs ag sp)=(s',none,10)/\s'.cp - s'.b.length<4/\s'.b=cQ R/\s'.cp=n.j.fs.cp))/\(cQ R).length<=n.j.fs.b.length:=by
  have U:n.kb.length=16:=by rw[<- h.kb];exact h.ok.kb
  have hs:n.side=0\/n.side=1:=by rw[<- h.side];exact h.ok.side
  obtain⟨y,hH,hy⟩:∃ y,Holds n.j.fs n.j.rs y/\(y=[]\/n.j.d=true/\∃ x,y=bN x/\GU n x):=by
    cases hd:n.j.d with
    | false=>exact⟨[],(h.live hd).2,.inl rfl⟩
    | true=>obtain⟨y,a,b⟩:=h.dead hd;exact⟨y,a,b.imp id fun t=>⟨rfl,t⟩⟩
  obtain⟨x,GQ,hx,jh⟩:∃ x,(y=[]\/y=bN x)/\x.length<=4000/\(y=bN x->n.j.d=true/\GU n x):=by
    rcases hy with rfl | ⟨hd,x,rfl,hn⟩
    · refine⟨[],.inl rfl,by decide,fun t=>?_⟩
      have:=congrArg List.length t;rw[oD] at this;simp at this
    · exact⟨x,.inr rfl,hn.1,fun _=>⟨hd,hn⟩⟩
  obtain⟨R,rest,hR,hP,ht,GY⟩:=XG h.rB GQ hx hH.1 hH.2 h.log.rows ag sp;refine⟨R,?_⟩;have XZ:∀ r∈R,r.length<=4000:=hP.len.2;have facts:(log n.kb n.side R).2=true/\(R=n.j.rs/\df (log n.kb n.side R).1.p n.p\/n.j.d=true/\∃ a,Fits n.p a/\(a.dj=true\/a.cM=true)/\oF a/\df (log n.kb n.side R).1.p (n.p.bD a).1)/\(log n.kb n.side R).1.aV=n.aV/\oG (log n.kb n.side R).1.p:=by
    rcases hR with rfl | ⟨rfl,hyp⟩
    · exact⟨h.log.ok,.inl ⟨rfl,h.log.p⟩,h.log.aV,h.bB.same h.log.p.symm⟩
    · obtain⟨hd,l,r1,a,hf,hb,ha,r2,r3⟩:=jh hyp
      exact⟨r1,.inr ⟨hd,a,hf,hb,ha,r2⟩,r3,(h.bB.bD hf).same r2.symm⟩
  obtain⟨f1,f2,f3,f4⟩:=facts;refine⟨f2,f3,?_,?_⟩
  rotate_left
  · rw[<- ht,List.length_take]
    have e:(lW n.j.fs ag sp).b.length=(iI n.j.fs ag).toNat:=Nt h.rB ag sp;have:=GO h.rB ag;omega
  obtain⟨l1,l2,l3⟩:=NL U hs R;have X0:(lW n.j.fs ag sp).Ok:=XC h.rB ag sp
  rcases NH U hs X0 rfl rfl hP ht GY XZ f1 l1 f4 ⟨l2,l3⟩ with⟨m,m1,m2,m3,m4,m5,m6,m7,m8,m9,m10,m11,m12⟩ | t
  · exact .inl ⟨m,m1,m2,m3,m4,m5,by rw[m6,f3],m7,m8,m9,m10,m11,m12⟩
  · exact .inr t
def uW (f:cU):Prop:=∀ side aV number:Int,(side=0\/side=1)->iG aV=true->iG number=true->BK (side,aV,number,f.2.2.2)=0
theorem Cf {kind slot head:Int}{flag:Bool}{m:aQ}(U:1<=kind/\kind<=4)(hs:iG slot=true)(hf:flag=true->kind≠1/\kind≠3)(h1:kind=1->iF m=0)(h2:kind≠1->m=bp):uW (PeerM.fr kind slot head flag m):=by
 intro side aV number a b c;show lp (side,aV,number,kind,slot,head,flag,m.e) (bh m.t).2=0;have e1:oz (side,aV,number,kind,slot,head,flag,m.e)=true:=by
  unfold oz;dsimp only;rw[b,c,hs];rcases a with rfl | rfl<;>rfl
 have e2:sO (side,aV,number,kind,slot,head,flag,m.e)=true:=by
  unfold sO;dsimp only;rw[decide_eq_true U.1,decide_eq_true U.2];cases flag with
  | false=>rfl
  | true=>obtain⟨x,y⟩:=hf rfl;simp[x,y]
 unfold lp;rw[if_neg (by rw[e1];simp),if_neg (by rw[e2];simp)]
 by_cases k:kind=1
 ·rw[if_pos (by exact k)];exact h1 k
 ·have hz:rp bp.e=true:=by decide +kernel
  rw[if_neg (by exact k),if_neg];rw[h2 k];show ¬ rp bp.e=false;rw[hz];simp
theorem Cg {p:PeerM}(h:dK p):iG p.len=true:=by
 have:=h.num;unfold iG PeerM.len;rw[decide_eq_true (by omega),decide_eq_true (by omega)];rfl
theorem Ch {g:cU}(h:uW g):∀ f∈[g],uW f:=fun f hf=>by
 have:f=g:=by simpa using hf
 rw[this];exact h
theorem NM {p:PeerM}(h:dK p)(m:aQ):∀ f∈(p.jY m).cz,uW f:=by
 unfold PeerM.jY;split
 ·exact fun f hf=>nomatch hf
 ·rename_i t
  exact Ch (Cf (by decide) (Cg h) (fun t=>by cases t) (fun _=>zA (Classical.not_not.1 t)) (fun t=>absurd rfl t))
theorem X1 {p:PeerM}(h:dK p)(hp:oG p):∀ f∈p.tick.cz,uW f:=by
 unfold PeerM.tick;split
 ·exact Ch (Cf (by decide) (Cg h) (fun _=>by decide) (fun t=>by cases t) (fun _=>rfl))
 split
 ·exact fun f hf=>nomatch hf
 split
 ·rename_i t
  exact Ch (Cf (by decide) (Cg h) (fun t=>by cases t) (fun _=>zA (hp t).2.1) (fun t=>absurd rfl t))
 split
 ·exact NM h _
 split
 ·exact NM h _
 split
 ·exact Ch (Cf (by decide) (Cg h) (fun t=>by cases t) (fun t=>by cases t) (fun _=>rfl))
 ·exact fun f hf=>nomatch hf
theorem X2 {kb:List UInt8}{m:cU}(h:BK m=0):(jX kb m).2=0:=by
 have h:lp m.f (bh m.m.t).2=0:=h;have hb:(jH m.f (bh m.m.t).1 (bh m.m.t).2).2=0:=by
  unfold jH;rw[if_neg (fun t=>t h)];split<;>rfl
 unfold jX uM;rw[if_neg (fun t=>t hb)]
theorem X3 {kb:List UInt8}{m:cU}(h:BK m=0)(hh:0<=m.2.2.2.2.2.1/\m.2.2.2.2.2.1<18446744073709551616):pA kb (jX kb m).1=(m,0):=by
 have h:lp m.f (bh m.m.t).2=0:=h;have hb:(jH m.f (bh m.m.t).1 (bh m.m.t).2).2=0:=by
  unfold jH;rw[if_neg (fun t=>t h)];split<;>rfl
 have e:(jX kb m).1=(lq m).1++gk (mO kb (lq m).1):=by
  unfold jX uM;rw[if_neg (fun t=>t hb)];rfl
 rw[e];exact Vs hh (show lq m=((lq m).1,0) from Prod.ext rfl hb)
theorem X4 {kb:List UInt8}{m:cU}(h:BK m=0):(jX kb m).1.length<=5000:=by
 have h:lp m.f (bh m.m.t).2=0:=h;have hx:(jH m.f (bh m.m.t).1 (bh m.m.t).2).2=0:=by
  unfold jH;rw[if_neg (fun t=>t h)];split<;>rfl
 unfold jX uM;rw[if_neg (fun t=>t hx),List.length_append,pq];unfold jH;rw[if_neg (fun t=>t h)];split
 ·show(qp _).length+8<=5000
  rw[yY];decide
 ·rename_i ux
  have X5:iF m.m=0:=(Gb h).2.2.2.2.2.1 (Classical.not_not.1 ux);have:=Cb X5;show(qp _++(da m.m).1).length+8<=5000;rw[List.length_append,yY];omega
theorem NN {n:NodeM}{a:cG}(hf:Fits n.p a):(a.dj=false/\a.cM=false/\n.ag a=(n,0)) \/
  ((a.dj=true\/a.cM=true)/\(NodeM.dV a).2=0/\(NodeM.dV a).1.length<=1217/\n.ag a=({ n with j:=(n.j.put (NodeM.dV a).1).1 },(n.j.put (NodeM.dV a).1).2)):=by
 by_cases hn:a.dj=false/\a.cM=false
 ·exact .inl ⟨hn.1,hn.2,by unfold NodeM.ag;rw[if_pos hn]⟩
 have hb:a.dj=true\/a.cM=true:=by
  cases hE:a.dj
  ·cases hP:a.cM
   ·exact absurd ⟨hE,hP⟩ hn
   ·exact .inr rfl
  ·exact .inl rfl
 have both:(NodeM.dV a).2=0/\(NodeM.dV a).1.length<=1217:=by
  unfold NodeM.dV
  by_cases hE:a.dj=true
  ·rw[if_pos hE]
   have h0:=hf.bg hE;have U:iF a.bg.1=0:=by
    rw[<- Ca];unfold PeerM.entry at h0;split at h0
    ·cases h0
    split at h0
    ·rename_i q;exact absurd h0 q
    rename_i q;have q:=Classical.not_not.1 q;unfold iV at q;split at q
    ·exact q
    ·rename_i r;exact Classical.not_not.1 r
   refine⟨by rw[show((2:UInt8)::(fZ a.bg).1,(fZ a.bg).2).2=(fZ a.bg).2 from rfl,Ca];exact U,?_⟩;have:=Nv U;simp only[List.length_cons];omega
  ·rw[if_neg hE]
   have U:iF a.bI=0:=zA (hf.own (hb.resolve_left hE)).2.1;refine⟨by rw[show((3:UInt8)::(da a.bI).1,(da a.bI).2).2=(da a.bI).2 from rfl,wR];exact U,?_⟩;have:=Cb U;simp only[List.length_cons];omega
 exact .inr ⟨hb,both.1,both.2,by unfold NodeM.ag;rw[if_neg hn,if_neg (fun t=>t both.1)]⟩
theorem GZ {n:NodeM}(a:cG):(n.ag a).1.p=n.p/\(n.ag a).1.kb=n.kb/\(n.ag a).1.side=n.side/\(n.ag a).1.aV=n.aV/\(n.ag a).1.number=n.number/\(n.ag a).1.w=n.w:=by
 unfold NodeM.ag;split
 ·exact⟨rfl,rfl,rfl,rfl,rfl,rfl⟩
 split<;>exact⟨rfl,rfl,rfl,rfl,rfl,rfl⟩
theorem X6 {n:NodeM}{a:cG}(h:Live n)(hf:Fits n.p a)(ha:oF a)(U:(n.ag a).2=0)(hs:∀ f∈a.cz,uW f)(he:iG n.aV=true)(hn:iG n.number=true):
  n.act a=({ (n.ag a).1 with p:=(n.p.bD a).1,number:=n.number+(a.cz.length:Int) },a.cz.map (fun f=>(jX n.kb (n.side,n.aV,n.number,f.2.2.2)).1),0):=by
 obtain⟨k1,k2,k3,k4,k5,k6⟩:=GZ (n:=n) a;have qv:n.side=0\/n.side=1:=by rw[<- h.side];exact h.ok.side
 unfold NodeM.act;rw[if_neg (fun t=>t U),k1,if_neg (fun t=>t hf.bD)];have hl:=ha.num
 match rE:a.cz with
 | []=>simp[NodeM.jn]
 | [f]=>
  have hc:=X2 (kb:=n.kb) (hs f (by rw[rE];simp) n.side n.aV n.number qv he hn);simp[NodeM.jn,hc]
 | f::g::l=>rw[rE] at hl;simp at hl
theorem X7 (s:bM)(x:List UInt8):((fo s x).1.b=s.b\/(fo s x).1.b=s.b++x)/\(fo s x).1.cp=s.cp:=by
 obtain⟨e1,e2,e3⟩:=oC s;unfold fo;split
 ·exact⟨.inl rfl,rfl⟩
 split
 ·exact⟨.inl rfl,rfl⟩
 split
 ·exact⟨.inr rfl,e2⟩
 ·exact⟨.inl e1,e2⟩
theorem X8 (s:bM):(ia s).1.b=s.b/\(ia s).1.cp=s.cp:=by
 obtain⟨e1,e2,e3⟩:=oC s;unfold ia;split
 ·exact⟨rfl,rfl⟩
 split
 ·exact⟨e1,e2⟩
 ·exact⟨e1,e2⟩
theorem X9 (j:j1)(x:List UInt8):(j.put x).1.fs.b.length<=j.fs.b.length+(x.length+3)/\(j.put x).1.fs.cp=j.fs.cp:=by
 obtain⟨a1,a2⟩:=X7 j.fs (bN x);obtain⟨b1,b2⟩:=X8 (fo j.fs (bN x)).1;have ha:(fo j.fs (bN x)).1.b.length<=j.fs.b.length+(x.length+3):=by
  rcases a1 with t | t
  ·rw[t];omega
  ·rw[t,List.length_append,oD];omega
 unfold j1.put iq;dsimp only;split
 ·exact⟨by dsimp only;omega,rfl⟩
 split
 ·exact⟨by dsimp only;omega,rfl⟩
 split
 ·exact⟨ha,a2⟩
 split
 ·exact⟨by dsimp only;rw[b1];exact ha,by dsimp only;rw[b2,a2]⟩
 ·exact⟨by dsimp only;rw[b1];exact ha,by dsimp only;rw[b2,a2]⟩
theorem Ya {n:NodeM}{a:cG}(hf:Fits n.p a):(n.ag a).1.j.fs.b.length<=n.j.fs.b.length+1220/\(n.ag a).1.j.fs.cp=n.j.fs.cp/\(a.dj=false->a.cM=false->(n.ag a).1=n)/\(n.ag a).1.j.fs.b.length<=n.j.fs.b.length+((NodeM.dV a).1.length+3):=by
 rcases NN hf with⟨_,_,e⟩ | ⟨hb,_,hl,e⟩
 ·rw[e];exact⟨by dsimp only;omega,rfl,fun _ _=>rfl,by dsimp only;omega⟩
 ·rw[e]
  have:=X9 n.j (NodeM.dV a).1;exact⟨by have:=this.1;dsimp only;omega,this.2,fun h1 h2=>by rw[h1,h2] at hb;simp at hb,this.1⟩
theorem Yb {j:j1}{x:List UInt8}(hd:j.d=false)(hf:j.fs.dead=false)(hl:j.fs.lit=false)(hx:x.length<=4000)(hr:(x.length:Int)+3<=j.fs.cp - j.fs.b.length):
  (j.put x).2=0/\(j.put x).1.d=false/\(j.put x).1.rs=j.rs++[x]/\(j.put x).1.fs.b=j.fs.b++bN x/\(j.put x).1.fs.cp=j.fs.cp/\(j.put x).1.fs.lit=false/\(j.put x).1.fs.dead=false:=by
 obtain⟨a,b,c,d,e,f,g,i⟩:=WH hl hf hx hr;unfold j1.put;rw[hd];exact⟨a,c,by rw[b];rfl,d,e,g,i⟩
theorem Yc {n:NodeM}(h:Live n)(hd:n.j.d=false)(hl:n.j.fs.lit=false){a:cG}(hf:Fits n.p a){L:Nat}(hL:L=1217\/(NodeM.dV a).1.length<=L)(hr:(n.j.fs.b.length:Int)+L+3<=n.j.fs.cp):(n.ag a).2=0/\(n.ag a).1.j.fs.lit=false/\(n.ag a).1.j.d=false:=by
 rcases NN hf with⟨_,_,e⟩ | ⟨_,_,hx,e⟩
 ·rw[e];exact⟨rfl,hl,hd⟩
 ·rw[e]
  obtain⟨p1,p2,p3,p4,p5,p6,p7⟩:=Yb hd (h.live hd).1 hl (x:=(NodeM.dV a).1) (by omega) (by omega);exact⟨p1,p6,p2⟩
theorem NO:∀ l:List (List UInt8),3 * l.length<=(cQ l).length
 | []=>Nat.zero_le _
 | x::l=>by
  have:=NO l;show 3 * (l.length+1)<=(bN x++cQ l).length;rw[List.length_append,oD];omega
theorem Live.NP {n:NodeM}(h:Live n):n.j.rs.length<=1000000:=by
 obtain⟨y,hy⟩:∃ y,Holds n.j.fs n.j.rs y:=by
  cases hd:n.j.d with
  | false=>exact⟨[],(h.live hd).2⟩
  | true=>obtain⟨y,a,_⟩:=h.dead hd;exact⟨y,a⟩
 have h1:=h.rB.len;rw[hy.1,List.length_append] at h1;have:=NO n.j.rs;omega
structure qw (p:PeerM):Prop where
 off:p.off=(bp,false)
 wanted:p.wanted=false
 dJ:p.dJ=false
 refused:p.refused=0
theorem qw.bD {p:PeerM}(h:qw p){a:cG}(h1:a.wanted=false)(h2:a.dJ=false):qw (p.bD a).1:=by
 have hE:∀ q:PeerM,qw q->qw (q.ended a):=fun q hq=>by
  unfold PeerM.ended PeerM.jZ;refine⟨?_,?_,?_,?_⟩
  ·dsimp only;split
   ·rfl
   ·exact hq.off
  ·dsimp only;rw[hq.wanted,h1];rfl
  ·dsimp only;rw[hq.dJ,h2];rfl
  ·dsimp only;split<;>exact hq.refused
 unfold PeerM.bD;split
 ·split
  ·exact h
  ·refine hE _ ?_
   unfold PeerM.entry;split
   ·exact h
   split
   ·exact h
   split
   ·exact h
   ·exact⟨h.off,rfl,h.dJ,h.refused⟩
 ·exact hE _ h
theorem NQ {n:NodeM}(h:qw n.p)(b:List UInt8):qw (n.record b).1.p:=by
 unfold NodeM.record;split
 ·exact h
 split
 ·exact h
 split
 ·split
  ·exact h
  ·exact h.bD rfl rfl
 split
 ·split
  ·exact h
  split
  ·exact h
  ·exact h.bD rfl rfl
 ·exact h
theorem NR:∀ (l:List (List UInt8)) {n:NodeM},qw n.p->qw (n.records l).1.p
 | [],_,h=>h
 | b::l,n,h=>by
  rw[rA];split
  ·exact NR l (NQ h b)
  ·exact NQ h b
theorem Yd (kb:List UInt8)(side:Int)(l:List (List UInt8)):qw (log kb side l).1.p:=NR l ⟨rfl,rfl,rfl,rfl⟩
theorem df.eq {p q:PeerM}(h:df p q)(h1:p.off=q.off)(h2:p.wanted=q.wanted)(h3:p.dJ=q.dJ)(h4:p.refused=q.refused):p=q:=by
 obtain⟨a1,a2,a3,a4,a5,a6⟩:=h;cases p;cases q;simp only at *;subst a1 a2 a3 a4 a5 a6 h1 h2 h3 h4;rfl
theorem NS {n:NodeM}(h:Live n)(hd:n.j.d=false):n.j.fs.b=cQ n.j.rs:=by
 have:=(h.live hd).2.1;rwa[List.append_nil] at this
theorem NT (R:List (List UInt8)):(cQ (R++[[1]])).length=(cQ R).length+4:=by
 rw[zt,List.length_append,oD];rfl
theorem Ye {kb:List UInt8}(U:kb.length=16){side:Int}(hs:side=0\/side=1){q:Int}(h4:4<=(pC q).cp):
  ∃ m,NodeM.open_ kb side (pC q)=(m.j.fs,some m,0)/\Live m/\m.kb=kb/\m.side=side/\m.p=lT kb side/\m.aV=1/\m.number=0/\m.w=sV/\m.j.rs=[[1]]/\m.j.d=false/\m.j.fs.lit=false/\m.j.fs.cp=(pC q).cp/\m.j.fs.b.length=4:=by
 have hP:lX (pC q).b [] []:=.stop (by
  show iJ []=none;unfold iJ;rw[if_pos (by simp)])
 have e0:(log kb side [])=(NodeM.fresh kb side uU [],true):=rfl;obtain⟨o1,o2,o3⟩:=NL U hs []
 rcases NH U hs (Mz q) rfl rfl hP rfl rfl (fun r hr=>nomatch hr) (by rw[e0]) o1 (by rw[e0];exact fun t=>by cases t) ⟨o2,o3⟩ with⟨m,m1,m2,m3,m4,m5,m6,m7,m8,m9,m10,m11,m12⟩ | ⟨s',_,h,hb,hq⟩
 ·refine⟨m,m1,m2,m3,m4,by rw[m5,e0];rfl,by rw[m6,e0];rfl,m7,m8,m9,m10,m11,m12,?_⟩
  rw[NS m2 m10,m9,NT];rfl
 ·rw[hq] at h
  have:s'.b.length=0:=by rw[hb];rfl
  omega
namespace Vc
variable {P:Program}
inductive Pv where
 | i (n:Int)
 | s (l:List UInt8)
 | b (x:Bool)
 deriving DecidableEq
def Pv.v:Pv->Value
 | .i n=>.int .i64 n
 | .s l=>.string (str l)
 | .b x=>.bool x
def nK (P:Program)(t:TypeId):Pv->Prop
 | .i _=>P.underlying t=some (.int .i64)
 | .s _=>P.underlying t=some .string
 | .b _=>P.underlying t=some .bool
def zB (P:Program):Nat->List Field->List Pv->Prop
 | _,[],[]=>True
 | n, f :: fs, p :: ps => f.name ≠ "_" /\ f.offset = n /\ nK P f.type p /\ zB P (n + 1) fs ps
 | _,_,_=>False
theorem G1 {t:TypeId}{p:Pv}(ht:nK P t p){cs:Array Value}{n:Nat}(hc:cs[n]? = some p.v)(w:World):(part t cs n).run P w=.ok p.v w:=by
 cases p<;>simp only[nK] at ht<;>simp[part,isAgg,run_underlying ht,hc]
theorem Yf {t:TypeId}{p q:Pv}(hp:nK P t p)(hq:nK P t q)(d:Nat)(w:World):(Op.equalIn (d+1) t p.v q.v).run P w=.ok (decide (p=q)) w:=by
 cases p with
 | i n=>cases q with
  | i m=>
   refine(run_equalIn_int w d t .i64 .i64 n m hp).trans ?_
   congr 1
   by_cases h:n=m
   ·subst h;simp
   ·simp[h]
  | s m=>simp only[nK] at hp hq;rw[hp] at hq;cases hq
  | b m=>simp only[nK] at hp hq;rw[hp] at hq;cases hq
 | s l=>cases q with
  | i m=>simp only[nK] at hp hq;rw[hp] at hq;cases hq
  | s m=>
   refine(run_equalIn_string w d t _ _ hp).trans ?_;rw[iv]
   congr 1
   exact decide_eq_decide.2 ⟨fun h=>by rw[h],fun h=>by injection h⟩
  | b m=>simp only[nK] at hp hq;rw[hp] at hq;cases hq
 | b x=>cases q with
  | i m=>simp only[nK] at hp hq;rw[hp] at hq;cases hq
  | s m=>simp only[nK] at hp hq;rw[hp] at hq;cases hq
  | b y=>
   refine(run_equalIn_bool' w d t x y hp).trans ?_
   congr 1
   cases x<;>cases y<;>rfl
theorem NU (d:Nat)(w:World):∀ (fs:List Field) (ps qs pre zC:List Pv) (n:Nat),pre.length=n->zC.length=n->zB P n fs ps->zB P n fs qs ->
  (Op.eqFields (d+1) ((pre++ps).map Pv.v).toArray ((zC++qs).map Pv.v).toArray fs).run P w=.ok (decide (ps=qs)) w
 | [],[],[],_,_,_,_,_,_,_=>by simp[Op.eqFields]
 | [],[],_::_,_,_,_,_,_,_,h=>h.elim
 | [],_::_,_,_,_,_,_,_,h,_=>h.elim
 | _::_,[],_,_,_,_,_,_,h,_=>h.elim
 | _::_,_::_,[],_,_,_,_,_,_,h=>h.elim
 | f::fs,p::ps,q::qs,pre,zC,n,h1,h2,⟨hn,ho,hp,Yg⟩,⟨_,_,hq,Yh⟩=>by
  have c1:(((pre++p::ps).map Pv.v).toArray)[f.offset]? = some p.v:=by rw[ho];simp[<- h1]
  have c2:(((zC++q::qs).map Pv.v).toArray)[f.offset]? = some q.v:=by rw[ho];simp[<- h2]
  simp only[Op.eqFields,ne_eq,hn,not_false_eq_true,if_true,Sem.run_bind,G1 hp c1,G1 hq c2,Result.andThen_ok,Yf hp hq]
  by_cases h:p=q
  ·subst h
   have ih:=NU d w fs ps qs (pre++[p]) (zC++[p]) (n+1) (by simp[h1]) (by simp[h2]) Yg Yh;rw[List.append_assoc,List.append_assoc,List.singleton_append,List.singleton_append] at ih;simp only[decide_true,if_true];exact ih.trans (by simp)
  ·simp[h]
structure uX (P:Program)(t:TypeId)(ps:List Pv):Prop where
 und:P.underlying t=some (.struct (P.fieldsOf t))
 held:P.stoodInHeld t=false
 guard:P.eqGuardType P.depth t=false
 fits:zB P 0 (P.fieldsOf t).toList ps
theorem NV {t:TypeId}{ps qs:List Pv}(h:uX P t ps)(h':uX P t qs)(d:Nat)(w:World):(Op.equalIn (d+2) t (.agg (ps.map Pv.v).toArray) (.agg (qs.map Pv.v).toArray)).run P w=.ok (decide (ps=qs)) w:=by
 rw[run_equalIn_agg w _ _ _ _ h.und h.held];exact NU d w _ ps qs [] [] 0 rfl rfl h.fits h'.fits
theorem Yi {t:TypeId}{ps qs:List Pv}(h:uX P t ps)(h':uX P t qs)(o1 o2:Operand)(w:World):
  (do eqGuard .eql t o1 o2 (.agg (ps.map Pv.v).toArray) (.agg (qs.map Pv.v).toArray);binOp .eql t (.agg (ps.map Pv.v).toArray) (.agg (qs.map Pv.v).toArray):Sem Value).run P w=.ok (.bool (decide (ps=qs))) w:=by
 rw[Sem.run_bind,run_eqGuard_agg w _ _ _ _ _ _ h.guard,Result.andThen_ok,run_eql_struct,NV h h' 9998];rfl
structure sW (P:Program)(kt:TypeId){κ:Type}(enc:κ->List Pv):Prop where
 ty:∀ a,uX P kt (enc a)
 inj:∀ a b,enc a=enc b->a=b
def er (ps:List Pv):Value:=.agg (ps.map Pv.v).toArray
def fG {κ ν:Type}(enc:κ->List Pv)(ev:ν->Value)(w:World)(g:Nat)(l:List (κ×ν)):Prop:=
 ∃ es clock,w.heap[g]? = some (.map es clock)/\es.toList.map (fun e=>(e.key,e.val))=l.map (fun x=>(er (enc x.1),ev x.2))/\(∀ x∈es.toList,x.born<clock)/\(es.toList.map (·.born)).Nodup
theorem fG.ag {κ ν:Type}{enc:κ->List Pv}{ev:ν->Value}{w w':World}{g:Nat}{l:List (κ×ν)}(h:fG enc ev w g l){S:Nat->Prop}(f:Fr S w w')(hn:¬ S g):fG enc ev w' g l:=by
 obtain⟨es,c,hb,r⟩:=h;exact⟨es,c,f.ag hb hn,r⟩
theorem fG.af {κ ν:Type}{enc:κ->List Pv}{ev:ν->Value}{w w':World}{g:Nat}{l:List (κ×ν)}(h:fG enc ev w g l)(f:Fr none1 w w'):fG enc ev w' g l:=h.ag f fun t=>t
theorem fG.new {κ ν:Type}{enc:κ->List Pv}{ev:ν->Value}{w:World}{g c:Nat}(h:w.heap[g]? = some (.map #[] c)):fG enc ev w g ([]:List (κ×ν)):=⟨_,_,h,rfl,by simp,by simp⟩
theorem fG.len {κ ν:Type}{enc:κ->List Pv}{ev:ν->Value}{w:World}{g:Nat}{l:List (κ×ν)}(h:fG enc ev w g l):∃ es c,w.heap[g]? = some (.map es c)/\es.size=l.length:=by
 obtain⟨es,c,hb,he,_⟩:=h;refine⟨es,c,hb,?_⟩;have:=congrArg List.length he;simpa using this
theorem xn.Yj {κ ν:Type}{enc:κ->List Pv}{ev:ν->Value}{w:World}{g:Nat}{l:List (κ×ν)}(h:fG enc ev w g l){K:Int->Prop}(k:K (l.length:Nat)):xn (some g) w K:=by
 obtain⟨es,c,hb,hs⟩:=h.len;exact⟨.inr ⟨g,es,c,rfl,hb,by rw[hs];exact k⟩⟩
theorem NW {α:Type}(w:World)(F:α->PUnit->Sem (ForInStep PUnit)):∀ (l:List α),(∀ a∈l,(F a PUnit.unit).run P w=.ok (ForInStep.yield PUnit.unit) w)->(forIn l PUnit.unit F).run P w=.ok PUnit.unit w
 | [],_=>by simp
 | a::l,h=>by
  rw[List.forIn_cons,Sem.run_bind,h a (by simp),Result.andThen_ok];exact NW w F l fun b hb=>h b (by simp[hb])
theorem NX : ∀ (fs : List Field) (ps pre : List Pv) (n : Nat), pre.length = n -> zB P n fs ps -> ∀ f ∈ fs, ∃ q, f.name ≠ "_" /\ nK P f.type q /\ (((pre ++ ps).map Pv.v).toArray)[f.offset]? = some q.v
 | [],_,_,_,_,_,f,hf=>by cases hf
 | _::_,[],_,_,_,h,_,_=>h.elim
 | g::fs,p::ps,pre,n,hn,⟨h1,h2,h3,h4⟩,f,hf=>by
  rcases List.mem_cons.1 hf with rfl | hf
  ·exact⟨p,h1,h3,by rw[h2];simp[<- hn]⟩
  ·have:=NX fs ps (pre++[p]) (n+1) (by simp[hn]) h4 f hf
   rw[List.append_assoc,List.singleton_append] at this;exact this
theorem G2 {t:TypeId}{ps:List Pv}(h:uX P t ps)(e:Bool)(w:World):(Instr.checkKey e 10000 t (er ps)).run P w=.ok () w:=by
 show(Instr.checkKey e (9998+2) t (er ps)).run P w=.ok () w;unfold Instr.checkKey er;simp only[Sem.run_bind,run_underlying h.und,Result.andThen_ok];rw[<- Array.forIn_toList,NW]
 ·rfl
 ·intro f hf
  obtain⟨q,h1,h3,hc⟩:=NX (P.fieldsOf t).toList ps [] 0 rfl h.fits f hf;rw[List.nil_append] at hc;have U:(Instr.checkKey e (9998+1) f.type q.v).run P w=.ok () w:=by
   unfold Instr.checkKey;cases q<;>simp only[nK] at h3<;>simp only[Pv.v,Sem.run_bind,run_underlying h3,Result.andThen_ok]<;>rfl
  simp only[ne_eq,h1,not_false_eq_true,if_true,Sem.run_bind,G1 h3 hc,Result.andThen_ok,U,Sem.run_pure]
theorem NY {κ ν:Type}[DecidableEq κ]{kt:TypeId}{enc:κ->List Pv}{ev:ν->Value}(he:sW P kt enc)(k:κ)(w:World):∀ (es:List MapEntry) (l:List (κ×ν)) (i:Nat),es.map (fun e=>(e.key,e.val))=l.map (fun x=>(er (enc x.1),ev x.2)) ->
  (∃ j v,(Instr.findAsking kt (er (enc k)) es i).run P w=.ok (some (i+j,ev v)) w/\bd k l=some v/\l[j]? = some (k,v)/\∀ v',ji k v' l=l.set j (k,v')) \/
  ((Instr.findAsking kt (er (enc k)) es i).run P w=.ok none w/\bd k l=none)
 | [],[],_,_=>.inr ⟨rfl,rfl⟩
 | [],_::_,_,h=>by simp at h
 | _::_,[],_,h=>by simp at h
 | e::es,(a,u)::l,i,h=>by
  simp only[List.map_cons,List.cons.injEq,Prod.mk.injEq] at h;obtain⟨⟨h1,h2⟩,h3⟩:=h;have hq:(Op.equal kt (er (enc k)) e.key).run P w=.ok (decide (enc k=enc a)) w:=by rw[h1];exact NV (he.ty k) (he.ty a) 9998 w
  unfold Instr.findAsking;simp only[Sem.run_bind,hq,Result.andThen_ok]
  by_cases U:a=k
  ·subst U
   refine .inl ⟨0,u,?_,by simp[bd],rfl,fun v'=>by simp[ji]⟩;simp[h2]
  ·have aA:¬ enc k=enc a:=fun t=>U (he.inj _ _ t).symm
   simp only[aA,decide_false,Bool.false_eq_true,if_false]
   rcases NY he k w es l (i+1) h3 with⟨j,v,g1,g2,g3,g4⟩ | ⟨g1,g2⟩
   ·refine .inl ⟨j+1,v,?_,by simp[bd,U,g2],by simpa using g3,fun v'=>by simp[ji,U,g4]⟩
    rw[g1];congr 3;omega
   ·exact .inr ⟨g1,by simp[bd,U,g2]⟩
theorem G3 {κ ν:Type}[DecidableEq κ]{kt:TypeId}{enc:κ->List Pv}{ev:ν->Value}(he:sW P kt enc)(k:κ)(w:World)(es:List MapEntry)(l:List (κ×ν))(h:es.map (fun e=>(e.key,e.val))=l.map (fun x=>(er (enc x.1),ev x.2))):
  (∃ j v,(Instr.findKey kt (er (enc k)) es).run P w=.ok (some (j,ev v)) w/\bd k l=some v/\l[j]? = some (k,v)/\∀ v',ji k v' l=l.set j (k,v')) \/
  ((Instr.findKey kt (er (enc k)) es).run P w=.ok none w/\bd k l=none):=by
 unfold Instr.findKey;simp only[Sem.run_bind,run_underlying (he.ty k).und,Result.andThen_ok];cases es with
 | nil=>
  cases l with
  | nil=>exact .inr ⟨rfl,rfl⟩
  | cons _ _=>simp at h
 | cons e es=>
  have:Instr.findNow (.struct (P.fieldsOf kt)) (er (enc k)) (e::es) 0=none:=by unfold Instr.findNow;rfl
  simp only[this];have:=NY he k w (e::es) l 0 h;simpa only[Nat.zero_add] using this
theorem G4 {κ ν:Type}[DecidableEq κ]{t kt el:TypeId}{enc:κ->List Pv}{ev:ν->Value}{z:Value}(he:sW P kt enc)(ht:P.underlying t=some (.map kt el))(zD:(P.info? el).bind (·.zero)=some z){w:World}{g:Nat}{l:List (κ×ν)}(h:fG enc ev w g l)(k:κ)(ok:Bool):
  (Instr.lookup t (.map (some g)) (er (enc k)) ok).run P w=.ok (if ok then .tuple #[((bd k l).map ev).getD z,.bool (bd k l).isSome] else((bd k l).map ev).getD z) w:=by
 obtain⟨es,c,hb,hl,_⟩:=h;obtain⟨i,hi,hz⟩:∃ i,P.info? el=some i/\i.zero=some z:=by
  cases hx:P.info? el with
  | none=>simp[hx] at zD
  | some i=>exact⟨i,rfl,by simpa[hx] using zD⟩
 unfold Instr.lookup;simp only[Sem.run_bind,run_underlying ht,Result.andThen_ok,vz hb,Sem.run_pure,G2 (he.ty k)]
 rcases G3 he k w es.toList l hl with⟨j,v,h1,h2,_⟩ | ⟨h1,h2⟩
 ·rw[h1,h2]
  simp only[Result.andThen_ok];cases ok<;>rfl
 ·rw[h1,h2]
  simp only[Result.andThen_ok,Sem.run_bind,pO hi hz,Sem.run_pure];cases ok<;>rfl
theorem NZ (ps:List Pv):Instr.sameBits 10000 (er ps) (er ps)=true:=by
 show Instr.sameBits (9999+1) (er ps) (er ps)=true;unfold er Instr.sameBits;simp only[BEq.rfl,Bool.true_and]
 induction ps with
 | nil=>rfl
 | cons p ps ih=>
  simp only[List.map_cons,List.zip_cons_cons,List.all_cons,Bool.and_eq_true];refine⟨?_,by simpa using ih⟩;cases p<;>simp[Pv.v,Instr.sameBits,beq_toListBytes]
theorem N0 {κ ν:Type}[DecidableEq κ]{t kt el:TypeId}{enc:κ->List Pv}{ev:ν->Value}(he:sW P kt enc)(ht:P.underlying t=some (.map kt el)){w:World}{g:Nat}{l:List (κ×ν)}(h:fG enc ev w g l)(k:κ)(v:ν):
  ∃ w',(Instr.mapUpdate t (.map (some g)) (er (enc k)) (ev v)).run P w=.ok () w'/\Fr (only g) w w'/\w'.heap.size=w.heap.size/\fG enc ev w' g (ji k v l):=by
 obtain⟨es,c,hb,hl,aU,hnd⟩:=h;have hg:=cj hb;unfold Instr.mapUpdate;simp only[Sem.run_bind,run_underlying ht,Result.andThen_ok,vz hb,G2 (he.ty k)]
 rcases G3 he k w es.toList l hl with⟨j,u,h1,h2,h3,h4⟩ | ⟨h1,h2⟩
 ·rw[h1]
  obtain⟨e,hj,zE⟩:∃ e,es[j]? = some e/\e.key=er (enc k):=by
   have hx:=congrArg (fun l=>l[j]?) hl;simp only[List.getElem?_map,h3,Option.map_some] at hx;cases he:es.toList[j]? with
   | none=>rw[he] at hx;simp at hx
   | some e=>rw[he] at hx;simp at hx;exact⟨e,by simpa using he,hx.1⟩
  have fL:(Instr.keyThatStays e.key (er (enc k))).run P w=.ok (er (enc k)) w:=by
   rw[zE];unfold Instr.keyThatStays;rw[if_pos (NZ _)];rfl
  simp only[Result.andThen_ok,Sem.run_bind,hj,Option.map_some,Option.getD_some,fL,vA hb];have zF:(es.modify j fun x=>{ key:=er (enc k),val:=ev v,born:=x.born }).toList=es.toList.set j { key:=er (enc k),val:=ev v,born:=e.born }:=by
   rw[Array.toList_modify];apply List.ext_getElem?;intro q;rw[List.getElem?_modify,List.getElem?_set]
   by_cases hq:j=q
   ·subst hq
    have mX:j<es.toList.length:=by simpa using(Array.getElem?_eq_some_iff.1 hj).1
    have jm:es.toList[j]? = some e:=by simpa using hj
    simp only[if_true,jm,mX];rfl
   ·simp[hq]
  have jm:es.toList[j]? = some e:=by simpa using hj
  refine⟨_,rfl,vB _ _ _,by simp,_,_,heap_set hg _,?_,?_,?_⟩
  ·rw[zF,List.map_set,hl,h4,List.map_set]
  ·rw[zF]
   intro x hx
   rcases List.mem_or_eq_of_mem_set hx with hx | rfl
   ·exact aU x hx
   ·exact aU e (List.mem_of_getElem? jm)
  ·rw[zF,List.map_set]
   have:(es.toList.map (·.born)).set j e.born=es.toList.map (·.born):=by
    apply List.ext_getElem?;intro q;rw[List.getElem?_set]
    by_cases hq:j=q
    ·subst hq
     have mX:j<es.toList.length:=(List.getElem?_eq_some_iff.1 jm).1;simp only[if_true,List.length_map,mX,List.getElem?_map,jm,Option.map_some]
    ·simp[hq]
   rw[this];exact hnd
 ·rw[h1]
  simp only[Result.andThen_ok,vA hb];refine⟨_,rfl,vB _ _ _,by simp,_,_,heap_set hg _,?_,?_,?_⟩
  ·rw[Array.toList_push,List.map_append,hl,Bg k v l h2,List.map_append];rfl
  ·intro x hx
   rw[Array.toList_push,List.mem_append,List.mem_singleton] at hx
   rcases hx with hx | rfl
   ·exact Nat.lt_succ_of_lt (aU x hx)
   ·exact Nat.lt_succ_self _
  ·rw[Array.toList_push,List.map_append,List.nodup_append]
   refine⟨hnd,by simp,?_⟩;intro a ha b aM;simp at aM;subst aM;rw[List.mem_map] at ha;obtain⟨x,hx,rfl⟩:=ha;have:=aU x hx;omega
theorem Ci {es:Array MapEntry}{j:Nat}{e:MapEntry}(hj:es[j]? = some e)(f:MapEntry->MapEntry):(es.modify j f).toList=es.toList.set j (f e):=by
 rw[Array.toList_modify];apply List.ext_getElem?;intro q;rw[List.getElem?_modify,List.getElem?_set]
 by_cases hq:j=q
 ·subst hq
  have mX:j<es.toList.length:=by simpa using(Array.getElem?_eq_some_iff.1 hj).1
  have jm:es.toList[j]? = some e:=by simpa using hj
  simp only[if_true,jm,mX];rfl
 ·simp[hq]
theorem Yk {es:Array MapEntry}(hnd:(es.toList.map (·.born)).Nodup){j:Nat}{e:MapEntry}(hj:es[j]? = some e):es.findIdx? (fun x=>(x.born:Int)==(e.born:Int))=some j:=by
 rw[Array.findIdx?_eq_some_iff_getElem];obtain⟨h1,h2⟩:=Array.getElem?_eq_some_iff.1 hj;refine⟨h1,by rw[h2];simp,fun i hi=>?_⟩;simp only[beq_iff_eq,Int.natCast_inj];intro hc;have N1:=List.pairwise_iff_getElem.1 hnd i j (by simp;omega) (by simpa using h1) hi;simp only[List.getElem_map,Array.getElem_toList] at N1;exact N1 (by rw[hc,h2])
theorem N2 {κ ν:Type}[DecidableEq κ]{t:TypeId}{enc:κ->List Pv}{ev:ν->Value}{w:World}{g:Nat}{l:List (κ×ν)}{es:Array MapEntry}{c j:Nat}{e:MapEntry}{k:κ}{u:ν}(hb:w.heap[g]? = some (.map es c))
  (hl:es.toList.map (fun e=>(e.key,e.val))=l.map (fun x=>(er (enc x.1),ev x.2))) (aU:∀ x∈es.toList,x.born<c) (hnd:(es.toList.map (·.born)).Nodup) (hj:es[j]? = some e) (U:l[j]? = some (k,u)) (v:ν) :
  ∃ w',(Instr.entryStore t (.map (some g)) (.int .i64 (e.born:Int)) (ev v)).run P w=.ok () w'/\Fr (only g) w w'/\w'.heap.size=w.heap.size/\fG enc ev w' g (l.set j (k,v)):=by
 have hg:=cj hb;have jm:es.toList[j]? = some e:=by simpa using hj
 have zE:e.key=er (enc k):=by
  have hx:=congrArg (fun l=>l[j]?) hl;simp only[List.getElem?_map,U,jm,Option.map_some,Option.some.injEq,Prod.mk.injEq] at hx;exact hx.1
 unfold Instr.entryStore;have ha:∀ w,(asInt (.int .i64 (e.born:Int))).run P w=.ok (e.born:Int) w:=fun w=>rfl;simp only[Sem.run_bind,Sem.run_pure,Result.andThen_ok,vz hb,ha,Yk hnd hj,vA hb];refine⟨_,rfl,vB _ _ _,by simp,_,_,heap_set hg _,?_,?_,?_⟩
 ·rw[Ci hj,List.map_set,hl,List.map_set]
  congr 2
 ·rw[Ci hj]
  intro x hx
  rcases List.mem_or_eq_of_mem_set hx with hx | rfl
  ·exact aU x hx
  ·exact aU e (List.mem_of_getElem? jm)
 ·rw[Ci hj,List.map_set]
  have:(es.toList.map (·.born)).set j e.born=es.toList.map (·.born):=by
   apply List.ext_getElem?;intro q;rw[List.getElem?_set]
   by_cases hq:j=q
   ·subst hq
    have mX:j<es.toList.length:=(List.getElem?_eq_some_iff.1 jm).1;simp only[if_true,List.length_map,mX,List.getElem?_map,jm,Option.map_some]
   ·simp[hq]
  rw[this];exact hnd
theorem N3 {κ ν:Type}[DecidableEq κ]{t kt el:TypeId}{enc:κ->List Pv}{ev:ν->Value}{z:ν}(he:sW P kt enc)(ht:P.underlying t=some (.map kt el))(zD:(P.info? el).bind (·.zero)=some (ev z)){w:World}{g:Nat}{l:List (κ×ν)}(h:fG enc ev w g l)(k:κ):
  ∃ (w':World) (n:Int) (l2:List (κ×ν)),(Instr.mapEntry t (.map (some g)) (er (enc k))).run P w=.ok (.tuple #[ev ((bd k l).getD z),.int .i64 n]) w'/\Fr (only g) w w'/\w'.heap.size=w.heap.size/\fG enc ev w' g l2/\(bd k l2).getD z=(bd k l).getD z /\
   ∀ v,∃ nk,(Instr.entryStore t (.map (some g)) (.int .i64 n) (ev v)).run P w'=.ok () nk/\Fr (only g) w' nk/\nk.heap.size=w'.heap.size/\fG enc ev nk g (ji k v l):=by
 obtain⟨i,hi,hz⟩:∃ i,P.info? el=some i/\i.zero=some (ev z):=by
  cases hx:P.info? el with
  | none=>simp[hx] at zD
  | some i=>exact⟨i,rfl,by simpa[hx] using zD⟩
 obtain⟨es,c,hb,hl,aU,hnd⟩:=h;have hg:=cj hb;unfold Instr.mapEntry;simp only[Sem.run_bind,run_underlying ht,Result.andThen_ok,vz hb,G2 (he.ty k)]
 rcases G3 he k w es.toList l hl with⟨j,u,h1,h2,h3,h4⟩ | ⟨h1,h2⟩
 ·rw[h1]
  obtain⟨e,hj,zE,wG⟩:∃ e,es[j]? = some e/\e.key=er (enc k)/\e.val=ev u:=by
   have hx:=congrArg (fun l=>l[j]?) hl;simp only[List.getElem?_map,h3,Option.map_some] at hx;cases he:es.toList[j]? with
   | none=>rw[he] at hx;simp at hx
   | some e=>rw[he] at hx;simp at hx;exact⟨e,by simpa using he,hx.1,hx.2⟩
  have fL:(Instr.keyThatStays e.key (er (enc k))).run P w=.ok (er (enc k)) w:=by
   rw[zE];unfold Instr.keyThatStays;rw[if_pos (NZ _)];rfl
  simp only[Result.andThen_ok,Sem.run_bind,hj,Option.map_some,Option.getD_some,fL,vA hb,Sem.run_pure];have zF:=Ci hj (fun x=>{ x with key:=er (enc k) })
  have jm:es.toList[j]? = some e:=by simpa using hj
  have Yl:es.toList.set j { e with key:=er (enc k) }=es.toList:=by
   apply List.ext_getElem?;intro q;rw[List.getElem?_set]
   by_cases hq:j=q
   ·subst hq
    have mX:j<es.toList.length:=(List.getElem?_eq_some_iff.1 jm).1;rw[if_pos rfl,if_pos mX,jm,<- zE]
   ·simp[hq]
  have N4:es.modify j (fun x=>{ x with key:=er (enc k) })=es:=Array.toList_inj.1 (by rw[zF];exact Yl)
  have lr:bd k l=some u:=h2;have gq:∀ o:Obj,({ w with heap:=w.heap.setIfInBounds g o }:World).heap[g]? = some o:=fun o=>heap_set hg o
  refine⟨_,(e.born:Int),l,by rw[lr];rfl,vB _ _ _,by simp,⟨es,c,by rw[N4];exact gq _,hl,aU,hnd⟩,rfl,fun v=>?_⟩;rw[h4];exact N2 (by rw[N4];exact gq _) hl aU hnd hj h3 v
 ·rw[h1]
  simp only[Result.andThen_ok,Sem.run_bind,pO hi hz,vA hb,Sem.run_pure];have lr:bd k l=none:=h2;have gq:∀ o:Obj,({ w with heap:=w.heap.setIfInBounds g o }:World).heap[g]? = some o:=fun o=>heap_set hg o
  have uB:(es.push { key:=er (enc k),val:=ev z,born:=c }).toList.map (fun e=>(e.key,e.val))=(l++[(k,z)]).map (fun x=>(er (enc x.1),ev x.2)):=by
   rw[Array.toList_push,List.map_append,hl,List.map_append];rfl
  have uy:∀ x∈(es.push { key:=er (enc k),val:=ev z,born:=c }).toList,x.born<c+1:=by
   intro x hx;rw[Array.toList_push,List.mem_append,List.mem_singleton] at hx
   rcases hx with hx | rfl
   ·exact Nat.lt_succ_of_lt (aU x hx)
   ·exact Nat.lt_succ_self _
  have N5:((es.push { key:=er (enc k),val:=ev z,born:=c }).toList.map (·.born)).Nodup:=by
   rw[Array.toList_push,List.map_append,List.nodup_append];refine⟨hnd,by simp,?_⟩;intro a ha b aM;simp at aM;subst aM;rw[List.mem_map] at ha;obtain⟨x,hx,rfl⟩:=ha;have:=aU x hx;omega
  have hlen:es.size=l.length:=by have:=congrArg List.length hl;simpa using this
  have Ym:(bd k (l++[(k,z)])).getD z=(bd k l).getD z:=by rw[Ln,lr];simp[bd]
  have Yn:ev ((bd k l).getD z)=ev z:=by rw[lr];rfl
  refine⟨_,(c:Int),l++[(k,z)],by rw[Yn];rfl,vB _ _ _,by simp,⟨_,_,gq _,uB,uy,N5⟩,Ym,fun v=>?_⟩;rw[Bg k v l lr,show l++[(k,v)]=(l++[(k,z)]).set l.length (k,v) by simp];exact N2 (u:=z) (e:={ key:=er (enc k),val:=ev z,born:=c }) (gq _) uB uy N5 (by rw[<- hlen,Array.getElem?_push_size]) (by simp) v
end Vc
def C147  (w:World) (K:Value->World->Prop):Prop:=
 aq (.map #[] 0) w (fun g1 w2=>aq (.map #[] 0) w2 (fun g3 w4=>aq (.cells #[.map (some g1),.map (some g3)] 327) w4 (fun g5 w6=>K (.pointer (some (ad g5))) w6)))
def pl147:aB:=.auto
theorem c147  (w:World) (K:Value->World->Prop) (h:C147  w K):Ret Tryz.prog 147 #[] w K:=aC (by kernel_rfl) Tryz.func147 (p:=pl147) (Eq.mpr (by kernel_rfl) h)
def C259 (p0:Int)(w:World)(K:Value->World->Prop):Prop:=
 aa (decide (p0 >= 0))
 (K (.bool (decide (p0<=10000))) w)
 (K (.bool false) w)
def pl259:aB:=.auto
theorem c259 (p0:Int)(w:World)(K:Value->World->Prop)(h:C259 p0 w K):Ret Tryz.prog 259 #[.int .i64 p0] w K:=aC (by kernel_rfl) Tryz.func259 (p:=pl259) (Eq.mpr (by kernel_rfl) h)
def C234 (p0:Addr)(p1:ByteArray)(p2:Int)(p3:Int)(w:World)(K:Value->World->Prop):Prop:=
 aq (.cells #[.string (⟨#[]⟩:ByteArray),.int .i64 0] 324) w (fun g1 w2=>av (ad g1) [.string p1,.int .i64 p2] w2 (fun w3=>aH w3 (fun w4=>bb (fun S5=>aE S5 (p0.add 0) (ae .map (p0.add 0) w4 (fun(x6:Option Nat)=>aE S5 (ad g1) (az [.str,.int .i64] (ad g1) w4 (fun(x7:ByteArray×Int×Unit)=>aw Tryz.prog (Instr.lookup 321 (.map x6) (.agg #[.string x7.1,.int .i64 x7.2.1]) true) w4 (.aP [.one (.int .i64),.one .bool]) (fun(x8:Int×Bool×Unit) w9=>ak S5 w4 w9 (ab Tryz.prog 169 #[.string p1] w9 (.v (.one .bool)) (fun(aS:Bool) aR=>aa (!aS)
 (K (.int .i64 1) aR)
 (ab Tryz.prog 259 #[.int .i64 p2] aR (.v (.one .bool)) (fun(bw:Bool) aW=>aa (!bw)
 (K (.int .i64 1) aW)
 (ab Tryz.prog 131 #[.int .i64 p3] aW (.v (.one .bool)) (fun(bn:Bool) bL=>aa (!bn)
 (K (.int .i64 1) bL)
 (aa x8.2.1
 (K (.int .i64 4) bL)
 (ae .map (p0.add 0) bL (fun(aT:Option Nat)=>xn aT bL (fun aX=>aa (decide (aX >= 32))
 (K (.int .i64 5) bL)
 (aH bL (fun bx=>ae .map (p0.add 0) bx (fun(bt:Option Nat)=>az [.str,.int .i64] (ad g1) bx (fun(cm:ByteArray×Int×Unit)=>iL Tryz.prog (Instr.mapUpdate 321 (.map bt) (.agg #[.string cm.1,.int .i64 cm.2.1]) (.int .i64 p3)) bx (fun bq=>K (.int .i64 0) bq))))))))))))))))))))))))
def pl234:aB:=(.seq .auto (.seq .auto (.seq (.held (.soft 0 (.soft 1 (.soft 2 (.soft 3 (.soft 4 (.pick 5 (.soft 6 (.soft 7 (.soft 8 (.soft 9 (.soft 10 .done))))) .stop))))))) (.seq .auto (.seq (.tail 6) .auto)))))
theorem c234 (p0:Addr)(p1:ByteArray)(p2:Int)(p3:Int)(w:World)(K:Value->World->Prop)(h:C234 p0 p1 p2 p3 w K):Ret Tryz.prog 234 #[.pointer (some p0),.string p1,.int .i64 p2,.int .i64 p3] w K:=aC (by kernel_rfl) Tryz.func234 (p:=pl234) (Eq.mpr (by kernel_rfl) h)
def C342 (p0:Addr)(p1:ByteArray)(p2:Int)(w:World)(K:Value->World->Prop):Prop:=
 ae .map (p0.add 0) w (fun(x1:Option Nat)=>aw Tryz.prog (Instr.lookup 321 (.map x1) (.agg #[.string p1,.int .i64 p2]) true) w (.aP [.one (.int .i64),.one .bool]) (fun(x2:Int×Bool×Unit) w3=>K (.tuple #[.int .i64 x2.1,.bool x2.2.1]) w3))
def pl342:aB:=.auto
theorem c342 (p0:Addr)(p1:ByteArray)(p2:Int)(w:World)(K:Value->World->Prop)(h:C342 p0 p1 p2 w K):Ret Tryz.prog 342 #[.pointer (some p0),.string p1,.int .i64 p2] w K:=aC (by kernel_rfl) Tryz.func342 (p:=pl342) (Eq.mpr (by kernel_rfl) h)
def C240 (p0:Addr)(p1:ByteArray)(p2:ByteArray)(p3:Int)(p4:Int)(w:World)(K:Value->World->Prop):Prop:=
 aq (.cells #[.string (⟨#[]⟩:ByteArray),.string (⟨#[]⟩:ByteArray)] 330) w (fun g1 w2=>av (ad g1) [.string p1,.string p2] w2 (fun w3=>aH w3 (fun w4=>bb (fun S5=>aE S5 (p0.add 1) (ae .map (p0.add 1) w4 (fun(x6:Option Nat)=>aE S5 (ad g1) (az [.str,.str] (ad g1) w4 (fun(x7:ByteArray×ByteArray×Unit)=>kI (aw Tryz.prog (Instr.lookup 325 (.map x6) (.agg #[.string x7.1,.string x7.2.1]) true) w4 (.aP [.agg [.int .i64,.int .i64],.one .bool]) (fun(x8:(Int×Int×Unit)×Bool×Unit) w9=>ak S5 w4 w9 (aq (.cells #[.int .i64 0,.int .i64 0] 332) w9 (fun g10 aR=>ak S5 w9 aR (av (ad g10) [.int .i64 x8.1.1,.int .i64 x8.1.2.1] aR (fun aO=>ak S5 aR aO (bQ (Bool×Unit) (fun zG=>ab Tryz.prog 169 #[.string p1] aO (.v (.one .bool)) (fun(aT:Bool) cD=>aa (!aT)
 (zG (true,()) cD)
 (ab Tryz.prog 169 #[.string p2] cD (.v (.one .bool)) (fun(bE:Bool) bO=>aa (!bE)
 (zG (true,()) bO)
 (aa (p3 != 0)
 (aa (p3 != 1)
 (zG (true,()) bO)
 (ab Tryz.prog 259 #[.int .i64 p4] bO (.v (.one .bool)) (fun(cm:Bool) bq=>zG ((!cm),()) bq)))
 (ab Tryz.prog 259 #[.int .i64 p4] bO (.v (.one .bool)) (fun(cr:Bool) dW=>zG ((!cr),()) dW)))))))
 (fun _ Yo bL=>aa Yo.1
 (K (.int .i64 1) bL)
 (aa x8.2.1
 (K (.int .i64 4) bL)
 (aH bL (fun bU=>ae .map (p0.add 1) bU (fun(bG:Option Nat)=>az [.str,.str] (ad g1) bU (fun(dk:ByteArray×ByteArray×Unit)=>iL Tryz.prog (Instr.mapUpdate 325 (.map bG) (.agg #[.string dk.1,.string dk.2.1]) (.agg #[.int .i64 p3,.int .i64 p4])) bU (fun eM=>K (.int .i64 0) eM))))))))))))))
 (aq (.cells #[.int .i64 0,.int .i64 0] 332) w4 (fun Gc eg=>ak S5 w4 eg (aw Tryz.prog (Instr.lookup 325 (.map x6) (.agg #[.string x7.1,.string x7.2.1]) true) eg (.aP [.agg [.int .i64,.int .i64],.one .bool]) (fun(dX:(Int×Int×Unit)×Bool×Unit) eK=>ak S5 eg eK (av (ad Gc) [.int .i64 dX.1.1,.int .i64 dX.1.2.1] eK (fun cZ=>ak S5 eK cZ (bQ (Bool×Unit) (fun sX=>ab Tryz.prog 169 #[.string p1] cZ (.v (.one .bool)) (fun(dO:Bool) dq=>aa (!dO)
 (sX (true,()) dq)
 (ab Tryz.prog 169 #[.string p2] dq (.v (.one .bool)) (fun(dN:Bool) gg=>aa (!dN)
 (sX (true,()) gg)
 (aa (p3 != 0)
 (aa (p3 != 1)
 (sX (true,()) gg)
 (ab Tryz.prog 259 #[.int .i64 p4] gg (.v (.one .bool)) (fun(iw:Bool) kL=>sX ((!iw),()) kL)))
 (ab Tryz.prog 259 #[.int .i64 p4] gg (.v (.one .bool)) (fun(jD:Bool) k8=>sX ((!jD),()) k8)))))))
 (fun _ B0 fz=>aa B0.1
 (K (.int .i64 1) fz)
 (aa dX.2.1
 (K (.int .i64 4) fz)
 (aH fz (fun fU=>ae .map (p0.add 1) fU (fun(fY:Option Nat)=>az [.str,.str] (ad g1) fU (fun(mv:ByteArray×ByteArray×Unit)=>iL Tryz.prog (Instr.mapUpdate 325 (.map fY) (.agg #[.string mv.1,.string mv.2.1]) (.agg #[.int .i64 p3,.int .i64 p4])) fU (fun kx=>K (.int .i64 0) kx))))))))))))))))))))))
def pl240:aB:=(.seq .auto (.seq .auto (.seq (.held (.soft 0 (.soft 1 (.soft 2 (.soft 3 (.soft 4 (.pick 5 (.soft 6 (.soft 7 (.soft 8 (.pick 9 (.pick 10 (.soft 11 .done) .stop) .stop)))) (.pick 9 (.pick 5 (.soft 6 (.soft 7 (.soft 8 (.pick 10 (.soft 11 .done) .stop)))) .stop) .stop)))))))) (.seq (.block (.join [(26,.one .bool)] .auto .auto)) (.seq (.tail 8) .auto)))))
theorem c240 (p0:Addr)(p1:ByteArray)(p2:ByteArray)(p3:Int)(p4:Int)(w:World)(K:Value->World->Prop)(h:C240 p0 p1 p2 p3 p4 w K):Ret Tryz.prog 240 #[.pointer (some p0),.string p1,.string p2,.int .i64 p3,.int .i64 p4] w K:=aC (by kernel_rfl) Tryz.func240 (p:=pl240) (Eq.mpr (by kernel_rfl) h)
def C308 (p0:Addr)(p1:ByteArray)(p2:ByteArray)(w:World)(K:Value->World->Prop):Prop:=
 ae .map (p0.add 1) w (fun(x1:Option Nat)=>aw Tryz.prog (Instr.lookup 325 (.map x1) (.agg #[.string p1,.string p2]) true) w (.aP [.agg [.int .i64,.int .i64],.one .bool]) (fun(x2:(Int×Int×Unit)×Bool×Unit) w3=>aq (.cells #[.int .i64 0,.int .i64 0] 332) w3 (fun g4 w5=>av (ad g4) [.int .i64 x2.1.1,.int .i64 x2.1.2.1] w5 (fun w6=>aH w6 (fun w7=>ae (.int .i64) ((ad g4).add 0) w7 (fun(x8:Int)=>ae (.int .i64) ((ad g4).add 1) w7 (fun(x9:Int)=>K (.tuple #[.int .i64 x8,.int .i64 x9,.bool x2.2.1]) w7)))))))
def pl308:aB:=(.seq .auto (.seq .auto (.seq .still .auto)))
theorem c308 (p0:Addr)(p1:ByteArray)(p2:ByteArray)(w:World)(K:Value->World->Prop)(h:C308 p0 p1 p2 w K):Ret Tryz.prog 308 #[.pointer (some p0),.string p1,.string p2] w K:=aC (by kernel_rfl) Tryz.func308 (p:=pl308) (Eq.mpr (by kernel_rfl) h)
def C141 (p0:Addr)(w:World)(K:Value->World->Prop):Prop:=
 aH w (fun w1=>bb (fun S2=>aE S2 (p0.add 0) (ae .map (p0.add 0) w1 (fun(x3:Option Nat)=>aE S2 (p0.add 1) (ae .map (p0.add 1) w1 (fun(x4:Option Nat)=>ab Tryz.prog 184 #[.map x3] w1 (.v (.one .map)) (fun(x5:Option Nat) w6=>ak S2 w1 w6 (ab Tryz.prog 185 #[.map x4] w6 (.v (.one .map)) (fun(x7:Option Nat) w8=>ak S2 w6 w8 (aq (.cells #[.map x5,.map x7] 327) w8 (fun g9 aK=>ak S2 w8 aK (K (.pointer (some (ad g9))) aK))))))))))))
def pl141:aB:=(.seq .auto (.seq (.held (.soft 0 (.soft 1 (.soft 2 (.soft 3 (.soft 5 (.soft 6 (.soft 7 (.soft 8 (.pick 4 (.pick 9 (.soft 10 (.pick 11 (.soft 12 .done) .stop)) .stop) .stop)))))))))) .auto))
theorem c141 (p0:Addr)(w:World)(K:Value->World->Prop)(h:C141 p0 w K):Ret Tryz.prog 141 #[.pointer (some p0)] w K:=aC (by kernel_rfl) Tryz.func141 (p:=pl141) (Eq.mpr (by kernel_rfl) h)
def zH (k:List UInt8×Int):List Pv:=[.s k.1,.i k.2]
def zI (k:List UInt8×List UInt8):List Pv:=[.s k.1,.s k.2]
def rF (n:Int):Value:=.int .i64 n
def zJ (p:Int×Int):Value:=.agg #[.int .i64 p.1,.int .i64 p.2]
theorem N6:sW Tryz.prog 324 zH where
 ty a:=by
  have hf:∃ fs,Tryz.prog.underlying 324=some (.struct fs)/\Tryz.prog.fieldsOf 324=fs:=by
   unfold Program.fieldsOf;rw[Tryz.underlying324];exact⟨_,rfl,rfl⟩
  refine⟨by obtain⟨fs,h1,h2⟩:=hf;rw[h1,h2],by kernel_rfl,by kernel_rfl,?_⟩;unfold Program.fieldsOf;rw[Tryz.underlying324];exact⟨by decide,rfl,Tryz.underlying9,by decide,rfl,Tryz.underlying3,trivial⟩
 inj a b h:=by
  injection h with h1 h2;injection h2 with h2 _;injection h1 with h1;injection h2 with h2
  exact Prod.ext h1 h2
theorem N7:sW Tryz.prog 330 zI where
 ty a:=by
  have hf:∃ fs,Tryz.prog.underlying 330=some (.struct fs)/\Tryz.prog.fieldsOf 330=fs:=by
   unfold Program.fieldsOf;rw[Tryz.underlying330];exact⟨_,rfl,rfl⟩
  refine⟨by obtain⟨fs,h1,h2⟩:=hf;rw[h1,h2],by kernel_rfl,by kernel_rfl,?_⟩;unfold Program.fieldsOf;rw[Tryz.underlying330];exact⟨by decide,rfl,Tryz.underlying9,by decide,rfl,Tryz.underlying9,trivial⟩
 inj a b h:=by
  injection h with h1 h2;injection h2 with h2 _;injection h1 with h1;injection h2 with h2
  exact Prod.ext h1 h2
structure gJ (w:World)(F:Nat->Prop)(b:Nat)(m:cP):Prop where
 out:∃ g1 g2:Nat,w.heap[b]? = some (.cells #[.map (some g1),.map (some g2)] 327 (0,0))/\fG zH rF w g1 m.fx/\fG zI zJ w g2 m.ch/\F g1/\F g2/\g1≠g2/\b≠g1/\b≠g2
 mem:F b
theorem gJ.ag {w w':World}{F T:Nat->Prop}{b:Nat}{m:cP}(h:gJ w F b m)(f:Fr T w w')(hT:∀ k,F k->¬ T k):gJ w' F b m:=by
 obtain⟨⟨g1,g2,h1,h2,h3,h4,h5,h6⟩,hm⟩:=h;exact⟨⟨g1,g2,f.ag h1 (hT b hm),h2.ag f (hT g1 h4),h3.ag f (hT g2 h5),h4,h5,h6⟩,hm⟩
theorem gJ.af {w w':World}{F:Nat->Prop}{b:Nat}{m:cP}(h:gJ w F b m)(f:Fr none1 w w'):gJ w' F b m:=h.ag f fun _ _ t=>t
theorem N8 {w:World}{g:Nat}{l:List ((List UInt8×Int)×Int)}(h:fG zH rF w g l)(s:List UInt8)(d:Int){K:Int×Bool×Unit->World->Prop}(k:K ((bd (s,d) l).getD 0,(bd (s,d) l).isSome,()) w):
  aw Tryz.prog (Instr.lookup 321 (.map (some g)) (.agg #[.string (str s),.int .i64 d]) true) w (.aP [.one (.int .i64),.one .bool]) K:=by
 have:=G4 (z:=.int .i64 0) N6 Tryz.underlying321 (by kernel_rfl) h (s,d) true;refine⟨((bd (s,d) l).getD 0,(bd (s,d) l).isSome,()),w,this.trans ?_,k⟩;cases bd (s,d) l<;>rfl
theorem G5 {w:World}{g:Nat}{l:List ((List UInt8×List UInt8)×Int×Int)}(h:fG zI zJ w g l)(s t:List UInt8){K:(Int×Int×Unit)×Bool×Unit->World->Prop}(k:K ((((bd (s,t) l).getD (0,0)).1,((bd (s,t) l).getD (0,0)).2,()),(bd (s,t) l).isSome,()) w):
  aw Tryz.prog (Instr.lookup 325 (.map (some g)) (.agg #[.string (str s),.string (str t)]) true) w (.aP [.agg [.int .i64,.int .i64],.one .bool]) K:=by
 have:=G4 (z:=zJ (0,0)) N7 Tryz.underlying325 (by kernel_rfl) h (s,t) true;refine⟨((((bd (s,t) l).getD (0,0)).1,((bd (s,t) l).getD (0,0)).2,()),(bd (s,t) l).isSome,()),w,this.trans ?_,k⟩;cases bd (s,t) l<;>rfl
theorem Yp {w:World}{g:Nat}{l:List ((List UInt8×Int)×Int)}(h:fG zH rF w g l)(s:List UInt8)(d v:Int){K:World->Prop}(k:∀ w',fG zH rF w' g (ji (s,d) v l)->Fr (only g) w w'->K w'):
  iL Tryz.prog (Instr.mapUpdate 321 (.map (some g)) (.agg #[.string (str s),.int .i64 d]) (.int .i64 v)) w K:=by
 obtain⟨w',hr,f,_,hm⟩:=N0 N6 Tryz.underlying321 h (s,d) v;exact⟨w',hr,k w' hm f⟩
theorem Yq {w:World}{g:Nat}{l:List ((List UInt8×List UInt8)×Int×Int)}(h:fG zI zJ w g l)(s t:List UInt8)(v d:Int){K:World->Prop}(k:∀ w',fG zI zJ w' g (ji (s,t) (v,d) l)->Fr (only g) w w'->K w'):
  iL Tryz.prog (Instr.mapUpdate 325 (.map (some g)) (.agg #[.string (str s),.string (str t)]) (.agg #[.int .i64 v,.int .i64 d])) w K:=by
 obtain⟨w',hr,f,_,hm⟩:=N0 N7 Tryz.underlying325 h (s,t) (v,d);exact⟨w',hr,k w' hm f⟩
theorem Yr (w:World):Ret Tryz.prog 147 #[] w fun r w'=>∃ b,r=.pointer (some ⟨b,0,none⟩)/\gJ w' (fun k=>w.heap.size<=k/\k<w'.heap.size) b ⟨[],[]⟩/\Fr none1 w w':=by
 refine c147 w _ ?_;unfold C147;refine aq.of fun g1 w1 di ar f1 jL=>aq.of fun g2 w2 mI aM f2 fQ=>aq.of fun g3 w3 wA ba f3 ox=>?_;exact⟨g3,rfl,⟨⟨g1,g2,ba,(fG.new ar).af (f2.trans f3),(fG.new aM).af f3,by omega,by omega,by omega,by omega,by omega⟩,by omega⟩,(f1.trans f2).trans f3⟩
theorem N9 (d:Int)(w:World):Ret Tryz.prog 259 #[.int .i64 d] w fun r w'=>r=.bool (sG d)/\w=w':=by
 refine c259 d w _ ?_;unfold sG;refine aa.dec (fun h=>?_) (fun h=>?_)
 ·rw[decide_eq_true (p:=0<=d) (by omega)];exact⟨rfl,rfl⟩
 ·rw[decide_eq_false (p:=0<=d) (by omega)];exact⟨rfl,rfl⟩
theorem Oa {w:World}{F:Nat->Prop}{b:Nat}{m:cP}(h:gJ w F b m)(s:List UInt8)(d:Int):Ret Tryz.prog 342 #[.pointer (some ⟨b,0,none⟩),.string (str s),.int .i64 d] w fun r w'=>
  r=.tuple #[.int .i64 ((bd (s,d) m.fx).getD 0),.bool (bd (s,d) m.fx).isSome]/\w=w':=by
 obtain⟨⟨g1,g2,h1,h2,h3,_⟩,_⟩:=h;refine c342 _ (str s) d w _ ?_;exact ae.ai h1 (x:=some g1) rfl (N8 h2 s d ⟨rfl,rfl⟩)
theorem Ys {w:World}{F:Nat->Prop}{b:Nat}{m:cP}(h:gJ w F b m)(s t:List UInt8):Ret Tryz.prog 308 #[.pointer (some ⟨b,0,none⟩),.string (str s),.string (str t)] w fun r w'=>
  r=.tuple #[.int .i64 ((bd (s,t) m.ch).getD (0,0)).1,.int .i64 ((bd (s,t) m.ch).getD (0,0)).2,.bool (bd (s,t) m.ch).isSome]/\Fr none1 w w':=by
 obtain⟨⟨g1,g2,h1,h2,h3,_⟩,_⟩:=h;refine c308 _ (str s) (str t) w _ ?_;refine ae.ai h1 (x:=some g2) rfl (G5 h3 s t ?_);refine cB (zs:=[.int .i64 0,.int .i64 0]) (vs:=[.int .i64 ((bd (s,t) m.ch).getD (0,0)).1,.int .i64 ((bd (s,t) m.ch).getD (0,0)).2]) rfl rfl fun g w2 hg hb f2=>?_;refine aH.of fun w3 _ f3=>ae.ai (f3.af hb) (x:=((bd (s,t) m.ch).getD (0,0)).1) rfl (ae.ai (f3.af hb) (x:=((bd (s,t) m.ch).getD (0,0)).2) rfl ⟨rfl,f2.trans f3⟩)
theorem G6 (w:World)(o:Obj):(w.alloc o).heap[w.heap.size]? = some o:=by
 show(w.heap.push o)[w.heap.size]? = some o;simp
theorem G7 (w:World)(o:Obj):(w.alloc o).heap.size=w.heap.size+1:=by
 show(w.heap.push o).size=_;simp
theorem Yt {w:World}{F:Nat->Prop}{b:Nat}{m:cP}(h:gJ w F b m):Ret Tryz.prog 141 #[.pointer (some ⟨b,0,none⟩)] w fun r w'=>∃ c,r=.pointer (some ⟨c,0,none⟩)/\gJ w' (fun k=>w.heap.size<=k/\k<w'.heap.size) c m/\Fr none1 w w':=by
 obtain⟨⟨g1,g2,h1,h2,h3,_⟩,_⟩:=h;refine c141 _ w _ ?_;unfold C141;refine aH.of fun w1 _ f1=>bb.all ?_;refine aE.all (ae.ai (f1.af h1) (x:=some g1) rfl (aE.all (ae.ai (f1.af h1) (x:=some g2) rfl ?_)));obtain⟨uY,c1,ar,nn⟩:=h2.af f1;have mc:Ret Tryz.prog 184 #[.map (some g1)] w1 fun r w'=>r=.map (some w1.heap.size)/\w'=w1.alloc (.map uY c1):=Calls.mono (Tryz.Rq g1 uY c1 w1 ar) fun e w' ⟨a,b⟩=>⟨_,a,rfl,b⟩;refine ab.of mc ?_;clear mc;rintro _ w2 ⟨rfl,rfl⟩;have f2:Fr none1 w1 (w1.alloc (.map uY c1)):=lH w1 _;have n2:=G6 w1 (.map uY c1);have s2:=G7 w1 (.map uY c1);generalize w1.alloc (.map uY c1)=w2 at *;refine⟨some w1.heap.size,rfl,ak.of f2 ?_⟩;obtain⟨uZ,c2,aM,oH⟩:=(h3.af f1).af f2;have mc:Ret Tryz.prog 185 #[.map (some g2)] w2 fun r w'=>r=.map (some w2.heap.size)/\w'=w2.alloc (.map uZ c2):=Calls.mono (Tryz.Rt g2 uZ c2 w2 aM) fun e w' ⟨a,b⟩=>⟨_,a,rfl,b⟩;refine ab.of mc ?_;clear mc;rintro _ w3 ⟨rfl,rfl⟩;have f3:Fr none1 w2 (w2.alloc (.map uZ c2)):=lH w2 _;have n3:=G6 w2 (.map uZ c2);have s3:=G7 w2 (.map uZ c2);generalize w2.alloc (.map uZ c2)=w3 at *;refine⟨some w2.heap.size,rfl,ak.of f3 ?_⟩;refine aq.of fun g w4 hg hb f4 rn=>ak.of f4 ?_;have s1:=f1.size;refine⟨g,rfl,⟨⟨w1.heap.size,w2.heap.size,hb,⟨uY,c1,f4.af (f3.af n2),nn⟩,⟨uZ,c2,f4.af n3,oH⟩,by omega,by omega,by omega,by omega,by omega⟩,by omega⟩,((f1.trans f2).trans f3).trans f4⟩
theorem Yu {w:World}{F:Nat->Prop}{b:Nat}{m:cP}(h:gJ w F b m)(hF:∀ k,F k->k<w.heap.size)(s:List UInt8)(d v:Int):Ret Tryz.prog 234 #[.pointer (some ⟨b,0,none⟩),.string (str s),.int .i64 d,.int .i64 v] w fun r w'=>
  r=.int .i64 (qk m s d v).2/\gJ w' F b (qk m s d v).1/\Fr F w w':=by
 have h0:=h;obtain⟨⟨g1,g2,h1,h2,h3,h4,h5,h6,h7,h8⟩,hm⟩:=h;refine c234 _ (str s) d v w _ ?_;unfold C234;refine cB (zs:=[.string (⟨#[]⟩:ByteArray),.int .i64 0]) (vs:=[.string (str s),.int .i64 d]) rfl rfl fun g w1 hg hb f1=>aH.of fun w2 _ f2=>bb.all ?_;have f12:=f1.trans f2;refine aE.all (ae.ai (f12.af h1) (x:=some g1) rfl (aE.all (az.aG (cks:=[.str,.int .i64]) (x:=(str s,d,())) (f2.af hb) (N8 (h2.af f12) s d (ak.of (Fr.refl _ _) ?_)))));have no:∀ {w':World},Fr none1 w w'->gJ w' F b m/\Fr F w w':=fun f=>⟨h0.af f,f.mono fun _ _ t=>t.elim⟩;unfold qk;refine ab.of (tT s w2) ?_;rintro _ w3 ⟨rfl,f3⟩;have f13:=f12.trans f3;refine⟨_,rfl,aa.not (aa.by (fun hn=>?_) (fun hn=>?_))⟩
 rotate_left
 ·rw[if_pos (.inl hn)];exact⟨rfl,no f13⟩
 refine ab.of (N9 d w3) ?_;rintro _ _ ⟨rfl,rfl⟩;refine⟨_,rfl,aa.not (aa.by (fun hd=>?_) (fun hd=>?_))⟩
 rotate_left
 ·rw[if_pos (.inr (.inl hd))];exact⟨rfl,no f13⟩
 refine ab.of (qN v w3) ?_;rintro _ _ ⟨rfl,rfl⟩;refine⟨_,rfl,aa.not (aa.by (fun hv=>?_) (fun hv=>?_))⟩
 rotate_left
 ·rw[if_pos (.inr (.inr hv))];exact⟨rfl,no f13⟩
 have hn:eI s=true:=hn;rw[if_neg (by rw[hn,hd,hv];simp)];refine aa.by (fun hi=>?_) (fun hi=>?_)
 ·rw[if_pos hi];exact⟨rfl,no f13⟩
 rw[if_neg (fun t=>by have hi:(bd (s,d) m.fx).isSome=false:=hi;rw[hi] at t;cases t)];refine ae.ai (f13.af h1) (x:=some g1) rfl (xn.Yj (h2.af f13) (aa.dec (fun hl=>?_) (fun hl=>?_)))
 ·rw[if_pos (by omega)];exact⟨rfl,no f13⟩
 rw[if_neg (by omega)];refine aH.of fun w4 _ f4=>?_;have f14:=f13.trans f4;refine ae.ai (f14.af h1) (x:=some g1) rfl (az.aG (cks:=[.str,.int .i64]) (x:=(str s,d,())) ((f3.trans f4).af (f2.af hb)) (Yp (h2.af f14) s d v fun w5 DT f5=>?_));have f15:Fr F w w5:=(f14.mono fun _ _ t=>t.elim).comp f5 fun k U t=>by have:k=g1:=t;rw[this];exact h4
 refine⟨rfl,⟨⟨g1,g2,f5.ag (f14.af h1) (fun t=>h7 t),DT,(h3.af f14).ag f5 (fun t=>h6 (Eq.symm t)),h4,h5,h6,h7,h8⟩,hm⟩,f15⟩
theorem Yv {w:World}{F:Nat->Prop}{b:Nat}{m:cP}(h:gJ w F b m)(s t:List UInt8)(v d:Int):Ret Tryz.prog 240 #[.pointer (some ⟨b,0,none⟩),.string (str s),.string (str t),.int .i64 v,.int .i64 d] w fun r w'=>
  r=.int .i64 (kP m s t v d).2/\gJ w' F b (kP m s t v d).1/\Fr F w w':=by
 have h0:=h;obtain⟨⟨g1,g2,h1,h2,h3,h4,h5,h6,h7,h8⟩,hm⟩:=h;refine c240 _ (str s) (str t) v d w _ ?_;unfold C240;have kK:=cj h1;refine cB (zs:=[.string (⟨#[]⟩:ByteArray),.string (⟨#[]⟩:ByteArray)]) (vs:=[.string (str s),.string (str t)]) rfl rfl fun g w1 hg hb f1=>aH.of fun w2 _ f2=>bb.of (fun k=>k<w2.heap.size) ?_;have f12:=f1.trans f2;have aM:=f2.af hb;have lr:=cj aM;refine⟨by rw[dw];show b<_;have:=f12.size;omega,ae.ai (f12.af h1) (x:=some g2) rfl ⟨lr,az.aG (cks:=[.str,.str]) (x:=(str s,str t,())) aM ⟨?a,?b⟩⟩⟩
 case' a=>
  refine G5 (h3.af f12) s t (ak.of (Fr.refl _ _) (aq.of fun g9 w3 Oc nF f3 ox=>ak.of f3 (av.aG (cs:=[.int .i64 0,.int .i64 0]) nF rfl rfl fun w4 dm f4 rn=>ak.on f4 (fun k U q=>by have:k=g9:=q;omega) ?_)))
 case' b=>
  refine aq.of fun g9 w3 Oc nF f3 ox=>ak.of f3 (G5 ((h3.af f12).af f3) s t (ak.of (Fr.refl _ _) (av.aG (cs:=[.int .i64 0,.int .i64 0]) nF rfl rfl fun w4 dm f4 rn=>ak.on f4 (fun k U q=>by have:k=g9:=q;omega) ?_)))
 all_goals
  have f24:Fr none1 w2 w4:=f3.fresh f4 (by omega);have f14:=f12.trans f24;have no:∀ {w':World},Fr none1 w w'->gJ w' F b m/\Fr F w w':=fun f=>⟨h0.af f,f.mono fun _ _ t=>t.elim⟩;refine bQ.of (fun st w'=>st.1=decide (eI s=false\/eI t=false\/(v≠0/\v≠1)\/sG d=false)/\Fr none1 w4 w') ?_ ?_
  ·refine ab.of (tT s w4) ?_
   rintro _ w5 ⟨rfl,f5⟩;refine⟨_,rfl,aa.not (aa.by (fun hn=>?_) (fun hn=>⟨(decide_eq_true (.inl hn)).symm,f5⟩))⟩;refine ab.of (tT t w5) ?_;rintro _ w6 ⟨rfl,f6⟩;refine⟨_,rfl,aa.not (aa.by (fun ht=>?_) (fun ht=>⟨(decide_eq_true (.inr (.inl ht))).symm,f5.trans f6⟩))⟩;have hn:eI s=true:=hn;have ht:eI t=true:=ht;have fin:(v≠0/\v≠1)\/¬ (v≠0/\v≠1):=Classical.em _;refine aa.ne (fun q=>aa.ne (fun q2=>⟨(decide_eq_true (.inr (.inr (.inl ⟨q,q2⟩)))).symm,f5.trans f6⟩) (fun q2=>?_)) (fun q=>?_)
   all_goals
    refine ab.of (N9 d w6) ?_;rintro _ _ ⟨rfl,rfl⟩;refine⟨_,rfl,?_,f5.trans f6⟩;dsimp only;cases hr:sG d with
    | false=>rw[decide_eq_true (.inr (.inr (.inr rfl)))];rfl
    | true=>rw[decide_eq_false (by rw[hn,ht];simp;omega)];rfl
  rintro _ ⟨st,_⟩ w5 ⟨cV,f5⟩;dsimp only at cV ⊢;subst cV;have f15:=f14.trans f5;unfold kP;refine aa.dec (fun hc=>?_) (fun hc=>?_)
  ·rw[if_pos hc];exact⟨rfl,no f15⟩
  rw[if_neg hc];refine aa.by (fun hi=>?_) (fun hi=>?_)
  ·rw[if_pos hi];exact⟨rfl,no f15⟩
  rw[if_neg (fun q=>by rw[hi] at q;cases q)];refine aH.of fun w6 _ f6=>?_;have f16:=f15.trans f6;refine ae.ai (f16.af h1) (x:=some g2) rfl (az.aG (cks:=[.str,.str]) (x:=(str s,str t,())) ((f24.trans (f5.trans f6)).af aM) (Yq (h3.af f16) s t v d fun w7 zK f7=>?_));have f17:Fr F w w7:=(f16.mono fun _ _ t=>t.elim).comp f7 fun k U q=>by have:k=g2:=q;rw[this];exact h5
  exact⟨rfl,⟨⟨g1,g2,f7.ag (f16.af h1) (fun q=>h8 q),(h2.af f16).ag f7 (fun q=>h6 q),zK,h4,h5,h6,h7,h8⟩,hm⟩,f17⟩
def C326 (p0:Int)(p1:Bool)(w:World)(K:Value->World->Prop):Prop:=
 aa (!p1)
 (K (.tuple #[.int .i64 0,.bool false]) w)
 (ab Tryz.prog 131 #[.int .i64 p0] w (.v (.one .bool)) (fun(x1:Bool) w2=>aa (!x1)
 (K (.tuple #[.int .i64 0,.bool false]) w2)
 (K (.tuple #[.int .i64 p0,.bool true]) w2)))
def pl326:aB:=.auto
theorem c326 (p0:Int)(p1:Bool)(w:World)(K:Value->World->Prop)(h:C326 p0 p1 w K):Ret Tryz.prog 326 #[.int .i64 p0,.bool p1] w K:=aC (by kernel_rfl) Tryz.func326 (p:=pl326) (Eq.mpr (by kernel_rfl) h)
def C354 (p0:Int)(p1:Int)(w:World)(K:Value->World->Prop):Prop:=
 bQ (Bool×Unit) (fun J1=>ab Tryz.prog 131 #[.int .i64 p0] w (.v (.one .bool)) (fun(x4:Bool) w5=>aa x4
 (ab Tryz.prog 131 #[.int .i64 p1] w5 (.v (.one .bool)) (fun(x6:Bool) w7=>J1 (x6,()) w7))
 (J1 (false,()) w5)))
 (fun _ s2 w3=>aa (!s2.1)
 (K (.tuple #[.int .i64 0,.bool false]) w3)
 (ab Tryz.prog 326 #[.int .i64 (IntKind.i64.wrap (p0+p1)),.bool s2.1] w3 (.aP [.one (.int .i64),.one .bool]) (fun(x8:Int×Bool×Unit) w9=>K (.tuple #[.int .i64 x8.1,.bool x8.2.1]) w9)))
def pl354:aB:=(.seq .auto (.join [(6,.one .bool)] .auto .auto))
theorem c354 (p0:Int)(p1:Int)(w:World)(K:Value->World->Prop)(h:C354 p0 p1 w K):Ret Tryz.prog 354 #[.int .i64 p0,.int .i64 p1] w K:=aC (by kernel_rfl) Tryz.func354 (p:=pl354) (Eq.mpr (by kernel_rfl) h)
def C325 (p0:Int)(w:World)(K:Value->World->Prop):Prop:=
 K (.int .i64 (if IntKind.i64.wrap (0 - p0) > p0 then IntKind.i64.wrap (0 - p0) else p0)) w
def pl325:aB:=.auto
theorem c325 (p0:Int)(w:World)(K:Value->World->Prop)(h:C325 p0 w K):Ret Tryz.prog 325 #[.int .i64 p0] w K:=aC (by kernel_rfl) Tryz.func325 (p:=pl325) (Eq.mpr (by kernel_rfl) h)
def C307 (p0:Int)(p1:Int)(w:World)(K:Value->World->Prop):Prop:=
 bQ (Bool×Unit) (fun J1=>ab Tryz.prog 131 #[.int .i64 p0] w (.v (.one .bool)) (fun(x4:Bool) w5=>aa (!x4)
 (J1 (true,()) w5)
 (ab Tryz.prog 131 #[.int .i64 p1] w5 (.v (.one .bool)) (fun(x6:Bool) w7=>aa (!x6)
 (J1 (true,()) w7)
 (aa (p1 != 0)
 (ab Tryz.prog 325 #[.int .i64 p0] w7 (.v (.one (.int .i64))) (fun(x8:Int) w9=>ab Tryz.prog 325 #[.int .i64 p1] w9 (.v (.one (.int .i64))) (fun(aS:Int) aR=>tu aS (J1 (decide (x8 > (IntKind.i64.wrap (Int.tdiv 1000000000000 aS))),()) aR))))
 (J1 (false,()) w7))))))
 (fun _ s2 w3=>aa s2.1
 (K (.tuple #[.int .i64 0,.bool false]) w3)
 (ab Tryz.prog 326 #[.int .i64 (IntKind.i64.wrap (p0 * p1)),.bool true] w3 (.aP [.one (.int .i64),.one .bool]) (fun(bw:Int×Bool×Unit) aW=>K (.tuple #[.int .i64 bw.1,.bool bw.2.1]) aW)))
def pl307:aB:=(.seq .auto (.seq (.join [(25,.one .bool)] .auto .auto) .auto))
theorem c307 (p0:Int)(p1:Int)(w:World)(K:Value->World->Prop)(h:C307 p0 p1 w K):Ret Tryz.prog 307 #[.int .i64 p0,.int .i64 p1] w K:=aC (by kernel_rfl) Tryz.func307 (p:=pl307) (Eq.mpr (by kernel_rfl) h)
def C357 (p0:Int)(w:World)(K:Value->World->Prop):Prop:=
 ab Tryz.prog 131 #[.int .i64 p0] w (.v (.one .bool)) (fun(x1:Bool) w2=>aa (!x1)
 (K (.tuple #[.int .i64 0,.bool false]) w2)
 (K (.tuple #[.int .i64 (IntKind.i64.wrap (0 - p0)),.bool true]) w2))
def pl357:aB:=.auto
theorem c357 (p0:Int)(w:World)(K:Value->World->Prop)(h:C357 p0 w K):Ret Tryz.prog 357 #[.int .i64 p0] w K:=aC (by kernel_rfl) Tryz.func357 (p:=pl357) (Eq.mpr (by kernel_rfl) h)
def C356 (p0:Int)(p1:Bool)(w:World)(K:Value->World->Prop):Prop:=
 aq (.cells #[.int .i64 0,.bool false] 479) w (fun g1 w2=>aa (!p1)
 (av (ad g1) [.int .i64 0,.bool false] w2 (fun w3=>az [.int .i64,.bool] (ad g1) w3 (fun(x4:Int×Bool×Unit)=>K (.tuple #[.agg #[.int .i64 x4.1,.bool x4.2.1],.int .i64 6]) w3)))
 (av (ad g1) [.int .i64 p0,.bool true] w2 (fun w5=>az [.int .i64,.bool] (ad g1) w5 (fun(x6:Int×Bool×Unit)=>K (.tuple #[.agg #[.int .i64 x6.1,.bool x6.2.1],.int .i64 0]) w5))))
def pl356:aB:=.auto
theorem c356 (p0:Int)(p1:Bool)(w:World)(K:Value->World->Prop)(h:C356 p0 p1 w K):Ret Tryz.prog 356 #[.int .i64 p0,.bool p1] w K:=aC (by kernel_rfl) Tryz.func356 (p:=pl356) (Eq.mpr (by kernel_rfl) h)
def C353 (p0:Value)(p1:Value)(p2:Int)(p3:Addr)(p4:Value)(w:World)(K:Value->World->Prop):Prop:=
 aq (.cells #[.int .i64 0,.bool false] 479) w (fun g1 w2=>ab Tryz.prog 339 #[p0,.int .i64 p2,.pointer (some p3)] w2 (.aP [.agg [.int .i64,.bool],.one (.int .i64)]) (fun(x3:(Int×Bool×Unit)×Int×Unit) w4=>aq (.cells #[.int .i64 0,.bool false] 479) w4 (fun g5 w6=>av (ad g5) [.int .i64 x3.1.1,.bool x3.1.2.1] w6 (fun w7=>aa (x3.2.1 != 0)
 (av (ad g1) [.int .i64 0,.bool false] w7 (fun w8=>az [.int .i64,.bool] (ad g1) w8 (fun(x9:Int×Bool×Unit)=>K (.tuple #[.agg #[.int .i64 x9.1,.bool x9.2.1],.int .i64 x3.2.1]) w8)))
 (ab Tryz.prog 339 #[p1,.int .i64 p2,.pointer (some p3)] w7 (.aP [.agg [.int .i64,.bool],.one (.int .i64)]) (fun(aS:(Int×Bool×Unit)×Int×Unit) aR=>aq (.cells #[.int .i64 0,.bool false] 479) aR (fun g12 aW=>av (ad g12) [.int .i64 aS.1.1,.bool aS.1.2.1] aW (fun bu=>aa (aS.2.1 != 0)
 (av (ad g1) [.int .i64 0,.bool false] bu (fun bL=>az [.int .i64,.bool] (ad g1) bL (fun(aT:Int×Bool×Unit)=>K (.tuple #[.agg #[.int .i64 aT.1,.bool aT.2.1],.int .i64 aS.2.1]) bL)))
 (ae .bool ((ad g5).add 1) bu (fun(aX:Bool)=>aa (!aX)
 (av (ad g1) [.int .i64 0,.bool false] bu (fun bx=>az [.int .i64,.bool] (ad g1) bx (fun(bt:Int×Bool×Unit)=>K (.tuple #[.agg #[.int .i64 bt.1,.bool bt.2.1],.int .i64 aS.2.1]) bx)))
 (ae .bool ((ad g12).add 1) bu (fun(cm:Bool)=>aa (!cm)
 (av (ad g1) [.int .i64 0,.bool false] bu (fun bq=>az [.int .i64,.bool] (ad g1) bq (fun(cr:Int×Bool×Unit)=>K (.tuple #[.agg #[.int .i64 cr.1,.bool cr.2.1],.int .i64 aS.2.1]) bq)))
 (ae (.int .i64) ((ad g5).add 0) bu (fun(cc:Int)=>ae (.int .i64) ((ad g12).add 0) bu (fun(cN:Int)=>j9 Tryz.prog p4 [.int .i64 cc,.int .i64 cN] (.aP [.one (.int .i64),.one .bool]) bu (fun(bG:Int×Bool×Unit) bZ=>ab Tryz.prog 356 #[.int .i64 bG.1,.bool bG.2.1] bZ (.aP [.agg [.int .i64,.bool],.one (.int .i64)]) (fun(cE:(Int×Bool×Unit)×Int×Unit) bV=>av (ad g1) [.int .i64 cE.1.1,.bool cE.1.2.1] bV (fun eg=>az [.int .i64,.bool] (ad g1) eg (fun(dX:Int×Bool×Unit)=>K (.tuple #[.agg #[.int .i64 dX.1,.bool dX.2.1],.int .i64 cE.2.1]) eg)))))))))))))))))))
def pl353:aB:=.auto
theorem c353 (p0:Value)(p1:Value)(p2:Int)(p3:Addr)(p4:Value)(w:World)(K:Value->World->Prop)(h:C353 p0 p1 p2 p3 p4 w K):Ret Tryz.prog 353 #[p0,p1,.int .i64 p2,.pointer (some p3),p4] w K:=aC (by kernel_rfl) Tryz.func353 (p:=pl353) (Eq.mpr (by kernel_rfl) h)
def C355 (p0:Int)(p1:Int)(w:World)(K:Value->World->Prop):Prop:=
 K (.tuple #[.int .i64 (if p1 > p0 then p1 else p0),.bool true]) w
def pl355:aB:=.auto
theorem c355 (p0:Int)(p1:Int)(w:World)(K:Value->World->Prop)(h:C355 p0 p1 w K):Ret Tryz.prog 355 #[.int .i64 p0,.int .i64 p1] w K:=aC (by kernel_rfl) Tryz.func355 (p:=pl355) (Eq.mpr (by kernel_rfl) h)
def C339 (p0:Value)(p1:Int)(p2:Addr)(w:World)(K:Value->World->Prop):Prop:=
 aq (.cells #[.int .i64 0,.bool false] 479) w (fun g1 w2=>aj p0 222 (.agg [.int .i64]) (fun(x3:Int×Unit)=>aq (.cells #[.int .i64 0] 222) w2 (fun g4 w5=>av (ad g4) [.int .i64 x3.1] w5 (fun w6=>ae (.int .i64) ((ad g4).add 0) w6 (fun(x7:Int)=>av (ad g1) [.int .i64 x7,.bool true] w6 (fun w8=>az [.int .i64,.bool] (ad g1) w8 (fun(x9:Int×Bool×Unit)=>K (.tuple #[.agg #[.int .i64 x9.1,.bool x9.2.1],.int .i64 0]) w8))))))
 (aj p0 300 (.agg [.str]) (fun(aS:ByteArray×Unit)=>aq (.cells #[.string (⟨#[]⟩:ByteArray)] 300) w2 (fun g11 aO=>av (ad g11) [.string aS.1] aO (fun aW=>ae .str ((ad g11).add 0) aW (fun(bn:ByteArray)=>ab Tryz.prog 342 #[.pointer (some p2),.string bn,.int .i64 p1] aW (.aP [.one (.int .i64),.one .bool]) (fun(bm:Int×Bool×Unit) br=>av (ad g1) [.int .i64 bm.1,.bool bm.2.1] br (fun cD=>az [.int .i64,.bool] (ad g1) cD (fun(bE:Int×Bool×Unit)=>K (.tuple #[.agg #[.int .i64 bE.1,.bool bE.2.1],.int .i64 0]) cD)))))))
 (aj p0 302 (.agg [.raw,.raw]) (fun(bt:Value×Value×Unit)=>aq (.cells #[.nilIface,.nilIface] 302) w2 (fun g20 bq=>av (ad g20) [bt.1,bt.2.1] bq (fun bA=>ae .raw ((ad g20).add 0) bA (fun(cc:Value)=>ae .raw ((ad g20).add 1) bA (fun(cN:Value)=>ab Tryz.prog 353 #[cc,cN,.int .i64 p1,.pointer (some p2),.func (.func 354) #[] #[]] bA (.aP [.agg [.int .i64,.bool],.one (.int .i64)]) (fun(bG:(Int×Bool×Unit)×Int×Unit) bZ=>av (ad g1) [.int .i64 bG.1.1,.bool bG.1.2.1] bZ (fun eM=>az [.int .i64,.bool] (ad g1) eM (fun(eX:Int×Bool×Unit)=>K (.tuple #[.agg #[.int .i64 eX.1,.bool eX.2.1],.int .i64 bG.2.1]) eM))))))))
 (aj p0 305 (.agg [.raw,.raw]) (fun(cH:Value×Value×Unit)=>aq (.cells #[.nilIface,.nilIface] 305) w2 (fun qR eK=>av (ad qR) [cH.1,cH.2.1] eK (fun cZ=>ae .raw ((ad qR).add 0) cZ (fun(dH:Value)=>ae .raw ((ad qR).add 1) cZ (fun(ez:Value)=>ab Tryz.prog 353 #[dH,ez,.int .i64 p1,.pointer (some p2),.func (.func 307) #[] #[]] cZ (.aP [.agg [.int .i64,.bool],.one (.int .i64)]) (fun(de:(Int×Bool×Unit)×Int×Unit) cW=>av (ad g1) [.int .i64 de.1.1,.bool de.1.2.1] cW (fun dq=>az [.int .i64,.bool] (ad g1) dq (fun(dN:Int×Bool×Unit)=>K (.tuple #[.agg #[.int .i64 dN.1,.bool dN.2.1],.int .i64 de.2.1]) dq))))))))
 (aj p0 306 (.agg [.raw,.raw]) (fun(eY:Value×Value×Unit)=>aq (.cells #[.nilIface,.nilIface] 306) w2 (fun x0 kL=>av (ad x0) [eY.1,eY.2.1] kL (fun eU=>ae .raw ((ad x0).add 0) eU (fun(jx:Value)=>ae .raw ((ad x0).add 1) eU (fun(kn:Value)=>ab Tryz.prog 353 #[jx,kn,.int .i64 p1,.pointer (some p2),.func (.func 355) #[] #[]] eU (.aP [.agg [.int .i64,.bool],.one (.int .i64)]) (fun(fY:(Int×Bool×Unit)×Int×Unit) gN=>av (ad g1) [.int .i64 fY.1.1,.bool fY.1.2.1] gN (fun kx=>az [.int .i64,.bool] (ad g1) kx (fun(la:Int×Bool×Unit)=>K (.tuple #[.agg #[.int .i64 la.1,.bool la.2.1],.int .i64 fY.2.1]) kx))))))))
 (aj p0 304 (.agg [.raw]) (fun(fR:Value×Unit)=>ab Tryz.prog 339 #[fR.1,.int .i64 p1,.pointer (some p2)] w2 (.aP [.agg [.int .i64,.bool],.one (.int .i64)]) (fun(jy:(Int×Bool×Unit)×Int×Unit) iA=>aq (.cells #[.int .i64 0,.bool false] 479) iA (fun wU pg=>av (ad wU) [.int .i64 jy.1.1,.bool jy.1.2.1] pg (fun jV=>aa (jy.2.1 != 0)
 (av (ad g1) [.int .i64 0,.bool false] jV (fun iQ=>az [.int .i64,.bool] (ad g1) iQ (fun(my:Int×Bool×Unit)=>K (.tuple #[.agg #[.int .i64 my.1,.bool my.2.1],.int .i64 jy.2.1]) iQ)))
 (ae .bool ((ad wU).add 1) jV (fun(oY:Bool)=>aa (!oY)
 (av (ad g1) [.int .i64 0,.bool false] jV (fun pY=>az [.int .i64,.bool] (ad g1) pY (fun(qM:Int×Bool×Unit)=>K (.tuple #[.agg #[.int .i64 qM.1,.bool qM.2.1],.int .i64 jy.2.1]) pY)))
 (ae (.int .i64) ((ad wU).add 0) jV (fun(nt:Int)=>ab Tryz.prog 357 #[.int .i64 nt] jV (.aP [.one (.int .i64),.one .bool]) (fun(lu:Int×Bool×Unit) kv=>ab Tryz.prog 356 #[.int .i64 lu.1,.bool lu.2.1] kv (.aP [.agg [.int .i64,.bool],.one (.int .i64)]) (fun(oa:(Int×Bool×Unit)×Int×Unit) mz=>av (ad g1) [.int .i64 oa.1.1,.bool oa.1.2.1] mz (fun Od=>az [.int .i64,.bool] (ad g1) Od (fun(vU:Int×Bool×Unit)=>K (.tuple #[.agg #[.int .i64 vU.1,.bool vU.2.1],.int .i64 oa.2.1]) Od)))))))))))) False))))))
def pl339:aB:=.auto
theorem c339 (p0:Value)(p1:Int)(p2:Addr)(w:World)(K:Value->World->Prop)(h:C339 p0 p1 p2 w K):Ret Tryz.prog 339 #[p0,.int .i64 p1,.pointer (some p2)] w K:=aC (by kernel_rfl) Tryz.func339 (p:=pl339) (Eq.mpr (by kernel_rfl) h)
def C322 (p0:Value)(p1:Int)(p2:Addr)(w:World)(K:Value->World->Prop):Prop:=
 ab Tryz.prog 244 #[p0] w (.v (.one (.int .i64))) (fun(x1:Int) w2=>aa (x1 != 0)
 (K (.tuple #[.int .i64 0,.bool false,.int .i64 2]) w2)
 (ab Tryz.prog 339 #[p0,.int .i64 p1,.pointer (some p2)] w2 (.aP [.agg [.int .i64,.bool],.one (.int .i64)]) (fun(x3:(Int×Bool×Unit)×Int×Unit) w4=>aq (.cells #[.int .i64 0,.bool false] 479) w4 (fun g5 w6=>av (ad g5) [.int .i64 x3.1.1,.bool x3.1.2.1] w6 (fun w7=>aH w7 (fun w8=>ae (.int .i64) ((ad g5).add 0) w8 (fun(x9:Int)=>ae .bool ((ad g5).add 1) w8 (fun(aS:Bool)=>K (.tuple #[.int .i64 x9,.bool aS,.int .i64 x3.2.1]) w8))))))))
def pl322:aB:=(.seq .auto (.seq .auto (.seq .auto (.seq .still .auto))))
theorem c322 (p0:Value)(p1:Int)(p2:Addr)(w:World)(K:Value->World->Prop)(h:C322 p0 p1 p2 w K):Ret Tryz.prog 322 #[p0,.int .i64 p1,.pointer (some p2)] w K:=aC (by kernel_rfl) Tryz.func322 (p:=pl322) (Eq.mpr (by kernel_rfl) h)
def C324 (p0:Value)(p1:Int)(p2:Addr)(w:World)(K:Value->World->Prop):Prop:=
 ab Tryz.prog 244 #[p0] w (.v (.one (.int .i64))) (fun(x1:Int) w2=>aa (x1 != 0)
 (K (.slice none 0 0) w2)
 (ab Tryz.prog 341 #[p0] w2 (.v (.one .ah)) (fun(x3:ao) w4=>bj (ao×Int×Unit) (fun _ s5 w6 ss=>aa (decide (s5.2.1<(x3.2.1:Int)))
 (bK x3.1 x3.2.1 s5.2.1 1 (fun a8=>ae .str a8 w6 (fun(x9:ByteArray)=>ab Tryz.prog 342 #[.pointer (some p2),.string x9,.int .i64 p1] w6 (.aP [.one (.int .i64),.one .bool]) (fun(aS:Int×Bool×Unit) aR=>aa (!aS.2.1)
 (aw Tryz.prog (Instr.buildSlice 51 1 #[(0,.string x9)]) aR (.v (.one .ah)) (fun(bw:ao) aW=>aw Tryz.prog (Builtin.append_ #[51,51] 51 #[.slice s5.1.1 s5.1.2.1 s5.1.2.2,.slice bw.1 bw.2.1 bw.2.2]) aW (.v (.one .ah)) (fun(bn:ao) bL=>ss ((bn.1,bn.2.1,bn.2.2),IntKind.i64.wrap (s5.2.1+1),()) bL)))
 (ss ((s5.1.1,s5.1.2.1,s5.1.2.2),IntKind.i64.wrap (s5.2.1+1),()) aR)))))
 (K (.slice s5.1.1 s5.1.2.1 s5.1.2.2) w6))
 ((none,0,0),0,()) w4)))
def pl324:aB:=(.seq .auto (.seq .auto (.seq .auto (.seq (.seq .auto (.block (.loop [(7,.one .ah),(18,.one (.int .i64))] .auto))) .auto))))
theorem c324 (p0:Value)(p1:Int)(p2:Addr)(w:World)(K:Value->World->Prop)(h:C324 p0 p1 p2 w K):Ret Tryz.prog 324 #[p0,.int .i64 p1,.pointer (some p2)] w K:=aC (by kernel_rfl) Tryz.func324 (p:=pl324) (Eq.mpr (by kernel_rfl) h)
def C341 (p0:Value)(w:World)(K:Value->World->Prop):Prop:=
 aj p0 300 (.agg [.str]) (fun(x1:ByteArray×Unit)=>aq (.cells #[.string (⟨#[]⟩:ByteArray)] 300) w (fun g2 w3=>av (ad g2) [.string x1.1] w3 (fun w4=>ae .str ((ad g2).add 0) w4 (fun(x5:ByteArray)=>aw Tryz.prog (Instr.buildSlice 51 1 #[(0,.string x5)]) w4 (.v (.one .ah)) (fun(x6:ao) w7=>K (.slice x6.1 x6.2.1 x6.2.2) w7)))))
 (aq (.cells #[.string (⟨#[]⟩:ByteArray)] 300) w (fun g8 w9=>av (ad g8) [.string (⟨#[]⟩:ByteArray)] w9 (fun aK=>ab Tryz.prog 254 #[p0] aK (.v (.one .ah)) (fun(aZ:ao) aO=>bj (ao×Int×Unit) (fun _ jB bu AJ=>aa (decide (jB.2.1<(aZ.2.1:Int)))
 (bK aZ.1 aZ.2.1 jB.2.1 1 (fun xO=>ae .raw xO bu (fun(aX:Value)=>ab Tryz.prog 341 #[aX] bu (.v (.one .ah)) (fun(bE:ao) bO=>bj (ao×Int×Unit) (fun _ ly bq Oe=>aa (decide (ly.2.1<(bE.2.1:Int)))
 (bK bE.1 bE.2.1 ly.2.1 1 (fun a23=>ae .str a23 bq (fun(cN:ByteArray)=>ab Tryz.prog 217 #[.slice ly.1.1 ly.1.2.1 ly.1.2.2,.string cN] bq (.v (.one .bool)) (fun(bG:Bool) bZ=>aa (!bG)
 (aw Tryz.prog (Instr.buildSlice 51 1 #[(0,.string cN)]) bZ (.v (.one .ah)) (fun(cE:ao) bV=>aw Tryz.prog (Builtin.append_ #[51,51] 51 #[.slice ly.1.1 ly.1.2.1 ly.1.2.2,.slice cE.1 cE.2.1 cE.2.2]) bV (.v (.one .ah)) (fun(cH:ao) cn=>Oe ((cH.1,cH.2.1,cH.2.2),IntKind.i64.wrap (ly.2.1+1),()) cn)))
 (Oe ((ly.1.1,ly.1.2.1,ly.1.2.2),IntKind.i64.wrap (ly.2.1+1),()) bZ)))))
 (AJ ((ly.1.1,ly.1.2.1,ly.1.2.2),IntKind.i64.wrap (jB.2.1+1),()) bq))
 ((jB.1.1,jB.1.2.1,jB.1.2.2),0,()) bO))))
 (K (.slice jB.1.1 jB.1.2.1 jB.1.2.2) bu))
 ((none,0,0),0,()) aO))))
def pl341:aB:=(.seq .auto (.seq .auto (.seq .auto (.seq (.seq .auto (.block (.loop [(3,.one .ah),(22,.one (.int .i64))] (.seq .auto (.seq .auto (.seq (.block (.seq .auto (.seq .auto (.block (.loop [(3,.one .ah),(29,.one (.int .i64))] .auto))))) .auto)))))) .auto))))
theorem c341 (p0:Value)(w:World)(K:Value->World->Prop)(h:C341 p0 w K):Ret Tryz.prog 341 #[p0] w K:=aC (by kernel_rfl) Tryz.func341 (p:=pl341) (Eq.mpr (by kernel_rfl) h)
theorem Of (n:Int)(ok:Bool)(w:World):Ret Tryz.prog 326 #[.int .i64 n,.bool ok] w fun r w'=>r=.tuple #[.int .i64 (if ok&&cv n then n else 0),.bool (ok&&cv n)]/\w=w':=by
 refine c326 n ok w _ ?_;refine aa.not (aa.by (fun h=>?_) (fun h=>?_))
 ·subst h
  refine ab.of (qN n w) ?_;rintro _ _ ⟨rfl,rfl⟩;refine⟨_,rfl,aa.not (aa.by (fun h=>?_) (fun h=>?_))⟩
  ·rw[h];exact⟨rfl,rfl⟩
  ·rw[h];exact⟨rfl,rfl⟩
 ·subst h;exact⟨rfl,rfl⟩
theorem Yw (a b:Int)(w:World):Ret Tryz.prog 354 #[.int .i64 a,.int .i64 b] w fun r w'=>r=.tuple #[.int .i64 (uz a b).1,.bool (uz a b).2]/\w=w':=by
 refine c354 a b w _ ?_;refine bQ.of (fun s w'=>s.1=(cv a&&cv b)/\w=w') ?_ ?_
 ·refine ab.of (qN a w) ?_
  rintro _ _ ⟨rfl,rfl⟩;refine⟨_,rfl,aa.by (fun h=>?_) (fun h=>⟨by rw[h];rfl,rfl⟩)⟩;refine ab.of (qN b w) ?_;rintro _ _ ⟨rfl,rfl⟩;exact⟨_,rfl,by rw[h];rfl,rfl⟩
 rintro _ ⟨s,_⟩ _ ⟨hs,rfl⟩;dsimp only at hs ⊢;subst hs;unfold uz;refine aa.not (aa.by (fun h=>?_) (fun h=>?_))
 ·have h2:=h
  rw[Bool.and_eq_true,qu,qu] at h2;rw[h,wI (x:=a+b) (by omega) (by omega)];refine ab.of (Of (a+b) true w) ?_;rintro _ _ ⟨rfl,rfl⟩;refine⟨(if true&&cv (a+b) then a+b else 0,true&&cv (a+b),()),rfl,?_,rfl⟩;cases cv (a+b)<;>rfl
 ·rw[h];exact⟨rfl,rfl⟩
theorem Yx {a b A B:Int}(hA:A=a/\0<=a\/A=-a/\a<=0)(hB:B=b/\0<=b\/B=-b/\b<=0):(A * B=a * b\/A * B=-(a * b))/\0<=A * B:=by
 have h0:0<=A:=by omega
 have h1:0<=B:=by omega
 refine⟨?_,Int.mul_nonneg h0 h1⟩
 rcases hA with⟨rfl,_⟩ | ⟨rfl,_⟩<;>rcases hB with⟨rfl,_⟩ | ⟨rfl,_⟩
 ·exact .inl rfl
 ·exact .inr (Int.mul_neg _ _)
 ·exact .inr (Int.neg_mul _ _)
 ·exact .inl (Int.neg_mul_neg _ _)
theorem Og (a:Int)(h:cv a=true)(w:World):Ret Tryz.prog 325 #[.int .i64 a] w fun r w'=>∃ A,r=.int .i64 A/\(A=a/\0<=a\/A=-a/\a<=0)/\w=w':=by
 rw[qu] at h;refine c325 a w _ ?_;unfold C325;rw[wI (x:=0 - a) (by omega) (by omega)];refine⟨_,rfl,?_,rfl⟩;split<;>omega
theorem Oh (a b:Int)(w:World):Ret Tryz.prog 307 #[.int .i64 a,.int .i64 b] w fun r w'=>r=.tuple #[.int .i64 (kA a b).1,.bool (kA a b).2]/\w=w':=by
 refine c307 a b w _ ?_;refine bQ.of (fun s w'=>s.1=!((cv a&&cv b)&&cv (a * b))/\w=w') ?_ ?_
 ·refine ab.of (qN a w) ?_
  rintro _ _ ⟨rfl,rfl⟩;refine⟨_,rfl,aa.not (aa.by (fun ha=>?_) (fun ha=>⟨by rw[ha];rfl,rfl⟩))⟩;refine ab.of (qN b w) ?_;rintro _ _ ⟨rfl,rfl⟩;refine⟨_,rfl,aa.not (aa.by (fun hb=>?_) (fun hb=>⟨by rw[ha,hb];rfl,rfl⟩))⟩;refine aa.ne (fun aA=>?_) (fun he=>⟨by rw[ha,hb,he,Int.mul_zero];rfl,rfl⟩);refine ab.of (Og a ha w) ?_;rintro _ _ ⟨A,rfl,hA,rfl⟩;refine⟨A,rfl,?_⟩;refine ab.of (Og b hb w) ?_;rintro _ _ ⟨B,rfl,hB,rfl⟩;refine⟨B,rfl,⟨by omega,?_,rfl⟩⟩;have Yy:0<B:=by omega
  have hd:Int.tdiv 1000000000000 B=1000000000000 / B:=Int.tdiv_eq_ediv_of_nonneg (by decide);have yz:0<=1000000000000 / B:=Int.ediv_nonneg (by decide) (by omega);have Cj:1000000000000 / B<=1000000000000:=Int.ediv_le_self _ (by decide);rw[ha,hb,hd,wI (x:=1000000000000 / B) (by omega) (by omega)];have U:A<=1000000000000 / B↔A * B<=1000000000000:=Int.le_ediv_iff_mul_le Yy;obtain⟨m1,m2⟩:=Yx hA hB;dsimp only;cases hv:cv (a * b) with
  | true=>
   rw[qu] at hv;have:A * B<=1000000000000:=by omega
   rw[decide_eq_false (by have:=U.2 this;omega)];rfl
  | false=>
   have:¬ A * B<=1000000000000:=fun t=>by
    have:cv (a * b)=true:=by rw[qu];omega
    rw[this] at hv;cases hv
   rw[decide_eq_true (by have:=mt U.1 this;omega)];rfl
 rintro _ ⟨s,_⟩ _ ⟨hs,rfl⟩;dsimp only at hs ⊢;subst hs;unfold kA;refine aa.not (aa.by (fun h=>?_) (fun h=>?_))
 ·have h2:=h
  rw[Bool.and_eq_true,qu] at h2;rw[h,wI (x:=a * b) (by omega) (by omega)];refine ab.of (Of (a * b) true w) ?_;rintro _ _ ⟨rfl,rfl⟩;refine⟨(if true&&cv (a * b) then a * b else 0,true&&cv (a * b),()),rfl,?_,rfl⟩;rw[Bool.and_eq_true] at h;rw[h.2];rfl
 ·rw[h];exact⟨rfl,rfl⟩
theorem Yz (a:Int)(w:World):Ret Tryz.prog 357 #[.int .i64 a] w fun r w'=>r=.tuple #[.int .i64 (if cv a then(-a,true) else((0:Int),false)).1,.bool (if cv a then(-a,true) else((0:Int),false)).2]/\w=w':=by
 refine c357 a w _ ?_;refine ab.of (qN a w) ?_;rintro _ _ ⟨rfl,rfl⟩;refine⟨_,rfl,aa.not (aa.by (fun h=>?_) (fun h=>?_))⟩
 ·rw[if_pos h]
  rw[qu] at h;rw[wI (x:=0 - a) (by omega) (by omega),Int.zero_sub];exact⟨rfl,rfl⟩
 ·rw[h];exact⟨rfl,rfl⟩
abbrev Oi:List Ck:=[.int .i64,.bool]
def wV (n:Int×Bool×Int):Value:=.tuple #[.agg #[.int .i64 n.1,.bool n.2.1],.int .i64 n.2.2]
theorem lZ {w wc:World}{g:Nat}{T:TypeId}{a:Int}{b:Bool}(f:Fr none1 w wc)(hg:w.heap.size<=g)(hb:wc.heap[g]? = some (.cells #[.int .i64 a,.bool b] T (0,0)))(n:Int×Bool×Int):
  av ⟨g,0,none⟩ [.int .i64 n.1,.bool n.2.1] wc (fun w2=>az Oi ⟨g,0,none⟩ w2 (fun(x:Int×Bool×Unit)=>(Value.tuple #[.agg #[.int .i64 x.1,.bool x.2.1],.int .i64 n.2.2])=wV n/\Fr none1 w w2)):=
 av.aG (cs:=[.int .i64 a,.bool b]) hb rfl rfl fun w2 aM f2 _=>az.aG (cks:=Oi) (x:=(n.1,n.2.1,())) aM ⟨rfl,f.fresh f2 hg⟩
theorem Oj (n:Int)(ok:Bool)(w:World):Ret Tryz.prog 356 #[.int .i64 n,.bool ok] w fun r w'=>r=wV (ov (n,ok))/\Fr none1 w w':=by
 refine c356 n ok w _ ?_;unfold C356 ov;refine aq.of fun g w1 hg hb f1 _=>aa.not (aa.by (fun h=>?_) (fun h=>?_))
 ·rw[if_pos h];exact lZ f1 (by omega) hb (n,true,0)
 ·rw[if_neg (by simp[h])];exact lZ f1 (by omega) hb (0,false,6)
theorem YA (a b:Int)(w:World):Ret Tryz.prog 355 #[.int .i64 a,.int .i64 b] w fun r w'=>r=.tuple #[.int .i64 (uA a b).1,.bool (uA a b).2]/\w=w':=by
 refine c355 a b w _ ?_;refine⟨?_,rfl⟩;unfold uA;dsimp only
 congr 4
 rw[Int.max_def];split<;>split<;>omega
theorem YB (d:Int)(o:Ob):cL o=true->∀ {w:World} {F:Nat->Prop} {b:Nat} {m:cP},gJ w F b m->Ret Tryz.prog 339 #[o.v,.int .i64 d,.pointer (some ⟨b,0,none⟩)] w fun r w'=>r=wV (dT m d o)/\Fr none1 w w':=by
 have pair:∀ (l r:Ob) (fn:FuncId) (put:Int->Int->Int×Bool),(∀ (a b:Int) (w:World) {K:Int×Bool×Unit->World->Prop},K ((put a b).1,(put a b).2,()) w->j9 Tryz.prog (.func (.func fn) #[] #[]) [.int .i64 a,.int .i64 b] (.aP [.one (.int .i64),.one .bool]) w K) ->
   (∀ {w:World} {F:Nat->Prop} {b:Nat} {m:cP},gJ w F b m->Ret Tryz.prog 339 #[l.v,.int .i64 d,.pointer (some ⟨b,0,none⟩)] w fun r w'=>r=wV (dT m d l)/\Fr none1 w w') ->
   (∀ {w:World} {F:Nat->Prop} {b:Nat} {m:cP},gJ w F b m->Ret Tryz.prog 339 #[r.v,.int .i64 d,.pointer (some ⟨b,0,none⟩)] w fun q w'=>q=wV (dT m d r)/\Fr none1 w w') ->
   ∀ {w:World} {F:Nat->Prop} {b:Nat} {m:cP},gJ w F b m->Ret Tryz.prog 353 #[l.v,r.v,.int .i64 d,.pointer (some ⟨b,0,none⟩),.func (.func fn) #[] #[]] w fun q w'=>q=wV (yF (dT m d l) (dT m d r) put)/\Fr none1 w w':=by
  intro l r fn put YC hl hr w F b m h;refine c353 l.v r.v d _ _ w _ ?_;unfold C353 yF;refine aq.of fun g w1 hg hb f1 _=>?_;refine ab.of (hl (h.af f1)) ?_;rintro _ w2 ⟨rfl,f2⟩;generalize dT m d l=X;refine⟨((X.1,X.2.1,()),X.2.2,()),rfl,?_⟩;refine cB (zs:=[.int .i64 0,.bool false]) (vs:=[.int .i64 X.1,.bool X.2.1]) rfl rfl fun g5 w3 uH dr f3=>?_;have f13:=f2.trans f3;have F3:=f1.trans f13;refine aa.ne (fun aA=>?_) (fun he=>?_)
  ·rw[if_pos aA];exact lZ F3 (by omega) (f13.af hb) (0,false,X.2.2)
  rw[if_neg (fun t=>t he)];refine ab.of (hr (h.af F3)) ?_;rintro _ w4 ⟨rfl,f4⟩;generalize dT m d r=Y;refine⟨((Y.1,Y.2.1,()),Y.2.2,()),rfl,?_⟩;refine cB (zs:=[.int .i64 0,.bool false]) (vs:=[.int .i64 Y.1,.bool Y.2.1]) rfl rfl fun g12 w5 abv wW f5=>?_;have f35:=f4.trans f5;have F5:=F3.trans f35;have ar:=f35.af (f13.af hb);refine aa.ne (fun aA=>?_) (fun oH=>?_)
  ·rw[if_pos (.inl aA)];exact lZ F5 (by omega) ar (0,false,Y.2.2)
  refine ae.ai (f35.af dr) (x:=X.2.1) rfl (aa.not (aa.by (fun hx=>?_) (fun hx=>?_)))
  rotate_left
  ·rw[if_pos (.inr (.inl hx))];exact lZ F5 (by omega) ar (0,false,Y.2.2)
  refine ae.ai wW (x:=Y.2.1) rfl (aa.not (aa.by (fun hy=>?_) (fun hy=>?_)))
  rotate_left
  ·rw[if_pos (.inr (.inr hy))];exact lZ F5 (by omega) ar (0,false,Y.2.2)
  have oH:Y.2.2=0:=oH;have hx:X.2.1=true:=hx;have hy:Y.2.1=true:=hy;rw[if_neg (by rintro(t | t | t)<;>simp_all)]
  refine ae.ai (f35.af dr) (x:=X.1) rfl (ae.ai wW (x:=Y.1) rfl (YC X.1 Y.1 w5 ?_));refine ab.of (Oj _ _ w5) ?_;rintro _ w6 ⟨rfl,f6⟩;refine⟨(((ov (put X.1 Y.1)).1,(ov (put X.1 Y.1)).2.1,()),(ov (put X.1 Y.1)).2.2,()),rfl,?_⟩;exact lZ (F5.trans f6) (by omega) (f6.af ar) (ov (put X.1 Y.1))
 induction o with
 | none=>intro h;cases h
 | const n=>
  intro _ w F b m h;refine c339 _ d _ w _ ?_;unfold C339;refine aq.of fun g w1 hg hb f1 _=>aj.hit (n,()) rfl (cB (zs:=[.int .i64 0]) (vs:=[.int .i64 n]) rfl rfl fun g4 w2 _ aM f2=>ae.ai aM (x:=n) rfl ?_);exact lZ (f1.trans f2) (by omega) (f2.af hb) (n,true,0)
 | fix s=>
  intro _ w F b m h;refine c339 _ d _ w _ ?_;unfold C339;refine aq.of fun g w1 hg hb f1 _=>aj.aL rfl (by decide) (aj.hit (str s,()) rfl (cB (zs:=[.string (⟨#[]⟩:ByteArray)]) (vs:=[.string (str s)]) rfl rfl fun g4 w2 _ aM f2=>ae.ai aM (x:=str s) rfl ?_));refine ab.of (Oa (h.af (f1.trans f2)) s d) ?_;rintro _ _ ⟨rfl,rfl⟩;refine⟨((bd (s,d) m.fx).getD 0,(bd (s,d) m.fx).isSome,()),rfl,?_⟩;have e:dT m d (.fix s)=((bd (s,d) m.fx).getD 0,(bd (s,d) m.fx).isSome,0):=by
   unfold dT;cases bd (s,d) m.fx<;>rfl
  rw[e];exact lZ (f1.trans f2) (by omega) (f2.af hb) ((bd (s,d) m.fx).getD 0,(bd (s,d) m.fx).isSome,0)
 | add l r a b=>
  intro hf w F b' m h;unfold cL at hf;rw[Bool.and_eq_true] at hf;refine c339 _ d _ w _ ?_;unfold C339;refine aq.of fun g w1 hg hb f1 _=>aj.aL rfl (by decide) (aj.aL rfl (by decide) (aj.hit (l.v,r.v,()) rfl (cB (zs:=[.nilIface,.nilIface]) (vs:=[l.v,r.v]) rfl (by simp[Ob.bP]) fun g4 w2 _ aM f2=>ae.ai (c:=.raw) aM (x:=l.v) rfl (ae.ai (c:=.raw) aM (x:=r.v) rfl ?_))));refine ab.of (pair l r _ uz (fun x y w K k=>lC (by kernel_rfl) Tryz.func354 (by kernel_rfl) ((Yw x y w).mono fun v w' ⟨e,e2⟩=>⟨((uz x y).1,(uz x y).2,()),e,e2 ▸ k⟩)) (a hf.1) (b hf.2) (h.af (f1.trans f2))) ?_;rintro _ w3 ⟨rfl,f3⟩;refine⟨(((dT m d (.add l r)).1,(dT m d (.add l r)).2.1,()),(dT m d (.add l r)).2.2,()),rfl,?_⟩;exact lZ ((f1.trans f2).trans f3) (by omega) ((f2.trans f3).af hb) (dT m d (.add l r))
 | mul l r a b=>
  intro hf w F b' m h;unfold cL at hf;rw[Bool.and_eq_true] at hf;refine c339 _ d _ w _ ?_;unfold C339;refine aq.of fun g w1 hg hb f1 _=>aj.aL rfl (by decide) (aj.aL rfl (by decide) (aj.aL rfl (by decide) (aj.hit (l.v,r.v,()) rfl (cB (zs:=[.nilIface,.nilIface]) (vs:=[l.v,r.v]) rfl (by simp[Ob.bP]) fun g4 w2 _ aM f2=>ae.ai (c:=.raw) aM (x:=l.v) rfl (ae.ai (c:=.raw) aM (x:=r.v) rfl ?_)))));refine ab.of (pair l r _ kA (fun x y w K k=>lC (by kernel_rfl) Tryz.func307 (by kernel_rfl) ((Oh x y w).mono fun v w' ⟨e,e2⟩=>⟨((kA x y).1,(kA x y).2,()),e,e2 ▸ k⟩)) (a hf.1) (b hf.2) (h.af (f1.trans f2))) ?_;rintro _ w3 ⟨rfl,f3⟩;refine⟨(((dT m d (.mul l r)).1,(dT m d (.mul l r)).2.1,()),(dT m d (.mul l r)).2.2,()),rfl,?_⟩;exact lZ ((f1.trans f2).trans f3) (by omega) ((f2.trans f3).af hb) (dT m d (.mul l r))
 | max l r a b=>
  intro hf w F b' m h;unfold cL at hf;rw[Bool.and_eq_true] at hf;refine c339 _ d _ w _ ?_;unfold C339;refine aq.of fun g w1 hg hb f1 _=>aj.aL rfl (by decide) (aj.aL rfl (by decide) (aj.aL rfl (by decide) (aj.aL rfl (by decide) (aj.hit (l.v,r.v,()) rfl (cB (zs:=[.nilIface,.nilIface]) (vs:=[l.v,r.v]) rfl (by simp[Ob.bP]) fun g4 w2 _ aM f2=>ae.ai (c:=.raw) aM (x:=l.v) rfl (ae.ai (c:=.raw) aM (x:=r.v) rfl ?_))))));refine ab.of (pair l r _ uA (fun x y w K k=>lC (by kernel_rfl) Tryz.func355 (by kernel_rfl) ((YA x y w).mono fun v w' ⟨e,e2⟩=>⟨((uA x y).1,(uA x y).2,()),e,e2 ▸ k⟩)) (a hf.1) (b hf.2) (h.af (f1.trans f2))) ?_;rintro _ w3 ⟨rfl,f3⟩;refine⟨(((dT m d (.max l r)).1,(dT m d (.max l r)).2.1,()),(dT m d (.max l r)).2.2,()),rfl,?_⟩;exact lZ ((f1.trans f2).trans f3) (by omega) ((f2.trans f3).af hb) (dT m d (.max l r))
 | neg o ih=>
  intro hf w F b' m h;refine c339 _ d _ w _ ?_;unfold C339;refine aq.of fun g w1 hg hb f1 _=>aj.aL rfl (by decide) (aj.aL rfl (by decide) (aj.aL rfl (by decide) (aj.aL rfl (by decide) (aj.aL rfl (by decide) (aj.hit (o.v,()) rfl ?_)))));refine ab.of (ih hf (h.af f1)) ?_;rintro _ w2 ⟨rfl,f2⟩;have e:dT m d (.neg o)=EY (dT m d o):=rfl;rw[e];generalize dT m d o=X;refine⟨((X.1,X.2.1,()),X.2.2,()),rfl,?_⟩;unfold EY;refine cB (zs:=[.int .i64 0,.bool false]) (vs:=[.int .i64 X.1,.bool X.2.1]) rfl rfl fun g5 w3 uH dr f3=>?_;have F3:=(f1.trans f2).trans f3;have ar:=(f2.trans f3).af hb;refine aa.ne (fun aA=>?_) (fun he=>?_)
  ·rw[if_pos (.inl aA)];exact lZ F3 (by omega) ar (0,false,X.2.2)
  refine ae.ai dr (x:=X.2.1) rfl (aa.not (aa.by (fun hx=>?_) (fun hx=>?_)))
  rotate_left
  ·rw[if_pos (.inr hx)];exact lZ F3 (by omega) ar (0,false,X.2.2)
  have he:X.2.2=0:=he;have hx:X.2.1=true:=hx;rw[if_neg (by rintro(t | t)<;>simp_all)]
  refine ae.ai dr (x:=X.1) rfl ?_;refine ab.of (Yz X.1 w3) ?_;rintro _ _ ⟨rfl,rfl⟩;generalize(if cv X.1 then(-X.1,true) else((0:Int),false))=Z;refine⟨(Z.1,Z.2,()),rfl,?_⟩;refine ab.of (Oj Z.1 Z.2 w3) ?_;rintro _ w4 ⟨rfl,f4⟩;refine⟨(((ov Z).1,(ov Z).2.1,()),(ov Z).2.2,()),rfl,?_⟩;exact lZ (F3.trans f4) (by omega) (f4.af ar) (ov Z)
theorem YD (d:Int)(o:Ob)(hn:bo o<=1000000){w:World}{F:Nat->Prop}{b:Nat}{m:cP}(h:gJ w F b m):Ret Tryz.prog 322 #[o.v,.int .i64 d,.pointer (some ⟨b,0,none⟩)] w fun r w'=>r=.tuple #[.int .i64 (eN m d o).1,.bool (eN m d o).2.1,.int .i64 (eN m d o).2.2]/\Fr none1 w w':=by
 refine c322 _ d _ w _ ?_;unfold C322 eN;refine ab.of (Ec o hn w) ?_;rintro _ w1 ⟨rfl,f1⟩;refine⟨_,rfl,aa.ne (fun aA=>?_) (fun he=>?_)⟩
 ·rw[if_pos aA];exact⟨rfl,f1⟩
 rw[if_neg (fun t=>t he)];have hf:cL o=true:=by
  unfold ub at he
  by_cases hf:cL o=false
  ·rw[if_pos hf] at he;cases he
  ·simpa using hf
 refine ab.of (YB d o hf (h.af f1)) ?_;rintro _ w2 ⟨rfl,f2⟩;generalize dT m d o=X;refine⟨((X.1,X.2.1,()),X.2.2,()),rfl,?_⟩;refine cB (zs:=[.int .i64 0,.bool false]) (vs:=[.int .i64 X.1,.bool X.2.1]) rfl rfl fun g5 w3 uH dr f3=>aH.of fun w4 _ f4=>?_;exact ae.ai (f4.af dr) (x:=X.1) rfl (ae.ai (f4.af dr) (x:=X.2.1) rfl ⟨rfl,((f1.trans f2).trans f3).trans f4⟩)
theorem zL {α β:Type}(g:β->α->β)(l:List α)(i:Nat){x:α}(h:l[i]? = some x)(a:β):(l.take (i+1)).foldl g a=g ((l.take i).foldl g a) x:=by
 rw[List.take_add_one,h,List.foldl_append];rfl
theorem YE (o:List (List UInt8))(s:List UInt8):(fW o s).length<=o.length+1:=by unfold fW;split<;>simp
theorem qx:∀ (l o:List (List UInt8)),(l.foldl fW o).length<=o.length+l.length
 | [],o=>by simp
 | s::l,o=>by
  have:=qx l (fW o s);have:=YE o s;rw[List.foldl_cons,List.length_cons];omega
theorem YF (o:Ob)(h:∀ s,o≠.fix s):bY o=(cJ o).foldl (fun a k=>(bY k).foldl fW a) []:=by cases o<;>first | rfl | exact absurd rfl (h _)
theorem G8 (o:Ob):(bY o).length<=bo o:=by
 induction o with
 | none=>exact Nat.le_refl _
 | const=>exact Nat.zero_le _
 | fix=>exact Nat.le_refl _
 | neg o ih=>have:=qx (bY o) [];simp only[bY,bo];simp only[List.length_nil] at this;omega
 | add l r a b=>have:=qx (bY r) ((bY l).foldl fW []);have:=qx (bY l) [];simp only[bY,bo];simp only[List.length_nil] at this;omega
 | mul l r a b=>have:=qx (bY r) ((bY l).foldl fW []);have:=qx (bY l) [];simp only[bY,bo];simp only[List.length_nil] at this;omega
 | max l r a b=>have:=qx (bY r) ((bY l).foldl fW []);have:=qx (bY l) [];simp only[bY,bo];simp only[List.length_nil] at this;omega
theorem YG (o:Ob)(i:Nat):(((cJ o).take i).foldl (fun a k=>(bY k).foldl fW a) []).length<=iR (((cJ o).take i).map bo):=by
 have h:∀ (l:List Ob) (a:List (List UInt8)) (n:Nat),a.length<=n->(l.foldl (fun a k=>(bY k).foldl fW a) a).length<=(l.map bo).foldl (·+·) n:=by
  intro l
  induction l with
  | nil=>intro a n h;exact h
  | cons k l ih=>
   intro a n h;have:=qx (bY k) a;have:=G8 k;refine ih _ _ ?_;show((bY k).foldl fW a).length<=n+bo k;omega
 exact h _ _ _ (Nat.le_refl _)
theorem Ob.YH {o:Ob}(h:∀ s,o≠.fix s){K:ByteArray×Unit->Prop}{M:Prop}(m:M):aj o.v 300 (.agg [.str]) K M:=by
 cases o<;>first | exact aj.nil rfl m | exact absurd rfl (h _) | exact aj.aL rfl (by decide) m
theorem Ol (o:Ob)(hn:bo o<=1000000)(w:World):Ret Tryz.prog 341 #[o.v] w fun r w'=>∃ u:Sl,r=.slice u.1 u.2.1 u.2.2/\gi w' u (bY o)/\Fr none1 w w'/\∀ k,au u k->w.heap.size<=k:=by
 refine c341 o.v w _ ?_;have ih:∀ k∈cJ o,bo k<=1000000->∀ w,Ret Tryz.prog 341 #[k.v] w fun r w'=>∃ u:Sl,r=.slice u.1 u.2.1 u.2.2/\gi w' u (bY k)/\Fr none1 w w'/\∀ k,au u k->w.heap.size<=k:=fun k U hn w=>Ol k hn w
 by_cases h2:∃ s,o=.fix s
 ·obtain⟨s,rfl⟩:=h2
  refine aj.hit (str s,()) rfl (cB (zs:=[.string (⟨#[]⟩:ByteArray)]) (vs:=[.string (str s)]) rfl rfl fun g w2 _ hb f2=>ae.ai hb (x:=str s) rfl ?_);obtain⟨u,w3,hr,hu,cS,f3,uf⟩:=kX (P:=Tryz.prog) (w:=w2) vK (sv s) rfl;exact⟨u,w3,hr,u,rfl,hu,f2.trans f3,fun k U=>by have:=uf k U;have:=f2.size;omega⟩
 have h2:∀ s,o≠.fix s:=fun s e=>h2 ⟨s,e⟩;refine Ob.YH h2 (lO (zs:=[.string (⟨#[]⟩:ByteArray)]) rfl rfl fun w1 f1=>?_);refine ab.of (vM o w1) ?_;rintro _ w2 ⟨u,rfl,hu,f2⟩;refine⟨u,rfl,?_⟩;have cS:=hu.len;have xZ:=AO o;rw[YF o h2];refine bj.of (fun s w'=>∃ i:Nat,s.2.1=i/\i<=(cJ o).length/\gi w' s.1 (((cJ o).take i).foldl (fun a k=>(bY k).foldl fW a) [])/\Fr none1 w w'/\kZ w' u (cJ o)/\(∀ k,au s.1 k->w.heap.size<=k/\¬ au u k)) (fun s _=>(2 - s.2.1).toNat)
  ⟨0,rfl,Nat.zero_le _,yd _,f1.trans f2,hu,fun k t=>(jP k t).elim⟩ ?_
 rintro _ ⟨v,i',_⟩ w3 ⟨i,hi,iz,hv,f3,ke,vf⟩;dsimp only at hi hv vf ⊢;subst hi;refine aa.dec (fun aU=>?_) (fun dh=>?_)
 rotate_left
 ·have:i=(cJ o).length:=by omega
  subst this;rw[List.take_length] at hv;exact⟨v,rfl,hv,f3,fun k U=>(vf k U).1⟩
 have eJ:i<(cJ o).length:=by omega
 obtain⟨k,U⟩:∃ k,(cJ o)[i]? = some k:=⟨_,List.getElem?_eq_getElem eJ⟩;have nx:=List.mem_of_getElem? U;have qQ:iR (((cJ o).take (i+1)).map bo)<=bo o:=by
  have gB:nv o=false:=by cases o<;>first | rfl | (simp[cJ] at eJ)
  have:=JZ o gB;rw[List.map_take];have:=vL ((cJ o).map bo) (i+1);omega
 rw[qP _ _ _ U,ud] at qQ;have hA:=YG o i;have abw:=G8 k;refine ke.ld U ?_;refine ab.of (ih k nx (by omega) w3) ?_;rintro _ w4 ⟨x,rfl,hx,f4,xf⟩;refine⟨x,rfl,?_⟩;have kj:=hx.len;generalize YI:((cJ o).take i).foldl (fun a k=>(bY k).foldl fW a) []=A at hv hA;have ult:∀ b,au u b->b<w3.heap.size:=fun b hb=>aD.lt ke hb;refine bj.of (fun s w'=>∃ j:Nat,s.2.1=j/\j<=(bY k).length/\gi w' s.1 (((bY k).take j).foldl fW A)/\Fr none1 w w'/\kZ w' u (cJ o)/\gi w' x (bY k)/\(∀ b,au s.1 b->w.heap.size<=b/\¬ au u b/\¬ au x b)) (fun s _=>(x.2.1 - s.2.1).toNat)
  ⟨0,rfl,Nat.zero_le _,hv.af f4,f3.trans f4,ke.af f4,hx,fun b hb=>⟨(vf b hb).1,(vf b hb).2,fun t=>by have:=xf b t;have:=aD.lt hv hb;omega⟩⟩ ?_
 rintro _ ⟨v5,j',_⟩ w5 ⟨j,hj,BT,jd,f5,mE,rG,l0⟩;dsimp only at hj jd l0 ⊢;subst hj;have hB:=qx ((bY k).take j) A;rw[List.length_take] at hB;refine aa.dec (fun mX=>?_) (fun YJ=>?_)
 rotate_left
 ·have:j=(bY k).length:=by omega
  subst this;rw[List.take_length] at jd;exact⟨⟨i+1,by rw[wI (by omega) (by omega)];omega,by omega,by rw[zL _ _ _ U,YI];exact jd,f5,mE,fun b hb=>⟨(l0 b hb).1,(l0 b hb).2.1⟩⟩,by rw[wI (by omega) (by omega)];omega⟩
 have jm:j<(bY k).length:=by omega
 obtain⟨s,hs⟩:∃ s,(bY k)[j]? = some s:=⟨_,List.getElem?_eq_getElem jm⟩;refine rG.ld hs ?_;refine ab.of (Ko (aD.rd jd) (by omega) s) ?_;rintro _ _ ⟨rfl,rfl⟩;have G9:=jd.len;refine⟨_,rfl,aa.not (aa.dec (fun hm=>?_) (fun hm=>?_))⟩
 ·refine⟨⟨j+1,by rw[wI (by omega) (by omega)];omega,by omega,?_,f5,mE,rG,l0⟩,by rw[wI (by omega) (by omega)];omega⟩
  rw[zL _ _ _ hs,fW,if_pos hm];exact jd
 ·refine Dz vK 51 jd (sv s) rfl rfl (by rw[G9];omega) fun y w6 hy gM f6 yf=>?_
  have YK:∀ b,w5.heap.size<=b->w.heap.size<=b/\¬ au u b/\¬ au x b:=fun b hb=>⟨by have:=f5.size;omega,fun t=>by have:=aD.lt mE t;omega,fun t=>by have:=aD.lt rG t;omega⟩;refine⟨⟨j+1,by rw[wI (by omega) (by omega)];omega,by omega,?_,f5.comp f6 (fun b _ t=>by have:=(l0 b t).1;omega),aD.ag mE f6 (fun b hb t=>(l0 b t).2.1 hb),aD.ag rG f6 (fun b hb t=>(l0 b t).2.2 hb),fun b hb=>?_⟩,by rw[wI (by omega) (by omega)];omega⟩
  ·rw[zL _ _ _ hs,fW,if_neg hm]
   unfold gi;rw[List.map_append];exact hy
  ·rcases yf b hb with t | t
   ·exact l0 b t
   ·exact YK b t
termination_by SizeOf.sizeOf o
decreasing_by exact AM U
theorem YL (d:Int)(o:Ob)(hn:bo o<=1000000){w:World}{F:Nat->Prop}{b:Nat}{m:cP}(h:gJ w F b m):Ret Tryz.prog 324 #[o.v,.int .i64 d,.pointer (some ⟨b,0,none⟩)] w fun r w'=>∃ u:Sl,r=.slice u.1 u.2.1 u.2.2/\gi w' u (mM m d o)/\Fr none1 w w'/\∀ k,au u k->w.heap.size<=k:=by
 refine c324 o.v d _ w _ ?_;unfold C324 mM;refine ab.of (Ec o hn w) ?_;rintro _ w1 ⟨rfl,f1⟩;refine⟨_,rfl,aa.ne (fun aA=>?_) (fun he=>?_)⟩
 ·rw[if_pos aA];exact⟨(none,0,0),rfl,yd _,f1,fun k t=>(jP k t).elim⟩
 rw[if_neg (fun t=>t he)];refine ab.of (Ol o hn w1) ?_;rintro _ w2 ⟨x,rfl,hx,f2,xf⟩;refine⟨x,rfl,?_⟩;have kj:=hx.len;have hol:=G8 o;refine bj.of (fun s w'=>∃ j:Nat,s.2.1=j/\j<=(bY o).length/\gi w' s.1 (((bY o).take j).filter fun s=>(bd (s,d) m.fx).isNone)/\Fr none1 w w'/\gi w' x (bY o)/\(∀ b,au s.1 b->w.heap.size<=b/\¬ au x b)) (fun s _=>(x.2.1 - s.2.1).toNat)
  ⟨0,rfl,Nat.zero_le _,yd _,f1.trans f2,hx,fun k t=>(jP k t).elim⟩ ?_
 rintro _ ⟨v5,j',_⟩ w5 ⟨j,hj,BT,jd,f5,rG,l0⟩;dsimp only at hj jd l0 ⊢;subst hj;have hB:=List.length_filter_le (fun s=>(bd (s,d) m.fx).isNone) ((bY o).take j);rw[List.length_take] at hB;have G9:=jd.len;refine aa.dec (fun mX=>?_) (fun YJ=>?_)
 rotate_left
 ·have:j=(bY o).length:=by omega
  subst this;rw[List.take_length] at jd;exact⟨v5,rfl,jd,f5,fun b hb=>(l0 b hb).1⟩
 have jm:j<(bY o).length:=by omega
 obtain⟨s,hs⟩:∃ s,(bY o)[j]? = some s:=⟨_,List.getElem?_eq_getElem jm⟩;refine rG.ld hs ?_;refine ab.of (Oa (h.af f5) s d) ?_;rintro _ _ ⟨rfl,rfl⟩;refine⟨((bd (s,d) m.fx).getD 0,(bd (s,d) m.fx).isSome,()),rfl,aa.not (aa.by (fun hm=>?_) (fun hm=>?_))⟩
 ·refine⟨⟨j+1,by rw[wI (by omega) (by omega)];omega,by omega,?_,f5,rG,l0⟩,by rw[wI (by omega) (by omega)];omega⟩
  have hm:(bd (s,d) m.fx).isSome=true:=hm;rw[List.take_add_one,hs,List.filter_append];have:([s].filter fun s=>(bd (s,d) m.fx).isNone)=[]:=by
   cases hg:bd (s,d) m.fx with
   | none=>rw[hg] at hm;cases hm
   | some x=>simp[hg]
  simp only[Option.toList_some,this,List.append_nil];exact jd
 ·have hm:(bd (s,d) m.fx).isSome=false:=hm
  refine Dz vK 51 jd (sv s) rfl rfl (by rw[G9];omega) fun y w6 hy gM f6 yf=>?_;refine⟨⟨j+1,by rw[wI (by omega) (by omega)];omega,by omega,?_,f5.comp f6 (fun b _ t=>by have:=(l0 b t).1;omega),aD.ag rG f6 (fun b hb t=>(l0 b t).2 hb),fun b hb=>?_⟩,by rw[wI (by omega) (by omega)];omega⟩
  ·have:([s].filter fun s=>(bd (s,d) m.fx).isNone)=[s]:=by
    cases hg:bd (s,d) m.fx with
    | none=>simp[hg]
    | some x=>rw[hg] at hm;cases hm
   rw[List.take_add_one,hs,List.filter_append];simp only[Option.toList_some,this];unfold gi;rw[List.map_append];exact hy
  ·rcases yf b hb with t | t
   ·exact l0 b t
   ·exact⟨by have:=f5.size;omega,fun q=>by have:=aD.lt rG q;omega⟩
def C323 (p0:Addr)(p1:Int)(p2:Option Addr)(zM Ha:Nat)(w:World)(K:Value->World->Prop):Prop:=
 bj (Int×Unit) (fun _ s1 w2 gr=>aa (decide (s1.1<(zM:Int)))
 (bK p2 zM s1.1 1 (fun a4=>ae .str a4 w2 (fun(x5:ByteArray)=>aq (.cells #[.bool false,.string (⟨#[]⟩:ByteArray),.string (⟨#[]⟩:ByteArray),.int .i64 0,.int .i64 0] 154) w2 (fun g6 w7=>av (ad g6) [.bool false,.string x5,.string (⟨#[]⟩:ByteArray),.int .i64 p1,.int .i64 0] w7 (fun w8=>aH w8 (fun w9=>ae .ah (p0.add 3) w9 (fun(aS:ao)=>az vy (ad g6) w9 (fun(aZ:nq)=>ab Tryz.prog 340 #[.slice aS.1 aS.2.1 aS.2.2,.agg (mn aZ).toArray] w9 (.v (.one .bool)) (fun(bw:Bool) aW=>aa (!bw)
 (aH aW (fun bu=>bb (fun rH=>aE rH (p0.add 3) (ae .ah (p0.add 3) bu (fun(aT:ao)=>aE rH (ad g6) (az vy (ad g6) bu (fun(aX:nq)=>aw Tryz.prog (Instr.buildSlice 151 1 #[(0,.agg (mn aX).toArray)]) bu (.v (.one .ah)) (fun(bE:ao) bO=>ak rH bu bO (aw Tryz.prog (Builtin.append_ #[151,151] 151 #[.slice aT.1 aT.2.1 aT.2.2,.slice bE.1 bE.2.1 bE.2.2]) bO (.v (.one .ah)) (fun(cm:ao) bq=>ay (p0.add 3) (.slice cm.1 cm.2.1 cm.2.2) bq (fun bA=>gr (IntKind.i64.wrap (s1.1+1),()) bA)))))))))))
 (gr (IntKind.i64.wrap (s1.1+1),()) aW))))))))))
 (K (.tuple #[]) w2))
 (0,()) w
def pl323:aB:=(.seq .auto (.block (.loop [(11,.one (.int .i64))] (.seq .auto (.seq .auto (.seq (.block (.seq .auto (.seq .auto (.seq (.tail 5) (.cond (.held (.soft 0 (.soft 1 (.soft 2 (.soft 3 (.soft 4 (.soft 5 (.pick 6 (.last 7 (.soft 8 (.soft 9 (.last 10 .done)))) .stop)))))))) .auto))))) .auto))))))
theorem c323 (p0:Addr)(p1:Int)(p2:Option Addr)(zM Ha:Nat)(w:World)(K:Value->World->Prop)(h:C323 p0 p1 p2 zM Ha w K):Ret Tryz.prog 323 #[.pointer (some p0),.int .i64 p1,.slice p2 zM Ha] w K:=aC (by kernel_rfl) Tryz.func323 (p:=pl323) (Eq.mpr (by kernel_rfl) h)
def C306 (p0:Addr)(p1:Value)(p2:Int)(w:World)(K:Value->World->Prop):Prop:=
 ae .ptr (p0.add 1) w (fun(x1:Option Addr)=>ab Tryz.prog 322 #[p1,.int .i64 p2,.pointer x1] w (.aP [.one (.int .i64),.one .bool,.one (.int .i64)]) (fun(x2:Int×Bool×Int×Unit) w3=>aa (x2.2.2.1==0)
 (aa (!x2.2.1)
 (ae .ptr (p0.add 1) w3 (fun(x4:Option Addr)=>ab Tryz.prog 324 #[p1,.int .i64 p2,.pointer x4] w3 (.v (.one .ah)) (fun(x5:ao) w6=>ab Tryz.prog 323 #[.pointer (some p0),.int .i64 p2,.slice x5.1 x5.2.1 x5.2.2] w6 (.aP []) (fun(x7:Unit) w8=>K (.tuple #[.int .i64 x2.1,.bool x2.2.1,.int .i64 x2.2.2.1]) w8))))
 (K (.tuple #[.int .i64 x2.1,.bool x2.2.1,.int .i64 x2.2.2.1]) w3))
 (K (.tuple #[.int .i64 x2.1,.bool x2.2.1,.int .i64 x2.2.2.1]) w3)))
def pl306:aB:=.auto
theorem c306 (p0:Addr)(p1:Value)(p2:Int)(w:World)(K:Value->World->Prop)(h:C306 p0 p1 p2 w K):Ret Tryz.prog 306 #[.pointer (some p0),p1,.int .i64 p2] w K:=aC (by kernel_rfl) Tryz.func306 (p:=pl306) (Eq.mpr (by kernel_rfl) h)
def C282 (p0:Addr)(p1:Value)(p2:Value)(p3:Int)(p4:Int)(w:World)(K:Value->World->Prop):Prop:=
 ab Tryz.prog 258 #[.pointer (some p0),p1,.int .i64 p3,.int .i64 p4] w (.v (.one (.int .i64))) (fun(x1:Int) w2=>aa (x1 != 0)
 (K (.int .i64 x1) w2)
 (ab Tryz.prog 258 #[.pointer (some p0),p2,.int .i64 p3,.int .i64 p4] w2 (.v (.one (.int .i64))) (fun(x3:Int) w4=>K (.int .i64 x3) w4)))
def pl282:aB:=.auto
theorem c282 (p0:Addr)(p1:Value)(p2:Value)(p3:Int)(p4:Int)(w:World)(K:Value->World->Prop)(h:C282 p0 p1 p2 p3 p4 w K):Ret Tryz.prog 282 #[.pointer (some p0),p1,p2,.int .i64 p3,.int .i64 p4] w K:=aC (by kernel_rfl) Tryz.func282 (p:=pl282) (Eq.mpr (by kernel_rfl) h)
def C283 (p0:Addr)(p1:Value×Value×Unit)(p2:Int)(p3:Int)(w:World)(K:Value->World->Prop):Prop:=
 aq (.cells #[p1.1,p1.2.1] 245) w (fun g1 w2=>ae .raw ((ad g1).add 0) w2 (fun(x3:Value)=>ab Tryz.prog 306 #[.pointer (some p0),x3,.int .i64 p2] w2 (.aP [.one (.int .i64),.one .bool,.one (.int .i64)]) (fun(x4:Int×Bool×Int×Unit) w5=>aa (x4.2.2.1 != 0)
 (K (.int .i64 x4.2.2.1) w5)
 (aa (!x4.2.1)
 (K (.int .i64 x4.2.2.1) w5)
 (ab Tryz.prog 307 #[.int .i64 p3,.int .i64 x4.1] w5 (.aP [.one (.int .i64),.one .bool]) (fun(x6:Int×Bool×Unit) w7=>aa (!x6.2.1)
 (K (.int .i64 6) w7)
 (aa (x6.1==0)
 (K (.int .i64 0) w7)
 (ae .raw ((ad g1).add 1) w7 (fun(x8:Value)=>ab Tryz.prog 258 #[.pointer (some p0),x8,.int .i64 p2,.int .i64 x6.1] w7 (.v (.one (.int .i64))) (fun(x9:Int) aK=>K (.int .i64 x9) aK))))))))))
def pl283:aB:=.auto
theorem c283 (p0:Addr)(p1:Value×Value×Unit)(p2:Int)(p3:Int)(w:World)(K:Value->World->Prop)(h:C283 p0 p1 p2 p3 w K):Ret Tryz.prog 283 #[.pointer (some p0),.agg #[p1.1,p1.2.1],.int .i64 p2,.int .i64 p3] w K:=aC (by kernel_rfl) Tryz.func283 (p:=pl283) (Eq.mpr (by kernel_rfl) h)
def C284 (p0:Addr)(p1:Value×Value×Value×Unit)(p2:Int)(p3:Int)(w:World)(K:Value->World->Prop):Prop:=
 aq (.cells #[p1.1,p1.2.1,p1.2.2.1] 249) w (fun g1 w2=>ae .raw ((ad g1).add 0) w2 (fun(x3:Value)=>ab Tryz.prog 306 #[.pointer (some p0),x3,.int .i64 p2] w2 (.aP [.one (.int .i64),.one .bool,.one (.int .i64)]) (fun(x4:Int×Bool×Int×Unit) w5=>aa (x4.2.2.1 != 0)
 (K (.int .i64 x4.2.2.1) w5)
 (aa (!x4.2.1)
 (K (.int .i64 x4.2.2.1) w5)
 (aa (decide (x4.1 > 0))
 (ae .raw ((ad g1).add 1) w5 (fun(x6:Value)=>ab Tryz.prog 258 #[.pointer (some p0),x6,.int .i64 p2,.int .i64 p3] w5 (.v (.one (.int .i64))) (fun(x7:Int) w8=>K (.int .i64 x7) w8)))
 (ae .raw ((ad g1).add 2) w5 (fun(x9:Value)=>ab Tryz.prog 258 #[.pointer (some p0),x9,.int .i64 p2,.int .i64 p3] w5 (.v (.one (.int .i64))) (fun(aS:Int) aR=>K (.int .i64 aS) aR))))))))
def pl284:aB:=.auto
theorem c284 (p0:Addr)(p1:Value×Value×Value×Unit)(p2:Int)(p3:Int)(w:World)(K:Value->World->Prop)(h:C284 p0 p1 p2 p3 w K):Ret Tryz.prog 284 #[.pointer (some p0),.agg #[p1.1,p1.2.1,p1.2.2.1],.int .i64 p2,.int .i64 p3] w K:=aC (by kernel_rfl) Tryz.func284 (p:=pl284) (Eq.mpr (by kernel_rfl) h)
def C285 (p0:Addr)(p1:ByteArray×Value×Value×Unit)(p2:Int)(p3:Int)(w:World)(K:Value->World->Prop):Prop:=
 aq (.cells #[.string p1.1,p1.2.1,p1.2.2.1] 241) w (fun g1 w2=>aH w2 (fun w3=>bb (fun S4=>aE S4 (p0.add 1) (ae .ptr (p0.add 1) w3 (fun(x5:Option Addr)=>aE S4 (p0.add 0) (ae .str (p0.add 0) w3 (fun(x6:ByteArray)=>aE S4 ((ad g1).add 0) (ae .str ((ad g1).add 0) w3 (fun(x7:ByteArray)=>ab Tryz.prog 308 #[.pointer x5,.string x6,.string x7] w3 (.aP [.one (.int .i64),.one (.int .i64),.one .bool]) (fun(x8:Int×Int×Bool×Unit) w9=>bQ (Bool×Unit) (fun qy=>aa (!x8.2.2.1)
 (qy (decide (p3 > 0),()) w9)
 (qy (false,()) w9))
 (fun _ rI aO=>aa rI.1
 (aH aO (fun aW=>bb (fun sY=>aE sY (p0.add 3) (ae .ah (p0.add 3) aW (fun(bm:ao)=>aE sY ((ad g1).add 0) (ae .str ((ad g1).add 0) aW (fun(aT:ByteArray)=>aw Tryz.prog (Instr.buildSlice 151 1 #[(0,.agg #[.bool true,.string (⟨#[]⟩:ByteArray),.string aT,.int .i64 p2,.int .i64 0])]) aW (.v (.one .ah)) (fun(aX:ao) bx=>ak sY aW bx (aw Tryz.prog (Builtin.append_ #[151,151] 151 #[.slice bm.1 bm.2.1 bm.2.2,.slice aX.1 aX.2.1 aX.2.2]) bx (.v (.one .ah)) (fun(bt:ao) bz=>ay (p0.add 3) (.slice bt.1 bt.2.1 bt.2.2) bz (fun bq=>K (.int .i64 0) bq)))))))))))
 (aa (!x8.2.2.1)
 (aH aO (fun bA=>bb (fun Hb=>aE Hb (p0.add 3) (ae .ah (p0.add 3) bA (fun(cN:ao)=>aE Hb ((ad g1).add 0) (ae .str ((ad g1).add 0) bA (fun(bG:ByteArray)=>aw Tryz.prog (Instr.buildSlice 151 1 #[(0,.agg #[.bool true,.string (⟨#[]⟩:ByteArray),.string bG,.int .i64 p2,.int .i64 1])]) bA (.v (.one .ah)) (fun(dk:ao) eM=>ak Hb bA eM (aw Tryz.prog (Builtin.append_ #[151,151] 151 #[.slice cN.1 cN.2.1 cN.2.2,.slice dk.1 dk.2.1 dk.2.2]) eM (.v (.one .ah)) (fun(eX:ao) eg=>ay (p0.add 3) (.slice eX.1 eX.2.1 eX.2.2) eg (fun cn=>K (.int .i64 0) cn)))))))))))
 (aa (x8.1==0)
 (ae .raw ((ad g1).add 1) aO (fun(bX:Value)=>ab Tryz.prog 258 #[.pointer (some p0),bX,.int .i64 (if x8.2.1 > p2 then x8.2.1 else p2),.int .i64 p3] aO (.v (.one (.int .i64))) (fun(dS:Int) dy=>K (.int .i64 dS) dy)))
 (ae .raw ((ad g1).add 2) aO (fun(ez:Value)=>ab Tryz.prog 258 #[.pointer (some p0),ez,.int .i64 (if x8.2.1 > p2 then x8.2.1 else p2),.int .i64 p3] aO (.v (.one (.int .i64))) (fun(de:Int) cW=>K (.int .i64 de) cW))))))))))))))))
def pl285:aB:=(.seq .auto (.seq (.held (.soft 0 (.soft 1 (.soft 2 (.soft 3 (.soft 4 (.soft 5 (.soft 6 (.soft 7 (.soft 8 (.soft 9 (.last 10 (.soft 11 (.soft 12 (.soft 13 (.soft 14 (.soft 15 (.soft 16 (.soft 17 .done))))))))))))))))))) (.seq (.block (.join [(27,.one .bool)] .auto (.cond (.seq (.held (.soft 0 (.soft 1 (.soft 2 (.soft 3 (.soft 4 (.soft 5 (.soft 6 (.soft 7 (.soft 8 (.pick 9 (.last 10 (.soft 11 (.soft 12 (.last 13 .done)))) .stop))))))))))) .auto) (.seq .auto (.cond (.seq (.held (.soft 0 (.soft 1 (.soft 2 (.soft 3 (.soft 4 (.soft 5 (.soft 6 (.soft 7 (.soft 8 (.pick 9 (.last 10 (.soft 11 (.soft 12 (.last 13 .done)))) .stop))))))))))) .auto) .auto))))) .auto)))
theorem c285 (p0:Addr)(p1:ByteArray×Value×Value×Unit)(p2:Int)(p3:Int)(w:World)(K:Value->World->Prop)(h:C285 p0 p1 p2 p3 w K):Ret Tryz.prog 285 #[.pointer (some p0),.agg #[.string p1.1,p1.2.1,p1.2.2.1],.int .i64 p2,.int .i64 p3] w K:=aC (by kernel_rfl) Tryz.func285 (p:=pl285) (Eq.mpr (by kernel_rfl) h)
def C258 (p0:Addr)(p1:Value)(p2:Int)(p3:Int)(w:World)(K:Value->World->Prop):Prop:=
 aj p1 216 (.agg [.str]) (fun(x1:ByteArray×Unit)=>aq (.cells #[.string (⟨#[]⟩:ByteArray)] 216) w (fun g2 w3=>av (ad g2) [.string x1.1] w3 (fun w4=>aH w4 (fun w5=>bb (fun S6=>aE S6 (p0.add 2) (ae .ah (p0.add 2) w5 (fun(x7:ao)=>aE S6 ((ad g2).add 0) (ae .str ((ad g2).add 0) w5 (fun(x8:ByteArray)=>aw Tryz.prog (Instr.buildSlice 163 1 #[(0,.agg #[.int .i64 p2,.string x8,.int .i64 p3])]) w5 (.v (.one .ah)) (fun(x9:ao) aK=>ak S6 w5 aK (aw Tryz.prog (Builtin.append_ #[163,163] 163 #[.slice x7.1 x7.2.1 x7.2.2,.slice x9.1 x9.2.1 x9.2.2]) aK (.v (.one .ah)) (fun(aZ:ao) aO=>ay (p0.add 2) (.slice aZ.1 aZ.2.1 aZ.2.2) aO (fun aW=>K (.int .i64 0) aW)))))))))))))
 (aj p1 237 (.agg [.raw]) (fun(bn:Value×Unit)=>aq (.cells #[.nilIface] 237) w (fun g15 br=>av (ad g15) [bn.1] br (fun cD=>ae .raw ((ad g15).add 0) cD (fun(bE:Value)=>ab Tryz.prog 258 #[.pointer (some p0),bE,.int .i64 p2,.int .i64 (IntKind.i64.wrap (0 - p3))] cD (.v (.one (.int .i64))) (fun(bt:Int) bz=>K (.int .i64 bt) bz)))))
 (aj p1 239 (.agg [.raw,.raw]) (fun(b9:Value×Value×Unit)=>aq (.cells #[.nilIface,.nilIface] 239) w (fun g22 dW=>av (ad g22) [b9.1,b9.2.1] dW (fun bU=>ae .raw ((ad g22).add 0) bU (fun(bG:Value)=>ae .raw ((ad g22).add 1) bU (fun(dk:Value)=>ab Tryz.prog 282 #[.pointer (some p0),bG,dk,.int .i64 p2,.int .i64 p3] bU (.v (.one (.int .i64))) (fun(cE:Int) bV=>K (.int .i64 cE) bV))))))
 (aj p1 247 (.agg [.int .i64,.raw]) (fun(cH:Int×Value×Unit)=>aq (.cells #[.int .i64 0,.nilIface] 247) w (fun qR eK=>av (ad qR) [.int .i64 cH.1,cH.2.1] eK (fun cZ=>ae .raw ((ad qR).add 1) cZ (fun(dH:Value)=>ae (.int .i64) ((ad qR).add 0) cZ (fun(ez:Int)=>ab Tryz.prog 258 #[.pointer (some p0),dH,.int .i64 (if ez > p2 then ez else p2),.int .i64 p3] cZ (.v (.one (.int .i64))) (fun(de:Int) cW=>K (.int .i64 de) cW))))))
 (aj p1 245 (.agg [.raw,.raw]) (fun(ij:Value×Value×Unit)=>aq (.cells #[.nilIface,.nilIface] 245) w (fun Om gg=>av (ad Om) [ij.1,ij.2.1] gg (fun ef=>az [.raw,.raw] (ad Om) ef (fun(fN:Value×Value×Unit)=>ab Tryz.prog 283 #[.pointer (some p0),.agg #[fN.1,fN.2.1],.int .i64 p2,.int .i64 p3] ef (.v (.one (.int .i64))) (fun(jD:Int) k8=>K (.int .i64 jD) k8)))))
 (aj p1 249 (.agg [.raw,.raw,.raw]) (fun(kn:Value×Value×Value×Unit)=>aq (.cells #[.nilIface,.nilIface,.nilIface] 249) w (fun sx gN=>av (ad sx) [kn.1,kn.2.1,kn.2.2.1] gN (fun kx=>az [.raw,.raw,.raw] (ad sx) kx (fun(la:Value×Value×Value×Unit)=>ab Tryz.prog 284 #[.pointer (some p0),.agg #[la.1,la.2.1,la.2.2.1],.int .i64 p2,.int .i64 p3] kx (.v (.one (.int .i64))) (fun(fR:Int) mR=>K (.int .i64 fR) mR)))))
 (aj p1 241 (.agg [.str,.raw,.raw]) (fun(ko:ByteArray×Value×Value×Unit)=>aq (.cells #[.string (⟨#[]⟩:ByteArray),.nilIface,.nilIface] 241) w (fun wU pg=>av (ad wU) [.string ko.1,ko.2.1,ko.2.2.1] pg (fun jV=>az [.str,.raw,.raw] (ad wU) jV (fun(sZ:ByteArray×Value×Value×Unit)=>ab Tryz.prog 285 #[.pointer (some p0),.agg #[.string sZ.1,sZ.2.1,sZ.2.2.1],.int .i64 p2,.int .i64 p3] jV (.v (.one (.int .i64))) (fun(my:Int) nz=>K (.int .i64 my) nz)))))
 (K (.int .i64 0) w)))))))
def pl258:aB:=(.seq .auto (.seq (.seq .auto (.block (.seq .auto (.cond (.seq .auto (.held (.soft 0 (.soft 1 (.soft 2 (.soft 3 (.soft 4 (.soft 5 (.soft 6 (.soft 7 (.soft 8 (.soft 9 (.pick 10 (.last 11 (.soft 12 (.soft 13 (.last 14 .done)))) .stop))))))))))))) .auto)))) .auto))
theorem c258 (p0:Addr)(p1:Value)(p2:Int)(p3:Int)(w:World)(K:Value->World->Prop)(h:C258 p0 p1 p2 p3 w K):Ret Tryz.prog 258 #[.pointer (some p0),p1,.int .i64 p2,.int .i64 p3] w K:=aC (by kernel_rfl) Tryz.func258 (p:=pl258) (Eq.mpr (by kernel_rfl) h)
def C233 (p0:ByteArray)(p1:Value)(p2:Int)(p3:Addr)(w:World)(K:Value->World->Prop):Prop:=
 ab Tryz.prog 170 #[p1] w (.v (.one (.int .i64))) (fun(x1:Int) w2=>aa (x1 != 0)
 (K (.tuple #[.slice none 0 0,.slice none 0 0,.int .i64 1]) w2)
 (aa (decide (p2<0))
 (K (.tuple #[.slice none 0 0,.slice none 0 0,.int .i64 1]) w2)
 (aa (decide (p2 > 10000))
 (K (.tuple #[.slice none 0 0,.slice none 0 0,.int .i64 1]) w2)
 (aq (.cells #[.string p0,.pointer (some p3),.slice none 0 0,.slice none 0 0] 413) w2 (fun g3 w4=>ab Tryz.prog 258 #[.pointer (some (ad g3)),p1,.int .i64 p2,.int .i64 1] w4 (.v (.one (.int .i64))) (fun(x5:Int) w6=>aa (x5 != 0)
 (K (.tuple #[.slice none 0 0,.slice none 0 0,.int .i64 x5]) w6)
 (aH w6 (fun w7=>ae .ah ((ad g3).add 2) w7 (fun(x8:ao)=>ae .ah ((ad g3).add 3) w7 (fun(x9:ao)=>K (.tuple #[.slice x8.1 x8.2.1 x8.2.2,.slice x9.1 x9.2.1 x9.2.2,.int .i64 0]) w7))))))))))
def pl233:aB:=(.seq .auto (.seq .auto (.seq .auto (.seq .auto (.seq .still .auto)))))
theorem c233 (p0:ByteArray)(p1:Value)(p2:Int)(p3:Addr)(w:World)(K:Value->World->Prop)(h:C233 p0 p1 p2 p3 w K):Ret Tryz.prog 233 #[.string p0,p1,.int .i64 p2,.pointer (some p3)] w K:=aC (by kernel_rfl) Tryz.func233 (p:=pl233) (Eq.mpr (by kernel_rfl) h)
def C340 (p0:Option Addr)(aI aN:Nat)(p1:nq)(w:World)(K:Value->World->Prop):Prop:=
 aq (.cells ((mn p1).toArray) 154) w (fun g1 w2=>az vy (ad g1) w2 (fun(x3:nq)=>ab Tryz.prog 358 #[.slice p0 aI aN,.agg (mn x3).toArray] w2 (.v (.one (.int .i64))) (fun(x4:Int) w5=>K (.bool (decide (x4 >= 0))) w5)))
def pl340:aB:=.auto
theorem c340 (p0:Option Addr)(aI aN:Nat)(p1:nq)(w:World)(K:Value->World->Prop)(h:C340 p0 aI aN p1 w K):Ret Tryz.prog 340 #[.slice p0 aI aN,.agg (mn p1).toArray] w K:=aC (by kernel_rfl) Tryz.func340 (p:=pl340) (Eq.mpr (by kernel_rfl) h)
def C358 (p0:Option Addr)(aI aN:Nat)(p1:nq)(w:World)(K:Value->World->Prop):Prop:=
 aq (.cells ((mn p1).toArray) 154) w (fun g1 w2=>bj (Int×Unit) (fun _ s3 w4 kg=>aa (decide (s3.1<(aI:Int)))
 (aH w4 (fun w6=>az vy (ad g1) w6 (fun(x7:nq)=>bK p0 aI s3.1 5 (fun a8=>az vy a8 w6 (fun(x9:nq)=>aw Tryz.prog (do eqGuard .eql 154 (.tmp 11) (.tmp 15) (.agg (mn x7).toArray) (.agg (mn x9).toArray);binOp .eql 154 (.agg (mn x7).toArray) (.agg (mn x9).toArray)) w6 (.v (.one .bool)) (fun(aS:Bool) aR=>aa aS
 (K (.int .i64 s3.1) aR)
 (kg (IntKind.i64.wrap (s3.1+1),()) aR)))))))
 (K (.int .i64 (-1)) w4))
 (0,()) w2)
def pl358:aB:=(.seq .auto (.seq (.seq .auto (.block (.loop [(8,.one (.int .i64))] (.seq .auto (.seq .auto (.seq (.block (.seq .auto (.seq (.tail 5) .auto))) .auto)))))) .auto))
theorem c358 (p0:Option Addr)(aI aN:Nat)(p1:nq)(w:World)(K:Value->World->Prop)(h:C358 p0 aI aN p1 w K):Ret Tryz.prog 358 #[.slice p0 aI aN,.agg (mn p1).toArray] w K:=aC (by kernel_rfl) Tryz.func358 (p:=pl358) (Eq.mpr (by kernel_rfl) h)
end Go.Proofs.YtmkehncgjnhhcaaGreatDoor
