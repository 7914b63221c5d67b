/-
  Texts of this claim, put together: Vc, VcSound, VcMem, VcSlice, BytesSpec, CTypes, CKeep, SameB, U64, CPackN, PackNum, VcMap, VcMapS, Utf, CRunes, NameSpec.
  Conditions: those of each theorem.
-/
import Derived.Below
import Derived.Deep.Draws
import Derived.IntWalk
import Derived.KernelRfl
import Derived.Laws.Cover4
import Derived.Laws.Runes
import Derived.Laws.StructEq
import Derived.Laws.Tables
import Derived.Maps.RangeRun
import Derived.StillTail
import Derived.Test.YtmkehncgjnhhcaaGreatDoorProg
namespace Go.Proofs.YtmkehncgjnhhcaaGreatDoor
namespace Vc
inductive Ck where
 | int (k:IntKind) | bool | str | ptr | aj | map | raw
 deriving Inhabited
@[reducible] def Ck.C:Ck->Type
 | .int _=>Int | .bool=>Bool | .str=>ByteArray | .ptr=>Option Addr | .aj=>Option Addr×Nat×Nat | .map=>Option Nat | .raw=>Value
def Ck.val:(c:Ck)->c.C->Value
 | .int k,n=>.int k n
 | .bool,b=>.bool b
 | .str,s=>.string s
 | .ptr,p=>.pointer p
 | .aj,x=>.slice x.1 x.2.1 x.2.2
 | .map,r=>.map r
 | .raw,v=>v
@[reducible] def Cs:List Ck->Type
 | []=>Unit
 | c::cs=>c.C×Cs cs
def Cs.vals:(cs:List Ck)->Cs cs->List Value
 | [],_=>[]
 | c::cs,x=>c.val x.1::Cs.vals cs x.2
inductive Kd where
 | one (c:Ck) | agg (cs:List Ck) | arr
 deriving Inhabited
@[reducible] def Kd.C:Kd->Type
 | .one c=>c.C | .agg cs=>Cs cs | .arr=>List Value
def Kd.val:(k:Kd)->k.C->Value
 | .one c,x=>c.val x
 | .agg cs,x=>.agg (Cs.vals cs x).toArray
 | .arr,x=>.agg x.toArray
@[reducible] def St:List Kd->Type
 | []=>Unit
 | k::ks=>k.C×St ks
def St.vals:(ks:List Kd)->St ks->List Value
 | [],_=>[]
 | k::ks,x=>k.val x.1::St.vals ks x.2
inductive Rk where
 | v (k:Kd) | aN (ks:List Kd)
@[reducible] def Rk.C:Rk->Type
 | .v k=>k.C | .aN ks=>St ks
def Rk.val:(r:Rk)->r.C->Value
 | .v k,x=>k.val x
 | .aN ks,x=>.tuple (St.vals ks x).toArray
def Ck.ex:(c:Ck)->Value->(c.C->Prop)->Prop
 | .int k,v,K=>match v with | .int k' n=>(match decide (k'=k) with | true=>K n | false=>False) | _=>False
 | .bool,v,K=>match v with | .bool b=>K b | _=>False
 | .str,v,K=>match v with | .string s=>K s | _=>False
 | .ptr,v,K=>match v with | .pointer p=>K p | _=>False
 | .aj,v,K=>match v with | .slice p l c=>K (p,l,c) | _=>False
 | .map,v,K=>match v with | .map r=>K r | _=>False
 | .raw,v,K=>K v
theorem Ck.kF {c:Ck}{v:Value}{K:c.C->Prop}(h:c.ex v K):∃ x,v=c.val x/\K x:=by
 cases c<;>simp only[Ck.ex] at h
 case int k=>
  cases v<;>simp only at h
  rename_i k' n
  by_cases e:k'=k
  ·simp only[e,decide_true] at h;exact⟨n,by rw[e];rfl,h⟩
  ·simp[e] at h
 case raw=>exact⟨v,rfl,h⟩
 all_goals (cases v<;>simp only at h;exact⟨_,rfl,h⟩)
def Cs.ex:(cs:List Ck)->List Value->(Cs cs->Prop)->Prop
 | [],l,K=>match l with | []=>K () | _::_=>False
 | c::cs,l,K=>match l with | []=>False | v::l=>c.ex v fun x=>Cs.ex cs l fun y=>K (x,y)
theorem Cs.kF:∀ {cs:List Ck} {l:List Value} {K:Cs cs->Prop},Cs.ex cs l K->∃ x,l=Cs.vals cs x/\K x
 | [],l,K,h=>by
  cases l with
  | nil=>exact⟨(),rfl,h⟩
  | cons a l=>exact h.elim
 | c::cs,l,K,h=>by
  cases l with
  | nil=>exact h.elim
  | cons v l=>
   obtain⟨x,rfl,h1⟩:=Ck.kF (c:=c) (v:=v) (K:=fun x=>Cs.ex cs l fun y=>K (x,y)) h;obtain⟨y,rfl,h2⟩:=Cs.kF h1;exact⟨(x,y),rfl,h2⟩
def Kd.ex:(k:Kd)->Value->(k.C->Prop)->Prop
 | .one c,v,K=>c.ex v K
 | .agg cs,v,K=>match v with | .agg a=>Cs.ex cs a.toList K | _=>False
 | .arr,v,K=>match v with | .agg a=>K a.toList | _=>False
theorem Kd.kF {k:Kd}{v:Value}{K:k.C->Prop}(h:k.ex v K):∃ x,v=k.val x/\K x:=by
 cases k<;>simp only[Kd.ex] at h
 case one c=>exact Ck.kF h
 case agg cs=>
  cases v<;>simp only at h
  rename_i a;obtain⟨x,hx,h⟩:=Cs.kF h;exact⟨x,by simp only[Kd.val,<- hx],h⟩
 case arr=>
  cases v<;>simp only at h
  rename_i a;exact⟨a.toList,by simp only[Kd.val],h⟩
def St.ex:(ks:List Kd)->List Value->(St ks->Prop)->Prop
 | [],l,K=>match l with | []=>K () | _::_=>False
 | k::ks,l,K=>match l with | []=>False | v::l=>k.ex v fun x=>St.ex ks l fun y=>K (x,y)
theorem St.kF:∀ {ks:List Kd} {l:List Value} {K:St ks->Prop},St.ex ks l K->∃ x,l=St.vals ks x/\K x
 | [],l,K,h=>by
  cases l with
  | nil=>exact⟨(),rfl,h⟩
  | cons a l=>exact h.elim
 | k::ks,l,K,h=>by
  cases l with
  | nil=>exact h.elim
  | cons v l=>
   obtain⟨x,rfl,h1⟩:=Kd.kF (k:=k) (v:=v) (K:=fun x=>St.ex ks l fun y=>K (x,y)) h;obtain⟨y,rfl,h2⟩:=St.kF h1;exact⟨(x,y),rfl,h2⟩
def Rk.ex:(r:Rk)->Value->(r.C->Prop)->Prop
 | .v k,y,K=>k.ex y K
 | .aN ks,y,K=>match y with | .tuple a=>St.ex ks a.toList K | _=>False
theorem Rk.kF {r:Rk}{y:Value}{K:r.C->Prop}(h:r.ex y K):∃ x,y=r.val x/\K x:=by
 cases r<;>simp only[Rk.ex] at h
 case v k=>exact Kd.kF h
 case aN ks=>
  cases y<;>simp only at h
  rename_i a;obtain⟨x,hx,h⟩:=St.kF h;exact⟨x,by simp only[Rk.val,<- hx],h⟩
theorem Ck.nL {c:Ck}{x:c.C}{K:c.C->Prop}(h:K x):c.ex (c.val x) K:=by
 cases c<;>simp only[Ck.ex,Ck.val,decide_true]<;>exact h
theorem Cs.nL:∀ {cs:List Ck} {x:Cs cs} {K:Cs cs->Prop},K x->Cs.ex cs (Cs.vals cs x) K
 | [],_,_,h=>h
 | c::_,_,_,h=>Ck.nL (c:=c) (Cs.nL h)
theorem Kd.nL {k:Kd}{x:k.C}{K:k.C->Prop}(h:K x):k.ex (k.val x) K:=by
 cases k
 case one c=>exact Ck.nL h
 case agg cs=>exact Cs.nL h
 case arr=>exact h
theorem St.nL:∀ {ks:List Kd} {x:St ks} {K:St ks->Prop},K x->St.ex ks (St.vals ks x) K
 | [],_,_,h=>h
 | k::_,_,_,h=>Kd.nL (k:=k) (St.nL h)
theorem Rk.nL {r:Rk}{x:r.C}{K:r.C->Prop}(h:K x):r.ex (r.val x) K:=by
 cases r
 case v k=>exact Kd.nL h
 case aN ks=>exact St.nL h
def vT:Value->Ck
 | .int k _=>.int k | .bool _=>.bool | .string _=>.str | .pointer _=>.ptr | .slice ..=>.aj | .map _=>.map | _=>.raw
def lY (P:Program)(t:TypeId):Kd:=
 match P.info? t with
 | some i=>match i.zero with
  | some (.agg cs)=>match P.underlying t with
   | some (.array ..)=>.arr
   | _=>.agg (cs.toList.map vT)
  | some v=>.one (vT v)
  | none=>.one .raw
 | none=>.one .raw
def DN (P:Program):List TypeId->Rk
 | [t]=>.v (lY P t)
 | ts=>.aN (ts.map (lY P))
structure Env where
 l:List (Nat×Value)
 base:Nat->Value
def look:List (Nat×Value)->Nat->Option Value
 | [],_=>none
 | (u,v)::l,t=>match Nat.beq u t with | true=>some v | false=>look l t
def Env.get (e:Env)(t:Nat):Value:=match look e.l t with | some v=>v | none=>e.base t
def Env.put (e:Env)(dst:Option Nat)(v:Value):Env:=match dst with | some d=>⟨(d,v)::e.l,e.base⟩ | none=>e
def Env.eval (e:Env):Operand->Value
 | .tmp t=>e.get t
 | .const v=>v
 | .global g=>.pointer (some ⟨g,0,none⟩)
 | .func f=>.func (.func f) #[] #[]
theorem vU (u:Nat)(v:Value)(l:List (Nat×Value))(t:Nat):look ((u,v)::l) t=if t=u then some v else look l t:=by
 by_cases h:t=u
 ·subst h;simp[look]
 ·rw[if_neg h]
  have hb:Nat.beq u t=false:=by
   cases hb:Nat.beq u t with
   | false=>rfl
   | true=>exact absurd (Nat.eq_of_beq_eq_true hb).symm h
  simp[look,hb]
theorem Env.A5 (e:Env)(d:Nat)(v:Value)(t:Nat):(e.put (some d) v).get t=if t=d then v else e.get t:=by
 simp only[Env.put,Env.get,vU]
 by_cases h:t=d<;>simp[h]
structure dd (n:Nat)(e:Env)(a:Act):Prop where
 size:a.tmps.size=n
 defers:a.defers=[]
 get:∀ t,a.tmps.getD t undef=e.get t
theorem dd.eval {n:Nat}{e:Env}{a:Act}(h:dd n e a):a.eval=e.eval:=by
 funext x
 cases x<;>simp[Act.eval,Env.eval,h.get]
def lE (n:Nat):Option Nat->Bool
 | none=>true
 | some d=>Nat.blt d n
theorem dd.put {n:Nat}{e:Env}{a:Act}(h:dd n e a)(dst:Option Nat)(hd:lE n dst=true)(v:Value):dd n (e.put dst v) (a.put dst v):=by
 cases dst with
 | none=>exact h
 | some d=>
  have aS:d<n:=by simp[lE,Nat.blt] at hd;omega
  refine⟨by simp[Act.put,h.size],by simp[Act.put,h.defers],fun t=>?_⟩;rw[Env.A5];have h1:=h.size
  by_cases ht:t=d
  ·subst ht
   rw[if_pos rfl];simp[Act.put,Array.getD,Array.setIfInBounds,h1,aS]
  ·rw[if_neg ht,<- h.get t]
   have ay:d≠t:=fun x=>ht x.symm;simp only[Act.put,Array.getD_eq_getD_getElem?,Array.getElem?_setIfInBounds_ne ay]
def rC {α:Type}(P:Program):Sem α->Option α
 | .pure a=>some a
 | .program k=>rC P (k P)
 | .mark _ k=>rC P k
 | _=>none
theorem QM {α:Type}{P:Program}:∀ {s:Sem α} {a:α},rC P s=some a->∀ w,s.run P w=.ok a w:=by
 intro s
 induction s with
 | pure b=>intro a h w;simp only[rC,Option.some.injEq] at h;rw[h];rfl
 | program k ih=>intro a h w;exact ih P h w
 | mark m k ih=>intro a h w;exact ih h w
 | _=>intro a h w;simp[rC] at h
structure ae (c:Ck)(p:Addr)(w:World)(K:c.C->Prop):Prop where
 out:∃ x,w.cell? p=some (c.val x)/\K x
def jA (w:World)(p:Addr):Nat->List Value->Prop
 | _,[]=>True
 | i,v::vs=>w.cell? (p.add i)=some v/\jA w p (i+1) vs
structure aq (cs:List Ck)(p:Addr)(w:World)(K:Cs cs->Prop):Prop where
 out:∃ x,jA w p 0 (Cs.vals cs x)/\K x
structure eI (n:Nat)(p:Addr)(w:World)(K:List Value->Prop):Prop where
 out:∃ x:List Value,x.length=n/\jA w p 0 x/\K x
def bI:Value->Bool
 | .agg _ | .tuple _=>false
 | _=>true
def setCells (w:World)(p:Addr):Nat->List Value->World
 | _,[]=>w
 | i,v::vs=>setCells (w.setCell (p.add i) v) p (i+1) vs
def pw (w:World)(p:Addr):Nat->List Value->Prop
 | _,[]=>True
 | i,v::vs=>bI v=true/\(w.cell? (p.add i)).isSome=true/\w.frozen? (p.add i)=false/\pw (w.setCell (p.add i) v) p (i+1) vs
structure kG (a b:Prop):Prop where
 out:a/\b
structure aA (p:Addr)(v:Value)(w:World)(K:World->Prop):Prop where
 out:bI v=true/\(w.cell? p).isSome=true/\w.frozen? p=false/\K (w.setCell p v)
structure ar (p:Addr)(vs:List Value)(w:World)(K:World->Prop):Prop where
 out:pw w p 0 vs/\K (setCells w p 0 vs)
structure ak (o:Obj)(w:World)(K:Nat->World->Prop):Prop where
 out:K w.heap.size { w with heap:=w.heap.push o }
def jB (q:Option Addr)(K:Addr->Prop):Prop:=match q with | some a=>K a | none=>False
def aa (b:Bool)(A B:Prop):Prop:=match b with | true=>A | false=>B
structure bK (base:Option Addr)(len:Nat)(i:Int)(size:Nat)(K:Addr->Prop):Prop where
 out:∃ a,base=some a/\0<=i/\i<len/\K (a.add (i.toNat * size))
structure DO (a:Addr)(len:Nat)(i:Int)(size:Nat)(K:Addr->Prop):Prop where
 out:0<=i/\i<len/\K (a.add (i.toNat * size))
structure oD (s:ByteArray)(i:Int)(K:Int->Prop):Prop where
 out:∃ b:UInt8,0<=i/\s[i.toNat]? = some b/\K b.toNat
structure QN (cs:Array Value)(len:Nat)(i:Int)(c:Ck)(K:c.C->Prop):Prop where
 out:∃ x,0<=i/\i<len/\cs[i.toNat]? = some (c.val x)/\K x
structure ug (s:ByteArray)(lo hi:Int)(K:ByteArray->Prop):Prop where
 out:0<=lo/\lo<=hi/\hi<=s.size/\K (s.extract lo.toNat hi.toNat)
structure eX (base:Option Addr)(cap:Nat)(lo hi mx:Int)(size:Nat)(K:Option Addr->Nat->Nat->Prop):Prop where
 out:0<=lo/\lo<=hi/\hi<=mx/\mx<=cap/\K (if mx=lo then base else base.map (·.add (lo.toNat * size))) (hi - lo).toNat (mx - lo).toNat
structure ao (x:Value)(t:TypeId)(k:Kd)(yes:k.C->Prop)(no:Prop):Prop where
 out:(∃ r,x=.iface t (k.val r)/\yes r)\/((x=.nilIface\/∃ u v,x=.iface u v/\u≠t)/\no)
structure uh (b:Int)(K:Prop):Prop where
 out:b≠0/\K
structure jC (b:Int)(K:Prop):Prop where
 out:0<=b/\K
structure vV (a b:ByteArray)(K:Prop):Prop where
 out:((a.size+b.size:Nat):Int)<=IntKind.i64.max/\K
structure yo (m:Option Nat)(w:World)(K:Int->Prop):Prop where
 out:(m=none/\K 0)\/∃ r es c,m=some r/\w.heap[r]? = some (.map es c)/\K (es.size:Nat)
structure vW (q:Option Addr)(w:World)(yes:Int->Int->World->Prop)(no:Prop):Prop where
 out:∃ r s pos,q=some ⟨r,0,none⟩/\w.heap[r]? = some (.stringIter s pos) /\
  if pos<s.size then yes (pos:Nat) (Utf8.decode s pos).1 { w with heap:=w.heap.setIfInBounds r (.stringIter s (pos+(Utf8.decode s pos).2)) } else no
structure az (P:Program)(s:Sem Value)(w:World)(k:Rk)(K:k.C->World->Prop):Prop where
 out:∃ x w',s.run P w=.ok (k.val x) w'/\K x w'
structure jm (P:Program)(s:Sem Unit)(w:World)(K:World->Prop):Prop where
 out:∃ w',s.run P w=.ok () w'/\K w'
def Ret (P:Program)(f:FuncId)(args:Array Value)(w:World)(K:Value->World->Prop):Prop:=
 Calls P f args w fun e w'=>∃ v,e=.returned v/\K v w'
structure ab (P:Program)(f:FuncId)(args:Array Value)(w:World)(k:Rk)(K:k.C->World->Prop):Prop where
 out:Ret P f args w fun v w'=>∃ x,v=k.val x/\K x w'
structure A6 (P:Program)(it:Value)(ty:TypeId)(w:World)(yes:Value->Value->World->Prop)(no:World->Prop):Prop where
 out:(∃ k v w',(Instr.next it false ty).run P w=.ok (.tuple #[.bool true,k,v]) w'/\yes k v w')\/∃ w',(Instr.next it false ty).run P w=.ok (.tuple #[.bool false]) w'/\no w'
def Jv (v:Value)(K:Value->Prop):Prop:=
 match v with
 | .pointer q=>jB q fun p=>K (.pointer (some p))
 | .func (.func f) fi ca=>K (.func (.func f) fi ca)
 | _=>False
structure aD (w:World)(K:World->Prop):Prop where
 out:K { w with drawn:=w.drawn+1 }
structure oE (w:World)(body:((Nat->Bool)->World->Prop)->Prop):Prop where
 out:∃ C:(Nat->Bool)->World->Prop,C (fun _=>false) { w with drawn:=w.drawn+1 }/\body C
def sQ (D:Nat->Bool)(i:Nat):Nat->Bool:=fun j=>match Nat.beq j i with | true=>true | false=>D j
structure fZ (C:(Nat->Bool)->World->Prop)(i:Nat)(pr:List Nat)(k:Rk)(op:World->(Value->World->Prop)->Prop)(next:k.C->Prop):Prop where
 out:∃ x:k.C,(∀ D w,D i=false->(∀ j,j∈pr->D j=true)->C D w->op w fun v w'=>v=k.val x/\C (sQ D i) w')/\next x
def Kept (S:Nat->Prop)(w0 w:World):Prop:=∀ a v,S a.block->w0.cell? a=some v->w.cell? a=some v
structure ai (S:Nat->Prop)(w0 w:World)(K:Prop):Prop where
 out:Kept S w0 w/\K
structure aV (body:(Nat->Prop)->Prop):Prop where
 out:∃ S,body S
structure av (S:Nat->Prop)(p:Addr)(K:Prop):Prop where
 out:S p.block/\K
structure sR (C:(Nat->Bool)->World->Prop)(i:Nat)(next:Prop):Prop where
 out:(∀ D w,C D w->C (sQ D i) w)/\next
structure bw (σ:Type)(body:(Nat->Value)->σ->World->(σ->World->Prop)->Prop)(s:σ)(w:World):Prop where
 out:∃ (I:σ->World->Prop) (μ:σ->World->Nat),I s w/\∀ b s w,I s w->body b s w fun s' w'=>I s' w'/\μ s' w'<μ s w
structure cq (σ:Type)(first:(σ->World->Prop)->Prop)(rest:(Nat->Value)->σ->World->Prop):Prop where
 out:∃ J:σ->World->Prop,first J/\∀ b s w,J s w->rest b s w
def ui (P:Program)(t:TypeId)(p:Addr)(w:World)(K:Value->World->Prop):Prop:=
 match P.underlying t,P.info? t with
 | some (.struct _),some i=>match i.zero with
  | some (.agg cs)=>match Nat.beq i.size (cs.toList.map vT).length with
   | true=>aq (cs.toList.map vT) p w fun x=>K (.agg (Cs.vals (cs.toList.map vT) x).toArray) w
   | false=>False
  | _=>False
 | some (.array ..),some i=>eI i.size p w fun x=>K (.agg x.toArray) w
 | some _,some _=>match lY P t with
  | .one c=>ae c p w fun x=>K (c.val x) w
  | _=>False
 | _,_=>False
def vX (P:Program)(t:TypeId):Bool:=
 match P.underlying t with
 | some (.interface _) | some (.struct _) | some (.array ..)=>true
 | _=>false
def isIf (P:Program)(t:TypeId):Bool:=
 match P.underlying t with
 | some (.interface _)=>true
 | _=>false
def QO (P:Program)(t:TypeId)(i:Nat):Bool:=
 match P.underlying t with
 | some (.struct fs)=>match fs[i]? with
  | some f=>isIf P f.type
  | none=>false
 | some (.array _ el)=>isIf P el
 | _=>false
structure iV (v:Value)(K:Prop):Prop where
 out:v.cells=#[v]/\K
structure uj (cks:List Ck)(x:List Value)(K:Cs cks->Prop):Prop where
 out:∃ y,x=Cs.vals cks y/\K y
def QP (P:Program)(t:TypeId)(i:Nat):Option (List Ck):=
 match P.underlying t with
 | some (.struct fs)=>match fs[i]? with
  | some f=>match P.underlying f.type,(P.info? f.type).bind (·.zero) with
   | some (.array ..),some (.agg cs)=>some (cs.toList.map vT)
   | _,_=>none
  | none=>none
 | _=>none
def uk (P:Program)(t:TypeId):List (Nat×Value)->(List (Nat×Value)->Prop)->Prop
 | [],K=>K []
 | p::l,K=>match QO P t p.1 with
  | true=>iV p.2 (uk P t l fun vs=>K ((p.1,.agg #[p.2])::vs))
  | false=>match QP P t p.1 with
   | some cks=>match p.2 with
    | .agg cs=>uj cks cs.toList fun y=>uk P t l fun vs=>K ((p.1,.agg (Cs.vals cks y).toArray)::vs)
    | _=>False
   | none=>uk P t l fun vs=>K (p::vs)
def kH (P:Program)(s:Sem Value)(w:World)(K:Value->World->Prop):Prop:=
 match rC P s with
 | some v=>K v w
 | none=>False
def DP (P:Program)(e:Env)(op:BinOp)(xt:TypeId)(x y:Operand)(w:World)(K:Value->World->Prop):Prop:=
 match vX P xt with
 | true=>az P (do eqGuard op xt x y (e.eval x) (e.eval y);binOp op xt (e.eval x) (e.eval y)) w (.v (.one .bool)) fun b w'=>K (.bool b) w'
 | false=>match e.eval x,e.eval y with
  | .int k a,.int k' b=>match decide (k=k') with
   | true=>match op with
    | .quo=>uh b (K (.int k (k.wrap (a.tdiv b))) w)
    | .rem=>uh b (K (.int k (a.tmod b)) w)
    | .shl=>jC b (K (.int k (k.wrap (a * 2 ^ (min b.toNat k.bits)))) w)
    | .shr=>jC b (K (.int k (a.fdiv (2 ^ (min b.toNat k.bits)))) w)
    | _=>kH P (do eqGuard op xt x y (.int k a) (.int k b);binOp op xt (.int k a) (.int k b)) w K
   | false=>match op with
    | .shl=>jC b (K (.int k (k.wrap (a * 2 ^ (min b.toNat k.bits)))) w)
    | .shr=>jC b (K (.int k (a.fdiv (2 ^ (min b.toNat k.bits)))) w)
    | _=>False
  | .string a,.string b=>match op with
   | .add=>vV a b (K (.string (a++b)) w)
   | _=>kH P (do eqGuard op xt x y (.string a) (.string b);binOp op xt (.string a) (.string b)) w K
  | .bool a,.bool b=>kH P (do eqGuard op xt x y (.bool a) (.bool b);binOp op xt (.bool a) (.bool b)) w K
  | .pointer p,.pointer none=>match P.underlying xt,op with
   | some (.pointer _),.eql=>K (.bool p.isNone) w
   | some (.pointer _),.neq=>K (.bool !p.isNone) w
   | _,_=>False
  | .slice p _ _,.slice none _ _=>match P.underlying xt,op with
   | some (.slice _),.eql=>K (.bool p.isNone) w
   | some (.slice _),.neq=>K (.bool !p.isNone) w
   | _,_=>False
  | .map p,.map none=>match P.underlying xt,op with
   | some (.map ..),.eql=>K (.bool p.isNone) w
   | some (.map ..),.neq=>K (.bool !p.isNone) w
   | _,_=>False
  | _,_=>False
def pz (v:Option Value)(d:Int)(K:Int->Prop):Prop:=
 match v with
 | none=>K d
 | some (.int _ i)=>K i
 | _=>False
def lZ (e:Env)(xs:Array Operand):List Value:=xs.toList.map e.eval
def rD (P:Program)(f:FuncId)(args:List Value)(w:World)(K:Value->World->Prop):Prop:=
 match rC P (callFunc f args.toArray),P.funcs[f]? with
 | some (.enter g xs),some fn=>match Nat.beq g f with
  | true=>ab P f xs w (DN P fn.resultTypes.toList) fun x w'=>K ((DN P fn.resultTypes.toList).val x) w'
  | false=>False
 | _,_=>False
def Jw (P:Program)(t:TypeId):Rk:=
 match P.underlying t with
 | some (.tuple ts)=>.aN (ts.toList.map (lY P))
 | _=>.v (lY P t)
def kI (P:Program)(v:Value)(args:List Value)(r:Rk)(w:World)(K:r.C->World->Prop):Prop:=
 match v with
 | .func (.func f) fi ca=>rD P f (fi.toList++args++ca.toList) w fun v w'=>r.ex v fun x=>K x w'
 | _=>False
theorem l0 {P:Program}{f:FuncId}{fi ca:Array Value}{args:List Value}{r:Rk}{w:World}{K:r.C->World->Prop}{xs:Array Value}{fn:Func}
  (hp:rC P (callFunc f (fi.toList++args++ca.toList).toArray)=some (.enter f xs)) (hf:P.funcs[f]? = some fn) (hr:DN P fn.resultTypes.toList=r)
  (h:Ret P f xs w fun v w'=>∃ x,v=r.val x/\K x w'):kI P (.func (.func f) fi ca) args r w K:=by
 subst hr;have hb:Nat.beq f f=true:=Nat.beq_refl f;simp only[kI,rD,hp,hf,hb];exact⟨h.mono fun e w' ⟨v,he,x,hv,hK⟩=>⟨v,he,x,hv,Rk.nL hK⟩⟩
def Jx (P:Program)(t:TypeId)(ok:Bool):Rk:=
 match P.underlying t,ok with
 | some (.map _ el),true=>.aN [lY P el,.one .bool]
 | some (.map _ el),false=>.v (lY P el)
 | _,_=>.aN []
def Jy (P:Program)(t:TypeId):Rk:=
 match P.underlying t with
 | some (.map _ el)=>.aN [lY P el,.one (.int .i64)]
 | _=>.aN []
def gR (P:Program)(o:Oper)(e:Env)(w:World)(K:Value->World->Prop):Prop:=
  match o.op with
  | .move x | .assign x=>K (e.eval x) w
  | .pick c a b=>match e.eval c with
    | .bool c=>aa c (K (e.eval a) w) (K (e.eval b) w)
    | _=>False
  | .load t a=>match e.eval a with
    | .pointer q=>jB q fun p=>ui P t p w K
    | _=>False
  | .store t a x=>match e.eval a with
    | .pointer q=>jB q fun p=>match P.info? t with
      | some i=>match isIf P t with
       | true=>match Nat.beq 1 i.size with
        | true=>iV (e.eval x) (ar p [e.eval x] w fun w'=>K undef w')
        | false=>False
       | false=>match P.underlying t with
        | some (.array ..)=>match e.eval x with
          | .agg cs=>kG (cs.toList.length=i.size) (ar p cs.toList w fun w'=>K undef w')
          | _=>False
        | _=>match Nat.beq (e.eval x).cells.size i.size with
          | true=>match e.eval x with
            | .agg cs=>ar p cs.toList w fun w'=>K undef w'
            | .tuple _=>False
            | v=>aA p v w fun w'=>K undef w'
          | false=>False
      | none=>False
    | _=>False
  | .nilCheck x=>Jv (e.eval x) fun v=>K v w
  | .alloc t=>match P.info? t with
    | some i=>match i.zero with
      | some z=>ak (.cells z.cells t) w fun g w'=>K (.pointer (some ⟨g,0,none⟩)) w'
      | none=>False
    | none=>False
  | .box t x=>match isIf P t with
    | true=>iV (e.eval x) (ak (.cells #[e.eval x] t) w fun g w'=>K (.pointer (some ⟨g,0,none⟩)) w')
    | false=>ak (.cells (e.eval x).cells t) w fun g w'=>K (.pointer (some ⟨g,0,none⟩)) w'
  | .build t parts=>uk P t (parts.toList.map fun(i,x)=>(i,e.eval x)) fun vs=>match P.built t vs with
    | some cells=>K (.agg cells) w
    | none=>False
  | .makeMap _ none=>ak (.map #[] 0) w fun g w'=>K (.map (some g)) w'
  | .indexAddr t x i=>match P.underlying t with
    | some (.slice el)=>match e.eval x,e.eval i,P.info? el with
      | .slice base len _,.int _ i,some inf=>bK base len i inf.size fun a=>K (.pointer (some a)) w
      | _,_,_=>False
    | some (.array n el)=>match e.eval x,e.eval i,P.info? el with
      | .pointer q,.int _ i,some inf=>jB q fun a=>DO a n i inf.size fun a=>K (.pointer (some a)) w
      | _,_,_=>False
    | _=>False
  | .index t x i=>match P.underlying t with
    | some .string=>match e.eval x,e.eval i with
      | .string s,.int _ i=>oD s i fun b=>K (.int .u8 b) w
      | _,_=>False
    | some (.array n el)=>match e.eval x,e.eval i,P.info? el,lY P el,P.underlying el with
      | .agg cs,.int _ i,some inf,.one c,some d=>match Nat.beq inf.size 1,(match d with | .struct _ | .array ..=>false | _=>true) with
        | true,true=>QN cs n i c fun x=>K (c.val x) w
        | _,_=>False
      | _,_,_,_,_=>False
    | _=>False
  | .slice t x lo hi mx=>match P.underlying t with
    | some .string=>match e.eval x,mx with
      | .string s,none=>pz (lo.map e.eval) 0 fun l=>pz (hi.map e.eval) s.size fun h=>ug s l h fun s'=>K (.string s') w
      | _,_=>False
    | some (.slice el)=>match e.eval x,P.info? el with
      | .slice a len cap,some inf=>match hi,mx with
        | none,some _=>False
        | _,_=>pz (lo.map e.eval) 0 fun l=>pz (hi.map e.eval) len fun h=>pz (mx.map e.eval) cap fun m=>
            eX a cap l h m inf.size fun a' l' c'=>K (.slice a' l' c') w
      | _,_=>False
    | some (.array n el)=>match e.eval x,P.info? el with
      | .pointer q,some inf=>match hi,mx with
        | none,some _=>False
        | _,_=>jB q fun a=>pz (lo.map e.eval) 0 fun l=>pz (hi.map e.eval) n fun h=>pz (mx.map e.eval) n fun m=>
            eX (some a) n l h m inf.size fun a' l' c'=>K (.slice a' l' c') w
      | _,_=>False
    | _=>False
  | .typeAssert x _ t ok=>match P.underlying t with
    | some (.interface _)=>False
    | some _=>match ok with
      | true=>match P.info? t with
        | some i=>match i.zero with
          | some z=>ao (e.eval x) t (lY P t) (fun r=>K (.tuple #[(lY P t).val r,.bool true]) w) (K (.tuple #[z,.bool false]) w)
          | none=>False
        | none=>False
      | false=>ao (e.eval x) t (lY P t) (fun r=>K ((lY P t).val r) w) False
    | none=>False
  | .binOp op xt x y _=>DP P e op xt x y w K
  | .unOp op _ x=>kH P (Op.unary op (e.eval x)) w K
  | .fieldAddr s x f=>match e.eval x with
    | .pointer q=>jB q fun a=>kH P (Instr.fieldAt s (.pointer (some a)) f) w K
    | _=>False
  | .field t x f=>kH P (Instr.field t (e.eval x) f) w K
  | .extract t i=>kH P (Instr.extract (e.eval t) i) w fun v w=>(lY P o.type).ex v fun x=>K ((lY P o.type).val x) w
  | .makeInterface t x=>kH P (Instr.makeInterface t (e.eval x)) w K
  | .makeFunc fn fi ca=>K (.func fn (lZ e fi).toArray (lZ e ca).toArray) w
  | .convert src dst x=>match P.underlying src,P.underlying dst with
    | some (.slice _),some .string=>az P (convert src dst (e.eval x)) w (.v (.one .str)) fun s w'=>K (.string s) w'
    | some .string,some (.slice _)=>az P (convert src dst (e.eval x)) w (.v (.one .aj)) fun s w'=>K (.slice s.1 s.2.1 s.2.2) w'
    | some (.slice _),some (.slice _)=>az P (convert src dst (e.eval x)) w (.v (.one .aj)) fun s w'=>K (.slice s.1 s.2.1 s.2.2) w'
    | _,_=>kH P (convert src dst (e.eval x)) w K
  | .makeSlice t l c=>az P (Instr.makeSlice t (e.eval l) (e.eval c)) w (.v (.one .aj)) fun s w'=>K (.slice s.1 s.2.1 s.2.2) w'
  | .buildSlice t n parts=>az P (Instr.buildSlice t n (parts.toList.map fun(i,x)=>(i,e.eval x)).toArray) w (.v (.one .aj)) fun s w'=>K (.slice s.1 s.2.1 s.2.2) w'
  | .lookup t x i ok=>az P (Instr.lookup t (e.eval x) (e.eval i) ok) w (Jx P t ok) fun x w'=>K ((Jx P t ok).val x) w'
  | .mapEntry t m k=>az P (Instr.mapEntry t (e.eval m) (e.eval k)) w (Jy P t) fun x w'=>K ((Jy P t).val x) w'
  | .entryStore t m k x=>jm P (Instr.entryStore t (e.eval m) (e.eval k) (e.eval x)) w fun w'=>K undef w'
  | .mapUpdate t m k x | .insert t m k x=>jm P (Instr.mapUpdate t (e.eval m) (e.eval k) (e.eval x)) w fun w'=>K undef w'
  | .range t x=>az P (Instr.range t (e.eval x)) w (.v (.one .ptr)) fun x w'=>K (.pointer x) w'
  | .next it s=>match s with
    | true=>match e.eval it with
      | .pointer q=>vW q w (fun pos c w'=>K (.tuple #[.bool true,.int .i64 pos,.int .i32 c]) w') (K (.tuple #[.bool false]) w)
      | _=>False
    | false=>A6 P (e.eval it) o.type w (fun k v w'=>K (.tuple #[.bool true,k,v]) w') (fun w'=>K (.tuple #[.bool false]) w')
  | .entry it=>az P (Instr.entry (e.eval it)) w (.aN [.one .raw,.one .raw]) fun x w'=>K (.tuple #[x.1,x.2.1]) w'
  | .call c=>match c.callee with
    | .builtin .append=>az P (Builtin.append_ c.argTypes o.type (lZ e c.args).toArray) w (.v (.one .aj)) fun s w'=>K (.slice s.1 s.2.1 s.2.2) w'
    | .builtin .copy=>az P (Builtin.copy_ c.argTypes o.type (lZ e c.args).toArray) w (.v (.one (.int .i64))) fun n w'=>K (.int .i64 n) w'
    | .builtin .delete=>az P (Builtin.delete_ c.argTypes o.type (lZ e c.args).toArray) w (.aN []) fun _ w'=>K (.tuple #[]) w'
    | .builtin .len=>match lZ e c.args with
      | [.map m]=>match (c.argTypes[0]?).bind P.underlying with
        | some (.map ..)=>yo m w fun n=>K (.int .i64 n) w
        | _=>False
      | l=>kH P (Builtin.len_ c.argTypes o.type l.toArray) w K
    | .builtin .cap=>kH P (Builtin.cap_ c.argTypes o.type (lZ e c.args).toArray) w K
    | .builtin .min=>kH P (Builtin.min_ c.argTypes o.type (lZ e c.args).toArray) w K
    | .builtin .max=>kH P (Builtin.max_ c.argTypes o.type (lZ e c.args).toArray) w K
    | .value x=>match x with
      | .tmp _=>kI P (e.eval x) (lZ e c.args) (Jw P o.type) w fun x w'=>K ((Jw P o.type).val x) w'
      | _=>match e.eval x with
        | .func (.func f) fi ca=>rD P f (fi.toList++lZ e c.args++ca.toList) w K
        | _=>False
    | _=>False
  | _=>False
def kJ (P:Program)(n:Nat)(ops:Array Oper):List Oper->Env->World->(Env->World->Prop)->Prop
 | [],e,w,K=>K e w
 | o::rest,e,w,K=>match lE n o.dst with
  | false=>False
  | true=>match o.guard with
   | none=>gR P o e w fun v w'=>kJ P n ops rest (e.put o.dst v) w' K
   | some (j,want)=>match (ops[j]?).bind (·.dst) with
    | none=>False
    | some d=>match e.get d with
     | .bool b=>match want with
      | true=>aa b (gR P o (e.put (some d) (.bool true)) w fun v w'=>kJ P n ops rest ((e.put (some d) (.bool true)).put o.dst v) w' K)
        (kJ P n ops rest ((e.put (some d) (.bool false)).put o.dst undef) w K)
      | false=>aa b (kJ P n ops rest ((e.put (some d) (.bool true)).put o.dst undef) w K)
        (gR P o (e.put (some d) (.bool false)) w fun v w'=>kJ P n ops rest ((e.put (some d) (.bool false)).put o.dst v) w' K)
     | .tuple _=>kJ P n ops rest (e.put o.dst undef) w K
     | _=>False
def sS (P:Program):Op->Bool
 | .move _ | .assign _ | .pick .. | .load .. | .nilCheck _ | .build .. | .indexAddr .. | .index .. | .slice .. | .typeAssert .. | .unOp .. | .fieldAddr .. | .field .. | .extract ..
 | .makeInterface .. | .makeFunc ..=>true
 | .binOp _ t ..=>!vX P t
 | .call c=>match c.callee with
  | .builtin .len | .builtin .cap | .builtin .min | .builtin .max=>true
  | _=>false
 | _=>false
def isInt (P:Program)(t:TypeId):Bool:=match P.underlying t with
 | some (.int _)=>true
 | _=>false
def A7 (P:Program):Op->Bool
 | .convert s d _=>isInt P s&&isInt P d
 | .move _ | .assign _ | .pick .. | .nilCheck _ | .build .. | .indexAddr .. | .index .. | .slice .. | .typeAssert .. | .unOp .. | .fieldAddr .. | .field .. | .extract ..
 | .makeInterface .. | .makeFunc ..=>true
 | .binOp _ t ..=>!vX P t
 | .call c=>match c.callee with
  | .builtin .cap | .builtin .min | .builtin .max=>true
  | .builtin .len=>match c.argTypes.toList with
   | [t]=>match P.underlying t with | some (.map ..)=>false | some _=>true | none=>false
   | _=>false
  | _=>false
 | _=>false
def mem:List Nat->Nat->Bool
 | [],_=>false
 | u::l,t=>match Nat.beq u t with | true=>true | false=>mem l t
def qB (ops:Array Oper):Nat->Nat->List Nat
 | 0,_=>[]
 | f+1,i=>match ops[i]? with
  | some o=>o.after.toList.flatMap fun e=>match Region.binds .any e with | true=>e.on::qB ops f e.on | false=>[]
  | none=>[]
def sT:List (Nat×Rk)->Nat->Option Rk
 | [],_=>none
 | (j,r)::l,k=>match Nat.beq j k with | true=>some r | false=>sT l k
def DQ (ops:Array Oper)(loud:List (Nat×Rk))(k:Nat):List Nat:=
 (loud.map (·.1)).filter fun j=>mem (qB ops ops.size k) j
def vY (P:Program)(ops:Array Oper)(loud:List (Nat×Rk))(C:(Nat->Bool)->World->Prop)(o:Oper)(k:Nat)(e:Env)(w:World)(next:Value->Prop):Prop:=
 match sT loud k with
 | some r=>fZ C k (DQ ops loud k) r (fun w kk=>gR P o e w kk) fun x=>next (r.val x)
 | none=>match A7 P o.op with
  | true=>gR P o e w fun v _=>next v
  | false=>False
def lF (P : Program)(n : Nat)(ops : Array Oper)(loud : List (Nat × Rk))(C : (Nat -> Bool) -> World -> Prop)(w : World): List Oper -> Nat -> Env -> (Env -> Prop) -> Prop
  | [], _, e, K => K e
  | o :: rest, k, e, K => match lE n o.dst with
    | false => False
    | true => match o.guard with
      | none => vY P ops loud C o k e w fun v => lF P n ops loud C w rest (k + 1) (e.put o.dst v) K
      | some (j, want) => match (ops[j]?).bind (·.dst) with
        | none => False
        | some d => match e.get d with
          | .bool b => match want with
            | true => aa b (vY P ops loud C o k (e.put (some d) (.bool true)) w fun v => lF P n ops loud C w rest (k + 1) ((e.put (some d) (.bool true)).put o.dst v) K)
                (match sT loud k with
                  | some _ => sR C k (lF P n ops loud C w rest (k + 1) ((e.put (some d) (.bool false)).put o.dst undef) K)
                  | none => lF P n ops loud C w rest (k + 1) ((e.put (some d) (.bool false)).put o.dst undef) K)
            | false => aa b (match sT loud k with
                  | some _ => sR C k (lF P n ops loud C w rest (k + 1) ((e.put (some d) (.bool true)).put o.dst undef) K)
                  | none => lF P n ops loud C w rest (k + 1) ((e.put (some d) (.bool true)).put o.dst undef) K)
                (vY P ops loud C o k (e.put (some d) (.bool false)) w fun v => lF P n ops loud C w rest (k + 1) ((e.put (some d) (.bool false)).put o.dst v) K)
          | .tuple _ => match sT loud k with
            | some _ => sR C k (lF P n ops loud C w rest (k + 1) (e.put o.dst undef) K)
            | none => lF P n ops loud C w rest (k + 1) (e.put o.dst undef) K
          | _ => False
inductive Hp where
 | done
 | soft (i:Nat) (h:Hp)
 | pick (i:Nat) (h more:Hp)
 | last (i:Nat) (h:Hp)
 | stop
def A8:Op->Bool
 | .load ..=>true
 | _=>false
def sU (ops:Array Oper)(i:Nat):Bool:=(List.range ops.size).any fun s=>match ops[s]? with | some o=>A8 o.op&&!mem (qB ops ops.size i) s | none=>false
def DR (P:Program)(o:Oper)(e:Env)(S:Nat->Prop)(w0:World)(K:Value->Prop):Prop:=
 match o.op with
 | .load t a=>match e.eval a with
  | .pointer q=>jB q fun p=>av S p (ui P t p w0 fun v _=>K v)
  | _=>False
 | _=>match A7 P o.op with
  | true=>gR P o e w0 fun v _=>K v
  | false=>False
def um (ops:Array Oper)(o:Oper)(e:Env)(DS skip:Env->Prop):Prop:=
 match o.guard with
 | none=>DS e
 | some (j,want)=>match (ops[j]?).bind (·.dst) with
  | none=>False
  | some d=>match e.get d with
   | .bool b=>match want with
    | true=>aa b (DS (e.put (some d) (.bool true))) (skip (e.put (some d) (.bool false)))
    | false=>aa b (skip (e.put (some d) (.bool true))) (DS (e.put (some d) (.bool false)))
   | .tuple _=>skip e
   | _=>False
def iM (P:Program)(n:Nat)(ops:Array Oper)(S:Nat->Prop):Hp->Nat->List Nat->Array Bool->Env->World->(Env->World->Prop)->Prop
 | .done,k,_,aI,e,w,K=>match Nat.beq k 0&&(Region.ready .any ops aI).isEmpty with | true=>K e w | false=>False
 | .soft i h,k,_,aI,e,w,K=>match k,ops[i]? with
  | k+1,some o=>match lE n o.dst&&(Region.ready .any ops aI).contains i&&Region.free .any ops aI i with
   | false=>False
   | true=>um ops o e (fun e=>DR P o e S w fun v=>iM P n ops S h k [] (aI.setIfInBounds i true) (e.put o.dst v) w K)
     (fun e=>iM P n ops S h k [] (aI.setIfInBounds i true) (e.put o.dst undef) w K)
  | _,_=>False
 | .pick i h .stop,k,seen,aI,e,w,K=>match k,ops[i]? with
  | k+1,some o=>match lE n o.dst&&(Region.ready .any ops aI).contains i&&(Region.ready .any ops aI).all (fun j=>mem (i::seen) j) with
   | true=>um ops o e (fun e=>gR P o e w fun v w'=>ai S w w' (iM P n ops S h k [] (aI.setIfInBounds i true) (e.put o.dst v) w' K))
     (fun e=>iM P n ops S h k [] (aI.setIfInBounds i true) (e.put o.dst undef) w K)
   | false=>False
  | _,_=>False
 | .pick i h (.pick i2 h2 m2),k,seen,aI,e,w,K=>match k,ops[i]? with
  | k+1,some o=>match lE n o.dst with
   | false=>False
   | true=>kG (um ops o e (fun e=>gR P o e w fun v w'=>ai S w w' (iM P n ops S h k [] (aI.setIfInBounds i true) (e.put o.dst v) w' K))
     (fun e=>iM P n ops S h k [] (aI.setIfInBounds i true) (e.put o.dst undef) w K)) (iM P n ops S (.pick i2 h2 m2) (k+1) (i::seen) aI e w K)
  | _,_=>False
 | .last i h,k,_,aI,e,w,K=>match k,ops[i]? with
  | k+1,some o=>match lE n o.dst&&(Region.ready .any ops aI).contains i&&(Region.ready .any ops aI).all (fun j=>mem [i] j)&&!sU ops i with
   | true=>um ops o e (fun e=>gR P o e w fun v w'=>iM P n ops S h k [] (aI.setIfInBounds i true) (e.put o.dst v) w' K)
     (fun e=>iM P n ops S h k [] (aI.setIfInBounds i true) (e.put o.dst undef) w K)
   | false=>False
  | _,_=>False
 | _,_,_,_,_,_,_=>False
inductive aB where
 | auto
 | seq (a b:aB)
 | cond (a b:aB)
 | block (p:aB)
 | loop (ks:List (Nat×Kd)) (p:aB)
 | join (ks:List (Nat×Kd)) (a b:aB)
 | still
 | tail (k:Nat)
 | any (loud:List (Nat×Rk))
 | held (h:Hp)
def yp (N:Env->World->Prop)(Q:Exit->Env->World->Prop):Exit->Env->World->Prop
 | .normal,e,w=>N e w
 | .exit i,e,w=>Q (.exit i) e w
 | .ret,e,w=>Q .ret e w
 | _,_,_=>False
def A9 (id:Nat)(Q:Exit->Env->World->Prop):Exit->Env->World->Prop
 | .normal,e,w=>Q .normal e w
 | .exit i,e,w=>match Nat.beq i id with | true=>Q .normal e w | false=>Q (.exit i) e w
 | .ret,e,w=>Q .ret e w
 | _,_,_=>False
def iy:Code->List Nat
 | .region _ ops _=>ops.toList.filterMap (·.dst)
 | .seq a b=>iy a++iy b
 | .cond _ a b=>iy a++iy b
 | .block _ c=>iy c
 | .loop c=>iy c
 | _=>[]
def nM (ds:List Nat):List (Nat×Value)->List (Nat×Value)
 | []=>[]
 | (u,v)::l=>match mem ds u with | true=>nM ds l | false=>(u,v)::nM ds l
def sV:(ks:List (Nat×Kd))->St (ks.map (·.2))->List (Nat×Value)->List (Nat×Value)
 | [],_,l=>l
 | (t,k)::ks,s,l=>(t,k.val s.1)::sV ks s.2 l
def yq (e:Env)(ks:List (Nat×Kd)):List Value:=ks.map fun x=>e.get x.1
def iz (P:Program)(n:Nat):Code->aB->Env->World->(Exit->Env->World->Prop)->Prop
 | .skip,_,e,w,Q=>Q .normal e w
 | .region _ ops draw,p,e,w,Q=>match draw with
  | false=>kJ P n ops ops.toList e w (Q .normal)
  | true=>match p with
   | .still=>match Region.lexB .any ops&&ops.toList.all (fun o=>sS P o.op) with
    | true=>aD w fun w'=>kJ P n ops ops.toList e w' (Q .normal)
    | false=>False
   | .tail k=>match Region.lexTailB .any ops k&&(ops.toList.take k).all (fun o=>sS P o.op) with
    | true=>aD w fun w'=>kJ P n ops ops.toList e w' (Q .normal)
    | false=>False
   | .any loud=>match Region.lexB .any ops&&(loud.map (·.1)).all (fun j=>Nat.blt j ops.size) with
    | true=>oE w fun C=>lF P n ops loud C w ops.toList 0 e fun e'=>∀ w',C (mem (loud.map (·.1))) w'->Q .normal e' w'
    | false=>False
   | .held h=>match Region.noSelect ops with
    | true=>aD w fun w'=>aV fun S=>iM P n ops S h ops.size [] (Array.replicate ops.size false) e w' (Q .normal)
    | false=>False
   | _=>False
 | .seq a b,p,e,w,Q=>match p with
  | .seq pa pb=>iz P n a pa e w (yp (fun e w=>iz P n b pb e w Q) Q)
  | .join ks pa pb=>cq (St (ks.map (·.2)))
    (fun J=>iz P n a pa e w (yp (fun e' w'=>St.ex (ks.map (·.2)) (yq e' ks) fun s=>J s w') Q))
    (fun b' s w'=>iz P n b pb ⟨sV ks s (nM (iy a) e.l),b'⟩ w' Q)
  | _=>iz P n a .auto e w (yp (fun e w=>iz P n b .auto e w Q) Q)
 | .cond c x y,p,e,w,Q=>match e.eval c with
  | .bool t=>match p with
   | .cond px py=>aa t (iz P n x px e w Q) (iz P n y py e w Q)
   | _=>aa t (iz P n x .auto e w Q) (iz P n y .auto e w Q)
  | _=>False
 | .block id c,p,e,w,Q=>match p with
  | .block p=>iz P n c p e w (A9 id Q)
  | _=>iz P n c .auto e w (A9 id Q)
 | .loop c,p,e,w,Q=>match p with
  | .loop ks p=>St.ex (ks.map (·.2)) (yq e ks) fun s0=>
    bw (St (ks.map (·.2))) (fun b s w' next=>iz P n c p ⟨sV ks s (nM (iy c) e.l),b⟩ w'
     (yp (fun e' nN=>St.ex (ks.map (·.2)) (yq e' ks) fun s'=>next s' nN) Q)) s0 w
  | _=>False
 | .exit id,_,e,w,Q=>Q (.exit id) e w
 | .ret,_,e,w,Q=>Q .ret e w
 | _,_,_,_,_=>False
def uo:Nat->List Value->List (Nat×Value)
 | _,[]=>[]
 | i,v::vs=>(i,v)::uo (i+1) vs
def DT (P:Program)(e:Env)(w:World):ResultVar->(Value->Prop)->Prop
 | .tmp t,K=>K (e.get t)
 | .cell a t,K=>match e.get a with
  | .pointer q=>jB q fun p=>ui P t p w fun v _=>K v
  | _=>False
def Ba (P:Program)(e:Env)(w:World):List ResultVar->(List Value->Prop)->Prop
 | [],K=>K []
 | r::rs,K=>DT P e w r fun v=>Ba P e w rs fun vs=>K (v::vs)
def oneOf:List Value->Value
 | [v]=>v
 | vs=>.tuple vs.toArray
def Jz (P:Program)(fn:Func)(p:aB)(args:List Value)(w:World)(K:Value->World->Prop):Prop:=
 match fn.body with
 | none=>False
 | some c=>match Nat.ble args.length fn.ntmps with
  | false=>False
  | true=>iz P fn.ntmps c p ⟨uo 0 args,fun _=>undef⟩ w fun x e w'=>match x with
   | .normal | .ret=>Ba P e w' fn.results.toList fun vs=>K (oneOf vs) w'
   | _=>False
end Vc
namespace Vc
theorem DU {α:Type}{P:Program}{s:Sem α}{a:α}(h:rC P s=some a)(w:World):s.run P w=.ok a w:=QM h w
section
variable {P:Program}
theorem under {t:TypeId}{d:TypeDesc}(h:P.underlying t=some d)(w:World):(underlying t).run P w=.ok d w:=by
 simp[underlying,h]
theorem j8 {t:TypeId}{i:TypeInfo}(h:P.info? t=some i)(w:World):(sizeOf t).run P w=.ok i.size w:=by
 simp[sizeOf,typeInfo,h]
theorem qC {t:TypeId}{i:TypeInfo}{z:Value}(h:P.info? t=some i)(hz:i.zero=some z)(w:World):(zeroValue t).run P w=.ok z w:=by
 simp[zeroValue,typeInfo,h,hz]
def rE:TypeDesc->Bool
 | .struct _ | .array ..=>true
 | _=>false
theorem uq {t:TypeId}{d:TypeDesc}(h:P.underlying t=some d)(w:World):(isAgg t).run P w=.ok (rE d) w:=by
 simp only[isAgg,Sem.run_bind,under h,Result.andThen_ok];cases d<;>rfl
theorem DV {w:World}{p:Addr}{v:Value}(h:w.cell? p=some v):(load p).run P w=.ok v w:=by simp[h]
theorem JA {w:World}{p:Addr}:∀ (vs:List Value) (i:Nat) (acc:Array Value),jA w p i vs->(loadCellsFrom p i vs.length acc).run P w=.ok (acc++vs.toArray) w
 | [],i,acc,_=>by simp[loadCellsFrom]
 | v::vs,i,acc,h=>by
  obtain⟨h1,h2⟩:=h;simp only[List.length_cons,loadCellsFrom,Sem.run_bind,DV h1,Result.andThen_ok];rw[JA vs (i+1) (acc.push v) h2]
  congr 1
  apply Array.ext';simp
theorem ur {w:World}{p:Addr}(vs:List Value)(h:jA w p 0 vs):(loadCells p vs.length).run P w=.ok vs.toArray w:=by
 have:=JA (P:=P) vs 0 #[] h;simpa[loadCells] using this
theorem Cs.DW:∀ (cs:List Ck) (x:Cs cs),(Cs.vals cs x).length=cs.length
 | [],_=>rfl
 | c::cs,x=>by simp only[Cs.vals,List.length_cons,Cs.DW cs x.2]
theorem JB {t:TypeId}{p:Addr}{w:World}{K:Value->World->Prop}(h:ui P t p w K):∃ v,(loadVar t p).run P w=.ok v w/\K v w:=by
 unfold ui at h;split at h
 case h_1 fs i hu hi=>
  split at h
  case h_1 cs hz=>
   split at h
   case h_1 hb=>
    obtain⟨x,hx,hK⟩:=h.out;refine⟨_,?_,hK⟩;have hs:=Nat.eq_of_beq_eq_true hb;simp only[loadVar,Sem.run_bind,uq hu,rE,Result.andThen_ok,if_true,j8 hi];rw[hs,<- Cs.DW _ x,ur _ hx];rfl
   case h_2=>cases h
  case h_2=>cases h
 case h_2 hu hi=>
  obtain⟨x,hn,hx,hK⟩:=h.out;refine⟨_,?_,hK⟩;simp only[loadVar,Sem.run_bind,uq hu,rE,Result.andThen_ok,if_true,j8 hi];rw[<- hn,ur _ hx];rfl
 case h_3 d i hs ha hu hi=>
  split at h
  case h_1 c U=>
   obtain⟨x,hx,hK⟩:=h.out;refine⟨_,?_,hK⟩;have hf:rE d=false:=by
    cases d<;>first | rfl | exact(hs _ rfl).elim | exact(ha _ _ rfl).elim
   simp only[loadVar,Sem.run_bind,uq hu,hf,Result.andThen_ok,Bool.false_eq_true,if_false];exact DV hx
  case h_2=>cases h
 case h_4=>cases h
theorem Ck.val_inj {c:Ck}{x y:c.C}(h:c.val x=c.val y):x=y:=by
 cases c<;>simp only[Ck.val] at h
 case aj=>
  obtain⟨a,b,d⟩:=x;obtain⟨a',b',d'⟩:=y;injection h with h1 h2 h3
  simp only at h1 h2 h3;subst h1;subst h2;subst h3;rfl
 case raw=>exact h
 all_goals (injection h)
theorem Cs.vZ:∀ {cs:List Ck} {x y:Cs cs},Cs.vals cs x=Cs.vals cs y->x=y
 | [],_,_,_=>rfl
 | c::cs,(x,xs),(y,ys),h=>by
  simp only[Cs.vals,List.cons.injEq] at h;rw[Ck.val_inj h.1,Cs.vZ h.2]
theorem Kd.val_inj {k:Kd}{x y:k.C}(h:k.val x=k.val y):x=y:=by
 cases k<;>simp only[Kd.val] at h
 case one c=>exact Ck.val_inj h
 case agg cs=>injection h with h;exact Cs.vZ (by simpa using h)
 case arr=>injection h with h;simpa using h
theorem St.vZ:∀ {ks:List Kd} {x y:St ks},St.vals ks x=St.vals ks y->x=y
 | [],_,_,_=>rfl
 | k::ks,(x,xs),(y,ys),h=>by
  simp only[St.vals,List.cons.injEq] at h;rw[Kd.val_inj h.1,St.vZ h.2]
theorem JC {w:World}{p:Addr}{v:Value}(h1:bI v=true)(h2:(w.cell? p).isSome=true)(h3:w.frozen? p=false):(store p v).run P w=.ok () (w.setCell p v):=by
 rw[run_store P w p v .plain (by cases v<;>first | rfl | exact h1)]
 cases hc:w.cell? p with
 | none=>rw[hc] at h2;cases h2
 | some u=>simp[h3]
theorem v7 {p:Addr}:∀ (vs:List Value) (i:Nat) (w:World),pw w p i vs->(storeCells p vs i).run P w=.ok () (setCells w p i vs)
 | [],i,w,_=>by simp[storeCells,setCells]
 | v::vs,i,w,h=>by
  obtain⟨h1,h2,h3,h4⟩:=h;simp only[storeCells,Sem.run_bind,JC h1 h2 h3,Result.andThen_ok,setCells];exact v7 vs (i+1) _ h4
theorem JD {place:Nat->Option (Nat×Nat)}:∀ {l l':List (Nat×Value)} {cells:Array Value},l.map (fun p=>(p.1,p.2.cells))=l'.map (fun p=>(p.1,p.2.cells)) ->
  Instr.fill place cells l=Instr.fill place cells l'
 | [],[],_,_=>rfl
 | [],_::_,_,h=>by simp at h
 | _::_,[],_,h=>by simp at h
 | (i,v)::l,(i',v')::l',cells,h=>by
  simp only[List.map_cons,List.cons.injEq,Prod.mk.injEq] at h;obtain⟨⟨rfl,h2⟩,h3⟩:=h;unfold Instr.fill;rw[h2];cases place i with
  | none=>rfl
  | some p=>
   simp only;split
   ·rfl
   ·exact JD h3
theorem QQ {t:TypeId}{l l':List (Nat×Value)}(h:l.map (fun p=>(p.1,p.2.cells))=l'.map (fun p=>(p.1,p.2.cells))):P.built t l=P.built t l':=by
 unfold Program.built;simp only[JD h]
theorem Bb {t:TypeId}:∀ {l:List (Nat×Value)} {K:List (Nat×Value)->Prop},uk P t l K->∃ l',l.map (fun p=>(p.1,p.2.cells))=l'.map (fun p=>(p.1,p.2.cells))/\K l'
 | [],K,h=>⟨[],rfl,h⟩
 | p::l,K,h=>by
  unfold uk at h;split at h
  ·obtain⟨h1,h⟩:=h.out
   obtain⟨l',h2,h⟩:=Bb h;exact⟨_,by simp only[List.map_cons,h2,h1];rfl,h⟩
  ·split at h
   ·obtain⟨i,v⟩:=p
    cases v with
    | agg cs=>
     obtain⟨y,hy,h⟩:=h.out;obtain⟨l',h2,h⟩:=Bb h;refine⟨_,?_,h⟩;rw[<- hy,List.map_cons,List.map_cons,h2,Array.toArray_toList]
    | _=>cases h
   ·obtain⟨l',h2,h⟩:=Bb h
    exact⟨_,by simp only[List.map_cons,h2],h⟩
theorem JE {t:TypeId}{l:List (Nat×Value)}{K:Array Value->Prop}
  (h:uk P t l fun vs=>match P.built t vs with | some cells=>K cells | none=>False):∃ cells,P.built t l=some cells/\K cells:=by
 obtain⟨l',h1,h⟩:=Bb h;rw[QQ h1];split at h
 ·exact⟨_,‹_›,h⟩
 ·cases h
def Yields (P:Program)(s:Sem Next)(w:World)(K:Value->World->Prop):Prop:=
 (∃ v w',s.run P w=.ok (.value v) w'/\K v w')\/(∃ w',s.run P w=.ok .skip w'/\K undef w')\/(∃ f args,s.run P w=.ok (.enter f args) w/\Ret P f args w K)
def v8 (P:Program)(s:Sem Next)(w:World)(K:Value->World->Prop):Prop:=
 (∃ v,s.run P w=.ok (.value v) w/\K v w)\/(s.run P w=.ok .skip w/\K undef w)
def rF (P:Program)(s:Sem Next)(w:World)(K:Value->World->Prop):Prop:=∃ v,(∀ w',s.run P w'=.ok (.value v) w')/\K v w
theorem rF.still {s:Sem Next}{w:World}{K:Value->World->Prop}(h:rF P s w K):v8 P s w K:=let ⟨v,a,b⟩:=h;.inl ⟨v,a w,b⟩
theorem kK {s:Sem Value}{w:World}{v:Value}{K:Value->World->Prop}(h:∀ w',s.run P w'=.ok v w')(hK:K v w):rF P (do pure (.value (<- s))) w K:=
 ⟨v,fun w'=>by simp[h w'],hK⟩
theorem yv {s:Sem Value}{w w':World}{v:Value}{K:Value->World->Prop}(h:s.run P w=.ok v w')(hK:K v w'):Yields P (do pure (.value (<- s))) w K:=
 .inl ⟨v,w',by simp[h],hK⟩
theorem pA {s:Sem Value}{w:World}{v:Value}{K:Value->World->Prop}(h:s.run P w=.ok v w)(hK:K v w):v8 P (do pure (.value (<- s))) w K:=
 .inl ⟨v,by simp[h],hK⟩
theorem yu {s:Sem Unit}{w w':World}{K:Value->World->Prop}(h:s.run P w=.ok () w')(hK:K undef w'):Yields P (do s;pure .skip) w K:=
 .inr (.inl ⟨w',by simp[h],hK⟩)
theorem v8.QR {s:Sem Next}{w:World}{K:Value->World->Prop}(h:v8 P s w K):Yields P s w K:=
 h.elim (fun⟨v,a,b⟩=>.inl ⟨v,w,a,b⟩) (fun⟨a,b⟩=>.inr (.inl ⟨w,a,b⟩))
theorem pB {s:Sem Value}{w:World}{K:Value->World->Prop}(h:kH P s w K):∃ v,(∀ w',s.run P w'=.ok v w')/\K v w:=by
 unfold kH at h;split at h
 ·rename_i v hv;exact⟨v,fun w'=>DU hv w',h⟩
 ·cases h
theorem qD {s:Sem Value}{w:World}{K:Value->World->Prop}(h:kH P s w K):∃ v,s.run P w=.ok v w/\K v w:=by
 unfold kH at h;split at h
 ·rename_i v hv;exact⟨v,DU hv w,h⟩
 ·cases h
theorem rG {q:Option Addr}{K:Addr->Prop}(h:jB q K):∃ a,q=some a/\K a:=by
 cases q with
 | none=>cases h
 | some a=>exact⟨a,rfl,h⟩
theorem yr {b:Bool}{A B:Prop}(h:aa b A B):(b=true->A)/\(b=false->B):=by
 cases b
 ·exact⟨fun h=>(by cases h),fun _=>h⟩
 ·exact⟨fun _=>h,fun h=>(by cases h)⟩
theorem QS {v:Option Value}{d:Int}{K:Int->Prop}(h:pz v d K):(v=none/\K d)\/∃ k i,v=some (.int k i)/\K i:=by
 unfold pz at h;split at h
 ·exact .inl ⟨rfl,h⟩
 ·exact .inr ⟨_,_,rfl,h⟩
 ·cases h
theorem yw {op:BinOp}{t:TypeId}{x y:Operand}{a b:Value}(w:World)(h1:a≠.nilIface)(h2:∀ c,a≠.agg c):(eqGuard op t x y a b).run P w=.ok () w:=by
 unfold eqGuard;cases a<;>first | exact absurd rfl h1 | exact absurd rfl (h2 _) | (cases op<;>rfl)
theorem JF {op:BinOp}{t:TypeId}{k k':IntKind}{a b:Int}(h:k=k'):(op=.quo->b≠0->∀ w,(binOp op t (.int k a) (.int k' b)).run P w=.ok (.int k (k.wrap (a.tdiv b))) w) /\
  (op=.rem->b≠0->∀ w,(binOp op t (.int k a) (.int k' b)).run P w=.ok (.int k (a.tmod b)) w):=by
 subst h;refine⟨fun ho hb w=>?_,fun ho hb w=>?_⟩<;>subst ho<;>simp[binOp,Op.intDiv,hb]
theorem Bc {t:TypeId}{k k':IntKind}{a b:Int}(hb:0<=b)(w:World):
  (binOp .shl t (.int k a) (.int k' b)).run P w=.ok (.int k (k.wrap (a * 2 ^ (min b.toNat k.bits)))) w /\
  (binOp .shr t (.int k a) (.int k' b)).run P w=.ok (.int k (a.fdiv (2 ^ (min b.toNat k.bits)))) w:=by
 have hn:¬ b<0:=by omega
 exact⟨by simp[binOp,Op.shift,hn],by simp[binOp,Op.shift,hn]⟩
theorem we {d:TypeDesc}{t:TypeId}(hd:P.underlying t=some d)(w:World):
  (∀ e p,d=.pointer e->(Op.equal t (.pointer p) (.pointer none)).run P w=.ok p.isNone w) /\
  (∀ e p l c l' c',d=.slice e->(Op.equal t (.slice p l c) (.slice none l' c')).run P w=.ok p.isNone w) /\
  (∀ k e p,d=.map k e->(Op.equal t (.map p) (.map none)).run P w=.ok p.isNone w):=by
 refine⟨fun e p h=>?_,fun e p l c l' c' h=>?_,fun k e p h=>?_⟩<;>subst h<;>unfold Op.equal Op.maxDepth<;>unfold Op.equalIn <;>
  simp only[Sem.run_bind,under hd,Result.andThen_ok]
 ·cases p<;>simp
 ·cases p<;>simp
 ·cases p<;>simp
theorem DX {e:Env}{op:BinOp}{xt:TypeId}{x y:Operand}{w:World}{K:Value->World->Prop}(h:DP P e op xt x y w K):
  ∃ v w',(do eqGuard op xt x y (e.eval x) (e.eval y);binOp op xt (e.eval x) (e.eval y):Sem Value).run P w=.ok v w'/\K v w' /\
   (vX P xt=false->w'=w/\∀ w2,(do eqGuard op xt x y (e.eval x) (e.eval y);binOp op xt (e.eval x) (e.eval y):Sem Value).run P w2=.ok v w2):=by
 unfold DP at h;split at h
 ·rename_i hr
  obtain⟨b,w',ik,hK⟩:=h.out;exact⟨_,w',ik,hK,fun hf=>by rw[hr] at hf;cases hf⟩
 ·rename_i hr
  have pk:∀ {s:Sem Value},kH P s w K->∃ v w',s.run P w=.ok v w'/\K v w'/\(vX P xt=false->w'=w/\∀ w2,s.run P w2=.ok v w2):=fun h=>
   let ⟨v,a,b⟩:=pB h;⟨v,w,a w,b,fun _=>⟨rfl,a⟩⟩
  have al:∀ {s:Sem Value} {v:Value},(∀ w2,s.run P w2=.ok v w2)->K v w->∃ v w',s.run P w=.ok v w'/\K v w'/\(vX P xt=false->w'=w/\∀ w2,s.run P w2=.ok v w2):=fun{s v} a b=>⟨v,w,a w,b,fun _=>⟨rfl,a⟩⟩;split at h
  case h_1 k a k' b ex ey=>
   rw[ex,ey];have g1:∀ w,(eqGuard op xt x y (.int k a) (.int k' b)).run P w=.ok () w:=fun w=>yw w (by simp) (by simp);split at h
   case h_1 U=>
    have yx:k=k':=of_decide_eq_true U;subst yx;split at h
    ·obtain⟨hb,hK⟩:=h.out;exact al (fun w2=>by simp only[Sem.run_bind,g1 w2,Result.andThen_ok];exact(JF rfl).1 rfl hb w2) hK
    ·obtain⟨hb,hK⟩:=h.out;exact al (fun w2=>by simp only[Sem.run_bind,g1 w2,Result.andThen_ok];exact(JF rfl).2 rfl hb w2) hK
    ·obtain⟨hb,hK⟩:=h.out;exact al (fun w2=>by simp only[Sem.run_bind,g1 w2,Result.andThen_ok];exact(Bc hb w2).1) hK
    ·obtain⟨hb,hK⟩:=h.out;exact al (fun w2=>by simp only[Sem.run_bind,g1 w2,Result.andThen_ok];exact(Bc hb w2).2) hK
    ·exact pk h
   case h_2 U=>
    split at h
    ·obtain⟨hb,hK⟩:=h.out;exact al (fun w2=>by simp only[Sem.run_bind,g1 w2,Result.andThen_ok];exact(Bc hb w2).1) hK
    ·obtain⟨hb,hK⟩:=h.out;exact al (fun w2=>by simp only[Sem.run_bind,g1 w2,Result.andThen_ok];exact(Bc hb w2).2) hK
    ·cases h
  case h_2 a b ex ey=>
   rw[ex,ey];have g1:∀ w,(eqGuard op xt x y (.string a) (.string b)).run P w=.ok () w:=fun w=>yw w (by simp) (by simp);split at h
   ·obtain⟨hb,hK⟩:=h.out
    refine al (fun w2=>?_) hK;have gJ:¬ ((a.size+b.size:Nat):Int) > IntKind.i64.max:=by omega
    simp only[Sem.run_bind,g1 w2,Result.andThen_ok,binOp,Op.stringOp];rw[if_neg gJ];rfl
   ·exact pk h
  case h_3 a b ex ey=>rw[ex,ey];exact pk h
  case h_4 p ex ey=>
   rw[ex,ey];have g1:∀ op w,(eqGuard op xt x y (.pointer p) (.pointer none)).run P w=.ok () w:=fun op w=>yw w (by simp) (by simp);split at h
   case h_1 hu=>exact al (fun w2=>by simp[g1,binOp,(we hu w2).1 _ p rfl]) h
   case h_2 hu=>exact al (fun w2=>by simp[g1,binOp,(we hu w2).1 _ p rfl]) h
   case h_3=>cases h
  case h_5 p l c l' c' ex ey=>
   rw[ex,ey];have g1:∀ op w,(eqGuard op xt x y (.slice p l c) (.slice none l' c')).run P w=.ok () w:=fun op w=>yw w (by simp) (by simp);split at h
   case h_1 hu=>exact al (fun w2=>by simp[g1,binOp,(we hu w2).2.1 _ p l c l' c' rfl]) h
   case h_2 hu=>exact al (fun w2=>by simp[g1,binOp,(we hu w2).2.1 _ p l c l' c' rfl]) h
   case h_3=>cases h
  case h_6 p ex ey=>
   rw[ex,ey];have g1:∀ op w,(eqGuard op xt x y (.map p) (.map none)).run P w=.ok () w:=fun op w=>yw w (by simp) (by simp);split at h
   case h_1 hu=>exact al (fun w2=>by simp[g1,binOp,(we hu w2).2.2 _ _ p rfl]) h
   case h_2 hu=>exact al (fun w2=>by simp[g1,binOp,(we hu w2).2.2 _ _ p rfl]) h
   case h_3=>cases h
  case h_7=>cases h
theorem l8 (e:Env)(xs:Array Operand):(lZ e xs).toArray=xs.map e.eval:=by
 apply Array.ext';simp[lZ]
theorem yy (k:IntKind)(n:Int)(w:World):(asIntOf (.int k n)).run P w=.ok (k,n) w:=rfl
theorem ma {k:IntKind}{i:Int}{y:Nat}{c:BoundsCode}(h0:0<=i)(h1:i<=y)(w:World):(Instr.sliceBound (.int k i) y c).run P w=.ok i.toNat w:=by
 simp only[Instr.sliceBound,Sem.run_bind,yy,Result.andThen_ok,Sem.run_ite];rw[if_pos ⟨h0,h1⟩];rfl
theorem wg {x:Value}{xt t:TypeId}{d:TypeDesc}(hd:P.underlying t=some d)(hi:∀ m,d≠.interface m)(w:World):
  (∀ v ok,x=.iface t v->(Instr.typeAssert x xt t ok).run P w=.ok (if ok then .tuple #[v,.bool true] else v) w) /\
  (∀ i z,P.info? t=some i->i.zero=some z->(x=.nilIface\/∃ u v,x=.iface u v/\u≠t)->(Instr.typeAssert x xt t true).run P w=.ok (.tuple #[z,.bool false]) w):=by
 refine⟨fun v ok h=>?_,fun i z h1 h2 h=>?_⟩
 ·subst h
  unfold Instr.typeAssert;simp only[Sem.run_bind,under hd,Result.andThen_ok];cases d<;>first | exact absurd rfl (hi _) | (simp only[if_true];cases ok<;>rfl)
 ·unfold Instr.typeAssert
  simp only[Sem.run_bind,under hd,Result.andThen_ok]
  rcases h with rfl | ⟨u,v,rfl,hu⟩
  ·cases d<;>first | exact absurd rfl (hi _) | simp[qC h1 h2]
  ·cases d<;>first | exact absurd rfl (hi _) | simp[qC h1 h2,hu]
theorem QT {el:TypeId}{d:TypeDesc}{cs:Array Value}{i:Nat}{v:Value}(hd:P.underlying el=some d)(ha:rE d=false)(hv:cs[i]? = some v)(w:World):(part el cs i).run P w=.ok v w:=by
 simp only[part,Sem.run_bind,uq hd,ha,Result.andThen_ok,Bool.false_eq_true,if_false,hv];rfl
theorem QU {f:FuncId}{args:List Value}{w:World}{K:Value->World->Prop}(h:rD P f args w K):
  ∃ xs,(callFunc f args.toArray).run P w=.ok (.enter f xs) w/\Ret P f xs w K:=by
 unfold rD at h;split at h
 case h_1 g xs fn hp hf=>
  split at h
  case h_1 hb=>
   have hg:=Nat.eq_of_beq_eq_true hb;subst hg;exact⟨xs,DU hp w,h.out.mono fun e w' ⟨v,he,x,hv,hK⟩=>⟨v,he,by rw[hv];exact hK⟩⟩
  case h_2=>cases h
 case h_2=>cases h
theorem QV {f:FuncId}{args:List Value}{w:World}{K K':Value->World->Prop}(U:∀ v w',K v w'->K' v w')(h:rD P f args w K):rD P f args w K':=by
 unfold rD at h ⊢;split at h
 case h_1 g xs fn hp hf=>
  split at h
  case h_1 hb=>exact⟨h.out.mono fun e w' ⟨v,he,x,hv,hK⟩=>⟨v,he,x,hv,U _ _ hK⟩⟩
  case h_2=>cases h
 case h_2=>cases h
theorem JG {o:Oper}{e:Env}{x:Operand}{w:World}{K:Value->World->Prop}(ho:o.op=.nilCheck x)(h:gR P o e w K):rF P (execOp e.eval o) w K:=by
 unfold gR at h;simp only[ho] at h;unfold Jv at h;simp only[execOp,ho];split at h
 case h_1 q eq=>
  obtain⟨p,rfl,hK⟩:=rG h;rw[eq];exact⟨_,fun _=>rfl,hK⟩
 case h_2 f fi ca eq=>rw[eq];exact⟨_,fun _=>rfl,h⟩
 case h_3=>cases h
theorem JH {o:Oper}{e:Env}{t:TypeId}{x i:Operand}{w:World}{K:Value->World->Prop}(ho:o.op=.indexAddr t x i)(h:gR P o e w K):rF P (execOp e.eval o) w K:=by
 unfold gR at h;simp only[ho] at h;simp only[execOp,ho];split at h
 case h_1 el hu=>
  split at h
  case h_1 base len c k i inf ex ei hi=>
   obtain⟨a,rfl,h0,h1,hK⟩:=h.out;refine kK (fun w=>?_) hK;rw[ex,ei];simp only[Instr.indexAt,Sem.run_bind,yy,under hu,Result.andThen_ok,Sem.run_pure,if_pos (And.intro h0 h1),j8 hi]
  case h_2=>cases h
 case h_2 n el hu=>
  split at h
  case h_1 q k i inf ex ei hi=>
   obtain⟨p,rfl,h⟩:=rG h;obtain⟨h0,h1,hK⟩:=h.out;refine kK (fun w=>?_) hK;rw[ex,ei];simp only[Instr.indexAt,Instr.sureAddr,Sem.run_bind,yy,under hu,Result.andThen_ok,Sem.run_pure,if_pos (And.intro h0 h1),j8 hi]
  case h_2=>cases h
 case h_3=>cases h
theorem JI {o:Oper}{e:Env}{t:TypeId}{x i:Operand}{w:World}{K:Value->World->Prop}(ho:o.op=.index t x i)(h:gR P o e w K):rF P (execOp e.eval o) w K:=by
 unfold gR at h;simp only[ho] at h;simp only[execOp,ho];split at h
 case h_1 hu=>
  split at h
  case h_1 s k i ex ei=>
   obtain⟨b,h0,h1,hK⟩:=h.out;refine kK (fun w=>?_) hK;rw[ex,ei];simp only[Instr.index,Sem.run_bind,yy,under hu,Result.andThen_ok,if_pos h0,h1];rfl
  case h_2=>cases h
 case h_2 n el hu=>
  split at h
  case h_1 cs k i inf c d ex ei hi U hd=>
   split at h
   case h_1 hb QW=>
    obtain⟨y,h0,h1,hy,hK⟩:=h.out;refine kK (fun w=>?_) hK;rw[ex,ei];have hs:=Nat.eq_of_beq_eq_true hb;have ha:rE d=false:=by cases d<;>first | rfl | cases QW
    simp only[Instr.index,Sem.run_bind,yy,under hu,Result.andThen_ok,if_pos (And.intro h0 h1),j8 hi,hs,Nat.mul_one];exact QT hd ha hy w
   case h_2=>cases h
  case h_2=>cases h
 case h_3=>cases h
theorem Bd {a b:Int}(h0:0<=b)(h:b<=a):(a - b).toNat=a.toNat - b.toNat:=by omega
theorem QX {el:TypeId}{t:TypeId}{inf:TypeInfo}{a:Option Addr}{len cap:Nat}{lo hi mx:Option Value}{l h m:Int}(hu:P.underlying t=some (.slice el))(pC:P.info? el=some inf)
  (mP:(lo=none/\l=0)\/∃ k,lo=some (.int k l)) (uu:(hi=none/\mx=none/\h=len)\/∃ k,hi=some (.int k h)) (DY:(mx=none/\m=cap)\/∃ k,mx=some (.int k m))
  (h0:0<=l) (h1:l<=h) (h2:h<=m) (h3:m<=cap) (w:World) :
  (Instr.slice t (.slice a len cap) lo hi mx).run P w=.ok (.slice (if m=l then a else a.map (·.add (l.toNat * inf.size))) (h - l).toNat (m - l).toNat) w:=by
 have e1:(if m=l then a else a.map (·.add (l.toNat * inf.size)))=(if m.toNat=l.toNat then a else a.map (·.add (l.toNat * inf.size))):=by
  by_cases hh:m=l
  ·rw[if_pos hh,if_pos (by omega)]
  ·rw[if_neg hh,if_neg (by omega)]
 have hM:0<=m:=by omega
 have hH:0<=h:=by omega
 have QY:((m.toNat:Nat):Int)=m:=Int.toNat_of_nonneg hM;have wh:((h.toNat:Nat):Int)=h:=Int.toNat_of_nonneg hH;rw[e1,Bd h0 h1,Bd h0 (by omega)];simp only[Instr.slice,Sem.run_bind,under hu,Result.andThen_ok];have hb:(Instr.sliceBounds true len cap lo hi mx).run P w=.ok (l.toNat,h.toNat,m.toNat) w:=by
  unfold Instr.sliceBounds
  rcases DY with⟨rfl,rfl⟩ | ⟨km,rfl⟩
  ·rcases uu with⟨rfl,_,rfl⟩ | ⟨kh,rfl⟩
   ·rcases mP with⟨rfl,rfl⟩ | ⟨kl,rfl⟩
    ·simp
    ·simp[ma h0 h1]
   ·have aK:=fun c=>ma (P:=P) (k:=kh) (i:=h) (y:=cap) (c:=c) hH h2 w
    rcases mP with⟨rfl,rfl⟩ | ⟨kl,rfl⟩
    ·simp[aK]
    ·simp[aK,ma (P:=P) (k:=kl) (i:=l) (y:=h.toNat) h0 (by omega)]
  ·have au:=fun c=>ma (P:=P) (k:=km) (i:=m) (y:=cap) (c:=c) hM h3 w
   rcases uu with⟨_,hx,_⟩ | ⟨kh,rfl⟩
   ·cases hx
   ·have aK:=fun c=>ma (P:=P) (k:=kh) (i:=h) (y:=m.toNat) (c:=c) hH (by omega) w
    rcases mP with⟨rfl,rfl⟩ | ⟨kl,rfl⟩
    ·simp[au,aK]
    ·simp[au,aK,ma (P:=P) (k:=kl) (i:=l) (y:=h.toNat) h0 (by omega)]
 simp only[hb,Result.andThen_ok,j8 pC,Sem.run_pure]
theorem QZ {el:TypeId}{t:TypeId}{inf:TypeInfo}{a:Addr}{n:Nat}{lo hi mx:Option Value}{l h m:Int}(hu:P.underlying t=some (.array n el))(pC:P.info? el=some inf)
  (mP:(lo=none/\l=0)\/∃ k,lo=some (.int k l)) (uu:(hi=none/\mx=none/\h=n)\/∃ k,hi=some (.int k h)) (DY:(mx=none/\m=n)\/∃ k,mx=some (.int k m))
  (h0:0<=l) (h1:l<=h) (h2:h<=m) (h3:m<=n) (w:World) :
  (Instr.sliceAt t (.pointer (some a)) lo hi mx).run P w=.ok (.slice (if m=l then some a else(some a).map (·.add (l.toNat * inf.size))) (h - l).toNat (m - l).toNat) w:=by
 have e1:(if m=l then some a else(some a).map (·.add (l.toNat * inf.size)))=some (if m.toNat=l.toNat then a else a.add (l.toNat * inf.size)):=by
  by_cases hh:m=l
  ·rw[if_pos hh,if_pos (by omega)]
  ·rw[if_neg hh,if_neg (by omega)];rfl
 have hM:0<=m:=by omega
 have hH:0<=h:=by omega
 have QY:((m.toNat:Nat):Int)=m:=Int.toNat_of_nonneg hM;have wh:((h.toNat:Nat):Int)=h:=Int.toNat_of_nonneg hH;rw[e1,Bd h0 h1,Bd h0 (by omega)];simp only[Instr.sliceAt,Instr.sureAddr,Sem.run_bind,Sem.run_pure,under hu,Result.andThen_ok];have hb:(Instr.sliceBounds false n n lo hi mx).run P w=.ok (l.toNat,h.toNat,m.toNat) w:=by
  unfold Instr.sliceBounds
  rcases DY with⟨rfl,rfl⟩ | ⟨km,rfl⟩
  ·rcases uu with⟨rfl,_,rfl⟩ | ⟨kh,rfl⟩
   ·rcases mP with⟨rfl,rfl⟩ | ⟨kl,rfl⟩
    ·simp
    ·simp[ma h0 h1]
   ·have aK:=fun c=>ma (P:=P) (k:=kh) (i:=h) (y:=n) (c:=c) hH h2 w
    rcases mP with⟨rfl,rfl⟩ | ⟨kl,rfl⟩
    ·simp[aK]
    ·simp[aK,ma (P:=P) (k:=kl) (i:=l) (y:=h.toNat) h0 (by omega)]
  ·have au:=fun c=>ma (P:=P) (k:=km) (i:=m) (y:=n) (c:=c) hM h3 w
   rcases uu with⟨_,hx,_⟩ | ⟨kh,rfl⟩
   ·cases hx
   ·have aK:=fun c=>ma (P:=P) (k:=kh) (i:=h) (y:=m.toNat) (c:=c) hH (by omega) w
    rcases mP with⟨rfl,rfl⟩ | ⟨kl,rfl⟩
    ·simp[au,aK]
    ·simp[au,aK,ma (P:=P) (k:=kl) (i:=l) (y:=h.toNat) h0 (by omega)]
 simp only[hb,Result.andThen_ok,j8 pC,Sem.run_pure]
theorem Q0 {t:TypeId}{s:ByteArray}{lo hi:Option Value}{l h:Int}(hu:P.underlying t=some .string)
  (mP:(lo=none/\l=0)\/∃ k,lo=some (.int k l)) (uu:(hi=none/\h=s.size)\/∃ k,hi=some (.int k h)) (h0:0<=l) (h1:l<=h) (h2:h<=s.size) (w:World) :
  (Instr.slice t (.string s) lo hi none).run P w=.ok (.string (s.extract l.toNat h.toNat)) w:=by
 have hH:0<=h:=by omega
 have wh:((h.toNat:Nat):Int)=h:=Int.toNat_of_nonneg hH;simp only[Instr.slice,Sem.run_bind,under hu,Result.andThen_ok,Option.isSome_none,Bool.false_eq_true,if_false];have hb:(Instr.sliceBounds false s.size s.size lo hi none).run P w=.ok (l.toNat,h.toNat,s.size) w:=by
  unfold Instr.sliceBounds
  rcases uu with⟨rfl,rfl⟩ | ⟨kh,rfl⟩
  ·rcases mP with⟨rfl,rfl⟩ | ⟨kl,rfl⟩
   ·simp
   ·simp[ma h0 h1]
  ·have aK:=fun c=>ma (P:=P) (k:=kh) (i:=h) (y:=s.size) (c:=c) hH h2 w
   rcases mP with⟨rfl,rfl⟩ | ⟨kl,rfl⟩
   ·simp[aK]
   ·simp[aK,ma (P:=P) (k:=kl) (i:=l) (y:=h.toNat) h0 (by omega)]
 simp only[hb,Sem.run_pure,Result.andThen_ok]
theorem sW {v:Option Value}{d:Int}{K:Int->Prop}(h:pz v d K):∃ i,K i/\((v=none/\i=d)\/∃ k,v=some (.int k i)):=by
 rcases QS h with⟨a,b⟩ | ⟨k,i,a,b⟩
 ·exact⟨d,b,.inl ⟨a,rfl⟩⟩
 ·exact⟨i,b,.inr ⟨k,a⟩⟩
theorem JJ {t:TypeId}{d:TypeDesc}(hu:P.underlying t=some d)(hd:∀ n e,d≠.array n e){x:Value}{lo hi mx:Option Value}(w:World):
  (Instr.sliceAt t x lo hi mx).run P w=(Instr.slice t x lo hi mx).run P w:=by
 unfold Instr.sliceAt;simp only[Sem.run_bind,under hu,Result.andThen_ok]
theorem JK {o:Oper}{e:Env}{t:TypeId}{x:Operand}{lo hi mx:Option Operand}{w:World}{K:Value->World->Prop}(ho:o.op=.slice t x lo hi mx)(h:gR P o e w K):rF P (execOp e.eval o) w K:=by
 unfold gR at h;simp only[ho] at h;simp only[execOp,ho];split at h
 case h_1 hu=>
  split at h
  case h_1 s ex=>
   obtain⟨l,h,hl⟩:=sW h;obtain⟨r,h,hr⟩:=sW h;obtain⟨h0,h1,h2,hK⟩:=h.out;refine kK (fun w=>?_) hK;rw[JJ hu (by simp),ex];exact Q0 hu hl hr h0 h1 h2 w
  case h_2=>cases h
 case h_2 el hu=>
  split at h
  case h_1 a len cap inf ex pD=>
   split at h
   case h_1=>cases h
   case h_2 DZ=>
    obtain⟨l,h,hl⟩:=sW h;obtain⟨r,h,hr⟩:=sW h;obtain⟨m,h,hm⟩:=sW h;obtain⟨h0,h1,h2,h3,hK⟩:=h.out;refine kK (fun w=>?_) hK;rw[JJ hu (by simp),ex];refine QX hu pD hl ?_ hm h0 h1 h2 h3 w
    rcases hr with⟨hr,gb⟩ | hr
    ·refine .inl ⟨hr,?_,gb⟩
     cases hi with
     | some y=>simp at hr
     | none=>
      cases mx with
      | none=>rfl
      | some y=>exact(DZ _ rfl rfl).elim
    ·exact .inr hr
  case h_2=>cases h
 case h_3 n el hu=>
  split at h
  case h_1 q inf ex pD=>
   split at h
   case h_1=>cases h
   case h_2 DZ=>
    obtain⟨a,rfl,U⟩:=rG h;obtain⟨l,U,hl⟩:=sW U;obtain⟨r,U,hr⟩:=sW U;obtain⟨m,U,hm⟩:=sW U;obtain⟨h0,h1,h2,h3,hK⟩:=U.out;refine kK (fun w=>?_) hK;rw[ex];refine QZ hu pD hl ?_ hm h0 h1 h2 h3 w
    rcases hr with⟨hr,gb⟩ | hr
    ·refine .inl ⟨hr,?_,gb⟩
     cases hi with
     | some y=>simp at hr
     | none=>
      cases mx with
      | none=>rfl
      | some y=>exact(DZ _ rfl rfl).elim
    ·exact .inr hr
  case h_2=>cases h
 case h_4=>cases h
theorem JL {o:Oper}{e:Env}{w:World}{K:Value->World->Prop}(hs:A7 P o.op=true)(h:gR P o e w K):rF P (execOp e.eval o) w K:=by
 have hh:=h;unfold gR at h;cases ho:o.op<;>simp only[ho,A7,Bool.false_eq_true] at h hs
 case move x=>simp only[execOp,ho];exact⟨_,fun _=>rfl,h⟩
 case assign x=>simp only[execOp,ho];exact⟨_,fun _=>rfl,h⟩
 case pick c a b=>
  simp only[execOp,ho];split at h
  case h_1 t ec=>
   rw[ec];obtain⟨h1,h2⟩:=yr h;cases t
   ·exact⟨_,fun _=>rfl,h2 rfl⟩
   ·exact⟨_,fun _=>rfl,h1 rfl⟩
  case h_2=>cases h
 case nilCheck x=>exact JG ho hh
 case build t parts=>
  simp only[execOp,ho];obtain⟨cells,hb,h⟩:=JE h;refine kK (fun w'=>run_build w' t _ cells ?_) h;simpa using hb
 case binOp op t x y yt=>
  simp only[execOp,ho];obtain⟨v,w',hr,hK,hw⟩:=DX h;obtain⟨uv,uw⟩:=hw (by simpa using hs);subst uv;exact kK uw hK
 case convert src dst x=>
  simp only[execOp,ho];simp only[Bool.and_eq_true] at hs;split at h
  ·rename_i h1 h2;have:=hs.1;simp[isInt,h1] at this
  ·rename_i h1 h2;have:=hs.1;simp[isInt,h1] at this
  ·rename_i h1 h2;have:=hs.1;simp[isInt,h1] at this
  ·obtain⟨v,hr,hK⟩:=pB h;exact kK hr hK
 case unOp op t x=>simp only[execOp,ho];obtain⟨v,hr,hK⟩:=pB h;exact kK hr hK
 case fieldAddr s x f=>
  simp only[execOp,ho];split at h
  case h_1 q ex=>obtain⟨a,hq,h⟩:=rG h;obtain⟨v,hr,hK⟩:=pB h;rw[ex,hq];exact kK hr hK
  case h_2=>cases h
 case field t x f=>simp only[execOp,ho];obtain⟨v,hr,hK⟩:=pB h;exact kK hr hK
 case extract t i=>simp only[execOp,ho];obtain⟨v,hr,hK⟩:=pB h;obtain⟨x,rfl,D0⟩:=Kd.kF hK;exact kK hr D0
 case makeInterface t x=>simp only[execOp,ho];obtain⟨v,hr,hK⟩:=pB h;exact kK hr hK
 case makeFunc fn fi ca=>simp only[execOp,ho];exact⟨_,fun _=>by simp[Instr.makeFunc,l8],h⟩
 case indexAddr t x i=>exact JH ho hh
 case index t x i=>exact JI ho hh
 case slice t x lo hi mx=>exact JK ho hh
 case typeAssert x xt t ok=>
  simp only[execOp,ho];split at h
  case h_1=>cases h
  case h_2 d hi hu=>
   have pD:∀ m,d≠.interface m:=fun m hm=>hi m (by rw[hm]);split at h
   case h_1=>
    split at h
    case h_1 i pC=>
     split at h
     case h_1 z hz=>
      rcases h.out with⟨r,hx,hK⟩ | ⟨hx,hK⟩
      ·exact kK (fun w=>(wg hu pD w).1 _ true hx) hK
      ·exact kK (fun w=>(wg hu pD w).2 i z pC hz hx) hK
     case h_2=>cases h
    case h_2=>cases h
   case h_2=>
    rcases h.out with⟨r,hx,hK⟩ | ⟨hx,hK⟩
    ·exact kK (fun w=>(wg hu pD w).1 _ false hx) hK
    ·cases hK
  case h_3=>cases h
 case call c=>
  simp only[execOp,ho];have red:∀ (b:Builtin),c.callee=.builtin b->∀ (s:Sem Value) v,(∀ cs,builtin b c.argTypes o.type cs (c.args.map e.eval)=(do pure (.value (<- s))))->(∀ w',s.run P w'=.ok v w')->K v w ->
    rF P (do let d <- resolve e.eval c o.type;invoke d.target d.args) w K:=fun b hc s v hb hr hK=>by
   refine⟨v,fun w'=>?_,hK⟩;simp only[resolve,hc,Sem.run_bind,Sem.run_pure,Result.andThen_ok,invoke];rw[hb];simp[hr w']
  split at hs
  case h_1 hc=>
   simp only[hc] at h;obtain⟨v,hr,hK⟩:=pB h;refine red .cap hc _ v ?_ hr hK;intro _;rw[l8];rfl
  case h_2 hc=>
   simp only[hc] at h;obtain⟨v,hr,hK⟩:=pB h;refine red .min hc _ v ?_ hr hK;intro _;rw[l8];rfl
  case h_3 hc=>
   simp only[hc] at h;obtain⟨v,hr,hK⟩:=pB h;refine red .max hc _ v ?_ hr hK;intro _;rw[l8];rfl
  case h_4 hc=>
   simp only[hc] at h;split at h
   case h_1 m hl=>
    exfalso
    split at hs
    case h_1 t ht=>
     have h0:c.argTypes[0]? = some t:=by rw[<- Array.getElem?_toList,ht];rfl
     rw[h0] at h;simp only[Option.bind_some] at h;split at h
     ·rename_i hu;simp[hu] at hs
     ·exact h
    case h_2=>cases hs
   case h_2 l hl=>
    obtain⟨v,hr,hK⟩:=pB h;refine red .len hc _ v ?_ hr hK;intro _;rw[l8];rfl
  case h_5=>cases hs
theorem JM {o:Oper}{e:Env}{w:World}{K:Value->World->Prop}(hs:sS P o.op=true)(h:gR P o e w K):v8 P (execOp e.eval o) w K:=by
 have hh:=h;unfold gR at h;cases ho:o.op<;>simp only[ho,sS,Bool.false_eq_true] at h hs
 case move x=>simp only[execOp,ho];exact .inl ⟨_,rfl,h⟩
 case assign x=>simp only[execOp,ho];exact .inl ⟨_,rfl,h⟩
 case pick c a b=>
  simp only[execOp,ho];split at h
  case h_1 t ec=>
   rw[ec];obtain⟨h1,h2⟩:=yr h;cases t
   ·exact .inl ⟨_,rfl,h2 rfl⟩
   ·exact .inl ⟨_,rfl,h1 rfl⟩
  case h_2=>cases h
 case load t a=>
  simp only[execOp,ho];split at h
  case h_1 q ea=>
   obtain⟨p,rfl,h⟩:=rG h;obtain⟨v,hv,hK⟩:=JB h;refine pA ?_ hK;rw[ea];simp only[Instr.loadAt,Instr.sureAddr,Sem.run_bind,Sem.run_pure,Result.andThen_ok,hv]
  case h_2=>cases h
 case nilCheck x=>exact(JG ho hh).still
 case build t parts=>
  simp only[execOp,ho];obtain⟨cells,hb,h⟩:=JE h;refine pA (run_build w t _ cells ?_) h;simpa using hb
 case binOp op t x y yt=>
  simp only[execOp,ho];obtain⟨v,w',hr,hK,hw⟩:=DX h;have:=(hw (by simpa using hs)).1;subst this;exact pA hr hK
 case unOp op t x=>simp only[execOp,ho];obtain⟨v,hr,hK⟩:=qD h;exact pA hr hK
 case fieldAddr s x f=>
  simp only[execOp,ho];split at h
  case h_1 q ex=>obtain⟨a,hq,h⟩:=rG h;obtain⟨v,hr,hK⟩:=qD h;rw[ex,hq];exact pA hr hK
  case h_2=>cases h
 case field t x f=>simp only[execOp,ho];obtain⟨v,hr,hK⟩:=qD h;exact pA hr hK
 case extract t i=>simp only[execOp,ho];obtain⟨v,hr,hK⟩:=qD h;obtain⟨x,rfl,D0⟩:=Kd.kF hK;exact pA hr D0
 case makeInterface t x=>simp only[execOp,ho];obtain⟨v,hr,hK⟩:=qD h;exact pA hr hK
 case makeFunc fn fi ca=>simp only[execOp,ho];exact .inl ⟨_,by simp[Instr.makeFunc,l8],h⟩
 case indexAddr t x i=>exact(JH ho hh).still
 case index t x i=>exact(JI ho hh).still
 case slice t x lo hi mx=>exact(JK ho hh).still
 case typeAssert x xt t ok=>
  simp only[execOp,ho];split at h
  case h_1=>cases h
  case h_2 d hi hu=>
   have pD:∀ m,d≠.interface m:=fun m hm=>hi m (by rw[hm]);split at h
   case h_1=>
    split at h
    case h_1 i pC=>
     split at h
     case h_1 z hz=>
      rcases h.out with⟨r,hx,hK⟩ | ⟨hx,hK⟩
      ·exact pA ((wg hu pD w).1 _ true hx) hK
      ·exact pA ((wg hu pD w).2 i z pC hz hx) hK
     case h_2=>cases h
    case h_2=>cases h
   case h_2=>
    rcases h.out with⟨r,hx,hK⟩ | ⟨hx,hK⟩
    ·exact pA ((wg hu pD w).1 _ false hx) hK
    ·cases hK
  case h_3=>cases h
 case call c=>
  simp only[execOp,ho];have red:∀ (b:Builtin),c.callee=.builtin b->∀ (s:Sem Value) v,(∀ cs,builtin b c.argTypes o.type cs (c.args.map e.eval)=(do pure (.value (<- s))))->s.run P w=.ok v w->K v w ->
    v8 P (do let d <- resolve e.eval c o.type;invoke d.target d.args) w K:=fun b hc s v hb hr hK=>by
   refine .inl ⟨v,?_,hK⟩;simp only[resolve,hc,Sem.run_bind,Sem.run_pure,Result.andThen_ok,invoke];rw[hb];simp[hr]
  split at hs
  case h_1 hc=>
   simp only[hc] at h;split at h
   case h_1 m hl=>
    have hm:c.args.map e.eval=#[.map m]:=by rw[<- l8,hl]
    split at h
    case h_1 k el hu=>
     have ux:∃ t,c.argTypes[0]? = some t/\P.underlying t=some (.map k el):=by
      cases ht:c.argTypes[0]? with
      | none=>simp[ht] at hu
      | some t=>exact⟨t,rfl,by simpa[ht] using hu⟩
     obtain⟨t,ht,kL⟩:=ux
     rcases h.out with⟨rfl,hK⟩ | ⟨r,es,cl,rfl,hh,hK⟩
     ·refine red .len hc (Builtin.len_ c.argTypes o.type #[.map none]) _ (fun _=>by rw[hm];rfl) ?_ hK
      unfold Builtin.len_;simp[ht,under kL,goInt]
     ·refine red .len hc (Builtin.len_ c.argTypes o.type #[.map (some r)]) _ (fun _=>by rw[hm];rfl) ?_ hK
      unfold Builtin.len_;simp[ht,under kL,goInt,getObj,Sem.run,hh]
    case h_2=>cases h
   case h_2 l hl=>
    obtain⟨v,hr,hK⟩:=qD h;refine red .len hc _ v ?_ hr hK;intro _;rw[l8];rfl
  case h_2 hc=>
   simp only[hc] at h;obtain⟨v,hr,hK⟩:=qD h;refine red .cap hc _ v ?_ hr hK;intro _;rw[l8];rfl
  case h_3 hc=>
   simp only[hc] at h;obtain⟨v,hr,hK⟩:=qD h;refine red .min hc _ v ?_ hr hK;intro _;rw[l8];rfl
  case h_4 hc=>
   simp only[hc] at h;obtain⟨v,hr,hK⟩:=qD h;refine red .max hc _ v ?_ hr hK;intro _;rw[l8];rfl
  case h_5=>cases hs
theorem Be {o:Oper}{e:Env}{w:World}{K:Value->World->Prop}(h:gR P o e w K):Yields P (execOp e.eval o) w K:=by
  by_cases hs:sS P o.op=true
  · exact(JM hs h).QR
  have hh:=h;unfold gR at h;cases ho:o.op<;>simp only[ho,sS,not_true,Bool.not_eq_true] at h hs
  case store t a x=>
    simp only[execOp,ho];split at h
    case h_1 q ea=>
      obtain⟨p,rfl,h⟩:=rG h;split at h
      case h_1 i pC=>
       split at h
       case h_1=>
        split at h
        case h_1 hb=>
          have hsz:1=i.size:=Nat.eq_of_beq_eq_true hb;obtain⟨h1,h⟩:=h.out;obtain⟨hw,hK⟩:=h.out;refine yu ?_ hK;rw[ea];have hr:(storeCells p (e.eval x).cells.toList 0).run P w=.ok () (setCells w p 0 [e.eval x]):=by rw[h1];exact v7 _ 0 w hw
          have hz:(e.eval x).cells.size=i.size:=by rw[h1,<- hsz];rfl
          simp only[Instr.storeAt,Instr.sureAddr,storeVar,Sem.run_bind,Sem.run_pure,Result.andThen_ok,j8 pC,hz,ne_eq,not_true,if_false,hr]
        case h_2=>cases h
       case h_2=>
        split at h
        case h_1 n el hu=>
          split at h
          case h_1 cs ex=>
            obtain⟨hsz,h⟩:=h.out;obtain⟨hw,hK⟩:=h.out;refine yu ?_ hK;rw[ea,ex];have Q1:(Value.agg cs).cells.size=i.size:=by rw[<- hsz];exact Array.length_toList.symm
            have hr:(storeCells p (Value.agg cs).cells.toList 0).run P w=.ok () (setCells w p 0 cs.toList):=v7 _ 0 w hw;simp only[Instr.storeAt,Instr.sureAddr,storeVar,Sem.run_bind,Sem.run_pure,Result.andThen_ok,j8 pC,Q1,ne_eq,not_true,if_false,hr]
          case h_2=>cases h
        case h_2 hu=>
          split at h
          case h_1 hb=>
            have hsz:(e.eval x).cells.size=i.size:=Nat.eq_of_beq_eq_true hb;have sv:∀ w',(storeCells p (e.eval x).cells.toList 0).run P w=.ok () w'->K undef w'->Yields P (do Instr.storeAt t (e.eval a) (e.eval x);pure .skip) w K:=fun w' hr hK=>by
              refine yu ?_ hK;rw[ea];simp only[Instr.storeAt,Instr.sureAddr,storeVar,Sem.run_bind,Sem.run_pure,Result.andThen_ok,j8 pC,hsz,ne_eq,not_true,if_false,hr]
            split at h
            case h_1 cs ex=>
              obtain⟨hw,hK⟩:=h.out;exact sv _ (by rw[ex];exact v7 _ 0 w hw) hK
            case h_2=>cases h
            case h_3 Q2 hnt=>
              obtain⟨h1,h2,h3,hK⟩:=h.out;refine sv _ ?_ hK;have hc:(e.eval x).cells.toList=[e.eval x]:=by
                cases hx:e.eval x<;>first | rfl | exact(Q2 _ hx).elim
              rw[hc];simp only[storeCells,Sem.run_bind];have ha:p.add 0=p:=by simp[Addr.add]
              rw[ha,JC h1 h2 h3];rfl
          case h_2=>cases h
      case h_2=>cases h
    case h_2=>cases h
  case alloc t=>
    simp only[execOp,ho];split at h
    case h_1 i hi=>
      split at h
      case h_1 z hz=>
        refine yv ?_ h.out;simp[Instr.alloc,qC hi hz,newVar,newRow,newObj,Sem.run]
      case h_2=>cases h
    case h_2=>cases h
  case box t x=>
    simp only[execOp,ho];split at h
    · obtain⟨h1,h⟩:=h.out
      exact yv (by simp[Instr.box,newVar,newRow,newObj,Sem.run,h1]) h.out
    · exact yv (by simp[Instr.box,newVar,newRow,newObj,Sem.run]) h.out
  case binOp op t x y yt=>
    simp only[execOp,ho];obtain⟨v,w',hr,hK,_⟩:=DX h;exact yv hr hK
  case makeMap t r=>
    cases r with
    | none=>
      simp only[execOp,ho];exact yv (by simp[Instr.makeMap,newObj,Sem.run]) h.out
    | some r=>exact h.elim
  case convert src dst x=>
    simp only[execOp,ho];split at h
    · obtain⟨v,w',hr,hK⟩:=h.out;exact yv hr hK
    · obtain⟨v,w',hr,hK⟩:=h.out;exact yv hr hK
    · obtain⟨v,w',hr,hK⟩:=h.out;exact yv hr hK
    · obtain⟨v,hr,hK⟩:=qD h;exact yv hr hK
  case makeSlice t l c=>simp only[execOp,ho];obtain⟨v,w',hr,hK⟩:=h.out;exact yv hr hK
  case buildSlice t n parts=>
    simp only[execOp,ho];obtain⟨v,w',hr,hK⟩:=h.out;refine yv ?_ hK;have:(parts.toList.map fun(i,x)=>(i,e.eval x)).toArray=parts.map fun(i,x)=>(i,e.eval x):=by
      apply Array.ext';simp
    rw[this] at hr;exact hr
  case lookup t x i ok=>simp only[execOp,ho];obtain⟨v,w',hr,hK⟩:=h.out;exact yv hr hK
  case mapEntry t m k=>simp only[execOp,ho];obtain⟨v,w',hr,hK⟩:=h.out;exact yv hr hK
  case entryStore t m k x=>simp only[execOp,ho];obtain⟨w',hr,hK⟩:=h.out;exact yu hr hK
  case mapUpdate t m k x=>simp only[execOp,ho];obtain⟨w',hr,hK⟩:=h.out;exact yu hr hK
  case insert t m k x=>simp only[execOp,ho];obtain⟨w',hr,hK⟩:=h.out;exact yu hr hK
  case range t x=>simp only[execOp,ho];obtain⟨v,w',hr,hK⟩:=h.out;exact yv hr hK
  case next it s=>
    simp only[execOp,ho];split at h
    case h_1=>
      split at h
      case h_1 q Q3=>
        obtain⟨r,s,pos,rfl,hr,hK⟩:=h.out;rw[Q3]
        by_cases hp:pos<s.size
        · rw[if_pos hp] at hK
          refine yv ?_ hK;simp only[Instr.next,Sem.run_bind,getObj,Sem.run,hr,Result.andThen_ok,if_pos hp,setObj,Sem.run_pure];rfl
        · rw[if_neg hp] at hK
          refine yv (v:=.tuple #[.bool false]) (w':=w) ?_ hK;simp only[Instr.next,Sem.run_bind,getObj,Sem.run,hr,Result.andThen_ok,if_neg hp,Sem.run_pure]
      case h_2=>cases h
    case h_2=>
      rcases h.out with⟨k,v,w',hr,hK⟩ | ⟨w',hr,hK⟩
      · exact yv hr hK
      · exact yv hr hK
  case entry it=>simp only[execOp,ho];obtain⟨v,w',hr,hK⟩:=h.out;exact yv hr hK
  case call c=>
    simp only[execOp,ho];have red:∀ (b:Builtin),c.callee=.builtin b->∀ (s:Sem Value) v w',(∀ cs,builtin b c.argTypes o.type cs (c.args.map e.eval)=(do pure (.value (<- s))))->s.run P w=.ok v w'->K v w' ->
        Yields P (do let d <- resolve e.eval c o.type;invoke d.target d.args) w K:=fun b hc s v w' hb hr hK=>by
      refine .inl ⟨v,w',?_,hK⟩;simp only[resolve,hc,Sem.run_bind,Sem.run_pure,Result.andThen_ok,invoke];rw[hb];simp[hr]
    split at h
    case h_1 hc=>
      obtain⟨v,w',hr,hK⟩:=h.out;exact red .append hc _ _ w' (fun _=>by rw[l8];rfl) hr hK
    case h_2 hc=>
      obtain⟨v,w',hr,hK⟩:=h.out;exact red .copy hc _ _ w' (fun _=>by rw[l8];rfl) hr hK
    case h_3 hc=>
      obtain⟨v,w',hr,hK⟩:=h.out;exact red .delete hc _ _ w' (fun _=>by rw[l8];rfl) hr hK
    case h_4 hc=>simp[hc] at hs
    case h_5 hc=>simp[hc] at hs
    case h_6 hc=>simp[hc] at hs
    case h_7 hc=>simp[hc] at hs
    case h_8 x hc=>
      have go:∀ {f fi ca},e.eval x=.func (.func f) fi ca->rD P f (fi.toList++lZ e c.args++ca.toList) w K->Yields P (do let d <- resolve e.eval c o.type;invoke d.target d.args) w K:=fun{f fi ca} ex h=>by
        obtain⟨xs,hr,hK⟩:=QU h;refine .inr (.inr ⟨f,xs,?_,hK⟩);have hargs:(fi.toList++lZ e c.args++ca.toList).toArray=fi++c.args.map e.eval++ca:=by
          rw[<- l8];apply Array.ext';simp
        rw[hargs] at hr;simp only[resolve,hc,ex,Deferred.ofValue,Sem.run_bind,Sem.run_pure,Result.andThen_ok,invoke,hr]
      split at h
      case h_1 u=>
        unfold kI at h;split at h
        case h_1 f fi ca ex=>exact go ex (QV (fun v w' hv=>by obtain⟨y,rfl,hy⟩:=Rk.kF hv;exact hy) h)
        case h_2=>cases h
      case h_2=>
        split at h
        case h_1 f fi ca ex=>exact go ex h
        case h_2=>cases h
    case h_9=>cases h
  all_goals first | (exact absurd hs (by simp)) | (exact h.elim)
theorem Q4 {n:Nat}{o:Oper}{e:Env}{a:Act}{w:World}{K:Value->World->Prop}{next:Act->World->Prop}{Q:Exit->Act->World->Prop}(hr:dd n e a)(h:gR P o e w K)
  (hK:∀ v w',K v w'->next (a.put o.dst v) w'):o.wp P a w next Q:=by
 unfold Oper.wp;rw[hr.eval]
 rcases Be h with⟨v,w',ik,U⟩ | ⟨w',ik,U⟩ | ⟨f,args,ik,U⟩
 ·rw[ik];exact hK _ _ U
 ·rw[ik];exact hK _ _ U
 ·rw[ik]
  exact Calls.mono U fun e w' ⟨v,he,hv⟩=>by subst he;exact hK _ _ hv
theorem Q5 {n:Nat}{o:Oper}{e:Env}{a:Act}{w:World}{K:Value->World->Prop}{next:Act->Prop}(hr:dd n e a)(hs:sS P o.op=true)(h:gR P o e w K)
  (hK:∀ v,K v w->next (a.put o.dst v)):o.still P a w next:=by
 unfold Oper.still;rw[hr.eval]
 rcases JM hs h with⟨v,ik,U⟩ | ⟨ik,U⟩
 ·rw[ik];exact⟨rfl,hK _ U⟩
 ·rw[ik];exact⟨rfl,hK _ U⟩
theorem dd.yielded {n:Nat}{e:Env}{a:Act}(h:dd n e a)(ops:Array Oper)(j:Nat):
  Go.yielded ops a.tmps j=match (ops[j]?).bind (·.dst) with
   | none=>none
   | some d=>match e.get d with | .bool b=>some b | _=>none:=by
 unfold Go.yielded;cases hd:(ops[j]?).bind (·.dst) with
 | none=>simp
 | some d=>
  simp only[Option.bind_some];rw[<- h.get d,Array.getD_eq_getD_getElem?];cases ht:a.tmps[d]? with
  | none=>simp[undef]
  | some v=>simp only[Option.getD_some];cases v<;>rfl
theorem dd.lit {n:Nat}{e:Env}{a:Act}(h:dd n e a){d:Nat}{v:Value}(hv:e.get d=v):dd n (e.put (some d) v) a:=
 ⟨h.size,h.defers,fun t=>by rw[Env.A5,h.get];by_cases ht:t=d<;>simp[ht,hv]⟩
theorem Bf (e:Env)(dst:Option Nat)(v:Value){t:Nat}(h:t ∉ dst.toList):(e.put dst v).get t=e.get t:=by
 cases dst with
 | none=>rfl
 | some d=>rw[Env.A5,if_neg (by simpa using h)]
theorem oF {e:Env}{d:Nat}{v:Value}(hv:e.get d=v)(t:Nat):(e.put (some d) v).get t=e.get t:=by
 rw[Env.A5];by_cases ht:t=d<;>simp[ht,hv]
def oG (l:List Oper):List Nat:=l.filterMap (·.dst)
theorem D1 {o:Oper}{l:List Oper}{t:Nat}(h:t ∉ oG (o::l)):t ∉ o.dst.toList/\t ∉ oG l:=by
 unfold oG at *;cases hd:o.dst with
 | none=>simp[hd] at h;exact⟨by simp,by simpa using h⟩
 | some d=>
  simp[hd] at h;exact⟨by simpa using fun x=>h.1 x,by simpa using h.2⟩
theorem JN {n:Nat}{ops:Array Oper}{o:Oper}{rest:List Oper}{e:Env}{a:Act}{w:World}{K:Env->World->Prop}(hr:dd n e a)(h:kJ P n ops (o::rest) e w K):
  (Region.wanted o (Go.yielded ops a.tmps)=true/\∃ e1,dd n e1 a/\(∀ t,e1.get t=e.get t)/\lE n o.dst=true/\gR P o e1 w fun v w'=>kJ P n ops rest (e1.put o.dst v) w' K) \/
  (Region.wanted o (Go.yielded ops a.tmps)=false/\∃ e1,dd n e1 a/\(∀ t,e1.get t=e.get t)/\lE n o.dst=true/\kJ P n ops rest (e1.put o.dst undef) w K):=by
 unfold kJ at h;split at h
 case h_1=>cases h
 case h_2 hd=>
  split at h
  case h_1 hg=>exact .inl ⟨by simp[Region.wanted,hg],e,hr,fun _=>rfl,hd,h⟩
  case h_2 j want hg=>
   have hy:=hr.yielded ops j;split at h
   case h_1=>cases h
   case h_2 d D2=>
    simp only[D2] at hy;split at h
    case h_1 b hb=>
     simp only[hb] at hy;split at h
     all_goals
      obtain⟨h1,h2⟩:=yr h;cases b
      ·first
        | exact .inr ⟨by simp[Region.wanted,hg,hy],_,hr.lit hb,oF hb,hd,h2 rfl⟩
        | exact .inl ⟨by simp[Region.wanted,hg,hy],_,hr.lit hb,oF hb,hd,h2 rfl⟩
      ·first
        | exact .inr ⟨by simp[Region.wanted,hg,hy],_,hr.lit hb,oF hb,hd,h1 rfl⟩
        | exact .inl ⟨by simp[Region.wanted,hg,hy],_,hr.lit hb,oF hb,hd,h1 rfl⟩
    case h_2 hb=>
     simp only[hb] at hy;exact .inr ⟨by simp[Region.wanted,hg,hy],e,hr,fun _=>rfl,hd,h⟩
    case h_3=>cases h
theorem D3 {n:Nat}{ops:Array Oper}{Q:Exit->Act->World->Prop}:∀ (l:List Oper) (e:Env) (a:Act) (w:World) (K:Env->World->Prop),dd n e a->kJ P n ops l e w K ->
  (∀ e' a' w',dd n e' a'->(∀ t,t ∉ oG l->e'.get t=e.get t)->K e' w'->Q .normal a' w')->wpList P ops Q l a w
 | [],e,a,w,K,hr,h,hK=>hK e a w hr (fun _ _=>rfl) h
 | o::rest,e,a,w,K,hr,h,hK=>by
  unfold wpList;have go:∀ e1 v w',dd n e1 a->(∀ t,e1.get t=e.get t)->lE n o.dst=true->kJ P n ops rest (e1.put o.dst v) w' K->wpList P ops Q rest (a.put o.dst v) w':=fun e1 v w' dO he hd h=>
   D3 rest _ _ _ K (dO.put o.dst hd v) h fun e' a' w' h1 h2 h3=>hK e' a' w' h1 (fun t ht=>by
    obtain⟨uy,uz⟩:=D1 ht;rw[h2 t uz,Bf _ _ _ uy,he t]) h3
  rcases JN hr h with⟨hw,e1,dO,he,hd,h⟩ | ⟨hw,e1,dO,he,hd,h⟩
  ·rw[if_pos hw]
   exact .inl (Q4 dO h fun v w' h=>go e1 v w' dO he hd h)
  ·rw[if_neg (by rw[hw];simp)]
   exact go e1 undef w dO he hd h
theorem D4 {n:Nat}{ops:Array Oper}{Q:Act->Prop}(tl:List Oper):∀ (l:List Oper) (e:Env) (a:Act) (w:World) (K:Env->World->Prop),l.all (fun o=>sS P o.op)=true->dd n e a ->
  kJ P n ops (l++tl) e w K ->
  (∀ e' a',dd n e' a'->(∀ t,t ∉ oG l->e'.get t=e.get t)->kJ P n ops tl e' w K->Q a')->wpStill P ops w Q l a
 | [],e,a,w,K,_,hr,h,hK=>hK e a hr (fun _ _=>rfl) h
 | o::rest,e,a,w,K,hs,hr,h,hK=>by
  simp only[List.all_cons,Bool.and_eq_true] at hs;unfold wpStill;have go:∀ e1 v,dd n e1 a->(∀ t,e1.get t=e.get t)->lE n o.dst=true->kJ P n ops (rest++tl) (e1.put o.dst v) w K->wpStill P ops w Q rest (a.put o.dst v):=fun e1 v dO he hd h=>
   D4 tl rest _ _ _ K hs.2 (dO.put o.dst hd v) h fun e' a' h1 h2 h3=>hK e' a' h1 (fun t ht=>by
    obtain⟨uy,uz⟩:=D1 ht;rw[h2 t uz,Bf _ _ _ uy,he t]) h3
  rcases JN hr h with⟨hw,e1,dO,he,hd,h⟩ | ⟨hw,e1,dO,he,hd,h⟩
  ·rw[if_pos hw]
   exact Q5 dO hs.1 h fun v h=>go e1 v dO he hd h
  ·rw[if_neg (by rw[hw];simp)]
   exact go e1 undef dO he hd h
theorem mem_iff (l:List Nat)(t:Nat):mem l t=true↔t∈l:=by
 induction l with
 | nil=>simp[mem]
 | cons u l ih=>
  unfold mem;cases hb:Nat.beq u t with
  | true=>simp[Nat.eq_of_beq_eq_true hb]
  | false=>
   have ay:t≠u:=fun h=>by rw[h] at hb;simp at hb
   simp[ih,ay]
section anyorder
variable {ops:Array Oper} {CL:Array Bool->World->Prop}
def oH (ops:Array Oper)(aI:Array Bool):Prop:=
 aI.size=ops.size/\∀ j oj,ops[j]? = some oj->aI.getD j false=true->∀ e∈oj.after,Region.binds .any e=true->aI.getD e.on false=true
theorem oH.set {aI:Array Bool}(h:oH ops aI){i:Nat}(hi:i∈Region.ready .any ops aI):oH ops (aI.setIfInBounds i true):=by
 obtain⟨_,oi,D5,hall⟩:=mem_ready.1 hi;refine⟨by simp[h.1],fun j oj hj hl e he hb=>?_⟩
 by_cases lh:i=j
 ·subst lh
  have:oj=oi:=Option.some.inj (hj.symm.trans D5);subst this;exact getD_set_true (hall e he hb)
 ·rw[getD_set_ne false lh] at hl
  exact getD_set_true (h.2 j oj hj hl e he hb)
def sX (P:Program)(ops:Array Oper)(CL:Array Bool->World->Prop)(o:Oper)(i:Nat)(v:Value)(a:Act):Prop:=
 (Region.wanted o (Go.yielded ops a.tmps)=true/\∀ aI w,oH ops aI->i∈Region.ready .any ops aI->CL aI w ->
  Yields P (execOp a.eval o) w fun u w'=>u=v/\CL (aI.setIfInBounds i true) w') \/
 (Region.wanted o (Go.yielded ops a.tmps)=false/\v=undef/\∀ aI w,oH ops aI->i∈Region.ready .any ops aI->CL aI w->CL (aI.setIfInBounds i true) w)
theorem sX.of_same {o:Oper}{i:Nat}{v:Value}{a a':Act}(h:sX P ops CL o i v a)(he:execOp a'.eval o=execOp a.eval o)(hw:Region.wanted o (Go.yielded ops a'.tmps)=Region.wanted o (Go.yielded ops a.tmps)):
  sX P ops CL o i v a':=by
 unfold sX at *;rw[he,hw];exact h
def qE (P:Program)(ops:Array Oper)(CL:Array Bool->World->Prop)(Q:Array Bool->Act->Prop):Nat->Array Bool->Act->Prop
 | 0,aI,a=>Region.ready .any ops aI=[]/\Q aI a
 | f+1,aI,a=>Region.ready .any ops aI≠[]/\∀ i∈Region.ready .any ops aI,∃ o v,ops[i]? = some o/\sX P ops CL o i v a/\qE P ops CL Q f (aI.setIfInBounds i true) (a.put o.dst v)
theorem JO {Q:Array Bool->Act->Prop}{Q':Exit->Act->World->Prop}(hQ:∀ aI a w,Q aI a->CL aI w->Q' .normal a w):∀ (f:Nat) (aI:Array Bool) (a:Act) (w:World),
  oH ops aI->CL aI w->qE P ops CL Q f aI a->wpAny P .any ops Q' f aI a w
 | 0,aI,a,w,_,hC,h=>⟨h.1,hQ _ _ _ h.2 hC⟩
 | f+1,aI,a,w,eD,hC,h=>by
  refine⟨fun h0=>absurd h0 h.1,fun i hi=>?_⟩;obtain⟨o,v,ho,hs,hn⟩:=h.2 i hi;have rest:∀ w',CL (aI.setIfInBounds i true) w'->wpAny P .any ops Q' f (aI.setIfInBounds i true) (a.put o.dst v) w':=fun w' rH=>JO hQ f _ _ w' (eD.set hi) rH hn;unfold wpOp;simp only[ho]
  rcases hs with⟨hw,hy⟩ | ⟨hw,rfl,hy⟩
  ·rw[if_pos hw]
   refine .inl ?_;unfold Oper.wp
   rcases hy aI w eD hi hC with⟨u,w',ik,rfl,rH⟩ | ⟨w',ik,rfl,rH⟩ | ⟨g,args,ik,D6⟩
   ·rw[ik];exact rest w' rH
   ·rw[ik];exact rest w' rH
   ·rw[ik]
    exact Calls.mono D6 fun e w' ⟨u,he,hu,rH⟩=>by subst he;subst hu;exact rest w' rH
  ·rw[if_neg (by rw[hw];simp)]
   exact rest w (hy aI w eD hi hC)
theorem JP {Q Q':Array Bool->Act->Prop}(hq:∀ l a,Q l a->Q' l a):∀ (f:Nat) (aI:Array Bool) (a:Act),qE P ops CL Q f aI a->qE P ops CL Q' f aI a
 | 0,_,_,h=>⟨h.1,hq _ _ h.2⟩
 | f+1,_,_,h=>⟨h.1,fun i hi=>let ⟨o,v,h1,h2,h3⟩:=h.2 i hi;⟨o,v,h1,h2,JP hq f _ _ h3⟩⟩
theorem Q6 {Q:Array Bool->Act->Prop}{i:Nat}{oi:Oper}{v:Value}(hi:ops[i]? = some oi)(pE:∀ (j:Nat) (o:Oper) cs b,ops[j]? = some o->o.op≠.select cs b):
  ∀ (f:Nat) (aI:Array Bool) (a:Act),
   (∀ j oj,ops[j]? = some oj->j≠i->aI.getD j true=false->(∀ e∈oj.after,Region.binds .any e=true->e.on≠i)->oi.apart ops oj=true) ->
   i∈Region.ready .any ops aI->sX P ops CL oi i v a->qE P ops CL Q f (aI.setIfInBounds i true) (a.put oi.dst v)->qE P ops CL Q (f+1) aI a:=by
 intro f
 induction f with
 | zero=>
  intro aI a _ hr hy H;refine⟨fun h=>(by rw[h] at hr;cases hr),fun j hj=>?_⟩
  by_cases iN:j=i
  ·subst iN;exact⟨oi,v,hi,hy,H⟩
  ·have:=ready_mono hj iN
   rw[H.1] at this;cases this
 | succ f ih=>
  intro aI a yz hr hy H;refine⟨fun h=>(by rw[h] at hr;cases hr),fun j hj=>?_⟩
  by_cases iN:j=i
  ·subst iN;exact⟨oi,v,hi,hy,H⟩
  ·obtain⟨oj,u,rI,yA,Hj⟩:=H.2 j (ready_mono hj iN)
   obtain⟨yB,jn,Bg,hall⟩:=mem_ready.1 hj;have:jn=oj:=Option.some.inj (Bg.symm.trans rI);subst this;have D7:∀ e∈jn.after,Region.binds .any e=true->e.on≠i:=fun e he hb heq=>by
    have h1:=hall e he hb;have h0:=(mem_ready.1 hr).1;rw[heq] at h1
    rcases Nat.lt_or_ge i aI.size with h' | h'
    ·simp[h'] at h0 h1;rw[h0] at h1;cases h1
    ·simp[Array.getElem?_eq_none h'] at h1
   have D8:=yz j jn rI iN yB D7;obtain⟨h1,h2,h3⟩:=Oper.apart_spec D8;refine⟨jn,u,rI,yA.of_same (execOp_put jn (fun cs b=>pE j jn cs b rI) a oi.dst v h1).symm (wanted_put jn a oi.dst v h1).symm,?_⟩;refine ih (aI.setIfInBounds j true) (a.put jn.dst u) (fun k ok U wi qF gS=>?_) (ready_mono hr (Ne.symm iN))
    (hy.of_same (execOp_put oi (fun cs b=>pE i oi cs b hi) a jn.dst u h3) (wanted_put oi a jn.dst u h3)) ?_
   ·refine yz k ok U wi ?_ gS
    by_cases sY:j=k
    ·subst sY;exact yB
    ·rw[getD_set_ne true sY] at qF;exact qF
   ·rw[Array.setIfInBounds_comm _ _ iN,<- Act.put_comm a v u h2]
    exact Hj
theorem D9 {aI:Array Bool}(eD:oH ops aI):∀ (f i:Nat),(∀ o,ops[i]? = some o->∀ e∈o.after,Region.binds .any e=true->aI.getD e.on false=true)->∀ j∈qB ops f i,aI.getD j false=true
 | 0,_,_,j,hj=>by simp[qB] at hj
 | f+1,i,hi,j,hj=>by
  unfold qB at hj;cases ho:ops[i]? with
  | none=>simp[ho] at hj
  | some o=>
   simp only[ho,List.mem_flatMap] at hj;obtain⟨e,he,hj⟩:=hj;cases hb:Region.binds .any e with
   | false=>simp[hb] at hj
   | true=>
    have hl:=hi o ho e (Array.mem_toList_iff.1 he) hb;simp only[hb,List.mem_cons] at hj
    rcases hj with rfl | hj
    ·exact hl
    ·exact D9 eD f e.on (fun o' Ea e' Eb gJ=>eD.2 e.on o' Ea hl e' Eb gJ) j hj
def mask (loud:List (Nat×Rk))(aI:Array Bool):Nat->Bool:=fun j=>mem (loud.map (·.1)) j&&aI.getD j false
theorem JQ {loud:List (Nat×Rk)}{k:Nat}:(sT loud k).isSome=mem (loud.map (·.1)) k:=by
 induction loud with
 | nil=>rfl
 | cons x l ih=>
  obtain⟨j,r⟩:=x;simp only[sT,List.map_cons,mem];cases hb:Nat.beq j k with
  | true=>rfl
  | false=>exact ih
theorem JR {loud:List (Nat×Rk)}{aI:Array Bool}{i:Nat}(hm:mem (loud.map (·.1)) i=true)(hi:i<aI.size):mask loud (aI.setIfInBounds i true)=sQ (mask loud aI) i:=by
 funext j
 unfold mask sQ;cases hb:Nat.beq j i with
 | true=>
  have:=Nat.eq_of_beq_eq_true hb;subst this;simp[hm,hi]
 | false=>
  have ay:i≠j:=fun e=>by subst e;simp at hb
  simp only[getD_set_ne false ay]
theorem JS {loud:List (Nat×Rk)}{aI:Array Bool}{i:Nat}(hm:mem (loud.map (·.1)) i=false):mask loud (aI.setIfInBounds i true)=mask loud aI:=by
 funext j
 unfold mask
 by_cases lh:i=j
 ·subst lh;simp[hm]
 ·rw[getD_set_ne false lh]
theorem JT {aI:Array Bool}{i:Nat}(h:i∈Region.ready .any ops aI):i<ops.size/\aI.getD i true=false:=by
 obtain⟨h1,o,h2,_⟩:=mem_ready.1 h;exact⟨(Array.getElem?_eq_some_iff.1 h2).1,h1⟩
theorem Q7 {aI:Array Bool}{i:Nat}(h:aI.getD i true=false):aI.getD i false=false:=by
 rcases Nat.lt_or_ge i aI.size with h' | h'
 ·simp[h'] at h ⊢;exact h
 ·simp[Array.getElem?_eq_none h'] at h
theorem Q8 {n:Nat}{loud:List (Nat×Rk)}{C:(Nat->Bool)->World->Prop}{o:Oper}{k:Nat}{e:Env}{a:Act}{w:World}{next:Value->Prop}(hr:dd n e a)
  (hwt:Region.wanted o (Go.yielded ops a.tmps)=true) (h:vY P ops loud C o k e w next) :
  ∃ v,sX P ops (fun l w=>C (mask loud l) w) o k v a/\next v:=by
 unfold vY at h;have hm:=JQ (loud:=loud) (k:=k);split at h
 case h_1 r hl=>
  rw[hl] at hm;obtain⟨x,hx,hn⟩:=h.out;refine⟨_,.inl ⟨hwt,fun aI w' eD hi hC=>?_⟩,hn⟩;obtain⟨aS,qF⟩:=JT hi;have hD:mask loud aI k=false:=by unfold mask;rw[Q7 qF];simp
  have Q9:∀ j,j∈DQ ops loud k->mask loud aI j=true:=fun j hj=>by
   unfold DQ at hj;rw[List.mem_filter] at hj;obtain⟨_,oi,D5,hall⟩:=mem_ready.1 hi;have:=D9 eD ops.size k (fun o' Ea e' Eb gJ=>by
    have:o'=oi:=Option.some.inj (Ea.symm.trans D5);subst this;exact hall e' Eb gJ) j ((mem_iff _ _).1 hj.2)
   unfold mask;rw[this,(mem_iff _ _).2 hj.1];rfl
  have hy:=Be (hx (mask loud aI) w' hD Q9 hC);rw[hr.eval];rw[<- JR hm.symm (by rw[eD.1];exact aS)] at hy;exact hy
 case h_2 hl=>
  rw[hl] at hm;split at h
  case h_1 hp=>
   obtain⟨v,hv,hn⟩:=JL hp h;refine⟨v,.inl ⟨hwt,fun aI w' _ _ hC=>.inl ⟨v,w',by rw[hr.eval];exact hv w',rfl,?_⟩⟩,hn⟩;show C (mask loud (aI.setIfInBounds k true)) w';rw[JS hm.symm];exact hC
  case h_2=>cases h
theorem JU {n:Nat}{loud:List (Nat×Rk)}{C:(Nat->Bool)->World->Prop}{w:World}{K:Env->Prop}(pE:Region.noSelect ops=true):
  ∀ (l:List Oper) (k:Nat) (aI:Array Bool) (e:Env) (a:Act),(∀ j,l[j]? = ops[k+j]?)->aI.size=ops.size->(∀ j,j<k->aI.getD j false=true)->Region.lexFrom .any ops l.length k aI=true->dd n e a ->
   lF P n ops loud C w l k e K ->
   qE P ops (fun l w=>C (mask loud l) w) (fun sZ a'=>(∀ j,j<ops.size->sZ.getD j false=true)/\∃ e',dd n e' a'/\K e'/\∀ t,t ∉ oG l->e'.get t=e.get t) l.length aI a
 | [],k,aI,e,a,hl,hsz,tb,hB,hr,h=>by
  have U:ops.size<=k:=by
   have h0:=hl 0;simp at h0;exact h0
  exact⟨by simpa[Region.lexFrom] using hB,fun j hj=>tb j (by omega),e,hr,h,fun _ _=>rfl⟩
 | o::l,k,aI,e,a,hl,hsz,tb,hB,hr,h=>by
  have h0:ops[k]? = some o:=by simpa using(hl 0).symm
  have Ra:k<ops.size:=(Array.getElem?_eq_some_iff.1 h0).1;simp only[List.length_cons,Region.lexFrom,Bool.and_eq_true] at hB;obtain⟨⟨Ec,hf⟩,Rb⟩:=hB;have yC:k∈Region.ready .any ops aI:=by simpa using Ec
  have fin:∀ e1 v,dd n e1 a->(∀ t,e1.get t=e.get t)->lE n o.dst=true->sX P ops (fun l w=>C (mask loud l) w) o k v a->lF P n ops loud C w l (k+1) (e1.put o.dst v) K ->
    qE P ops (fun l w=>C (mask loud l) w) (fun sZ a'=>(∀ j,j<ops.size->sZ.getD j false=true)/\∃ e',dd n e' a'/\K e'/\∀ t,t ∉ oG (o::l)->e'.get t=e.get t) (l.length+1) aI a:=fun e1 v dO he hd hs h=>by
   refine Q6 h0 (Region.noSelect_spec pE) l.length aI a (Region.free_spec h0 hf) yC hs ?_;have:=JU pE l (k+1) (aI.setIfInBounds k true) (e1.put o.dst v) (a.put o.dst v) (fun j=>by have:=hl (j+1);simpa[Nat.add_assoc,Nat.add_comm 1 j] using this) (by simp[hsz])
    (fun j hj=>by
     by_cases sY:k=j
     ·subst sY;simp[hsz,Ra]
     ·rw[getD_set_ne false sY];exact tb j (by omega)) Rb (dO.put o.dst hd v) h
   refine JP ?_ _ _ _ this;rintro sZ a' ⟨q1,e',q2,q3,q4⟩;exact⟨q1,e',q2,q3,fun t ht=>by
    obtain⟨uy,uz⟩:=D1 ht;rw[q4 t uz,Bf _ _ _ uy,he t]⟩
  show qE P ops _ _ (l.length+1) aI a;generalize qE P ops (fun l w=>C (mask loud l) w) (fun sZ a'=>(∀ j,j<ops.size->sZ.getD j false=true)/\∃ e',dd n e' a'/\K e'/\∀ t,t ∉ oG (o::l)->e'.get t=e.get t) (l.length+1) aI a=G at fin ⊢;have one:∀ e1,dd n e1 a->(∀ t,e1.get t=e.get t)->lE n o.dst=true->Region.wanted o (Go.yielded ops a.tmps)=true->vY P ops loud C o k e1 w (fun v=>lF P n ops loud C w l (k+1) (e1.put o.dst v) K)->G:=fun e1 dO he hd hw h=>by
   obtain⟨v,hs,hn⟩:=Q8 dO hw h;exact fin e1 v dO he hd hs hn
  have skip:∀ e1,dd n e1 a->(∀ t,e1.get t=e.get t)->lE n o.dst=true->Region.wanted o (Go.yielded ops a.tmps)=false ->
    (match sT loud k with | some _=>sR C k (lF P n ops loud C w l (k+1) (e1.put o.dst undef) K) | none=>lF P n ops loud C w l (k+1) (e1.put o.dst undef) K)->G:=fun e1 dO he hd hw h=>by
   have hm:=JQ (loud:=loud) (k:=k);split at h
   case h_1 r mP=>
    rw[mP] at hm;refine fin e1 undef dO he hd (.inr ⟨hw,rfl,fun aI w' eD hi hC=>?_⟩) h.out.2;show C (mask loud (aI.setIfInBounds k true)) w';rw[JR hm.symm (by rw[eD.1];exact(JT hi).1)];exact h.out.1 _ _ hC
   case h_2 mP=>
    rw[mP] at hm;refine fin e1 undef dO he hd (.inr ⟨hw,rfl,fun aI w' eD hi hC=>?_⟩) h;show C (mask loud (aI.setIfInBounds k true)) w';rw[JS hm.symm];exact hC
  unfold lF at h;split at h
  case h_1=>cases h
  case h_2 hd=>
   split at h
   case h_1 hg=>exact one e hr (fun _=>rfl) hd (by simp[Region.wanted,hg]) h
   case h_2 j want hg=>
    have hy:=hr.yielded ops j;split at h
    case h_1=>cases h
    case h_2 d D2=>
     simp only[D2] at hy;split at h
     case h_1 b hb=>
      simp only[hb] at hy;split at h
      all_goals
       obtain⟨h1,h2⟩:=yr h;cases b
       ·first
         | exact skip _ (hr.lit hb) (oF hb) hd (by simp[Region.wanted,hg,hy]) (h2 rfl)
         | exact one _ (hr.lit hb) (oF hb) hd (by simp[Region.wanted,hg,hy]) (h2 rfl)
       ·first
         | exact skip _ (hr.lit hb) (oF hb) hd (by simp[Region.wanted,hg,hy]) (h1 rfl)
         | exact one _ (hr.lit hb) (oF hb) hd (by simp[Region.wanted,hg,hy]) (h1 rfl)
     case h_2 hb=>
      simp only[hb] at hy;exact skip e hr (fun _=>rfl) hd (by simp[Region.wanted,hg,hy]) h
     case h_3=>cases h
theorem JV (p:Addr)(i:Nat):(p.add i).block=p.block:=by unfold Addr.add;split<;>rfl
theorem Ed {S:Nat->Prop}{w0 w:World}(h:Kept S w0 w){p:Addr}(hp:S p.block):∀ (vs:List Value) (i:Nat),jA w0 p i vs->jA w p i vs
 | [],_,_=>trivial
 | _::vs,i,⟨h1,h2⟩=>⟨h _ _ (by rw[JV];exact hp) h1,Ed h hp vs (i+1) h2⟩
theorem Rc {S:Nat->Prop}{t:TypeId}{p:Addr}(hp:S p.block){w0:World}{K:Value->Prop}(h:ui P t p w0 fun v _=>K v):∃ v,(∀ w,Kept S w0 w->(loadVar t p).run P w=.ok v w)/\K v:=by
 unfold ui at h;split at h
 case h_1 fs i hu hi=>
  split at h
  case h_1 cs hz=>
   split at h
   case h_1 hb=>
    obtain⟨x,hx,hK⟩:=h.out;refine⟨_,fun w hw=>?_,hK⟩;have hs:=Nat.eq_of_beq_eq_true hb;simp only[loadVar,Sem.run_bind,uq hu,rE,Result.andThen_ok,if_true,j8 hi];rw[hs,<- Cs.DW _ x,ur _ (Ed hw hp _ _ hx)];rfl
   case h_2=>cases h
  case h_2=>cases h
 case h_2 hu hi=>
  obtain⟨x,hn,hx,hK⟩:=h.out;refine⟨_,fun w hw=>?_,hK⟩;simp only[loadVar,Sem.run_bind,uq hu,rE,Result.andThen_ok,if_true,j8 hi];rw[<- hn,ur _ (Ed hw hp _ _ hx)];rfl
 case h_3 d i hs ha hu hi=>
  split at h
  case h_1 c U=>
   obtain⟨x,hx,hK⟩:=h.out;refine⟨_,fun w hw=>?_,hK⟩;have hf:rE d=false:=by
    cases d<;>first | rfl | exact(hs _ rfl).elim | exact(ha _ _ rfl).elim
   simp only[loadVar,Sem.run_bind,uq hu,hf,Result.andThen_ok,Bool.false_eq_true,if_false];exact DV (hw _ _ hp hx)
  case h_2=>cases h
 case h_4=>cases h
theorem Rd {n:Nat}{o:Oper}{e:Env}{a:Act}{S:Nat->Prop}{w0:World}{K:Value->Prop}(hr:dd n e a)(h:DR P o e S w0 K):
  ∃ v,(∀ w,(A8 o.op=true->Kept S w0 w)->(execOp a.eval o).run P w=.ok (.value v) w)/\K v:=by
 rw[hr.eval];unfold DR at h;split at h
 case h_1 t x ho=>
  split at h
  case h_1 q ea=>
   obtain⟨p,rfl,h⟩:=rG h;obtain⟨v,hv,hK⟩:=Rc h.out.1 h.out.2;refine⟨v,fun w hw=>?_,hK⟩;simp only[execOp,ho,ea,Instr.loadAt,Instr.sureAddr,Sem.run_bind,Sem.run_pure,Result.andThen_ok,hv w (hw (by rw[ho];rfl))]
  case h_2=>cases h
 case h_2=>
  split at h
  case h_1 hp=>
   obtain⟨v,hv,hK⟩:=JL hp h;exact⟨v,fun w _=>hv w,hK⟩
  case h_2=>cases h
theorem Yields.mono {s:Sem Next}{w:World}{K K':Value->World->Prop}(h:Yields P s w K)(U:∀ v w',K v w'->K' v w'):Yields P s w K':=by
 rcases h with⟨v,w',a,b⟩ | ⟨w',a,b⟩ | ⟨f,args,a,b⟩
 ·exact .inl ⟨v,w',a,U _ _ b⟩
 ·exact .inr (.inl ⟨w',a,U _ _ b⟩)
 ·exact .inr (.inr ⟨f,args,a,Calls.mono b fun e w' ⟨v,he,hv⟩=>⟨v,he,U _ _ hv⟩⟩)
theorem Kept.refl (S:Nat->Prop)(w:World):Kept S w w:=fun _ _ _ h=>h
theorem Kept.trans {S:Nat->Prop}{a b c:World}(h:Kept S a b)(k:Kept S b c):Kept S a c:=fun x v hs hx=>k x v hs (h x v hs hx)
def qG (P:Program)(ops:Array Oper)(o:Oper)(a:Act)(w:World)(Φ:Value->World->Prop):Prop:=
 (Region.wanted o (Go.yielded ops a.tmps)=true/\Yields P (execOp a.eval o) w Φ)\/(Region.wanted o (Go.yielded ops a.tmps)=false/\Φ undef w)
theorem qG.mono {o:Oper}{a:Act}{w:World}{Φ Ψ:Value->World->Prop}(h:qG P ops o a w Φ)(k:∀ v w',Φ v w'->Ψ v w'):qG P ops o a w Ψ:=by
 rcases h with⟨a,b⟩ | ⟨a,b⟩
 ·exact .inl ⟨a,b.mono k⟩
 ·exact .inr ⟨a,k _ _ b⟩
def oI (P:Program)(ops:Array Oper)(S:Nat->Prop)(Q:Act->World->Prop):Nat->Array Bool->Act->World->Prop
 | 0,aI,a,w=>Region.ready .any ops aI=[]/\Q a w
 | f+1,aI,a,w=>Region.ready .any ops aI≠[]/\∀ i∈Region.ready .any ops aI,∃ o,ops[i]? = some o /\
   qG P ops o a w fun v w'=>(sU ops i=true->Kept S w w')/\oI P ops S Q f (aI.setIfInBounds i true) (a.put o.dst v) w'
theorem yD {S:Nat->Prop}{Q:Act->World->Prop}{Q':Exit->Act->World->Prop}(hQ:∀ a w,Q a w->Q' .normal a w):∀ (f:Nat) (aI:Array Bool) (a:Act) (w:World),oI P ops S Q f aI a w->wpAny P .any ops Q' f aI a w
 | 0,aI,a,w,h=>⟨h.1,hQ _ _ h.2⟩
 | f+1,aI,a,w,h=>by
  refine⟨fun h0=>absurd h0 h.1,fun i hi=>?_⟩;obtain⟨o,ho,hy⟩:=h.2 i hi;unfold wpOp;simp only[ho]
  rcases hy with⟨hw,hy⟩ | ⟨hw,hy⟩
  ·rw[if_pos hw]
   refine .inl ?_;unfold Oper.wp
   rcases hy with⟨u,w',ik,_,hn⟩ | ⟨w',ik,_,hn⟩ | ⟨g,args,ik,D6⟩
   ·rw[ik];exact yD hQ f _ _ _ hn
   ·rw[ik];exact yD hQ f _ _ _ hn
   ·rw[ik]
    exact Calls.mono D6 fun e w' ⟨u,he,_,hn⟩=>by subst he;exact yD hQ f _ _ _ hn
  ·rw[if_neg (by rw[hw];simp)]
   exact yD hQ f _ _ _ hy.2
theorem wj {S:Nat->Prop}{Q Q':Act->World->Prop}(hQ:∀ a w,Q a w->Q' a w):∀ (f:Nat) (aI:Array Bool) (a:Act) (w:World),oI P ops S Q f aI a w->oI P ops S Q' f aI a w
 | 0,_,_,_,h=>⟨h.1,hQ _ _ h.2⟩
 | f+1,_,_,_,h=>⟨h.1,fun i hi=>let ⟨o,h1,h3⟩:=h.2 i hi;⟨o,h1,h3.mono fun _ _ ⟨U,hn⟩=>⟨U,wj hQ f _ _ _ hn⟩⟩⟩
def Bh (P:Program)(ops:Array Oper)(S:Nat->Prop)(o:Oper)(v:Value)(a:Act)(w:World):Prop:=
 (Region.wanted o (Go.yielded ops a.tmps)=true/\∀ W,(A8 o.op=true->Kept S w W)->(execOp a.eval o).run P W=.ok (.value v) W)\/(Region.wanted o (Go.yielded ops a.tmps)=false/\v=undef)
theorem Bh.step {S:Nat->Prop}{o:Oper}{v:Value}{a:Act}{w:World}(h:Bh P ops S o v a w){Φ:Value->World->Prop}(k:Φ v w):qG P ops o a w Φ:=by
 rcases h with⟨h1,h2⟩ | ⟨h1,rfl⟩
 ·exact .inl ⟨h1,.inl ⟨v,w,h2 w (fun _=>Kept.refl S w),k⟩⟩
 ·exact .inr ⟨h1,k⟩
theorem Re {i s:Nat}{o:Oper}(ho:ops[s]? = some o)(hl:A8 o.op=true)(hn:s ∉ qB ops ops.size i):sU ops i=true:=by
 unfold sU;refine List.any_eq_true.2 ⟨s,List.mem_range.2 (Array.getElem?_eq_some_iff.1 ho).1,?_⟩;rw[ho];have:mem (qB ops ops.size i) s=false:=by
  cases hm:mem (qB ops ops.size i) s with
  | false=>rfl
  | true=>exact absurd ((mem_iff _ _).1 hm) hn
 simp[hl,this]
theorem JW {S:Nat->Prop}{Q:Act->World->Prop}{i:Nat}{oi:Oper}{v:Value}(hi:ops[i]? = some oi)(pE:∀ (j:Nat) (o:Oper) cs b,ops[j]? = some o->o.op≠.select cs b):
  ∀ (f:Nat) (aI:Array Bool) (a:Act) (w:World),oH ops aI ->
   (∀ j oj,ops[j]? = some oj->j≠i->aI.getD j true=false->(∀ e∈oj.after,Region.binds .any e=true->e.on≠i)->oi.apart ops oj=true) ->
   i∈Region.ready .any ops aI->Bh P ops S oi v a w->oI P ops S Q f (aI.setIfInBounds i true) (a.put oi.dst v) w->oI P ops S Q (f+1) aI a w:=by
 intro f
 induction f with
 | zero=>
  intro aI a w _ _ hr hy H;refine⟨fun h=>(by rw[h] at hr;cases hr),fun j hj=>?_⟩
  by_cases iN:j=i
  ·subst iN;exact⟨oi,hi,hy.step ⟨fun _=>Kept.refl S w,H⟩⟩
  ·have:=ready_mono hj iN
   rw[H.1] at this;cases this
 | succ f ih=>
  intro aI a w eD yz hr hy H;refine⟨fun h=>(by rw[h] at hr;cases hr),fun j hj=>?_⟩
  by_cases iN:j=i
  ·subst iN;exact⟨oi,hi,hy.step ⟨fun _=>Kept.refl S w,H⟩⟩
  ·obtain⟨oj,rI,yA⟩:=H.2 j (ready_mono hj iN)
   obtain⟨yB,jn,Bg,hall⟩:=mem_ready.1 hj;have:jn=oj:=Option.some.inj (Bg.symm.trans rI);subst this;have qF:∀ b:Bool,aI.getD i false=b->b=false:=fun b hb=>by
    have h0:=(mem_ready.1 hr).1
    rcases Nat.lt_or_ge i aI.size with h' | h'
    ·simp[h'] at h0 hb;rw[h0] at hb;exact hb.symm
    ·simp[Array.getElem?_eq_none h'] at hb;exact hb
   have D7:∀ e∈jn.after,Region.binds .any e=true->e.on≠i:=fun e he hb heq=>by
    have h1:=hall e he hb;rw[heq] at h1;exact absurd (qF _ h1) (by decide)
   have Rf:i ∉ qB ops ops.size j:=fun hm=>by
    have h1:=D9 eD ops.size j (fun o ho e he hb=>by
     have:o=jn:=Option.some.inj (ho.symm.trans Bg);subst this;exact hall e he hb) i hm
    exact absurd (qF _ h1) (by decide)
   have D8:=yz j jn rI iN yB D7;obtain⟨h1,h2,h3⟩:=Oper.apart_spec D8;unfold qG at yA;rw[execOp_put jn (fun cs b=>pE j jn cs b rI) a oi.dst v h1,wanted_put jn a oi.dst v h1] at yA;refine⟨jn,rI,qG.mono yA fun u w' ⟨yx,hn⟩=>⟨yx,?_⟩⟩;refine ih (aI.setIfInBounds j true) (a.put jn.dst u) w' (eD.set hj) (fun k ok U wi qF gS=>?_) (ready_mono hr (Ne.symm iN)) ?_ ?_
   ·refine yz k ok U wi ?_ gS
    by_cases sY:j=k
    ·subst sY;exact yB
    ·rw[getD_set_ne true sY] at qF;exact qF
   ·unfold Bh
    rw[execOp_put oi (fun cs b=>pE i oi cs b hi) a jn.dst u h3,wanted_put oi a jn.dst u h3]
    rcases hy with⟨y1,y2⟩ | y
    ·exact .inl ⟨y1,fun W hW=>y2 W fun hl=>(yx (Re hi hl Rf)).trans (hW hl)⟩
    ·exact .inr y
   ·rw[Array.setIfInBounds_comm _ _ iN,<- Act.put_comm a v u h2]
    exact hn
def HQ (n:Nat)(ops:Array Oper)(e:Env)(K:Env->World->Prop):Act->World->Prop:=fun a' w'=>∃ e',dd n e' a'/\K e' w'/\∀ t,t ∉ oG ops.toList->e'.get t=e.get t
theorem HQ.put {n:Nat}{ops:Array Oper}{e:Env}{K:Env->World->Prop}{i:Nat}{o:Oper}(ho:ops[i]? = some o)(v:Value){a:Act}{w:World}(h:HQ n ops (e.put o.dst v) K a w):HQ n ops e K a w:=by
 obtain⟨e2,q1,q2,q3⟩:=h;refine⟨e2,q1,q2,fun t ht=>?_⟩;rw[q3 t ht,Bf _ _ _ (fun hm=>ht (by
  unfold oG;refine List.mem_filterMap.2 ⟨o,?_,by simpa using hm⟩;exact Array.mem_toList_iff.2 (Array.mem_of_getElem? ho)))]
theorem HQ.same {n:Nat}{ops:Array Oper}{e e1:Env}{K:Env->World->Prop}(he:∀ t,e1.get t=e.get t){a:Act}{w:World}(h:HQ n ops e1 K a w):HQ n ops e K a w:=by
 obtain⟨e2,q1,q2,q3⟩:=h;exact⟨e2,q1,q2,fun t ht=>by rw[q3 t ht,he t]⟩
theorem Ee {n:Nat}{o:Oper}{e:Env}{a:Act}{D K:Env->Prop}(hr:dd n e a)(h:um ops o e D K):
  (Region.wanted o (Go.yielded ops a.tmps)=true/\∃ e1,dd n e1 a/\(∀ t,e1.get t=e.get t)/\D e1) \/
  (Region.wanted o (Go.yielded ops a.tmps)=false/\∃ e1,dd n e1 a/\(∀ t,e1.get t=e.get t)/\K e1):=by
 unfold um at h;split at h
 case h_1 hg=>exact .inl ⟨by simp[Region.wanted,hg],e,hr,fun _=>rfl,h⟩
 case h_2 j want hg=>
  have hy:=hr.yielded ops j;split at h
  case h_1=>cases h
  case h_2 d hd=>
   rw[hd] at hy;dsimp only at hy;split at h
   case h_1 b hb=>
    rw[hb] at hy;dsimp only at hy;split at h
    case h_1=>
     cases b with
     | true=>exact .inl ⟨by simp[Region.wanted,hg,hy],_,hr.lit hb,oF hb,h⟩
     | false=>exact .inr ⟨by simp[Region.wanted,hg,hy],_,hr.lit hb,oF hb,h⟩
    case h_2=>
     cases b with
     | true=>exact .inr ⟨by simp[Region.wanted,hg,hy],_,hr.lit hb,oF hb,h⟩
     | false=>exact .inl ⟨by simp[Region.wanted,hg,hy],_,hr.lit hb,oF hb,h⟩
   case h_2 c hc=>
    rw[hc] at hy;dsimp only at hy;exact .inr ⟨by simp[Region.wanted,hg,hy],e,hr,fun _=>rfl,h⟩
   case h_3=>cases h
theorem Rg {n:Nat}{S:Nat->Prop}{K:Env->World->Prop}(pE:Region.noSelect ops=true):∀ (h:Hp),
  (∀ (k:Nat) (aI:Array Bool) (e:Env) (a:Act) (w:World),oH ops aI->dd n e a->iM P n ops S h k [] aI e w K->oI P ops S (HQ n ops e K) k aI a w) /\
  ∀ (i:Nat) (h1 m:Hp),h=.pick i h1 m->∀ (k:Nat) (seen:List Nat) (aI:Array Bool) (e:Env) (a:Act) (w:World),oH ops aI->dd n e a->iM P n ops S h k seen aI e w K ->
   ∃ k',k=k'+1/\Region.ready .any ops aI≠[]/\∀ j∈Region.ready .any ops aI,j ∉ seen->∃ o,ops[j]? = some o /\
    qG P ops o a w fun v w'=>(sU ops j=true->Kept S w w')/\oI P ops S (HQ n ops e K) k' (aI.setIfInBounds j true) (a.put o.dst v) w':=by
 intro h
 induction h with
 | done=>
  refine⟨fun k aI e a w eD hr h=>?_,fun i h1 m he=>by cases he⟩;unfold iM at h;split at h
  case h_1 hb=>
   simp only[Bool.and_eq_true] at hb;have j9:=Nat.eq_of_beq_eq_true hb.1;subst j9;exact⟨by simpa using hb.2,e,hr,h,fun _ _=>rfl⟩
  case h_2=>cases h
 | stop=>exact⟨fun k aI e a w eD hr h=>(by unfold iM at h;cases h),fun i h1 m he=>by cases he⟩
 | last i h' ih=>
  refine⟨fun k aI e a w eD hr h=>?_,fun i h1 m he=>by cases he⟩;unfold iM at h;split at h
  case h_1 k o ho=>
   split at h
   case h_1 hb=>
    simp only[Bool.and_eq_true,List.all_eq_true,Bool.not_eq_true'] at hb;obtain⟨⟨⟨hd,hc⟩,hall⟩,Bi⟩:=hb;have me:i∈Region.ready .any ops aI:=by simpa using hc
    refine⟨fun h0=>(by rw[h0] at me;cases me),fun j hj=>?_⟩;have hm:=(mem_iff _ _).1 (hall j hj);have:j=i:=by simpa using hm
    subst this;refine⟨o,ho,?_⟩;have Rh:sU ops j=true->∀ {w w':World},Kept S w w':=fun t=>by rw[Bi] at t;cases t
    rcases Ee hr h with⟨hw,e1,dO,nO,h⟩ | ⟨hw,e1,dO,nO,h⟩
    ·refine .inl ⟨hw,?_⟩
     rw[dO.eval];exact(Be h).mono fun v w' hh=>⟨fun t=>Rh t,wj (fun a w h=>HQ.same nO (HQ.put ho v h)) _ _ _ _ (ih.1 k _ _ _ w' (eD.set me) (dO.put o.dst hd v) hh)⟩
    ·exact .inr ⟨hw,fun _=>Kept.refl S w,wj (fun a w h=>HQ.same nO (HQ.put ho undef h)) _ _ _ _ (ih.1 k _ _ _ w (eD.set me) (dO.put o.dst hd undef) h)⟩
   case h_2=>cases h
  case h_2=>cases h
 | soft i h' ih=>
  refine⟨fun k aI e a w eD hr h=>?_,fun i h1 m he=>by cases he⟩;unfold iM at h;split at h
  case h_1 k o ho=>
   split at h
   case h_1=>cases h
   case h_2 hb=>
    simp only[Bool.and_eq_true] at hb;obtain⟨⟨hd,hc⟩,hf⟩:=hb;have mono:∀ {e1:Env} (v:Value),(∀ t,e1.get t=e.get t)->∀ (k:Nat) (aI:Array Bool) (a:Act) (w:World),oI P ops S (HQ n ops (e1.put o.dst v) K) k aI a w->oI P ops S (HQ n ops e K) k aI a w:=fun v he k aI a w=>
     wj (fun a w h=>HQ.same he (HQ.put ho v h)) _ _ _ _
    rcases Ee hr h with⟨hw,e1,dO,nO,h⟩ | ⟨hw,e1,dO,nO,h⟩
    ·obtain⟨v,hv,hn⟩:=Rd dO h
     exact JW ho (Region.noSelect_spec pE) k aI a w eD (Region.free_spec ho hf) (by simpa using hc) (.inl ⟨hw,hv⟩)
      (mono v nO _ _ _ _ (ih.1 k _ _ _ w (eD.set (by simpa using hc)) (dO.put o.dst hd v) hn))
    ·exact JW ho (Region.noSelect_spec pE) k aI a w eD (Region.free_spec ho hf) (by simpa using hc) (.inr ⟨hw,rfl⟩)
      (mono undef nO _ _ _ _ (ih.1 k _ _ _ w (eD.set (by simpa using hc)) (dO.put o.dst hd undef) h))
  case h_2=>cases h
 | pick i h' m ih Ri=>
  have P2:∀ (k:Nat) (seen:List Nat) (aI:Array Bool) (e:Env) (a:Act) (w:World),oH ops aI->dd n e a->iM P n ops S (.pick i h' m) k seen aI e w K ->
    ∃ k',k=k'+1/\Region.ready .any ops aI≠[]/\∀ j∈Region.ready .any ops aI,j ∉ seen->∃ o,ops[j]? = some o /\
     qG P ops o a w fun v w'=>(sU ops j=true->Kept S w w')/\oI P ops S (HQ n ops e K) k' (aI.setIfInBounds j true) (a.put o.dst v) w':=by
   intro k seen aI e a w eD hr h;have one:i∈Region.ready .any ops aI->∀ (k:Nat) (o:Oper),ops[i]? = some o->lE n o.dst=true->(um ops o e (fun e=>gR P o e w fun v w'=>ai S w w' (iM P n ops S h' k [] (aI.setIfInBounds i true) (e.put o.dst v) w' K))
     (fun e=>iM P n ops S h' k [] (aI.setIfInBounds i true) (e.put o.dst undef) w K)) ->
     qG P ops o a w fun v w'=>(sU ops i=true->Kept S w w')/\oI P ops S (HQ n ops e K) k (aI.setIfInBounds i true) (a.put o.dst v) w':=fun me k o ho hd h=>by
    rcases Ee hr h with⟨hw,e1,dO,nO,h⟩ | ⟨hw,e1,dO,nO,h⟩
    ·refine .inl ⟨hw,?_⟩
     rw[dO.eval];exact(Be h).mono fun v w' hh=>⟨fun _=>hh.out.1,wj (fun a w h=>HQ.same nO (HQ.put ho v h)) _ _ _ _ (ih.1 k _ _ _ w' (eD.set me) (dO.put o.dst hd v) hh.out.2)⟩
    ·exact .inr ⟨hw,fun _=>Kept.refl S w,wj (fun a w h=>HQ.same nO (HQ.put ho undef h)) _ _ _ _ (ih.1 k _ _ _ w (eD.set me) (dO.put o.dst hd undef) h)⟩
   cases m with
   | stop=>
    unfold iM at h;split at h
    case h_1 k o ho=>
     split at h
     case h_1 hb=>
      simp only[Bool.and_eq_true,List.all_eq_true] at hb;obtain⟨⟨hd,hc⟩,hall⟩:=hb;have me:i∈Region.ready .any ops aI:=by simpa using hc
      refine⟨k,rfl,fun h0=>(by rw[h0] at me;cases me),fun j hj wk=>?_⟩;have hm:=(mem_iff _ _).1 (hall j hj)
      rcases List.mem_cons.1 hm with rfl | hm
      ·exact⟨o,ho,one me k o ho hd h⟩
      ·exact absurd hm wk
     case h_2=>cases h
    case h_2=>cases h
   | pick i2 h2 m2=>
    unfold iM at h;split at h
    case h_1 k o ho=>
     split at h
     case h_1=>cases h
     case h_2 hb=>
      obtain⟨k',yx,ay,hall⟩:=Ri.2 i2 h2 m2 rfl (k+1) (i::seen) aI e a w eD hr h.out.2;have:k'=k:=by omega
      subst this;refine⟨k',rfl,ay,fun j hj wk=>?_⟩
      by_cases iN:j=i
      ·subst iN;exact⟨o,ho,one hj k' o ho hb h.out.1⟩
      ·exact hall j hj (by simp[iN,wk])
    case h_2=>cases h
   | done=>unfold iM at h;cases h
   | soft i2 h2=>unfold iM at h;cases h
   | last i2 h2=>unfold iM at h;cases h
  refine⟨fun k aI e a w eD hr h=>?_,fun i1 h1 m1 he=>?_⟩
  ·obtain⟨k',rfl,ay,hall⟩:=P2 k [] aI e a w eD hr h
   exact⟨ay,fun j hj=>hall j hj (by simp)⟩
  ·cases he
   exact P2
end anyorder
theorem Rj (ds:List Nat)(l:List (Nat×Value))(t:Nat):look (nM ds l) t=if t∈ds then none else look l t:=by
 induction l with
 | nil=>simp[nM,look]
 | cons x l ih=>
  obtain⟨u,v⟩:=x;unfold nM;cases hm:mem ds u with
  | true=>
   simp only[];rw[ih,vU]
   by_cases h:t∈ds
   ·simp[h]
   ·have ay:t≠u:=fun e=>h (e ▸ (mem_iff ds u).1 hm)
    simp[h,ay]
  | false=>
   simp only[];rw[vU,vU,ih]
   by_cases h:t=u
   ·have ay:t ∉ ds:=fun hh=>by rw[h,<- mem_iff,hm] at hh;cases hh
    subst h;simp[ay]
   ·simp[h]
theorem JX {n:Nat}{e:Env}{a:Act}{ds:List Nat}(hsz:a.tmps.size=n)(Ef:a.defers=[])(Rl:∀ t,t ∉ ds->a.tmps.getD t undef=e.get t):
  ∀ (ks:List (Nat×Kd)) (s:St (ks.map (·.2))),ks.map (fun x=>a.tmps.getD x.1 undef)=St.vals (ks.map (·.2)) s ->
   dd n ⟨sV ks s (nM ds e.l),fun t=>a.tmps.getD t undef⟩ a:=by
 intro ks s hs;refine⟨hsz,Ef,fun t=>?_⟩;have key:∀ (ks:List (Nat×Kd)) (s:St (ks.map (·.2))),ks.map (fun x=>a.tmps.getD x.1 undef)=St.vals (ks.map (·.2)) s ->
   a.tmps.getD t undef=Env.get ⟨sV ks s (nM ds e.l),fun t=>a.tmps.getD t undef⟩ t:=by
  intro ks
  induction ks with
  | nil=>
   intro s _;show _=(match look (nM ds e.l) t with | some v=>v | none=>a.tmps.getD t undef)
   rw[Rj]
   by_cases h:t∈ds
   ·simp[h]
   ·simp only[h,if_false]
    have U:=Rl t h;unfold Env.get at U;cases hl:look e.l t with
    | none=>simp
    | some v=>rw[hl] at U;simp[U]
  | cons x ks ih=>
   obtain⟨u,k⟩:=x;intro s hs;have yE:a.tmps.getD u undef::ks.map (fun x=>a.tmps.getD x.1 undef)=k.val s.1::St.vals (ks.map (·.2)) s.2:=hs;injection yE with ka gk
   have hi:=ih s.2 gk;show _=(match look ((u,k.val s.1)::sV ks s.2 (nM ds e.l)) t with | some v=>v | none=>a.tmps.getD t undef)
   rw[vU]
   by_cases h:t=u
   ·subst h;simp only[if_true];exact ka
   ·simp only[h,if_false];exact hi
 exact key ks s hs
theorem Eg {n:Nat}{e:Env}{a:Act}(hr:dd n e a)(ks:List (Nat×Kd)):ks.map (fun x=>a.tmps.getD x.1 undef)=yq e ks:=by
 unfold yq;exact List.map_congr_left fun x _=>hr.get x.1
theorem Rm {n:Nat}(hm:P.follows .mixedOrders=true):∀ (c:Code) (p:aB) (e:Env) (a:Act) (w:World) (Q:Exit->Env->World->Prop),dd n e a->iz P n c p e w Q ->
  c.wp P (fun x a' w'=>∃ e',dd n e' a'/\Q x e' w'/\∀ t,t ∉ iy c->e'.get t=e.get t) a w:=by
 intro c
 induction c with
 | skip=>intro p e a w Q hr h;exact wp_skip ⟨e,hr,h,fun _ _=>rfl⟩
 | exit id=>intro p e a w Q hr h;exact wp_exit ⟨e,hr,h,fun _ _=>rfl⟩
 | ret=>intro p e a w Q hr h;exact wp_ret ⟨e,hr,h,fun _ _=>rfl⟩
 | region id ops draw=>
  intro p e a w Q hr h;unfold iz at h;split at h
  case h_1=>
   refine wp_region ?_;have hl:=wpOps_eq_wpList (P:=P) (ops:=ops) (Q:=fun x a' w'=>∃ e',dd n e' a'/\Q x e' w'/\∀ t,t ∉ iy (.region id ops false)->e'.get t=e.get t) ops.toList 0 (by simp);rw[show List.range ops.size=List.range' 0 ops.toList.length by simp[List.range_eq_range']];rw[hl];exact D3 ops.toList e a w (Q .normal) hr h fun e' a' w' h1 h2 h3=>⟨e',h1,h3,h2⟩
  case h_2=>
   split at h
   case h_1=>
    split at h
    case h_1 hb=>
     simp only[Bool.and_eq_true] at hb;refine wp_region_still hm hb.1 ?_;refine D4 [] ops.toList e a _ (Q .normal) hb.2 ⟨hr.size,hr.defers,hr.get⟩ (by simpa using h.out) fun e' a' h1 h2 h3=>⟨e',h1,h3,h2⟩
    case h_2=>cases h
   case h_2 k=>
    split at h
    case h_1 hb=>
     simp only[Bool.and_eq_true] at hb;have hw:=wp_region_still_tail (P:=P) (id:=id) (Q:=fun x a' w'=>∃ e',dd n e' a'/\Q x e' w'/\∀ t,t ∉ iy (.region id ops true)->e'.get t=e.get t) (a:=a) (w:=w) (l:=ops.toList) k hm (by simpa using hb.1);have e1:ops.toList.toArray=ops:=by simp
     rw[e1] at hw;refine hw ?_;refine D4 (ops.toList.drop k) (ops.toList.take k) e a _ (Q .normal) hb.2 hr (by rw[List.take_append_drop];exact h.out) fun e' a' h1 h2 h3=>?_;refine D3 _ e' a' _ (Q .normal) h1 h3 fun e2 a2 w2 k1 k2 k3=>⟨e2,k1,k3,fun t ht=>?_⟩;have me:∀ l:List Oper,(∀ o∈l,o∈ops.toList)->t ∉ oG l:=fun l hl tc=>ht (by
      unfold oG at tc;obtain⟨o,ho,hd⟩:=List.mem_filterMap.1 tc;exact List.mem_filterMap.2 ⟨o,hl o ho,hd⟩)
     rw[k2 t (me _ fun o ho=>List.mem_of_mem_drop ho),h2 t (me _ fun o ho=>List.mem_of_mem_take ho)]
    case h_2=>cases h
   case h_3 loud=>
    split at h
    case h_1 hb=>
     simp only[Region.lexB,Bool.and_eq_true] at hb;obtain⟨hb,lj⟩:=hb;obtain⟨C,hC,h⟩:=h.out;have hL:=JU hb.1 ops.toList 0 (Array.replicate ops.size false) e a (by simp) (by simp) (fun j hj=>by omega) (by simpa using hb.2) hr h;have JY:∀ j,(Array.replicate ops.size false).getD j false=false:=fun j=>by
      rcases Nat.lt_or_ge j ops.size with h | h<;>simp[h]
     have eD:oH ops (Array.replicate ops.size false):=⟨by simp,fun j oj _ hl=>by rw[JY] at hl;cases hl⟩;have Rn:mask loud (Array.replicate ops.size false)=fun _=>false:=by
      funext j
      unfold mask;rw[JY,Bool.and_false]
     refine wp_region_any hm ?_;refine(JO (CL:=fun l w=>C (mask loud l) w) ?_ ops.size _ a _ eD (by rw[Rn];exact hC) (by rw[show ops.size=ops.toList.length by simp];exact hL));rintro sZ a' w' ⟨tb,e',q1,q2,q3⟩ rH;refine⟨e',q1,q2 w' ?_,q3⟩;have:mask loud sZ=mem (loud.map (·.1)):=by
      funext j
      unfold mask
      rcases Nat.lt_or_ge j ops.size with hj | hj
      ·rw[tb j hj,Bool.and_true]
      ·cases Ro:mem (loud.map (·.1)) j with
       | false=>rfl
       | true=>
        have:=List.all_eq_true.1 lj j ((mem_iff _ _).1 Ro);simp[Nat.blt] at this;omega
     rw[<- this];exact rH
    case h_2=>cases h
   case h_4 hp=>
    split at h
    case h_1 hb=>
     refine wp_region_any hm ?_;obtain⟨S,h⟩:=h.out.out;have hK:=(Rg hb hp).1 ops.size (Array.replicate ops.size false) e a _ ⟨by simp,fun j oj hj hl e he hb=>by simp[Array.getD_eq_getD_getElem?,Array.getElem?_replicate] at hl;split at hl<;>simp at hl⟩ hr h
     exact yD (fun a' w' ⟨e',q1,q2,q3⟩=>⟨e',q1,q2,q3⟩) _ _ _ _ hK
    case h_2=>cases h
   case h_5=>cases h
 | seq x y Bj Bk=>
  intro p e a w Q hr h;have plain:∀ px py,iz P n x px e w (yp (fun e w=>iz P n y py e w Q) Q)->(Code.seq x y).wp P (fun x' a' w'=>∃ e',dd n e' a'/\Q x' e' w'/\∀ t,t ∉ iy (.seq x y)->e'.get t=e.get t) a w:=fun px py h=>by
   refine wp_seq (wp_mono (Bj px e a w _ hr h) ?_);rintro ex a' w' ⟨e',lG,hq,U⟩;cases ex with
   | normal=>
    refine wp_mono (Bk py e' a' w' Q lG hq) ?_;rintro JZ a2 w2 ⟨e2,gb,mQ,ft⟩;exact⟨e2,gb,mQ,fun t ht=>by simp only[iy,List.mem_append,not_or] at ht;rw[ft t ht.2,U t ht.1]⟩
   | exit i=>exact⟨e',lG,hq,fun t ht=>by simp only[iy,List.mem_append,not_or] at ht;exact U t ht.1⟩
   | ret=>exact⟨e',lG,hq,fun t ht=>by simp only[iy,List.mem_append,not_or] at ht;exact U t ht.1⟩
   | goto l=>exact hq.elim
   | panic l=>exact hq.elim
   | outgrown=>exact hq.elim
  unfold iz at h;split at h
  case h_1 px py=>exact plain px py h
  case h_2 ks px py=>
   obtain⟨J,h1,h2⟩:=h.out;refine wp_seq (wp_mono (Bj px e a w _ hr h1) ?_);rintro ex a' w' ⟨e',lG,hq,U⟩;cases ex with
   | normal=>
    obtain⟨s,hs,hJ⟩:=St.kF hq;have yF:dd n ⟨sV ks s (nM (iy x) e.l),fun t=>a'.tmps.getD t undef⟩ a':=
     JX lG.size lG.defers (fun t ht=>by rw[lG.get,U t ht]) ks s (by rw[Eg lG,hs])
    refine wp_mono (Bk py _ a' w' Q yF (h2 _ s w' hJ)) ?_;rintro JZ a2 w2 ⟨e2,gb,mQ,ft⟩;refine⟨e2,gb,mQ,fun t ht=>?_⟩;simp only[iy,List.mem_append,not_or] at ht;rw[ft t ht.2,<- yF.get,lG.get,U t ht.1]
   | exit i=>exact⟨e',lG,hq,fun t ht=>by simp only[iy,List.mem_append,not_or] at ht;exact U t ht.1⟩
   | ret=>exact⟨e',lG,hq,fun t ht=>by simp only[iy,List.mem_append,not_or] at ht;exact U t ht.1⟩
   | goto l=>exact hq.elim
   | panic l=>exact hq.elim
   | outgrown=>exact hq.elim
  case h_3=>exact plain .auto .auto h
 | cond c x y Bj Bk=>
  intro p e a w Q hr h;unfold iz at h;split at h
  case h_1 t hc=>
   have qH:a.eval c=.bool t:=by rw[hr.eval];exact hc
   have go:∀ px py,aa t (iz P n x px e w Q) (iz P n y py e w Q)->(Code.cond c x y).wp P (fun x' a' w'=>∃ e',dd n e' a'/\Q x' e' w'/\∀ t,t ∉ iy (.cond c x y)->e'.get t=e.get t) a w:=fun px py h=>by
    obtain⟨h1,h2⟩:=yr h;refine wp_cond_split qH (fun ht=>wp_mono (Bj px e a w Q hr (h1 ht)) ?_) (fun ht=>wp_mono (Bk py e a w Q hr (h2 ht)) ?_)
    all_goals
     rintro JZ a2 w2 ⟨e2,gb,mQ,ft⟩;exact⟨e2,gb,mQ,fun t ht=>by simp only[iy,List.mem_append,not_or] at ht;first | exact ft t ht.1 | exact ft t ht.2⟩
   split at h
   ·exact go _ _ h
   ·exact go _ _ h
  case h_2=>cases h
 | block id c ih=>
  intro p e a w Q hr h;have go:∀ p,iz P n c p e w (A9 id Q)->(Code.block id c).wp P (fun x' a' w'=>∃ e',dd n e' a'/\Q x' e' w'/\∀ t,t ∉ iy (.block id c)->e'.get t=e.get t) a w:=fun p h=>by
   refine wp_block (wp_mono (ih p e a w _ hr h) ?_);rintro ex a' w' ⟨e',lG,hq,U⟩;cases ex with
   | normal=>exact⟨e',lG,hq,U⟩
   | exit i=>
    unfold A9 at hq
    by_cases hi:i=id
    ·subst hi;simp only[Exit.inBlock,if_true];simp at hq;exact⟨e',lG,hq,U⟩
    ·have hb:Nat.beq i id=false:=by
      cases hb:Nat.beq i id with
      | false=>rfl
      | true=>exact absurd (Nat.eq_of_beq_eq_true hb) hi
     simp only[hb] at hq;simp only[Exit.inBlock,hi,if_false];exact⟨e',lG,hq,U⟩
   | ret=>exact⟨e',lG,hq,U⟩
   | goto l=>exact hq.elim
   | panic l=>exact hq.elim
   | outgrown=>exact hq.elim
  unfold iz at h;split at h
  ·exact go _ h
  ·exact go _ h
 | loop c ih=>
  intro p e a w Q hr h;unfold iz at h;split at h
  case h_1 ks p=>
   obtain⟨s0,qI,h⟩:=St.kF h;obtain⟨I,μ,hI,Rp⟩:=h.out;refine wp_loop (fun a' w'=>∃ s,I s w'/\a'.tmps.size=n/\a'.defers=[]/\(∀ t,t ∉ iy c->a'.tmps.getD t undef=e.get t)/\ks.map (fun x=>a'.tmps.getD x.1 undef)=St.vals (ks.map (·.2)) s)
    (fun a' w'=>@dite _ (∃ s:St (ks.map (·.2)),ks.map (fun x=>a'.tmps.getD x.1 undef)=St.vals (ks.map (·.2)) s) (Classical.propDecidable _) (fun h=>μ h.choose w') (fun _=>0))
    ⟨s0,hI,hr.size,hr.defers,fun t _=>hr.get t,by rw[Eg hr,qI]⟩ ?_
   rintro a' w' ⟨s,Rq,hsz,Ef,td,hv⟩;have yF:dd n ⟨sV ks s (nM (iy c) e.l),fun t=>a'.tmps.getD t undef⟩ a':=JX hsz Ef td ks s hv;refine wp_mono (ih p _ a' w' _ yF (Rp _ s w' Rq)) ?_;rintro ex a2 w2 ⟨e2,gb,hq,U⟩;have Eh:∀ t,t ∉ iy (.loop c)->e2.get t=e.get t:=fun t ht=>by rw[U t ht,<- yF.get,td t ht]
   cases ex with
   | normal=>
    obtain⟨s2,gk,Rr,aS⟩:=St.kF hq;have uA:ks.map (fun x=>a2.tmps.getD x.1 undef)=St.vals (ks.map (·.2)) s2:=by rw[Eg gb,gk]
    refine⟨⟨s2,Rr,gb.size,gb.defers,fun t ht=>by rw[gb.get,Eh t ht],uA⟩,?_⟩;have e1:∃ s:St (ks.map (·.2)),ks.map (fun x=>a'.tmps.getD x.1 undef)=St.vals (ks.map (·.2)) s:=⟨s,hv⟩;have Ei:∃ s:St (ks.map (·.2)),ks.map (fun x=>a2.tmps.getD x.1 undef)=St.vals (ks.map (·.2)) s:=⟨s2,uA⟩;rw[dif_pos e1,dif_pos Ei];have u1:e1.choose=s:=St.vZ (e1.choose_spec.symm.trans hv);have u2:Ei.choose=s2:=St.vZ (Ei.choose_spec.symm.trans uA);rw[u1,u2];exact aS
   | exit i=>exact⟨e2,gb,hq,Eh⟩
   | ret=>exact⟨e2,gb,hq,Eh⟩
   | goto l=>exact hq.elim
   | panic l=>exact hq.elim
   | outgrown=>exact hq.elim
  case h_2=>cases h
 | _=>intro p e a w Q hr h;exact h.elim
theorem J0:∀ (vs:List Value) (i t:Nat),look (uo i vs) t=if i<=t then vs[t - i]? else none
 | [],i,t=>by simp[uo,look]
 | v::vs,i,t=>by
  unfold uo;rw[vU,J0 vs (i+1) t]
  by_cases h:t=i
  ·subst h;simp
  ·rw[if_neg h]
   by_cases h2:i<=t
   ·rw[if_pos (by omega),if_pos h2,show t - i=(t - (i+1))+1 by omega,List.getElem?_cons_succ]
   ·rw[if_neg (by omega),if_neg h2]
theorem Rs {n:Nat}{args:List Value}(h:args.length<=n):dd n ⟨uo 0 args,fun _=>undef⟩ { tmps:=args.toArray++Array.replicate (n - args.toArray.size) undef,defers:=[] }:=by
 refine⟨by simp;omega,rfl,fun t=>?_⟩;show _=(match look (uo 0 args) t with | some v=>v | none=>undef)
 rw[J0,if_pos (Nat.zero_le _),Nat.sub_zero,Array.getD_eq_getD_getElem?,Array.getElem?_append]
 by_cases ht:t<args.length
 ·simp[ht]
 ·simp only[List.size_toArray,ht,if_false]
  rw[List.getElem?_eq_none (by omega)];simp only[Array.getElem?_replicate];split<;>rfl
theorem Rt {n:Nat}{e:Env}{a:Act}{w:World}{r:ResultVar}{K:Value->Prop}(hr:dd n e a)(h:DT P e w r K):
  ∃ v,(match r with | .tmp t=>(pure (a.tmps.getD t undef):Sem Value) | .cell x t=>do loadVar t (<- asAddr (a.tmps.getD x undef))).run P w=.ok v w/\K v:=by
 unfold DT at h;split at h
 case h_1 t=>exact⟨_,by simp only[hr.get];rfl,h⟩
 case h_2 x t=>
  split at h
  case h_1 q eq=>
   obtain⟨p,rfl,h1⟩:=rG h;obtain⟨v,hv,hK⟩:=JB (K:=fun v _=>K v) h1;refine⟨v,?_,hK⟩;simp only[hr.get,eq,asAddr,Sem.run_bind,Sem.run_pure,Result.andThen_ok,hv]
  case h_2=>cases h
theorem J6 {n:Nat}{e:Env}{a:Act}{w:World}(hr:dd n e a):∀ {rs:List ResultVar} {K:List Value->Prop},Ba P e w rs K ->
  ∃ vs,(rs.mapM (fun(r:ResultVar)=>(match r with | .tmp t=>(pure (a.tmps.getD t undef):Sem Value) | .cell x t=>do loadVar t (<- asAddr (a.tmps.getD x undef)))):Sem (List Value)).run P w=Result.ok vs w/\K vs
 | [],K,h=>⟨[],rfl,h⟩
 | r::rs,K,h=>by
  obtain⟨v,hv,h⟩:=Rt hr h;obtain⟨vs,Bl,h⟩:=J6 hr h;refine⟨v::vs,?_,h⟩;simp only[List.mapM_cons,Sem.run_bind,hv,Result.andThen_ok,Bl,Sem.run_pure]
theorem aC {f:FuncId}{fn:Func}{p:aB}{args:List Value}{w:World}{K:Value->World->Prop}(hm:P.follows .mixedOrders=true)(hf:P.funcs[f]? = some fn)
  (h:Jz P fn p args w K):Ret P f args.toArray w K:=by
 unfold Jz at h;split at h
 case h_1=>cases h
 case h_2 c hb=>
  split at h
  case h_1=>cases h
  case h_2 hle=>
   have Ej:args.length<=fn.ntmps:=Nat.le_of_ble_eq_true hle;refine calls_of_wp hf hb (wp_mono (Rm hm c p _ _ w _ (Rs Ej) h) ?_);rintro ex a' w' ⟨e',hr,hq,_⟩;have fin:Ba P e' w' fn.results.toList (fun vs=>K (oneOf vs) w')->a'.defers=[]/\∃ v,(results fn a'.tmps).run P w'=.ok v w'/\∃ u,Ending.returned v=.returned u/\K u w':=fun h=>by
    obtain⟨vs,Bl,hK⟩:=J6 hr h;refine⟨hr.defers,oneOf vs,?_,_,rfl,hK⟩;unfold results;simp only[Array.mapM_eq_mapM_toList,Sem.run_bind,Sem.run_map,Sem.run_pure];have Ru:=congrArg (fun r=>(Result.andThen r fun a w'=>Result.ok a.toArray w').andThen fun(a:Array Value) w'=>Result.ok (if h:a.size=1 then a[0] else Value.tuple a) w') Bl;refine Ru.trans ?_;simp only[Result.andThen_ok]
    congr 1
    match vs with
    | []=>rfl
    | [v]=>rfl
    | v::u::l=>rfl
   cases ex with
   | normal=>exact fin hq
   | ret=>exact fin hq
   | exit i=>exact hq.elim
   | goto l=>exact hq.elim
   | panic l=>exact hq.elim
   | outgrown=>exact hq.elim
end
end Vc
namespace Vc
theorem dP (b o n:Nat):(⟨b,o,none⟩:Addr).add n=⟨b,o+n,none⟩:=by
 unfold Addr.add;split
 ·rename_i h;subst h;rfl
 ·rfl
theorem wI {x:Int}(h1:-9223372036854775808<=x)(h2:x<=9223372036854775807):IntKind.i64.wrap x=x:=IntWalk.i64_in x ⟨h1,h2⟩
theorem wB {x:Int}(h1:0<=x)(h2:x<=255):IntKind.u8.wrap x=x:=IntWalk.u8_in x ⟨h1,h2⟩
structure Fr (S:Nat->Prop)(w w':World):Prop where
 os:w'.os=w.os
 tape:w'.tape=w.tape
 output:w'.output=w.output
 size:w.heap.size<=w'.heap.size
 block:∀ k,k<w.heap.size->¬ S k->w'.heap[k]? = w.heap[k]?
def none1:Nat->Prop:=fun _=>False
def only(b:Nat):Nat->Prop:=fun k=>k=b
theorem Fr.refl (S:Nat->Prop)(w:World):Fr S w w:=⟨rfl,rfl,rfl,Nat.le_refl _,fun _ _ _=>rfl⟩
theorem Fr.comp {S T:Nat->Prop}{a b c:World}(h:Fr S a b)(k:Fr T b c)(hT:∀ x,x<a.heap.size->T x->S x):Fr S a c:=
 ⟨k.os.trans h.os,k.tape.trans h.tape,k.output.trans h.output,Nat.le_trans h.size k.size,
  fun i hi hn=>(k.block i (Nat.lt_of_lt_of_le hi h.size) (fun t=>hn (hT i hi t))).trans (h.block i hi hn)⟩
theorem Fr.trans {S:Nat->Prop}{a b c:World}(h:Fr S a b)(k:Fr S b c):Fr S a c:=h.comp k fun _ _ t=>t
theorem Fr.mono {S T:Nat->Prop}{a b:World}(h:Fr S a b)(hT:∀ x,x<a.heap.size->S x->T x):Fr T a b:=
 ⟨h.os,h.tape,h.output,h.size,fun i hi hn=>h.block i hi (fun t=>hn (hT i hi t))⟩
theorem Fr.dh {S:Nat->Prop}{a b c:World}(h:Fr S a b)(k:Fr none1 b c):Fr S a c:=h.comp k fun _ _ t=>t.elim
theorem Fr.eL {S:Nat->Prop}{a b c:World}(h:Fr none1 a b)(k:Fr S b c):Fr S a c:=(h.mono fun _ _ t=>t.elim).trans k
theorem bQ {w:World}{b:Nat}{o:Obj}(h:w.heap[b]? = some o):b<w.heap.size:=(Array.getElem?_eq_some_iff.1 h).1
theorem Fr.ag {S:Nat->Prop}{w w':World}(f:Fr S w w'){b:Nat}{o:Obj}(h:w.heap[b]? = some o)(hn:¬ S b):w'.heap[b]? = some o:=by
 rw[f.block b (bQ h) hn];exact h
theorem Fr.af {w w':World}(f:Fr none1 w w'){b:Nat}{o:Obj}(h:w.heap[b]? = some o):w'.heap[b]? = some o:=f.ag h (fun t=>t)
theorem Fr.jD {c:Nat}{w w':World}(f:Fr (only c) w w'){b:Nat}{o:Obj}(h:w.heap[b]? = some o)(hn:b≠c):w'.heap[b]? = some o:=f.ag h hn
theorem Fr.below {w w':World}(f:Fr none1 w w'):Go.RowKit.Below w.heap.size w w':=⟨f.os,f.tape,f.output,f.size,fun k U=>f.block k U (fun t=>t)⟩
theorem Fr.fresh {b:Nat}{a w w':World}(h:Fr none1 a w)(k:Fr (only b) w w')(hb:a.heap.size<=b):Fr none1 a w':=
 h.comp k fun x hx t=>by have:x=b:=t;omega
theorem heap_setCell_same {w:World}{b i:Nat}{v:Value}{cs:Array Value}{T:TypeId}{fr:Nat×Nat}(hb:w.heap[b]? = some (.cells cs T fr)):
  (w.setCell ⟨b,i,none⟩ v).heap[b]? = some (.cells (cs.setIfInBounds i v) T fr):=by
 simp[World.setCell,Array.getElem?_modify,hb]
theorem yG (w:World)(b i:Nat)(v:Value):Fr (only b) w (w.setCell ⟨b,i,none⟩ v):=
 ⟨rfl,rfl,rfl,by simp[World.setCell],fun k _ hn=>Go.RowKit.Below.heap_setCell _ _ _ _ hn⟩
theorem pF {w:World}{b i:Nat}{cs:Array Value}{T:TypeId}{fr:Nat×Nat}(hb:w.heap[b]? = some (.cells cs T fr)):w.cell? ⟨b,i,none⟩=cs[i]? := by
 simp[World.cell?,hb]
theorem yH {w:World}{b i:Nat}{cs:Array Value}{T:TypeId}(hb:w.heap[b]? = some (.cells cs T (0,0))):w.frozen? ⟨b,i,none⟩=false:=by
 simp[World.frozen?,hb]
theorem ae.of {c:Ck}{b i:Nat}{w:World}{K:c.C->Prop}{cs:Array Value}{T:TypeId}{fr:Nat×Nat}{x:c.C}(hb:w.heap[b]? = some (.cells cs T fr))(hx:cs[i]? = some (c.val x))(h:K x):
  ae c ⟨b,i,none⟩ w K:=⟨x,by rw[pF hb,hx],h⟩
theorem ae.ah {c:Ck}{b i n:Nat}{w:World}{K:c.C->Prop}{cs:Array Value}{T:TypeId}{fr:Nat×Nat}{x:c.C}(hb:w.heap[b]? = some (.cells cs T fr))(hx:cs[i+n]? = some (c.val x))(h:K x):
  ae c ((⟨b,i,none⟩:Addr).add n) w K:=by rw[dP];exact ae.of hb hx h
theorem aA.of {b i:Nat}{v:Value}{w:World}{K:World->Prop}{cs:Array Value}{T:TypeId}(hb:w.heap[b]? = some (.cells cs T (0,0)))(hi:i<cs.size)(h1:bI v=true)
  (h:∀ w1,w1.heap[b]? = some (.cells (cs.setIfInBounds i v) T (0,0))->Fr (only b) w w1->w1.heap.size=w.heap.size->K w1):aA ⟨b,i,none⟩ v w K:=
 ⟨h1,by rw[pF hb];simp[hi],yH hb,h _ (heap_setCell_same hb) (yG _ _ _ _) (by simp[World.setCell])⟩
theorem aA.ah {b i n:Nat}{v:Value}{w:World}{K:World->Prop}{cs:Array Value}{T:TypeId}(hb:w.heap[b]? = some (.cells cs T (0,0)))(hi:i+n<cs.size)(h1:bI v=true)
  (h:∀ w1,w1.heap[b]? = some (.cells (cs.setIfInBounds (i+n) v) T (0,0))->Fr (only b) w w1->w1.heap.size=w.heap.size->K w1):aA ((⟨b,i,none⟩:Addr).add n) v w K:=by
 rw[dP];exact aA.of hb hi h1 h
theorem mf (w:World)(o:Obj):Fr none1 w { w with heap:=w.heap.push o }:=
 ⟨rfl,rfl,rfl,by simp,fun k U _=>by
  show(w.heap.push o)[k]? = _;rw[Array.getElem?_push,if_neg (by omega)]⟩
theorem ak.of {o:Obj}{w:World}{K:Nat->World->Prop}(h:∀ g w1,w.heap.size=g->w1.heap[g]? = some o->Fr none1 w w1->w1.heap.size=g+1->K g w1):ak o w K:=
 ⟨h _ _ rfl (by simp) (mf w o) (by simp)⟩
theorem aD.of {w:World}{K:World->Prop}(h:∀ w1,w1.heap=w.heap->Fr none1 w w1->K w1):aD w K:=⟨h _ rfl ⟨rfl,rfl,rfl,Nat.le_refl _,fun _ _ _=>rfl⟩⟩
theorem ab.of {P:Program}{f:FuncId}{args:Array Value}{w:World}{k:Rk}{K:k.C->World->Prop}{R:Value->World->Prop}(c:Ret P f args w R)(h:∀ v w',R v w'->∃ x,v=k.val x/\K x w'):
  ab P f args w k K:=⟨c.mono fun _ w' ⟨v,he,hv⟩=>⟨v,he,h v w' hv⟩⟩
theorem Ret.mono {P:Program}{f:FuncId}{args:Array Value}{w:World}{R R':Value->World->Prop}(c:Ret P f args w R)(h:∀ v w',R v w'->R' v w'):Ret P f args w R':=
 Calls.mono c fun _ w' ⟨v,he,hv⟩=>⟨v,he,h v w' hv⟩
theorem aa.t {b:Bool}{A B:Prop}(h:b=true)(k:A):aa b A B:=by subst h;exact k
theorem aa.f {b:Bool}{A B:Prop}(h:b=false)(k:B):aa b A B:=by subst h;exact k
theorem aa.by {b:Bool}{A B:Prop}(h:b=true->A)(k:b=false->B):aa b A B:=by cases b;exact k rfl;exact h rfl
theorem aa.yes {p:Prop}[Decidable p]{A B:Prop}(h:p)(k:A):aa (decide p) A B:=aa.t (decide_eq_true h) k
theorem aa.no {p:Prop}[Decidable p]{A B:Prop}(h:¬ p)(k:B):aa (decide p) A B:=aa.f (decide_eq_false h) k
theorem aa.dec {p:Prop}[Decidable p]{A B:Prop}(h:p->A)(k:¬ p->B):aa (decide p) A B:=aa.by (fun e=>h (of_decide_eq_true e)) (fun e=>k (of_decide_eq_false e))
theorem aa.eq {α:Type}[BEq α][LawfulBEq α]{a b:α}{A B:Prop}(h:a=b->A)(k:a≠b->B):aa (a==b) A B:=aa.by (fun e=>h (eq_of_beq e)) (fun e=>k (fun x=>by subst x;simp at e))
theorem aa.ne {α:Type}[BEq α][LawfulBEq α]{a b:α}{A B:Prop}(h:a≠b->A)(k:a=b->B):aa (a != b) A B:=by
 by_cases e:a=b
 ·exact aa.f (by simp[e]) (k e)
 ·exact aa.t (by simp[e]) (h e)
theorem aa.not {b:Bool}{A B:Prop}(h:aa b B A):aa (!b) A B:=by cases b<;>exact h
theorem bw.of {σ:Type}{body:(Nat->Value)->σ->World->(σ->World->Prop)->Prop}{s:σ}{w:World}(I:σ->World->Prop)(μ:σ->World->Nat)(h0:I s w)
  (h:∀ b s w,I s w->body b s w fun s' w'=>I s' w'/\μ s' w'<μ s w):bw σ body s w:=⟨I,μ,h0,h⟩
theorem cq.of {σ:Type}{first:(σ->World->Prop)->Prop}{rest:(Nat->Value)->σ->World->Prop}(J:σ->World->Prop)(h1:first J)(h2:∀ b s w,J s w->rest b s w):cq σ first rest:=⟨J,h1,h2⟩
theorem nP {w:World}{b:Nat}{cs:Array Value}{T:TypeId}{fr:Nat×Nat}(hb:w.heap[b]? = some (.cells cs T fr)):∀ (vs:List Value) (i:Nat),(∀ j,j<vs.length->cs[i+j]? = vs[j]?)->jA w ⟨b,0,none⟩ i vs
 | [],_,_=>trivial
 | v::vs,i,h=>by
  refine⟨?_,nP hb vs (i+1) fun j hj=>?_⟩
  ·rw[dP,pF hb]
   have:=h 0 (by simp);simpa using this
  ·have:=h (j+1) (by simp;omega)
   rw[show i+1+j=i+(j+1) by omega,this];simp
theorem aq.aE {cks:List Ck}{b:Nat}{w:World}{K:Cs cks->Prop}{T:TypeId}{fr:Nat×Nat}{x:Cs cks}(hb:w.heap[b]? = some (.cells (Cs.vals cks x).toArray T fr))(h:K x):aq cks ⟨b,0,none⟩ w K:=
 ⟨x,nP hb _ 0 fun j _=>by simp,h⟩
theorem Ek {b:Nat}{T:TypeId}:∀ (vs:List Value) (w:World) (pre cs:List Value),w.heap[b]? = some (.cells (pre++cs).toArray T (0,0))->cs.length=vs.length->vs.all bI=true ->
  pw w ⟨b,0,none⟩ pre.length vs/\(setCells w ⟨b,0,none⟩ pre.length vs).heap[b]? = some (.cells (pre++vs).toArray T (0,0))/\Fr (only b) w (setCells w ⟨b,0,none⟩ pre.length vs)/\(setCells w ⟨b,0,none⟩ pre.length vs).heap.size=w.heap.size
 | [],w,pre,cs,hb,hl,_=>by
  have:cs=[]:=by simpa using hl
  subst this;exact⟨trivial,hb,Fr.refl _ _,rfl⟩
 | v::vs,w,pre,cs,hb,hl,h1=>by
  cases cs with
  | nil=>simp at hl
  | cons c cs=>
   simp only[List.all_cons,Bool.and_eq_true] at h1;have hs:=heap_setCell_same (i:=0+pre.length) (v:=v) hb;have yE:(w.setCell ⟨b,0+pre.length,none⟩ v).heap[b]? = some (.cells ((pre++[v])++cs).toArray T (0,0)):=by
    rw[hs]
    congr 2
    apply Array.ext';simp
   obtain⟨a1,a2,a3,a4⟩:=Ek vs (w.setCell ⟨b,0+pre.length,none⟩ v) (pre++[v]) cs yE (by simpa using hl) h1.2;rw[List.length_append,List.length_singleton] at a1 a2 a3 a4;unfold pw setCells;rw[dP];refine⟨⟨h1.1,by rw[pF hb];simp,yH hb,a1⟩,by rw[a2];simp,(yG w b _ v).trans a3,by rw[a4];simp[World.setCell]⟩
theorem ar.aE {b:Nat}{vs:List Value}{w:World}{K:World->Prop}{cs:List Value}{T:TypeId}(hb:w.heap[b]? = some (.cells cs.toArray T (0,0)))(hl:cs.length=vs.length)(h1:vs.all bI=true)
  (h:∀ w1,w1.heap[b]? = some (.cells vs.toArray T (0,0))->Fr (only b) w w1->w1.heap.size=w.heap.size->K w1):ar ⟨b,0,none⟩ vs w K:=by
 obtain⟨a1,a2,a3,a4⟩:=Ek vs w [] cs hb hl h1;exact⟨a1,h _ a2 a3 a4⟩
def calm (w:World):(Nat->Bool)->World->Prop:=fun _ w'=>w.heap=w'.heap/\Fr none1 w w'
def IsInts (k:IntKind)(w:World)(a:Option Addr)(len cap:Nat)(zs:List Int):Prop:=
 (a=none/\len=0/\cap=0/\zs=[]) \/
 ∃ x,a=some x/\len<=cap/\cap<=maxLen/\zs.length=cap/\(∀ i,i<zs.length->w.cell? (x.add i)=some (.int k (zs.getD i 0)))/\∀ n∈zs,(Lit.int k n).wf=true
def IsStrs (w:World)(a:Option Addr)(len cap:Nat)(zs:List ByteArray):Prop:=
 (a=none/\len=0/\cap=0/\zs=[]) \/
 ∃ x,a=some x/\len<=cap/\cap<=maxLen/\zs.length=cap/\(∀ i,i<zs.length->w.cell? (x.add i)=some (.string (zs.getD i ByteArray.empty)))/\∀ s∈zs,s.size<=maxLen
theorem Ka {w:World}{p:Addr}{v:Value}(h:w.cell? p=some v):p.block<w.heap.size:=by
 unfold World.cell? at h;split at h
 ·rename_i hb;exact bQ hb
 ·cases h
theorem Fr.cell {S:Nat->Prop}{w w':World}(f:Fr S w w'){p:Addr}{v:Value}(h:w.cell? p=some v)(hn:¬ S p.block):w'.cell? p=some v:=by
 have hb:=f.block p.block (Ka h) hn;unfold World.cell? at h ⊢;rw[hb];exact h
theorem Fr.cell0 {w w':World}(f:Fr none1 w w'){p:Addr}{v:Value}(h:w.cell? p=some v):w'.cell? p=some v:=f.cell h (fun t=>t)
theorem Fr.kept {S T:Nat->Prop}{w w':World}(f:Fr T w w')(h:∀ k,S k->¬ T k):Kept S w w':=fun _ _ hs hc=>f.cell hc (h _ hs)
theorem ai.on {S T:Nat->Prop}{w w':World}{K:Prop}(f:Fr T w w')(h:∀ k,S k->¬ T k)(k:K):ai S w w' K:=⟨f.kept h,k⟩
theorem ai.of {S:Nat->Prop}{w w':World}{K:Prop}(f:Fr none1 w w')(k:K):ai S w w' K:=⟨f.kept fun _ _ t=>t,k⟩
def El:Nat->Prop:=fun _=>True
theorem aV.all {body:(Nat->Prop)->Prop}(h:body El):aV body:=⟨El,h⟩
theorem aV.of {body:(Nat->Prop)->Prop}(S:Nat->Prop)(h:body S):aV body:=⟨S,h⟩
theorem av.all {p:Addr}{K:Prop}(k:K):av El p K:=⟨trivial,k⟩
theorem ae.cell {c:Ck}{p:Addr}{w:World}{K:c.C->Prop}{x:c.C}(h:w.cell? p=some (c.val x))(k:K x):ae c p w K:=⟨x,h,k⟩
theorem IsInts.i64 {w:World}{a:Option Addr}{len cap:Nat}{zs:List Int}(h:IsInts .i64 w a len cap zs)(i:Nat):-9223372036854775808<=zs.getD i 0/\zs.getD i 0<=9223372036854775807:=by
 rcases h with⟨_,_,_,rfl⟩ | ⟨x,rfl,hl,hc,hz,_,hw⟩
 ·simp
 ·rw[List.getD_eq_getElem?_getD]
  cases hi:zs[i]? with
  | none=>simp
  | some n=>
   have hm:=hw n (List.mem_of_getElem? hi);simp[Lit.wf,IntKind.min,IntKind.max,IntKind.signed,IntKind.bits] at hm;simp only[Option.getD_some];omega
end Vc
namespace Vc
variable {P:Program}
abbrev Sl:=Option Addr×Nat×Nat
def aw (v:Sl):Nat->Prop:=fun k=>∃ a,v.1=some a/\k=a.block
def aF (w:World)(E s:Nat)(v:Sl)(xs:List Value):Prop:=
 (v=(none,0,0)/\xs=[]) \/
 ∃ g off cs,v.1=some ⟨g,off,none⟩/\w.heap[g]? = some (.cells cs E (0,0))/\v.2.1<=v.2.2/\off+v.2.2 * s<=cs.size/\xs.length=v.2.1 * s/\∀ i,i<xs.length->cs[off+i]? = xs[i]?
theorem aF.ag {w w':World}{E s:Nat}{v:Sl}{xs:List Value}(h:aF w E s v xs){S:Nat->Prop}(f:Fr S w w')(hn:∀ k,aw v k->¬ S k):aF w' E s v xs:=by
 rcases h with h | ⟨g,off,cs,h1,h2,h3⟩
 ·exact .inl h
 ·exact .inr ⟨g,off,cs,h1,f.ag h2 (hn g ⟨_,h1,rfl⟩),h3⟩
theorem aF.af {w w':World}{E s:Nat}{v:Sl}{xs:List Value}(h:aF w E s v xs)(f:Fr none1 w w'):aF w' E s v xs:=h.ag f (fun _ _ t=>t)
theorem aF.lt {w:World}{E s:Nat}{v:Sl}{xs:List Value}(h:aF w E s v xs){k:Nat}(U:aw v k):k<w.heap.size:=by
 obtain⟨a,ha,rfl⟩:=U
 rcases h with⟨rfl,_⟩ | ⟨g,off,cs,h1,h2,h3⟩
 ·cases ha
 ·rw[h1] at ha;injection ha with ha;subst ha;exact bQ h2
theorem aF.len {w:World}{E s:Nat}{v:Sl}{xs:List Value}(h:aF w E s v xs):xs.length=v.2.1 * s:=by
 rcases h with⟨rfl,rfl⟩ | ⟨g,off,cs,h1,h2,h3,h4,h5,h6⟩
 ·simp
 ·exact h5
theorem aF.ld {w:World}{E:Nat}{v:Sl}{xs:List Value}(h:aF w E 1 v xs){c:Ck}{K:c.C->Prop}{i:Int}(h0:0<=i)(h1:i<v.2.1){x:c.C}(hx:xs[i.toNat]? = some (c.val x))(k:K x):
  bK v.1 v.2.1 i 1 fun p=>ae c p w K:=by
 rcases h with⟨rfl,rfl⟩ | ⟨g,off,cs,hv,hb,hl,hc,hn,he⟩
 ·simp at hx
 ·refine⟨_,hv,h0,h1,?_⟩
  rw[dP];refine ae.of hb ?_ k;rw[Nat.mul_one,he i.toNat (by rw[hn];omega)];exact hx
theorem uB {w:World}{g:Nat}{cs:Array Value}{T:TypeId}{fr:Nat×Nat}(hb:w.heap[g]? = some (.cells cs T fr)):∀ (vs:List Value) (off i:Nat),(∀ j,j<vs.length->cs[off+i+j]? = vs[j]?)->jA w ⟨g,off,none⟩ i vs
 | [],_,_,_=>trivial
 | v::vs,off,i,h=>by
  refine⟨?_,uB hb vs off (i+1) fun j hj=>?_⟩
  ·rw[dP,pF hb]
   have:=h 0 (by simp);simpa using this
  ·have:=h (j+1) (by simp;omega)
   rw[show off+(i+1)+j=off+i+(j+1) by omega,this];simp
theorem aF.first {w:World}{E s:Nat}{v:Sl}{xs:List Value}(h:aF w E s v xs):(Builtin.firstCells s v.2.1 (.slice v.1 v.2.1 v.2.2)).run P w=.ok xs.toArray w:=by
 rcases h with⟨rfl,rfl⟩ | ⟨g,off,cs,hv,hb,hl,hc,hn,he⟩
 ·rfl
 ·rw[hv]
  simp only[Builtin.firstCells];rw[<- hn];exact ur xs (uB hb xs off 0 fun j hj=>by rw[Nat.add_zero];exact he j hj)
def dr (w:World)(s:Nat)(v:Sl)(xs:List Value):Prop:=xs.length=v.2.1 * s/\(v.1=none->v.2.1=0/\v.2.2=0/\xs=[])/\∀ a,v.1=some a->jA w a 0 xs
theorem aF.rd {w:World}{E s:Nat}{v:Sl}{xs:List Value}(h:aF w E s v xs):dr w s v xs:=by
 refine⟨h.len,fun hn=>?_,fun a ha=>?_⟩
 ·rcases h with⟨rfl,rfl⟩ | ⟨g,off,cs,hv,_⟩
  ·exact⟨rfl,rfl,rfl⟩
  ·rw[hv] at hn;cases hn
 ·rcases h with⟨rfl,rfl⟩ | ⟨g,off,cs,hv,hb,hl,hc,hn,he⟩
  ·trivial
  ·rw[hv] at ha;injection ha with ha;subst ha
   exact uB hb xs off 0 fun j hj=>by rw[Nat.add_zero];exact he j hj
theorem Kb {w w':World}{S:Nat->Prop}(f:Fr S w w'){a:Addr}(hn:¬ S a.block):∀ (vs:List Value) (i:Nat),jA w a i vs->jA w' a i vs
 | [],_,_=>trivial
 | v::vs,i,⟨h1,h2⟩=>⟨f.cell h1 (by unfold Addr.add;split<;>exact hn),Kb f hn vs (i+1) h2⟩
theorem dr.ag {w w':World}{s:Nat}{v:Sl}{xs:List Value}(h:dr w s v xs){S:Nat->Prop}(f:Fr S w w')(hn:∀ k,aw v k->¬ S k):dr w' s v xs:=
 ⟨h.1,h.2.1,fun a ha=>Kb f (hn _ ⟨a,ha,rfl⟩) _ _ (h.2.2 a ha)⟩
theorem dr.af {w w':World}{s:Nat}{v:Sl}{xs:List Value}(h:dr w s v xs)(f:Fr none1 w w'):dr w' s v xs:=h.ag f (fun _ _ t=>t)
theorem dr.first {w:World}{s:Nat}{v:Sl}{xs:List Value}(h:dr w s v xs):(Builtin.firstCells s v.2.1 (.slice v.1 v.2.1 v.2.2)).run P w=.ok xs.toArray w:=by
 obtain⟨h1,h2,h3⟩:=h;cases hv:v.1 with
 | none=>
  obtain⟨_,_,rfl⟩:=h2 hv;rfl
 | some a=>
  simp only[Builtin.firstCells];rw[<- h1];exact ur xs (h3 a hv)
theorem wm {w:World}{a:Addr}:∀ (vs:List Value) (i j:Nat) (v:Value),jA w a i vs->vs[j]? = some v->w.cell? (a.add (i+j))=some v
 | [],_,_,_,_,h=>by simp at h
 | u::vs,i,0,v,⟨h1,_⟩,h=>by simp at h;subst h;exact h1
 | u::vs,i,j+1,v,⟨_,h2⟩,h=>by
  have:=wm vs (i+1) j v h2 (by simpa using h);rw[show i+(j+1)=i+1+j by omega];exact this
theorem dr.ld {w:World}{v:Sl}{xs:List Value}(h:dr w 1 v xs){c:Ck}{K:c.C->Prop}{i:Int}(h0:0<=i)(h1:i<v.2.1){x:c.C}(hx:xs[i.toNat]? = some (c.val x))(k:K x):
  bK v.1 v.2.1 i 1 fun p=>ae c p w K:=by
 obtain⟨q1,q2,q3⟩:=h;cases hv:v.1 with
 | none=>have:=(q2 hv).1;omega
 | some a=>
  refine⟨a,rfl,h0,h1,?_⟩;have:=wm xs 0 i.toNat _ (q3 a hv) hx;rw[Nat.mul_one];rw[Nat.zero_add] at this;exact ae.cell this k
theorem Em {g:Nat}{T:TypeId}:∀ (vs:List Value) (w:World) (cs:Array Value) (off i:Nat),w.heap[g]? = some (.cells cs T (0,0))->off+i+vs.length<=cs.size->(∀ v∈vs,bI v=true) ->
  pw w ⟨g,off,none⟩ i vs/\∃ jS,(setCells w ⟨g,off,none⟩ i vs).heap[g]? = some (.cells jS T (0,0))/\jS.size=cs.size/\(∀ j,j<vs.length->jS[off+i+j]? = vs[j]?)/\(∀ j,j<off+i->jS[j]? = cs[j]?) /\
   Fr (only g) w (setCells w ⟨g,off,none⟩ i vs)/\(setCells w ⟨g,off,none⟩ i vs).heap.size=w.heap.size
 | [],w,cs,off,i,hb,_,_=>⟨trivial,cs,hb,rfl,fun j hj=>by simp at hj,fun _ _=>rfl,Fr.refl _ _,rfl⟩
 | v::vs,w,cs,off,i,hb,hl,h1=>by
  simp only[List.length_cons] at hl;have hs:=heap_setCell_same (i:=off+i) (v:=v) hb;have hf:=yG w g (off+i) v;obtain⟨hw,jS,a1,a2,a3,a4,a5,a6⟩:=Em vs (w.setCell ⟨g,off+i,none⟩ v) _ off (i+1) hs (by simp;omega) (fun u hu=>h1 u (by simp[hu]));unfold pw setCells;rw[dP];refine⟨⟨h1 v (by simp),by rw[pF hb];simp;omega,yH hb,hw⟩,jS,a1,by rw[a2];simp,fun j hj=>?_,fun j hj=>?_,hf.trans a5,by rw[a6];simp[World.setCell]⟩
  ·cases j with
   | zero=>
    have:=a4 (off+i) (by omega);simp only[Nat.add_zero,this];rw[Array.getElem?_setIfInBounds_self_of_lt (by omega)];rfl
   | succ j=>
    have:=a3 j (by simp at hj;omega);rw[show off+i+(j+1)=off+(i+1)+j by omega,this];simp
  ·rw[a4 j (by omega)]
   rw[Array.getElem?_setIfInBounds_ne (by omega)]
theorem Kc (n:Nat):∀ (r c:Nat),c<=2 * n+192->Builtin.growBy n r c<=2 * n+192
 | 0,c,h=>h
 | r+1,c,h=>by
  unfold Builtin.growBy;split
  ·exact h
  ·exact Kc n r _ (by omega)
theorem Ke {n c:Nat}(h:c<n):Builtin.nextslicecap n c<=2 * n+192:=by
 unfold Builtin.nextslicecap;split
 ·omega
 ·split
  ·omega
  ·exact Kc n 4 c (by omega)
structure il (P:Program)(t E s:Nat)(z:Value)(bytes:Nat):Prop where
 under:P.underlying t=some (.slice E)
 info:∃ i,P.info? E=some i/\i.size=s/\i.zero=some z/\i.bytes=bytes
 cells:z.cells.size=s
 pos:0<bytes
theorem wo (w:World):Fr none1 w { w with drawn:=w.drawn+1 }:=⟨rfl,rfl,rfl,Nat.le_refl _,fun _ _ _=>rfl⟩
theorem Kf {w:World}{t t2 E s bytes n:Nat}{z yv:Value}{x:Sl}{xs ys:List Value}(he:il P t E s z bytes)(o:TypeId)(ux:∃ d,P.underlying t2=some d/\(d=.string\/∃ E2,d=.slice E2))(hx:aF w E s x xs)
  (wq:ys.length=n * s) (Rv:∀ w,(Builtin.lenOf yv).run P w=.ok n w) (Bm:∀ w',Fr none1 w w'->(Builtin.firstCells s n yv).run P w'=.ok ys.toArray w') (h1:∀ v∈ys,bI v=true)
  (hb:(2 * (x.2.1+n)+192) * bytes<=2 ^ 48) :
  ∃ v w',(Builtin.append_ #[t,t2] o #[.slice x.1 x.2.1 x.2.2,yv]).run P w=.ok (.slice v.1 v.2.1 v.2.2) w'/\aF w' E s v (xs++ys)/\v.2.1=x.2.1+n/\Fr (aw x) w w' /\
   (∀ k,aw v k->aw x k\/w.heap.size<=k):=by
 obtain⟨hu,⟨i,hi,hs,hz,qJ⟩,hc,oJ⟩:=he;unfold Builtin.append_;obtain⟨d2,ux,Bn⟩:=ux;have mg:∀ w,(sizeOf E).run P w=.ok s w:=fun w=>by rw[j8 hi,hs]
 rcases Bn with rfl | ⟨E2,rfl⟩
 all_goals
  simp only[Sem.run_bind,under hu,under ux,Result.andThen_ok,mg,List.getElem?_toArray,List.getElem?_cons_zero,List.getElem?_cons_succ,Sem.run_pure,Bool.false_eq_true,if_false,Rv]
  by_cases te:x.2.1+n<=x.2.2
  ·rw[if_pos te]
   simp only[Bool.not_false,if_true,Sem.run_bind,Bm w (Fr.refl _ _),Result.andThen_ok]
   rcases hx with⟨rfl,rfl⟩ | ⟨g,off,cs,hv,wv,hl,wA,hn,Bo⟩
   ·have uC:n=0:=by simp at te;omega
    have uD:ys=[]:=by have:=wq;rw[uC] at this;simpa using this
    subst uD;refine⟨(none,0,0),w,by simp[uC],.inl ⟨rfl,rfl⟩,by simp[uC],Fr.refl _ _,fun k ⟨a,ha,_⟩=>by cases ha⟩
   ·have gT:=wq
    have hmul:(x.2.1+n) * s<=x.2.2 * s:=Nat.mul_le_mul_right _ te;rw[Nat.add_mul] at hmul;obtain⟨hw,jS,a1,a2,a3,a4,a5,a6⟩:=Em ys w cs (off+x.2.1 * s) 0 wv (by omega) h1;rw[hv];simp only[dP,Sem.run_bind];rw[show(storeCells ⟨g,off+x.2.1 * s,none⟩ ys.toArray.toList 0).run P w=.ok () _ from v7 ys 0 w hw];refine⟨(some ⟨g,off,none⟩,x.2.1+n,x.2.2),_,rfl,.inr ⟨g,off,jS,rfl,a1,te,by rw[a2];exact wA,by simp[hn,gT,Nat.add_mul],fun j hj=>?_⟩,rfl,a5.mono (fun k _ U=>⟨_,hv,U⟩),fun k ⟨a,ha,U⟩=>.inl ⟨_,hv,by injection ha with ha;subst ha;exact U⟩⟩
    simp at hj
    by_cases Kg:j<xs.length
    ·rw[a4 (off+j) (by omega),Bo j Kg,List.getElem?_append_left Kg]
    ·have:=a3 (j - xs.length) (by omega)
     rw[List.getElem?_append_right (by omega),<- this]
     congr 1;omega
  ·rw[if_neg te]
   have nQ:∀ w,(typeInfo E).run P w=.ok i w:=fun w=>by simp[typeInfo,hi]
   have wC:Builtin.nextslicecap (x.2.1+n) x.2.2 * i.bytes<=2 ^ 48:=by
    rw[qJ];exact Nat.le_trans (Nat.mul_le_mul_right _ (Ke (by omega))) hb
   have kc:¬ (((x.2.1+n:Nat):Int) > IntKind.i64.max/\(False\/i.bytes=0)):=by
    rintro⟨_,h | h⟩
    ·exact h
    ·omega
   simp only[Sem.run_bind,nQ,Result.andThen_ok,Sem.run_ite];rw[if_neg kc,if_neg (show ¬ (Builtin.nextslicecap (x.2.1+n) x.2.2 * i.bytes > 2 ^ 48) by omega)];simp only[run_choose,Question.forced,Bool.false_eq_true,if_false,Result.andThen_ok,run_askRoom];generalize uE:(Question.appendCap (x.2.1+n) x.2.2 E).cut _=nc;have dQ:x.2.1+n<=nc:=by rw[<- uE];simp[Question.cut]
   have f1:=wo w;rw[(hx.af f1).first]
   simp only[Result.andThen_ok,Bool.not_false,if_true];rw[Bm _ f1];simp only[Result.andThen_ok,qC hi hz,newRow,Sem.run_bind,run_newObj,Sem.run_pure];refine⟨(some ⟨w.heap.size,0,none⟩,x.2.1+n,nc),_,rfl,.inr ⟨w.heap.size,0,_,rfl,Array.getElem?_push_size ..,dQ,?_,by simp[hx.len,wq,Nat.add_mul],fun j hj=>?_⟩,rfl,
    ((f1.trans (mf _ _)).mono fun _ _ t=>t.elim),fun k ⟨a,ha,U⟩=>.inr (by injection ha with ha;subst ha;subst U;exact Nat.le_refl _)⟩
   ·simp only[Array.size_append,List.size_toArray,Builtin.zeroCells,Array.size_map,Array.size_range,hx.len,wq,hc]
    have:nc=(x.2.1+n)+(nc - (x.2.1+n)):=by omega
    have h2:nc * s=(x.2.1+n) * s+(nc - (x.2.1+n)) * s:=by rw[<- Nat.add_mul,<- this]
    rw[Nat.add_mul] at h2;show 0+nc * s<=_;omega
   ·rw[Nat.zero_add,Array.getElem?_append_left (by simpa using hj)]
    simp[List.getElem?_append]
theorem gA {w:World}{t E s bytes:Nat}{z:Value}{x y:Sl}{xs ys:List Value}(he:il P t E s z bytes)(o:TypeId)(hx:aF w E s x xs)(hy:dr w s y ys)(h1:∀ v∈ys,bI v=true)
  (hb:(2 * (x.2.1+y.2.1)+192) * bytes<=2 ^ 48) :
  ∃ v w',(Builtin.append_ #[t,t] o #[.slice x.1 x.2.1 x.2.2,.slice y.1 y.2.1 y.2.2]).run P w=.ok (.slice v.1 v.2.1 v.2.2) w'/\aF w' E s v (xs++ys)/\v.2.1=x.2.1+y.2.1/\Fr (aw x) w w' /\
   (∀ k,aw v k->aw x k\/w.heap.size<=k):=
 Kf he o ⟨_,he.under,.inr ⟨_,rfl⟩⟩ hx hy.1 (fun _=>rfl) (fun _ f=>(hy.af f).first) h1 hb
theorem Rw {w:World}{t st E bytes:Nat}{z:Value}{x:Sl}{xs:List Value}(he:il P t E 1 z bytes)(o:TypeId)(dz:P.underlying st=some .string)(hx:aF w E 1 x xs)(s:ByteArray)
  (hb:(2 * (x.2.1+s.size)+192) * bytes<=2 ^ 48) :
  ∃ v w',(Builtin.append_ #[t,st] o #[.slice x.1 x.2.1 x.2.2,.string s]).run P w=.ok (.slice v.1 v.2.1 v.2.2) w'/\aF w' E 1 v (xs++s.data.toList.map fun b=>.int .u8 (b.toNat:Int))/\v.2.1=x.2.1+s.size/\Fr (aw x) w w' /\
   (∀ k,aw v k->aw x k\/w.heap.size<=k):=
 Kf he o ⟨_,dz,.inl rfl⟩ hx (by rw[List.length_map,Array.length_toList,Nat.mul_one];rfl) (fun _=>rfl) (fun _ _=>by
  have e:s.extract 0 s.size=s:=ByteArray.ext (by rw[ByteArray.data_extract];exact Array.extract_size);simp only[Builtin.firstCells,e,Sem.run_pure];refine congrArg (fun a=>Result.ok a _) ?_;apply Array.ext';rw[Array.toList_map]) (by intro v hv;obtain⟨b,_,rfl⟩:=List.mem_map.1 hv;rfl) hb
theorem En {w:World}{t E s bytes:Nat}{z:Value}(he:il P t E s z bytes)(n:Nat)(parts:Array (Nat×Value))(cells:Array Value)(hn:n * s<=2 ^ 24)
  (hf:Instr.fill (fun i=>some (i * s,s)) ((Array.range (n * s)).map (z.cells[· % z.cells.size]!)) parts.toList=some cells) (hsz:cells.size=n * s) :
  ∃ v w',(Instr.buildSlice t n parts).run P w=.ok (.slice v.1 v.2.1 v.2.2) w'/\aF w' E s v cells.toList/\v.2.1=n/\Fr none1 w w'/\(∀ k,aw v k->w.heap.size<=k):=by
 obtain⟨hu,⟨i,hi,hs,hz,qJ⟩,hc,oJ⟩:=he;have mg:∀ w,(sizeOf E).run P w=.ok s w:=fun w=>by rw[j8 hi,hs]
 unfold Instr.buildSlice;simp only[Sem.run_bind,under hu,Result.andThen_ok,mg];rw[if_neg (by omega)];have fin:∀ zc:Array Value,(Array.range (n * s)).map (zc[· % zc.size]!)=(Array.range (n * s)).map (z.cells[· % z.cells.size]!) ->
   ∃ v w',(match Instr.fill (fun i=>some (i * s,s)) ((Array.range (n * s)).map (zc[· % zc.size]!)) parts.toList with
    | some cells=>(do pure (Value.slice (some (<- newRow E cells)) n n):Sem Value)
    | _ => stuck "buildSlice: a part of the wrong size").run P w = .ok (.slice v.1 v.2.1 v.2.2) w' /\ aF w' E s v cells.toList /\ v.2.1 = n /\ Fr none1 w w' /\ (∀ k, aw v k -> w.heap.size <= k) := fun zc uF => by
  rw[uF,hf];simp only[newRow,Sem.run_bind,run_newObj,Result.andThen_ok,Sem.run_pure];exact⟨(some ⟨w.heap.size,0,none⟩,n,n),_,rfl,.inr ⟨w.heap.size,0,cells,rfl,Array.getElem?_push_size ..,Nat.le_refl _,by rw[hsz];simp,by simpa using hsz,fun j hj=>by simp⟩,rfl,mf _ _,fun k ⟨a,ha,U⟩=>by injection ha with ha;subst ha;subst U;exact Nat.le_refl _⟩
 by_cases h:n * s=0
 ·simp only[if_pos h,Sem.run_bind,Sem.run_pure,Result.andThen_ok]
  exact fin #[] (by rw[h];simp)
 ·simp only[if_neg h,Sem.run_bind,qC hi hz,Sem.run_pure,Result.andThen_ok]
  exact fin z.cells rfl
theorem Kh (n:Nat)(zs:Array Value):∀ (vs:List Value) (k:Nat) (pre:List Value),pre.length=k->k+vs.length=n->zs.size=n->(∀ v∈vs,v.cells=#[v])->(∀ cur:Array Value,cur.size=n->cur.toList.take k=pre ->
  ∃ out,Instr.fill (fun i=>some (i * 1,1)) cur ((vs.zipIdx k).map fun(v,i)=>(i,v))=some out/\out.toList=pre++vs)
 | [],k,pre,hp,U,_,_,cur,hc,ht=>by
  refine⟨cur,rfl,?_⟩;simp only[List.length_nil,Nat.add_zero] at U;rw[<- ht,List.append_nil,List.take_of_length_le (by simp;omega)]
 | v::vs,k,pre,hp,U,hz,h1,cur,hc,ht=>by
  simp only[List.length_cons] at U;have hv:=h1 v (by simp);obtain⟨out,ho,hl⟩:=Kh n zs vs (k+1) (pre++[v]) (by simp[hp]) (by omega) hz (fun u hu=>h1 u (by simp[hu])) (cur.setIfInBounds k v) (by simp[hc]) (by
   rw[Array.toList_setIfInBounds,List.take_succ_eq_append_getElem (by simp;omega),List.take_set_of_le (Nat.le_refl _),ht];simp)
  refine⟨out,?_,by rw[hl];simp⟩;simp only[List.zipIdx_cons,List.map_cons,Instr.fill,hv,Nat.mul_one];rw[if_neg (by simp;omega)];simpa using ho
theorem rJ {w:World}{t E bytes:Nat}{z:Value}(he:il P t E 1 z bytes)(vs:List Value)(h1:∀ v∈vs,v.cells=#[v])(hn:vs.length<=2 ^ 24):
  ∃ v w',(Instr.buildSlice t vs.length ((vs.zipIdx.map fun(v,i)=>(i,v)).toArray)).run P w=.ok (.slice v.1 v.2.1 v.2.2) w'/\aF w' E 1 v vs/\v.2.1=vs.length/\Fr none1 w w'/\(∀ k,aw v k->w.heap.size<=k):=by
 obtain⟨out,ho,hl⟩:=Kh vs.length ((Array.range (vs.length * 1)).map (z.cells[· % z.cells.size]!)) vs 0 [] rfl (by simp) (by simp) h1 ((Array.range (vs.length * 1)).map (z.cells[· % z.cells.size]!)) (by simp) (by simp);obtain⟨v,w',a,b,c⟩:=En (w:=w) he vs.length ((vs.zipIdx.map fun(v,i)=>(i,v)).toArray) out (by omega) (by simpa using ho) (by rw[<- Array.length_toList,hl];simp);rw[hl] at b;exact⟨v,w',a,by simpa using b,c⟩
theorem Rx {w:World}{t E bytes:Nat}{z:Value}(he:il P t E 1 z bytes)(Ry:z.cells=#[z]){k k':IntKind}{n m:Int}(h0:0<=n)(h1:n<=m)(hb:m.toNat * bytes<=2 ^ 48):
  ∃ v w',(Instr.makeSlice t (.int k n) (.int k' m)).run P w=.ok (.slice v.1 v.2.1 v.2.2) w'/\aF w' E 1 v (List.replicate n.toNat z)/\v.2.1=n.toNat/\v.2.2=m.toNat/\Fr none1 w w'/\(∀ k,aw v k->w.heap.size<=k):=by
 obtain⟨hu,⟨i,hi,hs,hz,qJ⟩,hc,oJ⟩:=he;have hm:m<=281474976710656:=by
  have:m.toNat * 1<=m.toNat * bytes:=Nat.mul_le_mul_left _ oJ;omega
 have nQ:∀ w,(typeInfo E).run P w=.ok i w:=fun w=>by simp[typeInfo,hi]
 have mg:∀ w,(sizeOf E).run P w=.ok 1 w:=fun w=>by rw[j8 hi,hs]
 have ha:∀ (k:IntKind) (n:Int) w,(asInt (.int k n)).run P w=.ok n w:=fun _ _ _=>rfl;unfold Instr.makeSlice;simp only[Sem.run_bind,under hu,Result.andThen_ok,ha,nQ,wI (x:=n) (by omega) (by omega),wI (x:=m) (by omega) (by omega)];have Rz:¬ ((i.bytes:Int) * m > 2 ^ 48):=by
  rw[qJ];have h2:((m.toNat * bytes:Nat):Int)<=281474976710656:=by omega
  have h3:((m.toNat * bytes:Nat):Int)=(bytes:Int) * m:=by
   rw[Int.natCast_mul,Int.toNat_of_nonneg (by omega),Int.mul_comm]
  omega
 rw[if_neg (by simp;omega)];have uG:∀ zc:Array Value,(m.toNat * 1≠0->zc=#[z])->(Array.range (m.toNat * 1)).map (zc[· % zc.size]!)=Array.replicate m.toNat z:=fun zc uF=>by
  by_cases h:m.toNat * 1=0
  ·have:m.toNat=0:=by omega
   rw[this];simp
  ·rw[uF h]
   apply Array.ext
   ·simp
   ·intro j h1 h2
    have:j % 1=0:=Nat.mod_one _;simp[this]
 have fin:∀ w1:World,w1.heap=w.heap->Fr none1 w w1->∀ cs:Array Value,cs=Array.replicate m.toNat z ->
   ∃ v w',(do pure (Value.slice (some (<- newRow E cs)) n.toNat m.toNat):Sem Value).run P w1=.ok (.slice v.1 v.2.1 v.2.2) w'/\aF w' E 1 v (List.replicate n.toNat z)/\v.2.1=n.toNat/\v.2.2=m.toNat/\Fr none1 w w'/\(∀ k,aw v k->w.heap.size<=k):=fun w1 hh f1 cs hcs=>by
  subst hcs;simp only[newRow,Sem.run_bind,run_newObj,Result.andThen_ok,Sem.run_pure];refine⟨(some ⟨w1.heap.size,0,none⟩,n.toNat,m.toNat),_,rfl,.inr ⟨w1.heap.size,0,_,rfl,Array.getElem?_push_size ..,by dsimp only;omega,by simp,by simp,fun j hj=>?_⟩,rfl,rfl,f1.trans (mf _ _),fun k ⟨a,ha,U⟩=>by injection ha with ha;subst ha;subst U;rw[hh];exact Nat.le_refl _⟩
  simp at hj;rw[Array.getElem?_replicate,List.getElem?_replicate,if_pos (show 0+j<m.toNat by omega),if_pos (show j<n.toNat by omega)]
 by_cases h:m.toNat * 1=0
 ·simp only[Sem.run_bind,run_askRoom,Result.andThen_ok,mg,if_pos h,Sem.run_pure]
  exact fin w rfl (Fr.refl _ _) _ (uG #[] (fun hh=>absurd h hh))
 ·simp only[Sem.run_bind,run_askRoom,Result.andThen_ok,mg,if_neg h,qC hi hz,Sem.run_pure]
  exact fin w rfl (Fr.refl _ _) _ (uG z.cells (fun _=>Ry))
theorem lH {w:World}{t E bytes:Nat}{z:Value}(he:il P t E 1 z bytes)(v:Value)(h1:v.cells=#[v]):
  ∃ x w',(Instr.buildSlice t 1 #[(0,v)]).run P w=.ok (.slice x.1 x.2.1 x.2.2) w'/\aF w' E 1 x [v]/\x.2.1=1/\Fr none1 w w'/\(∀ k,aw x k->w.heap.size<=k):=
 rJ he [v] (by simpa using h1) (by simp)
theorem Eo {w:World}{t E bytes:Nat}{z:Value}{x:Sl}{xs:List Value}(he:il P t E 1 z bytes)(o:TypeId)(hx:aF w E 1 x xs)(v:Value)(h1:v.cells=#[v])(h2:bI v=true)
  (hb:(2 * (x.2.1+1)+192) * bytes<=2 ^ 48) {K:Sl->World->Prop}
  (hK:∀ y w',aF w' E 1 y (xs++[v])->y.2.1=x.2.1+1->Fr (aw x) w w'->(∀ k,aw y k->aw x k\/w.heap.size<=k)->K y w') :
  az P (Instr.buildSlice t 1 #[(0,v)]) w (.v (.one .aj)) fun(y:Option Addr×Nat×Nat) w'=>az P (Builtin.append_ #[t,t] o #[.slice x.1 x.2.1 x.2.2,.slice y.1 y.2.1 y.2.2]) w' (.v (.one .aj)) fun(u:Option Addr×Nat×Nat) nN=>K u nN:=by
 obtain⟨y,w1,hr,hy,hl,f1,hf⟩:=lH (w:=w) he v h1;refine⟨y,w1,hr,?_⟩;obtain⟨u,w2,gb,hu,qK,f2,pG⟩:=gA he o (hx.af f1) hy.rd (by simpa using h2) (by rw[hl];exact hb);refine⟨u,w2,gb,hK u w2 hu (by rw[qK,hl]) (f1.eL f2) fun k U=>?_⟩
 rcases pG k U with h | h
 ·exact .inl h
 ·exact .inr (Nat.le_trans f1.size h)
theorem aF.st {w:World}{E:Nat}{v:Sl}{xs:List Value}(h:aF w E 1 v xs){K:World->Prop}{i:Int}(h0:0<=i)(h1:i<v.2.1){x:Value}(hx:bI x=true)
  (k:∀ w1,aF w1 E 1 v (xs.set i.toNat x)->Fr (aw v) w w1->w1.heap.size=w.heap.size->K w1):bK v.1 v.2.1 i 1 fun p=>aA p x w K:=by
 rcases h with⟨rfl,rfl⟩ | ⟨g,off,cs,hv,hb,hl,hc,hn,he⟩
 ·simp at h1;omega
 ·refine⟨_,hv,h0,h1,?_⟩
  rw[dP];refine aA.of hb (by omega) hx fun w1 au f1 hs=>k w1 (.inr ⟨g,off,_,hv,au,hl,by simpa using hc,by simpa using hn,fun j hj=>?_⟩) (f1.mono fun k _ U=>⟨_,hv,U⟩) hs;rw[List.length_set] at hj;rw[Nat.mul_one,Array.getElem?_setIfInBounds,List.getElem?_set]
  by_cases lh:i.toNat=j
  ·subst lh;rw[if_pos rfl,if_pos rfl,if_pos (by omega),if_pos hj]
  ·rw[if_neg (by omega),if_neg lh,he j hj]
theorem wD {w:World}{a:Addr}:∀ (vs:List Value) (i n:Nat),jA w a i vs->jA w a i (vs.take n)
 | [],i,n,_=>by simp;exact trivial
 | v::vs,i,0,_=>trivial
 | v::vs,i,n+1,⟨h1,h2⟩=>⟨h1,wD vs (i+1) n h2⟩
theorem dr.sub {w:World}{v:Sl}{xs:List Value}(h:dr w 1 v xs){n:Int}(h0:0<=n)(h1:n<=v.2.1)(hc:v.2.1<=v.2.2){K:Option Addr->Nat->Nat->Prop}
  (k:dr w 1 (v.1,n.toNat,v.2.2) (xs.take n.toNat)->K v.1 n.toNat v.2.2):eX v.1 v.2.2 0 n v.2.2 1 K:=by
 refine⟨Int.le_refl _,h0,by omega,by omega,?_⟩;have e:(if(v.2.2:Int)=0 then v.1 else v.1.map (·.add ((0:Int).toNat * 1)))=v.1:=by
  split
  ·rfl
  ·cases v.1 with
   | none=>rfl
   | some a=>simp[Addr.add]
 rw[e,Int.sub_zero,Int.sub_zero,Int.toNat_natCast];obtain⟨a,b,c⟩:=h;refine k ⟨by simp;omega,fun hn=>?_,fun x hx=>wD _ _ _ (c x hx)⟩;obtain⟨p,q,r⟩:=b hn;dsimp only;subst r;exact⟨by omega,q,by simp⟩
end Vc
set_option linter.unusedVariables false
open Vc
theorem mR:il Tryz.prog 22 5 1 (.int .u8 0) 1:=⟨Tryz.underlying22,⟨Tryz.t5,by kernel_rfl,rfl,rfl,rfl⟩,rfl,by decide⟩
def bc (x:UInt8):Value:=.int .u8 (x.toNat:Int)
def cg (w:World)(v:Sl)(bs:List UInt8):Prop:=aF w 5 1 v (bs.map bc)
def aZ (w:World)(v:Sl)(bs:List UInt8):Prop:=dr w 1 v (bs.map bc)
theorem cg.rd {w:World}{v:Sl}{bs:List UInt8}(h:cg w v bs):aZ w v bs:=aF.rd h
theorem aZ.len {w:World}{v:Sl}{bs:List UInt8}(h:aZ w v bs):v.2.1=bs.length:=by have:=h.1;simp at this;omega
theorem cg.len {w:World}{v:Sl}{bs:List UInt8}(h:cg w v bs):v.2.1=bs.length:=h.rd.len
theorem aZ.af {w w':World}{v:Sl}{bs:List UInt8}(h:aZ w v bs)(f:Fr none1 w w'):aZ w' v bs:=dr.af h f
theorem aZ.ag {w w':World}{v:Sl}{bs:List UInt8}(h:aZ w v bs){S:Nat->Prop}(f:Fr S w w')(hn:∀ k,aw v k->¬ S k):aZ w' v bs:=dr.ag h f hn
theorem cg.af {w w':World}{v:Sl}{bs:List UInt8}(h:cg w v bs)(f:Fr none1 w w'):cg w' v bs:=aF.af h f
theorem cg.ag {w w':World}{v:Sl}{bs:List UInt8}(h:cg w v bs){S:Nat->Prop}(f:Fr S w w')(hn:∀ k,aw v k->¬ S k):cg w' v bs:=aF.ag h f hn
theorem Ki (bs:List UInt8):∀ v∈bs.map bc,bI v=true:=by
 intro v hv;obtain⟨x,_,rfl⟩:=List.mem_map.1 hv;rfl
theorem rK {w:World}{x y:Sl}{xs ys:List UInt8}(hx:cg w x xs)(hy:aZ w y ys)(hl:xs.length+ys.length<=140737488355000):
  ∃ (v:Sl) (w':World),(Builtin.append_ #[22,22] 22 #[.slice x.1 x.2.1 x.2.2,.slice y.1 y.2.1 y.2.2]).run Tryz.prog w=.ok (.slice v.1 v.2.1 v.2.2) w'/\cg w' v (xs++ys)/\Fr (aw x) w w' /\
   (∀ k,aw v k->aw x k\/w.heap.size<=k):=by
 have e1:=hx.len;have e2:=hy.len;obtain⟨v,w',a,b,_,c,d⟩:=gA (P:=Tryz.prog) (s:=1) (xs:=xs.map bc) (ys:=ys.map bc) mR 22 hx hy (Ki ys) (by rw[e1,e2];omega);exact⟨v,w',a,by unfold cg;rw[List.map_append];exact b,c,d⟩
theorem cg.cap {w:World}{v:Sl}{bs:List UInt8}(h:cg w v bs):v.2.1<=v.2.2:=by
 rcases h with⟨rfl,_⟩ | ⟨g,off,cs,h1,h2,h3,_⟩
 ·exact Nat.le_refl _
 ·exact h3
theorem aZ.sub {w:World}{v:Sl}{bs:List UInt8}(h:aZ w v bs){n:Int}(h0:0<=n)(h1:n<=v.2.1)(hc:v.2.1<=v.2.2){K:Option Addr->Nat->Nat->Prop}
  (k:aZ w (v.1,n.toNat,v.2.2) (bs.take n.toNat)->K v.1 n.toNat v.2.2):eX v.1 v.2.2 0 n v.2.2 1 K:=by
 refine dr.sub h h0 h1 hc fun t=>k ?_;unfold aZ;rw[List.map_take];exact t
abbrev ad (g:Nat):Addr:=⟨g,0,none⟩
abbrev an:=Option Addr×Nat×Nat
abbrev RA:List Ck:=[.int .i64,.aj,.ptr,.map]
abbrev Kj:=Int×an×Option Addr×Option Nat×Unit
abbrev RB (x:Kj):List Value:=[.int .i64 x.1,.slice x.2.1.1 x.2.1.2.1 x.2.1.2.2,.pointer x.2.2.1,.map x.2.2.2.1]
abbrev wE:List Ck:=[.bool,.str,.str,.int .i64,.int .i64]
abbrev nR:=Bool×ByteArray×ByteArray×Int×Int×Unit
abbrev mS (x:nR):List Value:=[.bool x.1,.string x.2.1,.string x.2.2.1,.int .i64 x.2.2.2.1,.int .i64 x.2.2.2.2.1]
abbrev dt:List Ck:=[.int .i64,.str,.str,.str,.str,.int .i64,.int .i64,.raw]
abbrev bE:=Int×ByteArray×ByteArray×ByteArray×ByteArray×Int×Int×Value×Unit
abbrev bP (x:bE):List Value:=[.int .i64 x.1,.string x.2.1,.string x.2.2.1,.string x.2.2.2.1,.string x.2.2.2.2.1,.int .i64 x.2.2.2.2.2.1,.int .i64 x.2.2.2.2.2.2.1,x.2.2.2.2.2.2.2.1]
abbrev lI:List Ck:=[.int .i64,.str,.str,.str,.str,.int .i64,.int .i64,.raw,.bool]
abbrev iA:=Int×ByteArray×ByteArray×ByteArray×ByteArray×Int×Int×Value×Bool×Unit
abbrev iO (x:iA):List Value:=[.int .i64 x.1,.string x.2.1,.string x.2.2.1,.string x.2.2.2.1,.string x.2.2.2.2.1,.int .i64 x.2.2.2.2.2.1,.int .i64 x.2.2.2.2.2.2.1,x.2.2.2.2.2.2.2.1,.bool x.2.2.2.2.2.2.2.2.1]
abbrev fK:List Ck:=[.int .i64,.int .i64,.int .i64,.int .i64,.int .i64,.int .u64,.bool,.int .i64,.str,.str,.str,.str,.int .i64,.int .i64,.raw]
abbrev di:=Int×Int×Int×Int×Int×Int×Bool×Int×ByteArray×ByteArray×ByteArray×ByteArray×Int×Int×Value×Unit
abbrev dv (x:di):List Value:=[.int .i64 x.1,.int .i64 x.2.1,.int .i64 x.2.2.1,.int .i64 x.2.2.2.1,.int .i64 x.2.2.2.2.1,.int .u64 x.2.2.2.2.2.1,.bool x.2.2.2.2.2.2.1,.int .i64 x.2.2.2.2.2.2.2.1,.string x.2.2.2.2.2.2.2.2.1,.string x.2.2.2.2.2.2.2.2.2.1,.string x.2.2.2.2.2.2.2.2.2.2.1,.string x.2.2.2.2.2.2.2.2.2.2.2.1,.int .i64 x.2.2.2.2.2.2.2.2.2.2.2.2.1,.int .i64 x.2.2.2.2.2.2.2.2.2.2.2.2.2.1,x.2.2.2.2.2.2.2.2.2.2.2.2.2.2.1]
abbrev cP:List Ck:=[.bool,.bool,.int .i64,.str,.str,.str,.str,.int .i64,.int .i64,.raw,.bool,.int .i64,.str,.str,.str,.str,.int .i64,.int .i64,.raw,.bool,.bool,.bool,.bool,.aj]
abbrev cy:=Bool×Bool×Int×ByteArray×ByteArray×ByteArray×ByteArray×Int×Int×Value×Bool×Int×ByteArray×ByteArray×ByteArray×ByteArray×Int×Int×Value×Bool×Bool×Bool×Bool×an×Unit
abbrev cD (x:cy):List Value:=[.bool x.1,.bool x.2.1,.int .i64 x.2.2.1,.string x.2.2.2.1,.string x.2.2.2.2.1,.string x.2.2.2.2.2.1,.string x.2.2.2.2.2.2.1,.int .i64 x.2.2.2.2.2.2.2.1,.int .i64 x.2.2.2.2.2.2.2.2.1,x.2.2.2.2.2.2.2.2.2.1,.bool x.2.2.2.2.2.2.2.2.2.2.1,.int .i64 x.2.2.2.2.2.2.2.2.2.2.2.1,.string x.2.2.2.2.2.2.2.2.2.2.2.2.1,.string x.2.2.2.2.2.2.2.2.2.2.2.2.2.1,.string x.2.2.2.2.2.2.2.2.2.2.2.2.2.2.1,.string x.2.2.2.2.2.2.2.2.2.2.2.2.2.2.2.1,.int .i64 x.2.2.2.2.2.2.2.2.2.2.2.2.2.2.2.2.1,.int .i64 x.2.2.2.2.2.2.2.2.2.2.2.2.2.2.2.2.2.1,x.2.2.2.2.2.2.2.2.2.2.2.2.2.2.2.2.2.2.1,.bool x.2.2.2.2.2.2.2.2.2.2.2.2.2.2.2.2.2.2.2.1,.bool x.2.2.2.2.2.2.2.2.2.2.2.2.2.2.2.2.2.2.2.2.1,.bool x.2.2.2.2.2.2.2.2.2.2.2.2.2.2.2.2.2.2.2.2.2.1,.bool x.2.2.2.2.2.2.2.2.2.2.2.2.2.2.2.2.2.2.2.2.2.2.1,.slice x.2.2.2.2.2.2.2.2.2.2.2.2.2.2.2.2.2.2.2.2.2.2.2.1.1 x.2.2.2.2.2.2.2.2.2.2.2.2.2.2.2.2.2.2.2.2.2.2.2.1.2.1 x.2.2.2.2.2.2.2.2.2.2.2.2.2.2.2.2.2.2.2.2.2.2.2.1.2.2]
abbrev RC:List Ck:=[.int .u8,.int .u8,.int .u8,.int .u8,.int .u8,.int .u8,.int .u8,.int .u8,.int .u8,.int .u8,.int .u8,.int .u8,.int .u8,.int .u8,.int .u8,.int .u8,.int .i64,.ptr,.ptr,.int .i64,.str,.str,.str,.str,.int .i64,.int .i64,.raw,.bool,.int .i64,.str,.str,.str,.str,.int .i64,.int .i64,.raw,.bool,.bool,.bool,.int .i64]
abbrev Kk:=Int×Int×Int×Int×Int×Int×Int×Int×Int×Int×Int×Int×Int×Int×Int×Int×Int×Option Addr×Option Addr×Int×ByteArray×ByteArray×ByteArray×ByteArray×Int×Int×Value×Bool×Int×ByteArray×ByteArray×ByteArray×ByteArray×Int×Int×Value×Bool×Bool×Bool×Int×Unit
abbrev RD (x:Kk):List Value:=[.int .u8 x.1,.int .u8 x.2.1,.int .u8 x.2.2.1,.int .u8 x.2.2.2.1,.int .u8 x.2.2.2.2.1,.int .u8 x.2.2.2.2.2.1,.int .u8 x.2.2.2.2.2.2.1,.int .u8 x.2.2.2.2.2.2.2.1,.int .u8 x.2.2.2.2.2.2.2.2.1,.int .u8 x.2.2.2.2.2.2.2.2.2.1,.int .u8 x.2.2.2.2.2.2.2.2.2.2.1,.int .u8 x.2.2.2.2.2.2.2.2.2.2.2.1,.int .u8 x.2.2.2.2.2.2.2.2.2.2.2.2.1,.int .u8 x.2.2.2.2.2.2.2.2.2.2.2.2.2.1,.int .u8 x.2.2.2.2.2.2.2.2.2.2.2.2.2.2.1,.int .u8 x.2.2.2.2.2.2.2.2.2.2.2.2.2.2.2.1,.int .i64 x.2.2.2.2.2.2.2.2.2.2.2.2.2.2.2.2.1,.pointer x.2.2.2.2.2.2.2.2.2.2.2.2.2.2.2.2.2.1,.pointer x.2.2.2.2.2.2.2.2.2.2.2.2.2.2.2.2.2.2.1,.int .i64 x.2.2.2.2.2.2.2.2.2.2.2.2.2.2.2.2.2.2.2.1,.string x.2.2.2.2.2.2.2.2.2.2.2.2.2.2.2.2.2.2.2.2.1,.string x.2.2.2.2.2.2.2.2.2.2.2.2.2.2.2.2.2.2.2.2.2.1,.string x.2.2.2.2.2.2.2.2.2.2.2.2.2.2.2.2.2.2.2.2.2.2.1,.string x.2.2.2.2.2.2.2.2.2.2.2.2.2.2.2.2.2.2.2.2.2.2.2.1,.int .i64 x.2.2.2.2.2.2.2.2.2.2.2.2.2.2.2.2.2.2.2.2.2.2.2.2.1,.int .i64 x.2.2.2.2.2.2.2.2.2.2.2.2.2.2.2.2.2.2.2.2.2.2.2.2.2.1,x.2.2.2.2.2.2.2.2.2.2.2.2.2.2.2.2.2.2.2.2.2.2.2.2.2.2.1,.bool x.2.2.2.2.2.2.2.2.2.2.2.2.2.2.2.2.2.2.2.2.2.2.2.2.2.2.2.1,.int .i64 x.2.2.2.2.2.2.2.2.2.2.2.2.2.2.2.2.2.2.2.2.2.2.2.2.2.2.2.2.1,.string x.2.2.2.2.2.2.2.2.2.2.2.2.2.2.2.2.2.2.2.2.2.2.2.2.2.2.2.2.2.1,.string x.2.2.2.2.2.2.2.2.2.2.2.2.2.2.2.2.2.2.2.2.2.2.2.2.2.2.2.2.2.2.1,.string x.2.2.2.2.2.2.2.2.2.2.2.2.2.2.2.2.2.2.2.2.2.2.2.2.2.2.2.2.2.2.2.1,.string x.2.2.2.2.2.2.2.2.2.2.2.2.2.2.2.2.2.2.2.2.2.2.2.2.2.2.2.2.2.2.2.2.1,.int .i64 x.2.2.2.2.2.2.2.2.2.2.2.2.2.2.2.2.2.2.2.2.2.2.2.2.2.2.2.2.2.2.2.2.2.1,.int .i64 x.2.2.2.2.2.2.2.2.2.2.2.2.2.2.2.2.2.2.2.2.2.2.2.2.2.2.2.2.2.2.2.2.2.2.1,x.2.2.2.2.2.2.2.2.2.2.2.2.2.2.2.2.2.2.2.2.2.2.2.2.2.2.2.2.2.2.2.2.2.2.2.1,.bool x.2.2.2.2.2.2.2.2.2.2.2.2.2.2.2.2.2.2.2.2.2.2.2.2.2.2.2.2.2.2.2.2.2.2.2.2.1,.bool x.2.2.2.2.2.2.2.2.2.2.2.2.2.2.2.2.2.2.2.2.2.2.2.2.2.2.2.2.2.2.2.2.2.2.2.2.2.1,.bool x.2.2.2.2.2.2.2.2.2.2.2.2.2.2.2.2.2.2.2.2.2.2.2.2.2.2.2.2.2.2.2.2.2.2.2.2.2.2.1,.int .i64 x.2.2.2.2.2.2.2.2.2.2.2.2.2.2.2.2.2.2.2.2.2.2.2.2.2.2.2.2.2.2.2.2.2.2.2.2.2.2.2.1]
set_option maxRecDepth 100000
def C20 (p0:Option Addr)(aH aP:Nat)(p1:Option Addr)(bY cE:Nat)(w:World)(K:Value->World->Prop):Prop:=
 aa ((aH:Int) != (bY:Int))
 (K (.bool false) w)
 (bw (Int×Unit) (fun _ s1 w2 gm=>aa (decide (s1.1<(aH:Int)))
 (aD w2 (fun w4=>bK p0 aH s1.1 1 (fun a5=>ae (.int .u8) a5 w4 (fun(x6:Int)=>bK p1 bY s1.1 1 (fun a7=>ae (.int .u8) a7 w4 (fun(x8:Int)=>aa (x6 != x8)
 (K (.bool false) w4)
 (gm (IntKind.i64.wrap (s1.1+1),()) w4)))))))
 (K (.bool true) w2))
 (0,()) w)
def pl20:aB:=(.seq .auto (.seq .auto (.seq (.seq .auto (.block (.loop [(5,.one (.int .i64))] (.seq .auto (.seq (.block (.seq .still .auto)) .auto))))) .auto)))
theorem c20 (p0:Option Addr)(aH aP:Nat)(p1:Option Addr)(bY cE:Nat)(w:World)(K:Value->World->Prop)(h:C20 p0 aH aP p1 bY cE w K):Ret Tryz.prog 20 #[.slice p0 aH aP,.slice p1 bY cE] w K:=aC (by kernel_rfl) Tryz.func20 (p:=pl20) (Eq.mpr (by kernel_rfl) h)
def toByte (z:Int):UInt8:=UInt8.ofNat z.toNat
theorem RE {z:Int}(h:(Lit.int .u8 z).wf=true):Value.int .u8 z=bc (toByte z):=by
 simp[Lit.wf,IntKind.min,IntKind.max,IntKind.signed,IntKind.bits] at h;unfold bc toByte;rw[UInt8.toNat_ofNat',Nat.mod_eq_of_lt (by omega)]
 congr 1;omega
theorem Kl {w:World}{x:Addr}:∀ (vs:List Value) (i:Nat),(∀ j,j<vs.length->w.cell? (x.add (i+j))=vs[j]?)->jA w x i vs
 | [],_,_=>trivial
 | v::vs,i,h=>⟨by have:=h 0 (by simp);simpa using this,Kl vs (i+1) fun j hj=>by
   have:=h (j+1) (by simp;omega);rw[show i+(j+1)=i+1+j by omega] at this;simpa using this⟩
theorem RF {w:World}{a:Option Addr}{len cap:Nat}{zs:List Int}(h:IsInts .u8 w a len cap zs):aZ w (a,len,cap) ((zs.take len).map toByte)/\len<=cap:=by
 rcases h with⟨rfl,rfl,rfl,rfl⟩ | ⟨x,rfl,hl,hc,hz,hcell,hw⟩
 ·exact⟨⟨rfl,fun _=>⟨rfl,rfl,rfl⟩,fun a ha=>by cases ha⟩,Nat.le_refl _⟩
 ·refine⟨⟨by simp;omega,(fun t=>nomatch t),fun b hb=>?_⟩,hl⟩
  injection hb with hb;subst hb
  refine Kl _ 0 fun j hj=>?_;simp at hj;rw[Nat.zero_add,hcell j (by omega),List.getElem?_map,List.getElem?_map,List.getElem?_take_of_lt (by omega),List.getD_eq_getElem?_getD,List.getElem?_eq_getElem (by omega)];simp only[Option.map_some,Option.getD_some];rw[RE (hw _ (List.getElem_mem _))]
theorem Ep (w:World):cg w (none,0,0) []:=.inl ⟨rfl,rfl⟩
theorem aZ.at {w:World}{v:Sl}{bs:List UInt8}(h:aZ w v bs){K:Int->Prop}{i:Int}(h0:0<=i)(h1:i<v.2.1)(k:K ((bs.getD i.toNat 0).toNat:Int)):bK v.1 v.2.1 i 1 fun p=>ae (.int .u8) p w K:=by
 have hl:=h.len;refine dr.ld h h0 h1 (x:=((bs.getD i.toNat 0).toNat:Int)) ?_ k;rw[List.getElem?_map,List.getElem?_eq_getElem (by omega),List.getD_eq_getElem?_getD,List.getElem?_eq_getElem (by omega)];rfl
theorem RG {w:World}{x y:Sl}{xs ys:List UInt8}(hx:aZ w x xs)(hy:aZ w y ys)(hl:xs.length<=1000000000000000000):
  Ret Tryz.prog 20 #[.slice x.1 x.2.1 x.2.2,.slice y.1 y.2.1 y.2.2] w fun r w'=>r=.bool (decide (xs=ys))/\Fr none1 w w':=by
 refine c20 x.1 x.2.1 x.2.2 y.1 y.2.1 y.2.2 w _ ?_;have ex:=hx.len;have ey:=hy.len;refine aa.ne (fun h=>?_) (fun h=>?_)
 ·refine⟨?_,Fr.refl _ _⟩
  rw[decide_eq_false (fun t=>by subst t;omega)]
 refine bw.of (fun s w'=>0<=s.1/\s.1<=x.2.1/\Fr none1 w w'/\∀ j:Nat,(j:Int)<s.1->xs.getD j 0=ys.getD j 0) (fun s _=>(x.2.1 - s.1).toNat) ⟨by dsimp only;omega,by dsimp only;omega,Fr.refl _ _,fun j hj=>by dsimp only at hj;omega⟩ ?_;rintro _ s w1 ⟨i0,i1,f1,hall⟩;refine aa.dec (fun aS=>?_) (fun dQ=>?_)
 ·refine aD.of fun w2 _ f2=>?_
  refine aZ.at ((hx.af f1).af f2) i0 aS ?_;refine aZ.at ((hy.af f1).af f2) i0 (by omega) ?_;refine aa.ne (fun ay=>?_) (fun heq=>?_)
  ·refine⟨?_,f1.trans f2⟩
   rw[decide_eq_false (fun t=>by subst t;exact ay rfl)]
  ·rw[wI (by omega) (by omega)]
   refine⟨⟨by dsimp only;omega,by dsimp only;omega,f1.trans f2,fun j hj=>?_⟩,by dsimp only;omega⟩;dsimp only at hj
   by_cases iN:(j:Int)<s.1
   ·exact hall j iN
   ·have:s.1.toNat=j:=by omega
    rw[this] at heq;exact UInt8.toNat_inj.1 (by omega)
 ·refine⟨?_,f1⟩
  rw[decide_eq_true];refine List.ext_getElem (by omega) fun j h1 h2=>?_;have:=hall j (by omega);rw[List.getD_eq_getElem?_getD,List.getD_eq_getElem?_getD,List.getElem?_eq_getElem h1,List.getElem?_eq_getElem h2] at this;simpa using this
theorem Er (m:Int):IntKind.u64.wrap m=m % 18446744073709551616:=by
 simp[IntKind.wrap,IntKind.signed,IntKind.bits]
theorem wF (m:Nat):IntKind.u64.wrap (m:Int)=((m % 18446744073709551616:Nat):Int):=by
 rw[Er];omega
theorem yI (m:Nat):(BitVec.ofInt 64 (m:Int)).toNat=m % 18446744073709551616:=by
 rw[BitVec.toNat_ofInt];show((m:Int) % ((18446744073709551616:Nat):Int)).toNat=_;omega
theorem yJ (x k:Nat)(U:k<64):IntKind.u64.wrap ((x:Int) * 2 ^ (min k 64))=((x * 2 ^ k % 18446744073709551616:Nat):Int):=by
 have e1:((x:Int) * 2 ^ (min k 64))=((x * 2 ^ k:Nat):Int):=by
  rw[Nat.min_eq_left (by omega)];norm_cast
 rw[e1,wF]
theorem yK (a b:Nat)(ha:a<18446744073709551616)(hb:b<18446744073709551616):IntKind.u64.wrap ((BitVec.ofInt 64 (a:Int) ||| BitVec.ofInt 64 (b:Int)).toNat:Int)=((a ||| b:Nat):Int):=by
 rw[wF,BitVec.toNat_or,yI,yI,Nat.mod_eq_of_lt ha,Nat.mod_eq_of_lt hb];have:=Nat.or_lt_two_pow (x:=a) (y:=b) (n:=64) ha hb;rw[Nat.mod_eq_of_lt this]
theorem Br (x k:Nat)(U:k<64):Int.fdiv (x:Int) (2 ^ (min k 64))=((x / 2 ^ k:Nat):Int):=by
 have e:(2:Int) ^ (min k 64)=((2 ^ k:Nat):Int):=by
  rw[Nat.min_eq_left (by omega)];norm_cast
 rw[e,Int.fdiv_eq_ediv_of_nonneg _ (Int.natCast_nonneg _)];rfl
def C110 (p0:Int)(w:World)(K:Value->World->Prop):Prop:=
 az Tryz.prog (Instr.makeSlice 22 (.int .i64 8) (.int .i64 8)) w (.v (.one .aj)) (fun(x1:an) w2=>bw (Int×Unit) (fun _ s3 w4 kM=>aa (decide (s3.1<(x1.2.1:Int)))
 (jC (IntKind.i64.wrap (56 - (IntKind.i64.wrap (8 * s3.1)))) (bK x1.1 x1.2.1 s3.1 1 (fun a6=>aA a6 (.int .u8 (IntKind.u8.wrap (Int.fdiv (IntKind.u64.wrap p0) (2 ^ (min (Int.toNat (IntKind.i64.wrap (56 - (IntKind.i64.wrap (8 * s3.1))))) 64))))) w4 (fun w7=>kM (IntKind.i64.wrap (s3.1+1),()) w7))))
 (K (.slice x1.1 x1.2.1 x1.2.2) w4))
 (0,()) w2)
def pl110:aB:=(.seq .auto (.seq .auto (.seq (.seq .auto (.block (.loop [(8,.one (.int .i64))] .auto))) .auto)))
theorem c110 (p0:Int)(w:World)(K:Value->World->Prop)(h:C110 p0 w K):Ret Tryz.prog 110 #[.int .i64 p0] w K:=aC (by kernel_rfl) Tryz.func110 (p:=pl110) (Eq.mpr (by kernel_rfl) h)
def C107 (p0:Option Addr)(aH aP:Nat)(w:World)(K:Value->World->Prop):Prop:=
 aa ((aH:Int) != 8)
 (K (.tuple #[.int .i64 0,.bool false]) w)
 (bw (Int×Int×Unit) (fun _ s1 w2 gm=>aa (decide (s1.2.1<(aH:Int)))
 (bK p0 aH s1.2.1 1 (fun a4=>ae (.int .u8) a4 w2 (fun(x5:Int)=>jC 8 (gm (IntKind.u64.wrap ((BitVec.ofInt 64 (IntKind.u64.wrap (s1.1 * 2 ^ (min (Int.toNat 8) 64))) ||| BitVec.ofInt 64 (IntKind.u64.wrap x5)).toNat:Int),IntKind.i64.wrap (s1.2.1+1),()) w2))))
 (K (.tuple #[.int .i64 (IntKind.i64.wrap s1.1),.bool true]) w2))
 (0,0,()) w)
def pl107:aB:=(.seq .auto (.seq .auto (.seq .auto (.seq (.seq .auto (.block (.loop [(4,.one (.int .u64)),(12,.one (.int .i64))] .auto))) .auto))))
theorem c107 (p0:Option Addr)(aH aP:Nat)(w:World)(K:Value->World->Prop)(h:C107 p0 aH aP w K):Ret Tryz.prog 107 #[.slice p0 aH aP] w K:=aC (by kernel_rfl) Tryz.func107 (p:=pl107) (Eq.mpr (by kernel_rfl) h)
def mh:Nat->Nat->List UInt8
 | 0,_=>[]
 | k+1,m=>mh k (m / 256)++[UInt8.ofNat (m % 256)]
def fA (bs:List UInt8):Nat:=bs.foldl (fun m b=>m * 256+b.toNat) 0
theorem Es (bs:List UInt8)(b:UInt8):fA (bs++[b])=fA bs * 256+b.toNat:=by unfold fA;rw[List.foldl_append];rfl
theorem uH:∀ k m,(mh k m).length=k
 | 0,_=>rfl
 | k+1,m=>by unfold mh;rw[List.length_append,uH k];rfl
theorem oK {n:Nat}(h:n<256):(UInt8.ofNat n).toNat=n:=by rw[UInt8.toNat_ofNat'];exact Nat.mod_eq_of_lt h
theorem Km:∀ k m,fA (mh k m)=m % 256 ^ k
 | 0,m=>by unfold mh fA;simp[Nat.mod_one]
 | k+1,m=>by
  unfold mh;rw[Es,Km k,oK (Nat.mod_lt _ (by decide)),Nat.pow_succ];have h:=Nat.mod_mul (x:=m) (a:=256) (b:=256 ^ k);rw[Nat.mul_comm (256 ^ k) 256,h];omega
theorem RH {α:Type}{Q:List α->Prop}(h0:Q [])(h1:∀ l a,Q l->Q (l++[a])):∀ l,Q l:=fun l=>by
 have h:∀ r:List α,Q r.reverse:=fun r=>by
  induction r with
  | nil=>exact h0
  | cons a r ih=>rw[List.reverse_cons];exact h1 _ _ ih
 have:=h l.reverse;rwa[List.reverse_reverse] at this
theorem Et:∀ bs:List UInt8,fA bs<256 ^ bs.length:=by
 refine RH (by decide) fun l a ih=>?_;rw[Es,List.length_append,List.length_singleton,Nat.pow_succ];have:=a.toNat_lt;omega
theorem Kn:∀ (k m i:Nat),i<k->(mh k m)[i]? = some (UInt8.ofNat (m / 256 ^ (k - 1 - i) % 256))
 | 0,_,_,h=>by omega
 | k+1,m,i,h=>by
  unfold mh
  by_cases hi:i<k
  ·rw[List.getElem?_append_left (by rw[uH];exact hi),Kn k _ i hi,Nat.div_div_eq_div_mul,<- Nat.pow_succ',show(k - 1 - i).succ=k+1 - 1 - i by omega]
  ·have:i=k:=by omega
   subst this;rw[List.getElem?_append_right (by rw[uH];exact Nat.le_refl _),uH,Nat.sub_self];simp
def cu (n:Int):List UInt8:=mh 8 (n % 18446744073709551616).toNat
theorem iB (n:Int):(cu n).length=8:=uH _ _
theorem RI (n:Int):fA (cu n)=(n % 18446744073709551616).toNat:=by
 unfold cu;rw[Km,show 256 ^ 8=18446744073709551616 by decide];omega
theorem Eu (m:Nat):IntKind.u8.wrap (m:Int)=((m % 256:Nat):Int):=by
 simp[IntKind.wrap,IntKind.signed,IntKind.bits]
theorem Ko (n:Int)(w:World):Ret Tryz.prog 110 #[.int .i64 n] w fun r w'=>∃ u:Sl,r=.slice u.1 u.2.1 u.2.2/\cg w' u (cu n)/\Fr none1 w w'/\∀ k,aw u k->w.heap.size<=k:=by
 refine c110 n w _ ?_;obtain⟨x,w1,hr,hx,kN,hxc,f1,Kp⟩:=Rx (P:=Tryz.prog) (w:=w) (k:=.i64) (k':=.i64) (n:=8) (m:=8) mR rfl (by omega) (by omega) (by decide);refine⟨x,w1,hr,?_⟩;have yL:cg w1 x (List.replicate 8 0):=hx;obtain⟨M,hM⟩:∃ M:Nat,M=(n % 18446744073709551616).toNat:=⟨_,rfl⟩;have RJ:IntKind.u64.wrap n=(M:Int):=by rw[Er];omega
 have abT:M<18446744073709551616:=by omega
 have mi:cu n=mh 8 M:=by rw[hM];rfl
 rw[mi];have abU:x.2.1=8:=kN;refine bw.of (fun s w'=>∃ i:Nat,s.1=i/\i<=8/\cg w' x ((mh 8 M).take i++List.replicate (8 - i) 0)/\Fr (aw x) w1 w') (fun s _=>(8 - s.1).toNat) ⟨0,rfl,by omega,yL,Fr.refl _ _⟩ ?_;rintro _ ⟨i',_⟩ w2 ⟨i,hi,yM,hb,f2⟩;dsimp only at hi ⊢;subst hi;refine aa.dec (fun aS=>?_) (fun dQ=>?_)
 ·have Kq:i<8:=by omega
  have e1:IntKind.i64.wrap (56 - IntKind.i64.wrap (8 * (i:Int)))=((8 * (7 - i):Nat):Int):=by
   rw[wI (x:=8 * (i:Int)) (by omega) (by omega),wI (by omega) (by omega)];omega
  rw[e1];refine⟨by omega,?_⟩;rw[Int.toNat_natCast,RJ,Br M (8 * (7 - i)) (by omega),Eu,show 2 ^ (8 * (7 - i))=256 ^ (7 - i) by rw[Nat.pow_mul]];have hv:Value.int .u8 ((M / 256 ^ (7 - i) % 256:Nat):Int)=bc (UInt8.ofNat (M / 256 ^ (7 - i) % 256)):=by
   unfold bc;rw[oK (Nat.mod_lt _ (by decide))]
  rw[hv];refine aF.st hb (by omega) aS rfl fun w3 aU f3 _=>?_;refine⟨⟨i+1,by rw[wI (by omega) (by omega)];omega,by omega,?_,f2.trans f3⟩,by rw[wI (by omega) (by omega)];omega⟩;unfold cg;rw[<- List.map_set,Int.toNat_natCast] at aU;have hl:(((mh 8 M).take i++List.replicate (8 - i) 0).set i (UInt8.ofNat (M / 256 ^ (7 - i) % 256)))=(mh 8 M).take (i+1)++List.replicate (8 - (i+1)) 0:=by
   have hd:=Kn 8 M i Kq;have hlen:((mh 8 M).take i).length=i:=by rw[List.length_take,uH];omega
   rw[List.set_append_right _ _ (by omega),hlen,Nat.sub_self,List.take_add_one,hd,show 8 - i=(8 - (i+1))+1 by omega,List.replicate_succ];simp
  rw[hl] at aU;exact aU
 ·have:i=8:=by omega
  subst this;rw[List.take_of_length_le (by rw[uH];omega)] at hb;have gJ:cg w2 x (mh 8 M):=by simpa using hb
  exact⟨x,rfl,gJ,f1.comp f2 fun k U t=>by have:=Kp k t;omega,Kp⟩
def gU (bs:List UInt8):Int×Bool:=if bs.length=8 then(IntKind.i64.wrap (fA bs:Int),true) else(0,false)
theorem RL (m:Nat)(b:UInt8)(hm:m<72057594037927936):IntKind.u64.wrap ((BitVec.ofInt 64 (IntKind.u64.wrap ((m:Int) * 2 ^ (min (Int.toNat 8) 64))) ||| BitVec.ofInt 64 (IntKind.u64.wrap (b.toNat:Int))).toNat:Int)=((m * 256+b.toNat:Nat):Int):=by
 have hb:=b.toNat_lt;rw[show Int.toNat 8=8 from rfl,yJ m 8 (by omega),wF b.toNat,Nat.mod_eq_of_lt (show m * 2 ^ 8<18446744073709551616 by omega),Nat.mod_eq_of_lt (show b.toNat<18446744073709551616 by omega),yK _ _ (by omega) (by omega)]
 congr 1
 rw[<- Nat.shiftLeft_eq,<- Nat.shiftLeft_add_eq_or_of_lt (show b.toNat<2 ^ 8 from hb),Nat.shiftLeft_eq]
theorem Ev (bs:List UInt8)(i:Nat)(h:i<bs.length):fA (bs.take (i+1))=fA (bs.take i) * 256+(bs.getD i 0).toNat:=by
 rw[List.take_add_one,List.getElem?_eq_getElem h,List.getD_eq_getElem?_getD,List.getElem?_eq_getElem h];exact Es _ _
theorem RM (bs:List UInt8)(i:Nat)(h:i<=7):fA (bs.take i)<72057594037927936:=by
 have h1:=Et (bs.take i);have h2:256 ^ (bs.take i).length<=256 ^ 7:=Nat.pow_le_pow_right (by decide) (by rw[List.length_take];omega);have:(256:Nat) ^ 7=72057594037927936:=by decide
 omega
theorem Bs {w:World}{v:Sl}{bs:List UInt8}(h:aZ w v bs):
  Ret Tryz.prog 107 #[.slice v.1 v.2.1 v.2.2] w fun r w'=>r=.tuple #[.int .i64 (gU bs).1,.bool (gU bs).2]/\w=w':=by
 refine c107 v.1 v.2.1 v.2.2 w _ ?_;have cM:=h.len;unfold gU;refine aa.ne (fun ay=>?_) (fun heq=>?_)
 ·rw[if_neg (by omega)];exact⟨rfl,rfl⟩
 rw[if_pos (by omega)];refine bw.of (fun s w'=>∃ i:Nat,s.2.1=i/\i<=8/\s.1=(fA (bs.take i):Int)/\w=w') (fun s _=>(8 - s.2.1).toNat) ⟨0,rfl,by omega,rfl,rfl⟩ ?_;rintro _ ⟨m,i',_⟩ _ ⟨i,hi,yM,hm,rfl⟩;dsimp only at hi hm ⊢;subst hi hm;refine aa.dec (fun aS=>?_) (fun dQ=>?_)
 ·have Kq:i<8:=by omega
  refine aZ.at h (by omega) aS ?_;refine⟨by omega,?_⟩;rw[Int.toNat_natCast,RL _ _ (RM bs i (by omega)),wI (by omega) (by omega)];refine⟨⟨i+1,by omega,by omega,?_,rfl⟩,by omega⟩;rw[Ev bs i (by omega)]
 ·rw[List.take_of_length_le (by omega)];exact⟨rfl,rfl⟩
theorem Bt (n:Int)(h0:-9223372036854775808<=n)(h1:n<=9223372036854775807):gU (cu n)=(n,true):=by
 unfold gU;rw[if_pos (iB n),RI]
 congr 1
 simp[IntKind.wrap,IntKind.signed,IntKind.bits];split<;>omega
namespace Vc
variable {P:Program}
theorem wG {w:World}{g:Nat}{es:Array MapEntry}{c:Nat}(h:w.heap[g]? = some (.map es c)):(getObj g).run P w=.ok (.map es c) w:=by
 simp[getObj,Sem.run,h]
theorem wH {w:World}{g:Nat}{es Kr:Array MapEntry}{c c':Nat}(h:w.heap[g]? = some (.map es c)):(setObj g (.map Kr c')).run P w=.ok () { w with heap:=w.heap.setIfInBounds g (.map Kr c') }:=by
 simp[setObj,Sem.run,h]
theorem wJ (w:World)(g:Nat)(o:Obj):Fr (only g) w { w with heap:=w.heap.setIfInBounds g o }:=
 ⟨rfl,rfl,rfl,by simp,fun k _ hn=>by
  show(w.heap.setIfInBounds g o)[k]? = _;rw[Array.getElem?_setIfInBounds_ne (fun e=>hn e.symm)]⟩
theorem heap_set {h:Array Obj}{g:Nat}(hg:g<h.size)(o:Obj):(h.setIfInBounds g o)[g]? = some o:=by simp[hg]
end Vc
namespace Vc
variable {P:Program}
theorem RN {t:TypeId}(ht:P.underlying t=some .string)(b:Bool)(s:ByteArray)(w:World):(Instr.checkKey b 10000 t (.string s)).run P w=.ok () w:=by
 show(Instr.checkKey b (9999+1) t (.string s)).run P w=.ok () w;unfold Instr.checkKey;simp only[Sem.run_bind,under ht,Result.andThen_ok];rfl
theorem RO {a b:ByteArray}(h:a≠b):(a==b)=false:=by
 cases hb:(a==b) with
 | false=>rfl
 | true=>
  exfalso;apply h
  cases a;cases b;have:(ByteArray.beq _ _)=true:=hb;unfold ByteArray.beq at this;simp at this;rw[this]
theorem Ks (s:ByteArray):∀ (es:List MapEntry) (i:Nat),(∀ e∈es,∃ s',e.key=.string s'/\s≠s')->Instr.findNow .string (.string s) es i=some none
 | [],_,_=>rfl
 | e::es,i,h=>by
  obtain⟨s',U,ay⟩:=h e (by simp);have hs:Instr.sameNow .string (.string s) e.key=some false:=by rw[U];exact congrArg some (RO ay)
  simp only[Instr.findNow,hs];exact Ks s es (i+1) fun x hx=>h x (by simp[hx])
theorem Bw {t k el:TypeId}{w:World}{g:Nat}{es:Array MapEntry}{c:Nat}(hb:w.heap[g]? = some (.map es c))(s:ByteArray)(v:Value)(ht:P.underlying t=some (.map k el))(U:P.underlying k=some .string)
  (hn:∀ e∈es.toList,∃ s',e.key=.string s'/\s≠s') {K:World->Prop}
  (h:∀ w',w'.heap[g]? = some (.map (es.push { key:=.string s,val:=v,born:=c }) (c+1))->Fr (only g) w w'->w'.heap.size=w.heap.size->K w'):jm P (Instr.mapUpdate t (.map (some g)) (.string s) v) w K:=by
 have aS:=bQ hb;refine⟨_,?_,h _ (heap_set aS _) (wJ _ _ _) (by simp)⟩;have hf:(Instr.findKey k (.string s) es.toList).run P w=.ok none w:=by
  unfold Instr.findKey;simp only[Sem.run_bind,under U,Result.andThen_ok,Ks s es.toList 0 hn];rfl
 unfold Instr.mapUpdate;simp only[Sem.run_bind,under ht,Result.andThen_ok,wG hb,RN U,hf,wH hb]
structure mj (w:World)(r m:Nat)(es:Array MapEntry)(c:Nat)(seen:Array Nat):Prop where
 it:w.heap[r]? = some (.mapIter (some m) c seen c)
 map:w.heap[m]? = some (.map es c)
 Ew:∀ x∈es.toList,x.born<c
 nodup:(es.toList.map (·.born)).Nodup
theorem mj.ag {w w':World}{r m:Nat}{es:Array MapEntry}{c:Nat}{seen:Array Nat}(h:mj w r m es c seen){S:Nat->Prop}(f:Fr S w w')(h1:¬ S r)(h2:¬ S m):mj w' r m es c seen:=
 ⟨f.ag h.it h1,f.ag h.map h2,h.Ew,h.nodup⟩
theorem mj.af {w w':World}{r m:Nat}{es:Array MapEntry}{c:Nat}{seen:Array Nat}(h:mj w r m es c seen)(f:Fr none1 w w'):mj w' r m es c seen:=h.ag f (fun t=>t) (fun t=>t)
def wK (w:World)(r m:Nat):Nat:=match w.heap[r]?,w.heap[m]? with
 | some (.mapIter _ _ seen _),some (.map es _)=>(leftOf es seen).size
 | _,_=>0
theorem mj.left {w:World}{r m:Nat}{es:Array MapEntry}{c:Nat}{seen:Array Nat}(h:mj w r m es c seen):wK w r m=(leftOf es seen).size:=by
 unfold wK;rw[h.it,h.map]
theorem RP {t k el:TypeId}{w:World}{m:Nat}{es:Array MapEntry}{c:Nat}(ht:P.underlying t=some (.map k el))(hb:w.heap[m]? = some (.map es c))(ho:∀ x∈es.toList,x.born<c)(hn:(es.toList.map (·.born)).Nodup){K:Option Addr->World->Prop}
  (h:∀ r w1,r=w.heap.size->mj w1 r m es c #[]->Fr none1 w w1->K (some ⟨r,0,none⟩) w1):az P (Instr.range t (.map (some m))) w (.v (.one .ptr)) K:=by
 refine⟨some ⟨w.heap.size,0,none⟩,{ w with heap:=w.heap.push (.mapIter (some m) c #[] c) },?_,h _ _ rfl ⟨by simp,(mf w _).af hb,ho,hn⟩ (mf w _)⟩
 simp[Instr.range,under ht,wG hb,newObj,Sem.run];rfl
theorem Kt {ty:TypeId}{w:World}{r m:Nat}{es:Array MapEntry}{c:Nat}{seen:Array Nat}(h:mj w r m es c seen){yes:Value->Value->World->Prop}{no:World->Prop}(yN:r≠m)
  (hy:∀ e,e∈es.toList->seen.contains e.born=false->∀ w1,mj w1 r m es c (seen.push e.born)->Fr (only r) w w1->wK w1 r m<wK w r m ->
   (∀ {K:Value×Value×Unit->World->Prop},K (e.key,e.val,()) w1->az P (Instr.entry (.pointer (some ⟨r,0,none⟩))) w1 (.aN [.one .raw,.one .raw]) K)->yes e.key e.val w1)
  (hn:(∀ e∈es.toList,seen.contains e.born=true)->no w):A6 P (.pointer (some ⟨r,0,none⟩)) ty w yes no:=by
 rcases run_next_at (P:=P) w ty r m c c seen es c h.it h.map h.Ew (Nat.le_refl _) with⟨h0,hr⟩ | ⟨e,he,w1,uv,hr⟩
 ·refine⟨.inr ⟨w,hr,hn fun e he=>?_⟩⟩
  cases hc:seen.contains e.born with
  | true=>rfl
  | false=>
   have:e∈leftOf es seen:=Array.mem_filter.2 ⟨Array.mem_toList_iff.1 he,by rw[hc];rfl⟩;have:=Array.size_pos_of_mem this;omega
 ·obtain⟨h1,h2⟩:=mem_left he
  have hh:w1.heap=w.heap:=by rcases uv with rfl | rfl<;>rfl
  have aS:=bQ h.it;obtain⟨w2,uw⟩:∃ w2,w2=Go.ChangeMaps.setBlock w1 r (.mapIter (some m) c (seen.push e.born) c):=⟨_,rfl⟩;rw[<- uw] at hr;have Ex:w2.heap=w.heap.setIfInBounds r (.mapIter (some m) c (seen.push e.born) c):=by rw[uw];show w1.heap.setIfInBounds r _=_;rw[hh]
  have hf:Fr (only r) w w2:=by
   refine⟨?_,?_,?_,by rw[Ex];simp,fun k _ U=>?_⟩
   ·rw[uw];show w1.os=w.os;rcases uv with rfl | rfl<;>rfl
   ·rw[uw];show w1.tape=w.tape;rcases uv with rfl | rfl<;>rfl
   ·rw[uw];show w1.output=w.output;rcases uv with rfl | rfl<;>rfl
   ·rw[Ex,Array.getElem?_setIfInBounds_ne (fun t=>U t.symm)]
  have hit:w2.heap[r]? = some (.mapIter (some m) c (seen.push e.born) c):=by rw[Ex];exact heap_set aS _
  have Ku:w2.heap[m]? = some (.map es c):=hf.jD h.map (fun t=>yN t.symm);have hM:mj w2 r m es c (seen.push e.born):=⟨hit,Ku,h.Ew,h.nodup⟩;refine⟨.inl ⟨e.key,e.val,w2,hr,hy e h1 h2 w2 hM hf ?_ ?_⟩⟩
  ·rw[hM.left,h.left];exact left_shrinks es seen e he
  ·intro K hK
   exact⟨(e.key,e.val,()),w2,run_entry_at w2 r m c seen es c e hit Ku h1 h.nodup,hK⟩
end Vc
def str (bs:List UInt8):ByteArray:=⟨bs.toArray⟩
theorem dR (bs:List UInt8):(str bs).size=bs.length:=by unfold str;simp[ByteArray.size]
theorem ke (bs:List UInt8):(str bs).data.toList=bs:=by unfold str;simp
theorem Kv (s:ByteArray):str s.data.toList=s:=by unfold str;cases s;simp
theorem yO (a b:List UInt8):str a++str b=str (a++b):=by
 apply ByteArray.ext;simp[str]
theorem str_inj {a b:List UInt8}(h:str a=str b):a=b:=by
 have:=congrArg (fun s=>s.data.toList) h;simpa[ke] using this
theorem yP (s:ByteArray):s.data.toList.length=s.size:=Array.length_toList
theorem RQ:str []=ByteArray.empty:=rfl
theorem bytes_beq (x y:ByteArray):(x.toList==y.toList)=decide (x=y):=by
 rw[ByteArray.toList_eq,ByteArray.toList_eq]
 by_cases h:x=y
 ·subst h;simp
 ·rw[decide_eq_false h]
  have:x.data.toList≠y.data.toList:=fun t=>h (by cases x;cases y;simpa using t);simpa using this
theorem iW (x y:List UInt8):((str x).toList==(str y).toList)=decide (x=y):=by
 rw[bytes_beq];exact decide_eq_decide.2 ⟨str_inj,fun h=>by rw[h]⟩
theorem uI (s:ByteArray)(k:Nat):s.get! k=s.data.toList.getD k 0:=by
 cases s with
 | mk d=>
  show d[k]! = d.toList.getD k 0
  by_cases h:k<d.size
  ·rw[getElem!_pos d k h];simp[List.getD,h]
  ·rw[getElem!_neg d k h];simp[List.getD,h];rfl
theorem RR {s t:ByteArray}{i j:Nat}(hg:∀ k,s.get! (i+k)=t.get! (j+k))(hs:∀ k,(i+k<s.size)=(j+k<t.size)):Utf8.decode s i=Utf8.decode t j:=by
 simp only[Utf8.decode,hg,hs]
def gV (l:List UInt8):Nat×Nat:=Utf8.decode (str l) 0
theorem Ey (s:ByteArray)(pos:Nat):Utf8.decode s pos=gV (s.data.toList.drop pos):=by
 unfold gV;refine RR (fun k=>?_) (fun k=>propext ?_)
 ·rw[uI,uI,ke]
  simp[List.getD,List.getElem?_drop]
 ·rw[dR,List.length_drop,Array.length_toList]
  show pos+k<s.data.size↔_;omega
theorem wL (l:List UInt8):1<=(gV l).2:=by
 simp only[gV,Utf8.decode]
 repeat' split
 all_goals simp
def mT:Nat->List UInt8->List Int
 | 0,_=>[]
 | f+1,l=>if l=[] then[] else((gV l).1:Int)::mT f (l.drop (gV l).2)
def cJ (l:List UInt8):List Int:=mT l.length l
theorem wM:∀ n,mT n []=[]
 | 0=>rfl
 | _+1=>by simp[mT]
theorem Kw:∀ (n m:Nat) (l:List UInt8),l.length<=n->l.length<=m->mT n l=mT m l
 | 0,m,l,hn,_=>by
  have:l=[]:=List.eq_nil_of_length_eq_zero (by omega);subst this;rw[wM,wM]
 | n+1,0,l,_,hm=>by
  have:l=[]:=List.eq_nil_of_length_eq_zero (by omega);subst this;rw[wM,wM]
 | n+1,m+1,l,hn,hm=>by
  by_cases ay:l=[]
  ·subst ay
   rw[wM,wM]
  ·have hw:=wL l
   have hl:0<l.length:=List.length_pos_iff.2 ay;simp only[mT,if_neg ay];rw[Kw n m _ (by rw[List.length_drop];omega) (by rw[List.length_drop];omega)]
theorem RT:cJ []=[]:=rfl
theorem yQ (l:List UInt8)(ay:l≠[]):cJ l=((gV l).1:Int)::cJ (l.drop (gV l).2):=by
 have hw:=wL l;have hl:0<l.length:=List.length_pos_iff.2 ay;unfold cJ;obtain⟨n,hn⟩:∃ n,l.length=n+1:=⟨l.length - 1,by omega⟩;rw[hn];simp only[mT,if_neg ay];rw[Kw n _ _ (by rw[List.length_drop];omega) (Nat.le_refl _)]
def jT (r:Int):Prop:=(0<=r/\r<55296)\/(57344<=r/\r<=1114111)
theorem Kx {r:Int}(h:jT r):Utf8.valid r=true:=by
 unfold jT at h;unfold Utf8.valid;simpa using h
theorem Ez (l:List UInt8):jT ((gV l).1:Int):=by
 have hb:∀ k,((str l).get! (0+k)).toNat<256:=fun k=>((str l).get! (0+k)).toNat_lt;have h0:=hb 0;unfold jT;simp only[gV,Utf8.decode]
 repeat' split
 all_goals simp_all [Utf8.runeError,Utf8.valid]
 all_goals omega
theorem Ky:∀ (n:Nat) (l:List UInt8),∀ c∈mT n l,jT c
 | 0,l,c,hc=>by simp[mT] at hc
 | n+1,l,c,hc=>by
  unfold mT at hc;split at hc
  ·simp at hc
  ·rcases List.mem_cons.1 hc with h | h
   ·rw[h];exact Ez l
   ·exact Ky n _ c h
theorem RU (l:List UInt8):∀ c∈cJ l,jT c:=Ky _ _
theorem Kz:∀ (n:Nat) (l:List UInt8),(mT n l).length<=l.length
 | 0,l=>by simp[mT]
 | n+1,l=>by
  unfold mT;split
  ·simp
  ·rename_i ay
   have hw:=wL l;have:=Kz n (l.drop (gV l).2);rw[List.length_drop] at this;have hl:0<l.length:=List.length_pos_iff.2 ay;simp only[List.length_cons];omega
theorem EA (l:List UInt8):(cJ l).length<=l.length:=Kz _ _
def enc (r:Int):List UInt8:=(Utf8.encode r).data.toList
def ef (rs:List Int):List UInt8:=rs.flatMap enc
theorem tf (r:Int)(rs:List Int):ef (r::rs)=enc r++ef rs:=by unfold ef;rw[List.flatMap_cons]
theorem KA (a b:List Int):ef (a++b)=ef a++ef b:=by unfold ef;rw[List.flatMap_append]
theorem RV (r:Int):ef [r]=enc r:=by unfold ef;simp
theorem RW:ef []=[]:=rfl
theorem mU {n:Nat}(h:n<256):(UInt8.ofNat n).toNat=n:=by
 rw[UInt8.toNat_ofNat'];exact Nat.mod_eq_of_lt h
theorem EB (n:Nat)(h:jT (n:Int)):enc (n:Int)=if n<128 then[UInt8.ofNat n] else if n<2048 then[UInt8.ofNat (192+n / 64),UInt8.ofNat (128+n % 64)] else
  if n<65536 then[UInt8.ofNat (224+n / 4096),UInt8.ofNat (128+n / 64 % 64),UInt8.ofNat (128+n % 64)] else[UInt8.ofNat (240+n / 262144),UInt8.ofNat (128+n / 4096 % 64),UInt8.ofNat (128+n / 64 % 64),UInt8.ofNat (128+n % 64)]:=by
 unfold enc Utf8.encode;simp only[Kx h,if_true,Int.toNat_natCast];split
 ·rfl
 split
 ·rfl
 split<;>rfl
theorem RX (r:Int)(h:jT r)(t:List UInt8):gV (enc r++t)=(r.toNat,(enc r).length):=by
 obtain⟨n,rfl⟩:∃ n:Nat,r=n:=⟨r.toNat,by unfold jT at h;omega⟩;have hv:=Kx h;rw[Int.toNat_natCast,EB n h];unfold jT at h;split
 ·simp only[gV,Utf8.decode,uI,ke,dR,List.cons_append,List.nil_append,List.getD_cons_zero,List.length_cons,List.length_nil,Nat.add_zero]
  rw[mU (by omega),if_pos (by omega)]
 split
 ·simp only[gV,Utf8.decode,uI,ke,dR,List.cons_append,List.nil_append,List.getD_cons_zero,List.getD_cons_succ,List.length_cons,List.length_nil,Nat.add_zero,Nat.zero_add]
  rw[mU (n:=192+n / 64) (by omega),mU (n:=128+n % 64) (by omega)];have e:(192+n / 64) % 32 * 64+(128+n % 64) % 64=n:=by omega
  rw[e,if_neg (by omega),if_pos (by simp;omega),if_pos (by omega)]
 split
 ·simp only[gV,Utf8.decode,uI,ke,dR,List.cons_append,List.nil_append,List.getD_cons_zero,List.getD_cons_succ,List.length_cons,List.length_nil,Nat.add_zero,Nat.zero_add]
  rw[mU (n:=224+n / 4096) (by omega),mU (n:=128+n / 64 % 64) (by omega),mU (n:=128+n % 64) (by omega)];have e:(224+n / 4096) % 16 * 4096+(128+n / 64 % 64) % 64 * 64+(128+n % 64) % 64=n:=by omega
  rw[e,if_neg (by omega),if_neg (by simp;omega),if_pos (by simp;omega),if_pos (by rw[hv];simp;omega)]
 ·simp only[gV,Utf8.decode,uI,ke,dR,List.cons_append,List.nil_append,List.getD_cons_zero,List.getD_cons_succ,List.length_cons,List.length_nil,Nat.add_zero,Nat.zero_add]
  rw[mU (n:=240+n / 262144) (by omega),mU (n:=128+n / 4096 % 64) (by omega),mU (n:=128+n / 64 % 64) (by omega),mU (n:=128+n % 64) (by omega)];have e:(240+n / 262144) % 8 * 262144+(128+n / 4096 % 64) % 64 * 4096+(128+n / 64 % 64) % 64 * 64+(128+n % 64) % 64=n:=by omega
  rw[e,if_neg (by omega),if_neg (by simp;omega),if_neg (by simp;omega),if_pos (by simp;omega),if_pos (by rw[hv];simp;omega)]
theorem RY (r:Int):1<=(Utf8.encode r).size:=by
 unfold Utf8.encode;dsimp only;generalize(if Utf8.valid r=true then r.toNat else Utf8.runeError)=c;split
 ·exact Nat.le_refl 1
 split
 ·exact Nat.le_succ 1
 split
 ·exact Nat.succ_le_of_lt (Nat.succ_pos 2)
 ·exact Nat.succ_le_of_lt (Nat.succ_pos 3)
theorem KB (r:Int):enc r≠[]:=by
 intro h;have:=RY r;have h2:(Utf8.encode r).size=(enc r).length:=by unfold enc;rw[Array.length_toList];rfl
 rw[h2,h] at this;simp at this
theorem KC (r:Int):1<=(enc r).length/\(enc r).length<=4:=by
 constructor
 ·exact List.length_pos_iff.2 (KB r)
 ·have:=encode_size_le r
  have h2:(Utf8.encode r).size=(enc r).length:=by unfold enc;rw[Array.length_toList];rfl
  omega
theorem RZ (r:Int)(h:jT r)(t:List UInt8):cJ (enc r++t)=r::cJ t:=by
 rw[yQ _ (by have:=KB r;simp[this]),RX r h,List.drop_left];have:0<=r:=by unfold jT at h;omega
 congr 1
 omega
theorem KD:∀ (rs:List Int) (t:List UInt8),(∀ r∈rs,jT r)->cJ (ef rs++t)=rs++cJ t
 | [],t,_=>rfl
 | r::rs,t,h=>by
  rw[tf,List.append_assoc,RZ r (h r (by simp)),KD rs t (fun c hc=>h c (by simp[hc]))];rfl
theorem R0 (rs:List Int)(h:∀ r∈rs,jT r):cJ (ef rs)=rs:=by
 have:=KD rs [] h;rwa[List.append_nil,RT,List.append_nil] at this
theorem R1 (rs:List Int):rs.length<=(ef rs).length/\(ef rs).length<=4 * rs.length:=by
 induction rs with
 | nil=>simp[ef]
 | cons r rs ih=>
  have:=KC r;rw[tf,List.length_append,List.length_cons];omega
theorem EC (r:Int):Utf8.encode r=str (enc r):=by unfold enc;rw[Kv]
theorem R2 (ns:List Int):runesBytes ns=str (ef ns):=by
 have key:∀ (ns:List Int) (a:List UInt8),ns.foldl (fun r n=>r++Utf8.encode n) (str a)=str (a++ef ns):=by
  intro ns
  induction ns with
  | nil=>intro a;simp[ef]
  | cons n ns ih=>
   intro a;rw[List.foldl_cons,EC,yO,ih,tf,List.append_assoc]
 unfold runesBytes;rw[<- RQ,key,List.nil_append]
def jE (w:World)(r:Nat)(rs:List Int):Prop:=∃ s pos,w.heap[r]? = some (.stringIter s pos)/\cJ (s.data.toList.drop pos)=rs
theorem jE.ag {w w':World}{r:Nat}{rs:List Int}(h:jE w r rs){S:Nat->Prop}(f:Fr S w w')(hn:¬ S r):jE w' r rs:=by
 obtain⟨s,pos,a,b⟩:=h;exact⟨s,pos,f.ag a hn,b⟩
theorem jE.af {w w':World}{r:Nat}{rs:List Int}(h:jE w r rs)(f:Fr none1 w w'):jE w' r rs:=h.ag f (fun t=>t)
theorem jE.lt {w:World}{r:Nat}{rs:List Int}(h:jE w r rs):r<w.heap.size:=by
 obtain⟨s,pos,a,b⟩:=h;exact bQ a
theorem R3 {w:World}{t:TypeId}(ht:Tryz.prog.underlying t=some .string)(s:ByteArray){K:Option Addr->World->Prop}
  (hK:∀ r w1,r=w.heap.size->jE w1 r (cJ s.data.toList)->Fr none1 w w1->K (some ⟨r,0,none⟩) w1):az Tryz.prog (Instr.range t (.string s)) w (.v (.one .ptr)) K:=by
 refine⟨some ⟨w.heap.size,0,none⟩,{ w with heap:=w.heap.push (.stringIter s 0) },?_,hK _ _ rfl ⟨s,0,Array.getElem?_push_size ..,by rw[List.drop_zero]⟩ (mf _ _)⟩
 unfold Instr.range;simp only[Sem.run_bind,under ht,Result.andThen_ok,Sem.run_pure,run_newObj];rfl
theorem Bx {w:World}{r:Nat}{rs:List Int}(h:jE w r rs){yes:Int->Int->World->Prop}{no:Prop}
  (hy:∀ c rest pos w1,rs=c::rest->jT c->jE w1 r rest->Fr (only r) w w1->yes pos c w1) (hn:rs=[]->no):vW (some ⟨r,0,none⟩) w yes no:=by
 obtain⟨s,pos,hb,rfl⟩:=h;refine⟨r,s,pos,rfl,hb,?_⟩;have hsz:s.size=s.data.toList.length:=by rw[Array.length_toList];rfl
 split
 ·rename_i aS
  have ay:s.data.toList.drop pos≠[]:=fun t=>by
   have:=congrArg List.length t;rw[List.length_drop,List.length_nil] at this;omega
  have dz:=yQ _ ay;rw[<- Ey,List.drop_drop] at dz;refine hy _ _ _ _ dz ?_ ⟨s,_,?_,rfl⟩ ?_
  ·have:=Ez (s.data.toList.drop pos)
   rwa[<- Ey] at this
  ·have:=bQ hb
   exact Array.getElem?_setIfInBounds_self_of_lt this
  ·refine⟨rfl,rfl,rfl,by simp,fun k U hn=>?_⟩
   have:r≠k:=fun e=>hn e.symm;exact Array.getElem?_setIfInBounds_ne this
 ·rename_i dQ
  refine hn ?_;rw[List.drop_of_length_le (by omega)];rfl
def C213 (p0:Int)(w:World)(K:Value->World->Prop):Prop:=
 aa (decide (p0 >= 48))
 (K (.bool (decide (p0<=57))) w)
 (K (.bool false) w)
def pl213:aB:=.auto
theorem c213 (p0:Int)(w:World)(K:Value->World->Prop)(h:C213 p0 w K):Ret Tryz.prog 213 #[.int .i32 p0] w K:=aC (by kernel_rfl) Tryz.func213 (p:=pl213) (Eq.mpr (by kernel_rfl) h)
def C212 (p0:Int)(w:World)(K:Value->World->Prop):Prop:=
 aa (decide (p0 >= 97))
 (aa (decide (p0<=122))
 (K (.bool true) w)
 (ab Tryz.prog 213 #[.int .i32 p0] w (.v (.one .bool)) (fun(x1:Bool) w2=>aa x1
 (K (.bool true) w2)
 (aa (p0==95)
 (K (.bool true) w2)
 (aa (decide (p0 >= 128))
 (K (.bool (p0 != 65533)) w2)
 (K (.bool false) w2))))))
 (ab Tryz.prog 213 #[.int .i32 p0] w (.v (.one .bool)) (fun(x3:Bool) w4=>aa x3
 (K (.bool true) w4)
 (aa (p0==95)
 (K (.bool true) w4)
 (aa (decide (p0 >= 128))
 (K (.bool (p0 != 65533)) w4)
 (K (.bool false) w4)))))
def pl212:aB:=.auto
theorem c212 (p0:Int)(w:World)(K:Value->World->Prop)(h:C212 p0 w K):Ret Tryz.prog 212 #[.int .i32 p0] w K:=aC (by kernel_rfl) Tryz.func212 (p:=pl212) (Eq.mpr (by kernel_rfl) h)
def C169 (p0:ByteArray)(w:World)(K:Value->World->Prop):Prop:=
 az Tryz.prog (Instr.range 9 (.string p0)) w (.v (.one .ptr)) (fun(x1:Option Addr) w2=>bw (Int×Unit) (fun _ s3 w4 kM=>vW x1 w4 (fun x6 x7 w8=>ab Tryz.prog 212 #[.int .i32 x7] w8 (.v (.one .bool)) (fun(x9:Bool) aG=>aa (!x9)
 (K (.bool false) aG)
 (aa ((IntKind.i64.wrap (s3.1+1))==1)
 (ab Tryz.prog 213 #[.int .i32 x7] aG (.v (.one .bool)) (fun(ba:Bool) aM=>aa ba
 (K (.bool false) aM)
 (aa (decide ((IntKind.i64.wrap (s3.1+1)) > 12))
 (K (.bool false) aM)
 (kM (IntKind.i64.wrap (s3.1+1),()) aM))))
 (aa (decide ((IntKind.i64.wrap (s3.1+1)) > 12))
 (K (.bool false) aG)
 (kM (IntKind.i64.wrap (s3.1+1),()) aG)))))
 (K (.bool (decide (s3.1 > 0))) w4))
 (0,()) w2)
def pl169:aB:=(.seq .auto (.seq .auto (.seq (.seq .auto (.block (.loop [(3,.one (.int .i64))] .auto))) .auto)))
theorem c169 (p0:ByteArray)(w:World)(K:Value->World->Prop)(h:C169 p0 w K):Ret Tryz.prog 169 #[.string p0] w K:=aC (by kernel_rfl) Tryz.func169 (p:=pl169) (Eq.mpr (by kernel_rfl) h)
def C299 (p0:Int)(w:World)(K:Value->World->Prop):Prop:=
 ab Tryz.prog 212 #[.int .i32 p0] w (.v (.one .bool)) (fun(x1:Bool) w2=>aa x1
 (K (.int .u8 97) w2)
 (aa (p0==45)
 (K (.int .u8 97) w2)
 (aa (p0==40)
 (K (.int .u8 40) w2)
 (aa (p0==41)
 (K (.int .u8 40) w2)
 (aa (p0==44)
 (K (.int .u8 40) w2)
 (aa (p0==32)
 (K (.int .u8 32) w2)
 (K (.int .u8 0) w2)))))))
def pl299:aB:=.auto
theorem c299 (p0:Int)(w:World)(K:Value->World->Prop)(h:C299 p0 w K):Ret Tryz.prog 299 #[.int .i32 p0] w K:=aC (by kernel_rfl) Tryz.func299 (p:=pl299) (Eq.mpr (by kernel_rfl) h)
def C271 (p0:ByteArray)(w:World)(K:Value->World->Prop):Prop:=
 az Tryz.prog (Instr.range 9 (.string p0)) w (.v (.one .ptr)) (fun(x1:Option Addr) w2=>bw (an×Int×Bool×Unit) (fun _ s3 w4 kM=>vW x1 w4 (fun x6 x7 w8=>ab Tryz.prog 299 #[.int .i32 x7] w8 (.v (.one (.int .u8))) (fun(x9:Int) aG=>aa (x9==0)
 (K (.tuple #[.slice none 0 0,.int .i64 (IntKind.i64.wrap (s3.2.1+1))]) aG)
 (cq (Bool×Unit) (fun KE=>aa (x9==97)
 (KE (s3.2.2.1,()) aG)
 (KE (false,()) aG))
 (fun _ fL aW=>aa fL.1
 (bK s3.1.1 s3.1.2.1 (IntKind.i64.wrap ((s3.1.2.1:Int) - 1)) 2 (fun ED=>ae .str (ED.add 0) aW (fun(bj:ByteArray)=>vV bj (Utf8.encode x7) (bK s3.1.1 s3.1.2.1 (IntKind.i64.wrap ((s3.1.2.1:Int) - 1)) 2 (fun yR=>aA (yR.add 0) (.string (bj++(Utf8.encode x7))) aW (fun b9=>kM ((s3.1.1,s3.1.2.1,s3.1.2.2),IntKind.i64.wrap (s3.2.1+1),(x9==97),()) b9))))))
 (aa (x9 != 32)
 (az Tryz.prog (Instr.buildSlice 408 1 #[(0,.agg #[.string (Utf8.encode x7),.int .i64 (IntKind.i64.wrap (s3.2.1+1))])]) aW (.v (.one .aj)) (fun(br:an) bx=>az Tryz.prog (Builtin.append_ #[408,408] 408 #[.slice s3.1.1 s3.1.2.1 s3.1.2.2,.slice br.1 br.2.1 br.2.2]) bx (.v (.one .aj)) (fun(cw:an) bB=>kM ((cw.1,cw.2.1,cw.2.2),IntKind.i64.wrap (s3.2.1+1),(x9==97),()) bB)))
 (kM ((s3.1.1,s3.1.2.1,s3.1.2.2),IntKind.i64.wrap (s3.2.1+1),(x9==97),()) aW))))))
 (K (.tuple #[.slice s3.1.1 s3.1.2.1 s3.1.2.2,.int .i64 0]) w4))
 ((none,0,0),0,false,()) w2)
def pl271:aB:=(.seq .auto (.seq .auto (.seq (.seq .auto (.block (.loop [(2,.one .aj),(4,.one (.int .i64)),(5,.one .bool)] (.seq .auto (.seq .auto (.block (.seq .auto (.seq .auto (.seq .auto (.seq .auto (.seq (.block (.join [(21,.one .bool)] .auto .auto)) .auto))))))))))) .auto)))
theorem c271 (p0:ByteArray)(w:World)(K:Value->World->Prop)(h:C271 p0 w K):Ret Tryz.prog 271 #[.string p0] w K:=aC (by kernel_rfl) Tryz.func271 (p:=pl271) (Eq.mpr (by kernel_rfl) h)
def uJ (r:Int):Bool:=decide (48<=r)&&decide (r<=57)
def isLet (r:Int):Bool:=(decide (97<=r)&&decide (r<=122))||uJ r||r==95||(decide (128<=r)&&r != 65533)
theorem KF (r:Int)(w:World):Ret Tryz.prog 213 #[.int .i32 r] w fun v w'=>v=.bool (uJ r)/\w=w':=by
 refine c213 r w _ ?_;unfold uJ;refine aa.dec (fun h=>?_) (fun h=>?_)
 ·rw[decide_eq_true (p:=48<=r) (by omega)];exact⟨rfl,rfl⟩
 ·rw[decide_eq_false (p:=48<=r) (by omega)];exact⟨rfl,rfl⟩
theorem KG (r:Int)(w:World):Ret Tryz.prog 212 #[.int .i32 r] w fun v w'=>v=.bool (isLet r)/\w=w':=by
 refine c212 r w _ ?_;have tail:(decide (97<=r)&&decide (r<=122))=false->ab Tryz.prog 213 #[.int .i32 r] w (.v (.one .bool)) (fun(x1:Bool) w2=>aa x1
   ((.bool true:Value)=.bool (isLet r)/\w=w2) (aa (r==95) ((.bool true:Value)=.bool (isLet r)/\w=w2) (aa (decide (r >= 128)) ((.bool (r != 65533):Value)=.bool (isLet r)/\w=w2) ((.bool false:Value)=.bool (isLet r)/\w=w2)))):=fun h=>by
  refine ab.of (KF r w) ?_;rintro _ _ ⟨rfl,rfl⟩;refine⟨_,rfl,?_⟩;unfold isLet;rw[h,Bool.false_or];refine aa.by (fun h1=>?_) (fun h1=>?_)
  ·rw[h1];exact⟨rfl,rfl⟩
  rw[h1,Bool.false_or];refine aa.by (fun h2=>?_) (fun h2=>?_)
  ·rw[h2];exact⟨rfl,rfl⟩
  rw[h2,Bool.false_or];refine aa.dec (fun h3=>?_) (fun h3=>?_)
  ·rw[decide_eq_true (p:=128<=r) (by omega)];exact⟨by rw[Bool.true_and],rfl⟩
  ·rw[decide_eq_false (p:=128<=r) (by omega)];exact⟨rfl,rfl⟩
 refine aa.dec (fun h=>?_) (fun h=>?_)
 ·refine aa.dec (fun h2=>?_) (fun h2=>?_)
  ·unfold isLet
   rw[decide_eq_true (p:=97<=r) (by omega),decide_eq_true (p:=r<=122) (by omega)];exact⟨rfl,rfl⟩
  ·exact tail (by rw[decide_eq_false (p:=r<=122) (by omega),Bool.and_false])
 ·exact tail (by rw[decide_eq_false (p:=97<=r) (by omega),Bool.false_and])
def mV (w:World)(r:Nat):Nat:=match w.heap[r]? with
 | some (.stringIter s pos)=>(cJ (s.data.toList.drop pos)).length
 | _=>0
theorem jE.left {w:World}{r:Nat}{rs:List Int}(h:jE w r rs):mV w r=rs.length:=by
 obtain⟨s,pos,a,b⟩:=h;unfold mV;rw[a,<- b]
theorem BA {w:World}(bs:List UInt8){K:Option Addr->World->Prop}
  (hK:∀ r w1,r=w.heap.size->jE w1 r (cJ bs)->Fr none1 w w1->K (some ⟨r,0,none⟩) w1):az Tryz.prog (Instr.range 9 (.string (str bs))) w (.v (.one .ptr)) K:=by
 refine R3 Tryz.underlying9 (str bs) ?_;rw[ke];exact hK
def kf (n:Nat):List Int->Bool
 | []=>decide (0<n)
 | r::rs=>if isLet r=false then false else if n=0/\uJ r=true then false else if 12<n+1 then false else kf (n+1) rs
theorem uK (bs:List UInt8)(w:World):Ret Tryz.prog 169 #[.string (str bs)] w fun v w'=>v=.bool (kf 0 (cJ bs))/\Fr none1 w w':=by
 refine c169 _ w _ ?_;refine BA bs fun r w1 hr hit f1=>?_;have F0:Fr (only r) w1 w1:=Fr.refl _ _;refine bw.of (fun s w'=>∃ (n:Nat) (rest:List Int),s.1=n/\n<=12/\jE w' r rest/\Fr (only r) w1 w'/\kf n rest=kf 0 (cJ bs)) (fun _ w'=>mV w' r) ⟨0,_,rfl,by omega,hit,F0,rfl⟩ ?_;rintro _ ⟨n',_⟩ w2 ⟨n,rest,hn,abV,qL,f2,jU⟩;dsimp only at hn ⊢;subst hn;have fin:∀ w',Fr (only r) w1 w'->Fr none1 w w':=fun w' f=>f1.fresh f (by omega);refine Bx qL (fun c lJ pos w3 hc jV pH f3=>?_) (fun jF=>?_)
 ·subst hc
  have pI:=fin _ (f2.trans f3);refine ab.of (KG c w3) ?_;rintro _ _ ⟨rfl,rfl⟩;refine⟨_,rfl,?_⟩;have ml:mV w3 r<mV w2 r:=by rw[pH.left,qL.left];simp
  have dz:kf n (c::lJ)=if isLet c=false then false else if n=0/\uJ c=true then false else if 12<n+1 then false else kf (n+1) lJ:=rfl;rw[dz] at jU
  by_cases hl:isLet c=false
  ·rw[if_pos hl] at jU
   refine aa.t (by rw[hl];rfl) ⟨by rw[<- jU],pI⟩
  rw[if_neg hl] at jU;refine aa.f (by simpa using hl) ?_;rw[wI (x:=(n:Int)+1) (by omega) (by omega)];have KH:¬ (n=0/\uJ c=true)->aa (decide ((n:Int)+1 > 12)) ((.bool false:Value)=.bool (kf 0 (cJ bs))/\Fr none1 w w3)
    ((∃ (n':Nat) (rest:List Int),((n:Int)+1)=n'/\n'<=12/\jE w3 r rest/\Fr (only r) w1 w3/\kf n' rest=kf 0 (cJ bs))/\mV w3 r<mV w2 r):=fun hd=>by
   rw[if_neg hd] at jU;refine aa.dec (fun h=>?_) (fun h=>?_)
   ·rw[if_pos (by omega)] at jU;exact⟨by rw[<- jU],pI⟩
   ·rw[if_neg (by omega)] at jU
    exact⟨⟨n+1,lJ,by omega,by omega,pH,f2.trans f3,jU⟩,ml⟩
  refine aa.eq (fun h1=>?_) (fun h1=>?_)
  ·refine ab.of (KF c w3) ?_
   rintro _ _ ⟨rfl,rfl⟩;refine⟨_,rfl,?_⟩;refine aa.by (fun hd=>?_) (fun hd=>?_)
   ·rw[if_pos ⟨by omega,hd⟩] at jU;exact⟨by rw[<- jU],pI⟩
   ·exact KH fun t=>by rw[t.2] at hd;cases hd
  ·exact KH fun t=>by have:=t.1;omega
 ·subst jF
  refine⟨?_,fin _ f2⟩;rw[<- jU];unfold kf
  congr 1
  exact decide_eq_decide.2 (by omega)
end Go.Proofs.YtmkehncgjnhhcaaGreatDoor
