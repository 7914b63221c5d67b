/-
  Texts of this claim, put together: Vc, VcSound, VcMem, VcSlice, BytesSpec, CTypes, SameB, U64, CPackN, PackNum, VcMap, VcMapS, Utf, CRunes, NameSpec.
  Conditions: those of each theorem.
-/
import Derived.Below
import Derived.Deep.Draws
import Derived.IntWalk
import Derived.KernelRfl
import Derived.Laws.Cover4
import Derived.Laws.Runes
import Derived.Laws.StructEq
import Derived.Laws.Tables
import Derived.Maps.RangeRun
import Derived.StillTail
import Derived.Test.YtmkehncgjnhhcaaGreatDoorProg
namespace Go.Proofs.YtmkehncgjnhhcaaGreatDoor
namespace Vc
inductive Ck where
 | int (k:IntKind) | bool | str | ptr | aj | map | raw
 deriving Inhabited
@[reducible] def Ck.C:Ck->Type
 | .int _=>Int | .bool=>Bool | .str=>ByteArray | .ptr=>Option Addr | .aj=>Option Addr×Nat×Nat | .map=>Option Nat | .raw=>Value
def Ck.val:(c:Ck)->c.C->Value
 | .int k,n=>.int k n
 | .bool,b=>.bool b
 | .str,s=>.string s
 | .ptr,p=>.pointer p
 | .aj,x=>.slice x.1 x.2.1 x.2.2
 | .map,r=>.map r
 | .raw,v=>v
@[reducible] def Cs:List Ck->Type
 | []=>Unit
 | c::cs=>c.C×Cs cs
def Cs.vals:(cs:List Ck)->Cs cs->List Value
 | [],_=>[]
 | c::cs,x=>c.val x.1::Cs.vals cs x.2
inductive Kd where
 | one (c:Ck) | agg (cs:List Ck) | arr
 deriving Inhabited
@[reducible] def Kd.C:Kd->Type
 | .one c=>c.C | .agg cs=>Cs cs | .arr=>List Value
def Kd.val:(k:Kd)->k.C->Value
 | .one c,x=>c.val x
 | .agg cs,x=>.agg (Cs.vals cs x).toArray
 | .arr,x=>.agg x.toArray
@[reducible] def St:List Kd->Type
 | []=>Unit
 | k::ks=>k.C×St ks
def St.vals:(ks:List Kd)->St ks->List Value
 | [],_=>[]
 | k::ks,x=>k.val x.1::St.vals ks x.2
inductive Rk where
 | v (k:Kd) | aN (ks:List Kd)
@[reducible] def Rk.C:Rk->Type
 | .v k=>k.C | .aN ks=>St ks
def Rk.val:(r:Rk)->r.C->Value
 | .v k,x=>k.val x
 | .aN ks,x=>.tuple (St.vals ks x).toArray
def Ck.ex:(c:Ck)->Value->(c.C->Prop)->Prop
 | .int k,v,K=>match v with | .int k' n=>(match decide (k'=k) with | true=>K n | false=>False) | _=>False
 | .bool,v,K=>match v with | .bool b=>K b | _=>False
 | .str,v,K=>match v with | .string s=>K s | _=>False
 | .ptr,v,K=>match v with | .pointer p=>K p | _=>False
 | .aj,v,K=>match v with | .slice p l c=>K (p,l,c) | _=>False
 | .map,v,K=>match v with | .map r=>K r | _=>False
 | .raw,v,K=>K v
theorem Ck.kN {c:Ck}{v:Value}{K:c.C->Prop}(h:c.ex v K):∃ x,v=c.val x/\K x:=by
 cases c<;>simp only[Ck.ex] at h
 case int k=>
  cases v<;>simp only at h
  rename_i k' n
  by_cases e:k'=k
  ·simp only[e,decide_true] at h;exact⟨n,by rw[e];rfl,h⟩
  ·simp[e] at h
 case raw=>exact⟨v,rfl,h⟩
 all_goals (cases v<;>simp only at h;exact⟨_,rfl,h⟩)
def Cs.ex:(cs:List Ck)->List Value->(Cs cs->Prop)->Prop
 | [],l,K=>match l with | []=>K () | _::_=>False
 | c::cs,l,K=>match l with | []=>False | v::l=>c.ex v fun x=>Cs.ex cs l fun y=>K (x,y)
theorem Cs.kN:∀ {cs:List Ck} {l:List Value} {K:Cs cs->Prop},Cs.ex cs l K->∃ x,l=Cs.vals cs x/\K x
 | [],l,K,h=>by
  cases l with
  | nil=>exact⟨(),rfl,h⟩
  | cons a l=>exact h.elim
 | c::cs,l,K,h=>by
  cases l with
  | nil=>exact h.elim
  | cons v l=>
   obtain⟨x,rfl,h1⟩:=Ck.kN (c:=c) (v:=v) (K:=fun x=>Cs.ex cs l fun y=>K (x,y)) h;obtain⟨y,rfl,h2⟩:=Cs.kN h1;exact⟨(x,y),rfl,h2⟩
def Kd.ex:(k:Kd)->Value->(k.C->Prop)->Prop
 | .one c,v,K=>c.ex v K
 | .agg cs,v,K=>match v with | .agg a=>Cs.ex cs a.toList K | _=>False
 | .arr,v,K=>match v with | .agg a=>K a.toList | _=>False
theorem Kd.kN {k:Kd}{v:Value}{K:k.C->Prop}(h:k.ex v K):∃ x,v=k.val x/\K x:=by
 cases k<;>simp only[Kd.ex] at h
 case one c=>exact Ck.kN h
 case agg cs=>
  cases v<;>simp only at h
  rename_i a;obtain⟨x,hx,h⟩:=Cs.kN h;exact⟨x,by simp only[Kd.val,<- hx],h⟩
 case arr=>
  cases v<;>simp only at h
  rename_i a;exact⟨a.toList,by simp only[Kd.val],h⟩
def St.ex:(ks:List Kd)->List Value->(St ks->Prop)->Prop
 | [],l,K=>match l with | []=>K () | _::_=>False
 | k::ks,l,K=>match l with | []=>False | v::l=>k.ex v fun x=>St.ex ks l fun y=>K (x,y)
theorem St.kN:∀ {ks:List Kd} {l:List Value} {K:St ks->Prop},St.ex ks l K->∃ x,l=St.vals ks x/\K x
 | [],l,K,h=>by
  cases l with
  | nil=>exact⟨(),rfl,h⟩
  | cons a l=>exact h.elim
 | k::ks,l,K,h=>by
  cases l with
  | nil=>exact h.elim
  | cons v l=>
   obtain⟨x,rfl,h1⟩:=Kd.kN (k:=k) (v:=v) (K:=fun x=>St.ex ks l fun y=>K (x,y)) h;obtain⟨y,rfl,h2⟩:=St.kN h1;exact⟨(x,y),rfl,h2⟩
def Rk.ex:(r:Rk)->Value->(r.C->Prop)->Prop
 | .v k,y,K=>k.ex y K
 | .aN ks,y,K=>match y with | .tuple a=>St.ex ks a.toList K | _=>False
theorem Rk.kN {r:Rk}{y:Value}{K:r.C->Prop}(h:r.ex y K):∃ x,y=r.val x/\K x:=by
 cases r<;>simp only[Rk.ex] at h
 case v k=>exact Kd.kN h
 case aN ks=>
  cases y<;>simp only at h
  rename_i a;obtain⟨x,hx,h⟩:=St.kN h;exact⟨x,by simp only[Rk.val,<- hx],h⟩
theorem Ck.nU {c:Ck}{x:c.C}{K:c.C->Prop}(h:K x):c.ex (c.val x) K:=by
 cases c<;>simp only[Ck.ex,Ck.val,decide_true]<;>exact h
theorem Cs.nU:∀ {cs:List Ck} {x:Cs cs} {K:Cs cs->Prop},K x->Cs.ex cs (Cs.vals cs x) K
 | [],_,_,h=>h
 | c::_,_,_,h=>Ck.nU (c:=c) (Cs.nU h)
theorem Kd.nU {k:Kd}{x:k.C}{K:k.C->Prop}(h:K x):k.ex (k.val x) K:=by
 cases k
 case one c=>exact Ck.nU h
 case agg cs=>exact Cs.nU h
 case arr=>exact h
theorem St.nU:∀ {ks:List Kd} {x:St ks} {K:St ks->Prop},K x->St.ex ks (St.vals ks x) K
 | [],_,_,h=>h
 | k::_,_,_,h=>Kd.nU (k:=k) (St.nU h)
theorem Rk.nU {r:Rk}{x:r.C}{K:r.C->Prop}(h:K x):r.ex (r.val x) K:=by
 cases r
 case v k=>exact Kd.nU h
 case aN ks=>exact St.nU h
def vY:Value->Ck
 | .int k _=>.int k | .bool _=>.bool | .string _=>.str | .pointer _=>.ptr | .slice ..=>.aj | .map _=>.map | _=>.raw
def mi (P:Program)(t:TypeId):Kd:=
 match P.info? t with
 | some i=>match i.zero with
  | some (.agg cs)=>match P.underlying t with
   | some (.array ..)=>.arr
   | _=>.agg (cs.toList.map vY)
  | some v=>.one (vY v)
  | none=>.one .raw
 | none=>.one .raw
def Eb (P:Program):List TypeId->Rk
 | [t]=>.v (mi P t)
 | ts=>.aN (ts.map (mi P))
structure Env where
 l:List (Nat×Value)
 base:Nat->Value
def look:List (Nat×Value)->Nat->Option Value
 | [],_=>none
 | (u,v)::l,t=>match Nat.beq u t with | true=>some v | false=>look l t
def Env.get (e:Env)(t:Nat):Value:=match look e.l t with | some v=>v | none=>e.base t
def Env.put (e:Env)(dst:Option Nat)(v:Value):Env:=match dst with | some d=>⟨(d,v)::e.l,e.base⟩ | none=>e
def Env.eval (e:Env):Operand->Value
 | .tmp t=>e.get t
 | .const v=>v
 | .global g=>.pointer (some ⟨g,0,none⟩)
 | .func f=>.func (.func f) #[] #[]
theorem vZ (u:Nat)(v:Value)(l:List (Nat×Value))(t:Nat):look ((u,v)::l) t=if t=u then some v else look l t:=by
 by_cases h:t=u
 ·subst h;simp[look]
 ·rw[if_neg h]
  have hb:Nat.beq u t=false:=by
   cases hb:Nat.beq u t with
   | false=>rfl
   | true=>exact absurd (Nat.eq_of_beq_eq_true hb).symm h
  simp[look,hb]
theorem Env.Bo (e:Env)(d:Nat)(v:Value)(t:Nat):(e.put (some d) v).get t=if t=d then v else e.get t:=by
 simp only[Env.put,Env.get,vZ]
 by_cases h:t=d<;>simp[h]
structure dn (n:Nat)(e:Env)(a:Act):Prop where
 size:a.tmps.size=n
 defers:a.defers=[]
 get:∀ t,a.tmps.getD t undef=e.get t
theorem dn.eval {n:Nat}{e:Env}{a:Act}(h:dn n e a):a.eval=e.eval:=by
 funext x
 cases x<;>simp[Act.eval,Env.eval,h.get]
def lO (n:Nat):Option Nat->Bool
 | none=>true
 | some d=>Nat.blt d n
theorem dn.put {n:Nat}{e:Env}{a:Act}(h:dn n e a)(dst:Option Nat)(hd:lO n dst=true)(v:Value):dn n (e.put dst v) (a.put dst v):=by
 cases dst with
 | none=>exact h
 | some d=>
  have aU:d<n:=by simp[lO,Nat.blt] at hd;omega
  refine⟨by simp[Act.put,h.size],by simp[Act.put,h.defers],fun t=>?_⟩;rw[Env.Bo];have h1:=h.size
  by_cases ht:t=d
  ·subst ht
   rw[if_pos rfl];simp[Act.put,Array.getD,Array.setIfInBounds,h1,aU]
  ·rw[if_neg ht,<- h.get t]
   have ay:d≠t:=fun x=>ht x.symm;simp only[Act.put,Array.getD_eq_getD_getElem?,Array.getElem?_setIfInBounds_ne ay]
def rG {α:Type}(P:Program):Sem α->Option α
 | .pure a=>some a
 | .program k=>rG P (k P)
 | .mark _ k=>rG P k
 | _=>none
theorem Re {α:Type}{P:Program}:∀ {s:Sem α} {a:α},rG P s=some a->∀ w,s.run P w=.ok a w:=by
 intro s
 induction s with
 | pure b=>intro a h w;simp only[rG,Option.some.injEq] at h;rw[h];rfl
 | program k ih=>intro a h w;exact ih P h w
 | mark m k ih=>intro a h w;exact ih h w
 | _=>intro a h w;simp[rG] at h
structure ae (c:Ck)(p:Addr)(w:World)(K:c.C->Prop):Prop where
 out:∃ x,w.cell? p=some (c.val x)/\K x
def jH (w:World)(p:Addr):Nat->List Value->Prop
 | _,[]=>True
 | i,v::vs=>w.cell? (p.add i)=some v/\jH w p (i+1) vs
structure aq (cs:List Ck)(p:Addr)(w:World)(K:Cs cs->Prop):Prop where
 out:∃ x,jH w p 0 (Cs.vals cs x)/\K x
structure eK (n:Nat)(p:Addr)(w:World)(K:List Value->Prop):Prop where
 out:∃ x:List Value,x.length=n/\jH w p 0 x/\K x
def bK:Value->Bool
 | .agg _ | .tuple _=>false
 | _=>true
def setCells (w:World)(p:Addr):Nat->List Value->World
 | _,[]=>w
 | i,v::vs=>setCells (w.setCell (p.add i) v) p (i+1) vs
def pF (w:World)(p:Addr):Nat->List Value->Prop
 | _,[]=>True
 | i,v::vs=>bK v=true/\(w.cell? (p.add i)).isSome=true/\w.frozen? (p.add i)=false/\pF (w.setCell (p.add i) v) p (i+1) vs
structure kO (a b:Prop):Prop where
 out:a/\b
structure az (p:Addr)(v:Value)(w:World)(K:World->Prop):Prop where
 out:bK v=true/\(w.cell? p).isSome=true/\w.frozen? p=false/\K (w.setCell p v)
structure ar (p:Addr)(vs:List Value)(w:World)(K:World->Prop):Prop where
 out:pF w p 0 vs/\K (setCells w p 0 vs)
structure ak (o:Obj)(w:World)(K:Nat->World->Prop):Prop where
 out:K w.heap.size { w with heap:=w.heap.push o }
def jI (q:Option Addr)(K:Addr->Prop):Prop:=match q with | some a=>K a | none=>False
def aa (b:Bool)(A B:Prop):Prop:=match b with | true=>A | false=>B
structure bQ (base:Option Addr)(len:Nat)(i:Int)(size:Nat)(K:Addr->Prop):Prop where
 out:∃ a,base=some a/\0<=i/\i<len/\K (a.add (i.toNat * size))
structure Ec (a:Addr)(len:Nat)(i:Int)(size:Nat)(K:Addr->Prop):Prop where
 out:0<=i/\i<len/\K (a.add (i.toNat * size))
structure oM (s:ByteArray)(i:Int)(K:Int->Prop):Prop where
 out:∃ b:UInt8,0<=i/\s[i.toNat]? = some b/\K b.toNat
structure Rf (cs:Array Value)(len:Nat)(i:Int)(c:Ck)(K:c.C->Prop):Prop where
 out:∃ x,0<=i/\i<len/\cs[i.toNat]? = some (c.val x)/\K x
structure uq (s:ByteArray)(lo hi:Int)(K:ByteArray->Prop):Prop where
 out:0<=lo/\lo<=hi/\hi<=s.size/\K (s.extract lo.toNat hi.toNat)
structure eX (base:Option Addr)(cap:Nat)(lo hi mx:Int)(size:Nat)(K:Option Addr->Nat->Nat->Prop):Prop where
 out:0<=lo/\lo<=hi/\hi<=mx/\mx<=cap/\K (if mx=lo then base else base.map (·.add (lo.toNat * size))) (hi - lo).toNat (mx - lo).toNat
structure ao (x:Value)(t:TypeId)(k:Kd)(yes:k.C->Prop)(no:Prop):Prop where
 out:(∃ r,x=.iface t (k.val r)/\yes r)\/((x=.nilIface\/∃ u v,x=.iface u v/\u≠t)/\no)
structure ur (b:Int)(K:Prop):Prop where
 out:b≠0/\K
structure jJ (b:Int)(K:Prop):Prop where
 out:0<=b/\K
structure v7 (a b:ByteArray)(K:Prop):Prop where
 out:((a.size+b.size:Nat):Int)<=IntKind.i64.max/\K
structure yw (m:Option Nat)(w:World)(K:Int->Prop):Prop where
 out:(m=none/\K 0)\/∃ r es c,m=some r/\w.heap[r]? = some (.map es c)/\K (es.size:Nat)
structure v8 (q:Option Addr)(w:World)(yes:Int->Int->World->Prop)(no:Prop):Prop where
 out:∃ r s pos,q=some ⟨r,0,none⟩/\w.heap[r]? = some (.stringIter s pos) /\
  if pos<s.size then yes (pos:Nat) (Utf8.decode s pos).1 { w with heap:=w.heap.setIfInBounds r (.stringIter s (pos+(Utf8.decode s pos).2)) } else no
structure aA (P:Program)(s:Sem Value)(w:World)(k:Rk)(K:k.C->World->Prop):Prop where
 out:∃ x w',s.run P w=.ok (k.val x) w'/\K x w'
structure js (P:Program)(s:Sem Unit)(w:World)(K:World->Prop):Prop where
 out:∃ w',s.run P w=.ok () w'/\K w'
def Ret (P:Program)(f:FuncId)(args:Array Value)(w:World)(K:Value->World->Prop):Prop:=
 Calls P f args w fun e w'=>∃ v,e=.returned v/\K v w'
structure ab (P:Program)(f:FuncId)(args:Array Value)(w:World)(k:Rk)(K:k.C->World->Prop):Prop where
 out:Ret P f args w fun v w'=>∃ x,v=k.val x/\K x w'
structure Br (P:Program)(it:Value)(ty:TypeId)(w:World)(yes:Value->Value->World->Prop)(no:World->Prop):Prop where
 out:(∃ k v w',(Instr.next it false ty).run P w=.ok (.tuple #[.bool true,k,v]) w'/\yes k v w')\/∃ w',(Instr.next it false ty).run P w=.ok (.tuple #[.bool false]) w'/\no w'
def JX (v:Value)(K:Value->Prop):Prop:=
 match v with
 | .pointer q=>jI q fun p=>K (.pointer (some p))
 | .func (.func f) fi ca=>K (.func (.func f) fi ca)
 | _=>False
structure aD (w:World)(K:World->Prop):Prop where
 out:K { w with drawn:=w.drawn+1 }
structure oN (w:World)(body:((Nat->Bool)->World->Prop)->Prop):Prop where
 out:∃ C:(Nat->Bool)->World->Prop,C (fun _=>false) { w with drawn:=w.drawn+1 }/\body C
def sT (D:Nat->Bool)(i:Nat):Nat->Bool:=fun j=>match Nat.beq j i with | true=>true | false=>D j
structure gn (C:(Nat->Bool)->World->Prop)(i:Nat)(pr:List Nat)(k:Rk)(op:World->(Value->World->Prop)->Prop)(next:k.C->Prop):Prop where
 out:∃ x:k.C,(∀ D w,D i=false->(∀ j,j∈pr->D j=true)->C D w->op w fun v w'=>v=k.val x/\C (sT D i) w')/\next x
def Kept (S:Nat->Prop)(w0 w:World):Prop:=∀ a v,S a.block->w0.cell? a=some v->w.cell? a=some v
structure ai (S:Nat->Prop)(w0 w:World)(K:Prop):Prop where
 out:Kept S w0 w/\K
structure aV (body:(Nat->Prop)->Prop):Prop where
 out:∃ S,body S
structure av (S:Nat->Prop)(p:Addr)(K:Prop):Prop where
 out:S p.block/\K
structure sU (C:(Nat->Bool)->World->Prop)(i:Nat)(next:Prop):Prop where
 out:(∀ D w,C D w->C (sT D i) w)/\next
structure bC (σ:Type)(body:(Nat->Value)->σ->World->(σ->World->Prop)->Prop)(s:σ)(w:World):Prop where
 out:∃ (I:σ->World->Prop) (μ:σ->World->Nat),I s w/\∀ b s w,I s w->body b s w fun s' w'=>I s' w'/\μ s' w'<μ s w
structure cy (σ:Type)(first:(σ->World->Prop)->Prop)(rest:(Nat->Value)->σ->World->Prop):Prop where
 out:∃ J:σ->World->Prop,first J/\∀ b s w,J s w->rest b s w
def uu (P:Program)(t:TypeId)(p:Addr)(w:World)(K:Value->World->Prop):Prop:=
 match P.underlying t,P.info? t with
 | some (.struct _),some i=>match i.zero with
  | some (.agg cs)=>match Nat.beq i.size (cs.toList.map vY).length with
   | true=>aq (cs.toList.map vY) p w fun x=>K (.agg (Cs.vals (cs.toList.map vY) x).toArray) w
   | false=>False
  | _=>False
 | some (.array ..),some i=>eK i.size p w fun x=>K (.agg x.toArray) w
 | some _,some _=>match mi P t with
  | .one c=>ae c p w fun x=>K (c.val x) w
  | _=>False
 | _,_=>False
def we (P:Program)(t:TypeId):Bool:=
 match P.underlying t with
 | some (.interface _) | some (.struct _) | some (.array ..)=>true
 | _=>false
def isIf (P:Program)(t:TypeId):Bool:=
 match P.underlying t with
 | some (.interface _)=>true
 | _=>false
def Rg (P:Program)(t:TypeId)(i:Nat):Bool:=
 match P.underlying t with
 | some (.struct fs)=>match fs[i]? with
  | some f=>isIf P f.type
  | none=>false
 | some (.array _ el)=>isIf P el
 | _=>false
structure jb (v:Value)(K:Prop):Prop where
 out:v.cells=#[v]/\K
structure uv (cks:List Ck)(x:List Value)(K:Cs cks->Prop):Prop where
 out:∃ y,x=Cs.vals cks y/\K y
def Rh (P:Program)(t:TypeId)(i:Nat):Option (List Ck):=
 match P.underlying t with
 | some (.struct fs)=>match fs[i]? with
  | some f=>match P.underlying f.type,(P.info? f.type).bind (·.zero) with
   | some (.array ..),some (.agg cs)=>some (cs.toList.map vY)
   | _,_=>none
  | none=>none
 | _=>none
def uw (P:Program)(t:TypeId):List (Nat×Value)->(List (Nat×Value)->Prop)->Prop
 | [],K=>K []
 | p::l,K=>match Rg P t p.1 with
  | true=>jb p.2 (uw P t l fun vs=>K ((p.1,.agg #[p.2])::vs))
  | false=>match Rh P t p.1 with
   | some cks=>match p.2 with
    | .agg cs=>uv cks cs.toList fun y=>uw P t l fun vs=>K ((p.1,.agg (Cs.vals cks y).toArray)::vs)
    | _=>False
   | none=>uw P t l fun vs=>K (p::vs)
def kP (P:Program)(s:Sem Value)(w:World)(K:Value->World->Prop):Prop:=
 match rG P s with
 | some v=>K v w
 | none=>False
def Ed (P:Program)(e:Env)(op:BinOp)(xt:TypeId)(x y:Operand)(w:World)(K:Value->World->Prop):Prop:=
 match we P xt with
 | true=>aA P (do eqGuard op xt x y (e.eval x) (e.eval y);binOp op xt (e.eval x) (e.eval y)) w (.v (.one .bool)) fun b w'=>K (.bool b) w'
 | false=>match e.eval x,e.eval y with
  | .int k a,.int k' b=>match decide (k=k') with
   | true=>match op with
    | .quo=>ur b (K (.int k (k.wrap (a.tdiv b))) w)
    | .rem=>ur b (K (.int k (a.tmod b)) w)
    | .shl=>jJ b (K (.int k (k.wrap (a * 2 ^ (min b.toNat k.bits)))) w)
    | .shr=>jJ b (K (.int k (a.fdiv (2 ^ (min b.toNat k.bits)))) w)
    | _=>kP P (do eqGuard op xt x y (.int k a) (.int k b);binOp op xt (.int k a) (.int k b)) w K
   | false=>match op with
    | .shl=>jJ b (K (.int k (k.wrap (a * 2 ^ (min b.toNat k.bits)))) w)
    | .shr=>jJ b (K (.int k (a.fdiv (2 ^ (min b.toNat k.bits)))) w)
    | _=>False
  | .string a,.string b=>match op with
   | .add=>v7 a b (K (.string (a++b)) w)
   | _=>kP P (do eqGuard op xt x y (.string a) (.string b);binOp op xt (.string a) (.string b)) w K
  | .bool a,.bool b=>kP P (do eqGuard op xt x y (.bool a) (.bool b);binOp op xt (.bool a) (.bool b)) w K
  | .pointer p,.pointer none=>match P.underlying xt,op with
   | some (.pointer _),.eql=>K (.bool p.isNone) w
   | some (.pointer _),.neq=>K (.bool !p.isNone) w
   | _,_=>False
  | .slice p _ _,.slice none _ _=>match P.underlying xt,op with
   | some (.slice _),.eql=>K (.bool p.isNone) w
   | some (.slice _),.neq=>K (.bool !p.isNone) w
   | _,_=>False
  | .map p,.map none=>match P.underlying xt,op with
   | some (.map ..),.eql=>K (.bool p.isNone) w
   | some (.map ..),.neq=>K (.bool !p.isNone) w
   | _,_=>False
  | _,_=>False
def pG (v:Option Value)(d:Int)(K:Int->Prop):Prop:=
 match v with
 | none=>K d
 | some (.int _ i)=>K i
 | _=>False
def mj (e:Env)(xs:Array Operand):List Value:=xs.toList.map e.eval
def rH (P:Program)(f:FuncId)(args:List Value)(w:World)(K:Value->World->Prop):Prop:=
 match rG P (callFunc f args.toArray),P.funcs[f]? with
 | some (.enter g xs),some fn=>match Nat.beq g f with
  | true=>ab P f xs w (Eb P fn.resultTypes.toList) fun x w'=>K ((Eb P fn.resultTypes.toList).val x) w'
  | false=>False
 | _,_=>False
def JY (P:Program)(t:TypeId):Rk:=
 match P.underlying t with
 | some (.tuple ts)=>.aN (ts.toList.map (mi P))
 | _=>.v (mi P t)
def kQ (P:Program)(v:Value)(args:List Value)(r:Rk)(w:World)(K:r.C->World->Prop):Prop:=
 match v with
 | .func (.func f) fi ca=>rH P f (fi.toList++args++ca.toList) w fun v w'=>r.ex v fun x=>K x w'
 | _=>False
theorem mm {P:Program}{f:FuncId}{fi ca:Array Value}{args:List Value}{r:Rk}{w:World}{K:r.C->World->Prop}{xs:Array Value}{fn:Func}
  (hp:rG P (callFunc f (fi.toList++args++ca.toList).toArray)=some (.enter f xs)) (hf:P.funcs[f]? = some fn) (hr:Eb P fn.resultTypes.toList=r)
  (h:Ret P f xs w fun v w'=>∃ x,v=r.val x/\K x w'):kQ P (.func (.func f) fi ca) args r w K:=by
 subst hr;have hb:Nat.beq f f=true:=Nat.beq_refl f;simp only[kQ,rH,hp,hf,hb];exact⟨h.mono fun e w' ⟨v,he,x,hv,hK⟩=>⟨v,he,x,hv,Rk.nU hK⟩⟩
def JZ (P:Program)(t:TypeId)(ok:Bool):Rk:=
 match P.underlying t,ok with
 | some (.map _ el),true=>.aN [mi P el,.one .bool]
 | some (.map _ el),false=>.v (mi P el)
 | _,_=>.aN []
def J0 (P:Program)(t:TypeId):Rk:=
 match P.underlying t with
 | some (.map _ el)=>.aN [mi P el,.one (.int .i64)]
 | _=>.aN []
def gZ (P:Program)(o:Oper)(e:Env)(w:World)(K:Value->World->Prop):Prop:=
  match o.op with
  | .move x | .assign x=>K (e.eval x) w
  | .pick c a b=>match e.eval c with
    | .bool c=>aa c (K (e.eval a) w) (K (e.eval b) w)
    | _=>False
  | .load t a=>match e.eval a with
    | .pointer q=>jI q fun p=>uu P t p w K
    | _=>False
  | .store t a x=>match e.eval a with
    | .pointer q=>jI q fun p=>match P.info? t with
      | some i=>match isIf P t with
       | true=>match Nat.beq 1 i.size with
        | true=>jb (e.eval x) (ar p [e.eval x] w fun w'=>K undef w')
        | false=>False
       | false=>match P.underlying t with
        | some (.array ..)=>match e.eval x with
          | .agg cs=>kO (cs.toList.length=i.size) (ar p cs.toList w fun w'=>K undef w')
          | _=>False
        | _=>match Nat.beq (e.eval x).cells.size i.size with
          | true=>match e.eval x with
            | .agg cs=>ar p cs.toList w fun w'=>K undef w'
            | .tuple _=>False
            | v=>az p v w fun w'=>K undef w'
          | false=>False
      | none=>False
    | _=>False
  | .nilCheck x=>JX (e.eval x) fun v=>K v w
  | .alloc t=>match P.info? t with
    | some i=>match i.zero with
      | some z=>ak (.cells z.cells t) w fun g w'=>K (.pointer (some ⟨g,0,none⟩)) w'
      | none=>False
    | none=>False
  | .box t x=>match isIf P t with
    | true=>jb (e.eval x) (ak (.cells #[e.eval x] t) w fun g w'=>K (.pointer (some ⟨g,0,none⟩)) w')
    | false=>ak (.cells (e.eval x).cells t) w fun g w'=>K (.pointer (some ⟨g,0,none⟩)) w'
  | .build t parts=>uw P t (parts.toList.map fun(i,x)=>(i,e.eval x)) fun vs=>match P.built t vs with
    | some cells=>K (.agg cells) w
    | none=>False
  | .makeMap _ none=>ak (.map #[] 0) w fun g w'=>K (.map (some g)) w'
  | .indexAddr t x i=>match P.underlying t with
    | some (.slice el)=>match e.eval x,e.eval i,P.info? el with
      | .slice base len _,.int _ i,some inf=>bQ base len i inf.size fun a=>K (.pointer (some a)) w
      | _,_,_=>False
    | some (.array n el)=>match e.eval x,e.eval i,P.info? el with
      | .pointer q,.int _ i,some inf=>jI q fun a=>Ec a n i inf.size fun a=>K (.pointer (some a)) w
      | _,_,_=>False
    | _=>False
  | .index t x i=>match P.underlying t with
    | some .string=>match e.eval x,e.eval i with
      | .string s,.int _ i=>oM s i fun b=>K (.int .u8 b) w
      | _,_=>False
    | some (.array n el)=>match e.eval x,e.eval i,P.info? el,mi P el,P.underlying el with
      | .agg cs,.int _ i,some inf,.one c,some d=>match Nat.beq inf.size 1,(match d with | .struct _ | .array ..=>false | _=>true) with
        | true,true=>Rf cs n i c fun x=>K (c.val x) w
        | _,_=>False
      | _,_,_,_,_=>False
    | _=>False
  | .slice t x lo hi mx=>match P.underlying t with
    | some .string=>match e.eval x,mx with
      | .string s,none=>pG (lo.map e.eval) 0 fun l=>pG (hi.map e.eval) s.size fun h=>uq s l h fun s'=>K (.string s') w
      | _,_=>False
    | some (.slice el)=>match e.eval x,P.info? el with
      | .slice a len cap,some inf=>match hi,mx with
        | none,some _=>False
        | _,_=>pG (lo.map e.eval) 0 fun l=>pG (hi.map e.eval) len fun h=>pG (mx.map e.eval) cap fun m=>
            eX a cap l h m inf.size fun a' l' c'=>K (.slice a' l' c') w
      | _,_=>False
    | some (.array n el)=>match e.eval x,P.info? el with
      | .pointer q,some inf=>match hi,mx with
        | none,some _=>False
        | _,_=>jI q fun a=>pG (lo.map e.eval) 0 fun l=>pG (hi.map e.eval) n fun h=>pG (mx.map e.eval) n fun m=>
            eX (some a) n l h m inf.size fun a' l' c'=>K (.slice a' l' c') w
      | _,_=>False
    | _=>False
  | .typeAssert x _ t ok=>match P.underlying t with
    | some (.interface _)=>False
    | some _=>match ok with
      | true=>match P.info? t with
        | some i=>match i.zero with
          | some z=>ao (e.eval x) t (mi P t) (fun r=>K (.tuple #[(mi P t).val r,.bool true]) w) (K (.tuple #[z,.bool false]) w)
          | none=>False
        | none=>False
      | false=>ao (e.eval x) t (mi P t) (fun r=>K ((mi P t).val r) w) False
    | none=>False
  | .binOp op xt x y _=>Ed P e op xt x y w K
  | .unOp op _ x=>kP P (Op.unary op (e.eval x)) w K
  | .fieldAddr s x f=>match e.eval x with
    | .pointer q=>jI q fun a=>kP P (Instr.fieldAt s (.pointer (some a)) f) w K
    | _=>False
  | .field t x f=>kP P (Instr.field t (e.eval x) f) w K
  | .extract t i=>kP P (Instr.extract (e.eval t) i) w fun v w=>(mi P o.type).ex v fun x=>K ((mi P o.type).val x) w
  | .makeInterface t x=>kP P (Instr.makeInterface t (e.eval x)) w K
  | .makeFunc fn fi ca=>K (.func fn (mj e fi).toArray (mj e ca).toArray) w
  | .convert src dst x=>match P.underlying src,P.underlying dst with
    | some (.slice _),some .string=>aA P (convert src dst (e.eval x)) w (.v (.one .str)) fun s w'=>K (.string s) w'
    | some .string,some (.slice _)=>aA P (convert src dst (e.eval x)) w (.v (.one .aj)) fun s w'=>K (.slice s.1 s.2.1 s.2.2) w'
    | some (.slice _),some (.slice _)=>aA P (convert src dst (e.eval x)) w (.v (.one .aj)) fun s w'=>K (.slice s.1 s.2.1 s.2.2) w'
    | _,_=>kP P (convert src dst (e.eval x)) w K
  | .makeSlice t l c=>aA P (Instr.makeSlice t (e.eval l) (e.eval c)) w (.v (.one .aj)) fun s w'=>K (.slice s.1 s.2.1 s.2.2) w'
  | .buildSlice t n parts=>aA P (Instr.buildSlice t n (parts.toList.map fun(i,x)=>(i,e.eval x)).toArray) w (.v (.one .aj)) fun s w'=>K (.slice s.1 s.2.1 s.2.2) w'
  | .lookup t x i ok=>aA P (Instr.lookup t (e.eval x) (e.eval i) ok) w (JZ P t ok) fun x w'=>K ((JZ P t ok).val x) w'
  | .mapEntry t m k=>aA P (Instr.mapEntry t (e.eval m) (e.eval k)) w (J0 P t) fun x w'=>K ((J0 P t).val x) w'
  | .entryStore t m k x=>js P (Instr.entryStore t (e.eval m) (e.eval k) (e.eval x)) w fun w'=>K undef w'
  | .mapUpdate t m k x | .insert t m k x=>js P (Instr.mapUpdate t (e.eval m) (e.eval k) (e.eval x)) w fun w'=>K undef w'
  | .range t x=>aA P (Instr.range t (e.eval x)) w (.v (.one .ptr)) fun x w'=>K (.pointer x) w'
  | .next it s=>match s with
    | true=>match e.eval it with
      | .pointer q=>v8 q w (fun pos c w'=>K (.tuple #[.bool true,.int .i64 pos,.int .i32 c]) w') (K (.tuple #[.bool false]) w)
      | _=>False
    | false=>Br P (e.eval it) o.type w (fun k v w'=>K (.tuple #[.bool true,k,v]) w') (fun w'=>K (.tuple #[.bool false]) w')
  | .entry it=>aA P (Instr.entry (e.eval it)) w (.aN [.one .raw,.one .raw]) fun x w'=>K (.tuple #[x.1,x.2.1]) w'
  | .call c=>match c.callee with
    | .builtin .append=>aA P (Builtin.append_ c.argTypes o.type (mj e c.args).toArray) w (.v (.one .aj)) fun s w'=>K (.slice s.1 s.2.1 s.2.2) w'
    | .builtin .copy=>aA P (Builtin.copy_ c.argTypes o.type (mj e c.args).toArray) w (.v (.one (.int .i64))) fun n w'=>K (.int .i64 n) w'
    | .builtin .delete=>aA P (Builtin.delete_ c.argTypes o.type (mj e c.args).toArray) w (.aN []) fun _ w'=>K (.tuple #[]) w'
    | .builtin .len=>match mj e c.args with
      | [.map m]=>match (c.argTypes[0]?).bind P.underlying with
        | some (.map ..)=>yw m w fun n=>K (.int .i64 n) w
        | _=>False
      | l=>kP P (Builtin.len_ c.argTypes o.type l.toArray) w K
    | .builtin .cap=>kP P (Builtin.cap_ c.argTypes o.type (mj e c.args).toArray) w K
    | .builtin .min=>kP P (Builtin.min_ c.argTypes o.type (mj e c.args).toArray) w K
    | .builtin .max=>kP P (Builtin.max_ c.argTypes o.type (mj e c.args).toArray) w K
    | .value x=>match x with
      | .tmp _=>kQ P (e.eval x) (mj e c.args) (JY P o.type) w fun x w'=>K ((JY P o.type).val x) w'
      | _=>match e.eval x with
        | .func (.func f) fi ca=>rH P f (fi.toList++mj e c.args++ca.toList) w K
        | _=>False
    | _=>False
  | _=>False
def kR (P:Program)(n:Nat)(ops:Array Oper):List Oper->Env->World->(Env->World->Prop)->Prop
 | [],e,w,K=>K e w
 | o::rest,e,w,K=>match lO n o.dst with
  | false=>False
  | true=>match o.guard with
   | none=>gZ P o e w fun v w'=>kR P n ops rest (e.put o.dst v) w' K
   | some (j,want)=>match (ops[j]?).bind (·.dst) with
    | none=>False
    | some d=>match e.get d with
     | .bool b=>match want with
      | true=>aa b (gZ P o (e.put (some d) (.bool true)) w fun v w'=>kR P n ops rest ((e.put (some d) (.bool true)).put o.dst v) w' K)
        (kR P n ops rest ((e.put (some d) (.bool false)).put o.dst undef) w K)
      | false=>aa b (kR P n ops rest ((e.put (some d) (.bool true)).put o.dst undef) w K)
        (gZ P o (e.put (some d) (.bool false)) w fun v w'=>kR P n ops rest ((e.put (some d) (.bool false)).put o.dst v) w' K)
     | .tuple _=>kR P n ops rest (e.put o.dst undef) w K
     | _=>False
def sV (P:Program):Op->Bool
 | .move _ | .assign _ | .pick .. | .load .. | .nilCheck _ | .build .. | .indexAddr .. | .index .. | .slice .. | .typeAssert .. | .unOp .. | .fieldAddr .. | .field .. | .extract ..
 | .makeInterface .. | .makeFunc ..=>true
 | .binOp _ t ..=>!we P t
 | .call c=>match c.callee with
  | .builtin .len | .builtin .cap | .builtin .min | .builtin .max=>true
  | _=>false
 | _=>false
def isInt (P:Program)(t:TypeId):Bool:=match P.underlying t with
 | some (.int _)=>true
 | _=>false
def Bs (P:Program):Op->Bool
 | .convert s d _=>isInt P s&&isInt P d
 | .move _ | .assign _ | .pick .. | .nilCheck _ | .build .. | .indexAddr .. | .index .. | .slice .. | .typeAssert .. | .unOp .. | .fieldAddr .. | .field .. | .extract ..
 | .makeInterface .. | .makeFunc ..=>true
 | .binOp _ t ..=>!we P t
 | .call c=>match c.callee with
  | .builtin .cap | .builtin .min | .builtin .max=>true
  | .builtin .len=>match c.argTypes.toList with
   | [t]=>match P.underlying t with | some (.map ..)=>false | some _=>true | none=>false
   | _=>false
  | _=>false
 | _=>false
def mem:List Nat->Nat->Bool
 | [],_=>false
 | u::l,t=>match Nat.beq u t with | true=>true | false=>mem l t
def qF (ops:Array Oper):Nat->Nat->List Nat
 | 0,_=>[]
 | f+1,i=>match ops[i]? with
  | some o=>o.after.toList.flatMap fun e=>match Region.binds .any e with | true=>e.on::qF ops f e.on | false=>[]
  | none=>[]
def sW:List (Nat×Rk)->Nat->Option Rk
 | [],_=>none
 | (j,r)::l,k=>match Nat.beq j k with | true=>some r | false=>sW l k
def Ee (ops:Array Oper)(loud:List (Nat×Rk))(k:Nat):List Nat:=
 (loud.map (·.1)).filter fun j=>mem (qF ops ops.size k) j
def wg (P:Program)(ops:Array Oper)(loud:List (Nat×Rk))(C:(Nat->Bool)->World->Prop)(o:Oper)(k:Nat)(e:Env)(w:World)(next:Value->Prop):Prop:=
 match sW loud k with
 | some r=>gn C k (Ee ops loud k) r (fun w kk=>gZ P o e w kk) fun x=>next (r.val x)
 | none=>match Bs P o.op with
  | true=>gZ P o e w fun v _=>next v
  | false=>False
def lP (P : Program)(n : Nat)(ops : Array Oper)(loud : List (Nat × Rk))(C : (Nat -> Bool) -> World -> Prop)(w : World): List Oper -> Nat -> Env -> (Env -> Prop) -> Prop
  | [], _, e, K => K e
  | o :: rest, k, e, K => match lO n o.dst with
    | false => False
    | true => match o.guard with
      | none => wg P ops loud C o k e w fun v => lP P n ops loud C w rest (k + 1) (e.put o.dst v) K
      | some (j, want) => match (ops[j]?).bind (·.dst) with
        | none => False
        | some d => match e.get d with
          | .bool b => match want with
            | true => aa b (wg P ops loud C o k (e.put (some d) (.bool true)) w fun v => lP P n ops loud C w rest (k + 1) ((e.put (some d) (.bool true)).put o.dst v) K)
                (match sW loud k with
                  | some _ => sU C k (lP P n ops loud C w rest (k + 1) ((e.put (some d) (.bool false)).put o.dst undef) K)
                  | none => lP P n ops loud C w rest (k + 1) ((e.put (some d) (.bool false)).put o.dst undef) K)
            | false => aa b (match sW loud k with
                  | some _ => sU C k (lP P n ops loud C w rest (k + 1) ((e.put (some d) (.bool true)).put o.dst undef) K)
                  | none => lP P n ops loud C w rest (k + 1) ((e.put (some d) (.bool true)).put o.dst undef) K)
                (wg P ops loud C o k (e.put (some d) (.bool false)) w fun v => lP P n ops loud C w rest (k + 1) ((e.put (some d) (.bool false)).put o.dst v) K)
          | .tuple _ => match sW loud k with
            | some _ => sU C k (lP P n ops loud C w rest (k + 1) (e.put o.dst undef) K)
            | none => lP P n ops loud C w rest (k + 1) (e.put o.dst undef) K
          | _ => False
inductive Hp where
 | done
 | soft (i:Nat) (h:Hp)
 | pick (i:Nat) (h more:Hp)
 | last (i:Nat) (h:Hp)
 | stop
def Bt:Op->Bool
 | .load ..=>true
 | _=>false
def sX (ops:Array Oper)(i:Nat):Bool:=(List.range ops.size).any fun s=>match ops[s]? with | some o=>Bt o.op&&!mem (qF ops ops.size i) s | none=>false
def Ef (P:Program)(o:Oper)(e:Env)(S:Nat->Prop)(w0:World)(K:Value->Prop):Prop:=
 match o.op with
 | .load t a=>match e.eval a with
  | .pointer q=>jI q fun p=>av S p (uu P t p w0 fun v _=>K v)
  | _=>False
 | _=>match Bs P o.op with
  | true=>gZ P o e w0 fun v _=>K v
  | false=>False
def ux (ops:Array Oper)(o:Oper)(e:Env)(Eg skip:Env->Prop):Prop:=
 match o.guard with
 | none=>Eg e
 | some (j,want)=>match (ops[j]?).bind (·.dst) with
  | none=>False
  | some d=>match e.get d with
   | .bool b=>match want with
    | true=>aa b (Eg (e.put (some d) (.bool true))) (skip (e.put (some d) (.bool false)))
    | false=>aa b (skip (e.put (some d) (.bool true))) (Eg (e.put (some d) (.bool false)))
   | .tuple _=>skip e
   | _=>False
def iW (P:Program)(n:Nat)(ops:Array Oper)(S:Nat->Prop):Hp->Nat->List Nat->Array Bool->Env->World->(Env->World->Prop)->Prop
 | .done,k,_,aH,e,w,K=>match Nat.beq k 0&&(Region.ready .any ops aH).isEmpty with | true=>K e w | false=>False
 | .soft i h,k,_,aH,e,w,K=>match k,ops[i]? with
  | k+1,some o=>match lO n o.dst&&(Region.ready .any ops aH).contains i&&Region.free .any ops aH i with
   | false=>False
   | true=>ux ops o e (fun e=>Ef P o e S w fun v=>iW P n ops S h k [] (aH.setIfInBounds i true) (e.put o.dst v) w K)
     (fun e=>iW P n ops S h k [] (aH.setIfInBounds i true) (e.put o.dst undef) w K)
  | _,_=>False
 | .pick i h .stop,k,seen,aH,e,w,K=>match k,ops[i]? with
  | k+1,some o=>match lO n o.dst&&(Region.ready .any ops aH).contains i&&(Region.ready .any ops aH).all (fun j=>mem (i::seen) j) with
   | true=>ux ops o e (fun e=>gZ P o e w fun v w'=>ai S w w' (iW P n ops S h k [] (aH.setIfInBounds i true) (e.put o.dst v) w' K))
     (fun e=>iW P n ops S h k [] (aH.setIfInBounds i true) (e.put o.dst undef) w K)
   | false=>False
  | _,_=>False
 | .pick i h (.pick i2 h2 m2),k,seen,aH,e,w,K=>match k,ops[i]? with
  | k+1,some o=>match lO n o.dst with
   | false=>False
   | true=>kO (ux ops o e (fun e=>gZ P o e w fun v w'=>ai S w w' (iW P n ops S h k [] (aH.setIfInBounds i true) (e.put o.dst v) w' K))
     (fun e=>iW P n ops S h k [] (aH.setIfInBounds i true) (e.put o.dst undef) w K)) (iW P n ops S (.pick i2 h2 m2) (k+1) (i::seen) aH e w K)
  | _,_=>False
 | .last i h,k,_,aH,e,w,K=>match k,ops[i]? with
  | k+1,some o=>match lO n o.dst&&(Region.ready .any ops aH).contains i&&(Region.ready .any ops aH).all (fun j=>mem [i] j)&&!sX ops i with
   | true=>ux ops o e (fun e=>gZ P o e w fun v w'=>iW P n ops S h k [] (aH.setIfInBounds i true) (e.put o.dst v) w' K)
     (fun e=>iW P n ops S h k [] (aH.setIfInBounds i true) (e.put o.dst undef) w K)
   | false=>False
  | _,_=>False
 | _,_,_,_,_,_,_=>False
inductive aB where
 | auto
 | seq (a b:aB)
 | cond (a b:aB)
 | block (p:aB)
 | loop (ks:List (Nat×Kd)) (p:aB)
 | join (ks:List (Nat×Kd)) (a b:aB)
 | still
 | tail (k:Nat)
 | any (loud:List (Nat×Rk))
 | held (h:Hp)
def yx (N:Env->World->Prop)(Q:Exit->Env->World->Prop):Exit->Env->World->Prop
 | .normal,e,w=>N e w
 | .exit i,e,w=>Q (.exit i) e w
 | .ret,e,w=>Q .ret e w
 | _,_,_=>False
def Bw (id:Nat)(Q:Exit->Env->World->Prop):Exit->Env->World->Prop
 | .normal,e,w=>Q .normal e w
 | .exit i,e,w=>match Nat.beq i id with | true=>Q .normal e w | false=>Q (.exit i) e w
 | .ret,e,w=>Q .ret e w
 | _,_,_=>False
def iF:Code->List Nat
 | .region _ ops _=>ops.toList.filterMap (·.dst)
 | .seq a b=>iF a++iF b
 | .cond _ a b=>iF a++iF b
 | .block _ c=>iF c
 | .loop c=>iF c
 | _=>[]
def nV (ds:List Nat):List (Nat×Value)->List (Nat×Value)
 | []=>[]
 | (u,v)::l=>match mem ds u with | true=>nV ds l | false=>(u,v)::nV ds l
def sY:(ks:List (Nat×Kd))->St (ks.map (·.2))->List (Nat×Value)->List (Nat×Value)
 | [],_,l=>l
 | (t,k)::ks,s,l=>(t,k.val s.1)::sY ks s.2 l
def yy (e:Env)(ks:List (Nat×Kd)):List Value:=ks.map fun x=>e.get x.1
def iG (P:Program)(n:Nat):Code->aB->Env->World->(Exit->Env->World->Prop)->Prop
 | .skip,_,e,w,Q=>Q .normal e w
 | .region _ ops draw,p,e,w,Q=>match draw with
  | false=>kR P n ops ops.toList e w (Q .normal)
  | true=>match p with
   | .still=>match Region.lexB .any ops&&ops.toList.all (fun o=>sV P o.op) with
    | true=>aD w fun w'=>kR P n ops ops.toList e w' (Q .normal)
    | false=>False
   | .tail k=>match Region.lexTailB .any ops k&&(ops.toList.take k).all (fun o=>sV P o.op) with
    | true=>aD w fun w'=>kR P n ops ops.toList e w' (Q .normal)
    | false=>False
   | .any loud=>match Region.lexB .any ops&&(loud.map (·.1)).all (fun j=>Nat.blt j ops.size) with
    | true=>oN w fun C=>lP P n ops loud C w ops.toList 0 e fun e'=>∀ w',C (mem (loud.map (·.1))) w'->Q .normal e' w'
    | false=>False
   | .held h=>match Region.noSelect ops with
    | true=>aD w fun w'=>aV fun S=>iW P n ops S h ops.size [] (Array.replicate ops.size false) e w' (Q .normal)
    | false=>False
   | _=>False
 | .seq a b,p,e,w,Q=>match p with
  | .seq pa pb=>iG P n a pa e w (yx (fun e w=>iG P n b pb e w Q) Q)
  | .join ks pa pb=>cy (St (ks.map (·.2)))
    (fun J=>iG P n a pa e w (yx (fun e' w'=>St.ex (ks.map (·.2)) (yy e' ks) fun s=>J s w') Q))
    (fun b' s w'=>iG P n b pb ⟨sY ks s (nV (iF a) e.l),b'⟩ w' Q)
  | _=>iG P n a .auto e w (yx (fun e w=>iG P n b .auto e w Q) Q)
 | .cond c x y,p,e,w,Q=>match e.eval c with
  | .bool t=>match p with
   | .cond px py=>aa t (iG P n x px e w Q) (iG P n y py e w Q)
   | _=>aa t (iG P n x .auto e w Q) (iG P n y .auto e w Q)
  | _=>False
 | .block id c,p,e,w,Q=>match p with
  | .block p=>iG P n c p e w (Bw id Q)
  | _=>iG P n c .auto e w (Bw id Q)
 | .loop c,p,e,w,Q=>match p with
  | .loop ks p=>St.ex (ks.map (·.2)) (yy e ks) fun s0=>
    bC (St (ks.map (·.2))) (fun b s w' next=>iG P n c p ⟨sY ks s (nV (iF c) e.l),b⟩ w'
     (yx (fun e' nW=>St.ex (ks.map (·.2)) (yy e' ks) fun s'=>next s' nW) Q)) s0 w
  | _=>False
 | .exit id,_,e,w,Q=>Q (.exit id) e w
 | .ret,_,e,w,Q=>Q .ret e w
 | _,_,_,_,_=>False
def uy:Nat->List Value->List (Nat×Value)
 | _,[]=>[]
 | i,v::vs=>(i,v)::uy (i+1) vs
def Eh (P:Program)(e:Env)(w:World):ResultVar->(Value->Prop)->Prop
 | .tmp t,K=>K (e.get t)
 | .cell a t,K=>match e.get a with
  | .pointer q=>jI q fun p=>uu P t p w fun v _=>K v
  | _=>False
def Bx (P:Program)(e:Env)(w:World):List ResultVar->(List Value->Prop)->Prop
 | [],K=>K []
 | r::rs,K=>Eh P e w r fun v=>Bx P e w rs fun vs=>K (v::vs)
def oneOf:List Value->Value
 | [v]=>v
 | vs=>.tuple vs.toArray
def J6 (P:Program)(fn:Func)(p:aB)(args:List Value)(w:World)(K:Value->World->Prop):Prop:=
 match fn.body with
 | none=>False
 | some c=>match Nat.ble args.length fn.ntmps with
  | false=>False
  | true=>iG P fn.ntmps c p ⟨uy 0 args,fun _=>undef⟩ w fun x e w'=>match x with
   | .normal | .ret=>Bx P e w' fn.results.toList fun vs=>K (oneOf vs) w'
   | _=>False
end Vc
namespace Vc
theorem Ei {α:Type}{P:Program}{s:Sem α}{a:α}(h:rG P s=some a)(w:World):s.run P w=.ok a w:=Re h w
section
variable {P:Program}
theorem under {t:TypeId}{d:TypeDesc}(h:P.underlying t=some d)(w:World):(underlying t).run P w=.ok d w:=by
 simp[underlying,h]
theorem ko {t:TypeId}{i:TypeInfo}(h:P.info? t=some i)(w:World):(sizeOf t).run P w=.ok i.size w:=by
 simp[sizeOf,typeInfo,h]
theorem qG {t:TypeId}{i:TypeInfo}{z:Value}(h:P.info? t=some i)(hz:i.zero=some z)(w:World):(zeroValue t).run P w=.ok z w:=by
 simp[zeroValue,typeInfo,h,hz]
def rI:TypeDesc->Bool
 | .struct _ | .array ..=>true
 | _=>false
theorem uz {t:TypeId}{d:TypeDesc}(h:P.underlying t=some d)(w:World):(isAgg t).run P w=.ok (rI d) w:=by
 simp only[isAgg,Sem.run_bind,under h,Result.andThen_ok];cases d<;>rfl
theorem Ej {w:World}{p:Addr}{v:Value}(h:w.cell? p=some v):(load p).run P w=.ok v w:=by simp[h]
theorem Ka {w:World}{p:Addr}:∀ (vs:List Value) (i:Nat) (acc:Array Value),jH w p i vs->(loadCellsFrom p i vs.length acc).run P w=.ok (acc++vs.toArray) w
 | [],i,acc,_=>by simp[loadCellsFrom]
 | v::vs,i,acc,h=>by
  obtain⟨h1,h2⟩:=h;simp only[List.length_cons,loadCellsFrom,Sem.run_bind,Ej h1,Result.andThen_ok];rw[Ka vs (i+1) (acc.push v) h2]
  congr 1
  apply Array.ext';simp
theorem uA {w:World}{p:Addr}(vs:List Value)(h:jH w p 0 vs):(loadCells p vs.length).run P w=.ok vs.toArray w:=by
 have:=Ka (P:=P) vs 0 #[] h;simpa[loadCells] using this
theorem Cs.Ek:∀ (cs:List Ck) (x:Cs cs),(Cs.vals cs x).length=cs.length
 | [],_=>rfl
 | c::cs,x=>by simp only[Cs.vals,List.length_cons,Cs.Ek cs x.2]
theorem Kb {t:TypeId}{p:Addr}{w:World}{K:Value->World->Prop}(h:uu P t p w K):∃ v,(loadVar t p).run P w=.ok v w/\K v w:=by
 unfold uu at h;split at h
 case h_1 fs i hu hi=>
  split at h
  case h_1 cs hz=>
   split at h
   case h_1 hb=>
    obtain⟨x,hx,hK⟩:=h.out;refine⟨_,?_,hK⟩;have hs:=Nat.eq_of_beq_eq_true hb;simp only[loadVar,Sem.run_bind,uz hu,rI,Result.andThen_ok,if_true,ko hi];rw[hs,<- Cs.Ek _ x,uA _ hx];rfl
   case h_2=>cases h
  case h_2=>cases h
 case h_2 hu hi=>
  obtain⟨x,hn,hx,hK⟩:=h.out;refine⟨_,?_,hK⟩;simp only[loadVar,Sem.run_bind,uz hu,rI,Result.andThen_ok,if_true,ko hi];rw[<- hn,uA _ hx];rfl
 case h_3 d i hs ha hu hi=>
  split at h
  case h_1 c hk=>
   obtain⟨x,hx,hK⟩:=h.out;refine⟨_,?_,hK⟩;have hf:rI d=false:=by
    cases d<;>first | rfl | exact(hs _ rfl).elim | exact(ha _ _ rfl).elim
   simp only[loadVar,Sem.run_bind,uz hu,hf,Result.andThen_ok,Bool.false_eq_true,if_false];exact Ej hx
  case h_2=>cases h
 case h_4=>cases h
theorem Ck.val_inj {c:Ck}{x y:c.C}(h:c.val x=c.val y):x=y:=by
 cases c<;>simp only[Ck.val] at h
 case aj=>
  obtain⟨a,b,d⟩:=x;obtain⟨a',b',d'⟩:=y;injection h with h1 h2 h3
  simp only at h1 h2 h3;subst h1;subst h2;subst h3;rfl
 case raw=>exact h
 all_goals (injection h)
theorem Cs.wh:∀ {cs:List Ck} {x y:Cs cs},Cs.vals cs x=Cs.vals cs y->x=y
 | [],_,_,_=>rfl
 | c::cs,(x,xs),(y,ys),h=>by
  simp only[Cs.vals,List.cons.injEq] at h;rw[Ck.val_inj h.1,Cs.wh h.2]
theorem Kd.val_inj {k:Kd}{x y:k.C}(h:k.val x=k.val y):x=y:=by
 cases k<;>simp only[Kd.val] at h
 case one c=>exact Ck.val_inj h
 case agg cs=>injection h with h;exact Cs.wh (by simpa using h)
 case arr=>injection h with h;simpa using h
theorem St.wh:∀ {ks:List Kd} {x y:St ks},St.vals ks x=St.vals ks y->x=y
 | [],_,_,_=>rfl
 | k::ks,(x,xs),(y,ys),h=>by
  simp only[St.vals,List.cons.injEq] at h;rw[Kd.val_inj h.1,St.wh h.2]
theorem Kc {w:World}{p:Addr}{v:Value}(h1:bK v=true)(h2:(w.cell? p).isSome=true)(h3:w.frozen? p=false):(store p v).run P w=.ok () (w.setCell p v):=by
 rw[run_store P w p v .plain (by cases v<;>first | rfl | exact h1)]
 cases hc:w.cell? p with
 | none=>rw[hc] at h2;cases h2
 | some u=>simp[h3]
theorem wi {p:Addr}:∀ (vs:List Value) (i:Nat) (w:World),pF w p i vs->(storeCells p vs i).run P w=.ok () (setCells w p i vs)
 | [],i,w,_=>by simp[storeCells,setCells]
 | v::vs,i,w,h=>by
  obtain⟨h1,h2,h3,h4⟩:=h;simp only[storeCells,Sem.run_bind,Kc h1 h2 h3,Result.andThen_ok,setCells];exact wi vs (i+1) _ h4
theorem Ke {place:Nat->Option (Nat×Nat)}:∀ {l l':List (Nat×Value)} {cells:Array Value},l.map (fun p=>(p.1,p.2.cells))=l'.map (fun p=>(p.1,p.2.cells)) ->
  Instr.fill place cells l=Instr.fill place cells l'
 | [],[],_,_=>rfl
 | [],_::_,_,h=>by simp at h
 | _::_,[],_,h=>by simp at h
 | (i,v)::l,(i',v')::l',cells,h=>by
  simp only[List.map_cons,List.cons.injEq,Prod.mk.injEq] at h;obtain⟨⟨rfl,h2⟩,h3⟩:=h;unfold Instr.fill;rw[h2];cases place i with
  | none=>rfl
  | some p=>
   simp only;split
   ·rfl
   ·exact Ke h3
theorem Ri {t:TypeId}{l l':List (Nat×Value)}(h:l.map (fun p=>(p.1,p.2.cells))=l'.map (fun p=>(p.1,p.2.cells))):P.built t l=P.built t l':=by
 unfold Program.built;simp only[Ke h]
theorem BA {t:TypeId}:∀ {l:List (Nat×Value)} {K:List (Nat×Value)->Prop},uw P t l K->∃ l',l.map (fun p=>(p.1,p.2.cells))=l'.map (fun p=>(p.1,p.2.cells))/\K l'
 | [],K,h=>⟨[],rfl,h⟩
 | p::l,K,h=>by
  unfold uw at h;split at h
  ·obtain⟨h1,h⟩:=h.out
   obtain⟨l',h2,h⟩:=BA h;exact⟨_,by simp only[List.map_cons,h2,h1];rfl,h⟩
  ·split at h
   ·obtain⟨i,v⟩:=p
    cases v with
    | agg cs=>
     obtain⟨y,hy,h⟩:=h.out;obtain⟨l',h2,h⟩:=BA h;refine⟨_,?_,h⟩;rw[<- hy,List.map_cons,List.map_cons,h2,Array.toArray_toList]
    | _=>cases h
   ·obtain⟨l',h2,h⟩:=BA h
    exact⟨_,by simp only[List.map_cons,h2],h⟩
theorem Kf {t:TypeId}{l:List (Nat×Value)}{K:Array Value->Prop}
  (h:uw P t l fun vs=>match P.built t vs with | some cells=>K cells | none=>False):∃ cells,P.built t l=some cells/\K cells:=by
 obtain⟨l',h1,h⟩:=BA h;rw[Ri h1];split at h
 ·exact⟨_,‹_›,h⟩
 ·cases h
def Yields (P:Program)(s:Sem Next)(w:World)(K:Value->World->Prop):Prop:=
 (∃ v w',s.run P w=.ok (.value v) w'/\K v w')\/(∃ w',s.run P w=.ok .skip w'/\K undef w')\/(∃ f args,s.run P w=.ok (.enter f args) w/\Ret P f args w K)
def wj (P:Program)(s:Sem Next)(w:World)(K:Value->World->Prop):Prop:=
 (∃ v,s.run P w=.ok (.value v) w/\K v w)\/(s.run P w=.ok .skip w/\K undef w)
def rJ (P:Program)(s:Sem Next)(w:World)(K:Value->World->Prop):Prop:=∃ v,(∀ w',s.run P w'=.ok (.value v) w')/\K v w
theorem rJ.still {s:Sem Next}{w:World}{K:Value->World->Prop}(h:rJ P s w K):wj P s w K:=let ⟨v,a,b⟩:=h;.inl ⟨v,a w,b⟩
theorem kS {s:Sem Value}{w:World}{v:Value}{K:Value->World->Prop}(h:∀ w',s.run P w'=.ok v w')(hK:K v w):rJ P (do pure (.value (<- s))) w K:=
 ⟨v,fun w'=>by simp[h w'],hK⟩
theorem yv {s:Sem Value}{w w':World}{v:Value}{K:Value->World->Prop}(h:s.run P w=.ok v w')(hK:K v w'):Yields P (do pure (.value (<- s))) w K:=
 .inl ⟨v,w',by simp[h],hK⟩
theorem pH {s:Sem Value}{w:World}{v:Value}{K:Value->World->Prop}(h:s.run P w=.ok v w)(hK:K v w):wj P (do pure (.value (<- s))) w K:=
 .inl ⟨v,by simp[h],hK⟩
theorem yu {s:Sem Unit}{w w':World}{K:Value->World->Prop}(h:s.run P w=.ok () w')(hK:K undef w'):Yields P (do s;pure .skip) w K:=
 .inr (.inl ⟨w',by simp[h],hK⟩)
theorem wj.Rj {s:Sem Next}{w:World}{K:Value->World->Prop}(h:wj P s w K):Yields P s w K:=
 h.elim (fun⟨v,a,b⟩=>.inl ⟨v,w,a,b⟩) (fun⟨a,b⟩=>.inr (.inl ⟨w,a,b⟩))
theorem pI {s:Sem Value}{w:World}{K:Value->World->Prop}(h:kP P s w K):∃ v,(∀ w',s.run P w'=.ok v w')/\K v w:=by
 unfold kP at h;split at h
 ·rename_i v hv;exact⟨v,fun w'=>Ei hv w',h⟩
 ·cases h
theorem qH {s:Sem Value}{w:World}{K:Value->World->Prop}(h:kP P s w K):∃ v,s.run P w=.ok v w/\K v w:=by
 unfold kP at h;split at h
 ·rename_i v hv;exact⟨v,Ei hv w,h⟩
 ·cases h
theorem rK {q:Option Addr}{K:Addr->Prop}(h:jI q K):∃ a,q=some a/\K a:=by
 cases q with
 | none=>cases h
 | some a=>exact⟨a,rfl,h⟩
theorem yz {b:Bool}{A B:Prop}(h:aa b A B):(b=true->A)/\(b=false->B):=by
 cases b
 ·exact⟨fun h=>(by cases h),fun _=>h⟩
 ·exact⟨fun _=>h,fun h=>(by cases h)⟩
theorem Rl {v:Option Value}{d:Int}{K:Int->Prop}(h:pG v d K):(v=none/\K d)\/∃ k i,v=some (.int k i)/\K i:=by
 unfold pG at h;split at h
 ·exact .inl ⟨rfl,h⟩
 ·exact .inr ⟨_,_,rfl,h⟩
 ·cases h
theorem yA {op:BinOp}{t:TypeId}{x y:Operand}{a b:Value}(w:World)(h1:a≠.nilIface)(h2:∀ c,a≠.agg c):(eqGuard op t x y a b).run P w=.ok () w:=by
 unfold eqGuard;cases a<;>first | exact absurd rfl h1 | exact absurd rfl (h2 _) | (cases op<;>rfl)
theorem Kg {op:BinOp}{t:TypeId}{k k':IntKind}{a b:Int}(h:k=k'):(op=.quo->b≠0->∀ w,(binOp op t (.int k a) (.int k' b)).run P w=.ok (.int k (k.wrap (a.tdiv b))) w) /\
  (op=.rem->b≠0->∀ w,(binOp op t (.int k a) (.int k' b)).run P w=.ok (.int k (a.tmod b)) w):=by
 subst h;refine⟨fun ho hb w=>?_,fun ho hb w=>?_⟩<;>subst ho<;>simp[binOp,Op.intDiv,hb]
theorem BB {t:TypeId}{k k':IntKind}{a b:Int}(hb:0<=b)(w:World):
  (binOp .shl t (.int k a) (.int k' b)).run P w=.ok (.int k (k.wrap (a * 2 ^ (min b.toNat k.bits)))) w /\
  (binOp .shr t (.int k a) (.int k' b)).run P w=.ok (.int k (a.fdiv (2 ^ (min b.toNat k.bits)))) w:=by
 have hn:¬ b<0:=by omega
 exact⟨by simp[binOp,Op.shift,hn],by simp[binOp,Op.shift,hn]⟩
theorem wm {d:TypeDesc}{t:TypeId}(hd:P.underlying t=some d)(w:World):
  (∀ e p,d=.pointer e->(Op.equal t (.pointer p) (.pointer none)).run P w=.ok p.isNone w) /\
  (∀ e p l c l' c',d=.slice e->(Op.equal t (.slice p l c) (.slice none l' c')).run P w=.ok p.isNone w) /\
  (∀ k e p,d=.map k e->(Op.equal t (.map p) (.map none)).run P w=.ok p.isNone w):=by
 refine⟨fun e p h=>?_,fun e p l c l' c' h=>?_,fun k e p h=>?_⟩<;>subst h<;>unfold Op.equal Op.maxDepth<;>unfold Op.equalIn <;>
  simp only[Sem.run_bind,under hd,Result.andThen_ok]
 ·cases p<;>simp
 ·cases p<;>simp
 ·cases p<;>simp
theorem El {e:Env}{op:BinOp}{xt:TypeId}{x y:Operand}{w:World}{K:Value->World->Prop}(h:Ed P e op xt x y w K):
  ∃ v w',(do eqGuard op xt x y (e.eval x) (e.eval y);binOp op xt (e.eval x) (e.eval y):Sem Value).run P w=.ok v w'/\K v w' /\
   (we P xt=false->w'=w/\∀ w2,(do eqGuard op xt x y (e.eval x) (e.eval y);binOp op xt (e.eval x) (e.eval y):Sem Value).run P w2=.ok v w2):=by
 unfold Ed at h;split at h
 ·rename_i hr
  obtain⟨b,w',iv,hK⟩:=h.out;exact⟨_,w',iv,hK,fun hf=>by rw[hr] at hf;cases hf⟩
 ·rename_i hr
  have pk:∀ {s:Sem Value},kP P s w K->∃ v w',s.run P w=.ok v w'/\K v w'/\(we P xt=false->w'=w/\∀ w2,s.run P w2=.ok v w2):=fun h=>
   let ⟨v,a,b⟩:=pI h;⟨v,w,a w,b,fun _=>⟨rfl,a⟩⟩
  have al:∀ {s:Sem Value} {v:Value},(∀ w2,s.run P w2=.ok v w2)->K v w->∃ v w',s.run P w=.ok v w'/\K v w'/\(we P xt=false->w'=w/\∀ w2,s.run P w2=.ok v w2):=fun{s v} a b=>⟨v,w,a w,b,fun _=>⟨rfl,a⟩⟩;split at h
  case h_1 k a k' b ex ey=>
   rw[ex,ey];have g1:∀ w,(eqGuard op xt x y (.int k a) (.int k' b)).run P w=.ok () w:=fun w=>yA w (by simp) (by simp);split at h
   case h_1 hk=>
    have yB:k=k':=of_decide_eq_true hk;subst yB;split at h
    ·obtain⟨hb,hK⟩:=h.out;exact al (fun w2=>by simp only[Sem.run_bind,g1 w2,Result.andThen_ok];exact(Kg rfl).1 rfl hb w2) hK
    ·obtain⟨hb,hK⟩:=h.out;exact al (fun w2=>by simp only[Sem.run_bind,g1 w2,Result.andThen_ok];exact(Kg rfl).2 rfl hb w2) hK
    ·obtain⟨hb,hK⟩:=h.out;exact al (fun w2=>by simp only[Sem.run_bind,g1 w2,Result.andThen_ok];exact(BB hb w2).1) hK
    ·obtain⟨hb,hK⟩:=h.out;exact al (fun w2=>by simp only[Sem.run_bind,g1 w2,Result.andThen_ok];exact(BB hb w2).2) hK
    ·exact pk h
   case h_2 hk=>
    split at h
    ·obtain⟨hb,hK⟩:=h.out;exact al (fun w2=>by simp only[Sem.run_bind,g1 w2,Result.andThen_ok];exact(BB hb w2).1) hK
    ·obtain⟨hb,hK⟩:=h.out;exact al (fun w2=>by simp only[Sem.run_bind,g1 w2,Result.andThen_ok];exact(BB hb w2).2) hK
    ·cases h
  case h_2 a b ex ey=>
   rw[ex,ey];have g1:∀ w,(eqGuard op xt x y (.string a) (.string b)).run P w=.ok () w:=fun w=>yA w (by simp) (by simp);split at h
   ·obtain⟨hb,hK⟩:=h.out
    refine al (fun w2=>?_) hK;have gv:¬ ((a.size+b.size:Nat):Int) > IntKind.i64.max:=by omega
    simp only[Sem.run_bind,g1 w2,Result.andThen_ok,binOp,Op.stringOp];rw[if_neg gv];rfl
   ·exact pk h
  case h_3 a b ex ey=>rw[ex,ey];exact pk h
  case h_4 p ex ey=>
   rw[ex,ey];have g1:∀ op w,(eqGuard op xt x y (.pointer p) (.pointer none)).run P w=.ok () w:=fun op w=>yA w (by simp) (by simp);split at h
   case h_1 hu=>exact al (fun w2=>by simp[g1,binOp,(wm hu w2).1 _ p rfl]) h
   case h_2 hu=>exact al (fun w2=>by simp[g1,binOp,(wm hu w2).1 _ p rfl]) h
   case h_3=>cases h
  case h_5 p l c l' c' ex ey=>
   rw[ex,ey];have g1:∀ op w,(eqGuard op xt x y (.slice p l c) (.slice none l' c')).run P w=.ok () w:=fun op w=>yA w (by simp) (by simp);split at h
   case h_1 hu=>exact al (fun w2=>by simp[g1,binOp,(wm hu w2).2.1 _ p l c l' c' rfl]) h
   case h_2 hu=>exact al (fun w2=>by simp[g1,binOp,(wm hu w2).2.1 _ p l c l' c' rfl]) h
   case h_3=>cases h
  case h_6 p ex ey=>
   rw[ex,ey];have g1:∀ op w,(eqGuard op xt x y (.map p) (.map none)).run P w=.ok () w:=fun op w=>yA w (by simp) (by simp);split at h
   case h_1 hu=>exact al (fun w2=>by simp[g1,binOp,(wm hu w2).2.2 _ _ p rfl]) h
   case h_2 hu=>exact al (fun w2=>by simp[g1,binOp,(wm hu w2).2.2 _ _ p rfl]) h
   case h_3=>cases h
  case h_7=>cases h
theorem mn (e:Env)(xs:Array Operand):(mj e xs).toArray=xs.map e.eval:=by
 apply Array.ext';simp[mj]
theorem yC (k:IntKind)(n:Int)(w:World):(asIntOf (.int k n)).run P w=.ok (k,n) w:=rfl
theorem mq {k:IntKind}{i:Int}{y:Nat}{c:BoundsCode}(h0:0<=i)(h1:i<=y)(w:World):(Instr.sliceBound (.int k i) y c).run P w=.ok i.toNat w:=by
 simp only[Instr.sliceBound,Sem.run_bind,yC,Result.andThen_ok,Sem.run_ite];rw[if_pos ⟨h0,h1⟩];rfl
theorem wo {x:Value}{xt t:TypeId}{d:TypeDesc}(hd:P.underlying t=some d)(hi:∀ m,d≠.interface m)(w:World):
  (∀ v ok,x=.iface t v->(Instr.typeAssert x xt t ok).run P w=.ok (if ok then .tuple #[v,.bool true] else v) w) /\
  (∀ i z,P.info? t=some i->i.zero=some z->(x=.nilIface\/∃ u v,x=.iface u v/\u≠t)->(Instr.typeAssert x xt t true).run P w=.ok (.tuple #[z,.bool false]) w):=by
 refine⟨fun v ok h=>?_,fun i z h1 h2 h=>?_⟩
 ·subst h
  unfold Instr.typeAssert;simp only[Sem.run_bind,under hd,Result.andThen_ok];cases d<;>first | exact absurd rfl (hi _) | (simp only[if_true];cases ok<;>rfl)
 ·unfold Instr.typeAssert
  simp only[Sem.run_bind,under hd,Result.andThen_ok]
  rcases h with rfl | ⟨u,v,rfl,hu⟩
  ·cases d<;>first | exact absurd rfl (hi _) | simp[qG h1 h2]
  ·cases d<;>first | exact absurd rfl (hi _) | simp[qG h1 h2,hu]
theorem Rm {el:TypeId}{d:TypeDesc}{cs:Array Value}{i:Nat}{v:Value}(hd:P.underlying el=some d)(ha:rI d=false)(hv:cs[i]? = some v)(w:World):(part el cs i).run P w=.ok v w:=by
 simp only[part,Sem.run_bind,uz hd,ha,Result.andThen_ok,Bool.false_eq_true,if_false,hv];rfl
theorem Rn {f:FuncId}{args:List Value}{w:World}{K:Value->World->Prop}(h:rH P f args w K):
  ∃ xs,(callFunc f args.toArray).run P w=.ok (.enter f xs) w/\Ret P f xs w K:=by
 unfold rH at h;split at h
 case h_1 g xs fn hp hf=>
  split at h
  case h_1 hb=>
   have hg:=Nat.eq_of_beq_eq_true hb;subst hg;exact⟨xs,Ei hp w,h.out.mono fun e w' ⟨v,he,x,hv,hK⟩=>⟨v,he,by rw[hv];exact hK⟩⟩
  case h_2=>cases h
 case h_2=>cases h
theorem Ro {f:FuncId}{args:List Value}{w:World}{K K':Value->World->Prop}(hk:∀ v w',K v w'->K' v w')(h:rH P f args w K):rH P f args w K':=by
 unfold rH at h ⊢;split at h
 case h_1 g xs fn hp hf=>
  split at h
  case h_1 hb=>exact⟨h.out.mono fun e w' ⟨v,he,x,hv,hK⟩=>⟨v,he,x,hv,hk _ _ hK⟩⟩
  case h_2=>cases h
 case h_2=>cases h
theorem Kh {o:Oper}{e:Env}{x:Operand}{w:World}{K:Value->World->Prop}(ho:o.op=.nilCheck x)(h:gZ P o e w K):rJ P (execOp e.eval o) w K:=by
 unfold gZ at h;simp only[ho] at h;unfold JX at h;simp only[execOp,ho];split at h
 case h_1 q eq=>
  obtain⟨p,rfl,hK⟩:=rK h;rw[eq];exact⟨_,fun _=>rfl,hK⟩
 case h_2 f fi ca eq=>rw[eq];exact⟨_,fun _=>rfl,h⟩
 case h_3=>cases h
theorem Ki {o:Oper}{e:Env}{t:TypeId}{x i:Operand}{w:World}{K:Value->World->Prop}(ho:o.op=.indexAddr t x i)(h:gZ P o e w K):rJ P (execOp e.eval o) w K:=by
 unfold gZ at h;simp only[ho] at h;simp only[execOp,ho];split at h
 case h_1 el hu=>
  split at h
  case h_1 base len c k i inf ex ei hi=>
   obtain⟨a,rfl,h0,h1,hK⟩:=h.out;refine kS (fun w=>?_) hK;rw[ex,ei];simp only[Instr.indexAt,Sem.run_bind,yC,under hu,Result.andThen_ok,Sem.run_pure,if_pos (And.intro h0 h1),ko hi]
  case h_2=>cases h
 case h_2 n el hu=>
  split at h
  case h_1 q k i inf ex ei hi=>
   obtain⟨p,rfl,h⟩:=rK h;obtain⟨h0,h1,hK⟩:=h.out;refine kS (fun w=>?_) hK;rw[ex,ei];simp only[Instr.indexAt,Instr.sureAddr,Sem.run_bind,yC,under hu,Result.andThen_ok,Sem.run_pure,if_pos (And.intro h0 h1),ko hi]
  case h_2=>cases h
 case h_3=>cases h
theorem Kj {o:Oper}{e:Env}{t:TypeId}{x i:Operand}{w:World}{K:Value->World->Prop}(ho:o.op=.index t x i)(h:gZ P o e w K):rJ P (execOp e.eval o) w K:=by
 unfold gZ at h;simp only[ho] at h;simp only[execOp,ho];split at h
 case h_1 hu=>
  split at h
  case h_1 s k i ex ei=>
   obtain⟨b,h0,h1,hK⟩:=h.out;refine kS (fun w=>?_) hK;rw[ex,ei];simp only[Instr.index,Sem.run_bind,yC,under hu,Result.andThen_ok,if_pos h0,h1];rfl
  case h_2=>cases h
 case h_2 n el hu=>
  split at h
  case h_1 cs k i inf c d ex ei hi hk hd=>
   split at h
   case h_1 hb Rp=>
    obtain⟨y,h0,h1,hy,hK⟩:=h.out;refine kS (fun w=>?_) hK;rw[ex,ei];have hs:=Nat.eq_of_beq_eq_true hb;have ha:rI d=false:=by cases d<;>first | rfl | cases Rp
    simp only[Instr.index,Sem.run_bind,yC,under hu,Result.andThen_ok,if_pos (And.intro h0 h1),ko hi,hs,Nat.mul_one];exact Rm hd ha hy w
   case h_2=>cases h
  case h_2=>cases h
 case h_3=>cases h
theorem BC {a b:Int}(h0:0<=b)(h:b<=a):(a - b).toNat=a.toNat - b.toNat:=by omega
theorem Rq {el:TypeId}{t:TypeId}{inf:TypeInfo}{a:Option Addr}{len cap:Nat}{lo hi mx:Option Value}{l h m:Int}(hu:P.underlying t=some (.slice el))(pJ:P.info? el=some inf)
  (mY:(lo=none/\l=0)\/∃ k,lo=some (.int k l)) (uB:(hi=none/\mx=none/\h=len)\/∃ k,hi=some (.int k h)) (Em:(mx=none/\m=cap)\/∃ k,mx=some (.int k m))
  (h0:0<=l) (h1:l<=h) (h2:h<=m) (h3:m<=cap) (w:World) :
  (Instr.slice t (.slice a len cap) lo hi mx).run P w=.ok (.slice (if m=l then a else a.map (·.add (l.toNat * inf.size))) (h - l).toNat (m - l).toNat) w:=by
 have e1:(if m=l then a else a.map (·.add (l.toNat * inf.size)))=(if m.toNat=l.toNat then a else a.map (·.add (l.toNat * inf.size))):=by
  by_cases hh:m=l
  ·rw[if_pos hh,if_pos (by omega)]
  ·rw[if_neg hh,if_neg (by omega)]
 have hM:0<=m:=by omega
 have hH:0<=h:=by omega
 have Rr:((m.toNat:Nat):Int)=m:=Int.toNat_of_nonneg hM;have wq:((h.toNat:Nat):Int)=h:=Int.toNat_of_nonneg hH;rw[e1,BC h0 h1,BC h0 (by omega)];simp only[Instr.slice,Sem.run_bind,under hu,Result.andThen_ok];have hb:(Instr.sliceBounds true len cap lo hi mx).run P w=.ok (l.toNat,h.toNat,m.toNat) w:=by
  unfold Instr.sliceBounds
  rcases Em with⟨rfl,rfl⟩ | ⟨km,rfl⟩
  ·rcases uB with⟨rfl,_,rfl⟩ | ⟨kh,rfl⟩
   ·rcases mY with⟨rfl,rfl⟩ | ⟨kl,rfl⟩
    ·simp
    ·simp[mq h0 h1]
   ·have aI:=fun c=>mq (P:=P) (k:=kh) (i:=h) (y:=cap) (c:=c) hH h2 w
    rcases mY with⟨rfl,rfl⟩ | ⟨kl,rfl⟩
    ·simp[aI]
    ·simp[aI,mq (P:=P) (k:=kl) (i:=l) (y:=h.toNat) h0 (by omega)]
  ·have au:=fun c=>mq (P:=P) (k:=km) (i:=m) (y:=cap) (c:=c) hM h3 w
   rcases uB with⟨_,hx,_⟩ | ⟨kh,rfl⟩
   ·cases hx
   ·have aI:=fun c=>mq (P:=P) (k:=kh) (i:=h) (y:=m.toNat) (c:=c) hH (by omega) w
    rcases mY with⟨rfl,rfl⟩ | ⟨kl,rfl⟩
    ·simp[au,aI]
    ·simp[au,aI,mq (P:=P) (k:=kl) (i:=l) (y:=h.toNat) h0 (by omega)]
 simp only[hb,Result.andThen_ok,ko pJ,Sem.run_pure]
theorem Rs {el:TypeId}{t:TypeId}{inf:TypeInfo}{a:Addr}{n:Nat}{lo hi mx:Option Value}{l h m:Int}(hu:P.underlying t=some (.array n el))(pJ:P.info? el=some inf)
  (mY:(lo=none/\l=0)\/∃ k,lo=some (.int k l)) (uB:(hi=none/\mx=none/\h=n)\/∃ k,hi=some (.int k h)) (Em:(mx=none/\m=n)\/∃ k,mx=some (.int k m))
  (h0:0<=l) (h1:l<=h) (h2:h<=m) (h3:m<=n) (w:World) :
  (Instr.sliceAt t (.pointer (some a)) lo hi mx).run P w=.ok (.slice (if m=l then some a else(some a).map (·.add (l.toNat * inf.size))) (h - l).toNat (m - l).toNat) w:=by
 have e1:(if m=l then some a else(some a).map (·.add (l.toNat * inf.size)))=some (if m.toNat=l.toNat then a else a.add (l.toNat * inf.size)):=by
  by_cases hh:m=l
  ·rw[if_pos hh,if_pos (by omega)]
  ·rw[if_neg hh,if_neg (by omega)];rfl
 have hM:0<=m:=by omega
 have hH:0<=h:=by omega
 have Rr:((m.toNat:Nat):Int)=m:=Int.toNat_of_nonneg hM;have wq:((h.toNat:Nat):Int)=h:=Int.toNat_of_nonneg hH;rw[e1,BC h0 h1,BC h0 (by omega)];simp only[Instr.sliceAt,Instr.sureAddr,Sem.run_bind,Sem.run_pure,under hu,Result.andThen_ok];have hb:(Instr.sliceBounds false n n lo hi mx).run P w=.ok (l.toNat,h.toNat,m.toNat) w:=by
  unfold Instr.sliceBounds
  rcases Em with⟨rfl,rfl⟩ | ⟨km,rfl⟩
  ·rcases uB with⟨rfl,_,rfl⟩ | ⟨kh,rfl⟩
   ·rcases mY with⟨rfl,rfl⟩ | ⟨kl,rfl⟩
    ·simp
    ·simp[mq h0 h1]
   ·have aI:=fun c=>mq (P:=P) (k:=kh) (i:=h) (y:=n) (c:=c) hH h2 w
    rcases mY with⟨rfl,rfl⟩ | ⟨kl,rfl⟩
    ·simp[aI]
    ·simp[aI,mq (P:=P) (k:=kl) (i:=l) (y:=h.toNat) h0 (by omega)]
  ·have au:=fun c=>mq (P:=P) (k:=km) (i:=m) (y:=n) (c:=c) hM h3 w
   rcases uB with⟨_,hx,_⟩ | ⟨kh,rfl⟩
   ·cases hx
   ·have aI:=fun c=>mq (P:=P) (k:=kh) (i:=h) (y:=m.toNat) (c:=c) hH (by omega) w
    rcases mY with⟨rfl,rfl⟩ | ⟨kl,rfl⟩
    ·simp[au,aI]
    ·simp[au,aI,mq (P:=P) (k:=kl) (i:=l) (y:=h.toNat) h0 (by omega)]
 simp only[hb,Result.andThen_ok,ko pJ,Sem.run_pure]
theorem Rt {t:TypeId}{s:ByteArray}{lo hi:Option Value}{l h:Int}(hu:P.underlying t=some .string)
  (mY:(lo=none/\l=0)\/∃ k,lo=some (.int k l)) (uB:(hi=none/\h=s.size)\/∃ k,hi=some (.int k h)) (h0:0<=l) (h1:l<=h) (h2:h<=s.size) (w:World) :
  (Instr.slice t (.string s) lo hi none).run P w=.ok (.string (s.extract l.toNat h.toNat)) w:=by
 have hH:0<=h:=by omega
 have wq:((h.toNat:Nat):Int)=h:=Int.toNat_of_nonneg hH;simp only[Instr.slice,Sem.run_bind,under hu,Result.andThen_ok,Option.isSome_none,Bool.false_eq_true,if_false];have hb:(Instr.sliceBounds false s.size s.size lo hi none).run P w=.ok (l.toNat,h.toNat,s.size) w:=by
  unfold Instr.sliceBounds
  rcases uB with⟨rfl,rfl⟩ | ⟨kh,rfl⟩
  ·rcases mY with⟨rfl,rfl⟩ | ⟨kl,rfl⟩
   ·simp
   ·simp[mq h0 h1]
  ·have aI:=fun c=>mq (P:=P) (k:=kh) (i:=h) (y:=s.size) (c:=c) hH h2 w
   rcases mY with⟨rfl,rfl⟩ | ⟨kl,rfl⟩
   ·simp[aI]
   ·simp[aI,mq (P:=P) (k:=kl) (i:=l) (y:=h.toNat) h0 (by omega)]
 simp only[hb,Sem.run_pure,Result.andThen_ok]
theorem sZ {v:Option Value}{d:Int}{K:Int->Prop}(h:pG v d K):∃ i,K i/\((v=none/\i=d)\/∃ k,v=some (.int k i)):=by
 rcases Rl h with⟨a,b⟩ | ⟨k,i,a,b⟩
 ·exact⟨d,b,.inl ⟨a,rfl⟩⟩
 ·exact⟨i,b,.inr ⟨k,a⟩⟩
theorem Kk {t:TypeId}{d:TypeDesc}(hu:P.underlying t=some d)(hd:∀ n e,d≠.array n e){x:Value}{lo hi mx:Option Value}(w:World):
  (Instr.sliceAt t x lo hi mx).run P w=(Instr.slice t x lo hi mx).run P w:=by
 unfold Instr.sliceAt;simp only[Sem.run_bind,under hu,Result.andThen_ok]
theorem Kl {o:Oper}{e:Env}{t:TypeId}{x:Operand}{lo hi mx:Option Operand}{w:World}{K:Value->World->Prop}(ho:o.op=.slice t x lo hi mx)(h:gZ P o e w K):rJ P (execOp e.eval o) w K:=by
 unfold gZ at h;simp only[ho] at h;simp only[execOp,ho];split at h
 case h_1 hu=>
  split at h
  case h_1 s ex=>
   obtain⟨l,h,hl⟩:=sZ h;obtain⟨r,h,hr⟩:=sZ h;obtain⟨h0,h1,h2,hK⟩:=h.out;refine kS (fun w=>?_) hK;rw[Kk hu (by simp),ex];exact Rt hu hl hr h0 h1 h2 w
  case h_2=>cases h
 case h_2 el hu=>
  split at h
  case h_1 a len cap inf ex pK=>
   split at h
   case h_1=>cases h
   case h_2 En=>
    obtain⟨l,h,hl⟩:=sZ h;obtain⟨r,h,hr⟩:=sZ h;obtain⟨m,h,hm⟩:=sZ h;obtain⟨h0,h1,h2,h3,hK⟩:=h.out;refine kS (fun w=>?_) hK;rw[Kk hu (by simp),ex];refine Rq hu pK hl ?_ hm h0 h1 h2 h3 w
    rcases hr with⟨hr,gq⟩ | hr
    ·refine .inl ⟨hr,?_,gq⟩
     cases hi with
     | some y=>simp at hr
     | none=>
      cases mx with
      | none=>rfl
      | some y=>exact(En _ rfl rfl).elim
    ·exact .inr hr
  case h_2=>cases h
 case h_3 n el hu=>
  split at h
  case h_1 q inf ex pK=>
   split at h
   case h_1=>cases h
   case h_2 En=>
    obtain⟨a,rfl,hk⟩:=rK h;obtain⟨l,hk,hl⟩:=sZ hk;obtain⟨r,hk,hr⟩:=sZ hk;obtain⟨m,hk,hm⟩:=sZ hk;obtain⟨h0,h1,h2,h3,hK⟩:=hk.out;refine kS (fun w=>?_) hK;rw[ex];refine Rs hu pK hl ?_ hm h0 h1 h2 h3 w
    rcases hr with⟨hr,gq⟩ | hr
    ·refine .inl ⟨hr,?_,gq⟩
     cases hi with
     | some y=>simp at hr
     | none=>
      cases mx with
      | none=>rfl
      | some y=>exact(En _ rfl rfl).elim
    ·exact .inr hr
  case h_2=>cases h
 case h_4=>cases h
theorem Km {o:Oper}{e:Env}{w:World}{K:Value->World->Prop}(hs:Bs P o.op=true)(h:gZ P o e w K):rJ P (execOp e.eval o) w K:=by
 have hh:=h;unfold gZ at h;cases ho:o.op<;>simp only[ho,Bs,Bool.false_eq_true] at h hs
 case move x=>simp only[execOp,ho];exact⟨_,fun _=>rfl,h⟩
 case assign x=>simp only[execOp,ho];exact⟨_,fun _=>rfl,h⟩
 case pick c a b=>
  simp only[execOp,ho];split at h
  case h_1 t ec=>
   rw[ec];obtain⟨h1,h2⟩:=yz h;cases t
   ·exact⟨_,fun _=>rfl,h2 rfl⟩
   ·exact⟨_,fun _=>rfl,h1 rfl⟩
  case h_2=>cases h
 case nilCheck x=>exact Kh ho hh
 case build t parts=>
  simp only[execOp,ho];obtain⟨cells,hb,h⟩:=Kf h;refine kS (fun w'=>run_build w' t _ cells ?_) h;simpa using hb
 case binOp op t x y yt=>
  simp only[execOp,ho];obtain⟨v,w',hr,hK,hw⟩:=El h;obtain⟨tb,uC⟩:=hw (by simpa using hs);subst tb;exact kS uC hK
 case convert src dst x=>
  simp only[execOp,ho];simp only[Bool.and_eq_true] at hs;split at h
  ·rename_i h1 h2;have:=hs.1;simp[isInt,h1] at this
  ·rename_i h1 h2;have:=hs.1;simp[isInt,h1] at this
  ·rename_i h1 h2;have:=hs.1;simp[isInt,h1] at this
  ·obtain⟨v,hr,hK⟩:=pI h;exact kS hr hK
 case unOp op t x=>simp only[execOp,ho];obtain⟨v,hr,hK⟩:=pI h;exact kS hr hK
 case fieldAddr s x f=>
  simp only[execOp,ho];split at h
  case h_1 q ex=>obtain⟨a,hq,h⟩:=rK h;obtain⟨v,hr,hK⟩:=pI h;rw[ex,hq];exact kS hr hK
  case h_2=>cases h
 case field t x f=>simp only[execOp,ho];obtain⟨v,hr,hK⟩:=pI h;exact kS hr hK
 case extract t i=>simp only[execOp,ho];obtain⟨v,hr,hK⟩:=pI h;obtain⟨x,rfl,Eo⟩:=Kd.kN hK;exact kS hr Eo
 case makeInterface t x=>simp only[execOp,ho];obtain⟨v,hr,hK⟩:=pI h;exact kS hr hK
 case makeFunc fn fi ca=>simp only[execOp,ho];exact⟨_,fun _=>by simp[Instr.makeFunc,mn],h⟩
 case indexAddr t x i=>exact Ki ho hh
 case index t x i=>exact Kj ho hh
 case slice t x lo hi mx=>exact Kl ho hh
 case typeAssert x xt t ok=>
  simp only[execOp,ho];split at h
  case h_1=>cases h
  case h_2 d hi hu=>
   have pK:∀ m,d≠.interface m:=fun m hm=>hi m (by rw[hm]);split at h
   case h_1=>
    split at h
    case h_1 i pJ=>
     split at h
     case h_1 z hz=>
      rcases h.out with⟨r,hx,hK⟩ | ⟨hx,hK⟩
      ·exact kS (fun w=>(wo hu pK w).1 _ true hx) hK
      ·exact kS (fun w=>(wo hu pK w).2 i z pJ hz hx) hK
     case h_2=>cases h
    case h_2=>cases h
   case h_2=>
    rcases h.out with⟨r,hx,hK⟩ | ⟨hx,hK⟩
    ·exact kS (fun w=>(wo hu pK w).1 _ false hx) hK
    ·cases hK
  case h_3=>cases h
 case call c=>
  simp only[execOp,ho];have red:∀ (b:Builtin),c.callee=.builtin b->∀ (s:Sem Value) v,(∀ cs,builtin b c.argTypes o.type cs (c.args.map e.eval)=(do pure (.value (<- s))))->(∀ w',s.run P w'=.ok v w')->K v w ->
    rJ P (do let d <- resolve e.eval c o.type;invoke d.target d.args) w K:=fun b hc s v hb hr hK=>by
   refine⟨v,fun w'=>?_,hK⟩;simp only[resolve,hc,Sem.run_bind,Sem.run_pure,Result.andThen_ok,invoke];rw[hb];simp[hr w']
  split at hs
  case h_1 hc=>
   simp only[hc] at h;obtain⟨v,hr,hK⟩:=pI h;refine red .cap hc _ v ?_ hr hK;intro _;rw[mn];rfl
  case h_2 hc=>
   simp only[hc] at h;obtain⟨v,hr,hK⟩:=pI h;refine red .min hc _ v ?_ hr hK;intro _;rw[mn];rfl
  case h_3 hc=>
   simp only[hc] at h;obtain⟨v,hr,hK⟩:=pI h;refine red .max hc _ v ?_ hr hK;intro _;rw[mn];rfl
  case h_4 hc=>
   simp only[hc] at h;split at h
   case h_1 m hl=>
    exfalso
    split at hs
    case h_1 t ht=>
     have h0:c.argTypes[0]? = some t:=by rw[<- Array.getElem?_toList,ht];rfl
     rw[h0] at h;simp only[Option.bind_some] at h;split at h
     ·rename_i hu;simp[hu] at hs
     ·exact h
    case h_2=>cases hs
   case h_2 l hl=>
    obtain⟨v,hr,hK⟩:=pI h;refine red .len hc _ v ?_ hr hK;intro _;rw[mn];rfl
  case h_5=>cases hs
theorem Kn {o:Oper}{e:Env}{w:World}{K:Value->World->Prop}(hs:sV P o.op=true)(h:gZ P o e w K):wj P (execOp e.eval o) w K:=by
 have hh:=h;unfold gZ at h;cases ho:o.op<;>simp only[ho,sV,Bool.false_eq_true] at h hs
 case move x=>simp only[execOp,ho];exact .inl ⟨_,rfl,h⟩
 case assign x=>simp only[execOp,ho];exact .inl ⟨_,rfl,h⟩
 case pick c a b=>
  simp only[execOp,ho];split at h
  case h_1 t ec=>
   rw[ec];obtain⟨h1,h2⟩:=yz h;cases t
   ·exact .inl ⟨_,rfl,h2 rfl⟩
   ·exact .inl ⟨_,rfl,h1 rfl⟩
  case h_2=>cases h
 case load t a=>
  simp only[execOp,ho];split at h
  case h_1 q ea=>
   obtain⟨p,rfl,h⟩:=rK h;obtain⟨v,hv,hK⟩:=Kb h;refine pH ?_ hK;rw[ea];simp only[Instr.loadAt,Instr.sureAddr,Sem.run_bind,Sem.run_pure,Result.andThen_ok,hv]
  case h_2=>cases h
 case nilCheck x=>exact(Kh ho hh).still
 case build t parts=>
  simp only[execOp,ho];obtain⟨cells,hb,h⟩:=Kf h;refine pH (run_build w t _ cells ?_) h;simpa using hb
 case binOp op t x y yt=>
  simp only[execOp,ho];obtain⟨v,w',hr,hK,hw⟩:=El h;have:=(hw (by simpa using hs)).1;subst this;exact pH hr hK
 case unOp op t x=>simp only[execOp,ho];obtain⟨v,hr,hK⟩:=qH h;exact pH hr hK
 case fieldAddr s x f=>
  simp only[execOp,ho];split at h
  case h_1 q ex=>obtain⟨a,hq,h⟩:=rK h;obtain⟨v,hr,hK⟩:=qH h;rw[ex,hq];exact pH hr hK
  case h_2=>cases h
 case field t x f=>simp only[execOp,ho];obtain⟨v,hr,hK⟩:=qH h;exact pH hr hK
 case extract t i=>simp only[execOp,ho];obtain⟨v,hr,hK⟩:=qH h;obtain⟨x,rfl,Eo⟩:=Kd.kN hK;exact pH hr Eo
 case makeInterface t x=>simp only[execOp,ho];obtain⟨v,hr,hK⟩:=qH h;exact pH hr hK
 case makeFunc fn fi ca=>simp only[execOp,ho];exact .inl ⟨_,by simp[Instr.makeFunc,mn],h⟩
 case indexAddr t x i=>exact(Ki ho hh).still
 case index t x i=>exact(Kj ho hh).still
 case slice t x lo hi mx=>exact(Kl ho hh).still
 case typeAssert x xt t ok=>
  simp only[execOp,ho];split at h
  case h_1=>cases h
  case h_2 d hi hu=>
   have pK:∀ m,d≠.interface m:=fun m hm=>hi m (by rw[hm]);split at h
   case h_1=>
    split at h
    case h_1 i pJ=>
     split at h
     case h_1 z hz=>
      rcases h.out with⟨r,hx,hK⟩ | ⟨hx,hK⟩
      ·exact pH ((wo hu pK w).1 _ true hx) hK
      ·exact pH ((wo hu pK w).2 i z pJ hz hx) hK
     case h_2=>cases h
    case h_2=>cases h
   case h_2=>
    rcases h.out with⟨r,hx,hK⟩ | ⟨hx,hK⟩
    ·exact pH ((wo hu pK w).1 _ false hx) hK
    ·cases hK
  case h_3=>cases h
 case call c=>
  simp only[execOp,ho];have red:∀ (b:Builtin),c.callee=.builtin b->∀ (s:Sem Value) v,(∀ cs,builtin b c.argTypes o.type cs (c.args.map e.eval)=(do pure (.value (<- s))))->s.run P w=.ok v w->K v w ->
    wj P (do let d <- resolve e.eval c o.type;invoke d.target d.args) w K:=fun b hc s v hb hr hK=>by
   refine .inl ⟨v,?_,hK⟩;simp only[resolve,hc,Sem.run_bind,Sem.run_pure,Result.andThen_ok,invoke];rw[hb];simp[hr]
  split at hs
  case h_1 hc=>
   simp only[hc] at h;split at h
   case h_1 m hl=>
    have hm:c.args.map e.eval=#[.map m]:=by rw[<- mn,hl]
    split at h
    case h_1 k el hu=>
     have uD:∃ t,c.argTypes[0]? = some t/\P.underlying t=some (.map k el):=by
      cases ht:c.argTypes[0]? with
      | none=>simp[ht] at hu
      | some t=>exact⟨t,rfl,by simpa[ht] using hu⟩
     obtain⟨t,ht,kT⟩:=uD
     rcases h.out with⟨rfl,hK⟩ | ⟨r,es,cl,rfl,hh,hK⟩
     ·refine red .len hc (Builtin.len_ c.argTypes o.type #[.map none]) _ (fun _=>by rw[hm];rfl) ?_ hK
      unfold Builtin.len_;simp[ht,under kT,goInt]
     ·refine red .len hc (Builtin.len_ c.argTypes o.type #[.map (some r)]) _ (fun _=>by rw[hm];rfl) ?_ hK
      unfold Builtin.len_;simp[ht,under kT,goInt,getObj,Sem.run,hh]
    case h_2=>cases h
   case h_2 l hl=>
    obtain⟨v,hr,hK⟩:=qH h;refine red .len hc _ v ?_ hr hK;intro _;rw[mn];rfl
  case h_2 hc=>
   simp only[hc] at h;obtain⟨v,hr,hK⟩:=qH h;refine red .cap hc _ v ?_ hr hK;intro _;rw[mn];rfl
  case h_3 hc=>
   simp only[hc] at h;obtain⟨v,hr,hK⟩:=qH h;refine red .min hc _ v ?_ hr hK;intro _;rw[mn];rfl
  case h_4 hc=>
   simp only[hc] at h;obtain⟨v,hr,hK⟩:=qH h;refine red .max hc _ v ?_ hr hK;intro _;rw[mn];rfl
  case h_5=>cases hs
theorem BD {o:Oper}{e:Env}{w:World}{K:Value->World->Prop}(h:gZ P o e w K):Yields P (execOp e.eval o) w K:=by
  by_cases hs:sV P o.op=true
  · exact(Kn hs h).Rj
  have hh:=h;unfold gZ at h;cases ho:o.op<;>simp only[ho,sV,not_true,Bool.not_eq_true] at h hs
  case store t a x=>
    simp only[execOp,ho];split at h
    case h_1 q ea=>
      obtain⟨p,rfl,h⟩:=rK h;split at h
      case h_1 i pJ=>
       split at h
       case h_1=>
        split at h
        case h_1 hb=>
          have hsz:1=i.size:=Nat.eq_of_beq_eq_true hb;obtain⟨h1,h⟩:=h.out;obtain⟨hw,hK⟩:=h.out;refine yu ?_ hK;rw[ea];have hr:(storeCells p (e.eval x).cells.toList 0).run P w=.ok () (setCells w p 0 [e.eval x]):=by rw[h1];exact wi _ 0 w hw
          have hz:(e.eval x).cells.size=i.size:=by rw[h1,<- hsz];rfl
          simp only[Instr.storeAt,Instr.sureAddr,storeVar,Sem.run_bind,Sem.run_pure,Result.andThen_ok,ko pJ,hz,ne_eq,not_true,if_false,hr]
        case h_2=>cases h
       case h_2=>
        split at h
        case h_1 n el hu=>
          split at h
          case h_1 cs ex=>
            obtain⟨hsz,h⟩:=h.out;obtain⟨hw,hK⟩:=h.out;refine yu ?_ hK;rw[ea,ex];have Ru:(Value.agg cs).cells.size=i.size:=by rw[<- hsz];exact Array.length_toList.symm
            have hr:(storeCells p (Value.agg cs).cells.toList 0).run P w=.ok () (setCells w p 0 cs.toList):=wi _ 0 w hw;simp only[Instr.storeAt,Instr.sureAddr,storeVar,Sem.run_bind,Sem.run_pure,Result.andThen_ok,ko pJ,Ru,ne_eq,not_true,if_false,hr]
          case h_2=>cases h
        case h_2 hu=>
          split at h
          case h_1 hb=>
            have hsz:(e.eval x).cells.size=i.size:=Nat.eq_of_beq_eq_true hb;have sv:∀ w',(storeCells p (e.eval x).cells.toList 0).run P w=.ok () w'->K undef w'->Yields P (do Instr.storeAt t (e.eval a) (e.eval x);pure .skip) w K:=fun w' hr hK=>by
              refine yu ?_ hK;rw[ea];simp only[Instr.storeAt,Instr.sureAddr,storeVar,Sem.run_bind,Sem.run_pure,Result.andThen_ok,ko pJ,hsz,ne_eq,not_true,if_false,hr]
            split at h
            case h_1 cs ex=>
              obtain⟨hw,hK⟩:=h.out;exact sv _ (by rw[ex];exact wi _ 0 w hw) hK
            case h_2=>cases h
            case h_3 Rv hnt=>
              obtain⟨h1,h2,h3,hK⟩:=h.out;refine sv _ ?_ hK;have hc:(e.eval x).cells.toList=[e.eval x]:=by
                cases hx:e.eval x<;>first | rfl | exact(Rv _ hx).elim
              rw[hc];simp only[storeCells,Sem.run_bind];have ha:p.add 0=p:=by simp[Addr.add]
              rw[ha,Kc h1 h2 h3];rfl
          case h_2=>cases h
      case h_2=>cases h
    case h_2=>cases h
  case alloc t=>
    simp only[execOp,ho];split at h
    case h_1 i hi=>
      split at h
      case h_1 z hz=>
        refine yv ?_ h.out;simp[Instr.alloc,qG hi hz,newVar,newRow,newObj,Sem.run]
      case h_2=>cases h
    case h_2=>cases h
  case box t x=>
    simp only[execOp,ho];split at h
    · obtain⟨h1,h⟩:=h.out
      exact yv (by simp[Instr.box,newVar,newRow,newObj,Sem.run,h1]) h.out
    · exact yv (by simp[Instr.box,newVar,newRow,newObj,Sem.run]) h.out
  case binOp op t x y yt=>
    simp only[execOp,ho];obtain⟨v,w',hr,hK,_⟩:=El h;exact yv hr hK
  case makeMap t r=>
    cases r with
    | none=>
      simp only[execOp,ho];exact yv (by simp[Instr.makeMap,newObj,Sem.run]) h.out
    | some r=>exact h.elim
  case convert src dst x=>
    simp only[execOp,ho];split at h
    · obtain⟨v,w',hr,hK⟩:=h.out;exact yv hr hK
    · obtain⟨v,w',hr,hK⟩:=h.out;exact yv hr hK
    · obtain⟨v,w',hr,hK⟩:=h.out;exact yv hr hK
    · obtain⟨v,hr,hK⟩:=qH h;exact yv hr hK
  case makeSlice t l c=>simp only[execOp,ho];obtain⟨v,w',hr,hK⟩:=h.out;exact yv hr hK
  case buildSlice t n parts=>
    simp only[execOp,ho];obtain⟨v,w',hr,hK⟩:=h.out;refine yv ?_ hK;have:(parts.toList.map fun(i,x)=>(i,e.eval x)).toArray=parts.map fun(i,x)=>(i,e.eval x):=by
      apply Array.ext';simp
    rw[this] at hr;exact hr
  case lookup t x i ok=>simp only[execOp,ho];obtain⟨v,w',hr,hK⟩:=h.out;exact yv hr hK
  case mapEntry t m k=>simp only[execOp,ho];obtain⟨v,w',hr,hK⟩:=h.out;exact yv hr hK
  case entryStore t m k x=>simp only[execOp,ho];obtain⟨w',hr,hK⟩:=h.out;exact yu hr hK
  case mapUpdate t m k x=>simp only[execOp,ho];obtain⟨w',hr,hK⟩:=h.out;exact yu hr hK
  case insert t m k x=>simp only[execOp,ho];obtain⟨w',hr,hK⟩:=h.out;exact yu hr hK
  case range t x=>simp only[execOp,ho];obtain⟨v,w',hr,hK⟩:=h.out;exact yv hr hK
  case next it s=>
    simp only[execOp,ho];split at h
    case h_1=>
      split at h
      case h_1 q Rw=>
        obtain⟨r,s,pos,rfl,hr,hK⟩:=h.out;rw[Rw]
        by_cases hp:pos<s.size
        · rw[if_pos hp] at hK
          refine yv ?_ hK;simp only[Instr.next,Sem.run_bind,getObj,Sem.run,hr,Result.andThen_ok,if_pos hp,setObj,Sem.run_pure];rfl
        · rw[if_neg hp] at hK
          refine yv (v:=.tuple #[.bool false]) (w':=w) ?_ hK;simp only[Instr.next,Sem.run_bind,getObj,Sem.run,hr,Result.andThen_ok,if_neg hp,Sem.run_pure]
      case h_2=>cases h
    case h_2=>
      rcases h.out with⟨k,v,w',hr,hK⟩ | ⟨w',hr,hK⟩
      · exact yv hr hK
      · exact yv hr hK
  case entry it=>simp only[execOp,ho];obtain⟨v,w',hr,hK⟩:=h.out;exact yv hr hK
  case call c=>
    simp only[execOp,ho];have red:∀ (b:Builtin),c.callee=.builtin b->∀ (s:Sem Value) v w',(∀ cs,builtin b c.argTypes o.type cs (c.args.map e.eval)=(do pure (.value (<- s))))->s.run P w=.ok v w'->K v w' ->
        Yields P (do let d <- resolve e.eval c o.type;invoke d.target d.args) w K:=fun b hc s v w' hb hr hK=>by
      refine .inl ⟨v,w',?_,hK⟩;simp only[resolve,hc,Sem.run_bind,Sem.run_pure,Result.andThen_ok,invoke];rw[hb];simp[hr]
    split at h
    case h_1 hc=>
      obtain⟨v,w',hr,hK⟩:=h.out;exact red .append hc _ _ w' (fun _=>by rw[mn];rfl) hr hK
    case h_2 hc=>
      obtain⟨v,w',hr,hK⟩:=h.out;exact red .copy hc _ _ w' (fun _=>by rw[mn];rfl) hr hK
    case h_3 hc=>
      obtain⟨v,w',hr,hK⟩:=h.out;exact red .delete hc _ _ w' (fun _=>by rw[mn];rfl) hr hK
    case h_4 hc=>simp[hc] at hs
    case h_5 hc=>simp[hc] at hs
    case h_6 hc=>simp[hc] at hs
    case h_7 hc=>simp[hc] at hs
    case h_8 x hc=>
      have go:∀ {f fi ca},e.eval x=.func (.func f) fi ca->rH P f (fi.toList++mj e c.args++ca.toList) w K->Yields P (do let d <- resolve e.eval c o.type;invoke d.target d.args) w K:=fun{f fi ca} ex h=>by
        obtain⟨xs,hr,hK⟩:=Rn h;refine .inr (.inr ⟨f,xs,?_,hK⟩);have hargs:(fi.toList++mj e c.args++ca.toList).toArray=fi++c.args.map e.eval++ca:=by
          rw[<- mn];apply Array.ext';simp
        rw[hargs] at hr;simp only[resolve,hc,ex,Deferred.ofValue,Sem.run_bind,Sem.run_pure,Result.andThen_ok,invoke,hr]
      split at h
      case h_1 u=>
        unfold kQ at h;split at h
        case h_1 f fi ca ex=>exact go ex (Ro (fun v w' hv=>by obtain⟨y,rfl,hy⟩:=Rk.kN hv;exact hy) h)
        case h_2=>cases h
      case h_2=>
        split at h
        case h_1 f fi ca ex=>exact go ex h
        case h_2=>cases h
    case h_9=>cases h
  all_goals first | (exact absurd hs (by simp)) | (exact h.elim)
theorem Rx {n:Nat}{o:Oper}{e:Env}{a:Act}{w:World}{K:Value->World->Prop}{next:Act->World->Prop}{Q:Exit->Act->World->Prop}(hr:dn n e a)(h:gZ P o e w K)
  (hK:∀ v w',K v w'->next (a.put o.dst v) w'):o.wp P a w next Q:=by
 unfold Oper.wp;rw[hr.eval]
 rcases BD h with⟨v,w',iv,hk⟩ | ⟨w',iv,hk⟩ | ⟨f,args,iv,hk⟩
 ·rw[iv];exact hK _ _ hk
 ·rw[iv];exact hK _ _ hk
 ·rw[iv]
  exact Calls.mono hk fun e w' ⟨v,he,hv⟩=>by subst he;exact hK _ _ hv
theorem Ry {n:Nat}{o:Oper}{e:Env}{a:Act}{w:World}{K:Value->World->Prop}{next:Act->Prop}(hr:dn n e a)(hs:sV P o.op=true)(h:gZ P o e w K)
  (hK:∀ v,K v w->next (a.put o.dst v)):o.still P a w next:=by
 unfold Oper.still;rw[hr.eval]
 rcases Kn hs h with⟨v,iv,hk⟩ | ⟨iv,hk⟩
 ·rw[iv];exact⟨rfl,hK _ hk⟩
 ·rw[iv];exact⟨rfl,hK _ hk⟩
theorem dn.yielded {n:Nat}{e:Env}{a:Act}(h:dn n e a)(ops:Array Oper)(j:Nat):
  Go.yielded ops a.tmps j=match (ops[j]?).bind (·.dst) with
   | none=>none
   | some d=>match e.get d with | .bool b=>some b | _=>none:=by
 unfold Go.yielded;cases hd:(ops[j]?).bind (·.dst) with
 | none=>simp
 | some d=>
  simp only[Option.bind_some];rw[<- h.get d,Array.getD_eq_getD_getElem?];cases ht:a.tmps[d]? with
  | none=>simp[undef]
  | some v=>simp only[Option.getD_some];cases v<;>rfl
theorem dn.lit {n:Nat}{e:Env}{a:Act}(h:dn n e a){d:Nat}{v:Value}(hv:e.get d=v):dn n (e.put (some d) v) a:=
 ⟨h.size,h.defers,fun t=>by rw[Env.Bo,h.get];by_cases ht:t=d<;>simp[ht,hv]⟩
theorem BE (e:Env)(dst:Option Nat)(v:Value){t:Nat}(h:t ∉ dst.toList):(e.put dst v).get t=e.get t:=by
 cases dst with
 | none=>rfl
 | some d=>rw[Env.Bo,if_neg (by simpa using h)]
theorem oO {e:Env}{d:Nat}{v:Value}(hv:e.get d=v)(t:Nat):(e.put (some d) v).get t=e.get t:=by
 rw[Env.Bo];by_cases ht:t=d<;>simp[ht,hv]
def oP (l:List Oper):List Nat:=l.filterMap (·.dst)
theorem Ep {o:Oper}{l:List Oper}{t:Nat}(h:t ∉ oP (o::l)):t ∉ o.dst.toList/\t ∉ oP l:=by
 unfold oP at *;cases hd:o.dst with
 | none=>simp[hd] at h;exact⟨by simp,by simpa using h⟩
 | some d=>
  simp[hd] at h;exact⟨by simpa using fun x=>h.1 x,by simpa using h.2⟩
theorem Ko {n:Nat}{ops:Array Oper}{o:Oper}{rest:List Oper}{e:Env}{a:Act}{w:World}{K:Env->World->Prop}(hr:dn n e a)(h:kR P n ops (o::rest) e w K):
  (Region.wanted o (Go.yielded ops a.tmps)=true/\∃ e1,dn n e1 a/\(∀ t,e1.get t=e.get t)/\lO n o.dst=true/\gZ P o e1 w fun v w'=>kR P n ops rest (e1.put o.dst v) w' K) \/
  (Region.wanted o (Go.yielded ops a.tmps)=false/\∃ e1,dn n e1 a/\(∀ t,e1.get t=e.get t)/\lO n o.dst=true/\kR P n ops rest (e1.put o.dst undef) w K):=by
 unfold kR at h;split at h
 case h_1=>cases h
 case h_2 hd=>
  split at h
  case h_1 hg=>exact .inl ⟨by simp[Region.wanted,hg],e,hr,fun _=>rfl,hd,h⟩
  case h_2 j want hg=>
   have hy:=hr.yielded ops j;split at h
   case h_1=>cases h
   case h_2 d Er=>
    simp only[Er] at hy;split at h
    case h_1 b hb=>
     simp only[hb] at hy;split at h
     all_goals
      obtain⟨h1,h2⟩:=yz h;cases b
      ·first
        | exact .inr ⟨by simp[Region.wanted,hg,hy],_,hr.lit hb,oO hb,hd,h2 rfl⟩
        | exact .inl ⟨by simp[Region.wanted,hg,hy],_,hr.lit hb,oO hb,hd,h2 rfl⟩
      ·first
        | exact .inr ⟨by simp[Region.wanted,hg,hy],_,hr.lit hb,oO hb,hd,h1 rfl⟩
        | exact .inl ⟨by simp[Region.wanted,hg,hy],_,hr.lit hb,oO hb,hd,h1 rfl⟩
    case h_2 hb=>
     simp only[hb] at hy;exact .inr ⟨by simp[Region.wanted,hg,hy],e,hr,fun _=>rfl,hd,h⟩
    case h_3=>cases h
theorem Es {n:Nat}{ops:Array Oper}{Q:Exit->Act->World->Prop}:∀ (l:List Oper) (e:Env) (a:Act) (w:World) (K:Env->World->Prop),dn n e a->kR P n ops l e w K ->
  (∀ e' a' w',dn n e' a'->(∀ t,t ∉ oP l->e'.get t=e.get t)->K e' w'->Q .normal a' w')->wpList P ops Q l a w
 | [],e,a,w,K,hr,h,hK=>hK e a w hr (fun _ _=>rfl) h
 | o::rest,e,a,w,K,hr,h,hK=>by
  unfold wpList;have go:∀ e1 v w',dn n e1 a->(∀ t,e1.get t=e.get t)->lO n o.dst=true->kR P n ops rest (e1.put o.dst v) w' K->wpList P ops Q rest (a.put o.dst v) w':=fun e1 v w' ef he hd h=>
   Es rest _ _ _ K (ef.put o.dst hd v) h fun e' a' w' h1 h2 h3=>hK e' a' w' h1 (fun t ht=>by
    obtain⟨uE,uF⟩:=Ep ht;rw[h2 t uF,BE _ _ _ uE,he t]) h3
  rcases Ko hr h with⟨hw,e1,ef,he,hd,h⟩ | ⟨hw,e1,ef,he,hd,h⟩
  ·rw[if_pos hw]
   exact .inl (Rx ef h fun v w' h=>go e1 v w' ef he hd h)
  ·rw[if_neg (by rw[hw];simp)]
   exact go e1 undef w ef he hd h
theorem Et {n:Nat}{ops:Array Oper}{Q:Act->Prop}(tl:List Oper):∀ (l:List Oper) (e:Env) (a:Act) (w:World) (K:Env->World->Prop),l.all (fun o=>sV P o.op)=true->dn n e a ->
  kR P n ops (l++tl) e w K ->
  (∀ e' a',dn n e' a'->(∀ t,t ∉ oP l->e'.get t=e.get t)->kR P n ops tl e' w K->Q a')->wpStill P ops w Q l a
 | [],e,a,w,K,_,hr,h,hK=>hK e a hr (fun _ _=>rfl) h
 | o::rest,e,a,w,K,hs,hr,h,hK=>by
  simp only[List.all_cons,Bool.and_eq_true] at hs;unfold wpStill;have go:∀ e1 v,dn n e1 a->(∀ t,e1.get t=e.get t)->lO n o.dst=true->kR P n ops (rest++tl) (e1.put o.dst v) w K->wpStill P ops w Q rest (a.put o.dst v):=fun e1 v ef he hd h=>
   Et tl rest _ _ _ K hs.2 (ef.put o.dst hd v) h fun e' a' h1 h2 h3=>hK e' a' h1 (fun t ht=>by
    obtain⟨uE,uF⟩:=Ep ht;rw[h2 t uF,BE _ _ _ uE,he t]) h3
  rcases Ko hr h with⟨hw,e1,ef,he,hd,h⟩ | ⟨hw,e1,ef,he,hd,h⟩
  ·rw[if_pos hw]
   exact Ry ef hs.1 h fun v h=>go e1 v ef he hd h
  ·rw[if_neg (by rw[hw];simp)]
   exact go e1 undef ef he hd h
theorem mem_iff (l:List Nat)(t:Nat):mem l t=true↔t∈l:=by
 induction l with
 | nil=>simp[mem]
 | cons u l ih=>
  unfold mem;cases hb:Nat.beq u t with
  | true=>simp[Nat.eq_of_beq_eq_true hb]
  | false=>
   have ay:t≠u:=fun h=>by rw[h] at hb;simp at hb
   simp[ih,ay]
section anyorder
variable {ops:Array Oper} {CL:Array Bool->World->Prop}
def oQ (ops:Array Oper)(aH:Array Bool):Prop:=
 aH.size=ops.size/\∀ j oj,ops[j]? = some oj->aH.getD j false=true->∀ e∈oj.after,Region.binds .any e=true->aH.getD e.on false=true
theorem oQ.set {aH:Array Bool}(h:oQ ops aH){i:Nat}(hi:i∈Region.ready .any ops aH):oQ ops (aH.setIfInBounds i true):=by
 obtain⟨_,oi,Eu,hall⟩:=mem_ready.1 hi;refine⟨by simp[h.1],fun j oj hj hl e he hb=>?_⟩
 by_cases lz:i=j
 ·subst lz
  have:oj=oi:=Option.some.inj (hj.symm.trans Eu);subst this;exact getD_set_true (hall e he hb)
 ·rw[getD_set_ne false lz] at hl
  exact getD_set_true (h.2 j oj hj hl e he hb)
def tc (P:Program)(ops:Array Oper)(CL:Array Bool->World->Prop)(o:Oper)(i:Nat)(v:Value)(a:Act):Prop:=
 (Region.wanted o (Go.yielded ops a.tmps)=true/\∀ aH w,oQ ops aH->i∈Region.ready .any ops aH->CL aH w ->
  Yields P (execOp a.eval o) w fun u w'=>u=v/\CL (aH.setIfInBounds i true) w') \/
 (Region.wanted o (Go.yielded ops a.tmps)=false/\v=undef/\∀ aH w,oQ ops aH->i∈Region.ready .any ops aH->CL aH w->CL (aH.setIfInBounds i true) w)
theorem tc.of_same {o:Oper}{i:Nat}{v:Value}{a a':Act}(h:tc P ops CL o i v a)(he:execOp a'.eval o=execOp a.eval o)(hw:Region.wanted o (Go.yielded ops a'.tmps)=Region.wanted o (Go.yielded ops a.tmps)):
  tc P ops CL o i v a':=by
 unfold tc at *;rw[he,hw];exact h
def qI (P:Program)(ops:Array Oper)(CL:Array Bool->World->Prop)(Q:Array Bool->Act->Prop):Nat->Array Bool->Act->Prop
 | 0,aH,a=>Region.ready .any ops aH=[]/\Q aH a
 | f+1,aH,a=>Region.ready .any ops aH≠[]/\∀ i∈Region.ready .any ops aH,∃ o v,ops[i]? = some o/\tc P ops CL o i v a/\qI P ops CL Q f (aH.setIfInBounds i true) (a.put o.dst v)
theorem Kp {Q:Array Bool->Act->Prop}{Q':Exit->Act->World->Prop}(hQ:∀ aH a w,Q aH a->CL aH w->Q' .normal a w):∀ (f:Nat) (aH:Array Bool) (a:Act) (w:World),
  oQ ops aH->CL aH w->qI P ops CL Q f aH a->wpAny P .any ops Q' f aH a w
 | 0,aH,a,w,_,hC,h=>⟨h.1,hQ _ _ _ h.2 hC⟩
 | f+1,aH,a,w,eH,hC,h=>by
  refine⟨fun h0=>absurd h0 h.1,fun i hi=>?_⟩;obtain⟨o,v,ho,hs,hn⟩:=h.2 i hi;have rest:∀ w',CL (aH.setIfInBounds i true) w'->wpAny P .any ops Q' f (aH.setIfInBounds i true) (a.put o.dst v) w':=fun w' rL=>Kp hQ f _ _ w' (eH.set hi) rL hn;unfold wpOp;simp only[ho]
  rcases hs with⟨hw,hy⟩ | ⟨hw,rfl,hy⟩
  ·rw[if_pos hw]
   refine .inl ?_;unfold Oper.wp
   rcases hy aH w eH hi hC with⟨u,w',iv,rfl,rL⟩ | ⟨w',iv,rfl,rL⟩ | ⟨g,args,iv,Ev⟩
   ·rw[iv];exact rest w' rL
   ·rw[iv];exact rest w' rL
   ·rw[iv]
    exact Calls.mono Ev fun e w' ⟨u,he,hu,rL⟩=>by subst he;subst hu;exact rest w' rL
  ·rw[if_neg (by rw[hw];simp)]
   exact rest w (hy aH w eH hi hC)
theorem Kq {Q Q':Array Bool->Act->Prop}(hq:∀ l a,Q l a->Q' l a):∀ (f:Nat) (aH:Array Bool) (a:Act),qI P ops CL Q f aH a->qI P ops CL Q' f aH a
 | 0,_,_,h=>⟨h.1,hq _ _ h.2⟩
 | f+1,_,_,h=>⟨h.1,fun i hi=>let ⟨o,v,h1,h2,h3⟩:=h.2 i hi;⟨o,v,h1,h2,Kq hq f _ _ h3⟩⟩
theorem Rz {Q:Array Bool->Act->Prop}{i:Nat}{oi:Oper}{v:Value}(hi:ops[i]? = some oi)(pL:∀ (j:Nat) (o:Oper) cs b,ops[j]? = some o->o.op≠.select cs b):
  ∀ (f:Nat) (aH:Array Bool) (a:Act),
   (∀ j oj,ops[j]? = some oj->j≠i->aH.getD j true=false->(∀ e∈oj.after,Region.binds .any e=true->e.on≠i)->oi.apart ops oj=true) ->
   i∈Region.ready .any ops aH->tc P ops CL oi i v a->qI P ops CL Q f (aH.setIfInBounds i true) (a.put oi.dst v)->qI P ops CL Q (f+1) aH a:=by
 intro f
 induction f with
 | zero=>
  intro aH a _ hr hy H;refine⟨fun h=>(by rw[h] at hr;cases hr),fun j hj=>?_⟩
  by_cases jt:j=i
  ·subst jt;exact⟨oi,v,hi,hy,H⟩
  ·have:=ready_mono hj jt
   rw[H.1] at this;cases this
 | succ f ih=>
  intro aH a yD hr hy H;refine⟨fun h=>(by rw[h] at hr;cases hr),fun j hj=>?_⟩
  by_cases jt:j=i
  ·subst jt;exact⟨oi,v,hi,hy,H⟩
  ·obtain⟨oj,u,rM,yE,Hj⟩:=H.2 j (ready_mono hj jt)
   obtain⟨yF,ju,BF,hall⟩:=mem_ready.1 hj;have:ju=oj:=Option.some.inj (BF.symm.trans rM);subst this;have Ew:∀ e∈ju.after,Region.binds .any e=true->e.on≠i:=fun e he hb heq=>by
    have h1:=hall e he hb;have h0:=(mem_ready.1 hr).1;rw[heq] at h1
    rcases Nat.lt_or_ge i aH.size with h' | h'
    ·simp[h'] at h0 h1;rw[h0] at h1;cases h1
    ·simp[Array.getElem?_eq_none h'] at h1
   have Ex:=yD j ju rM jt yF Ew;obtain⟨h1,h2,h3⟩:=Oper.apart_spec Ex;refine⟨ju,u,rM,yE.of_same (execOp_put ju (fun cs b=>pL j ju cs b rM) a oi.dst v h1).symm (wanted_put ju a oi.dst v h1).symm,?_⟩;refine ih (aH.setIfInBounds j true) (a.put ju.dst u) (fun k ok hk wv qJ hZ=>?_) (ready_mono hr (Ne.symm jt))
    (hy.of_same (execOp_put oi (fun cs b=>pL i oi cs b hi) a ju.dst u h3) (wanted_put oi a ju.dst u h3)) ?_
   ·refine yD k ok hk wv ?_ hZ
    by_cases td:j=k
    ·subst td;exact yF
    ·rw[getD_set_ne true td] at qJ;exact qJ
   ·rw[Array.setIfInBounds_comm _ _ jt,<- Act.put_comm a v u h2]
    exact Hj
theorem Ey {aH:Array Bool}(eH:oQ ops aH):∀ (f i:Nat),(∀ o,ops[i]? = some o->∀ e∈o.after,Region.binds .any e=true->aH.getD e.on false=true)->∀ j∈qF ops f i,aH.getD j false=true
 | 0,_,_,j,hj=>by simp[qF] at hj
 | f+1,i,hi,j,hj=>by
  unfold qF at hj;cases ho:ops[i]? with
  | none=>simp[ho] at hj
  | some o=>
   simp only[ho,List.mem_flatMap] at hj;obtain⟨e,he,hj⟩:=hj;cases hb:Region.binds .any e with
   | false=>simp[hb] at hj
   | true=>
    have hl:=hi o ho e (Array.mem_toList_iff.1 he) hb;simp only[hb,List.mem_cons] at hj
    rcases hj with rfl | hj
    ·exact hl
    ·exact Ey eH f e.on (fun o' Ez e' EA gv=>eH.2 e.on o' Ez hl e' EA gv) j hj
def mask (loud:List (Nat×Rk))(aH:Array Bool):Nat->Bool:=fun j=>mem (loud.map (·.1)) j&&aH.getD j false
theorem Kr {loud:List (Nat×Rk)}{k:Nat}:(sW loud k).isSome=mem (loud.map (·.1)) k:=by
 induction loud with
 | nil=>rfl
 | cons x l ih=>
  obtain⟨j,r⟩:=x;simp only[sW,List.map_cons,mem];cases hb:Nat.beq j k with
  | true=>rfl
  | false=>exact ih
theorem Ks {loud:List (Nat×Rk)}{aH:Array Bool}{i:Nat}(hm:mem (loud.map (·.1)) i=true)(hi:i<aH.size):mask loud (aH.setIfInBounds i true)=sT (mask loud aH) i:=by
 funext j
 unfold mask sT;cases hb:Nat.beq j i with
 | true=>
  have:=Nat.eq_of_beq_eq_true hb;subst this;simp[hm,hi]
 | false=>
  have ay:i≠j:=fun e=>by subst e;simp at hb
  simp only[getD_set_ne false ay]
theorem Kt {loud:List (Nat×Rk)}{aH:Array Bool}{i:Nat}(hm:mem (loud.map (·.1)) i=false):mask loud (aH.setIfInBounds i true)=mask loud aH:=by
 funext j
 unfold mask
 by_cases lz:i=j
 ·subst lz;simp[hm]
 ·rw[getD_set_ne false lz]
theorem Ku {aH:Array Bool}{i:Nat}(h:i∈Region.ready .any ops aH):i<ops.size/\aH.getD i true=false:=by
 obtain⟨h1,o,h2,_⟩:=mem_ready.1 h;exact⟨(Array.getElem?_eq_some_iff.1 h2).1,h1⟩
theorem RA {aH:Array Bool}{i:Nat}(h:aH.getD i true=false):aH.getD i false=false:=by
 rcases Nat.lt_or_ge i aH.size with h' | h'
 ·simp[h'] at h ⊢;exact h
 ·simp[Array.getElem?_eq_none h'] at h
theorem RB {n:Nat}{loud:List (Nat×Rk)}{C:(Nat->Bool)->World->Prop}{o:Oper}{k:Nat}{e:Env}{a:Act}{w:World}{next:Value->Prop}(hr:dn n e a)
  (hwt:Region.wanted o (Go.yielded ops a.tmps)=true) (h:wg P ops loud C o k e w next) :
  ∃ v,tc P ops (fun l w=>C (mask loud l) w) o k v a/\next v:=by
 unfold wg at h;have hm:=Kr (loud:=loud) (k:=k);split at h
 case h_1 r hl=>
  rw[hl] at hm;obtain⟨x,hx,hn⟩:=h.out;refine⟨_,.inl ⟨hwt,fun aH w' eH hi hC=>?_⟩,hn⟩;obtain⟨aU,qJ⟩:=Ku hi;have hD:mask loud aH k=false:=by unfold mask;rw[RA qJ];simp
  have RC:∀ j,j∈Ee ops loud k->mask loud aH j=true:=fun j hj=>by
   unfold Ee at hj;rw[List.mem_filter] at hj;obtain⟨_,oi,Eu,hall⟩:=mem_ready.1 hi;have:=Ey eH ops.size k (fun o' Ez e' EA gv=>by
    have:o'=oi:=Option.some.inj (Ez.symm.trans Eu);subst this;exact hall e' EA gv) j ((mem_iff _ _).1 hj.2)
   unfold mask;rw[this,(mem_iff _ _).2 hj.1];rfl
  have hy:=BD (hx (mask loud aH) w' hD RC hC);rw[hr.eval];rw[<- Ks hm.symm (by rw[eH.1];exact aU)] at hy;exact hy
 case h_2 hl=>
  rw[hl] at hm;split at h
  case h_1 hp=>
   obtain⟨v,hv,hn⟩:=Km hp h;refine⟨v,.inl ⟨hwt,fun aH w' _ _ hC=>.inl ⟨v,w',by rw[hr.eval];exact hv w',rfl,?_⟩⟩,hn⟩;show C (mask loud (aH.setIfInBounds k true)) w';rw[Kt hm.symm];exact hC
  case h_2=>cases h
theorem Kv {n:Nat}{loud:List (Nat×Rk)}{C:(Nat->Bool)->World->Prop}{w:World}{K:Env->Prop}(pL:Region.noSelect ops=true):
  ∀ (l:List Oper) (k:Nat) (aH:Array Bool) (e:Env) (a:Act),(∀ j,l[j]? = ops[k+j]?)->aH.size=ops.size->(∀ j,j<k->aH.getD j false=true)->Region.lexFrom .any ops l.length k aH=true->dn n e a ->
   lP P n ops loud C w l k e K ->
   qI P ops (fun l w=>C (mask loud l) w) (fun te a'=>(∀ j,j<ops.size->te.getD j false=true)/\∃ e',dn n e' a'/\K e'/\∀ t,t ∉ oP l->e'.get t=e.get t) l.length aH a
 | [],k,aH,e,a,hl,hsz,tf,hB,hr,h=>by
  have hk:ops.size<=k:=by
   have h0:=hl 0;simp at h0;exact h0
  exact⟨by simpa[Region.lexFrom] using hB,fun j hj=>tf j (by omega),e,hr,h,fun _ _=>rfl⟩
 | o::l,k,aH,e,a,hl,hsz,tf,hB,hr,h=>by
  have h0:ops[k]? = some o:=by simpa using(hl 0).symm
  have RD:k<ops.size:=(Array.getElem?_eq_some_iff.1 h0).1;simp only[List.length_cons,Region.lexFrom,Bool.and_eq_true] at hB;obtain⟨⟨EB,hf⟩,RE⟩:=hB;have yG:k∈Region.ready .any ops aH:=by simpa using EB
  have fin:∀ e1 v,dn n e1 a->(∀ t,e1.get t=e.get t)->lO n o.dst=true->tc P ops (fun l w=>C (mask loud l) w) o k v a->lP P n ops loud C w l (k+1) (e1.put o.dst v) K ->
    qI P ops (fun l w=>C (mask loud l) w) (fun te a'=>(∀ j,j<ops.size->te.getD j false=true)/\∃ e',dn n e' a'/\K e'/\∀ t,t ∉ oP (o::l)->e'.get t=e.get t) (l.length+1) aH a:=fun e1 v ef he hd hs h=>by
   refine Rz h0 (Region.noSelect_spec pL) l.length aH a (Region.free_spec h0 hf) yG hs ?_;have:=Kv pL l (k+1) (aH.setIfInBounds k true) (e1.put o.dst v) (a.put o.dst v) (fun j=>by have:=hl (j+1);simpa[Nat.add_assoc,Nat.add_comm 1 j] using this) (by simp[hsz])
    (fun j hj=>by
     by_cases td:k=j
     ·subst td;simp[hsz,RD]
     ·rw[getD_set_ne false td];exact tf j (by omega)) RE (ef.put o.dst hd v) h
   refine Kq ?_ _ _ _ this;rintro te a' ⟨q1,e',q2,q3,q4⟩;exact⟨q1,e',q2,q3,fun t ht=>by
    obtain⟨uE,uF⟩:=Ep ht;rw[q4 t uF,BE _ _ _ uE,he t]⟩
  show qI P ops _ _ (l.length+1) aH a;generalize qI P ops (fun l w=>C (mask loud l) w) (fun te a'=>(∀ j,j<ops.size->te.getD j false=true)/\∃ e',dn n e' a'/\K e'/\∀ t,t ∉ oP (o::l)->e'.get t=e.get t) (l.length+1) aH a=G at fin ⊢;have one:∀ e1,dn n e1 a->(∀ t,e1.get t=e.get t)->lO n o.dst=true->Region.wanted o (Go.yielded ops a.tmps)=true->wg P ops loud C o k e1 w (fun v=>lP P n ops loud C w l (k+1) (e1.put o.dst v) K)->G:=fun e1 ef he hd hw h=>by
   obtain⟨v,hs,hn⟩:=RB ef hw h;exact fin e1 v ef he hd hs hn
  have skip:∀ e1,dn n e1 a->(∀ t,e1.get t=e.get t)->lO n o.dst=true->Region.wanted o (Go.yielded ops a.tmps)=false ->
    (match sW loud k with | some _=>sU C k (lP P n ops loud C w l (k+1) (e1.put o.dst undef) K) | none=>lP P n ops loud C w l (k+1) (e1.put o.dst undef) K)->G:=fun e1 ef he hd hw h=>by
   have hm:=Kr (loud:=loud) (k:=k);split at h
   case h_1 r mY=>
    rw[mY] at hm;refine fin e1 undef ef he hd (.inr ⟨hw,rfl,fun aH w' eH hi hC=>?_⟩) h.out.2;show C (mask loud (aH.setIfInBounds k true)) w';rw[Ks hm.symm (by rw[eH.1];exact(Ku hi).1)];exact h.out.1 _ _ hC
   case h_2 mY=>
    rw[mY] at hm;refine fin e1 undef ef he hd (.inr ⟨hw,rfl,fun aH w' eH hi hC=>?_⟩) h;show C (mask loud (aH.setIfInBounds k true)) w';rw[Kt hm.symm];exact hC
  unfold lP at h;split at h
  case h_1=>cases h
  case h_2 hd=>
   split at h
   case h_1 hg=>exact one e hr (fun _=>rfl) hd (by simp[Region.wanted,hg]) h
   case h_2 j want hg=>
    have hy:=hr.yielded ops j;split at h
    case h_1=>cases h
    case h_2 d Er=>
     simp only[Er] at hy;split at h
     case h_1 b hb=>
      simp only[hb] at hy;split at h
      all_goals
       obtain⟨h1,h2⟩:=yz h;cases b
       ·first
         | exact skip _ (hr.lit hb) (oO hb) hd (by simp[Region.wanted,hg,hy]) (h2 rfl)
         | exact one _ (hr.lit hb) (oO hb) hd (by simp[Region.wanted,hg,hy]) (h2 rfl)
       ·first
         | exact skip _ (hr.lit hb) (oO hb) hd (by simp[Region.wanted,hg,hy]) (h1 rfl)
         | exact one _ (hr.lit hb) (oO hb) hd (by simp[Region.wanted,hg,hy]) (h1 rfl)
     case h_2 hb=>
      simp only[hb] at hy;exact skip e hr (fun _=>rfl) hd (by simp[Region.wanted,hg,hy]) h
     case h_3=>cases h
theorem Kw (p:Addr)(i:Nat):(p.add i).block=p.block:=by unfold Addr.add;split<;>rfl
theorem EC {S:Nat->Prop}{w0 w:World}(h:Kept S w0 w){p:Addr}(hp:S p.block):∀ (vs:List Value) (i:Nat),jH w0 p i vs->jH w p i vs
 | [],_,_=>trivial
 | _::vs,i,⟨h1,h2⟩=>⟨h _ _ (by rw[Kw];exact hp) h1,EC h hp vs (i+1) h2⟩
theorem RF {S:Nat->Prop}{t:TypeId}{p:Addr}(hp:S p.block){w0:World}{K:Value->Prop}(h:uu P t p w0 fun v _=>K v):∃ v,(∀ w,Kept S w0 w->(loadVar t p).run P w=.ok v w)/\K v:=by
 unfold uu at h;split at h
 case h_1 fs i hu hi=>
  split at h
  case h_1 cs hz=>
   split at h
   case h_1 hb=>
    obtain⟨x,hx,hK⟩:=h.out;refine⟨_,fun w hw=>?_,hK⟩;have hs:=Nat.eq_of_beq_eq_true hb;simp only[loadVar,Sem.run_bind,uz hu,rI,Result.andThen_ok,if_true,ko hi];rw[hs,<- Cs.Ek _ x,uA _ (EC hw hp _ _ hx)];rfl
   case h_2=>cases h
  case h_2=>cases h
 case h_2 hu hi=>
  obtain⟨x,hn,hx,hK⟩:=h.out;refine⟨_,fun w hw=>?_,hK⟩;simp only[loadVar,Sem.run_bind,uz hu,rI,Result.andThen_ok,if_true,ko hi];rw[<- hn,uA _ (EC hw hp _ _ hx)];rfl
 case h_3 d i hs ha hu hi=>
  split at h
  case h_1 c hk=>
   obtain⟨x,hx,hK⟩:=h.out;refine⟨_,fun w hw=>?_,hK⟩;have hf:rI d=false:=by
    cases d<;>first | rfl | exact(hs _ rfl).elim | exact(ha _ _ rfl).elim
   simp only[loadVar,Sem.run_bind,uz hu,hf,Result.andThen_ok,Bool.false_eq_true,if_false];exact Ej (hw _ _ hp hx)
  case h_2=>cases h
 case h_4=>cases h
theorem RG {n:Nat}{o:Oper}{e:Env}{a:Act}{S:Nat->Prop}{w0:World}{K:Value->Prop}(hr:dn n e a)(h:Ef P o e S w0 K):
  ∃ v,(∀ w,(Bt o.op=true->Kept S w0 w)->(execOp a.eval o).run P w=.ok (.value v) w)/\K v:=by
 rw[hr.eval];unfold Ef at h;split at h
 case h_1 t x ho=>
  split at h
  case h_1 q ea=>
   obtain⟨p,rfl,h⟩:=rK h;obtain⟨v,hv,hK⟩:=RF h.out.1 h.out.2;refine⟨v,fun w hw=>?_,hK⟩;simp only[execOp,ho,ea,Instr.loadAt,Instr.sureAddr,Sem.run_bind,Sem.run_pure,Result.andThen_ok,hv w (hw (by rw[ho];rfl))]
  case h_2=>cases h
 case h_2=>
  split at h
  case h_1 hp=>
   obtain⟨v,hv,hK⟩:=Km hp h;exact⟨v,fun w _=>hv w,hK⟩
  case h_2=>cases h
theorem Yields.mono {s:Sem Next}{w:World}{K K':Value->World->Prop}(h:Yields P s w K)(hk:∀ v w',K v w'->K' v w'):Yields P s w K':=by
 rcases h with⟨v,w',a,b⟩ | ⟨w',a,b⟩ | ⟨f,args,a,b⟩
 ·exact .inl ⟨v,w',a,hk _ _ b⟩
 ·exact .inr (.inl ⟨w',a,hk _ _ b⟩)
 ·exact .inr (.inr ⟨f,args,a,Calls.mono b fun e w' ⟨v,he,hv⟩=>⟨v,he,hk _ _ hv⟩⟩)
theorem Kept.refl (S:Nat->Prop)(w:World):Kept S w w:=fun _ _ _ h=>h
theorem Kept.trans {S:Nat->Prop}{a b c:World}(h:Kept S a b)(k:Kept S b c):Kept S a c:=fun x v hs hx=>k x v hs (h x v hs hx)
def qK (P:Program)(ops:Array Oper)(o:Oper)(a:Act)(w:World)(Φ:Value->World->Prop):Prop:=
 (Region.wanted o (Go.yielded ops a.tmps)=true/\Yields P (execOp a.eval o) w Φ)\/(Region.wanted o (Go.yielded ops a.tmps)=false/\Φ undef w)
theorem qK.mono {o:Oper}{a:Act}{w:World}{Φ Ψ:Value->World->Prop}(h:qK P ops o a w Φ)(k:∀ v w',Φ v w'->Ψ v w'):qK P ops o a w Ψ:=by
 rcases h with⟨a,b⟩ | ⟨a,b⟩
 ·exact .inl ⟨a,b.mono k⟩
 ·exact .inr ⟨a,k _ _ b⟩
def oR (P:Program)(ops:Array Oper)(S:Nat->Prop)(Q:Act->World->Prop):Nat->Array Bool->Act->World->Prop
 | 0,aH,a,w=>Region.ready .any ops aH=[]/\Q a w
 | f+1,aH,a,w=>Region.ready .any ops aH≠[]/\∀ i∈Region.ready .any ops aH,∃ o,ops[i]? = some o /\
   qK P ops o a w fun v w'=>(sX ops i=true->Kept S w w')/\oR P ops S Q f (aH.setIfInBounds i true) (a.put o.dst v) w'
theorem yH {S:Nat->Prop}{Q:Act->World->Prop}{Q':Exit->Act->World->Prop}(hQ:∀ a w,Q a w->Q' .normal a w):∀ (f:Nat) (aH:Array Bool) (a:Act) (w:World),oR P ops S Q f aH a w->wpAny P .any ops Q' f aH a w
 | 0,aH,a,w,h=>⟨h.1,hQ _ _ h.2⟩
 | f+1,aH,a,w,h=>by
  refine⟨fun h0=>absurd h0 h.1,fun i hi=>?_⟩;obtain⟨o,ho,hy⟩:=h.2 i hi;unfold wpOp;simp only[ho]
  rcases hy with⟨hw,hy⟩ | ⟨hw,hy⟩
  ·rw[if_pos hw]
   refine .inl ?_;unfold Oper.wp
   rcases hy with⟨u,w',iv,_,hn⟩ | ⟨w',iv,_,hn⟩ | ⟨g,args,iv,Ev⟩
   ·rw[iv];exact yH hQ f _ _ _ hn
   ·rw[iv];exact yH hQ f _ _ _ hn
   ·rw[iv]
    exact Calls.mono Ev fun e w' ⟨u,he,_,hn⟩=>by subst he;exact yH hQ f _ _ _ hn
  ·rw[if_neg (by rw[hw];simp)]
   exact yH hQ f _ _ _ hy.2
theorem wA {S:Nat->Prop}{Q Q':Act->World->Prop}(hQ:∀ a w,Q a w->Q' a w):∀ (f:Nat) (aH:Array Bool) (a:Act) (w:World),oR P ops S Q f aH a w->oR P ops S Q' f aH a w
 | 0,_,_,_,h=>⟨h.1,hQ _ _ h.2⟩
 | f+1,_,_,_,h=>⟨h.1,fun i hi=>let ⟨o,h1,h3⟩:=h.2 i hi;⟨o,h1,h3.mono fun _ _ ⟨hk,hn⟩=>⟨hk,wA hQ f _ _ _ hn⟩⟩⟩
def BG (P:Program)(ops:Array Oper)(S:Nat->Prop)(o:Oper)(v:Value)(a:Act)(w:World):Prop:=
 (Region.wanted o (Go.yielded ops a.tmps)=true/\∀ W,(Bt o.op=true->Kept S w W)->(execOp a.eval o).run P W=.ok (.value v) W)\/(Region.wanted o (Go.yielded ops a.tmps)=false/\v=undef)
theorem BG.step {S:Nat->Prop}{o:Oper}{v:Value}{a:Act}{w:World}(h:BG P ops S o v a w){Φ:Value->World->Prop}(k:Φ v w):qK P ops o a w Φ:=by
 rcases h with⟨h1,h2⟩ | ⟨h1,rfl⟩
 ·exact .inl ⟨h1,.inl ⟨v,w,h2 w (fun _=>Kept.refl S w),k⟩⟩
 ·exact .inr ⟨h1,k⟩
theorem RH {i s:Nat}{o:Oper}(ho:ops[s]? = some o)(hl:Bt o.op=true)(hn:s ∉ qF ops ops.size i):sX ops i=true:=by
 unfold sX;refine List.any_eq_true.2 ⟨s,List.mem_range.2 (Array.getElem?_eq_some_iff.1 ho).1,?_⟩;rw[ho];have:mem (qF ops ops.size i) s=false:=by
  cases hm:mem (qF ops ops.size i) s with
  | false=>rfl
  | true=>exact absurd ((mem_iff _ _).1 hm) hn
 simp[hl,this]
theorem Kx {S:Nat->Prop}{Q:Act->World->Prop}{i:Nat}{oi:Oper}{v:Value}(hi:ops[i]? = some oi)(pL:∀ (j:Nat) (o:Oper) cs b,ops[j]? = some o->o.op≠.select cs b):
  ∀ (f:Nat) (aH:Array Bool) (a:Act) (w:World),oQ ops aH ->
   (∀ j oj,ops[j]? = some oj->j≠i->aH.getD j true=false->(∀ e∈oj.after,Region.binds .any e=true->e.on≠i)->oi.apart ops oj=true) ->
   i∈Region.ready .any ops aH->BG P ops S oi v a w->oR P ops S Q f (aH.setIfInBounds i true) (a.put oi.dst v) w->oR P ops S Q (f+1) aH a w:=by
 intro f
 induction f with
 | zero=>
  intro aH a w _ _ hr hy H;refine⟨fun h=>(by rw[h] at hr;cases hr),fun j hj=>?_⟩
  by_cases jt:j=i
  ·subst jt;exact⟨oi,hi,hy.step ⟨fun _=>Kept.refl S w,H⟩⟩
  ·have:=ready_mono hj jt
   rw[H.1] at this;cases this
 | succ f ih=>
  intro aH a w eH yD hr hy H;refine⟨fun h=>(by rw[h] at hr;cases hr),fun j hj=>?_⟩
  by_cases jt:j=i
  ·subst jt;exact⟨oi,hi,hy.step ⟨fun _=>Kept.refl S w,H⟩⟩
  ·obtain⟨oj,rM,yE⟩:=H.2 j (ready_mono hj jt)
   obtain⟨yF,ju,BF,hall⟩:=mem_ready.1 hj;have:ju=oj:=Option.some.inj (BF.symm.trans rM);subst this;have qJ:∀ b:Bool,aH.getD i false=b->b=false:=fun b hb=>by
    have h0:=(mem_ready.1 hr).1
    rcases Nat.lt_or_ge i aH.size with h' | h'
    ·simp[h'] at h0 hb;rw[h0] at hb;exact hb.symm
    ·simp[Array.getElem?_eq_none h'] at hb;exact hb
   have Ew:∀ e∈ju.after,Region.binds .any e=true->e.on≠i:=fun e he hb heq=>by
    have h1:=hall e he hb;rw[heq] at h1;exact absurd (qJ _ h1) (by decide)
   have RI:i ∉ qF ops ops.size j:=fun hm=>by
    have h1:=Ey eH ops.size j (fun o ho e he hb=>by
     have:o=ju:=Option.some.inj (ho.symm.trans BF);subst this;exact hall e he hb) i hm
    exact absurd (qJ _ h1) (by decide)
   have Ex:=yD j ju rM jt yF Ew;obtain⟨h1,h2,h3⟩:=Oper.apart_spec Ex;unfold qK at yE;rw[execOp_put ju (fun cs b=>pL j ju cs b rM) a oi.dst v h1,wanted_put ju a oi.dst v h1] at yE;refine⟨ju,rM,qK.mono yE fun u w' ⟨yB,hn⟩=>⟨yB,?_⟩⟩;refine ih (aH.setIfInBounds j true) (a.put ju.dst u) w' (eH.set hj) (fun k ok hk wv qJ hZ=>?_) (ready_mono hr (Ne.symm jt)) ?_ ?_
   ·refine yD k ok hk wv ?_ hZ
    by_cases td:j=k
    ·subst td;exact yF
    ·rw[getD_set_ne true td] at qJ;exact qJ
   ·unfold BG
    rw[execOp_put oi (fun cs b=>pL i oi cs b hi) a ju.dst u h3,wanted_put oi a ju.dst u h3]
    rcases hy with⟨y1,y2⟩ | y
    ·exact .inl ⟨y1,fun W hW=>y2 W fun hl=>(yB (RH hi hl RI)).trans (hW hl)⟩
    ·exact .inr y
   ·rw[Array.setIfInBounds_comm _ _ jt,<- Act.put_comm a v u h2]
    exact hn
def HQ (n:Nat)(ops:Array Oper)(e:Env)(K:Env->World->Prop):Act->World->Prop:=fun a' w'=>∃ e',dn n e' a'/\K e' w'/\∀ t,t ∉ oP ops.toList->e'.get t=e.get t
theorem HQ.put {n:Nat}{ops:Array Oper}{e:Env}{K:Env->World->Prop}{i:Nat}{o:Oper}(ho:ops[i]? = some o)(v:Value){a:Act}{w:World}(h:HQ n ops (e.put o.dst v) K a w):HQ n ops e K a w:=by
 obtain⟨e2,q1,q2,q3⟩:=h;refine⟨e2,q1,q2,fun t ht=>?_⟩;rw[q3 t ht,BE _ _ _ (fun hm=>ht (by
  unfold oP;refine List.mem_filterMap.2 ⟨o,?_,by simpa using hm⟩;exact Array.mem_toList_iff.2 (Array.mem_of_getElem? ho)))]
theorem HQ.same {n:Nat}{ops:Array Oper}{e e1:Env}{K:Env->World->Prop}(he:∀ t,e1.get t=e.get t){a:Act}{w:World}(h:HQ n ops e1 K a w):HQ n ops e K a w:=by
 obtain⟨e2,q1,q2,q3⟩:=h;exact⟨e2,q1,q2,fun t ht=>by rw[q3 t ht,he t]⟩
theorem ED {n:Nat}{o:Oper}{e:Env}{a:Act}{D K:Env->Prop}(hr:dn n e a)(h:ux ops o e D K):
  (Region.wanted o (Go.yielded ops a.tmps)=true/\∃ e1,dn n e1 a/\(∀ t,e1.get t=e.get t)/\D e1) \/
  (Region.wanted o (Go.yielded ops a.tmps)=false/\∃ e1,dn n e1 a/\(∀ t,e1.get t=e.get t)/\K e1):=by
 unfold ux at h;split at h
 case h_1 hg=>exact .inl ⟨by simp[Region.wanted,hg],e,hr,fun _=>rfl,h⟩
 case h_2 j want hg=>
  have hy:=hr.yielded ops j;split at h
  case h_1=>cases h
  case h_2 d hd=>
   rw[hd] at hy;dsimp only at hy;split at h
   case h_1 b hb=>
    rw[hb] at hy;dsimp only at hy;split at h
    case h_1=>
     cases b with
     | true=>exact .inl ⟨by simp[Region.wanted,hg,hy],_,hr.lit hb,oO hb,h⟩
     | false=>exact .inr ⟨by simp[Region.wanted,hg,hy],_,hr.lit hb,oO hb,h⟩
    case h_2=>
     cases b with
     | true=>exact .inr ⟨by simp[Region.wanted,hg,hy],_,hr.lit hb,oO hb,h⟩
     | false=>exact .inl ⟨by simp[Region.wanted,hg,hy],_,hr.lit hb,oO hb,h⟩
   case h_2 c hc=>
    rw[hc] at hy;dsimp only at hy;exact .inr ⟨by simp[Region.wanted,hg,hy],e,hr,fun _=>rfl,h⟩
   case h_3=>cases h
theorem RJ {n:Nat}{S:Nat->Prop}{K:Env->World->Prop}(pL:Region.noSelect ops=true):∀ (h:Hp),
  (∀ (k:Nat) (aH:Array Bool) (e:Env) (a:Act) (w:World),oQ ops aH->dn n e a->iW P n ops S h k [] aH e w K->oR P ops S (HQ n ops e K) k aH a w) /\
  ∀ (i:Nat) (h1 m:Hp),h=.pick i h1 m->∀ (k:Nat) (seen:List Nat) (aH:Array Bool) (e:Env) (a:Act) (w:World),oQ ops aH->dn n e a->iW P n ops S h k seen aH e w K ->
   ∃ k',k=k'+1/\Region.ready .any ops aH≠[]/\∀ j∈Region.ready .any ops aH,j ∉ seen->∃ o,ops[j]? = some o /\
    qK P ops o a w fun v w'=>(sX ops j=true->Kept S w w')/\oR P ops S (HQ n ops e K) k' (aH.setIfInBounds j true) (a.put o.dst v) w':=by
 intro h
 induction h with
 | done=>
  refine⟨fun k aH e a w eH hr h=>?_,fun i h1 m he=>by cases he⟩;unfold iW at h;split at h
  case h_1 hb=>
   simp only[Bool.and_eq_true] at hb;have jv:=Nat.eq_of_beq_eq_true hb.1;subst jv;exact⟨by simpa using hb.2,e,hr,h,fun _ _=>rfl⟩
  case h_2=>cases h
 | stop=>exact⟨fun k aH e a w eH hr h=>(by unfold iW at h;cases h),fun i h1 m he=>by cases he⟩
 | last i h' ih=>
  refine⟨fun k aH e a w eH hr h=>?_,fun i h1 m he=>by cases he⟩;unfold iW at h;split at h
  case h_1 k o ho=>
   split at h
   case h_1 hb=>
    simp only[Bool.and_eq_true,List.all_eq_true,Bool.not_eq_true'] at hb;obtain⟨⟨⟨hd,hc⟩,hall⟩,BI⟩:=hb;have mr:i∈Region.ready .any ops aH:=by simpa using hc
    refine⟨fun h0=>(by rw[h0] at mr;cases mr),fun j hj=>?_⟩;have hm:=(mem_iff _ _).1 (hall j hj);have:j=i:=by simpa using hm
    subst this;refine⟨o,ho,?_⟩;have RL:sX ops j=true->∀ {w w':World},Kept S w w':=fun t=>by rw[BI] at t;cases t
    rcases ED hr h with⟨hw,e1,ef,nX,h⟩ | ⟨hw,e1,ef,nX,h⟩
    ·refine .inl ⟨hw,?_⟩
     rw[ef.eval];exact(BD h).mono fun v w' hh=>⟨fun t=>RL t,wA (fun a w h=>HQ.same nX (HQ.put ho v h)) _ _ _ _ (ih.1 k _ _ _ w' (eH.set mr) (ef.put o.dst hd v) hh)⟩
    ·exact .inr ⟨hw,fun _=>Kept.refl S w,wA (fun a w h=>HQ.same nX (HQ.put ho undef h)) _ _ _ _ (ih.1 k _ _ _ w (eH.set mr) (ef.put o.dst hd undef) h)⟩
   case h_2=>cases h
  case h_2=>cases h
 | soft i h' ih=>
  refine⟨fun k aH e a w eH hr h=>?_,fun i h1 m he=>by cases he⟩;unfold iW at h;split at h
  case h_1 k o ho=>
   split at h
   case h_1=>cases h
   case h_2 hb=>
    simp only[Bool.and_eq_true] at hb;obtain⟨⟨hd,hc⟩,hf⟩:=hb;have mono:∀ {e1:Env} (v:Value),(∀ t,e1.get t=e.get t)->∀ (k:Nat) (aH:Array Bool) (a:Act) (w:World),oR P ops S (HQ n ops (e1.put o.dst v) K) k aH a w->oR P ops S (HQ n ops e K) k aH a w:=fun v he k aH a w=>
     wA (fun a w h=>HQ.same he (HQ.put ho v h)) _ _ _ _
    rcases ED hr h with⟨hw,e1,ef,nX,h⟩ | ⟨hw,e1,ef,nX,h⟩
    ·obtain⟨v,hv,hn⟩:=RG ef h
     exact Kx ho (Region.noSelect_spec pL) k aH a w eH (Region.free_spec ho hf) (by simpa using hc) (.inl ⟨hw,hv⟩)
      (mono v nX _ _ _ _ (ih.1 k _ _ _ w (eH.set (by simpa using hc)) (ef.put o.dst hd v) hn))
    ·exact Kx ho (Region.noSelect_spec pL) k aH a w eH (Region.free_spec ho hf) (by simpa using hc) (.inr ⟨hw,rfl⟩)
      (mono undef nX _ _ _ _ (ih.1 k _ _ _ w (eH.set (by simpa using hc)) (ef.put o.dst hd undef) h))
  case h_2=>cases h
 | pick i h' m ih RM=>
  have P2:∀ (k:Nat) (seen:List Nat) (aH:Array Bool) (e:Env) (a:Act) (w:World),oQ ops aH->dn n e a->iW P n ops S (.pick i h' m) k seen aH e w K ->
    ∃ k',k=k'+1/\Region.ready .any ops aH≠[]/\∀ j∈Region.ready .any ops aH,j ∉ seen->∃ o,ops[j]? = some o /\
     qK P ops o a w fun v w'=>(sX ops j=true->Kept S w w')/\oR P ops S (HQ n ops e K) k' (aH.setIfInBounds j true) (a.put o.dst v) w':=by
   intro k seen aH e a w eH hr h;have one:i∈Region.ready .any ops aH->∀ (k:Nat) (o:Oper),ops[i]? = some o->lO n o.dst=true->(ux ops o e (fun e=>gZ P o e w fun v w'=>ai S w w' (iW P n ops S h' k [] (aH.setIfInBounds i true) (e.put o.dst v) w' K))
     (fun e=>iW P n ops S h' k [] (aH.setIfInBounds i true) (e.put o.dst undef) w K)) ->
     qK P ops o a w fun v w'=>(sX ops i=true->Kept S w w')/\oR P ops S (HQ n ops e K) k (aH.setIfInBounds i true) (a.put o.dst v) w':=fun mr k o ho hd h=>by
    rcases ED hr h with⟨hw,e1,ef,nX,h⟩ | ⟨hw,e1,ef,nX,h⟩
    ·refine .inl ⟨hw,?_⟩
     rw[ef.eval];exact(BD h).mono fun v w' hh=>⟨fun _=>hh.out.1,wA (fun a w h=>HQ.same nX (HQ.put ho v h)) _ _ _ _ (ih.1 k _ _ _ w' (eH.set mr) (ef.put o.dst hd v) hh.out.2)⟩
    ·exact .inr ⟨hw,fun _=>Kept.refl S w,wA (fun a w h=>HQ.same nX (HQ.put ho undef h)) _ _ _ _ (ih.1 k _ _ _ w (eH.set mr) (ef.put o.dst hd undef) h)⟩
   cases m with
   | stop=>
    unfold iW at h;split at h
    case h_1 k o ho=>
     split at h
     case h_1 hb=>
      simp only[Bool.and_eq_true,List.all_eq_true] at hb;obtain⟨⟨hd,hc⟩,hall⟩:=hb;have mr:i∈Region.ready .any ops aH:=by simpa using hc
      refine⟨k,rfl,fun h0=>(by rw[h0] at mr;cases mr),fun j hj wC=>?_⟩;have hm:=(mem_iff _ _).1 (hall j hj)
      rcases List.mem_cons.1 hm with rfl | hm
      ·exact⟨o,ho,one mr k o ho hd h⟩
      ·exact absurd hm wC
     case h_2=>cases h
    case h_2=>cases h
   | pick i2 h2 m2=>
    unfold iW at h;split at h
    case h_1 k o ho=>
     split at h
     case h_1=>cases h
     case h_2 hb=>
      obtain⟨k',yB,ay,hall⟩:=RM.2 i2 h2 m2 rfl (k+1) (i::seen) aH e a w eH hr h.out.2;have:k'=k:=by omega
      subst this;refine⟨k',rfl,ay,fun j hj wC=>?_⟩
      by_cases jt:j=i
      ·subst jt;exact⟨o,ho,one hj k' o ho hb h.out.1⟩
      ·exact hall j hj (by simp[jt,wC])
    case h_2=>cases h
   | done=>unfold iW at h;cases h
   | soft i2 h2=>unfold iW at h;cases h
   | last i2 h2=>unfold iW at h;cases h
  refine⟨fun k aH e a w eH hr h=>?_,fun i1 h1 m1 he=>?_⟩
  ·obtain⟨k',rfl,ay,hall⟩:=P2 k [] aH e a w eH hr h
   exact⟨ay,fun j hj=>hall j hj (by simp)⟩
  ·cases he
   exact P2
end anyorder
theorem RN (ds:List Nat)(l:List (Nat×Value))(t:Nat):look (nV ds l) t=if t∈ds then none else look l t:=by
 induction l with
 | nil=>simp[nV,look]
 | cons x l ih=>
  obtain⟨u,v⟩:=x;unfold nV;cases hm:mem ds u with
  | true=>
   simp only[];rw[ih,vZ]
   by_cases h:t∈ds
   ·simp[h]
   ·have ay:t≠u:=fun e=>h (e ▸ (mem_iff ds u).1 hm)
    simp[h,ay]
  | false=>
   simp only[];rw[vZ,vZ,ih]
   by_cases h:t=u
   ·have ay:t ∉ ds:=fun hh=>by rw[h,<- mem_iff,hm] at hh;cases hh
    subst h;simp[ay]
   ·simp[h]
theorem Ky {n:Nat}{e:Env}{a:Act}{ds:List Nat}(hsz:a.tmps.size=n)(EE:a.defers=[])(RO:∀ t,t ∉ ds->a.tmps.getD t undef=e.get t):
  ∀ (ks:List (Nat×Kd)) (s:St (ks.map (·.2))),ks.map (fun x=>a.tmps.getD x.1 undef)=St.vals (ks.map (·.2)) s ->
   dn n ⟨sY ks s (nV ds e.l),fun t=>a.tmps.getD t undef⟩ a:=by
 intro ks s hs;refine⟨hsz,EE,fun t=>?_⟩;have key:∀ (ks:List (Nat×Kd)) (s:St (ks.map (·.2))),ks.map (fun x=>a.tmps.getD x.1 undef)=St.vals (ks.map (·.2)) s ->
   a.tmps.getD t undef=Env.get ⟨sY ks s (nV ds e.l),fun t=>a.tmps.getD t undef⟩ t:=by
  intro ks
  induction ks with
  | nil=>
   intro s _;show _=(match look (nV ds e.l) t with | some v=>v | none=>a.tmps.getD t undef)
   rw[RN]
   by_cases h:t∈ds
   ·simp[h]
   ·simp only[h,if_false]
    have hk:=RO t h;unfold Env.get at hk;cases hl:look e.l t with
    | none=>simp
    | some v=>rw[hl] at hk;simp[hk]
  | cons x ks ih=>
   obtain⟨u,k⟩:=x;intro s hs;have yI:a.tmps.getD u undef::ks.map (fun x=>a.tmps.getD x.1 undef)=k.val s.1::St.vals (ks.map (·.2)) s.2:=hs;injection yI with kq gw
   have hi:=ih s.2 gw;show _=(match look ((u,k.val s.1)::sY ks s.2 (nV ds e.l)) t with | some v=>v | none=>a.tmps.getD t undef)
   rw[vZ]
   by_cases h:t=u
   ·subst h;simp only[if_true];exact kq
   ·simp only[h,if_false];exact hi
 exact key ks s hs
theorem EF {n:Nat}{e:Env}{a:Act}(hr:dn n e a)(ks:List (Nat×Kd)):ks.map (fun x=>a.tmps.getD x.1 undef)=yy e ks:=by
 unfold yy;exact List.map_congr_left fun x _=>hr.get x.1
theorem RP {n:Nat}(hm:P.follows .mixedOrders=true):∀ (c:Code) (p:aB) (e:Env) (a:Act) (w:World) (Q:Exit->Env->World->Prop),dn n e a->iG P n c p e w Q ->
  c.wp P (fun x a' w'=>∃ e',dn n e' a'/\Q x e' w'/\∀ t,t ∉ iF c->e'.get t=e.get t) a w:=by
 intro c
 induction c with
 | skip=>intro p e a w Q hr h;exact wp_skip ⟨e,hr,h,fun _ _=>rfl⟩
 | exit id=>intro p e a w Q hr h;exact wp_exit ⟨e,hr,h,fun _ _=>rfl⟩
 | ret=>intro p e a w Q hr h;exact wp_ret ⟨e,hr,h,fun _ _=>rfl⟩
 | region id ops draw=>
  intro p e a w Q hr h;unfold iG at h;split at h
  case h_1=>
   refine wp_region ?_;have hl:=wpOps_eq_wpList (P:=P) (ops:=ops) (Q:=fun x a' w'=>∃ e',dn n e' a'/\Q x e' w'/\∀ t,t ∉ iF (.region id ops false)->e'.get t=e.get t) ops.toList 0 (by simp);rw[show List.range ops.size=List.range' 0 ops.toList.length by simp[List.range_eq_range']];rw[hl];exact Es ops.toList e a w (Q .normal) hr h fun e' a' w' h1 h2 h3=>⟨e',h1,h3,h2⟩
  case h_2=>
   split at h
   case h_1=>
    split at h
    case h_1 hb=>
     simp only[Bool.and_eq_true] at hb;refine wp_region_still hm hb.1 ?_;refine Et [] ops.toList e a _ (Q .normal) hb.2 ⟨hr.size,hr.defers,hr.get⟩ (by simpa using h.out) fun e' a' h1 h2 h3=>⟨e',h1,h3,h2⟩
    case h_2=>cases h
   case h_2 k=>
    split at h
    case h_1 hb=>
     simp only[Bool.and_eq_true] at hb;have hw:=wp_region_still_tail (P:=P) (id:=id) (Q:=fun x a' w'=>∃ e',dn n e' a'/\Q x e' w'/\∀ t,t ∉ iF (.region id ops true)->e'.get t=e.get t) (a:=a) (w:=w) (l:=ops.toList) k hm (by simpa using hb.1);have e1:ops.toList.toArray=ops:=by simp
     rw[e1] at hw;refine hw ?_;refine Et (ops.toList.drop k) (ops.toList.take k) e a _ (Q .normal) hb.2 hr (by rw[List.take_append_drop];exact h.out) fun e' a' h1 h2 h3=>?_;refine Es _ e' a' _ (Q .normal) h1 h3 fun e2 a2 w2 k1 k2 k3=>⟨e2,k1,k3,fun t ht=>?_⟩;have mr:∀ l:List Oper,(∀ o∈l,o∈ops.toList)->t ∉ oP l:=fun l hl tg=>ht (by
      unfold oP at tg;obtain⟨o,ho,hd⟩:=List.mem_filterMap.1 tg;exact List.mem_filterMap.2 ⟨o,hl o ho,hd⟩)
     rw[k2 t (mr _ fun o ho=>List.mem_of_mem_drop ho),h2 t (mr _ fun o ho=>List.mem_of_mem_take ho)]
    case h_2=>cases h
   case h_3 loud=>
    split at h
    case h_1 hb=>
     simp only[Region.lexB,Bool.and_eq_true] at hb;obtain⟨hb,lA⟩:=hb;obtain⟨C,hC,h⟩:=h.out;have hL:=Kv hb.1 ops.toList 0 (Array.replicate ops.size false) e a (by simp) (by simp) (fun j hj=>by omega) (by simpa using hb.2) hr h;have Kz:∀ j,(Array.replicate ops.size false).getD j false=false:=fun j=>by
      rcases Nat.lt_or_ge j ops.size with h | h<;>simp[h]
     have eH:oQ ops (Array.replicate ops.size false):=⟨by simp,fun j oj _ hl=>by rw[Kz] at hl;cases hl⟩;have RQ:mask loud (Array.replicate ops.size false)=fun _=>false:=by
      funext j
      unfold mask;rw[Kz,Bool.and_false]
     refine wp_region_any hm ?_;refine(Kp (CL:=fun l w=>C (mask loud l) w) ?_ ops.size _ a _ eH (by rw[RQ];exact hC) (by rw[show ops.size=ops.toList.length by simp];exact hL));rintro te a' w' ⟨tf,e',q1,q2,q3⟩ rL;refine⟨e',q1,q2 w' ?_,q3⟩;have:mask loud te=mem (loud.map (·.1)):=by
      funext j
      unfold mask
      rcases Nat.lt_or_ge j ops.size with hj | hj
      ·rw[tf j hj,Bool.and_true]
      ·cases RR:mem (loud.map (·.1)) j with
       | false=>rfl
       | true=>
        have:=List.all_eq_true.1 lA j ((mem_iff _ _).1 RR);simp[Nat.blt] at this;omega
     rw[<- this];exact rL
    case h_2=>cases h
   case h_4 hp=>
    split at h
    case h_1 hb=>
     refine wp_region_any hm ?_;obtain⟨S,h⟩:=h.out.out;have hK:=(RJ hb hp).1 ops.size (Array.replicate ops.size false) e a _ ⟨by simp,fun j oj hj hl e he hb=>by simp[Array.getD_eq_getD_getElem?,Array.getElem?_replicate] at hl;split at hl<;>simp at hl⟩ hr h
     exact yH (fun a' w' ⟨e',q1,q2,q3⟩=>⟨e',q1,q2,q3⟩) _ _ _ _ hK
    case h_2=>cases h
   case h_5=>cases h
 | seq x y BJ BK=>
  intro p e a w Q hr h;have plain:∀ px py,iG P n x px e w (yx (fun e w=>iG P n y py e w Q) Q)->(Code.seq x y).wp P (fun x' a' w'=>∃ e',dn n e' a'/\Q x' e' w'/\∀ t,t ∉ iF (.seq x y)->e'.get t=e.get t) a w:=fun px py h=>by
   refine wp_seq (wp_mono (BJ px e a w _ hr h) ?_);rintro ex a' w' ⟨e',lQ,hq,hk⟩;cases ex with
   | normal=>
    refine wp_mono (BK py e' a' w' Q lQ hq) ?_;rintro KA a2 w2 ⟨e2,gq,oS,fG⟩;exact⟨e2,gq,oS,fun t ht=>by simp only[iF,List.mem_append,not_or] at ht;rw[fG t ht.2,hk t ht.1]⟩
   | exit i=>exact⟨e',lQ,hq,fun t ht=>by simp only[iF,List.mem_append,not_or] at ht;exact hk t ht.1⟩
   | ret=>exact⟨e',lQ,hq,fun t ht=>by simp only[iF,List.mem_append,not_or] at ht;exact hk t ht.1⟩
   | goto l=>exact hq.elim
   | panic l=>exact hq.elim
   | outgrown=>exact hq.elim
  unfold iG at h;split at h
  case h_1 px py=>exact plain px py h
  case h_2 ks px py=>
   obtain⟨J,h1,h2⟩:=h.out;refine wp_seq (wp_mono (BJ px e a w _ hr h1) ?_);rintro ex a' w' ⟨e',lQ,hq,hk⟩;cases ex with
   | normal=>
    obtain⟨s,hs,hJ⟩:=St.kN hq;have yJ:dn n ⟨sY ks s (nV (iF x) e.l),fun t=>a'.tmps.getD t undef⟩ a':=
     Ky lQ.size lQ.defers (fun t ht=>by rw[lQ.get,hk t ht]) ks s (by rw[EF lQ,hs])
    refine wp_mono (BK py _ a' w' Q yJ (h2 _ s w' hJ)) ?_;rintro KA a2 w2 ⟨e2,gq,oS,fG⟩;refine⟨e2,gq,oS,fun t ht=>?_⟩;simp only[iF,List.mem_append,not_or] at ht;rw[fG t ht.2,<- yJ.get,lQ.get,hk t ht.1]
   | exit i=>exact⟨e',lQ,hq,fun t ht=>by simp only[iF,List.mem_append,not_or] at ht;exact hk t ht.1⟩
   | ret=>exact⟨e',lQ,hq,fun t ht=>by simp only[iF,List.mem_append,not_or] at ht;exact hk t ht.1⟩
   | goto l=>exact hq.elim
   | panic l=>exact hq.elim
   | outgrown=>exact hq.elim
  case h_3=>exact plain .auto .auto h
 | cond c x y BJ BK=>
  intro p e a w Q hr h;unfold iG at h;split at h
  case h_1 t hc=>
   have qL:a.eval c=.bool t:=by rw[hr.eval];exact hc
   have go:∀ px py,aa t (iG P n x px e w Q) (iG P n y py e w Q)->(Code.cond c x y).wp P (fun x' a' w'=>∃ e',dn n e' a'/\Q x' e' w'/\∀ t,t ∉ iF (.cond c x y)->e'.get t=e.get t) a w:=fun px py h=>by
    obtain⟨h1,h2⟩:=yz h;refine wp_cond_split qL (fun ht=>wp_mono (BJ px e a w Q hr (h1 ht)) ?_) (fun ht=>wp_mono (BK py e a w Q hr (h2 ht)) ?_)
    all_goals
     rintro KA a2 w2 ⟨e2,gq,oS,fG⟩;exact⟨e2,gq,oS,fun t ht=>by simp only[iF,List.mem_append,not_or] at ht;first | exact fG t ht.1 | exact fG t ht.2⟩
   split at h
   ·exact go _ _ h
   ·exact go _ _ h
  case h_2=>cases h
 | block id c ih=>
  intro p e a w Q hr h;have go:∀ p,iG P n c p e w (Bw id Q)->(Code.block id c).wp P (fun x' a' w'=>∃ e',dn n e' a'/\Q x' e' w'/\∀ t,t ∉ iF (.block id c)->e'.get t=e.get t) a w:=fun p h=>by
   refine wp_block (wp_mono (ih p e a w _ hr h) ?_);rintro ex a' w' ⟨e',lQ,hq,hk⟩;cases ex with
   | normal=>exact⟨e',lQ,hq,hk⟩
   | exit i=>
    unfold Bw at hq
    by_cases hi:i=id
    ·subst hi;simp only[Exit.inBlock,if_true];simp at hq;exact⟨e',lQ,hq,hk⟩
    ·have hb:Nat.beq i id=false:=by
      cases hb:Nat.beq i id with
      | false=>rfl
      | true=>exact absurd (Nat.eq_of_beq_eq_true hb) hi
     simp only[hb] at hq;simp only[Exit.inBlock,hi,if_false];exact⟨e',lQ,hq,hk⟩
   | ret=>exact⟨e',lQ,hq,hk⟩
   | goto l=>exact hq.elim
   | panic l=>exact hq.elim
   | outgrown=>exact hq.elim
  unfold iG at h;split at h
  ·exact go _ h
  ·exact go _ h
 | loop c ih=>
  intro p e a w Q hr h;unfold iG at h;split at h
  case h_1 ks p=>
   obtain⟨s0,qM,h⟩:=St.kN h;obtain⟨I,μ,hI,RT⟩:=h.out;refine wp_loop (fun a' w'=>∃ s,I s w'/\a'.tmps.size=n/\a'.defers=[]/\(∀ t,t ∉ iF c->a'.tmps.getD t undef=e.get t)/\ks.map (fun x=>a'.tmps.getD x.1 undef)=St.vals (ks.map (·.2)) s)
    (fun a' w'=>@dite _ (∃ s:St (ks.map (·.2)),ks.map (fun x=>a'.tmps.getD x.1 undef)=St.vals (ks.map (·.2)) s) (Classical.propDecidable _) (fun h=>μ h.choose w') (fun _=>0))
    ⟨s0,hI,hr.size,hr.defers,fun t _=>hr.get t,by rw[EF hr,qM]⟩ ?_
   rintro a' w' ⟨s,RU,hsz,EE,BM,hv⟩;have yJ:dn n ⟨sY ks s (nV (iF c) e.l),fun t=>a'.tmps.getD t undef⟩ a':=Ky hsz EE BM ks s hv;refine wp_mono (ih p _ a' w' _ yJ (RT _ s w' RU)) ?_;rintro ex a2 w2 ⟨e2,gq,hq,hk⟩;have EG:∀ t,t ∉ iF (.loop c)->e2.get t=e.get t:=fun t ht=>by rw[hk t ht,<- yJ.get,BM t ht]
   cases ex with
   | normal=>
    obtain⟨s2,gw,RV,aU⟩:=St.kN hq;have uG:ks.map (fun x=>a2.tmps.getD x.1 undef)=St.vals (ks.map (·.2)) s2:=by rw[EF gq,gw]
    refine⟨⟨s2,RV,gq.size,gq.defers,fun t ht=>by rw[gq.get,EG t ht],uG⟩,?_⟩;have e1:∃ s:St (ks.map (·.2)),ks.map (fun x=>a'.tmps.getD x.1 undef)=St.vals (ks.map (·.2)) s:=⟨s,hv⟩;have EH:∃ s:St (ks.map (·.2)),ks.map (fun x=>a2.tmps.getD x.1 undef)=St.vals (ks.map (·.2)) s:=⟨s2,uG⟩;rw[dif_pos e1,dif_pos EH];have u1:e1.choose=s:=St.wh (e1.choose_spec.symm.trans hv);have u2:EH.choose=s2:=St.wh (EH.choose_spec.symm.trans uG);rw[u1,u2];exact aU
   | exit i=>exact⟨e2,gq,hq,EG⟩
   | ret=>exact⟨e2,gq,hq,EG⟩
   | goto l=>exact hq.elim
   | panic l=>exact hq.elim
   | outgrown=>exact hq.elim
  case h_2=>cases h
 | _=>intro p e a w Q hr h;exact h.elim
theorem KB:∀ (vs:List Value) (i t:Nat),look (uy i vs) t=if i<=t then vs[t - i]? else none
 | [],i,t=>by simp[uy,look]
 | v::vs,i,t=>by
  unfold uy;rw[vZ,KB vs (i+1) t]
  by_cases h:t=i
  ·subst h;simp
  ·rw[if_neg h]
   by_cases h2:i<=t
   ·rw[if_pos (by omega),if_pos h2,show t - i=(t - (i+1))+1 by omega,List.getElem?_cons_succ]
   ·rw[if_neg (by omega),if_neg h2]
theorem RW {n:Nat}{args:List Value}(h:args.length<=n):dn n ⟨uy 0 args,fun _=>undef⟩ { tmps:=args.toArray++Array.replicate (n - args.toArray.size) undef,defers:=[] }:=by
 refine⟨by simp;omega,rfl,fun t=>?_⟩;show _=(match look (uy 0 args) t with | some v=>v | none=>undef)
 rw[KB,if_pos (Nat.zero_le _),Nat.sub_zero,Array.getD_eq_getD_getElem?,Array.getElem?_append]
 by_cases ht:t<args.length
 ·simp[ht]
 ·simp only[List.size_toArray,ht,if_false]
  rw[List.getElem?_eq_none (by omega)];simp only[Array.getElem?_replicate];split<;>rfl
theorem RX {n:Nat}{e:Env}{a:Act}{w:World}{r:ResultVar}{K:Value->Prop}(hr:dn n e a)(h:Eh P e w r K):
  ∃ v,(match r with | .tmp t=>(pure (a.tmps.getD t undef):Sem Value) | .cell x t=>do loadVar t (<- asAddr (a.tmps.getD x undef))).run P w=.ok v w/\K v:=by
 unfold Eh at h;split at h
 case h_1 t=>exact⟨_,by simp only[hr.get];rfl,h⟩
 case h_2 x t=>
  split at h
  case h_1 q eq=>
   obtain⟨p,rfl,h1⟩:=rK h;obtain⟨v,hv,hK⟩:=Kb (K:=fun v _=>K v) h1;refine⟨v,?_,hK⟩;simp only[hr.get,eq,asAddr,Sem.run_bind,Sem.run_pure,Result.andThen_ok,hv]
  case h_2=>cases h
theorem KC {n:Nat}{e:Env}{a:Act}{w:World}(hr:dn n e a):∀ {rs:List ResultVar} {K:List Value->Prop},Bx P e w rs K ->
  ∃ vs,(rs.mapM (fun(r:ResultVar)=>(match r with | .tmp t=>(pure (a.tmps.getD t undef):Sem Value) | .cell x t=>do loadVar t (<- asAddr (a.tmps.getD x undef)))):Sem (List Value)).run P w=Result.ok vs w/\K vs
 | [],K,h=>⟨[],rfl,h⟩
 | r::rs,K,h=>by
  obtain⟨v,hv,h⟩:=RX hr h;obtain⟨vs,EI,h⟩:=KC hr h;refine⟨v::vs,?_,h⟩;simp only[List.mapM_cons,Sem.run_bind,hv,Result.andThen_ok,EI,Sem.run_pure]
theorem aC {f:FuncId}{fn:Func}{p:aB}{args:List Value}{w:World}{K:Value->World->Prop}(hm:P.follows .mixedOrders=true)(hf:P.funcs[f]? = some fn)
  (h:J6 P fn p args w K):Ret P f args.toArray w K:=by
 unfold J6 at h;split at h
 case h_1=>cases h
 case h_2 c hb=>
  split at h
  case h_1=>cases h
  case h_2 hle=>
   have EJ:args.length<=fn.ntmps:=Nat.le_of_ble_eq_true hle;refine calls_of_wp hf hb (wp_mono (RP hm c p _ _ w _ (RW EJ) h) ?_);rintro ex a' w' ⟨e',hr,hq,_⟩;have fin:Bx P e' w' fn.results.toList (fun vs=>K (oneOf vs) w')->a'.defers=[]/\∃ v,(results fn a'.tmps).run P w'=.ok v w'/\∃ u,Ending.returned v=.returned u/\K u w':=fun h=>by
    obtain⟨vs,EI,hK⟩:=KC hr h;refine⟨hr.defers,oneOf vs,?_,_,rfl,hK⟩;unfold results;simp only[Array.mapM_eq_mapM_toList,Sem.run_bind,Sem.run_map,Sem.run_pure];have RY:=congrArg (fun r=>(Result.andThen r fun a w'=>Result.ok a.toArray w').andThen fun(a:Array Value) w'=>Result.ok (if h:a.size=1 then a[0] else Value.tuple a) w') EI;refine RY.trans ?_;simp only[Result.andThen_ok]
    congr 1
    match vs with
    | []=>rfl
    | [v]=>rfl
    | v::u::l=>rfl
   cases ex with
   | normal=>exact fin hq
   | ret=>exact fin hq
   | exit i=>exact hq.elim
   | goto l=>exact hq.elim
   | panic l=>exact hq.elim
   | outgrown=>exact hq.elim
end
end Vc
namespace Vc
theorem dT (b o n:Nat):(⟨b,o,none⟩:Addr).add n=⟨b,o+n,none⟩:=by
 unfold Addr.add;split
 ·rename_i h;subst h;rfl
 ·rfl
theorem wI {x:Int}(h1:-9223372036854775808<=x)(h2:x<=9223372036854775807):IntKind.i64.wrap x=x:=IntWalk.i64_in x ⟨h1,h2⟩
theorem wB {x:Int}(h1:0<=x)(h2:x<=255):IntKind.u8.wrap x=x:=IntWalk.u8_in x ⟨h1,h2⟩
structure Fr (S:Nat->Prop)(w w':World):Prop where
 os:w'.os=w.os
 tape:w'.tape=w.tape
 output:w'.output=w.output
 size:w.heap.size<=w'.heap.size
 block:∀ k,k<w.heap.size->¬ S k->w'.heap[k]? = w.heap[k]?
def none1:Nat->Prop:=fun _=>False
def only(b:Nat):Nat->Prop:=fun k=>k=b
theorem Fr.refl (S:Nat->Prop)(w:World):Fr S w w:=⟨rfl,rfl,rfl,Nat.le_refl _,fun _ _ _=>rfl⟩
theorem Fr.comp {S T:Nat->Prop}{a b c:World}(h:Fr S a b)(k:Fr T b c)(hT:∀ x,x<a.heap.size->T x->S x):Fr S a c:=
 ⟨k.os.trans h.os,k.tape.trans h.tape,k.output.trans h.output,Nat.le_trans h.size k.size,
  fun i hi hn=>(k.block i (Nat.lt_of_lt_of_le hi h.size) (fun t=>hn (hT i hi t))).trans (h.block i hi hn)⟩
theorem Fr.trans {S:Nat->Prop}{a b c:World}(h:Fr S a b)(k:Fr S b c):Fr S a c:=h.comp k fun _ _ t=>t
theorem Fr.mono {S T:Nat->Prop}{a b:World}(h:Fr S a b)(hT:∀ x,x<a.heap.size->S x->T x):Fr T a b:=
 ⟨h.os,h.tape,h.output,h.size,fun i hi hn=>h.block i hi (fun t=>hn (hT i hi t))⟩
theorem Fr.dq {S:Nat->Prop}{a b c:World}(h:Fr S a b)(k:Fr none1 b c):Fr S a c:=h.comp k fun _ _ t=>t.elim
theorem Fr.eL {S:Nat->Prop}{a b c:World}(h:Fr none1 a b)(k:Fr S b c):Fr S a c:=(h.mono fun _ _ t=>t.elim).trans k
theorem bL {w:World}{b:Nat}{o:Obj}(h:w.heap[b]? = some o):b<w.heap.size:=(Array.getElem?_eq_some_iff.1 h).1
theorem Fr.ag {S:Nat->Prop}{w w':World}(f:Fr S w w'){b:Nat}{o:Obj}(h:w.heap[b]? = some o)(hn:¬ S b):w'.heap[b]? = some o:=by
 rw[f.block b (bL h) hn];exact h
theorem Fr.af {w w':World}(f:Fr none1 w w'){b:Nat}{o:Obj}(h:w.heap[b]? = some o):w'.heap[b]? = some o:=f.ag h (fun t=>t)
theorem Fr.jK {c:Nat}{w w':World}(f:Fr (only c) w w'){b:Nat}{o:Obj}(h:w.heap[b]? = some o)(hn:b≠c):w'.heap[b]? = some o:=f.ag h hn
theorem Fr.below {w w':World}(f:Fr none1 w w'):Go.RowKit.Below w.heap.size w w':=⟨f.os,f.tape,f.output,f.size,fun k hk=>f.block k hk (fun t=>t)⟩
theorem Fr.fresh {b:Nat}{a w w':World}(h:Fr none1 a w)(k:Fr (only b) w w')(hb:a.heap.size<=b):Fr none1 a w':=
 h.comp k fun x hx t=>by have:x=b:=t;omega
theorem heap_setCell_same {w:World}{b i:Nat}{v:Value}{cs:Array Value}{T:TypeId}{fr:Nat×Nat}(hb:w.heap[b]? = some (.cells cs T fr)):
  (w.setCell ⟨b,i,none⟩ v).heap[b]? = some (.cells (cs.setIfInBounds i v) T fr):=by
 simp[World.setCell,Array.getElem?_modify,hb]
theorem yK (w:World)(b i:Nat)(v:Value):Fr (only b) w (w.setCell ⟨b,i,none⟩ v):=
 ⟨rfl,rfl,rfl,by simp[World.setCell],fun k _ hn=>Go.RowKit.Below.heap_setCell _ _ _ _ hn⟩
theorem pM {w:World}{b i:Nat}{cs:Array Value}{T:TypeId}{fr:Nat×Nat}(hb:w.heap[b]? = some (.cells cs T fr)):w.cell? ⟨b,i,none⟩=cs[i]? := by
 simp[World.cell?,hb]
theorem yL {w:World}{b i:Nat}{cs:Array Value}{T:TypeId}(hb:w.heap[b]? = some (.cells cs T (0,0))):w.frozen? ⟨b,i,none⟩=false:=by
 simp[World.frozen?,hb]
theorem ae.of {c:Ck}{b i:Nat}{w:World}{K:c.C->Prop}{cs:Array Value}{T:TypeId}{fr:Nat×Nat}{x:c.C}(hb:w.heap[b]? = some (.cells cs T fr))(hx:cs[i]? = some (c.val x))(h:K x):
  ae c ⟨b,i,none⟩ w K:=⟨x,by rw[pM hb,hx],h⟩
theorem ae.ah {c:Ck}{b i n:Nat}{w:World}{K:c.C->Prop}{cs:Array Value}{T:TypeId}{fr:Nat×Nat}{x:c.C}(hb:w.heap[b]? = some (.cells cs T fr))(hx:cs[i+n]? = some (c.val x))(h:K x):
  ae c ((⟨b,i,none⟩:Addr).add n) w K:=by rw[dT];exact ae.of hb hx h
theorem az.of {b i:Nat}{v:Value}{w:World}{K:World->Prop}{cs:Array Value}{T:TypeId}(hb:w.heap[b]? = some (.cells cs T (0,0)))(hi:i<cs.size)(h1:bK v=true)
  (h:∀ w1,w1.heap[b]? = some (.cells (cs.setIfInBounds i v) T (0,0))->Fr (only b) w w1->w1.heap.size=w.heap.size->K w1):az ⟨b,i,none⟩ v w K:=
 ⟨h1,by rw[pM hb];simp[hi],yL hb,h _ (heap_setCell_same hb) (yK _ _ _ _) (by simp[World.setCell])⟩
theorem az.ah {b i n:Nat}{v:Value}{w:World}{K:World->Prop}{cs:Array Value}{T:TypeId}(hb:w.heap[b]? = some (.cells cs T (0,0)))(hi:i+n<cs.size)(h1:bK v=true)
  (h:∀ w1,w1.heap[b]? = some (.cells (cs.setIfInBounds (i+n) v) T (0,0))->Fr (only b) w w1->w1.heap.size=w.heap.size->K w1):az ((⟨b,i,none⟩:Addr).add n) v w K:=by
 rw[dT];exact az.of hb hi h1 h
theorem mu (w:World)(o:Obj):Fr none1 w { w with heap:=w.heap.push o }:=
 ⟨rfl,rfl,rfl,by simp,fun k hk _=>by
  show(w.heap.push o)[k]? = _;rw[Array.getElem?_push,if_neg (by omega)]⟩
theorem ak.of {o:Obj}{w:World}{K:Nat->World->Prop}(h:∀ g w1,w.heap.size=g->w1.heap[g]? = some o->Fr none1 w w1->w1.heap.size=g+1->K g w1):ak o w K:=
 ⟨h _ _ rfl (by simp) (mu w o) (by simp)⟩
theorem aD.of {w:World}{K:World->Prop}(h:∀ w1,w1.heap=w.heap->Fr none1 w w1->K w1):aD w K:=⟨h _ rfl ⟨rfl,rfl,rfl,Nat.le_refl _,fun _ _ _=>rfl⟩⟩
theorem ab.of {P:Program}{f:FuncId}{args:Array Value}{w:World}{k:Rk}{K:k.C->World->Prop}{R:Value->World->Prop}(c:Ret P f args w R)(h:∀ v w',R v w'->∃ x,v=k.val x/\K x w'):
  ab P f args w k K:=⟨c.mono fun _ w' ⟨v,he,hv⟩=>⟨v,he,h v w' hv⟩⟩
theorem Ret.mono {P:Program}{f:FuncId}{args:Array Value}{w:World}{R R':Value->World->Prop}(c:Ret P f args w R)(h:∀ v w',R v w'->R' v w'):Ret P f args w R':=
 Calls.mono c fun _ w' ⟨v,he,hv⟩=>⟨v,he,h v w' hv⟩
theorem aa.t {b:Bool}{A B:Prop}(h:b=true)(k:A):aa b A B:=by subst h;exact k
theorem aa.f {b:Bool}{A B:Prop}(h:b=false)(k:B):aa b A B:=by subst h;exact k
theorem aa.by {b:Bool}{A B:Prop}(h:b=true->A)(k:b=false->B):aa b A B:=by cases b;exact k rfl;exact h rfl
theorem aa.yes {p:Prop}[Decidable p]{A B:Prop}(h:p)(k:A):aa (decide p) A B:=aa.t (decide_eq_true h) k
theorem aa.no {p:Prop}[Decidable p]{A B:Prop}(h:¬ p)(k:B):aa (decide p) A B:=aa.f (decide_eq_false h) k
theorem aa.dec {p:Prop}[Decidable p]{A B:Prop}(h:p->A)(k:¬ p->B):aa (decide p) A B:=aa.by (fun e=>h (of_decide_eq_true e)) (fun e=>k (of_decide_eq_false e))
theorem aa.eq {α:Type}[BEq α][LawfulBEq α]{a b:α}{A B:Prop}(h:a=b->A)(k:a≠b->B):aa (a==b) A B:=aa.by (fun e=>h (eq_of_beq e)) (fun e=>k (fun x=>by subst x;simp at e))
theorem aa.ne {α:Type}[BEq α][LawfulBEq α]{a b:α}{A B:Prop}(h:a≠b->A)(k:a=b->B):aa (a != b) A B:=by
 by_cases e:a=b
 ·exact aa.f (by simp[e]) (k e)
 ·exact aa.t (by simp[e]) (h e)
theorem aa.not {b:Bool}{A B:Prop}(h:aa b B A):aa (!b) A B:=by cases b<;>exact h
theorem bC.of {σ:Type}{body:(Nat->Value)->σ->World->(σ->World->Prop)->Prop}{s:σ}{w:World}(I:σ->World->Prop)(μ:σ->World->Nat)(h0:I s w)
  (h:∀ b s w,I s w->body b s w fun s' w'=>I s' w'/\μ s' w'<μ s w):bC σ body s w:=⟨I,μ,h0,h⟩
theorem cy.of {σ:Type}{first:(σ->World->Prop)->Prop}{rest:(Nat->Value)->σ->World->Prop}(J:σ->World->Prop)(h1:first J)(h2:∀ b s w,J s w->rest b s w):cy σ first rest:=⟨J,h1,h2⟩
theorem nY {w:World}{b:Nat}{cs:Array Value}{T:TypeId}{fr:Nat×Nat}(hb:w.heap[b]? = some (.cells cs T fr)):∀ (vs:List Value) (i:Nat),(∀ j,j<vs.length->cs[i+j]? = vs[j]?)->jH w ⟨b,0,none⟩ i vs
 | [],_,_=>trivial
 | v::vs,i,h=>by
  refine⟨?_,nY hb vs (i+1) fun j hj=>?_⟩
  ·rw[dT,pM hb]
   have:=h 0 (by simp);simpa using this
  ·have:=h (j+1) (by simp;omega)
   rw[show i+1+j=i+(j+1) by omega,this];simp
theorem aq.aE {cks:List Ck}{b:Nat}{w:World}{K:Cs cks->Prop}{T:TypeId}{fr:Nat×Nat}{x:Cs cks}(hb:w.heap[b]? = some (.cells (Cs.vals cks x).toArray T fr))(h:K x):aq cks ⟨b,0,none⟩ w K:=
 ⟨x,nY hb _ 0 fun j _=>by simp,h⟩
theorem EL {b:Nat}{T:TypeId}:∀ (vs:List Value) (w:World) (pre cs:List Value),w.heap[b]? = some (.cells (pre++cs).toArray T (0,0))->cs.length=vs.length->vs.all bK=true ->
  pF w ⟨b,0,none⟩ pre.length vs/\(setCells w ⟨b,0,none⟩ pre.length vs).heap[b]? = some (.cells (pre++vs).toArray T (0,0))/\Fr (only b) w (setCells w ⟨b,0,none⟩ pre.length vs)/\(setCells w ⟨b,0,none⟩ pre.length vs).heap.size=w.heap.size
 | [],w,pre,cs,hb,hl,_=>by
  have:cs=[]:=by simpa using hl
  subst this;exact⟨trivial,hb,Fr.refl _ _,rfl⟩
 | v::vs,w,pre,cs,hb,hl,h1=>by
  cases cs with
  | nil=>simp at hl
  | cons c cs=>
   simp only[List.all_cons,Bool.and_eq_true] at h1;have hs:=heap_setCell_same (i:=0+pre.length) (v:=v) hb;have yI:(w.setCell ⟨b,0+pre.length,none⟩ v).heap[b]? = some (.cells ((pre++[v])++cs).toArray T (0,0)):=by
    rw[hs]
    congr 2
    apply Array.ext';simp
   obtain⟨a1,a2,a3,a4⟩:=EL vs (w.setCell ⟨b,0+pre.length,none⟩ v) (pre++[v]) cs yI (by simpa using hl) h1.2;rw[List.length_append,List.length_singleton] at a1 a2 a3 a4;unfold pF setCells;rw[dT];refine⟨⟨h1.1,by rw[pM hb];simp,yL hb,a1⟩,by rw[a2];simp,(yK w b _ v).trans a3,by rw[a4];simp[World.setCell]⟩
theorem ar.aE {b:Nat}{vs:List Value}{w:World}{K:World->Prop}{cs:List Value}{T:TypeId}(hb:w.heap[b]? = some (.cells cs.toArray T (0,0)))(hl:cs.length=vs.length)(h1:vs.all bK=true)
  (h:∀ w1,w1.heap[b]? = some (.cells vs.toArray T (0,0))->Fr (only b) w w1->w1.heap.size=w.heap.size->K w1):ar ⟨b,0,none⟩ vs w K:=by
 obtain⟨a1,a2,a3,a4⟩:=EL vs w [] cs hb hl h1;exact⟨a1,h _ a2 a3 a4⟩
def calm (w:World):(Nat->Bool)->World->Prop:=fun _ w'=>w.heap=w'.heap/\Fr none1 w w'
def IsInts (k:IntKind)(w:World)(a:Option Addr)(len cap:Nat)(zs:List Int):Prop:=
 (a=none/\len=0/\cap=0/\zs=[]) \/
 ∃ x,a=some x/\len<=cap/\cap<=maxLen/\zs.length=cap/\(∀ i,i<zs.length->w.cell? (x.add i)=some (.int k (zs.getD i 0)))/\∀ n∈zs,(Lit.int k n).wf=true
def IsStrs (w:World)(a:Option Addr)(len cap:Nat)(zs:List ByteArray):Prop:=
 (a=none/\len=0/\cap=0/\zs=[]) \/
 ∃ x,a=some x/\len<=cap/\cap<=maxLen/\zs.length=cap/\(∀ i,i<zs.length->w.cell? (x.add i)=some (.string (zs.getD i ByteArray.empty)))/\∀ s∈zs,s.size<=maxLen
theorem KD {w:World}{p:Addr}{v:Value}(h:w.cell? p=some v):p.block<w.heap.size:=by
 unfold World.cell? at h;split at h
 ·rename_i hb;exact bL hb
 ·cases h
theorem Fr.cell {S:Nat->Prop}{w w':World}(f:Fr S w w'){p:Addr}{v:Value}(h:w.cell? p=some v)(hn:¬ S p.block):w'.cell? p=some v:=by
 have hb:=f.block p.block (KD h) hn;unfold World.cell? at h ⊢;rw[hb];exact h
theorem Fr.cell0 {w w':World}(f:Fr none1 w w'){p:Addr}{v:Value}(h:w.cell? p=some v):w'.cell? p=some v:=f.cell h (fun t=>t)
theorem Fr.kept {S T:Nat->Prop}{w w':World}(f:Fr T w w')(h:∀ k,S k->¬ T k):Kept S w w':=fun _ _ hs hc=>f.cell hc (h _ hs)
theorem ai.on {S T:Nat->Prop}{w w':World}{K:Prop}(f:Fr T w w')(h:∀ k,S k->¬ T k)(k:K):ai S w w' K:=⟨f.kept h,k⟩
theorem ai.of {S:Nat->Prop}{w w':World}{K:Prop}(f:Fr none1 w w')(k:K):ai S w w' K:=⟨f.kept fun _ _ t=>t,k⟩
def EM:Nat->Prop:=fun _=>True
theorem aV.all {body:(Nat->Prop)->Prop}(h:body EM):aV body:=⟨EM,h⟩
theorem aV.of {body:(Nat->Prop)->Prop}(S:Nat->Prop)(h:body S):aV body:=⟨S,h⟩
theorem av.all {p:Addr}{K:Prop}(k:K):av EM p K:=⟨trivial,k⟩
theorem ae.cell {c:Ck}{p:Addr}{w:World}{K:c.C->Prop}{x:c.C}(h:w.cell? p=some (c.val x))(k:K x):ae c p w K:=⟨x,h,k⟩
theorem IsInts.i64 {w:World}{a:Option Addr}{len cap:Nat}{zs:List Int}(h:IsInts .i64 w a len cap zs)(i:Nat):-9223372036854775808<=zs.getD i 0/\zs.getD i 0<=9223372036854775807:=by
 rcases h with⟨_,_,_,rfl⟩ | ⟨x,rfl,hl,hc,hz,_,hw⟩
 ·simp
 ·rw[List.getD_eq_getElem?_getD]
  cases hi:zs[i]? with
  | none=>simp
  | some n=>
   have hm:=hw n (List.mem_of_getElem? hi);simp[Lit.wf,IntKind.min,IntKind.max,IntKind.signed,IntKind.bits] at hm;simp only[Option.getD_some];omega
end Vc
namespace Vc
variable {P:Program}
abbrev Sl:=Option Addr×Nat×Nat
def aw (v:Sl):Nat->Prop:=fun k=>∃ a,v.1=some a/\k=a.block
def aF (w:World)(E s:Nat)(v:Sl)(xs:List Value):Prop:=
 (v=(none,0,0)/\xs=[]) \/
 ∃ g off cs,v.1=some ⟨g,off,none⟩/\w.heap[g]? = some (.cells cs E (0,0))/\v.2.1<=v.2.2/\off+v.2.2 * s<=cs.size/\xs.length=v.2.1 * s/\∀ i,i<xs.length->cs[off+i]? = xs[i]?
theorem aF.ag {w w':World}{E s:Nat}{v:Sl}{xs:List Value}(h:aF w E s v xs){S:Nat->Prop}(f:Fr S w w')(hn:∀ k,aw v k->¬ S k):aF w' E s v xs:=by
 rcases h with h | ⟨g,off,cs,h1,h2,h3⟩
 ·exact .inl h
 ·exact .inr ⟨g,off,cs,h1,f.ag h2 (hn g ⟨_,h1,rfl⟩),h3⟩
theorem aF.af {w w':World}{E s:Nat}{v:Sl}{xs:List Value}(h:aF w E s v xs)(f:Fr none1 w w'):aF w' E s v xs:=h.ag f (fun _ _ t=>t)
theorem aF.lt {w:World}{E s:Nat}{v:Sl}{xs:List Value}(h:aF w E s v xs){k:Nat}(hk:aw v k):k<w.heap.size:=by
 obtain⟨a,ha,rfl⟩:=hk
 rcases h with⟨rfl,_⟩ | ⟨g,off,cs,h1,h2,h3⟩
 ·cases ha
 ·rw[h1] at ha;injection ha with ha;subst ha;exact bL h2
theorem aF.len {w:World}{E s:Nat}{v:Sl}{xs:List Value}(h:aF w E s v xs):xs.length=v.2.1 * s:=by
 rcases h with⟨rfl,rfl⟩ | ⟨g,off,cs,h1,h2,h3,h4,h5,h6⟩
 ·simp
 ·exact h5
theorem aF.ld {w:World}{E:Nat}{v:Sl}{xs:List Value}(h:aF w E 1 v xs){c:Ck}{K:c.C->Prop}{i:Int}(h0:0<=i)(h1:i<v.2.1){x:c.C}(hx:xs[i.toNat]? = some (c.val x))(k:K x):
  bQ v.1 v.2.1 i 1 fun p=>ae c p w K:=by
 rcases h with⟨rfl,rfl⟩ | ⟨g,off,cs,hv,hb,hl,hc,hn,he⟩
 ·simp at hx
 ·refine⟨_,hv,h0,h1,?_⟩
  rw[dT];refine ae.of hb ?_ k;rw[Nat.mul_one,he i.toNat (by rw[hn];omega)];exact hx
theorem uH {w:World}{g:Nat}{cs:Array Value}{T:TypeId}{fr:Nat×Nat}(hb:w.heap[g]? = some (.cells cs T fr)):∀ (vs:List Value) (off i:Nat),(∀ j,j<vs.length->cs[off+i+j]? = vs[j]?)->jH w ⟨g,off,none⟩ i vs
 | [],_,_,_=>trivial
 | v::vs,off,i,h=>by
  refine⟨?_,uH hb vs off (i+1) fun j hj=>?_⟩
  ·rw[dT,pM hb]
   have:=h 0 (by simp);simpa using this
  ·have:=h (j+1) (by simp;omega)
   rw[show off+(i+1)+j=off+i+(j+1) by omega,this];simp
theorem aF.first {w:World}{E s:Nat}{v:Sl}{xs:List Value}(h:aF w E s v xs):(Builtin.firstCells s v.2.1 (.slice v.1 v.2.1 v.2.2)).run P w=.ok xs.toArray w:=by
 rcases h with⟨rfl,rfl⟩ | ⟨g,off,cs,hv,hb,hl,hc,hn,he⟩
 ·rfl
 ·rw[hv]
  simp only[Builtin.firstCells];rw[<- hn];exact uA xs (uH hb xs off 0 fun j hj=>by rw[Nat.add_zero];exact he j hj)
def du (w:World)(s:Nat)(v:Sl)(xs:List Value):Prop:=xs.length=v.2.1 * s/\(v.1=none->v.2.1=0/\v.2.2=0/\xs=[])/\∀ a,v.1=some a->jH w a 0 xs
theorem aF.rd {w:World}{E s:Nat}{v:Sl}{xs:List Value}(h:aF w E s v xs):du w s v xs:=by
 refine⟨h.len,fun hn=>?_,fun a ha=>?_⟩
 ·rcases h with⟨rfl,rfl⟩ | ⟨g,off,cs,hv,_⟩
  ·exact⟨rfl,rfl,rfl⟩
  ·rw[hv] at hn;cases hn
 ·rcases h with⟨rfl,rfl⟩ | ⟨g,off,cs,hv,hb,hl,hc,hn,he⟩
  ·trivial
  ·rw[hv] at ha;injection ha with ha;subst ha
   exact uH hb xs off 0 fun j hj=>by rw[Nat.add_zero];exact he j hj
theorem KE {w w':World}{S:Nat->Prop}(f:Fr S w w'){a:Addr}(hn:¬ S a.block):∀ (vs:List Value) (i:Nat),jH w a i vs->jH w' a i vs
 | [],_,_=>trivial
 | v::vs,i,⟨h1,h2⟩=>⟨f.cell h1 (by unfold Addr.add;split<;>exact hn),KE f hn vs (i+1) h2⟩
theorem du.ag {w w':World}{s:Nat}{v:Sl}{xs:List Value}(h:du w s v xs){S:Nat->Prop}(f:Fr S w w')(hn:∀ k,aw v k->¬ S k):du w' s v xs:=
 ⟨h.1,h.2.1,fun a ha=>KE f (hn _ ⟨a,ha,rfl⟩) _ _ (h.2.2 a ha)⟩
theorem du.af {w w':World}{s:Nat}{v:Sl}{xs:List Value}(h:du w s v xs)(f:Fr none1 w w'):du w' s v xs:=h.ag f (fun _ _ t=>t)
theorem du.first {w:World}{s:Nat}{v:Sl}{xs:List Value}(h:du w s v xs):(Builtin.firstCells s v.2.1 (.slice v.1 v.2.1 v.2.2)).run P w=.ok xs.toArray w:=by
 obtain⟨h1,h2,h3⟩:=h;cases hv:v.1 with
 | none=>
  obtain⟨_,_,rfl⟩:=h2 hv;rfl
 | some a=>
  simp only[Builtin.firstCells];rw[<- h1];exact uA xs (h3 a hv)
theorem wD {w:World}{a:Addr}:∀ (vs:List Value) (i j:Nat) (v:Value),jH w a i vs->vs[j]? = some v->w.cell? (a.add (i+j))=some v
 | [],_,_,_,_,h=>by simp at h
 | u::vs,i,0,v,⟨h1,_⟩,h=>by simp at h;subst h;exact h1
 | u::vs,i,j+1,v,⟨_,h2⟩,h=>by
  have:=wD vs (i+1) j v h2 (by simpa using h);rw[show i+(j+1)=i+1+j by omega];exact this
theorem du.ld {w:World}{v:Sl}{xs:List Value}(h:du w 1 v xs){c:Ck}{K:c.C->Prop}{i:Int}(h0:0<=i)(h1:i<v.2.1){x:c.C}(hx:xs[i.toNat]? = some (c.val x))(k:K x):
  bQ v.1 v.2.1 i 1 fun p=>ae c p w K:=by
 obtain⟨q1,q2,q3⟩:=h;cases hv:v.1 with
 | none=>have:=(q2 hv).1;omega
 | some a=>
  refine⟨a,rfl,h0,h1,?_⟩;have:=wD xs 0 i.toNat _ (q3 a hv) hx;rw[Nat.mul_one];rw[Nat.zero_add] at this;exact ae.cell this k
theorem EN {g:Nat}{T:TypeId}:∀ (vs:List Value) (w:World) (cs:Array Value) (off i:Nat),w.heap[g]? = some (.cells cs T (0,0))->off+i+vs.length<=cs.size->(∀ v∈vs,bK v=true) ->
  pF w ⟨g,off,none⟩ i vs/\∃ j2,(setCells w ⟨g,off,none⟩ i vs).heap[g]? = some (.cells j2 T (0,0))/\j2.size=cs.size/\(∀ j,j<vs.length->j2[off+i+j]? = vs[j]?)/\(∀ j,j<off+i->j2[j]? = cs[j]?) /\
   Fr (only g) w (setCells w ⟨g,off,none⟩ i vs)/\(setCells w ⟨g,off,none⟩ i vs).heap.size=w.heap.size
 | [],w,cs,off,i,hb,_,_=>⟨trivial,cs,hb,rfl,fun j hj=>by simp at hj,fun _ _=>rfl,Fr.refl _ _,rfl⟩
 | v::vs,w,cs,off,i,hb,hl,h1=>by
  simp only[List.length_cons] at hl;have hs:=heap_setCell_same (i:=off+i) (v:=v) hb;have hf:=yK w g (off+i) v;obtain⟨hw,j2,a1,a2,a3,a4,a5,a6⟩:=EN vs (w.setCell ⟨g,off+i,none⟩ v) _ off (i+1) hs (by simp;omega) (fun u hu=>h1 u (by simp[hu]));unfold pF setCells;rw[dT];refine⟨⟨h1 v (by simp),by rw[pM hb];simp;omega,yL hb,hw⟩,j2,a1,by rw[a2];simp,fun j hj=>?_,fun j hj=>?_,hf.trans a5,by rw[a6];simp[World.setCell]⟩
  ·cases j with
   | zero=>
    have:=a4 (off+i) (by omega);simp only[Nat.add_zero,this];rw[Array.getElem?_setIfInBounds_self_of_lt (by omega)];rfl
   | succ j=>
    have:=a3 j (by simp at hj;omega);rw[show off+i+(j+1)=off+(i+1)+j by omega,this];simp
  ·rw[a4 j (by omega)]
   rw[Array.getElem?_setIfInBounds_ne (by omega)]
theorem KF (n:Nat):∀ (r c:Nat),c<=2 * n+192->Builtin.growBy n r c<=2 * n+192
 | 0,c,h=>h
 | r+1,c,h=>by
  unfold Builtin.growBy;split
  ·exact h
  ·exact KF n r _ (by omega)
theorem KG {n c:Nat}(h:c<n):Builtin.nextslicecap n c<=2 * n+192:=by
 unfold Builtin.nextslicecap;split
 ·omega
 ·split
  ·omega
  ·exact KF n 4 c (by omega)
structure iw (P:Program)(t E s:Nat)(z:Value)(bytes:Nat):Prop where
 under:P.underlying t=some (.slice E)
 info:∃ i,P.info? E=some i/\i.size=s/\i.zero=some z/\i.bytes=bytes
 cells:z.cells.size=s
 pos:0<bytes
theorem wE (w:World):Fr none1 w { w with drawn:=w.drawn+1 }:=⟨rfl,rfl,rfl,Nat.le_refl _,fun _ _ _=>rfl⟩
theorem KH {w:World}{t t2 E s bytes n:Nat}{z yv:Value}{x:Sl}{xs ys:List Value}(he:iw P t E s z bytes)(o:TypeId)(uD:∃ d,P.underlying t2=some d/\(d=.string\/∃ E2,d=.slice E2))(hx:aF w E s x xs)
  (wF:ys.length=n * s) (RZ:∀ w,(Builtin.lenOf yv).run P w=.ok n w) (BN:∀ w',Fr none1 w w'->(Builtin.firstCells s n yv).run P w'=.ok ys.toArray w') (h1:∀ v∈ys,bK v=true)
  (hb:(2 * (x.2.1+n)+192) * bytes<=2 ^ 48) :
  ∃ v w',(Builtin.append_ #[t,t2] o #[.slice x.1 x.2.1 x.2.2,yv]).run P w=.ok (.slice v.1 v.2.1 v.2.2) w'/\aF w' E s v (xs++ys)/\v.2.1=x.2.1+n/\Fr (aw x) w w' /\
   (∀ k,aw v k->aw x k\/w.heap.size<=k):=by
 obtain⟨hu,⟨i,hi,hs,hz,qN⟩,hc,oT⟩:=he;unfold Builtin.append_;obtain⟨d2,uD,BO⟩:=uD;have mv:∀ w,(sizeOf E).run P w=.ok s w:=fun w=>by rw[ko hi,hs]
 rcases BO with rfl | ⟨E2,rfl⟩
 all_goals
  simp only[Sem.run_bind,under hu,under uD,Result.andThen_ok,mv,List.getElem?_toArray,List.getElem?_cons_zero,List.getElem?_cons_succ,Sem.run_pure,Bool.false_eq_true,if_false,RZ]
  by_cases th:x.2.1+n<=x.2.2
  ·rw[if_pos th]
   simp only[Bool.not_false,if_true,Sem.run_bind,BN w (Fr.refl _ _),Result.andThen_ok]
   rcases hx with⟨rfl,rfl⟩ | ⟨g,off,cs,hv,wG,hl,wH,hn,BP⟩
   ·have uI:n=0:=by simp at th;omega
    have uJ:ys=[]:=by have:=wF;rw[uI] at this;simpa using this
    subst uJ;refine⟨(none,0,0),w,by simp[uI],.inl ⟨rfl,rfl⟩,by simp[uI],Fr.refl _ _,fun k ⟨a,ha,_⟩=>by cases ha⟩
   ·have iH:=wF
    have hmul:(x.2.1+n) * s<=x.2.2 * s:=Nat.mul_le_mul_right _ th;rw[Nat.add_mul] at hmul;obtain⟨hw,j2,a1,a2,a3,a4,a5,a6⟩:=EN ys w cs (off+x.2.1 * s) 0 wG (by omega) h1;rw[hv];simp only[dT,Sem.run_bind];rw[show(storeCells ⟨g,off+x.2.1 * s,none⟩ ys.toArray.toList 0).run P w=.ok () _ from wi ys 0 w hw];refine⟨(some ⟨g,off,none⟩,x.2.1+n,x.2.2),_,rfl,.inr ⟨g,off,j2,rfl,a1,th,by rw[a2];exact wH,by simp[hn,iH,Nat.add_mul],fun j hj=>?_⟩,rfl,a5.mono (fun k _ hk=>⟨_,hv,hk⟩),fun k ⟨a,ha,hk⟩=>.inl ⟨_,hv,by injection ha with ha;subst ha;exact hk⟩⟩
    simp at hj
    by_cases KI:j<xs.length
    ·rw[a4 (off+j) (by omega),BP j KI,List.getElem?_append_left KI]
    ·have:=a3 (j - xs.length) (by omega)
     rw[List.getElem?_append_right (by omega),<- this]
     congr 1;omega
  ·rw[if_neg th]
   have nZ:∀ w,(typeInfo E).run P w=.ok i w:=fun w=>by simp[typeInfo,hi]
   have wJ:Builtin.nextslicecap (x.2.1+n) x.2.2 * i.bytes<=2 ^ 48:=by
    rw[qN];exact Nat.le_trans (Nat.mul_le_mul_right _ (KG (by omega))) hb
   have kU:¬ (((x.2.1+n:Nat):Int) > IntKind.i64.max/\(False\/i.bytes=0)):=by
    rintro⟨_,h | h⟩
    ·exact h
    ·omega
   simp only[Sem.run_bind,nZ,Result.andThen_ok,Sem.run_ite];rw[if_neg kU,if_neg (show ¬ (Builtin.nextslicecap (x.2.1+n) x.2.2 * i.bytes > 2 ^ 48) by omega)];simp only[run_choose,Question.forced,Bool.false_eq_true,if_false,Result.andThen_ok,run_askRoom];generalize uK:(Question.appendCap (x.2.1+n) x.2.2 E).cut _=nc;have eu:x.2.1+n<=nc:=by rw[<- uK];simp[Question.cut]
   have f1:=wE w;rw[(hx.af f1).first]
   simp only[Result.andThen_ok,Bool.not_false,if_true];rw[BN _ f1];simp only[Result.andThen_ok,qG hi hz,newRow,Sem.run_bind,run_newObj,Sem.run_pure];refine⟨(some ⟨w.heap.size,0,none⟩,x.2.1+n,nc),_,rfl,.inr ⟨w.heap.size,0,_,rfl,Array.getElem?_push_size ..,eu,?_,by simp[hx.len,wF,Nat.add_mul],fun j hj=>?_⟩,rfl,
    ((f1.trans (mu _ _)).mono fun _ _ t=>t.elim),fun k ⟨a,ha,hk⟩=>.inr (by injection ha with ha;subst ha;subst hk;exact Nat.le_refl _)⟩
   ·simp only[Array.size_append,List.size_toArray,Builtin.zeroCells,Array.size_map,Array.size_range,hx.len,wF,hc]
    have:nc=(x.2.1+n)+(nc - (x.2.1+n)):=by omega
    have h2:nc * s=(x.2.1+n) * s+(nc - (x.2.1+n)) * s:=by rw[<- Nat.add_mul,<- this]
    rw[Nat.add_mul] at h2;show 0+nc * s<=_;omega
   ·rw[Nat.zero_add,Array.getElem?_append_left (by simpa using hj)]
    simp[List.getElem?_append]
theorem gE {w:World}{t E s bytes:Nat}{z:Value}{x y:Sl}{xs ys:List Value}(he:iw P t E s z bytes)(o:TypeId)(hx:aF w E s x xs)(hy:du w s y ys)(h1:∀ v∈ys,bK v=true)
  (hb:(2 * (x.2.1+y.2.1)+192) * bytes<=2 ^ 48) :
  ∃ v w',(Builtin.append_ #[t,t] o #[.slice x.1 x.2.1 x.2.2,.slice y.1 y.2.1 y.2.2]).run P w=.ok (.slice v.1 v.2.1 v.2.2) w'/\aF w' E s v (xs++ys)/\v.2.1=x.2.1+y.2.1/\Fr (aw x) w w' /\
   (∀ k,aw v k->aw x k\/w.heap.size<=k):=
 KH he o ⟨_,he.under,.inr ⟨_,rfl⟩⟩ hx hy.1 (fun _=>rfl) (fun _ f=>(hy.af f).first) h1 hb
theorem R0 {w:World}{t st E bytes:Nat}{z:Value}{x:Sl}{xs:List Value}(he:iw P t E 1 z bytes)(o:TypeId)(dD:P.underlying st=some .string)(hx:aF w E 1 x xs)(s:ByteArray)
  (hb:(2 * (x.2.1+s.size)+192) * bytes<=2 ^ 48) :
  ∃ v w',(Builtin.append_ #[t,st] o #[.slice x.1 x.2.1 x.2.2,.string s]).run P w=.ok (.slice v.1 v.2.1 v.2.2) w'/\aF w' E 1 v (xs++s.data.toList.map fun b=>.int .u8 (b.toNat:Int))/\v.2.1=x.2.1+s.size/\Fr (aw x) w w' /\
   (∀ k,aw v k->aw x k\/w.heap.size<=k):=
 KH he o ⟨_,dD,.inl rfl⟩ hx (by rw[List.length_map,Array.length_toList,Nat.mul_one];rfl) (fun _=>rfl) (fun _ _=>by
  have e:s.extract 0 s.size=s:=ByteArray.ext (by rw[ByteArray.data_extract];exact Array.extract_size);simp only[Builtin.firstCells,e,Sem.run_pure];refine congrArg (fun a=>Result.ok a _) ?_;apply Array.ext';rw[Array.toList_map]) (by intro v hv;obtain⟨b,_,rfl⟩:=List.mem_map.1 hv;rfl) hb
theorem EO {w:World}{t E s bytes:Nat}{z:Value}(he:iw P t E s z bytes)(n:Nat)(parts:Array (Nat×Value))(cells:Array Value)(hn:n * s<=2 ^ 24)
  (hf:Instr.fill (fun i=>some (i * s,s)) ((Array.range (n * s)).map (z.cells[· % z.cells.size]!)) parts.toList=some cells) (hsz:cells.size=n * s) :
  ∃ v w',(Instr.buildSlice t n parts).run P w=.ok (.slice v.1 v.2.1 v.2.2) w'/\aF w' E s v cells.toList/\v.2.1=n/\Fr none1 w w'/\(∀ k,aw v k->w.heap.size<=k):=by
 obtain⟨hu,⟨i,hi,hs,hz,qN⟩,hc,oT⟩:=he;have mv:∀ w,(sizeOf E).run P w=.ok s w:=fun w=>by rw[ko hi,hs]
 unfold Instr.buildSlice;simp only[Sem.run_bind,under hu,Result.andThen_ok,mv];rw[if_neg (by omega)];have fin:∀ zc:Array Value,(Array.range (n * s)).map (zc[· % zc.size]!)=(Array.range (n * s)).map (z.cells[· % z.cells.size]!) ->
   ∃ v w',(match Instr.fill (fun i=>some (i * s,s)) ((Array.range (n * s)).map (zc[· % zc.size]!)) parts.toList with
    | some cells=>(do pure (Value.slice (some (<- newRow E cells)) n n):Sem Value)
    | _ => stuck "buildSlice: a part of the wrong size").run P w = .ok (.slice v.1 v.2.1 v.2.2) w' /\ aF w' E s v cells.toList /\ v.2.1 = n /\ Fr none1 w w' /\ (∀ k, aw v k -> w.heap.size <= k) := fun zc uL => by
  rw[uL,hf];simp only[newRow,Sem.run_bind,run_newObj,Result.andThen_ok,Sem.run_pure];exact⟨(some ⟨w.heap.size,0,none⟩,n,n),_,rfl,.inr ⟨w.heap.size,0,cells,rfl,Array.getElem?_push_size ..,Nat.le_refl _,by rw[hsz];simp,by simpa using hsz,fun j hj=>by simp⟩,rfl,mu _ _,fun k ⟨a,ha,hk⟩=>by injection ha with ha;subst ha;subst hk;exact Nat.le_refl _⟩
 by_cases h:n * s=0
 ·simp only[if_pos h,Sem.run_bind,Sem.run_pure,Result.andThen_ok]
  exact fin #[] (by rw[h];simp)
 ·simp only[if_neg h,Sem.run_bind,qG hi hz,Sem.run_pure,Result.andThen_ok]
  exact fin z.cells rfl
theorem KJ (n:Nat)(zs:Array Value):∀ (vs:List Value) (k:Nat) (pre:List Value),pre.length=k->k+vs.length=n->zs.size=n->(∀ v∈vs,v.cells=#[v])->(∀ cur:Array Value,cur.size=n->cur.toList.take k=pre ->
  ∃ out,Instr.fill (fun i=>some (i * 1,1)) cur ((vs.zipIdx k).map fun(v,i)=>(i,v))=some out/\out.toList=pre++vs)
 | [],k,pre,hp,hk,_,_,cur,hc,ht=>by
  refine⟨cur,rfl,?_⟩;simp only[List.length_nil,Nat.add_zero] at hk;rw[<- ht,List.append_nil,List.take_of_length_le (by simp;omega)]
 | v::vs,k,pre,hp,hk,hz,h1,cur,hc,ht=>by
  simp only[List.length_cons] at hk;have hv:=h1 v (by simp);obtain⟨out,ho,hl⟩:=KJ n zs vs (k+1) (pre++[v]) (by simp[hp]) (by omega) hz (fun u hu=>h1 u (by simp[hu])) (cur.setIfInBounds k v) (by simp[hc]) (by
   rw[Array.toList_setIfInBounds,List.take_succ_eq_append_getElem (by simp;omega),List.take_set_of_le (Nat.le_refl _),ht];simp)
  refine⟨out,?_,by rw[hl];simp⟩;simp only[List.zipIdx_cons,List.map_cons,Instr.fill,hv,Nat.mul_one];rw[if_neg (by simp;omega)];simpa using ho
theorem rN {w:World}{t E bytes:Nat}{z:Value}(he:iw P t E 1 z bytes)(vs:List Value)(h1:∀ v∈vs,v.cells=#[v])(hn:vs.length<=2 ^ 24):
  ∃ v w',(Instr.buildSlice t vs.length ((vs.zipIdx.map fun(v,i)=>(i,v)).toArray)).run P w=.ok (.slice v.1 v.2.1 v.2.2) w'/\aF w' E 1 v vs/\v.2.1=vs.length/\Fr none1 w w'/\(∀ k,aw v k->w.heap.size<=k):=by
 obtain⟨out,ho,hl⟩:=KJ vs.length ((Array.range (vs.length * 1)).map (z.cells[· % z.cells.size]!)) vs 0 [] rfl (by simp) (by simp) h1 ((Array.range (vs.length * 1)).map (z.cells[· % z.cells.size]!)) (by simp) (by simp);obtain⟨v,w',a,b,c⟩:=EO (w:=w) he vs.length ((vs.zipIdx.map fun(v,i)=>(i,v)).toArray) out (by omega) (by simpa using ho) (by rw[<- Array.length_toList,hl];simp);rw[hl] at b;exact⟨v,w',a,by simpa using b,c⟩
theorem R1 {w:World}{t E bytes:Nat}{z:Value}(he:iw P t E 1 z bytes)(R2:z.cells=#[z]){k k':IntKind}{n m:Int}(h0:0<=n)(h1:n<=m)(hb:m.toNat * bytes<=2 ^ 48):
  ∃ v w',(Instr.makeSlice t (.int k n) (.int k' m)).run P w=.ok (.slice v.1 v.2.1 v.2.2) w'/\aF w' E 1 v (List.replicate n.toNat z)/\v.2.1=n.toNat/\v.2.2=m.toNat/\Fr none1 w w'/\(∀ k,aw v k->w.heap.size<=k):=by
 obtain⟨hu,⟨i,hi,hs,hz,qN⟩,hc,oT⟩:=he;have hm:m<=281474976710656:=by
  have:m.toNat * 1<=m.toNat * bytes:=Nat.mul_le_mul_left _ oT;omega
 have nZ:∀ w,(typeInfo E).run P w=.ok i w:=fun w=>by simp[typeInfo,hi]
 have mv:∀ w,(sizeOf E).run P w=.ok 1 w:=fun w=>by rw[ko hi,hs]
 have ha:∀ (k:IntKind) (n:Int) w,(asInt (.int k n)).run P w=.ok n w:=fun _ _ _=>rfl;unfold Instr.makeSlice;simp only[Sem.run_bind,under hu,Result.andThen_ok,ha,nZ,wI (x:=n) (by omega) (by omega),wI (x:=m) (by omega) (by omega)];have R3:¬ ((i.bytes:Int) * m > 2 ^ 48):=by
  rw[qN];have h2:((m.toNat * bytes:Nat):Int)<=281474976710656:=by omega
  have h3:((m.toNat * bytes:Nat):Int)=(bytes:Int) * m:=by
   rw[Int.natCast_mul,Int.toNat_of_nonneg (by omega),Int.mul_comm]
  omega
 rw[if_neg (by simp;omega)];have uM:∀ zc:Array Value,(m.toNat * 1≠0->zc=#[z])->(Array.range (m.toNat * 1)).map (zc[· % zc.size]!)=Array.replicate m.toNat z:=fun zc uL=>by
  by_cases h:m.toNat * 1=0
  ·have:m.toNat=0:=by omega
   rw[this];simp
  ·rw[uL h]
   apply Array.ext
   ·simp
   ·intro j h1 h2
    have:j % 1=0:=Nat.mod_one _;simp[this]
 have fin:∀ w1:World,w1.heap=w.heap->Fr none1 w w1->∀ cs:Array Value,cs=Array.replicate m.toNat z ->
   ∃ v w',(do pure (Value.slice (some (<- newRow E cs)) n.toNat m.toNat):Sem Value).run P w1=.ok (.slice v.1 v.2.1 v.2.2) w'/\aF w' E 1 v (List.replicate n.toNat z)/\v.2.1=n.toNat/\v.2.2=m.toNat/\Fr none1 w w'/\(∀ k,aw v k->w.heap.size<=k):=fun w1 hh f1 cs hcs=>by
  subst hcs;simp only[newRow,Sem.run_bind,run_newObj,Result.andThen_ok,Sem.run_pure];refine⟨(some ⟨w1.heap.size,0,none⟩,n.toNat,m.toNat),_,rfl,.inr ⟨w1.heap.size,0,_,rfl,Array.getElem?_push_size ..,by dsimp only;omega,by simp,by simp,fun j hj=>?_⟩,rfl,rfl,f1.trans (mu _ _),fun k ⟨a,ha,hk⟩=>by injection ha with ha;subst ha;subst hk;rw[hh];exact Nat.le_refl _⟩
  simp at hj;rw[Array.getElem?_replicate,List.getElem?_replicate,if_pos (show 0+j<m.toNat by omega),if_pos (show j<n.toNat by omega)]
 by_cases h:m.toNat * 1=0
 ·simp only[Sem.run_bind,run_askRoom,Result.andThen_ok,mv,if_pos h,Sem.run_pure]
  exact fin w rfl (Fr.refl _ _) _ (uM #[] (fun hh=>absurd h hh))
 ·simp only[Sem.run_bind,run_askRoom,Result.andThen_ok,mv,if_neg h,qG hi hz,Sem.run_pure]
  exact fin w rfl (Fr.refl _ _) _ (uM z.cells (fun _=>R2))
theorem lR {w:World}{t E bytes:Nat}{z:Value}(he:iw P t E 1 z bytes)(v:Value)(h1:v.cells=#[v]):
  ∃ x w',(Instr.buildSlice t 1 #[(0,v)]).run P w=.ok (.slice x.1 x.2.1 x.2.2) w'/\aF w' E 1 x [v]/\x.2.1=1/\Fr none1 w w'/\(∀ k,aw x k->w.heap.size<=k):=
 rN he [v] (by simpa using h1) (by simp)
theorem EP {w:World}{t E bytes:Nat}{z:Value}{x:Sl}{xs:List Value}(he:iw P t E 1 z bytes)(o:TypeId)(hx:aF w E 1 x xs)(v:Value)(h1:v.cells=#[v])(h2:bK v=true)
  (hb:(2 * (x.2.1+1)+192) * bytes<=2 ^ 48) {K:Sl->World->Prop}
  (hK:∀ y w',aF w' E 1 y (xs++[v])->y.2.1=x.2.1+1->Fr (aw x) w w'->(∀ k,aw y k->aw x k\/w.heap.size<=k)->K y w') :
  aA P (Instr.buildSlice t 1 #[(0,v)]) w (.v (.one .aj)) fun(y:Option Addr×Nat×Nat) w'=>aA P (Builtin.append_ #[t,t] o #[.slice x.1 x.2.1 x.2.2,.slice y.1 y.2.1 y.2.2]) w' (.v (.one .aj)) fun(u:Option Addr×Nat×Nat) nW=>K u nW:=by
 obtain⟨y,w1,hr,hy,hl,f1,hf⟩:=lR (w:=w) he v h1;refine⟨y,w1,hr,?_⟩;obtain⟨u,w2,gq,hu,qO,f2,pN⟩:=gE he o (hx.af f1) hy.rd (by simpa using h2) (by rw[hl];exact hb);refine⟨u,w2,gq,hK u w2 hu (by rw[qO,hl]) (f1.eL f2) fun k hk=>?_⟩
 rcases pN k hk with h | h
 ·exact .inl h
 ·exact .inr (Nat.le_trans f1.size h)
theorem aF.st {w:World}{E:Nat}{v:Sl}{xs:List Value}(h:aF w E 1 v xs){K:World->Prop}{i:Int}(h0:0<=i)(h1:i<v.2.1){x:Value}(hx:bK x=true)
  (k:∀ w1,aF w1 E 1 v (xs.set i.toNat x)->Fr (aw v) w w1->w1.heap.size=w.heap.size->K w1):bQ v.1 v.2.1 i 1 fun p=>az p x w K:=by
 rcases h with⟨rfl,rfl⟩ | ⟨g,off,cs,hv,hb,hl,hc,hn,he⟩
 ·simp at h1;omega
 ·refine⟨_,hv,h0,h1,?_⟩
  rw[dT];refine az.of hb (by omega) hx fun w1 au f1 hs=>k w1 (.inr ⟨g,off,_,hv,au,hl,by simpa using hc,by simpa using hn,fun j hj=>?_⟩) (f1.mono fun k _ hk=>⟨_,hv,hk⟩) hs;rw[List.length_set] at hj;rw[Nat.mul_one,Array.getElem?_setIfInBounds,List.getElem?_set]
  by_cases lz:i.toNat=j
  ·subst lz;rw[if_pos rfl,if_pos rfl,if_pos (by omega),if_pos hj]
  ·rw[if_neg (by omega),if_neg lz,he j hj]
theorem wK {w:World}{a:Addr}:∀ (vs:List Value) (i n:Nat),jH w a i vs->jH w a i (vs.take n)
 | [],i,n,_=>by simp;exact trivial
 | v::vs,i,0,_=>trivial
 | v::vs,i,n+1,⟨h1,h2⟩=>⟨h1,wK vs (i+1) n h2⟩
theorem du.sub {w:World}{v:Sl}{xs:List Value}(h:du w 1 v xs){n:Int}(h0:0<=n)(h1:n<=v.2.1)(hc:v.2.1<=v.2.2){K:Option Addr->Nat->Nat->Prop}
  (k:du w 1 (v.1,n.toNat,v.2.2) (xs.take n.toNat)->K v.1 n.toNat v.2.2):eX v.1 v.2.2 0 n v.2.2 1 K:=by
 refine⟨Int.le_refl _,h0,by omega,by omega,?_⟩;have e:(if(v.2.2:Int)=0 then v.1 else v.1.map (·.add ((0:Int).toNat * 1)))=v.1:=by
  split
  ·rfl
  ·cases v.1 with
   | none=>rfl
   | some a=>simp[Addr.add]
 rw[e,Int.sub_zero,Int.sub_zero,Int.toNat_natCast];obtain⟨a,b,c⟩:=h;refine k ⟨by simp;omega,fun hn=>?_,fun x hx=>wK _ _ _ (c x hx)⟩;obtain⟨p,q,r⟩:=b hn;dsimp only;subst r;exact⟨by omega,q,by simp⟩
end Vc
set_option linter.unusedVariables false
open Vc
theorem mZ:iw Tryz.prog 22 5 1 (.int .u8 0) 1:=⟨Tryz.underlying22,⟨Tryz.t5,by kernel_rfl,rfl,rfl,rfl⟩,rfl,by decide⟩
def bc (x:UInt8):Value:=.int .u8 (x.toNat:Int)
def cd (w:World)(v:Sl)(bs:List UInt8):Prop:=aF w 5 1 v (bs.map bc)
def bd (w:World)(v:Sl)(bs:List UInt8):Prop:=du w 1 v (bs.map bc)
theorem cd.rd {w:World}{v:Sl}{bs:List UInt8}(h:cd w v bs):bd w v bs:=aF.rd h
theorem bd.len {w:World}{v:Sl}{bs:List UInt8}(h:bd w v bs):v.2.1=bs.length:=by have:=h.1;simp at this;omega
theorem cd.len {w:World}{v:Sl}{bs:List UInt8}(h:cd w v bs):v.2.1=bs.length:=h.rd.len
theorem bd.af {w w':World}{v:Sl}{bs:List UInt8}(h:bd w v bs)(f:Fr none1 w w'):bd w' v bs:=du.af h f
theorem bd.ag {w w':World}{v:Sl}{bs:List UInt8}(h:bd w v bs){S:Nat->Prop}(f:Fr S w w')(hn:∀ k,aw v k->¬ S k):bd w' v bs:=du.ag h f hn
theorem cd.af {w w':World}{v:Sl}{bs:List UInt8}(h:cd w v bs)(f:Fr none1 w w'):cd w' v bs:=aF.af h f
theorem cd.ag {w w':World}{v:Sl}{bs:List UInt8}(h:cd w v bs){S:Nat->Prop}(f:Fr S w w')(hn:∀ k,aw v k->¬ S k):cd w' v bs:=aF.ag h f hn
theorem KK (bs:List UInt8):∀ v∈bs.map bc,bK v=true:=by
 intro v hv;obtain⟨x,_,rfl⟩:=List.mem_map.1 hv;rfl
theorem rO {w:World}{x y:Sl}{xs ys:List UInt8}(hx:cd w x xs)(hy:bd w y ys)(hl:xs.length+ys.length<=140737488355000):
  ∃ (v:Sl) (w':World),(Builtin.append_ #[22,22] 22 #[.slice x.1 x.2.1 x.2.2,.slice y.1 y.2.1 y.2.2]).run Tryz.prog w=.ok (.slice v.1 v.2.1 v.2.2) w'/\cd w' v (xs++ys)/\Fr (aw x) w w' /\
   (∀ k,aw v k->aw x k\/w.heap.size<=k):=by
 have e1:=hx.len;have e2:=hy.len;obtain⟨v,w',a,b,_,c,d⟩:=gE (P:=Tryz.prog) (s:=1) (xs:=xs.map bc) (ys:=ys.map bc) mZ 22 hx hy (KK ys) (by rw[e1,e2];omega);exact⟨v,w',a,by unfold cd;rw[List.map_append];exact b,c,d⟩
theorem cd.cap {w:World}{v:Sl}{bs:List UInt8}(h:cd w v bs):v.2.1<=v.2.2:=by
 rcases h with⟨rfl,_⟩ | ⟨g,off,cs,h1,h2,h3,_⟩
 ·exact Nat.le_refl _
 ·exact h3
theorem bd.sub {w:World}{v:Sl}{bs:List UInt8}(h:bd w v bs){n:Int}(h0:0<=n)(h1:n<=v.2.1)(hc:v.2.1<=v.2.2){K:Option Addr->Nat->Nat->Prop}
  (k:bd w (v.1,n.toNat,v.2.2) (bs.take n.toNat)->K v.1 n.toNat v.2.2):eX v.1 v.2.2 0 n v.2.2 1 K:=by
 refine du.sub h h0 h1 hc fun t=>k ?_;unfold bd;rw[List.map_take];exact t
abbrev ad (g:Nat):Addr:=⟨g,0,none⟩
abbrev an:=Option Addr×Nat×Nat
abbrev R4:List Ck:=[.int .i64,.aj,.ptr,.map]
abbrev KL:=Int×an×Option Addr×Option Nat×Unit
abbrev R5 (x:KL):List Value:=[.int .i64 x.1,.slice x.2.1.1 x.2.1.2.1 x.2.1.2.2,.pointer x.2.2.1,.map x.2.2.2.1]
abbrev wL:List Ck:=[.bool,.str,.str,.int .i64,.int .i64]
abbrev oa:=Bool×ByteArray×ByteArray×Int×Int×Unit
abbrev nf (x:oa):List Value:=[.bool x.1,.string x.2.1,.string x.2.2.1,.int .i64 x.2.2.2.1,.int .i64 x.2.2.2.2.1]
abbrev dK:List Ck:=[.int .i64,.str,.str,.str,.str,.int .i64,.int .i64,.raw]
abbrev bE:=Int×ByteArray×ByteArray×ByteArray×ByteArray×Int×Int×Value×Unit
abbrev bT (x:bE):List Value:=[.int .i64 x.1,.string x.2.1,.string x.2.2.1,.string x.2.2.2.1,.string x.2.2.2.2.1,.int .i64 x.2.2.2.2.2.1,.int .i64 x.2.2.2.2.2.2.1,x.2.2.2.2.2.2.2.1]
abbrev lS:List Ck:=[.int .i64,.str,.str,.str,.str,.int .i64,.int .i64,.raw,.bool]
abbrev iI:=Int×ByteArray×ByteArray×ByteArray×ByteArray×Int×Int×Value×Bool×Unit
abbrev iX (x:iI):List Value:=[.int .i64 x.1,.string x.2.1,.string x.2.2.1,.string x.2.2.2.1,.string x.2.2.2.2.1,.int .i64 x.2.2.2.2.2.1,.int .i64 x.2.2.2.2.2.2.1,x.2.2.2.2.2.2.2.1,.bool x.2.2.2.2.2.2.2.2.1]
abbrev fP:List Ck:=[.int .i64,.int .i64,.int .i64,.int .i64,.int .i64,.int .u64,.bool,.int .i64,.str,.str,.str,.str,.int .i64,.int .i64,.raw]
abbrev dr:=Int×Int×Int×Int×Int×Int×Bool×Int×ByteArray×ByteArray×ByteArray×ByteArray×Int×Int×Value×Unit
abbrev dx (x:dr):List Value:=[.int .i64 x.1,.int .i64 x.2.1,.int .i64 x.2.2.1,.int .i64 x.2.2.2.1,.int .i64 x.2.2.2.2.1,.int .u64 x.2.2.2.2.2.1,.bool x.2.2.2.2.2.2.1,.int .i64 x.2.2.2.2.2.2.2.1,.string x.2.2.2.2.2.2.2.2.1,.string x.2.2.2.2.2.2.2.2.2.1,.string x.2.2.2.2.2.2.2.2.2.2.1,.string x.2.2.2.2.2.2.2.2.2.2.2.1,.int .i64 x.2.2.2.2.2.2.2.2.2.2.2.2.1,.int .i64 x.2.2.2.2.2.2.2.2.2.2.2.2.2.1,x.2.2.2.2.2.2.2.2.2.2.2.2.2.2.1]
abbrev cR:List Ck:=[.bool,.bool,.int .i64,.str,.str,.str,.str,.int .i64,.int .i64,.raw,.bool,.int .i64,.str,.str,.str,.str,.int .i64,.int .i64,.raw,.bool,.bool,.bool,.bool,.aj]
abbrev cz:=Bool×Bool×Int×ByteArray×ByteArray×ByteArray×ByteArray×Int×Int×Value×Bool×Int×ByteArray×ByteArray×ByteArray×ByteArray×Int×Int×Value×Bool×Bool×Bool×Bool×an×Unit
abbrev cF (x:cz):List Value:=[.bool x.1,.bool x.2.1,.int .i64 x.2.2.1,.string x.2.2.2.1,.string x.2.2.2.2.1,.string x.2.2.2.2.2.1,.string x.2.2.2.2.2.2.1,.int .i64 x.2.2.2.2.2.2.2.1,.int .i64 x.2.2.2.2.2.2.2.2.1,x.2.2.2.2.2.2.2.2.2.1,.bool x.2.2.2.2.2.2.2.2.2.2.1,.int .i64 x.2.2.2.2.2.2.2.2.2.2.2.1,.string x.2.2.2.2.2.2.2.2.2.2.2.2.1,.string x.2.2.2.2.2.2.2.2.2.2.2.2.2.1,.string x.2.2.2.2.2.2.2.2.2.2.2.2.2.2.1,.string x.2.2.2.2.2.2.2.2.2.2.2.2.2.2.2.1,.int .i64 x.2.2.2.2.2.2.2.2.2.2.2.2.2.2.2.2.1,.int .i64 x.2.2.2.2.2.2.2.2.2.2.2.2.2.2.2.2.2.1,x.2.2.2.2.2.2.2.2.2.2.2.2.2.2.2.2.2.2.1,.bool x.2.2.2.2.2.2.2.2.2.2.2.2.2.2.2.2.2.2.2.1,.bool x.2.2.2.2.2.2.2.2.2.2.2.2.2.2.2.2.2.2.2.2.1,.bool x.2.2.2.2.2.2.2.2.2.2.2.2.2.2.2.2.2.2.2.2.2.1,.bool x.2.2.2.2.2.2.2.2.2.2.2.2.2.2.2.2.2.2.2.2.2.2.1,.slice x.2.2.2.2.2.2.2.2.2.2.2.2.2.2.2.2.2.2.2.2.2.2.2.1.1 x.2.2.2.2.2.2.2.2.2.2.2.2.2.2.2.2.2.2.2.2.2.2.2.1.2.1 x.2.2.2.2.2.2.2.2.2.2.2.2.2.2.2.2.2.2.2.2.2.2.2.1.2.2]
abbrev R6:List Ck:=[.int .u8,.int .u8,.int .u8,.int .u8,.int .u8,.int .u8,.int .u8,.int .u8,.int .u8,.int .u8,.int .u8,.int .u8,.int .u8,.int .u8,.int .u8,.int .u8,.int .i64,.ptr,.ptr,.int .i64,.str,.str,.str,.str,.int .i64,.int .i64,.raw,.bool,.int .i64,.str,.str,.str,.str,.int .i64,.int .i64,.raw,.bool,.bool,.bool,.int .i64]
abbrev KM:=Int×Int×Int×Int×Int×Int×Int×Int×Int×Int×Int×Int×Int×Int×Int×Int×Int×Option Addr×Option Addr×Int×ByteArray×ByteArray×ByteArray×ByteArray×Int×Int×Value×Bool×Int×ByteArray×ByteArray×ByteArray×ByteArray×Int×Int×Value×Bool×Bool×Bool×Int×Unit
abbrev R7 (x:KM):List Value:=[.int .u8 x.1,.int .u8 x.2.1,.int .u8 x.2.2.1,.int .u8 x.2.2.2.1,.int .u8 x.2.2.2.2.1,.int .u8 x.2.2.2.2.2.1,.int .u8 x.2.2.2.2.2.2.1,.int .u8 x.2.2.2.2.2.2.2.1,.int .u8 x.2.2.2.2.2.2.2.2.1,.int .u8 x.2.2.2.2.2.2.2.2.2.1,.int .u8 x.2.2.2.2.2.2.2.2.2.2.1,.int .u8 x.2.2.2.2.2.2.2.2.2.2.2.1,.int .u8 x.2.2.2.2.2.2.2.2.2.2.2.2.1,.int .u8 x.2.2.2.2.2.2.2.2.2.2.2.2.2.1,.int .u8 x.2.2.2.2.2.2.2.2.2.2.2.2.2.2.1,.int .u8 x.2.2.2.2.2.2.2.2.2.2.2.2.2.2.2.1,.int .i64 x.2.2.2.2.2.2.2.2.2.2.2.2.2.2.2.2.1,.pointer x.2.2.2.2.2.2.2.2.2.2.2.2.2.2.2.2.2.1,.pointer x.2.2.2.2.2.2.2.2.2.2.2.2.2.2.2.2.2.2.1,.int .i64 x.2.2.2.2.2.2.2.2.2.2.2.2.2.2.2.2.2.2.2.1,.string x.2.2.2.2.2.2.2.2.2.2.2.2.2.2.2.2.2.2.2.2.1,.string x.2.2.2.2.2.2.2.2.2.2.2.2.2.2.2.2.2.2.2.2.2.1,.string x.2.2.2.2.2.2.2.2.2.2.2.2.2.2.2.2.2.2.2.2.2.2.1,.string x.2.2.2.2.2.2.2.2.2.2.2.2.2.2.2.2.2.2.2.2.2.2.2.1,.int .i64 x.2.2.2.2.2.2.2.2.2.2.2.2.2.2.2.2.2.2.2.2.2.2.2.2.1,.int .i64 x.2.2.2.2.2.2.2.2.2.2.2.2.2.2.2.2.2.2.2.2.2.2.2.2.2.1,x.2.2.2.2.2.2.2.2.2.2.2.2.2.2.2.2.2.2.2.2.2.2.2.2.2.2.1,.bool x.2.2.2.2.2.2.2.2.2.2.2.2.2.2.2.2.2.2.2.2.2.2.2.2.2.2.2.1,.int .i64 x.2.2.2.2.2.2.2.2.2.2.2.2.2.2.2.2.2.2.2.2.2.2.2.2.2.2.2.2.1,.string x.2.2.2.2.2.2.2.2.2.2.2.2.2.2.2.2.2.2.2.2.2.2.2.2.2.2.2.2.2.1,.string x.2.2.2.2.2.2.2.2.2.2.2.2.2.2.2.2.2.2.2.2.2.2.2.2.2.2.2.2.2.2.1,.string x.2.2.2.2.2.2.2.2.2.2.2.2.2.2.2.2.2.2.2.2.2.2.2.2.2.2.2.2.2.2.2.1,.string x.2.2.2.2.2.2.2.2.2.2.2.2.2.2.2.2.2.2.2.2.2.2.2.2.2.2.2.2.2.2.2.2.1,.int .i64 x.2.2.2.2.2.2.2.2.2.2.2.2.2.2.2.2.2.2.2.2.2.2.2.2.2.2.2.2.2.2.2.2.2.1,.int .i64 x.2.2.2.2.2.2.2.2.2.2.2.2.2.2.2.2.2.2.2.2.2.2.2.2.2.2.2.2.2.2.2.2.2.2.1,x.2.2.2.2.2.2.2.2.2.2.2.2.2.2.2.2.2.2.2.2.2.2.2.2.2.2.2.2.2.2.2.2.2.2.2.1,.bool x.2.2.2.2.2.2.2.2.2.2.2.2.2.2.2.2.2.2.2.2.2.2.2.2.2.2.2.2.2.2.2.2.2.2.2.2.1,.bool x.2.2.2.2.2.2.2.2.2.2.2.2.2.2.2.2.2.2.2.2.2.2.2.2.2.2.2.2.2.2.2.2.2.2.2.2.2.1,.bool x.2.2.2.2.2.2.2.2.2.2.2.2.2.2.2.2.2.2.2.2.2.2.2.2.2.2.2.2.2.2.2.2.2.2.2.2.2.2.1,.int .i64 x.2.2.2.2.2.2.2.2.2.2.2.2.2.2.2.2.2.2.2.2.2.2.2.2.2.2.2.2.2.2.2.2.2.2.2.2.2.2.2.1]
def toByte (z:Int):UInt8:=UInt8.ofNat z.toNat
theorem R8 {z:Int}(h:(Lit.int .u8 z).wf=true):Value.int .u8 z=bc (toByte z):=by
 simp[Lit.wf,IntKind.min,IntKind.max,IntKind.signed,IntKind.bits] at h;unfold bc toByte;rw[UInt8.toNat_ofNat',Nat.mod_eq_of_lt (by omega)]
 congr 1;omega
theorem KN {w:World}{x:Addr}:∀ (vs:List Value) (i:Nat),(∀ j,j<vs.length->w.cell? (x.add (i+j))=vs[j]?)->jH w x i vs
 | [],_,_=>trivial
 | v::vs,i,h=>⟨by have:=h 0 (by simp);simpa using this,KN vs (i+1) fun j hj=>by
   have:=h (j+1) (by simp;omega);rw[show i+(j+1)=i+1+j by omega] at this;simpa using this⟩
theorem R9 {w:World}{a:Option Addr}{len cap:Nat}{zs:List Int}(h:IsInts .u8 w a len cap zs):bd w (a,len,cap) ((zs.take len).map toByte)/\len<=cap:=by
 rcases h with⟨rfl,rfl,rfl,rfl⟩ | ⟨x,rfl,hl,hc,hz,hcell,hw⟩
 ·exact⟨⟨rfl,fun _=>⟨rfl,rfl,rfl⟩,fun a ha=>by cases ha⟩,Nat.le_refl _⟩
 ·refine⟨⟨by simp;omega,(fun t=>nomatch t),fun b hb=>?_⟩,hl⟩
  injection hb with hb;subst hb
  refine KN _ 0 fun j hj=>?_;simp at hj;rw[Nat.zero_add,hcell j (by omega),List.getElem?_map,List.getElem?_map,List.getElem?_take_of_lt (by omega),List.getD_eq_getElem?_getD,List.getElem?_eq_getElem (by omega)];simp only[Option.map_some,Option.getD_some];rw[R8 (hw _ (List.getElem_mem _))]
theorem ER (w:World):cd w (none,0,0) []:=.inl ⟨rfl,rfl⟩
theorem bd.at {w:World}{v:Sl}{bs:List UInt8}(h:bd w v bs){K:Int->Prop}{i:Int}(h0:0<=i)(h1:i<v.2.1)(k:K ((bs.getD i.toNat 0).toNat:Int)):bQ v.1 v.2.1 i 1 fun p=>ae (.int .u8) p w K:=by
 have hl:=h.len;refine du.ld h h0 h1 (x:=((bs.getD i.toNat 0).toNat:Int)) ?_ k;rw[List.getElem?_map,List.getElem?_eq_getElem (by omega),List.getD_eq_getElem?_getD,List.getElem?_eq_getElem (by omega)];rfl
theorem ES (m:Int):IntKind.u64.wrap m=m % 18446744073709551616:=by
 simp[IntKind.wrap,IntKind.signed,IntKind.bits]
theorem wM (m:Nat):IntKind.u64.wrap (m:Int)=((m % 18446744073709551616:Nat):Int):=by
 rw[ES];omega
theorem yM (m:Nat):(BitVec.ofInt 64 (m:Int)).toNat=m % 18446744073709551616:=by
 rw[BitVec.toNat_ofInt];show((m:Int) % ((18446744073709551616:Nat):Int)).toNat=_;omega
theorem yN (x k:Nat)(hk:k<64):IntKind.u64.wrap ((x:Int) * 2 ^ (min k 64))=((x * 2 ^ k % 18446744073709551616:Nat):Int):=by
 have e1:((x:Int) * 2 ^ (min k 64))=((x * 2 ^ k:Nat):Int):=by
  rw[Nat.min_eq_left (by omega)];norm_cast
 rw[e1,wM]
theorem yO (a b:Nat)(ha:a<18446744073709551616)(hb:b<18446744073709551616):IntKind.u64.wrap ((BitVec.ofInt 64 (a:Int) ||| BitVec.ofInt 64 (b:Int)).toNat:Int)=((a ||| b:Nat):Int):=by
 rw[wM,BitVec.toNat_or,yM,yM,Nat.mod_eq_of_lt ha,Nat.mod_eq_of_lt hb];have:=Nat.or_lt_two_pow (x:=a) (y:=b) (n:=64) ha hb;rw[Nat.mod_eq_of_lt this]
theorem BQ (x k:Nat)(hk:k<64):Int.fdiv (x:Int) (2 ^ (min k 64))=((x / 2 ^ k:Nat):Int):=by
 have e:(2:Int) ^ (min k 64)=((2 ^ k:Nat):Int):=by
  rw[Nat.min_eq_left (by omega)];norm_cast
 rw[e,Int.fdiv_eq_ediv_of_nonneg _ (Int.natCast_nonneg _)];rfl
set_option maxRecDepth 100000
def C110 (p0:Int)(w:World)(K:Value->World->Prop):Prop:=
 aA Tryz.prog (Instr.makeSlice 22 (.int .i64 8) (.int .i64 8)) w (.v (.one .aj)) (fun(x1:an) w2=>bC (Int×Unit) (fun _ s3 w4 kV=>aa (decide (s3.1<(x1.2.1:Int)))
 (jJ (IntKind.i64.wrap (56 - (IntKind.i64.wrap (8 * s3.1)))) (bQ x1.1 x1.2.1 s3.1 1 (fun a6=>az a6 (.int .u8 (IntKind.u8.wrap (Int.fdiv (IntKind.u64.wrap p0) (2 ^ (min (Int.toNat (IntKind.i64.wrap (56 - (IntKind.i64.wrap (8 * s3.1))))) 64))))) w4 (fun w7=>kV (IntKind.i64.wrap (s3.1+1),()) w7))))
 (K (.slice x1.1 x1.2.1 x1.2.2) w4))
 (0,()) w2)
def pl110:aB:=(.seq .auto (.seq .auto (.seq (.seq .auto (.block (.loop [(8,.one (.int .i64))] .auto))) .auto)))
theorem c110 (p0:Int)(w:World)(K:Value->World->Prop)(h:C110 p0 w K):Ret Tryz.prog 110 #[.int .i64 p0] w K:=aC (by kernel_rfl) Tryz.func110 (p:=pl110) (Eq.mpr (by kernel_rfl) h)
def C107 (p0:Option Addr)(aJ aP:Nat)(w:World)(K:Value->World->Prop):Prop:=
 aa ((aJ:Int) != 8)
 (K (.tuple #[.int .i64 0,.bool false]) w)
 (bC (Int×Int×Unit) (fun _ s1 w2 gO=>aa (decide (s1.2.1<(aJ:Int)))
 (bQ p0 aJ s1.2.1 1 (fun a4=>ae (.int .u8) a4 w2 (fun(x5:Int)=>jJ 8 (gO (IntKind.u64.wrap ((BitVec.ofInt 64 (IntKind.u64.wrap (s1.1 * 2 ^ (min (Int.toNat 8) 64))) ||| BitVec.ofInt 64 (IntKind.u64.wrap x5)).toNat:Int),IntKind.i64.wrap (s1.2.1+1),()) w2))))
 (K (.tuple #[.int .i64 (IntKind.i64.wrap s1.1),.bool true]) w2))
 (0,0,()) w)
def pl107:aB:=(.seq .auto (.seq .auto (.seq .auto (.seq (.seq .auto (.block (.loop [(4,.one (.int .u64)),(12,.one (.int .i64))] .auto))) .auto))))
theorem c107 (p0:Option Addr)(aJ aP:Nat)(w:World)(K:Value->World->Prop)(h:C107 p0 aJ aP w K):Ret Tryz.prog 107 #[.slice p0 aJ aP] w K:=aC (by kernel_rfl) Tryz.func107 (p:=pl107) (Eq.mpr (by kernel_rfl) h)
def my:Nat->Nat->List UInt8
 | 0,_=>[]
 | k+1,m=>my k (m / 256)++[UInt8.ofNat (m % 256)]
def fH (bs:List UInt8):Nat:=bs.foldl (fun m b=>m * 256+b.toNat) 0
theorem ET (bs:List UInt8)(b:UInt8):fH (bs++[b])=fH bs * 256+b.toNat:=by unfold fH;rw[List.foldl_append];rfl
theorem uN:∀ k m,(my k m).length=k
 | 0,_=>rfl
 | k+1,m=>by unfold my;rw[List.length_append,uN k];rfl
theorem oU {n:Nat}(h:n<256):(UInt8.ofNat n).toNat=n:=by rw[UInt8.toNat_ofNat'];exact Nat.mod_eq_of_lt h
theorem KO:∀ k m,fH (my k m)=m % 256 ^ k
 | 0,m=>by unfold my fH;simp[Nat.mod_one]
 | k+1,m=>by
  unfold my;rw[ET,KO k,oU (Nat.mod_lt _ (by decide)),Nat.pow_succ];have h:=Nat.mod_mul (x:=m) (a:=256) (b:=256 ^ k);rw[Nat.mul_comm (256 ^ k) 256,h];omega
theorem Sa {α:Type}{Q:List α->Prop}(h0:Q [])(h1:∀ l a,Q l->Q (l++[a])):∀ l,Q l:=fun l=>by
 have h:∀ r:List α,Q r.reverse:=fun r=>by
  induction r with
  | nil=>exact h0
  | cons a r ih=>rw[List.reverse_cons];exact h1 _ _ ih
 have:=h l.reverse;rwa[List.reverse_reverse] at this
theorem EU:∀ bs:List UInt8,fH bs<256 ^ bs.length:=by
 refine Sa (by decide) fun l a ih=>?_;rw[ET,List.length_append,List.length_singleton,Nat.pow_succ];have:=a.toNat_lt;omega
theorem KP:∀ (k m i:Nat),i<k->(my k m)[i]? = some (UInt8.ofNat (m / 256 ^ (k - 1 - i) % 256))
 | 0,_,_,h=>by omega
 | k+1,m,i,h=>by
  unfold my
  by_cases hi:i<k
  ·rw[List.getElem?_append_left (by rw[uN];exact hi),KP k _ i hi,Nat.div_div_eq_div_mul,<- Nat.pow_succ',show(k - 1 - i).succ=k+1 - 1 - i by omega]
  ·have:i=k:=by omega
   subst this;rw[List.getElem?_append_right (by rw[uN];exact Nat.le_refl _),uN,Nat.sub_self];simp
def cu (n:Int):List UInt8:=my 8 (n % 18446744073709551616).toNat
theorem iJ (n:Int):(cu n).length=8:=uN _ _
theorem Sb (n:Int):fH (cu n)=(n % 18446744073709551616).toNat:=by
 unfold cu;rw[KO,show 256 ^ 8=18446744073709551616 by decide];omega
theorem EV (m:Nat):IntKind.u8.wrap (m:Int)=((m % 256:Nat):Int):=by
 simp[IntKind.wrap,IntKind.signed,IntKind.bits]
theorem KQ (n:Int)(w:World):Ret Tryz.prog 110 #[.int .i64 n] w fun r w'=>∃ u:Sl,r=.slice u.1 u.2.1 u.2.2/\cd w' u (cu n)/\Fr none1 w w'/\∀ k,aw u k->w.heap.size<=k:=by
 refine c110 n w _ ?_;obtain⟨x,w1,hr,hx,kW,hxc,f1,KR⟩:=R1 (P:=Tryz.prog) (w:=w) (k:=.i64) (k':=.i64) (n:=8) (m:=8) mZ rfl (by omega) (by omega) (by decide);refine⟨x,w1,hr,?_⟩;have yP:cd w1 x (List.replicate 8 0):=hx;obtain⟨M,hM⟩:∃ M:Nat,M=(n % 18446744073709551616).toNat:=⟨_,rfl⟩;have Sc:IntKind.u64.wrap n=(M:Int):=by rw[ES];omega
 have aci:M<18446744073709551616:=by omega
 have kX:cu n=my 8 M:=by rw[hM];rfl
 rw[kX];have acj:x.2.1=8:=kW;refine bC.of (fun s w'=>∃ i:Nat,s.1=i/\i<=8/\cd w' x ((my 8 M).take i++List.replicate (8 - i) 0)/\Fr (aw x) w1 w') (fun s _=>(8 - s.1).toNat) ⟨0,rfl,by omega,yP,Fr.refl _ _⟩ ?_;rintro _ ⟨i',_⟩ w2 ⟨i,hi,yQ,hb,f2⟩;dsimp only at hi ⊢;subst hi;refine aa.dec (fun aU=>?_) (fun eu=>?_)
 ·have KS:i<8:=by omega
  have e1:IntKind.i64.wrap (56 - IntKind.i64.wrap (8 * (i:Int)))=((8 * (7 - i):Nat):Int):=by
   rw[wI (x:=8 * (i:Int)) (by omega) (by omega),wI (by omega) (by omega)];omega
  rw[e1];refine⟨by omega,?_⟩;rw[Int.toNat_natCast,Sc,BQ M (8 * (7 - i)) (by omega),EV,show 2 ^ (8 * (7 - i))=256 ^ (7 - i) by rw[Nat.pow_mul]];have hv:Value.int .u8 ((M / 256 ^ (7 - i) % 256:Nat):Int)=bc (UInt8.ofNat (M / 256 ^ (7 - i) % 256)):=by
   unfold bc;rw[oU (Nat.mod_lt _ (by decide))]
  rw[hv];refine aF.st hb (by omega) aU rfl fun w3 aR f3 _=>?_;refine⟨⟨i+1,by rw[wI (by omega) (by omega)];omega,by omega,?_,f2.trans f3⟩,by rw[wI (by omega) (by omega)];omega⟩;unfold cd;rw[<- List.map_set,Int.toNat_natCast] at aR;have hl:(((my 8 M).take i++List.replicate (8 - i) 0).set i (UInt8.ofNat (M / 256 ^ (7 - i) % 256)))=(my 8 M).take (i+1)++List.replicate (8 - (i+1)) 0:=by
   have hd:=KP 8 M i KS;have hlen:((my 8 M).take i).length=i:=by rw[List.length_take,uN];omega
   rw[List.set_append_right _ _ (by omega),hlen,Nat.sub_self,List.take_add_one,hd,show 8 - i=(8 - (i+1))+1 by omega,List.replicate_succ];simp
  rw[hl] at aR;exact aR
 ·have:i=8:=by omega
  subst this;rw[List.take_of_length_le (by rw[uN];omega)] at hb;have gv:cd w2 x (my 8 M):=by simpa using hb
  exact⟨x,rfl,gv,f1.comp f2 fun k hk t=>by have:=KR k t;omega,KR⟩
def ia (bs:List UInt8):Int×Bool:=if bs.length=8 then(IntKind.i64.wrap (fH bs:Int),true) else(0,false)
theorem Sd (m:Nat)(b:UInt8)(hm:m<72057594037927936):IntKind.u64.wrap ((BitVec.ofInt 64 (IntKind.u64.wrap ((m:Int) * 2 ^ (min (Int.toNat 8) 64))) ||| BitVec.ofInt 64 (IntKind.u64.wrap (b.toNat:Int))).toNat:Int)=((m * 256+b.toNat:Nat):Int):=by
 have hb:=b.toNat_lt;rw[show Int.toNat 8=8 from rfl,yN m 8 (by omega),wM b.toNat,Nat.mod_eq_of_lt (show m * 2 ^ 8<18446744073709551616 by omega),Nat.mod_eq_of_lt (show b.toNat<18446744073709551616 by omega),yO _ _ (by omega) (by omega)]
 congr 1
 rw[<- Nat.shiftLeft_eq,<- Nat.shiftLeft_add_eq_or_of_lt (show b.toNat<2 ^ 8 from hb),Nat.shiftLeft_eq]
theorem EW (bs:List UInt8)(i:Nat)(h:i<bs.length):fH (bs.take (i+1))=fH (bs.take i) * 256+(bs.getD i 0).toNat:=by
 rw[List.take_add_one,List.getElem?_eq_getElem h,List.getD_eq_getElem?_getD,List.getElem?_eq_getElem h];exact ET _ _
theorem Se (bs:List UInt8)(i:Nat)(h:i<=7):fH (bs.take i)<72057594037927936:=by
 have h1:=EU (bs.take i);have h2:256 ^ (bs.take i).length<=256 ^ 7:=Nat.pow_le_pow_right (by decide) (by rw[List.length_take];omega);have:(256:Nat) ^ 7=72057594037927936:=by decide
 omega
theorem BR {w:World}{v:Sl}{bs:List UInt8}(h:bd w v bs):
  Ret Tryz.prog 107 #[.slice v.1 v.2.1 v.2.2] w fun r w'=>r=.tuple #[.int .i64 (ia bs).1,.bool (ia bs).2]/\w=w':=by
 refine c107 v.1 v.2.1 v.2.2 w _ ?_;have cO:=h.len;unfold ia;refine aa.ne (fun ay=>?_) (fun heq=>?_)
 ·rw[if_neg (by omega)];exact⟨rfl,rfl⟩
 rw[if_pos (by omega)];refine bC.of (fun s w'=>∃ i:Nat,s.2.1=i/\i<=8/\s.1=(fH (bs.take i):Int)/\w=w') (fun s _=>(8 - s.2.1).toNat) ⟨0,rfl,by omega,rfl,rfl⟩ ?_;rintro _ ⟨m,i',_⟩ _ ⟨i,hi,yQ,hm,rfl⟩;dsimp only at hi hm ⊢;subst hi hm;refine aa.dec (fun aU=>?_) (fun eu=>?_)
 ·have KS:i<8:=by omega
  refine bd.at h (by omega) aU ?_;refine⟨by omega,?_⟩;rw[Int.toNat_natCast,Sd _ _ (Se bs i (by omega)),wI (by omega) (by omega)];refine⟨⟨i+1,by omega,by omega,?_,rfl⟩,by omega⟩;rw[EW bs i (by omega)]
 ·rw[List.take_of_length_le (by omega)];exact⟨rfl,rfl⟩
theorem BS (n:Int)(h0:-9223372036854775808<=n)(h1:n<=9223372036854775807):ia (cu n)=(n,true):=by
 unfold ia;rw[if_pos (iJ n),Sb]
 congr 1
 simp[IntKind.wrap,IntKind.signed,IntKind.bits];split<;>omega
namespace Vc
variable {P:Program}
theorem wN {w:World}{g:Nat}{es:Array MapEntry}{c:Nat}(h:w.heap[g]? = some (.map es c)):(getObj g).run P w=.ok (.map es c) w:=by
 simp[getObj,Sem.run,h]
theorem wO {w:World}{g:Nat}{es KT:Array MapEntry}{c c':Nat}(h:w.heap[g]? = some (.map es c)):(setObj g (.map KT c')).run P w=.ok () { w with heap:=w.heap.setIfInBounds g (.map KT c') }:=by
 simp[setObj,Sem.run,h]
theorem wP (w:World)(g:Nat)(o:Obj):Fr (only g) w { w with heap:=w.heap.setIfInBounds g o }:=
 ⟨rfl,rfl,rfl,by simp,fun k _ hn=>by
  show(w.heap.setIfInBounds g o)[k]? = _;rw[Array.getElem?_setIfInBounds_ne (fun e=>hn e.symm)]⟩
theorem heap_set {h:Array Obj}{g:Nat}(hg:g<h.size)(o:Obj):(h.setIfInBounds g o)[g]? = some o:=by simp[hg]
end Vc
namespace Vc
variable {P:Program}
theorem Sf {t:TypeId}(ht:P.underlying t=some .string)(b:Bool)(s:ByteArray)(w:World):(Instr.checkKey b 10000 t (.string s)).run P w=.ok () w:=by
 show(Instr.checkKey b (9999+1) t (.string s)).run P w=.ok () w;unfold Instr.checkKey;simp only[Sem.run_bind,under ht,Result.andThen_ok];rfl
theorem Sg {a b:ByteArray}(h:a≠b):(a==b)=false:=by
 cases hb:(a==b) with
 | false=>rfl
 | true=>
  exfalso;apply h
  cases a;cases b;have:(ByteArray.beq _ _)=true:=hb;unfold ByteArray.beq at this;simp at this;rw[this]
theorem KU (s:ByteArray):∀ (es:List MapEntry) (i:Nat),(∀ e∈es,∃ s',e.key=.string s'/\s≠s')->Instr.findNow .string (.string s) es i=some none
 | [],_,_=>rfl
 | e::es,i,h=>by
  obtain⟨s',hk,ay⟩:=h e (by simp);have hs:Instr.sameNow .string (.string s) e.key=some false:=by rw[hk];exact congrArg some (Sg ay)
  simp only[Instr.findNow,hs];exact KU s es (i+1) fun x hx=>h x (by simp[hx])
theorem BT {t k el:TypeId}{w:World}{g:Nat}{es:Array MapEntry}{c:Nat}(hb:w.heap[g]? = some (.map es c))(s:ByteArray)(v:Value)(ht:P.underlying t=some (.map k el))(hk:P.underlying k=some .string)
  (hn:∀ e∈es.toList,∃ s',e.key=.string s'/\s≠s') {K:World->Prop}
  (h:∀ w',w'.heap[g]? = some (.map (es.push { key:=.string s,val:=v,born:=c }) (c+1))->Fr (only g) w w'->w'.heap.size=w.heap.size->K w'):js P (Instr.mapUpdate t (.map (some g)) (.string s) v) w K:=by
 have aU:=bL hb;refine⟨_,?_,h _ (heap_set aU _) (wP _ _ _) (by simp)⟩;have hf:(Instr.findKey k (.string s) es.toList).run P w=.ok none w:=by
  unfold Instr.findKey;simp only[Sem.run_bind,under hk,Result.andThen_ok,KU s es.toList 0 hn];rfl
 unfold Instr.mapUpdate;simp only[Sem.run_bind,under ht,Result.andThen_ok,wN hb,Sf hk,hf,wO hb]
structure mz (w:World)(r m:Nat)(es:Array MapEntry)(c:Nat)(seen:Array Nat):Prop where
 it:w.heap[r]? = some (.mapIter (some m) c seen c)
 map:w.heap[m]? = some (.map es c)
 EX:∀ x∈es.toList,x.born<c
 nodup:(es.toList.map (·.born)).Nodup
theorem mz.ag {w w':World}{r m:Nat}{es:Array MapEntry}{c:Nat}{seen:Array Nat}(h:mz w r m es c seen){S:Nat->Prop}(f:Fr S w w')(h1:¬ S r)(h2:¬ S m):mz w' r m es c seen:=
 ⟨f.ag h.it h1,f.ag h.map h2,h.EX,h.nodup⟩
theorem mz.af {w w':World}{r m:Nat}{es:Array MapEntry}{c:Nat}{seen:Array Nat}(h:mz w r m es c seen)(f:Fr none1 w w'):mz w' r m es c seen:=h.ag f (fun t=>t) (fun t=>t)
def wQ (w:World)(r m:Nat):Nat:=match w.heap[r]?,w.heap[m]? with
 | some (.mapIter _ _ seen _),some (.map es _)=>(leftOf es seen).size
 | _,_=>0
theorem mz.left {w:World}{r m:Nat}{es:Array MapEntry}{c:Nat}{seen:Array Nat}(h:mz w r m es c seen):wQ w r m=(leftOf es seen).size:=by
 unfold wQ;rw[h.it,h.map]
theorem Sh {t k el:TypeId}{w:World}{m:Nat}{es:Array MapEntry}{c:Nat}(ht:P.underlying t=some (.map k el))(hb:w.heap[m]? = some (.map es c))(ho:∀ x∈es.toList,x.born<c)(hn:(es.toList.map (·.born)).Nodup){K:Option Addr->World->Prop}
  (h:∀ r w1,r=w.heap.size->mz w1 r m es c #[]->Fr none1 w w1->K (some ⟨r,0,none⟩) w1):aA P (Instr.range t (.map (some m))) w (.v (.one .ptr)) K:=by
 refine⟨some ⟨w.heap.size,0,none⟩,{ w with heap:=w.heap.push (.mapIter (some m) c #[] c) },?_,h _ _ rfl ⟨by simp,(mu w _).af hb,ho,hn⟩ (mu w _)⟩
 simp[Instr.range,under ht,wN hb,newObj,Sem.run];rfl
theorem KV {ty:TypeId}{w:World}{r m:Nat}{es:Array MapEntry}{c:Nat}{seen:Array Nat}(h:mz w r m es c seen){yes:Value->Value->World->Prop}{no:World->Prop}(yR:r≠m)
  (hy:∀ e,e∈es.toList->seen.contains e.born=false->∀ w1,mz w1 r m es c (seen.push e.born)->Fr (only r) w w1->wQ w1 r m<wQ w r m ->
   (∀ {K:Value×Value×Unit->World->Prop},K (e.key,e.val,()) w1->aA P (Instr.entry (.pointer (some ⟨r,0,none⟩))) w1 (.aN [.one .raw,.one .raw]) K)->yes e.key e.val w1)
  (hn:(∀ e∈es.toList,seen.contains e.born=true)->no w):Br P (.pointer (some ⟨r,0,none⟩)) ty w yes no:=by
 rcases run_next_at (P:=P) w ty r m c c seen es c h.it h.map h.EX (Nat.le_refl _) with⟨h0,hr⟩ | ⟨e,he,w1,tb,hr⟩
 ·refine⟨.inr ⟨w,hr,hn fun e he=>?_⟩⟩
  cases hc:seen.contains e.born with
  | true=>rfl
  | false=>
   have:e∈leftOf es seen:=Array.mem_filter.2 ⟨Array.mem_toList_iff.1 he,by rw[hc];rfl⟩;have:=Array.size_pos_of_mem this;omega
 ·obtain⟨h1,h2⟩:=mem_left he
  have hh:w1.heap=w.heap:=by rcases tb with rfl | rfl<;>rfl
  have aU:=bL h.it;obtain⟨w2,uC⟩:∃ w2,w2=Go.ChangeMaps.setBlock w1 r (.mapIter (some m) c (seen.push e.born) c):=⟨_,rfl⟩;rw[<- uC] at hr;have EY:w2.heap=w.heap.setIfInBounds r (.mapIter (some m) c (seen.push e.born) c):=by rw[uC];show w1.heap.setIfInBounds r _=_;rw[hh]
  have hf:Fr (only r) w w2:=by
   refine⟨?_,?_,?_,by rw[EY];simp,fun k _ hk=>?_⟩
   ·rw[uC];show w1.os=w.os;rcases tb with rfl | rfl<;>rfl
   ·rw[uC];show w1.tape=w.tape;rcases tb with rfl | rfl<;>rfl
   ·rw[uC];show w1.output=w.output;rcases tb with rfl | rfl<;>rfl
   ·rw[EY,Array.getElem?_setIfInBounds_ne (fun t=>hk t.symm)]
  have hit:w2.heap[r]? = some (.mapIter (some m) c (seen.push e.born) c):=by rw[EY];exact heap_set aU _
  have KW:w2.heap[m]? = some (.map es c):=hf.jK h.map (fun t=>yR t.symm);have hM:mz w2 r m es c (seen.push e.born):=⟨hit,KW,h.EX,h.nodup⟩;refine⟨.inl ⟨e.key,e.val,w2,hr,hy e h1 h2 w2 hM hf ?_ ?_⟩⟩
  ·rw[hM.left,h.left];exact left_shrinks es seen e he
  ·intro K hK
   exact⟨(e.key,e.val,()),w2,run_entry_at w2 r m c seen es c e hit KW h1 h.nodup,hK⟩
end Vc
def str (bs:List UInt8):ByteArray:=⟨bs.toArray⟩
theorem dU (bs:List UInt8):(str bs).size=bs.length:=by unfold str;simp[ByteArray.size]
theorem ku (bs:List UInt8):(str bs).data.toList=bs:=by unfold str;simp
theorem KX (s:ByteArray):str s.data.toList=s:=by unfold str;cases s;simp
theorem yS (a b:List UInt8):str a++str b=str (a++b):=by
 apply ByteArray.ext;simp[str]
theorem str_inj {a b:List UInt8}(h:str a=str b):a=b:=by
 have:=congrArg (fun s=>s.data.toList) h;simpa[ku] using this
theorem yT (s:ByteArray):s.data.toList.length=s.size:=Array.length_toList
theorem Si:str []=ByteArray.empty:=rfl
theorem bytes_beq (x y:ByteArray):(x.toList==y.toList)=decide (x=y):=by
 rw[ByteArray.toList_eq,ByteArray.toList_eq]
 by_cases h:x=y
 ·subst h;simp
 ·rw[decide_eq_false h]
  have:x.data.toList≠y.data.toList:=fun t=>h (by cases x;cases y;simpa using t);simpa using this
theorem jc (x y:List UInt8):((str x).toList==(str y).toList)=decide (x=y):=by
 rw[bytes_beq];exact decide_eq_decide.2 ⟨str_inj,fun h=>by rw[h]⟩
theorem uO (s:ByteArray)(k:Nat):s.get! k=s.data.toList.getD k 0:=by
 cases s with
 | mk d=>
  show d[k]! = d.toList.getD k 0
  by_cases h:k<d.size
  ·rw[getElem!_pos d k h];simp[List.getD,h]
  ·rw[getElem!_neg d k h];simp[List.getD,h];rfl
theorem Sj {s t:ByteArray}{i j:Nat}(hg:∀ k,s.get! (i+k)=t.get! (j+k))(hs:∀ k,(i+k<s.size)=(j+k<t.size)):Utf8.decode s i=Utf8.decode t j:=by
 simp only[Utf8.decode,hg,hs]
def ib (l:List UInt8):Nat×Nat:=Utf8.decode (str l) 0
theorem EZ (s:ByteArray)(pos:Nat):Utf8.decode s pos=ib (s.data.toList.drop pos):=by
 unfold ib;refine Sj (fun k=>?_) (fun k=>propext ?_)
 ·rw[uO,uO,ku]
  simp[List.getD,List.getElem?_drop]
 ·rw[dU,List.length_drop,Array.length_toList]
  show pos+k<s.data.size↔_;omega
theorem wR (l:List UInt8):1<=(ib l).2:=by
 simp only[ib,Utf8.decode]
 repeat' split
 all_goals simp
def ng:Nat->List UInt8->List Int
 | 0,_=>[]
 | f+1,l=>if l=[] then[] else((ib l).1:Int)::ng f (l.drop (ib l).2)
def cK (l:List UInt8):List Int:=ng l.length l
theorem wS:∀ n,ng n []=[]
 | 0=>rfl
 | _+1=>by simp[ng]
theorem KY:∀ (n m:Nat) (l:List UInt8),l.length<=n->l.length<=m->ng n l=ng m l
 | 0,m,l,hn,_=>by
  have:l=[]:=List.eq_nil_of_length_eq_zero (by omega);subst this;rw[wS,wS]
 | n+1,0,l,_,hm=>by
  have:l=[]:=List.eq_nil_of_length_eq_zero (by omega);subst this;rw[wS,wS]
 | n+1,m+1,l,hn,hm=>by
  by_cases ay:l=[]
  ·subst ay
   rw[wS,wS]
  ·have hw:=wR l
   have hl:0<l.length:=List.length_pos_iff.2 ay;simp only[ng,if_neg ay];rw[KY n m _ (by rw[List.length_drop];omega) (by rw[List.length_drop];omega)]
theorem Sk:cK []=[]:=rfl
theorem yU (l:List UInt8)(ay:l≠[]):cK l=((ib l).1:Int)::cK (l.drop (ib l).2):=by
 have hw:=wR l;have hl:0<l.length:=List.length_pos_iff.2 ay;unfold cK;obtain⟨n,hn⟩:∃ n,l.length=n+1:=⟨l.length - 1,by omega⟩;rw[hn];simp only[ng,if_neg ay];rw[KY n _ _ (by rw[List.length_drop];omega) (Nat.le_refl _)]
def j3 (r:Int):Prop:=(0<=r/\r<55296)\/(57344<=r/\r<=1114111)
theorem KZ {r:Int}(h:j3 r):Utf8.valid r=true:=by
 unfold j3 at h;unfold Utf8.valid;simpa using h
theorem E0 (l:List UInt8):j3 ((ib l).1:Int):=by
 have hb:∀ k,((str l).get! (0+k)).toNat<256:=fun k=>((str l).get! (0+k)).toNat_lt;have h0:=hb 0;unfold j3;simp only[ib,Utf8.decode]
 repeat' split
 all_goals simp_all [Utf8.runeError,Utf8.valid]
 all_goals omega
theorem K0:∀ (n:Nat) (l:List UInt8),∀ c∈ng n l,j3 c
 | 0,l,c,hc=>by simp[ng] at hc
 | n+1,l,c,hc=>by
  unfold ng at hc;split at hc
  ·simp at hc
  ·rcases List.mem_cons.1 hc with h | h
   ·rw[h];exact E0 l
   ·exact K0 n _ c h
theorem Sm (l:List UInt8):∀ c∈cK l,j3 c:=K0 _ _
theorem K1:∀ (n:Nat) (l:List UInt8),(ng n l).length<=l.length
 | 0,l=>by simp[ng]
 | n+1,l=>by
  unfold ng;split
  ·simp
  ·rename_i ay
   have hw:=wR l;have:=K1 n (l.drop (ib l).2);rw[List.length_drop] at this;have hl:0<l.length:=List.length_pos_iff.2 ay;simp only[List.length_cons];omega
theorem E1 (l:List UInt8):(cK l).length<=l.length:=K1 _ _
def enc (r:Int):List UInt8:=(Utf8.encode r).data.toList
def ez (rs:List Int):List UInt8:=rs.flatMap enc
theorem tj (r:Int)(rs:List Int):ez (r::rs)=enc r++ez rs:=by unfold ez;rw[List.flatMap_cons]
theorem K2 (a b:List Int):ez (a++b)=ez a++ez b:=by unfold ez;rw[List.flatMap_append]
theorem Sn (r:Int):ez [r]=enc r:=by unfold ez;simp
theorem So:ez []=[]:=rfl
theorem nh {n:Nat}(h:n<256):(UInt8.ofNat n).toNat=n:=by
 rw[UInt8.toNat_ofNat'];exact Nat.mod_eq_of_lt h
theorem E3 (n:Nat)(h:j3 (n:Int)):enc (n:Int)=if n<128 then[UInt8.ofNat n] else if n<2048 then[UInt8.ofNat (192+n / 64),UInt8.ofNat (128+n % 64)] else
  if n<65536 then[UInt8.ofNat (224+n / 4096),UInt8.ofNat (128+n / 64 % 64),UInt8.ofNat (128+n % 64)] else[UInt8.ofNat (240+n / 262144),UInt8.ofNat (128+n / 4096 % 64),UInt8.ofNat (128+n / 64 % 64),UInt8.ofNat (128+n % 64)]:=by
 unfold enc Utf8.encode;simp only[KZ h,if_true,Int.toNat_natCast];split
 ·rfl
 split
 ·rfl
 split<;>rfl
theorem Sp (r:Int)(h:j3 r)(t:List UInt8):ib (enc r++t)=(r.toNat,(enc r).length):=by
 obtain⟨n,rfl⟩:∃ n:Nat,r=n:=⟨r.toNat,by unfold j3 at h;omega⟩;have hv:=KZ h;rw[Int.toNat_natCast,E3 n h];unfold j3 at h;split
 ·simp only[ib,Utf8.decode,uO,ku,dU,List.cons_append,List.nil_append,List.getD_cons_zero,List.length_cons,List.length_nil,Nat.add_zero]
  rw[nh (by omega),if_pos (by omega)]
 split
 ·simp only[ib,Utf8.decode,uO,ku,dU,List.cons_append,List.nil_append,List.getD_cons_zero,List.getD_cons_succ,List.length_cons,List.length_nil,Nat.add_zero,Nat.zero_add]
  rw[nh (n:=192+n / 64) (by omega),nh (n:=128+n % 64) (by omega)];have e:(192+n / 64) % 32 * 64+(128+n % 64) % 64=n:=by omega
  rw[e,if_neg (by omega),if_pos (by simp;omega),if_pos (by omega)]
 split
 ·simp only[ib,Utf8.decode,uO,ku,dU,List.cons_append,List.nil_append,List.getD_cons_zero,List.getD_cons_succ,List.length_cons,List.length_nil,Nat.add_zero,Nat.zero_add]
  rw[nh (n:=224+n / 4096) (by omega),nh (n:=128+n / 64 % 64) (by omega),nh (n:=128+n % 64) (by omega)];have e:(224+n / 4096) % 16 * 4096+(128+n / 64 % 64) % 64 * 64+(128+n % 64) % 64=n:=by omega
  rw[e,if_neg (by omega),if_neg (by simp;omega),if_pos (by simp;omega),if_pos (by rw[hv];simp;omega)]
 ·simp only[ib,Utf8.decode,uO,ku,dU,List.cons_append,List.nil_append,List.getD_cons_zero,List.getD_cons_succ,List.length_cons,List.length_nil,Nat.add_zero,Nat.zero_add]
  rw[nh (n:=240+n / 262144) (by omega),nh (n:=128+n / 4096 % 64) (by omega),nh (n:=128+n / 64 % 64) (by omega),nh (n:=128+n % 64) (by omega)];have e:(240+n / 262144) % 8 * 262144+(128+n / 4096 % 64) % 64 * 4096+(128+n / 64 % 64) % 64 * 64+(128+n % 64) % 64=n:=by omega
  rw[e,if_neg (by omega),if_neg (by simp;omega),if_neg (by simp;omega),if_pos (by simp;omega),if_pos (by rw[hv];simp;omega)]
theorem Sq (r:Int):1<=(Utf8.encode r).size:=by
 unfold Utf8.encode;dsimp only;generalize(if Utf8.valid r=true then r.toNat else Utf8.runeError)=c;split
 ·exact Nat.le_refl 1
 split
 ·exact Nat.le_succ 1
 split
 ·exact Nat.succ_le_of_lt (Nat.succ_pos 2)
 ·exact Nat.succ_le_of_lt (Nat.succ_pos 3)
theorem K3 (r:Int):enc r≠[]:=by
 intro h;have:=Sq r;have h2:(Utf8.encode r).size=(enc r).length:=by unfold enc;rw[Array.length_toList];rfl
 rw[h2,h] at this;simp at this
theorem K4 (r:Int):1<=(enc r).length/\(enc r).length<=4:=by
 constructor
 ·exact List.length_pos_iff.2 (K3 r)
 ·have:=encode_size_le r
  have h2:(Utf8.encode r).size=(enc r).length:=by unfold enc;rw[Array.length_toList];rfl
  omega
theorem Sr (r:Int)(h:j3 r)(t:List UInt8):cK (enc r++t)=r::cK t:=by
 rw[yU _ (by have:=K3 r;simp[this]),Sp r h,List.drop_left];have:0<=r:=by unfold j3 at h;omega
 congr 1
 omega
theorem K5:∀ (rs:List Int) (t:List UInt8),(∀ r∈rs,j3 r)->cK (ez rs++t)=rs++cK t
 | [],t,_=>rfl
 | r::rs,t,h=>by
  rw[tj,List.append_assoc,Sr r (h r (by simp)),K5 rs t (fun c hc=>h c (by simp[hc]))];rfl
theorem Ss (rs:List Int)(h:∀ r∈rs,j3 r):cK (ez rs)=rs:=by
 have:=K5 rs [] h;rwa[List.append_nil,Sk,List.append_nil] at this
theorem Su (rs:List Int):rs.length<=(ez rs).length/\(ez rs).length<=4 * rs.length:=by
 induction rs with
 | nil=>simp[ez]
 | cons r rs ih=>
  have:=K4 r;rw[tj,List.length_append,List.length_cons];omega
theorem E4 (r:Int):Utf8.encode r=str (enc r):=by unfold enc;rw[KX]
theorem Sw (ns:List Int):runesBytes ns=str (ez ns):=by
 have key:∀ (ns:List Int) (a:List UInt8),ns.foldl (fun r n=>r++Utf8.encode n) (str a)=str (a++ez ns):=by
  intro ns
  induction ns with
  | nil=>intro a;simp[ez]
  | cons n ns ih=>
   intro a;rw[List.foldl_cons,E4,yS,ih,tj,List.append_assoc]
 unfold runesBytes;rw[<- Si,key,List.nil_append]
def jL (w:World)(r:Nat)(rs:List Int):Prop:=∃ s pos,w.heap[r]? = some (.stringIter s pos)/\cK (s.data.toList.drop pos)=rs
theorem jL.ag {w w':World}{r:Nat}{rs:List Int}(h:jL w r rs){S:Nat->Prop}(f:Fr S w w')(hn:¬ S r):jL w' r rs:=by
 obtain⟨s,pos,a,b⟩:=h;exact⟨s,pos,f.ag a hn,b⟩
theorem jL.af {w w':World}{r:Nat}{rs:List Int}(h:jL w r rs)(f:Fr none1 w w'):jL w' r rs:=h.ag f (fun t=>t)
theorem jL.lt {w:World}{r:Nat}{rs:List Int}(h:jL w r rs):r<w.heap.size:=by
 obtain⟨s,pos,a,b⟩:=h;exact bL a
theorem Sx {w:World}{t:TypeId}(ht:Tryz.prog.underlying t=some .string)(s:ByteArray){K:Option Addr->World->Prop}
  (hK:∀ r w1,r=w.heap.size->jL w1 r (cK s.data.toList)->Fr none1 w w1->K (some ⟨r,0,none⟩) w1):aA Tryz.prog (Instr.range t (.string s)) w (.v (.one .ptr)) K:=by
 refine⟨some ⟨w.heap.size,0,none⟩,{ w with heap:=w.heap.push (.stringIter s 0) },?_,hK _ _ rfl ⟨s,0,Array.getElem?_push_size ..,by rw[List.drop_zero]⟩ (mu _ _)⟩
 unfold Instr.range;simp only[Sem.run_bind,under ht,Result.andThen_ok,Sem.run_pure,run_newObj];rfl
theorem BU {w:World}{r:Nat}{rs:List Int}(h:jL w r rs){yes:Int->Int->World->Prop}{no:Prop}
  (hy:∀ c rest pos w1,rs=c::rest->j3 c->jL w1 r rest->Fr (only r) w w1->yes pos c w1) (hn:rs=[]->no):v8 (some ⟨r,0,none⟩) w yes no:=by
 obtain⟨s,pos,hb,rfl⟩:=h;refine⟨r,s,pos,rfl,hb,?_⟩;have hsz:s.size=s.data.toList.length:=by rw[Array.length_toList];rfl
 split
 ·rename_i aU
  have ay:s.data.toList.drop pos≠[]:=fun t=>by
   have:=congrArg List.length t;rw[List.length_drop,List.length_nil] at this;omega
  have dD:=yU _ ay;rw[<- EZ,List.drop_drop] at dD;refine hy _ _ _ _ dD ?_ ⟨s,_,?_,rfl⟩ ?_
  ·have:=E0 (s.data.toList.drop pos)
   rwa[<- EZ] at this
  ·have:=bL hb
   exact Array.getElem?_setIfInBounds_self_of_lt this
  ·refine⟨rfl,rfl,rfl,by simp,fun k hk hn=>?_⟩
   have:r≠k:=fun e=>hn e.symm;exact Array.getElem?_setIfInBounds_ne this
 ·rename_i eu
  refine hn ?_;rw[List.drop_of_length_le (by omega)];rfl
def C213 (p0:Int)(w:World)(K:Value->World->Prop):Prop:=
 aa (decide (p0 >= 48))
 (K (.bool (decide (p0<=57))) w)
 (K (.bool false) w)
def pl213:aB:=.auto
theorem c213 (p0:Int)(w:World)(K:Value->World->Prop)(h:C213 p0 w K):Ret Tryz.prog 213 #[.int .i32 p0] w K:=aC (by kernel_rfl) Tryz.func213 (p:=pl213) (Eq.mpr (by kernel_rfl) h)
def C212 (p0:Int)(w:World)(K:Value->World->Prop):Prop:=
 aa (decide (p0 >= 97))
 (aa (decide (p0<=122))
 (K (.bool true) w)
 (ab Tryz.prog 213 #[.int .i32 p0] w (.v (.one .bool)) (fun(x1:Bool) w2=>aa x1
 (K (.bool true) w2)
 (aa (p0==95)
 (K (.bool true) w2)
 (aa (decide (p0 >= 128))
 (K (.bool (p0 != 65533)) w2)
 (K (.bool false) w2))))))
 (ab Tryz.prog 213 #[.int .i32 p0] w (.v (.one .bool)) (fun(x3:Bool) w4=>aa x3
 (K (.bool true) w4)
 (aa (p0==95)
 (K (.bool true) w4)
 (aa (decide (p0 >= 128))
 (K (.bool (p0 != 65533)) w4)
 (K (.bool false) w4)))))
def pl212:aB:=.auto
theorem c212 (p0:Int)(w:World)(K:Value->World->Prop)(h:C212 p0 w K):Ret Tryz.prog 212 #[.int .i32 p0] w K:=aC (by kernel_rfl) Tryz.func212 (p:=pl212) (Eq.mpr (by kernel_rfl) h)
def C169 (p0:ByteArray)(w:World)(K:Value->World->Prop):Prop:=
 aA Tryz.prog (Instr.range 9 (.string p0)) w (.v (.one .ptr)) (fun(x1:Option Addr) w2=>bC (Int×Unit) (fun _ s3 w4 kV=>v8 x1 w4 (fun x6 x7 w8=>ab Tryz.prog 212 #[.int .i32 x7] w8 (.v (.one .bool)) (fun(x9:Bool) aG=>aa (!x9)
 (K (.bool false) aG)
 (aa ((IntKind.i64.wrap (s3.1+1))==1)
 (ab Tryz.prog 213 #[.int .i32 x7] aG (.v (.one .bool)) (fun(aX:Bool) aL=>aa aX
 (K (.bool false) aL)
 (aa (decide ((IntKind.i64.wrap (s3.1+1)) > 12))
 (K (.bool false) aL)
 (kV (IntKind.i64.wrap (s3.1+1),()) aL))))
 (aa (decide ((IntKind.i64.wrap (s3.1+1)) > 12))
 (K (.bool false) aG)
 (kV (IntKind.i64.wrap (s3.1+1),()) aG)))))
 (K (.bool (decide (s3.1 > 0))) w4))
 (0,()) w2)
def pl169:aB:=(.seq .auto (.seq .auto (.seq (.seq .auto (.block (.loop [(3,.one (.int .i64))] .auto))) .auto)))
theorem c169 (p0:ByteArray)(w:World)(K:Value->World->Prop)(h:C169 p0 w K):Ret Tryz.prog 169 #[.string p0] w K:=aC (by kernel_rfl) Tryz.func169 (p:=pl169) (Eq.mpr (by kernel_rfl) h)
def C299 (p0:Int)(w:World)(K:Value->World->Prop):Prop:=
 ab Tryz.prog 212 #[.int .i32 p0] w (.v (.one .bool)) (fun(x1:Bool) w2=>aa x1
 (K (.int .u8 97) w2)
 (aa (p0==45)
 (K (.int .u8 97) w2)
 (aa (p0==40)
 (K (.int .u8 40) w2)
 (aa (p0==41)
 (K (.int .u8 40) w2)
 (aa (p0==44)
 (K (.int .u8 40) w2)
 (aa (p0==32)
 (K (.int .u8 32) w2)
 (K (.int .u8 0) w2)))))))
def pl299:aB:=.auto
theorem c299 (p0:Int)(w:World)(K:Value->World->Prop)(h:C299 p0 w K):Ret Tryz.prog 299 #[.int .i32 p0] w K:=aC (by kernel_rfl) Tryz.func299 (p:=pl299) (Eq.mpr (by kernel_rfl) h)
def C271 (p0:ByteArray)(w:World)(K:Value->World->Prop):Prop:=
 aA Tryz.prog (Instr.range 9 (.string p0)) w (.v (.one .ptr)) (fun(x1:Option Addr) w2=>bC (an×Int×Bool×Unit) (fun _ s3 w4 kV=>v8 x1 w4 (fun x6 x7 w8=>ab Tryz.prog 299 #[.int .i32 x7] w8 (.v (.one (.int .u8))) (fun(x9:Int) aG=>aa (x9==0)
 (K (.tuple #[.slice none 0 0,.int .i64 (IntKind.i64.wrap (s3.2.1+1))]) aG)
 (cy (Bool×Unit) (fun K6=>aa (x9==97)
 (K6 (s3.2.2.1,()) aG)
 (K6 (false,()) aG))
 (fun _ fQ aY=>aa fQ.1
 (bQ s3.1.1 s3.1.2.1 (IntKind.i64.wrap ((s3.1.2.1:Int) - 1)) 2 (fun yV=>ae .str (yV.add 0) aY (fun(bn:ByteArray)=>v7 bn (Utf8.encode x7) (bQ s3.1.1 s3.1.2.1 (IntKind.i64.wrap ((s3.1.2.1:Int) - 1)) 2 (fun yW=>az (yW.add 0) (.string (bn++(Utf8.encode x7))) aY (fun cj=>kV ((s3.1.1,s3.1.2.1,s3.1.2.2),IntKind.i64.wrap (s3.2.1+1),(x9==97),()) cj))))))
 (aa (x9 != 32)
 (aA Tryz.prog (Instr.buildSlice 408 1 #[(0,.agg #[.string (Utf8.encode x7),.int .i64 (IntKind.i64.wrap (s3.2.1+1))])]) aY (.v (.one .aj)) (fun(bB:an) bu=>aA Tryz.prog (Builtin.append_ #[408,408] 408 #[.slice s3.1.1 s3.1.2.1 s3.1.2.2,.slice bB.1 bB.2.1 bB.2.2]) bu (.v (.one .aj)) (fun(cG:an) bw=>kV ((cG.1,cG.2.1,cG.2.2),IntKind.i64.wrap (s3.2.1+1),(x9==97),()) bw)))
 (kV ((s3.1.1,s3.1.2.1,s3.1.2.2),IntKind.i64.wrap (s3.2.1+1),(x9==97),()) aY))))))
 (K (.tuple #[.slice s3.1.1 s3.1.2.1 s3.1.2.2,.int .i64 0]) w4))
 ((none,0,0),0,false,()) w2)
def pl271:aB:=(.seq .auto (.seq .auto (.seq (.seq .auto (.block (.loop [(2,.one .aj),(4,.one (.int .i64)),(5,.one .bool)] (.seq .auto (.seq .auto (.block (.seq .auto (.seq .auto (.seq .auto (.seq .auto (.seq (.block (.join [(21,.one .bool)] .auto .auto)) .auto))))))))))) .auto)))
theorem c271 (p0:ByteArray)(w:World)(K:Value->World->Prop)(h:C271 p0 w K):Ret Tryz.prog 271 #[.string p0] w K:=aC (by kernel_rfl) Tryz.func271 (p:=pl271) (Eq.mpr (by kernel_rfl) h)
def uP (r:Int):Bool:=decide (48<=r)&&decide (r<=57)
def isLet (r:Int):Bool:=(decide (97<=r)&&decide (r<=122))||uP r||r==95||(decide (128<=r)&&r != 65533)
theorem K7 (r:Int)(w:World):Ret Tryz.prog 213 #[.int .i32 r] w fun v w'=>v=.bool (uP r)/\w=w':=by
 refine c213 r w _ ?_;unfold uP;refine aa.dec (fun h=>?_) (fun h=>?_)
 ·rw[decide_eq_true (p:=48<=r) (by omega)];exact⟨rfl,rfl⟩
 ·rw[decide_eq_false (p:=48<=r) (by omega)];exact⟨rfl,rfl⟩
theorem K8 (r:Int)(w:World):Ret Tryz.prog 212 #[.int .i32 r] w fun v w'=>v=.bool (isLet r)/\w=w':=by
 refine c212 r w _ ?_;have tail:(decide (97<=r)&&decide (r<=122))=false->ab Tryz.prog 213 #[.int .i32 r] w (.v (.one .bool)) (fun(x1:Bool) w2=>aa x1
   ((.bool true:Value)=.bool (isLet r)/\w=w2) (aa (r==95) ((.bool true:Value)=.bool (isLet r)/\w=w2) (aa (decide (r >= 128)) ((.bool (r != 65533):Value)=.bool (isLet r)/\w=w2) ((.bool false:Value)=.bool (isLet r)/\w=w2)))):=fun h=>by
  refine ab.of (K7 r w) ?_;rintro _ _ ⟨rfl,rfl⟩;refine⟨_,rfl,?_⟩;unfold isLet;rw[h,Bool.false_or];refine aa.by (fun h1=>?_) (fun h1=>?_)
  ·rw[h1];exact⟨rfl,rfl⟩
  rw[h1,Bool.false_or];refine aa.by (fun h2=>?_) (fun h2=>?_)
  ·rw[h2];exact⟨rfl,rfl⟩
  rw[h2,Bool.false_or];refine aa.dec (fun h3=>?_) (fun h3=>?_)
  ·rw[decide_eq_true (p:=128<=r) (by omega)];exact⟨by rw[Bool.true_and],rfl⟩
  ·rw[decide_eq_false (p:=128<=r) (by omega)];exact⟨rfl,rfl⟩
 refine aa.dec (fun h=>?_) (fun h=>?_)
 ·refine aa.dec (fun h2=>?_) (fun h2=>?_)
  ·unfold isLet
   rw[decide_eq_true (p:=97<=r) (by omega),decide_eq_true (p:=r<=122) (by omega)];exact⟨rfl,rfl⟩
  ·exact tail (by rw[decide_eq_false (p:=r<=122) (by omega),Bool.and_false])
 ·exact tail (by rw[decide_eq_false (p:=97<=r) (by omega),Bool.false_and])
def ni (w:World)(r:Nat):Nat:=match w.heap[r]? with
 | some (.stringIter s pos)=>(cK (s.data.toList.drop pos)).length
 | _=>0
theorem jL.left {w:World}{r:Nat}{rs:List Int}(h:jL w r rs):ni w r=rs.length:=by
 obtain⟨s,pos,a,b⟩:=h;unfold ni;rw[a,<- b]
theorem BV {w:World}(bs:List UInt8){K:Option Addr->World->Prop}
  (hK:∀ r w1,r=w.heap.size->jL w1 r (cK bs)->Fr none1 w w1->K (some ⟨r,0,none⟩) w1):aA Tryz.prog (Instr.range 9 (.string (str bs))) w (.v (.one .ptr)) K:=by
 refine Sx Tryz.underlying9 (str bs) ?_;rw[ku];exact hK
def kv (n:Nat):List Int->Bool
 | []=>decide (0<n)
 | r::rs=>if isLet r=false then false else if n=0/\uP r=true then false else if 12<n+1 then false else kv (n+1) rs
theorem uQ (bs:List UInt8)(w:World):Ret Tryz.prog 169 #[.string (str bs)] w fun v w'=>v=.bool (kv 0 (cK bs))/\Fr none1 w w':=by
 refine c169 _ w _ ?_;refine BV bs fun r w1 hr hit f1=>?_;have F0:Fr (only r) w1 w1:=Fr.refl _ _;refine bC.of (fun s w'=>∃ (n:Nat) (rest:List Int),s.1=n/\n<=12/\jL w' r rest/\Fr (only r) w1 w'/\kv n rest=kv 0 (cK bs)) (fun _ w'=>ni w' r) ⟨0,_,rfl,by omega,hit,F0,rfl⟩ ?_;rintro _ ⟨n',_⟩ w2 ⟨n,rest,hn,ack,qP,f2,j6⟩;dsimp only at hn ⊢;subst hn;have fin:∀ w',Fr (only r) w1 w'->Fr none1 w w':=fun w' f=>f1.fresh f (by omega);refine BU qP (fun c lT pos w3 hc j7 pO f3=>?_) (fun jM=>?_)
 ·subst hc
  have pP:=fin _ (f2.trans f3);refine ab.of (K8 c w3) ?_;rintro _ _ ⟨rfl,rfl⟩;refine⟨_,rfl,?_⟩;have ml:ni w3 r<ni w2 r:=by rw[pO.left,qP.left];simp
  have dD:kv n (c::lT)=if isLet c=false then false else if n=0/\uP c=true then false else if 12<n+1 then false else kv (n+1) lT:=rfl;rw[dD] at j6
  by_cases hl:isLet c=false
  ·rw[if_pos hl] at j6
   refine aa.t (by rw[hl];rfl) ⟨by rw[<- j6],pP⟩
  rw[if_neg hl] at j6;refine aa.f (by simpa using hl) ?_;rw[wI (x:=(n:Int)+1) (by omega) (by omega)];have K9:¬ (n=0/\uP c=true)->aa (decide ((n:Int)+1 > 12)) ((.bool false:Value)=.bool (kv 0 (cK bs))/\Fr none1 w w3)
    ((∃ (n':Nat) (rest:List Int),((n:Int)+1)=n'/\n'<=12/\jL w3 r rest/\Fr (only r) w1 w3/\kv n' rest=kv 0 (cK bs))/\ni w3 r<ni w2 r):=fun hd=>by
   rw[if_neg hd] at j6;refine aa.dec (fun h=>?_) (fun h=>?_)
   ·rw[if_pos (by omega)] at j6;exact⟨by rw[<- j6],pP⟩
   ·rw[if_neg (by omega)] at j6
    exact⟨⟨n+1,lT,by omega,by omega,pO,f2.trans f3,j6⟩,ml⟩
  refine aa.eq (fun h1=>?_) (fun h1=>?_)
  ·refine ab.of (K7 c w3) ?_
   rintro _ _ ⟨rfl,rfl⟩;refine⟨_,rfl,?_⟩;refine aa.by (fun hd=>?_) (fun hd=>?_)
   ·rw[if_pos ⟨by omega,hd⟩] at j6;exact⟨by rw[<- j6],pP⟩
   ·exact K9 fun t=>by rw[t.2] at hd;cases hd
  ·exact K9 fun t=>by have:=t.1;omega
 ·subst jM
  refine⟨?_,fin _ f2⟩;rw[<- j6];unfold kv
  congr 1
  exact decide_eq_decide.2 (by omega)
end Go.Proofs.YtmkehncgjnhhcaaGreatDoor
