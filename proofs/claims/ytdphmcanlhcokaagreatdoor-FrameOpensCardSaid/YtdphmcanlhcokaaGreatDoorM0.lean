/-
  Texts of this claim, put together: Vc, VcSound, VcMem, U64, VcSlice, BytesSpec, CTypes, CKeep, SameB, CPackN, PackNum, SipF, VcMap, VcMapS, Utf.
  Conditions: those of each theorem.
-/
import Derived.Below
import Derived.Deep.Draws
import Derived.IntWalk
import Derived.KernelRfl
import Derived.Laws.Cover4
import Derived.Laws.Runes
import Derived.Laws.Tables
import Derived.Maps.RangeRun
import Derived.StillTail
import Derived.Test.YtdphmcanlhcokaaGreatDoorProg
namespace Go.Proofs.YtdphmcanlhcokaaGreatDoor
namespace Vc
inductive Ck where
 | int (k:IntKind) | bool | str | ptr | slc | map | raw
 deriving Inhabited
@[reducible] def Ck.C:Ck→Type
 | .int _=>Int | .bool=>Bool | .str=>ByteArray | .ptr=>Option Addr | .slc=>Option Addr×Nat×Nat | .map=>Option Nat | .raw=>Value
def Ck.val:(c:Ck)→c.C→Value
 | .int k,n=>.int k n
 | .bool,b=>.bool b
 | .str,s=>.string s
 | .ptr,p=>.pointer p
 | .slc,x=>.slice x.1 x.2.1 x.2.2
 | .map,r=>.map r
 | .raw,v=>v
@[reducible] def Cs:List Ck→Type
 | []=>Unit
 | c::cs=>c.C×Cs cs
def Cs.vals:(cs:List Ck)→Cs cs→List Value
 | [],_=>[]
 | c::cs,x=>c.val x.1::Cs.vals cs x.2
inductive Kd where
 | one (c:Ck) | agg (cs:List Ck) | arr
 deriving Inhabited
@[reducible] def Kd.C:Kd→Type
 | .one c=>c.C | .agg cs=>Cs cs | .arr=>List Value
def Kd.val:(k:Kd)→k.C→Value
 | .one c,x=>c.val x
 | .agg cs,x=>.agg (Cs.vals cs x).toArray
 | .arr,x=>.agg x.toArray
@[reducible] def St:List Kd→Type
 | []=>Unit
 | k::ks=>k.C×St ks
def St.vals:(ks:List Kd)→St ks→List Value
 | [],_=>[]
 | k::ks,x=>k.val x.1::St.vals ks x.2
inductive Rk where
 | v (k:Kd) | tup (ks:List Kd)
@[reducible] def Rk.C:Rk→Type
 | .v k=>k.C | .tup ks=>St ks
def Rk.val:(r:Rk)→r.C→Value
 | .v k,x=>k.val x
 | .tup ks,x=>.tuple (St.vals ks x).toArray
def Ck.ex:(c:Ck)→Value→(c.C→Prop)→Prop
 | .int k,v,K=>match v with | .int k' n=>(match decide (k'=k) with | true=>K n | false=>False) | _=>False
 | .bool,v,K=>match v with | .bool b=>K b | _=>False
 | .str,v,K=>match v with | .string s=>K s | _=>False
 | .ptr,v,K=>match v with | .pointer p=>K p | _=>False
 | .slc,v,K=>match v with | .slice p l c=>K (p,l,c) | _=>False
 | .map,v,K=>match v with | .map r=>K r | _=>False
 | .raw,v,K=>K v
theorem Ck.ex_spec {c:Ck} {v:Value} {K:c.C→Prop} (h:c.ex v K):∃ x,v=c.val x∧K x:=by
 cases c<;>simp only [Ck.ex] at h
 case int k=>
  cases v<;>simp only at h
  rename_i k' n
  by_cases e:k'=k
  ·simp only [e,decide_true] at h;exact ⟨n,by rw [e];rfl,h⟩
  ·simp [e] at h
 case raw=>exact ⟨v,rfl,h⟩
 all_goals (cases v<;>simp only at h;exact ⟨_,rfl,h⟩)
def Cs.ex:(cs:List Ck)→List Value→(Cs cs→Prop)→Prop
 | [],l,K=>match l with | []=>K () | _::_=>False
 | c::cs,l,K=>match l with | []=>False | v::l=>c.ex v fun x=>Cs.ex cs l fun y=>K (x,y)
theorem Cs.ex_spec:∀ {cs:List Ck} {l:List Value} {K:Cs cs→Prop},Cs.ex cs l K→∃ x,l=Cs.vals cs x∧K x
 | [],l,K,h=>by
  cases l with
  | nil=>exact ⟨(),rfl,h⟩
  | cons a l=>exact h.elim
 | c::cs,l,K,h=>by
  cases l with
  | nil=>exact h.elim
  | cons v l=>
   obtain ⟨x,rfl,h1⟩:=Ck.ex_spec (c:=c) (v:=v) (K:=fun x=>Cs.ex cs l fun y=>K (x,y)) h
   obtain ⟨y,rfl,h2⟩:=Cs.ex_spec h1
   exact ⟨(x,y),rfl,h2⟩
def Kd.ex:(k:Kd)→Value→(k.C→Prop)→Prop
 | .one c,v,K=>c.ex v K
 | .agg cs,v,K=>match v with | .agg a=>Cs.ex cs a.toList K | _=>False
 | .arr,v,K=>match v with | .agg a=>K a.toList | _=>False
theorem Kd.ex_spec {k:Kd} {v:Value} {K:k.C→Prop} (h:k.ex v K):∃ x,v=k.val x∧K x:=by
 cases k<;>simp only [Kd.ex] at h
 case one c=>exact Ck.ex_spec h
 case agg cs=>
  cases v<;>simp only at h
  rename_i a
  obtain ⟨x,hx,h⟩:=Cs.ex_spec h
  exact ⟨x,by simp only [Kd.val,← hx],h⟩
 case arr=>
  cases v<;>simp only at h
  rename_i a
  exact ⟨a.toList,by simp only [Kd.val],h⟩
def St.ex:(ks:List Kd)→List Value→(St ks→Prop)→Prop
 | [],l,K=>match l with | []=>K () | _::_=>False
 | k::ks,l,K=>match l with | []=>False | v::l=>k.ex v fun x=>St.ex ks l fun y=>K (x,y)
theorem St.ex_spec:∀ {ks:List Kd} {l:List Value} {K:St ks→Prop},St.ex ks l K→∃ x,l=St.vals ks x∧K x
 | [],l,K,h=>by
  cases l with
  | nil=>exact ⟨(),rfl,h⟩
  | cons a l=>exact h.elim
 | k::ks,l,K,h=>by
  cases l with
  | nil=>exact h.elim
  | cons v l=>
   obtain ⟨x,rfl,h1⟩:=Kd.ex_spec (k:=k) (v:=v) (K:=fun x=>St.ex ks l fun y=>K (x,y)) h
   obtain ⟨y,rfl,h2⟩:=St.ex_spec h1
   exact ⟨(x,y),rfl,h2⟩
def Rk.ex:(r:Rk)→Value→(r.C→Prop)→Prop
 | .v k,y,K=>k.ex y K
 | .tup ks,y,K=>match y with | .tuple a=>St.ex ks a.toList K | _=>False
theorem Rk.ex_spec {r:Rk} {y:Value} {K:r.C→Prop} (h:r.ex y K):∃ x,y=r.val x∧K x:=by
 cases r<;>simp only [Rk.ex] at h
 case v k=>exact Kd.ex_spec h
 case tup ks=>
  cases y<;>simp only at h
  rename_i a
  obtain ⟨x,hx,h⟩:=St.ex_spec h
  exact ⟨x,by simp only [Rk.val,← hx],h⟩
theorem Ck.ex_val {c:Ck} {x:c.C} {K:c.C→Prop} (h:K x):c.ex (c.val x) K:=by
 cases c<;>simp only [Ck.ex,Ck.val,decide_true]<;>exact h
theorem Cs.ex_val:∀ {cs:List Ck} {x:Cs cs} {K:Cs cs→Prop},K x→Cs.ex cs (Cs.vals cs x) K
 | [],_,_,h=>h
 | c::_,_,_,h=>Ck.ex_val (c:=c) (Cs.ex_val h)
theorem Kd.ex_val {k:Kd} {x:k.C} {K:k.C→Prop} (h:K x):k.ex (k.val x) K:=by
 cases k
 case one c=>exact Ck.ex_val h
 case agg cs=>exact Cs.ex_val h
 case arr=>exact h
theorem St.ex_val:∀ {ks:List Kd} {x:St ks} {K:St ks→Prop},K x→St.ex ks (St.vals ks x) K
 | [],_,_,h=>h
 | k::_,_,_,h=>Kd.ex_val (k:=k) (St.ex_val h)
theorem Rk.ex_val {r:Rk} {x:r.C} {K:r.C→Prop} (h:K x):r.ex (r.val x) K:=by
 cases r
 case v k=>exact Kd.ex_val h
 case tup ks=>exact St.ex_val h
def ckV:Value→Ck
 | .int k _=>.int k | .bool _=>.bool | .string _=>.str | .pointer _=>.ptr | .slice ..=>.slc | .map _=>.map | _=>.raw
def kdOf (P:Program) (t:TypeId):Kd:=
 match P.info? t with
 | some i=>match i.zero with
  | some (.agg cs)=>match P.underlying t with
   | some (.array ..)=>.arr
   | _=>.agg (cs.toList.map ckV)
  | some v=>.one (ckV v)
  | none=>.one .raw
 | none=>.one .raw
def rkOf (P:Program):List TypeId→Rk
 | [t]=>.v (kdOf P t)
 | ts=>.tup (ts.map (kdOf P))
structure Env where
 l:List (Nat×Value)
 base:Nat→Value
def look:List (Nat×Value)→Nat→Option Value
 | [],_=>none
 | (u,v)::l,t=>match Nat.beq u t with | true=>some v | false=>look l t
def Env.get (e:Env) (t:Nat):Value:=match look e.l t with | some v=>v | none=>e.base t
def Env.put (e:Env) (dst:Option Nat) (v:Value):Env:=match dst with | some d=>⟨(d,v)::e.l,e.base⟩ | none=>e
def Env.eval (e:Env):Operand→Value
 | .tmp t=>e.get t
 | .const v=>v
 | .global g=>.pointer (some ⟨g,0,none⟩)
 | .func f=>.func (.func f) #[] #[]
theorem look_cons (u:Nat) (v:Value) (l:List (Nat×Value)) (t:Nat):look ((u,v)::l) t=if t=u then some v else look l t:=by
 by_cases h:t=u
 ·subst h;simp [look]
 ·rw [if_neg h]
  have hb:Nat.beq u t=false:=by
   cases hb:Nat.beq u t with
   | false=>rfl
   | true=>exact absurd (Nat.eq_of_beq_eq_true hb).symm h
  simp [look,hb]
theorem Env.get_put (e:Env) (d:Nat) (v:Value) (t:Nat):(e.put (some d) v).get t=if t=d then v else e.get t:=by
 simp only [Env.put,Env.get,look_cons]
 by_cases h:t=d<;>simp [h]
structure Rep (n:Nat) (e:Env) (a:Act):Prop where
 size:a.tmps.size=n
 defers:a.defers=[]
 get:∀ t,a.tmps.getD t undef=e.get t
theorem Rep.eval {n:Nat} {e:Env} {a:Act} (h:Rep n e a):a.eval=e.eval:=by
 funext x
 cases x<;>simp [Act.eval,Env.eval,h.get]
def okDst (n:Nat):Option Nat→Bool
 | none=>true
 | some d=>Nat.blt d n
theorem Rep.put {n:Nat} {e:Env} {a:Act} (h:Rep n e a) (dst:Option Nat) (hd:okDst n dst=true) (v:Value):Rep n (e.put dst v) (a.put dst v):=by
 cases dst with
 | none=>exact h
 | some d=>
  have hlt:d<n:=by simp [okDst,Nat.blt] at hd;omega
  refine ⟨by simp [Act.put,h.size],by simp [Act.put,h.defers],fun t=>?_⟩
  rw [Env.get_put]
  have h1:=h.size
  by_cases ht:t=d
  ·subst ht
   rw [if_pos rfl]
   simp [Act.put,Array.getD,Array.setIfInBounds,h1,hlt]
  ·rw [if_neg ht,← h.get t]
   have hne:d≠t:=fun x=>ht x.symm
   simp only [Act.put,Array.getD_eq_getD_getElem?,Array.getElem?_setIfInBounds_ne hne]
def peek {α:Type} (P:Program):Sem α→Option α
 | .pure a=>some a
 | .program k=>peek P (k P)
 | .mark _ k=>peek P k
 | _=>none
theorem peek_run {α:Type} {P:Program}:∀ {s:Sem α} {a:α},peek P s=some a→∀ w,s.run P w=.ok a w:=by
 intro s
 induction s with
 | pure b=>intro a h w;simp only [peek,Option.some.injEq] at h;rw [h];rfl
 | program k ih=>intro a h w;exact ih P h w
 | mark m k ih=>intro a h w;exact ih h w
 | _=>intro a h w;simp [peek] at h
structure LdK (c:Ck) (p:Addr) (w:World) (K:c.C→Prop):Prop where
 out:∃ x,w.cell? p=some (c.val x)∧K x
def CellsAt (w:World) (p:Addr):Nat→List Value→Prop
 | _,[]=>True
 | i,v::vs=>w.cell? (p.add i)=some v∧CellsAt w p (i+1) vs
structure LdsK (cs:List Ck) (p:Addr) (w:World) (K:Cs cs→Prop):Prop where
 out:∃ x,CellsAt w p 0 (Cs.vals cs x)∧K x
structure LdaK (n:Nat) (p:Addr) (w:World) (K:List Value→Prop):Prop where
 out:∃ x:List Value,x.length=n∧CellsAt w p 0 x∧K x
def one1:Value→Bool
 | .agg _ | .tuple _=>false
 | _=>true
def setCells (w:World) (p:Addr):Nat→List Value→World
 | _,[]=>w
 | i,v::vs=>setCells (w.setCell (p.add i) v) p (i+1) vs
def Writes (w:World) (p:Addr):Nat→List Value→Prop
 | _,[]=>True
 | i,v::vs=>one1 v=true∧(w.cell? (p.add i)).isSome=true∧w.frozen? (p.add i)=false∧Writes (w.setCell (p.add i) v) p (i+1) vs
structure AndK (a b:Prop):Prop where
 out:a∧b
structure StK (p:Addr) (v:Value) (w:World) (K:World→Prop):Prop where
 out:one1 v=true∧(w.cell? p).isSome=true∧w.frozen? p=false∧K (w.setCell p v)
structure StsK (p:Addr) (vs:List Value) (w:World) (K:World→Prop):Prop where
 out:Writes w p 0 vs∧K (setCells w p 0 vs)
structure NewK (o:Obj) (w:World) (K:Nat→World→Prop):Prop where
 out:K w.heap.size { w with heap:=w.heap.push o }
def optA (q:Option Addr) (K:Addr→Prop):Prop:=match q with | some a=>K a | none=>False
def ifB (b:Bool) (A B:Prop):Prop:=match b with | true=>A | false=>B
structure IdxK (base:Option Addr) (len:Nat) (i:Int) (size:Nat) (K:Addr→Prop):Prop where
 out:∃ a,base=some a∧0≤i∧i<len∧K (a.add (i.toNat * size))
structure AixK (a:Addr) (len:Nat) (i:Int) (size:Nat) (K:Addr→Prop):Prop where
 out:0≤i∧i<len∧K (a.add (i.toNat * size))
structure StrK (s:ByteArray) (i:Int) (K:Int→Prop):Prop where
 out:∃ b:UInt8,0≤i∧s[i.toNat]? = some b∧K b.toNat
structure ArrK (cs:Array Value) (len:Nat) (i:Int) (c:Ck) (K:c.C→Prop):Prop where
 out:∃ x,0≤i∧i<len∧cs[i.toNat]? = some (c.val x)∧K x
structure SubsK (s:ByteArray) (lo hi:Int) (K:ByteArray→Prop):Prop where
 out:0≤lo∧lo≤hi∧hi≤s.size∧K (s.extract lo.toNat hi.toNat)
structure SubK (base:Option Addr) (cap:Nat) (lo hi mx:Int) (size:Nat) (K:Option Addr→Nat→Nat→Prop):Prop where
 out:0≤lo∧lo≤hi∧hi≤mx∧mx≤cap∧K (if mx=lo then base else base.map (·.add (lo.toNat * size))) (hi - lo).toNat (mx - lo).toNat
structure TaK (x:Value) (t:TypeId) (k:Kd) (yes:k.C→Prop) (no:Prop):Prop where
 out:(∃ r,x=.iface t (k.val r)∧yes r)∨((x=.nilIface∨∃ u v,x=.iface u v∧u≠t)∧no)
structure NzK (b:Int) (K:Prop):Prop where
 out:b≠0∧K
structure NnK (b:Int) (K:Prop):Prop where
 out:0≤b∧K
structure CatK (a b:ByteArray) (K:Prop):Prop where
 out:((a.size+b.size:Nat):Int)≤IntKind.i64.max∧K
structure MlenK (m:Option Nat) (w:World) (K:Int→Prop):Prop where
 out:(m=none∧K 0)∨∃ r es c,m=some r∧w.heap[r]? = some (.map es c)∧K (es.size:Nat)
structure NextK (q:Option Addr) (w:World) (yes:Int→Int→World→Prop) (no:Prop):Prop where
 out:∃ r s pos,q=some ⟨r,0,none⟩∧w.heap[r]? = some (.stringIter s pos) ∧
  if pos<s.size then yes (pos:Nat) (Utf8.decode s pos).1 { w with heap:=w.heap.setIfInBounds r (.stringIter s (pos+(Utf8.decode s pos).2)) } else no
structure RunK (P:Program) (s:Sem Value) (w:World) (k:Rk) (K:k.C→World→Prop):Prop where
 out:∃ x w',s.run P w=.ok (k.val x) w'∧K x w'
structure RunU (P:Program) (s:Sem Unit) (w:World) (K:World→Prop):Prop where
 out:∃ w',s.run P w=.ok () w'∧K w'
def Ret (P:Program) (f:FuncId) (args:Array Value) (w:World) (K:Value→World→Prop):Prop:=
 Calls P f args w fun e w'=>∃ v,e=.returned v∧K v w'
structure CallK (P:Program) (f:FuncId) (args:Array Value) (w:World) (k:Rk) (K:k.C→World→Prop):Prop where
 out:Ret P f args w fun v w'=>∃ x,v=k.val x∧K x w'
structure MnextK (P:Program) (it:Value) (ty:TypeId) (w:World) (yes:Value→Value→World→Prop) (no:World→Prop):Prop where
 out:(∃ k v w',(Instr.next it false ty).run P w=.ok (.tuple #[.bool true,k,v]) w'∧yes k v w')∨∃ w',(Instr.next it false ty).run P w=.ok (.tuple #[.bool false]) w'∧no w'
def nilV (v:Value) (K:Value→Prop):Prop:=
 match v with
 | .pointer q=>optA q fun p=>K (.pointer (some p))
 | .func (.func f) fi ca=>K (.func (.func f) fi ca)
 | _=>False
structure DrewK (w:World) (K:World→Prop):Prop where
 out:K { w with drawn:=w.drawn+1 }
structure RegK (w:World) (body:((Nat→Bool)→World→Prop)→Prop):Prop where
 out:∃ C:(Nat→Bool)→World→Prop,C (fun _=>false) { w with drawn:=w.drawn+1 }∧body C
def upd (D:Nat→Bool) (i:Nat):Nat→Bool:=fun j=>match Nat.beq j i with | true=>true | false=>D j
structure AnyK (C:(Nat→Bool)→World→Prop) (i:Nat) (pr:List Nat) (k:Rk) (op:World→(Value→World→Prop)→Prop) (next:k.C→Prop):Prop where
 out:∃ x:k.C,(∀ D w,D i=false→(∀ j,j∈pr→D j=true)→C D w→op w fun v w'=>v=k.val x∧C (upd D i) w')∧next x
def Kept (S:Nat→Prop) (w0 w:World):Prop:=∀ a v,S a.block→w0.cell? a=some v→w.cell? a=some v
structure KeepK (S:Nat→Prop) (w0 w:World) (K:Prop):Prop where
 out:Kept S w0 w∧K
structure HoldK (body:(Nat→Prop)→Prop):Prop where
 out:∃ S,body S
structure InK (S:Nat→Prop) (p:Addr) (K:Prop):Prop where
 out:S p.block∧K
structure SkipK (C:(Nat→Bool)→World→Prop) (i:Nat) (next:Prop):Prop where
 out:(∀ D w,C D w→C (upd D i) w)∧next
structure LoopK (σ:Type) (body:(Nat→Value)→σ→World→(σ→World→Prop)→Prop) (s:σ) (w:World):Prop where
 out:∃ (I:σ→World→Prop) (μ:σ→World→Nat),I s w∧∀ b s w,I s w→body b s w fun s' w'=>I s' w'∧μ s' w'<μ s w
structure JoinK (σ:Type) (first:(σ→World→Prop)→Prop) (rest:(Nat→Value)→σ→World→Prop):Prop where
 out:∃ J:σ→World→Prop,first J∧∀ b s w,J s w→rest b s w
def vcLoad (P:Program) (t:TypeId) (p:Addr) (w:World) (K:Value→World→Prop):Prop:=
 match P.underlying t,P.info? t with
 | some (.struct _),some i=>match i.zero with
  | some (.agg cs)=>match Nat.beq i.size (cs.toList.map ckV).length with
   | true=>LdsK (cs.toList.map ckV) p w fun x=>K (.agg (Cs.vals (cs.toList.map ckV) x).toArray) w
   | false=>False
  | _=>False
 | some (.array ..),some i=>LdaK i.size p w fun x=>K (.agg x.toArray) w
 | some _,some _=>match kdOf P t with
  | .one c=>LdK c p w fun x=>K (c.val x) w
  | _=>False
 | _,_=>False
def isRefTy (P:Program) (t:TypeId):Bool:=
 match P.underlying t with
 | some (.interface _) | some (.struct _) | some (.array ..)=>true
 | _=>false
def isIf (P:Program) (t:TypeId):Bool:=
 match P.underlying t with
 | some (.interface _)=>true
 | _=>false
def rawAt (P:Program) (t:TypeId) (i:Nat):Bool:=
 match P.underlying t with
 | some (.struct fs)=>match fs[i]? with
  | some f=>isIf P f.type
  | none=>false
 | some (.array _ el)=>isIf P el
 | _=>false
structure OneK (v:Value) (K:Prop):Prop where
 out:v.cells=#[v]∧K
structure AggK (cks:List Ck) (x:List Value) (K:Cs cks→Prop):Prop where
 out:∃ y,x=Cs.vals cks y∧K y
def arrAt (P:Program) (t:TypeId) (i:Nat):Option (List Ck):=
 match P.underlying t with
 | some (.struct fs)=>match fs[i]? with
  | some f=>match P.underlying f.type,(P.info? f.type).bind (·.zero) with
   | some (.array ..),some (.agg cs)=>some (cs.toList.map ckV)
   | _,_=>none
  | none=>none
 | _=>none
def vcParts (P:Program) (t:TypeId):List (Nat×Value)→(List (Nat×Value)→Prop)→Prop
 | [],K=>K []
 | p::l,K=>match rawAt P t p.1 with
  | true=>OneK p.2 (vcParts P t l fun vs=>K ((p.1,.agg #[p.2])::vs))
  | false=>match arrAt P t p.1 with
   | some cks=>match p.2 with
    | .agg cs=>AggK cks cs.toList fun y=>vcParts P t l fun vs=>K ((p.1,.agg (Cs.vals cks y).toArray)::vs)
    | _=>False
   | none=>vcParts P t l fun vs=>K (p::vs)
def ofPeek (P:Program) (s:Sem Value) (w:World) (K:Value→World→Prop):Prop:=
 match peek P s with
 | some v=>K v w
 | none=>False
def vcBin (P:Program) (e:Env) (op:BinOp) (xt:TypeId) (x y:Operand) (w:World) (K:Value→World→Prop):Prop:=
 match isRefTy P xt with
 | true=>RunK P (do eqGuard op xt x y (e.eval x) (e.eval y);binOp op xt (e.eval x) (e.eval y)) w (.v (.one .bool)) fun b w'=>K (.bool b) w'
 | false=>match e.eval x,e.eval y with
  | .int k a,.int k' b=>match decide (k=k') with
   | true=>match op with
    | .quo=>NzK b (K (.int k (k.wrap (a.tdiv b))) w)
    | .rem=>NzK b (K (.int k (a.tmod b)) w)
    | .shl=>NnK b (K (.int k (k.wrap (a * 2 ^ (min b.toNat k.bits)))) w)
    | .shr=>NnK b (K (.int k (a.fdiv (2 ^ (min b.toNat k.bits)))) w)
    | _=>ofPeek P (do eqGuard op xt x y (.int k a) (.int k b);binOp op xt (.int k a) (.int k b)) w K
   | false=>match op with
    | .shl=>NnK b (K (.int k (k.wrap (a * 2 ^ (min b.toNat k.bits)))) w)
    | .shr=>NnK b (K (.int k (a.fdiv (2 ^ (min b.toNat k.bits)))) w)
    | _=>False
  | .string a,.string b=>match op with
   | .add=>CatK a b (K (.string (a++b)) w)
   | _=>ofPeek P (do eqGuard op xt x y (.string a) (.string b);binOp op xt (.string a) (.string b)) w K
  | .bool a,.bool b=>ofPeek P (do eqGuard op xt x y (.bool a) (.bool b);binOp op xt (.bool a) (.bool b)) w K
  | .pointer p,.pointer none=>match P.underlying xt,op with
   | some (.pointer _),.eql=>K (.bool p.isNone) w
   | some (.pointer _),.neq=>K (.bool !p.isNone) w
   | _,_=>False
  | .slice p _ _,.slice none _ _=>match P.underlying xt,op with
   | some (.slice _),.eql=>K (.bool p.isNone) w
   | some (.slice _),.neq=>K (.bool !p.isNone) w
   | _,_=>False
  | .map p,.map none=>match P.underlying xt,op with
   | some (.map ..),.eql=>K (.bool p.isNone) w
   | some (.map ..),.neq=>K (.bool !p.isNone) w
   | _,_=>False
  | _,_=>False
def optInt (v:Option Value) (d:Int) (K:Int→Prop):Prop:=
 match v with
 | none=>K d
 | some (.int _ i)=>K i
 | _=>False
def evs (e:Env) (xs:Array Operand):List Value:=xs.toList.map e.eval
def vcCall (P:Program) (f:FuncId) (args:List Value) (w:World) (K:Value→World→Prop):Prop:=
 match peek P (callFunc f args.toArray),P.funcs[f]? with
 | some (.enter g xs),some fn=>match Nat.beq g f with
  | true=>CallK P f xs w (rkOf P fn.resultTypes.toList) fun x w'=>K ((rkOf P fn.resultTypes.toList).val x) w'
  | false=>False
 | _,_=>False
def resRk (P:Program) (t:TypeId):Rk:=
 match P.underlying t with
 | some (.tuple ts)=>.tup (ts.toList.map (kdOf P))
 | _=>.v (kdOf P t)
def callV (P:Program) (v:Value) (args:List Value) (r:Rk) (w:World) (K:r.C→World→Prop):Prop:=
 match v with
 | .func (.func f) fi ca=>vcCall P f (fi.toList++args++ca.toList) w fun v w'=>r.ex v fun x=>K x w'
 | _=>False
theorem z52z {P:Program} {f:FuncId} {fi ca:Array Value} {args:List Value} {r:Rk} {w:World} {K:r.C→World→Prop} {xs:Array Value} {fn:Func}
  (hp:peek P (callFunc f (fi.toList++args++ca.toList).toArray)=some (.enter f xs)) (hf:P.funcs[f]? = some fn) (hr:rkOf P fn.resultTypes.toList=r)
  (h:Ret P f xs w fun v w'=>∃ x,v=r.val x∧K x w'):callV P (.func (.func f) fi ca) args r w K:=by
 subst hr
 have hb:Nat.beq f f=true:=Nat.beq_refl f
 simp only [callV,vcCall,hp,hf,hb]
 exact ⟨h.mono fun e w' ⟨v,he,x,hv,hK⟩=>⟨v,he,x,hv,Rk.ex_val hK⟩⟩
def lookRk (P:Program) (t:TypeId) (ok:Bool):Rk:=
 match P.underlying t,ok with
 | some (.map _ el),true=>.tup [kdOf P el,.one .bool]
 | some (.map _ el),false=>.v (kdOf P el)
 | _,_=>.tup []
def lookRk2 (P:Program) (t:TypeId):Rk:=
 match P.underlying t with
 | some (.map _ el)=>.tup [kdOf P el,.one (.int .i64)]
 | _=>.tup []
def vcOp (P:Program) (o:Oper) (e:Env) (w:World) (K:Value→World→Prop):Prop:=
  match o.op with
  | .move x | .assign x=>K (e.eval x) w
  | .pick c a b=>match e.eval c with
    | .bool c=>ifB c (K (e.eval a) w) (K (e.eval b) w)
    | _=>False
  | .load t a=>match e.eval a with
    | .pointer q=>optA q fun p=>vcLoad P t p w K
    | _=>False
  | .store t a x=>match e.eval a with
    | .pointer q=>optA q fun p=>match P.info? t with
      | some i=>match isIf P t with
       | true=>match Nat.beq 1 i.size with
        | true=>OneK (e.eval x) (StsK p [e.eval x] w fun w'=>K undef w')
        | false=>False
       | false=>match P.underlying t with
        | some (.array ..)=>match e.eval x with
          | .agg cs=>AndK (cs.toList.length=i.size) (StsK p cs.toList w fun w'=>K undef w')
          | _=>False
        | _=>match Nat.beq (e.eval x).cells.size i.size with
          | true=>match e.eval x with
            | .agg cs=>StsK p cs.toList w fun w'=>K undef w'
            | .tuple _=>False
            | v=>StK p v w fun w'=>K undef w'
          | false=>False
      | none=>False
    | _=>False
  | .nilCheck x=>nilV (e.eval x) fun v=>K v w
  | .alloc t=>match P.info? t with
    | some i=>match i.zero with
      | some z=>NewK (.cells z.cells t) w fun g w'=>K (.pointer (some ⟨g,0,none⟩)) w'
      | none=>False
    | none=>False
  | .box t x=>match isIf P t with
    | true=>OneK (e.eval x) (NewK (.cells #[e.eval x] t) w fun g w'=>K (.pointer (some ⟨g,0,none⟩)) w')
    | false=>NewK (.cells (e.eval x).cells t) w fun g w'=>K (.pointer (some ⟨g,0,none⟩)) w'
  | .build t parts=>vcParts P t (parts.toList.map fun (i,x)=>(i,e.eval x)) fun vs=>match P.built t vs with
    | some cells=>K (.agg cells) w
    | none=>False
  | .makeMap _ none=>NewK (.map #[] 0) w fun g w'=>K (.map (some g)) w'
  | .indexAddr t x i=>match P.underlying t with
    | some (.slice el)=>match e.eval x,e.eval i,P.info? el with
      | .slice base len _,.int _ i,some inf=>IdxK base len i inf.size fun a=>K (.pointer (some a)) w
      | _,_,_=>False
    | some (.array n el)=>match e.eval x,e.eval i,P.info? el with
      | .pointer q,.int _ i,some inf=>optA q fun a=>AixK a n i inf.size fun a=>K (.pointer (some a)) w
      | _,_,_=>False
    | _=>False
  | .index t x i=>match P.underlying t with
    | some .string=>match e.eval x,e.eval i with
      | .string s,.int _ i=>StrK s i fun b=>K (.int .u8 b) w
      | _,_=>False
    | some (.array n el)=>match e.eval x,e.eval i,P.info? el,kdOf P el,P.underlying el with
      | .agg cs,.int _ i,some inf,.one c,some d=>match Nat.beq inf.size 1,(match d with | .struct _ | .array ..=>false | _=>true) with
        | true,true=>ArrK cs n i c fun x=>K (c.val x) w
        | _,_=>False
      | _,_,_,_,_=>False
    | _=>False
  | .slice t x lo hi mx=>match P.underlying t with
    | some .string=>match e.eval x,mx with
      | .string s,none=>optInt (lo.map e.eval) 0 fun l=>optInt (hi.map e.eval) s.size fun h=>SubsK s l h fun s'=>K (.string s') w
      | _,_=>False
    | some (.slice el)=>match e.eval x,P.info? el with
      | .slice a len cap,some inf=>match hi,mx with
        | none,some _=>False
        | _,_=>optInt (lo.map e.eval) 0 fun l=>optInt (hi.map e.eval) len fun h=>optInt (mx.map e.eval) cap fun m=>
            SubK a cap l h m inf.size fun a' l' c'=>K (.slice a' l' c') w
      | _,_=>False
    | some (.array n el)=>match e.eval x,P.info? el with
      | .pointer q,some inf=>match hi,mx with
        | none,some _=>False
        | _,_=>optA q fun a=>optInt (lo.map e.eval) 0 fun l=>optInt (hi.map e.eval) n fun h=>optInt (mx.map e.eval) n fun m=>
            SubK (some a) n l h m inf.size fun a' l' c'=>K (.slice a' l' c') w
      | _,_=>False
    | _=>False
  | .typeAssert x _ t ok=>match P.underlying t with
    | some (.interface _)=>False
    | some _=>match ok with
      | true=>match P.info? t with
        | some i=>match i.zero with
          | some z=>TaK (e.eval x) t (kdOf P t) (fun r=>K (.tuple #[(kdOf P t).val r,.bool true]) w) (K (.tuple #[z,.bool false]) w)
          | none=>False
        | none=>False
      | false=>TaK (e.eval x) t (kdOf P t) (fun r=>K ((kdOf P t).val r) w) False
    | none=>False
  | .binOp op xt x y _=>vcBin P e op xt x y w K
  | .unOp op _ x=>ofPeek P (Op.unary op (e.eval x)) w K
  | .fieldAddr s x f=>match e.eval x with
    | .pointer q=>optA q fun a=>ofPeek P (Instr.fieldAt s (.pointer (some a)) f) w K
    | _=>False
  | .field t x f=>ofPeek P (Instr.field t (e.eval x) f) w K
  | .extract t i=>ofPeek P (Instr.extract (e.eval t) i) w fun v w=>(kdOf P o.type).ex v fun x=>K ((kdOf P o.type).val x) w
  | .makeInterface t x=>ofPeek P (Instr.makeInterface t (e.eval x)) w K
  | .makeFunc fn fi ca=>K (.func fn (evs e fi).toArray (evs e ca).toArray) w
  | .convert src dst x=>match P.underlying src,P.underlying dst with
    | some (.slice _),some .string=>RunK P (convert src dst (e.eval x)) w (.v (.one .str)) fun s w'=>K (.string s) w'
    | some .string,some (.slice _)=>RunK P (convert src dst (e.eval x)) w (.v (.one .slc)) fun s w'=>K (.slice s.1 s.2.1 s.2.2) w'
    | some (.slice _),some (.slice _)=>RunK P (convert src dst (e.eval x)) w (.v (.one .slc)) fun s w'=>K (.slice s.1 s.2.1 s.2.2) w'
    | _,_=>ofPeek P (convert src dst (e.eval x)) w K
  | .makeSlice t l c=>RunK P (Instr.makeSlice t (e.eval l) (e.eval c)) w (.v (.one .slc)) fun s w'=>K (.slice s.1 s.2.1 s.2.2) w'
  | .buildSlice t n parts=>RunK P (Instr.buildSlice t n (parts.toList.map fun (i,x)=>(i,e.eval x)).toArray) w (.v (.one .slc)) fun s w'=>K (.slice s.1 s.2.1 s.2.2) w'
  | .lookup t x i ok=>RunK P (Instr.lookup t (e.eval x) (e.eval i) ok) w (lookRk P t ok) fun x w'=>K ((lookRk P t ok).val x) w'
  | .mapEntry t m k=>RunK P (Instr.mapEntry t (e.eval m) (e.eval k)) w (lookRk2 P t) fun x w'=>K ((lookRk2 P t).val x) w'
  | .entryStore t m k x=>RunU P (Instr.entryStore t (e.eval m) (e.eval k) (e.eval x)) w fun w'=>K undef w'
  | .mapUpdate t m k x | .insert t m k x=>RunU P (Instr.mapUpdate t (e.eval m) (e.eval k) (e.eval x)) w fun w'=>K undef w'
  | .range t x=>RunK P (Instr.range t (e.eval x)) w (.v (.one .ptr)) fun x w'=>K (.pointer x) w'
  | .next it s=>match s with
    | true=>match e.eval it with
      | .pointer q=>NextK q w (fun pos c w'=>K (.tuple #[.bool true,.int .i64 pos,.int .i32 c]) w') (K (.tuple #[.bool false]) w)
      | _=>False
    | false=>MnextK P (e.eval it) o.type w (fun k v w'=>K (.tuple #[.bool true,k,v]) w') (fun w'=>K (.tuple #[.bool false]) w')
  | .entry it=>RunK P (Instr.entry (e.eval it)) w (.tup [.one .raw,.one .raw]) fun x w'=>K (.tuple #[x.1,x.2.1]) w'
  | .call c=>match c.callee with
    | .builtin .append=>RunK P (Builtin.append_ c.argTypes o.type (evs e c.args).toArray) w (.v (.one .slc)) fun s w'=>K (.slice s.1 s.2.1 s.2.2) w'
    | .builtin .copy=>RunK P (Builtin.copy_ c.argTypes o.type (evs e c.args).toArray) w (.v (.one (.int .i64))) fun n w'=>K (.int .i64 n) w'
    | .builtin .delete=>RunK P (Builtin.delete_ c.argTypes o.type (evs e c.args).toArray) w (.tup []) fun _ w'=>K (.tuple #[]) w'
    | .builtin .len=>match evs e c.args with
      | [.map m]=>match (c.argTypes[0]?).bind P.underlying with
        | some (.map ..)=>MlenK m w fun n=>K (.int .i64 n) w
        | _=>False
      | l=>ofPeek P (Builtin.len_ c.argTypes o.type l.toArray) w K
    | .builtin .cap=>ofPeek P (Builtin.cap_ c.argTypes o.type (evs e c.args).toArray) w K
    | .builtin .min=>ofPeek P (Builtin.min_ c.argTypes o.type (evs e c.args).toArray) w K
    | .builtin .max=>ofPeek P (Builtin.max_ c.argTypes o.type (evs e c.args).toArray) w K
    | .value x=>match x with
      | .tmp _=>callV P (e.eval x) (evs e c.args) (resRk P o.type) w fun x w'=>K ((resRk P o.type).val x) w'
      | _=>match e.eval x with
        | .func (.func f) fi ca=>vcCall P f (fi.toList++evs e c.args++ca.toList) w K
        | _=>False
    | _=>False
  | _=>False
def vcOps (P:Program) (n:Nat) (ops:Array Oper):List Oper→Env→World→(Env→World→Prop)→Prop
 | [],e,w,K=>K e w
 | o::rest,e,w,K=>match okDst n o.dst with
  | false=>False
  | true=>match o.guard with
   | none=>vcOp P o e w fun v w'=>vcOps P n ops rest (e.put o.dst v) w' K
   | some (j,want)=>match (ops[j]?).bind (·.dst) with
    | none=>False
    | some d=>match e.get d with
     | .bool b=>match want with
      | true=>ifB b (vcOp P o (e.put (some d) (.bool true)) w fun v w'=>vcOps P n ops rest ((e.put (some d) (.bool true)).put o.dst v) w' K)
        (vcOps P n ops rest ((e.put (some d) (.bool false)).put o.dst undef) w K)
      | false=>ifB b (vcOps P n ops rest ((e.put (some d) (.bool true)).put o.dst undef) w K)
        (vcOp P o (e.put (some d) (.bool false)) w fun v w'=>vcOps P n ops rest ((e.put (some d) (.bool false)).put o.dst v) w' K)
     | .tuple _=>vcOps P n ops rest (e.put o.dst undef) w K
     | _=>False
def stillOp (P:Program):Op→Bool
 | .move _ | .assign _ | .pick .. | .load .. | .nilCheck _ | .build .. | .indexAddr .. | .index .. | .slice .. | .typeAssert .. | .unOp .. | .fieldAddr .. | .field .. | .extract ..
 | .makeInterface .. | .makeFunc ..=>true
 | .binOp _ t ..=>!isRefTy P t
 | .call c=>match c.callee with
  | .builtin .len | .builtin .cap | .builtin .min | .builtin .max=>true
  | _=>false
 | _=>false
def isInt (P:Program) (t:TypeId):Bool:=match P.underlying t with
 | some (.int _)=>true
 | _=>false
def pureOp (P:Program):Op→Bool
 | .convert s d _=>isInt P s&&isInt P d
 | .move _ | .assign _ | .pick .. | .nilCheck _ | .build .. | .indexAddr .. | .index .. | .slice .. | .typeAssert .. | .unOp .. | .fieldAddr .. | .field .. | .extract ..
 | .makeInterface .. | .makeFunc ..=>true
 | .binOp _ t ..=>!isRefTy P t
 | .call c=>match c.callee with
  | .builtin .cap | .builtin .min | .builtin .max=>true
  | .builtin .len=>match c.argTypes.toList with
   | [t]=>match P.underlying t with | some (.map ..)=>false | some _=>true | none=>false
   | _=>false
  | _=>false
 | _=>false
def mem:List Nat→Nat→Bool
 | [],_=>false
 | u::l,t=>match Nat.beq u t with | true=>true | false=>mem l t
def anc (ops:Array Oper):Nat→Nat→List Nat
 | 0,_=>[]
 | f+1,i=>match ops[i]? with
  | some o=>o.after.toList.flatMap fun e=>match Region.binds .any e with | true=>e.on::anc ops f e.on | false=>[]
  | none=>[]
def loudOf:List (Nat×Rk)→Nat→Option Rk
 | [],_=>none
 | (j,r)::l,k=>match Nat.beq j k with | true=>some r | false=>loudOf l k
def priors (ops:Array Oper) (loud:List (Nat×Rk)) (k:Nat):List Nat:=
 (loud.map (·.1)).filter fun j=>mem (anc ops ops.size k) j
def vcAnyOne (P:Program) (ops:Array Oper) (loud:List (Nat×Rk)) (C:(Nat→Bool)→World→Prop) (o:Oper) (k:Nat) (e:Env) (w:World) (next:Value→Prop):Prop:=
 match loudOf loud k with
 | some r=>AnyK C k (priors ops loud k) r (fun w kk=>vcOp P o e w kk) fun x=>next (r.val x)
 | none=>match pureOp P o.op with
  | true=>vcOp P o e w fun v _=>next v
  | false=>False
def vcAny (P : Program) (n : Nat) (ops : Array Oper) (loud : List (Nat × Rk)) (C : (Nat → Bool) → World → Prop) (w : World) : List Oper → Nat → Env → (Env → Prop) → Prop
  | [], _, e, K => K e
  | o :: rest, k, e, K => match okDst n o.dst with
    | false => False
    | true => match o.guard with
      | none => vcAnyOne P ops loud C o k e w fun v => vcAny P n ops loud C w rest (k + 1) (e.put o.dst v) K
      | some (j, want) => match (ops[j]?).bind (·.dst) with
        | none => False
        | some d => match e.get d with
          | .bool b => match want with
            | true => ifB b (vcAnyOne P ops loud C o k (e.put (some d) (.bool true)) w fun v => vcAny P n ops loud C w rest (k + 1) ((e.put (some d) (.bool true)).put o.dst v) K)
                (match loudOf loud k with
                  | some _ => SkipK C k (vcAny P n ops loud C w rest (k + 1) ((e.put (some d) (.bool false)).put o.dst undef) K)
                  | none => vcAny P n ops loud C w rest (k + 1) ((e.put (some d) (.bool false)).put o.dst undef) K)
            | false => ifB b (match loudOf loud k with
                  | some _ => SkipK C k (vcAny P n ops loud C w rest (k + 1) ((e.put (some d) (.bool true)).put o.dst undef) K)
                  | none => vcAny P n ops loud C w rest (k + 1) ((e.put (some d) (.bool true)).put o.dst undef) K)
                (vcAnyOne P ops loud C o k (e.put (some d) (.bool false)) w fun v => vcAny P n ops loud C w rest (k + 1) ((e.put (some d) (.bool false)).put o.dst v) K)
          | .tuple _ => match loudOf loud k with
            | some _ => SkipK C k (vcAny P n ops loud C w rest (k + 1) (e.put o.dst undef) K)
            | none => vcAny P n ops loud C w rest (k + 1) (e.put o.dst undef) K
          | _ => False
inductive Hp where
 | done
 | soft (i:Nat) (h:Hp)
 | pick (i:Nat) (h more:Hp)
 | last (i:Nat) (h:Hp)
 | stop
def isLoad:Op→Bool
 | .load ..=>true
 | _=>false
def needsK (ops:Array Oper) (i:Nat):Bool:=(List.range ops.size).any fun s=>match ops[s]? with | some o=>isLoad o.op&&!mem (anc ops ops.size i) s | none=>false
def vcSoft (P:Program) (o:Oper) (e:Env) (S:Nat→Prop) (w0:World) (K:Value→Prop):Prop:=
 match o.op with
 | .load t a=>match e.eval a with
  | .pointer q=>optA q fun p=>InK S p (vcLoad P t p w0 fun v _=>K v)
  | _=>False
 | _=>match pureOp P o.op with
  | true=>vcOp P o e w0 fun v _=>K v
  | false=>False
def vcGuard (ops:Array Oper) (o:Oper) (e:Env) (doit skip:Env→Prop):Prop:=
 match o.guard with
 | none=>doit e
 | some (j,want)=>match (ops[j]?).bind (·.dst) with
  | none=>False
  | some d=>match e.get d with
   | .bool b=>match want with
    | true=>ifB b (doit (e.put (some d) (.bool true))) (skip (e.put (some d) (.bool false)))
    | false=>ifB b (skip (e.put (some d) (.bool true))) (doit (e.put (some d) (.bool false)))
   | .tuple _=>skip e
   | _=>False
def vcHeld (P:Program) (n:Nat) (ops:Array Oper) (S:Nat→Prop):Hp→Nat→List Nat→Array Bool→Env→World→(Env→World→Prop)→Prop
 | .done,k,_,listed,e,w,K=>match Nat.beq k 0&&(Region.ready .any ops listed).isEmpty with | true=>K e w | false=>False
 | .soft i h,k,_,listed,e,w,K=>match k,ops[i]? with
  | k+1,some o=>match okDst n o.dst&&(Region.ready .any ops listed).contains i&&Region.free .any ops listed i with
   | false=>False
   | true=>vcGuard ops o e (fun e=>vcSoft P o e S w fun v=>vcHeld P n ops S h k [] (listed.setIfInBounds i true) (e.put o.dst v) w K)
     (fun e=>vcHeld P n ops S h k [] (listed.setIfInBounds i true) (e.put o.dst undef) w K)
  | _,_=>False
 | .pick i h .stop,k,seen,listed,e,w,K=>match k,ops[i]? with
  | k+1,some o=>match okDst n o.dst&&(Region.ready .any ops listed).contains i&&(Region.ready .any ops listed).all (fun j=>mem (i::seen) j) with
   | true=>vcGuard ops o e (fun e=>vcOp P o e w fun v w'=>KeepK S w w' (vcHeld P n ops S h k [] (listed.setIfInBounds i true) (e.put o.dst v) w' K))
     (fun e=>vcHeld P n ops S h k [] (listed.setIfInBounds i true) (e.put o.dst undef) w K)
   | false=>False
  | _,_=>False
 | .pick i h (.pick i2 h2 m2),k,seen,listed,e,w,K=>match k,ops[i]? with
  | k+1,some o=>match okDst n o.dst with
   | false=>False
   | true=>AndK (vcGuard ops o e (fun e=>vcOp P o e w fun v w'=>KeepK S w w' (vcHeld P n ops S h k [] (listed.setIfInBounds i true) (e.put o.dst v) w' K))
     (fun e=>vcHeld P n ops S h k [] (listed.setIfInBounds i true) (e.put o.dst undef) w K)) (vcHeld P n ops S (.pick i2 h2 m2) (k+1) (i::seen) listed e w K)
  | _,_=>False
 | .last i h,k,_,listed,e,w,K=>match k,ops[i]? with
  | k+1,some o=>match okDst n o.dst&&(Region.ready .any ops listed).contains i&&(Region.ready .any ops listed).all (fun j=>mem [i] j)&&!needsK ops i with
   | true=>vcGuard ops o e (fun e=>vcOp P o e w fun v w'=>vcHeld P n ops S h k [] (listed.setIfInBounds i true) (e.put o.dst v) w' K)
     (fun e=>vcHeld P n ops S h k [] (listed.setIfInBounds i true) (e.put o.dst undef) w K)
   | false=>False
  | _,_=>False
 | _,_,_,_,_,_,_=>False
inductive Plan where
 | auto
 | seq (a b:Plan)
 | cond (a b:Plan)
 | block (p:Plan)
 | loop (ks:List (Nat×Kd)) (p:Plan)
 | join (ks:List (Nat×Kd)) (a b:Plan)
 | still
 | tail (k:Nat)
 | any (loud:List (Nat×Rk))
 | held (h:Hp)
def thenQ (N:Env→World→Prop) (Q:Exit→Env→World→Prop):Exit→Env→World→Prop
 | .normal,e,w=>N e w
 | .exit i,e,w=>Q (.exit i) e w
 | .ret,e,w=>Q .ret e w
 | _,_,_=>False
def blockQ (id:Nat) (Q:Exit→Env→World→Prop):Exit→Env→World→Prop
 | .normal,e,w=>Q .normal e w
 | .exit i,e,w=>match Nat.beq i id with | true=>Q .normal e w | false=>Q (.exit i) e w
 | .ret,e,w=>Q .ret e w
 | _,_,_=>False
def dsts:Code→List Nat
 | .region _ ops _=>ops.toList.filterMap (·.dst)
 | .seq a b=>dsts a++dsts b
 | .cond _ a b=>dsts a++dsts b
 | .block _ c=>dsts c
 | .loop c=>dsts c
 | _=>[]
def strike (ds:List Nat):List (Nat×Value)→List (Nat×Value)
 | []=>[]
 | (u,v)::l=>match mem ds u with | true=>strike ds l | false=>(u,v)::strike ds l
def bindS:(ks:List (Nat×Kd))→St (ks.map (·.2))→List (Nat×Value)→List (Nat×Value)
 | [],_,l=>l
 | (t,k)::ks,s,l=>(t,k.val s.1)::bindS ks s.2 l
def slots (e:Env) (ks:List (Nat×Kd)):List Value:=ks.map fun x=>e.get x.1
def vcCode (P:Program) (n:Nat):Code→Plan→Env→World→(Exit→Env→World→Prop)→Prop
 | .skip,_,e,w,Q=>Q .normal e w
 | .region _ ops draw,p,e,w,Q=>match draw with
  | false=>vcOps P n ops ops.toList e w (Q .normal)
  | true=>match p with
   | .still=>match Region.lexB .any ops&&ops.toList.all (fun o=>stillOp P o.op) with
    | true=>DrewK w fun w'=>vcOps P n ops ops.toList e w' (Q .normal)
    | false=>False
   | .tail k=>match Region.lexTailB .any ops k&&(ops.toList.take k).all (fun o=>stillOp P o.op) with
    | true=>DrewK w fun w'=>vcOps P n ops ops.toList e w' (Q .normal)
    | false=>False
   | .any loud=>match Region.lexB .any ops&&(loud.map (·.1)).all (fun j=>Nat.blt j ops.size) with
    | true=>RegK w fun C=>vcAny P n ops loud C w ops.toList 0 e fun e'=>∀ w',C (mem (loud.map (·.1))) w'→Q .normal e' w'
    | false=>False
   | .held h=>match Region.noSelect ops with
    | true=>DrewK w fun w'=>HoldK fun S=>vcHeld P n ops S h ops.size [] (Array.replicate ops.size false) e w' (Q .normal)
    | false=>False
   | _=>False
 | .seq a b,p,e,w,Q=>match p with
  | .seq pa pb=>vcCode P n a pa e w (thenQ (fun e w=>vcCode P n b pb e w Q) Q)
  | .join ks pa pb=>JoinK (St (ks.map (·.2)))
    (fun J=>vcCode P n a pa e w (thenQ (fun e' w'=>St.ex (ks.map (·.2)) (slots e' ks) fun s=>J s w') Q))
    (fun b' s w'=>vcCode P n b pb ⟨bindS ks s (strike (dsts a) e.l),b'⟩ w' Q)
  | _=>vcCode P n a .auto e w (thenQ (fun e w=>vcCode P n b .auto e w Q) Q)
 | .cond c x y,p,e,w,Q=>match e.eval c with
  | .bool t=>match p with
   | .cond px py=>ifB t (vcCode P n x px e w Q) (vcCode P n y py e w Q)
   | _=>ifB t (vcCode P n x .auto e w Q) (vcCode P n y .auto e w Q)
  | _=>False
 | .block id c,p,e,w,Q=>match p with
  | .block p=>vcCode P n c p e w (blockQ id Q)
  | _=>vcCode P n c .auto e w (blockQ id Q)
 | .loop c,p,e,w,Q=>match p with
  | .loop ks p=>St.ex (ks.map (·.2)) (slots e ks) fun s0=>
    LoopK (St (ks.map (·.2))) (fun b s w' next=>vcCode P n c p ⟨bindS ks s (strike (dsts c) e.l),b⟩ w'
     (thenQ (fun e' w''=>St.ex (ks.map (·.2)) (slots e' ks) fun s'=>next s' w'') Q)) s0 w
  | _=>False
 | .exit id,_,e,w,Q=>Q (.exit id) e w
 | .ret,_,e,w,Q=>Q .ret e w
 | _,_,_,_,_=>False
def argEnv:Nat→List Value→List (Nat×Value)
 | _,[]=>[]
 | i,v::vs=>(i,v)::argEnv (i+1) vs
def vcResult (P:Program) (e:Env) (w:World):ResultVar→(Value→Prop)→Prop
 | .tmp t,K=>K (e.get t)
 | .cell a t,K=>match e.get a with
  | .pointer q=>optA q fun p=>vcLoad P t p w fun v _=>K v
  | _=>False
def vcResults (P:Program) (e:Env) (w:World):List ResultVar→(List Value→Prop)→Prop
 | [],K=>K []
 | r::rs,K=>vcResult P e w r fun v=>vcResults P e w rs fun vs=>K (v::vs)
def oneOf:List Value→Value
 | [v]=>v
 | vs=>.tuple vs.toArray
def vcFunc (P:Program) (fn:Func) (p:Plan) (args:List Value) (w:World) (K:Value→World→Prop):Prop:=
 match fn.body with
 | none=>False
 | some c=>match Nat.ble args.length fn.ntmps with
  | false=>False
  | true=>vcCode P fn.ntmps c p ⟨argEnv 0 args,fun _=>undef⟩ w fun x e w'=>match x with
   | .normal | .ret=>vcResults P e w' fn.results.toList fun vs=>K (oneOf vs) w'
   | _=>False
end Vc
namespace Vc
theorem run_peek {α:Type} {P:Program} {s:Sem α} {a:α} (h:peek P s=some a) (w:World):s.run P w=.ok a w:=peek_run h w
section
variable {P:Program}
theorem under {t:TypeId} {d:TypeDesc} (h:P.underlying t=some d) (w:World):(underlying t).run P w=.ok d w:=by
 simp [underlying,h]
theorem sizeof {t:TypeId} {i:TypeInfo} (h:P.info? t=some i) (w:World):(sizeOf t).run P w=.ok i.size w:=by
 simp [sizeOf,typeInfo,h]
theorem zeroof {t:TypeId} {i:TypeInfo} {z:Value} (h:P.info? t=some i) (hz:i.zero=some z) (w:World):(zeroValue t).run P w=.ok z w:=by
 simp [zeroValue,typeInfo,h,hz]
def aggB:TypeDesc→Bool
 | .struct _ | .array ..=>true
 | _=>false
theorem isagg {t:TypeId} {d:TypeDesc} (h:P.underlying t=some d) (w:World):(isAgg t).run P w=.ok (aggB d) w:=by
 simp only [isAgg,Sem.run_bind,under h,Result.andThen_ok]
 cases d<;>rfl
theorem load_ok {w:World} {p:Addr} {v:Value} (h:w.cell? p=some v):(load p).run P w=.ok v w:=by simp [h]
theorem loadCellsFrom_ok {w:World} {p:Addr}:∀ (vs:List Value) (i:Nat) (acc:Array Value),CellsAt w p i vs→(loadCellsFrom p i vs.length acc).run P w=.ok (acc++vs.toArray) w
 | [],i,acc,_=>by simp [loadCellsFrom]
 | v::vs,i,acc,h=>by
  obtain ⟨h1,h2⟩:=h
  simp only [List.length_cons,loadCellsFrom,Sem.run_bind,load_ok h1,Result.andThen_ok]
  rw [loadCellsFrom_ok vs (i+1) (acc.push v) h2]
  congr 1
  apply Array.ext'
  simp
theorem z31z {w:World} {p:Addr} (vs:List Value) (h:CellsAt w p 0 vs):(loadCells p vs.length).run P w=.ok vs.toArray w:=by
 have:=loadCellsFrom_ok (P:=P) vs 0 #[] h
 simpa [loadCells] using this
theorem Cs.vals_length:∀ (cs:List Ck) (x:Cs cs),(Cs.vals cs x).length=cs.length
 | [],_=>rfl
 | c::cs,x=>by simp only [Cs.vals,List.length_cons,Cs.vals_length cs x.2]
theorem loadVar_ok {t:TypeId} {p:Addr} {w:World} {K:Value→World→Prop} (h:vcLoad P t p w K):∃ v,(loadVar t p).run P w=.ok v w∧K v w:=by
 unfold vcLoad at h
 split at h
 case h_1 fs i hu hi=>
  split at h
  case h_1 cs hz=>
   split at h
   case h_1 hb=>
    obtain ⟨x,hx,hK⟩:=h.out
    refine ⟨_,?_,hK⟩
    have hs:=Nat.eq_of_beq_eq_true hb
    simp only [loadVar,Sem.run_bind,isagg hu,aggB,Result.andThen_ok,if_true,sizeof hi]
    rw [hs,← Cs.vals_length _ x,z31z _ hx]
    rfl
   case h_2=>cases h
  case h_2=>cases h
 case h_2 hu hi=>
  obtain ⟨x,hn,hx,hK⟩:=h.out
  refine ⟨_,?_,hK⟩
  simp only [loadVar,Sem.run_bind,isagg hu,aggB,Result.andThen_ok,if_true,sizeof hi]
  rw [← hn,z31z _ hx]
  rfl
 case h_3 d i hs ha hu hi=>
  split at h
  case h_1 c hk=>
   obtain ⟨x,hx,hK⟩:=h.out
   refine ⟨_,?_,hK⟩
   have hf:aggB d=false:=by
    cases d<;>first | rfl | exact (hs _ rfl).elim | exact (ha _ _ rfl).elim
   simp only [loadVar,Sem.run_bind,isagg hu,hf,Result.andThen_ok,Bool.false_eq_true,if_false]
   exact load_ok hx
  case h_2=>cases h
 case h_4=>cases h
theorem Ck.val_inj {c:Ck} {x y:c.C} (h:c.val x=c.val y):x=y:=by
 cases c<;>simp only [Ck.val] at h
 case slc=>
  obtain ⟨a,b,d⟩:=x;obtain ⟨a',b',d'⟩:=y
  injection h with h1 h2 h3
  simp only at h1 h2 h3
  subst h1;subst h2;subst h3;rfl
 case raw=>exact h
 all_goals (injection h)
theorem Cs.vals_inj:∀ {cs:List Ck} {x y:Cs cs},Cs.vals cs x=Cs.vals cs y→x=y
 | [],_,_,_=>rfl
 | c::cs,(x,xs),(y,ys),h=>by
  simp only [Cs.vals,List.cons.injEq] at h
  rw [Ck.val_inj h.1,Cs.vals_inj h.2]
theorem Kd.val_inj {k:Kd} {x y:k.C} (h:k.val x=k.val y):x=y:=by
 cases k<;>simp only [Kd.val] at h
 case one c=>exact Ck.val_inj h
 case agg cs=>injection h with h;exact Cs.vals_inj (by simpa using h)
 case arr=>injection h with h;simpa using h
theorem St.vals_inj:∀ {ks:List Kd} {x y:St ks},St.vals ks x=St.vals ks y→x=y
 | [],_,_,_=>rfl
 | k::ks,(x,xs),(y,ys),h=>by
  simp only [St.vals,List.cons.injEq] at h
  rw [Kd.val_inj h.1,St.vals_inj h.2]
theorem store_ok {w:World} {p:Addr} {v:Value} (h1:one1 v=true) (h2:(w.cell? p).isSome=true) (h3:w.frozen? p=false):(store p v).run P w=.ok () (w.setCell p v):=by
 rw [run_store P w p v .plain (by cases v<;>first | rfl | exact h1)]
 cases hc:w.cell? p with
 | none=>rw [hc] at h2;cases h2
 | some u=>simp [h3]
theorem z22z {p:Addr}:∀ (vs:List Value) (i:Nat) (w:World),Writes w p i vs→(storeCells p vs i).run P w=.ok () (setCells w p i vs)
 | [],i,w,_=>by simp [storeCells,setCells]
 | v::vs,i,w,h=>by
  obtain ⟨h1,h2,h3,h4⟩:=h
  simp only [storeCells,Sem.run_bind,store_ok h1 h2 h3,Result.andThen_ok,setCells]
  exact z22z vs (i+1) _ h4
theorem fill_same {place:Nat→Option (Nat×Nat)}:∀ {l l':List (Nat×Value)} {cells:Array Value},l.map (fun p=>(p.1,p.2.cells))=l'.map (fun p=>(p.1,p.2.cells)) →
  Instr.fill place cells l=Instr.fill place cells l'
 | [],[],_,_=>rfl
 | [],_::_,_,h=>by simp at h
 | _::_,[],_,h=>by simp at h
 | (i,v)::l,(i',v')::l',cells,h=>by
  simp only [List.map_cons,List.cons.injEq,Prod.mk.injEq] at h
  obtain ⟨⟨rfl,h2⟩,h3⟩:=h
  unfold Instr.fill
  rw [h2]
  cases place i with
  | none=>rfl
  | some p=>
   simp only
   split
   ·rfl
   ·exact fill_same h3
theorem built_same {t:TypeId} {l l':List (Nat×Value)} (h:l.map (fun p=>(p.1,p.2.cells))=l'.map (fun p=>(p.1,p.2.cells))):P.built t l=P.built t l':=by
 unfold Program.built
 simp only [fill_same h]
theorem vcParts_same {t:TypeId}:∀ {l:List (Nat×Value)} {K:List (Nat×Value)→Prop},vcParts P t l K→∃ l',l.map (fun p=>(p.1,p.2.cells))=l'.map (fun p=>(p.1,p.2.cells))∧K l'
 | [],K,h=>⟨[],rfl,h⟩
 | p::l,K,h=>by
  unfold vcParts at h
  split at h
  ·obtain ⟨h1,h⟩:=h.out
   obtain ⟨l',h2,h⟩:=vcParts_same h
   exact ⟨_,by simp only [List.map_cons,h2,h1];rfl,h⟩
  ·split at h
   ·obtain ⟨i,v⟩:=p
    cases v with
    | agg cs=>
     obtain ⟨y,hy,h⟩:=h.out
     obtain ⟨l',h2,h⟩:=vcParts_same h
     refine ⟨_,?_,h⟩
     rw [← hy,List.map_cons,List.map_cons,h2,Array.toArray_toList]
    | _=>cases h
   ·obtain ⟨l',h2,h⟩:=vcParts_same h
    exact ⟨_,by simp only [List.map_cons,h2],h⟩
theorem vcParts_ok {t:TypeId} {l:List (Nat×Value)} {K:Array Value→Prop}
  (h:vcParts P t l fun vs=>match P.built t vs with | some cells=>K cells | none=>False):∃ cells,P.built t l=some cells∧K cells:=by
 obtain ⟨l',h1,h⟩:=vcParts_same h
 rw [built_same h1]
 split at h
 ·exact ⟨_,‹_›,h⟩
 ·cases h
def Yields (P:Program) (s:Sem Next) (w:World) (K:Value→World→Prop):Prop:=
 (∃ v w',s.run P w=.ok (.value v) w'∧K v w')∨(∃ w',s.run P w=.ok .skip w'∧K undef w')∨(∃ f args,s.run P w=.ok (.enter f args) w∧Ret P f args w K)
def YieldsS (P:Program) (s:Sem Next) (w:World) (K:Value→World→Prop):Prop:=
 (∃ v,s.run P w=.ok (.value v) w∧K v w)∨(s.run P w=.ok .skip w∧K undef w)
def YieldsP (P:Program) (s:Sem Next) (w:World) (K:Value→World→Prop):Prop:=∃ v,(∀ w',s.run P w'=.ok (.value v) w')∧K v w
theorem YieldsP.still {s:Sem Next} {w:World} {K:Value→World→Prop} (h:YieldsP P s w K):YieldsS P s w K:=let ⟨v,a,b⟩:=h;.inl ⟨v,a w,b⟩
theorem yvP {s:Sem Value} {w:World} {v:Value} {K:Value→World→Prop} (h:∀ w',s.run P w'=.ok v w') (hK:K v w):YieldsP P (do pure (.value (← s))) w K:=
 ⟨v,fun w'=>by simp [h w'],hK⟩
theorem yv {s:Sem Value} {w w':World} {v:Value} {K:Value→World→Prop} (h:s.run P w=.ok v w') (hK:K v w'):Yields P (do pure (.value (← s))) w K:=
 .inl ⟨v,w',by simp [h],hK⟩
theorem yvS {s:Sem Value} {w:World} {v:Value} {K:Value→World→Prop} (h:s.run P w=.ok v w) (hK:K v w):YieldsS P (do pure (.value (← s))) w K:=
 .inl ⟨v,by simp [h],hK⟩
theorem yu {s:Sem Unit} {w w':World} {K:Value→World→Prop} (h:s.run P w=.ok () w') (hK:K undef w'):Yields P (do s;pure .skip) w K:=
 .inr (.inl ⟨w',by simp [h],hK⟩)
theorem YieldsS.weak {s:Sem Next} {w:World} {K:Value→World→Prop} (h:YieldsS P s w K):Yields P s w K:=
 h.elim (fun ⟨v,a,b⟩=>.inl ⟨v,w,a,b⟩) (fun ⟨a,b⟩=>.inr (.inl ⟨w,a,b⟩))
theorem z18z {s:Sem Value} {w:World} {K:Value→World→Prop} (h:ofPeek P s w K):∃ v,(∀ w',s.run P w'=.ok v w')∧K v w:=by
 unfold ofPeek at h
 split at h
 ·rename_i v hv;exact ⟨v,fun w'=>run_peek hv w',h⟩
 ·cases h
theorem z36z {s:Sem Value} {w:World} {K:Value→World→Prop} (h:ofPeek P s w K):∃ v,s.run P w=.ok v w∧K v w:=by
 unfold ofPeek at h
 split at h
 ·rename_i v hv;exact ⟨v,run_peek hv w,h⟩
 ·cases h
theorem optA_ok {q:Option Addr} {K:Addr→Prop} (h:optA q K):∃ a,q=some a∧K a:=by
 cases q with
 | none=>cases h
 | some a=>exact ⟨a,rfl,h⟩
theorem ifB_ok {b:Bool} {A B:Prop} (h:ifB b A B):(b=true→A)∧(b=false→B):=by
 cases b
 ·exact ⟨fun h=>(by cases h),fun _=>h⟩
 ·exact ⟨fun _=>h,fun h=>(by cases h)⟩
theorem optInt_ok {v:Option Value} {d:Int} {K:Int→Prop} (h:optInt v d K):(v=none∧K d)∨∃ k i,v=some (.int k i)∧K i:=by
 unfold optInt at h
 split at h
 ·exact .inl ⟨rfl,h⟩
 ·exact .inr ⟨_,_,rfl,h⟩
 ·cases h
theorem z40z {op:BinOp} {t:TypeId} {x y:Operand} {a b:Value} (w:World) (h1:a≠.nilIface) (h2:∀ c,a≠.agg c):(eqGuard op t x y a b).run P w=.ok () w:=by
 unfold eqGuard
 cases a<;>first | exact absurd rfl h1 | exact absurd rfl (h2 _) | (cases op<;>rfl)
theorem binOp_int {op:BinOp} {t:TypeId} {k k':IntKind} {a b:Int} (h:k=k'):(op=.quo→b≠0→∀ w,(binOp op t (.int k a) (.int k' b)).run P w=.ok (.int k (k.wrap (a.tdiv b))) w) ∧
  (op=.rem→b≠0→∀ w,(binOp op t (.int k a) (.int k' b)).run P w=.ok (.int k (a.tmod b)) w):=by
 subst h
 refine ⟨fun ho hb w=>?_,fun ho hb w=>?_⟩<;>subst ho<;>simp [binOp,Op.intDiv,hb]
theorem binOp_shift {t:TypeId} {k k':IntKind} {a b:Int} (hb:0≤b) (w:World) :
  (binOp .shl t (.int k a) (.int k' b)).run P w=.ok (.int k (k.wrap (a * 2 ^ (min b.toNat k.bits)))) w ∧
  (binOp .shr t (.int k a) (.int k' b)).run P w=.ok (.int k (a.fdiv (2 ^ (min b.toNat k.bits)))) w:=by
 have hn:¬ b<0:=by omega
 exact ⟨by simp [binOp,Op.shift,hn],by simp [binOp,Op.shift,hn]⟩
theorem equal_nil {d:TypeDesc} {t:TypeId} (hd:P.underlying t=some d) (w:World) :
  (∀ e p,d=.pointer e→(Op.equal t (.pointer p) (.pointer none)).run P w=.ok p.isNone w) ∧
  (∀ e p l c l' c',d=.slice e→(Op.equal t (.slice p l c) (.slice none l' c')).run P w=.ok p.isNone w) ∧
  (∀ k e p,d=.map k e→(Op.equal t (.map p) (.map none)).run P w=.ok p.isNone w):=by
 refine ⟨fun e p h=>?_,fun e p l c l' c' h=>?_,fun k e p h=>?_⟩<;>subst h<;>unfold Op.equal Op.maxDepth<;>unfold Op.equalIn <;>
  simp only [Sem.run_bind,under hd,Result.andThen_ok]
 ·cases p<;>simp
 ·cases p<;>simp
 ·cases p<;>simp
theorem vcBin_ok {e:Env} {op:BinOp} {xt:TypeId} {x y:Operand} {w:World} {K:Value→World→Prop} (h:vcBin P e op xt x y w K) :
  ∃ v w',(do eqGuard op xt x y (e.eval x) (e.eval y);binOp op xt (e.eval x) (e.eval y):Sem Value).run P w=.ok v w'∧K v w' ∧
   (isRefTy P xt=false→w'=w∧∀ w2,(do eqGuard op xt x y (e.eval x) (e.eval y);binOp op xt (e.eval x) (e.eval y):Sem Value).run P w2=.ok v w2):=by
 unfold vcBin at h
 split at h
 ·rename_i hr
  obtain ⟨b,w',hrun,hK⟩:=h.out
  exact ⟨_,w',hrun,hK,fun hf=>by rw [hr] at hf;cases hf⟩
 ·rename_i hr
  have pk:∀ {s:Sem Value},ofPeek P s w K→∃ v w',s.run P w=.ok v w'∧K v w'∧(isRefTy P xt=false→w'=w∧∀ w2,s.run P w2=.ok v w2):=fun h=>
   let ⟨v,a,b⟩:=z18z h;⟨v,w,a w,b,fun _=>⟨rfl,a⟩⟩
  have al:∀ {s:Sem Value} {v:Value},(∀ w2,s.run P w2=.ok v w2)→K v w→∃ v w',s.run P w=.ok v w'∧K v w'∧(isRefTy P xt=false→w'=w∧∀ w2,s.run P w2=.ok v w2):=fun {s v} a b=>⟨v,w,a w,b,fun _=>⟨rfl,a⟩⟩
  split at h
  case h_1 k a k' b ex ey=>
   rw [ex,ey]
   have g1:∀ w,(eqGuard op xt x y (.int k a) (.int k' b)).run P w=.ok () w:=fun w=>z40z w (by simp) (by simp)
   split at h
   case h_1 hk=>
    have hk':k=k':=of_decide_eq_true hk
    subst hk'
    split at h
    ·obtain ⟨hb,hK⟩:=h.out;exact al (fun w2=>by simp only [Sem.run_bind,g1 w2,Result.andThen_ok];exact (binOp_int rfl).1 rfl hb w2) hK
    ·obtain ⟨hb,hK⟩:=h.out;exact al (fun w2=>by simp only [Sem.run_bind,g1 w2,Result.andThen_ok];exact (binOp_int rfl).2 rfl hb w2) hK
    ·obtain ⟨hb,hK⟩:=h.out;exact al (fun w2=>by simp only [Sem.run_bind,g1 w2,Result.andThen_ok];exact (binOp_shift hb w2).1) hK
    ·obtain ⟨hb,hK⟩:=h.out;exact al (fun w2=>by simp only [Sem.run_bind,g1 w2,Result.andThen_ok];exact (binOp_shift hb w2).2) hK
    ·exact pk h
   case h_2 hk=>
    split at h
    ·obtain ⟨hb,hK⟩:=h.out;exact al (fun w2=>by simp only [Sem.run_bind,g1 w2,Result.andThen_ok];exact (binOp_shift hb w2).1) hK
    ·obtain ⟨hb,hK⟩:=h.out;exact al (fun w2=>by simp only [Sem.run_bind,g1 w2,Result.andThen_ok];exact (binOp_shift hb w2).2) hK
    ·cases h
  case h_2 a b ex ey=>
   rw [ex,ey]
   have g1:∀ w,(eqGuard op xt x y (.string a) (.string b)).run P w=.ok () w:=fun w=>z40z w (by simp) (by simp)
   split at h
   ·obtain ⟨hb,hK⟩:=h.out
    refine al (fun w2=>?_) hK
    have hb':¬ ((a.size+b.size:Nat):Int) > IntKind.i64.max:=by omega
    simp only [Sem.run_bind,g1 w2,Result.andThen_ok,binOp,Op.stringOp]
    rw [if_neg hb']
    rfl
   ·exact pk h
  case h_3 a b ex ey=>rw [ex,ey];exact pk h
  case h_4 p ex ey=>
   rw [ex,ey]
   have g1:∀ op w,(eqGuard op xt x y (.pointer p) (.pointer none)).run P w=.ok () w:=fun op w=>z40z w (by simp) (by simp)
   split at h
   case h_1 hu=>exact al (fun w2=>by simp [g1,binOp,(equal_nil hu w2).1 _ p rfl]) h
   case h_2 hu=>exact al (fun w2=>by simp [g1,binOp,(equal_nil hu w2).1 _ p rfl]) h
   case h_3=>cases h
  case h_5 p l c l' c' ex ey=>
   rw [ex,ey]
   have g1:∀ op w,(eqGuard op xt x y (.slice p l c) (.slice none l' c')).run P w=.ok () w:=fun op w=>z40z w (by simp) (by simp)
   split at h
   case h_1 hu=>exact al (fun w2=>by simp [g1,binOp,(equal_nil hu w2).2.1 _ p l c l' c' rfl]) h
   case h_2 hu=>exact al (fun w2=>by simp [g1,binOp,(equal_nil hu w2).2.1 _ p l c l' c' rfl]) h
   case h_3=>cases h
  case h_6 p ex ey=>
   rw [ex,ey]
   have g1:∀ op w,(eqGuard op xt x y (.map p) (.map none)).run P w=.ok () w:=fun op w=>z40z w (by simp) (by simp)
   split at h
   case h_1 hu=>exact al (fun w2=>by simp [g1,binOp,(equal_nil hu w2).2.2 _ _ p rfl]) h
   case h_2 hu=>exact al (fun w2=>by simp [g1,binOp,(equal_nil hu w2).2.2 _ _ p rfl]) h
   case h_3=>cases h
  case h_7=>cases h
theorem evs_eq (e:Env) (xs:Array Operand):(evs e xs).toArray=xs.map e.eval:=by
 apply Array.ext'
 simp [evs]
theorem z59z (k:IntKind) (n:Int) (w:World):(asIntOf (.int k n)).run P w=.ok (k,n) w:=rfl
theorem z21z {k:IntKind} {i:Int} {y:Nat} {c:BoundsCode} (h0:0≤i) (h1:i≤y) (w:World):(Instr.sliceBound (.int k i) y c).run P w=.ok i.toNat w:=by
 simp only [Instr.sliceBound,Sem.run_bind,z59z,Result.andThen_ok,Sem.run_ite]
 rw [if_pos ⟨h0,h1⟩]
 rfl
theorem z35z {x:Value} {xt t:TypeId} {d:TypeDesc} (hd:P.underlying t=some d) (hi:∀ m,d≠.interface m) (w:World) :
  (∀ v ok,x=.iface t v→(Instr.typeAssert x xt t ok).run P w=.ok (if ok then .tuple #[v,.bool true] else v) w) ∧
  (∀ i z,P.info? t=some i→i.zero=some z→(x=.nilIface∨∃ u v,x=.iface u v∧u≠t)→(Instr.typeAssert x xt t true).run P w=.ok (.tuple #[z,.bool false]) w):=by
 refine ⟨fun v ok h=>?_,fun i z h1 h2 h=>?_⟩
 ·subst h
  unfold Instr.typeAssert
  simp only [Sem.run_bind,under hd,Result.andThen_ok]
  cases d<;>first | exact absurd rfl (hi _) | (simp only [if_true];cases ok<;>rfl)
 ·unfold Instr.typeAssert
  simp only [Sem.run_bind,under hd,Result.andThen_ok]
  rcases h with rfl | ⟨u,v,rfl,hu⟩
  ·cases d<;>first | exact absurd rfl (hi _) | simp [zeroof h1 h2]
  ·cases d<;>first | exact absurd rfl (hi _) | simp [zeroof h1 h2,hu]
theorem part_one {el:TypeId} {d:TypeDesc} {cs:Array Value} {i:Nat} {v:Value} (hd:P.underlying el=some d) (ha:aggB d=false) (hv:cs[i]? = some v) (w:World):(part el cs i).run P w=.ok v w:=by
 simp only [part,Sem.run_bind,isagg hd,ha,Result.andThen_ok,Bool.false_eq_true,if_false,hv]
 rfl
theorem callFunc_ok {f:FuncId} {args:List Value} {w:World} {K:Value→World→Prop} (h:vcCall P f args w K) :
  ∃ xs,(callFunc f args.toArray).run P w=.ok (.enter f xs) w∧Ret P f xs w K:=by
 unfold vcCall at h
 split at h
 case h_1 g xs fn hp hf=>
  split at h
  case h_1 hb=>
   have hg:=Nat.eq_of_beq_eq_true hb
   subst hg
   exact ⟨xs,run_peek hp w,h.out.mono fun e w' ⟨v,he,x,hv,hK⟩=>⟨v,he,by rw [hv];exact hK⟩⟩
  case h_2=>cases h
 case h_2=>cases h
theorem vcCall_mono {f:FuncId} {args:List Value} {w:World} {K K':Value→World→Prop} (hk:∀ v w',K v w'→K' v w') (h:vcCall P f args w K):vcCall P f args w K':=by
 unfold vcCall at h ⊢
 split at h
 case h_1 g xs fn hp hf=>
  split at h
  case h_1 hb=>exact ⟨h.out.mono fun e w' ⟨v,he,x,hv,hK⟩=>⟨v,he,x,hv,hk _ _ hK⟩⟩
  case h_2=>cases h
 case h_2=>cases h
theorem nilCheck_ok {o:Oper} {e:Env} {x:Operand} {w:World} {K:Value→World→Prop} (ho:o.op=.nilCheck x) (h:vcOp P o e w K):YieldsP P (execOp e.eval o) w K:=by
 unfold vcOp at h
 simp only [ho] at h
 unfold nilV at h
 simp only [execOp,ho]
 split at h
 case h_1 q eq=>
  obtain ⟨p,rfl,hK⟩:=optA_ok h
  rw [eq]
  exact ⟨_,fun _=>rfl,hK⟩
 case h_2 f fi ca eq=>rw [eq];exact ⟨_,fun _=>rfl,h⟩
 case h_3=>cases h
theorem indexAddr_ok {o:Oper} {e:Env} {t:TypeId} {x i:Operand} {w:World} {K:Value→World→Prop} (ho:o.op=.indexAddr t x i) (h:vcOp P o e w K):YieldsP P (execOp e.eval o) w K:=by
 unfold vcOp at h
 simp only [ho] at h
 simp only [execOp,ho]
 split at h
 case h_1 el hu=>
  split at h
  case h_1 base len c k i inf ex ei hi=>
   obtain ⟨a,rfl,h0,h1,hK⟩:=h.out
   refine yvP (fun w=>?_) hK
   rw [ex,ei]
   simp only [Instr.indexAt,Sem.run_bind,z59z,under hu,Result.andThen_ok,Sem.run_pure,if_pos (And.intro h0 h1),sizeof hi]
  case h_2=>cases h
 case h_2 n el hu=>
  split at h
  case h_1 q k i inf ex ei hi=>
   obtain ⟨p,rfl,h⟩:=optA_ok h
   obtain ⟨h0,h1,hK⟩:=h.out
   refine yvP (fun w=>?_) hK
   rw [ex,ei]
   simp only [Instr.indexAt,Instr.sureAddr,Sem.run_bind,z59z,under hu,Result.andThen_ok,Sem.run_pure,if_pos (And.intro h0 h1),sizeof hi]
  case h_2=>cases h
 case h_3=>cases h
theorem index_ok {o:Oper} {e:Env} {t:TypeId} {x i:Operand} {w:World} {K:Value→World→Prop} (ho:o.op=.index t x i) (h:vcOp P o e w K):YieldsP P (execOp e.eval o) w K:=by
 unfold vcOp at h
 simp only [ho] at h
 simp only [execOp,ho]
 split at h
 case h_1 hu=>
  split at h
  case h_1 s k i ex ei=>
   obtain ⟨b,h0,h1,hK⟩:=h.out
   refine yvP (fun w=>?_) hK
   rw [ex,ei]
   simp only [Instr.index,Sem.run_bind,z59z,under hu,Result.andThen_ok,if_pos h0,h1]
   rfl
  case h_2=>cases h
 case h_2 n el hu=>
  split at h
  case h_1 cs k i inf c d ex ei hi hk hd=>
   split at h
   case h_1 hb hagg=>
    obtain ⟨y,h0,h1,hy,hK⟩:=h.out
    refine yvP (fun w=>?_) hK
    rw [ex,ei]
    have hs:=Nat.eq_of_beq_eq_true hb
    have ha:aggB d=false:=by cases d<;>first | rfl | cases hagg
    simp only [Instr.index,Sem.run_bind,z59z,under hu,Result.andThen_ok,if_pos (And.intro h0 h1),sizeof hi,hs,Nat.mul_one]
    exact part_one hd ha hy w
   case h_2=>cases h
  case h_2=>cases h
 case h_3=>cases h
theorem z49z {a b:Int} (h0:0≤b) (h:b≤a):(a - b).toNat=a.toNat - b.toNat:=by omega
theorem sub_slice {el:TypeId} {t:TypeId} {inf:TypeInfo} {a:Option Addr} {len cap:Nat} {lo hi mx:Option Value} {l h m:Int} (hu:P.underlying t=some (.slice el)) (hinf:P.info? el=some inf)
  (hlo:(lo=none∧l=0)∨∃ k,lo=some (.int k l)) (hhi:(hi=none∧mx=none∧h=len)∨∃ k,hi=some (.int k h)) (hmx:(mx=none∧m=cap)∨∃ k,mx=some (.int k m))
  (h0:0≤l) (h1:l≤h) (h2:h≤m) (h3:m≤cap) (w:World) :
  (Instr.slice t (.slice a len cap) lo hi mx).run P w=.ok (.slice (if m=l then a else a.map (·.add (l.toNat * inf.size))) (h - l).toNat (m - l).toNat) w:=by
 have e1:(if m=l then a else a.map (·.add (l.toNat * inf.size)))=(if m.toNat=l.toNat then a else a.map (·.add (l.toNat * inf.size))):=by
  by_cases hh:m=l
  ·rw [if_pos hh,if_pos (by omega)]
  ·rw [if_neg hh,if_neg (by omega)]
 have hM:0≤m:=by omega
 have hH:0≤h:=by omega
 have hml:((m.toNat:Nat):Int)=m:=Int.toNat_of_nonneg hM
 have hhl:((h.toNat:Nat):Int)=h:=Int.toNat_of_nonneg hH
 rw [e1,z49z h0 h1,z49z h0 (by omega)]
 simp only [Instr.slice,Sem.run_bind,under hu,Result.andThen_ok]
 have hb:(Instr.sliceBounds true len cap lo hi mx).run P w=.ok (l.toNat,h.toNat,m.toNat) w:=by
  unfold Instr.sliceBounds
  rcases hmx with ⟨rfl,rfl⟩ | ⟨km,rfl⟩
  ·rcases hhi with ⟨rfl,_,rfl⟩ | ⟨kh,rfl⟩
   ·rcases hlo with ⟨rfl,rfl⟩ | ⟨kl,rfl⟩
    ·simp
    ·simp [z21z h0 h1]
   ·have hb2:=fun c=>z21z (P:=P) (k:=kh) (i:=h) (y:=cap) (c:=c) hH h2 w
    rcases hlo with ⟨rfl,rfl⟩ | ⟨kl,rfl⟩
    ·simp [hb2]
    ·simp [hb2,z21z (P:=P) (k:=kl) (i:=l) (y:=h.toNat) h0 (by omega)]
  ·have hb1:=fun c=>z21z (P:=P) (k:=km) (i:=m) (y:=cap) (c:=c) hM h3 w
   rcases hhi with ⟨_,hx,_⟩ | ⟨kh,rfl⟩
   ·cases hx
   ·have hb2:=fun c=>z21z (P:=P) (k:=kh) (i:=h) (y:=m.toNat) (c:=c) hH (by omega) w
    rcases hlo with ⟨rfl,rfl⟩ | ⟨kl,rfl⟩
    ·simp [hb1,hb2]
    ·simp [hb1,hb2,z21z (P:=P) (k:=kl) (i:=l) (y:=h.toNat) h0 (by omega)]
 simp only [hb,Result.andThen_ok,sizeof hinf,Sem.run_pure]
theorem sub_array {el:TypeId} {t:TypeId} {inf:TypeInfo} {a:Addr} {n:Nat} {lo hi mx:Option Value} {l h m:Int} (hu:P.underlying t=some (.array n el)) (hinf:P.info? el=some inf)
  (hlo:(lo=none∧l=0)∨∃ k,lo=some (.int k l)) (hhi:(hi=none∧mx=none∧h=n)∨∃ k,hi=some (.int k h)) (hmx:(mx=none∧m=n)∨∃ k,mx=some (.int k m))
  (h0:0≤l) (h1:l≤h) (h2:h≤m) (h3:m≤n) (w:World) :
  (Instr.sliceAt t (.pointer (some a)) lo hi mx).run P w=.ok (.slice (if m=l then some a else (some a).map (·.add (l.toNat * inf.size))) (h - l).toNat (m - l).toNat) w:=by
 have e1:(if m=l then some a else (some a).map (·.add (l.toNat * inf.size)))=some (if m.toNat=l.toNat then a else a.add (l.toNat * inf.size)):=by
  by_cases hh:m=l
  ·rw [if_pos hh,if_pos (by omega)]
  ·rw [if_neg hh,if_neg (by omega)];rfl
 have hM:0≤m:=by omega
 have hH:0≤h:=by omega
 have hml:((m.toNat:Nat):Int)=m:=Int.toNat_of_nonneg hM
 have hhl:((h.toNat:Nat):Int)=h:=Int.toNat_of_nonneg hH
 rw [e1,z49z h0 h1,z49z h0 (by omega)]
 simp only [Instr.sliceAt,Instr.sureAddr,Sem.run_bind,Sem.run_pure,under hu,Result.andThen_ok]
 have hb:(Instr.sliceBounds false n n lo hi mx).run P w=.ok (l.toNat,h.toNat,m.toNat) w:=by
  unfold Instr.sliceBounds
  rcases hmx with ⟨rfl,rfl⟩ | ⟨km,rfl⟩
  ·rcases hhi with ⟨rfl,_,rfl⟩ | ⟨kh,rfl⟩
   ·rcases hlo with ⟨rfl,rfl⟩ | ⟨kl,rfl⟩
    ·simp
    ·simp [z21z h0 h1]
   ·have hb2:=fun c=>z21z (P:=P) (k:=kh) (i:=h) (y:=n) (c:=c) hH h2 w
    rcases hlo with ⟨rfl,rfl⟩ | ⟨kl,rfl⟩
    ·simp [hb2]
    ·simp [hb2,z21z (P:=P) (k:=kl) (i:=l) (y:=h.toNat) h0 (by omega)]
  ·have hb1:=fun c=>z21z (P:=P) (k:=km) (i:=m) (y:=n) (c:=c) hM h3 w
   rcases hhi with ⟨_,hx,_⟩ | ⟨kh,rfl⟩
   ·cases hx
   ·have hb2:=fun c=>z21z (P:=P) (k:=kh) (i:=h) (y:=m.toNat) (c:=c) hH (by omega) w
    rcases hlo with ⟨rfl,rfl⟩ | ⟨kl,rfl⟩
    ·simp [hb1,hb2]
    ·simp [hb1,hb2,z21z (P:=P) (k:=kl) (i:=l) (y:=h.toNat) h0 (by omega)]
 simp only [hb,Result.andThen_ok,sizeof hinf,Sem.run_pure]
theorem sub_string {t:TypeId} {s:ByteArray} {lo hi:Option Value} {l h:Int} (hu:P.underlying t=some .string)
  (hlo:(lo=none∧l=0)∨∃ k,lo=some (.int k l)) (hhi:(hi=none∧h=s.size)∨∃ k,hi=some (.int k h)) (h0:0≤l) (h1:l≤h) (h2:h≤s.size) (w:World) :
  (Instr.slice t (.string s) lo hi none).run P w=.ok (.string (s.extract l.toNat h.toNat)) w:=by
 have hH:0≤h:=by omega
 have hhl:((h.toNat:Nat):Int)=h:=Int.toNat_of_nonneg hH
 simp only [Instr.slice,Sem.run_bind,under hu,Result.andThen_ok,Option.isSome_none,Bool.false_eq_true,if_false]
 have hb:(Instr.sliceBounds false s.size s.size lo hi none).run P w=.ok (l.toNat,h.toNat,s.size) w:=by
  unfold Instr.sliceBounds
  rcases hhi with ⟨rfl,rfl⟩ | ⟨kh,rfl⟩
  ·rcases hlo with ⟨rfl,rfl⟩ | ⟨kl,rfl⟩
   ·simp
   ·simp [z21z h0 h1]
  ·have hb2:=fun c=>z21z (P:=P) (k:=kh) (i:=h) (y:=s.size) (c:=c) hH h2 w
   rcases hlo with ⟨rfl,rfl⟩ | ⟨kl,rfl⟩
   ·simp [hb2]
   ·simp [hb2,z21z (P:=P) (k:=kl) (i:=l) (y:=h.toNat) h0 (by omega)]
 simp only [hb,Sem.run_pure,Result.andThen_ok]
theorem z29z {v:Option Value} {d:Int} {K:Int→Prop} (h:optInt v d K):∃ i,K i∧((v=none∧i=d)∨∃ k,v=some (.int k i)):=by
 rcases optInt_ok h with ⟨a,b⟩ | ⟨k,i,a,b⟩
 ·exact ⟨d,b,.inl ⟨a,rfl⟩⟩
 ·exact ⟨i,b,.inr ⟨k,a⟩⟩
theorem sliceAt_slice {t:TypeId} {d:TypeDesc} (hu:P.underlying t=some d) (hd:∀ n e,d≠.array n e) {x:Value} {lo hi mx:Option Value} (w:World) :
  (Instr.sliceAt t x lo hi mx).run P w=(Instr.slice t x lo hi mx).run P w:=by
 unfold Instr.sliceAt
 simp only [Sem.run_bind,under hu,Result.andThen_ok]
theorem slice_ok {o:Oper} {e:Env} {t:TypeId} {x:Operand} {lo hi mx:Option Operand} {w:World} {K:Value→World→Prop} (ho:o.op=.slice t x lo hi mx) (h:vcOp P o e w K):YieldsP P (execOp e.eval o) w K:=by
 unfold vcOp at h
 simp only [ho] at h
 simp only [execOp,ho]
 split at h
 case h_1 hu=>
  split at h
  case h_1 s ex=>
   obtain ⟨l,h,hl⟩:=z29z h
   obtain ⟨r,h,hr⟩:=z29z h
   obtain ⟨h0,h1,h2,hK⟩:=h.out
   refine yvP (fun w=>?_) hK
   rw [sliceAt_slice hu (by simp),ex]
   exact sub_string hu hl hr h0 h1 h2 w
  case h_2=>cases h
 case h_2 el hu=>
  split at h
  case h_1 a len cap inf ex hi'=>
   split at h
   case h_1=>cases h
   case h_2 hnn=>
    obtain ⟨l,h,hl⟩:=z29z h
    obtain ⟨r,h,hr⟩:=z29z h
    obtain ⟨m,h,hm⟩:=z29z h
    obtain ⟨h0,h1,h2,h3,hK⟩:=h.out
    refine yvP (fun w=>?_) hK
    rw [sliceAt_slice hu (by simp),ex]
    refine sub_slice hu hi' hl ?_ hm h0 h1 h2 h3 w
    rcases hr with ⟨hr,hr2⟩ | hr
    ·refine .inl ⟨hr,?_,hr2⟩
     cases hi with
     | some y=>simp at hr
     | none=>
      cases mx with
      | none=>rfl
      | some y=>exact (hnn _ rfl rfl).elim
    ·exact .inr hr
  case h_2=>cases h
 case h_3 n el hu=>
  split at h
  case h_1 q inf ex hi'=>
   split at h
   case h_1=>cases h
   case h_2 hnn=>
    obtain ⟨a,rfl,hk⟩:=optA_ok h
    obtain ⟨l,hk,hl⟩:=z29z hk
    obtain ⟨r,hk,hr⟩:=z29z hk
    obtain ⟨m,hk,hm⟩:=z29z hk
    obtain ⟨h0,h1,h2,h3,hK⟩:=hk.out
    refine yvP (fun w=>?_) hK
    rw [ex]
    refine sub_array hu hi' hl ?_ hm h0 h1 h2 h3 w
    rcases hr with ⟨hr,hr2⟩ | hr
    ·refine .inl ⟨hr,?_,hr2⟩
     cases hi with
     | some y=>simp at hr
     | none=>
      cases mx with
      | none=>rfl
      | some y=>exact (hnn _ rfl rfl).elim
    ·exact .inr hr
  case h_2=>cases h
 case h_4=>cases h
theorem vcOp_pure {o:Oper} {e:Env} {w:World} {K:Value→World→Prop} (hs:pureOp P o.op=true) (h:vcOp P o e w K):YieldsP P (execOp e.eval o) w K:=by
 have hh:=h
 unfold vcOp at h
 cases ho:o.op<;>simp only [ho,pureOp,Bool.false_eq_true] at h hs
 case move x=>simp only [execOp,ho];exact ⟨_,fun _=>rfl,h⟩
 case assign x=>simp only [execOp,ho];exact ⟨_,fun _=>rfl,h⟩
 case pick c a b=>
  simp only [execOp,ho]
  split at h
  case h_1 t ec=>
   rw [ec]
   obtain ⟨h1,h2⟩:=ifB_ok h
   cases t
   ·exact ⟨_,fun _=>rfl,h2 rfl⟩
   ·exact ⟨_,fun _=>rfl,h1 rfl⟩
  case h_2=>cases h
 case nilCheck x=>exact nilCheck_ok ho hh
 case build t parts=>
  simp only [execOp,ho]
  obtain ⟨cells,hb,h⟩:=vcParts_ok h
  refine yvP (fun w'=>run_build w' t _ cells ?_) h
  simpa using hb
 case binOp op t x y yt=>
  simp only [execOp,ho]
  obtain ⟨v,w',hr,hK,hw⟩:=vcBin_ok h
  obtain ⟨hw1,hw2⟩:=hw (by simpa using hs)
  subst hw1
  exact yvP hw2 hK
 case convert src dst x=>
  simp only [execOp,ho]
  simp only [Bool.and_eq_true] at hs
  split at h
  ·rename_i h1 h2;have:=hs.1;simp [isInt,h1] at this
  ·rename_i h1 h2;have:=hs.1;simp [isInt,h1] at this
  ·rename_i h1 h2;have:=hs.1;simp [isInt,h1] at this
  ·obtain ⟨v,hr,hK⟩:=z18z h;exact yvP hr hK
 case unOp op t x=>simp only [execOp,ho];obtain ⟨v,hr,hK⟩:=z18z h;exact yvP hr hK
 case fieldAddr s x f=>
  simp only [execOp,ho]
  split at h
  case h_1 q ex=>obtain ⟨a,hq,h⟩:=optA_ok h;obtain ⟨v,hr,hK⟩:=z18z h;rw [ex,hq];exact yvP hr hK
  case h_2=>cases h
 case field t x f=>simp only [execOp,ho];obtain ⟨v,hr,hK⟩:=z18z h;exact yvP hr hK
 case extract t i=>simp only [execOp,ho];obtain ⟨v,hr,hK⟩:=z18z h;obtain ⟨x,rfl,hK2⟩:=Kd.ex_spec hK;exact yvP hr hK2
 case makeInterface t x=>simp only [execOp,ho];obtain ⟨v,hr,hK⟩:=z18z h;exact yvP hr hK
 case makeFunc fn fi ca=>simp only [execOp,ho];exact ⟨_,fun _=>by simp [Instr.makeFunc,evs_eq],h⟩
 case indexAddr t x i=>exact indexAddr_ok ho hh
 case index t x i=>exact index_ok ho hh
 case slice t x lo hi mx=>exact slice_ok ho hh
 case typeAssert x xt t ok=>
  simp only [execOp,ho]
  split at h
  case h_1=>cases h
  case h_2 d hi hu=>
   have hi':∀ m,d≠.interface m:=fun m hm=>hi m (by rw [hm])
   split at h
   case h_1=>
    split at h
    case h_1 i hinf=>
     split at h
     case h_1 z hz=>
      rcases h.out with ⟨r,hx,hK⟩ | ⟨hx,hK⟩
      ·exact yvP (fun w=>(z35z hu hi' w).1 _ true hx) hK
      ·exact yvP (fun w=>(z35z hu hi' w).2 i z hinf hz hx) hK
     case h_2=>cases h
    case h_2=>cases h
   case h_2=>
    rcases h.out with ⟨r,hx,hK⟩ | ⟨hx,hK⟩
    ·exact yvP (fun w=>(z35z hu hi' w).1 _ false hx) hK
    ·cases hK
  case h_3=>cases h
 case call c=>
  simp only [execOp,ho]
  have red:∀ (b:Builtin),c.callee=.builtin b→∀ (s:Sem Value) v,(∀ cs,builtin b c.argTypes o.type cs (c.args.map e.eval)=(do pure (.value (← s))))→(∀ w',s.run P w'=.ok v w')→K v w →
    YieldsP P (do let d ← resolve e.eval c o.type;invoke d.target d.args) w K:=fun b hc s v hb hr hK=>by
   refine ⟨v,fun w'=>?_,hK⟩
   simp only [resolve,hc,Sem.run_bind,Sem.run_pure,Result.andThen_ok,invoke]
   rw [hb]
   simp [hr w']
  split at hs
  case h_1 hc=>
   simp only [hc] at h
   obtain ⟨v,hr,hK⟩:=z18z h
   refine red .cap hc _ v ?_ hr hK
   intro _;rw [evs_eq];rfl
  case h_2 hc=>
   simp only [hc] at h
   obtain ⟨v,hr,hK⟩:=z18z h
   refine red .min hc _ v ?_ hr hK
   intro _;rw [evs_eq];rfl
  case h_3 hc=>
   simp only [hc] at h
   obtain ⟨v,hr,hK⟩:=z18z h
   refine red .max hc _ v ?_ hr hK
   intro _;rw [evs_eq];rfl
  case h_4 hc=>
   simp only [hc] at h
   split at h
   case h_1 m hl=>
    exfalso
    split at hs
    case h_1 t ht=>
     have h0:c.argTypes[0]? = some t:=by rw [← Array.getElem?_toList,ht];rfl
     rw [h0] at h
     simp only [Option.bind_some] at h
     split at h
     ·rename_i hu;simp [hu] at hs
     ·exact h
    case h_2=>cases hs
   case h_2 l hl=>
    obtain ⟨v,hr,hK⟩:=z18z h
    refine red .len hc _ v ?_ hr hK
    intro _;rw [evs_eq];rfl
  case h_5=>cases hs
theorem vcOp_still {o:Oper} {e:Env} {w:World} {K:Value→World→Prop} (hs:stillOp P o.op=true) (h:vcOp P o e w K):YieldsS P (execOp e.eval o) w K:=by
 have hh:=h
 unfold vcOp at h
 cases ho:o.op<;>simp only [ho,stillOp,Bool.false_eq_true] at h hs
 case move x=>simp only [execOp,ho];exact .inl ⟨_,rfl,h⟩
 case assign x=>simp only [execOp,ho];exact .inl ⟨_,rfl,h⟩
 case pick c a b=>
  simp only [execOp,ho]
  split at h
  case h_1 t ec=>
   rw [ec]
   obtain ⟨h1,h2⟩:=ifB_ok h
   cases t
   ·exact .inl ⟨_,rfl,h2 rfl⟩
   ·exact .inl ⟨_,rfl,h1 rfl⟩
  case h_2=>cases h
 case load t a=>
  simp only [execOp,ho]
  split at h
  case h_1 q ea=>
   obtain ⟨p,rfl,h⟩:=optA_ok h
   obtain ⟨v,hv,hK⟩:=loadVar_ok h
   refine yvS ?_ hK
   rw [ea]
   simp only [Instr.loadAt,Instr.sureAddr,Sem.run_bind,Sem.run_pure,Result.andThen_ok,hv]
  case h_2=>cases h
 case nilCheck x=>exact (nilCheck_ok ho hh).still
 case build t parts=>
  simp only [execOp,ho]
  obtain ⟨cells,hb,h⟩:=vcParts_ok h
  refine yvS (run_build w t _ cells ?_) h
  simpa using hb
 case binOp op t x y yt=>
  simp only [execOp,ho]
  obtain ⟨v,w',hr,hK,hw⟩:=vcBin_ok h
  have:=(hw (by simpa using hs)).1
  subst this
  exact yvS hr hK
 case unOp op t x=>simp only [execOp,ho];obtain ⟨v,hr,hK⟩:=z36z h;exact yvS hr hK
 case fieldAddr s x f=>
  simp only [execOp,ho]
  split at h
  case h_1 q ex=>obtain ⟨a,hq,h⟩:=optA_ok h;obtain ⟨v,hr,hK⟩:=z36z h;rw [ex,hq];exact yvS hr hK
  case h_2=>cases h
 case field t x f=>simp only [execOp,ho];obtain ⟨v,hr,hK⟩:=z36z h;exact yvS hr hK
 case extract t i=>simp only [execOp,ho];obtain ⟨v,hr,hK⟩:=z36z h;obtain ⟨x,rfl,hK2⟩:=Kd.ex_spec hK;exact yvS hr hK2
 case makeInterface t x=>simp only [execOp,ho];obtain ⟨v,hr,hK⟩:=z36z h;exact yvS hr hK
 case makeFunc fn fi ca=>simp only [execOp,ho];exact .inl ⟨_,by simp [Instr.makeFunc,evs_eq],h⟩
 case indexAddr t x i=>exact (indexAddr_ok ho hh).still
 case index t x i=>exact (index_ok ho hh).still
 case slice t x lo hi mx=>exact (slice_ok ho hh).still
 case typeAssert x xt t ok=>
  simp only [execOp,ho]
  split at h
  case h_1=>cases h
  case h_2 d hi hu=>
   have hi':∀ m,d≠.interface m:=fun m hm=>hi m (by rw [hm])
   split at h
   case h_1=>
    split at h
    case h_1 i hinf=>
     split at h
     case h_1 z hz=>
      rcases h.out with ⟨r,hx,hK⟩ | ⟨hx,hK⟩
      ·exact yvS ((z35z hu hi' w).1 _ true hx) hK
      ·exact yvS ((z35z hu hi' w).2 i z hinf hz hx) hK
     case h_2=>cases h
    case h_2=>cases h
   case h_2=>
    rcases h.out with ⟨r,hx,hK⟩ | ⟨hx,hK⟩
    ·exact yvS ((z35z hu hi' w).1 _ false hx) hK
    ·cases hK
  case h_3=>cases h
 case call c=>
  simp only [execOp,ho]
  have red:∀ (b:Builtin),c.callee=.builtin b→∀ (s:Sem Value) v,(∀ cs,builtin b c.argTypes o.type cs (c.args.map e.eval)=(do pure (.value (← s))))→s.run P w=.ok v w→K v w →
    YieldsS P (do let d ← resolve e.eval c o.type;invoke d.target d.args) w K:=fun b hc s v hb hr hK=>by
   refine .inl ⟨v,?_,hK⟩
   simp only [resolve,hc,Sem.run_bind,Sem.run_pure,Result.andThen_ok,invoke]
   rw [hb]
   simp [hr]
  split at hs
  case h_1 hc=>
   simp only [hc] at h
   split at h
   case h_1 m hl=>
    have hm:c.args.map e.eval=#[.map m]:=by rw [← evs_eq,hl]
    split at h
    case h_1 k el hu=>
     have hu2:∃ t,c.argTypes[0]? = some t∧P.underlying t=some (.map k el):=by
      cases ht:c.argTypes[0]? with
      | none=>simp [ht] at hu
      | some t=>exact ⟨t,rfl,by simpa [ht] using hu⟩
     obtain ⟨t,ht,hu3⟩:=hu2
     rcases h.out with ⟨rfl,hK⟩ | ⟨r,es,cl,rfl,hh,hK⟩
     ·refine red .len hc (Builtin.len_ c.argTypes o.type #[.map none]) _ (fun _=>by rw [hm];rfl) ?_ hK
      unfold Builtin.len_
      simp [ht,under hu3,goInt]
     ·refine red .len hc (Builtin.len_ c.argTypes o.type #[.map (some r)]) _ (fun _=>by rw [hm];rfl) ?_ hK
      unfold Builtin.len_
      simp [ht,under hu3,goInt,getObj,Sem.run,hh]
    case h_2=>cases h
   case h_2 l hl=>
    obtain ⟨v,hr,hK⟩:=z36z h
    refine red .len hc _ v ?_ hr hK
    intro _;rw [evs_eq];rfl
  case h_2 hc=>
   simp only [hc] at h
   obtain ⟨v,hr,hK⟩:=z36z h
   refine red .cap hc _ v ?_ hr hK
   intro _;rw [evs_eq];rfl
  case h_3 hc=>
   simp only [hc] at h
   obtain ⟨v,hr,hK⟩:=z36z h
   refine red .min hc _ v ?_ hr hK
   intro _;rw [evs_eq];rfl
  case h_4 hc=>
   simp only [hc] at h
   obtain ⟨v,hr,hK⟩:=z36z h
   refine red .max hc _ v ?_ hr hK
   intro _;rw [evs_eq];rfl
  case h_5=>cases hs
theorem vcOp_run {o:Oper} {e:Env} {w:World} {K:Value→World→Prop} (h:vcOp P o e w K):Yields P (execOp e.eval o) w K:=by
  by_cases hs:stillOp P o.op=true
  · exact (vcOp_still hs h).weak
  have hh:=h
  unfold vcOp at h
  cases ho:o.op<;>simp only [ho,stillOp,not_true,Bool.not_eq_true] at h hs
  case store t a x=>
    simp only [execOp,ho]
    split at h
    case h_1 q ea=>
      obtain ⟨p,rfl,h⟩:=optA_ok h
      split at h
      case h_1 i hinf=>
       split at h
       case h_1=>
        split at h
        case h_1 hb=>
          have hsz:1=i.size:=Nat.eq_of_beq_eq_true hb
          obtain ⟨h1,h⟩:=h.out
          obtain ⟨hw,hK⟩:=h.out
          refine yu ?_ hK
          rw [ea]
          have hr:(storeCells p (e.eval x).cells.toList 0).run P w=.ok () (setCells w p 0 [e.eval x]):=by rw [h1];exact z22z _ 0 w hw
          have hz:(e.eval x).cells.size=i.size:=by rw [h1,← hsz];rfl
          simp only [Instr.storeAt,Instr.sureAddr,storeVar,Sem.run_bind,Sem.run_pure,Result.andThen_ok,sizeof hinf,hz,ne_eq,not_true,if_false,hr]
        case h_2=>cases h
       case h_2=>
        split at h
        case h_1 n el hu=>
          split at h
          case h_1 cs ex=>
            obtain ⟨hsz,h⟩:=h.out
            obtain ⟨hw,hK⟩:=h.out
            refine yu ?_ hK
            rw [ea,ex]
            have hsz':(Value.agg cs).cells.size=i.size:=by rw [← hsz];exact Array.length_toList.symm
            have hr:(storeCells p (Value.agg cs).cells.toList 0).run P w=.ok () (setCells w p 0 cs.toList):=z22z _ 0 w hw
            simp only [Instr.storeAt,Instr.sureAddr,storeVar,Sem.run_bind,Sem.run_pure,Result.andThen_ok,sizeof hinf,hsz',ne_eq,not_true,if_false,hr]
          case h_2=>cases h
        case h_2 hu=>
          split at h
          case h_1 hb=>
            have hsz:(e.eval x).cells.size=i.size:=Nat.eq_of_beq_eq_true hb
            have sv:∀ w',(storeCells p (e.eval x).cells.toList 0).run P w=.ok () w'→K undef w'→Yields P (do Instr.storeAt t (e.eval a) (e.eval x);pure .skip) w K:=fun w' hr hK=>by
              refine yu ?_ hK
              rw [ea]
              simp only [Instr.storeAt,Instr.sureAddr,storeVar,Sem.run_bind,Sem.run_pure,Result.andThen_ok,sizeof hinf,hsz,ne_eq,not_true,if_false,hr]
            split at h
            case h_1 cs ex=>
              obtain ⟨hw,hK⟩:=h.out
              exact sv _ (by rw [ex];exact z22z _ 0 w hw) hK
            case h_2=>cases h
            case h_3 hna hnt=>
              obtain ⟨h1,h2,h3,hK⟩:=h.out
              refine sv _ ?_ hK
              have hc:(e.eval x).cells.toList=[e.eval x]:=by
                cases hx:e.eval x<;>first | rfl | exact (hna _ hx).elim
              rw [hc]
              simp only [storeCells,Sem.run_bind]
              have ha:p.add 0=p:=by simp [Addr.add]
              rw [ha,store_ok h1 h2 h3]
              rfl
          case h_2=>cases h
      case h_2=>cases h
    case h_2=>cases h
  case alloc t=>
    simp only [execOp,ho]
    split at h
    case h_1 i hi=>
      split at h
      case h_1 z hz=>
        refine yv ?_ h.out
        simp [Instr.alloc,zeroof hi hz,newVar,newRow,newObj,Sem.run]
      case h_2=>cases h
    case h_2=>cases h
  case box t x=>
    simp only [execOp,ho]
    split at h
    · obtain ⟨h1,h⟩:=h.out
      exact yv (by simp [Instr.box,newVar,newRow,newObj,Sem.run,h1]) h.out
    · exact yv (by simp [Instr.box,newVar,newRow,newObj,Sem.run]) h.out
  case binOp op t x y yt=>
    simp only [execOp,ho]
    obtain ⟨v,w',hr,hK,_⟩:=vcBin_ok h
    exact yv hr hK
  case makeMap t r=>
    cases r with
    | none=>
      simp only [execOp,ho]
      exact yv (by simp [Instr.makeMap,newObj,Sem.run]) h.out
    | some r=>exact h.elim
  case convert src dst x=>
    simp only [execOp,ho]
    split at h
    · obtain ⟨v,w',hr,hK⟩:=h.out;exact yv hr hK
    · obtain ⟨v,w',hr,hK⟩:=h.out;exact yv hr hK
    · obtain ⟨v,w',hr,hK⟩:=h.out;exact yv hr hK
    · obtain ⟨v,hr,hK⟩:=z36z h;exact yv hr hK
  case makeSlice t l c=>simp only [execOp,ho];obtain ⟨v,w',hr,hK⟩:=h.out;exact yv hr hK
  case buildSlice t n parts=>
    simp only [execOp,ho]
    obtain ⟨v,w',hr,hK⟩:=h.out
    refine yv ?_ hK
    have:(parts.toList.map fun (i,x)=>(i,e.eval x)).toArray=parts.map fun (i,x)=>(i,e.eval x):=by
      apply Array.ext';simp
    rw [this] at hr
    exact hr
  case lookup t x i ok=>simp only [execOp,ho];obtain ⟨v,w',hr,hK⟩:=h.out;exact yv hr hK
  case mapEntry t m k=>simp only [execOp,ho];obtain ⟨v,w',hr,hK⟩:=h.out;exact yv hr hK
  case entryStore t m k x=>simp only [execOp,ho];obtain ⟨w',hr,hK⟩:=h.out;exact yu hr hK
  case mapUpdate t m k x=>simp only [execOp,ho];obtain ⟨w',hr,hK⟩:=h.out;exact yu hr hK
  case insert t m k x=>simp only [execOp,ho];obtain ⟨w',hr,hK⟩:=h.out;exact yu hr hK
  case range t x=>simp only [execOp,ho];obtain ⟨v,w',hr,hK⟩:=h.out;exact yv hr hK
  case next it s=>
    simp only [execOp,ho]
    split at h
    case h_1=>
      split at h
      case h_1 q eit=>
        obtain ⟨r,s,pos,rfl,hr,hK⟩:=h.out
        rw [eit]
        by_cases hp:pos<s.size
        · rw [if_pos hp] at hK
          refine yv ?_ hK
          simp only [Instr.next,Sem.run_bind,getObj,Sem.run,hr,Result.andThen_ok,if_pos hp,setObj,Sem.run_pure]
          rfl
        · rw [if_neg hp] at hK
          refine yv (v:=.tuple #[.bool false]) (w':=w) ?_ hK
          simp only [Instr.next,Sem.run_bind,getObj,Sem.run,hr,Result.andThen_ok,if_neg hp,Sem.run_pure]
      case h_2=>cases h
    case h_2=>
      rcases h.out with ⟨k,v,w',hr,hK⟩ | ⟨w',hr,hK⟩
      · exact yv hr hK
      · exact yv hr hK
  case entry it=>simp only [execOp,ho];obtain ⟨v,w',hr,hK⟩:=h.out;exact yv hr hK
  case call c=>
    simp only [execOp,ho]
    have red:∀ (b:Builtin),c.callee=.builtin b→∀ (s:Sem Value) v w',(∀ cs,builtin b c.argTypes o.type cs (c.args.map e.eval)=(do pure (.value (← s))))→s.run P w=.ok v w'→K v w' →
        Yields P (do let d ← resolve e.eval c o.type;invoke d.target d.args) w K:=fun b hc s v w' hb hr hK=>by
      refine .inl ⟨v,w',?_,hK⟩
      simp only [resolve,hc,Sem.run_bind,Sem.run_pure,Result.andThen_ok,invoke]
      rw [hb]
      simp [hr]
    split at h
    case h_1 hc=>
      obtain ⟨v,w',hr,hK⟩:=h.out
      exact red .append hc _ _ w' (fun _=>by rw [evs_eq];rfl) hr hK
    case h_2 hc=>
      obtain ⟨v,w',hr,hK⟩:=h.out
      exact red .copy hc _ _ w' (fun _=>by rw [evs_eq];rfl) hr hK
    case h_3 hc=>
      obtain ⟨v,w',hr,hK⟩:=h.out
      exact red .delete hc _ _ w' (fun _=>by rw [evs_eq];rfl) hr hK
    case h_4 hc=>simp [hc] at hs
    case h_5 hc=>simp [hc] at hs
    case h_6 hc=>simp [hc] at hs
    case h_7 hc=>simp [hc] at hs
    case h_8 x hc=>
      have go:∀ {f fi ca},e.eval x=.func (.func f) fi ca→vcCall P f (fi.toList++evs e c.args++ca.toList) w K→Yields P (do let d ← resolve e.eval c o.type;invoke d.target d.args) w K:=fun {f fi ca} ex h=>by
        obtain ⟨xs,hr,hK⟩:=callFunc_ok h
        refine .inr (.inr ⟨f,xs,?_,hK⟩)
        have hargs:(fi.toList++evs e c.args++ca.toList).toArray=fi++c.args.map e.eval++ca:=by
          rw [← evs_eq];apply Array.ext';simp
        rw [hargs] at hr
        simp only [resolve,hc,ex,Deferred.ofValue,Sem.run_bind,Sem.run_pure,Result.andThen_ok,invoke,hr]
      split at h
      case h_1 u=>
        unfold callV at h
        split at h
        case h_1 f fi ca ex=>exact go ex (vcCall_mono (fun v w' hv=>by obtain ⟨y,rfl,hy⟩:=Rk.ex_spec hv;exact hy) h)
        case h_2=>cases h
      case h_2=>
        split at h
        case h_1 f fi ca ex=>exact go ex h
        case h_2=>cases h
    case h_9=>cases h
  all_goals first | (exact absurd hs (by simp)) | (exact h.elim)
theorem op_wp {n:Nat} {o:Oper} {e:Env} {a:Act} {w:World} {K:Value→World→Prop} {next:Act→World→Prop} {Q:Exit→Act→World→Prop} (hr:Rep n e a) (h:vcOp P o e w K)
  (hK:∀ v w',K v w'→next (a.put o.dst v) w'):o.wp P a w next Q:=by
 unfold Oper.wp
 rw [hr.eval]
 rcases vcOp_run h with ⟨v,w',hrun,hk⟩ | ⟨w',hrun,hk⟩ | ⟨f,args,hrun,hk⟩
 ·rw [hrun];exact hK _ _ hk
 ·rw [hrun];exact hK _ _ hk
 ·rw [hrun]
  exact Calls.mono hk fun e w' ⟨v,he,hv⟩=>by subst he;exact hK _ _ hv
theorem op_still {n:Nat} {o:Oper} {e:Env} {a:Act} {w:World} {K:Value→World→Prop} {next:Act→Prop} (hr:Rep n e a) (hs:stillOp P o.op=true) (h:vcOp P o e w K)
  (hK:∀ v,K v w→next (a.put o.dst v)):o.still P a w next:=by
 unfold Oper.still
 rw [hr.eval]
 rcases vcOp_still hs h with ⟨v,hrun,hk⟩ | ⟨hrun,hk⟩
 ·rw [hrun];exact ⟨rfl,hK _ hk⟩
 ·rw [hrun];exact ⟨rfl,hK _ hk⟩
theorem Rep.yielded {n:Nat} {e:Env} {a:Act} (h:Rep n e a) (ops:Array Oper) (j:Nat) :
  Go.yielded ops a.tmps j=match (ops[j]?).bind (·.dst) with
   | none=>none
   | some d=>match e.get d with | .bool b=>some b | _=>none:=by
 unfold Go.yielded
 cases hd:(ops[j]?).bind (·.dst) with
 | none=>simp
 | some d=>
  simp only [Option.bind_some]
  rw [← h.get d,Array.getD_eq_getD_getElem?]
  cases ht:a.tmps[d]? with
  | none=>simp [undef]
  | some v=>simp only [Option.getD_some];cases v<;>rfl
theorem Rep.lit {n:Nat} {e:Env} {a:Act} (h:Rep n e a) {d:Nat} {v:Value} (hv:e.get d=v):Rep n (e.put (some d) v) a:=
 ⟨h.size,h.defers,fun t=>by rw [Env.get_put,h.get];by_cases ht:t=d<;>simp [ht,hv]⟩
theorem get_put_dst (e:Env) (dst:Option Nat) (v:Value) {t:Nat} (h:t ∉ dst.toList):(e.put dst v).get t=e.get t:=by
 cases dst with
 | none=>rfl
 | some d=>rw [Env.get_put,if_neg (by simpa using h)]
theorem get_lit {e:Env} {d:Nat} {v:Value} (hv:e.get d=v) (t:Nat):(e.put (some d) v).get t=e.get t:=by
 rw [Env.get_put];by_cases ht:t=d<;>simp [ht,hv]
def dstsL (l:List Oper):List Nat:=l.filterMap (·.dst)
theorem not_dst {o:Oper} {l:List Oper} {t:Nat} (h:t ∉ dstsL (o::l)):t ∉ o.dst.toList∧t ∉ dstsL l:=by
 unfold dstsL at *
 cases hd:o.dst with
 | none=>simp [hd] at h;exact ⟨by simp,by simpa using h⟩
 | some d=>
  simp [hd] at h
  exact ⟨by simpa using fun x=>h.1 x,by simpa using h.2⟩
theorem step_cases {n:Nat} {ops:Array Oper} {o:Oper} {rest:List Oper} {e:Env} {a:Act} {w:World} {K:Env→World→Prop} (hr:Rep n e a) (h:vcOps P n ops (o::rest) e w K) :
  (Region.wanted o (Go.yielded ops a.tmps)=true∧∃ e1,Rep n e1 a∧(∀ t,e1.get t=e.get t)∧okDst n o.dst=true∧vcOp P o e1 w fun v w'=>vcOps P n ops rest (e1.put o.dst v) w' K) ∨
  (Region.wanted o (Go.yielded ops a.tmps)=false∧∃ e1,Rep n e1 a∧(∀ t,e1.get t=e.get t)∧okDst n o.dst=true∧vcOps P n ops rest (e1.put o.dst undef) w K):=by
 unfold vcOps at h
 split at h
 case h_1=>cases h
 case h_2 hd=>
  split at h
  case h_1 hg=>exact .inl ⟨by simp [Region.wanted,hg],e,hr,fun _=>rfl,hd,h⟩
  case h_2 j want hg=>
   have hy:=hr.yielded ops j
   split at h
   case h_1=>cases h
   case h_2 d hdst=>
    simp only [hdst] at hy
    split at h
    case h_1 b hb=>
     simp only [hb] at hy
     split at h
     all_goals
      obtain ⟨h1,h2⟩:=ifB_ok h
      cases b
      ·first
        | exact .inr ⟨by simp [Region.wanted,hg,hy],_,hr.lit hb,get_lit hb,hd,h2 rfl⟩
        | exact .inl ⟨by simp [Region.wanted,hg,hy],_,hr.lit hb,get_lit hb,hd,h2 rfl⟩
      ·first
        | exact .inr ⟨by simp [Region.wanted,hg,hy],_,hr.lit hb,get_lit hb,hd,h1 rfl⟩
        | exact .inl ⟨by simp [Region.wanted,hg,hy],_,hr.lit hb,get_lit hb,hd,h1 rfl⟩
    case h_2 hb=>
     simp only [hb] at hy
     exact .inr ⟨by simp [Region.wanted,hg,hy],e,hr,fun _=>rfl,hd,h⟩
    case h_3=>cases h
theorem vcOps_sound {n:Nat} {ops:Array Oper} {Q:Exit→Act→World→Prop}:∀ (l:List Oper) (e:Env) (a:Act) (w:World) (K:Env→World→Prop),Rep n e a→vcOps P n ops l e w K →
  (∀ e' a' w',Rep n e' a'→(∀ t,t ∉ dstsL l→e'.get t=e.get t)→K e' w'→Q .normal a' w')→wpList P ops Q l a w
 | [],e,a,w,K,hr,h,hK=>hK e a w hr (fun _ _=>rfl) h
 | o::rest,e,a,w,K,hr,h,hK=>by
  unfold wpList
  have go:∀ e1 v w',Rep n e1 a→(∀ t,e1.get t=e.get t)→okDst n o.dst=true→vcOps P n ops rest (e1.put o.dst v) w' K→wpList P ops Q rest (a.put o.dst v) w':=fun e1 v w' hr1 he hd h=>
   vcOps_sound rest _ _ _ K (hr1.put o.dst hd v) h fun e' a' w' h1 h2 h3=>hK e' a' w' h1 (fun t ht=>by
    obtain ⟨ht1,ht2⟩:=not_dst ht
    rw [h2 t ht2,get_put_dst _ _ _ ht1,he t]) h3
  rcases step_cases hr h with ⟨hw,e1,hr1,he,hd,h⟩ | ⟨hw,e1,hr1,he,hd,h⟩
  ·rw [if_pos hw]
   exact .inl (op_wp hr1 h fun v w' h=>go e1 v w' hr1 he hd h)
  ·rw [if_neg (by rw [hw];simp)]
   exact go e1 undef w hr1 he hd h
theorem vcOps_still {n:Nat} {ops:Array Oper} {Q:Act→Prop} (tl:List Oper):∀ (l:List Oper) (e:Env) (a:Act) (w:World) (K:Env→World→Prop),l.all (fun o=>stillOp P o.op)=true→Rep n e a →
  vcOps P n ops (l++tl) e w K →
  (∀ e' a',Rep n e' a'→(∀ t,t ∉ dstsL l→e'.get t=e.get t)→vcOps P n ops tl e' w K→Q a')→wpStill P ops w Q l a
 | [],e,a,w,K,_,hr,h,hK=>hK e a hr (fun _ _=>rfl) h
 | o::rest,e,a,w,K,hs,hr,h,hK=>by
  simp only [List.all_cons,Bool.and_eq_true] at hs
  unfold wpStill
  have go:∀ e1 v,Rep n e1 a→(∀ t,e1.get t=e.get t)→okDst n o.dst=true→vcOps P n ops (rest++tl) (e1.put o.dst v) w K→wpStill P ops w Q rest (a.put o.dst v):=fun e1 v hr1 he hd h=>
   vcOps_still tl rest _ _ _ K hs.2 (hr1.put o.dst hd v) h fun e' a' h1 h2 h3=>hK e' a' h1 (fun t ht=>by
    obtain ⟨ht1,ht2⟩:=not_dst ht
    rw [h2 t ht2,get_put_dst _ _ _ ht1,he t]) h3
  rcases step_cases hr h with ⟨hw,e1,hr1,he,hd,h⟩ | ⟨hw,e1,hr1,he,hd,h⟩
  ·rw [if_pos hw]
   exact op_still hr1 hs.1 h fun v h=>go e1 v hr1 he hd h
  ·rw [if_neg (by rw [hw];simp)]
   exact go e1 undef hr1 he hd h
theorem mem_iff (l:List Nat) (t:Nat):mem l t=true↔t∈l:=by
 induction l with
 | nil=>simp [mem]
 | cons u l ih=>
  unfold mem
  cases hb:Nat.beq u t with
  | true=>simp [Nat.eq_of_beq_eq_true hb]
  | false=>
   have hne:t≠u:=fun h=>by rw [h] at hb;simp at hb
   simp [ih,hne]
section anyorder
variable {ops:Array Oper} {CL:Array Bool→World→Prop}
def Closed (ops:Array Oper) (listed:Array Bool):Prop:=
 listed.size=ops.size∧∀ j oj,ops[j]? = some oj→listed.getD j false=true→∀ e∈oj.after,Region.binds .any e=true→listed.getD e.on false=true
theorem Closed.set {listed:Array Bool} (h:Closed ops listed) {i:Nat} (hi:i∈Region.ready .any ops listed):Closed ops (listed.setIfInBounds i true):=by
 obtain ⟨_,oi,hoi,hall⟩:=mem_ready.1 hi
 refine ⟨by simp [h.1],fun j oj hj hl e he hb=>?_⟩
 by_cases hij:i=j
 ·subst hij
  have:oj=oi:=Option.some.inj (hj.symm.trans hoi)
  subst this
  exact getD_set_true (hall e he hb)
 ·rw [getD_set_ne false hij] at hl
  exact getD_set_true (h.2 j oj hj hl e he hb)
def Sure (P:Program) (ops:Array Oper) (CL:Array Bool→World→Prop) (o:Oper) (i:Nat) (v:Value) (a:Act):Prop:=
 (Region.wanted o (Go.yielded ops a.tmps)=true∧∀ listed w,Closed ops listed→i∈Region.ready .any ops listed→CL listed w →
  Yields P (execOp a.eval o) w fun u w'=>u=v∧CL (listed.setIfInBounds i true) w') ∨
 (Region.wanted o (Go.yielded ops a.tmps)=false∧v=undef∧∀ listed w,Closed ops listed→i∈Region.ready .any ops listed→CL listed w→CL (listed.setIfInBounds i true) w)
theorem Sure.of_same {o:Oper} {i:Nat} {v:Value} {a a':Act} (h:Sure P ops CL o i v a) (he:execOp a'.eval o=execOp a.eval o) (hw:Region.wanted o (Go.yielded ops a'.tmps)=Region.wanted o (Go.yielded ops a.tmps)) :
  Sure P ops CL o i v a':=by
 unfold Sure at *
 rw [he,hw]
 exact h
def anyC (P:Program) (ops:Array Oper) (CL:Array Bool→World→Prop) (Q:Array Bool→Act→Prop):Nat→Array Bool→Act→Prop
 | 0,listed,a=>Region.ready .any ops listed=[]∧Q listed a
 | f+1,listed,a=>Region.ready .any ops listed≠[]∧∀ i∈Region.ready .any ops listed,∃ o v,ops[i]? = some o∧Sure P ops CL o i v a∧anyC P ops CL Q f (listed.setIfInBounds i true) (a.put o.dst v)
theorem anyC_sound {Q:Array Bool→Act→Prop} {Q':Exit→Act→World→Prop} (hQ:∀ listed a w,Q listed a→CL listed w→Q' .normal a w):∀ (f:Nat) (listed:Array Bool) (a:Act) (w:World),
  Closed ops listed→CL listed w→anyC P ops CL Q f listed a→wpAny P .any ops Q' f listed a w
 | 0,listed,a,w,_,hC,h=>⟨h.1,hQ _ _ _ h.2 hC⟩
 | f+1,listed,a,w,hcl,hC,h=>by
  refine ⟨fun h0=>absurd h0 h.1,fun i hi=>?_⟩
  obtain ⟨o,v,ho,hs,hn⟩:=h.2 i hi
  have rest:∀ w',CL (listed.setIfInBounds i true) w'→wpAny P .any ops Q' f (listed.setIfInBounds i true) (a.put o.dst v) w':=fun w' hC'=>anyC_sound hQ f _ _ w' (hcl.set hi) hC' hn
  unfold wpOp
  simp only [ho]
  rcases hs with ⟨hw,hy⟩ | ⟨hw,rfl,hy⟩
  ·rw [if_pos hw]
   refine .inl ?_
   unfold Oper.wp
   rcases hy listed w hcl hi hC with ⟨u,w',hrun,rfl,hC'⟩ | ⟨w',hrun,rfl,hC'⟩ | ⟨g,args,hrun,hret⟩
   ·rw [hrun];exact rest w' hC'
   ·rw [hrun];exact rest w' hC'
   ·rw [hrun]
    exact Calls.mono hret fun e w' ⟨u,he,hu,hC'⟩=>by subst he;subst hu;exact rest w' hC'
  ·rw [if_neg (by rw [hw];simp)]
   exact rest w (hy listed w hcl hi hC)
theorem anyC_mono {Q Q':Array Bool→Act→Prop} (hq:∀ l a,Q l a→Q' l a):∀ (f:Nat) (listed:Array Bool) (a:Act),anyC P ops CL Q f listed a→anyC P ops CL Q' f listed a
 | 0,_,_,h=>⟨h.1,hq _ _ h.2⟩
 | f+1,_,_,h=>⟨h.1,fun i hi=>let ⟨o,v,h1,h2,h3⟩:=h.2 i hi;⟨o,v,h1,h2,anyC_mono hq f _ _ h3⟩⟩
theorem anyC_first {Q:Array Bool→Act→Prop} {i:Nat} {oi:Oper} {v:Value} (hi:ops[i]? = some oi) (hsel:∀ (j:Nat) (o:Oper) cs b,ops[j]? = some o→o.op≠.select cs b) :
  ∀ (f:Nat) (listed:Array Bool) (a:Act),
   (∀ j oj,ops[j]? = some oj→j≠i→listed.getD j true=false→(∀ e∈oj.after,Region.binds .any e=true→e.on≠i)→oi.apart ops oj=true) →
   i∈Region.ready .any ops listed→Sure P ops CL oi i v a→anyC P ops CL Q f (listed.setIfInBounds i true) (a.put oi.dst v)→anyC P ops CL Q (f+1) listed a:=by
 intro f
 induction f with
 | zero=>
  intro listed a _ hr hy H
  refine ⟨fun h=>(by rw [h] at hr;cases hr),fun j hj=>?_⟩
  by_cases hji:j=i
  ·subst hji;exact ⟨oi,v,hi,hy,H⟩
  ·have:=ready_mono hj hji
   rw [H.1] at this
   cases this
 | succ f ih=>
  intro listed a hfree hr hy H
  refine ⟨fun h=>(by rw [h] at hr;cases hr),fun j hj=>?_⟩
  by_cases hji:j=i
  ·subst hji;exact ⟨oi,v,hi,hy,H⟩
  ·obtain ⟨oj,u,hoj,hyj,Hj⟩:=H.2 j (ready_mono hj hji)
   obtain ⟨hjun,oj',hoj',hall⟩:=mem_ready.1 hj
   have:oj'=oj:=Option.some.inj (hoj'.symm.trans hoj)
   subst this
   have hnot:∀ e∈oj'.after,Region.binds .any e=true→e.on≠i:=fun e he hb heq=>by
    have h1:=hall e he hb
    have h0:=(mem_ready.1 hr).1
    rw [heq] at h1
    rcases Nat.lt_or_ge i listed.size with h' | h'
    ·simp [h'] at h0 h1;rw [h0] at h1;cases h1
    ·simp [Array.getElem?_eq_none h'] at h1
   have hap:=hfree j oj' hoj hji hjun hnot
   obtain ⟨h1,h2,h3⟩:=Oper.apart_spec hap
   refine ⟨oj',u,hoj,hyj.of_same (execOp_put oj' (fun cs b=>hsel j oj' cs b hoj) a oi.dst v h1).symm (wanted_put oj' a oi.dst v h1).symm,?_⟩
   refine ih (listed.setIfInBounds j true) (a.put oj'.dst u) (fun k ok hk hki hun hno=>?_) (ready_mono hr (Ne.symm hji))
    (hy.of_same (execOp_put oi (fun cs b=>hsel i oi cs b hi) a oj'.dst u h3) (wanted_put oi a oj'.dst u h3)) ?_
   ·refine hfree k ok hk hki ?_ hno
    by_cases hjk:j=k
    ·subst hjk;exact hjun
    ·rw [getD_set_ne true hjk] at hun;exact hun
   ·rw [Array.setIfInBounds_comm _ _ hji,← Act.put_comm a v u h2]
    exact Hj
theorem anc_listed {listed:Array Bool} (hcl:Closed ops listed):∀ (f i:Nat),(∀ o,ops[i]? = some o→∀ e∈o.after,Region.binds .any e=true→listed.getD e.on false=true)→∀ j∈anc ops f i,listed.getD j false=true
 | 0,_,_,j,hj=>by simp [anc] at hj
 | f+1,i,hi,j,hj=>by
  unfold anc at hj
  cases ho:ops[i]? with
  | none=>simp [ho] at hj
  | some o=>
   simp only [ho,List.mem_flatMap] at hj
   obtain ⟨e,he,hj⟩:=hj
   cases hb:Region.binds .any e with
   | false=>simp [hb] at hj
   | true=>
    have hl:=hi o ho e (Array.mem_toList_iff.1 he) hb
    simp only [hb,List.mem_cons] at hj
    rcases hj with rfl | hj
    ·exact hl
    ·exact anc_listed hcl f e.on (fun o' ho' e' he' hb'=>hcl.2 e.on o' ho' hl e' he' hb') j hj
def mask (loud:List (Nat×Rk)) (listed:Array Bool):Nat→Bool:=fun j=>mem (loud.map (·.1)) j&&listed.getD j false
theorem loudOf_mem {loud:List (Nat×Rk)} {k:Nat}:(loudOf loud k).isSome=mem (loud.map (·.1)) k:=by
 induction loud with
 | nil=>rfl
 | cons x l ih=>
  obtain ⟨j,r⟩:=x
  simp only [loudOf,List.map_cons,mem]
  cases hb:Nat.beq j k with
  | true=>rfl
  | false=>exact ih
theorem mask_loud {loud:List (Nat×Rk)} {listed:Array Bool} {i:Nat} (hm:mem (loud.map (·.1)) i=true) (hi:i<listed.size):mask loud (listed.setIfInBounds i true)=upd (mask loud listed) i:=by
 funext j
 unfold mask upd
 cases hb:Nat.beq j i with
 | true=>
  have:=Nat.eq_of_beq_eq_true hb
  subst this
  simp [hm,hi]
 | false=>
  have hne:i≠j:=fun e=>by subst e;simp at hb
  simp only [getD_set_ne false hne]
theorem mask_pure {loud:List (Nat×Rk)} {listed:Array Bool} {i:Nat} (hm:mem (loud.map (·.1)) i=false):mask loud (listed.setIfInBounds i true)=mask loud listed:=by
 funext j
 unfold mask
 by_cases hij:i=j
 ·subst hij;simp [hm]
 ·rw [getD_set_ne false hij]
theorem ready_lt {listed:Array Bool} {i:Nat} (h:i∈Region.ready .any ops listed):i<ops.size∧listed.getD i true=false:=by
 obtain ⟨h1,o,h2,_⟩:=mem_ready.1 h
 exact ⟨(Array.getElem?_eq_some_iff.1 h2).1,h1⟩
theorem getD_tf {listed:Array Bool} {i:Nat} (h:listed.getD i true=false):listed.getD i false=false:=by
 rcases Nat.lt_or_ge i listed.size with h' | h'
 ·simp [h'] at h ⊢;exact h
 ·simp [Array.getElem?_eq_none h'] at h
theorem anyOne_ok {n:Nat} {loud:List (Nat×Rk)} {C:(Nat→Bool)→World→Prop} {o:Oper} {k:Nat} {e:Env} {a:Act} {w:World} {next:Value→Prop} (hr:Rep n e a)
  (hwt:Region.wanted o (Go.yielded ops a.tmps)=true) (h:vcAnyOne P ops loud C o k e w next) :
  ∃ v,Sure P ops (fun l w=>C (mask loud l) w) o k v a∧next v:=by
 unfold vcAnyOne at h
 have hm:=loudOf_mem (loud:=loud) (k:=k)
 split at h
 case h_1 r hl=>
  rw [hl] at hm
  obtain ⟨x,hx,hn⟩:=h.out
  refine ⟨_,.inl ⟨hwt,fun listed w' hcl hi hC=>?_⟩,hn⟩
  obtain ⟨hlt,hun⟩:=ready_lt hi
  have hD:mask loud listed k=false:=by unfold mask;rw [getD_tf hun];simp
  have hpr:∀ j,j∈priors ops loud k→mask loud listed j=true:=fun j hj=>by
   unfold priors at hj
   rw [List.mem_filter] at hj
   obtain ⟨_,oi,hoi,hall⟩:=mem_ready.1 hi
   have:=anc_listed hcl ops.size k (fun o' ho' e' he' hb'=>by
    have:o'=oi:=Option.some.inj (ho'.symm.trans hoi)
    subst this
    exact hall e' he' hb') j ((mem_iff _ _).1 hj.2)
   unfold mask
   rw [this,(mem_iff _ _).2 hj.1];rfl
  have hy:=vcOp_run (hx (mask loud listed) w' hD hpr hC)
  rw [hr.eval]
  rw [← mask_loud hm.symm (by rw [hcl.1];exact hlt)] at hy
  exact hy
 case h_2 hl=>
  rw [hl] at hm
  split at h
  case h_1 hp=>
   obtain ⟨v,hv,hn⟩:=vcOp_pure hp h
   refine ⟨v,.inl ⟨hwt,fun listed w' _ _ hC=>.inl ⟨v,w',by rw [hr.eval];exact hv w',rfl,?_⟩⟩,hn⟩
   show C (mask loud (listed.setIfInBounds k true)) w'
   rw [mask_pure hm.symm];exact hC
  case h_2=>cases h
theorem anyC_lex {n:Nat} {loud:List (Nat×Rk)} {C:(Nat→Bool)→World→Prop} {w:World} {K:Env→Prop} (hsel:Region.noSelect ops=true) :
  ∀ (l:List Oper) (k:Nat) (listed:Array Bool) (e:Env) (a:Act),(∀ j,l[j]? = ops[k+j]?)→listed.size=ops.size→(∀ j,j<k→listed.getD j false=true)→Region.lexFrom .any ops l.length k listed=true→Rep n e a →
   vcAny P n ops loud C w l k e K →
   anyC P ops (fun l w=>C (mask loud l) w) (fun listed' a'=>(∀ j,j<ops.size→listed'.getD j false=true)∧∃ e',Rep n e' a'∧K e'∧∀ t,t ∉ dstsL l→e'.get t=e.get t) l.length listed a
 | [],k,listed,e,a,hl,hsz,hfull,hB,hr,h=>by
  have hk:ops.size≤k:=by
   have h0:=hl 0
   simp at h0
   exact h0
  exact ⟨by simpa [Region.lexFrom] using hB,fun j hj=>hfull j (by omega),e,hr,h,fun _ _=>rfl⟩
 | o::l,k,listed,e,a,hl,hsz,hfull,hB,hr,h=>by
  have h0:ops[k]? = some o:=by simpa using (hl 0).symm
  have hklt:k<ops.size:=(Array.getElem?_eq_some_iff.1 h0).1
  simp only [List.length_cons,Region.lexFrom,Bool.and_eq_true] at hB
  obtain ⟨⟨hrd,hf⟩,hB'⟩:=hB
  have hrd':k∈Region.ready .any ops listed:=by simpa using hrd
  have fin:∀ e1 v,Rep n e1 a→(∀ t,e1.get t=e.get t)→okDst n o.dst=true→Sure P ops (fun l w=>C (mask loud l) w) o k v a→vcAny P n ops loud C w l (k+1) (e1.put o.dst v) K →
    anyC P ops (fun l w=>C (mask loud l) w) (fun listed' a'=>(∀ j,j<ops.size→listed'.getD j false=true)∧∃ e',Rep n e' a'∧K e'∧∀ t,t ∉ dstsL (o::l)→e'.get t=e.get t) (l.length+1) listed a:=fun e1 v hr1 he hd hs h=>by
   refine anyC_first h0 (Region.noSelect_spec hsel) l.length listed a (Region.free_spec h0 hf) hrd' hs ?_
   have:=anyC_lex hsel l (k+1) (listed.setIfInBounds k true) (e1.put o.dst v) (a.put o.dst v) (fun j=>by have:=hl (j+1);simpa [Nat.add_assoc,Nat.add_comm 1 j] using this) (by simp [hsz])
    (fun j hj=>by
     by_cases hjk:k=j
     ·subst hjk;simp [hsz,hklt]
     ·rw [getD_set_ne false hjk];exact hfull j (by omega)) hB' (hr1.put o.dst hd v) h
   refine anyC_mono ?_ _ _ _ this
   rintro listed' a' ⟨q1,e',q2,q3,q4⟩
   exact ⟨q1,e',q2,q3,fun t ht=>by
    obtain ⟨ht1,ht2⟩:=not_dst ht
    rw [q4 t ht2,get_put_dst _ _ _ ht1,he t]⟩
  show anyC P ops _ _ (l.length+1) listed a
  generalize anyC P ops (fun l w=>C (mask loud l) w) (fun listed' a'=>(∀ j,j<ops.size→listed'.getD j false=true)∧∃ e',Rep n e' a'∧K e'∧∀ t,t ∉ dstsL (o::l)→e'.get t=e.get t) (l.length+1) listed a=G at fin ⊢
  have one:∀ e1,Rep n e1 a→(∀ t,e1.get t=e.get t)→okDst n o.dst=true→Region.wanted o (Go.yielded ops a.tmps)=true→vcAnyOne P ops loud C o k e1 w (fun v=>vcAny P n ops loud C w l (k+1) (e1.put o.dst v) K)→G:=fun e1 hr1 he hd hw h=>by
   obtain ⟨v,hs,hn⟩:=anyOne_ok hr1 hw h
   exact fin e1 v hr1 he hd hs hn
  have skip:∀ e1,Rep n e1 a→(∀ t,e1.get t=e.get t)→okDst n o.dst=true→Region.wanted o (Go.yielded ops a.tmps)=false →
    (match loudOf loud k with | some _=>SkipK C k (vcAny P n ops loud C w l (k+1) (e1.put o.dst undef) K) | none=>vcAny P n ops loud C w l (k+1) (e1.put o.dst undef) K)→G:=fun e1 hr1 he hd hw h=>by
   have hm:=loudOf_mem (loud:=loud) (k:=k)
   split at h
   case h_1 r hlo=>
    rw [hlo] at hm
    refine fin e1 undef hr1 he hd (.inr ⟨hw,rfl,fun listed w' hcl hi hC=>?_⟩) h.out.2
    show C (mask loud (listed.setIfInBounds k true)) w'
    rw [mask_loud hm.symm (by rw [hcl.1];exact (ready_lt hi).1)]
    exact h.out.1 _ _ hC
   case h_2 hlo=>
    rw [hlo] at hm
    refine fin e1 undef hr1 he hd (.inr ⟨hw,rfl,fun listed w' hcl hi hC=>?_⟩) h
    show C (mask loud (listed.setIfInBounds k true)) w'
    rw [mask_pure hm.symm];exact hC
  unfold vcAny at h
  split at h
  case h_1=>cases h
  case h_2 hd=>
   split at h
   case h_1 hg=>exact one e hr (fun _=>rfl) hd (by simp [Region.wanted,hg]) h
   case h_2 j want hg=>
    have hy:=hr.yielded ops j
    split at h
    case h_1=>cases h
    case h_2 d hdst=>
     simp only [hdst] at hy
     split at h
     case h_1 b hb=>
      simp only [hb] at hy
      split at h
      all_goals
       obtain ⟨h1,h2⟩:=ifB_ok h
       cases b
       ·first
         | exact skip _ (hr.lit hb) (get_lit hb) hd (by simp [Region.wanted,hg,hy]) (h2 rfl)
         | exact one _ (hr.lit hb) (get_lit hb) hd (by simp [Region.wanted,hg,hy]) (h2 rfl)
       ·first
         | exact skip _ (hr.lit hb) (get_lit hb) hd (by simp [Region.wanted,hg,hy]) (h1 rfl)
         | exact one _ (hr.lit hb) (get_lit hb) hd (by simp [Region.wanted,hg,hy]) (h1 rfl)
     case h_2 hb=>
      simp only [hb] at hy
      exact skip e hr (fun _=>rfl) hd (by simp [Region.wanted,hg,hy]) h
     case h_3=>cases h
theorem add_block (p:Addr) (i:Nat):(p.add i).block=p.block:=by unfold Addr.add;split<;>rfl
theorem cellsAt_kept {S:Nat→Prop} {w0 w:World} (h:Kept S w0 w) {p:Addr} (hp:S p.block):∀ (vs:List Value) (i:Nat),CellsAt w0 p i vs→CellsAt w p i vs
 | [],_,_=>trivial
 | _::vs,i,⟨h1,h2⟩=>⟨h _ _ (by rw [add_block];exact hp) h1,cellsAt_kept h hp vs (i+1) h2⟩
theorem loadVar_kept {S:Nat→Prop} {t:TypeId} {p:Addr} (hp:S p.block) {w0:World} {K:Value→Prop} (h:vcLoad P t p w0 fun v _=>K v):∃ v,(∀ w,Kept S w0 w→(loadVar t p).run P w=.ok v w)∧K v:=by
 unfold vcLoad at h
 split at h
 case h_1 fs i hu hi=>
  split at h
  case h_1 cs hz=>
   split at h
   case h_1 hb=>
    obtain ⟨x,hx,hK⟩:=h.out
    refine ⟨_,fun w hw=>?_,hK⟩
    have hs:=Nat.eq_of_beq_eq_true hb
    simp only [loadVar,Sem.run_bind,isagg hu,aggB,Result.andThen_ok,if_true,sizeof hi]
    rw [hs,← Cs.vals_length _ x,z31z _ (cellsAt_kept hw hp _ _ hx)]
    rfl
   case h_2=>cases h
  case h_2=>cases h
 case h_2 hu hi=>
  obtain ⟨x,hn,hx,hK⟩:=h.out
  refine ⟨_,fun w hw=>?_,hK⟩
  simp only [loadVar,Sem.run_bind,isagg hu,aggB,Result.andThen_ok,if_true,sizeof hi]
  rw [← hn,z31z _ (cellsAt_kept hw hp _ _ hx)]
  rfl
 case h_3 d i hs ha hu hi=>
  split at h
  case h_1 c hk=>
   obtain ⟨x,hx,hK⟩:=h.out
   refine ⟨_,fun w hw=>?_,hK⟩
   have hf:aggB d=false:=by
    cases d<;>first | rfl | exact (hs _ rfl).elim | exact (ha _ _ rfl).elim
   simp only [loadVar,Sem.run_bind,isagg hu,hf,Result.andThen_ok,Bool.false_eq_true,if_false]
   exact load_ok (hw _ _ hp hx)
  case h_2=>cases h
 case h_4=>cases h
theorem vcSoft_ok {n:Nat} {o:Oper} {e:Env} {a:Act} {S:Nat→Prop} {w0:World} {K:Value→Prop} (hr:Rep n e a) (h:vcSoft P o e S w0 K) :
  ∃ v,(∀ w,(isLoad o.op=true→Kept S w0 w)→(execOp a.eval o).run P w=.ok (.value v) w)∧K v:=by
 rw [hr.eval]
 unfold vcSoft at h
 split at h
 case h_1 t x ho=>
  split at h
  case h_1 q ea=>
   obtain ⟨p,rfl,h⟩:=optA_ok h
   obtain ⟨v,hv,hK⟩:=loadVar_kept h.out.1 h.out.2
   refine ⟨v,fun w hw=>?_,hK⟩
   simp only [execOp,ho,ea,Instr.loadAt,Instr.sureAddr,Sem.run_bind,Sem.run_pure,Result.andThen_ok,hv w (hw (by rw [ho];rfl))]
  case h_2=>cases h
 case h_2=>
  split at h
  case h_1 hp=>
   obtain ⟨v,hv,hK⟩:=vcOp_pure hp h
   exact ⟨v,fun w _=>hv w,hK⟩
  case h_2=>cases h
theorem Yields.mono {s:Sem Next} {w:World} {K K':Value→World→Prop} (h:Yields P s w K) (hk:∀ v w',K v w'→K' v w'):Yields P s w K':=by
 rcases h with ⟨v,w',a,b⟩ | ⟨w',a,b⟩ | ⟨f,args,a,b⟩
 ·exact .inl ⟨v,w',a,hk _ _ b⟩
 ·exact .inr (.inl ⟨w',a,hk _ _ b⟩)
 ·exact .inr (.inr ⟨f,args,a,Calls.mono b fun e w' ⟨v,he,hv⟩=>⟨v,he,hk _ _ hv⟩⟩)
theorem Kept.refl (S:Nat→Prop) (w:World):Kept S w w:=fun _ _ _ h=>h
theorem Kept.trans {S:Nat→Prop} {a b c:World} (h:Kept S a b) (k:Kept S b c):Kept S a c:=fun x v hs hx=>k x v hs (h x v hs hx)
def StepK (P:Program) (ops:Array Oper) (o:Oper) (a:Act) (w:World) (Φ:Value→World→Prop):Prop:=
 (Region.wanted o (Go.yielded ops a.tmps)=true∧Yields P (execOp a.eval o) w Φ)∨(Region.wanted o (Go.yielded ops a.tmps)=false∧Φ undef w)
theorem StepK.mono {o:Oper} {a:Act} {w:World} {Φ Ψ:Value→World→Prop} (h:StepK P ops o a w Φ) (k:∀ v w',Φ v w'→Ψ v w'):StepK P ops o a w Ψ:=by
 rcases h with ⟨a,b⟩ | ⟨a,b⟩
 ·exact .inl ⟨a,b.mono k⟩
 ·exact .inr ⟨a,k _ _ b⟩
def wpK (P:Program) (ops:Array Oper) (S:Nat→Prop) (Q:Act→World→Prop):Nat→Array Bool→Act→World→Prop
 | 0,listed,a,w=>Region.ready .any ops listed=[]∧Q a w
 | f+1,listed,a,w=>Region.ready .any ops listed≠[]∧∀ i∈Region.ready .any ops listed,∃ o,ops[i]? = some o ∧
   StepK P ops o a w fun v w'=>(needsK ops i=true→Kept S w w')∧wpK P ops S Q f (listed.setIfInBounds i true) (a.put o.dst v) w'
theorem wpK_any {S:Nat→Prop} {Q:Act→World→Prop} {Q':Exit→Act→World→Prop} (hQ:∀ a w,Q a w→Q' .normal a w):∀ (f:Nat) (listed:Array Bool) (a:Act) (w:World),wpK P ops S Q f listed a w→wpAny P .any ops Q' f listed a w
 | 0,listed,a,w,h=>⟨h.1,hQ _ _ h.2⟩
 | f+1,listed,a,w,h=>by
  refine ⟨fun h0=>absurd h0 h.1,fun i hi=>?_⟩
  obtain ⟨o,ho,hy⟩:=h.2 i hi
  unfold wpOp
  simp only [ho]
  rcases hy with ⟨hw,hy⟩ | ⟨hw,hy⟩
  ·rw [if_pos hw]
   refine .inl ?_
   unfold Oper.wp
   rcases hy with ⟨u,w',hrun,_,hn⟩ | ⟨w',hrun,_,hn⟩ | ⟨g,args,hrun,hret⟩
   ·rw [hrun];exact wpK_any hQ f _ _ _ hn
   ·rw [hrun];exact wpK_any hQ f _ _ _ hn
   ·rw [hrun]
    exact Calls.mono hret fun e w' ⟨u,he,_,hn⟩=>by subst he;exact wpK_any hQ f _ _ _ hn
  ·rw [if_neg (by rw [hw];simp)]
   exact wpK_any hQ f _ _ _ hy.2
theorem wpK_mono {S:Nat→Prop} {Q Q':Act→World→Prop} (hQ:∀ a w,Q a w→Q' a w):∀ (f:Nat) (listed:Array Bool) (a:Act) (w:World),wpK P ops S Q f listed a w→wpK P ops S Q' f listed a w
 | 0,_,_,_,h=>⟨h.1,hQ _ _ h.2⟩
 | f+1,_,_,_,h=>⟨h.1,fun i hi=>let ⟨o,h1,h3⟩:=h.2 i hi;⟨o,h1,h3.mono fun _ _ ⟨hk,hn⟩=>⟨hk,wpK_mono hQ f _ _ _ hn⟩⟩⟩
def Still1 (P:Program) (ops:Array Oper) (S:Nat→Prop) (o:Oper) (v:Value) (a:Act) (w:World):Prop:=
 (Region.wanted o (Go.yielded ops a.tmps)=true∧∀ W,(isLoad o.op=true→Kept S w W)→(execOp a.eval o).run P W=.ok (.value v) W)∨(Region.wanted o (Go.yielded ops a.tmps)=false∧v=undef)
theorem Still1.step {S:Nat→Prop} {o:Oper} {v:Value} {a:Act} {w:World} (h:Still1 P ops S o v a w) {Φ:Value→World→Prop} (k:Φ v w):StepK P ops o a w Φ:=by
 rcases h with ⟨h1,h2⟩ | ⟨h1,rfl⟩
 ·exact .inl ⟨h1,.inl ⟨v,w,h2 w (fun _=>Kept.refl S w),k⟩⟩
 ·exact .inr ⟨h1,k⟩
theorem needsK_of {i s:Nat} {o:Oper} (ho:ops[s]? = some o) (hl:isLoad o.op=true) (hn:s ∉ anc ops ops.size i):needsK ops i=true:=by
 unfold needsK
 refine List.any_eq_true.2 ⟨s,List.mem_range.2 (Array.getElem?_eq_some_iff.1 ho).1,?_⟩
 rw [ho]
 have:mem (anc ops ops.size i) s=false:=by
  cases hm:mem (anc ops ops.size i) s with
  | false=>rfl
  | true=>exact absurd ((mem_iff _ _).1 hm) hn
 simp [hl,this]
theorem wpK_first {S:Nat→Prop} {Q:Act→World→Prop} {i:Nat} {oi:Oper} {v:Value} (hi:ops[i]? = some oi) (hsel:∀ (j:Nat) (o:Oper) cs b,ops[j]? = some o→o.op≠.select cs b) :
  ∀ (f:Nat) (listed:Array Bool) (a:Act) (w:World),Closed ops listed →
   (∀ j oj,ops[j]? = some oj→j≠i→listed.getD j true=false→(∀ e∈oj.after,Region.binds .any e=true→e.on≠i)→oi.apart ops oj=true) →
   i∈Region.ready .any ops listed→Still1 P ops S oi v a w→wpK P ops S Q f (listed.setIfInBounds i true) (a.put oi.dst v) w→wpK P ops S Q (f+1) listed a w:=by
 intro f
 induction f with
 | zero=>
  intro listed a w _ _ hr hy H
  refine ⟨fun h=>(by rw [h] at hr;cases hr),fun j hj=>?_⟩
  by_cases hji:j=i
  ·subst hji;exact ⟨oi,hi,hy.step ⟨fun _=>Kept.refl S w,H⟩⟩
  ·have:=ready_mono hj hji
   rw [H.1] at this
   cases this
 | succ f ih=>
  intro listed a w hcl hfree hr hy H
  refine ⟨fun h=>(by rw [h] at hr;cases hr),fun j hj=>?_⟩
  by_cases hji:j=i
  ·subst hji;exact ⟨oi,hi,hy.step ⟨fun _=>Kept.refl S w,H⟩⟩
  ·obtain ⟨oj,hoj,hyj⟩:=H.2 j (ready_mono hj hji)
   obtain ⟨hjun,oj',hoj',hall⟩:=mem_ready.1 hj
   have:oj'=oj:=Option.some.inj (hoj'.symm.trans hoj)
   subst this
   have hun:∀ b:Bool,listed.getD i false=b→b=false:=fun b hb=>by
    have h0:=(mem_ready.1 hr).1
    rcases Nat.lt_or_ge i listed.size with h' | h'
    ·simp [h'] at h0 hb;rw [h0] at hb;exact hb.symm
    ·simp [Array.getElem?_eq_none h'] at hb;exact hb
   have hnot:∀ e∈oj'.after,Region.binds .any e=true→e.on≠i:=fun e he hb heq=>by
    have h1:=hall e he hb
    rw [heq] at h1
    exact absurd (hun _ h1) (by decide)
   have hanc:i ∉ anc ops ops.size j:=fun hm=>by
    have h1:=anc_listed hcl ops.size j (fun o ho e he hb=>by
     have:o=oj':=Option.some.inj (ho.symm.trans hoj')
     subst this
     exact hall e he hb) i hm
    exact absurd (hun _ h1) (by decide)
   have hap:=hfree j oj' hoj hji hjun hnot
   obtain ⟨h1,h2,h3⟩:=Oper.apart_spec hap
   unfold StepK at hyj
   rw [execOp_put oj' (fun cs b=>hsel j oj' cs b hoj) a oi.dst v h1,wanted_put oj' a oi.dst v h1] at hyj
   refine ⟨oj',hoj,StepK.mono hyj fun u w' ⟨hk',hn⟩=>⟨hk',?_⟩⟩
   refine ih (listed.setIfInBounds j true) (a.put oj'.dst u) w' (hcl.set hj) (fun k ok hk hki hun hno=>?_) (ready_mono hr (Ne.symm hji)) ?_ ?_
   ·refine hfree k ok hk hki ?_ hno
    by_cases hjk:j=k
    ·subst hjk;exact hjun
    ·rw [getD_set_ne true hjk] at hun;exact hun
   ·unfold Still1
    rw [execOp_put oi (fun cs b=>hsel i oi cs b hi) a oj'.dst u h3,wanted_put oi a oj'.dst u h3]
    rcases hy with ⟨y1,y2⟩ | y
    ·exact .inl ⟨y1,fun W hW=>y2 W fun hl=>(hk' (needsK_of hi hl hanc)).trans (hW hl)⟩
    ·exact .inr y
   ·rw [Array.setIfInBounds_comm _ _ hji,← Act.put_comm a v u h2]
    exact hn
def HQ (n:Nat) (ops:Array Oper) (e:Env) (K:Env→World→Prop):Act→World→Prop:=fun a' w'=>∃ e',Rep n e' a'∧K e' w'∧∀ t,t ∉ dstsL ops.toList→e'.get t=e.get t
theorem HQ.put {n:Nat} {ops:Array Oper} {e:Env} {K:Env→World→Prop} {i:Nat} {o:Oper} (ho:ops[i]? = some o) (v:Value) {a:Act} {w:World} (h:HQ n ops (e.put o.dst v) K a w):HQ n ops e K a w:=by
 obtain ⟨e2,q1,q2,q3⟩:=h
 refine ⟨e2,q1,q2,fun t ht=>?_⟩
 rw [q3 t ht,get_put_dst _ _ _ (fun hm=>ht (by
  unfold dstsL
  refine List.mem_filterMap.2 ⟨o,?_,by simpa using hm⟩
  exact Array.mem_toList_iff.2 (Array.mem_of_getElem? ho)))]
theorem HQ.same {n:Nat} {ops:Array Oper} {e e1:Env} {K:Env→World→Prop} (he:∀ t,e1.get t=e.get t) {a:Act} {w:World} (h:HQ n ops e1 K a w):HQ n ops e K a w:=by
 obtain ⟨e2,q1,q2,q3⟩:=h
 exact ⟨e2,q1,q2,fun t ht=>by rw [q3 t ht,he t]⟩
theorem vcGuard_cases {n:Nat} {o:Oper} {e:Env} {a:Act} {D K:Env→Prop} (hr:Rep n e a) (h:vcGuard ops o e D K) :
  (Region.wanted o (Go.yielded ops a.tmps)=true∧∃ e1,Rep n e1 a∧(∀ t,e1.get t=e.get t)∧D e1) ∨
  (Region.wanted o (Go.yielded ops a.tmps)=false∧∃ e1,Rep n e1 a∧(∀ t,e1.get t=e.get t)∧K e1):=by
 unfold vcGuard at h
 split at h
 case h_1 hg=>exact .inl ⟨by simp [Region.wanted,hg],e,hr,fun _=>rfl,h⟩
 case h_2 j want hg=>
  have hy:=hr.yielded ops j
  split at h
  case h_1=>cases h
  case h_2 d hd=>
   rw [hd] at hy
   dsimp only at hy
   split at h
   case h_1 b hb=>
    rw [hb] at hy
    dsimp only at hy
    split at h
    case h_1=>
     cases b with
     | true=>exact .inl ⟨by simp [Region.wanted,hg,hy],_,hr.lit hb,get_lit hb,h⟩
     | false=>exact .inr ⟨by simp [Region.wanted,hg,hy],_,hr.lit hb,get_lit hb,h⟩
    case h_2=>
     cases b with
     | true=>exact .inr ⟨by simp [Region.wanted,hg,hy],_,hr.lit hb,get_lit hb,h⟩
     | false=>exact .inl ⟨by simp [Region.wanted,hg,hy],_,hr.lit hb,get_lit hb,h⟩
   case h_2 c hc=>
    rw [hc] at hy
    dsimp only at hy
    exact .inr ⟨by simp [Region.wanted,hg,hy],e,hr,fun _=>rfl,h⟩
   case h_3=>cases h
theorem vcHeld_sound {n:Nat} {S:Nat→Prop} {K:Env→World→Prop} (hsel:Region.noSelect ops=true):∀ (h:Hp),
  (∀ (k:Nat) (listed:Array Bool) (e:Env) (a:Act) (w:World),Closed ops listed→Rep n e a→vcHeld P n ops S h k [] listed e w K→wpK P ops S (HQ n ops e K) k listed a w) ∧
  ∀ (i:Nat) (h1 m:Hp),h=.pick i h1 m→∀ (k:Nat) (seen:List Nat) (listed:Array Bool) (e:Env) (a:Act) (w:World),Closed ops listed→Rep n e a→vcHeld P n ops S h k seen listed e w K →
   ∃ k',k=k'+1∧Region.ready .any ops listed≠[]∧∀ j∈Region.ready .any ops listed,j ∉ seen→∃ o,ops[j]? = some o ∧
    StepK P ops o a w fun v w'=>(needsK ops j=true→Kept S w w')∧wpK P ops S (HQ n ops e K) k' (listed.setIfInBounds j true) (a.put o.dst v) w':=by
 intro h
 induction h with
 | done=>
  refine ⟨fun k listed e a w hcl hr h=>?_,fun i h1 m he=>by cases he⟩
  unfold vcHeld at h
  split at h
  case h_1 hb=>
   simp only [Bool.and_eq_true] at hb
   have hk0:=Nat.eq_of_beq_eq_true hb.1
   subst hk0
   exact ⟨by simpa using hb.2,e,hr,h,fun _ _=>rfl⟩
  case h_2=>cases h
 | stop=>exact ⟨fun k listed e a w hcl hr h=>(by unfold vcHeld at h;cases h),fun i h1 m he=>by cases he⟩
 | last i h' ih=>
  refine ⟨fun k listed e a w hcl hr h=>?_,fun i h1 m he=>by cases he⟩
  unfold vcHeld at h
  split at h
  case h_1 k o ho=>
   split at h
   case h_1 hb=>
    simp only [Bool.and_eq_true,List.all_eq_true,Bool.not_eq_true'] at hb
    obtain ⟨⟨⟨hd,hc⟩,hall⟩,hnk⟩:=hb
    have hin:i∈Region.ready .any ops listed:=by simpa using hc
    refine ⟨fun h0=>(by rw [h0] at hin;cases hin),fun j hj=>?_⟩
    have hm:=(mem_iff _ _).1 (hall j hj)
    have:j=i:=by simpa using hm
    subst this
    refine ⟨o,ho,?_⟩
    have hnk':needsK ops j=true→∀ {w w':World},Kept S w w':=fun t=>by rw [hnk] at t;cases t
    rcases vcGuard_cases hr h with ⟨hw,e1,hr1,he1,h⟩ | ⟨hw,e1,hr1,he1,h⟩
    ·refine .inl ⟨hw,?_⟩
     rw [hr1.eval]
     exact (vcOp_run h).mono fun v w' hh=>⟨fun t=>hnk' t,wpK_mono (fun a w h=>HQ.same he1 (HQ.put ho v h)) _ _ _ _ (ih.1 k _ _ _ w' (hcl.set hin) (hr1.put o.dst hd v) hh)⟩
    ·exact .inr ⟨hw,fun _=>Kept.refl S w,wpK_mono (fun a w h=>HQ.same he1 (HQ.put ho undef h)) _ _ _ _ (ih.1 k _ _ _ w (hcl.set hin) (hr1.put o.dst hd undef) h)⟩
   case h_2=>cases h
  case h_2=>cases h
 | soft i h' ih=>
  refine ⟨fun k listed e a w hcl hr h=>?_,fun i h1 m he=>by cases he⟩
  unfold vcHeld at h
  split at h
  case h_1 k o ho=>
   split at h
   case h_1=>cases h
   case h_2 hb=>
    simp only [Bool.and_eq_true] at hb
    obtain ⟨⟨hd,hc⟩,hf⟩:=hb
    have mono:∀ {e1:Env} (v:Value),(∀ t,e1.get t=e.get t)→∀ (k:Nat) (listed:Array Bool) (a:Act) (w:World),wpK P ops S (HQ n ops (e1.put o.dst v) K) k listed a w→wpK P ops S (HQ n ops e K) k listed a w:=fun v he k listed a w=>
     wpK_mono (fun a w h=>HQ.same he (HQ.put ho v h)) _ _ _ _
    rcases vcGuard_cases hr h with ⟨hw,e1,hr1,he1,h⟩ | ⟨hw,e1,hr1,he1,h⟩
    ·obtain ⟨v,hv,hn⟩:=vcSoft_ok hr1 h
     exact wpK_first ho (Region.noSelect_spec hsel) k listed a w hcl (Region.free_spec ho hf) (by simpa using hc) (.inl ⟨hw,hv⟩)
      (mono v he1 _ _ _ _ (ih.1 k _ _ _ w (hcl.set (by simpa using hc)) (hr1.put o.dst hd v) hn))
    ·exact wpK_first ho (Region.noSelect_spec hsel) k listed a w hcl (Region.free_spec ho hf) (by simpa using hc) (.inr ⟨hw,rfl⟩)
      (mono undef he1 _ _ _ _ (ih.1 k _ _ _ w (hcl.set (by simpa using hc)) (hr1.put o.dst hd undef) h))
  case h_2=>cases h
 | pick i h' m ih ihm=>
  have P2:∀ (k:Nat) (seen:List Nat) (listed:Array Bool) (e:Env) (a:Act) (w:World),Closed ops listed→Rep n e a→vcHeld P n ops S (.pick i h' m) k seen listed e w K →
    ∃ k',k=k'+1∧Region.ready .any ops listed≠[]∧∀ j∈Region.ready .any ops listed,j ∉ seen→∃ o,ops[j]? = some o ∧
     StepK P ops o a w fun v w'=>(needsK ops j=true→Kept S w w')∧wpK P ops S (HQ n ops e K) k' (listed.setIfInBounds j true) (a.put o.dst v) w':=by
   intro k seen listed e a w hcl hr h
   have one:i∈Region.ready .any ops listed→∀ (k:Nat) (o:Oper),ops[i]? = some o→okDst n o.dst=true→(vcGuard ops o e (fun e=>vcOp P o e w fun v w'=>KeepK S w w' (vcHeld P n ops S h' k [] (listed.setIfInBounds i true) (e.put o.dst v) w' K))
     (fun e=>vcHeld P n ops S h' k [] (listed.setIfInBounds i true) (e.put o.dst undef) w K)) →
     StepK P ops o a w fun v w'=>(needsK ops i=true→Kept S w w')∧wpK P ops S (HQ n ops e K) k (listed.setIfInBounds i true) (a.put o.dst v) w':=fun hin k o ho hd h=>by
    rcases vcGuard_cases hr h with ⟨hw,e1,hr1,he1,h⟩ | ⟨hw,e1,hr1,he1,h⟩
    ·refine .inl ⟨hw,?_⟩
     rw [hr1.eval]
     exact (vcOp_run h).mono fun v w' hh=>⟨fun _=>hh.out.1,wpK_mono (fun a w h=>HQ.same he1 (HQ.put ho v h)) _ _ _ _ (ih.1 k _ _ _ w' (hcl.set hin) (hr1.put o.dst hd v) hh.out.2)⟩
    ·exact .inr ⟨hw,fun _=>Kept.refl S w,wpK_mono (fun a w h=>HQ.same he1 (HQ.put ho undef h)) _ _ _ _ (ih.1 k _ _ _ w (hcl.set hin) (hr1.put o.dst hd undef) h)⟩
   cases m with
   | stop=>
    unfold vcHeld at h
    split at h
    case h_1 k o ho=>
     split at h
     case h_1 hb=>
      simp only [Bool.and_eq_true,List.all_eq_true] at hb
      obtain ⟨⟨hd,hc⟩,hall⟩:=hb
      have hin:i∈Region.ready .any ops listed:=by simpa using hc
      refine ⟨k,rfl,fun h0=>(by rw [h0] at hin;cases hin),fun j hj hns=>?_⟩
      have hm:=(mem_iff _ _).1 (hall j hj)
      rcases List.mem_cons.1 hm with rfl | hm
      ·exact ⟨o,ho,one hin k o ho hd h⟩
      ·exact absurd hm hns
     case h_2=>cases h
    case h_2=>cases h
   | pick i2 h2 m2=>
    unfold vcHeld at h
    split at h
    case h_1 k o ho=>
     split at h
     case h_1=>cases h
     case h_2 hb=>
      obtain ⟨k',hk',hne,hall⟩:=ihm.2 i2 h2 m2 rfl (k+1) (i::seen) listed e a w hcl hr h.out.2
      have:k'=k:=by omega
      subst this
      refine ⟨k',rfl,hne,fun j hj hns=>?_⟩
      by_cases hji:j=i
      ·subst hji;exact ⟨o,ho,one hj k' o ho hb h.out.1⟩
      ·exact hall j hj (by simp [hji,hns])
    case h_2=>cases h
   | done=>unfold vcHeld at h;cases h
   | soft i2 h2=>unfold vcHeld at h;cases h
   | last i2 h2=>unfold vcHeld at h;cases h
  refine ⟨fun k listed e a w hcl hr h=>?_,fun i1 h1 m1 he=>?_⟩
  ·obtain ⟨k',rfl,hne,hall⟩:=P2 k [] listed e a w hcl hr h
   exact ⟨hne,fun j hj=>hall j hj (by simp)⟩
  ·cases he
   exact P2
end anyorder
theorem look_strike (ds:List Nat) (l:List (Nat×Value)) (t:Nat):look (strike ds l) t=if t∈ds then none else look l t:=by
 induction l with
 | nil=>simp [strike,look]
 | cons x l ih=>
  obtain ⟨u,v⟩:=x
  unfold strike
  cases hm:mem ds u with
  | true=>
   simp only []
   rw [ih,look_cons]
   by_cases h:t∈ds
   ·simp [h]
   ·have hne:t≠u:=fun e=>h (e ▸ (mem_iff ds u).1 hm)
    simp [h,hne]
  | false=>
   simp only []
   rw [look_cons,look_cons,ih]
   by_cases h:t=u
   ·have hne:t ∉ ds:=fun hh=>by rw [h,← mem_iff,hm] at hh;cases hh
    subst h
    simp [hne]
   ·simp [h]
theorem rep_head {n:Nat} {e:Env} {a:Act} {ds:List Nat} (hsz:a.tmps.size=n) (hdf:a.defers=[]) (hkeep:∀ t,t ∉ ds→a.tmps.getD t undef=e.get t) :
  ∀ (ks:List (Nat×Kd)) (s:St (ks.map (·.2))),ks.map (fun x=>a.tmps.getD x.1 undef)=St.vals (ks.map (·.2)) s →
   Rep n ⟨bindS ks s (strike ds e.l),fun t=>a.tmps.getD t undef⟩ a:=by
 intro ks s hs
 refine ⟨hsz,hdf,fun t=>?_⟩
 have key:∀ (ks:List (Nat×Kd)) (s:St (ks.map (·.2))),ks.map (fun x=>a.tmps.getD x.1 undef)=St.vals (ks.map (·.2)) s →
   a.tmps.getD t undef=Env.get ⟨bindS ks s (strike ds e.l),fun t=>a.tmps.getD t undef⟩ t:=by
  intro ks
  induction ks with
  | nil=>
   intro s _
   show _=(match look (strike ds e.l) t with | some v=>v | none=>a.tmps.getD t undef)
   rw [look_strike]
   by_cases h:t∈ds
   ·simp [h]
   ·simp only [h,if_false]
    have hk:=hkeep t h
    unfold Env.get at hk
    cases hl:look e.l t with
    | none=>simp
    | some v=>rw [hl] at hk;simp [hk]
  | cons x ks ih=>
   obtain ⟨u,k⟩:=x
   intro s hs
   have hs':a.tmps.getD u undef::ks.map (fun x=>a.tmps.getD x.1 undef)=k.val s.1::St.vals (ks.map (·.2)) s.2:=hs
   injection hs' with hs1 hs2
   have hi:=ih s.2 hs2
   show _=(match look ((u,k.val s.1)::bindS ks s.2 (strike ds e.l)) t with | some v=>v | none=>a.tmps.getD t undef)
   rw [look_cons]
   by_cases h:t=u
   ·subst h;simp only [if_true];exact hs1
   ·simp only [h,if_false];exact hi
 exact key ks s hs
theorem slots_rep {n:Nat} {e:Env} {a:Act} (hr:Rep n e a) (ks:List (Nat×Kd)):ks.map (fun x=>a.tmps.getD x.1 undef)=slots e ks:=by
 unfold slots
 exact List.map_congr_left fun x _=>hr.get x.1
theorem vcCode_sound {n:Nat} (hm:P.follows .mixedOrders=true):∀ (c:Code) (p:Plan) (e:Env) (a:Act) (w:World) (Q:Exit→Env→World→Prop),Rep n e a→vcCode P n c p e w Q →
  c.wp P (fun x a' w'=>∃ e',Rep n e' a'∧Q x e' w'∧∀ t,t ∉ dsts c→e'.get t=e.get t) a w:=by
 intro c
 induction c with
 | skip=>intro p e a w Q hr h;exact wp_skip ⟨e,hr,h,fun _ _=>rfl⟩
 | exit id=>intro p e a w Q hr h;exact wp_exit ⟨e,hr,h,fun _ _=>rfl⟩
 | ret=>intro p e a w Q hr h;exact wp_ret ⟨e,hr,h,fun _ _=>rfl⟩
 | region id ops draw=>
  intro p e a w Q hr h
  unfold vcCode at h
  split at h
  case h_1=>
   refine wp_region ?_
   have hl:=wpOps_eq_wpList (P:=P) (ops:=ops) (Q:=fun x a' w'=>∃ e',Rep n e' a'∧Q x e' w'∧∀ t,t ∉ dsts (.region id ops false)→e'.get t=e.get t) ops.toList 0 (by simp)
   rw [show List.range ops.size=List.range' 0 ops.toList.length by simp [List.range_eq_range']]
   rw [hl]
   exact vcOps_sound ops.toList e a w (Q .normal) hr h fun e' a' w' h1 h2 h3=>⟨e',h1,h3,h2⟩
  case h_2=>
   split at h
   case h_1=>
    split at h
    case h_1 hb=>
     simp only [Bool.and_eq_true] at hb
     refine wp_region_still hm hb.1 ?_
     refine vcOps_still [] ops.toList e a _ (Q .normal) hb.2 ⟨hr.size,hr.defers,hr.get⟩ (by simpa using h.out) fun e' a' h1 h2 h3=>⟨e',h1,h3,h2⟩
    case h_2=>cases h
   case h_2 k=>
    split at h
    case h_1 hb=>
     simp only [Bool.and_eq_true] at hb
     have hw:=wp_region_still_tail (P:=P) (id:=id) (Q:=fun x a' w'=>∃ e',Rep n e' a'∧Q x e' w'∧∀ t,t ∉ dsts (.region id ops true)→e'.get t=e.get t) (a:=a) (w:=w) (l:=ops.toList) k hm (by simpa using hb.1)
     have e1:ops.toList.toArray=ops:=by simp
     rw [e1] at hw
     refine hw ?_
     refine vcOps_still (ops.toList.drop k) (ops.toList.take k) e a _ (Q .normal) hb.2 hr (by rw [List.take_append_drop];exact h.out) fun e' a' h1 h2 h3=>?_
     refine vcOps_sound _ e' a' _ (Q .normal) h1 h3 fun e2 a2 w2 k1 k2 k3=>⟨e2,k1,k3,fun t ht=>?_⟩
     have hin:∀ l:List Oper,(∀ o∈l,o∈ops.toList)→t ∉ dstsL l:=fun l hl hmem=>ht (by
      unfold dstsL at hmem
      obtain ⟨o,ho,hd⟩:=List.mem_filterMap.1 hmem
      exact List.mem_filterMap.2 ⟨o,hl o ho,hd⟩)
     rw [k2 t (hin _ fun o ho=>List.mem_of_mem_drop ho),h2 t (hin _ fun o ho=>List.mem_of_mem_take ho)]
    case h_2=>cases h
   case h_3 loud=>
    split at h
    case h_1 hb=>
     simp only [Region.lexB,Bool.and_eq_true] at hb
     obtain ⟨hb,hbl⟩:=hb
     obtain ⟨C,hC,h⟩:=h.out
     have hL:=anyC_lex hb.1 ops.toList 0 (Array.replicate ops.size false) e a (by simp) (by simp) (fun j hj=>by omega) (by simpa using hb.2) hr h
     have hfalse:∀ j,(Array.replicate ops.size false).getD j false=false:=fun j=>by
      rcases Nat.lt_or_ge j ops.size with h | h<;>simp [h]
     have hcl:Closed ops (Array.replicate ops.size false):=⟨by simp,fun j oj _ hl=>by rw [hfalse] at hl;cases hl⟩
     have hm0:mask loud (Array.replicate ops.size false)=fun _=>false:=by
      funext j
      unfold mask
      rw [hfalse,Bool.and_false]
     refine wp_region_any hm ?_
     refine (anyC_sound (CL:=fun l w=>C (mask loud l) w) ?_ ops.size _ a _ hcl (by rw [hm0];exact hC) (by rw [show ops.size=ops.toList.length by simp];exact hL))
     rintro listed' a' w' ⟨hfull,e',q1,q2,q3⟩ hC'
     refine ⟨e',q1,q2 w' ?_,q3⟩
     have:mask loud listed'=mem (loud.map (·.1)):=by
      funext j
      unfold mask
      rcases Nat.lt_or_ge j ops.size with hj | hj
      ·rw [hfull j hj,Bool.and_true]
      ·cases hmj:mem (loud.map (·.1)) j with
       | false=>rfl
       | true=>
        have:=List.all_eq_true.1 hbl j ((mem_iff _ _).1 hmj)
        simp [Nat.blt] at this
        omega
     rw [← this];exact hC'
    case h_2=>cases h
   case h_4 hp=>
    split at h
    case h_1 hb=>
     refine wp_region_any hm ?_
     obtain ⟨S,h⟩:=h.out.out
     have hK:=(vcHeld_sound hb hp).1 ops.size (Array.replicate ops.size false) e a _ ⟨by simp,fun j oj hj hl e he hb=>by simp [Array.getD_eq_getD_getElem?,Array.getElem?_replicate] at hl;split at hl<;>simp at hl⟩ hr h
     exact wpK_any (fun a' w' ⟨e',q1,q2,q3⟩=>⟨e',q1,q2,q3⟩) _ _ _ _ hK
    case h_2=>cases h
   case h_5=>cases h
 | seq x y ihx ihy=>
  intro p e a w Q hr h
  have plain:∀ px py,vcCode P n x px e w (thenQ (fun e w=>vcCode P n y py e w Q) Q)→(Code.seq x y).wp P (fun x' a' w'=>∃ e',Rep n e' a'∧Q x' e' w'∧∀ t,t ∉ dsts (.seq x y)→e'.get t=e.get t) a w:=fun px py h=>by
   refine wp_seq (wp_mono (ihx px e a w _ hr h) ?_)
   rintro ex a' w' ⟨e',hr',hq,hk⟩
   cases ex with
   | normal=>
    refine wp_mono (ihy py e' a' w' Q hr' hq) ?_
    rintro ex2 a2 w2 ⟨e2,hr2,hq2,hk2⟩
    exact ⟨e2,hr2,hq2,fun t ht=>by simp only [dsts,List.mem_append,not_or] at ht;rw [hk2 t ht.2,hk t ht.1]⟩
   | exit i=>exact ⟨e',hr',hq,fun t ht=>by simp only [dsts,List.mem_append,not_or] at ht;exact hk t ht.1⟩
   | ret=>exact ⟨e',hr',hq,fun t ht=>by simp only [dsts,List.mem_append,not_or] at ht;exact hk t ht.1⟩
   | goto l=>exact hq.elim
   | panic l=>exact hq.elim
   | outgrown=>exact hq.elim
  unfold vcCode at h
  split at h
  case h_1 px py=>exact plain px py h
  case h_2 ks px py=>
   obtain ⟨J,h1,h2⟩:=h.out
   refine wp_seq (wp_mono (ihx px e a w _ hr h1) ?_)
   rintro ex a' w' ⟨e',hr',hq,hk⟩
   cases ex with
   | normal=>
    obtain ⟨s,hs,hJ⟩:=St.ex_spec hq
    have hrep:Rep n ⟨bindS ks s (strike (dsts x) e.l),fun t=>a'.tmps.getD t undef⟩ a':=
     rep_head hr'.size hr'.defers (fun t ht=>by rw [hr'.get,hk t ht]) ks s (by rw [slots_rep hr',hs])
    refine wp_mono (ihy py _ a' w' Q hrep (h2 _ s w' hJ)) ?_
    rintro ex2 a2 w2 ⟨e2,hr2,hq2,hk2⟩
    refine ⟨e2,hr2,hq2,fun t ht=>?_⟩
    simp only [dsts,List.mem_append,not_or] at ht
    rw [hk2 t ht.2,← hrep.get,hr'.get,hk t ht.1]
   | exit i=>exact ⟨e',hr',hq,fun t ht=>by simp only [dsts,List.mem_append,not_or] at ht;exact hk t ht.1⟩
   | ret=>exact ⟨e',hr',hq,fun t ht=>by simp only [dsts,List.mem_append,not_or] at ht;exact hk t ht.1⟩
   | goto l=>exact hq.elim
   | panic l=>exact hq.elim
   | outgrown=>exact hq.elim
  case h_3=>exact plain .auto .auto h
 | cond c x y ihx ihy=>
  intro p e a w Q hr h
  unfold vcCode at h
  split at h
  case h_1 t hc=>
   have hc':a.eval c=.bool t:=by rw [hr.eval];exact hc
   have go:∀ px py,ifB t (vcCode P n x px e w Q) (vcCode P n y py e w Q)→(Code.cond c x y).wp P (fun x' a' w'=>∃ e',Rep n e' a'∧Q x' e' w'∧∀ t,t ∉ dsts (.cond c x y)→e'.get t=e.get t) a w:=fun px py h=>by
    obtain ⟨h1,h2⟩:=ifB_ok h
    refine wp_cond_split hc' (fun ht=>wp_mono (ihx px e a w Q hr (h1 ht)) ?_) (fun ht=>wp_mono (ihy py e a w Q hr (h2 ht)) ?_)
    all_goals
     rintro ex2 a2 w2 ⟨e2,hr2,hq2,hk2⟩
     exact ⟨e2,hr2,hq2,fun t ht=>by simp only [dsts,List.mem_append,not_or] at ht;first | exact hk2 t ht.1 | exact hk2 t ht.2⟩
   split at h
   ·exact go _ _ h
   ·exact go _ _ h
  case h_2=>cases h
 | block id c ih=>
  intro p e a w Q hr h
  have go:∀ p,vcCode P n c p e w (blockQ id Q)→(Code.block id c).wp P (fun x' a' w'=>∃ e',Rep n e' a'∧Q x' e' w'∧∀ t,t ∉ dsts (.block id c)→e'.get t=e.get t) a w:=fun p h=>by
   refine wp_block (wp_mono (ih p e a w _ hr h) ?_)
   rintro ex a' w' ⟨e',hr',hq,hk⟩
   cases ex with
   | normal=>exact ⟨e',hr',hq,hk⟩
   | exit i=>
    unfold blockQ at hq
    by_cases hi:i=id
    ·subst hi;simp only [Exit.inBlock,if_true];simp at hq;exact ⟨e',hr',hq,hk⟩
    ·have hb:Nat.beq i id=false:=by
      cases hb:Nat.beq i id with
      | false=>rfl
      | true=>exact absurd (Nat.eq_of_beq_eq_true hb) hi
     simp only [hb] at hq
     simp only [Exit.inBlock,hi,if_false];exact ⟨e',hr',hq,hk⟩
   | ret=>exact ⟨e',hr',hq,hk⟩
   | goto l=>exact hq.elim
   | panic l=>exact hq.elim
   | outgrown=>exact hq.elim
  unfold vcCode at h
  split at h
  ·exact go _ h
  ·exact go _ h
 | loop c ih=>
  intro p e a w Q hr h
  unfold vcCode at h
  split at h
  case h_1 ks p=>
   obtain ⟨s0,hs0,h⟩:=St.ex_spec h
   obtain ⟨I,μ,hI,hround⟩:=h.out
   refine wp_loop (fun a' w'=>∃ s,I s w'∧a'.tmps.size=n∧a'.defers=[]∧(∀ t,t ∉ dsts c→a'.tmps.getD t undef=e.get t)∧ks.map (fun x=>a'.tmps.getD x.1 undef)=St.vals (ks.map (·.2)) s)
    (fun a' w'=>@dite _ (∃ s:St (ks.map (·.2)),ks.map (fun x=>a'.tmps.getD x.1 undef)=St.vals (ks.map (·.2)) s) (Classical.propDecidable _) (fun h=>μ h.choose w') (fun _=>0))
    ⟨s0,hI,hr.size,hr.defers,fun t _=>hr.get t,by rw [slots_rep hr,hs0]⟩ ?_
   rintro a' w' ⟨s,hI',hsz,hdf,hkp,hv⟩
   have hrep:Rep n ⟨bindS ks s (strike (dsts c) e.l),fun t=>a'.tmps.getD t undef⟩ a':=rep_head hsz hdf hkp ks s hv
   refine wp_mono (ih p _ a' w' _ hrep (hround _ s w' hI')) ?_
   rintro ex a2 w2 ⟨e2,hr2,hq,hk⟩
   have hkk:∀ t,t ∉ dsts (.loop c)→e2.get t=e.get t:=fun t ht=>by rw [hk t ht,← hrep.get,hkp t ht]
   cases ex with
   | normal=>
    obtain ⟨s2,hs2,hI2,hlt⟩:=St.ex_spec hq
    have hv2:ks.map (fun x=>a2.tmps.getD x.1 undef)=St.vals (ks.map (·.2)) s2:=by rw [slots_rep hr2,hs2]
    refine ⟨⟨s2,hI2,hr2.size,hr2.defers,fun t ht=>by rw [hr2.get,hkk t ht],hv2⟩,?_⟩
    have e1:∃ s:St (ks.map (·.2)),ks.map (fun x=>a'.tmps.getD x.1 undef)=St.vals (ks.map (·.2)) s:=⟨s,hv⟩
    have e2':∃ s:St (ks.map (·.2)),ks.map (fun x=>a2.tmps.getD x.1 undef)=St.vals (ks.map (·.2)) s:=⟨s2,hv2⟩
    rw [dif_pos e1,dif_pos e2']
    have u1:e1.choose=s:=St.vals_inj (e1.choose_spec.symm.trans hv)
    have u2:e2'.choose=s2:=St.vals_inj (e2'.choose_spec.symm.trans hv2)
    rw [u1,u2]
    exact hlt
   | exit i=>exact ⟨e2,hr2,hq,hkk⟩
   | ret=>exact ⟨e2,hr2,hq,hkk⟩
   | goto l=>exact hq.elim
   | panic l=>exact hq.elim
   | outgrown=>exact hq.elim
  case h_2=>cases h
 | _=>intro p e a w Q hr h;exact h.elim
theorem argEnv_look:∀ (vs:List Value) (i t:Nat),look (argEnv i vs) t=if i≤t then vs[t - i]? else none
 | [],i,t=>by simp [argEnv,look]
 | v::vs,i,t=>by
  unfold argEnv
  rw [look_cons,argEnv_look vs (i+1) t]
  by_cases h:t=i
  ·subst h;simp
  ·rw [if_neg h]
   by_cases h2:i≤t
   ·rw [if_pos (by omega),if_pos h2,show t - i=(t - (i+1))+1 by omega,List.getElem?_cons_succ]
   ·rw [if_neg (by omega),if_neg h2]
theorem rep_enter {n:Nat} {args:List Value} (h:args.length≤n):Rep n ⟨argEnv 0 args,fun _=>undef⟩ { tmps:=args.toArray++Array.replicate (n - args.toArray.size) undef,defers:=[] }:=by
 refine ⟨by simp;omega,rfl,fun t=>?_⟩
 show _=(match look (argEnv 0 args) t with | some v=>v | none=>undef)
 rw [argEnv_look,if_pos (Nat.zero_le _),Nat.sub_zero,Array.getD_eq_getD_getElem?,Array.getElem?_append]
 by_cases ht:t<args.length
 ·simp [ht]
 ·simp only [List.size_toArray,ht,if_false]
  rw [List.getElem?_eq_none (by omega)]
  simp only [Array.getElem?_replicate]
  split<;>rfl
theorem vcResult_ok {n:Nat} {e:Env} {a:Act} {w:World} {r:ResultVar} {K:Value→Prop} (hr:Rep n e a) (h:vcResult P e w r K) :
  ∃ v,(match r with | .tmp t=>(pure (a.tmps.getD t undef):Sem Value) | .cell x t=>do loadVar t (← asAddr (a.tmps.getD x undef))).run P w=.ok v w∧K v:=by
 unfold vcResult at h
 split at h
 case h_1 t=>exact ⟨_,by simp only [hr.get];rfl,h⟩
 case h_2 x t=>
  split at h
  case h_1 q eq=>
   obtain ⟨p,rfl,h1⟩:=optA_ok h
   obtain ⟨v,hv,hK⟩:=loadVar_ok (K:=fun v _=>K v) h1
   refine ⟨v,?_,hK⟩
   simp only [hr.get,eq,asAddr,Sem.run_bind,Sem.run_pure,Result.andThen_ok,hv]
  case h_2=>cases h
theorem vcResults_ok {n:Nat} {e:Env} {a:Act} {w:World} (hr:Rep n e a):∀ {rs:List ResultVar} {K:List Value→Prop},vcResults P e w rs K →
  ∃ vs,(rs.mapM (fun (r:ResultVar)=>(match r with | .tmp t=>(pure (a.tmps.getD t undef):Sem Value) | .cell x t=>do loadVar t (← asAddr (a.tmps.getD x undef)))):Sem (List Value)).run P w=Result.ok vs w∧K vs
 | [],K,h=>⟨[],rfl,h⟩
 | r::rs,K,h=>by
  obtain ⟨v,hv,h⟩:=vcResult_ok hr h
  obtain ⟨vs,hvs,h⟩:=vcResults_ok hr h
  refine ⟨v::vs,?_,h⟩
  simp only [List.mapM_cons,Sem.run_bind,hv,Result.andThen_ok,hvs,Sem.run_pure]
theorem z0z {f:FuncId} {fn:Func} {p:Plan} {args:List Value} {w:World} {K:Value→World→Prop} (hm:P.follows .mixedOrders=true) (hf:P.funcs[f]? = some fn)
  (h:vcFunc P fn p args w K):Ret P f args.toArray w K:=by
 unfold vcFunc at h
 split at h
 case h_1=>cases h
 case h_2 c hb=>
  split at h
  case h_1=>cases h
  case h_2 hle=>
   have hle':args.length≤fn.ntmps:=Nat.le_of_ble_eq_true hle
   refine calls_of_wp hf hb (wp_mono (vcCode_sound hm c p _ _ w _ (rep_enter hle') h) ?_)
   rintro ex a' w' ⟨e',hr,hq,_⟩
   have fin:vcResults P e' w' fn.results.toList (fun vs=>K (oneOf vs) w')→a'.defers=[]∧∃ v,(results fn a'.tmps).run P w'=.ok v w'∧∃ u,Ending.returned v=.returned u∧K u w':=fun h=>by
    obtain ⟨vs,hvs,hK⟩:=vcResults_ok hr h
    refine ⟨hr.defers,oneOf vs,?_,_,rfl,hK⟩
    unfold results
    simp only [Array.mapM_eq_mapM_toList,Sem.run_bind,Sem.run_map,Sem.run_pure]
    have hvs':=congrArg (fun r=>(Result.andThen r fun a w'=>Result.ok a.toArray w').andThen fun (a:Array Value) w'=>Result.ok (if h:a.size=1 then a[0] else Value.tuple a) w') hvs
    refine hvs'.trans ?_
    simp only [Result.andThen_ok]
    congr 1
    match vs with
    | []=>rfl
    | [v]=>rfl
    | v::u::l=>rfl
   cases ex with
   | normal=>exact fin hq
   | ret=>exact fin hq
   | exit i=>exact hq.elim
   | goto l=>exact hq.elim
   | panic l=>exact hq.elim
   | outgrown=>exact hq.elim
end
end Vc
namespace Vc
theorem z2z (b o n:Nat):(⟨b,o,none⟩:Addr).add n=⟨b,o+n,none⟩:=by
 unfold Addr.add
 split
 ·rename_i h;subst h;rfl
 ·rfl
theorem wI {x:Int} (h1:-9223372036854775808≤x) (h2:x≤9223372036854775807):IntKind.i64.wrap x=x:=IntWalk.i64_in x ⟨h1,h2⟩
theorem wU {x:Int} (h1:0≤x) (h2:x≤18446744073709551615):IntKind.u64.wrap x=x:=IntWalk.u64_in x ⟨h1,h2⟩
theorem wB {x:Int} (h1:0≤x) (h2:x≤255):IntKind.u8.wrap x=x:=IntWalk.u8_in x ⟨h1,h2⟩
structure Fr (S:Nat→Prop) (w w':World):Prop where
 os:w'.os=w.os
 tape:w'.tape=w.tape
 output:w'.output=w.output
 size:w.heap.size≤w'.heap.size
 block:∀ k,k<w.heap.size→¬ S k→w'.heap[k]? = w.heap[k]?
def none1:Nat→Prop:=fun _=>False
def only (b:Nat):Nat→Prop:=fun k=>k=b
theorem Fr.refl (S:Nat→Prop) (w:World):Fr S w w:=⟨rfl,rfl,rfl,Nat.le_refl _,fun _ _ _=>rfl⟩
theorem Fr.comp {S T:Nat→Prop} {a b c:World} (h:Fr S a b) (k:Fr T b c) (hT:∀ x,x<a.heap.size→T x→S x):Fr S a c:=
 ⟨k.os.trans h.os,k.tape.trans h.tape,k.output.trans h.output,Nat.le_trans h.size k.size,
  fun i hi hn=>(k.block i (Nat.lt_of_lt_of_le hi h.size) (fun t=>hn (hT i hi t))).trans (h.block i hi hn)⟩
theorem Fr.trans {S:Nat→Prop} {a b c:World} (h:Fr S a b) (k:Fr S b c):Fr S a c:=h.comp k fun _ _ t=>t
theorem Fr.mono {S T:Nat→Prop} {a b:World} (h:Fr S a b) (hT:∀ x,x<a.heap.size→S x→T x):Fr T a b:=
 ⟨h.os,h.tape,h.output,h.size,fun i hi hn=>h.block i hi (fun t=>hn (hT i hi t))⟩
theorem Fr.then0 {S:Nat→Prop} {a b c:World} (h:Fr S a b) (k:Fr none1 b c):Fr S a c:=h.comp k fun _ _ t=>t.elim
theorem Fr.of0 {S:Nat→Prop} {a b c:World} (h:Fr none1 a b) (k:Fr S b c):Fr S a c:=(h.mono fun _ _ t=>t.elim).trans k
theorem z3z {w:World} {b:Nat} {o:Obj} (h:w.heap[b]? = some o):b<w.heap.size:=(Array.getElem?_eq_some_iff.1 h).1
theorem Fr.keep {S:Nat→Prop} {w w':World} (f:Fr S w w') {b:Nat} {o:Obj} (h:w.heap[b]? = some o) (hn:¬ S b):w'.heap[b]? = some o:=by
 rw [f.block b (z3z h) hn];exact h
theorem Fr.keep0 {w w':World} (f:Fr none1 w w') {b:Nat} {o:Obj} (h:w.heap[b]? = some o):w'.heap[b]? = some o:=f.keep h (fun t=>t)
theorem Fr.keep1 {c:Nat} {w w':World} (f:Fr (only c) w w') {b:Nat} {o:Obj} (h:w.heap[b]? = some o) (hn:b≠c):w'.heap[b]? = some o:=f.keep h hn
theorem Fr.below {w w':World} (f:Fr none1 w w'):Go.RowKit.Below w.heap.size w w':=⟨f.os,f.tape,f.output,f.size,fun k hk=>f.block k hk (fun t=>t)⟩
theorem Fr.fresh {b:Nat} {a w w':World} (h:Fr none1 a w) (k:Fr (only b) w w') (hb:a.heap.size≤b):Fr none1 a w':=
 h.comp k fun x hx t=>by have:x=b:=t;omega
theorem heap_setCell_same {w:World} {b i:Nat} {v:Value} {cs:Array Value} {T:TypeId} {fr:Nat×Nat} (hb:w.heap[b]? = some (.cells cs T fr)) :
  (w.setCell ⟨b,i,none⟩ v).heap[b]? = some (.cells (cs.setIfInBounds i v) T fr):=by
 simp [World.setCell,Array.getElem?_modify,hb]
theorem setCell_fr (w:World) (b i:Nat) (v:Value):Fr (only b) w (w.setCell ⟨b,i,none⟩ v):=
 ⟨rfl,rfl,rfl,by simp [World.setCell],fun k _ hn=>Go.RowKit.Below.heap_setCell _ _ _ _ hn⟩
theorem z27z {w:World} {b i:Nat} {cs:Array Value} {T:TypeId} {fr:Nat×Nat} (hb:w.heap[b]? = some (.cells cs T fr)):w.cell? ⟨b,i,none⟩=cs[i]? := by
 simp [World.cell?,hb]
theorem frozen_blk {w:World} {b i:Nat} {cs:Array Value} {T:TypeId} (hb:w.heap[b]? = some (.cells cs T (0,0))):w.frozen? ⟨b,i,none⟩=false:=by
 simp [World.frozen?,hb]
theorem LdK.of {c:Ck} {b i:Nat} {w:World} {K:c.C→Prop} {cs:Array Value} {T:TypeId} {fr:Nat×Nat} {x:c.C} (hb:w.heap[b]? = some (.cells cs T fr)) (hx:cs[i]? = some (c.val x)) (h:K x) :
  LdK c ⟨b,i,none⟩ w K:=⟨x,by rw [z27z hb,hx],h⟩
theorem LdK.fld {c:Ck} {b i n:Nat} {w:World} {K:c.C→Prop} {cs:Array Value} {T:TypeId} {fr:Nat×Nat} {x:c.C} (hb:w.heap[b]? = some (.cells cs T fr)) (hx:cs[i+n]? = some (c.val x)) (h:K x) :
  LdK c ((⟨b,i,none⟩:Addr).add n) w K:=by rw [z2z];exact LdK.of hb hx h
theorem StK.of {b i:Nat} {v:Value} {w:World} {K:World→Prop} {cs:Array Value} {T:TypeId} (hb:w.heap[b]? = some (.cells cs T (0,0))) (hi:i<cs.size) (h1:one1 v=true)
  (h:∀ w1,w1.heap[b]? = some (.cells (cs.setIfInBounds i v) T (0,0))→Fr (only b) w w1→w1.heap.size=w.heap.size→K w1):StK ⟨b,i,none⟩ v w K:=
 ⟨h1,by rw [z27z hb];simp [hi],frozen_blk hb,h _ (heap_setCell_same hb) (setCell_fr _ _ _ _) (by simp [World.setCell])⟩
theorem StK.fld {b i n:Nat} {v:Value} {w:World} {K:World→Prop} {cs:Array Value} {T:TypeId} (hb:w.heap[b]? = some (.cells cs T (0,0))) (hi:i+n<cs.size) (h1:one1 v=true)
  (h:∀ w1,w1.heap[b]? = some (.cells (cs.setIfInBounds (i+n) v) T (0,0))→Fr (only b) w w1→w1.heap.size=w.heap.size→K w1):StK ((⟨b,i,none⟩:Addr).add n) v w K:=by
 rw [z2z];exact StK.of hb hi h1 h
theorem push_fr (w:World) (o:Obj):Fr none1 w { w with heap:=w.heap.push o }:=
 ⟨rfl,rfl,rfl,by simp,fun k hk _=>by
  show (w.heap.push o)[k]? = _
  rw [Array.getElem?_push,if_neg (by omega)]⟩
theorem NewK.of {o:Obj} {w:World} {K:Nat→World→Prop} (h:∀ g w1,w.heap.size=g→w1.heap[g]? = some o→Fr none1 w w1→w1.heap.size=g+1→K g w1):NewK o w K:=
 ⟨h _ _ rfl (by simp) (push_fr w o) (by simp)⟩
theorem DrewK.of {w:World} {K:World→Prop} (h:∀ w1,w1.heap=w.heap→Fr none1 w w1→K w1):DrewK w K:=⟨h _ rfl ⟨rfl,rfl,rfl,Nat.le_refl _,fun _ _ _=>rfl⟩⟩
theorem CallK.of {P:Program} {f:FuncId} {args:Array Value} {w:World} {k:Rk} {K:k.C→World→Prop} {R:Value→World→Prop} (c:Ret P f args w R) (h:∀ v w',R v w'→∃ x,v=k.val x∧K x w') :
  CallK P f args w k K:=⟨c.mono fun _ w' ⟨v,he,hv⟩=>⟨v,he,h v w' hv⟩⟩
theorem Ret.mono {P:Program} {f:FuncId} {args:Array Value} {w:World} {R R':Value→World→Prop} (c:Ret P f args w R) (h:∀ v w',R v w'→R' v w'):Ret P f args w R':=
 Calls.mono c fun _ w' ⟨v,he,hv⟩=>⟨v,he,h v w' hv⟩
theorem ifB.t {b:Bool} {A B:Prop} (h:b=true) (k:A):ifB b A B:=by subst h;exact k
theorem ifB.f {b:Bool} {A B:Prop} (h:b=false) (k:B):ifB b A B:=by subst h;exact k
theorem ifB.by {b:Bool} {A B:Prop} (h:b=true→A) (k:b=false→B):ifB b A B:=by cases b;exact k rfl;exact h rfl
theorem ifB.yes {p:Prop} [Decidable p] {A B:Prop} (h:p) (k:A):ifB (decide p) A B:=ifB.t (decide_eq_true h) k
theorem ifB.no {p:Prop} [Decidable p] {A B:Prop} (h:¬ p) (k:B):ifB (decide p) A B:=ifB.f (decide_eq_false h) k
theorem ifB.dec {p:Prop} [Decidable p] {A B:Prop} (h:p→A) (k:¬ p→B):ifB (decide p) A B:=ifB.by (fun e=>h (of_decide_eq_true e)) (fun e=>k (of_decide_eq_false e))
theorem ifB.eq {α:Type} [BEq α] [LawfulBEq α] {a b:α} {A B:Prop} (h:a=b→A) (k:a≠b→B):ifB (a==b) A B:=ifB.by (fun e=>h (eq_of_beq e)) (fun e=>k (fun x=>by subst x;simp at e))
theorem ifB.ne {α:Type} [BEq α] [LawfulBEq α] {a b:α} {A B:Prop} (h:a≠b→A) (k:a=b→B):ifB (a != b) A B:=by
 by_cases e:a=b
 ·exact ifB.f (by simp [e]) (k e)
 ·exact ifB.t (by simp [e]) (h e)
theorem ifB.not {b:Bool} {A B:Prop} (h:ifB b B A):ifB (!b) A B:=by cases b<;>exact h
theorem LoopK.of {σ:Type} {body:(Nat→Value)→σ→World→(σ→World→Prop)→Prop} {s:σ} {w:World} (I:σ→World→Prop) (μ:σ→World→Nat) (h0:I s w)
  (h:∀ b s w,I s w→body b s w fun s' w'=>I s' w'∧μ s' w'<μ s w):LoopK σ body s w:=⟨I,μ,h0,h⟩
theorem JoinK.of {σ:Type} {first:(σ→World→Prop)→Prop} {rest:(Nat→Value)→σ→World→Prop} (J:σ→World→Prop) (h1:first J) (h2:∀ b s w,J s w→rest b s w):JoinK σ first rest:=⟨J,h1,h2⟩
theorem z12z {w:World} {b:Nat} {cs:Array Value} {T:TypeId} {fr:Nat×Nat} (hb:w.heap[b]? = some (.cells cs T fr)):∀ (vs:List Value) (i:Nat),(∀ j,j<vs.length→cs[i+j]? = vs[j]?)→CellsAt w ⟨b,0,none⟩ i vs
 | [],_,_=>trivial
 | v::vs,i,h=>by
  refine ⟨?_,z12z hb vs (i+1) fun j hj=>?_⟩
  ·rw [z2z,z27z hb]
   have:=h 0 (by simp)
   simpa using this
  ·have:=h (j+1) (by simp;omega)
   rw [show i+1+j=i+(j+1) by omega,this]
   simp
theorem LdsK.blk {cks:List Ck} {b:Nat} {w:World} {K:Cs cks→Prop} {T:TypeId} {fr:Nat×Nat} {x:Cs cks} (hb:w.heap[b]? = some (.cells (Cs.vals cks x).toArray T fr)) (h:K x):LdsK cks ⟨b,0,none⟩ w K:=
 ⟨x,z12z hb _ 0 fun j _=>by simp,h⟩
theorem z19z {b:Nat} {T:TypeId}:∀ (vs:List Value) (w:World) (pre cs:List Value),w.heap[b]? = some (.cells (pre++cs).toArray T (0,0))→cs.length=vs.length→vs.all one1=true →
  Writes w ⟨b,0,none⟩ pre.length vs∧(setCells w ⟨b,0,none⟩ pre.length vs).heap[b]? = some (.cells (pre++vs).toArray T (0,0))∧Fr (only b) w (setCells w ⟨b,0,none⟩ pre.length vs)∧(setCells w ⟨b,0,none⟩ pre.length vs).heap.size=w.heap.size
 | [],w,pre,cs,hb,hl,_=>by
  have:cs=[]:=by simpa using hl
  subst this
  exact ⟨trivial,hb,Fr.refl _ _,rfl⟩
 | v::vs,w,pre,cs,hb,hl,h1=>by
  cases cs with
  | nil=>simp at hl
  | cons c cs=>
   simp only [List.all_cons,Bool.and_eq_true] at h1
   have hs:=heap_setCell_same (i:=0+pre.length) (v:=v) hb
   have hs':(w.setCell ⟨b,0+pre.length,none⟩ v).heap[b]? = some (.cells ((pre++[v])++cs).toArray T (0,0)):=by
    rw [hs]
    congr 2
    apply Array.ext'
    simp
   obtain ⟨a1,a2,a3,a4⟩:=z19z vs (w.setCell ⟨b,0+pre.length,none⟩ v) (pre++[v]) cs hs' (by simpa using hl) h1.2
   rw [List.length_append,List.length_singleton] at a1 a2 a3 a4
   unfold Writes setCells
   rw [z2z]
   refine ⟨⟨h1.1,by rw [z27z hb];simp,frozen_blk hb,a1⟩,by rw [a2];simp,(setCell_fr w b _ v).trans a3,by rw [a4];simp [World.setCell]⟩
theorem StsK.blk {b:Nat} {vs:List Value} {w:World} {K:World→Prop} {cs:List Value} {T:TypeId} (hb:w.heap[b]? = some (.cells cs.toArray T (0,0))) (hl:cs.length=vs.length) (h1:vs.all one1=true)
  (h:∀ w1,w1.heap[b]? = some (.cells vs.toArray T (0,0))→Fr (only b) w w1→w1.heap.size=w.heap.size→K w1):StsK ⟨b,0,none⟩ vs w K:=by
 obtain ⟨a1,a2,a3,a4⟩:=z19z vs w [] cs hb hl h1
 exact ⟨a1,h _ a2 a3 a4⟩
def IsInts (k:IntKind) (w:World) (a:Option Addr) (len cap:Nat) (zs:List Int):Prop:=
 (a=none∧len=0∧cap=0∧zs=[]) ∨
 ∃ x,a=some x∧len≤cap∧cap≤maxLen∧zs.length=cap∧(∀ i,i<zs.length→w.cell? (x.add i)=some (.int k (zs.getD i 0)))∧∀ n∈zs,(Lit.int k n).wf=true
def IsStrs (w:World) (a:Option Addr) (len cap:Nat) (zs:List ByteArray):Prop:=
 (a=none∧len=0∧cap=0∧zs=[]) ∨
 ∃ x,a=some x∧len≤cap∧cap≤maxLen∧zs.length=cap∧(∀ i,i<zs.length→w.cell? (x.add i)=some (.string (zs.getD i ByteArray.empty)))∧∀ s∈zs,s.size≤maxLen
theorem blk_of_cell {w:World} {p:Addr} {v:Value} (h:w.cell? p=some v):p.block<w.heap.size:=by
 unfold World.cell? at h
 split at h
 ·rename_i hb;exact z3z hb
 ·cases h
theorem Fr.cell {S:Nat→Prop} {w w':World} (f:Fr S w w') {p:Addr} {v:Value} (h:w.cell? p=some v) (hn:¬ S p.block):w'.cell? p=some v:=by
 have hb:=f.block p.block (blk_of_cell h) hn
 unfold World.cell? at h ⊢
 rw [hb];exact h
theorem Fr.cell0 {w w':World} (f:Fr none1 w w') {p:Addr} {v:Value} (h:w.cell? p=some v):w'.cell? p=some v:=f.cell h (fun t=>t)
theorem Fr.kept {S T:Nat→Prop} {w w':World} (f:Fr T w w') (h:∀ k,S k→¬ T k):Kept S w w':=fun _ _ hs hc=>f.cell hc (h _ hs)
theorem KeepK.on {S T:Nat→Prop} {w w':World} {K:Prop} (f:Fr T w w') (h:∀ k,S k→¬ T k) (k:K):KeepK S w w' K:=⟨f.kept h,k⟩
theorem KeepK.of {S:Nat→Prop} {w w':World} {K:Prop} (f:Fr none1 w w') (k:K):KeepK S w w' K:=⟨f.kept fun _ _ t=>t,k⟩
def all1:Nat→Prop:=fun _=>True
theorem HoldK.all {body:(Nat→Prop)→Prop} (h:body all1):HoldK body:=⟨all1,h⟩
theorem HoldK.of {body:(Nat→Prop)→Prop} (S:Nat→Prop) (h:body S):HoldK body:=⟨S,h⟩
theorem InK.all {p:Addr} {K:Prop} (k:K):InK all1 p K:=⟨trivial,k⟩
theorem LdK.cell {c:Ck} {p:Addr} {w:World} {K:c.C→Prop} {x:c.C} (h:w.cell? p=some (c.val x)) (k:K x):LdK c p w K:=⟨x,h,k⟩
theorem IsInts.ld {k:IntKind} {w w':World} {a:Option Addr} {len cap:Nat} {zs:List Int} (h:IsInts k w a len cap zs) (f:Fr none1 w w') {i:Int} (h0:0≤i) (h1:i<len) {K:Int→Prop}
  (hK:K (zs.getD i.toNat 0)):IdxK a len i 1 fun p=>LdK (.int k) p w' K:=by
 rcases h with ⟨_,rfl,_,_⟩ | ⟨x,rfl,hl,hc,hz,hcell,_⟩
 ·omega
 ·refine ⟨x,rfl,h0,h1,?_⟩
  rw [Nat.mul_one]
  exact LdK.cell (f.cell0 (hcell i.toNat (by omega))) hK
theorem IsStrs.ld {w w':World} {a:Option Addr} {len cap:Nat} {zs:List ByteArray} (h:IsStrs w a len cap zs) (f:Fr none1 w w') {i:Int} (h0:0≤i) (h1:i<len) {K:ByteArray→Prop}
  (hK:K (zs.getD i.toNat ByteArray.empty)):IdxK a len i 1 fun p=>LdK .str p w' K:=by
 rcases h with ⟨_,rfl,_,_⟩ | ⟨x,rfl,hl,hc,hz,hcell,_⟩
 ·omega
 ·refine ⟨x,rfl,h0,h1,?_⟩
  rw [Nat.mul_one]
  exact LdK.cell (f.cell0 (hcell i.toNat (by omega))) hK
end Vc
open Vc
theorem wrapU (m:Int):IntKind.u64.wrap m=m % 18446744073709551616:=by
 simp [IntKind.wrap,IntKind.signed,IntKind.bits]
theorem wrapU_nat (m:Nat):IntKind.u64.wrap (m:Int)=((m % 18446744073709551616:Nat):Int):=by
 rw [wrapU];omega
theorem ofInt_nat (m:Nat):(BitVec.ofInt 64 (m:Int)).toNat=m % 18446744073709551616:=by
 rw [BitVec.toNat_ofInt]
 show ((m:Int) % ((18446744073709551616:Nat):Int)).toNat=_
 omega
theorem shl_nat (x k:Nat) (hk:k<64):IntKind.u64.wrap ((x:Int) * 2 ^ (min k 64))=((x * 2 ^ k % 18446744073709551616:Nat):Int):=by
 have e1:((x:Int) * 2 ^ (min k 64))=((x * 2 ^ k:Nat):Int):=by
  rw [Nat.min_eq_left (by omega)];norm_cast
 rw [e1,wrapU_nat]
theorem or_nat (a b:Nat) (ha:a<18446744073709551616) (hb:b<18446744073709551616):IntKind.u64.wrap ((BitVec.ofInt 64 (a:Int) ||| BitVec.ofInt 64 (b:Int)).toNat:Int)=((a ||| b:Nat):Int):=by
 rw [wrapU_nat,BitVec.toNat_or,ofInt_nat,ofInt_nat,Nat.mod_eq_of_lt ha,Nat.mod_eq_of_lt hb]
 have:=Nat.or_lt_two_pow (x:=a) (y:=b) (n:=64) ha hb
 rw [Nat.mod_eq_of_lt this]
theorem fdiv_nat (x k:Nat) (hk:k<64):Int.fdiv (x:Int) (2 ^ (min k 64))=((x / 2 ^ k:Nat):Int):=by
 have e:(2:Int) ^ (min k 64)=((2 ^ k:Nat):Int):=by
  rw [Nat.min_eq_left (by omega)];norm_cast
 rw [e,Int.fdiv_eq_ediv_of_nonneg _ (Int.natCast_nonneg _)]
 rfl
namespace Vc
variable {P:Program}
abbrev Sl:=Option Addr×Nat×Nat
def blkOf (v:Sl):Nat→Prop:=fun k=>∃ a,v.1=some a∧k=a.block
def IsSl (w:World) (E s:Nat) (v:Sl) (xs:List Value):Prop:=
 (v=(none,0,0)∧xs=[]) ∨
 ∃ g off cs,v.1=some ⟨g,off,none⟩∧w.heap[g]? = some (.cells cs E (0,0))∧v.2.1≤v.2.2∧off+v.2.2 * s≤cs.size∧xs.length=v.2.1 * s∧∀ i,i<xs.length→cs[off+i]? = xs[i]?
theorem IsSl.keep {w w':World} {E s:Nat} {v:Sl} {xs:List Value} (h:IsSl w E s v xs) {S:Nat→Prop} (f:Fr S w w') (hn:∀ k,blkOf v k→¬ S k):IsSl w' E s v xs:=by
 rcases h with h | ⟨g,off,cs,h1,h2,h3⟩
 ·exact .inl h
 ·exact .inr ⟨g,off,cs,h1,f.keep h2 (hn g ⟨_,h1,rfl⟩),h3⟩
theorem IsSl.keep0 {w w':World} {E s:Nat} {v:Sl} {xs:List Value} (h:IsSl w E s v xs) (f:Fr none1 w w'):IsSl w' E s v xs:=h.keep f (fun _ _ t=>t)
theorem IsSl.lt {w:World} {E s:Nat} {v:Sl} {xs:List Value} (h:IsSl w E s v xs) {k:Nat} (hk:blkOf v k):k<w.heap.size:=by
 obtain ⟨a,ha,rfl⟩:=hk
 rcases h with ⟨rfl,_⟩ | ⟨g,off,cs,h1,h2,h3⟩
 ·cases ha
 ·rw [h1] at ha;injection ha with ha;subst ha;exact z3z h2
theorem IsSl.len {w:World} {E s:Nat} {v:Sl} {xs:List Value} (h:IsSl w E s v xs):xs.length=v.2.1 * s:=by
 rcases h with ⟨rfl,rfl⟩ | ⟨g,off,cs,h1,h2,h3,h4,h5,h6⟩
 ·simp
 ·exact h5
theorem IsSl.ld {w:World} {E:Nat} {v:Sl} {xs:List Value} (h:IsSl w E 1 v xs) {c:Ck} {K:c.C→Prop} {i:Int} (h0:0≤i) (h1:i<v.2.1) {x:c.C} (hx:xs[i.toNat]? = some (c.val x)) (k:K x) :
  IdxK v.1 v.2.1 i 1 fun p=>LdK c p w K:=by
 rcases h with ⟨rfl,rfl⟩ | ⟨g,off,cs,hv,hb,hl,hc,hn,he⟩
 ·simp at hx
 ·refine ⟨_,hv,h0,h1,?_⟩
  rw [z2z]
  refine LdK.of hb ?_ k
  rw [Nat.mul_one,he i.toNat (by rw [hn];omega)]
  exact hx
theorem cellsAt_blk {w:World} {g:Nat} {cs:Array Value} {T:TypeId} {fr:Nat×Nat} (hb:w.heap[g]? = some (.cells cs T fr)):∀ (vs:List Value) (off i:Nat),(∀ j,j<vs.length→cs[off+i+j]? = vs[j]?)→CellsAt w ⟨g,off,none⟩ i vs
 | [],_,_,_=>trivial
 | v::vs,off,i,h=>by
  refine ⟨?_,cellsAt_blk hb vs off (i+1) fun j hj=>?_⟩
  ·rw [z2z,z27z hb]
   have:=h 0 (by simp)
   simpa using this
  ·have:=h (j+1) (by simp;omega)
   rw [show off+(i+1)+j=off+i+(j+1) by omega,this]
   simp
theorem IsSl.first {w:World} {E s:Nat} {v:Sl} {xs:List Value} (h:IsSl w E s v xs):(Builtin.firstCells s v.2.1 (.slice v.1 v.2.1 v.2.2)).run P w=.ok xs.toArray w:=by
 rcases h with ⟨rfl,rfl⟩ | ⟨g,off,cs,hv,hb,hl,hc,hn,he⟩
 ·rfl
 ·rw [hv]
  simp only [Builtin.firstCells]
  rw [← hn]
  exact z31z xs (cellsAt_blk hb xs off 0 fun j hj=>by rw [Nat.add_zero];exact he j hj)
def RdSl (w:World) (s:Nat) (v:Sl) (xs:List Value):Prop:=xs.length=v.2.1 * s∧(v.1=none→v.2.1=0∧v.2.2=0∧xs=[])∧∀ a,v.1=some a→CellsAt w a 0 xs
theorem IsSl.rd {w:World} {E s:Nat} {v:Sl} {xs:List Value} (h:IsSl w E s v xs):RdSl w s v xs:=by
 refine ⟨h.len,fun hn=>?_,fun a ha=>?_⟩
 ·rcases h with ⟨rfl,rfl⟩ | ⟨g,off,cs,hv,_⟩
  ·exact ⟨rfl,rfl,rfl⟩
  ·rw [hv] at hn;cases hn
 ·rcases h with ⟨rfl,rfl⟩ | ⟨g,off,cs,hv,hb,hl,hc,hn,he⟩
  ·trivial
  ·rw [hv] at ha;injection ha with ha;subst ha
   exact cellsAt_blk hb xs off 0 fun j hj=>by rw [Nat.add_zero];exact he j hj
theorem cellsAt_keep {w w':World} {S:Nat→Prop} (f:Fr S w w') {a:Addr} (hn:¬ S a.block):∀ (vs:List Value) (i:Nat),CellsAt w a i vs→CellsAt w' a i vs
 | [],_,_=>trivial
 | v::vs,i,⟨h1,h2⟩=>⟨f.cell h1 (by unfold Addr.add;split<;>exact hn),cellsAt_keep f hn vs (i+1) h2⟩
theorem RdSl.keep {w w':World} {s:Nat} {v:Sl} {xs:List Value} (h:RdSl w s v xs) {S:Nat→Prop} (f:Fr S w w') (hn:∀ k,blkOf v k→¬ S k):RdSl w' s v xs:=
 ⟨h.1,h.2.1,fun a ha=>cellsAt_keep f (hn _ ⟨a,ha,rfl⟩) _ _ (h.2.2 a ha)⟩
theorem RdSl.keep0 {w w':World} {s:Nat} {v:Sl} {xs:List Value} (h:RdSl w s v xs) (f:Fr none1 w w'):RdSl w' s v xs:=h.keep f (fun _ _ t=>t)
theorem RdSl.first {w:World} {s:Nat} {v:Sl} {xs:List Value} (h:RdSl w s v xs):(Builtin.firstCells s v.2.1 (.slice v.1 v.2.1 v.2.2)).run P w=.ok xs.toArray w:=by
 obtain ⟨h1,h2,h3⟩:=h
 cases hv:v.1 with
 | none=>
  obtain ⟨_,_,rfl⟩:=h2 hv
  rfl
 | some a=>
  simp only [Builtin.firstCells]
  rw [← h1]
  exact z31z xs (h3 a hv)
theorem cellsAt_get {w:World} {a:Addr}:∀ (vs:List Value) (i j:Nat) (v:Value),CellsAt w a i vs→vs[j]? = some v→w.cell? (a.add (i+j))=some v
 | [],_,_,_,_,h=>by simp at h
 | u::vs,i,0,v,⟨h1,_⟩,h=>by simp at h;subst h;exact h1
 | u::vs,i,j+1,v,⟨_,h2⟩,h=>by
  have:=cellsAt_get vs (i+1) j v h2 (by simpa using h)
  rw [show i+(j+1)=i+1+j by omega];exact this
theorem RdSl.ld {w:World} {v:Sl} {xs:List Value} (h:RdSl w 1 v xs) {c:Ck} {K:c.C→Prop} {i:Int} (h0:0≤i) (h1:i<v.2.1) {x:c.C} (hx:xs[i.toNat]? = some (c.val x)) (k:K x) :
  IdxK v.1 v.2.1 i 1 fun p=>LdK c p w K:=by
 obtain ⟨q1,q2,q3⟩:=h
 cases hv:v.1 with
 | none=>have:=(q2 hv).1;omega
 | some a=>
  refine ⟨a,rfl,h0,h1,?_⟩
  have:=cellsAt_get xs 0 i.toNat _ (q3 a hv) hx
  rw [Nat.mul_one]
  rw [Nat.zero_add] at this
  exact LdK.cell this k
theorem writes_blk {g:Nat} {T:TypeId}:∀ (vs:List Value) (w:World) (cs:Array Value) (off i:Nat),w.heap[g]? = some (.cells cs T (0,0))→off+i+vs.length≤cs.size→(∀ v∈vs,one1 v=true) →
  Writes w ⟨g,off,none⟩ i vs∧∃ cs',(setCells w ⟨g,off,none⟩ i vs).heap[g]? = some (.cells cs' T (0,0))∧cs'.size=cs.size∧(∀ j,j<vs.length→cs'[off+i+j]? = vs[j]?)∧(∀ j,j<off+i→cs'[j]? = cs[j]?) ∧
   Fr (only g) w (setCells w ⟨g,off,none⟩ i vs)∧(setCells w ⟨g,off,none⟩ i vs).heap.size=w.heap.size
 | [],w,cs,off,i,hb,_,_=>⟨trivial,cs,hb,rfl,fun j hj=>by simp at hj,fun _ _=>rfl,Fr.refl _ _,rfl⟩
 | v::vs,w,cs,off,i,hb,hl,h1=>by
  simp only [List.length_cons] at hl
  have hs:=heap_setCell_same (i:=off+i) (v:=v) hb
  have hf:=setCell_fr w g (off+i) v
  obtain ⟨hw,cs',a1,a2,a3,a4,a5,a6⟩:=writes_blk vs (w.setCell ⟨g,off+i,none⟩ v) _ off (i+1) hs (by simp;omega) (fun u hu=>h1 u (by simp [hu]))
  unfold Writes setCells
  rw [z2z]
  refine ⟨⟨h1 v (by simp),by rw [z27z hb];simp;omega,frozen_blk hb,hw⟩,cs',a1,by rw [a2];simp,fun j hj=>?_,fun j hj=>?_,hf.trans a5,by rw [a6];simp [World.setCell]⟩
  ·cases j with
   | zero=>
    have:=a4 (off+i) (by omega)
    simp only [Nat.add_zero,this]
    rw [Array.getElem?_setIfInBounds_self_of_lt (by omega)]
    rfl
   | succ j=>
    have:=a3 j (by simp at hj;omega)
    rw [show off+i+(j+1)=off+(i+1)+j by omega,this];simp
  ·rw [a4 j (by omega)]
   rw [Array.getElem?_setIfInBounds_ne (by omega)]
theorem growBy_le (n:Nat):∀ (r c:Nat),c≤2 * n+192→Builtin.growBy n r c≤2 * n+192
 | 0,c,h=>h
 | r+1,c,h=>by
  unfold Builtin.growBy
  split
  ·exact h
  ·exact growBy_le n r _ (by omega)
theorem nextcap_le {n c:Nat} (h:c<n):Builtin.nextslicecap n c≤2 * n+192:=by
 unfold Builtin.nextslicecap
 split
 ·omega
 ·split
  ·omega
  ·exact growBy_le n 4 c (by omega)
structure ElemOk (P:Program) (t E s:Nat) (z:Value) (bytes:Nat):Prop where
 under:P.underlying t=some (.slice E)
 info:∃ i,P.info? E=some i∧i.size=s∧i.zero=some z∧i.bytes=bytes
 cells:z.cells.size=s
 pos:0<bytes
theorem drew_fr (w:World):Fr none1 w { w with drawn:=w.drawn+1 }:=⟨rfl,rfl,rfl,Nat.le_refl _,fun _ _ _=>rfl⟩
theorem append_gen {w:World} {t t2 E s bytes n:Nat} {z yv:Value} {x:Sl} {xs ys:List Value} (he:ElemOk P t E s z bytes) (o:TypeId) (hu2:∃ d,P.underlying t2=some d∧(d=.string∨∃ E2,d=.slice E2)) (hx:IsSl w E s x xs)
  (hyn:ys.length=n * s) (hlenv:∀ w,(Builtin.lenOf yv).run P w=.ok n w) (hfst:∀ w',Fr none1 w w'→(Builtin.firstCells s n yv).run P w'=.ok ys.toArray w') (h1:∀ v∈ys,one1 v=true)
  (hb:(2 * (x.2.1+n)+192) * bytes≤2 ^ 48) :
  ∃ v w',(Builtin.append_ #[t,t2] o #[.slice x.1 x.2.1 x.2.2,yv]).run P w=.ok (.slice v.1 v.2.1 v.2.2) w'∧IsSl w' E s v (xs++ys)∧v.2.1=x.2.1+n∧Fr (blkOf x) w w' ∧
   (∀ k,blkOf v k→blkOf x k∨w.heap.size≤k):=by
 obtain ⟨hu,⟨i,hi,hs,hz,hby⟩,hc,hpos⟩:=he
 unfold Builtin.append_
 obtain ⟨d2,hu2,hd2⟩:=hu2
 have hsize:∀ w,(sizeOf E).run P w=.ok s w:=fun w=>by rw [sizeof hi,hs]
 rcases hd2 with rfl | ⟨E2,rfl⟩
 all_goals
  simp only [Sem.run_bind,under hu,under hu2,Result.andThen_ok,hsize,List.getElem?_toArray,List.getElem?_cons_zero,List.getElem?_cons_succ,Sem.run_pure,Bool.false_eq_true,if_false,hlenv]
  by_cases hroom:x.2.1+n≤x.2.2
  ·rw [if_pos hroom]
   simp only [Bool.not_false,if_true,Sem.run_bind,hfst w (Fr.refl _ _),Result.andThen_ok]
   rcases hx with ⟨rfl,rfl⟩ | ⟨g,off,cs,hv,hbk,hl,hcp,hn,hel⟩
   ·have hy0:n=0:=by simp at hroom;omega
    have hys:ys=[]:=by have:=hyn;rw [hy0] at this;simpa using this
    subst hys
    refine ⟨(none,0,0),w,by simp [hy0],.inl ⟨rfl,rfl⟩,by simp [hy0],Fr.refl _ _,fun k ⟨a,ha,_⟩=>by cases ha⟩
   ·have hyl:=hyn
    have hmul:(x.2.1+n) * s≤x.2.2 * s:=Nat.mul_le_mul_right _ hroom
    rw [Nat.add_mul] at hmul
    obtain ⟨hw,cs',a1,a2,a3,a4,a5,a6⟩:=writes_blk ys w cs (off+x.2.1 * s) 0 hbk (by omega) h1
    rw [hv]
    simp only [z2z,Sem.run_bind]
    rw [show (storeCells ⟨g,off+x.2.1 * s,none⟩ ys.toArray.toList 0).run P w=.ok () _ from z22z ys 0 w hw]
    refine ⟨(some ⟨g,off,none⟩,x.2.1+n,x.2.2),_,rfl,.inr ⟨g,off,cs',rfl,a1,hroom,by rw [a2];exact hcp,by simp [hn,hyl,Nat.add_mul],fun j hj=>?_⟩,rfl,a5.mono (fun k _ hk=>⟨_,hv,hk⟩),fun k ⟨a,ha,hk⟩=>.inl ⟨_,hv,by injection ha with ha;subst ha;exact hk⟩⟩
    simp at hj
    by_cases hjx:j<xs.length
    ·rw [a4 (off+j) (by omega),hel j hjx,List.getElem?_append_left hjx]
    ·have:=a3 (j - xs.length) (by omega)
     rw [List.getElem?_append_right (by omega),← this]
     congr 1;omega
  ·rw [if_neg hroom]
   have hti:∀ w,(typeInfo E).run P w=.ok i w:=fun w=>by simp [typeInfo,hi]
   have hcap:Builtin.nextslicecap (x.2.1+n) x.2.2 * i.bytes≤2 ^ 48:=by
    rw [hby]
    exact Nat.le_trans (Nat.mul_le_mul_right _ (nextcap_le (by omega))) hb
   have hn2:¬ (((x.2.1+n:Nat):Int) > IntKind.i64.max∧(False∨i.bytes=0)):=by
    rintro ⟨_,h | h⟩
    ·exact h
    ·omega
   simp only [Sem.run_bind,hti,Result.andThen_ok,Sem.run_ite]
   rw [if_neg hn2,if_neg (show ¬ (Builtin.nextslicecap (x.2.1+n) x.2.2 * i.bytes > 2 ^ 48) by omega)]
   simp only [run_choose,Question.forced,Bool.false_eq_true,if_false,Result.andThen_ok,run_askRoom]
   generalize hnc:(Question.appendCap (x.2.1+n) x.2.2 E).cut _=nc
   have hge:x.2.1+n≤nc:=by rw [← hnc];simp [Question.cut]
   have f1:=drew_fr w
   rw [(hx.keep0 f1).first]
   simp only [Result.andThen_ok,Bool.not_false,if_true]
   rw [hfst _ f1]
   simp only [Result.andThen_ok,zeroof hi hz,newRow,Sem.run_bind,run_newObj,Sem.run_pure]
   refine ⟨(some ⟨w.heap.size,0,none⟩,x.2.1+n,nc),_,rfl,.inr ⟨w.heap.size,0,_,rfl,Array.getElem?_push_size ..,hge,?_,by simp [hx.len,hyn,Nat.add_mul],fun j hj=>?_⟩,rfl,
    ((f1.trans (push_fr _ _)).mono fun _ _ t=>t.elim),fun k ⟨a,ha,hk⟩=>.inr (by injection ha with ha;subst ha;subst hk;exact Nat.le_refl _)⟩
   ·simp only [Array.size_append,List.size_toArray,Builtin.zeroCells,Array.size_map,Array.size_range,hx.len,hyn,hc]
    have:nc=(x.2.1+n)+(nc - (x.2.1+n)):=by omega
    have h2:nc * s=(x.2.1+n) * s+(nc - (x.2.1+n)) * s:=by rw [← Nat.add_mul,← this]
    rw [Nat.add_mul] at h2
    show 0+nc * s≤_
    omega
   ·rw [Nat.zero_add,Array.getElem?_append_left (by simpa using hj)]
    simp [List.getElem?_append]
theorem append_ok {w:World} {t E s bytes:Nat} {z:Value} {x y:Sl} {xs ys:List Value} (he:ElemOk P t E s z bytes) (o:TypeId) (hx:IsSl w E s x xs) (hy:RdSl w s y ys) (h1:∀ v∈ys,one1 v=true)
  (hb:(2 * (x.2.1+y.2.1)+192) * bytes≤2 ^ 48) :
  ∃ v w',(Builtin.append_ #[t,t] o #[.slice x.1 x.2.1 x.2.2,.slice y.1 y.2.1 y.2.2]).run P w=.ok (.slice v.1 v.2.1 v.2.2) w'∧IsSl w' E s v (xs++ys)∧v.2.1=x.2.1+y.2.1∧Fr (blkOf x) w w' ∧
   (∀ k,blkOf v k→blkOf x k∨w.heap.size≤k):=
 append_gen he o ⟨_,he.under,.inr ⟨_,rfl⟩⟩ hx hy.1 (fun _=>rfl) (fun _ f=>(hy.keep0 f).first) h1 hb
theorem append_text {w:World} {t st E bytes:Nat} {z:Value} {x:Sl} {xs:List Value} (he:ElemOk P t E 1 z bytes) (o:TypeId) (hst:P.underlying st=some .string) (hx:IsSl w E 1 x xs) (s:ByteArray)
  (hb:(2 * (x.2.1+s.size)+192) * bytes≤2 ^ 48) :
  ∃ v w',(Builtin.append_ #[t,st] o #[.slice x.1 x.2.1 x.2.2,.string s]).run P w=.ok (.slice v.1 v.2.1 v.2.2) w'∧IsSl w' E 1 v (xs++s.data.toList.map fun b=>.int .u8 (b.toNat:Int))∧v.2.1=x.2.1+s.size∧Fr (blkOf x) w w' ∧
   (∀ k,blkOf v k→blkOf x k∨w.heap.size≤k):=
 append_gen he o ⟨_,hst,.inl rfl⟩ hx (by rw [List.length_map,Array.length_toList,Nat.mul_one];rfl) (fun _=>rfl) (fun _ _=>by
  have e:s.extract 0 s.size=s:=ByteArray.ext (by rw [ByteArray.data_extract];exact Array.extract_size)
  simp only [Builtin.firstCells,e,Sem.run_pure]
  refine congrArg (fun a=>Result.ok a _) ?_
  apply Array.ext'
  rw [Array.toList_map]) (by intro v hv;obtain ⟨b,_,rfl⟩:=List.mem_map.1 hv;rfl) hb
theorem z55z {w:World} {t E s bytes:Nat} {z:Value} (he:ElemOk P t E s z bytes) (n:Nat) (parts:Array (Nat×Value)) (cells:Array Value) (hn:n * s≤2 ^ 24)
  (hf:Instr.fill (fun i=>some (i * s,s)) ((Array.range (n * s)).map (z.cells[· % z.cells.size]!)) parts.toList=some cells) (hsz:cells.size=n * s) :
  ∃ v w',(Instr.buildSlice t n parts).run P w=.ok (.slice v.1 v.2.1 v.2.2) w'∧IsSl w' E s v cells.toList∧v.2.1=n∧Fr none1 w w'∧(∀ k,blkOf v k→w.heap.size≤k):=by
 obtain ⟨hu,⟨i,hi,hs,hz,hby⟩,hc,hpos⟩:=he
 have hsize:∀ w,(sizeOf E).run P w=.ok s w:=fun w=>by rw [sizeof hi,hs]
 unfold Instr.buildSlice
 simp only [Sem.run_bind,under hu,Result.andThen_ok,hsize]
 rw [if_neg (by omega)]
 have fin:∀ zc:Array Value,(Array.range (n * s)).map (zc[· % zc.size]!)=(Array.range (n * s)).map (z.cells[· % z.cells.size]!) →
   ∃ v w',(match Instr.fill (fun i=>some (i * s,s)) ((Array.range (n * s)).map (zc[· % zc.size]!)) parts.toList with
    | some cells=>(do pure (Value.slice (some (← newRow E cells)) n n):Sem Value)
    | _ => stuck "buildSlice: a part of the wrong size").run P w = .ok (.slice v.1 v.2.1 v.2.2) w' ∧ IsSl w' E s v cells.toList ∧ v.2.1 = n ∧ Fr none1 w w' ∧ (∀ k, blkOf v k → w.heap.size ≤ k) := fun zc hzc => by
  rw [hzc,hf]
  simp only [newRow,Sem.run_bind,run_newObj,Result.andThen_ok,Sem.run_pure]
  exact ⟨(some ⟨w.heap.size,0,none⟩,n,n),_,rfl,.inr ⟨w.heap.size,0,cells,rfl,Array.getElem?_push_size ..,Nat.le_refl _,by rw [hsz];simp,by simpa using hsz,fun j hj=>by simp⟩,rfl,push_fr _ _,fun k ⟨a,ha,hk⟩=>by injection ha with ha;subst ha;subst hk;exact Nat.le_refl _⟩
 by_cases h:n * s=0
 ·simp only [if_pos h,Sem.run_bind,Sem.run_pure,Result.andThen_ok]
  exact fin #[] (by rw [h];simp)
 ·simp only [if_neg h,Sem.run_bind,zeroof hi hz,Sem.run_pure,Result.andThen_ok]
  exact fin z.cells rfl
theorem fill_one (n:Nat) (zs:Array Value):∀ (vs:List Value) (k:Nat) (pre:List Value),pre.length=k→k+vs.length=n→zs.size=n→(∀ v∈vs,v.cells=#[v])→(∀ cur:Array Value,cur.size=n→cur.toList.take k=pre →
  ∃ out,Instr.fill (fun i=>some (i * 1,1)) cur ((vs.zipIdx k).map fun (v,i)=>(i,v))=some out∧out.toList=pre++vs)
 | [],k,pre,hp,hk,_,_,cur,hc,ht=>by
  refine ⟨cur,rfl,?_⟩
  simp only [List.length_nil,Nat.add_zero] at hk
  rw [← ht,List.append_nil,List.take_of_length_le (by simp;omega)]
 | v::vs,k,pre,hp,hk,hz,h1,cur,hc,ht=>by
  simp only [List.length_cons] at hk
  have hv:=h1 v (by simp)
  obtain ⟨out,ho,hl⟩:=fill_one n zs vs (k+1) (pre++[v]) (by simp [hp]) (by omega) hz (fun u hu=>h1 u (by simp [hu])) (cur.setIfInBounds k v) (by simp [hc]) (by
   rw [Array.toList_setIfInBounds,List.take_succ_eq_append_getElem (by simp;omega),List.take_set_of_le (Nat.le_refl _),ht]
   simp)
  refine ⟨out,?_,by rw [hl];simp⟩
  simp only [List.zipIdx_cons,List.map_cons,Instr.fill,hv,Nat.mul_one]
  rw [if_neg (by simp;omega)]
  simpa using ho
theorem lit_ok {w:World} {t E bytes:Nat} {z:Value} (he:ElemOk P t E 1 z bytes) (vs:List Value) (h1:∀ v∈vs,v.cells=#[v]) (hn:vs.length≤2 ^ 24) :
  ∃ v w',(Instr.buildSlice t vs.length ((vs.zipIdx.map fun (v,i)=>(i,v)).toArray)).run P w=.ok (.slice v.1 v.2.1 v.2.2) w'∧IsSl w' E 1 v vs∧v.2.1=vs.length∧Fr none1 w w'∧(∀ k,blkOf v k→w.heap.size≤k):=by
 obtain ⟨out,ho,hl⟩:=fill_one vs.length ((Array.range (vs.length * 1)).map (z.cells[· % z.cells.size]!)) vs 0 [] rfl (by simp) (by simp) h1 ((Array.range (vs.length * 1)).map (z.cells[· % z.cells.size]!)) (by simp) (by simp)
 obtain ⟨v,w',a,b,c⟩:=z55z (w:=w) he vs.length ((vs.zipIdx.map fun (v,i)=>(i,v)).toArray) out (by omega) (by simpa using ho) (by rw [← Array.length_toList,hl];simp)
 rw [hl] at b
 exact ⟨v,w',a,by simpa using b,c⟩
theorem make_ok {w:World} {t E bytes:Nat} {z:Value} (he:ElemOk P t E 1 z bytes) (hz1:z.cells=#[z]) {k k':IntKind} {n m:Int} (h0:0≤n) (h1:n≤m) (hb:m.toNat * bytes≤2 ^ 48) :
  ∃ v w',(Instr.makeSlice t (.int k n) (.int k' m)).run P w=.ok (.slice v.1 v.2.1 v.2.2) w'∧IsSl w' E 1 v (List.replicate n.toNat z)∧v.2.1=n.toNat∧v.2.2=m.toNat∧Fr none1 w w'∧(∀ k,blkOf v k→w.heap.size≤k):=by
 obtain ⟨hu,⟨i,hi,hs,hz,hby⟩,hc,hpos⟩:=he
 have hm:m≤281474976710656:=by
  have:m.toNat * 1≤m.toNat * bytes:=Nat.mul_le_mul_left _ hpos
  omega
 have hti:∀ w,(typeInfo E).run P w=.ok i w:=fun w=>by simp [typeInfo,hi]
 have hsize:∀ w,(sizeOf E).run P w=.ok 1 w:=fun w=>by rw [sizeof hi,hs]
 have ha:∀ (k:IntKind) (n:Int) w,(asInt (.int k n)).run P w=.ok n w:=fun _ _ _=>rfl
 unfold Instr.makeSlice
 simp only [Sem.run_bind,under hu,Result.andThen_ok,ha,hti,wI (x:=n) (by omega) (by omega),wI (x:=m) (by omega) (by omega)]
 have hbm:¬ ((i.bytes:Int) * m > 2 ^ 48):=by
  rw [hby]
  have h2:((m.toNat * bytes:Nat):Int)≤281474976710656:=by omega
  have h3:((m.toNat * bytes:Nat):Int)=(bytes:Int) * m:=by
   rw [Int.natCast_mul,Int.toNat_of_nonneg (by omega),Int.mul_comm]
  omega
 rw [if_neg (by simp;omega)]
 have hcells:∀ zc:Array Value,(m.toNat * 1≠0→zc=#[z])→(Array.range (m.toNat * 1)).map (zc[· % zc.size]!)=Array.replicate m.toNat z:=fun zc hzc=>by
  by_cases h:m.toNat * 1=0
  ·have:m.toNat=0:=by omega
   rw [this];simp
  ·rw [hzc h]
   apply Array.ext
   ·simp
   ·intro j h1 h2
    have:j % 1=0:=Nat.mod_one _
    simp [this]
 have fin:∀ w1:World,w1.heap=w.heap→Fr none1 w w1→∀ cs:Array Value,cs=Array.replicate m.toNat z →
   ∃ v w',(do pure (Value.slice (some (← newRow E cs)) n.toNat m.toNat):Sem Value).run P w1=.ok (.slice v.1 v.2.1 v.2.2) w'∧IsSl w' E 1 v (List.replicate n.toNat z)∧v.2.1=n.toNat∧v.2.2=m.toNat∧Fr none1 w w'∧(∀ k,blkOf v k→w.heap.size≤k):=fun w1 hh f1 cs hcs=>by
  subst hcs
  simp only [newRow,Sem.run_bind,run_newObj,Result.andThen_ok,Sem.run_pure]
  refine ⟨(some ⟨w1.heap.size,0,none⟩,n.toNat,m.toNat),_,rfl,.inr ⟨w1.heap.size,0,_,rfl,Array.getElem?_push_size ..,by dsimp only;omega,by simp,by simp,fun j hj=>?_⟩,rfl,rfl,f1.trans (push_fr _ _),fun k ⟨a,ha,hk⟩=>by injection ha with ha;subst ha;subst hk;rw [hh];exact Nat.le_refl _⟩
  simp at hj
  rw [Array.getElem?_replicate,List.getElem?_replicate,if_pos (show 0+j<m.toNat by omega),if_pos (show j<n.toNat by omega)]
 by_cases h:m.toNat * 1=0
 ·simp only [Sem.run_bind,run_askRoom,Result.andThen_ok,hsize,if_pos h,Sem.run_pure]
  exact fin w rfl (Fr.refl _ _) _ (hcells #[] (fun hh=>absurd h hh))
 ·simp only [Sem.run_bind,run_askRoom,Result.andThen_ok,hsize,if_neg h,zeroof hi hz,Sem.run_pure]
  exact fin w rfl (Fr.refl _ _) _ (hcells z.cells (fun _=>hz1))
theorem one_ok {w:World} {t E bytes:Nat} {z:Value} (he:ElemOk P t E 1 z bytes) (v:Value) (h1:v.cells=#[v]) :
  ∃ x w',(Instr.buildSlice t 1 #[(0,v)]).run P w=.ok (.slice x.1 x.2.1 x.2.2) w'∧IsSl w' E 1 x [v]∧x.2.1=1∧Fr none1 w w'∧(∀ k,blkOf x k→w.heap.size≤k):=
 lit_ok he [v] (by simpa using h1) (by simp)
theorem append_one {w:World} {t E bytes:Nat} {z:Value} {x:Sl} {xs:List Value} (he:ElemOk P t E 1 z bytes) (o:TypeId) (hx:IsSl w E 1 x xs) (v:Value) (h1:v.cells=#[v]) (h2:one1 v=true)
  (hb:(2 * (x.2.1+1)+192) * bytes≤2 ^ 48) {K:Sl→World→Prop}
  (hK:∀ y w',IsSl w' E 1 y (xs++[v])→y.2.1=x.2.1+1→Fr (blkOf x) w w'→(∀ k,blkOf y k→blkOf x k∨w.heap.size≤k)→K y w') :
  RunK P (Instr.buildSlice t 1 #[(0,v)]) w (.v (.one .slc)) fun (y:Option Addr×Nat×Nat) w'=>RunK P (Builtin.append_ #[t,t] o #[.slice x.1 x.2.1 x.2.2,.slice y.1 y.2.1 y.2.2]) w' (.v (.one .slc)) fun (u:Option Addr×Nat×Nat) w''=>K u w'':=by
 obtain ⟨y,w1,hr,hy,hl,f1,hf⟩:=one_ok (w:=w) he v h1
 refine ⟨y,w1,hr,?_⟩
 obtain ⟨u,w2,hr2,hu,hl2,f2,hf2⟩:=append_ok he o (hx.keep0 f1) hy.rd (by simpa using h2) (by rw [hl];exact hb)
 refine ⟨u,w2,hr2,hK u w2 hu (by rw [hl2,hl]) (f1.of0 f2) fun k hk=>?_⟩
 rcases hf2 k hk with h | h
 ·exact .inl h
 ·exact .inr (Nat.le_trans f1.size h)
theorem IsSl.st {w:World} {E:Nat} {v:Sl} {xs:List Value} (h:IsSl w E 1 v xs) {K:World→Prop} {i:Int} (h0:0≤i) (h1:i<v.2.1) {x:Value} (hx:one1 x=true)
  (k:∀ w1,IsSl w1 E 1 v (xs.set i.toNat x)→Fr (blkOf v) w w1→w1.heap.size=w.heap.size→K w1):IdxK v.1 v.2.1 i 1 fun p=>StK p x w K:=by
 rcases h with ⟨rfl,rfl⟩ | ⟨g,off,cs,hv,hb,hl,hc,hn,he⟩
 ·simp at h1;omega
 ·refine ⟨_,hv,h0,h1,?_⟩
  rw [z2z]
  refine StK.of hb (by omega) hx fun w1 hb1 f1 hs=>k w1 (.inr ⟨g,off,_,hv,hb1,hl,by simpa using hc,by simpa using hn,fun j hj=>?_⟩) (f1.mono fun k _ hk=>⟨_,hv,hk⟩) hs
  rw [List.length_set] at hj
  rw [Nat.mul_one,Array.getElem?_setIfInBounds,List.getElem?_set]
  by_cases hij:i.toNat=j
  ·subst hij;rw [if_pos rfl,if_pos rfl,if_pos (by omega),if_pos hj]
  ·rw [if_neg (by omega),if_neg hij,he j hj]
theorem z28z {w:World} {a:Addr}:∀ (vs:List Value) (i n:Nat),CellsAt w a i vs→CellsAt w a i (vs.take n)
 | [],i,n,_=>by simp;exact trivial
 | v::vs,i,0,_=>trivial
 | v::vs,i,n+1,⟨h1,h2⟩=>⟨h1,z28z vs (i+1) n h2⟩
theorem RdSl.sub {w:World} {v:Sl} {xs:List Value} (h:RdSl w 1 v xs) {n:Int} (h0:0≤n) (h1:n≤v.2.1) (hc:v.2.1≤v.2.2) {K:Option Addr→Nat→Nat→Prop}
  (k:RdSl w 1 (v.1,n.toNat,v.2.2) (xs.take n.toNat)→K v.1 n.toNat v.2.2):SubK v.1 v.2.2 0 n v.2.2 1 K:=by
 refine ⟨Int.le_refl _,h0,by omega,by omega,?_⟩
 have e:(if (v.2.2:Int)=0 then v.1 else v.1.map (·.add ((0:Int).toNat * 1)))=v.1:=by
  split
  ·rfl
  ·cases v.1 with
   | none=>rfl
   | some a=>simp [Addr.add]
 rw [e,Int.sub_zero,Int.sub_zero,Int.toNat_natCast]
 obtain ⟨a,b,c⟩:=h
 refine k ⟨by simp;omega,fun hn=>?_,fun x hx=>z28z _ _ _ (c x hx)⟩
 obtain ⟨p,q,r⟩:=b hn
 dsimp only
 subst r
 exact ⟨by omega,q,by simp⟩
theorem conv_ok {w:World} {t E:Nat} {v:Sl} {xs:List Value} (ht:P.underlying t=some (.slice E)) (he:P.underlying E=some (.int .u8)) (h:IsSl w E 1 v xs) (hn:v.1.isSome=true) :
  ∃ w',(convert t t (.slice v.1 v.2.1 v.2.2)).run P w=.ok (.slice v.1 v.2.1 v.2.2) w'∧RdSl w' 1 v xs∧Fr (blkOf v) w w':=by
 rcases h with ⟨rfl,rfl⟩ | ⟨g,off,cs,hv,hb,hl,hc,hx,hel⟩
 ·cases hn
 ·have hsh:w.shape? g=some (E,cs.size):=by unfold World.shape?;rw [hb]
  obtain ⟨v1,v2,v3⟩:=v
  dsimp only at hv hl hc hx
  subst hv
  refine ⟨w.freeze ⟨g,cs.size,none⟩ 1,?_,?_,?_⟩
  ·simp [convert,under ht,under he,markStringish,hsh]
  ·have hb':(w.freeze ⟨g,cs.size,none⟩ 1).heap[g]? = some (.cells cs E (cs.size,cs.size+1)):=by
    unfold World.freeze
    simp [Array.getElem?_modify,hb]
   exact ⟨hx,(fun t=>nomatch t),fun a ha=>by injection ha with ha;subst ha;exact cellsAt_blk hb' xs off 0 fun j hj=>by rw [Nat.add_zero];exact hel j hj⟩
  ·refine ⟨rfl,rfl,rfl,by simp [World.freeze],fun k hk hn=>?_⟩
   have:g≠k:=fun e=>hn ⟨_,rfl,by rw [e]⟩
   simp [World.freeze,Array.getElem?_modify,this]
end Vc
set_option linter.unusedVariables false
theorem z7z:ElemOk Tryz.prog 22 5 1 (.int .u8 0) 1:=⟨Tryz.underlying22,⟨Tryz.t5,by kernel_rfl,rfl,rfl,rfl⟩,rfl,by decide⟩
def bc (x:UInt8):Value:=.int .u8 (x.toNat:Int)
def IsB (w:World) (v:Sl) (bs:List UInt8):Prop:=IsSl w 5 1 v (bs.map bc)
def RdB (w:World) (v:Sl) (bs:List UInt8):Prop:=RdSl w 1 v (bs.map bc)
theorem IsB.rd {w:World} {v:Sl} {bs:List UInt8} (h:IsB w v bs):RdB w v bs:=IsSl.rd h
theorem RdB.len {w:World} {v:Sl} {bs:List UInt8} (h:RdB w v bs):v.2.1=bs.length:=by have:=h.1;simp at this;omega
theorem IsB.len {w:World} {v:Sl} {bs:List UInt8} (h:IsB w v bs):v.2.1=bs.length:=h.rd.len
theorem RdB.keep0 {w w':World} {v:Sl} {bs:List UInt8} (h:RdB w v bs) (f:Fr none1 w w'):RdB w' v bs:=RdSl.keep0 h f
theorem RdB.keep {w w':World} {v:Sl} {bs:List UInt8} (h:RdB w v bs) {S:Nat→Prop} (f:Fr S w w') (hn:∀ k,blkOf v k→¬ S k):RdB w' v bs:=RdSl.keep h f hn
theorem IsB.keep0 {w w':World} {v:Sl} {bs:List UInt8} (h:IsB w v bs) (f:Fr none1 w w'):IsB w' v bs:=IsSl.keep0 h f
theorem IsB.keep {w w':World} {v:Sl} {bs:List UInt8} (h:IsB w v bs) {S:Nat→Prop} (f:Fr S w w') (hn:∀ k,blkOf v k→¬ S k):IsB w' v bs:=IsSl.keep h f hn
theorem bc_one (bs:List UInt8):∀ v∈bs.map bc,one1 v=true:=by
 intro v hv
 obtain ⟨x,_,rfl⟩:=List.mem_map.1 hv
 rfl
theorem z33z {w:World} {x y:Sl} {xs ys:List UInt8} (hx:IsB w x xs) (hy:RdB w y ys) (hl:xs.length+ys.length≤140737488355000) :
  ∃ (v:Sl) (w':World),(Builtin.append_ #[22,22] 22 #[.slice x.1 x.2.1 x.2.2,.slice y.1 y.2.1 y.2.2]).run Tryz.prog w=.ok (.slice v.1 v.2.1 v.2.2) w'∧IsB w' v (xs++ys)∧Fr (blkOf x) w w' ∧
   (∀ k,blkOf v k→blkOf x k∨w.heap.size≤k):=by
 have e1:=hx.len
 have e2:=hy.len
 obtain ⟨v,w',a,b,_,c,d⟩:=append_ok (P:=Tryz.prog) (s:=1) (xs:=xs.map bc) (ys:=ys.map bc) z7z 22 hx hy (bc_one ys) (by rw [e1,e2];omega)
 exact ⟨v,w',a,by unfold IsB;rw [List.map_append];exact b,c,d⟩
theorem IsB.cap {w:World} {v:Sl} {bs:List UInt8} (h:IsB w v bs):v.2.1≤v.2.2:=by
 rcases h with ⟨rfl,_⟩ | ⟨g,off,cs,h1,h2,h3,_⟩
 ·exact Nat.le_refl _
 ·exact h3
theorem RdB.sub {w:World} {v:Sl} {bs:List UInt8} (h:RdB w v bs) {n:Int} (h0:0≤n) (h1:n≤v.2.1) (hc:v.2.1≤v.2.2) {K:Option Addr→Nat→Nat→Prop}
  (k:RdB w (v.1,n.toNat,v.2.2) (bs.take n.toNat)→K v.1 n.toNat v.2.2):SubK v.1 v.2.2 0 n v.2.2 1 K:=by
 refine RdSl.sub h h0 h1 hc fun t=>k ?_
 unfold RdB;rw [List.map_take];exact t
abbrev ad (g:Nat):Addr:=⟨g,0,none⟩
abbrev SlT:=Option Addr×Nat×Nat
abbrev KZ2:List Ck:=[.int .i64,.str,.int .i64,.int .i64]
abbrev YZ2:=Int×ByteArray×Int×Int×Unit
abbrev LZ2 (x:YZ2):List Value:=[.int .i64 x.1,.string x.2.1,.int .i64 x.2.2.1,.int .i64 x.2.2.2.1]
abbrev KZ3:List Ck:=[.int .i64,.str,.int .i64,.slc]
abbrev YZ3:=Int×ByteArray×Int×SlT×Unit
abbrev LZ3 (x:YZ3):List Value:=[.int .i64 x.1,.string x.2.1,.int .i64 x.2.2.1,.slice x.2.2.2.1.1 x.2.2.2.1.2.1 x.2.2.2.1.2.2]
abbrev KZ8:List Ck:=[.bool,.str,.str,.int .i64,.int .i64]
abbrev YZ8:=Bool×ByteArray×ByteArray×Int×Int×Unit
abbrev LZ8 (x:YZ8):List Value:=[.bool x.1,.string x.2.1,.string x.2.2.1,.int .i64 x.2.2.2.1,.int .i64 x.2.2.2.2.1]
abbrev KZ12:List Ck:=[.str,.int .i64,.int .i64,.str,.int .i64,.slc]
abbrev YZ12:=ByteArray×Int×Int×ByteArray×Int×SlT×Unit
abbrev LZ12 (x:YZ12):List Value:=[.string x.1,.int .i64 x.2.1,.int .i64 x.2.2.1,.string x.2.2.2.1,.int .i64 x.2.2.2.2.1,.slice x.2.2.2.2.2.1.1 x.2.2.2.2.2.1.2.1 x.2.2.2.2.2.1.2.2]
abbrev KZ13:List Ck:=[.int .i64,.int .i64,.int .i64,.int .i64,.int .i64,.str,.slc,.slc]
abbrev YZ13:=Int×Int×Int×Int×Int×ByteArray×SlT×SlT×Unit
abbrev LZ13 (x:YZ13):List Value:=[.int .i64 x.1,.int .i64 x.2.1,.int .i64 x.2.2.1,.int .i64 x.2.2.2.1,.int .i64 x.2.2.2.2.1,.string x.2.2.2.2.2.1,.slice x.2.2.2.2.2.2.1.1 x.2.2.2.2.2.2.1.2.1 x.2.2.2.2.2.2.1.2.2,.slice x.2.2.2.2.2.2.2.1.1 x.2.2.2.2.2.2.2.1.2.1 x.2.2.2.2.2.2.2.1.2.2]
abbrev KZ14:List Ck:=[.int .i64,.str,.str,.str,.str,.int .i64,.int .i64,.raw]
abbrev YZ14:=Int×ByteArray×ByteArray×ByteArray×ByteArray×Int×Int×Value×Unit
abbrev LZ14 (x:YZ14):List Value:=[.int .i64 x.1,.string x.2.1,.string x.2.2.1,.string x.2.2.2.1,.string x.2.2.2.2.1,.int .i64 x.2.2.2.2.2.1,.int .i64 x.2.2.2.2.2.2.1,x.2.2.2.2.2.2.2.1]
abbrev KZ15:List Ck:=[.int .i64,.int .i64,.int .i64,.int .i64,.int .i64,.int .u64,.bool,.int .i64,.int .i64,.str]
abbrev YZ15:=Int×Int×Int×Int×Int×Int×Bool×Int×Int×ByteArray×Unit
abbrev LZ15 (x:YZ15):List Value:=[.int .i64 x.1,.int .i64 x.2.1,.int .i64 x.2.2.1,.int .i64 x.2.2.2.1,.int .i64 x.2.2.2.2.1,.int .u64 x.2.2.2.2.2.1,.bool x.2.2.2.2.2.2.1,.int .i64 x.2.2.2.2.2.2.2.1,.int .i64 x.2.2.2.2.2.2.2.2.1,.string x.2.2.2.2.2.2.2.2.2.1]
abbrev KZ16:List Ck:=[.int .i64,.str,.str,.str,.str,.int .i64,.int .i64,.int .i64,.str,.int .i64,.slc]
abbrev YZ16:=Int×ByteArray×ByteArray×ByteArray×ByteArray×Int×Int×Int×ByteArray×Int×SlT×Unit
abbrev LZ16 (x:YZ16):List Value:=[.int .i64 x.1,.string x.2.1,.string x.2.2.1,.string x.2.2.2.1,.string x.2.2.2.2.1,.int .i64 x.2.2.2.2.2.1,.int .i64 x.2.2.2.2.2.2.1,.int .i64 x.2.2.2.2.2.2.2.1,.string x.2.2.2.2.2.2.2.2.1,.int .i64 x.2.2.2.2.2.2.2.2.2.1,.slice x.2.2.2.2.2.2.2.2.2.2.1.1 x.2.2.2.2.2.2.2.2.2.2.1.2.1 x.2.2.2.2.2.2.2.2.2.2.1.2.2]
abbrev KZ18:List Ck:=[.int .i64,.int .i64,.int .i64,.int .i64,.int .i64,.int .u64,.bool,.int .i64,.str,.str,.str,.str,.int .i64,.int .i64,.raw]
abbrev YZ18:=Int×Int×Int×Int×Int×Int×Bool×Int×ByteArray×ByteArray×ByteArray×ByteArray×Int×Int×Value×Unit
abbrev LZ18 (x:YZ18):List Value:=[.int .i64 x.1,.int .i64 x.2.1,.int .i64 x.2.2.1,.int .i64 x.2.2.2.1,.int .i64 x.2.2.2.2.1,.int .u64 x.2.2.2.2.2.1,.bool x.2.2.2.2.2.2.1,.int .i64 x.2.2.2.2.2.2.2.1,.string x.2.2.2.2.2.2.2.2.1,.string x.2.2.2.2.2.2.2.2.2.1,.string x.2.2.2.2.2.2.2.2.2.2.1,.string x.2.2.2.2.2.2.2.2.2.2.2.1,.int .i64 x.2.2.2.2.2.2.2.2.2.2.2.2.1,.int .i64 x.2.2.2.2.2.2.2.2.2.2.2.2.2.1,x.2.2.2.2.2.2.2.2.2.2.2.2.2.2.1]
abbrev KZ19:List Ck:=[.int .i64,.int .i64,.int .i64,.int .i64,.int .i64,.int .u64,.bool,.int .i64,.str,.str,.str,.str,.int .i64,.int .i64,.int .i64,.str,.int .i64,.slc]
abbrev YZ19:=Int×Int×Int×Int×Int×Int×Bool×Int×ByteArray×ByteArray×ByteArray×ByteArray×Int×Int×Int×ByteArray×Int×SlT×Unit
abbrev LZ19 (x:YZ19):List Value:=[.int .i64 x.1,.int .i64 x.2.1,.int .i64 x.2.2.1,.int .i64 x.2.2.2.1,.int .i64 x.2.2.2.2.1,.int .u64 x.2.2.2.2.2.1,.bool x.2.2.2.2.2.2.1,.int .i64 x.2.2.2.2.2.2.2.1,.string x.2.2.2.2.2.2.2.2.1,.string x.2.2.2.2.2.2.2.2.2.1,.string x.2.2.2.2.2.2.2.2.2.2.1,.string x.2.2.2.2.2.2.2.2.2.2.2.1,.int .i64 x.2.2.2.2.2.2.2.2.2.2.2.2.1,.int .i64 x.2.2.2.2.2.2.2.2.2.2.2.2.2.1,.int .i64 x.2.2.2.2.2.2.2.2.2.2.2.2.2.2.1,.string x.2.2.2.2.2.2.2.2.2.2.2.2.2.2.2.1,.int .i64 x.2.2.2.2.2.2.2.2.2.2.2.2.2.2.2.2.1,.slice x.2.2.2.2.2.2.2.2.2.2.2.2.2.2.2.2.2.1.1 x.2.2.2.2.2.2.2.2.2.2.2.2.2.2.2.2.2.1.2.1 x.2.2.2.2.2.2.2.2.2.2.2.2.2.2.2.2.2.1.2.2]
set_option maxRecDepth 100000
def C13 (p0:Option Addr) (p0l p0c:Nat) (w:World) (K:Value→World→Prop):Prop:=
 RunK Tryz.prog (Builtin.append_ #[22,22] 22 #[.slice none 0 0,.slice p0 p0l p0c]) w (.v (.one .slc)) (fun (x1:SlT) w2=>K (.slice x1.1 x1.2.1 x1.2.2) w2)
def pl13:Plan:=.auto
theorem c13 (p0:Option Addr) (p0l p0c:Nat) (w:World) (K:Value→World→Prop) (h:C13 p0 p0l p0c w K):Ret Tryz.prog 13 #[.slice p0 p0l p0c] w K:=z0z (by kernel_rfl) Tryz.func13 (p:=pl13) (Eq.mpr (by kernel_rfl) h)
def C12 (p0:Option Addr) (p0l p0c:Nat) (p1:Option Addr) (p1l p1c:Nat) (w:World) (K:Value→World→Prop):Prop:=
 ifB ((p0l:Int) != (p1l:Int))
 (K (.bool false) w)
 (LoopK (Int×Unit) (fun _ s1 w2 next3=>ifB (decide (s1.1<(p0l:Int)))
 (DrewK w2 (fun w4=>IdxK p0 p0l s1.1 1 (fun a5=>LdK (.int .u8) a5 w4 (fun (x6:Int)=>IdxK p1 p1l s1.1 1 (fun a7=>LdK (.int .u8) a7 w4 (fun (x8:Int)=>ifB (x6 != x8)
 (K (.bool false) w4)
 (next3 (IntKind.i64.wrap (s1.1+1),()) w4)))))))
 (K (.bool true) w2))
 (0,()) w)
def pl12:Plan:=(.seq .auto (.seq .auto (.seq (.seq .auto (.block (.loop [(5,.one (.int .i64))] (.seq .auto (.seq (.block (.seq .still .auto)) .auto))))) .auto)))
theorem c12 (p0:Option Addr) (p0l p0c:Nat) (p1:Option Addr) (p1l p1c:Nat) (w:World) (K:Value→World→Prop) (h:C12 p0 p0l p0c p1 p1l p1c w K):Ret Tryz.prog 12 #[.slice p0 p0l p0c,.slice p1 p1l p1c] w K:=z0z (by kernel_rfl) Tryz.func12 (p:=pl12) (Eq.mpr (by kernel_rfl) h)
def toByte (z:Int):UInt8:=UInt8.ofNat z.toNat
theorem toByte_bc {z:Int} (h:(Lit.int .u8 z).wf=true):Value.int .u8 z=bc (toByte z):=by
 simp [Lit.wf,IntKind.min,IntKind.max,IntKind.signed,IntKind.bits] at h
 unfold bc toByte
 rw [UInt8.toNat_ofNat',Nat.mod_eq_of_lt (by omega)]
 congr 1;omega
theorem cellsAt_of {w:World} {x:Addr}:∀ (vs:List Value) (i:Nat),(∀ j,j<vs.length→w.cell? (x.add (i+j))=vs[j]?)→CellsAt w x i vs
 | [],_,_=>trivial
 | v::vs,i,h=>⟨by have:=h 0 (by simp);simpa using this,cellsAt_of vs (i+1) fun j hj=>by
   have:=h (j+1) (by simp;omega)
   rw [show i+(j+1)=i+1+j by omega] at this
   simpa using this⟩
theorem args_rd {w:World} {a:Option Addr} {len cap:Nat} {zs:List Int} (h:IsInts .u8 w a len cap zs):RdB w (a,len,cap) ((zs.take len).map toByte)∧len≤cap:=by
 rcases h with ⟨rfl,rfl,rfl,rfl⟩ | ⟨x,rfl,hl,hc,hz,hcell,hw⟩
 ·exact ⟨⟨rfl,fun _=>⟨rfl,rfl,rfl⟩,fun a ha=>by cases ha⟩,Nat.le_refl _⟩
 ·refine ⟨⟨by simp;omega,(fun t=>nomatch t),fun b hb=>?_⟩,hl⟩
  injection hb with hb;subst hb
  refine cellsAt_of _ 0 fun j hj=>?_
  simp at hj
  rw [Nat.zero_add,hcell j (by omega),List.getElem?_map,List.getElem?_map,List.getElem?_take_of_lt (by omega),List.getD_eq_getElem?_getD,List.getElem?_eq_getElem (by omega)]
  simp only [Option.map_some,Option.getD_some]
  rw [toByte_bc (hw _ (List.getElem_mem _))]
theorem none_b (w:World):IsB w (none,0,0) []:=.inl ⟨rfl,rfl⟩
theorem RdB.at {w:World} {v:Sl} {bs:List UInt8} (h:RdB w v bs) {K:Int→Prop} {i:Int} (h0:0≤i) (h1:i<v.2.1) (k:K ((bs.getD i.toNat 0).toNat:Int)):IdxK v.1 v.2.1 i 1 fun p=>LdK (.int .u8) p w K:=by
 have hl:=h.len
 refine RdSl.ld h h0 h1 (x:=((bs.getD i.toNat 0).toNat:Int)) ?_ k
 rw [List.getElem?_map,List.getElem?_eq_getElem (by omega),List.getD_eq_getElem?_getD,List.getElem?_eq_getElem (by omega)]
 rfl
def C57 (p0:Int) (w:World) (K:Value→World→Prop):Prop:=
 RunK Tryz.prog (Instr.makeSlice 22 (.int .i64 8) (.int .i64 8)) w (.v (.one .slc)) (fun (x1:SlT) w2=>LoopK (Int×Unit) (fun _ s3 w4 next5=>ifB (decide (s3.1<(x1.2.1:Int)))
 (NnK (IntKind.i64.wrap (56 - (IntKind.i64.wrap (8 * s3.1)))) (IdxK x1.1 x1.2.1 s3.1 1 (fun a6=>StK a6 (.int .u8 (IntKind.u8.wrap (Int.fdiv (IntKind.u64.wrap p0) (2 ^ (min (Int.toNat (IntKind.i64.wrap (56 - (IntKind.i64.wrap (8 * s3.1))))) 64))))) w4 (fun w7=>next5 (IntKind.i64.wrap (s3.1+1),()) w7))))
 (K (.slice x1.1 x1.2.1 x1.2.2) w4))
 (0,()) w2)
def pl57:Plan:=(.seq .auto (.seq .auto (.seq (.seq .auto (.block (.loop [(8,.one (.int .i64))] .auto))) .auto)))
theorem c57 (p0:Int) (w:World) (K:Value→World→Prop) (h:C57 p0 w K):Ret Tryz.prog 57 #[.int .i64 p0] w K:=z0z (by kernel_rfl) Tryz.func57 (p:=pl57) (Eq.mpr (by kernel_rfl) h)
def C67 (p0:Option Addr) (p0l p0c:Nat) (w:World) (K:Value→World→Prop):Prop:=
 ifB ((p0l:Int) != 8)
 (K (.tuple #[.int .i64 0,.bool false]) w)
 (LoopK (Int×Int×Unit) (fun _ s1 w2 next3=>ifB (decide (s1.2.1<(p0l:Int)))
 (IdxK p0 p0l s1.2.1 1 (fun a4=>LdK (.int .u8) a4 w2 (fun (x5:Int)=>NnK 8 (next3 (IntKind.u64.wrap ((BitVec.ofInt 64 (IntKind.u64.wrap (s1.1 * 2 ^ (min (Int.toNat 8) 64))) ||| BitVec.ofInt 64 (IntKind.u64.wrap x5)).toNat:Int),IntKind.i64.wrap (s1.2.1+1),()) w2))))
 (K (.tuple #[.int .i64 (IntKind.i64.wrap s1.1),.bool true]) w2))
 (0,0,()) w)
def pl67:Plan:=(.seq .auto (.seq .auto (.seq .auto (.seq (.seq .auto (.block (.loop [(4,.one (.int .u64)),(12,.one (.int .i64))] .auto))) .auto))))
theorem c67 (p0:Option Addr) (p0l p0c:Nat) (w:World) (K:Value→World→Prop) (h:C67 p0 p0l p0c w K):Ret Tryz.prog 67 #[.slice p0 p0l p0c] w K:=z0z (by kernel_rfl) Tryz.func67 (p:=pl67) (Eq.mpr (by kernel_rfl) h)
def digs:Nat→Nat→List UInt8
 | 0,_=>[]
 | k+1,m=>digs k (m / 256)++[UInt8.ofNat (m % 256)]
def big (bs:List UInt8):Nat:=bs.foldl (fun m b=>m * 256+b.toNat) 0
theorem big_snoc (bs:List UInt8) (b:UInt8):big (bs++[b])=big bs * 256+b.toNat:=by unfold big;rw [List.foldl_append];rfl
theorem z51z:∀ k m,(digs k m).length=k
 | 0,_=>rfl
 | k+1,m=>by unfold digs;rw [List.length_append,z51z k];rfl
theorem u8_nat {n:Nat} (h:n<256):(UInt8.ofNat n).toNat=n:=by rw [UInt8.toNat_ofNat'];exact Nat.mod_eq_of_lt h
theorem big_digs:∀ k m,big (digs k m)=m % 256 ^ k
 | 0,m=>by unfold digs big;simp [Nat.mod_one]
 | k+1,m=>by
  unfold digs
  rw [big_snoc,big_digs k,u8_nat (Nat.mod_lt _ (by decide)),Nat.pow_succ]
  have h:=Nat.mod_mul (x:=m) (a:=256) (b:=256 ^ k)
  rw [Nat.mul_comm (256 ^ k) 256,h]
  omega
theorem snoc_ind {α:Type} {Q:List α→Prop} (h0:Q []) (h1:∀ l a,Q l→Q (l++[a])):∀ l,Q l:=fun l=>by
 have h:∀ r:List α,Q r.reverse:=fun r=>by
  induction r with
  | nil=>exact h0
  | cons a r ih=>rw [List.reverse_cons];exact h1 _ _ ih
 have:=h l.reverse
 rwa [List.reverse_reverse] at this
theorem big_lt:∀ bs:List UInt8,big bs<256 ^ bs.length:=by
 refine snoc_ind (by decide) fun l a ih=>?_
 rw [big_snoc,List.length_append,List.length_singleton,Nat.pow_succ]
 have:=a.toNat_lt
 omega
theorem digs_at:∀ (k m i:Nat),i<k→(digs k m)[i]? = some (UInt8.ofNat (m / 256 ^ (k - 1 - i) % 256))
 | 0,_,_,h=>by omega
 | k+1,m,i,h=>by
  unfold digs
  by_cases hi:i<k
  ·rw [List.getElem?_append_left (by rw [z51z];exact hi),digs_at k _ i hi,Nat.div_div_eq_div_mul,← Nat.pow_succ',show (k - 1 - i).succ=k+1 - 1 - i by omega]
  ·have:i=k:=by omega
   subst this
   rw [List.getElem?_append_right (by rw [z51z];exact Nat.le_refl _),z51z,Nat.sub_self]
   simp
def numL (n:Int):List UInt8:=digs 8 (n % 18446744073709551616).toNat
theorem z9z (n:Int):(numL n).length=8:=z51z _ _
theorem big_numL (n:Int):big (numL n)=(n % 18446744073709551616).toNat:=by
 unfold numL
 rw [big_digs,show 256 ^ 8=18446744073709551616 by decide]
 omega
theorem wrapB (m:Nat):IntKind.u8.wrap (m:Int)=((m % 256:Nat):Int):=by
 simp [IntKind.wrap,IntKind.signed,IntKind.bits]
theorem pnum_spec (n:Int) (w:World):Ret Tryz.prog 57 #[.int .i64 n] w fun r w'=>∃ u:Sl,r=.slice u.1 u.2.1 u.2.2∧IsB w' u (numL n)∧Fr none1 w w'∧∀ k,blkOf u k→w.heap.size≤k:=by
 refine c57 n w _ ?_
 obtain ⟨x,w1,hr,hx,hxl,hxc,f1,hxf⟩:=make_ok (P:=Tryz.prog) (w:=w) (k:=.i64) (k':=.i64) (n:=8) (m:=8) z7z rfl (by omega) (by omega) (by decide)
 refine ⟨x,w1,hr,?_⟩
 have hx0:IsB w1 x (List.replicate 8 0):=hx
 obtain ⟨M,hM⟩:∃ M:Nat,M=(n % 18446744073709551616).toNat:=⟨_,rfl⟩
 have hMn:IntKind.u64.wrap n=(M:Int):=by rw [wrapU];omega
 have hMlt:M<18446744073709551616:=by omega
 have hnum:numL n=digs 8 M:=by rw [hM];rfl
 rw [hnum]
 have hxl8:x.2.1=8:=hxl
 refine LoopK.of (fun s w'=>∃ i:Nat,s.1=i∧i≤8∧IsB w' x ((digs 8 M).take i++List.replicate (8 - i) 0)∧Fr (blkOf x) w1 w') (fun s _=>(8 - s.1).toNat) ⟨0,rfl,by omega,hx0,Fr.refl _ _⟩ ?_
 rintro _ ⟨i',_⟩ w2 ⟨i,hi,hi8,hb,f2⟩
 dsimp only at hi ⊢
 subst hi
 refine ifB.dec (fun hlt=>?_) (fun hge=>?_)
 ·have hi7:i<8:=by omega
  have e1:IntKind.i64.wrap (56 - IntKind.i64.wrap (8 * (i:Int)))=((8 * (7 - i):Nat):Int):=by
   rw [wI (x:=8 * (i:Int)) (by omega) (by omega),wI (by omega) (by omega)];omega
  rw [e1]
  refine ⟨by omega,?_⟩
  rw [Int.toNat_natCast,hMn,fdiv_nat M (8 * (7 - i)) (by omega),wrapB,show 2 ^ (8 * (7 - i))=256 ^ (7 - i) by rw [Nat.pow_mul]]
  have hv:Value.int .u8 ((M / 256 ^ (7 - i) % 256:Nat):Int)=bc (UInt8.ofNat (M / 256 ^ (7 - i) % 256)):=by
   unfold bc
   rw [u8_nat (Nat.mod_lt _ (by decide))]
  rw [hv]
  refine IsSl.st hb (by omega) hlt rfl fun w3 hb3 f3 _=>?_
  refine ⟨⟨i+1,by rw [wI (by omega) (by omega)];omega,by omega,?_,f2.trans f3⟩,by rw [wI (by omega) (by omega)];omega⟩
  unfold IsB
  rw [← List.map_set,Int.toNat_natCast] at hb3
  have hl:(((digs 8 M).take i++List.replicate (8 - i) 0).set i (UInt8.ofNat (M / 256 ^ (7 - i) % 256)))=(digs 8 M).take (i+1)++List.replicate (8 - (i+1)) 0:=by
   have hd:=digs_at 8 M i hi7
   have hlen:((digs 8 M).take i).length=i:=by rw [List.length_take,z51z];omega
   rw [List.set_append_right _ _ (by omega),hlen,Nat.sub_self,List.take_add_one,hd,show 8 - i=(8 - (i+1))+1 by omega,List.replicate_succ]
   simp
  rw [hl] at hb3
  exact hb3
 ·have:i=8:=by omega
  subst this
  rw [List.take_of_length_le (by rw [z51z];omega)] at hb
  have hb':IsB w2 x (digs 8 M):=by simpa using hb
  exact ⟨x,rfl,hb',f1.comp f2 fun k hk t=>by have:=hxf k t;omega,hxf⟩
def takeL (bs:List UInt8):Int×Bool:=if bs.length=8 then (IntKind.i64.wrap (big bs:Int),true) else (0,false)
theorem or_byte (m:Nat) (b:UInt8) (hm:m<72057594037927936):IntKind.u64.wrap ((BitVec.ofInt 64 (IntKind.u64.wrap ((m:Int) * 2 ^ (min (Int.toNat 8) 64))) ||| BitVec.ofInt 64 (IntKind.u64.wrap (b.toNat:Int))).toNat:Int)=((m * 256+b.toNat:Nat):Int):=by
 have hb:=b.toNat_lt
 rw [show Int.toNat 8=8 from rfl,shl_nat m 8 (by omega),wrapU_nat b.toNat,Nat.mod_eq_of_lt (show m * 2 ^ 8<18446744073709551616 by omega),Nat.mod_eq_of_lt (show b.toNat<18446744073709551616 by omega),or_nat _ _ (by omega) (by omega)]
 congr 1
 rw [← Nat.shiftLeft_eq,← Nat.shiftLeft_add_eq_or_of_lt (show b.toNat<2 ^ 8 from hb),Nat.shiftLeft_eq]
theorem big_take (bs:List UInt8) (i:Nat) (h:i<bs.length):big (bs.take (i+1))=big (bs.take i) * 256+(bs.getD i 0).toNat:=by
 rw [List.take_add_one,List.getElem?_eq_getElem h,List.getD_eq_getElem?_getD,List.getElem?_eq_getElem h]
 exact big_snoc _ _
theorem big_take_lt (bs:List UInt8) (i:Nat) (h:i≤7):big (bs.take i)<72057594037927936:=by
 have h1:=big_lt (bs.take i)
 have h2:256 ^ (bs.take i).length≤256 ^ 7:=Nat.pow_le_pow_right (by decide) (by rw [List.length_take];omega)
 have:(256:Nat) ^ 7=72057594037927936:=by decide
 omega
theorem ptake_spec {w:World} {v:Sl} {bs:List UInt8} (h:RdB w v bs) :
  Ret Tryz.prog 67 #[.slice v.1 v.2.1 v.2.2] w fun r w'=>r=.tuple #[.int .i64 (takeL bs).1,.bool (takeL bs).2]∧w=w':=by
 refine c67 v.1 v.2.1 v.2.2 w _ ?_
 have hvl:=h.len
 unfold takeL
 refine ifB.ne (fun hne=>?_) (fun heq=>?_)
 ·rw [if_neg (by omega)];exact ⟨rfl,rfl⟩
 rw [if_pos (by omega)]
 refine LoopK.of (fun s w'=>∃ i:Nat,s.2.1=i∧i≤8∧s.1=(big (bs.take i):Int)∧w=w') (fun s _=>(8 - s.2.1).toNat) ⟨0,rfl,by omega,rfl,rfl⟩ ?_
 rintro _ ⟨m,i',_⟩ _ ⟨i,hi,hi8,hm,rfl⟩
 dsimp only at hi hm ⊢
 subst hi hm
 refine ifB.dec (fun hlt=>?_) (fun hge=>?_)
 ·have hi7:i<8:=by omega
  refine RdB.at h (by omega) hlt ?_
  refine ⟨by omega,?_⟩
  rw [Int.toNat_natCast,or_byte _ _ (big_take_lt bs i (by omega)),wI (by omega) (by omega)]
  refine ⟨⟨i+1,by omega,by omega,?_,rfl⟩,by omega⟩
  rw [big_take bs i (by omega)]
 ·rw [List.take_of_length_le (by omega)];exact ⟨rfl,rfl⟩
theorem take_num (n:Int) (h0:-9223372036854775808≤n) (h1:n≤9223372036854775807):takeL (numL n)=(n,true):=by
 unfold takeL
 rw [if_pos (z9z n),big_numL]
 congr 1
 simp [IntKind.wrap,IntKind.signed,IntKind.bits]
 split<;>omega
def addU (a b:Int):Int:=IntKind.u64.wrap (a+b)
def xorU (a b:Int):Int:=IntKind.u64.wrap ((BitVec.ofInt 64 a ^^^ BitVec.ofInt 64 b).toNat:Int)
def rotU (x:Int) (k:Nat):Int:=IntKind.u64.wrap ((BitVec.ofInt 64 (IntKind.u64.wrap (x * 2 ^ (min k 64))) ||| BitVec.ofInt 64 (Int.fdiv x (2 ^ (min (64 - k) 64)))).toNat:Int)
abbrev SipS:=Int×Int×Int×Int
def roundI (s:SipS):SipS:=
 let a0:=addU s.1 s.2.1
 let a1:=xorU (rotU s.2.1 13) a0
 let a0:=rotU a0 32
 let a2:=addU s.2.2.1 s.2.2.2
 let a3:=xorU (rotU s.2.2.2 16) a2
 let a0:=addU a0 a3
 let a3:=xorU (rotU a3 21) a0
 let a2:=addU a2 a1
 let a1:=xorU (rotU a1 17) a2
 let a2:=rotU a2 32
 (a0,a1,a2,a3)
def roundsN:Nat→SipS→SipS
 | 0,s=>s
 | n+1,s=>roundI (roundsN n s)
def absI (m:Int) (s:SipS):SipS:=(xorU (roundsN 2 (s.1,s.2.1,s.2.2.1,xorU s.2.2.2 m)).1 m,(roundsN 2 (s.1,s.2.1,s.2.2.1,xorU s.2.2.2 m)).2)
def lowL (bs:List UInt8):Nat:=bs.foldr (fun b n=>n * 256+b.toNat) 0
def initI (kb:List UInt8):SipS:=(xorU (lowL (kb.take 8):Int) 8317987319222330741,xorU (lowL (kb.drop 8):Int) 7237128888997146477,xorU (lowL (kb.take 8):Int) 7816392313619706465,xorU (lowL (kb.drop 8):Int) 8387220255154660723)
def blockL (bs:List UInt8) (j:Nat):Nat:=lowL ((bs.drop (8 * j)).take 8)
def blocksI (bs:List UInt8) (s:SipS):Nat→SipS
 | 0=>s
 | n+1=>absI (blockL bs n:Int) (blocksI bs s n)
def lastL (bs:List UInt8):Nat:=lowL (bs.drop (8 * (bs.length / 8)))+bs.length % 256 * 72057594037927936
def finI (s:SipS):Int:=xorU (xorU (xorU (roundsN 4 (s.1,s.2.1,xorU s.2.2.1 255,s.2.2.2)).1 (roundsN 4 (s.1,s.2.1,xorU s.2.2.1 255,s.2.2.2)).2.1) (roundsN 4 (s.1,s.2.1,xorU s.2.2.1 255,s.2.2.2)).2.2.1) (roundsN 4 (s.1,s.2.1,xorU s.2.2.1 255,s.2.2.2)).2.2.2
def sumI (kb bs:List UInt8):Int:=finI (absI (lastL bs:Int) (blocksI bs (initI kb) (bs.length / 8)))
theorem low_nil:lowL []=0:=rfl
theorem low_cons (b:UInt8) (bs:List UInt8):lowL (b::bs)=lowL bs * 256+b.toNat:=rfl
theorem low_app:∀ a b:List UInt8,lowL (a++b)=lowL a+256 ^ a.length * lowL b
 | [],b=>by rw [List.nil_append,low_nil,List.length_nil,Nat.pow_zero];omega
 | x::a,b=>by
  rw [List.cons_append,low_cons,low_cons,low_app a b,List.length_cons,Nat.pow_succ,Nat.add_mul,Nat.mul_assoc,Nat.mul_comm (lowL b) 256,← Nat.mul_assoc];omega
theorem low_lt:∀ bs:List UInt8,lowL bs<256 ^ bs.length
 | []=>by decide
 | b::bs=>by
  have h:=low_lt bs
  have hb:=b.toNat_lt
  rw [low_cons,List.length_cons,Nat.pow_succ]
  omega
theorem low_zeros (n:Nat):lowL (List.replicate n 0)=0:=by
 induction n with
 | zero=>rfl
 | succ n ih=>rw [List.replicate_succ,low_cons,ih];rfl
theorem low_take (bs:List UInt8) (i:Nat) (h:i<bs.length):lowL (bs.take (i+1))=lowL (bs.take i)+256 ^ i * (bs.getD i 0).toNat:=by
 rw [List.take_add_one,List.getElem?_eq_getElem h,List.getD_eq_getElem?_getD,List.getElem?_eq_getElem h,low_app,List.length_take,Nat.min_eq_left (by omega)]
 simp [lowL]
theorem low_drop (bs:List UInt8) (i:Nat) (h:i<bs.length):lowL (bs.drop i)=lowL (bs.drop (i+1)) * 256+(bs.getD i 0).toNat:=by
 rw [List.drop_eq_getElem_cons h,low_cons,List.getD_eq_getElem?_getD,List.getElem?_eq_getElem h]
 rfl
def padL (bs:List UInt8) (k:Nat):List UInt8:=bs++List.replicate k 0
def allL (bs:List UInt8):List UInt8:=padL bs (7 - bs.length % 8)++[UInt8.ofNat (bs.length % 256)]
theorem all_len (bs:List UInt8):(allL bs).length=8 * (bs.length / 8+1):=by
 unfold allL padL
 rw [List.length_append,List.length_append,List.length_replicate,List.length_singleton]
 omega
theorem all_block (bs:List UInt8) (j:Nat) (h:j<bs.length / 8):blockL (allL bs) j=blockL bs j:=by
 unfold blockL allL padL
 rw [List.append_assoc,List.drop_append_of_le_length (by omega),List.take_append_of_le_length (by rw [List.length_drop];omega)]
theorem all_last (bs:List UInt8):blockL (allL bs) (bs.length / 8)=lastL bs:=by
 unfold blockL lastL
 have hl:((allL bs).drop (8 * (bs.length / 8))).length=8:=by rw [List.length_drop,all_len];omega
 rw [List.take_of_length_le (by omega)]
 unfold allL padL
 rw [List.append_assoc,List.drop_append_of_le_length (by omega),low_app,low_app,low_zeros,List.length_replicate,List.length_drop]
 have e:256 ^ (bs.length - 8 * (bs.length / 8)) * 256 ^ (7 - bs.length % 8)=72057594037927936:=by
  rw [← Nat.pow_add,show bs.length - 8 * (bs.length / 8)+(7 - bs.length % 8)=7 by omega]
 have e1:lowL [UInt8.ofNat (bs.length % 256)]=bs.length % 256:=by rw [low_cons,low_nil,u8_nat (Nat.mod_lt _ (by decide))];omega
 rw [e1,Nat.zero_add,← Nat.mul_assoc,e,Nat.mul_comm 72057594037927936]
theorem blocks_all (bs:List UInt8) (s:SipS):∀ n,n≤bs.length / 8→blocksI (allL bs) s n=blocksI bs s n
 | 0,_=>rfl
 | n+1,h=>by
  unfold blocksI
  rw [blocks_all bs s n (by omega),all_block bs n (by omega)]
theorem blocks_last (bs:List UInt8) (s:SipS):blocksI (allL bs) s (bs.length / 8+1)=absI (lastL bs:Int) (blocksI bs s (bs.length / 8)):=by
 show absI (blockL (allL bs) (bs.length / 8):Int) (blocksI (allL bs) s (bs.length / 8))=_
 rw [all_last,blocks_all bs s _ (Nat.le_refl _)]
def lsb:Nat→Nat→List UInt8
 | 0,_=>[]
 | k+1,m=>UInt8.ofNat (m % 256)::lsb k (m / 256)
theorem lsb_len:∀ k m,(lsb k m).length=k
 | 0,_=>rfl
 | k+1,m=>by unfold lsb;rw [List.length_cons,lsb_len k]
theorem lsb_at:∀ (k m i:Nat),i<k→(lsb k m)[i]? = some (UInt8.ofNat (m / 256 ^ i % 256))
 | 0,_,_,h=>by omega
 | k+1,m,0,_=>by unfold lsb;simp
 | k+1,m,i+1,h=>by
  unfold lsb
  rw [List.getElem?_cons_succ,lsb_at k (m / 256) i (by omega),Nat.div_div_eq_div_mul,Nat.pow_succ,Nat.mul_comm 256]
def hedL (n:Int):List UInt8:=lsb 8 (n % 18446744073709551616).toNat
theorem hed_len (n:Int):(hedL n).length=8:=lsb_len _ _
theorem xorU_rng (a b:Int):0≤xorU a b∧xorU a b<18446744073709551616:=by
 unfold xorU
 rw [wrapU]
 exact ⟨Int.emod_nonneg _ (by decide),Int.emod_lt_of_pos _ (by decide)⟩
theorem sum_rng (kb bs:List UInt8):0≤sumI kb bs∧sumI kb bs<18446744073709551616:=xorU_rng _ _
namespace Vc
variable {P:Program}
def ent (n:Int):List MapEntry→Option Value
 | []=>none
 | e::es=>match e.key with
  | .int _ m=>if n=m then some e.val else ent n es
  | _=>ent n es
def IsMap (w:World) (g:Nat) (M:Int→Option Value):Prop:=
 ∃ es clock,w.heap[g]? = some (.map es clock)∧(∀ e∈es.toList,∃ m,e.key=.int .i64 m)∧∀ n,ent n es.toList=M n
theorem IsMap.new {w:World} {g:Nat} {c:Nat} (h:w.heap[g]? = some (.map #[] c)):IsMap w g (fun _=>none):=⟨_,_,h,by simp,fun n=>rfl⟩
theorem findNow_ent (n:Int):∀ (es:List MapEntry) (i:Nat),(∀ e∈es,∃ m,e.key=.int .i64 m) →
  (∃ j v,Instr.findNow (.int .i64) (.int .i64 n) es i=some (some (i+j,v))∧ent n es=some v∧∃ e,es[j]? = some e∧e.key=.int .i64 n∧(∀ v',ent n (es.set j { e with val:=v' })=some v')∧∀ m v',m≠n→ent m (es.set j { e with val:=v' })=ent m es) ∨
  (Instr.findNow (.int .i64) (.int .i64 n) es i=some none∧ent n es=none)
 | [],i,_=>.inr ⟨rfl,rfl⟩
 | e::es,i,h=>by
  obtain ⟨m,hm⟩:=h e (by simp)
  by_cases hn:n=m
  ·subst hn
   refine .inl ⟨0,e.val,?_,?_,e,rfl,hm,?_,?_⟩
   ·simp [Instr.findNow,hm,Instr.sameNow]
   ·simp [ent,hm]
   ·intro v';simp [ent,hm]
   ·intro m' v' hne;simp [ent,hm,hne]
  ·have hs:Instr.sameNow (.int .i64) (.int .i64 n) e.key=some false:=by simp [Instr.sameNow,hm,hn]
   rcases findNow_ent n es (i+1) (fun e he=>h e (by simp [he])) with ⟨j,v,h1,h2,e',h3,h4,h5,h6⟩ | ⟨h1,h2⟩
   ·refine .inl ⟨j+1,v,?_,?_,e',by simpa using h3,h4,?_,?_⟩
    ·simp only [Instr.findNow,hs,h1];congr 3;omega
    ·simp [ent,hm,hn,h2]
    ·intro v';simp [ent,hm,hn,h5]
    ·intro m' v' hne
     simp only [List.set_cons_succ,ent,hm]
     split
     ·rfl
     ·exact h6 m' v' hne
   ·refine .inr ⟨?_,?_⟩
    ·simp only [Instr.findNow,hs,h1]
    ·simp [ent,hm,hn,h2]
theorem checkKey_int {t:TypeId} (ht:P.underlying t=some (.int .i64)) (b:Bool) (n:Int) (w:World):(Instr.checkKey b 10000 t (.int .i64 n)).run P w=.ok () w:=by
 show (Instr.checkKey b (9999+1) t (.int .i64 n)).run P w=.ok () w
 unfold Instr.checkKey
 simp only [Sem.run_bind,under ht,Result.andThen_ok]
 rfl
theorem getObj_ok {w:World} {g:Nat} {es:Array MapEntry} {c:Nat} (h:w.heap[g]? = some (.map es c)):(getObj g).run P w=.ok (.map es c) w:=by
 simp [getObj,Sem.run,h]
theorem findKey_ok {t:TypeId} (ht:P.underlying t=some (.int .i64)) {n:Int} {es:List MapEntry} {r:Option (Nat×Value)} (h:Instr.findNow (.int .i64) (.int .i64 n) es 0=some r) (w:World) :
  (Instr.findKey t (.int .i64 n) es).run P w=.ok r w:=by
 unfold Instr.findKey
 simp only [Sem.run_bind,under ht,Result.andThen_ok,h]
 rfl
theorem lookup_ok {t k el:TypeId} (z:Value) {w:World} {g:Nat} {M:Int→Option Value} (hm:IsMap w g M) (n:Int) (ok:Bool) (ht:P.underlying t=some (.map k el)) (hk:P.underlying k=some (.int .i64))
  (hiz:(P.info? el).bind (·.zero)=some z) :
  (Instr.lookup t (.map (some g)) (.int .i64 n) ok).run P w=.ok (if ok then .tuple #[(M n).getD z,.bool (M n).isSome] else (M n).getD z) w:=by
 obtain ⟨es,c,hb,hkeys,hM⟩:=hm
 obtain ⟨i,hi,hz⟩:∃ i,P.info? el=some i∧i.zero=some z:=by
  cases hx:P.info? el with
  | none=>simp [hx] at hiz
  | some i=>exact ⟨i,rfl,by simpa [hx] using hiz⟩
 unfold Instr.lookup
 simp only [Sem.run_bind,under ht,Result.andThen_ok,getObj_ok hb,Sem.run_pure,checkKey_int hk]
 rcases findNow_ent n es.toList 0 hkeys with ⟨j,v,h1,h2,_⟩ | ⟨h1,h2⟩
 ·rw [findKey_ok hk h1]
  rw [hM] at h2
  simp only [Result.andThen_ok,h2]
  cases ok<;>rfl
 ·rw [findKey_ok hk h1]
  rw [hM] at h2
  simp only [Result.andThen_ok,Sem.run_bind,zeroof hi hz,Sem.run_pure,h2]
  cases ok<;>rfl
theorem ent_append (n:Int) (e:MapEntry) {m:Int} (he:e.key=.int .i64 m):∀ es:List MapEntry,ent n (es++[e])=match ent n es with | some v=>some v | none=>if n=m then some e.val else none
 | []=>by simp [ent,he]
 | x::es=>by
  simp only [List.cons_append,ent]
  split
  ·split
   ·rfl
   ·exact ent_append n e he es
  ·exact ent_append n e he es
theorem setObj_ok {w:World} {g:Nat} {es es':Array MapEntry} {c c':Nat} (h:w.heap[g]? = some (.map es c)):(setObj g (.map es' c')).run P w=.ok () { w with heap:=w.heap.setIfInBounds g (.map es' c') }:=by
 simp [setObj,Sem.run,h]
theorem setObj_fr (w:World) (g:Nat) (o:Obj):Fr (only g) w { w with heap:=w.heap.setIfInBounds g o }:=
 ⟨rfl,rfl,rfl,by simp,fun k _ hn=>by
  show (w.heap.setIfInBounds g o)[k]? = _
  rw [Array.getElem?_setIfInBounds_ne (fun e=>hn e.symm)]⟩
theorem heap_set {h:Array Obj} {g:Nat} (hg:g<h.size) (o:Obj):(h.setIfInBounds g o)[g]? = some o:=by simp [hg]
theorem update_ok {t k el:TypeId} {w:World} {g:Nat} {M:Int→Option Value} (hm:IsMap w g M) (n:Int) (v:Value) (ht:P.underlying t=some (.map k el)) (hk:P.underlying k=some (.int .i64)) :
  ∃ w',(Instr.mapUpdate t (.map (some g)) (.int .i64 n) v).run P w=.ok () w'∧Fr (only g) w w'∧w'.heap.size=w.heap.size∧IsMap w' g (fun m=>if m=n then some v else M m):=by
 obtain ⟨es,c,hb,hkeys,hM⟩:=hm
 have hlt:=z3z hb
 unfold Instr.mapUpdate
 simp only [Sem.run_bind,under ht,Result.andThen_ok,getObj_ok hb,checkKey_int hk]
 rcases findNow_ent n es.toList 0 hkeys with ⟨j,u,h1,h2,e,h3,h4,h5,h6⟩ | ⟨h1,h2⟩
 ·rw [findKey_ok hk h1]
  have hj:es[0+j]? = some e:=by rw [Nat.zero_add];simpa using h3
  have hk2:(Instr.keyThatStays e.key (.int .i64 n)).run P w=.ok (.int .i64 n) w:=by
   rw [h4]
   unfold Instr.keyThatStays
   have:Instr.sameBits 10000 (.int .i64 n) (.int .i64 n)=true:=by
    show Instr.sameBits (9999+1) (.int .i64 n) (.int .i64 n)=true
    simp [Instr.sameBits]
   simp [this]
  simp only [Result.andThen_ok,Sem.run_bind,hj,Option.map_some,Option.getD_some,hk2,setObj_ok hb]
  refine ⟨_,rfl,setObj_fr _ _ _,by simp,_,_,heap_set hlt _,?_,?_⟩
  ·intro e' he'
   rw [Array.mem_toList_iff,Array.mem_iff_getElem?] at he'
   obtain ⟨q,hq⟩:=he'
   rw [Array.getElem?_modify] at hq
   split at hq
   ·cases hx:es[q]? with
    | none=>simp [hx] at hq
    | some x=>simp [hx] at hq;subst hq;exact ⟨n,rfl⟩
   ·exact hkeys e' (by rw [Array.mem_toList_iff,Array.mem_iff_getElem?];exact ⟨q,hq⟩)
  ·intro m
   have hlist:(es.modify (0+j) fun e=>{ key:=.int .i64 n,val:=v,born:=e.born }).toList=es.toList.set j { e with val:=v }:=by
    rw [Nat.zero_add,Array.toList_modify]
    apply List.ext_getElem?
    intro q
    rw [List.getElem?_modify,List.getElem?_set]
    by_cases hq:j=q
    ·subst hq
     have hlt2:j<es.toList.length:=(List.getElem?_eq_some_iff.1 h3).1
     simp only [if_true,h3,hlt2]
     cases e;simp only at h4;rw [h4]
     rfl
    ·simp [hq]
   rw [hlist]
   by_cases hmn:m=n
   ·subst hmn;rw [h5];simp
   ·rw [h6 m v hmn,hM];simp [hmn]
 ·rw [findKey_ok hk h1]
  simp only [Result.andThen_ok,setObj_ok hb]
  refine ⟨_,rfl,setObj_fr _ _ _,by simp,_,_,heap_set hlt _,?_,?_⟩
  ·intro e' he'
   simp at he'
   rcases he' with he' | rfl
   ·exact hkeys e' (by simpa using he')
   ·exact ⟨n,rfl⟩
  ·intro m
   rw [Array.toList_push,ent_append m _ rfl]
   rw [hM] at h2
   rw [hM]
   by_cases hmn:m=n
   ·subst hmn;rw [h2];simp
   ·simp only [hmn,if_false];cases M m<;>rfl
end Vc
namespace Vc
variable {P:Program}
theorem checkKey_str {t:TypeId} (ht:P.underlying t=some .string) (b:Bool) (s:ByteArray) (w:World):(Instr.checkKey b 10000 t (.string s)).run P w=.ok () w:=by
 show (Instr.checkKey b (9999+1) t (.string s)).run P w=.ok () w
 unfold Instr.checkKey
 simp only [Sem.run_bind,under ht,Result.andThen_ok]
 rfl
theorem ba_bne {a b:ByteArray} (h:a≠b):(a==b)=false:=by
 cases hb:(a==b) with
 | false=>rfl
 | true=>
  exfalso;apply h
  cases a;cases b
  have:(ByteArray.beq _ _)=true:=hb
  unfold ByteArray.beq at this
  simp at this
  rw [this]
theorem findNow_none (s:ByteArray):∀ (es:List MapEntry) (i:Nat),(∀ e∈es,∃ s',e.key=.string s'∧s≠s')→Instr.findNow .string (.string s) es i=some none
 | [],_,_=>rfl
 | e::es,i,h=>by
  obtain ⟨s',hk,hne⟩:=h e (by simp)
  have hs:Instr.sameNow .string (.string s) e.key=some false:=by rw [hk];exact congrArg some (ba_bne hne)
  simp only [Instr.findNow,hs]
  exact findNow_none s es (i+1) fun x hx=>h x (by simp [hx])
theorem insert_str {t k el:TypeId} {w:World} {g:Nat} {es:Array MapEntry} {c:Nat} (hb:w.heap[g]? = some (.map es c)) (s:ByteArray) (v:Value) (ht:P.underlying t=some (.map k el)) (hk:P.underlying k=some .string)
  (hn:∀ e∈es.toList,∃ s',e.key=.string s'∧s≠s') {K:World→Prop}
  (h:∀ w',w'.heap[g]? = some (.map (es.push { key:=.string s,val:=v,born:=c }) (c+1))→Fr (only g) w w'→w'.heap.size=w.heap.size→K w'):RunU P (Instr.mapUpdate t (.map (some g)) (.string s) v) w K:=by
 have hlt:=z3z hb
 refine ⟨_,?_,h _ (heap_set hlt _) (setObj_fr _ _ _) (by simp)⟩
 have hf:(Instr.findKey k (.string s) es.toList).run P w=.ok none w:=by
  unfold Instr.findKey
  simp only [Sem.run_bind,under hk,Result.andThen_ok,findNow_none s es.toList 0 hn]
  rfl
 unfold Instr.mapUpdate
 simp only [Sem.run_bind,under ht,Result.andThen_ok,getObj_ok hb,checkKey_str hk,hf,setObj_ok hb]
structure MIt (w:World) (r m:Nat) (es:Array MapEntry) (c:Nat) (seen:Array Nat):Prop where
 it:w.heap[r]? = some (.mapIter (some m) c seen c)
 map:w.heap[m]? = some (.map es c)
 old:∀ x∈es.toList,x.born<c
 nodup:(es.toList.map (·.born)).Nodup
theorem MIt.keep {w w':World} {r m:Nat} {es:Array MapEntry} {c:Nat} {seen:Array Nat} (h:MIt w r m es c seen) {S:Nat→Prop} (f:Fr S w w') (h1:¬ S r) (h2:¬ S m):MIt w' r m es c seen:=
 ⟨f.keep h.it h1,f.keep h.map h2,h.old,h.nodup⟩
theorem MIt.keep0 {w w':World} {r m:Nat} {es:Array MapEntry} {c:Nat} {seen:Array Nat} (h:MIt w r m es c seen) (f:Fr none1 w w'):MIt w' r m es c seen:=h.keep f (fun t=>t) (fun t=>t)
def leftN (w:World) (r m:Nat):Nat:=match w.heap[r]?,w.heap[m]? with
 | some (.mapIter _ _ seen _),some (.map es _)=>(leftOf es seen).size
 | _,_=>0
theorem MIt.left {w:World} {r m:Nat} {es:Array MapEntry} {c:Nat} {seen:Array Nat} (h:MIt w r m es c seen):leftN w r m=(leftOf es seen).size:=by
 unfold leftN;rw [h.it,h.map]
theorem mrange_ok {t k el:TypeId} {w:World} {m:Nat} {es:Array MapEntry} {c:Nat} (ht:P.underlying t=some (.map k el)) (hb:w.heap[m]? = some (.map es c)) (ho:∀ x∈es.toList,x.born<c) (hn:(es.toList.map (·.born)).Nodup) {K:Option Addr→World→Prop}
  (h:∀ r w1,r=w.heap.size→MIt w1 r m es c #[]→Fr none1 w w1→K (some ⟨r,0,none⟩) w1):RunK P (Instr.range t (.map (some m))) w (.v (.one .ptr)) K:=by
 refine ⟨some ⟨w.heap.size,0,none⟩,{ w with heap:=w.heap.push (.mapIter (some m) c #[] c) },?_,h _ _ rfl ⟨by simp,(push_fr w _).keep0 hb,ho,hn⟩ (push_fr w _)⟩
 simp [Instr.range,under ht,getObj_ok hb,newObj,Sem.run]
 rfl
theorem mnext_ok {ty:TypeId} {w:World} {r m:Nat} {es:Array MapEntry} {c:Nat} {seen:Array Nat} (h:MIt w r m es c seen) {yes:Value→Value→World→Prop} {no:World→Prop} (hrm:r≠m)
  (hy:∀ e,e∈es.toList→seen.contains e.born=false→∀ w1,MIt w1 r m es c (seen.push e.born)→Fr (only r) w w1→leftN w1 r m<leftN w r m →
   (∀ {K:Value×Value×Unit→World→Prop},K (e.key,e.val,()) w1→RunK P (Instr.entry (.pointer (some ⟨r,0,none⟩))) w1 (.tup [.one .raw,.one .raw]) K)→yes e.key e.val w1)
  (hn:(∀ e∈es.toList,seen.contains e.born=true)→no w):MnextK P (.pointer (some ⟨r,0,none⟩)) ty w yes no:=by
 rcases run_next_at (P:=P) w ty r m c c seen es c h.it h.map h.old (Nat.le_refl _) with ⟨h0,hr⟩ | ⟨e,he,w1,hw1,hr⟩
 ·refine ⟨.inr ⟨w,hr,hn fun e he=>?_⟩⟩
  cases hc:seen.contains e.born with
  | true=>rfl
  | false=>
   have:e∈leftOf es seen:=Array.mem_filter.2 ⟨Array.mem_toList_iff.1 he,by rw [hc];rfl⟩
   have:=Array.size_pos_of_mem this
   omega
 ·obtain ⟨h1,h2⟩:=mem_left he
  have hh:w1.heap=w.heap:=by rcases hw1 with rfl | rfl<;>rfl
  have hlt:=z3z h.it
  obtain ⟨w2,hw2⟩:∃ w2,w2=Go.ChangeMaps.setBlock w1 r (.mapIter (some m) c (seen.push e.born) c):=⟨_,rfl⟩
  rw [← hw2] at hr
  have hheap:w2.heap=w.heap.setIfInBounds r (.mapIter (some m) c (seen.push e.born) c):=by rw [hw2];show w1.heap.setIfInBounds r _=_;rw [hh]
  have hf:Fr (only r) w w2:=by
   refine ⟨?_,?_,?_,by rw [hheap];simp,fun k _ hk=>?_⟩
   ·rw [hw2];show w1.os=w.os;rcases hw1 with rfl | rfl<;>rfl
   ·rw [hw2];show w1.tape=w.tape;rcases hw1 with rfl | rfl<;>rfl
   ·rw [hw2];show w1.output=w.output;rcases hw1 with rfl | rfl<;>rfl
   ·rw [hheap,Array.getElem?_setIfInBounds_ne (fun t=>hk t.symm)]
  have hit:w2.heap[r]? = some (.mapIter (some m) c (seen.push e.born) c):=by rw [hheap];exact heap_set hlt _
  have hmp:w2.heap[m]? = some (.map es c):=hf.keep1 h.map (fun t=>hrm t.symm)
  have hM:MIt w2 r m es c (seen.push e.born):=⟨hit,hmp,h.old,h.nodup⟩
  refine ⟨.inl ⟨e.key,e.val,w2,hr,hy e h1 h2 w2 hM hf ?_ ?_⟩⟩
  ·rw [hM.left,h.left];exact left_shrinks es seen e he
  ·intro K hK
   exact ⟨(e.key,e.val,()),w2,run_entry_at w2 r m c seen es c e hit hmp h1 h.nodup,hK⟩
end Vc
def str (bs:List UInt8):ByteArray:=⟨bs.toArray⟩
theorem z1z (bs:List UInt8):(str bs).size=bs.length:=by unfold str;simp [ByteArray.size]
theorem z5z (bs:List UInt8):(str bs).data.toList=bs:=by unfold str;simp
theorem str_of (s:ByteArray):str s.data.toList=s:=by unfold str;cases s;simp
theorem str_app (a b:List UInt8):str a++str b=str (a++b):=by
 apply ByteArray.ext
 simp [str]
theorem str_inj {a b:List UInt8} (h:str a=str b):a=b:=by
 have:=congrArg (fun s=>s.data.toList) h
 simpa [z5z] using this
theorem ba_len (s:ByteArray):s.data.toList.length=s.size:=Array.length_toList
theorem bytes_beq (x y:ByteArray):(x.toList==y.toList)=decide (x=y):=by
 rw [ByteArray.toList_eq,ByteArray.toList_eq]
 by_cases h:x=y
 ·subst h;simp
 ·rw [decide_eq_false h]
  have:x.data.toList≠y.data.toList:=fun t=>h (by cases x;cases y;simpa using t)
  simpa using this
theorem str_beq (x y:List UInt8):((str x).toList==(str y).toList)=decide (x=y):=by
 rw [bytes_beq]
 exact decide_eq_decide.2 ⟨str_inj,fun h=>by rw [h]⟩
theorem get_list (s:ByteArray) (k:Nat):s.get! k=s.data.toList.getD k 0:=by
 cases s with
 | mk d=>
  show d[k]! = d.toList.getD k 0
  by_cases h:k<d.size
  ·rw [getElem!_pos d k h];simp [List.getD,h]
  ·rw [getElem!_neg d k h];simp [List.getD,h];rfl
theorem dec_eq {s t:ByteArray} {i j:Nat} (hg:∀ k,s.get! (i+k)=t.get! (j+k)) (hs:∀ k,(i+k<s.size)=(j+k<t.size)):Utf8.decode s i=Utf8.decode t j:=by
 simp only [Utf8.decode,hg,hs]
def decL (l:List UInt8):Nat×Nat:=Utf8.decode (str l) 0
theorem decL_drop (s:ByteArray) (pos:Nat):Utf8.decode s pos=decL (s.data.toList.drop pos):=by
 unfold decL
 refine dec_eq (fun k=>?_) (fun k=>propext ?_)
 ·rw [get_list,get_list,z5z]
  simp [List.getD,List.getElem?_drop]
 ·rw [z1z,List.length_drop,Array.length_toList]
  show pos+k<s.data.size↔_
  omega
theorem z56z (l:List UInt8):1≤(decL l).2:=by
 simp only [decL,Utf8.decode]
 repeat' split
 all_goals simp
def runesF:Nat→List UInt8→List Int
 | 0,_=>[]
 | f+1,l=>if l=[] then [] else ((decL l).1:Int)::runesF f (l.drop (decL l).2)
def runesL (l:List UInt8):List Int:=runesF l.length l
theorem z58z:∀ n,runesF n []=[]
 | 0=>rfl
 | _+1=>by simp [runesF]
theorem runesF_fuel:∀ (n m:Nat) (l:List UInt8),l.length≤n→l.length≤m→runesF n l=runesF m l
 | 0,m,l,hn,_=>by
  have:l=[]:=List.eq_nil_of_length_eq_zero (by omega)
  subst this
  rw [z58z,z58z]
 | n+1,0,l,_,hm=>by
  have:l=[]:=List.eq_nil_of_length_eq_zero (by omega)
  subst this
  rw [z58z,z58z]
 | n+1,m+1,l,hn,hm=>by
  by_cases hne:l=[]
  ·subst hne
   rw [z58z,z58z]
  ·have hw:=z56z l
   have hl:0<l.length:=List.length_pos_iff.2 hne
   simp only [runesF,if_neg hne]
   rw [runesF_fuel n m _ (by rw [List.length_drop];omega) (by rw [List.length_drop];omega)]
theorem runesL_nil:runesL []=[]:=rfl
theorem runesL_step (l:List UInt8) (hne:l≠[]):runesL l=((decL l).1:Int)::runesL (l.drop (decL l).2):=by
 have hw:=z56z l
 have hl:0<l.length:=List.length_pos_iff.2 hne
 unfold runesL
 obtain ⟨n,hn⟩:∃ n,l.length=n+1:=⟨l.length - 1,by omega⟩
 rw [hn]
 simp only [runesF,if_neg hne]
 rw [runesF_fuel n _ _ (by rw [List.length_drop];omega) (Nat.le_refl _)]
def okR (r:Int):Prop:=(0≤r∧r<55296)∨(57344≤r∧r≤1114111)
theorem okR_valid {r:Int} (h:okR r):Utf8.valid r=true:=by
 unfold okR at h
 unfold Utf8.valid
 simpa using h
theorem okR_dec (l:List UInt8):okR ((decL l).1:Int):=by
 have hb:∀ k,((str l).get! (0+k)).toNat<256:=fun k=>((str l).get! (0+k)).toNat_lt
 have h0:=hb 0
 unfold okR
 simp only [decL,Utf8.decode]
 repeat' split
 all_goals simp_all [Utf8.runeError,Utf8.valid]
 all_goals omega
theorem okR_runesF:∀ (n:Nat) (l:List UInt8),∀ c∈runesF n l,okR c
 | 0,l,c,hc=>by simp [runesF] at hc
 | n+1,l,c,hc=>by
  unfold runesF at hc
  split at hc
  ·simp at hc
  ·rcases List.mem_cons.1 hc with h | h
   ·rw [h];exact okR_dec l
   ·exact okR_runesF n _ c h
theorem okR_runes (l:List UInt8):∀ c∈runesL l,okR c:=okR_runesF _ _
theorem runesF_len:∀ (n:Nat) (l:List UInt8),(runesF n l).length≤l.length
 | 0,l=>by simp [runesF]
 | n+1,l=>by
  unfold runesF
  split
  ·simp
  ·rename_i hne
   have hw:=z56z l
   have:=runesF_len n (l.drop (decL l).2)
   rw [List.length_drop] at this
   have hl:0<l.length:=List.length_pos_iff.2 hne
   simp only [List.length_cons]
   omega
theorem z37z (l:List UInt8):(runesL l).length≤l.length:=runesF_len _ _
def enc (r:Int):List UInt8:=(Utf8.encode r).data.toList
def txt (rs:List Int):List UInt8:=rs.flatMap enc
theorem txt_cons (r:Int) (rs:List Int):txt (r::rs)=enc r++txt rs:=by unfold txt;rw [List.flatMap_cons]
theorem txt_append (a b:List Int):txt (a++b)=txt a++txt b:=by unfold txt;rw [List.flatMap_append]
theorem txt_one (r:Int):txt [r]=enc r:=by unfold txt;simp
theorem txt_nil:txt []=[]:=rfl
theorem u8_of {n:Nat} (h:n<256):(UInt8.ofNat n).toNat=n:=by
 rw [UInt8.toNat_ofNat'];exact Nat.mod_eq_of_lt h
theorem enc_eq (n:Nat) (h:okR (n:Int)):enc (n:Int)=if n<128 then [UInt8.ofNat n] else if n<2048 then [UInt8.ofNat (192+n / 64),UInt8.ofNat (128+n % 64)] else
  if n<65536 then [UInt8.ofNat (224+n / 4096),UInt8.ofNat (128+n / 64 % 64),UInt8.ofNat (128+n % 64)] else [UInt8.ofNat (240+n / 262144),UInt8.ofNat (128+n / 4096 % 64),UInt8.ofNat (128+n / 64 % 64),UInt8.ofNat (128+n % 64)]:=by
 unfold enc Utf8.encode
 simp only [okR_valid h,if_true,Int.toNat_natCast]
 split
 ·rfl
 split
 ·rfl
 split<;>rfl
theorem dec_enc (r:Int) (h:okR r) (t:List UInt8):decL (enc r++t)=(r.toNat,(enc r).length):=by
 obtain ⟨n,rfl⟩:∃ n:Nat,r=n:=⟨r.toNat,by unfold okR at h;omega⟩
 have hv:=okR_valid h
 rw [Int.toNat_natCast,enc_eq n h]
 unfold okR at h
 split
 ·simp only [decL,Utf8.decode,get_list,z5z,z1z,List.cons_append,List.nil_append,List.getD_cons_zero,List.length_cons,List.length_nil,Nat.add_zero]
  rw [u8_of (by omega),if_pos (by omega)]
 split
 ·simp only [decL,Utf8.decode,get_list,z5z,z1z,List.cons_append,List.nil_append,List.getD_cons_zero,List.getD_cons_succ,List.length_cons,List.length_nil,Nat.add_zero,Nat.zero_add]
  rw [u8_of (n:=192+n / 64) (by omega),u8_of (n:=128+n % 64) (by omega)]
  have e:(192+n / 64) % 32 * 64+(128+n % 64) % 64=n:=by omega
  rw [e,if_neg (by omega),if_pos (by simp;omega),if_pos (by omega)]
 split
 ·simp only [decL,Utf8.decode,get_list,z5z,z1z,List.cons_append,List.nil_append,List.getD_cons_zero,List.getD_cons_succ,List.length_cons,List.length_nil,Nat.add_zero,Nat.zero_add]
  rw [u8_of (n:=224+n / 4096) (by omega),u8_of (n:=128+n / 64 % 64) (by omega),u8_of (n:=128+n % 64) (by omega)]
  have e:(224+n / 4096) % 16 * 4096+(128+n / 64 % 64) % 64 * 64+(128+n % 64) % 64=n:=by omega
  rw [e,if_neg (by omega),if_neg (by simp;omega),if_pos (by simp;omega),if_pos (by rw [hv];simp;omega)]
 ·simp only [decL,Utf8.decode,get_list,z5z,z1z,List.cons_append,List.nil_append,List.getD_cons_zero,List.getD_cons_succ,List.length_cons,List.length_nil,Nat.add_zero,Nat.zero_add]
  rw [u8_of (n:=240+n / 262144) (by omega),u8_of (n:=128+n / 4096 % 64) (by omega),u8_of (n:=128+n / 64 % 64) (by omega),u8_of (n:=128+n % 64) (by omega)]
  have e:(240+n / 262144) % 8 * 262144+(128+n / 4096 % 64) % 64 * 4096+(128+n / 64 % 64) % 64 * 64+(128+n % 64) % 64=n:=by omega
  rw [e,if_neg (by omega),if_neg (by simp;omega),if_neg (by simp;omega),if_pos (by simp;omega),if_pos (by rw [hv];simp;omega)]
theorem enc_size (r:Int):1≤(Utf8.encode r).size:=by
 unfold Utf8.encode
 dsimp only
 generalize (if Utf8.valid r=true then r.toNat else Utf8.runeError)=c
 split
 ·exact Nat.le_refl 1
 split
 ·exact Nat.le_succ 1
 split
 ·exact Nat.succ_le_of_lt (Nat.succ_pos 2)
 ·exact Nat.succ_le_of_lt (Nat.succ_pos 3)
theorem enc_pos (r:Int):enc r≠[]:=by
 intro h
 have:=enc_size r
 have h2:(Utf8.encode r).size=(enc r).length:=by unfold enc;rw [Array.length_toList];rfl
 rw [h2,h] at this
 simp at this
theorem enc_len (r:Int):1≤(enc r).length∧(enc r).length≤4:=by
 constructor
 ·exact List.length_pos_iff.2 (enc_pos r)
 ·have:=encode_size_le r
  have h2:(Utf8.encode r).size=(enc r).length:=by unfold enc;rw [Array.length_toList];rfl
  omega
theorem runes_enc (r:Int) (h:okR r) (t:List UInt8):runesL (enc r++t)=r::runesL t:=by
 rw [runesL_step _ (by have:=enc_pos r;simp [this]),dec_enc r h,List.drop_left]
 have:0≤r:=by unfold okR at h;omega
 congr 1
 omega
theorem runes_txt:∀ (rs:List Int) (t:List UInt8),(∀ r∈rs,okR r)→runesL (txt rs++t)=rs++runesL t
 | [],t,_=>rfl
 | r::rs,t,h=>by
  rw [txt_cons,List.append_assoc,runes_enc r (h r (by simp)),runes_txt rs t (fun c hc=>h c (by simp [hc]))]
  rfl
theorem runes_txt0 (rs:List Int) (h:∀ r∈rs,okR r):runesL (txt rs)=rs:=by
 have:=runes_txt rs [] h
 rwa [List.append_nil,runesL_nil,List.append_nil] at this
theorem txt_len (rs:List Int):rs.length≤(txt rs).length∧(txt rs).length≤4 * rs.length:=by
 induction rs with
 | nil=>simp [txt]
 | cons r rs ih=>
  have:=enc_len r
  rw [txt_cons,List.length_append,List.length_cons]
  omega
theorem enc_str (r:Int):Utf8.encode r=str (enc r):=by unfold enc;rw [str_of]
def IsIt (w:World) (r:Nat) (rs:List Int):Prop:=∃ s pos,w.heap[r]? = some (.stringIter s pos)∧runesL (s.data.toList.drop pos)=rs
theorem IsIt.keep {w w':World} {r:Nat} {rs:List Int} (h:IsIt w r rs) {S:Nat→Prop} (f:Fr S w w') (hn:¬ S r):IsIt w' r rs:=by
 obtain ⟨s,pos,a,b⟩:=h
 exact ⟨s,pos,f.keep a hn,b⟩
theorem IsIt.keep0 {w w':World} {r:Nat} {rs:List Int} (h:IsIt w r rs) (f:Fr none1 w w'):IsIt w' r rs:=h.keep f (fun t=>t)
theorem IsIt.lt {w:World} {r:Nat} {rs:List Int} (h:IsIt w r rs):r<w.heap.size:=by
 obtain ⟨s,pos,a,b⟩:=h
 exact z3z a
theorem range_ok {w:World} {t:TypeId} (ht:Tryz.prog.underlying t=some .string) (s:ByteArray) {K:Option Addr→World→Prop}
  (hK:∀ r w1,r=w.heap.size→IsIt w1 r (runesL s.data.toList)→Fr none1 w w1→K (some ⟨r,0,none⟩) w1):RunK Tryz.prog (Instr.range t (.string s)) w (.v (.one .ptr)) K:=by
 refine ⟨some ⟨w.heap.size,0,none⟩,{ w with heap:=w.heap.push (.stringIter s 0) },?_,hK _ _ rfl ⟨s,0,Array.getElem?_push_size ..,by rw [List.drop_zero]⟩ (push_fr _ _)⟩
 unfold Instr.range
 simp only [Sem.run_bind,under ht,Result.andThen_ok,Sem.run_pure,run_newObj]
 rfl
theorem next_ok {w:World} {r:Nat} {rs:List Int} (h:IsIt w r rs) {yes:Int→Int→World→Prop} {no:Prop}
  (hy:∀ c rest pos w1,rs=c::rest→okR c→IsIt w1 r rest→Fr (only r) w w1→yes pos c w1) (hn:rs=[]→no):NextK (some ⟨r,0,none⟩) w yes no:=by
 obtain ⟨s,pos,hb,rfl⟩:=h
 refine ⟨r,s,pos,rfl,hb,?_⟩
 have hsz:s.size=s.data.toList.length:=by rw [Array.length_toList];rfl
 split
 ·rename_i hlt
  have hne:s.data.toList.drop pos≠[]:=fun t=>by
   have:=congrArg List.length t
   rw [List.length_drop,List.length_nil] at this
   omega
  have hst:=runesL_step _ hne
  rw [← decL_drop,List.drop_drop] at hst
  refine hy _ _ _ _ hst ?_ ⟨s,_,?_,rfl⟩ ?_
  ·have:=okR_dec (s.data.toList.drop pos)
   rwa [← decL_drop] at this
  ·have:=z3z hb
   exact Array.getElem?_setIfInBounds_self_of_lt this
  ·refine ⟨rfl,rfl,rfl,by simp,fun k hk hn=>?_⟩
   have:r≠k:=fun e=>hn e.symm
   exact Array.getElem?_setIfInBounds_ne this
 ·rename_i hge
  refine hn ?_
  rw [List.drop_of_length_le (by omega)]
  rfl
end Go.Proofs.YtdphmcanlhcokaaGreatDoor
