/-
  Texts of this claim, put together.
  Conditions: those of each theorem.
-/
import Derived.Below
import Derived.Deep.Draws
import Derived.IntWalk
import Derived.KernelRfl
import Derived.Laws.Cover4
import Derived.Laws.Runes
import Derived.Laws.StructEq
import Derived.Laws.Tables
import Derived.Maps.RangeRun
import Derived.StillTail
import Derived.Test.YtfolkckcakndkaaGreatDoorProg
namespace Go.Proofs.YtfolkckcakndkaaGreatDoor
theorem ab {p:Prop}(h:p:=by omega):p:=h
theorem ar {p:Prop}(h:p:=by decide):p:=h
theorem bm {p:Prop}(h:p:=by simp):p:=h
namespace Vc
inductive Ck where
 | int (k:IntKind) | bool | str | ptr | bE | map | raw
 deriving Inhabited
@[reducible] def Ck.C:Ck->Type
 | .int _=>Int | .bool=>Bool | .str=>ByteArray | .ptr=>Option Addr | .bE=>Option Addr×Nat×Nat | .map=>Option Nat | .raw=>Value
def Ck.val:(c:Ck)->c.C->Value
 | .int k,n=>.int k n
 | .bool,b=>.bool b
 | .str,s=>.string s
 | .ptr,p=>.pointer p
 | .bE,x=>.slice x.1 x.2.1 x.2.2
 | .map,r=>.map r
 | .raw,v=>v
@[reducible] def Cs:List Ck->Type
 | []=>Unit
 | c::cs=>c.C×Cs cs
def Cs.vals:(cs:List Ck)->Cs cs->List Value
 | [],_=>[]
 | c::cs,x=>c.val x.1::Cs.vals cs x.2
inductive Kd where
 | one (c:Ck) | agg (cs:List Ck) | arr
 deriving Inhabited
@[reducible] def Kd.C:Kd->Type
 | .one c=>c.C | .agg cs=>Cs cs | .arr=>List Value
def Kd.val:(k:Kd)->k.C->Value
 | .one c,x=>c.val x
 | .agg cs,x=>.agg (Cs.vals cs x).toArray
 | .arr,x=>.agg x.toArray
@[reducible] def St:List Kd->Type
 | []=>Unit
 | k::ks=>k.C×St ks
def St.vals:(ks:List Kd)->St ks->List Value
 | [],_=>[]
 | k::ks,x=>k.val x.1::St.vals ks x.2
inductive Rk where
 | v (k:Kd) | bR (ks:List Kd)
@[reducible] def Rk.C:Rk->Type
 | .v k=>k.C | .bR ks=>St ks
def Rk.val:(r:Rk)->r.C->Value
 | .v k,x=>k.val x
 | .bR ks,x=>.tuple (St.vals ks x).toArray
def Ck.ex:(c:Ck)->Value->(c.C->Prop)->Prop
 | .int k,v,K=>match v with | .int k' n=>(match decide (k'=k) with | true=>K n | false=>False) | _=>False
 | .bool,v,K=>match v with | .bool b=>K b | _=>False
 | .str,v,K=>match v with | .string s=>K s | _=>False
 | .ptr,v,K=>match v with | .pointer p=>K p | _=>False
 | .bE,v,K=>match v with | .slice p l c=>K (p,l,c) | _=>False
 | .map,v,K=>match v with | .map r=>K r | _=>False
 | .raw,v,K=>K v
theorem Ck.nD {c:Ck}{v:Value}{K:c.C->Prop}(h:c.ex v K):∃ x,v=c.val x/\K x:=by
 cases c<;>simp only[Ck.ex] at h
 case int k=>
  cases v<;>simp only at h
  rename_i k' n
  by_cases e:k'=k
  ·simp only[e,decide_true] at h;exact⟨n,by rw[e];rfl,h⟩
  ·simp[e] at h
 case raw=>exact⟨v,rfl,h⟩
 all_goals (cases v<;>simp only at h;exact⟨_,rfl,h⟩)
def Cs.ex:(cs:List Ck)->List Value->(Cs cs->Prop)->Prop
 | [],l,K=>match l with | []=>K () | _::_=>False
 | c::cs,l,K=>match l with | []=>False | v::l=>c.ex v λ x=>Cs.ex cs l λ y=>K (x,y)
theorem Cs.nD:∀ {cs:List Ck} {l:List Value} {K:Cs cs->Prop},Cs.ex cs l K->∃ x,l=Cs.vals cs x/\K x
 | [],l,K,h=>by
  cases l with
  | nil=>exact⟨(),rfl,h⟩
  | cons a l=>exact h.elim
 | c::cs,l,K,h=>by
  cases l with
  | nil=>exact h.elim
  | cons v l=>
   obtain⟨x,rfl,h1⟩:=Ck.nD (c:=c) (v:=v) (K:=λ x=>Cs.ex cs l λ y=>K (x,y)) h;obtain⟨y,rfl,h2⟩:=Cs.nD h1;exact⟨(x,y),rfl,h2⟩
def Kd.ex:(k:Kd)->Value->(k.C->Prop)->Prop
 | .one c,v,K=>c.ex v K
 | .agg cs,v,K=>match v with | .agg a=>Cs.ex cs a.toList K | _=>False
 | .arr,v,K=>match v with | .agg a=>K a.toList | _=>False
theorem Kd.nD {k:Kd}{v:Value}{K:k.C->Prop}(h:k.ex v K):∃ x,v=k.val x/\K x:=by
 cases k<;>simp only[Kd.ex] at h
 case one c=>exact Ck.nD h
 case agg cs=>
  cases v<;>simp only at h
  rename_i a;obtain⟨x,hx,h⟩:=Cs.nD h;exact⟨x,by simp only[Kd.val,<- hx],h⟩
 case arr=>
  cases v<;>simp only at h
  rename_i a;exact⟨a.toList,by simp only[Kd.val],h⟩
def St.ex:(ks:List Kd)->List Value->(St ks->Prop)->Prop
 | [],l,K=>match l with | []=>K () | _::_=>False
 | k::ks,l,K=>match l with | []=>False | v::l=>k.ex v λ x=>St.ex ks l λ y=>K (x,y)
theorem St.nD:∀ {ks:List Kd} {l:List Value} {K:St ks->Prop},St.ex ks l K->∃ x,l=St.vals ks x/\K x
 | [],l,K,h=>by
  cases l with
  | nil=>exact⟨(),rfl,h⟩
  | cons a l=>exact h.elim
 | k::ks,l,K,h=>by
  cases l with
  | nil=>exact h.elim
  | cons v l=>
   obtain⟨x,rfl,h1⟩:=Kd.nD (k:=k) (v:=v) (K:=λ x=>St.ex ks l λ y=>K (x,y)) h;obtain⟨y,rfl,h2⟩:=St.nD h1;exact⟨(x,y),rfl,h2⟩
def Rk.ex:(r:Rk)->Value->(r.C->Prop)->Prop
 | .v k,y,K=>k.ex y K
 | .bR ks,y,K=>match y with | .tuple a=>St.ex ks a.toList K | _=>False
theorem Rk.nD {r:Rk}{y:Value}{K:r.C->Prop}(h:r.ex y K):∃ x,y=r.val x/\K x:=by
 cases r<;>simp only[Rk.ex] at h
 case v k=>exact Kd.nD h
 case bR ks=>
  cases y<;>simp only at h
  rename_i a;obtain⟨x,hx,h⟩:=St.nD h;exact⟨x,by simp only[Rk.val,<- hx],h⟩
theorem Ck.rl {c:Ck}{x:c.C}{K:c.C->Prop}(h:K x):c.ex (c.val x) K:=by
 cases c<;>simp only[Ck.ex,Ck.val,decide_true]<;>exact h
theorem Cs.rl:∀ {cs:List Ck} {x:Cs cs} {K:Cs cs->Prop},K x->Cs.ex cs (Cs.vals cs x) K
 | [],_,_,h=>h
 | c::_,_,_,h=>Ck.rl (c:=c) (Cs.rl h)
theorem Kd.rl {k:Kd}{x:k.C}{K:k.C->Prop}(h:K x):k.ex (k.val x) K:=by
 cases k
 case one c=>exact Ck.rl h
 case agg cs=>exact Cs.rl h
 case arr=>exact h
theorem St.rl:∀ {ks:List Kd} {x:St ks} {K:St ks->Prop},K x->St.ex ks (St.vals ks x) K
 | [],_,_,h=>h
 | k::_,_,_,h=>Kd.rl (k:=k) (St.rl h)
theorem Rk.rl {r:Rk}{x:r.C}{K:r.C->Prop}(h:K x):r.ex (r.val x) K:=by
 cases r
 case v k=>exact Kd.rl h
 case bR ks=>exact St.rl h
def Bo:Value->Ck
 | .int k _=>.int k | .bool _=>.bool | .string _=>.str | .pointer _=>.ptr | .slice ..=>.bE | .map _=>.map | _=>.raw
def pA (P:Program)(t:TypeId):Kd:=
 match P.info? t with
 | some i=>match i.zero with
  | some (.agg cs)=>match P.underlying t with
   | some (.array ..)=>.arr
   | _=>.agg (cs.toList.map Bo)
  | some v=>.one (Bo v)
  | none=>.one .raw
 | none=>.one .raw
def Ku (P:Program):List TypeId->Rk
 | [t]=>.v (pA P t)
 | ts=>.bR (ts.map (pA P))
structure Env where
 l:List (Nat×Value)
 base:Nat->Value
def look:List (Nat×Value)->Nat->Option Value
 | [],_=>none
 | (u,v)::l,t=>match Nat.beq u t with | true=>some v | false=>look l t
def Env.get (e:Env)(t:Nat):Value:=match look e.l t with | some v=>v | none=>e.base t
def Env.put (e:Env)(dst:Option Nat)(v:Value):Env:=match dst with | some d=>⟨(d,v)::e.l,e.base⟩ | none=>e
def Env.eval (e:Env):Operand->Value
 | .tmp t=>e.get t
 | .const v=>v
 | .global g=>.pointer (some ⟨g,0,none⟩)
 | .func f=>.func (.func f) #[] #[]
theorem Br (u:Nat)(v:Value)(l:List (Nat×Value))(t:Nat):look ((u,v)::l) t=if t=u then some v else look l t:=by
 by_cases h:t=u
 ·subst h;simp[look]
 ·rw[if_neg h]
  have hb:Nat.beq u t=false:=by
   cases hb:Nat.beq u t with
   | false=>rfl
   | true=>exact absurd (Nat.eq_of_beq_eq_true hb).symm h
  simp[look,hb]
theorem Env.GX (e:Env)(d:Nat)(v:Value)(t:Nat):(e.put (some d) v).get t=if t=d then v else e.get t:=by
 simp only[Env.put,Env.get,Br]
 by_cases h:t=d<;>simp[h]
structure eM (n:Nat)(e:Env)(a:Act):Prop where
 size:a.tmps.size=n
 defers:a.defers=[]
 get:∀ t,a.tmps.getD t undef=e.get t
theorem eM.eval {n:Nat}{e:Env}{a:Act}(h:eM n e a):a.eval=e.eval:=by
 funext x
 cases x<;>simp[Act.eval,Env.eval,h.get]
def oQ (n:Nat):Option Nat->Bool
 | none=>true
 | some d=>Nat.blt d n
theorem eM.put {n:Nat}{e:Env}{a:Act}(h:eM n e a)(dst:Option Nat)(hd:oQ n dst=true)(v:Value):eM n (e.put dst v) (a.put dst v):=by
 cases dst with
 | none=>exact h
 | some d=>
  have bI:d<n:=by simp[oQ,Nat.blt] at hd;omega
  refine⟨by simp[Act.put,h.size],by simp[Act.put,h.defers],λ t=>?_⟩;rw[Env.GX];have h1:=h.size
  by_cases ht:t=d
  ·subst ht
   rw[if_pos rfl];simp[Act.put,Array.getD,Array.setIfInBounds,h1,bI]
  ·rw[if_neg ht,<- h.get t]
   have aL:d≠t:=λ x=>ht x.symm;simp only[Act.put,Array.getD_eq_getD_getElem?,Array.getElem?_setIfInBounds_ne aL]
def vK {α:Type}(P:Program):Sem α->Option α
 | .pure a=>some a
 | .program k=>vK P (k P)
 | .mark _ k=>vK P k
 | _=>none
theorem X7 {α:Type}{P:Program}:∀ {s:Sem α} {a:α},vK P s=some a->∀ w,s.run P w=.ok a w:=by
 intro s
 induction s with
 | pure b=>intro a h w;simp only[vK,Option.some.injEq] at h;rw[h];rfl
 | program k ih=>intro a h w;exact ih P h w
 | mark m k ih=>intro a h w;exact ih h w
 | _=>intro a h w;simp[vK] at h
structure af (c:Ck)(p:Addr)(w:World)(K:c.C->Prop):Prop where
 out:∃ x,w.cell? p=some (c.val x)/\K x
def ma (w:World)(p:Addr):Nat->List Value->Prop
 | _,[]=>True
 | i,v::vs=>w.cell? (p.add i)=some v/\ma w p (i+1) vs
structure aF (cs:List Ck)(p:Addr)(w:World)(K:Cs cs->Prop):Prop where
 out:∃ x,ma w p 0 (Cs.vals cs x)/\K x
structure fL (n:Nat)(p:Addr)(w:World)(K:List Value->Prop):Prop where
 out:∃ x:List Value,x.length=n/\ma w p 0 x/\K x
def cG:Value->Bool
 | .agg _ | .tuple _=>false
 | _=>true
def setCells (w:World)(p:Addr):Nat->List Value->World
 | _,[]=>w
 | i,v::vs=>setCells (w.setCell (p.add i) v) p (i+1) vs
def tz (w:World)(p:Addr):Nat->List Value->Prop
 | _,[]=>True
 | i,v::vs=>cG v=true/\(w.cell? (p.add i)).isSome=true/\w.frozen? (p.add i)=false/\tz (w.setCell (p.add i) v) p (i+1) vs
structure nE (a b:Prop):Prop where
 out:a/\b
structure aK (p:Addr)(v:Value)(w:World)(K:World->Prop):Prop where
 out:cG v=true/\(w.cell? p).isSome=true/\w.frozen? p=false/\K (w.setCell p v)
structure aG (p:Addr)(vs:List Value)(w:World)(K:World->Prop):Prop where
 out:tz w p 0 vs/\K (setCells w p 0 vs)
structure aC (o:Obj)(w:World)(K:Nat->World->Prop):Prop where
 out:K w.heap.size { w with heap:=w.heap.push o }
def ie (q:Option Addr)(K:Addr->Prop):Prop:=match q with | some a=>K a | none=>False
def ae (b:Bool)(A B:Prop):Prop:=match b with | true=>A | false=>B
structure cz (base:Option Addr)(len:Nat)(i:Int)(size:Nat)(K:Addr->Prop):Prop where
 out:∃ a,base=some a/\0<=i/\i<len/\K (a.add (i.toNat * size))
structure y7 (a:Addr)(len:Nat)(i:Int)(size:Nat)(K:Addr->Prop):Prop where
 out:0<=i/\i<len/\K (a.add (i.toNat * size))
structure ss (s:ByteArray)(i:Int)(K:Int->Prop):Prop where
 out:∃ b:UInt8,0<=i/\s[i.toNat]? = some b/\K b.toNat
structure X8 (cs:Array Value)(len:Nat)(i:Int)(c:Ck)(K:c.C->Prop):Prop where
 out:∃ x,0<=i/\i<len/\cs[i.toNat]? = some (c.val x)/\K x
structure y8 (s:ByteArray)(lo hi:Int)(K:ByteArray->Prop):Prop where
 out:0<=lo/\lo<=hi/\hi<=s.size/\K (s.extract lo.toNat hi.toNat)
structure gQ (base:Option Addr)(cap:Nat)(lo hi mx:Int)(size:Nat)(K:Option Addr->Nat->Nat->Prop):Prop where
 out:0<=lo/\lo<=hi/\hi<=mx/\mx<=cap/\K (if mx=lo then base else base.map (·.add (lo.toNat * size))) (hi - lo).toNat (mx - lo).toNat
structure aD (x:Value)(t:TypeId)(k:Kd)(yes:k.C->Prop)(no:Prop):Prop where
 out:(∃ r,x=.iface t (k.val r)/\yes r)\/((x=.nilIface\/∃ u v,x=.iface u v/\u≠t)/\no)
structure y9 (b:Int)(K:Prop):Prop where
 out:b≠0/\K
structure mb (b:Int)(K:Prop):Prop where
 out:0<=b/\K
structure Bs (a b:ByteArray)(K:Prop):Prop where
 out:((a.size+b.size:Nat):Int)<=IntKind.i64.max/\K
structure DR (m:Option Nat)(w:World)(K:Int->Prop):Prop where
 out:(m=none/\K 0)\/∃ r es c,m=some r/\w.heap[r]? = some (.map es c)/\K (es.size:Nat)
structure Bt (q:Option Addr)(w:World)(yes:Int->Int->World->Prop)(no:Prop):Prop where
 out:∃ r s pos,q=some ⟨r,0,none⟩/\w.heap[r]? = some (.stringIter s pos) /\
  if pos<s.size then yes (pos:Nat) (Utf8.decode s pos).1 { w with heap:=w.heap.setIfInBounds r (.stringIter s (pos+(Utf8.decode s pos).2)) } else no
structure kT (P:Program)(s:Sem Value)(w:World)(k:Rk)(K:k.C->World->Prop):Prop where
 out:∃ x w',s.run P w=.ok (k.val x) w'/\K x w'
structure lL (P:Program)(s:Sem Unit)(w:World)(K:World->Prop):Prop where
 out:∃ w',s.run P w=.ok () w'/\K w'
def Ret (P:Program)(f:FuncId)(args:Array Value)(w:World)(K:Value->World->Prop):Prop:=
 Calls P f args w λ e w'=>∃ v,e=.returned v/\K v w'
structure an (P:Program)(f:FuncId)(args:Array Value)(w:World)(k:Rk)(K:k.C->World->Prop):Prop where
 out:Ret P f args w λ v w'=>∃ x,v=k.val x/\K x w'
structure GY (P:Program)(it:Value)(ty:TypeId)(w:World)(yes:Value->Value->World->Prop)(no:World->Prop):Prop where
 out:(∃ k v w',(Instr.next it false ty).run P w=.ok (.tuple #[.bool true,k,v]) w'/\yes k v w')\/∃ w',(Instr.next it false ty).run P w=.ok (.tuple #[.bool false]) w'/\no w'
def PY (v:Value)(K:Value->Prop):Prop:=
 match v with
 | .pointer q=>ie q λ p=>K (.pointer (some p))
 | .func (.func f) fi ca=>K (.func (.func f) fi ca)
 | _=>False
structure aU (w:World)(K:World->Prop):Prop where
 out:K { w with drawn:=w.drawn+1 }
structure su (w:World)(body:((Nat->Bool)->World->Prop)->Prop):Prop where
 out:∃ C:(Nat->Bool)->World->Prop,C (λ _=>false) { w with drawn:=w.drawn+1 }/\body C
def xx (D:Nat->Bool)(i:Nat):Nat->Bool:=λ j=>match Nat.beq j i with | true=>true | false=>D j
structure iZ (C:(Nat->Bool)->World->Prop)(i:Nat)(pr:List Nat)(k:Rk)(op:World->(Value->World->Prop)->Prop)(next:k.C->Prop):Prop where
 out:∃ x:k.C,(∀ D w,D i=false->(∀ j,j∈pr->D j=true)->C D w->op w λ v w'=>v=k.val x/\C (xx D i) w')/\next x
def Kept (S:Nat->Prop)(w0 w:World):Prop:=∀ a v,S a.block->w0.cell? a=some v->w.cell? a=some v
structure az (S:Nat->Prop)(w0 w:World)(K:Prop):Prop where
 out:Kept S w0 w/\K
structure bL (body:(Nat->Prop)->Prop):Prop where
 out:∃ S,body S
structure aJ (S:Nat->Prop)(p:Addr)(K:Prop):Prop where
 out:S p.block/\K
structure xy (C:(Nat->Bool)->World->Prop)(i:Nat)(next:Prop):Prop where
 out:(∀ D w,C D w->C (xx D i) w)/\next
structure cp (σ:Type)(body:(Nat->Value)->σ->World->(σ->World->Prop)->Prop)(s:σ)(w:World):Prop where
 out:∃ (I:σ->World->Prop) (μ:σ->World->Nat),I s w/\∀ b s w,I s w->body b s w λ s' w'=>I s' w'/\μ s' w'<μ s w
structure dc (σ:Type)(first:(σ->World->Prop)->Prop)(rest:(Nat->Value)->σ->World->Prop):Prop where
 out:∃ J:σ->World->Prop,first J/\∀ b s w,J s w->rest b s w
def za (P:Program)(t:TypeId)(p:Addr)(w:World)(K:Value->World->Prop):Prop:=
 match P.underlying t,P.info? t with
 | some (.struct _),some i=>match i.zero with
  | some (.agg cs)=>match Nat.beq i.size (cs.toList.map Bo).length with
   | true=>aF (cs.toList.map Bo) p w λ x=>K (.agg (Cs.vals (cs.toList.map Bo) x).toArray) w
   | false=>False
  | _=>False
 | some (.array ..),some i=>fL i.size p w λ x=>K (.agg x.toArray) w
 | some _,some _=>match pA P t with
  | .one c=>af c p w λ x=>K (c.val x) w
  | _=>False
 | _,_=>False
def Bw (P:Program)(t:TypeId):Bool:=
 match P.underlying t with
 | some (.interface _) | some (.struct _) | some (.array ..)=>true
 | _=>false
def isIf (P:Program)(t:TypeId):Bool:=
 match P.underlying t with
 | some (.interface _)=>true
 | _=>false
def X9 (P:Program)(t:TypeId)(i:Nat):Bool:=
 match P.underlying t with
 | some (.struct fs)=>match fs[i]? with
  | some f=>isIf P f.type
  | none=>false
 | some (.array _ el)=>isIf P el
 | _=>false
structure lu (v:Value)(K:Prop):Prop where
 out:v.cells=#[v]/\K
structure xz (cks:List Ck)(x:List Value)(K:Cs cks->Prop):Prop where
 out:∃ y,x=Cs.vals cks y/\K y
def Ya (P:Program)(t:TypeId)(i:Nat):Option (List Ck):=
 match P.underlying t with
 | some (.struct fs)=>match fs[i]? with
  | some f=>match P.underlying f.type,(P.info? f.type).bind (·.zero) with
   | some (.array ..),some (.agg cs)=>some (cs.toList.map Bo)
   | _,_=>none
  | none=>none
 | _=>none
def zd (P:Program)(t:TypeId):List (Nat×Value)->(List (Nat×Value)->Prop)->Prop
 | [],K=>K []
 | p::l,K=>match X9 P t p.1 with
  | true=>lu p.2 (zd P t l λ vs=>K ((p.1,.agg #[p.2])::vs))
  | false=>match Ya P t p.1 with
   | some cks=>match p.2 with
    | .agg cs=>xz cks cs.toList λ y=>zd P t l λ vs=>K ((p.1,.agg (Cs.vals cks y).toArray)::vs)
    | _=>False
   | none=>zd P t l λ vs=>K (p::vs)
def nG (P:Program)(s:Sem Value)(w:World)(K:Value->World->Prop):Prop:=
 match vK P s with
 | some v=>K v w
 | none=>False
def Kv (P:Program)(e:Env)(op:BinOp)(xt:TypeId)(x y:Operand)(w:World)(K:Value->World->Prop):Prop:=
 match Bw P xt with
 | true=>kT P (do eqGuard op xt x y (e.eval x) (e.eval y);binOp op xt (e.eval x) (e.eval y)) w (.v (.one .bool)) λ b w'=>K (.bool b) w'
 | false=>match e.eval x,e.eval y with
  | .int k a,.int k' b=>match decide (k=k') with
   | true=>match op with
    | .quo=>y9 b (K (.int k (k.wrap (a.tdiv b))) w)
    | .rem=>y9 b (K (.int k (a.tmod b)) w)
    | .shl=>mb b (K (.int k (k.wrap (a * 2 ^ (min b.toNat k.bits)))) w)
    | .shr=>mb b (K (.int k (a.fdiv (2 ^ (min b.toNat k.bits)))) w)
    | _=>nG P (do eqGuard op xt x y (.int k a) (.int k b);binOp op xt (.int k a) (.int k b)) w K
   | false=>match op with
    | .shl=>mb b (K (.int k (k.wrap (a * 2 ^ (min b.toNat k.bits)))) w)
    | .shr=>mb b (K (.int k (a.fdiv (2 ^ (min b.toNat k.bits)))) w)
    | _=>False
  | .string a,.string b=>match op with
   | .add=>Bs a b (K (.string (a++b)) w)
   | _=>nG P (do eqGuard op xt x y (.string a) (.string b);binOp op xt (.string a) (.string b)) w K
  | .bool a,.bool b=>nG P (do eqGuard op xt x y (.bool a) (.bool b);binOp op xt (.bool a) (.bool b)) w K
  | .pointer p,.pointer none=>match P.underlying xt,op with
   | some (.pointer _),.eql=>K (.bool p.isNone) w
   | some (.pointer _),.neq=>K (.bool !p.isNone) w
   | _,_=>False
  | .slice p _ _,.slice none _ _=>match P.underlying xt,op with
   | some (.slice _),.eql=>K (.bool p.isNone) w
   | some (.slice _),.neq=>K (.bool !p.isNone) w
   | _,_=>False
  | .map p,.map none=>match P.underlying xt,op with
   | some (.map ..),.eql=>K (.bool p.isNone) w
   | some (.map ..),.neq=>K (.bool !p.isNone) w
   | _,_=>False
  | _,_=>False
def tA (v:Option Value)(d:Int)(K:Int->Prop):Prop:=
 match v with
 | none=>K d
 | some (.int _ i)=>K i
 | _=>False
def pB (e:Env)(xs:Array Operand):List Value:=xs.toList.map e.eval
def vL (P:Program)(f:FuncId)(args:List Value)(w:World)(K:Value->World->Prop):Prop:=
 match vK P (callFunc f args.toArray),P.funcs[f]? with
 | some (.enter g xs),some fn=>match Nat.beq g f with
  | true=>an P f xs w (Ku P fn.resultTypes.toList) λ x w'=>K ((Ku P fn.resultTypes.toList).val x) w'
  | false=>False
 | _,_=>False
def PZ (P:Program)(t:TypeId):Rk:=
 match P.underlying t with
 | some (.tuple ts)=>.bR (ts.toList.map (pA P))
 | _=>.v (pA P t)
def nH (P:Program)(v:Value)(args:List Value)(r:Rk)(w:World)(K:r.C->World->Prop):Prop:=
 match v with
 | .func (.func f) fi ca=>vL P f (fi.toList++args++ca.toList) w λ v w'=>r.ex v λ x=>K x w'
 | _=>False
theorem pC {P:Program}{f:FuncId}{fi ca:Array Value}{args:List Value}{r:Rk}{w:World}{K:r.C->World->Prop}{xs:Array Value}{fn:Func}
  (hp:vK P (callFunc f (fi.toList++args++ca.toList).toArray)=some (.enter f xs)) (hf:P.funcs[f]? = some fn) (hr:Ku P fn.resultTypes.toList=r)
  (h:Ret P f xs w λ v w'=>∃ x,v=r.val x/\K x w'):nH P (.func (.func f) fi ca) args r w K:=by
 subst hr;have hb:Nat.beq f f=true:=Nat.beq_refl f;simp only[nH,vL,hp,hf,hb];exact⟨h.mono λ e w' ⟨v,he,x,hv,hK⟩=>⟨v,he,x,hv,Rk.rl hK⟩⟩
def P0 (P:Program)(t:TypeId)(ok:Bool):Rk:=
 match P.underlying t,ok with
 | some (.map _ el),true=>.bR [pA P el,.one .bool]
 | some (.map _ el),false=>.v (pA P el)
 | _,_=>.bR []
def P1 (P:Program)(t:TypeId):Rk:=
 match P.underlying t with
 | some (.map _ el)=>.bR [pA P el,.one (.int .i64)]
 | _=>.bR []
def jP (P:Program)(o:Oper)(e:Env)(w:World)(K:Value->World->Prop):Prop:=
  match o.op with
  | .move x | .assign x=>K (e.eval x) w
  | .pick c a b=>match e.eval c with
    | .bool c=>ae c (K (e.eval a) w) (K (e.eval b) w)
    | _=>False
  | .load t a=>match e.eval a with
    | .pointer q=>ie q λ p=>za P t p w K
    | _=>False
  | .store t a x=>match e.eval a with
    | .pointer q=>ie q λ p=>match P.info? t with
      | some i=>match isIf P t with
       | true=>match Nat.beq 1 i.size with
        | true=>lu (e.eval x) (aG p [e.eval x] w λ w'=>K undef w')
        | false=>False
       | false=>match P.underlying t with
        | some (.array ..)=>match e.eval x with
          | .agg cs=>nE (cs.toList.length=i.size) (aG p cs.toList w λ w'=>K undef w')
          | _=>False
        | _=>match Nat.beq (e.eval x).cells.size i.size with
          | true=>match e.eval x with
            | .agg cs=>aG p cs.toList w λ w'=>K undef w'
            | .tuple _=>False
            | v=>aK p v w λ w'=>K undef w'
          | false=>False
      | none=>False
    | _=>False
  | .nilCheck x=>PY (e.eval x) λ v=>K v w
  | .alloc t=>match P.info? t with
    | some i=>match i.zero with
      | some z=>aC (.cells z.cells t) w λ g w'=>K (.pointer (some ⟨g,0,none⟩)) w'
      | none=>False
    | none=>False
  | .box t x=>match isIf P t with
    | true=>lu (e.eval x) (aC (.cells #[e.eval x] t) w λ g w'=>K (.pointer (some ⟨g,0,none⟩)) w')
    | false=>aC (.cells (e.eval x).cells t) w λ g w'=>K (.pointer (some ⟨g,0,none⟩)) w'
  | .build t parts=>zd P t (parts.toList.map λ(i,x)=>(i,e.eval x)) λ vs=>match P.built t vs with
    | some cells=>K (.agg cells) w
    | none=>False
  | .makeMap _ none=>aC (.map #[] 0) w λ g w'=>K (.map (some g)) w'
  | .indexAddr t x i=>match P.underlying t with
    | some (.slice el)=>match e.eval x,e.eval i,P.info? el with
      | .slice base len _,.int _ i,some inf=>cz base len i inf.size λ a=>K (.pointer (some a)) w
      | _,_,_=>False
    | some (.array n el)=>match e.eval x,e.eval i,P.info? el with
      | .pointer q,.int _ i,some inf=>ie q λ a=>y7 a n i inf.size λ a=>K (.pointer (some a)) w
      | _,_,_=>False
    | _=>False
  | .index t x i=>match P.underlying t with
    | some .string=>match e.eval x,e.eval i with
      | .string s,.int _ i=>ss s i λ b=>K (.int .u8 b) w
      | _,_=>False
    | some (.array n el)=>match e.eval x,e.eval i,P.info? el,pA P el,P.underlying el with
      | .agg cs,.int _ i,some inf,.one c,some d=>match Nat.beq inf.size 1,(match d with | .struct _ | .array ..=>false | _=>true) with
        | true,true=>X8 cs n i c λ x=>K (c.val x) w
        | _,_=>False
      | _,_,_,_,_=>False
    | _=>False
  | .slice t x lo hi mx=>match P.underlying t with
    | some .string=>match e.eval x,mx with
      | .string s,none=>tA (lo.map e.eval) 0 λ l=>tA (hi.map e.eval) s.size λ h=>y8 s l h λ s'=>K (.string s') w
      | _,_=>False
    | some (.slice el)=>match e.eval x,P.info? el with
      | .slice a len cap,some inf=>match hi,mx with
        | none,some _=>False
        | _,_=>tA (lo.map e.eval) 0 λ l=>tA (hi.map e.eval) len λ h=>tA (mx.map e.eval) cap λ m=>
            gQ a cap l h m inf.size λ a' l' c'=>K (.slice a' l' c') w
      | _,_=>False
    | some (.array n el)=>match e.eval x,P.info? el with
      | .pointer q,some inf=>match hi,mx with
        | none,some _=>False
        | _,_=>ie q λ a=>tA (lo.map e.eval) 0 λ l=>tA (hi.map e.eval) n λ h=>tA (mx.map e.eval) n λ m=>
            gQ (some a) n l h m inf.size λ a' l' c'=>K (.slice a' l' c') w
      | _,_=>False
    | _=>False
  | .typeAssert x _ t ok=>match P.underlying t with
    | some (.interface _)=>False
    | some _=>match ok with
      | true=>match P.info? t with
        | some i=>match i.zero with
          | some z=>aD (e.eval x) t (pA P t) (λ r=>K (.tuple #[(pA P t).val r,.bool true]) w) (K (.tuple #[z,.bool false]) w)
          | none=>False
        | none=>False
      | false=>aD (e.eval x) t (pA P t) (λ r=>K ((pA P t).val r) w) False
    | none=>False
  | .binOp op xt x y _=>Kv P e op xt x y w K
  | .unOp op _ x=>nG P (Op.unary op (e.eval x)) w K
  | .fieldAddr s x f=>match e.eval x with
    | .pointer q=>ie q λ a=>nG P (Instr.fieldAt s (.pointer (some a)) f) w K
    | _=>False
  | .field t x f=>nG P (Instr.field t (e.eval x) f) w K
  | .extract t i=>nG P (Instr.extract (e.eval t) i) w λ v w=>(pA P o.type).ex v λ x=>K ((pA P o.type).val x) w
  | .makeInterface t x=>nG P (Instr.makeInterface t (e.eval x)) w K
  | .makeFunc fn fi ca=>K (.func fn (pB e fi).toArray (pB e ca).toArray) w
  | .convert src dst x=>match P.underlying src,P.underlying dst with
    | some (.slice _),some .string=>kT P (convert src dst (e.eval x)) w (.v (.one .str)) λ s w'=>K (.string s) w'
    | some .string,some (.slice _)=>kT P (convert src dst (e.eval x)) w (.v (.one .bE)) λ s w'=>K (.slice s.1 s.2.1 s.2.2) w'
    | some (.slice _),some (.slice _)=>kT P (convert src dst (e.eval x)) w (.v (.one .bE)) λ s w'=>K (.slice s.1 s.2.1 s.2.2) w'
    | _,_=>nG P (convert src dst (e.eval x)) w K
  | .makeSlice t l c=>kT P (Instr.makeSlice t (e.eval l) (e.eval c)) w (.v (.one .bE)) λ s w'=>K (.slice s.1 s.2.1 s.2.2) w'
  | .buildSlice t n parts=>kT P (Instr.buildSlice t n (parts.toList.map λ(i,x)=>(i,e.eval x)).toArray) w (.v (.one .bE)) λ s w'=>K (.slice s.1 s.2.1 s.2.2) w'
  | .lookup t x i ok=>kT P (Instr.lookup t (e.eval x) (e.eval i) ok) w (P0 P t ok) λ x w'=>K ((P0 P t ok).val x) w'
  | .mapEntry t m k=>kT P (Instr.mapEntry t (e.eval m) (e.eval k)) w (P1 P t) λ x w'=>K ((P1 P t).val x) w'
  | .entryStore t m k x=>lL P (Instr.entryStore t (e.eval m) (e.eval k) (e.eval x)) w λ w'=>K undef w'
  | .mapUpdate t m k x | .insert t m k x=>lL P (Instr.mapUpdate t (e.eval m) (e.eval k) (e.eval x)) w λ w'=>K undef w'
  | .range t x=>kT P (Instr.range t (e.eval x)) w (.v (.one .ptr)) λ x w'=>K (.pointer x) w'
  | .next it s=>match s with
    | true=>match e.eval it with
      | .pointer q=>Bt q w (λ pos c w'=>K (.tuple #[.bool true,.int .i64 pos,.int .i32 c]) w') (K (.tuple #[.bool false]) w)
      | _=>False
    | false=>GY P (e.eval it) o.type w (λ k v w'=>K (.tuple #[.bool true,k,v]) w') (λ w'=>K (.tuple #[.bool false]) w')
  | .entry it=>kT P (Instr.entry (e.eval it)) w (.bR [.one .raw,.one .raw]) λ x w'=>K (.tuple #[x.1,x.2.1]) w'
  | .call c=>match c.callee with
    | .builtin .append=>kT P (Builtin.append_ c.argTypes o.type (pB e c.args).toArray) w (.v (.one .bE)) λ s w'=>K (.slice s.1 s.2.1 s.2.2) w'
    | .builtin .copy=>kT P (Builtin.copy_ c.argTypes o.type (pB e c.args).toArray) w (.v (.one (.int .i64))) λ n w'=>K (.int .i64 n) w'
    | .builtin .delete=>kT P (Builtin.delete_ c.argTypes o.type (pB e c.args).toArray) w (.bR []) λ _ w'=>K (.tuple #[]) w'
    | .builtin .len=>match pB e c.args with
      | [.map m]=>match (c.argTypes[0]?).bind P.underlying with
        | some (.map ..)=>DR m w λ n=>K (.int .i64 n) w
        | _=>False
      | l=>nG P (Builtin.len_ c.argTypes o.type l.toArray) w K
    | .builtin .cap=>nG P (Builtin.cap_ c.argTypes o.type (pB e c.args).toArray) w K
    | .builtin .min=>nG P (Builtin.min_ c.argTypes o.type (pB e c.args).toArray) w K
    | .builtin .max=>nG P (Builtin.max_ c.argTypes o.type (pB e c.args).toArray) w K
    | .value x=>match x with
      | .tmp _=>nH P (e.eval x) (pB e c.args) (PZ P o.type) w λ x w'=>K ((PZ P o.type).val x) w'
      | _=>match e.eval x with
        | .func (.func f) fi ca=>vL P f (fi.toList++pB e c.args++ca.toList) w K
        | _=>False
    | _=>False
  | _=>False
def nI (P:Program)(n:Nat)(ops:Array Oper):List Oper->Env->World->(Env->World->Prop)->Prop
 | [],e,w,K=>K e w
 | o::rest,e,w,K=>match oQ n o.dst with
  | false=>False
  | true=>match o.guard with
   | none=>jP P o e w λ v w'=>nI P n ops rest (e.put o.dst v) w' K
   | some (j,want)=>match (ops[j]?).bind (·.dst) with
    | none=>False
    | some d=>match e.get d with
     | .bool b=>match want with
      | true=>ae b (jP P o (e.put (some d) (.bool true)) w λ v w'=>nI P n ops rest ((e.put (some d) (.bool true)).put o.dst v) w' K)
        (nI P n ops rest ((e.put (some d) (.bool false)).put o.dst undef) w K)
      | false=>ae b (nI P n ops rest ((e.put (some d) (.bool true)).put o.dst undef) w K)
        (jP P o (e.put (some d) (.bool false)) w λ v w'=>nI P n ops rest ((e.put (some d) (.bool false)).put o.dst v) w' K)
     | .tuple _=>nI P n ops rest (e.put o.dst undef) w K
     | _=>False
def xA (P:Program):Op->Bool
 | .move _ | .assign _ | .pick .. | .load .. | .nilCheck _ | .build .. | .indexAddr .. | .index .. | .slice .. | .typeAssert .. | .unOp .. | .fieldAddr .. | .field .. | .extract ..
 | .makeInterface .. | .makeFunc ..=>true
 | .binOp _ t ..=>!Bw P t
 | .call c=>match c.callee with
  | .builtin .len | .builtin .cap | .builtin .min | .builtin .max=>true
  | _=>false
 | _=>false
def isInt (P:Program)(t:TypeId):Bool:=match P.underlying t with
 | some (.int _)=>true
 | _=>false
def GZ (P:Program):Op->Bool
 | .convert s d _=>isInt P s&&isInt P d
 | .move _ | .assign _ | .pick .. | .nilCheck _ | .build .. | .indexAddr .. | .index .. | .slice .. | .typeAssert .. | .unOp .. | .fieldAddr .. | .field .. | .extract ..
 | .makeInterface .. | .makeFunc ..=>true
 | .binOp _ t ..=>!Bw P t
 | .call c=>match c.callee with
  | .builtin .cap | .builtin .min | .builtin .max=>true
  | .builtin .len=>match c.argTypes.toList with
   | [t]=>match P.underlying t with | some (.map ..)=>false | some _=>true | none=>false
   | _=>false
  | _=>false
 | _=>false
def mem:List Nat->Nat->Bool
 | [],_=>false
 | u::l,t=>match Nat.beq u t with | true=>true | false=>mem l t
def uF (ops:Array Oper):Nat->Nat->List Nat
 | 0,_=>[]
 | f+1,i=>match ops[i]? with
  | some o=>o.after.toList.flatMap λ e=>match Region.binds .any e with | true=>e.on::uF ops f e.on | false=>[]
  | none=>[]
def xB:List (Nat×Rk)->Nat->Option Rk
 | [],_=>none
 | (j,r)::l,k=>match Nat.beq j k with | true=>some r | false=>xB l k
def Kw (ops:Array Oper)(loud:List (Nat×Rk))(k:Nat):List Nat:=
 (loud.map (·.1)).filter λ j=>mem (uF ops ops.size k) j
def Bx (P:Program)(ops:Array Oper)(loud:List (Nat×Rk))(C:(Nat->Bool)->World->Prop)(o:Oper)(k:Nat)(e:Env)(w:World)(next:Value->Prop):Prop:=
 match xB loud k with
 | some r=>iZ C k (Kw ops loud k) r (λ w kk=>jP P o e w kk) λ x=>next (r.val x)
 | none=>match GZ P o.op with
  | true=>jP P o e w λ v _=>next v
  | false=>False
def oR (P : Program)(n : Nat)(ops : Array Oper)(loud : List (Nat × Rk))(C : (Nat -> Bool) -> World -> Prop)(w : World): List Oper -> Nat -> Env -> (Env -> Prop) -> Prop
  | [], _, e, K => K e
  | o :: rest, k, e, K => match oQ n o.dst with
    | false => False
    | true => match o.guard with
      | none => Bx P ops loud C o k e w λ v => oR P n ops loud C w rest (k + 1) (e.put o.dst v) K
      | some (j, want) => match (ops[j]?).bind (·.dst) with
        | none => False
        | some d => match e.get d with
          | .bool b => match want with
            | true => ae b (Bx P ops loud C o k (e.put (some d) (.bool true)) w λ v => oR P n ops loud C w rest (k + 1) ((e.put (some d) (.bool true)).put o.dst v) K)
                (match xB loud k with
                  | some _ => xy C k (oR P n ops loud C w rest (k + 1) ((e.put (some d) (.bool false)).put o.dst undef) K)
                  | none => oR P n ops loud C w rest (k + 1) ((e.put (some d) (.bool false)).put o.dst undef) K)
            | false => ae b (match xB loud k with
                  | some _ => xy C k (oR P n ops loud C w rest (k + 1) ((e.put (some d) (.bool true)).put o.dst undef) K)
                  | none => oR P n ops loud C w rest (k + 1) ((e.put (some d) (.bool true)).put o.dst undef) K)
                (Bx P ops loud C o k (e.put (some d) (.bool false)) w λ v => oR P n ops loud C w rest (k + 1) ((e.put (some d) (.bool false)).put o.dst v) K)
          | .tuple _ => match xB loud k with
            | some _ => xy C k (oR P n ops loud C w rest (k + 1) (e.put o.dst undef) K)
            | none => oR P n ops loud C w rest (k + 1) (e.put o.dst undef) K
          | _ => False
inductive Hp where
 | done
 | soft (i:Nat) (h:Hp)
 | pick (i:Nat) (h more:Hp)
 | last (i:Nat) (h:Hp)
 | stop
def G2:Op->Bool
 | .load ..=>true
 | _=>false
def xC (ops:Array Oper)(i:Nat):Bool:=(List.range ops.size).any λ s=>match ops[s]? with | some o=>G2 o.op&&!mem (uF ops ops.size i) s | none=>false
def Kx (P:Program)(o:Oper)(e:Env)(S:Nat->Prop)(w0:World)(K:Value->Prop):Prop:=
 match o.op with
 | .load t a=>match e.eval a with
  | .pointer q=>ie q λ p=>aJ S p (za P t p w0 λ v _=>K v)
  | _=>False
 | _=>match GZ P o.op with
  | true=>jP P o e w0 λ v _=>K v
  | false=>False
def zh (ops:Array Oper)(o:Oper)(e:Env)(Ky skip:Env->Prop):Prop:=
 match o.guard with
 | none=>Ky e
 | some (j,want)=>match (ops[j]?).bind (·.dst) with
  | none=>False
  | some d=>match e.get d with
   | .bool b=>match want with
    | true=>ae b (Ky (e.put (some d) (.bool true))) (skip (e.put (some d) (.bool false)))
    | false=>ae b (skip (e.put (some d) (.bool true))) (Ky (e.put (some d) (.bool false)))
   | .tuple _=>skip e
   | _=>False
def kU (P:Program)(n:Nat)(ops:Array Oper)(S:Nat->Prop):Hp->Nat->List Nat->Array Bool->Env->World->(Env->World->Prop)->Prop
 | .done,k,_,bb,e,w,K=>match Nat.beq k 0&&(Region.ready .any ops bb).isEmpty with | true=>K e w | false=>False
 | .soft i h,k,_,bb,e,w,K=>match k,ops[i]? with
  | k+1,some o=>match oQ n o.dst&&(Region.ready .any ops bb).contains i&&Region.free .any ops bb i with
   | false=>False
   | true=>zh ops o e (λ e=>Kx P o e S w λ v=>kU P n ops S h k [] (bb.setIfInBounds i true) (e.put o.dst v) w K)
     (λ e=>kU P n ops S h k [] (bb.setIfInBounds i true) (e.put o.dst undef) w K)
  | _,_=>False
 | .pick i h .stop,k,seen,bb,e,w,K=>match k,ops[i]? with
  | k+1,some o=>match oQ n o.dst&&(Region.ready .any ops bb).contains i&&(Region.ready .any ops bb).all (λ j=>mem (i::seen) j) with
   | true=>zh ops o e (λ e=>jP P o e w λ v w'=>az S w w' (kU P n ops S h k [] (bb.setIfInBounds i true) (e.put o.dst v) w' K))
     (λ e=>kU P n ops S h k [] (bb.setIfInBounds i true) (e.put o.dst undef) w K)
   | false=>False
  | _,_=>False
 | .pick i h (.pick i2 h2 m2),k,seen,bb,e,w,K=>match k,ops[i]? with
  | k+1,some o=>match oQ n o.dst with
   | false=>False
   | true=>nE (zh ops o e (λ e=>jP P o e w λ v w'=>az S w w' (kU P n ops S h k [] (bb.setIfInBounds i true) (e.put o.dst v) w' K))
     (λ e=>kU P n ops S h k [] (bb.setIfInBounds i true) (e.put o.dst undef) w K)) (kU P n ops S (.pick i2 h2 m2) (k+1) (i::seen) bb e w K)
  | _,_=>False
 | .last i h,k,_,bb,e,w,K=>match k,ops[i]? with
  | k+1,some o=>match oQ n o.dst&&(Region.ready .any ops bb).contains i&&(Region.ready .any ops bb).all (λ j=>mem [i] j)&&!xC ops i with
   | true=>zh ops o e (λ e=>jP P o e w λ v w'=>kU P n ops S h k [] (bb.setIfInBounds i true) (e.put o.dst v) w' K)
     (λ e=>kU P n ops S h k [] (bb.setIfInBounds i true) (e.put o.dst undef) w K)
   | false=>False
  | _,_=>False
 | _,_,_,_,_,_,_=>False
inductive aN where
 | auto
 | seq (a b:aN)
 | cond (a b:aN)
 | block (p:aN)
 | loop (ks:List (Nat×Kd)) (p:aN)
 | join (ks:List (Nat×Kd)) (a b:aN)
 | still
 | tail (k:Nat)
 | any (loud:List (Nat×Rk))
 | held (h:Hp)
def DS (N:Env->World->Prop)(Q:Exit->Env->World->Prop):Exit->Env->World->Prop
 | .normal,e,w=>N e w
 | .exit i,e,w=>Q (.exit i) e w
 | .ret,e,w=>Q .ret e w
 | _,_,_=>False
def G4 (id:Nat)(Q:Exit->Env->World->Prop):Exit->Env->World->Prop
 | .normal,e,w=>Q .normal e w
 | .exit i,e,w=>match Nat.beq i id with | true=>Q .normal e w | false=>Q (.exit i) e w
 | .ret,e,w=>Q .ret e w
 | _,_,_=>False
def kA:Code->List Nat
 | .region _ ops _=>ops.toList.filterMap (·.dst)
 | .seq a b=>kA a++kA b
 | .cond _ a b=>kA a++kA b
 | .block _ c=>kA c
 | .loop c=>kA c
 | _=>[]
def rm (ds:List Nat):List (Nat×Value)->List (Nat×Value)
 | []=>[]
 | (u,v)::l=>match mem ds u with | true=>rm ds l | false=>(u,v)::rm ds l
def xD:(ks:List (Nat×Kd))->St (ks.map (·.2))->List (Nat×Value)->List (Nat×Value)
 | [],_,l=>l
 | (t,k)::ks,s,l=>(t,k.val s.1)::xD ks s.2 l
def DT (e:Env)(ks:List (Nat×Kd)):List Value:=ks.map λ x=>e.get x.1
def kB (P:Program)(n:Nat):Code->aN->Env->World->(Exit->Env->World->Prop)->Prop
 | .skip,_,e,w,Q=>Q .normal e w
 | .region _ ops draw,p,e,w,Q=>match draw with
  | false=>nI P n ops ops.toList e w (Q .normal)
  | true=>match p with
   | .still=>match Region.lexB .any ops&&ops.toList.all (λ o=>xA P o.op) with
    | true=>aU w λ w'=>nI P n ops ops.toList e w' (Q .normal)
    | false=>False
   | .tail k=>match Region.lexTailB .any ops k&&(ops.toList.take k).all (λ o=>xA P o.op) with
    | true=>aU w λ w'=>nI P n ops ops.toList e w' (Q .normal)
    | false=>False
   | .any loud=>match Region.lexB .any ops&&(loud.map (·.1)).all (λ j=>Nat.blt j ops.size) with
    | true=>su w λ C=>oR P n ops loud C w ops.toList 0 e λ e'=>∀ w',C (mem (loud.map (·.1))) w'->Q .normal e' w'
    | false=>False
   | .held h=>match Region.noSelect ops with
    | true=>aU w λ w'=>bL λ S=>kU P n ops S h ops.size [] (Array.replicate ops.size false) e w' (Q .normal)
    | false=>False
   | _=>False
 | .seq a b,p,e,w,Q=>match p with
  | .seq pa pb=>kB P n a pa e w (DS (λ e w=>kB P n b pb e w Q) Q)
  | .join ks pa pb=>dc (St (ks.map (·.2)))
    (λ J=>kB P n a pa e w (DS (λ e' w'=>St.ex (ks.map (·.2)) (DT e' ks) λ s=>J s w') Q))
    (λ b' s w'=>kB P n b pb ⟨xD ks s (rm (kA a) e.l),b'⟩ w' Q)
  | _=>kB P n a .auto e w (DS (λ e w=>kB P n b .auto e w Q) Q)
 | .cond c x y,p,e,w,Q=>match e.eval c with
  | .bool t=>match p with
   | .cond px py=>ae t (kB P n x px e w Q) (kB P n y py e w Q)
   | _=>ae t (kB P n x .auto e w Q) (kB P n y .auto e w Q)
  | _=>False
 | .block id c,p,e,w,Q=>match p with
  | .block p=>kB P n c p e w (G4 id Q)
  | _=>kB P n c .auto e w (G4 id Q)
 | .loop c,p,e,w,Q=>match p with
  | .loop ks p=>St.ex (ks.map (·.2)) (DT e ks) λ s0=>
    cp (St (ks.map (·.2))) (λ b s w' next=>kB P n c p ⟨xD ks s (rm (kA c) e.l),b⟩ w'
     (DS (λ e' rn=>St.ex (ks.map (·.2)) (DT e' ks) λ s'=>next s' rn) Q)) s0 w
  | _=>False
 | .exit id,_,e,w,Q=>Q (.exit id) e w
 | .ret,_,e,w,Q=>Q .ret e w
 | _,_,_,_,_=>False
def zi:Nat->List Value->List (Nat×Value)
 | _,[]=>[]
 | i,v::vs=>(i,v)::zi (i+1) vs
def Kz (P:Program)(e:Env)(w:World):ResultVar->(Value->Prop)->Prop
 | .tmp t,K=>K (e.get t)
 | .cell a t,K=>match e.get a with
  | .pointer q=>ie q λ p=>za P t p w λ v _=>K v
  | _=>False
def G5 (P:Program)(e:Env)(w:World):List ResultVar->(List Value->Prop)->Prop
 | [],K=>K []
 | r::rs,K=>Kz P e w r λ v=>G5 P e w rs λ vs=>K (v::vs)
def oneOf:List Value->Value
 | [v]=>v
 | vs=>.tuple vs.toArray
def KA (P:Program)(fn:Func)(p:aN)(args:List Value)(w:World)(K:Value->World->Prop):Prop:=
 match fn.body with
 | none=>False
 | some c=>match Nat.ble args.length fn.ntmps with
  | false=>False
  | true=>kB P fn.ntmps c p ⟨zi 0 args,λ _=>undef⟩ w λ x e w'=>match x with
   | .normal | .ret=>G5 P e w' fn.results.toList λ vs=>K (oneOf vs) w'
   | _=>False
end Vc
namespace Vc
theorem KB {α:Type}{P:Program}{s:Sem α}{a:α}(h:vK P s=some a)(w:World):s.run P w=.ok a w:=X7 h w
section
variable {P:Program}
theorem under {t:TypeId}{d:TypeDesc}(h:P.underlying t=some d)(w:World):(underlying t).run P w=.ok d w:=by
 simp[underlying,h]
theorem mZ {t:TypeId}{i:TypeInfo}(h:P.info? t=some i)(w:World):(sizeOf t).run P w=.ok i.size w:=by
 simp[sizeOf,typeInfo,h]
theorem uG {t:TypeId}{i:TypeInfo}{z:Value}(h:P.info? t=some i)(hz:i.zero=some z)(w:World):(zeroValue t).run P w=.ok z w:=by
 simp[zeroValue,typeInfo,h,hz]
def vM:TypeDesc->Bool
 | .struct _ | .array ..=>true
 | _=>false
theorem zk {t:TypeId}{d:TypeDesc}(h:P.underlying t=some d)(w:World):(isAgg t).run P w=.ok (vM d) w:=by
 simp only[isAgg,Sem.run_bind,under h,Result.andThen_ok];cases d<;>rfl
theorem KC {w:World}{p:Addr}{v:Value}(h:w.cell? p=some v):(load p).run P w=.ok v w:=by simp[h]
theorem P3 {w:World}{p:Addr}:∀ (vs:List Value) (i:Nat) (acc:Array Value),ma w p i vs->(loadCellsFrom p i vs.length acc).run P w=.ok (acc++vs.toArray) w
 | [],i,acc,_=>by simp[loadCellsFrom]
 | v::vs,i,acc,h=>by
  obtain⟨h1,h2⟩:=h;simp only[List.length_cons,loadCellsFrom,Sem.run_bind,KC h1,Result.andThen_ok];rw[P3 vs (i+1) (acc.push v) h2]
  congr 1
  apply Array.ext';simp
theorem zl {w:World}{p:Addr}(vs:List Value)(h:ma w p 0 vs):(loadCells p vs.length).run P w=.ok vs.toArray w:=by
 have:=P3 (P:=P) vs 0 #[] h;simpa[loadCells] using this
theorem Cs.KD:∀ (cs:List Ck) (x:Cs cs),(Cs.vals cs x).length=cs.length
 | [],_=>rfl
 | c::cs,x=>by simp only[Cs.vals,List.length_cons,Cs.KD cs x.2]
theorem P4 {t:TypeId}{p:Addr}{w:World}{K:Value->World->Prop}(h:za P t p w K):∃ v,(loadVar t p).run P w=.ok v w/\K v w:=by
 unfold za at h;split at h
 case h_1 fs i hu hi=>
  split at h
  case h_1 cs hz=>
   split at h
   case h_1 hb=>
    obtain⟨x,hx,hK⟩:=h.out;refine⟨_,?_,hK⟩;have hs:=Nat.eq_of_beq_eq_true hb;simp only[loadVar,Sem.run_bind,zk hu,vM,Result.andThen_ok,if_true,mZ hi];rw[hs,<- Cs.KD _ x,zl _ hx];rfl
   case h_2=>cases h
  case h_2=>cases h
 case h_2 hu hi=>
  obtain⟨x,hn,hx,hK⟩:=h.out;refine⟨_,?_,hK⟩;simp only[loadVar,Sem.run_bind,zk hu,vM,Result.andThen_ok,if_true,mZ hi];rw[<- hn,zl _ hx];rfl
 case h_3 d i hs ha hu hi=>
  split at h
  case h_1 c hk=>
   obtain⟨x,hx,hK⟩:=h.out;refine⟨_,?_,hK⟩;have hf:vM d=false:=by
    cases d<;>first | rfl | exact(hs _ rfl).elim | exact(ha _ _ rfl).elim
   simp only[loadVar,Sem.run_bind,zk hu,hf,Result.andThen_ok,Bool.false_eq_true,if_false];exact KC hx
  case h_2=>cases h
 case h_4=>cases h
theorem Ck.val_inj {c:Ck}{x y:c.C}(h:c.val x=c.val y):x=y:=by
 cases c<;>simp only[Ck.val] at h
 case bE=>
  obtain⟨a,b,d⟩:=x;obtain⟨a',b',d'⟩:=y;injection h with h1 h2 h3
  simp only at h1 h2 h3;subst h1;subst h2;subst h3;rfl
 case raw=>exact h
 all_goals (injection h)
theorem Cs.BA:∀ {cs:List Ck} {x y:Cs cs},Cs.vals cs x=Cs.vals cs y->x=y
 | [],_,_,_=>rfl
 | c::cs,(x,xs),(y,ys),h=>by
  simp only[Cs.vals,List.cons.injEq] at h;rw[Ck.val_inj h.1,Cs.BA h.2]
theorem Kd.val_inj {k:Kd}{x y:k.C}(h:k.val x=k.val y):x=y:=by
 cases k<;>simp only[Kd.val] at h
 case one c=>exact Ck.val_inj h
 case agg cs=>injection h with h;exact Cs.BA (by simpa using h)
 case arr=>injection h with h;simpa using h
theorem St.BA:∀ {ks:List Kd} {x y:St ks},St.vals ks x=St.vals ks y->x=y
 | [],_,_,_=>rfl
 | k::ks,(x,xs),(y,ys),h=>by
  simp only[St.vals,List.cons.injEq] at h;rw[Kd.val_inj h.1,St.BA h.2]
theorem P5 {w:World}{p:Addr}{v:Value}(h1:cG v=true)(h2:(w.cell? p).isSome=true)(h3:w.frozen? p=false):(store p v).run P w=.ok () (w.setCell p v):=by
 rw[run_store P w p v .plain (by cases v<;>first | rfl | exact h1)]
 cases hc:w.cell? p with
 | none=>rw[hc] at h2;cases h2
 | some u=>simp[h3]
theorem BB {p:Addr}:∀ (vs:List Value) (i:Nat) (w:World),tz w p i vs->(storeCells p vs i).run P w=.ok () (setCells w p i vs)
 | [],i,w,_=>by simp[storeCells,setCells]
 | v::vs,i,w,h=>by
  obtain⟨h1,h2,h3,h4⟩:=h;simp only[storeCells,Sem.run_bind,P5 h1 h2 h3,Result.andThen_ok,setCells];exact BB vs (i+1) _ h4
theorem P6 {place:Nat->Option (Nat×Nat)}:∀ {l l':List (Nat×Value)} {cells:Array Value},l.map (λ p=>(p.1,p.2.cells))=l'.map (λ p=>(p.1,p.2.cells)) ->
  Instr.fill place cells l=Instr.fill place cells l'
 | [],[],_,_=>rfl
 | [],_::_,_,h=>by simp at h
 | _::_,[],_,h=>by simp at h
 | (i,v)::l,(i',v')::l',cells,h=>by
  simp only[List.map_cons,List.cons.injEq,Prod.mk.injEq] at h;obtain⟨⟨rfl,h2⟩,h3⟩:=h;unfold Instr.fill;rw[h2];cases place i with
  | none=>rfl
  | some p=>
   simp only;split
   ·rfl
   ·exact P6 h3
theorem Yb {t:TypeId}{l l':List (Nat×Value)}(h:l.map (λ p=>(p.1,p.2.cells))=l'.map (λ p=>(p.1,p.2.cells))):P.built t l=P.built t l':=by
 unfold Program.built;simp only[P6 h]
theorem G6 {t:TypeId}:∀ {l:List (Nat×Value)} {K:List (Nat×Value)->Prop},zd P t l K->∃ l',l.map (λ p=>(p.1,p.2.cells))=l'.map (λ p=>(p.1,p.2.cells))/\K l'
 | [],K,h=>⟨[],rfl,h⟩
 | p::l,K,h=>by
  unfold zd at h;split at h
  ·obtain⟨h1,h⟩:=h.out
   obtain⟨l',h2,h⟩:=G6 h;exact⟨_,by simp only[List.map_cons,h2,h1];rfl,h⟩
  ·split at h
   ·obtain⟨i,v⟩:=p
    cases v with
    | agg cs=>
     obtain⟨y,hy,h⟩:=h.out;obtain⟨l',h2,h⟩:=G6 h;refine⟨_,?_,h⟩;rw[<- hy,List.map_cons,List.map_cons,h2,Array.toArray_toList]
    | _=>cases h
   ·obtain⟨l',h2,h⟩:=G6 h
    exact⟨_,by simp only[List.map_cons,h2],h⟩
theorem P7 {t:TypeId}{l:List (Nat×Value)}{K:Array Value->Prop}
  (h:zd P t l λ vs=>match P.built t vs with | some cells=>K cells | none=>False):∃ cells,P.built t l=some cells/\K cells:=by
 obtain⟨l',h1,h⟩:=G6 h;rw[Yb h1];split at h
 ·exact⟨_,‹_›,h⟩
 ·cases h
def Yields (P:Program)(s:Sem Next)(w:World)(K:Value->World->Prop):Prop:=
 (∃ v w',s.run P w=.ok (.value v) w'/\K v w')\/(∃ w',s.run P w=.ok .skip w'/\K undef w')\/(∃ f args,s.run P w=.ok (.enter f args) w/\Ret P f args w K)
def BC (P:Program)(s:Sem Next)(w:World)(K:Value->World->Prop):Prop:=
 (∃ v,s.run P w=.ok (.value v) w/\K v w)\/(s.run P w=.ok .skip w/\K undef w)
def vN (P:Program)(s:Sem Next)(w:World)(K:Value->World->Prop):Prop:=∃ v,(∀ w',s.run P w'=.ok (.value v) w')/\K v w
theorem vN.still {s:Sem Next}{w:World}{K:Value->World->Prop}(h:vN P s w K):BC P s w K:=let ⟨v,a,b⟩:=h;.inl ⟨v,a w,b⟩
theorem nJ {s:Sem Value}{w:World}{v:Value}{K:Value->World->Prop}(h:∀ w',s.run P w'=.ok v w')(hK:K v w):vN P (do pure (.value (<- s))) w K:=
 ⟨v,λ w'=>by simp[h w'],hK⟩
theorem yv {s:Sem Value}{w w':World}{v:Value}{K:Value->World->Prop}(h:s.run P w=.ok v w')(hK:K v w'):Yields P (do pure (.value (<- s))) w K:=
 .inl ⟨v,w',by simp[h],hK⟩
theorem tB {s:Sem Value}{w:World}{v:Value}{K:Value->World->Prop}(h:s.run P w=.ok v w)(hK:K v w):BC P (do pure (.value (<- s))) w K:=
 .inl ⟨v,by simp[h],hK⟩
theorem yu {s:Sem Unit}{w w':World}{K:Value->World->Prop}(h:s.run P w=.ok () w')(hK:K undef w'):Yields P (do s;pure .skip) w K:=
 .inr (.inl ⟨w',by simp[h],hK⟩)
theorem BC.Yc {s:Sem Next}{w:World}{K:Value->World->Prop}(h:BC P s w K):Yields P s w K:=
 h.elim (λ⟨v,a,b⟩=>.inl ⟨v,w,a,b⟩) (λ⟨a,b⟩=>.inr (.inl ⟨w,a,b⟩))
theorem tC {s:Sem Value}{w:World}{K:Value->World->Prop}(h:nG P s w K):∃ v,(∀ w',s.run P w'=.ok v w')/\K v w:=by
 unfold nG at h;split at h
 ·rename_i v hv;exact⟨v,λ w'=>KB hv w',h⟩
 ·cases h
theorem uH {s:Sem Value}{w:World}{K:Value->World->Prop}(h:nG P s w K):∃ v,s.run P w=.ok v w/\K v w:=by
 unfold nG at h;split at h
 ·rename_i v hv;exact⟨v,KB hv w,h⟩
 ·cases h
theorem vO {q:Option Addr}{K:Addr->Prop}(h:ie q K):∃ a,q=some a/\K a:=by
 cases q with
 | none=>cases h
 | some a=>exact⟨a,rfl,h⟩
theorem DU {b:Bool}{A B:Prop}(h:ae b A B):(b=true->A)/\(b=false->B):=by
 cases b
 ·exact⟨λ h=>(by cases h),λ _=>h⟩
 ·exact⟨λ _=>h,λ h=>(by cases h)⟩
theorem Yd {v:Option Value}{d:Int}{K:Int->Prop}(h:tA v d K):(v=none/\K d)\/∃ k i,v=some (.int k i)/\K i:=by
 unfold tA at h;split at h
 ·exact .inl ⟨rfl,h⟩
 ·exact .inr ⟨_,_,rfl,h⟩
 ·cases h
theorem DV {op:BinOp}{t:TypeId}{x y:Operand}{a b:Value}(w:World)(h1:a≠.nilIface)(h2:∀ c,a≠.agg c):(eqGuard op t x y a b).run P w=.ok () w:=by
 unfold eqGuard;cases a<;>first | exact absurd rfl h1 | exact absurd rfl (h2 _) | (cases op<;>rfl)
theorem P8 {op:BinOp}{t:TypeId}{k k':IntKind}{a b:Int}(h:k=k'):(op=.quo->b≠0->∀ w,(binOp op t (.int k a) (.int k' b)).run P w=.ok (.int k (k.wrap (a.tdiv b))) w) /\
  (op=.rem->b≠0->∀ w,(binOp op t (.int k a) (.int k' b)).run P w=.ok (.int k (a.tmod b)) w):=by
 subst h;refine⟨λ ho hb w=>?_,λ ho hb w=>?_⟩<;>subst ho<;>simp[binOp,Op.intDiv,hb]
theorem G7 {t:TypeId}{k k':IntKind}{a b:Int}(hb:0<=b)(w:World):
  (binOp .shl t (.int k a) (.int k' b)).run P w=.ok (.int k (k.wrap (a * 2 ^ (min b.toNat k.bits)))) w /\
  (binOp .shr t (.int k a) (.int k' b)).run P w=.ok (.int k (a.fdiv (2 ^ (min b.toNat k.bits)))) w:=by
 have hn:¬ b<0:=ab;exact⟨by simp[binOp,Op.shift,hn],by simp[binOp,Op.shift,hn]⟩
theorem BD {d:TypeDesc}{t:TypeId}(hd:P.underlying t=some d)(w:World):
  (∀ e p,d=.pointer e->(Op.equal t (.pointer p) (.pointer none)).run P w=.ok p.isNone w) /\
  (∀ e p l c l' c',d=.slice e->(Op.equal t (.slice p l c) (.slice none l' c')).run P w=.ok p.isNone w) /\
  (∀ k e p,d=.map k e->(Op.equal t (.map p) (.map none)).run P w=.ok p.isNone w):=by
 refine⟨λ e p h=>?_,λ e p l c l' c' h=>?_,λ k e p h=>?_⟩<;>subst h<;>unfold Op.equal Op.maxDepth<;>unfold Op.equalIn <;>
  simp only[Sem.run_bind,under hd,Result.andThen_ok]
 ·cases p<;>simp
 ·cases p<;>simp
 ·cases p<;>simp
theorem KE {e:Env}{op:BinOp}{xt:TypeId}{x y:Operand}{w:World}{K:Value->World->Prop}(h:Kv P e op xt x y w K):
  ∃ v w',(do eqGuard op xt x y (e.eval x) (e.eval y);binOp op xt (e.eval x) (e.eval y):Sem Value).run P w=.ok v w'/\K v w' /\
   (Bw P xt=false->w'=w/\∀ w2,(do eqGuard op xt x y (e.eval x) (e.eval y);binOp op xt (e.eval x) (e.eval y):Sem Value).run P w2=.ok v w2):=by
 unfold Kv at h;split at h
 ·rename_i hr
  obtain⟨b,w',jE,hK⟩:=h.out;exact⟨_,w',jE,hK,λ hf=>by rw[hr] at hf;cases hf⟩
 ·rename_i hr
  have pk:∀ {s:Sem Value},nG P s w K->∃ v w',s.run P w=.ok v w'/\K v w'/\(Bw P xt=false->w'=w/\∀ w2,s.run P w2=.ok v w2):=λ h=>
   let ⟨v,a,b⟩:=tC h;⟨v,w,a w,b,λ _=>⟨rfl,a⟩⟩
  have al:∀ {s:Sem Value} {v:Value},(∀ w2,s.run P w2=.ok v w2)->K v w->∃ v w',s.run P w=.ok v w'/\K v w'/\(Bw P xt=false->w'=w/\∀ w2,s.run P w2=.ok v w2):=λ{s v} a b=>⟨v,w,a w,b,λ _=>⟨rfl,a⟩⟩;split at h
  case h_1 k a k' b ex ey=>
   rw[ex,ey];have g1:∀ w,(eqGuard op xt x y (.int k a) (.int k' b)).run P w=.ok () w:=λ w=>DV w bm bm;split at h
   case h_1 hk=>
    have DW:k=k':=of_decide_eq_true hk;subst DW;split at h
    ·obtain⟨hb,hK⟩:=h.out;exact al (λ w2=>by simp only[Sem.run_bind,g1 w2,Result.andThen_ok];exact(P8 rfl).1 rfl hb w2) hK
    ·obtain⟨hb,hK⟩:=h.out;exact al (λ w2=>by simp only[Sem.run_bind,g1 w2,Result.andThen_ok];exact(P8 rfl).2 rfl hb w2) hK
    ·obtain⟨hb,hK⟩:=h.out;exact al (λ w2=>by simp only[Sem.run_bind,g1 w2,Result.andThen_ok];exact(G7 hb w2).1) hK
    ·obtain⟨hb,hK⟩:=h.out;exact al (λ w2=>by simp only[Sem.run_bind,g1 w2,Result.andThen_ok];exact(G7 hb w2).2) hK
    ·exact pk h
   case h_2 hk=>
    split at h
    ·obtain⟨hb,hK⟩:=h.out;exact al (λ w2=>by simp only[Sem.run_bind,g1 w2,Result.andThen_ok];exact(G7 hb w2).1) hK
    ·obtain⟨hb,hK⟩:=h.out;exact al (λ w2=>by simp only[Sem.run_bind,g1 w2,Result.andThen_ok];exact(G7 hb w2).2) hK
    ·cases h
  case h_2 a b ex ey=>
   rw[ex,ey];have g1:∀ w,(eqGuard op xt x y (.string a) (.string b)).run P w=.ok () w:=λ w=>DV w bm bm;split at h
   ·obtain⟨hb,hK⟩:=h.out
    refine al (λ w2=>?_) hK;have jF:¬ ((a.size+b.size:Nat):Int) > IntKind.i64.max:=ab;simp only[Sem.run_bind,g1 w2,Result.andThen_ok,binOp,Op.stringOp];rw[if_neg jF];rfl
   ·exact pk h
  case h_3 a b ex ey=>rw[ex,ey];exact pk h
  case h_4 p ex ey=>
   rw[ex,ey];have g1:∀ op w,(eqGuard op xt x y (.pointer p) (.pointer none)).run P w=.ok () w:=λ op w=>DV w bm bm;split at h
   case h_1 hu=>exact al (λ w2=>by simp[g1,binOp,(BD hu w2).1 _ p rfl]) h
   case h_2 hu=>exact al (λ w2=>by simp[g1,binOp,(BD hu w2).1 _ p rfl]) h
   case h_3=>cases h
  case h_5 p l c l' c' ex ey=>
   rw[ex,ey];have g1:∀ op w,(eqGuard op xt x y (.slice p l c) (.slice none l' c')).run P w=.ok () w:=λ op w=>DV w bm bm;split at h
   case h_1 hu=>exact al (λ w2=>by simp[g1,binOp,(BD hu w2).2.1 _ p l c l' c' rfl]) h
   case h_2 hu=>exact al (λ w2=>by simp[g1,binOp,(BD hu w2).2.1 _ p l c l' c' rfl]) h
   case h_3=>cases h
  case h_6 p ex ey=>
   rw[ex,ey];have g1:∀ op w,(eqGuard op xt x y (.map p) (.map none)).run P w=.ok () w:=λ op w=>DV w bm bm;split at h
   case h_1 hu=>exact al (λ w2=>by simp[g1,binOp,(BD hu w2).2.2 _ _ p rfl]) h
   case h_2 hu=>exact al (λ w2=>by simp[g1,binOp,(BD hu w2).2.2 _ _ p rfl]) h
   case h_3=>cases h
  case h_7=>cases h
theorem pD (e:Env)(xs:Array Operand):(pB e xs).toArray=xs.map e.eval:=by
 apply Array.ext';simp[pB]
theorem DX (k:IntKind)(n:Int)(w:World):(asIntOf (.int k n)).run P w=.ok (k,n) w:=rfl
theorem pE {k:IntKind}{i:Int}{y:Nat}{c:BoundsCode}(h0:0<=i)(h1:i<=y)(w:World):(Instr.sliceBound (.int k i) y c).run P w=.ok i.toNat w:=by
 simp only[Instr.sliceBound,Sem.run_bind,DX,Result.andThen_ok,Sem.run_ite];rw[if_pos ⟨h0,h1⟩];rfl
theorem BE {x:Value}{xt t:TypeId}{d:TypeDesc}(hd:P.underlying t=some d)(hi:∀ m,d≠.interface m)(w:World):
  (∀ v ok,x=.iface t v->(Instr.typeAssert x xt t ok).run P w=.ok (if ok then .tuple #[v,.bool true] else v) w) /\
  (∀ i z,P.info? t=some i->i.zero=some z->(x=.nilIface\/∃ u v,x=.iface u v/\u≠t)->(Instr.typeAssert x xt t true).run P w=.ok (.tuple #[z,.bool false]) w):=by
 refine⟨λ v ok h=>?_,λ i z h1 h2 h=>?_⟩
 ·subst h
  unfold Instr.typeAssert;simp only[Sem.run_bind,under hd,Result.andThen_ok];cases d<;>first | exact absurd rfl (hi _) | (simp only[if_true];cases ok<;>rfl)
 ·unfold Instr.typeAssert
  simp only[Sem.run_bind,under hd,Result.andThen_ok]
  rcases h with rfl | ⟨u,v,rfl,hu⟩
  ·cases d<;>first | exact absurd rfl (hi _) | simp[uG h1 h2]
  ·cases d<;>first | exact absurd rfl (hi _) | simp[uG h1 h2,hu]
theorem Ye {el:TypeId}{d:TypeDesc}{cs:Array Value}{i:Nat}{v:Value}(hd:P.underlying el=some d)(ha:vM d=false)(hv:cs[i]? = some v)(w:World):(part el cs i).run P w=.ok v w:=by
 simp only[part,Sem.run_bind,zk hd,ha,Result.andThen_ok,Bool.false_eq_true,if_false,hv];rfl
theorem Yf {f:FuncId}{args:List Value}{w:World}{K:Value->World->Prop}(h:vL P f args w K):
  ∃ xs,(callFunc f args.toArray).run P w=.ok (.enter f xs) w/\Ret P f xs w K:=by
 unfold vL at h;split at h
 case h_1 g xs fn hp hf=>
  split at h
  case h_1 hb=>
   have hg:=Nat.eq_of_beq_eq_true hb;subst hg;exact⟨xs,KB hp w,h.out.mono λ e w' ⟨v,he,x,hv,hK⟩=>⟨v,he,by rw[hv];exact hK⟩⟩
  case h_2=>cases h
 case h_2=>cases h
theorem Yg {f:FuncId}{args:List Value}{w:World}{K K':Value->World->Prop}(hk:∀ v w',K v w'->K' v w')(h:vL P f args w K):vL P f args w K':=by
 unfold vL at h ⊢;split at h
 case h_1 g xs fn hp hf=>
  split at h
  case h_1 hb=>exact⟨h.out.mono λ e w' ⟨v,he,x,hv,hK⟩=>⟨v,he,x,hv,hk _ _ hK⟩⟩
  case h_2=>cases h
 case h_2=>cases h
theorem P9 {o:Oper}{e:Env}{x:Operand}{w:World}{K:Value->World->Prop}(ho:o.op=.nilCheck x)(h:jP P o e w K):vN P (execOp e.eval o) w K:=by
 unfold jP at h;simp only[ho] at h;unfold PY at h;simp only[execOp,ho];split at h
 case h_1 q eq=>
  obtain⟨p,rfl,hK⟩:=vO h;rw[eq];exact⟨_,λ _=>rfl,hK⟩
 case h_2 f fi ca eq=>rw[eq];exact⟨_,λ _=>rfl,h⟩
 case h_3=>cases h
theorem Qa {o:Oper}{e:Env}{t:TypeId}{x i:Operand}{w:World}{K:Value->World->Prop}(ho:o.op=.indexAddr t x i)(h:jP P o e w K):vN P (execOp e.eval o) w K:=by
 unfold jP at h;simp only[ho] at h;simp only[execOp,ho];split at h
 case h_1 el hu=>
  split at h
  case h_1 base len c k i inf ex ei hi=>
   obtain⟨a,rfl,h0,h1,hK⟩:=h.out;refine nJ (λ w=>?_) hK;rw[ex,ei];simp only[Instr.indexAt,Sem.run_bind,DX,under hu,Result.andThen_ok,Sem.run_pure,if_pos (And.intro h0 h1),mZ hi]
  case h_2=>cases h
 case h_2 n el hu=>
  split at h
  case h_1 q k i inf ex ei hi=>
   obtain⟨p,rfl,h⟩:=vO h;obtain⟨h0,h1,hK⟩:=h.out;refine nJ (λ w=>?_) hK;rw[ex,ei];simp only[Instr.indexAt,Instr.sureAddr,Sem.run_bind,DX,under hu,Result.andThen_ok,Sem.run_pure,if_pos (And.intro h0 h1),mZ hi]
  case h_2=>cases h
 case h_3=>cases h
theorem Qb {o:Oper}{e:Env}{t:TypeId}{x i:Operand}{w:World}{K:Value->World->Prop}(ho:o.op=.index t x i)(h:jP P o e w K):vN P (execOp e.eval o) w K:=by
 unfold jP at h;simp only[ho] at h;simp only[execOp,ho];split at h
 case h_1 hu=>
  split at h
  case h_1 s k i ex ei=>
   obtain⟨b,h0,h1,hK⟩:=h.out;refine nJ (λ w=>?_) hK;rw[ex,ei];simp only[Instr.index,Sem.run_bind,DX,under hu,Result.andThen_ok,if_pos h0,h1];rfl
  case h_2=>cases h
 case h_2 n el hu=>
  split at h
  case h_1 cs k i inf c d ex ei hi hk hd=>
   split at h
   case h_1 hb Yh=>
    obtain⟨y,h0,h1,hy,hK⟩:=h.out;refine nJ (λ w=>?_) hK;rw[ex,ei];have hs:=Nat.eq_of_beq_eq_true hb;have ha:vM d=false:=by cases d<;>first | rfl | cases Yh
    simp only[Instr.index,Sem.run_bind,DX,under hu,Result.andThen_ok,if_pos (And.intro h0 h1),mZ hi,hs,Nat.mul_one];exact Ye hd ha hy w
   case h_2=>cases h
  case h_2=>cases h
 case h_3=>cases h
theorem G8 {a b:Int}(h0:0<=b)(h:b<=a):(a - b).toNat=a.toNat - b.toNat:=ab
theorem Yi {el:TypeId}{t:TypeId}{inf:TypeInfo}{a:Option Addr}{len cap:Nat}{lo hi mx:Option Value}{l h m:Int}(hu:P.underlying t=some (.slice el))(tD:P.info? el=some inf)
  (nK:(lo=none/\l=0)\/∃ k,lo=some (.int k l)) (zm:(hi=none/\mx=none/\h=len)\/∃ k,hi=some (.int k h)) (KF:(mx=none/\m=cap)\/∃ k,mx=some (.int k m))
  (h0:0<=l) (h1:l<=h) (h2:h<=m) (h3:m<=cap) (w:World) :
  (Instr.slice t (.slice a len cap) lo hi mx).run P w=.ok (.slice (if m=l then a else a.map (·.add (l.toNat * inf.size))) (h - l).toNat (m - l).toNat) w:=by
 have e1:(if m=l then a else a.map (·.add (l.toNat * inf.size)))=(if m.toNat=l.toNat then a else a.map (·.add (l.toNat * inf.size))):=by
  by_cases hh:m=l
  ·rw[if_pos hh,if_pos ab]
  ·rw[if_neg hh,if_neg ab]
 have hM:0<=m:=ab;have hH:0<=h:=ab;have Yj:((m.toNat:Nat):Int)=m:=Int.toNat_of_nonneg hM;have BF:((h.toNat:Nat):Int)=h:=Int.toNat_of_nonneg hH;rw[e1,G8 h0 h1,G8 h0 ab];simp only[Instr.slice,Sem.run_bind,under hu,Result.andThen_ok];have hb:(Instr.sliceBounds true len cap lo hi mx).run P w=.ok (l.toNat,h.toNat,m.toNat) w:=by
  unfold Instr.sliceBounds
  rcases KF with⟨rfl,rfl⟩ | ⟨km,rfl⟩
  ·rcases zm with⟨rfl,_,rfl⟩ | ⟨kh,rfl⟩
   ·rcases nK with⟨rfl,rfl⟩ | ⟨kl,rfl⟩
    ·simp
    ·simp[pE h0 h1]
   ·have ba:=λ c=>pE (P:=P) (k:=kh) (i:=h) (y:=cap) (c:=c) hH h2 w
    rcases nK with⟨rfl,rfl⟩ | ⟨kl,rfl⟩
    ·simp[ba]
    ·simp[ba,pE (P:=P) (k:=kl) (i:=l) (y:=h.toNat) h0 ab]
  ·have aE:=λ c=>pE (P:=P) (k:=km) (i:=m) (y:=cap) (c:=c) hM h3 w
   rcases zm with⟨_,hx,_⟩ | ⟨kh,rfl⟩
   ·cases hx
   ·have ba:=λ c=>pE (P:=P) (k:=kh) (i:=h) (y:=m.toNat) (c:=c) hH ab w
    rcases nK with⟨rfl,rfl⟩ | ⟨kl,rfl⟩
    ·simp[aE,ba]
    ·simp[aE,ba,pE (P:=P) (k:=kl) (i:=l) (y:=h.toNat) h0 ab]
 simp only[hb,Result.andThen_ok,mZ tD,Sem.run_pure]
theorem Yk {el:TypeId}{t:TypeId}{inf:TypeInfo}{a:Addr}{n:Nat}{lo hi mx:Option Value}{l h m:Int}(hu:P.underlying t=some (.array n el))(tD:P.info? el=some inf)
  (nK:(lo=none/\l=0)\/∃ k,lo=some (.int k l)) (zm:(hi=none/\mx=none/\h=n)\/∃ k,hi=some (.int k h)) (KF:(mx=none/\m=n)\/∃ k,mx=some (.int k m))
  (h0:0<=l) (h1:l<=h) (h2:h<=m) (h3:m<=n) (w:World) :
  (Instr.sliceAt t (.pointer (some a)) lo hi mx).run P w=.ok (.slice (if m=l then some a else(some a).map (·.add (l.toNat * inf.size))) (h - l).toNat (m - l).toNat) w:=by
 have e1:(if m=l then some a else(some a).map (·.add (l.toNat * inf.size)))=some (if m.toNat=l.toNat then a else a.add (l.toNat * inf.size)):=by
  by_cases hh:m=l
  ·rw[if_pos hh,if_pos ab]
  ·rw[if_neg hh,if_neg ab];rfl
 have hM:0<=m:=ab;have hH:0<=h:=ab;have Yj:((m.toNat:Nat):Int)=m:=Int.toNat_of_nonneg hM;have BF:((h.toNat:Nat):Int)=h:=Int.toNat_of_nonneg hH;rw[e1,G8 h0 h1,G8 h0 ab];simp only[Instr.sliceAt,Instr.sureAddr,Sem.run_bind,Sem.run_pure,under hu,Result.andThen_ok];have hb:(Instr.sliceBounds false n n lo hi mx).run P w=.ok (l.toNat,h.toNat,m.toNat) w:=by
  unfold Instr.sliceBounds
  rcases KF with⟨rfl,rfl⟩ | ⟨km,rfl⟩
  ·rcases zm with⟨rfl,_,rfl⟩ | ⟨kh,rfl⟩
   ·rcases nK with⟨rfl,rfl⟩ | ⟨kl,rfl⟩
    ·simp
    ·simp[pE h0 h1]
   ·have ba:=λ c=>pE (P:=P) (k:=kh) (i:=h) (y:=n) (c:=c) hH h2 w
    rcases nK with⟨rfl,rfl⟩ | ⟨kl,rfl⟩
    ·simp[ba]
    ·simp[ba,pE (P:=P) (k:=kl) (i:=l) (y:=h.toNat) h0 ab]
  ·have aE:=λ c=>pE (P:=P) (k:=km) (i:=m) (y:=n) (c:=c) hM h3 w
   rcases zm with⟨_,hx,_⟩ | ⟨kh,rfl⟩
   ·cases hx
   ·have ba:=λ c=>pE (P:=P) (k:=kh) (i:=h) (y:=m.toNat) (c:=c) hH ab w
    rcases nK with⟨rfl,rfl⟩ | ⟨kl,rfl⟩
    ·simp[aE,ba]
    ·simp[aE,ba,pE (P:=P) (k:=kl) (i:=l) (y:=h.toNat) h0 ab]
 simp only[hb,Result.andThen_ok,mZ tD,Sem.run_pure]
theorem Yl {t:TypeId}{s:ByteArray}{lo hi:Option Value}{l h:Int}(hu:P.underlying t=some .string)
  (nK:(lo=none/\l=0)\/∃ k,lo=some (.int k l)) (zm:(hi=none/\h=s.size)\/∃ k,hi=some (.int k h)) (h0:0<=l) (h1:l<=h) (h2:h<=s.size) (w:World) :
  (Instr.slice t (.string s) lo hi none).run P w=.ok (.string (s.extract l.toNat h.toNat)) w:=by
 have hH:0<=h:=ab;have BF:((h.toNat:Nat):Int)=h:=Int.toNat_of_nonneg hH;simp only[Instr.slice,Sem.run_bind,under hu,Result.andThen_ok,Option.isSome_none,Bool.false_eq_true,if_false];have hb:(Instr.sliceBounds false s.size s.size lo hi none).run P w=.ok (l.toNat,h.toNat,s.size) w:=by
  unfold Instr.sliceBounds
  rcases zm with⟨rfl,rfl⟩ | ⟨kh,rfl⟩
  ·rcases nK with⟨rfl,rfl⟩ | ⟨kl,rfl⟩
   ·simp
   ·simp[pE h0 h1]
  ·have ba:=λ c=>pE (P:=P) (k:=kh) (i:=h) (y:=s.size) (c:=c) hH h2 w
   rcases nK with⟨rfl,rfl⟩ | ⟨kl,rfl⟩
   ·simp[ba]
   ·simp[ba,pE (P:=P) (k:=kl) (i:=l) (y:=h.toNat) h0 ab]
 simp only[hb,Sem.run_pure,Result.andThen_ok]
theorem xE {v:Option Value}{d:Int}{K:Int->Prop}(h:tA v d K):∃ i,K i/\((v=none/\i=d)\/∃ k,v=some (.int k i)):=by
 rcases Yd h with⟨a,b⟩ | ⟨k,i,a,b⟩
 ·exact⟨d,b,.inl ⟨a,rfl⟩⟩
 ·exact⟨i,b,.inr ⟨k,a⟩⟩
theorem Qc {t:TypeId}{d:TypeDesc}(hu:P.underlying t=some d)(hd:∀ n e,d≠.array n e){x:Value}{lo hi mx:Option Value}(w:World):
  (Instr.sliceAt t x lo hi mx).run P w=(Instr.slice t x lo hi mx).run P w:=by
 unfold Instr.sliceAt;simp only[Sem.run_bind,under hu,Result.andThen_ok]
theorem Qd {o:Oper}{e:Env}{t:TypeId}{x:Operand}{lo hi mx:Option Operand}{w:World}{K:Value->World->Prop}(ho:o.op=.slice t x lo hi mx)(h:jP P o e w K):vN P (execOp e.eval o) w K:=by
 unfold jP at h;simp only[ho] at h;simp only[execOp,ho];split at h
 case h_1 hu=>
  split at h
  case h_1 s ex=>
   obtain⟨l,h,hl⟩:=xE h;obtain⟨r,h,hr⟩:=xE h;obtain⟨h0,h1,h2,hK⟩:=h.out;refine nJ (λ w=>?_) hK;rw[Qc hu bm,ex];exact Yl hu hl hr h0 h1 h2 w
  case h_2=>cases h
 case h_2 el hu=>
  split at h
  case h_1 a len cap inf ex tF=>
   split at h
   case h_1=>cases h
   case h_2 KG=>
    obtain⟨l,h,hl⟩:=xE h;obtain⟨r,h,hr⟩:=xE h;obtain⟨m,h,hm⟩:=xE h;obtain⟨h0,h1,h2,h3,hK⟩:=h.out;refine nJ (λ w=>?_) hK;rw[Qc hu bm,ex];refine Yi hu tF hl ?_ hm h0 h1 h2 h3 w
    rcases hr with⟨hr,iD⟩ | hr
    ·refine .inl ⟨hr,?_,iD⟩
     cases hi with
     | some y=>simp at hr
     | none=>
      cases mx with
      | none=>rfl
      | some y=>exact(KG _ rfl rfl).elim
    ·exact .inr hr
  case h_2=>cases h
 case h_3 n el hu=>
  split at h
  case h_1 q inf ex tF=>
   split at h
   case h_1=>cases h
   case h_2 KG=>
    obtain⟨a,rfl,hk⟩:=vO h;obtain⟨l,hk,hl⟩:=xE hk;obtain⟨r,hk,hr⟩:=xE hk;obtain⟨m,hk,hm⟩:=xE hk;obtain⟨h0,h1,h2,h3,hK⟩:=hk.out;refine nJ (λ w=>?_) hK;rw[ex];refine Yk hu tF hl ?_ hm h0 h1 h2 h3 w
    rcases hr with⟨hr,iD⟩ | hr
    ·refine .inl ⟨hr,?_,iD⟩
     cases hi with
     | some y=>simp at hr
     | none=>
      cases mx with
      | none=>rfl
      | some y=>exact(KG _ rfl rfl).elim
    ·exact .inr hr
  case h_2=>cases h
 case h_4=>cases h
theorem Qe {o:Oper}{e:Env}{w:World}{K:Value->World->Prop}(hs:GZ P o.op=true)(h:jP P o e w K):vN P (execOp e.eval o) w K:=by
 have hh:=h;unfold jP at h;cases ho:o.op<;>simp only[ho,GZ,Bool.false_eq_true] at h hs
 case move x=>simp only[execOp,ho];exact⟨_,λ _=>rfl,h⟩
 case assign x=>simp only[execOp,ho];exact⟨_,λ _=>rfl,h⟩
 case pick c a b=>
  simp only[execOp,ho];split at h
  case h_1 t ec=>
   rw[ec];obtain⟨h1,h2⟩:=DU h;cases t
   ·exact⟨_,λ _=>rfl,h2 rfl⟩
   ·exact⟨_,λ _=>rfl,h1 rfl⟩
  case h_2=>cases h
 case nilCheck x=>exact P9 ho hh
 case build t parts=>
  simp only[execOp,ho];obtain⟨cells,hb,h⟩:=P7 h;refine nJ (λ w'=>run_build w' t _ cells ?_) h;simpa using hb
 case binOp op t x y yt=>
  simp only[execOp,ho];obtain⟨v,w',hr,hK,hw⟩:=KE h;obtain⟨xF,zo⟩:=hw (by simpa using hs);subst xF;exact nJ zo hK
 case convert src dst x=>
  simp only[execOp,ho];simp only[Bool.and_eq_true] at hs;split at h
  ·rename_i h1 h2;have:=hs.1;simp[isInt,h1] at this
  ·rename_i h1 h2;have:=hs.1;simp[isInt,h1] at this
  ·rename_i h1 h2;have:=hs.1;simp[isInt,h1] at this
  ·obtain⟨v,hr,hK⟩:=tC h;exact nJ hr hK
 case unOp op t x=>simp only[execOp,ho];obtain⟨v,hr,hK⟩:=tC h;exact nJ hr hK
 case fieldAddr s x f=>
  simp only[execOp,ho];split at h
  case h_1 q ex=>obtain⟨a,hq,h⟩:=vO h;obtain⟨v,hr,hK⟩:=tC h;rw[ex,hq];exact nJ hr hK
  case h_2=>cases h
 case field t x f=>simp only[execOp,ho];obtain⟨v,hr,hK⟩:=tC h;exact nJ hr hK
 case extract t i=>simp only[execOp,ho];obtain⟨v,hr,hK⟩:=tC h;obtain⟨x,rfl,KH⟩:=Kd.nD hK;exact nJ hr KH
 case makeInterface t x=>simp only[execOp,ho];obtain⟨v,hr,hK⟩:=tC h;exact nJ hr hK
 case makeFunc fn fi ca=>simp only[execOp,ho];exact⟨_,λ _=>by simp[Instr.makeFunc,pD],h⟩
 case indexAddr t x i=>exact Qa ho hh
 case index t x i=>exact Qb ho hh
 case slice t x lo hi mx=>exact Qd ho hh
 case typeAssert x xt t ok=>
  simp only[execOp,ho];split at h
  case h_1=>cases h
  case h_2 d hi hu=>
   have tF:∀ m,d≠.interface m:=λ m hm=>hi m (by rw[hm]);split at h
   case h_1=>
    split at h
    case h_1 i tD=>
     split at h
     case h_1 z hz=>
      rcases h.out with⟨r,hx,hK⟩ | ⟨hx,hK⟩
      ·exact nJ (λ w=>(BE hu tF w).1 _ true hx) hK
      ·exact nJ (λ w=>(BE hu tF w).2 i z tD hz hx) hK
     case h_2=>cases h
    case h_2=>cases h
   case h_2=>
    rcases h.out with⟨r,hx,hK⟩ | ⟨hx,hK⟩
    ·exact nJ (λ w=>(BE hu tF w).1 _ false hx) hK
    ·cases hK
  case h_3=>cases h
 case call c=>
  simp only[execOp,ho];have red:∀ (b:Builtin),c.callee=.builtin b->∀ (s:Sem Value) v,(∀ cs,builtin b c.argTypes o.type cs (c.args.map e.eval)=(do pure (.value (<- s))))->(∀ w',s.run P w'=.ok v w')->K v w ->
    vN P (do let d <- resolve e.eval c o.type;invoke d.target d.args) w K:=λ b hc s v hb hr hK=>by
   refine⟨v,λ w'=>?_,hK⟩;simp only[resolve,hc,Sem.run_bind,Sem.run_pure,Result.andThen_ok,invoke];rw[hb];simp[hr w']
  split at hs
  case h_1 hc=>
   simp only[hc] at h;obtain⟨v,hr,hK⟩:=tC h;refine red .cap hc _ v ?_ hr hK;intro _;rw[pD];rfl
  case h_2 hc=>
   simp only[hc] at h;obtain⟨v,hr,hK⟩:=tC h;refine red .min hc _ v ?_ hr hK;intro _;rw[pD];rfl
  case h_3 hc=>
   simp only[hc] at h;obtain⟨v,hr,hK⟩:=tC h;refine red .max hc _ v ?_ hr hK;intro _;rw[pD];rfl
  case h_4 hc=>
   simp only[hc] at h;split at h
   case h_1 m hl=>
    exfalso
    split at hs
    case h_1 t ht=>
     have h0:c.argTypes[0]? = some t:=by rw[<- Array.getElem?_toList,ht];rfl
     rw[h0] at h;simp only[Option.bind_some] at h;split at h
     ·rename_i hu;simp[hu] at hs
     ·exact h
    case h_2=>cases hs
   case h_2 l hl=>
    obtain⟨v,hr,hK⟩:=tC h;refine red .len hc _ v ?_ hr hK;intro _;rw[pD];rfl
  case h_5=>cases hs
theorem Qf {o:Oper}{e:Env}{w:World}{K:Value->World->Prop}(hs:xA P o.op=true)(h:jP P o e w K):BC P (execOp e.eval o) w K:=by
 have hh:=h;unfold jP at h;cases ho:o.op<;>simp only[ho,xA,Bool.false_eq_true] at h hs
 case move x=>simp only[execOp,ho];exact .inl ⟨_,rfl,h⟩
 case assign x=>simp only[execOp,ho];exact .inl ⟨_,rfl,h⟩
 case pick c a b=>
  simp only[execOp,ho];split at h
  case h_1 t ec=>
   rw[ec];obtain⟨h1,h2⟩:=DU h;cases t
   ·exact .inl ⟨_,rfl,h2 rfl⟩
   ·exact .inl ⟨_,rfl,h1 rfl⟩
  case h_2=>cases h
 case load t a=>
  simp only[execOp,ho];split at h
  case h_1 q ea=>
   obtain⟨p,rfl,h⟩:=vO h;obtain⟨v,hv,hK⟩:=P4 h;refine tB ?_ hK;rw[ea];simp only[Instr.loadAt,Instr.sureAddr,Sem.run_bind,Sem.run_pure,Result.andThen_ok,hv]
  case h_2=>cases h
 case nilCheck x=>exact(P9 ho hh).still
 case build t parts=>
  simp only[execOp,ho];obtain⟨cells,hb,h⟩:=P7 h;refine tB (run_build w t _ cells ?_) h;simpa using hb
 case binOp op t x y yt=>
  simp only[execOp,ho];obtain⟨v,w',hr,hK,hw⟩:=KE h;have:=(hw (by simpa using hs)).1;subst this;exact tB hr hK
 case unOp op t x=>simp only[execOp,ho];obtain⟨v,hr,hK⟩:=uH h;exact tB hr hK
 case fieldAddr s x f=>
  simp only[execOp,ho];split at h
  case h_1 q ex=>obtain⟨a,hq,h⟩:=vO h;obtain⟨v,hr,hK⟩:=uH h;rw[ex,hq];exact tB hr hK
  case h_2=>cases h
 case field t x f=>simp only[execOp,ho];obtain⟨v,hr,hK⟩:=uH h;exact tB hr hK
 case extract t i=>simp only[execOp,ho];obtain⟨v,hr,hK⟩:=uH h;obtain⟨x,rfl,KH⟩:=Kd.nD hK;exact tB hr KH
 case makeInterface t x=>simp only[execOp,ho];obtain⟨v,hr,hK⟩:=uH h;exact tB hr hK
 case makeFunc fn fi ca=>simp only[execOp,ho];exact .inl ⟨_,by simp[Instr.makeFunc,pD],h⟩
 case indexAddr t x i=>exact(Qa ho hh).still
 case index t x i=>exact(Qb ho hh).still
 case slice t x lo hi mx=>exact(Qd ho hh).still
 case typeAssert x xt t ok=>
  simp only[execOp,ho];split at h
  case h_1=>cases h
  case h_2 d hi hu=>
   have tF:∀ m,d≠.interface m:=λ m hm=>hi m (by rw[hm]);split at h
   case h_1=>
    split at h
    case h_1 i tD=>
     split at h
     case h_1 z hz=>
      rcases h.out with⟨r,hx,hK⟩ | ⟨hx,hK⟩
      ·exact tB ((BE hu tF w).1 _ true hx) hK
      ·exact tB ((BE hu tF w).2 i z tD hz hx) hK
     case h_2=>cases h
    case h_2=>cases h
   case h_2=>
    rcases h.out with⟨r,hx,hK⟩ | ⟨hx,hK⟩
    ·exact tB ((BE hu tF w).1 _ false hx) hK
    ·cases hK
  case h_3=>cases h
 case call c=>
  simp only[execOp,ho];have red:∀ (b:Builtin),c.callee=.builtin b->∀ (s:Sem Value) v,(∀ cs,builtin b c.argTypes o.type cs (c.args.map e.eval)=(do pure (.value (<- s))))->s.run P w=.ok v w->K v w ->
    BC P (do let d <- resolve e.eval c o.type;invoke d.target d.args) w K:=λ b hc s v hb hr hK=>by
   refine .inl ⟨v,?_,hK⟩;simp only[resolve,hc,Sem.run_bind,Sem.run_pure,Result.andThen_ok,invoke];rw[hb];simp[hr]
  split at hs
  case h_1 hc=>
   simp only[hc] at h;split at h
   case h_1 m hl=>
    have hm:c.args.map e.eval=#[.map m]:=by rw[<- pD,hl]
    split at h
    case h_1 k el hu=>
     have zp:∃ t,c.argTypes[0]? = some t/\P.underlying t=some (.map k el):=by
      cases ht:c.argTypes[0]? with
      | none=>simp[ht] at hu
      | some t=>exact⟨t,rfl,by simpa[ht] using hu⟩
     obtain⟨t,ht,nL⟩:=zp
     rcases h.out with⟨rfl,hK⟩ | ⟨r,es,cl,rfl,hh,hK⟩
     ·refine red .len hc (Builtin.len_ c.argTypes o.type #[.map none]) _ (λ _=>by rw[hm];rfl) ?_ hK
      unfold Builtin.len_;simp[ht,under nL,goInt]
     ·refine red .len hc (Builtin.len_ c.argTypes o.type #[.map (some r)]) _ (λ _=>by rw[hm];rfl) ?_ hK
      unfold Builtin.len_;simp[ht,under nL,goInt,getObj,Sem.run,hh]
    case h_2=>cases h
   case h_2 l hl=>
    obtain⟨v,hr,hK⟩:=uH h;refine red .len hc _ v ?_ hr hK;intro _;rw[pD];rfl
  case h_2 hc=>
   simp only[hc] at h;obtain⟨v,hr,hK⟩:=uH h;refine red .cap hc _ v ?_ hr hK;intro _;rw[pD];rfl
  case h_3 hc=>
   simp only[hc] at h;obtain⟨v,hr,hK⟩:=uH h;refine red .min hc _ v ?_ hr hK;intro _;rw[pD];rfl
  case h_4 hc=>
   simp only[hc] at h;obtain⟨v,hr,hK⟩:=uH h;refine red .max hc _ v ?_ hr hK;intro _;rw[pD];rfl
  case h_5=>cases hs
theorem G9 {o:Oper}{e:Env}{w:World}{K:Value->World->Prop}(h:jP P o e w K):Yields P (execOp e.eval o) w K:=by
  by_cases hs:xA P o.op=true
  · exact(Qf hs h).Yc
  have hh:=h;unfold jP at h;cases ho:o.op<;>simp only[ho,xA,not_true,Bool.not_eq_true] at h hs
  case store t a x=>
    simp only[execOp,ho];split at h
    case h_1 q ea=>
      obtain⟨p,rfl,h⟩:=vO h;split at h
      case h_1 i tD=>
       split at h
       case h_1=>
        split at h
        case h_1 hb=>
          have hsz:1=i.size:=Nat.eq_of_beq_eq_true hb;obtain⟨h1,h⟩:=h.out;obtain⟨hw,hK⟩:=h.out;refine yu ?_ hK;rw[ea];have hr:(storeCells p (e.eval x).cells.toList 0).run P w=.ok () (setCells w p 0 [e.eval x]):=by rw[h1];exact BB _ 0 w hw
          have hz:(e.eval x).cells.size=i.size:=by rw[h1,<- hsz];rfl
          simp only[Instr.storeAt,Instr.sureAddr,storeVar,Sem.run_bind,Sem.run_pure,Result.andThen_ok,mZ tD,hz,ne_eq,not_true,if_false,hr]
        case h_2=>cases h
       case h_2=>
        split at h
        case h_1 n el hu=>
          split at h
          case h_1 cs ex=>
            obtain⟨hsz,h⟩:=h.out;obtain⟨hw,hK⟩:=h.out;refine yu ?_ hK;rw[ea,ex];have Ym:(Value.agg cs).cells.size=i.size:=by rw[<- hsz];exact Array.length_toList.symm
            have hr:(storeCells p (Value.agg cs).cells.toList 0).run P w=.ok () (setCells w p 0 cs.toList):=BB _ 0 w hw;simp only[Instr.storeAt,Instr.sureAddr,storeVar,Sem.run_bind,Sem.run_pure,Result.andThen_ok,mZ tD,Ym,ne_eq,not_true,if_false,hr]
          case h_2=>cases h
        case h_2 hu=>
          split at h
          case h_1 hb=>
            have hsz:(e.eval x).cells.size=i.size:=Nat.eq_of_beq_eq_true hb;have sv:∀ w',(storeCells p (e.eval x).cells.toList 0).run P w=.ok () w'->K undef w'->Yields P (do Instr.storeAt t (e.eval a) (e.eval x);pure .skip) w K:=λ w' hr hK=>by
              refine yu ?_ hK;rw[ea];simp only[Instr.storeAt,Instr.sureAddr,storeVar,Sem.run_bind,Sem.run_pure,Result.andThen_ok,mZ tD,hsz,ne_eq,not_true,if_false,hr]
            split at h
            case h_1 cs ex=>
              obtain⟨hw,hK⟩:=h.out;exact sv _ (by rw[ex];exact BB _ 0 w hw) hK
            case h_2=>cases h
            case h_3 Yn hnt=>
              obtain⟨h1,h2,h3,hK⟩:=h.out;refine sv _ ?_ hK;have hc:(e.eval x).cells.toList=[e.eval x]:=by
                cases hx:e.eval x<;>first | rfl | exact(Yn _ hx).elim
              rw[hc];simp only[storeCells,Sem.run_bind];have ha:p.add 0=p:=by simp[Addr.add]
              rw[ha,P5 h1 h2 h3];rfl
          case h_2=>cases h
      case h_2=>cases h
    case h_2=>cases h
  case alloc t=>
    simp only[execOp,ho];split at h
    case h_1 i hi=>
      split at h
      case h_1 z hz=>
        refine yv ?_ h.out;simp[Instr.alloc,uG hi hz,newVar,newRow,newObj,Sem.run]
      case h_2=>cases h
    case h_2=>cases h
  case box t x=>
    simp only[execOp,ho];split at h
    · obtain⟨h1,h⟩:=h.out
      exact yv (by simp[Instr.box,newVar,newRow,newObj,Sem.run,h1]) h.out
    · exact yv (by simp[Instr.box,newVar,newRow,newObj,Sem.run]) h.out
  case binOp op t x y yt=>
    simp only[execOp,ho];obtain⟨v,w',hr,hK,_⟩:=KE h;exact yv hr hK
  case makeMap t r=>
    cases r with
    | none=>
      simp only[execOp,ho];exact yv (by simp[Instr.makeMap,newObj,Sem.run]) h.out
    | some r=>exact h.elim
  case convert src dst x=>
    simp only[execOp,ho];split at h
    · obtain⟨v,w',hr,hK⟩:=h.out;exact yv hr hK
    · obtain⟨v,w',hr,hK⟩:=h.out;exact yv hr hK
    · obtain⟨v,w',hr,hK⟩:=h.out;exact yv hr hK
    · obtain⟨v,hr,hK⟩:=uH h;exact yv hr hK
  case makeSlice t l c=>simp only[execOp,ho];obtain⟨v,w',hr,hK⟩:=h.out;exact yv hr hK
  case buildSlice t n parts=>
    simp only[execOp,ho];obtain⟨v,w',hr,hK⟩:=h.out;refine yv ?_ hK;have:(parts.toList.map λ(i,x)=>(i,e.eval x)).toArray=parts.map λ(i,x)=>(i,e.eval x):=by
      apply Array.ext';simp
    rw[this] at hr;exact hr
  case lookup t x i ok=>simp only[execOp,ho];obtain⟨v,w',hr,hK⟩:=h.out;exact yv hr hK
  case mapEntry t m k=>simp only[execOp,ho];obtain⟨v,w',hr,hK⟩:=h.out;exact yv hr hK
  case entryStore t m k x=>simp only[execOp,ho];obtain⟨w',hr,hK⟩:=h.out;exact yu hr hK
  case mapUpdate t m k x=>simp only[execOp,ho];obtain⟨w',hr,hK⟩:=h.out;exact yu hr hK
  case insert t m k x=>simp only[execOp,ho];obtain⟨w',hr,hK⟩:=h.out;exact yu hr hK
  case range t x=>simp only[execOp,ho];obtain⟨v,w',hr,hK⟩:=h.out;exact yv hr hK
  case next it s=>
    simp only[execOp,ho];split at h
    case h_1=>
      split at h
      case h_1 q Yo=>
        obtain⟨r,s,pos,rfl,hr,hK⟩:=h.out;rw[Yo]
        by_cases hp:pos<s.size
        · rw[if_pos hp] at hK
          refine yv ?_ hK;simp only[Instr.next,Sem.run_bind,getObj,Sem.run,hr,Result.andThen_ok,if_pos hp,setObj,Sem.run_pure];rfl
        · rw[if_neg hp] at hK
          refine yv (v:=.tuple #[.bool false]) (w':=w) ?_ hK;simp only[Instr.next,Sem.run_bind,getObj,Sem.run,hr,Result.andThen_ok,if_neg hp,Sem.run_pure]
      case h_2=>cases h
    case h_2=>
      rcases h.out with⟨k,v,w',hr,hK⟩ | ⟨w',hr,hK⟩
      · exact yv hr hK
      · exact yv hr hK
  case entry it=>simp only[execOp,ho];obtain⟨v,w',hr,hK⟩:=h.out;exact yv hr hK
  case call c=>
    simp only[execOp,ho];have red:∀ (b:Builtin),c.callee=.builtin b->∀ (s:Sem Value) v w',(∀ cs,builtin b c.argTypes o.type cs (c.args.map e.eval)=(do pure (.value (<- s))))->s.run P w=.ok v w'->K v w' ->
        Yields P (do let d <- resolve e.eval c o.type;invoke d.target d.args) w K:=λ b hc s v w' hb hr hK=>by
      refine .inl ⟨v,w',?_,hK⟩;simp only[resolve,hc,Sem.run_bind,Sem.run_pure,Result.andThen_ok,invoke];rw[hb];simp[hr]
    split at h
    case h_1 hc=>
      obtain⟨v,w',hr,hK⟩:=h.out;exact red .append hc _ _ w' (λ _=>by rw[pD];rfl) hr hK
    case h_2 hc=>
      obtain⟨v,w',hr,hK⟩:=h.out;exact red .copy hc _ _ w' (λ _=>by rw[pD];rfl) hr hK
    case h_3 hc=>
      obtain⟨v,w',hr,hK⟩:=h.out;exact red .delete hc _ _ w' (λ _=>by rw[pD];rfl) hr hK
    case h_4 hc=>simp[hc] at hs
    case h_5 hc=>simp[hc] at hs
    case h_6 hc=>simp[hc] at hs
    case h_7 hc=>simp[hc] at hs
    case h_8 x hc=>
      have go:∀ {f fi ca},e.eval x=.func (.func f) fi ca->vL P f (fi.toList++pB e c.args++ca.toList) w K->Yields P (do let d <- resolve e.eval c o.type;invoke d.target d.args) w K:=λ{f fi ca} ex h=>by
        obtain⟨xs,hr,hK⟩:=Yf h;refine .inr (.inr ⟨f,xs,?_,hK⟩);have hargs:(fi.toList++pB e c.args++ca.toList).toArray=fi++c.args.map e.eval++ca:=by
          rw[<- pD];apply Array.ext';simp
        rw[hargs] at hr;simp only[resolve,hc,ex,Deferred.ofValue,Sem.run_bind,Sem.run_pure,Result.andThen_ok,invoke,hr]
      split at h
      case h_1 u=>
        unfold nH at h;split at h
        case h_1 f fi ca ex=>exact go ex (Yg (λ v w' hv=>by obtain⟨y,rfl,hy⟩:=Rk.nD hv;exact hy) h)
        case h_2=>cases h
      case h_2=>
        split at h
        case h_1 f fi ca ex=>exact go ex h
        case h_2=>cases h
    case h_9=>cases h
  all_goals first | (exact absurd hs bm) | (exact h.elim)
theorem Yp {n:Nat}{o:Oper}{e:Env}{a:Act}{w:World}{K:Value->World->Prop}{next:Act->World->Prop}{Q:Exit->Act->World->Prop}(hr:eM n e a)(h:jP P o e w K)
  (hK:∀ v w',K v w'->next (a.put o.dst v) w'):o.wp P a w next Q:=by
 unfold Oper.wp;rw[hr.eval]
 rcases G9 h with⟨v,w',jE,hk⟩ | ⟨w',jE,hk⟩ | ⟨f,args,jE,hk⟩
 ·rw[jE];exact hK _ _ hk
 ·rw[jE];exact hK _ _ hk
 ·rw[jE]
  exact Calls.mono hk λ e w' ⟨v,he,hv⟩=>by subst he;exact hK _ _ hv
theorem Yq {n:Nat}{o:Oper}{e:Env}{a:Act}{w:World}{K:Value->World->Prop}{next:Act->Prop}(hr:eM n e a)(hs:xA P o.op=true)(h:jP P o e w K)
  (hK:∀ v,K v w->next (a.put o.dst v)):o.still P a w next:=by
 unfold Oper.still;rw[hr.eval]
 rcases Qf hs h with⟨v,jE,hk⟩ | ⟨jE,hk⟩
 ·rw[jE];exact⟨rfl,hK _ hk⟩
 ·rw[jE];exact⟨rfl,hK _ hk⟩
theorem eM.yielded {n:Nat}{e:Env}{a:Act}(h:eM n e a)(ops:Array Oper)(j:Nat):
  Go.yielded ops a.tmps j=match (ops[j]?).bind (·.dst) with
   | none=>none
   | some d=>match e.get d with | .bool b=>some b | _=>none:=by
 unfold Go.yielded;cases hd:(ops[j]?).bind (·.dst) with
 | none=>simp
 | some d=>
  simp only[Option.bind_some];rw[<- h.get d,Array.getD_eq_getD_getElem?];cases ht:a.tmps[d]? with
  | none=>simp[undef]
  | some v=>simp only[Option.getD_some];cases v<;>rfl
theorem eM.lit {n:Nat}{e:Env}{a:Act}(h:eM n e a){d:Nat}{v:Value}(hv:e.get d=v):eM n (e.put (some d) v) a:=
 ⟨h.size,h.defers,λ t=>by rw[Env.GX,h.get];by_cases ht:t=d<;>simp[ht,hv]⟩
theorem Hh (e:Env)(dst:Option Nat)(v:Value){t:Nat}(h:t ∉ dst.toList):(e.put dst v).get t=e.get t:=by
 cases dst with
 | none=>rfl
 | some d=>rw[Env.GX,if_neg (by simpa using h)]
theorem sx {e:Env}{d:Nat}{v:Value}(hv:e.get d=v)(t:Nat):(e.put (some d) v).get t=e.get t:=by
 rw[Env.GX];by_cases ht:t=d<;>simp[ht,hv]
def sy (l:List Oper):List Nat:=l.filterMap (·.dst)
theorem KI {o:Oper}{l:List Oper}{t:Nat}(h:t ∉ sy (o::l)):t ∉ o.dst.toList/\t ∉ sy l:=by
 unfold sy at *;cases hd:o.dst with
 | none=>simp[hd] at h;exact⟨by simp,by simpa using h⟩
 | some d=>
  simp[hd] at h;exact⟨by simpa using λ x=>h.1 x,by simpa using h.2⟩
theorem Qg {n:Nat}{ops:Array Oper}{o:Oper}{rest:List Oper}{e:Env}{a:Act}{w:World}{K:Env->World->Prop}(hr:eM n e a)(h:nI P n ops (o::rest) e w K):
  (Region.wanted o (Go.yielded ops a.tmps)=true/\∃ e1,eM n e1 a/\(∀ t,e1.get t=e.get t)/\oQ n o.dst=true/\jP P o e1 w λ v w'=>nI P n ops rest (e1.put o.dst v) w' K) \/
  (Region.wanted o (Go.yielded ops a.tmps)=false/\∃ e1,eM n e1 a/\(∀ t,e1.get t=e.get t)/\oQ n o.dst=true/\nI P n ops rest (e1.put o.dst undef) w K):=by
 unfold nI at h;split at h
 case h_1=>cases h
 case h_2 hd=>
  split at h
  case h_1 hg=>exact .inl ⟨by simp[Region.wanted,hg],e,hr,λ _=>rfl,hd,h⟩
  case h_2 j want hg=>
   have hy:=hr.yielded ops j;split at h
   case h_1=>cases h
   case h_2 d KJ=>
    simp only[KJ] at hy;split at h
    case h_1 b hb=>
     simp only[hb] at hy;split at h
     all_goals
      obtain⟨h1,h2⟩:=DU h;cases b
      ·first
        | exact .inr ⟨by simp[Region.wanted,hg,hy],_,hr.lit hb,sx hb,hd,h2 rfl⟩
        | exact .inl ⟨by simp[Region.wanted,hg,hy],_,hr.lit hb,sx hb,hd,h2 rfl⟩
      ·first
        | exact .inr ⟨by simp[Region.wanted,hg,hy],_,hr.lit hb,sx hb,hd,h1 rfl⟩
        | exact .inl ⟨by simp[Region.wanted,hg,hy],_,hr.lit hb,sx hb,hd,h1 rfl⟩
    case h_2 hb=>
     simp only[hb] at hy;exact .inr ⟨by simp[Region.wanted,hg,hy],e,hr,λ _=>rfl,hd,h⟩
    case h_3=>cases h
theorem KK {n:Nat}{ops:Array Oper}{Q:Exit->Act->World->Prop}:∀ (l:List Oper) (e:Env) (a:Act) (w:World) (K:Env->World->Prop),eM n e a->nI P n ops l e w K ->
  (∀ e' a' w',eM n e' a'->(∀ t,t ∉ sy l->e'.get t=e.get t)->K e' w'->Q .normal a' w')->wpList P ops Q l a w
 | [],e,a,w,K,hr,h,hK=>hK e a w hr (λ _ _=>rfl) h
 | o::rest,e,a,w,K,hr,h,hK=>by
  unfold wpList;have go:∀ e1 v w',eM n e1 a->(∀ t,e1.get t=e.get t)->oQ n o.dst=true->nI P n ops rest (e1.put o.dst v) w' K->wpList P ops Q rest (a.put o.dst v) w':=λ e1 v w' fM he hd h=>
   KK rest _ _ _ K (fM.put o.dst hd v) h λ e' a' w' h1 h2 h3=>hK e' a' w' h1 (λ t ht=>by
    obtain⟨zq,qq⟩:=KI ht;rw[h2 t qq,Hh _ _ _ zq,he t]) h3
  rcases Qg hr h with⟨hw,e1,fM,he,hd,h⟩ | ⟨hw,e1,fM,he,hd,h⟩
  ·rw[if_pos hw]
   exact .inl (Yp fM h λ v w' h=>go e1 v w' fM he hd h)
  ·rw[if_neg (by rw[hw];simp)]
   exact go e1 undef w fM he hd h
theorem KL {n:Nat}{ops:Array Oper}{Q:Act->Prop}(tl:List Oper):∀ (l:List Oper) (e:Env) (a:Act) (w:World) (K:Env->World->Prop),l.all (λ o=>xA P o.op)=true->eM n e a ->
  nI P n ops (l++tl) e w K ->
  (∀ e' a',eM n e' a'->(∀ t,t ∉ sy l->e'.get t=e.get t)->nI P n ops tl e' w K->Q a')->wpStill P ops w Q l a
 | [],e,a,w,K,_,hr,h,hK=>hK e a hr (λ _ _=>rfl) h
 | o::rest,e,a,w,K,hs,hr,h,hK=>by
  simp only[List.all_cons,Bool.and_eq_true] at hs;unfold wpStill;have go:∀ e1 v,eM n e1 a->(∀ t,e1.get t=e.get t)->oQ n o.dst=true->nI P n ops (rest++tl) (e1.put o.dst v) w K->wpStill P ops w Q rest (a.put o.dst v):=λ e1 v fM he hd h=>
   KL tl rest _ _ _ K hs.2 (fM.put o.dst hd v) h λ e' a' h1 h2 h3=>hK e' a' h1 (λ t ht=>by
    obtain⟨zq,qq⟩:=KI ht;rw[h2 t qq,Hh _ _ _ zq,he t]) h3
  rcases Qg hr h with⟨hw,e1,fM,he,hd,h⟩ | ⟨hw,e1,fM,he,hd,h⟩
  ·rw[if_pos hw]
   exact Yq fM hs.1 h λ v h=>go e1 v fM he hd h
  ·rw[if_neg (by rw[hw];simp)]
   exact go e1 undef fM he hd h
theorem mem_iff (l:List Nat)(t:Nat):mem l t=true↔t∈l:=by
 induction l with
 | nil=>simp[mem]
 | cons u l ih=>
  unfold mem;cases hb:Nat.beq u t with
  | true=>simp[Nat.eq_of_beq_eq_true hb]
  | false=>
   have aL:t≠u:=λ h=>by rw[h] at hb;simp at hb
   simp[ih,aL]
section anyorder
variable {ops:Array Oper} {CL:Array Bool->World->Prop}
def sA (ops:Array Oper)(bb:Array Bool):Prop:=
 bb.size=ops.size/\∀ j oj,ops[j]? = some oj->bb.getD j false=true->∀ e∈oj.after,Region.binds .any e=true->bb.getD e.on false=true
theorem sA.set {bb:Array Bool}(h:sA ops bb){i:Nat}(hi:i∈Region.ready .any ops bb):sA ops (bb.setIfInBounds i true):=by
 obtain⟨_,oi,KM,hall⟩:=mem_ready.1 hi;refine⟨by simp[h.1],λ j oj hj hl e he hb=>?_⟩
 by_cases ox:i=j
 ·subst ox
  have:oj=oi:=Option.some.inj (hj.symm.trans KM);subst this;exact getD_set_true (hall e he hb)
 ·rw[getD_set_ne false ox] at hl
  exact getD_set_true (h.2 j oj hj hl e he hb)
def xG (P:Program)(ops:Array Oper)(CL:Array Bool->World->Prop)(o:Oper)(i:Nat)(v:Value)(a:Act):Prop:=
 (Region.wanted o (Go.yielded ops a.tmps)=true/\∀ bb w,sA ops bb->i∈Region.ready .any ops bb->CL bb w ->
  Yields P (execOp a.eval o) w λ u w'=>u=v/\CL (bb.setIfInBounds i true) w') \/
 (Region.wanted o (Go.yielded ops a.tmps)=false/\v=undef/\∀ bb w,sA ops bb->i∈Region.ready .any ops bb->CL bb w->CL (bb.setIfInBounds i true) w)
theorem xG.of_same {o:Oper}{i:Nat}{v:Value}{a a':Act}(h:xG P ops CL o i v a)(he:execOp a'.eval o=execOp a.eval o)(hw:Region.wanted o (Go.yielded ops a'.tmps)=Region.wanted o (Go.yielded ops a.tmps)):
  xG P ops CL o i v a':=by
 unfold xG at *;rw[he,hw];exact h
def uI (P:Program)(ops:Array Oper)(CL:Array Bool->World->Prop)(Q:Array Bool->Act->Prop):Nat->Array Bool->Act->Prop
 | 0,bb,a=>Region.ready .any ops bb=[]/\Q bb a
 | f+1,bb,a=>Region.ready .any ops bb≠[]/\∀ i∈Region.ready .any ops bb,∃ o v,ops[i]? = some o/\xG P ops CL o i v a/\uI P ops CL Q f (bb.setIfInBounds i true) (a.put o.dst v)
theorem Qh {Q:Array Bool->Act->Prop}{Q':Exit->Act->World->Prop}(hQ:∀ bb a w,Q bb a->CL bb w->Q' .normal a w):∀ (f:Nat) (bb:Array Bool) (a:Act) (w:World),
  sA ops bb->CL bb w->uI P ops CL Q f bb a->wpAny P .any ops Q' f bb a w
 | 0,bb,a,w,_,hC,h=>⟨h.1,hQ _ _ _ h.2 hC⟩
 | f+1,bb,a,w,gw,hC,h=>by
  refine⟨λ h0=>absurd h0 h.1,λ i hi=>?_⟩;obtain⟨o,v,ho,hs,hn⟩:=h.2 i hi;have rest:∀ w',CL (bb.setIfInBounds i true) w'->wpAny P .any ops Q' f (bb.setIfInBounds i true) (a.put o.dst v) w':=λ w' vP=>Qh hQ f _ _ w' (gw.set hi) vP hn;unfold wpOp;simp only[ho]
  rcases hs with⟨hw,hy⟩ | ⟨hw,rfl,hy⟩
  ·rw[if_pos hw]
   refine .inl ?_;unfold Oper.wp
   rcases hy bb w gw hi hC with⟨u,w',jE,rfl,vP⟩ | ⟨w',jE,rfl,vP⟩ | ⟨g,args,jE,KN⟩
   ·rw[jE];exact rest w' vP
   ·rw[jE];exact rest w' vP
   ·rw[jE]
    exact Calls.mono KN λ e w' ⟨u,he,hu,vP⟩=>by subst he;subst hu;exact rest w' vP
  ·rw[if_neg (by rw[hw];simp)]
   exact rest w (hy bb w gw hi hC)
theorem Qi {Q Q':Array Bool->Act->Prop}(hq:∀ l a,Q l a->Q' l a):∀ (f:Nat) (bb:Array Bool) (a:Act),uI P ops CL Q f bb a->uI P ops CL Q' f bb a
 | 0,_,_,h=>⟨h.1,hq _ _ h.2⟩
 | f+1,_,_,h=>⟨h.1,λ i hi=>let ⟨o,v,h1,h2,h3⟩:=h.2 i hi;⟨o,v,h1,h2,Qi hq f _ _ h3⟩⟩
theorem Yr {Q:Array Bool->Act->Prop}{i:Nat}{oi:Oper}{v:Value}(hi:ops[i]? = some oi)(tG:∀ (j:Nat) (o:Oper) cs b,ops[j]? = some o->o.op≠.select cs b):
  ∀ (f:Nat) (bb:Array Bool) (a:Act),
   (∀ j oj,ops[j]? = some oj->j≠i->bb.getD j true=false->(∀ e∈oj.after,Region.binds .any e=true->e.on≠i)->oi.apart ops oj=true) ->
   i∈Region.ready .any ops bb->xG P ops CL oi i v a->uI P ops CL Q f (bb.setIfInBounds i true) (a.put oi.dst v)->uI P ops CL Q (f+1) bb a:=by
 intro f
 induction f with
 | zero=>
  intro bb a _ hr hy H;refine⟨λ h=>(by rw[h] at hr;cases hr),λ j hj=>?_⟩
  by_cases lM:j=i
  ·subst lM;exact⟨oi,v,hi,hy,H⟩
  ·have:=ready_mono hj lM
   rw[H.1] at this;cases this
 | succ f ih=>
  intro bb a DY hr hy H;refine⟨λ h=>(by rw[h] at hr;cases hr),λ j hj=>?_⟩
  by_cases lM:j=i
  ·subst lM;exact⟨oi,v,hi,hy,H⟩
  ·obtain⟨oj,u,vQ,DZ,Hj⟩:=H.2 j (ready_mono hj lM)
   obtain⟨D0,lN,Hi,hall⟩:=mem_ready.1 hj;have:lN=oj:=Option.some.inj (Hi.symm.trans vQ);subst this;have KO:∀ e∈lN.after,Region.binds .any e=true->e.on≠i:=λ e he hb heq=>by
    have h1:=hall e he hb;have h0:=(mem_ready.1 hr).1;rw[heq] at h1
    rcases Nat.lt_or_ge i bb.size with h' | h'
    ·simp[h'] at h0 h1;rw[h0] at h1;cases h1
    ·simp[Array.getElem?_eq_none h'] at h1
   have KP:=DY j lN vQ lM D0 KO;obtain⟨h1,h2,h3⟩:=Oper.apart_spec KP;refine⟨lN,u,vQ,DZ.of_same (execOp_put lN (λ cs b=>tG j lN cs b vQ) a oi.dst v h1).symm (wanted_put lN a oi.dst v h1).symm,?_⟩;refine ih (bb.setIfInBounds j true) (a.put lN.dst u) (λ k ok hk BG uJ jQ=>?_) (ready_mono hr (Ne.symm lM))
    (hy.of_same (execOp_put oi (λ cs b=>tG i oi cs b hi) a lN.dst u h3) (wanted_put oi a lN.dst u h3)) ?_
   ·refine DY k ok hk BG ?_ jQ
    by_cases xH:j=k
    ·subst xH;exact D0
    ·rw[getD_set_ne true xH] at uJ;exact uJ
   ·rw[Array.setIfInBounds_comm _ _ lM,<- Act.put_comm a v u h2]
    exact Hj
theorem KQ {bb:Array Bool}(gw:sA ops bb):∀ (f i:Nat),(∀ o,ops[i]? = some o->∀ e∈o.after,Region.binds .any e=true->bb.getD e.on false=true)->∀ j∈uF ops f i,bb.getD j false=true
 | 0,_,_,j,hj=>by simp[uF] at hj
 | f+1,i,hi,j,hj=>by
  unfold uF at hj;cases ho:ops[i]? with
  | none=>simp[ho] at hj
  | some o=>
   simp only[ho,List.mem_flatMap] at hj;obtain⟨e,he,hj⟩:=hj;cases hb:Region.binds .any e with
   | false=>simp[hb] at hj
   | true=>
    have hl:=hi o ho e (Array.mem_toList_iff.1 he) hb;simp only[hb,List.mem_cons] at hj
    rcases hj with rfl | hj
    ·exact hl
    ·exact KQ gw f e.on (λ o' KR e' KS jF=>gw.2 e.on o' KR hl e' KS jF) j hj
def mask (loud:List (Nat×Rk))(bb:Array Bool):Nat->Bool:=λ j=>mem (loud.map (·.1)) j&&bb.getD j false
theorem Qj {loud:List (Nat×Rk)}{k:Nat}:(xB loud k).isSome=mem (loud.map (·.1)) k:=by
 induction loud with
 | nil=>rfl
 | cons x l ih=>
  obtain⟨j,r⟩:=x;simp only[xB,List.map_cons,mem];cases hb:Nat.beq j k with
  | true=>rfl
  | false=>exact ih
theorem Qk {loud:List (Nat×Rk)}{bb:Array Bool}{i:Nat}(hm:mem (loud.map (·.1)) i=true)(hi:i<bb.size):mask loud (bb.setIfInBounds i true)=xx (mask loud bb) i:=by
 funext j
 unfold mask xx;cases hb:Nat.beq j i with
 | true=>
  have:=Nat.eq_of_beq_eq_true hb;subst this;simp[hm,hi]
 | false=>
  have aL:i≠j:=λ e=>by subst e;simp at hb
  simp only[getD_set_ne false aL]
theorem Ql {loud:List (Nat×Rk)}{bb:Array Bool}{i:Nat}(hm:mem (loud.map (·.1)) i=false):mask loud (bb.setIfInBounds i true)=mask loud bb:=by
 funext j
 unfold mask
 by_cases ox:i=j
 ·subst ox;simp[hm]
 ·rw[getD_set_ne false ox]
theorem Qm {bb:Array Bool}{i:Nat}(h:i∈Region.ready .any ops bb):i<ops.size/\bb.getD i true=false:=by
 obtain⟨h1,o,h2,_⟩:=mem_ready.1 h;exact⟨(Array.getElem?_eq_some_iff.1 h2).1,h1⟩
theorem Ys {bb:Array Bool}{i:Nat}(h:bb.getD i true=false):bb.getD i false=false:=by
 rcases Nat.lt_or_ge i bb.size with h' | h'
 ·simp[h'] at h ⊢;exact h
 ·simp[Array.getElem?_eq_none h'] at h
theorem Yt {n:Nat}{loud:List (Nat×Rk)}{C:(Nat->Bool)->World->Prop}{o:Oper}{k:Nat}{e:Env}{a:Act}{w:World}{next:Value->Prop}(hr:eM n e a)
  (hwt:Region.wanted o (Go.yielded ops a.tmps)=true) (h:Bx P ops loud C o k e w next) :
  ∃ v,xG P ops (λ l w=>C (mask loud l) w) o k v a/\next v:=by
 unfold Bx at h;have hm:=Qj (loud:=loud) (k:=k);split at h
 case h_1 r hl=>
  rw[hl] at hm;obtain⟨x,hx,hn⟩:=h.out;refine⟨_,.inl ⟨hwt,λ bb w' gw hi hC=>?_⟩,hn⟩;obtain⟨bI,uJ⟩:=Qm hi;have hD:mask loud bb k=false:=by unfold mask;rw[Ys uJ];simp
  have Hk:∀ j,j∈Kw ops loud k->mask loud bb j=true:=λ j hj=>by
   unfold Kw at hj;rw[List.mem_filter] at hj;obtain⟨_,oi,KM,hall⟩:=mem_ready.1 hi;have:=KQ gw ops.size k (λ o' KR e' KS jF=>by
    have:o'=oi:=Option.some.inj (KR.symm.trans KM);subst this;exact hall e' KS jF) j ((mem_iff _ _).1 hj.2)
   unfold mask;rw[this,(mem_iff _ _).2 hj.1];rfl
  have hy:=G9 (hx (mask loud bb) w' hD Hk hC);rw[hr.eval];rw[<- Qk hm.symm (by rw[gw.1];exact bI)] at hy;exact hy
 case h_2 hl=>
  rw[hl] at hm;split at h
  case h_1 hp=>
   obtain⟨v,hv,hn⟩:=Qe hp h;refine⟨v,.inl ⟨hwt,λ bb w' _ _ hC=>.inl ⟨v,w',by rw[hr.eval];exact hv w',rfl,?_⟩⟩,hn⟩;show C (mask loud (bb.setIfInBounds k true)) w';rw[Ql hm.symm];exact hC
  case h_2=>cases h
theorem Qn {n:Nat}{loud:List (Nat×Rk)}{C:(Nat->Bool)->World->Prop}{w:World}{K:Env->Prop}(tG:Region.noSelect ops=true):
  ∀ (l:List Oper) (k:Nat) (bb:Array Bool) (e:Env) (a:Act),(∀ j,l[j]? = ops[k+j]?)->bb.size=ops.size->(∀ j,j<k->bb.getD j false=true)->Region.lexFrom .any ops l.length k bb=true->eM n e a ->
   oR P n ops loud C w l k e K ->
   uI P ops (λ l w=>C (mask loud l) w) (λ xI a'=>(∀ j,j<ops.size->xI.getD j false=true)/\∃ e',eM n e' a'/\K e'/\∀ t,t ∉ sy l->e'.get t=e.get t) l.length bb a
 | [],k,bb,e,a,hl,hsz,xJ,hB,hr,h=>by
  have hk:ops.size<=k:=by
   have h0:=hl 0;simp at h0;exact h0
  exact⟨by simpa[Region.lexFrom] using hB,λ j hj=>xJ j ab,e,hr,h,λ _ _=>rfl⟩
 | o::l,k,bb,e,a,hl,hsz,xJ,hB,hr,h=>by
  have h0:ops[k]? = some o:=by simpa using(hl 0).symm
  have Yu:k<ops.size:=(Array.getElem?_eq_some_iff.1 h0).1;simp only[List.length_cons,Region.lexFrom,Bool.and_eq_true] at hB;obtain⟨⟨KT,hf⟩,Yv⟩:=hB;have D1:k∈Region.ready .any ops bb:=by simpa using KT
  have fin:∀ e1 v,eM n e1 a->(∀ t,e1.get t=e.get t)->oQ n o.dst=true->xG P ops (λ l w=>C (mask loud l) w) o k v a->oR P n ops loud C w l (k+1) (e1.put o.dst v) K ->
    uI P ops (λ l w=>C (mask loud l) w) (λ xI a'=>(∀ j,j<ops.size->xI.getD j false=true)/\∃ e',eM n e' a'/\K e'/\∀ t,t ∉ sy (o::l)->e'.get t=e.get t) (l.length+1) bb a:=λ e1 v fM he hd hs h=>by
   refine Yr h0 (Region.noSelect_spec tG) l.length bb a (Region.free_spec h0 hf) D1 hs ?_;have:=Qn tG l (k+1) (bb.setIfInBounds k true) (e1.put o.dst v) (a.put o.dst v) (λ j=>by have:=hl (j+1);simpa[Nat.add_assoc,Nat.add_comm 1 j] using this) (by simp[hsz])
    (λ j hj=>by
     by_cases xH:k=j
     ·subst xH;simp[hsz,Yu]
     ·rw[getD_set_ne false xH];exact xJ j ab) Yv (fM.put o.dst hd v) h
   refine Qi ?_ _ _ _ this;rintro xI a' ⟨q1,e',q2,q3,q4⟩;exact⟨q1,e',q2,q3,λ t ht=>by
    obtain⟨zq,qq⟩:=KI ht;rw[q4 t qq,Hh _ _ _ zq,he t]⟩
  show uI P ops _ _ (l.length+1) bb a;generalize uI P ops (λ l w=>C (mask loud l) w) (λ xI a'=>(∀ j,j<ops.size->xI.getD j false=true)/\∃ e',eM n e' a'/\K e'/\∀ t,t ∉ sy (o::l)->e'.get t=e.get t) (l.length+1) bb a=G at fin ⊢;have one:∀ e1,eM n e1 a->(∀ t,e1.get t=e.get t)->oQ n o.dst=true->Region.wanted o (Go.yielded ops a.tmps)=true->Bx P ops loud C o k e1 w (λ v=>oR P n ops loud C w l (k+1) (e1.put o.dst v) K)->G:=λ e1 fM he hd hw h=>by
   obtain⟨v,hs,hn⟩:=Yt fM hw h;exact fin e1 v fM he hd hs hn
  have skip:∀ e1,eM n e1 a->(∀ t,e1.get t=e.get t)->oQ n o.dst=true->Region.wanted o (Go.yielded ops a.tmps)=false ->
    (match xB loud k with | some _=>xy C k (oR P n ops loud C w l (k+1) (e1.put o.dst undef) K) | none=>oR P n ops loud C w l (k+1) (e1.put o.dst undef) K)->G:=λ e1 fM he hd hw h=>by
   have hm:=Qj (loud:=loud) (k:=k);split at h
   case h_1 r nK=>
    rw[nK] at hm;refine fin e1 undef fM he hd (.inr ⟨hw,rfl,λ bb w' gw hi hC=>?_⟩) h.out.2;show C (mask loud (bb.setIfInBounds k true)) w';rw[Qk hm.symm (by rw[gw.1];exact(Qm hi).1)];exact h.out.1 _ _ hC
   case h_2 nK=>
    rw[nK] at hm;refine fin e1 undef fM he hd (.inr ⟨hw,rfl,λ bb w' gw hi hC=>?_⟩) h;show C (mask loud (bb.setIfInBounds k true)) w';rw[Ql hm.symm];exact hC
  unfold oR at h;split at h
  case h_1=>cases h
  case h_2 hd=>
   split at h
   case h_1 hg=>exact one e hr (λ _=>rfl) hd (by simp[Region.wanted,hg]) h
   case h_2 j want hg=>
    have hy:=hr.yielded ops j;split at h
    case h_1=>cases h
    case h_2 d KJ=>
     simp only[KJ] at hy;split at h
     case h_1 b hb=>
      simp only[hb] at hy;split at h
      all_goals
       obtain⟨h1,h2⟩:=DU h;cases b
       ·first
         | exact skip _ (hr.lit hb) (sx hb) hd (by simp[Region.wanted,hg,hy]) (h2 rfl)
         | exact one _ (hr.lit hb) (sx hb) hd (by simp[Region.wanted,hg,hy]) (h2 rfl)
       ·first
         | exact skip _ (hr.lit hb) (sx hb) hd (by simp[Region.wanted,hg,hy]) (h1 rfl)
         | exact one _ (hr.lit hb) (sx hb) hd (by simp[Region.wanted,hg,hy]) (h1 rfl)
     case h_2 hb=>
      simp only[hb] at hy;exact skip e hr (λ _=>rfl) hd (by simp[Region.wanted,hg,hy]) h
     case h_3=>cases h
theorem Qo (p:Addr)(i:Nat):(p.add i).block=p.block:=by unfold Addr.add;split<;>rfl
theorem KU {S:Nat->Prop}{w0 w:World}(h:Kept S w0 w){p:Addr}(hp:S p.block):∀ (vs:List Value) (i:Nat),ma w0 p i vs->ma w p i vs
 | [],_,_=>trivial
 | _::vs,i,⟨h1,h2⟩=>⟨h _ _ (by rw[Qo];exact hp) h1,KU h hp vs (i+1) h2⟩
theorem Yw {S:Nat->Prop}{t:TypeId}{p:Addr}(hp:S p.block){w0:World}{K:Value->Prop}(h:za P t p w0 λ v _=>K v):∃ v,(∀ w,Kept S w0 w->(loadVar t p).run P w=.ok v w)/\K v:=by
 unfold za at h;split at h
 case h_1 fs i hu hi=>
  split at h
  case h_1 cs hz=>
   split at h
   case h_1 hb=>
    obtain⟨x,hx,hK⟩:=h.out;refine⟨_,λ w hw=>?_,hK⟩;have hs:=Nat.eq_of_beq_eq_true hb;simp only[loadVar,Sem.run_bind,zk hu,vM,Result.andThen_ok,if_true,mZ hi];rw[hs,<- Cs.KD _ x,zl _ (KU hw hp _ _ hx)];rfl
   case h_2=>cases h
  case h_2=>cases h
 case h_2 hu hi=>
  obtain⟨x,hn,hx,hK⟩:=h.out;refine⟨_,λ w hw=>?_,hK⟩;simp only[loadVar,Sem.run_bind,zk hu,vM,Result.andThen_ok,if_true,mZ hi];rw[<- hn,zl _ (KU hw hp _ _ hx)];rfl
 case h_3 d i hs ha hu hi=>
  split at h
  case h_1 c hk=>
   obtain⟨x,hx,hK⟩:=h.out;refine⟨_,λ w hw=>?_,hK⟩;have hf:vM d=false:=by
    cases d<;>first | rfl | exact(hs _ rfl).elim | exact(ha _ _ rfl).elim
   simp only[loadVar,Sem.run_bind,zk hu,hf,Result.andThen_ok,Bool.false_eq_true,if_false];exact KC (hw _ _ hp hx)
  case h_2=>cases h
 case h_4=>cases h
theorem Yx {n:Nat}{o:Oper}{e:Env}{a:Act}{S:Nat->Prop}{w0:World}{K:Value->Prop}(hr:eM n e a)(h:Kx P o e S w0 K):
  ∃ v,(∀ w,(G2 o.op=true->Kept S w0 w)->(execOp a.eval o).run P w=.ok (.value v) w)/\K v:=by
 rw[hr.eval];unfold Kx at h;split at h
 case h_1 t x ho=>
  split at h
  case h_1 q ea=>
   obtain⟨p,rfl,h⟩:=vO h;obtain⟨v,hv,hK⟩:=Yw h.out.1 h.out.2;refine⟨v,λ w hw=>?_,hK⟩;simp only[execOp,ho,ea,Instr.loadAt,Instr.sureAddr,Sem.run_bind,Sem.run_pure,Result.andThen_ok,hv w (hw (by rw[ho];rfl))]
  case h_2=>cases h
 case h_2=>
  split at h
  case h_1 hp=>
   obtain⟨v,hv,hK⟩:=Qe hp h;exact⟨v,λ w _=>hv w,hK⟩
  case h_2=>cases h
theorem Yields.mono {s:Sem Next}{w:World}{K K':Value->World->Prop}(h:Yields P s w K)(hk:∀ v w',K v w'->K' v w'):Yields P s w K':=by
 rcases h with⟨v,w',a,b⟩ | ⟨w',a,b⟩ | ⟨f,args,a,b⟩
 ·exact .inl ⟨v,w',a,hk _ _ b⟩
 ·exact .inr (.inl ⟨w',a,hk _ _ b⟩)
 ·exact .inr (.inr ⟨f,args,a,Calls.mono b λ e w' ⟨v,he,hv⟩=>⟨v,he,hk _ _ hv⟩⟩)
theorem Kept.refl (S:Nat->Prop)(w:World):Kept S w w:=λ _ _ _ h=>h
theorem Kept.trans {S:Nat->Prop}{a b c:World}(h:Kept S a b)(k:Kept S b c):Kept S a c:=λ x v hs hx=>k x v hs (h x v hs hx)
def uK (P:Program)(ops:Array Oper)(o:Oper)(a:Act)(w:World)(Φ:Value->World->Prop):Prop:=
 (Region.wanted o (Go.yielded ops a.tmps)=true/\Yields P (execOp a.eval o) w Φ)\/(Region.wanted o (Go.yielded ops a.tmps)=false/\Φ undef w)
theorem uK.mono {o:Oper}{a:Act}{w:World}{Φ Ψ:Value->World->Prop}(h:uK P ops o a w Φ)(k:∀ v w',Φ v w'->Ψ v w'):uK P ops o a w Ψ:=by
 rcases h with⟨a,b⟩ | ⟨a,b⟩
 ·exact .inl ⟨a,b.mono k⟩
 ·exact .inr ⟨a,k _ _ b⟩
def sB (P:Program)(ops:Array Oper)(S:Nat->Prop)(Q:Act->World->Prop):Nat->Array Bool->Act->World->Prop
 | 0,bb,a,w=>Region.ready .any ops bb=[]/\Q a w
 | f+1,bb,a,w=>Region.ready .any ops bb≠[]/\∀ i∈Region.ready .any ops bb,∃ o,ops[i]? = some o /\
   uK P ops o a w λ v w'=>(xC ops i=true->Kept S w w')/\sB P ops S Q f (bb.setIfInBounds i true) (a.put o.dst v) w'
theorem D2 {S:Nat->Prop}{Q:Act->World->Prop}{Q':Exit->Act->World->Prop}(hQ:∀ a w,Q a w->Q' .normal a w):∀ (f:Nat) (bb:Array Bool) (a:Act) (w:World),sB P ops S Q f bb a w->wpAny P .any ops Q' f bb a w
 | 0,bb,a,w,h=>⟨h.1,hQ _ _ h.2⟩
 | f+1,bb,a,w,h=>by
  refine⟨λ h0=>absurd h0 h.1,λ i hi=>?_⟩;obtain⟨o,ho,hy⟩:=h.2 i hi;unfold wpOp;simp only[ho]
  rcases hy with⟨hw,hy⟩ | ⟨hw,hy⟩
  ·rw[if_pos hw]
   refine .inl ?_;unfold Oper.wp
   rcases hy with⟨u,w',jE,_,hn⟩ | ⟨w',jE,_,hn⟩ | ⟨g,args,jE,KN⟩
   ·rw[jE];exact D2 hQ f _ _ _ hn
   ·rw[jE];exact D2 hQ f _ _ _ hn
   ·rw[jE]
    exact Calls.mono KN λ e w' ⟨u,he,_,hn⟩=>by subst he;exact D2 hQ f _ _ _ hn
  ·rw[if_neg (by rw[hw];simp)]
   exact D2 hQ f _ _ _ hy.2
theorem BI {S:Nat->Prop}{Q Q':Act->World->Prop}(hQ:∀ a w,Q a w->Q' a w):∀ (f:Nat) (bb:Array Bool) (a:Act) (w:World),sB P ops S Q f bb a w->sB P ops S Q' f bb a w
 | 0,_,_,_,h=>⟨h.1,hQ _ _ h.2⟩
 | f+1,_,_,_,h=>⟨h.1,λ i hi=>let ⟨o,h1,h3⟩:=h.2 i hi;⟨o,h1,h3.mono λ _ _ ⟨hk,hn⟩=>⟨hk,BI hQ f _ _ _ hn⟩⟩⟩
def Hl (P:Program)(ops:Array Oper)(S:Nat->Prop)(o:Oper)(v:Value)(a:Act)(w:World):Prop:=
 (Region.wanted o (Go.yielded ops a.tmps)=true/\∀ W,(G2 o.op=true->Kept S w W)->(execOp a.eval o).run P W=.ok (.value v) W)\/(Region.wanted o (Go.yielded ops a.tmps)=false/\v=undef)
theorem Hl.step {S:Nat->Prop}{o:Oper}{v:Value}{a:Act}{w:World}(h:Hl P ops S o v a w){Φ:Value->World->Prop}(k:Φ v w):uK P ops o a w Φ:=by
 rcases h with⟨h1,h2⟩ | ⟨h1,rfl⟩
 ·exact .inl ⟨h1,.inl ⟨v,w,h2 w (λ _=>Kept.refl S w),k⟩⟩
 ·exact .inr ⟨h1,k⟩
theorem Yy {i s:Nat}{o:Oper}(ho:ops[s]? = some o)(hl:G2 o.op=true)(hn:s ∉ uF ops ops.size i):xC ops i=true:=by
 unfold xC;refine List.any_eq_true.2 ⟨s,List.mem_range.2 (Array.getElem?_eq_some_iff.1 ho).1,?_⟩;rw[ho];have:mem (uF ops ops.size i) s=false:=by
  cases hm:mem (uF ops ops.size i) s with
  | false=>rfl
  | true=>exact absurd ((mem_iff _ _).1 hm) hn
 simp[hl,this]
theorem Qp {S:Nat->Prop}{Q:Act->World->Prop}{i:Nat}{oi:Oper}{v:Value}(hi:ops[i]? = some oi)(tG:∀ (j:Nat) (o:Oper) cs b,ops[j]? = some o->o.op≠.select cs b):
  ∀ (f:Nat) (bb:Array Bool) (a:Act) (w:World),sA ops bb ->
   (∀ j oj,ops[j]? = some oj->j≠i->bb.getD j true=false->(∀ e∈oj.after,Region.binds .any e=true->e.on≠i)->oi.apart ops oj=true) ->
   i∈Region.ready .any ops bb->Hl P ops S oi v a w->sB P ops S Q f (bb.setIfInBounds i true) (a.put oi.dst v) w->sB P ops S Q (f+1) bb a w:=by
 intro f
 induction f with
 | zero=>
  intro bb a w _ _ hr hy H;refine⟨λ h=>(by rw[h] at hr;cases hr),λ j hj=>?_⟩
  by_cases lM:j=i
  ·subst lM;exact⟨oi,hi,hy.step ⟨λ _=>Kept.refl S w,H⟩⟩
  ·have:=ready_mono hj lM
   rw[H.1] at this;cases this
 | succ f ih=>
  intro bb a w gw DY hr hy H;refine⟨λ h=>(by rw[h] at hr;cases hr),λ j hj=>?_⟩
  by_cases lM:j=i
  ·subst lM;exact⟨oi,hi,hy.step ⟨λ _=>Kept.refl S w,H⟩⟩
  ·obtain⟨oj,vQ,DZ⟩:=H.2 j (ready_mono hj lM)
   obtain⟨D0,lN,Hi,hall⟩:=mem_ready.1 hj;have:lN=oj:=Option.some.inj (Hi.symm.trans vQ);subst this;have uJ:∀ b:Bool,bb.getD i false=b->b=false:=λ b hb=>by
    have h0:=(mem_ready.1 hr).1
    rcases Nat.lt_or_ge i bb.size with h' | h'
    ·simp[h'] at h0 hb;rw[h0] at hb;exact hb.symm
    ·simp[Array.getElem?_eq_none h'] at hb;exact hb
   have KO:∀ e∈lN.after,Region.binds .any e=true->e.on≠i:=λ e he hb heq=>by
    have h1:=hall e he hb;rw[heq] at h1;exact absurd (uJ _ h1) ar
   have Yz:i ∉ uF ops ops.size j:=λ hm=>by
    have h1:=KQ gw ops.size j (λ o ho e he hb=>by
     have:o=lN:=Option.some.inj (ho.symm.trans Hi);subst this;exact hall e he hb) i hm
    exact absurd (uJ _ h1) ar
   have KP:=DY j lN vQ lM D0 KO;obtain⟨h1,h2,h3⟩:=Oper.apart_spec KP;unfold uK at DZ;rw[execOp_put lN (λ cs b=>tG j lN cs b vQ) a oi.dst v h1,wanted_put lN a oi.dst v h1] at DZ;refine⟨lN,vQ,uK.mono DZ λ u w' ⟨DW,hn⟩=>⟨DW,?_⟩⟩;refine ih (bb.setIfInBounds j true) (a.put lN.dst u) w' (gw.set hj) (λ k ok hk BG uJ jQ=>?_) (ready_mono hr (Ne.symm lM)) ?_ ?_
   ·refine DY k ok hk BG ?_ jQ
    by_cases xH:j=k
    ·subst xH;exact D0
    ·rw[getD_set_ne true xH] at uJ;exact uJ
   ·unfold Hl
    rw[execOp_put oi (λ cs b=>tG i oi cs b hi) a lN.dst u h3,wanted_put oi a lN.dst u h3]
    rcases hy with⟨y1,y2⟩ | y
    ·exact .inl ⟨y1,λ W hW=>y2 W λ hl=>(DW (Yy hi hl Yz)).trans (hW hl)⟩
    ·exact .inr y
   ·rw[Array.setIfInBounds_comm _ _ lM,<- Act.put_comm a v u h2]
    exact hn
def HQ (n:Nat)(ops:Array Oper)(e:Env)(K:Env->World->Prop):Act->World->Prop:=λ a' w'=>∃ e',eM n e' a'/\K e' w'/\∀ t,t ∉ sy ops.toList->e'.get t=e.get t
theorem HQ.put {n:Nat}{ops:Array Oper}{e:Env}{K:Env->World->Prop}{i:Nat}{o:Oper}(ho:ops[i]? = some o)(v:Value){a:Act}{w:World}(h:HQ n ops (e.put o.dst v) K a w):HQ n ops e K a w:=by
 obtain⟨e2,q1,q2,q3⟩:=h;refine⟨e2,q1,q2,λ t ht=>?_⟩;rw[q3 t ht,Hh _ _ _ (λ hm=>ht (by
  unfold sy;refine List.mem_filterMap.2 ⟨o,?_,by simpa using hm⟩;exact Array.mem_toList_iff.2 (Array.mem_of_getElem? ho)))]
theorem HQ.same {n:Nat}{ops:Array Oper}{e e1:Env}{K:Env->World->Prop}(he:∀ t,e1.get t=e.get t){a:Act}{w:World}(h:HQ n ops e1 K a w):HQ n ops e K a w:=by
 obtain⟨e2,q1,q2,q3⟩:=h;exact⟨e2,q1,q2,λ t ht=>by rw[q3 t ht,he t]⟩
theorem KV {n:Nat}{o:Oper}{e:Env}{a:Act}{D K:Env->Prop}(hr:eM n e a)(h:zh ops o e D K):
  (Region.wanted o (Go.yielded ops a.tmps)=true/\∃ e1,eM n e1 a/\(∀ t,e1.get t=e.get t)/\D e1) \/
  (Region.wanted o (Go.yielded ops a.tmps)=false/\∃ e1,eM n e1 a/\(∀ t,e1.get t=e.get t)/\K e1):=by
 unfold zh at h;split at h
 case h_1 hg=>exact .inl ⟨by simp[Region.wanted,hg],e,hr,λ _=>rfl,h⟩
 case h_2 j want hg=>
  have hy:=hr.yielded ops j;split at h
  case h_1=>cases h
  case h_2 d hd=>
   rw[hd] at hy;dsimp only at hy;split at h
   case h_1 b hb=>
    rw[hb] at hy;dsimp only at hy;split at h
    case h_1=>
     cases b with
     | true=>exact .inl ⟨by simp[Region.wanted,hg,hy],_,hr.lit hb,sx hb,h⟩
     | false=>exact .inr ⟨by simp[Region.wanted,hg,hy],_,hr.lit hb,sx hb,h⟩
    case h_2=>
     cases b with
     | true=>exact .inr ⟨by simp[Region.wanted,hg,hy],_,hr.lit hb,sx hb,h⟩
     | false=>exact .inl ⟨by simp[Region.wanted,hg,hy],_,hr.lit hb,sx hb,h⟩
   case h_2 c hc=>
    rw[hc] at hy;dsimp only at hy;exact .inr ⟨by simp[Region.wanted,hg,hy],e,hr,λ _=>rfl,h⟩
   case h_3=>cases h
theorem YA {n:Nat}{S:Nat->Prop}{K:Env->World->Prop}(tG:Region.noSelect ops=true):∀ (h:Hp),
  (∀ (k:Nat) (bb:Array Bool) (e:Env) (a:Act) (w:World),sA ops bb->eM n e a->kU P n ops S h k [] bb e w K->sB P ops S (HQ n ops e K) k bb a w) /\
  ∀ (i:Nat) (h1 m:Hp),h=.pick i h1 m->∀ (k:Nat) (seen:List Nat) (bb:Array Bool) (e:Env) (a:Act) (w:World),sA ops bb->eM n e a->kU P n ops S h k seen bb e w K ->
   ∃ k',k=k'+1/\Region.ready .any ops bb≠[]/\∀ j∈Region.ready .any ops bb,j ∉ seen->∃ o,ops[j]? = some o /\
    uK P ops o a w λ v w'=>(xC ops j=true->Kept S w w')/\sB P ops S (HQ n ops e K) k' (bb.setIfInBounds j true) (a.put o.dst v) w':=by
 intro h
 induction h with
 | done=>
  refine⟨λ k bb e a w gw hr h=>?_,λ i h1 m he=>by cases he⟩;unfold kU at h;split at h
  case h_1 hb=>
   simp only[Bool.and_eq_true] at hb;have mG:=Nat.eq_of_beq_eq_true hb.1;subst mG;exact⟨by simpa using hb.2,e,hr,h,λ _ _=>rfl⟩
  case h_2=>cases h
 | stop=>exact⟨λ k bb e a w gw hr h=>(by unfold kU at h;cases h),λ i h1 m he=>by cases he⟩
 | last i h' ih=>
  refine⟨λ k bb e a w gw hr h=>?_,λ i h1 m he=>by cases he⟩;unfold kU at h;split at h
  case h_1 k o ho=>
   split at h
   case h_1 hb=>
    simp only[Bool.and_eq_true,List.all_eq_true,Bool.not_eq_true'] at hb;obtain⟨⟨⟨hd,hc⟩,hall⟩,Hm⟩:=hb;have na:i∈Region.ready .any ops bb:=by simpa using hc
    refine⟨λ h0=>(by rw[h0] at na;cases na),λ j hj=>?_⟩;have hm:=(mem_iff _ _).1 (hall j hj);have:j=i:=by simpa using hm
    subst this;refine⟨o,ho,?_⟩;have YB:xC ops j=true->∀ {w w':World},Kept S w w':=λ t=>by rw[Hm] at t;cases t
    rcases KV hr h with⟨hw,e1,fM,rp,h⟩ | ⟨hw,e1,fM,rp,h⟩
    ·refine .inl ⟨hw,?_⟩
     rw[fM.eval];exact(G9 h).mono λ v w' hh=>⟨λ t=>YB t,BI (λ a w h=>HQ.same rp (HQ.put ho v h)) _ _ _ _ (ih.1 k _ _ _ w' (gw.set na) (fM.put o.dst hd v) hh)⟩
    ·exact .inr ⟨hw,λ _=>Kept.refl S w,BI (λ a w h=>HQ.same rp (HQ.put ho undef h)) _ _ _ _ (ih.1 k _ _ _ w (gw.set na) (fM.put o.dst hd undef) h)⟩
   case h_2=>cases h
  case h_2=>cases h
 | soft i h' ih=>
  refine⟨λ k bb e a w gw hr h=>?_,λ i h1 m he=>by cases he⟩;unfold kU at h;split at h
  case h_1 k o ho=>
   split at h
   case h_1=>cases h
   case h_2 hb=>
    simp only[Bool.and_eq_true] at hb;obtain⟨⟨hd,hc⟩,hf⟩:=hb;have mono:∀ {e1:Env} (v:Value),(∀ t,e1.get t=e.get t)->∀ (k:Nat) (bb:Array Bool) (a:Act) (w:World),sB P ops S (HQ n ops (e1.put o.dst v) K) k bb a w->sB P ops S (HQ n ops e K) k bb a w:=λ v he k bb a w=>
     BI (λ a w h=>HQ.same he (HQ.put ho v h)) _ _ _ _
    rcases KV hr h with⟨hw,e1,fM,rp,h⟩ | ⟨hw,e1,fM,rp,h⟩
    ·obtain⟨v,hv,hn⟩:=Yx fM h
     exact Qp ho (Region.noSelect_spec tG) k bb a w gw (Region.free_spec ho hf) (by simpa using hc) (.inl ⟨hw,hv⟩)
      (mono v rp _ _ _ _ (ih.1 k _ _ _ w (gw.set (by simpa using hc)) (fM.put o.dst hd v) hn))
    ·exact Qp ho (Region.noSelect_spec tG) k bb a w gw (Region.free_spec ho hf) (by simpa using hc) (.inr ⟨hw,rfl⟩)
      (mono undef rp _ _ _ _ (ih.1 k _ _ _ w (gw.set (by simpa using hc)) (fM.put o.dst hd undef) h))
  case h_2=>cases h
 | pick i h' m ih YC=>
  have P2:∀ (k:Nat) (seen:List Nat) (bb:Array Bool) (e:Env) (a:Act) (w:World),sA ops bb->eM n e a->kU P n ops S (.pick i h' m) k seen bb e w K ->
    ∃ k',k=k'+1/\Region.ready .any ops bb≠[]/\∀ j∈Region.ready .any ops bb,j ∉ seen->∃ o,ops[j]? = some o /\
     uK P ops o a w λ v w'=>(xC ops j=true->Kept S w w')/\sB P ops S (HQ n ops e K) k' (bb.setIfInBounds j true) (a.put o.dst v) w':=by
   intro k seen bb e a w gw hr h;have one:i∈Region.ready .any ops bb->∀ (k:Nat) (o:Oper),ops[i]? = some o->oQ n o.dst=true->(zh ops o e (λ e=>jP P o e w λ v w'=>az S w w' (kU P n ops S h' k [] (bb.setIfInBounds i true) (e.put o.dst v) w' K))
     (λ e=>kU P n ops S h' k [] (bb.setIfInBounds i true) (e.put o.dst undef) w K)) ->
     uK P ops o a w λ v w'=>(xC ops i=true->Kept S w w')/\sB P ops S (HQ n ops e K) k (bb.setIfInBounds i true) (a.put o.dst v) w':=λ na k o ho hd h=>by
    rcases KV hr h with⟨hw,e1,fM,rp,h⟩ | ⟨hw,e1,fM,rp,h⟩
    ·refine .inl ⟨hw,?_⟩
     rw[fM.eval];exact(G9 h).mono λ v w' hh=>⟨λ _=>hh.out.1,BI (λ a w h=>HQ.same rp (HQ.put ho v h)) _ _ _ _ (ih.1 k _ _ _ w' (gw.set na) (fM.put o.dst hd v) hh.out.2)⟩
    ·exact .inr ⟨hw,λ _=>Kept.refl S w,BI (λ a w h=>HQ.same rp (HQ.put ho undef h)) _ _ _ _ (ih.1 k _ _ _ w (gw.set na) (fM.put o.dst hd undef) h)⟩
   cases m with
   | stop=>
    unfold kU at h;split at h
    case h_1 k o ho=>
     split at h
     case h_1 hb=>
      simp only[Bool.and_eq_true,List.all_eq_true] at hb;obtain⟨⟨hd,hc⟩,hall⟩:=hb;have na:i∈Region.ready .any ops bb:=by simpa using hc
      refine⟨k,rfl,λ h0=>(by rw[h0] at na;cases na),λ j hj BJ=>?_⟩;have hm:=(mem_iff _ _).1 (hall j hj)
      rcases List.mem_cons.1 hm with rfl | hm
      ·exact⟨o,ho,one na k o ho hd h⟩
      ·exact absurd hm BJ
     case h_2=>cases h
    case h_2=>cases h
   | pick i2 h2 m2=>
    unfold kU at h;split at h
    case h_1 k o ho=>
     split at h
     case h_1=>cases h
     case h_2 hb=>
      obtain⟨k',DW,aL,hall⟩:=YC.2 i2 h2 m2 rfl (k+1) (i::seen) bb e a w gw hr h.out.2;have:k'=k:=ab;subst this;refine⟨k',rfl,aL,λ j hj BJ=>?_⟩
      by_cases lM:j=i
      ·subst lM;exact⟨o,ho,one hj k' o ho hb h.out.1⟩
      ·exact hall j hj (by simp[lM,BJ])
    case h_2=>cases h
   | done=>unfold kU at h;cases h
   | soft i2 h2=>unfold kU at h;cases h
   | last i2 h2=>unfold kU at h;cases h
  refine⟨λ k bb e a w gw hr h=>?_,λ i1 h1 m1 he=>?_⟩
  ·obtain⟨k',rfl,aL,hall⟩:=P2 k [] bb e a w gw hr h
   exact⟨aL,λ j hj=>hall j hj bm⟩
  ·cases he
   exact P2
end anyorder
theorem YD (ds:List Nat)(l:List (Nat×Value))(t:Nat):look (rm ds l) t=if t∈ds then none else look l t:=by
 induction l with
 | nil=>simp[rm,look]
 | cons x l ih=>
  obtain⟨u,v⟩:=x;unfold rm;cases hm:mem ds u with
  | true=>
   simp only[];rw[ih,Br]
   by_cases h:t∈ds
   ·simp[h]
   ·have aL:t≠u:=λ e=>h (e ▸ (mem_iff ds u).1 hm)
    simp[h,aL]
  | false=>
   simp only[];rw[Br,Br,ih]
   by_cases h:t=u
   ·have aL:t ∉ ds:=λ hh=>by rw[h,<- mem_iff,hm] at hh;cases hh
    subst h;simp[aL]
   ·simp[h]
theorem Qq {n:Nat}{e:Env}{a:Act}{ds:List Nat}(hsz:a.tmps.size=n)(KW:a.defers=[])(YE:∀ t,t ∉ ds->a.tmps.getD t undef=e.get t):
  ∀ (ks:List (Nat×Kd)) (s:St (ks.map (·.2))),ks.map (λ x=>a.tmps.getD x.1 undef)=St.vals (ks.map (·.2)) s ->
   eM n ⟨xD ks s (rm ds e.l),λ t=>a.tmps.getD t undef⟩ a:=by
 intro ks s hs;refine⟨hsz,KW,λ t=>?_⟩;have key:∀ (ks:List (Nat×Kd)) (s:St (ks.map (·.2))),ks.map (λ x=>a.tmps.getD x.1 undef)=St.vals (ks.map (·.2)) s ->
   a.tmps.getD t undef=Env.get ⟨xD ks s (rm ds e.l),λ t=>a.tmps.getD t undef⟩ t:=by
  intro ks
  induction ks with
  | nil=>
   intro s _;show _=(match look (rm ds e.l) t with | some v=>v | none=>a.tmps.getD t undef)
   rw[YD]
   by_cases h:t∈ds
   ·simp[h]
   ·simp only[h,if_false]
    have hk:=YE t h;unfold Env.get at hk;cases hl:look e.l t with
    | none=>simp
    | some v=>rw[hl] at hk;simp[hk]
  | cons x ks ih=>
   obtain⟨u,k⟩:=x;intro s hs;have nM:a.tmps.getD u undef::ks.map (λ x=>a.tmps.getD x.1 undef)=k.val s.1::St.vals (ks.map (·.2)) s.2:=hs;injection nM with ng iQ
   have hi:=ih s.2 iQ;show _=(match look ((u,k.val s.1)::xD ks s.2 (rm ds e.l)) t with | some v=>v | none=>a.tmps.getD t undef)
   rw[Br]
   by_cases h:t=u
   ·subst h;simp only[if_true];exact ng
   ·simp only[h,if_false];exact hi
 exact key ks s hs
theorem KX {n:Nat}{e:Env}{a:Act}(hr:eM n e a)(ks:List (Nat×Kd)):ks.map (λ x=>a.tmps.getD x.1 undef)=DT e ks:=by
 unfold DT;exact List.map_congr_left λ x _=>hr.get x.1
theorem YF {n:Nat}(hm:P.follows .mixedOrders=true):∀ (c:Code) (p:aN) (e:Env) (a:Act) (w:World) (Q:Exit->Env->World->Prop),eM n e a->kB P n c p e w Q ->
  c.wp P (λ x a' w'=>∃ e',eM n e' a'/\Q x e' w'/\∀ t,t ∉ kA c->e'.get t=e.get t) a w:=by
 intro c
 induction c with
 | skip=>intro p e a w Q hr h;exact wp_skip ⟨e,hr,h,λ _ _=>rfl⟩
 | exit id=>intro p e a w Q hr h;exact wp_exit ⟨e,hr,h,λ _ _=>rfl⟩
 | ret=>intro p e a w Q hr h;exact wp_ret ⟨e,hr,h,λ _ _=>rfl⟩
 | region id ops draw=>
  intro p e a w Q hr h;unfold kB at h;split at h
  case h_1=>
   refine wp_region ?_;have hl:=wpOps_eq_wpList (P:=P) (ops:=ops) (Q:=λ x a' w'=>∃ e',eM n e' a'/\Q x e' w'/\∀ t,t ∉ kA (.region id ops false)->e'.get t=e.get t) ops.toList 0 bm;rw[show List.range ops.size=List.range' 0 ops.toList.length by simp[List.range_eq_range']];rw[hl];exact KK ops.toList e a w (Q .normal) hr h λ e' a' w' h1 h2 h3=>⟨e',h1,h3,h2⟩
  case h_2=>
   split at h
   case h_1=>
    split at h
    case h_1 hb=>
     simp only[Bool.and_eq_true] at hb;refine wp_region_still hm hb.1 ?_;refine KL [] ops.toList e a _ (Q .normal) hb.2 ⟨hr.size,hr.defers,hr.get⟩ (by simpa using h.out) λ e' a' h1 h2 h3=>⟨e',h1,h3,h2⟩
    case h_2=>cases h
   case h_2 k=>
    split at h
    case h_1 hb=>
     simp only[Bool.and_eq_true] at hb;have hw:=wp_region_still_tail (P:=P) (id:=id) (Q:=λ x a' w'=>∃ e',eM n e' a'/\Q x e' w'/\∀ t,t ∉ kA (.region id ops true)->e'.get t=e.get t) (a:=a) (w:=w) (l:=ops.toList) k hm (by simpa using hb.1);have e1:ops.toList.toArray=ops:=by simp
     rw[e1] at hw;refine hw ?_;refine KL (ops.toList.drop k) (ops.toList.take k) e a _ (Q .normal) hb.2 hr (by rw[List.take_append_drop];exact h.out) λ e' a' h1 h2 h3=>?_;refine KK _ e' a' _ (Q .normal) h1 h3 λ e2 a2 w2 k1 k2 k3=>⟨e2,k1,k3,λ t ht=>?_⟩;have na:∀ l:List Oper,(∀ o∈l,o∈ops.toList)->t ∉ sy l:=λ l hl sC=>ht (by
      unfold sy at sC;obtain⟨o,ho,hd⟩:=List.mem_filterMap.1 sC;exact List.mem_filterMap.2 ⟨o,hl o ho,hd⟩)
     rw[k2 t (na _ λ o ho=>List.mem_of_mem_drop ho),h2 t (na _ λ o ho=>List.mem_of_mem_take ho)]
    case h_2=>cases h
   case h_3 loud=>
    split at h
    case h_1 hb=>
     simp only[Region.lexB,Bool.and_eq_true] at hb;obtain⟨hb,pF⟩:=hb;obtain⟨C,hC,h⟩:=h.out;have hL:=Qn hb.1 ops.toList 0 (Array.replicate ops.size false) e a bm bm (λ j hj=>by omega) (by simpa using hb.2) hr h;have Qr:∀ j,(Array.replicate ops.size false).getD j false=false:=λ j=>by
      rcases Nat.lt_or_ge j ops.size with h | h<;>simp[h]
     have gw:sA ops (Array.replicate ops.size false):=⟨by simp,λ j oj _ hl=>by rw[Qr] at hl;cases hl⟩;have YG:mask loud (Array.replicate ops.size false)=λ _=>false:=by
      funext j
      unfold mask;rw[Qr,Bool.and_false]
     refine wp_region_any hm ?_;refine(Qh (CL:=λ l w=>C (mask loud l) w) ?_ ops.size _ a _ gw (by rw[YG];exact hC) (by rw[show ops.size=ops.toList.length by simp];exact hL));rintro xI a' w' ⟨xJ,e',q1,q2,q3⟩ vP;refine⟨e',q1,q2 w' ?_,q3⟩;have:mask loud xI=mem (loud.map (·.1)):=by
      funext j
      unfold mask
      rcases Nat.lt_or_ge j ops.size with hj | hj
      ·rw[xJ j hj,Bool.and_true]
      ·cases YH:mem (loud.map (·.1)) j with
       | false=>rfl
       | true=>
        have:=List.all_eq_true.1 pF j ((mem_iff _ _).1 YH);simp[Nat.blt] at this;omega
     rw[<- this];exact vP
    case h_2=>cases h
   case h_4 hp=>
    split at h
    case h_1 hb=>
     refine wp_region_any hm ?_;obtain⟨S,h⟩:=h.out.out;have hK:=(YA hb hp).1 ops.size (Array.replicate ops.size false) e a _ ⟨by simp,λ j oj hj hl e he hb=>by simp[Array.getD_eq_getD_getElem?,Array.getElem?_replicate] at hl;split at hl<;>simp at hl⟩ hr h
     exact D2 (λ a' w' ⟨e',q1,q2,q3⟩=>⟨e',q1,q2,q3⟩) _ _ _ _ hK
    case h_2=>cases h
   case h_5=>cases h
 | seq x y Hn Ho=>
  intro p e a w Q hr h;have plain:∀ px py,kB P n x px e w (DS (λ e w=>kB P n y py e w Q) Q)->(Code.seq x y).wp P (λ x' a' w'=>∃ e',eM n e' a'/\Q x' e' w'/\∀ t,t ∉ kA (.seq x y)->e'.get t=e.get t) a w:=λ px py h=>by
   refine wp_seq (wp_mono (Hn px e a w _ hr h) ?_);rintro ex a' w' ⟨e',oS,hq,hk⟩;cases ex with
   | normal=>
    refine wp_mono (Ho py e' a' w' Q oS hq) ?_;rintro Qs a2 w2 ⟨e2,iD,sD,ja⟩;exact⟨e2,iD,sD,λ t ht=>by simp only[kA,List.mem_append,not_or] at ht;rw[ja t ht.2,hk t ht.1]⟩
   | exit i=>exact⟨e',oS,hq,λ t ht=>by simp only[kA,List.mem_append,not_or] at ht;exact hk t ht.1⟩
   | ret=>exact⟨e',oS,hq,λ t ht=>by simp only[kA,List.mem_append,not_or] at ht;exact hk t ht.1⟩
   | goto l=>exact hq.elim
   | panic l=>exact hq.elim
   | outgrown=>exact hq.elim
  unfold kB at h;split at h
  case h_1 px py=>exact plain px py h
  case h_2 ks px py=>
   obtain⟨J,h1,h2⟩:=h.out;refine wp_seq (wp_mono (Hn px e a w _ hr h1) ?_);rintro ex a' w' ⟨e',oS,hq,hk⟩;cases ex with
   | normal=>
    obtain⟨s,hs,hJ⟩:=St.nD hq;have D3:eM n ⟨xD ks s (rm (kA x) e.l),λ t=>a'.tmps.getD t undef⟩ a':=
     Qq oS.size oS.defers (λ t ht=>by rw[oS.get,hk t ht]) ks s (by rw[KX oS,hs])
    refine wp_mono (Ho py _ a' w' Q D3 (h2 _ s w' hJ)) ?_;rintro Qs a2 w2 ⟨e2,iD,sD,ja⟩;refine⟨e2,iD,sD,λ t ht=>?_⟩;simp only[kA,List.mem_append,not_or] at ht;rw[ja t ht.2,<- D3.get,oS.get,hk t ht.1]
   | exit i=>exact⟨e',oS,hq,λ t ht=>by simp only[kA,List.mem_append,not_or] at ht;exact hk t ht.1⟩
   | ret=>exact⟨e',oS,hq,λ t ht=>by simp only[kA,List.mem_append,not_or] at ht;exact hk t ht.1⟩
   | goto l=>exact hq.elim
   | panic l=>exact hq.elim
   | outgrown=>exact hq.elim
  case h_3=>exact plain .auto .auto h
 | cond c x y Hn Ho=>
  intro p e a w Q hr h;unfold kB at h;split at h
  case h_1 t hc=>
   have uL:a.eval c=.bool t:=by rw[hr.eval];exact hc
   have go:∀ px py,ae t (kB P n x px e w Q) (kB P n y py e w Q)->(Code.cond c x y).wp P (λ x' a' w'=>∃ e',eM n e' a'/\Q x' e' w'/\∀ t,t ∉ kA (.cond c x y)->e'.get t=e.get t) a w:=λ px py h=>by
    obtain⟨h1,h2⟩:=DU h;refine wp_cond_split uL (λ ht=>wp_mono (Hn px e a w Q hr (h1 ht)) ?_) (λ ht=>wp_mono (Ho py e a w Q hr (h2 ht)) ?_)
    all_goals
     rintro Qs a2 w2 ⟨e2,iD,sD,ja⟩;exact⟨e2,iD,sD,λ t ht=>by simp only[kA,List.mem_append,not_or] at ht;first | exact ja t ht.1 | exact ja t ht.2⟩
   split at h
   ·exact go _ _ h
   ·exact go _ _ h
  case h_2=>cases h
 | block id c ih=>
  intro p e a w Q hr h;have go:∀ p,kB P n c p e w (G4 id Q)->(Code.block id c).wp P (λ x' a' w'=>∃ e',eM n e' a'/\Q x' e' w'/\∀ t,t ∉ kA (.block id c)->e'.get t=e.get t) a w:=λ p h=>by
   refine wp_block (wp_mono (ih p e a w _ hr h) ?_);rintro ex a' w' ⟨e',oS,hq,hk⟩;cases ex with
   | normal=>exact⟨e',oS,hq,hk⟩
   | exit i=>
    unfold G4 at hq
    by_cases hi:i=id
    ·subst hi;simp only[Exit.inBlock,if_true];simp at hq;exact⟨e',oS,hq,hk⟩
    ·have hb:Nat.beq i id=false:=by
      cases hb:Nat.beq i id with
      | false=>rfl
      | true=>exact absurd (Nat.eq_of_beq_eq_true hb) hi
     simp only[hb] at hq;simp only[Exit.inBlock,hi,if_false];exact⟨e',oS,hq,hk⟩
   | ret=>exact⟨e',oS,hq,hk⟩
   | goto l=>exact hq.elim
   | panic l=>exact hq.elim
   | outgrown=>exact hq.elim
  unfold kB at h;split at h
  ·exact go _ h
  ·exact go _ h
 | loop c ih=>
  intro p e a w Q hr h;unfold kB at h;split at h
  case h_1 ks p=>
   obtain⟨s0,uM,h⟩:=St.nD h;obtain⟨I,μ,hI,YI⟩:=h.out;refine wp_loop (λ a' w'=>∃ s,I s w'/\a'.tmps.size=n/\a'.defers=[]/\(∀ t,t ∉ kA c->a'.tmps.getD t undef=e.get t)/\ks.map (λ x=>a'.tmps.getD x.1 undef)=St.vals (ks.map (·.2)) s)
    (λ a' w'=>@dite _ (∃ s:St (ks.map (·.2)),ks.map (λ x=>a'.tmps.getD x.1 undef)=St.vals (ks.map (·.2)) s) (Classical.propDecidable _) (λ h=>μ h.choose w') (λ _=>0))
    ⟨s0,hI,hr.size,hr.defers,λ t _=>hr.get t,by rw[KX hr,uM]⟩ ?_
   rintro a' w' ⟨s,YJ,hsz,KW,Hr,hv⟩;have D3:eM n ⟨xD ks s (rm (kA c) e.l),λ t=>a'.tmps.getD t undef⟩ a':=Qq hsz KW Hr ks s hv;refine wp_mono (ih p _ a' w' _ D3 (YI _ s w' YJ)) ?_;rintro ex a2 w2 ⟨e2,iD,hq,hk⟩;have KY:∀ t,t ∉ kA (.loop c)->e2.get t=e.get t:=λ t ht=>by rw[hk t ht,<- D3.get,Hr t ht]
   cases ex with
   | normal=>
    obtain⟨s2,iQ,YK,bI⟩:=St.nD hq;have zr:ks.map (λ x=>a2.tmps.getD x.1 undef)=St.vals (ks.map (·.2)) s2:=by rw[KX iD,iQ]
    refine⟨⟨s2,YK,iD.size,iD.defers,λ t ht=>by rw[iD.get,KY t ht],zr⟩,?_⟩;have e1:∃ s:St (ks.map (·.2)),ks.map (λ x=>a'.tmps.getD x.1 undef)=St.vals (ks.map (·.2)) s:=⟨s,hv⟩;have KZ:∃ s:St (ks.map (·.2)),ks.map (λ x=>a2.tmps.getD x.1 undef)=St.vals (ks.map (·.2)) s:=⟨s2,zr⟩;rw[dif_pos e1,dif_pos KZ];have u1:e1.choose=s:=St.BA (e1.choose_spec.symm.trans hv);have u2:KZ.choose=s2:=St.BA (KZ.choose_spec.symm.trans zr);rw[u1,u2];exact bI
   | exit i=>exact⟨e2,iD,hq,KY⟩
   | ret=>exact⟨e2,iD,hq,KY⟩
   | goto l=>exact hq.elim
   | panic l=>exact hq.elim
   | outgrown=>exact hq.elim
  case h_2=>cases h
 | _=>intro p e a w Q hr h;exact h.elim
theorem Qt:∀ (vs:List Value) (i t:Nat),look (zi i vs) t=if i<=t then vs[t - i]? else none
 | [],i,t=>by simp[zi,look]
 | v::vs,i,t=>by
  unfold zi;rw[Br,Qt vs (i+1) t]
  by_cases h:t=i
  ·subst h;simp
  ·rw[if_neg h]
   by_cases h2:i<=t
   ·rw[if_pos ab,if_pos h2,show t - i=(t - (i+1))+1 by omega,List.getElem?_cons_succ]
   ·rw[if_neg ab,if_neg h2]
theorem YL {n:Nat}{args:List Value}(h:args.length<=n):eM n ⟨zi 0 args,λ _=>undef⟩ { tmps:=args.toArray++Array.replicate (n - args.toArray.size) undef,defers:=[] }:=by
 refine⟨by simp;omega,rfl,λ t=>?_⟩;show _=(match look (zi 0 args) t with | some v=>v | none=>undef)
 rw[Qt,if_pos (Nat.zero_le _),Nat.sub_zero,Array.getD_eq_getD_getElem?,Array.getElem?_append]
 by_cases ht:t<args.length
 ·simp[ht]
 ·simp only[List.size_toArray,ht,if_false]
  rw[List.getElem?_eq_none ab];simp only[Array.getElem?_replicate];split<;>rfl
theorem YM {n:Nat}{e:Env}{a:Act}{w:World}{r:ResultVar}{K:Value->Prop}(hr:eM n e a)(h:Kz P e w r K):
  ∃ v,(match r with | .tmp t=>(pure (a.tmps.getD t undef):Sem Value) | .cell x t=>do loadVar t (<- asAddr (a.tmps.getD x undef))).run P w=.ok v w/\K v:=by
 unfold Kz at h;split at h
 case h_1 t=>exact⟨_,by simp only[hr.get];rfl,h⟩
 case h_2 x t=>
  split at h
  case h_1 q eq=>
   obtain⟨p,rfl,h1⟩:=vO h;obtain⟨v,hv,hK⟩:=P4 (K:=λ v _=>K v) h1;refine⟨v,?_,hK⟩;simp only[hr.get,eq,asAddr,Sem.run_bind,Sem.run_pure,Result.andThen_ok,hv]
  case h_2=>cases h
theorem Qu {n:Nat}{e:Env}{a:Act}{w:World}(hr:eM n e a):∀ {rs:List ResultVar} {K:List Value->Prop},G5 P e w rs K ->
  ∃ vs,(rs.mapM (λ(r:ResultVar)=>(match r with | .tmp t=>(pure (a.tmps.getD t undef):Sem Value) | .cell x t=>do loadVar t (<- asAddr (a.tmps.getD x undef)))):Sem (List Value)).run P w=Result.ok vs w/\K vs
 | [],K,h=>⟨[],rfl,h⟩
 | r::rs,K,h=>by
  obtain⟨v,hv,h⟩:=YM hr h;obtain⟨vs,K0,h⟩:=Qu hr h;refine⟨v::vs,?_,h⟩;simp only[List.mapM_cons,Sem.run_bind,hv,Result.andThen_ok,K0,Sem.run_pure]
theorem YN {f:FuncId}{fn:Func}{p:aN}{args:List Value}{w:World}{K:Value->World->Prop}(hm:P.follows .mixedOrders=true)(hf:P.funcs[f]? = some fn)
  (h:KA P fn p args w K):Ret P f args.toArray w K:=by
 unfold KA at h;split at h
 case h_1=>cases h
 case h_2 c hb=>
  split at h
  case h_1=>cases h
  case h_2 hle=>
   have K1:args.length<=fn.ntmps:=Nat.le_of_ble_eq_true hle;refine calls_of_wp hf hb (wp_mono (YF hm c p _ _ w _ (YL K1) h) ?_);rintro ex a' w' ⟨e',hr,hq,_⟩;have fin:G5 P e' w' fn.results.toList (λ vs=>K (oneOf vs) w')->a'.defers=[]/\∃ v,(results fn a'.tmps).run P w'=.ok v w'/\∃ u,Ending.returned v=.returned u/\K u w':=λ h=>by
    obtain⟨vs,K0,hK⟩:=Qu hr h;refine⟨hr.defers,oneOf vs,?_,_,rfl,hK⟩;unfold results;simp only[Array.mapM_eq_mapM_toList,Sem.run_bind,Sem.run_map,Sem.run_pure];have YO:=congrArg (λ r=>(Result.andThen r λ a w'=>Result.ok a.toArray w').andThen λ(a:Array Value) w'=>Result.ok (if h:a.size=1 then a[0] else Value.tuple a) w') K0;refine YO.trans ?_;simp only[Result.andThen_ok]
    congr 1
    match vs with
    | []=>rfl
    | [v]=>rfl
    | v::u::l=>rfl
   cases ex with
   | normal=>exact fin hq
   | ret=>exact fin hq
   | exit i=>exact hq.elim
   | goto l=>exact hq.elim
   | panic l=>exact hq.elim
   | outgrown=>exact hq.elim
end
end Vc
namespace Vc
theorem eN (b o n:Nat):(⟨b,o,none⟩:Addr).add n=⟨b,o+n,none⟩:=by
 unfold Addr.add;split
 ·rename_i h;subst h;rfl
 ·rfl
theorem wI {x:Int}(h1:-9223372036854775808<=x)(h2:x<=9223372036854775807):IntKind.i64.wrap x=x:=IntWalk.i64_in x ⟨h1,h2⟩
theorem wB {x:Int}(h1:0<=x)(h2:x<=255):IntKind.u8.wrap x=x:=IntWalk.u8_in x ⟨h1,h2⟩
structure Fr (S:Nat->Prop)(w w':World):Prop where
 os:w'.os=w.os
 tape:w'.tape=w.tape
 output:w'.output=w.output
 size:w.heap.size<=w'.heap.size
 block:∀ k,k<w.heap.size->¬ S k->w'.heap[k]? = w.heap[k]?
def none1:Nat->Prop:=λ _=>False
def only (b:Nat):Nat->Prop:=λ k=>k=b
theorem Fr.refl (S:Nat->Prop)(w:World):Fr S w w:=⟨rfl,rfl,rfl,Nat.le_refl _,λ _ _ _=>rfl⟩
theorem Fr.comp {S T:Nat->Prop}{a b c:World}(h:Fr S a b)(k:Fr T b c)(hT:∀ x,x<a.heap.size->T x->S x):Fr S a c:=
 ⟨k.os.trans h.os,k.tape.trans h.tape,k.output.trans h.output,Nat.le_trans h.size k.size,
  λ i hi hn=>(k.block i (Nat.lt_of_lt_of_le hi h.size) (λ t=>hn (hT i hi t))).trans (h.block i hi hn)⟩
theorem Fr.trans {S:Nat->Prop}{a b c:World}(h:Fr S a b)(k:Fr S b c):Fr S a c:=h.comp k λ _ _ t=>t
theorem Fr.mono {S T:Nat->Prop}{a b:World}(h:Fr S a b)(hT:∀ x,x<a.heap.size->S x->T x):Fr T a b:=
 ⟨h.os,h.tape,h.output,h.size,λ i hi hn=>h.block i hi (λ t=>hn (hT i hi t))⟩
theorem Fr.et {S:Nat->Prop}{a b c:World}(h:Fr S a b)(k:Fr none1 b c):Fr S a c:=h.comp k λ _ _ t=>t.elim
theorem Fr.fN {S:Nat->Prop}{a b c:World}(h:Fr none1 a b)(k:Fr S b c):Fr S a c:=(h.mono λ _ _ t=>t.elim).trans k
theorem cQ {w:World}{b:Nat}{o:Obj}(h:w.heap[b]? = some o):b<w.heap.size:=(Array.getElem?_eq_some_iff.1 h).1
theorem Fr.ao {S:Nat->Prop}{w w':World}(f:Fr S w w'){b:Nat}{o:Obj}(h:w.heap[b]? = some o)(hn:¬ S b):w'.heap[b]? = some o:=by
 rw[f.block b (cQ h) hn];exact h
theorem Fr.ag {w w':World}(f:Fr none1 w w'){b:Nat}{o:Obj}(h:w.heap[b]? = some o):w'.heap[b]? = some o:=f.ao h (λ t=>t)
theorem Fr.me {c:Nat}{w w':World}(f:Fr (only c) w w'){b:Nat}{o:Obj}(h:w.heap[b]? = some o)(hn:b≠c):w'.heap[b]? = some o:=f.ao h hn
theorem Fr.below {w w':World}(f:Fr none1 w w'):Go.RowKit.Below w.heap.size w w':=⟨f.os,f.tape,f.output,f.size,λ k hk=>f.block k hk (λ t=>t)⟩
theorem Fr.fresh {b:Nat}{a w w':World}(h:Fr none1 a w)(k:Fr (only b) w w')(hb:a.heap.size<=b):Fr none1 a w':=
 h.comp k λ x hx t=>by have:x=b:=t;omega
theorem heap_setCell_same {w:World}{b i:Nat}{v:Value}{cs:Array Value}{T:TypeId}{fr:Nat×Nat}(hb:w.heap[b]? = some (.cells cs T fr)):
  (w.setCell ⟨b,i,none⟩ v).heap[b]? = some (.cells (cs.setIfInBounds i v) T fr):=by
 simp[World.setCell,Array.getElem?_modify,hb]
theorem D4 (w:World)(b i:Nat)(v:Value):Fr (only b) w (w.setCell ⟨b,i,none⟩ v):=
 ⟨rfl,rfl,rfl,by simp[World.setCell],λ k _ hn=>Go.RowKit.Below.heap_setCell _ _ _ _ hn⟩
theorem rr {w:World}{b i:Nat}{cs:Array Value}{T:TypeId}{fr:Nat×Nat}(hb:w.heap[b]? = some (.cells cs T fr)):w.cell? ⟨b,i,none⟩=cs[i]? := by
 simp[World.cell?,hb]
theorem D5 {w:World}{b i:Nat}{cs:Array Value}{T:TypeId}(hb:w.heap[b]? = some (.cells cs T (0,0))):w.frozen? ⟨b,i,none⟩=false:=by
 simp[World.frozen?,hb]
theorem af.of {c:Ck}{b i:Nat}{w:World}{K:c.C->Prop}{cs:Array Value}{T:TypeId}{fr:Nat×Nat}{x:c.C}(hb:w.heap[b]? = some (.cells cs T fr))(hx:cs[i]? = some (c.val x))(h:K x):
  af c ⟨b,i,none⟩ w K:=⟨x,by rw[rr hb,hx],h⟩
theorem af.aw {c:Ck}{b i n:Nat}{w:World}{K:c.C->Prop}{cs:Array Value}{T:TypeId}{fr:Nat×Nat}{x:c.C}(hb:w.heap[b]? = some (.cells cs T fr))(hx:cs[i+n]? = some (c.val x))(h:K x):
  af c ((⟨b,i,none⟩:Addr).add n) w K:=by rw[eN];exact af.of hb hx h
theorem aK.of {b i:Nat}{v:Value}{w:World}{K:World->Prop}{cs:Array Value}{T:TypeId}(hb:w.heap[b]? = some (.cells cs T (0,0)))(hi:i<cs.size)(h1:cG v=true)
  (h:∀ w1,w1.heap[b]? = some (.cells (cs.setIfInBounds i v) T (0,0))->Fr (only b) w w1->w1.heap.size=w.heap.size->K w1):aK ⟨b,i,none⟩ v w K:=
 ⟨h1,by rw[rr hb];simp[hi],D5 hb,h _ (heap_setCell_same hb) (D4 _ _ _ _) (by simp[World.setCell])⟩
theorem aK.aw {b i n:Nat}{v:Value}{w:World}{K:World->Prop}{cs:Array Value}{T:TypeId}(hb:w.heap[b]? = some (.cells cs T (0,0)))(hi:i+n<cs.size)(h1:cG v=true)
  (h:∀ w1,w1.heap[b]? = some (.cells (cs.setIfInBounds (i+n) v) T (0,0))->Fr (only b) w w1->w1.heap.size=w.heap.size->K w1):aK ((⟨b,i,none⟩:Addr).add n) v w K:=by
 rw[eN];exact aK.of hb hi h1 h
theorem pG (w:World)(o:Obj):Fr none1 w { w with heap:=w.heap.push o }:=
 ⟨rfl,rfl,rfl,by simp,λ k hk _=>by
  show(w.heap.push o)[k]? = _;rw[Array.getElem?_push,if_neg ab]⟩
theorem aC.of {o:Obj}{w:World}{K:Nat->World->Prop}(h:∀ g w1,w.heap.size=g->w1.heap[g]? = some o->Fr none1 w w1->w1.heap.size=g+1->K g w1):aC o w K:=
 ⟨h _ _ rfl bm (pG w o) bm⟩
theorem aU.of {w:World}{K:World->Prop}(h:∀ w1,w1.heap=w.heap->Fr none1 w w1->K w1):aU w K:=⟨h _ rfl ⟨rfl,rfl,rfl,Nat.le_refl _,λ _ _ _=>rfl⟩⟩
theorem an.of {P:Program}{f:FuncId}{args:Array Value}{w:World}{k:Rk}{K:k.C->World->Prop}{R:Value->World->Prop}(c:Ret P f args w R)(h:∀ v w',R v w'->∃ x,v=k.val x/\K x w'):
  an P f args w k K:=⟨c.mono λ _ w' ⟨v,he,hv⟩=>⟨v,he,h v w' hv⟩⟩
theorem Ret.mono {P:Program}{f:FuncId}{args:Array Value}{w:World}{R R':Value->World->Prop}(c:Ret P f args w R)(h:∀ v w',R v w'->R' v w'):Ret P f args w R':=
 Calls.mono c λ _ w' ⟨v,he,hv⟩=>⟨v,he,h v w' hv⟩
theorem ae.t {b:Bool}{A B:Prop}(h:b=true)(k:A):ae b A B:=by subst h;exact k
theorem ae.f {b:Bool}{A B:Prop}(h:b=false)(k:B):ae b A B:=by subst h;exact k
theorem ae.by {b:Bool}{A B:Prop}(h:b=true->A)(k:b=false->B):ae b A B:=by cases b;exact k rfl;exact h rfl
theorem ae.yes {p:Prop}[Decidable p]{A B:Prop}(h:p)(k:A):ae (decide p) A B:=ae.t (decide_eq_true h) k
theorem ae.no {p:Prop}[Decidable p]{A B:Prop}(h:¬ p)(k:B):ae (decide p) A B:=ae.f (decide_eq_false h) k
theorem ae.dec {p:Prop}[Decidable p]{A B:Prop}(h:p->A)(k:¬ p->B):ae (decide p) A B:=ae.by (λ e=>h (of_decide_eq_true e)) (λ e=>k (of_decide_eq_false e))
theorem ae.eq {α:Type}[BEq α][LawfulBEq α]{a b:α}{A B:Prop}(h:a=b->A)(k:a≠b->B):ae (a==b) A B:=ae.by (λ e=>h (eq_of_beq e)) (λ e=>k (λ x=>by subst x;simp at e))
theorem ae.ne {α:Type}[BEq α][LawfulBEq α]{a b:α}{A B:Prop}(h:a≠b->A)(k:a=b->B):ae (a != b) A B:=by
 by_cases e:a=b
 ·exact ae.f (by simp[e]) (k e)
 ·exact ae.t (by simp[e]) (h e)
theorem ae.not {b:Bool}{A B:Prop}(h:ae b B A):ae (!b) A B:=by cases b<;>exact h
theorem cz.of {b o len:Nat}{i:Int}{size:Nat}{K:Addr->Prop}(h0:0<=i)(h1:i<len)(h:K ⟨b,o+i.toNat * size,none⟩):cz (some ⟨b,o,none⟩) len i size K:=
 ⟨_,rfl,h0,h1,by rw[eN];exact h⟩
theorem cp.of {σ:Type}{body:(Nat->Value)->σ->World->(σ->World->Prop)->Prop}{s:σ}{w:World}(I:σ->World->Prop)(μ:σ->World->Nat)(h0:I s w)
  (h:∀ b s w,I s w->body b s w λ s' w'=>I s' w'/\μ s' w'<μ s w):cp σ body s w:=⟨I,μ,h0,h⟩
theorem dc.of {σ:Type}{first:(σ->World->Prop)->Prop}{rest:(Nat->Value)->σ->World->Prop}(J:σ->World->Prop)(h1:first J)(h2:∀ b s w,J s w->rest b s w):dc σ first rest:=⟨J,h1,h2⟩
theorem qt {w:World}{b:Nat}{cs:Array Value}{T:TypeId}{fr:Nat×Nat}(hb:w.heap[b]? = some (.cells cs T fr)):∀ (vs:List Value) (i:Nat),(∀ j,j<vs.length->cs[i+j]? = vs[j]?)->ma w ⟨b,0,none⟩ i vs
 | [],_,_=>trivial
 | v::vs,i,h=>by
  refine⟨?_,qt hb vs (i+1) λ j hj=>?_⟩
  ·rw[eN,rr hb]
   have:=h 0 bm;simpa using this
  ·have:=h (j+1) (by simp;omega)
   rw[show i+1+j=i+(j+1) by omega,this];simp
theorem aF.aR {cks:List Ck}{b:Nat}{w:World}{K:Cs cks->Prop}{T:TypeId}{fr:Nat×Nat}{x:Cs cks}(hb:w.heap[b]? = some (.cells (Cs.vals cks x).toArray T fr))(h:K x):aF cks ⟨b,0,none⟩ w K:=
 ⟨x,qt hb _ 0 λ j _=>by simp,h⟩
theorem K2 {b:Nat}{T:TypeId}:∀ (vs:List Value) (w:World) (pre cs:List Value),w.heap[b]? = some (.cells (pre++cs).toArray T (0,0))->cs.length=vs.length->vs.all cG=true ->
  tz w ⟨b,0,none⟩ pre.length vs/\(setCells w ⟨b,0,none⟩ pre.length vs).heap[b]? = some (.cells (pre++vs).toArray T (0,0))/\Fr (only b) w (setCells w ⟨b,0,none⟩ pre.length vs)/\(setCells w ⟨b,0,none⟩ pre.length vs).heap.size=w.heap.size
 | [],w,pre,cs,hb,hl,_=>by
  have:cs=[]:=by simpa using hl
  subst this;exact⟨trivial,hb,Fr.refl _ _,rfl⟩
 | v::vs,w,pre,cs,hb,hl,h1=>by
  cases cs with
  | nil=>simp at hl
  | cons c cs=>
   simp only[List.all_cons,Bool.and_eq_true] at h1;have hs:=heap_setCell_same (i:=0+pre.length) (v:=v) hb;have nM:(w.setCell ⟨b,0+pre.length,none⟩ v).heap[b]? = some (.cells ((pre++[v])++cs).toArray T (0,0)):=by
    rw[hs]
    congr 2
    apply Array.ext';simp
   obtain⟨a1,a2,a3,a4⟩:=K2 vs (w.setCell ⟨b,0+pre.length,none⟩ v) (pre++[v]) cs nM (by simpa using hl) h1.2;rw[List.length_append,List.length_singleton] at a1 a2 a3 a4;unfold tz setCells;rw[eN];refine⟨⟨h1.1,by rw[rr hb];simp,D5 hb,a1⟩,by rw[a2];simp,(D4 w b _ v).trans a3,by rw[a4];simp[World.setCell]⟩
theorem aG.aR {b:Nat}{vs:List Value}{w:World}{K:World->Prop}{cs:List Value}{T:TypeId}(hb:w.heap[b]? = some (.cells cs.toArray T (0,0)))(hl:cs.length=vs.length)(h1:vs.all cG=true)
  (h:∀ w1,w1.heap[b]? = some (.cells vs.toArray T (0,0))->Fr (only b) w w1->w1.heap.size=w.heap.size->K w1):aG ⟨b,0,none⟩ vs w K:=by
 obtain⟨a1,a2,a3,a4⟩:=K2 vs w [] cs hb hl h1;exact⟨a1,h _ a2 a3 a4⟩
def calm (w:World):(Nat->Bool)->World->Prop:=λ _ w'=>w.heap=w'.heap/\Fr none1 w w'
def IsInts (k:IntKind)(w:World)(a:Option Addr)(len cap:Nat)(zs:List Int):Prop:=
 (a=none/\len=0/\cap=0/\zs=[]) \/
 ∃ x,a=some x/\len<=cap/\cap<=maxLen/\zs.length=cap/\(∀ i,i<zs.length->w.cell? (x.add i)=some (.int k (zs.getD i 0)))/\∀ n∈zs,(Lit.int k n).wf=true
def IsStrs (w:World)(a:Option Addr)(len cap:Nat)(zs:List ByteArray):Prop:=
 (a=none/\len=0/\cap=0/\zs=[]) \/
 ∃ x,a=some x/\len<=cap/\cap<=maxLen/\zs.length=cap/\(∀ i,i<zs.length->w.cell? (x.add i)=some (.string (zs.getD i ByteArray.empty)))/\∀ s∈zs,s.size<=maxLen
theorem Qv {w:World}{p:Addr}{v:Value}(h:w.cell? p=some v):p.block<w.heap.size:=by
 unfold World.cell? at h;split at h
 ·rename_i hb;exact cQ hb
 ·cases h
theorem Fr.cell {S:Nat->Prop}{w w':World}(f:Fr S w w'){p:Addr}{v:Value}(h:w.cell? p=some v)(hn:¬ S p.block):w'.cell? p=some v:=by
 have hb:=f.block p.block (Qv h) hn;unfold World.cell? at h ⊢;rw[hb];exact h
theorem Fr.cell0 {w w':World}(f:Fr none1 w w'){p:Addr}{v:Value}(h:w.cell? p=some v):w'.cell? p=some v:=f.cell h (λ t=>t)
theorem Fr.kept {S T:Nat->Prop}{w w':World}(f:Fr T w w')(h:∀ k,S k->¬ T k):Kept S w w':=λ _ _ hs hc=>f.cell hc (h _ hs)
theorem az.on {S T:Nat->Prop}{w w':World}{K:Prop}(f:Fr T w w')(h:∀ k,S k->¬ T k)(k:K):az S w w' K:=⟨f.kept h,k⟩
theorem az.of {S:Nat->Prop}{w w':World}{K:Prop}(f:Fr none1 w w')(k:K):az S w w' K:=⟨f.kept λ _ _ t=>t,k⟩
def K3:Nat->Prop:=λ _=>True
theorem bL.all {body:(Nat->Prop)->Prop}(h:body K3):bL body:=⟨K3,h⟩
theorem bL.of {body:(Nat->Prop)->Prop}(S:Nat->Prop)(h:body S):bL body:=⟨S,h⟩
theorem aJ.all {p:Addr}{K:Prop}(k:K):aJ K3 p K:=⟨trivial,k⟩
theorem af.cell {c:Ck}{p:Addr}{w:World}{K:c.C->Prop}{x:c.C}(h:w.cell? p=some (c.val x))(k:K x):af c p w K:=⟨x,h,k⟩
theorem IsInts.i64 {w:World}{a:Option Addr}{len cap:Nat}{zs:List Int}(h:IsInts .i64 w a len cap zs)(i:Nat):-9223372036854775808<=zs.getD i 0/\zs.getD i 0<=9223372036854775807:=by
 rcases h with⟨_,_,_,rfl⟩ | ⟨x,rfl,hl,hc,hz,_,hw⟩
 ·simp
 ·rw[List.getD_eq_getElem?_getD]
  cases hi:zs[i]? with
  | none=>simp
  | some n=>
   have hm:=hw n (List.mem_of_getElem? hi);simp[Lit.wf,IntKind.min,IntKind.max,IntKind.signed,IntKind.bits] at hm;simp only[Option.getD_some];omega
end Vc
namespace Vc
variable {P:Program}
abbrev Sl:=Option Addr×Nat×Nat
def aH (v:Sl):Nat->Prop:=λ k=>∃ a,v.1=some a/\k=a.block
def aV (w:World)(E s:Nat)(v:Sl)(xs:List Value):Prop:=
 (v=(none,0,0)/\xs=[]) \/
 ∃ g off cs,v.1=some ⟨g,off,none⟩/\w.heap[g]? = some (.cells cs E (0,0))/\v.2.1<=v.2.2/\off+v.2.2 * s<=cs.size/\xs.length=v.2.1 * s/\∀ i,i<xs.length->cs[off+i]? = xs[i]?
theorem aV.ao {w w':World}{E s:Nat}{v:Sl}{xs:List Value}(h:aV w E s v xs){S:Nat->Prop}(f:Fr S w w')(hn:∀ k,aH v k->¬ S k):aV w' E s v xs:=by
 rcases h with h | ⟨g,off,cs,h1,h2,h3⟩
 ·exact .inl h
 ·exact .inr ⟨g,off,cs,h1,f.ao h2 (hn g ⟨_,h1,rfl⟩),h3⟩
theorem aV.ag {w w':World}{E s:Nat}{v:Sl}{xs:List Value}(h:aV w E s v xs)(f:Fr none1 w w'):aV w' E s v xs:=h.ao f (λ _ _ t=>t)
theorem aV.lt {w:World}{E s:Nat}{v:Sl}{xs:List Value}(h:aV w E s v xs){k:Nat}(hk:aH v k):k<w.heap.size:=by
 obtain⟨a,ha,rfl⟩:=hk
 rcases h with⟨rfl,_⟩ | ⟨g,off,cs,h1,h2,h3⟩
 ·cases ha
 ·rw[h1] at ha;injection ha with ha;subst ha;exact cQ h2
theorem aV.len {w:World}{E s:Nat}{v:Sl}{xs:List Value}(h:aV w E s v xs):xs.length=v.2.1 * s:=by
 rcases h with⟨rfl,rfl⟩ | ⟨g,off,cs,h1,h2,h3,h4,h5,h6⟩
 ·simp
 ·exact h5
theorem aV.ld {w:World}{E:Nat}{v:Sl}{xs:List Value}(h:aV w E 1 v xs){c:Ck}{K:c.C->Prop}{i:Int}(h0:0<=i)(h1:i<v.2.1){x:c.C}(hx:xs[i.toNat]? = some (c.val x))(k:K x):
  cz v.1 v.2.1 i 1 λ p=>af c p w K:=by
 rcases h with⟨rfl,rfl⟩ | ⟨g,off,cs,hv,hb,hl,hc,hn,he⟩
 ·simp at hx
 ·refine⟨_,hv,h0,h1,?_⟩
  rw[eN];refine af.of hb ?_ k;rw[Nat.mul_one,he i.toNat (by rw[hn];omega)];exact hx
theorem zt {w:World}{g:Nat}{cs:Array Value}{T:TypeId}{fr:Nat×Nat}(hb:w.heap[g]? = some (.cells cs T fr)):∀ (vs:List Value) (off i:Nat),(∀ j,j<vs.length->cs[off+i+j]? = vs[j]?)->ma w ⟨g,off,none⟩ i vs
 | [],_,_,_=>trivial
 | v::vs,off,i,h=>by
  refine⟨?_,zt hb vs off (i+1) λ j hj=>?_⟩
  ·rw[eN,rr hb]
   have:=h 0 bm;simpa using this
  ·have:=h (j+1) (by simp;omega)
   rw[show off+(i+1)+j=off+i+(j+1) by omega,this];simp
theorem aV.first {w:World}{E s:Nat}{v:Sl}{xs:List Value}(h:aV w E s v xs):(Builtin.firstCells s v.2.1 (.slice v.1 v.2.1 v.2.2)).run P w=.ok xs.toArray w:=by
 rcases h with⟨rfl,rfl⟩ | ⟨g,off,cs,hv,hb,hl,hc,hn,he⟩
 ·rfl
 ·rw[hv]
  simp only[Builtin.firstCells];rw[<- hn];exact zl xs (zt hb xs off 0 λ j hj=>by rw[Nat.add_zero];exact he j hj)
def eW (w:World)(s:Nat)(v:Sl)(xs:List Value):Prop:=xs.length=v.2.1 * s/\(v.1=none->v.2.1=0/\v.2.2=0/\xs=[])/\∀ a,v.1=some a->ma w a 0 xs
theorem aV.rd {w:World}{E s:Nat}{v:Sl}{xs:List Value}(h:aV w E s v xs):eW w s v xs:=by
 refine⟨h.len,λ hn=>?_,λ a ha=>?_⟩
 ·rcases h with⟨rfl,rfl⟩ | ⟨g,off,cs,hv,_⟩
  ·exact⟨rfl,rfl,rfl⟩
  ·rw[hv] at hn;cases hn
 ·rcases h with⟨rfl,rfl⟩ | ⟨g,off,cs,hv,hb,hl,hc,hn,he⟩
  ·trivial
  ·rw[hv] at ha;injection ha with ha;subst ha
   exact zt hb xs off 0 λ j hj=>by rw[Nat.add_zero];exact he j hj
theorem Qw {w w':World}{S:Nat->Prop}(f:Fr S w w'){a:Addr}(hn:¬ S a.block):∀ (vs:List Value) (i:Nat),ma w a i vs->ma w' a i vs
 | [],_,_=>trivial
 | v::vs,i,⟨h1,h2⟩=>⟨f.cell h1 (by unfold Addr.add;split<;>exact hn),Qw f hn vs (i+1) h2⟩
theorem eW.ao {w w':World}{s:Nat}{v:Sl}{xs:List Value}(h:eW w s v xs){S:Nat->Prop}(f:Fr S w w')(hn:∀ k,aH v k->¬ S k):eW w' s v xs:=
 ⟨h.1,h.2.1,λ a ha=>Qw f (hn _ ⟨a,ha,rfl⟩) _ _ (h.2.2 a ha)⟩
theorem eW.ag {w w':World}{s:Nat}{v:Sl}{xs:List Value}(h:eW w s v xs)(f:Fr none1 w w'):eW w' s v xs:=h.ao f (λ _ _ t=>t)
theorem eW.first {w:World}{s:Nat}{v:Sl}{xs:List Value}(h:eW w s v xs):(Builtin.firstCells s v.2.1 (.slice v.1 v.2.1 v.2.2)).run P w=.ok xs.toArray w:=by
 obtain⟨h1,h2,h3⟩:=h;cases hv:v.1 with
 | none=>
  obtain⟨_,_,rfl⟩:=h2 hv;rfl
 | some a=>
  simp only[Builtin.firstCells];rw[<- h1];exact zl xs (h3 a hv)
theorem BK {w:World}{a:Addr}:∀ (vs:List Value) (i j:Nat) (v:Value),ma w a i vs->vs[j]? = some v->w.cell? (a.add (i+j))=some v
 | [],_,_,_,_,h=>by simp at h
 | u::vs,i,0,v,⟨h1,_⟩,h=>by simp at h;subst h;exact h1
 | u::vs,i,j+1,v,⟨_,h2⟩,h=>by
  have:=BK vs (i+1) j v h2 (by simpa using h);rw[show i+(j+1)=i+1+j by omega];exact this
theorem eW.ld {w:World}{v:Sl}{xs:List Value}(h:eW w 1 v xs){c:Ck}{K:c.C->Prop}{i:Int}(h0:0<=i)(h1:i<v.2.1){x:c.C}(hx:xs[i.toNat]? = some (c.val x))(k:K x):
  cz v.1 v.2.1 i 1 λ p=>af c p w K:=by
 obtain⟨q1,q2,q3⟩:=h;cases hv:v.1 with
 | none=>have:=(q2 hv).1;omega
 | some a=>
  refine⟨a,rfl,h0,h1,?_⟩;have:=BK xs 0 i.toNat _ (q3 a hv) hx;rw[Nat.mul_one];rw[Nat.zero_add] at this;exact af.cell this k
theorem K4 {g:Nat}{T:TypeId}:∀ (vs:List Value) (w:World) (cs:Array Value) (off i:Nat),w.heap[g]? = some (.cells cs T (0,0))->off+i+vs.length<=cs.size->(∀ v∈vs,cG v=true) ->
  tz w ⟨g,off,none⟩ i vs/\∃ mH,(setCells w ⟨g,off,none⟩ i vs).heap[g]? = some (.cells mH T (0,0))/\mH.size=cs.size/\(∀ j,j<vs.length->mH[off+i+j]? = vs[j]?)/\(∀ j,j<off+i->mH[j]? = cs[j]?) /\
   Fr (only g) w (setCells w ⟨g,off,none⟩ i vs)/\(setCells w ⟨g,off,none⟩ i vs).heap.size=w.heap.size
 | [],w,cs,off,i,hb,_,_=>⟨trivial,cs,hb,rfl,λ j hj=>by simp at hj,λ _ _=>rfl,Fr.refl _ _,rfl⟩
 | v::vs,w,cs,off,i,hb,hl,h1=>by
  simp only[List.length_cons] at hl;have hs:=heap_setCell_same (i:=off+i) (v:=v) hb;have hf:=D4 w g (off+i) v;obtain⟨hw,mH,a1,a2,a3,a4,a5,a6⟩:=K4 vs (w.setCell ⟨g,off+i,none⟩ v) _ off (i+1) hs (by simp;omega) (λ u hu=>h1 u (by simp[hu]));unfold tz setCells;rw[eN];refine⟨⟨h1 v bm,by rw[rr hb];simp;omega,D5 hb,hw⟩,mH,a1,by rw[a2];simp,λ j hj=>?_,λ j hj=>?_,hf.trans a5,by rw[a6];simp[World.setCell]⟩
  ·cases j with
   | zero=>
    have:=a4 (off+i) ab;simp only[Nat.add_zero,this];rw[Array.getElem?_setIfInBounds_self_of_lt ab];rfl
   | succ j=>
    have:=a3 j (by simp at hj;omega);rw[show off+i+(j+1)=off+(i+1)+j by omega,this];simp
  ·rw[a4 j ab]
   rw[Array.getElem?_setIfInBounds_ne ab]
theorem Qx (n:Nat):∀ (r c:Nat),c<=2 * n+192->Builtin.growBy n r c<=2 * n+192
 | 0,c,h=>h
 | r+1,c,h=>by
  unfold Builtin.growBy;split
  ·exact h
  ·exact Qx n r _ ab
theorem Qy {n c:Nat}(h:c<n):Builtin.nextslicecap n c<=2 * n+192:=by
 unfold Builtin.nextslicecap;split
 ·omega
 ·split
  ·omega
  ·exact Qx n 4 c ab
structure jR (P:Program)(t E s:Nat)(z:Value)(bytes:Nat):Prop where
 under:P.underlying t=some (.slice E)
 info:∃ i,P.info? E=some i/\i.size=s/\i.zero=some z/\i.bytes=bytes
 cells:z.cells.size=s
 pos:0<bytes
theorem BM (w:World):Fr none1 w { w with drawn:=w.drawn+1 }:=⟨rfl,rfl,rfl,Nat.le_refl _,λ _ _ _=>rfl⟩
theorem Qz {w:World}{t t2 E s bytes n:Nat}{z yv:Value}{x:Sl}{xs ys:List Value}(he:jR P t E s z bytes)(o:TypeId)(zp:∃ d,P.underlying t2=some d/\(d=.string\/∃ E2,d=.slice E2))(hx:aV w E s x xs)
  (BN:ys.length=n * s) (YP:∀ w,(Builtin.lenOf yv).run P w=.ok n w) (Hs:∀ w',Fr none1 w w'->(Builtin.firstCells s n yv).run P w'=.ok ys.toArray w') (h1:∀ v∈ys,cG v=true)
  (hb:(2 * (x.2.1+n)+192) * bytes<=2 ^ 48) :
  ∃ v w',(Builtin.append_ #[t,t2] o #[.slice x.1 x.2.1 x.2.2,yv]).run P w=.ok (.slice v.1 v.2.1 v.2.2) w'/\aV w' E s v (xs++ys)/\v.2.1=x.2.1+n/\Fr (aH x) w w' /\
   (∀ k,aH v k->aH x k\/w.heap.size<=k):=by
 obtain⟨hu,⟨i,hi,hs,hz,uN⟩,hc,sE⟩:=he;unfold Builtin.append_;obtain⟨d2,zp,zu⟩:=zp;have pH:∀ w,(sizeOf E).run P w=.ok s w:=λ w=>by rw[mZ hi,hs]
 rcases zu with rfl | ⟨E2,rfl⟩
 all_goals
  simp only[Sem.run_bind,under hu,under zp,Result.andThen_ok,pH,List.getElem?_toArray,List.getElem?_cons_zero,List.getElem?_cons_succ,Sem.run_pure,Bool.false_eq_true,if_false,YP]
  by_cases nN:x.2.1+n<=x.2.2
  ·rw[if_pos nN]
   simp only[Bool.not_false,if_true,Sem.run_bind,Hs w (Fr.refl _ _),Result.andThen_ok]
   rcases hx with⟨rfl,rfl⟩ | ⟨g,off,cs,hv,BO,hl,xK,hn,Ht⟩
   ·have zv:n=0:=by simp at nN;omega
    have zz:ys=[]:=by have:=BN;rw[zv] at this;simpa using this
    subst zz;refine⟨(none,0,0),w,by simp[zv],.inl ⟨rfl,rfl⟩,by simp[zv],Fr.refl _ _,λ k ⟨a,ha,_⟩=>by cases ha⟩
   ·have gG:=BN
    have hmul:(x.2.1+n) * s<=x.2.2 * s:=Nat.mul_le_mul_right _ nN;rw[Nat.add_mul] at hmul;obtain⟨hw,mH,a1,a2,a3,a4,a5,a6⟩:=K4 ys w cs (off+x.2.1 * s) 0 BO ab h1;rw[hv];simp only[eN,Sem.run_bind];rw[show(storeCells ⟨g,off+x.2.1 * s,none⟩ ys.toArray.toList 0).run P w=.ok () _ from BB ys 0 w hw];refine⟨(some ⟨g,off,none⟩,x.2.1+n,x.2.2),_,rfl,.inr ⟨g,off,mH,rfl,a1,nN,by rw[a2];exact xK,by simp[hn,gG,Nat.add_mul],λ j hj=>?_⟩,rfl,a5.mono (λ k _ hk=>⟨_,hv,hk⟩),λ k ⟨a,ha,hk⟩=>.inl ⟨_,hv,by injection ha with ha;subst ha;exact hk⟩⟩
    simp at hj
    by_cases QA:j<xs.length
    ·rw[a4 (off+j) ab,Ht j QA,List.getElem?_append_left QA]
    ·have:=a3 (j - xs.length) ab
     rw[List.getElem?_append_right ab,<- this]
     congr 1;omega
  ·rw[if_neg nN]
   have rv:∀ w,(typeInfo E).run P w=.ok i w:=λ w=>by simp[typeInfo,hi]
   have BP:Builtin.nextslicecap (x.2.1+n) x.2.2 * i.bytes<=2 ^ 48:=by
    rw[uN];exact Nat.le_trans (Nat.mul_le_mul_right _ (Qy ab)) hb
   have nO:¬ (((x.2.1+n:Nat):Int) > IntKind.i64.max/\(False\/i.bytes=0)):=by
    rintro⟨_,h | h⟩
    ·exact h
    ·omega
   simp only[Sem.run_bind,rv,Result.andThen_ok,Sem.run_ite];rw[if_neg nO,if_neg (show ¬ (Builtin.nextslicecap (x.2.1+n) x.2.2 * i.bytes > 2 ^ 48) by omega)];simp only[run_choose,Question.forced,Bool.false_eq_true,if_false,Result.andThen_ok,run_askRoom];generalize zA:(Question.appendCap (x.2.1+n) x.2.2 E).cut _=nc;have gk:x.2.1+n<=nc:=by rw[<- zA];simp[Question.cut]
   have f1:=BM w;rw[(hx.ag f1).first]
   simp only[Result.andThen_ok,Bool.not_false,if_true];rw[Hs _ f1];simp only[Result.andThen_ok,uG hi hz,newRow,Sem.run_bind,run_newObj,Sem.run_pure];refine⟨(some ⟨w.heap.size,0,none⟩,x.2.1+n,nc),_,rfl,.inr ⟨w.heap.size,0,_,rfl,Array.getElem?_push_size ..,gk,?_,by simp[hx.len,BN,Nat.add_mul],λ j hj=>?_⟩,rfl,
    ((f1.trans (pG _ _)).mono λ _ _ t=>t.elim),λ k ⟨a,ha,hk⟩=>.inr (by injection ha with ha;subst ha;subst hk;exact Nat.le_refl _)⟩
   ·simp only[Array.size_append,List.size_toArray,Builtin.zeroCells,Array.size_map,Array.size_range,hx.len,BN,hc]
    have:nc=(x.2.1+n)+(nc - (x.2.1+n)):=ab;have h2:nc * s=(x.2.1+n) * s+(nc - (x.2.1+n)) * s:=by rw[<- Nat.add_mul,<- this]
    rw[Nat.add_mul] at h2;show 0+nc * s<=_;omega
   ·rw[Nat.zero_add,Array.getElem?_append_left (by simpa using hj)]
    simp[List.getElem?_append]
theorem jf {w:World}{t E s bytes:Nat}{z:Value}{x y:Sl}{xs ys:List Value}(he:jR P t E s z bytes)(o:TypeId)(hx:aV w E s x xs)(hy:eW w s y ys)(h1:∀ v∈ys,cG v=true)
  (hb:(2 * (x.2.1+y.2.1)+192) * bytes<=2 ^ 48) :
  ∃ v w',(Builtin.append_ #[t,t] o #[.slice x.1 x.2.1 x.2.2,.slice y.1 y.2.1 y.2.2]).run P w=.ok (.slice v.1 v.2.1 v.2.2) w'/\aV w' E s v (xs++ys)/\v.2.1=x.2.1+y.2.1/\Fr (aH x) w w' /\
   (∀ k,aH v k->aH x k\/w.heap.size<=k):=
 Qz he o ⟨_,he.under,.inr ⟨_,rfl⟩⟩ hx hy.1 (λ _=>rfl) (λ _ f=>(hy.ag f).first) h1 hb
theorem YQ {w:World}{t st E bytes:Nat}{z:Value}{x:Sl}{xs:List Value}(he:jR P t E 1 z bytes)(o:TypeId)(dH:P.underlying st=some .string)(hx:aV w E 1 x xs)(s:ByteArray)
  (hb:(2 * (x.2.1+s.size)+192) * bytes<=2 ^ 48) :
  ∃ v w',(Builtin.append_ #[t,st] o #[.slice x.1 x.2.1 x.2.2,.string s]).run P w=.ok (.slice v.1 v.2.1 v.2.2) w'/\aV w' E 1 v (xs++s.data.toList.map λ b=>.int .u8 (b.toNat:Int))/\v.2.1=x.2.1+s.size/\Fr (aH x) w w' /\
   (∀ k,aH v k->aH x k\/w.heap.size<=k):=
 Qz he o ⟨_,dH,.inl rfl⟩ hx (by rw[List.length_map,Array.length_toList,Nat.mul_one];rfl) (λ _=>rfl) (λ _ _=>by
  have e:s.extract 0 s.size=s:=ByteArray.ext (by rw[ByteArray.data_extract];exact Array.extract_size);simp only[Builtin.firstCells,e,Sem.run_pure];refine congrArg (λ a=>Result.ok a _) ?_;apply Array.ext';rw[Array.toList_map]) (by intro v hv;obtain⟨b,_,rfl⟩:=List.mem_map.1 hv;rfl) hb
theorem K5 {w:World}{t E s bytes:Nat}{z:Value}(he:jR P t E s z bytes)(n:Nat)(parts:Array (Nat×Value))(cells:Array Value)(hn:n * s<=2 ^ 24)
  (hf:Instr.fill (λ i=>some (i * s,s)) ((Array.range (n * s)).map (z.cells[· % z.cells.size]!)) parts.toList=some cells) (hsz:cells.size=n * s) :
  ∃ v w',(Instr.buildSlice t n parts).run P w=.ok (.slice v.1 v.2.1 v.2.2) w'/\aV w' E s v cells.toList/\v.2.1=n/\Fr none1 w w'/\(∀ k,aH v k->w.heap.size<=k):=by
 obtain⟨hu,⟨i,hi,hs,hz,uN⟩,hc,sE⟩:=he;have pH:∀ w,(sizeOf E).run P w=.ok s w:=λ w=>by rw[mZ hi,hs]
 unfold Instr.buildSlice;simp only[Sem.run_bind,under hu,Result.andThen_ok,pH];rw[if_neg ab];have fin:∀ zc:Array Value,(Array.range (n * s)).map (zc[· % zc.size]!)=(Array.range (n * s)).map (z.cells[· % z.cells.size]!) ->
   ∃ v w',(match Instr.fill (λ i=>some (i * s,s)) ((Array.range (n * s)).map (zc[· % zc.size]!)) parts.toList with
    | some cells=>(do pure (Value.slice (some (<- newRow E cells)) n n):Sem Value)
    | _ => stuck "buildSlice: a part of the wrong size").run P w = .ok (.slice v.1 v.2.1 v.2.2) w' /\ aV w' E s v cells.toList /\ v.2.1 = n /\ Fr none1 w w' /\ (∀ k, aH v k -> w.heap.size <= k) := λ zc zB => by
  rw[zB,hf];simp only[newRow,Sem.run_bind,run_newObj,Result.andThen_ok,Sem.run_pure];exact⟨(some ⟨w.heap.size,0,none⟩,n,n),_,rfl,.inr ⟨w.heap.size,0,cells,rfl,Array.getElem?_push_size ..,Nat.le_refl _,by rw[hsz];simp,by simpa using hsz,λ j hj=>by simp⟩,rfl,pG _ _,λ k ⟨a,ha,hk⟩=>by injection ha with ha;subst ha;subst hk;exact Nat.le_refl _⟩
 by_cases h:n * s=0
 ·simp only[if_pos h,Sem.run_bind,Sem.run_pure,Result.andThen_ok]
  exact fin #[] (by rw[h];simp)
 ·simp only[if_neg h,Sem.run_bind,uG hi hz,Sem.run_pure,Result.andThen_ok]
  exact fin z.cells rfl
theorem QB (n:Nat)(zs:Array Value):∀ (vs:List Value) (k:Nat) (pre:List Value),pre.length=k->k+vs.length=n->zs.size=n->(∀ v∈vs,v.cells=#[v])->(∀ cur:Array Value,cur.size=n->cur.toList.take k=pre ->
  ∃ out,Instr.fill (λ i=>some (i * 1,1)) cur ((vs.zipIdx k).map λ(v,i)=>(i,v))=some out/\out.toList=pre++vs)
 | [],k,pre,hp,hk,_,_,cur,hc,ht=>by
  refine⟨cur,rfl,?_⟩;simp only[List.length_nil,Nat.add_zero] at hk;rw[<- ht,List.append_nil,List.take_of_length_le (by simp;omega)]
 | v::vs,k,pre,hp,hk,hz,h1,cur,hc,ht=>by
  simp only[List.length_cons] at hk;have hv:=h1 v bm;obtain⟨out,ho,hl⟩:=QB n zs vs (k+1) (pre++[v]) (by simp[hp]) ab hz (λ u hu=>h1 u (by simp[hu])) (cur.setIfInBounds k v) (by simp[hc]) (by
   rw[Array.toList_setIfInBounds,List.take_succ_eq_append_getElem (by simp;omega),List.take_set_of_le (Nat.le_refl _),ht];simp)
  refine⟨out,?_,by rw[hl];simp⟩;simp only[List.zipIdx_cons,List.map_cons,Instr.fill,hv,Nat.mul_one];rw[if_neg (by simp;omega)];simpa using ho
theorem vR {w:World}{t E bytes:Nat}{z:Value}(he:jR P t E 1 z bytes)(vs:List Value)(h1:∀ v∈vs,v.cells=#[v])(hn:vs.length<=2 ^ 24):
  ∃ v w',(Instr.buildSlice t vs.length ((vs.zipIdx.map λ(v,i)=>(i,v)).toArray)).run P w=.ok (.slice v.1 v.2.1 v.2.2) w'/\aV w' E 1 v vs/\v.2.1=vs.length/\Fr none1 w w'/\(∀ k,aH v k->w.heap.size<=k):=by
 obtain⟨out,ho,hl⟩:=QB vs.length ((Array.range (vs.length * 1)).map (z.cells[· % z.cells.size]!)) vs 0 [] rfl bm bm h1 ((Array.range (vs.length * 1)).map (z.cells[· % z.cells.size]!)) bm bm;obtain⟨v,w',a,b,c⟩:=K5 (w:=w) he vs.length ((vs.zipIdx.map λ(v,i)=>(i,v)).toArray) out ab (by simpa using ho) (by rw[<- Array.length_toList,hl];simp);rw[hl] at b;exact⟨v,w',a,by simpa using b,c⟩
theorem YR {w:World}{t E bytes:Nat}{z:Value}(he:jR P t E 1 z bytes)(YS:z.cells=#[z]){k k':IntKind}{n m:Int}(h0:0<=n)(h1:n<=m)(hb:m.toNat * bytes<=2 ^ 48):
  ∃ v w',(Instr.makeSlice t (.int k n) (.int k' m)).run P w=.ok (.slice v.1 v.2.1 v.2.2) w'/\aV w' E 1 v (List.replicate n.toNat z)/\v.2.1=n.toNat/\v.2.2=m.toNat/\Fr none1 w w'/\(∀ k,aH v k->w.heap.size<=k):=by
 obtain⟨hu,⟨i,hi,hs,hz,uN⟩,hc,sE⟩:=he;have hm:m<=281474976710656:=by
  have:m.toNat * 1<=m.toNat * bytes:=Nat.mul_le_mul_left _ sE;omega
 have rv:∀ w,(typeInfo E).run P w=.ok i w:=λ w=>by simp[typeInfo,hi]
 have pH:∀ w,(sizeOf E).run P w=.ok 1 w:=λ w=>by rw[mZ hi,hs]
 have ha:∀ (k:IntKind) (n:Int) w,(asInt (.int k n)).run P w=.ok n w:=λ _ _ _=>rfl;unfold Instr.makeSlice;simp only[Sem.run_bind,under hu,Result.andThen_ok,ha,rv,wI (x:=n) ab ab,wI (x:=m) ab ab];have YT:¬ ((i.bytes:Int) * m > 2 ^ 48):=by
  rw[uN];have h2:((m.toNat * bytes:Nat):Int)<=281474976710656:=ab;have h3:((m.toNat * bytes:Nat):Int)=(bytes:Int) * m:=by
   rw[Int.natCast_mul,Int.toNat_of_nonneg ab,Int.mul_comm]
  omega
 rw[if_neg (by simp;omega)];have zC:∀ zc:Array Value,(m.toNat * 1≠0->zc=#[z])->(Array.range (m.toNat * 1)).map (zc[· % zc.size]!)=Array.replicate m.toNat z:=λ zc zB=>by
  by_cases h:m.toNat * 1=0
  ·have:m.toNat=0:=ab
   rw[this];simp
  ·rw[zB h]
   apply Array.ext
   ·simp
   ·intro j h1 h2
    have:j % 1=0:=Nat.mod_one _;simp[this]
 have fin:∀ w1:World,w1.heap=w.heap->Fr none1 w w1->∀ cs:Array Value,cs=Array.replicate m.toNat z ->
   ∃ v w',(do pure (Value.slice (some (<- newRow E cs)) n.toNat m.toNat):Sem Value).run P w1=.ok (.slice v.1 v.2.1 v.2.2) w'/\aV w' E 1 v (List.replicate n.toNat z)/\v.2.1=n.toNat/\v.2.2=m.toNat/\Fr none1 w w'/\(∀ k,aH v k->w.heap.size<=k):=λ w1 hh f1 cs hcs=>by
  subst hcs;simp only[newRow,Sem.run_bind,run_newObj,Result.andThen_ok,Sem.run_pure];refine⟨(some ⟨w1.heap.size,0,none⟩,n.toNat,m.toNat),_,rfl,.inr ⟨w1.heap.size,0,_,rfl,Array.getElem?_push_size ..,by dsimp only;omega,by simp,by simp,λ j hj=>?_⟩,rfl,rfl,f1.trans (pG _ _),λ k ⟨a,ha,hk⟩=>by injection ha with ha;subst ha;subst hk;rw[hh];exact Nat.le_refl _⟩
  simp at hj;rw[Array.getElem?_replicate,List.getElem?_replicate,if_pos (show 0+j<m.toNat by omega),if_pos (show j<n.toNat by omega)]
 by_cases h:m.toNat * 1=0
 ·simp only[Sem.run_bind,run_askRoom,Result.andThen_ok,pH,if_pos h,Sem.run_pure]
  exact fin w rfl (Fr.refl _ _) _ (zC #[] (λ hh=>absurd h hh))
 ·simp only[Sem.run_bind,run_askRoom,Result.andThen_ok,pH,if_neg h,uG hi hz,Sem.run_pure]
  exact fin w rfl (Fr.refl _ _) _ (zC z.cells (λ _=>YS))
theorem oT {w:World}{t E bytes:Nat}{z:Value}(he:jR P t E 1 z bytes)(v:Value)(h1:v.cells=#[v]):
  ∃ x w',(Instr.buildSlice t 1 #[(0,v)]).run P w=.ok (.slice x.1 x.2.1 x.2.2) w'/\aV w' E 1 x [v]/\x.2.1=1/\Fr none1 w w'/\(∀ k,aH x k->w.heap.size<=k):=
 vR he [v] (by simpa using h1) bm
theorem K6 {w:World}{t E bytes:Nat}{z:Value}{x:Sl}{xs:List Value}(he:jR P t E 1 z bytes)(o:TypeId)(hx:aV w E 1 x xs)(v:Value)(h1:v.cells=#[v])(h2:cG v=true)
  (hb:(2 * (x.2.1+1)+192) * bytes<=2 ^ 48) {K:Sl->World->Prop}
  (hK:∀ y w',aV w' E 1 y (xs++[v])->y.2.1=x.2.1+1->Fr (aH x) w w'->(∀ k,aH y k->aH x k\/w.heap.size<=k)->K y w') :
  kT P (Instr.buildSlice t 1 #[(0,v)]) w (.v (.one .bE)) λ(y:Option Addr×Nat×Nat) w'=>kT P (Builtin.append_ #[t,t] o #[.slice x.1 x.2.1 x.2.2,.slice y.1 y.2.1 y.2.2]) w' (.v (.one .bE)) λ(u:Option Addr×Nat×Nat) rn=>K u rn:=by
 obtain⟨y,w1,hr,hy,hl,f1,hf⟩:=oT (w:=w) he v h1;refine⟨y,w1,hr,?_⟩;obtain⟨u,w2,iD,hu,uO,f2,nP⟩:=jf he o (hx.ag f1) hy.rd (by simpa using h2) (by rw[hl];exact hb);refine⟨u,w2,iD,hK u w2 hu (by rw[uO,hl]) (f1.fN f2) λ k hk=>?_⟩
 rcases nP k hk with h | h
 ·exact .inl h
 ·exact .inr (Nat.le_trans f1.size h)
theorem aV.st {w:World}{E:Nat}{v:Sl}{xs:List Value}(h:aV w E 1 v xs){K:World->Prop}{i:Int}(h0:0<=i)(h1:i<v.2.1){x:Value}(hx:cG x=true)
  (k:∀ w1,aV w1 E 1 v (xs.set i.toNat x)->Fr (aH v) w w1->w1.heap.size=w.heap.size->K w1):cz v.1 v.2.1 i 1 λ p=>aK p x w K:=by
 rcases h with⟨rfl,rfl⟩ | ⟨g,off,cs,hv,hb,hl,hc,hn,he⟩
 ·simp at h1;omega
 ·refine⟨_,hv,h0,h1,?_⟩
  rw[eN];refine aK.of hb ab hx λ w1 aE f1 hs=>k w1 (.inr ⟨g,off,_,hv,aE,hl,by simpa using hc,by simpa using hn,λ j hj=>?_⟩) (f1.mono λ k _ hk=>⟨_,hv,hk⟩) hs;rw[List.length_set] at hj;rw[Nat.mul_one,Array.getElem?_setIfInBounds,List.getElem?_set]
  by_cases ox:i.toNat=j
  ·subst ox;rw[if_pos rfl,if_pos rfl,if_pos ab,if_pos hj]
  ·rw[if_neg ab,if_neg ox,he j hj]
theorem BQ {w:World}{a:Addr}:∀ (vs:List Value) (i n:Nat),ma w a i vs->ma w a i (vs.take n)
 | [],i,n,_=>by simp;exact trivial
 | v::vs,i,0,_=>trivial
 | v::vs,i,n+1,⟨h1,h2⟩=>⟨h1,BQ vs (i+1) n h2⟩
theorem eW.sub {w:World}{v:Sl}{xs:List Value}(h:eW w 1 v xs){n:Int}(h0:0<=n)(h1:n<=v.2.1)(hc:v.2.1<=v.2.2){K:Option Addr->Nat->Nat->Prop}
  (k:eW w 1 (v.1,n.toNat,v.2.2) (xs.take n.toNat)->K v.1 n.toNat v.2.2):gQ v.1 v.2.2 0 n v.2.2 1 K:=by
 refine⟨Int.le_refl _,h0,by omega,by omega,?_⟩;have e:(if(v.2.2:Int)=0 then v.1 else v.1.map (·.add ((0:Int).toNat * 1)))=v.1:=by
  split
  ·rfl
  ·cases v.1 with
   | none=>rfl
   | some a=>simp[Addr.add]
 rw[e,Int.sub_zero,Int.sub_zero,Int.toNat_natCast];obtain⟨a,b,c⟩:=h;refine k ⟨by simp;omega,λ hn=>?_,λ x hx=>BQ _ _ _ (c x hx)⟩;obtain⟨p,q,r⟩:=b hn;dsimp only;subst r;exact⟨by omega,q,by simp⟩
end Vc
set_option linter.unusedVariables false
open Vc
theorem qu:jR Tryz.prog 22 5 1 (.int .u8 0) 1:=⟨Tryz.underlying22,⟨Tryz.t5,by kernel_rfl,rfl,rfl,rfl⟩,rfl,by decide⟩
def bc (x:UInt8):Value:=.int .u8 (x.toNat:Int)
def cT (w:World)(v:Sl)(bs:List UInt8):Prop:=aV w 5 1 v (bs.map bc)
def bO (w:World)(v:Sl)(bs:List UInt8):Prop:=eW w 1 v (bs.map bc)
theorem cT.rd {w:World}{v:Sl}{bs:List UInt8}(h:cT w v bs):bO w v bs:=aV.rd h
theorem bO.len {w:World}{v:Sl}{bs:List UInt8}(h:bO w v bs):v.2.1=bs.length:=by have:=h.1;simp at this;omega
theorem cT.len {w:World}{v:Sl}{bs:List UInt8}(h:cT w v bs):v.2.1=bs.length:=h.rd.len
theorem bO.ag {w w':World}{v:Sl}{bs:List UInt8}(h:bO w v bs)(f:Fr none1 w w'):bO w' v bs:=eW.ag h f
theorem bO.ao {w w':World}{v:Sl}{bs:List UInt8}(h:bO w v bs){S:Nat->Prop}(f:Fr S w w')(hn:∀ k,aH v k->¬ S k):bO w' v bs:=eW.ao h f hn
theorem cT.ag {w w':World}{v:Sl}{bs:List UInt8}(h:cT w v bs)(f:Fr none1 w w'):cT w' v bs:=aV.ag h f
theorem cT.ao {w w':World}{v:Sl}{bs:List UInt8}(h:cT w v bs){S:Nat->Prop}(f:Fr S w w')(hn:∀ k,aH v k->¬ S k):cT w' v bs:=aV.ao h f hn
theorem QC (bs:List UInt8):∀ v∈bs.map bc,cG v=true:=by
 intro v hv;obtain⟨x,_,rfl⟩:=List.mem_map.1 hv;rfl
theorem vS {w:World}{x y:Sl}{xs ys:List UInt8}(hx:cT w x xs)(hy:bO w y ys)(hl:xs.length+ys.length<=140737488355000):
  ∃ (v:Sl) (w':World),(Builtin.append_ #[22,22] 22 #[.slice x.1 x.2.1 x.2.2,.slice y.1 y.2.1 y.2.2]).run Tryz.prog w=.ok (.slice v.1 v.2.1 v.2.2) w'/\cT w' v (xs++ys)/\Fr (aH x) w w' /\
   (∀ k,aH v k->aH x k\/w.heap.size<=k):=by
 have e1:=hx.len;have e2:=hy.len;obtain⟨v,w',a,b,_,c,d⟩:=jf (P:=Tryz.prog) (s:=1) (xs:=xs.map bc) (ys:=ys.map bc) qu 22 hx hy (QC ys) (by rw[e1,e2];omega);exact⟨v,w',a,by unfold cT;rw[List.map_append];exact b,c,d⟩
theorem cT.cap {w:World}{v:Sl}{bs:List UInt8}(h:cT w v bs):v.2.1<=v.2.2:=by
 rcases h with⟨rfl,_⟩ | ⟨g,off,cs,h1,h2,h3,_⟩
 ·exact Nat.le_refl _
 ·exact h3
theorem bO.sub {w:World}{v:Sl}{bs:List UInt8}(h:bO w v bs){n:Int}(h0:0<=n)(h1:n<=v.2.1)(hc:v.2.1<=v.2.2){K:Option Addr->Nat->Nat->Prop}
  (k:bO w (v.1,n.toNat,v.2.2) (bs.take n.toNat)->K v.1 n.toNat v.2.2):gQ v.1 v.2.2 0 n v.2.2 1 K:=by
 refine eW.sub h h0 h1 hc λ t=>k ?_;unfold bO;rw[List.map_take];exact t
abbrev ad (g:Nat):Addr:=⟨g,0,none⟩
abbrev aB:=Option Addr×Nat×Nat
abbrev YU:List Ck:=[.int .i64,.bE,.ptr,.map]
abbrev QD:=Int×aB×Option Addr×Option Nat×Unit
abbrev YV (x:QD):List Value:=[.int .i64 x.1,.slice x.2.1.1 x.2.1.2.1 x.2.1.2.2,.pointer x.2.2.1,.map x.2.2.2.1]
abbrev BR:List Ck:=[.bool,.str,.str,.int .i64,.int .i64]
abbrev uP:=Bool×ByteArray×ByteArray×Int×Int×Unit
abbrev qv (x:uP):List Value:=[.bool x.1,.string x.2.1,.string x.2.2.1,.int .i64 x.2.2.2.1,.int .i64 x.2.2.2.2.1]
abbrev fO:List Ck:=[.int .i64,.str,.str,.str,.str,.int .i64,.int .i64,.raw]
abbrev di:=Int×ByteArray×ByteArray×ByteArray×ByteArray×Int×Int×Value×Unit
abbrev cO (x:di):List Value:=[.int .i64 x.1,.string x.2.1,.string x.2.2.1,.string x.2.2.2.1,.string x.2.2.2.2.1,.int .i64 x.2.2.2.2.2.1,.int .i64 x.2.2.2.2.2.2.1,x.2.2.2.2.2.2.2.1]
abbrev oU:List Ck:=[.int .i64,.str,.str,.str,.str,.int .i64,.int .i64,.raw,.bool]
abbrev mf:=Int×ByteArray×ByteArray×ByteArray×ByteArray×Int×Int×Value×Bool×Unit
abbrev kV (x:mf):List Value:=[.int .i64 x.1,.string x.2.1,.string x.2.2.1,.string x.2.2.2.1,.string x.2.2.2.2.1,.int .i64 x.2.2.2.2.2.1,.int .i64 x.2.2.2.2.2.2.1,x.2.2.2.2.2.2.2.1,.bool x.2.2.2.2.2.2.2.2.1]
abbrev iE:List Ck:=[.int .i64,.int .i64,.int .i64,.int .i64,.int .i64,.int .u64,.bool,.int .i64,.str,.str,.str,.str,.int .i64,.int .i64,.raw]
abbrev fY:=Int×Int×Int×Int×Int×Int×Bool×Int×ByteArray×ByteArray×ByteArray×ByteArray×Int×Int×Value×Unit
abbrev eZ (x:fY):List Value:=[.int .i64 x.1,.int .i64 x.2.1,.int .i64 x.2.2.1,.int .i64 x.2.2.2.1,.int .i64 x.2.2.2.2.1,.int .u64 x.2.2.2.2.2.1,.bool x.2.2.2.2.2.2.1,.int .i64 x.2.2.2.2.2.2.2.1,.string x.2.2.2.2.2.2.2.2.1,.string x.2.2.2.2.2.2.2.2.2.1,.string x.2.2.2.2.2.2.2.2.2.2.1,.string x.2.2.2.2.2.2.2.2.2.2.2.1,.int .i64 x.2.2.2.2.2.2.2.2.2.2.2.2.1,.int .i64 x.2.2.2.2.2.2.2.2.2.2.2.2.2.1,x.2.2.2.2.2.2.2.2.2.2.2.2.2.2.1]
abbrev dU:List Ck:=[.bool,.bool,.int .i64,.str,.str,.str,.str,.int .i64,.int .i64,.raw,.bool,.int .i64,.str,.str,.str,.str,.int .i64,.int .i64,.raw,.bool,.bool,.bool,.bool,.bE]
abbrev dC:=Bool×Bool×Int×ByteArray×ByteArray×ByteArray×ByteArray×Int×Int×Value×Bool×Int×ByteArray×ByteArray×ByteArray×ByteArray×Int×Int×Value×Bool×Bool×Bool×Bool×aB×Unit
abbrev dx (x:dC):List Value:=[.bool x.1,.bool x.2.1,.int .i64 x.2.2.1,.string x.2.2.2.1,.string x.2.2.2.2.1,.string x.2.2.2.2.2.1,.string x.2.2.2.2.2.2.1,.int .i64 x.2.2.2.2.2.2.2.1,.int .i64 x.2.2.2.2.2.2.2.2.1,x.2.2.2.2.2.2.2.2.2.1,.bool x.2.2.2.2.2.2.2.2.2.2.1,.int .i64 x.2.2.2.2.2.2.2.2.2.2.2.1,.string x.2.2.2.2.2.2.2.2.2.2.2.2.1,.string x.2.2.2.2.2.2.2.2.2.2.2.2.2.1,.string x.2.2.2.2.2.2.2.2.2.2.2.2.2.2.1,.string x.2.2.2.2.2.2.2.2.2.2.2.2.2.2.2.1,.int .i64 x.2.2.2.2.2.2.2.2.2.2.2.2.2.2.2.2.1,.int .i64 x.2.2.2.2.2.2.2.2.2.2.2.2.2.2.2.2.2.1,x.2.2.2.2.2.2.2.2.2.2.2.2.2.2.2.2.2.2.1,.bool x.2.2.2.2.2.2.2.2.2.2.2.2.2.2.2.2.2.2.2.1,.bool x.2.2.2.2.2.2.2.2.2.2.2.2.2.2.2.2.2.2.2.2.1,.bool x.2.2.2.2.2.2.2.2.2.2.2.2.2.2.2.2.2.2.2.2.2.1,.bool x.2.2.2.2.2.2.2.2.2.2.2.2.2.2.2.2.2.2.2.2.2.2.1,.slice x.2.2.2.2.2.2.2.2.2.2.2.2.2.2.2.2.2.2.2.2.2.2.2.1.1 x.2.2.2.2.2.2.2.2.2.2.2.2.2.2.2.2.2.2.2.2.2.2.2.1.2.1 x.2.2.2.2.2.2.2.2.2.2.2.2.2.2.2.2.2.2.2.2.2.2.2.1.2.2]
abbrev YW:List Ck:=[.int .u8,.int .u8,.int .u8,.int .u8,.int .u8,.int .u8,.int .u8,.int .u8,.int .u8,.int .u8,.int .u8,.int .u8,.int .u8,.int .u8,.int .u8,.int .u8,.int .i64,.ptr,.ptr,.int .i64,.str,.str,.str,.str,.int .i64,.int .i64,.raw,.bool,.int .i64,.str,.str,.str,.str,.int .i64,.int .i64,.raw,.bool,.bool,.bool,.int .i64]
abbrev QE:=Int×Int×Int×Int×Int×Int×Int×Int×Int×Int×Int×Int×Int×Int×Int×Int×Int×Option Addr×Option Addr×Int×ByteArray×ByteArray×ByteArray×ByteArray×Int×Int×Value×Bool×Int×ByteArray×ByteArray×ByteArray×ByteArray×Int×Int×Value×Bool×Bool×Bool×Int×Unit
abbrev YX (x:QE):List Value:=[.int .u8 x.1,.int .u8 x.2.1,.int .u8 x.2.2.1,.int .u8 x.2.2.2.1,.int .u8 x.2.2.2.2.1,.int .u8 x.2.2.2.2.2.1,.int .u8 x.2.2.2.2.2.2.1,.int .u8 x.2.2.2.2.2.2.2.1,.int .u8 x.2.2.2.2.2.2.2.2.1,.int .u8 x.2.2.2.2.2.2.2.2.2.1,.int .u8 x.2.2.2.2.2.2.2.2.2.2.1,.int .u8 x.2.2.2.2.2.2.2.2.2.2.2.1,.int .u8 x.2.2.2.2.2.2.2.2.2.2.2.2.1,.int .u8 x.2.2.2.2.2.2.2.2.2.2.2.2.2.1,.int .u8 x.2.2.2.2.2.2.2.2.2.2.2.2.2.2.1,.int .u8 x.2.2.2.2.2.2.2.2.2.2.2.2.2.2.2.1,.int .i64 x.2.2.2.2.2.2.2.2.2.2.2.2.2.2.2.2.1,.pointer x.2.2.2.2.2.2.2.2.2.2.2.2.2.2.2.2.2.1,.pointer x.2.2.2.2.2.2.2.2.2.2.2.2.2.2.2.2.2.2.1,.int .i64 x.2.2.2.2.2.2.2.2.2.2.2.2.2.2.2.2.2.2.2.1,.string x.2.2.2.2.2.2.2.2.2.2.2.2.2.2.2.2.2.2.2.2.1,.string x.2.2.2.2.2.2.2.2.2.2.2.2.2.2.2.2.2.2.2.2.2.1,.string x.2.2.2.2.2.2.2.2.2.2.2.2.2.2.2.2.2.2.2.2.2.2.1,.string x.2.2.2.2.2.2.2.2.2.2.2.2.2.2.2.2.2.2.2.2.2.2.2.1,.int .i64 x.2.2.2.2.2.2.2.2.2.2.2.2.2.2.2.2.2.2.2.2.2.2.2.2.1,.int .i64 x.2.2.2.2.2.2.2.2.2.2.2.2.2.2.2.2.2.2.2.2.2.2.2.2.2.1,x.2.2.2.2.2.2.2.2.2.2.2.2.2.2.2.2.2.2.2.2.2.2.2.2.2.2.1,.bool x.2.2.2.2.2.2.2.2.2.2.2.2.2.2.2.2.2.2.2.2.2.2.2.2.2.2.2.1,.int .i64 x.2.2.2.2.2.2.2.2.2.2.2.2.2.2.2.2.2.2.2.2.2.2.2.2.2.2.2.2.1,.string x.2.2.2.2.2.2.2.2.2.2.2.2.2.2.2.2.2.2.2.2.2.2.2.2.2.2.2.2.2.1,.string x.2.2.2.2.2.2.2.2.2.2.2.2.2.2.2.2.2.2.2.2.2.2.2.2.2.2.2.2.2.2.1,.string x.2.2.2.2.2.2.2.2.2.2.2.2.2.2.2.2.2.2.2.2.2.2.2.2.2.2.2.2.2.2.2.1,.string x.2.2.2.2.2.2.2.2.2.2.2.2.2.2.2.2.2.2.2.2.2.2.2.2.2.2.2.2.2.2.2.2.1,.int .i64 x.2.2.2.2.2.2.2.2.2.2.2.2.2.2.2.2.2.2.2.2.2.2.2.2.2.2.2.2.2.2.2.2.2.1,.int .i64 x.2.2.2.2.2.2.2.2.2.2.2.2.2.2.2.2.2.2.2.2.2.2.2.2.2.2.2.2.2.2.2.2.2.2.1,x.2.2.2.2.2.2.2.2.2.2.2.2.2.2.2.2.2.2.2.2.2.2.2.2.2.2.2.2.2.2.2.2.2.2.2.1,.bool x.2.2.2.2.2.2.2.2.2.2.2.2.2.2.2.2.2.2.2.2.2.2.2.2.2.2.2.2.2.2.2.2.2.2.2.2.1,.bool x.2.2.2.2.2.2.2.2.2.2.2.2.2.2.2.2.2.2.2.2.2.2.2.2.2.2.2.2.2.2.2.2.2.2.2.2.2.1,.bool x.2.2.2.2.2.2.2.2.2.2.2.2.2.2.2.2.2.2.2.2.2.2.2.2.2.2.2.2.2.2.2.2.2.2.2.2.2.2.1,.int .i64 x.2.2.2.2.2.2.2.2.2.2.2.2.2.2.2.2.2.2.2.2.2.2.2.2.2.2.2.2.2.2.2.2.2.2.2.2.2.2.2.1]
def toByte (z:Int):UInt8:=UInt8.ofNat z.toNat
theorem YY {z:Int}(h:(Lit.int .u8 z).wf=true):Value.int .u8 z=bc (toByte z):=by
 simp[Lit.wf,IntKind.min,IntKind.max,IntKind.signed,IntKind.bits] at h;unfold bc toByte;rw[UInt8.toNat_ofNat',Nat.mod_eq_of_lt ab]
 congr 1;omega
theorem QF {w:World}{x:Addr}:∀ (vs:List Value) (i:Nat),(∀ j,j<vs.length->w.cell? (x.add (i+j))=vs[j]?)->ma w x i vs
 | [],_,_=>trivial
 | v::vs,i,h=>⟨by have:=h 0 bm;simpa using this,QF vs (i+1) λ j hj=>by
   have:=h (j+1) (by simp;omega);rw[show i+(j+1)=i+1+j by omega] at this;simpa using this⟩
theorem YZ {w:World}{a:Option Addr}{len cap:Nat}{zs:List Int}(h:IsInts .u8 w a len cap zs):bO w (a,len,cap) ((zs.take len).map toByte)/\len<=cap:=by
 rcases h with⟨rfl,rfl,rfl,rfl⟩ | ⟨x,rfl,hl,hc,hz,hcell,hw⟩
 ·exact⟨⟨rfl,λ _=>⟨rfl,rfl,rfl⟩,λ a ha=>by cases ha⟩,Nat.le_refl _⟩
 ·refine⟨⟨by simp;omega,(λ t=>nomatch t),λ b hb=>?_⟩,hl⟩
  injection hb with hb;subst hb
  refine QF _ 0 λ j hj=>?_;simp at hj;rw[Nat.zero_add,hcell j ab,List.getElem?_map,List.getElem?_map,List.getElem?_take_of_lt ab,List.getD_eq_getElem?_getD,List.getElem?_eq_getElem ab];simp only[Option.map_some,Option.getD_some];rw[YY (hw _ (List.getElem_mem _))]
theorem K7 (w:World):cT w (none,0,0) []:=.inl ⟨rfl,rfl⟩
theorem bO.at {w:World}{v:Sl}{bs:List UInt8}(h:bO w v bs){K:Int->Prop}{i:Int}(h0:0<=i)(h1:i<v.2.1)(k:K ((bs.getD i.toNat 0).toNat:Int)):cz v.1 v.2.1 i 1 λ p=>af (.int .u8) p w K:=by
 have hl:=h.len;refine eW.ld h h0 h1 (x:=((bs.getD i.toNat 0).toNat:Int)) ?_ k;rw[List.getElem?_map,List.getElem?_eq_getElem ab,List.getD_eq_getElem?_getD,List.getElem?_eq_getElem ab];rfl
theorem K8 (m:Int):IntKind.u64.wrap m=m % 18446744073709551616:=by
 simp[IntKind.wrap,IntKind.signed,IntKind.bits]
theorem BS (m:Nat):IntKind.u64.wrap (m:Int)=((m % 18446744073709551616:Nat):Int):=by
 rw[K8];omega
theorem D6 (m:Nat):(BitVec.ofInt 64 (m:Int)).toNat=m % 18446744073709551616:=by
 rw[BitVec.toNat_ofInt];show((m:Int) % ((18446744073709551616:Nat):Int)).toNat=_;omega
theorem D7 (x k:Nat)(hk:k<64):IntKind.u64.wrap ((x:Int) * 2 ^ (min k 64))=((x * 2 ^ k % 18446744073709551616:Nat):Int):=by
 have e1:((x:Int) * 2 ^ (min k 64))=((x * 2 ^ k:Nat):Int):=by
  rw[Nat.min_eq_left ab];norm_cast
 rw[e1,BS]
theorem D8 (a b:Nat)(ha:a<18446744073709551616)(hb:b<18446744073709551616):IntKind.u64.wrap ((BitVec.ofInt 64 (a:Int) ||| BitVec.ofInt 64 (b:Int)).toNat:Int)=((a ||| b:Nat):Int):=by
 rw[BS,BitVec.toNat_or,D6,D6,Nat.mod_eq_of_lt ha,Nat.mod_eq_of_lt hb];have:=Nat.or_lt_two_pow (x:=a) (y:=b) (n:=64) ha hb;rw[Nat.mod_eq_of_lt this]
theorem Hw (x k:Nat)(hk:k<64):Int.fdiv (x:Int) (2 ^ (min k 64))=((x / 2 ^ k:Nat):Int):=by
 have e:(2:Int) ^ (min k 64)=((2 ^ k:Nat):Int):=by
  rw[Nat.min_eq_left ab];norm_cast
 rw[e,Int.fdiv_eq_ediv_of_nonneg _ (Int.natCast_nonneg _)];rfl
set_option maxRecDepth 100000
theorem aA {p:Prop}(h:p:=by kernel_rfl):p:=h
abbrev ah:=World
abbrev ay:=ByteArray
abbrev av:=Value
abbrev aP:=Value->World->Prop
abbrev aj:Value:=.string ⟨#[]⟩
abbrev aa (n:Int):Value:=.int .i64 n
abbrev aZ (b:Nat):Value:=.pointer (some ⟨b,0,none⟩)
abbrev aI (a:Addr):Value:=.pointer (some a)
abbrev aO (v:Option Addr×Nat×Nat):Value:=.slice v.1 v.2.1 v.2.2
abbrev au (f:FuncId)(a:Array Value)(w:World)(R:Value->World->Prop):Prop:=Ret Tryz.prog f a w R
abbrev ak (f:FuncId)(a:Array Value)(w:World)(k:Rk)(K:k.C->World->Prop):Prop:=an Tryz.prog f a w k K
abbrev aT (s:Sem Value)(w:World)(k:Rk)(K:k.C->World->Prop):Prop:=kT Tryz.prog s w k K
abbrev bz:=Nat->Prop
abbrev ai:=List UInt8
abbrev aS:=Option Addr
abbrev bN:Rk:=.v (.one (.int .i64))
abbrev gH:Rk:=.v (.one .ptr)
abbrev aM:Rk:=.v (.one .bE)
abbrev bK:Rk:=.v (.one .bool)
abbrev eu:Rk:=.v (.one .str)
abbrev nh:Rk:=.v (.one (.int .u64))
abbrev gR:Rk:=.bR []
abbrev uQ:Rk:=.bR [.one .ptr,.one (.int .i64)]
abbrev pI:Rk:=.bR [.one .bE,.one (.int .i64)]
theorem Y0:Tryz.prog.follows .mixedOrders=true:=by kernel_rfl
theorem aQ {f:FuncId}{fn:Func}{p:aN}{args:List Value}{w:World}{K:Value->World->Prop}{C:Prop}(hf:Tryz.prog.funcs[f]?=some fn)(e:KA Tryz.prog fn p args w K=C)(h:C):Ret Tryz.prog f args.toArray w K:=YN Y0 hf (e ▸ h)
abbrev D9:=@Array.getElem?_push_size
abbrev Hx:=@Array.getElem?_setIfInBounds_ne
abbrev vT:=@Array.length_toList
abbrev BT:=@Array.toList_push
abbrev Eb:=@Array.toList_setIfInBounds
abbrev dp:=@Bool.and_eq_true
abbrev xL:=@Bool.eq_iff_iff
abbrev BU:=@Bool.false_eq_true
abbrev xM:=@Bool.false_ne_true
abbrev lv:=@Bool.false_or
abbrev iF:=@Bool.true_and
abbrev vU:=@Classical.byContradiction
abbrev iG:=@Classical.not_not
abbrev kC:=@Int.le_refl
abbrev iH:=@Int.toNat_natCast
abbrev xN:=@List.all_eq_true
abbrev gI:=@List.append_assoc
abbrev dV:=@List.append_nil
abbrev kW:=@List.cons_append
abbrev zD:=@List.drop_eq_getElem_cons
abbrev tH:=@List.eq_nil_of_length_eq_zero
abbrev xO:=@List.ext_getElem?
abbrev BV:=@List.flatMap_append
abbrev ni:=@List.flatMap_cons
abbrev zE:=@List.flatMap_nil
abbrev vV:=@List.flatten_cons
abbrev sF:=@List.foldl_append
abbrev lO:=@List.foldl_cons
abbrev Ec:=@List.getD_cons_succ
abbrev xP:=@List.getD_cons_zero
abbrev dB:=@List.getD_eq_getElem?_getD
abbrev oV:=@List.getElem?_append_left
abbrev qw:=@List.getElem?_append_right
abbrev cV:=@List.getElem?_eq_getElem
abbrev BW:=@List.getElem?_eq_none
abbrev nj:=@List.getElem?_eq_some_iff
abbrev ig:=@List.getElem?_map
abbrev zF:=@List.getElem?_set
abbrev pJ:=@List.getElem?_toArray
abbrev nQ:=@List.getElem_mem
abbrev bU:=@List.length_append
abbrev cY:=@List.length_cons
abbrev kD:=@List.length_drop
abbrev Ed:=@List.length_filter_le
abbrev eI:=@List.length_map
abbrev kX:=@List.length_nil
abbrev xQ:=@List.length_pos_iff
abbrev fZ:=@List.length_singleton
abbrev ga:=@List.length_take
abbrev jG:=@List.map_append
abbrev BX:=@List.map_congr_left
abbrev gU:=@List.map_cons
abbrev gb:=@List.map_nil
abbrev vW:=@List.map_set
abbrev uR:=@List.map_take
abbrev kE:=@List.mem_append
abbrev tI:=@List.mem_cons
abbrev BY:=@List.mem_cons_of_mem
abbrev kF:=@List.mem_map
abbrev mI:=@List.mem_of_getElem?
abbrev nR:=@List.mem_singleton
abbrev iR:=@List.nil_append
abbrev Ee:=@List.set_append_right
abbrev oz:=@List.take_add_one
abbrev Ef:=@List.take_append_drop
abbrev Eg:=@List.take_append_of_le_length
abbrev qx:=@List.take_length
abbrev gV:=@List.take_of_length_le
abbrev zG:=@List.take_succ_eq_append_getElem
abbrev tJ:=@Nat.add_zero
abbrev eR:=@Nat.le_refl
abbrev ez:=@Nat.le_trans
abbrev nS:=@Nat.lt_of_lt_of_le
abbrev oA:=@Nat.mod_eq_of_lt
abbrev tK:=@Nat.mod_lt
abbrev jg:=@Nat.mul_one
abbrev zH:=@Nat.pow_le_pow_right
abbrev vX:=@Nat.pow_succ
abbrev HA:=@Nat.shiftLeft_add_eq_or_of_lt
abbrev BZ:=@Nat.shiftLeft_eq
abbrev eP:=@Nat.zero_add
abbrev fj:=@Nat.zero_le
abbrev uS:=@Option.map_some
abbrev B0:=@Option.toList_some
variable {w w':ah}{b g N fb fg c g1 j:Nat}{F S A:bz}{kb bs x:ai}{E:Int}{T:TypeId}
def C168 (p0:Int)(w:ah)(K:aP):Prop:=
 aT (Instr.makeSlice 22 (aa 8) (aa 8)) w aM (λ(x1:aB) w2=>cp (Int×Unit) (λ _ s3 w4 nT=>ae (decide (s3.1<(x1.2.1:Int)))
 (mb (IntKind.i64.wrap (56 - (IntKind.i64.wrap (8 * s3.1)))) (cz x1.1 x1.2.1 s3.1 1 (λ a6=>aK a6 (.int .u8 (IntKind.u8.wrap (Int.fdiv (IntKind.u64.wrap p0) (2 ^ (min (Int.toNat (IntKind.i64.wrap (56 - (IntKind.i64.wrap (8 * s3.1))))) 64))))) w4 (λ w7=>nT (IntKind.i64.wrap (s3.1+1),()) w7))))
 (K (aO x1) w4))
 (0,()) w2)
def pl168:aN:=(.seq .auto (.seq .auto (.seq (.seq .auto (.block (.loop [(8,.one (.int .i64))] .auto))) .auto)))
theorem c168 (p0 w K)(h:C168 p0 w K):au 168 #[aa p0] w K:=aQ Tryz.func168 (p:=pl168) aA h
def C166 (p0:aS)(bh bC:Nat)(w:ah)(K:aP):Prop:=
 ae ((bh:Int) != 8)
 (K (.tuple #[aa 0,.bool false]) w)
 (cp (Int×Int×Unit) (λ _ s1 w2 jh=>ae (decide (s1.2.1<(bh:Int)))
 (cz p0 bh s1.2.1 1 (λ a4=>af (.int .u8) a4 w2 (λ(x5:Int)=>mb 8 (jh (IntKind.u64.wrap ((BitVec.ofInt 64 (IntKind.u64.wrap (s1.1 * 2 ^ (min (Int.toNat 8) 64))) ||| BitVec.ofInt 64 (IntKind.u64.wrap x5)).toNat:Int),IntKind.i64.wrap (s1.2.1+1),()) w2))))
 (K (.tuple #[aa (IntKind.i64.wrap s1.1),.bool true]) w2))
 (0,0,()) w)
def pl166:aN:=(.seq .auto (.seq .auto (.seq .auto (.seq (.seq .auto (.block (.loop [(4,.one (.int .u64)),(12,.one (.int .i64))] .auto))) .auto))))
theorem c166 (p0 bh bC w K)(h:C166 p0 bh bC w K):au 166 #[.slice p0 bh bC] w K:=aQ Tryz.func166 (p:=pl166) aA h
def pK:Nat->Nat->ai
 | 0,_=>[]
 | k+1,m=>pK k (m / 256)++[UInt8.ofNat (m % 256)]
def iq (bs:ai):Nat:=bs.foldl (λ m b=>m * 256+b.toNat) 0
theorem K9 (bs:ai)(b:UInt8):iq (bs++[b])=iq bs * 256+b.toNat:=by unfold iq;rw[sF];rfl
theorem zI:∀ k m,(pK k m).length=k
 | 0,_=>rfl
 | k+1,m=>by unfold pK;rw[bU,zI k];rfl
theorem sG {n:Nat}(h:n<256):(UInt8.ofNat n).toNat=n:=by rw[UInt8.toNat_ofNat'];exact oA h
theorem QG:∀ k m,iq (pK k m)=m % 256 ^ k
 | 0,m=>by unfold pK iq;simp[Nat.mod_one]
 | k+1,m=>by
  unfold pK;rw[K9,QG k,sG (tK _ ar),vX];have h:=Nat.mod_mul (x:=m) (a:=256) (b:=256 ^ k);rw[Nat.mul_comm (256 ^ k) 256,h];omega
theorem Y1 {α:Type}{Q:List α->Prop}(h0:Q [])(h1:∀ l a,Q l->Q (l++[a])):∀ l,Q l:=λ l=>by
 have h:∀ r:List α,Q r.reverse:=λ r=>by
  induction r with
  | nil=>exact h0
  | cons a r ih=>rw[List.reverse_cons];exact h1 _ _ ih
 have:=h l.reverse;rwa[List.reverse_reverse] at this
theorem La:∀ bs:ai,iq bs<256 ^ bs.length:=by
 refine Y1 ar λ l a ih=>?_;rw[K9,bU,fZ,vX];have:=a.toNat_lt;omega
theorem QH:∀ (k m i:Nat),i<k->(pK k m)[i]? = some (UInt8.ofNat (m / 256 ^ (k - 1 - i) % 256))
 | 0,_,_,h=>by omega
 | k+1,m,i,h=>by
  unfold pK
  by_cases hi:i<k
  ·rw[oV (by rw[zI];exact hi),QH k _ i hi,Nat.div_div_eq_div_mul,<- Nat.pow_succ',show(k - 1 - i).succ=k+1 - 1 - i by omega]
  ·have:i=k:=ab
   subst this;rw[qw (by rw[zI];exact eR _),zI,Nat.sub_self];simp
def dj (n:Int):ai:=pK 8 (n % 18446744073709551616).toNat
theorem kG (n:Int):(dj n).length=8:=zI _ _
theorem Y2 (n:Int):iq (dj n)=(n % 18446744073709551616).toNat:=by
 unfold dj;rw[QG,show 256 ^ 8=18446744073709551616 by decide];omega
theorem Lb (m:Nat):IntKind.u8.wrap (m:Int)=((m % 256:Nat):Int):=by
 simp[IntKind.wrap,IntKind.signed,IntKind.bits]
theorem QI (n:Int)(w:ah):au 168 #[aa n] w λ r w'=>∃ u:Sl,r=.slice u.1 u.2.1 u.2.2/\cT w' u (dj n)/\Fr none1 w w'/\∀ k,aH u k->w.heap.size<=k:=by
 refine c168 n w _ ?_;obtain⟨x,w1,hr,hx,nU,hxc,f1,QJ⟩:=YR (P:=Tryz.prog) (w:=w) (k:=.i64) (k':=.i64) (n:=8) (m:=8) qu rfl ab ab ar;refine⟨x,w1,hr,?_⟩;have Eh:cT w1 x (List.replicate 8 0):=hx;obtain⟨M,hM⟩:∃ M:Nat,M=(n % 18446744073709551616).toNat:=⟨_,rfl⟩;have Y3:IntKind.u64.wrap n=(M:Int):=by rw[K8];omega
 have ah7:M<18446744073709551616:=ab;have nk:dj n=pK 8 M:=by rw[hM];rfl
 rw[nk];have ah8:x.2.1=8:=nU;refine cp.of (λ s w'=>∃ i:Nat,s.1=i/\i<=8/\cT w' x ((pK 8 M).take i++List.replicate (8 - i) 0)/\Fr (aH x) w1 w') (λ s _=>(8 - s.1).toNat) ⟨0,rfl,by omega,Eh,Fr.refl _ _⟩ ?_;rintro _ ⟨i',_⟩ w2 ⟨i,hi,Ei,hb,f2⟩;dsimp only at hi ⊢;subst hi;refine ae.dec (λ bI=>?_) (λ gk=>?_)
 ·have QK:i<8:=ab
  have e1:IntKind.i64.wrap (56 - IntKind.i64.wrap (8 * (i:Int)))=((8 * (7 - i):Nat):Int):=by
   rw[wI (x:=8 * (i:Int)) ab ab,wI ab ab];omega
  rw[e1];refine⟨by omega,?_⟩;rw[iH,Y3,Hw M (8 * (7 - i)) ab,Lb,show 2 ^ (8 * (7 - i))=256 ^ (7 - i) by rw[Nat.pow_mul]];have hv:Value.int .u8 ((M / 256 ^ (7 - i) % 256:Nat):Int)=bc (UInt8.ofNat (M / 256 ^ (7 - i) % 256)):=by
   unfold bc;rw[sG (tK _ ar)]
  rw[hv];refine aV.st hb ab bI rfl λ w3 bJ f3 _=>?_;refine⟨⟨i+1,by rw[wI ab ab];omega,by omega,?_,f2.trans f3⟩,by rw[wI ab ab];omega⟩;unfold cT;rw[<- vW,iH] at bJ;have hl:(((pK 8 M).take i++List.replicate (8 - i) 0).set i (UInt8.ofNat (M / 256 ^ (7 - i) % 256)))=(pK 8 M).take (i+1)++List.replicate (8 - (i+1)) 0:=by
   have hd:=QH 8 M i QK;have hlen:((pK 8 M).take i).length=i:=by rw[ga,zI];omega
   rw[Ee _ _ ab,hlen,Nat.sub_self,oz,hd,show 8 - i=(8 - (i+1))+1 by omega,List.replicate_succ];simp
  rw[hl] at bJ;exact bJ
 ·have:i=8:=ab
  subst this;rw[gV (by rw[zI];omega)] at hb;have jF:cT w2 x (pK 8 M):=by simpa using hb
  exact⟨x,rfl,jF,f1.comp f2 λ k hk t=>by have:=QJ k t;omega,QJ⟩
def jS (bs:ai):Int×Bool:=if bs.length=8 then(IntKind.i64.wrap (iq bs:Int),true) else(0,false)
theorem Y4 (m:Nat)(b:UInt8)(hm:m<72057594037927936):IntKind.u64.wrap ((BitVec.ofInt 64 (IntKind.u64.wrap ((m:Int) * 2 ^ (min (Int.toNat 8) 64))) ||| BitVec.ofInt 64 (IntKind.u64.wrap (b.toNat:Int))).toNat:Int)=((m * 256+b.toNat:Nat):Int):=by
 have hb:=b.toNat_lt;rw[show Int.toNat 8=8 from rfl,D7 m 8 ab,BS b.toNat,oA (show m * 2 ^ 8<18446744073709551616 by omega),oA (show b.toNat<18446744073709551616 by omega),D8 _ _ ab ab]
 congr 1
 rw[<- BZ,<- HA (show b.toNat<2 ^ 8 from hb),BZ]
theorem Lc (bs:ai)(i:Nat)(h:i<bs.length):iq (bs.take (i+1))=iq (bs.take i) * 256+(bs.getD i 0).toNat:=by
 rw[oz,cV h,dB,cV h];exact K9 _ _
theorem Y5 (bs:ai)(i:Nat)(h:i<=7):iq (bs.take i)<72057594037927936:=by
 have h1:=La (bs.take i);have h2:256 ^ (bs.take i).length<=256 ^ 7:=zH ar (by rw[ga];omega);have:(256:Nat) ^ 7=72057594037927936:=ar;omega
theorem HB {v:Sl}(h:bO w v bs):
  au 166 #[.slice v.1 v.2.1 v.2.2] w λ r w'=>r=.tuple #[aa (jS bs).1,.bool (jS bs).2]/\w=w':=by
 refine c166 v.1 v.2.1 v.2.2 w _ ?_;have dD:=h.len;unfold jS;refine ae.ne (λ aL=>?_) (λ heq=>?_)
 ·rw[if_neg ab];exact⟨rfl,rfl⟩
 rw[if_pos ab];refine cp.of (λ s w'=>∃ i:Nat,s.2.1=i/\i<=8/\s.1=(iq (bs.take i):Int)/\w=w') (λ s _=>(8 - s.2.1).toNat) ⟨0,rfl,by omega,rfl,rfl⟩ ?_;rintro _ ⟨m,i',_⟩ _ ⟨i,hi,Ei,hm,rfl⟩;dsimp only at hi hm ⊢;subst hi hm;refine ae.dec (λ bI=>?_) (λ gk=>?_)
 ·have QK:i<8:=ab
  refine bO.at h ab bI ?_;refine⟨by omega,?_⟩;rw[iH,Y4 _ _ (Y5 bs i ab),wI ab ab];refine⟨⟨i+1,by omega,by omega,?_,rfl⟩,by omega⟩;rw[Lc bs i ab]
 ·rw[gV ab];exact⟨rfl,rfl⟩
theorem HC (n:Int)(h0:-9223372036854775808<=n)(h1:n<=9223372036854775807):jS (dj n)=(n,true):=by
 unfold jS;rw[if_pos (kG n),Y2]
 congr 1
 simp[IntKind.wrap,IntKind.signed,IntKind.bits];split<;>omega
namespace Vc
variable {P:Program}
theorem B1 {es:Array MapEntry}(h:w.heap[g]? = some (.map es c)):(getObj g).run P w=.ok (.map es c) w:=by
 simp[getObj,Sem.run,h]
theorem B2 {es QL:Array MapEntry}{c':Nat}(h:w.heap[g]? = some (.map es c)):(setObj g (.map QL c')).run P w=.ok () { w with heap:=w.heap.setIfInBounds g (.map QL c') }:=by
 simp[setObj,Sem.run,h]
theorem B3 (w:ah)(g:Nat)(o:Obj):Fr (only g) w { w with heap:=w.heap.setIfInBounds g o }:=
 ⟨rfl,rfl,rfl,by simp,λ k _ hn=>by
  show(w.heap.setIfInBounds g o)[k]? = _;rw[Hx (λ e=>hn e.symm)]⟩
theorem heap_set {h:Array Obj}(hg:g<h.size)(o:Obj):(h.setIfInBounds g o)[g]? = some o:=by simp[hg]
end Vc
namespace Vc
variable {P:Program}
theorem Y6 {t:TypeId}(ht:P.underlying t=some .string)(b:Bool)(s:ay)(w:ah):(Instr.checkKey b 10000 t (.string s)).run P w=.ok () w:=by
 show(Instr.checkKey b (9999+1) t (.string s)).run P w=.ok () w;unfold Instr.checkKey;simp only[Sem.run_bind,under ht,Result.andThen_ok];rfl
theorem Y7 {a b:ay}(h:a≠b):(a==b)=false:=by
 cases hb:(a==b) with
 | false=>rfl
 | true=>
  exfalso;apply h
  cases a;cases b;have:(ByteArray.beq _ _)=true:=hb;unfold ByteArray.beq at this;simp at this;rw[this]
theorem QM (s:ay):∀ (es:List MapEntry) (i:Nat),(∀ e∈es,∃ s',e.key=.string s'/\s≠s')->Instr.findNow .string (.string s) es i=some none
 | [],_,_=>rfl
 | e::es,i,h=>by
  obtain⟨s',hk,aL⟩:=h e bm;have hs:Instr.sameNow .string (.string s) e.key=some false:=by rw[hk];exact congrArg some (Y7 aL)
  simp only[Instr.findNow,hs];exact QM s es (i+1) λ x hx=>h x (by simp[hx])
theorem HD {t k el:TypeId}{es:Array MapEntry}(hb:w.heap[g]? = some (.map es c))(s:ay)(v:av)(ht:P.underlying t=some (.map k el))(hk:P.underlying k=some .string)
  (hn:∀ e∈es.toList,∃ s',e.key=.string s'/\s≠s') {K:ah->Prop}
  (h:∀ w',w'.heap[g]? = some (.map (es.push { key:=.string s,val:=v,born:=c }) (c+1))->Fr (only g) w w'->w'.heap.size=w.heap.size->K w'):lL P (Instr.mapUpdate t (.map (some g)) (.string s) v) w K:=by
 have bI:=cQ hb;refine⟨_,?_,h _ (heap_set bI _) (B3 _ _ _) bm⟩;have hf:(Instr.findKey k (.string s) es.toList).run P w=.ok none w:=by
  unfold Instr.findKey;simp only[Sem.run_bind,under hk,Result.andThen_ok,QM s es.toList 0 hn];rfl
 unfold Instr.mapUpdate;simp only[Sem.run_bind,under ht,Result.andThen_ok,B1 hb,Y6 hk,hf,B2 hb]
structure pL (w:ah)(r m:Nat)(es:Array MapEntry)(c:Nat)(seen:Array Nat):Prop where
 it:w.heap[r]? = some (.mapIter (some m) c seen c)
 map:w.heap[m]? = some (.map es c)
 Ld:∀ x∈es.toList,x.born<c
 nodup:(es.toList.map (·.born)).Nodup
theorem pL.ao {r m:Nat}{es:Array MapEntry}{seen:Array Nat}(h:pL w r m es c seen){S:bz}(f:Fr S w w')(h1:¬ S r)(h2:¬ S m):pL w' r m es c seen:=
 ⟨f.ao h.it h1,f.ao h.map h2,h.Ld,h.nodup⟩
theorem pL.ag {r m:Nat}{es:Array MapEntry}{seen:Array Nat}(h:pL w r m es c seen)(f:Fr none1 w w'):pL w' r m es c seen:=h.ao f (λ t=>t) (λ t=>t)
def B4 (w:ah)(r m:Nat):Nat:=match w.heap[r]?,w.heap[m]? with
 | some (.mapIter _ _ seen _),some (.map es _)=>(leftOf es seen).size
 | _,_=>0
theorem pL.left {r m:Nat}{es:Array MapEntry}{seen:Array Nat}(h:pL w r m es c seen):B4 w r m=(leftOf es seen).size:=by
 unfold B4;rw[h.it,h.map]
theorem Y8 {t k el:TypeId}{m:Nat}{es:Array MapEntry}(ht:P.underlying t=some (.map k el))(hb:w.heap[m]? = some (.map es c))(ho:∀ x∈es.toList,x.born<c)(hn:(es.toList.map (·.born)).Nodup){K:aS->ah->Prop}
  (h:∀ r w1,r=w.heap.size->pL w1 r m es c #[]->Fr none1 w w1->K (some ⟨r,0,none⟩) w1):kT P (Instr.range t (.map (some m))) w gH K:=by
 refine⟨some ⟨w.heap.size,0,none⟩,{ w with heap:=w.heap.push (.mapIter (some m) c #[] c) },?_,h _ _ rfl ⟨by simp,(pG w _).ag hb,ho,hn⟩ (pG w _)⟩
 simp[Instr.range,under ht,B1 hb,newObj,Sem.run];rfl
theorem QN {ty:TypeId}{r m:Nat}{es:Array MapEntry}{seen:Array Nat}(h:pL w r m es c seen){yes:av->aP}{no:ah->Prop}(Ej:r≠m)
  (hy:∀ e,e∈es.toList->seen.contains e.born=false->∀ w1,pL w1 r m es c (seen.push e.born)->Fr (only r) w w1->B4 w1 r m<B4 w r m ->
   (∀ {K:av×av×Unit->ah->Prop},K (e.key,e.val,()) w1->kT P (Instr.entry (aZ r)) w1 (.bR [.one .raw,.one .raw]) K)->yes e.key e.val w1)
  (hn:(∀ e∈es.toList,seen.contains e.born=true)->no w):GY P (aZ r) ty w yes no:=by
 rcases run_next_at (P:=P) w ty r m c c seen es c h.it h.map h.Ld (eR _) with⟨h0,hr⟩ | ⟨e,he,w1,xF,hr⟩
 ·refine⟨.inr ⟨w,hr,hn λ e he=>?_⟩⟩
  cases hc:seen.contains e.born with
  | true=>rfl
  | false=>
   have:e∈leftOf es seen:=Array.mem_filter.2 ⟨Array.mem_toList_iff.1 he,by rw[hc];rfl⟩;have:=Array.size_pos_of_mem this;omega
 ·obtain⟨h1,h2⟩:=mem_left he
  have hh:w1.heap=w.heap:=by rcases xF with rfl | rfl<;>rfl
  have bI:=cQ h.it;obtain⟨w2,zo⟩:∃ w2,w2=Go.ChangeMaps.setBlock w1 r (.mapIter (some m) c (seen.push e.born) c):=⟨_,rfl⟩;rw[<- zo] at hr;have Le:w2.heap=w.heap.setIfInBounds r (.mapIter (some m) c (seen.push e.born) c):=by rw[zo];show w1.heap.setIfInBounds r _=_;rw[hh]
  have hf:Fr (only r) w w2:=by
   refine⟨?_,?_,?_,by rw[Le];simp,λ k _ hk=>?_⟩
   ·rw[zo];show w1.os=w.os;rcases xF with rfl | rfl<;>rfl
   ·rw[zo];show w1.tape=w.tape;rcases xF with rfl | rfl<;>rfl
   ·rw[zo];show w1.output=w.output;rcases xF with rfl | rfl<;>rfl
   ·rw[Le,Hx (λ t=>hk t.symm)]
  have hit:w2.heap[r]? = some (.mapIter (some m) c (seen.push e.born) c):=by rw[Le];exact heap_set bI _
  have QO:w2.heap[m]? = some (.map es c):=hf.me h.map (λ t=>Ej t.symm);have hM:pL w2 r m es c (seen.push e.born):=⟨hit,QO,h.Ld,h.nodup⟩;refine⟨.inl ⟨e.key,e.val,w2,hr,hy e h1 h2 w2 hM hf ?_ ?_⟩⟩
  ·rw[hM.left,h.left];exact left_shrinks es seen e he
  ·intro K hK
   exact⟨(e.key,e.val,()),w2,run_entry_at w2 r m c seen es c e hit QO h1 h.nodup,hK⟩
end Vc
def str (bs:ai):ay:=⟨bs.toArray⟩
theorem fS (bs:ai):(str bs).size=bs.length:=by unfold str;simp[ByteArray.size]
theorem nn (bs:ai):(str bs).data.toList=bs:=by unfold str;simp
theorem QP (s:ay):str s.data.toList=s:=by unfold str;cases s;simp
theorem Ek (a b:ai):str a++str b=str (a++b):=by
 apply ByteArray.ext;simp[str]
theorem str_inj {a b:ai}(h:str a=str b):a=b:=by
 have:=congrArg (λ s=>s.data.toList) h;simpa[nn] using this
theorem El (s:ay):s.data.toList.length=s.size:=vT
theorem Y9:str []=ByteArray.empty:=rfl
theorem bytes_beq (x y:ay):(x.toList==y.toList)=decide (x=y):=by
 rw[ByteArray.toList_eq,ByteArray.toList_eq]
 by_cases h:x=y
 ·subst h;simp
 ·rw[decide_eq_false h]
  have:x.data.toList≠y.data.toList:=λ t=>h (by cases x;cases y;simpa using t);simpa using this
theorem ly (x y:ai):((str x).toList==(str y).toList)=decide (x=y):=by
 rw[bytes_beq];exact decide_eq_decide.2 ⟨str_inj,λ h=>by rw[h]⟩
theorem zJ (s:ay)(k:Nat):s.get! k=s.data.toList.getD k 0:=by
 cases s with
 | mk d=>
  show d[k]! = d.toList.getD k 0
  by_cases h:k<d.size
  ·rw[getElem!_pos d k h];simp[List.getD,h]
  ·rw[getElem!_neg d k h];simp[List.getD,h];rfl
theorem Za {s t:ay}{i:Nat}(hg:∀ k,s.get! (i+k)=t.get! (j+k))(hs:∀ k,(i+k<s.size)=(j+k<t.size)):Utf8.decode s i=Utf8.decode t j:=by
 simp only[Utf8.decode,hg,hs]
def jT (l:ai):Nat×Nat:=Utf8.decode (str l) 0
theorem Lf (s:ay)(pos:Nat):Utf8.decode s pos=jT (s.data.toList.drop pos):=by
 unfold jT;refine Za (λ k=>?_) (λ k=>propext ?_)
 ·rw[zJ,zJ,nn]
  simp[List.getD,List.getElem?_drop]
 ·rw[fS,kD,vT]
  show pos+k<s.data.size↔_;omega
theorem B5 (l:ai):1<=(jT l).2:=by
 simp only[jT,Utf8.decode]
 repeat' split
 all_goals simp
def qy:Nat->ai->List Int
 | 0,_=>[]
 | f+1,l=>if l=[] then[] else((jT l).1:Int)::qy f (l.drop (jT l).2)
def dL (l:ai):List Int:=qy l.length l
theorem B6:∀ n,qy n []=[]
 | 0=>rfl
 | _+1=>by simp[qy]
theorem QQ:∀ (n m:Nat) (l:ai),l.length<=n->l.length<=m->qy n l=qy m l
 | 0,m,l,hn,_=>by
  have:l=[]:=tH ab;subst this;rw[B6,B6]
 | n+1,0,l,_,hm=>by
  have:l=[]:=tH ab;subst this;rw[B6,B6]
 | n+1,m+1,l,hn,hm=>by
  by_cases aL:l=[]
  ·subst aL
   rw[B6,B6]
  ·have hw:=B5 l
   have hl:0<l.length:=xQ.2 aL;simp only[qy,if_neg aL];rw[QQ n m _ (by rw[kD];omega) (by rw[kD];omega)]
theorem Zb:dL []=[]:=rfl
theorem Em (l:ai)(aL:l≠[]):dL l=((jT l).1:Int)::dL (l.drop (jT l).2):=by
 have hw:=B5 l;have hl:0<l.length:=xQ.2 aL;unfold dL;obtain⟨n,hn⟩:∃ n,l.length=n+1:=⟨l.length - 1,by omega⟩;rw[hn];simp only[qy,if_neg aL];rw[QQ n _ _ (by rw[kD];omega) (eR _)]
def mJ (r:Int):Prop:=(0<=r/\r<55296)\/(57344<=r/\r<=1114111)
theorem QR {r:Int}(h:mJ r):Utf8.valid r=true:=by
 unfold mJ at h;unfold Utf8.valid;simpa using h
theorem Lg (l:ai):mJ ((jT l).1:Int):=by
 have hb:∀ k,((str l).get! (0+k)).toNat<256:=λ k=>((str l).get! (0+k)).toNat_lt;have h0:=hb 0;unfold mJ;simp only[jT,Utf8.decode]
 repeat' split
 all_goals simp_all [Utf8.runeError,Utf8.valid]
 all_goals omega
theorem QS:∀ (n:Nat) (l:ai),∀ c∈qy n l,mJ c
 | 0,l,c,hc=>by simp[qy] at hc
 | n+1,l,c,hc=>by
  unfold qy at hc;split at hc
  ·simp at hc
  ·rcases tI.1 hc with h | h
   ·rw[h];exact Lg l
   ·exact QS n _ c h
theorem Zc (l:ai):∀ c∈dL l,mJ c:=QS _ _
theorem QT:∀ (n:Nat) (l:ai),(qy n l).length<=l.length
 | 0,l=>by simp[qy]
 | n+1,l=>by
  unfold qy;split
  ·simp
  ·rename_i aL
   have hw:=B5 l;have:=QT n (l.drop (jT l).2);rw[kD] at this;have hl:0<l.length:=xQ.2 aL;simp only[cY];omega
theorem Lh (l:ai):(dL l).length<=l.length:=QT _ _
def enc (r:Int):ai:=(Utf8.encode r).data.toList
def gm (rs:List Int):ai:=rs.flatMap enc
theorem xR (r:Int)(rs:List Int):gm (r::rs)=enc r++gm rs:=by unfold gm;rw[ni]
theorem QU (a b:List Int):gm (a++b)=gm a++gm b:=by unfold gm;rw[BV]
theorem Zd (r:Int):gm [r]=enc r:=by unfold gm;simp
theorem Ze:gm []=[]:=rfl
theorem qz {n:Nat}(h:n<256):(UInt8.ofNat n).toNat=n:=by
 rw[UInt8.toNat_ofNat'];exact oA h
theorem Li (n:Nat)(h:mJ (n:Int)):enc (n:Int)=if n<128 then[UInt8.ofNat n] else if n<2048 then[UInt8.ofNat (192+n / 64),UInt8.ofNat (128+n % 64)] else
  if n<65536 then[UInt8.ofNat (224+n / 4096),UInt8.ofNat (128+n / 64 % 64),UInt8.ofNat (128+n % 64)] else[UInt8.ofNat (240+n / 262144),UInt8.ofNat (128+n / 4096 % 64),UInt8.ofNat (128+n / 64 % 64),UInt8.ofNat (128+n % 64)]:=by
 unfold enc Utf8.encode;simp only[QR h,if_true,iH];split
 ·rfl
 split
 ·rfl
 split<;>rfl
theorem Zf (r:Int)(h:mJ r)(t:ai):jT (enc r++t)=(r.toNat,(enc r).length):=by
 obtain⟨n,rfl⟩:∃ n:Nat,r=n:=⟨r.toNat,by unfold mJ at h;omega⟩;have hv:=QR h;rw[iH,Li n h];unfold mJ at h;split
 ·simp only[jT,Utf8.decode,zJ,nn,fS,kW,iR,xP,cY,kX,tJ]
  rw[qz ab,if_pos ab]
 split
 ·simp only[jT,Utf8.decode,zJ,nn,fS,kW,iR,xP,Ec,cY,kX,tJ,eP]
  rw[qz (n:=192+n / 64) ab,qz (n:=128+n % 64) ab];have e:(192+n / 64) % 32 * 64+(128+n % 64) % 64=n:=ab;rw[e,if_neg ab,if_pos (by simp;omega),if_pos ab]
 split
 ·simp only[jT,Utf8.decode,zJ,nn,fS,kW,iR,xP,Ec,cY,kX,tJ,eP]
  rw[qz (n:=224+n / 4096) ab,qz (n:=128+n / 64 % 64) ab,qz (n:=128+n % 64) ab];have e:(224+n / 4096) % 16 * 4096+(128+n / 64 % 64) % 64 * 64+(128+n % 64) % 64=n:=ab;rw[e,if_neg ab,if_neg (by simp;omega),if_pos (by simp;omega),if_pos (by rw[hv];simp;omega)]
 ·simp only[jT,Utf8.decode,zJ,nn,fS,kW,iR,xP,Ec,cY,kX,tJ,eP]
  rw[qz (n:=240+n / 262144) ab,qz (n:=128+n / 4096 % 64) ab,qz (n:=128+n / 64 % 64) ab,qz (n:=128+n % 64) ab];have e:(240+n / 262144) % 8 * 262144+(128+n / 4096 % 64) % 64 * 4096+(128+n / 64 % 64) % 64 * 64+(128+n % 64) % 64=n:=ab;rw[e,if_neg ab,if_neg (by simp;omega),if_neg (by simp;omega),if_pos (by simp;omega),if_pos (by rw[hv];simp;omega)]
theorem Zg (r:Int):1<=(Utf8.encode r).size:=by
 unfold Utf8.encode;dsimp only;generalize(if Utf8.valid r=true then r.toNat else Utf8.runeError)=c;split
 ·exact eR 1
 split
 ·exact Nat.le_succ 1
 split
 ·exact Nat.succ_le_of_lt (Nat.succ_pos 2)
 ·exact Nat.succ_le_of_lt (Nat.succ_pos 3)
theorem QV (r:Int):enc r≠[]:=by
 intro h;have:=Zg r;have h2:(Utf8.encode r).size=(enc r).length:=by unfold enc;rw[vT];rfl
 rw[h2,h] at this;simp at this
theorem QW (r:Int):1<=(enc r).length/\(enc r).length<=4:=by
 constructor
 ·exact xQ.2 (QV r)
 ·have:=encode_size_le r
  have h2:(Utf8.encode r).size=(enc r).length:=by unfold enc;rw[vT];rfl
  omega
theorem Zh (r:Int)(h:mJ r)(t:ai):dL (enc r++t)=r::dL t:=by
 rw[Em _ (by have:=QV r;simp[this]),Zf r h,List.drop_left];have:0<=r:=by unfold mJ at h;omega
 congr 1
 omega
theorem QX:∀ (rs:List Int) (t:ai),(∀ r∈rs,mJ r)->dL (gm rs++t)=rs++dL t
 | [],t,_=>rfl
 | r::rs,t,h=>by
  rw[xR,gI,Zh r (h r bm),QX rs t (λ c hc=>h c (by simp[hc]))];rfl
theorem Zi (rs:List Int)(h:∀ r∈rs,mJ r):dL (gm rs)=rs:=by
 have:=QX rs [] h;rwa[dV,Zb,dV] at this
theorem Zj (rs:List Int):rs.length<=(gm rs).length/\(gm rs).length<=4 * rs.length:=by
 induction rs with
 | nil=>simp[gm]
 | cons r rs ih=>
  have:=QW r;rw[xR,bU,cY];omega
theorem Lj (r:Int):Utf8.encode r=str (enc r):=by unfold enc;rw[QP]
theorem Zk (ns:List Int):runesBytes ns=str (gm ns):=by
 have key:∀ (ns:List Int) (a:ai),ns.foldl (λ r n=>r++Utf8.encode n) (str a)=str (a++gm ns):=by
  intro ns
  induction ns with
  | nil=>intro a;simp[gm]
  | cons n ns ih=>
   intro a;rw[lO,Lj,Ek,ih,xR,gI]
 unfold runesBytes;rw[<- Y9,key,iR]
def mg (w:ah)(r:Nat)(rs:List Int):Prop:=∃ s pos,w.heap[r]? = some (.stringIter s pos)/\dL (s.data.toList.drop pos)=rs
theorem mg.ao {r:Nat}{rs:List Int}(h:mg w r rs){S:bz}(f:Fr S w w')(hn:¬ S r):mg w' r rs:=by
 obtain⟨s,pos,a,b⟩:=h;exact⟨s,pos,f.ao a hn,b⟩
theorem mg.ag {r:Nat}{rs:List Int}(h:mg w r rs)(f:Fr none1 w w'):mg w' r rs:=h.ao f (λ t=>t)
theorem mg.lt {r:Nat}{rs:List Int}(h:mg w r rs):r<w.heap.size:=by
 obtain⟨s,pos,a,b⟩:=h;exact cQ a
theorem Zl {t:TypeId}(ht:Tryz.prog.underlying t=some .string)(s:ay){K:aS->ah->Prop}
  (hK:∀ r w1,r=w.heap.size->mg w1 r (dL s.data.toList)->Fr none1 w w1->K (some ⟨r,0,none⟩) w1):aT (Instr.range t (.string s)) w gH K:=by
 refine⟨some ⟨w.heap.size,0,none⟩,{ w with heap:=w.heap.push (.stringIter s 0) },?_,hK _ _ rfl ⟨s,0,D9 ..,by rw[List.drop_zero]⟩ (pG _ _)⟩
 unfold Instr.range;simp only[Sem.run_bind,under ht,Result.andThen_ok,Sem.run_pure,run_newObj];rfl
theorem HE {r:Nat}{rs:List Int}(h:mg w r rs){yes:Int->Int->ah->Prop}{no:Prop}
  (hy:∀ c rest pos w1,rs=c::rest->mJ c->mg w1 r rest->Fr (only r) w w1->yes pos c w1) (hn:rs=[]->no):Bt (some ⟨r,0,none⟩) w yes no:=by
 obtain⟨s,pos,hb,rfl⟩:=h;refine⟨r,s,pos,rfl,hb,?_⟩;have hsz:s.size=s.data.toList.length:=by rw[vT];rfl
 split
 ·rename_i bI
  have aL:s.data.toList.drop pos≠[]:=λ t=>by
   have:=congrArg List.length t;rw[kD,kX] at this;omega
  have dH:=Em _ aL;rw[<- Lf,List.drop_drop] at dH;refine hy _ _ _ _ dH ?_ ⟨s,_,?_,rfl⟩ ?_
  ·have:=Lg (s.data.toList.drop pos)
   rwa[<- Lf] at this
  ·have:=cQ hb
   exact Array.getElem?_setIfInBounds_self_of_lt this
  ·refine⟨rfl,rfl,rfl,by simp,λ k hk hn=>?_⟩
   have:r≠k:=λ e=>hn e.symm;exact Hx this
 ·rename_i gk
  refine hn ?_;rw[List.drop_of_length_le ab];rfl
def C223 (p0:Int)(w:ah)(K:aP):Prop:=
 ae (decide (p0 >= 48))
 (K (.bool (decide (p0<=57))) w)
 (K (.bool false) w)
def pl223:aN:=.auto
theorem c223 (p0 w K)(h:C223 p0 w K):au 223 #[.int .i32 p0] w K:=aQ Tryz.func223 (p:=pl223) aA h
def C222 (p0:Int)(w:ah)(K:aP):Prop:=
 ae (decide (p0 >= 97))
 (ae (decide (p0<=122))
 (K (.bool true) w)
 (ak 223 #[.int .i32 p0] w bK (λ(x1:Bool) w2=>ae x1
 (K (.bool true) w2)
 (ae (p0==95)
 (K (.bool true) w2)
 (ae (decide (p0 >= 128))
 (K (.bool (p0 != 65533)) w2)
 (K (.bool false) w2))))))
 (ak 223 #[.int .i32 p0] w bK (λ(x3:Bool) w4=>ae x3
 (K (.bool true) w4)
 (ae (p0==95)
 (K (.bool true) w4)
 (ae (decide (p0 >= 128))
 (K (.bool (p0 != 65533)) w4)
 (K (.bool false) w4)))))
def pl222:aN:=.auto
theorem c222 (p0 w K)(h:C222 p0 w K):au 222 #[.int .i32 p0] w K:=aQ Tryz.func222 (p:=pl222) aA h
def C194 (p0:ay)(w:ah)(K:aP):Prop:=
 aT (Instr.range 9 (.string p0)) w gH (λ(x1:aS) w2=>cp (Int×Unit) (λ _ s3 w4 nT=>Bt x1 w4 (λ x6 x7 w8=>ak 222 #[.int .i32 x7] w8 bK (λ(x9:Bool) aX=>ae (!x9)
 (K (.bool false) aX)
 (ae ((IntKind.i64.wrap (s3.1+1))==1)
 (ak 223 #[.int .i32 x7] aX bK (λ(bQ:Bool) br=>ae bQ
 (K (.bool false) br)
 (ae (decide ((IntKind.i64.wrap (s3.1+1)) > 12))
 (K (.bool false) br)
 (nT (IntKind.i64.wrap (s3.1+1),()) br))))
 (ae (decide ((IntKind.i64.wrap (s3.1+1)) > 12))
 (K (.bool false) aX)
 (nT (IntKind.i64.wrap (s3.1+1),()) aX)))))
 (K (.bool (decide (s3.1 > 0))) w4))
 (0,()) w2)
def pl194:aN:=(.seq .auto (.seq .auto (.seq (.seq .auto (.block (.loop [(3,.one (.int .i64))] .auto))) .auto)))
theorem c194 (p0 w K)(h:C194 p0 w K):au 194 #[.string p0] w K:=aQ Tryz.func194 (p:=pl194) aA h
def C277 (p0:Int)(w:ah)(K:aP):Prop:=
 ak 222 #[.int .i32 p0] w bK (λ(x1:Bool) w2=>ae x1
 (K (.int .u8 97) w2)
 (ae (p0==45)
 (K (.int .u8 97) w2)
 (ae (p0==40)
 (K (.int .u8 40) w2)
 (ae (p0==41)
 (K (.int .u8 40) w2)
 (ae (p0==44)
 (K (.int .u8 40) w2)
 (ae (p0==32)
 (K (.int .u8 32) w2)
 (K (.int .u8 0) w2)))))))
def pl277:aN:=.auto
theorem c277 (p0 w K)(h:C277 p0 w K):au 277 #[.int .i32 p0] w K:=aQ Tryz.func277 (p:=pl277) aA h
def C256 (p0:ay)(w:ah)(K:aP):Prop:=
 aT (Instr.range 9 (.string p0)) w gH (λ(x1:aS) w2=>cp (aB×Int×Bool×Unit) (λ _ s3 w4 nT=>Bt x1 w4 (λ x6 x7 w8=>ak 277 #[.int .i32 x7] w8 (.v (.one (.int .u8))) (λ(x9:Int) aX=>ae (x9==0)
 (K (.tuple #[.slice none 0 0,aa (IntKind.i64.wrap (s3.2.1+1))]) aX)
 (dc (Bool×Unit) (λ En=>ae (x9==97)
 (En (s3.2.2.1,()) aX)
 (En (false,()) aX))
 (λ _ gd bM=>ae gd.1
 (cz s3.1.1 s3.1.2.1 (IntKind.i64.wrap ((s3.1.2.1:Int) - 1)) 2 (λ zK=>af .str (zK.add 0) bM (λ(cm:ay)=>Bs cm (Utf8.encode x7) (cz s3.1.1 s3.1.2.1 (IntKind.i64.wrap ((s3.1.2.1:Int) - 1)) 2 (λ zL=>aK (zL.add 0) (.string (cm++(Utf8.encode x7))) bM (λ da=>nT ((s3.1.1,s3.1.2.1,s3.1.2.2),IntKind.i64.wrap (s3.2.1+1),(x9==97),()) da))))))
 (ae (x9 != 32)
 (aT (Instr.buildSlice 380 1 #[(0,.agg #[.string (Utf8.encode x7),aa (IntKind.i64.wrap (s3.2.1+1))])]) bM aM (λ(cF:aB) ct=>aT (Builtin.append_ #[380,380] 380 #[.slice s3.1.1 s3.1.2.1 s3.1.2.2,aO cF]) ct aM (λ(dE:aB) cr=>nT ((dE.1,dE.2.1,dE.2.2),IntKind.i64.wrap (s3.2.1+1),(x9==97),()) cr)))
 (nT ((s3.1.1,s3.1.2.1,s3.1.2.2),IntKind.i64.wrap (s3.2.1+1),(x9==97),()) bM))))))
 (K (.tuple #[.slice s3.1.1 s3.1.2.1 s3.1.2.2,aa 0]) w4))
 ((none,0,0),0,false,()) w2)
def pl256:aN:=(.seq .auto (.seq .auto (.seq (.seq .auto (.block (.loop [(2,.one .bE),(4,.one (.int .i64)),(5,.one .bool)] (.seq .auto (.seq .auto (.block (.seq .auto (.seq .auto (.seq .auto (.seq .auto (.seq (.block (.join [(21,.one .bool)] .auto .auto)) .auto))))))))))) .auto)))
theorem c256 (p0 w K)(h:C256 p0 w K):au 256 #[.string p0] w K:=aQ Tryz.func256 (p:=pl256) aA h
def zM (r:Int):Bool:=decide (48<=r)&&decide (r<=57)
def isLet (r:Int):Bool:=(decide (97<=r)&&decide (r<=122))||zM r||r==95||(decide (128<=r)&&r != 65533)
theorem QY (r:Int)(w:ah):au 223 #[.int .i32 r] w λ v w'=>v=.bool (zM r)/\w=w':=by
 refine c223 r w _ ?_;unfold zM;refine ae.dec (λ h=>?_) (λ h=>?_)
 ·rw[decide_eq_true (p:=48<=r) ab];exact⟨rfl,rfl⟩
 ·rw[decide_eq_false (p:=48<=r) ab];exact⟨rfl,rfl⟩
theorem QZ (r:Int)(w:ah):au 222 #[.int .i32 r] w λ v w'=>v=.bool (isLet r)/\w=w':=by
 refine c222 r w _ ?_;have tail:(decide (97<=r)&&decide (r<=122))=false->ak 223 #[.int .i32 r] w bK (λ(x1:Bool) w2=>ae x1
   ((.bool true:av)=.bool (isLet r)/\w=w2) (ae (r==95) ((.bool true:av)=.bool (isLet r)/\w=w2) (ae (decide (r >= 128)) ((.bool (r != 65533):av)=.bool (isLet r)/\w=w2) ((.bool false:av)=.bool (isLet r)/\w=w2)))):=λ h=>by
  refine an.of (QY r w) ?_;rintro _ _ ⟨rfl,rfl⟩;refine⟨_,rfl,?_⟩;unfold isLet;rw[h,lv];refine ae.by (λ h1=>?_) (λ h1=>?_)
  ·rw[h1];exact⟨rfl,rfl⟩
  rw[h1,lv];refine ae.by (λ h2=>?_) (λ h2=>?_)
  ·rw[h2];exact⟨rfl,rfl⟩
  rw[h2,lv];refine ae.dec (λ h3=>?_) (λ h3=>?_)
  ·rw[decide_eq_true (p:=128<=r) ab];exact⟨by rw[iF],rfl⟩
  ·rw[decide_eq_false (p:=128<=r) ab];exact⟨rfl,rfl⟩
 refine ae.dec (λ h=>?_) (λ h=>?_)
 ·refine ae.dec (λ h2=>?_) (λ h2=>?_)
  ·unfold isLet
   rw[decide_eq_true (p:=97<=r) ab,decide_eq_true (p:=r<=122) ab];exact⟨rfl,rfl⟩
  ·exact tail (by rw[decide_eq_false (p:=r<=122) ab,Bool.and_false])
 ·exact tail (by rw[decide_eq_false (p:=97<=r) ab,Bool.false_and])
def qA (w:ah)(r:Nat):Nat:=match w.heap[r]? with
 | some (.stringIter s pos)=>(dL (s.data.toList.drop pos)).length
 | _=>0
theorem mg.left {r:Nat}{rs:List Int}(h:mg w r rs):qA w r=rs.length:=by
 obtain⟨s,pos,a,b⟩:=h;unfold qA;rw[a,<- b]
theorem HF (bs:ai){K:aS->ah->Prop}
  (hK:∀ r w1,r=w.heap.size->mg w1 r (dL bs)->Fr none1 w w1->K (some ⟨r,0,none⟩) w1):aT (Instr.range 9 (.string (str bs))) w gH K:=by
 refine Zl Tryz.underlying9 (str bs) ?_;rw[nn];exact hK
def np (n:Nat):List Int->Bool
 | []=>decide (0<n)
 | r::rs=>if isLet r=false then false else if n=0/\zM r=true then false else if 12<n+1 then false else np (n+1) rs
theorem zN (bs:ai)(w:ah):au 194 #[.string (str bs)] w λ v w'=>v=.bool (np 0 (dL bs))/\Fr none1 w w':=by
 refine c194 _ w _ ?_;refine HF bs λ r w1 hr hit f1=>?_;have F0:Fr (only r) w1 w1:=Fr.refl _ _;refine cp.of (λ s w'=>∃ (n:Nat) (rest:List Int),s.1=n/\n<=12/\mg w' r rest/\Fr (only r) w1 w'/\np n rest=np 0 (dL bs)) (λ _ w'=>qA w' r) ⟨0,_,rfl,by omega,hit,F0,rfl⟩ ?_;rintro _ ⟨n',_⟩ w2 ⟨n,rest,hn,ah9,uT,f2,mK⟩;dsimp only at hn ⊢;subst hn;have fin:∀ w',Fr (only r) w1 w'->Fr none1 w w':=λ w' f=>f1.fresh f ab;refine HE uT (λ c oW pos w3 hc kH tL f3=>?_) (λ mh=>?_)
 ·subst hc
  have tM:=fin _ (f2.trans f3);refine an.of (QZ c w3) ?_;rintro _ _ ⟨rfl,rfl⟩;refine⟨_,rfl,?_⟩;have ml:qA w3 r<qA w2 r:=by rw[tL.left,uT.left];simp
  have dH:np n (c::oW)=if isLet c=false then false else if n=0/\zM c=true then false else if 12<n+1 then false else np (n+1) oW:=rfl;rw[dH] at mK
  by_cases hl:isLet c=false
  ·rw[if_pos hl] at mK
   refine ae.t (by rw[hl];rfl) ⟨by rw[<- mK],tM⟩
  rw[if_neg hl] at mK;refine ae.f (by simpa using hl) ?_;rw[wI (x:=(n:Int)+1) ab ab];have Q0:¬ (n=0/\zM c=true)->ae (decide ((n:Int)+1 > 12)) ((.bool false:av)=.bool (np 0 (dL bs))/\Fr none1 w w3)
    ((∃ (n':Nat) (rest:List Int),((n:Int)+1)=n'/\n'<=12/\mg w3 r rest/\Fr (only r) w1 w3/\np n' rest=np 0 (dL bs))/\qA w3 r<qA w2 r):=λ hd=>by
   rw[if_neg hd] at mK;refine ae.dec (λ h=>?_) (λ h=>?_)
   ·rw[if_pos ab] at mK;exact⟨by rw[<- mK],tM⟩
   ·rw[if_neg ab] at mK
    exact⟨⟨n+1,oW,by omega,by omega,tL,f2.trans f3,mK⟩,ml⟩
  refine ae.eq (λ h1=>?_) (λ h1=>?_)
  ·refine an.of (QY c w3) ?_
   rintro _ _ ⟨rfl,rfl⟩;refine⟨_,rfl,?_⟩;refine ae.by (λ hd=>?_) (λ hd=>?_)
   ·rw[if_pos ⟨by omega,hd⟩] at mK;exact⟨by rw[<- mK],tM⟩
   ·exact Q0 λ t=>by rw[t.2] at hd;cases hd
  ·exact Q0 λ t=>by have:=t.1;omega
 ·subst mh
  refine⟨?_,fin _ f2⟩;rw[<- mK];unfold np
  congr 1
  exact decide_eq_decide.2 ab
end Go.Proofs.YtfolkckcakndkaaGreatDoor
