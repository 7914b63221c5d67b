/-
  A calculus of verification conditions over the model's code, and its soundness: a condition over a list of named slots, an address at a time, that a call of a Go function meets its contract.
  No condition on the program; the functions, the types and the plans are arguments.
-/
import Derived.StillTail
import Derived.Deep.Draws
import Derived.Laws.Tables
namespace Go.Proofs.YtlhbfdakceipkaaGreatDoor
namespace Vc

/-! ### Kinds of cells and of values -/
inductive Ck where
  | int (k : IntKind) | bool | str | ptr | slc | map | raw
  deriving Inhabited

@[reducible] def Ck.C : Ck → Type
  | .int _ => Int | .bool => Bool | .str => ByteArray | .ptr => Option Addr | .slc => Option Addr × Nat × Nat | .map => Option Nat | .raw => Value

def Ck.val : (c : Ck) → c.C → Value
  | .int k, n => .int k n
  | .bool, b => .bool b
  | .str, s => .string s
  | .ptr, p => .pointer p
  | .slc, x => .slice x.1 x.2.1 x.2.2
  | .map, r => .map r
  | .raw, v => v

@[reducible] def Cs : List Ck → Type
  | [] => Unit
  | c :: cs => c.C × Cs cs

def Cs.vals : (cs : List Ck) → Cs cs → List Value
  | [], _ => []
  | c :: cs, x => c.val x.1 :: Cs.vals cs x.2

inductive Kd where
  | one (c : Ck) | agg (cs : List Ck) | arr
  deriving Inhabited

@[reducible] def Kd.C : Kd → Type
  | .one c => c.C | .agg cs => Cs cs | .arr => List Value

def Kd.val : (k : Kd) → k.C → Value
  | .one c, x => c.val x
  | .agg cs, x => .agg (Cs.vals cs x).toArray
  | .arr, x => .agg x.toArray

@[reducible] def St : List Kd → Type
  | [] => Unit
  | k :: ks => k.C × St ks

def St.vals : (ks : List Kd) → St ks → List Value
  | [], _ => []
  | k :: ks, x => k.val x.1 :: St.vals ks x.2

inductive Rk where
  | v (k : Kd) | tup (ks : List Kd)

@[reducible] def Rk.C : Rk → Type
  | .v k => k.C | .tup ks => St ks

def Rk.val : (r : Rk) → r.C → Value
  | .v k, x => k.val x
  | .tup ks, x => .tuple (St.vals ks x).toArray

/-! ### Out of a value, by its kind -/
def Ck.ex : (c : Ck) → Value → (c.C → Prop) → Prop
  | .int k, v, K => match v with | .int k' n => (match decide (k' = k) with | true => K n | false => False) | _ => False
  | .bool, v, K => match v with | .bool b => K b | _ => False
  | .str, v, K => match v with | .string s => K s | _ => False
  | .ptr, v, K => match v with | .pointer p => K p | _ => False
  | .slc, v, K => match v with | .slice p l c => K (p, l, c) | _ => False
  | .map, v, K => match v with | .map r => K r | _ => False
  | .raw, v, K => K v

theorem Ck.ex_spec {c : Ck} {v : Value} {K : c.C → Prop} (h : c.ex v K) : ∃ x, v = c.val x ∧ K x := by
  cases c <;> simp only [Ck.ex] at h
  case int k =>
    cases v <;> simp only at h
    rename_i k' n
    by_cases e : k' = k
    · simp only [e, decide_true] at h; exact ⟨n, by rw [e]; rfl, h⟩
    · simp [e] at h
  case raw => exact ⟨v, rfl, h⟩
  all_goals (cases v <;> simp only at h; exact ⟨_, rfl, h⟩)

def Cs.ex : (cs : List Ck) → List Value → (Cs cs → Prop) → Prop
  | [], l, K => match l with | [] => K () | _ :: _ => False
  | c :: cs, l, K => match l with | [] => False | v :: l => c.ex v fun x => Cs.ex cs l fun y => K (x, y)

theorem Cs.ex_spec : ∀ {cs : List Ck} {l : List Value} {K : Cs cs → Prop}, Cs.ex cs l K → ∃ x, l = Cs.vals cs x ∧ K x
  | [], l, K, h => by
    cases l with
    | nil => exact ⟨(), rfl, h⟩
    | cons a l => exact h.elim
  | c :: cs, l, K, h => by
    cases l with
    | nil => exact h.elim
    | cons v l =>
      obtain ⟨x, rfl, h1⟩ := Ck.ex_spec (c := c) (v := v) (K := fun x => Cs.ex cs l fun y => K (x, y)) h
      obtain ⟨y, rfl, h2⟩ := Cs.ex_spec h1
      exact ⟨(x, y), rfl, h2⟩

def Kd.ex : (k : Kd) → Value → (k.C → Prop) → Prop
  | .one c, v, K => c.ex v K
  | .agg cs, v, K => match v with | .agg a => Cs.ex cs a.toList K | _ => False
  | .arr, v, K => match v with | .agg a => K a.toList | _ => False

theorem Kd.ex_spec {k : Kd} {v : Value} {K : k.C → Prop} (h : k.ex v K) : ∃ x, v = k.val x ∧ K x := by
  cases k <;> simp only [Kd.ex] at h
  case one c => exact Ck.ex_spec h
  case agg cs =>
    cases v <;> simp only at h
    rename_i a
    obtain ⟨x, hx, h⟩ := Cs.ex_spec h
    exact ⟨x, by simp only [Kd.val, ← hx], h⟩
  case arr =>
    cases v <;> simp only at h
    rename_i a
    exact ⟨a.toList, by simp only [Kd.val], h⟩

def St.ex : (ks : List Kd) → List Value → (St ks → Prop) → Prop
  | [], l, K => match l with | [] => K () | _ :: _ => False
  | k :: ks, l, K => match l with | [] => False | v :: l => k.ex v fun x => St.ex ks l fun y => K (x, y)

theorem St.ex_spec : ∀ {ks : List Kd} {l : List Value} {K : St ks → Prop}, St.ex ks l K → ∃ x, l = St.vals ks x ∧ K x
  | [], l, K, h => by
    cases l with
    | nil => exact ⟨(), rfl, h⟩
    | cons a l => exact h.elim
  | k :: ks, l, K, h => by
    cases l with
    | nil => exact h.elim
    | cons v l =>
      obtain ⟨x, rfl, h1⟩ := Kd.ex_spec (k := k) (v := v) (K := fun x => St.ex ks l fun y => K (x, y)) h
      obtain ⟨y, rfl, h2⟩ := St.ex_spec h1
      exact ⟨(x, y), rfl, h2⟩

def Rk.ex : (r : Rk) → Value → (r.C → Prop) → Prop
  | .v k, y, K => k.ex y K
  | .tup ks, y, K => match y with | .tuple a => St.ex ks a.toList K | _ => False

theorem Rk.ex_spec {r : Rk} {y : Value} {K : r.C → Prop} (h : r.ex y K) : ∃ x, y = r.val x ∧ K x := by
  cases r <;> simp only [Rk.ex] at h
  case v k => exact Kd.ex_spec h
  case tup ks =>
    cases y <;> simp only at h
    rename_i a
    obtain ⟨x, hx, h⟩ := St.ex_spec h
    exact ⟨x, by simp only [Rk.val, ← hx], h⟩

theorem Ck.ex_val {c : Ck} {x : c.C} {K : c.C → Prop} (h : K x) : c.ex (c.val x) K := by
  cases c <;> simp only [Ck.ex, Ck.val, decide_true] <;> exact h

theorem Cs.ex_val : ∀ {cs : List Ck} {x : Cs cs} {K : Cs cs → Prop}, K x → Cs.ex cs (Cs.vals cs x) K
  | [], _, _, h => h
  | c :: _, _, _, h => Ck.ex_val (c := c) (Cs.ex_val h)

theorem Kd.ex_val {k : Kd} {x : k.C} {K : k.C → Prop} (h : K x) : k.ex (k.val x) K := by
  cases k
  case one c => exact Ck.ex_val h
  case agg cs => exact Cs.ex_val h
  case arr => exact h

theorem St.ex_val : ∀ {ks : List Kd} {x : St ks} {K : St ks → Prop}, K x → St.ex ks (St.vals ks x) K
  | [], _, _, h => h
  | k :: _, _, _, h => Kd.ex_val (k := k) (St.ex_val h)

theorem Rk.ex_val {r : Rk} {x : r.C} {K : r.C → Prop} (h : K x) : r.ex (r.val x) K := by
  cases r
  case v k => exact Kd.ex_val h
  case tup ks => exact St.ex_val h

/-! ### The kind of a type, off its zero value -/
def ckV : Value → Ck
  | .int k _ => .int k | .bool _ => .bool | .string _ => .str | .pointer _ => .ptr | .slice .. => .slc | .map _ => .map | _ => .raw

def kdOf (P : Program) (t : TypeId) : Kd :=
  match P.info? t with
  | some i => match i.zero with
    | some (.agg cs) => match P.underlying t with
      | some (.array ..) => .arr
      | _ => .agg (cs.toList.map ckV)
    | some v => .one (ckV v)
    | none => .one .raw
  | none => .one .raw

def rkOf (P : Program) : List TypeId → Rk
  | [t] => .v (kdOf P t)
  | ts => .tup (ts.map (kdOf P))

/-! ### Slots -/
structure Env where
  l : List (Nat × Value)
  base : Nat → Value

def look : List (Nat × Value) → Nat → Option Value
  | [], _ => none
  | (u, v) :: l, t => match Nat.beq u t with | true => some v | false => look l t

def Env.get (e : Env) (t : Nat) : Value := match look e.l t with | some v => v | none => e.base t

def Env.put (e : Env) (dst : Option Nat) (v : Value) : Env := match dst with | some d => ⟨(d, v) :: e.l, e.base⟩ | none => e

def Env.eval (e : Env) : Operand → Value
  | .tmp t => e.get t
  | .const v => v
  | .global g => .pointer (some ⟨g, 0, none⟩)
  | .func f => .func (.func f) #[] #[]

theorem look_cons (u : Nat) (v : Value) (l : List (Nat × Value)) (t : Nat) : look ((u, v) :: l) t = if t = u then some v else look l t := by
  by_cases h : t = u
  · subst h; simp [look]
  · rw [if_neg h]
    have hb : Nat.beq u t = false := by
      cases hb : Nat.beq u t with
      | false => rfl
      | true => exact absurd (Nat.eq_of_beq_eq_true hb).symm h
    simp [look, hb]

theorem Env.get_put (e : Env) (d : Nat) (v : Value) (t : Nat) : (e.put (some d) v).get t = if t = d then v else e.get t := by
  simp only [Env.put, Env.get, look_cons]
  by_cases h : t = d <;> simp [h]

/-- The frame holds what the slots say. -/
structure Rep (n : Nat) (e : Env) (a : Act) : Prop where
  size : a.tmps.size = n
  defers : a.defers = []
  get : ∀ t, a.tmps.getD t undef = e.get t

theorem Rep.eval {n : Nat} {e : Env} {a : Act} (h : Rep n e a) : a.eval = e.eval := by
  funext x
  cases x <;> simp [Act.eval, Env.eval, h.get]

def okDst (n : Nat) : Option Nat → Bool
  | none => true
  | some d => Nat.blt d n

theorem Rep.put {n : Nat} {e : Env} {a : Act} (h : Rep n e a) (dst : Option Nat) (hd : okDst n dst = true) (v : Value) : Rep n (e.put dst v) (a.put dst v) := by
  cases dst with
  | none => exact h
  | some d =>
    have hlt : d < n := by simp [okDst, Nat.blt] at hd; omega
    refine ⟨by simp [Act.put, h.size], by simp [Act.put, h.defers], fun t => ?_⟩
    rw [Env.get_put]
    have h1 := h.size
    by_cases ht : t = d
    · subst ht
      rw [if_pos rfl]
      simp [Act.put, Array.getD, Array.setIfInBounds, h1, hlt]
    · rw [if_neg ht, ← h.get t]
      have hne : d ≠ t := fun x => ht x.symm
      simp only [Act.put, Array.getD_eq_getD_getElem?, Array.getElem?_setIfInBounds_ne hne]

/-! ### An operation that asks the program alone -/
def peek {α : Type} (P : Program) : Sem α → Option α
  | .pure a => some a
  | .program k => peek P (k P)
  | .mark _ k => peek P k
  | _ => none

theorem peek_run {α : Type} {P : Program} : ∀ {s : Sem α} {a : α}, peek P s = some a → ∀ w, s.run P w = .ok a w := by
  intro s
  induction s with
  | pure b => intro a h w; simp only [peek, Option.some.injEq] at h; rw [h]; rfl
  | program k ih => intro a h w; exact ih P h w
  | mark m k ih => intro a h w; exact ih h w
  | _ => intro a h w; simp [peek] at h

/-! ### The words of a condition -/
/-- A cell of a known kind. -/
structure LdK (c : Ck) (p : Addr) (w : World) (K : c.C → Prop) : Prop where
  out : ∃ x, w.cell? p = some (c.val x) ∧ K x

/-- Cells in a row. -/
def CellsAt (w : World) (p : Addr) : Nat → List Value → Prop
  | _, [] => True
  | i, v :: vs => w.cell? (p.add i) = some v ∧ CellsAt w p (i + 1) vs

structure LdsK (cs : List Ck) (p : Addr) (w : World) (K : Cs cs → Prop) : Prop where
  out : ∃ x, CellsAt w p 0 (Cs.vals cs x) ∧ K x

structure LdaK (n : Nat) (p : Addr) (w : World) (K : List Value → Prop) : Prop where
  out : ∃ x : List Value, x.length = n ∧ CellsAt w p 0 x ∧ K x

/-- A value of one cell. -/
def one1 : Value → Bool
  | .agg _ | .tuple _ => false
  | _ => true

/-- A store of cells. -/
def setCells (w : World) (p : Addr) : Nat → List Value → World
  | _, [] => w
  | i, v :: vs => setCells (w.setCell (p.add i) v) p (i + 1) vs

def Writes (w : World) (p : Addr) : Nat → List Value → Prop
  | _, [] => True
  | i, v :: vs => one1 v = true ∧ (w.cell? (p.add i)).isSome = true ∧ w.frozen? (p.add i) = false ∧ Writes (w.setCell (p.add i) v) p (i + 1) vs

structure AndK (a b : Prop) : Prop where
  out : a ∧ b

structure StK (p : Addr) (v : Value) (w : World) (K : World → Prop) : Prop where
  out : one1 v = true ∧ (w.cell? p).isSome = true ∧ w.frozen? p = false ∧ K (w.setCell p v)

structure StsK (p : Addr) (vs : List Value) (w : World) (K : World → Prop) : Prop where
  out : Writes w p 0 vs ∧ K (setCells w p 0 vs)

/-- A new block. -/
structure NewK (o : Obj) (w : World) (K : Nat → World → Prop) : Prop where
  out : K w.heap.size { w with heap := w.heap.push o }

/-- A pointer that is not nil. -/
def optA (q : Option Addr) (K : Addr → Prop) : Prop := match q with | some a => K a | none => False

def ifB (b : Bool) (A B : Prop) : Prop := match b with | true => A | false => B

/-- An index of a slice, of an array. -/
structure IdxK (base : Option Addr) (len : Nat) (i : Int) (size : Nat) (K : Addr → Prop) : Prop where
  out : ∃ a, base = some a ∧ 0 ≤ i ∧ i < len ∧ K (a.add (i.toNat * size))
structure AixK (a : Addr) (len : Nat) (i : Int) (size : Nat) (K : Addr → Prop) : Prop where
  out : 0 ≤ i ∧ i < len ∧ K (a.add (i.toNat * size))
structure StrK (s : ByteArray) (i : Int) (K : Int → Prop) : Prop where
  out : ∃ b : UInt8, 0 ≤ i ∧ s[i.toNat]? = some b ∧ K b.toNat
structure ArrK (cs : Array Value) (len : Nat) (i : Int) (c : Ck) (K : c.C → Prop) : Prop where
  out : ∃ x, 0 ≤ i ∧ i < len ∧ cs[i.toNat]? = some (c.val x) ∧ K x
/-- A slice of a string, of a slice. -/
structure SubsK (s : ByteArray) (lo hi : Int) (K : ByteArray → Prop) : Prop where
  out : 0 ≤ lo ∧ lo ≤ hi ∧ hi ≤ s.size ∧ K (s.extract lo.toNat hi.toNat)
structure SubK (base : Option Addr) (cap : Nat) (lo hi mx : Int) (size : Nat) (K : Option Addr → Nat → Nat → Prop) : Prop where
  out : 0 ≤ lo ∧ lo ≤ hi ∧ hi ≤ mx ∧ mx ≤ cap ∧ K (if mx = lo then base else base.map (·.add (lo.toNat * size))) (hi - lo).toNat (mx - lo).toNat
/-- A type assertion. -/
structure TaK (x : Value) (t : TypeId) (k : Kd) (yes : k.C → Prop) (no : Prop) : Prop where
  out : (∃ r, x = .iface t (k.val r) ∧ yes r) ∨ ((x = .nilIface ∨ ∃ u v, x = .iface u v ∧ u ≠ t) ∧ no)
structure NzK (b : Int) (K : Prop) : Prop where
  out : b ≠ 0 ∧ K
structure NnK (b : Int) (K : Prop) : Prop where
  out : 0 ≤ b ∧ K
structure CatK (a b : ByteArray) (K : Prop) : Prop where
  out : ((a.size + b.size : Nat) : Int) ≤ IntKind.i64.max ∧ K
/-- The length of a map; the next rune of a string. -/
structure MlenK (m : Option Nat) (w : World) (K : Int → Prop) : Prop where
  out : (m = none ∧ K 0) ∨ ∃ r es c, m = some r ∧ w.heap[r]? = some (.map es c) ∧ K (es.size : Nat)
structure NextK (q : Option Addr) (w : World) (yes : Int → Int → World → Prop) (no : Prop) : Prop where
  out : ∃ r s pos, q = some ⟨r, 0, none⟩ ∧ w.heap[r]? = some (.stringIter s pos) ∧
    if pos < s.size then yes (pos : Nat) (Utf8.decode s pos).1 { w with heap := w.heap.setIfInBounds r (.stringIter s (pos + (Utf8.decode s pos).2)) } else no
/-- An operation of the model by itself. -/
structure RunK (P : Program) (s : Sem Value) (w : World) (k : Rk) (K : k.C → World → Prop) : Prop where
  out : ∃ x w', s.run P w = .ok (k.val x) w' ∧ K x w'
structure RunU (P : Program) (s : Sem Unit) (w : World) (K : World → Prop) : Prop where
  out : ∃ w', s.run P w = .ok () w' ∧ K w'
/-- A call. -/
def Ret (P : Program) (f : FuncId) (args : Array Value) (w : World) (K : Value → World → Prop) : Prop :=
  Calls P f args w fun e w' => ∃ v, e = .returned v ∧ K v w'
structure CallK (P : Program) (f : FuncId) (args : Array Value) (w : World) (k : Rk) (K : k.C → World → Prop) : Prop where
  out : Ret P f args w fun v w' => ∃ x, v = k.val x ∧ K x w'
/-- The next entry of a map, whichever. -/
structure MnextK (P : Program) (it : Value) (ty : TypeId) (w : World) (yes : Value → Value → World → Prop) (no : World → Prop) : Prop where
  out : (∃ k v w', (Instr.next it false ty).run P w = .ok (.tuple #[.bool true, k, v]) w' ∧ yes k v w') ∨ ∃ w', (Instr.next it false ty).run P w = .ok (.tuple #[.bool false]) w' ∧ no w'
/-- A value that must not be nil. -/
def nilV (v : Value) (K : Value → Prop) : Prop :=
  match v with
  | .pointer q => optA q fun p => K (.pointer (some p))
  | .func (.func f) fi ca => K (.func (.func f) fi ca)
  | _ => False
/-- A draw. -/
structure DrewK (w : World) (K : World → Prop) : Prop where
  out : K { w with drawn := w.drawn + 1 }
/-- A region whose order is open: C tells what holds when just the operations of D have been carried out; each loud one yields one value, whenever it comes. -/
structure RegK (w : World) (body : ((Nat → Bool) → World → Prop) → Prop) : Prop where
  out : ∃ C : (Nat → Bool) → World → Prop, C (fun _ => false) { w with drawn := w.drawn + 1 } ∧ body C
def upd (D : Nat → Bool) (i : Nat) : Nat → Bool := fun j => match Nat.beq j i with | true => true | false => D j
structure AnyK (C : (Nat → Bool) → World → Prop) (i : Nat) (pr : List Nat) (k : Rk) (op : World → (Value → World → Prop) → Prop) (next : k.C → Prop) : Prop where
  out : ∃ x : k.C, (∀ D w, D i = false → (∀ j, j ∈ pr → D j = true) → C D w → op w fun v w' => v = k.val x ∧ C (upd D i) w') ∧ next x
/-- In the blocks of S all lies as it lay. -/
def Kept (S : Nat → Prop) (w0 w : World) : Prop := ∀ a v, S a.block → w0.cell? a = some v → w.cell? a = some v
structure KeepK (S : Nat → Prop) (w0 w : World) (K : Prop) : Prop where
  out : Kept S w0 w ∧ K
/-- The blocks that a region whose reads come whenever reads. -/
structure HoldK (body : (Nat → Prop) → Prop) : Prop where
  out : ∃ S, body S
structure InK (S : Nat → Prop) (p : Addr) (K : Prop) : Prop where
  out : S p.block ∧ K
structure SkipK (C : (Nat → Bool) → World → Prop) (i : Nat) (next : Prop) : Prop where
  out : (∀ D w, C D w → C (upd D i) w) ∧ next
/-- A loop: what holds at its head, and what goes down. -/
structure LoopK (σ : Type) (body : (Nat → Value) → σ → World → (σ → World → Prop) → Prop) (s : σ) (w : World) : Prop where
  out : ∃ (I : σ → World → Prop) (μ : σ → World → Nat), I s w ∧ ∀ b s w, I s w → body b s w fun s' w' => I s' w' ∧ μ s' w' < μ s w
/-- Ways that meet. -/
structure JoinK (σ : Type) (first : (σ → World → Prop) → Prop) (rest : (Nat → Value) → σ → World → Prop) : Prop where
  out : ∃ J : σ → World → Prop, first J ∧ ∀ b s w, J s w → rest b s w

/-! ### An operation's condition -/
def vcLoad (P : Program) (t : TypeId) (p : Addr) (w : World) (K : Value → World → Prop) : Prop :=
  match P.underlying t, P.info? t with
  | some (.struct _), some i => match i.zero with
    | some (.agg cs) => match Nat.beq i.size (cs.toList.map ckV).length with
      | true => LdsK (cs.toList.map ckV) p w fun x => K (.agg (Cs.vals (cs.toList.map ckV) x).toArray) w
      | false => False
    | _ => False
  | some (.array ..), some i => LdaK i.size p w fun x => K (.agg x.toArray) w
  | some _, some _ => match kdOf P t with
    | .one c => LdK c p w fun x => K (c.val x) w
    | _ => False
  | _, _ => False

def isRefTy (P : Program) (t : TypeId) : Bool :=
  match P.underlying t with
  | some (.interface _) | some (.struct _) | some (.array ..) => true
  | _ => false

def isIf (P : Program) (t : TypeId) : Bool :=
  match P.underlying t with
  | some (.interface _) => true
  | _ => false

def rawAt (P : Program) (t : TypeId) (i : Nat) : Bool :=
  match P.underlying t with
  | some (.struct fs) => match fs[i]? with
    | some f => isIf P f.type
    | none => false
  | some (.array _ el) => isIf P el
  | _ => false

/-- A value of one cell (an interface). -/
structure OneK (v : Value) (K : Prop) : Prop where
  out : v.cells = #[v] ∧ K

def vcParts (P : Program) (t : TypeId) : List (Nat × Value) → (List (Nat × Value) → Prop) → Prop
  | [], K => K []
  | p :: l, K => match rawAt P t p.1 with
    | true => OneK p.2 (vcParts P t l fun vs => K ((p.1, .agg #[p.2]) :: vs))
    | false => vcParts P t l fun vs => K (p :: vs)

def ofPeek (P : Program) (s : Sem Value) (w : World) (K : Value → World → Prop) : Prop :=
  match peek P s with
  | some v => K v w
  | none => False

def vcBin (P : Program) (e : Env) (op : BinOp) (xt : TypeId) (x y : Operand) (w : World) (K : Value → World → Prop) : Prop :=
  match isRefTy P xt with
  | true => RunK P (do eqGuard op xt x y (e.eval x) (e.eval y); binOp op xt (e.eval x) (e.eval y)) w (.v (.one .bool)) fun b w' => K (.bool b) w'
  | false => match e.eval x, e.eval y with
    | .int k a, .int k' b => match decide (k = k') with
      | true => match op with
        | .quo => NzK b (K (.int k (k.wrap (a.tdiv b))) w)
        | .rem => NzK b (K (.int k (a.tmod b)) w)
        | .shl => NnK b (K (.int k (k.wrap (a * 2 ^ (min b.toNat k.bits)))) w)
        | .shr => NnK b (K (.int k (a.fdiv (2 ^ (min b.toNat k.bits)))) w)
        | _ => ofPeek P (do eqGuard op xt x y (.int k a) (.int k b); binOp op xt (.int k a) (.int k b)) w K
      | false => match op with
        | .shl => NnK b (K (.int k (k.wrap (a * 2 ^ (min b.toNat k.bits)))) w)
        | .shr => NnK b (K (.int k (a.fdiv (2 ^ (min b.toNat k.bits)))) w)
        | _ => False
    | .string a, .string b => match op with
      | .add => CatK a b (K (.string (a ++ b)) w)
      | _ => ofPeek P (do eqGuard op xt x y (.string a) (.string b); binOp op xt (.string a) (.string b)) w K
    | .bool a, .bool b => ofPeek P (do eqGuard op xt x y (.bool a) (.bool b); binOp op xt (.bool a) (.bool b)) w K
    | .pointer p, .pointer none => match P.underlying xt, op with
      | some (.pointer _), .eql => K (.bool p.isNone) w
      | some (.pointer _), .neq => K (.bool !p.isNone) w
      | _, _ => False
    | .slice p _ _, .slice none _ _ => match P.underlying xt, op with
      | some (.slice _), .eql => K (.bool p.isNone) w
      | some (.slice _), .neq => K (.bool !p.isNone) w
      | _, _ => False
    | .map p, .map none => match P.underlying xt, op with
      | some (.map ..), .eql => K (.bool p.isNone) w
      | some (.map ..), .neq => K (.bool !p.isNone) w
      | _, _ => False
    | _, _ => False

def optInt (v : Option Value) (d : Int) (K : Int → Prop) : Prop :=
  match v with
  | none => K d
  | some (.int _ i) => K i
  | _ => False

def evs (e : Env) (xs : Array Operand) : List Value := xs.toList.map e.eval

def vcCall (P : Program) (f : FuncId) (args : List Value) (w : World) (K : Value → World → Prop) : Prop :=
  match peek P (callFunc f args.toArray), P.funcs[f]? with
  | some (.enter g xs), some fn => match Nat.beq g f with
    | true => CallK P f xs w (rkOf P fn.resultTypes.toList) fun x w' => K ((rkOf P fn.resultTypes.toList).val x) w'
    | false => False
  | _, _ => False

def resRk (P : Program) (t : TypeId) : Rk :=
  match P.underlying t with
  | some (.tuple ts) => .tup (ts.toList.map (kdOf P))
  | _ => .v (kdOf P t)

/-- A call of a function value. -/
def callV (P : Program) (v : Value) (args : List Value) (r : Rk) (w : World) (K : r.C → World → Prop) : Prop :=
  match v with
  | .func (.func f) fi ca => vcCall P f (fi.toList ++ args ++ ca.toList) w fun v w' => r.ex v fun x => K x w'
  | _ => False

theorem callV_of {P : Program} {f : FuncId} {fi ca : Array Value} {args : List Value} {r : Rk} {w : World} {K : r.C → World → Prop} {xs : Array Value} {fn : Func}
    (hp : peek P (callFunc f (fi.toList ++ args ++ ca.toList).toArray) = some (.enter f xs)) (hf : P.funcs[f]? = some fn) (hr : rkOf P fn.resultTypes.toList = r)
    (h : Ret P f xs w fun v w' => ∃ x, v = r.val x ∧ K x w') : callV P (.func (.func f) fi ca) args r w K := by
  subst hr
  have hb : Nat.beq f f = true := Nat.beq_refl f
  simp only [callV, vcCall, hp, hf, hb]
  exact ⟨h.mono fun e w' ⟨v, he, x, hv, hK⟩ => ⟨v, he, x, hv, Rk.ex_val hK⟩⟩

def lookRk (P : Program) (t : TypeId) (ok : Bool) : Rk :=
  match P.underlying t, ok with
  | some (.map _ el), true => .tup [kdOf P el, .one .bool]
  | some (.map _ el), false => .v (kdOf P el)
  | _, _ => .tup []

def vcOp (P : Program) (o : Oper) (e : Env) (w : World) (K : Value → World → Prop) : Prop :=
  match o.op with
  | .move x | .assign x => K (e.eval x) w
  | .pick c a b => match e.eval c with
    | .bool c => ifB c (K (e.eval a) w) (K (e.eval b) w)
    | _ => False
  | .load t a => match e.eval a with
    | .pointer q => optA q fun p => vcLoad P t p w K
    | _ => False
  | .store t a x => match e.eval a with
    | .pointer q => optA q fun p => match P.info? t with
      | some i => match isIf P t with
       | true => match Nat.beq 1 i.size with
        | true => OneK (e.eval x) (StsK p [e.eval x] w fun w' => K undef w')
        | false => False
       | false => match P.underlying t with
        | some (.array ..) => match e.eval x with
          | .agg cs => AndK (cs.toList.length = i.size) (StsK p cs.toList w fun w' => K undef w')
          | _ => False
        | _ => match Nat.beq (e.eval x).cells.size i.size with
          | true => match e.eval x with
            | .agg cs => StsK p cs.toList w fun w' => K undef w'
            | .tuple _ => False
            | v => StK p v w fun w' => K undef w'
          | false => False
      | none => False
    | _ => False
  | .nilCheck x => nilV (e.eval x) fun v => K v w
  | .alloc t => match P.info? t with
    | some i => match i.zero with
      | some z => NewK (.cells z.cells t) w fun g w' => K (.pointer (some ⟨g, 0, none⟩)) w'
      | none => False
    | none => False
  | .box t x => match isIf P t with
    | true => OneK (e.eval x) (NewK (.cells #[e.eval x] t) w fun g w' => K (.pointer (some ⟨g, 0, none⟩)) w')
    | false => NewK (.cells (e.eval x).cells t) w fun g w' => K (.pointer (some ⟨g, 0, none⟩)) w'
  | .build t parts => vcParts P t (parts.toList.map fun (i, x) => (i, e.eval x)) fun vs => match P.built t vs with
    | some cells => K (.agg cells) w
    | none => False
  | .makeMap _ none => NewK (.map #[] 0) w fun g w' => K (.map (some g)) w'
  | .indexAddr t x i => match P.underlying t with
    | some (.slice el) => match e.eval x, e.eval i, P.info? el with
      | .slice base len _, .int _ i, some inf => IdxK base len i inf.size fun a => K (.pointer (some a)) w
      | _, _, _ => False
    | some (.array n el) => match e.eval x, e.eval i, P.info? el with
      | .pointer q, .int _ i, some inf => optA q fun a => AixK a n i inf.size fun a => K (.pointer (some a)) w
      | _, _, _ => False
    | _ => False
  | .index t x i => match P.underlying t with
    | some .string => match e.eval x, e.eval i with
      | .string s, .int _ i => StrK s i fun b => K (.int .u8 b) w
      | _, _ => False
    | some (.array n el) => match e.eval x, e.eval i, P.info? el, kdOf P el, P.underlying el with
      | .agg cs, .int _ i, some inf, .one c, some d => match Nat.beq inf.size 1, (match d with | .struct _ | .array .. => false | _ => true) with
        | true, true => ArrK cs n i c fun x => K (c.val x) w
        | _, _ => False
      | _, _, _, _, _ => False
    | _ => False
  | .slice t x lo hi mx => match P.underlying t with
    | some .string => match e.eval x, mx with
      | .string s, none => optInt (lo.map e.eval) 0 fun l => optInt (hi.map e.eval) s.size fun h => SubsK s l h fun s' => K (.string s') w
      | _, _ => False
    | some (.slice el) => match e.eval x, P.info? el with
      | .slice a len cap, some inf => match hi, mx with
        | none, some _ => False
        | _, _ => optInt (lo.map e.eval) 0 fun l => optInt (hi.map e.eval) len fun h => optInt (mx.map e.eval) cap fun m =>
            SubK a cap l h m inf.size fun a' l' c' => K (.slice a' l' c') w
      | _, _ => False
    | _ => False
  | .typeAssert x _ t ok => match P.underlying t with
    | some (.interface _) => False
    | some _ => match ok with
      | true => match P.info? t with
        | some i => match i.zero with
          | some z => TaK (e.eval x) t (kdOf P t) (fun r => K (.tuple #[(kdOf P t).val r, .bool true]) w) (K (.tuple #[z, .bool false]) w)
          | none => False
        | none => False
      | false => TaK (e.eval x) t (kdOf P t) (fun r => K ((kdOf P t).val r) w) False
    | none => False
  | .binOp op xt x y _ => vcBin P e op xt x y w K
  | .unOp op _ x => ofPeek P (Op.unary op (e.eval x)) w K
  | .fieldAddr s x f => ofPeek P (Instr.fieldAt s (e.eval x) f) w K
  | .field t x f => ofPeek P (Instr.field t (e.eval x) f) w K
  | .extract t i => ofPeek P (Instr.extract (e.eval t) i) w fun v w => (kdOf P o.type).ex v fun x => K ((kdOf P o.type).val x) w
  | .makeInterface t x => ofPeek P (Instr.makeInterface t (e.eval x)) w K
  | .makeFunc fn fi ca => K (.func fn (evs e fi).toArray (evs e ca).toArray) w
  | .convert src dst x => match P.underlying src, P.underlying dst with
    | some (.slice _), some .string => RunK P (convert src dst (e.eval x)) w (.v (.one .str)) fun s w' => K (.string s) w'
    | some .string, some (.slice _) => RunK P (convert src dst (e.eval x)) w (.v (.one .slc)) fun s w' => K (.slice s.1 s.2.1 s.2.2) w'
    | some (.slice _), some (.slice _) => RunK P (convert src dst (e.eval x)) w (.v (.one .slc)) fun s w' => K (.slice s.1 s.2.1 s.2.2) w'
    | _, _ => ofPeek P (convert src dst (e.eval x)) w K
  | .makeSlice t l c => RunK P (Instr.makeSlice t (e.eval l) (e.eval c)) w (.v (.one .slc)) fun s w' => K (.slice s.1 s.2.1 s.2.2) w'
  | .buildSlice t n parts => RunK P (Instr.buildSlice t n (parts.toList.map fun (i, x) => (i, e.eval x)).toArray) w (.v (.one .slc)) fun s w' => K (.slice s.1 s.2.1 s.2.2) w'
  | .lookup t x i ok => RunK P (Instr.lookup t (e.eval x) (e.eval i) ok) w (lookRk P t ok) fun x w' => K ((lookRk P t ok).val x) w'
  | .mapUpdate t m k x | .insert t m k x => RunU P (Instr.mapUpdate t (e.eval m) (e.eval k) (e.eval x)) w fun w' => K undef w'
  | .range t x => RunK P (Instr.range t (e.eval x)) w (.v (.one .ptr)) fun x w' => K (.pointer x) w'
  | .next it s => match s with
    | true => match e.eval it with
      | .pointer q => NextK q w (fun pos c w' => K (.tuple #[.bool true, .int .i64 pos, .int .i32 c]) w') (K (.tuple #[.bool false]) w)
      | _ => False
    | false => MnextK P (e.eval it) o.type w (fun k v w' => K (.tuple #[.bool true, k, v]) w') (fun w' => K (.tuple #[.bool false]) w')
  | .entry it => RunK P (Instr.entry (e.eval it)) w (.tup [.one .raw, .one .raw]) fun x w' => K (.tuple #[x.1, x.2.1]) w'
  | .call c => match c.callee with
    | .builtin .append => RunK P (Builtin.append_ c.argTypes o.type (evs e c.args).toArray) w (.v (.one .slc)) fun s w' => K (.slice s.1 s.2.1 s.2.2) w'
    | .builtin .copy => RunK P (Builtin.copy_ c.argTypes o.type (evs e c.args).toArray) w (.v (.one (.int .i64))) fun n w' => K (.int .i64 n) w'
    | .builtin .delete => RunK P (Builtin.delete_ c.argTypes o.type (evs e c.args).toArray) w (.tup []) fun _ w' => K (.tuple #[]) w'
    | .builtin .len => match evs e c.args with
      | [.map m] => match (c.argTypes[0]?).bind P.underlying with
        | some (.map ..) => MlenK m w fun n => K (.int .i64 n) w
        | _ => False
      | l => ofPeek P (Builtin.len_ c.argTypes o.type l.toArray) w K
    | .builtin .cap => ofPeek P (Builtin.cap_ c.argTypes o.type (evs e c.args).toArray) w K
    | .builtin .min => ofPeek P (Builtin.min_ c.argTypes o.type (evs e c.args).toArray) w K
    | .builtin .max => ofPeek P (Builtin.max_ c.argTypes o.type (evs e c.args).toArray) w K
    | .value x => match x with
      | .tmp _ => callV P (e.eval x) (evs e c.args) (resRk P o.type) w fun x w' => K ((resRk P o.type).val x) w'
      | _ => match e.eval x with
        | .func (.func f) fi ca => vcCall P f (fi.toList ++ evs e c.args ++ ca.toList) w K
        | _ => False
    | _ => False
  | _ => False

/-! ### Regions -/
def vcOps (P : Program) (n : Nat) (ops : Array Oper) : List Oper → Env → World → (Env → World → Prop) → Prop
  | [], e, w, K => K e w
  | o :: rest, e, w, K => match okDst n o.dst with
    | false => False
    | true => match o.guard with
      | none => vcOp P o e w fun v w' => vcOps P n ops rest (e.put o.dst v) w' K
      | some (j, want) => match (ops[j]?).bind (·.dst) with
        | none => False
        | some d => match e.get d with
          | .bool b => match want with
            | true => ifB b (vcOp P o (e.put (some d) (.bool true)) w fun v w' => vcOps P n ops rest ((e.put (some d) (.bool true)).put o.dst v) w' K)
                (vcOps P n ops rest ((e.put (some d) (.bool false)).put o.dst undef) w K)
            | false => ifB b (vcOps P n ops rest ((e.put (some d) (.bool true)).put o.dst undef) w K)
                (vcOp P o (e.put (some d) (.bool false)) w fun v w' => vcOps P n ops rest ((e.put (some d) (.bool false)).put o.dst v) w' K)
          | .tuple _ => vcOps P n ops rest (e.put o.dst undef) w K
          | _ => False

/-- Operations that leave the world as it is. -/
def stillOp (P : Program) : Op → Bool
  | .move _ | .assign _ | .pick .. | .load .. | .nilCheck _ | .build .. | .indexAddr .. | .index .. | .slice .. | .typeAssert .. | .unOp .. | .fieldAddr .. | .field .. | .extract ..
  | .makeInterface .. | .makeFunc .. => true
  | .binOp _ t .. => !isRefTy P t
  | .call c => match c.callee with
    | .builtin .len | .builtin .cap | .builtin .min | .builtin .max => true
    | _ => false
  | _ => false

/-- Operations that do not look at the world. -/
def pureOp (P : Program) : Op → Bool
  | .move _ | .assign _ | .pick .. | .nilCheck _ | .build .. | .indexAddr .. | .index .. | .slice .. | .typeAssert .. | .unOp .. | .fieldAddr .. | .field .. | .extract ..
  | .makeInterface .. | .makeFunc .. => true
  | .binOp _ t .. => !isRefTy P t
  | .call c => match c.callee with
    | .builtin .cap | .builtin .min | .builtin .max => true
    | .builtin .len => match c.argTypes.toList with
      | [t] => match P.underlying t with | some (.map ..) => false | some _ => true | none => false
      | _ => false
    | _ => false
  | _ => false

def mem : List Nat → Nat → Bool
  | [], _ => false
  | u :: l, t => match Nat.beq u t with | true => true | false => mem l t

/-- The operations that must have come ahead of one. -/
def anc (ops : Array Oper) : Nat → Nat → List Nat
  | 0, _ => []
  | f + 1, i => match ops[i]? with
    | some o => o.after.toList.flatMap fun e => match Region.binds .any e with | true => e.on :: anc ops f e.on | false => []
    | none => []

def loudOf : List (Nat × Rk) → Nat → Option Rk
  | [], _ => none
  | (j, r) :: l, k => match Nat.beq j k with | true => some r | false => loudOf l k

def priors (ops : Array Oper) (loud : List (Nat × Rk)) (k : Nat) : List Nat :=
  (loud.map (·.1)).filter fun j => mem (anc ops ops.size k) j

def vcAnyOne (P : Program) (ops : Array Oper) (loud : List (Nat × Rk)) (C : (Nat → Bool) → World → Prop) (o : Oper) (k : Nat) (e : Env) (w : World) (next : Value → Prop) : Prop :=
  match loudOf loud k with
  | some r => AnyK C k (priors ops loud k) r (fun w kk => vcOp P o e w kk) fun x => next (r.val x)
  | none => match pureOp P o.op with
    | true => vcOp P o e w fun v _ => next v
    | false => False

def vcAny (P : Program) (n : Nat) (ops : Array Oper) (loud : List (Nat × Rk)) (C : (Nat → Bool) → World → Prop) (w : World) : List Oper → Nat → Env → (Env → Prop) → Prop
  | [], _, e, K => K e
  | o :: rest, k, e, K => match okDst n o.dst with
    | false => False
    | true => match o.guard with
      | none => vcAnyOne P ops loud C o k e w fun v => vcAny P n ops loud C w rest (k + 1) (e.put o.dst v) K
      | some (j, want) => match (ops[j]?).bind (·.dst) with
        | none => False
        | some d => match e.get d with
          | .bool b => match want with
            | true => ifB b (vcAnyOne P ops loud C o k (e.put (some d) (.bool true)) w fun v => vcAny P n ops loud C w rest (k + 1) ((e.put (some d) (.bool true)).put o.dst v) K)
                (match loudOf loud k with
                  | some _ => SkipK C k (vcAny P n ops loud C w rest (k + 1) ((e.put (some d) (.bool false)).put o.dst undef) K)
                  | none => vcAny P n ops loud C w rest (k + 1) ((e.put (some d) (.bool false)).put o.dst undef) K)
            | false => ifB b (match loudOf loud k with
                  | some _ => SkipK C k (vcAny P n ops loud C w rest (k + 1) ((e.put (some d) (.bool true)).put o.dst undef) K)
                  | none => vcAny P n ops loud C w rest (k + 1) ((e.put (some d) (.bool true)).put o.dst undef) K)
                (vcAnyOne P ops loud C o k (e.put (some d) (.bool false)) w fun v => vcAny P n ops loud C w rest (k + 1) ((e.put (some d) (.bool false)).put o.dst v) K)
          | .tuple _ => match loudOf loud k with
            | some _ => SkipK C k (vcAny P n ops loud C w rest (k + 1) (e.put o.dst undef) K)
            | none => vcAny P n ops loud C w rest (k + 1) (e.put o.dst undef) K
          | _ => False

/-- A region whose reads may come whenever: the condition goes by orders of its own, in which each read comes as early as may be; what is read lay there from the first. -/
inductive Hp where
  | done
  | soft (i : Nat) (h : Hp)
  | pick (i : Nat) (h more : Hp)
  | stop

def vcSoft (P : Program) (o : Oper) (e : Env) (S : Nat → Prop) (w0 : World) (K : Value → Prop) : Prop :=
  match o.op with
  | .load t a => match e.eval a with
    | .pointer q => optA q fun p => InK S p (vcLoad P t p w0 fun v _ => K v)
    | _ => False
  | _ => match pureOp P o.op with
    | true => vcOp P o e w0 fun v _ => K v
    | false => False

def vcHeld (P : Program) (n : Nat) (ops : Array Oper) (S : Nat → Prop) : Hp → Nat → List Nat → Array Bool → Env → World → (Env → World → Prop) → Prop
  | .done, k, _, listed, e, w, K => match Nat.beq k 0 && (Region.ready .any ops listed).isEmpty with | true => K e w | false => False
  | .soft i h, k, _, listed, e, w, K => match k, ops[i]? with
    | k + 1, some o => match okDst n o.dst && o.guard.isNone && (Region.ready .any ops listed).contains i && Region.free .any ops listed i with
      | false => False
      | true => vcSoft P o e S w fun v => vcHeld P n ops S h k [] (listed.setIfInBounds i true) (e.put o.dst v) w K
    | _, _ => False
  | .pick i h .stop, k, seen, listed, e, w, K => match k, ops[i]? with
    | k + 1, some o => match okDst n o.dst && o.guard.isNone && (Region.ready .any ops listed).contains i && (Region.ready .any ops listed).all (fun j => mem (i :: seen) j) with
      | true => vcOp P o e w fun v w' => KeepK S w w' (vcHeld P n ops S h k [] (listed.setIfInBounds i true) (e.put o.dst v) w' K)
      | false => False
    | _, _ => False
  | .pick i h (.pick i2 h2 m2), k, seen, listed, e, w, K => match k, ops[i]? with
    | k + 1, some o => match okDst n o.dst && o.guard.isNone with
      | false => False
      | true => AndK (vcOp P o e w fun v w' => KeepK S w w' (vcHeld P n ops S h k [] (listed.setIfInBounds i true) (e.put o.dst v) w' K)) (vcHeld P n ops S (.pick i2 h2 m2) (k + 1) (i :: seen) listed e w K)
    | _, _ => False
  | _, _, _, _, _, _, _ => False

/-! ### Code -/
inductive Plan where
  | auto
  | seq (a b : Plan)
  | cond (a b : Plan)
  | block (p : Plan)
  | loop (ks : List (Nat × Kd)) (p : Plan)
  | join (ks : List (Nat × Kd)) (a b : Plan)
  | still
  | tail (k : Nat)
  | any (loud : List (Nat × Rk))
  | held (h : Hp)

def thenQ (N : Env → World → Prop) (Q : Exit → Env → World → Prop) : Exit → Env → World → Prop
  | .normal, e, w => N e w
  | .exit i, e, w => Q (.exit i) e w
  | .ret, e, w => Q .ret e w
  | _, _, _ => False

def blockQ (id : Nat) (Q : Exit → Env → World → Prop) : Exit → Env → World → Prop
  | .normal, e, w => Q .normal e w
  | .exit i, e, w => match Nat.beq i id with | true => Q .normal e w | false => Q (.exit i) e w
  | .ret, e, w => Q .ret e w
  | _, _, _ => False

def dsts : Code → List Nat
  | .region _ ops _ => ops.toList.filterMap (·.dst)
  | .seq a b => dsts a ++ dsts b
  | .cond _ a b => dsts a ++ dsts b
  | .block _ c => dsts c
  | .loop c => dsts c
  | _ => []

def strike (ds : List Nat) : List (Nat × Value) → List (Nat × Value)
  | [] => []
  | (u, v) :: l => match mem ds u with | true => strike ds l | false => (u, v) :: strike ds l

def bindS : (ks : List (Nat × Kd)) → St (ks.map (·.2)) → List (Nat × Value) → List (Nat × Value)
  | [], _, l => l
  | (t, k) :: ks, s, l => (t, k.val s.1) :: bindS ks s.2 l

def slots (e : Env) (ks : List (Nat × Kd)) : List Value := ks.map fun x => e.get x.1

def vcCode (P : Program) (n : Nat) : Code → Plan → Env → World → (Exit → Env → World → Prop) → Prop
  | .skip, _, e, w, Q => Q .normal e w
  | .region _ ops draw, p, e, w, Q => match draw with
    | false => vcOps P n ops ops.toList e w (Q .normal)
    | true => match p with
      | .still => match Region.lexB .any ops && ops.toList.all (fun o => stillOp P o.op) with
        | true => DrewK w fun w' => vcOps P n ops ops.toList e w' (Q .normal)
        | false => False
      | .tail k => match Region.lexTailB .any ops k && (ops.toList.take k).all (fun o => stillOp P o.op) with
        | true => DrewK w fun w' => vcOps P n ops ops.toList e w' (Q .normal)
        | false => False
      | .any loud => match Region.lexB .any ops && (loud.map (·.1)).all (fun j => Nat.blt j ops.size) with
        | true => RegK w fun C => vcAny P n ops loud C w ops.toList 0 e fun e' => ∀ w', C (mem (loud.map (·.1))) w' → Q .normal e' w'
        | false => False
      | .held h => match Region.noSelect ops with
        | true => DrewK w fun w' => HoldK fun S => vcHeld P n ops S h ops.size [] (Array.replicate ops.size false) e w' (Q .normal)
        | false => False
      | _ => False
  | .seq a b, p, e, w, Q => match p with
    | .seq pa pb => vcCode P n a pa e w (thenQ (fun e w => vcCode P n b pb e w Q) Q)
    | .join ks pa pb => JoinK (St (ks.map (·.2)))
        (fun J => vcCode P n a pa e w (thenQ (fun e' w' => St.ex (ks.map (·.2)) (slots e' ks) fun s => J s w') Q))
        (fun b' s w' => vcCode P n b pb ⟨bindS ks s (strike (dsts a) e.l), b'⟩ w' Q)
    | _ => vcCode P n a .auto e w (thenQ (fun e w => vcCode P n b .auto e w Q) Q)
  | .cond c x y, p, e, w, Q => match e.eval c with
    | .bool t => match p with
      | .cond px py => ifB t (vcCode P n x px e w Q) (vcCode P n y py e w Q)
      | _ => ifB t (vcCode P n x .auto e w Q) (vcCode P n y .auto e w Q)
    | _ => False
  | .block id c, p, e, w, Q => match p with
    | .block p => vcCode P n c p e w (blockQ id Q)
    | _ => vcCode P n c .auto e w (blockQ id Q)
  | .loop c, p, e, w, Q => match p with
    | .loop ks p => St.ex (ks.map (·.2)) (slots e ks) fun s0 =>
        LoopK (St (ks.map (·.2))) (fun b s w' next => vcCode P n c p ⟨bindS ks s (strike (dsts c) e.l), b⟩ w'
          (thenQ (fun e' w'' => St.ex (ks.map (·.2)) (slots e' ks) fun s' => next s' w'') Q)) s0 w
    | _ => False
  | .exit id, _, e, w, Q => Q (.exit id) e w
  | .ret, _, e, w, Q => Q .ret e w
  | _, _, _, _, _ => False

/-! ### A function -/
def argEnv : Nat → List Value → List (Nat × Value)
  | _, [] => []
  | i, v :: vs => (i, v) :: argEnv (i + 1) vs

def vcResult (P : Program) (e : Env) (w : World) : ResultVar → (Value → Prop) → Prop
  | .tmp t, K => K (e.get t)
  | .cell a t, K => match e.get a with
    | .pointer q => optA q fun p => vcLoad P t p w fun v _ => K v
    | _ => False

def vcResults (P : Program) (e : Env) (w : World) : List ResultVar → (List Value → Prop) → Prop
  | [], K => K []
  | r :: rs, K => vcResult P e w r fun v => vcResults P e w rs fun vs => K (v :: vs)

def oneOf : List Value → Value
  | [v] => v
  | vs => .tuple vs.toArray

def vcFunc (P : Program) (fn : Func) (p : Plan) (args : List Value) (w : World) (K : Value → World → Prop) : Prop :=
  match fn.body with
  | none => False
  | some c => match Nat.ble args.length fn.ntmps with
    | false => False
    | true => vcCode P fn.ntmps c p ⟨argEnv 0 args, fun _ => undef⟩ w fun x e w' => match x with
      | .normal | .ret => vcResults P e w' fn.results.toList fun vs => K (oneOf vs) w'
      | _ => False

end Vc
end Go.Proofs.YtlhbfdakceipkaaGreatDoor
