/-
  Memory for the conditions: blocks, what a step leaves alone, and a rule for each word of a condition.
-/
import Derived.Test.YtlhbfdakceipkaaGreatDoorVcSound
import Derived.Below
import Derived.IntWalk
namespace Go.Proofs.YtlhbfdakceipkaaGreatDoor
namespace Vc

theorem addr_add (b o n : Nat) : (⟨b, o, none⟩ : Addr).add n = ⟨b, o + n, none⟩ := by
  unfold Addr.add
  split
  · rename_i h; subst h; rfl
  · rfl

theorem wI {x : Int} (h1 : -9223372036854775808 ≤ x) (h2 : x ≤ 9223372036854775807) : IntKind.i64.wrap x = x := IntWalk.i64_in x ⟨h1, h2⟩
theorem wU {x : Int} (h1 : 0 ≤ x) (h2 : x ≤ 18446744073709551615) : IntKind.u64.wrap x = x := IntWalk.u64_in x ⟨h1, h2⟩
theorem wB {x : Int} (h1 : 0 ≤ x) (h2 : x ≤ 255) : IntKind.u8.wrap x = x := IntWalk.u8_in x ⟨h1, h2⟩

/-- Of what was there, nothing but the blocks of S has turned. -/
structure Fr (S : Nat → Prop) (w w' : World) : Prop where
  os : w'.os = w.os
  tape : w'.tape = w.tape
  output : w'.output = w.output
  size : w.heap.size ≤ w'.heap.size
  block : ∀ k, k < w.heap.size → ¬ S k → w'.heap[k]? = w.heap[k]?

def none1 : Nat → Prop := fun _ => False
def only (b : Nat) : Nat → Prop := fun k => k = b

theorem Fr.refl (S : Nat → Prop) (w : World) : Fr S w w := ⟨rfl, rfl, rfl, Nat.le_refl _, fun _ _ _ => rfl⟩

theorem Fr.comp {S T : Nat → Prop} {a b c : World} (h : Fr S a b) (k : Fr T b c) (hT : ∀ x, x < a.heap.size → T x → S x) : Fr S a c :=
  ⟨k.os.trans h.os, k.tape.trans h.tape, k.output.trans h.output, Nat.le_trans h.size k.size,
    fun i hi hn => (k.block i (Nat.lt_of_lt_of_le hi h.size) (fun t => hn (hT i hi t))).trans (h.block i hi hn)⟩

theorem Fr.trans {S : Nat → Prop} {a b c : World} (h : Fr S a b) (k : Fr S b c) : Fr S a c := h.comp k fun _ _ t => t
theorem Fr.mono {S T : Nat → Prop} {a b : World} (h : Fr S a b) (hT : ∀ x, x < a.heap.size → S x → T x) : Fr T a b :=
  ⟨h.os, h.tape, h.output, h.size, fun i hi hn => h.block i hi (fun t => hn (hT i hi t))⟩
theorem Fr.then0 {S : Nat → Prop} {a b c : World} (h : Fr S a b) (k : Fr none1 b c) : Fr S a c := h.comp k fun _ _ t => t.elim
theorem Fr.of0 {S : Nat → Prop} {a b c : World} (h : Fr none1 a b) (k : Fr S b c) : Fr S a c := (h.mono fun _ _ t => t.elim).trans k

theorem lt_of_blk {w : World} {b : Nat} {o : Obj} (h : w.heap[b]? = some o) : b < w.heap.size := (Array.getElem?_eq_some_iff.1 h).1

theorem Fr.keep {S : Nat → Prop} {w w' : World} (f : Fr S w w') {b : Nat} {o : Obj} (h : w.heap[b]? = some o) (hn : ¬ S b) : w'.heap[b]? = some o := by
  rw [f.block b (lt_of_blk h) hn]; exact h
theorem Fr.keep0 {w w' : World} (f : Fr none1 w w') {b : Nat} {o : Obj} (h : w.heap[b]? = some o) : w'.heap[b]? = some o := f.keep h (fun t => t)
theorem Fr.keep1 {c : Nat} {w w' : World} (f : Fr (only c) w w') {b : Nat} {o : Obj} (h : w.heap[b]? = some o) (hn : b ≠ c) : w'.heap[b]? = some o := f.keep h hn

theorem Fr.below {w w' : World} (f : Fr none1 w w') : Go.RowKit.Below w.heap.size w w' := ⟨f.os, f.tape, f.output, f.size, fun k hk => f.block k hk (fun t => t)⟩

/-- A write into a new block, and nothing else. -/
theorem Fr.fresh {b : Nat} {a w w' : World} (h : Fr none1 a w) (k : Fr (only b) w w') (hb : a.heap.size ≤ b) : Fr none1 a w' :=
  h.comp k fun x hx t => by have : x = b := t; omega

theorem heap_setCell_same {w : World} {b i : Nat} {v : Value} {cs : Array Value} {T : TypeId} {fr : Nat × Nat} (hb : w.heap[b]? = some (.cells cs T fr)) :
    (w.setCell ⟨b, i, none⟩ v).heap[b]? = some (.cells (cs.setIfInBounds i v) T fr) := by
  simp [World.setCell, Array.getElem?_modify, hb]

theorem setCell_fr (w : World) (b i : Nat) (v : Value) : Fr (only b) w (w.setCell ⟨b, i, none⟩ v) :=
  ⟨rfl, rfl, rfl, by simp [World.setCell], fun k _ hn => Go.RowKit.Below.heap_setCell _ _ _ _ hn⟩

theorem cell_blk {w : World} {b i : Nat} {cs : Array Value} {T : TypeId} {fr : Nat × Nat} (hb : w.heap[b]? = some (.cells cs T fr)) : w.cell? ⟨b, i, none⟩ = cs[i]? := by
  simp [World.cell?, hb]

theorem frozen_blk {w : World} {b i : Nat} {cs : Array Value} {T : TypeId} (hb : w.heap[b]? = some (.cells cs T (0, 0))) : w.frozen? ⟨b, i, none⟩ = false := by
  simp [World.frozen?, hb]

/-! ### A rule for each word -/
theorem LdK.of {c : Ck} {b i : Nat} {w : World} {K : c.C → Prop} {cs : Array Value} {T : TypeId} {fr : Nat × Nat} {x : c.C} (hb : w.heap[b]? = some (.cells cs T fr)) (hx : cs[i]? = some (c.val x)) (h : K x) :
    LdK c ⟨b, i, none⟩ w K := ⟨x, by rw [cell_blk hb, hx], h⟩
/-- The same, of a field. -/
theorem LdK.fld {c : Ck} {b i n : Nat} {w : World} {K : c.C → Prop} {cs : Array Value} {T : TypeId} {fr : Nat × Nat} {x : c.C} (hb : w.heap[b]? = some (.cells cs T fr)) (hx : cs[i + n]? = some (c.val x)) (h : K x) :
    LdK c ((⟨b, i, none⟩ : Addr).add n) w K := by rw [addr_add]; exact LdK.of hb hx h

theorem StK.of {b i : Nat} {v : Value} {w : World} {K : World → Prop} {cs : Array Value} {T : TypeId} (hb : w.heap[b]? = some (.cells cs T (0, 0))) (hi : i < cs.size) (h1 : one1 v = true)
    (h : ∀ w1, w1.heap[b]? = some (.cells (cs.setIfInBounds i v) T (0, 0)) → Fr (only b) w w1 → w1.heap.size = w.heap.size → K w1) : StK ⟨b, i, none⟩ v w K :=
  ⟨h1, by rw [cell_blk hb]; simp [hi], frozen_blk hb, h _ (heap_setCell_same hb) (setCell_fr _ _ _ _) (by simp [World.setCell])⟩
theorem StK.fld {b i n : Nat} {v : Value} {w : World} {K : World → Prop} {cs : Array Value} {T : TypeId} (hb : w.heap[b]? = some (.cells cs T (0, 0))) (hi : i + n < cs.size) (h1 : one1 v = true)
    (h : ∀ w1, w1.heap[b]? = some (.cells (cs.setIfInBounds (i + n) v) T (0, 0)) → Fr (only b) w w1 → w1.heap.size = w.heap.size → K w1) : StK ((⟨b, i, none⟩ : Addr).add n) v w K := by
  rw [addr_add]; exact StK.of hb hi h1 h

theorem push_fr (w : World) (o : Obj) : Fr none1 w { w with heap := w.heap.push o } :=
  ⟨rfl, rfl, rfl, by simp, fun k hk _ => by
    show (w.heap.push o)[k]? = _
    rw [Array.getElem?_push, if_neg (by omega)]⟩

theorem NewK.of {o : Obj} {w : World} {K : Nat → World → Prop} (h : ∀ g w1, w.heap.size = g → w1.heap[g]? = some o → Fr none1 w w1 → w1.heap.size = g + 1 → K g w1) : NewK o w K :=
  ⟨h _ _ rfl (by simp) (push_fr w o) (by simp)⟩

theorem DrewK.of {w : World} {K : World → Prop} (h : ∀ w1, w1.heap = w.heap → Fr none1 w w1 → K w1) : DrewK w K := ⟨h _ rfl ⟨rfl, rfl, rfl, Nat.le_refl _, fun _ _ _ => rfl⟩⟩

theorem CallK.of {P : Program} {f : FuncId} {args : Array Value} {w : World} {k : Rk} {K : k.C → World → Prop} {R : Value → World → Prop} (c : Ret P f args w R) (h : ∀ v w', R v w' → ∃ x, v = k.val x ∧ K x w') :
    CallK P f args w k K := ⟨c.mono fun _ w' ⟨v, he, hv⟩ => ⟨v, he, h v w' hv⟩⟩

theorem Ret.mono {P : Program} {f : FuncId} {args : Array Value} {w : World} {R R' : Value → World → Prop} (c : Ret P f args w R) (h : ∀ v w', R v w' → R' v w') : Ret P f args w R' :=
  Calls.mono c fun _ w' ⟨v, he, hv⟩ => ⟨v, he, h v w' hv⟩

theorem ifB.t {b : Bool} {A B : Prop} (h : b = true) (k : A) : ifB b A B := by subst h; exact k
theorem ifB.f {b : Bool} {A B : Prop} (h : b = false) (k : B) : ifB b A B := by subst h; exact k
theorem ifB.by {b : Bool} {A B : Prop} (h : b = true → A) (k : b = false → B) : ifB b A B := by cases b; exact k rfl; exact h rfl
theorem ifB.yes {p : Prop} [Decidable p] {A B : Prop} (h : p) (k : A) : ifB (decide p) A B := ifB.t (decide_eq_true h) k
theorem ifB.no {p : Prop} [Decidable p] {A B : Prop} (h : ¬ p) (k : B) : ifB (decide p) A B := ifB.f (decide_eq_false h) k
theorem ifB.dec {p : Prop} [Decidable p] {A B : Prop} (h : p → A) (k : ¬ p → B) : ifB (decide p) A B := ifB.by (fun e => h (of_decide_eq_true e)) (fun e => k (of_decide_eq_false e))
theorem ifB.eq {α : Type} [BEq α] [LawfulBEq α] {a b : α} {A B : Prop} (h : a = b → A) (k : a ≠ b → B) : ifB (a == b) A B := ifB.by (fun e => h (eq_of_beq e)) (fun e => k (fun x => by subst x; simp at e))
theorem ifB.ne {α : Type} [BEq α] [LawfulBEq α] {a b : α} {A B : Prop} (h : a ≠ b → A) (k : a = b → B) : ifB (a != b) A B := by
  by_cases e : a = b
  · exact ifB.f (by simp [e]) (k e)
  · exact ifB.t (by simp [e]) (h e)
theorem ifB.not {b : Bool} {A B : Prop} (h : ifB b B A) : ifB (!b) A B := by cases b <;> exact h

theorem IdxK.of {b o len : Nat} {i : Int} {size : Nat} {K : Addr → Prop} (h0 : 0 ≤ i) (h1 : i < len) (h : K ⟨b, o + i.toNat * size, none⟩) : IdxK (some ⟨b, o, none⟩) len i size K :=
  ⟨_, rfl, h0, h1, by rw [addr_add]; exact h⟩

theorem LoopK.of {σ : Type} {body : (Nat → Value) → σ → World → (σ → World → Prop) → Prop} {s : σ} {w : World} (I : σ → World → Prop) (μ : σ → World → Nat) (h0 : I s w)
    (h : ∀ b s w, I s w → body b s w fun s' w' => I s' w' ∧ μ s' w' < μ s w) : LoopK σ body s w := ⟨I, μ, h0, h⟩
theorem JoinK.of {σ : Type} {first : (σ → World → Prop) → Prop} {rest : (Nat → Value) → σ → World → Prop} (J : σ → World → Prop) (h1 : first J) (h2 : ∀ b s w, J s w → rest b s w) : JoinK σ first rest := ⟨J, h1, h2⟩

/-! ### Structs as a whole -/
theorem cellsAt_all {w : World} {b : Nat} {cs : Array Value} {T : TypeId} {fr : Nat × Nat} (hb : w.heap[b]? = some (.cells cs T fr)) : ∀ (vs : List Value) (i : Nat), (∀ j, j < vs.length → cs[i + j]? = vs[j]?) → CellsAt w ⟨b, 0, none⟩ i vs
  | [], _, _ => trivial
  | v :: vs, i, h => by
    refine ⟨?_, cellsAt_all hb vs (i + 1) fun j hj => ?_⟩
    · rw [addr_add, cell_blk hb]
      have := h 0 (by simp)
      simpa using this
    · have := h (j + 1) (by simp; omega)
      rw [show i + 1 + j = i + (j + 1) by omega, this]
      simp

/-- A struct, read. -/
theorem LdsK.blk {cks : List Ck} {b : Nat} {w : World} {K : Cs cks → Prop} {T : TypeId} {fr : Nat × Nat} {x : Cs cks} (hb : w.heap[b]? = some (.cells (Cs.vals cks x).toArray T fr)) (h : K x) : LdsK cks ⟨b, 0, none⟩ w K :=
  ⟨x, cellsAt_all hb _ 0 fun j _ => by simp, h⟩

theorem setCells_all {b : Nat} {T : TypeId} : ∀ (vs : List Value) (w : World) (pre cs : List Value), w.heap[b]? = some (.cells (pre ++ cs).toArray T (0, 0)) → cs.length = vs.length → vs.all one1 = true →
    Writes w ⟨b, 0, none⟩ pre.length vs ∧ (setCells w ⟨b, 0, none⟩ pre.length vs).heap[b]? = some (.cells (pre ++ vs).toArray T (0, 0)) ∧ Fr (only b) w (setCells w ⟨b, 0, none⟩ pre.length vs) ∧ (setCells w ⟨b, 0, none⟩ pre.length vs).heap.size = w.heap.size
  | [], w, pre, cs, hb, hl, _ => by
    have : cs = [] := by simpa using hl
    subst this
    exact ⟨trivial, hb, Fr.refl _ _, rfl⟩
  | v :: vs, w, pre, cs, hb, hl, h1 => by
    cases cs with
    | nil => simp at hl
    | cons c cs =>
      simp only [List.all_cons, Bool.and_eq_true] at h1
      have hs := heap_setCell_same (i := 0 + pre.length) (v := v) hb
      have hs' : (w.setCell ⟨b, 0 + pre.length, none⟩ v).heap[b]? = some (.cells ((pre ++ [v]) ++ cs).toArray T (0, 0)) := by
        rw [hs]
        congr 2
        apply Array.ext'
        simp
      obtain ⟨a1, a2, a3, a4⟩ := setCells_all vs (w.setCell ⟨b, 0 + pre.length, none⟩ v) (pre ++ [v]) cs hs' (by simpa using hl) h1.2
      rw [List.length_append, List.length_singleton] at a1 a2 a3 a4
      unfold Writes setCells
      rw [addr_add]
      refine ⟨⟨h1.1, by rw [cell_blk hb]; simp, frozen_blk hb, a1⟩, by rw [a2]; simp, (setCell_fr w b _ v).trans a3, by rw [a4]; simp [World.setCell]⟩

/-- A struct, written. -/
theorem StsK.blk {b : Nat} {vs : List Value} {w : World} {K : World → Prop} {cs : List Value} {T : TypeId} (hb : w.heap[b]? = some (.cells cs.toArray T (0, 0))) (hl : cs.length = vs.length) (h1 : vs.all one1 = true)
    (h : ∀ w1, w1.heap[b]? = some (.cells vs.toArray T (0, 0)) → Fr (only b) w w1 → w1.heap.size = w.heap.size → K w1) : StsK ⟨b, 0, none⟩ vs w K := by
  obtain ⟨a1, a2, a3, a4⟩ := setCells_all vs w [] cs hb hl h1
  exact ⟨a1, h _ a2 a3 a4⟩

/-! ### A region in whatever order, all of whose operations leave the heap as it is -/
def calm (w : World) : (Nat → Bool) → World → Prop := fun _ w' => w.heap = w'.heap ∧ Fr none1 w w'
theorem calm.refl (w : World) (D : Nat → Bool) : calm w D w := ⟨rfl, Fr.refl _ _⟩
theorem RegK.calm {w : World} {body : ((Nat → Bool) → World → Prop) → Prop} (h : body (Vc.calm w)) : RegK w body := ⟨Vc.calm w, ⟨rfl, ⟨rfl, rfl, rfl, Nat.le_refl _, fun _ _ _ => rfl⟩⟩, h⟩
theorem AnyK.calm {w : World} {i : Nat} {pr : List Nat} {k : Rk} {op : World → (Value → World → Prop) → Prop} {next : k.C → Prop} (x : k.C)
    (h : ∀ w1, w.heap = w1.heap → Fr none1 w w1 → op w1 fun v w' => v = k.val x ∧ Vc.calm w (fun _ => true) w') (hn : next x) : AnyK (Vc.calm w) i pr k op next :=
  ⟨x, fun _ w1 _ _ hC => h w1 hC.1 hC.2, hn⟩

/-! ### What came in -/
/-- A slice of integers that came in: nil, or a row of 'cap' cells that hold the numbers 'zs'; the first 'len' are its elements. -/
def IsInts (k : IntKind) (w : World) (a : Option Addr) (len cap : Nat) (zs : List Int) : Prop :=
  (a = none ∧ len = 0 ∧ cap = 0 ∧ zs = []) ∨
  ∃ x, a = some x ∧ len ≤ cap ∧ cap ≤ maxLen ∧ zs.length = cap ∧ (∀ i, i < zs.length → w.cell? (x.add i) = some (.int k (zs.getD i 0))) ∧ ∀ n ∈ zs, (Lit.int k n).wf = true
def IsStrs (w : World) (a : Option Addr) (len cap : Nat) (zs : List ByteArray) : Prop :=
  (a = none ∧ len = 0 ∧ cap = 0 ∧ zs = []) ∨
  ∃ x, a = some x ∧ len ≤ cap ∧ cap ≤ maxLen ∧ zs.length = cap ∧ (∀ i, i < zs.length → w.cell? (x.add i) = some (.string (zs.getD i ByteArray.empty))) ∧ ∀ s ∈ zs, s.size ≤ maxLen

theorem blk_of_cell {w : World} {p : Addr} {v : Value} (h : w.cell? p = some v) : p.block < w.heap.size := by
  unfold World.cell? at h
  split at h
  · rename_i hb; exact lt_of_blk hb
  · cases h
theorem Fr.cell {S : Nat → Prop} {w w' : World} (f : Fr S w w') {p : Addr} {v : Value} (h : w.cell? p = some v) (hn : ¬ S p.block) : w'.cell? p = some v := by
  have hb := f.block p.block (blk_of_cell h) hn
  unfold World.cell? at h ⊢
  rw [hb]; exact h
theorem Fr.cell0 {w w' : World} (f : Fr none1 w w') {p : Addr} {v : Value} (h : w.cell? p = some v) : w'.cell? p = some v := f.cell h (fun t => t)

theorem Fr.kept {S T : Nat → Prop} {w w' : World} (f : Fr T w w') (h : ∀ k, S k → ¬ T k) : Kept S w w' := fun _ _ hs hc => f.cell hc (h _ hs)
theorem KeepK.on {S T : Nat → Prop} {w w' : World} {K : Prop} (f : Fr T w w') (h : ∀ k, S k → ¬ T k) (k : K) : KeepK S w w' K := ⟨f.kept h, k⟩
theorem KeepK.of {S : Nat → Prop} {w w' : World} {K : Prop} (f : Fr none1 w w') (k : K) : KeepK S w w' K := ⟨f.kept fun _ _ t => t, k⟩
/-- All that there is may be read. -/
def all1 : Nat → Prop := fun _ => True
theorem HoldK.all {body : (Nat → Prop) → Prop} (h : body all1) : HoldK body := ⟨all1, h⟩
theorem HoldK.of {body : (Nat → Prop) → Prop} (S : Nat → Prop) (h : body S) : HoldK body := ⟨S, h⟩
theorem InK.all {p : Addr} {K : Prop} (k : K) : InK all1 p K := ⟨trivial, k⟩

theorem LdK.cell {c : Ck} {p : Addr} {w : World} {K : c.C → Prop} {x : c.C} (h : w.cell? p = some (c.val x)) (k : K x) : LdK c p w K := ⟨x, h, k⟩

/-- An element of a slice of integers that came in, read where nothing of it was written. -/
theorem IsInts.ld {k : IntKind} {w w' : World} {a : Option Addr} {len cap : Nat} {zs : List Int} (h : IsInts k w a len cap zs) (f : Fr none1 w w') {i : Int} (h0 : 0 ≤ i) (h1 : i < len) {K : Int → Prop}
    (hK : K (zs.getD i.toNat 0)) : IdxK a len i 1 fun p => LdK (.int k) p w' K := by
  rcases h with ⟨_, rfl, _, _⟩ | ⟨x, rfl, hl, hc, hz, hcell, _⟩
  · omega
  · refine ⟨x, rfl, h0, h1, ?_⟩
    rw [Nat.mul_one]
    exact LdK.cell (f.cell0 (hcell i.toNat (by omega))) hK

theorem IsInts.i64 {w : World} {a : Option Addr} {len cap : Nat} {zs : List Int} (h : IsInts .i64 w a len cap zs) (i : Nat) : -9223372036854775808 ≤ zs.getD i 0 ∧ zs.getD i 0 ≤ 9223372036854775807 := by
  rcases h with ⟨_, _, _, rfl⟩ | ⟨x, rfl, hl, hc, hz, _, hw⟩
  · simp
  · rw [List.getD_eq_getElem?_getD]
    cases hi : zs[i]? with
    | none => simp
    | some n =>
      have hm := hw n (List.mem_of_getElem? hi)
      simp [Lit.wf, IntKind.min, IntKind.max, IntKind.signed, IntKind.bits] at hm
      simp only [Option.getD_some]
      omega

theorem IsInts.len_le {k : IntKind} {w : World} {a : Option Addr} {len cap : Nat} {zs : List Int} (h : IsInts k w a len cap zs) : (len : Int) ≤ 9223372036854775807 := by
  rcases h with ⟨_, rfl, _, _⟩ | ⟨x, _, hl, hc, _⟩
  · omega
  · unfold maxLen at hc; omega

theorem IsStrs.ld {w w' : World} {a : Option Addr} {len cap : Nat} {zs : List ByteArray} (h : IsStrs w a len cap zs) (f : Fr none1 w w') {i : Int} (h0 : 0 ≤ i) (h1 : i < len) {K : ByteArray → Prop}
    (hK : K (zs.getD i.toNat ByteArray.empty)) : IdxK a len i 1 fun p => LdK .str p w' K := by
  rcases h with ⟨_, rfl, _, _⟩ | ⟨x, rfl, hl, hc, hz, hcell, _⟩
  · omega
  · refine ⟨x, rfl, h0, h1, ?_⟩
    rw [Nat.mul_one]
    exact LdK.cell (f.cell0 (hcell i.toNat (by omega))) hK

theorem IsStrs.len_le {w : World} {a : Option Addr} {len cap : Nat} {zs : List ByteArray} (h : IsStrs w a len cap zs) : (len : Int) ≤ 9223372036854775807 := by
  rcases h with ⟨_, rfl, _, _⟩ | ⟨x, _, hl, hc, _⟩
  · omega
  · unfold maxLen at hc; omega

end Vc
end Go.Proofs.YtlhbfdakceipkaaGreatDoor
