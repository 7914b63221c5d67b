/-
  Slices as lists of cells: what append, make, slice literals and copies leave.
-/
import Derived.Test.YtlhbfdakceipkaaGreatDoorVcMem
namespace Go.Proofs.YtlhbfdakceipkaaGreatDoor
namespace Vc
variable {P : Program}

abbrev Sl := Option Addr × Nat × Nat

/-- The block that a slice leads to. -/
def blkOf (v : Sl) : Nat → Prop := fun k => ∃ a, v.1 = some a ∧ k = a.block

/-- Slice v, of elements of type E with s cells each, holds the cells xs, and may be written to. -/
def IsSl (w : World) (E s : Nat) (v : Sl) (xs : List Value) : Prop :=
  (v = (none, 0, 0) ∧ xs = []) ∨
  ∃ g off cs, v.1 = some ⟨g, off, none⟩ ∧ w.heap[g]? = some (.cells cs E (0, 0)) ∧ v.2.1 ≤ v.2.2 ∧ off + v.2.2 * s ≤ cs.size ∧ xs.length = v.2.1 * s ∧ ∀ i, i < xs.length → cs[off + i]? = xs[i]?

theorem IsSl.keep {w w' : World} {E s : Nat} {v : Sl} {xs : List Value} (h : IsSl w E s v xs) {S : Nat → Prop} (f : Fr S w w') (hn : ∀ k, blkOf v k → ¬ S k) : IsSl w' E s v xs := by
  rcases h with h | ⟨g, off, cs, h1, h2, h3⟩
  · exact .inl h
  · exact .inr ⟨g, off, cs, h1, f.keep h2 (hn g ⟨_, h1, rfl⟩), h3⟩
theorem IsSl.keep0 {w w' : World} {E s : Nat} {v : Sl} {xs : List Value} (h : IsSl w E s v xs) (f : Fr none1 w w') : IsSl w' E s v xs := h.keep f (fun _ _ t => t)
theorem IsSl.lt {w : World} {E s : Nat} {v : Sl} {xs : List Value} (h : IsSl w E s v xs) {k : Nat} (hk : blkOf v k) : k < w.heap.size := by
  obtain ⟨a, ha, rfl⟩ := hk
  rcases h with ⟨rfl, _⟩ | ⟨g, off, cs, h1, h2, h3⟩
  · cases ha
  · rw [h1] at ha; injection ha with ha; subst ha; exact lt_of_blk h2
theorem IsSl.len {w : World} {E s : Nat} {v : Sl} {xs : List Value} (h : IsSl w E s v xs) : xs.length = v.2.1 * s := by
  rcases h with ⟨rfl, rfl⟩ | ⟨g, off, cs, h1, h2, h3, h4, h5, h6⟩
  · simp
  · exact h5

/-- An element of a slice of one-cell elements. -/
theorem IsSl.ld {w : World} {E : Nat} {v : Sl} {xs : List Value} (h : IsSl w E 1 v xs) {c : Ck} {K : c.C → Prop} {i : Int} (h0 : 0 ≤ i) (h1 : i < v.2.1) {x : c.C} (hx : xs[i.toNat]? = some (c.val x)) (k : K x) :
    IdxK v.1 v.2.1 i 1 fun p => LdK c p w K := by
  rcases h with ⟨rfl, rfl⟩ | ⟨g, off, cs, hv, hb, hl, hc, hn, he⟩
  · simp at hx
  · refine ⟨_, hv, h0, h1, ?_⟩
    rw [addr_add]
    refine LdK.of hb ?_ k
    rw [Nat.mul_one, he i.toNat (by rw [hn]; omega)]
    exact hx

theorem cellsAt_blk {w : World} {g : Nat} {cs : Array Value} {T : TypeId} {fr : Nat × Nat} (hb : w.heap[g]? = some (.cells cs T fr)) : ∀ (vs : List Value) (off i : Nat), (∀ j, j < vs.length → cs[off + i + j]? = vs[j]?) → CellsAt w ⟨g, off, none⟩ i vs
  | [], _, _, _ => trivial
  | v :: vs, off, i, h => by
    refine ⟨?_, cellsAt_blk hb vs off (i + 1) fun j hj => ?_⟩
    · rw [addr_add, cell_blk hb]
      have := h 0 (by simp)
      simpa using this
    · have := h (j + 1) (by simp; omega)
      rw [show off + (i + 1) + j = off + i + (j + 1) by omega, this]
      simp

/-- The cells of a slice, read. -/
theorem IsSl.first {w : World} {E s : Nat} {v : Sl} {xs : List Value} (h : IsSl w E s v xs) : (Builtin.firstCells s v.2.1 (.slice v.1 v.2.1 v.2.2)).run P w = .ok xs.toArray w := by
  rcases h with ⟨rfl, rfl⟩ | ⟨g, off, cs, hv, hb, hl, hc, hn, he⟩
  · rfl
  · rw [hv]
    simp only [Builtin.firstCells]
    rw [← hn]
    exact loadCells_ok xs (cellsAt_blk hb xs off 0 fun j hj => by rw [Nat.add_zero]; exact he j hj)

/-- A slice that can be read: its cells. -/
def RdSl (w : World) (s : Nat) (v : Sl) (xs : List Value) : Prop := xs.length = v.2.1 * s ∧ (v.1 = none → v.2.1 = 0 ∧ v.2.2 = 0 ∧ xs = []) ∧ ∀ a, v.1 = some a → CellsAt w a 0 xs

theorem IsSl.rd {w : World} {E s : Nat} {v : Sl} {xs : List Value} (h : IsSl w E s v xs) : RdSl w s v xs := by
  refine ⟨h.len, fun hn => ?_, fun a ha => ?_⟩
  · rcases h with ⟨rfl, rfl⟩ | ⟨g, off, cs, hv, _⟩
    · exact ⟨rfl, rfl, rfl⟩
    · rw [hv] at hn; cases hn
  · rcases h with ⟨rfl, rfl⟩ | ⟨g, off, cs, hv, hb, hl, hc, hn, he⟩
    · trivial
    · rw [hv] at ha; injection ha with ha; subst ha
      exact cellsAt_blk hb xs off 0 fun j hj => by rw [Nat.add_zero]; exact he j hj

theorem cellsAt_keep {w w' : World} {S : Nat → Prop} (f : Fr S w w') {a : Addr} (hn : ¬ S a.block) : ∀ (vs : List Value) (i : Nat), CellsAt w a i vs → CellsAt w' a i vs
  | [], _, _ => trivial
  | v :: vs, i, ⟨h1, h2⟩ => ⟨f.cell h1 (by unfold Addr.add; split <;> exact hn), cellsAt_keep f hn vs (i + 1) h2⟩

theorem RdSl.keep {w w' : World} {s : Nat} {v : Sl} {xs : List Value} (h : RdSl w s v xs) {S : Nat → Prop} (f : Fr S w w') (hn : ∀ k, blkOf v k → ¬ S k) : RdSl w' s v xs :=
  ⟨h.1, h.2.1, fun a ha => cellsAt_keep f (hn _ ⟨a, ha, rfl⟩) _ _ (h.2.2 a ha)⟩
theorem RdSl.keep0 {w w' : World} {s : Nat} {v : Sl} {xs : List Value} (h : RdSl w s v xs) (f : Fr none1 w w') : RdSl w' s v xs := h.keep f (fun _ _ t => t)

theorem RdSl.first {w : World} {s : Nat} {v : Sl} {xs : List Value} (h : RdSl w s v xs) : (Builtin.firstCells s v.2.1 (.slice v.1 v.2.1 v.2.2)).run P w = .ok xs.toArray w := by
  obtain ⟨h1, h2, h3⟩ := h
  cases hv : v.1 with
  | none =>
    obtain ⟨_, _, rfl⟩ := h2 hv
    rfl
  | some a =>
    simp only [Builtin.firstCells]
    rw [← h1]
    exact loadCells_ok xs (h3 a hv)

theorem cellsAt_get {w : World} {a : Addr} : ∀ (vs : List Value) (i j : Nat) (v : Value), CellsAt w a i vs → vs[j]? = some v → w.cell? (a.add (i + j)) = some v
  | [], _, _, _, _, h => by simp at h
  | u :: vs, i, 0, v, ⟨h1, _⟩, h => by simp at h; subst h; exact h1
  | u :: vs, i, j + 1, v, ⟨_, h2⟩, h => by
    have := cellsAt_get vs (i + 1) j v h2 (by simpa using h)
    rw [show i + (j + 1) = i + 1 + j by omega]; exact this

theorem RdSl.ld {w : World} {v : Sl} {xs : List Value} (h : RdSl w 1 v xs) {c : Ck} {K : c.C → Prop} {i : Int} (h0 : 0 ≤ i) (h1 : i < v.2.1) {x : c.C} (hx : xs[i.toNat]? = some (c.val x)) (k : K x) :
    IdxK v.1 v.2.1 i 1 fun p => LdK c p w K := by
  obtain ⟨q1, q2, q3⟩ := h
  cases hv : v.1 with
  | none => have := (q2 hv).1; omega
  | some a =>
    refine ⟨a, rfl, h0, h1, ?_⟩
    have := cellsAt_get xs 0 i.toNat _ (q3 a hv) hx
    rw [Nat.mul_one]
    rw [Nat.zero_add] at this
    exact LdK.cell this k

theorem writes_blk {g : Nat} {T : TypeId} : ∀ (vs : List Value) (w : World) (cs : Array Value) (off i : Nat), w.heap[g]? = some (.cells cs T (0, 0)) → off + i + vs.length ≤ cs.size → (∀ v ∈ vs, one1 v = true) →
    Writes w ⟨g, off, none⟩ i vs ∧ ∃ cs', (setCells w ⟨g, off, none⟩ i vs).heap[g]? = some (.cells cs' T (0, 0)) ∧ cs'.size = cs.size ∧ (∀ j, j < vs.length → cs'[off + i + j]? = vs[j]?) ∧ (∀ j, j < off + i → cs'[j]? = cs[j]?) ∧
      Fr (only g) w (setCells w ⟨g, off, none⟩ i vs) ∧ (setCells w ⟨g, off, none⟩ i vs).heap.size = w.heap.size
  | [], w, cs, off, i, hb, _, _ => ⟨trivial, cs, hb, rfl, fun j hj => by simp at hj, fun _ _ => rfl, Fr.refl _ _, rfl⟩
  | v :: vs, w, cs, off, i, hb, hl, h1 => by
    simp only [List.length_cons] at hl
    have hs := heap_setCell_same (i := off + i) (v := v) hb
    have hf := setCell_fr w g (off + i) v
    obtain ⟨hw, cs', a1, a2, a3, a4, a5, a6⟩ := writes_blk vs (w.setCell ⟨g, off + i, none⟩ v) _ off (i + 1) hs (by simp; omega) (fun u hu => h1 u (by simp [hu]))
    unfold Writes setCells
    rw [addr_add]
    refine ⟨⟨h1 v (by simp), by rw [cell_blk hb]; simp; omega, frozen_blk hb, hw⟩, cs', a1, by rw [a2]; simp, fun j hj => ?_, fun j hj => ?_, hf.trans a5, by rw [a6]; simp [World.setCell]⟩
    · cases j with
      | zero =>
        have := a4 (off + i) (by omega)
        simp only [Nat.add_zero, this]
        rw [Array.getElem?_setIfInBounds_self_of_lt (by omega)]
        rfl
      | succ j =>
        have := a3 j (by simp at hj; omega)
        rw [show off + i + (j + 1) = off + (i + 1) + j by omega, this]; simp
    · rw [a4 j (by omega)]
      rw [Array.getElem?_setIfInBounds_ne (by omega)]

theorem growBy_le (n : Nat) : ∀ (r c : Nat), c ≤ 2 * n + 192 → Builtin.growBy n r c ≤ 2 * n + 192
  | 0, c, h => h
  | r + 1, c, h => by
    unfold Builtin.growBy
    split
    · exact h
    · exact growBy_le n r _ (by omega)

theorem nextcap_le {n c : Nat} (h : c < n) : Builtin.nextslicecap n c ≤ 2 * n + 192 := by
  unfold Builtin.nextslicecap
  split
  · omega
  · split
    · omega
    · exact growBy_le n 4 c (by omega)

/-- The type of a slice's elements, in the program's table. -/
structure ElemOk (P : Program) (t E s : Nat) (z : Value) (bytes : Nat) : Prop where
  under : P.underlying t = some (.slice E)
  info : ∃ i, P.info? E = some i ∧ i.size = s ∧ i.zero = some z ∧ i.bytes = bytes
  cells : z.cells.size = s
  pos : 0 < bytes

theorem drew_fr (w : World) : Fr none1 w { w with drawn := w.drawn + 1 } := ⟨rfl, rfl, rfl, Nat.le_refl _, fun _ _ _ => rfl⟩

/-- append of whatever has cells. -/
theorem append_gen {w : World} {t t2 E s bytes n : Nat} {z yv : Value} {x : Sl} {xs ys : List Value} (he : ElemOk P t E s z bytes) (o : TypeId) (hu2 : ∃ d, P.underlying t2 = some d ∧ (d = .string ∨ ∃ E2, d = .slice E2)) (hx : IsSl w E s x xs)
    (hyn : ys.length = n * s) (hlenv : ∀ w, (Builtin.lenOf yv).run P w = .ok n w) (hfst : ∀ w', Fr none1 w w' → (Builtin.firstCells s n yv).run P w' = .ok ys.toArray w') (h1 : ∀ v ∈ ys, one1 v = true)
    (hb : (2 * (x.2.1 + n) + 192) * bytes ≤ 2 ^ 48) :
    ∃ v w', (Builtin.append_ #[t, t2] o #[.slice x.1 x.2.1 x.2.2, yv]).run P w = .ok (.slice v.1 v.2.1 v.2.2) w' ∧ IsSl w' E s v (xs ++ ys) ∧ v.2.1 = x.2.1 + n ∧ Fr (blkOf x) w w' ∧
      (∀ k, blkOf v k → blkOf x k ∨ w.heap.size ≤ k) := by
  obtain ⟨hu, ⟨i, hi, hs, hz, hby⟩, hc, hpos⟩ := he
  unfold Builtin.append_
  obtain ⟨d2, hu2, hd2⟩ := hu2
  have hsize : ∀ w, (sizeOf E).run P w = .ok s w := fun w => by rw [sizeof hi, hs]
  rcases hd2 with rfl | ⟨E2, rfl⟩
  all_goals
    simp only [Sem.run_bind, under hu, under hu2, Result.andThen_ok, hsize, List.getElem?_toArray, List.getElem?_cons_zero, List.getElem?_cons_succ, Sem.run_pure, Bool.false_eq_true, if_false, hlenv]
    by_cases hroom : x.2.1 + n ≤ x.2.2
    · rw [if_pos hroom]
      simp only [Bool.not_false, if_true, Sem.run_bind, hfst w (Fr.refl _ _), Result.andThen_ok]
      rcases hx with ⟨rfl, rfl⟩ | ⟨g, off, cs, hv, hbk, hl, hcp, hn, hel⟩
      · have hy0 : n = 0 := by simp at hroom; omega
        have hys : ys = [] := by have := hyn; rw [hy0] at this; simpa using this
        subst hys
        refine ⟨(none, 0, 0), w, by simp [hy0], .inl ⟨rfl, rfl⟩, by simp [hy0], Fr.refl _ _, fun k ⟨a, ha, _⟩ => by cases ha⟩
      · have hyl := hyn
        have hmul : (x.2.1 + n) * s ≤ x.2.2 * s := Nat.mul_le_mul_right _ hroom
        rw [Nat.add_mul] at hmul
        obtain ⟨hw, cs', a1, a2, a3, a4, a5, a6⟩ := writes_blk ys w cs (off + x.2.1 * s) 0 hbk (by omega) h1
        rw [hv]
        simp only [addr_add, Sem.run_bind]
        rw [show (storeCells ⟨g, off + x.2.1 * s, none⟩ ys.toArray.toList 0).run P w = .ok () _ from storeCells_ok ys 0 w hw]
        refine ⟨(some ⟨g, off, none⟩, x.2.1 + n, x.2.2), _, rfl, .inr ⟨g, off, cs', rfl, a1, hroom, by rw [a2]; exact hcp, by simp [hn, hyl, Nat.add_mul], fun j hj => ?_⟩, rfl, a5.mono (fun k _ hk => ⟨_, hv, hk⟩), fun k ⟨a, ha, hk⟩ => .inl ⟨_, hv, by injection ha with ha; subst ha; exact hk⟩⟩
        simp at hj
        by_cases hjx : j < xs.length
        · rw [a4 (off + j) (by omega), hel j hjx, List.getElem?_append_left hjx]
        · have := a3 (j - xs.length) (by omega)
          rw [List.getElem?_append_right (by omega), ← this]
          congr 1; omega
    · rw [if_neg hroom]
      have hti : ∀ w, (typeInfo E).run P w = .ok i w := fun w => by simp [typeInfo, hi]
      have hcap : Builtin.nextslicecap (x.2.1 + n) x.2.2 * i.bytes ≤ 2 ^ 48 := by
        rw [hby]
        exact Nat.le_trans (Nat.mul_le_mul_right _ (nextcap_le (by omega))) hb
      have hn2 : ¬ (((x.2.1 + n : Nat) : Int) > IntKind.i64.max ∧ (False ∨ i.bytes = 0)) := by
        rintro ⟨_, h | h⟩
        · exact h
        · omega
      simp only [Sem.run_bind, hti, Result.andThen_ok, Sem.run_ite]
      rw [if_neg hn2, if_neg (show ¬ (Builtin.nextslicecap (x.2.1 + n) x.2.2 * i.bytes > 2 ^ 48) by omega)]
      simp only [run_choose, Question.forced, Bool.false_eq_true, if_false, Result.andThen_ok, run_askRoom]
      generalize hnc : (Question.appendCap (x.2.1 + n) x.2.2 E).cut _ = nc
      have hge : x.2.1 + n ≤ nc := by rw [← hnc]; simp [Question.cut]
      have f1 := drew_fr w
      rw [(hx.keep0 f1).first]
      simp only [Result.andThen_ok, Bool.not_false, if_true]
      rw [hfst _ f1]
      simp only [Result.andThen_ok, zeroof hi hz, newRow, Sem.run_bind, run_newObj, Sem.run_pure]
      refine ⟨(some ⟨w.heap.size, 0, none⟩, x.2.1 + n, nc), _, rfl, .inr ⟨w.heap.size, 0, _, rfl, Array.getElem?_push_size .., hge, ?_, by simp [hx.len, hyn, Nat.add_mul], fun j hj => ?_⟩, rfl,
        ((f1.trans (push_fr _ _)).mono fun _ _ t => t.elim), fun k ⟨a, ha, hk⟩ => .inr (by injection ha with ha; subst ha; subst hk; exact Nat.le_refl _)⟩
      · simp only [Array.size_append, List.size_toArray, Builtin.zeroCells, Array.size_map, Array.size_range, hx.len, hyn, hc]
        have : nc = (x.2.1 + n) + (nc - (x.2.1 + n)) := by omega
        have h2 : nc * s = (x.2.1 + n) * s + (nc - (x.2.1 + n)) * s := by rw [← Nat.add_mul, ← this]
        rw [Nat.add_mul] at h2
        show 0 + nc * s ≤ _
        omega
      · rw [Nat.zero_add, Array.getElem?_append_left (by simpa using hj)]
        simp [List.getElem?_append]

/-- append of a slice. -/
theorem append_ok {w : World} {t E s bytes : Nat} {z : Value} {x y : Sl} {xs ys : List Value} (he : ElemOk P t E s z bytes) (o : TypeId) (hx : IsSl w E s x xs) (hy : RdSl w s y ys) (h1 : ∀ v ∈ ys, one1 v = true)
    (hb : (2 * (x.2.1 + y.2.1) + 192) * bytes ≤ 2 ^ 48) :
    ∃ v w', (Builtin.append_ #[t, t] o #[.slice x.1 x.2.1 x.2.2, .slice y.1 y.2.1 y.2.2]).run P w = .ok (.slice v.1 v.2.1 v.2.2) w' ∧ IsSl w' E s v (xs ++ ys) ∧ v.2.1 = x.2.1 + y.2.1 ∧ Fr (blkOf x) w w' ∧
      (∀ k, blkOf v k → blkOf x k ∨ w.heap.size ≤ k) :=
  append_gen he o ⟨_, he.under, .inr ⟨_, rfl⟩⟩ hx hy.1 (fun _ => rfl) (fun _ f => (hy.keep0 f).first) h1 hb
/-- append of a text. -/
theorem append_text {w : World} {t st E bytes : Nat} {z : Value} {x : Sl} {xs : List Value} (he : ElemOk P t E 1 z bytes) (o : TypeId) (hst : P.underlying st = some .string) (hx : IsSl w E 1 x xs) (s : ByteArray)
    (hb : (2 * (x.2.1 + s.size) + 192) * bytes ≤ 2 ^ 48) :
    ∃ v w', (Builtin.append_ #[t, st] o #[.slice x.1 x.2.1 x.2.2, .string s]).run P w = .ok (.slice v.1 v.2.1 v.2.2) w' ∧ IsSl w' E 1 v (xs ++ s.data.toList.map fun b => .int .u8 (b.toNat : Int)) ∧ v.2.1 = x.2.1 + s.size ∧ Fr (blkOf x) w w' ∧
      (∀ k, blkOf v k → blkOf x k ∨ w.heap.size ≤ k) :=
  append_gen he o ⟨_, hst, .inl rfl⟩ hx (by rw [List.length_map, Array.length_toList, Nat.mul_one]; rfl) (fun _ => rfl) (fun _ _ => by
    have e : s.extract 0 s.size = s := ByteArray.ext (by rw [ByteArray.data_extract]; exact Array.extract_size)
    simp only [Builtin.firstCells, e, Sem.run_pure]
    refine congrArg (fun a => Result.ok a _) ?_
    apply Array.ext'
    rw [Array.toList_map]) (by intro v hv; obtain ⟨b, _, rfl⟩ := List.mem_map.1 hv; rfl) hb

/-- A slice literal. -/
theorem buildSlice_ok {w : World} {t E s bytes : Nat} {z : Value} (he : ElemOk P t E s z bytes) (n : Nat) (parts : Array (Nat × Value)) (cells : Array Value) (hn : n * s ≤ 2 ^ 24)
    (hf : Instr.fill (fun i => some (i * s, s)) ((Array.range (n * s)).map (z.cells[· % z.cells.size]!)) parts.toList = some cells) (hsz : cells.size = n * s) :
    ∃ v w', (Instr.buildSlice t n parts).run P w = .ok (.slice v.1 v.2.1 v.2.2) w' ∧ IsSl w' E s v cells.toList ∧ v.2.1 = n ∧ Fr none1 w w' ∧ (∀ k, blkOf v k → w.heap.size ≤ k) := by
  obtain ⟨hu, ⟨i, hi, hs, hz, hby⟩, hc, hpos⟩ := he
  have hsize : ∀ w, (sizeOf E).run P w = .ok s w := fun w => by rw [sizeof hi, hs]
  unfold Instr.buildSlice
  simp only [Sem.run_bind, under hu, Result.andThen_ok, hsize]
  rw [if_neg (by omega)]
  have fin : ∀ zc : Array Value, (Array.range (n * s)).map (zc[· % zc.size]!) = (Array.range (n * s)).map (z.cells[· % z.cells.size]!) →
      ∃ v w', (match Instr.fill (fun i => some (i * s, s)) ((Array.range (n * s)).map (zc[· % zc.size]!)) parts.toList with
        | some cells => (do pure (Value.slice (some (← newRow E cells)) n n) : Sem Value)
        | _ => stuck "buildSlice: a part of the wrong size").run P w = .ok (.slice v.1 v.2.1 v.2.2) w' ∧ IsSl w' E s v cells.toList ∧ v.2.1 = n ∧ Fr none1 w w' ∧ (∀ k, blkOf v k → w.heap.size ≤ k) := fun zc hzc => by
    rw [hzc, hf]
    simp only [newRow, Sem.run_bind, run_newObj, Result.andThen_ok, Sem.run_pure]
    exact ⟨(some ⟨w.heap.size, 0, none⟩, n, n), _, rfl, .inr ⟨w.heap.size, 0, cells, rfl, Array.getElem?_push_size .., Nat.le_refl _, by rw [hsz]; simp, by simpa using hsz, fun j hj => by simp⟩, rfl, push_fr _ _, fun k ⟨a, ha, hk⟩ => by injection ha with ha; subst ha; subst hk; exact Nat.le_refl _⟩
  by_cases h : n * s = 0
  · simp only [if_pos h, Sem.run_bind, Sem.run_pure, Result.andThen_ok]
    exact fin #[] (by rw [h]; simp)
  · simp only [if_neg h, Sem.run_bind, zeroof hi hz, Sem.run_pure, Result.andThen_ok]
    exact fin z.cells rfl

theorem fill_one (n : Nat) (zs : Array Value) : ∀ (vs : List Value) (k : Nat) (pre : List Value), pre.length = k → k + vs.length = n → zs.size = n → (∀ v ∈ vs, v.cells = #[v]) → (∀ cur : Array Value, cur.size = n → cur.toList.take k = pre →
    ∃ out, Instr.fill (fun i => some (i * 1, 1)) cur ((vs.zipIdx k).map fun (v, i) => (i, v)) = some out ∧ out.toList = pre ++ vs)
  | [], k, pre, hp, hk, _, _, cur, hc, ht => by
    refine ⟨cur, rfl, ?_⟩
    simp only [List.length_nil, Nat.add_zero] at hk
    rw [← ht, List.append_nil, List.take_of_length_le (by simp; omega)]
  | v :: vs, k, pre, hp, hk, hz, h1, cur, hc, ht => by
    simp only [List.length_cons] at hk
    have hv := h1 v (by simp)
    obtain ⟨out, ho, hl⟩ := fill_one n zs vs (k + 1) (pre ++ [v]) (by simp [hp]) (by omega) hz (fun u hu => h1 u (by simp [hu])) (cur.setIfInBounds k v) (by simp [hc]) (by
      rw [Array.toList_setIfInBounds, List.take_succ_eq_append_getElem (by simp; omega), List.take_set_of_le (Nat.le_refl _), ht]
      simp)
    refine ⟨out, ?_, by rw [hl]; simp⟩
    simp only [List.zipIdx_cons, List.map_cons, Instr.fill, hv, Nat.mul_one]
    rw [if_neg (by simp; omega)]
    simpa using ho

/-- A slice literal of elements of one cell, all told in order. -/
theorem lit_ok {w : World} {t E bytes : Nat} {z : Value} (he : ElemOk P t E 1 z bytes) (vs : List Value) (h1 : ∀ v ∈ vs, v.cells = #[v]) (hn : vs.length ≤ 2 ^ 24) :
    ∃ v w', (Instr.buildSlice t vs.length ((vs.zipIdx.map fun (v, i) => (i, v)).toArray)).run P w = .ok (.slice v.1 v.2.1 v.2.2) w' ∧ IsSl w' E 1 v vs ∧ v.2.1 = vs.length ∧ Fr none1 w w' ∧ (∀ k, blkOf v k → w.heap.size ≤ k) := by
  obtain ⟨out, ho, hl⟩ := fill_one vs.length ((Array.range (vs.length * 1)).map (z.cells[· % z.cells.size]!)) vs 0 [] rfl (by simp) (by simp) h1 ((Array.range (vs.length * 1)).map (z.cells[· % z.cells.size]!)) (by simp) (by simp)
  obtain ⟨v, w', a, b, c⟩ := buildSlice_ok (w := w) he vs.length ((vs.zipIdx.map fun (v, i) => (i, v)).toArray) out (by omega) (by simpa using ho) (by rw [← Array.length_toList, hl]; simp)
  rw [hl] at b
  exact ⟨v, w', a, by simpa using b, c⟩

/-- make of elements of one cell. -/
theorem make_ok {w : World} {t E bytes : Nat} {z : Value} (he : ElemOk P t E 1 z bytes) (hz1 : z.cells = #[z]) {k k' : IntKind} {n m : Int} (h0 : 0 ≤ n) (h1 : n ≤ m) (hb : m.toNat * bytes ≤ 2 ^ 48) :
    ∃ v w', (Instr.makeSlice t (.int k n) (.int k' m)).run P w = .ok (.slice v.1 v.2.1 v.2.2) w' ∧ IsSl w' E 1 v (List.replicate n.toNat z) ∧ v.2.1 = n.toNat ∧ v.2.2 = m.toNat ∧ Fr none1 w w' ∧ (∀ k, blkOf v k → w.heap.size ≤ k) := by
  obtain ⟨hu, ⟨i, hi, hs, hz, hby⟩, hc, hpos⟩ := he
  have hm : m ≤ 281474976710656 := by
    have : m.toNat * 1 ≤ m.toNat * bytes := Nat.mul_le_mul_left _ hpos
    omega
  have hti : ∀ w, (typeInfo E).run P w = .ok i w := fun w => by simp [typeInfo, hi]
  have hsize : ∀ w, (sizeOf E).run P w = .ok 1 w := fun w => by rw [sizeof hi, hs]
  have ha : ∀ (k : IntKind) (n : Int) w, (asInt (.int k n)).run P w = .ok n w := fun _ _ _ => rfl
  unfold Instr.makeSlice
  simp only [Sem.run_bind, under hu, Result.andThen_ok, ha, hti, wI (x := n) (by omega) (by omega), wI (x := m) (by omega) (by omega)]
  have hbm : ¬ ((i.bytes : Int) * m > 2 ^ 48) := by
    rw [hby]
    have h2 : ((m.toNat * bytes : Nat) : Int) ≤ 281474976710656 := by omega
    have h3 : ((m.toNat * bytes : Nat) : Int) = (bytes : Int) * m := by
      rw [Int.natCast_mul, Int.toNat_of_nonneg (by omega), Int.mul_comm]
    omega
  rw [if_neg (by simp; omega)]
  have hcells : ∀ zc : Array Value, (m.toNat * 1 ≠ 0 → zc = #[z]) → (Array.range (m.toNat * 1)).map (zc[· % zc.size]!) = Array.replicate m.toNat z := fun zc hzc => by
    by_cases h : m.toNat * 1 = 0
    · have : m.toNat = 0 := by omega
      rw [this]; simp
    · rw [hzc h]
      apply Array.ext
      · simp
      · intro j h1 h2
        have : j % 1 = 0 := Nat.mod_one _
        simp [this]
  have fin : ∀ w1 : World, w1.heap = w.heap → Fr none1 w w1 → ∀ cs : Array Value, cs = Array.replicate m.toNat z →
      ∃ v w', (do pure (Value.slice (some (← newRow E cs)) n.toNat m.toNat) : Sem Value).run P w1 = .ok (.slice v.1 v.2.1 v.2.2) w' ∧ IsSl w' E 1 v (List.replicate n.toNat z) ∧ v.2.1 = n.toNat ∧ v.2.2 = m.toNat ∧ Fr none1 w w' ∧ (∀ k, blkOf v k → w.heap.size ≤ k) := fun w1 hh f1 cs hcs => by
    subst hcs
    simp only [newRow, Sem.run_bind, run_newObj, Result.andThen_ok, Sem.run_pure]
    refine ⟨(some ⟨w1.heap.size, 0, none⟩, n.toNat, m.toNat), _, rfl, .inr ⟨w1.heap.size, 0, _, rfl, Array.getElem?_push_size .., by dsimp only; omega, by simp, by simp, fun j hj => ?_⟩, rfl, rfl, f1.trans (push_fr _ _), fun k ⟨a, ha, hk⟩ => by injection ha with ha; subst ha; subst hk; rw [hh]; exact Nat.le_refl _⟩
    simp at hj
    rw [Array.getElem?_replicate, List.getElem?_replicate, if_pos (show 0 + j < m.toNat by omega), if_pos (show j < n.toNat by omega)]
  by_cases h : m.toNat * 1 = 0
  · simp only [Sem.run_bind, run_askRoom, Result.andThen_ok, hsize, if_pos h, Sem.run_pure]
    exact fin w rfl (Fr.refl _ _) _ (hcells #[] (fun hh => absurd h hh))
  · simp only [Sem.run_bind, run_askRoom, Result.andThen_ok, hsize, if_neg h, zeroof hi hz, Sem.run_pure]
    exact fin w rfl (Fr.refl _ _) _ (hcells z.cells (fun _ => hz1))

theorem one_ok {w : World} {t E bytes : Nat} {z : Value} (he : ElemOk P t E 1 z bytes) (v : Value) (h1 : v.cells = #[v]) :
    ∃ x w', (Instr.buildSlice t 1 #[(0, v)]).run P w = .ok (.slice x.1 x.2.1 x.2.2) w' ∧ IsSl w' E 1 x [v] ∧ x.2.1 = 1 ∧ Fr none1 w w' ∧ (∀ k, blkOf x k → w.heap.size ≤ k) :=
  lit_ok he [v] (by simpa using h1) (by simp)

/-- append of one cell, as the translation has it: a slice of one, and append. -/
theorem append_one {w : World} {t E bytes : Nat} {z : Value} {x : Sl} {xs : List Value} (he : ElemOk P t E 1 z bytes) (o : TypeId) (hx : IsSl w E 1 x xs) (v : Value) (h1 : v.cells = #[v]) (h2 : one1 v = true)
    (hb : (2 * (x.2.1 + 1) + 192) * bytes ≤ 2 ^ 48) {K : Sl → World → Prop}
    (hK : ∀ y w', IsSl w' E 1 y (xs ++ [v]) → y.2.1 = x.2.1 + 1 → Fr (blkOf x) w w' → (∀ k, blkOf y k → blkOf x k ∨ w.heap.size ≤ k) → K y w') :
    RunK P (Instr.buildSlice t 1 #[(0, v)]) w (.v (.one .slc)) fun (y : Option Addr × Nat × Nat) w' => RunK P (Builtin.append_ #[t, t] o #[.slice x.1 x.2.1 x.2.2, .slice y.1 y.2.1 y.2.2]) w' (.v (.one .slc)) fun (u : Option Addr × Nat × Nat) w'' => K u w'' := by
  obtain ⟨y, w1, hr, hy, hl, f1, hf⟩ := one_ok (w := w) he v h1
  refine ⟨y, w1, hr, ?_⟩
  obtain ⟨u, w2, hr2, hu, hl2, f2, hf2⟩ := append_ok he o (hx.keep0 f1) hy.rd (by simpa using h2) (by rw [hl]; exact hb)
  refine ⟨u, w2, hr2, hK u w2 hu (by rw [hl2, hl]) (f1.of0 f2) fun k hk => ?_⟩
  rcases hf2 k hk with h | h
  · exact .inl h
  · exact .inr (Nat.le_trans f1.size h)

/-- A write to an element of a slice of one-cell elements. -/
theorem IsSl.st {w : World} {E : Nat} {v : Sl} {xs : List Value} (h : IsSl w E 1 v xs) {K : World → Prop} {i : Int} (h0 : 0 ≤ i) (h1 : i < v.2.1) {x : Value} (hx : one1 x = true)
    (k : ∀ w1, IsSl w1 E 1 v (xs.set i.toNat x) → Fr (blkOf v) w w1 → w1.heap.size = w.heap.size → K w1) : IdxK v.1 v.2.1 i 1 fun p => StK p x w K := by
  rcases h with ⟨rfl, rfl⟩ | ⟨g, off, cs, hv, hb, hl, hc, hn, he⟩
  · simp at h1; omega
  · refine ⟨_, hv, h0, h1, ?_⟩
    rw [addr_add]
    refine StK.of hb (by omega) hx fun w1 hb1 f1 hs => k w1 (.inr ⟨g, off, _, hv, hb1, hl, by simpa using hc, by simpa using hn, fun j hj => ?_⟩) (f1.mono fun k _ hk => ⟨_, hv, hk⟩) hs
    rw [List.length_set] at hj
    rw [Nat.mul_one, Array.getElem?_setIfInBounds, List.getElem?_set]
    by_cases hij : i.toNat = j
    · subst hij; rw [if_pos rfl, if_pos rfl, if_pos (by omega), if_pos hj]
    · rw [if_neg (by omega), if_neg hij, he j hj]

theorem cellsAt_take {w : World} {a : Addr} : ∀ (vs : List Value) (i n : Nat), CellsAt w a i vs → CellsAt w a i (vs.take n)
  | [], i, n, _ => by simp; exact trivial
  | v :: vs, i, 0, _ => trivial
  | v :: vs, i, n + 1, ⟨h1, h2⟩ => ⟨h1, cellsAt_take vs (i + 1) n h2⟩

/-- The beginning of a slice. -/
theorem RdSl.sub {w : World} {v : Sl} {xs : List Value} (h : RdSl w 1 v xs) {n : Int} (h0 : 0 ≤ n) (h1 : n ≤ v.2.1) (hc : v.2.1 ≤ v.2.2) {K : Option Addr → Nat → Nat → Prop}
    (k : RdSl w 1 (v.1, n.toNat, v.2.2) (xs.take n.toNat) → K v.1 n.toNat v.2.2) : SubK v.1 v.2.2 0 n v.2.2 1 K := by
  refine ⟨Int.le_refl _, h0, by omega, by omega, ?_⟩
  have e : (if (v.2.2 : Int) = 0 then v.1 else v.1.map (·.add ((0 : Int).toNat * 1))) = v.1 := by
    split
    · rfl
    · cases v.1 with
      | none => rfl
      | some a => simp [Addr.add]
  rw [e, Int.sub_zero, Int.sub_zero, Int.toNat_natCast]
  obtain ⟨a, b, c⟩ := h
  refine k ⟨by simp; omega, fun hn => ?_, fun x hx => cellsAt_take _ _ _ (c x hx)⟩
  obtain ⟨p, q, r⟩ := b hn
  dsimp only
  subst r
  exact ⟨by omega, q, by simp⟩

/-- The conversion of a slice of bytes to its own type: a mark beside it. -/
theorem conv_ok {w : World} {t E : Nat} {v : Sl} {xs : List Value} (ht : P.underlying t = some (.slice E)) (he : P.underlying E = some (.int .u8)) (h : IsSl w E 1 v xs) (hn : v.1.isSome = true) :
    ∃ w', (convert t t (.slice v.1 v.2.1 v.2.2)).run P w = .ok (.slice v.1 v.2.1 v.2.2) w' ∧ RdSl w' 1 v xs ∧ Fr (blkOf v) w w' := by
  rcases h with ⟨rfl, rfl⟩ | ⟨g, off, cs, hv, hb, hl, hc, hx, hel⟩
  · cases hn
  · have hsh : w.shape? g = some (E, cs.size) := by unfold World.shape?; rw [hb]
    obtain ⟨v1, v2, v3⟩ := v
    dsimp only at hv hl hc hx
    subst hv
    refine ⟨w.freeze ⟨g, cs.size, none⟩ 1, ?_, ?_, ?_⟩
    · simp [convert, under ht, under he, markStringish, hsh]
    · have hb' : (w.freeze ⟨g, cs.size, none⟩ 1).heap[g]? = some (.cells cs E (cs.size, cs.size + 1)) := by
        unfold World.freeze
        simp [Array.getElem?_modify, hb]
      exact ⟨hx, (fun t => nomatch t), fun a ha => by injection ha with ha; subst ha; exact cellsAt_blk hb' xs off 0 fun j hj => by rw [Nat.add_zero]; exact hel j hj⟩
    · refine ⟨rfl, rfl, rfl, by simp [World.freeze], fun k hk hn => ?_⟩
      have : g ≠ k := fun e => hn ⟨_, rfl, by rw [e]⟩
      simp [World.freeze, Array.getElem?_modify, this]

end Vc
end Go.Proofs.YtlhbfdakceipkaaGreatDoor
