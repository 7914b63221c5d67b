/-
  Maps keyed by texts: what a literal lays, and a range over it, whichever entry comes next.
  No condition beyond those stated.
-/
import Derived.Test.YtlhbfdakceipkaaGreatDoorVcMap
import Derived.Maps.RangeRun
set_option linter.unusedVariables false
namespace Go.Proofs.YtlhbfdakceipkaaGreatDoor
namespace Vc
variable {P : Program}

theorem checkKey_str {t : TypeId} (ht : P.underlying t = some .string) (b : Bool) (s : ByteArray) (w : World) : (Instr.checkKey b 10000 t (.string s)).run P w = .ok () w := by
  show (Instr.checkKey b (9999 + 1) t (.string s)).run P w = .ok () w
  unfold Instr.checkKey
  simp only [Sem.run_bind, under ht, Result.andThen_ok]
  rfl

theorem ba_bne {a b : ByteArray} (h : a ≠ b) : (a == b) = false := by
  cases hb : (a == b) with
  | false => rfl
  | true =>
    exfalso; apply h
    cases a; cases b
    have : (ByteArray.beq _ _) = true := hb
    unfold ByteArray.beq at this
    simp at this
    rw [this]

theorem findNow_none (s : ByteArray) : ∀ (es : List MapEntry) (i : Nat), (∀ e ∈ es, ∃ s', e.key = .string s' ∧ s ≠ s') → Instr.findNow .string (.string s) es i = some none
  | [], _, _ => rfl
  | e :: es, i, h => by
    obtain ⟨s', hk, hne⟩ := h e (by simp)
    have hs : Instr.sameNow .string (.string s) e.key = some false := by rw [hk]; exact congrArg some (ba_bne hne)
    simp only [Instr.findNow, hs]
    exact findNow_none s es (i + 1) fun x hx => h x (by simp [hx])

/-- A new key is laid behind the others. -/
theorem insert_str {t k el : TypeId} {w : World} {g : Nat} {es : Array MapEntry} {c : Nat} (hb : w.heap[g]? = some (.map es c)) (s : ByteArray) (v : Value) (ht : P.underlying t = some (.map k el)) (hk : P.underlying k = some .string)
    (hn : ∀ e ∈ es.toList, ∃ s', e.key = .string s' ∧ s ≠ s') {K : World → Prop}
    (h : ∀ w', w'.heap[g]? = some (.map (es.push { key := .string s, val := v, born := c }) (c + 1)) → Fr (only g) w w' → w'.heap.size = w.heap.size → K w') : RunU P (Instr.mapUpdate t (.map (some g)) (.string s) v) w K := by
  have hlt := lt_of_blk hb
  refine ⟨_, ?_, h _ (heap_set hlt _) (setObj_fr _ _ _) (by simp)⟩
  have hf : (Instr.findKey k (.string s) es.toList).run P w = .ok none w := by
    unfold Instr.findKey
    simp only [Sem.run_bind, under hk, Result.andThen_ok, findNow_none s es.toList 0 hn]
    rfl
  unfold Instr.mapUpdate
  simp only [Sem.run_bind, under ht, Result.andThen_ok, getObj_ok hb, checkKey_str hk, hf, setObj_ok hb]

/-- A range over the map of block m: what is seen, by the entries' stamps. -/
structure MIt (w : World) (r m : Nat) (es : Array MapEntry) (c : Nat) (seen : Array Nat) : Prop where
  it : w.heap[r]? = some (.mapIter (some m) c seen c)
  map : w.heap[m]? = some (.map es c)
  old : ∀ x ∈ es.toList, x.born < c
  nodup : (es.toList.map (·.born)).Nodup

theorem MIt.keep {w w' : World} {r m : Nat} {es : Array MapEntry} {c : Nat} {seen : Array Nat} (h : MIt w r m es c seen) {S : Nat → Prop} (f : Fr S w w') (h1 : ¬ S r) (h2 : ¬ S m) : MIt w' r m es c seen :=
  ⟨f.keep h.it h1, f.keep h.map h2, h.old, h.nodup⟩
theorem MIt.keep0 {w w' : World} {r m : Nat} {es : Array MapEntry} {c : Nat} {seen : Array Nat} (h : MIt w r m es c seen) (f : Fr none1 w w') : MIt w' r m es c seen := h.keep f (fun t => t) (fun t => t)

/-- How many have not been seen. -/
def leftN (w : World) (r m : Nat) : Nat := match w.heap[r]?, w.heap[m]? with
  | some (.mapIter _ _ seen _), some (.map es _) => (leftOf es seen).size
  | _, _ => 0
theorem MIt.left {w : World} {r m : Nat} {es : Array MapEntry} {c : Nat} {seen : Array Nat} (h : MIt w r m es c seen) : leftN w r m = (leftOf es seen).size := by
  unfold leftN; rw [h.it, h.map]

theorem mrange_ok {t k el : TypeId} {w : World} {m : Nat} {es : Array MapEntry} {c : Nat} (ht : P.underlying t = some (.map k el)) (hb : w.heap[m]? = some (.map es c)) (ho : ∀ x ∈ es.toList, x.born < c) (hn : (es.toList.map (·.born)).Nodup) {K : Option Addr → World → Prop}
    (h : ∀ r w1, r = w.heap.size → MIt w1 r m es c #[] → Fr none1 w w1 → K (some ⟨r, 0, none⟩) w1) : RunK P (Instr.range t (.map (some m))) w (.v (.one .ptr)) K := by
  refine ⟨some ⟨w.heap.size, 0, none⟩, { w with heap := w.heap.push (.mapIter (some m) c #[] c) }, ?_, h _ _ rfl ⟨by simp, (push_fr w _).keep0 hb, ho, hn⟩ (push_fr w _)⟩
  simp [Instr.range, under ht, getObj_ok hb, newObj, Sem.run]
  rfl

theorem mnext_ok {ty : TypeId} {w : World} {r m : Nat} {es : Array MapEntry} {c : Nat} {seen : Array Nat} (h : MIt w r m es c seen) {yes : Value → Value → World → Prop} {no : World → Prop} (hrm : r ≠ m)
    (hy : ∀ e, e ∈ es.toList → seen.contains e.born = false → ∀ w1, MIt w1 r m es c (seen.push e.born) → Fr (only r) w w1 → leftN w1 r m < leftN w r m →
      (∀ {K : Value × Value × Unit → World → Prop}, K (e.key, e.val, ()) w1 → RunK P (Instr.entry (.pointer (some ⟨r, 0, none⟩))) w1 (.tup [.one .raw, .one .raw]) K) → yes e.key e.val w1)
    (hn : (∀ e ∈ es.toList, seen.contains e.born = true) → no w) : MnextK P (.pointer (some ⟨r, 0, none⟩)) ty w yes no := by
  rcases run_next_at (P := P) w ty r m c c seen es c h.it h.map h.old (Nat.le_refl _) with ⟨h0, hr⟩ | ⟨e, he, w1, hw1, hr⟩
  · refine ⟨.inr ⟨w, hr, hn fun e he => ?_⟩⟩
    cases hc : seen.contains e.born with
    | true => rfl
    | false =>
      have : e ∈ leftOf es seen := Array.mem_filter.2 ⟨Array.mem_toList_iff.1 he, by rw [hc]; rfl⟩
      have := Array.size_pos_of_mem this
      omega
  · obtain ⟨h1, h2⟩ := mem_left he
    have hh : w1.heap = w.heap := by rcases hw1 with rfl | rfl <;> rfl
    have hlt := lt_of_blk h.it
    obtain ⟨w2, hw2⟩ : ∃ w2, w2 = Go.ChangeMaps.setBlock w1 r (.mapIter (some m) c (seen.push e.born) c) := ⟨_, rfl⟩
    rw [← hw2] at hr
    have hheap : w2.heap = w.heap.setIfInBounds r (.mapIter (some m) c (seen.push e.born) c) := by rw [hw2]; show w1.heap.setIfInBounds r _ = _; rw [hh]
    have hf : Fr (only r) w w2 := by
      refine ⟨?_, ?_, ?_, by rw [hheap]; simp, fun k _ hk => ?_⟩
      · rw [hw2]; show w1.os = w.os; rcases hw1 with rfl | rfl <;> rfl
      · rw [hw2]; show w1.tape = w.tape; rcases hw1 with rfl | rfl <;> rfl
      · rw [hw2]; show w1.output = w.output; rcases hw1 with rfl | rfl <;> rfl
      · rw [hheap, Array.getElem?_setIfInBounds_ne (fun t => hk t.symm)]
    have hit : w2.heap[r]? = some (.mapIter (some m) c (seen.push e.born) c) := by rw [hheap]; exact heap_set hlt _
    have hmp : w2.heap[m]? = some (.map es c) := hf.keep1 h.map (fun t => hrm t.symm)
    have hM : MIt w2 r m es c (seen.push e.born) := ⟨hit, hmp, h.old, h.nodup⟩
    refine ⟨.inl ⟨e.key, e.val, w2, hr, hy e h1 h2 w2 hM hf ?_ ?_⟩⟩
    · rw [hM.left, h.left]; exact left_shrinks es seen e he
    · intro K hK
      exact ⟨(e.key, e.val, ()), w2, run_entry_at w2 r m c seen es c e hit hmp h1 h.nodup, hK⟩

end Vc
end Go.Proofs.YtlhbfdakceipkaaGreatDoor
