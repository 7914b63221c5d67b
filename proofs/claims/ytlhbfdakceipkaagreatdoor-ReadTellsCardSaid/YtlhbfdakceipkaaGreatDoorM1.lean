/-
  Texts of this claim, put together: VcMap, VcMapS, CRunes, NameSpec, CEventG, Shelf, EventSpec, CObsG, ObsSpec, CTermG, TermSpec, RuneSl, CRefN, RefName, CRef04.
  Conditions: those of each theorem.
-/
import Derived.Test.YtlhbfdakceipkaaGreatDoorM0
import Derived.KernelRfl
import Derived.Laws.StructEq
import Derived.Maps.RangeRun
import Derived.Shelf.Bytes.SlEqualAll
import Derived.Shelf.Bytes.Small
import Derived.Shelf.LaysM
import Derived.Shelf.Small.Strs
import Derived.Shelf.Small.Utf8
import Derived.Shelf.Strconv.Itoa0
import Derived.Shelf.Strconv.Itoa1
import Derived.Shelf.Strconv.Itoa2
import Derived.Shelf.Strconv.Itoa3
import Derived.Shelf.Strings.AsciiSet
import Derived.Shelf.Strings.Builder1
import Derived.Shelf.Strings.Builder2
import Derived.Shelf.Strings.OnBuilder
import Derived.Shelf.Strings.Runes
import Derived.Shelf.Strings.Search1
import Derived.Shelf.Strings.Search2
import Derived.Shelf.Strings.Search3
import Derived.Shelf.Strings.Shaped
import Derived.Shelf.Unicode.DecodeSlow
import Derived.Shelf.Utf8.RuneCount
import Derived.Test.YtlhbfdakceipkaaGreatDoorProg
/-! ### VcMap -/
namespace Go.Proofs.YtlhbfdakceipkaaGreatDoor
namespace Vc
variable {P : Program}

/-- The first entry of a key. -/
def ent (n : Int) : List MapEntry → Option Value
  | [] => none
  | e :: es => match e.key with
    | .int _ m => if n = m then some e.val else ent n es
    | _ => ent n es

/-- Block g is a map whose keys are ints, and which holds M. -/
def IsMap (w : World) (g : Nat) (M : Int → Option Value) : Prop :=
  ∃ es clock, w.heap[g]? = some (.map es clock) ∧ (∀ e ∈ es.toList, ∃ m, e.key = .int .i64 m) ∧ ∀ n, ent n es.toList = M n

theorem IsMap.keep {w w' : World} {g : Nat} {M : Int → Option Value} (h : IsMap w g M) {S : Nat → Prop} (f : Fr S w w') (hn : ¬ S g) : IsMap w' g M := by
  obtain ⟨es, c, hb, r⟩ := h
  exact ⟨es, c, f.keep hb hn, r⟩
theorem IsMap.lt {w : World} {g : Nat} {M : Int → Option Value} (h : IsMap w g M) : g < w.heap.size := by
  obtain ⟨es, c, hb, r⟩ := h
  exact lt_of_blk hb
theorem IsMap.new {w : World} {g : Nat} {c : Nat} (h : w.heap[g]? = some (.map #[] c)) : IsMap w g (fun _ => none) := ⟨_, _, h, by simp, fun n => rfl⟩

theorem findNow_ent (n : Int) : ∀ (es : List MapEntry) (i : Nat), (∀ e ∈ es, ∃ m, e.key = .int .i64 m) →
    (∃ j v, Instr.findNow (.int .i64) (.int .i64 n) es i = some (some (i + j, v)) ∧ ent n es = some v ∧ ∃ e, es[j]? = some e ∧ e.key = .int .i64 n ∧ (∀ v', ent n (es.set j { e with val := v' }) = some v') ∧ ∀ m v', m ≠ n → ent m (es.set j { e with val := v' }) = ent m es) ∨
    (Instr.findNow (.int .i64) (.int .i64 n) es i = some none ∧ ent n es = none)
  | [], i, _ => .inr ⟨rfl, rfl⟩
  | e :: es, i, h => by
    obtain ⟨m, hm⟩ := h e (by simp)
    by_cases hn : n = m
    · subst hn
      refine .inl ⟨0, e.val, ?_, ?_, e, rfl, hm, ?_, ?_⟩
      · simp [Instr.findNow, hm, Instr.sameNow]
      · simp [ent, hm]
      · intro v'; simp [ent, hm]
      · intro m' v' hne; simp [ent, hm, hne]
    · have hs : Instr.sameNow (.int .i64) (.int .i64 n) e.key = some false := by simp [Instr.sameNow, hm, hn]
      rcases findNow_ent n es (i + 1) (fun e he => h e (by simp [he])) with ⟨j, v, h1, h2, e', h3, h4, h5, h6⟩ | ⟨h1, h2⟩
      · refine .inl ⟨j + 1, v, ?_, ?_, e', by simpa using h3, h4, ?_, ?_⟩
        · simp only [Instr.findNow, hs, h1]; congr 3; omega
        · simp [ent, hm, hn, h2]
        · intro v'; simp [ent, hm, hn, h5]
        · intro m' v' hne
          simp only [List.set_cons_succ, ent, hm]
          split
          · rfl
          · exact h6 m' v' hne
      · refine .inr ⟨?_, ?_⟩
        · simp only [Instr.findNow, hs, h1]
        · simp [ent, hm, hn, h2]

theorem checkKey_int {t : TypeId} (ht : P.underlying t = some (.int .i64)) (b : Bool) (n : Int) (w : World) : (Instr.checkKey b 10000 t (.int .i64 n)).run P w = .ok () w := by
  show (Instr.checkKey b (9999 + 1) t (.int .i64 n)).run P w = .ok () w
  unfold Instr.checkKey
  simp only [Sem.run_bind, under ht, Result.andThen_ok]
  rfl

theorem getObj_ok {w : World} {g : Nat} {es : Array MapEntry} {c : Nat} (h : w.heap[g]? = some (.map es c)) : (getObj g).run P w = .ok (.map es c) w := by
  simp [getObj, Sem.run, h]

theorem findKey_ok {t : TypeId} (ht : P.underlying t = some (.int .i64)) {n : Int} {es : List MapEntry} {r : Option (Nat × Value)} (h : Instr.findNow (.int .i64) (.int .i64 n) es 0 = some r) (w : World) :
    (Instr.findKey t (.int .i64 n) es).run P w = .ok r w := by
  unfold Instr.findKey
  simp only [Sem.run_bind, under ht, Result.andThen_ok, h]
  rfl

theorem lookup_ok {t k el : TypeId} (z : Value) {w : World} {g : Nat} {M : Int → Option Value} (hm : IsMap w g M) (n : Int) (ok : Bool) (ht : P.underlying t = some (.map k el)) (hk : P.underlying k = some (.int .i64))
    (hiz : (P.info? el).bind (·.zero) = some z) :
    (Instr.lookup t (.map (some g)) (.int .i64 n) ok).run P w = .ok (if ok then .tuple #[(M n).getD z, .bool (M n).isSome] else (M n).getD z) w := by
  obtain ⟨es, c, hb, hkeys, hM⟩ := hm
  obtain ⟨i, hi, hz⟩ : ∃ i, P.info? el = some i ∧ i.zero = some z := by
    cases hx : P.info? el with
    | none => simp [hx] at hiz
    | some i => exact ⟨i, rfl, by simpa [hx] using hiz⟩
  unfold Instr.lookup
  simp only [Sem.run_bind, under ht, Result.andThen_ok, getObj_ok hb, Sem.run_pure, checkKey_int hk]
  rcases findNow_ent n es.toList 0 hkeys with ⟨j, v, h1, h2, _⟩ | ⟨h1, h2⟩
  · rw [findKey_ok hk h1]
    rw [hM] at h2
    simp only [Result.andThen_ok, h2]
    cases ok <;> rfl
  · rw [findKey_ok hk h1]
    rw [hM] at h2
    simp only [Result.andThen_ok, Sem.run_bind, zeroof hi hz, Sem.run_pure, h2]
    cases ok <;> rfl

theorem ent_append (n : Int) (e : MapEntry) {m : Int} (he : e.key = .int .i64 m) : ∀ es : List MapEntry, ent n (es ++ [e]) = match ent n es with | some v => some v | none => if n = m then some e.val else none
  | [] => by simp [ent, he]
  | x :: es => by
    simp only [List.cons_append, ent]
    split
    · split
      · rfl
      · exact ent_append n e he es
    · exact ent_append n e he es

theorem setObj_ok {w : World} {g : Nat} {es es' : Array MapEntry} {c c' : Nat} (h : w.heap[g]? = some (.map es c)) : (setObj g (.map es' c')).run P w = .ok () { w with heap := w.heap.setIfInBounds g (.map es' c') } := by
  simp [setObj, Sem.run, h]

theorem setObj_fr (w : World) (g : Nat) (o : Obj) : Fr (only g) w { w with heap := w.heap.setIfInBounds g o } :=
  ⟨rfl, rfl, rfl, by simp, fun k _ hn => by
    show (w.heap.setIfInBounds g o)[k]? = _
    rw [Array.getElem?_setIfInBounds_ne (fun e => hn e.symm)]⟩

theorem heap_set {h : Array Obj} {g : Nat} (hg : g < h.size) (o : Obj) : (h.setIfInBounds g o)[g]? = some o := by simp [hg]

theorem update_ok {t k el : TypeId} {w : World} {g : Nat} {M : Int → Option Value} (hm : IsMap w g M) (n : Int) (v : Value) (ht : P.underlying t = some (.map k el)) (hk : P.underlying k = some (.int .i64)) :
    ∃ w', (Instr.mapUpdate t (.map (some g)) (.int .i64 n) v).run P w = .ok () w' ∧ Fr (only g) w w' ∧ w'.heap.size = w.heap.size ∧ IsMap w' g (fun m => if m = n then some v else M m) := by
  obtain ⟨es, c, hb, hkeys, hM⟩ := hm
  have hlt := lt_of_blk hb
  unfold Instr.mapUpdate
  simp only [Sem.run_bind, under ht, Result.andThen_ok, getObj_ok hb, checkKey_int hk]
  rcases findNow_ent n es.toList 0 hkeys with ⟨j, u, h1, h2, e, h3, h4, h5, h6⟩ | ⟨h1, h2⟩
  · rw [findKey_ok hk h1]
    have hj : es[0 + j]? = some e := by rw [Nat.zero_add]; simpa using h3
    have hk2 : (Instr.keyThatStays e.key (.int .i64 n)).run P w = .ok (.int .i64 n) w := by
      rw [h4]
      unfold Instr.keyThatStays
      have : Instr.sameBits 10000 (.int .i64 n) (.int .i64 n) = true := by
        show Instr.sameBits (9999 + 1) (.int .i64 n) (.int .i64 n) = true
        simp [Instr.sameBits]
      simp [this]
    simp only [Result.andThen_ok, Sem.run_bind, hj, Option.map_some, Option.getD_some, hk2, setObj_ok hb]
    refine ⟨_, rfl, setObj_fr _ _ _, by simp, _, _, heap_set hlt _, ?_, ?_⟩
    · intro e' he'
      rw [Array.mem_toList_iff, Array.mem_iff_getElem?] at he'
      obtain ⟨q, hq⟩ := he'
      rw [Array.getElem?_modify] at hq
      split at hq
      · cases hx : es[q]? with
        | none => simp [hx] at hq
        | some x => simp [hx] at hq; subst hq; exact ⟨n, rfl⟩
      · exact hkeys e' (by rw [Array.mem_toList_iff, Array.mem_iff_getElem?]; exact ⟨q, hq⟩)
    · intro m
      have hlist : (es.modify (0 + j) fun e => { key := .int .i64 n, val := v, born := e.born }).toList = es.toList.set j { e with val := v } := by
        rw [Nat.zero_add, Array.toList_modify]
        apply List.ext_getElem?
        intro q
        rw [List.getElem?_modify, List.getElem?_set]
        by_cases hq : j = q
        · subst hq
          have hlt2 : j < es.toList.length := (List.getElem?_eq_some_iff.1 h3).1
          simp only [if_true, h3, hlt2]
          cases e; simp only at h4; rw [h4]
          rfl
        · simp [hq]
      rw [hlist]
      by_cases hmn : m = n
      · subst hmn; rw [h5]; simp
      · rw [h6 m v hmn, hM]; simp [hmn]
  · rw [findKey_ok hk h1]
    simp only [Result.andThen_ok, setObj_ok hb]
    refine ⟨_, rfl, setObj_fr _ _ _, by simp, _, _, heap_set hlt _, ?_, ?_⟩
    · intro e' he'
      simp at he'
      rcases he' with he' | rfl
      · exact hkeys e' (by simpa using he')
      · exact ⟨n, rfl⟩
    · intro m
      rw [Array.toList_push, ent_append m _ rfl]
      rw [hM] at h2
      rw [hM]
      by_cases hmn : m = n
      · subst hmn; rw [h2]; simp
      · simp only [hmn, if_false]; cases M m <;> rfl

end Vc
end Go.Proofs.YtlhbfdakceipkaaGreatDoor

/-! ### VcMapS -/
set_option linter.unusedVariables false
namespace Go.Proofs.YtlhbfdakceipkaaGreatDoor
namespace Vc
variable {P : Program}

theorem checkKey_str {t : TypeId} (ht : P.underlying t = some .string) (b : Bool) (s : ByteArray) (w : World) : (Instr.checkKey b 10000 t (.string s)).run P w = .ok () w := by
  show (Instr.checkKey b (9999 + 1) t (.string s)).run P w = .ok () w
  unfold Instr.checkKey
  simp only [Sem.run_bind, under ht, Result.andThen_ok]
  rfl

theorem ba_bne {a b : ByteArray} (h : a ≠ b) : (a == b) = false := by
  cases hb : (a == b) with
  | false => rfl
  | true =>
    exfalso; apply h
    cases a; cases b
    have : (ByteArray.beq _ _) = true := hb
    unfold ByteArray.beq at this
    simp at this
    rw [this]

theorem findNow_none (s : ByteArray) : ∀ (es : List MapEntry) (i : Nat), (∀ e ∈ es, ∃ s', e.key = .string s' ∧ s ≠ s') → Instr.findNow .string (.string s) es i = some none
  | [], _, _ => rfl
  | e :: es, i, h => by
    obtain ⟨s', hk, hne⟩ := h e (by simp)
    have hs : Instr.sameNow .string (.string s) e.key = some false := by rw [hk]; exact congrArg some (ba_bne hne)
    simp only [Instr.findNow, hs]
    exact findNow_none s es (i + 1) fun x hx => h x (by simp [hx])

/-- A new key is laid behind the others. -/
theorem insert_str {t k el : TypeId} {w : World} {g : Nat} {es : Array MapEntry} {c : Nat} (hb : w.heap[g]? = some (.map es c)) (s : ByteArray) (v : Value) (ht : P.underlying t = some (.map k el)) (hk : P.underlying k = some .string)
    (hn : ∀ e ∈ es.toList, ∃ s', e.key = .string s' ∧ s ≠ s') {K : World → Prop}
    (h : ∀ w', w'.heap[g]? = some (.map (es.push { key := .string s, val := v, born := c }) (c + 1)) → Fr (only g) w w' → w'.heap.size = w.heap.size → K w') : RunU P (Instr.mapUpdate t (.map (some g)) (.string s) v) w K := by
  have hlt := lt_of_blk hb
  refine ⟨_, ?_, h _ (heap_set hlt _) (setObj_fr _ _ _) (by simp)⟩
  have hf : (Instr.findKey k (.string s) es.toList).run P w = .ok none w := by
    unfold Instr.findKey
    simp only [Sem.run_bind, under hk, Result.andThen_ok, findNow_none s es.toList 0 hn]
    rfl
  unfold Instr.mapUpdate
  simp only [Sem.run_bind, under ht, Result.andThen_ok, getObj_ok hb, checkKey_str hk, hf, setObj_ok hb]

/-- A range over the map of block m: what is seen, by the entries' stamps. -/
structure MIt (w : World) (r m : Nat) (es : Array MapEntry) (c : Nat) (seen : Array Nat) : Prop where
  it : w.heap[r]? = some (.mapIter (some m) c seen c)
  map : w.heap[m]? = some (.map es c)
  old : ∀ x ∈ es.toList, x.born < c
  nodup : (es.toList.map (·.born)).Nodup

theorem MIt.keep {w w' : World} {r m : Nat} {es : Array MapEntry} {c : Nat} {seen : Array Nat} (h : MIt w r m es c seen) {S : Nat → Prop} (f : Fr S w w') (h1 : ¬ S r) (h2 : ¬ S m) : MIt w' r m es c seen :=
  ⟨f.keep h.it h1, f.keep h.map h2, h.old, h.nodup⟩
theorem MIt.keep0 {w w' : World} {r m : Nat} {es : Array MapEntry} {c : Nat} {seen : Array Nat} (h : MIt w r m es c seen) (f : Fr none1 w w') : MIt w' r m es c seen := h.keep f (fun t => t) (fun t => t)

/-- How many have not been seen. -/
def leftN (w : World) (r m : Nat) : Nat := match w.heap[r]?, w.heap[m]? with
  | some (.mapIter _ _ seen _), some (.map es _) => (leftOf es seen).size
  | _, _ => 0
theorem MIt.left {w : World} {r m : Nat} {es : Array MapEntry} {c : Nat} {seen : Array Nat} (h : MIt w r m es c seen) : leftN w r m = (leftOf es seen).size := by
  unfold leftN; rw [h.it, h.map]

theorem mrange_ok {t k el : TypeId} {w : World} {m : Nat} {es : Array MapEntry} {c : Nat} (ht : P.underlying t = some (.map k el)) (hb : w.heap[m]? = some (.map es c)) (ho : ∀ x ∈ es.toList, x.born < c) (hn : (es.toList.map (·.born)).Nodup) {K : Option Addr → World → Prop}
    (h : ∀ r w1, r = w.heap.size → MIt w1 r m es c #[] → Fr none1 w w1 → K (some ⟨r, 0, none⟩) w1) : RunK P (Instr.range t (.map (some m))) w (.v (.one .ptr)) K := by
  refine ⟨some ⟨w.heap.size, 0, none⟩, { w with heap := w.heap.push (.mapIter (some m) c #[] c) }, ?_, h _ _ rfl ⟨by simp, (push_fr w _).keep0 hb, ho, hn⟩ (push_fr w _)⟩
  simp [Instr.range, under ht, getObj_ok hb, newObj, Sem.run]
  rfl

theorem mnext_ok {ty : TypeId} {w : World} {r m : Nat} {es : Array MapEntry} {c : Nat} {seen : Array Nat} (h : MIt w r m es c seen) {yes : Value → Value → World → Prop} {no : World → Prop} (hrm : r ≠ m)
    (hy : ∀ e, e ∈ es.toList → seen.contains e.born = false → ∀ w1, MIt w1 r m es c (seen.push e.born) → Fr (only r) w w1 → leftN w1 r m < leftN w r m →
      (∀ {K : Value × Value × Unit → World → Prop}, K (e.key, e.val, ()) w1 → RunK P (Instr.entry (.pointer (some ⟨r, 0, none⟩))) w1 (.tup [.one .raw, .one .raw]) K) → yes e.key e.val w1)
    (hn : (∀ e ∈ es.toList, seen.contains e.born = true) → no w) : MnextK P (.pointer (some ⟨r, 0, none⟩)) ty w yes no := by
  rcases run_next_at (P := P) w ty r m c c seen es c h.it h.map h.old (Nat.le_refl _) with ⟨h0, hr⟩ | ⟨e, he, w1, hw1, hr⟩
  · refine ⟨.inr ⟨w, hr, hn fun e he => ?_⟩⟩
    cases hc : seen.contains e.born with
    | true => rfl
    | false =>
      have : e ∈ leftOf es seen := Array.mem_filter.2 ⟨Array.mem_toList_iff.1 he, by rw [hc]; rfl⟩
      have := Array.size_pos_of_mem this
      omega
  · obtain ⟨h1, h2⟩ := mem_left he
    have hh : w1.heap = w.heap := by rcases hw1 with rfl | rfl <;> rfl
    have hlt := lt_of_blk h.it
    obtain ⟨w2, hw2⟩ : ∃ w2, w2 = Go.ChangeMaps.setBlock w1 r (.mapIter (some m) c (seen.push e.born) c) := ⟨_, rfl⟩
    rw [← hw2] at hr
    have hheap : w2.heap = w.heap.setIfInBounds r (.mapIter (some m) c (seen.push e.born) c) := by rw [hw2]; show w1.heap.setIfInBounds r _ = _; rw [hh]
    have hf : Fr (only r) w w2 := by
      refine ⟨?_, ?_, ?_, by rw [hheap]; simp, fun k _ hk => ?_⟩
      · rw [hw2]; show w1.os = w.os; rcases hw1 with rfl | rfl <;> rfl
      · rw [hw2]; show w1.tape = w.tape; rcases hw1 with rfl | rfl <;> rfl
      · rw [hw2]; show w1.output = w.output; rcases hw1 with rfl | rfl <;> rfl
      · rw [hheap, Array.getElem?_setIfInBounds_ne (fun t => hk t.symm)]
    have hit : w2.heap[r]? = some (.mapIter (some m) c (seen.push e.born) c) := by rw [hheap]; exact heap_set hlt _
    have hmp : w2.heap[m]? = some (.map es c) := hf.keep1 h.map (fun t => hrm t.symm)
    have hM : MIt w2 r m es c (seen.push e.born) := ⟨hit, hmp, h.old, h.nodup⟩
    refine ⟨.inl ⟨e.key, e.val, w2, hr, hy e h1 h2 w2 hM hf ?_ ?_⟩⟩
    · rw [hM.left, h.left]; exact left_shrinks es seen e he
    · intro K hK
      exact ⟨(e.key, e.val, ()), w2, run_entry_at w2 r m c seen es c e hit hmp h1 h.nodup, hK⟩

end Vc
end Go.Proofs.YtlhbfdakceipkaaGreatDoor

/-! ### CRunes -/
namespace Go.Proofs.YtlhbfdakceipkaaGreatDoor
open Vc
set_option maxRecDepth 100000
set_option linter.unusedVariables false
/-- handfast/runes.digit -/
def C171 (p0 : Int) (w : World) (K : Value → World → Prop) : Prop :=
  ifB (decide (p0 ≥ 48))
  (K (.bool (decide (p0 ≤ 57))) w)
  (K (.bool false) w)
def pl171 : Plan := .auto
theorem e171 (p0 : Int) (w : World) (K : Value → World → Prop) : vcFunc Tryz.prog Tryz.f171 pl171 [.int .i32 p0] w K = C171 p0 w K := by kernel_rfl
theorem c171 (p0 : Int) (w : World) (K : Value → World → Prop) (h : C171 p0 w K) : Ret Tryz.prog 171 #[.int .i32 p0] w K := by
  rw [← e171] at h
  exact vcFunc_sound (by kernel_rfl) Tryz.func171 h

/-- handfast/runes.Letter -/
def C170 (p0 : Int) (w : World) (K : Value → World → Prop) : Prop :=
  ifB (decide (p0 ≥ 97))
  (ifB (decide (p0 ≤ 122))
  (K (.bool true) w)
  (CallK Tryz.prog 171 #[.int .i32 p0] w (.v (.one .bool)) (fun (x1 : Bool) w2 => ifB x1
  (K (.bool true) w2)
  (ifB (p0 == 95)
  (K (.bool true) w2)
  (ifB (decide (p0 ≥ 128))
  (K (.bool (p0 != 65533)) w2)
  (K (.bool false) w2))))))
  (CallK Tryz.prog 171 #[.int .i32 p0] w (.v (.one .bool)) (fun (x3 : Bool) w4 => ifB x3
  (K (.bool true) w4)
  (ifB (p0 == 95)
  (K (.bool true) w4)
  (ifB (decide (p0 ≥ 128))
  (K (.bool (p0 != 65533)) w4)
  (K (.bool false) w4)))))
def pl170 : Plan := .auto
theorem e170 (p0 : Int) (w : World) (K : Value → World → Prop) : vcFunc Tryz.prog Tryz.f170 pl170 [.int .i32 p0] w K = C170 p0 w K := by kernel_rfl
theorem c170 (p0 : Int) (w : World) (K : Value → World → Prop) (h : C170 p0 w K) : Ret Tryz.prog 170 #[.int .i32 p0] w K := by
  rw [← e170] at h
  exact vcFunc_sound (by kernel_rfl) Tryz.func170 h

/-- handfast/runes.Name -/
def C145 (p0 : ByteArray) (w : World) (K : Value → World → Prop) : Prop :=
  RunK Tryz.prog (Instr.range 9 (.string p0)) w (.v (.one .ptr)) (fun (x1 : Option Addr) w2 => LoopK (Int × Unit) (fun _ s3 w4 next5 => NextK x1 w4 (fun x6 x7 w8 => CallK Tryz.prog 170 #[.int .i32 x7] w8 (.v (.one .bool)) (fun (x9 : Bool) w10 => ifB (!x9)
  (K (.bool false) w10)
  (ifB ((IntKind.i64.wrap (s3.1 + 1)) == 1)
  (CallK Tryz.prog 171 #[.int .i32 x7] w10 (.v (.one .bool)) (fun (x11 : Bool) w12 => ifB x11
  (K (.bool false) w12)
  (ifB (decide ((IntKind.i64.wrap (s3.1 + 1)) > 12))
  (K (.bool false) w12)
  (next5 (IntKind.i64.wrap (s3.1 + 1), ()) w12))))
  (ifB (decide ((IntKind.i64.wrap (s3.1 + 1)) > 12))
  (K (.bool false) w10)
  (next5 (IntKind.i64.wrap (s3.1 + 1), ()) w10)))))
  (K (.bool (decide (s3.1 > 0))) w4))
  (0, ()) w2)
def pl145 : Plan := (.seq .auto (.seq .auto (.seq (.seq .auto (.block (.loop [(3, .one (.int .i64))] .auto))) .auto)))
theorem e145 (p0 : ByteArray) (w : World) (K : Value → World → Prop) : vcFunc Tryz.prog Tryz.f145 pl145 [.string p0] w K = C145 p0 w K := by kernel_rfl
theorem c145 (p0 : ByteArray) (w : World) (K : Value → World → Prop) (h : C145 p0 w K) : Ret Tryz.prog 145 #[.string p0] w K := by
  rw [← e145] at h
  exact vcFunc_sound (by kernel_rfl) Tryz.func145 h

/-- handfast/runes.kind -/
def C152 (p0 : Int) (w : World) (K : Value → World → Prop) : Prop :=
  CallK Tryz.prog 170 #[.int .i32 p0] w (.v (.one .bool)) (fun (x1 : Bool) w2 => ifB x1
  (K (.int .u8 97) w2)
  (ifB (p0 == 45)
  (K (.int .u8 97) w2)
  (ifB (p0 == 40)
  (K (.int .u8 40) w2)
  (ifB (p0 == 41)
  (K (.int .u8 40) w2)
  (ifB (p0 == 44)
  (K (.int .u8 40) w2)
  (ifB (p0 == 32)
  (K (.int .u8 32) w2)
  (K (.int .u8 0) w2)))))))
def pl152 : Plan := .auto
theorem e152 (p0 : Int) (w : World) (K : Value → World → Prop) : vcFunc Tryz.prog Tryz.f152 pl152 [.int .i32 p0] w K = C152 p0 w K := by kernel_rfl
theorem c152 (p0 : Int) (w : World) (K : Value → World → Prop) (h : C152 p0 w K) : Ret Tryz.prog 152 #[.int .i32 p0] w K := by
  rw [← e152] at h
  exact vcFunc_sound (by kernel_rfl) Tryz.func152 h

/-- handfast/runes.Signs -/
def C106 (p0 : ByteArray) (w : World) (K : Value → World → Prop) : Prop :=
  RunK Tryz.prog (Instr.range 9 (.string p0)) w (.v (.one .ptr)) (fun (x1 : Option Addr) w2 => LoopK ((Option Addr × Nat × Nat) × Int × Bool × Unit) (fun _ s3 w4 next5 => NextK x1 w4 (fun x6 x7 w8 => CallK Tryz.prog 152 #[.int .i32 x7] w8 (.v (.one (.int .u8))) (fun (x9 : Int) w10 => ifB (x9 == 0)
  (K (.tuple #[.slice none 0 0, .int .i64 (IntKind.i64.wrap (s3.2.1 + 1))]) w10)
  (JoinK (Bool × Unit) (fun J11 => ifB (x9 == 97)
  (J11 (s3.2.2.1, ()) w10)
  (J11 (false, ()) w10))
  (fun _ s12 w13 => ifB s12.1
  (IdxK s3.1.1 s3.1.2.1 (IntKind.i64.wrap ((s3.1.2.1 : Int) - 1)) 2 (fun a14 => LdK .str (a14.add 0) w13 (fun (x15 : ByteArray) => CatK x15 (Utf8.encode x7) (IdxK s3.1.1 s3.1.2.1 (IntKind.i64.wrap ((s3.1.2.1 : Int) - 1)) 2 (fun a16 => StK (a16.add 0) (.string (x15 ++ (Utf8.encode x7))) w13 (fun w17 => next5 ((s3.1.1, s3.1.2.1, s3.1.2.2), IntKind.i64.wrap (s3.2.1 + 1), (x9 == 97), ()) w17))))))
  (ifB (x9 != 32)
  (RunK Tryz.prog (Instr.buildSlice 143 1 #[(0, .agg #[.string (Utf8.encode x7), .int .i64 (IntKind.i64.wrap (s3.2.1 + 1))])]) w13 (.v (.one .slc)) (fun (x18 : Option Addr × Nat × Nat) w19 => RunK Tryz.prog (Builtin.append_ #[143, 143] 143 #[.slice s3.1.1 s3.1.2.1 s3.1.2.2, .slice x18.1 x18.2.1 x18.2.2]) w19 (.v (.one .slc)) (fun (x20 : Option Addr × Nat × Nat) w21 => next5 ((x20.1, x20.2.1, x20.2.2), IntKind.i64.wrap (s3.2.1 + 1), (x9 == 97), ()) w21)))
  (next5 ((s3.1.1, s3.1.2.1, s3.1.2.2), IntKind.i64.wrap (s3.2.1 + 1), (x9 == 97), ()) w13))))))
  (K (.tuple #[.slice s3.1.1 s3.1.2.1 s3.1.2.2, .int .i64 0]) w4))
  ((none, 0, 0), 0, false, ()) w2)
def pl106 : Plan := (.seq .auto (.seq .auto (.seq (.seq .auto (.block (.loop [(2, .one .slc), (4, .one (.int .i64)), (5, .one .bool)] (.seq .auto (.seq .auto (.block (.seq .auto (.seq .auto (.seq .auto (.seq .auto (.seq (.block (.join [(21, .one .bool)] .auto .auto)) .auto))))))))))) .auto)))
theorem e106 (p0 : ByteArray) (w : World) (K : Value → World → Prop) : vcFunc Tryz.prog Tryz.f106 pl106 [.string p0] w K = C106 p0 w K := by kernel_rfl
theorem c106 (p0 : ByteArray) (w : World) (K : Value → World → Prop) (h : C106 p0 w K) : Ret Tryz.prog 106 #[.string p0] w K := by
  rw [← e106] at h
  exact vcFunc_sound (by kernel_rfl) Tryz.func106 h

/-- handfast/handfastkeep.Text -/
def C53 (p0 : ByteArray) (p1 : Int) (w : World) (K : Value → World → Prop) : Prop :=
  SubsK p0 0 (if p1 < (p0.size : Int) then p1 else (p0.size : Int)) (fun x1 => K (.string x1) w)
def pl53 : Plan := .auto
theorem e53 (p0 : ByteArray) (p1 : Int) (w : World) (K : Value → World → Prop) : vcFunc Tryz.prog Tryz.f53 pl53 [.string p0, .int .i64 p1] w K = C53 p0 p1 w K := by kernel_rfl
theorem c53 (p0 : ByteArray) (p1 : Int) (w : World) (K : Value → World → Prop) (h : C53 p0 p1 w K) : Ret Tryz.prog 53 #[.string p0, .int .i64 p1] w K := by
  rw [← e53] at h
  exact vcFunc_sound (by kernel_rfl) Tryz.func53 h

end Go.Proofs.YtlhbfdakceipkaaGreatDoor

/-! ### NameSpec -/
set_option linter.unusedVariables false
set_option maxRecDepth 100000
namespace Go.Proofs.YtlhbfdakceipkaaGreatDoor
open Vc

def isDig (r : Int) : Bool := decide (48 ≤ r) && decide (r ≤ 57)
def isLet (r : Int) : Bool := (decide (97 ≤ r) && decide (r ≤ 122)) || isDig r || r == 95 || (decide (128 ≤ r) && r != 65533)

theorem digit_spec (r : Int) (w : World) : Ret Tryz.prog 171 #[.int .i32 r] w fun v w' => v = .bool (isDig r) ∧ w = w' := by
  refine c171 r w _ ?_
  unfold isDig
  refine ifB.dec (fun h => ?_) (fun h => ?_)
  · rw [decide_eq_true (p := 48 ≤ r) (by omega)]; exact ⟨rfl, rfl⟩
  · rw [decide_eq_false (p := 48 ≤ r) (by omega)]; exact ⟨rfl, rfl⟩

theorem letter_spec (r : Int) (w : World) : Ret Tryz.prog 170 #[.int .i32 r] w fun v w' => v = .bool (isLet r) ∧ w = w' := by
  refine c170 r w _ ?_
  have tail : (decide (97 ≤ r) && decide (r ≤ 122)) = false → CallK Tryz.prog 171 #[.int .i32 r] w (.v (.one .bool)) (fun (x1 : Bool) w2 => ifB x1
      ((.bool true : Value) = .bool (isLet r) ∧ w = w2) (ifB (r == 95) ((.bool true : Value) = .bool (isLet r) ∧ w = w2) (ifB (decide (r ≥ 128)) ((.bool (r != 65533) : Value) = .bool (isLet r) ∧ w = w2) ((.bool false : Value) = .bool (isLet r) ∧ w = w2)))) := fun h => by
    refine CallK.of (digit_spec r w) ?_
    rintro _ _ ⟨rfl, rfl⟩
    refine ⟨_, rfl, ?_⟩
    unfold isLet
    rw [h, Bool.false_or]
    refine ifB.by (fun h1 => ?_) (fun h1 => ?_)
    · rw [h1]; exact ⟨rfl, rfl⟩
    rw [h1, Bool.false_or]
    refine ifB.by (fun h2 => ?_) (fun h2 => ?_)
    · rw [h2]; exact ⟨rfl, rfl⟩
    rw [h2, Bool.false_or]
    refine ifB.dec (fun h3 => ?_) (fun h3 => ?_)
    · rw [decide_eq_true (p := 128 ≤ r) (by omega)]; exact ⟨by rw [Bool.true_and], rfl⟩
    · rw [decide_eq_false (p := 128 ≤ r) (by omega)]; exact ⟨rfl, rfl⟩
  refine ifB.dec (fun h => ?_) (fun h => ?_)
  · refine ifB.dec (fun h2 => ?_) (fun h2 => ?_)
    · unfold isLet
      rw [decide_eq_true (p := 97 ≤ r) (by omega), decide_eq_true (p := r ≤ 122) (by omega)]; exact ⟨rfl, rfl⟩
    · exact tail (by rw [decide_eq_false (p := r ≤ 122) (by omega), Bool.and_false])
  · exact tail (by rw [decide_eq_false (p := 97 ≤ r) (by omega), Bool.false_and])

/-- How much a round has left. -/
def itLen (w : World) (r : Nat) : Nat := match w.heap[r]? with
  | some (.stringIter s pos) => (runesL (s.data.toList.drop pos)).length
  | _ => 0
theorem IsIt.left {w : World} {r : Nat} {rs : List Int} (h : IsIt w r rs) : itLen w r = rs.length := by
  obtain ⟨s, pos, a, b⟩ := h
  unfold itLen
  rw [a, ← b]

theorem range_okS {w : World} (bs : List UInt8) {K : Option Addr → World → Prop}
    (hK : ∀ r w1, r = w.heap.size → IsIt w1 r (runesL bs) → Fr none1 w w1 → K (some ⟨r, 0, none⟩) w1) : RunK Tryz.prog (Instr.range 9 (.string (str bs))) w (.v (.one .ptr)) K := by
  refine range_ok Tryz.underlying9 (str bs) ?_
  rw [str_list]
  exact hK

/-! ### Names -/
def nameF (n : Nat) : List Int → Bool
  | [] => decide (0 < n)
  | r :: rs => if isLet r = false then false else if n = 0 ∧ isDig r = true then false else if 12 < n + 1 then false else nameF (n + 1) rs

theorem name_spec (bs : List UInt8) (w : World) : Ret Tryz.prog 145 #[.string (str bs)] w fun v w' => v = .bool (nameF 0 (runesL bs)) ∧ Fr none1 w w' := by
  refine c145 _ w _ ?_
  refine range_okS bs fun r w1 hr hit f1 => ?_
  have F0 : Fr (only r) w1 w1 := Fr.refl _ _
  refine LoopK.of (fun s w' => ∃ (n : Nat) (rest : List Int), s.1 = n ∧ n ≤ 12 ∧ IsIt w' r rest ∧ Fr (only r) w1 w' ∧ nameF n rest = nameF 0 (runesL bs)) (fun _ w' => itLen w' r) ⟨0, _, rfl, by omega, hit, F0, rfl⟩ ?_
  rintro _ ⟨n', _⟩ w2 ⟨n, rest, hn, hn12, hit2, f2, hnm⟩
  dsimp only at hn ⊢
  subst hn
  have fin : ∀ w', Fr (only r) w1 w' → Fr none1 w w' := fun w' f => f1.fresh f (by omega)
  refine next_ok hit2 (fun c rest' pos w3 hc hok hit3 f3 => ?_) (fun hnil => ?_)
  · subst hc
    have fw3 := fin _ (f2.trans f3)
    refine CallK.of (letter_spec c w3) ?_
    rintro _ _ ⟨rfl, rfl⟩
    refine ⟨_, rfl, ?_⟩
    have ml : itLen w3 r < itLen w2 r := by rw [hit3.left, hit2.left]; simp
    have hst : nameF n (c :: rest') = if isLet c = false then false else if n = 0 ∧ isDig c = true then false else if 12 < n + 1 then false else nameF (n + 1) rest' := rfl
    rw [hst] at hnm
    by_cases hl : isLet c = false
    · rw [if_pos hl] at hnm
      refine ifB.t (by rw [hl]; rfl) ⟨by rw [← hnm], fw3⟩
    rw [if_neg hl] at hnm
    refine ifB.f (by simpa using hl) ?_
    rw [wI (x := (n : Int) + 1) (by omega) (by omega)]
    have rest12 : ¬ (n = 0 ∧ isDig c = true) → ifB (decide ((n : Int) + 1 > 12)) ((.bool false : Value) = .bool (nameF 0 (runesL bs)) ∧ Fr none1 w w3)
        ((∃ (n' : Nat) (rest : List Int), ((n : Int) + 1) = n' ∧ n' ≤ 12 ∧ IsIt w3 r rest ∧ Fr (only r) w1 w3 ∧ nameF n' rest = nameF 0 (runesL bs)) ∧ itLen w3 r < itLen w2 r) := fun hd => by
      rw [if_neg hd] at hnm
      refine ifB.dec (fun h => ?_) (fun h => ?_)
      · rw [if_pos (by omega)] at hnm; exact ⟨by rw [← hnm], fw3⟩
      · rw [if_neg (by omega)] at hnm
        exact ⟨⟨n + 1, rest', by omega, by omega, hit3, f2.trans f3, hnm⟩, ml⟩
    refine ifB.eq (fun h1 => ?_) (fun h1 => ?_)
    · refine CallK.of (digit_spec c w3) ?_
      rintro _ _ ⟨rfl, rfl⟩
      refine ⟨_, rfl, ?_⟩
      refine ifB.by (fun hd => ?_) (fun hd => ?_)
      · rw [if_pos ⟨by omega, hd⟩] at hnm; exact ⟨by rw [← hnm], fw3⟩
      · exact rest12 fun t => by rw [t.2] at hd; cases hd
    · exact rest12 fun t => by have := t.1; omega
  · subst hnil
    refine ⟨?_, fin _ f2⟩
    rw [← hnm]
    unfold nameF
    congr 1
    exact decide_eq_decide.2 (by omega)

theorem text1_spec (bs : List UInt8) (n : Int) (w : World) (h0 : 0 ≤ n) : Ret Tryz.prog 53 #[.string (str bs), .int .i64 n] w fun r w' => r = .string (str (bs.take n.toNat)) ∧ w = w' := by
  refine c53 _ n w _ ?_
  have hsz := str_size bs
  have ext : ∀ m : Nat, (str bs).extract 0 m = str (bs.take m) := fun m => by
    apply ByteArray.ext
    rw [ByteArray.data_extract]
    unfold str
    simp
  unfold C53
  split
  · refine ⟨by omega, by omega, by omega, ?_, rfl⟩
    rw [show (0 : Int).toNat = 0 from rfl, ext]
  · refine ⟨by omega, by omega, by omega, ?_, rfl⟩
    rw [show (0 : Int).toNat = 0 from rfl, ext, Int.toNat_natCast, hsz, List.take_length, List.take_of_length_le (by omega)]

end Go.Proofs.YtlhbfdakceipkaaGreatDoor

/-! ### CEventG -/
namespace Go.Proofs.YtlhbfdakceipkaaGreatDoor
open Vc
set_option maxRecDepth 100000
set_option linter.unusedVariables false
/-- handfast/event.Check -/
def C49 (p0 : Int × ByteArray × ByteArray × ByteArray × ByteArray × Int × Int × Value × Unit) (w : World) (K : Value → World → Prop) : Prop :=
  NewK (.cells #[.int .i64 p0.1, .string p0.2.1, .string p0.2.2.1, .string p0.2.2.2.1, .string p0.2.2.2.2.1, .int .i64 p0.2.2.2.2.2.1, .int .i64 p0.2.2.2.2.2.2.1, p0.2.2.2.2.2.2.2.1] 30) w (fun g1 w2 => LdK (.int .i64) ((⟨g1, 0, none⟩ : Addr).add 0) w2 (fun (x3 : Int) => CallK Tryz.prog 93 #[.int .i64 x3] w2 (.v (.one .str)) (fun (x4 : ByteArray) w5 => ifB (x4.toList == (⟨#[63]⟩ : ByteArray).toList)
  (K (.int .i64 1) w5)
  (LdsK [.int .i64, .str, .str, .str, .str, .int .i64, .int .i64, .raw] (⟨g1, 0, none⟩ : Addr) w5 (fun (x6 : Int × ByteArray × ByteArray × ByteArray × ByteArray × Int × Int × Value × Unit) => CallK Tryz.prog 94 #[.agg #[.int .i64 x6.1, .string x6.2.1, .string x6.2.2.1, .string x6.2.2.2.1, .string x6.2.2.2.2.1, .int .i64 x6.2.2.2.2.2.1, .int .i64 x6.2.2.2.2.2.2.1, x6.2.2.2.2.2.2.2.1]] w5 (.v (.one .bool)) (fun (x7 : Bool) w8 => ifB (!x7)
  (K (.int .i64 1) w8)
  (LdsK [.int .i64, .str, .str, .str, .str, .int .i64, .int .i64, .raw] (⟨g1, 0, none⟩ : Addr) w8 (fun (x9 : Int × ByteArray × ByteArray × ByteArray × ByteArray × Int × Int × Value × Unit) => CallK Tryz.prog 95 #[.agg #[.int .i64 x9.1, .string x9.2.1, .string x9.2.2.1, .string x9.2.2.2.1, .string x9.2.2.2.2.1, .int .i64 x9.2.2.2.2.2.1, .int .i64 x9.2.2.2.2.2.2.1, x9.2.2.2.2.2.2.2.1]] w8 (.v (.one .bool)) (fun (x10 : Bool) w11 => ifB (!x10)
  (K (.int .i64 1) w11)
  (LdK (.int .i64) ((⟨g1, 0, none⟩ : Addr).add 5) w11 (fun (x12 : Int) => ifB (decide (x12 < 0))
  (K (.int .i64 1) w11)
  (LdK (.int .i64) ((⟨g1, 0, none⟩ : Addr).add 5) w11 (fun (x13 : Int) => ifB (decide (x13 > 10000))
  (K (.int .i64 1) w11)
  (LdK (.int .i64) ((⟨g1, 0, none⟩ : Addr).add 6) w11 (fun (x14 : Int) => CallK Tryz.prog 96 #[.int .i64 x14] w11 (.v (.one .bool)) (fun (x15 : Bool) w16 => ifB (!x15)
  (K (.int .i64 1) w16)
  (JoinK (Bool × Unit) (fun J17 => LdK (.int .i64) ((⟨g1, 0, none⟩ : Addr).add 0) w16 (fun (x20 : Int) => ifB (x20 == 4)
  (LdK (.int .i64) ((⟨g1, 0, none⟩ : Addr).add 6) w16 (fun (x21 : Int) => ifB (x21 != 0)
  (LdK (.int .i64) ((⟨g1, 0, none⟩ : Addr).add 6) w16 (fun (x22 : Int) => J17 ((x22 != 1), ()) w16))
  (J17 (false, ()) w16)))
  (J17 (false, ()) w16)))
  (fun _ s18 w19 => ifB s18.1
  (K (.int .i64 1) w19)
  (LdK (.int .i64) ((⟨g1, 0, none⟩ : Addr).add 0) w19 (fun (x23 : Int) => ifB (x23 == 2)
  (LdK .raw ((⟨g1, 0, none⟩ : Addr).add 7) w19 (fun (x24 : Value) => CallK Tryz.prog 35 #[x24] w19 (.tup [.one .str, .one (.int .i64)]) (fun (x25 : ByteArray × Int × Unit) w26 => K (.int .i64 x25.2.1) w26)))
  (K (.int .i64 0) w19)))))))))))))))))))))
def pl49 : Plan := (.seq .auto (.seq (.block (.seq .auto (.cond .auto (.seq .auto (.cond .auto (.join [(35, .one .bool)] .auto .auto)))))) .auto))
theorem e49 (p0 : Int × ByteArray × ByteArray × ByteArray × ByteArray × Int × Int × Value × Unit) (w : World) (K : Value → World → Prop) : vcFunc Tryz.prog Tryz.f49 pl49 [.agg #[.int .i64 p0.1, .string p0.2.1, .string p0.2.2.1, .string p0.2.2.2.1, .string p0.2.2.2.2.1, .int .i64 p0.2.2.2.2.2.1, .int .i64 p0.2.2.2.2.2.2.1, p0.2.2.2.2.2.2.2.1]] w K = C49 p0 w K := by kernel_rfl
theorem c49 (p0 : Int × ByteArray × ByteArray × ByteArray × ByteArray × Int × Int × Value × Unit) (w : World) (K : Value → World → Prop) (h : C49 p0 w K) : Ret Tryz.prog 49 #[.agg #[.int .i64 p0.1, .string p0.2.1, .string p0.2.2.1, .string p0.2.2.2.1, .string p0.2.2.2.2.1, .int .i64 p0.2.2.2.2.2.1, .int .i64 p0.2.2.2.2.2.2.1, p0.2.2.2.2.2.2.2.1]] w K := by
  rw [← e49] at h
  exact vcFunc_sound (by kernel_rfl) Tryz.func49 h

/-- handfast/event.Fields -/
def C93 (p0 : Int) (w : World) (K : Value → World → Prop) : Prop :=
  ifB (p0 == 1)
  (K (.string (⟨#[]⟩ : ByteArray)) w)
  (ifB (p0 == 2)
  (K (.string (⟨#[73, 84]⟩ : ByteArray)) w)
  (ifB (p0 == 3)
  (K (.string (⟨#[78, 68, 86]⟩ : ByteArray)) w)
  (ifB (p0 == 4)
  (K (.string (⟨#[73, 76, 86]⟩ : ByteArray)) w)
  (ifB (p0 == 5)
  (K (.string (⟨#[68]⟩ : ByteArray)) w)
  (ifB (p0 == 6)
  (K (.string (⟨#[68, 67, 86]⟩ : ByteArray)) w)
  (K (.string (⟨#[63]⟩ : ByteArray)) w))))))
def pl93 : Plan := .auto
theorem e93 (p0 : Int) (w : World) (K : Value → World → Prop) : vcFunc Tryz.prog Tryz.f93 pl93 [.int .i64 p0] w K = C93 p0 w K := by kernel_rfl
theorem c93 (p0 : Int) (w : World) (K : Value → World → Prop) (h : C93 p0 w K) : Ret Tryz.prog 93 #[.int .i64 p0] w K := by
  rw [← e93] at h
  exact vcFunc_sound (by kernel_rfl) Tryz.func93 h

/-- handfast/event.only -/
def C94 (p0 : Int × ByteArray × ByteArray × ByteArray × ByteArray × Int × Int × Value × Unit) (w : World) (K : Value → World → Prop) : Prop :=
  NewK (.cells #[.int .i64 p0.1, .string p0.2.1, .string p0.2.2.1, .string p0.2.2.2.1, .string p0.2.2.2.2.1, .int .i64 p0.2.2.2.2.2.1, .int .i64 p0.2.2.2.2.2.2.1, p0.2.2.2.2.2.2.2.1] 30) w (fun g1 w2 => NewK (.map #[] 0) w2 (fun g3 w4 => LdK .str ((⟨g1, 0, none⟩ : Addr).add 1) w4 (fun (x5 : ByteArray) => RunU Tryz.prog (Instr.mapUpdate 262 (.map (some g3)) (.string (⟨#[73]⟩ : ByteArray)) (.string x5)) w4 (fun w6 => LdK .str ((⟨g1, 0, none⟩ : Addr).add 2) w6 (fun (x7 : ByteArray) => RunU Tryz.prog (Instr.mapUpdate 262 (.map (some g3)) (.string (⟨#[78]⟩ : ByteArray)) (.string x7)) w6 (fun w8 => LdK .str ((⟨g1, 0, none⟩ : Addr).add 3) w8 (fun (x9 : ByteArray) => RunU Tryz.prog (Instr.mapUpdate 262 (.map (some g3)) (.string (⟨#[76]⟩ : ByteArray)) (.string x9)) w8 (fun w10 => LdK .str ((⟨g1, 0, none⟩ : Addr).add 4) w10 (fun (x11 : ByteArray) => RunU Tryz.prog (Instr.mapUpdate 262 (.map (some g3)) (.string (⟨#[67]⟩ : ByteArray)) (.string x11)) w10 (fun w12 => RunK Tryz.prog (Instr.range 262 (.map (some g3))) w12 (.v (.one .ptr)) (fun (x13 : Option Addr) w14 => LoopK (Unit) (fun _ s15 w16 next17 => MnextK Tryz.prog (.pointer x13) 0 w16 (fun x18 x19 w20 => RunK Tryz.prog (Instr.entry (.pointer x13)) w20 (.tup [.one .raw, .one .raw]) (fun (x22 : Value × Value × Unit) w23 => Kd.ex (.one .str) x22.1 (fun (x24 : ByteArray) => Kd.ex (.one .str) x22.2.1 (fun (x25 : ByteArray) => ifB (!(x25.toList == (⟨#[]⟩ : ByteArray).toList))
  (LdK (.int .i64) ((⟨g1, 0, none⟩ : Addr).add 0) w23 (fun (x26 : Int) => CallK Tryz.prog 144 #[.int .i64 x26, .string x24] w23 (.v (.one .bool)) (fun (x27 : Bool) w28 => ifB (!x27)
  (K (.bool false) w28)
  (next17 (()) w28))))
  (next17 (()) w23)))))
  (fun w21 => LdK (.int .i64) ((⟨g1, 0, none⟩ : Addr).add 5) w21 (fun (x29 : Int) => ifB (x29 == 0)
  (LdK (.int .i64) ((⟨g1, 0, none⟩ : Addr).add 6) w21 (fun (x30 : Int) => ifB (x30 == 0)
  (LdK .raw ((⟨g1, 0, none⟩ : Addr).add 7) w21 (fun (x31 : Value) => RunK Tryz.prog (do eqGuard .eql 28 (.tmp 52) (.const .nilIface) x31 .nilIface; binOp .eql 28 x31 .nilIface) w21 (.v (.one .bool)) (fun (x32 : Bool) w33 => ifB x32
  (K (.bool true) w33)
  (LdK (.int .i64) ((⟨g1, 0, none⟩ : Addr).add 0) w33 (fun (x34 : Int) => CallK Tryz.prog 144 #[.int .i64 x34, .string (⟨#[84]⟩ : ByteArray)] w33 (.v (.one .bool)) (fun (x35 : Bool) w36 => K (.bool x35) w36))))))
  (LdK (.int .i64) ((⟨g1, 0, none⟩ : Addr).add 0) w21 (fun (x37 : Int) => CallK Tryz.prog 144 #[.int .i64 x37, .string (⟨#[86]⟩ : ByteArray)] w21 (.v (.one .bool)) (fun (x38 : Bool) w39 => ifB x38
  (LdK .raw ((⟨g1, 0, none⟩ : Addr).add 7) w39 (fun (x40 : Value) => RunK Tryz.prog (do eqGuard .eql 28 (.tmp 52) (.const .nilIface) x40 .nilIface; binOp .eql 28 x40 .nilIface) w39 (.v (.one .bool)) (fun (x41 : Bool) w42 => ifB x41
  (K (.bool true) w42)
  (LdK (.int .i64) ((⟨g1, 0, none⟩ : Addr).add 0) w42 (fun (x43 : Int) => CallK Tryz.prog 144 #[.int .i64 x43, .string (⟨#[84]⟩ : ByteArray)] w42 (.v (.one .bool)) (fun (x44 : Bool) w45 => K (.bool x44) w45))))))
  (K (.bool false) w39))))))
  (LdK (.int .i64) ((⟨g1, 0, none⟩ : Addr).add 0) w21 (fun (x46 : Int) => CallK Tryz.prog 144 #[.int .i64 x46, .string (⟨#[68]⟩ : ByteArray)] w21 (.v (.one .bool)) (fun (x47 : Bool) w48 => ifB x47
  (LdK (.int .i64) ((⟨g1, 0, none⟩ : Addr).add 6) w48 (fun (x49 : Int) => ifB (x49 == 0)
  (LdK .raw ((⟨g1, 0, none⟩ : Addr).add 7) w48 (fun (x50 : Value) => RunK Tryz.prog (do eqGuard .eql 28 (.tmp 52) (.const .nilIface) x50 .nilIface; binOp .eql 28 x50 .nilIface) w48 (.v (.one .bool)) (fun (x51 : Bool) w52 => ifB x51
  (K (.bool true) w52)
  (LdK (.int .i64) ((⟨g1, 0, none⟩ : Addr).add 0) w52 (fun (x53 : Int) => CallK Tryz.prog 144 #[.int .i64 x53, .string (⟨#[84]⟩ : ByteArray)] w52 (.v (.one .bool)) (fun (x54 : Bool) w55 => K (.bool x54) w55))))))
  (LdK (.int .i64) ((⟨g1, 0, none⟩ : Addr).add 0) w48 (fun (x56 : Int) => CallK Tryz.prog 144 #[.int .i64 x56, .string (⟨#[86]⟩ : ByteArray)] w48 (.v (.one .bool)) (fun (x57 : Bool) w58 => ifB x57
  (LdK .raw ((⟨g1, 0, none⟩ : Addr).add 7) w58 (fun (x59 : Value) => RunK Tryz.prog (do eqGuard .eql 28 (.tmp 52) (.const .nilIface) x59 .nilIface; binOp .eql 28 x59 .nilIface) w58 (.v (.one .bool)) (fun (x60 : Bool) w61 => ifB x60
  (K (.bool true) w61)
  (LdK (.int .i64) ((⟨g1, 0, none⟩ : Addr).add 0) w61 (fun (x62 : Int) => CallK Tryz.prog 144 #[.int .i64 x62, .string (⟨#[84]⟩ : ByteArray)] w61 (.v (.one .bool)) (fun (x63 : Bool) w64 => K (.bool x63) w64))))))
  (K (.bool false) w58))))))
  (K (.bool false) w48)))))))
  (()) w14)))))))))))
def pl94 : Plan := (.seq .auto (.seq .auto (.seq (.seq .auto (.block (.loop [] .auto))) .auto)))
theorem e94 (p0 : Int × ByteArray × ByteArray × ByteArray × ByteArray × Int × Int × Value × Unit) (w : World) (K : Value → World → Prop) : vcFunc Tryz.prog Tryz.f94 pl94 [.agg #[.int .i64 p0.1, .string p0.2.1, .string p0.2.2.1, .string p0.2.2.2.1, .string p0.2.2.2.2.1, .int .i64 p0.2.2.2.2.2.1, .int .i64 p0.2.2.2.2.2.2.1, p0.2.2.2.2.2.2.2.1]] w K = C94 p0 w K := by kernel_rfl
theorem c94 (p0 : Int × ByteArray × ByteArray × ByteArray × ByteArray × Int × Int × Value × Unit) (w : World) (K : Value → World → Prop) (h : C94 p0 w K) : Ret Tryz.prog 94 #[.agg #[.int .i64 p0.1, .string p0.2.1, .string p0.2.2.1, .string p0.2.2.2.1, .string p0.2.2.2.2.1, .int .i64 p0.2.2.2.2.2.1, .int .i64 p0.2.2.2.2.2.2.1, p0.2.2.2.2.2.2.2.1]] w K := by
  rw [← e94] at h
  exact vcFunc_sound (by kernel_rfl) Tryz.func94 h

/-- handfast/event.named -/
def C95 (p0 : Int × ByteArray × ByteArray × ByteArray × ByteArray × Int × Int × Value × Unit) (w : World) (K : Value → World → Prop) : Prop :=
  NewK (.cells #[.int .i64 p0.1, .string p0.2.1, .string p0.2.2.1, .string p0.2.2.2.1, .string p0.2.2.2.2.1, .int .i64 p0.2.2.2.2.2.1, .int .i64 p0.2.2.2.2.2.2.1, p0.2.2.2.2.2.2.2.1] 30) w (fun g1 w2 => NewK (.map #[] 0) w2 (fun g3 w4 => LdK .str ((⟨g1, 0, none⟩ : Addr).add 1) w4 (fun (x5 : ByteArray) => RunU Tryz.prog (Instr.mapUpdate 262 (.map (some g3)) (.string (⟨#[73]⟩ : ByteArray)) (.string x5)) w4 (fun w6 => LdK .str ((⟨g1, 0, none⟩ : Addr).add 2) w6 (fun (x7 : ByteArray) => RunU Tryz.prog (Instr.mapUpdate 262 (.map (some g3)) (.string (⟨#[78]⟩ : ByteArray)) (.string x7)) w6 (fun w8 => LdK .str ((⟨g1, 0, none⟩ : Addr).add 3) w8 (fun (x9 : ByteArray) => RunU Tryz.prog (Instr.mapUpdate 262 (.map (some g3)) (.string (⟨#[76]⟩ : ByteArray)) (.string x9)) w8 (fun w10 => LdK .str ((⟨g1, 0, none⟩ : Addr).add 4) w10 (fun (x11 : ByteArray) => RunU Tryz.prog (Instr.mapUpdate 262 (.map (some g3)) (.string (⟨#[67]⟩ : ByteArray)) (.string x11)) w10 (fun w12 => RunK Tryz.prog (Instr.range 262 (.map (some g3))) w12 (.v (.one .ptr)) (fun (x13 : Option Addr) w14 => LoopK (Unit) (fun _ s15 w16 next17 => MnextK Tryz.prog (.pointer x13) 0 w16 (fun x18 x19 w20 => RunK Tryz.prog (Instr.entry (.pointer x13)) w20 (.tup [.one .raw, .one .raw]) (fun (x22 : Value × Value × Unit) w23 => Kd.ex (.one .str) x22.1 (fun (x24 : ByteArray) => Kd.ex (.one .str) x22.2.1 (fun (x25 : ByteArray) => LdK (.int .i64) ((⟨g1, 0, none⟩ : Addr).add 0) w23 (fun (x26 : Int) => CallK Tryz.prog 144 #[.int .i64 x26, .string x24] w23 (.v (.one .bool)) (fun (x27 : Bool) w28 => ifB x27
  (CallK Tryz.prog 145 #[.string x25] w28 (.v (.one .bool)) (fun (x29 : Bool) w30 => ifB (!x29)
  (K (.bool false) w30)
  (next17 (()) w30)))
  (next17 (()) w28)))))))
  (fun w21 => K (.bool true) w21))
  (()) w14)))))))))))
def pl95 : Plan := (.seq .auto (.seq .auto (.seq (.seq .auto (.block (.loop [] .auto))) .auto)))
theorem e95 (p0 : Int × ByteArray × ByteArray × ByteArray × ByteArray × Int × Int × Value × Unit) (w : World) (K : Value → World → Prop) : vcFunc Tryz.prog Tryz.f95 pl95 [.agg #[.int .i64 p0.1, .string p0.2.1, .string p0.2.2.1, .string p0.2.2.2.1, .string p0.2.2.2.2.1, .int .i64 p0.2.2.2.2.2.1, .int .i64 p0.2.2.2.2.2.2.1, p0.2.2.2.2.2.2.2.1]] w K = C95 p0 w K := by kernel_rfl
theorem c95 (p0 : Int × ByteArray × ByteArray × ByteArray × ByteArray × Int × Int × Value × Unit) (w : World) (K : Value → World → Prop) (h : C95 p0 w K) : Ret Tryz.prog 95 #[.agg #[.int .i64 p0.1, .string p0.2.1, .string p0.2.2.1, .string p0.2.2.2.1, .string p0.2.2.2.2.1, .int .i64 p0.2.2.2.2.2.1, .int .i64 p0.2.2.2.2.2.2.1, p0.2.2.2.2.2.2.2.1]] w K := by
  rw [← e95] at h
  exact vcFunc_sound (by kernel_rfl) Tryz.func95 h

/-- handfast/event.has -/
def C144 (p0 : Int) (p1 : ByteArray) (w : World) (K : Value → World → Prop) : Prop :=
  CallK Tryz.prog 93 #[.int .i64 p0] w (.v (.one .str)) (fun (x1 : ByteArray) w2 => CallK Tryz.prog 169 #[.string x1, .string p1] w2 (.v (.one .bool)) (fun (x3 : Bool) w4 => K (.bool x3) w4))
def pl144 : Plan := .auto
theorem e144 (p0 : Int) (p1 : ByteArray) (w : World) (K : Value → World → Prop) : vcFunc Tryz.prog Tryz.f144 pl144 [.int .i64 p0, .string p1] w K = C144 p0 p1 w K := by kernel_rfl
theorem c144 (p0 : Int) (p1 : ByteArray) (w : World) (K : Value → World → Prop) (h : C144 p0 p1 w K) : Ret Tryz.prog 144 #[.int .i64 p0, .string p1] w K := by
  rw [← e144] at h
  exact vcFunc_sound (by kernel_rfl) Tryz.func144 h

/-- handfast/cents.Valid -/
def C96 (p0 : Int) (w : World) (K : Value → World → Prop) : Prop :=
  ifB (decide (p0 ≥ (-1000000000000)))
  (K (.bool (decide (p0 ≤ 1000000000000))) w)
  (K (.bool false) w)
def pl96 : Plan := .auto
theorem e96 (p0 : Int) (w : World) (K : Value → World → Prop) : vcFunc Tryz.prog Tryz.f96 pl96 [.int .i64 p0] w K = C96 p0 w K := by kernel_rfl
theorem c96 (p0 : Int) (w : World) (K : Value → World → Prop) (h : C96 p0 w K) : Ret Tryz.prog 96 #[.int .i64 p0] w K := by
  rw [← e96] at h
  exact vcFunc_sound (by kernel_rfl) Tryz.func96 h

end Go.Proofs.YtlhbfdakceipkaaGreatDoor

/-! ### Shelf -/
namespace Go.Proofs.YtlhbfdakceipkaaGreatDoor
open Go.Shelf
def Tryz.lays156_ren : Go.Shelf.Ren := ⟨fun | 156 => 167 | 165 => 189 | 166 => 190 | 169 => 191 | 240 => 207 | 241 => 208 | 276 => 221 | 277 => 222 | n => n, fun | 31 => 23 | 9 => 9 | 3 => 3 | 4 => 4 | 0 => 0 | 20 => 20 | 72 => 304 | 76 => 276 | 70 => 302 | 37 => 38 | 75 => 275 | 127 => 325 | 164 => 340 | 5 => 5 | 80 => 224 | n => n, fun | n => n⟩
theorem Tryz.lays156 : Go.Proofs.Lays.n156 Tryz.prog Tryz.lays156_ren := {
  mixed := by kernel_rfl
  f156 := Tryz.func167.trans (congrArg some (by kernel_rfl))
  f165 := Tryz.func189.trans (congrArg some (by kernel_rfl))
  f166 := Tryz.func190.trans (congrArg some (by kernel_rfl))
  f169 := Tryz.func191.trans (congrArg some (by kernel_rfl))
  f240 := Tryz.func207.trans (congrArg some (by kernel_rfl))
  f241 := Tryz.func208.trans (congrArg some (by kernel_rfl))
  f276 := Tryz.func221.trans (congrArg some (by kernel_rfl))
  f277 := Tryz.func222.trans (congrArg some (by kernel_rfl))
  t0 := Tryz.underlying0
  a0 := Tryz.isAgg0
  z0 := Tryz.sizeOf0
  v0 := Tryz.zeroValue0
  t3 := Tryz.underlying3
  a3 := Tryz.isAgg3
  z3 := Tryz.sizeOf3
  v3 := Tryz.zeroValue3
  t4 := Tryz.underlying4
  a4 := Tryz.isAgg4
  z4 := Tryz.sizeOf4
  v4 := Tryz.zeroValue4
  t9 := Tryz.underlying9
  a9 := Tryz.isAgg9
  z9 := Tryz.sizeOf9
  v9 := Tryz.zeroValue9
  t20 := Tryz.underlying20
  a20 := Tryz.isAgg20
  z20 := Tryz.sizeOf20
  v20 := Tryz.zeroValue20
  t31 := Tryz.underlying23
  a31 := Tryz.isAgg23
  z31 := Tryz.sizeOf23
  v31 := Tryz.zeroValue23
  t37 := Tryz.underlying38
  a37 := Tryz.isAgg38
  z37 := Tryz.sizeOf38
  v37 := Tryz.zeroValue38
  t70 := Tryz.underlying302
  a70 := Tryz.isAgg302
  z70 := Tryz.sizeOf302
  v70 := Tryz.zeroValue302
  t72 := Tryz.underlying304
  a72 := Tryz.isAgg304
  z72 := Tryz.sizeOf304
  v72 := Tryz.zeroValue304
  t75 := Tryz.underlying275
  a75 := Tryz.isAgg275
  z75 := Tryz.sizeOf275
  v75 := Tryz.zeroValue275
  t76 := Tryz.underlying276
  a76 := Tryz.isAgg276
  z76 := Tryz.sizeOf276
  v76 := Tryz.zeroValue276
  t127 := Tryz.underlying325
  a127 := Tryz.isAgg325
  z127 := Tryz.sizeOf325
  v127 := Tryz.zeroValue325
  t164 := Tryz.underlying340
  a164 := Tryz.isAgg340
  z164 := Tryz.sizeOf340
  v164 := Tryz.zeroValue340 }
theorem Tryz.Builder_Extra_156 : Builder.Extra Tryz.prog Tryz.lays156_ren := {
  sizeBuilder := by kernel_rfl
  liesBuilder := by kernel_rfl
  t5 := Tryz.underlying5
  a5 := Tryz.isAgg5
  z5 := Tryz.sizeOf5
  v5 := Tryz.zeroValue5
  infoByte := by kernel_rfl
  cellsByte := by kernel_rfl
  sizeByte := by kernel_rfl
  neB5 := by decide }
open Go.RowKit in
theorem Tryz.strings_Join (bk o c : Nat) (xs : List ByteArray) (sep : ByteArray) (w : World) (hcells : ∀ (j : Nat) x, xs[j]? = some x → w.cell? ⟨bk, o + j, none⟩ = some (.string x)) (hbk : bk < w.heap.size) (hN : xs.length ≤ 140737488355328) (hcap : xs.length ≤ c) (hlen : (Lib.join (xs.map (·.data.toList)) sep.data.toList).length ≤ 140737488355328) :
    Calls Tryz.prog 167 #[.slice (some ⟨bk, o, none⟩) xs.length c, .string sep] w fun e w' => e = .returned (.string ⟨(Lib.join (xs.map (·.data.toList)) sep.data.toList).toArray⟩) ∧ Below w.heap.size w w' := Any.strings_Join Tryz.lays156 Tryz.Builder_Extra_156 bk o c xs sep w hcells hbk hN hcap hlen
def Tryz.lays195_ren : Go.Shelf.Ren := ⟨fun | 195 => 105 | n => n, fun | 9 => 9 | 3 => 3 | 0 => 0 | 4 => 4 | n => n, fun | n => n⟩
theorem Tryz.lays195 : Go.Proofs.Lays.n195 Tryz.prog Tryz.lays195_ren := {
  mixed := by kernel_rfl
  f195 := Tryz.func105.trans (congrArg some (by kernel_rfl))
  t0 := Tryz.underlying0
  a0 := Tryz.isAgg0
  z0 := Tryz.sizeOf0
  v0 := Tryz.zeroValue0
  t3 := Tryz.underlying3
  a3 := Tryz.isAgg3
  z3 := Tryz.sizeOf3
  v3 := Tryz.zeroValue3
  t4 := Tryz.underlying4
  a4 := Tryz.isAgg4
  z4 := Tryz.sizeOf4
  v4 := Tryz.zeroValue4
  t9 := Tryz.underlying9
  a9 := Tryz.isAgg9
  z9 := Tryz.sizeOf9
  v9 := Tryz.zeroValue9 }
open Go.RowKit in
theorem Tryz.utf8_RuneCountInString (s : ByteArray) (w : World) (hs : s.size < 9223372036854775807) :
    Calls Tryz.prog 105 #[.string s] w fun e w' => e = .returned (.int .i64 (Lib.runeCount s)) ∧ ∃ pos, w' = w.iter s pos := Any.utf8_RuneCountInString Tryz.lays195 s w hs
def Tryz.laysM171_ren : Go.Shelf.Ren := ⟨fun | 171 => 137 | 243 => 168 | 246 => 192 | 283 => 209 | 284 => 210 | 285 => 211 | 286 => 212 | 129 => 224 | 317 => 223 | 318 => 225 | 319 => 226 | 320 => 227 | 337 => 236 | 338 => 237 | n => n, fun | 3 => 3 | 9 => 9 | 2 => 2 | 4 => 4 | 171 => 326 | 0 => 0 | 53 => 139 | 37 => 38 | 5 => 5 | 173 => 329 | 212 => 342 | 51 => 343 | 20 => 20 | 213 => 344 | 46 => 111 | 232 => 358 | 233 => 359 | n => n, fun | 17 => 2 | 18 => 6 | 19 => 7 | n => n⟩
theorem Tryz.laysM171 : Go.Proofs.LaysM.n171 Tryz.prog Tryz.laysM171_ren := {
  mixed := by kernel_rfl
  f129 := Tryz.func224.trans (congrArg some (by kernel_rfl))
  f171 := Tryz.func137.trans (congrArg some (by kernel_rfl))
  f243 := Tryz.func168.trans (congrArg some (by kernel_rfl))
  f246 := Tryz.func192.trans (congrArg some (by kernel_rfl))
  f283 := Tryz.func209.trans (congrArg some (by kernel_rfl))
  f284 := Tryz.func210.trans (congrArg some (by kernel_rfl))
  f285 := Tryz.func211.trans (congrArg some (by kernel_rfl))
  f286 := Tryz.func212.trans (congrArg some (by kernel_rfl))
  f317 := Tryz.func223.trans (congrArg some (by kernel_rfl))
  f318 := Tryz.func225.trans (congrArg some (by kernel_rfl))
  f319 := Tryz.func226.trans (congrArg some (by kernel_rfl))
  f320 := Tryz.func227.trans (congrArg some (by kernel_rfl))
  f337 := Tryz.func236.trans (congrArg some (by kernel_rfl))
  f338 := Tryz.func237.trans (congrArg some (by kernel_rfl))
  t0 := Tryz.underlying0
  a0 := Tryz.isAgg0
  z0 := Tryz.sizeOf0
  v0 := Tryz.zeroValue0
  t2 := Tryz.underlying2
  a2 := Tryz.isAgg2
  z2 := Tryz.sizeOf2
  v2 := Tryz.zeroValue2
  t3 := Tryz.underlying3
  a3 := Tryz.isAgg3
  z3 := Tryz.sizeOf3
  v3 := Tryz.zeroValue3
  t4 := Tryz.underlying4
  a4 := Tryz.isAgg4
  z4 := Tryz.sizeOf4
  v4 := Tryz.zeroValue4
  t5 := Tryz.underlying5
  a5 := Tryz.isAgg5
  z5 := Tryz.sizeOf5
  v5 := Tryz.zeroValue5
  t9 := Tryz.underlying9
  a9 := Tryz.isAgg9
  z9 := Tryz.sizeOf9
  v9 := Tryz.zeroValue9
  t20 := Tryz.underlying20
  a20 := Tryz.isAgg20
  z20 := Tryz.sizeOf20
  v20 := Tryz.zeroValue20
  t37 := Tryz.underlying38
  a37 := Tryz.isAgg38
  z37 := Tryz.sizeOf38
  v37 := Tryz.zeroValue38
  t46 := Tryz.underlying111
  a46 := Tryz.isAgg111
  z46 := Tryz.sizeOf111
  v46 := Tryz.zeroValue111
  t51 := Tryz.underlying343
  a51 := Tryz.isAgg343
  z51 := Tryz.sizeOf343
  v51 := Tryz.zeroValue343
  t53 := Tryz.underlying139
  a53 := Tryz.isAgg139
  z53 := Tryz.sizeOf139
  v53 := Tryz.zeroValue139
  t171 := Tryz.underlying326
  a171 := Tryz.isAgg326
  z171 := Tryz.sizeOf326
  v171 := Tryz.zeroValue326
  t173 := Tryz.underlying329
  a173 := Tryz.isAgg329
  z173 := Tryz.sizeOf329
  v173 := Tryz.zeroValue329
  t212 := Tryz.underlying342
  a212 := Tryz.isAgg342
  z212 := Tryz.sizeOf342
  v212 := Tryz.zeroValue342
  t213 := Tryz.underlying344
  a213 := Tryz.isAgg344
  z213 := Tryz.sizeOf344
  t232 := Tryz.underlying358
  a232 := Tryz.isAgg358
  z232 := Tryz.sizeOf358
  v232 := Tryz.zeroValue358
  t233 := Tryz.underlying359
  a233 := Tryz.isAgg359
  z233 := Tryz.sizeOf359
  v233 := Tryz.zeroValue359
  g17 := by kernel_rfl
  g18 := by kernel_rfl
  g19 := by kernel_rfl
  i0 := by kernel_rfl
  i2 := by kernel_rfl
  i3 := by kernel_rfl
  i4 := by kernel_rfl
  i5 := by kernel_rfl
  i9 := by kernel_rfl
  i20 := by kernel_rfl
  i37 := by kernel_rfl
  i46 := by kernel_rfl
  i51 := by kernel_rfl
  i53 := by kernel_rfl
  i171 := by kernel_rfl
  i173 := by kernel_rfl
  i212 := by kernel_rfl
  i232 := by kernel_rfl
  i233 := by kernel_rfl
  m17 := by kernel_rfl
  m18 := by kernel_rfl
  m19 := by kernel_rfl }
open Go.RowKit Go.Sort Go.Lib in
theorem Tryz.strconv_Itoa (n : Int) (h0 : -9223372036854775808 ≤ n) (h1 : n ≤ 9223372036854775807) (w : World) (htab : Lib.TabIs Tryz.prog w "internal/strconv.uint64pow10" .u64 Lib.pow10Tab) :
    Calls Tryz.prog 137 #[.int .i64 n] w fun e w' => e = .returned (.string ⟨(Lib.itoa n).toArray⟩) ∧ ∃ k os, w' = grow (w.drewN k) os := Any.strconv_Itoa Tryz.laysM171 n h0 h1 w htab
def Tryz.lays171_ren : Go.Shelf.Ren := ⟨fun | 171 => 137 | 243 => 168 | 246 => 192 | 283 => 209 | 284 => 210 | 285 => 211 | 286 => 212 | 129 => 224 | 317 => 223 | 318 => 225 | 319 => 226 | 320 => 227 | 337 => 236 | 338 => 237 | n => n, fun | 3 => 3 | 9 => 9 | 2 => 2 | 4 => 4 | 171 => 326 | 0 => 0 | 53 => 139 | 37 => 38 | 5 => 5 | 173 => 329 | 212 => 342 | 51 => 343 | 20 => 20 | 213 => 344 | 46 => 111 | 232 => 358 | 233 => 359 | n => n, fun | 17 => 2 | 18 => 6 | 19 => 7 | n => n⟩
theorem Tryz.lays171 : Go.Proofs.Lays.n171 Tryz.prog Tryz.lays171_ren := {
  mixed := by kernel_rfl
  f129 := Tryz.func224.trans (congrArg some (by kernel_rfl))
  f171 := Tryz.func137.trans (congrArg some (by kernel_rfl))
  f243 := Tryz.func168.trans (congrArg some (by kernel_rfl))
  f246 := Tryz.func192.trans (congrArg some (by kernel_rfl))
  f283 := Tryz.func209.trans (congrArg some (by kernel_rfl))
  f284 := Tryz.func210.trans (congrArg some (by kernel_rfl))
  f285 := Tryz.func211.trans (congrArg some (by kernel_rfl))
  f286 := Tryz.func212.trans (congrArg some (by kernel_rfl))
  f317 := Tryz.func223.trans (congrArg some (by kernel_rfl))
  f318 := Tryz.func225.trans (congrArg some (by kernel_rfl))
  f319 := Tryz.func226.trans (congrArg some (by kernel_rfl))
  f320 := Tryz.func227.trans (congrArg some (by kernel_rfl))
  f337 := Tryz.func236.trans (congrArg some (by kernel_rfl))
  f338 := Tryz.func237.trans (congrArg some (by kernel_rfl))
  t0 := Tryz.underlying0
  a0 := Tryz.isAgg0
  z0 := Tryz.sizeOf0
  v0 := Tryz.zeroValue0
  t2 := Tryz.underlying2
  a2 := Tryz.isAgg2
  z2 := Tryz.sizeOf2
  v2 := Tryz.zeroValue2
  t3 := Tryz.underlying3
  a3 := Tryz.isAgg3
  z3 := Tryz.sizeOf3
  v3 := Tryz.zeroValue3
  t4 := Tryz.underlying4
  a4 := Tryz.isAgg4
  z4 := Tryz.sizeOf4
  v4 := Tryz.zeroValue4
  t5 := Tryz.underlying5
  a5 := Tryz.isAgg5
  z5 := Tryz.sizeOf5
  v5 := Tryz.zeroValue5
  t9 := Tryz.underlying9
  a9 := Tryz.isAgg9
  z9 := Tryz.sizeOf9
  v9 := Tryz.zeroValue9
  t20 := Tryz.underlying20
  a20 := Tryz.isAgg20
  z20 := Tryz.sizeOf20
  v20 := Tryz.zeroValue20
  t37 := Tryz.underlying38
  a37 := Tryz.isAgg38
  z37 := Tryz.sizeOf38
  v37 := Tryz.zeroValue38
  t46 := Tryz.underlying111
  a46 := Tryz.isAgg111
  z46 := Tryz.sizeOf111
  v46 := Tryz.zeroValue111
  t51 := Tryz.underlying343
  a51 := Tryz.isAgg343
  z51 := Tryz.sizeOf343
  v51 := Tryz.zeroValue343
  t53 := Tryz.underlying139
  a53 := Tryz.isAgg139
  z53 := Tryz.sizeOf139
  v53 := Tryz.zeroValue139
  t171 := Tryz.underlying326
  a171 := Tryz.isAgg326
  z171 := Tryz.sizeOf326
  v171 := Tryz.zeroValue326
  t173 := Tryz.underlying329
  a173 := Tryz.isAgg329
  z173 := Tryz.sizeOf329
  v173 := Tryz.zeroValue329
  t212 := Tryz.underlying342
  a212 := Tryz.isAgg342
  z212 := Tryz.sizeOf342
  v212 := Tryz.zeroValue342
  t213 := Tryz.underlying344
  a213 := Tryz.isAgg344
  z213 := Tryz.sizeOf344
  t232 := Tryz.underlying358
  a232 := Tryz.isAgg358
  z232 := Tryz.sizeOf358
  v232 := Tryz.zeroValue358
  t233 := Tryz.underlying359
  a233 := Tryz.isAgg359
  z233 := Tryz.sizeOf359
  v233 := Tryz.zeroValue359
  g17 := by kernel_rfl
  g18 := by kernel_rfl
  g19 := by kernel_rfl }
open Go.RowKit Go.Sort Go.Lib in
theorem Tryz.strconv_Itoa_small (i : Nat) (hi : i < 100) (w : World) :
    Calls Tryz.prog 137 #[.int .i64 i] w fun e w' => e = .returned (.string ⟨(Lib.decDigits i).toArray⟩) ∧ w' = w := Any.strconv_Itoa_small Tryz.lays171 i hi w
def Tryz.lays144_ren : Go.Shelf.Ren := ⟨fun | 144 => 169 | 143 => 193 | 219 => 213 | 217 => 228 | 225 => 229 | 224 => 230 | 267 => 231 | 266 => 238 | 314 => 239 | n => n, fun | 9 => 9 | 4 => 4 | 3 => 3 | 5 => 5 | 46 => 111 | 146 => 356 | 51 => 343 | n => n, fun | 1 => 3 | n => n⟩
theorem Tryz.lays144 : Go.Proofs.Lays.n144 Tryz.prog Tryz.lays144_ren := {
  mixed := by kernel_rfl
  f143 := Tryz.func193.trans (congrArg some (by kernel_rfl))
  f144 := Tryz.func169.trans (congrArg some (by kernel_rfl))
  f217 := Tryz.func228.trans (congrArg some (by kernel_rfl))
  f219 := Tryz.func213.trans (congrArg some (by kernel_rfl))
  f224 := Tryz.func230.trans (congrArg some (by kernel_rfl))
  f225 := Tryz.func229.trans (congrArg some (by kernel_rfl))
  f266 := Tryz.func238.trans (congrArg some (by kernel_rfl))
  f267 := Tryz.func231.trans (congrArg some (by kernel_rfl))
  f314 := Tryz.func239.trans (congrArg some (by kernel_rfl))
  t3 := Tryz.underlying3
  a3 := Tryz.isAgg3
  z3 := Tryz.sizeOf3
  v3 := Tryz.zeroValue3
  t4 := Tryz.underlying4
  a4 := Tryz.isAgg4
  z4 := Tryz.sizeOf4
  v4 := Tryz.zeroValue4
  t5 := Tryz.underlying5
  a5 := Tryz.isAgg5
  z5 := Tryz.sizeOf5
  v5 := Tryz.zeroValue5
  t9 := Tryz.underlying9
  a9 := Tryz.isAgg9
  z9 := Tryz.sizeOf9
  v9 := Tryz.zeroValue9
  t46 := Tryz.underlying111
  a46 := Tryz.isAgg111
  z46 := Tryz.sizeOf111
  v46 := Tryz.zeroValue111
  t51 := Tryz.underlying343
  a51 := Tryz.isAgg343
  z51 := Tryz.sizeOf343
  v51 := Tryz.zeroValue343
  t146 := Tryz.underlying356
  a146 := Tryz.isAgg356
  z146 := Tryz.sizeOf356
  v146 := Tryz.zeroValue356
  g1 := by kernel_rfl }
open Go.RowKit Go.Lib in
theorem Tryz.strings_Contains_one (s : ByteArray) (c : UInt8) (w : World) :
    Calls Tryz.prog 169 #[.string s, .string ⟨#[c]⟩] w fun e w' => e = .returned (.bool (decide (0 ≤ Lib.indexByte s.data.toList c))) ∧ w' = w := Any.strings_Contains_one Tryz.lays144 s c w
def Tryz.lays115_ren : Go.Shelf.Ren := ⟨fun | 115 => 90 | n => n, fun | 37 => 38 | 4 => 4 | 9 => 9 | 5 => 5 | n => n, fun | n => n⟩
theorem Tryz.lays115 : Go.Proofs.Lays.n115 Tryz.prog Tryz.lays115_ren := {
  mixed := by kernel_rfl
  f115 := Tryz.func90.trans (congrArg some (by kernel_rfl))
  t4 := Tryz.underlying4
  a4 := Tryz.isAgg4
  z4 := Tryz.sizeOf4
  v4 := Tryz.zeroValue4
  t9 := Tryz.underlying9
  a9 := Tryz.isAgg9
  z9 := Tryz.sizeOf9
  v9 := Tryz.zeroValue9
  t37 := Tryz.underlying38
  a37 := Tryz.isAgg38
  z37 := Tryz.sizeOf38
  v37 := Tryz.zeroValue38 }
theorem Tryz.bytes_Equal (v1 v2 : Value) (xs ys : List Int) (w : World) (h1 : (convert 38 9 v1).run Tryz.prog w = .ok (.string (strOfNums xs)) w) (h2 : (convert 38 9 v2).run Tryz.prog w = .ok (.string (strOfNums ys)) w) :
    Calls Tryz.prog 90 #[v1, v2] w fun e w' => e = .returned (.bool (Lib.bytesOf xs == Lib.bytesOf ys)) ∧ w' = w := Any.bytes_Equal Tryz.lays115 v1 v2 xs ys w h1 h2
end Go.Proofs.YtlhbfdakceipkaaGreatDoor

/-! ### EventSpec -/
set_option linter.unusedVariables false
set_option maxRecDepth 100000
namespace Go.Proofs.YtlhbfdakceipkaaGreatDoor
open Vc

/-! ### In plain Lean -/
abbrev EvT := Int × ByteArray × ByteArray × ByteArray × ByteArray × Int × Int × Value × Unit
def evA (e : EvT) : Value := .agg #[.int .i64 e.1, .string e.2.1, .string e.2.2.1, .string e.2.2.2.1, .string e.2.2.2.2.1, .int .i64 e.2.2.2.2.2.1, .int .i64 e.2.2.2.2.2.2.1, e.2.2.2.2.2.2.2.1]

def fieldsF (k : Int) : List UInt8 :=
  if k = 1 then [] else if k = 2 then [73, 84] else if k = 3 then [78, 68, 86] else if k = 4 then [73, 76, 86] else if k = 5 then [68] else if k = 6 then [68, 67, 86] else [63]
def hasF (k : Int) (c : UInt8) : Bool := (fieldsF k).contains c
def nameB (s : ByteArray) : Bool := nameF 0 (runesL s.data.toList)
def validF (n : Int) : Bool := decide (-1000000000000 ≤ n) && decide (n ≤ 1000000000000)
def nilT : Value → Bool
  | .nilIface => true
  | _ => false
/-- A value of an interface. -/
def ifcT (v : Value) : Prop := v = .nilIface ∨ ∃ t u, v = .iface t u
def emptyB (s : ByteArray) : Bool := s.toList == (⟨#[]⟩ : ByteArray).toList
def onlyF (e : EvT) : Bool :=
  (emptyB e.2.1 || hasF e.1 73) && (emptyB e.2.2.1 || hasF e.1 78) && (emptyB e.2.2.2.1 || hasF e.1 76) && (emptyB e.2.2.2.2.1 || hasF e.1 67) &&
  ((e.2.2.2.2.2.1 == 0 || hasF e.1 68) && (e.2.2.2.2.2.2.1 == 0 || hasF e.1 86) && (nilT e.2.2.2.2.2.2.2.1 || hasF e.1 84))
def namedF (e : EvT) : Bool :=
  (!hasF e.1 73 || nameB e.2.1) && (!hasF e.1 78 || nameB e.2.2.1) && (!hasF e.1 76 || nameB e.2.2.2.1) && (!hasF e.1 67 || nameB e.2.2.2.2.1)
/-- Whether an event may be; tr: what is said of its contract. -/
def checkF (e : EvT) (tr : Int) : Int :=
  if fieldsF e.1 = [63] then 1 else if onlyF e = false then 1 else if namedF e = false then 1 else
  if e.2.2.2.2.2.1 < 0 then 1 else if e.2.2.2.2.2.1 > 10000 then 1 else if validF e.2.2.2.2.2.2.1 = false then 1 else
  if e.1 = 4 ∧ e.2.2.2.2.2.2.1 ≠ 0 ∧ e.2.2.2.2.2.2.1 ≠ 1 then 1 else if e.1 = 2 then tr else 0

/-! ### What the functions do -/
theorem efields_spec (k : Int) (w : World) : Ret Tryz.prog 93 #[.int .i64 k] w fun r w' => r = .string (str (fieldsF k)) ∧ w = w' := by
  refine c93 k w _ ?_
  unfold fieldsF
  refine ifB.eq (fun h => ?_) (fun h => ?_)
  · rw [if_pos h]; exact ⟨rfl, rfl⟩
  rw [if_neg h]
  refine ifB.eq (fun h => ?_) (fun h => ?_)
  · rw [if_pos h]; exact ⟨rfl, rfl⟩
  rw [if_neg h]
  refine ifB.eq (fun h => ?_) (fun h => ?_)
  · rw [if_pos h]; exact ⟨rfl, rfl⟩
  rw [if_neg h]
  refine ifB.eq (fun h => ?_) (fun h => ?_)
  · rw [if_pos h]; exact ⟨rfl, rfl⟩
  rw [if_neg h]
  refine ifB.eq (fun h => ?_) (fun h => ?_)
  · rw [if_pos h]; exact ⟨rfl, rfl⟩
  rw [if_neg h]
  refine ifB.eq (fun h => ?_) (fun h => ?_)
  · rw [if_pos h]; exact ⟨rfl, rfl⟩
  rw [if_neg h]; exact ⟨rfl, rfl⟩

theorem valid_spec (n : Int) (w : World) : Ret Tryz.prog 96 #[.int .i64 n] w fun r w' => r = .bool (validF n) ∧ w = w' := by
  refine c96 n w _ ?_
  unfold validF
  refine ifB.dec (fun h => ?_) (fun h => ?_)
  · rw [decide_eq_true (p := -1000000000000 ≤ n) (by omega)]; exact ⟨rfl, rfl⟩
  · rw [decide_eq_false (p := -1000000000000 ≤ n) (by omega)]; exact ⟨rfl, rfl⟩

theorem idx_contains : ∀ (l : List UInt8) (c : UInt8), decide (0 ≤ Lib.indexByte l c) = l.contains c
  | [], c => by simp [Lib.indexByte]
  | b :: l, c => by
    have ih := idx_contains l c
    have hg := Lib.indexByte_ge l c
    unfold Lib.indexByte
    rw [List.contains_cons, ← ih]
    by_cases h : b = c
    · subst h; simp
    · have h1 : (b == c) = false := by simpa using h
      have h2 : (c == b) = false := by simpa using fun t => h t.symm
      rw [h1, h2, Bool.false_or]
      simp only [Bool.false_eq_true, if_false]
      by_cases hm : Lib.indexByte l c = -1
      · rw [hm]; simp
      · rw [if_neg (by simpa using hm)]
        exact decide_eq_decide.2 (by omega)

theorem contains_one (l : List UInt8) (c : UInt8) (w : World) : Ret Tryz.prog 169 #[.string (str l), .string (str [c])] w fun r w' => r = .bool (l.contains c) ∧ w = w' := by
  refine (Tryz.strings_Contains_one (str l) c w).mono ?_
  rintro e w' ⟨rfl, rfl⟩
  refine ⟨_, rfl, ?_, rfl⟩
  rw [str_list, idx_contains]

theorem has_spec (k : Int) (c : UInt8) (w : World) : Ret Tryz.prog 144 #[.int .i64 k, .string (str [c])] w fun r w' => r = .bool (hasF k c) ∧ w = w' := by
  refine c144 k _ w _ ?_
  refine CallK.of (efields_spec k w) ?_
  rintro _ _ ⟨rfl, rfl⟩
  refine ⟨_, rfl, ?_⟩
  refine CallK.of (contains_one _ c w) ?_
  rintro _ _ ⟨rfl, rfl⟩
  exact ⟨_, rfl, rfl, rfl⟩

/-- Is a value of an interface nil? -/
theorem nil_eq {t : TypeId} (ht : ∃ ms, Tryz.prog.underlying t = some (.interface ms)) (o : Operand) {v : Value} (hv : ifcT v) (w : World) :
    (do eqGuard .eql t o (.const .nilIface) v .nilIface; binOp .eql t v .nilIface : Sem Value).run Tryz.prog w = .ok (.bool (nilT v)) w := by
  obtain ⟨ms, ht⟩ := ht
  rcases hv with rfl | ⟨u, x, rfl⟩
  · have h1 : (eqGuard .eql t o (.const .nilIface) .nilIface .nilIface).run Tryz.prog w = .ok () w := by
      unfold eqGuard
      simp
    rw [Sem.run_bind, h1, Result.andThen_ok]
    have h2 : (Op.equalIn (9999 + 1) t .nilIface .nilIface).run Tryz.prog w = .ok true w := by
      unfold Op.equalIn
      simp only [Sem.run_bind, under ht, Result.andThen_ok, Sem.run_pure]
    show (do pure (Value.bool (← Op.equalIn (9999 + 1) t .nilIface .nilIface)) : Sem Value).run Tryz.prog w = _
    rw [Sem.run_bind, h2]
    rfl
  · have h1 : (eqGuard .eql t o (.const .nilIface) (.iface u x) .nilIface).run Tryz.prog w = .ok () w := by
      unfold eqGuard
      rfl
    rw [Sem.run_bind, h1, Result.andThen_ok]
    have h2 : (Op.equalIn (9999 + 1) t (.iface u x) .nilIface).run Tryz.prog w = .ok false w := by
      unfold Op.equalIn
      simp only [Sem.run_bind, under ht, Result.andThen_ok, Sem.run_pure]
    show (do pure (Value.bool (← Op.equalIn (9999 + 1) t (.iface u x) .nilIface)) : Sem Value).run Tryz.prog w = _
    rw [Sem.run_bind, h2]
    rfl

/-- The four texts of an event, as the literal lays them. -/
def textsOf (e : EvT) : Array MapEntry := #[⟨.string (str [73]), .string e.2.1, 0⟩, ⟨.string (str [78]), .string e.2.2.1, 1⟩, ⟨.string (str [76]), .string e.2.2.2.1, 2⟩, ⟨.string (str [67]), .string e.2.2.2.2.1, 3⟩]
def evCells (e : EvT) : Obj := .cells #[.int .i64 e.1, .string e.2.1, .string e.2.2.1, .string e.2.2.2.1, .string e.2.2.2.2.1, .int .i64 e.2.2.2.2.2.1, .int .i64 e.2.2.2.2.2.2.1, e.2.2.2.2.2.2.2.1] 30 (0, 0)

theorem str_ne {a b : List UInt8} (h : a ≠ b) : str a ≠ str b := fun t => h (str_inj t)

/-- The literal map of an event's texts is laid, and a range over it begins. -/
theorem texts_ok {w : World} {b : Nat} {e : EvT} (hb : w.heap[b]? = some (evCells e)) {K : Option Addr → World → Prop}
    (h : ∀ m r w1, w.heap.size ≤ m → w.heap.size ≤ r → r ≠ m → MIt w1 r m (textsOf e) 4 #[] → Fr none1 w w1 → w1.heap[b]? = some (evCells e) → K (some ⟨r, 0, none⟩) w1) :
    NewK (.map #[] 0) w (fun g3 w4 => LdK .str ((⟨b, 0, none⟩ : Addr).add 1) w4 (fun (x5 : ByteArray) => RunU Tryz.prog (Instr.mapUpdate 262 (.map (some g3)) (.string (⟨#[73]⟩ : ByteArray)) (.string x5)) w4 (fun w6 => LdK .str ((⟨b, 0, none⟩ : Addr).add 2) w6 (fun (x7 : ByteArray) => RunU Tryz.prog (Instr.mapUpdate 262 (.map (some g3)) (.string (⟨#[78]⟩ : ByteArray)) (.string x7)) w6 (fun w8 => LdK .str ((⟨b, 0, none⟩ : Addr).add 3) w8 (fun (x9 : ByteArray) => RunU Tryz.prog (Instr.mapUpdate 262 (.map (some g3)) (.string (⟨#[76]⟩ : ByteArray)) (.string x9)) w8 (fun w10 => LdK .str ((⟨b, 0, none⟩ : Addr).add 4) w10 (fun (x11 : ByteArray) => RunU Tryz.prog (Instr.mapUpdate 262 (.map (some g3)) (.string (⟨#[67]⟩ : ByteArray)) (.string x11)) w10 (fun w12 => RunK Tryz.prog (Instr.range 262 (.map (some g3))) w12 (.v (.one .ptr)) (fun (x13 : Option Addr) w14 => K x13 w14)))))))))) := by
  have e73 : (⟨#[73]⟩ : ByteArray) = str [73] := rfl
  have e78 : (⟨#[78]⟩ : ByteArray) = str [78] := rfl
  have e76 : (⟨#[76]⟩ : ByteArray) = str [76] := rfl
  have e67 : (⟨#[67]⟩ : ByteArray) = str [67] := rfl
  rw [e73, e78, e76, e67]
  have tm := Tryz.underlying262
  have ts := Tryz.underlying9
  have hlb := lt_of_blk hb
  refine NewK.of fun g w1 hg hm1 f1 hs1 => ?_
  have b1 := f1.keep0 hb
  have hgb : b ≠ g := by omega
  refine LdK.fld b1 rfl ?_
  refine insert_str hm1 _ _ tm ts (by simp) fun w2 hm2 f2 _ => ?_
  have b2 := f2.keep1 b1 hgb
  refine LdK.fld b2 rfl ?_
  refine insert_str hm2 _ _ tm ts (by
    intro x hx; simp at hx; subst hx; exact ⟨_, rfl, str_ne (by decide)⟩) fun w3 hm3 f3 _ => ?_
  have b3 := f3.keep1 b2 hgb
  refine LdK.fld b3 rfl ?_
  refine insert_str hm3 _ _ tm ts (by
    intro x hx; simp at hx; rcases hx with rfl | rfl <;> exact ⟨_, rfl, str_ne (by decide)⟩) fun w4 hm4 f4 _ => ?_
  have b4 := f4.keep1 b3 hgb
  refine LdK.fld b4 rfl ?_
  refine insert_str hm4 _ _ tm ts (by
    intro x hx; simp at hx; rcases hx with rfl | rfl | rfl <;> exact ⟨_, rfl, str_ne (by decide)⟩) fun w5 hm5 f5 _ => ?_
  have b5 := f5.keep1 b4 hgb
  have f15 : Fr none1 w w5 := (((f1.fresh f2 (by omega)).fresh f3 (by omega)).fresh f4 (by omega)).fresh f5 (by omega)
  have hm5' : w5.heap[g]? = some (.map (textsOf e) 4) := hm5
  refine mrange_ok tm hm5' (by
    intro x hx; simp [textsOf] at hx; rcases hx with rfl | rfl | rfl | rfl <;> simp) (by simp [textsOf]) fun r w6 hr hM f6 => ?_
  have := lt_of_blk hm5'
  have := f15.size
  exact h g r w6 (by omega) (by omega) (by omega) hM (f15.then0 f6) (f6.keep0 b5)

/-- All of a range over the four texts. -/
theorem texts_all {e : EvT} {seen : Array Nat} {good : ByteArray → ByteArray → Bool} (hall : ∀ x ∈ (textsOf e).toList, seen.contains x.born = true → ∀ a b, x.key = .string a → x.val = .string b → good a b = true)
    (hs : ∀ x ∈ (textsOf e).toList, seen.contains x.born = true) : (good (str [73]) e.2.1 && good (str [78]) e.2.2.1 && good (str [76]) e.2.2.2.1 && good (str [67]) e.2.2.2.2.1) = true := by
  have g := fun x hx => hall x hx (hs x hx)
  rw [g ⟨.string (str [73]), .string e.2.1, 0⟩ (by simp [textsOf]) _ _ rfl rfl, g ⟨.string (str [78]), .string e.2.2.1, 1⟩ (by simp [textsOf]) _ _ rfl rfl,
    g ⟨.string (str [76]), .string e.2.2.2.1, 2⟩ (by simp [textsOf]) _ _ rfl rfl, g ⟨.string (str [67]), .string e.2.2.2.2.1, 3⟩ (by simp [textsOf]) _ _ rfl rfl]
  rfl
/-- One that is not good. -/
theorem texts_bad {e : EvT} {good : ByteArray → ByteArray → Bool} {x : MapEntry} {a b : ByteArray} (hx : x ∈ (textsOf e).toList) (ha : x.key = .string a) (hb : x.val = .string b) (hg : good a b = false) :
    (good (str [73]) e.2.1 && good (str [78]) e.2.2.1 && good (str [76]) e.2.2.2.1 && good (str [67]) e.2.2.2.2.1) = false := by
  simp [textsOf] at hx
  rcases hx with rfl | rfl | rfl | rfl <;> (injection ha with ha; injection hb with hb; subst ha; subst hb; rw [hg]; simp)
/-- An entry's key is one letter. -/
theorem texts_key {e : EvT} {x : MapEntry} (hx : x ∈ (textsOf e).toList) : ∃ c b, x.key = .string (str [c]) ∧ x.val = .string b := by
  simp [textsOf] at hx
  rcases hx with rfl | rfl | rfl | rfl <;> exact ⟨_, _, rfl, rfl⟩

/-- The letter of a key. -/
def letOf (a : ByteArray) : UInt8 := a.data.toList.getD 0 0
theorem letOf_str (c : UInt8) : letOf (str [c]) = c := by unfold letOf; rw [str_list]; rfl

/-- The tests of an entry, as the loop makes them, of the entries seen. -/
def Seen (e : EvT) (good : ByteArray → ByteArray → Bool) (seen : Array Nat) : Prop := ∀ x ∈ (textsOf e).toList, seen.contains x.born = true → ∀ a b, x.key = .string a → x.val = .string b → good a b = true
theorem textsOf_nodup (e : EvT) : ∀ x ∈ (textsOf e).toList, ∀ y ∈ (textsOf e).toList, x.born = y.born → x = y := by
  intro x hx y hy h
  simp [textsOf] at hx hy
  rcases hx with rfl | rfl | rfl | rfl <;> rcases hy with rfl | rfl | rfl | rfl <;> first | rfl | (simp at h)
theorem Seen.push {e : EvT} {good : ByteArray → ByteArray → Bool} {seen : Array Nat} (h : Seen e good seen) {x : MapEntry} (hx : x ∈ (textsOf e).toList) {a b : ByteArray} (ha : x.key = .string a) (hb : x.val = .string b) (hg : good a b = true) : Seen e good (seen.push x.born) := by
  intro y hy hc a' b' ha' hb'
  rw [contains_push] at hc
  cases hs : seen.contains y.born with
  | true => exact h y hy hs a' b' ha' hb'
  | false =>
    rw [hs, Bool.false_or] at hc
    have := textsOf_nodup e y hy x hx (by simpa using hc)
    subst this
    rw [ha] at ha'; rw [hb] at hb'
    injection ha' with ha'; injection hb' with hb'
    subst ha'; subst hb'
    exact hg
theorem Seen.none (e : EvT) (good : ByteArray → ByteArray → Bool) : Seen e good #[] := fun x hx h => by simp at h

theorem named_spec (e : EvT) (w : World) : Ret Tryz.prog 95 #[evA e] w fun r w' => r = .bool (namedF e) ∧ Fr none1 w w' := by
  refine c95 e w _ ?_
  unfold C95
  refine NewK.of fun b w1 hb hb1 f1 _ => ?_
  refine texts_ok (e := e) hb1 fun m r w2 hm hr hrm hM f2 hb2 => ?_
  obtain ⟨good, hgood⟩ : ∃ good : ByteArray → ByteArray → Bool, good = fun a s => !hasF e.1 (letOf a) || nameB s := ⟨_, rfl⟩
  have hN : namedF e = (good (str [73]) e.2.1 && good (str [78]) e.2.2.1 && good (str [76]) e.2.2.2.1 && good (str [67]) e.2.2.2.2.1) := by
    rw [hgood]; unfold namedF; simp only [letOf_str]
  refine LoopK.of (fun _ w' => ∃ seen, MIt w' r m (textsOf e) 4 seen ∧ Seen e good seen ∧ Fr (only r) w2 w' ∧ w'.heap[b]? = some (evCells e)) (fun _ w' => leftN w' r m) ⟨#[], hM, Seen.none e good, Fr.refl _ _, hb2⟩ ?_
  rintro _ _ w3 ⟨seen, hM3, hS, f3, hb3⟩
  have fin : ∀ w', Fr (only r) w2 w' → Fr none1 w w' := fun w' f => (f1.then0 f2).fresh f (by have := f1.size; omega)
  refine mnext_ok hM3 hrm (fun x hx hc w4 hM4 f4 hlt hen => ?_) (fun hall => ?_)
  · refine hen ?_
    obtain ⟨c, s, hk, hv⟩ := texts_key hx
    dsimp only
    rw [hk, hv]
    have hb4 := f4.keep1 hb3 (by have := lt_of_blk hb1; have := f2.size; omega)
    refine LdK.fld hb4 rfl ?_
    refine CallK.of (has_spec e.1 c w4) ?_
    rintro _ _ ⟨rfl, rfl⟩
    refine ⟨_, rfl, ?_⟩
    refine ifB.by (fun h => ?_) (fun h => ?_)
    · refine CallK.of (by have := name_spec s.data.toList w4; rw [str_of] at this; exact this) ?_
      rintro _ w5 ⟨rfl, f5⟩
      refine ⟨_, rfl, ifB.not (ifB.by (fun hn => ?_) (fun hn => ?_))⟩
      · refine ⟨⟨_, hM4.keep0 f5, hS.push hx hk hv ?_, (f3.trans f4).then0 f5, f5.keep0 hb4⟩, ?_⟩
        · rw [hgood]; dsimp only; unfold nameB; rw [hn]; simp
        · rw [(hM4.keep0 f5).left, ← hM4.left]; exact hlt
      · refine ⟨?_, (fin _ (f3.trans f4)).trans f5⟩
        rw [hN, texts_bad hx hk hv]
        rw [hgood]; dsimp only; rw [letOf_str, h]; unfold nameB; rw [hn]; rfl
    · refine ⟨⟨_, hM4, hS.push hx hk hv ?_, f3.trans f4, hb4⟩, hlt⟩
      rw [hgood]; dsimp only; rw [letOf_str, h]; rfl
  · refine ⟨?_, fin _ f3⟩
    rw [hN, texts_all hS hall]

theorem only_spec (e : EvT) (hT : ifcT e.2.2.2.2.2.2.2.1) (w : World) : Ret Tryz.prog 94 #[evA e] w fun r w' => r = .bool (onlyF e) ∧ Fr none1 w w' := by
  refine c94 e w _ ?_
  unfold C94
  refine NewK.of fun b w1 hb hb1 f1 _ => ?_
  refine texts_ok (e := e) hb1 fun m r w2 hm hr hrm hM f2 hb2 => ?_
  obtain ⟨good, hgood⟩ : ∃ good : ByteArray → ByteArray → Bool, good = fun a s => emptyB s || hasF e.1 (letOf a) := ⟨_, rfl⟩
  have hN : onlyF e = ((good (str [73]) e.2.1 && good (str [78]) e.2.2.1 && good (str [76]) e.2.2.2.1 && good (str [67]) e.2.2.2.2.1) &&
      ((e.2.2.2.2.2.1 == 0 || hasF e.1 68) && (e.2.2.2.2.2.2.1 == 0 || hasF e.1 86) && (nilT e.2.2.2.2.2.2.2.1 || hasF e.1 84))) := by
    rw [hgood]; unfold onlyF; simp only [letOf_str]
  refine LoopK.of (fun _ w' => ∃ seen, MIt w' r m (textsOf e) 4 seen ∧ Seen e good seen ∧ Fr (only r) w2 w' ∧ w'.heap[b]? = some (evCells e)) (fun _ w' => leftN w' r m) ⟨#[], hM, Seen.none e good, Fr.refl _ _, hb2⟩ ?_
  rintro _ _ w3 ⟨seen, hM3, hS, f3, hb3⟩
  have fin : ∀ w', Fr (only r) w2 w' → Fr none1 w w' := fun w' f => (f1.then0 f2).fresh f (by have := f1.size; omega)
  refine mnext_ok hM3 hrm (fun x hx hc w4 hM4 f4 hlt hen => ?_) (fun hall => ?_)
  · refine hen ?_
    obtain ⟨c, s, hk, hv⟩ := texts_key hx
    dsimp only
    rw [hk, hv]
    have hb4 := f4.keep1 hb3 (by have := lt_of_blk hb1; have := f2.size; omega)
    refine ifB.by (fun hs => ?_) (fun hs => ?_)
    · have hem : emptyB s = false := by unfold emptyB; simpa using hs
      refine LdK.fld hb4 rfl ?_
      refine CallK.of (has_spec e.1 c w4) ?_
      rintro _ _ ⟨rfl, rfl⟩
      refine ⟨_, rfl, ifB.not (ifB.by (fun h => ?_) (fun h => ?_))⟩
      · refine ⟨⟨_, hM4, hS.push hx hk hv ?_, f3.trans f4, hb4⟩, hlt⟩
        rw [hgood]; dsimp only; rw [letOf_str, h]; simp
      · refine ⟨?_, fin _ (f3.trans f4)⟩
        rw [hN, texts_bad hx hk hv (by rw [hgood]; dsimp only; rw [letOf_str, h, hem]; rfl)]
        rfl
    · have hem : emptyB s = true := by unfold emptyB; simpa using hs
      refine ⟨⟨_, hM4, hS.push hx hk hv ?_, f3.trans f4, hb4⟩, hlt⟩
      rw [hgood]; dsimp only; rw [hem]; rfl
  · have hg := texts_all hS hall
    rw [hN, hg, Bool.true_and]
    have fr := fin _ f3
    have hterm : ∀ (d v : Bool), d = true → v = true → LdK .raw ((⟨b, 0, none⟩ : Addr).add 7) w3 (fun (x31 : Value) => RunK Tryz.prog (do eqGuard .eql 28 (.tmp 28) (.const .nilIface) x31 .nilIface; binOp .eql 28 x31 .nilIface) w3 (.v (.one .bool)) (fun (x32 : Bool) w33 => ifB x32
        ((.bool true : Value) = .bool (d && v && (nilT e.2.2.2.2.2.2.2.1 || hasF e.1 84)) ∧ Fr none1 w w33)
        (LdK (.int .i64) ((⟨b, 0, none⟩ : Addr).add 0) w33 (fun (x34 : Int) => CallK Tryz.prog 144 #[.int .i64 x34, .string (⟨#[84]⟩ : ByteArray)] w33 (.v (.one .bool)) (fun (x35 : Bool) w36 => (.bool x35 : Value) = .bool (d && v && (nilT e.2.2.2.2.2.2.2.1 || hasF e.1 84)) ∧ Fr none1 w w36))))) := by
      rintro d v rfl rfl
      refine LdK.fld hb3 (x := e.2.2.2.2.2.2.2.1) rfl ?_
      refine ⟨nilT e.2.2.2.2.2.2.2.1, w3, nil_eq ⟨_, Tryz.underlying28⟩ _ hT w3, ?_⟩
      refine ifB.by (fun h => ?_) (fun h => ?_)
      · rw [h]; exact ⟨rfl, fr⟩
      · refine LdK.fld hb3 rfl ?_
        refine CallK.of (has_spec e.1 84 w3) ?_
        rintro _ _ ⟨rfl, rfl⟩
        rw [h]
        exact ⟨_, rfl, by simp, fr⟩
    have hval : ∀ d : Bool, d = true → LdK (.int .i64) ((⟨b, 0, none⟩ : Addr).add 6) w3 (fun (x30 : Int) => ifB (x30 == 0)
        (LdK .raw ((⟨b, 0, none⟩ : Addr).add 7) w3 (fun (x31 : Value) => RunK Tryz.prog (do eqGuard .eql 28 (.tmp 28) (.const .nilIface) x31 .nilIface; binOp .eql 28 x31 .nilIface) w3 (.v (.one .bool)) (fun (x32 : Bool) w33 => ifB x32
          ((.bool true : Value) = .bool (d && (e.2.2.2.2.2.2.1 == 0 || hasF e.1 86) && (nilT e.2.2.2.2.2.2.2.1 || hasF e.1 84)) ∧ Fr none1 w w33)
          (LdK (.int .i64) ((⟨b, 0, none⟩ : Addr).add 0) w33 (fun (x34 : Int) => CallK Tryz.prog 144 #[.int .i64 x34, .string (⟨#[84]⟩ : ByteArray)] w33 (.v (.one .bool)) (fun (x35 : Bool) w36 => (.bool x35 : Value) = .bool (d && (e.2.2.2.2.2.2.1 == 0 || hasF e.1 86) && (nilT e.2.2.2.2.2.2.2.1 || hasF e.1 84)) ∧ Fr none1 w w36))))))
        (LdK (.int .i64) ((⟨b, 0, none⟩ : Addr).add 0) w3 (fun (x37 : Int) => CallK Tryz.prog 144 #[.int .i64 x37, .string (⟨#[86]⟩ : ByteArray)] w3 (.v (.one .bool)) (fun (x38 : Bool) w39 => ifB x38
          (LdK .raw ((⟨b, 0, none⟩ : Addr).add 7) w39 (fun (x40 : Value) => RunK Tryz.prog (do eqGuard .eql 28 (.tmp 28) (.const .nilIface) x40 .nilIface; binOp .eql 28 x40 .nilIface) w39 (.v (.one .bool)) (fun (x41 : Bool) w42 => ifB x41
            ((.bool true : Value) = .bool (d && (e.2.2.2.2.2.2.1 == 0 || hasF e.1 86) && (nilT e.2.2.2.2.2.2.2.1 || hasF e.1 84)) ∧ Fr none1 w w42)
            (LdK (.int .i64) ((⟨b, 0, none⟩ : Addr).add 0) w42 (fun (x43 : Int) => CallK Tryz.prog 144 #[.int .i64 x43, .string (⟨#[84]⟩ : ByteArray)] w42 (.v (.one .bool)) (fun (x44 : Bool) w45 => (.bool x44 : Value) = .bool (d && (e.2.2.2.2.2.2.1 == 0 || hasF e.1 86) && (nilT e.2.2.2.2.2.2.2.1 || hasF e.1 84)) ∧ Fr none1 w w45))))))
          ((.bool false : Value) = .bool (d && (e.2.2.2.2.2.2.1 == 0 || hasF e.1 86) && (nilT e.2.2.2.2.2.2.2.1 || hasF e.1 84)) ∧ Fr none1 w w39))))) := by
      rintro d rfl
      refine LdK.fld hb3 rfl ?_
      refine ifB.by (fun h => ?_) (fun h => ?_)
      · exact hterm true _ rfl (by rw [h]; rfl)
      · refine LdK.fld hb3 rfl ?_
        refine CallK.of (has_spec e.1 86 w3) ?_
        rintro _ _ ⟨rfl, rfl⟩
        refine ⟨_, rfl, ifB.by (fun h2 => ?_) (fun h2 => ?_)⟩
        · exact hterm true _ rfl (by rw [h2]; simp)
        · refine ⟨?_, fr⟩
          rw [h, h2]; rfl
    refine LdK.fld hb3 rfl ?_
    refine ifB.by (fun h => ?_) (fun h => ?_)
    · exact hval _ (by rw [h]; rfl)
    · refine LdK.fld hb3 rfl ?_
      refine CallK.of (has_spec e.1 68 w3) ?_
      rintro _ _ ⟨rfl, rfl⟩
      refine ⟨_, rfl, ifB.by (fun h2 => ?_) (fun h2 => ?_)⟩
      · exact hval _ (by rw [h2]; simp)
      · refine ⟨?_, fr⟩
        rw [h, h2]; rfl

theorem check_spec (e : EvT) (hT : ifcT e.2.2.2.2.2.2.2.1) (tr : Int) (w : World)
    (ht : e.1 = 2 → ∀ w1, Fr none1 w w1 → Ret Tryz.prog 35 #[e.2.2.2.2.2.2.2.1] w1 fun r w' => (∃ s, r = .tuple #[.string s, .int .i64 tr]) ∧ Fr none1 w1 w') :
    Ret Tryz.prog 49 #[evA e] w fun r w' => r = .int .i64 (checkF e tr) ∧ Fr none1 w w' := by
  refine c49 e w _ ?_
  unfold C49
  refine NewK.of fun b w1 hb hb1 f1 _ => ?_
  refine LdK.fld hb1 rfl ?_
  refine CallK.of (efields_spec e.1 w1) ?_
  rintro _ _ ⟨rfl, rfl⟩
  refine ⟨_, rfl, ?_⟩
  unfold checkF
  have e63 : (⟨#[63]⟩ : ByteArray) = str [63] := rfl
  have q63 : ((str (fieldsF e.1)).toList == (⟨#[63]⟩ : ByteArray).toList) = decide (fieldsF e.1 = [63]) := by rw [e63, str_beq]
  rw [q63]
  refine ifB.dec (fun h => ?_) (fun h => ?_)
  · rw [if_pos h]; exact ⟨rfl, f1⟩
  rw [if_neg h]
  refine LdsK.blk (x := e) hb1 ?_
  refine CallK.of (only_spec e hT w1) ?_
  rintro _ w2 ⟨rfl, f2⟩
  refine ⟨_, rfl, ifB.not (ifB.by (fun ho => ?_) (fun ho => ?_))⟩
  case refine_2 => rw [if_pos ho]; exact ⟨rfl, f1.trans f2⟩
  rw [if_neg (by simp [ho])]
  have hb2 := f2.keep0 hb1
  refine LdsK.blk (x := e) hb2 ?_
  refine CallK.of (named_spec e w2) ?_
  rintro _ w3 ⟨rfl, f3⟩
  have f13 := (f1.trans f2).trans f3
  refine ⟨_, rfl, ifB.not (ifB.by (fun hn => ?_) (fun hn => ?_))⟩
  case refine_2 => rw [if_pos hn]; exact ⟨rfl, f13⟩
  rw [if_neg (by simp [hn])]
  have hb3 := f3.keep0 hb2
  refine LdK.fld hb3 (x := e.2.2.2.2.2.1) rfl ?_
  refine ifB.dec (fun h => ?_) (fun h => ?_)
  · rw [if_pos h]; exact ⟨rfl, f13⟩
  rw [if_neg h]
  refine LdK.fld hb3 (x := e.2.2.2.2.2.1) rfl ?_
  refine ifB.dec (fun h => ?_) (fun h => ?_)
  · rw [if_pos h]; exact ⟨rfl, f13⟩
  rw [if_neg h]
  refine LdK.fld hb3 (x := e.2.2.2.2.2.2.1) rfl ?_
  refine CallK.of (valid_spec e.2.2.2.2.2.2.1 w3) ?_
  rintro _ _ ⟨rfl, rfl⟩
  refine ⟨_, rfl, ifB.not (ifB.by (fun hv => ?_) (fun hv => ?_))⟩
  case refine_2 => rw [if_pos hv]; exact ⟨rfl, f13⟩
  rw [if_neg (by simp [hv])]
  refine JoinK.of (fun s w' => s.1 = decide (e.1 = 4 ∧ e.2.2.2.2.2.2.1 ≠ 0 ∧ e.2.2.2.2.2.2.1 ≠ 1) ∧ w3 = w') ?_ ?_
  · refine LdK.fld hb3 (x := e.1) rfl ?_
    refine ifB.eq (fun h4 => ?_) (fun h4 => ?_)
    · refine LdK.fld hb3 (x := e.2.2.2.2.2.2.1) rfl ?_
      refine ifB.ne (fun h0 => ?_) (fun h0 => ?_)
      · refine LdK.fld hb3 (x := e.2.2.2.2.2.2.1) rfl ⟨?_, rfl⟩
        dsimp only
        by_cases h1 : e.2.2.2.2.2.2.1 = 1
        · rw [decide_eq_false (fun t => t.2.2 h1), h1]; rfl
        · rw [decide_eq_true ⟨h4, h0, h1⟩]; simpa using h1
      · exact ⟨by dsimp only; rw [decide_eq_false (fun t => t.2.1 h0)], rfl⟩
    · exact ⟨by dsimp only; rw [decide_eq_false (fun t => h4 t.1)], rfl⟩
  · rintro _ ⟨s, _⟩ _ ⟨hs, rfl⟩
    dsimp only at hs ⊢
    rw [hs]
    refine ifB.dec (fun h => ?_) (fun h => ?_)
    · rw [if_pos h]; exact ⟨rfl, f13⟩
    rw [if_neg h]
    refine LdK.fld hb3 (x := e.1) rfl ?_
    refine ifB.eq (fun h2 => ?_) (fun h2 => ?_)
    · rw [if_pos h2]
      refine LdK.fld hb3 (x := e.2.2.2.2.2.2.2.1) rfl ?_
      refine CallK.of (ht h2 w3 f13) ?_
      rintro _ w4 ⟨⟨s', rfl⟩, f4⟩
      exact ⟨(s', tr, ()), rfl, rfl, f13.trans f4⟩
    · rw [if_neg h2]; exact ⟨rfl, f13⟩

end Go.Proofs.YtlhbfdakceipkaaGreatDoor

/-! ### CObsG -/
namespace Go.Proofs.YtlhbfdakceipkaaGreatDoor
open Vc
set_option maxRecDepth 100000
set_option linter.unusedVariables false
/-- handfast/obs.Kids -/
def C82 (p0 : Value) (w : World) (K : Value → World → Prop) : Prop :=
  TaK p0 86 (.agg [.raw, .raw]) (fun (x1 : Value × Value × Unit) => NewK (.cells #[.nilIface, .nilIface] 86) w (fun g2 w3 => StsK (⟨g2, 0, none⟩ : Addr) [x1.1, x1.2.1] w3 (fun w4 => LdK .raw ((⟨g2, 0, none⟩ : Addr).add 0) w4 (fun (x5 : Value) => LdK .raw ((⟨g2, 0, none⟩ : Addr).add 1) w4 (fun (x6 : Value) => RunK Tryz.prog (Instr.buildSlice 173 2 #[(0, x5), (1, x6)]) w4 (.v (.one .slc)) (fun (x7 : Option Addr × Nat × Nat) w8 => K (.slice x7.1 x7.2.1 x7.2.2) w8))))))
  (NewK (.cells #[.nilIface, .nilIface] 86) w (fun g9 w10 => StsK (⟨g9, 0, none⟩ : Addr) [.nilIface, .nilIface] w10 (fun w11 => TaK p0 83 (.agg [.raw, .raw]) (fun (x12 : Value × Value × Unit) => NewK (.cells #[.nilIface, .nilIface] 83) w11 (fun g13 w14 => StsK (⟨g13, 0, none⟩ : Addr) [x12.1, x12.2.1] w14 (fun w15 => LdK .raw ((⟨g13, 0, none⟩ : Addr).add 0) w15 (fun (x16 : Value) => LdK .raw ((⟨g13, 0, none⟩ : Addr).add 1) w15 (fun (x17 : Value) => RunK Tryz.prog (Instr.buildSlice 173 2 #[(0, x16), (1, x17)]) w15 (.v (.one .slc)) (fun (x18 : Option Addr × Nat × Nat) w19 => K (.slice x18.1 x18.2.1 x18.2.2) w19))))))
  (NewK (.cells #[.nilIface, .nilIface] 83) w11 (fun g20 w21 => StsK (⟨g20, 0, none⟩ : Addr) [.nilIface, .nilIface] w21 (fun w22 => TaK p0 82 (.agg [.raw, .raw]) (fun (x23 : Value × Value × Unit) => NewK (.cells #[.nilIface, .nilIface] 82) w22 (fun g24 w25 => StsK (⟨g24, 0, none⟩ : Addr) [x23.1, x23.2.1] w25 (fun w26 => LdK .raw ((⟨g24, 0, none⟩ : Addr).add 0) w26 (fun (x27 : Value) => LdK .raw ((⟨g24, 0, none⟩ : Addr).add 1) w26 (fun (x28 : Value) => RunK Tryz.prog (Instr.buildSlice 173 2 #[(0, x27), (1, x28)]) w26 (.v (.one .slc)) (fun (x29 : Option Addr × Nat × Nat) w30 => K (.slice x29.1 x29.2.1 x29.2.2) w30))))))
  (NewK (.cells #[.nilIface, .nilIface] 82) w22 (fun g31 w32 => StsK (⟨g31, 0, none⟩ : Addr) [.nilIface, .nilIface] w32 (fun w33 => TaK p0 85 (.agg [.raw]) (fun (x34 : Value × Unit) => NewK (.cells #[.nilIface] 85) w33 (fun g35 w36 => StsK (⟨g35, 0, none⟩ : Addr) [x34.1] w36 (fun w37 => LdK .raw ((⟨g35, 0, none⟩ : Addr).add 0) w37 (fun (x38 : Value) => RunK Tryz.prog (Instr.buildSlice 173 1 #[(0, x38)]) w37 (.v (.one .slc)) (fun (x39 : Option Addr × Nat × Nat) w40 => K (.slice x39.1 x39.2.1 x39.2.2) w40)))))
  (NewK (.cells #[.nilIface] 85) w33 (fun g41 w42 => StsK (⟨g41, 0, none⟩ : Addr) [.nilIface] w42 (fun w43 => K (.slice none 0 0) w43))))))))))))
def pl82 : Plan := .auto
theorem e82 (p0 : Value) (w : World) (K : Value → World → Prop) : vcFunc Tryz.prog Tryz.f82 pl82 [p0] w K = C82 p0 w K := by kernel_rfl
theorem c82 (p0 : Value) (w : World) (K : Value → World → Prop) (h : C82 p0 w K) : Ret Tryz.prog 82 #[p0] w K := by
  rw [← e82] at h
  exact vcFunc_sound (by kernel_rfl) Tryz.func82 h

/-- handfast/obs.leaf -/
def C163 (p0 : Value) (w : World) (K : Value → World → Prop) : Prop :=
  TaK p0 80 (.agg [.int .i64]) (fun (x1 : Int × Unit) => NewK (.cells #[.int .i64 0] 80) w (fun g2 w3 => StsK (⟨g2, 0, none⟩ : Addr) [.int .i64 x1.1] w3 (fun w4 => LdK (.int .i64) ((⟨g2, 0, none⟩ : Addr).add 0) w4 (fun (x5 : Int) => CallK Tryz.prog 96 #[.int .i64 x5] w4 (.v (.one .bool)) (fun (x6 : Bool) w7 => K (.tuple #[.bool true, .bool x6]) w7)))))
  (NewK (.cells #[.int .i64 0] 80) w (fun g8 w9 => StsK (⟨g8, 0, none⟩ : Addr) [.int .i64 0] w9 (fun w10 => TaK p0 78 (.agg [.str]) (fun (x11 : ByteArray × Unit) => NewK (.cells #[.string (⟨#[]⟩ : ByteArray)] 78) w10 (fun g12 w13 => StsK (⟨g12, 0, none⟩ : Addr) [.string x11.1] w13 (fun w14 => LdK .str ((⟨g12, 0, none⟩ : Addr).add 0) w14 (fun (x15 : ByteArray) => CallK Tryz.prog 145 #[.string x15] w14 (.v (.one .bool)) (fun (x16 : Bool) w17 => K (.tuple #[.bool true, .bool x16]) w17)))))
  (NewK (.cells #[.string (⟨#[]⟩ : ByteArray)] 78) w10 (fun g18 w19 => StsK (⟨g18, 0, none⟩ : Addr) [.string (⟨#[]⟩ : ByteArray)] w19 (fun w20 => K (.tuple #[.bool false, .bool false]) w20))))))
def pl163 : Plan := .auto
theorem e163 (p0 : Value) (w : World) (K : Value → World → Prop) : vcFunc Tryz.prog Tryz.f163 pl163 [p0] w K = C163 p0 w K := by kernel_rfl
theorem c163 (p0 : Value) (w : World) (K : Value → World → Prop) (h : C163 p0 w K) : Ret Tryz.prog 163 #[p0] w K := by
  rw [← e163] at h
  exact vcFunc_sound (by kernel_rfl) Tryz.func163 h

/-- handfast/obs.none -/
def C164 (p0 : Value) (w : World) (K : Value → World → Prop) : Prop :=
  CallK Tryz.prog 163 #[p0] w (.tup [.one .bool, .one .bool]) (fun (x1 : Bool × Bool × Unit) w2 => ifB (!x1.1)
  (CallK Tryz.prog 82 #[p0] w2 (.v (.one .slc)) (fun (x3 : Option Addr × Nat × Nat) w4 => K (.bool ((x3.2.1 : Int) == 0)) w4))
  (K (.bool false) w2))
def pl164 : Plan := .auto
theorem e164 (p0 : Value) (w : World) (K : Value → World → Prop) : vcFunc Tryz.prog Tryz.f164 pl164 [p0] w K = C164 p0 w K := by kernel_rfl
theorem c164 (p0 : Value) (w : World) (K : Value → World → Prop) (h : C164 p0 w K) : Ret Tryz.prog 164 #[p0] w K := by
  rw [← e164] at h
  exact vcFunc_sound (by kernel_rfl) Tryz.func164 h

/-- handfast/obs.Size -/
def C135 (p0 : Value) (w : World) (K : Value → World → Prop) : Prop :=
  CallK Tryz.prog 164 #[p0] w (.v (.one .bool)) (fun (x1 : Bool) w2 => ifB x1
  (K (.tuple #[.int .i64 0, .int .i64 0]) w2)
  (CallK Tryz.prog 82 #[p0] w2 (.v (.one .slc)) (fun (x3 : Option Addr × Nat × Nat) w4 => LoopK (Int × Int × Int × Unit) (fun _ s5 w6 next7 => ifB (decide (s5.2.2.1 < (x3.2.1 : Int)))
  (IdxK x3.1 x3.2.1 s5.2.2.1 1 (fun a8 => LdK .raw a8 w6 (fun (x9 : Value) => CallK Tryz.prog 135 #[x9] w6 (.tup [.one (.int .i64), .one (.int .i64)]) (fun (x10 : Int × Int × Unit) w11 => next7 (IntKind.i64.wrap (s5.1 + x10.1), (if x10.2.1 > s5.2.1 then x10.2.1 else s5.2.1), IntKind.i64.wrap (s5.2.2.1 + 1), ()) w11))))
  (K (.tuple #[.int .i64 (IntKind.i64.wrap (s5.1 + 1)), .int .i64 (IntKind.i64.wrap (s5.2.1 + 1))]) w6))
  (0, 0, 0, ()) w4)))
def pl135 : Plan := (.seq .auto (.seq .auto (.seq (.seq .auto (.block (.loop [(2, .one (.int .i64)), (3, .one (.int .i64)), (13, .one (.int .i64))] .auto))) .auto)))
theorem e135 (p0 : Value) (w : World) (K : Value → World → Prop) : vcFunc Tryz.prog Tryz.f135 pl135 [p0] w K = C135 p0 w K := by kernel_rfl
theorem c135 (p0 : Value) (w : World) (K : Value → World → Prop) (h : C135 p0 w K) : Ret Tryz.prog 135 #[p0] w K := by
  rw [← e135] at h
  exact vcFunc_sound (by kernel_rfl) Tryz.func135 h

/-- handfast/obs.form -/
def C134 (p0 : Value) (w : World) (K : Value → World → Prop) : Prop :=
  CallK Tryz.prog 163 #[p0] w (.tup [.one .bool, .one .bool]) (fun (x1 : Bool × Bool × Unit) w2 => ifB x1.1
  (K (.bool x1.2.1) w2)
  (CallK Tryz.prog 164 #[p0] w2 (.v (.one .bool)) (fun (x3 : Bool) w4 => ifB (!x3)
  (CallK Tryz.prog 82 #[p0] w4 (.v (.one .slc)) (fun (x5 : Option Addr × Nat × Nat) w6 => CallK Tryz.prog 165 #[.slice x5.1 x5.2.1 x5.2.2, .func (.func 166) #[] #[]] w6 (.v (.one .bool)) (fun (x7 : Bool) w8 => K (.bool (!x7)) w8)))
  (K (.bool false) w4))))
def pl134 : Plan := .auto
theorem e134 (p0 : Value) (w : World) (K : Value → World → Prop) : vcFunc Tryz.prog Tryz.f134 pl134 [p0] w K = C134 p0 w K := by kernel_rfl
theorem c134 (p0 : Value) (w : World) (K : Value → World → Prop) (h : C134 p0 w K) : Ret Tryz.prog 134 #[p0] w K := by
  rw [← e134] at h
  exact vcFunc_sound (by kernel_rfl) Tryz.func134 h

/-- handfast/obs.form$1 -/
def C166 (p0 : Value) (w : World) (K : Value → World → Prop) : Prop :=
  CallK Tryz.prog 134 #[p0] w (.v (.one .bool)) (fun (x1 : Bool) w2 => K (.bool (!x1)) w2)
def pl166 : Plan := .auto
theorem e166 (p0 : Value) (w : World) (K : Value → World → Prop) : vcFunc Tryz.prog Tryz.f166 pl166 [p0] w K = C166 p0 w K := by kernel_rfl
theorem c166 (p0 : Value) (w : World) (K : Value → World → Prop) (h : C166 p0 w K) : Ret Tryz.prog 166 #[p0] w K := by
  rw [← e166] at h
  exact vcFunc_sound (by kernel_rfl) Tryz.func166 h

/-- handfast/obs.Check -/
def C73 (p0 : Value) (w : World) (K : Value → World → Prop) : Prop :=
  CallK Tryz.prog 134 #[p0] w (.v (.one .bool)) (fun (x1 : Bool) w2 => ifB (!x1)
  (K (.int .i64 2) w2)
  (CallK Tryz.prog 135 #[p0] w2 (.tup [.one (.int .i64), .one (.int .i64)]) (fun (x3 : Int × Int × Unit) w4 => ifB (decide (x3.1 > 60))
  (K (.int .i64 5) w4)
  (ifB (decide (x3.2.1 > 12))
  (K (.int .i64 5) w4)
  (K (.int .i64 0) w4)))))
def pl73 : Plan := .auto
theorem e73 (p0 : Value) (w : World) (K : Value → World → Prop) : vcFunc Tryz.prog Tryz.f73 pl73 [p0] w K = C73 p0 w K := by kernel_rfl
theorem c73 (p0 : Value) (w : World) (K : Value → World → Prop) (h : C73 p0 w K) : Ret Tryz.prog 73 #[p0] w K := by
  rw [← e73] at h
  exact vcFunc_sound (by kernel_rfl) Tryz.func73 h

/-- slices.ContainsFunc[[]handfast/api.Obs,handfast/api.Obs] -/
def C165 (p0 : Option Addr) (p0l p0c : Nat) (p1 : Value) (w : World) (K : Value → World → Prop) : Prop :=
  CallK Tryz.prog 188 #[.slice p0 p0l p0c, p1] w (.v (.one (.int .i64))) (fun (x1 : Int) w2 => K (.bool (decide (x1 ≥ 0))) w2)
def pl165 : Plan := .auto
theorem e165 (p0 : Option Addr) (p0l p0c : Nat) (p1 : Value) (w : World) (K : Value → World → Prop) : vcFunc Tryz.prog Tryz.f165 pl165 [.slice p0 p0l p0c, p1] w K = C165 p0 p0l p0c p1 w K := by kernel_rfl
theorem c165 (p0 : Option Addr) (p0l p0c : Nat) (p1 : Value) (w : World) (K : Value → World → Prop) (h : C165 p0 p0l p0c p1 w K) : Ret Tryz.prog 165 #[.slice p0 p0l p0c, p1] w K := by
  rw [← e165] at h
  exact vcFunc_sound (by kernel_rfl) Tryz.func165 h

/-- slices.IndexFunc[[]handfast/api.Obs,handfast/api.Obs] -/
def C188 (p0 : Option Addr) (p0l p0c : Nat) (p1 : Value) (w : World) (K : Value → World → Prop) : Prop :=
  LoopK (Int × Unit) (fun _ s1 w2 next3 => ifB (decide (s1.1 < (p0l : Int)))
  (IdxK p0 p0l s1.1 1 (fun a4 => LdK .raw a4 w2 (fun (x5 : Value) => callV Tryz.prog p1 [x5] (.v (.one .bool)) w2 (fun (x6 : Bool) w7 => ifB x6
  (K (.int .i64 s1.1) w7)
  (next3 (IntKind.i64.wrap (s1.1 + 1), ()) w7)))))
  (K (.int .i64 (-1)) w2))
  (0, ()) w
def pl188 : Plan := (.seq .auto (.seq (.seq .auto (.block (.loop [(8, .one (.int .i64))] .auto))) .auto))
theorem e188 (p0 : Option Addr) (p0l p0c : Nat) (p1 : Value) (w : World) (K : Value → World → Prop) : vcFunc Tryz.prog Tryz.f188 pl188 [.slice p0 p0l p0c, p1] w K = C188 p0 p0l p0c p1 w K := by kernel_rfl
theorem c188 (p0 : Option Addr) (p0l p0c : Nat) (p1 : Value) (w : World) (K : Value → World → Prop) (h : C188 p0 p0l p0c p1 w K) : Ret Tryz.prog 188 #[.slice p0 p0l p0c, p1] w K := by
  rw [← e188] at h
  exact vcFunc_sound (by kernel_rfl) Tryz.func188 h

end Go.Proofs.YtlhbfdakceipkaaGreatDoor

/-! ### ObsSpec -/
set_option linter.unusedVariables false
set_option maxRecDepth 100000
namespace Go.Proofs.YtlhbfdakceipkaaGreatDoor
open Vc

/-! ### In plain Lean -/
def nameL (s : List UInt8) : Bool := nameF 0 (runesL s)
def leafO : Ob → Bool × Bool
  | .const n => (true, validF n)
  | .fix s => (true, nameL s)
  | _ => (false, false)
def formO : Ob → Bool
  | .none => false
  | .const n => validF n
  | .fix s => nameL s
  | .add l r | .mul l r | .max l r => formO l && formO r
  | .neg o => formO o
def nodesO : Ob → Nat
  | .none => 0
  | .const _ | .fix _ => 1
  | .add l r | .mul l r | .max l r => nodesO l + nodesO r + 1
  | .neg o => nodesO o + 1
def depthO : Ob → Nat
  | .none => 0
  | .const _ | .fix _ => 1
  | .add l r | .mul l r | .max l r => max (depthO l) (depthO r) + 1
  | .neg o => depthO o + 1
def noneO : Ob → Bool
  | .none => true
  | _ => false
def checkO (o : Ob) : Int := if formO o = false then 2 else if 60 < nodesO o then 5 else if 12 < depthO o then 5 else 0

theorem depthO_le (o : Ob) : depthO o ≤ nodesO o := by
  induction o with
  | none => exact Nat.le_refl _
  | const => exact Nat.le_refl _
  | fix => exact Nat.le_refl _
  | neg o ih => unfold depthO nodesO; omega
  | add l r a b => unfold depthO nodesO; omega
  | mul l r a b => unfold depthO nodesO; omega
  | max l r a b => unfold depthO nodesO; omega
def sumN (l : List Nat) : Nat := l.foldl (· + ·) 0
def maxN (l : List Nat) : Nat := l.foldl max 0
theorem nodesO_kids (o : Ob) (h : noneO o = false) : nodesO o = sumN ((kidsO o).map nodesO) + 1 := by cases o <;> simp [noneO, nodesO, kidsO, sumN] at h ⊢
theorem depthO_kids (o : Ob) (h : noneO o = false) : depthO o = maxN ((kidsO o).map depthO) + 1 := by cases o <;> simp [noneO, depthO, kidsO, maxN] at h ⊢
theorem formO_kids (o : Ob) (h : (leafO o).1 = false) : formO o = (!noneO o && !((kidsO o).any fun k => !formO k)) := by cases o <;> simp [leafO, noneO, formO, kidsO] at h ⊢
theorem noneO_kids (o : Ob) (h : (leafO o).1 = false) : ((kidsO o).length == 0) = noneO o := by cases o <;> simp [leafO, noneO, kidsO] at h ⊢
theorem leafO_none (o : Ob) (h : (leafO o).1 = true) : noneO o = false ∧ formO o = (leafO o).2 := by cases o <;> simp [leafO, noneO, formO] at h ⊢
theorem sumN_snoc (l : List Nat) (n : Nat) : sumN (l ++ [n]) = sumN l + n := by unfold sumN; rw [List.foldl_append]; rfl
theorem maxN_snoc (l : List Nat) (n : Nat) : maxN (l ++ [n]) = max (maxN l) n := by unfold maxN; rw [List.foldl_append]; rfl
theorem sumN_from (l : List Nat) : ∀ n, l.foldl (· + ·) n = n + sumN l := by
  unfold sumN
  induction l with
  | nil => intro n; rfl
  | cons a l ih => intro n; rw [List.foldl_cons, List.foldl_cons, ih, ih (0 + a)]; omega
theorem sumN_take (l : List Nat) (i : Nat) : sumN (l.take i) ≤ sumN l := by
  have : sumN l = sumN (l.take i) + sumN (l.drop i) := by
    conv => lhs; rw [← List.take_append_drop i l]
    unfold sumN
    rw [List.foldl_append]
    exact sumN_from _ _
  omega
theorem take_next {α β : Type} (l : List α) (g : α → β) (i : Nat) {x : α} (h : l[i]? = some x) : (l.take (i + 1)).map g = (l.take i).map g ++ [g x] := by
  rw [List.take_add_one, h, List.map_append]; rfl

/-! ### What the functions do -/
theorem okids_spec (o : Ob) (w : World) : Ret Tryz.prog 82 #[o.v] w fun r w' => ∃ u : Sl, r = .slice u.1 u.2.1 u.2.2 ∧ IsOs w' u (kidsO o) ∧ Fr none1 w w' := by
  refine c82 o.v w _ ?_
  unfold C82
  have two : ∀ (l r : Ob) (w0 : World) (T : TypeId), Fr none1 w w0 → kidsO o = [l, r] → NewK (.cells #[.nilIface, .nilIface] T) w0 (fun g2 w3 => StsK (⟨g2, 0, none⟩ : Addr) [l.v, r.v] w3 (fun w4 => LdK .raw ((⟨g2, 0, none⟩ : Addr).add 0) w4 (fun (x5 : Value) => LdK .raw ((⟨g2, 0, none⟩ : Addr).add 1) w4 (fun (x6 : Value) =>
      RunK Tryz.prog (Instr.buildSlice 173 2 #[(0, x5), (1, x6)]) w4 (.v (.one .slc)) (fun (x7 : Option Addr × Nat × Nat) w8 => ∃ u : Sl, (Value.slice x7.1 x7.2.1 x7.2.2) = .slice u.1 u.2.1 u.2.2 ∧ IsOs w8 u (kidsO o) ∧ Fr none1 w w8))))) := fun l r w0 T f0 hk =>
    kids2_ok (zs := [.nilIface, .nilIface]) (vs := [l.v, r.v]) elem_obs rfl (by simp [Ob.v_one]) rfl rfl l.v_cells r.v_cells fun u w' hu _ f _ => ⟨u, rfl, by rw [hk]; exact hu, f0.trans f⟩
  have skip2 : ∀ {w0 : World} {T : TypeId} {K : World → Prop}, Fr none1 w w0 → (∀ w4, Fr none1 w w4 → K w4) → NewK (.cells #[.nilIface, .nilIface] T) w0 (fun g w3 => StsK ⟨g, 0, none⟩ [.nilIface, .nilIface] w3 fun w4 => K w4) := fun f0 h =>
    ns_skip (zs := [.nilIface, .nilIface]) rfl rfl fun w4 f => h w4 (f0.trans f)
  have skip1 : ∀ {w0 : World} {T : TypeId} {K : World → Prop}, Fr none1 w w0 → (∀ w4, Fr none1 w w4 → K w4) → NewK (.cells #[.nilIface] T) w0 (fun g w3 => StsK ⟨g, 0, none⟩ [.nilIface] w3 fun w4 => K w4) := fun f0 h =>
    ns_skip (zs := [.nilIface]) rfl rfl fun w4 f => h w4 (f0.trans f)
  have f0 := Fr.refl none1 w
  cases o with
  | none =>
    refine TaK.nil rfl (skip2 f0 fun w1 f1 => TaK.nil rfl (skip2 f1 fun w2 f2 => TaK.nil rfl (skip2 f2 fun w3 f3 => TaK.nil rfl (skip1 f3 fun w4 f4 => ⟨_, rfl, none_os _, f4⟩))))
  | const n =>
    refine TaK.miss rfl (by decide) (skip2 f0 fun w1 f1 => TaK.miss rfl (by decide) (skip2 f1 fun w2 f2 => TaK.miss rfl (by decide) (skip2 f2 fun w3 f3 => TaK.miss rfl (by decide) (skip1 f3 fun w4 f4 => ⟨_, rfl, none_os _, f4⟩))))
  | fix s =>
    refine TaK.miss rfl (by decide) (skip2 f0 fun w1 f1 => TaK.miss rfl (by decide) (skip2 f1 fun w2 f2 => TaK.miss rfl (by decide) (skip2 f2 fun w3 f3 => TaK.miss rfl (by decide) (skip1 f3 fun w4 f4 => ⟨_, rfl, none_os _, f4⟩))))
  | add l r => exact TaK.hit (l.v, r.v, ()) rfl (two l r w _ f0 rfl)
  | mul l r => exact TaK.miss rfl (by decide) (skip2 f0 fun w1 f1 => TaK.hit (l.v, r.v, ()) rfl (two l r w1 _ f1 rfl))
  | max l r => exact TaK.miss rfl (by decide) (skip2 f0 fun w1 f1 => TaK.miss rfl (by decide) (skip2 f1 fun w2 f2 => TaK.hit (l.v, r.v, ()) rfl (two l r w2 _ f2 rfl)))
  | neg x =>
    refine TaK.miss rfl (by decide) (skip2 f0 fun w1 f1 => TaK.miss rfl (by decide) (skip2 f1 fun w2 f2 => TaK.miss rfl (by decide) (skip2 f2 fun w3 f3 => TaK.hit (x.v, ()) rfl ?_)))
    exact kids1_ok (zs := [.nilIface]) (vs := [x.v]) elem_obs rfl (by simp [Ob.v_one]) rfl x.v_cells fun u w' hu _ f _ => ⟨u, rfl, hu, f3.trans f⟩

theorem leaf_spec (o : Ob) (w : World) : Ret Tryz.prog 163 #[o.v] w fun r w' => r = .tuple #[.bool (leafO o).1, .bool (leafO o).2] ∧ Fr none1 w w' := by
  refine c163 o.v w _ ?_
  unfold C163
  have skipI : ∀ {K : World → Prop}, (∀ w4, Fr none1 w w4 → K w4) → NewK (.cells #[.int .i64 0] 80) w (fun g w3 => StsK ⟨g, 0, none⟩ [.int .i64 0] w3 fun w4 => K w4) := fun h => ns_skip (zs := [.int .i64 0]) rfl rfl fun w4 f => h w4 f
  have skipS : ∀ {w0 : World} {K : World → Prop}, Fr none1 w w0 → (∀ w4, Fr none1 w w4 → K w4) → NewK (.cells #[.string (⟨#[]⟩ : ByteArray)] 78) w0 (fun g w3 => StsK ⟨g, 0, none⟩ [.string (⟨#[]⟩ : ByteArray)] w3 fun w4 => K w4) := fun f0 h => ns_skip (zs := [.string (⟨#[]⟩ : ByteArray)]) rfl rfl fun w4 f => h w4 (f0.trans f)
  cases o with
  | none => exact TaK.nil rfl (skipI fun w1 f1 => TaK.nil rfl (skipS f1 fun w2 f2 => ⟨rfl, f2⟩))
  | const n =>
    refine TaK.hit (n, ()) rfl (ns_ok (zs := [.int .i64 0]) (vs := [.int .i64 n]) rfl rfl fun g w1 _ hb f1 => LdK.fld hb (x := n) rfl ?_)
    refine CallK.of (valid_spec n w1) ?_
    rintro _ _ ⟨rfl, rfl⟩
    exact ⟨_, rfl, rfl, f1⟩
  | fix s =>
    refine TaK.miss rfl (by decide) (skipI fun w1 f1 => TaK.hit (str s, ()) rfl (ns_ok (zs := [.string (⟨#[]⟩ : ByteArray)]) (vs := [.string (str s)]) rfl rfl fun g w2 _ hb f2 => LdK.fld hb (x := str s) rfl ?_))
    refine CallK.of (name_spec s w2) ?_
    rintro _ w3 ⟨rfl, f3⟩
    exact ⟨_, rfl, rfl, (f1.trans f2).trans f3⟩
  | add l r => exact TaK.miss rfl (by decide) (skipI fun w1 f1 => TaK.miss rfl (by decide) (skipS f1 fun w2 f2 => ⟨rfl, f2⟩))
  | mul l r => exact TaK.miss rfl (by decide) (skipI fun w1 f1 => TaK.miss rfl (by decide) (skipS f1 fun w2 f2 => ⟨rfl, f2⟩))
  | max l r => exact TaK.miss rfl (by decide) (skipI fun w1 f1 => TaK.miss rfl (by decide) (skipS f1 fun w2 f2 => ⟨rfl, f2⟩))
  | neg x => exact TaK.miss rfl (by decide) (skipI fun w1 f1 => TaK.miss rfl (by decide) (skipS f1 fun w2 f2 => ⟨rfl, f2⟩))

theorem onone_spec (o : Ob) (w : World) : Ret Tryz.prog 164 #[o.v] w fun r w' => r = .bool (noneO o) ∧ Fr none1 w w' := by
  refine c164 o.v w _ ?_
  refine CallK.of (leaf_spec o w) ?_
  rintro _ w1 ⟨rfl, f1⟩
  refine ⟨(_, _, ()), rfl, ifB.not (ifB.by (fun h => ?_) (fun h => ?_))⟩
  · rw [(leafO_none o h).1]; exact ⟨rfl, f1⟩
  · refine CallK.of (okids_spec o w1) ?_
    rintro _ w2 ⟨u, rfl, hu, f2⟩
    refine ⟨u, rfl, ?_, f1.trans f2⟩
    rw [hu.len, ← noneO_kids o h]
    congr 1
    cases hk : (kidsO o).length <;> rfl

theorem osize_spec (o : Ob) (hn : nodesO o ≤ 1000000) (w : World) : Ret Tryz.prog 135 #[o.v] w fun r w' => r = .tuple #[.int .i64 (nodesO o : Int), .int .i64 (depthO o : Int)] ∧ Fr none1 w w' := by
  refine c135 o.v w _ ?_
  have ih : ∀ k ∈ kidsO o, nodesO k ≤ 1000000 → ∀ w, Ret Tryz.prog 135 #[k.v] w fun r w' => r = .tuple #[.int .i64 (nodesO k : Int), .int .i64 (depthO k : Int)] ∧ Fr none1 w w' := fun k hk hn w => osize_spec k hn w
  refine CallK.of (onone_spec o w) ?_
  rintro _ w1 ⟨rfl, f1⟩
  refine ⟨_, rfl, ifB.by (fun h => ?_) (fun h => ?_)⟩
  · cases o <;> first | (exact ⟨rfl, f1⟩) | (exact absurd h (by simp [noneO]))
  refine CallK.of (okids_spec o w1) ?_
  rintro _ w2 ⟨u, rfl, hu, f2⟩
  refine ⟨u, rfl, ?_⟩
  have hN := nodesO_kids o h
  have hD := depthO_kids o h
  have hul := hu.len
  have hkl := kidsO_len o
  refine LoopK.of (fun s w' => ∃ i : Nat, s.2.2.1 = i ∧ i ≤ (kidsO o).length ∧ s.1 = (sumN (((kidsO o).take i).map nodesO) : Int) ∧ s.2.1 = (maxN (((kidsO o).take i).map depthO) : Int) ∧ Fr none1 w w' ∧ IsOs w' u (kidsO o)) (fun s _ => (2 - s.2.2.1).toNat)
    ⟨0, rfl, Nat.zero_le _, rfl, rfl, f1.trans f2, hu⟩ ?_
  rintro _ ⟨a, b, i', _⟩ w3 ⟨i, hi, hil, ha, hb, f3, hu3⟩
  dsimp only at hi ha hb ⊢
  subst hi ha hb
  have hle : sumN (((kidsO o).take i).map nodesO) ≤ nodesO o := by
    rw [hN, List.map_take]
    have := sumN_take ((kidsO o).map nodesO) i
    omega
  refine ifB.dec (fun hlt => ?_) (fun hge => ?_)
  · have hi2 : i < (kidsO o).length := by omega
    obtain ⟨k, hk⟩ : ∃ k, (kidsO o)[i]? = some k := ⟨_, List.getElem?_eq_getElem hi2⟩
    have hkm := List.mem_of_getElem? hk
    have hkn : sumN (((kidsO o).take (i + 1)).map nodesO) ≤ nodesO o := by
      rw [hN, List.map_take]
      have := sumN_take ((kidsO o).map nodesO) (i + 1)
      omega
    rw [take_next _ _ _ hk, sumN_snoc] at hkn
    refine hu3.ld hk ?_
    refine CallK.of (ih k hkm (by omega) w3) ?_
    rintro _ w4 ⟨rfl, f4⟩
    refine ⟨((nodesO k : Int), (depthO k : Int), ()), rfl, ?_⟩
    dsimp only
    have hdk := depthO_le k
    refine ⟨⟨i + 1, by rw [wI (by omega) (by omega)]; omega, by omega, ?_, ?_, f3.trans f4, hu3.keep0 f4⟩, by rw [wI (by omega) (by omega)]; omega⟩
    · rw [take_next _ _ _ hk, sumN_snoc, wI (by omega) (by omega)]
      omega
    · rw [take_next _ _ _ hk, maxN_snoc]
      by_cases hm : maxN (((kidsO o).take i).map depthO) < depthO k
      · rw [if_pos (by omega)]; omega
      · rw [if_neg (by omega)]; omega
  · have : i = (kidsO o).length := by omega
    subst this
    rw [List.take_length]
    rw [List.take_length] at hle
    have hd := depthO_le o
    rw [hN]
    rw [hD] at hd ⊢
    rw [wI (by omega) (by omega), wI (by omega) (by omega)]
    exact ⟨by simp, f3⟩
termination_by SizeOf.sizeOf o
decreasing_by exact kidsO_lt hk

theorem oform_spec (o : Ob) (w : World) : Ret Tryz.prog 134 #[o.v] w fun r w' => r = .bool (formO o) ∧ Fr none1 w w' := by
  refine c134 o.v w _ ?_
  have ih : ∀ k ∈ kidsO o, ∀ w, Ret Tryz.prog 134 #[k.v] w fun r w' => r = .bool (formO k) ∧ Fr none1 w w' := fun k hk w => oform_spec k w
  refine CallK.of (leaf_spec o w) ?_
  rintro _ w1 ⟨rfl, f1⟩
  refine ⟨(_, _, ()), rfl, ifB.by (fun h => ?_) (fun h => ?_)⟩
  · rw [(leafO_none o h).2]; exact ⟨rfl, f1⟩
  rw [formO_kids o h]
  refine CallK.of (onone_spec o w1) ?_
  rintro _ w2 ⟨rfl, f2⟩
  refine ⟨_, rfl, ifB.not (ifB.by (fun hn => ?_) (fun hn => ?_))⟩
  · rw [hn]; exact ⟨rfl, f1.trans f2⟩
  rw [hn]
  refine CallK.of (okids_spec o w2) ?_
  rintro _ w3 ⟨u, rfl, hu, f3⟩
  refine ⟨u, rfl, ?_⟩
  have hul := hu.len
  have hkl := kidsO_len o
  -- is there one that is not?
  have hc : Ret Tryz.prog 165 #[.slice u.1 u.2.1 u.2.2, .func (.func 166) #[] #[]] w3 fun r w' => r = .bool ((kidsO o).any fun k => !formO k) ∧ Fr none1 w3 w' := by
    refine c165 u.1 u.2.1 u.2.2 _ w3 _ ?_
    have hx : Ret Tryz.prog 188 #[.slice u.1 u.2.1 u.2.2, .func (.func 166) #[] #[]] w3 fun r w' => (∃ i : Int, r = .int .i64 i ∧ decide (i ≥ 0) = (kidsO o).any fun k => !formO k) ∧ Fr none1 w3 w' := by
      refine c188 u.1 u.2.1 u.2.2 _ w3 _ ?_
      refine LoopK.of (fun s w' => ∃ i : Nat, s.1 = i ∧ i ≤ (kidsO o).length ∧ ((kidsO o).take i).any (fun k => !formO k) = false ∧ Fr none1 w3 w' ∧ IsOs w' u (kidsO o)) (fun s _ => (2 - s.1).toNat) ⟨0, rfl, Nat.zero_le _, rfl, Fr.refl _ _, hu⟩ ?_
      rintro _ ⟨i', _⟩ w4 ⟨i, hi, hil, hall, f4, hu4⟩
      dsimp only at hi ⊢
      subst hi
      refine ifB.dec (fun hlt => ?_) (fun hge => ?_)
      · have hi2 : i < (kidsO o).length := by omega
        obtain ⟨k, hk⟩ : ∃ k, (kidsO o)[i]? = some k := ⟨_, List.getElem?_eq_getElem hi2⟩
        refine hu4.ld hk ?_
        have hkm := List.mem_of_getElem? hk
        have hf1 : Ret Tryz.prog 166 #[k.v] w4 fun r w' => r = .bool (!formO k) ∧ Fr none1 w4 w' := by
          refine c166 k.v w4 _ ?_
          refine CallK.of (ih k hkm w4) ?_
          rintro _ w5 ⟨rfl, f5⟩
          exact ⟨_, rfl, rfl, f5⟩
        refine callV_of (by kernel_rfl) Tryz.func166 (by kernel_rfl) (hf1.mono ?_)
        rintro _ w5 ⟨rfl, f5⟩
        refine ⟨_, rfl, ifB.by (fun hb => ?_) (fun hb => ?_)⟩
        · refine ⟨⟨(i : Int), rfl, ?_⟩, f4.trans f5⟩
          rw [decide_eq_true (by omega), eq_comm, List.any_eq_true]
          exact ⟨k, hkm, hb⟩
        · refine ⟨⟨i + 1, by rw [wI (by omega) (by omega)]; omega, by omega, ?_, f4.trans f5, hu4.keep0 f5⟩, by rw [wI (by omega) (by omega)]; omega⟩
          rw [List.take_add_one, hk, List.any_append, hall]
          simpa using hb
      · refine ⟨⟨-1, rfl, ?_⟩, f4⟩
        rw [List.take_of_length_le (by omega)] at hall
        rw [hall]; rfl
    refine CallK.of hx ?_
    rintro _ w4 ⟨⟨i, rfl, hi⟩, f4⟩
    exact ⟨_, rfl, by rw [hi], f4⟩
  refine CallK.of hc ?_
  rintro _ w4 ⟨rfl, f4⟩
  exact ⟨_, rfl, by simp, ((f1.trans f2).trans f3).trans f4⟩
termination_by SizeOf.sizeOf o
decreasing_by exact kidsO_lt hk

theorem ocheck_spec (o : Ob) (hn : nodesO o ≤ 1000000) (w : World) : Ret Tryz.prog 73 #[o.v] w fun r w' => r = .int .i64 (checkO o) ∧ Fr none1 w w' := by
  refine c73 o.v w _ ?_
  refine CallK.of (oform_spec o w) ?_
  rintro _ w1 ⟨rfl, f1⟩
  unfold checkO
  refine ⟨_, rfl, ifB.not (ifB.by (fun h => ?_) (fun h => ?_))⟩
  case refine_2 => rw [if_pos h]; exact ⟨rfl, f1⟩
  rw [if_neg (by simp [h])]
  refine CallK.of (osize_spec o hn w1) ?_
  rintro _ w2 ⟨rfl, f2⟩
  refine ⟨((nodesO o : Int), (depthO o : Int), ()), rfl, ?_⟩
  dsimp only
  refine ifB.dec (fun h => ?_) (fun h => ?_)
  · rw [if_pos (by omega)]; exact ⟨rfl, f1.trans f2⟩
  rw [if_neg (by omega)]
  refine ifB.dec (fun h => ?_) (fun h => ?_)
  · rw [if_pos (by omega)]; exact ⟨rfl, f1.trans f2⟩
  rw [if_neg (by omega)]
  exact ⟨rfl, f1.trans f2⟩

end Go.Proofs.YtlhbfdakceipkaaGreatDoor

/-! ### CTermG -/
namespace Go.Proofs.YtlhbfdakceipkaaGreatDoor
open Vc
set_option maxRecDepth 100000
set_option linter.unusedVariables false
/-- handfast/term.Kids -/
def C79 (p0 : Value) (w : World) (K : Value → World → Prop) : Prop :=
  TaK p0 89 (.agg [.raw]) (fun (x1 : Value × Unit) => NewK (.cells #[.nilIface] 89) w (fun g2 w3 => StsK (⟨g2, 0, none⟩ : Addr) [x1.1] w3 (fun w4 => LdK .raw ((⟨g2, 0, none⟩ : Addr).add 0) w4 (fun (x5 : Value) => RunK Tryz.prog (Instr.buildSlice 167 1 #[(0, x5)]) w4 (.v (.one .slc)) (fun (x6 : Option Addr × Nat × Nat) w7 => K (.slice x6.1 x6.2.1 x6.2.2) w7)))))
  (NewK (.cells #[.nilIface] 89) w (fun g8 w9 => StsK (⟨g8, 0, none⟩ : Addr) [.nilIface] w9 (fun w10 => TaK p0 91 (.agg [.raw, .raw]) (fun (x11 : Value × Value × Unit) => NewK (.cells #[.nilIface, .nilIface] 91) w10 (fun g12 w13 => StsK (⟨g12, 0, none⟩ : Addr) [x11.1, x11.2.1] w13 (fun w14 => LdK .raw ((⟨g12, 0, none⟩ : Addr).add 0) w14 (fun (x15 : Value) => LdK .raw ((⟨g12, 0, none⟩ : Addr).add 1) w14 (fun (x16 : Value) => RunK Tryz.prog (Instr.buildSlice 167 2 #[(0, x15), (1, x16)]) w14 (.v (.one .slc)) (fun (x17 : Option Addr × Nat × Nat) w18 => K (.slice x17.1 x17.2.1 x17.2.2) w18))))))
  (NewK (.cells #[.nilIface, .nilIface] 91) w10 (fun g19 w20 => StsK (⟨g19, 0, none⟩ : Addr) [.nilIface, .nilIface] w20 (fun w21 => TaK p0 93 (.agg [.str, .raw, .raw]) (fun (x22 : ByteArray × Value × Value × Unit) => NewK (.cells #[.string (⟨#[]⟩ : ByteArray), .nilIface, .nilIface] 93) w21 (fun g23 w24 => StsK (⟨g23, 0, none⟩ : Addr) [.string x22.1, x22.2.1, x22.2.2.1] w24 (fun w25 => LdK .raw ((⟨g23, 0, none⟩ : Addr).add 1) w25 (fun (x26 : Value) => LdK .raw ((⟨g23, 0, none⟩ : Addr).add 2) w25 (fun (x27 : Value) => RunK Tryz.prog (Instr.buildSlice 167 2 #[(0, x26), (1, x27)]) w25 (.v (.one .slc)) (fun (x28 : Option Addr × Nat × Nat) w29 => K (.slice x28.1 x28.2.1 x28.2.2) w29))))))
  (NewK (.cells #[.string (⟨#[]⟩ : ByteArray), .nilIface, .nilIface] 93) w21 (fun g30 w31 => StsK (⟨g30, 0, none⟩ : Addr) [.string (⟨#[]⟩ : ByteArray), .nilIface, .nilIface] w31 (fun w32 => TaK p0 97 (.agg [.raw, .raw]) (fun (x33 : Value × Value × Unit) => NewK (.cells #[.nilIface, .nilIface] 97) w32 (fun g34 w35 => StsK (⟨g34, 0, none⟩ : Addr) [x33.1, x33.2.1] w35 (fun w36 => LdK .raw ((⟨g34, 0, none⟩ : Addr).add 1) w36 (fun (x37 : Value) => RunK Tryz.prog (Instr.buildSlice 167 1 #[(0, x37)]) w36 (.v (.one .slc)) (fun (x38 : Option Addr × Nat × Nat) w39 => K (.slice x38.1 x38.2.1 x38.2.2) w39)))))
  (NewK (.cells #[.nilIface, .nilIface] 97) w32 (fun g40 w41 => StsK (⟨g40, 0, none⟩ : Addr) [.nilIface, .nilIface] w41 (fun w42 => TaK p0 95 (.agg [.int .i64, .raw]) (fun (x43 : Int × Value × Unit) => NewK (.cells #[.int .i64 0, .nilIface] 95) w42 (fun g44 w45 => StsK (⟨g44, 0, none⟩ : Addr) [.int .i64 x43.1, x43.2.1] w45 (fun w46 => LdK .raw ((⟨g44, 0, none⟩ : Addr).add 1) w46 (fun (x47 : Value) => RunK Tryz.prog (Instr.buildSlice 167 1 #[(0, x47)]) w46 (.v (.one .slc)) (fun (x48 : Option Addr × Nat × Nat) w49 => K (.slice x48.1 x48.2.1 x48.2.2) w49)))))
  (NewK (.cells #[.int .i64 0, .nilIface] 95) w42 (fun g50 w51 => StsK (⟨g50, 0, none⟩ : Addr) [.int .i64 0, .nilIface] w51 (fun w52 => TaK p0 99 (.agg [.raw, .raw, .raw]) (fun (x53 : Value × Value × Value × Unit) => NewK (.cells #[.nilIface, .nilIface, .nilIface] 99) w52 (fun g54 w55 => StsK (⟨g54, 0, none⟩ : Addr) [x53.1, x53.2.1, x53.2.2.1] w55 (fun w56 => LdK .raw ((⟨g54, 0, none⟩ : Addr).add 1) w56 (fun (x57 : Value) => LdK .raw ((⟨g54, 0, none⟩ : Addr).add 2) w56 (fun (x58 : Value) => RunK Tryz.prog (Instr.buildSlice 167 2 #[(0, x57), (1, x58)]) w56 (.v (.one .slc)) (fun (x59 : Option Addr × Nat × Nat) w60 => K (.slice x59.1 x59.2.1 x59.2.2) w60))))))
  (NewK (.cells #[.nilIface, .nilIface, .nilIface] 99) w52 (fun g61 w62 => StsK (⟨g61, 0, none⟩ : Addr) [.nilIface, .nilIface, .nilIface] w62 (fun w63 => K (.slice none 0 0) w63))))))))))))))))))
def pl79 : Plan := .auto
theorem e79 (p0 : Value) (w : World) (K : Value → World → Prop) : vcFunc Tryz.prog Tryz.f79 pl79 [p0] w K = C79 p0 w K := by kernel_rfl
theorem c79 (p0 : Value) (w : World) (K : Value → World → Prop) (h : C79 p0 w K) : Ret Tryz.prog 79 #[p0] w K := by
  rw [← e79] at h
  exact vcFunc_sound (by kernel_rfl) Tryz.func79 h

/-- handfast/term.kind -/
def C75 (p0 : Value) (w : World) (K : Value → World → Prop) : Prop :=
  TaK p0 76 (.agg []) (fun (x1 : Unit) => K (.int .i64 1) w)
  (TaK p0 74 (.agg [.str]) (fun (x2 : ByteArray × Unit) => K (.int .i64 2) w)
  (TaK p0 89 (.agg [.raw]) (fun (x3 : Value × Unit) => K (.int .i64 3) w)
  (TaK p0 91 (.agg [.raw, .raw]) (fun (x4 : Value × Value × Unit) => K (.int .i64 4) w)
  (TaK p0 93 (.agg [.str, .raw, .raw]) (fun (x5 : ByteArray × Value × Value × Unit) => K (.int .i64 5) w)
  (TaK p0 97 (.agg [.raw, .raw]) (fun (x6 : Value × Value × Unit) => K (.int .i64 6) w)
  (TaK p0 95 (.agg [.int .i64, .raw]) (fun (x7 : Int × Value × Unit) => K (.int .i64 7) w)
  (TaK p0 99 (.agg [.raw, .raw, .raw]) (fun (x8 : Value × Value × Value × Unit) => K (.int .i64 8) w)
  (K (.int .i64 0) w))))))))
def pl75 : Plan := .auto
theorem e75 (p0 : Value) (w : World) (K : Value → World → Prop) : vcFunc Tryz.prog Tryz.f75 pl75 [p0] w K = C75 p0 w K := by kernel_rfl
theorem c75 (p0 : Value) (w : World) (K : Value → World → Prop) (h : C75 p0 w K) : Ret Tryz.prog 75 #[p0] w K := by
  rw [← e75] at h
  exact vcFunc_sound (by kernel_rfl) Tryz.func75 h

/-- handfast/term.own -/
def C76 (p0 : Value) (w : World) (K : Value → World → Prop) : Prop :=
  TaK p0 74 (.agg [.str]) (fun (x1 : ByteArray × Unit) => NewK (.cells #[.string (⟨#[]⟩ : ByteArray)] 74) w (fun g2 w3 => StsK (⟨g2, 0, none⟩ : Addr) [.string x1.1] w3 (fun w4 => LdK .str ((⟨g2, 0, none⟩ : Addr).add 0) w4 (fun (x5 : ByteArray) => K (.tuple #[.string x5, .int .i64 0]) w4))))
  (NewK (.cells #[.string (⟨#[]⟩ : ByteArray)] 74) w (fun g6 w7 => StsK (⟨g6, 0, none⟩ : Addr) [.string (⟨#[]⟩ : ByteArray)] w7 (fun w8 => TaK p0 93 (.agg [.str, .raw, .raw]) (fun (x9 : ByteArray × Value × Value × Unit) => NewK (.cells #[.string (⟨#[]⟩ : ByteArray), .nilIface, .nilIface] 93) w8 (fun g10 w11 => StsK (⟨g10, 0, none⟩ : Addr) [.string x9.1, x9.2.1, x9.2.2.1] w11 (fun w12 => LdK .str ((⟨g10, 0, none⟩ : Addr).add 0) w12 (fun (x13 : ByteArray) => K (.tuple #[.string x13, .int .i64 0]) w12))))
  (NewK (.cells #[.string (⟨#[]⟩ : ByteArray), .nilIface, .nilIface] 93) w8 (fun g14 w15 => StsK (⟨g14, 0, none⟩ : Addr) [.string (⟨#[]⟩ : ByteArray), .nilIface, .nilIface] w15 (fun w16 => TaK p0 95 (.agg [.int .i64, .raw]) (fun (x17 : Int × Value × Unit) => NewK (.cells #[.int .i64 0, .nilIface] 95) w16 (fun g18 w19 => StsK (⟨g18, 0, none⟩ : Addr) [.int .i64 x17.1, x17.2.1] w19 (fun w20 => DrewK w20 (fun w21 => LdK (.int .i64) ((⟨g18, 0, none⟩ : Addr).add 0) w21 (fun (x22 : Int) => K (.tuple #[.string (⟨#[]⟩ : ByteArray), .int .i64 x22]) w21)))))
  (NewK (.cells #[.int .i64 0, .nilIface] 95) w16 (fun g23 w24 => StsK (⟨g23, 0, none⟩ : Addr) [.int .i64 0, .nilIface] w24 (fun w25 => K (.tuple #[.string (⟨#[]⟩ : ByteArray), .int .i64 0]) w25)))))))))
def pl76 : Plan := (.seq .auto (.seq .auto (.seq .auto (.seq (.seq .auto (.seq .auto (.cond (.seq .still .auto) .auto))) .auto))))
theorem e76 (p0 : Value) (w : World) (K : Value → World → Prop) : vcFunc Tryz.prog Tryz.f76 pl76 [p0] w K = C76 p0 w K := by kernel_rfl
theorem c76 (p0 : Value) (w : World) (K : Value → World → Prop) (h : C76 p0 w K) : Ret Tryz.prog 76 #[p0] w K := by
  rw [← e76] at h
  exact vcFunc_sound (by kernel_rfl) Tryz.func76 h

/-- handfast/term.number -/
def C77 (p0 : Value) (w : World) (K : Value → World → Prop) : Prop :=
  TaK p0 97 (.agg [.raw, .raw]) (fun (x1 : Value × Value × Unit) => NewK (.cells #[.nilIface, .nilIface] 97) w (fun g2 w3 => StsK (⟨g2, 0, none⟩ : Addr) [x1.1, x1.2.1] w3 (fun w4 => LdK .raw ((⟨g2, 0, none⟩ : Addr).add 0) w4 (fun (x5 : Value) => K (.tuple #[x5, .bool true]) w4))))
  (NewK (.cells #[.nilIface, .nilIface] 97) w (fun g6 w7 => StsK (⟨g6, 0, none⟩ : Addr) [.nilIface, .nilIface] w7 (fun w8 => TaK p0 99 (.agg [.raw, .raw, .raw]) (fun (x9 : Value × Value × Value × Unit) => NewK (.cells #[.nilIface, .nilIface, .nilIface] 99) w8 (fun g10 w11 => StsK (⟨g10, 0, none⟩ : Addr) [x9.1, x9.2.1, x9.2.2.1] w11 (fun w12 => LdK .raw ((⟨g10, 0, none⟩ : Addr).add 0) w12 (fun (x13 : Value) => K (.tuple #[x13, .bool true]) w12))))
  (NewK (.cells #[.nilIface, .nilIface, .nilIface] 99) w8 (fun g14 w15 => StsK (⟨g14, 0, none⟩ : Addr) [.nilIface, .nilIface, .nilIface] w15 (fun w16 => K (.tuple #[.nilIface, .bool false]) w16))))))
def pl77 : Plan := .auto
theorem e77 (p0 : Value) (w : World) (K : Value → World → Prop) : vcFunc Tryz.prog Tryz.f77 pl77 [p0] w K = C77 p0 w K := by kernel_rfl
theorem c77 (p0 : Value) (w : World) (K : Value → World → Prop) (h : C77 p0 w K) : Ret Tryz.prog 77 #[p0] w K := by
  rw [← e77] at h
  exact vcFunc_sound (by kernel_rfl) Tryz.func77 h

/-- handfast/term.Size -/
def C117 (p0 : Value) (w : World) (K : Value → World → Prop) : Prop :=
  CallK Tryz.prog 75 #[p0] w (.v (.one (.int .i64))) (fun (x1 : Int) w2 => ifB (x1 == 0)
  (K (.tuple #[.int .i64 0, .int .i64 0]) w2)
  (JoinK (Int × Int × Unit) (fun J3 => CallK Tryz.prog 77 #[p0] w2 (.tup [.one .raw, .one .bool]) (fun (x6 : Value × Bool × Unit) w7 => ifB x6.2.1
  (CallK Tryz.prog 135 #[x6.1] w7 (.tup [.one (.int .i64), .one (.int .i64)]) (fun (x8 : Int × Int × Unit) w9 => J3 (x8.1, x8.2.1, ()) w9))
  (J3 (0, 0, ()) w7)))
  (fun _ s4 w5 => CallK Tryz.prog 79 #[p0] w5 (.v (.one .slc)) (fun (x10 : Option Addr × Nat × Nat) w11 => LoopK (Int × Int × Int × Unit) (fun _ s12 w13 next14 => ifB (decide (s12.2.2.1 < (x10.2.1 : Int)))
  (IdxK x10.1 x10.2.1 s12.2.2.1 1 (fun a15 => LdK .raw a15 w13 (fun (x16 : Value) => CallK Tryz.prog 117 #[x16] w13 (.tup [.one (.int .i64), .one (.int .i64)]) (fun (x17 : Int × Int × Unit) w18 => next14 (IntKind.i64.wrap (s12.1 + x17.1), (if x17.2.1 > s12.2.1 then x17.2.1 else s12.2.1), IntKind.i64.wrap (s12.2.2.1 + 1), ()) w18))))
  (K (.tuple #[.int .i64 (IntKind.i64.wrap (s12.1 + 1)), .int .i64 (IntKind.i64.wrap (s12.2.1 + 1))]) w13))
  (s4.1, s4.2.1, 0, ()) w11))))
def pl117 : Plan := (.seq .auto (.seq .auto (.join [(2, .one (.int .i64)), (3, .one (.int .i64))] .auto (.seq (.seq .auto (.block (.loop [(2, .one (.int .i64)), (3, .one (.int .i64)), (27, .one (.int .i64))] .auto))) .auto))))
theorem e117 (p0 : Value) (w : World) (K : Value → World → Prop) : vcFunc Tryz.prog Tryz.f117 pl117 [p0] w K = C117 p0 w K := by kernel_rfl
theorem c117 (p0 : Value) (w : World) (K : Value → World → Prop) (h : C117 p0 w K) : Ret Tryz.prog 117 #[p0] w K := by
  rw [← e117] at h
  exact vcFunc_sound (by kernel_rfl) Tryz.func117 h

/-- handfast/term.form -/
def C116 (p0 : Value) (w : World) (K : Value → World → Prop) : Prop :=
  CallK Tryz.prog 76 #[p0] w (.tup [.one .str, .one (.int .i64)]) (fun (x1 : ByteArray × Int × Unit) w2 => JoinK (Bool × Unit) (fun J3 => CallK Tryz.prog 75 #[p0] w2 (.v (.one (.int .i64))) (fun (x6 : Int) w7 => CallK Tryz.prog 75 #[.iface 74 (.agg #[.string (⟨#[]⟩ : ByteArray)])] w7 (.v (.one (.int .i64))) (fun (x8 : Int) w9 => ifB (x6 == x8)
  (J3 (true, ()) w9)
  (CallK Tryz.prog 75 #[p0] w9 (.v (.one (.int .i64))) (fun (x10 : Int) w11 => CallK Tryz.prog 75 #[.iface 93 (.agg #[.string (⟨#[]⟩ : ByteArray), .nilIface, .nilIface])] w11 (.v (.one (.int .i64))) (fun (x12 : Int) w13 => J3 ((x10 == x12), ()) w13))))))
  (fun _ s4 w5 => JoinK (Bool × Unit) (fun J14 => CallK Tryz.prog 75 #[p0] w5 (.v (.one (.int .i64))) (fun (x17 : Int) w18 => ifB (x17 == 0)
  (J14 (true, ()) w18)
  (ifB s4.1
  (CallK Tryz.prog 145 #[.string x1.1] w18 (.v (.one .bool)) (fun (x19 : Bool) w20 => ifB (!x19)
  (J14 (true, ()) w20)
  (ifB (decide (x1.2.1 < 0))
  (J14 (true, ()) w20)
  (J14 (decide (x1.2.1 > 10000), ()) w20))))
  (ifB (decide (x1.2.1 < 0))
  (J14 (true, ()) w18)
  (J14 (decide (x1.2.1 > 10000), ()) w18)))))
  (fun _ s15 w16 => ifB s15.1
  (K (.bool false) w16)
  (CallK Tryz.prog 77 #[p0] w16 (.tup [.one .raw, .one .bool]) (fun (x21 : Value × Bool × Unit) w22 => ifB x21.2.1
  (CallK Tryz.prog 73 #[x21.1] w22 (.v (.one (.int .i64))) (fun (x23 : Int) w24 => ifB (x23 == 2)
  (K (.bool false) w24)
  (CallK Tryz.prog 79 #[p0] w24 (.v (.one .slc)) (fun (x25 : Option Addr × Nat × Nat) w26 => CallK Tryz.prog 156 #[.slice x25.1 x25.2.1 x25.2.2, .func (.func 157) #[] #[]] w26 (.v (.one .bool)) (fun (x27 : Bool) w28 => K (.bool (!x27)) w28)))))
  (CallK Tryz.prog 79 #[p0] w22 (.v (.one .slc)) (fun (x29 : Option Addr × Nat × Nat) w30 => CallK Tryz.prog 156 #[.slice x29.1 x29.2.1 x29.2.2, .func (.func 157) #[] #[]] w30 (.v (.one .bool)) (fun (x31 : Bool) w32 => K (.bool (!x31)) w32))))))))
def pl116 : Plan := (.seq .auto (.seq .auto (.join [(5, .one .bool)] .auto (.seq (.join [(45, .one .bool)] .auto .auto) .auto))))
theorem e116 (p0 : Value) (w : World) (K : Value → World → Prop) : vcFunc Tryz.prog Tryz.f116 pl116 [p0] w K = C116 p0 w K := by kernel_rfl
theorem c116 (p0 : Value) (w : World) (K : Value → World → Prop) (h : C116 p0 w K) : Ret Tryz.prog 116 #[p0] w K := by
  rw [← e116] at h
  exact vcFunc_sound (by kernel_rfl) Tryz.func116 h

/-- handfast/term.form$1 -/
def C157 (p0 : Value) (w : World) (K : Value → World → Prop) : Prop :=
  CallK Tryz.prog 116 #[p0] w (.v (.one .bool)) (fun (x1 : Bool) w2 => K (.bool (!x1)) w2)
def pl157 : Plan := .auto
theorem e157 (p0 : Value) (w : World) (K : Value → World → Prop) : vcFunc Tryz.prog Tryz.f157 pl157 [p0] w K = C157 p0 w K := by kernel_rfl
theorem c157 (p0 : Value) (w : World) (K : Value → World → Prop) (h : C157 p0 w K) : Ret Tryz.prog 157 #[p0] w K := by
  rw [← e157] at h
  exact vcFunc_sound (by kernel_rfl) Tryz.func157 h

/-- handfast/term.Labels -/
def C118 (p0 : Value) (w : World) (K : Value → World → Prop) : Prop :=
  JoinK ((Option Addr × Nat × Nat) × Unit) (fun J1 => TaK p0 93 (.agg [.str, .raw, .raw]) (fun (x4 : ByteArray × Value × Value × Unit) => NewK (.cells #[.string (⟨#[]⟩ : ByteArray), .nilIface, .nilIface] 93) w (fun g5 w6 => StsK (⟨g5, 0, none⟩ : Addr) [.string x4.1, x4.2.1, x4.2.2.1] w6 (fun w7 => LdK .str ((⟨g5, 0, none⟩ : Addr).add 0) w7 (fun (x8 : ByteArray) => RunK Tryz.prog (Instr.buildSlice 23 1 #[(0, .string x8)]) w7 (.v (.one .slc)) (fun (x9 : Option Addr × Nat × Nat) w10 => RunK Tryz.prog (Builtin.append_ #[23, 23] 23 #[.slice none 0 0, .slice x9.1 x9.2.1 x9.2.2]) w10 (.v (.one .slc)) (fun (x11 : Option Addr × Nat × Nat) w12 => J1 ((x11.1, x11.2.1, x11.2.2), ()) w12))))))
  (NewK (.cells #[.string (⟨#[]⟩ : ByteArray), .nilIface, .nilIface] 93) w (fun g13 w14 => StsK (⟨g13, 0, none⟩ : Addr) [.string (⟨#[]⟩ : ByteArray), .nilIface, .nilIface] w14 (fun w15 => J1 ((none, 0, 0), ()) w15))))
  (fun _ s2 w3 => CallK Tryz.prog 79 #[p0] w3 (.v (.one .slc)) (fun (x16 : Option Addr × Nat × Nat) w17 => LoopK ((Option Addr × Nat × Nat) × Int × Unit) (fun _ s18 w19 next20 => ifB (decide (s18.2.1 < (x16.2.1 : Int)))
  (IdxK x16.1 x16.2.1 s18.2.1 1 (fun a21 => LdK .raw a21 w19 (fun (x22 : Value) => CallK Tryz.prog 118 #[x22] w19 (.v (.one .slc)) (fun (x23 : Option Addr × Nat × Nat) w24 => RunK Tryz.prog (Builtin.append_ #[23, 23] 23 #[.slice s18.1.1 s18.1.2.1 s18.1.2.2, .slice x23.1 x23.2.1 x23.2.2]) w24 (.v (.one .slc)) (fun (x25 : Option Addr × Nat × Nat) w26 => next20 ((x25.1, x25.2.1, x25.2.2), IntKind.i64.wrap (s18.2.1 + 1), ()) w26)))))
  (K (.slice s18.1.1 s18.1.2.1 s18.1.2.2) w19))
  ((s2.1.1, s2.1.2.1, s2.1.2.2), 0, ()) w17))
def pl118 : Plan := (.seq .auto (.seq .auto (.join [(3, .one .slc)] .auto (.seq (.seq .auto (.block (.loop [(3, .one .slc), (22, .one (.int .i64))] .auto))) .auto))))
theorem e118 (p0 : Value) (w : World) (K : Value → World → Prop) : vcFunc Tryz.prog Tryz.f118 pl118 [p0] w K = C118 p0 w K := by kernel_rfl
theorem c118 (p0 : Value) (w : World) (K : Value → World → Prop) (h : C118 p0 w K) : Ret Tryz.prog 118 #[p0] w K := by
  rw [← e118] at h
  exact vcFunc_sound (by kernel_rfl) Tryz.func118 h

/-- handfast/term.Check -/
def C66 (p0 : Value) (w : World) (K : Value → World → Prop) : Prop :=
  CallK Tryz.prog 116 #[p0] w (.v (.one .bool)) (fun (x1 : Bool) w2 => ifB (!x1)
  (K (.int .i64 2) w2)
  (CallK Tryz.prog 117 #[p0] w2 (.tup [.one (.int .i64), .one (.int .i64)]) (fun (x3 : Int × Int × Unit) w4 => ifB (decide (x3.1 > 60))
  (K (.int .i64 5) w4)
  (ifB (decide (x3.2.1 > 12))
  (K (.int .i64 5) w4)
  (CallK Tryz.prog 118 #[p0] w4 (.v (.one .slc)) (fun (x5 : Option Addr × Nat × Nat) w6 => LoopK (Int × Unit) (fun _ s7 w8 next9 => ifB (decide (s7.1 < (x5.2.1 : Int)))
  (IdxK x5.1 x5.2.1 s7.1 1 (fun a10 => LdK .str a10 w8 (fun (x11 : ByteArray) => SubK x5.1 x5.2.2 0 s7.1 x5.2.2 1 (fun a12 l13 c14 => CallK Tryz.prog 119 #[.slice a12 l13 c14, .string x11] w8 (.v (.one .bool)) (fun (x15 : Bool) w16 => ifB x15
  (K (.int .i64 4) w16)
  (next9 (IntKind.i64.wrap (s7.1 + 1), ()) w16))))))
  (K (.int .i64 0) w8))
  (0, ()) w6))))))
def pl66 : Plan := (.seq .auto (.seq .auto (.seq .auto (.seq .auto (.seq (.seq .auto (.block (.loop [(26, .one (.int .i64))] .auto))) .auto)))))
theorem e66 (p0 : Value) (w : World) (K : Value → World → Prop) : vcFunc Tryz.prog Tryz.f66 pl66 [p0] w K = C66 p0 w K := by kernel_rfl
theorem c66 (p0 : Value) (w : World) (K : Value → World → Prop) (h : C66 p0 w K) : Ret Tryz.prog 66 #[p0] w K := by
  rw [← e66] at h
  exact vcFunc_sound (by kernel_rfl) Tryz.func66 h

/-- slices.ContainsFunc[[]handfast/api.Term,handfast/api.Term] -/
def C156 (p0 : Option Addr) (p0l p0c : Nat) (p1 : Value) (w : World) (K : Value → World → Prop) : Prop :=
  CallK Tryz.prog 177 #[.slice p0 p0l p0c, p1] w (.v (.one (.int .i64))) (fun (x1 : Int) w2 => K (.bool (decide (x1 ≥ 0))) w2)
def pl156 : Plan := .auto
theorem e156 (p0 : Option Addr) (p0l p0c : Nat) (p1 : Value) (w : World) (K : Value → World → Prop) : vcFunc Tryz.prog Tryz.f156 pl156 [.slice p0 p0l p0c, p1] w K = C156 p0 p0l p0c p1 w K := by kernel_rfl
theorem c156 (p0 : Option Addr) (p0l p0c : Nat) (p1 : Value) (w : World) (K : Value → World → Prop) (h : C156 p0 p0l p0c p1 w K) : Ret Tryz.prog 156 #[.slice p0 p0l p0c, p1] w K := by
  rw [← e156] at h
  exact vcFunc_sound (by kernel_rfl) Tryz.func156 h

/-- slices.IndexFunc[[]handfast/api.Term,handfast/api.Term] -/
def C177 (p0 : Option Addr) (p0l p0c : Nat) (p1 : Value) (w : World) (K : Value → World → Prop) : Prop :=
  LoopK (Int × Unit) (fun _ s1 w2 next3 => ifB (decide (s1.1 < (p0l : Int)))
  (IdxK p0 p0l s1.1 1 (fun a4 => LdK .raw a4 w2 (fun (x5 : Value) => callV Tryz.prog p1 [x5] (.v (.one .bool)) w2 (fun (x6 : Bool) w7 => ifB x6
  (K (.int .i64 s1.1) w7)
  (next3 (IntKind.i64.wrap (s1.1 + 1), ()) w7)))))
  (K (.int .i64 (-1)) w2))
  (0, ()) w
def pl177 : Plan := (.seq .auto (.seq (.seq .auto (.block (.loop [(8, .one (.int .i64))] .auto))) .auto))
theorem e177 (p0 : Option Addr) (p0l p0c : Nat) (p1 : Value) (w : World) (K : Value → World → Prop) : vcFunc Tryz.prog Tryz.f177 pl177 [.slice p0 p0l p0c, p1] w K = C177 p0 p0l p0c p1 w K := by kernel_rfl
theorem c177 (p0 : Option Addr) (p0l p0c : Nat) (p1 : Value) (w : World) (K : Value → World → Prop) (h : C177 p0 p0l p0c p1 w K) : Ret Tryz.prog 177 #[.slice p0 p0l p0c, p1] w K := by
  rw [← e177] at h
  exact vcFunc_sound (by kernel_rfl) Tryz.func177 h

/-- slices.Contains[[]string,string] -/
def C119 (p0 : Option Addr) (p0l p0c : Nat) (p1 : ByteArray) (w : World) (K : Value → World → Prop) : Prop :=
  CallK Tryz.prog 158 #[.slice p0 p0l p0c, .string p1] w (.v (.one (.int .i64))) (fun (x1 : Int) w2 => K (.bool (decide (x1 ≥ 0))) w2)
def pl119 : Plan := .auto
theorem e119 (p0 : Option Addr) (p0l p0c : Nat) (p1 : ByteArray) (w : World) (K : Value → World → Prop) : vcFunc Tryz.prog Tryz.f119 pl119 [.slice p0 p0l p0c, .string p1] w K = C119 p0 p0l p0c p1 w K := by kernel_rfl
theorem c119 (p0 : Option Addr) (p0l p0c : Nat) (p1 : ByteArray) (w : World) (K : Value → World → Prop) (h : C119 p0 p0l p0c p1 w K) : Ret Tryz.prog 119 #[.slice p0 p0l p0c, .string p1] w K := by
  rw [← e119] at h
  exact vcFunc_sound (by kernel_rfl) Tryz.func119 h

/-- slices.Index[[]string,string] -/
def C158 (p0 : Option Addr) (p0l p0c : Nat) (p1 : ByteArray) (w : World) (K : Value → World → Prop) : Prop :=
  LoopK (Int × Unit) (fun _ s1 w2 next3 => ifB (decide (s1.1 < (p0l : Int)))
  (IdxK p0 p0l s1.1 1 (fun a4 => LdK .str a4 w2 (fun (x5 : ByteArray) => ifB (p1.toList == x5.toList)
  (K (.int .i64 s1.1) w2)
  (next3 (IntKind.i64.wrap (s1.1 + 1), ()) w2))))
  (K (.int .i64 (-1)) w2))
  (0, ()) w
def pl158 : Plan := (.seq .auto (.seq (.seq .auto (.block (.loop [(8, .one (.int .i64))] .auto))) .auto))
theorem e158 (p0 : Option Addr) (p0l p0c : Nat) (p1 : ByteArray) (w : World) (K : Value → World → Prop) : vcFunc Tryz.prog Tryz.f158 pl158 [.slice p0 p0l p0c, .string p1] w K = C158 p0 p0l p0c p1 w K := by kernel_rfl
theorem c158 (p0 : Option Addr) (p0l p0c : Nat) (p1 : ByteArray) (w : World) (K : Value → World → Prop) (h : C158 p0 p0l p0c p1 w K) : Ret Tryz.prog 158 #[.slice p0 p0l p0c, .string p1] w K := by
  rw [← e158] at h
  exact vcFunc_sound (by kernel_rfl) Tryz.func158 h

end Go.Proofs.YtlhbfdakceipkaaGreatDoor

/-! ### TermSpec -/
set_option linter.unusedVariables false
set_option maxRecDepth 100000
namespace Go.Proofs.YtlhbfdakceipkaaGreatDoor
open Vc

/-! ### In plain Lean -/
def kindT : Tm → Int
  | .none => 0
  | .zero => 1
  | .one _ => 2
  | .give _ => 3
  | .and _ _ => 4
  | .or _ _ _ => 5
  | .scale _ _ => 6
  | .when _ _ => 7
  | .cond _ _ _ => 8
def ownT : Tm → List UInt8 × Int
  | .one s => (s, 0)
  | .or s _ _ => (s, 0)
  | .when d _ => ([], d)
  | _ => ([], 0)
def numberT : Tm → Ob × Bool
  | .scale o _ => (o, true)
  | .cond o _ _ => (o, true)
  | _ => (.none, false)
def formT : Tm → Bool
  | .none => false
  | .zero => true
  | .one s => nameL s
  | .give t => formT t
  | .and l r => formT l && formT r
  | .or s l r => nameL s && (formT l && formT r)
  | .scale o t => formO o && formT t
  | .when d t => decide (0 ≤ d) && decide (d ≤ 10000) && formT t
  | .cond o l r => formO o && (formT l && formT r)
def nodesT : Tm → Nat
  | .none => 0
  | .zero => 1
  | .one _ => 1
  | .give t => nodesT t + 1
  | .and l r => nodesT l + nodesT r + 1
  | .or _ l r => nodesT l + nodesT r + 1
  | .scale o t => nodesO o + nodesT t + 1
  | .when _ t => nodesT t + 1
  | .cond o l r => nodesO o + nodesT l + nodesT r + 1
def depthT : Tm → Nat
  | .none => 0
  | .zero => 1
  | .one _ => 1
  | .give t => depthT t + 1
  | .and l r => max (depthT l) (depthT r) + 1
  | .or _ l r => max (depthT l) (depthT r) + 1
  | .scale o t => max (depthO o) (depthT t) + 1
  | .when _ t => depthT t + 1
  | .cond o l r => max (max (depthO o) (depthT l)) (depthT r) + 1
def labelsT : Tm → List (List UInt8)
  | .none => []
  | .zero => []
  | .one _ => []
  | .give t => labelsT t
  | .and l r => labelsT l ++ labelsT r
  | .or s l r => s :: (labelsT l ++ labelsT r)
  | .scale _ t => labelsT t
  | .when _ t => labelsT t
  | .cond _ l r => labelsT l ++ labelsT r
def checkT (t : Tm) : Int := if formT t = false then 2 else if 60 < nodesT t then 5 else if 12 < depthT t then 5 else if (labelsT t).Nodup then 0 else 4

/-- What a size begins with. -/
def baseN (t : Tm) : Nat := nodesO (numberT t).1
def baseD (t : Tm) : Nat := depthO (numberT t).1
def ownL : Tm → List (List UInt8)
  | .or s _ _ => [s]
  | _ => []
theorem kindT_none (t : Tm) : (kindT t = 0) ↔ t = .none := by cases t <;> simp [kindT]
theorem nodesT_kids (t : Tm) (h : t ≠ .none) : nodesT t = baseN t + sumN ((kidsT t).map nodesT) + 1 := by cases t <;> simp [nodesT, kidsT, sumN, baseN, numberT, nodesO] at h ⊢ <;> omega
theorem depthT_kids (t : Tm) (h : t ≠ .none) : depthT t = ((kidsT t).map depthT).foldl max (baseD t) + 1 := by
  cases t <;> simp only [depthT, kidsT, baseD, numberT, depthO, List.map_cons, List.map_nil, List.foldl_cons, List.foldl_nil] at h ⊢
  all_goals first | omega | exact absurd rfl h
theorem labelsT_kids (t : Tm) : labelsT t = ownL t ++ (kidsT t).flatMap labelsT := by cases t <;> simp [labelsT, kidsT, ownL]
theorem depthT_le (t : Tm) : depthT t ≤ nodesT t := by
  induction t with
  | none => exact Nat.le_refl _
  | zero => exact Nat.le_refl _
  | one => exact Nat.le_refl _
  | give t ih => unfold depthT nodesT; omega
  | when d t ih => unfold depthT nodesT; omega
  | and l r a b => unfold depthT nodesT; omega
  | or s l r a b => unfold depthT nodesT; omega
  | scale o t ih => unfold depthT nodesT; have := depthO_le o; omega
  | cond o l r a b => unfold depthT nodesT; have := depthO_le o; omega
theorem labelsT_len (t : Tm) : (labelsT t).length ≤ nodesT t := by
  induction t with
  | none => exact Nat.zero_le _
  | zero => exact Nat.zero_le _
  | one => exact Nat.zero_le _
  | give t ih => unfold labelsT nodesT; omega
  | when d t ih => unfold labelsT nodesT; omega
  | and l r a b => unfold labelsT nodesT; rw [List.length_append]; omega
  | or s l r a b => unfold labelsT nodesT; rw [List.length_cons, List.length_append]; omega
  | scale o t ih => unfold labelsT nodesT; omega
  | cond o l r a b => unfold labelsT nodesT; rw [List.length_append]; omega
/-- Is what is a contract's own right? -/
def ownOk (t : Tm) : Bool := !(decide (kindT t = 0)) && (!(decide (kindT t = 2 ∨ kindT t = 5)) || nameL (ownT t).1) && (decide (0 ≤ (ownT t).2) && decide ((ownT t).2 ≤ 10000))
theorem formT_kids (t : Tm) : formT t = (ownOk t && (!(numberT t).2 || formO (numberT t).1) && !((kidsT t).any fun k => !formT k)) := by
  cases t <;> simp [formT, ownOk, kindT, ownT, numberT, kidsT, Bool.and_assoc]
  all_goals rfl

/-! ### What the functions do -/
theorem tkind_spec (t : Tm) (w : World) : Ret Tryz.prog 75 #[t.v] w fun r w' => r = .int .i64 (kindT t) ∧ w = w' := by
  refine c75 t.v w _ ?_
  unfold C75
  cases t with
  | none => exact TaK.nil rfl (TaK.nil rfl (TaK.nil rfl (TaK.nil rfl (TaK.nil rfl (TaK.nil rfl (TaK.nil rfl (TaK.nil rfl ⟨rfl, rfl⟩)))))))
  | zero => exact TaK.hit () rfl ⟨rfl, rfl⟩
  | one s => exact TaK.miss rfl (by decide) (TaK.hit (str s, ()) rfl ⟨rfl, rfl⟩)
  | give t => exact TaK.miss rfl (by decide) (TaK.miss rfl (by decide) (TaK.hit (t.v, ()) rfl ⟨rfl, rfl⟩))
  | and l r => exact TaK.miss rfl (by decide) (TaK.miss rfl (by decide) (TaK.miss rfl (by decide) (TaK.hit (l.v, r.v, ()) rfl ⟨rfl, rfl⟩)))
  | or s l r => exact TaK.miss rfl (by decide) (TaK.miss rfl (by decide) (TaK.miss rfl (by decide) (TaK.miss rfl (by decide) (TaK.hit (str s, l.v, r.v, ()) rfl ⟨rfl, rfl⟩))))
  | scale o t => exact TaK.miss rfl (by decide) (TaK.miss rfl (by decide) (TaK.miss rfl (by decide) (TaK.miss rfl (by decide) (TaK.miss rfl (by decide) (TaK.hit (o.v, t.v, ()) rfl ⟨rfl, rfl⟩)))))
  | when d t => exact TaK.miss rfl (by decide) (TaK.miss rfl (by decide) (TaK.miss rfl (by decide) (TaK.miss rfl (by decide) (TaK.miss rfl (by decide) (TaK.miss rfl (by decide) (TaK.hit (d, t.v, ()) rfl ⟨rfl, rfl⟩))))))
  | cond o l r => exact TaK.miss rfl (by decide) (TaK.miss rfl (by decide) (TaK.miss rfl (by decide) (TaK.miss rfl (by decide) (TaK.miss rfl (by decide) (TaK.miss rfl (by decide) (TaK.miss rfl (by decide) (TaK.hit (o.v, l.v, r.v, ()) rfl ⟨rfl, rfl⟩)))))))

/-- A value that is not of a type. -/
def isNot (v : Value) (t : TypeId) : Prop := v = .nilIface ∨ ∃ u x, v = .iface u x ∧ u ≠ t
theorem isNot.ta {v : Value} {t : TypeId} {k : Kd} {yes : k.C → Prop} {no : Prop} (h : isNot v t) (hn : no) : TaK v t k yes no := ⟨.inr ⟨h, hn⟩⟩
theorem Tm.not_one {t : Tm} (h : ∀ s, t ≠ .one s) : isNot t.v 74 := by cases t <;> first | exact .inl rfl | exact .inr ⟨_, _, rfl, by decide⟩ | exact absurd rfl (h _)
theorem Tm.not_or {t : Tm} (h : ∀ s l r, t ≠ .or s l r) : isNot t.v 93 := by cases t <;> first | exact .inl rfl | exact .inr ⟨_, _, rfl, by decide⟩ | exact absurd rfl (h _ _ _)
theorem Tm.not_when {t : Tm} (h : ∀ d u, t ≠ .when d u) : isNot t.v 95 := by cases t <;> first | exact .inl rfl | exact .inr ⟨_, _, rfl, by decide⟩ | exact absurd rfl (h _ _)
theorem Tm.not_scale {t : Tm} (h : ∀ o u, t ≠ .scale o u) : isNot t.v 97 := by cases t <;> first | exact .inl rfl | exact .inr ⟨_, _, rfl, by decide⟩ | exact absurd rfl (h _ _)
theorem Tm.not_if {t : Tm} (h : ∀ o l r, t ≠ .cond o l r) : isNot t.v 99 := by cases t <;> first | exact .inl rfl | exact .inr ⟨_, _, rfl, by decide⟩ | exact absurd rfl (h _ _ _)
theorem Tm.not_give {t : Tm} (h : ∀ u, t ≠ .give u) : isNot t.v 89 := by cases t <;> first | exact .inl rfl | exact .inr ⟨_, _, rfl, by decide⟩ | exact absurd rfl (h _)
theorem Tm.not_and {t : Tm} (h : ∀ l r, t ≠ .and l r) : isNot t.v 91 := by cases t <;> first | exact .inl rfl | exact .inr ⟨_, _, rfl, by decide⟩ | exact absurd rfl (h _ _)

/-- A zero value is laid for a type that it is not. -/
theorem lay0 {w w0 : World} {T : TypeId} {zs : List Value} {K : World → Prop} (f0 : Fr none1 w w0) (h1 : zs.all one1 = true) (h : ∀ w4, Fr none1 w w4 → K w4) : NewK (.cells zs.toArray T) w0 (fun g w3 => StsK ⟨g, 0, none⟩ zs w3 fun w4 => K w4) :=
  ns_skip rfl h1 fun w4 f => h w4 (f0.trans f)

theorem own_spec (t : Tm) (w : World) : Ret Tryz.prog 76 #[t.v] w fun r w' => r = .tuple #[.string (str (ownT t).1), .int .i64 (ownT t).2] ∧ Fr none1 w w' := by
  refine c76 t.v w _ ?_
  unfold C76
  have f0 := Fr.refl none1 w
  have z1 : ∀ {K : World → Prop}, (∀ w4, Fr none1 w w4 → K w4) → NewK (.cells #[.string (⟨#[]⟩ : ByteArray)] 74) w (fun g w3 => StsK ⟨g, 0, none⟩ [.string (⟨#[]⟩ : ByteArray)] w3 fun w4 => K w4) := fun h => lay0 (zs := [.string (⟨#[]⟩ : ByteArray)]) f0 rfl h
  have z2 : ∀ {w0 : World} {K : World → Prop}, Fr none1 w w0 → (∀ w4, Fr none1 w w4 → K w4) → NewK (.cells #[.string (⟨#[]⟩ : ByteArray), .nilIface, .nilIface] 93) w0 (fun g w3 => StsK ⟨g, 0, none⟩ [.string (⟨#[]⟩ : ByteArray), .nilIface, .nilIface] w3 fun w4 => K w4) := fun f h => lay0 (zs := [.string (⟨#[]⟩ : ByteArray), .nilIface, .nilIface]) f rfl h
  have z3 : ∀ {w0 : World} {K : World → Prop}, Fr none1 w w0 → (∀ w4, Fr none1 w w4 → K w4) → NewK (.cells #[.int .i64 0, .nilIface] 95) w0 (fun g w3 => StsK ⟨g, 0, none⟩ [.int .i64 0, .nilIface] w3 fun w4 => K w4) := fun f h => lay0 (zs := [.int .i64 0, .nilIface]) f rfl h
  have rest : ((∀ s, t ≠ .one s) ∧ (∀ s l r, t ≠ .or s l r) ∧ ∀ d u, t ≠ .when d u) → ownT t = ([], 0) := by rintro ⟨a, b, c⟩; cases t <;> first | rfl | exact absurd rfl (a _) | exact absurd rfl (b _ _ _) | exact absurd rfl (c _ _)
  by_cases h1 : ∃ s, t = .one s
  · obtain ⟨s, rfl⟩ := h1
    exact TaK.hit (str s, ()) rfl (ns_ok (zs := [.string (⟨#[]⟩ : ByteArray)]) (vs := [.string (str s)]) rfl rfl fun g w1 _ hb f1 => LdK.fld hb (x := str s) rfl ⟨rfl, f1⟩)
  have h1 : ∀ s, t ≠ .one s := fun s e => h1 ⟨s, e⟩
  refine (Tm.not_one h1).ta (z1 fun w1 f1 => ?_)
  by_cases h2 : ∃ s l r, t = .or s l r
  · obtain ⟨s, l, r, rfl⟩ := h2
    exact TaK.hit (str s, l.v, r.v, ()) rfl (ns_ok (zs := [.string (⟨#[]⟩ : ByteArray), .nilIface, .nilIface]) (vs := [.string (str s), l.v, r.v]) rfl (by simp [Tm.v_one, one1_str]) fun g w2 _ hb f2 => LdK.fld hb (x := str s) rfl ⟨rfl, f1.trans f2⟩)
  have h2 : ∀ s l r, t ≠ .or s l r := fun s l r e => h2 ⟨s, l, r, e⟩
  refine (Tm.not_or h2).ta (z2 f1 fun w2 f2 => ?_)
  by_cases h3 : ∃ d u, t = .when d u
  · obtain ⟨d, u, rfl⟩ := h3
    refine TaK.hit (d, u.v, ()) rfl (ns_ok (zs := [.int .i64 0, .nilIface]) (vs := [.int .i64 d, u.v]) rfl (by simp [Tm.v_one, one1_int]) fun g w3 _ hb f3 => ?_)
    refine DrewK.of fun w4 hh f4 => ?_
    exact LdK.fld (f4.keep0 hb) (x := d) rfl ⟨rfl, (f2.trans f3).trans f4⟩
  have h3 : ∀ d u, t ≠ .when d u := fun d u e => h3 ⟨d, u, e⟩
  refine (Tm.not_when h3).ta (z3 f2 fun w3 f3 => ?_)
  rw [rest ⟨h1, h2, h3⟩]
  exact ⟨rfl, f3⟩

theorem tnumber_spec (t : Tm) (w : World) : Ret Tryz.prog 77 #[t.v] w fun r w' => r = .tuple #[(numberT t).1.v, .bool (numberT t).2] ∧ Fr none1 w w' := by
  refine c77 t.v w _ ?_
  unfold C77
  have f0 := Fr.refl none1 w
  have z1 : ∀ {K : World → Prop}, (∀ w4, Fr none1 w w4 → K w4) → NewK (.cells #[.nilIface, .nilIface] 97) w (fun g w3 => StsK ⟨g, 0, none⟩ [.nilIface, .nilIface] w3 fun w4 => K w4) := fun h => lay0 (zs := [.nilIface, .nilIface]) f0 rfl h
  have z2 : ∀ {w0 : World} {K : World → Prop}, Fr none1 w w0 → (∀ w4, Fr none1 w w4 → K w4) → NewK (.cells #[.nilIface, .nilIface, .nilIface] 99) w0 (fun g w3 => StsK ⟨g, 0, none⟩ [.nilIface, .nilIface, .nilIface] w3 fun w4 => K w4) := fun f h => lay0 (zs := [.nilIface, .nilIface, .nilIface]) f rfl h
  have rest : ((∀ o u, t ≠ .scale o u) ∧ ∀ o l r, t ≠ .cond o l r) → numberT t = (.none, false) := by rintro ⟨a, b⟩; cases t <;> first | rfl | exact absurd rfl (a _ _) | exact absurd rfl (b _ _ _)
  by_cases h1 : ∃ o u, t = .scale o u
  · obtain ⟨o, u, rfl⟩ := h1
    exact TaK.hit (o.v, u.v, ()) rfl (ns_ok (zs := [.nilIface, .nilIface]) (vs := [o.v, u.v]) rfl (by simp [Tm.v_one, Ob.v_one]) fun g w1 _ hb f1 => LdK.fld (c := .raw) hb (x := o.v) rfl ⟨rfl, f1⟩)
  have h1 : ∀ o u, t ≠ .scale o u := fun o u e => h1 ⟨o, u, e⟩
  refine (Tm.not_scale h1).ta (z1 fun w1 f1 => ?_)
  by_cases h2 : ∃ o l r, t = .cond o l r
  · obtain ⟨o, l, r, rfl⟩ := h2
    exact TaK.hit (o.v, l.v, r.v, ()) rfl (ns_ok (zs := [.nilIface, .nilIface, .nilIface]) (vs := [o.v, l.v, r.v]) rfl (by simp [Tm.v_one, Ob.v_one]) fun g w2 _ hb f2 => LdK.fld (c := .raw) hb (x := o.v) rfl ⟨rfl, f1.trans f2⟩)
  have h2 : ∀ o l r, t ≠ .cond o l r := fun o l r e => h2 ⟨o, l, r, e⟩
  refine (Tm.not_if h2).ta (z2 f1 fun w2 f2 => ?_)
  rw [rest ⟨h1, h2⟩]
  exact ⟨rfl, f2⟩

theorem tkids_spec (t : Tm) (w : World) : Ret Tryz.prog 79 #[t.v] w fun r w' => ∃ u : Sl, r = .slice u.1 u.2.1 u.2.2 ∧ IsTs w' u (kidsT t) ∧ Fr none1 w w' ∧ ∀ k, blkOf u k → w.heap.size ≤ k := by
  refine c79 t.v w _ ?_
  unfold C79
  have f0 := Fr.refl none1 w
  have zn : ∀ {w0 : World} {T : TypeId} {K : World → Prop}, Fr none1 w w0 → (∀ w4, Fr none1 w w4 → K w4) → NewK (.cells #[.nilIface] T) w0 (fun g w3 => StsK ⟨g, 0, none⟩ [.nilIface] w3 fun w4 => K w4) := fun f h => lay0 (zs := [.nilIface]) f rfl h
  have zn2 : ∀ {w0 : World} {T : TypeId} {K : World → Prop}, Fr none1 w w0 → (∀ w4, Fr none1 w w4 → K w4) → NewK (.cells #[.nilIface, .nilIface] T) w0 (fun g w3 => StsK ⟨g, 0, none⟩ [.nilIface, .nilIface] w3 fun w4 => K w4) := fun f h => lay0 (zs := [.nilIface, .nilIface]) f rfl h
  have zs3 : ∀ {w0 : World} {T : TypeId} {K : World → Prop}, Fr none1 w w0 → (∀ w4, Fr none1 w w4 → K w4) → NewK (.cells #[.string (⟨#[]⟩ : ByteArray), .nilIface, .nilIface] T) w0 (fun g w3 => StsK ⟨g, 0, none⟩ [.string (⟨#[]⟩ : ByteArray), .nilIface, .nilIface] w3 fun w4 => K w4) := fun f h => lay0 (zs := [.string (⟨#[]⟩ : ByteArray), .nilIface, .nilIface]) f rfl h
  have zi2 : ∀ {w0 : World} {T : TypeId} {K : World → Prop}, Fr none1 w w0 → (∀ w4, Fr none1 w w4 → K w4) → NewK (.cells #[.int .i64 0, .nilIface] T) w0 (fun g w3 => StsK ⟨g, 0, none⟩ [.int .i64 0, .nilIface] w3 fun w4 => K w4) := fun f h => lay0 (zs := [.int .i64 0, .nilIface]) f rfl h
  have zn3 : ∀ {w0 : World} {T : TypeId} {K : World → Prop}, Fr none1 w w0 → (∀ w4, Fr none1 w w4 → K w4) → NewK (.cells #[.nilIface, .nilIface, .nilIface] T) w0 (fun g w3 => StsK ⟨g, 0, none⟩ [.nilIface, .nilIface, .nilIface] w3 fun w4 => K w4) := fun f h => lay0 (zs := [.nilIface, .nilIface, .nilIface]) f rfl h
  have rest : (∀ u, t ≠ .give u) → (∀ l r, t ≠ .and l r) → (∀ s l r, t ≠ .or s l r) → (∀ o u, t ≠ .scale o u) → (∀ d u, t ≠ .when d u) → (∀ o l r, t ≠ .cond o l r) → kidsT t = [] := by
    intro a b c d e f
    cases t <;> first | rfl | exact absurd rfl (a _) | exact absurd rfl (b _ _) | exact absurd rfl (c _ _ _) | exact absurd rfl (d _ _) | exact absurd rfl (e _ _) | exact absurd rfl (f _ _ _)
  by_cases h1 : ∃ u, t = .give u
  · obtain ⟨u, rfl⟩ := h1
    exact TaK.hit (u.v, ()) rfl (kids1_ok (zs := [.nilIface]) (vs := [u.v]) elem_term rfl (by simp [Tm.v_one]) rfl u.v_cells fun x w' hx _ f xf => ⟨x, rfl, hx, f, xf⟩)
  have h1 : ∀ u, t ≠ .give u := fun u e => h1 ⟨u, e⟩
  refine (Tm.not_give h1).ta (zn f0 fun w1 f1 => ?_)
  by_cases h2 : ∃ l r, t = .and l r
  · obtain ⟨l, r, rfl⟩ := h2
    exact TaK.hit (l.v, r.v, ()) rfl (kids2_ok (zs := [.nilIface, .nilIface]) (vs := [l.v, r.v]) elem_term rfl (by simp [Tm.v_one]) rfl rfl l.v_cells r.v_cells fun x w' hx _ f xf => ⟨x, rfl, hx, f1.trans f, fun k hk => Nat.le_trans f1.size (xf k hk)⟩)
  have h2 : ∀ l r, t ≠ .and l r := fun l r e => h2 ⟨l, r, e⟩
  refine (Tm.not_and h2).ta (zn2 f1 fun w2 f2 => ?_)
  by_cases h3 : ∃ s l r, t = .or s l r
  · obtain ⟨s, l, r, rfl⟩ := h3
    exact TaK.hit (str s, l.v, r.v, ()) rfl (kids2_ok (zs := [.string (⟨#[]⟩ : ByteArray), .nilIface, .nilIface]) (vs := [.string (str s), l.v, r.v]) elem_term rfl (by simp [Tm.v_one, one1_str]) rfl rfl l.v_cells r.v_cells fun x w' hx _ f xf => ⟨x, rfl, hx, f2.trans f, fun k hk => Nat.le_trans f2.size (xf k hk)⟩)
  have h3 : ∀ s l r, t ≠ .or s l r := fun s l r e => h3 ⟨s, l, r, e⟩
  refine (Tm.not_or h3).ta (zs3 f2 fun w3 f3 => ?_)
  by_cases h4 : ∃ o u, t = .scale o u
  · obtain ⟨o, u, rfl⟩ := h4
    exact TaK.hit (o.v, u.v, ()) rfl (kids1_ok (zs := [.nilIface, .nilIface]) (vs := [o.v, u.v]) elem_term rfl (by simp [Tm.v_one, Ob.v_one]) rfl u.v_cells fun x w' hx _ f xf => ⟨x, rfl, hx, f3.trans f, fun k hk => Nat.le_trans f3.size (xf k hk)⟩)
  have h4 : ∀ o u, t ≠ .scale o u := fun o u e => h4 ⟨o, u, e⟩
  refine (Tm.not_scale h4).ta (zn2 f3 fun w4 f4 => ?_)
  by_cases h5 : ∃ d u, t = .when d u
  · obtain ⟨d, u, rfl⟩ := h5
    exact TaK.hit (d, u.v, ()) rfl (kids1_ok (zs := [.int .i64 0, .nilIface]) (vs := [.int .i64 d, u.v]) elem_term rfl (by simp [Tm.v_one, one1_int]) rfl u.v_cells fun x w' hx _ f xf => ⟨x, rfl, hx, f4.trans f, fun k hk => Nat.le_trans f4.size (xf k hk)⟩)
  have h5 : ∀ d u, t ≠ .when d u := fun d u e => h5 ⟨d, u, e⟩
  refine (Tm.not_when h5).ta (zi2 f4 fun w5 f5 => ?_)
  by_cases h6 : ∃ o l r, t = .cond o l r
  · obtain ⟨o, l, r, rfl⟩ := h6
    exact TaK.hit (o.v, l.v, r.v, ()) rfl (kids2_ok (zs := [.nilIface, .nilIface, .nilIface]) (vs := [o.v, l.v, r.v]) elem_term rfl (by simp [Tm.v_one, Ob.v_one]) rfl rfl l.v_cells r.v_cells fun x w' hx _ f xf => ⟨x, rfl, hx, f5.trans f, fun k hk => Nat.le_trans f5.size (xf k hk)⟩)
  have h6 : ∀ o l r, t ≠ .cond o l r := fun o l r e => h6 ⟨o, l, r, e⟩
  refine (Tm.not_if h6).ta (zn3 f5 fun w6 f6 => ?_)
  rw [rest h1 h2 h3 h4 h5 h6]
  exact ⟨_, rfl, none_ts _, f6, fun k t => (none_blk k t).elim⟩

theorem foldmax_snoc (l : List Nat) (b n : Nat) : (l ++ [n]).foldl max b = max (l.foldl max b) n := by rw [List.foldl_append]; rfl

theorem tsize_spec (t : Tm) (hn : nodesT t ≤ 1000000) (w : World) : Ret Tryz.prog 117 #[t.v] w fun r w' => r = .tuple #[.int .i64 (nodesT t : Int), .int .i64 (depthT t : Int)] ∧ Fr none1 w w' := by
  refine c117 t.v w _ ?_
  have ih : ∀ k ∈ kidsT t, nodesT k ≤ 1000000 → ∀ w, Ret Tryz.prog 117 #[k.v] w fun r w' => r = .tuple #[.int .i64 (nodesT k : Int), .int .i64 (depthT k : Int)] ∧ Fr none1 w w' := fun k hk hn w => tsize_spec k hn w
  refine CallK.of (tkind_spec t w) ?_
  rintro _ _ ⟨rfl, rfl⟩
  refine ⟨_, rfl, ifB.eq (fun h => ?_) (fun h => ?_)⟩
  · rw [kindT_none] at h
    subst h
    exact ⟨rfl, Fr.refl _ _⟩
  rw [Ne, kindT_none] at h
  have hN := nodesT_kids t h
  have hD := depthT_kids t h
  refine JoinK.of (fun s w' => s = ((baseN t : Int), (baseD t : Int), ()) ∧ Fr none1 w w') ?_ ?_
  · refine CallK.of (tnumber_spec t w) ?_
    rintro _ w1 ⟨rfl, f1⟩
    refine ⟨((numberT t).1.v, (numberT t).2, ()), rfl, ifB.by (fun hb => ?_) (fun hb => ?_)⟩
    · refine CallK.of (osize_spec (numberT t).1 (by unfold baseN at hN; omega) w1) ?_
      rintro _ w2 ⟨rfl, f2⟩
      exact ⟨((baseN t : Int), (baseD t : Int), ()), rfl, rfl, f1.trans f2⟩
    · refine ⟨?_, f1⟩
      have : numberT t = (.none, false) := by cases t <;> first | rfl | exact absurd hb (by simp [numberT])
      unfold baseN baseD
      rw [this]
      rfl
  rintro _ s w1 ⟨rfl, f1⟩
  dsimp only
  refine CallK.of (tkids_spec t w1) ?_
  rintro _ w2 ⟨u, rfl, hu, f2, uf⟩
  refine ⟨u, rfl, ?_⟩
  have hul := hu.len
  have hkl := kidsT_len t
  refine LoopK.of (fun s w' => ∃ i : Nat, s.2.2.1 = i ∧ i ≤ (kidsT t).length ∧ s.1 = ((baseN t + sumN (((kidsT t).take i).map nodesT) : Nat) : Int) ∧ s.2.1 = ((((kidsT t).take i).map depthT).foldl max (baseD t) : Nat) ∧ Fr none1 w w' ∧ IsTs w' u (kidsT t)) (fun s _ => (2 - s.2.2.1).toNat)
    ⟨0, rfl, Nat.zero_le _, rfl, rfl, f1.trans f2, hu⟩ ?_
  rintro _ ⟨a, b, i', _⟩ w3 ⟨i, hi, hil, ha, hb, f3, hu3⟩
  dsimp only at hi ha hb ⊢
  subst hi ha hb
  have hle : ∀ i, sumN (((kidsT t).take i).map nodesT) + baseN t ≤ nodesT t := fun i => by
    rw [hN, List.map_take]
    have := sumN_take ((kidsT t).map nodesT) i
    omega
  have hle0 := hle i
  refine ifB.dec (fun hlt => ?_) (fun hge => ?_)
  · have hi2 : i < (kidsT t).length := by omega
    obtain ⟨k, hk⟩ : ∃ k, (kidsT t)[i]? = some k := ⟨_, List.getElem?_eq_getElem hi2⟩
    have hkm := List.mem_of_getElem? hk
    have hkn := hle (i + 1)
    rw [take_next _ _ _ hk, sumN_snoc] at hkn
    refine hu3.ld hk ?_
    refine CallK.of (ih k hkm (by omega) w3) ?_
    rintro _ w4 ⟨rfl, f4⟩
    refine ⟨((nodesT k : Int), (depthT k : Int), ()), rfl, ?_⟩
    dsimp only
    have hdk := depthT_le k
    refine ⟨⟨i + 1, by rw [wI (by omega) (by omega)]; omega, by omega, ?_, ?_, f3.trans f4, hu3.keep0 f4⟩, by rw [wI (by omega) (by omega)]; omega⟩
    · rw [take_next _ _ _ hk, sumN_snoc, wI (by omega) (by omega)]
      omega
    · rw [take_next _ _ _ hk, foldmax_snoc]
      by_cases hm : (((kidsT t).take i).map depthT).foldl max (baseD t) < depthT k
      · rw [if_pos (by omega)]; omega
      · rw [if_neg (by omega)]; omega
  · have : i = (kidsT t).length := by omega
    subst this
    rw [List.take_length]
    rw [List.take_length] at hle0
    have hd := depthT_le t
    rw [hN]
    rw [hD] at hd ⊢
    rw [wI (by omega) (by omega), wI (by omega) (by omega)]
    exact ⟨by simp, f3⟩
termination_by SizeOf.sizeOf t
decreasing_by exact kidsT_lt hk

theorem tform_spec (t : Tm) (hn : nodesT t ≤ 1000000) (w : World) : Ret Tryz.prog 116 #[t.v] w fun r w' => r = .bool (formT t) ∧ Fr none1 w w' := by
  refine c116 t.v w _ ?_
  unfold C116
  have ih : ∀ k ∈ kidsT t, nodesT k ≤ 1000000 → ∀ w, Ret Tryz.prog 116 #[k.v] w fun r w' => r = .bool (formT k) ∧ Fr none1 w w' := fun k hk hn w => tform_spec k hn w
  have kOne : ∀ w, Ret Tryz.prog 75 #[.iface 74 (.agg #[.string (⟨#[]⟩ : ByteArray)])] w fun r w' => r = .int .i64 2 ∧ w = w' := fun w => tkind_spec (.one []) w
  have kOr : ∀ w, Ret Tryz.prog 75 #[.iface 93 (.agg #[.string (⟨#[]⟩ : ByteArray), .nilIface, .nilIface])] w fun r w' => r = .int .i64 5 ∧ w = w' := fun w => tkind_spec (.or [] .none .none) w
  refine CallK.of (own_spec t w) ?_
  rintro _ w1 ⟨rfl, f1⟩
  refine ⟨(str (ownT t).1, (ownT t).2, ()), rfl, ?_⟩
  dsimp only
  refine JoinK.of (fun s w' => s.1 = decide (kindT t = 2 ∨ kindT t = 5) ∧ w1 = w') ?_ ?_
  · refine CallK.of (tkind_spec t w1) ?_
    rintro _ _ ⟨rfl, rfl⟩
    refine ⟨_, rfl, ?_⟩
    refine CallK.of (kOne w1) ?_
    rintro _ _ ⟨rfl, rfl⟩
    refine ⟨_, rfl, ifB.eq (fun h => ⟨by rw [decide_eq_true (.inl h)], rfl⟩) (fun h => ?_)⟩
    refine CallK.of (tkind_spec t w1) ?_
    rintro _ _ ⟨rfl, rfl⟩
    refine ⟨_, rfl, ?_⟩
    refine CallK.of (kOr w1) ?_
    rintro _ _ ⟨rfl, rfl⟩
    refine ⟨_, rfl, ?_, rfl⟩
    dsimp only
    by_cases h5 : kindT t = 5
    · rw [decide_eq_true (.inr h5), h5]; rfl
    · rw [decide_eq_false (by rintro (h' | h') <;> contradiction)]; simpa using h5
  rintro _ ⟨s, _⟩ _ ⟨hs, rfl⟩
  dsimp only at hs ⊢
  subst hs
  have hown : ∀ w2, Fr none1 w w2 → (ifB (decide ((ownT t).2 < 0)) True True → True) := fun _ _ _ => trivial
  refine JoinK.of (fun s w' => s.1 = !ownOk t ∧ Fr none1 w w') ?_ ?_
  · refine CallK.of (tkind_spec t w1) ?_
    rintro _ _ ⟨rfl, rfl⟩
    have days : ∀ w2, Fr none1 w w2 → kindT t ≠ 0 → (decide (kindT t = 2 ∨ kindT t = 5) = true → nameL (ownT t).1 = true) → ifB (decide ((ownT t).2 < 0)) (true = (!ownOk t) ∧ Fr none1 w w2) (decide ((ownT t).2 > 10000) = (!ownOk t) ∧ Fr none1 w w2) := fun w2 f2 h0 hnm => by
      have e : ownOk t = (decide (0 ≤ (ownT t).2) && decide ((ownT t).2 ≤ 10000)) := by
        unfold ownOk
        rw [decide_eq_false h0]
        cases hd : decide (kindT t = 2 ∨ kindT t = 5) with
        | true => rw [hnm hd]; rfl
        | false => rfl
      rw [e]
      refine ifB.dec (fun h => ⟨?_, f2⟩) (fun h => ⟨?_, f2⟩)
      · rw [decide_eq_false (p := 0 ≤ (ownT t).2) (by omega)]; rfl
      · rw [decide_eq_true (p := 0 ≤ (ownT t).2) (by omega), Bool.true_and]
        by_cases h2 : (ownT t).2 ≤ 10000
        · rw [decide_eq_true h2, decide_eq_false (by omega)]; rfl
        · rw [decide_eq_false h2, decide_eq_true (by omega)]; rfl
    refine ⟨_, rfl, ifB.eq (fun h => ⟨?_, f1⟩) (fun h => ?_)⟩
    · dsimp only; unfold ownOk; rw [decide_eq_true h]; rfl
    refine ifB.by (fun hn2 => ?_) (fun hn2 => ?_)
    · refine CallK.of (name_spec (ownT t).1 w1) ?_
      rintro _ w2 ⟨rfl, f2⟩
      refine ⟨_, rfl, ifB.not (ifB.by (fun hnm => ?_) (fun hnm => ?_))⟩
      · exact days w2 (f1.trans f2) h fun _ => hnm
      · refine ⟨?_, f1.trans f2⟩
        dsimp only
        unfold ownOk nameL
        rw [hn2, hnm]
        simp
    · exact days w1 f1 h fun e => by rw [hn2] at e; cases e
  rintro _ ⟨s, _⟩ w2 ⟨hs, f2⟩
  dsimp only at hs ⊢
  subst hs
  rw [formT_kids t]
  refine ifB.not (ifB.by (fun ho => ?_) (fun ho => ?_))
  case refine_2 => rw [ho]; exact ⟨rfl, f2⟩
  rw [ho, Bool.true_and]
  have hnd : t ≠ .none := fun e => by rw [e] at ho; exact absurd ho (by simp [ownOk, kindT])
  have hN := nodesT_kids t hnd
  have kids : ∀ w3, Fr none1 w w3 → CallK Tryz.prog 79 #[t.v] w3 (.v (.one .slc)) (fun (x25 : Option Addr × Nat × Nat) w26 => CallK Tryz.prog 156 #[.slice x25.1 x25.2.1 x25.2.2, .func (.func 157) #[] #[]] w26 (.v (.one .bool)) (fun (x27 : Bool) w28 =>
      (.bool (!x27) : Value) = .bool (true && !((kidsT t).any fun k => !formT k)) ∧ Fr none1 w w28)) := fun w3 f3 => by
    refine CallK.of (tkids_spec t w3) ?_
    rintro _ w4 ⟨u, rfl, hu, f4, _⟩
    refine ⟨u, rfl, ?_⟩
    have hul := hu.len
    have hkl := kidsT_len t
    have hc : Ret Tryz.prog 156 #[.slice u.1 u.2.1 u.2.2, .func (.func 157) #[] #[]] w4 fun r w' => r = .bool ((kidsT t).any fun k => !formT k) ∧ Fr none1 w4 w' := by
      refine c156 u.1 u.2.1 u.2.2 _ w4 _ ?_
      have hx : Ret Tryz.prog 177 #[.slice u.1 u.2.1 u.2.2, .func (.func 157) #[] #[]] w4 fun r w' => (∃ i : Int, r = .int .i64 i ∧ decide (i ≥ 0) = (kidsT t).any fun k => !formT k) ∧ Fr none1 w4 w' := by
        refine c177 u.1 u.2.1 u.2.2 _ w4 _ ?_
        refine LoopK.of (fun s w' => ∃ i : Nat, s.1 = i ∧ i ≤ (kidsT t).length ∧ ((kidsT t).take i).any (fun k => !formT k) = false ∧ Fr none1 w4 w' ∧ IsTs w' u (kidsT t)) (fun s _ => (2 - s.1).toNat) ⟨0, rfl, Nat.zero_le _, rfl, Fr.refl _ _, hu⟩ ?_
        rintro _ ⟨i', _⟩ w5 ⟨i, hi, hil, hall, f5, hu5⟩
        dsimp only at hi ⊢
        subst hi
        refine ifB.dec (fun hlt => ?_) (fun hge => ?_)
        · have hi2 : i < (kidsT t).length := by omega
          obtain ⟨k, hk⟩ : ∃ k, (kidsT t)[i]? = some k := ⟨_, List.getElem?_eq_getElem hi2⟩
          refine hu5.ld hk ?_
          have hkm := List.mem_of_getElem? hk
          have hkn : nodesT k ≤ 1000000 := by
            have := sumN_take ((kidsT t).map nodesT) (i + 1)
            rw [← List.map_take, take_next _ _ _ hk, sumN_snoc] at this
            omega
          have hf1 : Ret Tryz.prog 157 #[k.v] w5 fun r w' => r = .bool (!formT k) ∧ Fr none1 w5 w' := by
            refine c157 k.v w5 _ ?_
            refine CallK.of (ih k hkm hkn w5) ?_
            rintro _ w6 ⟨rfl, f6⟩
            exact ⟨_, rfl, rfl, f6⟩
          refine callV_of (by kernel_rfl) Tryz.func157 (by kernel_rfl) (hf1.mono ?_)
          rintro _ w6 ⟨rfl, f6⟩
          refine ⟨_, rfl, ifB.by (fun hb => ?_) (fun hb => ?_)⟩
          · refine ⟨⟨(i : Int), rfl, ?_⟩, f5.trans f6⟩
            rw [decide_eq_true (by omega), eq_comm, List.any_eq_true]
            exact ⟨k, hkm, hb⟩
          · refine ⟨⟨i + 1, by rw [wI (by omega) (by omega)]; omega, by omega, ?_, f5.trans f6, hu5.keep0 f6⟩, by rw [wI (by omega) (by omega)]; omega⟩
            rw [List.take_add_one, hk, List.any_append, hall]
            simpa using hb
        · refine ⟨⟨-1, rfl, ?_⟩, f5⟩
          rw [List.take_of_length_le (by omega)] at hall
          rw [hall]; rfl
      refine CallK.of hx ?_
      rintro _ w5 ⟨⟨i, rfl, hi⟩, f5⟩
      exact ⟨_, rfl, by rw [hi], f5⟩
    refine CallK.of hc ?_
    rintro _ w5 ⟨rfl, f5⟩
    exact ⟨_, rfl, by rw [Bool.true_and], (f3.trans f4).trans f5⟩
  refine CallK.of (tnumber_spec t w2) ?_
  rintro _ w3 ⟨rfl, f3⟩
  refine ⟨((numberT t).1.v, (numberT t).2, ()), rfl, ifB.by (fun hb => ?_) (fun hb => ?_)⟩
  · dsimp only at hb ⊢
    rw [hb]
    refine CallK.of (ocheck_spec (numberT t).1 (by unfold baseN at hN; omega) w3) ?_
    rintro _ w4 ⟨rfl, f4⟩
    have hco : (checkO (numberT t).1 = 2) ↔ formO (numberT t).1 = false := by
      unfold checkO
      constructor
      · intro h
        by_cases hf : formO (numberT t).1 = false
        · exact hf
        · rw [if_neg hf] at h
          repeat' split at h
          all_goals omega
      · intro h; rw [if_pos h]
    refine ⟨_, rfl, ifB.eq (fun h => ?_) (fun h => ?_)⟩
    · rw [hco.1 h]; exact ⟨by simp, (f2.trans f3).trans f4⟩
    · have : formO (numberT t).1 = true := by
        cases hf : formO (numberT t).1 with
        | true => rfl
        | false => exact absurd (hco.2 hf) h
      rw [this]
      exact kids w4 ((f2.trans f3).trans f4)
  · dsimp only at hb ⊢
    rw [hb]
    exact kids w3 (f2.trans f3)
termination_by SizeOf.sizeOf t
decreasing_by exact kidsT_lt hk

/-! ### Slices of texts -/
def sv (s : List UInt8) : Value := .string (str s)
def IsSs (w : World) (v : Sl) (l : List (List UInt8)) : Prop := IsSl w 9 1 v (l.map sv)
theorem IsSs.keep0 {w w' : World} {v : Sl} {l : List (List UInt8)} (h : IsSs w v l) (f : Fr none1 w w') : IsSs w' v l := IsSl.keep0 h f
theorem IsSs.len {w : World} {v : Sl} {l : List (List UInt8)} (h : IsSs w v l) : v.2.1 = l.length := by have := IsSl.len h; rw [List.length_map, Nat.mul_one] at this; exact this.symm
theorem IsSs.ld {w : World} {v : Sl} {l : List (List UInt8)} (h : IsSs w v l) {i : Nat} {s : List UInt8} (ho : l[i]? = some s) {K : ByteArray → Prop} (k : K (str s)) : IdxK v.1 v.2.1 (i : Int) 1 fun p => LdK .str p w K := by
  have hi := (List.getElem?_eq_some_iff.1 ho).1
  have hl := h.len
  refine IsSl.ld h (by omega) (by omega) (c := .str) (x := str s) ?_ k
  rw [Int.toNat_natCast, List.getElem?_map, ho]; rfl
theorem none_ss (w : World) : IsSs w (none, 0, 0) [] := .inl ⟨rfl, rfl⟩
theorem sv_one (l : List (List UInt8)) : ∀ v ∈ l.map sv, one1 v = true := by intro v hv; obtain ⟨s, _, rfl⟩ := List.mem_map.1 hv; rfl
theorem ss_app {w : World} {x y : Sl} {xs ys : List (List UInt8)} (hx : IsSs w x xs) (hy : RdSl w 1 y (ys.map sv)) (hl : xs.length + ys.length ≤ 100000000) :
    ∃ (v : Sl) (w' : World), (Builtin.append_ #[23, 23] 23 #[.slice x.1 x.2.1 x.2.2, .slice y.1 y.2.1 y.2.2]).run Tryz.prog w = .ok (.slice v.1 v.2.1 v.2.2) w' ∧ IsSs w' v (xs ++ ys) ∧ Fr (blkOf x) w w' ∧ (∀ k, blkOf v k → blkOf x k ∨ w.heap.size ≤ k) := by
  have e1 := hx.len
  have e2 : y.2.1 = ys.length := by have := hy.1; rw [List.length_map, Nat.mul_one] at this; exact this.symm
  obtain ⟨v, w', a, b, _, c, d⟩ := append_ok (P := Tryz.prog) (s := 1) (xs := xs.map sv) (ys := ys.map sv) elem_str 23 hx hy (sv_one ys) (by rw [e1, e2]; omega)
  exact ⟨v, w', a, by unfold IsSs; rw [List.map_append]; exact b, c, d⟩

theorem tlabels_spec (t : Tm) (hn : nodesT t ≤ 1000000) (w : World) : Ret Tryz.prog 118 #[t.v] w fun r w' => ∃ u : Sl, r = .slice u.1 u.2.1 u.2.2 ∧ IsSs w' u (labelsT t) ∧ Fr none1 w w' ∧ ∀ k, blkOf u k → w.heap.size ≤ k := by
  refine c118 t.v w _ ?_
  have ih : ∀ k ∈ kidsT t, nodesT k ≤ 1000000 → ∀ w, Ret Tryz.prog 118 #[k.v] w fun r w' => ∃ u : Sl, r = .slice u.1 u.2.1 u.2.2 ∧ IsSs w' u (labelsT k) ∧ Fr none1 w w' ∧ ∀ k, blkOf u k → w.heap.size ≤ k := fun k hk hn w => tlabels_spec k hn w
  have f0 := Fr.refl none1 w
  refine JoinK.of (fun s w' => IsSs w' s.1 (ownL t) ∧ Fr none1 w w' ∧ ∀ k, blkOf s.1 k → w.heap.size ≤ k) ?_ ?_
  · by_cases h2 : ∃ s l r, t = .or s l r
    · obtain ⟨s, l, r, rfl⟩ := h2
      refine TaK.hit (str s, l.v, r.v, ()) rfl (ns_ok (zs := [.string (⟨#[]⟩ : ByteArray), .nilIface, .nilIface]) (vs := [.string (str s), l.v, r.v]) rfl (by simp [Tm.v_one, one1_str]) fun g w2 _ hb f2 => LdK.fld hb (x := str s) rfl ?_)
      obtain ⟨u, w3, hr, hu, hul, f3, uf⟩ := one_ok (P := Tryz.prog) (w := w2) elem_str (sv s) rfl
      refine ⟨u, w3, hr, ?_⟩
      obtain ⟨x, w4, hr4, hx, f4, xf⟩ := ss_app (none_ss w3) (ys := [s]) hu.rd (by simp)
      refine ⟨x, w4, hr4, hx, (f2.trans f3).comp f4 (fun k _ t => (none_blk k t).elim), fun k hk => ?_⟩
      rcases xf k hk with t | t
      · exact (none_blk k t).elim
      · have := (f2.trans f3).size; omega
    · have h2 : ∀ s l r, t ≠ .or s l r := fun s l r e => h2 ⟨s, l, r, e⟩
      refine (Tm.not_or h2).ta (lay0 (zs := [.string (⟨#[]⟩ : ByteArray), .nilIface, .nilIface]) f0 rfl fun w1 f1 => ⟨?_, f1, fun k t => (none_blk k t).elim⟩)
      have : ownL t = [] := by cases t <;> first | rfl | exact absurd rfl (h2 _ _ _)
      rw [this]
      exact none_ss _
  rintro _ ⟨s, _⟩ w1 ⟨hs, f1, sf⟩
  dsimp only at hs sf ⊢
  refine CallK.of (tkids_spec t w1) ?_
  rintro _ w2 ⟨u, rfl, hu, f2, uf⟩
  refine ⟨u, rfl, ?_⟩
  have hul := hu.len
  have hkl := kidsT_len t
  have hL := labelsT_kids t
  have hlen := labelsT_len t
  have hlt0 : ∀ i, (ownL t ++ ((kidsT t).take i).flatMap labelsT).length ≤ nodesT t := fun i => by
    have : (labelsT t).length = (ownL t ++ ((kidsT t).take i).flatMap labelsT).length + (((kidsT t).drop i).flatMap labelsT).length := by
      rw [hL]
      conv => lhs; rw [← List.take_append_drop i (kidsT t)]
      rw [List.flatMap_append]
      simp only [List.length_append]
      omega
    omega
  have ulow : ∀ k, blkOf u k → k < w2.heap.size := fun k hk => IsSl.lt hu hk
  refine LoopK.of (fun s w' => ∃ i : Nat, s.2.1 = i ∧ i ≤ (kidsT t).length ∧ IsSs w' s.1 (ownL t ++ ((kidsT t).take i).flatMap labelsT) ∧ Fr none1 w w' ∧ IsTs w' u (kidsT t) ∧ (∀ k, blkOf s.1 k → w.heap.size ≤ k ∧ ¬ blkOf u k)) (fun s _ => (2 - s.2.1).toNat)
    ⟨0, rfl, Nat.zero_le _, by simpa using hs.keep0 f2, f1.trans f2, hu, fun k hk => ⟨sf k hk, fun t => by have := uf k t; have := IsSl.lt hs hk; omega⟩⟩ ?_
  rintro _ ⟨v, i', _⟩ w3 ⟨i, hi, hil, hv, f3, hu3, vf⟩
  dsimp only at hi hv vf ⊢
  subst hi
  refine ifB.dec (fun hlt => ?_) (fun hge => ?_)
  · have hi2 : i < (kidsT t).length := by omega
    obtain ⟨k, hk⟩ : ∃ k, (kidsT t)[i]? = some k := ⟨_, List.getElem?_eq_getElem hi2⟩
    have hkm := List.mem_of_getElem? hk
    have hb := hlt0 (i + 1)
    rw [List.take_add_one, hk] at hb
    simp only [Option.toList_some, List.flatMap_append, List.flatMap_cons, List.flatMap_nil, List.append_nil, List.length_append] at hb
    refine hu3.ld hk ?_
    have hkn : nodesT k ≤ 1000000 := by
      have hnd : t ≠ .none := fun e => by rw [e] at hi2; exact absurd hi2 (by simp [kidsT])
      have hN := nodesT_kids t hnd
      have := sumN_take ((kidsT t).map nodesT) (i + 1)
      rw [← List.map_take, take_next _ _ _ hk, sumN_snoc] at this
      omega
    refine CallK.of (ih k hkm hkn w3) ?_
    rintro _ w4 ⟨x, rfl, hx, f4, xf⟩
    refine ⟨x, rfl, ?_⟩
    obtain ⟨y, w5, hr5, hy, f5, yf⟩ := ss_app (hv.keep0 f4) (IsSl.rd hx) (by rw [List.length_append]; omega)
    have ult := fun k (hk : blkOf u k) => IsSl.lt hu3 hk
    refine ⟨y, w5, hr5, ⟨i + 1, by rw [wI (by omega) (by omega)]; omega, by omega, ?_, (f3.trans f4).comp f5 (fun k _ t => by have := (vf k t).1; omega), IsSl.keep (hu3.keep0 f4) f5 (fun k hk t => (vf k t).2 hk), fun k hk => ?_⟩, by rw [wI (by omega) (by omega)]; omega⟩
    · rw [List.take_add_one, hk]
      simp only [Option.toList_some, List.flatMap_append, List.flatMap_cons, List.flatMap_nil, List.append_nil]
      rw [← List.append_assoc]
      exact hy
    · rcases yf k hk with t | t
      · exact vf k t
      · have := (f3.trans f4).size
        have := f4.size
        exact ⟨by omega, fun q => by have := ult k q; omega⟩
  · have : i = (kidsT t).length := by omega
    subst this
    rw [List.take_length, ← hL] at hv
    exact ⟨v, rfl, hv, f3, fun k hk => (vf k hk).1⟩
termination_by SizeOf.sizeOf t
decreasing_by exact kidsT_lt hk

/-! ### May a contract be? -/
theorem scontains_spec {w : World} {v : Sl} {l : List (List UInt8)} (h : RdSl w 1 v (l.map sv)) (hl : l.length ≤ 100000000) (s : List UInt8) :
    Ret Tryz.prog 119 #[.slice v.1 v.2.1 v.2.2, .string (str s)] w fun r w' => r = .bool (decide (s ∈ l)) ∧ w = w' := by
  have hlen : v.2.1 = l.length := by have := h.1; rw [List.length_map, Nat.mul_one] at this; exact this.symm
  refine c119 v.1 v.2.1 v.2.2 (str s) w _ ?_
  have hx : Ret Tryz.prog 158 #[.slice v.1 v.2.1 v.2.2, .string (str s)] w fun r w' => (∃ i : Int, r = .int .i64 i ∧ decide (i ≥ 0) = decide (s ∈ l)) ∧ w = w' := by
    refine c158 v.1 v.2.1 v.2.2 (str s) w _ ?_
    refine LoopK.of (fun st w' => ∃ i : Nat, st.1 = i ∧ i ≤ l.length ∧ s ∉ l.take i ∧ w = w') (fun st _ => (v.2.1 - st.1).toNat) ⟨0, rfl, Nat.zero_le _, by simp, rfl⟩ ?_
    rintro _ ⟨i', _⟩ _ ⟨i, hi, hil, hno, rfl⟩
    dsimp only at hi ⊢
    subst hi
    refine ifB.dec (fun hlt => ?_) (fun hge => ?_)
    · have hi2 : i < l.length := by omega
      obtain ⟨x, hx⟩ : ∃ x, l[i]? = some x := ⟨_, List.getElem?_eq_getElem hi2⟩
      refine RdSl.ld h (by omega) hlt (c := .str) (x := str x) (by rw [Int.toNat_natCast, List.getElem?_map, hx]; rfl) ?_
      rw [str_beq]
      refine ifB.dec (fun he => ?_) (fun hne => ?_)
      · subst he
        refine ⟨⟨(i : Int), rfl, ?_⟩, rfl⟩
        rw [decide_eq_true (by omega), decide_eq_true (List.mem_of_getElem? hx)]
      · refine ⟨⟨i + 1, by rw [wI (by omega) (by omega)]; omega, by omega, ?_, rfl⟩, by rw [wI (by omega) (by omega)]; omega⟩
        rw [List.take_add_one, hx]
        simp only [Option.toList_some, List.mem_append, List.mem_singleton]
        rintro (t | t)
        · exact hno t
        · exact hne t
    · refine ⟨⟨-1, rfl, ?_⟩, rfl⟩
      rw [List.take_of_length_le (by omega)] at hno
      rw [decide_eq_false hno]; rfl
  refine CallK.of hx ?_
  rintro _ _ ⟨⟨i, rfl, hi⟩, rfl⟩
  exact ⟨i, rfl, by rw [hi], rfl⟩

theorem nodup_take {α : Type} (l : List α) : (∀ j x, l[j]? = some x → x ∉ l.take j) ↔ l.Nodup := by
  unfold List.Nodup
  rw [List.pairwise_iff_getElem]
  constructor
  · intro h i j hi hj hij heq
    refine h j l[j] (List.getElem?_eq_getElem hj) ?_
    rw [List.mem_take_iff_getElem]
    exact ⟨i, by omega, heq⟩
  · intro h j x hx hm
    obtain ⟨hj, rfl⟩ := List.getElem?_eq_some_iff.1 hx
    rw [List.mem_take_iff_getElem] at hm
    obtain ⟨i, hi, heq⟩ := hm
    exact h i j (by omega) hj (by omega) heq

theorem tcheck_spec (t : Tm) (hn : nodesT t ≤ 1000000) (w : World) : Ret Tryz.prog 66 #[t.v] w fun r w' => r = .int .i64 (checkT t) ∧ Fr none1 w w' := by
  refine c66 t.v w _ ?_
  refine CallK.of (tform_spec t hn w) ?_
  rintro _ w1 ⟨rfl, f1⟩
  unfold checkT
  refine ⟨_, rfl, ifB.not (ifB.by (fun h => ?_) (fun h => ?_))⟩
  case refine_2 => rw [if_pos h]; exact ⟨rfl, f1⟩
  rw [if_neg (by simp [h])]
  refine CallK.of (tsize_spec t hn w1) ?_
  rintro _ w2 ⟨rfl, f2⟩
  refine ⟨((nodesT t : Int), (depthT t : Int), ()), rfl, ?_⟩
  dsimp only
  refine ifB.dec (fun h => ?_) (fun h => ?_)
  · rw [if_pos (by omega)]; exact ⟨rfl, f1.trans f2⟩
  rw [if_neg (by omega)]
  refine ifB.dec (fun h => ?_) (fun h => ?_)
  · rw [if_pos (by omega)]; exact ⟨rfl, f1.trans f2⟩
  rw [if_neg (by omega)]
  refine CallK.of (tlabels_spec t hn w2) ?_
  rintro _ w3 ⟨u, rfl, hu, f3, _⟩
  refine ⟨u, rfl, ?_⟩
  have hul := hu.len
  have hll := labelsT_len t
  have hcap : u.2.1 ≤ u.2.2 := by
    rcases hu with ⟨rfl, _⟩ | ⟨g, off, cs, _, _, hle, _⟩
    · exact Nat.le_refl _
    · exact hle
  have fr := (f1.trans f2).trans f3
  refine LoopK.of (fun s w' => ∃ i : Nat, s.1 = i ∧ i ≤ (labelsT t).length ∧ (∀ j x, j < i → (labelsT t)[j]? = some x → x ∉ (labelsT t).take j) ∧ w3 = w') (fun s _ => (u.2.1 - s.1).toNat) ⟨0, rfl, Nat.zero_le _, fun j x hj => absurd hj (by omega), rfl⟩ ?_
  rintro _ ⟨i', _⟩ _ ⟨i, hi, hil, hall, rfl⟩
  dsimp only at hi ⊢
  subst hi
  refine ifB.dec (fun hlt => ?_) (fun hge => ?_)
  · have hi2 : i < (labelsT t).length := by omega
    obtain ⟨x, hx⟩ : ∃ x, (labelsT t)[i]? = some x := ⟨_, List.getElem?_eq_getElem hi2⟩
    refine hu.ld hx ?_
    refine RdSl.sub (IsSl.rd hu) (by omega) (by omega) hcap fun hs => ?_
    rw [Int.toNat_natCast] at hs ⊢
    rw [← List.map_take] at hs
    refine CallK.of (scontains_spec hs (by rw [List.length_take]; omega) x) ?_
    rintro _ _ ⟨rfl, rfl⟩
    refine ⟨_, rfl, ifB.dec (fun hm => ?_) (fun hm => ?_)⟩
    · rw [if_neg (fun hd => (nodup_take _).2 hd i x hx hm)]
      exact ⟨rfl, fr⟩
    · refine ⟨⟨i + 1, by rw [wI (by omega) (by omega)]; omega, by omega, fun j y hj hy => ?_, rfl⟩, by rw [wI (by omega) (by omega)]; omega⟩
      by_cases hji : j < i
      · exact hall j y hji hy
      · have : j = i := by omega
        subst this
        rw [hx] at hy; injection hy with hy; subst hy
        exact hm
  · rw [if_pos ((nodup_take _).1 fun j x hx => hall j x (by have := (List.getElem?_eq_some_iff.1 hx).1; omega) hx)]
    exact ⟨rfl, fr⟩

end Go.Proofs.YtlhbfdakceipkaaGreatDoor

/-! ### RuneSl -/
set_option linter.unusedVariables false
set_option maxRecDepth 100000
namespace Go.Proofs.YtlhbfdakceipkaaGreatDoor
open Vc

/-! ### Plain -/
theorem nameF_all : ∀ (rs : List Int) (n : Nat), (∀ r ∈ rs, isLet r = true) → (n = 0 → isDig (rs.headD 0) = false) → n ≤ 12 → 0 < n + rs.length → nameF n rs = decide (n + rs.length ≤ 12)
  | [], n, _, _, h12, hp => by
    simp only [List.length_nil, Nat.add_zero] at hp ⊢
    rw [decide_eq_true (by omega)]
    exact decide_eq_true hp
  | r :: rs, n, hl, hd, h12, hp => by
    have h1 := hl r (by simp)
    unfold nameF
    rw [if_neg (by simp [h1]), if_neg (fun t => by have := hd t.1; simp at this; rw [this] at t; cases t.2)]
    by_cases h : 12 < n + 1
    · rw [if_pos h, decide_eq_false (by simp only [List.length_cons]; omega)]
    · rw [if_neg h, nameF_all rs (n + 1) (fun x hx => hl x (by simp [hx])) (fun t => by omega) (by omega) (by omega)]
      exact decide_eq_decide.2 (by simp only [List.length_cons]; omega)
theorem nameF_bad : ∀ (rs : List Int) (n : Nat), (∃ r ∈ rs, isLet r = false) → nameF n rs = false
  | [], n, h => by simp at h
  | r :: rs, n, ⟨x, hx, hb⟩ => by
    unfold nameF
    split
    · rfl
    split
    · rfl
    split
    · rfl
    rename_i h1 _ _
    rcases List.mem_cons.1 hx with rfl | hx
    · exact absurd hb h1
    · exact nameF_bad rs (n + 1) ⟨x, hx, hb⟩

/-! ### Slices of runes -/
theorem elem_rune : ElemOk Tryz.prog 131 21 1 (.int .i32 0) 4 := ⟨Tryz.underlying131, ⟨Tryz.t21, by kernel_rfl, rfl, rfl, rfl⟩, rfl, by decide⟩
def IsR (w : World) (v : Sl) (rs : List Int) : Prop := IsSl w 21 1 v (rs.map (Value.int .i32))

theorem IsR.txt {w : World} {v : Sl} {rs : List Int} (h : IsR w v rs) : (convert 131 9 (.slice v.1 v.2.1 v.2.2)).run Tryz.prog w = .ok (.string (str (txt rs))) w := by
  have hr := IsSl.rd h
  have hl := IsSl.len h
  rw [List.length_map, Nat.mul_one] at hl
  obtain ⟨h1, h2, h3⟩ := hr
  cases hv : v.1 with
  | none =>
    have := (h2 hv).2.2
    have : rs = [] := by simpa using this
    subst this
    exact run_convert_runes_nil w _ _ _ _ _ Tryz.underlying131 Tryz.underlying21 Tryz.underlying9
  | some a =>
    have hc := h3 a hv
    rw [run_convert_runes w _ _ _ a v.2.1 v.2.2 rs (by omega) Tryz.underlying131 Tryz.underlying21 Tryz.underlying9 (fun j hj => ?_), List.take_of_length_le (by omega), runesBytes_txt]
    have := cellsAt_get _ 0 j (.int .i32 (rs.getD j 0)) hc (by rw [List.getElem?_map, List.getD_eq_getElem?_getD, List.getElem?_eq_getElem hj]; rfl)
    rwa [Nat.zero_add] at this

theorem r_snoc {w : World} {v : Sl} {rs : List Int} (h : IsR w v rs) (c : Int) (hl : rs.length ≤ 1000000) {K : Sl → World → Prop}
    (hK : ∀ y w', IsR w' y (rs ++ [c]) → Fr (blkOf v) w w' → (∀ k, blkOf y k → blkOf v k ∨ w.heap.size ≤ k) → K y w') :
    RunK Tryz.prog (Instr.buildSlice 131 1 #[(0, .int .i32 c)]) w (.v (.one .slc)) fun (y : Option Addr × Nat × Nat) w' =>
      RunK Tryz.prog (Builtin.append_ #[131, 131] 131 #[.slice v.1 v.2.1 v.2.2, .slice y.1 y.2.1 y.2.2]) w' (.v (.one .slc)) fun (u : Option Addr × Nat × Nat) w'' => K u w'' := by
  have hvl := IsSl.len h
  rw [List.length_map, Nat.mul_one] at hvl
  refine append_one elem_rune 131 h (.int .i32 c) rfl rfl (by omega) fun y w' hy _ f yf => hK y w' ?_ f yf
  unfold IsR
  rw [List.map_append]
  exact hy

theorem IsR.ld {w : World} {v : Sl} {rs : List Int} (h : IsR w v rs) {i : Int} (h0 : 0 ≤ i) (h1 : i < v.2.1) {K : Int → Prop} (k : K (rs.getD i.toNat 0)) : IdxK v.1 v.2.1 i 1 fun p => LdK (.int .i32) p w K := by
  have hl := IsSl.len h
  rw [List.length_map, Nat.mul_one] at hl
  refine IsSl.ld h h0 h1 (x := rs.getD i.toNat 0) ?_ k
  rw [List.getElem?_map, List.getD_eq_getElem?_getD, List.getElem?_eq_getElem (by omega)]
  rfl
theorem IsR.len {w : World} {v : Sl} {rs : List Int} (h : IsR w v rs) : v.2.1 = rs.length := by
  have hl := IsSl.len h
  rw [List.length_map, Nat.mul_one] at hl
  exact hl.symm

end Go.Proofs.YtlhbfdakceipkaaGreatDoor

/-! ### CRefN -/
namespace Go.Proofs.YtlhbfdakceipkaaGreatDoor
open Vc
set_option maxRecDepth 100000
set_option linter.unusedVariables false
/-- handfast/handfastref01.runes -/
def C120 (p0 : ByteArray) (w : World) (K : Value → World → Prop) : Prop :=
  RunK Tryz.prog (Instr.range 9 (.string p0)) w (.v (.one .ptr)) (fun (x1 : Option Addr) w2 => LoopK ((Option Addr × Nat × Nat) × Unit) (fun _ s3 w4 next5 => NextK x1 w4 (fun x6 x7 w8 => RunK Tryz.prog (Instr.buildSlice 131 1 #[(0, .int .i32 x7)]) w8 (.v (.one .slc)) (fun (x9 : Option Addr × Nat × Nat) w10 => RunK Tryz.prog (Builtin.append_ #[131, 131] 131 #[.slice s3.1.1 s3.1.2.1 s3.1.2.2, .slice x9.1 x9.2.1 x9.2.2]) w10 (.v (.one .slc)) (fun (x11 : Option Addr × Nat × Nat) w12 => next5 ((x11.1, x11.2.1, x11.2.2), ()) w12)))
  (K (.slice s3.1.1 s3.1.2.1 s3.1.2.2) w4))
  ((none, 0, 0), ()) w2)
def pl120 : Plan := (.seq .auto (.seq .auto (.seq (.seq .auto (.block (.loop [(3, .one .slc)] .auto))) .auto)))
theorem e120 (p0 : ByteArray) (w : World) (K : Value → World → Prop) : vcFunc Tryz.prog Tryz.f120 pl120 [.string p0] w K = C120 p0 w K := by kernel_rfl
theorem c120 (p0 : ByteArray) (w : World) (K : Value → World → Prop) (h : C120 p0 w K) : Ret Tryz.prog 120 #[.string p0] w K := by
  rw [← e120] at h
  exact vcFunc_sound (by kernel_rfl) Tryz.func120 h

/-- handfast/handfastref01.Letter -/
def C121 (p0 : Int) (w : World) (K : Value → World → Prop) : Prop :=
  ifB (decide (p0 ≥ 97))
  (ifB (decide (p0 ≤ 122))
  (K (.bool true) w)
  (ifB (decide (p0 ≥ 48))
  (ifB (decide (p0 ≤ 57))
  (K (.bool true) w)
  (ifB (p0 == 95)
  (K (.bool true) w)
  (ifB (decide (p0 ≥ 128))
  (K (.bool (p0 != 65533)) w)
  (K (.bool false) w))))
  (ifB (p0 == 95)
  (K (.bool true) w)
  (ifB (decide (p0 ≥ 128))
  (K (.bool (p0 != 65533)) w)
  (K (.bool false) w)))))
  (ifB (decide (p0 ≥ 48))
  (ifB (decide (p0 ≤ 57))
  (K (.bool true) w)
  (ifB (p0 == 95)
  (K (.bool true) w)
  (ifB (decide (p0 ≥ 128))
  (K (.bool (p0 != 65533)) w)
  (K (.bool false) w))))
  (ifB (p0 == 95)
  (K (.bool true) w)
  (ifB (decide (p0 ≥ 128))
  (K (.bool (p0 != 65533)) w)
  (K (.bool false) w))))
def pl121 : Plan := .auto
theorem e121 (p0 : Int) (w : World) (K : Value → World → Prop) : vcFunc Tryz.prog Tryz.f121 pl121 [.int .i32 p0] w K = C121 p0 w K := by kernel_rfl
theorem c121 (p0 : Int) (w : World) (K : Value → World → Prop) (h : C121 p0 w K) : Ret Tryz.prog 121 #[.int .i32 p0] w K := by
  rw [← e121] at h
  exact vcFunc_sound (by kernel_rfl) Tryz.func121 h

/-- handfast/handfastref01.Name -/
def C150 (p0 : ByteArray) (w : World) (K : Value → World → Prop) : Prop :=
  CallK Tryz.prog 120 #[.string p0] w (.v (.one .slc)) (fun (x1 : Option Addr × Nat × Nat) w2 => LoopK (Int × Unit) (fun _ s3 w4 next5 => ifB (decide (s3.1 < (x1.2.1 : Int)))
  (IdxK x1.1 x1.2.1 s3.1 1 (fun a6 => LdK (.int .i32) a6 w4 (fun (x7 : Int) => CallK Tryz.prog 121 #[.int .i32 x7] w4 (.v (.one .bool)) (fun (x8 : Bool) w9 => ifB (!x8)
  (K (.bool false) w9)
  (ifB (s3.1 == 0)
  (IdxK x1.1 x1.2.1 s3.1 1 (fun a10 => LdK (.int .i32) a10 w9 (fun (x11 : Int) => ifB (decide (x11 ≥ 48))
  (IdxK x1.1 x1.2.1 s3.1 1 (fun a12 => LdK (.int .i32) a12 w9 (fun (x13 : Int) => ifB (decide (x13 ≤ 57))
  (K (.bool false) w9)
  (next5 (IntKind.i64.wrap (s3.1 + 1), ()) w9))))
  (next5 (IntKind.i64.wrap (s3.1 + 1), ()) w9))))
  (next5 (IntKind.i64.wrap (s3.1 + 1), ()) w9))))))
  (ifB (decide ((x1.2.1 : Int) ≥ 1))
  (K (.bool (decide ((x1.2.1 : Int) ≤ 12))) w4)
  (K (.bool false) w4)))
  (0, ()) w2)
def pl150 : Plan := (.seq .auto (.seq .auto (.seq (.seq .auto (.block (.loop [(9, .one (.int .i64))] .auto))) .auto)))
theorem e150 (p0 : ByteArray) (w : World) (K : Value → World → Prop) : vcFunc Tryz.prog Tryz.f150 pl150 [.string p0] w K = C150 p0 w K := by kernel_rfl
theorem c150 (p0 : ByteArray) (w : World) (K : Value → World → Prop) (h : C150 p0 w K) : Ret Tryz.prog 150 #[.string p0] w K := by
  rw [← e150] at h
  exact vcFunc_sound (by kernel_rfl) Tryz.func150 h

/-- handfast/handfastref01.Valid -/
def C103 (p0 : Int) (w : World) (K : Value → World → Prop) : Prop :=
  ifB (decide (p0 ≥ (-1000000000000)))
  (K (.bool (decide (p0 ≤ 1000000000000))) w)
  (K (.bool false) w)
def pl103 : Plan := .auto
theorem e103 (p0 : Int) (w : World) (K : Value → World → Prop) : vcFunc Tryz.prog Tryz.f103 pl103 [.int .i64 p0] w K = C103 p0 w K := by kernel_rfl
theorem c103 (p0 : Int) (w : World) (K : Value → World → Prop) (h : C103 p0 w K) : Ret Tryz.prog 103 #[.int .i64 p0] w K := by
  rw [← e103] at h
  exact vcFunc_sound (by kernel_rfl) Tryz.func103 h

end Go.Proofs.YtlhbfdakceipkaaGreatDoor

/-! ### RefName -/
set_option linter.unusedVariables false
set_option maxRecDepth 100000
namespace Go.Proofs.YtlhbfdakceipkaaGreatDoor
open Vc

/-! ### The document's own -/
theorem rletter_spec (r : Int) (w : World) : Ret Tryz.prog 121 #[.int .i32 r] w fun v w' => v = .bool (isLet r) ∧ w = w' := by
  refine c121 r w _ ?_
  unfold C121
  have tl : isLet r = (r == 95 || (decide (128 ≤ r) && r != 65533)) → ifB (r == 95) ((.bool true : Value) = .bool (isLet r) ∧ w = w) (ifB (decide (r ≥ 128)) ((.bool (r != 65533) : Value) = .bool (isLet r) ∧ w = w) ((.bool false : Value) = .bool (isLet r) ∧ w = w)) := fun h => by
    rw [h]
    refine ifB.by (fun h2 => ?_) (fun h2 => ?_)
    · rw [h2]; exact ⟨rfl, rfl⟩
    rw [h2, Bool.false_or]
    refine ifB.dec (fun h3 => ?_) (fun h3 => ?_)
    · rw [decide_eq_true (p := 128 ≤ r) (by omega)]; exact ⟨by rw [Bool.true_and], rfl⟩
    · rw [decide_eq_false (p := 128 ≤ r) (by omega)]; exact ⟨rfl, rfl⟩
  have mid : (decide (97 ≤ r) && decide (r ≤ 122)) = false → ifB (decide (r ≥ 48)) (ifB (decide (r ≤ 57)) ((.bool true : Value) = .bool (isLet r) ∧ w = w) (ifB (r == 95) ((.bool true : Value) = .bool (isLet r) ∧ w = w) (ifB (decide (r ≥ 128)) ((.bool (r != 65533) : Value) = .bool (isLet r) ∧ w = w) ((.bool false : Value) = .bool (isLet r) ∧ w = w))))
      (ifB (r == 95) ((.bool true : Value) = .bool (isLet r) ∧ w = w) (ifB (decide (r ≥ 128)) ((.bool (r != 65533) : Value) = .bool (isLet r) ∧ w = w) ((.bool false : Value) = .bool (isLet r) ∧ w = w))) := fun h => by
    refine ifB.dec (fun h1 => ?_) (fun h1 => ?_)
    · refine ifB.dec (fun h2 => ?_) (fun h2 => ?_)
      · refine ⟨?_, rfl⟩
        unfold isLet isDig
        rw [decide_eq_true (p := 48 ≤ r) (by omega), decide_eq_true (p := r ≤ 57) (by omega)]; simp
      · refine tl ?_
        unfold isLet isDig
        rw [h, decide_eq_false (p := r ≤ 57) (by omega), Bool.and_false, Bool.false_or, Bool.false_or]
    · refine tl ?_
      unfold isLet isDig
      rw [h, decide_eq_false (p := 48 ≤ r) (by omega), Bool.false_and, Bool.false_or, Bool.false_or]
  refine ifB.dec (fun h => ?_) (fun h => ?_)
  · refine ifB.dec (fun h2 => ?_) (fun h2 => ?_)
    · unfold isLet
      rw [decide_eq_true (p := 97 ≤ r) (by omega), decide_eq_true (p := r ≤ 122) (by omega)]; exact ⟨rfl, rfl⟩
    · exact mid (by rw [decide_eq_false (p := r ≤ 122) (by omega), Bool.and_false])
  · exact mid (by rw [decide_eq_false (p := 97 ≤ r) (by omega), Bool.false_and])

theorem rrunes_spec (bs : List UInt8) (hl : bs.length ≤ 1000000) (w : World) : Ret Tryz.prog 120 #[.string (str bs)] w fun r w' => ∃ v : Sl, r = .slice v.1 v.2.1 v.2.2 ∧ IsR w' v (runesL bs) ∧ Fr none1 w w' ∧ ∀ k, blkOf v k → w.heap.size ≤ k := by
  refine c120 _ w _ ?_
  refine range_okS bs fun r w1 hr hit f1 => ?_
  have hrl := runesL_len bs
  have s1 := f1.size
  refine LoopK.of (fun s w' => ∃ (done rest : List Int), runesL bs = done ++ rest ∧ IsR w' s.1 done ∧ (∀ k, blkOf s.1 k → w.heap.size < k) ∧ IsIt w' r rest ∧ Fr none1 w w') (fun _ w' => itLen w' r)
    ⟨[], _, rfl, .inl ⟨rfl, rfl⟩, (fun k ⟨a, ha, _⟩ => by cases ha), hit, f1⟩ ?_
  rintro _ ⟨v, _⟩ w2 ⟨done, rest, heq, hv, hvf, hit2, f2⟩
  dsimp only at hv hvf ⊢
  refine next_ok hit2 (fun c rest' pos w3 hc hok hit3 f3 => ?_) (fun hnil => ?_)
  · subst hc
    have hdl : done.length ≤ 1000000 := by
      have := congrArg List.length heq
      rw [List.length_append] at this; omega
    have fw3 : Fr none1 w w3 := f2.fresh f3 (by omega)
    have hv3 : IsR w3 v done := IsSl.keep hv f3 (fun k hk t => by have := hvf k hk; have : k = r := t; omega)
    refine r_snoc hv3 c hdl fun u w4 hu f4 uf => ?_
    have hit4 := hit3.keep f4 (fun t => by have := hvf r t; omega)
    have rlt := hit3.lt
    refine ⟨⟨done ++ [c], rest', by rw [heq]; simp, hu, fun k hk => ?_, hit4, fw3.comp f4 (fun k hk t => by have := hvf k t; omega)⟩, by rw [hit4.left, hit2.left]; simp⟩
    rcases uf k hk with t | t
    · exact hvf k t
    · omega
  · subst hnil
    rw [List.append_nil] at heq
    exact ⟨v, rfl, by rw [heq]; exact hv, f2, fun k hk => by have := hvf k hk; omega⟩

theorem rname_spec (bs : List UInt8) (hl : bs.length ≤ 1000000) (w : World) : Ret Tryz.prog 150 #[.string (str bs)] w fun v w' => v = .bool (nameF 0 (runesL bs)) ∧ Fr none1 w w' := by
  refine c150 _ w _ ?_
  refine CallK.of (rrunes_spec bs hl w) ?_
  rintro _ w1 ⟨v, rfl, hv, f1, _⟩
  refine ⟨v, rfl, ?_⟩
  have hrl := runesL_len bs
  generalize runesL bs = rs at *
  have hvl := hv.len
  have mem : ∀ j, j < rs.length → rs.getD j 0 ∈ rs := fun j hj => by rw [List.getD_eq_getElem?_getD, List.getElem?_eq_getElem hj]; exact List.getElem_mem _
  refine LoopK.of (fun s w' => w1 = w' ∧ 0 ≤ s.1 ∧ s.1 ≤ rs.length ∧ (∀ j : Nat, (j : Int) < s.1 → isLet (rs.getD j 0) = true) ∧ (0 < s.1 → isDig (rs.getD 0 0) = false)) (fun s _ => (rs.length - s.1).toNat)
    ⟨rfl, Int.le_refl _, by dsimp only; omega, fun j hj => by dsimp only at hj; omega, fun t => by dsimp only at t; omega⟩ ?_
  rintro _ ⟨i, _⟩ _ ⟨rfl, i0, i1, hlet, hdig⟩
  dsimp only at i0 i1 hlet hdig ⊢
  refine ifB.dec (fun hlt => ?_) (fun hge => ?_)
  · refine hv.ld i0 hlt ?_
    refine CallK.of (rletter_spec _ w1) ?_
    rintro _ _ ⟨rfl, rfl⟩
    refine ⟨_, rfl, ?_⟩
    have hi : i.toNat < rs.length := by omega
    refine ifB.by (fun hb => ?_) (fun hb => ?_)
    · refine ⟨?_, f1⟩
      rw [nameF_bad rs 0 ⟨_, mem _ hi, by simpa using hb⟩]
    have hli : isLet (rs.getD i.toNat 0) = true := by simpa using hb
    have next : (0 < i + 1 → isDig (rs.getD 0 0) = false) → ((w1 = w1 ∧ 0 ≤ IntKind.i64.wrap (i + 1) ∧ IntKind.i64.wrap (i + 1) ≤ rs.length ∧ (∀ j : Nat, (j : Int) < IntKind.i64.wrap (i + 1) → isLet (rs.getD j 0) = true) ∧ (0 < IntKind.i64.wrap (i + 1) → isDig (rs.getD 0 0) = false)) ∧ (rs.length - IntKind.i64.wrap (i + 1)).toNat < (rs.length - i).toNat) := fun hd => by
      rw [wI (by omega) (by omega)]
      refine ⟨⟨rfl, by omega, by omega, fun j hj => ?_, hd⟩, by omega⟩
      by_cases hji : (j : Int) < i
      · exact hlet j hji
      · rw [show j = i.toNat by omega]; exact hli
    refine ifB.eq (fun h0 => ?_) (fun h0 => ?_)
    · subst h0
      have e0 : (0 : Int).toNat = 0 := rfl
      refine hv.ld i0 hlt ?_
      rw [e0]
      have fin : isDig (rs.getD 0 0) = true → nameF 0 rs = false := fun hd => by
        cases rs with
        | nil => simp at hi
        | cons r l =>
          unfold nameF
          have hli : isLet r = true := hli
          rw [if_neg (by simp [hli]), if_pos ⟨rfl, hd⟩]
      refine ifB.dec (fun h48 => ?_) (fun h48 => ?_)
      · refine hv.ld i0 hlt ?_
        rw [e0]
        refine ifB.dec (fun h57 => ?_) (fun h57 => ?_)
        · refine ⟨?_, f1⟩
          rw [fin (by unfold isDig; rw [decide_eq_true (p := 48 ≤ rs.getD 0 0) (by omega), decide_eq_true (p := rs.getD 0 0 ≤ 57) (by omega)]; rfl)]
        · exact next fun _ => by unfold isDig; rw [decide_eq_false (p := rs.getD 0 0 ≤ 57) (by omega), Bool.and_false]
      · exact next fun _ => by unfold isDig; rw [decide_eq_false (p := 48 ≤ rs.getD 0 0) (by omega), Bool.false_and]
    · exact next fun _ => hdig (by omega)
  · have hall : ∀ r ∈ rs, isLet r = true := fun r hr => by
      obtain ⟨j, hj, rfl⟩ := List.mem_iff_getElem.1 hr
      have := hlet j (by omega)
      rwa [List.getD_eq_getElem?_getD, List.getElem?_eq_getElem hj] at this
    refine ifB.dec (fun h1 => ?_) (fun h1 => ?_)
    · refine ⟨?_, f1⟩
      rw [nameF_all rs 0 hall (fun _ => ?_) (by omega) (by omega)]
      · congr 1
        exact decide_eq_decide.2 (by omega)
      · have := hdig (by omega)
        cases rs with
        | nil => rfl
        | cons r l => exact this
    · refine ⟨?_, f1⟩
      have : rs = [] := List.eq_nil_of_length_eq_zero (by omega)
      rw [this]; rfl

theorem rvalid_spec (n : Int) (w : World) : Ret Tryz.prog 103 #[.int .i64 n] w fun r w' => r = .bool (decide (-1000000000000 ≤ n) && decide (n ≤ 1000000000000)) ∧ w = w' := by
  refine c103 n w _ ?_
  unfold C103
  refine ifB.dec (fun h => ?_) (fun h => ?_)
  · rw [decide_eq_true (show -1000000000000 ≤ n from h)]; exact ⟨rfl, rfl⟩
  · rw [decide_eq_false (show ¬ -1000000000000 ≤ n from h)]; exact ⟨rfl, rfl⟩

end Go.Proofs.YtlhbfdakceipkaaGreatDoor

/-! ### CRef04 -/
namespace Go.Proofs.YtlhbfdakceipkaaGreatDoor
open Vc
set_option maxRecDepth 100000
set_option linter.unusedVariables false
/-- handfast/handfastref04.form -/
def C128 (p0 : Int × ByteArray × Int × (Option Addr × Nat × Nat) × Unit) (p1 : Bool) (w : World) (K : Value → World → Prop) : Prop :=
  NewK (.cells #[.int .i64 p0.1, .string p0.2.1, .int .i64 p0.2.2.1, .slice p0.2.2.2.1.1 p0.2.2.2.1.2.1 p0.2.2.2.1.2.2] 33) w (fun g1 w2 => JoinK (Unit) (fun J3 => LdK (.int .i64) ((⟨g1, 0, none⟩ : Addr).add 0) w2 (fun (x6 : Int) => JoinK (Bool × Unit) (fun J7 => ifB (x6 == 1)
  (J7 ((x6 == 1), ()) w2)
  (ifB (x6 == 3)
  (J7 ((x6 == 3), ()) w2)
  (ifB (x6 == 4)
  (J7 ((x6 == 4), ()) w2)
  (ifB (x6 == 14)
  (J7 ((x6 == 14), ()) w2)
  (ifB (x6 == 13)
  (J7 ((x6 == 13), ()) w2)
  (ifB (x6 == 15)
  (J7 ((x6 == 15), ()) w2)
  (ifB (x6 == 16)
  (J7 ((x6 == 16), ()) w2)
  (ifB (x6 == 6)
  (J7 ((x6 == 6), ()) w2)
  (J7 ((x6 == 8), ()) w2)))))))))
  (fun _ s8 w9 => ifB s8.1
  (J3 (()) w9)
  (JoinK (Bool × Unit) (fun J10 => ifB (x6 == 2)
  (J10 ((x6 == 2), ()) w9)
  (ifB (x6 == 5)
  (J10 ((x6 == 5), ()) w9)
  (J10 ((x6 == 12), ()) w9)))
  (fun _ s11 w12 => ifB s11.1
  (LdK .str ((⟨g1, 0, none⟩ : Addr).add 1) w12 (fun (x13 : ByteArray) => CallK Tryz.prog 150 #[.string x13] w12 (.v (.one .bool)) (fun (x14 : Bool) w15 => ifB (!x14)
  (K (.bool false) w15)
  (J3 (()) w15))))
  (ifB (x6 == 7)
  (LdK (.int .i64) ((⟨g1, 0, none⟩ : Addr).add 2) w12 (fun (x16 : Int) => ifB (decide (x16 < 0))
  (K (.bool false) w12)
  (LdK (.int .i64) ((⟨g1, 0, none⟩ : Addr).add 2) w12 (fun (x17 : Int) => ifB (decide (x17 > 10000))
  (K (.bool false) w12)
  (J3 (()) w12)))))
  (ifB (x6 == 11)
  (LdK (.int .i64) ((⟨g1, 0, none⟩ : Addr).add 2) w12 (fun (x18 : Int) => CallK Tryz.prog 103 #[.int .i64 x18] w12 (.v (.one .bool)) (fun (x19 : Bool) w20 => ifB (!x19)
  (K (.bool false) w20)
  (J3 (()) w20))))
  (K (.bool false) w12))))))))
  (fun _ s4 w5 => LdK (.int .i64) ((⟨g1, 0, none⟩ : Addr).add 0) w5 (fun (x21 : Int) => ifB (!((decide (x21 ≥ 11)) == p1))
  (K (.bool false) w5)
  (LdK .slc ((⟨g1, 0, none⟩ : Addr).add 3) w5 (fun (x22 : Option Addr × Nat × Nat) => LoopK (Int × Unit) (fun _ s23 w24 next25 => ifB (decide (s23.1 < (x22.2.1 : Int)))
  (DrewK w24 (fun w26 => LdK .slc ((⟨g1, 0, none⟩ : Addr).add 3) w26 (fun (x27 : Option Addr × Nat × Nat) => IdxK x27.1 x27.2.1 s23.1 4 (fun a28 => LdsK [.int .i64, .str, .int .i64, .slc] a28 w26 (fun (x29 : Int × ByteArray × Int × (Option Addr × Nat × Nat) × Unit) => ifB p1
  (CallK Tryz.prog 128 #[.agg #[.int .i64 x29.1, .string x29.2.1, .int .i64 x29.2.2.1, .slice x29.2.2.2.1.1 x29.2.2.2.1.2.1 x29.2.2.2.1.2.2], .bool true] w26 (.v (.one .bool)) (fun (x30 : Bool) w31 => ifB (!x30)
  (K (.bool false) w31)
  (next25 (IntKind.i64.wrap (s23.1 + 1), ()) w31)))
  (ifB (s23.1 == 0)
  (LdK (.int .i64) ((⟨g1, 0, none⟩ : Addr).add 0) w26 (fun (x32 : Int) => ifB (x32 == 6)
  (CallK Tryz.prog 128 #[.agg #[.int .i64 x29.1, .string x29.2.1, .int .i64 x29.2.2.1, .slice x29.2.2.2.1.1 x29.2.2.2.1.2.1 x29.2.2.2.1.2.2], .bool true] w26 (.v (.one .bool)) (fun (x33 : Bool) w34 => ifB (!x33)
  (K (.bool false) w34)
  (next25 (IntKind.i64.wrap (s23.1 + 1), ()) w34)))
  (LdK (.int .i64) ((⟨g1, 0, none⟩ : Addr).add 0) w26 (fun (x35 : Int) => CallK Tryz.prog 128 #[.agg #[.int .i64 x29.1, .string x29.2.1, .int .i64 x29.2.2.1, .slice x29.2.2.2.1.1 x29.2.2.2.1.2.1 x29.2.2.2.1.2.2], .bool (x35 == 8)] w26 (.v (.one .bool)) (fun (x36 : Bool) w37 => ifB (!x36)
  (K (.bool false) w37)
  (next25 (IntKind.i64.wrap (s23.1 + 1), ()) w37))))))
  (CallK Tryz.prog 128 #[.agg #[.int .i64 x29.1, .string x29.2.1, .int .i64 x29.2.2.1, .slice x29.2.2.2.1.1 x29.2.2.2.1.2.1 x29.2.2.2.1.2.2], .bool false] w26 (.v (.one .bool)) (fun (x38 : Bool) w39 => ifB (!x38)
  (K (.bool false) w39)
  (next25 (IntKind.i64.wrap (s23.1 + 1), ()) w39)))))))))
  (K (.bool true) w24))
  (0, ()) w5)))))
def pl128 : Plan := (.seq .auto (.join [] (.seq .auto (.block (.join [(8, .one .bool)] .auto (.cond .auto (.join [(18, .one .bool)] .auto .auto))))) (.seq .auto (.seq (.seq .auto (.block (.loop [(50, .one (.int .i64))] (.seq .auto (.seq .auto (.seq (.block (.seq .auto (.seq (.tail 20) .auto))) .auto)))))) .auto))))
theorem e128 (p0 : Int × ByteArray × Int × (Option Addr × Nat × Nat) × Unit) (p1 : Bool) (w : World) (K : Value → World → Prop) : vcFunc Tryz.prog Tryz.f128 pl128 [.agg #[.int .i64 p0.1, .string p0.2.1, .int .i64 p0.2.2.1, .slice p0.2.2.2.1.1 p0.2.2.2.1.2.1 p0.2.2.2.1.2.2], .bool p1] w K = C128 p0 p1 w K := by kernel_rfl
theorem c128 (p0 : Int × ByteArray × Int × (Option Addr × Nat × Nat) × Unit) (p1 : Bool) (w : World) (K : Value → World → Prop) (h : C128 p0 p1 w K) : Ret Tryz.prog 128 #[.agg #[.int .i64 p0.1, .string p0.2.1, .int .i64 p0.2.2.1, .slice p0.2.2.2.1.1 p0.2.2.2.1.2.1 p0.2.2.2.1.2.2], .bool p1] w K := by
  rw [← e128] at h
  exact vcFunc_sound (by kernel_rfl) Tryz.func128 h

/-- handfast/handfastref04.Size -/
def C129 (p0 : Int × ByteArray × Int × (Option Addr × Nat × Nat) × Unit) (w : World) (K : Value → World → Prop) : Prop :=
  NewK (.cells #[.int .i64 p0.1, .string p0.2.1, .int .i64 p0.2.2.1, .slice p0.2.2.2.1.1 p0.2.2.2.1.2.1 p0.2.2.2.1.2.2] 33) w (fun g1 w2 => LdK (.int .i64) ((⟨g1, 0, none⟩ : Addr).add 0) w2 (fun (x3 : Int) => ifB (x3 == 0)
  (K (.tuple #[.int .i64 0, .int .i64 0]) w2)
  (LdK .slc ((⟨g1, 0, none⟩ : Addr).add 3) w2 (fun (x4 : Option Addr × Nat × Nat) => LoopK (Int × Int × Int × Unit) (fun _ s5 w6 next7 => ifB (decide (s5.2.2.1 < (x4.2.1 : Int)))
  (LdK .slc ((⟨g1, 0, none⟩ : Addr).add 3) w6 (fun (x8 : Option Addr × Nat × Nat) => IdxK x8.1 x8.2.1 s5.2.2.1 4 (fun a9 => LdsK [.int .i64, .str, .int .i64, .slc] a9 w6 (fun (x10 : Int × ByteArray × Int × (Option Addr × Nat × Nat) × Unit) => CallK Tryz.prog 129 #[.agg #[.int .i64 x10.1, .string x10.2.1, .int .i64 x10.2.2.1, .slice x10.2.2.2.1.1 x10.2.2.2.1.2.1 x10.2.2.2.1.2.2]] w6 (.tup [.one (.int .i64), .one (.int .i64)]) (fun (x11 : Int × Int × Unit) w12 => next7 (IntKind.i64.wrap (s5.1 + x11.1), (if x11.2.1 > s5.2.1 then x11.2.1 else s5.2.1), IntKind.i64.wrap (s5.2.2.1 + 1), ()) w12)))))
  (K (.tuple #[.int .i64 s5.1, .int .i64 (IntKind.i64.wrap (s5.2.1 + 1))]) w6))
  (1, 0, 0, ()) w2))))
def pl129 : Plan := (.seq .auto (.seq .auto (.seq .auto (.seq (.seq .auto (.block (.loop [(4, .one (.int .i64)), (5, .one (.int .i64)), (15, .one (.int .i64))] .auto))) .auto))))
theorem e129 (p0 : Int × ByteArray × Int × (Option Addr × Nat × Nat) × Unit) (w : World) (K : Value → World → Prop) : vcFunc Tryz.prog Tryz.f129 pl129 [.agg #[.int .i64 p0.1, .string p0.2.1, .int .i64 p0.2.2.1, .slice p0.2.2.2.1.1 p0.2.2.2.1.2.1 p0.2.2.2.1.2.2]] w K = C129 p0 w K := by kernel_rfl
theorem c129 (p0 : Int × ByteArray × Int × (Option Addr × Nat × Nat) × Unit) (w : World) (K : Value → World → Prop) (h : C129 p0 w K) : Ret Tryz.prog 129 #[.agg #[.int .i64 p0.1, .string p0.2.1, .int .i64 p0.2.2.1, .slice p0.2.2.2.1.1 p0.2.2.2.1.2.1 p0.2.2.2.1.2.2]] w K := by
  rw [← e129] at h
  exact vcFunc_sound (by kernel_rfl) Tryz.func129 h

/-- handfast/handfastref04.labels -/
def C130 (p0 : Int × ByteArray × Int × (Option Addr × Nat × Nat) × Unit) (w : World) (K : Value → World → Prop) : Prop :=
  NewK (.cells #[.int .i64 p0.1, .string p0.2.1, .int .i64 p0.2.2.1, .slice p0.2.2.2.1.1 p0.2.2.2.1.2.1 p0.2.2.2.1.2.2] 33) w (fun g1 w2 => JoinK ((Option Addr × Nat × Nat) × Unit) (fun J3 => LdK (.int .i64) ((⟨g1, 0, none⟩ : Addr).add 0) w2 (fun (x6 : Int) => ifB (x6 == 5)
  (LdK .str ((⟨g1, 0, none⟩ : Addr).add 1) w2 (fun (x7 : ByteArray) => RunK Tryz.prog (Instr.buildSlice 23 1 #[(0, .string x7)]) w2 (.v (.one .slc)) (fun (x8 : Option Addr × Nat × Nat) w9 => RunK Tryz.prog (Builtin.append_ #[23, 23] 23 #[.slice none 0 0, .slice x8.1 x8.2.1 x8.2.2]) w9 (.v (.one .slc)) (fun (x10 : Option Addr × Nat × Nat) w11 => J3 ((x10.1, x10.2.1, x10.2.2), ()) w11))))
  (J3 ((none, 0, 0), ()) w2)))
  (fun _ s4 w5 => LdK .slc ((⟨g1, 0, none⟩ : Addr).add 3) w5 (fun (x12 : Option Addr × Nat × Nat) => LoopK ((Option Addr × Nat × Nat) × Int × Unit) (fun _ s13 w14 next15 => ifB (decide (s13.2.1 < (x12.2.1 : Int)))
  (LdK .slc ((⟨g1, 0, none⟩ : Addr).add 3) w14 (fun (x16 : Option Addr × Nat × Nat) => IdxK x16.1 x16.2.1 s13.2.1 4 (fun a17 => LdsK [.int .i64, .str, .int .i64, .slc] a17 w14 (fun (x18 : Int × ByteArray × Int × (Option Addr × Nat × Nat) × Unit) => CallK Tryz.prog 130 #[.agg #[.int .i64 x18.1, .string x18.2.1, .int .i64 x18.2.2.1, .slice x18.2.2.2.1.1 x18.2.2.2.1.2.1 x18.2.2.2.1.2.2]] w14 (.v (.one .slc)) (fun (x19 : Option Addr × Nat × Nat) w20 => RunK Tryz.prog (Builtin.append_ #[23, 23] 23 #[.slice s13.1.1 s13.1.2.1 s13.1.2.2, .slice x19.1 x19.2.1 x19.2.2]) w20 (.v (.one .slc)) (fun (x21 : Option Addr × Nat × Nat) w22 => next15 ((x21.1, x21.2.1, x21.2.2), IntKind.i64.wrap (s13.2.1 + 1), ()) w22))))))
  (K (.slice s13.1.1 s13.1.2.1 s13.1.2.2) w14))
  ((s4.1.1, s4.1.2.1, s4.1.2.2), 0, ()) w5)))
def pl130 : Plan := (.seq .auto (.seq .auto (.join [(3, .one .slc)] .auto (.seq (.seq .auto (.block (.loop [(3, .one .slc), (16, .one (.int .i64))] .auto))) .auto))))
theorem e130 (p0 : Int × ByteArray × Int × (Option Addr × Nat × Nat) × Unit) (w : World) (K : Value → World → Prop) : vcFunc Tryz.prog Tryz.f130 pl130 [.agg #[.int .i64 p0.1, .string p0.2.1, .int .i64 p0.2.2.1, .slice p0.2.2.2.1.1 p0.2.2.2.1.2.1 p0.2.2.2.1.2.2]] w K = C130 p0 w K := by kernel_rfl
theorem c130 (p0 : Int × ByteArray × Int × (Option Addr × Nat × Nat) × Unit) (w : World) (K : Value → World → Prop) (h : C130 p0 w K) : Ret Tryz.prog 130 #[.agg #[.int .i64 p0.1, .string p0.2.1, .int .i64 p0.2.2.1, .slice p0.2.2.2.1.1 p0.2.2.2.1.2.1 p0.2.2.2.1.2.2]] w K := by
  rw [← e130] at h
  exact vcFunc_sound (by kernel_rfl) Tryz.func130 h

/-- handfast/handfastref04.Check -/
def C71 (p0 : Int × ByteArray × Int × (Option Addr × Nat × Nat) × Unit) (p1 : Bool) (w : World) (K : Value → World → Prop) : Prop :=
  NewK (.cells #[.int .i64 p0.1, .string p0.2.1, .int .i64 p0.2.2.1, .slice p0.2.2.2.1.1 p0.2.2.2.1.2.1 p0.2.2.2.1.2.2] 33) w (fun g1 w2 => LdsK [.int .i64, .str, .int .i64, .slc] (⟨g1, 0, none⟩ : Addr) w2 (fun (x3 : Int × ByteArray × Int × (Option Addr × Nat × Nat) × Unit) => CallK Tryz.prog 128 #[.agg #[.int .i64 x3.1, .string x3.2.1, .int .i64 x3.2.2.1, .slice x3.2.2.2.1.1 x3.2.2.2.1.2.1 x3.2.2.2.1.2.2], .bool p1] w2 (.v (.one .bool)) (fun (x4 : Bool) w5 => ifB (!x4)
  (K (.int .i64 2) w5)
  (LdsK [.int .i64, .str, .int .i64, .slc] (⟨g1, 0, none⟩ : Addr) w5 (fun (x6 : Int × ByteArray × Int × (Option Addr × Nat × Nat) × Unit) => CallK Tryz.prog 129 #[.agg #[.int .i64 x6.1, .string x6.2.1, .int .i64 x6.2.2.1, .slice x6.2.2.2.1.1 x6.2.2.2.1.2.1 x6.2.2.2.1.2.2]] w5 (.tup [.one (.int .i64), .one (.int .i64)]) (fun (x7 : Int × Int × Unit) w8 => ifB (decide (x7.1 > 60))
  (K (.int .i64 5) w8)
  (ifB (decide (x7.2.1 > 12))
  (K (.int .i64 5) w8)
  (LdsK [.int .i64, .str, .int .i64, .slc] (⟨g1, 0, none⟩ : Addr) w8 (fun (x9 : Int × ByteArray × Int × (Option Addr × Nat × Nat) × Unit) => CallK Tryz.prog 130 #[.agg #[.int .i64 x9.1, .string x9.2.1, .int .i64 x9.2.2.1, .slice x9.2.2.2.1.1 x9.2.2.2.1.2.1 x9.2.2.2.1.2.2]] w8 (.v (.one .slc)) (fun (x10 : Option Addr × Nat × Nat) w11 => LoopK (Int × Unit) (fun _ s12 w13 next14 => ifB (decide (s12.1 < (x10.2.1 : Int)))
  (LoopK (Int × Unit) (fun _ s15 w16 next17 => ifB (decide (s15.1 < s12.1))
  (DrewK w16 (fun w18 => IdxK x10.1 x10.2.1 s12.1 1 (fun a19 => LdK .str a19 w18 (fun (x20 : ByteArray) => IdxK x10.1 x10.2.1 s15.1 1 (fun a21 => LdK .str a21 w18 (fun (x22 : ByteArray) => ifB (x20.toList == x22.toList)
  (K (.int .i64 4) w18)
  (next17 (IntKind.i64.wrap (s15.1 + 1), ()) w18)))))))
  (next14 (IntKind.i64.wrap (s12.1 + 1), ()) w16))
  (0, ()) w13)
  (K (.int .i64 0) w13))
  (0, ()) w11))))))))))
def pl71 : Plan := (.seq .auto (.seq .auto (.seq .auto (.seq .auto (.seq (.seq .auto (.block (.loop [(29, .one (.int .i64))] (.seq .auto (.seq .auto (.seq (.block (.seq .auto (.seq .auto (.block (.loop [(9, .one (.int .i64))] (.seq .auto (.seq (.block (.seq .still .auto)) .auto))))))) .auto)))))) .auto)))))
theorem e71 (p0 : Int × ByteArray × Int × (Option Addr × Nat × Nat) × Unit) (p1 : Bool) (w : World) (K : Value → World → Prop) : vcFunc Tryz.prog Tryz.f71 pl71 [.agg #[.int .i64 p0.1, .string p0.2.1, .int .i64 p0.2.2.1, .slice p0.2.2.2.1.1 p0.2.2.2.1.2.1 p0.2.2.2.1.2.2], .bool p1] w K = C71 p0 p1 w K := by kernel_rfl
theorem c71 (p0 : Int × ByteArray × Int × (Option Addr × Nat × Nat) × Unit) (p1 : Bool) (w : World) (K : Value → World → Prop) (h : C71 p0 p1 w K) : Ret Tryz.prog 71 #[.agg #[.int .i64 p0.1, .string p0.2.1, .int .i64 p0.2.2.1, .slice p0.2.2.2.1.1 p0.2.2.2.1.2.1 p0.2.2.2.1.2.2], .bool p1] w K := by
  rw [← e71] at h
  exact vcFunc_sound (by kernel_rfl) Tryz.func71 h

/-- handfast/handfastref04.word -/
def C151 (p0 : Int) (w : World) (K : Value → World → Prop) : Prop :=
  RunK Tryz.prog (Instr.buildSlice 23 17 #[(0, .string (⟨#[]⟩ : ByteArray)), (1, .string (⟨#[122, 101, 114, 111]⟩ : ByteArray)), (2, .string (⟨#[111, 110, 101]⟩ : ByteArray)), (3, .string (⟨#[103, 105, 118, 101]⟩ : ByteArray)), (4, .string (⟨#[97, 110, 100]⟩ : ByteArray)), (5, .string (⟨#[111, 114]⟩ : ByteArray)), (6, .string (⟨#[115, 99, 97, 108, 101]⟩ : ByteArray)), (7, .string (⟨#[119, 104, 101, 110]⟩ : ByteArray)), (8, .string (⟨#[105, 102]⟩ : ByteArray)), (9, .string (⟨#[]⟩ : ByteArray)), (10, .string (⟨#[]⟩ : ByteArray)), (11, .string (⟨#[]⟩ : ByteArray)), (12, .string (⟨#[102, 105, 120]⟩ : ByteArray)), (13, .string (⟨#[97, 100, 100]⟩ : ByteArray)), (14, .string (⟨#[110, 101, 103]⟩ : ByteArray)), (15, .string (⟨#[109, 117, 108]⟩ : ByteArray)), (16, .string (⟨#[109, 97, 120]⟩ : ByteArray))]) w (.v (.one .slc)) (fun (x1 : Option Addr × Nat × Nat) w2 => IdxK x1.1 x1.2.1 p0 1 (fun a3 => LdK .str a3 w2 (fun (x4 : ByteArray) => K (.string x4) w2)))
def pl151 : Plan := .auto
theorem e151 (p0 : Int) (w : World) (K : Value → World → Prop) : vcFunc Tryz.prog Tryz.f151 pl151 [.int .i64 p0] w K = C151 p0 w K := by kernel_rfl
theorem c151 (p0 : Int) (w : World) (K : Value → World → Prop) (h : C151 p0 w K) : Ret Tryz.prog 151 #[.int .i64 p0] w K := by
  rw [← e151] at h
  exact vcFunc_sound (by kernel_rfl) Tryz.func151 h

/-- handfast/handfastref04.text -/
def C104 (p0 : Int × ByteArray × Int × (Option Addr × Nat × Nat) × Unit) (w : World) (K : Value → World → Prop) : Prop :=
  NewK (.cells #[.int .i64 p0.1, .string p0.2.1, .int .i64 p0.2.2.1, .slice p0.2.2.2.1.1 p0.2.2.2.1.2.1 p0.2.2.2.1.2.2] 33) w (fun g1 w2 => LdK (.int .i64) ((⟨g1, 0, none⟩ : Addr).add 0) w2 (fun (x3 : Int) => ifB (x3 == 11)
  (LdK (.int .i64) ((⟨g1, 0, none⟩ : Addr).add 2) w2 (fun (x4 : Int) => CallK Tryz.prog 98 #[.int .i64 x4] w2 (.v (.one .str)) (fun (x5 : ByteArray) w6 => K (.string x5) w6)))
  (ifB (x3 == 1)
  (K (.string (⟨#[122, 101, 114, 111]⟩ : ByteArray)) w2)
  (LdK (.int .i64) ((⟨g1, 0, none⟩ : Addr).add 0) w2 (fun (x7 : Int) => CallK Tryz.prog 151 #[.int .i64 x7] w2 (.v (.one .str)) (fun (x8 : ByteArray) w9 => CatK x8 (⟨#[40]⟩ : ByteArray) (JoinK (ByteArray × ByteArray × Unit) (fun J10 => JoinK (Bool × Unit) (fun J13 => LdK (.int .i64) ((⟨g1, 0, none⟩ : Addr).add 0) w9 (fun (x16 : Int) => ifB (x16 == 2)
  (J13 (true, ()) w9)
  (LdK (.int .i64) ((⟨g1, 0, none⟩ : Addr).add 0) w9 (fun (x17 : Int) => ifB (x17 == 5)
  (J13 (true, ()) w9)
  (LdK (.int .i64) ((⟨g1, 0, none⟩ : Addr).add 0) w9 (fun (x18 : Int) => J13 ((x18 == 12), ()) w9))))))
  (fun _ s14 w15 => ifB s14.1
  (LdK .str ((⟨g1, 0, none⟩ : Addr).add 1) w15 (fun (x19 : ByteArray) => CatK (x8 ++ (⟨#[40]⟩ : ByteArray)) x19 (J10 (((x8 ++ (⟨#[40]⟩ : ByteArray)) ++ x19), (⟨#[44]⟩ : ByteArray), ()) w15)))
  (J10 ((x8 ++ (⟨#[40]⟩ : ByteArray)), (⟨#[]⟩ : ByteArray), ()) w15)))
  (fun _ s11 w12 => JoinK (ByteArray × ByteArray × Unit) (fun J20 => LdK (.int .i64) ((⟨g1, 0, none⟩ : Addr).add 0) w12 (fun (x23 : Int) => ifB (x23 == 7)
  (LdK (.int .i64) ((⟨g1, 0, none⟩ : Addr).add 2) w12 (fun (x24 : Int) => CallK Tryz.prog 98 #[.int .i64 x24] w12 (.v (.one .str)) (fun (x25 : ByteArray) w26 => CatK s11.1 x25 (J20 ((s11.1 ++ x25), (⟨#[44]⟩ : ByteArray), ()) w26))))
  (J20 (s11.1, s11.2.1, ()) w12)))
  (fun _ s21 w22 => LdK .slc ((⟨g1, 0, none⟩ : Addr).add 3) w22 (fun (x27 : Option Addr × Nat × Nat) => LoopK (ByteArray × ByteArray × Int × Unit) (fun _ s28 w29 next30 => ifB (decide (s28.2.2.1 < (x27.2.1 : Int)))
  (CatK s28.1 s28.2.1 (LdK .slc ((⟨g1, 0, none⟩ : Addr).add 3) w29 (fun (x31 : Option Addr × Nat × Nat) => IdxK x31.1 x31.2.1 s28.2.2.1 4 (fun a32 => LdsK [.int .i64, .str, .int .i64, .slc] a32 w29 (fun (x33 : Int × ByteArray × Int × (Option Addr × Nat × Nat) × Unit) => CallK Tryz.prog 104 #[.agg #[.int .i64 x33.1, .string x33.2.1, .int .i64 x33.2.2.1, .slice x33.2.2.2.1.1 x33.2.2.2.1.2.1 x33.2.2.2.1.2.2]] w29 (.v (.one .str)) (fun (x34 : ByteArray) w35 => CatK (s28.1 ++ s28.2.1) x34 (next30 (((s28.1 ++ s28.2.1) ++ x34), (⟨#[44]⟩ : ByteArray), IntKind.i64.wrap (s28.2.2.1 + 1), ()) w35)))))))
  (CatK s28.1 (⟨#[41]⟩ : ByteArray) (K (.string (s28.1 ++ (⟨#[41]⟩ : ByteArray))) w29)))
  (s21.1, s21.2.1, 0, ()) w22))))))))))
def pl104 : Plan := (.seq .auto (.seq .auto (.seq .auto (.seq .auto (.join [(3, .one .str), (4, .one .str)] (.join [(31, .one .bool)] .auto .auto) (.join [(3, .one .str), (4, .one .str)] .auto (.seq (.seq .auto (.block (.loop [(3, .one .str), (4, .one .str), (47, .one (.int .i64))] .auto))) .auto)))))))
theorem e104 (p0 : Int × ByteArray × Int × (Option Addr × Nat × Nat) × Unit) (w : World) (K : Value → World → Prop) : vcFunc Tryz.prog Tryz.f104 pl104 [.agg #[.int .i64 p0.1, .string p0.2.1, .int .i64 p0.2.2.1, .slice p0.2.2.2.1.1 p0.2.2.2.1.2.1 p0.2.2.2.1.2.2]] w K = C104 p0 w K := by kernel_rfl
theorem c104 (p0 : Int × ByteArray × Int × (Option Addr × Nat × Nat) × Unit) (w : World) (K : Value → World → Prop) (h : C104 p0 w K) : Ret Tryz.prog 104 #[.agg #[.int .i64 p0.1, .string p0.2.1, .int .i64 p0.2.2.1, .slice p0.2.2.2.1.1 p0.2.2.2.1.2.1 p0.2.2.2.1.2.2]] w K := by
  rw [← e104] at h
  exact vcFunc_sound (by kernel_rfl) Tryz.func104 h

/-- handfast/handfastref04.Write -/
def C62 (p0 : Int × ByteArray × Int × (Option Addr × Nat × Nat) × Unit) (p1 : Bool) (w : World) (K : Value → World → Prop) : Prop :=
  NewK (.cells #[.int .i64 p0.1, .string p0.2.1, .int .i64 p0.2.2.1, .slice p0.2.2.2.1.1 p0.2.2.2.1.2.1 p0.2.2.2.1.2.2] 33) w (fun g1 w2 => LdsK [.int .i64, .str, .int .i64, .slc] (⟨g1, 0, none⟩ : Addr) w2 (fun (x3 : Int × ByteArray × Int × (Option Addr × Nat × Nat) × Unit) => CallK Tryz.prog 71 #[.agg #[.int .i64 x3.1, .string x3.2.1, .int .i64 x3.2.2.1, .slice x3.2.2.2.1.1 x3.2.2.2.1.2.1 x3.2.2.2.1.2.2], .bool p1] w2 (.v (.one (.int .i64))) (fun (x4 : Int) w5 => ifB (x4 != 0)
  (K (.tuple #[.string (⟨#[]⟩ : ByteArray), .int .i64 x4]) w5)
  (LdsK [.int .i64, .str, .int .i64, .slc] (⟨g1, 0, none⟩ : Addr) w5 (fun (x6 : Int × ByteArray × Int × (Option Addr × Nat × Nat) × Unit) => CallK Tryz.prog 104 #[.agg #[.int .i64 x6.1, .string x6.2.1, .int .i64 x6.2.2.1, .slice x6.2.2.2.1.1 x6.2.2.2.1.2.1 x6.2.2.2.1.2.2]] w5 (.v (.one .str)) (fun (x7 : ByteArray) w8 => ifB (decide ((x7.size : Int) > 1000))
  (K (.tuple #[.string (⟨#[]⟩ : ByteArray), .int .i64 5]) w8)
  (K (.tuple #[.string x7, .int .i64 0]) w8)))))))
def pl62 : Plan := .auto
theorem e62 (p0 : Int × ByteArray × Int × (Option Addr × Nat × Nat) × Unit) (p1 : Bool) (w : World) (K : Value → World → Prop) : vcFunc Tryz.prog Tryz.f62 pl62 [.agg #[.int .i64 p0.1, .string p0.2.1, .int .i64 p0.2.2.1, .slice p0.2.2.2.1.1 p0.2.2.2.1.2.1 p0.2.2.2.1.2.2], .bool p1] w K = C62 p0 p1 w K := by kernel_rfl
theorem c62 (p0 : Int × ByteArray × Int × (Option Addr × Nat × Nat) × Unit) (p1 : Bool) (w : World) (K : Value → World → Prop) (h : C62 p0 p1 w K) : Ret Tryz.prog 62 #[.agg #[.int .i64 p0.1, .string p0.2.1, .int .i64 p0.2.2.1, .slice p0.2.2.2.1.1 p0.2.2.2.1.2.1 p0.2.2.2.1.2.2], .bool p1] w K := by
  rw [← e62] at h
  exact vcFunc_sound (by kernel_rfl) Tryz.func62 h

/-- handfast/handfastref04.Same -/
def C29 (p0 : Int × ByteArray × Int × (Option Addr × Nat × Nat) × Unit) (p1 : Int × ByteArray × Int × (Option Addr × Nat × Nat) × Unit) (w : World) (K : Value → World → Prop) : Prop :=
  NewK (.cells #[.int .i64 p0.1, .string p0.2.1, .int .i64 p0.2.2.1, .slice p0.2.2.2.1.1 p0.2.2.2.1.2.1 p0.2.2.2.1.2.2] 33) w (fun g1 w2 => NewK (.cells #[.int .i64 p1.1, .string p1.2.1, .int .i64 p1.2.2.1, .slice p1.2.2.2.1.1 p1.2.2.2.1.2.1 p1.2.2.2.1.2.2] 33) w2 (fun g3 w4 => LdK (.int .i64) ((⟨g1, 0, none⟩ : Addr).add 0) w4 (fun (x5 : Int) => ifB (x5 == 0)
  (K (.bool false) w4)
  (LdK (.int .i64) ((⟨g1, 0, none⟩ : Addr).add 0) w4 (fun (x6 : Int) => LdK (.int .i64) ((⟨g3, 0, none⟩ : Addr).add 0) w4 (fun (x7 : Int) => ifB (x6 != x7)
  (K (.bool false) w4)
  (LdK .str ((⟨g1, 0, none⟩ : Addr).add 1) w4 (fun (x8 : ByteArray) => LdK .str ((⟨g3, 0, none⟩ : Addr).add 1) w4 (fun (x9 : ByteArray) => ifB (!(x8.toList == x9.toList))
  (K (.bool false) w4)
  (LdK (.int .i64) ((⟨g1, 0, none⟩ : Addr).add 2) w4 (fun (x10 : Int) => LdK (.int .i64) ((⟨g3, 0, none⟩ : Addr).add 2) w4 (fun (x11 : Int) => ifB (x10 != x11)
  (K (.bool false) w4)
  (LdK .slc ((⟨g1, 0, none⟩ : Addr).add 3) w4 (fun (x12 : Option Addr × Nat × Nat) => LdK .slc ((⟨g3, 0, none⟩ : Addr).add 3) w4 (fun (x13 : Option Addr × Nat × Nat) => ifB ((x12.2.1 : Int) != (x13.2.1 : Int))
  (K (.bool false) w4)
  (LdK .slc ((⟨g1, 0, none⟩ : Addr).add 3) w4 (fun (x14 : Option Addr × Nat × Nat) => LoopK (Int × Unit) (fun _ s15 w16 next17 => ifB (decide (s15.1 < (x14.2.1 : Int)))
  (DrewK w16 (fun w18 => LdK .slc ((⟨g1, 0, none⟩ : Addr).add 3) w18 (fun (x19 : Option Addr × Nat × Nat) => IdxK x19.1 x19.2.1 s15.1 4 (fun a20 => LdsK [.int .i64, .str, .int .i64, .slc] a20 w18 (fun (x21 : Int × ByteArray × Int × (Option Addr × Nat × Nat) × Unit) => LdK .slc ((⟨g3, 0, none⟩ : Addr).add 3) w18 (fun (x22 : Option Addr × Nat × Nat) => IdxK x22.1 x22.2.1 s15.1 4 (fun a23 => LdsK [.int .i64, .str, .int .i64, .slc] a23 w18 (fun (x24 : Int × ByteArray × Int × (Option Addr × Nat × Nat) × Unit) => CallK Tryz.prog 29 #[.agg #[.int .i64 x21.1, .string x21.2.1, .int .i64 x21.2.2.1, .slice x21.2.2.2.1.1 x21.2.2.2.1.2.1 x21.2.2.2.1.2.2], .agg #[.int .i64 x24.1, .string x24.2.1, .int .i64 x24.2.2.1, .slice x24.2.2.2.1.1 x24.2.2.2.1.2.1 x24.2.2.2.1.2.2]] w18 (.v (.one .bool)) (fun (x25 : Bool) w26 => ifB (!x25)
  (K (.bool false) w26)
  (next17 (IntKind.i64.wrap (s15.1 + 1), ()) w26))))))))))
  (K (.bool true) w16))
  (0, ()) w4)))))))))))))))))
def pl29 : Plan := (.seq .auto (.seq .auto (.seq (.seq .auto (.block (.loop [(42, .one (.int .i64))] (.seq .auto (.seq .auto (.seq (.block (.seq .auto (.seq (.tail 10) .auto))) .auto)))))) .auto)))
theorem e29 (p0 : Int × ByteArray × Int × (Option Addr × Nat × Nat) × Unit) (p1 : Int × ByteArray × Int × (Option Addr × Nat × Nat) × Unit) (w : World) (K : Value → World → Prop) : vcFunc Tryz.prog Tryz.f29 pl29 [.agg #[.int .i64 p0.1, .string p0.2.1, .int .i64 p0.2.2.1, .slice p0.2.2.2.1.1 p0.2.2.2.1.2.1 p0.2.2.2.1.2.2], .agg #[.int .i64 p1.1, .string p1.2.1, .int .i64 p1.2.2.1, .slice p1.2.2.2.1.1 p1.2.2.2.1.2.1 p1.2.2.2.1.2.2]] w K = C29 p0 p1 w K := by kernel_rfl
theorem c29 (p0 : Int × ByteArray × Int × (Option Addr × Nat × Nat) × Unit) (p1 : Int × ByteArray × Int × (Option Addr × Nat × Nat) × Unit) (w : World) (K : Value → World → Prop) (h : C29 p0 p1 w K) : Ret Tryz.prog 29 #[.agg #[.int .i64 p0.1, .string p0.2.1, .int .i64 p0.2.2.1, .slice p0.2.2.2.1.1 p0.2.2.2.1.2.1 p0.2.2.2.1.2.2], .agg #[.int .i64 p1.1, .string p1.2.1, .int .i64 p1.2.2.1, .slice p1.2.2.2.1.1 p1.2.2.2.1.2.1 p1.2.2.2.1.2.2]] w K := by
  rw [← e29] at h
  exact vcFunc_sound (by kernel_rfl) Tryz.func29 h

/-- handfast/handfastplay.Plain -/
def C30 (p0 : Value) (w : World) (K : Value → World → Prop) : Prop :=
  NewK (.cells #[.int .i64 0, .string (⟨#[]⟩ : ByteArray), .int .i64 0, .slice none 0 0] 33) w (fun g1 w2 => TaK p0 76 (.agg []) (fun (x3 : Unit) => NewK (.cells #[] 76) w2 (fun g4 w5 => StsK (⟨g4, 0, none⟩ : Addr) [] w5 (fun w6 => StsK (⟨g1, 0, none⟩ : Addr) [.int .i64 1, .string (⟨#[]⟩ : ByteArray), .int .i64 0, .slice none 0 0] w6 (fun w7 => LdsK [.int .i64, .str, .int .i64, .slc] (⟨g1, 0, none⟩ : Addr) w7 (fun (x8 : Int × ByteArray × Int × (Option Addr × Nat × Nat) × Unit) => K (.agg #[.int .i64 x8.1, .string x8.2.1, .int .i64 x8.2.2.1, .slice x8.2.2.2.1.1 x8.2.2.2.1.2.1 x8.2.2.2.1.2.2]) w7)))))
  (TaK p0 74 (.agg [.str]) (fun (x9 : ByteArray × Unit) => NewK (.cells #[.string (⟨#[]⟩ : ByteArray)] 74) w2 (fun g10 w11 => StsK (⟨g10, 0, none⟩ : Addr) [.string x9.1] w11 (fun w12 => LdK .str ((⟨g10, 0, none⟩ : Addr).add 0) w12 (fun (x13 : ByteArray) => StsK (⟨g1, 0, none⟩ : Addr) [.int .i64 2, .string x13, .int .i64 0, .slice none 0 0] w12 (fun w14 => LdsK [.int .i64, .str, .int .i64, .slc] (⟨g1, 0, none⟩ : Addr) w14 (fun (x15 : Int × ByteArray × Int × (Option Addr × Nat × Nat) × Unit) => K (.agg #[.int .i64 x15.1, .string x15.2.1, .int .i64 x15.2.2.1, .slice x15.2.2.2.1.1 x15.2.2.2.1.2.1 x15.2.2.2.1.2.2]) w14))))))
  (TaK p0 89 (.agg [.raw]) (fun (x16 : Value × Unit) => NewK (.cells #[.nilIface] 89) w2 (fun g17 w18 => StsK (⟨g17, 0, none⟩ : Addr) [x16.1] w18 (fun w19 => LdK .raw ((⟨g17, 0, none⟩ : Addr).add 0) w19 (fun (x20 : Value) => CallK Tryz.prog 30 #[x20] w19 (.v (.agg [.int .i64, .str, .int .i64, .slc])) (fun (x21 : Int × ByteArray × Int × (Option Addr × Nat × Nat) × Unit) w22 => RunK Tryz.prog (Instr.buildSlice 31 1 #[(0, .agg #[.int .i64 x21.1, .string x21.2.1, .int .i64 x21.2.2.1, .slice x21.2.2.2.1.1 x21.2.2.2.1.2.1 x21.2.2.2.1.2.2])]) w22 (.v (.one .slc)) (fun (x23 : Option Addr × Nat × Nat) w24 => StsK (⟨g1, 0, none⟩ : Addr) [.int .i64 3, .string (⟨#[]⟩ : ByteArray), .int .i64 0, .slice x23.1 x23.2.1 x23.2.2] w24 (fun w25 => LdsK [.int .i64, .str, .int .i64, .slc] (⟨g1, 0, none⟩ : Addr) w25 (fun (x26 : Int × ByteArray × Int × (Option Addr × Nat × Nat) × Unit) => K (.agg #[.int .i64 x26.1, .string x26.2.1, .int .i64 x26.2.2.1, .slice x26.2.2.2.1.1 x26.2.2.2.1.2.1 x26.2.2.2.1.2.2]) w25))))))))
  (TaK p0 91 (.agg [.raw, .raw]) (fun (x27 : Value × Value × Unit) => NewK (.cells #[.nilIface, .nilIface] 91) w2 (fun g28 w29 => StsK (⟨g28, 0, none⟩ : Addr) [x27.1, x27.2.1] w29 (fun w30 => DrewK w30 (fun w31 => HoldK (fun S32 => InK S32 ((⟨g28, 0, none⟩ : Addr).add 0) (LdK .raw ((⟨g28, 0, none⟩ : Addr).add 0) w31 (fun (x33 : Value) => InK S32 ((⟨g28, 0, none⟩ : Addr).add 1) (LdK .raw ((⟨g28, 0, none⟩ : Addr).add 1) w31 (fun (x34 : Value) => CallK Tryz.prog 30 #[x33] w31 (.v (.agg [.int .i64, .str, .int .i64, .slc])) (fun (x35 : Int × ByteArray × Int × (Option Addr × Nat × Nat) × Unit) w36 => KeepK S32 w31 w36 (CallK Tryz.prog 30 #[x34] w36 (.v (.agg [.int .i64, .str, .int .i64, .slc])) (fun (x37 : Int × ByteArray × Int × (Option Addr × Nat × Nat) × Unit) w38 => KeepK S32 w36 w38 (CallK Tryz.prog 74 #[.int .i64 4, .agg #[.int .i64 x35.1, .string x35.2.1, .int .i64 x35.2.2.1, .slice x35.2.2.2.1.1 x35.2.2.2.1.2.1 x35.2.2.2.1.2.2], .agg #[.int .i64 x37.1, .string x37.2.1, .int .i64 x37.2.2.1, .slice x37.2.2.2.1.1 x37.2.2.2.1.2.1 x37.2.2.2.1.2.2]] w38 (.v (.agg [.int .i64, .str, .int .i64, .slc])) (fun (x39 : Int × ByteArray × Int × (Option Addr × Nat × Nat) × Unit) w40 => KeepK S32 w38 w40 (StsK (⟨g1, 0, none⟩ : Addr) [.int .i64 x39.1, .string x39.2.1, .int .i64 x39.2.2.1, .slice x39.2.2.2.1.1 x39.2.2.2.1.2.1 x39.2.2.2.1.2.2] w40 (fun w41 => KeepK S32 w40 w41 (LdsK [.int .i64, .str, .int .i64, .slc] (⟨g1, 0, none⟩ : Addr) w41 (fun (x42 : Int × ByteArray × Int × (Option Addr × Nat × Nat) × Unit) => K (.agg #[.int .i64 x42.1, .string x42.2.1, .int .i64 x42.2.2.1, .slice x42.2.2.2.1.1 x42.2.2.2.1.2.1 x42.2.2.2.1.2.2]) w41))))))))))))))))))
  (TaK p0 93 (.agg [.str, .raw, .raw]) (fun (x43 : ByteArray × Value × Value × Unit) => NewK (.cells #[.string (⟨#[]⟩ : ByteArray), .nilIface, .nilIface] 93) w2 (fun g44 w45 => StsK (⟨g44, 0, none⟩ : Addr) [.string x43.1, x43.2.1, x43.2.2.1] w45 (fun w46 => DrewK w46 (fun w47 => HoldK (fun S48 => InK S48 ((⟨g44, 0, none⟩ : Addr).add 1) (LdK .raw ((⟨g44, 0, none⟩ : Addr).add 1) w47 (fun (x49 : Value) => InK S48 ((⟨g44, 0, none⟩ : Addr).add 2) (LdK .raw ((⟨g44, 0, none⟩ : Addr).add 2) w47 (fun (x50 : Value) => AndK (CallK Tryz.prog 30 #[x49] w47 (.v (.agg [.int .i64, .str, .int .i64, .slc])) (fun (x51 : Int × ByteArray × Int × (Option Addr × Nat × Nat) × Unit) w52 => KeepK S48 w47 w52 (AndK (CallK Tryz.prog 30 #[x50] w52 (.v (.agg [.int .i64, .str, .int .i64, .slc])) (fun (x53 : Int × ByteArray × Int × (Option Addr × Nat × Nat) × Unit) w54 => KeepK S48 w52 w54 (AndK (CallK Tryz.prog 74 #[.int .i64 5, .agg #[.int .i64 x51.1, .string x51.2.1, .int .i64 x51.2.2.1, .slice x51.2.2.2.1.1 x51.2.2.2.1.2.1 x51.2.2.2.1.2.2], .agg #[.int .i64 x53.1, .string x53.2.1, .int .i64 x53.2.2.1, .slice x53.2.2.2.1.1 x53.2.2.2.1.2.1 x53.2.2.2.1.2.2]] w54 (.v (.agg [.int .i64, .str, .int .i64, .slc])) (fun (x55 : Int × ByteArray × Int × (Option Addr × Nat × Nat) × Unit) w56 => KeepK S48 w54 w56 (NewK (.cells #[.int .i64 0, .string (⟨#[]⟩ : ByteArray), .int .i64 0, .slice none 0 0] 33) w56 (fun g57 w58 => KeepK S48 w56 w58 (StsK (⟨g57, 0, none⟩ : Addr) [.int .i64 x55.1, .string x55.2.1, .int .i64 x55.2.2.1, .slice x55.2.2.2.1.1 x55.2.2.2.1.2.1 x55.2.2.2.1.2.2] w58 (fun w59 => KeepK S48 w58 w59 (LdK .str ((⟨g44, 0, none⟩ : Addr).add 0) w59 (fun (x60 : ByteArray) => StK ((⟨g57, 0, none⟩ : Addr).add 1) (.string x60) w59 (fun w61 => LdsK [.int .i64, .str, .int .i64, .slc] (⟨g57, 0, none⟩ : Addr) w61 (fun (x62 : Int × ByteArray × Int × (Option Addr × Nat × Nat) × Unit) => StsK (⟨g1, 0, none⟩ : Addr) [.int .i64 x62.1, .string x62.2.1, .int .i64 x62.2.2.1, .slice x62.2.2.2.1.1 x62.2.2.2.1.2.1 x62.2.2.2.1.2.2] w61 (fun w63 => LdsK [.int .i64, .str, .int .i64, .slc] (⟨g1, 0, none⟩ : Addr) w63 (fun (x64 : Int × ByteArray × Int × (Option Addr × Nat × Nat) × Unit) => K (.agg #[.int .i64 x64.1, .string x64.2.1, .int .i64 x64.2.2.1, .slice x64.2.2.2.1.1 x64.2.2.2.1.2.1 x64.2.2.2.1.2.2]) w63))))))))))))
  (NewK (.cells #[.int .i64 0, .string (⟨#[]⟩ : ByteArray), .int .i64 0, .slice none 0 0] 33) w54 (fun g65 w66 => KeepK S48 w54 w66 (CallK Tryz.prog 74 #[.int .i64 5, .agg #[.int .i64 x51.1, .string x51.2.1, .int .i64 x51.2.2.1, .slice x51.2.2.2.1.1 x51.2.2.2.1.2.1 x51.2.2.2.1.2.2], .agg #[.int .i64 x53.1, .string x53.2.1, .int .i64 x53.2.2.1, .slice x53.2.2.2.1.1 x53.2.2.2.1.2.1 x53.2.2.2.1.2.2]] w66 (.v (.agg [.int .i64, .str, .int .i64, .slc])) (fun (x67 : Int × ByteArray × Int × (Option Addr × Nat × Nat) × Unit) w68 => KeepK S48 w66 w68 (StsK (⟨g65, 0, none⟩ : Addr) [.int .i64 x67.1, .string x67.2.1, .int .i64 x67.2.2.1, .slice x67.2.2.2.1.1 x67.2.2.2.1.2.1 x67.2.2.2.1.2.2] w68 (fun w69 => KeepK S48 w68 w69 (LdK .str ((⟨g44, 0, none⟩ : Addr).add 0) w69 (fun (x70 : ByteArray) => StK ((⟨g65, 0, none⟩ : Addr).add 1) (.string x70) w69 (fun w71 => LdsK [.int .i64, .str, .int .i64, .slc] (⟨g65, 0, none⟩ : Addr) w71 (fun (x72 : Int × ByteArray × Int × (Option Addr × Nat × Nat) × Unit) => StsK (⟨g1, 0, none⟩ : Addr) [.int .i64 x72.1, .string x72.2.1, .int .i64 x72.2.2.1, .slice x72.2.2.2.1.1 x72.2.2.2.1.2.1 x72.2.2.2.1.2.2] w71 (fun w73 => LdsK [.int .i64, .str, .int .i64, .slc] (⟨g1, 0, none⟩ : Addr) w73 (fun (x74 : Int × ByteArray × Int × (Option Addr × Nat × Nat) × Unit) => K (.agg #[.int .i64 x74.1, .string x74.2.1, .int .i64 x74.2.2.1, .slice x74.2.2.2.1.1 x74.2.2.2.1.2.1 x74.2.2.2.1.2.2]) w73)))))))))))))))
  (NewK (.cells #[.int .i64 0, .string (⟨#[]⟩ : ByteArray), .int .i64 0, .slice none 0 0] 33) w52 (fun g75 w76 => KeepK S48 w52 w76 (CallK Tryz.prog 30 #[x50] w76 (.v (.agg [.int .i64, .str, .int .i64, .slc])) (fun (x77 : Int × ByteArray × Int × (Option Addr × Nat × Nat) × Unit) w78 => KeepK S48 w76 w78 (CallK Tryz.prog 74 #[.int .i64 5, .agg #[.int .i64 x51.1, .string x51.2.1, .int .i64 x51.2.2.1, .slice x51.2.2.2.1.1 x51.2.2.2.1.2.1 x51.2.2.2.1.2.2], .agg #[.int .i64 x77.1, .string x77.2.1, .int .i64 x77.2.2.1, .slice x77.2.2.2.1.1 x77.2.2.2.1.2.1 x77.2.2.2.1.2.2]] w78 (.v (.agg [.int .i64, .str, .int .i64, .slc])) (fun (x79 : Int × ByteArray × Int × (Option Addr × Nat × Nat) × Unit) w80 => KeepK S48 w78 w80 (StsK (⟨g75, 0, none⟩ : Addr) [.int .i64 x79.1, .string x79.2.1, .int .i64 x79.2.2.1, .slice x79.2.2.2.1.1 x79.2.2.2.1.2.1 x79.2.2.2.1.2.2] w80 (fun w81 => KeepK S48 w80 w81 (LdK .str ((⟨g44, 0, none⟩ : Addr).add 0) w81 (fun (x82 : ByteArray) => StK ((⟨g75, 0, none⟩ : Addr).add 1) (.string x82) w81 (fun w83 => LdsK [.int .i64, .str, .int .i64, .slc] (⟨g75, 0, none⟩ : Addr) w83 (fun (x84 : Int × ByteArray × Int × (Option Addr × Nat × Nat) × Unit) => StsK (⟨g1, 0, none⟩ : Addr) [.int .i64 x84.1, .string x84.2.1, .int .i64 x84.2.2.1, .slice x84.2.2.2.1.1 x84.2.2.2.1.2.1 x84.2.2.2.1.2.2] w83 (fun w85 => LdsK [.int .i64, .str, .int .i64, .slc] (⟨g1, 0, none⟩ : Addr) w85 (fun (x86 : Int × ByteArray × Int × (Option Addr × Nat × Nat) × Unit) => K (.agg #[.int .i64 x86.1, .string x86.2.1, .int .i64 x86.2.2.1, .slice x86.2.2.2.1.1 x86.2.2.2.1.2.1 x86.2.2.2.1.2.2]) w85)))))))))))))))))
  (NewK (.cells #[.int .i64 0, .string (⟨#[]⟩ : ByteArray), .int .i64 0, .slice none 0 0] 33) w47 (fun g87 w88 => KeepK S48 w47 w88 (CallK Tryz.prog 30 #[x49] w88 (.v (.agg [.int .i64, .str, .int .i64, .slc])) (fun (x89 : Int × ByteArray × Int × (Option Addr × Nat × Nat) × Unit) w90 => KeepK S48 w88 w90 (CallK Tryz.prog 30 #[x50] w90 (.v (.agg [.int .i64, .str, .int .i64, .slc])) (fun (x91 : Int × ByteArray × Int × (Option Addr × Nat × Nat) × Unit) w92 => KeepK S48 w90 w92 (CallK Tryz.prog 74 #[.int .i64 5, .agg #[.int .i64 x89.1, .string x89.2.1, .int .i64 x89.2.2.1, .slice x89.2.2.2.1.1 x89.2.2.2.1.2.1 x89.2.2.2.1.2.2], .agg #[.int .i64 x91.1, .string x91.2.1, .int .i64 x91.2.2.1, .slice x91.2.2.2.1.1 x91.2.2.2.1.2.1 x91.2.2.2.1.2.2]] w92 (.v (.agg [.int .i64, .str, .int .i64, .slc])) (fun (x93 : Int × ByteArray × Int × (Option Addr × Nat × Nat) × Unit) w94 => KeepK S48 w92 w94 (StsK (⟨g87, 0, none⟩ : Addr) [.int .i64 x93.1, .string x93.2.1, .int .i64 x93.2.2.1, .slice x93.2.2.2.1.1 x93.2.2.2.1.2.1 x93.2.2.2.1.2.2] w94 (fun w95 => KeepK S48 w94 w95 (LdK .str ((⟨g44, 0, none⟩ : Addr).add 0) w95 (fun (x96 : ByteArray) => StK ((⟨g87, 0, none⟩ : Addr).add 1) (.string x96) w95 (fun w97 => LdsK [.int .i64, .str, .int .i64, .slc] (⟨g87, 0, none⟩ : Addr) w97 (fun (x98 : Int × ByteArray × Int × (Option Addr × Nat × Nat) × Unit) => StsK (⟨g1, 0, none⟩ : Addr) [.int .i64 x98.1, .string x98.2.1, .int .i64 x98.2.2.1, .slice x98.2.2.2.1.1 x98.2.2.2.1.2.1 x98.2.2.2.1.2.2] w97 (fun w99 => LdsK [.int .i64, .str, .int .i64, .slc] (⟨g1, 0, none⟩ : Addr) w99 (fun (x100 : Int × ByteArray × Int × (Option Addr × Nat × Nat) × Unit) => K (.agg #[.int .i64 x100.1, .string x100.2.1, .int .i64 x100.2.2.1, .slice x100.2.2.2.1.1 x100.2.2.2.1.2.1 x100.2.2.2.1.2.2]) w99)))))))))))))))))))))))))
  (TaK p0 97 (.agg [.raw, .raw]) (fun (x101 : Value × Value × Unit) => NewK (.cells #[.nilIface, .nilIface] 97) w2 (fun g102 w103 => StsK (⟨g102, 0, none⟩ : Addr) [x101.1, x101.2.1] w103 (fun w104 => DrewK w104 (fun w105 => HoldK (fun S106 => InK S106 ((⟨g102, 0, none⟩ : Addr).add 0) (LdK .raw ((⟨g102, 0, none⟩ : Addr).add 0) w105 (fun (x107 : Value) => InK S106 ((⟨g102, 0, none⟩ : Addr).add 1) (LdK .raw ((⟨g102, 0, none⟩ : Addr).add 1) w105 (fun (x108 : Value) => CallK Tryz.prog 31 #[x107] w105 (.v (.agg [.int .i64, .str, .int .i64, .slc])) (fun (x109 : Int × ByteArray × Int × (Option Addr × Nat × Nat) × Unit) w110 => KeepK S106 w105 w110 (CallK Tryz.prog 30 #[x108] w110 (.v (.agg [.int .i64, .str, .int .i64, .slc])) (fun (x111 : Int × ByteArray × Int × (Option Addr × Nat × Nat) × Unit) w112 => KeepK S106 w110 w112 (CallK Tryz.prog 74 #[.int .i64 6, .agg #[.int .i64 x109.1, .string x109.2.1, .int .i64 x109.2.2.1, .slice x109.2.2.2.1.1 x109.2.2.2.1.2.1 x109.2.2.2.1.2.2], .agg #[.int .i64 x111.1, .string x111.2.1, .int .i64 x111.2.2.1, .slice x111.2.2.2.1.1 x111.2.2.2.1.2.1 x111.2.2.2.1.2.2]] w112 (.v (.agg [.int .i64, .str, .int .i64, .slc])) (fun (x113 : Int × ByteArray × Int × (Option Addr × Nat × Nat) × Unit) w114 => KeepK S106 w112 w114 (StsK (⟨g1, 0, none⟩ : Addr) [.int .i64 x113.1, .string x113.2.1, .int .i64 x113.2.2.1, .slice x113.2.2.2.1.1 x113.2.2.2.1.2.1 x113.2.2.2.1.2.2] w114 (fun w115 => KeepK S106 w114 w115 (LdsK [.int .i64, .str, .int .i64, .slc] (⟨g1, 0, none⟩ : Addr) w115 (fun (x116 : Int × ByteArray × Int × (Option Addr × Nat × Nat) × Unit) => K (.agg #[.int .i64 x116.1, .string x116.2.1, .int .i64 x116.2.2.1, .slice x116.2.2.2.1.1 x116.2.2.2.1.2.1 x116.2.2.2.1.2.2]) w115))))))))))))))))))
  (TaK p0 95 (.agg [.int .i64, .raw]) (fun (x117 : Int × Value × Unit) => NewK (.cells #[.int .i64 0, .nilIface] 95) w2 (fun g118 w119 => StsK (⟨g118, 0, none⟩ : Addr) [.int .i64 x117.1, x117.2.1] w119 (fun w120 => DrewK w120 (fun w121 => HoldK (fun S122 => InK S122 ((⟨g118, 0, none⟩ : Addr).add 0) (LdK (.int .i64) ((⟨g118, 0, none⟩ : Addr).add 0) w121 (fun (x123 : Int) => InK S122 ((⟨g118, 0, none⟩ : Addr).add 1) (LdK .raw ((⟨g118, 0, none⟩ : Addr).add 1) w121 (fun (x124 : Value) => CallK Tryz.prog 30 #[x124] w121 (.v (.agg [.int .i64, .str, .int .i64, .slc])) (fun (x125 : Int × ByteArray × Int × (Option Addr × Nat × Nat) × Unit) w126 => KeepK S122 w121 w126 (RunK Tryz.prog (Instr.buildSlice 31 1 #[(0, .agg #[.int .i64 x125.1, .string x125.2.1, .int .i64 x125.2.2.1, .slice x125.2.2.2.1.1 x125.2.2.2.1.2.1 x125.2.2.2.1.2.2])]) w126 (.v (.one .slc)) (fun (x127 : Option Addr × Nat × Nat) w128 => KeepK S122 w126 w128 (StsK (⟨g1, 0, none⟩ : Addr) [.int .i64 7, .string (⟨#[]⟩ : ByteArray), .int .i64 x123, .slice x127.1 x127.2.1 x127.2.2] w128 (fun w129 => KeepK S122 w128 w129 (LdsK [.int .i64, .str, .int .i64, .slc] (⟨g1, 0, none⟩ : Addr) w129 (fun (x130 : Int × ByteArray × Int × (Option Addr × Nat × Nat) × Unit) => K (.agg #[.int .i64 x130.1, .string x130.2.1, .int .i64 x130.2.2.1, .slice x130.2.2.2.1.1 x130.2.2.2.1.2.1 x130.2.2.2.1.2.2]) w129))))))))))))))))
  (TaK p0 99 (.agg [.raw, .raw, .raw]) (fun (x131 : Value × Value × Value × Unit) => NewK (.cells #[.nilIface, .nilIface, .nilIface] 99) w2 (fun g132 w133 => StsK (⟨g132, 0, none⟩ : Addr) [x131.1, x131.2.1, x131.2.2.1] w133 (fun w134 => DrewK w134 (fun w135 => HoldK (fun S136 => InK S136 ((⟨g132, 0, none⟩ : Addr).add 0) (LdK .raw ((⟨g132, 0, none⟩ : Addr).add 0) w135 (fun (x137 : Value) => InK S136 ((⟨g132, 0, none⟩ : Addr).add 1) (LdK .raw ((⟨g132, 0, none⟩ : Addr).add 1) w135 (fun (x138 : Value) => InK S136 ((⟨g132, 0, none⟩ : Addr).add 2) (LdK .raw ((⟨g132, 0, none⟩ : Addr).add 2) w135 (fun (x139 : Value) => CallK Tryz.prog 31 #[x137] w135 (.v (.agg [.int .i64, .str, .int .i64, .slc])) (fun (x140 : Int × ByteArray × Int × (Option Addr × Nat × Nat) × Unit) w141 => KeepK S136 w135 w141 (CallK Tryz.prog 30 #[x138] w141 (.v (.agg [.int .i64, .str, .int .i64, .slc])) (fun (x142 : Int × ByteArray × Int × (Option Addr × Nat × Nat) × Unit) w143 => KeepK S136 w141 w143 (CallK Tryz.prog 30 #[x139] w143 (.v (.agg [.int .i64, .str, .int .i64, .slc])) (fun (x144 : Int × ByteArray × Int × (Option Addr × Nat × Nat) × Unit) w145 => KeepK S136 w143 w145 (RunK Tryz.prog (Instr.buildSlice 31 3 #[(0, .agg #[.int .i64 x140.1, .string x140.2.1, .int .i64 x140.2.2.1, .slice x140.2.2.2.1.1 x140.2.2.2.1.2.1 x140.2.2.2.1.2.2]), (1, .agg #[.int .i64 x142.1, .string x142.2.1, .int .i64 x142.2.2.1, .slice x142.2.2.2.1.1 x142.2.2.2.1.2.1 x142.2.2.2.1.2.2]), (2, .agg #[.int .i64 x144.1, .string x144.2.1, .int .i64 x144.2.2.1, .slice x144.2.2.2.1.1 x144.2.2.2.1.2.1 x144.2.2.2.1.2.2])]) w145 (.v (.one .slc)) (fun (x146 : Option Addr × Nat × Nat) w147 => KeepK S136 w145 w147 (StsK (⟨g1, 0, none⟩ : Addr) [.int .i64 8, .string (⟨#[]⟩ : ByteArray), .int .i64 0, .slice x146.1 x146.2.1 x146.2.2] w147 (fun w148 => KeepK S136 w147 w148 (LdsK [.int .i64, .str, .int .i64, .slc] (⟨g1, 0, none⟩ : Addr) w148 (fun (x149 : Int × ByteArray × Int × (Option Addr × Nat × Nat) × Unit) => K (.agg #[.int .i64 x149.1, .string x149.2.1, .int .i64 x149.2.2.1, .slice x149.2.2.2.1.1 x149.2.2.2.1.2.1 x149.2.2.2.1.2.2]) w148))))))))))))))))))))))
  (StsK (⟨g1, 0, none⟩ : Addr) [.int .i64 0, .string (⟨#[]⟩ : ByteArray), .int .i64 0, .slice none 0 0] w2 (fun w150 => LdsK [.int .i64, .str, .int .i64, .slc] (⟨g1, 0, none⟩ : Addr) w150 (fun (x151 : Int × ByteArray × Int × (Option Addr × Nat × Nat) × Unit) => K (.agg #[.int .i64 x151.1, .string x151.2.1, .int .i64 x151.2.2.1, .slice x151.2.2.2.1.1 x151.2.2.2.1.2.1 x151.2.2.2.1.2.2]) w150)))))))))))
def pl30 : Plan := (.seq .auto (.seq (.seq .auto (.block (.seq .auto (.cond .auto (.seq .auto (.cond .auto (.seq .auto (.cond .auto (.seq .auto (.cond (.seq .auto (.seq (.held (.soft 0 (.soft 1 (.soft 3 (.soft 4 (.pick 2 (.pick 5 (.pick 6 (.pick 7 .done .stop) .stop) .stop) .stop)))))) .auto)) (.seq .auto (.cond (.seq .auto (.seq (.held (.soft 0 (.soft 1 (.soft 3 (.soft 4 (.pick 2 (.pick 5 (.pick 6 (.pick 7 (.pick 8 .done .stop) .stop) (.pick 7 (.pick 6 (.pick 8 .done .stop) .stop) .stop)) (.pick 7 (.pick 5 (.pick 6 (.pick 8 .done .stop) .stop) .stop) .stop)) (.pick 7 (.pick 2 (.pick 5 (.pick 6 (.pick 8 .done .stop) .stop) .stop) .stop) .stop))))))) .auto)) (.seq .auto (.cond (.seq .auto (.seq (.held (.soft 0 (.soft 1 (.soft 3 (.soft 4 (.pick 2 (.pick 5 (.pick 6 (.pick 7 .done .stop) .stop) .stop) .stop)))))) .auto)) (.seq .auto (.cond (.seq .auto (.seq (.held (.soft 0 (.soft 1 (.soft 2 (.soft 3 (.pick 4 (.pick 5 (.soft 6 (.pick 7 .done .stop)) .stop) .stop)))))) .auto)) (.seq .auto (.cond (.seq .auto (.seq (.held (.soft 0 (.soft 1 (.soft 3 (.soft 4 (.soft 6 (.soft 7 (.pick 2 (.pick 5 (.pick 8 (.pick 9 (.soft 10 (.pick 11 .done .stop)) .stop) .stop) .stop) .stop)))))))) .auto)) .auto)))))))))))))))))) .auto))
theorem e30 (p0 : Value) (w : World) (K : Value → World → Prop) : vcFunc Tryz.prog Tryz.f30 pl30 [p0] w K = C30 p0 w K := by kernel_rfl
theorem c30 (p0 : Value) (w : World) (K : Value → World → Prop) (h : C30 p0 w K) : Ret Tryz.prog 30 #[p0] w K := by
  rw [← e30] at h
  exact vcFunc_sound (by kernel_rfl) Tryz.func30 h

/-- handfast/handfastplay.PlainObs -/
def C31 (p0 : Value) (w : World) (K : Value → World → Prop) : Prop :=
  NewK (.cells #[.int .i64 0, .string (⟨#[]⟩ : ByteArray), .int .i64 0, .slice none 0 0] 33) w (fun g1 w2 => TaK p0 80 (.agg [.int .i64]) (fun (x3 : Int × Unit) => NewK (.cells #[.int .i64 0] 80) w2 (fun g4 w5 => StsK (⟨g4, 0, none⟩ : Addr) [.int .i64 x3.1] w5 (fun w6 => LdK (.int .i64) ((⟨g4, 0, none⟩ : Addr).add 0) w6 (fun (x7 : Int) => StsK (⟨g1, 0, none⟩ : Addr) [.int .i64 11, .string (⟨#[]⟩ : ByteArray), .int .i64 x7, .slice none 0 0] w6 (fun w8 => LdsK [.int .i64, .str, .int .i64, .slc] (⟨g1, 0, none⟩ : Addr) w8 (fun (x9 : Int × ByteArray × Int × (Option Addr × Nat × Nat) × Unit) => K (.agg #[.int .i64 x9.1, .string x9.2.1, .int .i64 x9.2.2.1, .slice x9.2.2.2.1.1 x9.2.2.2.1.2.1 x9.2.2.2.1.2.2]) w8))))))
  (TaK p0 78 (.agg [.str]) (fun (x10 : ByteArray × Unit) => NewK (.cells #[.string (⟨#[]⟩ : ByteArray)] 78) w2 (fun g11 w12 => StsK (⟨g11, 0, none⟩ : Addr) [.string x10.1] w12 (fun w13 => LdK .str ((⟨g11, 0, none⟩ : Addr).add 0) w13 (fun (x14 : ByteArray) => StsK (⟨g1, 0, none⟩ : Addr) [.int .i64 12, .string x14, .int .i64 0, .slice none 0 0] w13 (fun w15 => LdsK [.int .i64, .str, .int .i64, .slc] (⟨g1, 0, none⟩ : Addr) w15 (fun (x16 : Int × ByteArray × Int × (Option Addr × Nat × Nat) × Unit) => K (.agg #[.int .i64 x16.1, .string x16.2.1, .int .i64 x16.2.2.1, .slice x16.2.2.2.1.1 x16.2.2.2.1.2.1 x16.2.2.2.1.2.2]) w15))))))
  (TaK p0 86 (.agg [.raw, .raw]) (fun (x17 : Value × Value × Unit) => NewK (.cells #[.nilIface, .nilIface] 86) w2 (fun g18 w19 => StsK (⟨g18, 0, none⟩ : Addr) [x17.1, x17.2.1] w19 (fun w20 => DrewK w20 (fun w21 => HoldK (fun S22 => InK S22 ((⟨g18, 0, none⟩ : Addr).add 0) (LdK .raw ((⟨g18, 0, none⟩ : Addr).add 0) w21 (fun (x23 : Value) => InK S22 ((⟨g18, 0, none⟩ : Addr).add 1) (LdK .raw ((⟨g18, 0, none⟩ : Addr).add 1) w21 (fun (x24 : Value) => CallK Tryz.prog 31 #[x23] w21 (.v (.agg [.int .i64, .str, .int .i64, .slc])) (fun (x25 : Int × ByteArray × Int × (Option Addr × Nat × Nat) × Unit) w26 => KeepK S22 w21 w26 (CallK Tryz.prog 31 #[x24] w26 (.v (.agg [.int .i64, .str, .int .i64, .slc])) (fun (x27 : Int × ByteArray × Int × (Option Addr × Nat × Nat) × Unit) w28 => KeepK S22 w26 w28 (CallK Tryz.prog 74 #[.int .i64 13, .agg #[.int .i64 x25.1, .string x25.2.1, .int .i64 x25.2.2.1, .slice x25.2.2.2.1.1 x25.2.2.2.1.2.1 x25.2.2.2.1.2.2], .agg #[.int .i64 x27.1, .string x27.2.1, .int .i64 x27.2.2.1, .slice x27.2.2.2.1.1 x27.2.2.2.1.2.1 x27.2.2.2.1.2.2]] w28 (.v (.agg [.int .i64, .str, .int .i64, .slc])) (fun (x29 : Int × ByteArray × Int × (Option Addr × Nat × Nat) × Unit) w30 => KeepK S22 w28 w30 (StsK (⟨g1, 0, none⟩ : Addr) [.int .i64 x29.1, .string x29.2.1, .int .i64 x29.2.2.1, .slice x29.2.2.2.1.1 x29.2.2.2.1.2.1 x29.2.2.2.1.2.2] w30 (fun w31 => KeepK S22 w30 w31 (LdsK [.int .i64, .str, .int .i64, .slc] (⟨g1, 0, none⟩ : Addr) w31 (fun (x32 : Int × ByteArray × Int × (Option Addr × Nat × Nat) × Unit) => K (.agg #[.int .i64 x32.1, .string x32.2.1, .int .i64 x32.2.2.1, .slice x32.2.2.2.1.1 x32.2.2.2.1.2.1 x32.2.2.2.1.2.2]) w31))))))))))))))))))
  (TaK p0 85 (.agg [.raw]) (fun (x33 : Value × Unit) => NewK (.cells #[.nilIface] 85) w2 (fun g34 w35 => StsK (⟨g34, 0, none⟩ : Addr) [x33.1] w35 (fun w36 => LdK .raw ((⟨g34, 0, none⟩ : Addr).add 0) w36 (fun (x37 : Value) => CallK Tryz.prog 31 #[x37] w36 (.v (.agg [.int .i64, .str, .int .i64, .slc])) (fun (x38 : Int × ByteArray × Int × (Option Addr × Nat × Nat) × Unit) w39 => RunK Tryz.prog (Instr.buildSlice 31 1 #[(0, .agg #[.int .i64 x38.1, .string x38.2.1, .int .i64 x38.2.2.1, .slice x38.2.2.2.1.1 x38.2.2.2.1.2.1 x38.2.2.2.1.2.2])]) w39 (.v (.one .slc)) (fun (x40 : Option Addr × Nat × Nat) w41 => StsK (⟨g1, 0, none⟩ : Addr) [.int .i64 14, .string (⟨#[]⟩ : ByteArray), .int .i64 0, .slice x40.1 x40.2.1 x40.2.2] w41 (fun w42 => LdsK [.int .i64, .str, .int .i64, .slc] (⟨g1, 0, none⟩ : Addr) w42 (fun (x43 : Int × ByteArray × Int × (Option Addr × Nat × Nat) × Unit) => K (.agg #[.int .i64 x43.1, .string x43.2.1, .int .i64 x43.2.2.1, .slice x43.2.2.2.1.1 x43.2.2.2.1.2.1 x43.2.2.2.1.2.2]) w42))))))))
  (TaK p0 83 (.agg [.raw, .raw]) (fun (x44 : Value × Value × Unit) => NewK (.cells #[.nilIface, .nilIface] 83) w2 (fun g45 w46 => StsK (⟨g45, 0, none⟩ : Addr) [x44.1, x44.2.1] w46 (fun w47 => DrewK w47 (fun w48 => HoldK (fun S49 => InK S49 ((⟨g45, 0, none⟩ : Addr).add 0) (LdK .raw ((⟨g45, 0, none⟩ : Addr).add 0) w48 (fun (x50 : Value) => InK S49 ((⟨g45, 0, none⟩ : Addr).add 1) (LdK .raw ((⟨g45, 0, none⟩ : Addr).add 1) w48 (fun (x51 : Value) => CallK Tryz.prog 31 #[x50] w48 (.v (.agg [.int .i64, .str, .int .i64, .slc])) (fun (x52 : Int × ByteArray × Int × (Option Addr × Nat × Nat) × Unit) w53 => KeepK S49 w48 w53 (CallK Tryz.prog 31 #[x51] w53 (.v (.agg [.int .i64, .str, .int .i64, .slc])) (fun (x54 : Int × ByteArray × Int × (Option Addr × Nat × Nat) × Unit) w55 => KeepK S49 w53 w55 (CallK Tryz.prog 74 #[.int .i64 15, .agg #[.int .i64 x52.1, .string x52.2.1, .int .i64 x52.2.2.1, .slice x52.2.2.2.1.1 x52.2.2.2.1.2.1 x52.2.2.2.1.2.2], .agg #[.int .i64 x54.1, .string x54.2.1, .int .i64 x54.2.2.1, .slice x54.2.2.2.1.1 x54.2.2.2.1.2.1 x54.2.2.2.1.2.2]] w55 (.v (.agg [.int .i64, .str, .int .i64, .slc])) (fun (x56 : Int × ByteArray × Int × (Option Addr × Nat × Nat) × Unit) w57 => KeepK S49 w55 w57 (StsK (⟨g1, 0, none⟩ : Addr) [.int .i64 x56.1, .string x56.2.1, .int .i64 x56.2.2.1, .slice x56.2.2.2.1.1 x56.2.2.2.1.2.1 x56.2.2.2.1.2.2] w57 (fun w58 => KeepK S49 w57 w58 (LdsK [.int .i64, .str, .int .i64, .slc] (⟨g1, 0, none⟩ : Addr) w58 (fun (x59 : Int × ByteArray × Int × (Option Addr × Nat × Nat) × Unit) => K (.agg #[.int .i64 x59.1, .string x59.2.1, .int .i64 x59.2.2.1, .slice x59.2.2.2.1.1 x59.2.2.2.1.2.1 x59.2.2.2.1.2.2]) w58))))))))))))))))))
  (TaK p0 82 (.agg [.raw, .raw]) (fun (x60 : Value × Value × Unit) => NewK (.cells #[.nilIface, .nilIface] 82) w2 (fun g61 w62 => StsK (⟨g61, 0, none⟩ : Addr) [x60.1, x60.2.1] w62 (fun w63 => DrewK w63 (fun w64 => HoldK (fun S65 => InK S65 ((⟨g61, 0, none⟩ : Addr).add 0) (LdK .raw ((⟨g61, 0, none⟩ : Addr).add 0) w64 (fun (x66 : Value) => InK S65 ((⟨g61, 0, none⟩ : Addr).add 1) (LdK .raw ((⟨g61, 0, none⟩ : Addr).add 1) w64 (fun (x67 : Value) => CallK Tryz.prog 31 #[x66] w64 (.v (.agg [.int .i64, .str, .int .i64, .slc])) (fun (x68 : Int × ByteArray × Int × (Option Addr × Nat × Nat) × Unit) w69 => KeepK S65 w64 w69 (CallK Tryz.prog 31 #[x67] w69 (.v (.agg [.int .i64, .str, .int .i64, .slc])) (fun (x70 : Int × ByteArray × Int × (Option Addr × Nat × Nat) × Unit) w71 => KeepK S65 w69 w71 (CallK Tryz.prog 74 #[.int .i64 16, .agg #[.int .i64 x68.1, .string x68.2.1, .int .i64 x68.2.2.1, .slice x68.2.2.2.1.1 x68.2.2.2.1.2.1 x68.2.2.2.1.2.2], .agg #[.int .i64 x70.1, .string x70.2.1, .int .i64 x70.2.2.1, .slice x70.2.2.2.1.1 x70.2.2.2.1.2.1 x70.2.2.2.1.2.2]] w71 (.v (.agg [.int .i64, .str, .int .i64, .slc])) (fun (x72 : Int × ByteArray × Int × (Option Addr × Nat × Nat) × Unit) w73 => KeepK S65 w71 w73 (StsK (⟨g1, 0, none⟩ : Addr) [.int .i64 x72.1, .string x72.2.1, .int .i64 x72.2.2.1, .slice x72.2.2.2.1.1 x72.2.2.2.1.2.1 x72.2.2.2.1.2.2] w73 (fun w74 => KeepK S65 w73 w74 (LdsK [.int .i64, .str, .int .i64, .slc] (⟨g1, 0, none⟩ : Addr) w74 (fun (x75 : Int × ByteArray × Int × (Option Addr × Nat × Nat) × Unit) => K (.agg #[.int .i64 x75.1, .string x75.2.1, .int .i64 x75.2.2.1, .slice x75.2.2.2.1.1 x75.2.2.2.1.2.1 x75.2.2.2.1.2.2]) w74))))))))))))))))))
  (StsK (⟨g1, 0, none⟩ : Addr) [.int .i64 0, .string (⟨#[]⟩ : ByteArray), .int .i64 0, .slice none 0 0] w2 (fun w76 => LdsK [.int .i64, .str, .int .i64, .slc] (⟨g1, 0, none⟩ : Addr) w76 (fun (x77 : Int × ByteArray × Int × (Option Addr × Nat × Nat) × Unit) => K (.agg #[.int .i64 x77.1, .string x77.2.1, .int .i64 x77.2.2.1, .slice x77.2.2.2.1.1 x77.2.2.2.1.2.1 x77.2.2.2.1.2.2]) w76)))))))))
def pl31 : Plan := (.seq .auto (.seq (.seq .auto (.block (.seq .auto (.cond .auto (.seq .auto (.cond .auto (.seq .auto (.cond (.seq .auto (.seq (.held (.soft 0 (.soft 1 (.soft 3 (.soft 4 (.pick 2 (.pick 5 (.pick 6 (.pick 7 .done .stop) .stop) .stop) .stop)))))) .auto)) (.seq .auto (.cond .auto (.seq .auto (.cond (.seq .auto (.seq (.held (.soft 0 (.soft 1 (.soft 3 (.soft 4 (.pick 2 (.pick 5 (.pick 6 (.pick 7 .done .stop) .stop) .stop) .stop)))))) .auto)) (.seq .auto (.cond (.seq .auto (.seq (.held (.soft 0 (.soft 1 (.soft 3 (.soft 4 (.pick 2 (.pick 5 (.pick 6 (.pick 7 .done .stop) .stop) .stop) .stop)))))) .auto)) .auto)))))))))))))) .auto))
theorem e31 (p0 : Value) (w : World) (K : Value → World → Prop) : vcFunc Tryz.prog Tryz.f31 pl31 [p0] w K = C31 p0 w K := by kernel_rfl
theorem c31 (p0 : Value) (w : World) (K : Value → World → Prop) (h : C31 p0 w K) : Ret Tryz.prog 31 #[p0] w K := by
  rw [← e31] at h
  exact vcFunc_sound (by kernel_rfl) Tryz.func31 h

/-- handfast/handfastplay.two -/
def C74 (p0 : Int) (p1 : Int × ByteArray × Int × (Option Addr × Nat × Nat) × Unit) (p2 : Int × ByteArray × Int × (Option Addr × Nat × Nat) × Unit) (w : World) (K : Value → World → Prop) : Prop :=
  NewK (.cells #[.int .i64 p1.1, .string p1.2.1, .int .i64 p1.2.2.1, .slice p1.2.2.2.1.1 p1.2.2.2.1.2.1 p1.2.2.2.1.2.2] 33) w (fun g1 w2 => NewK (.cells #[.int .i64 p2.1, .string p2.2.1, .int .i64 p2.2.2.1, .slice p2.2.2.2.1.1 p2.2.2.2.1.2.1 p2.2.2.2.1.2.2] 33) w2 (fun g3 w4 => NewK (.cells #[.int .i64 0, .string (⟨#[]⟩ : ByteArray), .int .i64 0, .slice none 0 0] 33) w4 (fun g5 w6 => LdsK [.int .i64, .str, .int .i64, .slc] (⟨g1, 0, none⟩ : Addr) w6 (fun (x7 : Int × ByteArray × Int × (Option Addr × Nat × Nat) × Unit) => LdsK [.int .i64, .str, .int .i64, .slc] (⟨g3, 0, none⟩ : Addr) w6 (fun (x8 : Int × ByteArray × Int × (Option Addr × Nat × Nat) × Unit) => RunK Tryz.prog (Instr.buildSlice 31 2 #[(0, .agg #[.int .i64 x7.1, .string x7.2.1, .int .i64 x7.2.2.1, .slice x7.2.2.2.1.1 x7.2.2.2.1.2.1 x7.2.2.2.1.2.2]), (1, .agg #[.int .i64 x8.1, .string x8.2.1, .int .i64 x8.2.2.1, .slice x8.2.2.2.1.1 x8.2.2.2.1.2.1 x8.2.2.2.1.2.2])]) w6 (.v (.one .slc)) (fun (x9 : Option Addr × Nat × Nat) w10 => StsK (⟨g5, 0, none⟩ : Addr) [.int .i64 p0, .string (⟨#[]⟩ : ByteArray), .int .i64 0, .slice x9.1 x9.2.1 x9.2.2] w10 (fun w11 => LdsK [.int .i64, .str, .int .i64, .slc] (⟨g5, 0, none⟩ : Addr) w11 (fun (x12 : Int × ByteArray × Int × (Option Addr × Nat × Nat) × Unit) => K (.agg #[.int .i64 x12.1, .string x12.2.1, .int .i64 x12.2.2.1, .slice x12.2.2.2.1.1 x12.2.2.2.1.2.1 x12.2.2.2.1.2.2]) w11))))))))
def pl74 : Plan := .auto
theorem e74 (p0 : Int) (p1 : Int × ByteArray × Int × (Option Addr × Nat × Nat) × Unit) (p2 : Int × ByteArray × Int × (Option Addr × Nat × Nat) × Unit) (w : World) (K : Value → World → Prop) : vcFunc Tryz.prog Tryz.f74 pl74 [.int .i64 p0, .agg #[.int .i64 p1.1, .string p1.2.1, .int .i64 p1.2.2.1, .slice p1.2.2.2.1.1 p1.2.2.2.1.2.1 p1.2.2.2.1.2.2], .agg #[.int .i64 p2.1, .string p2.2.1, .int .i64 p2.2.2.1, .slice p2.2.2.2.1.1 p2.2.2.2.1.2.1 p2.2.2.2.1.2.2]] w K = C74 p0 p1 p2 w K := by kernel_rfl
theorem c74 (p0 : Int) (p1 : Int × ByteArray × Int × (Option Addr × Nat × Nat) × Unit) (p2 : Int × ByteArray × Int × (Option Addr × Nat × Nat) × Unit) (w : World) (K : Value → World → Prop) (h : C74 p0 p1 p2 w K) : Ret Tryz.prog 74 #[.int .i64 p0, .agg #[.int .i64 p1.1, .string p1.2.1, .int .i64 p1.2.2.1, .slice p1.2.2.2.1.1 p1.2.2.2.1.2.1 p1.2.2.2.1.2.2], .agg #[.int .i64 p2.1, .string p2.2.1, .int .i64 p2.2.2.1, .slice p2.2.2.2.1.1 p2.2.2.2.1.2.1 p2.2.2.2.1.2.2]] w K := by
  rw [← e74] at h
  exact vcFunc_sound (by kernel_rfl) Tryz.func74 h

end Go.Proofs.YtlhbfdakceipkaaGreatDoor
