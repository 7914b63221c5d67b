/-
  Maps keyed by ints, as functions: look-up and update.
-/
import Derived.Test.YtlhbfdakceipkaaGreatDoorVcMem
namespace Go.Proofs.YtlhbfdakceipkaaGreatDoor
namespace Vc
variable {P : Program}

/-- The first entry of a key. -/
def ent (n : Int) : List MapEntry → Option Value
  | [] => none
  | e :: es => match e.key with
    | .int _ m => if n = m then some e.val else ent n es
    | _ => ent n es

/-- Block g is a map whose keys are ints, and which holds M. -/
def IsMap (w : World) (g : Nat) (M : Int → Option Value) : Prop :=
  ∃ es clock, w.heap[g]? = some (.map es clock) ∧ (∀ e ∈ es.toList, ∃ m, e.key = .int .i64 m) ∧ ∀ n, ent n es.toList = M n

theorem IsMap.keep {w w' : World} {g : Nat} {M : Int → Option Value} (h : IsMap w g M) {S : Nat → Prop} (f : Fr S w w') (hn : ¬ S g) : IsMap w' g M := by
  obtain ⟨es, c, hb, r⟩ := h
  exact ⟨es, c, f.keep hb hn, r⟩
theorem IsMap.lt {w : World} {g : Nat} {M : Int → Option Value} (h : IsMap w g M) : g < w.heap.size := by
  obtain ⟨es, c, hb, r⟩ := h
  exact lt_of_blk hb
theorem IsMap.new {w : World} {g : Nat} {c : Nat} (h : w.heap[g]? = some (.map #[] c)) : IsMap w g (fun _ => none) := ⟨_, _, h, by simp, fun n => rfl⟩

theorem findNow_ent (n : Int) : ∀ (es : List MapEntry) (i : Nat), (∀ e ∈ es, ∃ m, e.key = .int .i64 m) →
    (∃ j v, Instr.findNow (.int .i64) (.int .i64 n) es i = some (some (i + j, v)) ∧ ent n es = some v ∧ ∃ e, es[j]? = some e ∧ e.key = .int .i64 n ∧ (∀ v', ent n (es.set j { e with val := v' }) = some v') ∧ ∀ m v', m ≠ n → ent m (es.set j { e with val := v' }) = ent m es) ∨
    (Instr.findNow (.int .i64) (.int .i64 n) es i = some none ∧ ent n es = none)
  | [], i, _ => .inr ⟨rfl, rfl⟩
  | e :: es, i, h => by
    obtain ⟨m, hm⟩ := h e (by simp)
    by_cases hn : n = m
    · subst hn
      refine .inl ⟨0, e.val, ?_, ?_, e, rfl, hm, ?_, ?_⟩
      · simp [Instr.findNow, hm, Instr.sameNow]
      · simp [ent, hm]
      · intro v'; simp [ent, hm]
      · intro m' v' hne; simp [ent, hm, hne]
    · have hs : Instr.sameNow (.int .i64) (.int .i64 n) e.key = some false := by simp [Instr.sameNow, hm, hn]
      rcases findNow_ent n es (i + 1) (fun e he => h e (by simp [he])) with ⟨j, v, h1, h2, e', h3, h4, h5, h6⟩ | ⟨h1, h2⟩
      · refine .inl ⟨j + 1, v, ?_, ?_, e', by simpa using h3, h4, ?_, ?_⟩
        · simp only [Instr.findNow, hs, h1]; congr 3; omega
        · simp [ent, hm, hn, h2]
        · intro v'; simp [ent, hm, hn, h5]
        · intro m' v' hne
          simp only [List.set_cons_succ, ent, hm]
          split
          · rfl
          · exact h6 m' v' hne
      · refine .inr ⟨?_, ?_⟩
        · simp only [Instr.findNow, hs, h1]
        · simp [ent, hm, hn, h2]

theorem checkKey_int {t : TypeId} (ht : P.underlying t = some (.int .i64)) (b : Bool) (n : Int) (w : World) : (Instr.checkKey b 10000 t (.int .i64 n)).run P w = .ok () w := by
  show (Instr.checkKey b (9999 + 1) t (.int .i64 n)).run P w = .ok () w
  unfold Instr.checkKey
  simp only [Sem.run_bind, under ht, Result.andThen_ok]
  rfl

theorem getObj_ok {w : World} {g : Nat} {es : Array MapEntry} {c : Nat} (h : w.heap[g]? = some (.map es c)) : (getObj g).run P w = .ok (.map es c) w := by
  simp [getObj, Sem.run, h]

theorem findKey_ok {t : TypeId} (ht : P.underlying t = some (.int .i64)) {n : Int} {es : List MapEntry} {r : Option (Nat × Value)} (h : Instr.findNow (.int .i64) (.int .i64 n) es 0 = some r) (w : World) :
    (Instr.findKey t (.int .i64 n) es).run P w = .ok r w := by
  unfold Instr.findKey
  simp only [Sem.run_bind, under ht, Result.andThen_ok, h]
  rfl

theorem lookup_ok {t k el : TypeId} (z : Value) {w : World} {g : Nat} {M : Int → Option Value} (hm : IsMap w g M) (n : Int) (ok : Bool) (ht : P.underlying t = some (.map k el)) (hk : P.underlying k = some (.int .i64))
    (hiz : (P.info? el).bind (·.zero) = some z) :
    (Instr.lookup t (.map (some g)) (.int .i64 n) ok).run P w = .ok (if ok then .tuple #[(M n).getD z, .bool (M n).isSome] else (M n).getD z) w := by
  obtain ⟨es, c, hb, hkeys, hM⟩ := hm
  obtain ⟨i, hi, hz⟩ : ∃ i, P.info? el = some i ∧ i.zero = some z := by
    cases hx : P.info? el with
    | none => simp [hx] at hiz
    | some i => exact ⟨i, rfl, by simpa [hx] using hiz⟩
  unfold Instr.lookup
  simp only [Sem.run_bind, under ht, Result.andThen_ok, getObj_ok hb, Sem.run_pure, checkKey_int hk]
  rcases findNow_ent n es.toList 0 hkeys with ⟨j, v, h1, h2, _⟩ | ⟨h1, h2⟩
  · rw [findKey_ok hk h1]
    rw [hM] at h2
    simp only [Result.andThen_ok, h2]
    cases ok <;> rfl
  · rw [findKey_ok hk h1]
    rw [hM] at h2
    simp only [Result.andThen_ok, Sem.run_bind, zeroof hi hz, Sem.run_pure, h2]
    cases ok <;> rfl

theorem ent_append (n : Int) (e : MapEntry) {m : Int} (he : e.key = .int .i64 m) : ∀ es : List MapEntry, ent n (es ++ [e]) = match ent n es with | some v => some v | none => if n = m then some e.val else none
  | [] => by simp [ent, he]
  | x :: es => by
    simp only [List.cons_append, ent]
    split
    · split
      · rfl
      · exact ent_append n e he es
    · exact ent_append n e he es

theorem setObj_ok {w : World} {g : Nat} {es es' : Array MapEntry} {c c' : Nat} (h : w.heap[g]? = some (.map es c)) : (setObj g (.map es' c')).run P w = .ok () { w with heap := w.heap.setIfInBounds g (.map es' c') } := by
  simp [setObj, Sem.run, h]

theorem setObj_fr (w : World) (g : Nat) (o : Obj) : Fr (only g) w { w with heap := w.heap.setIfInBounds g o } :=
  ⟨rfl, rfl, rfl, by simp, fun k _ hn => by
    show (w.heap.setIfInBounds g o)[k]? = _
    rw [Array.getElem?_setIfInBounds_ne (fun e => hn e.symm)]⟩

theorem heap_set {h : Array Obj} {g : Nat} (hg : g < h.size) (o : Obj) : (h.setIfInBounds g o)[g]? = some o := by simp [hg]

theorem update_ok {t k el : TypeId} {w : World} {g : Nat} {M : Int → Option Value} (hm : IsMap w g M) (n : Int) (v : Value) (ht : P.underlying t = some (.map k el)) (hk : P.underlying k = some (.int .i64)) :
    ∃ w', (Instr.mapUpdate t (.map (some g)) (.int .i64 n) v).run P w = .ok () w' ∧ Fr (only g) w w' ∧ w'.heap.size = w.heap.size ∧ IsMap w' g (fun m => if m = n then some v else M m) := by
  obtain ⟨es, c, hb, hkeys, hM⟩ := hm
  have hlt := lt_of_blk hb
  unfold Instr.mapUpdate
  simp only [Sem.run_bind, under ht, Result.andThen_ok, getObj_ok hb, checkKey_int hk]
  rcases findNow_ent n es.toList 0 hkeys with ⟨j, u, h1, h2, e, h3, h4, h5, h6⟩ | ⟨h1, h2⟩
  · rw [findKey_ok hk h1]
    have hj : es[0 + j]? = some e := by rw [Nat.zero_add]; simpa using h3
    have hk2 : (Instr.keyThatStays e.key (.int .i64 n)).run P w = .ok (.int .i64 n) w := by
      rw [h4]
      unfold Instr.keyThatStays
      have : Instr.sameBits 10000 (.int .i64 n) (.int .i64 n) = true := by
        show Instr.sameBits (9999 + 1) (.int .i64 n) (.int .i64 n) = true
        simp [Instr.sameBits]
      simp [this]
    simp only [Result.andThen_ok, Sem.run_bind, hj, Option.map_some, Option.getD_some, hk2, setObj_ok hb]
    refine ⟨_, rfl, setObj_fr _ _ _, by simp, _, _, heap_set hlt _, ?_, ?_⟩
    · intro e' he'
      rw [Array.mem_toList_iff, Array.mem_iff_getElem?] at he'
      obtain ⟨q, hq⟩ := he'
      rw [Array.getElem?_modify] at hq
      split at hq
      · cases hx : es[q]? with
        | none => simp [hx] at hq
        | some x => simp [hx] at hq; subst hq; exact ⟨n, rfl⟩
      · exact hkeys e' (by rw [Array.mem_toList_iff, Array.mem_iff_getElem?]; exact ⟨q, hq⟩)
    · intro m
      have hlist : (es.modify (0 + j) fun e => { key := .int .i64 n, val := v, born := e.born }).toList = es.toList.set j { e with val := v } := by
        rw [Nat.zero_add, Array.toList_modify]
        apply List.ext_getElem?
        intro q
        rw [List.getElem?_modify, List.getElem?_set]
        by_cases hq : j = q
        · subst hq
          have hlt2 : j < es.toList.length := (List.getElem?_eq_some_iff.1 h3).1
          simp only [if_true, h3, hlt2]
          cases e; simp only at h4; rw [h4]
          rfl
        · simp [hq]
      rw [hlist]
      by_cases hmn : m = n
      · subst hmn; rw [h5]; simp
      · rw [h6 m v hmn, hM]; simp [hmn]
  · rw [findKey_ok hk h1]
    simp only [Result.andThen_ok, setObj_ok hb]
    refine ⟨_, rfl, setObj_fr _ _ _, by simp, _, _, heap_set hlt _, ?_, ?_⟩
    · intro e' he'
      simp at he'
      rcases he' with he' | rfl
      · exact hkeys e' (by simpa using he')
      · exact ⟨n, rfl⟩
    · intro m
      rw [Array.toList_push, ent_append m _ rfl]
      rw [hM] at h2
      rw [hM]
      by_cases hmn : m = n
      · subst hmn; rw [h2]; simp
      · simp only [hmn, if_false]; cases M m <;> rfl

end Vc
end Go.Proofs.YtlhbfdakceipkaaGreatDoor
