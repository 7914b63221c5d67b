/-
  Slices of structs: literals, reading an element.
  No condition beyond those stated.
-/
import Derived.Test.YtlhbfdakceipkaaGreatDoorVcSlice
import Derived.Test.YtlhbfdakceipkaaGreatDoorVcNest
set_option linter.unusedVariables false
namespace Go.Proofs.YtlhbfdakceipkaaGreatDoor
namespace Vc
variable {P : Program}

theorem fold_set (off : Nat) : ∀ (l : List Value) (j : Nat) (cur : Array Value), off + j + l.length ≤ cur.size →
    ((l.zipIdx j).foldl (fun (cs : Array Value) (x : Value × Nat) => cs.setIfInBounds (off + x.2) x.1) cur).toList = cur.toList.take (off + j) ++ l ++ cur.toList.drop (off + j + l.length)
  | [], j, cur, _ => by simp
  | c :: l, j, cur, h => by
    simp only [List.length_cons] at h
    rw [List.zipIdx_cons, List.foldl_cons, fold_set off l (j + 1) _ (by simp; omega)]
    rw [Array.toList_setIfInBounds]
    have hlt : off + j < cur.toList.length := by simp; omega
    rw [show off + (j + 1) = off + j + 1 by omega, List.take_succ_eq_append_getElem (by rw [List.length_set]; exact hlt), List.take_set_of_le (Nat.le_refl _), List.getElem_set_self, List.drop_set_of_lt (by omega)]
    simp only [List.append_assoc, List.cons_append, List.nil_append, List.length_cons]
    congr 4
    omega

theorem fill_many (s n : Nat) : ∀ (vs : List (List Value)) (k : Nat) (cur : Array Value), (∀ l ∈ vs, l.length = s) → k + vs.length = n → cur.size = n * s →
    ∃ out, Instr.fill (fun i => some (i * s, s)) cur ((vs.zipIdx k).map fun (l, i) => (i, .agg l.toArray)) = some out ∧ out.toList = cur.toList.take (k * s) ++ vs.flatten
  | [], k, cur, _, hk, hc => by
    simp only [List.length_nil, Nat.add_zero] at hk
    subst hk
    exact ⟨cur, rfl, by rw [List.take_of_length_le (by simp [hc])]; simp⟩
  | l :: vs, k, cur, hl, hk, hc => by
    simp only [List.length_cons] at hk
    have hls := hl l (by simp)
    have hb : k * s + s ≤ n * s := by rw [← Nat.succ_mul]; exact Nat.mul_le_mul_right _ (by omega)
    have hcur : (l.toArray.zipIdx.foldl (fun cs (x : Value × Nat) => cs.setIfInBounds (k * s + x.2) x.1) cur).toList = cur.toList.take (k * s) ++ l ++ cur.toList.drop (k * s + l.length) := by
      rw [← Array.foldl_toList, Array.toList_zipIdx]
      have := fold_set (k * s) l 0 cur (by omega)
      simpa using this
    have hsz : (l.toArray.zipIdx.foldl (fun cs (x : Value × Nat) => cs.setIfInBounds (k * s + x.2) x.1) cur).size = n * s := by
      rw [← Array.length_toList, hcur]
      simp only [List.length_append, List.length_take, List.length_drop, Array.length_toList]
      omega
    obtain ⟨out, ho, hout⟩ := fill_many s n vs (k + 1) _ (fun x hx => hl x (by simp [hx])) (by omega) hsz
    refine ⟨out, ?_, ?_⟩
    · have hc1 : (Value.agg l.toArray).cells.size = s := by show l.toArray.size = s; simp [hls]
      simp only [List.zipIdx_cons, List.map_cons, Instr.fill]
      rw [if_neg (by simp [hc1]; omega)]
      exact ho
    · have hlen : (cur.toList.take (k * s) ++ l).length = (k + 1) * s := by
        rw [List.length_append, List.length_take, Array.length_toList, Nat.succ_mul]; omega
      rw [hout, hcur, List.take_left' hlen, List.flatten_cons, List.append_assoc]

/-- A slice literal of structs, all told in order. -/
theorem lits_ok {w : World} {t E s bytes : Nat} {z : Value} (he : ElemOk P t E s z bytes) (vs : List (List Value)) (hl : ∀ l ∈ vs, l.length = s) (hn : vs.length * s ≤ 2 ^ 24) :
    ∃ (v : Sl) (w' : World), (Instr.buildSlice t vs.length ((vs.zipIdx.map fun (l, i) => (i, Value.agg l.toArray)).toArray)).run P w = .ok (.slice v.1 v.2.1 v.2.2) w' ∧ IsSl w' E s v vs.flatten ∧ v.2.1 = vs.length ∧ Fr none1 w w' ∧ (∀ k, blkOf v k → w.heap.size ≤ k) := by
  obtain ⟨out, ho, hout⟩ := fill_many s vs.length vs 0 ((Array.range (vs.length * s)).map (z.cells[· % z.cells.size]!)) hl (by simp) (by simp)
  rw [Nat.zero_mul, List.take_zero, List.nil_append] at hout
  have hfl : ∀ vs : List (List Value), (∀ l ∈ vs, l.length = s) → vs.flatten.length = vs.length * s := by
    intro vs
    induction vs with
    | nil => intro _; simp
    | cons l vs ih =>
      intro h
      rw [List.flatten_cons, List.length_append, h l (by simp), ih (fun x hx => h x (by simp [hx])), List.length_cons, Nat.succ_mul]
      omega
  obtain ⟨v, w', a, b, c⟩ := buildSlice_ok (w := w) he vs.length ((vs.zipIdx.map fun (l, i) => (i, Value.agg l.toArray)).toArray) out hn (by simpa using ho) (by rw [← Array.length_toList, hout, hfl vs hl])
  rw [hout] at b
  exact ⟨v, w', a, b, c⟩

theorem flat_drop {α : Type} {s : Nat} : ∀ (vs : List (List α)) (i : Nat), (∀ l ∈ vs, l.length = s) → vs.flatten.drop (i * s) = (vs.drop i).flatten
  | vs, 0, _ => by simp
  | [], i + 1, _ => by simp
  | l :: vs, i + 1, h => by
    rw [List.flatten_cons, List.drop_succ_cons, Nat.succ_mul, Nat.add_comm, ← h l (by simp), ← List.drop_drop, List.drop_left, h l (by simp), flat_drop vs i fun x hx => h x (by simp [hx])]

/-- A struct read out of a slice of structs. -/
theorem RdSl.lds {w : World} {v : Sl} {vs : List (List Value)} {s : Nat} (h : RdSl w s v vs.flatten) (hs : ∀ l ∈ vs, l.length = s) {cks : List Ck} {x : Cs cks} {i : Nat} (hx : vs[i]? = some (Cs.vals cks x)) (hi : i < v.2.1) {K : Cs cks → Prop} (k : K x) {p : Addr} (hp : v.1 = some p) :
    LdsK cks (p.add (i * s)) w K := by
  obtain ⟨h1, h2, h3⟩ := h
  have hc := cellsAt_drop (i * s) _ 0 (h3 p hp)
  rw [Nat.zero_add, flat_drop vs i hs] at hc
  refine ⟨x, ?_, k⟩
  have hlen := hs _ (List.mem_of_getElem? hx)
  have hd : vs.drop i = Cs.vals cks x :: vs.drop (i + 1) := by
    obtain ⟨hlt, he⟩ := List.getElem?_eq_some_iff.1 hx
    rw [List.drop_eq_getElem_cons hlt, he]
  rw [hd, List.flatten_cons] at hc
  have ht := cellsAt_take _ _ s (cellsAt_shift (m := i * s) _ 0 hc)
  rw [← hlen, List.take_left] at ht
  rw [hlen] at ht
  exact ht

end Vc
end Go.Proofs.YtlhbfdakceipkaaGreatDoor
