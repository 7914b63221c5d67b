/-
  Slices of slices of integers that came in; parts of slices.
-/
import Derived.Test.YtlhbfdakceipkaaGreatDoorVcSlice
import Derived.ChangeSlices
namespace Go.Proofs.YtlhbfdakceipkaaGreatDoor
namespace Vc
open Go.ChangeShapes Go.WideShapes
variable {P : Program}

def IsNest (k : IntKind) (w : World) (a : Option Addr) (len cap : Nat) (us : List (Sl × List Int)) : Prop :=
  (a = none ∧ len = 0 ∧ cap = 0 ∧ us = []) ∨
  ∃ x, a = some x ∧ len ≤ cap ∧ cap ≤ maxLen ∧ us.length = len ∧ ∀ i u, us[i]? = some u → w.cell? (x.add i) = some (.slice u.1.1 u.1.2.1 u.1.2.2) ∧ IsInts k w u.1.1 u.1.2.1 u.1.2.2 u.2

theorem list_of {α : Type} {Q : Nat → α → Prop} : ∀ (n : Nat), (∀ i, i < n → ∃ u, Q i u) → ∃ us : List α, us.length = n ∧ ∀ i u, us[i]? = some u → Q i u
  | 0, _ => ⟨[], rfl, fun i u h => by simp at h⟩
  | n + 1, h => by
    obtain ⟨us, hl, hu⟩ := list_of n (fun i hi => h i (by omega))
    obtain ⟨u, hq⟩ := h n (by omega)
    refine ⟨us ++ [u], by simp [hl], fun i x hx => ?_⟩
    by_cases hi : i < us.length
    · rw [List.getElem?_append_left hi] at hx; exact hu i x hx
    · rw [List.getElem?_append_right (by omega)] at hx
      have : i = n := by
        have := (List.getElem?_eq_some_iff.1 hx).1
        simp at this; omega
      subst this
      rw [← hl, Nat.sub_self] at hx
      simp at hx
      subst hx; exact hq

theorem open_nest {H : Type} {enc : TypeId × Value → H} {w : World} {base : Nat} {held : Bool} {t e ee : TypeId} {k : IntKind} {fuel : Nat} {cs : List Value} {x : DataW H × List MemPlace}
    (ht : P.underlying t = some (.slice e)) (he : P.underlying e = some (.slice ee)) (hee : P.underlying ee = some (.int k)) (hc : P.cellsOf e = 1) (hc2 : P.cellsOf ee = 1)
    (h : DataW.trod enc P w base (fun _ => true) held fuel t cs = some x) : ∃ a len cap us, cs = [.slice a len cap] ∧ IsNest k w a len cap us := by
  rcases DataW.trod_slice ht h with ⟨h0, _⟩ | ⟨a, len, cap, elems, rest, n, _, hcs, _, hb, hl, hm, hlen, hel, _, _⟩
  · exact ⟨none, 0, 0, [], h0, .inl ⟨rfl, rfl, rfl, rfl⟩⟩
  obtain ⟨us, ul, hu⟩ := list_of (α := Sl × List Int) (Q := fun i u => w.cell? (a.add i) = some (.slice u.1.1 u.1.2.1 u.1.2.2) ∧ IsInts k w u.1.1 u.1.2.1 u.1.2.2 u.2) len fun i hi => by
    have hb' := hel i hi
    rw [List.getElem?_eq_getElem (by omega), hc, Nat.mul_one, Option.bind_eq_some_iff] at hb'
    obtain ⟨cs', hcs', hy'⟩ := hb'
    rcases open_ints he hee hc2 hy' with ⟨rfl, _⟩ | ⟨y, l, c, zs, rfl, _, hl', hm', hz', _, hcell, hwz⟩
    · exact ⟨((none, 0, 0), []), cell_of_cells?_one hcs', .inl ⟨rfl, rfl, rfl, rfl⟩⟩
    · exact ⟨((some y, l, c), zs), cell_of_cells?_one hcs', .inr ⟨y, rfl, hl', hm', by simpa using hz', hcell, hwz⟩⟩
  exact ⟨some a, len, cap, us, hcs, .inr ⟨a, rfl, hl, hm, ul, hu⟩⟩

theorem IsNest.ld {k : IntKind} {w w' : World} {a : Option Addr} {len cap : Nat} {us : List (Sl × List Int)} (h : IsNest k w a len cap us) (f : Fr none1 w w') {i : Int} (h0 : 0 ≤ i) (h1 : i < len) {K : Sl → Prop}
    (hK : ∀ (u : Sl) zs, IsInts k w u.1 u.2.1 u.2.2 zs → K u) : IdxK a len i 1 fun p => LdK .slc p w' K := by
  rcases h with ⟨_, rfl, _, _⟩ | ⟨x, rfl, hl, hc, hz, hcell⟩
  · omega
  · refine ⟨x, rfl, h0, h1, ?_⟩
    rw [Nat.mul_one]
    obtain ⟨c1, c2⟩ := hcell i.toNat us[i.toNat] (List.getElem?_eq_getElem (by omega))
    exact LdK.cell (x := us[i.toNat].1) (f.cell0 c1) (hK _ _ c2)
theorem IsNest.len_le {k : IntKind} {w : World} {a : Option Addr} {len cap : Nat} {us : List (Sl × List Int)} (h : IsNest k w a len cap us) : (len : Int) ≤ 9223372036854775807 := by
  rcases h with ⟨_, rfl, _, _⟩ | ⟨x, _, hl, hc, _⟩
  · omega
  · unfold maxLen at hc; omega

theorem add_add (a : Addr) (m n : Nat) : (a.add m).add n = a.add (m + n) := by
  unfold Addr.add
  by_cases hm : m = 0
  · subst hm; simp
  · by_cases hn : n = 0
    · subst hn; simp [hm]
    · simp [hm, hn, Nat.add_assoc]

theorem cellsAt_shift {w : World} {a : Addr} {m : Nat} : ∀ (vs : List Value) (i : Nat), CellsAt w a (m + i) vs → CellsAt w (a.add m) i vs
  | [], _, _ => trivial
  | v :: vs, i, ⟨h1, h2⟩ => ⟨by rw [add_add]; exact h1, cellsAt_shift vs (i + 1) h2⟩
theorem cellsAt_drop {w : World} {a : Addr} : ∀ (m : Nat) (vs : List Value) (i : Nat), CellsAt w a i vs → CellsAt w a (i + m) (vs.drop m)
  | 0, vs, i, h => h
  | m + 1, [], i, _ => trivial
  | m + 1, v :: vs, i, ⟨_, h2⟩ => by
    have := cellsAt_drop m vs (i + 1) h2
    rw [show i + 1 + m = i + (m + 1) by omega] at this
    exact this

/-- A part of a slice. -/
theorem RdSl.mid {w : World} {v : Sl} {xs : List Value} (h : RdSl w 1 v xs) {lo hi : Int} (h0 : 0 ≤ lo) (h1 : lo ≤ hi) (h2 : hi ≤ v.2.1) (hc : v.2.1 ≤ v.2.2) {K : Option Addr → Nat → Nat → Prop}
    (k : ∀ u : Sl, RdSl w 1 u ((xs.drop lo.toNat).take (hi - lo).toNat) → u.2.1 ≤ u.2.2 → u.2.1 = (hi - lo).toNat → (∀ k, blkOf u k → blkOf v k) → K u.1 u.2.1 u.2.2) : SubK v.1 v.2.2 lo hi v.2.2 1 K := by
  refine ⟨h0, h1, by omega, by omega, ?_⟩
  obtain ⟨a, b, c⟩ := h
  obtain ⟨B, hB⟩ : ∃ B : Option Addr, (if (v.2.2 : Int) = lo then v.1 else v.1.map (·.add (lo.toNat * 1))) = B := ⟨_, rfl⟩
  obtain ⟨n, hn⟩ : ∃ n : Nat, (hi - lo).toNat = n := ⟨_, rfl⟩
  obtain ⟨m, hm⟩ : ∃ m : Nat, ((v.2.2 : Int) - lo).toNat = m := ⟨_, rfl⟩
  rw [hn] at k
  rw [hB, hn, hm]
  refine k (B, n, m) ⟨?_, fun hN => ?_, fun y hy => ?_⟩ (by dsimp only; omega) rfl ?_
  · dsimp only
    simp only [List.length_take, List.length_drop]
    omega
  · dsimp only at hN ⊢
    have hv : v.1 = none := by
      rw [hN] at hB
      split at hB
      · exact hB
      · cases hv : v.1 with
        | none => rfl
        | some x => rw [hv] at hB; cases hB
    obtain ⟨e1, e2, e3⟩ := b hv
    subst e3
    exact ⟨by omega, by omega, by simp⟩
  · dsimp only at hy
    rw [hy] at hB
    split at hB
    · rename_i he
      have : n = 0 := by omega
      rw [this, List.take_zero]
      exact trivial
    · cases hv : v.1 with
      | none => rw [hv] at hB; cases hB
      | some x =>
        rw [hv] at hB
        injection hB with hB
        subst hB
        rw [Nat.mul_one]
        refine cellsAt_take _ _ _ (cellsAt_shift _ 0 ?_)
        have := cellsAt_drop lo.toNat xs 0 (c x hv)
        rw [Nat.zero_add] at this
        exact this
  · rintro j ⟨y, hy, hj⟩
    dsimp only at hy
    rw [hy] at hB
    split at hB
    · exact ⟨y, hB, hj⟩
    · cases hv : v.1 with
      | none => rw [hv] at hB; cases hB
      | some x =>
        rw [hv] at hB
        injection hB with hB
        refine ⟨x, hv, ?_⟩
        rw [hj, ← hB]
        unfold Addr.add
        split <;> rfl

/-- A region whose operations leave what was there. -/
def still0 (w : World) : (Nat → Bool) → World → Prop := fun _ w' => Fr none1 w w'
theorem RegK.still0 {w : World} {body : ((Nat → Bool) → World → Prop) → Prop} (h : body (Vc.still0 w)) : RegK w body := ⟨Vc.still0 w, ⟨rfl, rfl, rfl, Nat.le_refl _, fun _ _ _ => rfl⟩, h⟩
theorem AnyK.still0 {w : World} {i : Nat} {pr : List Nat} {k : Rk} {op : World → (Value → World → Prop) → Prop} {next : k.C → Prop} (x : k.C)
    (h : ∀ w1, Fr none1 w w1 → op w1 fun v w' => v = k.val x ∧ Vc.still0 w (fun _ => true) w') (hn : next x) : AnyK (Vc.still0 w) i pr k op next :=
  ⟨x, fun _ w1 _ _ hC => h w1 hC, hn⟩

end Vc
end Go.Proofs.YtlhbfdakceipkaaGreatDoor
