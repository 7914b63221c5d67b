/-
  Reading in plain Lean: signs one by one, as a number, as a contract; what is read is what was written; where it fails.
  Conditions: none beyond those stated.
-/
import Derived.Test.YtlhbfdakceipkaaGreatDoorWriteSpec
import Derived.Test.YtlhbfdakceipkaaGreatDoorNumF
set_option linter.unusedVariables false
set_option maxRecDepth 100000
namespace Go.Proofs.YtlhbfdakceipkaaGreatDoor
open Vc

/-! ### The reader: the signs left, the error's place, the error -/
structure RS where
  l : List SignV
  at_ : Int
  e : Int

def placeF (fin : Int) (s : RS) : Int := match s.l with | x :: _ => x.2 | [] => fin
def failF (fin c : Int) (s : RS) : RS := if s.e = 0 then ⟨s.l, placeF fin s, c⟩ else s
def takeF (fin : Int) (right : List UInt8 → Bool) (s : RS) : List UInt8 × RS :=
  if s.e = 0 then match s.l with
    | [] => ([], ⟨[], fin, 2⟩)
    | x :: l => if right x.1 = true then (x.1, ⟨l, s.at_, 0⟩) else ([], ⟨x :: l, x.2, 2⟩)
  else ([], s)
def mustF (fin : Int) (x : List UInt8) (s : RS) : RS := (takeF fin (fun y => decide (y = x)) s).2
def wordF' (x : List UInt8) : Bool := (numF x).2 || (x == [102, 105, 120] || (x == [97, 100, 100] || (x == [110, 101, 103] || (x == [109, 117, 108] || x == [109, 97, 120]))))
def beginsF (x : List UInt8) : Bool := x == [122, 101, 114, 111] || (x == [111, 110, 101] || (x == [103, 105, 118, 101] || (x == [97, 110, 100] || (x == [111, 114] || (x == [115, 99, 97, 108, 101] || (x == [119, 104, 101, 110] || x == [105, 102]))))))
def dayF (x : List UInt8) : Bool := (numF x).2 && (decide (0 ≤ (numF x).1) && decide ((numF x).1 ≤ 10000))

def pairF (fin : Int) (rec : RS → Ob × RS) (s : RS) : Ob × Ob × RS :=
  ((rec (mustF fin [40] s)).1, (rec (mustF fin [44] (rec (mustF fin [40] s)).2)).1, mustF fin [41] (rec (mustF fin [44] (rec (mustF fin [40] s)).2)).2)
def numK (fin : Int) (rec : RS → Ob × RS) (x : List UInt8) (s : RS) : Ob × RS :=
  if x = [102, 105, 120] then (.fix (takeF fin nameL (mustF fin [40] s)).1, mustF fin [41] (takeF fin nameL (mustF fin [40] s)).2)
  else if x = [110, 101, 103] then (.neg (rec (mustF fin [40] s)).1, mustF fin [41] (rec (mustF fin [40] s)).2)
  else if x = [97, 100, 100] then (.add (pairF fin rec s).1 (pairF fin rec s).2.1, (pairF fin rec s).2.2)
  else if x = [109, 117, 108] then (.mul (pairF fin rec s).1 (pairF fin rec s).2.1, (pairF fin rec s).2.2)
  else if x = [109, 97, 120] then (.max (pairF fin rec s).1 (pairF fin rec s).2.1, (pairF fin rec s).2.2)
  else (.const (numF x).1, s)
def numR (fin : Int) : Nat → RS → Ob × RS
  | 0, s => (.none, failF fin 5 s)
  | n + 1, s => if s.e ≠ 0 then (.none, s) else if (takeF fin wordF' s).1 = [] then (.none, (takeF fin wordF' s).2) else numK fin (numR fin n) (takeF fin wordF' s).1 (takeF fin wordF' s).2

def oneF (fin : Int) (rec : RS → Tm × RS) (s : RS) : Tm × RS := ((rec s).1, mustF fin [41] (rec s).2)
def bothF (fin : Int) (rec : RS → Tm × RS) (s : RS) : Tm × Tm × RS := ((rec s).1, (rec (mustF fin [44] (rec s).2)).1, mustF fin [41] (rec (mustF fin [44] (rec s).2)).2)
/-- Behind a contract's word and its bracket. -/
def conK (fin : Int) (num : RS → Ob × RS) (rec : RS → Tm × RS) (x : List UInt8) (s : RS) : Tm × RS :=
  if x = [111, 110, 101] then (.one (takeF fin nameL s).1, mustF fin [41] (takeF fin nameL s).2)
  else if x = [103, 105, 118, 101] then (.give (oneF fin rec s).1, (oneF fin rec s).2)
  else if x = [97, 110, 100] then (.and (bothF fin rec s).1 (bothF fin rec s).2.1, (bothF fin rec s).2.2)
  else if x = [111, 114] then
    (.or (takeF fin nameL s).1 (bothF fin rec (mustF fin [44] (takeF fin nameL s).2)).1 (bothF fin rec (mustF fin [44] (takeF fin nameL s).2)).2.1, (bothF fin rec (mustF fin [44] (takeF fin nameL s).2)).2.2)
  else if x = [115, 99, 97, 108, 101] then (.scale (num s).1 (oneF fin rec (mustF fin [44] (num s).2)).1, (oneF fin rec (mustF fin [44] (num s).2)).2)
  else if x = [119, 104, 101, 110] then
    (.when (numF (takeF fin dayF s).1).1 (oneF fin rec (mustF fin [44] (takeF fin dayF s).2)).1, (oneF fin rec (mustF fin [44] (takeF fin dayF s).2)).2)
  else (.cond (num s).1 (bothF fin rec (mustF fin [44] (num s).2)).1 (bothF fin rec (mustF fin [44] (num s).2)).2.1, (bothF fin rec (mustF fin [44] (num s).2)).2.2)
def conR (fin : Int) : Nat → RS → Tm × RS
  | 0, s => (.none, failF fin 5 s)
  | n + 1, s => if s.e ≠ 0 then (.none, s) else if (takeF fin beginsF s).1 = [] then (.zero, (takeF fin beginsF s).2) else if (takeF fin beginsF s).1 = [122, 101, 114, 111] then (.zero, (takeF fin beginsF s).2)
      else conK fin (numR fin n) (conR fin n) (takeF fin beginsF s).1 (mustF fin [40] (takeF fin beginsF s).2)

def doneF (fin : Int) (s : RS) : RS := match s.l with | [] => s | _ :: _ => failF fin 2 s
/-- A reader of a text. -/
def endF (bs : List UInt8) : Int := ((runesL bs).length : Int) + 1
def beginF (bs : List UInt8) : RS := if 1000 < bs.length then ⟨[], 0, 5⟩ else if 0 < (sgF [] 0 false (runesL bs)).2 then ⟨(sgF [] 0 false (runesL bs)).1, (sgF [] 0 false (runesL bs)).2, 2⟩ else ⟨(sgF [] 0 false (runesL bs)).1, 0, 0⟩
def conS (bs : List UInt8) : RS := doneF (endF bs) (conR (endF bs) 12 (beginF bs)).2
def numS (bs : List UInt8) : RS := doneF (endF bs) (numR (endF bs) 12 (beginF bs)).2
def readT (bs : List UInt8) : Tm × Int × Int :=
  if (conS bs).e ≠ 0 then (.none, (conS bs).at_, (conS bs).e) else if checkT (conR (endF bs) 12 (beginF bs)).1 ≠ 0 then (.none, (conS bs).at_, checkT (conR (endF bs) 12 (beginF bs)).1) else ((conR (endF bs) 12 (beginF bs)).1, 0, 0)
def readO (bs : List UInt8) : Ob × Int × Int :=
  if (numS bs).e ≠ 0 then (.none, (numS bs).at_, (numS bs).e) else if checkO (numR (endF bs) 12 (beginF bs)).1 ≠ 0 then (.none, (numS bs).at_, checkO (numR (endF bs) 12 (beginF bs)).1) else ((numR (endF bs) 12 (beginF bs)).1, 0, 0)

/-! ### A step -/
theorem takeF_hit {fin : Int} {right : List UInt8 → Bool} {x : SignV} {l : List SignV} {a : Int} (h : right x.1 = true) : takeF fin right ⟨x :: l, a, 0⟩ = (x.1, ⟨l, a, 0⟩) := by
  unfold takeF; simp [h]
theorem takeF_miss {fin : Int} {right : List UInt8 → Bool} {x : SignV} {l : List SignV} {a : Int} (h : ¬ right x.1 = true) : takeF fin right ⟨x :: l, a, 0⟩ = ([], ⟨x :: l, x.2, 2⟩) := by
  unfold takeF; simp [h]
theorem takeF_nil {fin : Int} {right : List UInt8 → Bool} {a : Int} : takeF fin right ⟨[], a, 0⟩ = ([], ⟨[], fin, 2⟩) := by
  unfold takeF; simp
theorem takeF_err {fin : Int} {right : List UInt8 → Bool} {s : RS} (h : s.e ≠ 0) : takeF fin right s = ([], s) := by
  unfold takeF; rw [if_neg h]
theorem mustF_err {fin : Int} {x : List UInt8} {s : RS} (h : s.e ≠ 0) : mustF fin x s = s := by unfold mustF; rw [takeF_err h]
theorem failF_err {fin c : Int} {s : RS} (h : s.e ≠ 0) : failF fin c s = s := by unfold failF; rw [if_neg h]

/-- From s to s' these signs are taken. -/
structure Ate (s : RS) (ts : List (List UInt8)) (s' : RS) : Prop where
  e : s.e = 0
  e' : s'.e = 0
  at_ : s'.at_ = s.at_
  eat : ∃ xs : List SignV, s.l = xs ++ s'.l ∧ xs.map Prod.fst = ts

theorem Ate.trans {s s1 s2 : RS} {a b : List (List UInt8)} (h : Ate s a s1) (k : Ate s1 b s2) : Ate s (a ++ b) s2 := by
  obtain ⟨xs, hx, hxs⟩ := h.eat
  obtain ⟨ys, hy, hys⟩ := k.eat
  exact ⟨h.e, k.e', k.at_.trans h.at_, xs ++ ys, by rw [hx, hy, List.append_assoc], by rw [List.map_append, hxs, hys]⟩
theorem Ate.nil {s s' : RS} (h : Ate s [] s') : s = s' := by
  obtain ⟨xs, hx, hxs⟩ := h.eat
  have : xs = [] := by simpa using hxs
  subst this
  rcases s with ⟨l, a, e⟩
  rcases s' with ⟨l', a', e'⟩
  have h1 := h.e; have h2 := h.e'; have h3 := h.at_
  dsimp only at h1 h2 h3 hx
  subst h1 h2 h3
  rw [List.nil_append] at hx
  rw [hx]
theorem Ate.split {s s' : RS} {a b : List (List UInt8)} (h : Ate s (a ++ b) s') : ∃ s1, Ate s a s1 ∧ Ate s1 b s' := by
  obtain ⟨xs, hx, hxs⟩ := h.eat
  obtain ⟨ys, zs, rfl, hy, hz⟩ := List.map_eq_append_iff.1 hxs
  exact ⟨⟨zs ++ s'.l, s.at_, 0⟩, ⟨h.e, rfl, rfl, ys, by rw [hx, List.append_assoc], hy⟩, ⟨rfl, h.e', h.at_, zs, rfl, hz⟩⟩
theorem Ate.head {s s' : RS} {t : List UInt8} {ts : List (List UInt8)} (h : Ate s (t :: ts) s') : ∃ (x : SignV) (l : List SignV), s = ⟨x :: l, s.at_, 0⟩ ∧ x.1 = t ∧ Ate ⟨l, s.at_, 0⟩ ts s' := by
  obtain ⟨xs, hx, hxs⟩ := h.eat
  cases xs with
  | nil => simp at hxs
  | cons x xs =>
    simp only [List.map_cons, List.cons.injEq] at hxs
    refine ⟨x, xs ++ s'.l, ?_, hxs.1, rfl, h.e', h.at_, xs, rfl, hxs.2⟩
    rcases s with ⟨l, a, e⟩
    have h1 := h.e
    dsimp only at h1 hx ⊢
    rw [h1, hx]; rfl

theorem take_inv {fin : Int} {right : List UInt8 → Bool} {s : RS} (h : (takeF fin right s).2.e = 0) : Ate s [(takeF fin right s).1] (takeF fin right s).2 ∧ right (takeF fin right s).1 = true := by
  rcases s with ⟨l, a, e⟩
  by_cases he : e = 0
  · subst he
    cases l with
    | nil => rw [takeF_nil] at h; exact absurd (show (2 : Int) = 0 from h) (by decide)
    | cons x l =>
      by_cases hr : right x.1 = true
      · rw [takeF_hit hr]; exact ⟨⟨rfl, rfl, rfl, [x], rfl, rfl⟩, hr⟩
      · rw [takeF_miss hr] at h; exact absurd (show (2 : Int) = 0 from h) (by decide)
  · rw [takeF_err he] at h; exact absurd h he
theorem must_inv {fin : Int} {x : List UInt8} {s : RS} (h : (mustF fin x s).e = 0) : Ate s [x] (mustF fin x s) := by
  obtain ⟨h1, h2⟩ := take_inv (fin := fin) (right := fun y => decide (y = x)) h
  have h2 := of_decide_eq_true h2
  rw [h2] at h1
  exact h1
theorem take_of {fin : Int} {right : List UInt8 → Bool} {s s' : RS} {t : List UInt8} {ts : List (List UInt8)} (hr : right t = true) (h : Ate s (t :: ts) s') : ∃ s1, takeF fin right s = (t, s1) ∧ Ate s1 ts s' := by
  obtain ⟨x, l, hs, hx, ha⟩ := h.head
  refine ⟨_, ?_, ha⟩
  rw [hs, takeF_hit (by rw [hx]; exact hr), hx]
theorem must_of {fin : Int} {s s' : RS} {t : List UInt8} {ts : List (List UInt8)} (h : Ate s (t :: ts) s') : ∃ s1, mustF fin t s = s1 ∧ Ate s1 ts s' := by
  obtain ⟨s1, h1, h2⟩ := take_of (fin := fin) (right := fun y => decide (y = t)) (by simp) h
  exact ⟨s1, by unfold mustF; rw [h1], h2⟩

/-- The signs left are a proper beginning of these. -/
structure Cut (s : RS) (ts : List (List UInt8)) : Prop where
  e : s.e = 0
  cut : ∃ u : List (List UInt8), u ≠ [] ∧ s.l.map Prod.fst ++ u = ts
def deadR (fin : Int) : RS := ⟨[], fin, 2⟩
theorem dead_e (fin : Int) : (deadR fin).e ≠ 0 := by show (2 : Int) ≠ 0; decide
theorem Cut.nil {s : RS} (h : Cut s []) : False := by
  obtain ⟨u, hu, he⟩ := h.cut
  have := List.append_eq_nil_iff.1 he
  exact hu this.2
theorem Cut.head {s : RS} {t : List UInt8} {ts : List (List UInt8)} (h : Cut s (t :: ts)) : s = ⟨[], s.at_, 0⟩ ∨ ∃ (x : SignV) (l : List SignV), s = ⟨x :: l, s.at_, 0⟩ ∧ x.1 = t ∧ Cut ⟨l, s.at_, 0⟩ ts := by
  obtain ⟨u, hu, he⟩ := h.cut
  rcases s with ⟨l, a, e⟩
  have h1 := h.e
  dsimp only at h1 he ⊢
  subst h1
  cases l with
  | nil => exact .inl rfl
  | cons x l =>
    simp only [List.map_cons, List.cons_append, List.cons.injEq] at he
    exact .inr ⟨x, l, rfl, he.1, rfl, u, hu, he.2⟩
theorem Cut.split {s : RS} {a b : List (List UInt8)} (h : Cut s (a ++ b)) : Cut s a ∨ ∃ s1, Ate s a s1 ∧ Cut s1 b := by
  obtain ⟨u, hu, he⟩ := h.cut
  rcases List.append_eq_append_iff.1 he with ⟨c, hc1, hc2⟩ | ⟨c, hc1, hc2⟩
  · by_cases hc : c = []
    · subst hc
      rw [List.append_nil] at hc1
      rw [List.nil_append] at hc2
      refine .inr ⟨⟨[], s.at_, 0⟩, ⟨h.e, rfl, rfl, s.l, by simp, hc1.symm⟩, rfl, b, ?_, by simp⟩
      rw [← hc2]; exact hu
    · exact .inl ⟨h.e, c, hc, hc1.symm⟩
  · obtain ⟨ys, zs, hl, hy, hz⟩ := List.map_eq_append_iff.1 hc1
    exact .inr ⟨⟨zs, s.at_, 0⟩, ⟨h.e, rfl, rfl, ys, hl, hy⟩, rfl, u, hu, by rw [hz]; exact hc2.symm⟩
theorem take_cut {fin : Int} {right : List UInt8 → Bool} {s : RS} {t : List UInt8} {ts : List (List UInt8)} (hr : right t = true) (h : Cut s (t :: ts)) : takeF fin right s = ([], deadR fin) ∨ ∃ s1, takeF fin right s = (t, s1) ∧ Cut s1 ts := by
  rcases h.head with hs | ⟨x, l, hs, hx, hc⟩
  · left; rw [hs, takeF_nil]; rfl
  · right; exact ⟨_, by rw [hs, takeF_hit (by rw [hx]; exact hr), hx], hc⟩
theorem must_cut {fin : Int} {s : RS} {t : List UInt8} {ts : List (List UInt8)} (h : Cut s (t :: ts)) : mustF fin t s = deadR fin ∨ ∃ s1, mustF fin t s = s1 ∧ Cut s1 ts := by
  unfold mustF
  rcases take_cut (fin := fin) (right := fun y => decide (y = t)) (by simp) h with h1 | ⟨s1, h1, h2⟩
  · left; rw [h1]
  · right; rw [h1]; exact ⟨_, rfl, h2⟩
theorem must_dead (fin : Int) (x : List UInt8) : mustF fin x (deadR fin) = deadR fin := mustF_err (dead_e fin)
theorem take_dead (fin : Int) (right : List UInt8 → Bool) : takeF fin right (deadR fin) = ([], deadR fin) := takeF_err (dead_e fin)

/-! ### Behind an error nothing is read -/
theorem pair_err {fin : Int} {rec : RS → Ob × RS} (hr : ∀ s, s.e ≠ 0 → (rec s).2 = s) {s : RS} (h : s.e ≠ 0) : (pairF fin rec s).2.2 = s := by
  unfold pairF
  dsimp only
  rw [mustF_err h, hr s h, mustF_err h, hr s h, mustF_err h]
theorem numR_err (fin : Int) : ∀ (n : Nat) (s : RS), s.e ≠ 0 → (numR fin n s).2 = s
  | 0, s, h => failF_err h
  | n + 1, s, h => by unfold numR; rw [if_pos h]
theorem conR_err (fin : Int) : ∀ (n : Nat) (s : RS), s.e ≠ 0 → (conR fin n s).2 = s
  | 0, s, h => failF_err h
  | n + 1, s, h => by unfold conR; rw [if_pos h]

/-! ### The signs of a number, of a contract -/
def toksO : Ob → List (List UInt8)
  | .none => []
  | .const n => [Lib.itoa n]
  | .fix s => [102, 105, 120] :: [40] :: s :: [[41]]
  | .neg o => [110, 101, 103] :: [40] :: (toksO o ++ [[41]])
  | .add l r => [97, 100, 100] :: [40] :: (toksO l ++ ([44] :: (toksO r ++ [[41]])))
  | .mul l r => [109, 117, 108] :: [40] :: (toksO l ++ ([44] :: (toksO r ++ [[41]])))
  | .max l r => [109, 97, 120] :: [40] :: (toksO l ++ ([44] :: (toksO r ++ [[41]])))
def toksT : Tm → List (List UInt8)
  | .none => []
  | .zero => [[122, 101, 114, 111]]
  | .one s => [111, 110, 101] :: [40] :: s :: [[41]]
  | .give t => [103, 105, 118, 101] :: [40] :: (toksT t ++ [[41]])
  | .and l r => [97, 110, 100] :: [40] :: (toksT l ++ ([44] :: (toksT r ++ [[41]])))
  | .or s l r => [111, 114] :: [40] :: s :: [44] :: (toksT l ++ ([44] :: (toksT r ++ [[41]])))
  | .scale o t => [115, 99, 97, 108, 101] :: [40] :: (toksO o ++ ([44] :: (toksT t ++ [[41]])))
  | .when d t => [119, 104, 101, 110] :: [40] :: Lib.itoa d :: [44] :: (toksT t ++ [[41]])
  | .cond o l r => [105, 102] :: [40] :: (toksO o ++ ([44] :: (toksT l ++ ([44] :: (toksT r ++ [[41]])))))

/-- No word of a number is one of digits. -/
theorem word_cases {x : List UInt8} (h : wordF' x = true) : x = [102, 105, 120] ∨ x = [97, 100, 100] ∨ x = [110, 101, 103] ∨ x = [109, 117, 108] ∨ x = [109, 97, 120] ∨ (numF x).2 = true := by
  unfold wordF' at h
  simp only [Bool.or_eq_true, beq_iff_eq] at h
  rcases h with h | h | h | h | h | h <;> simp [h]
theorem word_num {x : List UInt8} (h : (numF x).2 = true) : x ≠ [] ∧ x ≠ [102, 105, 120] ∧ x ≠ [110, 101, 103] ∧ x ≠ [97, 100, 100] ∧ x ≠ [109, 117, 108] ∧ x ≠ [109, 97, 120] := by
  refine ⟨?_, ?_, ?_, ?_, ?_, ?_⟩ <;> (rintro rfl; exact absurd h (by decide +kernel))
theorem begins_cases {x : List UInt8} (h : beginsF x = true) : x = [122, 101, 114, 111] ∨ x = [111, 110, 101] ∨ x = [103, 105, 118, 101] ∨ x = [97, 110, 100] ∨ x = [111, 114] ∨ x = [115, 99, 97, 108, 101] ∨ x = [119, 104, 101, 110] ∨ x = [105, 102] := by
  unfold beginsF at h
  simpa only [Bool.or_eq_true, beq_iff_eq] using h

theorem day_cases {x : List UInt8} (h : dayF x = true) : (numF x).2 = true ∧ 0 ≤ (numF x).1 ∧ (numF x).1 ≤ 10000 := by
  unfold dayF at h
  simpa only [Bool.and_eq_true, decide_eq_true_eq] using h

/-! ### What was read is what stood there -/
def GoodO (n : Nat) (rec : RS → Ob × RS) : Prop := ∀ s, (rec s).2.e = 0 → Ate s (toksO (rec s).1) (rec s).2 ∧ formO (rec s).1 = true ∧ depthO (rec s).1 ≤ n
def GoodT (n : Nat) (rec : RS → Tm × RS) : Prop := ∀ s, (rec s).2.e = 0 → Ate s (toksT (rec s).1) (rec s).2 ∧ formT (rec s).1 = true ∧ depthT (rec s).1 ≤ n

theorem pair_inv {fin : Int} {n : Nat} {rec : RS → Ob × RS} (hr : GoodO n rec) {s : RS} (h : (pairF fin rec s).2.2.e = 0) :
    Ate s ([40] :: (toksO (pairF fin rec s).1 ++ ([44] :: (toksO (pairF fin rec s).2.1 ++ [[41]])))) (pairF fin rec s).2.2 ∧ (formO (pairF fin rec s).1 = true ∧ depthO (pairF fin rec s).1 ≤ n) ∧ formO (pairF fin rec s).2.1 = true ∧ depthO (pairF fin rec s).2.1 ≤ n := by
  unfold pairF at h ⊢
  dsimp only at h ⊢
  have h5 := must_inv h
  have h4 := hr _ h5.e
  have h3 := must_inv h4.1.e
  have h2 := hr _ h3.e
  have h1 := must_inv h2.1.e
  have := h1.trans (h2.1.trans (h3.trans (h4.1.trans h5)))
  exact ⟨by simpa using this, h2.2, h4.2⟩

theorem numR_inv (fin : Int) : ∀ n, GoodO n (numR fin n)
  | 0, s, h => by
    exfalso
    by_cases he : s.e = 0
    · have : (numR fin 0 s).2.e = 5 := by show (failF fin 5 s).e = 5; unfold failF; rw [if_pos he]
      rw [this] at h; exact absurd h (by decide)
    · rw [numR_err fin 0 s he] at h; exact he h
  | n + 1, s, h => by
    have ih := numR_inv fin n
    have he : s.e = 0 := by
      refine Classical.byContradiction fun he => ?_
      rw [numR_err fin (n + 1) s he] at h; exact he h
    unfold numR at h ⊢
    rw [if_neg (by simpa using he)] at h ⊢
    by_cases hnil : (takeF fin wordF' s).1 = []
    · rw [if_pos hnil] at h
      have := (take_inv h).2
      rw [hnil] at this
      exact absurd this (by decide +kernel)
    rw [if_neg hnil] at h ⊢
    have step : ∀ {o : Ob} {u : List (List UInt8)} {s' : RS}, Ate (takeF fin wordF' s).2 u s' → Ate s ((takeF fin wordF' s).1 :: u) s' ∧ wordF' (takeF fin wordF' s).1 = true := fun ha => by
      have t := take_inv (fin := fin) (right := wordF') (s := s) ha.e
      exact ⟨t.1.trans ha, t.2⟩
    generalize hx : (takeF fin wordF' s).1 = x at h hnil step ⊢
    generalize hs1 : (takeF fin wordF' s).2 = s1 at h step ⊢
    unfold numK at h ⊢
    by_cases c1 : x = [102, 105, 120]
    · rw [if_pos c1] at h ⊢
      dsimp only at h ⊢
      have h3 := must_inv h
      have h2 := take_inv h3.e
      have h1 := must_inv h2.1.e
      have := h1.trans (h2.1.trans h3)
      refine ⟨by have := (step (o := .none) this).1; rw [c1] at this; simpa [toksO] using this, h2.2, by unfold depthO; omega⟩
    rw [if_neg c1] at h ⊢
    by_cases c2 : x = [110, 101, 103]
    · rw [if_pos c2] at h ⊢
      dsimp only at h ⊢
      have h3 := must_inv h
      have h2 := ih _ h3.e
      have h1 := must_inv h2.1.e
      have := h1.trans (h2.1.trans h3)
      refine ⟨by have := (step (o := .none) this).1; rw [c2] at this; simpa [toksO] using this, h2.2.1, by unfold depthO; have := h2.2.2; omega⟩
    rw [if_neg c2] at h ⊢
    by_cases c3 : x = [97, 100, 100]
    · rw [if_pos c3] at h ⊢
      dsimp only at h ⊢
      have hp := pair_inv ih h
      refine ⟨by have := (step (o := .none) hp.1).1; rw [c3] at this; exact this, by unfold formO; rw [hp.2.1.1, hp.2.2.1]; rfl, by unfold depthO; have := hp.2.1.2; have := hp.2.2.2; omega⟩
    rw [if_neg c3] at h ⊢
    by_cases c4 : x = [109, 117, 108]
    · rw [if_pos c4] at h ⊢
      dsimp only at h ⊢
      have hp := pair_inv ih h
      refine ⟨by have := (step (o := .none) hp.1).1; rw [c4] at this; exact this, by unfold formO; rw [hp.2.1.1, hp.2.2.1]; rfl, by unfold depthO; have := hp.2.1.2; have := hp.2.2.2; omega⟩
    rw [if_neg c4] at h ⊢
    by_cases c5 : x = [109, 97, 120]
    · rw [if_pos c5] at h ⊢
      dsimp only at h ⊢
      have hp := pair_inv ih h
      refine ⟨by have := (step (o := .none) hp.1).1; rw [c5] at this; exact this, by unfold formO; rw [hp.2.1.1, hp.2.2.1]; rfl, by unfold depthO; have := hp.2.1.2; have := hp.2.2.2; omega⟩
    rw [if_neg c5] at h ⊢
    dsimp only at h ⊢
    have h1 := step (o := .none) (u := []) (s' := s1) ⟨h, h, rfl, [], rfl, rfl⟩
    rcases word_cases h1.2 with t | t | t | t | t | t
    · exact absurd t c1
    · exact absurd t c3
    · exact absurd t c2
    · exact absurd t c4
    · exact absurd t c5
    · have hi := numF_inv t
      refine ⟨?_, ?_, by unfold depthO; omega⟩
      · unfold toksO
        rw [← hi.1]; exact h1.1
      · unfold formO validF
        rw [decide_eq_true hi.2.1, decide_eq_true hi.2.2]; rfl

theorem one_inv {fin : Int} {n : Nat} {rec : RS → Tm × RS} (hr : GoodT n rec) {s : RS} (h : (oneF fin rec s).2.e = 0) :
    Ate s (toksT (oneF fin rec s).1 ++ [[41]]) (oneF fin rec s).2 ∧ formT (oneF fin rec s).1 = true ∧ depthT (oneF fin rec s).1 ≤ n := by
  unfold oneF at h ⊢
  dsimp only at h ⊢
  have h5 := must_inv h
  have h4 := hr _ h5.e
  exact ⟨h4.1.trans h5, h4.2⟩
theorem both_inv {fin : Int} {n : Nat} {rec : RS → Tm × RS} (hr : GoodT n rec) {s : RS} (h : (bothF fin rec s).2.2.e = 0) :
    Ate s (toksT (bothF fin rec s).1 ++ ([44] :: (toksT (bothF fin rec s).2.1 ++ [[41]]))) (bothF fin rec s).2.2 ∧ (formT (bothF fin rec s).1 = true ∧ depthT (bothF fin rec s).1 ≤ n) ∧ formT (bothF fin rec s).2.1 = true ∧ depthT (bothF fin rec s).2.1 ≤ n := by
  unfold bothF at h ⊢
  dsimp only at h ⊢
  have h5 := must_inv h
  have h4 := hr _ h5.e
  have h3 := must_inv h4.1.e
  have h2 := hr _ h3.e
  have := h2.1.trans (h3.trans (h4.1.trans h5))
  exact ⟨by simpa using this, h2.2, h4.2⟩

theorem conR_inv (fin : Int) : ∀ n, GoodT n (conR fin n)
  | 0, s, h => by
    exfalso
    by_cases he : s.e = 0
    · have : (conR fin 0 s).2.e = 5 := by show (failF fin 5 s).e = 5; unfold failF; rw [if_pos he]
      rw [this] at h; exact absurd h (by decide)
    · rw [conR_err fin 0 s he] at h; exact he h
  | n + 1, s, h => by
    have ih := conR_inv fin n
    have ihO := numR_inv fin n
    have he : s.e = 0 := by
      refine Classical.byContradiction fun he => ?_
      rw [conR_err fin (n + 1) s he] at h; exact he h
    unfold conR at h ⊢
    rw [if_neg (by simpa using he)] at h ⊢
    by_cases hnil : (takeF fin beginsF s).1 = []
    · rw [if_pos hnil] at h
      have := (take_inv h).2
      rw [hnil] at this
      exact absurd this (by decide +kernel)
    rw [if_neg hnil] at h ⊢
    have step : ∀ {u : List (List UInt8)} {s' : RS}, Ate (takeF fin beginsF s).2 u s' → Ate s ((takeF fin beginsF s).1 :: u) s' ∧ beginsF (takeF fin beginsF s).1 = true := fun ha => by
      have t := take_inv (fin := fin) (right := beginsF) (s := s) ha.e
      exact ⟨t.1.trans ha, t.2⟩
    generalize hx : (takeF fin beginsF s).1 = x at h hnil step ⊢
    generalize hs1 : (takeF fin beginsF s).2 = s1 at h step ⊢
    by_cases c0 : x = [122, 101, 114, 111]
    · rw [if_pos c0] at h ⊢
      dsimp only at h ⊢
      refine ⟨by have := (step (u := []) (s' := s1) ⟨h, h, rfl, [], rfl, rfl⟩).1; rw [c0] at this; exact this, rfl, by unfold depthT; omega⟩
    rw [if_neg c0] at h ⊢
    have step2 : ∀ {u : List (List UInt8)} {s' : RS}, Ate (mustF fin [40] s1) u s' → Ate s (x :: [40] :: u) s' ∧ beginsF x = true := fun ha => step ((must_inv ha.e).trans ha)
    generalize hs2 : mustF fin [40] s1 = s2 at h step2 ⊢
    unfold conK at h ⊢
    by_cases c1 : x = [111, 110, 101]
    · rw [if_pos c1] at h ⊢
      dsimp only at h ⊢
      have h3 := must_inv h
      have h2 := take_inv h3.e
      refine ⟨by have := (step2 (h2.1.trans h3)).1; rw [c1] at this; simpa [toksT] using this, h2.2, by unfold depthT; omega⟩
    rw [if_neg c1] at h ⊢
    by_cases c2 : x = [103, 105, 118, 101]
    · rw [if_pos c2] at h ⊢
      dsimp only at h ⊢
      have hp := one_inv ih h
      refine ⟨by have := (step2 hp.1).1; rw [c2] at this; exact this, hp.2.1, by unfold depthT; have := hp.2.2; omega⟩
    rw [if_neg c2] at h ⊢
    by_cases c3 : x = [97, 110, 100]
    · rw [if_pos c3] at h ⊢
      dsimp only at h ⊢
      have hp := both_inv ih h
      refine ⟨by have := (step2 hp.1).1; rw [c3] at this; exact this, by unfold formT; rw [hp.2.1.1, hp.2.2.1]; rfl, by unfold depthT; have := hp.2.1.2; have := hp.2.2.2; omega⟩
    rw [if_neg c3] at h ⊢
    by_cases c4 : x = [111, 114]
    · rw [if_pos c4] at h ⊢
      dsimp only at h ⊢
      have hp := both_inv ih h
      have h2 := must_inv hp.1.e
      have h1 := take_inv h2.e
      refine ⟨by have := (step2 (h1.1.trans (h2.trans hp.1))).1; rw [c4] at this; simpa [toksT] using this, by unfold formT; rw [hp.2.1.1, hp.2.2.1, h1.2]; rfl, by unfold depthT; have := hp.2.1.2; have := hp.2.2.2; omega⟩
    rw [if_neg c4] at h ⊢
    by_cases c5 : x = [115, 99, 97, 108, 101]
    · rw [if_pos c5] at h ⊢
      dsimp only at h ⊢
      have hp := one_inv ih h
      have h2 := must_inv hp.1.e
      have h1 := ihO _ h2.e
      refine ⟨by have := (step2 (h1.1.trans (h2.trans hp.1))).1; rw [c5] at this; simpa [toksT] using this, by unfold formT; rw [hp.2.1, h1.2.1]; rfl, by unfold depthT; have := hp.2.2; have := h1.2.2; omega⟩
    rw [if_neg c5] at h ⊢
    by_cases c6 : x = [119, 104, 101, 110]
    · rw [if_pos c6] at h ⊢
      dsimp only at h ⊢
      have hp := one_inv ih h
      have h2 := must_inv hp.1.e
      have h1 := take_inv h2.e
      have hd := day_cases h1.2
      have hi := numF_inv hd.1
      refine ⟨?_, by unfold formT; rw [hp.2.1, decide_eq_true hd.2.1, decide_eq_true hd.2.2]; rfl, by unfold depthT; have := hp.2.2; omega⟩
      have := (step2 (h1.1.trans (h2.trans hp.1))).1
      rw [c6] at this
      unfold toksT
      rw [← hi.1]
      simpa using this
    rw [if_neg c6] at h ⊢
    dsimp only at h ⊢
    have hp := both_inv ih h
    have h2 := must_inv hp.1.e
    have h1 := ihO _ h2.e
    have h0 := step2 (h1.1.trans (h2.trans hp.1))
    have c7 : x = [105, 102] := by
      rcases begins_cases h0.2 with t | t | t | t | t | t | t | t
      · exact absurd t c0
      · exact absurd t c1
      · exact absurd t c2
      · exact absurd t c3
      · exact absurd t c4
      · exact absurd t c5
      · exact absurd t c6
      · exact t
    refine ⟨by have := h0.1; rw [c7] at this; simpa [toksT] using this, by unfold formT; rw [hp.2.1.1, hp.2.2.1, h1.2.1]; rfl, by unfold depthT; have := hp.2.1.2; have := hp.2.2.2; have := h1.2.2; omega⟩

/-! ### What stands there is read -/
theorem numR_of (fin : Int) : ∀ (n : Nat) (o : Ob), formO o = true → depthO o ≤ n → ∀ {s s' : RS}, Ate s (toksO o) s' → numR fin n s = (o, s')
  | 0, o, hf, hd, s, s', h => by cases o <;> simp [formO, depthO] at hf hd
  | n + 1, o, hf, hd, s, s', h => by
    have ih := numR_of fin n
    have he := h.e
    unfold numR
    rw [if_neg (by simpa using he)]
    cases o with
    | none => cases hf
    | const k =>
      have hv := validF_iff hf
      have hn := numF_itoa hv.1 hv.2
      have hw : wordF' (Lib.itoa k) = true := by unfold wordF'; rw [hn]; rfl
      obtain ⟨s1, e1, h⟩ := take_of (fin := fin) hw h
      have := h.nil; subst this
      have hne := word_num (x := Lib.itoa k) (by rw [hn])
      rw [e1]
      dsimp only
      rw [if_neg hne.1]
      unfold numK
      rw [if_neg hne.2.1, if_neg hne.2.2.1, if_neg hne.2.2.2.1, if_neg hne.2.2.2.2.1, if_neg hne.2.2.2.2.2, hn]
    | fix x =>
      obtain ⟨s1, e1, h⟩ := take_of (fin := fin) (right := wordF') (by decide +kernel) h
      obtain ⟨s2, e2, h⟩ := must_of (fin := fin) h
      obtain ⟨s3, e3, h⟩ := take_of (fin := fin) (right := nameL) hf h
      obtain ⟨s4, e4, h⟩ := must_of (fin := fin) h
      have := h.nil; subst this
      rw [e1]
      dsimp only
      rw [if_neg (by decide)]
      unfold numK
      rw [if_pos rfl, e2, e3]
      dsimp only
      rw [e4]
    | neg x =>
      have hd' : depthO x ≤ n := by unfold depthO at hd; omega
      obtain ⟨s1, e1, h⟩ := take_of (fin := fin) (right := wordF') (by decide +kernel) h
      obtain ⟨s2, e2, h⟩ := must_of (fin := fin) h
      obtain ⟨s3, ha, h⟩ := h.split
      obtain ⟨s4, e4, h⟩ := must_of (fin := fin) h
      have := h.nil; subst this
      rw [e1]
      dsimp only
      rw [if_neg (by decide)]
      unfold numK
      rw [if_neg (by decide), if_pos rfl, e2, ih x hf hd' ha]
      dsimp only
      rw [e4]
    | add l r =>
      simp only [formO, Bool.and_eq_true] at hf
      have hl : depthO l ≤ n := by unfold depthO at hd; omega
      have hr : depthO r ≤ n := by unfold depthO at hd; omega
      obtain ⟨s1, e1, h⟩ := take_of (fin := fin) (right := wordF') (by decide +kernel) h
      obtain ⟨s2, e2, h⟩ := must_of (fin := fin) h
      obtain ⟨s3, ha, h⟩ := h.split
      obtain ⟨s4, e4, h⟩ := must_of (fin := fin) h
      obtain ⟨s5, hb, h⟩ := h.split
      obtain ⟨s6, e6, h⟩ := must_of (fin := fin) h
      have := h.nil; subst this
      rw [e1]
      dsimp only
      rw [if_neg (by decide)]
      unfold numK
      rw [if_neg (by decide), if_neg (by decide), if_pos rfl]
      unfold pairF
      rw [e2, ih l hf.1 hl ha]
      dsimp only
      rw [e4, ih r hf.2 hr hb]
      dsimp only
      rw [e6]
    | mul l r =>
      simp only [formO, Bool.and_eq_true] at hf
      have hl : depthO l ≤ n := by unfold depthO at hd; omega
      have hr : depthO r ≤ n := by unfold depthO at hd; omega
      obtain ⟨s1, e1, h⟩ := take_of (fin := fin) (right := wordF') (by decide +kernel) h
      obtain ⟨s2, e2, h⟩ := must_of (fin := fin) h
      obtain ⟨s3, ha, h⟩ := h.split
      obtain ⟨s4, e4, h⟩ := must_of (fin := fin) h
      obtain ⟨s5, hb, h⟩ := h.split
      obtain ⟨s6, e6, h⟩ := must_of (fin := fin) h
      have := h.nil; subst this
      rw [e1]
      dsimp only
      rw [if_neg (by decide)]
      unfold numK
      rw [if_neg (by decide), if_neg (by decide), if_neg (by decide), if_pos rfl]
      unfold pairF
      rw [e2, ih l hf.1 hl ha]
      dsimp only
      rw [e4, ih r hf.2 hr hb]
      dsimp only
      rw [e6]
    | max l r =>
      simp only [formO, Bool.and_eq_true] at hf
      have hl : depthO l ≤ n := by unfold depthO at hd; omega
      have hr : depthO r ≤ n := by unfold depthO at hd; omega
      obtain ⟨s1, e1, h⟩ := take_of (fin := fin) (right := wordF') (by decide +kernel) h
      obtain ⟨s2, e2, h⟩ := must_of (fin := fin) h
      obtain ⟨s3, ha, h⟩ := h.split
      obtain ⟨s4, e4, h⟩ := must_of (fin := fin) h
      obtain ⟨s5, hb, h⟩ := h.split
      obtain ⟨s6, e6, h⟩ := must_of (fin := fin) h
      have := h.nil; subst this
      rw [e1]
      dsimp only
      rw [if_neg (by decide)]
      unfold numK
      rw [if_neg (by decide), if_neg (by decide), if_neg (by decide), if_neg (by decide), if_pos rfl]
      unfold pairF
      rw [e2, ih l hf.1 hl ha]
      dsimp only
      rw [e4, ih r hf.2 hr hb]
      dsimp only
      rw [e6]

theorem oneF_of {fin : Int} {rec : RS → Tm × RS} {t : Tm} {s s1 s2 : RS} (h : rec s = (t, s1)) (e : mustF fin [41] s1 = s2) : oneF fin rec s = (t, s2) := by
  unfold oneF; rw [h]; dsimp only; rw [e]
theorem bothF_of {fin : Int} {rec : RS → Tm × RS} {l r : Tm} {s s1 s2 s3 s4 : RS} (h : rec s = (l, s1)) (e : mustF fin [44] s1 = s2) (h2 : rec s2 = (r, s3)) (e2 : mustF fin [41] s3 = s4) : bothF fin rec s = (l, r, s4) := by
  unfold bothF; rw [h]; dsimp only; rw [e, h2]; dsimp only; rw [e2]

theorem conR_of (fin : Int) : ∀ (n : Nat) (t : Tm), formT t = true → depthT t ≤ n → ∀ {s s' : RS}, Ate s (toksT t) s' → conR fin n s = (t, s')
  | 0, t, hf, hd, s, s', h => by cases t <;> simp [formT, depthT] at hf hd
  | n + 1, t, hf, hd, s, s', h => by
    have ih := conR_of fin n
    have ihO := numR_of fin n
    have he := h.e
    unfold conR
    rw [if_neg (by simpa using he)]
    cases t with
    | none => cases hf
    | zero =>
      obtain ⟨s1, e1, h⟩ := take_of (fin := fin) (right := beginsF) (by decide) h
      have := h.nil; subst this
      rw [e1]
      dsimp only
      rw [if_neg (by decide), if_pos rfl]
    | one x =>
      obtain ⟨s1, e1, h⟩ := take_of (fin := fin) (right := beginsF) (by decide) h
      obtain ⟨s2, e2, h⟩ := must_of (fin := fin) h
      obtain ⟨s3, e3, h⟩ := take_of (fin := fin) (right := nameL) hf h
      obtain ⟨s4, e4, h⟩ := must_of (fin := fin) h
      have := h.nil; subst this
      rw [e1]
      dsimp only
      rw [if_neg (by decide), if_neg (by decide), e2]
      unfold conK
      rw [if_pos rfl, e3]
      dsimp only
      rw [e4]
    | give x =>
      have hd' : depthT x ≤ n := by unfold depthT at hd; omega
      obtain ⟨s1, e1, h⟩ := take_of (fin := fin) (right := beginsF) (by decide) h
      obtain ⟨s2, e2, h⟩ := must_of (fin := fin) h
      obtain ⟨s3, ha, h⟩ := h.split
      obtain ⟨s4, e4, h⟩ := must_of (fin := fin) h
      have := h.nil; subst this
      rw [e1]
      dsimp only
      rw [if_neg (by decide), if_neg (by decide), e2]
      unfold conK
      rw [if_neg (by decide), if_pos rfl, oneF_of (ih x hf hd' ha) e4]
    | and l r =>
      simp only [formT, Bool.and_eq_true] at hf
      have hl : depthT l ≤ n := by unfold depthT at hd; omega
      have hr : depthT r ≤ n := by unfold depthT at hd; omega
      obtain ⟨s1, e1, h⟩ := take_of (fin := fin) (right := beginsF) (by decide) h
      obtain ⟨s2, e2, h⟩ := must_of (fin := fin) h
      obtain ⟨s3, ha, h⟩ := h.split
      obtain ⟨s4, e4, h⟩ := must_of (fin := fin) h
      obtain ⟨s5, hb, h⟩ := h.split
      obtain ⟨s6, e6, h⟩ := must_of (fin := fin) h
      have := h.nil; subst this
      rw [e1]
      dsimp only
      rw [if_neg (by decide), if_neg (by decide), e2]
      unfold conK
      rw [if_neg (by decide), if_neg (by decide), if_pos rfl, bothF_of (ih l hf.1 hl ha) e4 (ih r hf.2 hr hb) e6]
    | or x l r =>
      simp only [formT, Bool.and_eq_true] at hf
      have hl : depthT l ≤ n := by unfold depthT at hd; omega
      have hr : depthT r ≤ n := by unfold depthT at hd; omega
      obtain ⟨s1, e1, h⟩ := take_of (fin := fin) (right := beginsF) (by decide) h
      obtain ⟨s2, e2, h⟩ := must_of (fin := fin) h
      obtain ⟨s7, e7, h⟩ := take_of (fin := fin) (right := nameL) hf.1 h
      obtain ⟨s8, e8, h⟩ := must_of (fin := fin) h
      obtain ⟨s3, ha, h⟩ := h.split
      obtain ⟨s4, e4, h⟩ := must_of (fin := fin) h
      obtain ⟨s5, hb, h⟩ := h.split
      obtain ⟨s6, e6, h⟩ := must_of (fin := fin) h
      have := h.nil; subst this
      rw [e1]
      dsimp only
      rw [if_neg (by decide), if_neg (by decide), e2]
      unfold conK
      rw [if_neg (by decide), if_neg (by decide), if_neg (by decide), if_pos rfl, e7]
      dsimp only
      rw [e8, bothF_of (ih l hf.2.1 hl ha) e4 (ih r hf.2.2 hr hb) e6]
    | scale o x =>
      simp only [formT, Bool.and_eq_true] at hf
      have hl : depthO o ≤ n := by unfold depthT at hd; omega
      have hr : depthT x ≤ n := by unfold depthT at hd; omega
      obtain ⟨s1, e1, h⟩ := take_of (fin := fin) (right := beginsF) (by decide) h
      obtain ⟨s2, e2, h⟩ := must_of (fin := fin) h
      obtain ⟨s3, ha, h⟩ := h.split
      obtain ⟨s4, e4, h⟩ := must_of (fin := fin) h
      obtain ⟨s5, hb, h⟩ := h.split
      obtain ⟨s6, e6, h⟩ := must_of (fin := fin) h
      have := h.nil; subst this
      rw [e1]
      dsimp only
      rw [if_neg (by decide), if_neg (by decide), e2]
      unfold conK
      rw [if_neg (by decide), if_neg (by decide), if_neg (by decide), if_neg (by decide), if_pos rfl, ihO o hf.1 hl ha]
      dsimp only
      rw [e4, oneF_of (ih x hf.2 hr hb) e6]
    | when d x =>
      simp only [formT, Bool.and_eq_true, decide_eq_true_eq] at hf
      have hr : depthT x ≤ n := by unfold depthT at hd; omega
      have hn := numF_itoa (n := d) (by omega) (by omega)
      have hday : dayF (Lib.itoa d) = true := by unfold dayF; rw [hn]; simp [hf.1.1, hf.1.2]
      obtain ⟨s1, e1, h⟩ := take_of (fin := fin) (right := beginsF) (by decide) h
      obtain ⟨s2, e2, h⟩ := must_of (fin := fin) h
      obtain ⟨s3, e3, h⟩ := take_of (fin := fin) (right := dayF) hday h
      obtain ⟨s4, e4, h⟩ := must_of (fin := fin) h
      obtain ⟨s5, hb, h⟩ := h.split
      obtain ⟨s6, e6, h⟩ := must_of (fin := fin) h
      have := h.nil; subst this
      rw [e1]
      dsimp only
      rw [if_neg (by decide), if_neg (by decide), e2]
      unfold conK
      rw [if_neg (by decide), if_neg (by decide), if_neg (by decide), if_neg (by decide), if_neg (by decide), if_pos rfl, e3]
      dsimp only
      rw [e4, oneF_of (ih x hf.2 hr hb) e6, hn]
    | cond o l r =>
      simp only [formT, Bool.and_eq_true] at hf
      have ho : depthO o ≤ n := by unfold depthT at hd; omega
      have hl : depthT l ≤ n := by unfold depthT at hd; omega
      have hr : depthT r ≤ n := by unfold depthT at hd; omega
      obtain ⟨s1, e1, h⟩ := take_of (fin := fin) (right := beginsF) (by decide) h
      obtain ⟨s2, e2, h⟩ := must_of (fin := fin) h
      obtain ⟨s7, hc, h⟩ := h.split
      obtain ⟨s8, e8, h⟩ := must_of (fin := fin) h
      obtain ⟨s3, ha, h⟩ := h.split
      obtain ⟨s4, e4, h⟩ := must_of (fin := fin) h
      obtain ⟨s5, hb, h⟩ := h.split
      obtain ⟨s6, e6, h⟩ := must_of (fin := fin) h
      have := h.nil; subst this
      rw [e1]
      dsimp only
      rw [if_neg (by decide), if_neg (by decide), e2]
      unfold conK
      rw [if_neg (by decide), if_neg (by decide), if_neg (by decide), if_neg (by decide), if_neg (by decide), if_neg (by decide), ihO o hf.1 ho hc]
      dsimp only
      rw [e8, bothF_of (ih l hf.2.1 hl ha) e4 (ih r hf.2.2 hr hb) e6]

end Go.Proofs.YtlhbfdakceipkaaGreatDoor
