/-
  Letters and names; a range over a text.
  Conditions: none.
-/
import Derived.Test.YtlhbfdakceipkaaGreatDoorUtf
import Derived.Test.YtlhbfdakceipkaaGreatDoorCRunes
import Derived.Laws.StructEq
set_option linter.unusedVariables false
set_option maxRecDepth 100000
namespace Go.Proofs.YtlhbfdakceipkaaGreatDoor
open Vc

def isDig (r : Int) : Bool := decide (48 ≤ r) && decide (r ≤ 57)
def isLet (r : Int) : Bool := (decide (97 ≤ r) && decide (r ≤ 122)) || isDig r || r == 95 || (decide (128 ≤ r) && r != 65533)

theorem digit_spec (r : Int) (w : World) : Ret Tryz.prog 171 #[.int .i32 r] w fun v w' => v = .bool (isDig r) ∧ w = w' := by
  refine c171 r w _ ?_
  unfold isDig
  refine ifB.dec (fun h => ?_) (fun h => ?_)
  · rw [decide_eq_true (p := 48 ≤ r) (by omega)]; exact ⟨rfl, rfl⟩
  · rw [decide_eq_false (p := 48 ≤ r) (by omega)]; exact ⟨rfl, rfl⟩

theorem letter_spec (r : Int) (w : World) : Ret Tryz.prog 170 #[.int .i32 r] w fun v w' => v = .bool (isLet r) ∧ w = w' := by
  refine c170 r w _ ?_
  have tail : (decide (97 ≤ r) && decide (r ≤ 122)) = false → CallK Tryz.prog 171 #[.int .i32 r] w (.v (.one .bool)) (fun (x1 : Bool) w2 => ifB x1
      ((.bool true : Value) = .bool (isLet r) ∧ w = w2) (ifB (r == 95) ((.bool true : Value) = .bool (isLet r) ∧ w = w2) (ifB (decide (r ≥ 128)) ((.bool (r != 65533) : Value) = .bool (isLet r) ∧ w = w2) ((.bool false : Value) = .bool (isLet r) ∧ w = w2)))) := fun h => by
    refine CallK.of (digit_spec r w) ?_
    rintro _ _ ⟨rfl, rfl⟩
    refine ⟨_, rfl, ?_⟩
    unfold isLet
    rw [h, Bool.false_or]
    refine ifB.by (fun h1 => ?_) (fun h1 => ?_)
    · rw [h1]; exact ⟨rfl, rfl⟩
    rw [h1, Bool.false_or]
    refine ifB.by (fun h2 => ?_) (fun h2 => ?_)
    · rw [h2]; exact ⟨rfl, rfl⟩
    rw [h2, Bool.false_or]
    refine ifB.dec (fun h3 => ?_) (fun h3 => ?_)
    · rw [decide_eq_true (p := 128 ≤ r) (by omega)]; exact ⟨by rw [Bool.true_and], rfl⟩
    · rw [decide_eq_false (p := 128 ≤ r) (by omega)]; exact ⟨rfl, rfl⟩
  refine ifB.dec (fun h => ?_) (fun h => ?_)
  · refine ifB.dec (fun h2 => ?_) (fun h2 => ?_)
    · unfold isLet
      rw [decide_eq_true (p := 97 ≤ r) (by omega), decide_eq_true (p := r ≤ 122) (by omega)]; exact ⟨rfl, rfl⟩
    · exact tail (by rw [decide_eq_false (p := r ≤ 122) (by omega), Bool.and_false])
  · exact tail (by rw [decide_eq_false (p := 97 ≤ r) (by omega), Bool.false_and])

/-- How much a round has left. -/
def itLen (w : World) (r : Nat) : Nat := match w.heap[r]? with
  | some (.stringIter s pos) => (runesL (s.data.toList.drop pos)).length
  | _ => 0
theorem IsIt.left {w : World} {r : Nat} {rs : List Int} (h : IsIt w r rs) : itLen w r = rs.length := by
  obtain ⟨s, pos, a, b⟩ := h
  unfold itLen
  rw [a, ← b]

theorem range_okS {w : World} (bs : List UInt8) {K : Option Addr → World → Prop}
    (hK : ∀ r w1, r = w.heap.size → IsIt w1 r (runesL bs) → Fr none1 w w1 → K (some ⟨r, 0, none⟩) w1) : RunK Tryz.prog (Instr.range 9 (.string (str bs))) w (.v (.one .ptr)) K := by
  refine range_ok Tryz.underlying9 (str bs) ?_
  rw [str_list]
  exact hK

/-! ### Names -/
def nameF (n : Nat) : List Int → Bool
  | [] => decide (0 < n)
  | r :: rs => if isLet r = false then false else if n = 0 ∧ isDig r = true then false else if 12 < n + 1 then false else nameF (n + 1) rs

theorem name_spec (bs : List UInt8) (w : World) : Ret Tryz.prog 145 #[.string (str bs)] w fun v w' => v = .bool (nameF 0 (runesL bs)) ∧ Fr none1 w w' := by
  refine c145 _ w _ ?_
  refine range_okS bs fun r w1 hr hit f1 => ?_
  have F0 : Fr (only r) w1 w1 := Fr.refl _ _
  refine LoopK.of (fun s w' => ∃ (n : Nat) (rest : List Int), s.1 = n ∧ n ≤ 12 ∧ IsIt w' r rest ∧ Fr (only r) w1 w' ∧ nameF n rest = nameF 0 (runesL bs)) (fun _ w' => itLen w' r) ⟨0, _, rfl, by omega, hit, F0, rfl⟩ ?_
  rintro _ ⟨n', _⟩ w2 ⟨n, rest, hn, hn12, hit2, f2, hnm⟩
  dsimp only at hn ⊢
  subst hn
  have fin : ∀ w', Fr (only r) w1 w' → Fr none1 w w' := fun w' f => f1.fresh f (by omega)
  refine next_ok hit2 (fun c rest' pos w3 hc hok hit3 f3 => ?_) (fun hnil => ?_)
  · subst hc
    have fw3 := fin _ (f2.trans f3)
    refine CallK.of (letter_spec c w3) ?_
    rintro _ _ ⟨rfl, rfl⟩
    refine ⟨_, rfl, ?_⟩
    have ml : itLen w3 r < itLen w2 r := by rw [hit3.left, hit2.left]; simp
    have hst : nameF n (c :: rest') = if isLet c = false then false else if n = 0 ∧ isDig c = true then false else if 12 < n + 1 then false else nameF (n + 1) rest' := rfl
    rw [hst] at hnm
    by_cases hl : isLet c = false
    · rw [if_pos hl] at hnm
      refine ifB.t (by rw [hl]; rfl) ⟨by rw [← hnm], fw3⟩
    rw [if_neg hl] at hnm
    refine ifB.f (by simpa using hl) ?_
    rw [wI (x := (n : Int) + 1) (by omega) (by omega)]
    have rest12 : ¬ (n = 0 ∧ isDig c = true) → ifB (decide ((n : Int) + 1 > 12)) ((.bool false : Value) = .bool (nameF 0 (runesL bs)) ∧ Fr none1 w w3)
        ((∃ (n' : Nat) (rest : List Int), ((n : Int) + 1) = n' ∧ n' ≤ 12 ∧ IsIt w3 r rest ∧ Fr (only r) w1 w3 ∧ nameF n' rest = nameF 0 (runesL bs)) ∧ itLen w3 r < itLen w2 r) := fun hd => by
      rw [if_neg hd] at hnm
      refine ifB.dec (fun h => ?_) (fun h => ?_)
      · rw [if_pos (by omega)] at hnm; exact ⟨by rw [← hnm], fw3⟩
      · rw [if_neg (by omega)] at hnm
        exact ⟨⟨n + 1, rest', by omega, by omega, hit3, f2.trans f3, hnm⟩, ml⟩
    refine ifB.eq (fun h1 => ?_) (fun h1 => ?_)
    · refine CallK.of (digit_spec c w3) ?_
      rintro _ _ ⟨rfl, rfl⟩
      refine ⟨_, rfl, ?_⟩
      refine ifB.by (fun hd => ?_) (fun hd => ?_)
      · rw [if_pos ⟨by omega, hd⟩] at hnm; exact ⟨by rw [← hnm], fw3⟩
      · exact rest12 fun t => by rw [t.2] at hd; cases hd
    · exact rest12 fun t => by have := t.1; omega
  · subst hnil
    refine ⟨?_, fin _ f2⟩
    rw [← hnm]
    unfold nameF
    congr 1
    exact decide_eq_decide.2 (by omega)

theorem text1_spec (bs : List UInt8) (n : Int) (w : World) (h0 : 0 ≤ n) : Ret Tryz.prog 53 #[.string (str bs), .int .i64 n] w fun r w' => r = .string (str (bs.take n.toNat)) ∧ w = w' := by
  refine c53 _ n w _ ?_
  have hsz := str_size bs
  have ext : ∀ m : Nat, (str bs).extract 0 m = str (bs.take m) := fun m => by
    apply ByteArray.ext
    rw [ByteArray.data_extract]
    unfold str
    simp
  unfold C53
  split
  · refine ⟨by omega, by omega, by omega, ?_, rfl⟩
    rw [show (0 : Int).toNat = 0 from rfl, ext]
  · refine ⟨by omega, by omega, by omega, ?_, rfl⟩
    rw [show (0 : Int).toNat = 0 from rfl, ext, Int.toNat_natCast, hsz, List.take_length, List.take_of_length_le (by omega)]

end Go.Proofs.YtlhbfdakceipkaaGreatDoor
