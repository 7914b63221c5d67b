/-
  Digits and numbers in plain Lean: a number's digits are read as that number; what is read as a number is its digits.
  Conditions: an amount that may be.
-/
import Derived.Test.YtlhbfdakceipkaaGreatDoorStrSpec
import Derived.Lib.ItoaNum
set_option linter.unusedVariables false
set_option maxRecDepth 100000
namespace Go.Proofs.YtlhbfdakceipkaaGreatDoor
open Vc

theorem ddec_lo {n : Nat} (h : n < 10) : Lib.decDigits n = [UInt8.ofNat (48 + n)] := Lib.decDigits_one h
theorem ddec_hi {n : Nat} (h : ¬ n < 10) : Lib.decDigits n = Lib.decDigits (n / 10) ++ [UInt8.ofNat (48 + n % 10)] := by rw [Lib.decDigits, dif_neg h]
theorem isD_dig {k : Nat} (h : k < 10) : isD (UInt8.ofNat (48 + k)) = true := by
  unfold isD
  rw [u8_of (by omega), decide_eq_true (by omega), decide_eq_true (by omega)]; rfl
theorem isD_rg {c : UInt8} (h : isD c = true) : 48 ≤ c.toNat ∧ c.toNat ≤ 57 := by
  unfold isD at h
  simp only [Bool.and_eq_true, decide_eq_true_eq] at h
  exact h

theorem dec_ok : ∀ n : Nat, Lib.decDigits n ≠ [] ∧ (∀ c ∈ Lib.decDigits n, isD c = true) ∧ valL (Lib.decDigits n) = n ∧ ((Lib.decDigits n).getD 0 0 = 48 → n = 0) ∧ (∀ k : Nat, 1 ≤ k → n < 10 ^ k → (Lib.decDigits n).length ≤ k) := by
  intro n
  induction n using Nat.strongRecOn with
  | _ n ih =>
    by_cases h : n < 10
    · rw [ddec_lo h]
      refine ⟨by simp, fun c hc => ?_, ?_, fun t => ?_, fun k hk _ => by simpa using hk⟩
      · simp only [List.mem_singleton] at hc; rw [hc]; exact isD_dig h
      · show (0 : Int) * 10 + (((UInt8.ofNat (48 + n)).toNat : Int) - 48) = n
        rw [u8_of (by omega)]; omega
      · have t : UInt8.ofNat (48 + n) = 48 := t
        have := congrArg UInt8.toNat t
        rw [u8_of (by omega)] at this
        have e : (48 : UInt8).toNat = 48 := rfl
        omega
    · obtain ⟨i1, i2, i3, i4, i5⟩ := ih (n / 10) (by omega)
      rw [ddec_hi h]
      refine ⟨by simp, fun c hc => ?_, ?_, fun t => ?_, fun k hk hlt => ?_⟩
      · rcases List.mem_append.1 hc with hc | hc
        · exact i2 c hc
        · simp only [List.mem_singleton] at hc; rw [hc]; exact isD_dig (by omega)
      · rw [valL_snoc, i3, u8_of (by omega)]; omega
      · have hp : 0 < (Lib.decDigits (n / 10)).length := List.length_pos_iff.2 i1
        rw [List.getD_eq_getElem?_getD, List.getElem?_append_left hp, ← List.getD_eq_getElem?_getD] at t
        have := i4 t
        omega
      · obtain ⟨k', rfl⟩ : ∃ k', k = k' + 1 := ⟨k - 1, by omega⟩
        have hk1 : 1 ≤ k' := by
          cases k' with
          | zero => simp at hlt; omega
          | succ k' => omega
        have hlt' : n / 10 < 10 ^ k' := by rw [Nat.pow_succ] at hlt; omega
        have := i5 k' hk1 hlt'
        simp only [List.length_append, List.length_singleton]
        omega
theorem dec_13 {n : Nat} (h : n ≤ 1000000000000) : (Lib.decDigits n).length ≤ 13 := (dec_ok n).2.2.2.2 13 (by omega) (by omega)

theorem nm_minus1 (s : List UInt8) : noMinus (45 :: s) = s := by unfold noMinus; rw [if_pos (by simp)]; rfl
theorem nm_digits {s : List UInt8} (h : ∀ c ∈ s, isD c = true) : noMinus s = s ∧ s.take 1 ≠ [45] := by
  have ht : s.take 1 ≠ [45] := fun t => by
    cases s with
    | nil => simp at t
    | cons c l =>
      have hc := h c (by simp)
      simp at t
      rw [t] at hc
      exact absurd hc (by decide)
  exact ⟨by unfold noMinus; rw [if_neg ht], ht⟩

theorem numF_dec {n : Nat} (h : n ≤ 1000000000000) : numF (Lib.decDigits n) = ((n : Int), true) := by
  obtain ⟨hne, hd, hv, h0, _⟩ := dec_ok n
  have h13 := dec_13 h
  obtain ⟨hnm, ht1⟩ := nm_digits hd
  unfold numF
  rw [hnm, if_neg, hv, if_neg (by omega), if_neg ht1]
  rintro (t | t | t | t)
  · exact hne t
  · omega
  · rw [List.all_eq_true.2 hd] at t; cases t
  · have := h0 t.1
    subst this
    exact t.2 (by rw [ddec_lo (by omega)]; rfl)
theorem numF_mdec {n : Nat} (h : n ≤ 1000000000000) (hn : n ≠ 0) : numF (45 :: Lib.decDigits n) = (-(n : Int), true) := by
  obtain ⟨hne, hd, hv, h0, _⟩ := dec_ok n
  have h13 := dec_13 h
  unfold numF
  rw [nm_minus1, if_neg, hv, if_neg (by omega), if_pos (by simp)]
  rintro (t | t | t | t)
  · exact hne t
  · omega
  · rw [List.all_eq_true.2 hd] at t; cases t
  · exact hn (h0 t.1)
theorem numF_itoa {n : Int} (h0 : -1000000000000 ≤ n) (h1 : n ≤ 1000000000000) : numF (Lib.itoa n) = (n, true) := by
  unfold Lib.itoa
  by_cases h : n < 0
  · rw [if_pos h, numF_mdec (by omega) (by omega)]
    congr 1; omega
  · rw [if_neg h, numF_dec (by omega)]
    congr 1; omega

theorem snoc_rec {α : Type} {Q : List α → Prop} (h0 : Q []) (h1 : ∀ l a, Q l → Q (l ++ [a])) (l : List α) : Q l := by
  have : ∀ r : List α, Q r.reverse := fun r => by
    induction r with
    | nil => exact h0
    | cons a r ih => rw [List.reverse_cons]; exact h1 _ _ ih
  have := this l.reverse
  rwa [List.reverse_reverse] at this

theorem valL_nonneg (d : List UInt8) (h : ∀ c ∈ d, isD c = true) : 0 ≤ valL d := (foldl_val d 0 (by omega) h).1
theorem dec_valL : ∀ d : List UInt8, d ≠ [] → (∀ c ∈ d, isD c = true) → (d.getD 0 0 = 48 → d = [48]) → Lib.decDigits (valL d).toNat = d ∧ (d ≠ [48] → 1 ≤ valL d) := by
  intro d
  induction d using snoc_rec with
  | h0 => intro h; exact absurd rfl h
  | h1 e c ih =>
    intro _ hd hz
    have hc := isD_rg (hd c (by simp))
    have hv := valL_snoc e c
    have hcc : UInt8.ofNat (48 + (c.toNat - 48)) = c := by rw [show 48 + (c.toNat - 48) = c.toNat by omega]; exact UInt8.ofNat_toNat
    by_cases he : e = []
    · subst he
      have hv0 : valL [] = 0 := rfl
      rw [List.nil_append] at *
      have : valL [c] = (c.toNat : Int) - 48 := by rw [hv, hv0]; omega
      rw [this]
      refine ⟨?_, fun hne => ?_⟩
      · rw [show ((c.toNat : Int) - 48).toNat = c.toNat - 48 by omega, ddec_lo (by omega), hcc]
      · have : c ≠ 48 := fun t => hne (by rw [t])
        have : c.toNat ≠ 48 := fun t => this (by rw [← UInt8.toNat_inj]; exact t)
        omega
    · have hp : 0 < e.length := List.length_pos_iff.2 he
      have hg : (e ++ [c]).getD 0 0 = e.getD 0 0 := by rw [List.getD_eq_getElem?_getD, List.getElem?_append_left hp, ← List.getD_eq_getElem?_getD]
      have hn48 : e.getD 0 0 ≠ 48 := fun t => by
        have := hz (hg.trans t)
        have := congrArg List.length this
        rw [List.length_append, List.length_singleton, List.length_singleton] at this
        omega
      obtain ⟨i1, i2⟩ := ih he (fun c hc => hd c (by simp [hc])) (fun t => absurd t hn48)
      have hv1 := i2 (fun t => hn48 (by rw [t]; rfl))
      rw [hv]
      refine ⟨?_, fun _ => by omega⟩
      rw [ddec_hi (n := (valL e * 10 + ((c.toNat : Int) - 48)).toNat) (by omega), show (valL e * 10 + ((c.toNat : Int) - 48)).toNat / 10 = (valL e).toNat by omega, i1, show (valL e * 10 + ((c.toNat : Int) - 48)).toNat % 10 = c.toNat - 48 by omega, hcc]

/-- What is read as a number is its digits. -/
theorem numF_inv {s : List UInt8} (h : (numF s).2 = true) : s = Lib.itoa (numF s).1 ∧ -1000000000000 ≤ (numF s).1 ∧ (numF s).1 ≤ 1000000000000 := by
  unfold numF at h ⊢
  split at h
  · cases h
  rename_i hc
  split at h
  · cases h
  rename_i hb
  rw [if_neg hc, if_neg hb]
  simp only [not_or] at hc
  obtain ⟨h1, h2, h3, h4⟩ := hc
  have hd : ∀ c ∈ noMinus s, isD c = true := by
    have : (noMinus s).all isD = true := by cases h : (noMinus s).all isD; exact absurd h h3; rfl
    exact List.all_eq_true.1 this
  have hn := valL_nonneg _ hd
  by_cases hm : s.take 1 = [45]
  · have hs : s = 45 :: noMinus s := by
      unfold noMinus
      rw [if_pos hm]
      cases s with
      | nil => simp at hm
      | cons c l => simp at hm; subst hm; rfl
    have hz : (noMinus s).getD 0 0 ≠ 48 := fun t => h4 ⟨t, fun e => by rw [e] at hm; simp at hm⟩
    obtain ⟨i1, i2⟩ := dec_valL _ h1 hd (fun t => absurd t hz)
    have := i2 (fun t => hz (by rw [t]; rfl))
    rw [if_pos hm]
    refine ⟨?_, by dsimp only; omega, by dsimp only; omega⟩
    dsimp only
    unfold Lib.itoa
    rw [if_pos (by omega), show (-valL (noMinus s)).natAbs = (valL (noMinus s)).toNat by omega, i1]
    exact hs
  · have hs : noMinus s = s := by unfold noMinus; rw [if_neg hm]
    rw [if_neg hm]
    rw [hs] at h1 h2 h3 h4 hb hn hd ⊢
    obtain ⟨i1, i2⟩ := dec_valL s h1 hd (fun t => by
      by_cases e : s = [48]
      · exact e
      · exact absurd ⟨t, e⟩ h4)
    refine ⟨?_, by dsimp only; omega, by dsimp only; omega⟩
    dsimp only
    unfold Lib.itoa
    rw [if_neg (by omega), i1]

end Go.Proofs.YtlhbfdakceipkaaGreatDoor
