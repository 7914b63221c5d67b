/-
  What a window does: New, Accept, Epoch, High, and the example of the document; and handfastkeep.Within.
  Conditions: the window's pointer leads to a block of its own; its numbers are what a window can hold.
-/
import Derived.Test.YtejhjjafmobmbaaCWindow
namespace Go.Proofs.Ytejhjjafmobmbaa
open Vc

/-! ### Within -/
def within (v n : Int) : Int := if n < 1 then 0 else v % n

theorem within_lo (v n : Int) : 0 ≤ within v n := by unfold within; split; omega; exact Int.emod_nonneg _ (by omega)
theorem within_hi (v : Int) {n : Int} (h : 1 ≤ n) : within v n < n := by unfold within; rw [if_neg (by omega)]; exact Int.emod_lt_of_pos _ (by omega)

theorem within_spec (v n : Int) (w : World) (hn : n ≤ 9223372036854775807) :
    Ret Try.prog 23 #[.int .i64 v, .int .i64 n] w fun r w' => r = .int .i64 (within v n) ∧ w = w' := by
  refine c23 v n w _ ?_
  unfold C23 within
  refine ifB.dec (fun h => ?_) (fun h => ⟨by omega, ?_⟩)
  · rw [if_pos h]; exact ⟨rfl, rfl⟩
  · rw [if_neg h]
    have e : v.tmod n = if 0 ≤ v ∨ n ∣ v then v % n else v % n - n := by
      rw [Int.tmod_eq_emod]
      split <;> omega
    have b0 := Int.emod_nonneg v (show n ≠ 0 by omega)
    have b1 := Int.emod_lt_of_pos v (show 0 < n by omega)
    refine ifB.dec (fun h2 => ⟨?_, rfl⟩) (fun h2 => ⟨?_, rfl⟩)
    · split at e
      · omega
      · rw [wI (by omega) (by omega)]; congr 1; omega
    · split at e
      · rw [e]
      · omega

/-! ### The window -/
/-- The window at block b: its epoch, its greatest number, and S: what was heard (of what is not too far below). -/
def IsWin (w : World) (b : Nat) (e h : Int) (S : Int → Bool) : Prop :=
  ∃ x : Nat, w.heap[b]? = some (.cells #[.int .i64 e, .int .i64 h, .int .u64 (x : Int)] 99 (0, 0)) ∧ x < 2 ^ 64 ∧
    -1 ≤ e ∧ -1 ≤ h ∧ (0 ≤ e → 0 ≤ h) ∧ e ≤ 9223372036854775807 ∧ h ≤ 9223372036854775807 ∧ (∀ i : Nat, i < 64 → x.testBit i = S (h - i)) ∧ ∀ m, h < m → S m = false

theorem IsWin.keep {w w' : World} {b : Nat} {e h : Int} {S : Int → Bool} (hw : IsWin w b e h S) {T : Nat → Prop} (f : Fr T w w') (hn : ¬ T b) : IsWin w' b e h S := by
  obtain ⟨x, hb, r⟩ := hw
  exact ⟨x, f.keep hb hn, r⟩
theorem IsWin.lt {w : World} {b : Nat} {e h : Int} {S : Int → Bool} (hw : IsWin w b e h S) : b < w.heap.size := by
  obtain ⟨x, hb, r⟩ := hw
  exact lt_of_blk hb
theorem IsWin.ne {w : World} {b : Nat} {e h : Int} {S : Int → Bool} (hw : IsWin w b e h S) {c : Nat} {o : Obj} (hc : w.heap[c]? = some o) (ho : ∀ cs fr, o ≠ .cells cs 99 fr) : b ≠ c := by
  obtain ⟨x, hb, r⟩ := hw
  intro e
  subst e
  rw [hb] at hc
  exact ho _ _ (Option.some.inj hc).symm

theorem new_spec (w : World) : Ret Try.prog 22 #[] w fun r w' => ∃ b, w.heap.size ≤ b ∧ r = .pointer (some ⟨b, 0, none⟩) ∧ Fr none1 w w' ∧ IsWin w' b (-1) (-1) (fun _ => false) := by
  refine c22 w _ (NewK.of fun g w1 hg hb hf hs => ⟨g, by omega, rfl, hf, 0, hb, by decide, by omega, by omega, by omega, by omega, by omega, fun i _ => by simp, fun _ _ => rfl⟩)

theorem epoch_spec {w : World} {b : Nat} {e h : Int} {S : Int → Bool} (hw : IsWin w b e h S) : Ret Try.prog 25 #[.pointer (some ⟨b, 0, none⟩)] w fun r w' => r = .int .i64 e ∧ w = w' := by
  obtain ⟨x, hb, _⟩ := hw
  exact c25 _ w _ (LdK.fld hb rfl ⟨rfl, rfl⟩)
theorem high_spec {w : World} {b : Nat} {e h : Int} {S : Int → Bool} (hw : IsWin w b e h S) : Ret Try.prog 26 #[.pointer (some ⟨b, 0, none⟩)] w fun r w' => r = .int .i64 h ∧ w = w' := by
  obtain ⟨x, hb, _⟩ := hw
  exact c26 _ w _ (LdK.fld hb rfl ⟨rfl, rfl⟩)

def accR (e h : Int) (S : Int → Bool) (ep n : Int) : Bool :=
  if ep < 0 ∨ n < 0 ∨ ep < e then false else if e < ep then true else decide (h - 64 < n) && !S n
def accE (e ep : Int) (r : Bool) : Int := if r then (if e < ep then ep else e) else e
def accH (e h ep n : Int) (r : Bool) : Int := if r then (if e < ep then n else if h < n then n else h) else h
def accS (e ep n : Int) (S : Int → Bool) (r : Bool) : Int → Bool := fun m => if r then (if e < ep then m == n else S m || m == n) else S m

theorem accE_new {e ep : Int} (hl : e < ep) : accE e ep true = ep := by simp [accE, hl]
theorem accH_new {e h ep n : Int} (hl : e < ep) : accH e h ep n true = n := by simp [accH, hl]
theorem accS_new {e ep n : Int} {S : Int → Bool} (hl : e < ep) : accS e ep n S true = fun m => m == n := by funext m; simp [accS, hl]
theorem accE_old (e : Int) : accE e e true = e := by simp [accE]
theorem accH_up {e h n : Int} (hl : h < n) : accH e h e n true = n := by simp [accH, hl]
theorem accH_down {e h n : Int} (hl : ¬ h < n) : accH e h e n true = h := by simp [accH, hl]
theorem accS_old (e n : Int) (S : Int → Bool) : accS e e n S true = fun m => S m || m == n := by funext m; simp [accS]
theorem one_bit (n : Int) (i : Nat) : Nat.testBit 1 i = (n - (i : Int) == n) := by
  rw [show (1 : Nat) = 2 ^ 0 by decide, Nat.testBit_two_pow]
  by_cases h : i = 0
  · subst h; simp
  · have h1 : (n - (i : Int) == n) = false := by simp; omega
    have h2 : decide (0 = i) = false := by simp; omega
    rw [h1, h2]

theorem wrapU (m : Int) : IntKind.u64.wrap m = m % 18446744073709551616 := by
  simp [IntKind.wrap, IntKind.signed, IntKind.bits]
theorem wrapU_nat (m : Nat) : IntKind.u64.wrap (m : Int) = ((m % 18446744073709551616 : Nat) : Int) := by
  rw [wrapU]; omega
theorem ofInt_nat (m : Nat) : (BitVec.ofInt 64 (m : Int)).toNat = m % 18446744073709551616 := by
  rw [BitVec.toNat_ofInt]
  show ((m : Int) % ((18446744073709551616 : Nat) : Int)).toNat = _
  omega

theorem shl_nat (x k : Nat) (hk : k < 64) : IntKind.u64.wrap ((x : Int) * 2 ^ (min k 64)) = ((x * 2 ^ k % 18446744073709551616 : Nat) : Int) := by
  have e1 : ((x : Int) * 2 ^ (min k 64)) = ((x * 2 ^ k : Nat) : Int) := by
    rw [Nat.min_eq_left (by omega)]; norm_cast
  rw [e1, wrapU_nat]

theorem or_nat (a b : Nat) (ha : a < 18446744073709551616) (hb : b < 18446744073709551616) : IntKind.u64.wrap ((BitVec.ofInt 64 (a : Int) ||| BitVec.ofInt 64 (b : Int)).toNat : Int) = ((a ||| b : Nat) : Int) := by
  rw [wrapU_nat, BitVec.toNat_or, ofInt_nat, ofInt_nat, Nat.mod_eq_of_lt ha, Nat.mod_eq_of_lt hb]
  have := Nat.or_lt_two_pow (x := a) (y := b) (n := 64) ha hb
  rw [Nat.mod_eq_of_lt this]

theorem fdiv_nat (x k : Nat) (hk : k < 64) : Int.fdiv (x : Int) (2 ^ (min k 64)) = ((x / 2 ^ k : Nat) : Int) := by
  have e : (2 : Int) ^ (min k 64) = ((2 ^ k : Nat) : Int) := by
    rw [Nat.min_eq_left (by omega)]; norm_cast
  rw [e, Int.fdiv_eq_ediv_of_nonneg _ (Int.natCast_nonneg _)]
  rfl

theorem low_bit (x k : Nat) (hx : x < 18446744073709551616) (hk : k < 64) :
    (IntKind.u64.wrap ((BitVec.ofInt 64 (Int.fdiv (x : Int) (2 ^ (min k 64))) &&& BitVec.ofInt 64 1).toNat : Int) == 1) = x.testBit k := by
  have h2 : x / 2 ^ k ≤ x := Nat.div_le_self _ _
  rw [fdiv_nat x k hk, wrapU_nat, BitVec.toNat_and, ofInt_nat, show (BitVec.ofInt 64 1).toNat = 1 by decide, Nat.mod_eq_of_lt (by omega : x / 2 ^ k < _), Nat.and_one_is_mod]
  have h3 : x / 2 ^ k % 2 < 2 := Nat.mod_lt _ (by decide)
  rw [Nat.mod_eq_of_lt (by omega : x / 2 ^ k % 2 < 18446744073709551616)]
  rw [Nat.testBit_eq_decide_div_mod_eq]
  rcases (by omega : x / 2 ^ k % 2 = 0 ∨ x / 2 ^ k % 2 = 1) with h | h <;> rw [h] <;> rfl

theorem pow_lt (k : Nat) (hk : k < 64) : 2 ^ k < 18446744073709551616 := Nat.pow_lt_pow_right (a := 2) (by decide) hk

/-- Bits of what was shifted up, with a one at its foot. -/
theorem bit_up (x k i : Nat) (hi : i < 64) : (x * 2 ^ k % 18446744073709551616 ||| 1).testBit i = (decide (i = 0) || (decide (k ≤ i) && x.testBit (i - k))) := by
  rw [Nat.testBit_or, show (18446744073709551616 : Nat) = 2 ^ 64 by decide, Nat.testBit_mod_two_pow, Nat.testBit_mul_two_pow]
  have h1 : Nat.testBit 1 i = decide (i = 0) := by
    rw [show (1 : Nat) = 2 ^ 0 by decide, Nat.testBit_two_pow]
    by_cases h : i = 0 <;> simp [h, eq_comm]
  rw [h1]
  simp only [hi, decide_true, Bool.true_and]
  rw [Bool.or_comm]

theorem bit_set (x k i : Nat) : (x ||| 2 ^ k).testBit i = (x.testBit i || decide (i = k)) := by
  rw [Nat.testBit_or, Nat.testBit_two_pow]
  congr 1
  by_cases h : i = k
  · simp [h]
  · simp [h, Ne.symm h]

theorem accept_spec {w : World} {b : Nat} {e h : Int} {S : Int → Bool} (ep n : Int) (hw : IsWin w b e h S) (he : ep ≤ 9223372036854775807) (hn : n ≤ 9223372036854775807) :
    Ret Try.prog 24 #[.pointer (some ⟨b, 0, none⟩), .int .i64 ep, .int .i64 n] w fun r w' =>
      r = .bool (accR e h S ep n) ∧ Fr (only b) w w' ∧ IsWin w' b (accE e ep (accR e h S ep n)) (accH e h ep n (accR e h S ep n)) (accS e ep n S (accR e h S ep n)) := by
  have hw0 := hw
  obtain ⟨x, hb, hx, h1, h2, h3, h4, h5, hS, hH⟩ := hw
  have hx' : x < 18446744073709551616 := hx
  refine c24 _ ep n w _ ?_
  unfold C24
  have no : accR e h S ep n = false → (.bool false : Value) = .bool (accR e h S ep n) ∧ Fr (only b) w w ∧ IsWin w b (accE e ep (accR e h S ep n)) (accH e h ep n (accR e h S ep n)) (accS e ep n S (accR e h S ep n)) := fun hr => by
    rw [hr]; exact ⟨rfl, Fr.refl _ _, hw0⟩
  refine ifB.dec (fun c1 => no (by simp [accR, c1])) (fun c1 => ?_)
  refine ifB.dec (fun c2 => no (by simp [accR, c2])) (fun c2 => ?_)
  refine LdK.fld hb rfl ?_
  refine ifB.dec (fun c3 => no (by simp [accR, c3])) (fun c3 => ?_)
  refine LdK.fld hb rfl ?_
  refine ifB.dec (fun c4 => ?_) (fun c4 => ?_)
  · have hr : accR e h S ep n = true := by unfold accR; rw [if_neg (by omega), if_pos (by omega)]
    refine StK.fld hb (by simp) rfl fun w1 hb1 f1 _ => ?_
    refine StK.fld hb1 (by simp) rfl fun w2 hb2 f2 _ => ?_
    refine StK.fld hb2 (by simp) rfl fun w3 hb3 f3 _ => ?_
    have c4' : e < ep := c4
    rw [hr, accE_new c4', accH_new c4', accS_new c4']
    refine ⟨rfl, (f1.trans f2).trans f3, 1, ?_⟩
    refine ⟨hb3, by decide, by omega, by omega, by omega, by omega, by omega, fun i hi => ?_, fun m hm => by simp; omega⟩
    exact one_bit n i
  · have hee : ep = e := by omega
    subst hee
    have hh0 : 0 ≤ h := h3 (by omega)
    refine LdK.fld hb rfl ?_
    refine ifB.dec (fun c5 => ?_) (fun c5 => ?_)
    · have hr : accR ep h S ep n = true := by
        unfold accR; rw [if_neg (by omega), if_neg (by omega), hH n c5]; simp; omega
      have hlt : ¬ ep < ep := by omega
      have c5' : h < n := c5
      rw [hr, accE_old, accH_up c5', accS_old]
      refine LdK.fld hb rfl ?_
      refine StK.fld hb (by simp) rfl fun w1 hb1 f1 _ => ?_
      have e1 : IntKind.i64.wrap (n - h) = n - h := wI (by omega) (by omega)
      rw [e1]
      obtain ⟨k, hk⟩ : ∃ k : Nat, n - h = k := ⟨(n - h).toNat, by omega⟩
      rw [hk]
      refine ifB.dec (fun c6 => ?_) (fun c6 => ?_)
      · refine StK.fld hb1 (by simp) rfl fun w2 hb2 f2 _ => ?_
        refine LdK.fld hb2 (x := (0 : Int)) rfl ?_
        rw [if_pos (by omega)]
        refine ⟨by omega, ?_⟩
        refine StK.fld hb2 (by simp) rfl fun w3 hb3 f3 _ => ?_
        refine ⟨rfl, (f1.trans f2).trans f3, 1, ?_⟩
        refine ⟨?_, by decide, by omega, by omega, by omega, by omega, by omega, fun i hi => ?_, fun m hm => by have := hH m (by omega); simp [this]; omega⟩
        · have ee : (IntKind.u64.wrap ((BitVec.ofInt 64 (IntKind.u64.wrap (0 * 2 ^ (min (Int.toNat 63) 64))) ||| BitVec.ofInt 64 1).toNat : Int)) = ((1 : Nat) : Int) := by decide
          rw [ee] at hb3
          exact hb3
        · rw [one_bit n i]
          by_cases hi0 : i = 0
          · subst hi0; simp
          · have u2 := hH (n - i) (by omega)
            simp [u2]
      · refine LdK.fld hb1 (x := (x : Int)) rfl ?_
        have hk63 : ¬ (63 : Int) < k := by omega
        rw [if_neg hk63]
        refine ⟨by omega, ?_⟩
        refine StK.fld hb1 (by simp) rfl fun w3 hb3 f3 _ => ?_
        refine ⟨rfl, f1.trans f3, (x * 2 ^ k % 18446744073709551616 ||| 1), ?_⟩
        have l1 : x * 2 ^ k % 18446744073709551616 < 18446744073709551616 := Nat.mod_lt _ (by decide)
        refine ⟨?_, Nat.or_lt_two_pow (n := 64) l1 (by decide), by omega, by omega, by omega, by omega, by omega, fun i hi => ?_, fun m hm => by have := hH m (by omega); simp [this]; omega⟩
        · rw [Int.toNat_natCast, shl_nat x k (by omega), show (1 : Int) = ((1 : Nat) : Int) by rfl, or_nat _ 1 l1 (by decide)] at hb3
          exact hb3
        · rw [bit_up x k i hi]
          by_cases hi0 : i = 0
          · subst hi0; simp
          · have u1 : ¬ (n - (i : Int) = n) := by omega
            simp only [hi0, decide_false, Bool.false_or]
            by_cases hki : k ≤ i
            · rw [hS (i - k) (by omega)]
              have : h - ((i - k : Nat) : Int) = n - i := by omega
              rw [this]; simp [hki, u1]
            · have := hH (n - i) (by omega)
              simp [hki, this, u1]
    · have e1 : IntKind.i64.wrap (h - n) = h - n := wI (by omega) (by omega)
      refine LdK.fld hb rfl ?_
      rw [e1]
      obtain ⟨k, hk⟩ : ∃ k : Nat, h - n = k := ⟨(h - n).toNat, by omega⟩
      rw [hk]
      refine ifB.dec (fun c6 => no ?_) (fun c6 => ?_)
      · unfold accR; rw [if_neg (by omega), if_neg (by omega)]; simp; omega
      · have hkn : h - (k : Int) = n := by omega
        refine LdK.fld hb rfl ⟨by omega, ?_⟩
        rw [Int.toNat_natCast, low_bit x k hx' (by omega)]
        refine ifB.by (fun c7 => no ?_) (fun c7 => ?_)
        · rw [hS k (by omega), hkn] at c7
          unfold accR; rw [if_neg (by omega), if_neg (by omega), c7]; simp
        · rw [hS k (by omega), hkn] at c7
          have hr : accR ep h S ep n = true := by
            unfold accR; rw [if_neg (by omega), if_neg (by omega), c7]; simp; omega
          have hlt : ¬ ep < ep := by omega
          have hlt2 : ¬ h < n := by omega
          rw [hr, accE_old, accH_down hlt2, accS_old]
          refine DrewK.of fun w0 hw0 f0 => ?_
          rw [← hw0] at hb
          refine LdK.fld hb rfl ⟨by omega, ?_⟩
          refine StK.fld hb (by simp) rfl fun w3 hb3 f3 _ => ?_
          refine ⟨rfl, f0.of0 f3, (x ||| 2 ^ k), ?_⟩
          have l1 := pow_lt k (by omega)
          refine ⟨?_, Nat.or_lt_two_pow (n := 64) hx' l1, by omega, by omega, by omega, by omega, by omega, fun i hi => ?_, fun m hm => by have := hH m hm; simp [this]; omega⟩
          · have ee := shl_nat 1 k (by omega)
            rw [Nat.one_mul, Nat.mod_eq_of_lt l1] at ee
            have ee' : IntKind.u64.wrap (1 * 2 ^ (min k 64)) = ((2 ^ k : Nat) : Int) := ee
            rw [ee', or_nat _ _ hx' l1] at hb3
            exact hb3
          · rw [bit_set, hS i hi]
            by_cases hik : i = k
            · subst hik; simp [hkn]
            · have : ¬ (h - (i : Int) = n) := by omega
              simp [hik, this]


/-- A window made within a call, and written to. -/
theorem fresh_acc {w0 w w' : World} {b : Nat} (f : Fr none1 w0 w) (hb : w0.heap.size ≤ b) (g : Fr (only b) w w') : Fr none1 w0 w' := f.fresh g hb

theorem wakes_spec (w : World) : Ret Try.prog 27 #[] w fun r w' => r = .bool true ∧ Fr none1 w w' := by
  refine c27 w _ ?_
  unfold C27
  refine CallK.of (new_spec w) ?_
  rintro _ w1 ⟨b, hb, rfl, f1, hw1⟩
  refine ⟨some ⟨b, 0, none⟩, rfl, ?_⟩
  refine ifB.t rfl ?_
  refine CallK.of (epoch_spec hw1) ?_
  rintro _ w2 ⟨rfl, rfl⟩
  refine ⟨-1, rfl, ifB.t rfl ?_⟩
  refine CallK.of (high_spec hw1) ?_
  rintro _ w2 ⟨rfl, rfl⟩
  refine ⟨-1, rfl, ifB.t rfl ?_⟩
  refine CallK.of (accept_spec 1 5 hw1 (by omega) (by omega)) ?_
  rintro _ w3 ⟨rfl, f3, hw3⟩
  refine ⟨_, rfl, ifB.t (by simp [accR]) ?_⟩
  refine CallK.of (accept_spec 1 5 hw3 (by omega) (by omega)) ?_
  rintro _ w4 ⟨rfl, f4, hw4⟩
  refine ⟨_, rfl, ?_, (f1.fresh f3 hb).fresh f4 hb⟩
  simp [accR, accE, accH, accS]

end Go.Proofs.Ytejhjjafmobmbaa
