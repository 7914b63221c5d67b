/-
  Numbers as eight bytes, the greatest first, and back.
  Conditions: the numbers are what an int can hold.
-/
import Derived.Test.YtlhbfdakceipkaaDoorSameB
import Derived.Test.YtlhbfdakceipkaaDoorU64
import Derived.Test.YtlhbfdakceipkaaDoorCPackN
set_option linter.unusedVariables false
namespace Go.Proofs.YtlhbfdakceipkaaDoor
open Vc

/-! ### In plain Lean -/
def digs : Nat → Nat → List UInt8
  | 0, _ => []
  | k + 1, m => digs k (m / 256) ++ [UInt8.ofNat (m % 256)]
def big (bs : List UInt8) : Nat := bs.foldl (fun m b => m * 256 + b.toNat) 0
theorem big_snoc (bs : List UInt8) (b : UInt8) : big (bs ++ [b]) = big bs * 256 + b.toNat := by unfold big; rw [List.foldl_append]; rfl
theorem digs_len : ∀ k m, (digs k m).length = k
  | 0, _ => rfl
  | k + 1, m => by unfold digs; rw [List.length_append, digs_len k]; rfl
theorem u8_nat {n : Nat} (h : n < 256) : (UInt8.ofNat n).toNat = n := by rw [UInt8.toNat_ofNat']; exact Nat.mod_eq_of_lt h
theorem big_digs : ∀ k m, big (digs k m) = m % 256 ^ k
  | 0, m => by unfold digs big; simp [Nat.mod_one]
  | k + 1, m => by
    unfold digs
    rw [big_snoc, big_digs k, u8_nat (Nat.mod_lt _ (by decide)), Nat.pow_succ]
    have h := Nat.mod_mul (x := m) (a := 256) (b := 256 ^ k)
    rw [Nat.mul_comm (256 ^ k) 256, h]
    omega
theorem snoc_ind {α : Type} {Q : List α → Prop} (h0 : Q []) (h1 : ∀ l a, Q l → Q (l ++ [a])) : ∀ l, Q l := fun l => by
  have h : ∀ r : List α, Q r.reverse := fun r => by
    induction r with
    | nil => exact h0
    | cons a r ih => rw [List.reverse_cons]; exact h1 _ _ ih
  have := h l.reverse
  rwa [List.reverse_reverse] at this
theorem big_lt : ∀ bs : List UInt8, big bs < 256 ^ bs.length := by
  refine snoc_ind (by decide) fun l a ih => ?_
  rw [big_snoc, List.length_append, List.length_singleton, Nat.pow_succ]
  have := a.toNat_lt
  omega
theorem digs_big : ∀ bs : List UInt8, digs bs.length (big bs) = bs := by
  refine snoc_ind rfl fun l a ih => ?_
  rw [big_snoc, List.length_append, List.length_singleton]
  have ha := a.toNat_lt
  unfold digs
  have e1 : (big l * 256 + a.toNat) / 256 = big l := by omega
  have e2 : (big l * 256 + a.toNat) % 256 = a.toNat := by omega
  rw [e1, e2, ih]
  congr 2
  exact UInt8.toNat_inj.1 (u8_nat ha)
theorem digs_mod : ∀ k m, digs k (m % 256 ^ k) = digs k m
  | 0, _ => rfl
  | k + 1, m => by
    unfold digs
    have e1 : m % 256 ^ (k + 1) / 256 = m / 256 % 256 ^ k := by
      rw [Nat.pow_succ, Nat.mul_comm, Nat.mod_mul_right_div_self]
    have e2 : m % 256 ^ (k + 1) % 256 = m % 256 := by
      rw [Nat.pow_succ, Nat.mul_comm]
      exact Nat.mod_mul_right_mod _ _ _
    rw [e1, e2, digs_mod k]
theorem digs_at : ∀ (k m i : Nat), i < k → (digs k m)[i]? = some (UInt8.ofNat (m / 256 ^ (k - 1 - i) % 256))
  | 0, _, _, h => by omega
  | k + 1, m, i, h => by
    unfold digs
    by_cases hi : i < k
    · rw [List.getElem?_append_left (by rw [digs_len]; exact hi), digs_at k _ i hi, Nat.div_div_eq_div_mul, ← Nat.pow_succ', show (k - 1 - i).succ = k + 1 - 1 - i by omega]
    · have : i = k := by omega
      subst this
      rw [List.getElem?_append_right (by rw [digs_len]; exact Nat.le_refl _), digs_len, Nat.sub_self]
      simp

/-- A number's eight bytes. -/
def numL (n : Int) : List UInt8 := digs 8 (n % 18446744073709551616).toNat
theorem numL_len (n : Int) : (numL n).length = 8 := digs_len _ _
theorem big_numL (n : Int) : big (numL n) = (n % 18446744073709551616).toNat := by
  unfold numL
  rw [big_digs, show 256 ^ 8 = 18446744073709551616 by decide]
  omega

/-! ### What the functions do -/
theorem wrapI (m : Nat) (h : m < 18446744073709551616) : (IntKind.i64.wrap (m : Int)) % 18446744073709551616 = (m : Int) := by
  simp [IntKind.wrap, IntKind.signed, IntKind.bits]
  split <;> omega
theorem wrapB (m : Nat) : IntKind.u8.wrap (m : Int) = ((m % 256 : Nat) : Int) := by
  simp [IntKind.wrap, IntKind.signed, IntKind.bits]

theorem pnum_spec (n : Int) (w : World) : Ret Tryd.prog 5 #[.int .i64 n] w fun r w' => ∃ u : Sl, r = .slice u.1 u.2.1 u.2.2 ∧ IsB w' u (numL n) ∧ Fr none1 w w' ∧ ∀ k, blkOf u k → w.heap.size ≤ k := by
  refine c5 n w _ ?_
  obtain ⟨x, w1, hr, hx, hxl, hxc, f1, hxf⟩ := make_ok (P := Tryd.prog) (w := w) (k := .i64) (k' := .i64) (n := 8) (m := 8) elem_byte rfl (by omega) (by omega) (by decide)
  refine ⟨x, w1, hr, ?_⟩
  have hx0 : IsB w1 x (List.replicate 8 0) := hx
  obtain ⟨M, hM⟩ : ∃ M : Nat, M = (n % 18446744073709551616).toNat := ⟨_, rfl⟩
  have hMn : IntKind.u64.wrap n = (M : Int) := by rw [wrapU]; omega
  have hMlt : M < 18446744073709551616 := by omega
  have hnum : numL n = digs 8 M := by rw [hM]; rfl
  rw [hnum]
  have hxl8 : x.2.1 = 8 := hxl
  refine LoopK.of (fun s w' => ∃ i : Nat, s.1 = i ∧ i ≤ 8 ∧ IsB w' x ((digs 8 M).take i ++ List.replicate (8 - i) 0) ∧ Fr (blkOf x) w1 w') (fun s _ => (8 - s.1).toNat) ⟨0, rfl, by omega, hx0, Fr.refl _ _⟩ ?_
  rintro _ ⟨i', _⟩ w2 ⟨i, hi, hi8, hb, f2⟩
  dsimp only at hi ⊢
  subst hi
  refine ifB.dec (fun hlt => ?_) (fun hge => ?_)
  · have hi7 : i < 8 := by omega
    have e1 : IntKind.i64.wrap (56 - IntKind.i64.wrap (8 * (i : Int))) = ((8 * (7 - i) : Nat) : Int) := by
      rw [wI (x := 8 * (i : Int)) (by omega) (by omega), wI (by omega) (by omega)]; omega
    rw [e1]
    refine ⟨by omega, ?_⟩
    rw [Int.toNat_natCast, hMn, fdiv_nat M (8 * (7 - i)) (by omega), wrapB, show 2 ^ (8 * (7 - i)) = 256 ^ (7 - i) by rw [Nat.pow_mul]]
    have hv : Value.int .u8 ((M / 256 ^ (7 - i) % 256 : Nat) : Int) = bc (UInt8.ofNat (M / 256 ^ (7 - i) % 256)) := by
      unfold bc
      rw [u8_nat (Nat.mod_lt _ (by decide))]
    rw [hv]
    refine IsSl.st hb (by omega) hlt rfl fun w3 hb3 f3 _ => ?_
    refine ⟨⟨i + 1, by rw [wI (by omega) (by omega)]; omega, by omega, ?_, f2.trans f3⟩, by rw [wI (by omega) (by omega)]; omega⟩
    unfold IsB
    rw [← List.map_set, Int.toNat_natCast] at hb3
    have hl : (((digs 8 M).take i ++ List.replicate (8 - i) 0).set i (UInt8.ofNat (M / 256 ^ (7 - i) % 256))) = (digs 8 M).take (i + 1) ++ List.replicate (8 - (i + 1)) 0 := by
      have hd := digs_at 8 M i hi7
      have hlen : ((digs 8 M).take i).length = i := by rw [List.length_take, digs_len]; omega
      rw [List.set_append_right _ _ (by omega), hlen, Nat.sub_self, List.take_add_one, hd, show 8 - i = (8 - (i + 1)) + 1 by omega, List.replicate_succ]
      simp
    rw [hl] at hb3
    exact hb3
  · have : i = 8 := by omega
    subst this
    rw [List.take_of_length_le (by rw [digs_len]; omega)] at hb
    have hb' : IsB w2 x (digs 8 M) := by simpa using hb
    exact ⟨x, rfl, hb', f1.comp f2 fun k hk t => by have := hxf k t; omega, hxf⟩

/-- What eight bytes tell. -/
def takeL (bs : List UInt8) : Int × Bool := if bs.length = 8 then (IntKind.i64.wrap (big bs : Int), true) else (0, false)

theorem or_byte (m : Nat) (b : UInt8) (hm : m < 72057594037927936) : IntKind.u64.wrap ((BitVec.ofInt 64 (IntKind.u64.wrap ((m : Int) * 2 ^ (min (Int.toNat 8) 64))) ||| BitVec.ofInt 64 (IntKind.u64.wrap (b.toNat : Int))).toNat : Int) = ((m * 256 + b.toNat : Nat) : Int) := by
  have hb := b.toNat_lt
  rw [show Int.toNat 8 = 8 from rfl, shl_nat m 8 (by omega), wrapU_nat b.toNat, Nat.mod_eq_of_lt (show m * 2 ^ 8 < 18446744073709551616 by omega), Nat.mod_eq_of_lt (show b.toNat < 18446744073709551616 by omega), or_nat _ _ (by omega) (by omega)]
  congr 1
  rw [← Nat.shiftLeft_eq, ← Nat.shiftLeft_add_eq_or_of_lt (show b.toNat < 2 ^ 8 from hb), Nat.shiftLeft_eq]

theorem big_take (bs : List UInt8) (i : Nat) (h : i < bs.length) : big (bs.take (i + 1)) = big (bs.take i) * 256 + (bs.getD i 0).toNat := by
  rw [List.take_add_one, List.getElem?_eq_getElem h, List.getD_eq_getElem?_getD, List.getElem?_eq_getElem h]
  exact big_snoc _ _
theorem big_take_lt (bs : List UInt8) (i : Nat) (h : i ≤ 7) : big (bs.take i) < 72057594037927936 := by
  have h1 := big_lt (bs.take i)
  have h2 : 256 ^ (bs.take i).length ≤ 256 ^ 7 := Nat.pow_le_pow_right (by decide) (by rw [List.length_take]; omega)
  have : (256 : Nat) ^ 7 = 72057594037927936 := by decide
  omega

theorem ptake_spec {w : World} {v : Sl} {bs : List UInt8} (h : RdB w v bs) :
    Ret Tryd.prog 6 #[.slice v.1 v.2.1 v.2.2] w fun r w' => r = .tuple #[.int .i64 (takeL bs).1, .bool (takeL bs).2] ∧ w = w' := by
  refine c6 v.1 v.2.1 v.2.2 w _ ?_
  have hvl := h.len
  unfold takeL
  refine ifB.ne (fun hne => ?_) (fun heq => ?_)
  · rw [if_neg (by omega)]; exact ⟨rfl, rfl⟩
  rw [if_pos (by omega)]
  refine LoopK.of (fun s w' => ∃ i : Nat, s.2.1 = i ∧ i ≤ 8 ∧ s.1 = (big (bs.take i) : Int) ∧ w = w') (fun s _ => (8 - s.2.1).toNat) ⟨0, rfl, by omega, rfl, rfl⟩ ?_
  rintro _ ⟨m, i', _⟩ _ ⟨i, hi, hi8, hm, rfl⟩
  dsimp only at hi hm ⊢
  subst hi hm
  refine ifB.dec (fun hlt => ?_) (fun hge => ?_)
  · have hi7 : i < 8 := by omega
    refine RdB.at h (by omega) hlt ?_
    refine ⟨by omega, ?_⟩
    rw [Int.toNat_natCast, or_byte _ _ (big_take_lt bs i (by omega)), wI (by omega) (by omega)]
    refine ⟨⟨i + 1, by omega, by omega, ?_, rfl⟩, by omega⟩
    rw [big_take bs i (by omega)]
  · rw [List.take_of_length_le (by omega)]; exact ⟨rfl, rfl⟩

theorem take_num (n : Int) (h0 : -9223372036854775808 ≤ n) (h1 : n ≤ 9223372036854775807) : takeL (numL n) = (n, true) := by
  unfold takeL
  rw [if_pos (numL_len n), big_numL]
  congr 1
  simp [IntKind.wrap, IntKind.signed, IntKind.bits]
  split <;> omega
theorem num_take {bs : List UInt8} (h : bs.length = 8) : numL (takeL bs).1 = bs := by
  unfold takeL
  rw [if_pos h]
  dsimp only
  have hb := big_lt bs
  rw [h, show 256 ^ 8 = 18446744073709551616 by decide] at hb
  unfold numL
  rw [wrapI _ hb, Int.toNat_natCast]
  have := digs_big bs
  rw [h] at this
  exact this

end Go.Proofs.YtlhbfdakceipkaaDoor
