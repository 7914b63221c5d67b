/-
  Numbers of 64 bits without a sign: what lies over is cut off; shifts; or.
  No condition beyond those stated.
-/
import Derived.Test.YtlhbfdakceipkaaDoorVcMem
namespace Go.Proofs.YtlhbfdakceipkaaDoor
open Vc

theorem wrapU (m : Int) : IntKind.u64.wrap m = m % 18446744073709551616 := by
  simp [IntKind.wrap, IntKind.signed, IntKind.bits]
theorem wrapU_nat (m : Nat) : IntKind.u64.wrap (m : Int) = ((m % 18446744073709551616 : Nat) : Int) := by
  rw [wrapU]; omega
theorem ofInt_nat (m : Nat) : (BitVec.ofInt 64 (m : Int)).toNat = m % 18446744073709551616 := by
  rw [BitVec.toNat_ofInt]
  show ((m : Int) % ((18446744073709551616 : Nat) : Int)).toNat = _
  omega

theorem shl_nat (x k : Nat) (hk : k < 64) : IntKind.u64.wrap ((x : Int) * 2 ^ (min k 64)) = ((x * 2 ^ k % 18446744073709551616 : Nat) : Int) := by
  have e1 : ((x : Int) * 2 ^ (min k 64)) = ((x * 2 ^ k : Nat) : Int) := by
    rw [Nat.min_eq_left (by omega)]; norm_cast
  rw [e1, wrapU_nat]

theorem or_nat (a b : Nat) (ha : a < 18446744073709551616) (hb : b < 18446744073709551616) : IntKind.u64.wrap ((BitVec.ofInt 64 (a : Int) ||| BitVec.ofInt 64 (b : Int)).toNat : Int) = ((a ||| b : Nat) : Int) := by
  rw [wrapU_nat, BitVec.toNat_or, ofInt_nat, ofInt_nat, Nat.mod_eq_of_lt ha, Nat.mod_eq_of_lt hb]
  have := Nat.or_lt_two_pow (x := a) (y := b) (n := 64) ha hb
  rw [Nat.mod_eq_of_lt this]

theorem fdiv_nat (x k : Nat) (hk : k < 64) : Int.fdiv (x : Int) (2 ^ (min k 64)) = ((x / 2 ^ k : Nat) : Int) := by
  have e : (2 : Int) ^ (min k 64) = ((2 ^ k : Nat) : Int) := by
    rw [Nat.min_eq_left (by omega)]; norm_cast
  rw [e, Int.fdiv_eq_ediv_of_nonneg _ (Int.natCast_nonneg _)]
  rfl

end Go.Proofs.YtlhbfdakceipkaaDoor
