/-
  What Within does.
  Conditions: none beyond the range of the numbers.
-/
import Derived.Test.YtlhbfdakceipkaaGreatDoorVcMem
import Derived.Test.YtlhbfdakceipkaaGreatDoorCWithin
set_option linter.unusedVariables false
namespace Go.Proofs.YtlhbfdakceipkaaGreatDoor
open Vc

def within (v n : Int) : Int := if n < 1 then 0 else v % n

theorem within_lo (v n : Int) : 0 ≤ within v n := by unfold within; split; omega; exact Int.emod_nonneg _ (by omega)
theorem within_hi (v : Int) {n : Int} (h : 1 ≤ n) : within v n < n := by unfold within; rw [if_neg (by omega)]; exact Int.emod_lt_of_pos _ (by omega)

theorem within_spec (v n : Int) (w : World) (hn : n ≤ 9223372036854775807) :
    Ret Tryz.prog 32 #[.int .i64 v, .int .i64 n] w fun r w' => r = .int .i64 (within v n) ∧ w = w' := by
  refine c32 v n w _ ?_
  unfold C32 within
  refine ifB.dec (fun h => ?_) (fun h => ⟨by omega, ?_⟩)
  · rw [if_pos h]; exact ⟨rfl, rfl⟩
  · rw [if_neg h]
    have e : v.tmod n = if 0 ≤ v ∨ n ∣ v then v % n else v % n - n := by
      rw [Int.tmod_eq_emod]
      split <;> omega
    have b0 := Int.emod_nonneg v (show n ≠ 0 by omega)
    have b1 := Int.emod_lt_of_pos v (show 0 < n by omega)
    refine ifB.dec (fun h2 => ⟨?_, rfl⟩) (fun h2 => ⟨?_, rfl⟩)
    · split at e
      · omega
      · rw [wI (by omega) (by omega)]; congr 1; omega
    · split at e
      · rw [e]
      · omega

end Go.Proofs.YtlhbfdakceipkaaGreatDoor
