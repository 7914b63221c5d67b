/-
  WindowFar's walk: numbers up to the greatest there are stay apart.
  No condition but that the argument is an int.
-/
import Derived.Test.YtejhjjafmobmbaaWinSpec
import Derived.Test.YtejhjjafmobmbaaCWFar
set_option linter.unusedVariables false
namespace Go.Proofs.Ytejhjjafmobmbaa
open Vc

theorem far_walk (a0 : Int) (w : World) (h0 : (Lit.int .i64 a0).wf = true) :
    Ret Try.prog 6 #[.int .i64 a0] w fun r w' => r = .bool true ∧ Fr none1 w w' := by
  refine c6 a0 w _ ?_
  unfold C6
  obtain ⟨M, hM⟩ : ∃ M : Int, M = 9223372036854775807 := ⟨_, rfl⟩
  refine CallK.of (new_spec w) ?_
  rintro _ w1 ⟨b, hb, rfl, f1, hw1⟩
  refine ⟨some ⟨b, 0, none⟩, rfl, ifB.f rfl ?_⟩
  rw [← hM]
  refine CallK.of (accept_spec M M hw1 (by omega) (by omega)) ?_
  rintro _ w2 ⟨rfl, f2, hw2⟩
  have r1 : accR (-1) (-1) (fun _ => false) M M = true := by unfold accR; rw [if_neg (by omega), if_pos (by omega)]
  refine ⟨_, rfl, ifB.f (by rw [r1]; rfl) ?_⟩
  rw [r1, accE_new (by omega), accH_new (by omega), accS_new (by omega)] at hw2
  refine CallK.of (accept_spec M M hw2 (by omega) (by omega)) ?_
  rintro _ w3 ⟨rfl, f3, hw3⟩
  have r2 : accR M M (fun m => m == M) M M = false := by
    unfold accR; rw [if_neg (by omega), if_neg (by omega)]; simp
  refine ⟨_, rfl, ifB.f r2 ?_⟩
  rw [r2] at hw3
  replace hw3 : IsWin w3 b M M (fun m => m == M) := hw3
  have F3 : Fr none1 w w3 := (f1.fresh f2 hb).fresh f3 hb
  refine LoopK.of (fun (q : Int × Unit) w' => 1 ≤ q.1 ∧ q.1 < 400 ∧ w' = w3) (fun (q : Int × Unit) _ => (400 - q.1).toNat) ⟨by omega, by omega, rfl⟩ ?_
  rintro _ ⟨k, ⟨⟩⟩ w4 ⟨hk1, hk2, rfl⟩
  dsimp only at hk1 hk2 ⊢
  refine JoinK.of (fun (q : Bool × Unit) w' => w4 = w' ∧ q.1 = (decide (k < 200) && decide (k < a0))) ?_ ?_
  · refine ifB.dec (fun h => ?_) (fun h => ?_)
    · exact ⟨rfl, by simp [h]⟩
    · exact ⟨rfl, by simp [h]⟩
  rintro _ ⟨c, ⟨⟩⟩ _ ⟨rfl, hc⟩
  dsimp only at hc ⊢
  subst hc
  refine ifB.by (fun h => ?_) (fun h => ?_)
  · simp only [Bool.and_eq_true, decide_eq_true_eq] at h
    rw [wI (by omega) (by omega)]
    exact ⟨⟨by omega, by omega, rfl⟩, by omega⟩
  · rw [wI (x := M - k) (by omega) (by omega)]
    have hup : ¬ M < M - k := by omega
    refine CallK.of (accept_spec M (M - k) hw3 (by omega) (by omega)) ?_
    rintro _ w5 ⟨rfl, f5, hw5⟩
    have acc : accR M M (fun m => m == M) M (M - k) = decide (k < 64) := by
      unfold accR; rw [if_neg (by omega), if_neg (by omega)]
      rw [Bool.eq_iff_iff]; simp; omega
    refine ⟨_, rfl, ifB.t (by rw [acc]; simp) ?_⟩
    have nx : ∃ S, IsWin w5 b M M S ∧ ∀ m, S m = decide (m = M ∨ (k < 64 ∧ m = M - k)) := by
      rw [acc] at hw5
      by_cases hk : k < 64
      · simp only [hk, decide_true] at hw5
        rw [accE_old, accH_down hup, accS_old] at hw5
        exact ⟨_, hw5, fun m => by rw [Bool.eq_iff_iff]; simp [hk]⟩
      · simp only [hk, decide_false] at hw5
        exact ⟨_, hw5, fun m => by rw [Bool.eq_iff_iff]; simp [hk, accS]⟩
    obtain ⟨S, hw5, hS⟩ := nx
    have F5 := F3.fresh f5 hb
    refine CallK.of (accept_spec M (M - k) hw5 (by omega) (by omega)) ?_
    rintro _ w6 ⟨rfl, f6, hw6⟩
    have r3 : accR M M S M (M - k) = false := by
      unfold accR; rw [if_neg (by omega), if_neg (by omega), hS]
      by_cases hk : k < 64
      · simp [hk]
      · have : ¬ (M - 64 < M - k) := by omega
        simp [this]
    refine ⟨_, rfl, ifB.t (by rw [r3]; rfl) ?_⟩
    rw [r3] at hw6
    replace hw6 : IsWin w6 b M M S := hw6
    refine CallK.of (accept_spec M 0 hw6 (by omega) (by omega)) ?_
    rintro _ w7 ⟨rfl, f7, hw7⟩
    have r4 : accR M M S M 0 = false := by
      unfold accR; rw [if_neg (by omega), if_neg (by omega)]; simp; omega
    refine ⟨_, rfl, ifB.t (by rw [r4]; rfl) ?_⟩
    rw [r4] at hw7
    replace hw7 : IsWin w7 b M M S := hw7
    refine CallK.of (accept_spec 9223372036854775806 M hw7 (by omega) (by omega)) ?_
    rintro _ w8 ⟨rfl, f8, hw8⟩
    have r5 : accR M M S 9223372036854775806 M = false := by
      unfold accR; rw [if_pos (by omega)]
    refine ⟨_, rfl, ifB.t (by rw [r5]; rfl) ?_⟩
    rw [r5] at hw8
    replace hw8 : IsWin w8 b M M S := hw8
    refine CallK.of (high_spec hw8) ?_
    rintro _ _ ⟨rfl, rfl⟩
    refine ⟨_, rfl, ifB.t (by simp) ?_⟩
    refine CallK.of (epoch_spec hw8) ?_
    rintro _ _ ⟨rfl, rfl⟩
    refine ⟨_, rfl, ifB.t (by simp) ?_⟩
    refine CallK.of (wakes_spec _) ?_
    rintro _ w9 ⟨rfl, f9⟩
    exact ⟨true, rfl, rfl, (((F5.fresh f6 hb).fresh f7 hb).fresh f8 hb).trans f9⟩

end Go.Proofs.Ytejhjjafmobmbaa
