/-
  WindowOrder's walk: numbers that rise are all heard, and one by one behind, down to the window's end, each once.
  No condition but that the arguments are ints.
-/
import Derived.Test.YtejhjjafmobmbaaWinSpec
import Derived.Test.YtejhjjafmobmbaaCWOrder
set_option linter.unusedVariables false
namespace Go.Proofs.Ytejhjjafmobmbaa
open Vc

theorem order_walk (a0 a1 : Int) (h0 : (Lit.int .i64 a0).wf = true) (h1 : (Lit.int .i64 a1).wf = true) (w : World) :
    Ret Try.prog 5 #[.int .i64 a0, .int .i64 a1] w fun r w' => r = .bool true ∧ Fr none1 w w' := by
  refine c5 a0 a1 w _ ?_
  unfold C5
  refine CallK.of (new_spec w) ?_
  rintro _ w1 ⟨b, hb, rfl, f1, hw1⟩
  refine ⟨some ⟨b, 0, none⟩, rfl, ifB.f rfl ?_⟩
  refine CallK.of (within_spec a0 1099511627776 w1 (by omega)) ?_
  rintro _ _ ⟨rfl, rfl⟩
  refine ⟨_, rfl, ?_⟩
  refine CallK.of (within_spec a1 1000 w1 (by omega)) ?_
  rintro _ _ ⟨rfl, rfl⟩
  refine ⟨_, rfl, ?_⟩
  have s0 := within_lo a0 1099511627776
  have s1 := within_hi a0 (show (1 : Int) ≤ 1099511627776 by omega)
  have t0 := within_lo a1 1000
  have t1 := within_hi a1 (show (1 : Int) ≤ 1000 by omega)
  generalize within a0 1099511627776 = s at *
  generalize within a1 1000 = t at *
  rw [wI (x := 1 + t) (by omega) (by omega), wI (x := s + (1 + t)) (by omega) (by omega)]
  generalize hN : s + (1 + t) = N
  have hsN : s < N := by omega
  refine CallK.of (accept_spec 0 s hw1 (by omega) (by omega)) ?_
  rintro _ w2 ⟨rfl, f2, hw2⟩
  have r1 : accR (-1) (-1) (fun _ => false) 0 s = true := by unfold accR; rw [if_neg (by omega), if_pos (by omega)]
  refine ⟨_, rfl, ifB.f (by rw [r1]; rfl) ?_⟩
  rw [r1, accE_new (by omega), accH_new (by omega), accS_new (by omega)] at hw2
  refine CallK.of (accept_spec 0 N hw2 (by omega) (by omega)) ?_
  rintro _ w3 ⟨rfl, f3, hw3⟩
  have r2 : accR 0 s (fun m => m == s) 0 N = true := by
    unfold accR; rw [if_neg (by omega), if_neg (by omega)]
    have : (N == s) = false := by simp; omega
    simp [this]; omega
  refine ⟨_, rfl, ifB.f (by rw [r2]; rfl) ?_⟩
  rw [r2, accE_old, accH_up hsN, accS_old] at hw3
  have F3 : Fr none1 w w3 := (f1.fresh f2 hb).fresh f3 hb
  have fin : ∀ (w' : World) (S : Int → Bool), Fr none1 w w' → IsWin w' b 0 N S →
      CallK Try.prog 26 #[.pointer (some ⟨b, 0, none⟩)] w' (.v (.one (.int .i64))) (fun x26 w27 => ifB (x26 == N)
        (CallK Try.prog 27 #[] w27 (.v (.one .bool)) (fun x28 w29 => (Value.bool x28 = .bool true ∧ Fr none1 w w29)))
        (Value.bool false = .bool true ∧ Fr none1 w w27)) := fun w' S F hw => by
    refine CallK.of (high_spec hw) ?_
    rintro _ _ ⟨rfl, rfl⟩
    refine ⟨_, rfl, ifB.t (by simp) ?_⟩
    refine CallK.of (wakes_spec _) ?_
    rintro _ w5 ⟨rfl, f5⟩
    exact ⟨true, rfl, rfl, F.trans f5⟩
  refine LoopK.of (fun q w' => 1 ≤ (q.1 : Int) ∧ (q.1 : Int) ≤ 70 ∧ Fr none1 w w' ∧ ∃ S, IsWin w' b 0 N S ∧ ∀ m, S m = decide (m = s ∨ m = N ∨ (N - (q.1 : Int) < m ∧ m < N ∧ N - 64 < m)))
    (fun q _ => (70 - (q.1 : Int)).toNat) ⟨by omega, by omega, F3, _, hw3, fun m => ?_⟩ ?_
  · rw [Bool.eq_iff_iff]; simp; omega
  · rintro _ ⟨k, ⟨⟩⟩ w4 ⟨hk1, hk2, F4, S, hw4, hS⟩
    dsimp only at hk1 hk2 hS ⊢
    refine ifB.dec (fun hk => ?_) (fun hk => fin w4 S F4 hw4)
    rw [wI (x := N - k) (by omega) (by omega)]
    refine ifB.dec (fun hn => fin w4 S F4 hw4) (fun hn => ?_)
    have acc : accR 0 N S 0 (N - k) = (decide (k < 64) && (N - k != s)) := by
      unfold accR; rw [if_neg (by omega), if_neg (by omega), hS]
      rw [Bool.eq_iff_iff]; simp; omega
    have hup : ¬ N < N - k := by omega
    have step : ∀ (w5 : World) (S5 : Int → Bool), Fr none1 w w5 → IsWin w5 b 0 N S5 → (∀ m, S5 m = decide (m = s ∨ m = N ∨ (N - (k + 1) < m ∧ m < N ∧ N - 64 < m))) →
        CallK Try.prog 24 #[.pointer (some ⟨b, 0, none⟩), .int .i64 0, .int .i64 (N - k)] w5 (.v (.one .bool)) (fun x20 w21 => ifB x20
          (Value.bool false = .bool true ∧ Fr none1 w w21)
          ((fun q w' => (1 ≤ (q.1 : Int) ∧ (q.1 : Int) ≤ 70 ∧ Fr none1 w w' ∧ ∃ S, IsWin w' b 0 N S ∧ ∀ m, S m = decide (m = s ∨ m = N ∨ (N - (q.1 : Int) < m ∧ m < N ∧ N - 64 < m))) ∧ (70 - (q.1 : Int)).toNat < (70 - k).toNat) (IntKind.i64.wrap (k + 1), ()) w21)) := fun w5 S5 F5 hw5 hS5 => by
      refine CallK.of (accept_spec 0 (N - k) hw5 (by omega) (by omega)) ?_
      rintro _ w6 ⟨rfl, f6, hw6⟩
      have r3 : accR 0 N S5 0 (N - k) = false := by
        unfold accR; rw [if_neg (by omega), if_neg (by omega), hS5]
        simp only [Bool.and_eq_false_iff, decide_eq_false_iff_not, Bool.not_eq_false', decide_eq_true_eq]
        omega
      refine ⟨_, rfl, ifB.f r3 ?_⟩
      rw [r3] at hw6
      rw [wI (x := k + 1) (by omega) (by omega)]
      exact ⟨⟨by dsimp only; omega, by dsimp only; omega, F5.fresh f6 hb, S5, hw6, hS5⟩, by dsimp only; omega⟩
    have next : ∀ (w5 : World), Fr (only b) w4 w5 → IsWin w5 b (accE 0 0 (accR 0 N S 0 (N - k))) (accH 0 N 0 (N - k) (accR 0 N S 0 (N - k))) (accS 0 0 (N - k) S (accR 0 N S 0 (N - k))) →
        ∃ S5, IsWin w5 b 0 N S5 ∧ (∀ m, S5 m = decide (m = s ∨ m = N ∨ (N - (k + 1) < m ∧ m < N ∧ N - 64 < m))) := fun w5 f5 hw5 => by
      cases hr : accR 0 N S 0 (N - k) with
      | false =>
        rw [hr] at hw5
        refine ⟨S, hw5, fun m => ?_⟩
        rw [hS, Bool.eq_iff_iff]
        rw [acc] at hr
        simp at hr ⊢
        omega
      | true =>
        rw [hr, accE_old, accH_down hup, accS_old] at hw5
        refine ⟨_, hw5, fun m => ?_⟩
        rw [hS, Bool.eq_iff_iff]
        rw [acc] at hr
        simp at hr ⊢
        omega
    refine ifB.dec (fun hk64 => ?_) (fun hk64 => ?_)
    · refine CallK.of (accept_spec 0 (N - k) hw4 (by omega) (by omega)) ?_
      rintro _ w5 ⟨rfl, f5, hw5⟩
      refine ⟨_, rfl, ifB.f (by rw [acc]; simp [hk64]) ?_⟩
      obtain ⟨S5, h5, hS5⟩ := next w5 f5 hw5
      exact step w5 S5 (F4.fresh f5 hb) h5 hS5
    · refine CallK.of (accept_spec 0 (N - k) hw4 (by omega) (by omega)) ?_
      rintro _ w5 ⟨rfl, f5, hw5⟩
      refine ⟨_, rfl, ifB.f (by rw [acc]; simp [hk64]) ?_⟩
      obtain ⟨S5, h5, hS5⟩ := next w5 f5 hw5
      exact step w5 S5 (F4.fresh f5 hb) h5 hS5

end Go.Proofs.Ytejhjjafmobmbaa
