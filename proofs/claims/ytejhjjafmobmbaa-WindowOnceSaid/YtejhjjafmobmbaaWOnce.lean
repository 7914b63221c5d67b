/-
  WindowOnce's walk: in one epoch no number is heard twice; each that is not too far below the greatest is heard once.
  No condition but that the argument is a slice of ints.
-/
import Derived.Test.YtejhjjafmobmbaaWinSpec
import Derived.Test.YtejhjjafmobmbaaVcMap
import Derived.Test.YtejhjjafmobmbaaCWOnce
set_option linter.unusedVariables false
namespace Go.Proofs.Ytejhjjafmobmbaa
open Vc

/-- A number that is heard, again: not heard. -/
theorem twice {w : World} {b : Nat} {e h : Int} {S : Int → Bool} {n : Int} (he : 0 ≤ e) (hw : IsWin w b e h S) (r : Bool) (hr : accR e h S e n = r) :
    accR (accE e e r) (accH e h e n r) (accS e e n S r) e n = false := by
  cases r with
  | false => exact hr
  | true =>
    rw [accE_old, accS_old]
    unfold accR
    by_cases h1 : n < 0
    · rw [if_pos (by omega)]
    · rw [if_neg (by omega), if_neg (by omega)]
      simp

theorem once_walk (a : Option Addr) (len cap : Nat) (z : List Int) (w : World) (h0 : IsInts .i64 w a len cap z) :
    Ret Try.prog 4 #[.slice a len cap] w fun r w' => r = .bool true ∧ Fr none1 w w' := by
  have hlen := h0.len_le
  refine c4 a len cap w _ ?_
  unfold C4
  refine CallK.of (new_spec w) ?_
  rintro _ w1 ⟨b, hb, rfl, f1, hw1⟩
  refine ⟨some ⟨b, 0, none⟩, rfl, ifB.f rfl ?_⟩
  refine NewK.of fun g w2 hg hgb f2 hs2 => ?_
  have hbl := hw1.lt
  have hfs := f1.size
  have hbg : b ≠ g := by omega
  have hgb0 : w.heap.size ≤ g := by omega
  have hwA : IsWin w2 b (-1) (-1) (fun _ => false) := hw1.keep f2 (fun t => t)
  have FA : Fr none1 w w2 := f1.trans f2
  -- the map and the window keep the same books
  refine LoopK.of (fun (q : Int × Int × Unit) w' => Fr none1 w w' ∧ 0 ≤ q.2.1 ∧ q.2.1 ≤ 80 ∧ q.2.1 ≤ len ∧ -1 ≤ q.1 ∧ q.1 < 150 ∧ ∃ (e : Int) (S : Int → Bool) (M : Int → Option Value),
      (e = 3 ∨ (e = -1 ∧ q.1 = -1 ∧ ∀ m, M m = none)) ∧ IsWin w' b e q.1 S ∧ IsMap w' g M ∧ (∀ m, M m = none ∨ M m = some (.bool true)) ∧ ∀ m, q.1 - 64 < m → (M m = some (.bool true) ↔ S m = true))
    (fun (q : Int × Int × Unit) _ => (80 - q.2.1).toNat)
    ⟨FA, by dsimp only; omega, by dsimp only; omega, by dsimp only; omega, by dsimp only; omega, by dsimp only; omega, -1, _, fun _ => none, .inr ⟨rfl, rfl, fun _ => rfl⟩, hwA, IsMap.new hgb, fun _ => .inl rfl, fun m _ => by simp⟩ ?_
  rintro _ ⟨h, i, ⟨⟩⟩ w3 ⟨F3, hi0, hi80, hil, hh1, hh2, e, S, M, he, hw3, hM3, hMv, hMS⟩
  dsimp only at hi0 hi80 hil hh1 hh2 he hw3 hMS ⊢
  have fin : ∀ w', Fr none1 w w' → IsWin w' b e h S → (CallK Try.prog 24 #[.pointer (some ⟨b, 0, none⟩), .int .i64 (-1), .int .i64 5] w' (.v (.one .bool)) (fun (x32 : Bool) w33 => ifB (!x32)
      (CallK Try.prog 24 #[.pointer (some ⟨b, 0, none⟩), .int .i64 3, .int .i64 (-1)] w33 (.v (.one .bool)) (fun (x34 : Bool) w35 => ifB (!x34)
      (CallK Try.prog 24 #[.pointer (some ⟨b, 0, none⟩), .int .i64 4, .int .i64 0] w35 (.v (.one .bool)) (fun (x36 : Bool) w37 => ifB x36
      (CallK Try.prog 26 #[.pointer (some ⟨b, 0, none⟩)] w37 (.v (.one (.int .i64))) (fun (x38 : Int) w39 => ifB (x38 == 0)
      (CallK Try.prog 27 #[] w39 (.v (.one .bool)) (fun (x40 : Bool) w41 => Value.bool x40 = .bool true ∧ Fr none1 w w41))
      (Value.bool false = .bool true ∧ Fr none1 w w39)))
      (Value.bool false = .bool true ∧ Fr none1 w w37)))
      (Value.bool false = .bool true ∧ Fr none1 w w35)))
      (Value.bool false = .bool true ∧ Fr none1 w w33))) := fun w' F' hw' => by
    refine CallK.of (accept_spec (-1) 5 hw' (by omega) (by omega)) ?_
    rintro _ w5 ⟨rfl, f5, hw5⟩
    have r5 : accR e h S (-1) 5 = false := by unfold accR; rw [if_pos (by omega)]
    refine ⟨_, rfl, ifB.t (by rw [r5]; rfl) ?_⟩
    rw [r5] at hw5
    replace hw5 : IsWin w5 b e h S := hw5
    refine CallK.of (accept_spec 3 (-1) hw5 (by omega) (by omega)) ?_
    rintro _ w6 ⟨rfl, f6, hw6⟩
    have r6 : accR e h S 3 (-1) = false := by unfold accR; rw [if_pos (by omega)]
    refine ⟨_, rfl, ifB.t (by rw [r6]; rfl) ?_⟩
    rw [r6] at hw6
    replace hw6 : IsWin w6 b e h S := hw6
    refine CallK.of (accept_spec 4 0 hw6 (by omega) (by omega)) ?_
    rintro _ w7 ⟨rfl, f7, hw7⟩
    have r7 : accR e h S 4 0 = true := by unfold accR; rw [if_neg (by omega), if_pos (by omega)]
    refine ⟨_, rfl, ifB.t r7 ?_⟩
    rw [r7, accE_new (by omega), accH_new (by omega), accS_new (by omega)] at hw7
    refine CallK.of (high_spec hw7) ?_
    rintro _ _ ⟨rfl, rfl⟩
    refine ⟨_, rfl, ifB.t rfl ?_⟩
    refine CallK.of (wakes_spec _) ?_
    rintro _ w9 ⟨rfl, f9⟩
    exact ⟨true, rfl, rfl, (((F'.fresh f5 hb).fresh f6 hb).fresh f7 hb).trans f9⟩
  refine JoinK.of (fun (q : Bool × Unit) w' => w3 = w' ∧ q.1 = (decide (i < len) && decide (i < 80))) ?_ ?_
  · refine ifB.dec (fun h => ?_) (fun h => ?_)
    · exact ⟨rfl, by simp [h]⟩
    · exact ⟨rfl, by simp [h]⟩
  rintro _ ⟨c, ⟨⟩⟩ _ ⟨rfl, hc⟩
  dsimp only at hc ⊢
  subst hc
  refine ifB.by (fun hc => ?_) (fun hc => fin _ F3 hw3)
  simp only [Bool.and_eq_true, decide_eq_true_eq] at hc
  refine h0.ld F3 hi0 hc.1 ?_
  refine CallK.of (within_spec _ 150 w3 (by omega)) ?_
  rintro _ _ ⟨rfl, rfl⟩
  refine ⟨_, rfl, ?_⟩
  have n0 := within_lo (z.getD i.toNat 0) 150
  have n1 := within_hi (z.getD i.toNat 0) (show (1 : Int) ≤ 150 by omega)
  generalize within (z.getD i.toNat 0) 150 = n at *
  rw [wI (x := h - 64) (by omega) (by omega), wI (x := i + 1) (by omega) (by omega)]
  obtain ⟨want, hwant⟩ : ∃ want : Bool, want = (decide (M n = none) && decide (h - 64 < n)) := ⟨_, rfl⟩
  have hacc : accR e h S 3 n = want := by
    rw [hwant]
    rcases he with rfl | ⟨rfl, rfl, hn⟩
    · unfold accR; rw [if_neg (by omega), if_neg (by omega)]
      by_cases h64 : h - 64 < n
      · have := hMS n h64
        rcases hMv n with hm | hm <;> rw [hm] at this ⊢ <;> cases hS : S n <;> simp_all
      · simp [h64]
    · unfold accR; rw [if_neg (by omega), if_pos (by omega)]
      simp [hn n]; omega
  refine JoinK.of (fun (q : Bool × Unit) w' => w3 = w' ∧ q.1 = want) ?_ ?_
  · have hr := lookup_ok (P := Try.prog) (.bool false) hM3 n false Try.underlying25 Try.underlying3 (by kernel_rfl)
    rcases hMv n with hm | hm
    · rw [hm] at hr
      refine ⟨⟨false, w3, hr, ?_⟩⟩
      refine ifB.t rfl ⟨rfl, ?_⟩
      rw [hwant, hm]; simp
    · rw [hm] at hr
      refine ⟨⟨true, w3, hr, ?_⟩⟩
      refine ifB.f rfl ⟨rfl, ?_⟩
      rw [hwant, hm]; simp
  rintro _ ⟨c, ⟨⟩⟩ _ ⟨rfl, hc'⟩
  dsimp only at hc' ⊢
  subst hc'
  refine CallK.of (accept_spec 3 n hw3 (by omega) (by omega)) ?_
  rintro _ w5 ⟨rfl, f5, hw5⟩
  rw [hacc] at hw5 ⊢
  refine ⟨_, rfl, ifB.f (by simp) ?_⟩
  have F5 := F3.fresh f5 hb
  have hM5 : IsMap w5 g M := hM3.keep f5 (fun t => hbg t.symm)
  -- behind the map: the greatest number, an elder epoch, the same number again
  have tail : ∀ (w6 : World) (h' : Int) (S' : Int → Bool) (M' : Int → Option Value), Fr none1 w w6 → IsWin w6 b 3 h' S' → IsMap w6 g M' → (∀ m, M' m = none ∨ M' m = some (.bool true)) → (∀ m, h' - 64 < m → (M' m = some (.bool true) ↔ S' m = true)) →
      -1 ≤ h' → h' < 150 → accR 3 h' S' 3 n = false →
      CallK Try.prog 26 #[.pointer (some ⟨b, 0, none⟩)] w6 (.v (.one (.int .i64))) (fun (x20 : Int) w21 => ifB (x20 != h')
        (Value.bool false = .bool true ∧ Fr none1 w w21)
        (CallK Try.prog 24 #[.pointer (some ⟨b, 0, none⟩), .int .i64 2, .int .i64 n] w21 (.v (.one .bool)) (fun (x22 : Bool) w23 => ifB x22
        (Value.bool false = .bool true ∧ Fr none1 w w23)
        (CallK Try.prog 24 #[.pointer (some ⟨b, 0, none⟩), .int .i64 3, .int .i64 n] w23 (.v (.one .bool)) (fun (x24 : Bool) w25 => ifB x24
        (Value.bool false = .bool true ∧ Fr none1 w w25)
        ((fun (q : Int × Int × Unit) w' => (Fr none1 w w' ∧ 0 ≤ q.2.1 ∧ q.2.1 ≤ 80 ∧ q.2.1 ≤ len ∧ -1 ≤ q.1 ∧ q.1 < 150 ∧ ∃ (e : Int) (S : Int → Bool) (M : Int → Option Value),
          (e = 3 ∨ (e = -1 ∧ q.1 = -1 ∧ ∀ m, M m = none)) ∧ IsWin w' b e q.1 S ∧ IsMap w' g M ∧ (∀ m, M m = none ∨ M m = some (.bool true)) ∧ ∀ m, q.1 - 64 < m → (M m = some (.bool true) ↔ S m = true)) ∧ (80 - q.2.1).toNat < (80 - i).toNat) (h', i + 1, ()) w25)))))) := fun w6 h' S' M' F6 hw6 hM6 hMv' hMS' hh1' hh2' hr6 => by
    refine CallK.of (high_spec hw6) ?_
    rintro _ _ ⟨rfl, rfl⟩
    refine ⟨_, rfl, ifB.f (by simp) ?_⟩
    refine CallK.of (accept_spec 2 n hw6 (by omega) (by omega)) ?_
    rintro _ w7 ⟨rfl, f7, hw7⟩
    have r7 : accR 3 h' S' 2 n = false := by unfold accR; rw [if_pos (by omega)]
    refine ⟨_, rfl, ifB.f r7 ?_⟩
    rw [r7] at hw7
    replace hw7 : IsWin w7 b 3 h' S' := hw7
    refine CallK.of (accept_spec 3 n hw7 (by omega) (by omega)) ?_
    rintro _ w8 ⟨rfl, f8, hw8⟩
    refine ⟨_, rfl, ifB.f hr6 ?_⟩
    rw [hr6] at hw8
    replace hw8 : IsWin w8 b 3 h' S' := hw8
    have hM8 : IsMap w8 g M' := (hM6.keep f7 (fun t => hbg t.symm)).keep f8 (fun t => hbg t.symm)
    exact ⟨⟨(F6.fresh f7 hb).fresh f8 hb, by dsimp only; omega, by dsimp only; omega, by dsimp only; omega, hh1', hh2', 3, S', M', .inl rfl, hw8, hM8, hMv', hMS'⟩, by dsimp only; omega⟩
  refine ifB.by (fun ht => ?_) (fun ht => ?_)
  · obtain ⟨w6, hrun, f6, hs6, hM6⟩ := update_ok (P := Try.prog) hM5 n (.bool true) Try.underlying25 Try.underlying3
    refine ⟨⟨w6, hrun, ?_⟩⟩
    rw [ht] at hw5 hwant
    have hr3 := hacc
    rw [ht] at hr3
    symm at hwant
    simp only [Bool.and_eq_true, decide_eq_true_eq] at hwant
    have hw6' := hw5.keep f6 (fun t => hbg t)
    have hup : (if n > h then n else h) = accH e h 3 n true := by
      rcases he with rfl | ⟨rfl, rfl, hn⟩
      · unfold accH; simp
      · rw [accH_new (by omega), if_pos (by omega)]
    have hee : accE e 3 true = 3 := by
      rcases he with rfl | ⟨rfl, rfl, hn⟩
      · exact accE_old 3
      · exact accE_new (by omega)
    rw [hee, ← hup] at hw6'
    refine tail w6 _ _ _ (F5.fresh f6 hgb0) hw6' hM6 (fun m => ?_) (fun m hm => ?_) ?_ ?_ ?_
    · by_cases hmn : m = n
      · simp [hmn]
      · simpa [hmn] using hMv m
    · rcases he with rfl | ⟨rfl, rfl, hn⟩
      · rw [accS_old]
        by_cases hmn : m = n
        · simp [hmn]
        · simp only [hmn, if_false]
          have : h - 64 < m := by split at hm <;> omega
          rw [hMS m this]; simp [hmn]
      · rw [accS_new (by omega)]
        by_cases hmn : m = n
        · simp [hmn]
        · simp [hmn, hn]
    · split <;> omega
    · split <;> omega
    · rcases he with rfl | ⟨rfl, rfl, hn⟩
      · have := twice (n := n) (by omega) hw3 true hr3
        rw [accE_old, ← hup] at this
        exact this
      · unfold accR; rw [if_neg (by omega), if_neg (by omega), accS_new (by omega)]; simp
  · rw [ht] at hw5 hwant
    have he3 : e = 3 := by
      rcases he with rfl | ⟨rfl, rfl, hn⟩
      · rfl
      · rw [ht] at hacc
        unfold accR at hacc; rw [if_neg (by omega), if_pos (by omega)] at hacc; cases hacc
    subst he3
    replace hw5 : IsWin w5 b 3 h S := hw5
    rw [ht] at hacc
    exact tail w5 h S M F5 hw5 hM5 hMv hMS hh1 hh2 hacc

end Go.Proofs.Ytejhjjafmobmbaa
