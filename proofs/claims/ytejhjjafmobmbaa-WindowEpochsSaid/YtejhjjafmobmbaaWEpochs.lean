/-
  WindowEpochs' walk: a greater epoch begins anew; a lesser one is not heard any more.
  No condition but that the arguments are slices of ints.
-/
import Derived.Test.YtejhjjafmobmbaaWinSpec
import Derived.Test.YtejhjjafmobmbaaVcMap
import Derived.Test.YtejhjjafmobmbaaCWEpochs
set_option linter.unusedVariables false
namespace Go.Proofs.Ytejhjjafmobmbaa
open Vc

def EpInv (w : World) (b len : Nat) (q : Int × Int × Option Nat × Int × Unit) (w' : World) : Prop :=
  Fr none1 w w' ∧ 0 ≤ q.2.2.2.1 ∧ q.2.2.2.1 ≤ 40 ∧ q.2.2.2.1 ≤ len ∧ -1 ≤ q.1 ∧ q.1 < 5 ∧ -1 ≤ q.2.1 ∧ q.2.1 < 90 ∧ ∃ (g : Nat) (S : Int → Bool) (M : Int → Option Value),
    q.2.2.1 = some g ∧ w.heap.size ≤ g ∧ b ≠ g ∧ IsWin w' b q.1 q.2.1 S ∧ IsMap w' g M ∧ (∀ m, M m = none ∨ M m = some (.bool true)) ∧ ∀ m, q.2.1 - 64 < m → (M m = some (.bool true) ↔ S m = true)

set_option maxHeartbeats 1000000 in
theorem epochs_walk (a : Option Addr) (len cap : Nat) (z : List Int) (a' : Option Addr) (len' cap' : Nat) (z' : List Int) (w : World) (h0 : IsInts .i64 w a len cap z) (h1 : IsInts .i64 w a' len' cap' z') :
    Ret Try.prog 3 #[.slice a len cap, .slice a' len' cap'] w fun r w' => r = .bool true ∧ Fr none1 w w' := by
  have hlen := h0.len_le
  refine c3 a len cap a' len' cap' w _ ?_
  unfold C3
  refine CallK.of (new_spec w) ?_
  rintro _ w1 ⟨b, hb, rfl, f1, hw1⟩
  refine ⟨some ⟨b, 0, none⟩, rfl, ifB.f rfl ?_⟩
  refine NewK.of fun g0 w2 hg hgb f2 hs2 => ?_
  have hbl := hw1.lt
  have hfs := f1.size
  have FA : Fr none1 w w2 := f1.trans f2
  have hM0 := IsMap.new hgb
  refine LoopK.of (EpInv w b len) (fun (q : Int × Int × Option Nat × Int × Unit) _ => (40 - q.2.2.2.1).toNat)
    ⟨FA, by dsimp only; omega, by dsimp only; omega, by dsimp only; omega, by dsimp only; omega, by dsimp only; omega, by dsimp only; omega, by dsimp only; omega, g0, _, _, rfl, by omega, by omega, hw1.keep f2 (fun t => t), hM0, fun _ => .inl rfl, fun m _ => by simp⟩ ?_
  rintro _ ⟨at_, h, _, i, ⟨⟩⟩ w3 ⟨F3, hi0, hi40, hil, ha1, ha2, hh1, hh2, g, S, M, rfl, hg0, hbg, hw3, hM3, hMv, hMS⟩
  dsimp only at hi0 hi40 hil ha1 ha2 hh1 hh2 hw3 hMS ⊢
  have fin : CallK Try.prog 27 #[] w3 (.v (.one .bool)) (fun (x : Bool) w' => Value.bool x = .bool true ∧ Fr none1 w w') := by
    refine CallK.of (wakes_spec _) ?_
    rintro _ w9 ⟨rfl, f9⟩
    exact ⟨true, rfl, rfl, F3.trans f9⟩
  refine ifB.dec (fun c1 => ?_) (fun _ => fin)
  refine ifB.dec (fun c2 => ?_) (fun _ => fin)
  refine ifB.dec (fun c3 => ?_) (fun _ => fin)
  refine RegK.calm ?_
  -- the two numbers, in whatever order they are reckoned
  have rd : ∀ {a : Option Addr} {len cap : Nat} {z : List Int}, IsInts .i64 w a len cap z → i < len → ∀ (j : Nat) (next : Int → Prop), next (z.getD i.toNat 0) →
      IdxK a len i 1 fun p => AnyK (calm w3) j [] (.v (.one (.int .i64))) (fun w11 k12 => LdK (.int .i64) p w11 (fun (x : Int) => k12 (.int .i64 x) w11)) next := fun {a len cap z} hz hlt j next hn => by
    rcases hz with ⟨_, rfl, _, _⟩ | ⟨x, rfl, hl, hc, hzl, hcell, _⟩
    · omega
    · refine ⟨x, rfl, hi0, hlt, ?_⟩
      rw [Nat.mul_one]
      exact AnyK.calm _ (fun w4 hw4 f4 => LdK.cell ((F3.trans f4).cell0 (hcell i.toNat (by omega))) ⟨rfl, hw4, f4⟩) hn
  refine rd h0 c1 3 _ ?_
  refine AnyK.calm (within (z.getD i.toNat 0) 5) (fun w4 hw4 f4 => CallK.of (within_spec _ 5 w4 (by omega)) ?_) ?_
  · rintro _ _ ⟨rfl, rfl⟩; exact ⟨_, rfl, rfl, hw4, f4⟩
  refine rd h1 c2 8 _ ?_
  refine AnyK.calm (within (z'.getD i.toNat 0) 90) (fun w4 hw4 f4 => CallK.of (within_spec _ 90 w4 (by omega)) ?_) ?_
  · rintro _ _ ⟨rfl, rfl⟩; exact ⟨_, rfl, rfl, hw4, f4⟩
  have e0 := within_lo (z.getD i.toNat 0) 5
  have e1 := within_hi (z.getD i.toNat 0) (show (1 : Int) ≤ 5 by omega)
  have n0 := within_lo (z'.getD i.toNat 0) 90
  have n1 := within_hi (z'.getD i.toNat 0) (show (1 : Int) ≤ 90 by omega)
  generalize within (z.getD i.toNat 0) 5 = e at *
  generalize within (z'.getD i.toNat 0) 90 = n at *
  intro w4 ⟨hw4, f4⟩
  replace hw3 := hw3.keep f4 (fun t => t)
  replace hM3 := hM3.keep f4 (fun t => t)
  replace F3 := F3.trans f4
  rw [wI (x := h - 64) (by omega) (by omega), wI (x := i + 1) (by omega) (by omega)]
  have hacc : accR at_ h S e n = (decide (at_ < e) || (decide (e = at_) && (decide (M n = none) && decide (h - 64 < n)))) := by
    unfold accR
    by_cases c : e < at_
    · rw [if_pos (by omega)]; simp; omega
    · rw [if_neg (by omega)]
      by_cases c' : at_ < e
      · rw [if_pos c']; simp [c']
      · rw [if_neg c']
        have hee : e = at_ := by omega
        simp only [hee, Int.lt_irrefl, decide_false, decide_true, Bool.true_and, Bool.false_or]
        by_cases h64 : h - 64 < n
        · have := hMS n h64
          rcases hMv n with hm | hm <;> rw [hm] at this ⊢ <;> cases hS : S n <;> simp_all
        · simp [h64]
  generalize hwant : accR at_ h S e n = want at *
  refine JoinK.of (fun (q : Bool × Unit) w' => w4 = w' ∧ q.1 = want) ?_ ?_
  · refine ifB.dec (fun c => ⟨rfl, by rw [hacc]; simp; omega⟩) (fun c => ?_)
    have c' : ¬ at_ < e := c
    refine ifB.eq (fun d => ?_) (fun d => ⟨rfl, by rw [hacc]; simp [d, c']⟩)
    have hr := lookup_ok (P := Try.prog) (.bool false) hM3 n false Try.underlying25 Try.underlying3 (by kernel_rfl)
    rcases hMv n with hm | hm
    · rw [hm] at hr
      refine ⟨⟨false, w4, hr, ifB.t rfl ⟨rfl, ?_⟩⟩⟩
      rw [hacc, hm]; simp [d]
    · rw [hm] at hr
      refine ⟨⟨true, w4, hr, ifB.f rfl ⟨rfl, ?_⟩⟩⟩
      rw [hacc, hm]; simp [c']
  rintro _ ⟨wt, ⟨⟩⟩ _ ⟨rfl, hc⟩
  dsimp only at hc ⊢
  subst hc
  refine CallK.of (accept_spec e n hw3 (by omega) (by omega)) ?_
  rintro _ w5 ⟨rfl, f5, hw5⟩
  rw [hwant] at hw5 ⊢
  refine ⟨_, rfl, ifB.f (by simp) ?_⟩
  have F5 := F3.fresh f5 hb
  have hM5 : IsMap w5 g M := hM3.keep f5 (fun t => hbg t.symm)
  -- what is told behind it
  have tell : ∀ (w6 : World) (x y : Int) (S' : Int → Bool) (Z : World → Prop), IsWin w6 b x y S' → Z w6 →
      CallK Try.prog 25 #[.pointer (some ⟨b, 0, none⟩)] w6 (.v (.one (.int .i64))) (fun (x40 : Int) w41 => ifB (x40 != x)
        (Value.bool false = .bool true ∧ Fr none1 w w41)
        (CallK Try.prog 26 #[.pointer (some ⟨b, 0, none⟩)] w41 (.v (.one (.int .i64))) (fun (x42 : Int) w43 => ifB (x42 != y)
        (Value.bool false = .bool true ∧ Fr none1 w w43)
        (Z w43)))) := fun w6 x y S' Z hw6 hz => by
    refine CallK.of (epoch_spec hw6) ?_
    rintro _ _ ⟨rfl, rfl⟩
    refine ⟨_, rfl, ifB.f (by simp) ?_⟩
    refine CallK.of (high_spec hw6) ?_
    rintro _ _ ⟨rfl, rfl⟩
    exact ⟨_, rfl, ifB.f (by simp) hz⟩
  refine ifB.dec (fun c => ?_) (fun c => ?_)
  · have c' : at_ < e := c
    have ht : wt = true := by rw [hacc]; simp [c']
    rw [ht, accE_new c', accH_new c', accS_new c'] at hw5
    refine NewK.of fun g2 w6 hg2 hgb2 f6 hs6 => ?_
    have hb5 := hw5.lt
    obtain ⟨w7, hrun, f7, hs7, hM7⟩ := update_ok (P := Try.prog) (IsMap.new hgb2) n (.bool true) Try.underlying25 Try.underlying3
    refine ⟨⟨w7, hrun, ?_⟩⟩
    have F5s := F5.size
    refine tell w7 _ _ _ _ ((hw5.keep f6 (fun t => t)).keep f7 (fun t => by have : b = g2 := t; omega)) ?_
    refine ⟨⟨(F5.trans f6).fresh f7 (by omega), by dsimp only; omega, by dsimp only; omega, by dsimp only; omega, by dsimp only; omega, by dsimp only; omega, by dsimp only; omega, by dsimp only; omega, g2, _, _, rfl, by omega, by omega,
      (hw5.keep f6 (fun t => t)).keep f7 (fun t => by have : b = g2 := t; omega), hM7, fun m => ?_, fun m _ => ?_⟩, by omega⟩
    · by_cases hmn : m = n <;> simp [hmn]
    · by_cases hmn : m = n <;> simp [hmn]
  · have c' : ¬ at_ < e := c
    refine ifB.by (fun ht => ?_) (fun ht => ?_)
    · rw [ht] at hw5 hacc
      have hee : e = at_ := by
        symm at hacc; simp [c'] at hacc; exact hacc.1
      subst hee
      obtain ⟨w7, hrun, f7, hs7, hM7⟩ := update_ok (P := Try.prog) hM5 n (.bool true) Try.underlying25 Try.underlying3
      refine ⟨⟨w7, hrun, ?_⟩⟩
      have hup : (if n > h then n else h) = accH e h e n true := by unfold accH; simp
      rw [accE_old, accS_old, ← hup] at hw5
      have hw7 := hw5.keep f7 (fun t => hbg t)
      refine tell w7 _ _ _ _ hw7 ?_
      refine ⟨⟨F5.fresh f7 hg0, by dsimp only; omega, by dsimp only; omega, by dsimp only; omega, by dsimp only; omega, by dsimp only; omega, by dsimp only; split <;> omega, by dsimp only; split <;> omega, g, _, _, rfl, hg0, hbg, hw7, hM7, fun m => ?_, fun m hm => ?_⟩, by omega⟩
      · by_cases hmn : m = n
        · simp [hmn]
        · simpa [hmn] using hMv m
      · by_cases hmn : m = n
        · simp [hmn]
        · simp only [hmn, if_false]
          dsimp only at hm
          have : h - 64 < m := by split at hm <;> omega
          rw [hMS m this]; simp [hmn]
    · rw [ht] at hw5
      replace hw5 : IsWin w5 b at_ h S := hw5
      refine tell w5 _ _ _ _ hw5 ?_
      exact ⟨⟨F5, by dsimp only; omega, by dsimp only; omega, by dsimp only; omega, by dsimp only; omega, by dsimp only; omega, by dsimp only; omega, by dsimp only; omega, g, S, M, rfl, hg0, hbg, hw5, hM5, hMv, hMS⟩, by omega⟩

end Go.Proofs.Ytejhjjafmobmbaa
