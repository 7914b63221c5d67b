/-
  PackNumbers: eight bytes, the greatest first, of any number; back of any eight bytes; of fewer, or more, nothing.
  Conditions: the bytes that came in lie in the world.
-/
import Derived.Test.YtlhbfdakceipkaaDoorPackSpec
import Derived.Test.YtlhbfdakceipkaaDoorCPNumL
set_option linter.unusedVariables false
set_option maxRecDepth 100000
namespace Go.Proofs.YtlhbfdakceipkaaDoor
open Vc

theorem numbers12_walk (p0 : Int) (p1 : Option Addr) (p1l p1c : Nat) (zs : List Int) (w : World) (h0 : (Go.Lit.int .i64 p0).wf = true) (h1 : IsInts .u8 w p1 p1l p1c zs) :
    Ret Tryd.prog 3 #[.int .i64 p0, .slice p1 p1l p1c] w fun r w' => r = .bool true ∧ Fr none1 w w' := by
  refine c3 p0 p1 p1l p1c w _ ?_
  unfold C3
  obtain ⟨hb, hbl⟩ := args_rd h1
  obtain ⟨bs, hbs⟩ : ∃ bs, bs = (zs.take p1l).map toByte := ⟨_, rfl⟩
  rw [← hbs] at hb
  have hlen := hb.len
  dsimp only at hlen
  refine CallK.of (pnum_spec p0 w) ?_
  rintro _ w1 ⟨u, rfl, hu, f1, uf⟩
  have hul := hu.len
  rw [numL_len] at hul
  refine ⟨u, rfl, ?_⟩
  refine ifB.f (by rw [hul]; rfl) ?_
  refine LoopK.of (fun s w' => ∃ i : Nat, s.2.1 = i ∧ i ≤ 8 ∧ s.1 = (big ((numL p0).take i) : Int) ∧ w1 = w') (fun s _ => (8 - s.2.1).toNat) ⟨0, rfl, by omega, rfl, rfl⟩ ?_
  rintro _ ⟨m, i', _⟩ _ ⟨i, hi, hi8, hm, rfl⟩
  dsimp only at hi hm ⊢
  subst hi hm
  have hnl := numL_len p0
  refine ifB.dec (fun hlt => ?_) (fun hge => ?_)
  · refine RdB.at hu.rd (by omega) (by rw [hul]; omega) ?_
    rw [Int.toNat_natCast]
    have hlt2 := big_take_lt (numL p0) i (by omega)
    have hb8 := ((numL p0).getD i 0).toNat_lt
    have e1 : IntKind.u64.wrap ((big ((numL p0).take i) : Int) * 256) = ((big ((numL p0).take i) * 256 : Nat) : Int) := by
      rw [show ((big ((numL p0).take i) : Int) * 256) = ((big ((numL p0).take i) * 256 : Nat) : Int) by omega, wrapU_nat, Nat.mod_eq_of_lt (by omega)]
    rw [e1, wrapU_nat ((numL p0).getD i 0).toNat, Nat.mod_eq_of_lt (show ((numL p0).getD i 0).toNat < 18446744073709551616 by omega), ← Int.natCast_add, wrapU_nat, Nat.mod_eq_of_lt (by omega), wI (by omega) (by omega)]
    refine ⟨⟨i + 1, by omega, by omega, ?_, rfl⟩, by omega⟩
    rw [big_take _ i (by omega)]
  · have h8 : i = 8 := by omega
    subst h8
    rw [List.take_of_length_le (by omega)]
    have hb1 := hb.keep0 f1
    have htk := ptake_spec hb1
    refine CallK.of htk ?_
    rintro _ _ ⟨rfl, rfl⟩
    refine ⟨((takeL bs).1, (takeL bs).2, ()), rfl, ?_⟩
    have hbig : (big (numL p0) : Int) = IntKind.u64.wrap p0 := by rw [big_numL, wrapU]; omega
    refine ifB.t (by rw [hbig]; exact beq_self_eq_true _) ?_
    have wk : ∀ w2, Fr none1 w w2 → CallK Tryd.prog 8 #[] w2 (.v (.one .bool)) (fun (x : Bool) w3 => (.bool x : Value) = .bool true ∧ Fr none1 w w3) := fun w2 f => by
      refine CallK.of (wakes12_spec w2) ?_
      rintro _ w3 ⟨rfl, f3⟩
      exact ⟨_, rfl, rfl, f.trans f3⟩
    by_cases hl : bs.length = 8
    · have ht : (takeL bs).2 = true := by unfold takeL; rw [if_pos hl]
      rw [ht]
      refine ifB.t (by rw [hlen, hl]; rfl) (ifB.t rfl (ifB.f rfl ?_))
      refine CallK.of (pnum_spec (takeL bs).1 w1) ?_
      rintro _ w2 ⟨v, rfl, hv, f2, vf⟩
      refine ⟨v, rfl, ?_⟩
      rw [num_take hl] at hv
      have hb2 := hb1.keep0 f2
      have hsm := same_spec hv.rd hb2 (by omega)
      refine CallK.of hsm ?_
      rintro _ w3 ⟨rfl, f3⟩
      refine ⟨_, rfl, ifB.t (by simp) (wk w3 ((f1.trans f2).trans f3))⟩
    · have ht : takeL bs = (0, false) := by unfold takeL; rw [if_neg hl]
      rw [ht]
      refine ifB.t (by
        have : ((p1l : Int) == 8) = false := by simp; omega
        rw [this]; rfl) (ifB.f rfl (ifB.t rfl (ifB.t rfl (wk w1 f1))))

end Go.Proofs.YtlhbfdakceipkaaDoor
