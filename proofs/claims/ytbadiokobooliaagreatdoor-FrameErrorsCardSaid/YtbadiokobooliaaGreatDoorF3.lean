/-
  Texts of this claim, put together: SipSpec, NilNe, CFrameG, FrameSpec, FrameF, FrameSpec2, FrameSpec3, KeyCopy, KeepB, CFErr, FErr.
  Conditions: those of each theorem.
-/
import Derived.Test.YtbadiokobooliaaGreatDoorF0
import Derived.Test.YtbadiokobooliaaGreatDoorF1
import Derived.Test.YtbadiokobooliaaGreatDoorF2
import Derived.KernelRfl
import Derived.Test.YtbadiokobooliaaGreatDoorProg
/-! ### SipSpec -/
set_option linter.unusedVariables false
set_option maxRecDepth 100000
namespace Go.Proofs.YtbadiokobooliaaGreatDoor
open Vc

namespace Vc
theorem LdaK.of {w : World} {b n : Nat} {cs : List Value} {T : TypeId} {fr : Nat × Nat} (hb : w.heap[b]? = some (.cells cs.toArray T fr)) (hn : cs.length = n) {K : List Value → Prop} (k : K cs) : LdaK n ⟨b, 0, none⟩ w K :=
  ⟨cs, hn, cellsAt_all hb _ 0 fun j _ => by simp, k⟩
end Vc

def sipC (s : SipS) : Array Value := #[.int .u64 s.1, .int .u64 s.2.1, .int .u64 s.2.2.1, .int .u64 s.2.2.2]
def IsSt (w : World) (b : Nat) (s : SipS) : Prop := w.heap[b]? = some (.cells (sipC s) 137 (0, 0))

theorem rotl_spec (x k : Int) (hk : k = 13 ∨ k = 16 ∨ k = 17 ∨ k = 21 ∨ k = 32) (w : World) : Ret Tryz.prog 154 #[.int .u64 x, .int .i64 k] w fun r w' => r = .int .u64 (rotU x k.toNat) ∧ w = w' := by
  refine c154 x k w _ ?_
  unfold C154 rotU
  have e1 : IntKind.u64.wrap ((BitVec.ofInt 64 (IntKind.u64.wrap k) &&& BitVec.ofInt 64 63).toNat : Int) = k := by rcases hk with rfl | rfl | rfl | rfl | rfl <;> decide
  have e2 : IntKind.u64.wrap (64 - k) = 64 - k := by rcases hk with rfl | rfl | rfl | rfl | rfl <;> decide
  have e3 : Int.toNat (64 - k) = 64 - k.toNat := by rcases hk with rfl | rfl | rfl | rfl | rfl <;> decide
  rw [e1, e2, e3]
  exact ⟨by rcases hk with rfl | rfl | rfl | rfl | rfl <;> decide, by rcases hk with rfl | rfl | rfl | rfl | rfl <;> decide, rfl, rfl⟩

theorem rotK (x k : Int) (hk : k = 13 ∨ k = 16 ∨ k = 17 ∨ k = 21 ∨ k = 32) (w : World) {K : Int → World → Prop} (h : K (rotU x k.toNat) w) : CallK Tryz.prog 154 #[.int .u64 x, .int .i64 k] w (.v (.one (.int .u64))) (fun (y : Int) w' => K y w') := by
  refine CallK.of (rotl_spec x k hk w) ?_
  rintro _ _ ⟨rfl, rfl⟩
  exact ⟨_, rfl, h⟩

/-- A cell of the state read, written. -/
theorem IsSt.ld {w : World} {b : Nat} {s : SipS} (h : IsSt w b s) {o : Nat} {x : Int} (hx : (sipC s)[o]? = some (.int .u64 x)) {K : Int → Prop} (k : K x) : LdK (.int .u64) ((⟨b, 0, none⟩ : Addr).add o) w K := LdK.fld h (x := x) (by rw [Nat.zero_add]; exact hx) k
theorem IsSt.st {w : World} {b : Nat} {s s' : SipS} (h : IsSt w b s) {o : Nat} {x : Int} (ho : o < 4) (hs : (sipC s).setIfInBounds o (.int .u64 x) = sipC s') {K : World → Prop} (k : ∀ w1, IsSt w1 b s' → Fr (only b) w w1 → K w1) : StK ((⟨b, 0, none⟩ : Addr).add o) (.int .u64 x) w K :=
  StK.fld h (by show 0 + o < 4; omega) rfl fun w1 hb f _ => k w1 (by unfold IsSt; rw [hb, Nat.zero_add, hs]) f
theorem IsSt.keep0 {w w' : World} {b : Nat} {s : SipS} (h : IsSt w b s) (f : Fr none1 w w') : IsSt w' b s := f.keep0 h

theorem sround_spec {w : World} {b : Nat} {s : SipS} (h : IsSt w b s) : Ret Tryz.prog 119 #[.pointer (some ⟨b, 0, none⟩)] w fun r w' => r = .tuple #[] ∧ IsSt w' b (roundI s) ∧ Fr (only b) w w' := by
  refine c119 _ w _ ?_
  unfold C119
  obtain ⟨a0, a1, a2, a3⟩ := s
  refine DrewK.of fun w1 _ f1 => ?_
  have h := h.keep0 f1
  refine h.ld rfl (h.ld rfl (h.st (s' := (addU a0 a1, a1, a2, a3)) (by decide) rfl fun w2 h f2 => ?_))
  have F := (Fr.of0 f1 f2)
  refine DrewK.of fun w3 _ f3 => HoldK.all (InK.all (IsSt.ld (h.keep0 f3) rfl (InK.all (IsSt.ld (h.keep0 f3) rfl ?_))))
  have h := h.keep0 f3
  have F := F.then0 f3
  refine rotK _ 13 (by decide) _ (KeepK.same (h.st (s' := (addU a0 a1, xorU (rotU a1 13) (addU a0 a1), a2, a3)) (by decide) rfl fun w4 h f4 => ?_))
  have F := F.trans f4
  refine h.ld rfl (rotK _ 32 (by decide) _ (h.st (s' := (rotU (addU a0 a1) 32, xorU (rotU a1 13) (addU a0 a1), a2, a3)) (by decide) rfl fun w5 h f5 => ?_))
  have F := F.trans f5
  have e : roundI (a0, a1, a2, a3) = (addU (rotU (addU a0 a1) 32) (xorU (rotU a3 16) (addU a2 a3)), xorU (rotU (xorU (rotU a1 13) (addU a0 a1)) 17) (addU (addU a2 a3) (xorU (rotU a1 13) (addU a0 a1))), rotU (addU (addU a2 a3) (xorU (rotU a1 13) (addU a0 a1))) 32, xorU (rotU (xorU (rotU a3 16) (addU a2 a3)) 21) (addU (rotU (addU a0 a1) 32) (xorU (rotU a3 16) (addU a2 a3)))) := rfl
  rw [e]
  generalize xorU (rotU a1 13) (addU a0 a1) = b1 at *
  generalize rotU (addU a0 a1) 32 = b0 at *
  refine DrewK.of fun w6 _ f6 => ?_
  have h := h.keep0 f6
  have F := F.then0 f6
  refine h.ld rfl (h.ld rfl (h.st (s' := (b0, b1, addU a2 a3, a3)) (by decide) rfl fun w7 h f7 => ?_))
  have F := F.trans f7
  refine DrewK.of fun w8 _ f8 => HoldK.all (InK.all (IsSt.ld (h.keep0 f8) rfl (InK.all (IsSt.ld (h.keep0 f8) rfl ?_))))
  have h := h.keep0 f8
  have F := F.then0 f8
  refine rotK _ 16 (by decide) _ (KeepK.same (h.st (s' := (b0, b1, addU a2 a3, xorU (rotU a3 16) (addU a2 a3))) (by decide) rfl fun w9 h f9 => ?_))
  have F := F.trans f9
  generalize xorU (rotU a3 16) (addU a2 a3) = b3 at *
  generalize addU a2 a3 = b2 at *
  refine DrewK.of fun w10 _ f10 => ?_
  have h := h.keep0 f10
  have F := F.then0 f10
  refine h.ld rfl (h.ld rfl (h.st (s' := (addU b0 b3, b1, b2, b3)) (by decide) rfl fun w11 h f11 => ?_))
  have F := F.trans f11
  refine DrewK.of fun w12 _ f12 => HoldK.all (InK.all (IsSt.ld (h.keep0 f12) rfl (InK.all (IsSt.ld (h.keep0 f12) rfl ?_))))
  have h := h.keep0 f12
  have F := F.then0 f12
  refine rotK _ 21 (by decide) _ (KeepK.same (h.st (s' := (addU b0 b3, b1, b2, xorU (rotU b3 21) (addU b0 b3))) (by decide) rfl fun w13 h f13 => ?_))
  have F := F.trans f13
  generalize xorU (rotU b3 21) (addU b0 b3) = c3 at *
  generalize addU b0 b3 = c0 at *
  refine DrewK.of fun w14 _ f14 => ?_
  have h := h.keep0 f14
  have F := F.then0 f14
  refine h.ld rfl (h.ld rfl (h.st (s' := (c0, b1, addU b2 b1, c3)) (by decide) rfl fun w15 h f15 => ?_))
  have F := F.trans f15
  refine DrewK.of fun w16 _ f16 => HoldK.all (InK.all (IsSt.ld (h.keep0 f16) rfl (InK.all (IsSt.ld (h.keep0 f16) rfl ?_))))
  have h := h.keep0 f16
  have F := F.then0 f16
  refine rotK _ 17 (by decide) _ (KeepK.same (h.st (s' := (c0, xorU (rotU b1 17) (addU b2 b1), addU b2 b1, c3)) (by decide) rfl fun w17 h f17 => ?_))
  have F := F.trans f17
  refine h.ld rfl (rotK _ 32 (by decide) _ (h.st (s' := (c0, xorU (rotU b1 17) (addU b2 b1), rotU (addU b2 b1) 32, c3)) (by decide) rfl fun w18 h f18 => ?_))
  exact ⟨rfl, h, F.trans f18⟩

theorem rounds_spec {w : World} {b : Nat} {s : SipS} (h : IsSt w b s) (n : Nat) (hn : n ≤ 100) : Ret Tryz.prog 76 #[.pointer (some ⟨b, 0, none⟩), .int .i64 (n : Int)] w fun r w' => r = .tuple #[] ∧ IsSt w' b (roundsN n s) ∧ Fr (only b) w w' := by
  refine c76 _ _ w _ ?_
  unfold C76
  refine LoopK.of (fun st w' => ∃ i : Nat, st.1 = i ∧ i ≤ n ∧ IsSt w' b (roundsN i s) ∧ Fr (only b) w w') (fun st _ => (n - st.1).toNat) ⟨0, rfl, by omega, h, Fr.refl _ _⟩ ?_
  rintro _ ⟨i', _⟩ w1 ⟨i, hi, hin, h1, f1⟩
  dsimp only at hi ⊢
  subst hi
  refine ifB.dec (fun hlt => ?_) (fun hge => ?_)
  · refine CallK.of (sround_spec h1) ?_
    rintro _ w2 ⟨rfl, h2, f2⟩
    refine ⟨(), rfl, ?_⟩
    rw [wI (by omega) (by omega)]
    exact ⟨⟨i + 1, by omega, by omega, h2, f1.trans f2⟩, by omega⟩
  · obtain rfl : i = n := by omega
    exact ⟨rfl, h1, f1⟩

theorem absorb_spec {w : World} {b : Nat} {s : SipS} (h : IsSt w b s) (m : Int) : Ret Tryz.prog 75 #[.pointer (some ⟨b, 0, none⟩), .int .u64 m] w fun r w' => r = .tuple #[] ∧ IsSt w' b (absI m s) ∧ Fr (only b) w w' := by
  refine c75 _ _ w _ ?_
  unfold C75 absI
  obtain ⟨a0, a1, a2, a3⟩ := s
  refine h.ld rfl (h.st (s' := (a0, a1, a2, xorU a3 m)) (by decide) rfl fun w1 h1 f1 => ?_)
  refine CallK.of (rounds_spec h1 2 (by decide)) ?_
  rintro _ w2 ⟨rfl, h2, f2⟩
  refine ⟨(), rfl, ?_⟩
  dsimp only
  generalize roundsN 2 (a0, a1, a2, xorU a3 m) = t at *
  obtain ⟨t0, t1, t2, t3⟩ := t
  refine h2.ld rfl (h2.st (s' := (xorU t0 m, t1, t2, t3)) (by decide) rfl fun w3 h3 f3 => ?_)
  exact ⟨rfl, h3, (f1.trans f2).trans f3⟩

theorem slow_spec {w : World} {v : Sl} {bs : List UInt8} (h : RdB w v bs) (hl : bs.length ≤ 8) : Ret Tryz.prog 74 #[.slice v.1 v.2.1 v.2.2] w fun r w' => r = .int .u64 (lowL bs : Int) ∧ w = w' := by
  refine c74 v.1 v.2.1 v.2.2 w _ ?_
  unfold C74
  have hvl := h.len
  refine LoopK.of (fun s w' => ∃ i : Nat, s.2.1 = i ∧ i ≤ bs.length ∧ s.1 = (lowL (bs.take i) : Int) ∧ w = w') (fun s _ => (bs.length - s.2.1).toNat) ⟨0, rfl, by omega, rfl, rfl⟩ ?_
  rintro _ ⟨m, i', _⟩ _ ⟨i, hi, hil, hm, rfl⟩
  dsimp only at hi hm ⊢
  subst hi hm
  refine ifB.dec (fun hlt => ?_) (fun hge => ?_)
  · refine RdB.at h (by omega) hlt ?_
    rw [wI (x := 8 * (i : Int)) (by omega) (by omega), wI (x := (i : Int) + 1) (by omega) (by omega)]
    refine ⟨by omega, ⟨i + 1, by omega, by omega, ?_, rfl⟩, by omega⟩
    have hi8 : i < 8 := by omega
    have hb := (bs.getD i 0).toNat_lt
    have hlow := low_lt (bs.take i)
    rw [List.length_take, Nat.min_eq_left (by omega)] at hlow
    have hp : 256 ^ i = 2 ^ (8 * i) := by rw [show (256 : Nat) = 2 ^ 8 by decide, ← Nat.pow_mul]
    have hp8 : 256 ^ i ≤ 72057594037927936 := by
      have : (72057594037927936 : Nat) = 256 ^ 7 := by decide
      rw [this]; exact Nat.pow_le_pow_right (by decide) (by omega)
    have hpb : 256 ^ i * (bs.getD i 0).toNat < 18446744073709551616 := by
      have h1 : 256 ^ i * (bs.getD i 0).toNat ≤ 256 ^ i * 255 := Nat.mul_le_mul_left _ (by omega)
      have h2 : 256 ^ i * 255 ≤ 72057594037927936 * 255 := Nat.mul_le_mul_right _ hp8
      omega
    rw [Int.toNat_natCast, low_take bs i (by omega), wrapU_nat (bs.getD i 0).toNat, Nat.mod_eq_of_lt (show (bs.getD i 0).toNat < 18446744073709551616 by omega), show Int.toNat (8 * (i : Int)) = 8 * i by omega, shl_nat _ (8 * i) (by omega),
      ← hp, Nat.mul_comm (bs.getD i 0).toNat, Nat.mod_eq_of_lt hpb, or_nat _ _ (by omega) hpb]
    congr 1
    rw [hp, Nat.mul_comm, ← Nat.shiftLeft_eq, Nat.or_comm, ← Nat.shiftLeft_add_eq_or_of_lt (by rw [← hp]; exact hlow), Nat.shiftLeft_eq]
    omega
  · rw [List.take_of_length_le (by omega)]; exact ⟨rfl, rfl⟩

/-- A key: sixteen bytes. -/
def keyL (kb : List UInt8) : List Value := kb.map bc
theorem key_rd {w : World} {g : Nat} {kb : List UInt8} {T : TypeId} {fr : Nat × Nat} (hb : w.heap[g]? = some (.cells (keyL kb).toArray T fr)) (hk : kb.length = 16) : RdB w (some ⟨g, 0, none⟩, 16, 16) kb := by
  refine ⟨by simp [hk], (fun t => nomatch t), fun a ha => ?_⟩
  injection ha with ha
  subst ha
  exact cellsAt_all hb _ 0 fun j _ => by simp [keyL]

/-- The halves of a key. -/
theorem key_lo {w : World} {g : Nat} {kb : List UInt8} (hk : kb.length = 16) (h : RdB w (some ⟨g, 0, none⟩, 16, 16) kb) {K : Option Addr → Nat → Nat → Prop} (k : RdB w (some ⟨g, 0, none⟩, 8, 16) (kb.take 8) → K (some ⟨g, 0, none⟩) 8 16) :
    SubK (some ⟨g, 0, none⟩) 16 0 8 16 1 K := by
  refine ⟨by decide, by decide, by decide, by decide, ?_⟩
  have e : (if (16 : Int) = 0 then some (⟨g, 0, none⟩ : Addr) else (some (⟨g, 0, none⟩ : Addr)).map (·.add ((0 : Int).toNat * 1))) = some ⟨g, 0, none⟩ := by
    rw [if_neg (by decide), Option.map_some, addr_add]; rfl
  rw [e]
  refine k ⟨by simp [hk], (fun t => nomatch t), fun a ha => ?_⟩
  rw [List.map_take]
  exact cellsAt_take _ 0 8 (h.2.2 a ha)
theorem key_hi {w : World} {g : Nat} {kb : List UInt8} (hk : kb.length = 16) (h : RdB w (some ⟨g, 0, none⟩, 16, 16) kb) {K : Option Addr → Nat → Nat → Prop} (k : RdB w (some ⟨g, 8, none⟩, 8, 8) (kb.drop 8) → K (some ⟨g, 8, none⟩) 8 8) :
    SubK (some ⟨g, 0, none⟩) 16 8 16 16 1 K := by
  refine ⟨by decide, by decide, by decide, by decide, ?_⟩
  have e : (if (16 : Int) = 8 then some (⟨g, 0, none⟩ : Addr) else (some (⟨g, 0, none⟩ : Addr)).map (·.add ((8 : Int).toNat * 1))) = some ⟨g, 8, none⟩ := by
    rw [if_neg (by decide), Option.map_some, addr_add]; rfl
  rw [e]
  refine k ⟨by simp [hk], (fun t => nomatch t), fun a ha => ?_⟩
  injection ha with ha
  subst ha
  have h8 := cellsAt_drop 8 _ 0 (h.2.2 ⟨g, 0, none⟩ rfl)
  have := cellsAt_shift (m := 8) _ 0 h8
  rw [addr_add, Nat.zero_add] at this
  rw [List.map_drop]
  exact this

theorem sip_spec {w : World} {v : Sl} {kb bs : List UInt8} (hk : kb.length = 16) (h : RdB w v bs) (hc : v.2.1 ≤ v.2.2) (hl : bs.length ≤ 140737488355300) : Ret Tryz.prog 36 #[.agg (keyL kb).toArray, .slice v.1 v.2.1 v.2.2] w fun r w' => r = .int .u64 (sumI kb bs) ∧ Fr none1 w w' := by
  refine c36 (keyL kb) v.1 v.2.1 v.2.2 w _ ?_
  unfold C36
  have hvl := h.len
  refine NewK.of fun g1 w1 hg1 hb1 f1 _ => DrewK.of fun w2 _ f2 => HoldK.all ?_
  have f12 := f1.trans f2
  have hK := key_rd (f2.keep0 hb1) hk
  refine key_lo hk hK fun hA => key_hi hk hK fun hu => ?_
  refine CallK.of (slow_spec (v := (some ⟨g1, 0, none⟩, 8, 16)) hA (by rw [List.length_take]; omega)) ?_
  rintro _ _ ⟨rfl, rfl⟩
  refine ⟨_, rfl, KeepK.same ?_⟩
  refine CallK.of (slow_spec (v := (some ⟨g1, 8, none⟩, 8, 8)) hu (by rw [List.length_drop]; omega)) ?_
  rintro _ _ ⟨rfl, rfl⟩
  refine ⟨_, rfl, KeepK.same ?_⟩
  refine NewK.of fun b w3 hb hb3 f3 _ => ⟨by decide, ?_⟩
  have S3 : IsSt w3 b (initI kb) := hb3
  have f13 := f12.trans f3
  have hdv : ((v.2.1 : Int).tdiv 8) = ((bs.length / 8 : Nat) : Int) := by rw [Int.tdiv_eq_ediv_of_nonneg (by omega)]; omega
  rw [hdv, wI (x := ((bs.length / 8 : Nat) : Int)) (by omega) (by omega), wI (x := ((bs.length / 8 : Nat) : Int) * 8) (by omega) (by omega)]
  unfold sumI
  generalize initI kb = s0 at *
  have f03 := f13.size
  refine LoopK.of (fun st w' => ∃ i : Nat, st.1 = 8 * (i : Int) ∧ i ≤ bs.length / 8 ∧ IsSt w' b (blocksI bs s0 i) ∧ Fr (only b) w3 w') (fun st _ => (8 * (bs.length / 8 : Nat) - st.1).toNat) ⟨0, rfl, by omega, S3, Fr.refl _ _⟩ ?_
  rintro _ ⟨i', _⟩ w4 ⟨i, hi, hil, S4, f4⟩
  dsimp only at hi ⊢
  subst hi
  have hs2 := f12.size
  have h4 : RdB w4 v bs := (h.keep0 f13).keepE f4 fun hn k hk t => by have := h.ltE hn hk; have : k = b := t; omega
  refine ifB.dec (fun hlt => ?_) (fun hge => ?_)
  · rw [wI (x := 8 * (i : Int) + 8) (by omega) (by omega)]
    refine RdB.mid h4 (by omega) (by omega) (by omega) hc fun u hu _ _ _ => ?_
    rw [show (8 * (i : Int)).toNat = 8 * i by omega, show (8 * (i : Int) + 8 - 8 * (i : Int)).toNat = 8 by omega] at hu
    refine CallK.of (slow_spec hu (by rw [List.length_take]; omega)) ?_
    rintro _ _ ⟨rfl, rfl⟩
    refine ⟨_, rfl, ?_⟩
    refine CallK.of (absorb_spec S4 _) ?_
    rintro _ w5 ⟨rfl, S5, f5⟩
    exact ⟨(), rfl, ⟨i + 1, by omega, by omega, S5, f4.trans f5⟩, by omega⟩
  · obtain rfl : i = bs.length / 8 := by omega
    refine RdB.mid h4 (by omega) (by omega) (Int.le_refl _) hc fun u hu _ _ _ => ?_
    rw [show (((bs.length / 8 : Nat) : Int) * 8).toNat = 8 * (bs.length / 8) by omega, List.take_of_length_le (by rw [List.length_drop]; omega)] at hu
    have hdl : (bs.drop (8 * (bs.length / 8))).length ≤ 7 := by rw [List.length_drop]; omega
    refine CallK.of (slow_spec hu (by omega)) ?_
    rintro _ _ ⟨rfl, rfl⟩
    refine ⟨_, rfl, by decide, ?_⟩
    have hlow := low_lt (bs.drop (8 * (bs.length / 8)))
    have hlow2 : lowL (bs.drop (8 * (bs.length / 8))) < 72057594037927936 := by
      have h2 : 256 ^ (bs.drop (8 * (bs.length / 8))).length ≤ 256 ^ 7 := Nat.pow_le_pow_right (by decide) hdl
      have : (256 : Nat) ^ 7 = 72057594037927936 := by decide
      omega
    have elast : IntKind.u64.wrap ((BitVec.ofInt 64 (lowL (bs.drop (8 * (bs.length / 8))) : Int) ||| BitVec.ofInt 64 (IntKind.u64.wrap ((IntKind.u64.wrap (v.2.1 : Int)) * 2 ^ (min (Int.toNat 56) 64)))).toNat : Int) = (lastL bs : Int) := by
      rw [hvl, wrapU_nat bs.length, Nat.mod_eq_of_lt (show bs.length < 18446744073709551616 by omega), show Int.toNat 56 = 56 by rfl, shl_nat _ 56 (by decide), show bs.length * 2 ^ 56 % 18446744073709551616 = bs.length % 256 * 72057594037927936 by omega,
        or_nat _ _ (by omega) (by omega)]
      congr 1
      unfold lastL
      rw [Nat.or_comm, show bs.length % 256 * 72057594037927936 = (bs.length % 256) <<< 56 by rw [Nat.shiftLeft_eq], ← Nat.shiftLeft_add_eq_or_of_lt (by exact hlow2)]
      omega
    rw [elast]
    refine CallK.of (absorb_spec S4 _) ?_
    rintro _ w5 ⟨rfl, S5, f5⟩
    refine ⟨(), rfl, ?_⟩
    generalize absI (lastL bs : Int) (blocksI bs s0 (bs.length / 8)) = t at *
    obtain ⟨t0, t1, t2, t3⟩ := t
    unfold finI
    refine S5.ld rfl (S5.st (s' := (t0, t1, xorU t2 255, t3)) (by decide) rfl fun w6 S6 f6 => ?_)
    refine CallK.of (rounds_spec S6 4 (by decide)) ?_
    rintro _ w7 ⟨rfl, S7, f7⟩
    refine ⟨(), rfl, ?_⟩
    dsimp only
    generalize roundsN 4 (t0, t1, xorU t2 255, t3) = q at *
    obtain ⟨q0, q1, q2, q3⟩ := q
    refine DrewK.of fun w8 _ f8 => ?_
    have S8 := S7.keep0 f8
    refine S8.ld rfl (S8.ld rfl (S8.ld rfl (S8.ld rfl ?_)))
    have f38 : Fr (only b) w3 w8 := ((((f4.trans f5).trans f6).trans f7).then0 f8)
    exact ⟨rfl, f13.fresh f38 (by omega)⟩

theorem sbytes_spec (n : Int) (h0 : 0 ≤ n) (h1 : n < 18446744073709551616) (w : World) : Ret Tryz.prog 34 #[.int .u64 n] w fun r w' => ∃ v : Sl, r = .slice v.1 v.2.1 v.2.2 ∧ IsB w' v (hedL n) ∧ Fr none1 w w' ∧ ∀ k, blkOf v k → w.heap.size ≤ k := by
  refine c34 n w _ ?_
  unfold C34
  obtain ⟨M, rfl⟩ : ∃ M : Nat, n = M := ⟨n.toNat, by omega⟩
  obtain ⟨w1, hr1, hx1, f1⟩ := make_full (w := w) (n := 8) (m := 8) (by decide) (by decide) (by decide)
  refine ⟨(some ⟨w.heap.size, 0, none⟩, 8, 8), w1, hr1, ?_⟩
  have hx1 : IsB w1 (some ⟨w.heap.size, 0, none⟩, 8, 8) (List.replicate 8 0) := hx1
  have hh : hedL (M : Int) = lsb 8 M := by unfold hedL; rw [show ((M : Int) % 18446744073709551616).toNat = M by omega]
  refine LoopK.of (fun st w' => ∃ (i : Nat) (cs : List UInt8), st.1 = i ∧ i ≤ 8 ∧ IsB w' (some ⟨w.heap.size, 0, none⟩, 8, 8) cs ∧ cs.length = 8 ∧ (∀ j, j < i → cs[j]? = (lsb 8 M)[j]?) ∧ Fr none1 w w') (fun st _ => (8 - st.1).toNat) ⟨0, _, rfl, by omega, hx1, by simp, fun j hj => by omega, f1⟩ ?_
  rintro _ ⟨i', _⟩ w2 ⟨i, cs, hi, hil, hx2, hcl, hall, f2⟩
  dsimp only at hi ⊢
  subst hi
  refine ifB.dec (fun hlt => ?_) (fun hge => ?_)
  · have hi8 : i < 8 := by omega
    rw [wI (x := 8 * (i : Int)) (by omega) (by omega), wI (x := (i : Int) + 1) (by omega) (by omega), show Int.toNat (8 * (i : Int)) = 8 * i by omega]
    refine ⟨by omega, ?_⟩
    have hv : Value.int .u8 (IntKind.u8.wrap (Int.fdiv (M : Int) (2 ^ (min (8 * i) 64)))) = bc (UInt8.ofNat (M / 256 ^ i % 256)) := by
      rw [fdiv_nat M (8 * i) (by omega), wrapB]
      unfold bc
      rw [u8_nat (Nat.mod_lt _ (by decide)), show (256 : Nat) ^ i = 2 ^ (8 * i) by rw [show (256 : Nat) = 2 ^ 8 by decide, ← Nat.pow_mul]]
    rw [hv]
    refine IsSl.st (v := (some ⟨w.heap.size, 0, none⟩, 8, 8)) hx2 (by omega) hlt rfl fun w3 hb3 f3 _ => ?_
    have hb3' : IsB w3 (some ⟨w.heap.size, 0, none⟩, 8, 8) (cs.set i (UInt8.ofNat (M / 256 ^ i % 256))) := by unfold IsB; rw [List.map_set]; rw [Int.toNat_natCast] at hb3; exact hb3
    refine ⟨⟨i + 1, _, by omega, by omega, hb3', by rw [List.length_set]; exact hcl, fun j hj => ?_, f2.comp f3 fun k hk ⟨a, ha, e⟩ => by injection ha with ha; subst ha; dsimp only at e; omega⟩, by omega⟩
    rw [List.getElem?_set]
    by_cases hij : i = j
    · subst hij; rw [if_pos rfl, if_pos (by omega), lsb_at 8 M i hi8]
    · rw [if_neg hij]; exact hall j (by omega)
  · refine ⟨(some ⟨w.heap.size, 0, none⟩, 8, 8), rfl, ?_, f2, fun k ⟨a, ha, e⟩ => by injection ha with ha; subst ha; dsimp only at e; omega⟩
    have : cs = lsb 8 M := by
      refine List.ext_getElem? fun j => ?_
      by_cases hj : j < 8
      · exact hall j (by omega)
      · rw [List.getElem?_eq_none (by omega), List.getElem?_eq_none (by rw [lsb_len]; omega)]
    rw [hh, ← this]; exact hx2

theorem snumber_spec {w : World} {v : Sl} {bs : List UInt8} (h : RdB w v bs) : Ret Tryz.prog 47 #[.slice v.1 v.2.1 v.2.2] w fun r w' => r = .tuple #[.int .u64 (if bs.length = 8 then (lowL bs : Int) else 0), .bool (decide (bs.length = 8))] ∧ w = w' := by
  refine c47 v.1 v.2.1 v.2.2 w _ ?_
  unfold C47
  have hvl := h.len
  refine ifB.ne (fun hne => ?_) (fun heq => ?_)
  · rw [if_neg (by omega), decide_eq_false (by omega)]; exact ⟨rfl, rfl⟩
  · rw [if_pos (by omega), decide_eq_true (by omega)]
    refine CallK.of (slow_spec h (by omega)) ?_
    rintro _ _ ⟨rfl, rfl⟩
    exact ⟨_, rfl, rfl, rfl⟩

theorem ssame_spec {w : World} {v u : Sl} {bs cs : List UInt8} (h : RdB w v bs) (h' : RdB w u cs) : Ret Tryz.prog 83 #[.slice v.1 v.2.1 v.2.2, .slice u.1 u.2.1 u.2.2] w fun r w' => r = .bool (bs == cs) ∧ w = w' := by
  refine c83 v.1 v.2.1 v.2.2 u.1 u.2.1 u.2.2 w _ ?_
  unfold C83
  refine CallK.of (bequal_spec h h') ?_
  rintro _ _ ⟨rfl, rfl⟩
  exact ⟨_, rfl, rfl, rfl⟩

end Go.Proofs.YtbadiokobooliaaGreatDoor

/-! ### NilNe -/
set_option linter.unusedVariables false
namespace Go.Proofs.YtbadiokobooliaaGreatDoor
open Vc

theorem ifc_term : ∃ ms, Tryz.prog.underlying 28 = some (.interface ms) := ⟨_, Tryz.underlying28⟩

end Go.Proofs.YtbadiokobooliaaGreatDoor

/-! ### CFrameG -/
namespace Go.Proofs.YtbadiokobooliaaGreatDoor
open Vc
set_option maxRecDepth 100000
set_option linter.unusedVariables false
/-- handfast/frame.counts -/
def C77 (p0 : Int) (w : World) (K : Value → World → Prop) : Prop :=
  ifB (decide (p0 ≥ 0))
  (K (.bool (decide (p0 ≤ 2147483647))) w)
  (K (.bool false) w)
def pl77 : Plan := .auto
theorem e77 (p0 : Int) (w : World) (K : Value → World → Prop) : vcFunc Tryz.prog Tryz.f77 pl77 [.int .i64 p0] w K = C77 p0 w K := by kernel_rfl
theorem c77 (p0 : Int) (w : World) (K : Value → World → Prop) (h : C77 p0 w K) : Ret Tryz.prog 77 #[.int .i64 p0] w K := by
  rw [← e77] at h
  exact vcFunc_sound (by kernel_rfl) Tryz.func77 h

/-- handfast/frame.none -/
def C78 (p0 : YZ14) (w : World) (K : Value → World → Prop) : Prop :=
  NewK (.cells ((LZ14 p0).toArray) 30) w (fun g1 w2 => LdK .raw ((ad g1).add 7) w2 (fun (x3 : Value) => RunK Tryz.prog (do eqGuard .eql 28 (.tmp 4) (.const .nilIface) x3 .nilIface; binOp .eql 28 x3 .nilIface) w2 (.v (.one .bool)) (fun (x4 : Bool) w5 => ifB x4
  (LdK (.int .i64) ((ad g1).add 0) w5 (fun (x6 : Int) => ifB (x6 == 0)
  (LdK .str ((ad g1).add 1) w5 (fun (x7 : ByteArray) => ifB (x7.toList == (⟨#[]⟩ : ByteArray).toList)
  (LdK .str ((ad g1).add 2) w5 (fun (x8 : ByteArray) => ifB (x8.toList == (⟨#[]⟩ : ByteArray).toList)
  (LdK .str ((ad g1).add 3) w5 (fun (x9 : ByteArray) => ifB (x9.toList == (⟨#[]⟩ : ByteArray).toList)
  (LdK .str ((ad g1).add 4) w5 (fun (x10 : ByteArray) => ifB (x10.toList == (⟨#[]⟩ : ByteArray).toList)
  (LdK (.int .i64) ((ad g1).add 5) w5 (fun (x11 : Int) => ifB (x11 == 0)
  (LdK (.int .i64) ((ad g1).add 6) w5 (fun (x12 : Int) => K (.bool (x12 == 0)) w5))
  (K (.bool false) w5)))
  (K (.bool false) w5)))
  (K (.bool false) w5)))
  (K (.bool false) w5)))
  (K (.bool false) w5)))
  (K (.bool false) w5)))
  (K (.bool false) w5))))
def pl78 : Plan := .auto
theorem e78 (p0 : YZ14) (w : World) (K : Value → World → Prop) : vcFunc Tryz.prog Tryz.f78 pl78 [.agg (LZ14 p0).toArray] w K = C78 p0 w K := by kernel_rfl
theorem c78 (p0 : YZ14) (w : World) (K : Value → World → Prop) (h : C78 p0 w K) : Ret Tryz.prog 78 #[.agg (LZ14 p0).toArray] w K := by
  rw [← e78] at h
  exact vcFunc_sound (by kernel_rfl) Tryz.func78 h

/-- handfast/frame.Check -/
def C38 (p0 : YZ20) (w : World) (K : Value → World → Prop) : Prop :=
  NewK (.cells ((LZ20 p0).toArray) 77) w (fun g1 w2 => JoinK (Bool × Unit) (fun J3 => LdK (.int .i64) ((ad g1).add 0) w2 (fun (x6 : Int) => ifB (x6 != 0)
  (LdK (.int .i64) ((ad g1).add 0) w2 (fun (x7 : Int) => ifB (x7 != 1)
  (J3 (true, ()) w2)
  (LdK (.int .i64) ((ad g1).add 1) w2 (fun (x8 : Int) => CallK Tryz.prog 77 #[.int .i64 x8] w2 (.v (.one .bool)) (fun (x9 : Bool) w10 => ifB (!x9)
  (J3 (true, ()) w10)
  (LdK (.int .i64) ((ad g1).add 2) w10 (fun (x11 : Int) => CallK Tryz.prog 77 #[.int .i64 x11] w10 (.v (.one .bool)) (fun (x12 : Bool) w13 => ifB (!x12)
  (J3 (true, ()) w13)
  (LdK (.int .i64) ((ad g1).add 4) w13 (fun (x14 : Int) => CallK Tryz.prog 77 #[.int .i64 x14] w13 (.v (.one .bool)) (fun (x15 : Bool) w16 => J3 ((!x15), ()) w16)))))))))))
  (LdK (.int .i64) ((ad g1).add 1) w2 (fun (x17 : Int) => CallK Tryz.prog 77 #[.int .i64 x17] w2 (.v (.one .bool)) (fun (x18 : Bool) w19 => ifB (!x18)
  (J3 (true, ()) w19)
  (LdK (.int .i64) ((ad g1).add 2) w19 (fun (x20 : Int) => CallK Tryz.prog 77 #[.int .i64 x20] w19 (.v (.one .bool)) (fun (x21 : Bool) w22 => ifB (!x21)
  (J3 (true, ()) w22)
  (LdK (.int .i64) ((ad g1).add 4) w22 (fun (x23 : Int) => CallK Tryz.prog 77 #[.int .i64 x23] w22 (.v (.one .bool)) (fun (x24 : Bool) w25 => J3 ((!x24), ()) w25)))))))))))
  (fun _ s4 w5 => ifB s4.1
  (K (.int .i64 1) w5)
  (JoinK (Bool × Unit) (fun J26 => LdK (.int .i64) ((ad g1).add 3) w5 (fun (x29 : Int) => ifB (decide (x29 < 1))
  (J26 (true, ()) w5)
  (LdK (.int .i64) ((ad g1).add 3) w5 (fun (x30 : Int) => ifB (decide (x30 > 4))
  (J26 (true, ()) w5)
  (LdK .bool ((ad g1).add 6) w5 (fun (x31 : Bool) => ifB x31
  (LdK (.int .i64) ((ad g1).add 3) w5 (fun (x32 : Int) => ifB (x32 == 1)
  (J26 (true, ()) w5)
  (LdK (.int .i64) ((ad g1).add 3) w5 (fun (x33 : Int) => J26 ((x33 == 3), ()) w5))))
  (J26 (false, ()) w5)))))))
  (fun _ s27 w28 => ifB s27.1
  (K (.int .i64 1) w28)
  (LdK (.int .i64) ((ad g1).add 3) w28 (fun (x34 : Int) => ifB (x34 == 1)
  (LdsK KZ14 ((ad g1).add 7) w28 (fun (x35 : YZ14) => CallK Tryz.prog 31 #[.agg (LZ14 x35).toArray] w28 (.v (.one (.int .i64))) (fun (x36 : Int) w37 => K (.int .i64 x36) w37)))
  (LdsK KZ14 ((ad g1).add 7) w28 (fun (x38 : YZ14) => CallK Tryz.prog 78 #[.agg (LZ14 x38).toArray] w28 (.v (.one .bool)) (fun (x39 : Bool) w40 => ifB (!x39)
  (K (.int .i64 1) w40)
  (K (.int .i64 0) w40))))))))))
def pl38 : Plan := (.seq .auto (.seq (.block (.join [(3, .one .bool)] .auto (.cond .auto (.join [(30, .one .bool)] .auto .auto)))) .auto))
theorem e38 (p0 : YZ20) (w : World) (K : Value → World → Prop) : vcFunc Tryz.prog Tryz.f38 pl38 [.agg (LZ20 p0).toArray] w K = C38 p0 w K := by kernel_rfl
theorem c38 (p0 : YZ20) (w : World) (K : Value → World → Prop) (h : C38 p0 w K) : Ret Tryz.prog 38 #[.agg (LZ20 p0).toArray] w K := by
  rw [← e38] at h
  exact vcFunc_sound (by kernel_rfl) Tryz.func38 h

/-- handfast/frame.flag -/
def C118 (p0 : Bool) (w : World) (K : Value → World → Prop) : Prop :=
  ifB p0
  (K (.int .u8 1) w)
  (K (.int .u8 0) w)
def pl118 : Plan := .auto
theorem e118 (p0 : Bool) (w : World) (K : Value → World → Prop) : vcFunc Tryz.prog Tryz.f118 pl118 [.bool p0] w K = C118 p0 w K := by kernel_rfl
theorem c118 (p0 : Bool) (w : World) (K : Value → World → Prop) (h : C118 p0 w K) : Ret Tryz.prog 118 #[.bool p0] w K := by
  rw [← e118] at h
  exact vcFunc_sound (by kernel_rfl) Tryz.func118 h

/-- handfast/frame.body -/
def C73 (p0 : YZ20) (w : World) (K : Value → World → Prop) : Prop :=
  NewK (.cells ((LZ20 p0).toArray) 77) w (fun g1 w2 => LdsK KZ20 (ad g1) w2 (fun (x3 : YZ20) => CallK Tryz.prog 38 #[.agg (LZ20 x3).toArray] w2 (.v (.one (.int .i64))) (fun (x4 : Int) w5 => ifB (x4 != 0)
  (K (.tuple #[.slice none 0 0, .int .i64 x4]) w5)
  (LdK (.int .i64) ((ad g1).add 0) w5 (fun (x6 : Int) => RunK Tryz.prog (Instr.buildSlice 38 1 #[(0, .int .u8 (IntKind.u8.wrap x6))]) w5 (.v (.one .slc)) (fun (x7 : SlT) w8 => DrewK w8 (fun w9 => HoldK (fun S10 => InK S10 ((ad g1).add 1) (LdK (.int .i64) ((ad g1).add 1) w9 (fun (x11 : Int) => InK S10 ((ad g1).add 2) (LdK (.int .i64) ((ad g1).add 2) w9 (fun (x12 : Int) => CallK Tryz.prog 17 #[.int .i64 x11] w9 (.v (.one .slc)) (fun (x13 : SlT) w14 => KeepK S10 w9 w14 (RunK Tryz.prog (Builtin.append_ #[38, 38] 38 #[.slice x7.1 x7.2.1 x7.2.2, .slice x13.1 x13.2.1 x13.2.2]) w14 (.v (.one .slc)) (fun (x15 : SlT) w16 => KeepK S10 w14 w16 (CallK Tryz.prog 17 #[.int .i64 x12] w16 (.v (.one .slc)) (fun (x17 : SlT) w18 => KeepK S10 w16 w18 (RunK Tryz.prog (Builtin.append_ #[38, 38] 38 #[.slice x15.1 x15.2.1 x15.2.2, .slice x17.1 x17.2.1 x17.2.2]) w18 (.v (.one .slc)) (fun (x19 : SlT) w20 => KeepK S10 w18 w20 (DrewK w20 (fun w21 => HoldK (fun S22 => InK S22 ((ad g1).add 3) (LdK (.int .i64) ((ad g1).add 3) w21 (fun (x23 : Int) => InK S22 ((ad g1).add 4) (LdK (.int .i64) ((ad g1).add 4) w21 (fun (x24 : Int) => KeepK S22 w21 w21 (RunK Tryz.prog (Instr.buildSlice 38 1 #[(0, .int .u8 (IntKind.u8.wrap x23))]) w21 (.v (.one .slc)) (fun (x25 : SlT) w26 => KeepK S22 w21 w26 (RunK Tryz.prog (Builtin.append_ #[38, 38] 38 #[.slice x19.1 x19.2.1 x19.2.2, .slice x25.1 x25.2.1 x25.2.2]) w26 (.v (.one .slc)) (fun (x27 : SlT) w28 => KeepK S22 w26 w28 (CallK Tryz.prog 17 #[.int .i64 x24] w28 (.v (.one .slc)) (fun (x29 : SlT) w30 => KeepK S22 w28 w30 (RunK Tryz.prog (Builtin.append_ #[38, 38] 38 #[.slice x27.1 x27.2.1 x27.2.2, .slice x29.1 x29.2.1 x29.2.2]) w30 (.v (.one .slc)) (fun (x31 : SlT) w32 => KeepK S22 w30 w32 (DrewK w32 (fun w33 => HoldK (fun S34 => InK S34 ((ad g1).add 5) (LdK (.int .u64) ((ad g1).add 5) w33 (fun (x35 : Int) => InK S34 ((ad g1).add 6) (LdK .bool ((ad g1).add 6) w33 (fun (x36 : Bool) => CallK Tryz.prog 34 #[.int .u64 x35] w33 (.v (.one .slc)) (fun (x37 : SlT) w38 => KeepK S34 w33 w38 (RunK Tryz.prog (Builtin.append_ #[38, 38] 38 #[.slice x31.1 x31.2.1 x31.2.2, .slice x37.1 x37.2.1 x37.2.2]) w38 (.v (.one .slc)) (fun (x39 : SlT) w40 => KeepK S34 w38 w40 (CallK Tryz.prog 118 #[.bool x36] w40 (.v (.one (.int .u8))) (fun (x41 : Int) w42 => KeepK S34 w40 w42 (RunK Tryz.prog (Instr.buildSlice 38 1 #[(0, .int .u8 x41)]) w42 (.v (.one .slc)) (fun (x43 : SlT) w44 => KeepK S34 w42 w44 (RunK Tryz.prog (Builtin.append_ #[38, 38] 38 #[.slice x39.1 x39.2.1 x39.2.2, .slice x43.1 x43.2.1 x43.2.2]) w44 (.v (.one .slc)) (fun (x45 : SlT) w46 => KeepK S34 w44 w46 (LdK (.int .i64) ((ad g1).add 3) w46 (fun (x47 : Int) => ifB (x47 != 1)
  (K (.tuple #[.slice x45.1 x45.2.1 x45.2.2, .int .i64 0]) w46)
  (LdsK KZ14 ((ad g1).add 7) w46 (fun (x48 : YZ14) => CallK Tryz.prog 12 #[.agg (LZ14 x48).toArray] w46 (.tup [.one .slc, .one (.int .i64)]) (fun (x49 : SlT × Int × Unit) w50 => ifB (x49.2.1 != 0)
  (K (.tuple #[.slice none 0 0, .int .i64 x49.2.1]) w50)
  (RunK Tryz.prog (Builtin.append_ #[38, 38] 38 #[.slice x45.1 x45.2.1 x45.2.2, .slice x49.1.1 x49.1.2.1 x49.1.2.2]) w50 (.v (.one .slc)) (fun (x51 : SlT) w52 => K (.tuple #[.slice x51.1 x51.2.1 x51.2.2, .int .i64 0]) w52)))))))))))))))))))))))))))))))))))))))))))))))))))))))))
def pl73 : Plan := (.seq .auto (.seq .auto (.seq .auto (.seq (.held (.soft 0 (.soft 1 (.soft 2 (.soft 5 (.soft 6 (.pick 3 (.pick 4 (.pick 7 (.pick 8 (.soft 9 .done) .stop) .stop) .stop) .stop))))))) (.seq (.held (.soft 0 (.soft 1 (.soft 2 (.soft 6 (.soft 7 (.pick 3 (.pick 4 (.pick 5 (.pick 8 (.pick 9 (.soft 10 .done) .stop) .stop) .stop) .stop) .stop))))))) (.seq (.held (.soft 0 (.soft 1 (.soft 2 (.soft 5 (.soft 6 (.pick 3 (.pick 4 (.pick 7 (.pick 8 (.pick 9 (.soft 10 .done) .stop) .stop) .stop) .stop) .stop))))))) .auto))))))
theorem e73 (p0 : YZ20) (w : World) (K : Value → World → Prop) : vcFunc Tryz.prog Tryz.f73 pl73 [.agg (LZ20 p0).toArray] w K = C73 p0 w K := by kernel_rfl
theorem c73 (p0 : YZ20) (w : World) (K : Value → World → Prop) (h : C73 p0 w K) : Ret Tryz.prog 73 #[.agg (LZ20 p0).toArray] w K := by
  rw [← e73] at h
  exact vcFunc_sound (by kernel_rfl) Tryz.func73 h

/-- handfast/frame.Seal -/
def C35 (p0 : List Value) (p1 : YZ20) (w : World) (K : Value → World → Prop) : Prop :=
  NewK (.cells p0.toArray 75) w (fun g1 w2 => NewK (.cells ((LZ20 p1).toArray) 77) w2 (fun g3 w4 => LdsK KZ20 (ad g3) w4 (fun (x5 : YZ20) => CallK Tryz.prog 73 #[.agg (LZ20 x5).toArray] w4 (.tup [.one .slc, .one (.int .i64)]) (fun (x6 : SlT × Int × Unit) w7 => ifB (x6.2.1 != 0)
  (K (.tuple #[.slice none 0 0, .int .i64 x6.2.1]) w7)
  (LdaK 16 (ad g1) w7 (fun x8 => CallK Tryz.prog 36 #[.agg x8.toArray, .slice x6.1.1 x6.1.2.1 x6.1.2.2] w7 (.v (.one (.int .u64))) (fun (x9 : Int) w10 => CallK Tryz.prog 34 #[.int .u64 x9] w10 (.v (.one .slc)) (fun (x11 : SlT) w12 => RunK Tryz.prog (Builtin.append_ #[38, 38] 38 #[.slice x6.1.1 x6.1.2.1 x6.1.2.2, .slice x11.1 x11.2.1 x11.2.2]) w12 (.v (.one .slc)) (fun (x13 : SlT) w14 => K (.tuple #[.slice x13.1 x13.2.1 x13.2.2, .int .i64 0]) w14)))))))))
def pl35 : Plan := .auto
theorem e35 (p0 : List Value) (p1 : YZ20) (w : World) (K : Value → World → Prop) : vcFunc Tryz.prog Tryz.f35 pl35 [.agg p0.toArray, .agg (LZ20 p1).toArray] w K = C35 p0 p1 w K := by kernel_rfl
theorem c35 (p0 : List Value) (p1 : YZ20) (w : World) (K : Value → World → Prop) (h : C35 p0 p1 w K) : Ret Tryz.prog 35 #[.agg p0.toArray, .agg (LZ20 p1).toArray] w K := by
  rw [← e35] at h
  exact vcFunc_sound (by kernel_rfl) Tryz.func35 h

/-- handfast/frame.parse -/
def C84 (p0 : Option Addr) (p0l p0c : Nat) (w : World) (K : Value → World → Prop) : Prop :=
  NewK (.cells #[.int .i64 0, .int .i64 0, .int .i64 0, .int .i64 0, .int .i64 0, .int .u64 0, .bool false, .int .i64 0, .string (⟨#[]⟩ : ByteArray), .string (⟨#[]⟩ : ByteArray), .string (⟨#[]⟩ : ByteArray), .string (⟨#[]⟩ : ByteArray), .int .i64 0, .int .i64 0, .nilIface] 77) w (fun g1 w2 => DrewK w2 (fun w3 => HoldK (fun S4 => IdxK p0 p0l 0 1 (fun a5 => InK S4 a5 (LdK (.int .u8) a5 w3 (fun (x6 : Int) => IdxK p0 p0l 17 1 (fun a7 => InK S4 a7 (LdK (.int .u8) a7 w3 (fun (x8 : Int) => IdxK p0 p0l 34 1 (fun a9 => InK S4 a9 (LdK (.int .u8) a9 w3 (fun (x10 : Int) => NewK (.cells #[.int .i64 0, .int .i64 0, .int .i64 0, .int .i64 0, .int .i64 0, .int .u64 0, .bool false, .int .i64 0, .string (⟨#[]⟩ : ByteArray), .string (⟨#[]⟩ : ByteArray), .string (⟨#[]⟩ : ByteArray), .string (⟨#[]⟩ : ByteArray), .int .i64 0, .int .i64 0, .nilIface] 77) w3 (fun g11 w12 => KeepK S4 w3 w12 (StsK (ad g11) [.int .i64 (IntKind.i64.wrap x6), .int .i64 0, .int .i64 0, .int .i64 (IntKind.i64.wrap x8), .int .i64 0, .int .u64 0, .bool (x10 == 1), .int .i64 0, .string (⟨#[]⟩ : ByteArray), .string (⟨#[]⟩ : ByteArray), .string (⟨#[]⟩ : ByteArray), .string (⟨#[]⟩ : ByteArray), .int .i64 0, .int .i64 0, .nilIface] w12 (fun w13 => KeepK S4 w12 w13 (SubK p0 p0c 1 9 p0c 1 (fun a14 l15 c16 => CallK Tryz.prog 16 #[.slice a14 l15 c16] w13 (.tup [.one (.int .i64), .one .bool]) (fun (x17 : Int × Bool × Unit) w18 => StK ((ad g11).add 1) (.int .i64 x17.1) w18 (fun w19 => SubK p0 p0c 9 17 p0c 1 (fun a20 l21 c22 => CallK Tryz.prog 16 #[.slice a20 l21 c22] w19 (.tup [.one (.int .i64), .one .bool]) (fun (x23 : Int × Bool × Unit) w24 => StK ((ad g11).add 2) (.int .i64 x23.1) w24 (fun w25 => SubK p0 p0c 18 26 p0c 1 (fun a26 l27 c28 => CallK Tryz.prog 16 #[.slice a26 l27 c28] w25 (.tup [.one (.int .i64), .one .bool]) (fun (x29 : Int × Bool × Unit) w30 => StK ((ad g11).add 4) (.int .i64 x29.1) w30 (fun w31 => SubK p0 p0c 26 34 p0c 1 (fun a32 l33 c34 => CallK Tryz.prog 47 #[.slice a32 l33 c34] w31 (.tup [.one (.int .u64), .one .bool]) (fun (x35 : Int × Bool × Unit) w36 => StK ((ad g11).add 5) (.int .u64 x35.1) w36 (fun w37 => LdK (.int .i64) ((ad g11).add 3) w37 (fun (x38 : Int) => ifB (x38 == 1)
  (SubK p0 p0c 35 p0l p0c 1 (fun a39 l40 c41 => CallK Tryz.prog 24 #[.slice a39 l40 c41] w37 (.tup [.agg KZ14, .one (.int .i64)]) (fun (x42 : YZ14 × Int × Unit) w43 => StsK ((ad g11).add 7) [.int .i64 x42.1.1, .string x42.1.2.1, .string x42.1.2.2.1, .string x42.1.2.2.2.1, .string x42.1.2.2.2.2.1, .int .i64 x42.1.2.2.2.2.2.1, .int .i64 x42.1.2.2.2.2.2.2.1, x42.1.2.2.2.2.2.2.2.1] w43 (fun w44 => LdsK KZ20 (ad g11) w44 (fun (x45 : YZ20) => StsK (ad g1) (LZ20 x45) w44 (fun w46 => LdsK KZ20 (ad g1) w46 (fun (x47 : YZ20) => K (.agg (LZ20 x47).toArray) w46)))))))
  (LdsK KZ20 (ad g11) w37 (fun (x48 : YZ20) => StsK (ad g1) (LZ20 x48) w37 (fun w49 => LdsK KZ20 (ad g1) w49 (fun (x50 : YZ20) => K (.agg (LZ20 x50).toArray) w49)))))))))))))))))))))))))))))))))
def pl84 : Plan := (.seq .auto (.seq (.held (.soft 0 (.soft 1 (.soft 2 (.soft 3 (.soft 4 (.soft 5 (.soft 6 (.soft 7 (.soft 8 (.soft 9 (.soft 10 (.soft 11 (.soft 12 (.pick 13 (.pick 14 .done .stop) .stop))))))))))))))) .auto))
theorem e84 (p0 : Option Addr) (p0l p0c : Nat) (w : World) (K : Value → World → Prop) : vcFunc Tryz.prog Tryz.f84 pl84 [.slice p0 p0l p0c] w K = C84 p0 p0l p0c w K := by kernel_rfl
theorem c84 (p0 : Option Addr) (p0l p0c : Nat) (w : World) (K : Value → World → Prop) (h : C84 p0 p0l p0c w K) : Ret Tryz.prog 84 #[.slice p0 p0l p0c] w K := by
  rw [← e84] at h
  exact vcFunc_sound (by kernel_rfl) Tryz.func84 h

/-- handfast/frame.Open -/
def C44 (p0 : List Value) (p1 : Option Addr) (p1l p1c : Nat) (w : World) (K : Value → World → Prop) : Prop :=
  NewK (.cells p0.toArray 75) w (fun g1 w2 => NewK (.cells #[.int .i64 0, .int .i64 0, .int .i64 0, .int .i64 0, .int .i64 0, .int .u64 0, .bool false, .int .i64 0, .string (⟨#[]⟩ : ByteArray), .string (⟨#[]⟩ : ByteArray), .string (⟨#[]⟩ : ByteArray), .string (⟨#[]⟩ : ByteArray), .int .i64 0, .int .i64 0, .nilIface] 77) w2 (fun g3 w4 => ifB (decide ((p1l : Int) < 8))
  (StsK (ad g3) [.int .i64 0, .int .i64 0, .int .i64 0, .int .i64 0, .int .i64 0, .int .u64 0, .bool false, .int .i64 0, .string (⟨#[]⟩ : ByteArray), .string (⟨#[]⟩ : ByteArray), .string (⟨#[]⟩ : ByteArray), .string (⟨#[]⟩ : ByteArray), .int .i64 0, .int .i64 0, .nilIface] w4 (fun w5 => LdsK KZ20 (ad g3) w5 (fun (x6 : YZ20) => K (.tuple #[.agg (LZ20 x6).toArray, .int .i64 2]) w5)))
  (DrewK w4 (fun w7 => SubK p1 p1c 0 (IntKind.i64.wrap ((p1l : Int) - 8)) p1c 1 (fun a8 l9 c10 => SubK p1 p1c (IntKind.i64.wrap ((p1l : Int) - 8)) p1l p1c 1 (fun a11 l12 c13 => LdaK 16 (ad g1) w7 (fun x14 => CallK Tryz.prog 36 #[.agg x14.toArray, .slice a8 l9 c10] w7 (.v (.one (.int .u64))) (fun (x15 : Int) w16 => CallK Tryz.prog 34 #[.int .u64 x15] w16 (.v (.one .slc)) (fun (x17 : SlT) w18 => CallK Tryz.prog 83 #[.slice a11 l12 c13, .slice x17.1 x17.2.1 x17.2.2] w18 (.v (.one .bool)) (fun (x19 : Bool) w20 => ifB (!x19)
  (StsK (ad g3) [.int .i64 0, .int .i64 0, .int .i64 0, .int .i64 0, .int .i64 0, .int .u64 0, .bool false, .int .i64 0, .string (⟨#[]⟩ : ByteArray), .string (⟨#[]⟩ : ByteArray), .string (⟨#[]⟩ : ByteArray), .string (⟨#[]⟩ : ByteArray), .int .i64 0, .int .i64 0, .nilIface] w20 (fun w21 => LdsK KZ20 (ad g3) w21 (fun (x22 : YZ20) => K (.tuple #[.agg (LZ20 x22).toArray, .int .i64 12]) w21)))
  (ifB (decide ((l9 : Int) < 35))
  (StsK (ad g3) [.int .i64 0, .int .i64 0, .int .i64 0, .int .i64 0, .int .i64 0, .int .u64 0, .bool false, .int .i64 0, .string (⟨#[]⟩ : ByteArray), .string (⟨#[]⟩ : ByteArray), .string (⟨#[]⟩ : ByteArray), .string (⟨#[]⟩ : ByteArray), .int .i64 0, .int .i64 0, .nilIface] w20 (fun w23 => LdsK KZ20 (ad g3) w23 (fun (x24 : YZ20) => K (.tuple #[.agg (LZ20 x24).toArray, .int .i64 2]) w23)))
  (CallK Tryz.prog 84 #[.slice a8 l9 c10] w20 (.v (.agg KZ20)) (fun (x25 : YZ20) w26 => NewK (.cells #[.int .i64 0, .int .i64 0, .int .i64 0, .int .i64 0, .int .i64 0, .int .u64 0, .bool false, .int .i64 0, .string (⟨#[]⟩ : ByteArray), .string (⟨#[]⟩ : ByteArray), .string (⟨#[]⟩ : ByteArray), .string (⟨#[]⟩ : ByteArray), .int .i64 0, .int .i64 0, .nilIface] 77) w26 (fun g27 w28 => StsK (ad g27) (LZ20 x25) w28 (fun w29 => LdsK KZ20 (ad g27) w29 (fun (x30 : YZ20) => CallK Tryz.prog 73 #[.agg (LZ20 x30).toArray] w29 (.tup [.one .slc, .one (.int .i64)]) (fun (x31 : SlT × Int × Unit) w32 => ifB (x31.2.1 != 0)
  (StsK (ad g3) [.int .i64 0, .int .i64 0, .int .i64 0, .int .i64 0, .int .i64 0, .int .u64 0, .bool false, .int .i64 0, .string (⟨#[]⟩ : ByteArray), .string (⟨#[]⟩ : ByteArray), .string (⟨#[]⟩ : ByteArray), .string (⟨#[]⟩ : ByteArray), .int .i64 0, .int .i64 0, .nilIface] w32 (fun w33 => LdsK KZ20 (ad g3) w33 (fun (x34 : YZ20) => K (.tuple #[.agg (LZ20 x34).toArray, .int .i64 2]) w33)))
  (CallK Tryz.prog 61 #[.slice x31.1.1 x31.1.2.1 x31.1.2.2, .slice a8 l9 c10] w32 (.v (.one .bool)) (fun (x35 : Bool) w36 => ifB (!x35)
  (StsK (ad g3) [.int .i64 0, .int .i64 0, .int .i64 0, .int .i64 0, .int .i64 0, .int .u64 0, .bool false, .int .i64 0, .string (⟨#[]⟩ : ByteArray), .string (⟨#[]⟩ : ByteArray), .string (⟨#[]⟩ : ByteArray), .string (⟨#[]⟩ : ByteArray), .int .i64 0, .int .i64 0, .nilIface] w36 (fun w37 => LdsK KZ20 (ad g3) w37 (fun (x38 : YZ20) => K (.tuple #[.agg (LZ20 x38).toArray, .int .i64 2]) w37)))
  (LdsK KZ20 (ad g27) w36 (fun (x39 : YZ20) => StsK (ad g3) (LZ20 x39) w36 (fun w40 => LdsK KZ20 (ad g3) w40 (fun (x41 : YZ20) => K (.tuple #[.agg (LZ20 x41).toArray, .int .i64 0]) w40)))))))))))))))))))))))
def pl44 : Plan := (.seq .auto (.seq .auto (.seq .still .auto)))
theorem e44 (p0 : List Value) (p1 : Option Addr) (p1l p1c : Nat) (w : World) (K : Value → World → Prop) : vcFunc Tryz.prog Tryz.f44 pl44 [.agg p0.toArray, .slice p1 p1l p1c] w K = C44 p0 p1 p1l p1c w K := by kernel_rfl
theorem c44 (p0 : List Value) (p1 : Option Addr) (p1l p1c : Nat) (w : World) (K : Value → World → Prop) (h : C44 p0 p1 p1l p1c w K) : Ret Tryz.prog 44 #[.agg p0.toArray, .slice p1 p1l p1c] w K := by
  rw [← e44] at h
  exact vcFunc_sound (by kernel_rfl) Tryz.func44 h

/-- handfast/handfastlaw19.wakes -/
def C37  (w : World) (K : Value → World → Prop) : Prop :=
  CallK Tryz.prog 44 #[.agg #[.int .u8 0, .int .u8 0, .int .u8 0, .int .u8 0, .int .u8 0, .int .u8 0, .int .u8 0, .int .u8 0, .int .u8 0, .int .u8 0, .int .u8 0, .int .u8 0, .int .u8 0, .int .u8 0, .int .u8 0, .int .u8 0], .slice none 0 0] w (.tup [.agg KZ20, .one (.int .i64)]) (fun (x1 : YZ20 × Int × Unit) w2 => NewK (.cells #[.int .i64 0, .int .i64 0, .int .i64 0, .int .i64 0, .int .i64 0, .int .u64 0, .bool false, .int .i64 0, .string (⟨#[]⟩ : ByteArray), .string (⟨#[]⟩ : ByteArray), .string (⟨#[]⟩ : ByteArray), .string (⟨#[]⟩ : ByteArray), .int .i64 0, .int .i64 0, .nilIface] 77) w2 (fun g3 w4 => StsK (ad g3) [.int .i64 x1.1.1, .int .i64 x1.1.2.1, .int .i64 x1.1.2.2.1, .int .i64 x1.1.2.2.2.1, .int .i64 x1.1.2.2.2.2.1, .int .u64 x1.1.2.2.2.2.2.1, .bool x1.1.2.2.2.2.2.2.1, .int .i64 x1.1.2.2.2.2.2.2.2.1, .string x1.1.2.2.2.2.2.2.2.2.1, .string x1.1.2.2.2.2.2.2.2.2.2.1, .string x1.1.2.2.2.2.2.2.2.2.2.2.1, .string x1.1.2.2.2.2.2.2.2.2.2.2.2.1, .int .i64 x1.1.2.2.2.2.2.2.2.2.2.2.2.2.1, .int .i64 x1.1.2.2.2.2.2.2.2.2.2.2.2.2.2.1, x1.1.2.2.2.2.2.2.2.2.2.2.2.2.2.2.1] w4 (fun w5 => CallK Tryz.prog 35 #[.agg #[.int .u8 0, .int .u8 0, .int .u8 0, .int .u8 0, .int .u8 0, .int .u8 0, .int .u8 0, .int .u8 0, .int .u8 0, .int .u8 0, .int .u8 0, .int .u8 0, .int .u8 0, .int .u8 0, .int .u8 0, .int .u8 0], .agg #[.int .i64 0, .int .i64 0, .int .i64 0, .int .i64 3, .int .i64 0, .int .u64 0, .bool false, .int .i64 0, .string (⟨#[]⟩ : ByteArray), .string (⟨#[]⟩ : ByteArray), .string (⟨#[]⟩ : ByteArray), .string (⟨#[]⟩ : ByteArray), .int .i64 0, .int .i64 0, .nilIface]] w5 (.tup [.one .slc, .one (.int .i64)]) (fun (x6 : SlT × Int × Unit) w7 => ifB (x1.2.1 == 2)
  (ifB (x6.2.1 == 0)
  (K (.bool ((x6.1.2.1 : Int) == 43)) w7)
  (K (.bool false) w7))
  (K (.bool false) w7)))))
def pl37 : Plan := .auto
theorem e37  (w : World) (K : Value → World → Prop) : vcFunc Tryz.prog Tryz.f37 pl37 [] w K = C37  w K := by kernel_rfl
theorem c37  (w : World) (K : Value → World → Prop) (h : C37  w K) : Ret Tryz.prog 37 #[] w K := by
  rw [← e37] at h
  exact vcFunc_sound (by kernel_rfl) Tryz.func37 h

end Go.Proofs.YtbadiokobooliaaGreatDoor

/-! ### FrameSpec -/
set_option linter.unusedVariables false
set_option maxRecDepth 100000
namespace Go.Proofs.YtbadiokobooliaaGreatDoor
open Vc

namespace Vc
theorem LdsK.off {cks : List Ck} {b o : Nat} {w : World} {K : Cs cks → Prop} {cs : Array Value} {T : TypeId} {fr : Nat × Nat} {x : Cs cks} (hb : w.heap[b]? = some (.cells cs T fr)) (hx : ∀ j, j < (Cs.vals cks x).length → cs[o + j]? = (Cs.vals cks x)[j]?) (h : K x) : LdsK cks ((⟨b, 0, none⟩ : Addr).add o) w K :=
  ⟨x, cellsAt_shift (m := o) _ 0 (cellsAt_all hb _ o hx), h⟩
end Vc

abbrev FrT := Int × Int × Int × Int × Int × Int × Bool × EvT
abbrev FK : List Ck := [.int .i64, .int .i64, .int .i64, .int .i64, .int .i64, .int .u64, .bool, .int .i64, .str, .str, .str, .str, .int .i64, .int .i64, .raw]
def frE (f : FrT) : EvT := f.2.2.2.2.2.2.2
def frL (f : FrT) : List Value := [.int .i64 f.1, .int .i64 f.2.1, .int .i64 f.2.2.1, .int .i64 f.2.2.2.1, .int .i64 f.2.2.2.2.1, .int .u64 f.2.2.2.2.2.1, .bool f.2.2.2.2.2.2.1, .int .i64 (frE f).1, .string (frE f).2.1, .string (frE f).2.2.1, .string (frE f).2.2.2.1, .string (frE f).2.2.2.2.1, .int .i64 (frE f).2.2.2.2.2.1, .int .i64 (frE f).2.2.2.2.2.2.1, (frE f).2.2.2.2.2.2.2.1]
def frA (f : FrT) : Value := .agg (frL f).toArray
theorem frL_one {f : FrT} (h : one1 (frE f).2.2.2.2.2.2.2.1 = true) : (frL f).all one1 = true := by
  unfold frL
  simp only [List.all_cons, List.all_nil, Bool.and_true, Bool.and_eq_true, h, and_true]
  exact ⟨rfl, rfl, rfl, rfl, rfl, rfl, rfl, rfl, rfl, rfl, rfl, rfl, rfl, rfl⟩

/-! ### Plain -/
def countsF (n : Int) : Bool := decide (0 ≤ n) && decide (n ≤ 2147483647)
def noneF (e : EvT) : Bool := nilT e.2.2.2.2.2.2.2.1 && (e.1 == 0 && (emptyB e.2.1 && (emptyB e.2.2.1 && (emptyB e.2.2.2.1 && (emptyB e.2.2.2.2.1 && (e.2.2.2.2.2.1 == 0 && e.2.2.2.2.2.2.1 == 0))))))
def headF (f : FrT) : Bool := (f.1 == 0 || f.1 == 1) && (countsF f.2.1 && (countsF f.2.2.1 && countsF f.2.2.2.2.1))
def kindF (f : FrT) : Bool := decide (1 ≤ f.2.2.2.1) && (decide (f.2.2.2.1 ≤ 4) && !(f.2.2.2.2.2.2.1 && (f.2.2.2.1 == 1 || f.2.2.2.1 == 3)))
def checkFr (f : FrT) (tr : Int) : Int := if headF f = false then 1 else if kindF f = false then 1 else if f.2.2.2.1 = 1 then checkF (frE f) tr else if noneF (frE f) = false then 1 else 0
def topB (f : FrT) : List UInt8 := UInt8.ofNat (f.1 % 256).toNat :: (numL f.2.1 ++ (numL f.2.2.1 ++ (UInt8.ofNat (f.2.2.2.1 % 256).toNat :: (numL f.2.2.2.2.1 ++ (hedL f.2.2.2.2.2.1 ++ [if f.2.2.2.2.2.2.1 = true then 1 else 0])))))
def bytesFr (f : FrT) (ts : List UInt8) (tr : Int) : List UInt8 × Int := if checkFr f tr ≠ 0 then ([], checkFr f tr) else if f.2.2.2.1 ≠ 1 then (topB f, 0) else (topB f ++ (packF (frE f) ts tr).1, 0)
def sealF (kb : List UInt8) (f : FrT) (ts : List UInt8) (tr : Int) : List UInt8 × Int := if (bytesFr f ts tr).2 ≠ 0 then ([], (bytesFr f ts tr).2) else ((bytesFr f ts tr).1 ++ hedL (sumI kb (bytesFr f ts tr).1), 0)
theorem top_len (f : FrT) : (topB f).length = 35 := by
  unfold topB
  simp only [List.length_cons, List.length_append, numL_len, hed_len, List.length_nil]

/-! ### Walks -/
theorem counts_spec (n : Int) (w : World) : Ret Tryz.prog 77 #[.int .i64 n] w fun r w' => r = .bool (countsF n) ∧ w = w' := by
  refine c77 n w _ ?_
  unfold countsF
  refine ifB.dec (fun h => ?_) (fun h => ?_)
  · rw [decide_eq_true (p := 0 ≤ n) (by omega)]; exact ⟨rfl, rfl⟩
  · rw [decide_eq_false (p := 0 ≤ n) (by omega)]; exact ⟨rfl, rfl⟩
theorem countsK (n : Int) (w : World) {K : Bool → World → Prop} (h : K (countsF n) w) : CallK Tryz.prog 77 #[.int .i64 n] w (.v (.one .bool)) (fun (x : Bool) w' => K x w') := by
  refine CallK.of (counts_spec n w) ?_
  rintro _ _ ⟨rfl, rfl⟩
  exact ⟨_, rfl, h⟩

theorem none_spec (e : EvT) (hT : ifcT e.2.2.2.2.2.2.2.1) (w : World) : Ret Tryz.prog 78 #[evA e] w fun r w' => r = .bool (noneF e) ∧ Fr none1 w w' := by
  refine c78 e w _ ?_
  unfold C78
  refine NewK.of fun g1 w1 hg1 hb1 f1 hs1 => ?_
  unfold noneF
  refine LdK.fld hb1 (x := e.2.2.2.2.2.2.2.1) rfl ?_
  refine ⟨nilT e.2.2.2.2.2.2.2.1, w1, nil_eq ifc_term _ hT w1, ?_⟩
  refine ifB.by (fun q => ?_) (fun q => by rw [q]; exact ⟨rfl, f1⟩)
  rw [q, Bool.true_and]
  refine LdK.fld hb1 (x := e.1) rfl ?_
  refine ifB.by (fun q => ?_) (fun q => by rw [q]; exact ⟨rfl, f1⟩)
  rw [q, Bool.true_and]
  refine LdK.fld hb1 (x := e.2.1) rfl ?_
  refine ifB.by (fun q => ?_) (fun q => by rw [show emptyB e.2.1 = false from q]; exact ⟨rfl, f1⟩)
  rw [show emptyB e.2.1 = true from q, Bool.true_and]
  refine LdK.fld hb1 (x := e.2.2.1) rfl ?_
  refine ifB.by (fun q => ?_) (fun q => by rw [show emptyB e.2.2.1 = false from q]; exact ⟨rfl, f1⟩)
  rw [show emptyB e.2.2.1 = true from q, Bool.true_and]
  refine LdK.fld hb1 (x := e.2.2.2.1) rfl ?_
  refine ifB.by (fun q => ?_) (fun q => by rw [show emptyB e.2.2.2.1 = false from q]; exact ⟨rfl, f1⟩)
  rw [show emptyB e.2.2.2.1 = true from q, Bool.true_and]
  refine LdK.fld hb1 (x := e.2.2.2.2.1) rfl ?_
  refine ifB.by (fun q => ?_) (fun q => by rw [show emptyB e.2.2.2.2.1 = false from q]; exact ⟨rfl, f1⟩)
  rw [show emptyB e.2.2.2.2.1 = true from q, Bool.true_and]
  refine LdK.fld hb1 (x := e.2.2.2.2.2.1) rfl ?_
  refine ifB.by (fun q => ?_) (fun q => by rw [q]; exact ⟨rfl, f1⟩)
  rw [q, Bool.true_and]
  refine LdK.fld hb1 (x := e.2.2.2.2.2.2.1) rfl ?_
  exact ⟨rfl, f1⟩

/-- What write.Term tells of a value. -/
def Wrote (w : World) (x : Value) (ts : List UInt8) (tr : Int) : Prop := ∀ w1, Fr none1 w w1 → Ret Tryz.prog 71 #[x] w1 fun r w' => r = .tuple #[.string (str ts), .int .i64 tr] ∧ Fr none1 w1 w'
theorem Wrote.keep {w w' : World} {x : Value} {ts : List UInt8} {tr : Int} (h : Wrote w x ts tr) (f : Fr none1 w w') : Wrote w' x ts tr := fun w1 f1 => h w1 (f.trans f1)
theorem wrote_tm (t : Tm) (hn : nodesT t ≤ 1000000) {w : World} (ht : TabW w) : Wrote w t.v (writeT t).1 (writeT t).2 := fun w1 f => wterm_spec t hn w1 (ht.keep0 f)

theorem fr_ev {w : World} {g : Nat} {f : FrT} {T : TypeId} (hb : w.heap[g]? = some (.cells (frL f).toArray T (0, 0))) {K : EvT → Prop} (k : K (frE f)) : LdsK EK ((⟨g, 0, none⟩ : Addr).add 7) w K := by
  refine LdsK.off (x := frE f) hb (fun j hj => ?_) k
  match j, hj with
  | 0, _ => rfl
  | 1, _ => rfl
  | 2, _ => rfl
  | 3, _ => rfl
  | 4, _ => rfl
  | 5, _ => rfl
  | 6, _ => rfl
  | 7, _ => rfl
  | j + 8, h => exact absurd h (by show ¬ j + 8 < 8; omega)

theorem fcheck_spec (f : FrT) (hT : ifcT (frE f).2.2.2.2.2.2.2.1) (ts : List UInt8) (tr : Int) (w : World) (ht : Wrote w (frE f).2.2.2.2.2.2.2.1 ts tr) :
    Ret Tryz.prog 38 #[frA f] w fun r w' => r = .int .i64 (checkFr f tr) ∧ Fr none1 w w' := by
  refine c38 f w _ ?_
  unfold C38
  refine NewK.of fun g1 w1 hg1 hb1 f1 hs1 => ?_
  have hb1 : w1.heap[g1]? = some (.cells (frL f).toArray 77 (0, 0)) := hb1
  refine JoinK.of (fun s w' => s.1 = !(headF f) ∧ w1 = w') ?_ ?_
  · have rest : (f.1 == 0 || f.1 == 1) = true → LdK (.int .i64) ((⟨g1, 0, none⟩ : Addr).add 1) w1 (fun (x8 : Int) => CallK Tryz.prog 77 #[.int .i64 x8] w1 (.v (.one .bool)) (fun (x9 : Bool) w10 => ifB (!x9)
        ((true = !(headF f)) ∧ w1 = w10)
        (LdK (.int .i64) ((⟨g1, 0, none⟩ : Addr).add 2) w10 (fun (x11 : Int) => CallK Tryz.prog 77 #[.int .i64 x11] w10 (.v (.one .bool)) (fun (x12 : Bool) w13 => ifB (!x12)
        ((true = !(headF f)) ∧ w1 = w13)
        (LdK (.int .i64) ((⟨g1, 0, none⟩ : Addr).add 4) w13 (fun (x14 : Int) => CallK Tryz.prog 77 #[.int .i64 x14] w13 (.v (.one .bool)) (fun (x15 : Bool) w16 => ((!x15) = !(headF f)) ∧ w1 = w16))))))) ) := fun h0 => by
      unfold headF
      rw [h0, Bool.true_and]
      refine LdK.fld hb1 (x := f.2.1) rfl (countsK _ _ (ifB.not (ifB.by (fun q => ?_) (fun q => by rw [q]; exact ⟨rfl, rfl⟩))))
      rw [q, Bool.true_and]
      refine LdK.fld hb1 (x := f.2.2.1) rfl (countsK _ _ (ifB.not (ifB.by (fun q => ?_) (fun q => by rw [q]; exact ⟨rfl, rfl⟩))))
      rw [q, Bool.true_and]
      exact LdK.fld hb1 (x := f.2.2.2.2.1) rfl (countsK _ _ ⟨rfl, rfl⟩)
    refine LdK.fld hb1 (x := f.1) rfl ?_
    refine ifB.ne (fun h => ?_) (fun h => rest (by rw [h]; rfl))
    refine LdK.fld hb1 (x := f.1) rfl ?_
    refine ifB.ne (fun h' => ?_) (fun h' => rest (by rw [h']; rfl))
    refine ⟨?_, rfl⟩
    unfold headF
    rw [beq_false_of_ne h, beq_false_of_ne h']; rfl
  rintro _ ⟨s, _⟩ _ ⟨hs, rfl⟩
  dsimp only at hs ⊢
  subst hs
  unfold checkFr
  refine ifB.by (fun q => ?_) (fun q => ?_)
  · rw [if_pos (by simpa using q)]; exact ⟨rfl, f1⟩
  rw [if_neg (by simpa using q)]
  refine JoinK.of (fun s w' => s.1 = !(kindF f) ∧ w1 = w') ?_ ?_
  · unfold kindF
    refine LdK.fld hb1 (x := f.2.2.2.1) rfl ?_
    refine ifB.dec (fun h => ?_) (fun h => ?_)
    · rw [decide_eq_false (p := 1 ≤ f.2.2.2.1) (by omega)]; exact ⟨rfl, rfl⟩
    rw [decide_eq_true (p := 1 ≤ f.2.2.2.1) (by omega), Bool.true_and]
    refine LdK.fld hb1 (x := f.2.2.2.1) rfl ?_
    refine ifB.dec (fun h => ?_) (fun h => ?_)
    · rw [decide_eq_false (p := f.2.2.2.1 ≤ 4) (by omega)]; exact ⟨rfl, rfl⟩
    rw [decide_eq_true (p := f.2.2.2.1 ≤ 4) (by omega), Bool.true_and, Bool.not_not]
    refine LdK.fld hb1 (x := f.2.2.2.2.2.2.1) rfl ?_
    refine ifB.by (fun q => ?_) (fun q => by rw [q]; exact ⟨rfl, rfl⟩)
    rw [q, Bool.true_and]
    refine LdK.fld hb1 (x := f.2.2.2.1) rfl ?_
    refine ifB.by (fun q => by rw [q]; exact ⟨rfl, rfl⟩) (fun q => ?_)
    rw [q, Bool.false_or]
    exact LdK.fld hb1 (x := f.2.2.2.1) rfl ⟨rfl, rfl⟩
  rintro _ ⟨s, _⟩ _ ⟨hs, rfl⟩
  dsimp only at hs ⊢
  subst hs
  refine ifB.by (fun q => ?_) (fun q => ?_)
  · rw [if_pos (by simpa using q)]; exact ⟨rfl, f1⟩
  rw [if_neg (by simpa using q)]
  refine LdK.fld hb1 (x := f.2.2.2.1) rfl ?_
  refine ifB.eq (fun h => ?_) (fun h => ?_)
  · rw [if_pos h]
    refine fr_ev hb1 ?_
    refine CallK.of (check_spec (frE f) hT tr w1 fun _ w2 f2 => (ht w2 (f1.trans f2)).mono fun r w' ⟨h, f⟩ => ⟨⟨_, h⟩, f⟩) ?_
    rintro _ w2 ⟨rfl, f2⟩
    exact ⟨_, rfl, rfl, f1.trans f2⟩
  · rw [if_neg h]
    refine fr_ev hb1 ?_
    refine CallK.of (none_spec (frE f) hT w1) ?_
    rintro _ w2 ⟨rfl, f2⟩
    refine ⟨_, rfl, ifB.not (ifB.by (fun q => ?_) (fun q => ?_))⟩
    · rw [if_neg (by rw [q]; decide)]; exact ⟨rfl, f1.trans f2⟩
    · rw [if_pos q]; exact ⟨rfl, f1.trans f2⟩

theorem flagK (b : Bool) (w : World) {K : Int → World → Prop} (h : ∀ n : Int, Value.int .u8 n = bc (if b = true then 1 else 0) → K n w) : CallK Tryz.prog 118 #[.bool b] w (.v (.one (.int .u8))) (fun (x : Int) w' => K x w') := by
  refine CallK.of (R := fun r w' => r = .int .u8 (if b = true then 1 else 0) ∧ w = w') ?_ ?_
  · refine c118 b w _ ?_
    unfold C118
    cases b
    · exact ifB.f rfl ⟨rfl, rfl⟩
    · exact ifB.t rfl ⟨rfl, rfl⟩
  · rintro _ _ ⟨rfl, rfl⟩
    exact ⟨_, rfl, h _ (by cases b <;> rfl)⟩

/-- Bytes put behind bytes of one's own. -/
structure Own (w0 w : World) (v : Sl) (bs : List UInt8) : Prop where
  is : IsB w v bs
  lo : ∀ k, blkOf v k → w0.heap.size ≤ k
theorem Own.keep0 {w0 w w' : World} {v : Sl} {bs : List UInt8} (h : Own w0 w v bs) (f : Fr none1 w w') : Own w0 w' v bs := ⟨h.is.keep0 f, h.lo⟩
theorem Own.app {w0 w : World} {x : Sl} {xs : List UInt8} (hx : Own w0 w x xs) (h0 : w0.heap.size ≤ w.heap.size) {y : Sl} {ys : List UInt8} (hy : RdB w y ys) (hl : xs.length + ys.length ≤ 140737488355000) {K : (Option Addr × Nat × Nat) → World → Prop}
    (k : ∀ (u : Sl) w', Own w0 w' u (xs ++ ys) → Fr (blkOf x) w w' → K u w') :
    RunK Tryz.prog (Builtin.append_ #[38, 38] 38 #[.slice x.1 x.2.1 x.2.2, .slice y.1 y.2.1 y.2.2]) w (.v (.one .slc)) (fun (u : Option Addr × Nat × Nat) w' => K u w') := by
  obtain ⟨u, w', hr, hu, f, uf⟩ := append_bytes hx.is hy hl
  refine ⟨u, w', hr, k u w' ⟨hu, fun j hj => ?_⟩ f⟩
  rcases uf j hj with t | t
  · exact hx.lo j t
  · omega
theorem lit1 {w : World} (c : UInt8) {K : (Option Addr × Nat × Nat) → World → Prop} (k : ∀ (u : Sl) w', IsB w' u [c] → Fr none1 w w' → (∀ j, blkOf u j → w.heap.size ≤ j) → K u w') :
    RunK Tryz.prog (Instr.buildSlice 38 1 #[(0, bc c)]) w (.v (.one .slc)) (fun (u : Option Addr × Nat × Nat) w' => K u w') := by
  obtain ⟨x, w', hr, hx, _, f, xf⟩ := lit_ok (P := Tryz.prog) (w := w) elem_byte [bc c] (by simp [bc, Value.cells]) (by simp)
  exact ⟨x, w', hr, k x w' hx f xf⟩
theorem pnumK (n : Int) (w : World) {K : (Option Addr × Nat × Nat) → World → Prop} (k : ∀ u w', IsB w' u (numL n) → Fr none1 w w' → K u w') : CallK Tryz.prog 17 #[.int .i64 n] w (.v (.one .slc)) (fun (x : Option Addr × Nat × Nat) w' => K x w') := by
  refine CallK.of (pnum_spec n w) ?_
  rintro _ w1 ⟨u, rfl, hu, f1, uf⟩
  exact ⟨u, rfl, k u w1 hu f1⟩
theorem hedK (n : Int) (h0 : 0 ≤ n) (h1 : n < 18446744073709551616) (w : World) {K : (Option Addr × Nat × Nat) → World → Prop} (k : ∀ u w', IsB w' u (hedL n) → Fr none1 w w' → K u w') : CallK Tryz.prog 34 #[.int .u64 n] w (.v (.one .slc)) (fun (x : Option Addr × Nat × Nat) w' => K x w') := by
  refine CallK.of (sbytes_spec n h0 h1 w) ?_
  rintro _ w1 ⟨u, rfl, hu, f1, uf⟩
  exact ⟨u, rfl, k u w1 hu f1⟩
theorem byteK (n : Int) : Value.int .u8 (IntKind.u8.wrap n) = bc (UInt8.ofNat (n % 256).toNat) := by
  unfold bc
  have h0 : 0 ≤ n % 256 := Int.emod_nonneg _ (by decide)
  have h1 : n % 256 < 256 := Int.emod_lt_of_pos _ (by decide)
  rw [u8_nat (by omega)]
  congr 1
  simp [IntKind.wrap, IntKind.signed, IntKind.bits]
  omega

theorem body_spec (f : FrT) (hT : ifcT (frE f).2.2.2.2.2.2.2.1) (hz : smallE (frE f)) (hh : 0 ≤ f.2.2.2.2.2.1 ∧ f.2.2.2.2.2.1 < 18446744073709551616) (ts : List UInt8) (hts : ts.length ≤ 1000000) (tr : Int) (w : World) (ht : Wrote w (frE f).2.2.2.2.2.2.2.1 ts tr) :
    Ret Tryz.prog 73 #[frA f] w fun r w' => ∃ v : Sl, r = .tuple #[.slice v.1 v.2.1 v.2.2, .int .i64 (bytesFr f ts tr).2] ∧ Own w w' v (bytesFr f ts tr).1 ∧ Fr none1 w w' := by
  refine c73 f w _ ?_
  unfold C73
  refine NewK.of fun g1 w1 hg1 hb1 f1 hs1 => ?_
  have hb1 : w1.heap[g1]? = some (.cells (frL f).toArray 77 (0, 0)) := hb1
  refine LdsK.blk (cks := FK) (x := f) hb1 ?_
  refine CallK.of (fcheck_spec f hT ts tr w1 (ht.keep f1)) ?_
  rintro _ w2 ⟨rfl, f2⟩
  refine ⟨_, rfl, ?_⟩
  have nob : ∀ k, ¬ blkOf ((none, 0, 0) : Sl) k := fun k ⟨a, ha, _⟩ => by cases ha
  unfold bytesFr
  refine ifB.ne (fun hne => ?_) (fun he => ?_)
  · rw [if_pos hne]
    exact ⟨(none, 0, 0), rfl, ⟨none_b w2, fun k hk => (nob k hk).elim⟩, f1.trans f2⟩
  rw [if_neg (fun t => t he)]
  have b2 := f2.keep0 hb1
  have F := f1.trans f2
  refine LdK.fld b2 (x := f.1) rfl ?_
  rw [byteK]
  refine lit1 _ fun x w3 hx f3 xf => ?_
  have h0 := F.size
  have F := F.trans f3
  have hx : Own w1 w3 x [UInt8.ofNat (f.1 % 256).toNat] := ⟨hx, fun k hk => by have := xf k hk; have := f2.size; omega⟩
  have b3 := f3.keep0 b2
  have hg : w.heap.size ≤ g1 := by omega
  have own : ∀ {wa : World} {v : Sl} {bs : List UInt8}, Own w1 wa v bs → ∀ k, blkOf v k → k ≠ g1 ∧ w.heap.size ≤ k := fun h k hk => by have := h.lo k hk; omega
  have q1 : ∀ {wa : World}, Fr none1 w wa → w1.heap.size ≤ wa.heap.size → ∀ {v : Sl} {bs : List UInt8}, Own w1 wa v bs → ∀ {wb : World}, Fr (blkOf v) wa wb → Fr none1 w wb := fun F _ _ _ h _ f => F.comp f fun k hk t => by have := (own h k t).2; omega
  have s13 : w1.heap.size ≤ w3.heap.size := by have := f2.size; have := f3.size; omega
  refine DrewK.of fun w4 _ f4 => HoldK.of (fun k => k = g1) (inG rfl (LdK.fld (f4.keep0 b3) (x := f.2.1) rfl (inG rfl (LdK.fld (f4.keep0 b3) (x := f.2.2.1) rfl ?_))))
  refine pnumK _ w4 fun n1 w5 hn1 f5 => KeepK.of f5 ?_
  have f35 := f4.trans f5
  have hx := hx.keep0 f35
  have b5 := f35.keep0 b3
  have F := F.trans f35
  have s15 : w1.heap.size ≤ w5.heap.size := by have := f35.size; omega
  refine hx.app s15 hn1.rd (by rw [numL_len]; simp only [List.length_singleton]; omega) fun y w6 hy f6 => KeepK.on f6 (fun k hk t => (own hx k t).1 hk) ?_
  have b6 := f6.keep b5 (fun t => (own hx _ t).1 rfl)
  have F := q1 F s15 hx f6
  have s16 : w1.heap.size ≤ w6.heap.size := by have := f6.size; omega
  clear hx b5 f35 f4 f5 hn1 b3 f6
  refine pnumK _ w6 fun n2 w7 hn2 f7 => KeepK.of f7 ?_
  have hy := hy.keep0 f7
  have b7 := f7.keep0 b6
  have F := F.trans f7
  have s17 : w1.heap.size ≤ w7.heap.size := by have := f7.size; omega
  refine hy.app s17 hn2.rd (by rw [numL_len, List.length_append, numL_len, List.length_singleton]; decide) fun z w8 hzz f8 => KeepK.on f8 (fun k hk t => (own hy k t).1 hk) ?_
  have b8 := f8.keep b7 (fun t => (own hy _ t).1 rfl)
  have F := q1 F s17 hy f8
  have s18 : w1.heap.size ≤ w8.heap.size := by have := f8.size; omega
  clear hy b7 f7 hn2 b6 f8
  refine DrewK.of fun w9 _ f9 => HoldK.of (fun k => k = g1) (inG rfl (LdK.fld (f9.keep0 b8) (x := f.2.2.2.1) rfl (inG rfl (LdK.fld (f9.keep0 b8) (x := f.2.2.2.2.1) rfl (KeepK.same ?_)))))
  rw [byteK]
  refine lit1 _ fun x2 w10 hx2 f10 x2f => KeepK.of f10 ?_
  have f810 := f9.trans f10
  have hzz := hzz.keep0 f810
  have b10 := f810.keep0 b8
  have F := F.trans f810
  have s110 : w1.heap.size ≤ w10.heap.size := by have := f810.size; omega
  refine hzz.app s110 hx2.rd (by simp only [List.length_append, numL_len, List.length_singleton]; decide) fun u w11 hu f11 => KeepK.on f11 (fun k hk t => (own hzz k t).1 hk) ?_
  have b11 := f11.keep b10 (fun t => (own hzz _ t).1 rfl)
  have F := q1 F s110 hzz f11
  have s111 : w1.heap.size ≤ w11.heap.size := by have := f11.size; omega
  clear hzz b10 f810 hx2 x2f b8 f11 f9 f10
  refine pnumK _ w11 fun n3 w12 hn3 f12 => KeepK.of f12 ?_
  have hu := hu.keep0 f12
  have b12 := f12.keep0 b11
  have F := F.trans f12
  have s112 : w1.heap.size ≤ w12.heap.size := by have := f12.size; omega
  refine hu.app s112 hn3.rd (by simp only [List.length_append, numL_len, List.length_singleton]; decide) fun v w13 hv f13 => KeepK.on f13 (fun k hk t => (own hu k t).1 hk) ?_
  have b13 := f13.keep b12 (fun t => (own hu _ t).1 rfl)
  have F := q1 F s112 hu f13
  have s113 : w1.heap.size ≤ w13.heap.size := by have := f13.size; omega
  clear hu b12 f12 hn3 b11 f13
  refine DrewK.of fun w14 _ f14 => HoldK.of (fun k => k = g1) (inG rfl (LdK.fld (f14.keep0 b13) (x := f.2.2.2.2.2.1) rfl (inG rfl (LdK.fld (f14.keep0 b13) (x := f.2.2.2.2.2.2.1) rfl ?_))))
  refine hedK _ hh.1 hh.2 w14 fun n4 w15 hn4 f15 => KeepK.of f15 ?_
  have f1315 := f14.trans f15
  have hv := hv.keep0 f1315
  have b15 := f1315.keep0 b13
  have F := F.trans f1315
  have s115 : w1.heap.size ≤ w15.heap.size := by have := f1315.size; omega
  refine hv.app s115 hn4.rd (by simp only [List.length_append, numL_len, hed_len, List.length_singleton]; decide) fun p w16 hp f16 => KeepK.on f16 (fun k hk t => (own hv k t).1 hk) ?_
  have b16 := f16.keep b15 (fun t => (own hv _ t).1 rfl)
  have F := q1 F s115 hv f16
  have s116 : w1.heap.size ≤ w16.heap.size := by have := f16.size; omega
  clear hv b15 f1315 hn4 b13 f16 f14 f15
  refine flagK _ w16 fun n hn => KeepK.same ?_
  rw [hn]
  refine lit1 _ fun x3 w17 hx3 f17 x3f => KeepK.of f17 ?_
  have hp := hp.keep0 f17
  have b17 := f17.keep0 b16
  have F := F.trans f17
  have s117 : w1.heap.size ≤ w17.heap.size := by have := f17.size; omega
  refine hp.app s117 hx3.rd (by simp only [List.length_append, numL_len, hed_len, List.length_singleton]; decide) fun r w18 hr f18 => KeepK.on f18 (fun k hk t => (own hp k t).1 hk) ?_
  have b18 := f18.keep b17 (fun t => (own hp _ t).1 rfl)
  have F := q1 F s117 hp f18
  have s118 : w1.heap.size ≤ w18.heap.size := by have := f18.size; omega
  clear hp b17 f17 hx3 x3f b16 f18
  have htop : ([UInt8.ofNat (f.1 % 256).toNat] ++ numL f.2.1 ++ numL f.2.2.1 ++ [UInt8.ofNat (f.2.2.2.1 % 256).toNat] ++ numL f.2.2.2.2.1 ++ hedL f.2.2.2.2.2.1 ++ [if f.2.2.2.2.2.2.1 = true then 1 else 0]) = topB f := by
    unfold topB; simp only [List.append_assoc, List.cons_append, List.nil_append]
  rw [htop] at hr
  have htl := top_len f
  have up : ∀ {wa : World} {v : Sl} {bs : List UInt8}, Own w1 wa v bs → Own w wa v bs := fun h => ⟨h.is, fun k hk => (own h k hk).2⟩
  refine LdK.fld b18 (x := f.2.2.2.1) rfl ?_
  refine ifB.ne (fun hne => ?_) (fun hk1 => ?_)
  · rw [if_pos hne]
    exact ⟨r, rfl, up hr, F⟩
  rw [if_neg (fun t => t hk1)]
  have hev : (packF (frE f) ts tr).2 = 0 := by
    unfold checkFr at he
    split at he
    · cases he
    split at he
    · cases he
    first | rw [if_pos hk1] at he | skip
    unfold packF; rw [if_neg (fun t => t he)]
  refine fr_ev b18 ?_
  refine CallK.of (event_spec (frE f) hT hz ts hts tr w18 fun _ wa fa => ht wa (F.trans fa)) ?_
  rintro _ w19 ⟨q, rfl, hq, f19, qf⟩
  refine ⟨(q, (packF (frE f) ts tr).2, ()), rfl, ?_⟩
  dsimp only
  refine ifB.f (by rw [hev]; rfl) ?_
  have hpl := packF_len (frE f) hz ts hts tr
  refine (hr.keep0 f19).app (by have := f19.size; omega) hq.rd (by omega) fun o w20 ho f20 => ?_
  exact ⟨o, rfl, up ho, q1 (F.trans f19) (by have := f19.size; omega) (hr.keep0 f19) f20⟩

theorem seal_spec (kb : List UInt8) (hk : kb.length = 16) (f : FrT) (hT : ifcT (frE f).2.2.2.2.2.2.2.1) (hz : smallE (frE f)) (hh : 0 ≤ f.2.2.2.2.2.1 ∧ f.2.2.2.2.2.1 < 18446744073709551616) (ts : List UInt8) (hts : ts.length ≤ 1000000) (tr : Int) (w : World) (ht : Wrote w (frE f).2.2.2.2.2.2.2.1 ts tr) :
    Ret Tryz.prog 35 #[.agg (keyL kb).toArray, frA f] w fun r w' => ∃ v : Sl, r = .tuple #[.slice v.1 v.2.1 v.2.2, .int .i64 (sealF kb f ts tr).2] ∧ Own w w' v (sealF kb f ts tr).1 ∧ Fr none1 w w' := by
  refine c35 (keyL kb) f w _ ?_
  unfold C35
  refine NewK.of fun g0 w0 hg0 hb0 f0 _ => NewK.of fun g1 w1 hg1 hb1 f1 hs1 => ?_
  have hb1 : w1.heap[g1]? = some (.cells (frL f).toArray 77 (0, 0)) := hb1
  have f01 := f0.trans f1
  refine LdsK.blk (cks := FK) (x := f) hb1 ?_
  refine CallK.of (body_spec f hT hz hh ts hts tr w1 (ht.keep f01)) ?_
  rintro _ w2 ⟨v, rfl, hv, f2⟩
  refine ⟨(v, (bytesFr f ts tr).2, ()), rfl, ?_⟩
  have F := f01.trans f2
  have hbl : (bytesFr f ts tr).1.length ≤ 10000035 := by
    have := packF_len (frE f) hz ts hts tr
    have := top_len f
    unfold bytesFr
    split
    · simp
    split
    · dsimp only; omega
    · dsimp only; rw [List.length_append]; omega
  unfold sealF
  dsimp only
  have s01 := f01.size
  refine ifB.ne (fun hne => ?_) (fun he => ?_)
  · rw [if_pos hne]
    exact ⟨(none, 0, 0), rfl, ⟨none_b w2, fun k ⟨a, ha, _⟩ => by cases ha⟩, F⟩
  rw [if_neg (fun t => t he)]
  generalize (bytesFr f ts tr).1 = bs at *
  refine LdaK.of (f2.keep0 (f1.keep0 hb0)) (by simp [keyL, hk]) ?_
  refine CallK.of (sip_spec hk hv.is.rd hv.is.cap (by omega)) ?_
  rintro _ w3 ⟨rfl, f3⟩
  refine ⟨_, rfl, ?_⟩
  have hr := sum_rng kb bs
  refine hedK _ hr.1 hr.2 w3 fun u w4 hu f4 => ?_
  have f24 := f3.trans f4
  have s24 := f24.size; have s2 := f2.size
  refine (hv.keep0 f24).app (by omega) hu.rd (by rw [hed_len]; omega) fun o w5 ho f5 => ?_
  exact ⟨o, rfl, ⟨ho.is, fun k hk => by have := ho.lo k hk; omega⟩, (F.trans f24).comp f5 fun k hk t => by have := hv.lo k t; omega⟩

end Go.Proofs.YtbadiokobooliaaGreatDoor

/-! ### FrameF -/
set_option linter.unusedVariables false
set_option maxRecDepth 100000
namespace Go.Proofs.YtbadiokobooliaaGreatDoor
open Vc

/-- A frame, its event's contract as a tree. -/
abbrev FrM := Int × Int × Int × Int × Int × Int × Bool × EvM
def FrM.f (m : FrM) : FrT := (m.1, m.2.1, m.2.2.1, m.2.2.2.1, m.2.2.2.2.1, m.2.2.2.2.2.1, m.2.2.2.2.2.2.1, m.2.2.2.2.2.2.2.e)
def FrM.m (m : FrM) : EvM := m.2.2.2.2.2.2.2
def zeroFr : FrM := (0, 0, 0, 0, 0, 0, false, zeroM)
def bytesM (m : FrM) : List UInt8 × Int := bytesFr m.f (writeT m.m.t).1 (writeT m.m.t).2
def sealM (kb : List UInt8) (m : FrM) : List UInt8 × Int := sealF kb m.f (writeT m.m.t).1 (writeT m.m.t).2
def partL (bs : List UInt8) (a b : Nat) : List UInt8 := (bs.drop a).take (b - a)
def parseF (bs : List UInt8) : FrM :=
  (((bs.getD 0 0).toNat : Int), (takeL (partL bs 1 9)).1, (takeL (partL bs 9 17)).1, ((bs.getD 17 0).toNat : Int), (takeL (partL bs 18 26)).1, (lowL (partL bs 26 34) : Int), (bs.getD 34 0).toNat == 1,
    if (bs.getD 17 0).toNat = 1 then (takeP false (bs.drop 35)).1 else zeroM)
def textL (bs : List UInt8) : List UInt8 := bs.take (bs.length - 8)
def tailL (bs : List UInt8) : List UInt8 := bs.drop (bs.length - 8)
/-- The frame of bytes, or what is wrong with them. -/
def openF (kb bs : List UInt8) : FrM × Int :=
  if bs.length < 8 then (zeroFr, 2) else if tailL bs ≠ hedL (sumI kb (textL bs)) then (zeroFr, 12) else if (textL bs).length < 35 then (zeroFr, 2)
  else if (bytesM (parseF (textL bs))).2 ≠ 0 ∨ (bytesM (parseF (textL bs))).1 ≠ textL bs then (zeroFr, 2) else (parseF (textL bs), 0)

end Go.Proofs.YtbadiokobooliaaGreatDoor

/-! ### FrameSpec2 -/
set_option linter.unusedVariables false
set_option maxRecDepth 100000
namespace Go.Proofs.YtbadiokobooliaaGreatDoor
open Vc

theorem frM_one (m : FrM) : (frL m.f).all one1 = true := frL_one (Tm.v_one _)

theorem parse_spec {w : World} {v : Sl} {bs : List UInt8} (h : RdB w v bs) (hc : v.2.1 ≤ v.2.2) (hl : 35 ≤ bs.length) (ht : TabW w) : Ret Tryz.prog 84 #[.slice v.1 v.2.1 v.2.2] w fun r w' => r = frA (parseF bs).f ∧ Fr none1 w w' := by
  refine c84 v.1 v.2.1 v.2.2 w _ ?_
  unfold C84
  have hvl := h.len
  refine NewK.of fun g1 w1 hg1 hb1 f1 hs1 => ?_
  have hb1 : w1.heap[g1]? = some (.cells (frL zeroFr.f).toArray 77 (0, 0)) := hb1
  refine DrewK.of fun w2 _ f2 => HoldK.of (fun k => k < w.heap.size) ?_
  have f12 := f1.trans f2
  have h2 := h.keep0 f12
  have hne : bs ≠ [] := fun t => by rw [t] at hl; simp at hl
  have hS : ∀ a, v.1 = some a → (fun k => k < w.heap.size) a.block := fun a ha => h.ltE hne ⟨a, ha, rfl⟩
  refine IdxK.ink hS (RdB.at h2 (by decide) (by omega) (IdxK.ink hS (RdB.at h2 (by decide) (by omega) (IdxK.ink hS (RdB.at h2 (by decide) (by omega) ?_)))))
  rw [show Int.toNat 0 = 0 by rfl, show Int.toNat 17 = 17 by rfl, show Int.toNat 34 = 34 by rfl]
  have b0 := (bs.getD 0 0).toNat_lt
  have b17 := (bs.getD 17 0).toNat_lt
  rw [wI (x := ((bs.getD 0 0).toNat : Int)) (by omega) (by omega), wI (x := ((bs.getD 17 0).toNat : Int)) (by omega) (by omega)]
  have s12 := f12.size
  refine NewK.of fun g w3 hg hb3 f3 hs3 => KeepK.of f3 ?_
  obtain ⟨fl, hfl⟩ : ∃ fl, fl = (((bs.getD 34 0).toNat : Int) == 1) := ⟨_, rfl⟩
  rw [← hfl]
  obtain ⟨X, hX⟩ : ∃ X : FrM, X = (((bs.getD 0 0).toNat : Int), 0, 0, ((bs.getD 17 0).toNat : Int), 0, 0, fl, zeroM) := ⟨_, rfl⟩
  refine StsK.blk (cs := frL zeroFr.f) (vs := frL (EvM.e zeroM |> fun e => ((((bs.getD 0 0).toNat : Int), 0, 0, ((bs.getD 17 0).toNat : Int), 0, 0, fl, e) : FrT))) hb3 rfl (frL_one rfl) fun w4 hb4 f4 hs4 => KeepK.on f4 (fun k hk t => by have : k = g := t; omega) ?_
  have F4 : Fr none1 w w4 := (f12.trans f3).fresh f4 (by omega)
  have g14 := f4.keep (f3.keep0 (f2.keep0 hb1)) (fun t => by have : g1 = g := t; have := lt_of_blk hb1; have := f2.size; omega)
  have h4 := h.keep0 F4
  refine RdB.mid h4 (by decide) (by decide) (by omega) hc fun u1 hu1 _ _ _ => ?_
  refine CallK.of (ptake_spec hu1) ?_
  rintro _ _ ⟨rfl, rfl⟩
  refine ⟨((takeL (partL bs 1 9)).1, (takeL (partL bs 1 9)).2, ()), rfl, ?_⟩
  refine StK.fld hb4 (by show 0 + 1 < 15; omega) rfl fun w5 hb5 f5 _ => ?_
  have F5 : Fr none1 w w5 := F4.fresh f5 (by omega)
  have h5 := h.keep0 F5
  have g15 := f5.keep g14 (fun t => by have : g1 = g := t; have := lt_of_blk hb1; have := f2.size; omega)
  refine RdB.mid h5 (by decide) (by decide) (by omega) hc fun u2 hu2 _ _ _ => ?_
  refine CallK.of (ptake_spec hu2) ?_
  rintro _ _ ⟨rfl, rfl⟩
  refine ⟨((takeL (partL bs 9 17)).1, (takeL (partL bs 9 17)).2, ()), rfl, ?_⟩
  refine StK.fld hb5 (by show 0 + 2 < 15; omega) rfl fun w6 hb6 f6 _ => ?_
  have F6 : Fr none1 w w6 := F5.fresh f6 (by omega)
  have h6 := h.keep0 F6
  have g16 := f6.keep g15 (fun t => by have : g1 = g := t; have := lt_of_blk hb1; have := f2.size; omega)
  refine RdB.mid h6 (by decide) (by decide) (by omega) hc fun u3 hu3 _ _ _ => ?_
  refine CallK.of (ptake_spec hu3) ?_
  rintro _ _ ⟨rfl, rfl⟩
  refine ⟨((takeL (partL bs 18 26)).1, (takeL (partL bs 18 26)).2, ()), rfl, ?_⟩
  refine StK.fld hb6 (by show 0 + 4 < 15; omega) rfl fun w7 hb7 f7 _ => ?_
  have F7 : Fr none1 w w7 := F6.fresh f7 (by omega)
  have h7 := h.keep0 F7
  have g17 := f7.keep g16 (fun t => by have : g1 = g := t; have := lt_of_blk hb1; have := f2.size; omega)
  refine RdB.mid h7 (by decide) (by decide) (by omega) hc fun u4 hu4 _ _ _ => ?_
  have hp8 : (partL bs 26 34).length = 8 := by unfold partL; rw [List.length_take, List.length_drop]; omega
  have hu4 : RdB w7 u4 (partL bs 26 34) := hu4
  refine CallK.of (snumber_spec hu4) ?_
  rintro _ _ ⟨rfl, rfl⟩
  rw [if_pos hp8]
  refine ⟨((lowL (partL bs 26 34) : Int), decide ((partL bs 26 34).length = 8), ()), rfl, ?_⟩
  refine StK.fld hb7 (by show 0 + 5 < 15; omega) rfl fun w8 hb8 f8 _ => ?_
  have F8 : Fr none1 w w8 := F7.fresh f8 (by omega)
  have h8 := h.keep0 F8
  have g18 := f8.keep g17 (fun t => by have : g1 = g := t; have := lt_of_blk hb1; have := f2.size; omega)
  have hb8 : w8.heap[g]? = some (.cells (frL (FrM.f (((bs.getD 0 0).toNat : Int), (takeL (partL bs 1 9)).1, (takeL (partL bs 9 17)).1, ((bs.getD 17 0).toNat : Int), (takeL (partL bs 18 26)).1, (lowL (partL bs 26 34) : Int), fl, zeroM))).toArray 77 (0, 0)) := by rw [hb8]; rfl
  have fin : ∀ (Y : FrM) (w9 : World), w9.heap[g]? = some (.cells (frL Y.f).toArray 77 (0, 0)) → w9.heap[g1]? = some (.cells (frL zeroFr.f).toArray 77 (0, 0)) → Fr none1 w w9 → Y = parseF bs →
      LdsK FK ⟨g, 0, none⟩ w9 (fun (x45 : Cs FK) => StsK ⟨g1, 0, none⟩ (Cs.vals FK x45) w9 (fun w46 => LdsK FK ⟨g1, 0, none⟩ w46 (fun (x47 : Cs FK) => (Value.agg (Cs.vals FK x47).toArray) = frA (parseF bs).f ∧ Fr none1 w w46))) := fun Y w9 hY h1 F9 e => by
    subst e
    refine LdsK.blk (cks := FK) (x := (parseF bs).f) hY ?_
    refine StsK.blk (cs := frL zeroFr.f) (vs := frL (parseF bs).f) h1 rfl (frM_one _) fun w10 hb10 f10 _ => LdsK.blk (cks := FK) (x := (parseF bs).f) hb10 ?_
    exact ⟨rfl, F9.fresh f10 (by omega)⟩
  have hfl' : ((bs.getD 34 0).toNat == 1) = fl := by
    rw [hfl, Bool.eq_iff_iff]; simp only [beq_iff_eq]; omega
  refine LdK.fld hb8 (x := ((bs.getD 17 0).toNat : Int)) rfl ?_
  refine ifB.eq (fun h1 => ?_) (fun h1 => ?_)
  · refine RdB.mid h8 (by decide) (by omega) (Int.le_refl _) hc fun u5 hu5 hu5c _ _ => ?_
    have e35 : (bs.drop (35 : Int).toNat).take ((v.2.1 : Int) - 35).toNat = bs.drop 35 := by
      rw [show (35 : Int).toNat = 35 by rfl]
      exact List.take_of_length_le (by rw [List.length_drop]; omega)
    rw [e35] at hu5
    refine CallK.of (take_spec hu5 hu5c (ht.keep0 F8)) ?_
    rintro _ w9 ⟨rfl, f9⟩
    refine ⟨((takeP false (bs.drop 35)).1.e, (takeP false (bs.drop 35)).2, ()), rfl, ?_⟩
    have e : parseF bs = (((bs.getD 0 0).toNat : Int), (takeL (partL bs 1 9)).1, (takeL (partL bs 9 17)).1, ((bs.getD 17 0).toNat : Int), (takeL (partL bs 18 26)).1, (lowL (partL bs 26 34) : Int), fl, (takeP false (bs.drop 35)).1) := by
      unfold parseF; rw [if_pos (by omega), hfl']
    obtain ⟨a1, a2, a3, a4⟩ := setCells_all (T := 77) (b := g) (evL (takeP false (bs.drop 35)).1.e) w9 [.int .i64 ((bs.getD 0 0).toNat : Int), .int .i64 (takeL (partL bs 1 9)).1, .int .i64 (takeL (partL bs 9 17)).1, .int .i64 ((bs.getD 17 0).toNat : Int), .int .i64 (takeL (partL bs 18 26)).1, .int .u64 (lowL (partL bs 26 34) : Int), .bool fl] (evL zeroM.e) (f9.keep0 hb8) rfl (evL_one (Tm.v_one _))
    refine ⟨writes_shift _ _ 0 a1, ?_⟩
    rw [setCells_shift]
    refine fin _ _ ?_ (a3.keep (f9.keep0 g18) (fun t => by have : g1 = g := t; have := lt_of_blk hb1; have := f2.size; omega)) ((F8.trans f9).fresh a3 (by omega)) e.symm
    exact a2
  · refine fin _ w8 hb8 g18 F8 ?_
    unfold parseF; rw [if_neg (by omega), hfl']

end Go.Proofs.YtbadiokobooliaaGreatDoor

/-! ### FrameSpec3 -/
set_option linter.unusedVariables false
set_option maxRecDepth 100000
namespace Go.Proofs.YtbadiokobooliaaGreatDoor
open Vc

theorem parse_small (bs : List UInt8) : smallM (parseF bs).m := by
  unfold parseF
  show smallM (if (bs.getD 17 0).toNat = 1 then (takeP false (bs.drop 35)).1 else zeroM)
  have hz : smallM zeroM := ⟨by decide, by decide, by decide, by decide, by decide⟩
  split
  · unfold takeP; split
    · exact takeM_small false _
    · exact hz
  · exact hz
theorem parse_head (bs : List UInt8) : 0 ≤ (parseF bs).2.2.2.2.2.1 ∧ (parseF bs).2.2.2.2.2.1 < 18446744073709551616 := by
  unfold parseF
  dsimp only
  have h := low_lt (partL bs 26 34)
  have h2 : 256 ^ (partL bs 26 34).length ≤ 256 ^ 8 := Nat.pow_le_pow_right (by decide) (by unfold partL; rw [List.length_take]; omega)
  have : (256 : Nat) ^ 8 = 18446744073709551616 := by decide
  omega

theorem fbody_m (m : FrM) (hs : smallE m.m.e) (hn : nodesT m.m.t ≤ 1000000) (hh : 0 ≤ m.2.2.2.2.2.1 ∧ m.2.2.2.2.2.1 < 18446744073709551616) (w : World) (ht : TabW w) :
    Ret Tryz.prog 73 #[frA m.f] w fun r w' => ∃ v : Sl, r = .tuple #[.slice v.1 v.2.1 v.2.2, .int .i64 (bytesM m).2] ∧ Own w w' v (bytesM m).1 ∧ Fr none1 w w' := by
  have hl := write_short m.m.t
  exact body_spec m.f (ifc_v m.m.t) hs hh (writeT m.m.t).1 (by omega) (writeT m.m.t).2 w (wrote_tm m.m.t hn ht)
theorem fseal_m (kb : List UInt8) (hk : kb.length = 16) (m : FrM) (hs : smallE m.m.e) (hn : nodesT m.m.t ≤ 1000000) (hh : 0 ≤ m.2.2.2.2.2.1 ∧ m.2.2.2.2.2.1 < 18446744073709551616) (w : World) (ht : TabW w) :
    Ret Tryz.prog 35 #[.agg (keyL kb).toArray, frA m.f] w fun r w' => ∃ v : Sl, r = .tuple #[.slice v.1 v.2.1 v.2.2, .int .i64 (sealM kb m).2] ∧ Own w w' v (sealM kb m).1 ∧ Fr none1 w w' := by
  have hl := write_short m.m.t
  exact seal_spec kb hk m.f (ifc_v m.m.t) hs hh (writeT m.m.t).1 (by omega) (writeT m.m.t).2 w (wrote_tm m.m.t hn ht)
theorem fcheck_m (m : FrM) (hn : nodesT m.m.t ≤ 1000000) (w : World) (ht : TabW w) : Ret Tryz.prog 38 #[frA m.f] w fun r w' => r = .int .i64 (checkFr m.f (writeT m.m.t).2) ∧ Fr none1 w w' :=
  fcheck_spec m.f (ifc_v m.m.t) (writeT m.m.t).1 (writeT m.m.t).2 w (wrote_tm m.m.t hn ht)

theorem fopen_spec (kb : List UInt8) (hk : kb.length = 16) {w : World} {v : Sl} {bs : List UInt8} (h : RdB w v bs) (hc : v.2.1 ≤ v.2.2) (hl : bs.length ≤ 140737488355300) (ht : TabW w) :
    Ret Tryz.prog 44 #[.agg (keyL kb).toArray, .slice v.1 v.2.1 v.2.2] w fun r w' => r = .tuple #[frA (openF kb bs).1.f, .int .i64 (openF kb bs).2] ∧ Fr none1 w w' := by
  refine c44 (keyL kb) v.1 v.2.1 v.2.2 w _ ?_
  unfold C44
  have hvl := h.len
  refine NewK.of fun g0 w0 hg0 hb0 f0 hs0 => NewK.of fun g w1 hg hb1 f1 hs1 => ?_
  have hb1 : w1.heap[g]? = some (.cells (frL zeroFr.f).toArray 77 (0, 0)) := hb1
  have f01 := f0.trans f1
  have fail : ∀ (code : Int), openF kb bs = (zeroFr, code) → ∀ w2, w2.heap[g]? = some (.cells (frL zeroFr.f).toArray 77 (0, 0)) → Fr none1 w w2 → StsK ⟨g, 0, none⟩ (frL zeroFr.f) w2 (fun w5 => LdsK FK ⟨g, 0, none⟩ w5 (fun (x6 : Cs FK) => (Value.tuple #[.agg (Cs.vals FK x6).toArray, .int .i64 code]) = .tuple #[frA (openF kb bs).1.f, .int .i64 (openF kb bs).2] ∧ Fr none1 w w5)) := fun code e w2 hb f2 => by
    rw [e]
    refine StsK.blk (cs := frL zeroFr.f) (vs := frL zeroFr.f) hb rfl (frM_one zeroFr) fun w3 hb3 f3 _ => LdsK.blk (cks := FK) (x := zeroFr.f) hb3 ?_
    exact ⟨rfl, f2.fresh f3 (by omega)⟩
  have s01 := f01.size
  have hO : openF kb bs = if bs.length < 8 then (zeroFr, 2) else if tailL bs ≠ hedL (sumI kb (textL bs)) then (zeroFr, 12) else if (textL bs).length < 35 then (zeroFr, 2)
      else if (bytesM (parseF (textL bs))).2 ≠ 0 ∨ (bytesM (parseF (textL bs))).1 ≠ textL bs then (zeroFr, 2) else (parseF (textL bs), 0) := rfl
  refine ifB.dec (fun hlt => ?_) (fun hge => ?_)
  · exact fail 2 (by rw [hO, if_pos (by omega)]) w1 hb1 f01
  rw [if_neg (by omega)] at hO
  refine DrewK.of fun w2 _ f2 => ?_
  have f02 := f01.trans f2
  have hb2 := f2.keep0 hb1
  have h2 := h.keep0 f02
  rw [wI (x := (v.2.1 : Int) - 8) (by omega) (by omega)]
  obtain ⟨n, hn⟩ : ∃ n, n = bs.length - 8 := ⟨_, rfl⟩
  refine RdB.sub h2 (by omega) (by omega) hc fun hT => ?_
  refine RdB.mid h2 (by omega) (by omega) (Int.le_refl _) hc fun u hu huc hul hub => ?_
  have en : ((v.2.1 : Int) - 8).toNat = n := by omega
  have e8 : ((v.2.1 : Int) - ((v.2.1 : Int) - 8)).toNat = 8 := by omega
  rw [en] at hT hu ⊢
  rw [e8, List.take_of_length_le (by rw [List.length_drop]; omega)] at hu
  have hnc : n ≤ v.2.2 := by omega
  have etx : textL bs = bs.take n := by unfold textL; rw [hn]
  have etl : tailL bs = bs.drop n := by unfold tailL; rw [hn]
  rw [← etx] at hT
  rw [← etl] at hu
  have htl : (textL bs).length = n := by rw [etx, List.length_take]; omega
  refine LdaK.of (f2.keep0 (f1.keep0 hb0)) (by simp [keyL, hk]) ?_
  refine CallK.of (sip_spec (v := (v.1, n, v.2.2)) hk hT hnc (by omega)) ?_
  rintro _ w3 ⟨rfl, f3⟩
  refine ⟨_, rfl, ?_⟩
  have hr := sum_rng kb (textL bs)
  refine hedK _ hr.1 hr.2 w3 fun q w4 hq f4 => ?_
  have f24 := f3.trans f4
  refine CallK.of (ssame_spec (hu.keep0 f24) hq.rd) ?_
  rintro _ _ ⟨rfl, rfl⟩
  refine ⟨_, rfl, ?_⟩
  have f04 := f02.trans f24
  have hb4 := f24.keep0 hb2
  refine ifB.not (ifB.by (fun heq => ?_) (fun hne => fail 12 (by rw [hO, if_pos (by intro t; rw [t] at hne; simp at hne)]) w4 hb4 f04))
  rw [if_neg (by simpa using heq)] at hO
  refine ifB.dec (fun hlt => ?_) (fun hge35 => ?_)
  · exact fail 2 (by rw [hO, if_pos (by omega)]) w4 hb4 f04
  rw [if_neg (by omega)] at hO
  have hT4 := hT.keep0 f24
  have hsm := parse_small (textL bs)
  have hph := parse_head (textL bs)
  refine CallK.of (parse_spec (v := (v.1, n, v.2.2)) hT4 hnc (by omega) (ht.keep0 f04)) ?_
  rintro _ w5 ⟨rfl, f5⟩
  generalize textL bs = tx at *
  generalize parseF tx = X at *
  refine ⟨X.f, rfl, ?_⟩
  refine ns_ok (zs := frL zeroFr.f) (vs := frL X.f) rfl (frM_one X) fun g6 w6 hg6 hb6 f6 => ?_
  have f46 := f5.trans f6
  have f06 := f04.trans f46
  refine LdsK.blk (cks := FK) (x := X.f) hb6 ?_
  refine CallK.of (fbody_m X hsm.e hsm.2.2.2.2 hph w6 (ht.keep0 f06)) ?_
  rintro _ w7 ⟨y, rfl, hy, f7⟩
  refine ⟨(y, (bytesM X).2, ()), rfl, ?_⟩
  have f07 := f06.trans f7
  have hb7 := f7.keep0 (f46.keep0 hb4)
  dsimp only
  refine ifB.ne (fun hne => ?_) (fun he => ?_)
  · exact fail 2 (by rw [hO, if_pos (.inl hne)]) w7 hb7 f07
  refine CallK.of (bequal_spec (u := (v.1, n, v.2.2)) hy.is.rd ((hT4.keep0 f46).keep0 f7)) ?_
  rintro _ _ ⟨rfl, rfl⟩
  refine ⟨_, rfl, ifB.not (ifB.by (fun heq2 => ?_) (fun hne2 => ?_))⟩
  · rw [if_neg (by rw [he]; simpa using heq2)] at hO
    rw [hO]
    refine LdsK.blk (cks := FK) (x := X.f) (f7.keep0 hb6) ?_
    refine StsK.blk (cs := frL zeroFr.f) (vs := frL X.f) hb7 rfl (frM_one X) fun w8 hb8 f8 _ => LdsK.blk (cks := FK) (x := X.f) hb8 ?_
    exact ⟨rfl, f07.fresh f8 (by omega)⟩
  · exact fail 2 (by rw [hO, if_pos (.inr (by intro t; rw [t] at hne2; simp at hne2))]) w7 hb7 f07

/-! ### The example of the chapter -/
def zeroK : List UInt8 := List.replicate 16 0
def wantM : FrM := (0, 0, 0, 3, 0, 0, false, zeroM)
theorem want_ok : (sealM zeroK wantM).2 = 0 ∧ (sealM zeroK wantM).1.length = 43 := by
  have hb : bytesFr wantM.f (writeT wantM.m.t).1 (writeT wantM.m.t).2 = (topB wantM.f, 0) := by
    have : checkFr wantM.f (writeT wantM.m.t).2 = 0 := by simp [checkFr, headF, countsF, kindF, noneF, wantM, FrM.f, frE, EvM.e, zeroM, nilT, Tm.v, empty_str]
    unfold bytesFr
    rw [if_neg (by rw [this]; decide), if_pos (show wantM.f.2.2.2.1 ≠ 1 by decide)]
  unfold sealM sealF
  rw [hb, if_neg (by decide)]
  exact ⟨rfl, by dsimp only; rw [List.length_append, top_len, hed_len]⟩
theorem open_nil (kb : List UInt8) : openF kb [] = (zeroFr, 2) := by unfold openF; rw [if_pos (by decide)]

theorem wakes19_spec (w : World) (ht : TabW w) : Ret Tryz.prog 37 #[] w fun r w' => r = .bool true ∧ Fr none1 w w' := by
  refine c37 w _ ?_
  unfold C37
  refine CallK.of (fopen_spec zeroK rfl (v := (none, 0, 0)) (bs := []) (none_rd w) (Nat.le_refl _) (by decide) ht) ?_
  rintro _ w1 ⟨rfl, f1⟩
  rw [open_nil]
  refine ⟨(zeroFr.f, 2, ()), rfl, ?_⟩
  refine ns_skip (zs := frL zeroFr.f) (vs := frL zeroFr.f) rfl (frM_one zeroFr) fun w2 f2 => ?_
  have f12 := f1.trans f2
  refine CallK.of (fseal_m zeroK rfl wantM ⟨by decide, by decide, by decide, by decide⟩ (by decide) (by decide) w2 (ht.keep0 f12)) ?_
  rintro _ w3 ⟨v, rfl, hv, f3⟩
  obtain ⟨h1, h2⟩ := want_ok
  refine ⟨(v, (sealM zeroK wantM).2, ()), rfl, ?_⟩
  have hvl := hv.is.len
  rw [h2] at hvl
  refine ifB.t rfl (ifB.t (by rw [h1]; rfl) ?_)
  refine ⟨?_, f12.trans f3⟩
  dsimp only
  rw [hvl]; rfl

end Go.Proofs.YtbadiokobooliaaGreatDoor

/-! ### KeyCopy -/
set_option linter.unusedVariables false
set_option maxRecDepth 100000
namespace Go.Proofs.YtbadiokobooliaaGreatDoor
open Vc

def zeroKey : List UInt8 := List.replicate 16 0
/-- The first sixteen bytes, zeros behind them. -/
def padK (ys : List UInt8) : List UInt8 := ys.take 16 ++ List.replicate (16 - ys.length) 0
theorem padK_len (ys : List UInt8) : (padK ys).length = 16 := by unfold padK; rw [List.length_append, List.length_take, List.length_replicate]; omega

theorem copy_key {w : World} {g : Nat} {T : TypeId} {y : Sl} {ys : List UInt8} (hb : w.heap[g]? = some (.cells (keyL zeroKey).toArray T (0, 0))) (hy : RdB w y ys) (o : TypeId) {K : Int → World → Prop}
    (k : ∀ r w', w'.heap[g]? = some (.cells (keyL (padK ys)).toArray T (0, 0)) → Fr (only g) w w' → K r w') :
    RunK Tryz.prog (Builtin.copy_ #[38, 38] o #[.slice (some ⟨g, 0, none⟩) 16 16, .slice y.1 y.2.1 y.2.2]) w (.v (.one (.int .i64))) (fun (x : Int) w' => K x w') := by
  obtain ⟨hu, ⟨i, hi, hs, hz, hby⟩, hc, hpos⟩ := elem_byte
  have hsize : ∀ w, (sizeOf 5).run Tryz.prog w = .ok 1 w := fun w => by rw [sizeof hi, hs]
  have hlen : ∀ w, (Builtin.lenOf (.slice y.1 y.2.1 y.2.2)).run Tryz.prog w = .ok y.2.1 w := fun w => rfl
  have hyl := hy.len
  obtain ⟨n, hn⟩ : ∃ n, n = min ys.length 16 := ⟨_, rfl⟩
  have hm : Nat.min y.2.1 16 = n := by rw [hyl, hn]
  have hyn : RdB w (y.1, n, y.2.2) (ys.take n) := by
    obtain ⟨h1, h2, h3⟩ := hy
    refine ⟨by simp; omega, fun e => ?_, fun a ha => ?_⟩
    · obtain ⟨e1, e2, e3⟩ := h2 e
      have : ys = [] := by simpa using e3
      subst this
      exact ⟨by simp [hn], e2, by simp⟩
    · rw [List.map_take]; exact cellsAt_take _ 0 n (h3 a ha)
  have hfst : (Builtin.firstCells 1 n (.slice y.1 y.2.1 y.2.2)).run Tryz.prog w = .ok ((ys.take n).map bc).toArray w := by
    have := RdSl.first (P := Tryz.prog) hyn
    obtain ⟨y1, y2, y3⟩ := y
    cases y1 <;> exact this
  obtain ⟨hw, cs', a1, a2, a3, a4, a5, a6⟩ := writes_blk ((ys.take n).map bc) w (keyL zeroKey).toArray 0 0 hb (by simp [keyL, zeroKey]; omega) (bc_one _)
  have habove := setCells_above ((ys.take n).map bc) w (keyL zeroKey).toArray cs' 0 0 hb a1
  have hcs : cs' = (keyL (padK ys)).toArray := by
    apply Array.ext'
    apply List.ext_getElem?
    intro j
    rw [Array.getElem?_toList]
    show cs'[j]? = (keyL (padK ys))[j]?
    simp only [List.length_map, List.length_take, Nat.zero_add] at habove a3
    unfold keyL padK
    rw [List.map_append]
    by_cases hj : j < n
    · have := a3 j (by omega)
      rw [this, List.getElem?_append_left (by simp; omega)]
      rw [show ys.take n = ys.take 16 by rw [hn, List.take_eq_take_iff]; omega]
    · have q := habove j (by omega)
      rw [q, List.getElem?_append_right (by simp; omega), List.getElem?_toArray]
      unfold keyL zeroKey
      rw [List.map_replicate, List.map_replicate, List.getElem?_replicate, List.getElem?_replicate]
      simp only [List.length_map, List.length_take]
      by_cases h16 : j < 16
      · rw [if_pos h16, if_pos (by omega)]
      · rw [if_neg h16, if_neg (by omega)]
  refine ⟨(n : Int), setCells w ⟨g, 0, none⟩ 0 ((ys.take n).map bc), ?_, k _ _ (by rw [← hcs]; exact a1) a5⟩
  unfold Builtin.copy_
  simp only [Sem.run_bind, under hu, Result.andThen_ok, hsize, List.getElem?_toArray, List.getElem?_cons_zero, List.getElem?_cons_succ, Sem.run_pure, hlen, hm, hfst]
  rw [show (storeCells ⟨g, 0, none⟩ (((ys.take n).map bc).toArray).toList 0).run Tryz.prog w = .ok () _ from storeCells_ok ((ys.take n).map bc) 0 w hw]
  rfl

/-- All of a key's array, as a slice. -/
theorem key_all {g : Nat} {K : Option Addr → Nat → Nat → Prop} (k : K (some ⟨g, 0, none⟩) 16 16) : SubK (some ⟨g, 0, none⟩) 16 0 16 16 1 K := by
  refine ⟨by decide, by decide, by decide, by decide, ?_⟩
  have e : (if (16 : Int) = 0 then some (⟨g, 0, none⟩ : Addr) else (some (⟨g, 0, none⟩ : Addr)).map (·.add ((0 : Int).toNat * 1))) = some ⟨g, 0, none⟩ := by
    rw [if_neg (by decide), Option.map_some, addr_add]; rfl
  rw [e]
  exact k

end Go.Proofs.YtbadiokobooliaaGreatDoor

/-! ### KeepB -/
set_option linter.unusedVariables false
namespace Go.Proofs.YtbadiokobooliaaGreatDoor
open Vc

end Go.Proofs.YtbadiokobooliaaGreatDoor

/-! ### CFErr -/
namespace Go.Proofs.YtbadiokobooliaaGreatDoor
open Vc
set_option maxRecDepth 100000
set_option linter.unusedVariables false
/-- handfast/handfastlaw19.FrameErrors -/
def C7 (p0 : Option Addr) (p0l p0c : Nat) (p1 : Int) (w : World) (K : Value → World → Prop) : Prop :=
  NewK (.cells #[.int .u8 0, .int .u8 0, .int .u8 0, .int .u8 0, .int .u8 0, .int .u8 0, .int .u8 0, .int .u8 0, .int .u8 0, .int .u8 0, .int .u8 0, .int .u8 0, .int .u8 0, .int .u8 0, .int .u8 0, .int .u8 0] 75) w (fun g1 w2 => SubK (some (ad g1)) 16 0 16 16 1 (fun a3 l4 c5 => RunK Tryz.prog (Builtin.copy_ #[38, 38] 3 #[.slice a3 l4 c5, .slice p0 p0l p0c]) w2 (.v (.one (.int .i64))) (fun (x6 : Int) w7 => CallK Tryz.prog 22 #[.int .i64 p1, .int .i64 1000] w7 (.v (.one (.int .i64))) (fun (x8 : Int) w9 => NewK (.cells #[.int .i64 0, .string (⟨#[]⟩ : ByteArray), .string (⟨#[]⟩ : ByteArray), .string (⟨#[]⟩ : ByteArray), .string (⟨#[]⟩ : ByteArray), .int .i64 0, .int .i64 0, .nilIface] 30) w9 (fun g10 w11 => StsK (ad g10) [.int .i64 1, .string (⟨#[]⟩ : ByteArray), .string (⟨#[]⟩ : ByteArray), .string (⟨#[]⟩ : ByteArray), .string (⟨#[]⟩ : ByteArray), .int .i64 0, .int .i64 0, .nilIface] w11 (fun w12 => LdsK KZ14 (ad g10) w12 (fun (x13 : YZ14) => LdsK KZ14 (ad g10) w12 (fun (x14 : YZ14) => LdsK KZ14 (ad g10) w12 (fun (x15 : YZ14) => RunK Tryz.prog (Instr.buildSlice 83 17 #[(0, .agg #[.int .i64 2, .int .i64 0, .int .i64 0, .int .i64 3, .int .i64 0, .int .u64 0, .bool false, .int .i64 0, .string (⟨#[]⟩ : ByteArray), .string (⟨#[]⟩ : ByteArray), .string (⟨#[]⟩ : ByteArray), .string (⟨#[]⟩ : ByteArray), .int .i64 0, .int .i64 0, .nilIface, .int .i64 1]), (1, .agg #[.int .i64 (-1), .int .i64 0, .int .i64 0, .int .i64 3, .int .i64 0, .int .u64 0, .bool false, .int .i64 0, .string (⟨#[]⟩ : ByteArray), .string (⟨#[]⟩ : ByteArray), .string (⟨#[]⟩ : ByteArray), .string (⟨#[]⟩ : ByteArray), .int .i64 0, .int .i64 0, .nilIface, .int .i64 1]), (2, .agg #[.int .i64 0, .int .i64 (IntKind.i64.wrap ((-1) - x8)), .int .i64 0, .int .i64 3, .int .i64 0, .int .u64 0, .bool false, .int .i64 0, .string (⟨#[]⟩ : ByteArray), .string (⟨#[]⟩ : ByteArray), .string (⟨#[]⟩ : ByteArray), .string (⟨#[]⟩ : ByteArray), .int .i64 0, .int .i64 0, .nilIface, .int .i64 1]), (3, .agg #[.int .i64 0, .int .i64 0, .int .i64 (IntKind.i64.wrap (2147483648 + x8)), .int .i64 3, .int .i64 0, .int .u64 0, .bool false, .int .i64 0, .string (⟨#[]⟩ : ByteArray), .string (⟨#[]⟩ : ByteArray), .string (⟨#[]⟩ : ByteArray), .string (⟨#[]⟩ : ByteArray), .int .i64 0, .int .i64 0, .nilIface, .int .i64 1]), (4, .agg #[.int .i64 0, .int .i64 0, .int .i64 0, .int .i64 4, .int .i64 (-1), .int .u64 0, .bool false, .int .i64 0, .string (⟨#[]⟩ : ByteArray), .string (⟨#[]⟩ : ByteArray), .string (⟨#[]⟩ : ByteArray), .string (⟨#[]⟩ : ByteArray), .int .i64 0, .int .i64 0, .nilIface, .int .i64 1]), (5, .agg #[.int .i64 0, .int .i64 0, .int .i64 0, .int .i64 0, .int .i64 0, .int .u64 0, .bool false, .int .i64 0, .string (⟨#[]⟩ : ByteArray), .string (⟨#[]⟩ : ByteArray), .string (⟨#[]⟩ : ByteArray), .string (⟨#[]⟩ : ByteArray), .int .i64 0, .int .i64 0, .nilIface, .int .i64 1]), (6, .agg #[.int .i64 0, .int .i64 0, .int .i64 0, .int .i64 (IntKind.i64.wrap (5 + x8)), .int .i64 0, .int .u64 0, .bool false, .int .i64 0, .string (⟨#[]⟩ : ByteArray), .string (⟨#[]⟩ : ByteArray), .string (⟨#[]⟩ : ByteArray), .string (⟨#[]⟩ : ByteArray), .int .i64 0, .int .i64 0, .nilIface, .int .i64 1]), (7, .agg #[.int .i64 0, .int .i64 0, .int .i64 0, .int .i64 3, .int .i64 0, .int .u64 0, .bool true, .int .i64 0, .string (⟨#[]⟩ : ByteArray), .string (⟨#[]⟩ : ByteArray), .string (⟨#[]⟩ : ByteArray), .string (⟨#[]⟩ : ByteArray), .int .i64 0, .int .i64 0, .nilIface, .int .i64 1]), (8, .agg #[.int .i64 0, .int .i64 0, .int .i64 0, .int .i64 1, .int .i64 0, .int .u64 0, .bool true, .int .i64 x13.1, .string x13.2.1, .string x13.2.2.1, .string x13.2.2.2.1, .string x13.2.2.2.2.1, .int .i64 x13.2.2.2.2.2.1, .int .i64 x13.2.2.2.2.2.2.1, x13.2.2.2.2.2.2.2.1, .int .i64 1]), (9, .agg #[.int .i64 0, .int .i64 0, .int .i64 0, .int .i64 4, .int .i64 0, .int .u64 0, .bool true, .int .i64 0, .string (⟨#[]⟩ : ByteArray), .string (⟨#[]⟩ : ByteArray), .string (⟨#[]⟩ : ByteArray), .string (⟨#[]⟩ : ByteArray), .int .i64 0, .int .i64 0, .nilIface, .int .i64 0]), (10, .agg #[.int .i64 0, .int .i64 0, .int .i64 0, .int .i64 2, .int .i64 0, .int .u64 0, .bool true, .int .i64 0, .string (⟨#[]⟩ : ByteArray), .string (⟨#[]⟩ : ByteArray), .string (⟨#[]⟩ : ByteArray), .string (⟨#[]⟩ : ByteArray), .int .i64 0, .int .i64 0, .nilIface, .int .i64 0]), (11, .agg #[.int .i64 0, .int .i64 0, .int .i64 0, .int .i64 2, .int .i64 0, .int .u64 0, .bool false, .int .i64 x14.1, .string x14.2.1, .string x14.2.2.1, .string x14.2.2.2.1, .string x14.2.2.2.2.1, .int .i64 x14.2.2.2.2.2.1, .int .i64 x14.2.2.2.2.2.2.1, x14.2.2.2.2.2.2.2.1, .int .i64 1]), (12, .agg #[.int .i64 0, .int .i64 0, .int .i64 0, .int .i64 3, .int .i64 0, .int .u64 0, .bool false, .int .i64 0, .string (⟨#[]⟩ : ByteArray), .string (⟨#[]⟩ : ByteArray), .string (⟨#[]⟩ : ByteArray), .string (⟨#[]⟩ : ByteArray), .int .i64 1, .int .i64 0, .nilIface, .int .i64 1]), (13, .agg #[.int .i64 0, .int .i64 0, .int .i64 0, .int .i64 1, .int .i64 0, .int .u64 0, .bool false, .int .i64 0, .string (⟨#[]⟩ : ByteArray), .string (⟨#[]⟩ : ByteArray), .string (⟨#[]⟩ : ByteArray), .string (⟨#[]⟩ : ByteArray), .int .i64 0, .int .i64 0, .nilIface, .int .i64 1]), (14, .agg #[.int .i64 0, .int .i64 0, .int .i64 0, .int .i64 1, .int .i64 0, .int .u64 0, .bool false, .int .i64 x15.1, .string x15.2.1, .string x15.2.2.1, .string x15.2.2.2.1, .string x15.2.2.2.2.1, .int .i64 x15.2.2.2.2.2.1, .int .i64 x15.2.2.2.2.2.2.1, x15.2.2.2.2.2.2.2.1, .int .i64 0]), (15, .agg #[.int .i64 0, .int .i64 0, .int .i64 0, .int .i64 1, .int .i64 0, .int .u64 0, .bool false, .int .i64 2, .string (⟨#[116]⟩ : ByteArray), .string (⟨#[]⟩ : ByteArray), .string (⟨#[]⟩ : ByteArray), .string (⟨#[]⟩ : ByteArray), .int .i64 0, .int .i64 0, .nilIface, .int .i64 2]), (16, .agg #[.int .i64 0, .int .i64 2147483647, .int .i64 2147483647, .int .i64 3, .int .i64 2147483647, .int .u64 0, .bool false, .int .i64 0, .string (⟨#[]⟩ : ByteArray), .string (⟨#[]⟩ : ByteArray), .string (⟨#[]⟩ : ByteArray), .string (⟨#[]⟩ : ByteArray), .int .i64 0, .int .i64 0, .nilIface, .int .i64 0])]) w12 (.v (.one .slc)) (fun (x16 : SlT) w17 => LoopK (Int × Unit) (fun _ s18 w19 next20 => ifB (decide (s18.1 < (x16.2.1 : Int)))
  (IdxK x16.1 x16.2.1 s18.1 16 (fun a21 => LdsK KZ21 a21 w19 (fun (x22 : YZ21) => NewK (.cells #[.int .i64 0, .int .i64 0, .int .i64 0, .int .i64 0, .int .i64 0, .int .u64 0, .bool false, .int .i64 0, .string (⟨#[]⟩ : ByteArray), .string (⟨#[]⟩ : ByteArray), .string (⟨#[]⟩ : ByteArray), .string (⟨#[]⟩ : ByteArray), .int .i64 0, .int .i64 0, .nilIface, .int .i64 0] 82) w19 (fun g23 w24 => StsK (ad g23) (LZ21 x22) w24 (fun w25 => LdaK 16 (ad g1) w25 (fun x26 => LdsK KZ20 ((ad g23).add 0) w25 (fun (x27 : YZ20) => CallK Tryz.prog 35 #[.agg x26.toArray, .agg (LZ20 x27).toArray] w25 (.tup [.one .slc, .one (.int .i64)]) (fun (x28 : SlT × Int × Unit) w29 => DrewK w29 (fun w30 => HoldK (fun S31 => InK S31 ((ad g23).add 0) (LdsK KZ20 ((ad g23).add 0) w30 (fun (x32 : YZ20) => InK S31 ((ad g23).add 15) (LdK (.int .i64) ((ad g23).add 15) w30 (fun (x33 : Int) => CallK Tryz.prog 38 #[.agg (LZ20 x32).toArray] w30 (.v (.one (.int .i64))) (fun (x34 : Int) w35 => KeepK S31 w30 w35 (ifB (x34 != x33)
  (K (.bool false) w35)
  (InK S31 ((ad g23).add 15) (LdK (.int .i64) ((ad g23).add 15) w35 (fun (x36 : Int) => ifB (x28.2.1 != x36)
  (K (.bool false) w35)
  (ifB (!((decide ((x28.1.2.1 : Int) > 0)) == (x28.2.1 == 0)))
  (K (.bool false) w35)
  (next20 (IntKind.i64.wrap (s18.1 + 1), ()) w35)))))))))))))))))))))
  (CallK Tryz.prog 37 #[] w19 (.v (.one .bool)) (fun (x37 : Bool) w38 => K (.bool x37) w38)))
  (0, ()) w17))))))))))
def pl7 : Plan := (.seq .auto (.seq .auto (.seq .auto (.seq .auto (.seq .auto (.seq (.seq .auto (.block (.loop [(64, .one (.int .i64))] (.seq .auto (.seq .auto (.seq (.block (.seq .auto (.seq .auto (.seq (.held (.soft 0 (.soft 1 (.soft 3 (.soft 4 (.pick 2 (.soft 5 (.soft 6 (.soft 7 (.soft 8 (.soft 9 (.soft 10 (.soft 11 (.soft 12 (.soft 13 (.soft 14 (.soft 15 (.soft 16 (.soft 17 (.soft 18 (.soft 19 .done))))))))))))))) .stop)))))) .auto)))) .auto)))))) .auto))))))
theorem e7 (p0 : Option Addr) (p0l p0c : Nat) (p1 : Int) (w : World) (K : Value → World → Prop) : vcFunc Tryz.prog Tryz.f7 pl7 [.slice p0 p0l p0c, .int .i64 p1] w K = C7 p0 p0l p0c p1 w K := by kernel_rfl
theorem c7 (p0 : Option Addr) (p0l p0c : Nat) (p1 : Int) (w : World) (K : Value → World → Prop) (h : C7 p0 p0l p0c p1 w K) : Ret Tryz.prog 7 #[.slice p0 p0l p0c, .int .i64 p1] w K := by
  rw [← e7] at h
  exact vcFunc_sound (by kernel_rfl) Tryz.func7 h

end Go.Proofs.YtbadiokobooliaaGreatDoor

/-! ### FErr -/
set_option linter.unusedVariables false
set_option maxRecDepth 100000
namespace Go.Proofs.YtbadiokobooliaaGreatDoor
open Vc

/-- A frame is sealed exactly if it may be. -/
theorem seal_code (kb : List UInt8) (X : FrM) : (sealM kb X).2 = checkFr X.f (writeT X.m.t).2 ∧ (checkFr X.f (writeT X.m.t).2 = 0 → 0 < (sealM kb X).1.length) ∧ (checkFr X.f (writeT X.m.t).2 ≠ 0 → (sealM kb X).1.length = 0) := by
  unfold sealM sealF
  by_cases h : checkFr X.f (writeT X.m.t).2 = 0
  · have hb : (bytesFr X.f (writeT X.m.t).1 (writeT X.m.t).2).2 = 0 := by
      unfold bytesFr; rw [if_neg (fun t => t h)]; split <;> rfl
    rw [if_neg (fun t => t hb)]
    refine ⟨h.symm, fun _ => ?_, fun t => absurd h t⟩
    show 0 < List.length (_ ++ _)
    rw [List.length_append, hed_len]; omega
  · have hb : bytesFr X.f (writeT X.m.t).1 (writeT X.m.t).2 = ([], checkFr X.f (writeT X.m.t).2) := by
      unfold bytesFr; rw [if_pos h]
    rw [hb, if_pos h]
    exact ⟨rfl, fun t => absurd t h, fun _ => rfl⟩

def oneM : EvM := (1, [], [], [], [], 0, 0, .none)
def tabFr (d : Int) : List (FrM × Int) :=
  [((2, 0, 0, 3, 0, 0, false, zeroM), 1), ((-1, 0, 0, 3, 0, 0, false, zeroM), 1), ((0, -1 - d, 0, 3, 0, 0, false, zeroM), 1), ((0, 0, 2147483648 + d, 3, 0, 0, false, zeroM), 1),
   ((0, 0, 0, 4, -1, 0, false, zeroM), 1), ((0, 0, 0, 0, 0, 0, false, zeroM), 1), ((0, 0, 0, 5 + d, 0, 0, false, zeroM), 1), ((0, 0, 0, 3, 0, 0, true, zeroM), 1),
   ((0, 0, 0, 1, 0, 0, true, oneM), 1), ((0, 0, 0, 4, 0, 0, true, zeroM), 0), ((0, 0, 0, 2, 0, 0, true, zeroM), 0), ((0, 0, 0, 2, 0, 0, false, oneM), 1),
   ((0, 0, 0, 3, 0, 0, false, (0, [], [], [], [], 1, 0, .none)), 1), ((0, 0, 0, 1, 0, 0, false, zeroM), 1), ((0, 0, 0, 1, 0, 0, false, oneM), 0),
   ((0, 0, 0, 1, 0, 0, false, (2, [116], [], [], [], 0, 0, .none)), 2), ((0, 2147483647, 2147483647, 3, 2147483647, 0, false, zeroM), 0)]
abbrev XFK : List Ck := [.int .i64, .int .i64, .int .i64, .int .i64, .int .i64, .int .u64, .bool, .int .i64, .str, .str, .str, .str, .int .i64, .int .i64, .raw, .int .i64]
def xfL (x : FrM × Int) : List Value := [.int .i64 x.1.1, .int .i64 x.1.2.1, .int .i64 x.1.2.2.1, .int .i64 x.1.2.2.2.1, .int .i64 x.1.2.2.2.2.1, .int .u64 x.1.2.2.2.2.2.1, .bool x.1.2.2.2.2.2.2.1, .int .i64 x.1.m.e.1, .string x.1.m.e.2.1, .string x.1.m.e.2.2.1, .string x.1.m.e.2.2.2.1, .string x.1.m.e.2.2.2.2.1, .int .i64 x.1.m.e.2.2.2.2.2.1, .int .i64 x.1.m.e.2.2.2.2.2.2.1, x.1.m.e.2.2.2.2.2.2.2.1, .int .i64 x.2]
def xfC (x : FrM × Int) : Cs XFK := (x.1.1, x.1.2.1, x.1.2.2.1, x.1.2.2.2.1, x.1.2.2.2.2.1, x.1.2.2.2.2.2.1, x.1.2.2.2.2.2.2.1, x.1.m.e.1, x.1.m.e.2.1, x.1.m.e.2.2.1, x.1.m.e.2.2.2.1, x.1.m.e.2.2.2.2.1, x.1.m.e.2.2.2.2.2.1, x.1.m.e.2.2.2.2.2.2.1, x.1.m.e.2.2.2.2.2.2.2.1, x.2, ())
theorem elem_xf : ElemOk Tryz.prog 83 82 16 (.agg #[.int .i64 0, .int .i64 0, .int .i64 0, .int .i64 0, .int .i64 0, .int .u64 0, .bool false, .int .i64 0, .string ⟨#[]⟩, .string ⟨#[]⟩, .string ⟨#[]⟩, .string ⟨#[]⟩, .int .i64 0, .int .i64 0, .nilIface, .int .i64 0]) 168 := ⟨Tryz.underlying83, ⟨Tryz.t82, by kernel_rfl, rfl, rfl, rfl⟩, rfl, by decide⟩
theorem xfL_len (l : List (FrM × Int)) : ∀ v ∈ l.map xfL, v.length = 16 := by intro v hv; obtain ⟨x, _, rfl⟩ := List.mem_map.1 hv; rfl
theorem xf_one (x : FrM × Int) : (xfL x).all one1 = true := by
  have h := frM_one x.1
  unfold frL at h
  simp only [List.all_cons, List.all_nil, Bool.and_true, Bool.and_eq_true] at h
  unfold xfL
  simp only [List.all_cons, List.all_nil, Bool.and_true, Bool.and_eq_true]
  obtain ⟨a0, a1, a2, a3, a4, a5, a6, a7, a8, a9, a10, a11, a12, a13, a14⟩ := h
  exact ⟨a0, a1, a2, a3, a4, a5, a6, a7, a8, a9, a10, a11, a12, a13, a14, rfl⟩

theorem tab_codes {d : Int} (h0 : 0 ≤ d) (h1 : d < 1000) (x : FrM × Int) (hx : x ∈ tabFr d) : checkFr x.1.f (writeT x.1.m.t).2 = x.2 := by
  have hz : writeT .none = ([], 2) := rfl
  have c0 : countsF 0 = true := rfl
  have c1 : countsF (-1 - d) = false := by unfold countsF; simp; omega
  have c2 : countsF (2147483648 + d) = false := by unfold countsF; simp; omega
  have c3 : countsF (-1) = false := rfl
  have c4 : countsF 2147483647 = true := rfl
  have k5 : ¬ (5 + d ≤ 4) := by omega
  have v0 : validF 0 = true := rfl
  simp only [tabFr, List.mem_cons, List.not_mem_nil, or_false] at hx
  rcases hx with rfl | rfl | rfl | rfl | rfl | rfl | rfl | rfl | rfl | rfl | rfl | rfl | rfl | rfl | rfl | rfl | rfl <;>
    simp [checkFr, headF, kindF, noneF, FrM.f, FrM.m, frE, EvM.e, EvM.t, zeroM, oneM, nilT, Tm.v, empty_str, c0, c1, c2, c3, c4, k5, v0, hz, checkF, fieldsF, onlyF, hasF, namedF, named_str]
  · decide +kernel
theorem tab_small {d : Int} (x : FrM × Int) (hx : x ∈ tabFr d) : smallE x.1.m.e ∧ nodesT x.1.m.t ≤ 1000000 ∧ 0 ≤ x.1.2.2.2.2.2.1 ∧ x.1.2.2.2.2.2.1 < 18446744073709551616 := by
  simp only [tabFr, List.mem_cons, List.not_mem_nil, or_false] at hx
  have zs : smallE zeroM.e := ⟨by decide, by decide, by decide, by decide⟩
  have os : smallE oneM.e := ⟨by decide, by decide, by decide, by decide⟩
  have zn : nodesT zeroM.t ≤ 1000000 := by decide
  have on : nodesT oneM.t ≤ 1000000 := by decide
  have q : (0 : Int) ≤ 0 ∧ (0 : Int) < 18446744073709551616 := by decide
  rcases hx with rfl | rfl | rfl | rfl | rfl | rfl | rfl | rfl | rfl | rfl | rfl | rfl | rfl | rfl | rfl | rfl | rfl <;>
    first
    | exact ⟨zs, zn, q⟩
    | exact ⟨os, on, q⟩
    | exact ⟨⟨by decide, by decide, by decide, by decide⟩, by decide, q⟩

set_option maxHeartbeats 8000000 in
theorem errs19_walk (a0 : Option Addr) (len0 cap0 : Nat) (z0 : List Int) (p1 : Int) (w : World) (h0 : IsInts .u8 w a0 len0 cap0 z0) (h1 : (Go.Lit.int .i64 p1).wf = true) (ht : TabW w) :
    Ret Tryz.prog 7 #[.slice a0 len0 cap0, .int .i64 p1] w fun r w' => r = .bool true ∧ Fr none1 w w' := by
  refine c7 a0 len0 cap0 p1 w _ ?_
  unfold C7
  obtain ⟨hr, hcap⟩ := args_rd h0
  refine NewK.of fun g1 w1 hg1 hb1 f1 hs1 => ?_
  have hb1 : w1.heap[g1]? = some (.cells (keyL zeroKey).toArray 75 (0, 0)) := hb1
  refine key_all ?_
  refine copy_key hb1 (hr.keep0 f1) _ fun r1 w2 hb2 f2 => ?_
  have hk := padK_len ((z0.take len0).map toByte)
  generalize padK ((z0.take len0).map toByte) = kb at *
  have F2 : Fr none1 w w2 := f1.fresh f2 (by omega)
  refine CallK.of (within_spec p1 1000 w2 (by decide)) ?_
  rintro _ _ ⟨rfl, rfl⟩
  refine ⟨_, rfl, ?_⟩
  have d0 := within_lo p1 1000; have d1 := within_hi p1 (show (1 : Int) ≤ 1000 by decide)
  generalize within p1 1000 = d at *
  refine ns_ok (vs := evL oneM.e) rfl (evL_one rfl) fun g3 w3 hg3 hb3 f3 => ?_
  refine LdsK.blk (cks := EK) (x := oneM.e) hb3 (LdsK.blk (cks := EK) (x := oneM.e) hb3 (LdsK.blk (cks := EK) (x := oneM.e) hb3 ?_))
  rw [wI (x := -1 - d) (by omega) (by omega), wI (x := 2147483648 + d) (by omega) (by omega), wI (x := 5 + d) (by omega) (by omega)]
  obtain ⟨sl, w4, hr4, hsl, hsq, f4, slf⟩ := lits_ok (P := Tryz.prog) (w := w3) elem_xf ((tabFr d).map xfL) (xfL_len _) (by show 17 * 16 ≤ 2 ^ 24; decide)
  have hsl17 : sl.2.1 = 17 := hsq
  clear hsq
  refine ⟨sl, w4, hr4, ?_⟩
  clear hr4
  dsimp only
  have hk4 : w4.heap[g1]? = some (.cells (keyL kb).toArray 75 (0, 0)) := f4.keep0 (f3.keep0 hb2)
  have F4 : Fr none1 w w4 := (F2.trans f3).trans f4
  have hcodes := tab_codes d0 d1
  have hsmall := tab_small (d := d)
  have hlen : (tabFr d).length = 17 := rfl
  generalize tabFr d = tb at *
  refine LoopK.of (fun st w' => ∃ j : Nat, st.1 = j ∧ j ≤ 17 ∧ Fr none1 w4 w') (fun st _ => 17 - st.1.toNat) ⟨0, rfl, by omega, Fr.refl _ _⟩ ?_
  rintro _ ⟨i, _⟩ w7 ⟨j, rfl, hj, f7⟩
  dsimp only
  refine ifB.dec (fun hlt => ?_) (fun _ => ?_)
  rotate_left
  · refine CallK.of (wakes19_spec w7 (ht.keep0 (F4.trans f7))) ?_
    rintro _ w28 ⟨rfl, f28⟩
    exact ⟨_, rfl, rfl, (F4.trans f7).trans f28⟩
  have hj6 : j < 17 := by omega
  obtain ⟨x, hx⟩ : ∃ x, tb[j]? = some x := ⟨_, List.getElem?_eq_getElem (show j < tb.length by omega)⟩
  have hxm := List.mem_of_getElem? hx
  have hc := hcodes x hxm
  obtain ⟨hzs, hzn, hxh⟩ := hsmall x hxm
  have hsl7 := hsl.keep0 f7
  cases hp : sl.1 with
  | none =>
    exfalso
    rcases hsl7 with ⟨h, _⟩ | ⟨g, off, cs, hv, _⟩
    · rw [h] at hsl17; exact absurd hsl17 (by decide)
    · rw [hp] at hv; cases hv
  | some pp =>
  refine ⟨pp, rfl, by omega, by rw [hsl17]; omega, ?_⟩
  rw [Int.toNat_natCast]
  refine RdSl.lds hsl7.rd (xfL_len _) (cks := XFK) (x := xfC x) (i := j) (by rw [List.getElem?_map, hx]; rfl) (by rw [hsl17]; exact hj6) ?_ hp
  refine ns_ok (vs := xfL x) rfl (xf_one x) fun g w8 hg hb f8 => ?_
  have F8 := (F4.trans f7).trans f8
  refine LdaK.of (f8.keep0 (f7.keep0 hk4)) (by simp [keyL, hk]) ?_
  have pre : ∀ {wa : World} {K : Cs FK → Prop}, wa.heap[g]? = some (.cells (xfL x).toArray 82 (0, 0)) → K x.1.f → LdsK FK ((⟨g, 0, none⟩ : Addr).add 0) wa K := fun {wa K} hb k => LdsK.pre (x := x.1.f) hb (fun j hj => by
    have e : (xfL x).toArray[j]? = (xfL x)[j]? := by simp
    rw [e, show xfL x = Cs.vals FK x.1.f ++ [.int .i64 x.2] from rfl, List.getElem?_append_left hj]) k
  refine pre hb ?_
  refine CallK.of (fseal_m kb hk x.1 hzs hzn hxh w8 (ht.keep0 F8)) ?_
  rintro _ w9 ⟨c, rfl, hcb, f9⟩
  have hcl := hcb.is.len
  obtain ⟨s1, s2, s3⟩ := seal_code kb x.1
  rw [s1, hc]
  rw [hc] at s2 s3
  refine ⟨(c, x.2, ()), rfl, ?_⟩
  refine DrewK.of fun w10 _ f10 => HoldK.of (fun k => k = g) ?_
  have F10 := (F8.trans f9).trans f10
  have hb10 := f10.keep0 (f9.keep0 hb)
  refine inG rfl (pre hb10 (inG rfl (LdK.fld hb10 (x := x.2) rfl ?_)))
  refine CallK.of (fcheck_m x.1 hzn w10 (ht.keep0 F10)) ?_
  rintro _ w11 ⟨rfl, f11⟩
  rw [hc]
  refine ⟨x.2, rfl, KeepK.of f11 ?_⟩
  have hb11 := f11.keep0 hb10
  refine ifB.f (by simp) (inG rfl (LdK.fld hb11 (x := x.2) rfl ?_))
  refine ifB.f (by simp) ?_
  refine ifB.f ?_ ?_
  · dsimp only
    by_cases h : x.2 = 0
    · have := s2 h
      rw [decide_eq_true (show ((c.2.1 : Int) > 0) by omega), h]; rfl
    · have := s3 h
      rw [decide_eq_false (show ¬ ((c.2.1 : Int) > 0) by omega)]
      simp [h]
  refine ⟨⟨j + 1, by rw [wI (by omega) (by omega)]; rfl, by omega, ((f7.trans f8).trans f9).trans (f10.trans f11)⟩, by rw [wI (by omega) (by omega)]; omega⟩

end Go.Proofs.YtbadiokobooliaaGreatDoor
