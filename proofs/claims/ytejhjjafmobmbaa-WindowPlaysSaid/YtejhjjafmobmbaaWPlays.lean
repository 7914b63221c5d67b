/-
  WindowPlays' walk: whatever is heard, whether it is to be heard, is what the document says; a clone goes its own way.
  No condition but that the arguments are slices of ints.
-/
import Derived.Test.YtejhjjafmobmbaaWRef
set_option linter.unusedVariables false
namespace Go.Proofs.Ytejhjjafmobmbaa
open Vc

/-- Both keep the same books. -/
def Books (h : Int) (S : Int → Bool) (seen : List Int) : Prop := ∀ m, h - 64 < m → (S m = true ↔ m ∈ seen)

theorem same_answer {e h : Int} {S : Int → Bool} {seen : List Int} (hb : Books h S seen) (ep n : Int) : refR e h seen ep n = accR e h S ep n := by
  unfold refR accR
  split
  · rfl
  · split
    · rfl
    · by_cases c : h - 64 < n
      · have := hb n c
        cases hS : S n <;> simp_all
      · simp [c]

theorem same_books {e h : Int} {S : Int → Bool} {seen : List Int} (hb : Books h S seen) (ep n : Int) (r : Bool) (hr : accR e h S ep n = r) : Books (accH e h ep n r) (accS e ep n S r) (refS e h seen ep n r) := by
  cases r with
  | false => exact hb
  | true =>
    intro m hm
    by_cases c : e < ep
    · rw [accS_new c]; simp [refS, c]
    · unfold accR at hr
      split at hr
      · cases hr
      · have hee : ep = e := by omega
        subst hee
        rw [accS_old]
        have hH : accH ep h ep n true = if h < n then n else h := by simp [accH]
        rw [hH] at hm
        have hlow : h - 64 < m := by split at hm <;> omega
        have hbm := hb m hlow
        simp only [refS, if_true, Int.lt_irrefl, if_false, List.mem_cons, List.mem_filter, decide_eq_true_eq, Bool.or_eq_true, beq_iff_eq]
        rw [hbm]
        constructor
        · rintro (h1 | h1)
          · exact .inr ⟨h1, hm⟩
          · exact .inl h1
        · rintro (h1 | h1)
          · exact .inr h1
          · exact .inl h1.1

theorem refS_len {e h : Int} {seen : List Int} {ep n : Int} {r : Bool} : (refS e h seen ep n r).length ≤ seen.length + 1 := by
  unfold refS
  split
  · split
    · simp
    · have := List.length_filter_le (fun m => decide ((if h < n then n else h) - 64 < m)) seen
      simp; omega
  · omega

def PlInv (w : World) (b c len : Nat) (q : Int × Unit) (w' : World) : Prop :=
  Fr none1 w w' ∧ 0 ≤ q.1 ∧ q.1 ≤ 60 ∧ q.1 ≤ len ∧ ∃ (e h : Int) (S : Int → Bool) (seen : List Int), IsWin w' b e h S ∧ IsRef w' (c + 1) c e h seen ∧ Books h S seen ∧ seen.length ≤ q.1.toNat

/-- What holds in the midst of the test: which of the two has heard the number. -/
def Mid (w : World) (b c : Nat) (e h : Int) (S : Int → Bool) (seen : List Int) (ep n : Int) (r : Bool) : (Nat → Bool) → World → Prop := fun D w' =>
  Fr none1 w w' ∧ (if D 7 then IsWin w' b (accE e ep r) (accH e h ep n r) (accS e ep n S r) else IsWin w' b e h S) ∧
    (if D 15 then IsRef w' (c + 1) c (accE e ep r) (accH e h ep n r) (refS e h seen ep n r) else IsRef w' (c + 1) c e h seen)

theorem ite_congr_upd {D : Nat → Bool} {i j : Nat} (h : i ≠ j) : upd D i j = D j := by
  unfold upd
  cases hb : Nat.beq j i with
  | true => exact absurd (Nat.eq_of_beq_eq_true hb).symm h
  | false => rfl
theorem upd_self {D : Nat → Bool} (i : Nat) : upd D i i = true := by
  unfold upd
  simp

theorem Mid.other {w : World} {b c : Nat} {e h : Int} {S : Int → Bool} {seen : List Int} {ep n : Int} {r : Bool} {D : Nat → Bool} {w' : World} (hm : Mid w b c e h S seen ep n r D w') {i : Nat} (h7 : i ≠ 7) (h15 : i ≠ 15) :
    Mid w b c e h S seen ep n r (upd D i) w' := by
  unfold Mid at *
  rw [ite_congr_upd h7, ite_congr_upd h15]
  exact hm

set_option maxHeartbeats 1000000 in
/-- One round's test. -/
theorem round_ok {w w0 : World} {b c : Nat} {e h : Int} {S : Int → Bool} {seen : List Int} {a : Option Addr} {len cap : Nat} {z : List Int} (hz : IsInts .i64 w a len cap z) (i : Int) (hi0 : 0 ≤ i) (hi1 : i < len) (hi2 : i < 60) (ep : Int)
    (hep : ep ≤ 9223372036854775807) (F : Fr none1 w w0) (hb : w.heap.size ≤ b) (hc : w.heap.size ≤ c) (hbc : b < c) (hw : IsWin w0 b e h S) (hr : IsRef w0 (c + 1) c e h seen) (hB : Books h S seen) (hl : seen.length ≤ i.toNat) :
    RegK w0 (fun C77 => IdxK a len i 1 (fun a78 => AnyK C77 5 [] (.v (.one (.int .i64))) (fun w80 k81 => LdK (.int .i64) a78 w80 (fun (x82 : Int) => k81 (.int .i64 x82) w80))
      (fun (x79 : Int) => AnyK C77 6 [5] (.v (.one (.int .i64))) (fun w84 k85 => CallK Try.prog 31 #[.int .i64 x79] w84 (.v (.one (.int .i64))) (fun (x86 : Int) w87 => k85 (.int .i64 x86) w87))
      (fun (x83 : Int) => AnyK C77 7 [5, 6] (.v (.one .bool)) (fun w89 k90 => CallK Try.prog 24 #[.pointer (some ⟨b, 0, none⟩), .int .i64 ep, .int .i64 x83] w89 (.v (.one .bool)) (fun (x91 : Bool) w92 => k90 (.bool x91) w92))
      (fun (x88 : Bool) => IdxK a len i 1 (fun a93 => AnyK C77 13 [] (.v (.one (.int .i64))) (fun w95 k96 => LdK (.int .i64) a93 w95 (fun (x97 : Int) => k96 (.int .i64 x97) w95))
      (fun (x94 : Int) => AnyK C77 14 [5, 6, 7, 13] (.v (.one (.int .i64))) (fun w99 k100 => CallK Try.prog 31 #[.int .i64 x94] w99 (.v (.one (.int .i64))) (fun (x101 : Int) w102 => k100 (.int .i64 x101) w102))
      (fun (x98 : Int) => AnyK C77 15 [5, 6, 7, 13, 14] (.v (.one .bool)) (fun w104 k105 => CallK Try.prog 32 #[.pointer (some ⟨c, 0, none⟩), .int .i64 ep, .int .i64 x98] w104 (.v (.one .bool)) (fun (x106 : Bool) w107 => k105 (.bool x106) w107))
      (fun (x103 : Bool) => ifB (!(x88 == x103))
      (SkipK C77 19 (SkipK C77 23 (SkipK C77 28 (SkipK C77 32 ((∀ w108, C77 (mem [5, 6, 7, 13, 14, 15, 19, 23, 28, 32]) w108 → (Value.bool false = .bool true ∧ Fr none1 w w108)))))))
      (AnyK C77 19 [5, 6, 7, 13, 14, 15] (.v (.one (.int .i64))) (fun w110 k111 => CallK Try.prog 25 #[.pointer (some ⟨b, 0, none⟩)] w110 (.v (.one (.int .i64))) (fun (x112 : Int) w113 => k111 (.int .i64 x112) w113))
      (fun (x109 : Int) => optA (some ⟨c, 0, none⟩) (fun a114 => AnyK C77 23 [5, 6, 7, 13, 14, 15] (.v (.one (.int .i64))) (fun w116 k117 => LdK (.int .i64) (a114.add 0) w116 (fun (x118 : Int) => k117 (.int .i64 x118) w116))
      (fun (x115 : Int) => ifB (x109 != x115)
      (SkipK C77 28 (SkipK C77 32 ((∀ w119, C77 (mem [5, 6, 7, 13, 14, 15, 19, 23, 28, 32]) w119 → (Value.bool false = .bool true ∧ Fr none1 w w119)))))
      (AnyK C77 28 [5, 6, 7, 13, 14, 15, 19, 23] (.v (.one (.int .i64))) (fun w121 k122 => CallK Try.prog 26 #[.pointer (some ⟨b, 0, none⟩)] w121 (.v (.one (.int .i64))) (fun (x123 : Int) w124 => k122 (.int .i64 x123) w124))
      (fun (x120 : Int) => optA (some ⟨c, 0, none⟩) (fun a125 => AnyK C77 32 [5, 6, 7, 13, 14, 15, 19, 23] (.v (.one (.int .i64))) (fun w127 k128 => LdK (.int .i64) (a125.add 1) w127 (fun (x129 : Int) => k128 (.int .i64 x129) w127))
      (fun (x126 : Int) => (∀ w130, C77 (mem [5, 6, 7, 13, 14, 15, 19, 23, 28, 32]) w130 → ifB (x120 != x126)
      (Value.bool false = .bool true ∧ Fr none1 w w130)
      (PlInv w b c len (IntKind.i64.wrap (i + 1), ()) w130 ∧ (60 - IntKind.i64.wrap (i + 1)).toNat < (60 - i).toNat))))))))))))))))))) := by
  have hbz := (hz.i64 i.toNat).2
  obtain ⟨v, hv⟩ : ∃ v, v = z.getD i.toNat 0 := ⟨_, rfl⟩
  rw [← hv] at hbz
  have hnv := pnum_hi hbz
  obtain ⟨n, hn⟩ : ∃ n, n = pnum v := ⟨_, rfl⟩
  rw [← hn] at hnv
  obtain ⟨r, hrr⟩ : ∃ r, accR e h S ep n = r := ⟨_, rfl⟩
  have hrr' : refR e h seen ep n = r := by rw [same_answer hB]; exact hrr
  have hcell : ∃ x, a = some x ∧ ∀ w', Fr none1 w w' → w'.cell? (x.add (i.toNat * 1)) = some (.int .i64 v) := by
    rcases hz with ⟨_, rfl, _, _⟩ | ⟨x, rfl, hl, hc, hzl, hcell, _⟩
    · omega
    · refine ⟨x, rfl, fun w' F => ?_⟩
      rw [Nat.mul_one, hv]
      exact F.cell0 (hcell i.toNat (by omega))
  obtain ⟨x, rfl, hcell⟩ := hcell
  refine ⟨⟨Mid w b c e h S seen ep n r, ⟨F.trans (drew_fr w0), hw.keep (drew_fr w0) (fun t => t), hr.keep (drew_fr w0) (fun t => t) (fun _ _ _ t => t)⟩, ?_⟩⟩
  refine ⟨x, rfl, hi0, hi1, ?_⟩
  refine ⟨v, fun D w1 h0 hp hC => LdK.cell (hcell w1 hC.1) ⟨rfl, hC.other (by decide) (by decide)⟩, ?_⟩
  refine ⟨n, fun D w1 h0 hp hC => CallK.of (number_spec v w1 hbz) ?_, ?_⟩
  · rintro _ _ ⟨rfl, rfl⟩; exact ⟨_, rfl, by rw [hn]; rfl, hC.other (by decide) (by decide)⟩
  refine ⟨r, fun D w1 h0 hp hC => ?_, ?_⟩
  · obtain ⟨m1, m2, m3⟩ := hC
    rw [h0] at m2
    refine CallK.of (accept_spec ep n m2 hep hnv) ?_
    rintro _ w2 ⟨rfl, f2, h2⟩
    rw [hrr] at h2 ⊢
    refine ⟨_, rfl, rfl, m1.fresh f2 hb, ?_, ?_⟩
    · rw [upd_self]; exact h2
    · rw [ite_congr_upd (by decide)]
      split <;> rename_i hD <;> simp only [hD, if_true, if_false, Bool.false_eq_true] at m3
      · exact m3.keep f2 (fun t => by have : c = b := t; omega) (fun k hk _ t => by have : k = b := t; omega)
      · exact m3.keep f2 (fun t => by have : c = b := t; omega) (fun k hk _ t => by have : k = b := t; omega)
  refine ⟨x, rfl, hi0, hi1, ?_⟩
  refine ⟨v, fun D w1 h0 hp hC => LdK.cell (hcell w1 hC.1) ⟨rfl, hC.other (by decide) (by decide)⟩, ?_⟩
  refine ⟨n, fun D w1 h0 hp hC => CallK.of (number_spec v w1 hbz) ?_, ?_⟩
  · rintro _ _ ⟨rfl, rfl⟩; exact ⟨_, rfl, by rw [hn]; rfl, hC.other (by decide) (by decide)⟩
  refine ⟨r, fun D w1 h0 hp hC => ?_, ?_⟩
  · obtain ⟨m1, m2, m3⟩ := hC
    have h7 := hp 7 (by simp)
    rw [h0] at m3
    rw [h7] at m2
    have hcl : c < w1.heap.size := by obtain ⟨sl, hb', _⟩ := m3; exact lt_of_blk hb'
    refine CallK.of (ref_spec ep n m3 (by omega) (by omega) hep hnv) ?_
    rintro _ w2 ⟨rfl, f2, h2⟩
    rw [hrr'] at h2 ⊢
    refine ⟨_, rfl, rfl, m1.fresh f2 hc, ?_, ?_⟩
    · rw [ite_congr_upd (by decide), h7]
      exact IsWin.keep m2 f2 (fun t => by have : b = c := t; omega)
    · rw [upd_self]; exact h2
  refine ifB.f (by simp) ?_
  refine ⟨accE e ep r, fun D w1 h0 hp hC => ?_, ?_⟩
  · have hC' := hC
    obtain ⟨m1, m2, m3⟩ := hC
    rw [hp 7 (by simp)] at m2
    refine CallK.of (epoch_spec m2) ?_
    rintro _ _ ⟨rfl, rfl⟩; exact ⟨_, rfl, rfl, hC'.other (by decide) (by decide)⟩
  refine ⟨accE e ep r, fun D w1 h0 hp hC => ?_, ?_⟩
  · have hC' := hC
    obtain ⟨m1, m2, m3⟩ := hC
    rw [hp 15 (by simp)] at m3
    obtain ⟨sl, hb', _⟩ := m3
    exact LdK.fld hb' rfl ⟨rfl, hC'.other (by decide) (by decide)⟩
  refine ifB.f (by simp) ?_
  refine ⟨accH e h ep n r, fun D w1 h0 hp hC => ?_, ?_⟩
  · have hC' := hC
    obtain ⟨m1, m2, m3⟩ := hC
    rw [hp 7 (by simp)] at m2
    refine CallK.of (high_spec m2) ?_
    rintro _ _ ⟨rfl, rfl⟩; exact ⟨_, rfl, rfl, hC'.other (by decide) (by decide)⟩
  refine ⟨accH e h ep n r, fun D w1 h0 hp hC => ?_, ?_⟩
  · have hC' := hC
    obtain ⟨m1, m2, m3⟩ := hC
    rw [hp 15 (by simp)] at m3
    obtain ⟨sl, hb', _⟩ := m3
    exact LdK.fld hb' rfl ⟨rfl, hC'.other (by decide) (by decide)⟩
  intro w1 ⟨m1, m2, m3⟩
  refine ifB.f (by simp) ?_
  rw [wI (x := i + 1) (by omega) (by omega)]
  have hlen := refS_len (e := e) (h := h) (seen := seen) (ep := ep) (n := n) (r := r)
  exact ⟨⟨m1, by dsimp only; omega, by dsimp only; omega, by dsimp only; omega, _, _, _, _, m2, m3, same_books hB ep n r hrr, by dsimp only; omega⟩, by omega⟩

theorem plays_walk (a : Option Addr) (len cap : Nat) (z : List Int) (a' : Option Addr) (len' cap' : Nat) (z' : List Int) (w : World) (h0 : IsInts .i64 w a len cap z) (h1 : IsInts .i64 w a' len' cap' z') :
    Ret Try.prog 7 #[.slice a len cap, .slice a' len' cap'] w fun r w' => r = .bool true ∧ Fr none1 w w' := by
  have hlen := h0.len_le
  refine c7 a len cap a' len' cap' w _ ?_
  unfold C7
  refine CallK.of (new_spec w) ?_
  rintro _ w1 ⟨b, hb, rfl, f1, hw1⟩
  refine ⟨some ⟨b, 0, none⟩, rfl, ?_⟩
  have hbl := hw1.lt
  have hs1 := f1.size
  refine CallK.of (newref_spec w1) ?_
  rintro _ w2 ⟨c, hc, rfl, f2, hr2, hc2⟩
  refine ⟨some ⟨c, 0, none⟩, rfl, ifB.f rfl ?_⟩
  have hr2' := hr2 (c + 1)
  refine LoopK.of (PlInv w b c len) (fun (q : Int × Unit) _ => (60 - q.1).toNat) ⟨f1.trans f2, by dsimp only; omega, by dsimp only; omega, by dsimp only; omega, -1, -1, _, [], hw1.keep f2 (fun t => t), hr2', fun m _ => by simp, by simp⟩ ?_
  rintro _ ⟨i, ⟨⟩⟩ w3 ⟨F3, hi0, hi60, hil, e, h, S, seen, hw3, hr3, hB, hl⟩
  dsimp only at hi0 hi60 hil hl ⊢
  have fin : CallK Try.prog 27 #[] w3 (.v (.one .bool)) (fun (x : Bool) w' => Value.bool x = .bool true ∧ Fr none1 w w') := by
    refine CallK.of (wakes_spec _) ?_
    rintro _ w9 ⟨rfl, f9⟩
    exact ⟨true, rfl, rfl, F3.trans f9⟩
  refine ifB.dec (fun c1 => ?_) (fun _ => fin)
  refine ifB.dec (fun c2 => ?_) (fun _ => fin)
  refine JoinK.of (fun (q : Int × Unit) w' => w3 = w' ∧ q.1 ≤ 9223372036854775807) ?_ ?_
  · refine ifB.dec (fun c3 => ?_) (fun _ => ⟨rfl, by dsimp only; omega⟩)
    refine h1.ld F3 hi0 c3 ?_
    have hx := h1.i64 i.toNat
    refine CallK.of (epochn_spec _ w3 hx.1 hx.2) ?_
    rintro _ _ ⟨rfl, rfl⟩
    exact ⟨_, rfl, rfl, pep_hi hx.2⟩
  rintro _ ⟨ep, ⟨⟩⟩ _ ⟨rfl, hep⟩
  dsimp only at hep ⊢
  refine ifB.by (fun _ => ?_) (fun _ => round_ok h0 i hi0 c1 c2 ep hep F3 hb (by omega) (by omega) hw3 hr3 hB hl)
  refine CallK.of (clone_spec hw3) ?_
  rintro _ w4 ⟨d, hd, rfl, f4, hw4⟩
  refine ⟨some ⟨d, 0, none⟩, rfl, ifB.f rfl ?_⟩
  refine CallK.of (high_spec hw4) ?_
  rintro _ _ ⟨rfl, rfl⟩
  refine ⟨_, rfl, ?_⟩
  have hw3' := hw3.keep f4 (fun t => t)
  refine CallK.of (high_spec hw3') ?_
  rintro _ _ ⟨rfl, rfl⟩
  refine ⟨_, rfl, ifB.f (by simp) ?_⟩
  refine CallK.of (accept_spec 1000 0 hw4 (by omega) (by omega)) ?_
  rintro _ w5 ⟨rfl, f5, hw5⟩
  refine ⟨_, rfl, ?_⟩
  have hcl : c < w3.heap.size := by obtain ⟨sl, hb', _⟩ := hr3; exact lt_of_blk hb'
  have hbl3 := hw3.lt
  have hs3 := F3.size
  refine round_ok h0 i hi0 c1 c2 ep hep ((F3.trans f4).fresh f5 (by omega)) hb (by omega) (by omega) (hw3'.keep f5 (fun t => by have : b = d := t; omega)) ?_ hB hl
  obtain ⟨sl, q1, q2, q3, q4⟩ := hr3
  have q2' := q2.keep0 f4
  refine ⟨sl, (f4.keep0 q1).trans rfl |> fun q => f5.keep1 q (by omega), q2'.keep f5 (fun k hk t => ?_), q3, q4⟩
  have := q2.lt hk
  have : k = d := t
  omega

end Go.Proofs.Ytejhjjafmobmbaa
