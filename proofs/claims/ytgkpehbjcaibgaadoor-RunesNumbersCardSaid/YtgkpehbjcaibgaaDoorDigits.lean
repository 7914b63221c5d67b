/-
  RunesNumbers: a number is read as its digits say, with a sign or without; ahead of it, or behind, nothing may stand; nor above the greatest.
  Conditions: none beyond the statement's own.
-/
import Derived.Test.YtgkpehbjcaibgaaDoorStrSpec
import Derived.Test.YtgkpehbjcaibgaaDoorWithinSpec
import Derived.WalkKit
import Derived.Deep.RegionWith
import Derived.KernelRfl
set_option linter.unusedVariables false
set_option maxRecDepth 100000
namespace Go.Proofs.YtgkpehbjcaibgaaDoor
open Vc
open Go.RowKit

def isU8 : Option Value → Bool
  | some (.int .u8 x) => decide (0 ≤ x) && decide (x ≤ 255)
  | _ => false
def u8of : Option Value → Int
  | some (.int .u8 x) => x
  | _ => 0
def oneB (x : Int) : ByteArray := str [UInt8.ofNat x.toNat]
theorem conv_one (W : World) (g : Nat) (h : isU8 (W.cell? ⟨g, 0, none⟩) = true) : (convert 22 9 (.slice (some ⟨g, 0, none⟩) 1 1)).run Tryd.prog W = .ok (.string (oneB (u8of (W.cell? ⟨g, 0, none⟩)))) W := by
  unfold isU8 at h
  split at h
  · rename_i x hx
    rw [hx]
    have hx01 : 0 ≤ x ∧ x ≤ 255 := by simpa using h
    refine run_convert_bytes_back W 22 9 5 ⟨g, 0, none⟩ 1 [UInt8.ofNat x.toNat] Tryd.underlying22 Tryd.underlying5 Tryd.underlying9 (fun j hj => ?_)
    have : j = 0 := by simpa using hj
    subst this
    rw [addr_add, hx]
    have : (((UInt8.ofNat x.toNat).toNat : Nat) : Int) = x := by rw [u8_of (by omega)]; omega
    show some (Value.int .u8 x) = some (.int .u8 ((UInt8.ofNat x.toNat).toNat : Int))
    rw [this]
  · cases h

theorem keep_of {w w' : World} (f : Fr none1 w w') : ∀ a : Addr, (w.cell? a).isSome = true → w'.cell? a = w.cell? a := fun a h => by
  cases hc : w.cell? a with
  | none => rw [hc] at h; cases h
  | some v => exact f.cell0 hc

set_option maxHeartbeats 3200000 in
theorem digits_big (n m : Int) (d : ByteArray) (w : World) (h10 : 10 ≤ n) (hn : n ≤ 1000000000000) (hm : IntKind.i64.wrap (n.tdiv 10) = m) (hsz : d.size ≤ 100)
    (c : ∀ w, Calls Tryd.prog 11 #[.int .i64 m] w fun e w' => e = .returned (.string d) ∧ Fr none1 w w') :
    Calls Tryd.prog 11 #[.int .i64 n] w fun e w' => e = .returned (.string (d ++ oneB (IntKind.u8.wrap (IntKind.i64.wrap (48 + n.tmod 10))))) ∧ Fr none1 w w' := by
  have h0 : ¬ n < 0 := by omega
  have h1 : ¬ n < 10 := by omega
  have hconv := conv_one
  have hisu : ∀ y, isU8 (some (.int .u8 (IntKind.u8.wrap y))) = true := fun y => by
    show (decide (0 ≤ IntKind.u8.wrap y) && decide (IntKind.u8.wrap y ≤ 255)) = true
    rw [IntKind.wrap_u8, decide_eq_true (by omega), decide_eq_true (by omega)]; rfl
  have hu8 : ∀ x, u8of (some (.int .u8 x)) = x := fun x => rfl
  have halloc : ∀ (W : World) (x : Int), (W.alloc (.cells #[.int .u8 x] 5)).cell? ⟨W.heap.size, 0, none⟩ = some (.int .u8 x) := fun W x => by
    unfold World.cell? World.alloc
    simp
  have hadd : ∀ (W : World) (x : Int), (Op.stringOp .add d (oneB x)).run Tryd.prog W = .ok (.string (d ++ oneB x)) W := fun W x => by
    have : (oneB x).size = 1 := rfl
    exact run_string_add_sum W d (oneB x) (by omega)
  go_enter Tryd.func11, Tryd.ntmps11
  go_wp2
  go_region_with (go_at_call 11; refine (c _).mono ?_; rintro e w' ⟨rfl, hf⟩; have hk := keep_of hf)
  all_goals (go_wp2; go_ret)
  all_goals refine ⟨rfl, ?_⟩
  · exact ((drew_fr w).trans hf).trans (push_fr _ _)
  · exact ((push_fr _ _).trans (drew_fr _)).trans hf
  all_goals exact ((push_fr _ _).trans (drew_fr _)).trans hf

/-! ### Plain -/
def digL (n : Nat) : List UInt8 := if n < 10 then [UInt8.ofNat (48 + n)] else digL (n / 10) ++ [UInt8.ofNat (48 + n % 10)]
termination_by n
decreasing_by omega

theorem digL_lo {n : Nat} (h : n < 10) : digL n = [UInt8.ofNat (48 + n)] := by rw [digL, if_pos h]
theorem digL_hi {n : Nat} (h : ¬ n < 10) : digL n = digL (n / 10) ++ [UInt8.ofNat (48 + n % 10)] := by rw [digL, if_neg h]
theorem isD_of {k : Nat} (h : k < 10) : isD (UInt8.ofNat (48 + k)) = true := by
  unfold isD
  rw [u8_of (by omega), decide_eq_true (by omega), decide_eq_true (by omega)]; rfl

theorem digL_ok : ∀ n : Nat, digL n ≠ [] ∧ (∀ c ∈ digL n, isD c = true) ∧ valL (digL n) = n ∧ ((digL n).getD 0 0 = 48 → n = 0) ∧ (∀ k : Nat, 1 ≤ k → n < 10 ^ k → (digL n).length ≤ k) := by
  intro n
  induction n using Nat.strongRecOn with
  | _ n ih =>
    by_cases h : n < 10
    · rw [digL_lo h]
      refine ⟨by simp, fun c hc => ?_, ?_, fun t => ?_, fun k hk _ => by simpa using hk⟩
      · simp only [List.mem_singleton] at hc; rw [hc]; exact isD_of h
      · show (0 : Int) * 10 + (((UInt8.ofNat (48 + n)).toNat : Int) - 48) = n
        rw [u8_of (by omega)]; omega
      · have t : UInt8.ofNat (48 + n) = 48 := t
        have := congrArg UInt8.toNat t
        rw [u8_of (by omega)] at this
        have e : (48 : UInt8).toNat = 48 := rfl
        omega
    · obtain ⟨i1, i2, i3, i4, i5⟩ := ih (n / 10) (by omega)
      rw [digL_hi h]
      refine ⟨by simp, fun c hc => ?_, ?_, fun t => ?_, fun k hk hlt => ?_⟩
      · rcases List.mem_append.1 hc with hc | hc
        · exact i2 c hc
        · simp only [List.mem_singleton] at hc; rw [hc]; exact isD_of (by omega)
      · rw [valL_snoc, i3, u8_of (by omega)]; omega
      · have hp : 0 < (digL (n / 10)).length := List.length_pos_iff.2 i1
        rw [List.getD_eq_getElem?_getD, List.getElem?_append_left hp, ← List.getD_eq_getElem?_getD] at t
        have := i4 t
        omega
      · obtain ⟨k', rfl⟩ : ∃ k', k = k' + 1 := ⟨k - 1, by omega⟩
        have hk1 : 1 ≤ k' := by
          cases k' with
          | zero => simp at hlt; omega
          | succ k' => omega
        have hlt' : n / 10 < 10 ^ k' := by rw [Nat.pow_succ] at hlt; omega
        have := i5 k' hk1 hlt'
        simp only [List.length_append, List.length_singleton]
        omega
theorem digL_13 {n : Nat} (h : n ≤ 1000000000000) : (digL n).length ≤ 13 := (digL_ok n).2.2.2.2 13 (by omega) (by omega)

theorem digits_spec : ∀ n : Nat, n ≤ 1000000000000 → ∀ w, Ret Tryd.prog 11 #[.int .i64 (n : Int)] w fun r w' => r = .string (str (digL n)) ∧ Fr none1 w w' := by
  intro n
  induction n using Nat.strongRecOn with
  | _ n ih =>
    intro hn w
    by_cases h : n < 10
    · rw [digL_lo h]
      refine c11 _ w _ ?_
      unfold C11
      refine ifB.no (by omega) (ifB.yes (by omega) ?_)
      have e : IntKind.u8.wrap (IntKind.i64.wrap (48 + (n : Int))) = ((UInt8.ofNat (48 + n)).toNat : Int) := by
        rw [wI (by omega) (by omega), IntKind.wrap_u8, u8_of (by omega)]; omega
      rw [e]
      have elem8 : ElemOk Tryd.prog 22 5 1 (.int .u8 0) 1 := ⟨Tryd.underlying22, ⟨Tryd.t5, by kernel_rfl, rfl, rfl, rfl⟩, rfl, by decide⟩
      obtain ⟨x, w1, r1, hx, hxl, f1, xf⟩ := one_ok (P := Tryd.prog) (w := w) elem8 (.int .u8 ((UInt8.ofNat (48 + n)).toNat : Int)) rfl
      refine ⟨x, w1, r1, ?_⟩
      have hr := IsSl.rd hx
      cases hv : x.1 with
      | none => have := (hr.2.1 hv).1; omega
      | some a =>
        have hc := hr.2.2 a hv
        refine ⟨str [UInt8.ofNat (48 + n)], w1, ?_, rfl, f1⟩
        rw [hxl]
        exact run_convert_bytes_back w1 22 9 5 a x.2.2 [UInt8.ofNat (48 + n)] Tryd.underlying22 Tryd.underlying5 Tryd.underlying9 (fun j hj => by
          have : j = 0 := by simpa using hj
          subst this
          exact hc.1)
    · have hm : IntKind.i64.wrap ((n : Int).tdiv 10) = ((n / 10 : Nat) : Int) := by
        rw [Int.tdiv_eq_ediv_of_nonneg (by omega), wI (by omega) (by omega)]; omega
      have hsz : (str (digL (n / 10))).size ≤ 100 := by rw [str_size]; have := digL_13 (n := n / 10) (by omega); omega
      have := digits_big (n : Int) ((n / 10 : Nat) : Int) (str (digL (n / 10))) w (by omega) (by omega) hm hsz (fun w => (Calls.mono (ih (n / 10) (by omega) (by omega) w) fun e w' ⟨v, he, hv, hf⟩ => ⟨by rw [he, hv], hf⟩))
      refine Calls.mono this fun e w' ⟨he, hf⟩ => ⟨_, he, ?_, hf⟩
      have e1 : IntKind.u8.wrap (IntKind.i64.wrap (48 + (n : Int).tmod 10)) = ((48 + n % 10 : Nat) : Int) := by
        rw [Int.tmod_eq_emod_of_nonneg (by omega), wI (by omega) (by omega), IntKind.wrap_u8]; omega
      rw [digL_hi h, e1]
      unfold oneB
      rw [str_app, Int.toNat_natCast]

theorem numF_bad {s : List UInt8} (h : ∃ c ∈ noMinus s, isD c = false) : numF s = (0, false) := by
  unfold numF
  rw [if_pos]
  refine .inr (.inr (.inl ?_))
  obtain ⟨c, hc, hb⟩ := h
  cases ha : (noMinus s).all isD with
  | false => rfl
  | true => rw [List.all_eq_true.1 ha c hc] at hb; cases hb

theorem nm_other {c : UInt8} {s : List UInt8} (h : c ≠ 45) : noMinus (c :: s) = c :: s := by
  unfold noMinus
  rw [if_neg]
  intro t
  simp at t
  exact h t
theorem nm_minus (s : List UInt8) : noMinus (45 :: s) = s := by
  unfold noMinus
  rw [if_pos (by simp)]
  rfl
theorem nm_dig {s t : List UInt8} (hne : s ≠ []) (h : ∀ c ∈ s, isD c = true) : noMinus (s ++ t) = s ++ t := by
  cases s with
  | nil => exact absurd rfl hne
  | cons c s =>
    have hc := h c (by simp)
    refine nm_other fun e => ?_
    rw [e] at hc
    exact absurd hc (by decide)

def tries (s : List UInt8) : List (List UInt8) := [[], [45], 43 :: s, 48 :: s, [45, 45] ++ s, s ++ [32], 32 :: s, s ++ [120], [49, 48, 48, 48, 48, 48, 48, 48, 48, 48, 48, 48, 49], [45, 49, 48, 48, 48, 48, 48, 48, 48, 48, 48, 48, 48, 49], [57, 57, 57, 57, 57, 57, 57, 57, 57, 57, 57, 57, 57], [49, 48, 48, 48, 48, 48, 48, 48, 48, 48, 48, 48, 48, 48], [45, 48]]
theorem tries_ok {n : Nat} : ∀ t ∈ tries (digL n), numF t = (0, false) := by
  obtain ⟨hne, hd, _, _, _⟩ := digL_ok n
  have hlast : ∀ (x : UInt8), isD x = false → numF (digL n ++ [x]) = (0, false) := fun x hx => numF_bad ⟨x, by rw [nm_dig hne hd]; simp, hx⟩
  intro t ht
  simp only [tries, List.mem_cons, List.mem_nil_iff, or_false] at ht
  rcases ht with h | h | h | h | h | h | h | h | h | h | h | h | h <;> subst h
  · rfl
  · rfl
  · exact numF_bad ⟨43, by rw [nm_other (by decide)]; simp, by decide⟩
  · unfold numF
    rw [nm_other (by decide), if_pos]
    refine .inr (.inr (.inr ⟨rfl, fun e => hne ?_⟩))
    simpa using e
  · exact numF_bad ⟨45, by show (45 : UInt8) ∈ noMinus (45 :: (45 :: digL n)); rw [nm_minus]; simp, by decide⟩
  · exact hlast 32 (by decide)
  · exact numF_bad ⟨32, by rw [nm_other (by decide)]; simp, by decide⟩
  · exact hlast 120 (by decide)
  all_goals decide

theorem numF_dig {n : Nat} (h : n ≤ 1000000000000) : numF (digL n) = ((n : Int), true) := by
  obtain ⟨hne, hd, hv, h0, _⟩ := digL_ok n
  have h13 := digL_13 h
  have hnm : noMinus (digL n) = digL n := by have := nm_dig (t := []) hne hd; simpa using this
  have ht1 : (digL n).take 1 ≠ [45] := fun t => by
    cases hl : digL n with
    | nil => exact hne hl
    | cons c l =>
      rw [hl] at t
      have hc := hd c (by rw [hl]; simp)
      simp at t
      rw [t] at hc
      exact absurd hc (by decide)
  unfold numF
  rw [hnm, if_neg, hv, if_neg (by omega), if_neg ht1]
  rintro (t | t | t | t)
  · exact hne t
  · omega
  · rw [List.all_eq_true.2 hd] at t; cases t
  · have := h0 t.1
    subst this
    exact t.2 (by rw [digL_lo (by omega)]; rfl)
theorem numF_neg {n : Nat} (h : n ≤ 1000000000000) : numF (45 :: digL n) = if n = 0 then (0, false) else (-(n : Int), true) := by
  obtain ⟨hne, hd, hv, h0, _⟩ := digL_ok n
  have h13 := digL_13 h
  unfold numF
  rw [nm_minus]
  by_cases hn : n = 0
  · rw [if_pos hn, if_pos]
    subst hn
    refine .inr (.inr (.inr ⟨by rw [digL_lo (by omega)]; rfl, by simp⟩))
  · rw [if_neg hn, if_neg, hv, if_neg (by omega), if_pos (by simp)]
    rintro (t | t | t | t)
    · exact hne t
    · omega
    · rw [List.all_eq_true.2 hd] at t; cases t
    · exact hn (h0 t.1)

theorem numbers_walk (p0 : Int) (w : World) (h0 : (Go.Lit.int .i64 p0).wf = true) : Ret Tryd.prog 4 #[.int .i64 p0] w fun r w' => r = .bool true ∧ Fr none1 w w' := by
  refine c4 _ w _ ?_
  unfold C4
  have e0 : (⟨#[]⟩ : ByteArray) = str [] := rfl
  have e45 : (⟨#[45]⟩ : ByteArray) = str [45] := rfl
  have e43 : (⟨#[43]⟩ : ByteArray) = str [43] := rfl
  have e48 : (⟨#[48]⟩ : ByteArray) = str [48] := rfl
  have e4545 : (⟨#[45, 45]⟩ : ByteArray) = str [45, 45] := rfl
  have e32 : (⟨#[32]⟩ : ByteArray) = str [32] := rfl
  have e120 : (⟨#[120]⟩ : ByteArray) = str [120] := rfl
  have eA : (⟨#[49, 48, 48, 48, 48, 48, 48, 48, 48, 48, 48, 48, 49]⟩ : ByteArray) = str [49, 48, 48, 48, 48, 48, 48, 48, 48, 48, 48, 48, 49] := rfl
  have eB : (⟨#[45, 49, 48, 48, 48, 48, 48, 48, 48, 48, 48, 48, 48, 49]⟩ : ByteArray) = str [45, 49, 48, 48, 48, 48, 48, 48, 48, 48, 48, 48, 48, 49] := rfl
  have eC : (⟨#[57, 57, 57, 57, 57, 57, 57, 57, 57, 57, 57, 57, 57]⟩ : ByteArray) = str [57, 57, 57, 57, 57, 57, 57, 57, 57, 57, 57, 57, 57] := rfl
  have eD : (⟨#[49, 48, 48, 48, 48, 48, 48, 48, 48, 48, 48, 48, 48, 48]⟩ : ByteArray) = str [49, 48, 48, 48, 48, 48, 48, 48, 48, 48, 48, 48, 48, 48] := rfl
  have eE : (⟨#[45, 48]⟩ : ByteArray) = str [45, 48] := rfl
  refine CallK.of (within_spec p0 1000000000001 w (by omega)) ?_
  rintro _ _ ⟨rfl, rfl⟩
  refine ⟨_, rfl, ?_⟩
  have hlo := within_lo p0 1000000000001
  have hhi := within_hi p0 (n := 1000000000001) (by omega)
  obtain ⟨n, hn⟩ : ∃ n : Nat, within p0 1000000000001 = n := ⟨(within p0 1000000000001).toNat, by omega⟩
  rw [hn] at hlo hhi ⊢
  have hn12 : n ≤ 1000000000000 := by omega
  refine CallK.of (digits_spec n hn12 w) ?_
  rintro _ w1 ⟨rfl, f1⟩
  refine ⟨_, rfl, ?_⟩
  have h13 := digL_13 hn12
  rw [e0, e45, e43, e48, e4545, e32, e120, eA, eB, eC, eD, eE]
  simp only [str_app]
  have cat : ∀ (a b : List UInt8) (K : Prop), a.length + b.length ≤ 100 → K → CatK (str a) (str b) K := fun a b K hl k => ⟨by rw [str_size, str_size]; show ((a.length + b.length : Nat) : Int) ≤ 9223372036854775807; omega, k⟩
  refine CallK.of (number_spec (digL n) (by omega) w1) ?_
  rintro _ w2 ⟨rfl, f2⟩
  refine ⟨((numF (digL n)).1, (numF (digL n)).2, ()), rfl, ?_⟩
  refine cat _ _ _ (by simp only [List.length_cons, List.length_nil]; omega) ?_
  refine CallK.of (number_spec (45 :: digL n) (by simp only [List.length_cons]; omega) w2) ?_
  rintro _ w3 ⟨rfl, f3⟩
  refine ⟨((numF (45 :: digL n)).1, (numF (45 :: digL n)).2, ()), rfl, ?_⟩
  refine cat _ _ _ (by simp only [List.length_cons, List.length_nil]; omega) (cat _ _ _ (by simp only [List.length_cons, List.length_nil]; omega) (cat _ _ _ (by simp only [List.length_cons, List.length_nil]; omega) (cat _ _ _ (by simp only [List.length_cons, List.length_nil]; omega) (cat _ _ _ (by simp only [List.length_cons, List.length_nil]; omega) (cat _ _ _ (by simp only [List.length_cons, List.length_nil]; omega) ?_)))))
  have elemS : ElemOk Tryd.prog 33 9 1 (.string ByteArray.empty) 16 := ⟨Tryd.underlying33, ⟨Tryd.t9, by kernel_rfl, rfl, rfl, rfl⟩, rfl, by decide⟩
  obtain ⟨x, w4, r4, hx, hxl, f4, xf⟩ := lit_ok (P := Tryd.prog) (w := w3) elemS ((tries (digL n)).map fun t => Value.string (str t)) (by intro v hv; obtain ⟨x, _, rfl⟩ := List.mem_map.1 hv; rfl) (by simp [tries])
  have hxl13 : x.2.1 = 13 := hxl
  refine ⟨x, w4, r4, ?_⟩
  have f14 := ((f1.trans f2).trans f3).trans f4
  refine LoopK.of (fun q w' => 0 ≤ q.1 ∧ q.1 ≤ 13 ∧ Fr none1 w4 w') (fun q _ => (13 - q.1).toNat) ⟨Int.le_refl _, by dsimp only; omega, Fr.refl _ _⟩ ?_
  rintro _ ⟨i, _⟩ w5 ⟨i0, i1, f5⟩
  dsimp only at i0 i1 ⊢
  refine ifB.dec (fun hlt => ?_) (fun hge => ?_)
  · have hi : i.toNat < (tries (digL n)).length := by show _ < 13; omega
    refine IsSl.ld (IsSl.keep0 hx f5) (c := .str) (x := str (tries (digL n))[i.toNat]) i0 hlt (by rw [List.getElem?_map, List.getElem?_eq_getElem hi]; rfl) ?_
    have hmem : (tries (digL n))[i.toNat] ∈ tries (digL n) := List.getElem_mem _
    have hlen : ((tries (digL n))[i.toNat]).length ≤ 100 := by
      generalize (tries (digL n))[i.toNat] = t at hmem
      simp only [tries, List.mem_cons, List.mem_nil_iff, or_false] at hmem
      rcases hmem with h | h | h | h | h | h | h | h | h | h | h | h | h <;> subst h <;> simp only [List.length_cons, List.length_nil, List.length_append] <;> omega
    refine CallK.of (number_spec _ (by omega) w5) ?_
    rintro _ w6 ⟨rfl, f6⟩
    rw [tries_ok _ hmem]
    refine ⟨(0, false, ()), rfl, ifB.f rfl (ifB.f rfl ?_)⟩
    rw [wI (x := i + 1) (by omega) (by omega)]
    exact ⟨⟨by omega, by omega, f5.trans f6⟩, by omega⟩
  · rw [numF_dig hn12, numF_neg hn12]
    dsimp only
    refine ifB.t rfl (ifB.t (by simp) (ifB.t ?_ (ifB.t ?_ ?_)))
    · by_cases h0 : n = 0
      · subst h0; rfl
      · rw [if_neg h0]
        have : ((n : Int) != 0) = true := by simp only [bne_iff_ne, ne_eq]; omega
        rw [this]; rfl
    · rw [wI (x := 0 - (n : Int)) (by omega) (by omega)]
      by_cases h0 : n = 0
      · subst h0; rfl
      · rw [if_neg h0]; simp
    refine CallK.of (wakes1_spec w5) ?_
    rintro _ w6 ⟨rfl, f6⟩
    exact ⟨_, rfl, rfl, (f14.trans f5).trans f6⟩

end Go.Proofs.YtgkpehbjcaibgaaDoor
