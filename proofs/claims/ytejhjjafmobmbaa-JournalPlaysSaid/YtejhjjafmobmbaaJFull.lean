/-
  JournalFull: a record that has no room is refused, and nothing has changed; one that has goes in: so Room says.
  Conditions: none beyond the statement's own.
-/
import Derived.Test.YtejhjjafmobmbaaJPut
import Derived.Test.YtejhjjafmobmbaaCJFull
set_option linter.unusedVariables false
namespace Go.Proofs.Ytejhjjafmobmbaa
open Vc

theorem zeros_lt {w : World} {n : Int} (h0 : 0 ≤ n) (h1 : n ≤ 1000000) {K : Sl → World → Prop} (k : ∀ u w', RdB w' u (List.replicate n.toNat 0) → Fr none1 w w' → (∀ k, blkOf u k → w.heap.size ≤ k ∧ k < w'.heap.size) → K u w') :
    RunK Try.prog (Instr.makeSlice 53 (.int .i64 n) (.int .i64 n)) w (.v (.one .slc)) (fun (u : Option Addr × Nat × Nat) w' => K u w') := by
  obtain ⟨v, w1, hr, hx, _, _, f1, hf⟩ := make_ok (P := Try.prog) (w := w) (k := .i64) (k' := .i64) (n := n) (m := n) elem_byte rfl h0 (Int.le_refl _) (by omega)
  refine ⟨v, w1, hr, k v w1 ?_ f1 (fun k hk => ⟨hf k hk, IsSl.lt hx hk⟩)⟩
  have : (List.replicate n.toNat (0 : UInt8)).map bc = List.replicate n.toNat (.int .u8 0) := by rw [List.map_replicate]; rfl
  unfold RdB; rw [this]; exact hx.rd

/-- The journal where so many bytes are left, of a quota, and k records are there. -/
structure Fill (w0 w : World) (p b : Nat) (q left k : Int) : Prop where
  out : ∃ (S : Nat → Prop) (g : Nat) (s : FileS) (rs : List (List UInt8)), IsJ w S p b g s false rs ∧ (∀ k, S k → w0.heap.size ≤ k) ∧ s.lit = false ∧ s.dead = false ∧ s.quota = q ∧ (s.b.length : Int) = q - left ∧ (rs.length : Int) = k ∧ (∀ r ∈ rs, r.length ≤ 100)
  fr : Fr none1 w0 w

theorem Fill.keep0 {w0 w w' : World} {p b : Nat} {q left k : Int} (h : Fill w0 w p b q left k) (f : Fr none1 w w') : Fill w0 w' p b q left k := by
  obtain ⟨⟨S, g, s, rs, a, r⟩, fr⟩ := h
  exact ⟨⟨S, g, s, rs, a.keep0 f, r⟩, fr.trans f⟩

theorem full_walk (q0 : Int) (a : Option Addr) (len cap : Nat) (z : List Int) (w : World) (h0 : (Go.Lit.int .i64 q0).wf = true) (h1 : IsInts .i64 w a len cap z) :
    Ret Try.prog 20 #[.int .i64 q0, .slice a len cap] w fun r w' => r = .bool true ∧ Fr none1 w w' := by
  have hlen := h1.len_le
  refine c20 q0 a len cap w _ ?_
  unfold C20
  refine CallK.of (within_spec q0 120 w (by omega)) ?_
  rintro _ _ ⟨rfl, rfl⟩
  refine ⟨_, rfl, ?_⟩
  have qlo := within_lo q0 120
  have qhi := within_hi q0 (n := 120) (by omega)
  generalize within q0 120 = q at qlo qhi
  have hq : (newF q).quota = q := by
    show (if 65536 < (if 0 > q then 0 else q) then 65536 else (if 0 > q then 0 else q)) = q
    rw [if_neg (show ¬ 0 > q by omega), if_neg (by omega)]
  refine CallK.of (fnew_spec q w) ?_
  rintro _ w1 ⟨b, rfl, hb, f1, i1⟩
  refine ⟨some ⟨b, 0, none⟩, rfl, ifB.f rfl ?_⟩
  refine CallK.of (open_none i1 rfl rfl) ?_
  rintro _ w2 ⟨p, S, rfl, hp, f2, hS, j2⟩
  refine ⟨(some ⟨p, 0, none⟩, 0, ()), rfl, ifB.f rfl (ifB.f rfl ?_)⟩
  have s01 := f1.size
  have hwp : w.heap.size ≤ p := by omega
  have F0 : Fill w w2 p b q q 0 := ⟨⟨S, b, newF q, [], j2, fun k hk => Nat.le_trans s01 (hS k hk), rfl, rfl, hq, by show ((([] : List UInt8).length : Nat) : Int) = _; simp, rfl, by simp⟩, f1.trans f2⟩
  refine LoopK.of (fun s w' => 0 ≤ s.1 ∧ s.1 ≤ q ∧ 0 ≤ s.2.1 ∧ s.2.1 ≤ s.2.2.1 ∧ s.2.2.1 ≤ 12 ∧ Fill w w' p b q s.1 s.2.1) (fun s _ => (12 - s.2.2.1).toNat) ⟨qlo, Int.le_refl _, Int.le_refl _, Int.le_refl _, by dsimp only; omega, F0⟩ ?_
  rintro _ ⟨left, k, i, _⟩ w3 ⟨l0, l1, k0, k1, i1, hF⟩
  dsimp only at l0 l1 k0 k1 i1 hF ⊢
  -- what is asked behind each record
  have tail : ∀ (L k' : Int) (w4 : World), 0 ≤ L → L ≤ q → 0 ≤ k' → k' ≤ i + 1 → i < 12 → Fill w w4 p b q L k' →
      CallK Try.prog 68 #[.pointer (some ⟨p, 0, none⟩)] w4 (.v (.one .slc)) (fun (x26 : Option Addr × Nat × Nat) w27 => ifB ((x26.2.1 : Int) != k')
  ((.bool false : Value) = .bool true ∧ Fr none1 w w27)
  (CallK Try.prog 70 #[.pointer (some ⟨p, 0, none⟩), .int .i64 (IntKind.i64.wrap (L - 3))] w27 (.v (.one .bool)) (fun (x28 : Bool) w29 => ifB (!(x28 == (decide (L ≥ 3))))
  ((.bool false : Value) = .bool true ∧ Fr none1 w w29)
  (CallK Try.prog 70 #[.pointer (some ⟨p, 0, none⟩), .int .i64 (IntKind.i64.wrap (L - 2))] w29 (.v (.one .bool)) (fun (x30 : Bool) w31 => ifB x30
  ((.bool false : Value) = .bool true ∧ Fr none1 w w31)
  (CallK Try.prog 46 #[.pointer (some ⟨b, 0, none⟩)] w31 (.v (.one .slc)) (fun (x32 : Option Addr × Nat × Nat) w33 => ifB ((x32.2.1 : Int) != (IntKind.i64.wrap (q - L)))
  ((.bool false : Value) = .bool true ∧ Fr none1 w w33)
  ((0 ≤ L ∧ L ≤ q ∧ 0 ≤ k' ∧ k' ≤ IntKind.i64.wrap (i + 1) ∧ IntKind.i64.wrap (i + 1) ≤ 12 ∧ Fill w w33 p b q L k') ∧ (12 - IntKind.i64.wrap (i + 1)).toNat < (12 - i).toNat)))))))) := fun L k' w4 a1 a2 a3 a4 a5 hF4 => by
    obtain ⟨⟨S, g, s, rs, j4, hS4, e1, e2, e3, e4, e5, e6⟩, F4⟩ := id hF4
    refine CallK.of (records_spec j4 (by omega) (fun r hr => by have := e6 r hr; omega)) ?_
    rintro _ w5 ⟨v, S5, rfl, hv, f5, _⟩
    have hvl := hv.len
    refine ⟨v, rfl, ifB.f (by rw [hvl, e5]; simp) ?_⟩
    have j5 := j4.keep0 f5
    rw [wI (x := L - 3) (by omega) (by omega), wI (x := L - 2) (by omega) (by omega), wI (x := q - L) (by omega) (by omega), wI (x := i + 1) (by omega) (by omega)]
    refine CallK.of (room_spec j5 (L - 3)) ?_
    rintro _ w6 ⟨rfl, f6⟩
    have r1 : roomF s (L - 3) = decide (L ≥ 3) := by
      unfold roomF
      rw [e3, e4]
      by_cases h : L ≥ 3
      · rw [decide_eq_true (p := 0 ≤ L - 3) (by omega), decide_eq_true (p := L - 3 ≤ 4000) (by omega), decide_eq_true (p := L - 3 + 3 ≤ q - (q - L)) (by omega), decide_eq_true h]; rfl
      · rw [decide_eq_false (p := 0 ≤ L - 3) (by omega), decide_eq_false h]; rfl
    rw [r1]
    refine ⟨_, rfl, ifB.f (by simp) ?_⟩
    refine CallK.of (room_spec (j5.keep0 f6) (L - 2)) ?_
    rintro _ w7 ⟨rfl, f7⟩
    have r2 : roomF s (L - 2) = false := by
      unfold roomF
      rw [e3, e4, decide_eq_false (p := L - 2 + 3 ≤ q - (q - L)) (by omega), Bool.and_false]
    rw [r2]
    refine ⟨_, rfl, ifB.f rfl ?_⟩
    refine CallK.of (fbytes_spec ((j5.keep0 f6).keep0 f7).file) ?_
    rintro _ w8 ⟨u, rfl, hu, f8, _⟩
    have hul := hu.len
    refine ⟨u, rfl, ifB.f (by rw [hul, e4]; simp) ?_⟩
    exact ⟨⟨a1, a2, a3, by omega, by omega, (((hF4.keep0 f5).keep0 f6).keep0 f7).keep0 f8⟩, by omega⟩
  refine JoinK.of (fun t w' => w3 = w' ∧ t.1 = (decide (i < len) && decide (i < 12))) (ifB.dec (fun h => ⟨rfl, by rw [decide_eq_true h, Bool.true_and]⟩) (fun h => ⟨rfl, by rw [decide_eq_false h, Bool.false_and]⟩)) ?_
  rintro _ ⟨t, _⟩ _ ⟨rfl, ht⟩
  dsimp only at ht ⊢
  rw [ht]
  obtain ⟨⟨S3, g3, s, rs, j3, hS3, e1, e2, e3, e4, e5, e6⟩, F3⟩ := id hF
  refine ifB.by (fun hin => ?_) (fun hout => ?_)
  · rw [Bool.and_eq_true, decide_eq_true_eq, decide_eq_true_eq] at hin
    refine IsInts.ld h1 F3 (by omega) hin.1 ?_
    refine CallK.of (within_spec _ 40 w3 (by omega)) ?_
    rintro _ _ ⟨rfl, rfl⟩
    refine ⟨_, rfl, ?_⟩
    have nlo := within_lo (z.getD i.toNat 0) 40
    have nhi := within_hi (z.getD i.toNat 0) (n := 40) (by omega)
    generalize within (z.getD i.toNat 0) 40 = n at nlo nhi
    refine zeros_lt nlo (by omega) fun x w4 hx f4 hxf => ?_
    have j4 := j3.keep0 f4
    have pl3 := j3.plt
    have bl3 := j3.file.lt
    have sl3 := j3.slt
    have hxo : ∀ k, blkOf x k → k < w4.heap.size ∧ k ≠ p ∧ k ≠ b ∧ ¬ S3 k := fun k hk => by
      have := hxf k hk
      exact ⟨this.2, by omega, by omega, fun t => by have := sl3 k t; omega⟩
    rw [wI (x := n + 3) (by omega) (by omega)]
    have hxl : (List.replicate n.toNat (0 : UInt8)).length = n.toNat := by simp
    have put := put_spec j4 hx hxo (by omega)
    have hF4 : ∀ w5, Fr (inJ S3 p b) w4 w5 → Fr none1 w w5 := fun w5 f5 => (F3.trans f4).comp f5 (fun k hk t => by
      rcases t with t | t | t
      · omega
      · omega
      · have := hS3 k t; omega)
    by_cases hroom : n + 3 ≤ left
    · obtain ⟨a1, a2, a3, a4, a5, a6, a7, a8⟩ := putJ_ok (s := s) (x := List.replicate n.toNat 0) e1 e2 (by omega) (by rw [hxl, e3, e4]; omega)
      refine CallK.of put ?_
      rw [a1, a2, a3]
      rintro _ w5 ⟨rfl, f5, S5, g5, hS5, _, j5⟩
      refine ⟨_, rfl, ?_⟩
      have hFl : Fill w w5 p b q (left - n - 3) (k + 1) := by
        refine ⟨⟨S5, g5, _, _, j5, fun k hk => ?_, a7, a8, a5.trans e3, ?_, ?_, fun r hr => ?_⟩, hF4 w5 f5⟩
        · rcases hS5 k hk with t | t
          · exact hS3 k t
          · exact Nat.le_trans (F3.trans f4).size t
        · rw [a4, List.length_append, packL_len, hxl]; omega
        · simp only [List.length_append, if_true, List.length_singleton]; omega
        · simp only [if_true, List.mem_append, List.mem_singleton] at hr
          rcases hr with t | t
          · exact e6 r t
          · rw [t, hxl]; omega
      refine JoinK.of (fun t w' => w5 = w' ∧ t.1 = false) ?_ ?_
      · refine CallK.of (jdead_spec j5) ?_
        rintro _ _ ⟨rfl, rfl⟩
        refine ⟨_, rfl, ifB.f rfl ?_⟩
        rw [decide_eq_true hroom]
        exact ifB.f rfl (ifB.f rfl ⟨rfl, rfl⟩)
      rintro _ ⟨t, _⟩ _ ⟨rfl, ht⟩
      dsimp only at ht ⊢
      refine ifB.f ht (ifB.yes hroom ?_)
      rw [wI (x := k + 1) (by omega) (by omega), wI (x := left - n) (by omega) (by omega), wI (x := left - n - 3) (by omega) (by omega)]
      exact tail (left - n - 3) (k + 1) w5 (by omega) (by omega) (by omega) (by omega) (by omega) hFl
    · have a1 := putJ_full (s := s) (x := List.replicate n.toNat 0) e2 (by omega) (by rw [hxl, e3, e4]; omega)
      refine CallK.of put ?_
      rw [a1]
      rintro _ w5 ⟨rfl, f5, S5, g5, hS5, _, j5⟩
      refine ⟨_, rfl, ?_⟩
      have hFl : Fill w w5 p b q left k := by
        refine ⟨⟨S5, g5, _, _, j5, fun k hk => ?_, e1, e2, e3, e4, e5, e6⟩, hF4 w5 f5⟩
        rcases hS5 k hk with t | t
        · exact hS3 k t
        · exact Nat.le_trans (F3.trans f4).size t
      refine JoinK.of (fun t w' => w5 = w' ∧ t.1 = false) ?_ ?_
      · refine CallK.of (jdead_spec j5) ?_
        rintro _ _ ⟨rfl, rfl⟩
        refine ⟨_, rfl, ifB.f rfl ?_⟩
        rw [decide_eq_false hroom]
        exact ifB.f rfl (ifB.t rfl ⟨rfl, rfl⟩)
      rintro _ ⟨t, _⟩ _ ⟨rfl, ht⟩
      dsimp only at ht ⊢
      refine ifB.f ht (ifB.no hroom ?_)
      exact tail left k w5 (by omega) (by omega) (by omega) (by omega) (by omega) hFl
  · refine zeros_lt (by omega) (by omega) fun x w4 hx f4 hxf => ?_
    have j4 := j3.keep0 f4
    have pl3 := j3.plt
    have bl3 := j3.file.lt
    have sl3 := j3.slt
    have hxo : ∀ k, blkOf x k → k < w4.heap.size ∧ k ≠ p ∧ k ≠ b ∧ ¬ S3 k := fun k hk => by
      have := hxf k hk
      exact ⟨this.2, by omega, by omega, fun t => by have := sl3 k t; omega⟩
    refine CallK.of (put_spec j4 hx hxo (by omega)) ?_
    rw [putJ_long (s := s) (x := List.replicate (4001 : Int).toNat 0) e2 (by rw [List.length_replicate]; omega)]
    rintro _ w5 ⟨rfl, f5, S5, g5, hS5, _, j5⟩
    refine ⟨_, rfl, ifB.t rfl ?_⟩
    refine CallK.of (room_spec j5 (-1)) ?_
    rintro _ w6 ⟨rfl, f6⟩
    refine ⟨_, rfl, ifB.t rfl ?_⟩
    refine CallK.of (wakes18_spec w6) ?_
    rintro _ w7 ⟨rfl, f7⟩
    exact ⟨_, rfl, rfl, (((F3.trans f4).comp f5 (fun k hk t => by
      rcases t with t | t | t
      · omega
      · omega
      · have := hS3 k t; omega)).trans f6).trans f7⟩

end Go.Proofs.Ytejhjjafmobmbaa
