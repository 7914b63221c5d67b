/-
  FileQuota: a file takes as many bytes as its quota, and not one more; what is refused leaves it as it was; cut, it has room again.
  Conditions: none beyond the statement's own.
-/
import Derived.Test.YtejhjjafmobmbaaKeepSpec
import Derived.Test.YtejhjjafmobmbaaWinSpec
import Derived.Test.YtejhjjafmobmbaaCFQuota
set_option linter.unusedVariables false
namespace Go.Proofs.Ytejhjjafmobmbaa
open Vc

/-- make of bytes: zeros. -/
theorem zeros_ok {w : World} {n : Int} (h0 : 0 ≤ n) (h1 : n ≤ 1000000) {K : Sl → World → Prop} (k : ∀ u w', RdB w' u (List.replicate n.toNat 0) → Fr none1 w w' → (∀ k, blkOf u k → w.heap.size ≤ k) → K u w') :
    RunK Try.prog (Instr.makeSlice 53 (.int .i64 n) (.int .i64 n)) w (.v (.one .slc)) (fun (u : Option Addr × Nat × Nat) w' => K u w') := by
  obtain ⟨v, w1, hr, hx, _, _, f1, hf⟩ := make_ok (P := Try.prog) (w := w) (k := .i64) (k' := .i64) (n := n) (m := n) elem_byte rfl h0 (Int.le_refl _) (by omega)
  refine ⟨v, w1, hr, k v w1 ?_ f1 hf⟩
  have : (List.replicate n.toNat (0 : UInt8)).map bc = List.replicate n.toNat (.int .u8 0) := by rw [List.map_replicate]; rfl
  unfold RdB; rw [this]; exact hx.rd

/-- What a file is, where it is not lit. -/
theorem appF_ok {s : FileS} {x : List UInt8} (hl : s.lit = false) (hd : s.dead = false) (h : (x.length : Int) ≤ s.quota - s.b.length) : (appF s x).2 = 0 ∧ (appF s x).1.b = s.b ++ x ∧ (appF s x).1.quota = s.quota ∧ (appF s x).1.synced = s.synced ∧ (appF s x).1.lit = false ∧ (appF s x).1.dead = false := by
  unfold appF stepF
  rw [hl, hd]
  simp only [Bool.false_and, Bool.false_eq_true, if_false, if_true]
  rw [if_neg (by omega)]
  exact ⟨rfl, rfl, rfl, rfl, rfl, rfl⟩
theorem appF_full {s : FileS} {x : List UInt8} (hd : s.dead = false) (h : (x.length : Int) > s.quota - s.b.length) : appF s x = (s, 10) := by
  unfold appF
  rw [hd, if_neg (by simp), if_pos h]
theorem cutF_ok {s : FileS} {n : Int} (hl : s.lit = false) (hd : s.dead = false) (h0 : 0 ≤ n) (h : n ≤ s.b.length) : (cutF s n).2 = 0 ∧ (cutF s n).1.b = s.b.take n.toNat ∧ (cutF s n).1.quota = s.quota ∧ (cutF s n).1.synced = n ∧ (cutF s n).1.lit = false ∧ (cutF s n).1.dead = false := by
  unfold cutF stepF
  rw [hl, hd]
  simp only [Bool.false_and, Bool.false_eq_true, if_false, if_true]
  rw [if_neg (by omega), if_neg (by omega)]
  exact ⟨rfl, rfl, rfl, rfl, rfl, rfl⟩
theorem cutF_bad {s : FileS} {n : Int} (hd : s.dead = false) (h : n > s.b.length) : cutF s n = (s, 1) := by
  unfold cutF
  rw [hd, if_neg (by simp), if_neg (by omega), if_pos h]

theorem quota_walk (q0 n0 c0 : Int) (w : World) (h0 : (Lit.int .i64 q0).wf = true) (h1 : (Lit.int .i64 n0).wf = true) (h2 : (Lit.int .i64 c0).wf = true) :
    Ret Try.prog 14 #[.int .i64 q0, .int .i64 n0, .int .i64 c0] w fun r w' => r = .bool true ∧ Fr none1 w w' := by
  refine c14 q0 n0 c0 w _ ?_
  unfold C14
  have hq0 := (newF_ok q0).q0
  have hq1 := (newF_ok q0).q1
  obtain ⟨s0, hs0⟩ : ∃ s, s = newF q0 := ⟨_, rfl⟩
  have eb : s0.b = [] := by rw [hs0]; rfl
  have el : s0.lit = false := by rw [hs0]; rfl
  have ed : s0.dead = false := by rw [hs0]; rfl
  have es : s0.synced = 0 := by rw [hs0]; rfl
  obtain ⟨q, hq⟩ : ∃ q : Int, (if 65536 < (if 0 > q0 then 0 else q0) then 65536 else (if 0 > q0 then 0 else q0)) = q := ⟨_, rfl⟩
  have eq : s0.quota = q := by rw [hs0]; exact hq
  rw [← hs0, eq] at hq0 hq1
  rw [hq, wI (x := q + 1) (by omega) (by omega)]
  refine CallK.of (fnew_spec q0 w) ?_
  rintro _ w1 ⟨b, rfl, hb, f1, i1⟩
  rw [← hs0] at i1
  refine ⟨some ⟨b, 0, none⟩, rfl, ifB.f rfl ?_⟩
  refine CallK.of (within_spec n0 (q + 1) w1 (by omega)) ?_
  rintro _ _ ⟨rfl, rfl⟩
  refine ⟨_, rfl, ?_⟩
  have n0lo := within_lo n0 (q + 1)
  have n0hi := within_hi n0 (n := q + 1) (by omega)
  generalize within n0 (q + 1) = n at n0lo n0hi
  refine zeros_ok n0lo (by omega) fun x w2 hx f2 hxf => ?_
  obtain ⟨a1, a2, a3, a4, a5, a6⟩ := appF_ok (x := List.replicate n.toNat 0) el ed (by rw [eq, eb]; simp; omega)
  refine CallK.of (fappend_spec (i1.keep0 f2) hx (fun t => by have := hxf b t; have := i1.lt; omega)) ?_
  rintro _ w3 ⟨rfl, f3, g3, _, i3⟩
  rw [a1]
  refine ⟨_, rfl, ifB.f rfl ?_⟩
  have F3 : Fr none1 w w3 := (f1.trans f2).fresh f3 hb
  generalize (appF s0 (List.replicate n.toNat 0)).1 = s1 at *
  rw [eb, List.nil_append] at a2
  rw [wI (x := q - n) (by omega) (by omega), wI (x := q - n + 1) (by omega) (by omega)]
  have bl1 : (s1.b.length : Int) = n := by rw [a2]; simp; omega
  refine zeros_ok (by omega) (by omega) fun y w4 hy f4 hyf => ?_
  have e1 := appF_full (s := s1) (x := List.replicate (q - n + 1).toNat 0) a6 (by rw [a3, eq]; simp; omega)
  refine CallK.of (fappend_spec (i3.keep0 f4) hy (fun t => by have := hyf b t; have := i3.lt; omega)) ?_
  rw [e1]
  rintro _ w5 ⟨rfl, f5, g5, _, i5⟩
  refine ⟨_, rfl, ifB.f rfl ?_⟩
  have F5 : Fr none1 w w5 := (F3.trans f4).fresh f5 hb
  refine CallK.of (fbytes_spec i5) ?_
  rintro _ w6 ⟨u, rfl, hu, f6, huf⟩
  refine ⟨u, rfl, ?_⟩
  have hul := hu.len
  refine ifB.f (by rw [hul, bl1]; simp) ?_
  have i6 := i5.keep0 f6
  refine zeros_ok (by omega) (by omega) fun z w7 hz f7 hzf => ?_
  obtain ⟨b1, b2, b3, b4, b5, b6⟩ := appF_ok (s := s1) (x := List.replicate (q - n).toNat 0) a5 a6 (by rw [a3, eq]; simp; omega)
  refine CallK.of (fappend_spec (i6.keep0 f7) hz (fun t => by have := hzf b t; have := i6.lt; omega)) ?_
  rintro _ w8 ⟨rfl, f8, g8, _, i8⟩
  rw [b1]
  refine ⟨_, rfl, ifB.f rfl ?_⟩
  have F8 : Fr none1 w w8 := ((F5.trans f6).trans f7).fresh f8 hb
  generalize (appF s1 (List.replicate (q - n).toNat 0)).1 = s2 at *
  have bl2 : (s2.b.length : Int) = q := by rw [b2]; simp; omega
  obtain ⟨p, w9, hr9, hp, hpl, f9, hpf⟩ := one_ok (P := Try.prog) (w := w8) elem_byte (.int .u8 1) rfl
  refine ⟨p, w9, hr9, ?_⟩
  have hp' : RdB w9 p [1] := hp.rd
  refine CallK.of (fappend_spec (i8.keep0 f9) hp' (fun t => by have := hpf b t; have := i8.lt; omega)) ?_
  rw [appF_full b6 (by rw [b3, a3, eq]; simp; omega)]
  rintro _ w10 ⟨rfl, f10, g10, _, i10⟩
  refine ⟨_, rfl, ifB.f rfl ?_⟩
  have F10 : Fr none1 w w10 := (F8.trans f9).fresh f10 hb
  refine CallK.of (within_spec c0 (q + 1) w10 (by omega)) ?_
  rintro _ _ ⟨rfl, rfl⟩
  refine ⟨_, rfl, ?_⟩
  have c0lo := within_lo c0 (q + 1)
  have c0hi := within_hi c0 (n := q + 1) (by omega)
  generalize within c0 (q + 1) = c at c0lo c0hi
  refine CallK.of (fsynced_spec i10) ?_
  rintro _ _ ⟨rfl, rfl⟩
  rw [b4, a4, es]
  refine ⟨_, rfl, ifB.t rfl ?_⟩
  obtain ⟨d1, d2, d3, d4, d5, d6⟩ := cutF_ok (s := s2) (n := c) b5 b6 c0lo (by omega)
  refine CallK.of (fcut_spec i10 c) ?_
  rintro _ w11 ⟨rfl, f11, g11, _, i11⟩
  rw [d1]
  refine ⟨_, rfl, ifB.t rfl ?_⟩
  have F11 : Fr none1 w w11 := F10.fresh f11 hb
  generalize (cutF s2 c).1 = s3 at *
  have bl3 : (s3.b.length : Int) = c := by rw [d2, List.length_take]; omega
  refine CallK.of (fsynced_spec i11) ?_
  rintro _ _ ⟨rfl, rfl⟩
  rw [d4]
  refine ⟨_, rfl, ifB.t (by simp) ?_⟩
  refine CallK.of (fbytes_spec i11) ?_
  rintro _ w12 ⟨u2, rfl, hu2, f12, huf2⟩
  refine ⟨u2, rfl, ?_⟩
  have hul2 := hu2.len
  refine ifB.t (by rw [hul2, bl3]; simp) ?_
  rw [wI (x := c + 1) (by omega) (by omega)]
  refine CallK.of (fcut_spec (i11.keep0 f12) (c + 1)) ?_
  rw [cutF_bad d6 (by omega)]
  rintro _ w13 ⟨rfl, f13, g13, _, i13⟩
  refine ⟨_, rfl, ifB.t rfl ?_⟩
  rw [wI (x := q - c) (by omega) (by omega)]
  have F13 : Fr none1 w w13 := (F11.trans f12).fresh f13 hb
  refine zeros_ok (by omega) (by omega) fun v w14 hv f14 hvf => ?_
  obtain ⟨j1, j2, j3, j4, j5, j6⟩ := appF_ok (s := s3) (x := List.replicate (q - c).toNat 0) d5 d6 (by rw [d3, b3, a3, eq]; simp; omega)
  refine CallK.of (fappend_spec (i13.keep0 f14) hv (fun t => by have := hvf b t; have := i13.lt; omega)) ?_
  rintro _ w15 ⟨rfl, f15, g15, _, i15⟩
  rw [j1]
  refine ⟨_, rfl, ifB.t rfl ?_⟩
  refine CallK.of (wakes17_spec w15) ?_
  rintro _ w16 ⟨rfl, f16⟩
  exact ⟨_, rfl, rfl, ((F13.trans f14).fresh f15 hb).trans f16⟩

end Go.Proofs.Ytejhjjafmobmbaa
