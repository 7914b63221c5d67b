/-
  FileFuse: behind as many acts as a fuse has the file is dead, till it crashes; what is no right act does not count.
  Conditions: none beyond the statement's own.
-/
import Derived.Test.YtejhjjafmobmbaaFCuts
import Derived.Test.YtejhjjafmobmbaaCFFuse
set_option linter.unusedVariables false
namespace Go.Proofs.Ytejhjjafmobmbaa
open Vc

theorem toByte_bc' {z : Int} (h0 : 0 ≤ z) (h1 : z ≤ 255) : Value.int .u8 z = bc (toByte z) := by
  unfold bc toByte
  rw [UInt8.toNat_ofNat', Nat.mod_eq_of_lt (by omega)]
  congr 1; omega

theorem byte_ok {w : World} {z : Int} (h0 : 0 ≤ z) (h1 : z ≤ 255) {K : Sl → World → Prop} (k : ∀ u w', RdB w' u [toByte z] → Fr none1 w w' → (∀ k, blkOf u k → w.heap.size ≤ k) → K u w') :
    RunK Try.prog (Instr.buildSlice 53 1 #[(0, .int .u8 (IntKind.u8.wrap z))]) w (.v (.one .slc)) (fun (u : Option Addr × Nat × Nat) w' => K u w') := by
  obtain ⟨p, w9, hr9, hp, hpl, f9, hpf⟩ := one_ok (P := Try.prog) (w := w) elem_byte (.int .u8 (IntKind.u8.wrap z)) rfl
  refine ⟨p, w9, hr9, k p w9 ?_ f9 hpf⟩
  rw [wB h0 h1, toByte_bc' h0 h1] at hp
  exact hp.rd

theorem fcut_neg {w : World} {b g : Nat} {s : FileS} (h : IsFile w b g s) : Ret Try.prog 53 #[.pointer (some ⟨b, 0, none⟩), .int .i64 (-1)] w fun r w' => r = .int .i64 (if s.dead then 11 else 1) ∧ w = w' := by
  obtain ⟨⟨sl, hb, hs, hg⟩, gl, ok⟩ := h
  refine c53 _ (-1) w _ ?_
  refine LdK.fld hb rfl ?_
  refine ifB.by (fun hd => ?_) (fun hd => ?_)
  · rw [if_pos hd]; exact ⟨rfl, rfl⟩
  rw [if_neg (by simp [hd])]
  exact ifB.yes (by omega) ⟨rfl, rfl⟩

/-- The file where i acts are done, of n. -/
structure Lit (n i : Int) (s : FileS) : Prop where
  lit : s.lit = true
  quota : s.quota = 100
  len : (s.b.length : Int) ≤ i
  fuse : s.fuse = if i < n then n - i else 0
  dead : s.dead = decide (i > n)

def answer (n i : Int) : Int := if i ≥ n then 11 else 0

theorem Lit.step {n i : Int} {s : FileS} (h : Lit n i s) (hn : 0 ≤ n ∧ n ≤ 20) (hi : 0 ≤ i ∧ i ≤ 20) (hd : s.dead = false) : (stepF s).2 = decide (i < n) ∧ (stepF s).1.lit = true ∧ (stepF s).1.fuse = (if i + 1 < n then n - (i + 1) else 0) ∧ (stepF s).1.dead = decide (i + 1 > n) ∧ (i ≤ n) := by
  obtain ⟨h1, h2, h3, h4, h5⟩ := h
  rw [h5] at hd
  have hin : i ≤ n := by simpa using hd
  unfold stepF
  rw [h1, h4]
  by_cases hlt : i < n
  · rw [if_pos hlt, if_neg (by simp; omega)]
    refine ⟨by simp [hlt], rfl, ?_, ?_, hin⟩
    · dsimp only
      rw [wI (by omega) (by omega)]
      split <;> omega
    · dsimp only
      rw [h5]
      rw [decide_eq_false (by omega), decide_eq_false (by omega)]
  · rw [if_neg hlt, if_pos (by rfl)]
    refine ⟨by simp [hlt], rfl, ?_, ?_, hin⟩
    · dsimp only
      rw [if_neg (by omega)]
    · dsimp only
      rw [decide_eq_true (by omega)]

theorem Lit.dead' {n i : Int} {s : FileS} (h : Lit n i s) (hd : s.dead = true) : Lit n (i + 1) s ∧ answer n i = 11 := by
  obtain ⟨h1, h2, h3, h4, h5⟩ := h
  rw [h5] at hd
  have : i > n := by simpa using hd
  refine ⟨⟨h1, h2, by omega, by rw [h4, if_neg (by omega), if_neg (by omega)], by rw [h5, decide_eq_true (by omega), decide_eq_true (by omega)]⟩, ?_⟩
  unfold answer
  rw [if_pos (by omega)]

theorem Lit.app {n i : Int} {s : FileS} (h : Lit n i s) (hn : 0 ≤ n ∧ n ≤ 20) (hi : 0 ≤ i ∧ i ≤ 20) (c : UInt8) : (appF s [c]).2 = answer n i ∧ Lit n (i + 1) (appF s [c]).1 := by
  unfold appF
  by_cases hd : s.dead = true
  · rw [if_pos hd]; exact ⟨(h.dead' hd).2.symm, (h.dead' hd).1⟩
  have hd' : s.dead = false := by simpa using hd
  obtain ⟨a, b, c1, d, e⟩ := h.step hn hi hd'
  obtain ⟨e1, e2, e3⟩ := stepF_b s
  rw [if_neg hd, if_neg (by rw [h.quota]; have := h.len; simp; omega), a]
  unfold answer
  by_cases hlt : i < n
  · rw [if_pos (by simpa using hlt), if_neg (by omega)]
    exact ⟨rfl, b, e2.trans h.quota, by dsimp only; have := h.len; simp; omega, c1, d⟩
  · rw [if_neg (by simpa using hlt), if_pos (by omega)]
    exact ⟨rfl, b, e2.trans h.quota, by rw [e1]; have := h.len; omega, c1, d⟩

theorem Lit.sync {n i : Int} {s : FileS} (h : Lit n i s) (hn : 0 ≤ n ∧ n ≤ 20) (hi : 0 ≤ i ∧ i ≤ 20) : (syncF s).2 = answer n i ∧ Lit n (i + 1) (syncF s).1 := by
  unfold syncF
  by_cases hd : s.dead = true
  · rw [if_pos hd]; exact ⟨(h.dead' hd).2.symm, (h.dead' hd).1⟩
  have hd' : s.dead = false := by simpa using hd
  obtain ⟨a, b, c1, d, e⟩ := h.step hn hi hd'
  obtain ⟨e1, e2, e3⟩ := stepF_b s
  rw [if_neg hd, a]
  unfold answer
  by_cases hlt : i < n
  · rw [if_pos (by simpa using hlt), if_neg (by omega)]
    exact ⟨rfl, b, e2.trans h.quota, by dsimp only; rw [e1]; have := h.len; omega, c1, d⟩
  · rw [if_neg (by simpa using hlt), if_pos (by omega)]
    exact ⟨rfl, b, e2.trans h.quota, by rw [e1]; have := h.len; omega, c1, d⟩

theorem Lit.cut {n i : Int} {s : FileS} (h : Lit n i s) (hn : 0 ≤ n ∧ n ≤ 20) (hi : 0 ≤ i ∧ i ≤ 20) : (cutF s 0).2 = answer n i ∧ Lit n (i + 1) (cutF s 0).1 := by
  unfold cutF
  by_cases hd : s.dead = true
  · rw [if_pos hd]; exact ⟨(h.dead' hd).2.symm, (h.dead' hd).1⟩
  have hd' : s.dead = false := by simpa using hd
  obtain ⟨a, b, c1, d, e⟩ := h.step hn hi hd'
  obtain ⟨e1, e2, e3⟩ := stepF_b s
  rw [if_neg hd, if_neg (by omega), if_neg (by omega), a]
  unfold answer
  by_cases hlt : i < n
  · rw [if_pos (by simpa using hlt), if_neg (by omega)]
    exact ⟨rfl, b, e2.trans h.quota, by dsimp only; simp; omega, c1, d⟩
  · rw [if_neg (by simpa using hlt), if_pos (by omega)]
    exact ⟨rfl, b, e2.trans h.quota, by rw [e1]; have := h.len; omega, c1, d⟩

def FuMid (W0 W1 : World) (b : Nat) (s : FileS) : (Nat → Bool) → World → Prop := fun D w =>
  (D 3 = false → w = W0) ∧ (D 3 = true → D 4 = false → w = W1) ∧ (D 4 = true → D 3 = true ∧ D 1 = true ∧ Fr (only b) W1 w ∧ ∃ g, IsFile w b g s)

theorem fuse_walk (n0 m0 : Int) (w : World) (h0 : (Go.Lit.int .i64 n0).wf = true) (h1 : (Go.Lit.int .i64 m0).wf = true) :
    Ret Try.prog 15 #[.int .i64 n0, .int .i64 m0] w fun r w' => r = .bool true ∧ Fr none1 w w' := by
  refine c15 n0 m0 w _ ?_
  unfold C15
  refine CallK.of (fnew_spec 100 w) ?_
  rintro _ w1 ⟨b, rfl, hb, f1, i1⟩
  refine ⟨some ⟨b, 0, none⟩, rfl, ifB.f rfl ?_⟩
  refine CallK.of (within_spec n0 8 w1 (by omega)) ?_
  rintro _ _ ⟨rfl, rfl⟩
  refine ⟨_, rfl, ?_⟩
  refine CallK.of (within_spec m0 4 w1 (by omega)) ?_
  rintro _ _ ⟨rfl, rfl⟩
  refine ⟨_, rfl, ?_⟩
  have n0lo := within_lo n0 8
  have n0hi := within_hi n0 (n := 8) (by omega)
  have m0lo := within_lo m0 4
  have m0hi := within_hi m0 (n := 4) (by omega)
  generalize within n0 8 = n at n0lo n0hi
  generalize within m0 4 = m at m0lo m0hi
  refine CallK.of (ffuse_spec i1 n) ?_
  rintro _ w2 ⟨rfl, f2, g2, _, i2⟩
  refine ⟨(), rfl, ?_⟩
  rw [wI (x := n + m) (by omega) (by omega)]
  have hL : Lit n 0 (fuseF (newF 100) n) := by
    refine ⟨rfl, rfl, by show ((([] : List UInt8).length : Nat) : Int) ≤ 0; simp, ?_, ?_⟩
    · show (if n > 0 then n else 0) = _
      rw [Int.sub_zero]
    · show false = _
      rw [decide_eq_false (by omega)]
  refine LoopK.of (fun s w' => 0 ≤ s.1 ∧ s.1 ≤ n + m ∧ Fr none1 w w' ∧ ∃ g s', IsFile w' b g s' ∧ Lit n s.1 s') (fun s _ => (n + m - s.1).toNat) ⟨by dsimp only; omega, by dsimp only; omega, f1.fresh f2 hb, g2, _, i2, hL⟩ ?_
  rintro _ ⟨i, _⟩ w3 ⟨hi0, hi1, F3, g3, s, i3, hl⟩
  dsimp only at hi0 hi1 hl ⊢
  refine ifB.dec (fun hlt => ?_) (fun hge => ?_)
  · refine JoinK.of (fun q w4 => Fr (only b) w3 w4 ∧ q.1 = answer n i ∧ ∃ g s', IsFile w4 b g s' ∧ Lit n (i + 1) s') ⟨⟨by omega, ?_⟩⟩ ?_
    · have hn' : 0 ≤ n ∧ n ≤ 20 := by omega
      have hi' : 0 ≤ i ∧ i ≤ 20 := by omega
      refine ifB.by (fun _ => ?_) (fun _ => ifB.by (fun _ => ?_) (fun _ => ?_))
      · refine byte_ok (by omega) (by omega) fun u w4 hu f4 huf => ?_
        refine CallK.of (fappend_spec (i3.keep0 f4) hu (fun t => by have := huf b t; have := i3.lt; omega)) ?_
        rintro _ w5 ⟨rfl, f5, g5, _, i5⟩
        obtain ⟨q1, q2⟩ := hl.app hn' hi' (toByte i)
        exact ⟨_, rfl, f4.of0 f5, q1, g5, _, i5, q2⟩
      · refine CallK.of (fsync_spec i3) ?_
        rintro _ w5 ⟨rfl, f5, g5, _, i5⟩
        obtain ⟨q1, q2⟩ := hl.sync hn' hi'
        exact ⟨_, rfl, f5, q1, g5, _, i5, q2⟩
      · refine CallK.of (fcut_spec i3 0) ?_
        rintro _ w5 ⟨rfl, f5, g5, _, i5⟩
        obtain ⟨q1, q2⟩ := hl.cut hn' hi'
        exact ⟨_, rfl, f5, q1, g5, _, i5, q2⟩
    rintro _ ⟨e, _⟩ w4 ⟨f4, he, g4, s4, i4, hl4⟩
    dsimp only at he ⊢
    refine JoinK.of (fun q w5 => w4 = w5 ∧ q.1 = answer n i) (ifB.dec (fun h => ⟨rfl, by unfold answer; rw [if_pos h]⟩) (fun h => ⟨rfl, by unfold answer; rw [if_neg h]⟩)) ?_
    rintro _ ⟨e2, _⟩ _ ⟨rfl, he2⟩
    dsimp only at he2 ⊢
    rw [he, he2]
    refine ifB.f (by simp) ?_
    refine CallK.of (fdead_spec i4) ?_
    rintro _ _ ⟨rfl, rfl⟩
    have hdd : s4.dead = decide (i ≥ n) := by
      rw [hl4.dead]
      by_cases h : i ≥ n
      · rw [decide_eq_true h, decide_eq_true (by omega)]
      · rw [decide_eq_false h, decide_eq_false (by omega)]
    rw [hdd]
    refine ⟨_, rfl, ifB.f (by simp) ?_⟩
    have F4 : Fr none1 w w4 := F3.fresh f4 hb
    have r0 := drew_fr w4
    generalize hW0 : ({ w4 with drawn := w4.drawn + 1 } : World) = W0 at r0
    obtain ⟨v, W1, hr, hx, _, _, p1, hvf⟩ := make_ok (P := Try.prog) (w := W0) (k := .i64) (k' := .i64) (n := 200) (m := 200) elem_byte rfl (by omega) (Int.le_refl _) (by omega)
    have hv : RdB W1 v (List.replicate 200 0) := by
      have : (List.replicate 200 (0 : UInt8)).map bc = List.replicate 200 (.int .u8 0) := by rw [List.map_replicate]; rfl
      unfold RdB; rw [this]; exact hx.rd
    have i0 := i4.keep0 r0
    have i1' := i0.keep0 p1
    have hsame : appF s4 (List.replicate 200 0) = (s4, if i ≥ n then 11 else 10) := by
      unfold appF
      rw [hdd]
      by_cases h : i ≥ n
      · rw [if_pos (by simpa using h), if_pos h]
      · rw [if_neg (by simpa using h), if_neg h, if_pos]
        rw [hl4.quota, List.length_replicate]
        have := hl4.len
        omega
    refine ⟨⟨FuMid W0 W1 b s4, ⟨fun _ => hW0, (fun t => by cases t), (fun t => by cases t)⟩, ?_⟩⟩
    refine ⟨if i ≥ n then 11 else 1, fun D w5 hD _ hC => ?_, ?_⟩
    · obtain ⟨k1, k2, k3⟩ := hC
      have h4 : D 4 = false := by
        cases hd4 : D 4 with
        | false => rfl
        | true => have := (k3 hd4).2.1; rw [hD] at this; cases this
      have hfile : ∃ g, IsFile w5 b g s4 := by
        cases h3 : D 3 with
        | false => rw [k1 h3]; exact ⟨_, i0⟩
        | true => rw [k2 h3 h4]; exact ⟨_, i1'⟩
      obtain ⟨g, i5⟩ := hfile
      refine CallK.of (fcut_neg i5) ?_
      rintro _ _ ⟨rfl, rfl⟩
      refine ⟨_, rfl, ?_, ?_⟩
      · rw [hdd]; by_cases h : i ≥ n
        · rw [if_pos (by simpa using h), if_pos h]; rfl
        · rw [if_neg (by simpa using h), if_neg h]; rfl
      · refine ⟨fun t => ?_, fun t t' => ?_, fun t => ?_⟩
        · rw [upd_ne' _ (by decide)] at t; exact k1 t
        · rw [upd_ne' _ (by decide)] at t t'; exact k2 t t'
        · rw [upd_ne' _ (by decide)] at t; rw [h4] at t; cases t
    refine ⟨v, fun D w5 hD _ hC => ?_, ?_⟩
    · obtain ⟨k1, k2, k3⟩ := hC
      obtain rfl := k1 hD
      refine ⟨v, W1, hr, rfl, fun t => ?_, fun _ _ => rfl, fun t => ?_⟩
      · rw [upd_self'] at t; cases t
      · rw [upd_ne' _ (by decide)] at t; have := (k3 t).1; rw [hD] at this; cases this
    refine ⟨if i ≥ n then 11 else 10, fun D w5 hD hp hC => ?_, ?_⟩
    · obtain ⟨k1, k2, k3⟩ := hC
      have h3 := hp 3 (by simp)
      have h1 := hp 1 (by simp)
      obtain rfl := k2 h3 hD
      refine CallK.of (fappend_spec i1' hv (fun t => by have := hvf b t; have := i0.lt; omega)) ?_
      rw [hsame]
      rintro _ w6 ⟨rfl, f6, g6, _, i6⟩
      refine ⟨_, rfl, rfl, fun t => ?_, fun _ t => ?_, fun _ => ⟨?_, ?_, f6, g6, i6⟩⟩
      · rw [upd_ne' _ (by decide), h3] at t; cases t
      · rw [upd_self'] at t; cases t
      · rw [upd_ne' _ (by decide), h3]
      · rw [upd_ne' _ (by decide), h1]
    intro w7 hC
    obtain ⟨_, _, f7, g7, i7⟩ := hC.2.2 rfl
    have F7 : Fr none1 w w7 := ((F4.trans r0).trans p1).fresh f7 hb
    rw [wI (x := i + 1) (by omega) (by omega)]
    have next : (0 ≤ i + 1 ∧ i + 1 ≤ n + m ∧ Fr none1 w w7 ∧ ∃ g s', IsFile w7 b g s' ∧ Lit n (i + 1) s') ∧ (n + m - (i + 1)).toNat < (n + m - i).toNat := ⟨⟨by omega, by omega, F7, g7, s4, i7, hl4⟩, by omega⟩
    refine ifB.dec (fun h => ?_) (fun h => ?_)
    · rw [if_neg (by omega), if_neg (by omega)]
      refine ifB.f rfl (ifB.f rfl (ifB.no (by omega) next))
    · rw [if_pos (by omega), if_pos (by omega)]
      exact ifB.yes (by omega) (ifB.f rfl (ifB.f rfl next))
  · refine CallK.of (fcrash_spec i3 0 0) ?_
    rintro _ w4 ⟨rfl, f4, g4, _, i4⟩
    refine ⟨(), rfl, ?_⟩
    have hq : (crashF s 0 0).quota = 100 := hl.quota
    have hbl : ((crashF s 0 0).b.length : Int) ≤ 30 := by
      have h1 := hl.len
      show ((crashB s (crashK s 0) 0).length : Int) ≤ 30
      unfold crashB
      split <;> simp only [List.length_set, List.length_take] <;> omega
    refine CallK.of (fdead_spec i4) ?_
    rintro _ _ ⟨rfl, rfl⟩
    refine ⟨_, rfl, ifB.t rfl ?_⟩
    have c5 : (crashF s 0 0).lit = false := rfl
    have c6 : (crashF s 0 0).dead = false := rfl
    generalize crashF s 0 0 = s1 at *
    refine text_ok [120] (by simp) (by simp) fun y w6 hy f6 hyf => ?_
    obtain ⟨a1, a2, a3, a4, a5, a6⟩ := appF_ok (x := [120]) c5 c6 (by rw [hq]; simp; omega)
    refine CallK.of (fappend_spec (i4.keep0 f6) hy (fun t => by have := hyf b t; have := i4.lt; omega)) ?_
    rintro _ w7 ⟨rfl, f7, g7, _, i7⟩
    rw [a1]
    refine ⟨_, rfl, ifB.t rfl ?_⟩
    obtain ⟨b1, b2, b3, b4, b5, b6⟩ := syncF_ok a5 a6
    refine CallK.of (fsync_spec i7) ?_
    rintro _ w8 ⟨rfl, f8, g8, _, i8⟩
    rw [b1]
    refine ⟨_, rfl, ifB.t rfl ?_⟩
    refine CallK.of (fsynced_spec i8) ?_
    rintro _ _ ⟨rfl, rfl⟩
    refine ⟨_, rfl, ?_⟩
    refine CallK.of (fbytes_spec i8) ?_
    rintro _ w9 ⟨u, rfl, hu, f9, _⟩
    have hul := hu.len
    refine ⟨u, rfl, ifB.t (by rw [hul, b4, b2]; simp) ?_⟩
    refine CallK.of (wakes17_spec w9) ?_
    rintro _ w10 ⟨rfl, f10⟩
    exact ⟨_, rfl, rfl, (((((F3.fresh f4 hb).trans f6).fresh f7 hb).fresh f8 hb).trans f9).trans f10⟩

end Go.Proofs.Ytejhjjafmobmbaa
