/-
  What the document's own file does: each of its functions by the same plain ones as the file's.
  Conditions: the file lies in blocks of its own.
-/
import Derived.Test.YtejhjjafmobmbaaJSpoilt
import Derived.Test.YtejhjjafmobmbaaCRef17
set_option linter.unusedVariables false
namespace Go.Proofs.Ytejhjjafmobmbaa
open Vc

/-- The document's file at block b, its bytes in block g (if anywhere). -/
structure IsRef (w : World) (b g : Nat) (s : FileS) : Prop where
  out : ∃ sl : Sl, w.heap[b]? = some (.cells #[.slice sl.1 sl.2.1 sl.2.2, .int .i64 s.synced, .int .i64 s.quota, .bool s.dead, .bool s.lit, .int .i64 s.fuse] 75 (0, 0)) ∧ IsB w sl s.b ∧ ∀ k, blkOf sl k → k = g ∧ k ≠ b
  glt : g < w.heap.size
  ok : s.Ok

theorem IsRef.keep {w w' : World} {b g : Nat} {s : FileS} (h : IsRef w b g s) {S : Nat → Prop} (f : Fr S w w') (h1 : ¬ S b) (h2 : ¬ S g) : IsRef w' b g s := by
  obtain ⟨⟨sl, hb, hs, hg⟩, gl, ok⟩ := h
  exact ⟨⟨sl, f.keep hb h1, hs.keep f (fun k hk => by rw [(hg k hk).1]; exact h2), hg⟩, Nat.lt_of_lt_of_le gl f.size, ok⟩
theorem IsRef.keep0 {w w' : World} {b g : Nat} {s : FileS} (h : IsRef w b g s) (f : Fr none1 w w') : IsRef w' b g s := h.keep f (fun t => t) (fun t => t)
theorem IsRef.lt {w : World} {b g : Nat} {s : FileS} (h : IsRef w b g s) : b < w.heap.size := by
  obtain ⟨⟨sl, hb, _⟩, _⟩ := h
  exact lt_of_blk hb

def two (b g : Nat) : Nat → Prop := fun k => k = b ∨ k = g
theorem two1 {w w' : World} {b g : Nat} (f : Fr (only b) w w') : Fr (two b g) w w' := f.mono fun _ _ t => .inl t
def RefTo (w : World) (b g : Nat) (s' : FileS) (w' : World) : Prop := Fr (two b g) w w' ∧ ∃ g', (g' = b ∨ g' = g ∨ w.heap.size ≤ g') ∧ IsRef w' b g' s'
theorem RefTo.same {w w' : World} {b g : Nat} {s : FileS} (h : IsRef w b g s) (f : Fr none1 w w') : RefTo w b g s w' := ⟨f.mono fun _ _ t => t.elim, g, .inr (.inl rfl), h.keep0 f⟩

theorem rnew_spec (q : Int) (w : World) : Ret Try.prog 54 #[.int .i64 q] w fun r w' => ∃ b, r = .pointer (some ⟨b, 0, none⟩) ∧ w.heap.size ≤ b ∧ Fr none1 w w' ∧ IsRef w' b b (newF q) := by
  refine c54 q w _ (NewK.of fun b w1 hg hb f hs => ⟨b, rfl, by omega, f, ⟨⟨(none, 0, 0), hb, .inl ⟨rfl, rfl⟩, fun k ⟨a, ha, _⟩ => (by cases ha)⟩, by omega, newF_ok q⟩⟩)

theorem rstops_spec {w : World} {b g : Nat} {s : FileS} (h : IsRef w b g s) : Ret Try.prog 79 #[.pointer (some ⟨b, 0, none⟩)] w fun r w' => r = .bool (!(stepF s).2) ∧ Fr (only b) w w' ∧ IsRef w' b g (stepF s).1 := by
  obtain ⟨⟨sl, hb, hs, hg⟩, gl, ok⟩ := h
  have ok' := stepF_ok ok
  refine c79 _ w _ ?_
  unfold stepF at *
  refine LdK.fld hb rfl ?_
  have keep : ∀ w', Fr (only b) w w' → IsB w' sl s.b := fun w' f => hs.keep f (fun k hk t => (hg k hk).2 t)
  have run : (s.lit && s.fuse == 0) = false → LdK (.int .i64) ((⟨b, 0, none⟩ : Addr).add 5) w (fun (x4 : Int) => StK ((⟨b, 0, none⟩ : Addr).add 5) (.int .i64 (IntKind.i64.wrap (x4 - 1))) w (fun w5 =>
      (.bool false : Value) = .bool (!(if s.lit && s.fuse == 0 then ({ s with dead := true }, false) else ({ s with fuse := IntKind.i64.wrap (s.fuse - 1) }, true)).2) ∧ Fr (only b) w w5 ∧ IsRef w5 b g (if s.lit && s.fuse == 0 then ({ s with dead := true }, false) else ({ s with fuse := IntKind.i64.wrap (s.fuse - 1) }, true)).1)) := fun hc => by
    rw [hc] at ok' ⊢
    refine LdK.fld hb rfl ?_
    refine StK.fld hb (by simp) rfl fun w1 hb1 f1 _ => ?_
    exact ⟨rfl, f1, ⟨sl, hb1, keep w1 f1, hg⟩, Nat.lt_of_lt_of_le gl f1.size, ok'⟩
  refine ifB.by (fun hl => ?_) (fun hl => run (by rw [hl]; rfl))
  refine LdK.fld hb rfl ?_
  refine ifB.eq (fun hf => ?_) (fun hf => run (by rw [hl]; simpa using hf))
  have hc : (s.lit && s.fuse == 0) = true := by rw [hl, hf]; rfl
  rw [hc] at ok' ⊢
  refine StK.fld hb (by simp) rfl fun w1 hb1 f1 _ => ?_
  exact ⟨rfl, f1, ⟨sl, hb1, keep w1 f1, hg⟩, Nat.lt_of_lt_of_le gl f1.size, ok'⟩

theorem rsync_spec {w : World} {b g : Nat} {s : FileS} (h : IsRef w b g s) : Ret Try.prog 58 #[.pointer (some ⟨b, 0, none⟩)] w fun r w' => r = .int .i64 (syncF s).2 ∧ RefTo w b g (syncF s).1 w' := by
  have h0 := h
  obtain ⟨⟨sl, hb, hs, hg⟩, gl, ok⟩ := h
  refine c58 _ w _ ?_
  unfold syncF
  refine LdK.fld hb rfl ?_
  refine ifB.by (fun hd => ?_) (fun hd => ?_)
  · rw [if_pos hd]; exact ⟨rfl, RefTo.same h0 (Fr.refl _ _)⟩
  rw [if_neg (by simp [hd])]
  refine CallK.of (rstops_spec h0) ?_
  rintro _ w2 ⟨rfl, f2, h2⟩
  refine ⟨_, rfl, ?_⟩
  refine ifB.by (fun hst => ?_) (fun hst => ?_)
  · have hst' : (stepF s).2 = false := by simpa using hst
    rw [hst']; exact ⟨rfl, two1 f2, g, .inr (.inl rfl), h2⟩
  · have hst' : (stepF s).2 = true := by simpa using hst
    rw [hst', if_pos rfl]
    obtain ⟨⟨sl2, hb2, hs2, hg2⟩, gl2, ok2⟩ := h2
    obtain ⟨e1, e2, e3⟩ := stepF_b s
    refine LdK.fld hb2 (x := sl2) rfl ?_
    rw [hs2.len, e1]
    refine StK.fld hb2 (by simp) rfl fun w5 hb5 f5 _ => ?_
    refine ⟨rfl, two1 (f2.trans f5), g, .inr (.inl rfl), ⟨sl2, hb5, hs2.keep f5 (fun k hk t => (hg2 k hk).2 t), hg2⟩, Nat.lt_of_lt_of_le gl2 f5.size, ?_⟩
    obtain ⟨k1, k2, k3, k4, k5⟩ := ok2
    refine ⟨k1, k2, k3, ?_, ?_⟩ <;> dsimp only
    · omega
    · rw [e1]; omega

/-- A part of a slice of bytes, with no more room. -/
theorem IsB.clip {w : World} {v : Sl} {bs : List UInt8} (h : IsB w v bs) {n : Nat} (hn : n ≤ v.2.1) : IsB w (v.1, n, n) (bs.take n) := by
  have hc := h.cap
  unfold IsB at *
  rw [List.map_take]
  rcases h with ⟨rfl, e⟩ | ⟨g, off, cs, h1, h2, h3, h4, h5, h6⟩
  · dsimp only at hn
    obtain rfl : n = 0 := by omega
    exact .inl ⟨rfl, by simp⟩
  · refine .inr ⟨g, off, cs, h1, h2, Nat.le_refl _, by dsimp only; omega, by simp only [List.length_take]; omega, fun i hi => ?_⟩
    simp only [List.length_take] at hi
    rw [h6 i (by omega), List.getElem?_take_of_lt (by omega)]
theorem sub_clip {v : Sl} {n : Int} (h0 : 0 ≤ n) (h1 : n ≤ v.2.2) {K : Option Addr → Nat → Nat → Prop} (k : K v.1 n.toNat n.toNat) : SubK v.1 v.2.2 0 n n 1 K := by
  refine ⟨Int.le_refl _, h0, Int.le_refl _, h1, ?_⟩
  have e : (if n = 0 then v.1 else v.1.map (·.add ((0 : Int).toNat * 1))) = v.1 := by
    split
    · rfl
    · cases v.1 with
      | none => rfl
      | some a => simp [Addr.add]
  rw [e, Int.sub_zero]
  exact k

theorem rcut_spec {w : World} {b g : Nat} {s : FileS} (h : IsRef w b g s) (n : Int) : Ret Try.prog 59 #[.pointer (some ⟨b, 0, none⟩), .int .i64 n] w fun r w' => r = .int .i64 (cutF s n).2 ∧ RefTo w b g (cutF s n).1 w' := by
  have h0 := h
  obtain ⟨⟨sl, hb, hs, hg⟩, gl, ok⟩ := h
  refine c59 _ n w _ ?_
  unfold cutF
  refine LdK.fld hb rfl ?_
  refine ifB.by (fun hd => ?_) (fun hd => ?_)
  · rw [if_pos hd]; exact ⟨rfl, RefTo.same h0 (Fr.refl _ _)⟩
  rw [if_neg (by simp [hd])]
  refine ifB.dec (fun hq => ?_) (fun hq => ?_)
  · rw [if_pos hq]; exact ⟨rfl, RefTo.same h0 (Fr.refl _ _)⟩
  rw [if_neg hq]
  refine LdK.fld hb (x := sl) rfl ?_
  rw [hs.len]
  refine ifB.dec (fun hq2 => ?_) (fun hq2 => ?_)
  · rw [if_pos hq2]; exact ⟨rfl, RefTo.same h0 (Fr.refl _ _)⟩
  rw [if_neg hq2]
  refine CallK.of (rstops_spec h0) ?_
  rintro _ w2 ⟨rfl, f2, h2⟩
  refine ⟨_, rfl, ?_⟩
  refine ifB.by (fun hst => ?_) (fun hst => ?_)
  · have hst' : (stepF s).2 = false := by simpa using hst
    rw [hst']; exact ⟨rfl, two1 f2, g, .inr (.inl rfl), h2⟩
  · have hst' : (stepF s).2 = true := by simpa using hst
    rw [hst', if_pos rfl]
    obtain ⟨⟨sl2, hb2, hs2, hg2⟩, gl2, ok2⟩ := h2
    obtain ⟨e1, e2, e3⟩ := stepF_b s
    refine LdK.fld hb2 (x := sl2) rfl ?_
    have hl2 := hs2.len
    rw [e1] at hl2
    have hcap := hs2.cap
    refine sub_clip (by omega) (by omega) ?_
    have hcl := hs2.clip (n := n.toNat) (by omega)
    rw [e1] at hcl
    refine StK.fld hb2 (by simp) rfl fun w5 hb5 f5 _ => ?_
    refine StK.fld hb5 (by simp) rfl fun w6 hb6 f6 _ => ?_
    have f56 := f5.trans f6
    refine ⟨rfl, two1 (f2.trans f56), g, .inr (.inl rfl), ⟨(sl2.1, n.toNat, n.toNat), hb6, hcl.keep f56 (fun k hk t => (hg2 k hk).2 t), hg2⟩, Nat.lt_of_lt_of_le gl2 f56.size, ?_⟩
    obtain ⟨k1, k2, k3, k4, k5⟩ := ok2
    rw [e1] at k1
    refine ⟨?_, k2, k3, by dsimp only; omega, ?_⟩ <;> dsimp only <;> simp only [List.length_take] <;> omega

theorem rfuse_spec {w : World} {b g : Nat} {s : FileS} (h : IsRef w b g s) (n : Int) : Ret Try.prog 60 #[.pointer (some ⟨b, 0, none⟩), .int .i64 n] w fun r w' => r = .tuple #[] ∧ RefTo w b g (fuseF s n) w' := by
  obtain ⟨⟨sl, hb, hs, hg⟩, gl, ok⟩ := h
  refine c60 _ n w _ ?_
  refine StK.fld hb (by simp) rfl fun w1 hb1 f1 _ => ?_
  refine StK.fld hb1 (by simp) rfl fun w2 hb2 f2 _ => ?_
  have e : (if 0 > n then 0 else n) = (fuseF s n).fuse := by
    show _ = if n > 0 then n else 0
    split <;> split <;> omega
  refine ⟨rfl, two1 (f1.trans f2), g, .inr (.inl rfl), ⟨sl, ?_, hs.keep (f1.trans f2) (fun k hk t => (hg k hk).2 t), hg⟩, Nat.lt_of_lt_of_le gl (f1.trans f2).size, ok.len, ok.q0, ok.q1, ok.s0, ok.s1⟩
  rw [← e]
  exact hb2

def RApp (W0 W1 : World) (Q : World → Prop) : (Nat → Bool) → World → Prop := fun D w =>
  (D 17 = false → w = W0) ∧ (D 17 = true → D 4 = true ∧ D 8 = true ∧ D 13 = true) ∧ (D 17 = true → D 20 = false → w = W1) ∧ (D 20 = true → D 17 = true ∧ Q w)

theorem RdB.keepE {w w' : World} {v : Sl} {bs : List UInt8} (h : RdB w v bs) {S : Nat → Prop} (f : Fr S w w') (hn : bs ≠ [] → ∀ k, blkOf v k → ¬ S k) : RdB w' v bs := by
  by_cases e : bs = []
  · subst e
    obtain ⟨h1, h2, h3⟩ := h
    exact ⟨h1, h2, fun a ha => trivial⟩
  · exact h.keep f (hn e)

theorem rappend_spec {w : World} {b g : Nat} {s : FileS} {v : Sl} {x : List UInt8} (h : IsRef w b g s) (hv : RdB w v x) (hb0 : x ≠ [] → ¬ blkOf v b) : Ret Try.prog 56 #[.pointer (some ⟨b, 0, none⟩), .slice v.1 v.2.1 v.2.2] w fun r w' =>
    r = .int .i64 (appF s x).2 ∧ RefTo w b g (appF s x).1 w' := by
  have h0 := h
  obtain ⟨⟨sl, hb, hs, hg⟩, gl, ok⟩ := h
  obtain ⟨k1, k2, k3, k4, k5⟩ := ok
  have hsl := hs.len
  have hvl := hv.len
  refine c56 _ v.1 v.2.1 v.2.2 w _ ?_
  unfold C56 appF
  refine LdK.fld hb rfl ?_
  refine ifB.by (fun hd => ?_) (fun hd => ?_)
  · rw [if_pos hd]; exact ⟨rfl, RefTo.same h0 (Fr.refl _ _)⟩
  rw [if_neg (by simp [hd])]
  refine DrewK.of fun w1 hw1 f1 => ?_
  have hb1 := f1.keep0 hb
  refine LdK.fld hb1 rfl ?_
  refine LdK.fld hb1 (x := sl) rfl ?_
  rw [hsl, wI (x := s.quota - (s.b.length : Int)) (by omega) (by omega)]
  have fx : Fr (only b) w w1 := f1.mono fun _ _ t => t.elim
  refine ifB.dec (fun hq => ?_) (fun hq => ?_)
  · rw [if_pos (by rw [← hvl]; exact hq)]; exact ⟨rfl, RefTo.same h0 f1⟩
  rw [if_neg (by rw [← hvl]; exact hq)]
  refine CallK.of (rstops_spec (h0.keep0 f1)) ?_
  rintro _ w2 ⟨rfl, f2, h2⟩
  refine ⟨_, rfl, ?_⟩
  refine ifB.by (fun hst => ?_) (fun hst => ?_)
  · have hst' : (stepF s).2 = false := by simpa using hst
    rw [hst']; exact ⟨rfl, two1 (fx.trans f2), g, .inr (.inl rfl), h2⟩
  · have hst' : (stepF s).2 = true := by simpa using hst
    rw [hst', if_pos rfl]
    obtain ⟨⟨sl2, hb2, hs2, hg2⟩, gl2, ok2⟩ := h2
    obtain ⟨e1, e2, e3⟩ := stepF_b s
    have hl2 := hs2.len
    rw [e1] at hl2
    have r0 := drew_fr w2
    generalize hW0 : ({ w2 with drawn := w2.drawn + 1 } : World) = W0 at r0
    have hbW0 := r0.keep0 hb2
    have hcl := (hs2.keep0 r0).clip (n := sl2.2.1) (Nat.le_refl _)
    rw [e1, hl2, List.take_length] at hcl
    have f02 := (fx.trans f2).then0 r0
    have hv2 : RdB W0 v x := ((hv.keep0 f1).keepE f2 (fun hne k hk t => hb0 hne (by have : k = b := t; rw [← this]; exact hk))).keep0 r0
    obtain ⟨y, W1, hr, hy, f3, hf3⟩ := append_bytes hcl hv2 (by omega)
    have hclb : ∀ k, blkOf (sl2.1, s.b.length, s.b.length) k → k = g ∧ k ≠ b := fun k hk => hg2 k hk
    have hbW1 := f3.keep hbW0 (fun t => (hclb b t).2 rfl)
    have sz0 := r0.size
    have sz1 := f3.size
    have sz2 := (fx.trans f2).size
    have hblt := lt_of_blk hb2
    refine ⟨⟨RApp W0 W1 (fun w9 => Fr (only b) W1 w9 ∧ w9.heap[b]? = some (.cells #[.slice y.1 y.2.1 y.2.2, .int .i64 (stepF s).1.synced, .int .i64 (stepF s).1.quota, .bool (stepF s).1.dead, .bool (stepF s).1.lit, .int .i64 (stepF s).1.fuse] 75 (0, 0))), ⟨fun _ => hW0, (fun t => by cases t), (fun t => by cases t), (fun t => by cases t)⟩, ?_⟩⟩
    have load : ∀ i : Nat, i ≠ 17 → i ≠ 20 → (∀ D : Nat → Bool, D i = false → (D 17 = true → D 4 = true ∧ D 8 = true ∧ D 13 = true) → D 17 = false) → ∀ (D : Nat → Bool) (w9 : World), D i = false → RApp W0 W1 (fun w9 => Fr (only b) W1 w9 ∧ w9.heap[b]? = some (.cells #[.slice y.1 y.2.1 y.2.2, .int .i64 (stepF s).1.synced, .int .i64 (stepF s).1.quota, .bool (stepF s).1.dead, .bool (stepF s).1.lit, .int .i64 (stepF s).1.fuse] 75 (0, 0))) D w9 →
        w9 = W0 ∧ RApp W0 W1 (fun w9 => Fr (only b) W1 w9 ∧ w9.heap[b]? = some (.cells #[.slice y.1 y.2.1 y.2.2, .int .i64 (stepF s).1.synced, .int .i64 (stepF s).1.quota, .bool (stepF s).1.dead, .bool (stepF s).1.lit, .int .i64 (stepF s).1.fuse] 75 (0, 0))) (upd D i) W0 := fun i hi1 hi2 hi3 D w9 hD hC => by
      obtain ⟨c1, c2, c3, c4⟩ := hC
      have h17 := hi3 D hD c2
      have h20 : D 20 = false := by
        cases hd : D 20 with
        | false => rfl
        | true => have := (c4 hd).1; rw [h17] at this; cases this
      refine ⟨c1 h17, fun _ => rfl, fun t => ?_, fun t => ?_, fun t => ?_⟩
      · rw [upd_ne' _ (Ne.symm hi1), h17] at t; cases t
      · rw [upd_ne' _ (Ne.symm hi1), h17] at t; cases t
      · rw [upd_ne' _ (Ne.symm hi2), h20] at t; cases t
    have not17 : ∀ (D : Nat → Bool) (i : Nat), D i = false → (i = 4 ∨ i = 8 ∨ i = 13) → (D 17 = true → D 4 = true ∧ D 8 = true ∧ D 13 = true) → D 17 = false := fun D i hD hi hc => by
      cases hd : D 17 with
      | false => rfl
      | true =>
        obtain ⟨q1, q2, q3⟩ := hc hd
        rcases hi with t | t | t <;> subst t
        · rw [hD] at q1; cases q1
        · rw [hD] at q2; cases q2
        · rw [hD] at q3; cases q3
    refine ⟨sl2, fun D w9 hD _ hC => ?_, ?_⟩
    · obtain ⟨rfl, hC'⟩ := load 4 (by decide) (by decide) (fun D hD hc => not17 D 4 hD (.inl rfl) hc) D w9 hD hC
      exact LdK.fld hbW0 (x := sl2) rfl ⟨rfl, hC'⟩
    refine ⟨sl2, fun D w9 hD _ hC => ?_, ?_⟩
    · obtain ⟨rfl, hC'⟩ := load 8 (by decide) (by decide) (fun D hD hc => not17 D 8 hD (.inr (.inl rfl)) hc) D w9 hD hC
      exact LdK.fld hbW0 (x := sl2) rfl ⟨rfl, hC'⟩
    refine ⟨sl2, fun D w9 hD _ hC => ?_, ?_⟩
    · obtain ⟨rfl, hC'⟩ := load 13 (by decide) (by decide) (fun D hD hc => not17 D 13 hD (.inr (.inr rfl)) hc) D w9 hD hC
      exact LdK.fld hbW0 (x := sl2) rfl ⟨rfl, hC'⟩
    refine sub_clip (by omega) (by have := hs2.cap; omega) ?_
    rw [Int.toNat_natCast]
    refine ⟨y, fun D w9 hD hp hC => ?_, ?_⟩
    · obtain ⟨c1, c2, c3, c4⟩ := hC
      obtain rfl := c1 hD
      have h20 : D 20 = false := by
        cases hd : D 20 with
        | false => rfl
        | true => have := (c4 hd).1; rw [hD] at this; cases this
      rw [← hl2] at hr
      refine ⟨y, W1, hr, rfl, fun t => ?_, fun _ => ⟨?_, ?_, ?_⟩, fun _ _ => rfl, fun t => ?_⟩
      · rw [upd_self'] at t; cases t
      · rw [upd_ne' _ (by decide)]; exact hp 4 (by simp)
      · rw [upd_ne' _ (by decide)]; exact hp 8 (by simp)
      · rw [upd_ne' _ (by decide)]; exact hp 13 (by simp)
      · rw [upd_ne' _ (by decide), h20] at t; cases t
    refine ⟨(), fun D w9 hD hp hC => ?_, ?_⟩
    · obtain ⟨c1, c2, c3, c4⟩ := hC
      have h17 := hp 17 (by simp)
      obtain rfl := c3 h17 hD
      refine StK.fld hbW1 (by simp) rfl fun w10 hb10 f10 _ => ⟨rfl, fun t => ?_, fun _ => ⟨?_, ?_, ?_⟩, fun _ t => ?_, fun _ => ⟨?_, f10, hb10⟩⟩
      · rw [upd_ne' _ (by decide), h17] at t; cases t
      · rw [upd_ne' _ (by decide)]; exact hp 4 (by simp)
      · rw [upd_ne' _ (by decide)]; exact hp 8 (by simp)
      · rw [upd_ne' _ (by decide)]; exact hp 13 (by simp)
      · rw [upd_self'] at t; cases t
      · rw [upd_ne' _ (by decide), h17]
    intro w9 hC
    obtain ⟨_, f9, hb9⟩ := hC.2.2.2 rfl
    have hyb : ∀ k, blkOf y k → (k = g ∨ w.heap.size ≤ k) ∧ k ≠ b := fun k hk => by
      rcases hf3 k hk with t | t
      · exact ⟨.inl (hclb k t).1, (hclb k t).2⟩
      · exact ⟨.inr (by omega), by omega⟩
    have hy9 : IsB w9 y (s.b ++ x) := hy.keep f9 (fun k hk t => (hyb k hk).2 t)
    have fall : Fr (two b g) w w9 := ((two1 f02).trans (f3.mono fun k _ t => .inr (hclb k t).1)).trans (two1 f9)
    obtain ⟨gy, q1, q2, q3⟩ : ∃ gy, (gy = b ∨ gy = g ∨ w.heap.size ≤ gy) ∧ gy < w9.heap.size ∧ ∀ k, blkOf y k → k = gy ∧ k ≠ b := by
      cases hy1 : y.1 with
      | none => exact ⟨b, .inl rfl, lt_of_blk hb9, fun k ⟨a, ha, _⟩ => (by rw [hy1] at ha; cases ha)⟩
      | some a =>
        have hk : blkOf y a.block := ⟨a, hy1, rfl⟩
        refine ⟨a.block, .inr (hyb _ hk).1, IsSl.lt hy9 hk, fun k hk => ⟨?_, (hyb k hk).2⟩⟩
        obtain ⟨a', ha, hk'⟩ := hk
        rw [hk', Option.some.inj (hy1.symm.trans ha)]
    refine ⟨rfl, fall, gy, q1, ⟨y, hb9, hy9, q3⟩, q2, ?_⟩
    refine ⟨?_, ?_, ?_, ?_, ?_⟩ <;> dsimp only
    · simp only [List.length_append]; omega
    · rw [e2]; exact k2
    · rw [e2]; exact k3
    · rw [e3]; exact k4
    · rw [e3]; simp only [List.length_append]; omega

/-- A crash, by the document: what was left of the fuse stays told, and is told nowhere. -/
def crashR (s : FileS) (keep p : Int) : FileS := { s with b := crashB s (crashK s keep) p, synced := crashK s keep, dead := false, lit := false }

theorem rcopy_bytes {w : World} {v : Sl} {bs : List UInt8} (h : RdB w v bs) (hl : bs.length ≤ 100000000) : ∃ (u : Sl) (w1 : World), (Builtin.append_ #[53, 53] 53 #[.slice none 0 0, .slice v.1 v.2.1 v.2.2]).run Try.prog w = .ok (.slice u.1 u.2.1 u.2.2) w1 ∧ IsB w1 u bs ∧ Fr none1 w w1 ∧ ∀ k, blkOf u k → w.heap.size ≤ k := by
  obtain ⟨u, w2, hr2, hu, f2, hf2, hq⟩ := append_new (x := (none, 0, 0)) rfl rfl (none_b w) h hl
  refine ⟨u, w2, hr2, hu, f2, fun k hk => ?_⟩
  rcases hf2 k hk with ⟨a, ha, _⟩ | t
  · cases ha
  · exact t

theorem rcopy_spec {w : World} {b g : Nat} {s : FileS} (h : IsRef w b g s) : Ret Try.prog 62 #[.pointer (some ⟨b, 0, none⟩)] w fun r w' => ∃ c g', r = .pointer (some ⟨c, 0, none⟩) ∧ Fr none1 w w' ∧ w.heap.size ≤ c ∧ w.heap.size ≤ g' ∧ IsRef w' c g' s := by
  have h0 := h
  obtain ⟨⟨sl, hb, hs, hg⟩, gl, ok⟩ := h
  refine c62 _ w _ ?_
  refine LdsK.blk (x := (sl, s.synced, s.quota, s.dead, s.lit, s.fuse, ())) hb ?_
  refine NewK.of fun c w1 hc hc1 f1 hs1 => ?_
  refine StsK.blk hc1 rfl rfl fun w2 hc2 f2 hs2 => ?_
  have hbl := lt_of_blk hb
  have hb2 := f2.keep1 (f1.keep0 hb) (by omega)
  have f02 : Fr none1 w w2 := f1.fresh f2 (by omega)
  refine LdK.fld hb2 (x := sl) rfl ?_
  obtain ⟨u, w3, hr, hu, f3, hf3⟩ := rcopy_bytes (hs.keep0 f02).rd (by have := ok.len; omega)
  refine ⟨u, w3, hr, ?_⟩
  refine StK.fld (f3.keep0 hc2) (by simp) rfl fun w4 hc4 f4 _ => ?_
  have hu4 : IsB w4 u s.b := hu.keep f4 (fun k hk t => by have := hf3 k hk; have : k = c := t; omega)
  obtain ⟨gy, hgn, hgl, hgy⟩ := gOf (b := c) (n := w.heap.size) (lt_of_blk hc4) hu4 (fun k hk => by have := hf3 k hk; have := f02.size; omega)
  refine ⟨c, gy, rfl, (f02.trans f3).fresh f4 (by omega), by omega, ?_, ⟨u, hc4, hu4, hgy⟩, hgl, ok⟩
  rcases hgn with t | t <;> omega

theorem rcrash_spec {w : World} {b g : Nat} {s : FileS} (h : IsRef w b g s) (n p : Int) : Ret Try.prog 61 #[.pointer (some ⟨b, 0, none⟩), .int .i64 n, .int .u8 p] w fun r w' => r = .tuple #[] ∧ RefTo w b g (crashR s n p) w' := by
  have h0 := h
  obtain ⟨⟨sl, hb, hs, hg⟩, gl, ok⟩ := h
  obtain ⟨k1, k2, k3, k4, k5⟩ := ok
  have hsl := hs.len
  refine c61 _ n p w _ ?_
  unfold C61 crashR
  refine DrewK.of fun w1 hw1 f1 => ?_
  have hb1 := f1.keep0 hb
  refine LdK.fld hb1 rfl ?_
  refine LdK.fld hb1 (x := sl) rfl ?_
  refine LdK.fld hb1 rfl ?_
  refine LdK.fld hb1 (x := sl) rfl ?_
  dsimp only
  have hk0 : s.synced ≤ crashK s n := by unfold crashK; repeat' split
                                         all_goals omega
  have hk1 : crashK s n ≤ s.b.length := by unfold crashK; repeat' split
                                           all_goals omega
  have ek : IntKind.i64.wrap (s.synced + (if IntKind.i64.wrap ((sl.2.1 : Int) - s.synced) < (if 0 > n then 0 else n) then IntKind.i64.wrap ((sl.2.1 : Int) - s.synced) else (if 0 > n then 0 else n))) = crashK s n := by
    rw [hsl, wI (x := (s.b.length : Int) - s.synced) (by omega) (by omega)]
    have e : (if 0 > n then 0 else n) = (if n > 0 then n else 0) := by split <;> split <;> omega
    rw [e]
    exact wI (x := crashK s n) (by omega) (by omega)
  rw [ek]
  generalize crashK s n = k at *
  refine RdB.sub (hs.rd.keep0 f1) (by omega) (by omega) hs.cap fun hu => ?_
  obtain ⟨u, w3, hr, hu, f3, hf3⟩ := rcopy_bytes (v := (sl.1, k.toNat, sl.2.2)) hu (by simp only [List.length_take]; omega)
  refine ⟨u, w3, hr, ?_⟩
  have hb3 := f3.keep0 hb1
  have hbl := lt_of_blk hb1
  have hul := hu.len
  rw [List.length_take] at hul
  refine LdK.fld hb3 rfl ?_
  have fin : ∀ (K : World → Prop) (w5 : World) (bs : List UInt8), bs.length = k.toNat → Fr (blkOf u) w3 w5 → IsB w5 u bs → (∀ w', RefTo w b g { s with b := bs, synced := k, dead := false, lit := false } w' → K w') → StK ((⟨b, 0, none⟩ : Addr).add 0) (.slice u.1 u.2.1 u.2.2) w5 (fun w21 => StK ((⟨b, 0, none⟩ : Addr).add 1) (.int .i64 k) w21 (fun w22 => StK ((⟨b, 0, none⟩ : Addr).add 3) (.bool false) w22 (fun w23 => StK ((⟨b, 0, none⟩ : Addr).add 4) (.bool false) w23 K))) := fun K w5 bs hbs f5 hu5 hK => by
    have hub : ¬ blkOf u b := fun t => by have := hf3 b t; omega
    refine StK.fld (f5.keep hb3 hub) (by simp) rfl fun w6 hb6 f6 _ => ?_
    refine StK.fld hb6 (by simp) rfl fun w7 hb7 f7 _ => ?_
    refine StK.fld hb7 (by simp) rfl fun w8 hb8 f8 _ => ?_
    refine StK.fld hb8 (by simp) rfl fun w9 hb9 f9 _ => ?_
    have ft : Fr (only b) w5 w9 := ((f6.trans f7).trans f8).trans f9
    have hy : IsB w9 u bs := hu5.keep ft (fun k hk t => hub (by have : k = b := t; rw [← this]; exact hk))
    have fr : Fr (only b) w w9 := ((f1.trans f3).comp f5 (fun x hx t => by have := hf3 x t; have := f1.size; omega)).of0 ft
    obtain ⟨gy, hgn, hgl, hgy⟩ := gOf (b := b) (n := w.heap.size) (lt_of_blk hb9) hy (fun k hk => ⟨Nat.le_trans f1.size (hf3 k hk), fun t => hub (t ▸ hk)⟩)
    refine hK _ ⟨two1 fr, gy, hgn.imp id .inr, ⟨u, hb9, hy, hgy⟩, hgl, ?_⟩
    refine ⟨?_, k2, k3, ?_, ?_⟩ <;> dsimp only <;> omega
  unfold crashB
  refine ifB.dec (fun hq => ?_) (fun hq => ?_)
  · rw [if_pos hq, wI (x := k - 1) (by omega) (by omega)]
    have hx : (s.b.take k.toNat)[(k - 1).toNat]? = some (s.b.getD (k - 1).toNat 0) := by
      rw [List.getElem?_take_of_lt (by omega), List.getD_eq_getElem?_getD, List.getElem?_eq_getElem (by omega)]
      rfl
    refine IsSl.ld hu (by omega) (by omega) (x := ((s.b.getD (k - 1).toNat 0).toNat : Int)) (by rw [List.getElem?_map, hx]; rfl) ?_
    rw [xorI_val]
    refine IsSl.st hu (by omega) (by omega) rfl fun w5 hu5 f5 _ => ?_
    refine fin _ w5 ((s.b.take k.toNat).set (k - 1).toNat (xorI (s.b.getD (k - 1).toNat 0) p)) (by simp; omega) f5 (by unfold IsB; rw [List.map_set]; exact hu5) fun w' hw' => ⟨rfl, hw'⟩
  · rw [if_neg hq]
    exact fin _ w3 (s.b.take k.toNat) (by simp; omega) (Fr.refl _ _) hu fun w' hw' => ⟨rfl, hw'⟩

end Go.Proofs.Ytejhjjafmobmbaa
