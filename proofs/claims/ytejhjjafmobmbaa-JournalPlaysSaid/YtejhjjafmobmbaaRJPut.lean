/-
  What the document's journal does where a record is put.
  Conditions: the journal, its records and its file lie in blocks of their own.
-/
import Derived.Test.YtejhjjafmobmbaaRJOpen
set_option linter.unusedVariables false
namespace Go.Proofs.Ytejhjjafmobmbaa
open Vc

def inRJ (T : Nat → Prop) (q c h : Nat) : Nat → Prop := fun k => k = q ∨ k = c ∨ k = h ∨ T k
def RJTo (w : World) (T : Nat → Prop) (q c h : Nat) (s' : FileS) (d' : Bool) (rs' : List (List UInt8)) (w' : World) : Prop :=
  Fr (inRJ T q c h) w w' ∧ ∃ T' h', (∀ k, T' k → T k ∨ w.heap.size ≤ k) ∧ (h' = c ∨ h' = h ∨ w.heap.size ≤ h') ∧ IsRJ w' T' q c h' s' d' rs'

theorem IsRJ.flag {w : World} {S : Nat → Prop} {p b g : Nat} {s : FileS} {d : Bool} {rs : List (List UInt8)} (h : IsRJ w S p b g s d rs) (e : Bool) {K : World → Prop} (k : ∀ w1, Fr (only p) w w1 → IsRJ w1 S p b g s e rs → K w1) : StK ((⟨p, 0, none⟩ : Addr).add 2) (.bool e) w K := by
  obtain ⟨a, ⟨jl, b1, b2⟩, c, o⟩ := h
  refine StK.fld b1 (by simp) rfl fun w1 hb1 f1 _ => k w1 f1 ?_
  exact ⟨a.keep f1 (fun t => c.1 (Eq.symm t)) (fun t => c.2 (Eq.symm t)), ⟨jl, hb1, b2.keep f1 (fun k hk t => (o k hk).1 t)⟩, c, o⟩

theorem IsSl.clip1 {w : World} {E : Nat} {v : Sl} {xs : List Value} (h : IsSl w E 1 v xs) : IsSl w E 1 (v.1, v.2.1, v.2.1) xs := by
  rcases h with ⟨rfl, e⟩ | ⟨g, off, cs, h1, h2, h3, h4, h5, h6⟩
  · exact .inl ⟨rfl, e⟩
  · exact .inr ⟨g, off, cs, h1, h2, Nat.le_refl _, by dsimp only; omega, h5, h6⟩
theorem IsRows.clip {w : World} {S : Nat → Prop} {v : Sl} {rs : List (List UInt8)} (h : IsRows w S v rs) : IsRows w S (v.1, v.2.1, v.2.1) rs := by
  obtain ⟨⟨us, a1, a2, a3, a4⟩, o, l⟩ := h
  exact ⟨⟨us, IsSl.clip1 a1, a2, a3, a4⟩, o, l⟩

def Put5 (W0 W1 W2 W3 : World) (Q : World → Prop) : (Nat → Bool) → World → Prop := fun D w =>
  (D 17 = false → w = W0) ∧ (D 17 = true → D 18 = false → w = W1) ∧ (D 18 = true → D 17 = true) ∧ (D 18 = true → D 19 = false → w = W2) ∧ (D 19 = true → D 18 = true ∧ D 4 = true ∧ D 8 = true ∧ D 13 = true) ∧ (D 19 = true → D 22 = false → w = W3) ∧ (D 22 = true → D 19 = true ∧ Q w)

theorem rput_spec {w : World} {S : Nat → Prop} {p b g : Nat} {s : FileS} {d : Bool} {rs : List (List UInt8)} {v : Sl} {x : List UInt8} (h : IsRJ w S p b g s d rs) (hv : RdB w v x) (hvo : x ≠ [] → ∀ k, blkOf v k → k ≠ p ∧ k ≠ b ∧ k ≠ g ∧ ¬ S k) (hl : rs.length ≤ 1000000) :
    Ret Try.prog 72 #[.pointer (some ⟨p, 0, none⟩), .slice v.1 v.2.1 v.2.2] w fun r w' => r = .int .i64 (putJ s d x).2.2.1 ∧ RJTo w S p b g (putJ s d x).1 (putJ s d x).2.1 (if (putJ s d x).2.2.2 then rs ++ [x] else rs) w' := by
  have hvl := hv.len
  have pin : ∀ w w', Fr (only p) w w' → Fr (inRJ S p b g) w w' := fun w w' f => f.mono fun k _ t => .inl t
  have bin : ∀ w w', Fr (two b g) w w' → Fr (inRJ S p b g) w w' := fun w w' f => f.mono fun k _ t => t.elim (fun t => .inr (.inl t)) (fun t => .inr (.inr (.inl t)))
  have h0 := h
  obtain ⟨hf, ⟨jl, hp, hj⟩, hne, hoff⟩ := h
  have hplt := h0.plt
  have hslt := h0.slt
  refine c72 _ v.1 v.2.1 v.2.2 w _ ?_
  unfold C72 putJ
  have F0 : Fr (inRJ S p b g) w w := Fr.refl _ _
  refine LdK.fld hp (x := d) rfl ?_
  refine ifB.by (fun hd => ?_) (fun hd => ?_)
  · rw [hd, Bool.true_or, if_pos rfl]
    refine h0.flag true fun w1 f1 h1 => ⟨rfl, pin _ _ f1, S, g, fun k hk => .inl hk, .inr (.inl rfl), h1⟩
  rw [hd, Bool.false_or]
  subst hd
  refine LdK.fld hp (x := some ⟨b, 0, none⟩) rfl ?_
  have hfd : ∃ sl : Sl, w.heap[b]? = some (.cells #[.slice sl.1 sl.2.1 sl.2.2, .int .i64 s.synced, .int .i64 s.quota, .bool s.dead, .bool s.lit, .int .i64 s.fuse] 75 (0, 0)) := by
    obtain ⟨⟨sl, hb, _⟩, _⟩ := hf
    exact ⟨sl, hb⟩
  obtain ⟨fsl, hfb⟩ := hfd
  refine LdK.fld hfb (x := s.dead) rfl ?_
  refine ifB.by (fun hd => ?_) (fun hd => ?_)
  · rw [if_pos hd]
    refine h0.flag true fun w1 f1 h1 => ⟨rfl, pin _ _ f1, S, g, fun k hk => .inl hk, .inr (.inl rfl), h1⟩
  rw [if_neg (by rw [hd]; simp)]
  refine ifB.dec (fun hq => ?_) (fun hq => ?_)
  · rw [if_pos (by rw [← hvl]; exact hq)]
    exact ⟨rfl, F0, S, g, fun k hk => .inl hk, .inr (.inl rfl), h0⟩
  rw [if_neg (by rw [← hvl]; exact hq)]
  have hxl : x.length ≤ 4000 := by omega
  -- record, and append
  have r0 := drew_fr w
  generalize hW0 : ({ w with drawn := w.drawn + 1 } : World) = W0 at r0
  obtain ⟨u, W1, hr1, hu, q1, huf⟩ := record_is (hv.keep0 r0) hxl
  have h1W1 := (h0.keep0 r0).keep0 q1
  have hpW0 := r0.keep0 hp
  have hpW1 := q1.keep0 hpW0
  have e1 : w.heap.size ≤ W0.heap.size := r0.size
  have e2 : W0.heap.size ≤ W1.heap.size := q1.size
  refine ⟨⟨Mid2 5 6 3 W0 W1 (RefTo W1 b g (appF s (packL x)).1), ⟨fun _ => hW0, (fun t => by cases t), (fun t => by cases t)⟩, ?_⟩⟩
  refine ⟨some ⟨b, 0, none⟩, fun D w5 hD _ hC => ?_, ?_⟩
  · obtain ⟨k1, k2, k3⟩ := hC
    have h6 : D 6 = false := by
      cases hd6 : D 6 with
      | false => rfl
      | true => have := (k3 hd6).2.1; rw [hD] at this; cases this
    have hp5 : ∃ jl : Sl, w5.heap[p]? = some (.cells #[.pointer (some ⟨b, 0, none⟩), .slice jl.1 jl.2.1 jl.2.2, .bool false] 95 (0, 0)) := by
      cases h5 : D 5 with
      | false => rw [k1 h5]; exact ⟨jl, hpW0⟩
      | true => rw [k2 h5 h6]; exact ⟨jl, hpW1⟩
    obtain ⟨_, hp5⟩ := hp5
    refine LdK.fld hp5 (x := some ⟨b, 0, none⟩) rfl ⟨rfl, fun t => ?_, fun t t' => ?_, fun t => ?_⟩
    · rw [upd_ne' _ (by decide)] at t; exact k1 t
    · rw [upd_ne' _ (by decide)] at t t'; exact k2 t t'
    · rw [upd_ne' _ (by decide)] at t; rw [h6] at t; cases t
  refine ⟨u, fun D w5 hD _ hC => ?_, ?_⟩
  · obtain ⟨k1, k2, k3⟩ := hC
    obtain rfl := k1 hD
    refine CallK.of hr1 ?_
    rintro _ _ ⟨rfl, rfl⟩
    refine ⟨u, rfl, rfl, fun t => ?_, fun _ _ => rfl, fun t => ?_⟩
    · rw [upd_self'] at t; cases t
    · rw [upd_ne' _ (by decide)] at t; have := (k3 t).1; rw [hD] at this; cases this
  refine ⟨(appF s (packL x)).2, fun D w5 hD hp hC => ?_, ?_⟩
  · obtain ⟨k1, k2, k3⟩ := hC
    have h5 := hp 5 (by simp)
    have h3 := hp 3 (by simp)
    obtain rfl := k2 h5 hD
    refine CallK.of (rappend_spec h1W1.file hu.rd (fun _ t => by have := huf b t; have := hf.lt; omega)) ?_
    rintro _ w6 ⟨rfl, f6⟩
    refine ⟨_, rfl, rfl, fun t => ?_, fun _ t => ?_, fun _ => ⟨?_, ?_, f6⟩⟩
    · rw [upd_ne' _ (by decide), h5] at t; cases t
    · rw [upd_self'] at t; cases t
    · rw [upd_ne' _ (by decide), h5]
    · rw [upd_ne' _ (by decide), h3]
  intro w2 hC
  obtain ⟨_, _, t2⟩ := hC.2.2 rfl
  have fW1 : Fr (inRJ S p b g) w W1 := (r0.trans q1).mono fun _ _ t => t.elim
  have f12 := t2.1
  have hv2 : RdB w2 v x := ((hv.keep0 r0).keep0 q1).keepE f12 (fun hne k hk t => by obtain ⟨_, t1, t2, _⟩ := hvo hne k hk; rcases t with t | t; exact t1 t; exact t2 t)
  obtain ⟨g2, hg2, h2⟩ := h1W1.filed t2
  have fW2 : Fr (inRJ S p b g) w w2 := fW1.trans (bin _ _ f12)
  have hg2' : g2 = b ∨ g2 = g ∨ w.heap.size ≤ g2 := hg2.imp id (Or.imp id (Nat.le_trans fW1.size))
  clear hC t2
  generalize (appF s (packL x)) = A at *
  obtain ⟨s1, ea⟩ := A
  dsimp only at *
  obtain ⟨E, hE⟩ : ∃ y : FileS × Int, y = if ea ≠ 0 then (s1, ea) else ((syncF s1).1, (syncF s1).2) := ⟨_, rfl⟩
  have hres : (if ea ≠ 0 then (s1, ea == 11, ea, false) else if (syncF s1).2 ≠ 0 then ((syncF s1).1, (syncF s1).2 == 11, (syncF s1).2, false) else ((syncF s1).1, false, 0, true)) = (E.1, E.2 == 11, E.2, E.2 == 0) := by
    rw [hE]
    by_cases h1 : ea ≠ 0
    · rw [if_pos h1, if_pos h1]
      have : (ea == 0) = false := by simpa using h1
      rw [this]
    · rw [if_neg h1, if_neg h1]
      by_cases h2 : (syncF s1).2 ≠ 0
      · rw [if_pos h2]
        have : ((syncF s1).2 == 0) = false := by simpa using h2
        rw [this]
      · rw [if_neg h2]
        rw [Decidable.not_not] at h2
        rw [h2]; rfl
  rw [hres]
  dsimp only
  refine JoinK.of (fun q w3 => q.1 = E.2 ∧ ∃ g3, Fr (inRJ S p b g) w w3 ∧ (g3 = b ∨ g3 = g ∨ w.heap.size ≤ g3) ∧ IsRJ w3 S p b g3 E.1 false rs ∧ RdB w3 v x) ?_ ?_
  · refine ifB.eq (fun he => ?_) (fun he => ?_)
    · rw [if_neg (by simp [he])] at hE
      have h20 := h2
      obtain ⟨hf2, ⟨jl2, hp2, hj2⟩, hne2, hoff2⟩ := h2
      refine LdK.fld hp2 (x := some ⟨b, 0, none⟩) rfl ?_
      refine CallK.of (rsync_spec hf2) ?_
      rintro _ w3 ⟨rfl, t3⟩
      refine ⟨_, rfl, by rw [hE], ?_⟩
      have f23 := t3.1
      have hv3 : RdB w3 v x := hv2.keepE f23 (fun hne k hk t => by
        obtain ⟨_, t1, t2, _⟩ := hvo hne k hk
        rcases t with t | t
        · exact t1 t
        · rcases hg2' with q | q | q
          · exact t1 (t.trans q)
          · exact t2 (t.trans q)
          · have := hv.keep0 r0
            obtain ⟨ad, had, hk2⟩ := hk
            have hlt := (hv.2.2 ad had)
            cases hx : x.map bc with
            | nil => exact hne (List.map_eq_nil_iff.1 hx)
            | cons y l =>
              rw [hx] at hlt
              have hb := blk_of_cell hlt.1
              have e : (ad.add 0).block = ad.block := by unfold Addr.add; split <;> rfl
              rw [e] at hb
              omega)
      obtain ⟨g3, hg3, h3⟩ := h20.filed t3
      have fW3 : Fr (inRJ S p b g) w w3 := fW2.comp f23 (fun k hk t => by
        rcases t with t | t
        · exact .inr (.inl t)
        · rcases hg2' with q | q | q
          · exact .inr (.inl (t.trans q))
          · exact .inr (.inr (.inl (t.trans q)))
          · omega)
      refine ⟨g3, fW3, ?_, by rw [hE]; exact h3, hv3⟩
      rcases hg3 with t | t | t
      · exact .inl t
      · rw [t]; exact hg2'
      · exact .inr (.inr (Nat.le_trans fW2.size t))
    · rw [if_pos he] at hE
      exact ⟨by rw [hE], g2, fW2, hg2', by rw [hE]; exact h2, hv2⟩
  rintro _ ⟨e, _⟩ w3 ⟨he, g3, fW3, hg3, h3, hv3⟩
  dsimp only at he ⊢
  subst he
  refine ifB.by (fun h11 => ?_) (fun h11 => ?_)
  · refine h3.flag true fun w4 f4 h4 => ?_
    have hE11 : E.2 = 11 := by simpa using h11
    refine ifB.f (by rw [hE11]; rfl) ⟨rfl, fW3.trans (pin _ _ f4), S, g3, fun k hk => .inl hk, hg3, ?_⟩
    rw [h11, hE11]; exact h4
  rw [h11]
  refine ifB.by (fun h00 => ?_) (fun h00 => ?_)
  rotate_left
  · rw [h00]
    exact ⟨rfl, fW3, S, g3, fun k hk => .inl hk, hg3, h3⟩
  rw [h00, if_pos rfl]
  have h30 := h3
  obtain ⟨hf3, ⟨jl3, hp3, hj3⟩, hne3, hoff3⟩ := h3
  have s0 := drew_fr w3
  generalize hV0 : ({ w3 with drawn := w3.drawn + 1 } : World) = V0 at s0
  obtain ⟨c, V1, hc1, hcu, m1, hcf⟩ := rcopy_bytes (hv3.keep0 s0) (by omega)
  have hj31 := ((hj3.keep0 s0).keep0 m1).clip
  have hsz0 : w3.heap.size ≤ V0.heap.size := s0.size
  have hsl3 := hj3.lt
  obtain ⟨y, V2, z, V3, hy, m2, hz, m3, S', hS', hjr⟩ := hj31.snoc hcu.rd (fun k hk => ⟨IsSl.lt hcu hk, fun t => by have := hsl3 k t; have := hcf k hk; omega⟩) hl
  have hpV0 := s0.keep0 hp3
  have hpV1 := m1.keep0 hpV0
  have hpV2 := m2.keep0 hpV1
  have npj : ¬ blkOf (jl3.1, jl3.2.1, jl3.2.1) p := fun t => (hoff3 p (hj3.own p t)).1 rfl
  have hpV3 := m3.keep hpV1 npj
  have fV3 : Fr (inRJ S p b g) w3 V3 := ((s0.trans m1).mono fun _ _ t => t.elim).trans (m3.mono fun k _ t => .inr (.inr (.inr (hj3.own k t))))
  have hf3V : IsRef V3 b g3 E.1 := ((hf3.keep0 s0).keep0 m1).keep m3 (fun t => (hoff3 b (hj3.own b t)).2.1 rfl) (fun t => (hoff3 g3 (hj3.own g3 t)).2.2 rfl)
  have hplt3 := h30.plt
  have hblt3 := hf3.lt
  have hglt3 := hf3.glt
  have hm1 := m1.size
  have hS'' : ∀ k, S' k → S k ∨ w3.heap.size ≤ k := fun k hk => by
    rcases hS' k hk with t | t | t
    · exact .inl t
    · have := hcf k t; exact .inr (by omega)
    · exact .inr (by omega)
  have hoff' : ∀ k, S' k → k ≠ p ∧ k ≠ b ∧ k ≠ g3 := fun k hk => by
    rcases hS'' k hk with t | t
    · exact hoff3 k t
    · omega
  refine ⟨⟨Put5 V0 V1 V2 V3 (fun w9 => Fr (only p) V3 w9 ∧ w9.heap[p]? = some (.cells #[.pointer (some ⟨b, 0, none⟩), .slice z.1 z.2.1 z.2.2, .bool false] 95 (0, 0))), ⟨fun _ => hV0, (fun t => by cases t), (fun t => by cases t), (fun t => by cases t), (fun t => by cases t), (fun t => by cases t), (fun t => by cases t)⟩, ?_⟩⟩
  have load : ∀ (Q : World → Prop) (i : Nat), (i = 4 ∨ i = 8 ∨ i = 13) → ∀ (D : Nat → Bool) (w9 : World), D i = false → Put5 V0 V1 V2 V3 Q D w9 → w9.heap[p]? = some (.cells #[.pointer (some ⟨b, 0, none⟩), .slice jl3.1 jl3.2.1 jl3.2.2, .bool false] 95 (0, 0)) ∧ Put5 V0 V1 V2 V3 Q (upd D i) w9 := fun Q i hi D w9 hD hC => by
    obtain ⟨k1, k2, k3, k4, k5, k6, k7⟩ := hC
    have h19 : D 19 = false := by
      cases hd : D 19 with
      | false => rfl
      | true =>
        obtain ⟨_, q1, q2, q3⟩ := k5 hd
        rcases hi with t | t | t <;> subst t
        · rw [hD] at q1; cases q1
        · rw [hD] at q2; cases q2
        · rw [hD] at q3; cases q3
    have h22 : D 22 = false := by
      cases hd : D 22 with
      | false => rfl
      | true => have := (k7 hd).1; rw [h19] at this; cases this
    have n17 : (17 : Nat) ≠ i := by omega
    have n18 : (18 : Nat) ≠ i := by omega
    have n19 : (19 : Nat) ≠ i := by omega
    have n22 : (22 : Nat) ≠ i := by omega
    refine ⟨?_, fun t => ?_, fun t t' => ?_, fun t => ?_, fun t t' => ?_, fun t => ?_, fun t => ?_, fun t => ?_⟩
    · cases h17 : D 17 with
      | false => rw [k1 h17]; exact hpV0
      | true =>
        cases h18 : D 18 with
        | false => rw [k2 h17 h18]; exact hpV1
        | true => rw [k4 h18 h19]; exact hpV2
    · rw [upd_ne' _ n17] at t; exact k1 t
    · rw [upd_ne' _ n17] at t; rw [upd_ne' _ n18] at t'; exact k2 t t'
    · rw [upd_ne' _ n18] at t; rw [upd_ne' _ n17]; exact k3 t
    · rw [upd_ne' _ n18] at t; rw [upd_ne' _ n19] at t'; exact k4 t t'
    · rw [upd_ne' _ n19, h19] at t; cases t
    · rw [upd_ne' _ n19, h19] at t; cases t
    · rw [upd_ne' _ n22, h22] at t; cases t
  refine ⟨jl3, fun D w5 hD _ hC => by obtain ⟨hp5, hC'⟩ := load _ 4 (.inl rfl) D w5 hD hC; exact LdK.fld hp5 (x := jl3) rfl ⟨rfl, hC'⟩, ?_⟩
  refine ⟨jl3, fun D w5 hD _ hC => by obtain ⟨hp5, hC'⟩ := load _ 8 (.inr (.inl rfl)) D w5 hD hC; exact LdK.fld hp5 (x := jl3) rfl ⟨rfl, hC'⟩, ?_⟩
  refine ⟨jl3, fun D w5 hD _ hC => by obtain ⟨hp5, hC'⟩ := load _ 13 (.inr (.inr rfl)) D w5 hD hC; exact LdK.fld hp5 (x := jl3) rfl ⟨rfl, hC'⟩, ?_⟩
  have hcap : jl3.2.1 ≤ jl3.2.2 := by
    obtain ⟨⟨us, a1, _⟩, _⟩ := hj3
    rcases a1 with ⟨e, _⟩ | ⟨_, _, _, _, _, hle, _⟩
    · rw [e]; exact Nat.le_refl _
    · exact hle
  refine sub_clip (by omega) (by omega) ?_
  rw [Int.toNat_natCast]
  refine ⟨c, fun D w5 hD _ hC => ?_, ?_⟩
  · obtain ⟨k1, k2, k3, k4, k5, k6, k7⟩ := hC
    have h18 : D 18 = false := by
      cases hd : D 18 with
      | false => rfl
      | true => have := k3 hd; rw [hD] at this; cases this
    have h19 : D 19 = false := by
      cases hd : D 19 with
      | false => rfl
      | true => have := (k5 hd).1; rw [h18] at this; cases this
    have h22 : D 22 = false := by
      cases hd : D 22 with
      | false => rfl
      | true => have := (k7 hd).1; rw [h19] at this; cases this
    obtain rfl := k1 hD
    refine ⟨c, V1, hc1, rfl, fun t => ?_, fun _ _ => rfl, fun _ => upd_self' _ _, fun t => ?_, fun t => ?_, fun t => ?_, fun t => ?_⟩
    · rw [upd_self'] at t; cases t
    · rw [upd_ne' _ (by decide), h18] at t; cases t
    · rw [upd_ne' _ (by decide), h19] at t; cases t
    · rw [upd_ne' _ (by decide), h19] at t; cases t
    · rw [upd_ne' _ (by decide), h22] at t; cases t
  refine ⟨y, fun D w5 hD hp hC => ?_, ?_⟩
  · obtain ⟨k1, k2, k3, k4, k5, k6, k7⟩ := hC
    have h17 := hp 17 (by simp)
    have h19 : D 19 = false := by
      cases hd : D 19 with
      | false => rfl
      | true => have := (k5 hd).1; rw [hD] at this; cases this
    have h22 : D 22 = false := by
      cases hd : D 22 with
      | false => rfl
      | true => have := (k7 hd).1; rw [h19] at this; cases this
    obtain rfl := k2 h17 hD
    refine ⟨y, V2, hy, rfl, fun t => ?_, fun _ t => ?_, fun _ => ?_, fun _ _ => rfl, fun t => ?_, fun t => ?_, fun t => ?_⟩
    · rw [upd_ne' _ (by decide), h17] at t; cases t
    · rw [upd_self'] at t; cases t
    · rw [upd_ne' _ (by decide), h17]
    · rw [upd_ne' _ (by decide), h19] at t; cases t
    · rw [upd_ne' _ (by decide), h19] at t; cases t
    · rw [upd_ne' _ (by decide), h22] at t; cases t
  refine ⟨z, fun D w5 hD hp hC => ?_, ?_⟩
  · obtain ⟨k1, k2, k3, k4, k5, k6, k7⟩ := hC
    have h17 := hp 17 (by simp)
    have h18 := hp 18 (by simp)
    have h22 : D 22 = false := by
      cases hd : D 22 with
      | false => rfl
      | true => have := (k7 hd).1; rw [hD] at this; cases this
    obtain rfl := k4 h18 hD
    refine ⟨z, V3, hz, rfl, fun t => ?_, fun _ t => ?_, fun _ => ?_, fun _ t => ?_, fun _ => ⟨?_, ?_, ?_, ?_⟩, fun _ _ => rfl, fun t => ?_⟩
    · rw [upd_ne' _ (by decide), h17] at t; cases t
    · rw [upd_ne' _ (by decide), h18] at t; cases t
    · rw [upd_ne' _ (by decide), h17]
    · rw [upd_self'] at t; cases t
    · rw [upd_ne' _ (by decide), h18]
    · rw [upd_ne' _ (by decide)]; exact hp 4 (by simp)
    · rw [upd_ne' _ (by decide)]; exact hp 8 (by simp)
    · rw [upd_ne' _ (by decide)]; exact hp 13 (by simp)
    · rw [upd_ne' _ (by decide), h22] at t; cases t
  refine ⟨(), fun D w5 hD hp hC => ?_, ?_⟩
  · obtain ⟨k1, k2, k3, k4, k5, k6, k7⟩ := hC
    have h17 := hp 17 (by simp)
    have h18 := hp 18 (by simp)
    have h19 := hp 19 (by simp)
    obtain rfl := k6 h19 hD
    refine StK.fld hpV3 (by simp) rfl fun w9 hp9 f9 _ => ⟨rfl, fun t => ?_, fun _ t => ?_, fun _ => ?_, fun _ t => ?_, fun _ => ⟨?_, ?_, ?_, ?_⟩, fun _ t => ?_, fun _ => ⟨?_, f9, ?_⟩⟩
    · rw [upd_ne' _ (by decide), h17] at t; cases t
    · rw [upd_ne' _ (by decide), h18] at t; cases t
    · rw [upd_ne' _ (by decide), h17]
    · rw [upd_ne' _ (by decide), h19] at t; cases t
    · rw [upd_ne' _ (by decide), h18]
    · rw [upd_ne' _ (by decide)]; exact hp 4 (by simp)
    · rw [upd_ne' _ (by decide)]; exact hp 8 (by simp)
    · rw [upd_ne' _ (by decide)]; exact hp 13 (by simp)
    · rw [upd_self'] at t; cases t
    · rw [upd_ne' _ (by decide), h19]
    · exact hp9
  intro w9 hC
  obtain ⟨_, f9, hp9⟩ := hC.2.2.2.2.2.2 rfl
  have fall := (fW3.trans fV3).trans (pin _ _ f9)
  refine ⟨rfl, fall, S', g3, fun k hk => (hS'' k hk).imp id (Nat.le_trans fW3.size), hg3, hf3V.keep f9 (fun t => hne3.1 (Eq.symm t)) (fun t => hne3.2 (Eq.symm t)), ⟨z, hp9, hjr.keep f9 (fun k hk t => (hoff' k hk).1 t)⟩, hne3, hoff'⟩

theorem Sim.put {s t : FileS} (h : Sim s t) (d : Bool) (x : List UInt8) : (putJ s d x).2 = (putJ t d x).2 ∧ Sim (putJ s d x).1 (putJ t d x).1 := by
  obtain ⟨a1, a2⟩ := h.app (packL x)
  obtain ⟨b1, b2⟩ := a2.sync
  unfold putJ
  rw [h.dead, a1, b1]
  split
  · exact ⟨rfl, h⟩
  split
  · exact ⟨rfl, h⟩
  split
  · exact ⟨rfl, a2⟩
  split
  · exact ⟨rfl, b2⟩
  · exact ⟨rfl, b2⟩

end Go.Proofs.Ytejhjjafmobmbaa
