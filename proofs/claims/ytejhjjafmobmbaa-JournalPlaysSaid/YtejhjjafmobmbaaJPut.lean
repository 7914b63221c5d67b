/-
  What a journal does: Put, Room, Open of an empty file; the example of the document.
  Conditions: the journal, its records and its file lie in blocks of their own.
-/
import Derived.Test.YtejhjjafmobmbaaJSpec
set_option linter.unusedVariables false
namespace Go.Proofs.Ytejhjjafmobmbaa
open Vc

theorem take_xor0 {bs : List UInt8} {i : Nat} (h : i < bs.length) : bs.set i (xorI (bs.getD i 0) 0) = bs := by
  have e : xorI (bs.getD i 0) 0 = bs.getD i 0 := by
    unfold xorI
    have : BitVec.ofInt 8 0 = 0#8 := rfl
    rw [this, BitVec.xor_zero]
    have h2 : (BitVec.ofInt 8 ((bs.getD i 0).toNat : Int)).toNat = (bs.getD i 0).toNat := by
      rw [BitVec.ofInt_natCast, BitVec.toNat_ofNat, Nat.mod_eq_of_lt (UInt8.toNat_lt _)]
    rw [h2]
    exact UInt8.ofNat_toNat
  rw [e, List.getD_eq_getElem?_getD, List.getElem?_eq_getElem h]
  simp

/-- A crash that keeps all. -/
theorem crash_all {s : FileS} (ok : s.Ok) : (crashF s s.b.length 0).b = s.b ∧ (crashF s s.b.length 0).quota = s.quota ∧ (crashF s s.b.length 0).dead = false ∧ (crashF s s.b.length 0).lit = false := by
  obtain ⟨k1, k2, k3, k4, k5⟩ := ok
  have hk : crashK s s.b.length = s.b.length := by
    unfold crashK
    repeat' split
    all_goals omega
  refine ⟨?_, rfl, rfl, rfl⟩
  show crashB s (crashK s s.b.length) 0 = s.b
  rw [hk]
  unfold crashB
  rw [Int.toNat_natCast, List.take_length]
  split
  · exact take_xor0 (by omega)
  · rfl

theorem appF_code {s : FileS} {x : List UInt8} (hd : s.dead = false) (hl : s.lit = false) : ((appF s x).2 != 10) = decide ((x.length : Int) ≤ s.quota - s.b.length) := by
  by_cases h : (x.length : Int) ≤ s.quota - s.b.length
  · rw [(appF_ok hl hd h).1, decide_eq_true h]; rfl
  · rw [appF_full hd (by omega), decide_eq_false h]; rfl

def roomF (s : FileS) (n : Int) : Bool := decide (0 ≤ n) && decide (n ≤ 4000) && decide (n + 3 ≤ s.quota - s.b.length)

theorem room_spec {w : World} {S : Nat → Prop} {p b g : Nat} {s : FileS} {d : Bool} {rs : List (List UInt8)} (h : IsJ w S p b g s d rs) (n : Int) : Ret Try.prog 70 #[.pointer (some ⟨p, 0, none⟩), .int .i64 n] w fun r w' => r = .bool (roomF s n) ∧ Fr none1 w w' := by
  obtain ⟨hf, ⟨jl, hp, _⟩, _⟩ := h
  have ok := hf.ok
  refine c70 _ n w _ ?_
  unfold roomF
  refine ifB.dec (fun h1 => ?_) (fun h1 => ?_)
  · refine ⟨?_, Fr.refl _ _⟩
    rw [decide_eq_false (by omega)]; rfl
  refine ifB.dec (fun h2 => ?_) (fun h2 => ?_)
  · refine ⟨?_, Fr.refl _ _⟩
    rw [decide_eq_false (p := n ≤ 4000) (by omega), Bool.and_false]; rfl
  rw [decide_eq_true (p := 0 ≤ n) (by omega), decide_eq_true (p := n ≤ 4000) (by omega)]
  refine LdK.fld hp (x := some ⟨b, 0, none⟩) rfl ?_
  refine CallK.of (fclone_spec hf) ?_
  rintro _ w1 ⟨c, gc, rfl, f1, hc, hgc, j1⟩
  refine ⟨some ⟨c, 0, none⟩, rfl, ?_⟩
  refine CallK.of (fbytes_spec j1) ?_
  rintro _ w2 ⟨u, rfl, hu, f2, huf⟩
  have hul := hu.len
  refine ⟨u, rfl, ?_⟩
  refine CallK.of (fcrash_spec (j1.keep0 f2) (u.2.1 : Int) 0) ?_
  rw [hul]
  rintro _ w3 ⟨rfl, f3, g3, _, j3⟩
  refine ⟨(), rfl, ?_⟩
  obtain ⟨a1, a2, a3, a4⟩ := crash_all ok
  rw [wI (x := 2 + n) (by omega) (by omega), wI (x := 2 + n + 1) (by omega) (by omega)]
  refine zeros_ok (by omega) (by omega) fun v w4 hv f4 hvf => ?_
  refine CallK.of (fappend_spec (j3.keep0 f4) hv (fun t => by have := hvf c t; have := j3.lt; omega)) ?_
  rintro _ w5 ⟨rfl, f5, _⟩
  refine ⟨_, rfl, ?_, ?_⟩
  · rw [appF_code a3 a4, a1, a2, List.length_replicate, Bool.true_and, Bool.true_and]
    congr 1
    exact decide_eq_decide.2 (by omega)
  · exact (((f1.trans f2).fresh f3 hc).trans f4).fresh f5 hc

/-! ### Put -/
def putJ (s : FileS) (d : Bool) (x : List UInt8) : FileS × Bool × Int × Bool :=
  if d || s.dead then (s, true, 11, false) else if (x.length : Int) > 4000 then (s, false, 5, false) else
  if (appF s (packL x)).2 ≠ 0 then ((appF s (packL x)).1, (appF s (packL x)).2 == 11, (appF s (packL x)).2, false) else
  if (syncF (appF s (packL x)).1).2 ≠ 0 then ((syncF (appF s (packL x)).1).1, (syncF (appF s (packL x)).1).2 == 11, (syncF (appF s (packL x)).1).2, false) else
  ((syncF (appF s (packL x)).1).1, false, 0, true)

def Mid2 (i j l : Nat) (W0 W1 : World) (Q : World → Prop) : (Nat → Bool) → World → Prop := fun D w =>
  (D i = false → w = W0) ∧ (D i = true → D j = false → w = W1) ∧ (D j = true → D i = true ∧ D l = true ∧ Q w)

def Put4 (W0 W1 W2 W3 : World) (Q : World → Prop) : (Nat → Bool) → World → Prop := fun D w =>
  (D 6 = false → w = W0) ∧ (D 6 = true → D 7 = false → w = W1) ∧ (D 7 = true → D 6 = true) ∧ (D 7 = true → D 8 = false → w = W2) ∧ (D 8 = true → D 7 = true ∧ D 4 = true) ∧ (D 8 = true → D 11 = false → w = W3) ∧ (D 11 = true → D 8 = true ∧ Q w)

/-- The flag is set. -/
theorem IsJ.flag {w : World} {S : Nat → Prop} {p b g : Nat} {s : FileS} {d : Bool} {rs : List (List UInt8)} (h : IsJ w S p b g s d rs) (e : Bool) {K : World → Prop} (k : ∀ w1, Fr (only p) w w1 → IsJ w1 S p b g s e rs → K w1) : StK ((⟨p, 0, none⟩ : Addr).add 2) (.bool e) w K := by
  obtain ⟨a, ⟨jl, b1, b2⟩, c, o⟩ := h
  refine StK.fld b1 (by simp) rfl fun w1 hb1 f1 _ => k w1 f1 ?_
  exact ⟨a.keep f1 (fun t => c.1 (Eq.symm t)) (fun t => c.2 (Eq.symm t)), ⟨jl, hb1, b2.keep f1 (fun k hk t => (o k hk).1 t)⟩, c, o⟩

theorem JTo.of {w w1 w' : World} {S : Nat → Prop} {p b g g1 : Nat} {s' : FileS} {d' : Bool} {rs' : List (List UInt8)} (f : Fr (inJ S p b) w w1) (hg1 : g1 = b ∨ g1 = g ∨ w.heap.size ≤ g1) (h : JTo w1 S p b g1 s' d' rs' w') : JTo w S p b g s' d' rs' w' := by
  obtain ⟨a, S', g', h1, h2, h3⟩ := h
  refine ⟨f.trans a, S', g', fun k hk => (h1 k hk).imp id (Nat.le_trans f.size), ?_, h3⟩
  rcases h2 with t | t | t
  · exact .inl t
  · rw [t]; exact hg1
  · exact .inr (.inr (Nat.le_trans f.size t))

theorem put_spec {w : World} {S : Nat → Prop} {p b g : Nat} {s : FileS} {d : Bool} {rs : List (List UInt8)} {v : Sl} {x : List UInt8} (h : IsJ w S p b g s d rs) (hv : RdB w v x) (hvo : ∀ k, blkOf v k → k < w.heap.size ∧ k ≠ p ∧ k ≠ b ∧ ¬ S k) (hl : rs.length ≤ 1000000) :
    Ret Try.prog 66 #[.pointer (some ⟨p, 0, none⟩), .slice v.1 v.2.1 v.2.2] w fun r w' => r = .int .i64 (putJ s d x).2.2.1 ∧ JTo w S p b g (putJ s d x).1 (putJ s d x).2.1 (if (putJ s d x).2.2.2 then rs ++ [x] else rs) w' := by
  have hvl := hv.len
  have pin : ∀ w w', Fr (only p) w w' → Fr (inJ S p b) w w' := fun w w' f => f.mono fun k _ t => .inl t
  have bin : ∀ w w', Fr (only b) w w' → Fr (inJ S p b) w w' := fun w w' f => f.mono fun k _ t => .inr (.inl t)
  refine c66 _ v.1 v.2.1 v.2.2 w _ ?_
  unfold C66
  refine JoinK.of (fun _ w1 => Fr (only p) w w1 ∧ IsJ w1 S p b g s (d || s.dead) rs) ?_ ?_
  · have h0 := h
    obtain ⟨hf, ⟨jl, hp, _⟩, _⟩ := h0
    refine LdK.fld hp rfl ?_
    refine ifB.by (fun hd => ?_) (fun hd => ?_)
    · refine h.flag true fun w1 f1 h1 => ⟨f1, ?_⟩
      rw [hd]; exact h1
    · refine LdK.fld hp (x := some ⟨b, 0, none⟩) rfl ?_
      refine CallK.of (fdead_spec hf) ?_
      rintro _ _ ⟨rfl, rfl⟩
      refine ⟨_, rfl, ?_⟩
      refine h.flag s.dead fun w1 f1 h1 => ⟨f1, ?_⟩
      rw [hd, Bool.false_or]; exact h1
  rintro _ _ w1 ⟨f1, h1⟩
  have h10 := h1
  obtain ⟨hf1, ⟨jl, hp1, hj1⟩, hne, hoff⟩ := h1
  have hplt := h10.plt
  have hslt := h10.slt
  have hv1 : RdB w1 v x := hv.keep f1 (fun k hk t => (hvo k hk).2.1 t)
  have hs01 := f1.size
  refine LdK.fld hp1 rfl ?_
  unfold putJ
  refine ifB.by (fun hd => ?_) (fun hd => ?_)
  · rw [if_pos hd]
    rw [hd] at h10
    exact ⟨rfl, pin _ _ f1, S, g, fun k hk => .inl hk, .inr (.inl rfl), h10⟩
  rw [if_neg (by rw [hd]; simp)]
  rw [hd] at h10
  refine ifB.dec (fun hq => ?_) (fun hq => ?_)
  · rw [if_pos (by rw [← hvl]; exact hq)]
    exact ⟨rfl, pin _ _ f1, S, g, fun k hk => .inl hk, .inr (.inl rfl), h10⟩
  rw [if_neg (by rw [← hvl]; exact hq)]
  have hxl : x.length ≤ 4000 := by omega
  -- pack, and append
  have r0 := drew_fr w1
  generalize hW0 : ({ w1 with drawn := w1.drawn + 1 } : World) = W0 at r0
  obtain ⟨u, W1, hr1, hu, q1, huf⟩ := pack_is (hv1.keep0 r0) hxl
  have h1W1 := (h10.keep0 r0).keep0 q1
  have hpW0 := r0.keep0 hp1
  have hpW1 := q1.keep0 hpW0
  have e1 : w1.heap.size ≤ W0.heap.size := r0.size
  have e2 : W0.heap.size ≤ W1.heap.size := q1.size
  refine ⟨⟨Mid2 5 6 3 W0 W1 (FileTo W1 b g (appF s (packL x)).1), ⟨fun _ => hW0, (fun t => by cases t), (fun t => by cases t)⟩, ?_⟩⟩
  refine ⟨some ⟨b, 0, none⟩, fun D w5 hD _ hC => ?_, ?_⟩
  · obtain ⟨k1, k2, k3⟩ := hC
    have h6 : D 6 = false := by
      cases hd6 : D 6 with
      | false => rfl
      | true => have := (k3 hd6).2.1; rw [hD] at this; cases this
    have hp5 : ∃ jl : Sl, w5.heap[p]? = some (.cells #[.pointer (some ⟨b, 0, none⟩), .slice jl.1 jl.2.1 jl.2.2, .bool (d || s.dead)] 105 (0, 0)) := by
      cases h5 : D 5 with
      | false => rw [k1 h5]; exact ⟨jl, hpW0⟩
      | true => rw [k2 h5 h6]; exact ⟨jl, hpW1⟩
    obtain ⟨_, hp5⟩ := hp5
    refine LdK.fld hp5 (x := some ⟨b, 0, none⟩) rfl ⟨rfl, fun t => ?_, fun t t' => ?_, fun t => ?_⟩
    · rw [upd_ne' _ (by decide)] at t; exact k1 t
    · rw [upd_ne' _ (by decide)] at t t'; exact k2 t t'
    · rw [upd_ne' _ (by decide)] at t; rw [h6] at t; cases t
  refine ⟨u, fun D w5 hD _ hC => ?_, ?_⟩
  · obtain ⟨k1, k2, k3⟩ := hC
    obtain rfl := k1 hD
    refine CallK.of hr1 ?_
    rintro _ _ ⟨rfl, rfl⟩
    refine ⟨u, rfl, rfl, fun t => ?_, fun _ _ => rfl, fun t => ?_⟩
    · rw [upd_self'] at t; cases t
    · rw [upd_ne' _ (by decide)] at t; have := (k3 t).1; rw [hD] at this; cases this
  refine ⟨(appF s (packL x)).2, fun D w5 hD hp hC => ?_, ?_⟩
  · obtain ⟨k1, k2, k3⟩ := hC
    have h5 := hp 5 (by simp)
    have h3 := hp 3 (by simp)
    obtain rfl := k2 h5 hD
    refine CallK.of (fappend_spec h1W1.file hu.rd (fun t => by have := huf b t; have := h10.file.lt; omega)) ?_
    rintro _ w6 ⟨rfl, f6⟩
    refine ⟨_, rfl, rfl, fun t => ?_, fun _ t => ?_, fun _ => ⟨?_, ?_, f6⟩⟩
    · rw [upd_ne' _ (by decide), h5] at t; cases t
    · rw [upd_self'] at t; cases t
    · rw [upd_ne' _ (by decide), h5]
    · rw [upd_ne' _ (by decide), h3]
  intro w2 hC
  obtain ⟨_, _, t2⟩ := hC.2.2 rfl
  have fW1 : Fr (inJ S p b) w W1 := ((pin _ _ f1).then0 r0).then0 q1
  have f12 := t2.1
  have hv2 : RdB w2 v x := ((hv1.keep0 r0).keep0 q1).keep f12 (fun k hk t => (hvo k hk).2.2.1 t)
  obtain ⟨g2, hg2, h2⟩ := h1W1.filed t2
  have fW2 : Fr (inJ S p b) w w2 := fW1.trans (bin _ _ f12)
  have hg2' : g2 = b ∨ g2 = g ∨ w.heap.size ≤ g2 := hg2.imp id (Or.imp id (Nat.le_trans fW1.size))
  clear hC t2
  generalize (appF s (packL x)) = A at *
  obtain ⟨s1, ea⟩ := A
  dsimp only at *
  refine ifB.eq (fun he => ?_) (fun he => ?_)
  · subst he
    rw [if_neg (by simp)]
    have h20 := h2
    obtain ⟨hf2, ⟨jl2, hp2, hj2⟩, hne2, hoff2⟩ := h2
    refine LdK.fld hp2 (x := some ⟨b, 0, none⟩) rfl ?_
    refine CallK.of (fsync_spec hf2) ?_
    rintro _ w3 ⟨rfl, t3⟩
    refine ⟨_, rfl, ?_⟩
    have f23 := t3.1
    have hv3 : RdB w3 v x := hv2.keep f23 (fun k hk t => (hvo k hk).2.2.1 t)
    obtain ⟨g3, hg3, h3⟩ := h20.filed t3
    have fW3 : Fr (inJ S p b) w w3 := fW2.trans (bin _ _ f23)
    have hg3' : g3 = b ∨ g3 = g ∨ w.heap.size ≤ g3 := by
      rcases hg3 with t | t | t
      · exact .inl t
      · rw [t]; exact hg2'
      · exact .inr (.inr (Nat.le_trans fW2.size t))
    clear t3
    generalize (syncF s1) = B at *
    obtain ⟨s2, eb⟩ := B
    dsimp only at *
    refine ifB.ne (fun hb => ?_) (fun hb => ?_)
    · rw [if_pos hb]
      refine h3.flag (eb == 11) fun w4 f4 h4 => ⟨rfl, fW3.trans (pin _ _ f4), S, g3, fun k hk => .inl hk, hg3', h4⟩
    · subst hb
      rw [if_neg (by simp)]
      have h30 := h3
      obtain ⟨hf3, ⟨jl3, hp3, hj3⟩, hne3, hoff3⟩ := h3
      have s0 := drew_fr w3
      generalize hV0 : ({ w3 with drawn := w3.drawn + 1 } : World) = V0 at s0
      obtain ⟨c, V1, hc1, hcu, m1, hcf⟩ := clone_is (hv3.keep0 s0) (by omega)
      have hj31 := (hj3.keep0 s0).keep0 m1
      have hsz0 : w3.heap.size ≤ V0.heap.size := s0.size
      have hsl3 := hj3.lt
      obtain ⟨y, V2, z, V3, hy, m2, hz, m3, S', hS', hjr⟩ := hj31.snoc hcu.rd (fun k hk => ⟨IsSl.lt hcu hk, fun t => by have := hsl3 k t; have := hcf k hk; omega⟩) hl
      have hpV0 := s0.keep0 hp3
      have hpV1 := m1.keep0 hpV0
      have hpV2 := m2.keep0 hpV1
      have npj : ¬ blkOf jl3 p := fun t => (hoff3 p (hj3.own p t)).1 rfl
      have hpV3 := m3.keep hpV1 npj
      have fV3 : Fr (inJ S p b) w3 V3 := ((s0.trans m1).mono fun _ _ t => t.elim).trans (m3.mono fun k _ t => .inr (.inr (hj3.own k t)))
      have hf3V : IsFile V3 b g3 s2 := ((hf3.keep0 s0).keep0 m1).keep m3 (fun t => (hoff3 b (hj3.own b t)).2.1 rfl) (fun t => (hoff3 g3 (hj3.own g3 t)).2.2 rfl)
      have hplt3 := h30.plt
      have hblt3 := hf3.lt
      have hglt3 := hf3.glt
      have hm1 := m1.size
      have hS'' : ∀ k, S' k → S k ∨ w3.heap.size ≤ k := fun k hk => by
        rcases hS' k hk with t | t | t
        · exact .inl t
        · have := hcf k t; exact .inr (by omega)
        · exact .inr (by omega)
      have hoff' : ∀ k, S' k → k ≠ p ∧ k ≠ b ∧ k ≠ g3 := fun k hk => by
        rcases hS'' k hk with t | t
        · exact hoff3 k t
        · omega
      refine ⟨⟨Put4 V0 V1 V2 V3 (fun w9 => Fr (only p) V3 w9 ∧ w9.heap[p]? = some (.cells #[.pointer (some ⟨b, 0, none⟩), .slice z.1 z.2.1 z.2.2, .bool false] 105 (0, 0))), ⟨fun _ => hV0, (fun t => by cases t), (fun t => by cases t), (fun t => by cases t), (fun t => by cases t), (fun t => by cases t), (fun t => by cases t)⟩, ?_⟩⟩
      refine ⟨jl3, fun D w5 hD _ hC => ?_, ?_⟩
      · obtain ⟨k1, k2, k3, k4, k5, k6, k7⟩ := hC
        have h8 : D 8 = false := by
          cases hd : D 8 with
          | false => rfl
          | true => have := (k5 hd).2; rw [hD] at this; cases this
        have h11 : D 11 = false := by
          cases hd : D 11 with
          | false => rfl
          | true => have := (k7 hd).1; rw [h8] at this; cases this
        have hp5 : w5.heap[p]? = some (.cells #[.pointer (some ⟨b, 0, none⟩), .slice jl3.1 jl3.2.1 jl3.2.2, .bool (d || s.dead)] 105 (0, 0)) := by
          rw [hd]
          cases h6 : D 6 with
          | false => rw [k1 h6]; exact hpV0
          | true =>
            cases h7 : D 7 with
            | false => rw [k2 h6 h7]; exact hpV1
            | true => rw [k4 h7 h8]; exact hpV2
        refine LdK.fld hp5 (x := jl3) rfl ⟨rfl, fun t => ?_, fun t t' => ?_, fun t => ?_, fun t t' => ?_, fun t => ?_, fun t => ?_, fun t => ?_⟩
        · rw [upd_ne' _ (by decide)] at t; exact k1 t
        · rw [upd_ne' _ (by decide)] at t t'; exact k2 t t'
        · rw [upd_ne' _ (by decide)] at t ⊢; exact k3 t
        · rw [upd_ne' _ (by decide)] at t t'; exact k4 t t'
        · rw [upd_ne' _ (by decide)] at t; rw [h8] at t; cases t
        · rw [upd_ne' _ (by decide)] at t; rw [h8] at t; cases t
        · rw [upd_ne' _ (by decide)] at t; rw [h11] at t; cases t
      refine ⟨c, fun D w5 hD _ hC => ?_, ?_⟩
      · obtain ⟨k1, k2, k3, k4, k5, k6, k7⟩ := hC
        have h7 : D 7 = false := by
          cases hd : D 7 with
          | false => rfl
          | true => have := k3 hd; rw [hD] at this; cases this
        have h8 : D 8 = false := by
          cases hd : D 8 with
          | false => rfl
          | true => have := (k5 hd).1; rw [h7] at this; cases this
        have h11 : D 11 = false := by
          cases hd : D 11 with
          | false => rfl
          | true => have := (k7 hd).1; rw [h8] at this; cases this
        obtain rfl := k1 hD
        refine CallK.of hc1 ?_
        rintro _ _ ⟨rfl, rfl⟩
        refine ⟨c, rfl, rfl, fun t => ?_, fun _ _ => rfl, fun _ => upd_self' _ _, fun t => ?_, fun t => ?_, fun t => ?_, fun t => ?_⟩
        · rw [upd_self'] at t; cases t
        · rw [upd_ne' _ (by decide)] at t; rw [h7] at t; cases t
        · rw [upd_ne' _ (by decide)] at t; rw [h8] at t; cases t
        · rw [upd_ne' _ (by decide)] at t; rw [h8] at t; cases t
        · rw [upd_ne' _ (by decide)] at t; rw [h11] at t; cases t
      refine ⟨y, fun D w5 hD hp hC => ?_, ?_⟩
      · obtain ⟨k1, k2, k3, k4, k5, k6, k7⟩ := hC
        have h6 := hp 6 (by simp)
        have h8 : D 8 = false := by
          cases hd : D 8 with
          | false => rfl
          | true => have := (k5 hd).1; rw [hD] at this; cases this
        have h11 : D 11 = false := by
          cases hd : D 11 with
          | false => rfl
          | true => have := (k7 hd).1; rw [h8] at this; cases this
        obtain rfl := k2 h6 hD
        refine ⟨y, V2, hy, rfl, fun t => ?_, fun _ t => ?_, fun _ => ?_, fun _ _ => rfl, fun t => ?_, fun t => ?_, fun t => ?_⟩
        · rw [upd_ne' _ (by decide), h6] at t; cases t
        · rw [upd_self'] at t; cases t
        · rw [upd_ne' _ (by decide), h6]
        · rw [upd_ne' _ (by decide)] at t; rw [h8] at t; cases t
        · rw [upd_ne' _ (by decide)] at t; rw [h8] at t; cases t
        · rw [upd_ne' _ (by decide)] at t; rw [h11] at t; cases t
      refine ⟨z, fun D w5 hD hp hC => ?_, ?_⟩
      · obtain ⟨k1, k2, k3, k4, k5, k6, k7⟩ := hC
        have h4 := hp 4 (by simp)
        have h6 := hp 6 (by simp)
        have h7 := hp 7 (by simp)
        have h11 : D 11 = false := by
          cases hd : D 11 with
          | false => rfl
          | true => have := (k7 hd).1; rw [hD] at this; cases this
        obtain rfl := k4 h7 hD
        refine ⟨z, V3, hz, rfl, fun t => ?_, fun _ t => ?_, fun _ => ?_, fun _ t => ?_, fun _ => ⟨?_, ?_⟩, fun _ _ => rfl, fun t => ?_⟩
        · rw [upd_ne' _ (by decide), h6] at t; cases t
        · rw [upd_ne' _ (by decide), h7] at t; cases t
        · rw [upd_ne' _ (by decide), h6]
        · rw [upd_self'] at t; cases t
        · rw [upd_ne' _ (by decide), h7]
        · rw [upd_ne' _ (by decide), h4]
        · rw [upd_ne' _ (by decide)] at t; rw [h11] at t; cases t
      refine ⟨(), fun D w5 hD hp hC => ?_, ?_⟩
      · obtain ⟨k1, k2, k3, k4, k5, k6, k7⟩ := hC
        have h4 := hp 4 (by simp)
        have h6 := hp 6 (by simp)
        have h7 := hp 7 (by simp)
        have h8 := hp 8 (by simp)
        obtain rfl := k6 h8 hD
        refine StK.fld hpV3 (by simp) rfl fun w9 hp9 f9 _ => ⟨rfl, fun t => ?_, fun _ t => ?_, fun _ => ?_, fun _ t => ?_, fun _ => ⟨?_, ?_⟩, fun _ t => ?_, fun _ => ⟨?_, f9, ?_⟩⟩
        · rw [upd_ne' _ (by decide), h6] at t; cases t
        · rw [upd_ne' _ (by decide), h7] at t; cases t
        · rw [upd_ne' _ (by decide), h6]
        · rw [upd_ne' _ (by decide), h8] at t; cases t
        · rw [upd_ne' _ (by decide), h7]
        · rw [upd_ne' _ (by decide), h4]
        · rw [upd_self'] at t; cases t
        · rw [upd_ne' _ (by decide), h8]
        · exact hp9
      intro w9 hC
      obtain ⟨_, f9, hp9⟩ := hC.2.2.2.2.2.2 rfl
      refine ⟨rfl, (fW3.trans fV3).trans (pin _ _ f9), S', g3, fun k hk => (hS'' k hk).imp id (Nat.le_trans fW3.size), hg3', hf3V.keep f9 (fun t => hne3.1 (Eq.symm t)) (fun t => hne3.2 (Eq.symm t)), ⟨z, hp9, hjr.keep f9 (fun k hk t => (hoff' k hk).1 t)⟩, hne3, hoff'⟩
  · refine ifB.ne (fun hb => ?_) (fun hb => absurd hb he)
    rw [if_pos hb]
    exact h2.flag (ea == 11) fun w4 f4 h4 => ⟨rfl, fW2.trans (pin _ _ f4), S, g2, fun k hk => .inl hk, hg2', h4⟩

/-! ### Open of an empty file, and the document's example -/
theorem first_none {w : World} {v : Sl} (h : v.2.1 < 2) : Ret Try.prog 80 #[.slice v.1 v.2.1 v.2.2] w fun r w' => r = .tuple #[.slice none 0 0, .slice v.1 v.2.1 v.2.2, .bool false] ∧ w = w' := by
  refine c80 v.1 v.2.1 v.2.2 w _ ?_
  exact ifB.yes (by omega) ⟨rfl, rfl⟩

theorem open_none {w : World} {b g : Nat} {s : FileS} (h : IsFile w b g s) (hd : s.dead = false) (hb : s.b = []) : Ret Try.prog 65 #[.pointer (some ⟨b, 0, none⟩)] w fun r w' =>
    ∃ (p : Nat) (S : Nat → Prop), r = .tuple #[.pointer (some ⟨p, 0, none⟩), .int .i64 0] ∧ w.heap.size ≤ p ∧ Fr none1 w w' ∧ (∀ k, S k → w.heap.size ≤ k) ∧ IsJ w' S p b g s false [] := by
  refine c65 _ w _ ?_
  refine CallK.of (fdead_spec h) ?_
  rintro _ _ ⟨rfl, rfl⟩
  rw [hd]
  refine ⟨_, rfl, ifB.f rfl ?_⟩
  refine NewK.of fun p w1 hp hp1 f1 hs1 => ?_
  have h1 := h.keep0 f1
  refine CallK.of (fbytes_spec h1) ?_
  rintro _ w2 ⟨u, rfl, hu, f2, huf⟩
  refine ⟨u, rfl, ?_⟩
  have hul : u.2.1 = 0 := by have := hu.len; rw [hb] at this; exact this
  refine LoopK.of (fun q w' => q.1 = (u.1, u.2.1, u.2.2) ∧ w2 = w') (fun _ _ => 0) ⟨rfl, rfl⟩ ?_
  rintro _ ⟨q, _⟩ _ ⟨hq, rfl⟩
  dsimp only at hq
  subst hq
  refine CallK.of (first_none (v := (u.1, u.2.1, u.2.2)) (by dsimp only; omega)) ?_
  rintro _ _ ⟨rfl, rfl⟩
  refine ⟨((none, 0, 0), (u.1, u.2.1, u.2.2), false, ()), rfl, ifB.t rfl ?_⟩
  refine ifB.no (by dsimp only; omega) ?_
  have hbl := h.lt
  have hgl := h.glt
  refine ⟨p, fun _ => False, rfl, by omega, f1.trans f2, fun k t => t.elim, h1.keep0 f2, ⟨(none, 0, 0), f2.keep0 hp1, none_rows _ _ fun k t => t.elim⟩, by omega, fun k t => t.elim⟩

theorem putJ_ok {s : FileS} {x : List UInt8} (hl : s.lit = false) (hd : s.dead = false) (hx : x.length ≤ 4000) (h : (x.length : Int) + 3 ≤ s.quota - s.b.length) :
    (putJ s false x).2.2.1 = 0 ∧ (putJ s false x).2.2.2 = true ∧ (putJ s false x).2.1 = false ∧ (putJ s false x).1.b = s.b ++ packL x ∧ (putJ s false x).1.quota = s.quota ∧ (putJ s false x).1.synced = (s.b ++ packL x).length ∧ (putJ s false x).1.lit = false ∧ (putJ s false x).1.dead = false := by
  obtain ⟨a1, a2, a3, a4, a5, a6⟩ := appF_ok (s := s) (x := packL x) hl hd (by rw [packL_len]; omega)
  obtain ⟨b1, b2, b3, b4, b5, b6⟩ := syncF_ok a5 a6
  unfold putJ
  rw [hd, if_neg (by simp), if_neg (by omega), if_neg (by rw [a1]; simp), if_neg (by rw [b1]; simp)]
  exact ⟨rfl, rfl, rfl, b2.trans a2, b3.trans a3, by rw [b4, a2], b5, b6⟩
theorem putJ_full {s : FileS} {x : List UInt8} (hd : s.dead = false) (hx : x.length ≤ 4000) (h : (x.length : Int) + 3 > s.quota - s.b.length) : putJ s false x = (s, false, 10, false) := by
  unfold putJ
  rw [appF_full (s := s) (x := packL x) hd (by rw [packL_len]; omega), hd, if_neg (by simp), if_neg (by omega), if_pos (by simp)]
  rfl
theorem putJ_long {s : FileS} {x : List UInt8} (hd : s.dead = false) (hx : 4000 < x.length) : putJ s false x = (s, false, 5, false) := by
  unfold putJ
  rw [hd, if_neg (by simp), if_pos (by omega)]

theorem wakes18_spec (w : World) : Ret Try.prog 64 #[] w fun r w' => r = .bool true ∧ Fr none1 w w' := by
  refine c64 w _ ?_
  refine CallK.of (fnew_spec 100 w) ?_
  rintro _ w1 ⟨b, rfl, hb, f1, i1⟩
  refine ⟨some ⟨b, 0, none⟩, rfl, ifB.f rfl ?_⟩
  refine CallK.of (open_none i1 rfl rfl) ?_
  rintro _ w2 ⟨p, S, rfl, hp, f2, hS, j2⟩
  refine ⟨(some ⟨p, 0, none⟩, 0, ()), rfl, ifB.t rfl (ifB.t rfl ?_)⟩
  refine CallK.of (records_spec j2 (by simp) (by simp)) ?_
  rintro _ w3 ⟨v, S1, rfl, hv, f3, _⟩
  have hvl := hv.len
  refine ⟨v, rfl, ifB.t (by rw [hvl]; rfl) ?_⟩
  refine text_ok [97, 98] (by simp) (by simp) fun x w4 hx f4 hxf => ?_
  have j4 := (j2.keep0 f3).keep0 f4
  have hlt := (j2.keep0 f3).plt
  have hbl := (j2.keep0 f3).file.lt
  have hsl := (j2.keep0 f3).slt
  obtain ⟨e1, e2, e3, e4, e5, e6, e7, e8⟩ := putJ_ok (s := newF 100) (x := [97, 98]) rfl rfl (by simp) (by show _ ≤ (100 : Int) - ((([] : List UInt8).length : Nat) : Int); simp)
  refine CallK.of (put_spec j4 hx (fun k hk => ?_) (by simp)) ?_
  · have := hxf k hk
    refine ⟨?_, by omega, by omega, fun t => by have := hsl k t; omega⟩
    obtain ⟨a, ha, rfl⟩ := hk
    have hc := hx.2.2 a ha
    exact blk_of_cell hc.1
  rw [e1, e2]
  rintro _ w5 ⟨rfl, f5, S5, g5, hS5, _, j5⟩
  refine ⟨_, rfl, ifB.t rfl ?_⟩
  refine CallK.of (records_spec j5 (by simp) (by simp)) ?_
  rintro _ w6 ⟨v6, S6, rfl, hv6, f6, _⟩
  have hvl6 := hv6.len
  refine ⟨v6, rfl, ?_, ?_⟩
  · rw [hvl6]; rfl
  · have s1 := f1.size
    exact ((((f1.trans f2).trans f3).trans f4).comp f5 (fun k hk t => by
      rcases t with t | t | t
      · omega
      · omega
      · have := hS k t; omega)).trans f6

end Go.Proofs.Ytejhjjafmobmbaa
