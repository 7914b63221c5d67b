/-
  A journal and the document's journal, side by side, in blocks of their own.
  Conditions: none beyond what each asks.
-/
import Derived.Test.YtejhjjafmobmbaaRJPut
import Derived.Test.YtejhjjafmobmbaaFPlays
set_option linter.unusedVariables false
namespace Go.Proofs.Ytejhjjafmobmbaa
open Vc

theorem fappend_specE {w : World} {b g : Nat} {s : FileS} {v : Sl} {x : List UInt8} (h : IsFile w b g s) (hv : RdB w v x) (hb0 : x ≠ [] → ¬ blkOf v b) : Ret Try.prog 41 #[.pointer (some ⟨b, 0, none⟩), .slice v.1 v.2.1 v.2.2] w fun r w' =>
    r = .int .i64 (appF s x).2 ∧ FileTo w b g (appF s x).1 w' := by
  have h0 := h
  obtain ⟨⟨sl, hb, hs, hg⟩, gl, ok⟩ := h
  obtain ⟨k1, k2, k3, k4, k5⟩ := ok
  have hsl := hs.len
  have hvl := hv.len
  refine c41 _ v.1 v.2.1 v.2.2 w _ ?_
  unfold appF
  refine LdK.fld hb rfl ?_
  refine ifB.by (fun hd => ?_) (fun hd => ?_)
  · rw [if_pos hd]; exact ⟨rfl, FileTo.same h0 (Fr.refl _ _)⟩
  rw [if_neg (by simp [hd])]
  refine DrewK.of fun w1 hw1 f1 => ?_
  have hb1 := f1.keep0 hb
  refine LdK.fld hb1 rfl ?_
  refine LdK.fld hb1 (x := sl) rfl ?_
  rw [hsl, wI (x := s.quota - (s.b.length : Int)) (by omega) (by omega)]
  have fx : Fr (only b) w w1 := f1.mono fun _ _ t => t.elim
  refine ifB.dec (fun hq => ?_) (fun hq => ?_)
  · rw [if_pos (by rw [← hvl]; exact hq)]; exact ⟨rfl, FileTo.same h0 f1⟩
  rw [if_neg (by rw [← hvl]; exact hq)]
  refine CallK.of (fstep_spec (h0.keep0 f1)) ?_
  rintro _ w2 ⟨rfl, f2, h2⟩
  refine ⟨_, rfl, ?_⟩
  refine ifB.by (fun hst => ?_) (fun hst => ?_)
  · have hst' : (stepF s).2 = false := by simpa using hst
    rw [hst']; exact ⟨rfl, fx.trans f2, g, .inr (.inl rfl), h2⟩
  · have hst' : (stepF s).2 = true := by simpa using hst
    rw [hst', if_pos rfl]
    obtain ⟨⟨sl2, hb2, hs2, hg2⟩, gl2, ok2⟩ := h2
    obtain ⟨e1, e2, e3⟩ := stepF_b s
    refine LdK.fld hb2 (x := sl2) rfl ?_
    refine CallK.of (clone_ok hs2.rd (by rw [e1]; omega)) ?_
    rintro _ w3 ⟨u, rfl, hu, f3, hf3⟩
    refine ⟨u, rfl, ?_⟩
    have hul := hu.len
    rw [e1] at hul hu
    have hv3 : RdB w3 v x := ((hv.keep0 f1).keepE f2 (fun hne k hk t => hb0 hne (by have : k = b := t; rw [← this]; exact hk))).keep0 f3
    obtain ⟨y, w4, hr, hy, f4, hf4⟩ := append_bytes hu hv3 (by omega)
    refine ⟨y, w4, hr, ?_⟩
    have hs12 : w.heap.size ≤ w2.heap.size := (fx.trans f2).size
    have hbl := lt_of_blk hb
    have hb4 := f4.keep (f3.keep0 hb2) (fun t => by have := hf3 b t; omega)
    refine StK.fld hb4 (by simp) rfl fun w5 hb5 f5 _ => ?_
    have hyb : ∀ k, blkOf y k → w2.heap.size ≤ k := fun k hk => by
      rcases hf4 k hk with t | t
      · exact hf3 k t
      · exact Nat.le_trans f3.size t
    have fr : Fr (only b) w w5 := (((fx.trans f2).then0 f3).comp f4 (fun k hk t => by have := hf3 k t; omega)).trans f5
    have hy5 : IsB w5 y (s.b ++ x) := hy.keep f5 (fun k hk t => by have := hyb k hk; have : k = b := t; omega)
    obtain ⟨gy, hgn, hgl, hgy⟩ := gOf (b := b) (n := w.heap.size) (lt_of_blk hb5) hy5 (fun k hk => by have := hyb k hk; omega)
    refine ⟨rfl, fr, gy, hgn.imp id .inr, ⟨y, hb5, hy5, hgy⟩, hgl, ?_⟩
    refine ⟨?_, ?_, ?_, ?_, ?_⟩ <;> dsimp only
    · simp only [List.length_append]; omega
    · rw [e2]; exact k2
    · rw [e2]; exact k3
    · rw [e3]; exact k4
    · rw [e3]; simp only [List.length_append]; omega

abbrev JS := FileS × Bool × List (List UInt8)
def noE (E : Nat → Prop) : Nat → Prop := fun k => ¬ E k

structure Duo (w0 w : World) (p q b c : Nat) (A B E : Nat → Prop) (X Y : JS) : Prop where
  fr : Fr none1 w0 w
  j : ∃ S g, IsJ w S p b g X.1 X.2.1 X.2.2 ∧ ∀ k, (k = p ∨ k = b ∨ k = g ∨ S k) → A k
  k : ∃ T h, IsRJ w T q c h Y.1 Y.2.1 Y.2.2 ∧ ∀ k, (k = q ∨ k = c ∨ k = h ∨ T k) → B k
  dis : ∀ k, A k → ¬ B k
  loA : ∀ k, A k → w0.heap.size ≤ k
  loB : ∀ k, B k → w0.heap.size ≤ k
  ltA : ∀ k, A k → k < w.heap.size
  ltB : ∀ k, B k → k < w.heap.size
  e : ∀ k, E k → k < w.heap.size ∧ ¬ A k ∧ ¬ B k

theorem Duo.keepX {w0 w w' : World} {p q b c : Nat} {A B E : Nat → Prop} {X Y : JS} (D : Duo w0 w p q b c A B E X Y) {S : Nat → Prop} (f : Fr S w w') (hA : ∀ k, A k → ¬ S k) (hB : ∀ k, B k → ¬ S k) (h0 : ∀ k, S k → w0.heap.size ≤ k) : Duo w0 w' p q b c A B E X Y := by
  obtain ⟨fr, ⟨S1, g, hj, hm⟩, ⟨T1, h, hk, hn⟩, dis, loA, loB, ltA, ltB, e⟩ := D
  refine ⟨fr.comp f (fun k hk t => by have := h0 k t; omega), ⟨S1, g, hj.keep f (hA _ (hm _ (.inl rfl))) (hA _ (hm _ (.inr (.inl rfl)))) (hA _ (hm _ (.inr (.inr (.inl rfl))))) (fun k hk => hA _ (hm _ (.inr (.inr (.inr hk))))), hm⟩,
    ⟨T1, h, hk.keep f (hB _ (hn _ (.inl rfl))) (hB _ (hn _ (.inr (.inl rfl)))) (hB _ (hn _ (.inr (.inr (.inl rfl))))) (fun k hk => hB _ (hn _ (.inr (.inr (.inr hk))))), hn⟩, dis, loA, loB, fun k hk => Nat.lt_of_lt_of_le (ltA k hk) f.size, fun k hk => Nat.lt_of_lt_of_le (ltB k hk) f.size, fun k hk => ⟨Nat.lt_of_lt_of_le (e k hk).1 f.size, (e k hk).2⟩⟩
theorem Duo.keep0 {w0 w w' : World} {p q b c : Nat} {A B E : Nat → Prop} {X Y : JS} (D : Duo w0 w p q b c A B E X Y) (f : Fr none1 w w') : Duo w0 w' p q b c A B E X Y := D.keepX f (fun _ _ t => t) (fun _ _ t => t) (fun _ t => t.elim)
theorem Duo.withE {w0 w : World} {p q b c : Nat} {A B E E' : Nat → Prop} {X Y : JS} (D : Duo w0 w p q b c A B E X Y) (h : ∀ k, E' k → k < w.heap.size ∧ ¬ A k ∧ ¬ B k) : Duo w0 w p q b c A B E' X Y := ⟨D.fr, D.j, D.k, D.dis, D.loA, D.loB, D.ltA, D.ltB, h⟩

theorem Duo.left {w0 w w' : World} {p p' q b c g' : Nat} {A B E S' : Nat → Prop} {X Y X' : JS} (D : Duo w0 w p q b c A B E X Y) (f : Fr A w w') (hj : IsJ w' S' p' b g' X'.1 X'.2.1 X'.2.2) (hm : ∀ k, (k = p' ∨ k = b ∨ k = g' ∨ S' k) → A k ∨ w.heap.size ≤ k) :
    ∃ A', Duo w0 w' p' q b c A' B E X' Y ∧ Fr (noE E) w w' := by
  obtain ⟨fr, _, ⟨T1, h, hk, hn⟩, dis, loA, loB, ltA, ltB, e⟩ := D
  have hs := f.size
  have h0 := fr.size
  have lt' : ∀ k, (k = p' ∨ k = b ∨ k = g' ∨ S' k) → k < w'.heap.size := fun k hk => by
    rcases hk with t | t | t | t
    · rw [t]; exact hj.plt
    · rw [t]; exact hj.file.lt
    · rw [t]; exact hj.file.glt
    · exact hj.slt k t
  have nB : ∀ k, B k → ¬ A k := fun k hk t => dis k t hk
  refine ⟨fun k => (A k ∨ w.heap.size ≤ k) ∧ k < w'.heap.size, ⟨fr.comp f (fun k hk t => by have := loA k t; omega), ⟨S', g', hj, fun k hk => ⟨hm k hk, lt' k hk⟩⟩,
    ⟨T1, h, hk.keep f (nB _ (hn _ (.inl rfl))) (nB _ (hn _ (.inr (.inl rfl)))) (nB _ (hn _ (.inr (.inr (.inl rfl))))) (fun k hk => nB _ (hn _ (.inr (.inr (.inr hk))))), hn⟩,
    fun k hk t => ?_, fun k hk => ?_, loB, fun k hk => hk.2, fun k hk => Nat.lt_of_lt_of_le (ltB k hk) hs, fun k hk => ⟨Nat.lt_of_lt_of_le (e k hk).1 hs, fun t => ?_, (e k hk).2.2⟩⟩, f.mono fun k _ t ht => (e k ht).2.1 t⟩
  · rcases hk.1 with a | a
    · exact dis k a t
    · have := ltB k t; omega
  · rcases hk.1 with a | a
    · exact loA k a
    · omega
  · rcases t.1 with a | a
    · exact (e k hk).2.1 a
    · have := (e k hk).1; omega

theorem Duo.right {w0 w w' : World} {p q q' b c h' : Nat} {A B E T' : Nat → Prop} {X Y Y' : JS} (D : Duo w0 w p q b c A B E X Y) (f : Fr B w w') (hj : IsRJ w' T' q' c h' Y'.1 Y'.2.1 Y'.2.2) (hm : ∀ k, (k = q' ∨ k = c ∨ k = h' ∨ T' k) → B k ∨ w.heap.size ≤ k) :
    ∃ B', Duo w0 w' p q' b c A B' E X Y' ∧ Fr (noE E) w w' := by
  obtain ⟨fr, ⟨S1, g, hk, hn⟩, _, dis, loA, loB, ltA, ltB, e⟩ := D
  have hs := f.size
  have h0 := fr.size
  have lt' : ∀ k, (k = q' ∨ k = c ∨ k = h' ∨ T' k) → k < w'.heap.size := fun k hk => by
    rcases hk with t | t | t | t
    · rw [t]; exact hj.plt
    · rw [t]; exact hj.file.lt
    · rw [t]; exact hj.file.glt
    · exact hj.slt k t
  refine ⟨fun k => (B k ∨ w.heap.size ≤ k) ∧ k < w'.heap.size, ⟨fr.comp f (fun k hk t => by have := loB k t; omega),
    ⟨S1, g, hk.keep f (dis _ (hn _ (.inl rfl))) (dis _ (hn _ (.inr (.inl rfl)))) (dis _ (hn _ (.inr (.inr (.inl rfl))))) (fun k hk => dis _ (hn _ (.inr (.inr (.inr hk))))), hn⟩, ⟨T', h', hj, fun k hk => ⟨hm k hk, lt' k hk⟩⟩,
    fun k hk t => ?_, loA, fun k hk => ?_, fun k hk => Nat.lt_of_lt_of_le (ltA k hk) hs, fun k hk => hk.2, fun k hk => ⟨Nat.lt_of_lt_of_le (e k hk).1 hs, (e k hk).2.1, fun t => ?_⟩⟩, f.mono fun k _ t ht => (e k ht).2.2 t⟩
  · rcases t.1 with a | a
    · exact dis k hk a
    · have := ltA k hk; omega
  · rcases hk.1 with a | a
    · exact loB k a
    · omega
  · rcases t.1 with a | a
    · exact (e k hk).2.2 a
    · have := (e k hk).1; omega

def putX (X : JS) (x : List UInt8) : JS := ((putJ X.1 X.2.1 x).1, (putJ X.1 X.2.1 x).2.1, if (putJ X.1 X.2.1 x).2.2.2 then X.2.2 ++ [x] else X.2.2)

theorem Duo.put {w0 w : World} {p q b c : Nat} {A B E : Nat → Prop} {X Y : JS} (D : Duo w0 w p q b c A B E X Y) {v : Sl} {x : List UInt8} (hv : RdB w v x) (hvo : ∀ k, blkOf v k → k < w.heap.size ∧ ¬ A k) (hl : X.2.2.length ≤ 1000000) :
    Ret Try.prog 66 #[.pointer (some ⟨p, 0, none⟩), .slice v.1 v.2.1 v.2.2] w fun r w' => r = .int .i64 (putJ X.1 X.2.1 x).2.2.1 ∧ ∃ A', Duo w0 w' p q b c A' B E (putX X x) Y ∧ Fr (noE E) w w' := by
  obtain ⟨S, g, hj, hm⟩ := D.j
  refine (put_spec hj hv (fun k hk => ⟨(hvo k hk).1, fun t => (hvo k hk).2 (hm k (.inl t)), fun t => (hvo k hk).2 (hm k (.inr (.inl t))), fun t => (hvo k hk).2 (hm k (.inr (.inr (.inr t))))⟩) hl).mono ?_
  rintro _ w' ⟨rfl, f, S', g', hS, hg, hj'⟩
  refine ⟨rfl, D.left (X' := putX X x) (f.mono fun k _ t => ?_) hj' fun k hk => ?_⟩
  · rcases t with t | t | t
    · exact hm k (.inl t)
    · exact hm k (.inr (.inl t))
    · exact hm k (.inr (.inr (.inr t)))
  · rcases hk with t | t | t | t
    · exact .inl (hm k (.inl t))
    · exact .inl (hm k (.inr (.inl t)))
    · rw [t]
      rcases hg with u | u | u
      · rw [u]; exact .inl (hm b (.inr (.inl rfl)))
      · rw [u]; exact .inl (hm g (.inr (.inr (.inl rfl))))
      · exact .inr u
    · exact (hS k t).imp (fun t => hm k (.inr (.inr (.inr t)))) id

theorem Duo.rput {w0 w : World} {p q b c : Nat} {A B E : Nat → Prop} {X Y : JS} (D : Duo w0 w p q b c A B E X Y) {v : Sl} {x : List UInt8} (hv : RdB w v x) (hvo : x ≠ [] → ∀ k, blkOf v k → ¬ B k) (hl : Y.2.2.length ≤ 1000000) :
    Ret Try.prog 72 #[.pointer (some ⟨q, 0, none⟩), .slice v.1 v.2.1 v.2.2] w fun r w' => r = .int .i64 (putJ Y.1 Y.2.1 x).2.2.1 ∧ ∃ B', Duo w0 w' p q b c A B' E X (putX Y x) ∧ Fr (noE E) w w' := by
  obtain ⟨T, h, hj, hm⟩ := D.k
  refine (rput_spec hj hv (fun hne k hk => ⟨fun t => hvo hne k hk (hm k (.inl t)), fun t => hvo hne k hk (hm k (.inr (.inl t))), fun t => hvo hne k hk (hm k (.inr (.inr (.inl t)))), fun t => hvo hne k hk (hm k (.inr (.inr (.inr t))))⟩) hl).mono ?_
  rintro _ w' ⟨rfl, f, T', h', hT, hh, hj'⟩
  refine ⟨rfl, D.right (Y' := putX Y x) (f.mono fun k _ t => hm k t) hj' fun k hk => ?_⟩
  rcases hk with t | t | t | t
  · exact .inl (hm k (.inl t))
  · exact .inl (hm k (.inr (.inl t)))
  · rw [t]
    rcases hh with u | u | u
    · rw [u]; exact .inl (hm c (.inr (.inl rfl)))
    · rw [u]; exact .inl (hm h (.inr (.inr (.inl rfl))))
    · exact .inr u
  · exact (hT k t).imp (fun t => hm k (.inr (.inr (.inr t)))) id

theorem Duo.fileL {w0 w : World} {p q b c : Nat} {A B E : Nat → Prop} {X Y : JS} (D : Duo w0 w p q b c A B E X Y) : ∃ g, IsFile w b g X.1 ∧ ∀ s' w', FileTo w b g s' w' → ∃ A', Duo w0 w' p q b c A' B E (s', X.2) Y ∧ Fr (noE E) w w' := by
  obtain ⟨S, g, hj, hm⟩ := D.j
  refine ⟨g, hj.file, fun s' w' t => ?_⟩
  obtain ⟨g', hg, hj'⟩ := hj.filed t
  refine D.left (X' := (s', X.2)) (t.1.mono fun k _ t => hm k (.inr (.inl t))) hj' fun k hk => ?_
  rcases hk with u | u | u | u
  · exact .inl (hm k (.inl u))
  · exact .inl (hm k (.inr (.inl u)))
  · rw [u]
    rcases hg with v | v | v
    · rw [v]; exact .inl (hm b (.inr (.inl rfl)))
    · rw [v]; exact .inl (hm g (.inr (.inr (.inl rfl))))
    · exact .inr v
  · exact .inl (hm k (.inr (.inr (.inr u))))

theorem Duo.fileR {w0 w : World} {p q b c : Nat} {A B E : Nat → Prop} {X Y : JS} (D : Duo w0 w p q b c A B E X Y) : ∃ h, IsRef w c h Y.1 ∧ ∀ s' w', RefTo w c h s' w' → ∃ B', Duo w0 w' p q b c A B' E X (s', Y.2) ∧ Fr (noE E) w w' := by
  obtain ⟨T, h, hj, hm⟩ := D.k
  refine ⟨h, hj.file, fun s' w' t => ?_⟩
  obtain ⟨h', hh, hj'⟩ := hj.filed t
  refine D.right (Y' := (s', Y.2)) (t.1.mono fun k _ t => t.elim (fun t => hm k (.inr (.inl t))) (fun t => hm k (.inr (.inr (.inl t))))) hj' fun k hk => ?_
  rcases hk with u | u | u | u
  · exact .inl (hm k (.inl u))
  · exact .inl (hm k (.inr (.inl u)))
  · rw [u]
    rcases hh with v | v | v
    · rw [v]; exact .inl (hm c (.inr (.inl rfl)))
    · rw [v]; exact .inl (hm h (.inr (.inr (.inl rfl))))
    · exact .inr v
  · exact .inl (hm k (.inr (.inr (.inr u))))

/-- What the rest of a file becomes where it is opened. -/
def cutS (s : FileS) (rest : List UInt8) : FileS := if rest = [] then s else (cutF s ((s.b.length - rest.length : Nat) : Int)).1
theorem cutS_sim {s t : FileS} (h : Sim s t) (rest : List UInt8) : Sim (cutS s rest) (cutS t rest) := by
  unfold cutS
  split
  · exact h
  · rw [← h.b]; exact (h.cut _).2

theorem Parse.le {bs q : List UInt8} {l : List (List UInt8)} (h : Parse bs l q) : q.length ≤ bs.length := by have := h.len; omega

theorem Duo.open {w0 w : World} {p q b c : Nat} {A B E : Nat → Prop} {X Y : JS} (D : Duo w0 w p q b c A B E X Y) (hd : X.1.dead = false) (hl : X.1.lit = false) {rows : List (List UInt8)} {rest : List UInt8} (hP : Parse X.1.b rows rest) :
    Ret Try.prog 65 #[.pointer (some ⟨b, 0, none⟩)] w fun r w' => ∃ p' A', r = .tuple #[.pointer (some ⟨p', 0, none⟩), .int .i64 0] ∧ Duo w0 w' p' q b c A' B E (cutS X.1 rest, false, rows) Y ∧ Fr (noE E) w w' := by
  obtain ⟨S, g, hj, hm⟩ := D.j
  refine (open_gen hj.file hd hP).mono ?_
  rintro r w' hO
  have hle := hP.le
  have hcut := fun h1 => (cutF_ok (s := X.1) (n := ((X.1.b.length - rest.length : Nat) : Int)) hl hd (by omega) h1).1
  rcases hO with ⟨p', S', g', s', rfl, hp, f, hS, hg, hj', hs⟩ | ⟨_, hne, _⟩
  · have hs' : s' = cutS X.1 rest := by
      unfold cutS
      rcases hs with ⟨h1, h2⟩ | ⟨h1, _, h2⟩
      · rw [if_pos h1]; exact h2
      · rw [if_neg h1]; exact h2
    subst hs'
    obtain ⟨A', D', fe⟩ := D.left (X' := (cutS X.1 rest, false, rows)) (f.mono fun k _ t => hm k (.inr (.inl t))) hj' (fun k hk => by
      rcases hk with u | u | u | u
      · exact .inr (by omega)
      · exact .inl (hm k (.inr (.inl u)))
      · rw [u]
        rcases hg with v | v | v
        · rw [v]; exact .inl (hm b (.inr (.inl rfl)))
        · rw [v]; exact .inl (hm g (.inr (.inr (.inl rfl))))
        · exact .inr v
      · exact .inr (hS k u))
    exact ⟨p', A', rfl, D', fe⟩
  · exact absurd (hcut (by omega)) hne

theorem Duo.ropen {w0 w : World} {p q b c : Nat} {A B E : Nat → Prop} {X Y : JS} (D : Duo w0 w p q b c A B E X Y) (hd : Y.1.dead = false) (hl : Y.1.lit = false) {rows : List (List UInt8)} {rest : List UInt8} (hP : Parse Y.1.b rows rest) :
    Ret Try.prog 71 #[.pointer (some ⟨c, 0, none⟩)] w fun r w' => ∃ q' B', r = .tuple #[.pointer (some ⟨q', 0, none⟩), .int .i64 0] ∧ Duo w0 w' p q' b c A B' E X (cutS Y.1 rest, false, rows) ∧ Fr (noE E) w w' := by
  obtain ⟨T, h, hj, hm⟩ := D.k
  refine (ropen_spec hj.file hd hP).mono ?_
  rintro r w' hO
  have hle := hP.le
  have hcut := fun h1 => (cutF_ok (s := Y.1) (n := ((Y.1.b.length - rest.length : Nat) : Int)) hl hd (by omega) h1).1
  rcases hO with ⟨p', S', g', s', rfl, hp, f, hS, hg, hj', hs⟩ | ⟨_, hne, _⟩
  · have hs' : s' = cutS Y.1 rest := by
      unfold cutS
      rcases hs with ⟨h1, h2⟩ | ⟨h1, _, h2⟩
      · rw [if_pos h1]; exact h2
      · rw [if_neg h1]; exact h2
    subst hs'
    obtain ⟨A', D', fe⟩ := D.right (Y' := (cutS Y.1 rest, false, rows)) (f.mono fun k _ t => t.elim (fun t => hm k (.inr (.inl t))) (fun t => hm k (.inr (.inr (.inl t))))) hj' (fun k hk => by
      rcases hk with u | u | u | u
      · exact .inr (by omega)
      · exact .inl (hm k (.inr (.inl u)))
      · rw [u]
        rcases hg with v | v | v
        · rw [v]; exact .inl (hm c (.inr (.inl rfl)))
        · rw [v]; exact .inl (hm h (.inr (.inr (.inl rfl))))
        · exact .inr v
      · exact .inr (hS k u))
    exact ⟨p', A', rfl, D', fe⟩
  · exact absurd (hcut (by omega)) hne

/-! ### Regions of one act that counts, or of a few -/
def LastC (i : Nat) (pr : List Nat) (W0 : World) (Q : World → Prop) : (Nat → Bool) → World → Prop := fun D w => (D i = false ∧ w = W0) ∨ (D i = true ∧ (∀ j ∈ pr, D j = true) ∧ Q w)
theorem LastC.calm {i : Nat} {pr : List Nat} {W0 : World} {Q : World → Prop} {D : Nat → Bool} {w : World} {j : Nat} (hj : j ∈ pr) (hi : j ≠ i) (hD : D j = false) (h : LastC i pr W0 Q D w) : w = W0 ∧ LastC i pr W0 Q (upd D j) w := by
  rcases h with ⟨h1, h2⟩ | ⟨_, h2, _⟩
  · exact ⟨h2, .inl ⟨by rw [upd_ne' _ (Ne.symm hi)]; exact h1, h2⟩⟩
  · rw [h2 j hj] at hD; cases hD
theorem LastC.last {i : Nat} {pr : List Nat} {W0 : World} {Q : World → Prop} {D : Nat → Bool} {w : World} (hD : D i = false) (h : LastC i pr W0 Q D w) : w = W0 := by
  rcases h with ⟨_, h2⟩ | ⟨h1, _⟩
  · exact h2
  · rw [hD] at h1; cases h1
theorem LastC.done {i : Nat} {pr : List Nat} {W0 : World} {Q : World → Prop} {D : Nat → Bool} {w : World} (hi : i ∉ pr) (hp : ∀ j ∈ pr, D j = true) (q : Q w) : LastC i pr W0 Q (upd D i) w :=
  .inr ⟨upd_self' _ _, fun j hj => by rw [upd_ne' _ (fun e => hi (by rw [← e]; exact hj))]; exact hp j hj, q⟩

theorem putJ_len {s : FileS} {d : Bool} {x : List UInt8} (h : (putJ s d x).2.2.2 = true) : x.length ≤ 4000 := by
  unfold putJ at h
  split at h
  · cases h
  split at h
  · cases h
  · omega

end Go.Proofs.Ytejhjjafmobmbaa
