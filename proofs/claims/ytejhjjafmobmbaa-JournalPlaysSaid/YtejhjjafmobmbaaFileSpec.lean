/-
  What a file does: each of its functions by a plain one.
  Conditions: the file's pointer leads to a block of its own; its bytes lie in another one.
-/
import Derived.Test.YtejhjjafmobmbaaVcSlice
import Derived.Test.YtejhjjafmobmbaaCFile
set_option linter.unusedVariables false
namespace Go.Proofs.Ytejhjjafmobmbaa
open Vc

theorem elem_byte : ElemOk Try.prog 53 5 1 (.int .u8 0) 1 := ⟨Try.underlying53, ⟨Try.t5, by kernel_rfl, rfl, rfl, rfl⟩, rfl, by decide⟩

def bc (x : UInt8) : Value := .int .u8 (x.toNat : Int)
/-- A slice of bytes that may be written to; one that can be read. -/
def IsB (w : World) (v : Sl) (bs : List UInt8) : Prop := IsSl w 5 1 v (bs.map bc)
def RdB (w : World) (v : Sl) (bs : List UInt8) : Prop := RdSl w 1 v (bs.map bc)
theorem IsB.rd {w : World} {v : Sl} {bs : List UInt8} (h : IsB w v bs) : RdB w v bs := IsSl.rd h
theorem RdB.len {w : World} {v : Sl} {bs : List UInt8} (h : RdB w v bs) : v.2.1 = bs.length := by have := h.1; simp at this; omega
theorem IsB.len {w : World} {v : Sl} {bs : List UInt8} (h : IsB w v bs) : v.2.1 = bs.length := h.rd.len
theorem RdB.keep0 {w w' : World} {v : Sl} {bs : List UInt8} (h : RdB w v bs) (f : Fr none1 w w') : RdB w' v bs := RdSl.keep0 h f
theorem RdB.keep {w w' : World} {v : Sl} {bs : List UInt8} (h : RdB w v bs) {S : Nat → Prop} (f : Fr S w w') (hn : ∀ k, blkOf v k → ¬ S k) : RdB w' v bs := RdSl.keep h f hn
theorem IsB.keep0 {w w' : World} {v : Sl} {bs : List UInt8} (h : IsB w v bs) (f : Fr none1 w w') : IsB w' v bs := IsSl.keep0 h f
theorem IsB.keep {w w' : World} {v : Sl} {bs : List UInt8} (h : IsB w v bs) {S : Nat → Prop} (f : Fr S w w') (hn : ∀ k, blkOf v k → ¬ S k) : IsB w' v bs := IsSl.keep h f hn
theorem bc_one (bs : List UInt8) : ∀ v ∈ bs.map bc, one1 v = true := by
  intro v hv
  obtain ⟨x, _, rfl⟩ := List.mem_map.1 hv
  rfl

theorem append_bytes {w : World} {x y : Sl} {xs ys : List UInt8} (hx : IsB w x xs) (hy : RdB w y ys) (hl : xs.length + ys.length ≤ 100000000) :
    ∃ (v : Sl) (w' : World), (Builtin.append_ #[53, 53] 53 #[.slice x.1 x.2.1 x.2.2, .slice y.1 y.2.1 y.2.2]).run Try.prog w = .ok (.slice v.1 v.2.1 v.2.2) w' ∧ IsB w' v (xs ++ ys) ∧ Fr (blkOf x) w w' ∧
      (∀ k, blkOf v k → blkOf x k ∨ w.heap.size ≤ k) := by
  have e1 := hx.len
  have e2 := hy.len
  obtain ⟨v, w', a, b, _, c, d⟩ := append_ok (P := Try.prog) (s := 1) (xs := xs.map bc) (ys := ys.map bc) elem_byte 53 hx hy (bc_one ys) (by rw [e1, e2]; omega)
  exact ⟨v, w', a, by unfold IsB; rw [List.map_append]; exact b, c, d⟩

/-- bytes.Clone. -/
theorem clone_ok {w : World} {v : Sl} {bs : List UInt8} (h : RdB w v bs) (hl : bs.length ≤ 100000000) :
    Ret Try.prog 78 #[.slice v.1 v.2.1 v.2.2] w fun r w' => ∃ u : Sl, r = .slice u.1 u.2.1 u.2.2 ∧ IsB w' u bs ∧ Fr none1 w w' ∧ ∀ k, blkOf u k → w.heap.size ≤ k := by
  refine c78 v.1 v.2.1 v.2.2 w _ ?_
  refine ifB.by (fun hn => ?_) (fun hn => ?_)
  · obtain ⟨_, _, he⟩ := h.2.1 (by simpa using hn)
    exact ⟨(none, 0, 0), rfl, .inl ⟨rfl, he⟩, Fr.refl _ _, fun k ⟨a, ha, _⟩ => (by cases ha)⟩
  · obtain ⟨x, w1, hr, hx, hxl, f1, hf⟩ := lit_ok (P := Try.prog) (w := w) elem_byte [] (by simp) (by simp)
    refine ⟨x, w1, hr, ?_⟩
    have hvl := h.len
    obtain ⟨u, w2, hr2, hu, f2, hf2⟩ := append_bytes (xs := []) hx (h.keep0 f1) (by simp; omega)
    refine ⟨u, w2, hr2, u, rfl, hu, f1.comp f2 (fun k hk t => ?_), fun k hk => ?_⟩
    · have := hf k t; omega
    · rcases hf2 k hk with t | t
      · exact hf k t
      · exact Nat.le_trans f1.size t

/-! ### The file -/
structure FileS where
  b : List UInt8
  quota : Int
  synced : Int
  lit : Bool
  fuse : Int
  dead : Bool

structure FileS.Ok (s : FileS) : Prop where
  len : s.b.length ≤ 65536
  q0 : 0 ≤ s.quota
  q1 : s.quota ≤ 65536
  s0 : 0 ≤ s.synced
  s1 : s.synced ≤ s.b.length

/-- The file at block b, its bytes in block g (if anywhere). -/
structure IsFile (w : World) (b g : Nat) (s : FileS) : Prop where
  out : ∃ sl : Sl, w.heap[b]? = some (.cells #[.slice sl.1 sl.2.1 sl.2.2, .int .i64 s.quota, .int .i64 s.synced, .bool s.lit, .int .i64 s.fuse, .bool s.dead] 103 (0, 0)) ∧ IsB w sl s.b ∧ ∀ k, blkOf sl k → k = g ∧ k ≠ b
  glt : g < w.heap.size
  ok : s.Ok

theorem IsFile.keep {w w' : World} {b g : Nat} {s : FileS} (h : IsFile w b g s) {S : Nat → Prop} (f : Fr S w w') (h1 : ¬ S b) (h2 : ¬ S g) : IsFile w' b g s := by
  obtain ⟨⟨sl, hb, hs, hg⟩, gl, ok⟩ := h
  exact ⟨⟨sl, f.keep hb h1, hs.keep f (fun k hk => by rw [(hg k hk).1]; exact h2), hg⟩, Nat.lt_of_lt_of_le gl f.size, ok⟩
theorem IsFile.keep0 {w w' : World} {b g : Nat} {s : FileS} (h : IsFile w b g s) (f : Fr none1 w w') : IsFile w' b g s := h.keep f (fun t => t) (fun t => t)
theorem IsFile.lt {w : World} {b g : Nat} {s : FileS} (h : IsFile w b g s) : b < w.heap.size := by
  obtain ⟨⟨sl, hb, _⟩, _⟩ := h
  exact lt_of_blk hb

/-- What a call does to a file at b: it writes to b alone; the bytes lie where they lay, or in a new block. -/
def FileTo (w : World) (b g : Nat) (s' : FileS) (w' : World) : Prop := Fr (only b) w w' ∧ ∃ g', (g' = b ∨ g' = g ∨ w.heap.size ≤ g') ∧ IsFile w' b g' s'

theorem FileTo.pre {w0 w w' : World} {b g : Nat} {s' : FileS} (f : Fr none1 w0 w) (h : FileTo w b g s' w') : FileTo w0 b g s' w' := by
  obtain ⟨a, g', h1, h2⟩ := h
  refine ⟨f.of0 a, g', ?_, h2⟩
  rcases h1 with h | h | h
  · exact .inl h
  · exact .inr (.inl h)
  · exact .inr (.inr (Nat.le_trans f.size h))

theorem FileTo.same {w w' : World} {b g : Nat} {s : FileS} (h : IsFile w b g s) (f : Fr none1 w w') : FileTo w b g s w' := ⟨f.mono fun _ _ t => t.elim, g, .inr (.inl rfl), h.keep0 f⟩

/-- The block of new bytes. -/
theorem gOf {w' : World} {b n : Nat} {y : Sl} {bs : List UInt8} (hlt : b < w'.heap.size) (hys : IsB w' y bs) (hy : ∀ k, blkOf y k → n ≤ k ∧ k ≠ b) : ∃ g', (g' = b ∨ n ≤ g') ∧ g' < w'.heap.size ∧ ∀ k, blkOf y k → k = g' ∧ k ≠ b := by
  cases hy1 : y.1 with
  | none => exact ⟨b, .inl rfl, hlt, fun k ⟨a, ha, _⟩ => (by rw [hy1] at ha; cases ha)⟩
  | some a =>
    have hk : blkOf y a.block := ⟨a, hy1, rfl⟩
    refine ⟨a.block, .inr (hy _ hk).1, IsSl.lt hys hk, fun k hk => ⟨?_, (hy k hk).2⟩⟩
    obtain ⟨a', ha, rfl⟩ := hk
    rw [hy1] at ha; injection ha with ha; rw [ha]

def newF (q : Int) : FileS := { b := [], quota := if 65536 < (if 0 > q then 0 else q) then 65536 else (if 0 > q then 0 else q), synced := 0, lit := false, fuse := 0, dead := false }

theorem newF_ok (q : Int) : (newF q).Ok := by
  unfold newF
  refine ⟨by simp, ?_, ?_, by simp, by simp⟩ <;> dsimp only <;> repeat' split
  all_goals omega

theorem fnew_spec (q : Int) (w : World) : Ret Try.prog 39 #[.int .i64 q] w fun r w' => ∃ b, r = .pointer (some ⟨b, 0, none⟩) ∧ w.heap.size ≤ b ∧ Fr none1 w w' ∧ IsFile w' b b (newF q) := by
  refine c39 q w _ (NewK.of fun b w1 hg hb f hs => ⟨b, rfl, by omega, f, ⟨⟨(none, 0, 0), hb, .inl ⟨rfl, rfl⟩, fun k ⟨a, ha, _⟩ => (by cases ha)⟩, by omega, newF_ok q⟩⟩)

theorem fsynced_spec {w : World} {b g : Nat} {s : FileS} (h : IsFile w b g s) : Ret Try.prog 47 #[.pointer (some ⟨b, 0, none⟩)] w fun r w' => r = .int .i64 s.synced ∧ w = w' := by
  obtain ⟨⟨sl, hb, _⟩, _⟩ := h
  exact c47 _ w _ (LdK.fld hb rfl ⟨rfl, rfl⟩)
theorem fdead_spec {w : World} {b g : Nat} {s : FileS} (h : IsFile w b g s) : Ret Try.prog 48 #[.pointer (some ⟨b, 0, none⟩)] w fun r w' => r = .bool s.dead ∧ w = w' := by
  obtain ⟨⟨sl, hb, _⟩, _⟩ := h
  exact c48 _ w _ (LdK.fld hb rfl ⟨rfl, rfl⟩)

theorem fbytes_spec {w : World} {b g : Nat} {s : FileS} (h : IsFile w b g s) : Ret Try.prog 46 #[.pointer (some ⟨b, 0, none⟩)] w fun r w' =>
    ∃ u : Sl, r = .slice u.1 u.2.1 u.2.2 ∧ IsB w' u s.b ∧ Fr none1 w w' ∧ ∀ k, blkOf u k → w.heap.size ≤ k := by
  obtain ⟨⟨sl, hb, hs, _⟩, _, ok⟩ := h
  refine c46 _ w _ ?_
  refine LdK.fld hb (x := sl) rfl ?_
  refine CallK.of (clone_ok hs.rd (by have := ok.len; omega)) ?_
  rintro _ w' ⟨u, rfl, hu, f, hf⟩
  exact ⟨u, rfl, u, rfl, hu, f, hf⟩

def stepF (s : FileS) : FileS × Bool := if s.lit && s.fuse == 0 then ({ s with dead := true }, false) else ({ s with fuse := IntKind.i64.wrap (s.fuse - 1) }, true)

theorem stepF_ok {s : FileS} (h : s.Ok) : (stepF s).1.Ok := by
  unfold stepF; split <;> exact ⟨h.len, h.q0, h.q1, h.s0, h.s1⟩
theorem stepF_b (s : FileS) : (stepF s).1.b = s.b ∧ (stepF s).1.quota = s.quota ∧ (stepF s).1.synced = s.synced := by
  unfold stepF; split <;> exact ⟨rfl, rfl, rfl⟩

theorem fstep_spec {w : World} {b g : Nat} {s : FileS} (h : IsFile w b g s) : Ret Try.prog 77 #[.pointer (some ⟨b, 0, none⟩)] w fun r w' => r = .bool (stepF s).2 ∧ Fr (only b) w w' ∧ IsFile w' b g (stepF s).1 := by
  obtain ⟨⟨sl, hb, hs, hg⟩, gl, ok⟩ := h
  have ok' := stepF_ok ok
  refine c77 _ w _ ?_
  unfold stepF at *
  refine LdK.fld hb rfl ?_
  have keep : ∀ w', Fr (only b) w w' → IsB w' sl s.b := fun w' f => hs.keep f (fun k hk t => (hg k hk).2 t)
  have run : (s.lit && s.fuse == 0) = false → LdK (.int .i64) ((⟨b, 0, none⟩ : Addr).add 4) w (fun (x4 : Int) => StK ((⟨b, 0, none⟩ : Addr).add 4) (.int .i64 (IntKind.i64.wrap (x4 - 1))) w (fun w5 =>
      (.bool true : Value) = .bool (if s.lit && s.fuse == 0 then ({ s with dead := true }, false) else ({ s with fuse := IntKind.i64.wrap (s.fuse - 1) }, true)).2 ∧ Fr (only b) w w5 ∧ IsFile w5 b g (if s.lit && s.fuse == 0 then ({ s with dead := true }, false) else ({ s with fuse := IntKind.i64.wrap (s.fuse - 1) }, true)).1)) := fun hc => by
    rw [hc] at ok' ⊢
    refine LdK.fld hb rfl ?_
    refine StK.fld hb (by simp) rfl fun w1 hb1 f1 _ => ?_
    exact ⟨rfl, f1, ⟨sl, hb1, keep w1 f1, hg⟩, Nat.lt_of_lt_of_le gl f1.size, ok'⟩
  refine ifB.by (fun hl => ?_) (fun hl => run (by rw [hl]; rfl))
  refine LdK.fld hb rfl ?_
  refine ifB.eq (fun hf => ?_) (fun hf => run (by rw [hl]; simpa using hf))
  have hc : (s.lit && s.fuse == 0) = true := by rw [hl, hf]; rfl
  rw [hc] at ok' ⊢
  refine StK.fld hb (by simp) rfl fun w1 hb1 f1 _ => ?_
  exact ⟨rfl, f1, ⟨sl, hb1, keep w1 f1, hg⟩, Nat.lt_of_lt_of_le gl f1.size, ok'⟩

def appF (s : FileS) (x : List UInt8) : FileS × Int :=
  if s.dead then (s, 11) else if (x.length : Int) > s.quota - s.b.length then (s, 10) else
  if (stepF s).2 then ({ (stepF s).1 with b := s.b ++ x }, 0) else ((stepF s).1, 11)

theorem fappend_spec {w : World} {b g : Nat} {s : FileS} {v : Sl} {x : List UInt8} (h : IsFile w b g s) (hv : RdB w v x) (hb0 : ¬ blkOf v b) : Ret Try.prog 41 #[.pointer (some ⟨b, 0, none⟩), .slice v.1 v.2.1 v.2.2] w fun r w' =>
    r = .int .i64 (appF s x).2 ∧ FileTo w b g (appF s x).1 w' := by
  have h0 := h
  obtain ⟨⟨sl, hb, hs, hg⟩, gl, ok⟩ := h
  obtain ⟨k1, k2, k3, k4, k5⟩ := ok
  have hsl := hs.len
  have hvl := hv.len
  refine c41 _ v.1 v.2.1 v.2.2 w _ ?_
  unfold appF
  refine LdK.fld hb rfl ?_
  refine ifB.by (fun hd => ?_) (fun hd => ?_)
  · rw [if_pos hd]; exact ⟨rfl, FileTo.same h0 (Fr.refl _ _)⟩
  rw [if_neg (by simp [hd])]
  refine DrewK.of fun w1 hw1 f1 => ?_
  have hb1 := f1.keep0 hb
  refine LdK.fld hb1 rfl ?_
  refine LdK.fld hb1 (x := sl) rfl ?_
  rw [hsl, wI (x := s.quota - (s.b.length : Int)) (by omega) (by omega)]
  have fx : Fr (only b) w w1 := f1.mono fun _ _ t => t.elim
  refine ifB.dec (fun hq => ?_) (fun hq => ?_)
  · rw [if_pos (by rw [← hvl]; exact hq)]; exact ⟨rfl, FileTo.same h0 f1⟩
  rw [if_neg (by rw [← hvl]; exact hq)]
  refine CallK.of (fstep_spec (h0.keep0 f1)) ?_
  rintro _ w2 ⟨rfl, f2, h2⟩
  refine ⟨_, rfl, ?_⟩
  refine ifB.by (fun hst => ?_) (fun hst => ?_)
  · have hst' : (stepF s).2 = false := by simpa using hst
    rw [hst']; exact ⟨rfl, fx.trans f2, g, .inr (.inl rfl), h2⟩
  · have hst' : (stepF s).2 = true := by simpa using hst
    rw [hst', if_pos rfl]
    obtain ⟨⟨sl2, hb2, hs2, hg2⟩, gl2, ok2⟩ := h2
    obtain ⟨e1, e2, e3⟩ := stepF_b s
    refine LdK.fld hb2 (x := sl2) rfl ?_
    refine CallK.of (clone_ok hs2.rd (by rw [e1]; omega)) ?_
    rintro _ w3 ⟨u, rfl, hu, f3, hf3⟩
    refine ⟨u, rfl, ?_⟩
    have hul := hu.len
    rw [e1] at hul hu
    have hv3 : RdB w3 v x := ((hv.keep0 f1).keep f2 (fun k hk t => hb0 (by have : k = b := t; rw [← this]; exact hk))).keep0 f3
    obtain ⟨y, w4, hr, hy, f4, hf4⟩ := append_bytes hu hv3 (by omega)
    refine ⟨y, w4, hr, ?_⟩
    have hs12 : w.heap.size ≤ w2.heap.size := (fx.trans f2).size
    have hbl := lt_of_blk hb
    have hb4 := f4.keep (f3.keep0 hb2) (fun t => by have := hf3 b t; omega)
    refine StK.fld hb4 (by simp) rfl fun w5 hb5 f5 _ => ?_
    have hyb : ∀ k, blkOf y k → w2.heap.size ≤ k := fun k hk => by
      rcases hf4 k hk with t | t
      · exact hf3 k t
      · exact Nat.le_trans f3.size t
    have fr : Fr (only b) w w5 := (((fx.trans f2).then0 f3).comp f4 (fun k hk t => by have := hf3 k t; omega)).trans f5
    have hy5 : IsB w5 y (s.b ++ x) := hy.keep f5 (fun k hk t => by have := hyb k hk; have : k = b := t; omega)
    obtain ⟨gy, hgn, hgl, hgy⟩ := gOf (b := b) (n := w.heap.size) (lt_of_blk hb5) hy5 (fun k hk => by have := hyb k hk; omega)
    refine ⟨rfl, fr, gy, hgn.imp id .inr, ⟨y, hb5, hy5, hgy⟩, hgl, ?_⟩
    refine ⟨?_, ?_, ?_, ?_, ?_⟩ <;> dsimp only
    · simp only [List.length_append]; omega
    · rw [e2]; exact k2
    · rw [e2]; exact k3
    · rw [e3]; exact k4
    · rw [e3]; simp only [List.length_append]; omega

def syncF (s : FileS) : FileS × Int := if s.dead then (s, 11) else if (stepF s).2 then ({ (stepF s).1 with synced := s.b.length }, 0) else ((stepF s).1, 11)

theorem fsync_spec {w : World} {b g : Nat} {s : FileS} (h : IsFile w b g s) : Ret Try.prog 42 #[.pointer (some ⟨b, 0, none⟩)] w fun r w' => r = .int .i64 (syncF s).2 ∧ FileTo w b g (syncF s).1 w' := by
  have h0 := h
  obtain ⟨⟨sl, hb, hs, hg⟩, gl, ok⟩ := h
  refine c42 _ w _ ?_
  unfold syncF
  refine LdK.fld hb rfl ?_
  refine ifB.by (fun hd => ?_) (fun hd => ?_)
  · rw [if_pos hd]; exact ⟨rfl, FileTo.same h0 (Fr.refl _ _)⟩
  rw [if_neg (by simp [hd])]
  refine CallK.of (fstep_spec h0) ?_
  rintro _ w2 ⟨rfl, f2, h2⟩
  refine ⟨_, rfl, ?_⟩
  refine ifB.by (fun hst => ?_) (fun hst => ?_)
  · have hst' : (stepF s).2 = false := by simpa using hst
    rw [hst']; exact ⟨rfl, f2, g, .inr (.inl rfl), h2⟩
  · have hst' : (stepF s).2 = true := by simpa using hst
    rw [hst', if_pos rfl]
    obtain ⟨⟨sl2, hb2, hs2, hg2⟩, gl2, ok2⟩ := h2
    obtain ⟨e1, e2, e3⟩ := stepF_b s
    refine LdK.fld hb2 (x := sl2) rfl ?_
    rw [hs2.len, e1]
    refine StK.fld hb2 (by simp) rfl fun w5 hb5 f5 _ => ?_
    refine ⟨rfl, f2.trans f5, g, .inr (.inl rfl), ⟨sl2, hb5, hs2.keep f5 (fun k hk t => (hg2 k hk).2 t), hg2⟩, Nat.lt_of_lt_of_le gl2 f5.size, ?_⟩
    obtain ⟨k1, k2, k3, k4, k5⟩ := ok2
    refine ⟨k1, k2, k3, ?_, ?_⟩ <;> dsimp only
    · omega
    · rw [e1]; omega

def cutF (s : FileS) (n : Int) : FileS × Int := if s.dead then (s, 11) else if n < 0 then (s, 1) else if n > s.b.length then (s, 1) else
  if (stepF s).2 then ({ (stepF s).1 with b := s.b.take n.toNat, synced := n }, 0) else ((stepF s).1, 11)

theorem IsB.cap {w : World} {v : Sl} {bs : List UInt8} (h : IsB w v bs) : v.2.1 ≤ v.2.2 := by
  rcases h with ⟨rfl, _⟩ | ⟨g, off, cs, h1, h2, h3, _⟩
  · exact Nat.le_refl _
  · exact h3
theorem RdB.sub {w : World} {v : Sl} {bs : List UInt8} (h : RdB w v bs) {n : Int} (h0 : 0 ≤ n) (h1 : n ≤ v.2.1) (hc : v.2.1 ≤ v.2.2) {K : Option Addr → Nat → Nat → Prop}
    (k : RdB w (v.1, n.toNat, v.2.2) (bs.take n.toNat) → K v.1 n.toNat v.2.2) : SubK v.1 v.2.2 0 n v.2.2 1 K := by
  refine RdSl.sub h h0 h1 hc fun t => k ?_
  unfold RdB; rw [List.map_take]; exact t

theorem fcut_spec {w : World} {b g : Nat} {s : FileS} (h : IsFile w b g s) (n : Int) : Ret Try.prog 53 #[.pointer (some ⟨b, 0, none⟩), .int .i64 n] w fun r w' => r = .int .i64 (cutF s n).2 ∧ FileTo w b g (cutF s n).1 w' := by
  have h0 := h
  obtain ⟨⟨sl, hb, hs, hg⟩, gl, ok⟩ := h
  refine c53 _ n w _ ?_
  unfold cutF
  refine LdK.fld hb rfl ?_
  refine ifB.by (fun hd => ?_) (fun hd => ?_)
  · rw [if_pos hd]; exact ⟨rfl, FileTo.same h0 (Fr.refl _ _)⟩
  rw [if_neg (by simp [hd])]
  refine ifB.dec (fun hq => ?_) (fun hq => ?_)
  · rw [if_pos hq]; exact ⟨rfl, FileTo.same h0 (Fr.refl _ _)⟩
  rw [if_neg hq]
  refine LdK.fld hb (x := sl) rfl ?_
  rw [hs.len]
  refine ifB.dec (fun hq2 => ?_) (fun hq2 => ?_)
  · rw [if_pos hq2]; exact ⟨rfl, FileTo.same h0 (Fr.refl _ _)⟩
  rw [if_neg hq2]
  refine CallK.of (fstep_spec h0) ?_
  rintro _ w2 ⟨rfl, f2, h2⟩
  refine ⟨_, rfl, ?_⟩
  refine ifB.by (fun hst => ?_) (fun hst => ?_)
  · have hst' : (stepF s).2 = false := by simpa using hst
    rw [hst']; exact ⟨rfl, f2, g, .inr (.inl rfl), h2⟩
  · have hst' : (stepF s).2 = true := by simpa using hst
    rw [hst', if_pos rfl]
    obtain ⟨⟨sl2, hb2, hs2, hg2⟩, gl2, ok2⟩ := h2
    obtain ⟨e1, e2, e3⟩ := stepF_b s
    refine LdK.fld hb2 (x := sl2) rfl ?_
    have hl2 := hs2.len
    rw [e1] at hl2
    refine RdB.sub hs2.rd (by omega) (by omega) hs2.cap fun hu => ?_
    rw [e1] at hu
    have kk := ok2.len
    rw [e1] at kk
    refine CallK.of (clone_ok (v := (sl2.1, n.toNat, sl2.2.2)) hu (by simp only [List.length_take]; omega)) ?_
    rintro _ w3 ⟨u, rfl, hu, f3, hf3⟩
    refine ⟨u, rfl, ?_⟩
    refine StK.fld (f3.keep0 hb2) (by simp) rfl fun w5 hb5 f5 _ => ?_
    refine StK.fld hb5 (by simp) rfl fun w6 hb6 f6 _ => ?_
    have hbl := lt_of_blk hb2
    have hy6 : IsB w6 u (s.b.take n.toNat) := (hu.keep f5 (fun k hk t => by have := hf3 k hk; have : k = b := t; omega)).keep f6 (fun k hk t => by have := hf3 k hk; have : k = b := t; omega)
    have fr2 : Fr (only b) w2 w6 := (f3.of0 f5).trans f6
    obtain ⟨gy, hgn, hgl, hgy⟩ := gOf (b := b) (n := w2.heap.size) (lt_of_blk hb6) hy6 (fun k hk => by have := hf3 k hk; omega)
    refine ⟨rfl, f2.trans fr2, gy, hgn.imp id (fun t => .inr (Nat.le_trans f2.size t)), ⟨u, hb6, hy6, hgy⟩, hgl, ?_⟩
    obtain ⟨k1, k2, k3, k4, k5⟩ := ok2
    refine ⟨?_, k2, k3, by dsimp only; omega, ?_⟩ <;> dsimp only <;> simp only [List.length_take] <;> omega

def fuseF (s : FileS) (n : Int) : FileS := { s with lit := true, fuse := if n > 0 then n else 0 }
theorem ffuse_spec {w : World} {b g : Nat} {s : FileS} (h : IsFile w b g s) (n : Int) : Ret Try.prog 52 #[.pointer (some ⟨b, 0, none⟩), .int .i64 n] w fun r w' => r = .tuple #[] ∧ FileTo w b g (fuseF s n) w' := by
  obtain ⟨⟨sl, hb, hs, hg⟩, gl, ok⟩ := h
  refine c52 _ n w _ ?_
  refine StK.fld hb (by simp) rfl fun w1 hb1 f1 _ => ?_
  refine StK.fld hb1 (by simp) rfl fun w2 hb2 f2 _ => ?_
  exact ⟨rfl, f1.trans f2, g, .inr (.inl rfl), ⟨sl, hb2, hs.keep (f1.trans f2) (fun k hk t => (hg k hk).2 t), hg⟩, Nat.lt_of_lt_of_le gl (f1.trans f2).size, ok.len, ok.q0, ok.q1, ok.s0, ok.s1⟩

def xorI (x : UInt8) (p : Int) : UInt8 := UInt8.ofNat (BitVec.ofInt 8 (x.toNat : Int) ^^^ BitVec.ofInt 8 p).toNat
theorem xorI_val (x : UInt8) (p : Int) : Value.int .u8 (IntKind.u8.wrap ((BitVec.ofInt 8 (x.toNat : Int) ^^^ BitVec.ofInt 8 p).toNat : Int)) = bc (xorI x p) := by
  have h := (BitVec.ofInt 8 (x.toNat : Int) ^^^ BitVec.ofInt 8 p).isLt
  rw [wB (by omega) (by omega)]
  unfold bc xorI
  rw [UInt8.toNat_ofNat', Nat.mod_eq_of_lt h]

def crashK (s : FileS) (keep : Int) : Int := s.synced + (if (s.b.length : Int) - s.synced < (if keep > 0 then keep else 0) then (s.b.length : Int) - s.synced else (if keep > 0 then keep else 0))
def crashB (s : FileS) (k p : Int) : List UInt8 := if k > s.synced then (s.b.take k.toNat).set (k - 1).toNat (xorI (s.b.getD (k - 1).toNat 0) p) else s.b.take k.toNat
def crashF (s : FileS) (keep p : Int) : FileS := { s with b := crashB s (crashK s keep) p, synced := crashK s keep, dead := false, lit := false, fuse := 0 }

theorem fcrash_spec {w : World} {b g : Nat} {s : FileS} (h : IsFile w b g s) (n p : Int) : Ret Try.prog 43 #[.pointer (some ⟨b, 0, none⟩), .int .i64 n, .int .u8 p] w fun r w' => r = .tuple #[] ∧ FileTo w b g (crashF s n p) w' := by
  have h0 := h
  obtain ⟨⟨sl, hb, hs, hg⟩, gl, ok⟩ := h
  obtain ⟨k1, k2, k3, k4, k5⟩ := ok
  have hsl := hs.len
  refine c43 _ n p w _ ?_
  unfold C43 crashF
  refine DrewK.of fun w1 hw1 f1 => ?_
  have hb1 := f1.keep0 hb
  refine LdK.fld hb1 rfl ?_
  refine LdK.fld hb1 (x := sl) rfl ?_
  refine LdK.fld hb1 rfl ?_
  refine LdK.fld hb1 (x := sl) rfl ?_
  dsimp only
  have hk0 : s.synced ≤ crashK s n := by unfold crashK; repeat' split
                                         all_goals omega
  have hk1 : crashK s n ≤ s.b.length := by unfold crashK; repeat' split
                                           all_goals omega
  have ek : IntKind.i64.wrap (s.synced + (if IntKind.i64.wrap ((sl.2.1 : Int) - s.synced) < (if n > 0 then n else 0) then IntKind.i64.wrap ((sl.2.1 : Int) - s.synced) else (if n > 0 then n else 0))) = crashK s n := by
    rw [hsl, wI (x := (s.b.length : Int) - s.synced) (by omega) (by omega)]
    exact wI (x := crashK s n) (by omega) (by omega)
  rw [ek]
  generalize crashK s n = k at *
  refine RdB.sub (hs.rd.keep0 f1) (by omega) (by omega) hs.cap fun hu => ?_
  refine CallK.of (clone_ok (v := (sl.1, k.toNat, sl.2.2)) hu (by simp only [List.length_take]; omega)) ?_
  rintro _ w3 ⟨u, rfl, hu, f3, hf3⟩
  refine ⟨u, rfl, ?_⟩
  have hb3 := f3.keep0 hb1
  have hbl := lt_of_blk hb1
  have hul := hu.len
  rw [List.length_take] at hul
  refine LdK.fld hb3 rfl ?_
  have fin : ∀ (K : World → Prop) (w5 : World) (bs : List UInt8), bs.length = k.toNat → Fr (blkOf u) w3 w5 → IsB w5 u bs → (∀ w', FileTo w b g { s with b := bs, synced := k, dead := false, lit := false, fuse := 0 } w' → K w') → StK ((⟨b, 0, none⟩ : Addr).add 0) (.slice u.1 u.2.1 u.2.2) w5 (fun w21 => StK ((⟨b, 0, none⟩ : Addr).add 2) (.int .i64 k) w21 (fun w22 => StK ((⟨b, 0, none⟩ : Addr).add 5) (.bool false) w22 (fun w23 => StK ((⟨b, 0, none⟩ : Addr).add 3) (.bool false) w23 (fun w24 => StK ((⟨b, 0, none⟩ : Addr).add 4) (.int .i64 0) w24 K)))) := fun K w5 bs hbs f5 hu5 hK => by
    have hub : ¬ blkOf u b := fun t => by have := hf3 b t; omega
    refine StK.fld (f5.keep hb3 hub) (by simp) rfl fun w6 hb6 f6 _ => ?_
    refine StK.fld hb6 (by simp) rfl fun w7 hb7 f7 _ => ?_
    refine StK.fld hb7 (by simp) rfl fun w8 hb8 f8 _ => ?_
    refine StK.fld hb8 (by simp) rfl fun w9 hb9 f9 _ => ?_
    refine StK.fld hb9 (by simp) rfl fun w10 hb10 f10 _ => ?_
    have ft : Fr (only b) w5 w10 := (((f6.trans f7).trans f8).trans f9).trans f10
    have hy : IsB w10 u bs := hu5.keep ft (fun k hk t => hub (by have : k = b := t; rw [← this]; exact hk))
    have fr : Fr (only b) w w10 := ((f1.trans f3).comp f5 (fun x hx t => by have := hf3 x t; have := f1.size; omega)).of0 ft
    obtain ⟨gy, hgn, hgl, hgy⟩ := gOf (b := b) (n := w.heap.size) (lt_of_blk hb10) hy (fun k hk => ⟨Nat.le_trans f1.size (hf3 k hk), fun t => hub (t ▸ hk)⟩)
    refine hK _ ⟨fr, gy, hgn.imp id .inr, ⟨u, hb10, hy, hgy⟩, hgl, ?_⟩
    refine ⟨?_, k2, k3, ?_, ?_⟩ <;> dsimp only <;> omega
  unfold crashB
  refine ifB.dec (fun hq => ?_) (fun hq => ?_)
  · rw [if_pos hq, wI (x := k - 1) (by omega) (by omega)]
    have hx : (s.b.take k.toNat)[(k - 1).toNat]? = some (s.b.getD (k - 1).toNat 0) := by
      rw [List.getElem?_take_of_lt (by omega), List.getD_eq_getElem?_getD, List.getElem?_eq_getElem (by omega)]
      rfl
    refine IsSl.ld hu (by omega) (by omega) (x := ((s.b.getD (k - 1).toNat 0).toNat : Int)) (by rw [List.getElem?_map, hx]; rfl) ?_
    rw [xorI_val]
    refine IsSl.st hu (by omega) (by omega) rfl fun w5 hu5 f5 _ => ?_
    refine fin _ w5 ((s.b.take k.toNat).set (k - 1).toNat (xorI (s.b.getD (k - 1).toNat 0) p)) (by simp; omega) f5 (by unfold IsB; rw [List.map_set]; exact hu5) fun w' hw' => ⟨rfl, hw'⟩
  · rw [if_neg hq]
    exact fin _ w3 (s.b.take k.toNat) (by simp; omega) (Fr.refl _ _) hu fun w' hw' => ⟨rfl, hw'⟩

theorem fclone_spec {w : World} {b g : Nat} {s : FileS} (h : IsFile w b g s) : Ret Try.prog 51 #[.pointer (some ⟨b, 0, none⟩)] w fun r w' => ∃ c g', r = .pointer (some ⟨c, 0, none⟩) ∧ Fr none1 w w' ∧ w.heap.size ≤ c ∧ w.heap.size ≤ g' ∧ IsFile w' c g' s := by
  have h0 := h
  obtain ⟨⟨sl, hb, hs, hg⟩, gl, ok⟩ := h
  refine c51 _ w _ ?_
  refine LdsK.blk (x := (sl, s.quota, s.synced, s.lit, s.fuse, s.dead, ())) hb ?_
  refine NewK.of fun c w1 hc hc1 f1 hs1 => ?_
  refine StsK.blk hc1 rfl rfl fun w2 hc2 f2 hs2 => ?_
  have hbl := lt_of_blk hb
  have hb2 := f2.keep1 (f1.keep0 hb) (by omega)
  have f02 : Fr none1 w w2 := f1.fresh f2 (by omega)
  refine LdK.fld hb2 (x := sl) rfl ?_
  refine CallK.of (clone_ok (hs.keep0 f02).rd (by have := ok.len; omega)) ?_
  rintro _ w3 ⟨u, rfl, hu, f3, hf3⟩
  refine ⟨u, rfl, ?_⟩
  refine StK.fld (f3.keep0 hc2) (by simp) rfl fun w4 hc4 f4 _ => ?_
  have hu4 : IsB w4 u s.b := hu.keep f4 (fun k hk t => by have := hf3 k hk; have : k = c := t; omega)
  obtain ⟨gy, hgn, hgl, hgy⟩ := gOf (b := c) (n := w.heap.size) (lt_of_blk hc4) hu4 (fun k hk => by have := hf3 k hk; have := f02.size; omega)
  refine ⟨c, gy, rfl, (f02.trans f3).fresh f4 (by omega), by omega, ?_, ⟨u, hc4, hu4, hgy⟩, hgl, ok⟩
  rcases hgn with t | t <;> omega

end Go.Proofs.Ytejhjjafmobmbaa
