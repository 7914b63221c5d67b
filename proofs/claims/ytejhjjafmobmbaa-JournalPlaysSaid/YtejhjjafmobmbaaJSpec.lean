/-
  What a journal does: each of its functions by a plain one.
  Conditions: the journal, its records and its file lie in blocks of their own.
-/
import Derived.Test.YtejhjjafmobmbaaFFuse
import Derived.Test.YtejhjjafmobmbaaFMem
import Derived.Test.YtejhjjafmobmbaaCJournal
set_option linter.unusedVariables false
namespace Go.Proofs.Ytejhjjafmobmbaa
open Vc

/-! ### Lists of rows of bytes -/
theorem elem_row : ElemOk Try.prog 79 53 1 (.slice none 0 0) 24 := ⟨Try.underlying79, ⟨Try.t53, by kernel_rfl, rfl, rfl, rfl⟩, rfl, by decide⟩

def slv (u : Sl) : Value := .slice u.1 u.2.1 u.2.2
def nils : Sl := (none, 0, 0)

structure IsRows (w : World) (S : Nat → Prop) (v : Sl) (rs : List (List UInt8)) : Prop where
  out : ∃ us : List Sl, IsSl w 53 1 v (us.map slv) ∧ us.length = rs.length ∧ (∀ i, i < us.length → RdB w (us.getD i nils) (rs.getD i [])) ∧ ∀ u ∈ us, ∀ k, blkOf u k → S k ∧ ¬ blkOf v k
  own : ∀ k, blkOf v k → S k
  lt : ∀ k, S k → k < w.heap.size

theorem IsRows.keep {w w' : World} {S : Nat → Prop} {v : Sl} {rs : List (List UInt8)} (h : IsRows w S v rs) {T : Nat → Prop} (f : Fr T w w') (hT : ∀ k, S k → ¬ T k) : IsRows w' S v rs := by
  obtain ⟨⟨us, a, b, c, d⟩, o, l⟩ := h
  refine ⟨⟨us, a.keep f (fun k hk => hT k (o k hk)), b, fun i hi => (c i hi).keep f (fun k hk => ?_), d⟩, o, fun k hk => Nat.lt_of_lt_of_le (l k hk) f.size⟩
  rw [List.getD_eq_getElem?_getD, List.getElem?_eq_getElem hi] at hk
  exact hT k (d _ (List.getElem_mem hi) k hk).1
theorem IsRows.keep0 {w w' : World} {S : Nat → Prop} {v : Sl} {rs : List (List UInt8)} (h : IsRows w S v rs) (f : Fr none1 w w') : IsRows w' S v rs := h.keep f (fun _ _ t => t)
theorem IsRows.len {w : World} {S : Nat → Prop} {v : Sl} {rs : List (List UInt8)} (h : IsRows w S v rs) : v.2.1 = rs.length := by
  obtain ⟨⟨us, a, b, _⟩, _⟩ := h
  have := a.len
  simp at this; omega
theorem none_rows (w : World) (S : Nat → Prop) (hS : ∀ k, S k → k < w.heap.size) : IsRows w S (none, 0, 0) [] :=
  ⟨⟨[], .inl ⟨rfl, rfl⟩, rfl, fun i hi => by simp at hi, fun u hu => by simp at hu⟩, (fun k ⟨a, ha, _⟩ => by cases ha), hS⟩

theorem getD_l {α : Type} (a b : List α) (d : α) {i : Nat} (h : i < a.length) : (a ++ b).getD i d = a.getD i d := by
  rw [List.getD_eq_getElem?_getD, List.getD_eq_getElem?_getD, List.getElem?_append_left h]
theorem getD_r {α : Type} (a : List α) (x d : α) : (a ++ [x]).getD a.length d = x := by
  rw [List.getD_eq_getElem?_getD]; simp

/-- A row more. -/
theorem IsRows.snoc {w : World} {S : Nat → Prop} {v u : Sl} {rs : List (List UInt8)} {b : List UInt8} (h : IsRows w S v rs) (hu : RdB w u b) (hul : ∀ k, blkOf u k → k < w.heap.size ∧ ¬ S k) (hl : rs.length ≤ 1000000) :
    ∃ (y : Sl) (w2 : World) (z : Sl) (w3 : World), (Instr.buildSlice 79 1 #[(0, .slice u.1 u.2.1 u.2.2)]).run Try.prog w = .ok (.slice y.1 y.2.1 y.2.2) w2 ∧ Fr none1 w w2 ∧
      (Builtin.append_ #[79, 79] 79 #[.slice v.1 v.2.1 v.2.2, .slice y.1 y.2.1 y.2.2]).run Try.prog w2 = .ok (.slice z.1 z.2.1 z.2.2) w3 ∧
      Fr (blkOf v) w w3 ∧ ∃ S', (∀ k, S' k → S k ∨ blkOf u k ∨ w.heap.size ≤ k) ∧ IsRows w3 S' z (rs ++ [b]) := by
  have hvl := h.len
  obtain ⟨⟨us, a1, a2, a3, a4⟩, o, l⟩ := h
  obtain ⟨y, w2, hr, hy, hyl, f1, hf⟩ := one_ok (P := Try.prog) (w := w) elem_row (slv u) rfl
  obtain ⟨z, w3, hr2, hz, hzl, f2, hf2⟩ := append_ok elem_row 79 (a1.keep0 f1) hy.rd (by simp [slv, one1]) (by rw [hyl, hvl]; omega)
  have f3 : Fr (blkOf v) w w3 := f1.of0 f2
  refine ⟨y, w2, z, w3, hr, f1, hr2, f3, fun k => S k ∨ blkOf u k ∨ blkOf z k, fun k hk => ?_, ?_⟩
  · rcases hk with t | t | t
    · exact .inl t
    · exact .inr (.inl t)
    · rcases hf2 k t with t | t
      · exact .inl (o k t)
      · exact .inr (.inr (Nat.le_trans f1.size t))
  · refine ⟨⟨us ++ [u], ?_, by simp [a2], fun i hi => ?_, fun x hx k hk => ?_⟩, fun k hk => .inr (.inr hk), fun k hk => ?_⟩
    · rw [List.map_append]; exact hz
    · by_cases hiu : i < us.length
      · rw [getD_l _ _ _ hiu, getD_l _ _ _ (by omega)]
        refine (a3 i hiu).keep f3 (fun k hk => ?_)
        rw [List.getD_eq_getElem?_getD, List.getElem?_eq_getElem hiu] at hk
        exact (a4 _ (List.getElem_mem hiu) k hk).2
      · have : i = us.length := by simp at hi; omega
        subst this
        rw [getD_r, a2, getD_r]
        exact hu.keep f3 (fun k hk t => (hul k hk).2 (o k t))
    · rcases List.mem_append.1 hx with hx | hx
      · obtain ⟨t1, t2⟩ := a4 x hx k hk
        refine ⟨.inl t1, fun t => ?_⟩
        rcases hf2 k t with t | t
        · exact t2 t
        · have := l k t1; have := f1.size; omega
      · simp at hx; subst hx
        refine ⟨.inr (.inl hk), fun t => ?_⟩
        rcases hf2 k t with t | t
        · exact (hul k hk).2 (o k t)
        · have := (hul k hk).1; have := f1.size; omega
    · have s3 := f3.size
      rcases hk with t | t | t
      · have := l k t; omega
      · have := (hul k t).1; omega
      · exact IsSl.lt hz t

/-! ### Bytes -/
theorem clone_is {w : World} {v : Sl} {bs : List UInt8} (h : RdB w v bs) (hl : bs.length ≤ 100000000) :
    ∃ (u : Sl) (w1 : World), Ret Try.prog 78 #[.slice v.1 v.2.1 v.2.2] w (fun r w' => r = .slice u.1 u.2.1 u.2.2 ∧ w1 = w') ∧ IsB w1 u bs ∧ Fr none1 w w1 ∧ ∀ k, blkOf u k → w.heap.size ≤ k := by
  cases hn : v.1 with
  | none =>
    obtain ⟨_, _, he⟩ := h.2.1 hn
    refine ⟨(none, 0, 0), w, ?_, .inl ⟨rfl, he⟩, Fr.refl _ _, fun k ⟨a, ha, _⟩ => (by cases ha)⟩
    refine c78 none v.2.1 v.2.2 w _ ?_
    exact ifB.t rfl ⟨rfl, rfl⟩
  | some a =>
    obtain ⟨w1, hr, hb1, f1⟩ := empty_ok w
    have hx : IsB w1 (some ⟨w.heap.size, 0, none⟩, 0, 0) [] := .inr ⟨w.heap.size, 0, #[], rfl, hb1, Nat.le_refl _, by simp, by simp, fun i hi => by simp at hi⟩
    obtain ⟨u, w2, hr2, hu, f2, hf2, hq⟩ := append_new rfl rfl hx (h.keep0 f1) hl
    refine ⟨u, w2, ?_, hu, f1.trans f2, fun k hk => ?_⟩
    · refine c78 (some a) v.2.1 v.2.2 w _ ?_
      refine ifB.f rfl ?_
      rw [hn] at hr2
      exact ⟨(some ⟨w.heap.size, 0, none⟩, 0, 0), w1, hr, u, w2, hr2, rfl, rfl⟩
    · rcases hf2 k hk with ⟨a, ha, hk⟩ | t
      · injection ha with ha; subst ha; subst hk; exact Nat.le_refl _
      · exact Nat.le_trans f1.size t

theorem xorI_int (x : UInt8) (p : Int) : IntKind.u8.wrap ((BitVec.ofInt 8 (x.toNat : Int) ^^^ BitVec.ofInt 8 p).toNat : Int) = ((xorI x p).toNat : Int) := by
  have := xorI_val x p
  unfold bc at this
  injection this

def xorL (x : UInt8) (bs : List UInt8) : UInt8 := bs.foldl (fun a c => xorI a (c.toNat : Int)) x

theorem xor_spec {w : World} {v : Sl} {bs : List UInt8} (h : RdB w v bs) (hl : bs.length ≤ 100000000) : Ret Try.prog 83 #[.slice v.1 v.2.1 v.2.2] w fun r w' => r = .int .u8 ((xorL 150 bs).toNat : Int) ∧ w = w' := by
  refine c83 v.1 v.2.1 v.2.2 w _ ?_
  have hvl := h.len
  refine LoopK.of (fun s w' => w = w' ∧ 0 ≤ s.2.1 ∧ s.2.1 ≤ v.2.1 ∧ s.1 = ((xorL 150 (bs.take s.2.1.toNat)).toNat : Int)) (fun s _ => (v.2.1 - s.2.1).toNat) ⟨rfl, by dsimp only; omega, by dsimp only; omega, rfl⟩ ?_
  rintro _ ⟨x, i, _⟩ _ ⟨rfl, i0, i1, hx⟩
  dsimp only at i0 i1 hx ⊢
  refine ifB.dec (fun hlt => ?_) (fun hge => ?_)
  · refine RdB.at h i0 hlt ?_
    rw [wI (by omega) (by omega), hx, xorI_int]
    refine ⟨⟨rfl, by omega, by omega, ?_⟩, by omega⟩
    rw [show (i + 1).toNat = i.toNat + 1 by omega, List.take_succ_eq_append_getElem (by omega)]
    unfold xorL
    rw [List.foldl_append, List.getD_eq_getElem?_getD, List.getElem?_eq_getElem (by omega)]
    rfl
  · rw [List.take_of_length_le (by omega)] at hx
    rw [hx]; exact ⟨rfl, rfl⟩

def headL (bs : List UInt8) : List UInt8 := [toByte ((bs.length : Int) / 256), toByte ((bs.length : Int) % 256)]
def packL (bs : List UInt8) : List UInt8 := headL bs ++ bs ++ [xorL 150 (headL bs ++ bs)]
theorem packL_len (bs : List UInt8) : (packL bs).length = bs.length + 3 := by unfold packL headL; simp

theorem pack_is {w : World} {v : Sl} {bs : List UInt8} (h : RdB w v bs) (hl : bs.length ≤ 4000) :
    ∃ (u : Sl) (w1 : World), Ret Try.prog 81 #[.slice v.1 v.2.1 v.2.2] w (fun r w' => r = .slice u.1 u.2.1 u.2.2 ∧ w1 = w') ∧ IsB w1 u (packL bs) ∧ Fr none1 w w1 ∧ ∀ k, blkOf u k → w.heap.size ≤ k := by
  have hvl := h.len
  obtain ⟨x, w1, r1, hx, hxl, f1, xf⟩ := lit_ok (P := Try.prog) (w := w) elem_byte ((headL bs).map bc) (by intro v hv; obtain ⟨x, _, rfl⟩ := List.mem_map.1 hv; rfl) (by simp [headL])
  have hx' : IsB w1 x (headL bs) := hx
  obtain ⟨y, w2, r2, hy, f2, yf⟩ := append_bytes hx' (h.keep0 f1) (by simp [headL]; omega)
  obtain ⟨z, w3, r3, hz, hzl, f3, zf⟩ := one_ok (P := Try.prog) (w := w2) elem_byte (bc (xorL 150 (headL bs ++ bs))) rfl
  have hz' : RdB w3 z [xorL 150 (headL bs ++ bs)] := hz.rd
  have hy3 := hy.keep0 f3
  obtain ⟨u, w4, r4, hu, f4, uf⟩ := append_bytes hy3 hz' (by simp [headL]; omega)
  have yf' : ∀ k, blkOf y k → w.heap.size ≤ k := fun k hk => by
    rcases yf k hk with t | t
    · exact xf k t
    · exact Nat.le_trans f1.size t
  have f12 : Fr none1 w w2 := f1.comp f2 (fun k hk t => by have := xf k t; omega)
  refine ⟨u, w4, ?_, hu, (f12.trans f3).comp f4 (fun k hk t => by have := yf' k t; omega), fun k hk => ?_⟩
  · refine c81 v.1 v.2.1 v.2.2 w _ ?_
    refine ⟨by omega, x, w1, ?_, y, w2, r2, ?_⟩
    · refine Eq.trans ?_ r1
      have e1 : IntKind.u8.wrap (Int.fdiv (v.2.1 : Int) (2 ^ (min (Int.toNat 8) 64))) = (bs.length : Int) / 256 := by
        rw [show (2 : Int) ^ (min (Int.toNat 8) 64) = 256 from rfl, Int.fdiv_eq_ediv_of_nonneg _ (by omega), hvl, wB (by omega) (by omega)]
      have e2 : IntKind.u8.wrap (v.2.1 : Int) = (bs.length : Int) % 256 := by rw [IntKind.wrap_u8, hvl]
      rw [e1, e2, toByte_bc' (z := (bs.length : Int) / 256) (by omega) (by omega), toByte_bc' (z := (bs.length : Int) % 256) (by omega) (by omega)]
      rfl
    · refine CallK.of (xor_spec hy.rd (by simp [headL]; omega)) ?_
      rintro _ _ ⟨rfl, rfl⟩
      exact ⟨_, rfl, z, w3, r3, u, w4, r4, rfl, rfl⟩
  · rcases uf k hk with t | t
    · exact yf' k t
    · exact Nat.le_trans (f12.trans f3).size t

/-! ### The journal -/
structure IsJ (w : World) (S : Nat → Prop) (p b g : Nat) (s : FileS) (d : Bool) (rs : List (List UInt8)) : Prop where
  file : IsFile w b g s
  out : ∃ jl : Sl, w.heap[p]? = some (.cells #[.pointer (some ⟨b, 0, none⟩), .slice jl.1 jl.2.1 jl.2.2, .bool d] 105 (0, 0)) ∧ IsRows w S jl rs
  ne : p ≠ b ∧ p ≠ g
  off : ∀ k, S k → k ≠ p ∧ k ≠ b ∧ k ≠ g

theorem IsJ.keep {w w' : World} {S : Nat → Prop} {p b g : Nat} {s : FileS} {d : Bool} {rs : List (List UInt8)} (h : IsJ w S p b g s d rs) {T : Nat → Prop} (f : Fr T w w') (h1 : ¬ T p) (h2 : ¬ T b) (h3 : ¬ T g) (h4 : ∀ k, S k → ¬ T k) : IsJ w' S p b g s d rs := by
  obtain ⟨a, ⟨jl, b1, b2⟩, c, d⟩ := h
  exact ⟨a.keep f h2 h3, ⟨jl, f.keep b1 h1, b2.keep f h4⟩, c, d⟩
theorem IsJ.keep0 {w w' : World} {S : Nat → Prop} {p b g : Nat} {s : FileS} {d : Bool} {rs : List (List UInt8)} (h : IsJ w S p b g s d rs) (f : Fr none1 w w') : IsJ w' S p b g s d rs := h.keep f (fun t => t) (fun t => t) (fun t => t) (fun _ _ t => t)
theorem IsJ.plt {w : World} {S : Nat → Prop} {p b g : Nat} {s : FileS} {d : Bool} {rs : List (List UInt8)} (h : IsJ w S p b g s d rs) : p < w.heap.size := by
  obtain ⟨_, ⟨jl, b1, _⟩, _⟩ := h; exact lt_of_blk b1
theorem IsJ.slt {w : World} {S : Nat → Prop} {p b g : Nat} {s : FileS} {d : Bool} {rs : List (List UInt8)} (h : IsJ w S p b g s d rs) : ∀ k, S k → k < w.heap.size := by
  obtain ⟨_, ⟨jl, _, b2⟩, _⟩ := h; exact b2.lt

def inJ (S : Nat → Prop) (p b : Nat) : Nat → Prop := fun k => k = p ∨ k = b ∨ S k

/-- What a call does to a journal. -/
def JTo (w : World) (S : Nat → Prop) (p b g : Nat) (s' : FileS) (d' : Bool) (rs' : List (List UInt8)) (w' : World) : Prop :=
  Fr (inJ S p b) w w' ∧ ∃ S' g', (∀ k, S' k → S k ∨ w.heap.size ≤ k) ∧ (g' = b ∨ g' = g ∨ w.heap.size ≤ g') ∧ IsJ w' S' p b g' s' d' rs'

/-- The file alone has turned. -/
theorem IsJ.filed {w w' : World} {S : Nat → Prop} {p b g : Nat} {s s' : FileS} {d : Bool} {rs : List (List UInt8)} (h : IsJ w S p b g s d rs) (t : FileTo w b g s' w') : ∃ g', (g' = b ∨ g' = g ∨ w.heap.size ≤ g') ∧ IsJ w' S p b g' s' d rs := by
  obtain ⟨f, g', hg, i⟩ := t
  have hp := h.plt
  have hs := h.slt
  obtain ⟨a, ⟨jl, b1, b2⟩, c, o⟩ := h
  refine ⟨g', hg, i, ⟨jl, f.keep b1 (fun t => c.1 t), b2.keep f (fun k hk t => (o k hk).2.1 t)⟩, ⟨c.1, ?_⟩, fun k hk => ⟨(o k hk).1, (o k hk).2.1, ?_⟩⟩
  · rcases hg with t | t | t
    · rw [t]; exact c.1
    · rw [t]; exact c.2
    · omega
  · have := hs k hk
    rcases hg with t | t | t
    · rw [t]; exact (o k hk).2.1
    · rw [t]; exact (o k hk).2.2
    · omega

theorem jdead_spec {w : World} {S : Nat → Prop} {p b g : Nat} {s : FileS} {d : Bool} {rs : List (List UInt8)} (h : IsJ w S p b g s d rs) : Ret Try.prog 69 #[.pointer (some ⟨p, 0, none⟩)] w fun r w' => r = .bool d ∧ w = w' := by
  obtain ⟨_, ⟨jl, hp, _⟩, _⟩ := h
  exact c69 _ w _ (LdK.fld hp rfl ⟨rfl, rfl⟩)

theorem records_spec {w : World} {S : Nat → Prop} {p b g : Nat} {s : FileS} {d : Bool} {rs : List (List UInt8)} (h : IsJ w S p b g s d rs) (hl : rs.length ≤ 1000000) (hr : ∀ r ∈ rs, r.length ≤ 100000000) :
    Ret Try.prog 68 #[.pointer (some ⟨p, 0, none⟩)] w fun r w' => ∃ (v : Sl) (S' : Nat → Prop), r = .slice v.1 v.2.1 v.2.2 ∧ IsRows w' S' v rs ∧ Fr none1 w w' ∧ ∀ k, S' k → w.heap.size ≤ k := by
  obtain ⟨_, ⟨jl, hp, hj⟩, _⟩ := h
  have hjl := hj.len
  refine c68 _ w _ ?_
  refine LdK.fld hp (x := jl) rfl ?_
  refine LoopK.of (fun q w' => 0 ≤ q.2.1 ∧ q.2.1 ≤ jl.2.1 ∧ Fr none1 w w' ∧ ∃ S', IsRows w' S' q.1 (rs.take q.2.1.toNat) ∧ ∀ k, S' k → w.heap.size ≤ k) (fun q _ => (jl.2.1 - q.2.1).toNat)
    ⟨by dsimp only; omega, by dsimp only; omega, Fr.refl _ _, fun _ => False, none_rows _ _ (fun k t => t.elim), fun k t => t.elim⟩ ?_
  rintro _ ⟨v, i, _⟩ w1 ⟨i0, i1, f1, S', hv, hS⟩
  dsimp only at i0 i1 hv ⊢
  refine ifB.dec (fun hlt => ?_) (fun hge => ?_)
  · obtain ⟨⟨us, a1, a2, a3, a4⟩, o, l⟩ := hj.keep0 f1
    have hi : i.toNat < us.length := by omega
    have hrow := a3 i.toNat hi
    refine IsSl.ld a1 i0 hlt (x := us.getD i.toNat nils) (by rw [List.getElem?_map, List.getD_eq_getElem?_getD, List.getElem?_eq_getElem hi]; rfl) ?_
    have hrl : (rs.getD i.toNat []).length ≤ 100000000 := by
      rw [List.getD_eq_getElem?_getD, List.getElem?_eq_getElem (by omega)]
      exact hr _ (List.getElem_mem _)
    refine CallK.of (clone_ok hrow hrl) ?_
    rintro _ w2 ⟨u, rfl, hu, f2, huf⟩
    refine ⟨u, rfl, ?_⟩
    have hv2 := hv.keep0 f2
    obtain ⟨y, w3, z, w4, r1, f3, r2, f4, S2, hS2, hz⟩ := hv2.snoc hu.rd (fun k hk => ⟨IsSl.lt hu hk, fun t => by have := hv.lt k t; have := huf k hk; omega⟩) (by simp only [List.length_take]; omega)
    refine ⟨y, w3, r1, z, w4, r2, ?_⟩
    rw [wI (by omega) (by omega)]
    refine ⟨⟨by omega, by omega, (f1.trans f2).comp f4 (fun k hk t => by have := hS k (hv.own k t); omega), S2, ?_, fun k hk => ?_⟩, by omega⟩
    · rw [show (i + 1).toNat = i.toNat + 1 by omega, List.take_succ_eq_append_getElem (by omega)]
      rw [List.getD_eq_getElem?_getD, List.getElem?_eq_getElem (by omega)] at hz
      exact hz
    · have := f1.size
      have := f2.size
      rcases hS2 k hk with t | t | t
      · exact hS k t
      · have := huf k t; omega
      · omega
  · rw [List.take_of_length_le (by omega)] at hv
    exact ⟨v, S', rfl, hv, f1, hS⟩

end Go.Proofs.Ytejhjjafmobmbaa
