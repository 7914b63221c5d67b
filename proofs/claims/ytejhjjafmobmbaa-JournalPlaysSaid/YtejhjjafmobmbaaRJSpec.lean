/-
  What the document's own journal does (under way): a record's bytes, Room.
  Conditions: the journal lies in blocks of its own.
-/
import Derived.Test.YtejhjjafmobmbaaLendSpec
import Derived.Test.YtejhjjafmobmbaaCRefJ
import Derived.Laws.BytesString
import Derived.Laws.BytesArg
set_option linter.unusedVariables false
namespace Go.Proofs.Ytejhjjafmobmbaa
open Vc

theorem record_is {w : World} {v : Sl} {bs : List UInt8} (h : RdB w v bs) (hl : bs.length ≤ 4000) :
    ∃ (u : Sl) (w1 : World), Ret Try.prog 82 #[.slice v.1 v.2.1 v.2.2] w (fun r w' => r = .slice u.1 u.2.1 u.2.2 ∧ w1 = w') ∧ IsB w1 u (packL bs) ∧ Fr none1 w w1 ∧ ∀ k, blkOf u k → w.heap.size ≤ k := by
  have hvl := h.len
  obtain ⟨x, w1, r1, hx, hxl, f1, xf⟩ := lit_ok (P := Try.prog) (w := w) elem_byte ((headL bs).map bc) (by intro v hv; obtain ⟨x, _, rfl⟩ := List.mem_map.1 hv; rfl) (by simp [headL])
  have hx' : IsB w1 x (headL bs) := hx
  obtain ⟨y, w2, r2, hy, f2, yf⟩ := append_bytes hx' (h.keep0 f1) (by simp [headL]; omega)
  obtain ⟨z, w3, r3, hz, hzl, f3, zf⟩ := one_ok (P := Try.prog) (w := w2) elem_byte (bc (xorL 150 (headL bs ++ bs))) rfl
  have hz' : RdB w3 z [xorL 150 (headL bs ++ bs)] := hz.rd
  have hy3 := hy.keep0 f3
  obtain ⟨u, w4, r4, hu, f4, uf⟩ := append_bytes hy3 hz' (by simp [headL]; omega)
  have hyl := hy.len
  have hll : (headL bs ++ bs).length = 2 + bs.length := by rw [List.length_append]; rfl
  have yf' : ∀ k, blkOf y k → w.heap.size ≤ k := fun k hk => by
    rcases yf k hk with t | t
    · exact xf k t
    · exact Nat.le_trans f1.size t
  have f12 : Fr none1 w w2 := f1.comp f2 (fun k hk t => by have := xf k t; omega)
  refine ⟨u, w4, ?_, hu, (f12.trans f3).comp f4 (fun k hk t => by have := yf' k t; omega), fun k hk => ?_⟩
  · refine c82 v.1 v.2.1 v.2.2 w _ ?_
    refine ⟨by omega, x, w1, ?_, y, w2, r2, ?_⟩
    · refine Eq.trans ?_ r1
      have e1 : IntKind.u8.wrap (Int.fdiv (v.2.1 : Int) (2 ^ (min (Int.toNat 8) 64))) = (bs.length : Int) / 256 := by
        rw [show (2 : Int) ^ (min (Int.toNat 8) 64) = 256 from rfl, Int.fdiv_eq_ediv_of_nonneg _ (by omega), hvl, wB (by omega) (by omega)]
      have e2 : IntKind.u8.wrap (v.2.1 : Int) = (bs.length : Int) % 256 := by rw [IntKind.wrap_u8, hvl]
      rw [e1, e2, toByte_bc' (z := (bs.length : Int) / 256) (by omega) (by omega), toByte_bc' (z := (bs.length : Int) % 256) (by omega) (by omega)]
      rfl
    · refine LoopK.of (fun s w' => w2 = w' ∧ 0 ≤ s.2.1 ∧ s.2.1 ≤ y.2.1 ∧ s.1 = ((xorL 150 ((headL bs ++ bs).take s.2.1.toNat)).toNat : Int)) (fun s _ => (y.2.1 - s.2.1).toNat) ⟨rfl, by dsimp only; omega, by dsimp only; omega, rfl⟩ ?_
      rintro _ ⟨q, i, _⟩ _ ⟨rfl, i0, i1, hq⟩
      dsimp only at i0 i1 hq ⊢
      refine ifB.dec (fun hlt => ?_) (fun hge => ?_)
      · refine RdB.at hy.rd i0 hlt ?_
        rw [wI (by omega) (by omega), hq, xorI_int]
        refine ⟨⟨rfl, by omega, by omega, ?_⟩, by omega⟩
        rw [show (i + 1).toNat = i.toNat + 1 by omega, List.take_succ_eq_append_getElem (by omega)]
        unfold xorL
        rw [List.foldl_append, List.getD_eq_getElem?_getD, List.getElem?_eq_getElem (by omega)]
        rfl
      · rw [List.take_of_length_le (by omega)] at hq
        rw [hq]
        exact ⟨z, w3, r3, u, w4, r4, rfl, rfl⟩
  · rcases uf k hk with t | t
    · exact yf' k t
    · exact Nat.le_trans (f12.trans f3).size t

/-- Bytes as a text. -/
theorem text_of {w : World} {v : Sl} {bs : List UInt8} (h : RdB w v bs) : (convert 53 9 (.slice v.1 v.2.1 v.2.2)).run Try.prog w = .ok (.string ⟨bs.toArray⟩) w := by
  rw [run_convert_bytes_string w _ _ 5 v.1 v.2.1 v.2.2 Try.underlying53 Try.underlying5 Try.underlying9]
  have hl := h.len
  obtain ⟨h1, h2, h3⟩ := h
  cases hv : v.1 with
  | none =>
    have : bs = [] := by have := (h2 hv).2.2; simpa using this
    subst this
    rfl
  | some a =>
    have hc := h3 a hv
    have hload : (loadCells a v.2.1).run Try.prog w = .ok ((bs.map fun b => (b.toNat : Int)).map (Value.int .u8)).toArray w := by
      have := loadCells_ok (P := Try.prog) (bs.map bc) hc
      rw [List.length_map, ← hl] at this
      rw [this]
      congr 1
      rw [List.map_map]
      rfl
    rw [run_bytesToString w a v.2.1 v.2.2 _ hload, foldl_push_bytes]
    have e : ((bs.map fun b => (b.toNat : Int)).map fun n => UInt8.ofNat n.toNat) = bs := by
      rw [List.map_map]
      conv => rhs; rw [← List.map_id bs]
      refine List.map_congr_left fun b _ => ?_
      simp
    rw [e]
    congr 2
    simp

/-- The document's journal at block p, on its file at block b; its records in blocks of S. -/
structure IsRJ (w : World) (S : Nat → Prop) (p b g : Nat) (s : FileS) (d : Bool) (rs : List (List UInt8)) : Prop where
  file : IsRef w b g s
  out : ∃ jl : Sl, w.heap[p]? = some (.cells #[.pointer (some ⟨b, 0, none⟩), .slice jl.1 jl.2.1 jl.2.2, .bool d] 95 (0, 0)) ∧ IsRows w S jl rs
  ne : p ≠ b ∧ p ≠ g
  off : ∀ k, S k → k ≠ p ∧ k ≠ b ∧ k ≠ g

theorem IsRJ.keep {w w' : World} {S : Nat → Prop} {p b g : Nat} {s : FileS} {d : Bool} {rs : List (List UInt8)} (h : IsRJ w S p b g s d rs) {T : Nat → Prop} (f : Fr T w w') (h1 : ¬ T p) (h2 : ¬ T b) (h3 : ¬ T g) (h4 : ∀ k, S k → ¬ T k) : IsRJ w' S p b g s d rs := by
  obtain ⟨a, ⟨jl, b1, b2⟩, c, d⟩ := h
  exact ⟨a.keep f h2 h3, ⟨jl, f.keep b1 h1, b2.keep f h4⟩, c, d⟩
theorem IsRJ.keep0 {w w' : World} {S : Nat → Prop} {p b g : Nat} {s : FileS} {d : Bool} {rs : List (List UInt8)} (h : IsRJ w S p b g s d rs) (f : Fr none1 w w') : IsRJ w' S p b g s d rs := h.keep f (fun t => t) (fun t => t) (fun t => t) (fun _ _ t => t)

theorem IsRJ.plt {w : World} {S : Nat → Prop} {p b g : Nat} {s : FileS} {d : Bool} {rs : List (List UInt8)} (h : IsRJ w S p b g s d rs) : p < w.heap.size := by
  obtain ⟨_, ⟨jl, b1, _⟩, _⟩ := h; exact lt_of_blk b1
theorem IsRJ.slt {w : World} {S : Nat → Prop} {p b g : Nat} {s : FileS} {d : Bool} {rs : List (List UInt8)} (h : IsRJ w S p b g s d rs) : ∀ k, S k → k < w.heap.size := by
  obtain ⟨_, ⟨jl, _, b2⟩, _⟩ := h; exact b2.lt

/-- The file alone has turned. -/
theorem IsRJ.filed {w w' : World} {S : Nat → Prop} {p b g : Nat} {s s' : FileS} {d : Bool} {rs : List (List UInt8)} (h : IsRJ w S p b g s d rs) (t : RefTo w b g s' w') : ∃ g', (g' = b ∨ g' = g ∨ w.heap.size ≤ g') ∧ IsRJ w' S p b g' s' d rs := by
  obtain ⟨f, g', hg, i⟩ := t
  have hp := h.plt
  have hs := h.slt
  obtain ⟨a, ⟨jl, b1, b2⟩, c, o⟩ := h
  refine ⟨g', hg, i, ⟨jl, f.keep b1 (fun t => by rcases t with t | t; exact c.1 t; exact c.2 t), b2.keep f (fun k hk t => by rcases t with t | t; exact (o k hk).2.1 t; exact (o k hk).2.2 t)⟩, ⟨c.1, ?_⟩, fun k hk => ⟨(o k hk).1, (o k hk).2.1, ?_⟩⟩
  · rcases hg with t | t | t
    · rw [t]; exact c.1
    · rw [t]; exact c.2
    · omega
  · have := hs k hk
    rcases hg with t | t | t
    · rw [t]; exact (o k hk).2.1
    · rw [t]; exact (o k hk).2.2
    · omega

theorem rroom_spec {w : World} {S : Nat → Prop} {p b g : Nat} {s : FileS} {d : Bool} {rs : List (List UInt8)} (h : IsRJ w S p b g s d rs) (n : Int) : Ret Try.prog 73 #[.pointer (some ⟨p, 0, none⟩), .int .i64 n] w fun r w' => r = .bool (roomF s n) ∧ Fr none1 w w' := by
  obtain ⟨⟨⟨sl, hb, hs, _⟩, _, ok⟩, ⟨jl, hp, _⟩, _⟩ := h
  obtain ⟨k1, k2, k3, k4, k5⟩ := ok
  have hsl := hs.len
  refine c73 _ n w _ ?_
  unfold roomF
  refine DrewK.of fun w1 _ f1 => ?_
  have hp1 := f1.keep0 hp
  have hb1 := f1.keep0 hb
  refine ifB.dec (fun h1 => ?_) (fun h1 => ?_)
  · rw [decide_eq_true (p := 0 ≤ n) (by omega), Bool.true_and]
    refine ifB.dec (fun h2 => ?_) (fun h2 => ?_)
    · rw [decide_eq_true (p := n ≤ 4000) (by omega), Bool.true_and]
      refine LdK.fld hp1 (x := some ⟨b, 0, none⟩) rfl ?_
      refine LdK.fld hb1 rfl ?_
      refine LdK.fld hp1 (x := some ⟨b, 0, none⟩) rfl ?_
      refine LdK.fld hb1 (x := sl) rfl ?_
      rw [hsl, wI (x := n + 3) (by omega) (by omega), wI (x := s.quota - (s.b.length : Int)) (by omega) (by omega)]
      exact ⟨rfl, f1⟩
    · rw [decide_eq_false (p := n ≤ 4000) (by omega), Bool.false_and]; exact ⟨rfl, f1⟩
  · rw [decide_eq_false (p := 0 ≤ n) (by omega), Bool.false_and, Bool.false_and]; exact ⟨rfl, f1⟩

end Go.Proofs.Ytejhjjafmobmbaa
