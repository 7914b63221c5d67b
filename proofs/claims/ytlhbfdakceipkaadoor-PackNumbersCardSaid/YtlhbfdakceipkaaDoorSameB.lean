/-
  The helps of statements: comparisons of bytes; bytes that came in; texts as bytes.
  Conditions: none beyond those stated.
-/
import Derived.Test.YtlhbfdakceipkaaDoorBytesSpec
import Derived.Test.YtlhbfdakceipkaaDoorCKeep
set_option linter.unusedVariables false
namespace Go.Proofs.YtlhbfdakceipkaaDoor
open Vc

def toByte (z : Int) : UInt8 := UInt8.ofNat z.toNat
theorem toByte_bc {z : Int} (h : (Lit.int .u8 z).wf = true) : Value.int .u8 z = bc (toByte z) := by
  simp [Lit.wf, IntKind.min, IntKind.max, IntKind.signed, IntKind.bits] at h
  unfold bc toByte
  rw [UInt8.toNat_ofNat', Nat.mod_eq_of_lt (by omega)]
  congr 1; omega

theorem cellsAt_of {w : World} {x : Addr} : ∀ (vs : List Value) (i : Nat), (∀ j, j < vs.length → w.cell? (x.add (i + j)) = vs[j]?) → CellsAt w x i vs
  | [], _, _ => trivial
  | v :: vs, i, h => ⟨by have := h 0 (by simp); simpa using this, cellsAt_of vs (i + 1) fun j hj => by
      have := h (j + 1) (by simp; omega)
      rw [show i + (j + 1) = i + 1 + j by omega] at this
      simpa using this⟩

theorem args_rd {w : World} {a : Option Addr} {len cap : Nat} {zs : List Int} (h : IsInts .u8 w a len cap zs) : RdB w (a, len, cap) ((zs.take len).map toByte) ∧ len ≤ cap := by
  rcases h with ⟨rfl, rfl, rfl, rfl⟩ | ⟨x, rfl, hl, hc, hz, hcell, hw⟩
  · exact ⟨⟨rfl, fun _ => ⟨rfl, rfl, rfl⟩, fun a ha => by cases ha⟩, Nat.le_refl _⟩
  · refine ⟨⟨by simp; omega, (fun t => nomatch t), fun b hb => ?_⟩, hl⟩
    injection hb with hb; subst hb
    refine cellsAt_of _ 0 fun j hj => ?_
    simp at hj
    rw [Nat.zero_add, hcell j (by omega), List.getElem?_map, List.getElem?_map, List.getElem?_take_of_lt (by omega), List.getD_eq_getElem?_getD, List.getElem?_eq_getElem (by omega)]
    simp only [Option.map_some, Option.getD_some]
    rw [toByte_bc (hw _ (List.getElem_mem _))]

theorem none_b (w : World) : IsB w (none, 0, 0) [] := .inl ⟨rfl, rfl⟩

theorem RdB.at {w : World} {v : Sl} {bs : List UInt8} (h : RdB w v bs) {K : Int → Prop} {i : Int} (h0 : 0 ≤ i) (h1 : i < v.2.1) (k : K ((bs.getD i.toNat 0).toNat : Int)) : IdxK v.1 v.2.1 i 1 fun p => LdK (.int .u8) p w K := by
  have hl := h.len
  refine RdSl.ld h h0 h1 (x := ((bs.getD i.toNat 0).toNat : Int)) ?_ k
  rw [List.getElem?_map, List.getElem?_eq_getElem (by omega), List.getD_eq_getElem?_getD, List.getElem?_eq_getElem (by omega)]
  rfl

theorem same_spec {w : World} {x y : Sl} {xs ys : List UInt8} (hx : RdB w x xs) (hy : RdB w y ys) (hl : xs.length ≤ 100000000) :
    Ret Tryd.prog 7 #[.slice x.1 x.2.1 x.2.2, .slice y.1 y.2.1 y.2.2] w fun r w' => r = .bool (decide (xs = ys)) ∧ Fr none1 w w' := by
  refine c7 x.1 x.2.1 x.2.2 y.1 y.2.1 y.2.2 w _ ?_
  have ex := hx.len
  have ey := hy.len
  refine ifB.ne (fun h => ?_) (fun h => ?_)
  · refine ⟨?_, Fr.refl _ _⟩
    rw [decide_eq_false (fun t => by subst t; omega)]
  refine LoopK.of (fun s w' => 0 ≤ s.1 ∧ s.1 ≤ x.2.1 ∧ Fr none1 w w' ∧ ∀ j : Nat, (j : Int) < s.1 → xs.getD j 0 = ys.getD j 0) (fun s _ => (x.2.1 - s.1).toNat) ⟨by dsimp only; omega, by dsimp only; omega, Fr.refl _ _, fun j hj => by dsimp only at hj; omega⟩ ?_
  rintro _ s w1 ⟨i0, i1, f1, hall⟩
  refine ifB.dec (fun hlt => ?_) (fun hge => ?_)
  · refine DrewK.of fun w2 _ f2 => ?_
    refine RdB.at ((hx.keep0 f1).keep0 f2) i0 hlt ?_
    refine RdB.at ((hy.keep0 f1).keep0 f2) i0 (by omega) ?_
    refine ifB.ne (fun hne => ?_) (fun heq => ?_)
    · refine ⟨?_, f1.trans f2⟩
      rw [decide_eq_false (fun t => by subst t; exact hne rfl)]
    · rw [wI (by omega) (by omega)]
      refine ⟨⟨by dsimp only; omega, by dsimp only; omega, f1.trans f2, fun j hj => ?_⟩, by dsimp only; omega⟩
      dsimp only at hj
      by_cases hji : (j : Int) < s.1
      · exact hall j hji
      · have : s.1.toNat = j := by omega
        rw [this] at heq
        exact UInt8.toNat_inj.1 (by omega)
  · refine ⟨?_, f1⟩
    rw [decide_eq_true]
    refine List.ext_getElem (by omega) fun j h1 h2 => ?_
    have := hall j (by omega)
    rw [List.getD_eq_getElem?_getD, List.getD_eq_getElem?_getD, List.getElem?_eq_getElem h1, List.getElem?_eq_getElem h2] at this
    simpa using this

/-- The bytes of a text literal: the literal and its mark. -/
theorem text_ok {w : World} (bs : List UInt8) (hn : 0 < bs.length) (hl : bs.length ≤ 1000) {K : Sl → World → Prop} (k : ∀ u w', RdB w' u bs → Fr none1 w w' → (∀ k, blkOf u k → w.heap.size ≤ k) → K u w') :
    RunK Tryd.prog (Instr.buildSlice 22 bs.length (((bs.map bc).zipIdx.map fun (v, i) => (i, v)).toArray)) w (.v (.one .slc)) (fun (y : Option Addr × Nat × Nat) w4 => RunK Tryd.prog (convert 22 22 (.slice y.1 y.2.1 y.2.2)) w4 (.v (.one .slc)) (fun (u : Option Addr × Nat × Nat) w6 => K u w6)) := by
  obtain ⟨x, w1, hr, hx, hxl, f1, hf⟩ := lit_ok (P := Tryd.prog) (w := w) elem_byte (bs.map bc) (by intro v hv; obtain ⟨x, _, rfl⟩ := List.mem_map.1 hv; rfl) (by simp; omega)
  rw [List.length_map] at hr hxl
  refine ⟨x, w1, hr, ?_⟩
  have hs : x.1.isSome = true := by
    rcases hx with ⟨rfl, h⟩ | ⟨g, off, cs, h, _⟩
    · simp at hxl; omega
    · rw [h]; rfl
  obtain ⟨w2, hr2, hu, f2⟩ := conv_ok (P := Tryd.prog) Tryd.underlying22 Tryd.underlying5 hx hs
  exact ⟨x, w2, hr2, k x w2 hu (f1.comp f2 fun k hk t => by have := hf k t; omega) hf⟩

end Go.Proofs.YtlhbfdakceipkaaDoor
