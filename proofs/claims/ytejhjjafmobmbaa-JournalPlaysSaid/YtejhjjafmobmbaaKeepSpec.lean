/-
  The helps of statements: copies, cuts, comparisons of bytes; the example of the file's document.
  Conditions: none beyond those stated.
-/
import Derived.Test.YtejhjjafmobmbaaFileSpec
import Derived.Test.YtejhjjafmobmbaaCKeep
set_option linter.unusedVariables false
namespace Go.Proofs.Ytejhjjafmobmbaa
open Vc

def toByte (z : Int) : UInt8 := UInt8.ofNat z.toNat
theorem toByte_bc {z : Int} (h : (Lit.int .u8 z).wf = true) : Value.int .u8 z = bc (toByte z) := by
  simp [Lit.wf, IntKind.min, IntKind.max, IntKind.signed, IntKind.bits] at h
  unfold bc toByte
  rw [UInt8.toNat_ofNat', Nat.mod_eq_of_lt (by omega)]
  congr 1; omega

theorem cellsAt_of {w : World} {x : Addr} : ∀ (vs : List Value) (i : Nat), (∀ j, j < vs.length → w.cell? (x.add (i + j)) = vs[j]?) → CellsAt w x i vs
  | [], _, _ => trivial
  | v :: vs, i, h => ⟨by have := h 0 (by simp); simpa using this, cellsAt_of vs (i + 1) fun j hj => by
      have := h (j + 1) (by simp; omega)
      rw [show i + (j + 1) = i + 1 + j by omega] at this
      simpa using this⟩

theorem args_rd {w : World} {a : Option Addr} {len cap : Nat} {zs : List Int} (h : IsInts .u8 w a len cap zs) : RdB w (a, len, cap) ((zs.take len).map toByte) ∧ len ≤ cap := by
  rcases h with ⟨rfl, rfl, rfl, rfl⟩ | ⟨x, rfl, hl, hc, hz, hcell, hw⟩
  · exact ⟨⟨rfl, fun _ => ⟨rfl, rfl, rfl⟩, fun a ha => by cases ha⟩, Nat.le_refl _⟩
  · refine ⟨⟨by simp; omega, (fun t => nomatch t), fun b hb => ?_⟩, hl⟩
    injection hb with hb; subst hb
    refine cellsAt_of _ 0 fun j hj => ?_
    simp at hj
    rw [Nat.zero_add, hcell j (by omega), List.getElem?_map, List.getElem?_map, List.getElem?_take_of_lt (by omega), List.getD_eq_getElem?_getD, List.getElem?_eq_getElem (by omega)]
    simp only [Option.map_some, Option.getD_some]
    rw [toByte_bc (hw _ (List.getElem_mem _))]

theorem none_b (w : World) : IsB w (none, 0, 0) [] := .inl ⟨rfl, rfl⟩

theorem copy_spec {w : World} {v : Sl} {bs : List UInt8} (h : RdB w v bs) (hl : bs.length ≤ 100000000) :
    Ret Try.prog 44 #[.slice v.1 v.2.1 v.2.2] w fun r w' => ∃ u : Sl, r = .slice u.1 u.2.1 u.2.2 ∧ IsB w' u bs ∧ Fr none1 w w' ∧ ∀ k, blkOf u k → w.heap.size ≤ k := by
  refine c44 v.1 v.2.1 v.2.2 w _ ?_
  obtain ⟨u, w2, hr2, hu, f2, hf2⟩ := append_bytes (xs := []) (none_b w) h (by simp; omega)
  refine ⟨u, w2, hr2, u, rfl, hu, f2.mono (fun k _ ⟨a, ha, _⟩ => by cases ha), fun k hk => ?_⟩
  rcases hf2 k hk with ⟨a, ha, _⟩ | t
  · cases ha
  · exact t

theorem cut_spec {w : World} {v : Sl} {bs : List UInt8} (h : RdB w v bs) (hc : v.2.1 ≤ v.2.2) {n : Int} (hn : 0 ≤ n) (hl : n ≤ 100000000) :
    Ret Try.prog 40 #[.slice v.1 v.2.1 v.2.2, .int .i64 n] w fun r w' => ∃ u : Sl, r = .slice u.1 u.2.1 u.2.2 ∧ IsB w' u (bs.take n.toNat) ∧ Fr none1 w w' ∧ ∀ k, blkOf u k → w.heap.size ≤ k := by
  refine c40 v.1 v.2.1 v.2.2 n w _ ?_
  have hvl := h.len
  obtain ⟨m, hm, hmt, hm0, hm1⟩ : ∃ m : Int, m = (if n < (v.2.1 : Int) then n else (v.2.1 : Int)) ∧ bs.take m.toNat = bs.take n.toNat ∧ 0 ≤ m ∧ m ≤ v.2.1 := by
    refine ⟨_, rfl, ?_, ?_, ?_⟩ <;> split
    · rfl
    · rw [List.take_of_length_le (by omega), List.take_of_length_le (by omega)]
    all_goals omega
  unfold C40
  rw [← hm]
  refine RdB.sub h hm0 hm1 hc fun hu => ?_
  rw [hmt] at hu
  refine CallK.of (copy_spec (v := (v.1, m.toNat, v.2.2)) hu (by simp only [List.length_take]; omega)) ?_
  rintro _ w3 ⟨u, rfl, hu, f3, hf3⟩
  exact ⟨u, rfl, u, rfl, hu, f3, hf3⟩

theorem RdB.at {w : World} {v : Sl} {bs : List UInt8} (h : RdB w v bs) {K : Int → Prop} {i : Int} (h0 : 0 ≤ i) (h1 : i < v.2.1) (k : K ((bs.getD i.toNat 0).toNat : Int)) : IdxK v.1 v.2.1 i 1 fun p => LdK (.int .u8) p w K := by
  have hl := h.len
  refine RdSl.ld h h0 h1 (x := ((bs.getD i.toNat 0).toNat : Int)) ?_ k
  rw [List.getElem?_map, List.getElem?_eq_getElem (by omega), List.getD_eq_getElem?_getD, List.getElem?_eq_getElem (by omega)]
  rfl

theorem same_spec {w : World} {x y : Sl} {xs ys : List UInt8} (hx : RdB w x xs) (hy : RdB w y ys) (hl : xs.length ≤ 100000000) :
    Ret Try.prog 45 #[.slice x.1 x.2.1 x.2.2, .slice y.1 y.2.1 y.2.2] w fun r w' => r = .bool (decide (xs = ys)) ∧ Fr none1 w w' := by
  refine c45 x.1 x.2.1 x.2.2 y.1 y.2.1 y.2.2 w _ ?_
  have ex := hx.len
  have ey := hy.len
  refine ifB.ne (fun h => ?_) (fun h => ?_)
  · refine ⟨?_, Fr.refl _ _⟩
    rw [decide_eq_false (fun t => by subst t; omega)]
  refine LoopK.of (fun s w' => 0 ≤ s.1 ∧ s.1 ≤ x.2.1 ∧ Fr none1 w w' ∧ ∀ j : Nat, (j : Int) < s.1 → xs.getD j 0 = ys.getD j 0) (fun s _ => (x.2.1 - s.1).toNat) ⟨by dsimp only; omega, by dsimp only; omega, Fr.refl _ _, fun j hj => by dsimp only at hj; omega⟩ ?_
  rintro _ s w1 ⟨i0, i1, f1, hall⟩
  refine ifB.dec (fun hlt => ?_) (fun hge => ?_)
  · refine DrewK.of fun w2 _ f2 => ?_
    refine RdB.at ((hx.keep0 f1).keep0 f2) i0 hlt ?_
    refine RdB.at ((hy.keep0 f1).keep0 f2) i0 (by omega) ?_
    refine ifB.ne (fun hne => ?_) (fun heq => ?_)
    · refine ⟨?_, f1.trans f2⟩
      rw [decide_eq_false (fun t => by subst t; exact hne rfl)]
    · rw [wI (by omega) (by omega)]
      refine ⟨⟨by dsimp only; omega, by dsimp only; omega, f1.trans f2, fun j hj => ?_⟩, by dsimp only; omega⟩
      dsimp only at hj
      by_cases hji : (j : Int) < s.1
      · exact hall j hji
      · have : s.1.toNat = j := by omega
        rw [this] at heq
        exact UInt8.toNat_inj.1 (by omega)
  · refine ⟨?_, f1⟩
    rw [decide_eq_true]
    refine List.ext_getElem (by omega) fun j h1 h2 => ?_
    have := hall j (by omega)
    rw [List.getD_eq_getElem?_getD, List.getD_eq_getElem?_getD, List.getElem?_eq_getElem h1, List.getElem?_eq_getElem h2] at this
    simpa using this

/-- The bytes of a text literal: the literal and its mark. -/
theorem text_ok {w : World} (bs : List UInt8) (hn : 0 < bs.length) (hl : bs.length ≤ 1000) {K : Sl → World → Prop} (k : ∀ u w', RdB w' u bs → Fr none1 w w' → (∀ k, blkOf u k → w.heap.size ≤ k) → K u w') :
    RunK Try.prog (Instr.buildSlice 53 bs.length (((bs.map bc).zipIdx.map fun (v, i) => (i, v)).toArray)) w (.v (.one .slc)) (fun (y : Option Addr × Nat × Nat) w4 => RunK Try.prog (convert 53 53 (.slice y.1 y.2.1 y.2.2)) w4 (.v (.one .slc)) (fun (u : Option Addr × Nat × Nat) w6 => K u w6)) := by
  obtain ⟨x, w1, hr, hx, hxl, f1, hf⟩ := lit_ok (P := Try.prog) (w := w) elem_byte (bs.map bc) (by intro v hv; obtain ⟨x, _, rfl⟩ := List.mem_map.1 hv; rfl) (by simp; omega)
  rw [List.length_map] at hr hxl
  refine ⟨x, w1, hr, ?_⟩
  have hs : x.1.isSome = true := by
    rcases hx with ⟨rfl, h⟩ | ⟨g, off, cs, h, _⟩
    · simp at hxl; omega
    · rw [h]; rfl
  obtain ⟨w2, hr2, hu, f2⟩ := conv_ok (P := Try.prog) Try.underlying53 Try.underlying5 hx hs
  exact ⟨x, w2, hr2, k x w2 hu (f1.comp f2 fun k hk t => by have := hf k t; omega) hf⟩

theorem wakes17_spec (w : World) : Ret Try.prog 49 #[] w fun r w' => r = .bool true ∧ Fr none1 w w' := by
  refine c49 w _ ?_
  refine CallK.of (fnew_spec 10 w) ?_
  rintro _ w1 ⟨b, rfl, hb, f1, h1⟩
  refine ⟨some ⟨b, 0, none⟩, rfl, ?_⟩
  refine ifB.f rfl ?_
  refine text_ok [97, 98] (by simp) (by simp) fun x w2 hx f2 hxf => ?_
  refine CallK.of (fappend_spec (h1.keep0 f2) hx (fun t => by have := hxf b t; have := h1.lt; omega)) ?_
  rintro _ w3 ⟨rfl, f3, g3, _, h3⟩
  refine ⟨_, rfl, ifB.f rfl ?_⟩
  refine CallK.of (fcrash_spec h3 0 0) ?_
  rintro _ w4 ⟨rfl, f4, g4, _, h4⟩
  refine ⟨(), rfl, ?_⟩
  refine CallK.of (fbytes_spec h4) ?_
  rintro _ w5 ⟨u, rfl, hu, f5, hf5⟩
  refine ⟨u, rfl, ?_⟩
  have hul : u.2.1 = 0 := hu.len
  refine ifB.t (by rw [hul]; rfl) ?_
  have h5 := h4.keep0 f5
  refine text_ok [99] (by simp) (by simp) fun y w6 hy f6 hyf => ?_
  refine CallK.of (fappend_spec (h5.keep0 f6) hy (fun t => by have := hyf b t; have := h5.lt; omega)) ?_
  rintro _ w7 ⟨rfl, f7, g7, _, h7⟩
  refine ⟨_, rfl, ifB.t rfl ?_⟩
  refine CallK.of (fsync_spec h7) ?_
  rintro _ w8 ⟨rfl, f8, g8, _, h8⟩
  refine ⟨_, rfl, ifB.t rfl ?_⟩
  refine CallK.of (fsynced_spec h8) ?_
  rintro _ _ ⟨rfl, rfl⟩
  refine ⟨_, rfl, rfl, ?_⟩
  have o := fun (w : World) (w' : World) (f : Fr (only b) w w') => f
  exact ((((((f1.trans f2).fresh f3 hb).fresh f4 hb).trans f5).trans f6).fresh f7 hb).fresh f8 hb

end Go.Proofs.Ytejhjjafmobmbaa
