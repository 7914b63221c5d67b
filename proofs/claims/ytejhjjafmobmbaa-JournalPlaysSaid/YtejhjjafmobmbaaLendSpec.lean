/-
  Bytes that are lent with room behind them; whether they are as they were.
  Conditions: the bytes are within the form's reach.
-/
import Derived.Test.YtejhjjafmobmbaaRefSpec
import Derived.Test.YtejhjjafmobmbaaCLend
set_option linter.unusedVariables false
namespace Go.Proofs.Ytejhjjafmobmbaa
open Vc

/-- make of bytes, with room: all of it zeros. -/
theorem make_full {w : World} {n m : Int} (h0 : 0 ≤ n) (h1 : n ≤ m) (hb : m ≤ 281474976710656) :
    ∃ w', (Instr.makeSlice 53 (.int .i64 n) (.int .i64 m)).run Try.prog w = .ok (.slice (some ⟨w.heap.size, 0, none⟩) n.toNat m.toNat) w' ∧ IsB w' (some ⟨w.heap.size, 0, none⟩, m.toNat, m.toNat) (List.replicate m.toNat 0) ∧ Fr none1 w w' := by
  obtain ⟨hu, ⟨i, hi, hs, hz, hby⟩, hc, hpos⟩ := elem_byte
  have hti : ∀ w, (typeInfo 5).run Try.prog w = .ok i w := fun w => by simp [typeInfo, hi]
  have hsize : ∀ w, (sizeOf 5).run Try.prog w = .ok 1 w := fun w => by rw [sizeof hi, hs]
  have ha : ∀ (k : IntKind) (n : Int) w, (asInt (.int k n)).run Try.prog w = .ok n w := fun _ _ _ => rfl
  unfold Instr.makeSlice
  simp only [Sem.run_bind, under hu, Result.andThen_ok, ha, hti, wI (x := n) (by omega) (by omega), wI (x := m) (by omega) (by omega)]
  have hbm : ¬ ((i.bytes : Int) * m > 2 ^ 48) := by rw [hby]; omega
  rw [if_neg (by simp; omega)]
  have hcells : ∀ zc : Array Value, (m.toNat * 1 ≠ 0 → zc = #[.int .u8 0]) → (Array.range (m.toNat * 1)).map (zc[· % zc.size]!) = Array.replicate m.toNat (.int .u8 0) := fun zc hzc => by
    by_cases h : m.toNat * 1 = 0
    · have : m.toNat = 0 := by omega
      rw [this]; simp
    · rw [hzc h]
      apply Array.ext
      · simp
      · intro j h1 h2
        have : j % 1 = 0 := Nat.mod_one _
        simp [this]
  have fin : ∀ cs : Array Value, cs = Array.replicate m.toNat (.int .u8 0) →
      ∃ w', (do pure (Value.slice (some (← newRow 5 cs)) n.toNat m.toNat) : Sem Value).run Try.prog w = .ok (.slice (some ⟨w.heap.size, 0, none⟩) n.toNat m.toNat) w' ∧ IsB w' (some ⟨w.heap.size, 0, none⟩, m.toNat, m.toNat) (List.replicate m.toNat 0) ∧ Fr none1 w w' := fun cs hcs => by
    subst hcs
    simp only [newRow, Sem.run_bind, run_newObj, Result.andThen_ok, Sem.run_pure]
    refine ⟨_, rfl, .inr ⟨w.heap.size, 0, _, rfl, Array.getElem?_push_size .., Nat.le_refl _, by simp, by simp, fun j hj => ?_⟩, push_fr _ _⟩
    simp at hj
    rw [List.map_replicate, Array.getElem?_replicate, List.getElem?_replicate, if_pos (show 0 + j < m.toNat by omega), if_pos (show j < m.toNat by omega)]
    rfl
  by_cases h : m.toNat * 1 = 0
  · simp only [Sem.run_bind, run_askRoom, Result.andThen_ok, hsize, if_pos h, Sem.run_pure]
    exact fin _ (hcells #[] (fun hh => absurd h hh))
  · simp only [Sem.run_bind, run_askRoom, Result.andThen_ok, hsize, if_neg h, zeroof hi hz, Sem.run_pure]
    exact fin _ (hcells _ (fun _ => rfl))

theorem setCells_above {g : Nat} {T : TypeId} : ∀ (vs : List Value) (w : World) (cs cs' : Array Value) (off i : Nat), w.heap[g]? = some (.cells cs T (0, 0)) → (setCells w ⟨g, off, none⟩ i vs).heap[g]? = some (.cells cs' T (0, 0)) → ∀ j, off + i + vs.length ≤ j → cs'[j]? = cs[j]?
  | [], w, cs, cs', off, i, hb, hb', j, _ => by
    have : some (Obj.cells cs T (0, 0)) = some (.cells cs' T (0, 0)) := by rw [← hb, ← hb']; rfl
    injection this with this
    injection this with this
    rw [this]
  | v :: vs, w, cs, cs', off, i, hb, hb', j, hj => by
    simp only [List.length_cons] at hj
    unfold setCells at hb'
    rw [addr_add] at hb'
    have hs := Vc.heap_setCell_same (i := off + i) (v := v) hb
    have := setCells_above vs _ _ cs' off (i + 1) hs hb' j (by omega)
    rw [this, Array.getElem?_setIfInBounds_ne (by omega)]

/-- copy into the beginning of what there is room for. -/
theorem copy_ok {w : World} {g n m : Nat} {y : Sl} {fs ys : List UInt8} (hx : IsB w (some ⟨g, 0, none⟩, m, m) fs) (hy : RdB w y ys) (hn : y.2.1 = n) (hnm : n ≤ m) (o : TypeId) :
    ∃ (r : Int) (w' : World), (Builtin.copy_ #[53, 53] o #[.slice (some ⟨g, 0, none⟩) n m, .slice y.1 y.2.1 y.2.2]).run Try.prog w = .ok (.int .i64 r) w' ∧ IsB w' (some ⟨g, 0, none⟩, m, m) (ys ++ fs.drop n) ∧ Fr (only g) w w' := by
  obtain ⟨hu, ⟨i, hi, hs, hz, hby⟩, hc, hpos⟩ := elem_byte
  have hsize : ∀ w, (sizeOf 5).run Try.prog w = .ok 1 w := fun w => by rw [sizeof hi, hs]
  have hlen : ∀ w, (Builtin.lenOf (.slice y.1 y.2.1 y.2.2)).run Try.prog w = .ok y.2.1 w := fun w => rfl
  have hyl := hy.len
  have hfl := hx.len
  dsimp only at hfl
  unfold Builtin.copy_
  simp only [Sem.run_bind, under hu, Result.andThen_ok, hsize, List.getElem?_toArray, List.getElem?_cons_zero, List.getElem?_cons_succ, Sem.run_pure, hlen]
  have hmin : Nat.min y.2.1 n = y.2.1 := by rw [hn]; exact Nat.min_self n
  rw [hmin]
  simp only [RdSl.first hy, Result.andThen_ok]
  rcases hx with ⟨e, _⟩ | ⟨g', off, cs, h1, h2, h3, h4, h5, h6⟩
  · cases e
  · injection h1 with h1
    injection h1 with e1 e2
    subst e1; subst e2
    dsimp only at h4 h5
    obtain ⟨hw, cs', a1, a2, a3, a4, a5, a6⟩ := writes_blk (ys.map bc) w cs 0 0 h2 (by simp; omega) (bc_one ys)
    rw [show (storeCells ⟨g, 0, none⟩ ((ys.map bc).toArray).toList 0).run Try.prog w = .ok () _ from storeCells_ok (ys.map bc) 0 w hw]
    refine ⟨_, _, rfl, .inr ⟨g, 0, cs', rfl, a1, Nat.le_refl _, by rw [a2]; exact h4, by simp; omega, fun j hj => ?_⟩, a5⟩
    have habove := setCells_above (ys.map bc) w cs cs' 0 0 h2 a1
    simp only [List.length_map, List.length_append, List.length_drop] at hj habove
    rw [List.map_append]
    by_cases hjy : j < ys.length
    · have := a3 j (by simpa using hjy)
      rw [show 0 + 0 + j = 0 + j by omega] at this
      rw [this, List.getElem?_append_left (by simpa using hjy)]
    · have q1 := habove (0 + j) (by omega)
      have q2 := h6 j (by rw [List.length_map]; omega)
      rw [q1, q2, List.getElem?_append_right (by rw [List.length_map]; omega), List.length_map, List.map_drop, List.getElem?_drop]
      have : n + (j - ys.length) = j := by omega
      rw [this]

def lendL (bs : List UInt8) : List UInt8 := bs ++ [85, 85, 85]

/-- Lend: the bytes, and three of its own behind them. -/
theorem lend_spec {w : World} {v : Sl} {bs : List UInt8} (h : RdB w v bs) (hl : bs.length ≤ 140737488351232) : Ret Try.prog 55 #[.slice v.1 v.2.1 v.2.2] w fun r w' =>
    ∃ g : Nat, r = .slice (some ⟨g, 0, none⟩) bs.length (bs.length + 3) ∧ w.heap.size ≤ g ∧ IsB w' (some ⟨g, 0, none⟩, bs.length + 3, bs.length + 3) (lendL bs) ∧ Fr none1 w w' := by
  have hvl := h.len
  refine c55 v.1 v.2.1 v.2.2 w _ ?_
  unfold C55
  rw [wI (x := (v.2.1 : Int) + 3) (by omega) (by omega)]
  obtain ⟨w1, hr1, hx1, f1⟩ := make_full (w := w) (n := (v.2.1 : Int)) (m := (v.2.1 : Int) + 3) (by omega) (by omega) (by omega)
  rw [show ((v.2.1 : Int)).toNat = bs.length by omega, show ((v.2.1 : Int) + 3).toNat = bs.length + 3 by omega] at hr1
  rw [show ((v.2.1 : Int) + 3).toNat = bs.length + 3 by omega] at hx1
  obtain ⟨g, hg⟩ : ∃ g, w.heap.size = g := ⟨_, rfl⟩
  rw [hg] at hr1 hx1
  refine ⟨(some ⟨g, 0, none⟩, bs.length, bs.length + 3), w1, hr1, ?_⟩
  obtain ⟨r, w2, hr2, hx2, f2⟩ := copy_ok hx1 (h.keep0 f1) hvl (by omega) 3
  refine ⟨r, w2, hr2, ?_⟩
  have f12 : Fr none1 w w2 := f1.fresh f2 (by omega)
  have hll : (lendL bs).length = bs.length + 3 := by simp [lendL]
  have hl3 : ∀ j, bs.length ≤ j → j < bs.length + 3 → (lendL bs).getD j 0 = 85 := fun j h1 h2 => by
    unfold lendL
    rw [List.getD_eq_getElem?_getD, List.getElem?_append_right h1]
    have : j - bs.length = 0 ∨ j - bs.length = 1 ∨ j - bs.length = 2 := by omega
    rcases this with t | t | t <;> rw [t] <;> rfl
  have hlo : ∀ j, j < bs.length → (lendL bs).getD j 0 = bs.getD j 0 := fun j h1 => getD_l _ _ _ h1
  have hx2l := hx2.len
  refine RdB.sub (v := (some ⟨g, 0, none⟩, bs.length + 3, bs.length + 3)) (n := (v.2.1 : Int) + 3) hx2.rd (by omega) (by dsimp only; omega) (Nat.le_refl _) fun _ => ?_
  rw [show ((v.2.1 : Int) + 3).toNat = bs.length + 3 by omega]
  refine LoopK.of (fun s w' => (bs.length : Int) ≤ s.1 ∧ s.1 ≤ bs.length + 3 ∧ Fr none1 w w' ∧ ∃ cs : List UInt8, IsB w' (some ⟨g, 0, none⟩, bs.length + 3, bs.length + 3) cs ∧ ∀ j : Nat, (j : Int) < s.1 → cs.getD j 0 = (lendL bs).getD j 0) (fun s _ => (bs.length + 3 - s.1).toNat)
    ⟨by dsimp only; omega, by dsimp only; omega, f12, _, hx2, fun j hj => ?_⟩ ?_
  · dsimp only at hj
    rw [getD_l _ _ _ (by omega), hlo j (by omega)]
  rintro _ ⟨i, _⟩ w3 ⟨i0, i1, f3, cs, hc, hall⟩
  dsimp only at i0 i1 hall ⊢
  have hcl := hc.len
  dsimp only at hcl
  refine ifB.dec (fun hlt => ?_) (fun hge => ?_)
  · refine IsSl.st (v := (some ⟨g, 0, none⟩, bs.length + 3, bs.length + 3)) hc (by omega) (by dsimp only; omega) rfl fun w4 hc4 f4 _ => ?_
    rw [wI (x := i + 1) (by omega) (by omega)]
    refine ⟨⟨by omega, by omega, f3.comp f4 (fun k hk ⟨a, ha, e⟩ => by injection ha with ha; subst ha; dsimp only at e; omega), cs.set i.toNat 85, by unfold IsB; rw [List.map_set]; exact hc4, fun j hj => ?_⟩, by omega⟩
    rw [List.getD_eq_getElem?_getD, List.getElem?_set]
    by_cases hji : i.toNat = j
    · rw [if_pos hji, if_pos (by omega), hl3 j (by omega) (by omega)]; rfl
    · rw [if_neg hji, ← List.getD_eq_getElem?_getD]
      exact hall j (by omega)
  · refine ⟨g, rfl, by omega, ?_, f3⟩
    have : cs = lendL bs := by
      refine List.ext_getElem (by omega) fun j h1 h2 => ?_
      have := hall j (by omega)
      rw [List.getD_eq_getElem?_getD, List.getD_eq_getElem?_getD, List.getElem?_eq_getElem h1, List.getElem?_eq_getElem h2] at this
      simpa using this
    rw [← this]; exact hc

theorem intact_spec {w : World} {g : Nat} {v : Sl} {bs : List UInt8} (hx : IsB w (some ⟨g, 0, none⟩, bs.length + 3, bs.length + 3) (lendL bs)) (h : RdB w v bs) (hl : bs.length ≤ 140737488351232) :
    Ret Try.prog 57 #[.slice (some ⟨g, 0, none⟩) bs.length (bs.length + 3), .slice v.1 v.2.1 v.2.2] w fun r w' => r = .bool true ∧ Fr none1 w w' := by
  have hvl := h.len
  refine c57 _ _ _ v.1 v.2.1 v.2.2 w _ ?_
  unfold C57
  rw [wI (x := (v.2.1 : Int) + 3) (by omega) (by omega)]
  refine ifB.f (by rw [hvl]; simp) (ifB.f (by rw [hvl]; simp) ?_)
  refine RdB.sub (v := (some ⟨g, 0, none⟩, bs.length + 3, bs.length + 3)) (n := (v.2.1 : Int) + 3) hx.rd (by omega) (by dsimp only; omega) (Nat.le_refl _) fun _ => ?_
  rw [show ((v.2.1 : Int) + 3).toNat = bs.length + 3 by omega]
  have hl3 : ∀ j, bs.length ≤ j → j < bs.length + 3 → (lendL bs).getD j 0 = 85 := fun j h1 h2 => by
    unfold lendL
    rw [List.getD_eq_getElem?_getD, List.getElem?_append_right h1]
    have : j - bs.length = 0 ∨ j - bs.length = 1 ∨ j - bs.length = 2 := by omega
    rcases this with t | t | t <;> rw [t] <;> rfl
  refine LoopK.of (fun s w' => 0 ≤ s.1 ∧ s.1 ≤ bs.length + 3 ∧ Fr none1 w w') (fun s _ => (bs.length + 3 - s.1).toNat) ⟨by dsimp only; omega, by dsimp only; omega, Fr.refl _ _⟩ ?_
  rintro _ ⟨i, _⟩ w1 ⟨i0, i1, f1⟩
  dsimp only at i0 i1 ⊢
  refine ifB.dec (fun hlt => ?_) (fun _ => ⟨rfl, f1⟩)
  refine DrewK.of fun w2 _ f2 => ?_
  have hx2 := (hx.keep0 f1).keep0 f2
  have h2 := (h.keep0 f1).keep0 f2
  rw [wI (x := i + 1) (by omega) (by omega)]
  have next : (0 ≤ i + 1 ∧ i + 1 ≤ bs.length + 3 ∧ Fr none1 w w2) ∧ (bs.length + 3 - (i + 1)).toNat < (bs.length + 3 - i).toNat := ⟨⟨by omega, by omega, f1.trans f2⟩, by omega⟩
  refine ifB.dec (fun h3 => ?_) (fun h3 => ?_)
  · refine RdB.at (v := (some ⟨g, 0, none⟩, bs.length + 3, bs.length + 3)) hx2.rd i0 hlt ?_
    refine RdB.at h2 i0 h3 ?_
    refine ifB.f (by unfold lendL; rw [getD_l _ _ _ (by omega)]; simp) ?_
    exact ifB.no (by omega) next
  · refine ifB.yes (by omega) ?_
    refine RdB.at (v := (some ⟨g, 0, none⟩, bs.length + 3, bs.length + 3)) hx2.rd i0 hlt ?_
    rw [hl3 i.toNat (by omega) (by omega)]
    exact ifB.f rfl next

/-! ### The file and the document's file -/
structure Sim (s t : FileS) : Prop where
  b : s.b = t.b
  quota : s.quota = t.quota
  synced : s.synced = t.synced
  lit : s.lit = t.lit
  dead : s.dead = t.dead
  fuse : s.lit = true → s.fuse = t.fuse

theorem Sim.step {s t : FileS} (h : Sim s t) : (stepF s).2 = (stepF t).2 ∧ Sim (stepF s).1 (stepF t).1 := by
  obtain ⟨h1, h2, h3, h4, h5, h6⟩ := h
  have hc : (s.lit && s.fuse == 0) = (t.lit && t.fuse == 0) := by
    rw [← h4]
    cases hl : s.lit with
    | false => rfl
    | true => rw [h6 hl]
  unfold stepF
  rw [hc]
  split
  · exact ⟨rfl, h1, h2, h3, h4, rfl, h6⟩
  · exact ⟨rfl, h1, h2, h3, h4, h5, fun hl => by dsimp only at hl ⊢; rw [h6 hl]⟩

theorem Sim.app {s t : FileS} (h : Sim s t) (x : List UInt8) : (appF s x).2 = (appF t x).2 ∧ Sim (appF s x).1 (appF t x).1 := by
  obtain ⟨q1, q2⟩ := h.step
  unfold appF
  rw [h.dead, h.quota, h.b, q1]
  split
  · exact ⟨rfl, h⟩
  split
  · exact ⟨rfl, h⟩
  split
  · exact ⟨rfl, rfl, q2.quota, q2.synced, q2.lit, q2.dead, q2.fuse⟩
  · exact ⟨rfl, q2⟩
theorem Sim.sync {s t : FileS} (h : Sim s t) : (syncF s).2 = (syncF t).2 ∧ Sim (syncF s).1 (syncF t).1 := by
  obtain ⟨q1, q2⟩ := h.step
  unfold syncF
  rw [h.dead, h.b, q1]
  split
  · exact ⟨rfl, h⟩
  split
  · exact ⟨rfl, q2.b, q2.quota, rfl, q2.lit, q2.dead, q2.fuse⟩
  · exact ⟨rfl, q2⟩
theorem Sim.cut {s t : FileS} (h : Sim s t) (n : Int) : (cutF s n).2 = (cutF t n).2 ∧ Sim (cutF s n).1 (cutF t n).1 := by
  obtain ⟨q1, q2⟩ := h.step
  unfold cutF
  rw [h.dead, h.b, q1]
  split
  · exact ⟨rfl, h⟩
  split
  · exact ⟨rfl, h⟩
  split
  · exact ⟨rfl, h⟩
  split
  · exact ⟨rfl, rfl, q2.quota, rfl, q2.lit, q2.dead, q2.fuse⟩
  · exact ⟨rfl, q2⟩
theorem Sim.fuse' {s t : FileS} (h : Sim s t) (n : Int) : Sim (fuseF s n) (fuseF t n) := ⟨h.b, h.quota, h.synced, rfl, h.dead, fun _ => rfl⟩
theorem Sim.crash {s t : FileS} (h : Sim s t) (n p : Int) : Sim (crashF s n p) (crashR t n p) := by
  have hk : crashK s n = crashK t n := by unfold crashK; rw [h.b, h.synced]
  refine ⟨?_, h.quota, hk, rfl, rfl, fun t => by cases t⟩
  show crashB s (crashK s n) p = crashB t (crashK t n) p
  rw [hk]; unfold crashB; rw [h.b, h.synced]

/-- A file and the document's, in blocks of their own. -/
structure Pair (w : World) (b c : Nat) (s t : FileS) : Prop where
  out : ∃ g h, IsFile w b g s ∧ IsRef w c h t ∧ b ≠ c ∧ b ≠ h ∧ g ≠ c ∧ g ≠ h
  sim : Sim s t

def SameC (W0 W1 : World) : (Nat → Bool) → World → Prop := fun D w => (D 4 = false → w = W0) ∧ (D 4 = true → Fr none1 W1 w)

theorem fsame_spec {w : World} {b c : Nat} {s t : FileS} (h : Pair w b c s t) : Ret Try.prog 63 #[.pointer (some ⟨b, 0, none⟩), .pointer (some ⟨c, 0, none⟩)] w fun r w' => r = .bool true ∧ Fr none1 w w' := by
  obtain ⟨⟨g, hh, hf, hr, _⟩, sim⟩ := h
  refine c63 _ _ w _ ?_
  unfold C63
  have r0 := drew_fr w
  generalize hW0 : ({ w with drawn := w.drawn + 1 } : World) = W0 at r0
  obtain ⟨u, W1, hb1, hu, f1, _⟩ := fbytes_is (hf.keep0 r0)
  have hf1 := (hf.keep0 r0).keep0 f1
  have hr0 := hr.keep0 r0
  have hr1 := hr0.keep0 f1
  obtain ⟨⟨sl, hc1, hs1, _⟩, _, okr⟩ := hr1
  have hc0 := hc1
  rw [f1.block c hr0.lt (fun t => t)] at hc0
  refine ⟨⟨SameC W0 W1, ⟨fun _ => hW0, (fun t => by cases t)⟩, ?_⟩⟩
  refine ifB.t rfl ?_
  have still : ∀ (D : Nat → Bool) (w9 : World) (i : Nat), i ≠ 4 → SameC W0 W1 D w9 → SameC W0 W1 (upd D i) w9 := fun D w9 i hi hC => ⟨fun t => by rw [upd_ne' _ (Ne.symm hi)] at t; exact hC.1 t, fun t => by rw [upd_ne' _ (Ne.symm hi)] at t; exact hC.2 t⟩
  refine ⟨u, fun D w9 hD _ hC => ?_, ?_⟩
  · obtain rfl := hC.1 hD
    refine CallK.of hb1 ?_
    rintro _ _ ⟨rfl, rfl⟩
    exact ⟨u, rfl, rfl, (fun t => by rw [upd_self'] at t; cases t), fun _ => Fr.refl _ _⟩
  have at1 : ∀ (D : Nat → Bool) (w9 : World), SameC W0 W1 D w9 → w9.heap[c]? = some (.cells #[.slice sl.1 sl.2.1 sl.2.2, .int .i64 t.synced, .int .i64 t.quota, .bool t.dead, .bool t.lit, .int .i64 t.fuse] 75 (0, 0)) := fun D w9 hC => by
    cases h4 : D 4 with
    | false => rw [hC.1 h4]; exact hc0
    | true => exact (hC.2 h4).keep0 hc1
  refine ⟨sl, fun D w9 hD _ hC => LdK.fld (at1 D w9 hC) (x := sl) rfl ⟨rfl, still D w9 8 (by decide) hC⟩, ?_⟩
  refine ⟨true, fun D w9 hD hp hC => ?_, ?_⟩
  · have F := hC.2 (hp 4 (by simp))
    refine CallK.of (same_spec (hu.keep0 F).rd (hs1.keep0 F).rd (by have := hf.ok.len; omega)) ?_
    rintro _ w10 ⟨rfl, f10⟩
    refine ⟨true, by rw [decide_eq_true sim.b]; rfl, rfl, fun t => ?_, fun _ => F.trans f10⟩
    rw [upd_ne' _ (by decide), hp 4 (by simp)] at t; cases t
  refine ifB.t rfl ?_
  refine ⟨s.synced, fun D w9 hD hp hC => ?_, ?_⟩
  · refine CallK.of (fsynced_spec (hf1.keep0 (hC.2 (hp 4 (by simp))))) ?_
    rintro _ _ ⟨rfl, rfl⟩
    exact ⟨_, rfl, rfl, still D w9 13 (by decide) hC⟩
  refine ⟨t.synced, fun D w9 hD _ hC => LdK.fld (at1 D w9 hC) rfl ⟨rfl, still D w9 17 (by decide) hC⟩, ?_⟩
  refine ifB.t (by rw [sim.synced]; simp) ?_
  refine ⟨s.dead, fun D w9 hD hp hC => ?_, ?_⟩
  · refine CallK.of (fdead_spec (hf1.keep0 (hC.2 (hp 4 (by simp))))) ?_
    rintro _ _ ⟨rfl, rfl⟩
    exact ⟨_, rfl, rfl, still D w9 22 (by decide) hC⟩
  refine ⟨t.dead, fun D w9 hD _ hC => LdK.fld (at1 D w9 hC) rfl ⟨rfl, still D w9 26 (by decide) hC⟩, ?_⟩
  intro w9 hC
  refine ⟨by rw [sim.dead]; simp, (r0.trans f1).trans (hC.2 rfl)⟩

end Go.Proofs.Ytejhjjafmobmbaa
