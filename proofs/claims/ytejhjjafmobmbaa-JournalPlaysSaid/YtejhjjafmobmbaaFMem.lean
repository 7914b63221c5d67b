/-
  FileMemory: what was appended, and what is told, is the file's own; a clone is another file.
  Conditions: none beyond the statement's own.
-/
import Derived.Test.YtejhjjafmobmbaaFCuts
import Derived.Test.YtejhjjafmobmbaaCFMem
set_option linter.unusedVariables false
namespace Go.Proofs.Ytejhjjafmobmbaa
open Vc

/-- All that a slice of bytes has room for are bytes. -/
def FullB (w : World) (v : Sl) : Prop := v.2.2 ≤ 9223372036854775807 ∧ ∃ cs : List UInt8, IsB w (v.1, v.2.2, v.2.2) cs
theorem FullB.keep {w w' : World} {v : Sl} (h : FullB w v) {S : Nat → Prop} (f : Fr S w w') (hn : ∀ k, blkOf v k → ¬ S k) : FullB w' v := by
  obtain ⟨hl, cs, h⟩ := h
  exact ⟨hl, cs, h.keep f hn⟩

/-- append to a slice without room: in new memory. -/
theorem append_new {w : World} {x y : Sl} {ys : List UInt8} (hx1 : x.2.1 = 0) (hx2 : x.2.2 = 0) (hx : IsB w x []) (hy : RdB w y ys) (hl : ys.length ≤ 100000000) :
    ∃ (v : Sl) (w' : World), (Builtin.append_ #[53, 53] 53 #[.slice x.1 x.2.1 x.2.2, .slice y.1 y.2.1 y.2.2]).run Try.prog w = .ok (.slice v.1 v.2.1 v.2.2) w' ∧ IsB w' v ys ∧ Fr none1 w w' ∧
      (∀ k, blkOf v k → blkOf x k ∨ w.heap.size ≤ k) ∧ FullB w' v := by
  obtain ⟨hu, ⟨i, hi, hs, hz, hby⟩, hc, hpos⟩ := elem_byte
  have hyl := hy.len
  unfold Builtin.append_
  have hsize : ∀ w, (sizeOf 5).run Try.prog w = .ok 1 w := fun w => by rw [sizeof hi, hs]
  have hlen : ∀ w, (Builtin.lenOf (.slice y.1 y.2.1 y.2.2)).run Try.prog w = .ok y.2.1 w := fun w => rfl
  simp only [Sem.run_bind, under hu, Result.andThen_ok, hsize, List.getElem?_toArray, List.getElem?_cons_zero, List.getElem?_cons_succ, Sem.run_pure, Bool.false_eq_true, if_false, hlen]
  by_cases hroom : x.2.1 + y.2.1 ≤ x.2.2
  · rw [if_pos hroom]
    have hy0 : y.2.1 = 0 := by omega
    have hys : ys = [] := by rw [hy0] at hyl; exact List.eq_nil_of_length_eq_zero hyl.symm
    subst hys
    simp only [Bool.not_false, if_true, Sem.run_bind, RdSl.first hy, Result.andThen_ok]
    have hfull : FullB w x := ⟨by omega, [], by
      rcases hx with ⟨rfl, _⟩ | ⟨g, off, cs, h1, h2, h3, h4, h5, h6⟩
      · exact .inl ⟨rfl, rfl⟩
      · exact .inr ⟨g, off, cs, h1, h2, Nat.le_refl _, h4, by simp [hx2], h6⟩⟩
    rcases hxn : x.1 with _ | a
    · refine ⟨x, w, ?_, hx, Fr.refl _ _, fun k hk => .inl hk, hfull⟩
      have : (x.2.1 + y.2.1) = 0 := by omega
      simp [hxn, hx1, hy0, hx2]
    · refine ⟨x, w, ?_, hx, Fr.refl _ _, fun k hk => .inl hk, hfull⟩
      simp only [List.map_nil, Sem.run_bind]
      rw [show (storeCells (a.add (x.2.1 * 1)) (([] : List Value).toArray).toList 0).run Try.prog w = .ok () w from rfl]
      simp only [Result.andThen_ok, Sem.run_pure, hxn, hy0, Nat.add_zero]
  · rw [if_neg hroom]
    have hti : ∀ w, (typeInfo 5).run Try.prog w = .ok i w := fun w => by simp [typeInfo, hi]
    have hcap : Builtin.nextslicecap (x.2.1 + y.2.1) x.2.2 * i.bytes ≤ 2 ^ 48 := by
      rw [hby]
      have := nextcap_le (n := x.2.1 + y.2.1) (c := x.2.2) (by omega)
      omega
    have hn2 : ¬ (((x.2.1 + y.2.1 : Nat) : Int) > IntKind.i64.max ∧ (False ∨ i.bytes = 0)) := by
      rintro ⟨_, h | h⟩
      · exact h
      · omega
    simp only [Sem.run_bind, hti, Result.andThen_ok, Sem.run_ite]
    rw [if_neg hn2, if_neg (show ¬ (Builtin.nextslicecap (x.2.1 + y.2.1) x.2.2 * i.bytes > 2 ^ 48) by omega)]
    simp only [run_choose, Question.forced, Bool.false_eq_true, if_false, Result.andThen_ok, run_askRoom]
    generalize hnc : (Question.appendCap (x.2.1 + y.2.1) x.2.2 5).cut _ = nc
    have hge : x.2.1 + y.2.1 ≤ nc := by rw [← hnc]; simp [Question.cut]
    have hle : nc ≤ 9223372036854775807 := by
      rw [← hnc]
      simp only [Question.cut]
      have := Nat.mod_lt (w.tape w.drawn (Question.appendCap (x.2.1 + y.2.1) x.2.2 5)) (show 2 ^ 63 - (x.2.1 + y.2.1) > 0 by omega)
      omega
    have f1 := drew_fr w
    rw [IsSl.first (hx.keep0 f1)]
    simp only [Result.andThen_ok, Bool.not_false, if_true]
    rw [RdSl.first (hy.keep0 f1)]
    simp only [Result.andThen_ok, zeroof hi hz, newRow, Sem.run_bind, run_newObj, Sem.run_pure]
    have hzc : Builtin.zeroCells (Value.int .u8 0).cells (nc - (x.2.1 + y.2.1)) = ((List.replicate (nc - (x.2.1 + y.2.1)) (0 : UInt8)).map bc).toArray := by
      unfold Builtin.zeroCells
      apply Array.ext
      · simp [Value.cells]
      · intro j h1 h2
        simp [Value.cells, Nat.mod_one, bc]
    have hblk : ∀ (h : Array Obj) (o : Obj), (h.push o)[h.size]? = some o := fun h o => Array.getElem?_push_size ..
    have hcs : (([] : List UInt8).map bc).toArray ++ (ys.map bc).toArray ++ Builtin.zeroCells (Value.int .u8 0).cells (nc - (x.2.1 + y.2.1)) = ((ys ++ List.replicate (nc - (x.2.1 + y.2.1)) (0 : UInt8)).map bc).toArray := by rw [hzc]; simp
    refine ⟨(some ⟨w.heap.size, 0, none⟩, x.2.1 + y.2.1, nc), _, rfl, .inr ⟨w.heap.size, 0, _, rfl, hblk _ _, hge, ?_, by simp; omega, fun j hj => ?_⟩,
      ((f1.trans (push_fr _ _)).mono fun _ _ t => t.elim), fun k ⟨a, ha, hk⟩ => .inr (by injection ha with ha; subst ha; subst hk; exact Nat.le_refl _),
      hle, ys ++ List.replicate (nc - (x.2.1 + y.2.1)) 0, .inr ⟨w.heap.size, 0, _, rfl, hblk _ _, Nat.le_refl _, ?_, by simp; omega, fun j hj => ?_⟩⟩
    · rw [hcs]; simp; omega
    · rw [hcs, Nat.zero_add]
      simp only [List.length_map] at hj
      simp [List.getElem?_append, hj]
    · rw [hcs]; simp; omega
    · rw [hcs, Nat.zero_add]; simp

theorem none_full (w : World) : FullB w (none, 0, 0) := ⟨by dsimp only; omega, [], .inl ⟨rfl, rfl⟩⟩

theorem copy_full {w : World} {v : Sl} {bs : List UInt8} (h : RdB w v bs) (hl : bs.length ≤ 100000000) :
    Ret Try.prog 44 #[.slice v.1 v.2.1 v.2.2] w fun r w' => ∃ u : Sl, r = .slice u.1 u.2.1 u.2.2 ∧ IsB w' u bs ∧ Fr none1 w w' ∧ (∀ k, blkOf u k → w.heap.size ≤ k) ∧ FullB w' u := by
  refine c44 v.1 v.2.1 v.2.2 w _ ?_
  obtain ⟨u, w2, hr2, hu, f2, hf2, hq⟩ := append_new (x := (none, 0, 0)) rfl rfl (none_b w) h hl
  refine ⟨u, w2, hr2, u, rfl, hu, f2, fun k hk => ?_, hq⟩
  rcases hf2 k hk with ⟨a, ha, _⟩ | t
  · cases ha
  · exact t

theorem empty_ok (w : World) : ∃ w', (Instr.buildSlice 53 0 #[]).run Try.prog w = .ok (.slice (some ⟨w.heap.size, 0, none⟩) 0 0) w' ∧ w'.heap[w.heap.size]? = some (.cells #[] 5 (0, 0)) ∧ Fr none1 w w' := by
  obtain ⟨hu, ⟨i, hi, hs, hz, hby⟩, hc, hpos⟩ := elem_byte
  have hsize : ∀ w, (sizeOf 5).run Try.prog w = .ok 1 w := fun w => by rw [sizeof hi, hs]
  unfold Instr.buildSlice
  simp only [Sem.run_bind, under hu, Result.andThen_ok, hsize]
  rw [if_neg (by omega)]
  simp only [Nat.zero_mul, if_true, Sem.run_bind, Sem.run_pure, Result.andThen_ok]
  simp only [Instr.fill, newRow, Sem.run_bind, run_newObj, Result.andThen_ok, Sem.run_pure]
  exact ⟨_, rfl, by simp, push_fr _ _⟩

theorem clone_full {w : World} {v : Sl} {bs : List UInt8} (h : RdB w v bs) (hl : bs.length ≤ 100000000) :
    Ret Try.prog 78 #[.slice v.1 v.2.1 v.2.2] w fun r w' => ∃ u : Sl, r = .slice u.1 u.2.1 u.2.2 ∧ IsB w' u bs ∧ Fr none1 w w' ∧ (∀ k, blkOf u k → w.heap.size ≤ k) ∧ FullB w' u := by
  refine c78 v.1 v.2.1 v.2.2 w _ ?_
  refine ifB.by (fun hn => ?_) (fun hn => ?_)
  · obtain ⟨_, _, he⟩ := h.2.1 (by simpa using hn)
    exact ⟨(none, 0, 0), rfl, .inl ⟨rfl, he⟩, Fr.refl _ _, fun k ⟨a, ha, _⟩ => (by cases ha), none_full w⟩
  · obtain ⟨w1, hr, hb1, f1⟩ := empty_ok w
    refine ⟨(some ⟨w.heap.size, 0, none⟩, 0, 0), w1, hr, ?_⟩
    have hx : IsB w1 (some ⟨w.heap.size, 0, none⟩, 0, 0) [] := .inr ⟨w.heap.size, 0, #[], rfl, hb1, Nat.le_refl _, by simp, by simp, fun i hi => by simp at hi⟩
    obtain ⟨u, w2, hr2, hu, f2, hf2, hq⟩ := append_new rfl rfl hx (h.keep0 f1) hl
    refine ⟨u, w2, hr2, u, rfl, hu, f1.trans f2, fun k hk => ?_, hq⟩
    rcases hf2 k hk with ⟨a, ha, hk⟩ | t
    · injection ha with ha; subst ha; subst hk; exact Nat.le_refl _
    · exact Nat.le_trans f1.size t

theorem fbytes_full {w : World} {b g : Nat} {s : FileS} (h : IsFile w b g s) : Ret Try.prog 46 #[.pointer (some ⟨b, 0, none⟩)] w fun r w' =>
    ∃ u : Sl, r = .slice u.1 u.2.1 u.2.2 ∧ IsB w' u s.b ∧ Fr none1 w w' ∧ (∀ k, blkOf u k → w.heap.size ≤ k) ∧ FullB w' u := by
  obtain ⟨⟨sl, hb, hs, _⟩, _, ok⟩ := h
  refine c46 _ w _ ?_
  refine LdK.fld hb (x := sl) rfl ?_
  refine CallK.of (clone_full hs.rd (by have := ok.len; omega)) ?_
  rintro _ w' ⟨u, rfl, hu, f, hf, hq⟩
  exact ⟨u, rfl, u, rfl, hu, f, hf, hq⟩

theorem spoil_spec {w : World} {v : Sl} (h : FullB w v) : Ret Try.prog 50 #[.slice v.1 v.2.1 v.2.2] w fun r w' => r = .tuple #[] ∧ Fr (blkOf v) w w' := by
  obtain ⟨v1, v2, v3⟩ := v
  obtain ⟨hl, cs, h⟩ := h
  dsimp only at h hl
  refine c50 v1 v2 v3 w _ ?_
  refine RdB.sub (v := (v1, v3, v3)) (n := v3) h.rd (by omega) (by dsimp only; omega) (Nat.le_refl _) fun _ => ?_
  rw [Int.toNat_natCast]
  refine LoopK.of (fun s w' => 0 ≤ s.1 ∧ s.1 ≤ v3 ∧ Fr (blkOf (v1, v3, v3)) w w' ∧ ∃ cs : List UInt8, IsB w' (v1, v3, v3) cs) (fun s _ => (v3 - s.1).toNat) ⟨by dsimp only; omega, by dsimp only; omega, Fr.refl _ _, cs, h⟩ ?_
  rintro _ s w1 ⟨i0, i1, f1, ds, h1⟩
  refine ifB.dec (fun hlt => ?_) (fun hge => ⟨rfl, f1⟩)
  refine RdB.at (v := (v1, v3, v3)) h1.rd i0 hlt ?_
  rw [xorI_val]
  refine IsSl.st (v := (v1, v3, v3)) h1 i0 hlt rfl fun w2 h2 f2 _ => ?_
  rw [wI (by omega) (by omega)]
  exact ⟨⟨by dsimp only; omega, by dsimp only; omega, f1.trans f2, ds.set s.1.toNat (xorI (ds.getD s.1.toNat 0) 119), by unfold IsB; rw [List.map_set]; exact h2⟩, by dsimp only; omega⟩

theorem mem_walk (a : Option Addr) (len cap : Nat) (z : List Int) (a' : Option Addr) (len' cap' : Nat) (z' : List Int) (w : World) (h0 : IsInts .u8 w a len cap z) (h1 : IsInts .u8 w a' len' cap' z') :
    Ret Try.prog 13 #[.slice a len cap, .slice a' len' cap'] w fun r w' => r = .bool true ∧ Fr none1 w w' := by
  refine c13 a len cap a' len' cap' w _ ?_
  unfold C13
  obtain ⟨ra, ca⟩ := args_rd h0
  obtain ⟨rb, cb⟩ := args_rd h1
  generalize (z.take len).map toByte = za at ra
  generalize (z'.take len').map toByte = zb at rb
  refine CallK.of (fnew_spec 1000 w) ?_
  rintro _ w1 ⟨b, rfl, hb, f1, i1⟩
  refine ⟨some ⟨b, 0, none⟩, rfl, ifB.f rfl ?_⟩
  refine CallK.of (cut_spec (v := (a, len, cap)) (ra.keep0 f1) ca (n := 100) (by omega) (by omega)) ?_
  rintro _ w2 ⟨x, rfl, hx, f2, hxf⟩
  refine ⟨x, rfl, ?_⟩
  refine CallK.of (cut_spec (v := (a', len', cap')) ((rb.keep0 f1).keep0 f2) cb (n := 100) (by omega) (by omega)) ?_
  rintro _ w3 ⟨y, rfl, hy, f3, hyf⟩
  refine ⟨y, rfl, ?_⟩
  have hAl : (za.take (100 : Int).toNat).length ≤ 100 := by simp only [List.length_take]; omega
  have hBl : (zb.take (100 : Int).toNat).length ≤ 100 := by simp only [List.length_take]; omega
  generalize za.take (100 : Int).toNat = A at hx hAl
  generalize zb.take (100 : Int).toNat = B at hy hBl
  have hx3 := hx.keep0 f3
  have lt1 := i1.lt
  have s12 := f2.size
  have s23 := f3.size
  have i3 := (i1.keep0 f2).keep0 f3
  have hxb : ∀ k, blkOf x k → w1.heap.size ≤ k ∧ k < w3.heap.size := fun k hk => ⟨hxf k hk, IsSl.lt hx3 hk⟩
  have hyb : ∀ k, blkOf y k → w1.heap.size ≤ k ∧ k < w3.heap.size := fun k hk => ⟨Nat.le_trans s12 (hyf k hk), IsSl.lt hy hk⟩
  refine CallK.of (copy_full hx3.rd (by omega)) ?_
  rintro _ w4 ⟨p, rfl, hp, f4, hpf, hpq⟩
  refine ⟨p, rfl, ?_⟩
  have hpl : ∀ k, blkOf p k → k < w4.heap.size := fun k hk => IsSl.lt hp hk
  have s34 := f4.size
  have hq : (newF 1000).quota = 1000 := rfl
  obtain ⟨a1, a2, a3, a4, a5, a6⟩ := appF_ok (s := newF 1000) (x := A) rfl rfl (by rw [hq]; show _ ≤ (1000 : Int) - ((([] : List UInt8).length : Nat) : Int); simp; omega)
  refine CallK.of (fappend_spec (i3.keep0 f4) hp.rd (fun t => by have := hpf b t; omega)) ?_
  rintro _ w5 ⟨rfl, f5, g5, hg5, i5⟩
  rw [a1]
  refine ⟨_, rfl, ifB.f rfl ?_⟩
  have a2' : (appF (newF 1000) A).1.b = A := a2
  have a4' : (appF (newF 1000) A).1.synced = 0 := a4
  rw [hq] at a3
  generalize (appF (newF 1000) A).1 = s1 at *
  clear a2 a4
  have s45 := f5.size
  have hgp : ∀ k, blkOf p k → k ≠ b ∧ k ≠ g5 := fun k hk => by
    have h1 := hpf k hk
    have h2 := hpl k hk
    rcases hg5 with h | h | h <;> omega
  refine CallK.of (spoil_spec (hpq.keep f5 (fun k hk t => (hgp k hk).1 t))) ?_
  rintro _ w6 ⟨rfl, f6⟩
  refine ⟨(), rfl, ?_⟩
  have s56 := f6.size
  have i6 := i5.keep f6 (fun t => (hgp _ t).1 rfl) (fun t => (hgp _ t).2 rfl)
  have F6 : Fr none1 w w6 := (((((f1.trans f2).trans f3).trans f4).fresh f5 hb).comp f6 fun k hk t => by have := hpf k t; have := f1.size; omega)
  have F36 : Fr (only b) w3 w6 := (f4.of0 f5).comp f6 fun k hk t => by have := hpf k t; omega
  have hx6 := hx3.keep F36 (fun k hk t => by have := hxb k hk; have : k = b := t; omega)
  have hy6 := hy.keep F36 (fun k hk t => by have := hyb k hk; have : k = b := t; omega)
  refine CallK.of (fbytes_full i6) ?_
  rintro _ w7 ⟨u, rfl, hu, f7, huf, huq⟩
  refine ⟨u, rfl, ?_⟩
  refine CallK.of (spoil_spec huq) ?_
  rintro _ w8 ⟨rfl, f8⟩
  refine ⟨(), rfl, ?_⟩
  have F68 : Fr none1 w6 w8 := f7.comp f8 fun k hk t => by have := huf k t; omega
  have i8 := i6.keep0 F68
  have s68 := F68.size
  have lt8 := i8.lt
  have gl8 := i8.glt
  have hx8 := hx6.keep0 F68
  have hy8 := hy6.keep0 F68
  refine CallK.of (fclone_spec i8) ?_
  rintro _ w9 ⟨c, gc, rfl, f9, hc, hgc, j9⟩
  refine ⟨some ⟨c, 0, none⟩, rfl, ifB.f rfl ?_⟩
  have hxc : ∀ k, blkOf x k → k ≠ c := fun k hk => by have := hxb k hk; omega
  have hyc : ∀ k, blkOf y k → k ≠ c := fun k hk => by have := hyb k hk; omega
  have i9 := i8.keep0 f9
  have hx9 := hx8.keep0 f9
  have hy9 := hy8.keep0 f9
  have F9 : Fr none1 w w9 := (F6.trans F68).trans f9
  obtain ⟨c1, c2, c3, c4, c5, c6⟩ := appF_ok (s := s1) (x := B) a5 a6 (by rw [a3, a2']; omega)
  refine CallK.of (fappend_spec j9 hy9.rd (fun t => hyc c t rfl)) ?_
  rintro _ w10 ⟨rfl, f10, g10, _, j10⟩
  rw [c1]
  refine ⟨_, rfl, ifB.f rfl ?_⟩
  rw [a2'] at c2
  generalize (appF s1 B).1 = s2 at *
  obtain ⟨d1, d2, d3, d4, d5, d6⟩ := syncF_ok c5 c6
  refine CallK.of (fsync_spec j10) ?_
  rintro _ w11 ⟨rfl, f11, g11, _, j11⟩
  rw [d1]
  refine ⟨_, rfl, ifB.f rfl ?_⟩
  rw [c2] at d2
  generalize (syncF s2).1 = s3 at *
  refine CallK.of (ffuse_spec j11 0) ?_
  rintro _ w12 ⟨rfl, f12, g12, _, j12⟩
  refine ⟨(), rfl, ?_⟩
  have e1 : (fuseF s3 0).b = A ++ B := d2
  have e2 : (fuseF s3 0).dead = false := d6
  have e3 : (syncF (fuseF s3 0)).2 = 11 ∧ (syncF (fuseF s3 0)).1.b = A ++ B ∧ (syncF (fuseF s3 0)).1.dead = true := by
    unfold syncF
    rw [e2]
    exact ⟨rfl, e1, rfl⟩
  refine CallK.of (fsync_spec j12) ?_
  rintro _ w13 ⟨rfl, f13, g13, _, j13⟩
  rw [e3.1]
  refine ⟨_, rfl, ifB.f rfl ?_⟩
  obtain ⟨_, e4, e5⟩ := e3
  generalize (syncF (fuseF s3 0)).1 = s5 at *
  have F913 : Fr (only c) w9 w13 := ((f10.trans f11).trans f12).trans f13
  have F13 : Fr none1 w w13 := F9.fresh F913 (by have := F6.size; omega)
  have i13 := i9.keep F913 (fun t => by have : b = c := t; omega) (fun t => by have : g5 = c := t; omega)
  have hx13 := hx9.keep F913 (fun k hk t => hxc k hk t)
  have hy13 := hy9.keep F913 (fun k hk t => hyc k hk t)
  refine CallK.of (fdead_spec j13) ?_
  rintro _ _ ⟨rfl, rfl⟩
  rw [e5]
  refine ⟨_, rfl, ifB.f rfl ?_⟩
  refine CallK.of (fdead_spec i13) ?_
  rintro _ _ ⟨rfl, rfl⟩
  rw [a6]
  refine ⟨_, rfl, ifB.f rfl ?_⟩
  refine CallK.of (fsynced_spec i13) ?_
  rintro _ _ ⟨rfl, rfl⟩
  rw [a4']
  refine ⟨_, rfl, ifB.f rfl ?_⟩
  refine CallK.of (fbytes_spec i13) ?_
  rintro _ w14 ⟨q, rfl, hqq, f14, _⟩
  rw [a2'] at hqq
  refine ⟨q, rfl, ?_⟩
  refine CallK.of (same_spec hqq.rd (hx13.keep0 f14).rd (by omega)) ?_
  rintro _ w15 ⟨rfl, f15⟩
  refine ⟨_, rfl, ifB.t (by simp) ?_⟩
  refine CallK.of (fbytes_spec ((j13.keep0 f14).keep0 f15)) ?_
  rintro _ w16 ⟨q2, rfl, hq2, f16, _⟩
  rw [e4] at hq2
  refine ⟨q2, rfl, ?_⟩
  have F16 : Fr none1 w13 w16 := (f14.trans f15).trans f16
  refine CallK.of (copy_spec (hx13.keep0 F16).rd (by omega)) ?_
  rintro _ w17 ⟨q3, rfl, hq3, f17, hq3f⟩
  refine ⟨q3, rfl, ?_⟩
  obtain ⟨v, w18, hr, hv, f18, _⟩ := append_bytes hq3 ((hy13.keep0 F16).keep0 f17).rd (by omega)
  have f18' : Fr none1 w16 w18 := f17.comp f18 fun k hk t => by have := hq3f k t; omega
  refine ⟨v, w18, hr, ?_⟩
  refine CallK.of (same_spec (hq2.keep0 f18').rd hv.rd (by simp; omega)) ?_
  rintro _ w19 ⟨rfl, f19⟩
  refine ⟨_, rfl, ifB.t (by simp) ?_⟩
  refine CallK.of (wakes17_spec w19) ?_
  rintro _ w20 ⟨rfl, f20⟩
  exact ⟨_, rfl, rfl, (((F13.trans F16).trans f18').trans f19).trans f20⟩

end Go.Proofs.Ytejhjjafmobmbaa
