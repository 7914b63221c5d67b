/-
  JournalSpoilt: where a byte is turned the records end, ahead of it; what stood behind is cut away, and another one may be put.
  Conditions: none beyond the statement's own.
-/
import Derived.Test.YtejhjjafmobmbaaJExact
import Derived.Test.YtejhjjafmobmbaaCJSpoilt
set_option linter.unusedVariables false
namespace Go.Proofs.Ytejhjjafmobmbaa
open Vc

theorem elem_i64 : ElemOk Try.prog 22 3 1 (.int .i64 0) 8 := ⟨Try.underlying22, ⟨Try.t3, by kernel_rfl, rfl, rfl, rfl⟩, rfl, by decide⟩

theorem packs_len : ∀ (l : List (List UInt8)), (∀ r ∈ l, r.length ≤ 40) → (packs l).length ≤ 43 * l.length
  | [], _ => by simp [packs]
  | x :: l, h => by
    have h1 := packs_len l fun r hr => h r (by simp [hr])
    have h2 := h x (by simp)
    show (packL x ++ packs l).length ≤ _
    rw [List.length_append, packL_len, List.length_cons]; omega
theorem packs_take_le (l : List (List UInt8)) (k : Nat) : (packs (l.take k)).length ≤ (packs l).length := by
  conv => rhs; rw [← List.take_append_drop k l, packs_app, List.length_append]
  omega

theorem Vc.IsSl.cap {w : World} {E s : Nat} {v : Sl} {xs : List Value} (h : IsSl w E s v xs) : v.2.1 ≤ v.2.2 := by
  rcases h with ⟨rfl, _⟩ | ⟨g, off, cs, h1, h2, h3, _⟩
  · exact Nat.le_refl _
  · exact h3
theorem Vc.IsSl.sub {w : World} {E : Nat} {v : Sl} {xs : List Value} (h : IsSl w E 1 v xs) {n : Nat} (hn : n ≤ v.2.1) : IsSl w E 1 (v.1, n, v.2.2) (xs.take n) := by
  rcases h with ⟨rfl, rfl⟩ | ⟨g, off, cs, h1, h2, h3, h4, h5, h6⟩
  · dsimp only at hn
    obtain rfl : n = 0 := by omega
    exact .inl ⟨rfl, by simp⟩
  · refine .inr ⟨g, off, cs, h1, h2, by dsimp only; omega, h4, by simp only [List.length_take]; omega, fun i hi => ?_⟩
    simp only [List.length_take] at hi
    rw [h6 i (by omega), List.getElem?_take_of_lt (by omega)]

theorem IsRows.sub {w : World} {S : Nat → Prop} {v : Sl} {rs : List (List UInt8)} (h : IsRows w S v rs) {n : Nat} (hn : n ≤ v.2.1) : IsRows w S (v.1, n, v.2.2) (rs.take n) := by
  have hl := h.len
  obtain ⟨⟨us, a1, a2, a3, a4⟩, o, l⟩ := h
  refine ⟨⟨us.take n, by rw [List.map_take]; exact a1.sub hn, by simp [a2], fun i hi => ?_, fun u hu k hk => a4 u (List.mem_of_mem_take hu) k hk⟩, o, l⟩
  simp only [List.length_take] at hi
  have := a3 i (by omega)
  rw [List.getD_eq_getElem?_getD, List.getD_eq_getElem?_getD] at this ⊢
  rw [List.getElem?_take_of_lt (by omega), List.getElem?_take_of_lt (by omega)]
  exact this
theorem sub_rows {w : World} {S : Nat → Prop} {v : Sl} {rs : List (List UInt8)} (h : IsRows w S v rs) {n : Int} (h0 : 0 ≤ n) (h1 : n ≤ v.2.1) {K : Option Addr → Nat → Nat → Prop} (k : K v.1 n.toNat v.2.2) : SubK v.1 v.2.2 0 n v.2.2 1 K := by
  have hc : v.2.1 ≤ v.2.2 := by obtain ⟨⟨us, a1, _⟩, _⟩ := h; exact a1.cap
  refine ⟨Int.le_refl _, h0, by omega, by omega, ?_⟩
  have e : (if (v.2.2 : Int) = 0 then v.1 else v.1.map (·.add ((0 : Int).toNat * 1))) = v.1 := by
    split
    · rfl
    · cases v.1 with
      | none => rfl
      | some a => simp [Addr.add]
  rw [e, Int.sub_zero, Int.sub_zero, Int.toNat_natCast]
  exact k

/-- The journal, the list of what was put, the list of the ends. -/
structure Sp (w0 w : World) (p b : Nat) (ends all : Sl) (n : Int) : Prop where
  fr : Fr none1 w0 w
  out : ∃ (S : Nat → Prop) (g : Nat) (s : FileS) (Sa : Nat → Prop) (rs : List (List UInt8)) (es : List Int), IsJ w S p b g s false rs ∧ IsRows w Sa all rs ∧ IsSl w 3 1 ends (es.map (Value.int .i64)) ∧ es.length = rs.length ∧
    (∀ i, i < rs.length → es.getD i 0 = ((packs (rs.take (i + 1))).length : Int)) ∧ (rs.length : Int) = n ∧ (∀ r ∈ rs, r.length ≤ 40) ∧ s.b = packs rs ∧ s.lit = false ∧ s.dead = false ∧ s.quota = 4000 ∧ (∀ k, S k → w0.heap.size ≤ k) ∧
    (∀ k, Sa k → w0.heap.size ≤ k ∧ k ≠ p ∧ k ≠ b ∧ k ≠ g ∧ ¬ S k) ∧ (∀ k, blkOf ends k → w0.heap.size ≤ k ∧ k ≠ p ∧ k ≠ b ∧ k ≠ g ∧ ¬ S k ∧ ¬ Sa k)

def Ch3 (W0 W1 W2 W3 : World) : (Nat → Bool) → World → Prop := fun D w =>
  (D 8 = false → w = W0) ∧ (D 8 = true → D 12 = false → w = W1) ∧ (D 12 = true → D 8 = true) ∧ (D 12 = true → D 17 = false → w = W2) ∧ (D 17 = true → D 12 = true ∧ w = W3)

theorem spoilt_walk (a : Option Addr) (len cap : Nat) (z : List (Sl × List Int)) (at0 : Int) (by0 : Int) (w : World) (h0 : IsNest .u8 w a len cap z) (h1 : (Go.Lit.int .i64 at0).wf = true) (h2 : (Go.Lit.int .u8 by0).wf = true) :
    Ret Try.prog 17 #[.slice a len cap, .int .i64 at0, .int .u8 by0] w fun r w' => r = .bool true ∧ Fr none1 w w' := by
  have hlen := h0.len_le
  have hby : 0 ≤ by0 ∧ by0 ≤ 255 := by
    simp [Go.Lit.wf, IntKind.min, IntKind.max, IntKind.signed, IntKind.bits] at h2
    omega
  refine c17 a len cap at0 by0 w _ ?_
  unfold C17
  have done : ∀ w3, Fr none1 w w3 → CallK Try.prog 64 #[] w3 (.v (.one .bool)) (fun (x58 : Bool) w59 => (.bool x58 : Value) = .bool true ∧ Fr none1 w w59) := fun w3 F => by
    refine CallK.of (wakes18_spec w3) ?_
    rintro _ w7 ⟨rfl, f7⟩
    exact ⟨_, rfl, rfl, F.trans f7⟩
  refine CallK.of (fnew_spec 4000 w) ?_
  rintro _ w1 ⟨b, rfl, hb, f1, i1⟩
  refine ⟨some ⟨b, 0, none⟩, rfl, ifB.f rfl ?_⟩
  refine ifB.eq (fun _ => done w1 f1) (fun hby0 => ?_)
  refine CallK.of (open_none i1 rfl rfl) ?_
  rintro _ w2 ⟨p, S, rfl, hp, f2, hS, j2⟩
  refine ⟨(some ⟨p, 0, none⟩, 0, ()), rfl, ifB.f rfl (ifB.f rfl ?_)⟩
  have s01 := f1.size
  have hwp : w.heap.size ≤ p := by omega
  have F0 : Sp w w2 p b (none, 0, 0) (none, 0, 0) 0 := ⟨f1.trans f2, S, b, newF 4000, fun _ => False, [], [], j2, none_rows _ _ fun k t => t.elim, .inl ⟨rfl, rfl⟩, rfl, fun i hi => by simp at hi, rfl, by simp, rfl, rfl, rfl, rfl, fun k hk => Nat.le_trans s01 (hS k hk), fun k t => t.elim, fun k ⟨a, ha, _⟩ => by cases ha⟩
  refine LoopK.of (fun s w' => 0 ≤ s.2.2.1 ∧ s.2.2.1 ≤ 8 ∧ Sp w w' p b s.1 s.2.1 s.2.2.1) (fun s _ => (8 - s.2.2.1).toNat) ⟨Int.le_refl _, by dsimp only; omega, F0⟩ ?_
  rintro _ ⟨ends, all, i, _⟩ w3 ⟨k0, k1, hF⟩
  dsimp only at k0 k1 hF ⊢
  obtain ⟨F3, S3, g3, s, Sa, rs, es, j3, ha3, he3, e1, e2, e3, e4, e5, e6, e7, e8, hS3, hSa, hE⟩ := hF
  have pl3 := j3.plt
  have bl3 := j3.file.lt
  have gl3 := j3.file.glt
  have sl3 := j3.slt
  have al3 := ha3.lt
  have el3 : ∀ k, blkOf ends k → k < w3.heap.size := fun k hk => IsSl.lt he3 hk
  have hpl := packs_len rs e4
  refine JoinK.of (fun t w' => w3 = w' ∧ t.1 = (decide (i < len) && decide (i < 8))) (ifB.dec (fun h => ⟨rfl, by rw [decide_eq_true h, Bool.true_and]⟩) (fun h => ⟨rfl, by rw [decide_eq_false h, Bool.false_and]⟩)) ?_
  rintro _ ⟨t, _⟩ _ ⟨rfl, ht⟩
  dsimp only at ht ⊢
  rw [ht]
  refine ifB.by (fun hin => ?_) (fun hout => ?_)
  · rw [Bool.and_eq_true, decide_eq_true_eq, decide_eq_true_eq] at hin
    refine IsNest.ld h0 F3 k0 hin.1 fun u zs hu => ?_
    obtain ⟨ru, cu⟩ := args_rd hu
    generalize (zs.take u.2.1).map toByte = U at ru
    refine CallK.of (cut_spec (v := (u.1, u.2.1, u.2.2)) (ru.keep0 F3) cu (n := 40) (by omega) (by omega)) ?_
    rintro _ w4 ⟨x, rfl, hx, f4, hxf⟩
    refine ⟨x, rfl, ?_⟩
    have hXl : (U.take (40 : Int).toNat).length ≤ 40 := by simp only [List.length_take]; omega
    generalize U.take (40 : Int).toNat = X at hx hXl
    have j4 := j3.keep0 f4
    have hxl : ∀ k, blkOf x k → k < w4.heap.size := fun k hk => IsSl.lt hx hk
    have hxo : ∀ k, blkOf x k → k < w4.heap.size ∧ k ≠ p ∧ k ≠ b ∧ ¬ S3 k := fun k hk => by
      have := hxf k hk
      exact ⟨hxl k hk, by omega, by omega, fun t => by have := sl3 k t; omega⟩
    obtain ⟨a1, a2, a3, a4, a5, a6, a7, a8⟩ := putJ_ok (s := s) (x := X) e6 e7 (by omega) (by rw [e8, e5]; omega)
    refine CallK.of (put_spec j4 hx.rd hxo (by omega)) ?_
    rw [a1, a2, a3]
    rintro _ w5 ⟨rfl, f5, S5, g5, hS5, hg5, j5⟩
    refine ⟨_, rfl, ifB.f rfl ?_⟩
    have j5 : IsJ w5 S5 p b g5 (putJ s false X).1 false (rs ++ [X]) := j5
    have s34 := f4.size
    have s45 := f5.size
    have gl5 := j5.file.glt
    have sl5 := j5.slt
    have ha5 : IsRows w5 Sa all rs := (ha3.keep0 f4).keep f5 (fun k hk t => by
      obtain ⟨_, q1, q2, _, q3⟩ := hSa k hk
      rcases t with t | t | t
      · exact q1 t
      · exact q2 t
      · exact q3 t)
    have he5 := (he3.keep0 f4).keep f5 (fun k hk t => by
      obtain ⟨_, q1, q2, _, q3, _⟩ := hE k hk
      rcases t with t | t | t
      · exact q1 t
      · exact q2 t
      · exact q3 t)
    have hx5 : RdB w5 x X := hx.rd.keep f5 (fun k hk t => by
      obtain ⟨_, q1, q2, q3⟩ := hxo k hk
      rcases t with t | t | t
      · exact q1 t
      · exact q2 t
      · exact q3 t)
    obtain ⟨y, w6, zz, w7, r1, f6, r2, f7, S', hS', hz⟩ := ha5.snoc hx5 (fun k hk => ⟨by have := hxl k hk; omega, fun t => by have := al3 k t; have := hxf k hk; omega⟩) (by omega)
    refine ⟨y, w6, r1, zz, w7, r2, ?_⟩
    have hSa3 : ∀ k, blkOf all k → Sa k := ha3.own
    have hg5a : ∀ k, Sa k → k ≠ g5 := fun k hk => by
      obtain ⟨_, q1, q2, q3, q4⟩ := hSa k hk
      have := al3 k hk
      rcases hg5 with t | t | t <;> omega
    have hS5a : ∀ k, S5 k → ¬ Sa k := fun k hk t => by
      have := al3 k t
      rcases hS5 k hk with q | q
      · exact (hSa k t).2.2.2.2 q
      · omega
    have j7 : IsJ w7 S5 p b g5 (putJ s false X).1 false (rs ++ [X]) := j5.keep f7 (fun t => (hSa p (hSa3 p t)).2.1 rfl) (fun t => (hSa b (hSa3 b t)).2.2.1 rfl) (fun t => hg5a g5 (hSa3 g5 t) rfl) (fun k hk t => hS5a k hk (hSa3 k t))
    have he7 := he5.keep f7 (fun k hk t => (hE k hk).2.2.2.2.2 (hSa3 k t))
    have s57 := f7.size
    refine CallK.of (fbytes_spec j7.file) ?_
    rintro _ w8 ⟨c, rfl, hc, f8, hcf⟩
    have hcl := hc.len
    rw [a4, e5, ← packs_snoc] at hcl
    refine ⟨c, rfl, ?_⟩
    have hel : ends.2.1 = es.length := by have := he3.len; simp at this; omega
    refine append_one elem_i64 _ (he7.keep0 f8) (.int .i64 (c.2.1 : Int)) rfl rfl (by rw [hel]; omega) fun en w9 hen henl f9 henf => ?_
    rw [wI (x := i + 1) (by omega) (by omega)]
    have s78 := f8.size
    have F5 : Fr none1 w w5 := (F3.trans f4).comp f5 (fun k hk t => by
      rcases t with t | t | t
      · omega
      · omega
      · have := hS3 k t; omega)
    have F8 : Fr none1 w w8 := (F5.comp f7 (fun k hk t => by have := (hSa k (hSa3 k t)).1; omega)).trans f8
    have F9 : Fr none1 w w9 := F8.comp f9 (fun k hk t => by have := (hE k t).1; omega)
    have szw := F3.size
    have hS'' : ∀ k, S' k → w.heap.size ≤ k ∧ k ≠ p ∧ k ≠ b ∧ k ≠ g5 ∧ ¬ S5 k := fun k hk => by
      rcases hS' k hk with t | t | t
      · obtain ⟨q0, q1, q2, q3, q4⟩ := hSa k t
        exact ⟨q0, q1, q2, hg5a k t, fun q => hS5a k q t⟩
      · have t1 := hxf k t
        have t2 := hxl k t
        refine ⟨by omega, by omega, by omega, ?_, fun q => ?_⟩
        · rcases hg5 with q | q | q <;> omega
        · rcases hS5 k q with q | q
          · have := sl3 k q; omega
          · omega
      · refine ⟨by omega, by omega, by omega, by omega, fun q => by have := sl5 k q; omega⟩
    have hz9 : IsRows w9 S' zz (rs ++ [X]) := (hz.keep0 f8).keep f9 (fun k hk t => by
      have := el3 k t
      rcases hS' k hk with q | q | q
      · exact (hE k t).2.2.2.2.2 q
      · have := hxf k q; omega
      · omega)
    have j9 : IsJ w9 S5 p b g5 (putJ s false X).1 false (rs ++ [X]) := (j7.keep0 f8).keep f9 (fun t => (hE p t).2.1 rfl) (fun t => (hE b t).2.2.1 rfl) (fun t => by
      obtain ⟨_, q1, q2, q3, _⟩ := hE g5 t
      have := el3 g5 t
      rcases hg5 with q | q | q <;> omega) (fun k hk t => by
      have := el3 k t
      rcases hS5 k hk with q | q
      · exact (hE k t).2.2.2.2.1 q
      · omega)
    refine ⟨⟨by omega, by omega, F9, S5, g5, _, S', rs ++ [X], es ++ [(c.2.1 : Int)], j9, hz9, ?_, ?_, fun j hj => ?_, ?_, fun r hr => ?_, ?_, a7, a8, a5.trans e8, fun k hk => ?_, hS'', fun k hk => ?_⟩, by omega⟩
    · rw [List.map_append]; exact hen
    · simp [e1]
    · simp only [List.length_append, List.length_singleton] at hj
      by_cases hjr : j < rs.length
      · rw [getD_l _ _ _ (by omega), e2 j hjr, List.take_append_of_le_length (by omega)]
      · have : j = es.length := by omega
        subst this
        rw [getD_r, hcl, List.take_of_length_le (by simp; omega)]
    · simp only [List.length_append, List.length_singleton]; omega
    · simp only [List.mem_append, List.mem_singleton] at hr
      rcases hr with t | t
      · exact e4 r t
      · rw [t]; exact hXl
    · rw [a4, e5, packs_snoc]
    · rcases hS5 k hk with t | t
      · exact hS3 k t
      · omega
    · rcases henf k hk with t | t
      · obtain ⟨q0, q1, q2, q3, q4, q5⟩ := hE k t
        have := el3 k t
        refine ⟨q0, q1, q2, ?_, fun q => ?_, fun q => ?_⟩
        · rcases hg5 with q | q | q <;> omega
        · rcases hS5 k q with q | q
          · exact q4 q
          · omega
        · rcases hS' k q with q | q | q
          · exact q5 q
          · have := hxf k q; omega
          · omega
      · have hzl := hz.lt
        refine ⟨by omega, by omega, by omega, by omega, fun q => by have := sl5 k q; omega, fun q => by have := hzl k q; omega⟩
  · refine CallK.of (fbytes_spec j3.file) ?_
    rintro _ w4 ⟨c, rfl, hc, f4, hcf⟩
    rw [e5] at hc
    have hcl := hc.len
    have F4 := F3.trans f4
    refine ⟨c, rfl, ?_⟩
    refine ifB.eq (fun _ => done w4 F4) (fun hne => ?_)
    have hcpos : 0 < c.2.1 := by omega
    refine CallK.of (within_spec at0 (c.2.1 : Int) w4 (by omega)) ?_
    rintro _ _ ⟨rfl, rfl⟩
    refine ⟨_, rfl, ?_⟩
    have alo := within_lo at0 (c.2.1 : Int)
    have ahi := within_hi at0 (n := (c.2.1 : Int)) (by omega)
    generalize within at0 (c.2.1 : Int) = at_ at alo ahi
    have hel : ends.2.1 = es.length := by have := he3.len; simp at this; omega
    have he4 := he3.keep0 f4
    have eget : ∀ j : Nat, j < rs.length → (es.map (Value.int .i64))[j]? = some (.int .i64 ((packs (rs.take (j + 1))).length : Int)) := fun j hj => by
      have := e2 j hj
      rw [List.getD_eq_getElem?_getD, List.getElem?_eq_getElem (by omega)] at this
      rw [List.getElem?_map, List.getElem?_eq_getElem (by omega)]
      simp only [Option.getD_some] at this
      rw [← this]; rfl
    refine LoopK.of (fun q w' => w4 = w' ∧ 0 ≤ q.1 ∧ q.1 ≤ rs.length) (fun q _ => (rs.length - q.1).toNat) ⟨rfl, by dsimp only; omega, by dsimp only; omega⟩ ?_
    rintro _ ⟨k, _⟩ _ ⟨rfl, kk0, kk1⟩
    dsimp only at kk0 kk1 ⊢
    refine JoinK.of (fun q w' => w4 = w' ∧ (q.1 = true → k < rs.length) ∧ (q.1 = false → k = rs.length ∨ k < rs.length ∧ at_ < ((packs (rs.take (k.toNat + 1))).length : Int))) (ifB.dec (fun h => ?_) (fun h => ⟨rfl, (fun t => by cases t), fun _ => .inl (by omega)⟩)) ?_
    · refine IsSl.ld he4 kk0 h (x := ((packs (rs.take (k.toNat + 1))).length : Int)) (eget k.toNat (by omega)) ?_
      refine ⟨rfl, fun _ => by omega, fun t => .inr ⟨by omega, ?_⟩⟩
      dsimp only at t
      have := of_decide_eq_false t
      omega
    rintro _ ⟨q, _⟩ _ ⟨rfl, q1, q2⟩
    dsimp only at q1 q2 ⊢
    refine ifB.by (fun hq => ?_) (fun hq => ?_)
    · have := q1 hq
      rw [wI (by omega) (by omega)]
      exact ⟨⟨rfl, by omega, by omega⟩, by omega⟩
    have q2 := q2 hq
    refine JoinK.of (fun t w' => w4 = w' ∧ t.1 = ((packs (rs.take k.toNat)).length : Int)) (ifB.dec (fun h => ?_) (fun h => ⟨rfl, ?_⟩)) ?_
    · rw [wI (by omega) (by omega)]
      refine IsSl.ld he4 (by omega) (by omega) (x := ((packs (rs.take ((k - 1).toNat + 1))).length : Int)) (eget (k - 1).toNat (by omega)) ⟨rfl, ?_⟩
      rw [show (k - 1).toNat + 1 = k.toNat by omega]
    · rw [show k.toNat = 0 by omega]; rfl
    rintro _ ⟨from_, _⟩ _ ⟨rfl, hfrom⟩
    dsimp only at hfrom ⊢
    subst hfrom
    have hfl := packs_take_le rs k.toNat
    rw [wI (x := ((packs (rs.take k.toNat)).length : Int) + 2) (by omega) (by omega)]
    refine ifB.dec (fun _ => done w4 F4) (fun hge => ?_)
    have hkn : k < rs.length ∧ at_ < ((packs (rs.take (k.toNat + 1))).length : Int) := by
      rcases q2 with t | t
      · rw [t, Int.toNat_natCast, List.take_length] at hge; omega
      · exact t
    refine RdB.at hc.rd alo ahi ?_
    rw [xorI_val]
    refine IsSl.st hc alo ahi rfl fun w5 hc5 f5 _ => ?_
    generalize hv : xorI ((packs rs).getD at_.toNat 0) by0 = v at hc5
    have hvne : v ≠ (packs rs).getD at_.toNat 0 := by
      intro t
      rw [← toByte_nat hby.1 hby.2, xorI_xor, ] at hv
      rw [← hv] at t
      have h1 : toByte by0 = 0 := by
        have : (packs rs).getD at_.toNat 0 ^^^ toByte by0 = (packs rs).getD at_.toNat 0 ^^^ 0 := by rw [t, UInt8.xor_zero]
        exact xor_cancel' this
      have h2 := toByte_nat hby.1 hby.2
      rw [h1] at h2
      exact hby0 (by rw [← h2]; rfl)
    have hc5 : IsB w5 c ((packs rs).set at_.toNat v) := by unfold IsB; rw [List.map_set]; exact hc5
    obtain ⟨rest, hP, hPt, hPl⟩ := parse_turned (l := rs) (k := k.toNat) (at_ := at_.toNat) (v := v) (fun r hr => by have := e4 r hr; omega) (by omega) (by omega) (by omega) hvne
    have hcl5 : ((packs rs).set at_.toNat v).length = (packs rs).length := by simp
    generalize (packs rs).set at_.toNat v = Y at hc5 hP hPt hcl5
    have F5 : Fr none1 w3 w5 := f4.comp f5 (fun x hx t => by have := hcf x t; omega)
    refine CallK.of (fnew_spec 4000 w5) ?_
    rintro _ w6 ⟨b2, rfl, hb2, f6, i6⟩
    refine ⟨some ⟨b2, 0, none⟩, rfl, ifB.f rfl ?_⟩
    have clt : ∀ x, blkOf c x → x < w5.heap.size := fun x hx => IsSl.lt hc5 hx
    obtain ⟨b1', b2', b3', b4', b5', b6'⟩ := appF_ok (s := newF 4000) (x := Y) rfl rfl (by show _ ≤ (4000 : Int) - ((([] : List UInt8).length : Nat) : Int); simp; omega)
    refine CallK.of (fappend_spec i6 (hc5.keep0 f6).rd (fun t => by have := clt b2 t; omega)) ?_
    rintro _ w7 ⟨rfl, f7, g7, _, i7⟩
    rw [b1']
    refine ⟨_, rfl, ifB.f rfl ?_⟩
    have hYb : (appF (newF 4000) Y).1.b = Y := b2'
    have hYq : (appF (newF 4000) Y).1.quota = 4000 := b3'
    generalize (appF (newF 4000) Y).1 = s7 at *
    refine CallK.of (open_spec i7 b6' b5' (by rw [hYb]; exact hP)) ?_
    rintro _ w8 ⟨p8, S8, g8, s8, rfl, hp8, f8, hS8, hg8, j8, t1, t2, t3, t4, _⟩
    refine ⟨(some ⟨p8, 0, none⟩, 0, ()), rfl, ?_⟩
    rw [hYb, hPt] at t1
    have F7 : Fr none1 w3 w7 := (F5.trans f6).fresh f7 (by have := F5.size; omega)
    have F8 : Fr none1 w3 w8 := F7.fresh f8 (by have := F5.size; omega)
    have s78 := f8.size
    have htl : ∀ r ∈ rs.take k.toNat, r.length ≤ 100000000 := fun r hr => by have := e4 r (List.mem_of_mem_take hr); omega
    have htk : (rs.take k.toNat).length ≤ 1000000 := by simp only [List.length_take]; omega
    have r0 := drew_fr w8
    generalize hW0 : ({ w8 with drawn := w8.drawn + 1 } : World) = W0 at r0
    obtain ⟨x1, W1, SS, hr1, hx1, m1, _⟩ := records_is (j8.keep0 r0) htk htl
    have hall : IsRows W1 Sa (all.1, k.toNat, all.2.2) (rs.take k.toNat) := (((ha3.keep0 F8).keep0 r0).keep0 m1).sub (by have := ha3.len; omega)
    obtain ⟨W2, hr2, m2⟩ := rows_is hx1 hall htk htl
    obtain ⟨x3, W3, hr3, hx3, m3, _⟩ := fbytes_is ((((j8.keep0 r0).keep0 m1).keep0 m2).file)
    have hx3l := hx3.len
    rw [t1] at hx3l
    refine ⟨⟨Ch3 W0 W1 W2 W3, ⟨fun _ => hW0, (fun t => by cases t), (fun t => by cases t), (fun t => by cases t), (fun t => by cases t)⟩, ?_⟩⟩
    refine ifB.f rfl (ifB.f rfl ?_)
    refine ⟨x1, fun D w9 hD _ hC => ?_, ?_⟩
    · obtain ⟨k1, k2, k3, k4, k5⟩ := hC
      have h12 : D 12 = false := by
        cases hd : D 12 with
        | false => rfl
        | true => have := k3 hd; rw [hD] at this; cases this
      have h17 : D 17 = false := by
        cases hd : D 17 with
        | false => rfl
        | true => have := (k5 hd).1; rw [h12] at this; cases this
      obtain rfl := k1 hD
      refine CallK.of hr1 ?_
      rintro _ _ ⟨rfl, rfl⟩
      refine ⟨x1, rfl, rfl, fun t => ?_, fun _ _ => rfl, fun _ => upd_self' _ _, fun t => ?_, fun t => ?_⟩
      · rw [upd_self'] at t; cases t
      · rw [upd_ne' _ (by decide), h12] at t; cases t
      · rw [upd_ne' _ (by decide), h17] at t; cases t
    refine sub_rows ha3 kk0 (by have := ha3.len; omega) ?_
    refine ⟨true, fun D w9 hD hp hC => ?_, ?_⟩
    · obtain ⟨k1, k2, k3, k4, k5⟩ := hC
      have h8 := hp 8 (by simp)
      have h17 : D 17 = false := by
        cases hd : D 17 with
        | false => rfl
        | true => have := (k5 hd).1; rw [hD] at this; cases this
      obtain rfl := k2 h8 hD
      refine CallK.of hr2 ?_
      rintro _ _ ⟨rfl, rfl⟩
      refine ⟨true, rfl, rfl, fun t => ?_, fun _ t => ?_, fun _ => ?_, fun _ _ => rfl, fun t => ?_⟩
      · rw [upd_ne' _ (by decide), h8] at t; cases t
      · rw [upd_self'] at t; cases t
      · rw [upd_ne' _ (by decide), h8]
      · rw [upd_ne' _ (by decide), h17] at t; cases t
    refine ifB.f rfl ?_
    refine ⟨x3, fun D w9 hD hp hC => ?_, ?_⟩
    · obtain ⟨k1, k2, k3, k4, k5⟩ := hC
      have h8 := hp 8 (by simp)
      have h12 := hp 12 (by simp)
      obtain rfl := k4 h12 hD
      refine CallK.of hr3 ?_
      rintro _ _ ⟨rfl, rfl⟩
      refine ⟨x3, rfl, rfl, fun t => ?_, fun _ t => ?_, fun _ => ?_, fun _ t => ?_, fun _ => ⟨?_, rfl⟩⟩
      · rw [upd_ne' _ (by decide), h8] at t; cases t
      · rw [upd_ne' _ (by decide), h12] at t; cases t
      · rw [upd_ne' _ (by decide), h8]
      · rw [upd_self'] at t; cases t
      · rw [upd_ne' _ (by decide), h12]
    intro w9 hC
    obtain ⟨_, rfl⟩ := hC.2.2.2.2 rfl
    have M := ((r0.trans m1).trans m2).trans m3
    have j9 := j8.keep0 M
    refine ifB.f (by rw [hx3l]; simp) ?_
    refine text_ok [109, 111, 114, 101] (by simp) (by simp) fun y w10 hy f10 hyf => ?_
    have j10 := j9.keep0 f10
    have pl9 := j9.plt
    have bl9 := j9.file.lt
    have sl9 := j9.slt
    obtain ⟨c1, c2, c3, c4, c5, c6, c7, c8⟩ := putJ_ok (s := s8) (x := [109, 111, 114, 101]) t3 t4 (by simp) (by rw [t2, hYq, t1]; simp; omega)
    refine CallK.of (put_spec j10 hy (fun x hx => ?_) htk) ?_
    · have := hyf x hx
      refine ⟨?_, by omega, by omega, fun t => by have := sl9 x t; omega⟩
      obtain ⟨ad, had, rfl⟩ := hx
      exact blk_of_cell (hy.2.2 ad had).1
    rw [c1, c2, c3]
    rintro _ w11 ⟨rfl, f11, S11, g11, _, _, j11⟩
    refine ⟨_, rfl, ifB.t rfl ?_⟩
    have j11 : IsJ w11 S11 p8 b2 g11 _ false (rs.take k.toNat ++ [[109, 111, 114, 101]]) := j11
    refine CallK.of (records_spec j11 (by simp only [List.length_append, List.length_singleton, List.length_take]; omega) (fun r hr => ?_)) ?_
    · simp only [List.mem_append, List.mem_singleton] at hr
      rcases hr with t | t
      · exact htl r t
      · rw [t]; simp
    rintro _ w12 ⟨x12, S12, rfl, hx12, f12, _⟩
    have hx12l := hx12.len
    refine ⟨x12, rfl, ?_⟩
    rw [wI (x := k + 1) (by omega) (by omega)]
    refine ifB.t (by rw [hx12l, List.length_append, List.length_take, List.length_singleton]; exact beq_iff_eq.2 (by omega)) ?_
    refine done w12 ?_
    have F9 : Fr none1 w3 w10 := (F8.trans M).trans f10
    exact (F3.trans (F9.comp f11 (fun x hx t => by
      have := F7.size
      have := F5.size
      rcases t with t | t | t
      · omega
      · omega
      · have := hS8 x t; omega))).trans f12

end Go.Proofs.Ytejhjjafmobmbaa
