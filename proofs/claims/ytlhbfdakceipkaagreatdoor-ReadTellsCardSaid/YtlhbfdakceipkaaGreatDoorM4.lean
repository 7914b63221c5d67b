/-
  Texts of this claim, put together: RTellSpec, CRefRd, RefReadSpec, RefReadSpec2, RefReadSpec3, PlainSpec, CRTel7, RTel7.
  Conditions: those of each theorem.
-/
import Derived.Test.YtlhbfdakceipkaaGreatDoorM0
import Derived.Test.YtlhbfdakceipkaaGreatDoorM1
import Derived.Test.YtlhbfdakceipkaaGreatDoorM2
import Derived.Test.YtlhbfdakceipkaaGreatDoorM3
import Derived.KernelRfl
import Derived.Test.YtlhbfdakceipkaaGreatDoorProg
/-! ### RTellSpec -/
set_option linter.unusedVariables false
set_option maxRecDepth 100000
namespace Go.Proofs.YtlhbfdakceipkaaGreatDoor
open Vc

theorem elem_signR : ElemOk Tryz.prog 148 236 2 (.agg #[.string ByteArray.empty, .int .i64 0]) 24 := ⟨Tryz.underlying148, ⟨Tryz.t236, by kernel_rfl, rfl, rfl, rfl⟩, rfl, by decide⟩

/-- A slice of signs. -/
structure IsSgR (w : World) (v : Sl) (l : List SignV) : Prop where
  sl : IsSl w 236 2 v (signCells l)
  len : v.2.1 = l.length

theorem IsSgR.keep {w w' : World} {v : Sl} {l : List SignV} (h : IsSgR w v l) {S : Nat → Prop} (f : Fr S w w') (hn : ∀ k, blkOf v k → ¬ S k) : IsSgR w' v l := ⟨h.sl.keep f hn, h.len⟩
theorem IsSgR.keep0 {w w' : World} {v : Sl} {l : List SignV} (h : IsSgR w v l) (f : Fr none1 w w') : IsSgR w' v l := h.keep f (fun _ _ t => t)
theorem none_sgR (w : World) : IsSgR w (none, 0, 0) [] := ⟨.inl ⟨rfl, rfl⟩, rfl⟩

theorem sg_snocR {w : World} {v : Sl} {l : List SignV} (h : IsSgR w v l) (x : List UInt8) (at_ : Int) (hl : l.length ≤ 10000000) {K : Sl → World → Prop}
    (hK : ∀ y w', IsSgR w' y (l ++ [(x, at_)]) → Fr (blkOf v) w w' → (∀ k, blkOf y k → blkOf v k ∨ w.heap.size ≤ k) → K y w') :
    RunK Tryz.prog (Instr.buildSlice 148 1 #[(0, .agg #[.string (str x), .int .i64 at_])]) w (.v (.one .slc)) fun (y : Option Addr × Nat × Nat) w' =>
      RunK Tryz.prog (Builtin.append_ #[148, 148] 148 #[.slice v.1 v.2.1 v.2.2, .slice y.1 y.2.1 y.2.2]) w' (.v (.one .slc)) fun (u : Option Addr × Nat × Nat) w'' => K u w'' := by
  obtain ⟨y, w1, r1, hy, hyl, f1, yf⟩ := buildSlice_ok (w := w) elem_signR 1 #[(0, .agg #[.string (str x), .int .i64 at_])] #[.string (str x), .int .i64 at_] (by omega) (by
    simp [Instr.fill, Value.cells]
    refine Array.ext (by simp) fun i h1 h2 => ?_
    have : i = 0 ∨ i = 1 := by simp at h2; omega
    rcases this with t | t <;> subst t <;> simp) rfl
  refine ⟨y, w1, r1, ?_⟩
  have hvl := h.len
  obtain ⟨z, w2, r2, hz, hzl, f2, zf⟩ := append_ok elem_signR 148 (h.sl.keep0 f1) hy.rd (by intro v hv; simp at hv; rcases hv with rfl | rfl <;> rfl) (by rw [hyl, hvl]; omega)
  refine ⟨z, w2, r2, hK z w2 ⟨?_, ?_⟩ (f1.of0 f2) fun k hk => ?_⟩
  · rw [signCells_app]; exact hz
  · rw [hzl, hyl, hvl, List.length_append]; rfl
  · rcases zf k hk with t | t
    · exact .inl t
    · exact .inr (Nat.le_trans f1.size t)

/-- A part of an element of a slice of signs. -/
theorem sg_ldR {w : World} {v : Sl} {l : List SignV} (h : IsSgR w v l) {i : Int} (h0 : 0 ≤ i) (h1 : i < v.2.1) {x : SignV} (hx : l[i.toNat]? = some x) {K : Addr → Prop}
    (hK : ∀ a : Addr, (∀ (K : ByteArray → Prop), K (str x.1) → LdK .str (a.add 0) w K) → (∀ (K : Int → Prop), K x.2 → LdK (.int .i64) (a.add 1) w K) → (∀ (K : ByteArray × Int × Unit → Prop), K (str x.1, x.2, ()) → LdsK [.str, .int .i64] a w K) → K a) : IdxK v.1 v.2.1 i 2 K := by
  obtain ⟨hs, hl⟩ := h
  obtain ⟨c1, c2⟩ := signCells_at l i.toNat x hx
  rcases hs with ⟨rfl, hnil⟩ | ⟨g, off, cs, hv, hb, hle, hc, hn, he⟩
  · dsimp only at h1; omega
  · refine ⟨_, hv, h0, h1, ?_⟩
    rw [addr_add]
    have hlen := signCells_len l
    have hi : i.toNat < l.length := by omega
    have e0 : w.cell? (⟨g, off + i.toNat * 2, none⟩ : Addr) = some (.string (str x.1)) := by
      rw [cell_blk hb, he _ (by omega)]; exact c1
    have e1 : w.cell? (⟨g, off + i.toNat * 2 + 1, none⟩ : Addr) = some (.int .i64 x.2) := by
      rw [cell_blk hb, show off + i.toNat * 2 + 1 = off + (i.toNat * 2 + 1) by omega, he _ (by omega)]; exact c2
    have a0 : ((⟨g, off + i.toNat * 2, none⟩ : Addr).add 0) = ⟨g, off + i.toNat * 2, none⟩ := by rw [addr_add]; rfl
    have a1 : ((⟨g, off + i.toNat * 2, none⟩ : Addr).add 1) = ⟨g, off + i.toNat * 2 + 1, none⟩ := by rw [addr_add]
    refine hK _ (fun K k => LdK.cell (by rw [a0]; exact e0) k) (fun K k => LdK.cell (by rw [a1]; exact e1) k) (fun K k => ⟨_, ⟨by rw [a0]; exact e0, by rw [a1]; exact e1, trivial⟩, k⟩)

theorem sign_eqR (x y : ByteArray) (i j : Int) (o1 o2 : Operand) (w : World) :
    (do eqGuard .eql 236 o1 o2 (.agg #[.string x, .int .i64 i]) (.agg #[.string y, .int .i64 j]); binOp .eql 236 (.agg #[.string x, .int .i64 i]) (.agg #[.string y, .int .i64 j]) : Sem Value).run Tryz.prog w = .ok (.bool (decide (x = y) && decide (i = j))) w := by
  have hf : ∃ fs, Tryz.prog.underlying 236 = some (.struct fs) ∧ Tryz.prog.fieldsOf 236 = fs := by
    unfold Program.fieldsOf
    rw [Tryz.underlying236]
    exact ⟨_, rfl, rfl⟩
  have hu : Tryz.prog.underlying 236 = some (.struct (Tryz.prog.fieldsOf 236)) := by
    obtain ⟨fs, h1, h2⟩ := hf
    rw [h1, h2]
  rw [Sem.run_bind, run_eqGuard_agg w _ _ _ _ _ _ (show Tryz.prog.eqGuardType Tryz.prog.depth 236 = false by kernel_rfl), Result.andThen_ok, run_eql_struct, run_equalIn_agg w _ _ _ _ hu (by kernel_rfl)]
  have hF : (Tryz.prog.fieldsOf 236).toList = [{ name := "Text", type := 9, offset := 0, embedded := false, tag := "", pkgPath := "", byteOffset := 0 }, { name := "At", type := 3, offset := 1, embedded := false, tag := "", pkgPath := "", byteOffset := 16 }] := by
    unfold Program.fieldsOf
    rw [Tryz.underlying236]
  have p0 : ∀ (v u : Value), (part 9 #[v, u] 0).run Tryz.prog w = .ok v w := fun v u => by simp [part, isAgg, under Tryz.underlying9]
  have p1 : ∀ (v u : Value), (part 3 #[v, u] 1).run Tryz.prog w = .ok u w := fun v u => by simp [part, isAgg, under Tryz.underlying3]
  rw [hF]
  have q0 : (Op.equalIn 9999 9 (.string x) (.string y)).run Tryz.prog w = .ok (x.toList == y.toList) w := run_equalIn_string w 9998 _ _ _ Tryz.underlying9
  have q1 : (Op.equalIn 9999 3 (.int .i64 i) (.int .i64 j)).run Tryz.prog w = .ok (i == j) w := run_equalIn_int w 9998 _ _ _ _ _ Tryz.underlying3
  simp only [Op.eqFields, ne_eq, if_pos (show ¬ ("Text" = "_") by decide), if_pos (show ¬ ("At" = "_") by decide), Sem.run_bind, p0, Result.andThen_ok, q0]
  rw [bytes_beq]
  by_cases hxy : x = y
  · subst hxy
    by_cases hij : i = j
    · subst hij; simp [p1, q1]
    · simp [hij, p1, q1]
  · simp [hxy]

theorem sign_neR (x y : ByteArray) (i j : Int) (o1 o2 : Operand) (w : World) :
    (do eqGuard .neq 236 o1 o2 (.agg #[.string x, .int .i64 i]) (.agg #[.string y, .int .i64 j]); binOp .neq 236 (.agg #[.string x, .int .i64 i]) (.agg #[.string y, .int .i64 j]) : Sem Value).run Tryz.prog w = .ok (.bool (!(decide (x = y) && decide (i = j)))) w := by
  have h := sign_eqR x y i j o1 o2 w
  rw [Sem.run_bind, run_eqGuard_agg w _ _ _ _ _ _ (show Tryz.prog.eqGuardType Tryz.prog.depth 236 = false by kernel_rfl), Result.andThen_ok] at h ⊢
  rw [run_eql_struct] at h
  rw [run_neq_struct]
  cases hr : (Op.equalIn 10000 236 (.agg #[.string x, .int .i64 i]) (.agg #[.string y, .int .i64 j])).run Tryz.prog w with
  | halt e w' => rw [hr] at h; simp [Result.andThen] at h
  | ok b w' =>
    rw [hr, Result.andThen_ok] at h
    injection h with h1 h2
    injection h1 with h1
    rw [Result.andThen_ok, h1, h2]


theorem take1 {s : List UInt8} (h : 0 < s.length) : s.take 1 = [45] ↔ (s.getD 0 0).toNat = 45 := by
  cases s with
  | nil => simp at h
  | cons x s =>
    constructor
    · intro t
      have : x = 45 := by simpa using t
      rw [this]; rfl
    · intro t
      have : x = 45 := UInt8.toNat_inj.1 t
      rw [this]; rfl

theorem refnum_spec (s : List UInt8) (hl : s.length ≤ 100000) (w : World) : Ret Tryz.prog 159 #[.string (str s)] w fun r w' => r = .tuple #[.int .i64 (numF s).1, .bool (numF s).2] ∧ Fr none1 w w' := by
  refine c159 _ w _ ?_
  unfold C159
  have F0 : Fr none1 w w := Fr.refl _ _
  refine JoinK.of (fun q w' => q.1 = decide (s.take 1 = [45]) ∧ w = w') ?_ ?_
  · rw [str_size]
    refine ifB.dec (fun h => ?_) (fun h => ?_)
    · refine strk_ok (by omega) (by omega) ⟨?_, rfl⟩
      rw [show (0 : Int).toNat = 0 from rfl]
      have := take1 (s := s) (by omega)
      by_cases t : s.take 1 = [45]
      · rw [decide_eq_true t]; have := this.1 t; simp only [beq_iff_eq]; omega
      · rw [decide_eq_false t]; simp only [beq_eq_false_iff_ne]; intro q; exact t (this.2 (by omega))
    · refine ⟨?_, rfl⟩
      have : s = [] := List.eq_nil_of_length_eq_zero (by omega)
      rw [this]; rfl
  rintro _ ⟨neg, _⟩ _ ⟨hneg, rfl⟩
  dsimp only at hneg ⊢
  subst hneg
  refine JoinK.of (fun q w' => q.1 = str (noMinus s) ∧ w = w') ?_ ?_
  · unfold noMinus
    refine ifB.dec (fun h => ?_) (fun h => ?_)
    · rw [if_pos h]
      have hl1 : 1 ≤ s.length := by
        have := congrArg List.length h
        rw [List.length_take] at this
        simp only [List.length_cons, List.length_nil] at this
        omega
      refine subs_ok (by omega) (by rw [str_size]; omega) (by rw [str_size]; omega) ⟨?_, rfl⟩
      rw [str_size, List.take_of_length_le (by simp)]
      rfl
    · rw [if_neg h]; exact ⟨rfl, rfl⟩
  rintro _ ⟨q, _⟩ _ ⟨hq, rfl⟩
  dsimp only at hq ⊢
  subst hq
  have hdl : (noMinus s).length ≤ s.length := by unfold noMinus; split <;> simp
  have hneg : s.take 1 = [45] → s ≠ [48] := fun t q => by rw [q] at t; simp at t
  have hpos : s.take 1 ≠ [45] → noMinus s = s := fun t => by unfold noMinus; rw [if_neg t]
  obtain ⟨d, hd⟩ : ∃ d, noMinus s = d := ⟨_, rfl⟩
  unfold numF
  rw [hd] at hdl hpos ⊢
  rw [str_size]
  refine JoinK.of (fun q w' => w = w' ∧ (q.1 = true → d = [] ∨ 13 < d.length ∨ (d.getD 0 0 = 48 ∧ s ≠ [48])) ∧ (q.1 = false → d ≠ [] ∧ d.length ≤ 13 ∧ (d.getD 0 0 = 48 → s = [48]))) ?_ ?_
  · refine ifB.dec (fun h => ?_) (fun h => ?_)
    · exact ⟨rfl, fun _ => .inl (List.eq_nil_of_length_eq_zero (by omega)), fun t => by cases t⟩
    refine ifB.dec (fun h2 => ?_) (fun h2 => ?_)
    · exact ⟨rfl, fun _ => .inr (.inl (by omega)), fun t => by cases t⟩
    have hne : d ≠ [] := fun t => by rw [t] at h; simp at h
    refine strk_ok (by omega) (by omega) ?_
    rw [show (0 : Int).toNat = 0 from rfl]
    refine ifB.eq (fun h48 => ?_) (fun h48 => ?_)
    · have h48' : d.getD 0 0 = 48 := UInt8.toNat_inj.1 (by have : (48 : UInt8).toNat = 48 := rfl
                                                           omega)
      refine ifB.dec (fun h1 => ?_) (fun h1 => ?_)
      · refine ⟨rfl, fun _ => .inr (.inr ⟨h48', fun t => ?_⟩), fun t => by cases t⟩
        rw [t] at hdl
        simp only [List.length_cons, List.length_nil] at hdl
        omega
      · refine ⟨rfl, fun t => .inr (.inr ⟨h48', hneg (of_decide_eq_true t)⟩), fun t => ⟨hne, by omega, fun _ => ?_⟩⟩
        have e := hpos (of_decide_eq_false t)
        rw [← e]
        match d, hne, h1, h48' with
        | [x], _, _, h48' => rw [show x = 48 from h48']
        | x :: y :: l, _, h1, _ => simp at h1; omega
    · refine ⟨rfl, (fun t => by cases t), fun _ => ⟨hne, by omega, fun t => absurd (by rw [t]; rfl) h48⟩⟩
  rintro _ ⟨q, _⟩ _ ⟨rfl, hqt, hqf⟩
  dsimp only at hqt hqf ⊢
  refine ifB.by (fun hq => ?_) (fun hq => ?_)
  · rw [if_pos]
    · exact ⟨rfl, F0⟩
    rcases hqt hq with t | t | t
    · exact .inl t
    · exact .inr (.inl t)
    · exact .inr (.inr (.inr t))
  obtain ⟨hne, h13, h48⟩ := hqf hq
  refine LoopK.of (fun q w' => w = w' ∧ ∃ n : Nat, q.2.1 = n ∧ n ≤ d.length ∧ q.1 = valL (d.take n) ∧ ∀ c ∈ d.take n, isD c = true) (fun q _ => d.length - q.2.1.toNat) ⟨rfl, 0, rfl, by omega, rfl, by simp⟩ ?_
  rintro _ ⟨m, i, _⟩ _ ⟨rfl, n, hn, hnl, hm, hall⟩
  dsimp only at hn hm ⊢
  subst hn; subst hm
  refine ifB.dec (fun hlt => ?_) (fun hge => ?_)
  · have hmem : d.getD n 0 ∈ d := by rw [List.getD_eq_getElem?_getD, List.getElem?_eq_getElem (by omega)]; exact List.getElem_mem _
    have bad : isD (d.getD n 0) = false → ((.tuple #[.int .i64 0, .bool false] : Value) = .tuple #[.int .i64 (if d = [] ∨ 13 < d.length ∨ d.all isD = false ∨ (d.getD 0 0 = 48 ∧ s ≠ [48]) then ((0, false) : Int × Bool) else if 1000000000000 < valL d then (0, false) else (if s.take 1 = [45] then -(valL d) else valL d, true)).1, .bool (if d = [] ∨ 13 < d.length ∨ d.all isD = false ∨ (d.getD 0 0 = 48 ∧ s ≠ [48]) then ((0, false) : Int × Bool) else if 1000000000000 < valL d then (0, false) else (if s.take 1 = [45] then -(valL d) else valL d, true)).2] ∧ Fr none1 w w) := fun hb => by
      rw [if_pos]
      · exact ⟨rfl, F0⟩
      refine .inr (.inr (.inl ?_))
      cases ha : d.all isD with
      | false => rfl
      | true => rw [List.all_eq_true.1 ha _ hmem] at hb; cases hb
    refine strk_ok (by omega) (by omega) ?_
    rw [Int.toNat_natCast]
    refine ifB.dec (fun h1 => ?_) (fun h1 => ?_)
    · exact bad (by unfold isD; rw [decide_eq_false (by omega), Bool.false_and])
    refine strk_ok (by omega) (by omega) ?_
    rw [Int.toNat_natCast]
    refine ifB.dec (fun h2 => ?_) (fun h2 => ?_)
    · exact bad (by unfold isD; rw [decide_eq_false (p := (d.getD n 0).toNat ≤ 57) (by omega), Bool.and_false])
    refine strk_ok (by omega) (by omega) ?_
    rw [Int.toNat_natCast]
    have e1 : IntKind.u8.wrap (((d.getD n 0).toNat : Int) - 48) = ((d.getD n 0).toNat : Int) - 48 := by rw [IntKind.wrap_u8]; omega
    rw [e1, wI (x := ((d.getD n 0).toNat : Int) - 48) (by omega) (by omega)]
    have hall' : ∀ c ∈ d.take (n + 1), isD c = true := fun c hc => by
      rw [List.take_succ_eq_append_getElem (by omega)] at hc
      rcases List.mem_append.1 hc with hc | hc
      · exact hall c hc
      · simp only [List.mem_singleton] at hc
        rw [hc]
        have e : d[n] = d.getD n 0 := by rw [List.getD_eq_getElem?_getD, List.getElem?_eq_getElem (by omega)]; rfl
        rw [e]
        unfold isD
        rw [decide_eq_true (by omega), decide_eq_true (by omega)]; rfl
    obtain ⟨b1, b2⟩ := valL_bound (d.take n) hall (by rw [List.length_take]; omega)
    obtain ⟨b3, b4⟩ := valL_bound (d.take (n + 1)) hall' (by rw [List.length_take]; omega)
    have e2 : d.take (n + 1) = d.take n ++ [d.getD n 0] := by
      rw [List.take_succ_eq_append_getElem (by omega), List.getD_eq_getElem?_getD, List.getElem?_eq_getElem (by omega)]; rfl
    rw [e2, valL_snoc] at b3 b4
    rw [wI (x := 10 * valL (d.take n)) (by omega) (by omega), wI (x := 10 * valL (d.take n) + (((d.getD n 0).toNat : Int) - 48)) (by omega) (by omega), wI (x := (n : Int) + 1) (by omega) (by omega)]
    refine ⟨⟨rfl, n + 1, by omega, by omega, ?_, hall'⟩, by omega⟩
    rw [e2, valL_snoc]; omega
  · have : n = d.length := by omega
    subst this
    rw [List.take_length] at hall ⊢
    obtain ⟨b1, b2⟩ := valL_bound d hall (by omega)
    rw [if_neg]
    rotate_left
    · rintro (t | t | t | t)
      · exact hne t
      · omega
      · rw [List.all_eq_true.2 hall] at t; cases t
      · exact t.2 (h48 t.1)
    refine ifB.dec (fun h1 => ?_) (fun h1 => ?_)
    · rw [if_pos (by omega)]; exact ⟨rfl, F0⟩
    rw [if_neg (by omega)]
    refine ifB.dec (fun h2 => ?_) (fun h2 => ?_)
    · rw [if_pos h2, wI (x := 0 - valL d) (by omega) (by omega), Int.zero_sub]; exact ⟨rfl, F0⟩
    · rw [if_neg h2]; exact ⟨rfl, F0⟩

/-! ### The document's signs -/
def rsF (out : List SignV) (word : List UInt8) (a i : Int) : List Int → List SignV × Int
  | [] => (out, 0)
  | r :: rs => if isLet r = true ∨ r = 45 then rsF out (word ++ enc r) (if word = [] then i + 1 else a) (i + 1) rs else
      if r = 40 ∨ r = 41 ∨ r = 44 then rsF ((if word = [] then out else out ++ [(word, a)]) ++ [(enc r, i + 1)]) [] a (i + 1) rs else
      if r = 32 then rsF (if word = [] then out else out ++ [(word, a)]) [] a (i + 1) rs else ([], i + 1)

theorem rsF_eq : ∀ (R : List Int) (out : List SignV) (word : List UInt8) (a i : Int), rsF out word a i (R ++ [32]) = sgF (if word = [] then out else out ++ [(word, a)]) i (!decide (word = [])) R
  | [], out, word, a, i => by
    have h1 : isLet 32 = false := rfl
    show rsF out word a i [32] = _
    unfold rsF
    rw [if_neg (by rw [h1]; simp), if_neg (by omega), if_pos rfl]
    rfl
  | r :: R, out, word, a, i => by
    have ih := rsF_eq R
    have hen := enc_pos r
    have hr : rsF out word a i (r :: R ++ [32]) = if isLet r = true ∨ r = 45 then rsF out (word ++ enc r) (if word = [] then i + 1 else a) (i + 1) (R ++ [32]) else
      if r = 40 ∨ r = 41 ∨ r = 44 then rsF ((if word = [] then out else out ++ [(word, a)]) ++ [(enc r, i + 1)]) [] a (i + 1) (R ++ [32]) else
      if r = 32 then rsF (if word = [] then out else out ++ [(word, a)]) [] a (i + 1) (R ++ [32]) else ([], i + 1) := rfl
    have hs : ∀ acc run, sgF acc i run (r :: R) = if kd r = 0 then ([], i + 1) else if kd r = 97 ∧ run = true then sgF (addLast acc (enc r)) (i + 1) true R else
      if kd r ≠ 32 then sgF (acc ++ [(enc r, i + 1)]) (i + 1) (kd r == 97) R else sgF acc (i + 1) false R := fun _ _ => rfl
    rw [hr, hs]
    by_cases hl : isLet r = true ∨ r = 45
    · have hk : kd r = 97 := by
        unfold kd
        rcases hl with t | t
        · rw [if_pos t]
        · subst t; rfl
      rw [if_pos hl, hk, if_neg (show ¬ (97 : Int) = 0 by decide), ih]
      have hne : word ++ enc r ≠ [] := by simp [hen]
      rw [if_neg hne, decide_eq_false hne]
      by_cases hw : word = []
      · subst hw
        rfl
      · rw [if_neg hw, if_neg hw, decide_eq_false hw, if_pos (show (97 : Int) = 97 ∧ (!false) = true from ⟨rfl, rfl⟩), addLast_of]
        rfl
    · have hlf : ¬ isLet r = true := fun t => hl (.inl t)
      have h45 : ¬ r = 45 := fun t => hl (.inr t)
      rw [if_neg hl]
      by_cases hs : r = 40 ∨ r = 41 ∨ r = 44
      · have hk : kd r = 40 := by rcases hs with t | t | t <;> subst t <;> rfl
        rw [if_pos hs, hk, if_neg (show ¬ (40 : Int) = 0 by decide), if_neg (show ¬ ((40 : Int) = 97 ∧ (!decide (word = [])) = true) from fun t => absurd t.1 (by decide)), if_pos (show (40 : Int) ≠ 32 by decide), ih]
        rfl
      · rw [if_neg hs]
        by_cases h32 : r = 32
        · have hk : kd r = 32 := by subst h32; rfl
          rw [if_pos h32, hk, if_neg (show ¬ (32 : Int) = 0 by decide), if_neg (show ¬ ((32 : Int) = 97 ∧ (!decide (word = [])) = true) from fun t => absurd t.1 (by decide)), if_neg (show ¬ (32 : Int) ≠ 32 by decide), ih]
          rfl
        · have hk : kd r = 0 := by
            unfold kd
            rw [if_neg hlf, if_neg h45, if_neg (fun t => hs (.inl t)), if_neg (fun t => hs (.inr (.inl t))), if_neg (fun t => hs (.inr (.inr t))), if_neg h32]
          rw [if_neg h32, if_pos hk]

theorem sgF_len : ∀ (R : List Int) (acc : List SignV) (at_ : Int) (run : Bool), (sgF acc at_ run R).1.length ≤ acc.length + 1 + R.length
  | [], acc, at_, run => by show acc.length ≤ _; simp only [List.length_nil]; omega
  | r :: R, acc, at_, run => by
    have h1 := sgF_len R (addLast acc (enc r)) (at_ + 1) true
    have h2 := sgF_len R (acc ++ [(enc r, at_ + 1)]) (at_ + 1) (kd r == 97)
    have h3 := sgF_len R acc (at_ + 1) false
    have e1 : (addLast acc (enc r)).length ≤ acc.length + 1 := by unfold addLast; simp
    simp only [List.length_append, List.length_cons, List.length_nil] at h2 ⊢
    unfold sgF
    split
    · simp
    split
    · omega
    split
    · omega
    · omega

theorem rsigns_spec (bs : List UInt8) (hl : bs.length ≤ 100000) (w : World) : Ret Tryz.prog 67 #[.string (str bs)] w fun v w' =>
    ∃ sl : Sl, v = .tuple #[.slice sl.1 sl.2.1 sl.2.2, .int .i64 (sgF [] 0 false (runesL bs)).2] ∧ IsSgR w' sl (sgF [] 0 false (runesL bs)).1 ∧ Fr none1 w w' := by
  refine c67 _ w _ ?_
  unfold C67
  have e0 : (⟨#[]⟩ : ByteArray) = str [] := rfl
  rw [e0]
  refine CallK.of (rrunes_spec bs (by omega) w) ?_
  rintro _ w1 ⟨v, rfl, hv, f1, hvf⟩
  refine ⟨v, rfl, ?_⟩
  have hrl := runesL_len bs
  have hok := okR_runes bs
  have heq := rsF_eq (runesL bs) [] [] 0 0
  rw [if_pos rfl] at heq
  have heq : rsF [] [] 0 0 (runesL bs ++ [32]) = sgF [] 0 false (runesL bs) := heq
  rw [← heq]
  generalize runesL bs = R at *
  refine r_snoc hv 32 (by omega) fun x w2 hx f2 xf => ?_
  have fw2 : Fr none1 w w2 := f1.comp f2 (fun k hk t => by have := hvf k t; omega)
  obtain ⟨L, hL⟩ : ∃ L, R ++ [32] = L := ⟨_, rfl⟩
  rw [hL] at hx heq ⊢
  have hxl := hx.len
  have hLl : L.length ≤ 100001 := by rw [← hL, List.length_append, List.length_singleton]; omega
  have xlt : ∀ k, blkOf x k → k < w2.heap.size := fun k hk => IsSl.lt hx hk
  refine LoopK.of (fun s w' => ∃ (n : Nat) (out : List SignV) (word : List UInt8), s.2.2.2.1 = n ∧ n ≤ L.length ∧ s.2.1 = str word ∧ word.length ≤ 4 * n ∧ out.length ≤ 2 * n ∧ IsSgR w' s.1 out ∧ (∀ k, blkOf s.1 k → w2.heap.size ≤ k) ∧ Fr none1 w2 w' ∧ rsF out word s.2.2.1 n (L.drop n) = rsF [] [] 0 0 L) (fun s _ => L.length - s.2.2.2.1.toNat)
    ⟨0, [], [], rfl, by omega, rfl, by simp, by simp, none_sgR _, (fun k ⟨a, ha, _⟩ => by cases ha), Fr.refl _ _, rfl⟩ ?_
  rintro _ ⟨l, ws, a, i, _⟩ w3 ⟨n, out, word, hn, hnl, hws, hwl, hol, hsl, hsf, f3, hst⟩
  dsimp only at hn hws hsl hsf hst ⊢
  subst hn; subst hws
  refine ifB.dec (fun hlt => ?_) (fun hge => ?_)
  rotate_left
  · have : n = L.length := by omega
    subst this
    rw [List.drop_length] at hst
    rw [← hst]
    exact ⟨l, rfl, hsl, fw2.trans f3⟩
  have hnL : n < L.length := by omega
  have hx3 : IsR w3 x L := IsSl.keep0 hx f3
  refine hx3.ld (by omega) hlt ?_
  rw [Int.toNat_natCast]
  obtain ⟨r, hr⟩ : ∃ r, L.getD n 0 = r := ⟨_, rfl⟩
  rw [hr]
  have hdr : L.drop n = r :: L.drop (n + 1) := by
    rw [List.drop_eq_getElem_cons hnL, ← hr, List.getD_eq_getElem?_getD, List.getElem?_eq_getElem hnL]; rfl
  rw [hdr] at hst
  have hunf : rsF out word a n (r :: L.drop (n + 1)) = if isLet r = true ∨ r = 45 then rsF out (word ++ enc r) (if word = [] then (n : Int) + 1 else a) ((n : Int) + 1) (L.drop (n + 1)) else
      if r = 40 ∨ r = 41 ∨ r = 44 then rsF ((if word = [] then out else out ++ [(word, a)]) ++ [(enc r, (n : Int) + 1)]) [] a ((n : Int) + 1) (L.drop (n + 1)) else
      if r = 32 then rsF (if word = [] then out else out ++ [(word, a)]) [] a ((n : Int) + 1) (L.drop (n + 1)) else ([], (n : Int) + 1) := rfl
  rw [hunf] at hst
  have hel := enc_len r
  rw [wI (x := (n : Int) + 1) (by omega) (by omega)]
  refine JoinK.of (fun q w' => w3 = w' ∧ (q.1 = true ↔ (isLet r = true ∨ r = 45))) ?_ ?_
  · refine CallK.of (rletter_spec r w3) ?_
    rintro _ _ ⟨rfl, rfl⟩
    refine ⟨_, rfl, ?_⟩
    refine ifB.by (fun h => ?_) (fun h => ?_)
    · exact ⟨rfl, fun _ => .inl h, fun _ => rfl⟩
    · exact ⟨rfl, fun t => .inr (by simpa using t), fun t => t.elim (fun t => by rw [h] at t; cases t) (fun t => by simpa using t)⟩
  rintro _ ⟨q, _⟩ _ ⟨rfl, hq⟩
  dsimp only at hq ⊢
  refine ifB.by (fun hqt => ?_) (fun hqf => ?_)
  · rw [if_pos (hq.1 hqt)] at hst
    rw [str_beq, enc_str]
    have cat : ∀ K : Prop, K → CatK (str word) (str (enc r)) K := fun K k => ⟨by rw [str_size, str_size]; show ((word.length + (enc r).length : Nat) : Int) ≤ 9223372036854775807; omega, k⟩
    refine ifB.dec (fun hw => ?_) (fun hw => ?_)
    · refine cat _ ?_
      rw [if_pos hw] at hst
      rw [str_app]
      exact ⟨⟨n + 1, out, _, by omega, by omega, rfl, by simp only [List.length_append]; omega, by omega, hsl, hsf, f3, hst⟩, by omega⟩
    · refine cat _ ?_
      rw [if_neg hw] at hst
      rw [str_app]
      exact ⟨⟨n + 1, out, _, by omega, by omega, rfl, by simp only [List.length_append]; omega, by omega, hsl, hsf, f3, hst⟩, by omega⟩
  have hq' : ¬ (isLet r = true ∨ r = 45) := fun t => by rw [hq.2 t] at hqf; cases hqf
  rw [if_neg hq'] at hst
  obtain ⟨out', hout⟩ : ∃ o, (if word = [] then out else out ++ [(word, a)]) = o := ⟨_, rfl⟩
  rw [hout] at hst
  have hol' : out'.length ≤ 2 * n + 1 := by
    rw [← hout]
    split
    · omega
    · simp only [List.length_append, List.length_singleton]; omega
  refine JoinK.of (fun q w' => q.2.1 = str [] ∧ IsSgR w' q.1 out' ∧ (∀ k, blkOf q.1 k → w2.heap.size ≤ k) ∧ Fr none1 w2 w') ?_ ?_
  · rw [str_beq]
    refine ifB.by (fun hw => ?_) (fun hw => ?_)
    · have hw' : word ≠ [] := by simpa using hw
      rw [if_neg hw'] at hout
      refine sg_snocR hsl word a (by omega) fun y w4 hy f4 yf => ?_
      refine ⟨rfl, by rw [← hout]; exact hy, fun k hk => ?_, f3.comp f4 (fun k hk t => by have := hsf k t; omega)⟩
      rcases yf k hk with t | t
      · exact hsf k t
      · exact Nat.le_trans f3.size t
    · have hw' : word = [] := by simpa using hw
      rw [if_pos hw'] at hout
      exact ⟨by rw [hw'], by rw [← hout]; exact hsl, hsf, f3⟩
  rintro _ ⟨l', ws, _⟩ w4 ⟨hws, hsl4, hsf4, f4⟩
  dsimp only at hws hsl4 hsf4 ⊢
  subst hws
  have sign : (r = 40 ∨ r = 41 ∨ r = 44) → RunK Tryz.prog (Instr.buildSlice 148 1 #[(0, .agg #[.string (Utf8.encode r), .int .i64 ((n : Int) + 1)])]) w4 (.v (.one .slc)) (fun (x24 : Option Addr × Nat × Nat) w25 => RunK Tryz.prog (Builtin.append_ #[148, 148] 148 #[.slice l'.1 l'.2.1 l'.2.2, .slice x24.1 x24.2.1 x24.2.2]) w25 (.v (.one .slc)) (fun (x26 : Option Addr × Nat × Nat) w27 =>
      (∃ (m : Nat) (out : List SignV) (word : List UInt8), (n : Int) + 1 = m ∧ m ≤ L.length ∧ str [] = str word ∧ word.length ≤ 4 * m ∧ out.length ≤ 2 * m ∧ IsSgR w27 (x26.1, x26.2.1, x26.2.2) out ∧ (∀ k, blkOf (x26.1, x26.2.1, x26.2.2) k → w2.heap.size ≤ k) ∧ Fr none1 w2 w27 ∧ rsF out word a m (L.drop m) = rsF [] [] 0 0 L) ∧ L.length - ((n : Int) + 1).toNat < L.length - (n : Int).toNat)) := fun hs => by
    rw [if_pos hs] at hst
    rw [enc_str]
    refine sg_snocR hsl4 (enc r) ((n : Int) + 1) (by omega) fun y w5 hy f5 yf => ?_
    refine ⟨⟨n + 1, _, [], by omega, by omega, rfl, by simp, by simp only [List.length_append, List.length_singleton]; omega, hy, fun k hk => ?_, f4.comp f5 (fun k hk t => by have := hsf4 k t; omega), hst⟩, by omega⟩
    rcases yf k hk with t | t
    · exact hsf4 k t
    · exact Nat.le_trans f4.size t
  have blank : ¬ (r = 40 ∨ r = 41 ∨ r = 44) → ifB (r == 32) ((∃ (m : Nat) (out : List SignV) (word : List UInt8), (n : Int) + 1 = m ∧ m ≤ L.length ∧ str [] = str word ∧ word.length ≤ 4 * m ∧ out.length ≤ 2 * m ∧ IsSgR w4 (l'.1, l'.2.1, l'.2.2) out ∧ (∀ k, blkOf (l'.1, l'.2.1, l'.2.2) k → w2.heap.size ≤ k) ∧ Fr none1 w2 w4 ∧ rsF out word a m (L.drop m) = rsF [] [] 0 0 L) ∧ L.length - ((n : Int) + 1).toNat < L.length - (n : Int).toNat)
      (∃ sl : Sl, (.tuple #[.slice none 0 0, .int .i64 ((n : Int) + 1)] : Value) = .tuple #[.slice sl.1 sl.2.1 sl.2.2, .int .i64 (rsF [] [] 0 0 L).2] ∧ IsSgR w4 sl (rsF [] [] 0 0 L).1 ∧ Fr none1 w w4) := fun hs => by
    rw [if_neg hs] at hst
    refine ifB.eq (fun h32 => ?_) (fun h32 => ?_)
    · rw [if_pos h32] at hst
      exact ⟨⟨n + 1, _, [], by omega, by omega, rfl, by simp, by omega, hsl4, hsf4, f4, hst⟩, by omega⟩
    · rw [if_neg h32] at hst
      rw [← hst]
      exact ⟨(none, 0, 0), rfl, none_sgR _, fw2.trans f4⟩
  refine ifB.eq (fun h40 => ?_) (fun h40 => ?_)
  · exact ifB.t (by simpa using h40) (sign (.inl h40))
  refine ifB.eq (fun h41 => ?_) (fun h41 => ?_)
  · exact ifB.t (by simpa using h41) (sign (.inr (.inl h41)))
  refine ifB.eq (fun h44 => ?_) (fun h44 => ?_)
  · exact sign (.inr (.inr h44))
  · exact blank (fun t => by rcases t with t | t | t; exact h40 t; exact h41 t; exact h44 t)

end Go.Proofs.YtlhbfdakceipkaaGreatDoor

/-! ### CRefRd -/
namespace Go.Proofs.YtlhbfdakceipkaaGreatDoor
open Vc
set_option maxRecDepth 100000
set_option linter.unusedVariables false
/-- (*handfast/handfastref04.reader).place -/
def C127 (p0 : Addr) (w : World) (K : Value → World → Prop) : Prop :=
  DrewK w (fun w1 => LdK (.int .i64) (p0.add 1) w1 (fun (x2 : Int) => LdK .slc (p0.add 0) w1 (fun (x3 : Option Addr × Nat × Nat) => ifB (decide (x2 < (x3.2.1 : Int)))
  (DrewK w1 (fun w4 => LdK .slc (p0.add 0) w4 (fun (x5 : Option Addr × Nat × Nat) => LdK (.int .i64) (p0.add 1) w4 (fun (x6 : Int) => IdxK x5.1 x5.2.1 x6 2 (fun a7 => LdK (.int .i64) (a7.add 1) w4 (fun (x8 : Int) => K (.int .i64 x8) w4))))))
  (LdK (.int .i64) (p0.add 2) w1 (fun (x9 : Int) => K (.int .i64 x9) w1)))))
def pl127 : Plan := (.seq .auto (.seq (.seq .still (.cond (.seq .still .auto) .auto)) .auto))
theorem e127 (p0 : Addr) (w : World) (K : Value → World → Prop) : vcFunc Tryz.prog Tryz.f127 pl127 [.pointer (some p0)] w K = C127 p0 w K := by kernel_rfl
theorem c127 (p0 : Addr) (w : World) (K : Value → World → Prop) (h : C127 p0 w K) : Ret Tryz.prog 127 #[.pointer (some p0)] w K := by
  rw [← e127] at h
  exact vcFunc_sound (by kernel_rfl) Tryz.func127 h

/-- (*handfast/handfastref04.reader).fail -/
def C70 (p0 : Addr) (p1 : Int) (w : World) (K : Value → World → Prop) : Prop :=
  LdK (.int .i64) (p0.add 4) w (fun (x1 : Int) => ifB (x1 == 0)
  (CallK Tryz.prog 127 #[.pointer (some p0)] w (.v (.one (.int .i64))) (fun (x2 : Int) w3 => StK (p0.add 3) (.int .i64 x2) w3 (fun w4 => StK (p0.add 4) (.int .i64 p1) w4 (fun w5 => K (.tuple #[]) w5))))
  (K (.tuple #[]) w))
def pl70 : Plan := .auto
theorem e70 (p0 : Addr) (p1 : Int) (w : World) (K : Value → World → Prop) : vcFunc Tryz.prog Tryz.f70 pl70 [.pointer (some p0), .int .i64 p1] w K = C70 p0 p1 w K := by kernel_rfl
theorem c70 (p0 : Addr) (p1 : Int) (w : World) (K : Value → World → Prop) (h : C70 p0 p1 w K) : Ret Tryz.prog 70 #[.pointer (some p0), .int .i64 p1] w K := by
  rw [← e70] at h
  exact vcFunc_sound (by kernel_rfl) Tryz.func70 h

/-- (*handfast/handfastref04.reader).next -/
def C122 (p0 : Addr) (w : World) (K : Value → World → Prop) : Prop :=
  DrewK w (fun w1 => LdK (.int .i64) (p0.add 1) w1 (fun (x2 : Int) => LdK .slc (p0.add 0) w1 (fun (x3 : Option Addr × Nat × Nat) => ifB (decide (x2 ≥ (x3.2.1 : Int)))
  (K (.string (⟨#[]⟩ : ByteArray)) w1)
  (LdK (.int .i64) (p0.add 4) w1 (fun (x4 : Int) => ifB (x4 != 0)
  (K (.string (⟨#[]⟩ : ByteArray)) w1)
  (DrewK w1 (fun w5 => LdK .slc (p0.add 0) w5 (fun (x6 : Option Addr × Nat × Nat) => LdK (.int .i64) (p0.add 1) w5 (fun (x7 : Int) => IdxK x6.1 x6.2.1 x7 2 (fun a8 => LdK .str (a8.add 0) w5 (fun (x9 : ByteArray) => K (.string x9) w5)))))))))))
def pl122 : Plan := (.seq .auto (.seq (.seq .still .auto) (.seq .still .auto)))
theorem e122 (p0 : Addr) (w : World) (K : Value → World → Prop) : vcFunc Tryz.prog Tryz.f122 pl122 [.pointer (some p0)] w K = C122 p0 w K := by kernel_rfl
theorem c122 (p0 : Addr) (w : World) (K : Value → World → Prop) (h : C122 p0 w K) : Ret Tryz.prog 122 #[.pointer (some p0)] w K := by
  rw [← e122] at h
  exact vcFunc_sound (by kernel_rfl) Tryz.func122 h

/-- (*handfast/handfastref04.reader).sign -/
def C125 (p0 : Addr) (p1 : ByteArray) (w : World) (K : Value → World → Prop) : Prop :=
  CallK Tryz.prog 122 #[.pointer (some p0)] w (.v (.one .str)) (fun (x1 : ByteArray) w2 => ifB (!(x1.toList == p1.toList))
  (CallK Tryz.prog 70 #[.pointer (some p0), .int .i64 2] w2 (.tup []) (fun (x3 : Unit) w4 => K (.tuple #[]) w4))
  (LdK (.int .i64) (p0.add 1) w2 (fun (x5 : Int) => StK (p0.add 1) (.int .i64 (IntKind.i64.wrap (x5 + 1))) w2 (fun w6 => K (.tuple #[]) w6))))
def pl125 : Plan := .auto
theorem e125 (p0 : Addr) (p1 : ByteArray) (w : World) (K : Value → World → Prop) : vcFunc Tryz.prog Tryz.f125 pl125 [.pointer (some p0), .string p1] w K = C125 p0 p1 w K := by kernel_rfl
theorem c125 (p0 : Addr) (p1 : ByteArray) (w : World) (K : Value → World → Prop) (h : C125 p0 p1 w K) : Ret Tryz.prog 125 #[.pointer (some p0), .string p1] w K := by
  rw [← e125] at h
  exact vcFunc_sound (by kernel_rfl) Tryz.func125 h

/-- (*handfast/handfastref04.reader).name -/
def C126 (p0 : Addr) (w : World) (K : Value → World → Prop) : Prop :=
  CallK Tryz.prog 122 #[.pointer (some p0)] w (.v (.one .str)) (fun (x1 : ByteArray) w2 => CallK Tryz.prog 150 #[.string x1] w2 (.v (.one .bool)) (fun (x3 : Bool) w4 => ifB (!x3)
  (CallK Tryz.prog 70 #[.pointer (some p0), .int .i64 2] w4 (.tup []) (fun (x5 : Unit) w6 => K (.string (⟨#[]⟩ : ByteArray)) w6))
  (LdK (.int .i64) (p0.add 1) w4 (fun (x7 : Int) => StK (p0.add 1) (.int .i64 (IntKind.i64.wrap (x7 + 1))) w4 (fun w8 => K (.string x1) w8)))))
def pl126 : Plan := .auto
theorem e126 (p0 : Addr) (w : World) (K : Value → World → Prop) : vcFunc Tryz.prog Tryz.f126 pl126 [.pointer (some p0)] w K = C126 p0 w K := by kernel_rfl
theorem c126 (p0 : Addr) (w : World) (K : Value → World → Prop) (h : C126 p0 w K) : Ret Tryz.prog 126 #[.pointer (some p0)] w K := by
  rw [← e126] at h
  exact vcFunc_sound (by kernel_rfl) Tryz.func126 h

/-- (*handfast/handfastref04.reader).number -/
def C124 (p0 : Addr) (p1 : Bool) (w : World) (K : Value → World → Prop) : Prop :=
  CallK Tryz.prog 122 #[.pointer (some p0)] w (.v (.one .str)) (fun (x1 : ByteArray) w2 => CallK Tryz.prog 159 #[.string x1] w2 (.tup [.one (.int .i64), .one .bool]) (fun (x3 : Int × Bool × Unit) w4 => JoinK (Bool × Unit) (fun J5 => ifB (!x3.2.1)
  (J5 (true, ()) w4)
  (ifB p1
  (ifB (decide (x3.1 < 0))
  (J5 (true, ()) w4)
  (J5 (decide (x3.1 > 10000), ()) w4))
  (J5 (false, ()) w4)))
  (fun _ s6 w7 => ifB s6.1
  (CallK Tryz.prog 70 #[.pointer (some p0), .int .i64 2] w7 (.tup []) (fun (x8 : Unit) w9 => K (.int .i64 0) w9))
  (LdK (.int .i64) (p0.add 1) w7 (fun (x10 : Int) => StK (p0.add 1) (.int .i64 (IntKind.i64.wrap (x10 + 1))) w7 (fun w11 => K (.int .i64 x3.1) w11))))))
def pl124 : Plan := (.seq .auto (.seq .auto (.seq (.join [(25, .one .bool)] .auto .auto) .auto)))
theorem e124 (p0 : Addr) (p1 : Bool) (w : World) (K : Value → World → Prop) : vcFunc Tryz.prog Tryz.f124 pl124 [.pointer (some p0), .bool p1] w K = C124 p0 p1 w K := by kernel_rfl
theorem c124 (p0 : Addr) (p1 : Bool) (w : World) (K : Value → World → Prop) (h : C124 p0 p1 w K) : Ret Tryz.prog 124 #[.pointer (some p0), .bool p1] w K := by
  rw [← e124] at h
  exact vcFunc_sound (by kernel_rfl) Tryz.func124 h

/-- (*handfast/handfastref04.reader).tree -/
def C69 (p0 : Addr) (p1 : Bool) (p2 : Int) (w : World) (K : Value → World → Prop) : Prop :=
  NewK (.cells #[.int .i64 0, .string (⟨#[]⟩ : ByteArray), .int .i64 0, .slice none 0 0] 33) w (fun g1 w2 => JoinK (Unit) (fun J3 => ifB (decide (p2 > 12))
  (CallK Tryz.prog 70 #[.pointer (some p0), .int .i64 5] w2 (.tup []) (fun (x6 : Unit) w7 => J3 (()) w7))
  (J3 (()) w2))
  (fun _ s4 w5 => CallK Tryz.prog 122 #[.pointer (some p0)] w5 (.v (.one .str)) (fun (x8 : ByteArray) w9 => CallK Tryz.prog 123 #[.string x8, .bool p1] w9 (.v (.one (.int .i64))) (fun (x10 : Int) w11 => JoinK (Bool × Unit) (fun J12 => ifB (x10 == 0)
  (J12 (p1, ()) w11)
  (J12 (false, ()) w11))
  (fun _ s13 w14 => ifB s13.1
  (CallK Tryz.prog 124 #[.pointer (some p0), .bool false] w14 (.v (.one (.int .i64))) (fun (x15 : Int) w16 => StsK (⟨g1, 0, none⟩ : Addr) [.int .i64 11, .string (⟨#[]⟩ : ByteArray), .int .i64 x15, .slice none 0 0] w16 (fun w17 => LdsK [.int .i64, .str, .int .i64, .slc] (⟨g1, 0, none⟩ : Addr) w17 (fun (x18 : Int × ByteArray × Int × (Option Addr × Nat × Nat) × Unit) => K (.agg #[.int .i64 x18.1, .string x18.2.1, .int .i64 x18.2.2.1, .slice x18.2.2.2.1.1 x18.2.2.2.1.2.1 x18.2.2.2.1.2.2]) w17))))
  (ifB (x10 == 0)
  (CallK Tryz.prog 70 #[.pointer (some p0), .int .i64 2] w14 (.tup []) (fun (x19 : Unit) w20 => StsK (⟨g1, 0, none⟩ : Addr) [.int .i64 0, .string (⟨#[]⟩ : ByteArray), .int .i64 0, .slice none 0 0] w20 (fun w21 => LdsK [.int .i64, .str, .int .i64, .slc] (⟨g1, 0, none⟩ : Addr) w21 (fun (x22 : Int × ByteArray × Int × (Option Addr × Nat × Nat) × Unit) => K (.agg #[.int .i64 x22.1, .string x22.2.1, .int .i64 x22.2.2.1, .slice x22.2.2.2.1.1 x22.2.2.2.1.2.1 x22.2.2.2.1.2.2]) w21))))
  (LdK (.int .i64) (p0.add 1) w14 (fun (x23 : Int) => StK (p0.add 1) (.int .i64 (IntKind.i64.wrap (x23 + 1))) w14 (fun w24 => NewK (.cells #[.int .i64 0, .string (⟨#[]⟩ : ByteArray), .int .i64 0, .slice none 0 0] 33) w24 (fun g25 w26 => StsK (⟨g25, 0, none⟩ : Addr) [.int .i64 x10, .string (⟨#[]⟩ : ByteArray), .int .i64 0, .slice none 0 0] w26 (fun w27 => ifB (x10 == 1)
  (LdsK [.int .i64, .str, .int .i64, .slc] (⟨g25, 0, none⟩ : Addr) w27 (fun (x28 : Int × ByteArray × Int × (Option Addr × Nat × Nat) × Unit) => StsK (⟨g1, 0, none⟩ : Addr) [.int .i64 x28.1, .string x28.2.1, .int .i64 x28.2.2.1, .slice x28.2.2.2.1.1 x28.2.2.2.1.2.1 x28.2.2.2.1.2.2] w27 (fun w29 => LdsK [.int .i64, .str, .int .i64, .slc] (⟨g1, 0, none⟩ : Addr) w29 (fun (x30 : Int × ByteArray × Int × (Option Addr × Nat × Nat) × Unit) => K (.agg #[.int .i64 x30.1, .string x30.2.1, .int .i64 x30.2.2.1, .slice x30.2.2.2.1.1 x30.2.2.2.1.2.1 x30.2.2.2.1.2.2]) w29))))
  (CallK Tryz.prog 125 #[.pointer (some p0), .string (⟨#[40]⟩ : ByteArray)] w27 (.tup []) (fun (x31 : Unit) w32 => NewK (.map #[] 0) w32 (fun g33 w34 => RunU Tryz.prog (Instr.mapUpdate 239 (.map (some g33)) (.int .i64 3) (.int .i64 1)) w34 (fun w35 => RunU Tryz.prog (Instr.mapUpdate 239 (.map (some g33)) (.int .i64 4) (.int .i64 2)) w35 (fun w36 => RunU Tryz.prog (Instr.mapUpdate 239 (.map (some g33)) (.int .i64 5) (.int .i64 2)) w36 (fun w37 => RunU Tryz.prog (Instr.mapUpdate 239 (.map (some g33)) (.int .i64 6) (.int .i64 2)) w37 (fun w38 => RunU Tryz.prog (Instr.mapUpdate 239 (.map (some g33)) (.int .i64 7) (.int .i64 1)) w38 (fun w39 => RunU Tryz.prog (Instr.mapUpdate 239 (.map (some g33)) (.int .i64 8) (.int .i64 3)) w39 (fun w40 => RunU Tryz.prog (Instr.mapUpdate 239 (.map (some g33)) (.int .i64 13) (.int .i64 2)) w40 (fun w41 => RunU Tryz.prog (Instr.mapUpdate 239 (.map (some g33)) (.int .i64 14) (.int .i64 1)) w41 (fun w42 => RunU Tryz.prog (Instr.mapUpdate 239 (.map (some g33)) (.int .i64 15) (.int .i64 2)) w42 (fun w43 => RunU Tryz.prog (Instr.mapUpdate 239 (.map (some g33)) (.int .i64 16) (.int .i64 2)) w43 (fun w44 => RunK Tryz.prog (Instr.lookup 239 (.map (some g33)) (.int .i64 x10) false) w44 (.v (.one (.int .i64))) (fun (x45 : Int) w46 => JoinK (Unit) (fun J47 => JoinK (Bool × Unit) (fun J50 => ifB (x10 == 2)
  (J50 ((x10 == 2), ()) w46)
  (ifB (x10 == 5)
  (J50 ((x10 == 5), ()) w46)
  (J50 ((x10 == 12), ()) w46)))
  (fun _ s51 w52 => ifB s51.1
  (CallK Tryz.prog 126 #[.pointer (some p0)] w52 (.v (.one .str)) (fun (x53 : ByteArray) w54 => StK ((⟨g25, 0, none⟩ : Addr).add 1) (.string x53) w54 (fun w55 => J47 (()) w55)))
  (ifB (x10 == 7)
  (CallK Tryz.prog 124 #[.pointer (some p0), .bool true] w52 (.v (.one (.int .i64))) (fun (x56 : Int) w57 => StK ((⟨g25, 0, none⟩ : Addr).add 2) (.int .i64 x56) w57 (fun w58 => J47 (()) w58)))
  (J47 (()) w52))))
  (fun _ s48 w49 => LoopK (Int × Unit) (fun _ s59 w60 next61 => ifB (decide (s59.1 < x45))
  (LdK (.int .i64) (p0.add 4) w60 (fun (x62 : Int) => ifB (x62 == 0)
  (JoinK (Bool × Unit) (fun J63 => ifB (decide (s59.1 > 0))
  (J63 (true, ()) w60)
  (ifB (x10 == 5)
  (J63 (true, ()) w60)
  (J63 ((x10 == 7), ()) w60)))
  (fun _ s64 w65 => ifB s64.1
  (CallK Tryz.prog 125 #[.pointer (some p0), .string (⟨#[44]⟩ : ByteArray)] w65 (.tup []) (fun (x66 : Unit) w67 => DrewK w67 (fun w68 => HoldK (fun S69 => InK S69 ((⟨g25, 0, none⟩ : Addr).add 3) (LdK .slc ((⟨g25, 0, none⟩ : Addr).add 3) w68 (fun (x70 : Option Addr × Nat × Nat) => ifB p1
  (CallK Tryz.prog 69 #[.pointer (some p0), .bool true, .int .i64 (IntKind.i64.wrap (p2 + 1))] w68 (.v (.agg [.int .i64, .str, .int .i64, .slc])) (fun (x71 : Int × ByteArray × Int × (Option Addr × Nat × Nat) × Unit) w72 => KeepK S69 w68 w72 (RunK Tryz.prog (Instr.buildSlice 31 1 #[(0, .agg #[.int .i64 x71.1, .string x71.2.1, .int .i64 x71.2.2.1, .slice x71.2.2.2.1.1 x71.2.2.2.1.2.1 x71.2.2.2.1.2.2])]) w72 (.v (.one .slc)) (fun (x73 : Option Addr × Nat × Nat) w74 => KeepK S69 w72 w74 (RunK Tryz.prog (Builtin.append_ #[31, 31] 31 #[.slice x70.1 x70.2.1 x70.2.2, .slice x73.1 x73.2.1 x73.2.2]) w74 (.v (.one .slc)) (fun (x75 : Option Addr × Nat × Nat) w76 => StK ((⟨g25, 0, none⟩ : Addr).add 3) (.slice x75.1 x75.2.1 x75.2.2) w76 (fun w77 => next61 (IntKind.i64.wrap (s59.1 + 1), ()) w77)))))))
  (ifB (s59.1 == 0)
  (ifB (x10 == 6)
  (CallK Tryz.prog 69 #[.pointer (some p0), .bool true, .int .i64 (IntKind.i64.wrap (p2 + 1))] w68 (.v (.agg [.int .i64, .str, .int .i64, .slc])) (fun (x78 : Int × ByteArray × Int × (Option Addr × Nat × Nat) × Unit) w79 => KeepK S69 w68 w79 (RunK Tryz.prog (Instr.buildSlice 31 1 #[(0, .agg #[.int .i64 x78.1, .string x78.2.1, .int .i64 x78.2.2.1, .slice x78.2.2.2.1.1 x78.2.2.2.1.2.1 x78.2.2.2.1.2.2])]) w79 (.v (.one .slc)) (fun (x80 : Option Addr × Nat × Nat) w81 => KeepK S69 w79 w81 (RunK Tryz.prog (Builtin.append_ #[31, 31] 31 #[.slice x70.1 x70.2.1 x70.2.2, .slice x80.1 x80.2.1 x80.2.2]) w81 (.v (.one .slc)) (fun (x82 : Option Addr × Nat × Nat) w83 => StK ((⟨g25, 0, none⟩ : Addr).add 3) (.slice x82.1 x82.2.1 x82.2.2) w83 (fun w84 => next61 (IntKind.i64.wrap (s59.1 + 1), ()) w84)))))))
  (CallK Tryz.prog 69 #[.pointer (some p0), .bool (x10 == 8), .int .i64 (IntKind.i64.wrap (p2 + 1))] w68 (.v (.agg [.int .i64, .str, .int .i64, .slc])) (fun (x85 : Int × ByteArray × Int × (Option Addr × Nat × Nat) × Unit) w86 => KeepK S69 w68 w86 (RunK Tryz.prog (Instr.buildSlice 31 1 #[(0, .agg #[.int .i64 x85.1, .string x85.2.1, .int .i64 x85.2.2.1, .slice x85.2.2.2.1.1 x85.2.2.2.1.2.1 x85.2.2.2.1.2.2])]) w86 (.v (.one .slc)) (fun (x87 : Option Addr × Nat × Nat) w88 => KeepK S69 w86 w88 (RunK Tryz.prog (Builtin.append_ #[31, 31] 31 #[.slice x70.1 x70.2.1 x70.2.2, .slice x87.1 x87.2.1 x87.2.2]) w88 (.v (.one .slc)) (fun (x89 : Option Addr × Nat × Nat) w90 => StK ((⟨g25, 0, none⟩ : Addr).add 3) (.slice x89.1 x89.2.1 x89.2.2) w90 (fun w91 => next61 (IntKind.i64.wrap (s59.1 + 1), ()) w91))))))))
  (CallK Tryz.prog 69 #[.pointer (some p0), .bool false, .int .i64 (IntKind.i64.wrap (p2 + 1))] w68 (.v (.agg [.int .i64, .str, .int .i64, .slc])) (fun (x92 : Int × ByteArray × Int × (Option Addr × Nat × Nat) × Unit) w93 => KeepK S69 w68 w93 (RunK Tryz.prog (Instr.buildSlice 31 1 #[(0, .agg #[.int .i64 x92.1, .string x92.2.1, .int .i64 x92.2.2.1, .slice x92.2.2.2.1.1 x92.2.2.2.1.2.1 x92.2.2.2.1.2.2])]) w93 (.v (.one .slc)) (fun (x94 : Option Addr × Nat × Nat) w95 => KeepK S69 w93 w95 (RunK Tryz.prog (Builtin.append_ #[31, 31] 31 #[.slice x70.1 x70.2.1 x70.2.2, .slice x94.1 x94.2.1 x94.2.2]) w95 (.v (.one .slc)) (fun (x96 : Option Addr × Nat × Nat) w97 => StK ((⟨g25, 0, none⟩ : Addr).add 3) (.slice x96.1 x96.2.1 x96.2.2) w97 (fun w98 => next61 (IntKind.i64.wrap (s59.1 + 1), ()) w98))))))))))))))
  (DrewK w65 (fun w99 => HoldK (fun S100 => InK S100 ((⟨g25, 0, none⟩ : Addr).add 3) (LdK .slc ((⟨g25, 0, none⟩ : Addr).add 3) w99 (fun (x101 : Option Addr × Nat × Nat) => ifB p1
  (CallK Tryz.prog 69 #[.pointer (some p0), .bool true, .int .i64 (IntKind.i64.wrap (p2 + 1))] w99 (.v (.agg [.int .i64, .str, .int .i64, .slc])) (fun (x102 : Int × ByteArray × Int × (Option Addr × Nat × Nat) × Unit) w103 => KeepK S100 w99 w103 (RunK Tryz.prog (Instr.buildSlice 31 1 #[(0, .agg #[.int .i64 x102.1, .string x102.2.1, .int .i64 x102.2.2.1, .slice x102.2.2.2.1.1 x102.2.2.2.1.2.1 x102.2.2.2.1.2.2])]) w103 (.v (.one .slc)) (fun (x104 : Option Addr × Nat × Nat) w105 => KeepK S100 w103 w105 (RunK Tryz.prog (Builtin.append_ #[31, 31] 31 #[.slice x101.1 x101.2.1 x101.2.2, .slice x104.1 x104.2.1 x104.2.2]) w105 (.v (.one .slc)) (fun (x106 : Option Addr × Nat × Nat) w107 => StK ((⟨g25, 0, none⟩ : Addr).add 3) (.slice x106.1 x106.2.1 x106.2.2) w107 (fun w108 => next61 (IntKind.i64.wrap (s59.1 + 1), ()) w108)))))))
  (ifB (s59.1 == 0)
  (ifB (x10 == 6)
  (CallK Tryz.prog 69 #[.pointer (some p0), .bool true, .int .i64 (IntKind.i64.wrap (p2 + 1))] w99 (.v (.agg [.int .i64, .str, .int .i64, .slc])) (fun (x109 : Int × ByteArray × Int × (Option Addr × Nat × Nat) × Unit) w110 => KeepK S100 w99 w110 (RunK Tryz.prog (Instr.buildSlice 31 1 #[(0, .agg #[.int .i64 x109.1, .string x109.2.1, .int .i64 x109.2.2.1, .slice x109.2.2.2.1.1 x109.2.2.2.1.2.1 x109.2.2.2.1.2.2])]) w110 (.v (.one .slc)) (fun (x111 : Option Addr × Nat × Nat) w112 => KeepK S100 w110 w112 (RunK Tryz.prog (Builtin.append_ #[31, 31] 31 #[.slice x101.1 x101.2.1 x101.2.2, .slice x111.1 x111.2.1 x111.2.2]) w112 (.v (.one .slc)) (fun (x113 : Option Addr × Nat × Nat) w114 => StK ((⟨g25, 0, none⟩ : Addr).add 3) (.slice x113.1 x113.2.1 x113.2.2) w114 (fun w115 => next61 (IntKind.i64.wrap (s59.1 + 1), ()) w115)))))))
  (CallK Tryz.prog 69 #[.pointer (some p0), .bool (x10 == 8), .int .i64 (IntKind.i64.wrap (p2 + 1))] w99 (.v (.agg [.int .i64, .str, .int .i64, .slc])) (fun (x116 : Int × ByteArray × Int × (Option Addr × Nat × Nat) × Unit) w117 => KeepK S100 w99 w117 (RunK Tryz.prog (Instr.buildSlice 31 1 #[(0, .agg #[.int .i64 x116.1, .string x116.2.1, .int .i64 x116.2.2.1, .slice x116.2.2.2.1.1 x116.2.2.2.1.2.1 x116.2.2.2.1.2.2])]) w117 (.v (.one .slc)) (fun (x118 : Option Addr × Nat × Nat) w119 => KeepK S100 w117 w119 (RunK Tryz.prog (Builtin.append_ #[31, 31] 31 #[.slice x101.1 x101.2.1 x101.2.2, .slice x118.1 x118.2.1 x118.2.2]) w119 (.v (.one .slc)) (fun (x120 : Option Addr × Nat × Nat) w121 => StK ((⟨g25, 0, none⟩ : Addr).add 3) (.slice x120.1 x120.2.1 x120.2.2) w121 (fun w122 => next61 (IntKind.i64.wrap (s59.1 + 1), ()) w122))))))))
  (CallK Tryz.prog 69 #[.pointer (some p0), .bool false, .int .i64 (IntKind.i64.wrap (p2 + 1))] w99 (.v (.agg [.int .i64, .str, .int .i64, .slc])) (fun (x123 : Int × ByteArray × Int × (Option Addr × Nat × Nat) × Unit) w124 => KeepK S100 w99 w124 (RunK Tryz.prog (Instr.buildSlice 31 1 #[(0, .agg #[.int .i64 x123.1, .string x123.2.1, .int .i64 x123.2.2.1, .slice x123.2.2.2.1.1 x123.2.2.2.1.2.1 x123.2.2.2.1.2.2])]) w124 (.v (.one .slc)) (fun (x125 : Option Addr × Nat × Nat) w126 => KeepK S100 w124 w126 (RunK Tryz.prog (Builtin.append_ #[31, 31] 31 #[.slice x101.1 x101.2.1 x101.2.2, .slice x125.1 x125.2.1 x125.2.2]) w126 (.v (.one .slc)) (fun (x127 : Option Addr × Nat × Nat) w128 => StK ((⟨g25, 0, none⟩ : Addr).add 3) (.slice x127.1 x127.2.1 x127.2.2) w128 (fun w129 => next61 (IntKind.i64.wrap (s59.1 + 1), ()) w129)))))))))))))))
  (CallK Tryz.prog 125 #[.pointer (some p0), .string (⟨#[41]⟩ : ByteArray)] w60 (.tup []) (fun (x130 : Unit) w131 => LdsK [.int .i64, .str, .int .i64, .slc] (⟨g25, 0, none⟩ : Addr) w131 (fun (x132 : Int × ByteArray × Int × (Option Addr × Nat × Nat) × Unit) => StsK (⟨g1, 0, none⟩ : Addr) [.int .i64 x132.1, .string x132.2.1, .int .i64 x132.2.2.1, .slice x132.2.2.2.1.1 x132.2.2.2.1.2.1 x132.2.2.2.1.2.2] w131 (fun w133 => LdsK [.int .i64, .str, .int .i64, .slc] (⟨g1, 0, none⟩ : Addr) w133 (fun (x134 : Int × ByteArray × Int × (Option Addr × Nat × Nat) × Unit) => K (.agg #[.int .i64 x134.1, .string x134.2.1, .int .i64 x134.2.2.1, .slice x134.2.2.2.1.1 x134.2.2.2.1.2.1 x134.2.2.2.1.2.2]) w133)))))))
  (CallK Tryz.prog 125 #[.pointer (some p0), .string (⟨#[41]⟩ : ByteArray)] w60 (.tup []) (fun (x135 : Unit) w136 => LdsK [.int .i64, .str, .int .i64, .slc] (⟨g25, 0, none⟩ : Addr) w136 (fun (x137 : Int × ByteArray × Int × (Option Addr × Nat × Nat) × Unit) => StsK (⟨g1, 0, none⟩ : Addr) [.int .i64 x137.1, .string x137.2.1, .int .i64 x137.2.2.1, .slice x137.2.2.2.1.1 x137.2.2.2.1.2.1 x137.2.2.2.1.2.2] w136 (fun w138 => LdsK [.int .i64, .str, .int .i64, .slc] (⟨g1, 0, none⟩ : Addr) w138 (fun (x139 : Int × ByteArray × Int × (Option Addr × Nat × Nat) × Unit) => K (.agg #[.int .i64 x139.1, .string x139.2.1, .int .i64 x139.2.2.1, .slice x139.2.2.2.1.1 x139.2.2.2.1.2.1 x139.2.2.2.1.2.2]) w138))))))
  (0, ()) w49))))))))))))))))))))))))))
def pl69 : Plan := (.seq .auto (.join [] .auto (.seq .auto (.seq .auto (.seq (.join [(25, .one .bool)] .auto .auto) (.seq .auto (.seq .auto (.seq .auto (.seq .auto (.seq .auto (.seq .auto (.join [] (.seq .auto (.block (.join [(53, .one .bool)] .auto .auto))) (.seq (.seq .auto (.block (.loop [(11, .one (.int .i64))] (.seq .auto (.seq (.block (.seq (.join [(86, .one .bool)] .auto .auto) (.held (.soft 0 (.soft 1 (.soft 2 (.soft 3 (.soft 4 (.soft 5 (.soft 6 (.soft 7 (.soft 8 (.soft 9 (.soft 10 (.soft 11 (.soft 12 (.soft 13 (.soft 14 (.soft 15 (.soft 16 (.soft 17 (.pick 18 (.pick 19 (.last 20 (.soft 21 (.last 22 .done))) .stop) .stop)))))))))))))))))))))) .auto))))) .auto)))))))))))))
theorem e69 (p0 : Addr) (p1 : Bool) (p2 : Int) (w : World) (K : Value → World → Prop) : vcFunc Tryz.prog Tryz.f69 pl69 [.pointer (some p0), .bool p1, .int .i64 p2] w K = C69 p0 p1 p2 w K := by kernel_rfl
theorem c69 (p0 : Addr) (p1 : Bool) (p2 : Int) (w : World) (K : Value → World → Prop) (h : C69 p0 p1 p2 w K) : Ret Tryz.prog 69 #[.pointer (some p0), .bool p1, .int .i64 p2] w K := by
  rw [← e69] at h
  exact vcFunc_sound (by kernel_rfl) Tryz.func69 h

/-- handfast/handfastref04.kind -/
def C123 (p0 : ByteArray) (p1 : Bool) (w : World) (K : Value → World → Prop) : Prop :=
  LoopK (Int × Unit) (fun _ s1 w2 next3 => ifB (decide (s1.1 ≤ 16))
  (ifB (!(p0.toList == (⟨#[]⟩ : ByteArray).toList))
  (CallK Tryz.prog 151 #[.int .i64 s1.1] w2 (.v (.one .str)) (fun (x4 : ByteArray) w5 => ifB (x4.toList == p0.toList)
  (ifB ((decide (s1.1 ≥ 11)) == p1)
  (K (.int .i64 s1.1) w5)
  (next3 (IntKind.i64.wrap (s1.1 + 1), ()) w5))
  (next3 (IntKind.i64.wrap (s1.1 + 1), ()) w5)))
  (next3 (IntKind.i64.wrap (s1.1 + 1), ()) w2))
  (K (.int .i64 0) w2))
  (1, ()) w
def pl123 : Plan := (.seq .auto (.seq (.seq .auto (.block (.loop [(5, .one (.int .i64))] .auto))) .auto))
theorem e123 (p0 : ByteArray) (p1 : Bool) (w : World) (K : Value → World → Prop) : vcFunc Tryz.prog Tryz.f123 pl123 [.string p0, .bool p1] w K = C123 p0 p1 w K := by kernel_rfl
theorem c123 (p0 : ByteArray) (p1 : Bool) (w : World) (K : Value → World → Prop) (h : C123 p0 p1 w K) : Ret Tryz.prog 123 #[.string p0, .bool p1] w K := by
  rw [← e123] at h
  exact vcFunc_sound (by kernel_rfl) Tryz.func123 h

/-- handfast/handfastref04.Read -/
def C27 (p0 : ByteArray) (p1 : Bool) (w : World) (K : Value → World → Prop) : Prop :=
  NewK (.cells #[.int .i64 0, .string (⟨#[]⟩ : ByteArray), .int .i64 0, .slice none 0 0] 33) w (fun g1 w2 => ifB (decide ((p0.size : Int) > 1000))
  (StsK (⟨g1, 0, none⟩ : Addr) [.int .i64 0, .string (⟨#[]⟩ : ByteArray), .int .i64 0, .slice none 0 0] w2 (fun w3 => LdsK [.int .i64, .str, .int .i64, .slc] (⟨g1, 0, none⟩ : Addr) w3 (fun (x4 : Int × ByteArray × Int × (Option Addr × Nat × Nat) × Unit) => K (.tuple #[.agg #[.int .i64 x4.1, .string x4.2.1, .int .i64 x4.2.2.1, .slice x4.2.2.2.1.1 x4.2.2.2.1.2.1 x4.2.2.2.1.2.2], .int .i64 0, .int .i64 5]) w3)))
  (CallK Tryz.prog 67 #[.string p0] w2 (.tup [.one .slc, .one (.int .i64)]) (fun (x5 : (Option Addr × Nat × Nat) × Int × Unit) w6 => ifB (decide (x5.2.1 > 0))
  (StsK (⟨g1, 0, none⟩ : Addr) [.int .i64 0, .string (⟨#[]⟩ : ByteArray), .int .i64 0, .slice none 0 0] w6 (fun w7 => LdsK [.int .i64, .str, .int .i64, .slc] (⟨g1, 0, none⟩ : Addr) w7 (fun (x8 : Int × ByteArray × Int × (Option Addr × Nat × Nat) × Unit) => K (.tuple #[.agg #[.int .i64 x8.1, .string x8.2.1, .int .i64 x8.2.2.1, .slice x8.2.2.2.1.1 x8.2.2.2.1.2.1 x8.2.2.2.1.2.2], .int .i64 x5.2.1, .int .i64 2]) w7)))
  (CallK Tryz.prog 68 #[.string p0] w6 (.v (.one (.int .i64))) (fun (x9 : Int) w10 => NewK (.cells #[.slice x5.1.1 x5.1.2.1 x5.1.2.2, .int .i64 0, .int .i64 (IntKind.i64.wrap (x9 + 1)), .int .i64 0, .int .i64 0] 154) w10 (fun g11 w12 => CallK Tryz.prog 69 #[.pointer (some (⟨g11, 0, none⟩ : Addr)), .bool p1, .int .i64 1] w12 (.v (.agg [.int .i64, .str, .int .i64, .slc])) (fun (x13 : Int × ByteArray × Int × (Option Addr × Nat × Nat) × Unit) w14 => NewK (.cells #[.int .i64 0, .string (⟨#[]⟩ : ByteArray), .int .i64 0, .slice none 0 0] 33) w14 (fun g15 w16 => StsK (⟨g15, 0, none⟩ : Addr) [.int .i64 x13.1, .string x13.2.1, .int .i64 x13.2.2.1, .slice x13.2.2.2.1.1 x13.2.2.2.1.2.1 x13.2.2.2.1.2.2] w16 (fun w17 => JoinK (Bool × Unit) (fun J18 => LdK (.int .i64) ((⟨g11, 0, none⟩ : Addr).add 4) w17 (fun (x21 : Int) => ifB (x21 == 0)
  (LdK (.int .i64) ((⟨g11, 0, none⟩ : Addr).add 1) w17 (fun (x22 : Int) => J18 (decide (x22 < (x5.1.2.1 : Int)), ()) w17))
  (J18 (false, ()) w17)))
  (fun _ s19 w20 => ifB s19.1
  (CallK Tryz.prog 70 #[.pointer (some (⟨g11, 0, none⟩ : Addr)), .int .i64 2] w20 (.tup []) (fun (x23 : Unit) w24 => LdK (.int .i64) ((⟨g11, 0, none⟩ : Addr).add 4) w24 (fun (x25 : Int) => ifB (x25 != 0)
  (DrewK w24 (fun w26 => HoldK (fun S27 => InK S27 ((⟨g11, 0, none⟩ : Addr).add 3) (LdK (.int .i64) ((⟨g11, 0, none⟩ : Addr).add 3) w26 (fun (x28 : Int) => InK S27 ((⟨g11, 0, none⟩ : Addr).add 4) (LdK (.int .i64) ((⟨g11, 0, none⟩ : Addr).add 4) w26 (fun (x29 : Int) => StsK (⟨g1, 0, none⟩ : Addr) [.int .i64 0, .string (⟨#[]⟩ : ByteArray), .int .i64 0, .slice none 0 0] w26 (fun w30 => KeepK S27 w26 w30 (LdsK [.int .i64, .str, .int .i64, .slc] (⟨g1, 0, none⟩ : Addr) w30 (fun (x31 : Int × ByteArray × Int × (Option Addr × Nat × Nat) × Unit) => K (.tuple #[.agg #[.int .i64 x31.1, .string x31.2.1, .int .i64 x31.2.2.1, .slice x31.2.2.2.1.1 x31.2.2.2.1.2.1 x31.2.2.2.1.2.2], .int .i64 x28, .int .i64 x29]) w30))))))))))
  (LdsK [.int .i64, .str, .int .i64, .slc] (⟨g15, 0, none⟩ : Addr) w24 (fun (x32 : Int × ByteArray × Int × (Option Addr × Nat × Nat) × Unit) => CallK Tryz.prog 71 #[.agg #[.int .i64 x32.1, .string x32.2.1, .int .i64 x32.2.2.1, .slice x32.2.2.2.1.1 x32.2.2.2.1.2.1 x32.2.2.2.1.2.2], .bool p1] w24 (.v (.one (.int .i64))) (fun (x33 : Int) w34 => ifB (x33 != 0)
  (StsK (⟨g1, 0, none⟩ : Addr) [.int .i64 0, .string (⟨#[]⟩ : ByteArray), .int .i64 0, .slice none 0 0] w34 (fun w35 => LdsK [.int .i64, .str, .int .i64, .slc] (⟨g1, 0, none⟩ : Addr) w35 (fun (x36 : Int × ByteArray × Int × (Option Addr × Nat × Nat) × Unit) => K (.tuple #[.agg #[.int .i64 x36.1, .string x36.2.1, .int .i64 x36.2.2.1, .slice x36.2.2.2.1.1 x36.2.2.2.1.2.1 x36.2.2.2.1.2.2], .int .i64 0, .int .i64 x33]) w35)))
  (LdsK [.int .i64, .str, .int .i64, .slc] (⟨g15, 0, none⟩ : Addr) w34 (fun (x37 : Int × ByteArray × Int × (Option Addr × Nat × Nat) × Unit) => StsK (⟨g1, 0, none⟩ : Addr) [.int .i64 x37.1, .string x37.2.1, .int .i64 x37.2.2.1, .slice x37.2.2.2.1.1 x37.2.2.2.1.2.1 x37.2.2.2.1.2.2] w34 (fun w38 => LdsK [.int .i64, .str, .int .i64, .slc] (⟨g1, 0, none⟩ : Addr) w38 (fun (x39 : Int × ByteArray × Int × (Option Addr × Nat × Nat) × Unit) => K (.tuple #[.agg #[.int .i64 x39.1, .string x39.2.1, .int .i64 x39.2.2.1, .slice x39.2.2.2.1.1 x39.2.2.2.1.2.1 x39.2.2.2.1.2.2], .int .i64 0, .int .i64 0]) w38))))))))))
  (LdK (.int .i64) ((⟨g11, 0, none⟩ : Addr).add 4) w20 (fun (x40 : Int) => ifB (x40 != 0)
  (DrewK w20 (fun w41 => HoldK (fun S42 => InK S42 ((⟨g11, 0, none⟩ : Addr).add 3) (LdK (.int .i64) ((⟨g11, 0, none⟩ : Addr).add 3) w41 (fun (x43 : Int) => InK S42 ((⟨g11, 0, none⟩ : Addr).add 4) (LdK (.int .i64) ((⟨g11, 0, none⟩ : Addr).add 4) w41 (fun (x44 : Int) => StsK (⟨g1, 0, none⟩ : Addr) [.int .i64 0, .string (⟨#[]⟩ : ByteArray), .int .i64 0, .slice none 0 0] w41 (fun w45 => KeepK S42 w41 w45 (LdsK [.int .i64, .str, .int .i64, .slc] (⟨g1, 0, none⟩ : Addr) w45 (fun (x46 : Int × ByteArray × Int × (Option Addr × Nat × Nat) × Unit) => K (.tuple #[.agg #[.int .i64 x46.1, .string x46.2.1, .int .i64 x46.2.2.1, .slice x46.2.2.2.1.1 x46.2.2.2.1.2.1 x46.2.2.2.1.2.2], .int .i64 x43, .int .i64 x44]) w45))))))))))
  (LdsK [.int .i64, .str, .int .i64, .slc] (⟨g15, 0, none⟩ : Addr) w20 (fun (x47 : Int × ByteArray × Int × (Option Addr × Nat × Nat) × Unit) => CallK Tryz.prog 71 #[.agg #[.int .i64 x47.1, .string x47.2.1, .int .i64 x47.2.2.1, .slice x47.2.2.2.1.1 x47.2.2.2.1.2.1 x47.2.2.2.1.2.2], .bool p1] w20 (.v (.one (.int .i64))) (fun (x48 : Int) w49 => ifB (x48 != 0)
  (StsK (⟨g1, 0, none⟩ : Addr) [.int .i64 0, .string (⟨#[]⟩ : ByteArray), .int .i64 0, .slice none 0 0] w49 (fun w50 => LdsK [.int .i64, .str, .int .i64, .slc] (⟨g1, 0, none⟩ : Addr) w50 (fun (x51 : Int × ByteArray × Int × (Option Addr × Nat × Nat) × Unit) => K (.tuple #[.agg #[.int .i64 x51.1, .string x51.2.1, .int .i64 x51.2.2.1, .slice x51.2.2.2.1.1 x51.2.2.2.1.2.1 x51.2.2.2.1.2.2], .int .i64 0, .int .i64 x48]) w50)))
  (LdsK [.int .i64, .str, .int .i64, .slc] (⟨g15, 0, none⟩ : Addr) w49 (fun (x52 : Int × ByteArray × Int × (Option Addr × Nat × Nat) × Unit) => StsK (⟨g1, 0, none⟩ : Addr) [.int .i64 x52.1, .string x52.2.1, .int .i64 x52.2.2.1, .slice x52.2.2.2.1.1 x52.2.2.2.1.2.1 x52.2.2.2.1.2.2] w49 (fun w53 => LdsK [.int .i64, .str, .int .i64, .slc] (⟨g1, 0, none⟩ : Addr) w53 (fun (x54 : Int × ByteArray × Int × (Option Addr × Nat × Nat) × Unit) => K (.tuple #[.agg #[.int .i64 x54.1, .string x54.2.1, .int .i64 x54.2.2.1, .slice x54.2.2.2.1.1 x54.2.2.2.1.2.1 x54.2.2.2.1.2.2], .int .i64 0, .int .i64 0]) w53)))))))))))))))))))
def pl27 : Plan := (.seq .auto (.seq .auto (.seq .auto (.seq .auto (.seq .auto (.seq .auto (.seq (.join [(47, .one .bool)] .auto .auto) (.seq (.seq .auto (.cond (.seq (.held (.soft 0 (.soft 1 (.soft 2 (.soft 3 (.soft 4 (.soft 5 (.soft 6 (.soft 7 (.soft 8 (.pick 9 (.soft 10 (.soft 11 .done)) .stop))))))))))) .auto) .auto)) .auto))))))))
theorem e27 (p0 : ByteArray) (p1 : Bool) (w : World) (K : Value → World → Prop) : vcFunc Tryz.prog Tryz.f27 pl27 [.string p0, .bool p1] w K = C27 p0 p1 w K := by kernel_rfl
theorem c27 (p0 : ByteArray) (p1 : Bool) (w : World) (K : Value → World → Prop) (h : C27 p0 p1 w K) : Ret Tryz.prog 27 #[.string p0, .bool p1] w K := by
  rw [← e27] at h
  exact vcFunc_sound (by kernel_rfl) Tryz.func27 h

/-- handfast/handfastref01.Count -/
def C68 (p0 : ByteArray) (w : World) (K : Value → World → Prop) : Prop :=
  CallK Tryz.prog 120 #[.string p0] w (.v (.one .slc)) (fun (x1 : Option Addr × Nat × Nat) w2 => K (.int .i64 (x1.2.1 : Int)) w2)
def pl68 : Plan := .auto
theorem e68 (p0 : ByteArray) (w : World) (K : Value → World → Prop) : vcFunc Tryz.prog Tryz.f68 pl68 [.string p0] w K = C68 p0 w K := by kernel_rfl
theorem c68 (p0 : ByteArray) (w : World) (K : Value → World → Prop) (h : C68 p0 w K) : Ret Tryz.prog 68 #[.string p0] w K := by
  rw [← e68] at h
  exact vcFunc_sound (by kernel_rfl) Tryz.func68 h

end Go.Proofs.YtlhbfdakceipkaaGreatDoor

/-! ### RefReadSpec -/
set_option linter.unusedVariables false
set_option maxRecDepth 100000
namespace Go.Proofs.YtlhbfdakceipkaaGreatDoor
open Vc

/-! ### Steps, plain -/
theorem take_step {fin : Int} {right : List UInt8 → Bool} {s : RS} (h0 : right [] = false) (h : right (nextF s) = true) : takeF fin right s = (nextF s, stepF s) ∧ s.l ≠ [] := by
  obtain ⟨l, a, e⟩ := s
  by_cases he : e = 0
  · subst he
    cases l with
    | nil => rw [show nextF ⟨[], a, 0⟩ = [] from rfl, h0] at h; cases h
    | cons x l => rw [show nextF ⟨x :: l, a, 0⟩ = x.1 from rfl] at h ⊢; exact ⟨takeF_hit h, by simp⟩
  · rw [nextF_err (s := ⟨l, a, e⟩) he, h0] at h; cases h
theorem take_fail {fin : Int} {right : List UInt8 → Bool} {s : RS} (h : right (nextF s) = false) : takeF fin right s = ([], failF fin 2 s) := by
  obtain ⟨l, a, e⟩ := s
  by_cases he : e = 0
  · subst he
    cases l with
    | nil => rw [takeF_nil]; rfl
    | cons x l => rw [show nextF ⟨x :: l, a, 0⟩ = x.1 from rfl] at h; rw [takeF_miss (by rw [h]; decide)]; rfl
  · rw [takeF_err (s := ⟨l, a, e⟩) he, failF_err (s := ⟨l, a, e⟩) he]
theorem must_step {fin : Int} {x : List UInt8} {s : RS} (hx : x ≠ []) (h : nextF s = x) : mustF fin x s = stepF s ∧ s.l ≠ [] := by
  have := take_step (fin := fin) (right := fun y => decide (y = x)) (s := s) (decide_eq_false fun t => hx t.symm) (decide_eq_true h)
  exact ⟨by unfold mustF; rw [this.1], this.2⟩
theorem must_fail {fin : Int} {x : List UInt8} {s : RS} (h : nextF s ≠ x) : mustF fin x s = failF fin 2 s := by
  unfold mustF; rw [take_fail (decide_eq_false h)]
theorem nameL_nil : nameL [] = false := by decide
theorem numF_nil : numF [] = (0, false) := by decide +kernel
theorem numOk_nil (d : Bool) : numOk d [] = false := by cases d <;> decide +kernel

/-! ### The reader -/
def rrObj (sl : Sl) (n : Nat) (fin : Int) (s : RS) : Obj := .cells #[.slice sl.1 sl.2.1 sl.2.2, .int .i64 n, .int .i64 fin, .int .i64 s.at_, .int .i64 s.e] 154 (0, 0)
/-- The document's reader in block b; it and its signs lie below m. -/
structure IsRr (w : World) (m b N : Nat) (fin : Int) (s : RS) : Prop where
  out : ∃ (sl : Sl) (L : List SignV) (n : Nat), w.heap[b]? = some (rrObj sl n fin s) ∧ IsSgR w sl L ∧ s.l = L.drop n ∧ n ≤ L.length ∧ (L.length ≤ 1000000 ∧ L.length = N) ∧ (∀ x ∈ L, x.1.length ≤ 10000) ∧ ∀ k, blkOf sl k → k < m ∧ k ≠ b
  lt : b < m
  le : m ≤ w.heap.size
theorem IsRr.keep {w w' : World} {m b N : Nat} {fin : Int} {s : RS} (h : IsRr w m b N fin s) {S : Nat → Prop} (f : Fr S w w') (hn : ∀ k, k < m → ¬ S k) : IsRr w' m b N fin s := by
  obtain ⟨⟨sl, L, n, hb, hs, h1, h2, h3, h4, h5⟩, hlt, hle⟩ := h
  exact ⟨⟨sl, L, n, f.keep hb (hn b hlt), hs.keep f (fun k hk => hn k (h5 k hk).1), h1, h2, h3, h4, h5⟩, hlt, Nat.le_trans hle f.size⟩
theorem IsRr.keep0 {w w' : World} {m b N : Nat} {fin : Int} {s : RS} (h : IsRr w m b N fin s) (f : Fr none1 w w') : IsRr w' m b N fin s := h.keep f (fun _ _ t => t)
theorem IsRr.next_len {w : World} {m b N : Nat} {fin : Int} {s : RS} (h : IsRr w m b N fin s) : (nextF s).length ≤ 10000 := by
  obtain ⟨⟨sl, L, n, hb, hs, h1, h2, h3, h4, h5⟩, hlt, hle⟩ := h
  unfold nextF
  split
  · split
    · rename_i x l hl
      refine h4 _ (List.mem_of_mem_drop (i := n) ?_)
      rw [← h1, hl]; simp
    · simp
  · simp
/-- The sign that is next. -/
theorem drop_next {L : List SignV} {n : Nat} (h : n < L.length) : ∃ x, L[n]? = some x ∧ L.drop n = x :: L.drop (n + 1) :=
  ⟨L[n], List.getElem?_eq_getElem h, List.drop_eq_getElem_cons h⟩

theorem rr_place {w : World} {m b N : Nat} {fin : Int} {s : RS} (h : IsRr w m b N fin s) : Ret Tryz.prog 127 #[.pointer (some ⟨b, 0, none⟩)] w fun r w' => r = .int .i64 (placeF fin s) ∧ Fr none1 w w' := by
  refine c127 _ w _ ?_
  obtain ⟨⟨sl, L, n, hb, hs, h1, h2, h3, h4, h5⟩, hlt, hle⟩ := h
  have hl := hs.len
  unfold C127
  refine DrewK.of fun w1 _ f1 => LdK.fld (f1.keep0 hb) (x := (n : Int)) rfl (LdK.fld (f1.keep0 hb) (x := sl) rfl ?_)
  unfold placeF
  refine ifB.dec (fun hn => ?_) (fun hn => ?_)
  · obtain ⟨x, hx, hd⟩ := drop_next (L := L) (n := n) (by omega)
    rw [h1, hd]
    refine DrewK.of fun w2 _ f2 => LdK.fld ((f1.trans f2).keep0 hb) (x := sl) rfl (LdK.fld ((f1.trans f2).keep0 hb) (x := (n : Int)) rfl ?_)
    exact sg_ldR (hs.keep0 (f1.trans f2)) (i := (n : Int)) (by omega) (by omega) (x := x) (by rw [Int.toNat_natCast]; exact hx) fun a _ k2 _ => k2 _ ⟨rfl, f1.trans f2⟩
  · have : L.drop n = [] := List.drop_eq_nil_of_le (by omega)
    rw [h1, this]
    exact LdK.fld (f1.keep0 hb) (x := fin) rfl ⟨rfl, f1⟩

theorem rr_fail {w : World} {m b N : Nat} {fin : Int} {s : RS} (h : IsRr w m b N fin s) (c : Int) : Ret Tryz.prog 70 #[.pointer (some ⟨b, 0, none⟩), .int .i64 c] w fun r w' => r = .tuple #[] ∧ IsRr w' m b N fin (failF fin c s) ∧ Fr (only b) w w' := by
  refine c70 _ c w _ ?_
  obtain ⟨⟨sl, L, n, hb, hs, h1, h2, h3, h4, h5⟩, hlt, hle⟩ := id h
  unfold C70
  refine LdK.fld hb (x := s.e) rfl ?_
  unfold failF
  refine ifB.eq (fun he => ?_) (fun he => ?_)
  · rw [if_pos he]
    refine CallK.of (rr_place h) ?_
    rintro _ w1 ⟨rfl, f1⟩
    refine ⟨_, rfl, ?_⟩
    refine StK.fld (f1.keep0 hb) (by show 0 + 3 < 5; omega) rfl fun w2 hb2 f2 _ => ?_
    refine StK.fld hb2 (by show 0 + 4 < 5; omega) rfl fun w3 hb3 f3 _ => ?_
    have f : Fr (only b) w w3 := Fr.of0 f1 (f2.trans f3)
    exact ⟨rfl, ⟨⟨sl, L, n, hb3, hs.keep f (fun k hk t => (h5 k hk).2 t), h1, h2, h3, h4, h5⟩, hlt, Nat.le_trans hle f.size⟩, f⟩
  · rw [if_neg he]
    exact ⟨rfl, h, Fr.refl _ _⟩

theorem rr_next {w : World} {m b N : Nat} {fin : Int} {s : RS} (h : IsRr w m b N fin s) : Ret Tryz.prog 122 #[.pointer (some ⟨b, 0, none⟩)] w fun r w' => r = .string (str (nextF s)) ∧ Fr none1 w w' := by
  refine c122 _ w _ ?_
  obtain ⟨⟨sl, L, n, hb, hs, h1, h2, h3, h4, h5⟩, hlt, hle⟩ := h
  have hl := hs.len
  unfold C122
  refine DrewK.of fun w1 _ f1 => LdK.fld (f1.keep0 hb) (x := (n : Int)) rfl (LdK.fld (f1.keep0 hb) (x := sl) rfl ?_)
  unfold nextF
  refine ifB.dec (fun hn => ?_) (fun hn => ?_)
  · have : L.drop n = [] := List.drop_eq_nil_of_le (by omega)
    rw [h1, this]
    exact ⟨by split <;> rfl, f1⟩
  obtain ⟨x, hx, hd⟩ := drop_next (L := L) (n := n) (by omega)
  rw [h1, hd]
  refine LdK.fld (f1.keep0 hb) (x := s.e) rfl (ifB.ne (fun he => ?_) (fun he => ?_))
  · rw [if_neg he]; exact ⟨rfl, f1⟩
  · rw [if_pos he]
    refine DrewK.of fun w2 _ f2 => LdK.fld ((f1.trans f2).keep0 hb) (x := sl) rfl (LdK.fld ((f1.trans f2).keep0 hb) (x := (n : Int)) rfl ?_)
    exact sg_ldR (hs.keep0 (f1.trans f2)) (i := (n : Int)) (by omega) (by omega) (x := x) (by rw [Int.toNat_natCast]; exact hx) fun a k1 _ _ => k1 _ ⟨rfl, f1.trans f2⟩

/-- One sign on. -/
theorem rr_step {w : World} {m b N : Nat} {fin : Int} {s : RS} (h : IsRr w m b N fin s) (hne : s.l ≠ []) {K : World → Prop} (k : ∀ w', IsRr w' m b N fin (stepF s) → Fr (only b) w w' → K w') :
    LdK (.int .i64) ((⟨b, 0, none⟩ : Addr).add 1) w fun (x : Int) => StK ((⟨b, 0, none⟩ : Addr).add 1) (.int .i64 (IntKind.i64.wrap (x + 1))) w fun w' => K w' := by
  obtain ⟨⟨sl, L, n, hb, hs, h1, h2, h3, h4, h5⟩, hlt, hle⟩ := h
  refine LdK.fld hb (x := (n : Int)) rfl ?_
  have hn : n < L.length := Classical.byContradiction fun t => hne (by rw [h1]; exact List.drop_eq_nil_of_le (by omega))
  rw [wI (x := (n : Int) + 1) (by omega) (by omega)]
  refine StK.fld hb (by show 0 + 1 < 5; omega) rfl fun w' hb' f _ => k w' ?_ f
  exact ⟨⟨sl, L, n + 1, hb', hs.keep f (fun k hk t => (h5 k hk).2 t), by show s.l.tail = _; rw [h1, List.tail_drop], by omega, h3, h4, h5⟩, hlt, Nat.le_trans hle f.size⟩

theorem rr_sign {w : World} {m b N : Nat} {fin : Int} {s : RS} (h : IsRr w m b N fin s) (x : List UInt8) (hx : x ≠ []) : Ret Tryz.prog 125 #[.pointer (some ⟨b, 0, none⟩), .string (str x)] w fun r w' => r = .tuple #[] ∧ IsRr w' m b N fin (mustF fin x s) ∧ Fr (only b) w w' := by
  refine c125 _ _ w _ ?_
  unfold C125
  refine CallK.of (rr_next h) ?_
  rintro _ w1 ⟨rfl, f1⟩
  refine ⟨_, rfl, ifB.not (ifB.str (fun e => ?_) (fun e => ?_))⟩
  · have hm := must_step (fin := fin) hx e
    rw [hm.1]
    exact rr_step (h.keep0 f1) hm.2 fun w2 h2 f2 => ⟨rfl, h2, Fr.of0 f1 f2⟩
  · rw [must_fail e]
    refine CallK.of (rr_fail (h.keep0 f1) 2) ?_
    rintro _ w2 ⟨rfl, h2, f2⟩
    exact ⟨(), rfl, rfl, h2, Fr.of0 f1 f2⟩

theorem rr_name {w : World} {m b N : Nat} {fin : Int} {s : RS} (h : IsRr w m b N fin s) : Ret Tryz.prog 126 #[.pointer (some ⟨b, 0, none⟩)] w fun r w' => r = .string (str (takeF fin nameL s).1) ∧ IsRr w' m b N fin (takeF fin nameL s).2 ∧ Fr (only b) w w' := by
  refine c126 _ w _ ?_
  unfold C126
  refine CallK.of (rr_next h) ?_
  rintro _ w1 ⟨rfl, f1⟩
  refine ⟨_, rfl, ?_⟩
  refine CallK.of (rname_spec (nextF s) (by have := h.next_len; omega) w1) ?_
  rintro _ w2 ⟨rfl, f2⟩
  have f12 := f1.trans f2
  refine ⟨_, rfl, ifB.not (ifB.by (fun e => ?_) (fun e => ?_))⟩
  · have hm := take_step (fin := fin) (right := nameL) (s := s) nameL_nil e
    rw [hm.1]
    exact rr_step (h.keep0 f12) hm.2 fun w3 h3 f3 => ⟨rfl, h3, Fr.of0 f12 f3⟩
  · have hm := take_fail (fin := fin) (right := nameL) (s := s) e
    rw [hm]
    refine CallK.of (rr_fail (h.keep0 f12) 2) ?_
    rintro _ w3 ⟨rfl, h3, f3⟩
    exact ⟨(), rfl, rfl, h3, Fr.of0 f12 f3⟩

theorem rr_number {w : World} {m b N : Nat} {fin : Int} {s : RS} (h : IsRr w m b N fin s) (day : Bool) : Ret Tryz.prog 124 #[.pointer (some ⟨b, 0, none⟩), .bool day] w fun r w' => r = .int .i64 (numF (takeF fin (numOk day) s).1).1 ∧ IsRr w' m b N fin (takeF fin (numOk day) s).2 ∧ Fr (only b) w w' := by
  refine c124 _ day w _ ?_
  unfold C124
  refine CallK.of (rr_next h) ?_
  rintro _ w1 ⟨rfl, f1⟩
  refine ⟨_, rfl, ?_⟩
  refine CallK.of (refnum_spec (nextF s) (by have := h.next_len; omega) w1) ?_
  rintro _ w2 ⟨rfl, f2⟩
  have f12 := f1.trans f2
  refine ⟨((numF (nextF s)).1, (numF (nextF s)).2, ()), rfl, ?_⟩
  refine JoinK.of (fun c w' => c.1 = (!(numOk day (nextF s))) ∧ w2 = w') ?_ ?_
  · refine ifB.not (ifB.by (fun e => ?_) (fun e => ?_))
    · refine ifB.by (fun ed => ?_) (fun ed => ?_)
      · refine ifB.dec (fun e0 => ⟨?_, rfl⟩) (fun e0 => ⟨?_, rfl⟩)
        · subst ed; unfold numOk; rw [if_pos rfl]; unfold dayF; rw [decide_eq_false (show ¬ 0 ≤ (numF (nextF s)).1 by omega)]; simp
        · subst ed; unfold numOk; rw [if_pos rfl]; unfold dayF; dsimp only at e; rw [e, decide_eq_true (show 0 ≤ (numF (nextF s)).1 by omega)]
          by_cases hh : (numF (nextF s)).1 ≤ 10000
          · rw [decide_eq_true hh, decide_eq_false (by omega)]; rfl
          · rw [decide_eq_false hh, decide_eq_true (by omega)]; rfl
      · subst ed; exact ⟨by unfold numOk; rw [if_neg (by decide)]; dsimp only at e; rw [e]; rfl, rfl⟩
    · refine ⟨?_, rfl⟩
      dsimp only at e
      cases day
      · unfold numOk; rw [if_neg (by decide), e]; rfl
      · unfold numOk; rw [if_pos rfl]; unfold dayF; rw [e]; rfl
  rintro _ ⟨c, _⟩ _ ⟨hc, rfl⟩
  dsimp only at hc ⊢
  rw [hc]
  refine ifB.not (ifB.by (fun e => ?_) (fun e => ?_))
  · have hm := take_step (fin := fin) (right := numOk day) (s := s) (numOk_nil day) e
    rw [hm.1]
    exact rr_step (h.keep0 f12) hm.2 fun w3 h3 f3 => ⟨rfl, h3, Fr.of0 f12 f3⟩
  · rw [take_fail e]
    refine CallK.of (rr_fail (h.keep0 f12) 2) ?_
    rintro _ w3 ⟨rfl, h3, f3⟩
    exact ⟨(), rfl, by rw [numF_nil], h3, Fr.of0 f12 f3⟩

theorem rr_kind (x : List UInt8) (num : Bool) (w : World) : Ret Tryz.prog 123 #[.string (str x), .bool num] w fun r w' => r = .int .i64 (kindR x num) ∧ Fr none1 w w' := by
  refine c123 _ num w _ ?_
  unfold C123
  refine LoopK.of (fun s w' => ∃ (n : Nat) (k : Int), s.1 = k ∧ 1 ≤ k ∧ k + n = 17 ∧ kindR x num = kindG x num n k ∧ Fr none1 w w') (fun s _ => (17 - s.1).toNat) ⟨16, 1, rfl, by omega, by omega, rfl, Fr.refl _ _⟩ ?_
  rintro _ ⟨k, _⟩ w1 ⟨n, k', rfl, h1, h2, hk, f1⟩
  dsimp only at h1 h2 hk ⊢
  refine ifB.dec (fun hle => ?_) (fun hle => ?_)
  rotate_left
  · have : n = 0 := by omega
    subst this
    exact ⟨by rw [hk]; rfl, f1⟩
  obtain ⟨n', rfl⟩ : ∃ n', n = n' + 1 := ⟨n - 1, by omega⟩
  rw [kindG_eq] at hk
  have e0 : (⟨#[]⟩ : ByteArray) = str [] := rfl
  rw [e0, wI (x := k + 1) (by omega) (by omega)]
  have next : ∀ w2, Fr none1 w1 w2 → ¬ (x ≠ [] ∧ wordL k = x ∧ decide (11 ≤ k) = num) → (∃ (n : Nat) (k' : Int), k + 1 = k' ∧ 1 ≤ k' ∧ k' + n = 17 ∧ kindR x num = kindG x num n k' ∧ Fr none1 w w2) ∧ (17 - (k + 1)).toNat < (17 - k).toNat := fun w2 f2 hno => by
    rw [if_neg hno] at hk
    exact ⟨⟨n', k + 1, rfl, by omega, by omega, hk, f1.trans f2⟩, by omega⟩
  refine ifB.not (ifB.str (fun e => next w1 (Fr.refl _ _) (fun t => t.1 e)) (fun e => ?_))
  refine CallK.of (rword_tab k (by omega) hle w1) ?_
  rintro _ w2 ⟨rfl, f2⟩
  refine ⟨_, rfl, ifB.str (fun e2 => ?_) (fun e2 => next w2 f2 (fun t => e2 t.2.1))⟩
  refine ifB.by (fun e3 => ?_) (fun e3 => next w2 f2 (fun t => ?_))
  · rw [if_pos ⟨e, e2, by simpa using e3⟩] at hk
    exact ⟨by rw [hk], f1.trans f2⟩
  · have e4 : (decide (11 ≤ k) == num) = true := by rw [t.2.2]; exact beq_self_eq_true _
    rw [show (decide (k ≥ 11) == num) = (decide (11 ≤ k) == num) from rfl, e4] at e3; cases e3

end Go.Proofs.YtlhbfdakceipkaaGreatDoor

/-! ### RefReadSpec2 -/
set_option linter.unusedVariables false
set_option maxRecDepth 100000
namespace Go.Proofs.YtlhbfdakceipkaaGreatDoor
open Vc

/-! ### How many parts a kind has -/
theorem upd_ok {w : World} {g : Nat} {M : Int → Option Value} (hm : IsMap w g M) (n : Int) (v : Value) {K : World → Prop} (h : ∀ w', IsMap w' g (fun m => if m = n then some v else M m) → Fr (only g) w w' → K w') :
    RunU Tryz.prog (Instr.mapUpdate 239 (.map (some g)) (.int .i64 n) v) w K := by
  obtain ⟨w', hr, f, _, hm'⟩ := update_ok hm n v Tryz.underlying239 Tryz.underlying3
  exact ⟨w', hr, h w' hm' f⟩
theorem parts_tab (k : Int) : ((if k = 16 then some (Value.int .i64 2) else if k = 15 then some (.int .i64 2) else if k = 14 then some (.int .i64 1) else if k = 13 then some (.int .i64 2) else if k = 8 then some (.int .i64 3) else if k = 7 then some (.int .i64 1)
    else if k = 6 then some (.int .i64 2) else if k = 5 then some (.int .i64 2) else if k = 4 then some (.int .i64 2) else if k = 3 then some (.int .i64 1) else none).getD (.int .i64 0)) = .int .i64 (partsN k) := by
  by_cases h1 : k = 16; · subst h1; rfl
  by_cases h2 : k = 15; · subst h2; rfl
  by_cases h3 : k = 14; · subst h3; rfl
  by_cases h4 : k = 13; · subst h4; rfl
  by_cases h5 : k = 8; · subst h5; rfl
  by_cases h6 : k = 7; · subst h6; rfl
  by_cases h7 : k = 6; · subst h7; rfl
  by_cases h8 : k = 5; · subst h8; rfl
  by_cases h9 : k = 4; · subst h9; rfl
  by_cases h10 : k = 3; · subst h10; rfl
  simp [partsN, h1, h2, h3, h4, h5, h6, h7, h8, h9, h10]
theorem parts_map (k : Int) {w : World} {K : Int → World → Prop} (hK : ∀ w', Fr none1 w w' → K (partsN k) w') :
    NewK (.map #[] 0) w (fun g33 w34 => RunU Tryz.prog (Instr.mapUpdate 239 (.map (some g33)) (.int .i64 3) (.int .i64 1)) w34 (fun w35 => RunU Tryz.prog (Instr.mapUpdate 239 (.map (some g33)) (.int .i64 4) (.int .i64 2)) w35 (fun w36 => RunU Tryz.prog (Instr.mapUpdate 239 (.map (some g33)) (.int .i64 5) (.int .i64 2)) w36 (fun w37 => RunU Tryz.prog (Instr.mapUpdate 239 (.map (some g33)) (.int .i64 6) (.int .i64 2)) w37 (fun w38 => RunU Tryz.prog (Instr.mapUpdate 239 (.map (some g33)) (.int .i64 7) (.int .i64 1)) w38 (fun w39 => RunU Tryz.prog (Instr.mapUpdate 239 (.map (some g33)) (.int .i64 8) (.int .i64 3)) w39 (fun w40 => RunU Tryz.prog (Instr.mapUpdate 239 (.map (some g33)) (.int .i64 13) (.int .i64 2)) w40 (fun w41 => RunU Tryz.prog (Instr.mapUpdate 239 (.map (some g33)) (.int .i64 14) (.int .i64 1)) w41 (fun w42 => RunU Tryz.prog (Instr.mapUpdate 239 (.map (some g33)) (.int .i64 15) (.int .i64 2)) w42 (fun w43 => RunU Tryz.prog (Instr.mapUpdate 239 (.map (some g33)) (.int .i64 16) (.int .i64 2)) w43 (fun w44 => RunK Tryz.prog (Instr.lookup 239 (.map (some g33)) (.int .i64 k) false) w44 (.v (.one (.int .i64))) (fun (x45 : Int) w46 => K x45 w46)))))))))))) := by
  refine NewK.of fun g w1 hg hb f1 _ => ?_
  have m1 := IsMap.new hb
  refine upd_ok m1 3 _ fun w2 m2 f2 => upd_ok m2 4 _ fun w3 m3 f3 => upd_ok m3 5 _ fun w4 m4 f4 => upd_ok m4 6 _ fun w5 m5 f5 => upd_ok m5 7 _ fun w6 m6 f6 => upd_ok m6 8 _ fun w7 m7 f7 => upd_ok m7 13 _ fun w8 m8 f8 => upd_ok m8 14 _ fun w9 m9 f9 => upd_ok m9 15 _ fun w10 m10 f10 => upd_ok m10 16 _ fun w11 m11 f11 => ?_
  have f : Fr none1 w w11 := ((((((((((f1.fresh f2 (by omega)).fresh f3 (by omega)).fresh f4 (by omega)).fresh f5 (by omega)).fresh f6 (by omega)).fresh f7 (by omega)).fresh f8 (by omega)).fresh f9 (by omega)).fresh f10 (by omega)).fresh f11 (by omega))
  refine ⟨((partsN k : Nat) : Int), w11, ?_, hK w11 f⟩
  rw [lookup_ok (.int .i64 0) m11 k false Tryz.underlying239 Tryz.underlying3 (by kernel_rfl)]
  rw [if_neg (by decide)]
  exact congrArg (fun v => Result.ok v w11) (parts_tab k)

/-! ### Trees -/
theorem rr_code {w : World} {m b N : Nat} {fin : Int} {s : RS} (h : IsRr w m b N fin s) {K : Int → Prop} (k : K s.e) : LdK (.int .i64) ((⟨b, 0, none⟩ : Addr).add 4) w K := by
  obtain ⟨⟨sl, L, n, hb, _⟩, hlt, hle⟩ := h
  exact LdK.fld hb (x := s.e) rfl k
theorem rr_tell {w wB wc : World} {m b g N : Nat} {fin : Int} {s : RS} {v0 v : TV} {t : Tr} (h : IsRr wc m b N fin s) (f : Fr (only b) w wc) (hm : m ≤ w.heap.size) (hg : w.heap.size ≤ g) (hgB : g < wB.heap.size) (hB : w.heap.size ≤ wB.heap.size) (tb : TB wc g v0) (hmd : Made wB wc t v) {K : TV → World → Prop}
    (k : ∀ w2, IsRr w2 m b N fin s → Fr (only b) w w2 → Made w w2 t v → K v w2) : StsK ⟨g, 0, none⟩ (tvL v) wc fun w2 => LdsK TVK ⟨g, 0, none⟩ w2 fun x => K x w2 :=
  StsK.blk (cs := tvL v0) (vs := tvL v) tb rfl rfl fun w2 hb2 f2 _ => LdsK.blk (cks := TVK) (x := v) hb2 (k w2 (h.keep f2 fun k hk t => by have : k = g := t; omega) (f.comp f2 fun k hk t => by have : k = g := t; omega) ((hmd.keep f2 fun k hk _ t => by have : k = g := t; omega).older hB))
theorem IsTrs.snoc {w : World} {S : Nat → Prop} : ∀ {ts : List Tr} {vs : List TV} {t : Tr} {v : TV}, IsTrs w S ts vs → IsTr w S t v → IsTrs w S (ts ++ [t]) (vs ++ [v])
  | [], vs, t, v, h, h2 => by unfold IsTrs at h; subst h; unfold IsTrs; exact ⟨v, [], rfl, h2, by unfold IsTrs; rfl⟩
  | t' :: ts, vs, t, v, h, h2 => by
    unfold IsTrs at h
    obtain ⟨v', vs', rfl, h1, h3⟩ := h
    show IsTrs w S (t' :: (ts ++ [t])) _
    unfold IsTrs
    exact ⟨v', vs' ++ [v], rfl, h1, h3.snoc h2⟩

/-- The depth's own error. -/
def deepF (fin : Int) (n : Nat) (s : RS) : RS := if n = 0 then failF fin 5 s else s
theorem treeF_zero {fin : Int} {n : Nat} {num : Bool} {s : RS} (h : kindR (nextF (deepF fin n s)) num = 0) : treeF fin n num s = if num = true then (.mk 11 [] (numF (takeF fin (numOk false) (deepF fin n s)).1).1 [], (takeF fin (numOk false) (deepF fin n s)).2) else (.mk 0 [] 0 [], failF fin 2 (deepF fin n s)) := by
  cases n with
  | zero =>
    have he : (failF fin 5 s).e ≠ 0 := fail_not (by decide)
    unfold treeF deepF
    rw [if_pos rfl, takeF_err he, failF_err he]
    cases num
    · rfl
    · show (Tr.mk 11 [] 0 [], failF fin 5 s) = (Tr.mk 11 [] (numF []).1 [], failF fin 5 s)
      rw [numF_nil]
  | succ n =>
    have hd : deepF fin (n + 1) s = s := if_neg (by omega)
    rw [hd] at h ⊢
    unfold treeF
    rw [if_pos h]

/-- While parts are read. -/
structure Kids (w wB wc : World) (m b g1 g2 N : Nat) (fin : Int) (s : RS) (k : Int) (nm : List UInt8) (nn : Int) (ts : List Tr) (u : Sl) (vs : List TV) (S : Nat → Prop) : Prop where
  rd : IsRr wc m b N fin s
  fr : Fr (only b) w wc
  B : wB.heap.size ≤ wc.heap.size
  t1 : TB wc g1 (0, str [], 0, (none, 0, 0), ())
  t2 : TB wc g2 (k, str nm, nn, u, ())
  sl : IsSl wc 33 4 u (vs.map tvL).flatten
  len : u.2.1 = vs.length
  kids : IsTrs wc S ts vs
  low : ∀ k, blkOf u k → wB.heap.size ≤ k
  off : ∀ k, S k → wB.heap.size ≤ k ∧ k < wc.heap.size ∧ ¬ blkOf u k
structure Spot (w wB : World) (m b g1 g2 : Nat) : Prop where
  bm : b < m
  mw : m ≤ w.heap.size
  wg : w.heap.size ≤ g1
  gg : g1 < g2
  gB : g2 < wB.heap.size
theorem Kids.keep {w wB wc wd : World} {m b g1 g2 N : Nat} {fin : Int} {s s' : RS} {k : Int} {nm : List UInt8} {nn : Int} {ts : List Tr} {u : Sl} {vs : List TV} {S : Nat → Prop} (h : Kids w wB wc m b g1 g2 N fin s k nm nn ts u vs S) (p : Spot w wB m b g1 g2) (f : Fr (only b) wc wd) (hr : IsRr wd m b N fin s') : Kids w wB wd m b g1 g2 N fin s' k nm nn ts u vs S := by
  obtain ⟨p1, p2, p3, p4, p5⟩ := p
  exact ⟨hr, h.fr.trans f, Nat.le_trans h.B f.size, h.t1.keep f (fun t => by have : g1 = b := t; omega), h.t2.keep f (fun t => by have : g2 = b := t; omega), h.sl.keep f (fun k hk t => by have : k = b := t; have := h.low k hk; omega), h.len,
    IsTrs.keep f (fun k hk t => by have : k = b := t; have := (h.off k hk).1; omega) _ _ h.kids, h.low, fun k hk => ⟨(h.off k hk).1, Nat.lt_of_lt_of_le (h.off k hk).2.1 f.size, (h.off k hk).2.2⟩⟩
theorem Kids.keep0 {w wB wc wd : World} {m b g1 g2 N : Nat} {fin : Int} {s : RS} {k : Int} {nm : List UInt8} {nn : Int} {ts : List Tr} {u : Sl} {vs : List TV} {S : Nat → Prop} (h : Kids w wB wc m b g1 g2 N fin s k nm nn ts u vs S) (p : Spot w wB m b g1 g2) (f : Fr none1 wc wd) : Kids w wB wd m b g1 g2 N fin s k nm nn ts u vs S :=
  h.keep p (f.mono fun _ _ t => t.elim) (h.rd.keep0 f)

/-- The tree is told. -/
theorem Kids.tell {w wB wc : World} {m b g1 g2 N : Nat} {fin : Int} {s : RS} {k : Int} {nm : List UInt8} {nn : Int} {ts : List Tr} {u : Sl} {vs : List TV} {S : Nat → Prop} (h : Kids w wB wc m b g1 g2 N fin s k nm nn ts u vs S) (p : Spot w wB m b g1 g2) :
    CallK Tryz.prog 125 #[.pointer (some ⟨b, 0, none⟩), .string (⟨#[41]⟩ : ByteArray)] wc (.tup []) (fun (x130 : Unit) w131 => LdsK TVK ⟨g2, 0, none⟩ w131 (fun (x132 : TV) => StsK ⟨g1, 0, none⟩ (tvL x132) w131 (fun w133 => LdsK TVK ⟨g1, 0, none⟩ w133 (fun (x134 : TV) =>
      ∃ v : TV, tvA x134 = tvA v ∧ Made w w133 (.mk k nm nn ts) v ∧ IsRr w133 m b N fin (mustF fin [41] s) ∧ Fr (only b) w w133)))) := by
  refine CallK.of (rr_sign h.rd [41] (by decide)) ?_
  rintro _ w1 ⟨rfl, h1, f1⟩
  have h1 := h.keep p f1 h1
  refine ⟨(), rfl, h1.t2.ld ?_⟩
  have hm : Made wB w1 (.mk k nm nn ts) (k, str nm, nn, u, ()) := node_made k nm nn h1.sl h1.len h1.low (IsTrs.mono (fun k hk => ⟨(h1.off k hk).1, (h1.off k hk).2.1⟩) _ _ h1.kids)
  have := h1.fr.size
  have p2 := p.wg; have p3 := p.gg; have p4 := p.gB
  exact rr_tell h1.rd h1.fr p.mw p.wg (by omega) (by omega) h1.t1 hm fun w2 r2 f2 m2 => ⟨_, rfl, m2, r2, f2⟩

/-- One part more. -/
theorem Kids.more {w wB wc wd : World} {m b g1 g2 N : Nat} {fin : Int} {s s' : RS} {k : Int} {nm : List UInt8} {nn : Int} {ts : List Tr} {u : Sl} {vs : List TV} {S : Nat → Prop} (h : Kids w wB wc m b g1 g2 N fin s k nm nn ts u vs S) (p : Spot w wB m b g1 g2) (hl : vs.length ≤ 10)
    (hr : IsRr wd m b N fin s') (f : Fr (only b) wc wd) {t : Tr} {v : TV} (hm : Made wc wd t v) {K : World → Prop} (hK : ∀ we u' S', Kids w wB we m b g1 g2 N fin s' k nm nn (ts ++ [t]) u' (vs ++ [v]) S' → K we) :
    KeepK (fun k => k ≠ b) wc wd (RunK Tryz.prog (Instr.buildSlice 31 1 #[(0, tvA v)]) wd (.v (.one .slc)) (fun (x73 : Option Addr × Nat × Nat) w74 => KeepK (fun k => k ≠ b) wd w74 (RunK Tryz.prog (Builtin.append_ #[31, 31] 31 #[.slice u.1 u.2.1 u.2.2, .slice x73.1 x73.2.1 x73.2.2]) w74 (.v (.one .slc)) (fun (x75 : Option Addr × Nat × Nat) w76 => StK ((⟨g2, 0, none⟩ : Addr).add 3) (.slice x75.1 x75.2.1 x75.2.2) w76 K)))) := by
  refine KeepK.on f (fun k hk t => hk t) ?_
  have h1 := h.keep p f hr
  refine tr_lit [v] (by show 1 ≤ 3; omega) fun y w2 hy hyl f2 hyf => KeepK.of f2 ?_
  have h2 := h1.keep0 p f2
  obtain ⟨z, w3, r3, hz, hzl, f3, zf⟩ := append_ok elem_tr 31 h2.sl hy.rd (by
    intro x hx
    simp only [List.map_cons, List.map_nil, List.flatten_cons, List.flatten_nil, List.append_nil, tvL, List.mem_cons, List.not_mem_nil, or_false] at hx
    rcases hx with rfl | rfl | rfl | rfl <;> rfl) (by rw [hyl, h2.len]; simp only [List.length_singleton]; omega)
  refine ⟨z, w3, r3, ?_⟩
  obtain ⟨p1, p2, p3, p4, p5⟩ := p
  have lowU : ∀ k, blkOf u k → wB.heap.size ≤ k := h.low
  have r3 : IsRr w3 m b N fin s' := h2.rd.keep f3 fun k hk t => by have := lowU k t; omega
  have t13 := h2.t1.keep f3 (fun t => by have := lowU _ t; omega)
  have t23 := h2.t2.keep f3 (fun t => by have := lowU _ t; omega)
  have lowZ : ∀ k, blkOf z k → wB.heap.size ≤ k := fun k hk => (zf k hk).elim (lowU k) fun t => by have := h2.B; omega
  refine t23.u z fun w4 t4 f4 => hK w4 z (fun k => S k ∨ since wc wd k) ?_
  have hsd := f.size
  have hs2 := f2.size
  have hs3 := f3.size
  have hs4 := f4.size
  have off1 : ∀ k, since wc wd k → ¬ blkOf u k := fun k hk t => by have := h.sl.lt t; have := hk.1; omega
  have kid : IsTr w4 (since wc wd) t v := IsTr.keep f4 (fun k hk t => by have : k = g2 := t; have := hk.1; have := h.B; omega) t v (IsTr.keep f3 (fun k hk t => off1 k hk t) t v (IsTr.keep0 hm f2))
  have kids : IsTrs w4 S ts vs := IsTrs.keep f4 (fun k hk t => by have : k = g2 := t; have := (h.off k hk).1; omega) _ _ (IsTrs.keep f3 (fun k hk t => (h.off k hk).2.2 t) _ _ h2.kids)
  refine ⟨r3.keep f4 (fun k hk t => by have : k = g2 := t; omega), (h2.fr.comp f3 (fun k hk t => by have := lowU k t; omega)).comp f4 (fun k hk t => by have : k = g2 := t; omega), by have := h2.B; omega, t13.keep f4 (fun t => by have : g1 = g2 := t; omega), t4,
    ?_, by rw [hzl, hyl, h2.len, List.length_append], IsTrs.snoc (IsTrs.mono (fun _ h => .inl h) _ _ kids) (IsTr.mono (fun _ h => .inr h) _ _ kid), lowZ, ?_⟩
  · rw [List.map_append, List.flatten_append]
    exact hz.keep f4 fun k hk t => by have : k = g2 := t; have := lowZ k hk; omega
  · intro k hk
    rcases hk with hk | hk
    · have o := h.off k hk
      exact ⟨o.1, by omega, fun t => (zf k t).elim o.2.2 fun t => by have := o.2.1; omega⟩
    · have := h.B
      exact ⟨by have := hk.1; omega, by have := hk.2; omega, fun t => (zf k t).elim (off1 k hk) fun t => by have := hk.2; omega⟩

theorem kidsR_last {fin : Int} {rec : Bool → RS → Tr × RS} {k : Int} {num : Bool} {i : Nat} {acc : List Tr} {s : RS} : kidsR fin rec k num 0 i acc s = (acc, s) := rfl

theorem pE1 {k : Int} {num : Bool} {j : Nat} (h : j = 0) (h6 : k = 6) (e : num = false) : true = partB k num j := by subst h h6; simp [partB]
theorem pE2 {k : Int} {num : Bool} {j : Nat} (h : j = 0) (h6 : k ≠ 6) (e : num = false) : (k == 8) = partB k num j := by subst h e; simp [partB, h6]
theorem pE3 {k : Int} {num : Bool} {j : Nat} (h : j ≠ 0) (e : num = false) : false = partB k num j := by subst e; simp [partB, h]

theorem rr_tree (fin : Int) : ∀ (n : Nat) {w : World} {m b N : Nat} {s : RS} (h : IsRr w m b N fin s) (num : Bool) (p2 : Int) (hp : p2 + n = 13) (h1 : 1 ≤ p2),
    Ret Tryz.prog 69 #[.pointer (some ⟨b, 0, none⟩), .bool num, .int .i64 p2] w fun r w' => ∃ v : TV, r = tvA v ∧ Made w w' (treeF fin n num s).1 v ∧ IsRr w' m b N fin (treeF fin n num s).2 ∧ Fr (only b) w w' := by
  intro n
  induction n using Nat.strongRecOn with
  | _ n IH =>
  intro w m b N s h num p2 hp hp1
  have hbm := h.lt
  have hmw := h.le
  refine c69 _ num p2 w _ ?_
  unfold C69
  have e40 : (⟨#[40]⟩ : ByteArray) = str [40] := rfl
  have e44 : (⟨#[44]⟩ : ByteArray) = str [44] := rfl
  rw [e40, e44]
  refine TB.new fun g1 w1 hg1 tb1 f1 hs1 => ?_
  refine JoinK.of (fun _ w' => IsRr w' m b N fin (deepF fin n s) ∧ Fr (only b) w1 w') ?_ ?_
  · unfold deepF
    refine ifB.dec (fun e => ?_) (fun e => ?_)
    · rw [if_pos (by omega)]
      refine CallK.of (rr_fail (h.keep0 f1) 5) ?_
      rintro _ w2 ⟨rfl, h2, f2⟩
      exact ⟨(), rfl, h2, f2⟩
    · rw [if_neg (by omega)]
      exact ⟨h.keep0 f1, Fr.refl _ _⟩
  rintro _ _ w2 ⟨h2, f2⟩
  have f12 : Fr (only b) w w2 := Fr.of0 f1 f2
  have tb2 := tb1.keep f2 (fun t => by have : g1 = b := t; omega)
  have hsz1 := f1.size
  have hsz2 := f2.size
  refine CallK.of (rr_next h2) ?_
  rintro _ w3 ⟨rfl, f3⟩
  refine ⟨_, rfl, ?_⟩
  refine CallK.of (rr_kind _ num w3) ?_
  rintro _ w4 ⟨rfl, f4⟩
  refine ⟨_, rfl, ?_⟩
  have f34 := f3.trans f4
  have h4 := h2.keep0 f34
  have tb4 := tb2.keep0 f34
  have f14 : Fr (only b) w w4 := f12.then0 f34
  have hsz4 := f34.size
  obtain ⟨k, hk⟩ : ∃ k, kindR (nextF (deepF fin n s)) num = k := ⟨_, rfl⟩
  rw [hk]
  refine JoinK.of (fun c w' => c.1 = (decide (k = 0) && num) ∧ w4 = w') ?_ ?_
  · exact ifB.eq (fun e => ⟨by simp [e], rfl⟩) (fun e => ⟨by simp [e], rfl⟩)
  rintro _ ⟨c, _⟩ _ ⟨hc, rfl⟩
  dsimp only at hc ⊢
  rw [hc]
  refine ifB.by (fun e => ?_) (fun e => ?_)
  · rw [Bool.and_eq_true, decide_eq_true_eq] at e
    obtain ⟨e0, rfl⟩ := e
    rw [treeF_zero (hk.trans e0), if_pos rfl]
    refine CallK.of (rr_number h4 false) ?_
    rintro _ w5 ⟨rfl, h5, f5⟩
    refine ⟨_, rfl, ?_⟩
    have hsz5 := f5.size
    exact rr_tell (wB := w5) (v := (11, str [], _, (none, 0, 0), ())) h5 (f14.trans f5) hmw (by omega) (by omega) (by omega) (tb4.keep f5 (fun t => by have : g1 = b := t; omega)) (leaf_made _ _ 11 [] _) fun w6 h6 f6 m6 => ⟨_, rfl, m6, h6, f6⟩
  refine ifB.eq (fun e0 => ?_) (fun e0 => ?_)
  · have hnum : num = false := by rw [decide_eq_true e0] at e; simpa using e
    subst hnum
    rw [treeF_zero (hk.trans e0), if_neg (by decide)]
    refine CallK.of (rr_fail h4 2) ?_
    rintro _ w5 ⟨rfl, h5, f5⟩
    refine ⟨(), rfl, ?_⟩
    have hsz5 := f5.size
    exact rr_tell (wB := w5) (v := (0, str [], 0, (none, 0, 0), ())) h5 (f14.trans f5) hmw (by omega) (by omega) (by omega) (tb4.keep f5 (fun t => by have : g1 = b := t; omega)) (leaf_made _ _ 0 [] 0) fun w6 h6 f6 m6 => ⟨_, rfl, m6, h6, f6⟩
  -- some kind
  clear hc e c tb1 tb2
  obtain ⟨n', rfl⟩ : ∃ n', n = n' + 1 := by
    cases n with
    | zero =>
      refine (e0 ?_).elim
      rw [← hk, nextF_err (s := deepF fin 0 s) (fail_not (by decide)), kindR_nil]
    | succ n => exact ⟨n, rfl⟩
  have hd : deepF fin (n' + 1) s = s := if_neg (by omega)
  rw [hd] at hk h2 h4
  have hne : s.l ≠ [] := fun t => by
    refine e0 ?_
    rw [← hk]
    have : nextF s = [] := by unfold nextF; rw [t]; split <;> rfl
    rw [this, kindR_nil]
  refine rr_step h4 hne fun w5 h5 f5 => ?_
  have hsz5 := f5.size
  have tb5 := tb4.keep f5 (fun t => by have : g1 = b := t; omega)
  refine TB.put (k, str [], 0, (none, 0, 0), ()) fun g2 w6 hg2 t26 f6 => ?_
  have hsz6 := f6.size
  have hg26 := lt_of_blk t26
  have f16 : Fr (only b) w w6 := (f14.trans f5).then0 f6
  have h6 := h5.keep0 f6
  have t16 := tb5.keep0 f6
  have hT : treeF fin (n' + 1) num s = if k = 1 then (.mk 1 [] 0 [], stepF s) else bodyF fin (treeF fin n') k num (mustF fin [40] (stepF s)) := by
    rw [treeF, hk, if_neg e0]
  rw [hT]
  refine ifB.eq (fun e1 => ?_) (fun e1 => ?_)
  · subst e1
    rw [if_pos rfl]
    refine t26.ld ?_
    exact rr_tell (wB := w6) h6 f16 hmw (by omega) (by omega) (by omega) t16 (leaf_made _ _ 1 [] 0) fun w7 h7 f7 m7 => ⟨_, rfl, m7, h7, f7⟩
  rw [if_neg e1]
  refine CallK.of (rr_sign h6 [40] (by decide)) ?_
  rintro _ w7 ⟨rfl, h7, f7⟩
  refine ⟨(), rfl, ?_⟩
  have hsz7 := f7.size
  have t17 := t16.keep f7 (fun t => by have : g1 = b := t; omega)
  have t27 := t26.keep f7 (fun t => by have : g2 = b := t; omega)
  refine parts_map k fun w8 f8 => ?_
  have hsz8 := f8.size
  have h8 := h7.keep0 f8
  have t18 := t17.keep0 f8
  have t28 := t27.keep0 f8
  have f18 : Fr (only b) w w8 := (f16.trans f7).then0 f8
  have hk16 := kindR_le (nextF s) num
  rw [hk] at hk16
  generalize mustF fin [40] (stepF s) = s2 at h8 ⊢
  have w25 : str ([] : List UInt8) = (⟨#[]⟩ : ByteArray) := rfl
  refine JoinK.of (fun _ w' => IsRr w' m b N fin (headS fin k s2).2.2 ∧ TB w' g1 (0, str [], 0, (none, 0, 0), ()) ∧ TB w' g2 (k, str (headS fin k s2).1, (headS fin k s2).2.1, (none, 0, 0), ()) ∧ Fr (only b) w w') ?_ ?_
  · refine JoinK.of (fun c w' => (c.1 = true ↔ k = 2 ∨ k = 5 ∨ k = 12) ∧ w8 = w') ?_ ?_
    · refine ifB.eq (fun e => ⟨by simp [e], rfl⟩) (fun e => ifB.eq (fun e' => ⟨by simp [e'], rfl⟩) (fun e' => ⟨by simp [e, e'], rfl⟩))
    rintro _ ⟨c, _⟩ _ ⟨hc, rfl⟩
    dsimp only at hc ⊢
    unfold headS
    refine ifB.by (fun e => ?_) (fun e => ?_)
    · have e' := hc.1 e
      rw [if_pos e']
      refine CallK.of (rr_name h8) ?_
      rintro _ w9 ⟨rfl, h9, f9⟩
      refine ⟨_, rfl, ?_⟩
      have t19 := t18.keep f9 (fun t => by have : g1 = b := t; omega)
      refine (t28.keep f9 (fun t => by have : g2 = b := t; omega)).s _ fun w10 t2a f10 => ?_
      exact ⟨h9.keep f10 (fun k hk t => by have : k = g2 := t; omega), t19.keep f10 (fun t => by have : g1 = g2 := t; omega), t2a, (f18.trans f9).comp f10 (fun k hk t => by have : k = g2 := t; omega)⟩
    · have e' : ¬ (k = 2 ∨ k = 5 ∨ k = 12) := fun t => by rw [hc.2 t] at e; cases e
      rw [if_neg e']
      refine ifB.eq (fun e7 => ?_) (fun e7 => ?_)
      · rw [if_pos e7]
        refine CallK.of (rr_number h8 true) ?_
        rintro _ w9 ⟨rfl, h9, f9⟩
        refine ⟨_, rfl, ?_⟩
        have t19 := t18.keep f9 (fun t => by have : g1 = b := t; omega)
        refine (t28.keep f9 (fun t => by have : g2 = b := t; omega)).n _ fun w10 t2a f10 => ?_
        exact ⟨h9.keep f10 (fun k hk t => by have : k = g2 := t; omega), t19.keep f10 (fun t => by have : g1 = g2 := t; omega), t2a, (f18.trans f9).comp f10 (fun k hk t => by have : k = g2 := t; omega)⟩
      · rw [if_neg e7]
        exact ⟨h8, t18, t28, f18⟩
  rintro _ _ wB ⟨hB, t1B, t2B, fB⟩
  have hszB := fB.size
  have hg2B := lt_of_blk t2B
  unfold bodyF
  generalize (headS fin k s2).1 = nm at t2B ⊢
  generalize (headS fin k s2).2.1 = nn at t2B ⊢
  generalize (headS fin k s2).2.2 = s3 at hB ⊢
  have spot : Spot w wB m b g1 g2 := ⟨hbm, hmw, by omega, by omega, hg2B⟩
  have hpn : partsN k ≤ 3 := by unfold partsN; split; omega; split; omega; split <;> omega
  refine LoopK.of (fun st wc => ∃ (j : Nat) (acc : List Tr) (s' : RS) (u : Sl) (vs : List TV) (S : Nat → Prop), st.1 = j ∧ j ≤ partsN k ∧ vs.length = j ∧ Kids w wB wc m b g1 g2 N fin s' k nm nn acc u vs S ∧
      kidsR fin (treeF fin n') k num (partsN k - j) j acc s' = kidsR fin (treeF fin n') k num (partsN k) 0 [] s3) (fun st _ => partsN k - st.1.toNat)
    ⟨0, [], s3, (none, 0, 0), [], fun _ => False, rfl, by omega, rfl, ⟨hB, fB, Nat.le_refl _, t1B, t2B, .inl ⟨rfl, rfl⟩, rfl, by unfold IsTrs; rfl, fun k t => (none_blk k t).elim, fun k t => t.elim⟩, rfl⟩ ?_
  rintro _ ⟨i, _⟩ wc ⟨j, acc, s', u, vs, S, rfl, hj, hvl, K, hst⟩
  dsimp only
  refine ifB.dec (fun hlt => ?_) (fun hge => ?_)
  rotate_left
  · have : j = partsN k := by omega
    subst this
    rw [Nat.sub_self, kidsR_last] at hst
    rw [← hst]
    exact K.tell spot
  refine rr_code K.rd (ifB.eq (fun he => ?_) (fun he => ?_))
  rotate_left
  · rw [kidsR_err k num _ j acc he] at hst
    rw [← hst]
    exact K.tell spot
  obtain ⟨q, hq⟩ : ∃ q, partsN k - j = q + 1 := ⟨partsN k - j - 1, by omega⟩
  rw [hq, kidsR_ok k num q j acc he] at hst
  have hszc := K.fr.size
  -- a part, the comma behind
  have part : ∀ (bb : Bool) (w68 : World) (s'' : RS), bb = partB k num j → s'' = fst fin k j s' → Kids w wB w68 m b g1 g2 N fin s'' k nm nn acc u vs S →
      CallK Tryz.prog 69 #[.pointer (some ⟨b, 0, none⟩), .bool bb, .int .i64 (IntKind.i64.wrap (p2 + 1))] w68 (.v (.agg TVK)) (fun (x71 : TV) w72 => KeepK (fun k => k ≠ b) w68 w72 (RunK Tryz.prog (Instr.buildSlice 31 1 #[(0, tvA x71)]) w72 (.v (.one .slc)) (fun (x73 : Option Addr × Nat × Nat) w74 => KeepK (fun k => k ≠ b) w72 w74 (RunK Tryz.prog (Builtin.append_ #[31, 31] 31 #[.slice u.1 u.2.1 u.2.2, .slice x73.1 x73.2.1 x73.2.2]) w74 (.v (.one .slc)) (fun (x75 : Option Addr × Nat × Nat) w76 => StK ((⟨g2, 0, none⟩ : Addr).add 3) (.slice x75.1 x75.2.1 x75.2.2) w76 (fun w77 =>
          (∃ (j' : Nat) (acc : List Tr) (s' : RS) (u : Sl) (vs : List TV) (S : Nat → Prop), IntKind.i64.wrap ((j : Int) + 1) = j' ∧ j' ≤ partsN k ∧ vs.length = j' ∧ Kids w wB w77 m b g1 g2 N fin s' k nm nn acc u vs S ∧
            kidsR fin (treeF fin n') k num (partsN k - j') j' acc s' = kidsR fin (treeF fin n') k num (partsN k) 0 [] s3) ∧ partsN k - (IntKind.i64.wrap ((j : Int) + 1)).toNat < partsN k - (j : Int).toNat)))))) := by
    rintro bb w68 s'' rfl rfl KD
    rw [wI (x := p2 + 1) (by omega) (by omega), wI (x := (j : Int) + 1) (by omega) (by omega)]
    refine CallK.of (IH n' (by omega) KD.rd (partB k num j) (p2 + 1) (by omega) (by omega)) ?_
    rintro _ w72 ⟨v, rfl, mv, r72, f72⟩
    refine ⟨v, rfl, ?_⟩
    refine KD.more spot (by omega) r72 f72 mv fun we u' S' KE => ?_
    refine ⟨⟨j + 1, _, _, u', _, S', rfl, by omega, by simp [hvl], KE, ?_⟩, by omega⟩
    rw [show partsN k - (j + 1) = q by omega]
    exact hst
  refine JoinK.of (fun c w' => c.1 = comF k j ∧ wc = w') ?_ ?_
  · unfold comF
    refine ifB.dec (fun e => ⟨by rw [decide_eq_true (show 0 < j by omega)]; rfl, rfl⟩) (fun e => ?_)
    rw [decide_eq_false (show ¬ 0 < j by omega)]
    refine ifB.eq (fun e5 => ⟨by simp [e5], rfl⟩) (fun e5 => ⟨by simp [e5], rfl⟩)
  rintro _ ⟨c, _⟩ _ ⟨hc, rfl⟩
  dsimp only at hc ⊢
  rw [hc]
  refine ifB.by (fun ec => ?_) (fun ec => ?_)
  · refine CallK.of (rr_sign K.rd [44] (by decide)) ?_
    rintro _ w67 ⟨rfl, r67, f67⟩
    have KC := K.keep spot f67 r67
    have hs'' : mustF fin [44] s' = fst fin k j s' := by unfold fst; rw [if_pos ec]
    refine ⟨(), rfl, ?_⟩
    refine DrewK.of fun w68 _ f68 => ?_
    have KD := KC.keep0 spot f68
    refine HoldK.of (fun k => k ≠ b) ⟨by rw [addr_add]; show g2 ≠ b; omega, ?_⟩
    refine LdK.fld KD.t2 (x := u) rfl ?_
    refine ifB.by (fun e => part true _ _ (by simp [partB, e]) hs'' KD) (fun e => ifB.eq (fun e0 => ifB.eq (fun e6 => part true _ _ (pE1 (by omega) e6 e) hs'' KD) (fun e6 => part (k == 8) _ _ (pE2 (by omega) e6 e) hs'' KD)) (fun e0 => part false _ _ (pE3 (by omega) e) hs'' KD))
  · have hs'' : s' = fst fin k j s' := by unfold fst; rw [if_neg (by rw [ec]; decide)]
    refine DrewK.of fun w68 _ f68 => ?_
    have KD := K.keep0 spot f68
    refine HoldK.of (fun k => k ≠ b) ⟨by rw [addr_add]; show g2 ≠ b; omega, ?_⟩
    refine LdK.fld KD.t2 (x := u) rfl ?_
    refine ifB.by (fun e => part true _ _ (by simp [partB, e]) hs'' KD) (fun e => ifB.eq (fun e0 => ifB.eq (fun e6 => part true _ _ (pE1 (by omega) e6 e) hs'' KD) (fun e6 => part (k == 8) _ _ (pE2 (by omega) e6 e) hs'' KD)) (fun e0 => part false _ _ (pE3 (by omega) e) hs'' KD))

end Go.Proofs.YtlhbfdakceipkaaGreatDoor

/-! ### RefReadSpec3 -/
set_option linter.unusedVariables false
set_option maxRecDepth 100000
namespace Go.Proofs.YtlhbfdakceipkaaGreatDoor
open Vc

/-! ### What was read is small -/
theorem shortO_toks (o : Ob) (h : ∀ x ∈ toksO o, x.length ≤ 1000) : shortO o := by
  induction o with
  | none => trivial
  | const n => trivial
  | fix s => exact h s (by simp [toksO])
  | neg o i => exact i fun x hx => h x (by simp [toksO, hx])
  | add l r i j => exact ⟨i fun x hx => h x (by simp [toksO, hx]), j fun x hx => h x (by simp [toksO, hx])⟩
  | mul l r i j => exact ⟨i fun x hx => h x (by simp [toksO, hx]), j fun x hx => h x (by simp [toksO, hx])⟩
  | max l r i j => exact ⟨i fun x hx => h x (by simp [toksO, hx]), j fun x hx => h x (by simp [toksO, hx])⟩
theorem shortT_toks (t : Tm) (h : ∀ x ∈ toksT t, x.length ≤ 1000) : shortT t := by
  induction t with
  | none => trivial
  | zero => trivial
  | one s => exact h s (by simp [toksT])
  | give t i => exact i fun x hx => h x (by simp [toksT, hx])
  | and l r i j => exact ⟨i fun x hx => h x (by simp [toksT, hx]), j fun x hx => h x (by simp [toksT, hx])⟩
  | or s l r i j => exact ⟨h s (by simp [toksT]), i fun x hx => h x (by simp [toksT, hx]), j fun x hx => h x (by simp [toksT, hx])⟩
  | scale o t i => exact ⟨shortO_toks o fun x hx => h x (by simp [toksT, hx]), i fun x hx => h x (by simp [toksT, hx])⟩
  | «when» d t i => exact i fun x hx => h x (by simp [toksT, hx])
  | cond o l r i j => exact ⟨shortO_toks o fun x hx => h x (by simp [toksT, hx]), i fun x hx => h x (by simp [toksT, hx]), j fun x hx => h x (by simp [toksT, hx])⟩
theorem ate_small {bs : List UInt8} (hl : ¬ 1000 < bs.length) (hb : ¬ 0 < (sgF [] 0 false (runesL bs)).2) {ts : List (List UInt8)} {s' : RS} (h : Ate (begR bs) ts s') : ts.length ≤ 1001 ∧ ∀ x ∈ ts, x.length ≤ 1000 := by
  obtain ⟨xs, hx, rfl⟩ := h.eat
  have hx : (sgF [] 0 false (runesL bs)).1 = xs ++ s'.l := hx
  have h1 := sgF_cnt (runesL bs) [] 0 false
  have h2 := runesL_len bs
  have h3 := sgF_bytes hb
  rw [hx] at h1 h3
  refine ⟨by simp only [List.length_append, List.length_map, List.length_nil] at h1 ⊢; omega, fun x hm => ?_⟩
  obtain ⟨y, hy, rfl⟩ := List.mem_map.1 hm
  have := mem_lenS (x := y) (l := xs ++ s'.l) (List.mem_append_left _ hy)
  omega
theorem tree_small {bs : List UInt8} (hl : ¬ 1000 < bs.length) (hb : ¬ 0 < (sgF [] 0 false (runesL bs)).2) (num : Bool) (he : (treeF (endF bs) 12 num (begR bs)).2.e = 0) : cntR (treeF (endF bs) 12 num (begR bs)).1 ≤ 1000000 ∧ shortR (treeF (endF bs) 12 num (begR bs)).1 := by
  cases num
  · have hs := sameT_con (endF bs) 12 (begR bs)
    rw [hs.1] at he
    rw [hs.2 he]
    have ha := ate_small hl hb (conR_inv (endF bs) 12 (begR bs) he).1
    have h1 := nodesT_toks (conR (endF bs) 12 (begR bs)).1
    have h2 := cnt_trT (conR (endF bs) 12 (begR bs)).1
    exact ⟨by omega, short_trT _ (shortT_toks _ ha.2)⟩
  · have hs := sameO_num (endF bs) 12 (begR bs)
    rw [hs.1] at he
    rw [hs.2 he]
    have ha := ate_small hl hb (numR_inv (endF bs) 12 (begR bs) he).1
    have h1 := nodesO_toks (numR (endF bs) 12 (begR bs)).1
    have h2 := cnt_trO (numR (endF bs) 12 (begR bs)).1
    exact ⟨by omega, short_trO _ (shortO_toks _ ha.2)⟩

theorem rr_count (bs : List UInt8) (hl : bs.length ≤ 1000000) (w : World) : Ret Tryz.prog 68 #[.string (str bs)] w fun r w' => r = .int .i64 ((runesL bs).length : Int) ∧ Fr none1 w w' := by
  refine c68 _ w _ ?_
  unfold C68
  refine CallK.of (rrunes_spec bs hl w) ?_
  rintro _ w1 ⟨v, rfl, hv, f1, _⟩
  refine ⟨v, rfl, ?_⟩
  have := IsR.len hv
  exact ⟨by rw [this], f1⟩

/-- A result, told through its own block. -/
theorem tell0 {w wc : World} {g : Nat} {v0 v : TV} {t : Tr} (f : Fr none1 w wc) (hg : w.heap.size ≤ g) (tb : TB wc g v0) {S : Nat → Prop} (hm : IsTr wc S t v) (hS : ∀ k, S k → w.heap.size ≤ k ∧ k < wc.heap.size ∧ k ≠ g) {K : TV → World → Prop}
    (k : ∀ w2, Fr none1 w w2 → Made w w2 t v → K v w2) : StsK ⟨g, 0, none⟩ (tvL v) wc fun w2 => LdsK TVK ⟨g, 0, none⟩ w2 fun x => K x w2 :=
  StsK.blk (cs := tvL v0) (vs := tvL v) tb rfl rfl fun w2 hb2 f2 _ => LdsK.blk (cks := TVK) (x := v) hb2 (k w2 (f.fresh f2 hg) (IsTr.mono (fun k hk => ⟨(hS k hk).1, Nat.lt_of_lt_of_le (hS k hk).2.1 f2.size⟩) _ _ (IsTr.keep f2 (fun k hk t => (hS k hk).2.2 t) _ _ hm)))
theorem tell_leaf {w wc : World} {g : Nat} {v0 : TV} (f : Fr none1 w wc) (hg : w.heap.size ≤ g) (tb : TB wc g v0) (k : Int) (s : List UInt8) (n : Int) {K : TV → World → Prop}
    (hk : ∀ w2, Fr none1 w w2 → Made w w2 (.mk k s n []) (k, str s, n, (none, 0, 0), ()) → K (k, str s, n, (none, 0, 0), ()) w2) : StsK ⟨g, 0, none⟩ (tvL (k, str s, n, (none, 0, 0), ())) wc fun w2 => LdsK TVK ⟨g, 0, none⟩ w2 fun x => K x w2 :=
  tell0 (S := fun _ => False) f hg tb (IsTr.mono (fun k hk => by have := hk.1; have := hk.2; omega) _ _ (leaf_made wc wc k s n)) (fun k t => t.elim) hk

theorem rread_spec (bs : List UInt8) (hl : bs.length ≤ 100000) (num : Bool) (w : World) : Ret Tryz.prog 27 #[.string (str bs), .bool num] w fun r w' =>
    ∃ v : TV, r = .tuple #[tvA v, .int .i64 (readR bs num).2.1, .int .i64 (readR bs num).2.2] ∧ Made w w' (readR bs num).1 v ∧ Fr none1 w w' := by
  refine c27 _ num w _ ?_
  unfold C27
  unfold readR
  refine TB.new fun g1 w1 hg1 tb1 f1 hs1 => ?_
  rw [str_size]
  refine ifB.dec (fun h1000 => ?_) (fun h1000 => ?_)
  · rw [if_pos (by omega)]
    exact tell_leaf f1 (by omega) tb1 0 [] 0 fun w2 f2 m2 => ⟨_, rfl, m2, f2⟩
  rw [if_neg (by omega)]
  refine CallK.of (rsigns_spec bs (by omega) w1) ?_
  rintro _ w2 ⟨sl, rfl, hsl, f2⟩
  refine ⟨(sl, (sgF [] 0 false (runesL bs)).2, ()), rfl, ?_⟩
  dsimp only
  have f12 := f1.trans f2
  have tb2 := tb1.keep0 f2
  refine ifB.dec (fun hb => ?_) (fun hb => ?_)
  · rw [if_pos (by omega)]
    exact tell_leaf f12 (by omega) tb2 0 [] 0 fun w2 f2 m2 => ⟨_, rfl, m2, f2⟩
  have hb : ¬ 0 < (sgF [] 0 false (runesL bs)).2 := by omega
  rw [if_neg hb]
  refine CallK.of (rr_count bs (by omega) w2) ?_
  rintro _ w3 ⟨rfl, f3⟩
  refine ⟨_, rfl, ?_⟩
  have hrl := runesL_len bs
  rw [wI (x := ((runesL bs).length : Int) + 1) (by omega) (by omega)]
  have hfin : ((runesL bs).length : Int) + 1 = endF bs := rfl
  rw [hfin]
  refine NewK.of fun g w4 hg hb4 f4 hs4 => ?_
  have f14 := (f12.trans f3).trans f4
  have hsz := (f12.trans f3).size
  have hs3 := f3.size
  have hsl4 := hsl.keep0 (f3.trans f4)
  have hcnt := sgF_cnt (runesL bs) [] 0 false
  have R : IsRr w4 w4.heap.size g (sgF [] 0 false (runesL bs)).1.length (endF bs) (begR bs) := by
    refine ⟨⟨sl, (sgF [] 0 false (runesL bs)).1, 0, hb4, hsl4, rfl, by omega, ⟨by simp only [List.length_nil] at hcnt; omega, rfl⟩, signs_short (by omega), fun k hk => ?_⟩, by omega, Nat.le_refl _⟩
    have := (hsl.keep0 f3).sl.lt hk
    omega
  have tb4 := (tb2.keep0 f3).keep0 f4
  have hg1lt := lt_of_blk tb2
  refine CallK.of (rr_tree (endF bs) 12 R num 1 (by omega) (by omega)) ?_
  rintro _ w5 ⟨v, rfl, mv, R5, f5⟩
  refine ⟨v, rfl, ?_⟩
  have hg1g : g1 ≠ g := by omega
  have tb5 := tb4.keep f5 (fun t => hg1g t)
  have f15 : Fr none1 w w5 := f14.fresh f5 (by omega)
  refine TB.put v fun g2 w6 hg2 t26 f6 => ?_
  have hsz5 := f5.size
  have tb6 := tb5.keep0 f6
  have R6 := R5.keep0 f6
  have m6 := mv.keep0 f6
  have f16 := f15.trans f6
  have hsz6 := f6.size
  have hg26 := lt_of_blk t26
  obtain ⟨s5, hs5⟩ : ∃ s, (treeF (endF bs) 12 num (begR bs)).2 = s := ⟨_, rfl⟩
  have hsm := tree_small (by omega) hb num
  rw [hs5] at R6 hsm ⊢
  obtain ⟨t5, ht5⟩ : ∃ t, (treeF (endF bs) 12 num (begR bs)).1 = t := ⟨_, rfl⟩
  rw [ht5] at m6 hsm ⊢
  have bad : ∀ (w20 : World) (s' : RS), Fr none1 w w20 → IsRr w20 w4.heap.size g (sgF [] 0 false (runesL bs)).1.length (endF bs) s' → TB w20 g1 (0, str [], 0, (none, 0, 0), ()) →
      DrewK w20 (fun w26 => HoldK (fun S27 => InK S27 ((⟨g, 0, none⟩ : Addr).add 3) (LdK (.int .i64) ((⟨g, 0, none⟩ : Addr).add 3) w26 (fun (x28 : Int) => InK S27 ((⟨g, 0, none⟩ : Addr).add 4) (LdK (.int .i64) ((⟨g, 0, none⟩ : Addr).add 4) w26 (fun (x29 : Int) =>
        StsK (⟨g1, 0, none⟩ : Addr) [.int .i64 0, .string (⟨#[]⟩ : ByteArray), .int .i64 0, .slice none 0 0] w26 (fun w30 => KeepK S27 w26 w30 (LdsK TVK (⟨g1, 0, none⟩ : Addr) w30 (fun (x31 : TV) => 
          ∃ v : TV, (Value.tuple #[tvA x31, .int .i64 x28, .int .i64 x29]) = .tuple #[tvA v, .int .i64 s'.at_, .int .i64 s'.e] ∧ Made w w30 (.mk 0 [] 0 []) v ∧ Fr none1 w w30))))))))) := by
    intro w20 s' f20 R20 tb20
    refine DrewK.of fun w26 _ f26 => HoldK.of (fun k => k ≠ g1) ?_
    obtain ⟨⟨sl', L, n, hb', _⟩, _, _⟩ := R20.keep0 f26
    refine ⟨by rw [addr_add]; exact fun t => hg1g t.symm, LdK.fld hb' (x := s'.at_) rfl ⟨by rw [addr_add]; exact fun t => hg1g t.symm, LdK.fld hb' (x := s'.e) rfl ?_⟩⟩
    have f27 := f20.trans f26
    refine StsK.blk (cs := tvL (0, str [], 0, (none, 0, 0), ())) (vs := tvL (0, str [], 0, (none, 0, 0), ())) (tb20.keep0 f26) rfl rfl fun w30 hb30 f30 _ => KeepK.on f30 (fun k hk t => hk t) ?_
    exact LdsK.blk (cks := TVK) (x := (0, str [], 0, (none, 0, 0), ())) hb30 ⟨_, rfl, (leaf_made w30 w30 0 [] 0).older (by have := f27.size; have := f30.size; omega), f27.fresh f30 (by omega)⟩
  have good : ∀ (w20 : World), Fr none1 w6 w20 → s5.e = 0 → s5.l = [] → LdsK TVK (⟨g2, 0, none⟩ : Addr) w20 (fun (x32 : TV) => CallK Tryz.prog 71 #[tvA x32, .bool num] w20 (.v (.one (.int .i64))) (fun (x33 : Int) w34 => ifB (x33 != 0)
        (StsK (⟨g1, 0, none⟩ : Addr) [.int .i64 0, .string (⟨#[]⟩ : ByteArray), .int .i64 0, .slice none 0 0] w34 (fun w35 => LdsK TVK (⟨g1, 0, none⟩ : Addr) w35 (fun (x36 : TV) => 
          ∃ v : TV, (Value.tuple #[tvA x36, .int .i64 0, .int .i64 x33]) = .tuple #[tvA v, .int .i64 (if checkR t5 num ≠ 0 then ((Tr.mk 0 [] 0 [], 0, checkR t5 num) : Tr × Int × Int) else (t5, 0, 0)).2.1, .int .i64 (if checkR t5 num ≠ 0 then ((Tr.mk 0 [] 0 [], 0, checkR t5 num) : Tr × Int × Int) else (t5, 0, 0)).2.2] ∧ Made w w35 (if checkR t5 num ≠ 0 then ((Tr.mk 0 [] 0 [], 0, checkR t5 num) : Tr × Int × Int) else (t5, 0, 0)).1 v ∧ Fr none1 w w35)))
        (LdsK TVK (⟨g2, 0, none⟩ : Addr) w34 (fun (x37 : TV) => StsK (⟨g1, 0, none⟩ : Addr) (tvL x37) w34 (fun w38 => LdsK TVK (⟨g1, 0, none⟩ : Addr) w38 (fun (x39 : TV) => 
          ∃ v : TV, (Value.tuple #[tvA x39, .int .i64 0, .int .i64 0]) = .tuple #[tvA v, .int .i64 (if checkR t5 num ≠ 0 then ((Tr.mk 0 [] 0 [], 0, checkR t5 num) : Tr × Int × Int) else (t5, 0, 0)).2.1, .int .i64 (if checkR t5 num ≠ 0 then ((Tr.mk 0 [] 0 [], 0, checkR t5 num) : Tr × Int × Int) else (t5, 0, 0)).2.2] ∧ Made w w38 (if checkR t5 num ≠ 0 then ((Tr.mk 0 [] 0 [], 0, checkR t5 num) : Tr × Int × Int) else (t5, 0, 0)).1 v ∧ Fr none1 w w38)))))) := by
    intro w20 f20 he hle
    have hsm := hsm he
    refine (t26.keep0 f20).ld ?_
    refine CallK.of (rcheck_spec t5 num hsm.1 hsm.2 (m6.keep0 f20) (fun k hk => hk.2)) ?_
    rintro _ w34 ⟨rfl, f34⟩
    refine ⟨_, rfl, ifB.ne (fun e => ?_) (fun e => ?_)⟩
    · simp only [if_pos e]
      exact tell_leaf ((f16.trans f20).trans f34) (by omega) ((tb6.keep0 f20).keep0 f34) 0 [] 0 fun w2 f2 m2 => ⟨_, rfl, m2.older (by have := f2.size; omega), f2⟩
    · simp only [if_neg (show ¬ checkR t5 num ≠ 0 from fun t => t e)]
      refine ((t26.keep0 f20).keep0 f34).ld ?_
      exact tell0 ((f16.trans f20).trans f34) (by omega) ((tb6.keep0 f20).keep0 f34) ((m6.keep0 f20).keep0 f34) (fun k hk => ⟨by have := hk.1; omega, hk.2, fun t => by have := hk.1; omega⟩) fun w2 f2 m2 => ⟨_, rfl, m2, f2⟩
  refine JoinK.of (fun c w' => c.1 = (decide (s5.e = 0) && !s5.l.isEmpty) ∧ w6 = w') ?_ ?_
  · refine rr_code R6 (ifB.eq (fun e => ?_) (fun e => ?_))
    · obtain ⟨⟨sl', L, n, hb', hs', hl', hn', hL', _⟩, _, _⟩ := R6
      refine LdK.fld hb' (x := (n : Int)) rfl ⟨?_, rfl⟩
      have hlen := hsl.len
      rw [hlen, hl', decide_eq_true e]
      by_cases hh : n < L.length
      · obtain ⟨x, _, hd⟩ := drop_next hh
        rw [hd, decide_eq_true (by omega)]; rfl
      · rw [List.drop_eq_nil_of_le (by omega), decide_eq_false (by omega)]; rfl
    · exact ⟨by simp [e], rfl⟩
  rintro _ ⟨c, _⟩ _ ⟨hc, rfl⟩
  dsimp only at hc ⊢
  rw [hc]
  refine ifB.by (fun e => ?_) (fun e => ?_)
  · rw [Bool.and_eq_true, decide_eq_true_eq] at e
    have hl : s5.l ≠ [] := fun t => by rw [t] at e; exact absurd e.2 (by decide)
    have hend : endR (endF bs) s5 = failF (endF bs) 2 s5 := if_pos ⟨e.1, hl⟩
    rw [hend]
    have hne : (failF (endF bs) 2 s5).e ≠ 0 := fail_not (by decide)
    simp only [if_pos hne]
    refine CallK.of (rr_fail R6 2) ?_
    rintro _ w7 ⟨rfl, R7, f7⟩
    refine ⟨(), rfl, rr_code R7 (ifB.ne (fun _ => ?_) (fun t => (hne t).elim))⟩
    exact bad w7 _ (f16.fresh f7 (by omega)) R7 (tb6.keep f7 (fun t => hg1g t))
  · have hend : endR (endF bs) s5 = s5 := by
      unfold endR
      refine if_neg fun t => ?_
      rw [decide_eq_true t.1] at e
      cases hl : s5.l with
      | nil => exact t.2 hl
      | cons x l => rw [hl] at e; simp at e
    rw [hend]
    refine rr_code R6 (ifB.ne (fun hne => ?_) (fun he => ?_))
    · simp only [if_pos hne]
      exact bad w6 _ f16 R6 tb6
    · simp only [if_neg (show ¬ s5.e ≠ 0 from fun t => t he)]
      refine good w6 (Fr.refl _ _) he ?_
      rw [decide_eq_true he] at e
      cases hl : s5.l with
      | nil => rfl
      | cons x l => rw [hl] at e; simp at e

/-! ### Same trees -/
mutual
def sameR : Tr → Tr → Bool
  | .mk k s n ks, .mk k' s' n' ks' => !(k == 0) && (k == k' && (s == s' && (n == n' && sameRs ks ks')))
def sameRs : List Tr → List Tr → Bool
  | [], [] => true
  | [], _ :: _ => false
  | _ :: _, [] => false
  | t :: ts, t' :: ts' => sameR t t' && sameRs ts ts'
end
mutual
def wholeR : Tr → Bool
  | .mk k _ _ ks => !(k == 0) && wholeRs ks
def wholeRs : List Tr → Bool
  | [] => true
  | t :: ts => wholeR t && wholeRs ts
end
mutual
theorem sameR_self : ∀ t : Tr, sameR t t = wholeR t
  | .mk k s n ks => by unfold sameR wholeR; rw [sameRs_self ks]; simp
theorem sameRs_self : ∀ ts : List Tr, sameRs ts ts = wholeRs ts
  | [] => rfl
  | t :: ts => by unfold sameRs wholeRs; rw [sameR_self t, sameRs_self ts]
end
theorem whole_trO (o : Ob) (h : formO o = true) : wholeR (trO o) = true := by
  induction o with
  | none => cases h
  | const n => rfl
  | fix s => rfl
  | neg o i => simp [trO, wholeR, wholeRs, i h]
  | add l r i j => simp only [formO, Bool.and_eq_true] at h; simp [trO, wholeR, wholeRs, i h.1, j h.2]
  | mul l r i j => simp only [formO, Bool.and_eq_true] at h; simp [trO, wholeR, wholeRs, i h.1, j h.2]
  | max l r i j => simp only [formO, Bool.and_eq_true] at h; simp [trO, wholeR, wholeRs, i h.1, j h.2]
theorem whole_trT (t : Tm) (h : formT t = true) : wholeR (trT t) = true := by
  induction t with
  | none => cases h
  | zero => rfl
  | one s => rfl
  | give t i => simp [trT, wholeR, wholeRs, i h]
  | and l r i j => simp only [formT, Bool.and_eq_true] at h; simp [trT, wholeR, wholeRs, i h.1, j h.2]
  | or s l r i j => simp only [formT, Bool.and_eq_true] at h; simp [trT, wholeR, wholeRs, i h.2.1, j h.2.2]
  | scale o t i => simp only [formT, Bool.and_eq_true] at h; simp [trT, wholeR, wholeRs, whole_trO o h.1, i h.2]
  | «when» d t i => simp only [formT, Bool.and_eq_true] at h; simp [trT, wholeR, wholeRs, i h.2]
  | cond o l r i j => simp only [formT, Bool.and_eq_true] at h; simp [trT, wholeR, wholeRs, whole_trO o h.1, i h.2.1, j h.2.2]
theorem sameRs_len : ∀ {ts ts' : List Tr}, ts.length ≠ ts'.length → sameRs ts ts' = false
  | [], [], h => (h rfl).elim
  | [], _ :: _, _ => rfl
  | _ :: _, [], _ => rfl
  | t :: ts, t' :: ts', h => by unfold sameRs; rw [sameRs_len (fun e => h (by simp [e]))]; simp
theorem sameRs_at : ∀ {ts ts' : List Tr} {i : Nat} {t t' : Tr}, ts[i]? = some t → ts'[i]? = some t' → sameRs (ts.drop i) (ts'.drop i) = (sameR t t' && sameRs (ts.drop (i + 1)) (ts'.drop (i + 1))) := by
  intro ts ts' i t t' h h'
  rw [drop_one h, drop_one h']; rfl

theorem rsame_spec : ∀ (t t' : Tr) (hn : cntR t ≤ 1000000000000) {w : World} {S S' : Nat → Prop} {v v' : TV} (h : IsTr w S t v) (h' : IsTr w S' t' v'),
    Ret Tryz.prog 29 #[tvA v, tvA v'] w fun r w' => r = .bool (sameR t t') ∧ Fr none1 w w'
  | .mk k s n ks, .mk k' s' n' ks', hn, w, S, S', v, v', h, h' => by
    have ih : ∀ t ∈ ks, ∀ t', cntR t ≤ 1000000000000 → ∀ {w : World} {S S' : Nat → Prop} {v v' : TV}, IsTr w S t v → IsTr w S' t' v' → Ret Tryz.prog 29 #[tvA v, tvA v'] w fun r w' => r = .bool (sameR t t') ∧ Fr none1 w w' := fun t ht t' hc => rsame_spec t t' hc
    refine c29 v v' w _ ?_
    unfold C29
    refine NewK.of fun g1 w1 hg1 hb1 f1 hs1 => NewK.of fun g2 w2 hg2 hb2 f2 hs2 => ?_
    have b1 := f2.keep0 hb1
    have f12 := f1.trans f2
    have t1 : TB w2 g1 v := b1
    have t2 : TB w2 g2 v' := hb2
    have hk := h.kind; have hk' := h'.kind; have hs := h.name; have hs' := h'.name; have hnn := h.num; have hnn' := h'.num; have hl := h.len; have hl' := h'.len
    unfold sameR
    refine LdK.fld t1 (x := v.1) rfl ?_
    rw [hk]
    refine ifB.eq (fun e => ⟨by simp [e], f12⟩) (fun e0 => ?_)
    refine LdK.fld t1 (x := v.1) rfl (LdK.fld t2 (x := v'.1) rfl ?_)
    rw [hk, hk']
    refine ifB.ne (fun e => ⟨by simp [e], f12⟩) (fun ek => ?_)
    refine LdK.fld t1 (x := v.2.1) rfl (LdK.fld t2 (x := v'.2.1) rfl ?_)
    rw [hs, hs']
    refine ifB.not (ifB.str (fun es => ?_) (fun e => ⟨by simp [e], f12⟩))
    refine LdK.fld t1 (x := v.2.2.1) rfl (LdK.fld t2 (x := v'.2.2.1) rfl ?_)
    rw [hnn, hnn']
    refine ifB.ne (fun e => ⟨by simp [e], f12⟩) (fun en => ?_)
    refine LdK.fld t1 (x := v.2.2.2.1) rfl (LdK.fld t2 (x := v'.2.2.2.1) rfl ?_)
    rw [hl, hl']
    refine ifB.ne (fun e => ⟨by rw [sameRs_len (fun t => e (by rw [t]))]; simp, f12⟩) (fun el => ?_)
    refine LdK.fld t1 (x := v.2.2.2.1) rfl ?_
    have hall : (!(k == 0) && (k == k' && (s == s' && (n == n' && sameRs ks ks')))) = sameRs ks ks' := by
      have e0' : ¬ k' = 0 := by rw [← ek]; exact e0
      simp [e0', ek, es, en]
    rw [hall]
    have hcl := cntRs_len ks
    have hcn : cntRs ks ≤ 1000000000000 := by unfold cntR at hn; omega
    rw [hl]
    refine LoopK.of (fun st w' => ∃ j : Nat, st.1 = j ∧ j ≤ ks.length ∧ sameRs (ks.drop j) (ks'.drop j) = sameRs ks ks' ∧ Fr none1 w2 w') (fun st _ => ks.length - st.1.toNat) ⟨0, rfl, by omega, rfl, Fr.refl _ _⟩ ?_
    rintro _ ⟨i, _⟩ w3 ⟨j, rfl, hj, hst, f3⟩
    dsimp only
    refine ifB.dec (fun hlt => ?_) (fun hge => ?_)
    rotate_left
    · have : j = ks.length := by omega
      rw [List.drop_eq_nil_of_le (by omega), List.drop_eq_nil_of_le (by omega)] at hst
      exact ⟨by rw [← hst]; rfl, f12.trans f3⟩
    obtain ⟨t, ht⟩ : ∃ t, ks[j]? = some t := ⟨ks[j], List.getElem?_eq_getElem (by omega)⟩
    obtain ⟨t', ht'⟩ : ∃ t, ks'[j]? = some t := ⟨ks'[j], List.getElem?_eq_getElem (by omega)⟩
    rw [sameRs_at ht ht'] at hst
    refine DrewK.of fun w4 _ f4 => ?_
    have f34 := f3.trans f4
    refine LdK.fld (f34.keep0 t1) (x := v.2.2.2.1) rfl ?_
    refine IdxK.out_ink (((h.keep0 f12).keep0 f34).ld ht fun x hx => ?_)
    refine LdK.fld (f34.keep0 t2) (x := v'.2.2.2.1) rfl ?_
    refine IdxK.out_ink (((h'.keep0 f12).keep0 f34).ld ht' fun x' hx' => ?_)
    have hct := cntRs_get ht
    refine CallK.of (ih t (List.mem_of_getElem? ht) t' (by omega) hx hx') ?_
    rintro _ w5 ⟨rfl, f5⟩
    refine ⟨_, rfl, ifB.not (ifB.by (fun e => ?_) (fun e => ?_))⟩
    · rw [e, Bool.true_and] at hst
      rw [wI (x := (j : Int) + 1) (by omega) (by omega)]
      exact ⟨⟨j + 1, rfl, by omega, hst, f34.trans f5⟩, by omega⟩
    · rw [e, Bool.false_and] at hst
      exact ⟨by rw [← hst], f12.trans (f34.trans f5)⟩
termination_by t => SizeOf.sizeOf t
decreasing_by exact kid_lt ht

end Go.Proofs.YtlhbfdakceipkaaGreatDoor

/-! ### PlainSpec -/
set_option linter.unusedVariables false
set_option maxRecDepth 100000
namespace Go.Proofs.YtlhbfdakceipkaaGreatDoor
open Vc

/-- A result, told through its own block. -/
theorem tellM {w wB wc : World} {g : Nat} {v0 v : TV} {t : Tr} (f : Fr none1 w wc) (hg : w.heap.size ≤ g) (hgB : g < wB.heap.size) (hB : w.heap.size ≤ wB.heap.size) (tb : TB wc g v0) (hm : Made wB wc t v) {K : TV → World → Prop}
    (k : ∀ w2, Fr none1 w w2 → Made w w2 t v → K v w2) : StsK ⟨g, 0, none⟩ (tvL v) wc fun w2 => LdsK TVK ⟨g, 0, none⟩ w2 fun x => K x w2 :=
  StsK.blk (cs := tvL v0) (vs := tvL v) tb rfl rfl fun w2 hb2 f2 _ => LdsK.blk (cks := TVK) (x := v) hb2 (k w2 (f.fresh f2 hg) ((hm.keep f2 fun k hk _ t => by have : k = g := t; omega).older hB))

theorem two_gen (k : Int) {w : World} {S : Nat → Prop} {t u : Tr} {a b : TV} (ha : IsTr w S t a) (hb : IsTr w S u b) (hS : ∀ j, S j → j < w.heap.size) : Ret Tryz.prog 74 #[.int .i64 k, tvA a, tvA b] w fun r w' => ∃ v : Sl, r = tvA (k, str [], 0, v, ()) ∧ IsTr w' (fun j => S j ∨ since w w' j) (.mk k [] 0 [t, u]) (k, str [], 0, v, ()) ∧ Fr none1 w w' := by
  refine c74 k a b w _ ?_
  unfold C74
  refine NewK.of fun g1 w1 hg1 hb1 f1 hs1 => NewK.of fun g2 w2 hg2 hb2 f2 hs2 => TB.new fun g3 w3 hg3 t3 f3 hs3 => ?_
  have t1 : TB w3 g1 a := (f2.trans f3).keep0 hb1
  have t2 : TB w3 g2 b := f3.keep0 hb2
  have f13 := (f1.trans f2).trans f3
  refine t1.ld (t2.ld ?_)
  refine tr_lit [a, b] (by show 2 ≤ 3; omega) fun u' w4 hu hul f4 hf4 => ?_
  have f14 := f13.trans f4
  have hsz := f13.size
  refine StsK.blk (cs := tvL (0, str [], 0, (none, 0, 0), ())) (vs := tvL (k, str [], 0, u', ())) (t3.keep0 f4) rfl rfl fun w5 hb5 f5 _ => LdsK.blk (cks := TVK) (x := (k, str [], 0, u', ())) hb5 ?_
  refine ⟨u', rfl, ?_, f14.fresh f5 (by omega)⟩
  have hM1 : IsTr w4 (fun j => (S j ∨ since w w4 j) ∧ j ≠ g3) (.mk k [] 0 [t, u]) (k, str [], 0, u', ()) := by
    unfold IsTr
    refine ⟨rfl, rfl, rfl, [a, b], hu.rd, hul.symm, fun j hj => ⟨.inr ⟨by have := hf4 j hj; omega, hu.lt hj⟩, by have := hf4 j hj; have := lt_of_blk t3; omega⟩, ?_⟩
    have hkk : IsTrs w4 S [t, u] [a, b] := by
      unfold IsTrs; exact ⟨a, [b], rfl, IsTr.keep0 ha f14, by unfold IsTrs; exact ⟨b, [], rfl, IsTr.keep0 hb f14, by unfold IsTrs; rfl⟩⟩
    exact IsTrs.mono (fun j hj => ⟨.inl hj, by have := hS j hj; have := f1.size; have := f2.size; omega⟩) _ _ hkk
  exact IsTr.mono (fun j hj => hj.1.elim .inl fun h => .inr ⟨h.1, Nat.lt_of_lt_of_le h.2 f5.size⟩) _ _ (IsTr.keep f5 (fun j hj t => hj.2 t) _ _ hM1)
theorem two_spec (k : Int) {w0 w : World} {t u : Tr} {a b : TV} (ha : Made w0 w t a) (hb : Made w0 w u b) (h0 : w0.heap.size ≤ w.heap.size) : Ret Tryz.prog 74 #[.int .i64 k, tvA a, tvA b] w fun r w' => ∃ v : Sl, r = tvA (k, str [], 0, v, ()) ∧ Made w0 w' (.mk k [] 0 [t, u]) (k, str [], 0, v, ()) ∧ Fr none1 w w' := by
  refine (two_gen k ha hb (fun j hj => hj.2)).mono fun r w' ⟨v, e, m, f⟩ => ⟨v, e, ?_, f⟩
  exact IsTr.mono (fun j hj => hj.elim (fun h => ⟨h.1, Nat.lt_of_lt_of_le h.2 f.size⟩) fun h => ⟨Nat.le_trans h0 h.1, h.2⟩) _ _ m

/-- A label put in, and the tree told. -/
theorem or_tell {w w1 wc : World} {g1 g gd : Nat} {v0 : TV} {S : Nat → Prop} {t u : Tr} {v : Sl} {s : List UInt8} {l r : Value} {T : TypeId} (f : Fr none1 w wc) (hg : w.heap.size ≤ g1) (hg1 : g1 < w1.heap.size) (hB : w.heap.size ≤ w1.heap.size) (hgg : w1.heap.size ≤ g) (hgc : g < wc.heap.size)
    (tb : TB wc g1 v0) (tg : TB wc g (5, str [], 0, v, ())) (hb : wc.heap[gd]? = some (.cells #[.string (str s), l, r] T (0, 0))) (hm : IsTr wc S (.mk 5 [] 0 [t, u]) (5, str [], 0, v, ())) (hS : ∀ j, S j → w1.heap.size ≤ j ∧ j < wc.heap.size ∧ j ≠ g) {K : TV → World → Prop}
    (hK : ∀ v w2, Fr none1 w w2 → Made w w2 (.mk 5 s 0 [t, u]) v → K v w2) :
    LdK .str ((⟨gd, 0, none⟩ : Addr).add 0) wc (fun (x60 : ByteArray) => StK ((⟨g, 0, none⟩ : Addr).add 1) (.string x60) wc (fun w61 => LdsK TVK ⟨g, 0, none⟩ w61 (fun (x62 : TV) => StsK ⟨g1, 0, none⟩ (tvL x62) w61 (fun w63 => LdsK TVK ⟨g1, 0, none⟩ w63 (fun (x64 : TV) => K x64 w63))))) := by
  refine LdK.fld hb (x := str s) rfl (tg.s (str s) fun w2 t2 f2 => t2.ld ?_)
  have hm2 : IsTr w2 S (.mk 5 s 0 [t, u]) (5, str s, 0, v, ()) := by
    have h := IsTr.keep f2 (fun j hj t => (hS j hj).2.2 t) _ _ hm
    unfold IsTr at h ⊢
    exact ⟨rfl, rfl, rfl, h.2.2.2⟩
  have tb2 := tb.keep f2 (fun t => by have : g1 = g := t; omega)
  refine StsK.blk (cs := tvL v0) (vs := tvL (5, str s, 0, v, ())) tb2 rfl rfl fun w3 hb3 f3 _ => ?_
  refine LdsK.blk (cks := TVK) (x := (5, str s, 0, v, ())) hb3 (hK _ _ ((f.fresh f2 (by omega)).fresh f3 hg) ?_)
  have := f2.size; have := f3.size
  exact IsTr.mono (fun j hj => ⟨by have := (hS j hj).1; omega, by have := (hS j hj).2.1; omega⟩) _ _ (IsTr.keep f3 (fun j hj t => by have : j = g1 := t; have := (hS j hj).1; omega) _ _ hm2)

/-- Two parts told, while something else is held. -/
theorem two_tell (k : Int) {w w1 wc : World} {g1 : Nat} {v0 a b : TV} {t u : Tr} (f : Fr none1 w wc) (hg : w.heap.size ≤ g1) (hg1 : g1 < w1.heap.size) (hB : w.heap.size ≤ w1.heap.size) (hc : w1.heap.size ≤ wc.heap.size) (tb : TB wc g1 v0) (ha : Made w1 wc t a) (hb : Made w1 wc u b) {K : TV → World → Prop}
    (hK : ∀ v w2, Fr none1 w w2 → Made w w2 (.mk k [] 0 [t, u]) v → K v w2) : CallK Tryz.prog 74 #[.int .i64 k, tvA a, tvA b] wc (.v (.agg TVK)) (fun (x29 : TV) w30 => KeepK (fun j => j ≠ g1) wc w30 (StsK ⟨g1, 0, none⟩ (tvL x29) w30 (fun w31 => KeepK (fun j => j ≠ g1) w30 w31 (LdsK TVK ⟨g1, 0, none⟩ w31 (fun (x32 : TV) => K x32 w31))))) := by
  refine CallK.of (two_spec k ha hb hc) ?_
  rintro _ w2 ⟨v, rfl, mv, f2⟩
  refine ⟨_, rfl, KeepK.of f2 ?_⟩
  refine StsK.blk (cs := tvL v0) (vs := tvL (k, str [], 0, v, ())) (tb.keep0 f2) rfl rfl fun w3 hb3 f3 _ => KeepK.on f3 (fun j hj t => hj t) ?_
  exact LdsK.blk (cks := TVK) (x := (k, str [], 0, v, ())) hb3 (hK _ _ ((f.trans f2).fresh f3 hg) ((mv.keep f3 fun k hk _ t => by have : k = g1 := t; omega).older hB))
/-- Some parts in a new slice, told. -/
theorem lit_tell (k n : Int) {w w1 wc : World} {g1 : Nat} {v0 : TV} {ts : List Tr} {vs : List TV} (f : Fr none1 w wc) (hg : w.heap.size ≤ g1) (hg1 : g1 < w1.heap.size) (hB : w.heap.size ≤ w1.heap.size) (hc : w1.heap.size ≤ wc.heap.size) (tb : TB wc g1 v0) (hl : vs.length ≤ 3) (hm : IsTrs wc (since w1 wc) ts vs) {K : TV → World → Prop}
    (hK : ∀ v w2, Fr none1 w w2 → Made w w2 (.mk k [] n ts) v → K v w2) :
    RunK Tryz.prog (Instr.buildSlice 31 vs.length (((vs.map tvL).zipIdx.map fun (l, i) => (i, Value.agg l.toArray)).toArray)) wc (.v (.one .slc)) (fun (x : Option Addr × Nat × Nat) w2 => KeepK (fun j => j ≠ g1) wc w2 (StsK ⟨g1, 0, none⟩ [.int .i64 k, .string (⟨#[]⟩ : ByteArray), .int .i64 n, .slice x.1 x.2.1 x.2.2] w2 (fun w31 => KeepK (fun j => j ≠ g1) w2 w31 (LdsK TVK ⟨g1, 0, none⟩ w31 (fun (x32 : TV) => K x32 w31))))) := by
  refine tr_lit vs hl fun u w2 hu hul f2 hf2 => KeepK.of f2 ?_
  refine StsK.blk (cs := tvL v0) (vs := tvL (k, str [], n, u, ())) (tb.keep0 f2) rfl rfl fun w3 hb3 f3 _ => KeepK.on f3 (fun j hj t => hj t) ?_
  refine LdsK.blk (cks := TVK) (x := (k, str [], n, u, ())) hb3 (hK _ _ ((f.trans f2).fresh f3 hg) ?_)
  have hM : Made w1 w2 (.mk k [] n ts) (k, str [], n, u, ()) := node_made k [] n hu hul (fun k hk => by have := hf2 k hk; omega) (IsTrs.mono (fun j hj => ⟨hj.1, by have := hj.2; have := f2.size; omega⟩) _ _ (IsTrs.keep0 hm f2))
  exact (hM.keep f3 fun k hk _ t => by have : k = g1 := t; omega).older hB
theorem lit_tell0 (k n : Int) {w w1 wc : World} {g1 : Nat} {v0 : TV} {ts : List Tr} {vs : List TV} (f : Fr none1 w wc) (hg : w.heap.size ≤ g1) (hg1 : g1 < w1.heap.size) (hB : w.heap.size ≤ w1.heap.size) (hc : w1.heap.size ≤ wc.heap.size) (tb : TB wc g1 v0) (hl : vs.length ≤ 3) (hm : IsTrs wc (since w1 wc) ts vs) {K : TV → World → Prop}
    (hK : ∀ v w2, Fr none1 w w2 → Made w w2 (.mk k [] n ts) v → K v w2) :
    RunK Tryz.prog (Instr.buildSlice 31 vs.length (((vs.map tvL).zipIdx.map fun (l, i) => (i, Value.agg l.toArray)).toArray)) wc (.v (.one .slc)) (fun (x : Option Addr × Nat × Nat) w2 => StsK ⟨g1, 0, none⟩ [.int .i64 k, .string (⟨#[]⟩ : ByteArray), .int .i64 n, .slice x.1 x.2.1 x.2.2] w2 (fun w31 => LdsK TVK ⟨g1, 0, none⟩ w31 (fun (x32 : TV) => K x32 w31))) := by
  refine tr_lit vs hl fun u w2 hu hul f2 hf2 => ?_
  refine StsK.blk (cs := tvL v0) (vs := tvL (k, str [], n, u, ())) (tb.keep0 f2) rfl rfl fun w3 hb3 f3 _ => ?_
  refine LdsK.blk (cks := TVK) (x := (k, str [], n, u, ())) hb3 (hK _ _ ((f.trans f2).fresh f3 hg) ?_)
  have hM : Made w1 w2 (.mk k [] n ts) (k, str [], n, u, ()) := node_made k [] n hu hul (fun k hk => by have := hf2 k hk; omega) (IsTrs.mono (fun j hj => ⟨hj.1, by have := hj.2; have := f2.size; omega⟩) _ _ (IsTrs.keep0 hm f2))
  exact (hM.keep f3 fun k hk _ t => by have : k = g1 := t; omega).older hB
theorem leaf_tell {w wc : World} {g : Nat} {v0 : TV} (f : Fr none1 w wc) (hg : w.heap.size ≤ g) (tb : TB wc g v0) (k : Int) (s : List UInt8) (n : Int) {K : TV → World → Prop}
    (hk : ∀ v w2, Fr none1 w w2 → Made w w2 (.mk k s n []) v → K v w2) : StsK ⟨g, 0, none⟩ (tvL (k, str s, n, (none, 0, 0), ())) wc fun w2 => LdsK TVK ⟨g, 0, none⟩ w2 fun x => K x w2 :=
  StsK.blk (cs := tvL v0) (vs := tvL (k, str s, n, (none, 0, 0), ())) tb rfl rfl fun w2 hb2 f2 _ => LdsK.blk (cks := TVK) (x := (k, str s, n, (none, 0, 0), ())) hb2 (hk _ w2 (f.fresh f2 hg) (leaf_made _ _ k s n))

theorem plainO_spec (o : Ob) (w : World) : Ret Tryz.prog 31 #[o.v] w fun r w' => ∃ v : TV, r = tvA v ∧ Made w w' (trO o) v ∧ Fr none1 w w' := by
  induction o generalizing w with
  | none =>
    refine c31 _ w _ ?_
    unfold C31
    refine TB.new fun g1 w1 hg1 t1 f1 hs1 => ?_
    refine TaK.nil rfl (TaK.nil rfl (TaK.nil rfl (TaK.nil rfl (TaK.nil rfl (TaK.nil rfl ?_)))))
    exact leaf_tell f1 (by omega) t1 0 [] 0 fun v w2 f2 m2 => ⟨v, rfl, m2, f2⟩
  | const n =>
    refine c31 _ w _ ?_
    unfold C31
    refine TB.new fun g1 w1 hg1 t1 f1 hs1 => ?_
    refine TaK.hit (n, ()) rfl (ns_ok (zs := [.int .i64 0]) (vs := [.int .i64 n]) rfl rfl fun g w2 _ hb f2 => LdK.fld hb (x := n) rfl ?_)
    exact leaf_tell (f1.trans f2) (by omega) (t1.keep0 f2) 11 [] n fun v w2 f2 m2 => ⟨v, rfl, m2, f2⟩
  | fix s =>
    refine c31 _ w _ ?_
    unfold C31
    refine TB.new fun g1 w1 hg1 t1 f1 hs1 => ?_
    refine TaK.miss rfl (by decide) (TaK.hit (str s, ()) rfl (ns_ok (zs := [.string (⟨#[]⟩ : ByteArray)]) (vs := [.string (str s)]) rfl rfl fun g w2 _ hb f2 => LdK.fld hb (x := str s) rfl ?_))
    exact leaf_tell (f1.trans f2) (by omega) (t1.keep0 f2) 12 s 0 fun v w2 f2 m2 => ⟨v, rfl, m2, f2⟩
  | neg x i =>
    refine c31 _ w _ ?_
    unfold C31
    refine TB.new fun g1 w1 hg1 t1 f1 hs1 => ?_
    refine TaK.miss rfl (by decide) (TaK.miss rfl (by decide) (TaK.miss rfl (by decide) (TaK.hit (x.v, ()) rfl (ns_ok (zs := [.nilIface]) (vs := [x.v]) rfl (by simp [Ob.v_one]) fun g w2 hg hb f2 => LdK.fld (c := .raw) hb (x := x.v) rfl ?_))))
    refine CallK.of (i w2) ?_
    rintro _ w3 ⟨a, rfl, ma, f3⟩
    refine ⟨a, rfl, ?_⟩
    have hsz := f2.size; have hsz3 := f3.size
    exact lit_tell0 14 0 (w1 := w1) (vs := [a]) ((f1.trans f2).trans f3) (by omega) (by omega) (by omega) (by omega) ((t1.keep0 f2).keep0 f3) (by show 1 ≤ 3; omega) (made1 (ma.older hsz)) fun v w2 f2 m2 => ⟨v, rfl, m2, f2⟩
  | add l r i j =>
    refine c31 _ w _ ?_
    unfold C31
    refine TB.new fun g1 w1 hg1 t1 f1 hs1 => ?_
    refine TaK.miss rfl (by decide) (TaK.miss rfl (by decide) (TaK.hit (l.v, r.v, ()) rfl (ns_ok (zs := [.nilIface, .nilIface]) (vs := [l.v, r.v]) rfl (by simp [Ob.v_one]) fun g w2 hg hb f2 => ?_)))
    refine DrewK.of fun w3 _ f3 => HoldK.of (fun j => j ≠ g1) ?_
    have hb3 := f3.keep0 hb
    have hs2 := f2.size; have hs3 := f3.size
    have hne : g ≠ g1 := by omega
    refine ⟨by rw [addr_add]; exact hne, LdK.fld (c := .raw) hb3 (x := l.v) rfl ⟨by rw [addr_add]; exact hne, LdK.fld (c := .raw) hb3 (x := r.v) rfl ?_⟩⟩
    refine CallK.of (i w3) ?_
    rintro _ w4 ⟨a, rfl, ma, f4⟩
    refine ⟨a, rfl, KeepK.of f4 ?_⟩
    refine CallK.of (j w4) ?_
    rintro _ w5 ⟨b, rfl, mb, f5⟩
    refine ⟨b, rfl, KeepK.of f5 ?_⟩
    have hs4 := f4.size; have hs5 := f5.size
    exact two_tell 13 (w1 := w1) ((((f1.trans f2).trans f3).trans f4).trans f5) (by omega) (by omega) (by omega) (by omega) ((((t1.keep0 f2).keep0 f3).keep0 f4).keep0 f5) ((ma.older (by omega)).keep0 f5) (mb.older (by omega)) fun v w2 f2 m2 => ⟨v, rfl, m2, f2⟩
  | mul l r i j =>
    refine c31 _ w _ ?_
    unfold C31
    refine TB.new fun g1 w1 hg1 t1 f1 hs1 => ?_
    refine TaK.miss rfl (by decide) (TaK.miss rfl (by decide) (TaK.miss rfl (by decide) (TaK.miss rfl (by decide) (TaK.hit (l.v, r.v, ()) rfl (ns_ok (zs := [.nilIface, .nilIface]) (vs := [l.v, r.v]) rfl (by simp [Ob.v_one]) fun g w2 hg hb f2 => ?_)))))
    refine DrewK.of fun w3 _ f3 => HoldK.of (fun j => j ≠ g1) ?_
    have hb3 := f3.keep0 hb
    have hs2 := f2.size; have hs3 := f3.size
    have hne : g ≠ g1 := by omega
    refine ⟨by rw [addr_add]; exact hne, LdK.fld (c := .raw) hb3 (x := l.v) rfl ⟨by rw [addr_add]; exact hne, LdK.fld (c := .raw) hb3 (x := r.v) rfl ?_⟩⟩
    refine CallK.of (i w3) ?_
    rintro _ w4 ⟨a, rfl, ma, f4⟩
    refine ⟨a, rfl, KeepK.of f4 ?_⟩
    refine CallK.of (j w4) ?_
    rintro _ w5 ⟨b, rfl, mb, f5⟩
    refine ⟨b, rfl, KeepK.of f5 ?_⟩
    have hs4 := f4.size; have hs5 := f5.size
    exact two_tell 15 (w1 := w1) ((((f1.trans f2).trans f3).trans f4).trans f5) (by omega) (by omega) (by omega) (by omega) ((((t1.keep0 f2).keep0 f3).keep0 f4).keep0 f5) ((ma.older (by omega)).keep0 f5) (mb.older (by omega)) fun v w2 f2 m2 => ⟨v, rfl, m2, f2⟩
  | max l r i j =>
    refine c31 _ w _ ?_
    unfold C31
    refine TB.new fun g1 w1 hg1 t1 f1 hs1 => ?_
    refine TaK.miss rfl (by decide) (TaK.miss rfl (by decide) (TaK.miss rfl (by decide) (TaK.miss rfl (by decide) (TaK.miss rfl (by decide) (TaK.hit (l.v, r.v, ()) rfl (ns_ok (zs := [.nilIface, .nilIface]) (vs := [l.v, r.v]) rfl (by simp [Ob.v_one]) fun g w2 hg hb f2 => ?_))))))
    refine DrewK.of fun w3 _ f3 => HoldK.of (fun j => j ≠ g1) ?_
    have hb3 := f3.keep0 hb
    have hs2 := f2.size; have hs3 := f3.size
    have hne : g ≠ g1 := by omega
    refine ⟨by rw [addr_add]; exact hne, LdK.fld (c := .raw) hb3 (x := l.v) rfl ⟨by rw [addr_add]; exact hne, LdK.fld (c := .raw) hb3 (x := r.v) rfl ?_⟩⟩
    refine CallK.of (i w3) ?_
    rintro _ w4 ⟨a, rfl, ma, f4⟩
    refine ⟨a, rfl, KeepK.of f4 ?_⟩
    refine CallK.of (j w4) ?_
    rintro _ w5 ⟨b, rfl, mb, f5⟩
    refine ⟨b, rfl, KeepK.of f5 ?_⟩
    have hs4 := f4.size; have hs5 := f5.size
    exact two_tell 16 (w1 := w1) ((((f1.trans f2).trans f3).trans f4).trans f5) (by omega) (by omega) (by omega) (by omega) ((((t1.keep0 f2).keep0 f3).keep0 f4).keep0 f5) ((ma.older (by omega)).keep0 f5) (mb.older (by omega)) fun v w2 f2 m2 => ⟨v, rfl, m2, f2⟩

theorem plainT_spec (t : Tm) (w : World) : Ret Tryz.prog 30 #[t.v] w fun r w' => ∃ v : TV, r = tvA v ∧ Made w w' (trT t) v ∧ Fr none1 w w' := by
  induction t generalizing w with
  | none =>
    refine c30 _ w _ ?_
    unfold C30
    refine TB.new fun g1 w1 hg1 t1 f1 hs1 => ?_
    refine TaK.nil rfl (TaK.nil rfl (TaK.nil rfl (TaK.nil rfl (TaK.nil rfl (TaK.nil rfl (TaK.nil rfl (TaK.nil rfl (?_))))))))
    exact leaf_tell f1 (by omega) t1 0 [] 0 fun v w2 f2 m2 => ⟨v, rfl, m2, f2⟩
  | zero =>
    refine c30 _ w _ ?_
    unfold C30
    refine TB.new fun g1 w1 hg1 t1 f1 hs1 => ?_
    refine TaK.hit () rfl (ns_ok (zs := []) (vs := []) rfl rfl fun g w2 _ hb f2 => ?_)
    exact leaf_tell (f1.trans f2) (by omega) (t1.keep0 f2) 1 [] 0 fun v w2 f2 m2 => ⟨v, rfl, m2, f2⟩
  | one s =>
    refine c30 _ w _ ?_
    unfold C30
    refine TB.new fun g1 w1 hg1 t1 f1 hs1 => ?_
    refine TaK.miss rfl (by decide) (TaK.hit (str s, ()) rfl (ns_ok (zs := [.string (⟨#[]⟩ : ByteArray)]) (vs := [.string (str s)]) rfl rfl fun g w2 _ hb f2 => LdK.fld hb (x := str s) rfl ?_))
    exact leaf_tell (f1.trans f2) (by omega) (t1.keep0 f2) 2 s 0 fun v w2 f2 m2 => ⟨v, rfl, m2, f2⟩
  | give x i =>
    refine c30 _ w _ ?_
    unfold C30
    refine TB.new fun g1 w1 hg1 t1 f1 hs1 => ?_
    refine TaK.miss rfl (by decide) (TaK.miss rfl (by decide) (TaK.hit (x.v, ()) rfl (ns_ok (zs := [.nilIface]) (vs := [x.v]) rfl (by simp [Tm.v_one]) fun g w2 hg hb f2 => LdK.fld (c := .raw) hb (x := x.v) rfl ?_)))
    refine CallK.of (i w2) ?_
    rintro _ w3 ⟨a, rfl, ma, f3⟩
    refine ⟨a, rfl, ?_⟩
    have hsz := f2.size; have hsz3 := f3.size
    exact lit_tell0 3 0 (w1 := w1) (vs := [a]) ((f1.trans f2).trans f3) (by omega) (by omega) (by omega) (by omega) ((t1.keep0 f2).keep0 f3) (by show 1 ≤ 3; omega) (made1 (ma.older hsz)) fun v w2 f2 m2 => ⟨v, rfl, m2, f2⟩
  | and l r i j =>
    refine c30 _ w _ ?_
    unfold C30
    refine TB.new fun g1 w1 hg1 t1 f1 hs1 => ?_
    refine TaK.miss rfl (by decide) (TaK.miss rfl (by decide) (TaK.miss rfl (by decide) (TaK.hit (l.v, r.v, ()) rfl (ns_ok (zs := [.nilIface, .nilIface]) (vs := [l.v, r.v]) rfl (by simp [Ob.v_one, Tm.v_one]) fun g w2 hg hb f2 => ?_))))
    refine DrewK.of fun w3 _ f3 => HoldK.of (fun j => j ≠ g1) ?_
    have hb3 := f3.keep0 hb
    have hs2 := f2.size; have hs3 := f3.size
    have hne : g ≠ g1 := by omega
    refine ⟨by rw [addr_add]; exact hne, LdK.fld (c := .raw) hb3 (x := l.v) rfl ⟨by rw [addr_add]; exact hne, LdK.fld (c := .raw) hb3 (x := r.v) rfl ?_⟩⟩
    refine CallK.of (i w3) ?_
    rintro _ w4 ⟨a, rfl, ma, f4⟩
    refine ⟨a, rfl, KeepK.of f4 ?_⟩
    refine CallK.of (j w4) ?_
    rintro _ w5 ⟨b, rfl, mb, f5⟩
    refine ⟨b, rfl, KeepK.of f5 ?_⟩
    have hs4 := f4.size; have hs5 := f5.size
    exact two_tell 4 (w1 := w1) ((((f1.trans f2).trans f3).trans f4).trans f5) (by omega) (by omega) (by omega) (by omega) ((((t1.keep0 f2).keep0 f3).keep0 f4).keep0 f5) ((ma.older (by omega)).keep0 f5) (mb.older (by omega)) fun v w2 f2 m2 => ⟨v, rfl, m2, f2⟩
  | scale o x j =>
    refine c30 _ w _ ?_
    unfold C30
    refine TB.new fun g1 w1 hg1 t1 f1 hs1 => ?_
    refine TaK.miss rfl (by decide) (TaK.miss rfl (by decide) (TaK.miss rfl (by decide) (TaK.miss rfl (by decide) (TaK.miss rfl (by decide) (TaK.hit (o.v, x.v, ()) rfl (ns_ok (zs := [.nilIface, .nilIface]) (vs := [o.v, x.v]) rfl (by simp [Ob.v_one, Tm.v_one]) fun g w2 hg hb f2 => ?_))))))
    refine DrewK.of fun w3 _ f3 => HoldK.of (fun j => j ≠ g1) ?_
    have hb3 := f3.keep0 hb
    have hs2 := f2.size; have hs3 := f3.size
    have hne : g ≠ g1 := by omega
    refine ⟨by rw [addr_add]; exact hne, LdK.fld (c := .raw) hb3 (x := o.v) rfl ⟨by rw [addr_add]; exact hne, LdK.fld (c := .raw) hb3 (x := x.v) rfl ?_⟩⟩
    refine CallK.of (plainO_spec o w3) ?_
    rintro _ w4 ⟨a, rfl, ma, f4⟩
    refine ⟨a, rfl, KeepK.of f4 ?_⟩
    refine CallK.of (j w4) ?_
    rintro _ w5 ⟨b, rfl, mb, f5⟩
    refine ⟨b, rfl, KeepK.of f5 ?_⟩
    have hs4 := f4.size; have hs5 := f5.size
    exact two_tell 6 (w1 := w1) ((((f1.trans f2).trans f3).trans f4).trans f5) (by omega) (by omega) (by omega) (by omega) ((((t1.keep0 f2).keep0 f3).keep0 f4).keep0 f5) ((ma.older (by omega)).keep0 f5) (mb.older (by omega)) fun v w2 f2 m2 => ⟨v, rfl, m2, f2⟩
  | «when» d x j =>
    refine c30 _ w _ ?_
    unfold C30
    refine TB.new fun g1 w1 hg1 t1 f1 hs1 => ?_
    refine TaK.miss rfl (by decide) (TaK.miss rfl (by decide) (TaK.miss rfl (by decide) (TaK.miss rfl (by decide) (TaK.miss rfl (by decide) (TaK.miss rfl (by decide) (TaK.hit (d, x.v, ()) rfl (ns_ok (zs := [.int .i64 0, .nilIface]) (vs := [.int .i64 d, x.v]) rfl (by show (one1 (.int .i64 d) && (one1 x.v && true)) = true; rw [Tm.v_one]; rfl) fun g w2 hg hb f2 => ?_)))))))
    refine DrewK.of fun w3 _ f3 => HoldK.of (fun j => j ≠ g1) ?_
    have hb3 := f3.keep0 hb
    have hs2 := f2.size; have hs3 := f3.size
    have hne : g ≠ g1 := by omega
    refine ⟨by rw [addr_add]; exact hne, LdK.fld hb3 (x := d) rfl ⟨by rw [addr_add]; exact hne, LdK.fld (c := .raw) hb3 (x := x.v) rfl ?_⟩⟩
    refine CallK.of (j w3) ?_
    rintro _ w4 ⟨a, rfl, ma, f4⟩
    refine ⟨a, rfl, KeepK.of f4 ?_⟩
    have hs4 := f4.size
    exact lit_tell 7 d (w1 := w1) (vs := [a]) (((f1.trans f2).trans f3).trans f4) (by omega) (by omega) (by omega) (by omega) (((t1.keep0 f2).keep0 f3).keep0 f4) (by show 1 ≤ 3; omega) (made1 (ma.older (by omega))) fun v w2 f2 m2 => ⟨v, rfl, m2, f2⟩
  | cond o l r i j =>
    refine c30 _ w _ ?_
    unfold C30
    refine TB.new fun g1 w1 hg1 t1 f1 hs1 => ?_
    refine TaK.miss rfl (by decide) (TaK.miss rfl (by decide) (TaK.miss rfl (by decide) (TaK.miss rfl (by decide) (TaK.miss rfl (by decide) (TaK.miss rfl (by decide) (TaK.miss rfl (by decide) (TaK.hit (o.v, l.v, r.v, ()) rfl (ns_ok (zs := [.nilIface, .nilIface, .nilIface]) (vs := [o.v, l.v, r.v]) rfl (by simp [Ob.v_one, Tm.v_one]) fun g w2 hg hb f2 => ?_))))))))
    refine DrewK.of fun w3 _ f3 => HoldK.of (fun j => j ≠ g1) ?_
    have hb3 := f3.keep0 hb
    have hs2 := f2.size; have hs3 := f3.size
    have hne : g ≠ g1 := by omega
    refine ⟨by rw [addr_add]; exact hne, LdK.fld (c := .raw) hb3 (x := o.v) rfl ⟨by rw [addr_add]; exact hne, LdK.fld (c := .raw) hb3 (x := l.v) rfl ⟨by rw [addr_add]; exact hne, LdK.fld (c := .raw) hb3 (x := r.v) rfl ?_⟩⟩⟩
    refine CallK.of (plainO_spec o w3) ?_
    rintro _ w4 ⟨a, rfl, ma, f4⟩
    refine ⟨a, rfl, KeepK.of f4 ?_⟩
    refine CallK.of (i w4) ?_
    rintro _ w5 ⟨b, rfl, mb, f5⟩
    refine ⟨b, rfl, KeepK.of f5 ?_⟩
    refine CallK.of (j w5) ?_
    rintro _ w6 ⟨c, rfl, mc, f6⟩
    refine ⟨c, rfl, KeepK.of f6 ?_⟩
    have hs4 := f4.size; have hs5 := f5.size; have hs6 := f6.size
    exact lit_tell 8 0 (w1 := w1) (vs := [a, b, c]) (((((f1.trans f2).trans f3).trans f4).trans f5).trans f6) (by omega) (by omega) (by omega) (by omega) (((((t1.keep0 f2).keep0 f3).keep0 f4).keep0 f5).keep0 f6) (by show 3 ≤ 3; omega) (made3 (((ma.older (by omega)).keep0 f5).keep0 f6) ((mb.older (by omega)).keep0 f6) (mc.older (by omega))) fun v w2 f2 m2 => ⟨v, rfl, m2, f2⟩
  | or s l r i j =>
    refine c30 _ w _ ?_
    unfold C30
    refine TB.new fun g1 w1 hg1 t1 f1 hs1 => ?_
    refine TaK.miss rfl (by decide) (TaK.miss rfl (by decide) (TaK.miss rfl (by decide) (TaK.miss rfl (by decide) (TaK.hit (str s, l.v, r.v, ()) rfl (ns_ok (zs := [.string (⟨#[]⟩ : ByteArray), .nilIface, .nilIface]) (vs := [.string (str s), l.v, r.v]) rfl (by show (one1 (.string (str s)) && (one1 l.v && (one1 r.v && true))) = true; rw [Tm.v_one, Tm.v_one]; rfl) fun g w2 hg hb f2 => ?_)))))
    refine DrewK.of fun w3 _ f3 => HoldK.of (fun j => j < w3.heap.size) ?_
    have hb3 := f3.keep0 hb
    have hs2 := f2.size; have hs3 := f3.size
    have hg3 := lt_of_blk hb3
    have t3 := (t1.keep0 f2).keep0 f3
    have f13 := (f1.trans f2).trans f3
    refine ⟨by rw [addr_add]; exact hg3, LdK.fld (c := .raw) hb3 (x := l.v) rfl ⟨by rw [addr_add]; exact hg3, LdK.fld (c := .raw) hb3 (x := r.v) rfl ?_⟩⟩
    have put : ∀ {wa wb : World} {gg : Nat}, w3.heap.size ≤ gg → Fr (only gg) wa wb → ∀ K : Prop, K → KeepK (fun j => j < w3.heap.size) wa wb K := fun hgg f K k => KeepK.on f (fun j hj t => by have : j = _ := t; omega) k
    have wide : ∀ {wx wy wz : World} {t : Tr} {v : TV} {gg : Nat}, Made wx wy t v → Fr none1 wy wz → w1.heap.size ≤ wx.heap.size → (gg < wx.heap.size ∨ wy.heap.size ≤ gg) → IsTr wz (fun j => w1.heap.size ≤ j ∧ j < wz.heap.size ∧ j ≠ gg) t v := fun {wx wy wz t v gg} m f h1 h2 =>
      IsTr.mono (fun j hj => ⟨by have := hj.1; omega, Nat.lt_of_lt_of_le hj.2 f.size, by have := hj.1; have := hj.2; omega⟩) _ _ (IsTr.keep0 m f)
    have ending : ∀ {wx : World} {g5 : Nat} {v : Sl}, Fr none1 w3 wx → w3.heap.size ≤ g5 → g5 < wx.heap.size → TB wx g5 (0, str [], 0, (none, 0, 0), ()) → IsTr wx (fun j => w1.heap.size ≤ j ∧ j < wx.heap.size ∧ j ≠ g5) (.mk 5 [] 0 [trT l, trT r]) (5, str [], 0, v, ()) →
        StsK ⟨g5, 0, none⟩ (tvL (5, str [], 0, v, ())) wx (fun w8 => KeepK (fun j => j < w3.heap.size) wx w8 (LdK .str ((⟨g, 0, none⟩ : Addr).add 0) w8 (fun (x60 : ByteArray) => StK ((⟨g5, 0, none⟩ : Addr).add 1) (.string x60) w8 (fun w61 => LdsK TVK ⟨g5, 0, none⟩ w61 (fun (x62 : TV) => StsK ⟨g1, 0, none⟩ (tvL x62) w61 (fun w63 => LdsK TVK ⟨g1, 0, none⟩ w63 (fun (x64 : TV) =>
          ∃ v : TV, tvA x64 = tvA v ∧ Made w w63 (trT (.or s l r)) v ∧ Fr none1 w w63))))))) := fun {wx g5 v} fa h1 h2 t5 mv => by
      have sx := fa.size
      refine StsK.blk (cs := tvL (0, str [], 0, (none, 0, 0), ())) (vs := tvL (5, str [], 0, v, ())) t5 rfl rfl fun w8 hb8 f8 _ => put (gg := g5) (by omega) f8 _ ?_
      have s8 := f8.size
      exact or_tell (w1 := w1) ((f13.trans fa).fresh f8 (by omega)) (by omega) (by omega) (by omega) (by omega) (by omega) ((t3.keep0 fa).keep f8 (fun t => by have : g1 = g5 := t; omega)) hb8 (f8.keep (fa.keep0 hb3) (fun t => by have : g = g5 := t; omega))
        (IsTr.keep f8 (fun j hj t => hj.2.2 t) _ _ mv) (fun j hj => ⟨hj.1, by have := hj.2.1; omega, hj.2.2⟩) fun v w2 f2 m2 => ⟨v, rfl, m2, f2⟩
    -- the two parts joined behind the struct's block
    have joined : ∀ {wx : World} {g5 : Nat} {a b : TV}, Fr none1 w3 wx → w3.heap.size ≤ g5 → g5 < wx.heap.size → TB wx g5 (0, str [], 0, (none, 0, 0), ()) → IsTr wx (fun j => w1.heap.size ≤ j ∧ j < wx.heap.size ∧ j ≠ g5) (trT l) a → IsTr wx (fun j => w1.heap.size ≤ j ∧ j < wx.heap.size ∧ j ≠ g5) (trT r) b →
        CallK Tryz.prog 74 #[.int .i64 5, tvA a, tvA b] wx (.v (.agg TVK)) (fun (x55 : TV) w7 => KeepK (fun j => j < w3.heap.size) wx w7 (StsK ⟨g5, 0, none⟩ (tvL x55) w7 (fun w8 => KeepK (fun j => j < w3.heap.size) w7 w8 (LdK .str ((⟨g, 0, none⟩ : Addr).add 0) w8 (fun (x60 : ByteArray) => StK ((⟨g5, 0, none⟩ : Addr).add 1) (.string x60) w8 (fun w61 => LdsK TVK ⟨g5, 0, none⟩ w61 (fun (x62 : TV) => StsK ⟨g1, 0, none⟩ (tvL x62) w61 (fun w63 => LdsK TVK ⟨g1, 0, none⟩ w63 (fun (x64 : TV) =>
          ∃ v : TV, tvA x64 = tvA v ∧ Made w w63 (trT (.or s l r)) v ∧ Fr none1 w w63))))))))) := fun {wx g5 a b} fa h1 h2 t5 ma mb => by
      refine CallK.of (two_gen 5 ma mb (fun j hj => hj.2.1)) ?_
      rintro _ w7 ⟨v, rfl, mv, f7⟩
      have s7 := f7.size
      have sx := fa.size
      refine ⟨_, rfl, KeepK.of f7 (ending (fa.trans f7) h1 (by omega) (t5.keep0 f7) ?_)⟩
      exact IsTr.mono (fun j hj => hj.elim (fun h => ⟨h.1, by have := h.2.1; omega, h.2.2⟩) fun h => ⟨by have := h.1; omega, h.2, by have := h.1; omega⟩) _ _ mv
    refine ⟨?_, ?_⟩
    · refine CallK.of (i w3) ?_
      rintro _ w4 ⟨a, rfl, ma, f4⟩
      have s4 := f4.size
      refine ⟨a, rfl, KeepK.of f4 ⟨?_, ?_⟩⟩
      · refine CallK.of (j w4) ?_
        rintro _ w5 ⟨b, rfl, mb, f5⟩
        have s5 := f5.size
        refine ⟨b, rfl, KeepK.of f5 ⟨?_, ?_⟩⟩
        · refine CallK.of (two_gen 5 (S := fun j => w1.heap.size ≤ j ∧ j < w5.heap.size) (IsTr.mono (fun j hj => ⟨hj.1, hj.2.1⟩) _ _ (wide (gg := 0) ma f5 (by omega) (.inl (by omega)))) (IsTr.mono (fun j hj => ⟨hj.1, hj.2.1⟩) _ _ (wide (gg := 0) mb (Fr.refl _ _) (by omega) (.inl (by omega)))) (fun j hj => hj.2)) ?_
          rintro _ w6 ⟨v, rfl, mv, f6⟩
          have s6 := f6.size
          refine ⟨_, rfl, KeepK.of f6 ?_⟩
          refine TB.new fun g5 w7 hg5 t57 f7 hs7 => KeepK.of f7 ?_
          have s7 := f7.size
          exact ending (((f4.trans f5).trans f6).trans f7) (by omega) (by omega) t57 (IsTr.mono (fun j hj => hj.elim (fun h => ⟨h.1, by have := h.2; omega, by have := h.2; omega⟩) fun h => ⟨by have := h.1; omega, by have := h.2; omega, by have := h.2; omega⟩) _ _ (IsTr.keep0 mv f7))
        · refine TB.new fun g5 w6 hg5 t5 f6 hs6 => KeepK.of f6 ?_
          have s6 := f6.size
          exact joined ((f4.trans f5).trans f6) (by omega) (by omega) t5 (wide ma (f5.trans f6) (by omega) (.inr (by omega))) (wide mb f6 (by omega) (.inr (by omega)))
      · refine TB.new fun g5 w5 hg5 t5 f5 hs5 => KeepK.of f5 ?_
        have s5 := f5.size
        refine CallK.of (j w5) ?_
        rintro _ w6 ⟨b, rfl, mb, f6⟩
        have s6 := f6.size
        refine ⟨b, rfl, KeepK.of f6 ?_⟩
        exact joined ((f4.trans f5).trans f6) (by omega) (by omega) (t5.keep0 f6) (wide ma (f5.trans f6) (by omega) (.inr (by omega))) (wide mb (Fr.refl _ _) (by omega) (.inl (by omega)))
    · refine TB.new fun g5 w4 hg5 t5 f4 hs4 => KeepK.of f4 ?_
      have s4 := f4.size
      refine CallK.of (i w4) ?_
      rintro _ w5 ⟨a, rfl, ma, f5⟩
      have s5 := f5.size
      refine ⟨a, rfl, KeepK.of f5 ?_⟩
      refine CallK.of (j w5) ?_
      rintro _ w6 ⟨b, rfl, mb, f6⟩
      have s6 := f6.size
      refine ⟨b, rfl, KeepK.of f6 ?_⟩
      exact joined ((f4.trans f5).trans f6) (by omega) (by omega) ((t5.keep0 f5).keep0 f6) (wide ma f6 (by omega) (.inl (by omega))) (wide mb (Fr.refl _ _) (by omega) (.inl (by omega)))

end Go.Proofs.YtlhbfdakceipkaaGreatDoor

/-! ### CRTel7 -/
namespace Go.Proofs.YtlhbfdakceipkaaGreatDoor
open Vc
set_option maxRecDepth 100000
set_option linter.unusedVariables false
/-- handfast/handfastlaw07.ReadTells -/
def C5 (p0 : (Option Addr × Nat × Nat) × (Option Addr × Nat × Nat) × Unit) (p1 : Int) (p2 : Int) (p3 : ByteArray) (p4 : Bool) (w : World) (K : Value → World → Prop) : Prop :=
  NewK (.cells #[.slice p0.1.1 p0.1.2.1 p0.1.2.2, .slice p0.2.1.1 p0.2.1.2.1 p0.2.1.2.2] 25) w (fun g1 w2 => LdsK [.slc, .slc] (⟨g1, 0, none⟩ : Addr) w2 (fun (x3 : (Option Addr × Nat × Nat) × (Option Addr × Nat × Nat) × Unit) => CallK Tryz.prog 26 #[.agg #[.slice x3.1.1 x3.1.2.1 x3.1.2.2, .slice x3.2.1.1 x3.2.1.2.1 x3.2.1.2.2], .int .i64 p1, .int .i64 p2, .string p3, .bool p4] w2 (.v (.one .str)) (fun (x4 : ByteArray) w5 => CallK Tryz.prog 24 #[.string x4] w5 (.tup [.one .raw, .one (.int .i64), .one (.int .i64)]) (fun (x6 : Value × Int × Int × Unit) w7 => CallK Tryz.prog 27 #[.string x4, .bool false] w7 (.tup [.agg [.int .i64, .str, .int .i64, .slc], .one (.int .i64), .one (.int .i64)]) (fun (x8 : (Int × ByteArray × Int × (Option Addr × Nat × Nat) × Unit) × Int × Int × Unit) w9 => NewK (.cells #[.int .i64 0, .string (⟨#[]⟩ : ByteArray), .int .i64 0, .slice none 0 0] 33) w9 (fun g10 w11 => StsK (⟨g10, 0, none⟩ : Addr) [.int .i64 x8.1.1, .string x8.1.2.1, .int .i64 x8.1.2.2.1, .slice x8.1.2.2.2.1.1 x8.1.2.2.2.1.2.1 x8.1.2.2.2.1.2.2] w11 (fun w12 => CallK Tryz.prog 28 #[.string x4] w12 (.tup [.one .raw, .one (.int .i64), .one (.int .i64)]) (fun (x13 : Value × Int × Int × Unit) w14 => CallK Tryz.prog 27 #[.string x4, .bool true] w14 (.tup [.agg [.int .i64, .str, .int .i64, .slc], .one (.int .i64), .one (.int .i64)]) (fun (x15 : (Int × ByteArray × Int × (Option Addr × Nat × Nat) × Unit) × Int × Int × Unit) w16 => NewK (.cells #[.int .i64 0, .string (⟨#[]⟩ : ByteArray), .int .i64 0, .slice none 0 0] 33) w16 (fun g17 w18 => StsK (⟨g17, 0, none⟩ : Addr) [.int .i64 x15.1.1, .string x15.1.2.1, .int .i64 x15.1.2.2.1, .slice x15.1.2.2.2.1.1 x15.1.2.2.2.1.2.1 x15.1.2.2.2.1.2.2] w18 (fun w19 => ifB (x6.2.1 != x8.2.1)
  (K (.bool false) w19)
  (ifB (x6.2.2.1 != x8.2.2.1)
  (K (.bool false) w19)
  (ifB (x13.2.1 != x15.2.1)
  (K (.bool false) w19)
  (ifB (x13.2.2.1 != x15.2.2.1)
  (K (.bool false) w19)
  (JoinK (Bool × Unit) (fun J20 => DrewK w19 (fun w23 => HoldK (fun S24 => InK S24 (⟨g10, 0, none⟩ : Addr) (LdsK [.int .i64, .str, .int .i64, .slc] (⟨g10, 0, none⟩ : Addr) w23 (fun (x25 : Int × ByteArray × Int × (Option Addr × Nat × Nat) × Unit) => CallK Tryz.prog 30 #[x6.1] w23 (.v (.agg [.int .i64, .str, .int .i64, .slc])) (fun (x26 : Int × ByteArray × Int × (Option Addr × Nat × Nat) × Unit) w27 => KeepK S24 w23 w27 (CallK Tryz.prog 29 #[.agg #[.int .i64 x26.1, .string x26.2.1, .int .i64 x26.2.2.1, .slice x26.2.2.2.1.1 x26.2.2.2.1.2.1 x26.2.2.2.1.2.2], .agg #[.int .i64 x25.1, .string x25.2.1, .int .i64 x25.2.2.1, .slice x25.2.2.2.1.1 x25.2.2.2.1.2.1 x25.2.2.2.1.2.2]] w27 (.v (.one .bool)) (fun (x28 : Bool) w29 => KeepK S24 w27 w29 (ifB (!((x6.2.2.1 == 0) == x28))
  (J20 (true, ()) w29)
  (ifB (x6.2.2.1 != 0)
  (RunK Tryz.prog (do eqGuard .neq 28 (.tmp 83) (.const .nilIface) x6.1 .nilIface; binOp .neq 28 x6.1 .nilIface) w29 (.v (.one .bool)) (fun (x30 : Bool) w31 => KeepK S24 w29 w31 (J20 (x30, ()) w31)))
  (J20 (false, ()) w29)))))))))))
  (fun _ s21 w22 => ifB s21.1
  (K (.bool false) w22)
  (DrewK w22 (fun w32 => HoldK (fun S33 => InK S33 (⟨g17, 0, none⟩ : Addr) (LdsK [.int .i64, .str, .int .i64, .slc] (⟨g17, 0, none⟩ : Addr) w32 (fun (x34 : Int × ByteArray × Int × (Option Addr × Nat × Nat) × Unit) => CallK Tryz.prog 31 #[x13.1] w32 (.v (.agg [.int .i64, .str, .int .i64, .slc])) (fun (x35 : Int × ByteArray × Int × (Option Addr × Nat × Nat) × Unit) w36 => KeepK S33 w32 w36 (CallK Tryz.prog 29 #[.agg #[.int .i64 x35.1, .string x35.2.1, .int .i64 x35.2.2.1, .slice x35.2.2.2.1.1 x35.2.2.2.1.2.1 x35.2.2.2.1.2.2], .agg #[.int .i64 x34.1, .string x34.2.1, .int .i64 x34.2.2.1, .slice x34.2.2.2.1.1 x34.2.2.2.1.2.1 x34.2.2.2.1.2.2]] w36 (.v (.one .bool)) (fun (x37 : Bool) w38 => KeepK S33 w36 w38 (ifB ((x13.2.2.1 == 0) == x37)
  (ifB (x13.2.2.1 == 0)
  (CallK Tryz.prog 25 #[] w38 (.v (.one .bool)) (fun (x39 : Bool) w40 => KeepK S33 w38 w40 (K (.bool x39) w40)))
  (RunK Tryz.prog (do eqGuard .eql 65 (.tmp 98) (.const .nilIface) x13.1 .nilIface; binOp .eql 65 x13.1 .nilIface) w38 (.v (.one .bool)) (fun (x41 : Bool) w42 => KeepK S33 w38 w42 (ifB x41
  (CallK Tryz.prog 25 #[] w42 (.v (.one .bool)) (fun (x43 : Bool) w44 => KeepK S33 w42 w44 (K (.bool x43) w44)))
  (K (.bool false) w42)))))
  (K (.bool false) w38))))))))))))))))))))))))))
def pl5 : Plan := (.seq .auto (.seq .auto (.seq .auto (.seq .auto (.seq .auto (.seq .auto (.seq .auto (.seq (.join [(86, .one .bool)] (.held (.soft 0 (.soft 1 (.soft 2 (.soft 4 (.pick 3 (.pick 5 (.soft 6 (.soft 7 (.soft 8 (.soft 9 (.soft 10 (.soft 11 (.pick 12 (.soft 13 (.soft 14 .done)) .stop))))))) .stop) .stop)))))) .auto) (.seq (.held (.soft 0 (.soft 1 (.soft 2 (.soft 4 (.pick 3 (.pick 5 (.soft 6 (.soft 7 (.soft 8 (.soft 9 (.soft 10 (.soft 11 (.pick 12 (.soft 13 (.soft 14 (.soft 15 (.pick 16 (.soft 17 (.soft 18 .done)) .stop)))) .stop))))))) .stop) .stop)))))) .auto)))))))))
theorem e5 (p0 : (Option Addr × Nat × Nat) × (Option Addr × Nat × Nat) × Unit) (p1 : Int) (p2 : Int) (p3 : ByteArray) (p4 : Bool) (w : World) (K : Value → World → Prop) : vcFunc Tryz.prog Tryz.f5 pl5 [.agg #[.slice p0.1.1 p0.1.2.1 p0.1.2.2, .slice p0.2.1.1 p0.2.1.2.1 p0.2.1.2.2], .int .i64 p1, .int .i64 p2, .string p3, .bool p4] w K = C5 p0 p1 p2 p3 p4 w K := by kernel_rfl
theorem c5 (p0 : (Option Addr × Nat × Nat) × (Option Addr × Nat × Nat) × Unit) (p1 : Int) (p2 : Int) (p3 : ByteArray) (p4 : Bool) (w : World) (K : Value → World → Prop) (h : C5 p0 p1 p2 p3 p4 w K) : Ret Tryz.prog 5 #[.agg #[.slice p0.1.1 p0.1.2.1 p0.1.2.2, .slice p0.2.1.1 p0.2.1.2.1 p0.2.1.2.2], .int .i64 p1, .int .i64 p2, .string p3, .bool p4] w K := by
  rw [← e5] at h
  exact vcFunc_sound (by kernel_rfl) Tryz.func5 h

end Go.Proofs.YtlhbfdakceipkaaGreatDoor

/-! ### RTel7 -/
set_option linter.unusedVariables false
set_option maxRecDepth 100000
namespace Go.Proofs.YtlhbfdakceipkaaGreatDoor
open Vc

/-- Is a value of an interface nil? -/
theorem nil_is {t : TypeId} (ht : ∃ ms, Tryz.prog.underlying t = some (.interface ms)) (o : Operand) {v : Value} (hv : ifcT v) (w : World) :
    (do eqGuard .eql t o (.const .nilIface) v .nilIface; binOp .eql t v .nilIface : Sem Value).run Tryz.prog w = .ok (.bool (nilT v)) w := by
  obtain ⟨ms, ht⟩ := ht
  rcases hv with rfl | ⟨u, x, rfl⟩
  · have h1 : (eqGuard .eql t o (.const .nilIface) .nilIface .nilIface).run Tryz.prog w = .ok () w := by
      unfold eqGuard
      simp
    rw [Sem.run_bind, h1, Result.andThen_ok]
    have h2 : (Op.equalIn (9999 + 1) t .nilIface .nilIface).run Tryz.prog w = .ok true w := by
      unfold Op.equalIn
      simp only [Sem.run_bind, under ht, Result.andThen_ok, Sem.run_pure]
    show (do pure (Value.bool (← Op.equalIn (9999 + 1) t .nilIface .nilIface)) : Sem Value).run Tryz.prog w = _
    rw [Sem.run_bind, h2]
    rfl
  · have h1 : (eqGuard .eql t o (.const .nilIface) (.iface u x) .nilIface).run Tryz.prog w = .ok () w := by
      unfold eqGuard
      rfl
    rw [Sem.run_bind, h1, Result.andThen_ok]
    have h2 : (Op.equalIn (9999 + 1) t (.iface u x) .nilIface).run Tryz.prog w = .ok false w := by
      unfold Op.equalIn
      simp only [Sem.run_bind, under ht, Result.andThen_ok, Sem.run_pure]
    show (do pure (Value.bool (← Op.equalIn (9999 + 1) t (.iface u x) .nilIface)) : Sem Value).run Tryz.prog w = _
    rw [Sem.run_bind, h2]
    rfl
theorem ifc_obs7 : ∃ ms, Tryz.prog.underlying 65 = some (.interface ms) := ⟨_, Tryz.underlying65⟩

theorem same_T (bs : List UInt8) : sameR (trT (readT bs).1) (trT (readT bs).1) = ((readT bs).2.2 == 0) ∧ cntR (trT (readT bs).1) ≤ 1000000000000 := by
  have h2 := cnt_trT (readT bs).1
  by_cases h : (readT bs).2.2 = 0
  · have hc := checkT_form (readT_inv h).1
    refine ⟨by rw [sameR_self, whole_trT _ hc.1, h]; rfl, by have := hc.2.1; omega⟩
  · have hb := readT_bad h
    rw [hb] at h2 ⊢
    refine ⟨?_, by show 1 ≤ 1000000000000; omega⟩
    rw [beq_false_of_ne h]; rfl
theorem same_O (bs : List UInt8) : sameR (trO (readO bs).1) (trO (readO bs).1) = ((readO bs).2.2 == 0) ∧ cntR (trO (readO bs).1) ≤ 1000000000000 := by
  have h2 := cnt_trO (readO bs).1
  by_cases h : (readO bs).2.2 = 0
  · have hc := checkO_form (readO_inv h).1
    refine ⟨by rw [sameR_self, whole_trO _ hc.1, h]; rfl, by have := hc.2.1; omega⟩
  · have hb := readO_bad h
    rw [hb] at h2 ⊢
    refine ⟨?_, by show 1 ≤ 1000000000000; omega⟩
    rw [beq_false_of_ne h]; rfl

theorem tells7_walk (p0 : PlV) (p1 p2 : Int) (p3 : ByteArray) (p4 : Bool) (w : World) (h0 : IsPl w p0) (h1 : (Go.Lit.int .i64 p1).wf = true) (h2 : (Go.Lit.int .i64 p2).wf = true) (h3 : p3.size ≤ maxLen) :
    Ret Tryz.prog 5 #[plA p0, .int .i64 p1, .int .i64 p2, .string p3, .bool p4] w fun r w' => r = .bool true ∧ Fr none1 w w' := by
  obtain ⟨s, rfl⟩ : ∃ bs, p3 = str bs := ⟨p3.data.toList, (str_of p3).symm⟩
  refine c5 p0 p1 p2 _ p4 w _ ?_
  unfold C5
  refine NewK.of fun g1 w1 hg1 hb1 f1 _ => ?_
  refine LdsK.blk (cks := [.slc, .slc]) (x := p0) hb1 ?_
  refine CallK.of (text7_spec (h0.keep0 f1) p1 p2 s p4) ?_
  rintro _ w2 ⟨bs, rfl, hl, f2⟩
  refine ⟨_, rfl, ?_⟩
  refine CallK.of (rterm_spec bs (by omega) w2) ?_
  rintro _ w3 ⟨rfl, f3⟩
  refine ⟨((readT bs).1.v, (readT bs).2.1, (readT bs).2.2, ()), rfl, ?_⟩
  refine CallK.of (rread_spec bs (by omega) false w3) ?_
  rintro _ w4 ⟨v, rfl, mv, f4⟩
  refine ⟨(v, (readR bs false).2.1, (readR bs false).2.2, ()), rfl, ?_⟩
  refine TB.put v fun g10 w5 hg10 t5 f5 => ?_
  refine CallK.of (robs_spec bs (by omega) w5) ?_
  rintro _ w6 ⟨rfl, f6⟩
  refine ⟨((readO bs).1.v, (readO bs).2.1, (readO bs).2.2, ()), rfl, ?_⟩
  refine CallK.of (rread_spec bs (by omega) true w6) ?_
  rintro _ w7 ⟨u, rfl, mu, f7⟩
  refine ⟨(u, (readR bs true).2.1, (readR bs true).2.2, ()), rfl, ?_⟩
  refine TB.put u fun g17 w8 hg17 t8 f8 => ?_
  rw [readR_T] at mv
  rw [readR_O] at mu
  rw [readR_T, readR_O]
  dsimp only
  refine ifB.ne (fun t => (t rfl).elim) (fun _ => ?_)
  refine ifB.ne (fun t => (t rfl).elim) (fun _ => ?_)
  refine ifB.ne (fun t => (t rfl).elim) (fun _ => ?_)
  refine ifB.ne (fun t => (t rfl).elim) (fun _ => ?_)
  have f58 := (f6.trans f7).trans f8
  have f18 : Fr none1 w w8 := ((((f1.trans f2).trans f3).trans f4).trans f5).trans f58
  have mv8 := (IsTr.keep0 mv f5).keep0 f58
  have mu8 := IsTr.keep0 mu f8
  have tb8 := t5.keep0 f58
  have sT := same_T bs
  have sO := same_O bs
  have wk : ∀ wa, Fr none1 w wa → ∀ S, CallK Tryz.prog 25 #[] wa (.v (.one .bool)) (fun (x : Bool) w' => KeepK S wa w' ((Value.bool x) = .bool true ∧ Fr none1 w w')) := by
    intro wa fa S
    refine CallK.of (wakes7_spec wa) ?_
    rintro _ w5 ⟨rfl, f5⟩
    exact ⟨_, rfl, KeepK.of f5 ⟨rfl, fa.trans f5⟩⟩
  refine JoinK.of (fun c w' => c.1 = false ∧ Fr none1 w8 w') ?_ ?_
  · refine DrewK.of fun w9 _ f9 => HoldK.all (InK.all ?_)
    refine (tb8.keep0 f9).ld ?_
    refine CallK.of (plainT_spec _ w9) ?_
    rintro _ w10 ⟨a, rfl, ma, f10⟩
    refine ⟨a, rfl, KeepK.of f10 ?_⟩
    refine CallK.of (rsame_spec _ _ sT.2 ma ((mv8.keep0 f9).keep0 f10)) ?_
    rintro _ w11 ⟨rfl, f11⟩
    refine ⟨_, rfl, KeepK.of f11 ?_⟩
    have f811 := (f9.trans f10).trans f11
    rw [sT.1]
    refine ifB.f (by simp) ?_
    refine ifB.ne (fun he => ?_) (fun he => ⟨rfl, f811⟩)
    refine ⟨!nilT (readT bs).1.v, w11, nil_neq ifc_term _ (tm_ifc _) w11, KeepK.of (Fr.refl _ _) ⟨?_, f811⟩⟩
    rw [readT_bad he]; rfl
  rintro _ ⟨c, _⟩ w9 ⟨hc, f9⟩
  dsimp only at hc ⊢
  subst hc
  refine ifB.f rfl ?_
  refine DrewK.of fun w10 _ f10 => HoldK.all (InK.all ?_)
  have f810 := f9.trans f10
  refine (t8.keep0 f810).ld ?_
  refine CallK.of (plainO_spec _ w10) ?_
  rintro _ w11 ⟨a, rfl, ma, f11⟩
  refine ⟨a, rfl, KeepK.of f11 ?_⟩
  refine CallK.of (rsame_spec _ _ sO.2 ma ((mu8.keep0 f810).keep0 f11)) ?_
  rintro _ w12 ⟨rfl, f12⟩
  refine ⟨_, rfl, KeepK.of f12 ?_⟩
  have f112 : Fr none1 w w12 := ((f18.trans f810).trans f11).trans f12
  rw [sO.1]
  refine ifB.t (by simp) ?_
  refine ifB.eq (fun he => wk w12 f112 _) (fun he => ?_)
  refine ⟨nilT (readO bs).1.v, w12, nil_is ifc_obs7 _ (ob_ifc _) w12, KeepK.of (Fr.refl _ _) ?_⟩
  rw [readO_bad he]
  exact ifB.t rfl (wk w12 f112 _)

end Go.Proofs.YtlhbfdakceipkaaGreatDoor
