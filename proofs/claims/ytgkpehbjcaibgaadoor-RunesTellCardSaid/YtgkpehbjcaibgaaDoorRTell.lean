/-
  RunesTell: which runes are letters, which texts are names, numbers; the signs of any text, or where it has something else.
  Conditions: none beyond the statement's own.
-/
import Derived.Test.YtgkpehbjcaibgaaDoorRuneSl
import Derived.Test.YtgkpehbjcaibgaaDoorStrSpec
import Derived.Test.YtgkpehbjcaibgaaDoorWithinSpec
import Derived.Test.YtgkpehbjcaibgaaDoorCRTell
set_option linter.unusedVariables false
set_option maxRecDepth 100000
namespace Go.Proofs.YtgkpehbjcaibgaaDoor
open Vc

theorem elem_signR : ElemOk Tryd.prog 41 45 2 (.agg #[.string ByteArray.empty, .int .i64 0]) 24 := ⟨Tryd.underlying41, ⟨Tryd.t45, by kernel_rfl, rfl, rfl, rfl⟩, rfl, by decide⟩

/-- A slice of signs. -/
structure IsSgR (w : World) (v : Sl) (l : List SignV) : Prop where
  sl : IsSl w 45 2 v (signCells l)
  len : v.2.1 = l.length

theorem IsSgR.keep {w w' : World} {v : Sl} {l : List SignV} (h : IsSgR w v l) {S : Nat → Prop} (f : Fr S w w') (hn : ∀ k, blkOf v k → ¬ S k) : IsSgR w' v l := ⟨h.sl.keep f hn, h.len⟩
theorem IsSgR.keep0 {w w' : World} {v : Sl} {l : List SignV} (h : IsSgR w v l) (f : Fr none1 w w') : IsSgR w' v l := h.keep f (fun _ _ t => t)
theorem none_sgR (w : World) : IsSgR w (none, 0, 0) [] := ⟨.inl ⟨rfl, rfl⟩, rfl⟩

theorem sg_snocR {w : World} {v : Sl} {l : List SignV} (h : IsSgR w v l) (x : List UInt8) (at_ : Int) (hl : l.length ≤ 10000000) {K : Sl → World → Prop}
    (hK : ∀ y w', IsSgR w' y (l ++ [(x, at_)]) → Fr (blkOf v) w w' → (∀ k, blkOf y k → blkOf v k ∨ w.heap.size ≤ k) → K y w') :
    RunK Tryd.prog (Instr.buildSlice 41 1 #[(0, .agg #[.string (str x), .int .i64 at_])]) w (.v (.one .slc)) fun (y : Option Addr × Nat × Nat) w' =>
      RunK Tryd.prog (Builtin.append_ #[41, 41] 41 #[.slice v.1 v.2.1 v.2.2, .slice y.1 y.2.1 y.2.2]) w' (.v (.one .slc)) fun (u : Option Addr × Nat × Nat) w'' => K u w'' := by
  obtain ⟨y, w1, r1, hy, hyl, f1, yf⟩ := buildSlice_ok (w := w) elem_signR 1 #[(0, .agg #[.string (str x), .int .i64 at_])] #[.string (str x), .int .i64 at_] (by omega) (by
    simp [Instr.fill, Value.cells]
    refine Array.ext (by simp) fun i h1 h2 => ?_
    have : i = 0 ∨ i = 1 := by simp at h2; omega
    rcases this with t | t <;> subst t <;> simp) rfl
  refine ⟨y, w1, r1, ?_⟩
  have hvl := h.len
  obtain ⟨z, w2, r2, hz, hzl, f2, zf⟩ := append_ok elem_signR 41 (h.sl.keep0 f1) hy.rd (by intro v hv; simp at hv; rcases hv with rfl | rfl <;> rfl) (by rw [hyl, hvl]; omega)
  refine ⟨z, w2, r2, hK z w2 ⟨?_, ?_⟩ (f1.of0 f2) fun k hk => ?_⟩
  · rw [signCells_app]; exact hz
  · rw [hzl, hyl, hvl, List.length_append]; rfl
  · rcases zf k hk with t | t
    · exact .inl t
    · exact .inr (Nat.le_trans f1.size t)

/-- A part of an element of a slice of signs. -/
theorem sg_ldR {w : World} {v : Sl} {l : List SignV} (h : IsSgR w v l) {i : Int} (h0 : 0 ≤ i) (h1 : i < v.2.1) {x : SignV} (hx : l[i.toNat]? = some x) {K : Addr → Prop}
    (hK : ∀ a : Addr, (∀ (K : ByteArray → Prop), K (str x.1) → LdK .str (a.add 0) w K) → (∀ (K : Int → Prop), K x.2 → LdK (.int .i64) (a.add 1) w K) → (∀ (K : ByteArray × Int × Unit → Prop), K (str x.1, x.2, ()) → LdsK [.str, .int .i64] a w K) → K a) : IdxK v.1 v.2.1 i 2 K := by
  obtain ⟨hs, hl⟩ := h
  obtain ⟨c1, c2⟩ := signCells_at l i.toNat x hx
  rcases hs with ⟨rfl, hnil⟩ | ⟨g, off, cs, hv, hb, hle, hc, hn, he⟩
  · dsimp only at h1; omega
  · refine ⟨_, hv, h0, h1, ?_⟩
    rw [addr_add]
    have hlen := signCells_len l
    have hi : i.toNat < l.length := by omega
    have e0 : w.cell? (⟨g, off + i.toNat * 2, none⟩ : Addr) = some (.string (str x.1)) := by
      rw [cell_blk hb, he _ (by omega)]; exact c1
    have e1 : w.cell? (⟨g, off + i.toNat * 2 + 1, none⟩ : Addr) = some (.int .i64 x.2) := by
      rw [cell_blk hb, show off + i.toNat * 2 + 1 = off + (i.toNat * 2 + 1) by omega, he _ (by omega)]; exact c2
    have a0 : ((⟨g, off + i.toNat * 2, none⟩ : Addr).add 0) = ⟨g, off + i.toNat * 2, none⟩ := by rw [addr_add]; rfl
    have a1 : ((⟨g, off + i.toNat * 2, none⟩ : Addr).add 1) = ⟨g, off + i.toNat * 2 + 1, none⟩ := by rw [addr_add]
    refine hK _ (fun K k => LdK.cell (by rw [a0]; exact e0) k) (fun K k => LdK.cell (by rw [a1]; exact e1) k) (fun K k => ⟨_, ⟨by rw [a0]; exact e0, by rw [a1]; exact e1, trivial⟩, k⟩)

theorem sign_eqR (x y : ByteArray) (i j : Int) (o1 o2 : Operand) (w : World) :
    (do eqGuard .eql 45 o1 o2 (.agg #[.string x, .int .i64 i]) (.agg #[.string y, .int .i64 j]); binOp .eql 45 (.agg #[.string x, .int .i64 i]) (.agg #[.string y, .int .i64 j]) : Sem Value).run Tryd.prog w = .ok (.bool (decide (x = y) && decide (i = j))) w := by
  have hf : ∃ fs, Tryd.prog.underlying 45 = some (.struct fs) ∧ Tryd.prog.fieldsOf 45 = fs := by
    unfold Program.fieldsOf
    rw [Tryd.underlying45]
    exact ⟨_, rfl, rfl⟩
  have hu : Tryd.prog.underlying 45 = some (.struct (Tryd.prog.fieldsOf 45)) := by
    obtain ⟨fs, h1, h2⟩ := hf
    rw [h1, h2]
  rw [Sem.run_bind, run_eqGuard_agg w _ _ _ _ _ _ (show Tryd.prog.eqGuardType Tryd.prog.depth 45 = false by kernel_rfl), Result.andThen_ok, run_eql_struct, run_equalIn_agg w _ _ _ _ hu (by kernel_rfl)]
  have hF : (Tryd.prog.fieldsOf 45).toList = [{ name := "Text", type := 9, offset := 0, embedded := false, tag := "", pkgPath := "", byteOffset := 0 }, { name := "At", type := 3, offset := 1, embedded := false, tag := "", pkgPath := "", byteOffset := 16 }] := by
    unfold Program.fieldsOf
    rw [Tryd.underlying45]
  have p0 : ∀ (v u : Value), (part 9 #[v, u] 0).run Tryd.prog w = .ok v w := fun v u => by simp [part, isAgg, under Tryd.underlying9]
  have p1 : ∀ (v u : Value), (part 3 #[v, u] 1).run Tryd.prog w = .ok u w := fun v u => by simp [part, isAgg, under Tryd.underlying3]
  rw [hF]
  have q0 : (Op.equalIn 9999 9 (.string x) (.string y)).run Tryd.prog w = .ok (x.toList == y.toList) w := run_equalIn_string w 9998 _ _ _ Tryd.underlying9
  have q1 : (Op.equalIn 9999 3 (.int .i64 i) (.int .i64 j)).run Tryd.prog w = .ok (i == j) w := run_equalIn_int w 9998 _ _ _ _ _ Tryd.underlying3
  simp only [Op.eqFields, ne_eq, if_pos (show ¬ ("Text" = "_") by decide), if_pos (show ¬ ("At" = "_") by decide), Sem.run_bind, p0, Result.andThen_ok, q0]
  rw [bytes_beq]
  by_cases hxy : x = y
  · subst hxy
    by_cases hij : i = j
    · subst hij; simp [p1, q1]
    · simp [hij, p1, q1]
  · simp [hxy]

theorem sign_neR (x y : ByteArray) (i j : Int) (o1 o2 : Operand) (w : World) :
    (do eqGuard .neq 45 o1 o2 (.agg #[.string x, .int .i64 i]) (.agg #[.string y, .int .i64 j]); binOp .neq 45 (.agg #[.string x, .int .i64 i]) (.agg #[.string y, .int .i64 j]) : Sem Value).run Tryd.prog w = .ok (.bool (!(decide (x = y) && decide (i = j)))) w := by
  have h := sign_eqR x y i j o1 o2 w
  rw [Sem.run_bind, run_eqGuard_agg w _ _ _ _ _ _ (show Tryd.prog.eqGuardType Tryd.prog.depth 45 = false by kernel_rfl), Result.andThen_ok] at h ⊢
  rw [run_eql_struct] at h
  rw [run_neq_struct]
  cases hr : (Op.equalIn 10000 45 (.agg #[.string x, .int .i64 i]) (.agg #[.string y, .int .i64 j])).run Tryd.prog w with
  | halt e w' => rw [hr] at h; simp [Result.andThen] at h
  | ok b w' =>
    rw [hr, Result.andThen_ok] at h
    injection h with h1 h2
    injection h1 with h1
    rw [Result.andThen_ok, h1, h2]


/-! ### The document's own -/
theorem rletter_spec (r : Int) (w : World) : Ret Tryd.prog 17 #[.int .i32 r] w fun v w' => v = .bool (isLet r) ∧ w = w' := by
  refine c17 r w _ ?_
  unfold C17
  have tl : isLet r = (r == 95 || (decide (128 ≤ r) && r != 65533)) → ifB (r == 95) ((.bool true : Value) = .bool (isLet r) ∧ w = w) (ifB (decide (r ≥ 128)) ((.bool (r != 65533) : Value) = .bool (isLet r) ∧ w = w) ((.bool false : Value) = .bool (isLet r) ∧ w = w)) := fun h => by
    rw [h]
    refine ifB.by (fun h2 => ?_) (fun h2 => ?_)
    · rw [h2]; exact ⟨rfl, rfl⟩
    rw [h2, Bool.false_or]
    refine ifB.dec (fun h3 => ?_) (fun h3 => ?_)
    · rw [decide_eq_true (p := 128 ≤ r) (by omega)]; exact ⟨by rw [Bool.true_and], rfl⟩
    · rw [decide_eq_false (p := 128 ≤ r) (by omega)]; exact ⟨rfl, rfl⟩
  have mid : (decide (97 ≤ r) && decide (r ≤ 122)) = false → ifB (decide (r ≥ 48)) (ifB (decide (r ≤ 57)) ((.bool true : Value) = .bool (isLet r) ∧ w = w) (ifB (r == 95) ((.bool true : Value) = .bool (isLet r) ∧ w = w) (ifB (decide (r ≥ 128)) ((.bool (r != 65533) : Value) = .bool (isLet r) ∧ w = w) ((.bool false : Value) = .bool (isLet r) ∧ w = w))))
      (ifB (r == 95) ((.bool true : Value) = .bool (isLet r) ∧ w = w) (ifB (decide (r ≥ 128)) ((.bool (r != 65533) : Value) = .bool (isLet r) ∧ w = w) ((.bool false : Value) = .bool (isLet r) ∧ w = w))) := fun h => by
    refine ifB.dec (fun h1 => ?_) (fun h1 => ?_)
    · refine ifB.dec (fun h2 => ?_) (fun h2 => ?_)
      · refine ⟨?_, rfl⟩
        unfold isLet isDig
        rw [decide_eq_true (p := 48 ≤ r) (by omega), decide_eq_true (p := r ≤ 57) (by omega)]; simp
      · refine tl ?_
        unfold isLet isDig
        rw [h, decide_eq_false (p := r ≤ 57) (by omega), Bool.and_false, Bool.false_or, Bool.false_or]
    · refine tl ?_
      unfold isLet isDig
      rw [h, decide_eq_false (p := 48 ≤ r) (by omega), Bool.false_and, Bool.false_or, Bool.false_or]
  refine ifB.dec (fun h => ?_) (fun h => ?_)
  · refine ifB.dec (fun h2 => ?_) (fun h2 => ?_)
    · unfold isLet
      rw [decide_eq_true (p := 97 ≤ r) (by omega), decide_eq_true (p := r ≤ 122) (by omega)]; exact ⟨rfl, rfl⟩
    · exact mid (by rw [decide_eq_false (p := r ≤ 122) (by omega), Bool.and_false])
  · exact mid (by rw [decide_eq_false (p := 97 ≤ r) (by omega), Bool.false_and])

theorem r_snoc {w : World} {v : Sl} {rs : List Int} (h : IsR w v rs) (c : Int) (hl : rs.length ≤ 1000000) {K : Sl → World → Prop}
    (hK : ∀ y w', IsR w' y (rs ++ [c]) → Fr (blkOf v) w w' → (∀ k, blkOf y k → blkOf v k ∨ w.heap.size ≤ k) → K y w') :
    RunK Tryd.prog (Instr.buildSlice 60 1 #[(0, .int .i32 c)]) w (.v (.one .slc)) fun (y : Option Addr × Nat × Nat) w' =>
      RunK Tryd.prog (Builtin.append_ #[60, 60] 60 #[.slice v.1 v.2.1 v.2.2, .slice y.1 y.2.1 y.2.2]) w' (.v (.one .slc)) fun (u : Option Addr × Nat × Nat) w'' => K u w'' := by
  have hvl := IsSl.len h
  rw [List.length_map, Nat.mul_one] at hvl
  refine append_one elem_rune 60 h (.int .i32 c) rfl rfl (by omega) fun y w' hy _ f yf => hK y w' ?_ f yf
  unfold IsR
  rw [List.map_append]
  exact hy

theorem rrunes_spec (bs : List UInt8) (hl : bs.length ≤ 1000000) (w : World) : Ret Tryd.prog 27 #[.string (str bs)] w fun r w' => ∃ v : Sl, r = .slice v.1 v.2.1 v.2.2 ∧ IsR w' v (runesL bs) ∧ Fr none1 w w' ∧ ∀ k, blkOf v k → w.heap.size ≤ k := by
  refine c27 _ w _ ?_
  refine range_okS bs fun r w1 hr hit f1 => ?_
  have hrl := runesL_len bs
  have s1 := f1.size
  refine LoopK.of (fun s w' => ∃ (done rest : List Int), runesL bs = done ++ rest ∧ IsR w' s.1 done ∧ (∀ k, blkOf s.1 k → w.heap.size < k) ∧ IsIt w' r rest ∧ Fr none1 w w') (fun _ w' => itLen w' r)
    ⟨[], _, rfl, .inl ⟨rfl, rfl⟩, (fun k ⟨a, ha, _⟩ => by cases ha), hit, f1⟩ ?_
  rintro _ ⟨v, _⟩ w2 ⟨done, rest, heq, hv, hvf, hit2, f2⟩
  dsimp only at hv hvf ⊢
  refine next_ok hit2 (fun c rest' pos w3 hc hok hit3 f3 => ?_) (fun hnil => ?_)
  · subst hc
    have hdl : done.length ≤ 1000000 := by
      have := congrArg List.length heq
      rw [List.length_append] at this; omega
    have fw3 : Fr none1 w w3 := f2.fresh f3 (by omega)
    have hv3 : IsR w3 v done := IsSl.keep hv f3 (fun k hk t => by have := hvf k hk; have : k = r := t; omega)
    refine r_snoc hv3 c hdl fun u w4 hu f4 uf => ?_
    have hit4 := hit3.keep f4 (fun t => by have := hvf r t; omega)
    have rlt := hit3.lt
    refine ⟨⟨done ++ [c], rest', by rw [heq]; simp, hu, fun k hk => ?_, hit4, fw3.comp f4 (fun k hk t => by have := hvf k t; omega)⟩, by rw [hit4.left, hit2.left]; simp⟩
    rcases uf k hk with t | t
    · exact hvf k t
    · omega
  · subst hnil
    rw [List.append_nil] at heq
    exact ⟨v, rfl, by rw [heq]; exact hv, f2, fun k hk => by have := hvf k hk; omega⟩

theorem IsR.ld {w : World} {v : Sl} {rs : List Int} (h : IsR w v rs) {i : Int} (h0 : 0 ≤ i) (h1 : i < v.2.1) {K : Int → Prop} (k : K (rs.getD i.toNat 0)) : IdxK v.1 v.2.1 i 1 fun p => LdK (.int .i32) p w K := by
  have hl := IsSl.len h
  rw [List.length_map, Nat.mul_one] at hl
  refine IsSl.ld h h0 h1 (x := rs.getD i.toNat 0) ?_ k
  rw [List.getElem?_map, List.getD_eq_getElem?_getD, List.getElem?_eq_getElem (by omega)]
  rfl
theorem IsR.len {w : World} {v : Sl} {rs : List Int} (h : IsR w v rs) : v.2.1 = rs.length := by
  have hl := IsSl.len h
  rw [List.length_map, Nat.mul_one] at hl
  exact hl.symm

theorem rname_spec (bs : List UInt8) (hl : bs.length ≤ 1000000) (w : World) : Ret Tryd.prog 19 #[.string (str bs)] w fun v w' => v = .bool (nameF 0 (runesL bs)) ∧ Fr none1 w w' := by
  refine c19 _ w _ ?_
  refine CallK.of (rrunes_spec bs hl w) ?_
  rintro _ w1 ⟨v, rfl, hv, f1, _⟩
  refine ⟨v, rfl, ?_⟩
  have hrl := runesL_len bs
  generalize runesL bs = rs at *
  have hvl := hv.len
  have mem : ∀ j, j < rs.length → rs.getD j 0 ∈ rs := fun j hj => by rw [List.getD_eq_getElem?_getD, List.getElem?_eq_getElem hj]; exact List.getElem_mem _
  refine LoopK.of (fun s w' => w1 = w' ∧ 0 ≤ s.1 ∧ s.1 ≤ rs.length ∧ (∀ j : Nat, (j : Int) < s.1 → isLet (rs.getD j 0) = true) ∧ (0 < s.1 → isDig (rs.getD 0 0) = false)) (fun s _ => (rs.length - s.1).toNat)
    ⟨rfl, Int.le_refl _, by dsimp only; omega, fun j hj => by dsimp only at hj; omega, fun t => by dsimp only at t; omega⟩ ?_
  rintro _ ⟨i, _⟩ _ ⟨rfl, i0, i1, hlet, hdig⟩
  dsimp only at i0 i1 hlet hdig ⊢
  refine ifB.dec (fun hlt => ?_) (fun hge => ?_)
  · refine hv.ld i0 hlt ?_
    refine CallK.of (rletter_spec _ w1) ?_
    rintro _ _ ⟨rfl, rfl⟩
    refine ⟨_, rfl, ?_⟩
    have hi : i.toNat < rs.length := by omega
    refine ifB.by (fun hb => ?_) (fun hb => ?_)
    · refine ⟨?_, f1⟩
      rw [nameF_bad rs 0 ⟨_, mem _ hi, by simpa using hb⟩]
    have hli : isLet (rs.getD i.toNat 0) = true := by simpa using hb
    have next : (0 < i + 1 → isDig (rs.getD 0 0) = false) → ((w1 = w1 ∧ 0 ≤ IntKind.i64.wrap (i + 1) ∧ IntKind.i64.wrap (i + 1) ≤ rs.length ∧ (∀ j : Nat, (j : Int) < IntKind.i64.wrap (i + 1) → isLet (rs.getD j 0) = true) ∧ (0 < IntKind.i64.wrap (i + 1) → isDig (rs.getD 0 0) = false)) ∧ (rs.length - IntKind.i64.wrap (i + 1)).toNat < (rs.length - i).toNat) := fun hd => by
      rw [wI (by omega) (by omega)]
      refine ⟨⟨rfl, by omega, by omega, fun j hj => ?_, hd⟩, by omega⟩
      by_cases hji : (j : Int) < i
      · exact hlet j hji
      · rw [show j = i.toNat by omega]; exact hli
    refine ifB.eq (fun h0 => ?_) (fun h0 => ?_)
    · subst h0
      have e0 : (0 : Int).toNat = 0 := rfl
      refine hv.ld i0 hlt ?_
      rw [e0]
      have fin : isDig (rs.getD 0 0) = true → nameF 0 rs = false := fun hd => by
        cases rs with
        | nil => simp at hi
        | cons r l =>
          unfold nameF
          have hli : isLet r = true := hli
          rw [if_neg (by simp [hli]), if_pos ⟨rfl, hd⟩]
      refine ifB.dec (fun h48 => ?_) (fun h48 => ?_)
      · refine hv.ld i0 hlt ?_
        rw [e0]
        refine ifB.dec (fun h57 => ?_) (fun h57 => ?_)
        · refine ⟨?_, f1⟩
          rw [fin (by unfold isDig; rw [decide_eq_true (p := 48 ≤ rs.getD 0 0) (by omega), decide_eq_true (p := rs.getD 0 0 ≤ 57) (by omega)]; rfl)]
        · exact next fun _ => by unfold isDig; rw [decide_eq_false (p := rs.getD 0 0 ≤ 57) (by omega), Bool.and_false]
      · exact next fun _ => by unfold isDig; rw [decide_eq_false (p := 48 ≤ rs.getD 0 0) (by omega), Bool.false_and]
    · exact next fun _ => hdig (by omega)
  · have hall : ∀ r ∈ rs, isLet r = true := fun r hr => by
      obtain ⟨j, hj, rfl⟩ := List.mem_iff_getElem.1 hr
      have := hlet j (by omega)
      rwa [List.getD_eq_getElem?_getD, List.getElem?_eq_getElem hj] at this
    refine ifB.dec (fun h1 => ?_) (fun h1 => ?_)
    · refine ⟨?_, f1⟩
      rw [nameF_all rs 0 hall (fun _ => ?_) (by omega) (by omega)]
      · congr 1
        exact decide_eq_decide.2 (by omega)
      · have := hdig (by omega)
        cases rs with
        | nil => rfl
        | cons r l => exact this
    · refine ⟨?_, f1⟩
      have : rs = [] := List.eq_nil_of_length_eq_zero (by omega)
      rw [this]; rfl

theorem take1 {s : List UInt8} (h : 0 < s.length) : s.take 1 = [45] ↔ (s.getD 0 0).toNat = 45 := by
  cases s with
  | nil => simp at h
  | cons x s =>
    constructor
    · intro t
      have : x = 45 := by simpa using t
      rw [this]; rfl
    · intro t
      have : x = 45 := UInt8.toNat_inj.1 t
      rw [this]; rfl

theorem rnumber_spec (s : List UInt8) (hl : s.length ≤ 100000) (w : World) : Ret Tryd.prog 15 #[.string (str s)] w fun r w' => r = .tuple #[.int .i64 (numF s).1, .bool (numF s).2] ∧ Fr none1 w w' := by
  refine c15 _ w _ ?_
  unfold C15
  have F0 : Fr none1 w w := Fr.refl _ _
  refine JoinK.of (fun q w' => q.1 = decide (s.take 1 = [45]) ∧ w = w') ?_ ?_
  · rw [str_size]
    refine ifB.dec (fun h => ?_) (fun h => ?_)
    · refine strk_ok (by omega) (by omega) ⟨?_, rfl⟩
      rw [show (0 : Int).toNat = 0 from rfl]
      have := take1 (s := s) (by omega)
      by_cases t : s.take 1 = [45]
      · rw [decide_eq_true t]; have := this.1 t; simp only [beq_iff_eq]; omega
      · rw [decide_eq_false t]; simp only [beq_eq_false_iff_ne]; intro q; exact t (this.2 (by omega))
    · refine ⟨?_, rfl⟩
      have : s = [] := List.eq_nil_of_length_eq_zero (by omega)
      rw [this]; rfl
  rintro _ ⟨neg, _⟩ _ ⟨hneg, rfl⟩
  dsimp only at hneg ⊢
  subst hneg
  refine JoinK.of (fun q w' => q.1 = str (noMinus s) ∧ w = w') ?_ ?_
  · unfold noMinus
    refine ifB.dec (fun h => ?_) (fun h => ?_)
    · rw [if_pos h]
      have hl1 : 1 ≤ s.length := by
        have := congrArg List.length h
        rw [List.length_take] at this
        simp only [List.length_cons, List.length_nil] at this
        omega
      refine subs_ok (by omega) (by rw [str_size]; omega) (by rw [str_size]; omega) ⟨?_, rfl⟩
      rw [str_size, List.take_of_length_le (by simp)]
      rfl
    · rw [if_neg h]; exact ⟨rfl, rfl⟩
  rintro _ ⟨q, _⟩ _ ⟨hq, rfl⟩
  dsimp only at hq ⊢
  subst hq
  have hdl : (noMinus s).length ≤ s.length := by unfold noMinus; split <;> simp
  have hneg : s.take 1 = [45] → s ≠ [48] := fun t q => by rw [q] at t; simp at t
  have hpos : s.take 1 ≠ [45] → noMinus s = s := fun t => by unfold noMinus; rw [if_neg t]
  obtain ⟨d, hd⟩ : ∃ d, noMinus s = d := ⟨_, rfl⟩
  unfold numF
  rw [hd] at hdl hpos ⊢
  rw [str_size]
  refine JoinK.of (fun q w' => w = w' ∧ (q.1 = true → d = [] ∨ 13 < d.length ∨ (d.getD 0 0 = 48 ∧ s ≠ [48])) ∧ (q.1 = false → d ≠ [] ∧ d.length ≤ 13 ∧ (d.getD 0 0 = 48 → s = [48]))) ?_ ?_
  · refine ifB.dec (fun h => ?_) (fun h => ?_)
    · exact ⟨rfl, fun _ => .inl (List.eq_nil_of_length_eq_zero (by omega)), fun t => by cases t⟩
    refine ifB.dec (fun h2 => ?_) (fun h2 => ?_)
    · exact ⟨rfl, fun _ => .inr (.inl (by omega)), fun t => by cases t⟩
    have hne : d ≠ [] := fun t => by rw [t] at h; simp at h
    refine strk_ok (by omega) (by omega) ?_
    rw [show (0 : Int).toNat = 0 from rfl]
    refine ifB.eq (fun h48 => ?_) (fun h48 => ?_)
    · have h48' : d.getD 0 0 = 48 := UInt8.toNat_inj.1 (by have : (48 : UInt8).toNat = 48 := rfl
                                                           omega)
      refine ifB.dec (fun h1 => ?_) (fun h1 => ?_)
      · refine ⟨rfl, fun _ => .inr (.inr ⟨h48', fun t => ?_⟩), fun t => by cases t⟩
        rw [t] at hdl
        simp only [List.length_cons, List.length_nil] at hdl
        omega
      · refine ⟨rfl, fun t => .inr (.inr ⟨h48', hneg (of_decide_eq_true t)⟩), fun t => ⟨hne, by omega, fun _ => ?_⟩⟩
        have e := hpos (of_decide_eq_false t)
        rw [← e]
        match d, hne, h1, h48' with
        | [x], _, _, h48' => rw [show x = 48 from h48']
        | x :: y :: l, _, h1, _ => simp at h1; omega
    · refine ⟨rfl, (fun t => by cases t), fun _ => ⟨hne, by omega, fun t => absurd (by rw [t]; rfl) h48⟩⟩
  rintro _ ⟨q, _⟩ _ ⟨rfl, hqt, hqf⟩
  dsimp only at hqt hqf ⊢
  refine ifB.by (fun hq => ?_) (fun hq => ?_)
  · rw [if_pos]
    · exact ⟨rfl, F0⟩
    rcases hqt hq with t | t | t
    · exact .inl t
    · exact .inr (.inl t)
    · exact .inr (.inr (.inr t))
  obtain ⟨hne, h13, h48⟩ := hqf hq
  refine LoopK.of (fun q w' => w = w' ∧ ∃ n : Nat, q.2.1 = n ∧ n ≤ d.length ∧ q.1 = valL (d.take n) ∧ ∀ c ∈ d.take n, isD c = true) (fun q _ => d.length - q.2.1.toNat) ⟨rfl, 0, rfl, by omega, rfl, by simp⟩ ?_
  rintro _ ⟨m, i, _⟩ _ ⟨rfl, n, hn, hnl, hm, hall⟩
  dsimp only at hn hm ⊢
  subst hn; subst hm
  refine ifB.dec (fun hlt => ?_) (fun hge => ?_)
  · have hmem : d.getD n 0 ∈ d := by rw [List.getD_eq_getElem?_getD, List.getElem?_eq_getElem (by omega)]; exact List.getElem_mem _
    have bad : isD (d.getD n 0) = false → ((.tuple #[.int .i64 0, .bool false] : Value) = .tuple #[.int .i64 (if d = [] ∨ 13 < d.length ∨ d.all isD = false ∨ (d.getD 0 0 = 48 ∧ s ≠ [48]) then ((0, false) : Int × Bool) else if 1000000000000 < valL d then (0, false) else (if s.take 1 = [45] then -(valL d) else valL d, true)).1, .bool (if d = [] ∨ 13 < d.length ∨ d.all isD = false ∨ (d.getD 0 0 = 48 ∧ s ≠ [48]) then ((0, false) : Int × Bool) else if 1000000000000 < valL d then (0, false) else (if s.take 1 = [45] then -(valL d) else valL d, true)).2] ∧ Fr none1 w w) := fun hb => by
      rw [if_pos]
      · exact ⟨rfl, F0⟩
      refine .inr (.inr (.inl ?_))
      cases ha : d.all isD with
      | false => rfl
      | true => rw [List.all_eq_true.1 ha _ hmem] at hb; cases hb
    refine strk_ok (by omega) (by omega) ?_
    rw [Int.toNat_natCast]
    refine ifB.dec (fun h1 => ?_) (fun h1 => ?_)
    · exact bad (by unfold isD; rw [decide_eq_false (by omega), Bool.false_and])
    refine strk_ok (by omega) (by omega) ?_
    rw [Int.toNat_natCast]
    refine ifB.dec (fun h2 => ?_) (fun h2 => ?_)
    · exact bad (by unfold isD; rw [decide_eq_false (p := (d.getD n 0).toNat ≤ 57) (by omega), Bool.and_false])
    refine strk_ok (by omega) (by omega) ?_
    rw [Int.toNat_natCast]
    have e1 : IntKind.u8.wrap (((d.getD n 0).toNat : Int) - 48) = ((d.getD n 0).toNat : Int) - 48 := by rw [IntKind.wrap_u8]; omega
    rw [e1, wI (x := ((d.getD n 0).toNat : Int) - 48) (by omega) (by omega)]
    have hall' : ∀ c ∈ d.take (n + 1), isD c = true := fun c hc => by
      rw [List.take_succ_eq_append_getElem (by omega)] at hc
      rcases List.mem_append.1 hc with hc | hc
      · exact hall c hc
      · simp only [List.mem_singleton] at hc
        rw [hc]
        have e : d[n] = d.getD n 0 := by rw [List.getD_eq_getElem?_getD, List.getElem?_eq_getElem (by omega)]; rfl
        rw [e]
        unfold isD
        rw [decide_eq_true (by omega), decide_eq_true (by omega)]; rfl
    obtain ⟨b1, b2⟩ := valL_bound (d.take n) hall (by rw [List.length_take]; omega)
    obtain ⟨b3, b4⟩ := valL_bound (d.take (n + 1)) hall' (by rw [List.length_take]; omega)
    have e2 : d.take (n + 1) = d.take n ++ [d.getD n 0] := by
      rw [List.take_succ_eq_append_getElem (by omega), List.getD_eq_getElem?_getD, List.getElem?_eq_getElem (by omega)]; rfl
    rw [e2, valL_snoc] at b3 b4
    rw [wI (x := 10 * valL (d.take n)) (by omega) (by omega), wI (x := 10 * valL (d.take n) + (((d.getD n 0).toNat : Int) - 48)) (by omega) (by omega), wI (x := (n : Int) + 1) (by omega) (by omega)]
    refine ⟨⟨rfl, n + 1, by omega, by omega, ?_, hall'⟩, by omega⟩
    rw [e2, valL_snoc]; omega
  · have : n = d.length := by omega
    subst this
    rw [List.take_length] at hall ⊢
    obtain ⟨b1, b2⟩ := valL_bound d hall (by omega)
    rw [if_neg]
    rotate_left
    · rintro (t | t | t | t)
      · exact hne t
      · omega
      · rw [List.all_eq_true.2 hall] at t; cases t
      · exact t.2 (h48 t.1)
    refine ifB.dec (fun h1 => ?_) (fun h1 => ?_)
    · rw [if_pos (by omega)]; exact ⟨rfl, F0⟩
    rw [if_neg (by omega)]
    refine ifB.dec (fun h2 => ?_) (fun h2 => ?_)
    · rw [if_pos h2, wI (x := 0 - valL d) (by omega) (by omega), Int.zero_sub]; exact ⟨rfl, F0⟩
    · rw [if_neg h2]; exact ⟨rfl, F0⟩

/-! ### The document's signs -/
def rsF (out : List SignV) (word : List UInt8) (a i : Int) : List Int → List SignV × Int
  | [] => (out, 0)
  | r :: rs => if isLet r = true ∨ r = 45 then rsF out (word ++ enc r) (if word = [] then i + 1 else a) (i + 1) rs else
      if r = 40 ∨ r = 41 ∨ r = 44 then rsF ((if word = [] then out else out ++ [(word, a)]) ++ [(enc r, i + 1)]) [] a (i + 1) rs else
      if r = 32 then rsF (if word = [] then out else out ++ [(word, a)]) [] a (i + 1) rs else ([], i + 1)

theorem rsF_eq : ∀ (R : List Int) (out : List SignV) (word : List UInt8) (a i : Int), rsF out word a i (R ++ [32]) = sgF (if word = [] then out else out ++ [(word, a)]) i (!decide (word = [])) R
  | [], out, word, a, i => by
    have h1 : isLet 32 = false := rfl
    show rsF out word a i [32] = _
    unfold rsF
    rw [if_neg (by rw [h1]; simp), if_neg (by omega), if_pos rfl]
    rfl
  | r :: R, out, word, a, i => by
    have ih := rsF_eq R
    have hen := enc_pos r
    have hr : rsF out word a i (r :: R ++ [32]) = if isLet r = true ∨ r = 45 then rsF out (word ++ enc r) (if word = [] then i + 1 else a) (i + 1) (R ++ [32]) else
      if r = 40 ∨ r = 41 ∨ r = 44 then rsF ((if word = [] then out else out ++ [(word, a)]) ++ [(enc r, i + 1)]) [] a (i + 1) (R ++ [32]) else
      if r = 32 then rsF (if word = [] then out else out ++ [(word, a)]) [] a (i + 1) (R ++ [32]) else ([], i + 1) := rfl
    have hs : ∀ acc run, sgF acc i run (r :: R) = if kd r = 0 then ([], i + 1) else if kd r = 97 ∧ run = true then sgF (addLast acc (enc r)) (i + 1) true R else
      if kd r ≠ 32 then sgF (acc ++ [(enc r, i + 1)]) (i + 1) (kd r == 97) R else sgF acc (i + 1) false R := fun _ _ => rfl
    rw [hr, hs]
    by_cases hl : isLet r = true ∨ r = 45
    · have hk : kd r = 97 := by
        unfold kd
        rcases hl with t | t
        · rw [if_pos t]
        · subst t; rfl
      rw [if_pos hl, hk, if_neg (show ¬ (97 : Int) = 0 by decide), ih]
      have hne : word ++ enc r ≠ [] := by simp [hen]
      rw [if_neg hne, decide_eq_false hne]
      by_cases hw : word = []
      · subst hw
        rfl
      · rw [if_neg hw, if_neg hw, decide_eq_false hw, if_pos (show (97 : Int) = 97 ∧ (!false) = true from ⟨rfl, rfl⟩), addLast_of]
        rfl
    · have hlf : ¬ isLet r = true := fun t => hl (.inl t)
      have h45 : ¬ r = 45 := fun t => hl (.inr t)
      rw [if_neg hl]
      by_cases hs : r = 40 ∨ r = 41 ∨ r = 44
      · have hk : kd r = 40 := by rcases hs with t | t | t <;> subst t <;> rfl
        rw [if_pos hs, hk, if_neg (show ¬ (40 : Int) = 0 by decide), if_neg (show ¬ ((40 : Int) = 97 ∧ (!decide (word = [])) = true) from fun t => absurd t.1 (by decide)), if_pos (show (40 : Int) ≠ 32 by decide), ih]
        rfl
      · rw [if_neg hs]
        by_cases h32 : r = 32
        · have hk : kd r = 32 := by subst h32; rfl
          rw [if_pos h32, hk, if_neg (show ¬ (32 : Int) = 0 by decide), if_neg (show ¬ ((32 : Int) = 97 ∧ (!decide (word = [])) = true) from fun t => absurd t.1 (by decide)), if_neg (show ¬ (32 : Int) ≠ 32 by decide), ih]
          rfl
        · have hk : kd r = 0 := by
            unfold kd
            rw [if_neg hlf, if_neg h45, if_neg (fun t => hs (.inl t)), if_neg (fun t => hs (.inr (.inl t))), if_neg (fun t => hs (.inr (.inr t))), if_neg h32]
          rw [if_neg h32, if_pos hk]

theorem sgF_len : ∀ (R : List Int) (acc : List SignV) (at_ : Int) (run : Bool), (sgF acc at_ run R).1.length ≤ acc.length + 1 + R.length
  | [], acc, at_, run => by show acc.length ≤ _; simp only [List.length_nil]; omega
  | r :: R, acc, at_, run => by
    have h1 := sgF_len R (addLast acc (enc r)) (at_ + 1) true
    have h2 := sgF_len R (acc ++ [(enc r, at_ + 1)]) (at_ + 1) (kd r == 97)
    have h3 := sgF_len R acc (at_ + 1) false
    have e1 : (addLast acc (enc r)).length ≤ acc.length + 1 := by unfold addLast; simp
    simp only [List.length_append, List.length_cons, List.length_nil] at h2 ⊢
    unfold sgF
    split
    · simp
    split
    · omega
    split
    · omega
    · omega

theorem rsigns_spec (bs : List UInt8) (hl : bs.length ≤ 100000) (w : World) : Ret Tryd.prog 21 #[.string (str bs)] w fun v w' =>
    ∃ sl : Sl, v = .tuple #[.slice sl.1 sl.2.1 sl.2.2, .int .i64 (sgF [] 0 false (runesL bs)).2] ∧ IsSgR w' sl (sgF [] 0 false (runesL bs)).1 ∧ Fr none1 w w' := by
  refine c21 _ w _ ?_
  unfold C21
  have e0 : (⟨#[]⟩ : ByteArray) = str [] := rfl
  rw [e0]
  refine CallK.of (rrunes_spec bs (by omega) w) ?_
  rintro _ w1 ⟨v, rfl, hv, f1, hvf⟩
  refine ⟨v, rfl, ?_⟩
  have hrl := runesL_len bs
  have hok := okR_runes bs
  have heq := rsF_eq (runesL bs) [] [] 0 0
  rw [if_pos rfl] at heq
  have heq : rsF [] [] 0 0 (runesL bs ++ [32]) = sgF [] 0 false (runesL bs) := heq
  rw [← heq]
  generalize runesL bs = R at *
  refine r_snoc hv 32 (by omega) fun x w2 hx f2 xf => ?_
  have fw2 : Fr none1 w w2 := f1.comp f2 (fun k hk t => by have := hvf k t; omega)
  obtain ⟨L, hL⟩ : ∃ L, R ++ [32] = L := ⟨_, rfl⟩
  rw [hL] at hx heq ⊢
  have hxl := hx.len
  have hLl : L.length ≤ 100001 := by rw [← hL, List.length_append, List.length_singleton]; omega
  have xlt : ∀ k, blkOf x k → k < w2.heap.size := fun k hk => IsSl.lt hx hk
  refine LoopK.of (fun s w' => ∃ (n : Nat) (out : List SignV) (word : List UInt8), s.2.2.2.1 = n ∧ n ≤ L.length ∧ s.2.1 = str word ∧ word.length ≤ 4 * n ∧ out.length ≤ 2 * n ∧ IsSgR w' s.1 out ∧ (∀ k, blkOf s.1 k → w2.heap.size ≤ k) ∧ Fr none1 w2 w' ∧ rsF out word s.2.2.1 n (L.drop n) = rsF [] [] 0 0 L) (fun s _ => L.length - s.2.2.2.1.toNat)
    ⟨0, [], [], rfl, by omega, rfl, by simp, by simp, none_sgR _, (fun k ⟨a, ha, _⟩ => by cases ha), Fr.refl _ _, rfl⟩ ?_
  rintro _ ⟨l, ws, a, i, _⟩ w3 ⟨n, out, word, hn, hnl, hws, hwl, hol, hsl, hsf, f3, hst⟩
  dsimp only at hn hws hsl hsf hst ⊢
  subst hn; subst hws
  refine ifB.dec (fun hlt => ?_) (fun hge => ?_)
  rotate_left
  · have : n = L.length := by omega
    subst this
    rw [List.drop_length] at hst
    rw [← hst]
    exact ⟨l, rfl, hsl, fw2.trans f3⟩
  have hnL : n < L.length := by omega
  have hx3 : IsR w3 x L := IsSl.keep0 hx f3
  refine hx3.ld (by omega) hlt ?_
  rw [Int.toNat_natCast]
  obtain ⟨r, hr⟩ : ∃ r, L.getD n 0 = r := ⟨_, rfl⟩
  rw [hr]
  have hdr : L.drop n = r :: L.drop (n + 1) := by
    rw [List.drop_eq_getElem_cons hnL, ← hr, List.getD_eq_getElem?_getD, List.getElem?_eq_getElem hnL]; rfl
  rw [hdr] at hst
  have hunf : rsF out word a n (r :: L.drop (n + 1)) = if isLet r = true ∨ r = 45 then rsF out (word ++ enc r) (if word = [] then (n : Int) + 1 else a) ((n : Int) + 1) (L.drop (n + 1)) else
      if r = 40 ∨ r = 41 ∨ r = 44 then rsF ((if word = [] then out else out ++ [(word, a)]) ++ [(enc r, (n : Int) + 1)]) [] a ((n : Int) + 1) (L.drop (n + 1)) else
      if r = 32 then rsF (if word = [] then out else out ++ [(word, a)]) [] a ((n : Int) + 1) (L.drop (n + 1)) else ([], (n : Int) + 1) := rfl
  rw [hunf] at hst
  have hel := enc_len r
  rw [wI (x := (n : Int) + 1) (by omega) (by omega)]
  refine JoinK.of (fun q w' => w3 = w' ∧ (q.1 = true ↔ (isLet r = true ∨ r = 45))) ?_ ?_
  · refine CallK.of (rletter_spec r w3) ?_
    rintro _ _ ⟨rfl, rfl⟩
    refine ⟨_, rfl, ?_⟩
    refine ifB.by (fun h => ?_) (fun h => ?_)
    · exact ⟨rfl, fun _ => .inl h, fun _ => rfl⟩
    · exact ⟨rfl, fun t => .inr (by simpa using t), fun t => t.elim (fun t => by rw [h] at t; cases t) (fun t => by simpa using t)⟩
  rintro _ ⟨q, _⟩ _ ⟨rfl, hq⟩
  dsimp only at hq ⊢
  refine ifB.by (fun hqt => ?_) (fun hqf => ?_)
  · rw [if_pos (hq.1 hqt)] at hst
    rw [str_beq, enc_str]
    have cat : ∀ K : Prop, K → CatK (str word) (str (enc r)) K := fun K k => ⟨by rw [str_size, str_size]; show ((word.length + (enc r).length : Nat) : Int) ≤ 9223372036854775807; omega, k⟩
    refine ifB.dec (fun hw => ?_) (fun hw => ?_)
    · refine cat _ ?_
      rw [if_pos hw] at hst
      rw [str_app]
      exact ⟨⟨n + 1, out, _, by omega, by omega, rfl, by simp only [List.length_append]; omega, by omega, hsl, hsf, f3, hst⟩, by omega⟩
    · refine cat _ ?_
      rw [if_neg hw] at hst
      rw [str_app]
      exact ⟨⟨n + 1, out, _, by omega, by omega, rfl, by simp only [List.length_append]; omega, by omega, hsl, hsf, f3, hst⟩, by omega⟩
  have hq' : ¬ (isLet r = true ∨ r = 45) := fun t => by rw [hq.2 t] at hqf; cases hqf
  rw [if_neg hq'] at hst
  obtain ⟨out', hout⟩ : ∃ o, (if word = [] then out else out ++ [(word, a)]) = o := ⟨_, rfl⟩
  rw [hout] at hst
  have hol' : out'.length ≤ 2 * n + 1 := by
    rw [← hout]
    split
    · omega
    · simp only [List.length_append, List.length_singleton]; omega
  refine JoinK.of (fun q w' => q.2.1 = str [] ∧ IsSgR w' q.1 out' ∧ (∀ k, blkOf q.1 k → w2.heap.size ≤ k) ∧ Fr none1 w2 w') ?_ ?_
  · rw [str_beq]
    refine ifB.by (fun hw => ?_) (fun hw => ?_)
    · have hw' : word ≠ [] := by simpa using hw
      rw [if_neg hw'] at hout
      refine sg_snocR hsl word a (by omega) fun y w4 hy f4 yf => ?_
      refine ⟨rfl, by rw [← hout]; exact hy, fun k hk => ?_, f3.comp f4 (fun k hk t => by have := hsf k t; omega)⟩
      rcases yf k hk with t | t
      · exact hsf k t
      · exact Nat.le_trans f3.size t
    · have hw' : word = [] := by simpa using hw
      rw [if_pos hw'] at hout
      exact ⟨by rw [hw'], by rw [← hout]; exact hsl, hsf, f3⟩
  rintro _ ⟨l', ws, _⟩ w4 ⟨hws, hsl4, hsf4, f4⟩
  dsimp only at hws hsl4 hsf4 ⊢
  subst hws
  have sign : (r = 40 ∨ r = 41 ∨ r = 44) → RunK Tryd.prog (Instr.buildSlice 41 1 #[(0, .agg #[.string (Utf8.encode r), .int .i64 ((n : Int) + 1)])]) w4 (.v (.one .slc)) (fun (x24 : Option Addr × Nat × Nat) w25 => RunK Tryd.prog (Builtin.append_ #[41, 41] 41 #[.slice l'.1 l'.2.1 l'.2.2, .slice x24.1 x24.2.1 x24.2.2]) w25 (.v (.one .slc)) (fun (x26 : Option Addr × Nat × Nat) w27 =>
      (∃ (m : Nat) (out : List SignV) (word : List UInt8), (n : Int) + 1 = m ∧ m ≤ L.length ∧ str [] = str word ∧ word.length ≤ 4 * m ∧ out.length ≤ 2 * m ∧ IsSgR w27 (x26.1, x26.2.1, x26.2.2) out ∧ (∀ k, blkOf (x26.1, x26.2.1, x26.2.2) k → w2.heap.size ≤ k) ∧ Fr none1 w2 w27 ∧ rsF out word a m (L.drop m) = rsF [] [] 0 0 L) ∧ L.length - ((n : Int) + 1).toNat < L.length - (n : Int).toNat)) := fun hs => by
    rw [if_pos hs] at hst
    rw [enc_str]
    refine sg_snocR hsl4 (enc r) ((n : Int) + 1) (by omega) fun y w5 hy f5 yf => ?_
    refine ⟨⟨n + 1, _, [], by omega, by omega, rfl, by simp, by simp only [List.length_append, List.length_singleton]; omega, hy, fun k hk => ?_, f4.comp f5 (fun k hk t => by have := hsf4 k t; omega), hst⟩, by omega⟩
    rcases yf k hk with t | t
    · exact hsf4 k t
    · exact Nat.le_trans f4.size t
  have blank : ¬ (r = 40 ∨ r = 41 ∨ r = 44) → ifB (r == 32) ((∃ (m : Nat) (out : List SignV) (word : List UInt8), (n : Int) + 1 = m ∧ m ≤ L.length ∧ str [] = str word ∧ word.length ≤ 4 * m ∧ out.length ≤ 2 * m ∧ IsSgR w4 (l'.1, l'.2.1, l'.2.2) out ∧ (∀ k, blkOf (l'.1, l'.2.1, l'.2.2) k → w2.heap.size ≤ k) ∧ Fr none1 w2 w4 ∧ rsF out word a m (L.drop m) = rsF [] [] 0 0 L) ∧ L.length - ((n : Int) + 1).toNat < L.length - (n : Int).toNat)
      (∃ sl : Sl, (.tuple #[.slice none 0 0, .int .i64 ((n : Int) + 1)] : Value) = .tuple #[.slice sl.1 sl.2.1 sl.2.2, .int .i64 (rsF [] [] 0 0 L).2] ∧ IsSgR w4 sl (rsF [] [] 0 0 L).1 ∧ Fr none1 w w4) := fun hs => by
    rw [if_neg hs] at hst
    refine ifB.eq (fun h32 => ?_) (fun h32 => ?_)
    · rw [if_pos h32] at hst
      exact ⟨⟨n + 1, _, [], by omega, by omega, rfl, by simp, by omega, hsl4, hsf4, f4, hst⟩, by omega⟩
    · rw [if_neg h32] at hst
      rw [← hst]
      exact ⟨(none, 0, 0), rfl, none_sgR _, fw2.trans f4⟩
  refine ifB.eq (fun h40 => ?_) (fun h40 => ?_)
  · exact ifB.t (by simpa using h40) (sign (.inl h40))
  refine ifB.eq (fun h41 => ?_) (fun h41 => ?_)
  · exact ifB.t (by simpa using h41) (sign (.inr (.inl h41)))
  refine ifB.eq (fun h44 => ?_) (fun h44 => ?_)
  · exact sign (.inr (.inr h44))
  · exact blank (fun t => by rcases t with t | t | t; exact h40 t; exact h41 t; exact h44 t)

theorem tell_walk (p0 p1 : ByteArray) (p2 : Int) (w : World) (h0 : p0.size ≤ maxLen) (h1 : p1.size ≤ maxLen) (h2 : (Go.Lit.int .i64 p2).wf = true) :
    Ret Tryd.prog 5 #[.string p0, .string p1, .int .i64 p2] w fun r w' => r = .bool true ∧ Fr none1 w w' := by
  obtain ⟨s, rfl⟩ : ∃ bs, p0 = str bs := ⟨p0.data.toList, (str_of p0).symm⟩
  obtain ⟨t, rfl⟩ : ∃ bs, p1 = str bs := ⟨p1.data.toList, (str_of p1).symm⟩
  refine c5 _ _ p2 w _ ?_
  unfold C5
  refine CallK.of (text1_spec s 60 w (by omega)) ?_
  rintro _ _ ⟨rfl, rfl⟩
  refine ⟨_, rfl, ?_⟩
  refine CallK.of (text1_spec t 20 w (by omega)) ?_
  rintro _ _ ⟨rfl, rfl⟩
  refine ⟨_, rfl, ?_⟩
  have hs : (s.take (60 : Int).toNat).length ≤ 60 := by rw [List.length_take]; exact Nat.min_le_left _ _
  have ht : (t.take (20 : Int).toNat).length ≤ 20 := by rw [List.length_take]; exact Nat.min_le_left _ _
  generalize s.take (60 : Int).toNat = s at *
  generalize t.take (20 : Int).toNat = t at *
  refine JoinK.of (fun q w' => w = w') ?_ ?_
  · refine ⟨by omega, ifB.by (fun _ => ?_) (fun _ => rfl)⟩
    refine CallK.of (within_spec p2 768 w (by omega)) ?_
    rintro _ _ ⟨rfl, rfl⟩
    exact ⟨_, rfl, rfl⟩
  rintro _ ⟨k, _⟩ _ rfl
  dsimp only
  refine CallK.of (number_spec t (by omega) w) ?_
  rintro _ w1 ⟨rfl, f1⟩
  refine ⟨((numF t).1, (numF t).2, ()), rfl, ?_⟩
  refine CallK.of (rnumber_spec t (by omega) w1) ?_
  rintro _ w2 ⟨rfl, f2⟩
  refine ⟨((numF t).1, (numF t).2, ()), rfl, ?_⟩
  refine CallK.of (letter_spec k w2) ?_
  rintro _ _ ⟨rfl, rfl⟩
  refine ⟨_, rfl, ?_⟩
  refine CallK.of (rletter_spec k w2) ?_
  rintro _ _ ⟨rfl, rfl⟩
  refine ⟨_, rfl, ifB.f (by simp) ?_⟩
  refine CallK.of (name_spec t w2) ?_
  rintro _ w3 ⟨rfl, f3⟩
  refine ⟨_, rfl, ?_⟩
  refine CallK.of (rname_spec t (by omega) w3) ?_
  rintro _ w4 ⟨rfl, f4⟩
  refine ⟨_, rfl, ifB.f (by simp) (ifB.f (by simp) (ifB.f (by simp) ?_))⟩
  have hR60 : (runesL s).length ≤ 60 := Nat.le_trans (runesL_len _) hs
  have hrd : reads (runesL s) ≤ 1000000 := by
    have : reads (runesL s) ≤ (runesL s).length := by unfold reads; exact (List.takeWhile_sublist _).length_le
    omega
  refine CallK.of (signs_spec s w4 hrd) ?_
  rintro _ w5 ⟨sl, rfl, hsl, f5, _⟩
  refine ⟨((sl.1, sl.2.1, sl.2.2), _, ()), rfl, ?_⟩
  refine CallK.of (rsigns_spec s (by omega) w5) ?_
  rintro _ w6 ⟨sr, rfl, hsr, f6⟩
  refine ⟨((sr.1, sr.2.1, sr.2.2), _, ()), rfl, ?_⟩
  have el := hsl.len
  have er := hsr.len
  have hll := sgF_len (runesL s) [] 0 false
  simp only [List.length_nil] at hll
  refine ifB.f (by simp) (ifB.f (by dsimp only; rw [el, er]; simp) ?_)
  have fw6 := ((((f1.trans f2).trans f3).trans f4).trans f5).trans f6
  generalize (sgF [] 0 false (runesL s)).1 = l at *
  have hsl6 := hsl.keep0 f6
  refine LoopK.of (fun q w' => 0 ≤ q.1 ∧ q.1 ≤ sl.2.1 ∧ Fr none1 w6 w') (fun q _ => (sl.2.1 - q.1).toNat) ⟨Int.le_refl _, by dsimp only; omega, Fr.refl _ _⟩ ?_
  rintro _ ⟨i, _⟩ w7 ⟨i0, i1, f7⟩
  dsimp only at i0 i1 ⊢
  refine ifB.dec (fun hlt => ?_) (fun hge => ?_)
  · refine DrewK.of fun w8 _ f8 => ?_
    have hi : l[i.toNat]? = some l[i.toNat] := List.getElem?_eq_getElem (by omega)
    refine sg_ld ((hsl6.keep0 f7).keep0 f8) i0 hlt hi fun p _ _ hp => hp _ ?_
    refine sg_ldR ((hsr.keep0 f7).keep0 f8) i0 (by omega) hi fun q _ _ hq => hq _ ?_
    refine ⟨_, w8, sign_neR _ _ _ _ _ _ w8, ifB.f (by simp) ?_⟩
    rw [wI (by omega) (by omega)]
    exact ⟨⟨by omega, by omega, f7.trans f8⟩, by omega⟩
  · refine CallK.of (wakes1_spec w7) ?_
    rintro _ w8 ⟨rfl, f8⟩
    exact ⟨_, rfl, rfl, (fw6.trans f7).trans f8⟩

end Go.Proofs.YtgkpehbjcaibgaaDoor
