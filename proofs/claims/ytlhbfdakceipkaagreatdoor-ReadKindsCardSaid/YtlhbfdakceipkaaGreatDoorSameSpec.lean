/-
  term.Same, obs.Same: whether two contracts, two numbers are made alike.
  Conditions: none.
-/
import Derived.Test.YtlhbfdakceipkaaGreatDoorTermSpec
import Derived.Test.YtlhbfdakceipkaaGreatDoorCSameG
import Derived.Laws.StructEq
set_option linter.unusedVariables false
set_option maxRecDepth 100000
namespace Go.Proofs.YtlhbfdakceipkaaGreatDoor
open Vc

/-! ### Plain -/
def kindO : Ob → Int
  | .none => 0
  | .const _ => 1
  | .fix _ => 2
  | .add _ _ => 3
  | .neg _ => 4
  | .mul _ _ => 5
  | .max _ _ => 6
def sameO : Ob → Ob → Bool
  | .const n, .const m => n == m
  | .fix s, .fix t => s == t
  | .add a b, .add c d => sameO a c && sameO b d
  | .neg a, .neg c => sameO a c
  | .mul a b, .mul c d => sameO a c && sameO b d
  | .max a b, .max c d => sameO a c && sameO b d
  | _, _ => false
def sameT : Tm → Tm → Bool
  | .zero, .zero => true
  | .one s, .one t => s == t
  | .give a, .give c => sameT a c
  | .and a b, .and c d => sameT a c && sameT b d
  | .or s a b, .or t c d => s == t && (sameT a c && sameT b d)
  | .scale o a, .scale p c => sameO o p && sameT a c
  | .when n a, .when m c => n == m && sameT a c
  | .cond o a b, .cond p c d => sameO o p && (sameT a c && sameT b d)
  | _, _ => false
theorem sameO_self (o : Ob) (h : formO o = true) : sameO o o = true := by
  induction o <;> simp_all [sameO, formO]
theorem sameT_self (t : Tm) (h : formT t = true) : sameT t t = true := by
  induction t <;> simp_all [sameT, formT, sameO_self]
theorem sameO_eq (a b : Ob) (h : sameO a b = true) : a = b := by
  induction a generalizing b with
  | none => cases b <;> simp [sameO] at h
  | const n => cases b <;> simp_all [sameO]
  | fix s => cases b <;> simp_all [sameO]
  | add l r i j => cases b <;> simp [sameO] at h; rw [i _ h.1, j _ h.2]
  | neg o i => cases b <;> simp [sameO] at h; rw [i _ h]
  | mul l r i j => cases b <;> simp [sameO] at h; rw [i _ h.1, j _ h.2]
  | max l r i j => cases b <;> simp [sameO] at h; rw [i _ h.1, j _ h.2]
theorem sameT_eq (a b : Tm) (h : sameT a b = true) : a = b := by
  induction a generalizing b with
  | none => cases b <;> simp [sameT] at h
  | zero => cases b <;> simp_all [sameT]
  | one s => cases b <;> simp_all [sameT]
  | give t i => cases b <;> simp [sameT] at h; rw [i _ h]
  | and l r i j => cases b <;> simp [sameT] at h; rw [i _ h.1, j _ h.2]
  | or s l r i j => cases b <;> simp [sameT] at h; rw [h.1, i _ h.2.1, j _ h.2.2]
  | scale o t i => cases b <;> simp [sameT] at h; rw [sameO_eq _ _ h.1, i _ h.2]
  | when d t i => cases b <;> simp [sameT] at h; rw [h.1, i _ h.2]
  | cond o l r i j => cases b <;> simp [sameT] at h; rw [sameO_eq _ _ h.1, i _ h.2.1, j _ h.2.2]

/-! ### Structs of one part compared -/
theorem const_eq (i j : Int) (o1 o2 : Operand) (w : World) :
    (do eqGuard .eql 80 o1 o2 (.agg #[.int .i64 i]) (.agg #[.int .i64 j]); binOp .eql 80 (.agg #[.int .i64 i]) (.agg #[.int .i64 j]) : Sem Value).run Tryz.prog w = .ok (.bool (i == j)) w := by
  have hf : ∃ fs, Tryz.prog.underlying 80 = some (.struct fs) ∧ Tryz.prog.fieldsOf 80 = fs := by
    unfold Program.fieldsOf
    rw [Tryz.underlying80]
    exact ⟨_, rfl, rfl⟩
  have hu : Tryz.prog.underlying 80 = some (.struct (Tryz.prog.fieldsOf 80)) := by
    obtain ⟨fs, h1, h2⟩ := hf
    rw [h1, h2]
  rw [Sem.run_bind, run_eqGuard_agg w _ _ _ _ _ _ (show Tryz.prog.eqGuardType Tryz.prog.depth 80 = false by kernel_rfl), Result.andThen_ok, run_eql_struct, run_equalIn_agg w _ _ _ _ hu (by kernel_rfl)]
  have hF : (Tryz.prog.fieldsOf 80).toList = [{ name := "N", type := 3, offset := 0, embedded := false, tag := "", pkgPath := "", byteOffset := 0 }] := by
    unfold Program.fieldsOf
    rw [Tryz.underlying80]
  have p0 : ∀ (v : Value), (part 3 #[v] 0).run Tryz.prog w = .ok v w := fun v => by simp [part, isAgg, under Tryz.underlying3]
  rw [hF]
  have q1 : (Op.equalIn 9999 3 (.int .i64 i) (.int .i64 j)).run Tryz.prog w = .ok (i == j) w := run_equalIn_int w 9998 _ _ _ _ _ Tryz.underlying3
  simp only [Op.eqFields, ne_eq, if_pos (show ¬ ("N" = "_") by decide), Sem.run_bind, p0, Result.andThen_ok, q1]
  by_cases hij : i = j
  · subst hij; simp
  · simp [hij]
theorem fix_eq (x y : ByteArray) (o1 o2 : Operand) (w : World) :
    (do eqGuard .eql 78 o1 o2 (.agg #[.string x]) (.agg #[.string y]); binOp .eql 78 (.agg #[.string x]) (.agg #[.string y]) : Sem Value).run Tryz.prog w = .ok (.bool (x.toList == y.toList)) w := by
  have hf : ∃ fs, Tryz.prog.underlying 78 = some (.struct fs) ∧ Tryz.prog.fieldsOf 78 = fs := by
    unfold Program.fieldsOf
    rw [Tryz.underlying78]
    exact ⟨_, rfl, rfl⟩
  have hu : Tryz.prog.underlying 78 = some (.struct (Tryz.prog.fieldsOf 78)) := by
    obtain ⟨fs, h1, h2⟩ := hf
    rw [h1, h2]
  rw [Sem.run_bind, run_eqGuard_agg w _ _ _ _ _ _ (show Tryz.prog.eqGuardType Tryz.prog.depth 78 = false by kernel_rfl), Result.andThen_ok, run_eql_struct, run_equalIn_agg w _ _ _ _ hu (by kernel_rfl)]
  have hF : (Tryz.prog.fieldsOf 78).toList = [{ name := "Name", type := 9, offset := 0, embedded := false, tag := "", pkgPath := "", byteOffset := 0 }] := by
    unfold Program.fieldsOf
    rw [Tryz.underlying78]
  have p0 : ∀ (v : Value), (part 9 #[v] 0).run Tryz.prog w = .ok v w := fun v => by simp [part, isAgg, under Tryz.underlying9]
  rw [hF]
  have q1 : (Op.equalIn 9999 9 (.string x) (.string y)).run Tryz.prog w = .ok (x.toList == y.toList) w := run_equalIn_string w 9998 _ _ _ Tryz.underlying9
  simp only [Op.eqFields, ne_eq, if_pos (show ¬ ("Name" = "_") by decide), Sem.run_bind, p0, Result.andThen_ok, q1]
  cases x.toList == y.toList <;> simp

/-! ### What the functions do -/
theorem okind_spec (o : Ob) (w : World) : Ret Tryz.prog 80 #[o.v] w fun r w' => r = .int .i64 (kindO o) ∧ w = w' := by
  refine c80 o.v w _ ?_
  cases o with
  | none => exact TaK.nil rfl (TaK.nil rfl (TaK.nil rfl (TaK.nil rfl (TaK.nil rfl (TaK.nil rfl ⟨rfl, rfl⟩)))))
  | const n => exact TaK.hit (n, ()) rfl ⟨rfl, rfl⟩
  | fix s => exact TaK.miss rfl (by decide) (TaK.hit (str s, ()) rfl ⟨rfl, rfl⟩)
  | add l r => exact TaK.miss rfl (by decide) (TaK.miss rfl (by decide) (TaK.hit (l.v, r.v, ()) rfl ⟨rfl, rfl⟩))
  | neg x => exact TaK.miss rfl (by decide) (TaK.miss rfl (by decide) (TaK.miss rfl (by decide) (TaK.hit (x.v, ()) rfl ⟨rfl, rfl⟩)))
  | mul l r => exact TaK.miss rfl (by decide) (TaK.miss rfl (by decide) (TaK.miss rfl (by decide) (TaK.miss rfl (by decide) (TaK.hit (l.v, r.v, ()) rfl ⟨rfl, rfl⟩))))
  | max l r => exact TaK.miss rfl (by decide) (TaK.miss rfl (by decide) (TaK.miss rfl (by decide) (TaK.miss rfl (by decide) (TaK.miss rfl (by decide) (TaK.hit (l.v, r.v, ()) rfl ⟨rfl, rfl⟩)))))

def all2 {α β : Type} (f : α → β → Bool) : List α → List β → Bool
  | [], [] => true
  | a :: l, b :: m => f a b && all2 f l m
  | _, _ => false
theorem all2_len {α β : Type} (f : α → β → Bool) : ∀ (l : List α) (m : List β), l.length ≠ m.length → all2 f l m = false
  | [], [], h => absurd rfl h
  | [], _ :: _, _ => rfl
  | _ :: _, [], _ => rfl
  | a :: l, b :: m, h => by unfold all2; rw [all2_len f l m (by simpa using h), Bool.and_false]
theorem all2_take {α β : Type} (f : α → β → Bool) : ∀ (l : List α) (m : List β) (i : Nat) (a : α) (b : β), l[i]? = some a → m[i]? = some b → all2 f (l.take (i + 1)) (m.take (i + 1)) = (all2 f (l.take i) (m.take i) && f a b)
  | [], _, i, a, b, h, _ => by simp at h
  | x :: l, [], i, a, b, _, h => by simp at h
  | x :: l, y :: m, 0, a, b, h, k => by simp at h k; subst h k; simp [all2]
  | x :: l, y :: m, i + 1, a, b, h, k => by
    have := all2_take f l m i a b (by simpa using h) (by simpa using k)
    simp only [List.take_succ_cons, all2]
    rw [this, Bool.and_assoc]
theorem all2_bad {α β : Type} (f : α → β → Bool) : ∀ (l : List α) (m : List β) (i : Nat) (a : α) (b : β), l[i]? = some a → m[i]? = some b → f a b = false → all2 f l m = false
  | [], _, i, a, b, h, _, _ => by simp at h
  | x :: l, [], i, a, b, _, h, _ => by simp at h
  | x :: l, y :: m, 0, a, b, h, k, e => by simp at h k; subst h k; simp [all2, e]
  | x :: l, y :: m, i + 1, a, b, h, k, e => by
    have := all2_bad f l m i a b (by simpa using h) (by simpa using k) e
    simp [all2, this]

theorem equal_os {w : World} {u v : Sl} {l m : List Ob} (hu : IsOs w u l) (hv : IsOs w v m) (hl : l.length ≤ 2) {cb : Value} (f : Ob → Ob → Bool)
    (hcb : ∀ a ∈ l, ∀ b ∈ m, ∀ w K, (∀ w', Fr none1 w w' → K (f a b) w') → callV Tryz.prog cb [a.v, b.v] (.v (.one .bool)) w K) :
    Ret Tryz.prog 81 #[.slice u.1 u.2.1 u.2.2, .slice v.1 v.2.1 v.2.2, cb] w fun r w' => r = .bool (all2 f l m) ∧ Fr none1 w w' := by
  refine c81 _ _ _ _ _ _ cb w _ ?_
  have hul := hu.len
  have hvl := hv.len
  refine ifB.ne (fun h => ?_) (fun h => ?_)
  · rw [all2_len f l m (by omega)]; exact ⟨rfl, Fr.refl _ _⟩
  refine LoopK.of (fun s w' => ∃ i : Nat, s.1 = i ∧ i ≤ l.length ∧ all2 f (l.take i) (m.take i) = true ∧ Fr none1 w w') (fun s _ => (2 - s.1).toNat) ⟨0, rfl, Nat.zero_le _, rfl, Fr.refl _ _⟩ ?_
  rintro _ ⟨i', _⟩ w2 ⟨i, hi, hil, hall, f2⟩
  dsimp only at hi ⊢
  subst hi
  refine ifB.dec (fun hlt => ?_) (fun hge => ?_)
  · have hi2 : i < l.length := by omega
    have hi3 : i < m.length := by omega
    obtain ⟨a, ha⟩ : ∃ a, l[i]? = some a := ⟨_, List.getElem?_eq_getElem hi2⟩
    obtain ⟨b, hb⟩ : ∃ b, m[i]? = some b := ⟨_, List.getElem?_eq_getElem hi3⟩
    refine (hu.keep0 f2).ld ha ?_
    refine (hv.keep0 f2).ld hb ?_
    refine hcb a (List.mem_of_getElem? ha) b (List.mem_of_getElem? hb) _ _ fun w3 f3 => ?_
    refine ifB.not (ifB.by (fun e => ?_) (fun e => ?_))
    · exact ⟨⟨i + 1, by rw [wI (by omega) (by omega)]; omega, by omega, by rw [all2_take f l m i a b ha hb, hall, e]; rfl, f2.trans f3⟩, by rw [wI (by omega) (by omega)]; omega⟩
    · rw [all2_bad f l m i a b ha hb e]; exact ⟨rfl, f2.trans f3⟩
  · have : i = l.length := by omega
    subst this
    rw [List.take_length, List.take_of_length_le (by omega)] at hall
    rw [hall]; exact ⟨rfl, f2⟩
theorem equal_ts {w : World} {u v : Sl} {l m : List Tm} (hu : IsTs w u l) (hv : IsTs w v m) (hl : l.length ≤ 2) {cb : Value} (f : Tm → Tm → Bool)
    (hcb : ∀ a ∈ l, ∀ b ∈ m, ∀ w K, (∀ w', Fr none1 w w' → K (f a b) w') → callV Tryz.prog cb [a.v, b.v] (.v (.one .bool)) w K) :
    Ret Tryz.prog 78 #[.slice u.1 u.2.1 u.2.2, .slice v.1 v.2.1 v.2.2, cb] w fun r w' => r = .bool (all2 f l m) ∧ Fr none1 w w' := by
  refine c78 _ _ _ _ _ _ cb w _ ?_
  have hul := hu.len
  have hvl := hv.len
  refine ifB.ne (fun h => ?_) (fun h => ?_)
  · rw [all2_len f l m (by omega)]; exact ⟨rfl, Fr.refl _ _⟩
  refine LoopK.of (fun s w' => ∃ i : Nat, s.1 = i ∧ i ≤ l.length ∧ all2 f (l.take i) (m.take i) = true ∧ Fr none1 w w') (fun s _ => (2 - s.1).toNat) ⟨0, rfl, Nat.zero_le _, rfl, Fr.refl _ _⟩ ?_
  rintro _ ⟨i', _⟩ w2 ⟨i, hi, hil, hall, f2⟩
  dsimp only at hi ⊢
  subst hi
  refine ifB.dec (fun hlt => ?_) (fun hge => ?_)
  · have hi2 : i < l.length := by omega
    have hi3 : i < m.length := by omega
    obtain ⟨a, ha⟩ : ∃ a, l[i]? = some a := ⟨_, List.getElem?_eq_getElem hi2⟩
    obtain ⟨b, hb⟩ : ∃ b, m[i]? = some b := ⟨_, List.getElem?_eq_getElem hi3⟩
    refine (hu.keep0 f2).ld ha ?_
    refine (hv.keep0 f2).ld hb ?_
    refine hcb a (List.mem_of_getElem? ha) b (List.mem_of_getElem? hb) _ _ fun w3 f3 => ?_
    refine ifB.not (ifB.by (fun e => ?_) (fun e => ?_))
    · exact ⟨⟨i + 1, by rw [wI (by omega) (by omega)]; omega, by omega, by rw [all2_take f l m i a b ha hb, hall, e]; rfl, f2.trans f3⟩, by rw [wI (by omega) (by omega)]; omega⟩
    · rw [all2_bad f l m i a b ha hb e]; exact ⟨rfl, f2.trans f3⟩
  · have : i = l.length := by omega
    subst this
    rw [List.take_length, List.take_of_length_le (by omega)] at hall
    rw [hall]; exact ⟨rfl, f2⟩

theorem kindO_zero (o : Ob) : kindO o = 0 ↔ o = .none := by cases o <;> simp [kindO]
theorem sameO_kind {a b : Ob} (h : kindO a ≠ kindO b) : sameO a b = false := by cases a <;> cases b <;> simp_all [sameO, kindO]
theorem sameO_kids {a b : Ob} (h0 : kindO a ≠ 0) (h : kindO a = kindO b) (hl : (leafO a).1 = false) : sameO a b = all2 sameO (kidsO a) (kidsO b) := by
  cases a <;> cases b <;> simp_all [sameO, kindO, leafO, kidsO, all2]

theorem osame_spec (a b : Ob) (w : World) : Ret Tryz.prog 34 #[a.v, b.v] w fun r w' => r = .bool (sameO a b) ∧ Fr none1 w w' := by
  have ih : ∀ k ∈ kidsO a, ∀ b w, Ret Tryz.prog 34 #[k.v, b.v] w fun r w' => r = .bool (sameO k b) ∧ Fr none1 w w' := fun k hk b w => osame_spec k b w
  refine c34 a.v b.v w _ ?_
  refine CallK.of (okind_spec a w) ?_
  rintro _ _ ⟨rfl, rfl⟩
  refine ⟨_, rfl, ifB.eq (fun h => ?_) (fun h => ?_)⟩
  · have := (kindO_zero a).1 h
    subst this
    exact ⟨by cases b <;> rfl, Fr.refl _ _⟩
  refine CallK.of (okind_spec a w) ?_
  rintro _ _ ⟨rfl, rfl⟩
  refine ⟨_, rfl, ?_⟩
  refine CallK.of (okind_spec b w) ?_
  rintro _ _ ⟨rfl, rfl⟩
  refine ⟨_, rfl, ifB.ne (fun hk => ?_) (fun hk => ?_)⟩
  · rw [sameO_kind hk]; exact ⟨rfl, Fr.refl _ _⟩
  have deep : (leafO a).1 = false → ∀ w2, Fr none1 w w2 →
      CallK Tryz.prog 82 #[a.v] w2 (.v (.one .slc)) (fun (x31 : Option Addr × Nat × Nat) w32 => CallK Tryz.prog 82 #[b.v] w32 (.v (.one .slc)) (fun (x33 : Option Addr × Nat × Nat) w34 =>
      CallK Tryz.prog 81 #[.slice x31.1 x31.2.1 x31.2.2, .slice x33.1 x33.2.1 x33.2.2, .func (.func 34) #[] #[]] w34 (.v (.one .bool)) (fun (x35 : Bool) w36 => (Value.bool x35) = .bool (sameO a b) ∧ Fr none1 w w36))) := fun hl w2 f2 => by
    refine CallK.of (okids_spec a w2) ?_
    rintro _ w3 ⟨u, rfl, hu, f3⟩
    refine ⟨u, rfl, ?_⟩
    refine CallK.of (okids_spec b w3) ?_
    rintro _ w4 ⟨v, rfl, hv, f4⟩
    refine ⟨v, rfl, ?_⟩
    refine CallK.of (equal_os (hu.keep0 f4) hv (kidsO_len a) sameO fun x hx y hy w K hK => ?_) ?_
    · refine callV_of (by kernel_rfl) Tryz.func34 (by kernel_rfl) ((ih x hx y w).mono ?_)
      rintro _ w' ⟨rfl, f⟩
      exact ⟨_, rfl, hK w' f⟩
    · rintro _ w5 ⟨rfl, f5⟩
      exact ⟨_, rfl, by rw [sameO_kids h hk hl], ((f2.trans f3).trans f4).trans f5⟩
  cases a with
  | none => exact absurd rfl h
  | const n =>
    cases b <;> simp only [kindO] at hk <;> try (exact absurd hk (by decide))
    rename_i m
    refine TaK.hit (n, ()) rfl (ns_ok (zs := [.int .i64 0]) (vs := [.int .i64 n]) rfl rfl fun g w1 hg hb f1 => ?_)
    refine DrewK.of fun w2 _ f2 => ?_
    refine LdsK.blk (cks := [.int .i64]) (x := (n, ())) (f2.keep0 hb) ?_
    refine TaK.hit (m, ()) rfl ?_
    exact ⟨_, w2, const_eq n m _ _ w2, rfl, f1.trans f2⟩
  | fix s =>
    cases b <;> simp only [kindO] at hk <;> try (exact absurd hk (by decide))
    rename_i t
    refine TaK.miss rfl (by decide) (ns_skip (zs := [.int .i64 0]) (vs := [.int .i64 0]) rfl rfl fun w0 f0 => ?_)
    refine TaK.hit (str s, ()) rfl (ns_ok (zs := [.string (⟨#[]⟩ : ByteArray)]) (vs := [.string (str s)]) rfl rfl fun g w1 hg hb f1 => ?_)
    refine DrewK.of fun w2 _ f2 => ?_
    refine LdsK.blk (cks := [.str]) (x := (str s, ())) (f2.keep0 hb) ?_
    refine TaK.hit (str t, ()) rfl ?_
    refine ⟨_, w2, fix_eq _ _ _ _ w2, ?_, (f0.trans f1).trans f2⟩
    show Value.bool _ = .bool (s == t)
    dsimp only
    rw [str_beq]
    by_cases e : s = t <;> simp [e]
  | add l r => exact TaK.miss rfl (by decide) (ns_skip (zs := [.int .i64 0]) (vs := [.int .i64 0]) rfl rfl fun w1 f1 => TaK.miss rfl (by decide) (ns_skip (zs := [.string (⟨#[]⟩ : ByteArray)]) (vs := [.string (⟨#[]⟩ : ByteArray)]) rfl rfl fun w2 f2 => deep rfl w2 (f1.trans f2)))
  | neg x => exact TaK.miss rfl (by decide) (ns_skip (zs := [.int .i64 0]) (vs := [.int .i64 0]) rfl rfl fun w1 f1 => TaK.miss rfl (by decide) (ns_skip (zs := [.string (⟨#[]⟩ : ByteArray)]) (vs := [.string (⟨#[]⟩ : ByteArray)]) rfl rfl fun w2 f2 => deep rfl w2 (f1.trans f2)))
  | mul l r => exact TaK.miss rfl (by decide) (ns_skip (zs := [.int .i64 0]) (vs := [.int .i64 0]) rfl rfl fun w1 f1 => TaK.miss rfl (by decide) (ns_skip (zs := [.string (⟨#[]⟩ : ByteArray)]) (vs := [.string (⟨#[]⟩ : ByteArray)]) rfl rfl fun w2 f2 => deep rfl w2 (f1.trans f2)))
  | max l r => exact TaK.miss rfl (by decide) (ns_skip (zs := [.int .i64 0]) (vs := [.int .i64 0]) rfl rfl fun w1 f1 => TaK.miss rfl (by decide) (ns_skip (zs := [.string (⟨#[]⟩ : ByteArray)]) (vs := [.string (⟨#[]⟩ : ByteArray)]) rfl rfl fun w2 f2 => deep rfl w2 (f1.trans f2)))
termination_by SizeOf.sizeOf a
decreasing_by exact kidsO_lt hk

theorem sameT_kind {a b : Tm} (h : kindT a ≠ kindT b) : sameT a b = false := by cases a <;> cases b <;> simp_all [sameT, kindT]
theorem sameT_parts {a b : Tm} (h0 : kindT a ≠ 0) (h : kindT a = kindT b) : sameT a b = (decide (ownT a = ownT b) && ((!(numberT a).2 || sameO (numberT a).1 (numberT b).1) && all2 sameT (kidsT a) (kidsT b))) := by
  cases a <;> cases b <;> simp_all [sameT, kindT, ownT, numberT, kidsT, all2, Bool.and_assoc] <;> (try (rw [Bool.eq_iff_iff]; simp))

theorem tsame_spec (a b : Tm) (w : World) : Ret Tryz.prog 33 #[a.v, b.v] w fun r w' => r = .bool (sameT a b) ∧ Fr none1 w w' := by
  have ih : ∀ k ∈ kidsT a, ∀ b w, Ret Tryz.prog 33 #[k.v, b.v] w fun r w' => r = .bool (sameT k b) ∧ Fr none1 w w' := fun k hk b w => tsame_spec k b w
  refine c33 a.v b.v w _ ?_
  refine CallK.of (tkind_spec a w) ?_
  rintro _ _ ⟨rfl, rfl⟩
  refine ⟨_, rfl, ifB.eq (fun h => ?_) (fun h => ?_)⟩
  · have := (kindT_none a).1 h
    subst this
    exact ⟨by cases b <;> rfl, Fr.refl _ _⟩
  refine CallK.of (tkind_spec a w) ?_
  rintro _ _ ⟨rfl, rfl⟩
  refine ⟨_, rfl, ?_⟩
  refine CallK.of (tkind_spec b w) ?_
  rintro _ _ ⟨rfl, rfl⟩
  refine ⟨_, rfl, ifB.ne (fun hk => ?_) (fun hk => ?_)⟩
  · rw [sameT_kind hk]; exact ⟨rfl, Fr.refl _ _⟩
  have hP := sameT_parts h hk
  refine CallK.of (own_spec a w) ?_
  rintro _ w1 ⟨rfl, f1⟩
  refine ⟨(str (ownT a).1, (ownT a).2, ()), rfl, ?_⟩
  refine CallK.of (own_spec b w1) ?_
  rintro _ w2 ⟨rfl, f2⟩
  refine ⟨(str (ownT b).1, (ownT b).2, ()), rfl, ?_⟩
  dsimp only
  have f12 := f1.trans f2
  rw [str_beq]
  refine ifB.not (ifB.dec (fun h1 => ?_) (fun h1 => ?_))
  case refine_2 =>
    rw [hP, decide_eq_false (fun t => h1 (by rw [t]))]; exact ⟨rfl, f12⟩
  refine ifB.ne (fun h2 => ?_) (fun h2 => ?_)
  · rw [hP, decide_eq_false (fun t => h2 (by rw [t]))]; exact ⟨rfl, f12⟩
  rw [decide_eq_true (Prod.ext h1 h2), Bool.true_and] at hP
  have deep : ∀ w2, Fr none1 w w2 → (!(numberT a).2 || sameO (numberT a).1 (numberT b).1) = true →
      CallK Tryz.prog 79 #[a.v] w2 (.v (.one .slc)) (fun (x31 : Option Addr × Nat × Nat) w32 => CallK Tryz.prog 79 #[b.v] w32 (.v (.one .slc)) (fun (x33 : Option Addr × Nat × Nat) w34 =>
      CallK Tryz.prog 78 #[.slice x31.1 x31.2.1 x31.2.2, .slice x33.1 x33.2.1 x33.2.2, .func (.func 33) #[] #[]] w34 (.v (.one .bool)) (fun (x35 : Bool) w36 => (Value.bool x35) = .bool (sameT a b) ∧ Fr none1 w w36))) := fun w2 f2 hn => by
    refine CallK.of (tkids_spec a w2) ?_
    rintro _ w3 ⟨u, rfl, hu, f3, _⟩
    refine ⟨u, rfl, ?_⟩
    refine CallK.of (tkids_spec b w3) ?_
    rintro _ w4 ⟨v, rfl, hv, f4, _⟩
    refine ⟨v, rfl, ?_⟩
    refine CallK.of (equal_ts (hu.keep0 f4) hv (kidsT_len a) sameT fun x hx y hy w K hK => ?_) ?_
    · refine callV_of (by kernel_rfl) Tryz.func33 (by kernel_rfl) ((ih x hx y w).mono ?_)
      rintro _ w' ⟨rfl, f⟩
      exact ⟨_, rfl, hK w' f⟩
    · rintro _ w5 ⟨rfl, f5⟩
      exact ⟨_, rfl, by rw [hP, hn, Bool.true_and], ((f2.trans f3).trans f4).trans f5⟩
  refine CallK.of (tnumber_spec a w2) ?_
  rintro _ w3 ⟨rfl, f3⟩
  refine ⟨(_, _, ()), rfl, ifB.by (fun e => ?_) (fun e => ?_)⟩
  · have e : (numberT a).2 = true := e
    refine CallK.of (tnumber_spec b w3) ?_
    rintro _ w4 ⟨rfl, f4⟩
    refine ⟨(_, _, ()), rfl, ?_⟩
    refine CallK.of (osame_spec (numberT a).1 (numberT b).1 w4) ?_
    rintro _ w5 ⟨rfl, f5⟩
    refine ⟨_, rfl, ifB.not (ifB.by (fun e2 => ?_) (fun e2 => ?_))⟩
    · exact deep w5 (((f12.trans f3).trans f4).trans f5) (by rw [e2]; simp)
    · rw [hP, e, e2]; exact ⟨rfl, ((f12.trans f3).trans f4).trans f5⟩
  · have e : (numberT a).2 = false := e
    exact deep w3 (f12.trans f3) (by rw [e]; rfl)
termination_by SizeOf.sizeOf a
decreasing_by exact kidsT_lt hk

end Go.Proofs.YtlhbfdakceipkaaGreatDoor
