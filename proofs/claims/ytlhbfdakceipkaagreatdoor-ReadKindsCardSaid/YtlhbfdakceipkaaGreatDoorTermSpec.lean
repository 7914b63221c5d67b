/-
  Contracts: their kind, their parts, whether they may be, how many and how deep they are, their choices' labels.
  Conditions: there are not too many.
-/
import Derived.Test.YtlhbfdakceipkaaGreatDoorObsSpec
import Derived.Test.YtlhbfdakceipkaaGreatDoorCTermG
set_option linter.unusedVariables false
set_option maxRecDepth 100000
namespace Go.Proofs.YtlhbfdakceipkaaGreatDoor
open Vc

/-! ### In plain Lean -/
def kindT : Tm → Int
  | .none => 0
  | .zero => 1
  | .one _ => 2
  | .give _ => 3
  | .and _ _ => 4
  | .or _ _ _ => 5
  | .scale _ _ => 6
  | .when _ _ => 7
  | .cond _ _ _ => 8
def ownT : Tm → List UInt8 × Int
  | .one s => (s, 0)
  | .or s _ _ => (s, 0)
  | .when d _ => ([], d)
  | _ => ([], 0)
def numberT : Tm → Ob × Bool
  | .scale o _ => (o, true)
  | .cond o _ _ => (o, true)
  | _ => (.none, false)
def formT : Tm → Bool
  | .none => false
  | .zero => true
  | .one s => nameL s
  | .give t => formT t
  | .and l r => formT l && formT r
  | .or s l r => nameL s && (formT l && formT r)
  | .scale o t => formO o && formT t
  | .when d t => decide (0 ≤ d) && decide (d ≤ 10000) && formT t
  | .cond o l r => formO o && (formT l && formT r)
def nodesT : Tm → Nat
  | .none => 0
  | .zero => 1
  | .one _ => 1
  | .give t => nodesT t + 1
  | .and l r => nodesT l + nodesT r + 1
  | .or _ l r => nodesT l + nodesT r + 1
  | .scale o t => nodesO o + nodesT t + 1
  | .when _ t => nodesT t + 1
  | .cond o l r => nodesO o + nodesT l + nodesT r + 1
def depthT : Tm → Nat
  | .none => 0
  | .zero => 1
  | .one _ => 1
  | .give t => depthT t + 1
  | .and l r => max (depthT l) (depthT r) + 1
  | .or _ l r => max (depthT l) (depthT r) + 1
  | .scale o t => max (depthO o) (depthT t) + 1
  | .when _ t => depthT t + 1
  | .cond o l r => max (max (depthO o) (depthT l)) (depthT r) + 1
def labelsT : Tm → List (List UInt8)
  | .none => []
  | .zero => []
  | .one _ => []
  | .give t => labelsT t
  | .and l r => labelsT l ++ labelsT r
  | .or s l r => s :: (labelsT l ++ labelsT r)
  | .scale _ t => labelsT t
  | .when _ t => labelsT t
  | .cond _ l r => labelsT l ++ labelsT r
def checkT (t : Tm) : Int := if formT t = false then 2 else if 60 < nodesT t then 5 else if 12 < depthT t then 5 else if (labelsT t).Nodup then 0 else 4

/-- What a size begins with. -/
def baseN (t : Tm) : Nat := nodesO (numberT t).1
def baseD (t : Tm) : Nat := depthO (numberT t).1
def ownL : Tm → List (List UInt8)
  | .or s _ _ => [s]
  | _ => []
theorem kindT_none (t : Tm) : (kindT t = 0) ↔ t = .none := by cases t <;> simp [kindT]
theorem nodesT_kids (t : Tm) (h : t ≠ .none) : nodesT t = baseN t + sumN ((kidsT t).map nodesT) + 1 := by cases t <;> simp [nodesT, kidsT, sumN, baseN, numberT, nodesO] at h ⊢ <;> omega
theorem depthT_kids (t : Tm) (h : t ≠ .none) : depthT t = ((kidsT t).map depthT).foldl max (baseD t) + 1 := by
  cases t <;> simp only [depthT, kidsT, baseD, numberT, depthO, List.map_cons, List.map_nil, List.foldl_cons, List.foldl_nil] at h ⊢
  all_goals first | omega | exact absurd rfl h
theorem labelsT_kids (t : Tm) : labelsT t = ownL t ++ (kidsT t).flatMap labelsT := by cases t <;> simp [labelsT, kidsT, ownL]
theorem depthT_le (t : Tm) : depthT t ≤ nodesT t := by
  induction t with
  | none => exact Nat.le_refl _
  | zero => exact Nat.le_refl _
  | one => exact Nat.le_refl _
  | give t ih => unfold depthT nodesT; omega
  | when d t ih => unfold depthT nodesT; omega
  | and l r a b => unfold depthT nodesT; omega
  | or s l r a b => unfold depthT nodesT; omega
  | scale o t ih => unfold depthT nodesT; have := depthO_le o; omega
  | cond o l r a b => unfold depthT nodesT; have := depthO_le o; omega
theorem labelsT_len (t : Tm) : (labelsT t).length ≤ nodesT t := by
  induction t with
  | none => exact Nat.zero_le _
  | zero => exact Nat.zero_le _
  | one => exact Nat.zero_le _
  | give t ih => unfold labelsT nodesT; omega
  | when d t ih => unfold labelsT nodesT; omega
  | and l r a b => unfold labelsT nodesT; rw [List.length_append]; omega
  | or s l r a b => unfold labelsT nodesT; rw [List.length_cons, List.length_append]; omega
  | scale o t ih => unfold labelsT nodesT; omega
  | cond o l r a b => unfold labelsT nodesT; rw [List.length_append]; omega
/-- Is what is a contract's own right? -/
def ownOk (t : Tm) : Bool := !(decide (kindT t = 0)) && (!(decide (kindT t = 2 ∨ kindT t = 5)) || nameL (ownT t).1) && (decide (0 ≤ (ownT t).2) && decide ((ownT t).2 ≤ 10000))
theorem formT_kids (t : Tm) : formT t = (ownOk t && (!(numberT t).2 || formO (numberT t).1) && !((kidsT t).any fun k => !formT k)) := by
  cases t <;> simp [formT, ownOk, kindT, ownT, numberT, kidsT, Bool.and_assoc]
  all_goals rfl

/-! ### What the functions do -/
theorem tkind_spec (t : Tm) (w : World) : Ret Tryz.prog 75 #[t.v] w fun r w' => r = .int .i64 (kindT t) ∧ w = w' := by
  refine c75 t.v w _ ?_
  unfold C75
  cases t with
  | none => exact TaK.nil rfl (TaK.nil rfl (TaK.nil rfl (TaK.nil rfl (TaK.nil rfl (TaK.nil rfl (TaK.nil rfl (TaK.nil rfl ⟨rfl, rfl⟩)))))))
  | zero => exact TaK.hit () rfl ⟨rfl, rfl⟩
  | one s => exact TaK.miss rfl (by decide) (TaK.hit (str s, ()) rfl ⟨rfl, rfl⟩)
  | give t => exact TaK.miss rfl (by decide) (TaK.miss rfl (by decide) (TaK.hit (t.v, ()) rfl ⟨rfl, rfl⟩))
  | and l r => exact TaK.miss rfl (by decide) (TaK.miss rfl (by decide) (TaK.miss rfl (by decide) (TaK.hit (l.v, r.v, ()) rfl ⟨rfl, rfl⟩)))
  | or s l r => exact TaK.miss rfl (by decide) (TaK.miss rfl (by decide) (TaK.miss rfl (by decide) (TaK.miss rfl (by decide) (TaK.hit (str s, l.v, r.v, ()) rfl ⟨rfl, rfl⟩))))
  | scale o t => exact TaK.miss rfl (by decide) (TaK.miss rfl (by decide) (TaK.miss rfl (by decide) (TaK.miss rfl (by decide) (TaK.miss rfl (by decide) (TaK.hit (o.v, t.v, ()) rfl ⟨rfl, rfl⟩)))))
  | when d t => exact TaK.miss rfl (by decide) (TaK.miss rfl (by decide) (TaK.miss rfl (by decide) (TaK.miss rfl (by decide) (TaK.miss rfl (by decide) (TaK.miss rfl (by decide) (TaK.hit (d, t.v, ()) rfl ⟨rfl, rfl⟩))))))
  | cond o l r => exact TaK.miss rfl (by decide) (TaK.miss rfl (by decide) (TaK.miss rfl (by decide) (TaK.miss rfl (by decide) (TaK.miss rfl (by decide) (TaK.miss rfl (by decide) (TaK.miss rfl (by decide) (TaK.hit (o.v, l.v, r.v, ()) rfl ⟨rfl, rfl⟩)))))))

/-- A value that is not of a type. -/
def isNot (v : Value) (t : TypeId) : Prop := v = .nilIface ∨ ∃ u x, v = .iface u x ∧ u ≠ t
theorem isNot.ta {v : Value} {t : TypeId} {k : Kd} {yes : k.C → Prop} {no : Prop} (h : isNot v t) (hn : no) : TaK v t k yes no := ⟨.inr ⟨h, hn⟩⟩
theorem Tm.not_one {t : Tm} (h : ∀ s, t ≠ .one s) : isNot t.v 74 := by cases t <;> first | exact .inl rfl | exact .inr ⟨_, _, rfl, by decide⟩ | exact absurd rfl (h _)
theorem Tm.not_or {t : Tm} (h : ∀ s l r, t ≠ .or s l r) : isNot t.v 93 := by cases t <;> first | exact .inl rfl | exact .inr ⟨_, _, rfl, by decide⟩ | exact absurd rfl (h _ _ _)
theorem Tm.not_when {t : Tm} (h : ∀ d u, t ≠ .when d u) : isNot t.v 95 := by cases t <;> first | exact .inl rfl | exact .inr ⟨_, _, rfl, by decide⟩ | exact absurd rfl (h _ _)
theorem Tm.not_scale {t : Tm} (h : ∀ o u, t ≠ .scale o u) : isNot t.v 97 := by cases t <;> first | exact .inl rfl | exact .inr ⟨_, _, rfl, by decide⟩ | exact absurd rfl (h _ _)
theorem Tm.not_if {t : Tm} (h : ∀ o l r, t ≠ .cond o l r) : isNot t.v 99 := by cases t <;> first | exact .inl rfl | exact .inr ⟨_, _, rfl, by decide⟩ | exact absurd rfl (h _ _ _)
theorem Tm.not_give {t : Tm} (h : ∀ u, t ≠ .give u) : isNot t.v 89 := by cases t <;> first | exact .inl rfl | exact .inr ⟨_, _, rfl, by decide⟩ | exact absurd rfl (h _)
theorem Tm.not_and {t : Tm} (h : ∀ l r, t ≠ .and l r) : isNot t.v 91 := by cases t <;> first | exact .inl rfl | exact .inr ⟨_, _, rfl, by decide⟩ | exact absurd rfl (h _ _)

/-- A zero value is laid for a type that it is not. -/
theorem lay0 {w w0 : World} {T : TypeId} {zs : List Value} {K : World → Prop} (f0 : Fr none1 w w0) (h1 : zs.all one1 = true) (h : ∀ w4, Fr none1 w w4 → K w4) : NewK (.cells zs.toArray T) w0 (fun g w3 => StsK ⟨g, 0, none⟩ zs w3 fun w4 => K w4) :=
  ns_skip rfl h1 fun w4 f => h w4 (f0.trans f)

theorem own_spec (t : Tm) (w : World) : Ret Tryz.prog 76 #[t.v] w fun r w' => r = .tuple #[.string (str (ownT t).1), .int .i64 (ownT t).2] ∧ Fr none1 w w' := by
  refine c76 t.v w _ ?_
  unfold C76
  have f0 := Fr.refl none1 w
  have z1 : ∀ {K : World → Prop}, (∀ w4, Fr none1 w w4 → K w4) → NewK (.cells #[.string (⟨#[]⟩ : ByteArray)] 74) w (fun g w3 => StsK ⟨g, 0, none⟩ [.string (⟨#[]⟩ : ByteArray)] w3 fun w4 => K w4) := fun h => lay0 (zs := [.string (⟨#[]⟩ : ByteArray)]) f0 rfl h
  have z2 : ∀ {w0 : World} {K : World → Prop}, Fr none1 w w0 → (∀ w4, Fr none1 w w4 → K w4) → NewK (.cells #[.string (⟨#[]⟩ : ByteArray), .nilIface, .nilIface] 93) w0 (fun g w3 => StsK ⟨g, 0, none⟩ [.string (⟨#[]⟩ : ByteArray), .nilIface, .nilIface] w3 fun w4 => K w4) := fun f h => lay0 (zs := [.string (⟨#[]⟩ : ByteArray), .nilIface, .nilIface]) f rfl h
  have z3 : ∀ {w0 : World} {K : World → Prop}, Fr none1 w w0 → (∀ w4, Fr none1 w w4 → K w4) → NewK (.cells #[.int .i64 0, .nilIface] 95) w0 (fun g w3 => StsK ⟨g, 0, none⟩ [.int .i64 0, .nilIface] w3 fun w4 => K w4) := fun f h => lay0 (zs := [.int .i64 0, .nilIface]) f rfl h
  have rest : ((∀ s, t ≠ .one s) ∧ (∀ s l r, t ≠ .or s l r) ∧ ∀ d u, t ≠ .when d u) → ownT t = ([], 0) := by rintro ⟨a, b, c⟩; cases t <;> first | rfl | exact absurd rfl (a _) | exact absurd rfl (b _ _ _) | exact absurd rfl (c _ _)
  by_cases h1 : ∃ s, t = .one s
  · obtain ⟨s, rfl⟩ := h1
    exact TaK.hit (str s, ()) rfl (ns_ok (zs := [.string (⟨#[]⟩ : ByteArray)]) (vs := [.string (str s)]) rfl rfl fun g w1 _ hb f1 => LdK.fld hb (x := str s) rfl ⟨rfl, f1⟩)
  have h1 : ∀ s, t ≠ .one s := fun s e => h1 ⟨s, e⟩
  refine (Tm.not_one h1).ta (z1 fun w1 f1 => ?_)
  by_cases h2 : ∃ s l r, t = .or s l r
  · obtain ⟨s, l, r, rfl⟩ := h2
    exact TaK.hit (str s, l.v, r.v, ()) rfl (ns_ok (zs := [.string (⟨#[]⟩ : ByteArray), .nilIface, .nilIface]) (vs := [.string (str s), l.v, r.v]) rfl (by simp [Tm.v_one, one1_str]) fun g w2 _ hb f2 => LdK.fld hb (x := str s) rfl ⟨rfl, f1.trans f2⟩)
  have h2 : ∀ s l r, t ≠ .or s l r := fun s l r e => h2 ⟨s, l, r, e⟩
  refine (Tm.not_or h2).ta (z2 f1 fun w2 f2 => ?_)
  by_cases h3 : ∃ d u, t = .when d u
  · obtain ⟨d, u, rfl⟩ := h3
    refine TaK.hit (d, u.v, ()) rfl (ns_ok (zs := [.int .i64 0, .nilIface]) (vs := [.int .i64 d, u.v]) rfl (by simp [Tm.v_one, one1_int]) fun g w3 _ hb f3 => ?_)
    refine DrewK.of fun w4 hh f4 => ?_
    exact LdK.fld (f4.keep0 hb) (x := d) rfl ⟨rfl, (f2.trans f3).trans f4⟩
  have h3 : ∀ d u, t ≠ .when d u := fun d u e => h3 ⟨d, u, e⟩
  refine (Tm.not_when h3).ta (z3 f2 fun w3 f3 => ?_)
  rw [rest ⟨h1, h2, h3⟩]
  exact ⟨rfl, f3⟩

theorem tnumber_spec (t : Tm) (w : World) : Ret Tryz.prog 77 #[t.v] w fun r w' => r = .tuple #[(numberT t).1.v, .bool (numberT t).2] ∧ Fr none1 w w' := by
  refine c77 t.v w _ ?_
  unfold C77
  have f0 := Fr.refl none1 w
  have z1 : ∀ {K : World → Prop}, (∀ w4, Fr none1 w w4 → K w4) → NewK (.cells #[.nilIface, .nilIface] 97) w (fun g w3 => StsK ⟨g, 0, none⟩ [.nilIface, .nilIface] w3 fun w4 => K w4) := fun h => lay0 (zs := [.nilIface, .nilIface]) f0 rfl h
  have z2 : ∀ {w0 : World} {K : World → Prop}, Fr none1 w w0 → (∀ w4, Fr none1 w w4 → K w4) → NewK (.cells #[.nilIface, .nilIface, .nilIface] 99) w0 (fun g w3 => StsK ⟨g, 0, none⟩ [.nilIface, .nilIface, .nilIface] w3 fun w4 => K w4) := fun f h => lay0 (zs := [.nilIface, .nilIface, .nilIface]) f rfl h
  have rest : ((∀ o u, t ≠ .scale o u) ∧ ∀ o l r, t ≠ .cond o l r) → numberT t = (.none, false) := by rintro ⟨a, b⟩; cases t <;> first | rfl | exact absurd rfl (a _ _) | exact absurd rfl (b _ _ _)
  by_cases h1 : ∃ o u, t = .scale o u
  · obtain ⟨o, u, rfl⟩ := h1
    exact TaK.hit (o.v, u.v, ()) rfl (ns_ok (zs := [.nilIface, .nilIface]) (vs := [o.v, u.v]) rfl (by simp [Tm.v_one, Ob.v_one]) fun g w1 _ hb f1 => LdK.fld (c := .raw) hb (x := o.v) rfl ⟨rfl, f1⟩)
  have h1 : ∀ o u, t ≠ .scale o u := fun o u e => h1 ⟨o, u, e⟩
  refine (Tm.not_scale h1).ta (z1 fun w1 f1 => ?_)
  by_cases h2 : ∃ o l r, t = .cond o l r
  · obtain ⟨o, l, r, rfl⟩ := h2
    exact TaK.hit (o.v, l.v, r.v, ()) rfl (ns_ok (zs := [.nilIface, .nilIface, .nilIface]) (vs := [o.v, l.v, r.v]) rfl (by simp [Tm.v_one, Ob.v_one]) fun g w2 _ hb f2 => LdK.fld (c := .raw) hb (x := o.v) rfl ⟨rfl, f1.trans f2⟩)
  have h2 : ∀ o l r, t ≠ .cond o l r := fun o l r e => h2 ⟨o, l, r, e⟩
  refine (Tm.not_if h2).ta (z2 f1 fun w2 f2 => ?_)
  rw [rest ⟨h1, h2⟩]
  exact ⟨rfl, f2⟩

theorem tkids_spec (t : Tm) (w : World) : Ret Tryz.prog 79 #[t.v] w fun r w' => ∃ u : Sl, r = .slice u.1 u.2.1 u.2.2 ∧ IsTs w' u (kidsT t) ∧ Fr none1 w w' ∧ ∀ k, blkOf u k → w.heap.size ≤ k := by
  refine c79 t.v w _ ?_
  unfold C79
  have f0 := Fr.refl none1 w
  have zn : ∀ {w0 : World} {T : TypeId} {K : World → Prop}, Fr none1 w w0 → (∀ w4, Fr none1 w w4 → K w4) → NewK (.cells #[.nilIface] T) w0 (fun g w3 => StsK ⟨g, 0, none⟩ [.nilIface] w3 fun w4 => K w4) := fun f h => lay0 (zs := [.nilIface]) f rfl h
  have zn2 : ∀ {w0 : World} {T : TypeId} {K : World → Prop}, Fr none1 w w0 → (∀ w4, Fr none1 w w4 → K w4) → NewK (.cells #[.nilIface, .nilIface] T) w0 (fun g w3 => StsK ⟨g, 0, none⟩ [.nilIface, .nilIface] w3 fun w4 => K w4) := fun f h => lay0 (zs := [.nilIface, .nilIface]) f rfl h
  have zs3 : ∀ {w0 : World} {T : TypeId} {K : World → Prop}, Fr none1 w w0 → (∀ w4, Fr none1 w w4 → K w4) → NewK (.cells #[.string (⟨#[]⟩ : ByteArray), .nilIface, .nilIface] T) w0 (fun g w3 => StsK ⟨g, 0, none⟩ [.string (⟨#[]⟩ : ByteArray), .nilIface, .nilIface] w3 fun w4 => K w4) := fun f h => lay0 (zs := [.string (⟨#[]⟩ : ByteArray), .nilIface, .nilIface]) f rfl h
  have zi2 : ∀ {w0 : World} {T : TypeId} {K : World → Prop}, Fr none1 w w0 → (∀ w4, Fr none1 w w4 → K w4) → NewK (.cells #[.int .i64 0, .nilIface] T) w0 (fun g w3 => StsK ⟨g, 0, none⟩ [.int .i64 0, .nilIface] w3 fun w4 => K w4) := fun f h => lay0 (zs := [.int .i64 0, .nilIface]) f rfl h
  have zn3 : ∀ {w0 : World} {T : TypeId} {K : World → Prop}, Fr none1 w w0 → (∀ w4, Fr none1 w w4 → K w4) → NewK (.cells #[.nilIface, .nilIface, .nilIface] T) w0 (fun g w3 => StsK ⟨g, 0, none⟩ [.nilIface, .nilIface, .nilIface] w3 fun w4 => K w4) := fun f h => lay0 (zs := [.nilIface, .nilIface, .nilIface]) f rfl h
  have rest : (∀ u, t ≠ .give u) → (∀ l r, t ≠ .and l r) → (∀ s l r, t ≠ .or s l r) → (∀ o u, t ≠ .scale o u) → (∀ d u, t ≠ .when d u) → (∀ o l r, t ≠ .cond o l r) → kidsT t = [] := by
    intro a b c d e f
    cases t <;> first | rfl | exact absurd rfl (a _) | exact absurd rfl (b _ _) | exact absurd rfl (c _ _ _) | exact absurd rfl (d _ _) | exact absurd rfl (e _ _) | exact absurd rfl (f _ _ _)
  by_cases h1 : ∃ u, t = .give u
  · obtain ⟨u, rfl⟩ := h1
    exact TaK.hit (u.v, ()) rfl (kids1_ok (zs := [.nilIface]) (vs := [u.v]) elem_term rfl (by simp [Tm.v_one]) rfl u.v_cells fun x w' hx _ f xf => ⟨x, rfl, hx, f, xf⟩)
  have h1 : ∀ u, t ≠ .give u := fun u e => h1 ⟨u, e⟩
  refine (Tm.not_give h1).ta (zn f0 fun w1 f1 => ?_)
  by_cases h2 : ∃ l r, t = .and l r
  · obtain ⟨l, r, rfl⟩ := h2
    exact TaK.hit (l.v, r.v, ()) rfl (kids2_ok (zs := [.nilIface, .nilIface]) (vs := [l.v, r.v]) elem_term rfl (by simp [Tm.v_one]) rfl rfl l.v_cells r.v_cells fun x w' hx _ f xf => ⟨x, rfl, hx, f1.trans f, fun k hk => Nat.le_trans f1.size (xf k hk)⟩)
  have h2 : ∀ l r, t ≠ .and l r := fun l r e => h2 ⟨l, r, e⟩
  refine (Tm.not_and h2).ta (zn2 f1 fun w2 f2 => ?_)
  by_cases h3 : ∃ s l r, t = .or s l r
  · obtain ⟨s, l, r, rfl⟩ := h3
    exact TaK.hit (str s, l.v, r.v, ()) rfl (kids2_ok (zs := [.string (⟨#[]⟩ : ByteArray), .nilIface, .nilIface]) (vs := [.string (str s), l.v, r.v]) elem_term rfl (by simp [Tm.v_one, one1_str]) rfl rfl l.v_cells r.v_cells fun x w' hx _ f xf => ⟨x, rfl, hx, f2.trans f, fun k hk => Nat.le_trans f2.size (xf k hk)⟩)
  have h3 : ∀ s l r, t ≠ .or s l r := fun s l r e => h3 ⟨s, l, r, e⟩
  refine (Tm.not_or h3).ta (zs3 f2 fun w3 f3 => ?_)
  by_cases h4 : ∃ o u, t = .scale o u
  · obtain ⟨o, u, rfl⟩ := h4
    exact TaK.hit (o.v, u.v, ()) rfl (kids1_ok (zs := [.nilIface, .nilIface]) (vs := [o.v, u.v]) elem_term rfl (by simp [Tm.v_one, Ob.v_one]) rfl u.v_cells fun x w' hx _ f xf => ⟨x, rfl, hx, f3.trans f, fun k hk => Nat.le_trans f3.size (xf k hk)⟩)
  have h4 : ∀ o u, t ≠ .scale o u := fun o u e => h4 ⟨o, u, e⟩
  refine (Tm.not_scale h4).ta (zn2 f3 fun w4 f4 => ?_)
  by_cases h5 : ∃ d u, t = .when d u
  · obtain ⟨d, u, rfl⟩ := h5
    exact TaK.hit (d, u.v, ()) rfl (kids1_ok (zs := [.int .i64 0, .nilIface]) (vs := [.int .i64 d, u.v]) elem_term rfl (by simp [Tm.v_one, one1_int]) rfl u.v_cells fun x w' hx _ f xf => ⟨x, rfl, hx, f4.trans f, fun k hk => Nat.le_trans f4.size (xf k hk)⟩)
  have h5 : ∀ d u, t ≠ .when d u := fun d u e => h5 ⟨d, u, e⟩
  refine (Tm.not_when h5).ta (zi2 f4 fun w5 f5 => ?_)
  by_cases h6 : ∃ o l r, t = .cond o l r
  · obtain ⟨o, l, r, rfl⟩ := h6
    exact TaK.hit (o.v, l.v, r.v, ()) rfl (kids2_ok (zs := [.nilIface, .nilIface, .nilIface]) (vs := [o.v, l.v, r.v]) elem_term rfl (by simp [Tm.v_one, Ob.v_one]) rfl rfl l.v_cells r.v_cells fun x w' hx _ f xf => ⟨x, rfl, hx, f5.trans f, fun k hk => Nat.le_trans f5.size (xf k hk)⟩)
  have h6 : ∀ o l r, t ≠ .cond o l r := fun o l r e => h6 ⟨o, l, r, e⟩
  refine (Tm.not_if h6).ta (zn3 f5 fun w6 f6 => ?_)
  rw [rest h1 h2 h3 h4 h5 h6]
  exact ⟨_, rfl, none_ts _, f6, fun k t => (none_blk k t).elim⟩

theorem foldmax_snoc (l : List Nat) (b n : Nat) : (l ++ [n]).foldl max b = max (l.foldl max b) n := by rw [List.foldl_append]; rfl

theorem tsize_spec (t : Tm) (hn : nodesT t ≤ 1000000) (w : World) : Ret Tryz.prog 117 #[t.v] w fun r w' => r = .tuple #[.int .i64 (nodesT t : Int), .int .i64 (depthT t : Int)] ∧ Fr none1 w w' := by
  refine c117 t.v w _ ?_
  have ih : ∀ k ∈ kidsT t, nodesT k ≤ 1000000 → ∀ w, Ret Tryz.prog 117 #[k.v] w fun r w' => r = .tuple #[.int .i64 (nodesT k : Int), .int .i64 (depthT k : Int)] ∧ Fr none1 w w' := fun k hk hn w => tsize_spec k hn w
  refine CallK.of (tkind_spec t w) ?_
  rintro _ _ ⟨rfl, rfl⟩
  refine ⟨_, rfl, ifB.eq (fun h => ?_) (fun h => ?_)⟩
  · rw [kindT_none] at h
    subst h
    exact ⟨rfl, Fr.refl _ _⟩
  rw [Ne, kindT_none] at h
  have hN := nodesT_kids t h
  have hD := depthT_kids t h
  refine JoinK.of (fun s w' => s = ((baseN t : Int), (baseD t : Int), ()) ∧ Fr none1 w w') ?_ ?_
  · refine CallK.of (tnumber_spec t w) ?_
    rintro _ w1 ⟨rfl, f1⟩
    refine ⟨((numberT t).1.v, (numberT t).2, ()), rfl, ifB.by (fun hb => ?_) (fun hb => ?_)⟩
    · refine CallK.of (osize_spec (numberT t).1 (by unfold baseN at hN; omega) w1) ?_
      rintro _ w2 ⟨rfl, f2⟩
      exact ⟨((baseN t : Int), (baseD t : Int), ()), rfl, rfl, f1.trans f2⟩
    · refine ⟨?_, f1⟩
      have : numberT t = (.none, false) := by cases t <;> first | rfl | exact absurd hb (by simp [numberT])
      unfold baseN baseD
      rw [this]
      rfl
  rintro _ s w1 ⟨rfl, f1⟩
  dsimp only
  refine CallK.of (tkids_spec t w1) ?_
  rintro _ w2 ⟨u, rfl, hu, f2, uf⟩
  refine ⟨u, rfl, ?_⟩
  have hul := hu.len
  have hkl := kidsT_len t
  refine LoopK.of (fun s w' => ∃ i : Nat, s.2.2.1 = i ∧ i ≤ (kidsT t).length ∧ s.1 = ((baseN t + sumN (((kidsT t).take i).map nodesT) : Nat) : Int) ∧ s.2.1 = ((((kidsT t).take i).map depthT).foldl max (baseD t) : Nat) ∧ Fr none1 w w' ∧ IsTs w' u (kidsT t)) (fun s _ => (2 - s.2.2.1).toNat)
    ⟨0, rfl, Nat.zero_le _, rfl, rfl, f1.trans f2, hu⟩ ?_
  rintro _ ⟨a, b, i', _⟩ w3 ⟨i, hi, hil, ha, hb, f3, hu3⟩
  dsimp only at hi ha hb ⊢
  subst hi ha hb
  have hle : ∀ i, sumN (((kidsT t).take i).map nodesT) + baseN t ≤ nodesT t := fun i => by
    rw [hN, List.map_take]
    have := sumN_take ((kidsT t).map nodesT) i
    omega
  have hle0 := hle i
  refine ifB.dec (fun hlt => ?_) (fun hge => ?_)
  · have hi2 : i < (kidsT t).length := by omega
    obtain ⟨k, hk⟩ : ∃ k, (kidsT t)[i]? = some k := ⟨_, List.getElem?_eq_getElem hi2⟩
    have hkm := List.mem_of_getElem? hk
    have hkn := hle (i + 1)
    rw [take_next _ _ _ hk, sumN_snoc] at hkn
    refine hu3.ld hk ?_
    refine CallK.of (ih k hkm (by omega) w3) ?_
    rintro _ w4 ⟨rfl, f4⟩
    refine ⟨((nodesT k : Int), (depthT k : Int), ()), rfl, ?_⟩
    dsimp only
    have hdk := depthT_le k
    refine ⟨⟨i + 1, by rw [wI (by omega) (by omega)]; omega, by omega, ?_, ?_, f3.trans f4, hu3.keep0 f4⟩, by rw [wI (by omega) (by omega)]; omega⟩
    · rw [take_next _ _ _ hk, sumN_snoc, wI (by omega) (by omega)]
      omega
    · rw [take_next _ _ _ hk, foldmax_snoc]
      by_cases hm : (((kidsT t).take i).map depthT).foldl max (baseD t) < depthT k
      · rw [if_pos (by omega)]; omega
      · rw [if_neg (by omega)]; omega
  · have : i = (kidsT t).length := by omega
    subst this
    rw [List.take_length]
    rw [List.take_length] at hle0
    have hd := depthT_le t
    rw [hN]
    rw [hD] at hd ⊢
    rw [wI (by omega) (by omega), wI (by omega) (by omega)]
    exact ⟨by simp, f3⟩
termination_by SizeOf.sizeOf t
decreasing_by exact kidsT_lt hk

theorem tform_spec (t : Tm) (hn : nodesT t ≤ 1000000) (w : World) : Ret Tryz.prog 116 #[t.v] w fun r w' => r = .bool (formT t) ∧ Fr none1 w w' := by
  refine c116 t.v w _ ?_
  unfold C116
  have ih : ∀ k ∈ kidsT t, nodesT k ≤ 1000000 → ∀ w, Ret Tryz.prog 116 #[k.v] w fun r w' => r = .bool (formT k) ∧ Fr none1 w w' := fun k hk hn w => tform_spec k hn w
  have kOne : ∀ w, Ret Tryz.prog 75 #[.iface 74 (.agg #[.string (⟨#[]⟩ : ByteArray)])] w fun r w' => r = .int .i64 2 ∧ w = w' := fun w => tkind_spec (.one []) w
  have kOr : ∀ w, Ret Tryz.prog 75 #[.iface 93 (.agg #[.string (⟨#[]⟩ : ByteArray), .nilIface, .nilIface])] w fun r w' => r = .int .i64 5 ∧ w = w' := fun w => tkind_spec (.or [] .none .none) w
  refine CallK.of (own_spec t w) ?_
  rintro _ w1 ⟨rfl, f1⟩
  refine ⟨(str (ownT t).1, (ownT t).2, ()), rfl, ?_⟩
  dsimp only
  refine JoinK.of (fun s w' => s.1 = decide (kindT t = 2 ∨ kindT t = 5) ∧ w1 = w') ?_ ?_
  · refine CallK.of (tkind_spec t w1) ?_
    rintro _ _ ⟨rfl, rfl⟩
    refine ⟨_, rfl, ?_⟩
    refine CallK.of (kOne w1) ?_
    rintro _ _ ⟨rfl, rfl⟩
    refine ⟨_, rfl, ifB.eq (fun h => ⟨by rw [decide_eq_true (.inl h)], rfl⟩) (fun h => ?_)⟩
    refine CallK.of (tkind_spec t w1) ?_
    rintro _ _ ⟨rfl, rfl⟩
    refine ⟨_, rfl, ?_⟩
    refine CallK.of (kOr w1) ?_
    rintro _ _ ⟨rfl, rfl⟩
    refine ⟨_, rfl, ?_, rfl⟩
    dsimp only
    by_cases h5 : kindT t = 5
    · rw [decide_eq_true (.inr h5), h5]; rfl
    · rw [decide_eq_false (by rintro (h' | h') <;> contradiction)]; simpa using h5
  rintro _ ⟨s, _⟩ _ ⟨hs, rfl⟩
  dsimp only at hs ⊢
  subst hs
  have hown : ∀ w2, Fr none1 w w2 → (ifB (decide ((ownT t).2 < 0)) True True → True) := fun _ _ _ => trivial
  refine JoinK.of (fun s w' => s.1 = !ownOk t ∧ Fr none1 w w') ?_ ?_
  · refine CallK.of (tkind_spec t w1) ?_
    rintro _ _ ⟨rfl, rfl⟩
    have days : ∀ w2, Fr none1 w w2 → kindT t ≠ 0 → (decide (kindT t = 2 ∨ kindT t = 5) = true → nameL (ownT t).1 = true) → ifB (decide ((ownT t).2 < 0)) (true = (!ownOk t) ∧ Fr none1 w w2) (decide ((ownT t).2 > 10000) = (!ownOk t) ∧ Fr none1 w w2) := fun w2 f2 h0 hnm => by
      have e : ownOk t = (decide (0 ≤ (ownT t).2) && decide ((ownT t).2 ≤ 10000)) := by
        unfold ownOk
        rw [decide_eq_false h0]
        cases hd : decide (kindT t = 2 ∨ kindT t = 5) with
        | true => rw [hnm hd]; rfl
        | false => rfl
      rw [e]
      refine ifB.dec (fun h => ⟨?_, f2⟩) (fun h => ⟨?_, f2⟩)
      · rw [decide_eq_false (p := 0 ≤ (ownT t).2) (by omega)]; rfl
      · rw [decide_eq_true (p := 0 ≤ (ownT t).2) (by omega), Bool.true_and]
        by_cases h2 : (ownT t).2 ≤ 10000
        · rw [decide_eq_true h2, decide_eq_false (by omega)]; rfl
        · rw [decide_eq_false h2, decide_eq_true (by omega)]; rfl
    refine ⟨_, rfl, ifB.eq (fun h => ⟨?_, f1⟩) (fun h => ?_)⟩
    · dsimp only; unfold ownOk; rw [decide_eq_true h]; rfl
    refine ifB.by (fun hn2 => ?_) (fun hn2 => ?_)
    · refine CallK.of (name_spec (ownT t).1 w1) ?_
      rintro _ w2 ⟨rfl, f2⟩
      refine ⟨_, rfl, ifB.not (ifB.by (fun hnm => ?_) (fun hnm => ?_))⟩
      · exact days w2 (f1.trans f2) h fun _ => hnm
      · refine ⟨?_, f1.trans f2⟩
        dsimp only
        unfold ownOk nameL
        rw [hn2, hnm]
        simp
    · exact days w1 f1 h fun e => by rw [hn2] at e; cases e
  rintro _ ⟨s, _⟩ w2 ⟨hs, f2⟩
  dsimp only at hs ⊢
  subst hs
  rw [formT_kids t]
  refine ifB.not (ifB.by (fun ho => ?_) (fun ho => ?_))
  case refine_2 => rw [ho]; exact ⟨rfl, f2⟩
  rw [ho, Bool.true_and]
  have hnd : t ≠ .none := fun e => by rw [e] at ho; exact absurd ho (by simp [ownOk, kindT])
  have hN := nodesT_kids t hnd
  have kids : ∀ w3, Fr none1 w w3 → CallK Tryz.prog 79 #[t.v] w3 (.v (.one .slc)) (fun (x25 : Option Addr × Nat × Nat) w26 => CallK Tryz.prog 156 #[.slice x25.1 x25.2.1 x25.2.2, .func (.func 157) #[] #[]] w26 (.v (.one .bool)) (fun (x27 : Bool) w28 =>
      (.bool (!x27) : Value) = .bool (true && !((kidsT t).any fun k => !formT k)) ∧ Fr none1 w w28)) := fun w3 f3 => by
    refine CallK.of (tkids_spec t w3) ?_
    rintro _ w4 ⟨u, rfl, hu, f4, _⟩
    refine ⟨u, rfl, ?_⟩
    have hul := hu.len
    have hkl := kidsT_len t
    have hc : Ret Tryz.prog 156 #[.slice u.1 u.2.1 u.2.2, .func (.func 157) #[] #[]] w4 fun r w' => r = .bool ((kidsT t).any fun k => !formT k) ∧ Fr none1 w4 w' := by
      refine c156 u.1 u.2.1 u.2.2 _ w4 _ ?_
      have hx : Ret Tryz.prog 177 #[.slice u.1 u.2.1 u.2.2, .func (.func 157) #[] #[]] w4 fun r w' => (∃ i : Int, r = .int .i64 i ∧ decide (i ≥ 0) = (kidsT t).any fun k => !formT k) ∧ Fr none1 w4 w' := by
        refine c177 u.1 u.2.1 u.2.2 _ w4 _ ?_
        refine LoopK.of (fun s w' => ∃ i : Nat, s.1 = i ∧ i ≤ (kidsT t).length ∧ ((kidsT t).take i).any (fun k => !formT k) = false ∧ Fr none1 w4 w' ∧ IsTs w' u (kidsT t)) (fun s _ => (2 - s.1).toNat) ⟨0, rfl, Nat.zero_le _, rfl, Fr.refl _ _, hu⟩ ?_
        rintro _ ⟨i', _⟩ w5 ⟨i, hi, hil, hall, f5, hu5⟩
        dsimp only at hi ⊢
        subst hi
        refine ifB.dec (fun hlt => ?_) (fun hge => ?_)
        · have hi2 : i < (kidsT t).length := by omega
          obtain ⟨k, hk⟩ : ∃ k, (kidsT t)[i]? = some k := ⟨_, List.getElem?_eq_getElem hi2⟩
          refine hu5.ld hk ?_
          have hkm := List.mem_of_getElem? hk
          have hkn : nodesT k ≤ 1000000 := by
            have := sumN_take ((kidsT t).map nodesT) (i + 1)
            rw [← List.map_take, take_next _ _ _ hk, sumN_snoc] at this
            omega
          have hf1 : Ret Tryz.prog 157 #[k.v] w5 fun r w' => r = .bool (!formT k) ∧ Fr none1 w5 w' := by
            refine c157 k.v w5 _ ?_
            refine CallK.of (ih k hkm hkn w5) ?_
            rintro _ w6 ⟨rfl, f6⟩
            exact ⟨_, rfl, rfl, f6⟩
          refine callV_of (by kernel_rfl) Tryz.func157 (by kernel_rfl) (hf1.mono ?_)
          rintro _ w6 ⟨rfl, f6⟩
          refine ⟨_, rfl, ifB.by (fun hb => ?_) (fun hb => ?_)⟩
          · refine ⟨⟨(i : Int), rfl, ?_⟩, f5.trans f6⟩
            rw [decide_eq_true (by omega), eq_comm, List.any_eq_true]
            exact ⟨k, hkm, hb⟩
          · refine ⟨⟨i + 1, by rw [wI (by omega) (by omega)]; omega, by omega, ?_, f5.trans f6, hu5.keep0 f6⟩, by rw [wI (by omega) (by omega)]; omega⟩
            rw [List.take_add_one, hk, List.any_append, hall]
            simpa using hb
        · refine ⟨⟨-1, rfl, ?_⟩, f5⟩
          rw [List.take_of_length_le (by omega)] at hall
          rw [hall]; rfl
      refine CallK.of hx ?_
      rintro _ w5 ⟨⟨i, rfl, hi⟩, f5⟩
      exact ⟨_, rfl, by rw [hi], f5⟩
    refine CallK.of hc ?_
    rintro _ w5 ⟨rfl, f5⟩
    exact ⟨_, rfl, by rw [Bool.true_and], (f3.trans f4).trans f5⟩
  refine CallK.of (tnumber_spec t w2) ?_
  rintro _ w3 ⟨rfl, f3⟩
  refine ⟨((numberT t).1.v, (numberT t).2, ()), rfl, ifB.by (fun hb => ?_) (fun hb => ?_)⟩
  · dsimp only at hb ⊢
    rw [hb]
    refine CallK.of (ocheck_spec (numberT t).1 (by unfold baseN at hN; omega) w3) ?_
    rintro _ w4 ⟨rfl, f4⟩
    have hco : (checkO (numberT t).1 = 2) ↔ formO (numberT t).1 = false := by
      unfold checkO
      constructor
      · intro h
        by_cases hf : formO (numberT t).1 = false
        · exact hf
        · rw [if_neg hf] at h
          repeat' split at h
          all_goals omega
      · intro h; rw [if_pos h]
    refine ⟨_, rfl, ifB.eq (fun h => ?_) (fun h => ?_)⟩
    · rw [hco.1 h]; exact ⟨by simp, (f2.trans f3).trans f4⟩
    · have : formO (numberT t).1 = true := by
        cases hf : formO (numberT t).1 with
        | true => rfl
        | false => exact absurd (hco.2 hf) h
      rw [this]
      exact kids w4 ((f2.trans f3).trans f4)
  · dsimp only at hb ⊢
    rw [hb]
    exact kids w3 (f2.trans f3)
termination_by SizeOf.sizeOf t
decreasing_by exact kidsT_lt hk

/-! ### Slices of texts -/
def sv (s : List UInt8) : Value := .string (str s)
def IsSs (w : World) (v : Sl) (l : List (List UInt8)) : Prop := IsSl w 9 1 v (l.map sv)
theorem IsSs.keep0 {w w' : World} {v : Sl} {l : List (List UInt8)} (h : IsSs w v l) (f : Fr none1 w w') : IsSs w' v l := IsSl.keep0 h f
theorem IsSs.len {w : World} {v : Sl} {l : List (List UInt8)} (h : IsSs w v l) : v.2.1 = l.length := by have := IsSl.len h; rw [List.length_map, Nat.mul_one] at this; exact this.symm
theorem IsSs.ld {w : World} {v : Sl} {l : List (List UInt8)} (h : IsSs w v l) {i : Nat} {s : List UInt8} (ho : l[i]? = some s) {K : ByteArray → Prop} (k : K (str s)) : IdxK v.1 v.2.1 (i : Int) 1 fun p => LdK .str p w K := by
  have hi := (List.getElem?_eq_some_iff.1 ho).1
  have hl := h.len
  refine IsSl.ld h (by omega) (by omega) (c := .str) (x := str s) ?_ k
  rw [Int.toNat_natCast, List.getElem?_map, ho]; rfl
theorem none_ss (w : World) : IsSs w (none, 0, 0) [] := .inl ⟨rfl, rfl⟩
theorem sv_one (l : List (List UInt8)) : ∀ v ∈ l.map sv, one1 v = true := by intro v hv; obtain ⟨s, _, rfl⟩ := List.mem_map.1 hv; rfl
theorem ss_app {w : World} {x y : Sl} {xs ys : List (List UInt8)} (hx : IsSs w x xs) (hy : RdSl w 1 y (ys.map sv)) (hl : xs.length + ys.length ≤ 100000000) :
    ∃ (v : Sl) (w' : World), (Builtin.append_ #[23, 23] 23 #[.slice x.1 x.2.1 x.2.2, .slice y.1 y.2.1 y.2.2]).run Tryz.prog w = .ok (.slice v.1 v.2.1 v.2.2) w' ∧ IsSs w' v (xs ++ ys) ∧ Fr (blkOf x) w w' ∧ (∀ k, blkOf v k → blkOf x k ∨ w.heap.size ≤ k) := by
  have e1 := hx.len
  have e2 : y.2.1 = ys.length := by have := hy.1; rw [List.length_map, Nat.mul_one] at this; exact this.symm
  obtain ⟨v, w', a, b, _, c, d⟩ := append_ok (P := Tryz.prog) (s := 1) (xs := xs.map sv) (ys := ys.map sv) elem_str 23 hx hy (sv_one ys) (by rw [e1, e2]; omega)
  exact ⟨v, w', a, by unfold IsSs; rw [List.map_append]; exact b, c, d⟩

theorem tlabels_spec (t : Tm) (hn : nodesT t ≤ 1000000) (w : World) : Ret Tryz.prog 118 #[t.v] w fun r w' => ∃ u : Sl, r = .slice u.1 u.2.1 u.2.2 ∧ IsSs w' u (labelsT t) ∧ Fr none1 w w' ∧ ∀ k, blkOf u k → w.heap.size ≤ k := by
  refine c118 t.v w _ ?_
  have ih : ∀ k ∈ kidsT t, nodesT k ≤ 1000000 → ∀ w, Ret Tryz.prog 118 #[k.v] w fun r w' => ∃ u : Sl, r = .slice u.1 u.2.1 u.2.2 ∧ IsSs w' u (labelsT k) ∧ Fr none1 w w' ∧ ∀ k, blkOf u k → w.heap.size ≤ k := fun k hk hn w => tlabels_spec k hn w
  have f0 := Fr.refl none1 w
  refine JoinK.of (fun s w' => IsSs w' s.1 (ownL t) ∧ Fr none1 w w' ∧ ∀ k, blkOf s.1 k → w.heap.size ≤ k) ?_ ?_
  · by_cases h2 : ∃ s l r, t = .or s l r
    · obtain ⟨s, l, r, rfl⟩ := h2
      refine TaK.hit (str s, l.v, r.v, ()) rfl (ns_ok (zs := [.string (⟨#[]⟩ : ByteArray), .nilIface, .nilIface]) (vs := [.string (str s), l.v, r.v]) rfl (by simp [Tm.v_one, one1_str]) fun g w2 _ hb f2 => LdK.fld hb (x := str s) rfl ?_)
      obtain ⟨u, w3, hr, hu, hul, f3, uf⟩ := one_ok (P := Tryz.prog) (w := w2) elem_str (sv s) rfl
      refine ⟨u, w3, hr, ?_⟩
      obtain ⟨x, w4, hr4, hx, f4, xf⟩ := ss_app (none_ss w3) (ys := [s]) hu.rd (by simp)
      refine ⟨x, w4, hr4, hx, (f2.trans f3).comp f4 (fun k _ t => (none_blk k t).elim), fun k hk => ?_⟩
      rcases xf k hk with t | t
      · exact (none_blk k t).elim
      · have := (f2.trans f3).size; omega
    · have h2 : ∀ s l r, t ≠ .or s l r := fun s l r e => h2 ⟨s, l, r, e⟩
      refine (Tm.not_or h2).ta (lay0 (zs := [.string (⟨#[]⟩ : ByteArray), .nilIface, .nilIface]) f0 rfl fun w1 f1 => ⟨?_, f1, fun k t => (none_blk k t).elim⟩)
      have : ownL t = [] := by cases t <;> first | rfl | exact absurd rfl (h2 _ _ _)
      rw [this]
      exact none_ss _
  rintro _ ⟨s, _⟩ w1 ⟨hs, f1, sf⟩
  dsimp only at hs sf ⊢
  refine CallK.of (tkids_spec t w1) ?_
  rintro _ w2 ⟨u, rfl, hu, f2, uf⟩
  refine ⟨u, rfl, ?_⟩
  have hul := hu.len
  have hkl := kidsT_len t
  have hL := labelsT_kids t
  have hlen := labelsT_len t
  have hlt0 : ∀ i, (ownL t ++ ((kidsT t).take i).flatMap labelsT).length ≤ nodesT t := fun i => by
    have : (labelsT t).length = (ownL t ++ ((kidsT t).take i).flatMap labelsT).length + (((kidsT t).drop i).flatMap labelsT).length := by
      rw [hL]
      conv => lhs; rw [← List.take_append_drop i (kidsT t)]
      rw [List.flatMap_append]
      simp only [List.length_append]
      omega
    omega
  have ulow : ∀ k, blkOf u k → k < w2.heap.size := fun k hk => IsSl.lt hu hk
  refine LoopK.of (fun s w' => ∃ i : Nat, s.2.1 = i ∧ i ≤ (kidsT t).length ∧ IsSs w' s.1 (ownL t ++ ((kidsT t).take i).flatMap labelsT) ∧ Fr none1 w w' ∧ IsTs w' u (kidsT t) ∧ (∀ k, blkOf s.1 k → w.heap.size ≤ k ∧ ¬ blkOf u k)) (fun s _ => (2 - s.2.1).toNat)
    ⟨0, rfl, Nat.zero_le _, by simpa using hs.keep0 f2, f1.trans f2, hu, fun k hk => ⟨sf k hk, fun t => by have := uf k t; have := IsSl.lt hs hk; omega⟩⟩ ?_
  rintro _ ⟨v, i', _⟩ w3 ⟨i, hi, hil, hv, f3, hu3, vf⟩
  dsimp only at hi hv vf ⊢
  subst hi
  refine ifB.dec (fun hlt => ?_) (fun hge => ?_)
  · have hi2 : i < (kidsT t).length := by omega
    obtain ⟨k, hk⟩ : ∃ k, (kidsT t)[i]? = some k := ⟨_, List.getElem?_eq_getElem hi2⟩
    have hkm := List.mem_of_getElem? hk
    have hb := hlt0 (i + 1)
    rw [List.take_add_one, hk] at hb
    simp only [Option.toList_some, List.flatMap_append, List.flatMap_cons, List.flatMap_nil, List.append_nil, List.length_append] at hb
    refine hu3.ld hk ?_
    have hkn : nodesT k ≤ 1000000 := by
      have hnd : t ≠ .none := fun e => by rw [e] at hi2; exact absurd hi2 (by simp [kidsT])
      have hN := nodesT_kids t hnd
      have := sumN_take ((kidsT t).map nodesT) (i + 1)
      rw [← List.map_take, take_next _ _ _ hk, sumN_snoc] at this
      omega
    refine CallK.of (ih k hkm hkn w3) ?_
    rintro _ w4 ⟨x, rfl, hx, f4, xf⟩
    refine ⟨x, rfl, ?_⟩
    obtain ⟨y, w5, hr5, hy, f5, yf⟩ := ss_app (hv.keep0 f4) (IsSl.rd hx) (by rw [List.length_append]; omega)
    have ult := fun k (hk : blkOf u k) => IsSl.lt hu3 hk
    refine ⟨y, w5, hr5, ⟨i + 1, by rw [wI (by omega) (by omega)]; omega, by omega, ?_, (f3.trans f4).comp f5 (fun k _ t => by have := (vf k t).1; omega), IsSl.keep (hu3.keep0 f4) f5 (fun k hk t => (vf k t).2 hk), fun k hk => ?_⟩, by rw [wI (by omega) (by omega)]; omega⟩
    · rw [List.take_add_one, hk]
      simp only [Option.toList_some, List.flatMap_append, List.flatMap_cons, List.flatMap_nil, List.append_nil]
      rw [← List.append_assoc]
      exact hy
    · rcases yf k hk with t | t
      · exact vf k t
      · have := (f3.trans f4).size
        have := f4.size
        exact ⟨by omega, fun q => by have := ult k q; omega⟩
  · have : i = (kidsT t).length := by omega
    subst this
    rw [List.take_length, ← hL] at hv
    exact ⟨v, rfl, hv, f3, fun k hk => (vf k hk).1⟩
termination_by SizeOf.sizeOf t
decreasing_by exact kidsT_lt hk

/-! ### May a contract be? -/
theorem scontains_spec {w : World} {v : Sl} {l : List (List UInt8)} (h : RdSl w 1 v (l.map sv)) (hl : l.length ≤ 100000000) (s : List UInt8) :
    Ret Tryz.prog 119 #[.slice v.1 v.2.1 v.2.2, .string (str s)] w fun r w' => r = .bool (decide (s ∈ l)) ∧ w = w' := by
  have hlen : v.2.1 = l.length := by have := h.1; rw [List.length_map, Nat.mul_one] at this; exact this.symm
  refine c119 v.1 v.2.1 v.2.2 (str s) w _ ?_
  have hx : Ret Tryz.prog 158 #[.slice v.1 v.2.1 v.2.2, .string (str s)] w fun r w' => (∃ i : Int, r = .int .i64 i ∧ decide (i ≥ 0) = decide (s ∈ l)) ∧ w = w' := by
    refine c158 v.1 v.2.1 v.2.2 (str s) w _ ?_
    refine LoopK.of (fun st w' => ∃ i : Nat, st.1 = i ∧ i ≤ l.length ∧ s ∉ l.take i ∧ w = w') (fun st _ => (v.2.1 - st.1).toNat) ⟨0, rfl, Nat.zero_le _, by simp, rfl⟩ ?_
    rintro _ ⟨i', _⟩ _ ⟨i, hi, hil, hno, rfl⟩
    dsimp only at hi ⊢
    subst hi
    refine ifB.dec (fun hlt => ?_) (fun hge => ?_)
    · have hi2 : i < l.length := by omega
      obtain ⟨x, hx⟩ : ∃ x, l[i]? = some x := ⟨_, List.getElem?_eq_getElem hi2⟩
      refine RdSl.ld h (by omega) hlt (c := .str) (x := str x) (by rw [Int.toNat_natCast, List.getElem?_map, hx]; rfl) ?_
      rw [str_beq]
      refine ifB.dec (fun he => ?_) (fun hne => ?_)
      · subst he
        refine ⟨⟨(i : Int), rfl, ?_⟩, rfl⟩
        rw [decide_eq_true (by omega), decide_eq_true (List.mem_of_getElem? hx)]
      · refine ⟨⟨i + 1, by rw [wI (by omega) (by omega)]; omega, by omega, ?_, rfl⟩, by rw [wI (by omega) (by omega)]; omega⟩
        rw [List.take_add_one, hx]
        simp only [Option.toList_some, List.mem_append, List.mem_singleton]
        rintro (t | t)
        · exact hno t
        · exact hne t
    · refine ⟨⟨-1, rfl, ?_⟩, rfl⟩
      rw [List.take_of_length_le (by omega)] at hno
      rw [decide_eq_false hno]; rfl
  refine CallK.of hx ?_
  rintro _ _ ⟨⟨i, rfl, hi⟩, rfl⟩
  exact ⟨i, rfl, by rw [hi], rfl⟩

theorem nodup_take {α : Type} (l : List α) : (∀ j x, l[j]? = some x → x ∉ l.take j) ↔ l.Nodup := by
  unfold List.Nodup
  rw [List.pairwise_iff_getElem]
  constructor
  · intro h i j hi hj hij heq
    refine h j l[j] (List.getElem?_eq_getElem hj) ?_
    rw [List.mem_take_iff_getElem]
    exact ⟨i, by omega, heq⟩
  · intro h j x hx hm
    obtain ⟨hj, rfl⟩ := List.getElem?_eq_some_iff.1 hx
    rw [List.mem_take_iff_getElem] at hm
    obtain ⟨i, hi, heq⟩ := hm
    exact h i j (by omega) hj (by omega) heq

theorem tcheck_spec (t : Tm) (hn : nodesT t ≤ 1000000) (w : World) : Ret Tryz.prog 66 #[t.v] w fun r w' => r = .int .i64 (checkT t) ∧ Fr none1 w w' := by
  refine c66 t.v w _ ?_
  refine CallK.of (tform_spec t hn w) ?_
  rintro _ w1 ⟨rfl, f1⟩
  unfold checkT
  refine ⟨_, rfl, ifB.not (ifB.by (fun h => ?_) (fun h => ?_))⟩
  case refine_2 => rw [if_pos h]; exact ⟨rfl, f1⟩
  rw [if_neg (by simp [h])]
  refine CallK.of (tsize_spec t hn w1) ?_
  rintro _ w2 ⟨rfl, f2⟩
  refine ⟨((nodesT t : Int), (depthT t : Int), ()), rfl, ?_⟩
  dsimp only
  refine ifB.dec (fun h => ?_) (fun h => ?_)
  · rw [if_pos (by omega)]; exact ⟨rfl, f1.trans f2⟩
  rw [if_neg (by omega)]
  refine ifB.dec (fun h => ?_) (fun h => ?_)
  · rw [if_pos (by omega)]; exact ⟨rfl, f1.trans f2⟩
  rw [if_neg (by omega)]
  refine CallK.of (tlabels_spec t hn w2) ?_
  rintro _ w3 ⟨u, rfl, hu, f3, _⟩
  refine ⟨u, rfl, ?_⟩
  have hul := hu.len
  have hll := labelsT_len t
  have hcap : u.2.1 ≤ u.2.2 := by
    rcases hu with ⟨rfl, _⟩ | ⟨g, off, cs, _, _, hle, _⟩
    · exact Nat.le_refl _
    · exact hle
  have fr := (f1.trans f2).trans f3
  refine LoopK.of (fun s w' => ∃ i : Nat, s.1 = i ∧ i ≤ (labelsT t).length ∧ (∀ j x, j < i → (labelsT t)[j]? = some x → x ∉ (labelsT t).take j) ∧ w3 = w') (fun s _ => (u.2.1 - s.1).toNat) ⟨0, rfl, Nat.zero_le _, fun j x hj => absurd hj (by omega), rfl⟩ ?_
  rintro _ ⟨i', _⟩ _ ⟨i, hi, hil, hall, rfl⟩
  dsimp only at hi ⊢
  subst hi
  refine ifB.dec (fun hlt => ?_) (fun hge => ?_)
  · have hi2 : i < (labelsT t).length := by omega
    obtain ⟨x, hx⟩ : ∃ x, (labelsT t)[i]? = some x := ⟨_, List.getElem?_eq_getElem hi2⟩
    refine hu.ld hx ?_
    refine RdSl.sub (IsSl.rd hu) (by omega) (by omega) hcap fun hs => ?_
    rw [Int.toNat_natCast] at hs ⊢
    rw [← List.map_take] at hs
    refine CallK.of (scontains_spec hs (by rw [List.length_take]; omega) x) ?_
    rintro _ _ ⟨rfl, rfl⟩
    refine ⟨_, rfl, ifB.dec (fun hm => ?_) (fun hm => ?_)⟩
    · rw [if_neg (fun hd => (nodup_take _).2 hd i x hx hm)]
      exact ⟨rfl, fr⟩
    · refine ⟨⟨i + 1, by rw [wI (by omega) (by omega)]; omega, by omega, fun j y hj hy => ?_, rfl⟩, by rw [wI (by omega) (by omega)]; omega⟩
      by_cases hji : j < i
      · exact hall j y hji hy
      · have : j = i := by omega
        subst this
        rw [hx] at hy; injection hy with hy; subst hy
        exact hm
  · rw [if_pos ((nodup_take _).1 fun j x hx => hall j x (by have := (List.getElem?_eq_some_iff.1 hx).1; omega) hx)]
    exact ⟨rfl, fr⟩

end Go.Proofs.YtlhbfdakceipkaaGreatDoor
