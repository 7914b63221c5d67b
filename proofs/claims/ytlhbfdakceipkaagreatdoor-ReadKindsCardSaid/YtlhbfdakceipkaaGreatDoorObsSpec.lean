/-
  Numbers of contracts: their parts, whether they may be, how many and how deep they are.
  Conditions: there are not too many.
-/
import Derived.Test.YtlhbfdakceipkaaGreatDoorTermV
import Derived.Test.YtlhbfdakceipkaaGreatDoorEventSpec
import Derived.Test.YtlhbfdakceipkaaGreatDoorCObsG
set_option linter.unusedVariables false
set_option maxRecDepth 100000
namespace Go.Proofs.YtlhbfdakceipkaaGreatDoor
open Vc

/-! ### In plain Lean -/
def nameL (s : List UInt8) : Bool := nameF 0 (runesL s)
def leafO : Ob → Bool × Bool
  | .const n => (true, validF n)
  | .fix s => (true, nameL s)
  | _ => (false, false)
def formO : Ob → Bool
  | .none => false
  | .const n => validF n
  | .fix s => nameL s
  | .add l r | .mul l r | .max l r => formO l && formO r
  | .neg o => formO o
def nodesO : Ob → Nat
  | .none => 0
  | .const _ | .fix _ => 1
  | .add l r | .mul l r | .max l r => nodesO l + nodesO r + 1
  | .neg o => nodesO o + 1
def depthO : Ob → Nat
  | .none => 0
  | .const _ | .fix _ => 1
  | .add l r | .mul l r | .max l r => max (depthO l) (depthO r) + 1
  | .neg o => depthO o + 1
def noneO : Ob → Bool
  | .none => true
  | _ => false
def checkO (o : Ob) : Int := if formO o = false then 2 else if 60 < nodesO o then 5 else if 12 < depthO o then 5 else 0

theorem depthO_le (o : Ob) : depthO o ≤ nodesO o := by
  induction o with
  | none => exact Nat.le_refl _
  | const => exact Nat.le_refl _
  | fix => exact Nat.le_refl _
  | neg o ih => unfold depthO nodesO; omega
  | add l r a b => unfold depthO nodesO; omega
  | mul l r a b => unfold depthO nodesO; omega
  | max l r a b => unfold depthO nodesO; omega
def sumN (l : List Nat) : Nat := l.foldl (· + ·) 0
def maxN (l : List Nat) : Nat := l.foldl max 0
theorem nodesO_kids (o : Ob) (h : noneO o = false) : nodesO o = sumN ((kidsO o).map nodesO) + 1 := by cases o <;> simp [noneO, nodesO, kidsO, sumN] at h ⊢
theorem depthO_kids (o : Ob) (h : noneO o = false) : depthO o = maxN ((kidsO o).map depthO) + 1 := by cases o <;> simp [noneO, depthO, kidsO, maxN] at h ⊢
theorem formO_kids (o : Ob) (h : (leafO o).1 = false) : formO o = (!noneO o && !((kidsO o).any fun k => !formO k)) := by cases o <;> simp [leafO, noneO, formO, kidsO] at h ⊢
theorem noneO_kids (o : Ob) (h : (leafO o).1 = false) : ((kidsO o).length == 0) = noneO o := by cases o <;> simp [leafO, noneO, kidsO] at h ⊢
theorem leafO_none (o : Ob) (h : (leafO o).1 = true) : noneO o = false ∧ formO o = (leafO o).2 := by cases o <;> simp [leafO, noneO, formO] at h ⊢
theorem sumN_snoc (l : List Nat) (n : Nat) : sumN (l ++ [n]) = sumN l + n := by unfold sumN; rw [List.foldl_append]; rfl
theorem maxN_snoc (l : List Nat) (n : Nat) : maxN (l ++ [n]) = max (maxN l) n := by unfold maxN; rw [List.foldl_append]; rfl
theorem sumN_from (l : List Nat) : ∀ n, l.foldl (· + ·) n = n + sumN l := by
  unfold sumN
  induction l with
  | nil => intro n; rfl
  | cons a l ih => intro n; rw [List.foldl_cons, List.foldl_cons, ih, ih (0 + a)]; omega
theorem sumN_take (l : List Nat) (i : Nat) : sumN (l.take i) ≤ sumN l := by
  have : sumN l = sumN (l.take i) + sumN (l.drop i) := by
    conv => lhs; rw [← List.take_append_drop i l]
    unfold sumN
    rw [List.foldl_append]
    exact sumN_from _ _
  omega
theorem take_next {α β : Type} (l : List α) (g : α → β) (i : Nat) {x : α} (h : l[i]? = some x) : (l.take (i + 1)).map g = (l.take i).map g ++ [g x] := by
  rw [List.take_add_one, h, List.map_append]; rfl

/-! ### What the functions do -/
theorem okids_spec (o : Ob) (w : World) : Ret Tryz.prog 82 #[o.v] w fun r w' => ∃ u : Sl, r = .slice u.1 u.2.1 u.2.2 ∧ IsOs w' u (kidsO o) ∧ Fr none1 w w' := by
  refine c82 o.v w _ ?_
  unfold C82
  have two : ∀ (l r : Ob) (w0 : World) (T : TypeId), Fr none1 w w0 → kidsO o = [l, r] → NewK (.cells #[.nilIface, .nilIface] T) w0 (fun g2 w3 => StsK (⟨g2, 0, none⟩ : Addr) [l.v, r.v] w3 (fun w4 => LdK .raw ((⟨g2, 0, none⟩ : Addr).add 0) w4 (fun (x5 : Value) => LdK .raw ((⟨g2, 0, none⟩ : Addr).add 1) w4 (fun (x6 : Value) =>
      RunK Tryz.prog (Instr.buildSlice 173 2 #[(0, x5), (1, x6)]) w4 (.v (.one .slc)) (fun (x7 : Option Addr × Nat × Nat) w8 => ∃ u : Sl, (Value.slice x7.1 x7.2.1 x7.2.2) = .slice u.1 u.2.1 u.2.2 ∧ IsOs w8 u (kidsO o) ∧ Fr none1 w w8))))) := fun l r w0 T f0 hk =>
    kids2_ok (zs := [.nilIface, .nilIface]) (vs := [l.v, r.v]) elem_obs rfl (by simp [Ob.v_one]) rfl rfl l.v_cells r.v_cells fun u w' hu _ f _ => ⟨u, rfl, by rw [hk]; exact hu, f0.trans f⟩
  have skip2 : ∀ {w0 : World} {T : TypeId} {K : World → Prop}, Fr none1 w w0 → (∀ w4, Fr none1 w w4 → K w4) → NewK (.cells #[.nilIface, .nilIface] T) w0 (fun g w3 => StsK ⟨g, 0, none⟩ [.nilIface, .nilIface] w3 fun w4 => K w4) := fun f0 h =>
    ns_skip (zs := [.nilIface, .nilIface]) rfl rfl fun w4 f => h w4 (f0.trans f)
  have skip1 : ∀ {w0 : World} {T : TypeId} {K : World → Prop}, Fr none1 w w0 → (∀ w4, Fr none1 w w4 → K w4) → NewK (.cells #[.nilIface] T) w0 (fun g w3 => StsK ⟨g, 0, none⟩ [.nilIface] w3 fun w4 => K w4) := fun f0 h =>
    ns_skip (zs := [.nilIface]) rfl rfl fun w4 f => h w4 (f0.trans f)
  have f0 := Fr.refl none1 w
  cases o with
  | none =>
    refine TaK.nil rfl (skip2 f0 fun w1 f1 => TaK.nil rfl (skip2 f1 fun w2 f2 => TaK.nil rfl (skip2 f2 fun w3 f3 => TaK.nil rfl (skip1 f3 fun w4 f4 => ⟨_, rfl, none_os _, f4⟩))))
  | const n =>
    refine TaK.miss rfl (by decide) (skip2 f0 fun w1 f1 => TaK.miss rfl (by decide) (skip2 f1 fun w2 f2 => TaK.miss rfl (by decide) (skip2 f2 fun w3 f3 => TaK.miss rfl (by decide) (skip1 f3 fun w4 f4 => ⟨_, rfl, none_os _, f4⟩))))
  | fix s =>
    refine TaK.miss rfl (by decide) (skip2 f0 fun w1 f1 => TaK.miss rfl (by decide) (skip2 f1 fun w2 f2 => TaK.miss rfl (by decide) (skip2 f2 fun w3 f3 => TaK.miss rfl (by decide) (skip1 f3 fun w4 f4 => ⟨_, rfl, none_os _, f4⟩))))
  | add l r => exact TaK.hit (l.v, r.v, ()) rfl (two l r w _ f0 rfl)
  | mul l r => exact TaK.miss rfl (by decide) (skip2 f0 fun w1 f1 => TaK.hit (l.v, r.v, ()) rfl (two l r w1 _ f1 rfl))
  | max l r => exact TaK.miss rfl (by decide) (skip2 f0 fun w1 f1 => TaK.miss rfl (by decide) (skip2 f1 fun w2 f2 => TaK.hit (l.v, r.v, ()) rfl (two l r w2 _ f2 rfl)))
  | neg x =>
    refine TaK.miss rfl (by decide) (skip2 f0 fun w1 f1 => TaK.miss rfl (by decide) (skip2 f1 fun w2 f2 => TaK.miss rfl (by decide) (skip2 f2 fun w3 f3 => TaK.hit (x.v, ()) rfl ?_)))
    exact kids1_ok (zs := [.nilIface]) (vs := [x.v]) elem_obs rfl (by simp [Ob.v_one]) rfl x.v_cells fun u w' hu _ f _ => ⟨u, rfl, hu, f3.trans f⟩

theorem leaf_spec (o : Ob) (w : World) : Ret Tryz.prog 163 #[o.v] w fun r w' => r = .tuple #[.bool (leafO o).1, .bool (leafO o).2] ∧ Fr none1 w w' := by
  refine c163 o.v w _ ?_
  unfold C163
  have skipI : ∀ {K : World → Prop}, (∀ w4, Fr none1 w w4 → K w4) → NewK (.cells #[.int .i64 0] 80) w (fun g w3 => StsK ⟨g, 0, none⟩ [.int .i64 0] w3 fun w4 => K w4) := fun h => ns_skip (zs := [.int .i64 0]) rfl rfl fun w4 f => h w4 f
  have skipS : ∀ {w0 : World} {K : World → Prop}, Fr none1 w w0 → (∀ w4, Fr none1 w w4 → K w4) → NewK (.cells #[.string (⟨#[]⟩ : ByteArray)] 78) w0 (fun g w3 => StsK ⟨g, 0, none⟩ [.string (⟨#[]⟩ : ByteArray)] w3 fun w4 => K w4) := fun f0 h => ns_skip (zs := [.string (⟨#[]⟩ : ByteArray)]) rfl rfl fun w4 f => h w4 (f0.trans f)
  cases o with
  | none => exact TaK.nil rfl (skipI fun w1 f1 => TaK.nil rfl (skipS f1 fun w2 f2 => ⟨rfl, f2⟩))
  | const n =>
    refine TaK.hit (n, ()) rfl (ns_ok (zs := [.int .i64 0]) (vs := [.int .i64 n]) rfl rfl fun g w1 _ hb f1 => LdK.fld hb (x := n) rfl ?_)
    refine CallK.of (valid_spec n w1) ?_
    rintro _ _ ⟨rfl, rfl⟩
    exact ⟨_, rfl, rfl, f1⟩
  | fix s =>
    refine TaK.miss rfl (by decide) (skipI fun w1 f1 => TaK.hit (str s, ()) rfl (ns_ok (zs := [.string (⟨#[]⟩ : ByteArray)]) (vs := [.string (str s)]) rfl rfl fun g w2 _ hb f2 => LdK.fld hb (x := str s) rfl ?_))
    refine CallK.of (name_spec s w2) ?_
    rintro _ w3 ⟨rfl, f3⟩
    exact ⟨_, rfl, rfl, (f1.trans f2).trans f3⟩
  | add l r => exact TaK.miss rfl (by decide) (skipI fun w1 f1 => TaK.miss rfl (by decide) (skipS f1 fun w2 f2 => ⟨rfl, f2⟩))
  | mul l r => exact TaK.miss rfl (by decide) (skipI fun w1 f1 => TaK.miss rfl (by decide) (skipS f1 fun w2 f2 => ⟨rfl, f2⟩))
  | max l r => exact TaK.miss rfl (by decide) (skipI fun w1 f1 => TaK.miss rfl (by decide) (skipS f1 fun w2 f2 => ⟨rfl, f2⟩))
  | neg x => exact TaK.miss rfl (by decide) (skipI fun w1 f1 => TaK.miss rfl (by decide) (skipS f1 fun w2 f2 => ⟨rfl, f2⟩))

theorem onone_spec (o : Ob) (w : World) : Ret Tryz.prog 164 #[o.v] w fun r w' => r = .bool (noneO o) ∧ Fr none1 w w' := by
  refine c164 o.v w _ ?_
  refine CallK.of (leaf_spec o w) ?_
  rintro _ w1 ⟨rfl, f1⟩
  refine ⟨(_, _, ()), rfl, ifB.not (ifB.by (fun h => ?_) (fun h => ?_))⟩
  · rw [(leafO_none o h).1]; exact ⟨rfl, f1⟩
  · refine CallK.of (okids_spec o w1) ?_
    rintro _ w2 ⟨u, rfl, hu, f2⟩
    refine ⟨u, rfl, ?_, f1.trans f2⟩
    rw [hu.len, ← noneO_kids o h]
    congr 1
    cases hk : (kidsO o).length <;> rfl

theorem osize_spec (o : Ob) (hn : nodesO o ≤ 1000000) (w : World) : Ret Tryz.prog 135 #[o.v] w fun r w' => r = .tuple #[.int .i64 (nodesO o : Int), .int .i64 (depthO o : Int)] ∧ Fr none1 w w' := by
  refine c135 o.v w _ ?_
  have ih : ∀ k ∈ kidsO o, nodesO k ≤ 1000000 → ∀ w, Ret Tryz.prog 135 #[k.v] w fun r w' => r = .tuple #[.int .i64 (nodesO k : Int), .int .i64 (depthO k : Int)] ∧ Fr none1 w w' := fun k hk hn w => osize_spec k hn w
  refine CallK.of (onone_spec o w) ?_
  rintro _ w1 ⟨rfl, f1⟩
  refine ⟨_, rfl, ifB.by (fun h => ?_) (fun h => ?_)⟩
  · cases o <;> first | (exact ⟨rfl, f1⟩) | (exact absurd h (by simp [noneO]))
  refine CallK.of (okids_spec o w1) ?_
  rintro _ w2 ⟨u, rfl, hu, f2⟩
  refine ⟨u, rfl, ?_⟩
  have hN := nodesO_kids o h
  have hD := depthO_kids o h
  have hul := hu.len
  have hkl := kidsO_len o
  refine LoopK.of (fun s w' => ∃ i : Nat, s.2.2.1 = i ∧ i ≤ (kidsO o).length ∧ s.1 = (sumN (((kidsO o).take i).map nodesO) : Int) ∧ s.2.1 = (maxN (((kidsO o).take i).map depthO) : Int) ∧ Fr none1 w w' ∧ IsOs w' u (kidsO o)) (fun s _ => (2 - s.2.2.1).toNat)
    ⟨0, rfl, Nat.zero_le _, rfl, rfl, f1.trans f2, hu⟩ ?_
  rintro _ ⟨a, b, i', _⟩ w3 ⟨i, hi, hil, ha, hb, f3, hu3⟩
  dsimp only at hi ha hb ⊢
  subst hi ha hb
  have hle : sumN (((kidsO o).take i).map nodesO) ≤ nodesO o := by
    rw [hN, List.map_take]
    have := sumN_take ((kidsO o).map nodesO) i
    omega
  refine ifB.dec (fun hlt => ?_) (fun hge => ?_)
  · have hi2 : i < (kidsO o).length := by omega
    obtain ⟨k, hk⟩ : ∃ k, (kidsO o)[i]? = some k := ⟨_, List.getElem?_eq_getElem hi2⟩
    have hkm := List.mem_of_getElem? hk
    have hkn : sumN (((kidsO o).take (i + 1)).map nodesO) ≤ nodesO o := by
      rw [hN, List.map_take]
      have := sumN_take ((kidsO o).map nodesO) (i + 1)
      omega
    rw [take_next _ _ _ hk, sumN_snoc] at hkn
    refine hu3.ld hk ?_
    refine CallK.of (ih k hkm (by omega) w3) ?_
    rintro _ w4 ⟨rfl, f4⟩
    refine ⟨((nodesO k : Int), (depthO k : Int), ()), rfl, ?_⟩
    dsimp only
    have hdk := depthO_le k
    refine ⟨⟨i + 1, by rw [wI (by omega) (by omega)]; omega, by omega, ?_, ?_, f3.trans f4, hu3.keep0 f4⟩, by rw [wI (by omega) (by omega)]; omega⟩
    · rw [take_next _ _ _ hk, sumN_snoc, wI (by omega) (by omega)]
      omega
    · rw [take_next _ _ _ hk, maxN_snoc]
      by_cases hm : maxN (((kidsO o).take i).map depthO) < depthO k
      · rw [if_pos (by omega)]; omega
      · rw [if_neg (by omega)]; omega
  · have : i = (kidsO o).length := by omega
    subst this
    rw [List.take_length]
    rw [List.take_length] at hle
    have hd := depthO_le o
    rw [hN]
    rw [hD] at hd ⊢
    rw [wI (by omega) (by omega), wI (by omega) (by omega)]
    exact ⟨by simp, f3⟩
termination_by SizeOf.sizeOf o
decreasing_by exact kidsO_lt hk

theorem oform_spec (o : Ob) (w : World) : Ret Tryz.prog 134 #[o.v] w fun r w' => r = .bool (formO o) ∧ Fr none1 w w' := by
  refine c134 o.v w _ ?_
  have ih : ∀ k ∈ kidsO o, ∀ w, Ret Tryz.prog 134 #[k.v] w fun r w' => r = .bool (formO k) ∧ Fr none1 w w' := fun k hk w => oform_spec k w
  refine CallK.of (leaf_spec o w) ?_
  rintro _ w1 ⟨rfl, f1⟩
  refine ⟨(_, _, ()), rfl, ifB.by (fun h => ?_) (fun h => ?_)⟩
  · rw [(leafO_none o h).2]; exact ⟨rfl, f1⟩
  rw [formO_kids o h]
  refine CallK.of (onone_spec o w1) ?_
  rintro _ w2 ⟨rfl, f2⟩
  refine ⟨_, rfl, ifB.not (ifB.by (fun hn => ?_) (fun hn => ?_))⟩
  · rw [hn]; exact ⟨rfl, f1.trans f2⟩
  rw [hn]
  refine CallK.of (okids_spec o w2) ?_
  rintro _ w3 ⟨u, rfl, hu, f3⟩
  refine ⟨u, rfl, ?_⟩
  have hul := hu.len
  have hkl := kidsO_len o
  -- is there one that is not?
  have hc : Ret Tryz.prog 165 #[.slice u.1 u.2.1 u.2.2, .func (.func 166) #[] #[]] w3 fun r w' => r = .bool ((kidsO o).any fun k => !formO k) ∧ Fr none1 w3 w' := by
    refine c165 u.1 u.2.1 u.2.2 _ w3 _ ?_
    have hx : Ret Tryz.prog 188 #[.slice u.1 u.2.1 u.2.2, .func (.func 166) #[] #[]] w3 fun r w' => (∃ i : Int, r = .int .i64 i ∧ decide (i ≥ 0) = (kidsO o).any fun k => !formO k) ∧ Fr none1 w3 w' := by
      refine c188 u.1 u.2.1 u.2.2 _ w3 _ ?_
      refine LoopK.of (fun s w' => ∃ i : Nat, s.1 = i ∧ i ≤ (kidsO o).length ∧ ((kidsO o).take i).any (fun k => !formO k) = false ∧ Fr none1 w3 w' ∧ IsOs w' u (kidsO o)) (fun s _ => (2 - s.1).toNat) ⟨0, rfl, Nat.zero_le _, rfl, Fr.refl _ _, hu⟩ ?_
      rintro _ ⟨i', _⟩ w4 ⟨i, hi, hil, hall, f4, hu4⟩
      dsimp only at hi ⊢
      subst hi
      refine ifB.dec (fun hlt => ?_) (fun hge => ?_)
      · have hi2 : i < (kidsO o).length := by omega
        obtain ⟨k, hk⟩ : ∃ k, (kidsO o)[i]? = some k := ⟨_, List.getElem?_eq_getElem hi2⟩
        refine hu4.ld hk ?_
        have hkm := List.mem_of_getElem? hk
        have hf1 : Ret Tryz.prog 166 #[k.v] w4 fun r w' => r = .bool (!formO k) ∧ Fr none1 w4 w' := by
          refine c166 k.v w4 _ ?_
          refine CallK.of (ih k hkm w4) ?_
          rintro _ w5 ⟨rfl, f5⟩
          exact ⟨_, rfl, rfl, f5⟩
        refine callV_of (by kernel_rfl) Tryz.func166 (by kernel_rfl) (hf1.mono ?_)
        rintro _ w5 ⟨rfl, f5⟩
        refine ⟨_, rfl, ifB.by (fun hb => ?_) (fun hb => ?_)⟩
        · refine ⟨⟨(i : Int), rfl, ?_⟩, f4.trans f5⟩
          rw [decide_eq_true (by omega), eq_comm, List.any_eq_true]
          exact ⟨k, hkm, hb⟩
        · refine ⟨⟨i + 1, by rw [wI (by omega) (by omega)]; omega, by omega, ?_, f4.trans f5, hu4.keep0 f5⟩, by rw [wI (by omega) (by omega)]; omega⟩
          rw [List.take_add_one, hk, List.any_append, hall]
          simpa using hb
      · refine ⟨⟨-1, rfl, ?_⟩, f4⟩
        rw [List.take_of_length_le (by omega)] at hall
        rw [hall]; rfl
    refine CallK.of hx ?_
    rintro _ w4 ⟨⟨i, rfl, hi⟩, f4⟩
    exact ⟨_, rfl, by rw [hi], f4⟩
  refine CallK.of hc ?_
  rintro _ w4 ⟨rfl, f4⟩
  exact ⟨_, rfl, by simp, ((f1.trans f2).trans f3).trans f4⟩
termination_by SizeOf.sizeOf o
decreasing_by exact kidsO_lt hk

theorem ocheck_spec (o : Ob) (hn : nodesO o ≤ 1000000) (w : World) : Ret Tryz.prog 73 #[o.v] w fun r w' => r = .int .i64 (checkO o) ∧ Fr none1 w w' := by
  refine c73 o.v w _ ?_
  refine CallK.of (oform_spec o w) ?_
  rintro _ w1 ⟨rfl, f1⟩
  unfold checkO
  refine ⟨_, rfl, ifB.not (ifB.by (fun h => ?_) (fun h => ?_))⟩
  case refine_2 => rw [if_pos h]; exact ⟨rfl, f1⟩
  rw [if_neg (by simp [h])]
  refine CallK.of (osize_spec o hn w1) ?_
  rintro _ w2 ⟨rfl, f2⟩
  refine ⟨((nodesO o : Int), (depthO o : Int), ()), rfl, ?_⟩
  dsimp only
  refine ifB.dec (fun h => ?_) (fun h => ?_)
  · rw [if_pos (by omega)]; exact ⟨rfl, f1.trans f2⟩
  rw [if_neg (by omega)]
  refine ifB.dec (fun h => ?_) (fun h => ?_)
  · rw [if_pos (by omega)]; exact ⟨rfl, f1.trans f2⟩
  rw [if_neg (by omega)]
  exact ⟨rfl, f1.trans f2⟩

end Go.Proofs.YtlhbfdakceipkaaGreatDoor
