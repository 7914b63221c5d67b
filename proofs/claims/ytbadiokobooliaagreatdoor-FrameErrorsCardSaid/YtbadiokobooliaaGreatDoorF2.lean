/-
  Texts of this claim, put together: StrSpec, NumF, ReadF, LexF, TakeF, PackSpec2, VcNest, VcAggs, CTreeG, TreeSpec, CRefN, RefName, CRef04, RefTree, CWithin, WithinSpec, CDigG, DigSpec, CMakeG, MakeSpec, MakeSpec2, MakeSpec3, VcPlan, PlanSpec, RefWrite, CRef11P, RefEv, PlainSpec, CSome11, SomeSpec, CReadG, ReadSpec, ReadSpec2, BytesMore, CLend, LendB, CPackT, TakeSpec, CKName, KName, VcCmd, DoSpec, RefEv2, RefReadF, CRefSg, RTellSpec, CRefRd, RefReadSpec, RefReadSpec2, RefReadSpec3, CRef11T, TakeSpec2, TakeSpec3, TakeSpec4, CSipG.
  Conditions: those of each theorem.
-/
import Derived.Test.YtbadiokobooliaaGreatDoorF0
import Derived.Test.YtbadiokobooliaaGreatDoorF1
import Derived.ChangeSame
import Derived.ChangeSlices
import Derived.KernelRfl
import Derived.Laws.BytesString
import Derived.Laws.IdiomStrings
import Derived.Lib.Bytes
import Derived.Lib.ItoaNum
import Derived.Lib.RuneCount
import Derived.SliceStrings
import Derived.Test.YtbadiokobooliaaGreatDoorProg
/-! ### StrSpec -/
set_option linter.unusedVariables false
set_option maxRecDepth 100000
namespace Go.Proofs.YtbadiokobooliaaGreatDoor
open Vc

theorem extract_str (a : List UInt8) (i j : Nat) : (str a).extract i j = str ((a.drop i).take (j - i)) := by
  apply ByteArray.ext
  rw [ByteArray.data_extract]
  unfold str
  simp
theorem subs_ok {a : List UInt8} {lo hi : Int} (h0 : 0 ≤ lo) (h1 : lo ≤ hi) (h2 : hi ≤ a.length) {K : ByteArray → Prop} (k : K (str ((a.drop lo.toNat).take (hi.toNat - lo.toNat)))) : SubsK (str a) lo hi K :=
  ⟨h0, h1, by rw [str_size]; exact h2, by rw [extract_str]; exact k⟩
theorem strk_ok {a : List UInt8} {i : Int} (h0 : 0 ≤ i) (h1 : i < a.length) {K : Int → Prop} (k : K ((a.getD i.toNat 0).toNat : Int)) : StrK (str a) i K := by
  refine ⟨a.getD i.toNat 0, h0, ?_, k⟩
  have hlt : i.toNat < (str a).size := by rw [str_size]; omega
  rw [getElem?_pos (str a) i.toNat hlt, List.getD_eq_getElem?_getD, List.getElem?_eq_getElem (by omega)]
  rfl
theorem hasPrefix_spec (a b : List UInt8) (w : World) : Ret Tryz.prog 244 #[.string (str a), .string (str b)] w fun r w' => r = .bool (decide (a.take b.length = b)) ∧ w = w' := by
  refine c244 _ _ w _ ?_
  unfold C244
  rw [str_size, str_size]
  refine ifB.dec (fun h => ?_) (fun h => ?_)
  · refine subs_ok (by omega) (by omega) (by omega) ?_
    rw [str_beq]
    exact ⟨by simp, rfl⟩
  · refine ⟨?_, rfl⟩
    rw [decide_eq_false]
    intro t
    have := congrArg List.length t
    rw [List.length_take] at this
    omega

/-- What stands behind a '-', if one stands ahead. -/
def noMinus (s : List UInt8) : List UInt8 := if s.take 1 = [45] then s.drop 1 else s
theorem trimPrefix_spec (s : List UInt8) (w : World) : Ret Tryz.prog 219 #[.string (str s), .string (str [45])] w fun r w' => r = .string (str (noMinus s)) ∧ w = w' := by
  refine c219 _ _ w _ ?_
  refine CallK.of (R := fun r w' => r = .string (str (noMinus s)) ∧ w = w') ?_ (by rintro _ _ ⟨rfl, rfl⟩; exact ⟨_, rfl, rfl, rfl⟩)
  refine c232 _ _ w _ ?_
  refine CallK.of (hasPrefix_spec s [45] w) ?_
  rintro _ _ ⟨rfl, rfl⟩
  refine ⟨_, rfl, ?_⟩
  unfold noMinus
  refine ifB.dec (fun h => ?_) (fun h => ?_)
  · have h : s.take 1 = [45] := h
    have hl : 1 ≤ s.length := by
      have := congrArg List.length h
      rw [List.length_take] at this
      simp only [List.length_cons, List.length_nil] at this
      omega
    rw [if_pos h, str_size, str_size]
    refine subs_ok (by simp) (by simp only [List.length_cons, List.length_nil]; omega) (by omega) ?_
    refine ⟨?_, rfl⟩
    rw [List.take_of_length_le (by simp)]
    rfl
  · have h : ¬ s.take 1 = [45] := h
    rw [if_neg h]; exact ⟨rfl, rfl⟩

/-! ### Sets of bytes -/
def setA (cs : List UInt8) : List Value := (List.range 256).map fun c => .bool (decide (c ∈ cs.map (·.toNat)))
theorem setA_len (cs : List UInt8) : (setA cs).length = 256 := by unfold setA; simp
theorem setA_at (cs : List UInt8) {c : Nat} (h : c < 256) : (setA cs)[c]? = some (.bool (decide (c ∈ cs.map (·.toNat)))) := by
  unfold setA
  rw [List.getElem?_map, List.getElem?_range h]
  rfl
theorem setA_one (cs : List UInt8) : (setA cs).all one1 = true := by
  rw [List.all_eq_true]
  intro v hv
  obtain ⟨c, _, rfl⟩ := List.mem_map.1 hv
  rfl
theorem setA_snoc (cs : List UInt8) (c : UInt8) : (setA cs).set c.toNat (.bool true) = setA (cs ++ [c]) := by
  refine List.ext_getElem? fun i => ?_
  by_cases hi : i < 256
  · rw [setA_at _ hi, List.getElem?_set]
    by_cases hc : c.toNat = i
    · rw [if_pos hc, if_pos (by rw [setA_len, hc]; exact hi)]
      simp [hc]
    · rw [if_neg hc, setA_at _ hi]
      congr 2
      refine decide_eq_decide.2 ?_
      rw [List.map_append, List.mem_append]
      simp only [List.map_cons, List.map_nil, List.mem_singleton]
      exact ⟨.inl, fun t => t.elim id (fun t => absurd t.symm hc)⟩
  · rw [List.getElem?_eq_none (by rw [List.length_set, setA_len]; omega), List.getElem?_eq_none (by rw [setA_len]; omega)]

def IsSet (w : World) (g : Nat) (cs : List UInt8) : Prop := w.heap[g]? = some (.cells (setA cs).toArray 358 (0, 0))
theorem IsSet.lda {w : World} {g : Nat} {cs : List UInt8} (h : IsSet w g cs) {K : List Value → Prop} (k : K (setA cs)) : LdaK 256 (⟨g, 0, none⟩ : Addr) w K :=
  ⟨setA cs, setA_len cs, cellsAt_all h _ 0 fun j _ => by simp, k⟩

theorem contains_spec {w : World} {g : Nat} {cs : List UInt8} (h : IsSet w g cs) (c : UInt8) : Ret Tryz.prog 245 #[.pointer (some ⟨g, 0, none⟩), .int .u8 (c.toNat : Int)] w fun r w' => r = .bool (decide (c ∈ cs)) ∧ w = w' := by
  refine c245 _ _ w _ ?_
  have hc := UInt8.toNat_lt c
  refine ⟨by omega, by omega, ?_⟩
  rw [addr_add, Nat.mul_one, Int.toNat_natCast, Nat.zero_add]
  refine LdK.of h (x := decide (c ∈ cs)) ?_ ⟨rfl, rfl⟩
  rw [List.getElem?_toArray, setA_at _ (by omega)]
  congr 2
  refine decide_eq_decide.2 ?_
  rw [List.mem_map]
  constructor
  · rintro ⟨d, hd, e⟩
    rwa [← UInt8.toNat_inj.1 e]
  · intro t; exact ⟨c, t, rfl⟩

theorem makeSet_spec (cs : List UInt8) (hcs : ∀ c ∈ cs, c.toNat < 128) (hl : cs.length ≤ 1000) (w : World) : Ret Tryz.prog 235 #[.string (str cs)] w fun r w' => r = .tuple #[.agg (setA cs).toArray, .bool true] ∧ Fr none1 w w' := by
  refine c235 _ w _ ?_
  unfold C235
  refine NewK.of fun g w1 hg hg1 f1 _ => ?_
  have h1 : IsSet w1 g [] := hg1
  have F1 : Fr (only g) w1 w1 := Fr.refl _ _
  refine LoopK.of (fun s w' => ∃ n : Nat, s.1 = n ∧ n ≤ cs.length ∧ IsSet w' g (cs.take n) ∧ Fr (only g) w1 w') (fun s _ => cs.length - s.1.toNat) ⟨0, rfl, by omega, h1, F1⟩ ?_
  rintro _ ⟨i, _⟩ w2 ⟨n, hn, hnl, h2, f2⟩
  dsimp only at hn ⊢
  subst hn
  rw [str_size]
  refine ifB.dec (fun hlt => ?_) (fun hge => ?_)
  · refine strk_ok (by omega) (by omega) ?_
    rw [Int.toNat_natCast]
    have hmem : cs.getD n 0 ∈ cs := by
      rw [List.getD_eq_getElem?_getD, List.getElem?_eq_getElem (by omega)]
      exact List.getElem_mem _
    have hc := hcs _ hmem
    refine ifB.no (by omega) ?_
    refine ⟨by omega, by omega, ?_⟩
    rw [addr_add, Nat.mul_one, Int.toNat_natCast, Nat.zero_add]
    refine StK.of h2 (by rw [List.size_toArray, setA_len]; omega) rfl fun w3 h3 f3 _ => ?_
    rw [wI (x := (n : Int) + 1) (by omega) (by omega)]
    refine ⟨⟨n + 1, by omega, by omega, ?_, f2.trans f3⟩, by omega⟩
    unfold IsSet
    rw [h3, List.setIfInBounds_toArray, setA_snoc]
    have : cs.take n ++ [cs.getD n 0] = cs.take (n + 1) := by
      rw [List.take_succ_eq_append_getElem (by omega), List.getD_eq_getElem?_getD, List.getElem?_eq_getElem (by omega)]
      rfl
    rw [this]
  · have : n = cs.length := by omega
    subst this
    rw [List.take_length] at h2
    refine h2.lda ?_
    refine ⟨setA_len cs, StsK.blk h2 rfl (setA_one cs) fun w3 h3 f3 _ => ?_⟩
    have h3 : IsSet w3 g cs := h3
    refine h3.lda ⟨rfl, (f1.fresh f2 (by omega)).fresh f3 (by omega)⟩

theorem trimRight_spec {w : World} {g : Nat} {cs : List UInt8} (h : IsSet w g cs) (s : List UInt8) (hl : s.length ≤ 1000000) : Ret Tryz.prog 237 #[.string (str s), .pointer (some ⟨g, 0, none⟩)] w fun r w' =>
    (∃ t u, r = .string (str t) ∧ s = t ++ u ∧ (∀ c ∈ u, c ∈ cs) ∧ (t = [] ∨ ¬ t.getD (t.length - 1) 0 ∈ cs)) ∧ w = w' := by
  refine c237 _ _ w _ ?_
  refine LoopK.of (fun q w' => w = w' ∧ ∃ t u, q.1 = str t ∧ s = t ++ u ∧ ∀ c ∈ u, c ∈ cs) (fun q _ => q.1.size) ⟨rfl, s, [], rfl, by simp, by simp⟩ ?_
  rintro _ ⟨q, _⟩ _ ⟨rfl, t, u, hq, hs, hu⟩
  dsimp only at hq ⊢
  subst hq
  have htl : t.length ≤ s.length := by rw [hs, List.length_append]; omega
  rw [str_size]
  refine ifB.dec (fun hpos => ?_) (fun hz => ?_)
  · rw [wI (x := (t.length : Int) - 1) (by omega) (by omega)]
    refine strk_ok (by omega) (by omega) ?_
    rw [show ((t.length : Int) - 1).toNat = t.length - 1 by omega]
    refine CallK.of (contains_spec h _) ?_
    rintro _ _ ⟨rfl, rfl⟩
    refine ⟨_, rfl, ?_⟩
    by_cases hc : t.getD (t.length - 1) 0 ∈ cs
    · refine ifB.f (by rw [decide_eq_true hc]; rfl) ?_
      refine subs_ok (by omega) (by omega) (by omega) ?_
      have e : (t.drop (0 : Int).toNat).take (((t.length : Int) - 1).toNat - (0 : Int).toNat) = t.take (t.length - 1) := by
        rw [show (0 : Int).toNat = 0 from rfl, List.drop_zero, show ((t.length : Int) - 1).toNat - 0 = t.length - 1 by omega]
      rw [e]
      refine ⟨⟨rfl, t.take (t.length - 1), t.getD (t.length - 1) 0 :: u, rfl, ?_, fun c hc' => ?_⟩, ?_⟩
      · rw [hs]
        have : t = t.take (t.length - 1) ++ [t.getD (t.length - 1) 0] := by
          conv => lhs; rw [← List.take_length (l := t), show t.length = (t.length - 1) + 1 by omega, List.take_succ_eq_append_getElem (by omega)]
          rw [List.getD_eq_getElem?_getD, List.getElem?_eq_getElem (by omega)]
          rfl
        conv => lhs; rw [this]
        simp
      · rcases List.mem_cons.1 hc' with t' | t'
        · rw [t']; exact hc
        · exact hu c t'
      · rw [str_size, List.length_take]; omega
    · refine ifB.t (by rw [decide_eq_false hc]; rfl) ⟨⟨t, u, rfl, hs, hu, .inr hc⟩, rfl⟩
  · exact ⟨⟨t, u, rfl, hs, hu, .inl (List.eq_nil_of_length_eq_zero (by omega))⟩, rfl⟩

theorem trimLeft_spec {w : World} {g : Nat} {cs : List UInt8} (h : IsSet w g cs) (s : List UInt8) (hl : s.length ≤ 1000000) : Ret Tryz.prog 236 #[.string (str s), .pointer (some ⟨g, 0, none⟩)] w fun r w' =>
    (∃ t u, r = .string (str t) ∧ s = u ++ t ∧ (∀ c ∈ u, c ∈ cs) ∧ (t = [] ∨ ¬ t.getD 0 0 ∈ cs)) ∧ w = w' := by
  refine c236 _ _ w _ ?_
  refine LoopK.of (fun q w' => w = w' ∧ ∃ t u, q.1 = str t ∧ s = u ++ t ∧ ∀ c ∈ u, c ∈ cs) (fun q _ => q.1.size) ⟨rfl, s, [], rfl, by simp, by simp⟩ ?_
  rintro _ ⟨q, _⟩ _ ⟨rfl, t, u, hq, hs, hu⟩
  dsimp only at hq ⊢
  subst hq
  have htl : t.length ≤ s.length := by rw [hs, List.length_append]; omega
  rw [str_size]
  refine ifB.dec (fun hpos => ?_) (fun hz => ?_)
  · refine strk_ok (by omega) (by omega) ?_
    rw [show (0 : Int).toNat = 0 from rfl]
    refine CallK.of (contains_spec h _) ?_
    rintro _ _ ⟨rfl, rfl⟩
    refine ⟨_, rfl, ?_⟩
    by_cases hc : t.getD 0 0 ∈ cs
    · refine ifB.f (by rw [decide_eq_true hc]; rfl) ?_
      refine subs_ok (by omega) (by omega) (by omega) ?_
      have e : (t.drop (1 : Int).toNat).take (((t.length : Nat) : Int).toNat - (1 : Int).toNat) = t.drop 1 := by
        rw [show (1 : Int).toNat = 1 from rfl, List.take_of_length_le (by rw [List.length_drop]; omega)]
      rw [e]
      refine ⟨⟨rfl, t.drop 1, u ++ [t.getD 0 0], rfl, ?_, fun c hc' => ?_⟩, ?_⟩
      · rw [hs]
        cases t with
        | nil => simp at hpos
        | cons x t => simp
      · rcases List.mem_append.1 hc' with t' | t'
        · exact hu c t'
        · simp only [List.mem_singleton] at t'; rw [t']; exact hc
      · rw [str_size, List.length_drop]; omega
    · refine ifB.t (by rw [decide_eq_false hc]; rfl) ⟨⟨t, u, rfl, hs, hu, .inr hc⟩, rfl⟩
  · exact ⟨⟨t, u, rfl, hs, hu, .inl (List.eq_nil_of_length_eq_zero (by omega))⟩, rfl⟩

/-- Trim gives the empty text just where all is of the set. -/
theorem trim_spec (s cs : List UInt8) (hne : s ≠ []) (hcs : ∀ c ∈ cs, c.toNat < 128) (h2 : 2 ≤ cs.length) (hcl : cs.length ≤ 1000) (hl : s.length ≤ 1000000) (w : World) : Ret Tryz.prog 220 #[.string (str s), .string (str cs)] w fun r w' =>
    (∃ v, r = .string (str v) ∧ (v = [] ↔ ∀ c ∈ s, c ∈ cs)) ∧ Fr none1 w w' := by
  refine c220 _ _ w _ ?_
  unfold C220
  have e0 : (⟨#[]⟩ : ByteArray) = str [] := rfl
  rw [e0, str_beq, str_beq]
  refine ifB.no hne (ifB.no (fun t => by rw [t] at h2; simp at h2) ?_)
  refine JoinK.of (fun q w' => q.1 = false ∧ w = w') ?_ ?_
  · refine ifB.f ?_ ⟨rfl, rfl⟩
    rw [str_size, beq_eq_false_iff_ne]; omega
  rintro _ ⟨q, _⟩ _ ⟨hq, rfl⟩
  dsimp only at hq
  subst hq
  refine ifB.f rfl ?_
  refine CallK.of (makeSet_spec cs hcs hcl w) ?_
  rintro _ w1 ⟨rfl, f1⟩
  refine ⟨(setA cs, true, ()), rfl, ?_⟩
  refine NewK.of fun g w2 hg hg2 f2 _ => ?_
  have h2' : IsSet w2 g [] := hg2
  refine ⟨setA_len cs, StsK.blk h2' (by rw [setA_len, setA_len]) (setA_one cs) fun w3 h3 f3 _ => ?_⟩
  have h3 : IsSet w3 g cs := h3
  refine ifB.t rfl ?_
  refine CallK.of (trimRight_spec h3 s hl) ?_
  rintro _ _ ⟨⟨t, u, rfl, hs, hu, ht⟩, rfl⟩
  refine ⟨_, rfl, ?_⟩
  have htl : t.length ≤ s.length := by rw [hs, List.length_append]; omega
  refine CallK.of (trimLeft_spec h3 t (by omega)) ?_
  rintro _ _ ⟨⟨v, u', rfl, ht', hu', hv⟩, rfl⟩
  refine ⟨_, rfl, ⟨v, rfl, ?_⟩, f1.trans (f2.fresh f3 (by omega))⟩
  constructor
  · intro hv0 c hc
    rw [hs, ht', hv0, List.append_nil] at hc
    rcases List.mem_append.1 hc with hc | hc
    · exact hu' c hc
    · exact hu c hc
  · intro hall
    rcases hv with hv | hv
    · exact hv
    · cases v with
      | nil => rfl
      | cons x v =>
        refine absurd (hall x ?_) hv
        rw [hs, ht']; simp

/-! ### Atoi -/
def isD (c : UInt8) : Bool := decide (48 ≤ c.toNat) && decide (c.toNat ≤ 57)
def digsT : List UInt8 := [48, 49, 50, 51, 52, 53, 54, 55, 56, 57]
theorem mem_digsT (c : UInt8) : c ∈ digsT ↔ isD c = true := by
  have hc := UInt8.toNat_lt c
  constructor
  · intro h
    have h : c = 48 ∨ c = 49 ∨ c = 50 ∨ c = 51 ∨ c = 52 ∨ c = 53 ∨ c = 54 ∨ c = 55 ∨ c = 56 ∨ c = 57 := by simpa [digsT] using h
    rcases h with h | h | h | h | h | h | h | h | h | h <;> subst h <;> rfl
  · intro h
    have h : 48 ≤ c.toNat ∧ c.toNat ≤ 57 := by simpa [isD] using h
    obtain ⟨n, hn⟩ : ∃ n, c.toNat = n := ⟨_, rfl⟩
    have e : c = UInt8.ofNat n := by rw [← hn]; exact (UInt8.ofNat_toNat).symm
    have : n = 48 ∨ n = 49 ∨ n = 50 ∨ n = 51 ∨ n = 52 ∨ n = 53 ∨ n = 54 ∨ n = 55 ∨ n = 56 ∨ n = 57 := by omega
    rcases this with t | t | t | t | t | t | t | t | t | t <;> (rw [t] at e; rw [e]; decide)
def valL (d : List UInt8) : Int := d.foldl (fun n c => n * 10 + ((c.toNat : Int) - 48)) 0
theorem valL_snoc (d : List UInt8) (c : UInt8) : valL (d ++ [c]) = valL d * 10 + ((c.toNat : Int) - 48) := by unfold valL; rw [List.foldl_append]; rfl
theorem foldl_val : ∀ (d : List UInt8) (n : Int), 0 ≤ n → (∀ c ∈ d, isD c = true) → 0 ≤ d.foldl (fun n c => n * 10 + ((c.toNat : Int) - 48)) n ∧ d.foldl (fun n c => n * 10 + ((c.toNat : Int) - 48)) n < (n + 1) * ((10 ^ d.length : Nat) : Int)
  | [], n, h0, _ => by simp; omega
  | c :: d, n, h0, h => by
    have hc : 48 ≤ c.toNat ∧ c.toNat ≤ 57 := by simpa [isD] using h c (by simp)
    obtain ⟨i1, i2⟩ := foldl_val d (n * 10 + ((c.toNat : Int) - 48)) (by omega) (fun x hx => h x (by simp [hx]))
    refine ⟨i1, Int.lt_of_lt_of_le i2 ?_⟩
    have e : (n + 1) * ((10 ^ (c :: d).length : Nat) : Int) = (n * 10 + 10) * ((10 ^ d.length : Nat) : Int) := by
      rw [List.length_cons, Nat.pow_succ, Int.natCast_mul, Int.mul_comm ((10 ^ d.length : Nat) : Int), ← Int.mul_assoc]
      congr 1
      omega
    rw [e]
    exact Int.mul_le_mul_of_nonneg_right (by omega) (Int.natCast_nonneg _)
theorem valL_bound (d : List UInt8) (h : ∀ c ∈ d, isD c = true) (hl : d.length ≤ 18) : 0 ≤ valL d ∧ valL d < 1000000000000000000 := by
  obtain ⟨a, b⟩ := foldl_val d 0 (Int.le_refl _) h
  have : 10 ^ d.length ≤ 10 ^ 18 := Nat.pow_le_pow_right (by decide) hl
  unfold valL
  omega

theorem bytes_of {w : World} (s : List UInt8) : ∃ (v : Sl) (w' : World), (convert 9 38 (.string (str s))).run Tryz.prog w = .ok (.slice v.1 v.2.1 v.2.2) w' ∧ RdSl w' 1 v (s.map fun b => Value.int .u8 (b.toNat : Int)) ∧ v.2.1 = s.length ∧ Fr none1 w w' := by
  refine ⟨(some ⟨w.heap.size, 0, none⟩, (str s).size, _), _, run_bytes_of_string w 9 38 5 (str s) Tryz.underlying9 Tryz.underlying38 Tryz.underlying5, ?_, str_size s, ?_⟩
  · refine ⟨by rw [List.length_map, Nat.mul_one]; exact (str_size s).symm, (fun t => nomatch t), fun a ha => ?_⟩
    injection ha with ha
    subst ha
    refine cellsAt_all (Array.getElem?_push_size ..) _ 0 fun j hj => ?_
    rw [List.length_map] at hj
    unfold bytesRow
    rw [Nat.zero_add, Array.getElem?_append_left (by unfold str; simpa using hj)]
    unfold str
    simp
  · exact (drew_fr w).trans (push_fr _ _)

theorem iatoi_spec (s d : List UInt8) (neg : Bool) (hs : s = (if neg then 45 :: d else d)) (hne : d ≠ []) (hd : ∀ c ∈ d, isD c = true) (hl : s.length < 19) (w : World) :
    Ret Tryz.prog 240 #[.string (str s)] w fun r w' => r = .tuple #[.int .i64 (if neg then -(valL d) else valL d), .nilIface] ∧ Fr none1 w w' := by
  refine c240 _ w _ ?_
  unfold C240
  have hdl : 0 < d.length := List.length_pos_iff.2 hne
  have hsl : s.length = d.length + (if neg then 1 else 0) := by rw [hs]; cases neg <;> simp
  have hd18 : d.length ≤ 18 := by omega
  have h0 : 0 < s.length := by omega
  have hd0 : 48 ≤ (d.getD 0 0).toNat ∧ (d.getD 0 0).toNat ≤ 57 := by
    have : isD (d.getD 0 0) = true := hd _ (by rw [List.getD_eq_getElem?_getD, List.getElem?_eq_getElem hdl]; exact List.getElem_mem _)
    simpa [isD] using this
  have hs0 : ((s.getD 0 0).toNat = 45 ∧ neg = true) ∨ (48 ≤ (s.getD 0 0).toNat ∧ (s.getD 0 0).toNat ≤ 57 ∧ neg = false) := by
    rw [hs]
    cases neg with
    | true => exact .inl ⟨rfl, rfl⟩
    | false => exact .inr ⟨hd0.1, hd0.2, rfl⟩
  refine JoinK.of (fun q w' => q.1 = true ∧ w = w') ?_ ?_
  · rw [str_size]
    refine ifB.yes (by omega) ⟨decide_eq_true (by omega), rfl⟩
  rintro _ ⟨q, _⟩ _ ⟨hq, rfl⟩
  dsimp only at hq
  subst hq
  refine ifB.t rfl ?_
  refine JoinK.of (fun q w' => q.1 = str d ∧ w = w') ?_ ?_
  · refine JoinK.of (fun q w' => q.1 = neg ∧ w = w') ?_ ?_
    · refine strk_ok (by omega) (by omega) ?_
      rw [show (0 : Int).toNat = 0 from rfl]
      refine ifB.eq (fun h => ?_) (fun h => ?_)
      · refine ⟨?_, rfl⟩
        rcases hs0 with ⟨_, hn⟩ | ⟨h1, _, _⟩
        · exact hn.symm
        · omega
      · refine strk_ok (by omega) (by omega) ⟨?_, rfl⟩
        rw [show (0 : Int).toNat = 0 from rfl]
        rcases hs0 with ⟨h1, _⟩ | ⟨h1, _, hn⟩
        · omega
        · rw [hn]; simp only [beq_eq_false_iff_ne]; omega
    rintro _ ⟨q, _⟩ _ ⟨hq, rfl⟩
    dsimp only at hq
    subst hq
    refine ifB.by (fun hn => ?_) (fun hn => ?_)
    · subst hn
      refine subs_ok (by omega) (by rw [str_size]; omega) (by rw [str_size]; omega) ?_
      have e : (s.drop (1 : Int).toNat).take (((str s).size : Int).toNat - (1 : Int).toNat) = d := by
        rw [str_size, hs]
        simp
      rw [e, str_size]
      refine ifB.no (by omega) ⟨rfl, rfl⟩
    · subst hn
      refine ⟨?_, rfl⟩
      show str s = str d
      rw [hs]; rfl
  rintro _ ⟨q, _⟩ _ ⟨hq, rfl⟩
  dsimp only at hq
  subst hq
  obtain ⟨v, w1, r1, hv, hvl, f1⟩ := bytes_of (w := w) d
  refine ⟨v, w1, r1, ?_⟩
  refine LoopK.of (fun q w' => w1 = w' ∧ ∃ n : Nat, q.2.1 = n ∧ n ≤ d.length ∧ q.1 = valL (d.take n)) (fun q _ => d.length - q.2.1.toNat) ⟨rfl, 0, rfl, by omega, rfl⟩ ?_
  rintro _ ⟨m, i, _⟩ _ ⟨rfl, n, hn, hnl, hm⟩
  dsimp only at hn hm ⊢
  subst hn; subst hm
  refine ifB.dec (fun hlt => ?_) (fun hge => ?_)
  · have hmem : d.getD n 0 ∈ d := by rw [List.getD_eq_getElem?_getD, List.getElem?_eq_getElem (by omega)]; exact List.getElem_mem _
    have hc : 48 ≤ (d.getD n 0).toNat ∧ (d.getD n 0).toNat ≤ 57 := by simpa [isD] using hd _ hmem
    refine RdSl.ld hv (by omega) hlt (x := ((d.getD n 0).toNat : Int)) (by rw [Int.toNat_natCast, List.getElem?_map, List.getD_eq_getElem?_getD, List.getElem?_eq_getElem (by omega)]; rfl) ?_
    have e1 : IntKind.u8.wrap (((d.getD n 0).toNat : Int) - 48) = ((d.getD n 0).toNat : Int) - 48 := by rw [IntKind.wrap_u8]; omega
    rw [e1]
    refine ifB.no (by omega) ?_
    obtain ⟨b1, b2⟩ := valL_bound (d.take n) (fun c hc => hd c (List.mem_of_mem_take hc)) (by rw [List.length_take]; omega)
    rw [wI (x := ((d.getD n 0).toNat : Int) - 48) (by omega) (by omega)]
    obtain ⟨b3, b4⟩ := valL_bound (d.take (n + 1)) (fun c hc => hd c (List.mem_of_mem_take hc)) (by rw [List.length_take]; omega)
    have e2 : d.take (n + 1) = d.take n ++ [d.getD n 0] := by
      rw [List.take_succ_eq_append_getElem (by omega), List.getD_eq_getElem?_getD, List.getElem?_eq_getElem (by omega)]; rfl
    rw [e2, valL_snoc] at b3 b4
    rw [wI (x := valL (d.take n) * 10) (by omega) (by omega), wI (x := valL (d.take n) * 10 + (((d.getD n 0).toNat : Int) - 48)) (by omega) (by omega), wI (x := (n : Int) + 1) (by omega) (by omega)]
    refine ⟨⟨rfl, n + 1, by omega, by omega, ?_⟩, by omega⟩
    rw [e2, valL_snoc]
  · have : n = d.length := by omega
    subst this
    rw [List.take_length]
    obtain ⟨b1, b2⟩ := valL_bound d hd hd18
    refine strk_ok (by omega) (by omega) ?_
    rw [show (0 : Int).toNat = 0 from rfl]
    rcases hs0 with ⟨h1, hn⟩ | ⟨h1, h2, hn⟩
    · subst hn
      refine ifB.t (by rw [h1]; rfl) ?_
      rw [wI (x := 0 - valL d) (by omega) (by omega), Int.zero_sub]
      exact ⟨rfl, f1⟩
    · subst hn
      refine ifB.f (by simp only [beq_eq_false_iff_ne]; omega) ⟨rfl, f1⟩

theorem nil_ne {t : TypeId} (ht : ∃ ms, Tryz.prog.underlying t = some (.interface ms)) (o : Operand) (w : World) :
    (do eqGuard .neq t o (.const .nilIface) .nilIface .nilIface; binOp .neq t .nilIface .nilIface : Sem Value).run Tryz.prog w = .ok (.bool false) w := by
  obtain ⟨ms, ht⟩ := ht
  have h1 : (eqGuard .neq t o (.const .nilIface) .nilIface .nilIface).run Tryz.prog w = .ok () w := by
    unfold eqGuard
    simp
  rw [Sem.run_bind, h1, Result.andThen_ok]
  have h2 : (Op.equalIn (9999 + 1) t .nilIface .nilIface).run Tryz.prog w = .ok true w := by
    unfold Op.equalIn
    simp only [Sem.run_bind, under ht, Result.andThen_ok, Sem.run_pure]
  show (do pure (Value.bool (!(← Op.equalIn (9999 + 1) t .nilIface .nilIface))) : Sem Value).run Tryz.prog w = _
  rw [Sem.run_bind, h2]
  rfl

theorem atoi_spec (s d : List UInt8) (neg : Bool) (hs : s = (if neg then 45 :: d else d)) (hne : d ≠ []) (hd : ∀ c ∈ d, isD c = true) (hl : s.length < 19) (w : World) :
    Ret Tryz.prog 221 #[.string (str s)] w fun r w' => r = .tuple #[.int .i64 (if neg then -(valL d) else valL d), .nilIface] ∧ Fr none1 w w' := by
  refine c221 _ w _ ?_
  refine CallK.of (iatoi_spec s d neg hs hne hd hl w) ?_
  rintro _ w1 ⟨rfl, f1⟩
  refine ⟨(_, .nilIface, ()), rfl, ?_⟩
  refine ⟨false, w1, nil_ne ⟨_, Tryz.underlying326⟩ _ w1, ifB.f rfl ⟨rfl, f1⟩⟩

/-! ### A number out of a text -/
def numF (s : List UInt8) : Int × Bool :=
  if noMinus s = [] ∨ 13 < (noMinus s).length ∨ (noMinus s).all isD = false ∨ ((noMinus s).getD 0 0 = 48 ∧ s ≠ [48]) then (0, false) else
  if 1000000000000 < valL (noMinus s) then (0, false) else (if s.take 1 = [45] then -(valL (noMinus s)) else valL (noMinus s), true)

theorem number_spec (s : List UInt8) (hl : s.length ≤ 100000) (w : World) : Ret Tryz.prog 203 #[.string (str s)] w fun r w' => r = .tuple #[.int .i64 (numF s).1, .bool (numF s).2] ∧ Fr none1 w w' := by
  refine c203 _ w _ ?_
  unfold C203
  have e0 : (⟨#[]⟩ : ByteArray) = str [] := rfl
  have e45 : (⟨#[45]⟩ : ByteArray) = str [45] := rfl
  have e48 : (⟨#[48]⟩ : ByteArray) = str [48] := rfl
  have ed : (⟨#[48, 49, 50, 51, 52, 53, 54, 55, 56, 57]⟩ : ByteArray) = str digsT := rfl
  rw [e0, e45, e48, ed]
  refine CallK.of (trimPrefix_spec s w) ?_
  rintro _ _ ⟨rfl, rfl⟩
  refine ⟨_, rfl, ?_⟩
  have hdl : (noMinus s).length ≤ s.length := by unfold noMinus; split <;> simp
  refine JoinK.of (fun q w' => q.1 = decide (noMinus s = [] ∨ 13 < (noMinus s).length ∨ (noMinus s).all isD = false ∨ ((noMinus s).getD 0 0 = 48 ∧ s ≠ [48])) ∧ Fr none1 w w') ?_ ?_
  · rw [str_beq]
    refine ifB.dec (fun h => ?_) (fun h => ?_)
    · exact ⟨(decide_eq_true (.inl h)).symm, Fr.refl _ _⟩
    rw [str_size]
    refine ifB.dec (fun h2 => ?_) (fun h2 => ?_)
    · exact ⟨(decide_eq_true (.inr (.inl (by omega)))).symm, Fr.refl _ _⟩
    refine CallK.of (trim_spec (noMinus s) digsT h (by decide) (by decide) (by decide) (by omega) w) ?_
    rintro _ w1 ⟨⟨v, rfl, hv⟩, f1⟩
    refine ⟨_, rfl, ?_⟩
    rw [str_beq]
    have hall : v = [] ↔ (noMinus s).all isD = true := by
      rw [hv, List.all_eq_true]
      exact ⟨fun t c hc => (mem_digsT c).1 (t c hc), fun t c hc => (mem_digsT c).2 (t c hc)⟩
    by_cases hv0 : v = []
    · refine ifB.f (by simp [hv0]) ?_
      have ha := hall.1 hv0
      have hpos : 0 < (noMinus s).length := List.length_pos_iff.2 h
      refine strk_ok (by omega) (by omega) ?_
      rw [show (0 : Int).toNat = 0 from rfl]
      refine ifB.eq (fun h48 => ?_) (fun h48 => ?_)
      · refine ⟨?_, f1⟩
        have h48' : (noMinus s).getD 0 0 = 48 := UInt8.toNat_inj.1 (by have : (48 : UInt8).toNat = 48 := rfl
                                                                       omega)
        rw [str_beq]
        by_cases hs48 : s = [48]
        · rw [decide_eq_true hs48, decide_eq_false]
          · rfl
          · rintro (t | t | t | t)
            · exact h t
            · omega
            · rw [ha] at t; cases t
            · exact t.2 hs48
        · rw [decide_eq_false hs48, decide_eq_true (.inr (.inr (.inr ⟨h48', hs48⟩)))]; rfl
      · refine ⟨?_, f1⟩
        rw [decide_eq_false]
        rintro (t | t | t | t)
        · exact h t
        · omega
        · rw [ha] at t; cases t
        · exact h48 (by rw [t.1]; rfl)
    · refine ifB.t (by simp [hv0]) ⟨?_, f1⟩
      refine (decide_eq_true (.inr (.inr (.inl ?_)))).symm
      have := fun t => hv0 (hall.2 t)
      simpa using this
  rintro _ ⟨q, _⟩ w1 ⟨hq, f1⟩
  dsimp only at hq
  subst hq
  unfold numF
  refine ifB.dec (fun h => ?_) (fun h => ?_)
  · rw [if_pos h]; exact ⟨rfl, f1⟩
  rw [if_neg h]
  have hne : noMinus s ≠ [] := fun t => h (.inl t)
  have h13 : (noMinus s).length ≤ 13 := by
    by_cases t : 13 < (noMinus s).length
    · exact absurd (.inr (.inl t)) h
    · omega
  have hall : ∀ c ∈ noMinus s, isD c = true := by
    have : (noMinus s).all isD = true := by
      cases ha : (noMinus s).all isD with
      | true => rfl
      | false => exact absurd (.inr (.inr (.inl ha))) h
    exact List.all_eq_true.1 this
  have hsn : s = (if decide (s.take 1 = [45]) then 45 :: noMinus s else noMinus s) := by
    unfold noMinus
    by_cases t : s.take 1 = [45]
    · rw [if_pos (decide_eq_true t), if_pos t]
      conv => lhs; rw [← List.take_append_drop 1 s, t]
      rfl
    · rw [if_neg (by simpa using t), if_neg t]
  have hsl : s.length ≤ 14 := by
    rw [hsn]
    split
    · simp only [List.length_cons]; omega
    · omega
  obtain ⟨b1, b2⟩ := valL_bound (noMinus s) hall (by omega)
  by_cases hn : s.take 1 = [45]
  · rw [if_pos (decide_eq_true hn)] at hsn
    rw [if_pos hn]
    refine CallK.of (atoi_spec s (noMinus s) true hsn hne hall (by omega) w1) ?_
    rintro _ w2 ⟨rfl, f2⟩
    refine ⟨(-(valL (noMinus s)), .nilIface, ()), rfl, ?_⟩
    refine ⟨false, w2, nil_ne ⟨_, Tryz.underlying326⟩ _ w2, ifB.f rfl ?_⟩
    have f12 := f1.trans f2
    refine ifB.dec (fun h1 => ?_) (fun h1 => ?_)
    · rw [if_pos (by omega)]; exact ⟨rfl, f12⟩
    · rw [if_neg (by omega)]
      refine ifB.no (by omega) ⟨rfl, f12⟩
  · rw [if_neg (by simpa using hn)] at hsn
    rw [if_neg hn]
    refine CallK.of (atoi_spec s (noMinus s) false hsn hne hall (by omega) w1) ?_
    rintro _ w2 ⟨rfl, f2⟩
    refine ⟨(valL (noMinus s), .nilIface, ()), rfl, ?_⟩
    refine ⟨false, w2, nil_ne ⟨_, Tryz.underlying326⟩ _ w2, ifB.f rfl ?_⟩
    have f12 := f1.trans f2
    refine ifB.no (by omega) ?_
    refine ifB.dec (fun h1 => ?_) (fun h1 => ?_)
    · rw [if_pos (by omega)]; exact ⟨rfl, f12⟩
    · rw [if_neg (by omega)]; exact ⟨rfl, f12⟩

end Go.Proofs.YtbadiokobooliaaGreatDoor

/-! ### NumF -/
set_option linter.unusedVariables false
set_option maxRecDepth 100000
namespace Go.Proofs.YtbadiokobooliaaGreatDoor
open Vc

theorem ddec_lo {n : Nat} (h : n < 10) : Lib.decDigits n = [UInt8.ofNat (48 + n)] := Lib.decDigits_one h
theorem ddec_hi {n : Nat} (h : ¬ n < 10) : Lib.decDigits n = Lib.decDigits (n / 10) ++ [UInt8.ofNat (48 + n % 10)] := by rw [Lib.decDigits, dif_neg h]
theorem isD_rg {c : UInt8} (h : isD c = true) : 48 ≤ c.toNat ∧ c.toNat ≤ 57 := by
  unfold isD at h
  simp only [Bool.and_eq_true, decide_eq_true_eq] at h
  exact h

theorem snoc_rec {α : Type} {Q : List α → Prop} (h0 : Q []) (h1 : ∀ l a, Q l → Q (l ++ [a])) (l : List α) : Q l := by
  have : ∀ r : List α, Q r.reverse := fun r => by
    induction r with
    | nil => exact h0
    | cons a r ih => rw [List.reverse_cons]; exact h1 _ _ ih
  have := this l.reverse
  rwa [List.reverse_reverse] at this

theorem valL_nonneg (d : List UInt8) (h : ∀ c ∈ d, isD c = true) : 0 ≤ valL d := (foldl_val d 0 (by omega) h).1
theorem dec_valL : ∀ d : List UInt8, d ≠ [] → (∀ c ∈ d, isD c = true) → (d.getD 0 0 = 48 → d = [48]) → Lib.decDigits (valL d).toNat = d ∧ (d ≠ [48] → 1 ≤ valL d) := by
  intro d
  induction d using snoc_rec with
  | h0 => intro h; exact absurd rfl h
  | h1 e c ih =>
    intro _ hd hz
    have hc := isD_rg (hd c (by simp))
    have hv := valL_snoc e c
    have hcc : UInt8.ofNat (48 + (c.toNat - 48)) = c := by rw [show 48 + (c.toNat - 48) = c.toNat by omega]; exact UInt8.ofNat_toNat
    by_cases he : e = []
    · subst he
      have hv0 : valL [] = 0 := rfl
      rw [List.nil_append] at *
      have : valL [c] = (c.toNat : Int) - 48 := by rw [hv, hv0]; omega
      rw [this]
      refine ⟨?_, fun hne => ?_⟩
      · rw [show ((c.toNat : Int) - 48).toNat = c.toNat - 48 by omega, ddec_lo (by omega), hcc]
      · have : c ≠ 48 := fun t => hne (by rw [t])
        have : c.toNat ≠ 48 := fun t => this (by rw [← UInt8.toNat_inj]; exact t)
        omega
    · have hp : 0 < e.length := List.length_pos_iff.2 he
      have hg : (e ++ [c]).getD 0 0 = e.getD 0 0 := by rw [List.getD_eq_getElem?_getD, List.getElem?_append_left hp, ← List.getD_eq_getElem?_getD]
      have hn48 : e.getD 0 0 ≠ 48 := fun t => by
        have := hz (hg.trans t)
        have := congrArg List.length this
        rw [List.length_append, List.length_singleton, List.length_singleton] at this
        omega
      obtain ⟨i1, i2⟩ := ih he (fun c hc => hd c (by simp [hc])) (fun t => absurd t hn48)
      have hv1 := i2 (fun t => hn48 (by rw [t]; rfl))
      rw [hv]
      refine ⟨?_, fun _ => by omega⟩
      rw [ddec_hi (n := (valL e * 10 + ((c.toNat : Int) - 48)).toNat) (by omega), show (valL e * 10 + ((c.toNat : Int) - 48)).toNat / 10 = (valL e).toNat by omega, i1, show (valL e * 10 + ((c.toNat : Int) - 48)).toNat % 10 = c.toNat - 48 by omega, hcc]

/-- What is read as a number is its digits. -/
theorem numF_inv {s : List UInt8} (h : (numF s).2 = true) : s = Lib.itoa (numF s).1 ∧ -1000000000000 ≤ (numF s).1 ∧ (numF s).1 ≤ 1000000000000 := by
  unfold numF at h ⊢
  split at h
  · cases h
  rename_i hc
  split at h
  · cases h
  rename_i hb
  rw [if_neg hc, if_neg hb]
  simp only [not_or] at hc
  obtain ⟨h1, h2, h3, h4⟩ := hc
  have hd : ∀ c ∈ noMinus s, isD c = true := by
    have : (noMinus s).all isD = true := by cases h : (noMinus s).all isD; exact absurd h h3; rfl
    exact List.all_eq_true.1 this
  have hn := valL_nonneg _ hd
  by_cases hm : s.take 1 = [45]
  · have hs : s = 45 :: noMinus s := by
      unfold noMinus
      rw [if_pos hm]
      cases s with
      | nil => simp at hm
      | cons c l => simp at hm; subst hm; rfl
    have hz : (noMinus s).getD 0 0 ≠ 48 := fun t => h4 ⟨t, fun e => by rw [e] at hm; simp at hm⟩
    obtain ⟨i1, i2⟩ := dec_valL _ h1 hd (fun t => absurd t hz)
    have := i2 (fun t => hz (by rw [t]; rfl))
    rw [if_pos hm]
    refine ⟨?_, by dsimp only; omega, by dsimp only; omega⟩
    dsimp only
    unfold Lib.itoa
    rw [if_pos (by omega), show (-valL (noMinus s)).natAbs = (valL (noMinus s)).toNat by omega, i1]
    exact hs
  · have hs : noMinus s = s := by unfold noMinus; rw [if_neg hm]
    rw [if_neg hm]
    rw [hs] at h1 h2 h3 h4 hb hn hd ⊢
    obtain ⟨i1, i2⟩ := dec_valL s h1 hd (fun t => by
      by_cases e : s = [48]
      · exact e
      · exact absurd ⟨t, e⟩ h4)
    refine ⟨?_, by dsimp only; omega, by dsimp only; omega⟩
    dsimp only
    unfold Lib.itoa
    rw [if_neg (by omega), i1]

end Go.Proofs.YtbadiokobooliaaGreatDoor

/-! ### ReadF -/
set_option linter.unusedVariables false
set_option maxRecDepth 100000
namespace Go.Proofs.YtbadiokobooliaaGreatDoor
open Vc

/-! ### The reader: the signs left, the error's place, the error -/
structure RS where
  l : List SignV
  at_ : Int
  e : Int

def placeF (fin : Int) (s : RS) : Int := match s.l with | x :: _ => x.2 | [] => fin
def failF (fin c : Int) (s : RS) : RS := if s.e = 0 then ⟨s.l, placeF fin s, c⟩ else s
def takeF (fin : Int) (right : List UInt8 → Bool) (s : RS) : List UInt8 × RS :=
  if s.e = 0 then match s.l with
    | [] => ([], ⟨[], fin, 2⟩)
    | x :: l => if right x.1 = true then (x.1, ⟨l, s.at_, 0⟩) else ([], ⟨x :: l, x.2, 2⟩)
  else ([], s)
def mustF (fin : Int) (x : List UInt8) (s : RS) : RS := (takeF fin (fun y => decide (y = x)) s).2
def wordF' (x : List UInt8) : Bool := (numF x).2 || (x == [102, 105, 120] || (x == [97, 100, 100] || (x == [110, 101, 103] || (x == [109, 117, 108] || x == [109, 97, 120]))))
def beginsF (x : List UInt8) : Bool := x == [122, 101, 114, 111] || (x == [111, 110, 101] || (x == [103, 105, 118, 101] || (x == [97, 110, 100] || (x == [111, 114] || (x == [115, 99, 97, 108, 101] || (x == [119, 104, 101, 110] || x == [105, 102]))))))
def dayF (x : List UInt8) : Bool := (numF x).2 && (decide (0 ≤ (numF x).1) && decide ((numF x).1 ≤ 10000))

def pairF (fin : Int) (rec : RS → Ob × RS) (s : RS) : Ob × Ob × RS :=
  ((rec (mustF fin [40] s)).1, (rec (mustF fin [44] (rec (mustF fin [40] s)).2)).1, mustF fin [41] (rec (mustF fin [44] (rec (mustF fin [40] s)).2)).2)
def numK (fin : Int) (rec : RS → Ob × RS) (x : List UInt8) (s : RS) : Ob × RS :=
  if x = [102, 105, 120] then (.fix (takeF fin nameL (mustF fin [40] s)).1, mustF fin [41] (takeF fin nameL (mustF fin [40] s)).2)
  else if x = [110, 101, 103] then (.neg (rec (mustF fin [40] s)).1, mustF fin [41] (rec (mustF fin [40] s)).2)
  else if x = [97, 100, 100] then (.add (pairF fin rec s).1 (pairF fin rec s).2.1, (pairF fin rec s).2.2)
  else if x = [109, 117, 108] then (.mul (pairF fin rec s).1 (pairF fin rec s).2.1, (pairF fin rec s).2.2)
  else if x = [109, 97, 120] then (.max (pairF fin rec s).1 (pairF fin rec s).2.1, (pairF fin rec s).2.2)
  else (.const (numF x).1, s)
def numR (fin : Int) : Nat → RS → Ob × RS
  | 0, s => (.none, failF fin 5 s)
  | n + 1, s => if s.e ≠ 0 then (.none, s) else if (takeF fin wordF' s).1 = [] then (.none, (takeF fin wordF' s).2) else numK fin (numR fin n) (takeF fin wordF' s).1 (takeF fin wordF' s).2

def oneF (fin : Int) (rec : RS → Tm × RS) (s : RS) : Tm × RS := ((rec s).1, mustF fin [41] (rec s).2)
def bothF (fin : Int) (rec : RS → Tm × RS) (s : RS) : Tm × Tm × RS := ((rec s).1, (rec (mustF fin [44] (rec s).2)).1, mustF fin [41] (rec (mustF fin [44] (rec s).2)).2)
/-- Behind a contract's word and its bracket. -/
def conK (fin : Int) (num : RS → Ob × RS) (rec : RS → Tm × RS) (x : List UInt8) (s : RS) : Tm × RS :=
  if x = [111, 110, 101] then (.one (takeF fin nameL s).1, mustF fin [41] (takeF fin nameL s).2)
  else if x = [103, 105, 118, 101] then (.give (oneF fin rec s).1, (oneF fin rec s).2)
  else if x = [97, 110, 100] then (.and (bothF fin rec s).1 (bothF fin rec s).2.1, (bothF fin rec s).2.2)
  else if x = [111, 114] then
    (.or (takeF fin nameL s).1 (bothF fin rec (mustF fin [44] (takeF fin nameL s).2)).1 (bothF fin rec (mustF fin [44] (takeF fin nameL s).2)).2.1, (bothF fin rec (mustF fin [44] (takeF fin nameL s).2)).2.2)
  else if x = [115, 99, 97, 108, 101] then (.scale (num s).1 (oneF fin rec (mustF fin [44] (num s).2)).1, (oneF fin rec (mustF fin [44] (num s).2)).2)
  else if x = [119, 104, 101, 110] then
    (.when (numF (takeF fin dayF s).1).1 (oneF fin rec (mustF fin [44] (takeF fin dayF s).2)).1, (oneF fin rec (mustF fin [44] (takeF fin dayF s).2)).2)
  else (.cond (num s).1 (bothF fin rec (mustF fin [44] (num s).2)).1 (bothF fin rec (mustF fin [44] (num s).2)).2.1, (bothF fin rec (mustF fin [44] (num s).2)).2.2)
def conR (fin : Int) : Nat → RS → Tm × RS
  | 0, s => (.none, failF fin 5 s)
  | n + 1, s => if s.e ≠ 0 then (.none, s) else if (takeF fin beginsF s).1 = [] then (.zero, (takeF fin beginsF s).2) else if (takeF fin beginsF s).1 = [122, 101, 114, 111] then (.zero, (takeF fin beginsF s).2)
      else conK fin (numR fin n) (conR fin n) (takeF fin beginsF s).1 (mustF fin [40] (takeF fin beginsF s).2)

def doneF (fin : Int) (s : RS) : RS := match s.l with | [] => s | _ :: _ => failF fin 2 s
/-- A reader of a text. -/
def endF (bs : List UInt8) : Int := ((runesL bs).length : Int) + 1
def beginF (bs : List UInt8) : RS := if 1000 < bs.length then ⟨[], 0, 5⟩ else if 0 < (sgF [] 0 false (runesL bs)).2 then ⟨(sgF [] 0 false (runesL bs)).1, (sgF [] 0 false (runesL bs)).2, 2⟩ else ⟨(sgF [] 0 false (runesL bs)).1, 0, 0⟩
def conS (bs : List UInt8) : RS := doneF (endF bs) (conR (endF bs) 12 (beginF bs)).2
def readT (bs : List UInt8) : Tm × Int × Int :=
  if (conS bs).e ≠ 0 then (.none, (conS bs).at_, (conS bs).e) else if checkT (conR (endF bs) 12 (beginF bs)).1 ≠ 0 then (.none, (conS bs).at_, checkT (conR (endF bs) 12 (beginF bs)).1) else ((conR (endF bs) 12 (beginF bs)).1, 0, 0)

/-! ### A step -/
theorem takeF_hit {fin : Int} {right : List UInt8 → Bool} {x : SignV} {l : List SignV} {a : Int} (h : right x.1 = true) : takeF fin right ⟨x :: l, a, 0⟩ = (x.1, ⟨l, a, 0⟩) := by
  unfold takeF; simp [h]
theorem takeF_miss {fin : Int} {right : List UInt8 → Bool} {x : SignV} {l : List SignV} {a : Int} (h : ¬ right x.1 = true) : takeF fin right ⟨x :: l, a, 0⟩ = ([], ⟨x :: l, x.2, 2⟩) := by
  unfold takeF; simp [h]
theorem takeF_nil {fin : Int} {right : List UInt8 → Bool} {a : Int} : takeF fin right ⟨[], a, 0⟩ = ([], ⟨[], fin, 2⟩) := by
  unfold takeF; simp
theorem takeF_err {fin : Int} {right : List UInt8 → Bool} {s : RS} (h : s.e ≠ 0) : takeF fin right s = ([], s) := by
  unfold takeF; rw [if_neg h]
theorem failF_err {fin c : Int} {s : RS} (h : s.e ≠ 0) : failF fin c s = s := by unfold failF; rw [if_neg h]

/-- From s to s' these signs are taken. -/
structure Ate (s : RS) (ts : List (List UInt8)) (s' : RS) : Prop where
  e : s.e = 0
  e' : s'.e = 0
  at_ : s'.at_ = s.at_
  eat : ∃ xs : List SignV, s.l = xs ++ s'.l ∧ xs.map Prod.fst = ts

theorem Ate.trans {s s1 s2 : RS} {a b : List (List UInt8)} (h : Ate s a s1) (k : Ate s1 b s2) : Ate s (a ++ b) s2 := by
  obtain ⟨xs, hx, hxs⟩ := h.eat
  obtain ⟨ys, hy, hys⟩ := k.eat
  exact ⟨h.e, k.e', k.at_.trans h.at_, xs ++ ys, by rw [hx, hy, List.append_assoc], by rw [List.map_append, hxs, hys]⟩

theorem take_inv {fin : Int} {right : List UInt8 → Bool} {s : RS} (h : (takeF fin right s).2.e = 0) : Ate s [(takeF fin right s).1] (takeF fin right s).2 ∧ right (takeF fin right s).1 = true := by
  rcases s with ⟨l, a, e⟩
  by_cases he : e = 0
  · subst he
    cases l with
    | nil => rw [takeF_nil] at h; exact absurd (show (2 : Int) = 0 from h) (by decide)
    | cons x l =>
      by_cases hr : right x.1 = true
      · rw [takeF_hit hr]; exact ⟨⟨rfl, rfl, rfl, [x], rfl, rfl⟩, hr⟩
      · rw [takeF_miss hr] at h; exact absurd (show (2 : Int) = 0 from h) (by decide)
  · rw [takeF_err he] at h; exact absurd h he
theorem must_inv {fin : Int} {x : List UInt8} {s : RS} (h : (mustF fin x s).e = 0) : Ate s [x] (mustF fin x s) := by
  obtain ⟨h1, h2⟩ := take_inv (fin := fin) (right := fun y => decide (y = x)) h
  have h2 := of_decide_eq_true h2
  rw [h2] at h1
  exact h1

/-! ### Behind an error nothing is read -/
theorem numR_err (fin : Int) : ∀ (n : Nat) (s : RS), s.e ≠ 0 → (numR fin n s).2 = s
  | 0, s, h => failF_err h
  | n + 1, s, h => by unfold numR; rw [if_pos h]
theorem conR_err (fin : Int) : ∀ (n : Nat) (s : RS), s.e ≠ 0 → (conR fin n s).2 = s
  | 0, s, h => failF_err h
  | n + 1, s, h => by unfold conR; rw [if_pos h]

/-! ### The signs of a number, of a contract -/
def toksO : Ob → List (List UInt8)
  | .none => []
  | .const n => [Lib.itoa n]
  | .fix s => [102, 105, 120] :: [40] :: s :: [[41]]
  | .neg o => [110, 101, 103] :: [40] :: (toksO o ++ [[41]])
  | .add l r => [97, 100, 100] :: [40] :: (toksO l ++ ([44] :: (toksO r ++ [[41]])))
  | .mul l r => [109, 117, 108] :: [40] :: (toksO l ++ ([44] :: (toksO r ++ [[41]])))
  | .max l r => [109, 97, 120] :: [40] :: (toksO l ++ ([44] :: (toksO r ++ [[41]])))
def toksT : Tm → List (List UInt8)
  | .none => []
  | .zero => [[122, 101, 114, 111]]
  | .one s => [111, 110, 101] :: [40] :: s :: [[41]]
  | .give t => [103, 105, 118, 101] :: [40] :: (toksT t ++ [[41]])
  | .and l r => [97, 110, 100] :: [40] :: (toksT l ++ ([44] :: (toksT r ++ [[41]])))
  | .or s l r => [111, 114] :: [40] :: s :: [44] :: (toksT l ++ ([44] :: (toksT r ++ [[41]])))
  | .scale o t => [115, 99, 97, 108, 101] :: [40] :: (toksO o ++ ([44] :: (toksT t ++ [[41]])))
  | .when d t => [119, 104, 101, 110] :: [40] :: Lib.itoa d :: [44] :: (toksT t ++ [[41]])
  | .cond o l r => [105, 102] :: [40] :: (toksO o ++ ([44] :: (toksT l ++ ([44] :: (toksT r ++ [[41]])))))

/-- No word of a number is one of digits. -/
theorem word_cases {x : List UInt8} (h : wordF' x = true) : x = [102, 105, 120] ∨ x = [97, 100, 100] ∨ x = [110, 101, 103] ∨ x = [109, 117, 108] ∨ x = [109, 97, 120] ∨ (numF x).2 = true := by
  unfold wordF' at h
  simp only [Bool.or_eq_true, beq_iff_eq] at h
  rcases h with h | h | h | h | h | h <;> simp [h]
theorem begins_cases {x : List UInt8} (h : beginsF x = true) : x = [122, 101, 114, 111] ∨ x = [111, 110, 101] ∨ x = [103, 105, 118, 101] ∨ x = [97, 110, 100] ∨ x = [111, 114] ∨ x = [115, 99, 97, 108, 101] ∨ x = [119, 104, 101, 110] ∨ x = [105, 102] := by
  unfold beginsF at h
  simpa only [Bool.or_eq_true, beq_iff_eq] using h

theorem day_cases {x : List UInt8} (h : dayF x = true) : (numF x).2 = true ∧ 0 ≤ (numF x).1 ∧ (numF x).1 ≤ 10000 := by
  unfold dayF at h
  simpa only [Bool.and_eq_true, decide_eq_true_eq] using h

/-! ### What was read is what stood there -/
def GoodO (n : Nat) (rec : RS → Ob × RS) : Prop := ∀ s, (rec s).2.e = 0 → Ate s (toksO (rec s).1) (rec s).2 ∧ formO (rec s).1 = true ∧ depthO (rec s).1 ≤ n
def GoodT (n : Nat) (rec : RS → Tm × RS) : Prop := ∀ s, (rec s).2.e = 0 → Ate s (toksT (rec s).1) (rec s).2 ∧ formT (rec s).1 = true ∧ depthT (rec s).1 ≤ n

theorem pair_inv {fin : Int} {n : Nat} {rec : RS → Ob × RS} (hr : GoodO n rec) {s : RS} (h : (pairF fin rec s).2.2.e = 0) :
    Ate s ([40] :: (toksO (pairF fin rec s).1 ++ ([44] :: (toksO (pairF fin rec s).2.1 ++ [[41]])))) (pairF fin rec s).2.2 ∧ (formO (pairF fin rec s).1 = true ∧ depthO (pairF fin rec s).1 ≤ n) ∧ formO (pairF fin rec s).2.1 = true ∧ depthO (pairF fin rec s).2.1 ≤ n := by
  unfold pairF at h ⊢
  dsimp only at h ⊢
  have h5 := must_inv h
  have h4 := hr _ h5.e
  have h3 := must_inv h4.1.e
  have h2 := hr _ h3.e
  have h1 := must_inv h2.1.e
  have := h1.trans (h2.1.trans (h3.trans (h4.1.trans h5)))
  exact ⟨by simpa using this, h2.2, h4.2⟩

theorem numR_inv (fin : Int) : ∀ n, GoodO n (numR fin n)
  | 0, s, h => by
    exfalso
    by_cases he : s.e = 0
    · have : (numR fin 0 s).2.e = 5 := by show (failF fin 5 s).e = 5; unfold failF; rw [if_pos he]
      rw [this] at h; exact absurd h (by decide)
    · rw [numR_err fin 0 s he] at h; exact he h
  | n + 1, s, h => by
    have ih := numR_inv fin n
    have he : s.e = 0 := by
      refine Classical.byContradiction fun he => ?_
      rw [numR_err fin (n + 1) s he] at h; exact he h
    unfold numR at h ⊢
    rw [if_neg (by simpa using he)] at h ⊢
    by_cases hnil : (takeF fin wordF' s).1 = []
    · rw [if_pos hnil] at h
      have := (take_inv h).2
      rw [hnil] at this
      exact absurd this (by decide +kernel)
    rw [if_neg hnil] at h ⊢
    have step : ∀ {o : Ob} {u : List (List UInt8)} {s' : RS}, Ate (takeF fin wordF' s).2 u s' → Ate s ((takeF fin wordF' s).1 :: u) s' ∧ wordF' (takeF fin wordF' s).1 = true := fun ha => by
      have t := take_inv (fin := fin) (right := wordF') (s := s) ha.e
      exact ⟨t.1.trans ha, t.2⟩
    generalize hx : (takeF fin wordF' s).1 = x at h hnil step ⊢
    generalize hs1 : (takeF fin wordF' s).2 = s1 at h step ⊢
    unfold numK at h ⊢
    by_cases c1 : x = [102, 105, 120]
    · rw [if_pos c1] at h ⊢
      dsimp only at h ⊢
      have h3 := must_inv h
      have h2 := take_inv h3.e
      have h1 := must_inv h2.1.e
      have := h1.trans (h2.1.trans h3)
      refine ⟨by have := (step (o := .none) this).1; rw [c1] at this; simpa [toksO] using this, h2.2, by unfold depthO; omega⟩
    rw [if_neg c1] at h ⊢
    by_cases c2 : x = [110, 101, 103]
    · rw [if_pos c2] at h ⊢
      dsimp only at h ⊢
      have h3 := must_inv h
      have h2 := ih _ h3.e
      have h1 := must_inv h2.1.e
      have := h1.trans (h2.1.trans h3)
      refine ⟨by have := (step (o := .none) this).1; rw [c2] at this; simpa [toksO] using this, h2.2.1, by unfold depthO; have := h2.2.2; omega⟩
    rw [if_neg c2] at h ⊢
    by_cases c3 : x = [97, 100, 100]
    · rw [if_pos c3] at h ⊢
      dsimp only at h ⊢
      have hp := pair_inv ih h
      refine ⟨by have := (step (o := .none) hp.1).1; rw [c3] at this; exact this, by unfold formO; rw [hp.2.1.1, hp.2.2.1]; rfl, by unfold depthO; have := hp.2.1.2; have := hp.2.2.2; omega⟩
    rw [if_neg c3] at h ⊢
    by_cases c4 : x = [109, 117, 108]
    · rw [if_pos c4] at h ⊢
      dsimp only at h ⊢
      have hp := pair_inv ih h
      refine ⟨by have := (step (o := .none) hp.1).1; rw [c4] at this; exact this, by unfold formO; rw [hp.2.1.1, hp.2.2.1]; rfl, by unfold depthO; have := hp.2.1.2; have := hp.2.2.2; omega⟩
    rw [if_neg c4] at h ⊢
    by_cases c5 : x = [109, 97, 120]
    · rw [if_pos c5] at h ⊢
      dsimp only at h ⊢
      have hp := pair_inv ih h
      refine ⟨by have := (step (o := .none) hp.1).1; rw [c5] at this; exact this, by unfold formO; rw [hp.2.1.1, hp.2.2.1]; rfl, by unfold depthO; have := hp.2.1.2; have := hp.2.2.2; omega⟩
    rw [if_neg c5] at h ⊢
    dsimp only at h ⊢
    have h1 := step (o := .none) (u := []) (s' := s1) ⟨h, h, rfl, [], rfl, rfl⟩
    rcases word_cases h1.2 with t | t | t | t | t | t
    · exact absurd t c1
    · exact absurd t c3
    · exact absurd t c2
    · exact absurd t c4
    · exact absurd t c5
    · have hi := numF_inv t
      refine ⟨?_, ?_, by unfold depthO; omega⟩
      · unfold toksO
        rw [← hi.1]; exact h1.1
      · unfold formO validF
        rw [decide_eq_true hi.2.1, decide_eq_true hi.2.2]; rfl

theorem one_inv {fin : Int} {n : Nat} {rec : RS → Tm × RS} (hr : GoodT n rec) {s : RS} (h : (oneF fin rec s).2.e = 0) :
    Ate s (toksT (oneF fin rec s).1 ++ [[41]]) (oneF fin rec s).2 ∧ formT (oneF fin rec s).1 = true ∧ depthT (oneF fin rec s).1 ≤ n := by
  unfold oneF at h ⊢
  dsimp only at h ⊢
  have h5 := must_inv h
  have h4 := hr _ h5.e
  exact ⟨h4.1.trans h5, h4.2⟩
theorem both_inv {fin : Int} {n : Nat} {rec : RS → Tm × RS} (hr : GoodT n rec) {s : RS} (h : (bothF fin rec s).2.2.e = 0) :
    Ate s (toksT (bothF fin rec s).1 ++ ([44] :: (toksT (bothF fin rec s).2.1 ++ [[41]]))) (bothF fin rec s).2.2 ∧ (formT (bothF fin rec s).1 = true ∧ depthT (bothF fin rec s).1 ≤ n) ∧ formT (bothF fin rec s).2.1 = true ∧ depthT (bothF fin rec s).2.1 ≤ n := by
  unfold bothF at h ⊢
  dsimp only at h ⊢
  have h5 := must_inv h
  have h4 := hr _ h5.e
  have h3 := must_inv h4.1.e
  have h2 := hr _ h3.e
  have := h2.1.trans (h3.trans (h4.1.trans h5))
  exact ⟨by simpa using this, h2.2, h4.2⟩

theorem conR_inv (fin : Int) : ∀ n, GoodT n (conR fin n)
  | 0, s, h => by
    exfalso
    by_cases he : s.e = 0
    · have : (conR fin 0 s).2.e = 5 := by show (failF fin 5 s).e = 5; unfold failF; rw [if_pos he]
      rw [this] at h; exact absurd h (by decide)
    · rw [conR_err fin 0 s he] at h; exact he h
  | n + 1, s, h => by
    have ih := conR_inv fin n
    have ihO := numR_inv fin n
    have he : s.e = 0 := by
      refine Classical.byContradiction fun he => ?_
      rw [conR_err fin (n + 1) s he] at h; exact he h
    unfold conR at h ⊢
    rw [if_neg (by simpa using he)] at h ⊢
    by_cases hnil : (takeF fin beginsF s).1 = []
    · rw [if_pos hnil] at h
      have := (take_inv h).2
      rw [hnil] at this
      exact absurd this (by decide +kernel)
    rw [if_neg hnil] at h ⊢
    have step : ∀ {u : List (List UInt8)} {s' : RS}, Ate (takeF fin beginsF s).2 u s' → Ate s ((takeF fin beginsF s).1 :: u) s' ∧ beginsF (takeF fin beginsF s).1 = true := fun ha => by
      have t := take_inv (fin := fin) (right := beginsF) (s := s) ha.e
      exact ⟨t.1.trans ha, t.2⟩
    generalize hx : (takeF fin beginsF s).1 = x at h hnil step ⊢
    generalize hs1 : (takeF fin beginsF s).2 = s1 at h step ⊢
    by_cases c0 : x = [122, 101, 114, 111]
    · rw [if_pos c0] at h ⊢
      dsimp only at h ⊢
      refine ⟨by have := (step (u := []) (s' := s1) ⟨h, h, rfl, [], rfl, rfl⟩).1; rw [c0] at this; exact this, rfl, by unfold depthT; omega⟩
    rw [if_neg c0] at h ⊢
    have step2 : ∀ {u : List (List UInt8)} {s' : RS}, Ate (mustF fin [40] s1) u s' → Ate s (x :: [40] :: u) s' ∧ beginsF x = true := fun ha => step ((must_inv ha.e).trans ha)
    generalize hs2 : mustF fin [40] s1 = s2 at h step2 ⊢
    unfold conK at h ⊢
    by_cases c1 : x = [111, 110, 101]
    · rw [if_pos c1] at h ⊢
      dsimp only at h ⊢
      have h3 := must_inv h
      have h2 := take_inv h3.e
      refine ⟨by have := (step2 (h2.1.trans h3)).1; rw [c1] at this; simpa [toksT] using this, h2.2, by unfold depthT; omega⟩
    rw [if_neg c1] at h ⊢
    by_cases c2 : x = [103, 105, 118, 101]
    · rw [if_pos c2] at h ⊢
      dsimp only at h ⊢
      have hp := one_inv ih h
      refine ⟨by have := (step2 hp.1).1; rw [c2] at this; exact this, hp.2.1, by unfold depthT; have := hp.2.2; omega⟩
    rw [if_neg c2] at h ⊢
    by_cases c3 : x = [97, 110, 100]
    · rw [if_pos c3] at h ⊢
      dsimp only at h ⊢
      have hp := both_inv ih h
      refine ⟨by have := (step2 hp.1).1; rw [c3] at this; exact this, by unfold formT; rw [hp.2.1.1, hp.2.2.1]; rfl, by unfold depthT; have := hp.2.1.2; have := hp.2.2.2; omega⟩
    rw [if_neg c3] at h ⊢
    by_cases c4 : x = [111, 114]
    · rw [if_pos c4] at h ⊢
      dsimp only at h ⊢
      have hp := both_inv ih h
      have h2 := must_inv hp.1.e
      have h1 := take_inv h2.e
      refine ⟨by have := (step2 (h1.1.trans (h2.trans hp.1))).1; rw [c4] at this; simpa [toksT] using this, by unfold formT; rw [hp.2.1.1, hp.2.2.1, h1.2]; rfl, by unfold depthT; have := hp.2.1.2; have := hp.2.2.2; omega⟩
    rw [if_neg c4] at h ⊢
    by_cases c5 : x = [115, 99, 97, 108, 101]
    · rw [if_pos c5] at h ⊢
      dsimp only at h ⊢
      have hp := one_inv ih h
      have h2 := must_inv hp.1.e
      have h1 := ihO _ h2.e
      refine ⟨by have := (step2 (h1.1.trans (h2.trans hp.1))).1; rw [c5] at this; simpa [toksT] using this, by unfold formT; rw [hp.2.1, h1.2.1]; rfl, by unfold depthT; have := hp.2.2; have := h1.2.2; omega⟩
    rw [if_neg c5] at h ⊢
    by_cases c6 : x = [119, 104, 101, 110]
    · rw [if_pos c6] at h ⊢
      dsimp only at h ⊢
      have hp := one_inv ih h
      have h2 := must_inv hp.1.e
      have h1 := take_inv h2.e
      have hd := day_cases h1.2
      have hi := numF_inv hd.1
      refine ⟨?_, by unfold formT; rw [hp.2.1, decide_eq_true hd.2.1, decide_eq_true hd.2.2]; rfl, by unfold depthT; have := hp.2.2; omega⟩
      have := (step2 (h1.1.trans (h2.trans hp.1))).1
      rw [c6] at this
      unfold toksT
      rw [← hi.1]
      simpa using this
    rw [if_neg c6] at h ⊢
    dsimp only at h ⊢
    have hp := both_inv ih h
    have h2 := must_inv hp.1.e
    have h1 := ihO _ h2.e
    have h0 := step2 (h1.1.trans (h2.trans hp.1))
    have c7 : x = [105, 102] := by
      rcases begins_cases h0.2 with t | t | t | t | t | t | t | t
      · exact absurd t c0
      · exact absurd t c1
      · exact absurd t c2
      · exact absurd t c3
      · exact absurd t c4
      · exact absurd t c5
      · exact absurd t c6
      · exact t
    refine ⟨by have := h0.1; rw [c7] at this; simpa [toksT] using this, by unfold formT; rw [hp.2.1.1, hp.2.2.1, h1.2.1]; rfl, by unfold depthT; have := hp.2.1.2; have := hp.2.2.2; have := h1.2.2; omega⟩

/-! ### What stands there is read -/

end Go.Proofs.YtbadiokobooliaaGreatDoor

/-! ### LexF -/
set_option linter.unusedVariables false
set_option maxRecDepth 100000
namespace Go.Proofs.YtbadiokobooliaaGreatDoor
open Vc

/-! ### Bytes and runes -/

/-! ### Words and signs, one behind the other -/

theorem doneF_ok {fin : Int} {s : RS} (h : (doneF fin s).e = 0) : s.e = 0 ∧ s.l = [] ∧ doneF fin s = s := by
  unfold doneF at h ⊢
  cases hl : s.l with
  | nil => rw [hl] at h; exact ⟨h, rfl, rfl⟩
  | cons x l =>
    rw [hl] at h
    dsimp only at h
    unfold failF at h
    split at h
    · exact absurd (show (2 : Int) = 0 from h) (by decide)
    · contradiction

/-! ### How long it is -/
def lenS (l : List (List UInt8)) : Nat := l.flatten.length
theorem lenS_app (a b : List (List UInt8)) : lenS (a ++ b) = lenS a + lenS b := by unfold lenS; rw [List.flatten_append, List.length_append]
theorem lenS_add (l : List SignV) (x : List UInt8) : lenS ((addLast l x).map Prod.fst) = lenS (l.map Prod.fst) + x.length := by
  by_cases h : l = []
  · subst h; unfold addLast lenS; simp
  · obtain ⟨a, y, rfl⟩ := last_split l h
    rw [addLast_of, List.map_append, List.map_append, lenS_app, lenS_app]
    simp [lenS]; omega
theorem sgF_lenS : ∀ (R : List Int) (W : List SignV) (at_ : Int) (run : Bool), lenS ((sgF W at_ run R).1.map Prod.fst) ≤ lenS (W.map Prod.fst) + (txt R).length
  | [], W, at_, run => by show lenS (W.map Prod.fst) ≤ _; omega
  | r :: R, W, at_, run => by
    unfold sgF
    rw [txt_cons, List.length_append]
    split
    · simp [lenS]
    split
    · have := sgF_lenS R (addLast W (enc r)) (at_ + 1) true
      rw [lenS_add] at this; omega
    split
    · have := sgF_lenS R (W ++ [(enc r, at_ + 1)]) (at_ + 1) (kd r == 97)
      rw [List.map_append, lenS_app] at this
      have e : lenS ([(enc r, at_ + 1)].map Prod.fst) = (enc r).length := by simp [lenS]
      omega
    · have := sgF_lenS R W (at_ + 1) false
      omega

theorem beginF_ok {bs : List UInt8} (h : (beginF bs).e = 0) : bs.length ≤ 1000 ∧ ¬ 0 < (sgF [] 0 false (runesL bs)).2 ∧ beginF bs = ⟨(sgF [] 0 false (runesL bs)).1, 0, 0⟩ := by
  unfold beginF at h ⊢
  split at h
  · exact absurd (show (5 : Int) = 0 from h) (by decide)
  split at h
  · exact absurd (show (2 : Int) = 0 from h) (by decide)
  rename_i h1 h2
  exact ⟨by omega, h2, by rw [if_neg h1, if_neg h2]⟩

/-! ### Blanks between signs -/

end Go.Proofs.YtbadiokobooliaaGreatDoor

/-! ### TakeF -/
set_option linter.unusedVariables false
set_option maxRecDepth 100000
namespace Go.Proofs.YtbadiokobooliaaGreatDoor
open Vc

/-- An event, its contract as a tree. -/
abbrev EvM := Int × List UInt8 × List UInt8 × List UInt8 × List UInt8 × Int × Int × Tm
def EvM.e (m : EvM) : EvT := (m.1, str m.2.1, str m.2.2.1, str m.2.2.2.1, str m.2.2.2.2.1, m.2.2.2.2.2.1, m.2.2.2.2.2.2.1, m.2.2.2.2.2.2.2.v, ())
def EvM.t (m : EvM) : Tm := m.2.2.2.2.2.2.2
def zeroM : EvM := (0, [], [], [], [], 0, 0, .none)
def packM (m : EvM) : List UInt8 × Int := packF m.e (writeT m.t).1 (writeT m.t).2

/-- What is left of the bytes, and whether there were too few. -/
abbrev TkS := List UInt8 × Bool
def tkF (z : Bool) (n : Nat) (s : TkS) : List UInt8 × TkS := if s.2 = true ∨ s.1.length < n then (if z = true then List.replicate n 0 else [], (s.1, true)) else (s.1.take n, (s.1.drop n, false))
def txF (z : Bool) (size : Nat) (s : TkS) : List UInt8 × TkS := tkF z (big (tkF z size s).1) (tkF z size s).2
def nuF (z : Bool) (s : TkS) : Int × TkS := ((takeL (tkF z 8 s).1).1, ((tkF z 8 s).2.1, (tkF z 8 s).2.2 || (!z && !(takeL (tkF z 8 s).1).2)))
def teF (z : Bool) (s : TkS) : Tm × TkS := ((readT (txF z 2 s).1).1, ((txF z 2 s).2.1, (txF z 2 s).2.2 || (!z && ((readT (txF z 2 s).1).2.2 != 0))))
def evStep (z : Bool) (x : TkS × EvM) (c : UInt8) : TkS × EvM :=
  if c = 68 then ((nuF z x.1).2, (x.2.1, x.2.2.1, x.2.2.2.1, x.2.2.2.2.1, x.2.2.2.2.2.1, (nuF z x.1).1, x.2.2.2.2.2.2.2.1, x.2.2.2.2.2.2.2.2))
  else if c = 86 then ((nuF z x.1).2, (x.2.1, x.2.2.1, x.2.2.2.1, x.2.2.2.2.1, x.2.2.2.2.2.1, x.2.2.2.2.2.2.1, (nuF z x.1).1, x.2.2.2.2.2.2.2.2))
  else if c = 84 then ((teF z x.1).2, (x.2.1, x.2.2.1, x.2.2.2.1, x.2.2.2.2.1, x.2.2.2.2.2.1, x.2.2.2.2.2.2.1, x.2.2.2.2.2.2.2.1, (teF z x.1).1))
  else if c = 73 then ((txF z 1 x.1).2, (x.2.1, (txF z 1 x.1).1, x.2.2.2.1, x.2.2.2.2.1, x.2.2.2.2.2.1, x.2.2.2.2.2.2.1, x.2.2.2.2.2.2.2.1, x.2.2.2.2.2.2.2.2))
  else if c = 78 then ((txF z 1 x.1).2, (x.2.1, x.2.2.1, (txF z 1 x.1).1, x.2.2.2.2.1, x.2.2.2.2.2.1, x.2.2.2.2.2.2.1, x.2.2.2.2.2.2.2.1, x.2.2.2.2.2.2.2.2))
  else if c = 76 then ((txF z 1 x.1).2, (x.2.1, x.2.2.1, x.2.2.2.1, (txF z 1 x.1).1, x.2.2.2.2.2.1, x.2.2.2.2.2.2.1, x.2.2.2.2.2.2.2.1, x.2.2.2.2.2.2.2.2))
  else ((txF z 1 x.1).2, (x.2.1, x.2.2.1, x.2.2.2.1, x.2.2.2.2.1, (txF z 1 x.1).1, x.2.2.2.2.2.2.1, x.2.2.2.2.2.2.2.1, x.2.2.2.2.2.2.2.2))
def takeM (z : Bool) (bs : List UInt8) : TkS × EvM :=
  (fieldL (big (tkF z 1 (bs, false)).1 : Int)).foldl (evStep z) ((tkF z 1 (bs, false)).2, ((big (tkF z 1 (bs, false)).1 : Int), [], [], [], [], 0, 0, .none))
def takeOk (z : Bool) (bs : List UInt8) : Bool := !(takeM z bs).1.2 && ((packM (takeM z bs).2).2 == 0 && ((packM (takeM z bs).2).1 == bs && (!z || (takeM z bs).1.1 == [])))
/-- The event of bytes, or that they are none. -/
def takeP (z : Bool) (bs : List UInt8) : EvM × Int := if takeOk z bs = true then ((takeM z bs).2, 0) else (zeroM, 2)

/-! ### What was packed is taken -/
theorem write_short (t : Tm) : (writeT t).1.length ≤ 1000 := by
  unfold writeT
  split
  · simp
  split
  · simp
  · dsimp only; omega

theorem empty_str (s : List UInt8) : emptyB (str s) = decide (s = []) := by
  have e0 : (⟨#[]⟩ : ByteArray) = str [] := rfl
  unfold emptyB; rw [e0, str_beq]
theorem named_str (s : List UInt8) : nameB (str s) = nameF 0 (runesL s) := by unfold nameB; rw [str_list]

end Go.Proofs.YtbadiokobooliaaGreatDoor

/-! ### PackSpec2 -/
set_option linter.unusedVariables false
set_option maxRecDepth 100000
namespace Go.Proofs.YtbadiokobooliaaGreatDoor
open Vc

namespace Vc
/-- The first cells of a block, read. -/
theorem LdsK.pre {cks : List Ck} {b : Nat} {w : World} {K : Cs cks → Prop} {cs : Array Value} {T : TypeId} {fr : Nat × Nat} {x : Cs cks} (hb : w.heap[b]? = some (.cells cs T fr)) (hx : ∀ j, j < (Cs.vals cks x).length → cs[j]? = (Cs.vals cks x)[j]?) (h : K x) : LdsK cks ((⟨b, 0, none⟩ : Addr).add 0) w K :=
  ⟨x, by rw [addr_add]; exact cellsAt_all hb _ 0 fun j hj => by rw [Nat.zero_add]; exact hx j hj, h⟩
end Vc

/-- Bytes as a text. -/
theorem txt_of {w : World} {v : Sl} {bs : List UInt8} (h : RdB w v bs) : (convert 38 9 (.slice v.1 v.2.1 v.2.2)).run Tryz.prog w = .ok (.string (str bs)) w := by
  show _ = Result.ok (Value.string ⟨bs.toArray⟩) w
  rw [run_convert_bytes_string w _ _ 5 v.1 v.2.1 v.2.2 Tryz.underlying38 Tryz.underlying5 Tryz.underlying9]
  have hl := h.len
  obtain ⟨h1, h2, h3⟩ := h
  cases hv : v.1 with
  | none =>
    have : bs = [] := by have := (h2 hv).2.2; simpa using this
    subst this
    rfl
  | some a =>
    have hc := h3 a hv
    have hload : (loadCells a v.2.1).run Tryz.prog w = .ok ((bs.map fun b => (b.toNat : Int)).map (Value.int .u8)).toArray w := by
      have := loadCells_ok (P := Tryz.prog) (bs.map bc) hc
      rw [List.length_map, ← hl] at this
      rw [this]
      congr 1
      rw [List.map_map]
      rfl
    rw [run_bytesToString w a v.2.1 v.2.2 _ hload, foldl_push_bytes]
    have e : ((bs.map fun b => (b.toNat : Int)).map fun n => UInt8.ofNat n.toNat) = bs := by
      rw [List.map_map]
      conv => rhs; rw [← List.map_id bs]
      refine List.map_congr_left fun b _ => ?_
      simp
    rw [e]
    congr 2
    simp

theorem packF_len (e : EvT) (hz : smallE e) (ts : List UInt8) (hts : ts.length ≤ 1000000) (tr : Int) : (packF e ts tr).1.length ≤ 10000000 := by
  unfold packF
  split
  · simp
  have hl7 : (fieldL e.1).length ≤ 7 := by unfold fieldL; exact Nat.le_trans (List.length_filter_le _ _) (by decide)
  have hbound : ∀ l : List UInt8, (l.flatMap (fieldB e ts)).length ≤ l.length * 1000010 := by
    intro l
    induction l with
    | nil => simp
    | cons a l ih => rw [List.flatMap_cons, List.length_append, List.length_cons]; have := fieldB_len e hz ts hts a; omega
  have := hbound (fieldL e.1)
  simp only [List.length_cons]
  omega

end Go.Proofs.YtbadiokobooliaaGreatDoor

/-! ### VcNest -/
namespace Go.Proofs.YtbadiokobooliaaGreatDoor
namespace Vc
open Go.ChangeShapes Go.WideShapes
variable {P : Program}

def IsNest (k : IntKind) (w : World) (a : Option Addr) (len cap : Nat) (us : List (Sl × List Int)) : Prop :=
  (a = none ∧ len = 0 ∧ cap = 0 ∧ us = []) ∨
  ∃ x, a = some x ∧ len ≤ cap ∧ cap ≤ maxLen ∧ us.length = len ∧ ∀ i u, us[i]? = some u → w.cell? (x.add i) = some (.slice u.1.1 u.1.2.1 u.1.2.2) ∧ IsInts k w u.1.1 u.1.2.1 u.1.2.2 u.2

theorem list_of {α : Type} {Q : Nat → α → Prop} : ∀ (n : Nat), (∀ i, i < n → ∃ u, Q i u) → ∃ us : List α, us.length = n ∧ ∀ i u, us[i]? = some u → Q i u
  | 0, _ => ⟨[], rfl, fun i u h => by simp at h⟩
  | n + 1, h => by
    obtain ⟨us, hl, hu⟩ := list_of n (fun i hi => h i (by omega))
    obtain ⟨u, hq⟩ := h n (by omega)
    refine ⟨us ++ [u], by simp [hl], fun i x hx => ?_⟩
    by_cases hi : i < us.length
    · rw [List.getElem?_append_left hi] at hx; exact hu i x hx
    · rw [List.getElem?_append_right (by omega)] at hx
      have : i = n := by
        have := (List.getElem?_eq_some_iff.1 hx).1
        simp at this; omega
      subst this
      rw [← hl, Nat.sub_self] at hx
      simp at hx
      subst hx; exact hq

theorem open_nest {H : Type} {enc : TypeId × Value → H} {w : World} {base : Nat} {held : Bool} {t e ee : TypeId} {k : IntKind} {fuel : Nat} {cs : List Value} {x : DataW H × List MemPlace}
    (ht : P.underlying t = some (.slice e)) (he : P.underlying e = some (.slice ee)) (hee : P.underlying ee = some (.int k)) (hc : P.cellsOf e = 1) (hc2 : P.cellsOf ee = 1)
    (h : DataW.trod enc P w base (fun _ => true) held fuel t cs = some x) : ∃ a len cap us, cs = [.slice a len cap] ∧ IsNest k w a len cap us := by
  rcases DataW.trod_slice ht h with ⟨h0, _⟩ | ⟨a, len, cap, elems, rest, n, _, hcs, _, hb, hl, hm, hlen, hel, _, _⟩
  · exact ⟨none, 0, 0, [], h0, .inl ⟨rfl, rfl, rfl, rfl⟩⟩
  obtain ⟨us, ul, hu⟩ := list_of (α := Sl × List Int) (Q := fun i u => w.cell? (a.add i) = some (.slice u.1.1 u.1.2.1 u.1.2.2) ∧ IsInts k w u.1.1 u.1.2.1 u.1.2.2 u.2) len fun i hi => by
    have hb' := hel i hi
    rw [List.getElem?_eq_getElem (by omega), hc, Nat.mul_one, Option.bind_eq_some_iff] at hb'
    obtain ⟨cs', hcs', hy'⟩ := hb'
    rcases open_ints he hee hc2 hy' with ⟨rfl, _⟩ | ⟨y, l, c, zs, rfl, _, hl', hm', hz', _, hcell, hwz⟩
    · exact ⟨((none, 0, 0), []), cell_of_cells?_one hcs', .inl ⟨rfl, rfl, rfl, rfl⟩⟩
    · exact ⟨((some y, l, c), zs), cell_of_cells?_one hcs', .inr ⟨y, rfl, hl', hm', by simpa using hz', hcell, hwz⟩⟩
  exact ⟨some a, len, cap, us, hcs, .inr ⟨a, rfl, hl, hm, ul, hu⟩⟩

theorem add_add (a : Addr) (m n : Nat) : (a.add m).add n = a.add (m + n) := by
  unfold Addr.add
  by_cases hm : m = 0
  · subst hm; simp
  · by_cases hn : n = 0
    · subst hn; simp [hm]
    · simp [hm, hn, Nat.add_assoc]

theorem cellsAt_shift {w : World} {a : Addr} {m : Nat} : ∀ (vs : List Value) (i : Nat), CellsAt w a (m + i) vs → CellsAt w (a.add m) i vs
  | [], _, _ => trivial
  | v :: vs, i, ⟨h1, h2⟩ => ⟨by rw [add_add]; exact h1, cellsAt_shift vs (i + 1) h2⟩
theorem cellsAt_drop {w : World} {a : Addr} : ∀ (m : Nat) (vs : List Value) (i : Nat), CellsAt w a i vs → CellsAt w a (i + m) (vs.drop m)
  | 0, vs, i, h => h
  | m + 1, [], i, _ => trivial
  | m + 1, v :: vs, i, ⟨_, h2⟩ => by
    have := cellsAt_drop m vs (i + 1) h2
    rw [show i + 1 + m = i + (m + 1) by omega] at this
    exact this

/-- A part of a slice. -/
theorem RdSl.mid {w : World} {v : Sl} {xs : List Value} (h : RdSl w 1 v xs) {lo hi : Int} (h0 : 0 ≤ lo) (h1 : lo ≤ hi) (h2 : hi ≤ v.2.1) (hc : v.2.1 ≤ v.2.2) {K : Option Addr → Nat → Nat → Prop}
    (k : ∀ u : Sl, RdSl w 1 u ((xs.drop lo.toNat).take (hi - lo).toNat) → u.2.1 ≤ u.2.2 → u.2.1 = (hi - lo).toNat → (∀ k, blkOf u k → blkOf v k) → K u.1 u.2.1 u.2.2) : SubK v.1 v.2.2 lo hi v.2.2 1 K := by
  refine ⟨h0, h1, by omega, by omega, ?_⟩
  obtain ⟨a, b, c⟩ := h
  obtain ⟨B, hB⟩ : ∃ B : Option Addr, (if (v.2.2 : Int) = lo then v.1 else v.1.map (·.add (lo.toNat * 1))) = B := ⟨_, rfl⟩
  obtain ⟨n, hn⟩ : ∃ n : Nat, (hi - lo).toNat = n := ⟨_, rfl⟩
  obtain ⟨m, hm⟩ : ∃ m : Nat, ((v.2.2 : Int) - lo).toNat = m := ⟨_, rfl⟩
  rw [hn] at k
  rw [hB, hn, hm]
  refine k (B, n, m) ⟨?_, fun hN => ?_, fun y hy => ?_⟩ (by dsimp only; omega) rfl ?_
  · dsimp only
    simp only [List.length_take, List.length_drop]
    omega
  · dsimp only at hN ⊢
    have hv : v.1 = none := by
      rw [hN] at hB
      split at hB
      · exact hB
      · cases hv : v.1 with
        | none => rfl
        | some x => rw [hv] at hB; cases hB
    obtain ⟨e1, e2, e3⟩ := b hv
    subst e3
    exact ⟨by omega, by omega, by simp⟩
  · dsimp only at hy
    rw [hy] at hB
    split at hB
    · rename_i he
      have : n = 0 := by omega
      rw [this, List.take_zero]
      exact trivial
    · cases hv : v.1 with
      | none => rw [hv] at hB; cases hB
      | some x =>
        rw [hv] at hB
        injection hB with hB
        subst hB
        rw [Nat.mul_one]
        refine cellsAt_take _ _ _ (cellsAt_shift _ 0 ?_)
        have := cellsAt_drop lo.toNat xs 0 (c x hv)
        rw [Nat.zero_add] at this
        exact this
  · rintro j ⟨y, hy, hj⟩
    dsimp only at hy
    rw [hy] at hB
    split at hB
    · exact ⟨y, hB, hj⟩
    · cases hv : v.1 with
      | none => rw [hv] at hB; cases hB
      | some x =>
        rw [hv] at hB
        injection hB with hB
        refine ⟨x, hv, ?_⟩
        rw [hj, ← hB]
        unfold Addr.add
        split <;> rfl

end Vc
end Go.Proofs.YtbadiokobooliaaGreatDoor

/-! ### VcAggs -/
set_option linter.unusedVariables false
namespace Go.Proofs.YtbadiokobooliaaGreatDoor
namespace Vc
variable {P : Program}

theorem fold_set (off : Nat) : ∀ (l : List Value) (j : Nat) (cur : Array Value), off + j + l.length ≤ cur.size →
    ((l.zipIdx j).foldl (fun (cs : Array Value) (x : Value × Nat) => cs.setIfInBounds (off + x.2) x.1) cur).toList = cur.toList.take (off + j) ++ l ++ cur.toList.drop (off + j + l.length)
  | [], j, cur, _ => by simp
  | c :: l, j, cur, h => by
    simp only [List.length_cons] at h
    rw [List.zipIdx_cons, List.foldl_cons, fold_set off l (j + 1) _ (by simp; omega)]
    rw [Array.toList_setIfInBounds]
    have hlt : off + j < cur.toList.length := by simp; omega
    rw [show off + (j + 1) = off + j + 1 by omega, List.take_succ_eq_append_getElem (by rw [List.length_set]; exact hlt), List.take_set_of_le (Nat.le_refl _), List.getElem_set_self, List.drop_set_of_lt (by omega)]
    simp only [List.append_assoc, List.cons_append, List.nil_append, List.length_cons]
    congr 4
    omega

theorem fill_many (s n : Nat) : ∀ (vs : List (List Value)) (k : Nat) (cur : Array Value), (∀ l ∈ vs, l.length = s) → k + vs.length = n → cur.size = n * s →
    ∃ out, Instr.fill (fun i => some (i * s, s)) cur ((vs.zipIdx k).map fun (l, i) => (i, .agg l.toArray)) = some out ∧ out.toList = cur.toList.take (k * s) ++ vs.flatten
  | [], k, cur, _, hk, hc => by
    simp only [List.length_nil, Nat.add_zero] at hk
    subst hk
    exact ⟨cur, rfl, by rw [List.take_of_length_le (by simp [hc])]; simp⟩
  | l :: vs, k, cur, hl, hk, hc => by
    simp only [List.length_cons] at hk
    have hls := hl l (by simp)
    have hb : k * s + s ≤ n * s := by rw [← Nat.succ_mul]; exact Nat.mul_le_mul_right _ (by omega)
    have hcur : (l.toArray.zipIdx.foldl (fun cs (x : Value × Nat) => cs.setIfInBounds (k * s + x.2) x.1) cur).toList = cur.toList.take (k * s) ++ l ++ cur.toList.drop (k * s + l.length) := by
      rw [← Array.foldl_toList, Array.toList_zipIdx]
      have := fold_set (k * s) l 0 cur (by omega)
      simpa using this
    have hsz : (l.toArray.zipIdx.foldl (fun cs (x : Value × Nat) => cs.setIfInBounds (k * s + x.2) x.1) cur).size = n * s := by
      rw [← Array.length_toList, hcur]
      simp only [List.length_append, List.length_take, List.length_drop, Array.length_toList]
      omega
    obtain ⟨out, ho, hout⟩ := fill_many s n vs (k + 1) _ (fun x hx => hl x (by simp [hx])) (by omega) hsz
    refine ⟨out, ?_, ?_⟩
    · have hc1 : (Value.agg l.toArray).cells.size = s := by show l.toArray.size = s; simp [hls]
      simp only [List.zipIdx_cons, List.map_cons, Instr.fill]
      rw [if_neg (by simp [hc1]; omega)]
      exact ho
    · have hlen : (cur.toList.take (k * s) ++ l).length = (k + 1) * s := by
        rw [List.length_append, List.length_take, Array.length_toList, Nat.succ_mul]; omega
      rw [hout, hcur, List.take_left' hlen, List.flatten_cons, List.append_assoc]

/-- A slice literal of structs, all told in order. -/
theorem lits_ok {w : World} {t E s bytes : Nat} {z : Value} (he : ElemOk P t E s z bytes) (vs : List (List Value)) (hl : ∀ l ∈ vs, l.length = s) (hn : vs.length * s ≤ 2 ^ 24) :
    ∃ (v : Sl) (w' : World), (Instr.buildSlice t vs.length ((vs.zipIdx.map fun (l, i) => (i, Value.agg l.toArray)).toArray)).run P w = .ok (.slice v.1 v.2.1 v.2.2) w' ∧ IsSl w' E s v vs.flatten ∧ v.2.1 = vs.length ∧ Fr none1 w w' ∧ (∀ k, blkOf v k → w.heap.size ≤ k) := by
  obtain ⟨out, ho, hout⟩ := fill_many s vs.length vs 0 ((Array.range (vs.length * s)).map (z.cells[· % z.cells.size]!)) hl (by simp) (by simp)
  rw [Nat.zero_mul, List.take_zero, List.nil_append] at hout
  have hfl : ∀ vs : List (List Value), (∀ l ∈ vs, l.length = s) → vs.flatten.length = vs.length * s := by
    intro vs
    induction vs with
    | nil => intro _; simp
    | cons l vs ih =>
      intro h
      rw [List.flatten_cons, List.length_append, h l (by simp), ih (fun x hx => h x (by simp [hx])), List.length_cons, Nat.succ_mul]
      omega
  obtain ⟨v, w', a, b, c⟩ := buildSlice_ok (w := w) he vs.length ((vs.zipIdx.map fun (l, i) => (i, Value.agg l.toArray)).toArray) out hn (by simpa using ho) (by rw [← Array.length_toList, hout, hfl vs hl])
  rw [hout] at b
  exact ⟨v, w', a, b, c⟩

theorem flat_drop {α : Type} {s : Nat} : ∀ (vs : List (List α)) (i : Nat), (∀ l ∈ vs, l.length = s) → vs.flatten.drop (i * s) = (vs.drop i).flatten
  | vs, 0, _ => by simp
  | [], i + 1, _ => by simp
  | l :: vs, i + 1, h => by
    rw [List.flatten_cons, List.drop_succ_cons, Nat.succ_mul, Nat.add_comm, ← h l (by simp), ← List.drop_drop, List.drop_left, h l (by simp), flat_drop vs i fun x hx => h x (by simp [hx])]

/-- A struct read out of a slice of structs. -/
theorem RdSl.lds {w : World} {v : Sl} {vs : List (List Value)} {s : Nat} (h : RdSl w s v vs.flatten) (hs : ∀ l ∈ vs, l.length = s) {cks : List Ck} {x : Cs cks} {i : Nat} (hx : vs[i]? = some (Cs.vals cks x)) (hi : i < v.2.1) {K : Cs cks → Prop} (k : K x) {p : Addr} (hp : v.1 = some p) :
    LdsK cks (p.add (i * s)) w K := by
  obtain ⟨h1, h2, h3⟩ := h
  have hc := cellsAt_drop (i * s) _ 0 (h3 p hp)
  rw [Nat.zero_add, flat_drop vs i hs] at hc
  refine ⟨x, ?_, k⟩
  have hlen := hs _ (List.mem_of_getElem? hx)
  have hd : vs.drop i = Cs.vals cks x :: vs.drop (i + 1) := by
    obtain ⟨hlt, he⟩ := List.getElem?_eq_some_iff.1 hx
    rw [List.drop_eq_getElem_cons hlt, he]
  rw [hd, List.flatten_cons] at hc
  have ht := cellsAt_take _ _ s (cellsAt_shift (m := i * s) _ 0 hc)
  rw [← hlen, List.take_left] at ht
  rw [hlen] at ht
  exact ht

end Vc
end Go.Proofs.YtbadiokobooliaaGreatDoor

/-! ### CTreeG -/
namespace Go.Proofs.YtbadiokobooliaaGreatDoor
open Vc
set_option maxRecDepth 100000
set_option linter.unusedVariables false

end Go.Proofs.YtbadiokobooliaaGreatDoor

/-! ### TreeSpec -/
set_option linter.unusedVariables false
set_option maxRecDepth 100000
namespace Go.Proofs.YtbadiokobooliaaGreatDoor
open Vc

inductive Tr where
  | mk (kind : Int) (s : List UInt8) (n : Int) (ks : List Tr)

/-! ### A contract as a tree -/

end Go.Proofs.YtbadiokobooliaaGreatDoor

/-! ### CRefN -/
namespace Go.Proofs.YtbadiokobooliaaGreatDoor
open Vc
set_option maxRecDepth 100000
set_option linter.unusedVariables false

end Go.Proofs.YtbadiokobooliaaGreatDoor

/-! ### RefName -/
set_option linter.unusedVariables false
set_option maxRecDepth 100000
namespace Go.Proofs.YtbadiokobooliaaGreatDoor
open Vc

/-! ### The document's own -/

end Go.Proofs.YtbadiokobooliaaGreatDoor

/-! ### CRef04 -/
namespace Go.Proofs.YtbadiokobooliaaGreatDoor
open Vc
set_option maxRecDepth 100000
set_option linter.unusedVariables false

end Go.Proofs.YtbadiokobooliaaGreatDoor

/-! ### RefTree -/
set_option linter.unusedVariables false
set_option maxRecDepth 100000
namespace Go.Proofs.YtbadiokobooliaaGreatDoor
open Vc

/-! ### Plain -/

/-! ### Contracts as trees -/

/-! ### What the functions do -/

end Go.Proofs.YtbadiokobooliaaGreatDoor

/-! ### CWithin -/
namespace Go.Proofs.YtbadiokobooliaaGreatDoor
open Vc
set_option maxRecDepth 100000
set_option linter.unusedVariables false
/-- handfast/handfastkeep.Within -/
def C22 (p0 : Int) (p1 : Int) (w : World) (K : Value → World → Prop) : Prop :=
  ifB (decide (p1 < 1))
  (K (.int .i64 0) w)
  (NzK p1 (ifB (decide ((p0.tmod p1) < 0))
  (K (.int .i64 (IntKind.i64.wrap ((p0.tmod p1) + p1))) w)
  (K (.int .i64 (p0.tmod p1)) w)))
def pl22 : Plan := .auto
theorem e22 (p0 : Int) (p1 : Int) (w : World) (K : Value → World → Prop) : vcFunc Tryz.prog Tryz.f22 pl22 [.int .i64 p0, .int .i64 p1] w K = C22 p0 p1 w K := by kernel_rfl
theorem c22 (p0 : Int) (p1 : Int) (w : World) (K : Value → World → Prop) (h : C22 p0 p1 w K) : Ret Tryz.prog 22 #[.int .i64 p0, .int .i64 p1] w K := by
  rw [← e22] at h
  exact vcFunc_sound (by kernel_rfl) Tryz.func22 h

end Go.Proofs.YtbadiokobooliaaGreatDoor

/-! ### WithinSpec -/
set_option linter.unusedVariables false
namespace Go.Proofs.YtbadiokobooliaaGreatDoor
open Vc

def within (v n : Int) : Int := if n < 1 then 0 else v % n

theorem within_lo (v n : Int) : 0 ≤ within v n := by unfold within; split; omega; exact Int.emod_nonneg _ (by omega)
theorem within_hi (v : Int) {n : Int} (h : 1 ≤ n) : within v n < n := by unfold within; rw [if_neg (by omega)]; exact Int.emod_lt_of_pos _ (by omega)

theorem within_spec (v n : Int) (w : World) (hn : n ≤ 9223372036854775807) :
    Ret Tryz.prog 22 #[.int .i64 v, .int .i64 n] w fun r w' => r = .int .i64 (within v n) ∧ w = w' := by
  refine c22 v n w _ ?_
  unfold C22 within
  refine ifB.dec (fun h => ?_) (fun h => ⟨by omega, ?_⟩)
  · rw [if_pos h]; exact ⟨rfl, rfl⟩
  · rw [if_neg h]
    have e : v.tmod n = if 0 ≤ v ∨ n ∣ v then v % n else v % n - n := by
      rw [Int.tmod_eq_emod]
      split <;> omega
    have b0 := Int.emod_nonneg v (show n ≠ 0 by omega)
    have b1 := Int.emod_lt_of_pos v (show 0 < n by omega)
    refine ifB.dec (fun h2 => ⟨?_, rfl⟩) (fun h2 => ⟨?_, rfl⟩)
    · split at e
      · omega
      · rw [wI (by omega) (by omega)]; congr 1; omega
    · split at e
      · rw [e]
      · omega

end Go.Proofs.YtbadiokobooliaaGreatDoor

/-! ### CDigG -/
namespace Go.Proofs.YtbadiokobooliaaGreatDoor
open Vc
set_option maxRecDepth 100000
set_option linter.unusedVariables false

end Go.Proofs.YtbadiokobooliaaGreatDoor

/-! ### DigSpec -/
set_option linter.unusedVariables false
set_option maxRecDepth 100000
namespace Go.Proofs.YtbadiokobooliaaGreatDoor
open Vc

end Go.Proofs.YtbadiokobooliaaGreatDoor

/-! ### CMakeG -/
namespace Go.Proofs.YtbadiokobooliaaGreatDoor
open Vc
set_option maxRecDepth 100000
set_option linter.unusedVariables false

end Go.Proofs.YtbadiokobooliaaGreatDoor

/-! ### MakeSpec -/
set_option linter.unusedVariables false
set_option maxRecDepth 100000
namespace Go.Proofs.YtbadiokobooliaaGreatDoor
open Vc

/-! ### The maker's other numbers -/

/-! ### Trees that were made -/

/-! ### A tree's struct in a block -/

/-! ### Numbers -/

end Go.Proofs.YtbadiokobooliaaGreatDoor

/-! ### MakeSpec2 -/
set_option linter.unusedVariables false
set_option maxRecDepth 100000
namespace Go.Proofs.YtbadiokobooliaaGreatDoor
open Vc

end Go.Proofs.YtbadiokobooliaaGreatDoor

/-! ### MakeSpec3 -/
set_option linter.unusedVariables false
set_option maxRecDepth 100000
namespace Go.Proofs.YtbadiokobooliaaGreatDoor
open Vc

end Go.Proofs.YtbadiokobooliaaGreatDoor

/-! ### VcPlan -/
set_option linter.unusedVariables false
namespace Go.Proofs.YtbadiokobooliaaGreatDoor
namespace Vc
variable {P : Program}

abbrev PlV := (Option Addr × Nat × Nat) × (Option Addr × Nat × Nat) × Unit
/-- A plan that came in: its numbers, its words. -/
def IsPl (w : World) (p : PlV) : Prop := (∃ ns, IsInts .i64 w p.1.1 p.1.2.1 p.1.2.2 ns) ∧ ∃ ws, IsStrs w p.2.1.1 p.2.1.2.1 p.2.1.2.2 ws

theorem ints_of {H : Type} {enc : TypeId × Value → H} {w : World} {base : Nat} {held : Bool} {t e : TypeId} {fuel : Nat} {cs : List Value} {x : DataW H × List MemPlace} (ht : P.underlying t = some (.slice e)) (he : P.underlying e = some (.int .i64)) (hc : P.cellsOf e = 1)
    (h : DataW.trod enc P w base (fun _ => true) held fuel t cs = some x) : ∃ (u : Option Addr × Nat × Nat), cs = [.slice u.1 u.2.1 u.2.2] ∧ ∃ ns, IsInts .i64 w u.1 u.2.1 u.2.2 ns := by
  rcases Go.ChangeShapes.open_ints ht he hc h with ⟨hcs, _⟩ | ⟨a, l, c, zs, hcs, _, hl, hm, hz, _, hcell, hwz⟩
  · exact ⟨(none, 0, 0), hcs, [], .inl ⟨rfl, rfl, rfl, rfl⟩⟩
  · exact ⟨(some a, l, c), hcs, zs, .inr ⟨a, rfl, hl, hm, by simpa using hz, hcell, hwz⟩⟩
theorem strs_of {H : Type} {enc : TypeId × Value → H} {w : World} {base : Nat} {held : Bool} {t e : TypeId} {fuel : Nat} {cs : List Value} {x : DataW H × List MemPlace} (ht : P.underlying t = some (.slice e)) (he : P.underlying e = some .string) (hc : P.cellsOf e = 1)
    (h : DataW.trod enc P w base (fun _ => true) held fuel t cs = some x) : ∃ (u : Option Addr × Nat × Nat), cs = [.slice u.1 u.2.1 u.2.2] ∧ ∃ ws, IsStrs w u.1 u.2.1 u.2.2 ws := by
  rcases Go.ChangeShapes.open_strings ht he hc h with ⟨hcs, _⟩ | ⟨a, l, c, zs, hcs, _, hl, hm, hz, _, hcell, hwz⟩
  · exact ⟨(none, 0, 0), hcs, [], .inl ⟨rfl, rfl, rfl, rfl⟩⟩
  · exact ⟨(some a, l, c), hcs, zs, .inr ⟨a, rfl, hl, hm, by simpa using hz, hcell, hwz⟩⟩

theorem open_plan {H : Type} {enc : TypeId × Value → H} {w : World} {base : Nat} {held : Bool} {t t0 t1 e0 e1 : TypeId} {f0 f1 : Field} {fuel : Nat} {cs : List Value} {x : DataW H × List MemPlace}
    (ht : P.underlying t = some (.struct #[f0, f1])) (hf0 : f0.type = t0) (hf1 : f1.type = t1) (ho0 : f0.offset = 0) (ho1 : f1.offset = 1) (hc : P.cellsOf t = 2) (hc0 : P.cellsOf t0 = 1) (hc1 : P.cellsOf t1 = 1)
    (h0 : P.underlying t0 = some (.slice e0)) (h1 : P.underlying t1 = some (.slice e1)) (k0 : P.underlying e0 = some (.int .i64)) (k1 : P.underlying e1 = some .string) (d0 : P.cellsOf e0 = 1) (d1 : P.cellsOf e1 = 1)
    (h : DataW.trod enc P w base (fun _ => true) held fuel t cs = some x) : ∃ p : PlV, cs = [.slice p.1.1 p.1.2.1 p.1.2.2, .slice p.2.1.1 p.2.1.2.1 p.2.1.2.2] ∧ IsPl w p := by
  obtain ⟨y0, y1, n, _, hlen, g0, g1⟩ := Go.ChangeShapes.trod_struct2 ht h
  rw [hf0, ho0, hc0] at g0
  rw [hf1, ho1, hc1] at g1
  obtain ⟨u, hu, hi⟩ := ints_of h0 k0 d0 g0
  obtain ⟨v, hv, hs⟩ := strs_of h1 k1 d1 g1
  rw [hc] at hlen
  match cs, hlen with
  | [a, b], _ =>
    simp only [List.drop_zero, List.drop_succ_cons, List.take_succ_cons, List.take_zero, List.cons.injEq, and_true] at hu hv
    exact ⟨(u, v, ()), by rw [hu, hv], hi, hs⟩

end Vc
end Go.Proofs.YtbadiokobooliaaGreatDoor

/-! ### PlanSpec -/
set_option linter.unusedVariables false
set_option maxRecDepth 100000
namespace Go.Proofs.YtbadiokobooliaaGreatDoor
open Vc

end Go.Proofs.YtbadiokobooliaaGreatDoor

/-! ### RefWrite -/
set_option linter.unusedVariables false
set_option maxRecDepth 100000
namespace Go.Proofs.YtbadiokobooliaaGreatDoor
open Vc

/-! ### Plain -/

/-! ### What the functions do -/

end Go.Proofs.YtbadiokobooliaaGreatDoor

/-! ### CRef11P -/
namespace Go.Proofs.YtbadiokobooliaaGreatDoor
open Vc
set_option maxRecDepth 100000
set_option linter.unusedVariables false

/-- handfast/handfastref11.Number -/
def C20 (p0 : Int) (w : World) (K : Value → World → Prop) : Prop :=
  LoopK (SlT × Int × Unit) (fun _ s1 w2 next3 => ifB (decide (s1.2.1 ≥ 0))
  (NnK (IntKind.u64.wrap (IntKind.i64.wrap (8 * s1.2.1))) (RunK Tryz.prog (Instr.buildSlice 38 1 #[(0, .int .u8 (IntKind.u8.wrap (Int.fdiv (IntKind.u64.wrap p0) (2 ^ (min (Int.toNat (IntKind.u64.wrap (IntKind.i64.wrap (8 * s1.2.1)))) 64)))))]) w2 (.v (.one .slc)) (fun (x4 : SlT) w5 => RunK Tryz.prog (Builtin.append_ #[38, 38] 38 #[.slice s1.1.1 s1.1.2.1 s1.1.2.2, .slice x4.1 x4.2.1 x4.2.2]) w5 (.v (.one .slc)) (fun (x6 : SlT) w7 => next3 ((x6.1, x6.2.1, x6.2.2), IntKind.i64.wrap (s1.2.1 - 1), ()) w7))))
  (K (.slice s1.1.1 s1.1.2.1 s1.1.2.2) w2))
  ((none, 0, 0), 7, ()) w
def pl20 : Plan := (.seq .auto (.seq .auto (.seq (.seq .auto (.block (.loop [(3, .one .slc), (4, .one (.int .i64))] .auto))) .auto)))
theorem e20 (p0 : Int) (w : World) (K : Value → World → Prop) : vcFunc Tryz.prog Tryz.f20 pl20 [.int .i64 p0] w K = C20 p0 w K := by kernel_rfl
theorem c20 (p0 : Int) (w : World) (K : Value → World → Prop) (h : C20 p0 w K) : Ret Tryz.prog 20 #[.int .i64 p0] w K := by
  rw [← e20] at h
  exact vcFunc_sound (by kernel_rfl) Tryz.func20 h

/-- handfast/handfastref11.Pack -/
def C13 (p0 : YZ17) (w : World) (K : Value → World → Prop) : Prop :=
  NewK (.cells ((LZ17 p0).toArray) 35) w (fun g1 w2 => LdsK KZ17 (ad g1) w2 (fun (x3 : YZ17) => CallK Tryz.prog 54 #[.agg (LZ17 x3).toArray, .bool false] w2 (.v (.one (.int .i64))) (fun (x4 : Int) w5 => ifB (x4 != 0)
  (K (.tuple #[.slice none 0 0, .int .i64 x4]) w5)
  (LdK (.int .i64) ((ad g1).add 0) w5 (fun (x6 : Int) => RunK Tryz.prog (Instr.buildSlice 38 1 #[(0, .int .u8 (IntKind.u8.wrap x6))]) w5 (.v (.one .slc)) (fun (x7 : SlT) w8 => RunK Tryz.prog (Instr.buildSlice 38 7 #[(0, .int .u8 73), (1, .int .u8 78), (2, .int .u8 76), (3, .int .u8 67), (4, .int .u8 68), (5, .int .u8 86), (6, .int .u8 84)]) w8 (.v (.one .slc)) (fun (x9 : SlT) w10 => RunK Tryz.prog (convert 38 38 (.slice x9.1 x9.2.1 x9.2.2)) w10 (.v (.one .slc)) (fun (x11 : SlT) w12 => LoopK (SlT × Int × Unit) (fun _ s13 w14 next15 => ifB (decide (s13.2.1 < (x11.2.1 : Int)))
  (IdxK x11.1 x11.2.1 s13.2.1 1 (fun a16 => LdK (.int .u8) a16 w14 (fun (x17 : Int) => LdK (.int .i64) ((ad g1).add 0) w14 (fun (x18 : Int) => CallK Tryz.prog 56 #[.int .i64 x18] w14 (.v (.one .str)) (fun (x19 : ByteArray) w20 => CallK Tryz.prog 55 #[.string x19, .int .u8 x17] w20 (.v (.one .bool)) (fun (x21 : Bool) w22 => ifB (!x21)
  (next15 ((s13.1.1, s13.1.2.1, s13.1.2.2), IntKind.i64.wrap (s13.2.1 + 1), ()) w22)
  (ifB (x17 == 73)
  (LdK .str ((ad g1).add 1) w22 (fun (x23 : ByteArray) => CallK Tryz.prog 57 #[.string x23] w22 (.v (.one .slc)) (fun (x24 : SlT) w25 => RunK Tryz.prog (Builtin.append_ #[38, 38] 38 #[.slice s13.1.1 s13.1.2.1 s13.1.2.2, .slice x24.1 x24.2.1 x24.2.2]) w25 (.v (.one .slc)) (fun (x26 : SlT) w27 => next15 ((x26.1, x26.2.1, x26.2.2), IntKind.i64.wrap (s13.2.1 + 1), ()) w27))))
  (ifB (x17 == 78)
  (LdK .str ((ad g1).add 2) w22 (fun (x28 : ByteArray) => CallK Tryz.prog 57 #[.string x28] w22 (.v (.one .slc)) (fun (x29 : SlT) w30 => RunK Tryz.prog (Builtin.append_ #[38, 38] 38 #[.slice s13.1.1 s13.1.2.1 s13.1.2.2, .slice x29.1 x29.2.1 x29.2.2]) w30 (.v (.one .slc)) (fun (x31 : SlT) w32 => next15 ((x31.1, x31.2.1, x31.2.2), IntKind.i64.wrap (s13.2.1 + 1), ()) w32))))
  (ifB (x17 == 76)
  (LdK .str ((ad g1).add 3) w22 (fun (x33 : ByteArray) => CallK Tryz.prog 57 #[.string x33] w22 (.v (.one .slc)) (fun (x34 : SlT) w35 => RunK Tryz.prog (Builtin.append_ #[38, 38] 38 #[.slice s13.1.1 s13.1.2.1 s13.1.2.2, .slice x34.1 x34.2.1 x34.2.2]) w35 (.v (.one .slc)) (fun (x36 : SlT) w37 => next15 ((x36.1, x36.2.1, x36.2.2), IntKind.i64.wrap (s13.2.1 + 1), ()) w37))))
  (ifB (x17 == 67)
  (LdK .str ((ad g1).add 4) w22 (fun (x38 : ByteArray) => CallK Tryz.prog 57 #[.string x38] w22 (.v (.one .slc)) (fun (x39 : SlT) w40 => RunK Tryz.prog (Builtin.append_ #[38, 38] 38 #[.slice s13.1.1 s13.1.2.1 s13.1.2.2, .slice x39.1 x39.2.1 x39.2.2]) w40 (.v (.one .slc)) (fun (x41 : SlT) w42 => next15 ((x41.1, x41.2.1, x41.2.2), IntKind.i64.wrap (s13.2.1 + 1), ()) w42))))
  (ifB (x17 == 68)
  (LdK (.int .i64) ((ad g1).add 5) w22 (fun (x43 : Int) => CallK Tryz.prog 20 #[.int .i64 x43] w22 (.v (.one .slc)) (fun (x44 : SlT) w45 => RunK Tryz.prog (Builtin.append_ #[38, 38] 38 #[.slice s13.1.1 s13.1.2.1 s13.1.2.2, .slice x44.1 x44.2.1 x44.2.2]) w45 (.v (.one .slc)) (fun (x46 : SlT) w47 => next15 ((x46.1, x46.2.1, x46.2.2), IntKind.i64.wrap (s13.2.1 + 1), ()) w47))))
  (ifB (x17 == 86)
  (LdK (.int .i64) ((ad g1).add 6) w22 (fun (x48 : Int) => CallK Tryz.prog 20 #[.int .i64 x48] w22 (.v (.one .slc)) (fun (x49 : SlT) w50 => RunK Tryz.prog (Builtin.append_ #[38, 38] 38 #[.slice s13.1.1 s13.1.2.1 s13.1.2.2, .slice x49.1 x49.2.1 x49.2.2]) w50 (.v (.one .slc)) (fun (x51 : SlT) w52 => next15 ((x51.1, x51.2.1, x51.2.2), IntKind.i64.wrap (s13.2.1 + 1), ()) w52))))
  (LdsK KZ3 ((ad g1).add 7) w22 (fun (x53 : YZ3) => CallK Tryz.prog 58 #[.agg (LZ3 x53).toArray, .bool false] w22 (.tup [.one .str, .one (.int .i64)]) (fun (x54 : ByteArray × Int × Unit) w55 => ifB (x54.2.1 != 0)
  (K (.tuple #[.slice none 0 0, .int .i64 x54.2.1]) w55)
  (NnK 8 (RunK Tryz.prog (Instr.buildSlice 38 2 #[(0, .int .u8 (IntKind.u8.wrap (Int.fdiv (x54.1.size : Int) (2 ^ (min (Int.toNat 8) 64))))), (1, .int .u8 (IntKind.u8.wrap (x54.1.size : Int)))]) w55 (.v (.one .slc)) (fun (x56 : SlT) w57 => RunK Tryz.prog (Builtin.append_ #[38, 38] 38 #[.slice s13.1.1 s13.1.2.1 s13.1.2.2, .slice x56.1 x56.2.1 x56.2.2]) w57 (.v (.one .slc)) (fun (x58 : SlT) w59 => RunK Tryz.prog (Builtin.append_ #[38, 9] 38 #[.slice x58.1 x58.2.1 x58.2.2, .string x54.1]) w59 (.v (.one .slc)) (fun (x60 : SlT) w61 => next15 ((x60.1, x60.2.1, x60.2.2), IntKind.i64.wrap (s13.2.1 + 1), ()) w61))))))))))))))))))))
  (K (.tuple #[.slice s13.1.1 s13.1.2.1 s13.1.2.2, .int .i64 0]) w14))
  ((x7.1, x7.2.1, x7.2.2), 0, ()) w12))))))))
def pl13 : Plan := (.seq .auto (.seq .auto (.seq .auto (.seq (.seq .auto (.block (.loop [(5, .one .slc), (22, .one (.int .i64))] .auto))) .auto))))
theorem e13 (p0 : YZ17) (w : World) (K : Value → World → Prop) : vcFunc Tryz.prog Tryz.f13 pl13 [.agg (LZ17 p0).toArray] w K = C13 p0 w K := by kernel_rfl
theorem c13 (p0 : YZ17) (w : World) (K : Value → World → Prop) (h : C13 p0 w K) : Ret Tryz.prog 13 #[.agg (LZ17 p0).toArray] w K := by
  rw [← e13] at h
  exact vcFunc_sound (by kernel_rfl) Tryz.func13 h

end Go.Proofs.YtbadiokobooliaaGreatDoor

/-! ### RefEv -/
set_option linter.unusedVariables false
set_option maxRecDepth 100000
namespace Go.Proofs.YtbadiokobooliaaGreatDoor
open Vc

/-! ### Plain -/

/-! ### Walks -/

end Go.Proofs.YtbadiokobooliaaGreatDoor

/-! ### PlainSpec -/
set_option linter.unusedVariables false
set_option maxRecDepth 100000
namespace Go.Proofs.YtbadiokobooliaaGreatDoor
open Vc

end Go.Proofs.YtbadiokobooliaaGreatDoor

/-! ### CSome11 -/
namespace Go.Proofs.YtbadiokobooliaaGreatDoor
open Vc
set_option maxRecDepth 100000
set_option linter.unusedVariables false

/-- handfast/handfastplay.Do -/
def C48 (p0 : Option Addr) (p1 : YZ13) (p2 : Int) (w : World) (K : Value → World → Prop) : Prop :=
  NewK (.cells ((LZ13 p1).toArray) 27) w (fun g1 w2 => NewK (.cells #[.int .i64 0, .string (⟨#[]⟩ : ByteArray), .string (⟨#[]⟩ : ByteArray), .string (⟨#[]⟩ : ByteArray), .string (⟨#[]⟩ : ByteArray), .int .i64 0, .int .i64 0, .int .i64 0, .string (⟨#[]⟩ : ByteArray), .int .i64 0, .slice none 0 0] 35) w2 (fun g3 w4 => NewK (.cells #[.int .i64 0, .string (⟨#[]⟩ : ByteArray), .string (⟨#[]⟩ : ByteArray), .string (⟨#[]⟩ : ByteArray), .string (⟨#[]⟩ : ByteArray), .int .i64 0, .int .i64 0, .int .i64 0, .string (⟨#[]⟩ : ByteArray), .int .i64 0, .slice none 0 0] 35) w4 (fun g5 w6 => StsK (ad g5) [.int .i64 0, .string (⟨#[]⟩ : ByteArray), .string (⟨#[]⟩ : ByteArray), .string (⟨#[]⟩ : ByteArray), .string (⟨#[]⟩ : ByteArray), .int .i64 0, .int .i64 0, .int .i64 0, .string (⟨#[]⟩ : ByteArray), .int .i64 0, .slice none 0 0] w6 (fun w7 => LdK (.int .i64) ((ad g1).add 1) w7 (fun (x8 : Int) => CallK Tryz.prog 85 #[.string (⟨#[116]⟩ : ByteArray), .int .i64 x8, .int .i64 5] w7 (.v (.one .str)) (fun (x9 : ByteArray) w10 => JoinK (ByteArray × Unit) (fun J11 => LdK (.int .i64) ((ad g1).add 1) w10 (fun (x14 : Int) => NzK 19 (ifB ((x14.tmod 19) == 18)
  (LdK .str ((ad g1).add 5) w10 (fun (x15 : ByteArray) => CallK Tryz.prog 49 #[.string x15, .int .i64 14] w10 (.v (.one .str)) (fun (x16 : ByteArray) w17 => J11 (x16, ()) w17)))
  (J11 (x9, ()) w10))))
  (fun _ s12 w13 => LdK (.int .i64) ((ad g1).add 0) w13 (fun (x18 : Int) => CallK Tryz.prog 22 #[.int .i64 x18, .int .i64 20] w13 (.v (.one (.int .i64))) (fun (x19 : Int) w20 => ifB (x19 == 0)
  (StK ((ad g5).add 0) (.int .i64 1) w20 (fun w21 => LdsK KZ17 (ad g5) w21 (fun (x22 : YZ17) => StsK (ad g3) (LZ17 x22) w21 (fun w23 => LdsK KZ17 (ad g3) w23 (fun (x24 : YZ17) => K (.agg (LZ17 x24).toArray) w23)))))
  (ifB (decide (x19 < 7))
  (LdsK [.slc, .slc] ((ad g1).add 6) w20 (fun (x25 : SlT × SlT × Unit) => CallK Tryz.prog 86 #[.agg #[.slice x25.1.1 x25.1.2.1 x25.1.2.2, .slice x25.2.1.1 x25.2.1.2.1 x25.2.1.2.2]] w20 (.v (.agg KZ3)) (fun (x26 : YZ3) w27 => StK ((ad g5).add 0) (.int .i64 2) w27 (fun w28 => StK ((ad g5).add 1) (.string s12.1) w28 (fun w29 => StsK ((ad g5).add 7) (LZ3 x26) w29 (fun w30 => LdK (.int .i64) ((ad g1).add 2) w30 (fun (x31 : Int) => NzK 17 (ifB ((x31.tmod 17) == 16)
  (LdsK [.slc, .slc] ((ad g1).add 6) w30 (fun (x32 : SlT × SlT × Unit) => CallK Tryz.prog 87 #[.agg #[.slice x32.1.1 x32.1.2.1 x32.1.2.2, .slice x32.2.1.1 x32.2.1.2.1 x32.2.1.2.2]] w30 (.v (.agg KZ3)) (fun (x33 : YZ3) w34 => StsK ((ad g5).add 7) (LZ3 x33) w34 (fun w35 => LdsK KZ17 (ad g5) w35 (fun (x36 : YZ17) => StsK (ad g3) (LZ17 x36) w35 (fun w37 => LdsK KZ17 (ad g3) w37 (fun (x38 : YZ17) => K (.agg (LZ17 x38).toArray) w37)))))))
  (LdsK KZ17 (ad g5) w30 (fun (x39 : YZ17) => StsK (ad g3) (LZ17 x39) w30 (fun w40 => LdsK KZ17 (ad g3) w40 (fun (x41 : YZ17) => K (.agg (LZ17 x41).toArray) w40))))))))))))
  (ifB (decide (x19 < 11))
  (JoinK (Unit) (fun J42 => DrewK w20 (fun w45 => HoldK (fun S46 => InK S46 ((ad g1).add 1) (LdK (.int .i64) ((ad g1).add 1) w45 (fun (x47 : Int) => InK S46 ((ad g1).add 3) (LdK (.int .i64) ((ad g1).add 3) w45 (fun (x48 : Int) => InK S46 ((ad g1).add 4) (LdK (.int .i64) ((ad g1).add 4) w45 (fun (x49 : Int) => AndK (RunK Tryz.prog (Instr.buildSlice 23 3 #[(0, .string (⟨#[108, 105, 98, 111, 114]⟩ : ByteArray)), (1, .string (⟨#[114, 97, 105, 110]⟩ : ByteArray)), (2, .string (⟨#[195, 182, 108]⟩ : ByteArray))]) w45 (.v (.one .slc)) (fun (x50 : SlT) w51 => KeepK S46 w45 w51 (CallK Tryz.prog 22 #[.int .i64 x47, .int .i64 3] w51 (.v (.one (.int .i64))) (fun (x52 : Int) w53 => KeepK S46 w51 w53 (IdxK x50.1 x50.2.1 x52 1 (fun a54 => InK S46 a54 (LdK .str a54 w53 (fun (x55 : ByteArray) => CallK Tryz.prog 22 #[.int .i64 x48, .int .i64 (IntKind.i64.wrap (p2 + 2))] w53 (.v (.one (.int .i64))) (fun (x56 : Int) w57 => KeepK S46 w53 w57 (CallK Tryz.prog 22 #[.int .i64 x49, .int .i64 30] w57 (.v (.one (.int .i64))) (fun (x58 : Int) w59 => KeepK S46 w57 w59 (StK ((ad g5).add 0) (.int .i64 3) w59 (fun w60 => KeepK S46 w59 w60 (StK ((ad g5).add 2) (.string x55) w60 (fun w61 => KeepK S46 w60 w61 (StK ((ad g5).add 5) (.int .i64 x56) w61 (fun w62 => KeepK S46 w61 w62 (StK ((ad g5).add 6) (.int .i64 (IntKind.i64.wrap (x58 - 10))) w62 (fun w63 => KeepK S46 w62 w63 (J42 (()) w63))))))))))))))))))))
  (CallK Tryz.prog 22 #[.int .i64 x47, .int .i64 3] w45 (.v (.one (.int .i64))) (fun (x64 : Int) w65 => KeepK S46 w45 w65 (AndK (RunK Tryz.prog (Instr.buildSlice 23 3 #[(0, .string (⟨#[108, 105, 98, 111, 114]⟩ : ByteArray)), (1, .string (⟨#[114, 97, 105, 110]⟩ : ByteArray)), (2, .string (⟨#[195, 182, 108]⟩ : ByteArray))]) w65 (.v (.one .slc)) (fun (x66 : SlT) w67 => KeepK S46 w65 w67 (IdxK x66.1 x66.2.1 x64 1 (fun a68 => InK S46 a68 (LdK .str a68 w67 (fun (x69 : ByteArray) => CallK Tryz.prog 22 #[.int .i64 x48, .int .i64 (IntKind.i64.wrap (p2 + 2))] w67 (.v (.one (.int .i64))) (fun (x70 : Int) w71 => KeepK S46 w67 w71 (CallK Tryz.prog 22 #[.int .i64 x49, .int .i64 30] w71 (.v (.one (.int .i64))) (fun (x72 : Int) w73 => KeepK S46 w71 w73 (StK ((ad g5).add 0) (.int .i64 3) w73 (fun w74 => KeepK S46 w73 w74 (StK ((ad g5).add 2) (.string x69) w74 (fun w75 => KeepK S46 w74 w75 (StK ((ad g5).add 5) (.int .i64 x70) w75 (fun w76 => KeepK S46 w75 w76 (StK ((ad g5).add 6) (.int .i64 (IntKind.i64.wrap (x72 - 10))) w76 (fun w77 => KeepK S46 w76 w77 (J42 (()) w77))))))))))))))))))
  (CallK Tryz.prog 22 #[.int .i64 x48, .int .i64 (IntKind.i64.wrap (p2 + 2))] w65 (.v (.one (.int .i64))) (fun (x78 : Int) w79 => KeepK S46 w65 w79 (AndK (RunK Tryz.prog (Instr.buildSlice 23 3 #[(0, .string (⟨#[108, 105, 98, 111, 114]⟩ : ByteArray)), (1, .string (⟨#[114, 97, 105, 110]⟩ : ByteArray)), (2, .string (⟨#[195, 182, 108]⟩ : ByteArray))]) w79 (.v (.one .slc)) (fun (x80 : SlT) w81 => KeepK S46 w79 w81 (IdxK x80.1 x80.2.1 x64 1 (fun a82 => InK S46 a82 (LdK .str a82 w81 (fun (x83 : ByteArray) => CallK Tryz.prog 22 #[.int .i64 x49, .int .i64 30] w81 (.v (.one (.int .i64))) (fun (x84 : Int) w85 => KeepK S46 w81 w85 (StK ((ad g5).add 0) (.int .i64 3) w85 (fun w86 => KeepK S46 w85 w86 (StK ((ad g5).add 2) (.string x83) w86 (fun w87 => KeepK S46 w86 w87 (StK ((ad g5).add 5) (.int .i64 x78) w87 (fun w88 => KeepK S46 w87 w88 (StK ((ad g5).add 6) (.int .i64 (IntKind.i64.wrap (x84 - 10))) w88 (fun w89 => KeepK S46 w88 w89 (J42 (()) w89))))))))))))))))
  (CallK Tryz.prog 22 #[.int .i64 x49, .int .i64 30] w79 (.v (.one (.int .i64))) (fun (x90 : Int) w91 => KeepK S46 w79 w91 (AndK (RunK Tryz.prog (Instr.buildSlice 23 3 #[(0, .string (⟨#[108, 105, 98, 111, 114]⟩ : ByteArray)), (1, .string (⟨#[114, 97, 105, 110]⟩ : ByteArray)), (2, .string (⟨#[195, 182, 108]⟩ : ByteArray))]) w91 (.v (.one .slc)) (fun (x92 : SlT) w93 => KeepK S46 w91 w93 (IdxK x92.1 x92.2.1 x64 1 (fun a94 => InK S46 a94 (LdK .str a94 w93 (fun (x95 : ByteArray) => StK ((ad g5).add 0) (.int .i64 3) w93 (fun w96 => KeepK S46 w93 w96 (StK ((ad g5).add 2) (.string x95) w96 (fun w97 => KeepK S46 w96 w97 (StK ((ad g5).add 5) (.int .i64 x78) w97 (fun w98 => KeepK S46 w97 w98 (StK ((ad g5).add 6) (.int .i64 (IntKind.i64.wrap (x90 - 10))) w98 (fun w99 => KeepK S46 w98 w99 (J42 (()) w99))))))))))))))
  (StK ((ad g5).add 0) (.int .i64 3) w91 (fun w100 => KeepK S46 w91 w100 (RunK Tryz.prog (Instr.buildSlice 23 3 #[(0, .string (⟨#[108, 105, 98, 111, 114]⟩ : ByteArray)), (1, .string (⟨#[114, 97, 105, 110]⟩ : ByteArray)), (2, .string (⟨#[195, 182, 108]⟩ : ByteArray))]) w100 (.v (.one .slc)) (fun (x101 : SlT) w102 => KeepK S46 w100 w102 (IdxK x101.1 x101.2.1 x64 1 (fun a103 => InK S46 a103 (LdK .str a103 w102 (fun (x104 : ByteArray) => StK ((ad g5).add 2) (.string x104) w102 (fun w105 => KeepK S46 w102 w105 (StK ((ad g5).add 5) (.int .i64 x78) w105 (fun w106 => KeepK S46 w105 w106 (StK ((ad g5).add 6) (.int .i64 (IntKind.i64.wrap (x90 - 10))) w106 (fun w107 => KeepK S46 w106 w107 (J42 (()) w107))))))))))))))))))))))))))))))))
  (fun _ s43 w44 => LdK (.int .i64) ((ad g1).add 2) w44 (fun (x108 : Int) => NzK 5 (ifB ((x108.tmod 5) == 0)
  (ifB (!(Option.isNone p0))
  (CallK Tryz.prog 88 #[.pointer p0] w44 (.v (.one .slc)) (fun (x109 : SlT) w110 => LoopK (Int × Unit) (fun _ s111 w112 next113 => ifB (decide (s111.1 < (x109.2.1 : Int)))
  (IdxK x109.1 x109.2.1 s111.1 5 (fun a114 => LdsK KZ8 a114 w112 (fun (x115 : YZ8) => NewK (.cells #[.bool false, .string (⟨#[]⟩ : ByteArray), .string (⟨#[]⟩ : ByteArray), .int .i64 0, .int .i64 0] 150) w112 (fun g116 w117 => StsK (ad g116) (LZ8 x115) w117 (fun w118 => DrewK w118 (fun w119 => LdK .bool ((ad g116).add 0) w119 (fun (x120 : Bool) => ifB (!x120)
  (LdK (.int .i64) ((ad g116).add 3) w119 (fun (x121 : Int) => optA p0 (fun a122 => LdK (.int .i64) (a122.add 0) w119 (fun (x123 : Int) => ifB (decide (x121 ≤ x123))
  (DrewK w119 (fun w124 => HoldK (fun S125 => InK S125 ((ad g116).add 1) (LdK .str ((ad g116).add 1) w124 (fun (x126 : ByteArray) => InK S125 ((ad g116).add 3) (LdK (.int .i64) ((ad g116).add 3) w124 (fun (x127 : Int) => StK ((ad g5).add 2) (.string x126) w124 (fun w128 => KeepK S125 w124 w128 (StK ((ad g5).add 5) (.int .i64 x127) w128 (fun w129 => KeepK S125 w128 w129 (next113 (IntKind.i64.wrap (s111.1 + 1), ()) w129)))))))))))
  (next113 (IntKind.i64.wrap (s111.1 + 1), ()) w119)))))
  (next113 (IntKind.i64.wrap (s111.1 + 1), ()) w119))))))))
  (LdK (.int .i64) ((ad g1).add 2) w112 (fun (x130 : Int) => NzK 13 (ifB ((x130.tmod 13) == 12)
  (LdK (.int .i64) ((ad g1).add 4) w112 (fun (x131 : Int) => StK ((ad g5).add 6) (.int .i64 x131) w112 (fun w132 => LdsK KZ17 (ad g5) w132 (fun (x133 : YZ17) => StsK (ad g3) (LZ17 x133) w132 (fun w134 => LdsK KZ17 (ad g3) w134 (fun (x135 : YZ17) => K (.agg (LZ17 x135).toArray) w134))))))
  (LdsK KZ17 (ad g5) w112 (fun (x136 : YZ17) => StsK (ad g3) (LZ17 x136) w112 (fun w137 => LdsK KZ17 (ad g3) w137 (fun (x138 : YZ17) => K (.agg (LZ17 x138).toArray) w137))))))))
  (0, ()) w110))
  (LdK (.int .i64) ((ad g1).add 2) w44 (fun (x139 : Int) => NzK 13 (ifB ((x139.tmod 13) == 12)
  (LdK (.int .i64) ((ad g1).add 4) w44 (fun (x140 : Int) => StK ((ad g5).add 6) (.int .i64 x140) w44 (fun w141 => LdsK KZ17 (ad g5) w141 (fun (x142 : YZ17) => StsK (ad g3) (LZ17 x142) w141 (fun w143 => LdsK KZ17 (ad g3) w143 (fun (x144 : YZ17) => K (.agg (LZ17 x144).toArray) w143))))))
  (LdsK KZ17 (ad g5) w44 (fun (x145 : YZ17) => StsK (ad g3) (LZ17 x145) w44 (fun w146 => LdsK KZ17 (ad g3) w146 (fun (x147 : YZ17) => K (.agg (LZ17 x147).toArray) w146))))))))
  (LdK (.int .i64) ((ad g1).add 2) w44 (fun (x148 : Int) => NzK 13 (ifB ((x148.tmod 13) == 12)
  (LdK (.int .i64) ((ad g1).add 4) w44 (fun (x149 : Int) => StK ((ad g5).add 6) (.int .i64 x149) w44 (fun w150 => LdsK KZ17 (ad g5) w150 (fun (x151 : YZ17) => StsK (ad g3) (LZ17 x151) w150 (fun w152 => LdsK KZ17 (ad g3) w152 (fun (x153 : YZ17) => K (.agg (LZ17 x153).toArray) w152))))))
  (LdsK KZ17 (ad g5) w44 (fun (x154 : YZ17) => StsK (ad g3) (LZ17 x154) w44 (fun w155 => LdsK KZ17 (ad g3) w155 (fun (x156 : YZ17) => K (.agg (LZ17 x156).toArray) w155)))))))))))
  (ifB (decide (x19 < 14))
  (DrewK w20 (fun w157 => HoldK (fun S158 => InK S158 ((ad g1).add 2) (LdK (.int .i64) ((ad g1).add 2) w157 (fun (x159 : Int) => InK S158 ((ad g1).add 4) (LdK (.int .i64) ((ad g1).add 4) w157 (fun (x160 : Int) => CallK Tryz.prog 22 #[.int .i64 x159, .int .i64 3] w157 (.v (.one (.int .i64))) (fun (x161 : Int) w162 => KeepK S158 w157 w162 (CallK Tryz.prog 89 #[.int .i64 (IntKind.i64.wrap (1 + x161))] w162 (.v (.one .str)) (fun (x163 : ByteArray) w164 => KeepK S158 w162 w164 (CatK (⟨#[99, 104]⟩ : ByteArray) x163 (CallK Tryz.prog 22 #[.int .i64 x160, .int .i64 2] w164 (.v (.one (.int .i64))) (fun (x165 : Int) w166 => KeepK S158 w164 w166 (StK ((ad g5).add 0) (.int .i64 4) w166 (fun w167 => KeepK S158 w166 w167 (StK ((ad g5).add 1) (.string s12.1) w167 (fun w168 => KeepK S158 w167 w168 (StK ((ad g5).add 3) (.string ((⟨#[99, 104]⟩ : ByteArray) ++ x163)) w168 (fun w169 => KeepK S158 w168 w169 (StK ((ad g5).add 6) (.int .i64 x165) w169 (fun w170 => KeepK S158 w169 w170 (LdK (.int .i64) ((ad g1).add 2) w170 (fun (x171 : Int) => NzK 3 (ifB ((x171.tmod 3) == 0)
  (ifB (!(Option.isNone p0))
  (optA p0 (fun a172 => LdK .slc (a172.add 1) w170 (fun (x173 : SlT) => LoopK (Int × Unit) (fun _ s174 w175 next176 => ifB (decide (s174.1 < (x173.2.1 : Int)))
  (IdxK x173.1 x173.2.1 s174.1 6 (fun a177 => LdsK KZ12 a177 w175 (fun (x178 : YZ12) => NewK (.cells #[.string (⟨#[]⟩ : ByteArray), .int .i64 0, .int .i64 0, .string (⟨#[]⟩ : ByteArray), .int .i64 0, .slice none 0 0] 157) w175 (fun g179 w180 => StsK (ad g179) (LZ12 x178) w180 (fun w181 => DrewK w181 (fun w182 => HoldK (fun S183 => InK S183 ((ad g179).add 0) (LdK .str ((ad g179).add 0) w182 (fun (x184 : ByteArray) => InK S183 ((ad g179).add 2) (LdsK KZ3 ((ad g179).add 2) w182 (fun (x185 : YZ3) => InK S183 ((ad g179).add 1) (LdK (.int .i64) ((ad g179).add 1) w182 (fun (x186 : Int) => optA p0 (fun a187 => InK S183 (a187.add 2) (LdK .ptr (a187.add 2) w182 (fun (x188 : Option Addr) => CallK Tryz.prog 90 #[.string x184, .agg (LZ3 x185).toArray, .int .i64 x186, .pointer x188] w182 (.tup [.one .slc, .one .slc, .one (.int .i64)]) (fun (x189 : SlT × SlT × Int × Unit) w190 => KeepK S183 w182 w190 (LoopK (Int × Unit) (fun _ s191 w192 next193 => ifB (decide (s191.1 < (x189.2.1.2.1 : Int)))
  (IdxK x189.2.1.1 x189.2.1.2.1 s191.1 5 (fun a194 => LdsK KZ8 a194 w192 (fun (x195 : YZ8) => NewK (.cells #[.bool false, .string (⟨#[]⟩ : ByteArray), .string (⟨#[]⟩ : ByteArray), .int .i64 0, .int .i64 0] 150) w192 (fun g196 w197 => StsK (ad g196) (LZ8 x195) w197 (fun w198 => LdK .bool ((ad g196).add 0) w198 (fun (x199 : Bool) => ifB x199
  (DrewK w198 (fun w200 => HoldK (fun S201 => InK S201 ((ad g179).add 0) (LdK .str ((ad g179).add 0) w200 (fun (x202 : ByteArray) => InK S201 ((ad g196).add 2) (LdK .str ((ad g196).add 2) w200 (fun (x203 : ByteArray) => StK ((ad g5).add 1) (.string x202) w200 (fun w204 => KeepK S201 w200 w204 (StK ((ad g5).add 3) (.string x203) w204 (fun w205 => KeepK S201 w204 w205 (next193 (IntKind.i64.wrap (s191.1 + 1), ()) w205)))))))))))
  (next193 (IntKind.i64.wrap (s191.1 + 1), ()) w198)))))))
  (next176 (IntKind.i64.wrap (s174.1 + 1), ()) w192))
  (0, ()) w190))))))))))))))))))
  (LdsK KZ17 (ad g5) w175 (fun (x206 : YZ17) => StsK (ad g3) (LZ17 x206) w175 (fun w207 => LdsK KZ17 (ad g3) w207 (fun (x208 : YZ17) => K (.agg (LZ17 x208).toArray) w207)))))
  (0, ()) w170)))
  (LdsK KZ17 (ad g5) w170 (fun (x209 : YZ17) => StsK (ad g3) (LZ17 x209) w170 (fun w210 => LdsK KZ17 (ad g3) w210 (fun (x211 : YZ17) => K (.agg (LZ17 x211).toArray) w210)))))
  (LdsK KZ17 (ad g5) w170 (fun (x212 : YZ17) => StsK (ad g3) (LZ17 x212) w170 (fun w213 => LdsK KZ17 (ad g3) w213 (fun (x214 : YZ17) => K (.agg (LZ17 x214).toArray) w213))))))))))))))))))))))))))))
  (ifB (decide (x19 < 17))
  (LdK (.int .i64) ((ad g1).add 3) w20 (fun (x215 : Int) => CallK Tryz.prog 22 #[.int .i64 x215, .int .i64 4] w20 (.v (.one (.int .i64))) (fun (x216 : Int) w217 => StK ((ad g5).add 0) (.int .i64 5) w217 (fun w218 => StK ((ad g5).add 5) (.int .i64 (IntKind.i64.wrap (x216 + p2))) w218 (fun w219 => LdsK KZ17 (ad g5) w219 (fun (x220 : YZ17) => StsK (ad g3) (LZ17 x220) w219 (fun w221 => LdsK KZ17 (ad g3) w221 (fun (x222 : YZ17) => K (.agg (LZ17 x222).toArray) w221))))))))
  (ifB (decide (x19 < 19))
  (JoinK (Unit) (fun J223 => DrewK w20 (fun w226 => HoldK (fun S227 => InK S227 ((ad g1).add 3) (LdK (.int .i64) ((ad g1).add 3) w226 (fun (x228 : Int) => InK S227 ((ad g1).add 1) (LdK (.int .i64) ((ad g1).add 1) w226 (fun (x229 : Int) => AndK (CallK Tryz.prog 22 #[.int .i64 x228, .int .i64 (IntKind.i64.wrap (p2 + 2))] w226 (.v (.one (.int .i64))) (fun (x230 : Int) w231 => KeepK S227 w226 w231 (AndK (RunK Tryz.prog (Instr.buildSlice 23 3 #[(0, .string (⟨#[117, 115, 100]⟩ : ByteArray)), (1, .string (⟨#[101, 117, 114]⟩ : ByteArray)), (2, .string (⟨#[103, 98, 112]⟩ : ByteArray))]) w231 (.v (.one .slc)) (fun (x232 : SlT) w233 => KeepK S227 w231 w233 (CallK Tryz.prog 22 #[.int .i64 x229, .int .i64 3] w233 (.v (.one (.int .i64))) (fun (x234 : Int) w235 => KeepK S227 w233 w235 (IdxK x232.1 x232.2.1 x234 1 (fun a236 => InK S227 a236 (LdK .str a236 w235 (fun (x237 : ByteArray) => StK ((ad g5).add 0) (.int .i64 6) w235 (fun w238 => KeepK S227 w235 w238 (StK ((ad g5).add 5) (.int .i64 x230) w238 (fun w239 => KeepK S227 w238 w239 (StK ((ad g5).add 4) (.string x237) w239 (fun w240 => KeepK S227 w239 w240 (J223 (()) w240))))))))))))))
  (CallK Tryz.prog 22 #[.int .i64 x229, .int .i64 3] w231 (.v (.one (.int .i64))) (fun (x241 : Int) w242 => KeepK S227 w231 w242 (AndK (RunK Tryz.prog (Instr.buildSlice 23 3 #[(0, .string (⟨#[117, 115, 100]⟩ : ByteArray)), (1, .string (⟨#[101, 117, 114]⟩ : ByteArray)), (2, .string (⟨#[103, 98, 112]⟩ : ByteArray))]) w242 (.v (.one .slc)) (fun (x243 : SlT) w244 => KeepK S227 w242 w244 (IdxK x243.1 x243.2.1 x241 1 (fun a245 => InK S227 a245 (LdK .str a245 w244 (fun (x246 : ByteArray) => StK ((ad g5).add 0) (.int .i64 6) w244 (fun w247 => KeepK S227 w244 w247 (StK ((ad g5).add 5) (.int .i64 x230) w247 (fun w248 => KeepK S227 w247 w248 (StK ((ad g5).add 4) (.string x246) w248 (fun w249 => KeepK S227 w248 w249 (J223 (()) w249))))))))))))
  (StK ((ad g5).add 0) (.int .i64 6) w242 (fun w250 => KeepK S227 w242 w250 (AndK (RunK Tryz.prog (Instr.buildSlice 23 3 #[(0, .string (⟨#[117, 115, 100]⟩ : ByteArray)), (1, .string (⟨#[101, 117, 114]⟩ : ByteArray)), (2, .string (⟨#[103, 98, 112]⟩ : ByteArray))]) w250 (.v (.one .slc)) (fun (x251 : SlT) w252 => KeepK S227 w250 w252 (IdxK x251.1 x251.2.1 x241 1 (fun a253 => InK S227 a253 (LdK .str a253 w252 (fun (x254 : ByteArray) => StK ((ad g5).add 5) (.int .i64 x230) w252 (fun w255 => KeepK S227 w252 w255 (StK ((ad g5).add 4) (.string x254) w255 (fun w256 => KeepK S227 w255 w256 (J223 (()) w256))))))))))
  (StK ((ad g5).add 5) (.int .i64 x230) w250 (fun w257 => KeepK S227 w250 w257 (RunK Tryz.prog (Instr.buildSlice 23 3 #[(0, .string (⟨#[117, 115, 100]⟩ : ByteArray)), (1, .string (⟨#[101, 117, 114]⟩ : ByteArray)), (2, .string (⟨#[103, 98, 112]⟩ : ByteArray))]) w257 (.v (.one .slc)) (fun (x258 : SlT) w259 => KeepK S227 w257 w259 (IdxK x258.1 x258.2.1 x241 1 (fun a260 => InK S227 a260 (LdK .str a260 w259 (fun (x261 : ByteArray) => StK ((ad g5).add 4) (.string x261) w259 (fun w262 => KeepK S227 w259 w262 (J223 (()) w262)))))))))))))))))))
  (RunK Tryz.prog (Instr.buildSlice 23 3 #[(0, .string (⟨#[117, 115, 100]⟩ : ByteArray)), (1, .string (⟨#[101, 117, 114]⟩ : ByteArray)), (2, .string (⟨#[103, 98, 112]⟩ : ByteArray))]) w226 (.v (.one .slc)) (fun (x263 : SlT) w264 => KeepK S227 w226 w264 (CallK Tryz.prog 22 #[.int .i64 x228, .int .i64 (IntKind.i64.wrap (p2 + 2))] w264 (.v (.one (.int .i64))) (fun (x265 : Int) w266 => KeepK S227 w264 w266 (CallK Tryz.prog 22 #[.int .i64 x229, .int .i64 3] w266 (.v (.one (.int .i64))) (fun (x267 : Int) w268 => KeepK S227 w266 w268 (IdxK x263.1 x263.2.1 x267 1 (fun a269 => InK S227 a269 (LdK .str a269 w268 (fun (x270 : ByteArray) => StK ((ad g5).add 0) (.int .i64 6) w268 (fun w271 => KeepK S227 w268 w271 (StK ((ad g5).add 5) (.int .i64 x265) w271 (fun w272 => KeepK S227 w271 w272 (StK ((ad g5).add 4) (.string x270) w272 (fun w273 => KeepK S227 w272 w273 (J223 (()) w273)))))))))))))))))))))))
  (fun _ s224 w225 => ifB (!(Option.isNone p0))
  (CallK Tryz.prog 91 #[.pointer p0] w225 (.v (.one .slc)) (fun (x274 : SlT) w275 => LoopK (Int × Unit) (fun _ s276 w277 next278 => ifB (decide (s276.1 < (x274.2.1 : Int)))
  (IdxK x274.1 x274.2.1 s276.1 4 (fun a279 => LdsK KZ2 a279 w277 (fun (x280 : YZ2) => NewK (.cells #[.int .i64 0, .string (⟨#[]⟩ : ByteArray), .int .i64 0, .int .i64 0] 164) w277 (fun g281 w282 => StsK (ad g281) (LZ2 x280) w282 (fun w283 => LdK (.int .i64) ((ad g1).add 2) w283 (fun (x284 : Int) => CallK Tryz.prog 22 #[.int .i64 x284, .int .i64 4] w283 (.v (.one (.int .i64))) (fun (x285 : Int) w286 => ifB (decide (s276.1 ≤ x285))
  (LdK (.int .i64) ((ad g281).add 2) w286 (fun (x287 : Int) => LdK (.int .i64) ((ad g281).add 3) w286 (fun (x288 : Int) => ifB (x287 != x288)
  (DrewK w286 (fun w289 => HoldK (fun S290 => InK S290 ((ad g281).add 0) (LdK (.int .i64) ((ad g281).add 0) w289 (fun (x291 : Int) => InK S290 ((ad g281).add 1) (LdK .str ((ad g281).add 1) w289 (fun (x292 : ByteArray) => StK ((ad g5).add 5) (.int .i64 x291) w289 (fun w293 => KeepK S290 w289 w293 (StK ((ad g5).add 4) (.string x292) w293 (fun w294 => KeepK S290 w293 w294 (next278 (IntKind.i64.wrap (s276.1 + 1), ()) w294)))))))))))
  (next278 (IntKind.i64.wrap (s276.1 + 1), ()) w286))))
  (next278 (IntKind.i64.wrap (s276.1 + 1), ()) w286))))))))
  (LdK (.int .i64) ((ad g5).add 5) w277 (fun (x295 : Int) => LdK .str ((ad g5).add 4) w277 (fun (x296 : ByteArray) => CallK Tryz.prog 92 #[.pointer p0, .int .i64 x295, .string x296] w277 (.v (.one (.int .i64))) (fun (x297 : Int) w298 => StK ((ad g5).add 6) (.int .i64 x297) w298 (fun w299 => LdK (.int .i64) ((ad g1).add 2) w299 (fun (x300 : Int) => NzK 7 (ifB ((x300.tmod 7) == 6)
  (LdK (.int .i64) ((ad g1).add 4) w299 (fun (x301 : Int) => StK ((ad g5).add 6) (.int .i64 x301) w299 (fun w302 => LdsK KZ17 (ad g5) w302 (fun (x303 : YZ17) => StsK (ad g3) (LZ17 x303) w302 (fun w304 => LdsK KZ17 (ad g3) w304 (fun (x305 : YZ17) => K (.agg (LZ17 x305).toArray) w304))))))
  (LdsK KZ17 (ad g5) w299 (fun (x306 : YZ17) => StsK (ad g3) (LZ17 x306) w299 (fun w307 => LdsK KZ17 (ad g3) w307 (fun (x308 : YZ17) => K (.agg (LZ17 x308).toArray) w307))))))))))))
  (0, ()) w275))
  (LdK (.int .i64) ((ad g1).add 2) w225 (fun (x309 : Int) => NzK 7 (ifB ((x309.tmod 7) == 6)
  (LdK (.int .i64) ((ad g1).add 4) w225 (fun (x310 : Int) => StK ((ad g5).add 6) (.int .i64 x310) w225 (fun w311 => LdsK KZ17 (ad g5) w311 (fun (x312 : YZ17) => StsK (ad g3) (LZ17 x312) w311 (fun w313 => LdsK KZ17 (ad g3) w313 (fun (x314 : YZ17) => K (.agg (LZ17 x314).toArray) w313))))))
  (LdsK KZ17 (ad g5) w225 (fun (x315 : YZ17) => StsK (ad g3) (LZ17 x315) w225 (fun w316 => LdsK KZ17 (ad g3) w316 (fun (x317 : YZ17) => K (.agg (LZ17 x317).toArray) w316)))))))))
  (DrewK w20 (fun w318 => HoldK (fun S319 => InK S319 ((ad g1).add 1) (LdK (.int .i64) ((ad g1).add 1) w318 (fun (x320 : Int) => InK S319 ((ad g1).add 5) (LdK .str ((ad g1).add 5) w318 (fun (x321 : ByteArray) => InK S319 ((ad g1).add 3) (LdK (.int .i64) ((ad g1).add 3) w318 (fun (x322 : Int) => InK S319 ((ad g1).add 4) (LdK (.int .i64) ((ad g1).add 4) w318 (fun (x323 : Int) => CallK Tryz.prog 22 #[.int .i64 x320, .int .i64 9] w318 (.v (.one (.int .i64))) (fun (x324 : Int) w325 => KeepK S319 w318 w325 (CallK Tryz.prog 49 #[.string x321, .int .i64 5] w325 (.v (.one .str)) (fun (x326 : ByteArray) w327 => KeepK S319 w325 w327 (StsK (ad g5) [.int .i64 x324, .string x326, .string (⟨#[]⟩ : ByteArray), .string (⟨#[]⟩ : ByteArray), .string (⟨#[]⟩ : ByteArray), .int .i64 x322, .int .i64 x323, .int .i64 0, .string (⟨#[]⟩ : ByteArray), .int .i64 0, .slice none 0 0] w327 (fun w328 => KeepK S319 w327 w328 (LdsK KZ17 (ad g5) w328 (fun (x329 : YZ17) => StsK (ad g3) (LZ17 x329) w328 (fun w330 => LdsK KZ17 (ad g3) w330 (fun (x331 : YZ17) => K (.agg (LZ17 x331).toArray) w330))))))))))))))))))))))))))))))))))
def pl48 : Plan := (.seq .auto (.seq .auto (.seq .auto (.join [(8, .one .str)] .auto (.seq (.seq .auto (.block (.seq .auto (.cond .auto (.seq .auto (.cond .auto (.seq .auto (.cond (.join [] (.held (.soft 1 (.soft 2 (.soft 6 (.soft 7 (.soft 8 (.soft 9 (.soft 11 (.soft 12 (.soft 15 (.pick 0 (.pick 3 (.soft 4 (.soft 5 (.pick 10 (.pick 13 (.soft 14 (.pick 16 (.soft 17 (.pick 18 (.soft 19 (.pick 20 (.soft 21 (.pick 22 .done .stop)) .stop)) .stop)) .stop)) .stop) .stop))) .stop) (.pick 3 (.pick 0 (.soft 4 (.soft 5 (.pick 10 (.pick 13 (.soft 14 (.pick 16 (.soft 17 (.pick 18 (.soft 19 (.pick 20 (.soft 21 (.pick 22 .done .stop)) .stop)) .stop)) .stop)) .stop) .stop))) (.pick 10 (.pick 0 (.soft 4 (.soft 5 (.pick 13 (.soft 14 (.pick 16 (.soft 17 (.pick 18 (.soft 19 (.pick 20 (.soft 21 (.pick 22 .done .stop)) .stop)) .stop)) .stop)) .stop))) (.pick 13 (.soft 14 (.pick 0 (.soft 4 (.soft 5 (.pick 16 (.soft 17 (.pick 18 (.soft 19 (.pick 20 (.soft 21 (.pick 22 .done .stop)) .stop)) .stop)) .stop))) (.pick 16 (.pick 0 (.soft 4 (.soft 5 (.soft 17 (.pick 18 (.soft 19 (.pick 20 (.soft 21 (.pick 22 .done .stop)) .stop)) .stop)))) .stop) .stop))) .stop)) .stop)) .stop)))))))))))) (.seq (.seq .auto (.cond (.seq .auto (.block (.loop [(101, .one (.int .i64))] (.seq .auto (.seq .auto (.seq (.block (.seq .auto (.seq .still (.cond (.held (.soft 0 (.soft 1 (.soft 2 (.soft 3 (.soft 4 (.pick 5 (.soft 6 (.pick 7 .done .stop)) .stop))))))) .auto)))) .auto)))))) .auto)) .auto)) (.seq .auto (.cond (.seq (.held (.soft 0 (.soft 1 (.soft 2 (.soft 7 (.soft 8 (.soft 10 (.pick 3 (.soft 4 (.pick 5 (.soft 6 (.pick 9 (.pick 11 (.soft 12 (.pick 13 (.soft 14 (.pick 15 (.soft 16 (.pick 17 .done .stop)) .stop)) .stop)) .stop) .stop)) .stop)) .stop)))))))) (.seq .auto (.cond (.seq .auto (.block (.loop [(161, .one (.int .i64))] (.seq .auto (.seq .auto (.seq (.block (.seq .auto (.seq (.held (.soft 0 (.soft 1 (.soft 2 (.soft 3 (.soft 4 (.soft 5 (.soft 6 (.soft 7 (.soft 8 (.soft 9 (.pick 10 (.soft 11 (.soft 12 (.soft 13 (.soft 14 (.soft 15 (.soft 16 (.soft 17 .done))))))) .stop)))))))))))) (.seq .auto (.block (.loop [(182, .one (.int .i64))] (.seq .auto (.seq .auto (.seq (.block (.seq .auto (.seq .auto (.cond (.held (.soft 0 (.soft 1 (.soft 2 (.soft 3 (.soft 4 (.pick 5 (.soft 6 (.pick 7 .done .stop)) .stop))))))) .auto)))) .auto))))))))) .auto)))))) .auto))) (.seq .auto (.cond .auto (.seq .auto (.cond (.join [] (.held (.soft 0 (.soft 1 (.soft 2 (.soft 3 (.soft 6 (.soft 7 (.soft 11 (.pick 4 (.pick 5 (.pick 8 (.soft 9 (.soft 10 (.pick 12 (.soft 13 (.pick 14 (.soft 15 (.pick 16 .done .stop)) .stop)) .stop))) .stop) (.pick 8 (.pick 5 (.soft 9 (.soft 10 (.pick 12 (.soft 13 (.pick 14 (.soft 15 (.pick 16 .done .stop)) .stop)) .stop))) (.pick 12 (.soft 13 (.pick 5 (.soft 9 (.soft 10 (.pick 14 (.soft 15 (.pick 16 .done .stop)) .stop))) (.pick 14 (.pick 5 (.soft 9 (.soft 10 (.soft 15 (.pick 16 .done .stop)))) .stop) .stop))) .stop)) .stop)) (.pick 5 (.pick 4 (.pick 8 (.soft 9 (.soft 10 (.pick 12 (.soft 13 (.pick 14 (.soft 15 (.pick 16 .done .stop)) .stop)) .stop))) .stop) .stop) .stop)))))))))) (.seq (.seq .auto (.cond (.seq (.seq .auto (.block (.loop [(228, .one (.int .i64))] (.seq .auto (.seq .auto (.seq (.block (.seq .auto (.seq .auto (.cond (.held (.soft 0 (.soft 1 (.soft 2 (.soft 3 (.soft 4 (.pick 5 (.soft 6 (.pick 7 .done .stop)) .stop))))))) .auto)))) .auto)))))) .auto) .auto)) .auto)) (.held (.soft 0 (.soft 1 (.soft 3 (.soft 4 (.soft 6 (.soft 7 (.soft 8 (.soft 9 (.pick 2 (.pick 5 (.soft 10 (.pick 11 .done .stop)) .stop) .stop)))))))))))))))))))))))) .auto)))))
theorem e48 (p0 : Option Addr) (p1 : YZ13) (p2 : Int) (w : World) (K : Value → World → Prop) : vcFunc Tryz.prog Tryz.f48 pl48 [.pointer p0, .agg (LZ13 p1).toArray, .int .i64 p2] w K = C48 p0 p1 p2 w K := by kernel_rfl

end Go.Proofs.YtbadiokobooliaaGreatDoor

/-! ### SomeSpec -/
set_option linter.unusedVariables false
set_option maxRecDepth 100000
namespace Go.Proofs.YtbadiokobooliaaGreatDoor
open Vc

abbrev EK : List Ck := [.int .i64, .str, .str, .str, .str, .int .i64, .int .i64, .raw]
def evL (e : EvT) : List Value := [.int .i64 e.1, .string e.2.1, .string e.2.2.1, .string e.2.2.2.1, .string e.2.2.2.2.1, .int .i64 e.2.2.2.2.2.1, .int .i64 e.2.2.2.2.2.2.1, e.2.2.2.2.2.2.2.1]
theorem evL_one {e : EvT} (h : one1 e.2.2.2.2.2.2.2.1 = true) : (evL e).all one1 = true := by
  show (one1 (.int .i64 _) && (one1 (.string _) && (one1 (.string _) && (one1 (.string _) && (one1 (.string _) && (one1 (.int .i64 _) && (one1 (.int .i64 _) && (one1 e.2.2.2.2.2.2.2.1 && true)))))))) = true
  rw [h]; rfl

end Go.Proofs.YtbadiokobooliaaGreatDoor

/-! ### CReadG -/
namespace Go.Proofs.YtbadiokobooliaaGreatDoor
open Vc
set_option maxRecDepth 100000
set_option linter.unusedVariables false
/-- (*handfast/read.reader).place -/
def C205 (p0 : Addr) (w : World) (K : Value → World → Prop) : Prop :=
  LdK .slc (p0.add 0) w (fun (x1 : SlT) => ifB (decide ((x1.2.1 : Int) > 0))
  (LdK .slc (p0.add 0) w (fun (x2 : SlT) => IdxK x2.1 x2.2.1 0 2 (fun a3 => LdK (.int .i64) (a3.add 1) w (fun (x4 : Int) => K (.int .i64 x4) w))))
  (LdK (.int .i64) (p0.add 1) w (fun (x5 : Int) => K (.int .i64 x5) w)))
def pl205 : Plan := .auto
theorem e205 (p0 : Addr) (w : World) (K : Value → World → Prop) : vcFunc Tryz.prog Tryz.f205 pl205 [.pointer (some p0)] w K = C205 p0 w K := by kernel_rfl
theorem c205 (p0 : Addr) (w : World) (K : Value → World → Prop) (h : C205 p0 w K) : Ret Tryz.prog 205 #[.pointer (some p0)] w K := by
  rw [← e205] at h
  exact vcFunc_sound (by kernel_rfl) Tryz.func205 h

/-- (*handfast/read.reader).fail -/
def C189 (p0 : Addr) (p1 : Int) (w : World) (K : Value → World → Prop) : Prop :=
  LdK (.int .i64) (p0.add 3) w (fun (x1 : Int) => ifB (x1 == 0)
  (CallK Tryz.prog 205 #[.pointer (some p0)] w (.v (.one (.int .i64))) (fun (x2 : Int) w3 => StK (p0.add 3) (.int .i64 p1) w3 (fun w4 => StK (p0.add 2) (.int .i64 x2) w4 (fun w5 => K (.tuple #[]) w5))))
  (K (.tuple #[]) w))
def pl189 : Plan := .auto
theorem e189 (p0 : Addr) (p1 : Int) (w : World) (K : Value → World → Prop) : vcFunc Tryz.prog Tryz.f189 pl189 [.pointer (some p0), .int .i64 p1] w K = C189 p0 p1 w K := by kernel_rfl
theorem c189 (p0 : Addr) (p1 : Int) (w : World) (K : Value → World → Prop) (h : C189 p0 p1 w K) : Ret Tryz.prog 189 #[.pointer (some p0), .int .i64 p1] w K := by
  rw [← e189] at h
  exact vcFunc_sound (by kernel_rfl) Tryz.func189 h

/-- (*handfast/read.reader).take -/
def C181 (p0 : Addr) (p1 : Value) (w : World) (K : Value → World → Prop) : Prop :=
  JoinK (Bool × Unit) (fun J1 => LdK (.int .i64) (p0.add 3) w (fun (x4 : Int) => ifB (x4 == 0)
  (LdK .slc (p0.add 0) w (fun (x5 : SlT) => ifB ((x5.2.1 : Int) == 0)
  (J1 (true, ()) w)
  (LdK .slc (p0.add 0) w (fun (x6 : SlT) => IdxK x6.1 x6.2.1 0 2 (fun a7 => LdK .str (a7.add 0) w (fun (x8 : ByteArray) => callV Tryz.prog p1 [.string x8] (.v (.one .bool)) w (fun (x9 : Bool) w10 => J1 ((!x9), ()) w10)))))))
  (J1 (false, ()) w)))
  (fun _ s2 w3 => ifB s2.1
  (CallK Tryz.prog 189 #[.pointer (some p0), .int .i64 2] w3 (.tup []) (fun (x11 : Unit) w12 => LdK (.int .i64) (p0.add 3) w12 (fun (x13 : Int) => ifB (x13 != 0)
  (K (.string (⟨#[]⟩ : ByteArray)) w12)
  (LdK .slc (p0.add 0) w12 (fun (x14 : SlT) => IdxK x14.1 x14.2.1 0 2 (fun a15 => LdK .str (a15.add 0) w12 (fun (x16 : ByteArray) => LdK .slc (p0.add 0) w12 (fun (x17 : SlT) => SubK x17.1 x17.2.2 1 x17.2.1 x17.2.2 2 (fun a18 l19 c20 => StK (p0.add 0) (.slice a18 l19 c20) w12 (fun w21 => K (.string x16) w21))))))))))
  (LdK (.int .i64) (p0.add 3) w3 (fun (x22 : Int) => ifB (x22 != 0)
  (K (.string (⟨#[]⟩ : ByteArray)) w3)
  (LdK .slc (p0.add 0) w3 (fun (x23 : SlT) => IdxK x23.1 x23.2.1 0 2 (fun a24 => LdK .str (a24.add 0) w3 (fun (x25 : ByteArray) => LdK .slc (p0.add 0) w3 (fun (x26 : SlT) => SubK x26.1 x26.2.2 1 x26.2.1 x26.2.2 2 (fun a27 l28 c29 => StK (p0.add 0) (.slice a27 l28 c29) w3 (fun w30 => K (.string x25) w30))))))))))
def pl181 : Plan := (.seq .auto (.seq (.join [(30, .one .bool)] .auto .auto) .auto))
theorem e181 (p0 : Addr) (p1 : Value) (w : World) (K : Value → World → Prop) : vcFunc Tryz.prog Tryz.f181 pl181 [.pointer (some p0), p1] w K = C181 p0 p1 w K := by kernel_rfl
theorem c181 (p0 : Addr) (p1 : Value) (w : World) (K : Value → World → Prop) (h : C181 p0 p1 w K) : Ret Tryz.prog 181 #[.pointer (some p0), p1] w K := by
  rw [← e181] at h
  exact vcFunc_sound (by kernel_rfl) Tryz.func181 h

/-- (*handfast/read.reader).must -/
def C183 (p0 : Addr) (p1 : ByteArray) (w : World) (K : Value → World → Prop) : Prop :=
  NewK (.cells #[.string p1] 9) w (fun g1 w2 => CallK Tryz.prog 181 #[.pointer (some p0), .func (.func 200) #[] #[.pointer (some (ad g1))]] w2 (.v (.one .str)) (fun (x3 : ByteArray) w4 => K (.tuple #[]) w4))
def pl183 : Plan := .auto
theorem e183 (p0 : Addr) (p1 : ByteArray) (w : World) (K : Value → World → Prop) : vcFunc Tryz.prog Tryz.f183 pl183 [.pointer (some p0), .string p1] w K = C183 p0 p1 w K := by kernel_rfl
theorem c183 (p0 : Addr) (p1 : ByteArray) (w : World) (K : Value → World → Prop) (h : C183 p0 p1 w K) : Ret Tryz.prog 183 #[.pointer (some p0), .string p1] w K := by
  rw [← e183] at h
  exact vcFunc_sound (by kernel_rfl) Tryz.func183 h

/-- (*handfast/read.reader).must$1 -/
def C200 (p0 : ByteArray) (c0 : Addr) (w : World) (K : Value → World → Prop) : Prop :=
  LdK .str c0 w (fun (x1 : ByteArray) => K (.bool (p0.toList == x1.toList)) w)
def pl200 : Plan := .auto
theorem e200 (p0 : ByteArray) (c0 : Addr) (w : World) (K : Value → World → Prop) : vcFunc Tryz.prog Tryz.f200 pl200 [.string p0, .pointer (some c0)] w K = C200 p0 c0 w K := by kernel_rfl
theorem c200 (p0 : ByteArray) (c0 : Addr) (w : World) (K : Value → World → Prop) (h : C200 p0 c0 w K) : Ret Tryz.prog 200 #[.string p0, .pointer (some c0)] w K := by
  rw [← e200] at h
  exact vcFunc_sound (by kernel_rfl) Tryz.func200 h

/-- (*handfast/read.reader).name -/
def C184 (p0 : Addr) (w : World) (K : Value → World → Prop) : Prop :=
  CallK Tryz.prog 181 #[.pointer (some p0), .func (.func 108) #[] #[]] w (.v (.one .str)) (fun (x1 : ByteArray) w2 => K (.string x1) w2)
def pl184 : Plan := .auto
theorem e184 (p0 : Addr) (w : World) (K : Value → World → Prop) : vcFunc Tryz.prog Tryz.f184 pl184 [.pointer (some p0)] w K = C184 p0 w K := by kernel_rfl
theorem c184 (p0 : Addr) (w : World) (K : Value → World → Prop) (h : C184 p0 w K) : Ret Tryz.prog 184 #[.pointer (some p0)] w K := by
  rw [← e184] at h
  exact vcFunc_sound (by kernel_rfl) Tryz.func184 h

/-- (*handfast/read.reader).deep -/
def C180 (p0 : Addr) (p1 : Int) (w : World) (K : Value → World → Prop) : Prop :=
  ifB (decide (p1 ≥ 12))
  (CallK Tryz.prog 189 #[.pointer (some p0), .int .i64 5] w (.tup []) (fun (x1 : Unit) w2 => LdK (.int .i64) (p0.add 3) w2 (fun (x3 : Int) => K (.bool (x3 != 0)) w2)))
  (LdK (.int .i64) (p0.add 3) w (fun (x4 : Int) => K (.bool (x4 != 0)) w))
def pl180 : Plan := .auto
theorem e180 (p0 : Addr) (p1 : Int) (w : World) (K : Value → World → Prop) : vcFunc Tryz.prog Tryz.f180 pl180 [.pointer (some p0), .int .i64 p1] w K = C180 p0 p1 w K := by kernel_rfl
theorem c180 (p0 : Addr) (p1 : Int) (w : World) (K : Value → World → Prop) (h : C180 p0 p1 w K) : Ret Tryz.prog 180 #[.pointer (some p0), .int .i64 p1] w K := by
  rw [← e180] at h
  exact vcFunc_sound (by kernel_rfl) Tryz.func180 h

/-- (*handfast/read.reader).pair -/
def C202 (p0 : Addr) (p1 : Int) (w : World) (K : Value → World → Prop) : Prop :=
  CallK Tryz.prog 183 #[.pointer (some p0), .string (⟨#[40]⟩ : ByteArray)] w (.tup []) (fun (x1 : Unit) w2 => CallK Tryz.prog 187 #[.pointer (some p0), .int .i64 p1] w2 (.v (.one .raw)) (fun (x3 : Value) w4 => CallK Tryz.prog 183 #[.pointer (some p0), .string (⟨#[44]⟩ : ByteArray)] w4 (.tup []) (fun (x5 : Unit) w6 => CallK Tryz.prog 187 #[.pointer (some p0), .int .i64 p1] w6 (.v (.one .raw)) (fun (x7 : Value) w8 => CallK Tryz.prog 183 #[.pointer (some p0), .string (⟨#[41]⟩ : ByteArray)] w8 (.tup []) (fun (x9 : Unit) w10 => K (.tuple #[x3, x7]) w10)))))
def pl202 : Plan := .auto
theorem e202 (p0 : Addr) (p1 : Int) (w : World) (K : Value → World → Prop) : vcFunc Tryz.prog Tryz.f202 pl202 [.pointer (some p0), .int .i64 p1] w K = C202 p0 p1 w K := by kernel_rfl
theorem c202 (p0 : Addr) (p1 : Int) (w : World) (K : Value → World → Prop) (h : C202 p0 p1 w K) : Ret Tryz.prog 202 #[.pointer (some p0), .int .i64 p1] w K := by
  rw [← e202] at h
  exact vcFunc_sound (by kernel_rfl) Tryz.func202 h

/-- (*handfast/read.reader).number -/
def C187 (p0 : Addr) (p1 : Int) (w : World) (K : Value → World → Prop) : Prop :=
  CallK Tryz.prog 180 #[.pointer (some p0), .int .i64 p1] w (.v (.one .bool)) (fun (x1 : Bool) w2 => ifB x1
  (K .nilIface w2)
  (CallK Tryz.prog 181 #[.pointer (some p0), .func (.func 201) #[] #[]] w2 (.v (.one .str)) (fun (x3 : ByteArray) w4 => ifB (x3.toList == (⟨#[]⟩ : ByteArray).toList)
  (K .nilIface w4)
  (ifB (x3.toList == (⟨#[102, 105, 120]⟩ : ByteArray).toList)
  (CallK Tryz.prog 183 #[.pointer (some p0), .string (⟨#[40]⟩ : ByteArray)] w4 (.tup []) (fun (x5 : Unit) w6 => CallK Tryz.prog 184 #[.pointer (some p0)] w6 (.v (.one .str)) (fun (x7 : ByteArray) w8 => NewK (.cells #[.string (⟨#[]⟩ : ByteArray)] 251) w8 (fun g9 w10 => StsK (ad g9) [.string x7] w10 (fun w11 => CallK Tryz.prog 183 #[.pointer (some p0), .string (⟨#[41]⟩ : ByteArray)] w11 (.tup []) (fun (x12 : Unit) w13 => LdsK [.str] (ad g9) w13 (fun (x14 : ByteArray × Unit) => K (.iface 251 (.agg #[.string x14.1])) w13)))))))
  (ifB (x3.toList == (⟨#[110, 101, 103]⟩ : ByteArray).toList)
  (CallK Tryz.prog 183 #[.pointer (some p0), .string (⟨#[40]⟩ : ByteArray)] w4 (.tup []) (fun (x15 : Unit) w16 => CallK Tryz.prog 187 #[.pointer (some p0), .int .i64 (IntKind.i64.wrap (p1 + 1))] w16 (.v (.one .raw)) (fun (x17 : Value) w18 => OneK x17 (NewK (.cells #[.nilIface] 255) w18 (fun g19 w20 => StsK (ad g19) [x17] w20 (fun w21 => CallK Tryz.prog 183 #[.pointer (some p0), .string (⟨#[41]⟩ : ByteArray)] w21 (.tup []) (fun (x22 : Unit) w23 => LdsK [.raw] (ad g19) w23 (fun (x24 : Value × Unit) => K (.iface 255 (.agg #[x24.1])) w23))))))))
  (ifB (x3.toList == (⟨#[97, 100, 100]⟩ : ByteArray).toList)
  (CallK Tryz.prog 202 #[.pointer (some p0), .int .i64 (IntKind.i64.wrap (p1 + 1))] w4 (.tup [.one .raw, .one .raw]) (fun (x25 : Value × Value × Unit) w26 => OneK x25.1 (OneK x25.2.1 (K (.iface 253 (.agg #[x25.1, x25.2.1])) w26))))
  (ifB (x3.toList == (⟨#[109, 117, 108]⟩ : ByteArray).toList)
  (CallK Tryz.prog 202 #[.pointer (some p0), .int .i64 (IntKind.i64.wrap (p1 + 1))] w4 (.tup [.one .raw, .one .raw]) (fun (x27 : Value × Value × Unit) w28 => OneK x27.1 (OneK x27.2.1 (K (.iface 256 (.agg #[x27.1, x27.2.1])) w28))))
  (ifB (x3.toList == (⟨#[109, 97, 120]⟩ : ByteArray).toList)
  (CallK Tryz.prog 202 #[.pointer (some p0), .int .i64 (IntKind.i64.wrap (p1 + 1))] w4 (.tup [.one .raw, .one .raw]) (fun (x29 : Value × Value × Unit) w30 => OneK x29.1 (OneK x29.2.1 (K (.iface 257 (.agg #[x29.1, x29.2.1])) w30))))
  (CallK Tryz.prog 203 #[.string x3] w4 (.tup [.one (.int .i64), .one .bool]) (fun (x31 : Int × Bool × Unit) w32 => K (.iface 174 (.agg #[.int .i64 x31.1])) w32))))))))))
def pl187 : Plan := .auto
theorem e187 (p0 : Addr) (p1 : Int) (w : World) (K : Value → World → Prop) : vcFunc Tryz.prog Tryz.f187 pl187 [.pointer (some p0), .int .i64 p1] w K = C187 p0 p1 w K := by kernel_rfl
theorem c187 (p0 : Addr) (p1 : Int) (w : World) (K : Value → World → Prop) (h : C187 p0 p1 w K) : Ret Tryz.prog 187 #[.pointer (some p0), .int .i64 p1] w K := by
  rw [← e187] at h
  exact vcFunc_sound (by kernel_rfl) Tryz.func187 h

/-- (*handfast/read.reader).day -/
def C188 (p0 : Addr) (w : World) (K : Value → World → Prop) : Prop :=
  CallK Tryz.prog 181 #[.pointer (some p0), .func (.func 204) #[] #[]] w (.v (.one .str)) (fun (x1 : ByteArray) w2 => CallK Tryz.prog 203 #[.string x1] w2 (.tup [.one (.int .i64), .one .bool]) (fun (x3 : Int × Bool × Unit) w4 => K (.int .i64 x3.1) w4))
def pl188 : Plan := .auto
theorem e188 (p0 : Addr) (w : World) (K : Value → World → Prop) : vcFunc Tryz.prog Tryz.f188 pl188 [.pointer (some p0)] w K = C188 p0 w K := by kernel_rfl
theorem c188 (p0 : Addr) (w : World) (K : Value → World → Prop) (h : C188 p0 w K) : Ret Tryz.prog 188 #[.pointer (some p0)] w K := by
  rw [← e188] at h
  exact vcFunc_sound (by kernel_rfl) Tryz.func188 h

/-- (*handfast/read.reader).day$1 -/
def C204 (p0 : ByteArray) (w : World) (K : Value → World → Prop) : Prop :=
  CallK Tryz.prog 203 #[.string p0] w (.tup [.one (.int .i64), .one .bool]) (fun (x1 : Int × Bool × Unit) w2 => ifB x1.2.1
  (ifB (decide (x1.1 ≥ 0))
  (K (.bool (decide (x1.1 ≤ 10000))) w2)
  (K (.bool false) w2))
  (K (.bool false) w2))
def pl204 : Plan := .auto
theorem e204 (p0 : ByteArray) (w : World) (K : Value → World → Prop) : vcFunc Tryz.prog Tryz.f204 pl204 [.string p0] w K = C204 p0 w K := by kernel_rfl
theorem c204 (p0 : ByteArray) (w : World) (K : Value → World → Prop) (h : C204 p0 w K) : Ret Tryz.prog 204 #[.string p0] w K := by
  rw [← e204] at h
  exact vcFunc_sound (by kernel_rfl) Tryz.func204 h

/-- (*handfast/read.reader).both -/
def C186 (p0 : Addr) (p1 : Int) (w : World) (K : Value → World → Prop) : Prop :=
  CallK Tryz.prog 164 #[.pointer (some p0), .int .i64 p1] w (.v (.one .raw)) (fun (x1 : Value) w2 => CallK Tryz.prog 183 #[.pointer (some p0), .string (⟨#[44]⟩ : ByteArray)] w2 (.tup []) (fun (x3 : Unit) w4 => CallK Tryz.prog 164 #[.pointer (some p0), .int .i64 p1] w4 (.v (.one .raw)) (fun (x5 : Value) w6 => CallK Tryz.prog 183 #[.pointer (some p0), .string (⟨#[41]⟩ : ByteArray)] w6 (.tup []) (fun (x7 : Unit) w8 => K (.tuple #[x1, x5]) w8))))
def pl186 : Plan := .auto
theorem e186 (p0 : Addr) (p1 : Int) (w : World) (K : Value → World → Prop) : vcFunc Tryz.prog Tryz.f186 pl186 [.pointer (some p0), .int .i64 p1] w K = C186 p0 p1 w K := by kernel_rfl
theorem c186 (p0 : Addr) (p1 : Int) (w : World) (K : Value → World → Prop) (h : C186 p0 p1 w K) : Ret Tryz.prog 186 #[.pointer (some p0), .int .i64 p1] w K := by
  rw [← e186] at h
  exact vcFunc_sound (by kernel_rfl) Tryz.func186 h

/-- (*handfast/read.reader).one -/
def C185 (p0 : Addr) (p1 : Int) (w : World) (K : Value → World → Prop) : Prop :=
  CallK Tryz.prog 164 #[.pointer (some p0), .int .i64 p1] w (.v (.one .raw)) (fun (x1 : Value) w2 => CallK Tryz.prog 183 #[.pointer (some p0), .string (⟨#[41]⟩ : ByteArray)] w2 (.tup []) (fun (x3 : Unit) w4 => K x1 w4))
def pl185 : Plan := .auto
theorem e185 (p0 : Addr) (p1 : Int) (w : World) (K : Value → World → Prop) : vcFunc Tryz.prog Tryz.f185 pl185 [.pointer (some p0), .int .i64 p1] w K = C185 p0 p1 w K := by kernel_rfl
theorem c185 (p0 : Addr) (p1 : Int) (w : World) (K : Value → World → Prop) (h : C185 p0 p1 w K) : Ret Tryz.prog 185 #[.pointer (some p0), .int .i64 p1] w K := by
  rw [← e185] at h
  exact vcFunc_sound (by kernel_rfl) Tryz.func185 h

/-- (*handfast/read.reader).contract -/
def C164 (p0 : Addr) (p1 : Int) (w : World) (K : Value → World → Prop) : Prop :=
  CallK Tryz.prog 180 #[.pointer (some p0), .int .i64 p1] w (.v (.one .bool)) (fun (x1 : Bool) w2 => ifB x1
  (K .nilIface w2)
  (CallK Tryz.prog 181 #[.pointer (some p0), .func (.func 182) #[] #[]] w2 (.v (.one .str)) (fun (x3 : ByteArray) w4 => ifB (x3.toList == (⟨#[]⟩ : ByteArray).toList)
  (K (.iface 192 (.agg #[])) w4)
  (ifB (x3.toList == (⟨#[122, 101, 114, 111]⟩ : ByteArray).toList)
  (K (.iface 192 (.agg #[])) w4)
  (CallK Tryz.prog 183 #[.pointer (some p0), .string (⟨#[40]⟩ : ByteArray)] w4 (.tup []) (fun (x5 : Unit) w6 => ifB (x3.toList == (⟨#[111, 110, 101]⟩ : ByteArray).toList)
  (CallK Tryz.prog 184 #[.pointer (some p0)] w6 (.v (.one .str)) (fun (x7 : ByteArray) w8 => NewK (.cells #[.string (⟨#[]⟩ : ByteArray)] 168) w8 (fun g9 w10 => StsK (ad g9) [.string x7] w10 (fun w11 => CallK Tryz.prog 183 #[.pointer (some p0), .string (⟨#[41]⟩ : ByteArray)] w11 (.tup []) (fun (x12 : Unit) w13 => LdsK [.str] (ad g9) w13 (fun (x14 : ByteArray × Unit) => K (.iface 168 (.agg #[.string x14.1])) w13))))))
  (ifB (x3.toList == (⟨#[103, 105, 118, 101]⟩ : ByteArray).toList)
  (CallK Tryz.prog 185 #[.pointer (some p0), .int .i64 (IntKind.i64.wrap (p1 + 1))] w6 (.v (.one .raw)) (fun (x15 : Value) w16 => OneK x15 (K (.iface 194 (.agg #[x15])) w16)))
  (ifB (x3.toList == (⟨#[97, 110, 100]⟩ : ByteArray).toList)
  (CallK Tryz.prog 186 #[.pointer (some p0), .int .i64 (IntKind.i64.wrap (p1 + 1))] w6 (.tup [.one .raw, .one .raw]) (fun (x17 : Value × Value × Unit) w18 => OneK x17.1 (OneK x17.2.1 (K (.iface 196 (.agg #[x17.1, x17.2.1])) w18))))
  (ifB (x3.toList == (⟨#[111, 114]⟩ : ByteArray).toList)
  (CallK Tryz.prog 184 #[.pointer (some p0)] w6 (.v (.one .str)) (fun (x19 : ByteArray) w20 => NewK (.cells #[.string (⟨#[]⟩ : ByteArray), .nilIface, .nilIface] 199) w20 (fun g21 w22 => StsK (ad g21) [.string x19, .nilIface, .nilIface] w22 (fun w23 => CallK Tryz.prog 183 #[.pointer (some p0), .string (⟨#[44]⟩ : ByteArray)] w23 (.tup []) (fun (x24 : Unit) w25 => CallK Tryz.prog 186 #[.pointer (some p0), .int .i64 (IntKind.i64.wrap (p1 + 1))] w25 (.tup [.one .raw, .one .raw]) (fun (x26 : Value × Value × Unit) w27 => OneK x26.1 (StsK ((ad g21).add 1) [x26.1] w27 (fun w28 => OneK x26.2.1 (StsK ((ad g21).add 2) [x26.2.1] w28 (fun w29 => LdsK [.str, .raw, .raw] (ad g21) w29 (fun (x30 : ByteArray × Value × Value × Unit) => K (.iface 199 (.agg #[.string x30.1, x30.2.1, x30.2.2.1])) w29)))))))))))
  (ifB (x3.toList == (⟨#[115, 99, 97, 108, 101]⟩ : ByteArray).toList)
  (CallK Tryz.prog 187 #[.pointer (some p0), .int .i64 (IntKind.i64.wrap (p1 + 1))] w6 (.v (.one .raw)) (fun (x31 : Value) w32 => OneK x31 (NewK (.cells #[.nilIface, .nilIface] 202) w32 (fun g33 w34 => StsK (ad g33) [x31, .nilIface] w34 (fun w35 => CallK Tryz.prog 183 #[.pointer (some p0), .string (⟨#[44]⟩ : ByteArray)] w35 (.tup []) (fun (x36 : Unit) w37 => CallK Tryz.prog 185 #[.pointer (some p0), .int .i64 (IntKind.i64.wrap (p1 + 1))] w37 (.v (.one .raw)) (fun (x38 : Value) w39 => OneK x38 (StsK ((ad g33).add 1) [x38] w39 (fun w40 => LdsK [.raw, .raw] (ad g33) w40 (fun (x41 : Value × Value × Unit) => K (.iface 202 (.agg #[x41.1, x41.2.1])) w40))))))))))
  (ifB (x3.toList == (⟨#[119, 104, 101, 110]⟩ : ByteArray).toList)
  (CallK Tryz.prog 188 #[.pointer (some p0)] w6 (.v (.one (.int .i64))) (fun (x42 : Int) w43 => NewK (.cells #[.int .i64 0, .nilIface] 205) w43 (fun g44 w45 => StsK (ad g44) [.int .i64 x42, .nilIface] w45 (fun w46 => CallK Tryz.prog 183 #[.pointer (some p0), .string (⟨#[44]⟩ : ByteArray)] w46 (.tup []) (fun (x47 : Unit) w48 => CallK Tryz.prog 185 #[.pointer (some p0), .int .i64 (IntKind.i64.wrap (p1 + 1))] w48 (.v (.one .raw)) (fun (x49 : Value) w50 => OneK x49 (StsK ((ad g44).add 1) [x49] w50 (fun w51 => LdsK [.int .i64, .raw] (ad g44) w51 (fun (x52 : Int × Value × Unit) => K (.iface 205 (.agg #[.int .i64 x52.1, x52.2.1])) w51)))))))))
  (CallK Tryz.prog 187 #[.pointer (some p0), .int .i64 (IntKind.i64.wrap (p1 + 1))] w6 (.v (.one .raw)) (fun (x53 : Value) w54 => OneK x53 (NewK (.cells #[.nilIface, .nilIface, .nilIface] 207) w54 (fun g55 w56 => StsK (ad g55) [x53, .nilIface, .nilIface] w56 (fun w57 => CallK Tryz.prog 183 #[.pointer (some p0), .string (⟨#[44]⟩ : ByteArray)] w57 (.tup []) (fun (x58 : Unit) w59 => CallK Tryz.prog 186 #[.pointer (some p0), .int .i64 (IntKind.i64.wrap (p1 + 1))] w59 (.tup [.one .raw, .one .raw]) (fun (x60 : Value × Value × Unit) w61 => OneK x60.1 (StsK ((ad g55).add 1) [x60.1] w61 (fun w62 => OneK x60.2.1 (StsK ((ad g55).add 2) [x60.2.1] w62 (fun w63 => LdsK [.raw, .raw, .raw] (ad g55) w63 (fun (x64 : Value × Value × Value × Unit) => K (.iface 207 (.agg #[x64.1, x64.2.1, x64.2.2.1])) w63)))))))))))))))))))))))
def pl164 : Plan := .auto
theorem e164 (p0 : Addr) (p1 : Int) (w : World) (K : Value → World → Prop) : vcFunc Tryz.prog Tryz.f164 pl164 [.pointer (some p0), .int .i64 p1] w K = C164 p0 p1 w K := by kernel_rfl
theorem c164 (p0 : Addr) (p1 : Int) (w : World) (K : Value → World → Prop) (h : C164 p0 p1 w K) : Ret Tryz.prog 164 #[.pointer (some p0), .int .i64 p1] w K := by
  rw [← e164] at h
  exact vcFunc_sound (by kernel_rfl) Tryz.func164 h

/-- (*handfast/read.reader).done -/
def C165 (p0 : Addr) (w : World) (K : Value → World → Prop) : Prop :=
  LdK .slc (p0.add 0) w (fun (x1 : SlT) => ifB (decide ((x1.2.1 : Int) > 0))
  (CallK Tryz.prog 189 #[.pointer (some p0), .int .i64 2] w (.tup []) (fun (x2 : Unit) w3 => K (.tuple #[]) w3))
  (K (.tuple #[]) w))
def pl165 : Plan := .auto
theorem e165 (p0 : Addr) (w : World) (K : Value → World → Prop) : vcFunc Tryz.prog Tryz.f165 pl165 [.pointer (some p0)] w K = C165 p0 w K := by kernel_rfl
theorem c165 (p0 : Addr) (w : World) (K : Value → World → Prop) (h : C165 p0 w K) : Ret Tryz.prog 165 #[.pointer (some p0)] w K := by
  rw [← e165] at h
  exact vcFunc_sound (by kernel_rfl) Tryz.func165 h

/-- handfast/read.word -/
def C201 (p0 : ByteArray) (w : World) (K : Value → World → Prop) : Prop :=
  CallK Tryz.prog 203 #[.string p0] w (.tup [.one (.int .i64), .one .bool]) (fun (x1 : Int × Bool × Unit) w2 => ifB x1.2.1
  (K (.bool true) w2)
  (ifB (p0.toList == (⟨#[102, 105, 120]⟩ : ByteArray).toList)
  (K (.bool true) w2)
  (ifB (p0.toList == (⟨#[97, 100, 100]⟩ : ByteArray).toList)
  (K (.bool true) w2)
  (ifB (p0.toList == (⟨#[110, 101, 103]⟩ : ByteArray).toList)
  (K (.bool true) w2)
  (ifB (p0.toList == (⟨#[109, 117, 108]⟩ : ByteArray).toList)
  (K (.bool true) w2)
  (K (.bool (p0.toList == (⟨#[109, 97, 120]⟩ : ByteArray).toList)) w2))))))
def pl201 : Plan := .auto
theorem e201 (p0 : ByteArray) (w : World) (K : Value → World → Prop) : vcFunc Tryz.prog Tryz.f201 pl201 [.string p0] w K = C201 p0 w K := by kernel_rfl
theorem c201 (p0 : ByteArray) (w : World) (K : Value → World → Prop) (h : C201 p0 w K) : Ret Tryz.prog 201 #[.string p0] w K := by
  rw [← e201] at h
  exact vcFunc_sound (by kernel_rfl) Tryz.func201 h

/-- handfast/read.begins -/
def C182 (p0 : ByteArray) (w : World) (K : Value → World → Prop) : Prop :=
  ifB (p0.toList == (⟨#[122, 101, 114, 111]⟩ : ByteArray).toList)
  (ifB (p0.toList == (⟨#[122, 101, 114, 111]⟩ : ByteArray).toList)
  (K (.bool true) w)
  (K (.bool false) w))
  (ifB (p0.toList == (⟨#[111, 110, 101]⟩ : ByteArray).toList)
  (ifB (p0.toList == (⟨#[111, 110, 101]⟩ : ByteArray).toList)
  (K (.bool true) w)
  (K (.bool false) w))
  (ifB (p0.toList == (⟨#[103, 105, 118, 101]⟩ : ByteArray).toList)
  (ifB (p0.toList == (⟨#[103, 105, 118, 101]⟩ : ByteArray).toList)
  (K (.bool true) w)
  (K (.bool false) w))
  (ifB (p0.toList == (⟨#[97, 110, 100]⟩ : ByteArray).toList)
  (ifB (p0.toList == (⟨#[97, 110, 100]⟩ : ByteArray).toList)
  (K (.bool true) w)
  (K (.bool false) w))
  (ifB (p0.toList == (⟨#[111, 114]⟩ : ByteArray).toList)
  (ifB (p0.toList == (⟨#[111, 114]⟩ : ByteArray).toList)
  (K (.bool true) w)
  (K (.bool false) w))
  (ifB (p0.toList == (⟨#[115, 99, 97, 108, 101]⟩ : ByteArray).toList)
  (ifB (p0.toList == (⟨#[115, 99, 97, 108, 101]⟩ : ByteArray).toList)
  (K (.bool true) w)
  (K (.bool false) w))
  (ifB (p0.toList == (⟨#[119, 104, 101, 110]⟩ : ByteArray).toList)
  (ifB (p0.toList == (⟨#[119, 104, 101, 110]⟩ : ByteArray).toList)
  (K (.bool true) w)
  (K (.bool false) w))
  (ifB (p0.toList == (⟨#[105, 102]⟩ : ByteArray).toList)
  (K (.bool true) w)
  (K (.bool false) w))))))))
def pl182 : Plan := .auto
theorem e182 (p0 : ByteArray) (w : World) (K : Value → World → Prop) : vcFunc Tryz.prog Tryz.f182 pl182 [.string p0] w K = C182 p0 w K := by kernel_rfl
theorem c182 (p0 : ByteArray) (w : World) (K : Value → World → Prop) (h : C182 p0 w K) : Ret Tryz.prog 182 #[.string p0] w K := by
  rw [← e182] at h
  exact vcFunc_sound (by kernel_rfl) Tryz.func182 h

/-- handfast/read.begin -/
def C163 (p0 : ByteArray) (w : World) (K : Value → World → Prop) : Prop :=
  CallK Tryz.prog 178 #[.string p0] w (.v (.one (.int .i64))) (fun (x1 : Int) w2 => NewK (.cells #[.slice none 0 0, .int .i64 (IntKind.i64.wrap (x1 + 1)), .int .i64 0, .int .i64 0] 295) w2 (fun g3 w4 => ifB (decide ((p0.size : Int) > 1000))
  (StK ((ad g3).add 3) (.int .i64 5) w4 (fun w5 => K (.pointer (some (ad g3))) w5))
  (CallK Tryz.prog 179 #[.string p0] w4 (.tup [.one .slc, .one (.int .i64)]) (fun (x6 : SlT × Int × Unit) w7 => ifB (decide (x6.2.1 > 0))
  (StK ((ad g3).add 3) (.int .i64 2) w7 (fun w8 => StK ((ad g3).add 2) (.int .i64 x6.2.1) w8 (fun w9 => StK ((ad g3).add 0) (.slice x6.1.1 x6.1.2.1 x6.1.2.2) w9 (fun w10 => K (.pointer (some (ad g3))) w10))))
  (StK ((ad g3).add 0) (.slice x6.1.1 x6.1.2.1 x6.1.2.2) w7 (fun w11 => K (.pointer (some (ad g3))) w11))))))
def pl163 : Plan := .auto
theorem e163 (p0 : ByteArray) (w : World) (K : Value → World → Prop) : vcFunc Tryz.prog Tryz.f163 pl163 [.string p0] w K = C163 p0 w K := by kernel_rfl
theorem c163 (p0 : ByteArray) (w : World) (K : Value → World → Prop) (h : C163 p0 w K) : Ret Tryz.prog 163 #[.string p0] w K := by
  rw [← e163] at h
  exact vcFunc_sound (by kernel_rfl) Tryz.func163 h

/-- handfast/read.Term -/
def C132 (p0 : ByteArray) (w : World) (K : Value → World → Prop) : Prop :=
  CallK Tryz.prog 163 #[.string p0] w (.v (.one .ptr)) (fun (x1 : Option Addr) w2 => CallK Tryz.prog 164 #[.pointer x1, .int .i64 0] w2 (.v (.one .raw)) (fun (x3 : Value) w4 => CallK Tryz.prog 165 #[.pointer x1] w4 (.tup []) (fun (x5 : Unit) w6 => optA x1 (fun a7 => LdK (.int .i64) (a7.add 3) w6 (fun (x8 : Int) => ifB (x8 == 0)
  (CallK Tryz.prog 109 #[x3] w6 (.v (.one (.int .i64))) (fun (x9 : Int) w10 => optA x1 (fun a11 => StK (a11.add 3) (.int .i64 x9) w10 (fun w12 => optA x1 (fun a13 => LdK (.int .i64) (a13.add 3) w12 (fun (x14 : Int) => ifB (x14 != 0)
  (DrewK w12 (fun w15 => optA x1 (fun a16 => LdK (.int .i64) (a16.add 2) w15 (fun (x17 : Int) => optA x1 (fun a18 => LdK (.int .i64) (a18.add 3) w15 (fun (x19 : Int) => K (.tuple #[.nilIface, .int .i64 x17, .int .i64 x19]) w15))))))
  (K (.tuple #[x3, .int .i64 0, .int .i64 0]) w12)))))))
  (optA x1 (fun a20 => LdK (.int .i64) (a20.add 3) w6 (fun (x21 : Int) => ifB (x21 != 0)
  (DrewK w6 (fun w22 => optA x1 (fun a23 => LdK (.int .i64) (a23.add 2) w22 (fun (x24 : Int) => optA x1 (fun a25 => LdK (.int .i64) (a25.add 3) w22 (fun (x26 : Int) => K (.tuple #[.nilIface, .int .i64 x24, .int .i64 x26]) w22))))))
  (K (.tuple #[x3, .int .i64 0, .int .i64 0]) w6)))))))))
def pl132 : Plan := (.seq .auto (.seq .auto (.seq .auto (.seq .auto (.seq .auto (.seq (.seq .auto (.cond (.seq .still .auto) .auto)) .auto))))))
theorem e132 (p0 : ByteArray) (w : World) (K : Value → World → Prop) : vcFunc Tryz.prog Tryz.f132 pl132 [.string p0] w K = C132 p0 w K := by kernel_rfl
theorem c132 (p0 : ByteArray) (w : World) (K : Value → World → Prop) (h : C132 p0 w K) : Ret Tryz.prog 132 #[.string p0] w K := by
  rw [← e132] at h
  exact vcFunc_sound (by kernel_rfl) Tryz.func132 h

end Go.Proofs.YtbadiokobooliaaGreatDoor

/-! ### ReadSpec -/
set_option linter.unusedVariables false
set_option maxRecDepth 100000
namespace Go.Proofs.YtbadiokobooliaaGreatDoor
open Vc

/-! ### Plain -/
theorem sgF_cnt : ∀ (R : List Int) (acc : List SignV) (at_ : Int) (run : Bool), (sgF acc at_ run R).1.length ≤ acc.length + 1 + R.length
  | [], acc, at_, run => by show acc.length ≤ _; simp only [List.length_nil]; omega
  | r :: R, acc, at_, run => by
    have h1 := sgF_cnt R (addLast acc (enc r)) (at_ + 1) true
    have h2 := sgF_cnt R (acc ++ [(enc r, at_ + 1)]) (at_ + 1) (kd r == 97)
    have h3 := sgF_cnt R acc (at_ + 1) false
    have e1 : (addLast acc (enc r)).length ≤ acc.length + 1 := by unfold addLast; simp
    simp only [List.length_append, List.length_cons, List.length_nil] at h2 ⊢
    unfold sgF
    split
    · simp
    split
    · omega
    split
    · omega
    · omega
theorem nodesO_toks (o : Ob) : nodesO o ≤ (toksO o).length := by
  induction o <;> simp_all [nodesO, toksO] <;> omega
theorem nodesT_toks (t : Tm) : nodesT t ≤ (toksT t).length := by
  induction t <;> simp_all [nodesT, toksT] <;> (try have := nodesO_toks) <;> first | omega | (rename_i o _ _; have := nodesO_toks o; omega) | (rename_i o _ _ _ _; have := nodesO_toks o; omega)
theorem mem_lenS {x : SignV} {l : List SignV} (h : x ∈ l) : x.1.length ≤ lenS (l.map Prod.fst) := by
  induction l with
  | nil => cases h
  | cons y l ih =>
    have e : lenS ((y :: l).map Prod.fst) = y.1.length + lenS (l.map Prod.fst) := by simp [lenS]
    rw [e]
    rcases List.mem_cons.1 h with rfl | h
    · omega
    · have := ih h; omega
theorem signs_short {bs : List UInt8} (h : bs.length ≤ 1000) : ∀ x ∈ (sgF [] 0 false (runesL bs)).1, x.1.length ≤ 10000 := fun x hx => by
  have h1 := mem_lenS hx
  have h2 := sgF_lenS (runesL bs) [] 0 false
  have h3 := txt_len (runesL bs)
  have h4 := runesL_len bs
  have h5 : lenS ((([] : List SignV)).map Prod.fst) = 0 := rfl
  omega
theorem reads_le (R : List Int) : reads R ≤ R.length := by unfold reads; exact (List.takeWhile_sublist _).length_le

theorem count_runes (s : ByteArray) : ∀ (fuel pos : Nat), s.size - pos ≤ fuel → Lib.runeCountFrom s fuel pos = (runesL (s.data.toList.drop pos)).length
  | 0, pos, h => by
    have : s.data.toList.drop pos = [] := List.drop_eq_nil_of_le (by rw [ba_len]; omega)
    rw [this]; rfl
  | f + 1, pos, h => by
    unfold Lib.runeCountFrom
    by_cases hp : pos < s.size
    · rw [if_pos hp]
      have hne : s.data.toList.drop pos ≠ [] := fun t => by
        have := congrArg List.length t
        rw [List.length_drop, ba_len, List.length_nil] at this; omega
      have hw := decL_width (s.data.toList.drop pos)
      rw [runesL_step _ hne, decL_drop, count_runes s f _ (by omega), List.length_cons, List.drop_drop]
      omega
    · rw [if_neg hp]
      have : s.data.toList.drop pos = [] := List.drop_eq_nil_of_le (by rw [ba_len]; omega)
      rw [this]; rfl

namespace Vc
theorem StsK.one {b i : Nat} {v : Value} {w : World} {K : World → Prop} {cs : Array Value} {T : TypeId} (hb : w.heap[b]? = some (.cells cs T (0, 0))) (hi : i < cs.size) (h1 : one1 v = true)
    (h : ∀ w1, w1.heap[b]? = some (.cells (cs.setIfInBounds i v) T (0, 0)) → Fr (only b) w w1 → w1.heap.size = w.heap.size → K w1) : StsK ((⟨b, 0, none⟩ : Addr).add i) [v] w K := by
  have e : ((⟨b, 0, none⟩ : Addr).add i).add 0 = ⟨b, i, none⟩ := by rw [addr_add, addr_add, Nat.zero_add, Nat.add_zero]
  refine ⟨⟨h1, by rw [e, cell_blk hb]; simp [hi], by rw [e]; exact frozen_blk hb, trivial⟩, ?_⟩
  show K (w.setCell (((⟨b, 0, none⟩ : Addr).add i).add 0) v)
  rw [e]
  exact h _ (heap_setCell_same hb) (setCell_fr _ _ _ _) (by simp [World.setCell])
end Vc

theorem str_eqb (x y : List UInt8) : ((str x).toList == (str y).toList) = (x == y) := by
  rw [str_beq]
  by_cases h : x = y <;> simp [h]
theorem ifB.str {y z : List UInt8} {A B : Prop} (h : y = z → A) (k : y ≠ z → B) : ifB ((str y).toList == (str z).toList) A B := by
  rw [str_beq]; exact ifB.dec h k

/-! ### The reader in memory -/
def rdObj (sl : Sl) (fin a e : Int) : Obj := .cells #[.slice sl.1 sl.2.1 sl.2.2, .int .i64 fin, .int .i64 a, .int .i64 e] 295 (0, 0)
/-- A reader in block b; it and its signs lie below m. -/
def IsRd (w : World) (m b : Nat) (fin : Int) (s : RS) : Prop := ∃ sl : Sl, w.heap[b]? = some (rdObj sl fin s.at_ s.e) ∧ IsSg w sl s.l ∧ (¬ blkOf sl b ∧ b < m ∧ m ≤ w.heap.size ∧ ∀ k, blkOf sl k → k < m) ∧ ∀ x ∈ s.l, x.1.length ≤ 10000
theorem IsRd.lt {w : World} {m b : Nat} {fin : Int} {s : RS} (h : IsRd w m b fin s) : b < m ∧ m ≤ w.heap.size := by
  obtain ⟨sl, hb, _, ⟨_, h1, h2, _⟩, _⟩ := h; exact ⟨h1, h2⟩
theorem IsRd.keep {w w' : World} {m b : Nat} {fin : Int} {s : RS} (h : IsRd w m b fin s) {S : Nat → Prop} (f : Fr S w w') (hn : ∀ k, k < m → ¬ S k) : IsRd w' m b fin s := by
  obtain ⟨sl, hb, hs, ⟨h1, h2, h3, h4⟩, h5⟩ := h
  exact ⟨sl, f.keep hb (hn b h2), hs.keep f (fun k hk => hn k (h4 k hk)), ⟨h1, h2, Nat.le_trans h3 f.size, h4⟩, h5⟩
theorem IsRd.keep0 {w w' : World} {m b : Nat} {fin : Int} {s : RS} (h : IsRd w m b fin s) (f : Fr none1 w w') : IsRd w' m b fin s := h.keep f (fun _ _ t => t)

/-- The slice without its first sign. -/
theorem sg_tail {w : World} {v : Sl} {x : SignV} {l : List SignV} (h : IsSg w v (x :: l)) {K : Option Addr → Nat → Nat → Prop} (k : ∀ u : Sl, IsSg w u l → (∀ j, blkOf u j → blkOf v j) → K u.1 u.2.1 u.2.2) : SubK v.1 v.2.2 1 (v.2.1 : Int) (v.2.2 : Int) 2 K := by
  obtain ⟨hs, hl⟩ := h
  simp only [List.length_cons] at hl
  have e : signCells (x :: l) = [.string (str x.1), .int .i64 x.2] ++ signCells l := rfl
  rcases hs with ⟨rfl, hnil⟩ | ⟨g, off, cs, hv, hb, hle, hc, hn, he⟩
  · dsimp only at hl; omega
  · refine ⟨by omega, by omega, by omega, by omega, ?_⟩
    rw [hv]
    have hlen := signCells_len l
    have hlen2 := signCells_len (x :: l)
    simp only [List.length_cons] at hlen2
    by_cases h1 : (v.2.2 : Int) = 1
    · rw [if_pos h1]
      have : l = [] := List.eq_nil_of_length_eq_zero (by omega)
      subst this
      refine k (some ⟨g, off, none⟩, ((v.2.1 : Int) - 1).toNat, ((v.2.2 : Int) - 1).toNat) ⟨.inr ⟨g, off, cs, rfl, hb, by dsimp only; omega, by dsimp only; omega, ?_, fun i hi => ?_⟩, ?_⟩ (fun j hj => ?_)
      · dsimp only; rw [hlen, List.length_nil]; omega
      · rw [hlen, List.length_nil] at hi; omega
      · dsimp only; rw [List.length_nil]; omega
      · obtain ⟨a, ha, rfl⟩ := hj; injection ha with ha; subst ha; exact ⟨_, hv, rfl⟩
    · rw [if_neg h1]
      have ea : (some (⟨g, off, none⟩ : Addr)).map (·.add (Int.toNat 1 * 2)) = some ⟨g, off + 2, none⟩ := by
        show some ((⟨g, off, none⟩ : Addr).add (1 * 2)) = _
        rw [addr_add]
      rw [ea]
      refine k (some ⟨g, off + 2, none⟩, ((v.2.1 : Int) - 1).toNat, ((v.2.2 : Int) - 1).toNat) ⟨.inr ⟨g, off + 2, cs, rfl, hb, by dsimp only; omega, by dsimp only; omega, ?_, fun i hi => ?_⟩, ?_⟩ (fun j hj => ?_)
      · dsimp only; rw [hlen]; omega
      · rw [hlen] at hi
        have := he (i + 2) (by omega)
        rw [show off + 2 + i = off + (i + 2) by omega, this, e]
        rfl
      · dsimp only; omega
      · obtain ⟨a, ha, rfl⟩ := hj; injection ha with ha; subst ha; exact ⟨_, hv, rfl⟩

theorem rplace_spec {w : World} {m b : Nat} {fin : Int} {s : RS} (h : IsRd w m b fin s) : Ret Tryz.prog 205 #[.pointer (some ⟨b, 0, none⟩)] w fun r w' => r = .int .i64 (placeF fin s) ∧ w = w' := by
  refine c205 _ w _ ?_
  obtain ⟨sl, hb, hs, _⟩ := h
  have hl := hs.len
  refine LdK.fld hb (x := sl) rfl ?_
  unfold placeF
  cases hsl : s.l with
  | nil =>
    rw [hsl] at hl
    refine ifB.no (by rw [hl]; decide) (LdK.fld hb (x := fin) rfl ⟨rfl, rfl⟩)
  | cons x l =>
    rw [hsl] at hl hs
    simp only [List.length_cons] at hl
    refine ifB.yes (by omega) (LdK.fld hb (x := sl) rfl ?_)
    exact sg_ld hs (i := 0) (by omega) (by omega) (x := x) rfl fun a _ k2 _ => k2 _ ⟨rfl, rfl⟩

theorem rfail_spec {w : World} {m b : Nat} {fin : Int} {s : RS} (h : IsRd w m b fin s) (c : Int) : Ret Tryz.prog 189 #[.pointer (some ⟨b, 0, none⟩), .int .i64 c] w fun r w' => r = .tuple #[] ∧ IsRd w' m b fin (failF fin c s) ∧ Fr (only b) w w' := by
  refine c189 _ c w _ ?_
  obtain ⟨sl, hb, hs, hbl, hsz⟩ := id h
  refine LdK.fld hb (x := s.e) rfl ?_
  unfold failF
  refine ifB.eq (fun he => ?_) (fun he => ?_)
  · rw [if_pos he]
    refine CallK.of (rplace_spec h) ?_
    rintro _ _ ⟨rfl, rfl⟩
    refine ⟨_, rfl, ?_⟩
    refine StK.fld hb (by show 0 + 3 < 4; omega) rfl fun w1 hb1 f1 _ => ?_
    refine StK.fld hb1 (by show 0 + 2 < 4; omega) rfl fun w2 hb2 f2 _ => ?_
    have f := f1.trans f2
    exact ⟨rfl, ⟨sl, hb2, hs.keep f (fun k hk t => hbl.1 (by have : k = b := t; rw [← this]; exact hk)), ⟨hbl.1, hbl.2.1, Nat.le_trans hbl.2.2.1 f.size, hbl.2.2.2⟩, hsz⟩, f⟩
  · rw [if_neg he]
    exact ⟨rfl, h, Fr.refl _ _⟩

theorem rtake_spec {w : World} {m b : Nat} {fin : Int} {s : RS} (h : IsRd w m b fin s) (v : Value) (right : List UInt8 → Bool)
    (hr : ∀ x : List UInt8, x.length ≤ 10000 → ∀ K : Bool → World → Prop, (∀ w1, Fr none1 w w1 → K (right x) w1) → callV Tryz.prog v [.string (str x)] (.v (.one .bool)) w K) :
    Ret Tryz.prog 181 #[.pointer (some ⟨b, 0, none⟩), v] w fun r w' => r = .string (str (takeF fin right s).1) ∧ IsRd w' m b fin (takeF fin right s).2 ∧ Fr (only b) w w' := by
  refine c181 _ v w _ ?_
  obtain ⟨sl, hb, hs, hbl, hsz⟩ := id h
  have hl := hs.len
  rcases s with ⟨l, a, e⟩
  dsimp only at hb hs hsz hl
  refine JoinK.of (fun c w' => c.1 = (decide (e = 0) && match l with | [] => true | x :: _ => !right x.1) ∧ Fr none1 w w') ?_ ?_
  · refine LdK.fld hb (x := e) rfl ?_
    refine ifB.eq (fun he => LdK.fld hb (x := sl) rfl ?_) (fun he => ⟨by simp [he], Fr.refl _ _⟩)
    cases l with
    | nil => exact ifB.t (by rw [hl]; rfl) ⟨by simp [he], Fr.refl _ _⟩
    | cons x l =>
      simp only [List.length_cons] at hl
      refine ifB.f (by rw [hl]; exact beq_eq_false_iff_ne.2 (by omega)) (LdK.fld hb (x := sl) rfl ?_)
      refine sg_ld hs (i := 0) (by omega) (by omega) (x := x) rfl fun q k1 _ _ => k1 _ ?_
      exact hr x.1 (hsz x (by simp)) _ fun w1 f1 => ⟨by simp [he], f1⟩
  rintro _ ⟨c, _⟩ w3 ⟨hc, f3⟩
  dsimp only at hc ⊢
  have h3 := h.keep0 f3
  refine ifB.by (fun e1 => ?_) (fun e1 => ?_)
  · rw [e1] at hc
    have hc2 := Bool.and_eq_true_iff.1 hc.symm
    have he : e = 0 := of_decide_eq_true hc2.1
    subst he
    refine CallK.of (rfail_spec h3 2) ?_
    rintro _ w4 ⟨rfl, h4, f4⟩
    refine ⟨(), rfl, ?_⟩
    have ht : takeF fin right ⟨l, a, 0⟩ = ([], failF fin 2 ⟨l, a, 0⟩) := by
      cases l with
      | nil => exact takeF_nil
      | cons x l => exact takeF_miss (by simpa using hc2.2)
    rw [ht]
    obtain ⟨sl4, hb4, h4'⟩ := id h4
    refine LdK.fld hb4 (x := 2) rfl (ifB.t rfl ?_)
    exact ⟨rfl, h4, Fr.of0 f3 f4⟩
  · obtain ⟨sl3, hb3, hs3, hbl3, _⟩ := id h3
    refine LdK.fld hb3 (x := e) rfl ?_
    refine ifB.ne (fun he => ?_) (fun he => ?_)
    · rw [takeF_err (s := ⟨l, a, e⟩) he]
      exact ⟨rfl, h3, Fr.of0 f3 (Fr.refl _ _)⟩
    · subst he
      rw [e1] at hc
      cases l with
      | nil => simp at hc
      | cons x l =>
        have hx : right x.1 = true := by simpa using hc
        rw [takeF_hit hx]
        have hl3 := hs3.len
        simp only [List.length_cons] at hl3
        refine LdK.fld hb3 (x := sl3) rfl ?_
        refine sg_ld hs3 (i := 0) (by omega) (by omega) (x := x) rfl fun q k1 _ _ => k1 _ ?_
        refine LdK.fld hb3 (x := sl3) rfl ?_
        refine sg_tail hs3 fun u hu hub => ?_
        refine StK.fld hb3 (by show 0 + 0 < 4; omega) rfl fun w4 hb4 f4 _ => ?_
        have hub' : ¬ blkOf u b := fun t => hbl3.1 (hub b t)
        exact ⟨rfl, ⟨u, hb4, hu.keep f4 (fun k hk t => hub' (by have : k = b := t; rw [← this]; exact hk)), ⟨hub', hbl3.2.1, Nat.le_trans hbl3.2.2.1 f4.size, fun k hk => hbl3.2.2.2 k (hub k hk)⟩, fun y hy => hsz y (by simp [hy])⟩, Fr.of0 f3 f4⟩

theorem rmust_spec {w : World} {m b : Nat} {fin : Int} {s : RS} (h : IsRd w m b fin s) (x : List UInt8) : Ret Tryz.prog 183 #[.pointer (some ⟨b, 0, none⟩), .string (str x)] w fun r w' => r = .tuple #[] ∧ IsRd w' m b fin (mustF fin x s) ∧ Fr (only b) w w' := by
  refine c183 _ (str x) w _ ?_
  refine NewK.of fun g w1 hg hb1 f1 _ => ?_
  refine CallK.of (rtake_spec (h.keep0 f1) _ (fun y => decide (y = x)) fun y _ K hK => ?_) ?_
  · have hf : Ret Tryz.prog 200 #[.string (str y), .pointer (some ⟨g, 0, none⟩)] w1 fun r w' => r = .bool (decide (y = x)) ∧ w1 = w' := by
      refine c200 (str y) _ w1 _ ?_
      refine LdK.of hb1 (x := str x) rfl ?_
      rw [str_beq]
      exact ⟨rfl, rfl⟩
    refine callV_of (by kernel_rfl) Tryz.func200 (by kernel_rfl) (hf.mono ?_)
    rintro _ _ ⟨rfl, rfl⟩
    exact ⟨_, rfl, hK _ (Fr.refl _ _)⟩
  · rintro _ w2 ⟨rfl, h2, f2⟩
    exact ⟨_, rfl, rfl, h2, Fr.of0 f1 f2⟩

theorem rname_spec' {w : World} {m b : Nat} {fin : Int} {s : RS} (h : IsRd w m b fin s) : Ret Tryz.prog 184 #[.pointer (some ⟨b, 0, none⟩)] w fun r w' => r = .string (str (takeF fin nameL s).1) ∧ IsRd w' m b fin (takeF fin nameL s).2 ∧ Fr (only b) w w' := by
  refine c184 _ w _ ?_
  refine CallK.of (rtake_spec h _ nameL fun y _ K hK => ?_) ?_
  · refine callV_of (by kernel_rfl) Tryz.func108 (by kernel_rfl) ((name_spec y w).mono ?_)
    rintro _ w1 ⟨rfl, f1⟩
    exact ⟨_, rfl, hK w1 f1⟩
  · rintro _ w2 ⟨rfl, h2, f2⟩
    exact ⟨_, rfl, rfl, h2, f2⟩

theorem rword_spec (y : List UInt8) (hl : y.length ≤ 10000) (w : World) : Ret Tryz.prog 201 #[.string (str y)] w fun r w' => r = .bool (wordF' y) ∧ Fr none1 w w' := by
  refine c201 (str y) w _ ?_
  refine CallK.of (number_spec y (by omega) w) ?_
  rintro _ w1 ⟨rfl, f1⟩
  refine ⟨(_, _, ()), rfl, ?_⟩
  unfold wordF'
  refine ifB.by (fun e => ?_) (fun e => ?_)
  · have e : (numF y).2 = true := e
    rw [e]; exact ⟨rfl, f1⟩
  have e : (numF y).2 = false := e
  rw [e, Bool.false_or]
  refine ifB.str (z := [102, 105, 120]) (fun e => ⟨by rw [e]; rfl, f1⟩) (fun e => ?_)
  rw [beq_eq_false_iff_ne.2 e, Bool.false_or]
  refine ifB.str (z := [97, 100, 100]) (fun e => ⟨by rw [e]; rfl, f1⟩) (fun e => ?_)
  rw [beq_eq_false_iff_ne.2 e, Bool.false_or]
  refine ifB.str (z := [110, 101, 103]) (fun e => ⟨by rw [e]; rfl, f1⟩) (fun e => ?_)
  rw [beq_eq_false_iff_ne.2 e, Bool.false_or]
  refine ifB.str (z := [109, 117, 108]) (fun e => ⟨by rw [e]; rfl, f1⟩) (fun e => ?_)
  rw [beq_eq_false_iff_ne.2 e, Bool.false_or, ← str_eqb y [109, 97, 120]]
  exact ⟨rfl, f1⟩

theorem rbegins_spec (y : List UInt8) (w : World) : Ret Tryz.prog 182 #[.string (str y)] w fun r w' => r = .bool (beginsF y) ∧ w = w' := by
  refine c182 (str y) w _ ?_
  unfold beginsF
  refine ifB.str (z := [122, 101, 114, 111]) (fun e => ifB.str (z := [122, 101, 114, 111]) (fun _ => ⟨by rw [e]; rfl, rfl⟩) (fun k => absurd e k)) (fun e => ?_)
  rw [beq_eq_false_iff_ne.2 e, Bool.false_or]
  refine ifB.str (z := [111, 110, 101]) (fun e => ifB.str (z := [111, 110, 101]) (fun _ => ⟨by rw [e]; rfl, rfl⟩) (fun k => absurd e k)) (fun e => ?_)
  rw [beq_eq_false_iff_ne.2 e, Bool.false_or]
  refine ifB.str (z := [103, 105, 118, 101]) (fun e => ifB.str (z := [103, 105, 118, 101]) (fun _ => ⟨by rw [e]; rfl, rfl⟩) (fun k => absurd e k)) (fun e => ?_)
  rw [beq_eq_false_iff_ne.2 e, Bool.false_or]
  refine ifB.str (z := [97, 110, 100]) (fun e => ifB.str (z := [97, 110, 100]) (fun _ => ⟨by rw [e]; rfl, rfl⟩) (fun k => absurd e k)) (fun e => ?_)
  rw [beq_eq_false_iff_ne.2 e, Bool.false_or]
  refine ifB.str (z := [111, 114]) (fun e => ifB.str (z := [111, 114]) (fun _ => ⟨by rw [e]; rfl, rfl⟩) (fun k => absurd e k)) (fun e => ?_)
  rw [beq_eq_false_iff_ne.2 e, Bool.false_or]
  refine ifB.str (z := [115, 99, 97, 108, 101]) (fun e => ifB.str (z := [115, 99, 97, 108, 101]) (fun _ => ⟨by rw [e]; rfl, rfl⟩) (fun k => absurd e k)) (fun e => ?_)
  rw [beq_eq_false_iff_ne.2 e, Bool.false_or]
  refine ifB.str (z := [119, 104, 101, 110]) (fun e => ifB.str (z := [119, 104, 101, 110]) (fun _ => ⟨by rw [e]; rfl, rfl⟩) (fun k => absurd e k)) (fun e => ?_)
  rw [beq_eq_false_iff_ne.2 e, Bool.false_or]
  refine ifB.str (z := [105, 102]) (fun e => ⟨by rw [e]; rfl, rfl⟩) (fun e => ?_)
  rw [beq_eq_false_iff_ne.2 e]
  exact ⟨rfl, rfl⟩

theorem rday1_spec (y : List UInt8) (hl : y.length ≤ 10000) (w : World) : Ret Tryz.prog 204 #[.string (str y)] w fun r w' => r = .bool (dayF y) ∧ Fr none1 w w' := by
  refine c204 (str y) w _ ?_
  refine CallK.of (number_spec y (by omega) w) ?_
  rintro _ w1 ⟨rfl, f1⟩
  refine ⟨(_, _, ()), rfl, ?_⟩
  unfold dayF
  refine ifB.by (fun e => ?_) (fun e => ?_)
  · have e : (numF y).2 = true := e
    rw [e, Bool.true_and]
    refine ifB.dec (fun h => ?_) (fun h => ?_)
    · have h : 0 ≤ (numF y).1 := h
      rw [decide_eq_true h, Bool.true_and]; exact ⟨rfl, f1⟩
    · have h : ¬ 0 ≤ (numF y).1 := h
      rw [decide_eq_false h]; exact ⟨rfl, f1⟩
  · have e : (numF y).2 = false := e
    rw [e]; exact ⟨rfl, f1⟩

theorem rday_spec {w : World} {m b : Nat} {fin : Int} {s : RS} (h : IsRd w m b fin s) : Ret Tryz.prog 188 #[.pointer (some ⟨b, 0, none⟩)] w fun r w' => r = .int .i64 (numF (takeF fin dayF s).1).1 ∧ IsRd w' m b fin (takeF fin dayF s).2 ∧ Fr (only b) w w' := by
  refine c188 _ w _ ?_
  refine CallK.of (rtake_spec h _ dayF fun y hy K hK => ?_) ?_
  · refine callV_of (by kernel_rfl) Tryz.func204 (by kernel_rfl) ((rday1_spec y hy w).mono ?_)
    rintro _ w1 ⟨rfl, f1⟩
    exact ⟨_, rfl, hK w1 f1⟩
  · rintro _ w2 ⟨rfl, h2, f2⟩
    refine ⟨_, rfl, ?_⟩
    have hsz : (takeF fin dayF s).1.length ≤ 100000 := by
      obtain ⟨_, _, _, _, hz⟩ := h
      unfold takeF
      split
      · split
        · simp
        · rename_i x l hl
          split
          · have := hz x (by rw [hl]; simp); dsimp only; omega
          · simp
      · simp
    refine CallK.of (number_spec _ hsz w2) ?_
    rintro _ w3 ⟨rfl, f3⟩
    exact ⟨(_, _, ()), rfl, rfl, h2.keep0 f3, f2.then0 f3⟩

theorem take_short {w : World} {m b : Nat} {fin : Int} {s : RS} (h : IsRd w m b fin s) (right : List UInt8 → Bool) : (takeF fin right s).1.length ≤ 10000 := by
  obtain ⟨_, _, _, _, hz⟩ := h
  unfold takeF
  split
  · split
    · simp
    · rename_i x l hl
      split
      · have := hz x (by rw [hl]; simp); dsimp only; omega
      · simp
  · simp

/-- How deep it is: n more are not too deep. -/
theorem rdeep_spec {w : World} {m b : Nat} {fin : Int} {s : RS} (h : IsRd w m b fin s) (n : Nat) (hn : n ≤ 12) : Ret Tryz.prog 180 #[.pointer (some ⟨b, 0, none⟩), .int .i64 (12 - (n : Int))] w fun r w' =>
    r = .bool (decide (n = 0) || decide (s.e ≠ 0)) ∧ IsRd w' m b fin (if n = 0 then failF fin 5 s else s) ∧ Fr (only b) w w' := by
  refine c180 _ _ w _ ?_
  refine ifB.dec (fun h0 => ?_) (fun h0 => ?_)
  · have : n = 0 := by omega
    subst this
    refine CallK.of (rfail_spec h 5) ?_
    rintro _ w1 ⟨rfl, h1, f1⟩
    refine ⟨(), rfl, ?_⟩
    obtain ⟨sl, hb, _⟩ := id h1
    refine LdK.fld hb (x := (failF fin 5 s).e) rfl ?_
    refine ⟨?_, h1, f1⟩
    have : (failF fin 5 s).e ≠ 0 := by
      unfold failF
      split
      · show (5 : Int) ≠ 0; decide
      · assumption
    rw [show ((failF fin 5 s).e != 0) = true from by simp [this]]; rfl
  · have hn0 : n ≠ 0 := by omega
    obtain ⟨sl, hb, _⟩ := id h
    refine LdK.fld hb (x := s.e) rfl ?_
    refine ⟨?_, by rw [if_neg hn0]; exact h, Fr.refl _ _⟩
    rw [decide_eq_false hn0, Bool.false_or]
    congr 1
    by_cases he : s.e = 0 <;> simp [he]

/-- A struct of one part, behind a bracket: it was put, the bracket taken, the struct read. -/
theorem wrap_ok {w : World} {m b : Nat} {fin : Int} {s : RS} (h : IsRd w m b fin s) (x : List UInt8) {T : TypeId} {zs : List Value} {cks : List Ck} (c : Cs cks) (hl : zs.length = (Cs.vals cks c).length) (h1 : (Cs.vals cks c).all one1 = true) {K : Cs cks → World → Prop}
    (k : ∀ w', IsRd w' m b fin (mustF fin x s) → Fr (only b) w w' → K c w') :
    NewK (.cells zs.toArray T) w fun g w1 => StsK ⟨g, 0, none⟩ (Cs.vals cks c) w1 fun w2 => CallK Tryz.prog 183 #[.pointer (some ⟨b, 0, none⟩), .string (str x)] w2 (.tup []) fun (_ : Unit) w3 => LdsK cks ⟨g, 0, none⟩ w3 fun y => K y w3 := by
  refine ns_ok hl h1 fun g w4 hg hb f => ?_
  have hlt := h.lt
  refine CallK.of (rmust_spec (h.keep0 f) x) ?_
  rintro _ w5 ⟨rfl, h5, f5⟩
  refine ⟨(), rfl, ?_⟩
  refine LdsK.blk (f5.keep hb (fun t => by have : g = b := t; omega)) ?_
  exact k w5 h5 (Fr.of0 f f5)

theorem sub1 (n : Nat) (hn : n + 1 ≤ 12) : IntKind.i64.wrap (12 - ((n + 1 : Nat) : Int) + 1) = 12 - (n : Int) := by
  rw [wI (by omega) (by omega)]; omega

theorem rnumber_spec : ∀ (n : Nat) (hn : n ≤ 12) {w : World} {m b : Nat} {fin : Int} {s : RS} (h : IsRd w m b fin s), Ret Tryz.prog 187 #[.pointer (some ⟨b, 0, none⟩), .int .i64 (12 - (n : Int))] w fun r w' => r = (numR fin n s).1.v ∧ IsRd w' m b fin (numR fin n s).2 ∧ Fr (only b) w w'
  | 0, hn, w, m, b, fin, s, h => by
    refine c187 _ _ w _ ?_
    refine CallK.of (rdeep_spec h 0 hn) ?_
    rintro _ w1 ⟨rfl, h1, f1⟩
    exact ⟨_, rfl, ifB.t rfl ⟨rfl, h1, f1⟩⟩
  | n + 1, hn, w, m, b, fin, s, h => by
    have ih := fun {w : World} {s : RS} (h : IsRd w m b fin s) => rnumber_spec n (by omega) h
    refine c187 _ _ w _ ?_
    refine CallK.of (rdeep_spec h (n + 1) hn) ?_
    rintro _ w1 ⟨rfl, h1, f1⟩
    rw [if_neg (by omega)] at h1
    refine ⟨_, rfl, ?_⟩
    dsimp only
    rw [sub1 n hn]
    unfold numR
    by_cases he : s.e = 0
    case neg =>
      rw [if_pos he]
      exact ifB.t (by simp [he]) ⟨rfl, h1, f1⟩
    rw [if_neg (by simpa using he)]
    refine ifB.f (by simp [he]) ?_
    refine CallK.of (rtake_spec h1 _ wordF' fun y hy K hK => ?_) ?_
    · refine callV_of (by kernel_rfl) Tryz.func201 (by kernel_rfl) ((rword_spec y hy w1).mono ?_)
      rintro _ w2 ⟨rfl, f2⟩
      exact ⟨_, rfl, hK w2 f2⟩
    rintro _ w2 ⟨rfl, h2, f2⟩
    have hsh := take_short h1 wordF'
    refine ⟨_, rfl, ?_⟩
    generalize (takeF fin wordF' s).1 = x at hsh ⊢
    generalize (takeF fin wordF' s).2 = s2 at h2 ⊢
    have f12 := f1.trans f2
    have pair : ∀ {K : Value × Value × Unit → World → Prop}, (∀ w', IsRd w' m b fin (pairF fin (numR fin n) s2).2.2 → Fr (only b) w w' → K ((pairF fin (numR fin n) s2).1.v, (pairF fin (numR fin n) s2).2.1.v, ()) w') →
        CallK Tryz.prog 202 #[.pointer (some ⟨b, 0, none⟩), .int .i64 (12 - (n : Int))] w2 (.tup [.one .raw, .one .raw]) K := fun {K} hK => by
      have hp : Ret Tryz.prog 202 #[.pointer (some ⟨b, 0, none⟩), .int .i64 (12 - (n : Int))] w2 fun r w' => r = .tuple #[(pairF fin (numR fin n) s2).1.v, (pairF fin (numR fin n) s2).2.1.v] ∧ IsRd w' m b fin (pairF fin (numR fin n) s2).2.2 ∧ Fr (only b) w2 w' := by
        refine c202 _ _ w2 _ ?_
        refine CallK.of (rmust_spec h2 [40]) ?_
        rintro _ w3 ⟨rfl, h3, f3⟩
        refine ⟨(), rfl, ?_⟩
        refine CallK.of (ih h3) ?_
        rintro _ w4 ⟨rfl, h4, f4⟩
        refine ⟨_, rfl, ?_⟩
        refine CallK.of (rmust_spec h4 [44]) ?_
        rintro _ w5 ⟨rfl, h5, f5⟩
        refine ⟨(), rfl, ?_⟩
        refine CallK.of (ih h5) ?_
        rintro _ w6 ⟨rfl, h6, f6⟩
        refine ⟨_, rfl, ?_⟩
        refine CallK.of (rmust_spec h6 [41]) ?_
        rintro _ w7 ⟨rfl, h7, f7⟩
        exact ⟨(), rfl, rfl, h7, (((f3.trans f4).trans f5).trans f6).trans f7⟩
      refine CallK.of hp ?_
      rintro _ w3 ⟨rfl, h3, f3⟩
      exact ⟨(_, _, ()), rfl, hK w3 h3 (f12.trans f3)⟩
    refine ifB.str (z := []) (fun e => ?_) (fun e => ?_)
    · rw [if_pos e]; exact ⟨rfl, h2, f12⟩
    rw [if_neg e]
    unfold numK
    refine ifB.str (z := [102, 105, 120]) (fun e => ?_) (fun e => ?_)
    · rw [if_pos e]
      refine CallK.of (rmust_spec h2 [40]) ?_
      rintro _ w3 ⟨rfl, h3, f3⟩
      refine ⟨(), rfl, ?_⟩
      refine CallK.of (rname_spec' h3) ?_
      rintro _ w4 ⟨rfl, h4, f4⟩
      refine ⟨_, rfl, ?_⟩
      exact wrap_ok h4 [41] (zs := [.string (⟨#[]⟩ : ByteArray)]) (cks := [.str]) (str (takeF fin nameL (mustF fin [40] s2)).1, ()) rfl rfl fun w5 h5 f5 => ⟨rfl, h5, ((f12.trans f3).trans f4).trans f5⟩
    rw [if_neg e]
    refine ifB.str (z := [110, 101, 103]) (fun e => ?_) (fun e => ?_)
    · rw [if_pos e]
      refine CallK.of (rmust_spec h2 [40]) ?_
      rintro _ w3 ⟨rfl, h3, f3⟩
      refine ⟨(), rfl, ?_⟩
      refine CallK.of (ih h3) ?_
      rintro _ w4 ⟨rfl, h4, f4⟩
      refine ⟨_, rfl, ⟨Ob.v_cells _, ?_⟩⟩
      exact wrap_ok h4 [41] (zs := [.nilIface]) (cks := [.raw]) ((numR fin n (mustF fin [40] s2)).1.v, ()) rfl (by simp [Cs.vals, Ck.val, Ob.v_one]) fun w5 h5 f5 => ⟨rfl, h5, ((f12.trans f3).trans f4).trans f5⟩
    rw [if_neg e]
    refine ifB.str (z := [97, 100, 100]) (fun e => ?_) (fun e => ?_)
    · rw [if_pos e]
      exact pair fun w3 h3 f3 => ⟨Ob.v_cells _, ⟨Ob.v_cells _, rfl, h3, f3⟩⟩
    rw [if_neg e]
    refine ifB.str (z := [109, 117, 108]) (fun e => ?_) (fun e => ?_)
    · rw [if_pos e]
      exact pair fun w3 h3 f3 => ⟨Ob.v_cells _, ⟨Ob.v_cells _, rfl, h3, f3⟩⟩
    rw [if_neg e]
    refine ifB.str (z := [109, 97, 120]) (fun e => ?_) (fun e => ?_)
    · rw [if_pos e]
      exact pair fun w3 h3 f3 => ⟨Ob.v_cells _, ⟨Ob.v_cells _, rfl, h3, f3⟩⟩
    rw [if_neg e]
    refine CallK.of (number_spec x (by omega) w2) ?_
    rintro _ w3 ⟨rfl, f3⟩
    exact ⟨(_, _, ()), rfl, rfl, h2.keep0 f3, f12.then0 f3⟩

end Go.Proofs.YtbadiokobooliaaGreatDoor

/-! ### ReadSpec2 -/
set_option linter.unusedVariables false
set_option maxRecDepth 100000
namespace Go.Proofs.YtbadiokobooliaaGreatDoor
open Vc

theorem one1_nil : one1 .nilIface = true := rfl

theorem rone_of {n : Nat} (ih : ∀ {w : World} {m b : Nat} {fin : Int} {s : RS}, IsRd w m b fin s → Ret Tryz.prog 164 #[.pointer (some ⟨b, 0, none⟩), .int .i64 (12 - (n : Int))] w fun r w' => r = (conR fin n s).1.v ∧ IsRd w' m b fin (conR fin n s).2 ∧ Fr (only b) w w')
    {w : World} {m b : Nat} {fin : Int} {s : RS} (h : IsRd w m b fin s) : Ret Tryz.prog 185 #[.pointer (some ⟨b, 0, none⟩), .int .i64 (12 - (n : Int))] w fun r w' => r = (oneF fin (conR fin n) s).1.v ∧ IsRd w' m b fin (oneF fin (conR fin n) s).2 ∧ Fr (only b) w w' := by
  refine c185 _ _ w _ ?_
  refine CallK.of (ih h) ?_
  rintro _ w1 ⟨rfl, h1, f1⟩
  refine ⟨_, rfl, ?_⟩
  refine CallK.of (rmust_spec h1 [41]) ?_
  rintro _ w2 ⟨rfl, h2, f2⟩
  exact ⟨(), rfl, rfl, h2, f1.trans f2⟩
theorem rboth_of {n : Nat} (ih : ∀ {w : World} {m b : Nat} {fin : Int} {s : RS}, IsRd w m b fin s → Ret Tryz.prog 164 #[.pointer (some ⟨b, 0, none⟩), .int .i64 (12 - (n : Int))] w fun r w' => r = (conR fin n s).1.v ∧ IsRd w' m b fin (conR fin n s).2 ∧ Fr (only b) w w')
    {w : World} {m b : Nat} {fin : Int} {s : RS} (h : IsRd w m b fin s) : Ret Tryz.prog 186 #[.pointer (some ⟨b, 0, none⟩), .int .i64 (12 - (n : Int))] w fun r w' =>
      r = .tuple #[(bothF fin (conR fin n) s).1.v, (bothF fin (conR fin n) s).2.1.v] ∧ IsRd w' m b fin (bothF fin (conR fin n) s).2.2 ∧ Fr (only b) w w' := by
  refine c186 _ _ w _ ?_
  refine CallK.of (ih h) ?_
  rintro _ w1 ⟨rfl, h1, f1⟩
  refine ⟨_, rfl, ?_⟩
  refine CallK.of (rmust_spec h1 [44]) ?_
  rintro _ w2 ⟨rfl, h2, f2⟩
  refine ⟨(), rfl, ?_⟩
  refine CallK.of (ih h2) ?_
  rintro _ w3 ⟨rfl, h3, f3⟩
  refine ⟨_, rfl, ?_⟩
  refine CallK.of (rmust_spec h3 [41]) ?_
  rintro _ w4 ⟨rfl, h4, f4⟩
  exact ⟨(), rfl, rfl, h4, ((f1.trans f2).trans f3).trans f4⟩

theorem rcontract_spec : ∀ (n : Nat) (hn : n ≤ 12) {w : World} {m b : Nat} {fin : Int} {s : RS} (h : IsRd w m b fin s), Ret Tryz.prog 164 #[.pointer (some ⟨b, 0, none⟩), .int .i64 (12 - (n : Int))] w fun r w' => r = (conR fin n s).1.v ∧ IsRd w' m b fin (conR fin n s).2 ∧ Fr (only b) w w'
  | 0, hn, w, m, b, fin, s, h => by
    refine c164 _ _ w _ ?_
    refine CallK.of (rdeep_spec h 0 hn) ?_
    rintro _ w1 ⟨rfl, h1, f1⟩
    exact ⟨_, rfl, ifB.t rfl ⟨rfl, h1, f1⟩⟩
  | n + 1, hn, w, m, b, fin, s, h => by
    have ih := fun {w : World} {m b : Nat} {fin : Int} {s : RS} (h : IsRd w m b fin s) => rcontract_spec n (by omega) h
    refine c164 _ _ w _ ?_
    refine CallK.of (rdeep_spec h (n + 1) hn) ?_
    rintro _ w1 ⟨rfl, h1, f1⟩
    rw [if_neg (by omega)] at h1
    refine ⟨_, rfl, ?_⟩
    dsimp only
    rw [sub1 n hn]
    unfold conR
    by_cases he : s.e = 0
    case neg =>
      rw [if_pos he]
      exact ifB.t (by simp [he]) ⟨rfl, h1, f1⟩
    rw [if_neg (by simpa using he)]
    refine ifB.f (by simp [he]) ?_
    refine CallK.of (rtake_spec h1 _ beginsF fun y hy K hK => ?_) ?_
    · refine callV_of (by kernel_rfl) Tryz.func182 (by kernel_rfl) ((rbegins_spec y w1).mono ?_)
      rintro _ _ ⟨rfl, rfl⟩
      exact ⟨_, rfl, hK w1 (Fr.refl _ _)⟩
    rintro _ w2 ⟨rfl, h2, f2⟩
    refine ⟨_, rfl, ?_⟩
    generalize (takeF fin beginsF s).1 = x
    generalize (takeF fin beginsF s).2 = s1 at h2 ⊢
    have f12 := f1.trans f2
    refine ifB.str (z := []) (fun e => ?_) (fun e => ?_)
    · rw [if_pos e]; exact ⟨rfl, h2, f12⟩
    rw [if_neg e]
    refine ifB.str (z := [122, 101, 114, 111]) (fun e => ?_) (fun e => ?_)
    · rw [if_pos e]; exact ⟨rfl, h2, f12⟩
    rw [if_neg e]
    refine CallK.of (rmust_spec h2 [40]) ?_
    rintro _ w3 ⟨rfl, h3, f3⟩
    refine ⟨(), rfl, ?_⟩
    have f13 := f12.trans f3
    generalize mustF fin [40] s1 = s2 at h3 ⊢
    have hlt := h.lt
    unfold conK
    refine ifB.str (z := [111, 110, 101]) (fun e => ?_) (fun e => ?_)
    · rw [if_pos e]
      refine CallK.of (rname_spec' h3) ?_
      rintro _ w4 ⟨rfl, h4, f4⟩
      refine ⟨_, rfl, ?_⟩
      exact wrap_ok h4 [41] (zs := [.string (⟨#[]⟩ : ByteArray)]) (cks := [.str]) (str (takeF fin nameL s2).1, ()) rfl rfl fun w5 h5 f5 => ⟨rfl, h5, (f13.trans f4).trans f5⟩
    rw [if_neg e]
    refine ifB.str (z := [103, 105, 118, 101]) (fun e => ?_) (fun e => ?_)
    · rw [if_pos e]
      refine CallK.of (rone_of ih h3) ?_
      rintro _ w4 ⟨rfl, h4, f4⟩
      exact ⟨_, rfl, ⟨Tm.v_cells _, rfl, h4, f13.trans f4⟩⟩
    rw [if_neg e]
    refine ifB.str (z := [97, 110, 100]) (fun e => ?_) (fun e => ?_)
    · rw [if_pos e]
      refine CallK.of (rboth_of ih h3) ?_
      rintro _ w4 ⟨rfl, h4, f4⟩
      exact ⟨(_, _, ()), rfl, ⟨Tm.v_cells _, ⟨Tm.v_cells _, rfl, h4, f13.trans f4⟩⟩⟩
    rw [if_neg e]
    refine ifB.str (z := [111, 114]) (fun e => ?_) (fun e => ?_)
    · rw [if_pos e]
      refine CallK.of (rname_spec' h3) ?_
      rintro _ w4 ⟨rfl, h4, f4⟩
      refine ⟨_, rfl, ?_⟩
      generalize (takeF fin nameL s2).1 = y
      generalize (takeF fin nameL s2).2 = s3 at h4 ⊢
      refine ns_ok (zs := [.string (⟨#[]⟩ : ByteArray), .nilIface, .nilIface]) (vs := [.string (str y), .nilIface, .nilIface]) rfl rfl fun g w5 hg hb f5 => ?_
      have hgm : m ≤ g := by have := h4.lt; omega
      have hgb : g ≠ b := by have := h4.lt; omega
      refine CallK.of (rmust_spec (h4.keep0 f5) [44]) ?_
      rintro _ w6 ⟨rfl, h6, f6⟩
      refine ⟨(), rfl, ?_⟩
      refine CallK.of (rboth_of ih h6) ?_
      rintro _ w7 ⟨rfl, h7, f7⟩
      refine ⟨(_, _, ()), rfl, ⟨Tm.v_cells _, ?_⟩⟩
      have hb7 := f7.keep1 (f6.keep1 hb hgb) hgb
      refine StsK.one hb7 (by show 1 < 3; omega) (Tm.v_one _) fun w8 hb8 f8 _ => ⟨Tm.v_cells _, ?_⟩
      refine StsK.one hb8 (by show 2 < 3; omega) (Tm.v_one _) fun w9 hb9 f9 _ => ?_
      refine LdsK.blk (x := (str y, (bothF fin (conR fin n) (mustF fin [44] s3)).1.v, (bothF fin (conR fin n) (mustF fin [44] s3)).2.1.v, ())) hb9 ?_
      have f89 := f8.trans f9
      exact ⟨rfl, h7.keep f89 (fun k hk t => by have : k = g := t; omega), (f13.trans f4).trans ((Fr.of0 f5 (f6.trans f7)).comp f89 fun x hx t => by have : x = g := t; omega)⟩
    rw [if_neg e]
    refine ifB.str (z := [115, 99, 97, 108, 101]) (fun e => ?_) (fun e => ?_)
    · rw [if_pos e]
      refine CallK.of (rnumber_spec n (by omega) h3) ?_
      rintro _ w4 ⟨rfl, h4, f4⟩
      refine ⟨_, rfl, ⟨Ob.v_cells _, ?_⟩⟩
      generalize (numR fin n s2).1 = y
      generalize (numR fin n s2).2 = s3 at h4 ⊢
      refine ns_ok (zs := [.nilIface, .nilIface]) (vs := [y.v, .nilIface]) rfl (by simp [Ob.v_one, one1_nil]) fun g w5 hg hb f5 => ?_
      have hgm : m ≤ g := by have := h4.lt; omega
      have hgb : g ≠ b := by have := h4.lt; omega
      refine CallK.of (rmust_spec (h4.keep0 f5) [44]) ?_
      rintro _ w6 ⟨rfl, h6, f6⟩
      refine ⟨(), rfl, ?_⟩
      refine CallK.of (rone_of ih h6) ?_
      rintro _ w7 ⟨rfl, h7, f7⟩
      refine ⟨_, rfl, ⟨Tm.v_cells _, ?_⟩⟩
      have hb7 := f7.keep1 (f6.keep1 hb hgb) hgb
      refine StsK.one hb7 (by show 1 < 2; omega) (Tm.v_one _) fun w8 hb8 f8 _ => ?_
      refine LdsK.blk (x := (y.v, (oneF fin (conR fin n) (mustF fin [44] s3)).1.v, ())) hb8 ?_
      exact ⟨rfl, h7.keep f8 (fun k hk t => by have : k = g := t; omega), (f13.trans f4).trans ((Fr.of0 f5 (f6.trans f7)).comp f8 fun x hx t => by have : x = g := t; omega)⟩
    rw [if_neg e]
    refine ifB.str (z := [119, 104, 101, 110]) (fun e => ?_) (fun e => ?_)
    · rw [if_pos e]
      refine CallK.of (rday_spec h3) ?_
      rintro _ w4 ⟨rfl, h4, f4⟩
      refine ⟨_, rfl, ?_⟩
      generalize (numF (takeF fin dayF s2).1).1 = y
      generalize (takeF fin dayF s2).2 = s3 at h4 ⊢
      refine ns_ok (zs := [.int .i64 0, .nilIface]) (vs := [.int .i64 y, .nilIface]) rfl rfl fun g w5 hg hb f5 => ?_
      have hgm : m ≤ g := by have := h4.lt; omega
      have hgb : g ≠ b := by have := h4.lt; omega
      refine CallK.of (rmust_spec (h4.keep0 f5) [44]) ?_
      rintro _ w6 ⟨rfl, h6, f6⟩
      refine ⟨(), rfl, ?_⟩
      refine CallK.of (rone_of ih h6) ?_
      rintro _ w7 ⟨rfl, h7, f7⟩
      refine ⟨_, rfl, ⟨Tm.v_cells _, ?_⟩⟩
      have hb7 := f7.keep1 (f6.keep1 hb hgb) hgb
      refine StsK.one hb7 (by show 1 < 2; omega) (Tm.v_one _) fun w8 hb8 f8 _ => ?_
      refine LdsK.blk (x := (y, (oneF fin (conR fin n) (mustF fin [44] s3)).1.v, ())) hb8 ?_
      exact ⟨rfl, h7.keep f8 (fun k hk t => by have : k = g := t; omega), (f13.trans f4).trans ((Fr.of0 f5 (f6.trans f7)).comp f8 fun x hx t => by have : x = g := t; omega)⟩
    rw [if_neg e]
    refine CallK.of (rnumber_spec n (by omega) h3) ?_
    rintro _ w4 ⟨rfl, h4, f4⟩
    refine ⟨_, rfl, ⟨Ob.v_cells _, ?_⟩⟩
    generalize (numR fin n s2).1 = y
    generalize (numR fin n s2).2 = s3 at h4 ⊢
    refine ns_ok (zs := [.nilIface, .nilIface, .nilIface]) (vs := [y.v, .nilIface, .nilIface]) rfl (by simp [Ob.v_one, one1_nil]) fun g w5 hg hb f5 => ?_
    have hgm : m ≤ g := by have := h4.lt; omega
    have hgb : g ≠ b := by have := h4.lt; omega
    refine CallK.of (rmust_spec (h4.keep0 f5) [44]) ?_
    rintro _ w6 ⟨rfl, h6, f6⟩
    refine ⟨(), rfl, ?_⟩
    refine CallK.of (rboth_of ih h6) ?_
    rintro _ w7 ⟨rfl, h7, f7⟩
    refine ⟨(_, _, ()), rfl, ⟨Tm.v_cells _, ?_⟩⟩
    have hb7 := f7.keep1 (f6.keep1 hb hgb) hgb
    refine StsK.one hb7 (by show 1 < 3; omega) (Tm.v_one _) fun w8 hb8 f8 _ => ⟨Tm.v_cells _, ?_⟩
    refine StsK.one hb8 (by show 2 < 3; omega) (Tm.v_one _) fun w9 hb9 f9 _ => ?_
    refine LdsK.blk (x := (y.v, (bothF fin (conR fin n) (mustF fin [44] s3)).1.v, (bothF fin (conR fin n) (mustF fin [44] s3)).2.1.v, ())) hb9 ?_
    have f89 := f8.trans f9
    exact ⟨rfl, h7.keep f89 (fun k hk t => by have : k = g := t; omega), (f13.trans f4).trans ((Fr.of0 f5 (f6.trans f7)).comp f89 fun x hx t => by have : x = g := t; omega)⟩

/-! ### The whole text -/
theorem rcount_spec (bs : List UInt8) (hl : bs.length < 9223372036854775807) (w : World) : Ret Tryz.prog 178 #[.string (str bs)] w fun r w' => r = .int .i64 ((runesL bs).length : Int) ∧ Fr none1 w w' := by
  refine (Tryz.utf8_RuneCountInString (str bs) w (by rw [str_size]; exact hl)).mono ?_
  rintro e w' ⟨rfl, pos, rfl⟩
  refine ⟨_, rfl, ?_, push_fr _ _⟩
  unfold Lib.runeCount
  rw [count_runes _ _ _ (by omega), str_list, List.drop_zero]

theorem rbegin_spec (bs : List UInt8) (hl : bs.length ≤ 1000000000000) (w : World) : Ret Tryz.prog 163 #[.string (str bs)] w fun r w' => ∃ m g : Nat, r = .pointer (some ⟨g, 0, none⟩) ∧ IsRd w' m g (endF bs) (beginF bs) ∧ Fr none1 w w' ∧ w.heap.size ≤ g := by
  refine c163 (str bs) w _ ?_
  refine CallK.of (rcount_spec bs (by omega) w) ?_
  rintro _ w1 ⟨rfl, f1⟩
  refine ⟨_, rfl, ?_⟩
  have hrl := runesL_len bs
  have hfin : IntKind.i64.wrap (((runesL bs).length : Int) + 1) = endF bs := wI (by omega) (by omega)
  refine NewK.of fun g w2 hg hb f2 hs2 => ?_
  rw [hfin] at hb
  have hgw : w.heap.size ≤ g := by have := f1.size; omega
  unfold beginF
  rw [str_size]
  refine ifB.dec (fun h => ?_) (fun h => ?_)
  · rw [if_pos (by omega)]
    refine StK.fld hb (by show 0 + 3 < 4; omega) rfl fun w3 hb3 f3 hs3 => ?_
    exact ⟨g + 1, g, rfl, ⟨(none, 0, 0), hb3, none_sg _, ⟨none_blk _, by omega, by omega, fun k t => (none_blk k t).elim⟩, fun x hx => by cases hx⟩, f1.trans (f2.fresh f3 (by omega)), hgw⟩
  · rw [if_neg (by omega)]
    refine CallK.of (signs_spec bs w2 (by have := reads_le (runesL bs); omega)) ?_
    rintro _ w3 ⟨sl, rfl, hsl, f3, hf⟩
    refine ⟨((sl.1, sl.2.1, sl.2.2), _, ()), rfl, ?_⟩
    have hb3 := f3.keep0 hb
    have hz := signs_short (bs := bs) (by omega)
    have hblk : ¬ blkOf sl g := fun t => by have := hf g t; omega
    have hltm : ∀ k, blkOf sl k → k < w3.heap.size := fun k hk => hsl.sl.lt hk
    refine ifB.dec (fun hp => ?_) (fun hp => ?_)
    · rw [if_pos (show 0 < (sgF [] 0 false (runesL bs)).2 from hp)]
      refine StK.fld hb3 (by show 0 + 3 < 4; omega) rfl fun w4 hb4 f4 hs4 => ?_
      refine StK.fld hb4 (by show 0 + 2 < 4; omega) rfl fun w5 hb5 f5 hs5 => ?_
      refine StK.fld hb5 (by show 0 + 0 < 4; omega) rfl fun w6 hb6 f6 hs6 => ?_
      have f46 := (f4.trans f5).trans f6
      exact ⟨w3.heap.size, g, rfl, ⟨sl, hb6, hsl.keep f46 (fun k hk t => hblk (by have : k = g := t; rw [← this]; exact hk)), ⟨hblk, lt_of_blk hb3, by omega, hltm⟩, hz⟩, f1.trans ((f2.trans f3).fresh f46 (by omega)), hgw⟩
    · rw [if_neg (show ¬ 0 < (sgF [] 0 false (runesL bs)).2 from hp)]
      refine StK.fld hb3 (by show 0 + 0 < 4; omega) rfl fun w4 hb4 f4 hs4 => ?_
      exact ⟨w3.heap.size, g, rfl, ⟨sl, hb4, hsl.keep f4 (fun k hk t => hblk (by have : k = g := t; rw [← this]; exact hk)), ⟨hblk, lt_of_blk hb3, by omega, hltm⟩, hz⟩, f1.trans ((f2.trans f3).fresh f4 (by omega)), hgw⟩

theorem rdone_spec {w : World} {m b : Nat} {fin : Int} {s : RS} (h : IsRd w m b fin s) : Ret Tryz.prog 165 #[.pointer (some ⟨b, 0, none⟩)] w fun r w' => r = .tuple #[] ∧ IsRd w' m b fin (doneF fin s) ∧ Fr (only b) w w' := by
  refine c165 _ w _ ?_
  obtain ⟨sl, hb, hs, _⟩ := id h
  have hl := hs.len
  refine LdK.fld hb (x := sl) rfl ?_
  unfold doneF
  cases hsl : s.l with
  | nil =>
    rw [hsl] at hl
    exact ifB.no (by rw [hl]; decide) ⟨rfl, h, Fr.refl _ _⟩
  | cons x l =>
    rw [hsl] at hl
    simp only [List.length_cons] at hl
    refine ifB.yes (by omega) ?_
    refine CallK.of (rfail_spec h 2) ?_
    rintro _ w1 ⟨rfl, h1, f1⟩
    exact ⟨(), rfl, rfl, h1, f1⟩

theorem con_small {bs : List UInt8} (h : (conS bs).e = 0) : nodesT (conR (endF bs) 12 (beginF bs)).1 ≤ 1000000 := by
  obtain ⟨h1, h2, _⟩ := doneF_ok h
  obtain ⟨i1, _, _⟩ := conR_inv (endF bs) 12 (beginF bs) h1
  obtain ⟨b1, _, b3⟩ := beginF_ok i1.e
  obtain ⟨xs, hx, hxs⟩ := i1.eat
  have h3 := nodesT_toks (conR (endF bs) 12 (beginF bs)).1
  rw [← hxs, List.length_map] at h3
  rw [h2, List.append_nil, b3] at hx
  have h4 := sgF_cnt (runesL bs) [] 0 false
  have h5 := runesL_len bs
  have hx : (sgF [] 0 false (runesL bs)).1 = xs := hx
  rw [hx, List.length_nil] at h4
  omega

theorem rterm_spec (bs : List UInt8) (hl : bs.length ≤ 1000000000000) (w : World) : Ret Tryz.prog 132 #[.string (str bs)] w fun r w' => r = .tuple #[(readT bs).1.v, .int .i64 (readT bs).2.1, .int .i64 (readT bs).2.2] ∧ Fr none1 w w' := by
  refine c132 (str bs) w _ ?_
  refine CallK.of (rbegin_spec bs hl w) ?_
  rintro _ w1 ⟨m, g, rfl, h1, f1, hg⟩
  refine ⟨_, rfl, ?_⟩
  refine CallK.of (rcontract_spec 12 (Nat.le_refl _) h1) ?_
  rintro _ w2 ⟨rfl, h2, f2⟩
  refine ⟨_, rfl, ?_⟩
  refine CallK.of (rdone_spec h2) ?_
  rintro _ w3 ⟨rfl, h3, f3⟩
  refine ⟨(), rfl, ?_⟩
  have f13 : Fr none1 w w3 := f1.fresh (f2.trans f3) hg
  have h3 : IsRd w3 m g (endF bs) (conS bs) := h3
  obtain ⟨sl, hb, _⟩ := id h3
  unfold readT
  refine LdK.fld hb (x := (conS bs).e) rfl ?_
  refine ifB.eq (fun he => ?_) (fun he => ?_)
  · rw [if_neg (fun t => t he)]
    refine CallK.of (tcheck_spec _ (con_small he) w3) ?_
    rintro _ w4 ⟨rfl, f4⟩
    refine ⟨_, rfl, ?_⟩
    refine StK.fld (f4.keep0 hb) (by show 0 + 3 < 4; omega) rfl fun w5 hb5 f5 _ => ?_
    refine LdK.fld hb5 (x := checkT (conR (endF bs) 12 (beginF bs)).1) rfl ?_
    have f15 : Fr none1 w w5 := (f13.trans f4).fresh f5 (by omega)
    refine ifB.ne (fun hc => ?_) (fun hc => ?_)
    · rw [if_pos hc]
      refine DrewK.of fun w6 _ f6 => ?_
      refine LdK.fld (f6.keep0 hb5) (x := (conS bs).at_) rfl (LdK.fld (f6.keep0 hb5) (x := checkT (conR (endF bs) 12 (beginF bs)).1) rfl ?_)
      exact ⟨rfl, f15.trans f6⟩
    · rw [if_neg (fun t => t hc)]
      exact ⟨rfl, f15⟩
  · rw [if_pos he]
    refine LdK.fld hb (x := (conS bs).e) rfl ?_
    refine ifB.ne (fun _ => ?_) (fun hc => absurd hc he)
    refine DrewK.of fun w6 _ f6 => ?_
    refine LdK.fld (f6.keep0 hb) (x := (conS bs).at_) rfl (LdK.fld (f6.keep0 hb) (x := (conS bs).e) rfl ?_)
    exact ⟨rfl, f13.trans f6⟩

end Go.Proofs.YtbadiokobooliaaGreatDoor

/-! ### BytesMore -/
set_option linter.unusedVariables false
namespace Go.Proofs.YtbadiokobooliaaGreatDoor
open Vc

theorem RdB.mid {w : World} {v : Sl} {bs : List UInt8} (h : RdB w v bs) {lo hi : Int} (h0 : 0 ≤ lo) (h1 : lo ≤ hi) (h2 : hi ≤ v.2.1) (hc : v.2.1 ≤ v.2.2) {K : Option Addr → Nat → Nat → Prop}
    (k : ∀ u : Sl, RdB w u ((bs.drop lo.toNat).take (hi - lo).toNat) → u.2.1 ≤ u.2.2 → u.2.1 = (hi - lo).toNat → (∀ k, blkOf u k → blkOf v k) → K u.1 u.2.1 u.2.2) : SubK v.1 v.2.2 lo hi v.2.2 1 K := by
  refine RdSl.mid h h0 h1 h2 hc fun u hu => k u ?_
  unfold RdB; rw [List.map_take, List.map_drop]; exact hu

theorem RdB.keepE {w w' : World} {v : Sl} {bs : List UInt8} (h : RdB w v bs) {S : Nat → Prop} (f : Fr S w w') (hn : bs ≠ [] → ∀ k, blkOf v k → ¬ S k) : RdB w' v bs := by
  by_cases e : bs = []
  · subst e
    obtain ⟨h1, h2, h3⟩ := h
    exact ⟨h1, h2, fun a ha => trivial⟩
  · exact h.keep f (hn e)

/-- Where there are bytes their block is there. -/
theorem RdB.ltE {w : World} {v : Sl} {bs : List UInt8} (h : RdB w v bs) (hn : bs ≠ []) {k : Nat} (hk : blkOf v k) : k < w.heap.size := by
  obtain ⟨a, ha, rfl⟩ := hk
  obtain ⟨_, _, h3⟩ := h
  have := h3 a ha
  cases bs with
  | nil => exact (hn rfl).elim
  | cons b bs => exact blk_of_cell this.1

end Go.Proofs.YtbadiokobooliaaGreatDoor

/-! ### CLend -/
namespace Go.Proofs.YtbadiokobooliaaGreatDoor
open Vc
set_option maxRecDepth 100000
set_option linter.unusedVariables false

/-- handfast/handfastkeep.Intact -/
def C28 (p0 : Option Addr) (p0l p0c : Nat) (p1 : Option Addr) (p1l p1c : Nat) (w : World) (K : Value → World → Prop) : Prop :=
  ifB ((p0l : Int) != (p1l : Int))
  (K (.bool false) w)
  (ifB ((p0c : Int) != (IntKind.i64.wrap ((p1l : Int) + 3)))
  (K (.bool false) w)
  (SubK p0 p0c 0 (IntKind.i64.wrap ((p1l : Int) + 3)) p0c 1 (fun a1 l2 c3 => LoopK (Int × Unit) (fun _ s4 w5 next6 => ifB (decide (s4.1 < (l2 : Int)))
  (DrewK w5 (fun w7 => ifB (decide (s4.1 < (p1l : Int)))
  (IdxK a1 l2 s4.1 1 (fun a8 => LdK (.int .u8) a8 w7 (fun (x9 : Int) => IdxK p1 p1l s4.1 1 (fun a10 => LdK (.int .u8) a10 w7 (fun (x11 : Int) => ifB (x9 != x11)
  (K (.bool false) w7)
  (ifB (decide (s4.1 ≥ (p1l : Int)))
  (IdxK a1 l2 s4.1 1 (fun a12 => LdK (.int .u8) a12 w7 (fun (x13 : Int) => ifB (x13 != 85)
  (K (.bool false) w7)
  (next6 (IntKind.i64.wrap (s4.1 + 1), ()) w7))))
  (next6 (IntKind.i64.wrap (s4.1 + 1), ()) w7)))))))
  (ifB (decide (s4.1 ≥ (p1l : Int)))
  (IdxK a1 l2 s4.1 1 (fun a14 => LdK (.int .u8) a14 w7 (fun (x15 : Int) => ifB (x15 != 85)
  (K (.bool false) w7)
  (next6 (IntKind.i64.wrap (s4.1 + 1), ()) w7))))
  (next6 (IntKind.i64.wrap (s4.1 + 1), ()) w7))))
  (K (.bool true) w5))
  (0, ()) w)))
def pl28 : Plan := (.seq .auto (.seq .auto (.seq .auto (.seq (.seq .auto (.block (.loop [(27, .one (.int .i64))] (.seq .auto (.seq .auto (.seq (.block (.seq .auto (.seq .still .auto))) .auto)))))) .auto))))
theorem e28 (p0 : Option Addr) (p0l p0c : Nat) (p1 : Option Addr) (p1l p1c : Nat) (w : World) (K : Value → World → Prop) : vcFunc Tryz.prog Tryz.f28 pl28 [.slice p0 p0l p0c, .slice p1 p1l p1c] w K = C28 p0 p0l p0c p1 p1l p1c w K := by kernel_rfl
theorem c28 (p0 : Option Addr) (p0l p0c : Nat) (p1 : Option Addr) (p1l p1c : Nat) (w : World) (K : Value → World → Prop) (h : C28 p0 p0l p0c p1 p1l p1c w K) : Ret Tryz.prog 28 #[.slice p0 p0l p0c, .slice p1 p1l p1c] w K := by
  rw [← e28] at h
  exact vcFunc_sound (by kernel_rfl) Tryz.func28 h

end Go.Proofs.YtbadiokobooliaaGreatDoor

/-! ### LendB -/
set_option linter.unusedVariables false
namespace Go.Proofs.YtbadiokobooliaaGreatDoor
open Vc

/-- make of bytes, with room: all of it zeros. -/
theorem make_full {w : World} {n m : Int} (h0 : 0 ≤ n) (h1 : n ≤ m) (hb : m ≤ 281474976710656) :
    ∃ w', (Instr.makeSlice 38 (.int .i64 n) (.int .i64 m)).run Tryz.prog w = .ok (.slice (some ⟨w.heap.size, 0, none⟩) n.toNat m.toNat) w' ∧ IsB w' (some ⟨w.heap.size, 0, none⟩, m.toNat, m.toNat) (List.replicate m.toNat 0) ∧ Fr none1 w w' := by
  obtain ⟨hu, ⟨i, hi, hs, hz, hby⟩, hc, hpos⟩ := elem_byte
  have hti : ∀ w, (typeInfo 5).run Tryz.prog w = .ok i w := fun w => by simp [typeInfo, hi]
  have hsize : ∀ w, (sizeOf 5).run Tryz.prog w = .ok 1 w := fun w => by rw [sizeof hi, hs]
  have ha : ∀ (k : IntKind) (n : Int) w, (asInt (.int k n)).run Tryz.prog w = .ok n w := fun _ _ _ => rfl
  unfold Instr.makeSlice
  simp only [Sem.run_bind, under hu, Result.andThen_ok, ha, hti, wI (x := n) (by omega) (by omega), wI (x := m) (by omega) (by omega)]
  have hbm : ¬ ((i.bytes : Int) * m > 2 ^ 48) := by rw [hby]; omega
  rw [if_neg (by simp; omega)]
  have hcells : ∀ zc : Array Value, (m.toNat * 1 ≠ 0 → zc = #[.int .u8 0]) → (Array.range (m.toNat * 1)).map (zc[· % zc.size]!) = Array.replicate m.toNat (.int .u8 0) := fun zc hzc => by
    by_cases h : m.toNat * 1 = 0
    · have : m.toNat = 0 := by omega
      rw [this]; simp
    · rw [hzc h]
      apply Array.ext
      · simp
      · intro j h1 h2
        have : j % 1 = 0 := Nat.mod_one _
        simp [this]
  have fin : ∀ cs : Array Value, cs = Array.replicate m.toNat (.int .u8 0) →
      ∃ w', (do pure (Value.slice (some (← newRow 5 cs)) n.toNat m.toNat) : Sem Value).run Tryz.prog w = .ok (.slice (some ⟨w.heap.size, 0, none⟩) n.toNat m.toNat) w' ∧ IsB w' (some ⟨w.heap.size, 0, none⟩, m.toNat, m.toNat) (List.replicate m.toNat 0) ∧ Fr none1 w w' := fun cs hcs => by
    subst hcs
    simp only [newRow, Sem.run_bind, run_newObj, Result.andThen_ok, Sem.run_pure]
    refine ⟨_, rfl, .inr ⟨w.heap.size, 0, _, rfl, Array.getElem?_push_size .., Nat.le_refl _, by simp, by simp, fun j hj => ?_⟩, push_fr _ _⟩
    simp at hj
    rw [List.map_replicate, Array.getElem?_replicate, List.getElem?_replicate, if_pos (show 0 + j < m.toNat by omega), if_pos (show j < m.toNat by omega)]
    rfl
  by_cases h : m.toNat * 1 = 0
  · simp only [Sem.run_bind, run_askRoom, Result.andThen_ok, hsize, if_pos h, Sem.run_pure]
    exact fin _ (hcells #[] (fun hh => absurd h hh))
  · simp only [Sem.run_bind, run_askRoom, Result.andThen_ok, hsize, if_neg h, zeroof hi hz, Sem.run_pure]
    exact fin _ (hcells _ (fun _ => rfl))

theorem setCells_above {g : Nat} {T : TypeId} : ∀ (vs : List Value) (w : World) (cs cs' : Array Value) (off i : Nat), w.heap[g]? = some (.cells cs T (0, 0)) → (setCells w ⟨g, off, none⟩ i vs).heap[g]? = some (.cells cs' T (0, 0)) → ∀ j, off + i + vs.length ≤ j → cs'[j]? = cs[j]?
  | [], w, cs, cs', off, i, hb, hb', j, _ => by
    have : some (Obj.cells cs T (0, 0)) = some (.cells cs' T (0, 0)) := by rw [← hb, ← hb']; rfl
    injection this with this
    injection this with this
    rw [this]
  | v :: vs, w, cs, cs', off, i, hb, hb', j, hj => by
    simp only [List.length_cons] at hj
    unfold setCells at hb'
    rw [addr_add] at hb'
    have hs := Vc.heap_setCell_same (i := off + i) (v := v) hb
    have := setCells_above vs _ _ cs' off (i + 1) hs hb' j (by omega)
    rw [this, Array.getElem?_setIfInBounds_ne (by omega)]

end Go.Proofs.YtbadiokobooliaaGreatDoor

/-! ### CPackT -/
namespace Go.Proofs.YtbadiokobooliaaGreatDoor
open Vc
set_option maxRecDepth 100000
set_option linter.unusedVariables false
/-- (*handfast/pack.reader).take -/
def C59 (p0 : Addr) (p1 : Int) (w : World) (K : Value → World → Prop) : Prop :=
  LdK .bool (p0.add 1) w (fun (x1 : Bool) => ifB x1
  (StK (p0.add 1) (.bool true) w (fun w2 => K (.slice none 0 0) w2))
  (LdK .slc (p0.add 0) w (fun (x3 : SlT) => ifB (decide (p1 > (x3.2.1 : Int)))
  (StK (p0.add 1) (.bool true) w (fun w4 => K (.slice none 0 0) w4))
  (LdK .slc (p0.add 0) w (fun (x5 : SlT) => SubK x5.1 x5.2.2 0 p1 x5.2.2 1 (fun a6 l7 c8 => LdK .slc (p0.add 0) w (fun (x9 : SlT) => SubK x9.1 x9.2.2 p1 x9.2.1 x9.2.2 1 (fun a10 l11 c12 => StK (p0.add 0) (.slice a10 l11 c12) w (fun w13 => K (.slice a6 l7 c8) w13)))))))))
def pl59 : Plan := .auto
theorem e59 (p0 : Addr) (p1 : Int) (w : World) (K : Value → World → Prop) : vcFunc Tryz.prog Tryz.f59 pl59 [.pointer (some p0), .int .i64 p1] w K = C59 p0 p1 w K := by kernel_rfl
theorem c59 (p0 : Addr) (p1 : Int) (w : World) (K : Value → World → Prop) (h : C59 p0 p1 w K) : Ret Tryz.prog 59 #[.pointer (some p0), .int .i64 p1] w K := by
  rw [← e59] at h
  exact vcFunc_sound (by kernel_rfl) Tryz.func59 h

/-- (*handfast/pack.reader).text -/
def C100 (p0 : Addr) (p1 : Int) (w : World) (K : Value → World → Prop) : Prop :=
  CallK Tryz.prog 59 #[.pointer (some p0), .int .i64 p1] w (.v (.one .slc)) (fun (x1 : SlT) w2 => LoopK (Int × Int × Unit) (fun _ s3 w4 next5 => ifB (decide (s3.2.1 < (x1.2.1 : Int)))
  (IdxK x1.1 x1.2.1 s3.2.1 1 (fun a6 => LdK (.int .u8) a6 w4 (fun (x7 : Int) => NnK 8 (next5 (IntKind.i64.wrap ((BitVec.ofInt 64 (IntKind.i64.wrap (s3.1 * 2 ^ (min (Int.toNat 8) 64))) ||| BitVec.ofInt 64 (IntKind.i64.wrap x7)).toNat : Int), IntKind.i64.wrap (s3.2.1 + 1), ()) w4))))
  (CallK Tryz.prog 59 #[.pointer (some p0), .int .i64 s3.1] w4 (.v (.one .slc)) (fun (x8 : SlT) w9 => RunK Tryz.prog (convert 38 9 (.slice x8.1 x8.2.1 x8.2.2)) w9 (.v (.one .str)) (fun (x10 : ByteArray) w11 => K (.string x10) w11))))
  (0, 0, ()) w2)
def pl100 : Plan := (.seq .auto (.seq .auto (.seq (.seq .auto (.block (.loop [(5, .one (.int .i64)), (12, .one (.int .i64))] .auto))) .auto)))
theorem e100 (p0 : Addr) (p1 : Int) (w : World) (K : Value → World → Prop) : vcFunc Tryz.prog Tryz.f100 pl100 [.pointer (some p0), .int .i64 p1] w K = C100 p0 p1 w K := by kernel_rfl
theorem c100 (p0 : Addr) (p1 : Int) (w : World) (K : Value → World → Prop) (h : C100 p0 p1 w K) : Ret Tryz.prog 100 #[.pointer (some p0), .int .i64 p1] w K := by
  rw [← e100] at h
  exact vcFunc_sound (by kernel_rfl) Tryz.func100 h

/-- (*handfast/pack.reader).number -/
def C98 (p0 : Addr) (w : World) (K : Value → World → Prop) : Prop :=
  CallK Tryz.prog 59 #[.pointer (some p0), .int .i64 8] w (.v (.one .slc)) (fun (x1 : SlT) w2 => CallK Tryz.prog 16 #[.slice x1.1 x1.2.1 x1.2.2] w2 (.tup [.one (.int .i64), .one .bool]) (fun (x3 : Int × Bool × Unit) w4 => LdK .bool (p0.add 1) w4 (fun (x5 : Bool) => ifB x5
  (StK (p0.add 1) (.bool true) w4 (fun w6 => K (.int .i64 x3.1) w6))
  (StK (p0.add 1) (.bool (!x3.2.1)) w4 (fun w7 => K (.int .i64 x3.1) w7)))))
def pl98 : Plan := .auto
theorem e98 (p0 : Addr) (w : World) (K : Value → World → Prop) : vcFunc Tryz.prog Tryz.f98 pl98 [.pointer (some p0)] w K = C98 p0 w K := by kernel_rfl
theorem c98 (p0 : Addr) (w : World) (K : Value → World → Prop) (h : C98 p0 w K) : Ret Tryz.prog 98 #[.pointer (some p0)] w K := by
  rw [← e98] at h
  exact vcFunc_sound (by kernel_rfl) Tryz.func98 h

/-- (*handfast/pack.reader).term -/
def C99 (p0 : Addr) (w : World) (K : Value → World → Prop) : Prop :=
  CallK Tryz.prog 100 #[.pointer (some p0), .int .i64 2] w (.v (.one .str)) (fun (x1 : ByteArray) w2 => CallK Tryz.prog 132 #[.string x1] w2 (.tup [.one .raw, .one (.int .i64), .one (.int .i64)]) (fun (x3 : Value × Int × Int × Unit) w4 => LdK .bool (p0.add 1) w4 (fun (x5 : Bool) => ifB x5
  (StK (p0.add 1) (.bool true) w4 (fun w6 => K x3.1 w6))
  (StK (p0.add 1) (.bool (x3.2.2.1 != 0)) w4 (fun w7 => K x3.1 w7)))))
def pl99 : Plan := .auto
theorem e99 (p0 : Addr) (w : World) (K : Value → World → Prop) : vcFunc Tryz.prog Tryz.f99 pl99 [.pointer (some p0)] w K = C99 p0 w K := by kernel_rfl
theorem c99 (p0 : Addr) (w : World) (K : Value → World → Prop) (h : C99 p0 w K) : Ret Tryz.prog 99 #[.pointer (some p0)] w K := by
  rw [← e99] at h
  exact vcFunc_sound (by kernel_rfl) Tryz.func99 h

/-- (*handfast/pack.reader).field -/
def C60 (p0 : Addr) (p1 : Addr) (p2 : Int) (w : World) (K : Value → World → Prop) : Prop :=
  ifB (p2 == 68)
  (CallK Tryz.prog 98 #[.pointer (some p0)] w (.v (.one (.int .i64))) (fun (x1 : Int) w2 => StK (p1.add 5) (.int .i64 x1) w2 (fun w3 => K (.tuple #[]) w3)))
  (ifB (p2 == 86)
  (CallK Tryz.prog 98 #[.pointer (some p0)] w (.v (.one (.int .i64))) (fun (x4 : Int) w5 => StK (p1.add 6) (.int .i64 x4) w5 (fun w6 => K (.tuple #[]) w6)))
  (ifB (p2 == 84)
  (CallK Tryz.prog 99 #[.pointer (some p0)] w (.v (.one .raw)) (fun (x7 : Value) w8 => OneK x7 (StsK (p1.add 7) [x7] w8 (fun w9 => K (.tuple #[]) w9))))
  (ifB (p2 == 73)
  (CallK Tryz.prog 100 #[.pointer (some p0), .int .i64 1] w (.v (.one .str)) (fun (x10 : ByteArray) w11 => StK (p1.add 1) (.string x10) w11 (fun w12 => K (.tuple #[]) w12)))
  (ifB (p2 == 78)
  (CallK Tryz.prog 100 #[.pointer (some p0), .int .i64 1] w (.v (.one .str)) (fun (x13 : ByteArray) w14 => StK (p1.add 2) (.string x13) w14 (fun w15 => K (.tuple #[]) w15)))
  (ifB (p2 == 76)
  (CallK Tryz.prog 100 #[.pointer (some p0), .int .i64 1] w (.v (.one .str)) (fun (x16 : ByteArray) w17 => StK (p1.add 3) (.string x16) w17 (fun w18 => K (.tuple #[]) w18)))
  (ifB (p2 == 67)
  (CallK Tryz.prog 100 #[.pointer (some p0), .int .i64 1] w (.v (.one .str)) (fun (x19 : ByteArray) w20 => StK (p1.add 4) (.string x19) w20 (fun w21 => K (.tuple #[]) w21)))
  (K (.tuple #[]) w)))))))
def pl60 : Plan := .auto
theorem e60 (p0 : Addr) (p1 : Addr) (p2 : Int) (w : World) (K : Value → World → Prop) : vcFunc Tryz.prog Tryz.f60 pl60 [.pointer (some p0), .pointer (some p1), .int .i32 p2] w K = C60 p0 p1 p2 w K := by kernel_rfl
theorem c60 (p0 : Addr) (p1 : Addr) (p2 : Int) (w : World) (K : Value → World → Prop) (h : C60 p0 p1 p2 w K) : Ret Tryz.prog 60 #[.pointer (some p0), .pointer (some p1), .int .i32 p2] w K := by
  rw [← e60] at h
  exact vcFunc_sound (by kernel_rfl) Tryz.func60 h

/-- handfast/pack.Take -/
def C24 (p0 : Option Addr) (p0l p0c : Nat) (w : World) (K : Value → World → Prop) : Prop :=
  NewK (.cells #[.int .i64 0, .string (⟨#[]⟩ : ByteArray), .string (⟨#[]⟩ : ByteArray), .string (⟨#[]⟩ : ByteArray), .string (⟨#[]⟩ : ByteArray), .int .i64 0, .int .i64 0, .nilIface] 30) w (fun g1 w2 => NewK (.cells #[.slice p0 p0l p0c, .bool false] 119) w2 (fun g3 w4 => NewK (.cells #[.int .i64 0, .string (⟨#[]⟩ : ByteArray), .string (⟨#[]⟩ : ByteArray), .string (⟨#[]⟩ : ByteArray), .string (⟨#[]⟩ : ByteArray), .int .i64 0, .int .i64 0, .nilIface] 30) w4 (fun g5 w6 => StsK (ad g5) [.int .i64 0, .string (⟨#[]⟩ : ByteArray), .string (⟨#[]⟩ : ByteArray), .string (⟨#[]⟩ : ByteArray), .string (⟨#[]⟩ : ByteArray), .int .i64 0, .int .i64 0, .nilIface] w6 (fun w7 => CallK Tryz.prog 59 #[.pointer (some (ad g3)), .int .i64 1] w7 (.v (.one .slc)) (fun (x8 : SlT) w9 => LoopK (Int × Unit) (fun _ s10 w11 next12 => ifB (decide (s10.1 < (x8.2.1 : Int)))
  (IdxK x8.1 x8.2.1 s10.1 1 (fun a13 => LdK (.int .u8) a13 w11 (fun (x14 : Int) => StK ((ad g5).add 0) (.int .i64 (IntKind.i64.wrap x14)) w11 (fun w15 => next12 (IntKind.i64.wrap (s10.1 + 1), ()) w15))))
  (LdK (.int .i64) ((ad g5).add 0) w11 (fun (x16 : Int) => CallK Tryz.prog 52 #[.int .i64 x16] w11 (.v (.one .slc)) (fun (x17 : SlT) w18 => LoopK (Int × Unit) (fun _ s19 w20 next21 => ifB (decide (s19.1 < (x17.2.1 : Int)))
  (IdxK x17.1 x17.2.1 s19.1 1 (fun a22 => LdK (.int .i32) a22 w20 (fun (x23 : Int) => CallK Tryz.prog 60 #[.pointer (some (ad g3)), .pointer (some (ad g5)), .int .i32 x23] w20 (.tup []) (fun (x24 : Unit) w25 => next21 (IntKind.i64.wrap (s19.1 + 1), ()) w25))))
  (LdsK KZ14 (ad g5) w20 (fun (x26 : YZ14) => CallK Tryz.prog 12 #[.agg (LZ14 x26).toArray] w20 (.tup [.one .slc, .one (.int .i64)]) (fun (x27 : SlT × Int × Unit) w28 => LdK .bool ((ad g3).add 1) w28 (fun (x29 : Bool) => ifB x29
  (StsK (ad g1) [.int .i64 0, .string (⟨#[]⟩ : ByteArray), .string (⟨#[]⟩ : ByteArray), .string (⟨#[]⟩ : ByteArray), .string (⟨#[]⟩ : ByteArray), .int .i64 0, .int .i64 0, .nilIface] w28 (fun w30 => LdsK KZ14 (ad g1) w30 (fun (x31 : YZ14) => K (.tuple #[.agg (LZ14 x31).toArray, .int .i64 2]) w30)))
  (ifB (x27.2.1 != 0)
  (StsK (ad g1) [.int .i64 0, .string (⟨#[]⟩ : ByteArray), .string (⟨#[]⟩ : ByteArray), .string (⟨#[]⟩ : ByteArray), .string (⟨#[]⟩ : ByteArray), .int .i64 0, .int .i64 0, .nilIface] w28 (fun w32 => LdsK KZ14 (ad g1) w32 (fun (x33 : YZ14) => K (.tuple #[.agg (LZ14 x33).toArray, .int .i64 2]) w32)))
  (CallK Tryz.prog 61 #[.slice x27.1.1 x27.1.2.1 x27.1.2.2, .slice p0 p0l p0c] w28 (.v (.one .bool)) (fun (x34 : Bool) w35 => ifB (!x34)
  (StsK (ad g1) [.int .i64 0, .string (⟨#[]⟩ : ByteArray), .string (⟨#[]⟩ : ByteArray), .string (⟨#[]⟩ : ByteArray), .string (⟨#[]⟩ : ByteArray), .int .i64 0, .int .i64 0, .nilIface] w35 (fun w36 => LdsK KZ14 (ad g1) w36 (fun (x37 : YZ14) => K (.tuple #[.agg (LZ14 x37).toArray, .int .i64 2]) w36)))
  (LdsK KZ14 (ad g5) w35 (fun (x38 : YZ14) => StsK (ad g1) (LZ14 x38) w35 (fun w39 => LdsK KZ14 (ad g1) w39 (fun (x40 : YZ14) => K (.tuple #[.agg (LZ14 x40).toArray, .int .i64 0]) w39))))))))))))
  (0, ()) w18))))
  (0, ()) w9)))))
def pl24 : Plan := (.seq .auto (.seq .auto (.seq .auto (.seq (.seq .auto (.block (.loop [(19, .one (.int .i64))] .auto))) (.seq (.seq .auto (.block (.loop [(31, .one (.int .i64))] .auto))) .auto)))))
theorem e24 (p0 : Option Addr) (p0l p0c : Nat) (w : World) (K : Value → World → Prop) : vcFunc Tryz.prog Tryz.f24 pl24 [.slice p0 p0l p0c] w K = C24 p0 p0l p0c w K := by kernel_rfl
theorem c24 (p0 : Option Addr) (p0l p0c : Nat) (w : World) (K : Value → World → Prop) (h : C24 p0 p0l p0c w K) : Ret Tryz.prog 24 #[.slice p0 p0l p0c] w K := by
  rw [← e24] at h
  exact vcFunc_sound (by kernel_rfl) Tryz.func24 h

end Go.Proofs.YtbadiokobooliaaGreatDoor

/-! ### TakeSpec -/
set_option linter.unusedVariables false
set_option maxRecDepth 100000
namespace Go.Proofs.YtbadiokobooliaaGreatDoor
open Vc

/-- A taker: what is left of the bytes (in a block below n), and whether there were too few. -/
def IsTk (T : TypeId) (w : World) (g n : Nat) (s : TkS) : Prop :=
  ∃ u : Sl, w.heap[g]? = some (.cells #[.slice u.1 u.2.1 u.2.2, .bool s.2] T (0, 0)) ∧ RdB w u s.1 ∧ u.2.1 ≤ u.2.2 ∧ (s.1 ≠ [] → ∀ k, blkOf u k → k < n)
theorem IsTk.keep {T : TypeId} {w w' : World} {g n : Nat} {s : TkS} (h : IsTk T w g n s) {S : Nat → Prop} (f : Fr S w w') (hg : ¬ S g) (hS : ∀ k, S k → n ≤ k) : IsTk T w' g n s := by
  obtain ⟨u, a, b, c, d⟩ := h
  exact ⟨u, f.keep a hg, b.keepE f fun hn k hk t => by have := d hn k hk; have := hS k t; omega, c, d⟩
theorem IsTk.keep0 {T : TypeId} {w w' : World} {g n : Nat} {s : TkS} (h : IsTk T w g n s) (f : Fr none1 w w') : IsTk T w' g n s := h.keep f (fun t => t) (fun _ t => t.elim)

theorem none_rd (w : World) : RdB w (none, 0, 0) [] := (none_b w).rd

theorem or_byte64 (m : Nat) (b : UInt8) (hm : m < 65536) : IntKind.i64.wrap ((BitVec.ofInt 64 (IntKind.i64.wrap ((m : Int) * 2 ^ (min (Int.toNat 8) 64))) ||| BitVec.ofInt 64 (IntKind.i64.wrap (b.toNat : Int))).toNat : Int) = ((m * 256 + b.toNat : Nat) : Int) := by
  have hb := b.toNat_lt
  have e1 : ((m : Int) * 2 ^ (min (Int.toNat 8) 64)) = ((m * 256 : Nat) : Int) := by
    rw [show min (Int.toNat 8) 64 = 8 by decide]; norm_cast
  rw [e1, wI (x := ((m * 256 : Nat) : Int)) (by omega) (by omega), wI (x := (b.toNat : Int)) (by omega) (by omega), BitVec.toNat_or, ofInt_nat, ofInt_nat, Nat.mod_eq_of_lt (by omega), Nat.mod_eq_of_lt (by omega)]
  have e2 : m * 256 ||| b.toNat = m * 256 + b.toNat := by
    rw [show m * 256 = m <<< 8 by rw [Nat.shiftLeft_eq], ← Nat.shiftLeft_add_eq_or_of_lt (show b.toNat < 2 ^ 8 from hb)]
  rw [e2, wI (by omega) (by omega)]

theorem tk_bad {z : Bool} {n : Nat} {s : TkS} (h : s.2 = true ∨ s.1.length < n) : tkF z n s = (if z = true then List.replicate n 0 else [], (s.1, true)) := by unfold tkF; rw [if_pos h]
theorem tk_good {z : Bool} {n : Nat} {s : TkS} (h : s.2 = false) (h' : n ≤ s.1.length) : tkF z n s = (s.1.take n, (s.1.drop n, false)) := by
  unfold tkF; rw [if_neg (by rw [h]; simp; omega)]

theorem tk_take {w : World} {g n0 : Nat} {s : TkS} (h : IsTk 119 w g n0 s) (hg : n0 ≤ g) (n : Nat) : Ret Tryz.prog 59 #[.pointer (some ⟨g, 0, none⟩), .int .i64 (n : Int)] w fun r w' =>
    ∃ v : Sl, r = .slice v.1 v.2.1 v.2.2 ∧ RdB w' v (tkF false n s).1 ∧ ((tkF false n s).1 ≠ [] → ∀ k, blkOf v k → k < n0) ∧ IsTk 119 w' g n0 (tkF false n s).2 ∧ Fr (only g) w w' := by
  obtain ⟨u, hb, hu, hc, hlt⟩ := h
  have hul := hu.len
  refine c59 _ _ w _ ?_
  unfold C59
  have bad : s.2 = true ∨ s.1.length < n → ∀ w1, w1.heap[g]? = some (.cells #[.slice u.1 u.2.1 u.2.2, .bool true] 119 (0, 0)) → Fr (only g) w w1 →
      ∃ v : Sl, (Value.slice none 0 0) = .slice v.1 v.2.1 v.2.2 ∧ RdB w1 v (tkF false n s).1 ∧ ((tkF false n s).1 ≠ [] → ∀ k, blkOf v k → k < n0) ∧ IsTk 119 w1 g n0 (tkF false n s).2 ∧ Fr (only g) w w1 := fun hbad w1 hb1 f1 => by
    rw [tk_bad hbad]
    exact ⟨(none, 0, 0), rfl, none_rd w1, (fun h => (h rfl).elim), ⟨u, hb1, hu.keepE f1 fun hn k hk t => by have := hlt hn k hk; have : k = g := t; omega, hc, hlt⟩, f1⟩
  refine LdK.fld hb (x := s.2) rfl ?_
  refine ifB.by (fun e => ?_) (fun e => ?_)
  · exact StK.fld hb (by show 0 + 1 < 2; omega) rfl fun w1 hb1 f1 _ => bad (.inl e) w1 hb1 f1
  refine LdK.fld hb (x := u) rfl ?_
  refine ifB.dec (fun hgt => ?_) (fun hle => ?_)
  · exact StK.fld hb (by show 0 + 1 < 2; omega) rfl fun w1 hb1 f1 _ => bad (.inr (by omega)) w1 hb1 f1
  refine LdK.fld hb (x := u) rfl ?_
  refine RdB.sub hu (by omega) (by omega) hc fun ha => ?_
  refine LdK.fld hb (x := u) rfl ?_
  refine RdB.mid hu (by omega) (by omega) (Int.le_refl _) hc fun v hv hvc hvl hvb => ?_
  refine StK.fld hb (by show 0 + 0 < 2; omega) rfl fun w1 hb1 f1 _ => ?_
  rw [Int.toNat_natCast] at ha hv ⊢
  have e2 : (s.1.drop n).take ((u.2.1 : Int) - (n : Int)).toNat = s.1.drop n := List.take_of_length_le (by rw [List.length_drop]; omega)
  rw [e2] at hv
  rw [tk_good e (by omega)]
  have ne1 : s.1.take n ≠ [] → s.1 ≠ [] := fun h t => h (by rw [t]; simp)
  have ne2 : s.1.drop n ≠ [] → s.1 ≠ [] := fun h t => h (by rw [t]; simp)
  refine ⟨(u.1, n, u.2.2), rfl, ha.keepE f1 fun hn k hk t => by have := hlt (ne1 hn) k hk; have : k = g := t; omega, (fun hn k hk => hlt (ne1 hn) k hk), ⟨v, ?_, hv.keepE f1 fun hn k hk t => by have := hlt (ne2 hn) k (hvb k hk); have : k = g := t; omega, hvc, fun hn k hk => hlt (ne2 hn) k (hvb k hk)⟩, f1⟩
  rw [hb1, ← e]; rfl

theorem tk_text {w : World} {g n0 : Nat} {s : TkS} (h : IsTk 119 w g n0 s) (hg : n0 ≤ g) (size : Nat) (hs : size ≤ 2) : Ret Tryz.prog 100 #[.pointer (some ⟨g, 0, none⟩), .int .i64 (size : Int)] w fun r w' =>
    r = .string (str (txF false size s).1) ∧ IsTk 119 w' g n0 (txF false size s).2 ∧ Fr (only g) w w' := by
  refine c100 _ _ w _ ?_
  unfold C100
  refine CallK.of (tk_take h hg size) ?_
  rintro _ w1 ⟨v, rfl, hv, _, h1, f1⟩
  refine ⟨v, rfl, ?_⟩
  have hvl := hv.len
  have hl2 : (tkF false size s).1.length ≤ 2 := by
    unfold tkF; split
    · simp
    · dsimp only; rw [List.length_take]; omega
  unfold txF
  generalize tkF false size s = x at *
  have hbig : ∀ i, i ≤ 2 → big (x.1.take i) < 65536 := fun i hi => by
    have h1 := big_lt (x.1.take i)
    have h2 : 256 ^ (x.1.take i).length ≤ 256 ^ 2 := Nat.pow_le_pow_right (by decide) (by rw [List.length_take]; omega)
    have : (256 : Nat) ^ 2 = 65536 := by decide
    omega
  refine LoopK.of (fun st w' => ∃ i : Nat, st.2.1 = i ∧ i ≤ x.1.length ∧ st.1 = (big (x.1.take i) : Int) ∧ w1 = w') (fun st _ => (2 - st.2.1).toNat) ⟨0, rfl, by omega, rfl, rfl⟩ ?_
  rintro _ ⟨m, i', _⟩ _ ⟨i, hi, hi8, hm, rfl⟩
  dsimp only at hi hm ⊢
  subst hi hm
  refine ifB.dec (fun hlt => ?_) (fun hge => ?_)
  · refine RdB.at hv (by omega) hlt ?_
    refine ⟨by omega, ?_⟩
    rw [Int.toNat_natCast, or_byte64 _ _ (hbig i (by omega)), wI (by omega) (by omega)]
    refine ⟨⟨i + 1, by omega, by omega, ?_, rfl⟩, by omega⟩
    rw [big_take x.1 i (by omega)]
  · rw [List.take_of_length_le (by omega)]
    refine CallK.of (tk_take h1 hg (big x.1)) ?_
    rintro _ w2 ⟨u, rfl, hu, _, h2, f2⟩
    refine ⟨u, rfl, ?_⟩
    exact ⟨_, w2, txt_of hu, rfl, h2, f1.trans f2⟩

theorem tk_num {w : World} {g n0 : Nat} {s : TkS} (h : IsTk 119 w g n0 s) (hg : n0 ≤ g) : Ret Tryz.prog 98 #[.pointer (some ⟨g, 0, none⟩)] w fun r w' =>
    r = .int .i64 (nuF false s).1 ∧ IsTk 119 w' g n0 (nuF false s).2 ∧ Fr (only g) w w' := by
  refine c98 _ w _ ?_
  unfold C98
  refine CallK.of (tk_take h hg 8) ?_
  rintro _ w1 ⟨v, rfl, hv, _, h1, f1⟩
  refine ⟨v, rfl, ?_⟩
  unfold nuF
  generalize tkF false 8 s = x at *
  refine CallK.of (ptake_spec hv) ?_
  rintro _ _ ⟨rfl, rfl⟩
  refine ⟨((takeL x.1).1, (takeL x.1).2, ()), rfl, ?_⟩
  obtain ⟨u, hb, hu, hc, hlt⟩ := h1
  have kp : ∀ w2, Fr (only g) w1 w2 → RdB w2 u x.2.1 := fun w2 f2 => hu.keepE f2 fun hn k hk t => by have := hlt hn k hk; have : k = g := t; omega
  refine LdK.fld hb (x := x.2.2) rfl ?_
  refine ifB.by (fun e => ?_) (fun e => ?_)
  · refine StK.fld hb (by show 0 + 1 < 2; omega) rfl fun w2 hb2 f2 _ => ?_
    exact ⟨rfl, ⟨u, by rw [hb2, e]; rfl, kp w2 f2, hc, hlt⟩, f1.trans f2⟩
  · refine StK.fld hb (by show 0 + 1 < 2; omega) rfl fun w2 hb2 f2 _ => ?_
    exact ⟨rfl, ⟨u, by rw [hb2, e]; simp, kp w2 f2, hc, hlt⟩, f1.trans f2⟩

theorem tx_len (z : Bool) (size : Nat) (hs : size ≤ 2) (s : TkS) : (txF z size s).1.length ≤ 65535 := by
  have hb : big (tkF z size s).1 ≤ 65535 := by
    have hl2 : (tkF z size s).1.length ≤ 2 := by
      unfold tkF; split
      · dsimp only; split <;> simp <;> omega
      · dsimp only; rw [List.length_take]; omega
    have h1 := big_lt (tkF z size s).1
    have h2 : 256 ^ (tkF z size s).1.length ≤ 256 ^ 2 := Nat.pow_le_pow_right (by decide) hl2
    have : (256 : Nat) ^ 2 = 65536 := by decide
    omega
  unfold txF
  generalize (tkF z size s).2 = t
  generalize big (tkF z size s).1 = n at *
  unfold tkF
  split
  · dsimp only; split <;> simp; omega
  · dsimp only; rw [List.length_take]; omega

theorem tk_term {w : World} {g n0 : Nat} {s : TkS} (h : IsTk 119 w g n0 s) (hg : n0 ≤ g) : Ret Tryz.prog 99 #[.pointer (some ⟨g, 0, none⟩)] w fun r w' =>
    r = (teF false s).1.v ∧ IsTk 119 w' g n0 (teF false s).2 ∧ Fr (only g) w w' := by
  refine c99 _ w _ ?_
  unfold C99
  refine CallK.of (tk_text h hg 2 (by decide)) ?_
  rintro _ w1 ⟨rfl, h1, f1⟩
  have hl := tx_len false 2 (by decide) s
  unfold teF
  generalize txF false 2 s = x at *
  refine ⟨_, rfl, ?_⟩
  refine CallK.of (rterm_spec x.1 (by omega) w1) ?_
  rintro _ w2 ⟨rfl, f2⟩
  refine ⟨((readT x.1).1.v, (readT x.1).2.1, (readT x.1).2.2, ()), rfl, ?_⟩
  obtain ⟨u, hb, hu, hc, hlt⟩ := h1.keep0 f2
  have kp : ∀ w3, Fr (only g) w2 w3 → RdB w3 u x.2.1 := fun w3 f3 => hu.keepE f3 fun hn k hk t => by have := hlt hn k hk; have : k = g := t; omega
  refine LdK.fld hb (x := x.2.2) rfl ?_
  have f12 : Fr (only g) w w2 := f1.then0 f2
  refine ifB.by (fun e => ?_) (fun e => ?_)
  · refine StK.fld hb (by show 0 + 1 < 2; omega) rfl fun w3 hb3 f3 _ => ?_
    exact ⟨rfl, ⟨u, by rw [hb3, e]; rfl, kp w3 f3, hc, hlt⟩, f12.trans f3⟩
  · refine StK.fld hb (by show 0 + 1 < 2; omega) rfl fun w3 hb3 f3 _ => ?_
    exact ⟨rfl, ⟨u, by rw [hb3, e]; simp, kp w3 f3, hc, hlt⟩, f12.trans f3⟩

/-! ### A field, the event -/
def evMc (m : EvM) : Obj := .cells (evL' m) 30 (0, 0)
  where evL' (m : EvM) : Array Value := #[.int .i64 m.1, .string (str m.2.1), .string (str m.2.2.1), .string (str m.2.2.2.1), .string (str m.2.2.2.2.1), .int .i64 m.2.2.2.2.2.1, .int .i64 m.2.2.2.2.2.2.1, m.2.2.2.2.2.2.2.v]

theorem both_of {g b : Nat} {w w1 w2 : World} (f1 : Fr (only g) w w1) (f2 : Fr (only b) w1 w2) : Fr (fun k => k = g ∨ k = b) w w2 := (f1.mono fun k _ t => .inl t).trans (f2.mono fun k _ t => .inr t)

theorem tk_field {w : World} {g b n0 : Nat} {x : TkS × EvM} (h : IsTk 119 w g n0 x.1) (hg : n0 ≤ g) (hb : w.heap[b]? = some (evMc x.2)) (hn : n0 ≤ b) (hgb : b ≠ g) (c : UInt8) (hc : c = 73 ∨ c = 78 ∨ c = 76 ∨ c = 67 ∨ c = 68 ∨ c = 86 ∨ c = 84) :
    Ret Tryz.prog 60 #[.pointer (some ⟨g, 0, none⟩), .pointer (some ⟨b, 0, none⟩), .int .i32 (u8I c)] w fun r w' =>
      r = .tuple #[] ∧ IsTk 119 w' g n0 (evStep false x c).1 ∧ w'.heap[b]? = some (evMc (evStep false x c).2) ∧ Fr (fun k => k = g ∨ k = b) w w' := by
  refine c60 _ _ _ w _ ?_
  unfold C60
  have hd : ∀ (a : UInt8) (n : Int), u8I a = n → c ≠ a → (u8I c == n) = false := fun a n ha hne => by
    subst ha
    unfold u8I
    have : c.toNat ≠ a.toNat := fun t => hne (UInt8.toNat_inj.1 t)
    simp; omega
  have num : ∀ (o : Nat) (ho : o < 8) (m' : EvM) (hm : ((evMc.evL' x.2).setIfInBounds o (.int .i64 (nuF false x.1).1)) = evMc.evL' m') (hs : evStep false x c = ((nuF false x.1).2, m')),
      CallK Tryz.prog 98 #[.pointer (some ⟨g, 0, none⟩)] w (.v (.one (.int .i64))) (fun (x1 : Int) w2 => StK ((⟨b, 0, none⟩ : Addr).add o) (.int .i64 x1) w2 (fun w3 => (Value.tuple #[]) = .tuple #[] ∧ IsTk 119 w3 g n0 (evStep false x c).1 ∧ w3.heap[b]? = some (evMc (evStep false x c).2) ∧ Fr (fun k => k = g ∨ k = b) w w3)) := fun o ho m' hm hs => by
    refine CallK.of (tk_num h hg) ?_
    rintro _ w1 ⟨rfl, h1, f1⟩
    refine ⟨_, rfl, ?_⟩
    have hb1 := f1.keep1 hb hgb
    refine StK.fld hb1 (by show 0 + o < 8; omega) rfl fun w2 hb2 f2 _ => ?_
    rw [hs]
    refine ⟨rfl, h1.keep f2 (fun t => by have : g = b := t; omega) (fun k t => by have : k = b := t; omega), ?_, both_of f1 f2⟩
    rw [hb2, Nat.zero_add, hm]; rfl
  have txt : ∀ (o : Nat) (ho : o < 8) (m' : EvM) (hm : ((evMc.evL' x.2).setIfInBounds o (.string (str (txF false 1 x.1).1))) = evMc.evL' m') (hs : evStep false x c = ((txF false 1 x.1).2, m')),
      CallK Tryz.prog 100 #[.pointer (some ⟨g, 0, none⟩), .int .i64 1] w (.v (.one .str)) (fun (x1 : ByteArray) w2 => StK ((⟨b, 0, none⟩ : Addr).add o) (.string x1) w2 (fun w3 => (Value.tuple #[]) = .tuple #[] ∧ IsTk 119 w3 g n0 (evStep false x c).1 ∧ w3.heap[b]? = some (evMc (evStep false x c).2) ∧ Fr (fun k => k = g ∨ k = b) w w3)) := fun o ho m' hm hs => by
    refine CallK.of (tk_text h hg 1 (by decide)) ?_
    rintro _ w1 ⟨rfl, h1, f1⟩
    refine ⟨_, rfl, ?_⟩
    have hb1 := f1.keep1 hb hgb
    refine StK.fld hb1 (by show 0 + o < 8; omega) rfl fun w2 hb2 f2 _ => ?_
    rw [hs]
    refine ⟨rfl, h1.keep f2 (fun t => by have : g = b := t; omega) (fun k t => by have : k = b := t; omega), ?_, both_of f1 f2⟩
    rw [hb2, Nat.zero_add, hm]; rfl
  rcases hc with rfl | rfl | rfl | rfl | rfl | rfl | rfl
  · exact ifB.f (by decide) (ifB.f (by decide) (ifB.f (by decide) (ifB.t (by decide) (txt 1 (by decide) _ rfl rfl))))
  · exact ifB.f (by decide) (ifB.f (by decide) (ifB.f (by decide) (ifB.f (by decide) (ifB.t (by decide) (txt 2 (by decide) _ rfl rfl)))))
  · exact ifB.f (by decide) (ifB.f (by decide) (ifB.f (by decide) (ifB.f (by decide) (ifB.f (by decide) (ifB.t (by decide) (txt 3 (by decide) _ rfl rfl))))))
  · exact ifB.f (by decide) (ifB.f (by decide) (ifB.f (by decide) (ifB.f (by decide) (ifB.f (by decide) (ifB.f (by decide) (ifB.t (by decide) (txt 4 (by decide) _ rfl rfl)))))))
  · exact ifB.t (by decide) (num 5 (by decide) _ rfl rfl)
  · exact ifB.f (by decide) (ifB.t (by decide) (num 6 (by decide) _ rfl rfl))
  · refine ifB.f (by decide) (ifB.f (by decide) (ifB.t (by decide) ?_))
    refine CallK.of (tk_term h hg) ?_
    rintro _ w1 ⟨rfl, h1, f1⟩
    refine ⟨_, rfl, ?_⟩
    have hb1 := f1.keep1 hb hgb
    refine ⟨Tm.v_cells _, StsK.one hb1 (by show 7 < 8; omega) (Tm.v_one _) fun w2 hb2 f2 _ => ?_⟩
    refine ⟨rfl, h1.keep f2 (fun t => by have : g = b := t; omega) (fun k t => by have : k = b := t; omega), ?_, both_of f1 f2⟩
    rw [hb2]; rfl

/-! ### What was taken is small -/
def smallM (m : EvM) : Prop := m.2.1.length ≤ 65535 ∧ m.2.2.1.length ≤ 65535 ∧ m.2.2.2.1.length ≤ 65535 ∧ m.2.2.2.2.1.length ≤ 65535 ∧ nodesT m.2.2.2.2.2.2.2 ≤ 1000000
theorem read_small (bs : List UInt8) : nodesT (readT bs).1 ≤ 1000000 := by
  unfold readT
  split
  · show nodesT .none ≤ _; decide
  split
  · show nodesT .none ≤ _; decide
  · rename_i h _
    exact con_small (Classical.not_not.1 h)
theorem step_small (z : Bool) (x : TkS × EvM) (c : UInt8) (h : smallM x.2) : smallM (evStep z x c).2 := by
  obtain ⟨h1, h2, h3, h4, h5⟩ := h
  have ht := tx_len z 1 (by decide) x.1
  unfold evStep
  repeat' split
  · exact ⟨h1, h2, h3, h4, h5⟩
  · exact ⟨h1, h2, h3, h4, h5⟩
  · exact ⟨h1, h2, h3, h4, read_small _⟩
  · exact ⟨ht, h2, h3, h4, h5⟩
  · exact ⟨h1, ht, h3, h4, h5⟩
  · exact ⟨h1, h2, ht, h4, h5⟩
  · exact ⟨h1, h2, h3, ht, h5⟩
theorem fold_small (z : Bool) : ∀ (l : List UInt8) (x : TkS × EvM), smallM x.2 → smallM (l.foldl (evStep z) x).2
  | [], x, h => h
  | c :: l, x, h => fold_small z l _ (step_small z x c h)
theorem takeM_small (z : Bool) (bs : List UInt8) : smallM (takeM z bs).2 := fold_small z _ _ ⟨by simp, by simp, by simp, by simp, by show nodesT .none ≤ _; decide⟩
theorem smallM.e {m : EvM} (h : smallM m) : smallE m.e := by
  obtain ⟨h1, h2, h3, h4, h5⟩ := h
  exact ⟨by show (str _).size ≤ _; rw [str_size]; omega, by show (str _).size ≤ _; rw [str_size]; omega, by show (str _).size ≤ _; rw [str_size]; omega, by show (str _).size ≤ _; rw [str_size]; omega⟩
theorem ifc_v (t : Tm) : ifcT t.v := by cases t <;> first | (exact .inl rfl) | (exact .inr ⟨_, _, rfl⟩)

/-- An event packed, of a tree. -/
theorem pack_m (m : EvM) (h : smallM m) (w : World) (ht : TabW w) : Ret Tryz.prog 12 #[evA m.e] w fun r w' => ∃ v : Sl, r = .tuple #[.slice v.1 v.2.1 v.2.2, .int .i64 (packM m).2] ∧ IsB w' v (packM m).1 ∧ Fr none1 w w' ∧ ∀ k, blkOf v k → w.heap.size ≤ k := by
  have hl := write_short m.t
  exact event_spec m.e (ifc_v m.t) h.e (writeT m.t).1 (by omega) (writeT m.t).2 w fun _ w1 f => wterm_spec m.t h.2.2.2.2 w1 (ht.keep0 f)

/-! ### Equal bytes -/
theorem nums_str (bs : List UInt8) : Go.strOfNums (bs.map fun b => (b.toNat : Int)) = str bs := by
  unfold Go.strOfNums str
  congr 1
  rw [List.map_map]
  congr 1
  conv => rhs; rw [← List.map_id bs]
  refine List.map_congr_left fun b _ => ?_
  simp
theorem nums_bytes (bs : List UInt8) : Lib.bytesOf (bs.map fun b => (b.toNat : Int)) = bs := by
  unfold Lib.bytesOf
  rw [List.map_map]
  conv => rhs; rw [← List.map_id bs]
  refine List.map_congr_left fun b _ => ?_
  simp
theorem bequal_spec {w : World} {v u : Sl} {bs cs : List UInt8} (h : RdB w v bs) (h' : RdB w u cs) : Ret Tryz.prog 61 #[.slice v.1 v.2.1 v.2.2, .slice u.1 u.2.1 u.2.2] w fun r w' => r = .bool (bs == cs) ∧ w = w' := by
  refine (Tryz.bytes_Equal _ _ (bs.map fun b => (b.toNat : Int)) (cs.map fun b => (b.toNat : Int)) w (by rw [nums_str]; exact txt_of h) (by rw [nums_str]; exact txt_of h')).mono ?_
  rintro e w' ⟨rfl, rfl⟩
  exact ⟨_, rfl, by rw [nums_bytes, nums_bytes], rfl⟩

theorem ord_mem {c : UInt8} {k : Int} (h : c ∈ fieldL k) : c = 73 ∨ c = 78 ∨ c = 76 ∨ c = 67 ∨ c = 68 ∨ c = 86 ∨ c = 84 := by
  have := (List.mem_filter.1 h).1
  simpa [ordL] using this

theorem take_spec {w : World} {v : Sl} {bs : List UInt8} (h : RdB w v bs) (hc : v.2.1 ≤ v.2.2) (ht : TabW w) : Ret Tryz.prog 24 #[.slice v.1 v.2.1 v.2.2] w fun r w' =>
    r = .tuple #[evA (takeP false bs).1.e, .int .i64 (takeP false bs).2] ∧ Fr none1 w w' := by
  refine c24 v.1 v.2.1 v.2.2 w _ ?_
  unfold C24
  refine NewK.of fun g1 w1 hg1 hb1 f1 hs1 => NewK.of fun g3 w2 hg3 hb3 f2 hs2 => NewK.of fun g5 w3 hg5 hb5 f3 hs3 => ?_
  have hb5' : w3.heap[g5]? = some (.cells (evL zeroM.e).toArray 30 (0, 0)) := hb5
  refine StsK.blk (cs := evL zeroM.e) (vs := evL zeroM.e) hb5' rfl rfl fun w4 hb54 f4 hs4 => ?_
  have f13 := (f1.trans f2).trans f3
  have f14 : Fr none1 w w4 := f13.fresh f4 (by have := f13.size; omega)
  have hb34 : w4.heap[g3]? = _ := f4.keep (f3.keep0 hb3) (fun t => by have : g3 = g5 := t; omega)
  have hb14 : w4.heap[g1]? = some (.cells (evL zeroM.e).toArray 30 (0, 0)) := f4.keep (f3.keep0 (f2.keep0 hb1)) (fun t => by have : g1 = g5 := t; omega)
  have tk4 : IsTk 119 w4 g3 w.heap.size (bs, false) := ⟨v, hb34, h.keep0 f14, hc, fun hn k hk => h.ltE hn hk⟩
  refine CallK.of (tk_take tk4 (by omega) 1) ?_
  rintro _ w5 ⟨x8, rfl, hx, hxb, tk5, f5⟩
  refine ⟨x8, rfl, ?_⟩
  have hb55 : w5.heap[g5]? = some (evMc zeroM) := f5.keep1 hb54 (by omega)
  have hb15 := f5.keep1 hb14 (by omega)
  have f15 : Fr none1 w w5 := f14.fresh f5 (by omega)
  have hxl : (tkF false 1 (bs, false)).1.length ≤ 1 := by
    unfold tkF; split
    · simp
    · dsimp only; rw [List.length_take]; omega
  have hM : takeM false bs = (fieldL (big (tkF false 1 (bs, false)).1 : Int)).foldl (evStep false) ((tkF false 1 (bs, false)).2, ((big (tkF false 1 (bs, false)).1 : Int), [], [], [], [], 0, 0, .none)) := rfl
  have hsm := takeM_small false bs
  have hP : takeP false bs = if takeOk false bs = true then ((takeM false bs).2, 0) else (zeroM, 2) := rfl
  have hO : takeOk false bs = (!(takeM false bs).1.2 && ((packM (takeM false bs).2).2 == 0 && ((packM (takeM false bs).2).1 == bs && (!false || (takeM false bs).1.1 == [])))) := rfl
  generalize takeP false bs = P at *
  generalize takeOk false bs = O at *
  generalize takeM false bs = M at *
  generalize tkF false 1 (bs, false) = x at *
  have hxlen := hx.len
  refine LoopK.of (fun st w' => ∃ i : Nat, st.1 = i ∧ i ≤ x.1.length ∧ w'.heap[g5]? = some (evMc ((big (x.1.take i) : Int), [], [], [], [], 0, 0, .none)) ∧ Fr (only g5) w5 w') (fun st _ => (1 - st.1).toNat) ⟨0, rfl, by omega, hb55, Fr.refl _ _⟩ ?_
  rintro _ ⟨i', _⟩ w6 ⟨i, hi, hil, hb56, f6⟩
  dsimp only at hi ⊢
  subst hi
  have hx6 : RdB w6 x8 x.1 := hx.keepE f6 fun hn k hk t => by have := hxb hn k hk; have : k = g5 := t; omega
  have tk6 := tk5.keep f6 (fun t => by have : g3 = g5 := t; omega) (fun k t => by have : k = g5 := t; omega)
  have hb16 := f6.keep1 hb15 (by omega)
  refine ifB.dec (fun hlt => ?_) (fun hge => ?_)
  · refine RdB.at hx6 (by omega) hlt ?_
    have hb := (x.1.getD (Int.toNat (i : Int)) 0).toNat_lt
    refine StK.fld hb56 (by show 0 + 0 < 8; omega) rfl fun w7 hb57 f7 _ => ?_
    rw [wI (by omega) (by omega)] at hb57
    refine ⟨⟨i + 1, by rw [wI (by omega) (by omega)]; omega, by omega, ?_, f6.trans f7⟩, by rw [wI (by omega) (by omega)]; omega⟩
    have hi0 : i = 0 := by omega
    subst hi0
    rw [hb57, big_take x.1 0 (by omega)]
    show some (Obj.cells _ _ _) = some (Obj.cells _ _ _)
    simp [evMc.evL', big]
  rw [List.take_of_length_le (by omega)] at hb56
  clear hx hx6 hxb
  refine LdK.fld hb56 (x := (big x.1 : Int)) rfl ?_
  refine CallK.of (fields_spec (big x.1 : Int) w6) ?_
  rintro _ w7 ⟨fv, rfl, hfv, f7, ff⟩
  refine ⟨fv, rfl, ?_⟩
  have s5 := f15.size; have s6 := f6.size; have s7 := f7.size
  have hb57 := f7.keep0 hb56
  have hb17 := f7.keep0 hb16
  have tk7 := tk6.keep0 f7
  have f17 : Fr none1 w w7 := (f15.fresh f6 (by omega)).trans f7
  have hfl := hfv.len
  rw [List.length_map] at hfl
  have hl7 : (fieldL (big x.1 : Int)).length ≤ 7 := by unfold fieldL; exact Nat.le_trans (List.length_filter_le _ _) (by decide)
  have hmem : ∀ c ∈ fieldL (big x.1 : Int), c = 73 ∨ c = 78 ∨ c = 76 ∨ c = 67 ∨ c = 68 ∨ c = 86 ∨ c = 84 := fun c h => ord_mem h
  generalize fieldL (big x.1 : Int) = L at *
  obtain ⟨X, hX⟩ : ∃ X : TkS × EvM, X = (x.2, ((big x.1 : Int), [], [], [], [], 0, 0, .none)) := ⟨_, rfl⟩
  rw [← hX] at hM
  have tk7 : IsTk 119 w7 g3 w.heap.size X.1 := by rw [hX]; exact tk7
  have hb57 : w7.heap[g5]? = some (evMc X.2) := by rw [hX]; exact hb57
  refine LoopK.of (fun st w' => ∃ i : Nat, st.1 = i ∧ i ≤ L.length ∧ IsTk 119 w' g3 w.heap.size ((L.take i).foldl (evStep false) X).1 ∧ w'.heap[g5]? = some (evMc ((L.take i).foldl (evStep false) X).2) ∧ Fr (fun k => k = g3 ∨ k = g5) w7 w') (fun st _ => (L.length - st.1).toNat) ⟨0, rfl, by omega, tk7, hb57, Fr.refl _ _⟩ ?_
  rintro _ ⟨i', _⟩ w8 ⟨i, hi, hil, tk8, hb58, f8⟩
  dsimp only at hi ⊢
  subst hi
  have hfv8 : IsR w8 fv (L.map u8I) := IsSl.keep hfv f8 fun k hk t => by have := ff k hk; have h5 := lt_of_blk hb56; rcases t with t | t <;> omega
  refine ifB.dec (fun hlt => ?_) (fun hge => ?_)
  · have hilt : i < L.length := by omega
    refine IsR.ld hfv8 (by omega) hlt ?_
    obtain ⟨c, hc⟩ : ∃ c, L[i]? = some c := ⟨_, List.getElem?_eq_getElem hilt⟩
    have hcv : (L.map u8I).getD (Int.toNat (i : Int)) 0 = u8I c := by
      rw [Int.toNat_natCast, List.getD_eq_getElem?_getD, List.getElem?_map, hc]; rfl
    rw [hcv]
    refine CallK.of (tk_field tk8 (by omega) hb58 (by omega) (by omega) c (hmem c (List.mem_of_getElem? hc))) ?_
    rintro _ w9 ⟨rfl, tk9, hb59, f9⟩
    refine ⟨(), rfl, ⟨i + 1, by rw [wI (by omega) (by omega)]; omega, by omega, ?_, ?_, f8.trans f9⟩, by rw [wI (by omega) (by omega)]; omega⟩
    · rw [List.take_add_one, hc, List.foldl_append]; exact tk9
    · rw [List.take_add_one, hc, List.foldl_append]; exact hb59
  rw [List.take_of_length_le (by omega), ← hM] at tk8 hb58
  have f18 : Fr none1 w w8 := f17.comp f8 fun k hk t => by rcases t with t | t <;> omega
  have hb18 : w8.heap[g1]? = _ := f8.keep hb17 (fun t => by rcases t with t | t <;> omega)
  refine LdsK.blk (cks := EK) (x := M.2.e) hb58 ?_
  refine CallK.of (pack_m M.2 hsm w8 (ht.keep0 f18)) ?_
  rintro _ w9 ⟨u, rfl, hu, f9, uf⟩
  refine ⟨(u, (packM M.2).2, ()), rfl, ?_⟩
  have hb19 := f9.keep0 hb18
  have hb59 := f9.keep0 hb58
  have f19 := f18.trans f9
  have fail : O = false → ∀ w10, w10.heap[g1]? = some (.cells (evL zeroM.e).toArray 30 (0, 0)) → Fr none1 w w10 → StsK ⟨g1, 0, none⟩ (evL zeroM.e) w10 (fun w30 => LdsK EK ⟨g1, 0, none⟩ w30 (fun (y : EvT) => (Value.tuple #[evA y, .int .i64 2]) = .tuple #[evA P.1.e, .int .i64 P.2] ∧ Fr none1 w w30)) := fun ho w10 hb f10 => by
    rw [hP, ho]
    refine StsK.blk (cs := evL zeroM.e) (vs := evL zeroM.e) hb rfl rfl fun w11 hb11 f11 _ => LdsK.blk (cks := EK) (x := zeroM.e) hb11 ?_
    exact ⟨rfl, f10.fresh f11 (by omega)⟩
  obtain ⟨ru, hrb, hru, hrc, hrl⟩ := tk8.keep0 f9
  refine LdK.fld hrb (x := M.1.2) rfl ?_
  refine ifB.by (fun e => fail (by rw [hO, e]; rfl) w9 hb19 f19) (fun e => ?_)
  dsimp only
  refine ifB.ne (fun hne => fail (by rw [hO, e]; simp [hne]) w9 hb19 f19) (fun he => ?_)
  refine CallK.of (bequal_spec hu.rd (h.keep0 f19)) ?_
  rintro _ _ ⟨rfl, rfl⟩
  refine ⟨_, rfl, ifB.not (ifB.by (fun eq => ?_) (fun ne => fail (by rw [hO, ne]; simp) w9 hb19 f19))⟩
  have ho : O = true := by rw [hO, e, he, eq]; rfl
  rw [hP, ho]
  refine LdsK.blk (cks := EK) (x := M.2.e) hb59 ?_
  refine StsK.blk (cs := evL zeroM.e) (vs := evL M.2.e) hb19 rfl (evL_one (Tm.v_one _)) fun w10 hb110 f10 _ => LdsK.blk (cks := EK) (x := M.2.e) hb110 ?_
  exact ⟨rfl, f19.fresh f10 (by omega)⟩

end Go.Proofs.YtbadiokobooliaaGreatDoor

/-! ### CKName -/
namespace Go.Proofs.YtbadiokobooliaaGreatDoor
open Vc
set_option maxRecDepth 100000
set_option linter.unusedVariables false

end Go.Proofs.YtbadiokobooliaaGreatDoor

/-! ### KName -/
set_option linter.unusedVariables false
set_option maxRecDepth 100000
namespace Go.Proofs.YtbadiokobooliaaGreatDoor
open Vc

end Go.Proofs.YtbadiokobooliaaGreatDoor

/-! ### VcCmd -/
set_option linter.unusedVariables false
namespace Go.Proofs.YtbadiokobooliaaGreatDoor
namespace Vc
variable {P : Program}

abbrev CmV := Int × Int × Int × Int × Int × ByteArray × (Option Addr × Nat × Nat) × (Option Addr × Nat × Nat) × Unit
def cmL (c : CmV) : List Value := [.int .i64 c.1, .int .i64 c.2.1, .int .i64 c.2.2.1, .int .i64 c.2.2.2.1, .int .i64 c.2.2.2.2.1, .string c.2.2.2.2.2.1, .slice c.2.2.2.2.2.2.1.1 c.2.2.2.2.2.2.1.2.1 c.2.2.2.2.2.2.1.2.2, .slice c.2.2.2.2.2.2.2.1.1 c.2.2.2.2.2.2.2.1.2.1 c.2.2.2.2.2.2.2.1.2.2]
def cmPl (c : CmV) : PlV := (c.2.2.2.2.2.2.1, c.2.2.2.2.2.2.2.1, ())
/-- A command that came in: its plan's numbers and words are there. -/
def IsCm (w : World) (c : CmV) : Prop := IsPl w (cmPl c) ∧ (Lit.int .i64 c.1).wf = true ∧ (Lit.int .i64 c.2.1).wf = true ∧ (Lit.int .i64 c.2.2.1).wf = true ∧ (Lit.int .i64 c.2.2.2.1).wf = true ∧ (Lit.int .i64 c.2.2.2.2.1).wf = true ∧ c.2.2.2.2.2.1.size ≤ maxLen

theorem open_cmd {H : Type} {enc : TypeId × Value → H} {w : World} {base : Nat} {held : Bool} {t ti ts tp t0 t1 e0 e1 : TypeId} {f0 f1 f2 f3 f4 f5 f6 g0 g1 : Field} {fuel : Nat} {cs : List Value} {x : DataW H × List MemPlace}
    (ht : P.underlying t = some (.struct #[f0, f1, f2, f3, f4, f5, f6]))
    (q0 : f0.type = ti ∧ f0.offset = 0) (q1 : f1.type = ti ∧ f1.offset = 1) (q2 : f2.type = ti ∧ f2.offset = 2) (q3 : f3.type = ti ∧ f3.offset = 3) (q4 : f4.type = ti ∧ f4.offset = 4) (q5 : f5.type = ts ∧ f5.offset = 5) (q6 : f6.type = tp ∧ f6.offset = 6)
    (hti : P.underlying ti = some (.int .i64)) (hts : P.underlying ts = some .string) (htp : P.underlying tp = some (.struct #[g0, g1])) (hg0 : g0.type = t0) (hg1 : g1.type = t1) (ho0 : g0.offset = 0) (ho1 : g1.offset = 1)
    (hc : P.cellsOf t = 8) (hci : P.cellsOf ti = 1) (hcs : P.cellsOf ts = 1) (hcp : P.cellsOf tp = 2) (hc0 : P.cellsOf t0 = 1) (hc1 : P.cellsOf t1 = 1)
    (h0 : P.underlying t0 = some (.slice e0)) (h1 : P.underlying t1 = some (.slice e1)) (k0 : P.underlying e0 = some (.int .i64)) (k1 : P.underlying e1 = some .string) (d0 : P.cellsOf e0 = 1) (d1 : P.cellsOf e1 = 1)
    (h : DataW.trod enc P w base (fun _ => true) held fuel t cs = some x) : ∃ c : CmV, cs = cmL c ∧ IsCm w c := by
  obtain ⟨xs, n, _, _, hl, hlen, hf⟩ := DataW.trod_struct ht h
  rw [hc] at hl
  match xs, hlen with
  | [y0, y1, y2, y3, y4, y5, y6], _ =>
    match cs, hl with
    | [c0, c1, c2, c3, c4, c5, c6, c7], _ =>
      have a0 := hf 0 f0 rfl
      have a1 := hf 1 f1 rfl
      have a2 := hf 2 f2 rfl
      have a3 := hf 3 f3 rfl
      have a4 := hf 4 f4 rfl
      have a5 := hf 5 f5 rfl
      have a6 := hf 6 f6 rfl
      rw [q0.1, q0.2, hci] at a0
      rw [q1.1, q1.2, hci] at a1
      rw [q2.1, q2.2, hci] at a2
      rw [q3.1, q3.2, hci] at a3
      rw [q4.1, q4.2, hci] at a4
      rw [q5.1, q5.2, hcs] at a5
      rw [q6.1, q6.2, hcp] at a6
      simp only [List.drop_zero, List.drop_succ_cons, List.take_succ_cons, List.take_zero, List.getElem?_cons_zero, List.getElem?_cons_succ] at a0 a1 a2 a3 a4 a5 a6
      obtain ⟨z0, e0, _, w0⟩ := DataW.trod_int hti a0
      obtain ⟨z1, e1, _, w1⟩ := DataW.trod_int hti a1
      obtain ⟨z2, e2, _, w2⟩ := DataW.trod_int hti a2
      obtain ⟨z3, e3, _, w3⟩ := DataW.trod_int hti a3
      obtain ⟨z4, e4, _, w4⟩ := DataW.trod_int hti a4
      obtain ⟨s5, e5, _, w5⟩ := DataW.trod_string hts a5
      obtain ⟨p, ep, hp⟩ := open_plan htp hg0 hg1 ho0 ho1 hcp hc0 hc1 h0 h1 k0 k1 d0 d1 a6
      simp only [List.cons.injEq, and_true] at e0 e1 e2 e3 e4 e5 ep
      obtain ⟨p1, p2⟩ := ep
      subst e0; subst e1; subst e2; subst e3; subst e4; subst e5; subst p1; subst p2
      exact ⟨(z0, z1, z2, z3, z4, s5, p.1, p.2.1, ()), rfl, hp, w0, w1, w2, w3, w4, w5⟩

end Vc
end Go.Proofs.YtbadiokobooliaaGreatDoor

/-! ### DoSpec -/
set_option linter.unusedVariables false
set_option maxRecDepth 100000
namespace Go.Proofs.YtbadiokobooliaaGreatDoor
open Vc

theorem writes_shift {p : Addr} {m : Nat} : ∀ (vs : List Value) (w : World) (i : Nat), Writes w p (m + i) vs → Writes w (p.add m) i vs
  | [], _, _, _ => trivial
  | v :: vs, w, i, ⟨h1, h2, h3, h4⟩ => ⟨h1, by rw [add_add]; exact h2, by rw [add_add]; exact h3, by rw [add_add]; exact writes_shift vs _ (i + 1) h4⟩
theorem setCells_shift {p : Addr} {m : Nat} : ∀ (vs : List Value) (w : World) (i : Nat), setCells w (p.add m) i vs = setCells w p (m + i) vs
  | [], _, _ => rfl
  | v :: vs, w, i => by
    show setCells (w.setCell ((p.add m).add i) v) (p.add m) (i + 1) vs = setCells (w.setCell (p.add (m + i)) v) p (m + i + 1) vs
    rw [add_add, setCells_shift vs _ (i + 1)]; rfl

/-! ### Rules -/
theorem inG {S : Nat → Prop} {g i : Nat} {K : Prop} (hS : S g) (k : K) : InK S ((⟨g, 0, none⟩ : Addr).add i) K := ⟨by rw [addr_add]; exact hS, k⟩

end Go.Proofs.YtbadiokobooliaaGreatDoor

/-! ### RefEv2 -/
set_option linter.unusedVariables false
set_option maxRecDepth 100000
namespace Go.Proofs.YtbadiokobooliaaGreatDoor
open Vc

end Go.Proofs.YtbadiokobooliaaGreatDoor

/-! ### RefReadF -/
set_option linter.unusedVariables false
set_option maxRecDepth 100000
namespace Go.Proofs.YtbadiokobooliaaGreatDoor
open Vc

/-! ### The document's reader -/

/-! ### Kinds -/

/-! ### Behind an error -/

/-! ### Parts -/
section
variable {fin : Int} {rec : Bool → RS → Tr × RS} (hr : ∀ b s, s.e ≠ 0 → (rec b s).2 = s)
include hr
omit hr in
omit hr in
omit hr in
end

/-! ### What went before went well -/
section
variable {fin : Int} {rec : Bool → RS → Tr × RS} (hr : ∀ b s, s.e ≠ 0 → (rec b s).2 = s)
include hr
end

/-! ### The same as the program's -/

/-! ### The document reads as the program does -/

/-! ### How much is in a tree that was read -/

end Go.Proofs.YtbadiokobooliaaGreatDoor

/-! ### CRefSg -/
namespace Go.Proofs.YtbadiokobooliaaGreatDoor
open Vc
set_option maxRecDepth 100000
set_option linter.unusedVariables false

end Go.Proofs.YtbadiokobooliaaGreatDoor

/-! ### RTellSpec -/
set_option linter.unusedVariables false
set_option maxRecDepth 100000
namespace Go.Proofs.YtbadiokobooliaaGreatDoor
open Vc

/-! ### The document's signs -/

end Go.Proofs.YtbadiokobooliaaGreatDoor

/-! ### CRefRd -/
namespace Go.Proofs.YtbadiokobooliaaGreatDoor
open Vc
set_option maxRecDepth 100000
set_option linter.unusedVariables false

end Go.Proofs.YtbadiokobooliaaGreatDoor

/-! ### RefReadSpec -/
set_option linter.unusedVariables false
set_option maxRecDepth 100000
namespace Go.Proofs.YtbadiokobooliaaGreatDoor
open Vc

/-! ### Steps, plain -/

/-! ### The reader -/

end Go.Proofs.YtbadiokobooliaaGreatDoor

/-! ### RefReadSpec2 -/
set_option linter.unusedVariables false
set_option maxRecDepth 100000
namespace Go.Proofs.YtbadiokobooliaaGreatDoor
open Vc

/-! ### How many parts a kind has -/

/-! ### Trees -/

end Go.Proofs.YtbadiokobooliaaGreatDoor

/-! ### RefReadSpec3 -/
set_option linter.unusedVariables false
set_option maxRecDepth 100000
namespace Go.Proofs.YtbadiokobooliaaGreatDoor
open Vc

/-! ### What was read is small -/

/-! ### Same trees -/

end Go.Proofs.YtbadiokobooliaaGreatDoor

/-! ### CRef11T -/
namespace Go.Proofs.YtbadiokobooliaaGreatDoor
open Vc
set_option maxRecDepth 100000
set_option linter.unusedVariables false

/-- handfast/handfastref11.TakeNumber -/
def C63 (p0 : Option Addr) (p0l p0c : Nat) (w : World) (K : Value → World → Prop) : Prop :=
  ifB ((p0l : Int) != 8)
  (K (.tuple #[.int .i64 0, .bool false]) w)
  (LoopK (Int × Int × Unit) (fun _ s1 w2 next3 => ifB (decide (s1.2.1 < 8))
  (NnK 8 (IdxK p0 p0l s1.2.1 1 (fun a4 => LdK (.int .u8) a4 w2 (fun (x5 : Int) => next3 (IntKind.u64.wrap ((BitVec.ofInt 64 (IntKind.u64.wrap (s1.1 * 2 ^ (min (Int.toNat 8) 64))) ||| BitVec.ofInt 64 (IntKind.u64.wrap x5)).toNat : Int), IntKind.i64.wrap (s1.2.1 + 1), ()) w2))))
  (K (.tuple #[.int .i64 (IntKind.i64.wrap s1.1), .bool true]) w2))
  (0, 0, ()) w)
def pl63 : Plan := (.seq .auto (.seq .auto (.seq .auto (.seq (.seq .auto (.block (.loop [(4, .one (.int .u64)), (5, .one (.int .i64))] .auto))) .auto))))
theorem e63 (p0 : Option Addr) (p0l p0c : Nat) (w : World) (K : Value → World → Prop) : vcFunc Tryz.prog Tryz.f63 pl63 [.slice p0 p0l p0c] w K = C63 p0 p0l p0c w K := by kernel_rfl

/-- handfast/handfastref11.Same -/
def C29 (p0 : YZ17) (p1 : YZ17) (w : World) (K : Value → World → Prop) : Prop :=
  NewK (.cells ((LZ17 p0).toArray) 35) w (fun g1 w2 => NewK (.cells ((LZ17 p1).toArray) 35) w2 (fun g3 w4 => LdK (.int .i64) ((ad g1).add 0) w4 (fun (x5 : Int) => LdK (.int .i64) ((ad g3).add 0) w4 (fun (x6 : Int) => ifB (x5 == x6)
  (LdK .str ((ad g1).add 1) w4 (fun (x7 : ByteArray) => LdK .str ((ad g3).add 1) w4 (fun (x8 : ByteArray) => ifB (x7.toList == x8.toList)
  (LdK .str ((ad g1).add 2) w4 (fun (x9 : ByteArray) => LdK .str ((ad g3).add 2) w4 (fun (x10 : ByteArray) => ifB (x9.toList == x10.toList)
  (LdK .str ((ad g1).add 3) w4 (fun (x11 : ByteArray) => LdK .str ((ad g3).add 3) w4 (fun (x12 : ByteArray) => ifB (x11.toList == x12.toList)
  (LdK .str ((ad g1).add 4) w4 (fun (x13 : ByteArray) => LdK .str ((ad g3).add 4) w4 (fun (x14 : ByteArray) => ifB (x13.toList == x14.toList)
  (LdK (.int .i64) ((ad g1).add 5) w4 (fun (x15 : Int) => LdK (.int .i64) ((ad g3).add 5) w4 (fun (x16 : Int) => ifB (x15 == x16)
  (LdK (.int .i64) ((ad g1).add 6) w4 (fun (x17 : Int) => LdK (.int .i64) ((ad g3).add 6) w4 (fun (x18 : Int) => ifB (x17 == x18)
  (LdK (.int .i64) (((ad g1).add 7).add 0) w4 (fun (x19 : Int) => ifB (x19 == 0)
  (LdK (.int .i64) (((ad g3).add 7).add 0) w4 (fun (x20 : Int) => ifB (x20 == 0)
  (K (.bool true) w4)
  (LdsK KZ3 ((ad g1).add 7) w4 (fun (x21 : YZ3) => LdsK KZ3 ((ad g3).add 7) w4 (fun (x22 : YZ3) => CallK Tryz.prog 65 #[.agg (LZ3 x21).toArray, .agg (LZ3 x22).toArray] w4 (.v (.one .bool)) (fun (x23 : Bool) w24 => K (.bool x23) w24))))))
  (LdsK KZ3 ((ad g1).add 7) w4 (fun (x25 : YZ3) => LdsK KZ3 ((ad g3).add 7) w4 (fun (x26 : YZ3) => CallK Tryz.prog 65 #[.agg (LZ3 x25).toArray, .agg (LZ3 x26).toArray] w4 (.v (.one .bool)) (fun (x27 : Bool) w28 => K (.bool x27) w28))))))
  (K (.bool false) w4))))
  (K (.bool false) w4))))
  (K (.bool false) w4))))
  (K (.bool false) w4))))
  (K (.bool false) w4))))
  (K (.bool false) w4))))
  (K (.bool false) w4)))))
def pl29 : Plan := .auto
theorem e29 (p0 : YZ17) (p1 : YZ17) (w : World) (K : Value → World → Prop) : vcFunc Tryz.prog Tryz.f29 pl29 [.agg (LZ17 p0).toArray, .agg (LZ17 p1).toArray] w K = C29 p0 p1 w K := by kernel_rfl
theorem c29 (p0 : YZ17) (p1 : YZ17) (w : World) (K : Value → World → Prop) (h : C29 p0 p1 w K) : Ret Tryz.prog 29 #[.agg (LZ17 p0).toArray, .agg (LZ17 p1).toArray] w K := by
  rw [← e29] at h
  exact vcFunc_sound (by kernel_rfl) Tryz.func29 h

end Go.Proofs.YtbadiokobooliaaGreatDoor

/-! ### TakeSpec2 -/
set_option linter.unusedVariables false
set_option maxRecDepth 100000
namespace Go.Proofs.YtbadiokobooliaaGreatDoor
open Vc

/-! ### The trees that are read are small -/

/-! ### The document's taker -/

end Go.Proofs.YtbadiokobooliaaGreatDoor

/-! ### TakeSpec3 -/
set_option linter.unusedVariables false
set_option maxRecDepth 100000
namespace Go.Proofs.YtbadiokobooliaaGreatDoor
open Vc

namespace Vc
theorem IdxK.ink {base : Option Addr} {len : Nat} {i : Int} {size : Nat} {K : Addr → Prop} {S : Nat → Prop} (hS : ∀ a, base = some a → S a.block) (h : IdxK base len i size K) : IdxK base len i size fun p => InK S p (K p) := by
  obtain ⟨a, ha, h0, h1, k⟩ := h.out
  exact ⟨a, ha, h0, h1, ⟨by rw [add_block]; exact hS a ha, k⟩⟩
theorem KeepK.same {S : Nat → Prop} {w : World} {K : Prop} (k : K) : KeepK S w w K := KeepK.of (Fr.refl _ _) k
end Vc

end Go.Proofs.YtbadiokobooliaaGreatDoor

/-! ### TakeSpec4 -/
set_option linter.unusedVariables false
set_option maxRecDepth 100000
namespace Go.Proofs.YtbadiokobooliaaGreatDoor
open Vc

/-! ### The document's entry of bytes -/

/-! ### The document's events compared -/

end Go.Proofs.YtbadiokobooliaaGreatDoor

/-! ### CSipG -/
namespace Go.Proofs.YtbadiokobooliaaGreatDoor
open Vc
set_option maxRecDepth 100000
set_option linter.unusedVariables false
/-- math/bits.RotateLeft64 -/
def C154 (p0 : Int) (p1 : Int) (w : World) (K : Value → World → Prop) : Prop :=
  NnK (IntKind.u64.wrap ((BitVec.ofInt 64 (IntKind.u64.wrap p1) &&& BitVec.ofInt 64 63).toNat : Int)) (NnK (IntKind.u64.wrap (64 - (IntKind.u64.wrap ((BitVec.ofInt 64 (IntKind.u64.wrap p1) &&& BitVec.ofInt 64 63).toNat : Int)))) (K (.int .u64 (IntKind.u64.wrap ((BitVec.ofInt 64 (IntKind.u64.wrap (p0 * 2 ^ (min (Int.toNat (IntKind.u64.wrap ((BitVec.ofInt 64 (IntKind.u64.wrap p1) &&& BitVec.ofInt 64 63).toNat : Int))) 64))) ||| BitVec.ofInt 64 (Int.fdiv p0 (2 ^ (min (Int.toNat (IntKind.u64.wrap (64 - (IntKind.u64.wrap ((BitVec.ofInt 64 (IntKind.u64.wrap p1) &&& BitVec.ofInt 64 63).toNat : Int))))) 64)))).toNat : Int))) w))
def pl154 : Plan := .auto
theorem e154 (p0 : Int) (p1 : Int) (w : World) (K : Value → World → Prop) : vcFunc Tryz.prog Tryz.f154 pl154 [.int .u64 p0, .int .i64 p1] w K = C154 p0 p1 w K := by kernel_rfl
theorem c154 (p0 : Int) (p1 : Int) (w : World) (K : Value → World → Prop) (h : C154 p0 p1 w K) : Ret Tryz.prog 154 #[.int .u64 p0, .int .i64 p1] w K := by
  rw [← e154] at h
  exact vcFunc_sound (by kernel_rfl) Tryz.func154 h

/-- (*handfast/sip.state).round -/
def C119 (p0 : Addr) (w : World) (K : Value → World → Prop) : Prop :=
  DrewK w (fun w1 => LdK (.int .u64) (p0.add 0) w1 (fun (x2 : Int) => LdK (.int .u64) (p0.add 1) w1 (fun (x3 : Int) => StK (p0.add 0) (.int .u64 (IntKind.u64.wrap (x2 + x3))) w1 (fun w4 => DrewK w4 (fun w5 => HoldK (fun S6 => InK S6 (p0.add 1) (LdK (.int .u64) (p0.add 1) w5 (fun (x7 : Int) => InK S6 (p0.add 0) (LdK (.int .u64) (p0.add 0) w5 (fun (x8 : Int) => CallK Tryz.prog 154 #[.int .u64 x7, .int .i64 13] w5 (.v (.one (.int .u64))) (fun (x9 : Int) w10 => KeepK S6 w5 w10 (StK (p0.add 1) (.int .u64 (IntKind.u64.wrap ((BitVec.ofInt 64 x9 ^^^ BitVec.ofInt 64 x8).toNat : Int))) w10 (fun w11 => LdK (.int .u64) (p0.add 0) w11 (fun (x12 : Int) => CallK Tryz.prog 154 #[.int .u64 x12, .int .i64 32] w11 (.v (.one (.int .u64))) (fun (x13 : Int) w14 => StK (p0.add 0) (.int .u64 x13) w14 (fun w15 => DrewK w15 (fun w16 => LdK (.int .u64) (p0.add 2) w16 (fun (x17 : Int) => LdK (.int .u64) (p0.add 3) w16 (fun (x18 : Int) => StK (p0.add 2) (.int .u64 (IntKind.u64.wrap (x17 + x18))) w16 (fun w19 => DrewK w19 (fun w20 => HoldK (fun S21 => InK S21 (p0.add 3) (LdK (.int .u64) (p0.add 3) w20 (fun (x22 : Int) => InK S21 (p0.add 2) (LdK (.int .u64) (p0.add 2) w20 (fun (x23 : Int) => CallK Tryz.prog 154 #[.int .u64 x22, .int .i64 16] w20 (.v (.one (.int .u64))) (fun (x24 : Int) w25 => KeepK S21 w20 w25 (StK (p0.add 3) (.int .u64 (IntKind.u64.wrap ((BitVec.ofInt 64 x24 ^^^ BitVec.ofInt 64 x23).toNat : Int))) w25 (fun w26 => DrewK w26 (fun w27 => LdK (.int .u64) (p0.add 0) w27 (fun (x28 : Int) => LdK (.int .u64) (p0.add 3) w27 (fun (x29 : Int) => StK (p0.add 0) (.int .u64 (IntKind.u64.wrap (x28 + x29))) w27 (fun w30 => DrewK w30 (fun w31 => HoldK (fun S32 => InK S32 (p0.add 3) (LdK (.int .u64) (p0.add 3) w31 (fun (x33 : Int) => InK S32 (p0.add 0) (LdK (.int .u64) (p0.add 0) w31 (fun (x34 : Int) => CallK Tryz.prog 154 #[.int .u64 x33, .int .i64 21] w31 (.v (.one (.int .u64))) (fun (x35 : Int) w36 => KeepK S32 w31 w36 (StK (p0.add 3) (.int .u64 (IntKind.u64.wrap ((BitVec.ofInt 64 x35 ^^^ BitVec.ofInt 64 x34).toNat : Int))) w36 (fun w37 => DrewK w37 (fun w38 => LdK (.int .u64) (p0.add 2) w38 (fun (x39 : Int) => LdK (.int .u64) (p0.add 1) w38 (fun (x40 : Int) => StK (p0.add 2) (.int .u64 (IntKind.u64.wrap (x39 + x40))) w38 (fun w41 => DrewK w41 (fun w42 => HoldK (fun S43 => InK S43 (p0.add 1) (LdK (.int .u64) (p0.add 1) w42 (fun (x44 : Int) => InK S43 (p0.add 2) (LdK (.int .u64) (p0.add 2) w42 (fun (x45 : Int) => CallK Tryz.prog 154 #[.int .u64 x44, .int .i64 17] w42 (.v (.one (.int .u64))) (fun (x46 : Int) w47 => KeepK S43 w42 w47 (StK (p0.add 1) (.int .u64 (IntKind.u64.wrap ((BitVec.ofInt 64 x46 ^^^ BitVec.ofInt 64 x45).toNat : Int))) w47 (fun w48 => LdK (.int .u64) (p0.add 2) w48 (fun (x49 : Int) => CallK Tryz.prog 154 #[.int .u64 x49, .int .i64 32] w48 (.v (.one (.int .u64))) (fun (x50 : Int) w51 => StK (p0.add 2) (.int .u64 x50) w51 (fun w52 => K (.tuple #[]) w52))))))))))))))))))))))))))))))))))))))))))))))))))))))))))
def pl119 : Plan := (.seq (.tail 11) (.seq (.held (.soft 0 (.soft 1 (.soft 2 (.soft 3 (.soft 4 (.soft 6 (.soft 7 (.soft 8 (.soft 9 (.pick 5 (.soft 10 (.soft 11 (.soft 12 (.last 13 .done)))) .stop))))))))))) (.seq .auto (.seq (.tail 11) (.seq (.held (.soft 0 (.soft 1 (.soft 2 (.soft 3 (.soft 4 (.soft 6 (.soft 7 (.soft 8 (.soft 9 (.pick 5 (.soft 10 (.soft 11 (.soft 12 (.last 13 .done)))) .stop))))))))))) (.seq (.tail 11) (.seq (.held (.soft 0 (.soft 1 (.soft 2 (.soft 3 (.soft 4 (.soft 6 (.soft 7 (.soft 8 (.soft 9 (.pick 5 (.soft 10 (.soft 11 (.soft 12 (.last 13 .done)))) .stop))))))))))) (.seq (.tail 11) (.seq (.held (.soft 0 (.soft 1 (.soft 2 (.soft 3 (.soft 4 (.soft 6 (.soft 7 (.soft 8 (.soft 9 (.pick 5 (.soft 10 (.soft 11 (.soft 12 (.last 13 .done)))) .stop))))))))))) .auto)))))))))
theorem e119 (p0 : Addr) (w : World) (K : Value → World → Prop) : vcFunc Tryz.prog Tryz.f119 pl119 [.pointer (some p0)] w K = C119 p0 w K := by kernel_rfl
theorem c119 (p0 : Addr) (w : World) (K : Value → World → Prop) (h : C119 p0 w K) : Ret Tryz.prog 119 #[.pointer (some p0)] w K := by
  rw [← e119] at h
  exact vcFunc_sound (by kernel_rfl) Tryz.func119 h

/-- (*handfast/sip.state).rounds -/
def C76 (p0 : Addr) (p1 : Int) (w : World) (K : Value → World → Prop) : Prop :=
  LoopK (Int × Unit) (fun _ s1 w2 next3 => ifB (decide (s1.1 < p1))
  (CallK Tryz.prog 119 #[.pointer (some p0)] w2 (.tup []) (fun (x4 : Unit) w5 => next3 (IntKind.i64.wrap (s1.1 + 1), ()) w5))
  (K (.tuple #[]) w2))
  (0, ()) w
def pl76 : Plan := (.seq .auto (.block (.loop [(5, .one (.int .i64))] .auto)))
theorem e76 (p0 : Addr) (p1 : Int) (w : World) (K : Value → World → Prop) : vcFunc Tryz.prog Tryz.f76 pl76 [.pointer (some p0), .int .i64 p1] w K = C76 p0 p1 w K := by kernel_rfl
theorem c76 (p0 : Addr) (p1 : Int) (w : World) (K : Value → World → Prop) (h : C76 p0 p1 w K) : Ret Tryz.prog 76 #[.pointer (some p0), .int .i64 p1] w K := by
  rw [← e76] at h
  exact vcFunc_sound (by kernel_rfl) Tryz.func76 h

/-- (*handfast/sip.state).take -/
def C75 (p0 : Addr) (p1 : Int) (w : World) (K : Value → World → Prop) : Prop :=
  LdK (.int .u64) (p0.add 3) w (fun (x1 : Int) => StK (p0.add 3) (.int .u64 (IntKind.u64.wrap ((BitVec.ofInt 64 x1 ^^^ BitVec.ofInt 64 p1).toNat : Int))) w (fun w2 => CallK Tryz.prog 76 #[.pointer (some p0), .int .i64 2] w2 (.tup []) (fun (x3 : Unit) w4 => LdK (.int .u64) (p0.add 0) w4 (fun (x5 : Int) => StK (p0.add 0) (.int .u64 (IntKind.u64.wrap ((BitVec.ofInt 64 x5 ^^^ BitVec.ofInt 64 p1).toNat : Int))) w4 (fun w6 => K (.tuple #[]) w6)))))
def pl75 : Plan := .auto
theorem e75 (p0 : Addr) (p1 : Int) (w : World) (K : Value → World → Prop) : vcFunc Tryz.prog Tryz.f75 pl75 [.pointer (some p0), .int .u64 p1] w K = C75 p0 p1 w K := by kernel_rfl
theorem c75 (p0 : Addr) (p1 : Int) (w : World) (K : Value → World → Prop) (h : C75 p0 p1 w K) : Ret Tryz.prog 75 #[.pointer (some p0), .int .u64 p1] w K := by
  rw [← e75] at h
  exact vcFunc_sound (by kernel_rfl) Tryz.func75 h

/-- handfast/sip.low -/
def C74 (p0 : Option Addr) (p0l p0c : Nat) (w : World) (K : Value → World → Prop) : Prop :=
  LoopK (Int × Int × Unit) (fun _ s1 w2 next3 => ifB (decide (s1.2.1 < (p0l : Int)))
  (IdxK p0 p0l s1.2.1 1 (fun a4 => LdK (.int .u8) a4 w2 (fun (x5 : Int) => NnK (IntKind.i64.wrap (8 * s1.2.1)) (next3 (IntKind.u64.wrap ((BitVec.ofInt 64 s1.1 ||| BitVec.ofInt 64 (IntKind.u64.wrap ((IntKind.u64.wrap x5) * 2 ^ (min (Int.toNat (IntKind.i64.wrap (8 * s1.2.1))) 64)))).toNat : Int), IntKind.i64.wrap (s1.2.1 + 1), ()) w2))))
  (K (.int .u64 s1.1) w2))
  (0, 0, ()) w
def pl74 : Plan := (.seq .auto (.seq .auto (.seq (.seq .auto (.block (.loop [(3, .one (.int .u64)), (8, .one (.int .i64))] .auto))) .auto)))
theorem e74 (p0 : Option Addr) (p0l p0c : Nat) (w : World) (K : Value → World → Prop) : vcFunc Tryz.prog Tryz.f74 pl74 [.slice p0 p0l p0c] w K = C74 p0 p0l p0c w K := by kernel_rfl
theorem c74 (p0 : Option Addr) (p0l p0c : Nat) (w : World) (K : Value → World → Prop) (h : C74 p0 p0l p0c w K) : Ret Tryz.prog 74 #[.slice p0 p0l p0c] w K := by
  rw [← e74] at h
  exact vcFunc_sound (by kernel_rfl) Tryz.func74 h

/-- handfast/sip.Sum -/
def C36 (p0 : List Value) (p1 : Option Addr) (p1l p1c : Nat) (w : World) (K : Value → World → Prop) : Prop :=
  NewK (.cells p0.toArray 75) w (fun g1 w2 => DrewK w2 (fun w3 => HoldK (fun S4 => SubK (some (ad g1)) 16 0 8 16 1 (fun a5 l6 c7 => SubK (some (ad g1)) 16 8 16 16 1 (fun a8 l9 c10 => CallK Tryz.prog 74 #[.slice a5 l6 c7] w3 (.v (.one (.int .u64))) (fun (x11 : Int) w12 => KeepK S4 w3 w12 (CallK Tryz.prog 74 #[.slice a8 l9 c10] w12 (.v (.one (.int .u64))) (fun (x13 : Int) w14 => KeepK S4 w12 w14 (NewK (.cells #[.int .u64 (IntKind.u64.wrap ((BitVec.ofInt 64 x11 ^^^ BitVec.ofInt 64 8317987319222330741).toNat : Int)), .int .u64 (IntKind.u64.wrap ((BitVec.ofInt 64 x13 ^^^ BitVec.ofInt 64 7237128888997146477).toNat : Int)), .int .u64 (IntKind.u64.wrap ((BitVec.ofInt 64 x11 ^^^ BitVec.ofInt 64 7816392313619706465).toNat : Int)), .int .u64 (IntKind.u64.wrap ((BitVec.ofInt 64 x13 ^^^ BitVec.ofInt 64 8387220255154660723).toNat : Int))] 137) w14 (fun g15 w16 => NzK 8 (LoopK (Int × Unit) (fun _ s17 w18 next19 => ifB (decide (s17.1 < (IntKind.i64.wrap ((IntKind.i64.wrap ((p1l : Int).tdiv 8)) * 8))))
  (SubK p1 p1c s17.1 (IntKind.i64.wrap (s17.1 + 8)) p1c 1 (fun a20 l21 c22 => CallK Tryz.prog 74 #[.slice a20 l21 c22] w18 (.v (.one (.int .u64))) (fun (x23 : Int) w24 => CallK Tryz.prog 75 #[.pointer (some (ad g15)), .int .u64 x23] w24 (.tup []) (fun (x25 : Unit) w26 => next19 (IntKind.i64.wrap (s17.1 + 8), ()) w26))))
  (SubK p1 p1c (IntKind.i64.wrap ((IntKind.i64.wrap ((p1l : Int).tdiv 8)) * 8)) p1l p1c 1 (fun a27 l28 c29 => CallK Tryz.prog 74 #[.slice a27 l28 c29] w18 (.v (.one (.int .u64))) (fun (x30 : Int) w31 => NnK 56 (CallK Tryz.prog 75 #[.pointer (some (ad g15)), .int .u64 (IntKind.u64.wrap ((BitVec.ofInt 64 x30 ||| BitVec.ofInt 64 (IntKind.u64.wrap ((IntKind.u64.wrap (p1l : Int)) * 2 ^ (min (Int.toNat 56) 64)))).toNat : Int))] w31 (.tup []) (fun (x32 : Unit) w33 => LdK (.int .u64) ((ad g15).add 2) w33 (fun (x34 : Int) => StK ((ad g15).add 2) (.int .u64 (IntKind.u64.wrap ((BitVec.ofInt 64 x34 ^^^ BitVec.ofInt 64 255).toNat : Int))) w33 (fun w35 => CallK Tryz.prog 76 #[.pointer (some (ad g15)), .int .i64 4] w35 (.tup []) (fun (x36 : Unit) w37 => DrewK w37 (fun w38 => LdK (.int .u64) ((ad g15).add 0) w38 (fun (x39 : Int) => LdK (.int .u64) ((ad g15).add 1) w38 (fun (x40 : Int) => LdK (.int .u64) ((ad g15).add 2) w38 (fun (x41 : Int) => LdK (.int .u64) ((ad g15).add 3) w38 (fun (x42 : Int) => K (.int .u64 (IntKind.u64.wrap ((BitVec.ofInt 64 (IntKind.u64.wrap ((BitVec.ofInt 64 (IntKind.u64.wrap ((BitVec.ofInt 64 x39 ^^^ BitVec.ofInt 64 x40).toNat : Int)) ^^^ BitVec.ofInt 64 x41).toNat : Int)) ^^^ BitVec.ofInt 64 x42).toNat : Int))) w38))))))))))))))
  (0, ()) w16)))))))))))
def pl36 : Plan := (.seq .auto (.seq (.held (.soft 0 (.soft 2 (.pick 1 (.pick 3 (.soft 4 (.soft 5 .done)) .stop) .stop)))) (.seq .auto (.seq .auto (.seq (.seq .auto (.block (.loop [(9, .one (.int .i64))] .auto))) (.seq .auto (.seq .auto (.seq .auto (.seq .still .auto)))))))))
theorem e36 (p0 : List Value) (p1 : Option Addr) (p1l p1c : Nat) (w : World) (K : Value → World → Prop) : vcFunc Tryz.prog Tryz.f36 pl36 [.agg p0.toArray, .slice p1 p1l p1c] w K = C36 p0 p1 p1l p1c w K := by kernel_rfl
theorem c36 (p0 : List Value) (p1 : Option Addr) (p1l p1c : Nat) (w : World) (K : Value → World → Prop) (h : C36 p0 p1 p1l p1c w K) : Ret Tryz.prog 36 #[.agg p0.toArray, .slice p1 p1l p1c] w K := by
  rw [← e36] at h
  exact vcFunc_sound (by kernel_rfl) Tryz.func36 h

/-- handfast/sip.Bytes -/
def C34 (p0 : Int) (w : World) (K : Value → World → Prop) : Prop :=
  RunK Tryz.prog (Instr.makeSlice 38 (.int .i64 8) (.int .i64 8)) w (.v (.one .slc)) (fun (x1 : SlT) w2 => LoopK (Int × Unit) (fun _ s3 w4 next5 => ifB (decide (s3.1 < (x1.2.1 : Int)))
  (NnK (IntKind.i64.wrap (8 * s3.1)) (IdxK x1.1 x1.2.1 s3.1 1 (fun a6 => StK a6 (.int .u8 (IntKind.u8.wrap (Int.fdiv p0 (2 ^ (min (Int.toNat (IntKind.i64.wrap (8 * s3.1))) 64))))) w4 (fun w7 => next5 (IntKind.i64.wrap (s3.1 + 1), ()) w7))))
  (K (.slice x1.1 x1.2.1 x1.2.2) w4))
  (0, ()) w2)
def pl34 : Plan := (.seq .auto (.seq .auto (.seq (.seq .auto (.block (.loop [(8, .one (.int .i64))] .auto))) .auto)))
theorem e34 (p0 : Int) (w : World) (K : Value → World → Prop) : vcFunc Tryz.prog Tryz.f34 pl34 [.int .u64 p0] w K = C34 p0 w K := by kernel_rfl
theorem c34 (p0 : Int) (w : World) (K : Value → World → Prop) (h : C34 p0 w K) : Ret Tryz.prog 34 #[.int .u64 p0] w K := by
  rw [← e34] at h
  exact vcFunc_sound (by kernel_rfl) Tryz.func34 h

/-- handfast/sip.Number -/
def C47 (p0 : Option Addr) (p0l p0c : Nat) (w : World) (K : Value → World → Prop) : Prop :=
  ifB ((p0l : Int) != 8)
  (K (.tuple #[.int .u64 0, .bool false]) w)
  (CallK Tryz.prog 74 #[.slice p0 p0l p0c] w (.v (.one (.int .u64))) (fun (x1 : Int) w2 => K (.tuple #[.int .u64 x1, .bool true]) w2))
def pl47 : Plan := .auto
theorem e47 (p0 : Option Addr) (p0l p0c : Nat) (w : World) (K : Value → World → Prop) : vcFunc Tryz.prog Tryz.f47 pl47 [.slice p0 p0l p0c] w K = C47 p0 p0l p0c w K := by kernel_rfl
theorem c47 (p0 : Option Addr) (p0l p0c : Nat) (w : World) (K : Value → World → Prop) (h : C47 p0 p0l p0c w K) : Ret Tryz.prog 47 #[.slice p0 p0l p0c] w K := by
  rw [← e47] at h
  exact vcFunc_sound (by kernel_rfl) Tryz.func47 h

/-- handfast/sip.Same -/
def C83 (p0 : Option Addr) (p0l p0c : Nat) (p1 : Option Addr) (p1l p1c : Nat) (w : World) (K : Value → World → Prop) : Prop :=
  CallK Tryz.prog 61 #[.slice p0 p0l p0c, .slice p1 p1l p1c] w (.v (.one .bool)) (fun (x1 : Bool) w2 => K (.bool x1) w2)
def pl83 : Plan := .auto
theorem e83 (p0 : Option Addr) (p0l p0c : Nat) (p1 : Option Addr) (p1l p1c : Nat) (w : World) (K : Value → World → Prop) : vcFunc Tryz.prog Tryz.f83 pl83 [.slice p0 p0l p0c, .slice p1 p1l p1c] w K = C83 p0 p0l p0c p1 p1l p1c w K := by kernel_rfl
theorem c83 (p0 : Option Addr) (p0l p0c : Nat) (p1 : Option Addr) (p1l p1c : Nat) (w : World) (K : Value → World → Prop) (h : C83 p0 p0l p0c p1 p1l p1c w K) : Ret Tryz.prog 83 #[.slice p0 p0l p0c, .slice p1 p1l p1c] w K := by
  rw [← e83] at h
  exact vcFunc_sound (by kernel_rfl) Tryz.func83 h

end Go.Proofs.YtbadiokobooliaaGreatDoor
