/-
  Texts of this claim, put together: StrSpec, NumF, ReadF, LexF, TakeF, PackSpec2, VcNest, VcAggs, CTreeG, TreeSpec, CRefN, RefName, CRef04, RefTree, CWithin, WithinSpec, CDigG, DigSpec, CMakeG, MakeSpec, MakeSpec2.
  Conditions: those of each theorem.
-/
import Derived.Test.YtdphmcanlhcokaaGreatDoorM0
import Derived.Test.YtdphmcanlhcokaaGreatDoorM1
import Derived.ChangeSlices
import Derived.KernelRfl
import Derived.Laws.IdiomStrings
import Derived.Lib.ItoaNum
import Derived.Test.YtdphmcanlhcokaaGreatDoorProg
/-! ### StrSpec -/
set_option linter.unusedVariables false
set_option maxRecDepth 100000
namespace Go.Proofs.YtdphmcanlhcokaaGreatDoor
open Vc

theorem extract_str (a : List UInt8) (i j : Nat) : (str a).extract i j = str ((a.drop i).take (j - i)) := by
  apply ByteArray.ext
  rw [ByteArray.data_extract]
  unfold str
  simp
theorem subs_ok {a : List UInt8} {lo hi : Int} (h0 : 0 ≤ lo) (h1 : lo ≤ hi) (h2 : hi ≤ a.length) {K : ByteArray → Prop} (k : K (str ((a.drop lo.toNat).take (hi.toNat - lo.toNat)))) : SubsK (str a) lo hi K :=
  ⟨h0, h1, by rw [str_size]; exact h2, by rw [extract_str]; exact k⟩
theorem strk_ok {a : List UInt8} {i : Int} (h0 : 0 ≤ i) (h1 : i < a.length) {K : Int → Prop} (k : K ((a.getD i.toNat 0).toNat : Int)) : StrK (str a) i K := by
  refine ⟨a.getD i.toNat 0, h0, ?_, k⟩
  have hlt : i.toNat < (str a).size := by rw [str_size]; omega
  rw [getElem?_pos (str a) i.toNat hlt, List.getD_eq_getElem?_getD, List.getElem?_eq_getElem (by omega)]
  rfl
theorem hasPrefix_spec (a b : List UInt8) (w : World) : Ret Tryz.prog 231 #[.string (str a), .string (str b)] w fun r w' => r = .bool (decide (a.take b.length = b)) ∧ w = w' := by
  refine c231 _ _ w _ ?_
  unfold C231
  rw [str_size, str_size]
  refine ifB.dec (fun h => ?_) (fun h => ?_)
  · refine subs_ok (by omega) (by omega) (by omega) ?_
    rw [str_beq]
    exact ⟨by simp, rfl⟩
  · refine ⟨?_, rfl⟩
    rw [decide_eq_false]
    intro t
    have := congrArg List.length t
    rw [List.length_take] at this
    omega

/-- What stands behind a '-', if one stands ahead. -/
def noMinus (s : List UInt8) : List UInt8 := if s.take 1 = [45] then s.drop 1 else s
theorem trimPrefix_spec (s : List UInt8) (w : World) : Ret Tryz.prog 218 #[.string (str s), .string (str [45])] w fun r w' => r = .string (str (noMinus s)) ∧ w = w' := by
  refine c218 _ _ w _ ?_
  refine CallK.of (R := fun r w' => r = .string (str (noMinus s)) ∧ w = w') ?_ (by rintro _ _ ⟨rfl, rfl⟩; exact ⟨_, rfl, rfl, rfl⟩)
  refine c221 _ _ w _ ?_
  refine CallK.of (hasPrefix_spec s [45] w) ?_
  rintro _ _ ⟨rfl, rfl⟩
  refine ⟨_, rfl, ?_⟩
  unfold noMinus
  refine ifB.dec (fun h => ?_) (fun h => ?_)
  · have h : s.take 1 = [45] := h
    have hl : 1 ≤ s.length := by
      have := congrArg List.length h
      rw [List.length_take] at this
      simp only [List.length_cons, List.length_nil] at this
      omega
    rw [if_pos h, str_size, str_size]
    refine subs_ok (by simp) (by simp only [List.length_cons, List.length_nil]; omega) (by omega) ?_
    refine ⟨?_, rfl⟩
    rw [List.take_of_length_le (by simp)]
    rfl
  · have h : ¬ s.take 1 = [45] := h
    rw [if_neg h]; exact ⟨rfl, rfl⟩

/-! ### Sets of bytes -/
def setA (cs : List UInt8) : List Value := (List.range 256).map fun c => .bool (decide (c ∈ cs.map (·.toNat)))
theorem setA_len (cs : List UInt8) : (setA cs).length = 256 := by unfold setA; simp
theorem setA_at (cs : List UInt8) {c : Nat} (h : c < 256) : (setA cs)[c]? = some (.bool (decide (c ∈ cs.map (·.toNat)))) := by
  unfold setA
  rw [List.getElem?_map, List.getElem?_range h]
  rfl
theorem setA_one (cs : List UInt8) : (setA cs).all one1 = true := by
  rw [List.all_eq_true]
  intro v hv
  obtain ⟨c, _, rfl⟩ := List.mem_map.1 hv
  rfl
theorem setA_snoc (cs : List UInt8) (c : UInt8) : (setA cs).set c.toNat (.bool true) = setA (cs ++ [c]) := by
  refine List.ext_getElem? fun i => ?_
  by_cases hi : i < 256
  · rw [setA_at _ hi, List.getElem?_set]
    by_cases hc : c.toNat = i
    · rw [if_pos hc, if_pos (by rw [setA_len, hc]; exact hi)]
      simp [hc]
    · rw [if_neg hc, setA_at _ hi]
      congr 2
      refine decide_eq_decide.2 ?_
      rw [List.map_append, List.mem_append]
      simp only [List.map_cons, List.map_nil, List.mem_singleton]
      exact ⟨.inl, fun t => t.elim id (fun t => absurd t.symm hc)⟩
  · rw [List.getElem?_eq_none (by rw [List.length_set, setA_len]; omega), List.getElem?_eq_none (by rw [setA_len]; omega)]

def IsSet (w : World) (g : Nat) (cs : List UInt8) : Prop := w.heap[g]? = some (.cells (setA cs).toArray 341 (0, 0))
theorem IsSet.lda {w : World} {g : Nat} {cs : List UInt8} (h : IsSet w g cs) {K : List Value → Prop} (k : K (setA cs)) : LdaK 256 (⟨g, 0, none⟩ : Addr) w K :=
  ⟨setA cs, setA_len cs, cellsAt_all h _ 0 fun j _ => by simp, k⟩

theorem contains_spec {w : World} {g : Nat} {cs : List UInt8} (h : IsSet w g cs) (c : UInt8) : Ret Tryz.prog 232 #[.pointer (some ⟨g, 0, none⟩), .int .u8 (c.toNat : Int)] w fun r w' => r = .bool (decide (c ∈ cs)) ∧ w = w' := by
  refine c232 _ _ w _ ?_
  have hc := UInt8.toNat_lt c
  refine ⟨by omega, by omega, ?_⟩
  rw [addr_add, Nat.mul_one, Int.toNat_natCast, Nat.zero_add]
  refine LdK.of h (x := decide (c ∈ cs)) ?_ ⟨rfl, rfl⟩
  rw [List.getElem?_toArray, setA_at _ (by omega)]
  congr 2
  refine decide_eq_decide.2 ?_
  rw [List.mem_map]
  constructor
  · rintro ⟨d, hd, e⟩
    rwa [← UInt8.toNat_inj.1 e]
  · intro t; exact ⟨c, t, rfl⟩

theorem makeSet_spec (cs : List UInt8) (hcs : ∀ c ∈ cs, c.toNat < 128) (hl : cs.length ≤ 1000) (w : World) : Ret Tryz.prog 224 #[.string (str cs)] w fun r w' => r = .tuple #[.agg (setA cs).toArray, .bool true] ∧ Fr none1 w w' := by
  refine c224 _ w _ ?_
  unfold C224
  refine NewK.of fun g w1 hg hg1 f1 _ => ?_
  have h1 : IsSet w1 g [] := hg1
  have F1 : Fr (only g) w1 w1 := Fr.refl _ _
  refine LoopK.of (fun s w' => ∃ n : Nat, s.1 = n ∧ n ≤ cs.length ∧ IsSet w' g (cs.take n) ∧ Fr (only g) w1 w') (fun s _ => cs.length - s.1.toNat) ⟨0, rfl, by omega, h1, F1⟩ ?_
  rintro _ ⟨i, _⟩ w2 ⟨n, hn, hnl, h2, f2⟩
  dsimp only at hn ⊢
  subst hn
  rw [str_size]
  refine ifB.dec (fun hlt => ?_) (fun hge => ?_)
  · refine strk_ok (by omega) (by omega) ?_
    rw [Int.toNat_natCast]
    have hmem : cs.getD n 0 ∈ cs := by
      rw [List.getD_eq_getElem?_getD, List.getElem?_eq_getElem (by omega)]
      exact List.getElem_mem _
    have hc := hcs _ hmem
    refine ifB.no (by omega) ?_
    refine ⟨by omega, by omega, ?_⟩
    rw [addr_add, Nat.mul_one, Int.toNat_natCast, Nat.zero_add]
    refine StK.of h2 (by rw [List.size_toArray, setA_len]; omega) rfl fun w3 h3 f3 _ => ?_
    rw [wI (x := (n : Int) + 1) (by omega) (by omega)]
    refine ⟨⟨n + 1, by omega, by omega, ?_, f2.trans f3⟩, by omega⟩
    unfold IsSet
    rw [h3, List.setIfInBounds_toArray, setA_snoc]
    have : cs.take n ++ [cs.getD n 0] = cs.take (n + 1) := by
      rw [List.take_succ_eq_append_getElem (by omega), List.getD_eq_getElem?_getD, List.getElem?_eq_getElem (by omega)]
      rfl
    rw [this]
  · have : n = cs.length := by omega
    subst this
    rw [List.take_length] at h2
    refine h2.lda ?_
    refine ⟨setA_len cs, StsK.blk h2 rfl (setA_one cs) fun w3 h3 f3 _ => ?_⟩
    have h3 : IsSet w3 g cs := h3
    refine h3.lda ⟨rfl, (f1.fresh f2 (by omega)).fresh f3 (by omega)⟩

theorem trimRight_spec {w : World} {g : Nat} {cs : List UInt8} (h : IsSet w g cs) (s : List UInt8) (hl : s.length ≤ 1000000) : Ret Tryz.prog 226 #[.string (str s), .pointer (some ⟨g, 0, none⟩)] w fun r w' =>
    (∃ t u, r = .string (str t) ∧ s = t ++ u ∧ (∀ c ∈ u, c ∈ cs) ∧ (t = [] ∨ ¬ t.getD (t.length - 1) 0 ∈ cs)) ∧ w = w' := by
  refine c226 _ _ w _ ?_
  refine LoopK.of (fun q w' => w = w' ∧ ∃ t u, q.1 = str t ∧ s = t ++ u ∧ ∀ c ∈ u, c ∈ cs) (fun q _ => q.1.size) ⟨rfl, s, [], rfl, by simp, by simp⟩ ?_
  rintro _ ⟨q, _⟩ _ ⟨rfl, t, u, hq, hs, hu⟩
  dsimp only at hq ⊢
  subst hq
  have htl : t.length ≤ s.length := by rw [hs, List.length_append]; omega
  rw [str_size]
  refine ifB.dec (fun hpos => ?_) (fun hz => ?_)
  · rw [wI (x := (t.length : Int) - 1) (by omega) (by omega)]
    refine strk_ok (by omega) (by omega) ?_
    rw [show ((t.length : Int) - 1).toNat = t.length - 1 by omega]
    refine CallK.of (contains_spec h _) ?_
    rintro _ _ ⟨rfl, rfl⟩
    refine ⟨_, rfl, ?_⟩
    by_cases hc : t.getD (t.length - 1) 0 ∈ cs
    · refine ifB.f (by rw [decide_eq_true hc]; rfl) ?_
      refine subs_ok (by omega) (by omega) (by omega) ?_
      have e : (t.drop (0 : Int).toNat).take (((t.length : Int) - 1).toNat - (0 : Int).toNat) = t.take (t.length - 1) := by
        rw [show (0 : Int).toNat = 0 from rfl, List.drop_zero, show ((t.length : Int) - 1).toNat - 0 = t.length - 1 by omega]
      rw [e]
      refine ⟨⟨rfl, t.take (t.length - 1), t.getD (t.length - 1) 0 :: u, rfl, ?_, fun c hc' => ?_⟩, ?_⟩
      · rw [hs]
        have : t = t.take (t.length - 1) ++ [t.getD (t.length - 1) 0] := by
          conv => lhs; rw [← List.take_length (l := t), show t.length = (t.length - 1) + 1 by omega, List.take_succ_eq_append_getElem (by omega)]
          rw [List.getD_eq_getElem?_getD, List.getElem?_eq_getElem (by omega)]
          rfl
        conv => lhs; rw [this]
        simp
      · rcases List.mem_cons.1 hc' with t' | t'
        · rw [t']; exact hc
        · exact hu c t'
      · rw [str_size, List.length_take]; omega
    · refine ifB.t (by rw [decide_eq_false hc]; rfl) ⟨⟨t, u, rfl, hs, hu, .inr hc⟩, rfl⟩
  · exact ⟨⟨t, u, rfl, hs, hu, .inl (List.eq_nil_of_length_eq_zero (by omega))⟩, rfl⟩

theorem trimLeft_spec {w : World} {g : Nat} {cs : List UInt8} (h : IsSet w g cs) (s : List UInt8) (hl : s.length ≤ 1000000) : Ret Tryz.prog 225 #[.string (str s), .pointer (some ⟨g, 0, none⟩)] w fun r w' =>
    (∃ t u, r = .string (str t) ∧ s = u ++ t ∧ (∀ c ∈ u, c ∈ cs) ∧ (t = [] ∨ ¬ t.getD 0 0 ∈ cs)) ∧ w = w' := by
  refine c225 _ _ w _ ?_
  refine LoopK.of (fun q w' => w = w' ∧ ∃ t u, q.1 = str t ∧ s = u ++ t ∧ ∀ c ∈ u, c ∈ cs) (fun q _ => q.1.size) ⟨rfl, s, [], rfl, by simp, by simp⟩ ?_
  rintro _ ⟨q, _⟩ _ ⟨rfl, t, u, hq, hs, hu⟩
  dsimp only at hq ⊢
  subst hq
  have htl : t.length ≤ s.length := by rw [hs, List.length_append]; omega
  rw [str_size]
  refine ifB.dec (fun hpos => ?_) (fun hz => ?_)
  · refine strk_ok (by omega) (by omega) ?_
    rw [show (0 : Int).toNat = 0 from rfl]
    refine CallK.of (contains_spec h _) ?_
    rintro _ _ ⟨rfl, rfl⟩
    refine ⟨_, rfl, ?_⟩
    by_cases hc : t.getD 0 0 ∈ cs
    · refine ifB.f (by rw [decide_eq_true hc]; rfl) ?_
      refine subs_ok (by omega) (by omega) (by omega) ?_
      have e : (t.drop (1 : Int).toNat).take (((t.length : Nat) : Int).toNat - (1 : Int).toNat) = t.drop 1 := by
        rw [show (1 : Int).toNat = 1 from rfl, List.take_of_length_le (by rw [List.length_drop]; omega)]
      rw [e]
      refine ⟨⟨rfl, t.drop 1, u ++ [t.getD 0 0], rfl, ?_, fun c hc' => ?_⟩, ?_⟩
      · rw [hs]
        cases t with
        | nil => simp at hpos
        | cons x t => simp
      · rcases List.mem_append.1 hc' with t' | t'
        · exact hu c t'
        · simp only [List.mem_singleton] at t'; rw [t']; exact hc
      · rw [str_size, List.length_drop]; omega
    · refine ifB.t (by rw [decide_eq_false hc]; rfl) ⟨⟨t, u, rfl, hs, hu, .inr hc⟩, rfl⟩
  · exact ⟨⟨t, u, rfl, hs, hu, .inl (List.eq_nil_of_length_eq_zero (by omega))⟩, rfl⟩

/-- Trim gives the empty text just where all is of the set. -/
theorem trim_spec (s cs : List UInt8) (hne : s ≠ []) (hcs : ∀ c ∈ cs, c.toNat < 128) (h2 : 2 ≤ cs.length) (hcl : cs.length ≤ 1000) (hl : s.length ≤ 1000000) (w : World) : Ret Tryz.prog 219 #[.string (str s), .string (str cs)] w fun r w' =>
    (∃ v, r = .string (str v) ∧ (v = [] ↔ ∀ c ∈ s, c ∈ cs)) ∧ Fr none1 w w' := by
  refine c219 _ _ w _ ?_
  unfold C219
  have e0 : (⟨#[]⟩ : ByteArray) = str [] := rfl
  rw [e0, str_beq, str_beq]
  refine ifB.no hne (ifB.no (fun t => by rw [t] at h2; simp at h2) ?_)
  refine JoinK.of (fun q w' => q.1 = false ∧ w = w') ?_ ?_
  · refine ifB.f ?_ ⟨rfl, rfl⟩
    rw [str_size, beq_eq_false_iff_ne]; omega
  rintro _ ⟨q, _⟩ _ ⟨hq, rfl⟩
  dsimp only at hq
  subst hq
  refine ifB.f rfl ?_
  refine CallK.of (makeSet_spec cs hcs hcl w) ?_
  rintro _ w1 ⟨rfl, f1⟩
  refine ⟨(setA cs, true, ()), rfl, ?_⟩
  refine NewK.of fun g w2 hg hg2 f2 _ => ?_
  have h2' : IsSet w2 g [] := hg2
  refine ⟨setA_len cs, StsK.blk h2' (by rw [setA_len, setA_len]) (setA_one cs) fun w3 h3 f3 _ => ?_⟩
  have h3 : IsSet w3 g cs := h3
  refine ifB.t rfl ?_
  refine CallK.of (trimRight_spec h3 s hl) ?_
  rintro _ _ ⟨⟨t, u, rfl, hs, hu, ht⟩, rfl⟩
  refine ⟨_, rfl, ?_⟩
  have htl : t.length ≤ s.length := by rw [hs, List.length_append]; omega
  refine CallK.of (trimLeft_spec h3 t (by omega)) ?_
  rintro _ _ ⟨⟨v, u', rfl, ht', hu', hv⟩, rfl⟩
  refine ⟨_, rfl, ⟨v, rfl, ?_⟩, f1.trans (f2.fresh f3 (by omega))⟩
  constructor
  · intro hv0 c hc
    rw [hs, ht', hv0, List.append_nil] at hc
    rcases List.mem_append.1 hc with hc | hc
    · exact hu' c hc
    · exact hu c hc
  · intro hall
    rcases hv with hv | hv
    · exact hv
    · cases v with
      | nil => rfl
      | cons x v =>
        refine absurd (hall x ?_) hv
        rw [hs, ht']; simp

/-! ### Atoi -/
def isD (c : UInt8) : Bool := decide (48 ≤ c.toNat) && decide (c.toNat ≤ 57)
def digsT : List UInt8 := [48, 49, 50, 51, 52, 53, 54, 55, 56, 57]
theorem mem_digsT (c : UInt8) : c ∈ digsT ↔ isD c = true := by
  have hc := UInt8.toNat_lt c
  constructor
  · intro h
    have h : c = 48 ∨ c = 49 ∨ c = 50 ∨ c = 51 ∨ c = 52 ∨ c = 53 ∨ c = 54 ∨ c = 55 ∨ c = 56 ∨ c = 57 := by simpa [digsT] using h
    rcases h with h | h | h | h | h | h | h | h | h | h <;> subst h <;> rfl
  · intro h
    have h : 48 ≤ c.toNat ∧ c.toNat ≤ 57 := by simpa [isD] using h
    obtain ⟨n, hn⟩ : ∃ n, c.toNat = n := ⟨_, rfl⟩
    have e : c = UInt8.ofNat n := by rw [← hn]; exact (UInt8.ofNat_toNat).symm
    have : n = 48 ∨ n = 49 ∨ n = 50 ∨ n = 51 ∨ n = 52 ∨ n = 53 ∨ n = 54 ∨ n = 55 ∨ n = 56 ∨ n = 57 := by omega
    rcases this with t | t | t | t | t | t | t | t | t | t <;> (rw [t] at e; rw [e]; decide)
def valL (d : List UInt8) : Int := d.foldl (fun n c => n * 10 + ((c.toNat : Int) - 48)) 0
theorem valL_snoc (d : List UInt8) (c : UInt8) : valL (d ++ [c]) = valL d * 10 + ((c.toNat : Int) - 48) := by unfold valL; rw [List.foldl_append]; rfl
theorem foldl_val : ∀ (d : List UInt8) (n : Int), 0 ≤ n → (∀ c ∈ d, isD c = true) → 0 ≤ d.foldl (fun n c => n * 10 + ((c.toNat : Int) - 48)) n ∧ d.foldl (fun n c => n * 10 + ((c.toNat : Int) - 48)) n < (n + 1) * ((10 ^ d.length : Nat) : Int)
  | [], n, h0, _ => by simp; omega
  | c :: d, n, h0, h => by
    have hc : 48 ≤ c.toNat ∧ c.toNat ≤ 57 := by simpa [isD] using h c (by simp)
    obtain ⟨i1, i2⟩ := foldl_val d (n * 10 + ((c.toNat : Int) - 48)) (by omega) (fun x hx => h x (by simp [hx]))
    refine ⟨i1, Int.lt_of_lt_of_le i2 ?_⟩
    have e : (n + 1) * ((10 ^ (c :: d).length : Nat) : Int) = (n * 10 + 10) * ((10 ^ d.length : Nat) : Int) := by
      rw [List.length_cons, Nat.pow_succ, Int.natCast_mul, Int.mul_comm ((10 ^ d.length : Nat) : Int), ← Int.mul_assoc]
      congr 1
      omega
    rw [e]
    exact Int.mul_le_mul_of_nonneg_right (by omega) (Int.natCast_nonneg _)
theorem valL_bound (d : List UInt8) (h : ∀ c ∈ d, isD c = true) (hl : d.length ≤ 18) : 0 ≤ valL d ∧ valL d < 1000000000000000000 := by
  obtain ⟨a, b⟩ := foldl_val d 0 (Int.le_refl _) h
  have : 10 ^ d.length ≤ 10 ^ 18 := Nat.pow_le_pow_right (by decide) hl
  unfold valL
  omega

theorem bytes_of {w : World} (s : List UInt8) : ∃ (v : Sl) (w' : World), (convert 9 22 (.string (str s))).run Tryz.prog w = .ok (.slice v.1 v.2.1 v.2.2) w' ∧ RdSl w' 1 v (s.map fun b => Value.int .u8 (b.toNat : Int)) ∧ v.2.1 = s.length ∧ Fr none1 w w' := by
  refine ⟨(some ⟨w.heap.size, 0, none⟩, (str s).size, _), _, run_bytes_of_string w 9 22 5 (str s) Tryz.underlying9 Tryz.underlying22 Tryz.underlying5, ?_, str_size s, ?_⟩
  · refine ⟨by rw [List.length_map, Nat.mul_one]; exact (str_size s).symm, (fun t => nomatch t), fun a ha => ?_⟩
    injection ha with ha
    subst ha
    refine cellsAt_all (Array.getElem?_push_size ..) _ 0 fun j hj => ?_
    rw [List.length_map] at hj
    unfold bytesRow
    rw [Nat.zero_add, Array.getElem?_append_left (by unfold str; simpa using hj)]
    unfold str
    simp
  · exact (drew_fr w).trans (push_fr _ _)

theorem iatoi_spec (s d : List UInt8) (neg : Bool) (hs : s = (if neg then 45 :: d else d)) (hne : d ≠ []) (hd : ∀ c ∈ d, isD c = true) (hl : s.length < 19) (w : World) :
    Ret Tryz.prog 229 #[.string (str s)] w fun r w' => r = .tuple #[.int .i64 (if neg then -(valL d) else valL d), .nilIface] ∧ Fr none1 w w' := by
  refine c229 _ w _ ?_
  unfold C229
  have hdl : 0 < d.length := List.length_pos_iff.2 hne
  have hsl : s.length = d.length + (if neg then 1 else 0) := by rw [hs]; cases neg <;> simp
  have hd18 : d.length ≤ 18 := by omega
  have h0 : 0 < s.length := by omega
  have hd0 : 48 ≤ (d.getD 0 0).toNat ∧ (d.getD 0 0).toNat ≤ 57 := by
    have : isD (d.getD 0 0) = true := hd _ (by rw [List.getD_eq_getElem?_getD, List.getElem?_eq_getElem hdl]; exact List.getElem_mem _)
    simpa [isD] using this
  have hs0 : ((s.getD 0 0).toNat = 45 ∧ neg = true) ∨ (48 ≤ (s.getD 0 0).toNat ∧ (s.getD 0 0).toNat ≤ 57 ∧ neg = false) := by
    rw [hs]
    cases neg with
    | true => exact .inl ⟨rfl, rfl⟩
    | false => exact .inr ⟨hd0.1, hd0.2, rfl⟩
  refine JoinK.of (fun q w' => q.1 = true ∧ w = w') ?_ ?_
  · rw [str_size]
    refine ifB.yes (by omega) ⟨decide_eq_true (by omega), rfl⟩
  rintro _ ⟨q, _⟩ _ ⟨hq, rfl⟩
  dsimp only at hq
  subst hq
  refine ifB.t rfl ?_
  refine JoinK.of (fun q w' => q.1 = str d ∧ w = w') ?_ ?_
  · refine JoinK.of (fun q w' => q.1 = neg ∧ w = w') ?_ ?_
    · refine strk_ok (by omega) (by omega) ?_
      rw [show (0 : Int).toNat = 0 from rfl]
      refine ifB.eq (fun h => ?_) (fun h => ?_)
      · refine ⟨?_, rfl⟩
        rcases hs0 with ⟨_, hn⟩ | ⟨h1, _, _⟩
        · exact hn.symm
        · omega
      · refine strk_ok (by omega) (by omega) ⟨?_, rfl⟩
        rw [show (0 : Int).toNat = 0 from rfl]
        rcases hs0 with ⟨h1, _⟩ | ⟨h1, _, hn⟩
        · omega
        · rw [hn]; simp only [beq_eq_false_iff_ne]; omega
    rintro _ ⟨q, _⟩ _ ⟨hq, rfl⟩
    dsimp only at hq
    subst hq
    refine ifB.by (fun hn => ?_) (fun hn => ?_)
    · subst hn
      refine subs_ok (by omega) (by rw [str_size]; omega) (by rw [str_size]; omega) ?_
      have e : (s.drop (1 : Int).toNat).take (((str s).size : Int).toNat - (1 : Int).toNat) = d := by
        rw [str_size, hs]
        simp
      rw [e, str_size]
      refine ifB.no (by omega) ⟨rfl, rfl⟩
    · subst hn
      refine ⟨?_, rfl⟩
      show str s = str d
      rw [hs]; rfl
  rintro _ ⟨q, _⟩ _ ⟨hq, rfl⟩
  dsimp only at hq
  subst hq
  obtain ⟨v, w1, r1, hv, hvl, f1⟩ := bytes_of (w := w) d
  refine ⟨v, w1, r1, ?_⟩
  refine LoopK.of (fun q w' => w1 = w' ∧ ∃ n : Nat, q.2.1 = n ∧ n ≤ d.length ∧ q.1 = valL (d.take n)) (fun q _ => d.length - q.2.1.toNat) ⟨rfl, 0, rfl, by omega, rfl⟩ ?_
  rintro _ ⟨m, i, _⟩ _ ⟨rfl, n, hn, hnl, hm⟩
  dsimp only at hn hm ⊢
  subst hn; subst hm
  refine ifB.dec (fun hlt => ?_) (fun hge => ?_)
  · have hmem : d.getD n 0 ∈ d := by rw [List.getD_eq_getElem?_getD, List.getElem?_eq_getElem (by omega)]; exact List.getElem_mem _
    have hc : 48 ≤ (d.getD n 0).toNat ∧ (d.getD n 0).toNat ≤ 57 := by simpa [isD] using hd _ hmem
    refine RdSl.ld hv (by omega) hlt (x := ((d.getD n 0).toNat : Int)) (by rw [Int.toNat_natCast, List.getElem?_map, List.getD_eq_getElem?_getD, List.getElem?_eq_getElem (by omega)]; rfl) ?_
    have e1 : IntKind.u8.wrap (((d.getD n 0).toNat : Int) - 48) = ((d.getD n 0).toNat : Int) - 48 := by rw [IntKind.wrap_u8]; omega
    rw [e1]
    refine ifB.no (by omega) ?_
    obtain ⟨b1, b2⟩ := valL_bound (d.take n) (fun c hc => hd c (List.mem_of_mem_take hc)) (by rw [List.length_take]; omega)
    rw [wI (x := ((d.getD n 0).toNat : Int) - 48) (by omega) (by omega)]
    obtain ⟨b3, b4⟩ := valL_bound (d.take (n + 1)) (fun c hc => hd c (List.mem_of_mem_take hc)) (by rw [List.length_take]; omega)
    have e2 : d.take (n + 1) = d.take n ++ [d.getD n 0] := by
      rw [List.take_succ_eq_append_getElem (by omega), List.getD_eq_getElem?_getD, List.getElem?_eq_getElem (by omega)]; rfl
    rw [e2, valL_snoc] at b3 b4
    rw [wI (x := valL (d.take n) * 10) (by omega) (by omega), wI (x := valL (d.take n) * 10 + (((d.getD n 0).toNat : Int) - 48)) (by omega) (by omega), wI (x := (n : Int) + 1) (by omega) (by omega)]
    refine ⟨⟨rfl, n + 1, by omega, by omega, ?_⟩, by omega⟩
    rw [e2, valL_snoc]
  · have : n = d.length := by omega
    subst this
    rw [List.take_length]
    obtain ⟨b1, b2⟩ := valL_bound d hd hd18
    refine strk_ok (by omega) (by omega) ?_
    rw [show (0 : Int).toNat = 0 from rfl]
    rcases hs0 with ⟨h1, hn⟩ | ⟨h1, h2, hn⟩
    · subst hn
      refine ifB.t (by rw [h1]; rfl) ?_
      rw [wI (x := 0 - valL d) (by omega) (by omega), Int.zero_sub]
      exact ⟨rfl, f1⟩
    · subst hn
      refine ifB.f (by simp only [beq_eq_false_iff_ne]; omega) ⟨rfl, f1⟩

theorem nil_ne {t : TypeId} (ht : ∃ ms, Tryz.prog.underlying t = some (.interface ms)) (o : Operand) (w : World) :
    (do eqGuard .neq t o (.const .nilIface) .nilIface .nilIface; binOp .neq t .nilIface .nilIface : Sem Value).run Tryz.prog w = .ok (.bool false) w := by
  obtain ⟨ms, ht⟩ := ht
  have h1 : (eqGuard .neq t o (.const .nilIface) .nilIface .nilIface).run Tryz.prog w = .ok () w := by
    unfold eqGuard
    simp
  rw [Sem.run_bind, h1, Result.andThen_ok]
  have h2 : (Op.equalIn (9999 + 1) t .nilIface .nilIface).run Tryz.prog w = .ok true w := by
    unfold Op.equalIn
    simp only [Sem.run_bind, under ht, Result.andThen_ok, Sem.run_pure]
  show (do pure (Value.bool (!(← Op.equalIn (9999 + 1) t .nilIface .nilIface))) : Sem Value).run Tryz.prog w = _
  rw [Sem.run_bind, h2]
  rfl

theorem atoi_spec (s d : List UInt8) (neg : Bool) (hs : s = (if neg then 45 :: d else d)) (hne : d ≠ []) (hd : ∀ c ∈ d, isD c = true) (hl : s.length < 19) (w : World) :
    Ret Tryz.prog 220 #[.string (str s)] w fun r w' => r = .tuple #[.int .i64 (if neg then -(valL d) else valL d), .nilIface] ∧ Fr none1 w w' := by
  refine c220 _ w _ ?_
  refine CallK.of (iatoi_spec s d neg hs hne hd hl w) ?_
  rintro _ w1 ⟨rfl, f1⟩
  refine ⟨(_, .nilIface, ()), rfl, ?_⟩
  refine ⟨false, w1, nil_ne ⟨_, Tryz.underlying294⟩ _ w1, ifB.f rfl ⟨rfl, f1⟩⟩

/-! ### A number out of a text -/
def numF (s : List UInt8) : Int × Bool :=
  if noMinus s = [] ∨ 13 < (noMinus s).length ∨ (noMinus s).all isD = false ∨ ((noMinus s).getD 0 0 = 48 ∧ s ≠ [48]) then (0, false) else
  if 1000000000000 < valL (noMinus s) then (0, false) else (if s.take 1 = [45] then -(valL (noMinus s)) else valL (noMinus s), true)

theorem number_spec (s : List UInt8) (hl : s.length ≤ 100000) (w : World) : Ret Tryz.prog 213 #[.string (str s)] w fun r w' => r = .tuple #[.int .i64 (numF s).1, .bool (numF s).2] ∧ Fr none1 w w' := by
  refine c213 _ w _ ?_
  unfold C213
  have e0 : (⟨#[]⟩ : ByteArray) = str [] := rfl
  have e45 : (⟨#[45]⟩ : ByteArray) = str [45] := rfl
  have e48 : (⟨#[48]⟩ : ByteArray) = str [48] := rfl
  have ed : (⟨#[48, 49, 50, 51, 52, 53, 54, 55, 56, 57]⟩ : ByteArray) = str digsT := rfl
  rw [e0, e45, e48, ed]
  refine CallK.of (trimPrefix_spec s w) ?_
  rintro _ _ ⟨rfl, rfl⟩
  refine ⟨_, rfl, ?_⟩
  have hdl : (noMinus s).length ≤ s.length := by unfold noMinus; split <;> simp
  refine JoinK.of (fun q w' => q.1 = decide (noMinus s = [] ∨ 13 < (noMinus s).length ∨ (noMinus s).all isD = false ∨ ((noMinus s).getD 0 0 = 48 ∧ s ≠ [48])) ∧ Fr none1 w w') ?_ ?_
  · rw [str_beq]
    refine ifB.dec (fun h => ?_) (fun h => ?_)
    · exact ⟨(decide_eq_true (.inl h)).symm, Fr.refl _ _⟩
    rw [str_size]
    refine ifB.dec (fun h2 => ?_) (fun h2 => ?_)
    · exact ⟨(decide_eq_true (.inr (.inl (by omega)))).symm, Fr.refl _ _⟩
    refine CallK.of (trim_spec (noMinus s) digsT h (by decide) (by decide) (by decide) (by omega) w) ?_
    rintro _ w1 ⟨⟨v, rfl, hv⟩, f1⟩
    refine ⟨_, rfl, ?_⟩
    rw [str_beq]
    have hall : v = [] ↔ (noMinus s).all isD = true := by
      rw [hv, List.all_eq_true]
      exact ⟨fun t c hc => (mem_digsT c).1 (t c hc), fun t c hc => (mem_digsT c).2 (t c hc)⟩
    by_cases hv0 : v = []
    · refine ifB.f (by simp [hv0]) ?_
      have ha := hall.1 hv0
      have hpos : 0 < (noMinus s).length := List.length_pos_iff.2 h
      refine strk_ok (by omega) (by omega) ?_
      rw [show (0 : Int).toNat = 0 from rfl]
      refine ifB.eq (fun h48 => ?_) (fun h48 => ?_)
      · refine ⟨?_, f1⟩
        have h48' : (noMinus s).getD 0 0 = 48 := UInt8.toNat_inj.1 (by have : (48 : UInt8).toNat = 48 := rfl
                                                                       omega)
        rw [str_beq]
        by_cases hs48 : s = [48]
        · rw [decide_eq_true hs48, decide_eq_false]
          · rfl
          · rintro (t | t | t | t)
            · exact h t
            · omega
            · rw [ha] at t; cases t
            · exact t.2 hs48
        · rw [decide_eq_false hs48, decide_eq_true (.inr (.inr (.inr ⟨h48', hs48⟩)))]; rfl
      · refine ⟨?_, f1⟩
        rw [decide_eq_false]
        rintro (t | t | t | t)
        · exact h t
        · omega
        · rw [ha] at t; cases t
        · exact h48 (by rw [t.1]; rfl)
    · refine ifB.t (by simp [hv0]) ⟨?_, f1⟩
      refine (decide_eq_true (.inr (.inr (.inl ?_)))).symm
      have := fun t => hv0 (hall.2 t)
      simpa using this
  rintro _ ⟨q, _⟩ w1 ⟨hq, f1⟩
  dsimp only at hq
  subst hq
  unfold numF
  refine ifB.dec (fun h => ?_) (fun h => ?_)
  · rw [if_pos h]; exact ⟨rfl, f1⟩
  rw [if_neg h]
  have hne : noMinus s ≠ [] := fun t => h (.inl t)
  have h13 : (noMinus s).length ≤ 13 := by
    by_cases t : 13 < (noMinus s).length
    · exact absurd (.inr (.inl t)) h
    · omega
  have hall : ∀ c ∈ noMinus s, isD c = true := by
    have : (noMinus s).all isD = true := by
      cases ha : (noMinus s).all isD with
      | true => rfl
      | false => exact absurd (.inr (.inr (.inl ha))) h
    exact List.all_eq_true.1 this
  have hsn : s = (if decide (s.take 1 = [45]) then 45 :: noMinus s else noMinus s) := by
    unfold noMinus
    by_cases t : s.take 1 = [45]
    · rw [if_pos (decide_eq_true t), if_pos t]
      conv => lhs; rw [← List.take_append_drop 1 s, t]
      rfl
    · rw [if_neg (by simpa using t), if_neg t]
  have hsl : s.length ≤ 14 := by
    rw [hsn]
    split
    · simp only [List.length_cons]; omega
    · omega
  obtain ⟨b1, b2⟩ := valL_bound (noMinus s) hall (by omega)
  by_cases hn : s.take 1 = [45]
  · rw [if_pos (decide_eq_true hn)] at hsn
    rw [if_pos hn]
    refine CallK.of (atoi_spec s (noMinus s) true hsn hne hall (by omega) w1) ?_
    rintro _ w2 ⟨rfl, f2⟩
    refine ⟨(-(valL (noMinus s)), .nilIface, ()), rfl, ?_⟩
    refine ⟨false, w2, nil_ne ⟨_, Tryz.underlying294⟩ _ w2, ifB.f rfl ?_⟩
    have f12 := f1.trans f2
    refine ifB.dec (fun h1 => ?_) (fun h1 => ?_)
    · rw [if_pos (by omega)]; exact ⟨rfl, f12⟩
    · rw [if_neg (by omega)]
      refine ifB.no (by omega) ⟨rfl, f12⟩
  · rw [if_neg (by simpa using hn)] at hsn
    rw [if_neg hn]
    refine CallK.of (atoi_spec s (noMinus s) false hsn hne hall (by omega) w1) ?_
    rintro _ w2 ⟨rfl, f2⟩
    refine ⟨(valL (noMinus s), .nilIface, ()), rfl, ?_⟩
    refine ⟨false, w2, nil_ne ⟨_, Tryz.underlying294⟩ _ w2, ifB.f rfl ?_⟩
    have f12 := f1.trans f2
    refine ifB.no (by omega) ?_
    refine ifB.dec (fun h1 => ?_) (fun h1 => ?_)
    · rw [if_pos (by omega)]; exact ⟨rfl, f12⟩
    · rw [if_neg (by omega)]; exact ⟨rfl, f12⟩

end Go.Proofs.YtdphmcanlhcokaaGreatDoor

/-! ### NumF -/
set_option linter.unusedVariables false
set_option maxRecDepth 100000
namespace Go.Proofs.YtdphmcanlhcokaaGreatDoor
open Vc

theorem ddec_lo {n : Nat} (h : n < 10) : Lib.decDigits n = [UInt8.ofNat (48 + n)] := Lib.decDigits_one h
theorem ddec_hi {n : Nat} (h : ¬ n < 10) : Lib.decDigits n = Lib.decDigits (n / 10) ++ [UInt8.ofNat (48 + n % 10)] := by rw [Lib.decDigits, dif_neg h]
theorem isD_rg {c : UInt8} (h : isD c = true) : 48 ≤ c.toNat ∧ c.toNat ≤ 57 := by
  unfold isD at h
  simp only [Bool.and_eq_true, decide_eq_true_eq] at h
  exact h

theorem snoc_rec {α : Type} {Q : List α → Prop} (h0 : Q []) (h1 : ∀ l a, Q l → Q (l ++ [a])) (l : List α) : Q l := by
  have : ∀ r : List α, Q r.reverse := fun r => by
    induction r with
    | nil => exact h0
    | cons a r ih => rw [List.reverse_cons]; exact h1 _ _ ih
  have := this l.reverse
  rwa [List.reverse_reverse] at this

theorem valL_nonneg (d : List UInt8) (h : ∀ c ∈ d, isD c = true) : 0 ≤ valL d := (foldl_val d 0 (by omega) h).1
theorem dec_valL : ∀ d : List UInt8, d ≠ [] → (∀ c ∈ d, isD c = true) → (d.getD 0 0 = 48 → d = [48]) → Lib.decDigits (valL d).toNat = d ∧ (d ≠ [48] → 1 ≤ valL d) := by
  intro d
  induction d using snoc_rec with
  | h0 => intro h; exact absurd rfl h
  | h1 e c ih =>
    intro _ hd hz
    have hc := isD_rg (hd c (by simp))
    have hv := valL_snoc e c
    have hcc : UInt8.ofNat (48 + (c.toNat - 48)) = c := by rw [show 48 + (c.toNat - 48) = c.toNat by omega]; exact UInt8.ofNat_toNat
    by_cases he : e = []
    · subst he
      have hv0 : valL [] = 0 := rfl
      rw [List.nil_append] at *
      have : valL [c] = (c.toNat : Int) - 48 := by rw [hv, hv0]; omega
      rw [this]
      refine ⟨?_, fun hne => ?_⟩
      · rw [show ((c.toNat : Int) - 48).toNat = c.toNat - 48 by omega, ddec_lo (by omega), hcc]
      · have : c ≠ 48 := fun t => hne (by rw [t])
        have : c.toNat ≠ 48 := fun t => this (by rw [← UInt8.toNat_inj]; exact t)
        omega
    · have hp : 0 < e.length := List.length_pos_iff.2 he
      have hg : (e ++ [c]).getD 0 0 = e.getD 0 0 := by rw [List.getD_eq_getElem?_getD, List.getElem?_append_left hp, ← List.getD_eq_getElem?_getD]
      have hn48 : e.getD 0 0 ≠ 48 := fun t => by
        have := hz (hg.trans t)
        have := congrArg List.length this
        rw [List.length_append, List.length_singleton, List.length_singleton] at this
        omega
      obtain ⟨i1, i2⟩ := ih he (fun c hc => hd c (by simp [hc])) (fun t => absurd t hn48)
      have hv1 := i2 (fun t => hn48 (by rw [t]; rfl))
      rw [hv]
      refine ⟨?_, fun _ => by omega⟩
      rw [ddec_hi (n := (valL e * 10 + ((c.toNat : Int) - 48)).toNat) (by omega), show (valL e * 10 + ((c.toNat : Int) - 48)).toNat / 10 = (valL e).toNat by omega, i1, show (valL e * 10 + ((c.toNat : Int) - 48)).toNat % 10 = c.toNat - 48 by omega, hcc]

/-- What is read as a number is its digits. -/
theorem numF_inv {s : List UInt8} (h : (numF s).2 = true) : s = Lib.itoa (numF s).1 ∧ -1000000000000 ≤ (numF s).1 ∧ (numF s).1 ≤ 1000000000000 := by
  unfold numF at h ⊢
  split at h
  · cases h
  rename_i hc
  split at h
  · cases h
  rename_i hb
  rw [if_neg hc, if_neg hb]
  simp only [not_or] at hc
  obtain ⟨h1, h2, h3, h4⟩ := hc
  have hd : ∀ c ∈ noMinus s, isD c = true := by
    have : (noMinus s).all isD = true := by cases h : (noMinus s).all isD; exact absurd h h3; rfl
    exact List.all_eq_true.1 this
  have hn := valL_nonneg _ hd
  by_cases hm : s.take 1 = [45]
  · have hs : s = 45 :: noMinus s := by
      unfold noMinus
      rw [if_pos hm]
      cases s with
      | nil => simp at hm
      | cons c l => simp at hm; subst hm; rfl
    have hz : (noMinus s).getD 0 0 ≠ 48 := fun t => h4 ⟨t, fun e => by rw [e] at hm; simp at hm⟩
    obtain ⟨i1, i2⟩ := dec_valL _ h1 hd (fun t => absurd t hz)
    have := i2 (fun t => hz (by rw [t]; rfl))
    rw [if_pos hm]
    refine ⟨?_, by dsimp only; omega, by dsimp only; omega⟩
    dsimp only
    unfold Lib.itoa
    rw [if_pos (by omega), show (-valL (noMinus s)).natAbs = (valL (noMinus s)).toNat by omega, i1]
    exact hs
  · have hs : noMinus s = s := by unfold noMinus; rw [if_neg hm]
    rw [if_neg hm]
    rw [hs] at h1 h2 h3 h4 hb hn hd ⊢
    obtain ⟨i1, i2⟩ := dec_valL s h1 hd (fun t => by
      by_cases e : s = [48]
      · exact e
      · exact absurd ⟨t, e⟩ h4)
    refine ⟨?_, by dsimp only; omega, by dsimp only; omega⟩
    dsimp only
    unfold Lib.itoa
    rw [if_neg (by omega), i1]

end Go.Proofs.YtdphmcanlhcokaaGreatDoor

/-! ### ReadF -/
set_option linter.unusedVariables false
set_option maxRecDepth 100000
namespace Go.Proofs.YtdphmcanlhcokaaGreatDoor
open Vc

/-! ### The reader: the signs left, the error's place, the error -/
structure RS where
  l : List SignV
  at_ : Int
  e : Int

def placeF (fin : Int) (s : RS) : Int := match s.l with | x :: _ => x.2 | [] => fin
def failF (fin c : Int) (s : RS) : RS := if s.e = 0 then ⟨s.l, placeF fin s, c⟩ else s
def takeF (fin : Int) (right : List UInt8 → Bool) (s : RS) : List UInt8 × RS :=
  if s.e = 0 then match s.l with
    | [] => ([], ⟨[], fin, 2⟩)
    | x :: l => if right x.1 = true then (x.1, ⟨l, s.at_, 0⟩) else ([], ⟨x :: l, x.2, 2⟩)
  else ([], s)
def mustF (fin : Int) (x : List UInt8) (s : RS) : RS := (takeF fin (fun y => decide (y = x)) s).2
def wordF' (x : List UInt8) : Bool := (numF x).2 || (x == [102, 105, 120] || (x == [97, 100, 100] || (x == [110, 101, 103] || (x == [109, 117, 108] || x == [109, 97, 120]))))
def beginsF (x : List UInt8) : Bool := x == [122, 101, 114, 111] || (x == [111, 110, 101] || (x == [103, 105, 118, 101] || (x == [97, 110, 100] || (x == [111, 114] || (x == [115, 99, 97, 108, 101] || (x == [119, 104, 101, 110] || x == [105, 102]))))))
def dayF (x : List UInt8) : Bool := (numF x).2 && (decide (0 ≤ (numF x).1) && decide ((numF x).1 ≤ 10000))

def pairF (fin : Int) (rec : RS → Ob × RS) (s : RS) : Ob × Ob × RS :=
  ((rec (mustF fin [40] s)).1, (rec (mustF fin [44] (rec (mustF fin [40] s)).2)).1, mustF fin [41] (rec (mustF fin [44] (rec (mustF fin [40] s)).2)).2)
def numK (fin : Int) (rec : RS → Ob × RS) (x : List UInt8) (s : RS) : Ob × RS :=
  if x = [102, 105, 120] then (.fix (takeF fin nameL (mustF fin [40] s)).1, mustF fin [41] (takeF fin nameL (mustF fin [40] s)).2)
  else if x = [110, 101, 103] then (.neg (rec (mustF fin [40] s)).1, mustF fin [41] (rec (mustF fin [40] s)).2)
  else if x = [97, 100, 100] then (.add (pairF fin rec s).1 (pairF fin rec s).2.1, (pairF fin rec s).2.2)
  else if x = [109, 117, 108] then (.mul (pairF fin rec s).1 (pairF fin rec s).2.1, (pairF fin rec s).2.2)
  else if x = [109, 97, 120] then (.max (pairF fin rec s).1 (pairF fin rec s).2.1, (pairF fin rec s).2.2)
  else (.const (numF x).1, s)
def numR (fin : Int) : Nat → RS → Ob × RS
  | 0, s => (.none, failF fin 5 s)
  | n + 1, s => if s.e ≠ 0 then (.none, s) else if (takeF fin wordF' s).1 = [] then (.none, (takeF fin wordF' s).2) else numK fin (numR fin n) (takeF fin wordF' s).1 (takeF fin wordF' s).2

def oneF (fin : Int) (rec : RS → Tm × RS) (s : RS) : Tm × RS := ((rec s).1, mustF fin [41] (rec s).2)
def bothF (fin : Int) (rec : RS → Tm × RS) (s : RS) : Tm × Tm × RS := ((rec s).1, (rec (mustF fin [44] (rec s).2)).1, mustF fin [41] (rec (mustF fin [44] (rec s).2)).2)
/-- Behind a contract's word and its bracket. -/
def conK (fin : Int) (num : RS → Ob × RS) (rec : RS → Tm × RS) (x : List UInt8) (s : RS) : Tm × RS :=
  if x = [111, 110, 101] then (.one (takeF fin nameL s).1, mustF fin [41] (takeF fin nameL s).2)
  else if x = [103, 105, 118, 101] then (.give (oneF fin rec s).1, (oneF fin rec s).2)
  else if x = [97, 110, 100] then (.and (bothF fin rec s).1 (bothF fin rec s).2.1, (bothF fin rec s).2.2)
  else if x = [111, 114] then
    (.or (takeF fin nameL s).1 (bothF fin rec (mustF fin [44] (takeF fin nameL s).2)).1 (bothF fin rec (mustF fin [44] (takeF fin nameL s).2)).2.1, (bothF fin rec (mustF fin [44] (takeF fin nameL s).2)).2.2)
  else if x = [115, 99, 97, 108, 101] then (.scale (num s).1 (oneF fin rec (mustF fin [44] (num s).2)).1, (oneF fin rec (mustF fin [44] (num s).2)).2)
  else if x = [119, 104, 101, 110] then
    (.when (numF (takeF fin dayF s).1).1 (oneF fin rec (mustF fin [44] (takeF fin dayF s).2)).1, (oneF fin rec (mustF fin [44] (takeF fin dayF s).2)).2)
  else (.cond (num s).1 (bothF fin rec (mustF fin [44] (num s).2)).1 (bothF fin rec (mustF fin [44] (num s).2)).2.1, (bothF fin rec (mustF fin [44] (num s).2)).2.2)
def conR (fin : Int) : Nat → RS → Tm × RS
  | 0, s => (.none, failF fin 5 s)
  | n + 1, s => if s.e ≠ 0 then (.none, s) else if (takeF fin beginsF s).1 = [] then (.zero, (takeF fin beginsF s).2) else if (takeF fin beginsF s).1 = [122, 101, 114, 111] then (.zero, (takeF fin beginsF s).2)
      else conK fin (numR fin n) (conR fin n) (takeF fin beginsF s).1 (mustF fin [40] (takeF fin beginsF s).2)

def doneF (fin : Int) (s : RS) : RS := match s.l with | [] => s | _ :: _ => failF fin 2 s
/-- A reader of a text. -/
def endF (bs : List UInt8) : Int := ((runesL bs).length : Int) + 1
def beginF (bs : List UInt8) : RS := if 1000 < bs.length then ⟨[], 0, 5⟩ else if 0 < (sgF [] 0 false (runesL bs)).2 then ⟨(sgF [] 0 false (runesL bs)).1, (sgF [] 0 false (runesL bs)).2, 2⟩ else ⟨(sgF [] 0 false (runesL bs)).1, 0, 0⟩
def conS (bs : List UInt8) : RS := doneF (endF bs) (conR (endF bs) 12 (beginF bs)).2
def readT (bs : List UInt8) : Tm × Int × Int :=
  if (conS bs).e ≠ 0 then (.none, (conS bs).at_, (conS bs).e) else if checkT (conR (endF bs) 12 (beginF bs)).1 ≠ 0 then (.none, (conS bs).at_, checkT (conR (endF bs) 12 (beginF bs)).1) else ((conR (endF bs) 12 (beginF bs)).1, 0, 0)

/-! ### A step -/
theorem takeF_hit {fin : Int} {right : List UInt8 → Bool} {x : SignV} {l : List SignV} {a : Int} (h : right x.1 = true) : takeF fin right ⟨x :: l, a, 0⟩ = (x.1, ⟨l, a, 0⟩) := by
  unfold takeF; simp [h]
theorem takeF_miss {fin : Int} {right : List UInt8 → Bool} {x : SignV} {l : List SignV} {a : Int} (h : ¬ right x.1 = true) : takeF fin right ⟨x :: l, a, 0⟩ = ([], ⟨x :: l, x.2, 2⟩) := by
  unfold takeF; simp [h]
theorem takeF_nil {fin : Int} {right : List UInt8 → Bool} {a : Int} : takeF fin right ⟨[], a, 0⟩ = ([], ⟨[], fin, 2⟩) := by
  unfold takeF; simp
theorem takeF_err {fin : Int} {right : List UInt8 → Bool} {s : RS} (h : s.e ≠ 0) : takeF fin right s = ([], s) := by
  unfold takeF; rw [if_neg h]
theorem failF_err {fin c : Int} {s : RS} (h : s.e ≠ 0) : failF fin c s = s := by unfold failF; rw [if_neg h]

/-- From s to s' these signs are taken. -/
structure Ate (s : RS) (ts : List (List UInt8)) (s' : RS) : Prop where
  e : s.e = 0
  e' : s'.e = 0
  at_ : s'.at_ = s.at_
  eat : ∃ xs : List SignV, s.l = xs ++ s'.l ∧ xs.map Prod.fst = ts

theorem Ate.trans {s s1 s2 : RS} {a b : List (List UInt8)} (h : Ate s a s1) (k : Ate s1 b s2) : Ate s (a ++ b) s2 := by
  obtain ⟨xs, hx, hxs⟩ := h.eat
  obtain ⟨ys, hy, hys⟩ := k.eat
  exact ⟨h.e, k.e', k.at_.trans h.at_, xs ++ ys, by rw [hx, hy, List.append_assoc], by rw [List.map_append, hxs, hys]⟩

theorem take_inv {fin : Int} {right : List UInt8 → Bool} {s : RS} (h : (takeF fin right s).2.e = 0) : Ate s [(takeF fin right s).1] (takeF fin right s).2 ∧ right (takeF fin right s).1 = true := by
  rcases s with ⟨l, a, e⟩
  by_cases he : e = 0
  · subst he
    cases l with
    | nil => rw [takeF_nil] at h; exact absurd (show (2 : Int) = 0 from h) (by decide)
    | cons x l =>
      by_cases hr : right x.1 = true
      · rw [takeF_hit hr]; exact ⟨⟨rfl, rfl, rfl, [x], rfl, rfl⟩, hr⟩
      · rw [takeF_miss hr] at h; exact absurd (show (2 : Int) = 0 from h) (by decide)
  · rw [takeF_err he] at h; exact absurd h he
theorem must_inv {fin : Int} {x : List UInt8} {s : RS} (h : (mustF fin x s).e = 0) : Ate s [x] (mustF fin x s) := by
  obtain ⟨h1, h2⟩ := take_inv (fin := fin) (right := fun y => decide (y = x)) h
  have h2 := of_decide_eq_true h2
  rw [h2] at h1
  exact h1

/-! ### Behind an error nothing is read -/
theorem numR_err (fin : Int) : ∀ (n : Nat) (s : RS), s.e ≠ 0 → (numR fin n s).2 = s
  | 0, s, h => failF_err h
  | n + 1, s, h => by unfold numR; rw [if_pos h]
theorem conR_err (fin : Int) : ∀ (n : Nat) (s : RS), s.e ≠ 0 → (conR fin n s).2 = s
  | 0, s, h => failF_err h
  | n + 1, s, h => by unfold conR; rw [if_pos h]

/-! ### The signs of a number, of a contract -/
def toksO : Ob → List (List UInt8)
  | .none => []
  | .const n => [Lib.itoa n]
  | .fix s => [102, 105, 120] :: [40] :: s :: [[41]]
  | .neg o => [110, 101, 103] :: [40] :: (toksO o ++ [[41]])
  | .add l r => [97, 100, 100] :: [40] :: (toksO l ++ ([44] :: (toksO r ++ [[41]])))
  | .mul l r => [109, 117, 108] :: [40] :: (toksO l ++ ([44] :: (toksO r ++ [[41]])))
  | .max l r => [109, 97, 120] :: [40] :: (toksO l ++ ([44] :: (toksO r ++ [[41]])))
def toksT : Tm → List (List UInt8)
  | .none => []
  | .zero => [[122, 101, 114, 111]]
  | .one s => [111, 110, 101] :: [40] :: s :: [[41]]
  | .give t => [103, 105, 118, 101] :: [40] :: (toksT t ++ [[41]])
  | .and l r => [97, 110, 100] :: [40] :: (toksT l ++ ([44] :: (toksT r ++ [[41]])))
  | .or s l r => [111, 114] :: [40] :: s :: [44] :: (toksT l ++ ([44] :: (toksT r ++ [[41]])))
  | .scale o t => [115, 99, 97, 108, 101] :: [40] :: (toksO o ++ ([44] :: (toksT t ++ [[41]])))
  | .when d t => [119, 104, 101, 110] :: [40] :: Lib.itoa d :: [44] :: (toksT t ++ [[41]])
  | .cond o l r => [105, 102] :: [40] :: (toksO o ++ ([44] :: (toksT l ++ ([44] :: (toksT r ++ [[41]])))))

/-- No word of a number is one of digits. -/
theorem word_cases {x : List UInt8} (h : wordF' x = true) : x = [102, 105, 120] ∨ x = [97, 100, 100] ∨ x = [110, 101, 103] ∨ x = [109, 117, 108] ∨ x = [109, 97, 120] ∨ (numF x).2 = true := by
  unfold wordF' at h
  simp only [Bool.or_eq_true, beq_iff_eq] at h
  rcases h with h | h | h | h | h | h <;> simp [h]
theorem begins_cases {x : List UInt8} (h : beginsF x = true) : x = [122, 101, 114, 111] ∨ x = [111, 110, 101] ∨ x = [103, 105, 118, 101] ∨ x = [97, 110, 100] ∨ x = [111, 114] ∨ x = [115, 99, 97, 108, 101] ∨ x = [119, 104, 101, 110] ∨ x = [105, 102] := by
  unfold beginsF at h
  simpa only [Bool.or_eq_true, beq_iff_eq] using h

theorem day_cases {x : List UInt8} (h : dayF x = true) : (numF x).2 = true ∧ 0 ≤ (numF x).1 ∧ (numF x).1 ≤ 10000 := by
  unfold dayF at h
  simpa only [Bool.and_eq_true, decide_eq_true_eq] using h

/-! ### What was read is what stood there -/
def GoodO (n : Nat) (rec : RS → Ob × RS) : Prop := ∀ s, (rec s).2.e = 0 → Ate s (toksO (rec s).1) (rec s).2 ∧ formO (rec s).1 = true ∧ depthO (rec s).1 ≤ n
def GoodT (n : Nat) (rec : RS → Tm × RS) : Prop := ∀ s, (rec s).2.e = 0 → Ate s (toksT (rec s).1) (rec s).2 ∧ formT (rec s).1 = true ∧ depthT (rec s).1 ≤ n

theorem pair_inv {fin : Int} {n : Nat} {rec : RS → Ob × RS} (hr : GoodO n rec) {s : RS} (h : (pairF fin rec s).2.2.e = 0) :
    Ate s ([40] :: (toksO (pairF fin rec s).1 ++ ([44] :: (toksO (pairF fin rec s).2.1 ++ [[41]])))) (pairF fin rec s).2.2 ∧ (formO (pairF fin rec s).1 = true ∧ depthO (pairF fin rec s).1 ≤ n) ∧ formO (pairF fin rec s).2.1 = true ∧ depthO (pairF fin rec s).2.1 ≤ n := by
  unfold pairF at h ⊢
  dsimp only at h ⊢
  have h5 := must_inv h
  have h4 := hr _ h5.e
  have h3 := must_inv h4.1.e
  have h2 := hr _ h3.e
  have h1 := must_inv h2.1.e
  have := h1.trans (h2.1.trans (h3.trans (h4.1.trans h5)))
  exact ⟨by simpa using this, h2.2, h4.2⟩

theorem numR_inv (fin : Int) : ∀ n, GoodO n (numR fin n)
  | 0, s, h => by
    exfalso
    by_cases he : s.e = 0
    · have : (numR fin 0 s).2.e = 5 := by show (failF fin 5 s).e = 5; unfold failF; rw [if_pos he]
      rw [this] at h; exact absurd h (by decide)
    · rw [numR_err fin 0 s he] at h; exact he h
  | n + 1, s, h => by
    have ih := numR_inv fin n
    have he : s.e = 0 := by
      refine Classical.byContradiction fun he => ?_
      rw [numR_err fin (n + 1) s he] at h; exact he h
    unfold numR at h ⊢
    rw [if_neg (by simpa using he)] at h ⊢
    by_cases hnil : (takeF fin wordF' s).1 = []
    · rw [if_pos hnil] at h
      have := (take_inv h).2
      rw [hnil] at this
      exact absurd this (by decide +kernel)
    rw [if_neg hnil] at h ⊢
    have step : ∀ {o : Ob} {u : List (List UInt8)} {s' : RS}, Ate (takeF fin wordF' s).2 u s' → Ate s ((takeF fin wordF' s).1 :: u) s' ∧ wordF' (takeF fin wordF' s).1 = true := fun ha => by
      have t := take_inv (fin := fin) (right := wordF') (s := s) ha.e
      exact ⟨t.1.trans ha, t.2⟩
    generalize hx : (takeF fin wordF' s).1 = x at h hnil step ⊢
    generalize hs1 : (takeF fin wordF' s).2 = s1 at h step ⊢
    unfold numK at h ⊢
    by_cases c1 : x = [102, 105, 120]
    · rw [if_pos c1] at h ⊢
      dsimp only at h ⊢
      have h3 := must_inv h
      have h2 := take_inv h3.e
      have h1 := must_inv h2.1.e
      have := h1.trans (h2.1.trans h3)
      refine ⟨by have := (step (o := .none) this).1; rw [c1] at this; simpa [toksO] using this, h2.2, by unfold depthO; omega⟩
    rw [if_neg c1] at h ⊢
    by_cases c2 : x = [110, 101, 103]
    · rw [if_pos c2] at h ⊢
      dsimp only at h ⊢
      have h3 := must_inv h
      have h2 := ih _ h3.e
      have h1 := must_inv h2.1.e
      have := h1.trans (h2.1.trans h3)
      refine ⟨by have := (step (o := .none) this).1; rw [c2] at this; simpa [toksO] using this, h2.2.1, by unfold depthO; have := h2.2.2; omega⟩
    rw [if_neg c2] at h ⊢
    by_cases c3 : x = [97, 100, 100]
    · rw [if_pos c3] at h ⊢
      dsimp only at h ⊢
      have hp := pair_inv ih h
      refine ⟨by have := (step (o := .none) hp.1).1; rw [c3] at this; exact this, by unfold formO; rw [hp.2.1.1, hp.2.2.1]; rfl, by unfold depthO; have := hp.2.1.2; have := hp.2.2.2; omega⟩
    rw [if_neg c3] at h ⊢
    by_cases c4 : x = [109, 117, 108]
    · rw [if_pos c4] at h ⊢
      dsimp only at h ⊢
      have hp := pair_inv ih h
      refine ⟨by have := (step (o := .none) hp.1).1; rw [c4] at this; exact this, by unfold formO; rw [hp.2.1.1, hp.2.2.1]; rfl, by unfold depthO; have := hp.2.1.2; have := hp.2.2.2; omega⟩
    rw [if_neg c4] at h ⊢
    by_cases c5 : x = [109, 97, 120]
    · rw [if_pos c5] at h ⊢
      dsimp only at h ⊢
      have hp := pair_inv ih h
      refine ⟨by have := (step (o := .none) hp.1).1; rw [c5] at this; exact this, by unfold formO; rw [hp.2.1.1, hp.2.2.1]; rfl, by unfold depthO; have := hp.2.1.2; have := hp.2.2.2; omega⟩
    rw [if_neg c5] at h ⊢
    dsimp only at h ⊢
    have h1 := step (o := .none) (u := []) (s' := s1) ⟨h, h, rfl, [], rfl, rfl⟩
    rcases word_cases h1.2 with t | t | t | t | t | t
    · exact absurd t c1
    · exact absurd t c3
    · exact absurd t c2
    · exact absurd t c4
    · exact absurd t c5
    · have hi := numF_inv t
      refine ⟨?_, ?_, by unfold depthO; omega⟩
      · unfold toksO
        rw [← hi.1]; exact h1.1
      · unfold formO validF
        rw [decide_eq_true hi.2.1, decide_eq_true hi.2.2]; rfl

theorem one_inv {fin : Int} {n : Nat} {rec : RS → Tm × RS} (hr : GoodT n rec) {s : RS} (h : (oneF fin rec s).2.e = 0) :
    Ate s (toksT (oneF fin rec s).1 ++ [[41]]) (oneF fin rec s).2 ∧ formT (oneF fin rec s).1 = true ∧ depthT (oneF fin rec s).1 ≤ n := by
  unfold oneF at h ⊢
  dsimp only at h ⊢
  have h5 := must_inv h
  have h4 := hr _ h5.e
  exact ⟨h4.1.trans h5, h4.2⟩
theorem both_inv {fin : Int} {n : Nat} {rec : RS → Tm × RS} (hr : GoodT n rec) {s : RS} (h : (bothF fin rec s).2.2.e = 0) :
    Ate s (toksT (bothF fin rec s).1 ++ ([44] :: (toksT (bothF fin rec s).2.1 ++ [[41]]))) (bothF fin rec s).2.2 ∧ (formT (bothF fin rec s).1 = true ∧ depthT (bothF fin rec s).1 ≤ n) ∧ formT (bothF fin rec s).2.1 = true ∧ depthT (bothF fin rec s).2.1 ≤ n := by
  unfold bothF at h ⊢
  dsimp only at h ⊢
  have h5 := must_inv h
  have h4 := hr _ h5.e
  have h3 := must_inv h4.1.e
  have h2 := hr _ h3.e
  have := h2.1.trans (h3.trans (h4.1.trans h5))
  exact ⟨by simpa using this, h2.2, h4.2⟩

theorem conR_inv (fin : Int) : ∀ n, GoodT n (conR fin n)
  | 0, s, h => by
    exfalso
    by_cases he : s.e = 0
    · have : (conR fin 0 s).2.e = 5 := by show (failF fin 5 s).e = 5; unfold failF; rw [if_pos he]
      rw [this] at h; exact absurd h (by decide)
    · rw [conR_err fin 0 s he] at h; exact he h
  | n + 1, s, h => by
    have ih := conR_inv fin n
    have ihO := numR_inv fin n
    have he : s.e = 0 := by
      refine Classical.byContradiction fun he => ?_
      rw [conR_err fin (n + 1) s he] at h; exact he h
    unfold conR at h ⊢
    rw [if_neg (by simpa using he)] at h ⊢
    by_cases hnil : (takeF fin beginsF s).1 = []
    · rw [if_pos hnil] at h
      have := (take_inv h).2
      rw [hnil] at this
      exact absurd this (by decide +kernel)
    rw [if_neg hnil] at h ⊢
    have step : ∀ {u : List (List UInt8)} {s' : RS}, Ate (takeF fin beginsF s).2 u s' → Ate s ((takeF fin beginsF s).1 :: u) s' ∧ beginsF (takeF fin beginsF s).1 = true := fun ha => by
      have t := take_inv (fin := fin) (right := beginsF) (s := s) ha.e
      exact ⟨t.1.trans ha, t.2⟩
    generalize hx : (takeF fin beginsF s).1 = x at h hnil step ⊢
    generalize hs1 : (takeF fin beginsF s).2 = s1 at h step ⊢
    by_cases c0 : x = [122, 101, 114, 111]
    · rw [if_pos c0] at h ⊢
      dsimp only at h ⊢
      refine ⟨by have := (step (u := []) (s' := s1) ⟨h, h, rfl, [], rfl, rfl⟩).1; rw [c0] at this; exact this, rfl, by unfold depthT; omega⟩
    rw [if_neg c0] at h ⊢
    have step2 : ∀ {u : List (List UInt8)} {s' : RS}, Ate (mustF fin [40] s1) u s' → Ate s (x :: [40] :: u) s' ∧ beginsF x = true := fun ha => step ((must_inv ha.e).trans ha)
    generalize hs2 : mustF fin [40] s1 = s2 at h step2 ⊢
    unfold conK at h ⊢
    by_cases c1 : x = [111, 110, 101]
    · rw [if_pos c1] at h ⊢
      dsimp only at h ⊢
      have h3 := must_inv h
      have h2 := take_inv h3.e
      refine ⟨by have := (step2 (h2.1.trans h3)).1; rw [c1] at this; simpa [toksT] using this, h2.2, by unfold depthT; omega⟩
    rw [if_neg c1] at h ⊢
    by_cases c2 : x = [103, 105, 118, 101]
    · rw [if_pos c2] at h ⊢
      dsimp only at h ⊢
      have hp := one_inv ih h
      refine ⟨by have := (step2 hp.1).1; rw [c2] at this; exact this, hp.2.1, by unfold depthT; have := hp.2.2; omega⟩
    rw [if_neg c2] at h ⊢
    by_cases c3 : x = [97, 110, 100]
    · rw [if_pos c3] at h ⊢
      dsimp only at h ⊢
      have hp := both_inv ih h
      refine ⟨by have := (step2 hp.1).1; rw [c3] at this; exact this, by unfold formT; rw [hp.2.1.1, hp.2.2.1]; rfl, by unfold depthT; have := hp.2.1.2; have := hp.2.2.2; omega⟩
    rw [if_neg c3] at h ⊢
    by_cases c4 : x = [111, 114]
    · rw [if_pos c4] at h ⊢
      dsimp only at h ⊢
      have hp := both_inv ih h
      have h2 := must_inv hp.1.e
      have h1 := take_inv h2.e
      refine ⟨by have := (step2 (h1.1.trans (h2.trans hp.1))).1; rw [c4] at this; simpa [toksT] using this, by unfold formT; rw [hp.2.1.1, hp.2.2.1, h1.2]; rfl, by unfold depthT; have := hp.2.1.2; have := hp.2.2.2; omega⟩
    rw [if_neg c4] at h ⊢
    by_cases c5 : x = [115, 99, 97, 108, 101]
    · rw [if_pos c5] at h ⊢
      dsimp only at h ⊢
      have hp := one_inv ih h
      have h2 := must_inv hp.1.e
      have h1 := ihO _ h2.e
      refine ⟨by have := (step2 (h1.1.trans (h2.trans hp.1))).1; rw [c5] at this; simpa [toksT] using this, by unfold formT; rw [hp.2.1, h1.2.1]; rfl, by unfold depthT; have := hp.2.2; have := h1.2.2; omega⟩
    rw [if_neg c5] at h ⊢
    by_cases c6 : x = [119, 104, 101, 110]
    · rw [if_pos c6] at h ⊢
      dsimp only at h ⊢
      have hp := one_inv ih h
      have h2 := must_inv hp.1.e
      have h1 := take_inv h2.e
      have hd := day_cases h1.2
      have hi := numF_inv hd.1
      refine ⟨?_, by unfold formT; rw [hp.2.1, decide_eq_true hd.2.1, decide_eq_true hd.2.2]; rfl, by unfold depthT; have := hp.2.2; omega⟩
      have := (step2 (h1.1.trans (h2.trans hp.1))).1
      rw [c6] at this
      unfold toksT
      rw [← hi.1]
      simpa using this
    rw [if_neg c6] at h ⊢
    dsimp only at h ⊢
    have hp := both_inv ih h
    have h2 := must_inv hp.1.e
    have h1 := ihO _ h2.e
    have h0 := step2 (h1.1.trans (h2.trans hp.1))
    have c7 : x = [105, 102] := by
      rcases begins_cases h0.2 with t | t | t | t | t | t | t | t
      · exact absurd t c0
      · exact absurd t c1
      · exact absurd t c2
      · exact absurd t c3
      · exact absurd t c4
      · exact absurd t c5
      · exact absurd t c6
      · exact t
    refine ⟨by have := h0.1; rw [c7] at this; simpa [toksT] using this, by unfold formT; rw [hp.2.1.1, hp.2.2.1, h1.2.1]; rfl, by unfold depthT; have := hp.2.1.2; have := hp.2.2.2; have := h1.2.2; omega⟩

/-! ### What stands there is read -/

end Go.Proofs.YtdphmcanlhcokaaGreatDoor

/-! ### LexF -/
set_option linter.unusedVariables false
set_option maxRecDepth 100000
namespace Go.Proofs.YtdphmcanlhcokaaGreatDoor
open Vc

/-! ### Bytes and runes -/

/-! ### Words and signs, one behind the other -/

theorem doneF_ok {fin : Int} {s : RS} (h : (doneF fin s).e = 0) : s.e = 0 ∧ s.l = [] ∧ doneF fin s = s := by
  unfold doneF at h ⊢
  cases hl : s.l with
  | nil => rw [hl] at h; exact ⟨h, rfl, rfl⟩
  | cons x l =>
    rw [hl] at h
    dsimp only at h
    unfold failF at h
    split at h
    · exact absurd (show (2 : Int) = 0 from h) (by decide)
    · contradiction

/-! ### How long it is -/
def lenS (l : List (List UInt8)) : Nat := l.flatten.length
theorem lenS_app (a b : List (List UInt8)) : lenS (a ++ b) = lenS a + lenS b := by unfold lenS; rw [List.flatten_append, List.length_append]
theorem lenS_add (l : List SignV) (x : List UInt8) : lenS ((addLast l x).map Prod.fst) = lenS (l.map Prod.fst) + x.length := by
  by_cases h : l = []
  · subst h; unfold addLast lenS; simp
  · obtain ⟨a, y, rfl⟩ := last_split l h
    rw [addLast_of, List.map_append, List.map_append, lenS_app, lenS_app]
    simp [lenS]; omega
theorem sgF_lenS : ∀ (R : List Int) (W : List SignV) (at_ : Int) (run : Bool), lenS ((sgF W at_ run R).1.map Prod.fst) ≤ lenS (W.map Prod.fst) + (txt R).length
  | [], W, at_, run => by show lenS (W.map Prod.fst) ≤ _; omega
  | r :: R, W, at_, run => by
    unfold sgF
    rw [txt_cons, List.length_append]
    split
    · simp [lenS]
    split
    · have := sgF_lenS R (addLast W (enc r)) (at_ + 1) true
      rw [lenS_add] at this; omega
    split
    · have := sgF_lenS R (W ++ [(enc r, at_ + 1)]) (at_ + 1) (kd r == 97)
      rw [List.map_append, lenS_app] at this
      have e : lenS ([(enc r, at_ + 1)].map Prod.fst) = (enc r).length := by simp [lenS]
      omega
    · have := sgF_lenS R W (at_ + 1) false
      omega

theorem beginF_ok {bs : List UInt8} (h : (beginF bs).e = 0) : bs.length ≤ 1000 ∧ ¬ 0 < (sgF [] 0 false (runesL bs)).2 ∧ beginF bs = ⟨(sgF [] 0 false (runesL bs)).1, 0, 0⟩ := by
  unfold beginF at h ⊢
  split at h
  · exact absurd (show (5 : Int) = 0 from h) (by decide)
  split at h
  · exact absurd (show (2 : Int) = 0 from h) (by decide)
  rename_i h1 h2
  exact ⟨by omega, h2, by rw [if_neg h1, if_neg h2]⟩

/-! ### Blanks between signs -/

end Go.Proofs.YtdphmcanlhcokaaGreatDoor

/-! ### TakeF -/
set_option linter.unusedVariables false
set_option maxRecDepth 100000
namespace Go.Proofs.YtdphmcanlhcokaaGreatDoor
open Vc

/-- An event, its contract as a tree. -/
abbrev EvM := Int × List UInt8 × List UInt8 × List UInt8 × List UInt8 × Int × Int × Tm
def EvM.e (m : EvM) : EvT := (m.1, str m.2.1, str m.2.2.1, str m.2.2.2.1, str m.2.2.2.2.1, m.2.2.2.2.2.1, m.2.2.2.2.2.2.1, m.2.2.2.2.2.2.2.v, ())
def EvM.t (m : EvM) : Tm := m.2.2.2.2.2.2.2
def zeroM : EvM := (0, [], [], [], [], 0, 0, .none)
def packM (m : EvM) : List UInt8 × Int := packF m.e (writeT m.t).1 (writeT m.t).2

/-- What is left of the bytes, and whether there were too few. -/
abbrev TkS := List UInt8 × Bool
def tkF (z : Bool) (n : Nat) (s : TkS) : List UInt8 × TkS := if s.2 = true ∨ s.1.length < n then (if z = true then List.replicate n 0 else [], (s.1, true)) else (s.1.take n, (s.1.drop n, false))
def txF (z : Bool) (size : Nat) (s : TkS) : List UInt8 × TkS := tkF z (big (tkF z size s).1) (tkF z size s).2
def nuF (z : Bool) (s : TkS) : Int × TkS := ((takeL (tkF z 8 s).1).1, ((tkF z 8 s).2.1, (tkF z 8 s).2.2 || (!z && !(takeL (tkF z 8 s).1).2)))
def teF (z : Bool) (s : TkS) : Tm × TkS := ((readT (txF z 2 s).1).1, ((txF z 2 s).2.1, (txF z 2 s).2.2 || (!z && ((readT (txF z 2 s).1).2.2 != 0))))
def evStep (z : Bool) (x : TkS × EvM) (c : UInt8) : TkS × EvM :=
  if c = 68 then ((nuF z x.1).2, (x.2.1, x.2.2.1, x.2.2.2.1, x.2.2.2.2.1, x.2.2.2.2.2.1, (nuF z x.1).1, x.2.2.2.2.2.2.2.1, x.2.2.2.2.2.2.2.2))
  else if c = 86 then ((nuF z x.1).2, (x.2.1, x.2.2.1, x.2.2.2.1, x.2.2.2.2.1, x.2.2.2.2.2.1, x.2.2.2.2.2.2.1, (nuF z x.1).1, x.2.2.2.2.2.2.2.2))
  else if c = 84 then ((teF z x.1).2, (x.2.1, x.2.2.1, x.2.2.2.1, x.2.2.2.2.1, x.2.2.2.2.2.1, x.2.2.2.2.2.2.1, x.2.2.2.2.2.2.2.1, (teF z x.1).1))
  else if c = 73 then ((txF z 1 x.1).2, (x.2.1, (txF z 1 x.1).1, x.2.2.2.1, x.2.2.2.2.1, x.2.2.2.2.2.1, x.2.2.2.2.2.2.1, x.2.2.2.2.2.2.2.1, x.2.2.2.2.2.2.2.2))
  else if c = 78 then ((txF z 1 x.1).2, (x.2.1, x.2.2.1, (txF z 1 x.1).1, x.2.2.2.2.1, x.2.2.2.2.2.1, x.2.2.2.2.2.2.1, x.2.2.2.2.2.2.2.1, x.2.2.2.2.2.2.2.2))
  else if c = 76 then ((txF z 1 x.1).2, (x.2.1, x.2.2.1, x.2.2.2.1, (txF z 1 x.1).1, x.2.2.2.2.2.1, x.2.2.2.2.2.2.1, x.2.2.2.2.2.2.2.1, x.2.2.2.2.2.2.2.2))
  else ((txF z 1 x.1).2, (x.2.1, x.2.2.1, x.2.2.2.1, x.2.2.2.2.1, (txF z 1 x.1).1, x.2.2.2.2.2.2.1, x.2.2.2.2.2.2.2.1, x.2.2.2.2.2.2.2.2))
def takeM (z : Bool) (bs : List UInt8) : TkS × EvM :=
  (fieldL (big (tkF z 1 (bs, false)).1 : Int)).foldl (evStep z) ((tkF z 1 (bs, false)).2, ((big (tkF z 1 (bs, false)).1 : Int), [], [], [], [], 0, 0, .none))
def takeOk (z : Bool) (bs : List UInt8) : Bool := !(takeM z bs).1.2 && ((packM (takeM z bs).2).2 == 0 && ((packM (takeM z bs).2).1 == bs && (!z || (takeM z bs).1.1 == [])))
/-- The event of bytes, or that they are none. -/
def takeP (z : Bool) (bs : List UInt8) : EvM × Int := if takeOk z bs = true then ((takeM z bs).2, 0) else (zeroM, 2)

/-! ### What was packed is taken -/
theorem write_short (t : Tm) : (writeT t).1.length ≤ 1000 := by
  unfold writeT
  split
  · simp
  split
  · simp
  · dsimp only; omega

theorem check_zero {e : EvT} {tr : Int} (h : checkF e tr = 0) : fieldsF e.1 ≠ [63] ∧ onlyF e = true ∧ namedF e = true ∧ 0 ≤ e.2.2.2.2.2.1 ∧ e.2.2.2.2.2.1 ≤ 10000 ∧ validF e.2.2.2.2.2.2.1 = true ∧ (e.1 = 2 → tr = 0) := by
  unfold checkF at h
  by_cases c0 : fieldsF e.1 = [63]
  · rw [if_pos c0] at h; cases h
  rw [if_neg c0] at h
  by_cases c1 : onlyF e = false
  · rw [if_pos c1] at h; cases h
  rw [if_neg c1] at h
  by_cases c2 : namedF e = false
  · rw [if_pos c2] at h; cases h
  rw [if_neg c2] at h
  by_cases c3 : e.2.2.2.2.2.1 < 0
  · rw [if_pos c3] at h; cases h
  rw [if_neg c3] at h
  by_cases c4 : e.2.2.2.2.2.1 > 10000
  · rw [if_pos c4] at h; cases h
  rw [if_neg c4] at h
  by_cases c5 : validF e.2.2.2.2.2.2.1 = false
  · rw [if_pos c5] at h; cases h
  rw [if_neg c5] at h
  by_cases c6 : e.1 = 4 ∧ e.2.2.2.2.2.2.1 ≠ 0 ∧ e.2.2.2.2.2.2.1 ≠ 1
  · rw [if_pos c6] at h; cases h
  rw [if_neg c6] at h
  refine ⟨c0, by simpa using c1, by simpa using c2, by omega, by omega, by simpa using c5, fun k => ?_⟩
  rw [if_pos k] at h; exact h

theorem kinds_of {k : Int} (h : fieldsF k ≠ [63]) : k = 1 ∨ k = 2 ∨ k = 3 ∨ k = 4 ∨ k = 5 ∨ k = 6 := by
  unfold fieldsF at h
  repeat' split at h
  all_goals first | omega | exact (h rfl).elim

theorem empty_str (s : List UInt8) : emptyB (str s) = decide (s = []) := by
  have e0 : (⟨#[]⟩ : ByteArray) = str [] := rfl
  unfold emptyB; rw [e0, str_beq]

end Go.Proofs.YtdphmcanlhcokaaGreatDoor

/-! ### PackSpec2 -/
set_option linter.unusedVariables false
set_option maxRecDepth 100000
namespace Go.Proofs.YtdphmcanlhcokaaGreatDoor
open Vc

namespace Vc
end Vc

/-- Bytes as a text. -/
theorem txt_of {w : World} {v : Sl} {bs : List UInt8} (h : RdB w v bs) : (convert 22 9 (.slice v.1 v.2.1 v.2.2)).run Tryz.prog w = .ok (.string (str bs)) w := by
  show _ = Result.ok (Value.string ⟨bs.toArray⟩) w
  rw [run_convert_bytes_string w _ _ 5 v.1 v.2.1 v.2.2 Tryz.underlying22 Tryz.underlying5 Tryz.underlying9]
  have hl := h.len
  obtain ⟨h1, h2, h3⟩ := h
  cases hv : v.1 with
  | none =>
    have : bs = [] := by have := (h2 hv).2.2; simpa using this
    subst this
    rfl
  | some a =>
    have hc := h3 a hv
    have hload : (loadCells a v.2.1).run Tryz.prog w = .ok ((bs.map fun b => (b.toNat : Int)).map (Value.int .u8)).toArray w := by
      have := loadCells_ok (P := Tryz.prog) (bs.map bc) hc
      rw [List.length_map, ← hl] at this
      rw [this]
      congr 1
      rw [List.map_map]
      rfl
    rw [run_bytesToString w a v.2.1 v.2.2 _ hload, foldl_push_bytes]
    have e : ((bs.map fun b => (b.toNat : Int)).map fun n => UInt8.ofNat n.toNat) = bs := by
      rw [List.map_map]
      conv => rhs; rw [← List.map_id bs]
      refine List.map_congr_left fun b _ => ?_
      simp
    rw [e]
    congr 2
    simp

theorem packF_len (e : EvT) (hz : smallE e) (ts : List UInt8) (hts : ts.length ≤ 1000000) (tr : Int) : (packF e ts tr).1.length ≤ 10000000 := by
  unfold packF
  split
  · simp
  have hl7 : (fieldL e.1).length ≤ 7 := by unfold fieldL; exact Nat.le_trans (List.length_filter_le _ _) (by decide)
  have hbound : ∀ l : List UInt8, (l.flatMap (fieldB e ts)).length ≤ l.length * 1000010 := by
    intro l
    induction l with
    | nil => simp
    | cons a l ih => rw [List.flatMap_cons, List.length_append, List.length_cons]; have := fieldB_len e hz ts hts a; omega
  have := hbound (fieldL e.1)
  simp only [List.length_cons]
  omega

end Go.Proofs.YtdphmcanlhcokaaGreatDoor

/-! ### VcNest -/
namespace Go.Proofs.YtdphmcanlhcokaaGreatDoor
namespace Vc
open Go.ChangeShapes Go.WideShapes
variable {P : Program}

def IsNest (k : IntKind) (w : World) (a : Option Addr) (len cap : Nat) (us : List (Sl × List Int)) : Prop :=
  (a = none ∧ len = 0 ∧ cap = 0 ∧ us = []) ∨
  ∃ x, a = some x ∧ len ≤ cap ∧ cap ≤ maxLen ∧ us.length = len ∧ ∀ i u, us[i]? = some u → w.cell? (x.add i) = some (.slice u.1.1 u.1.2.1 u.1.2.2) ∧ IsInts k w u.1.1 u.1.2.1 u.1.2.2 u.2

theorem list_of {α : Type} {Q : Nat → α → Prop} : ∀ (n : Nat), (∀ i, i < n → ∃ u, Q i u) → ∃ us : List α, us.length = n ∧ ∀ i u, us[i]? = some u → Q i u
  | 0, _ => ⟨[], rfl, fun i u h => by simp at h⟩
  | n + 1, h => by
    obtain ⟨us, hl, hu⟩ := list_of n (fun i hi => h i (by omega))
    obtain ⟨u, hq⟩ := h n (by omega)
    refine ⟨us ++ [u], by simp [hl], fun i x hx => ?_⟩
    by_cases hi : i < us.length
    · rw [List.getElem?_append_left hi] at hx; exact hu i x hx
    · rw [List.getElem?_append_right (by omega)] at hx
      have : i = n := by
        have := (List.getElem?_eq_some_iff.1 hx).1
        simp at this; omega
      subst this
      rw [← hl, Nat.sub_self] at hx
      simp at hx
      subst hx; exact hq

theorem open_nest {H : Type} {enc : TypeId × Value → H} {w : World} {base : Nat} {held : Bool} {t e ee : TypeId} {k : IntKind} {fuel : Nat} {cs : List Value} {x : DataW H × List MemPlace}
    (ht : P.underlying t = some (.slice e)) (he : P.underlying e = some (.slice ee)) (hee : P.underlying ee = some (.int k)) (hc : P.cellsOf e = 1) (hc2 : P.cellsOf ee = 1)
    (h : DataW.trod enc P w base (fun _ => true) held fuel t cs = some x) : ∃ a len cap us, cs = [.slice a len cap] ∧ IsNest k w a len cap us := by
  rcases DataW.trod_slice ht h with ⟨h0, _⟩ | ⟨a, len, cap, elems, rest, n, _, hcs, _, hb, hl, hm, hlen, hel, _, _⟩
  · exact ⟨none, 0, 0, [], h0, .inl ⟨rfl, rfl, rfl, rfl⟩⟩
  obtain ⟨us, ul, hu⟩ := list_of (α := Sl × List Int) (Q := fun i u => w.cell? (a.add i) = some (.slice u.1.1 u.1.2.1 u.1.2.2) ∧ IsInts k w u.1.1 u.1.2.1 u.1.2.2 u.2) len fun i hi => by
    have hb' := hel i hi
    rw [List.getElem?_eq_getElem (by omega), hc, Nat.mul_one, Option.bind_eq_some_iff] at hb'
    obtain ⟨cs', hcs', hy'⟩ := hb'
    rcases open_ints he hee hc2 hy' with ⟨rfl, _⟩ | ⟨y, l, c, zs, rfl, _, hl', hm', hz', _, hcell, hwz⟩
    · exact ⟨((none, 0, 0), []), cell_of_cells?_one hcs', .inl ⟨rfl, rfl, rfl, rfl⟩⟩
    · exact ⟨((some y, l, c), zs), cell_of_cells?_one hcs', .inr ⟨y, rfl, hl', hm', by simpa using hz', hcell, hwz⟩⟩
  exact ⟨some a, len, cap, us, hcs, .inr ⟨a, rfl, hl, hm, ul, hu⟩⟩

theorem add_add (a : Addr) (m n : Nat) : (a.add m).add n = a.add (m + n) := by
  unfold Addr.add
  by_cases hm : m = 0
  · subst hm; simp
  · by_cases hn : n = 0
    · subst hn; simp [hm]
    · simp [hm, hn, Nat.add_assoc]

theorem cellsAt_shift {w : World} {a : Addr} {m : Nat} : ∀ (vs : List Value) (i : Nat), CellsAt w a (m + i) vs → CellsAt w (a.add m) i vs
  | [], _, _ => trivial
  | v :: vs, i, ⟨h1, h2⟩ => ⟨by rw [add_add]; exact h1, cellsAt_shift vs (i + 1) h2⟩
theorem cellsAt_drop {w : World} {a : Addr} : ∀ (m : Nat) (vs : List Value) (i : Nat), CellsAt w a i vs → CellsAt w a (i + m) (vs.drop m)
  | 0, vs, i, h => h
  | m + 1, [], i, _ => trivial
  | m + 1, v :: vs, i, ⟨_, h2⟩ => by
    have := cellsAt_drop m vs (i + 1) h2
    rw [show i + 1 + m = i + (m + 1) by omega] at this
    exact this

/-- A part of a slice. -/
theorem RdSl.mid {w : World} {v : Sl} {xs : List Value} (h : RdSl w 1 v xs) {lo hi : Int} (h0 : 0 ≤ lo) (h1 : lo ≤ hi) (h2 : hi ≤ v.2.1) (hc : v.2.1 ≤ v.2.2) {K : Option Addr → Nat → Nat → Prop}
    (k : ∀ u : Sl, RdSl w 1 u ((xs.drop lo.toNat).take (hi - lo).toNat) → u.2.1 ≤ u.2.2 → u.2.1 = (hi - lo).toNat → (∀ k, blkOf u k → blkOf v k) → K u.1 u.2.1 u.2.2) : SubK v.1 v.2.2 lo hi v.2.2 1 K := by
  refine ⟨h0, h1, by omega, by omega, ?_⟩
  obtain ⟨a, b, c⟩ := h
  obtain ⟨B, hB⟩ : ∃ B : Option Addr, (if (v.2.2 : Int) = lo then v.1 else v.1.map (·.add (lo.toNat * 1))) = B := ⟨_, rfl⟩
  obtain ⟨n, hn⟩ : ∃ n : Nat, (hi - lo).toNat = n := ⟨_, rfl⟩
  obtain ⟨m, hm⟩ : ∃ m : Nat, ((v.2.2 : Int) - lo).toNat = m := ⟨_, rfl⟩
  rw [hn] at k
  rw [hB, hn, hm]
  refine k (B, n, m) ⟨?_, fun hN => ?_, fun y hy => ?_⟩ (by dsimp only; omega) rfl ?_
  · dsimp only
    simp only [List.length_take, List.length_drop]
    omega
  · dsimp only at hN ⊢
    have hv : v.1 = none := by
      rw [hN] at hB
      split at hB
      · exact hB
      · cases hv : v.1 with
        | none => rfl
        | some x => rw [hv] at hB; cases hB
    obtain ⟨e1, e2, e3⟩ := b hv
    subst e3
    exact ⟨by omega, by omega, by simp⟩
  · dsimp only at hy
    rw [hy] at hB
    split at hB
    · rename_i he
      have : n = 0 := by omega
      rw [this, List.take_zero]
      exact trivial
    · cases hv : v.1 with
      | none => rw [hv] at hB; cases hB
      | some x =>
        rw [hv] at hB
        injection hB with hB
        subst hB
        rw [Nat.mul_one]
        refine cellsAt_take _ _ _ (cellsAt_shift _ 0 ?_)
        have := cellsAt_drop lo.toNat xs 0 (c x hv)
        rw [Nat.zero_add] at this
        exact this
  · rintro j ⟨y, hy, hj⟩
    dsimp only at hy
    rw [hy] at hB
    split at hB
    · exact ⟨y, hB, hj⟩
    · cases hv : v.1 with
      | none => rw [hv] at hB; cases hB
      | some x =>
        rw [hv] at hB
        injection hB with hB
        refine ⟨x, hv, ?_⟩
        rw [hj, ← hB]
        unfold Addr.add
        split <;> rfl

end Vc
end Go.Proofs.YtdphmcanlhcokaaGreatDoor

/-! ### VcAggs -/
set_option linter.unusedVariables false
namespace Go.Proofs.YtdphmcanlhcokaaGreatDoor
namespace Vc
variable {P : Program}

theorem fold_set (off : Nat) : ∀ (l : List Value) (j : Nat) (cur : Array Value), off + j + l.length ≤ cur.size →
    ((l.zipIdx j).foldl (fun (cs : Array Value) (x : Value × Nat) => cs.setIfInBounds (off + x.2) x.1) cur).toList = cur.toList.take (off + j) ++ l ++ cur.toList.drop (off + j + l.length)
  | [], j, cur, _ => by simp
  | c :: l, j, cur, h => by
    simp only [List.length_cons] at h
    rw [List.zipIdx_cons, List.foldl_cons, fold_set off l (j + 1) _ (by simp; omega)]
    rw [Array.toList_setIfInBounds]
    have hlt : off + j < cur.toList.length := by simp; omega
    rw [show off + (j + 1) = off + j + 1 by omega, List.take_succ_eq_append_getElem (by rw [List.length_set]; exact hlt), List.take_set_of_le (Nat.le_refl _), List.getElem_set_self, List.drop_set_of_lt (by omega)]
    simp only [List.append_assoc, List.cons_append, List.nil_append, List.length_cons]
    congr 4
    omega

theorem fill_many (s n : Nat) : ∀ (vs : List (List Value)) (k : Nat) (cur : Array Value), (∀ l ∈ vs, l.length = s) → k + vs.length = n → cur.size = n * s →
    ∃ out, Instr.fill (fun i => some (i * s, s)) cur ((vs.zipIdx k).map fun (l, i) => (i, .agg l.toArray)) = some out ∧ out.toList = cur.toList.take (k * s) ++ vs.flatten
  | [], k, cur, _, hk, hc => by
    simp only [List.length_nil, Nat.add_zero] at hk
    subst hk
    exact ⟨cur, rfl, by rw [List.take_of_length_le (by simp [hc])]; simp⟩
  | l :: vs, k, cur, hl, hk, hc => by
    simp only [List.length_cons] at hk
    have hls := hl l (by simp)
    have hb : k * s + s ≤ n * s := by rw [← Nat.succ_mul]; exact Nat.mul_le_mul_right _ (by omega)
    have hcur : (l.toArray.zipIdx.foldl (fun cs (x : Value × Nat) => cs.setIfInBounds (k * s + x.2) x.1) cur).toList = cur.toList.take (k * s) ++ l ++ cur.toList.drop (k * s + l.length) := by
      rw [← Array.foldl_toList, Array.toList_zipIdx]
      have := fold_set (k * s) l 0 cur (by omega)
      simpa using this
    have hsz : (l.toArray.zipIdx.foldl (fun cs (x : Value × Nat) => cs.setIfInBounds (k * s + x.2) x.1) cur).size = n * s := by
      rw [← Array.length_toList, hcur]
      simp only [List.length_append, List.length_take, List.length_drop, Array.length_toList]
      omega
    obtain ⟨out, ho, hout⟩ := fill_many s n vs (k + 1) _ (fun x hx => hl x (by simp [hx])) (by omega) hsz
    refine ⟨out, ?_, ?_⟩
    · have hc1 : (Value.agg l.toArray).cells.size = s := by show l.toArray.size = s; simp [hls]
      simp only [List.zipIdx_cons, List.map_cons, Instr.fill]
      rw [if_neg (by simp [hc1]; omega)]
      exact ho
    · have hlen : (cur.toList.take (k * s) ++ l).length = (k + 1) * s := by
        rw [List.length_append, List.length_take, Array.length_toList, Nat.succ_mul]; omega
      rw [hout, hcur, List.take_left' hlen, List.flatten_cons, List.append_assoc]

/-- A slice literal of structs, all told in order. -/
theorem lits_ok {w : World} {t E s bytes : Nat} {z : Value} (he : ElemOk P t E s z bytes) (vs : List (List Value)) (hl : ∀ l ∈ vs, l.length = s) (hn : vs.length * s ≤ 2 ^ 24) :
    ∃ (v : Sl) (w' : World), (Instr.buildSlice t vs.length ((vs.zipIdx.map fun (l, i) => (i, Value.agg l.toArray)).toArray)).run P w = .ok (.slice v.1 v.2.1 v.2.2) w' ∧ IsSl w' E s v vs.flatten ∧ v.2.1 = vs.length ∧ Fr none1 w w' ∧ (∀ k, blkOf v k → w.heap.size ≤ k) := by
  obtain ⟨out, ho, hout⟩ := fill_many s vs.length vs 0 ((Array.range (vs.length * s)).map (z.cells[· % z.cells.size]!)) hl (by simp) (by simp)
  rw [Nat.zero_mul, List.take_zero, List.nil_append] at hout
  have hfl : ∀ vs : List (List Value), (∀ l ∈ vs, l.length = s) → vs.flatten.length = vs.length * s := by
    intro vs
    induction vs with
    | nil => intro _; simp
    | cons l vs ih =>
      intro h
      rw [List.flatten_cons, List.length_append, h l (by simp), ih (fun x hx => h x (by simp [hx])), List.length_cons, Nat.succ_mul]
      omega
  obtain ⟨v, w', a, b, c⟩ := buildSlice_ok (w := w) he vs.length ((vs.zipIdx.map fun (l, i) => (i, Value.agg l.toArray)).toArray) out hn (by simpa using ho) (by rw [← Array.length_toList, hout, hfl vs hl])
  rw [hout] at b
  exact ⟨v, w', a, b, c⟩

theorem flat_drop {α : Type} {s : Nat} : ∀ (vs : List (List α)) (i : Nat), (∀ l ∈ vs, l.length = s) → vs.flatten.drop (i * s) = (vs.drop i).flatten
  | vs, 0, _ => by simp
  | [], i + 1, _ => by simp
  | l :: vs, i + 1, h => by
    rw [List.flatten_cons, List.drop_succ_cons, Nat.succ_mul, Nat.add_comm, ← h l (by simp), ← List.drop_drop, List.drop_left, h l (by simp), flat_drop vs i fun x hx => h x (by simp [hx])]

/-- A struct read out of a slice of structs. -/
theorem RdSl.lds {w : World} {v : Sl} {vs : List (List Value)} {s : Nat} (h : RdSl w s v vs.flatten) (hs : ∀ l ∈ vs, l.length = s) {cks : List Ck} {x : Cs cks} {i : Nat} (hx : vs[i]? = some (Cs.vals cks x)) (hi : i < v.2.1) {K : Cs cks → Prop} (k : K x) {p : Addr} (hp : v.1 = some p) :
    LdsK cks (p.add (i * s)) w K := by
  obtain ⟨h1, h2, h3⟩ := h
  have hc := cellsAt_drop (i * s) _ 0 (h3 p hp)
  rw [Nat.zero_add, flat_drop vs i hs] at hc
  refine ⟨x, ?_, k⟩
  have hlen := hs _ (List.mem_of_getElem? hx)
  have hd : vs.drop i = Cs.vals cks x :: vs.drop (i + 1) := by
    obtain ⟨hlt, he⟩ := List.getElem?_eq_some_iff.1 hx
    rw [List.drop_eq_getElem_cons hlt, he]
  rw [hd, List.flatten_cons] at hc
  have ht := cellsAt_take _ _ s (cellsAt_shift (m := i * s) _ 0 hc)
  rw [← hlen, List.take_left] at ht
  rw [hlen] at ht
  exact ht

end Vc
end Go.Proofs.YtdphmcanlhcokaaGreatDoor

/-! ### CTreeG -/
namespace Go.Proofs.YtdphmcanlhcokaaGreatDoor
open Vc
set_option maxRecDepth 100000
set_option linter.unusedVariables false
/-- handfast/handfastplay.Obs -/
def C104 (p0 : YZ3) (w : World) (K : Value → World → Prop) : Prop :=
  NewK (.cells ((LZ3 p0).toArray) 41) w (fun g1 w2 => LdK (.int .i64) ((ad g1).add 0) w2 (fun (x3 : Int) => ifB (x3 == 11)
  (LdK (.int .i64) ((ad g1).add 2) w2 (fun (x4 : Int) => K (.iface 108 (.agg #[.int .i64 x4])) w2))
  (ifB (x3 == 12)
  (LdK .str ((ad g1).add 1) w2 (fun (x5 : ByteArray) => K (.iface 210 (.agg #[.string x5])) w2))
  (ifB (x3 == 13)
  (DrewK w2 (fun w6 => HoldK (fun S7 => InK S7 ((ad g1).add 3) (LdK .slc ((ad g1).add 3) w6 (fun (x8 : SlT) => IdxK x8.1 x8.2.1 0 4 (fun a9 => InK S7 a9 (LdsK KZ3 a9 w6 (fun (x10 : YZ3) => InK S7 ((ad g1).add 3) (LdK .slc ((ad g1).add 3) w6 (fun (x11 : SlT) => IdxK x11.1 x11.2.1 1 4 (fun a12 => InK S7 a12 (LdsK KZ3 a12 w6 (fun (x13 : YZ3) => CallK Tryz.prog 104 #[.agg (LZ3 x10).toArray] w6 (.v (.one .raw)) (fun (x14 : Value) w15 => KeepK S7 w6 w15 (CallK Tryz.prog 104 #[.agg (LZ3 x13).toArray] w15 (.v (.one .raw)) (fun (x16 : Value) w17 => KeepK S7 w15 w17 (OneK x14 (OneK x16 (K (.iface 252 (.agg #[x14, x16])) w17)))))))))))))))))))
  (ifB (x3 == 14)
  (LdK .slc ((ad g1).add 3) w2 (fun (x18 : SlT) => IdxK x18.1 x18.2.1 0 4 (fun a19 => LdsK KZ3 a19 w2 (fun (x20 : YZ3) => CallK Tryz.prog 104 #[.agg (LZ3 x20).toArray] w2 (.v (.one .raw)) (fun (x21 : Value) w22 => OneK x21 (K (.iface 254 (.agg #[x21])) w22))))))
  (ifB (x3 == 15)
  (DrewK w2 (fun w23 => HoldK (fun S24 => InK S24 ((ad g1).add 3) (LdK .slc ((ad g1).add 3) w23 (fun (x25 : SlT) => IdxK x25.1 x25.2.1 0 4 (fun a26 => InK S24 a26 (LdsK KZ3 a26 w23 (fun (x27 : YZ3) => InK S24 ((ad g1).add 3) (LdK .slc ((ad g1).add 3) w23 (fun (x28 : SlT) => IdxK x28.1 x28.2.1 1 4 (fun a29 => InK S24 a29 (LdsK KZ3 a29 w23 (fun (x30 : YZ3) => CallK Tryz.prog 104 #[.agg (LZ3 x27).toArray] w23 (.v (.one .raw)) (fun (x31 : Value) w32 => KeepK S24 w23 w32 (CallK Tryz.prog 104 #[.agg (LZ3 x30).toArray] w32 (.v (.one .raw)) (fun (x33 : Value) w34 => KeepK S24 w32 w34 (OneK x31 (OneK x33 (K (.iface 255 (.agg #[x31, x33])) w34)))))))))))))))))))
  (ifB (x3 == 16)
  (DrewK w2 (fun w35 => HoldK (fun S36 => InK S36 ((ad g1).add 3) (LdK .slc ((ad g1).add 3) w35 (fun (x37 : SlT) => IdxK x37.1 x37.2.1 0 4 (fun a38 => InK S36 a38 (LdsK KZ3 a38 w35 (fun (x39 : YZ3) => InK S36 ((ad g1).add 3) (LdK .slc ((ad g1).add 3) w35 (fun (x40 : SlT) => IdxK x40.1 x40.2.1 1 4 (fun a41 => InK S36 a41 (LdsK KZ3 a41 w35 (fun (x42 : YZ3) => CallK Tryz.prog 104 #[.agg (LZ3 x39).toArray] w35 (.v (.one .raw)) (fun (x43 : Value) w44 => KeepK S36 w35 w44 (CallK Tryz.prog 104 #[.agg (LZ3 x42).toArray] w44 (.v (.one .raw)) (fun (x45 : Value) w46 => KeepK S36 w44 w46 (OneK x43 (OneK x45 (K (.iface 256 (.agg #[x43, x45])) w46)))))))))))))))))))
  (K .nilIface w2))))))))
def pl104 : Plan := (.seq .auto (.seq (.seq .auto (.block (.seq .auto (.cond .auto (.seq .auto (.cond .auto (.seq .auto (.cond (.seq (.held (.soft 0 (.soft 1 (.soft 2 (.soft 3 (.soft 5 (.soft 6 (.soft 7 (.soft 8 (.pick 4 (.pick 9 (.soft 10 (.soft 11 (.soft 12 .done))) .stop) .stop)))))))))) .auto) (.seq .auto (.cond .auto (.seq .auto (.cond (.seq (.held (.soft 0 (.soft 1 (.soft 2 (.soft 3 (.soft 5 (.soft 6 (.soft 7 (.soft 8 (.pick 4 (.pick 9 (.soft 10 (.soft 11 (.soft 12 .done))) .stop) .stop)))))))))) .auto) (.seq .auto (.cond (.seq (.held (.soft 0 (.soft 1 (.soft 2 (.soft 3 (.soft 5 (.soft 6 (.soft 7 (.soft 8 (.pick 4 (.pick 9 (.soft 10 (.soft 11 (.soft 12 .done))) .stop) .stop)))))))))) .auto) .auto)))))))))))))) .auto))
theorem e104 (p0 : YZ3) (w : World) (K : Value → World → Prop) : vcFunc Tryz.prog Tryz.f104 pl104 [.agg (LZ3 p0).toArray] w K = C104 p0 w K := by kernel_rfl
theorem c104 (p0 : YZ3) (w : World) (K : Value → World → Prop) (h : C104 p0 w K) : Ret Tryz.prog 104 #[.agg (LZ3 p0).toArray] w K := by
  rw [← e104] at h
  exact vcFunc_sound (by kernel_rfl) Tryz.func104 h

/-- handfast/handfastplay.Term -/
def C71 (p0 : YZ3) (w : World) (K : Value → World → Prop) : Prop :=
  NewK (.cells ((LZ3 p0).toArray) 41) w (fun g1 w2 => LdK (.int .i64) ((ad g1).add 0) w2 (fun (x3 : Int) => ifB (x3 == 1)
  (K (.iface 188 (.agg #[])) w2)
  (ifB (x3 == 2)
  (LdK .str ((ad g1).add 1) w2 (fun (x4 : ByteArray) => K (.iface 102 (.agg #[.string x4])) w2))
  (ifB (x3 == 3)
  (LdK .slc ((ad g1).add 3) w2 (fun (x5 : SlT) => IdxK x5.1 x5.2.1 0 4 (fun a6 => LdsK KZ3 a6 w2 (fun (x7 : YZ3) => CallK Tryz.prog 71 #[.agg (LZ3 x7).toArray] w2 (.v (.one .raw)) (fun (x8 : Value) w9 => OneK x8 (K (.iface 190 (.agg #[x8])) w9))))))
  (ifB (x3 == 4)
  (DrewK w2 (fun w10 => HoldK (fun S11 => InK S11 ((ad g1).add 3) (LdK .slc ((ad g1).add 3) w10 (fun (x12 : SlT) => IdxK x12.1 x12.2.1 0 4 (fun a13 => InK S11 a13 (LdsK KZ3 a13 w10 (fun (x14 : YZ3) => InK S11 ((ad g1).add 3) (LdK .slc ((ad g1).add 3) w10 (fun (x15 : SlT) => IdxK x15.1 x15.2.1 1 4 (fun a16 => InK S11 a16 (LdsK KZ3 a16 w10 (fun (x17 : YZ3) => CallK Tryz.prog 71 #[.agg (LZ3 x14).toArray] w10 (.v (.one .raw)) (fun (x18 : Value) w19 => KeepK S11 w10 w19 (CallK Tryz.prog 71 #[.agg (LZ3 x17).toArray] w19 (.v (.one .raw)) (fun (x20 : Value) w21 => KeepK S11 w19 w21 (OneK x18 (OneK x20 (K (.iface 192 (.agg #[x18, x20])) w21)))))))))))))))))))
  (ifB (x3 == 5)
  (DrewK w2 (fun w22 => HoldK (fun S23 => InK S23 ((ad g1).add 1) (LdK .str ((ad g1).add 1) w22 (fun (x24 : ByteArray) => InK S23 ((ad g1).add 3) (LdK .slc ((ad g1).add 3) w22 (fun (x25 : SlT) => IdxK x25.1 x25.2.1 0 4 (fun a26 => InK S23 a26 (LdsK KZ3 a26 w22 (fun (x27 : YZ3) => InK S23 ((ad g1).add 3) (LdK .slc ((ad g1).add 3) w22 (fun (x28 : SlT) => IdxK x28.1 x28.2.1 1 4 (fun a29 => InK S23 a29 (LdsK KZ3 a29 w22 (fun (x30 : YZ3) => CallK Tryz.prog 71 #[.agg (LZ3 x27).toArray] w22 (.v (.one .raw)) (fun (x31 : Value) w32 => KeepK S23 w22 w32 (CallK Tryz.prog 71 #[.agg (LZ3 x30).toArray] w32 (.v (.one .raw)) (fun (x33 : Value) w34 => KeepK S23 w32 w34 (OneK x31 (OneK x33 (K (.iface 194 (.agg #[.string x24, x31, x33])) w34)))))))))))))))))))))
  (ifB (x3 == 6)
  (DrewK w2 (fun w35 => HoldK (fun S36 => InK S36 ((ad g1).add 3) (LdK .slc ((ad g1).add 3) w35 (fun (x37 : SlT) => IdxK x37.1 x37.2.1 0 4 (fun a38 => InK S36 a38 (LdsK KZ3 a38 w35 (fun (x39 : YZ3) => InK S36 ((ad g1).add 3) (LdK .slc ((ad g1).add 3) w35 (fun (x40 : SlT) => IdxK x40.1 x40.2.1 1 4 (fun a41 => InK S36 a41 (LdsK KZ3 a41 w35 (fun (x42 : YZ3) => CallK Tryz.prog 104 #[.agg (LZ3 x39).toArray] w35 (.v (.one .raw)) (fun (x43 : Value) w44 => KeepK S36 w35 w44 (CallK Tryz.prog 71 #[.agg (LZ3 x42).toArray] w44 (.v (.one .raw)) (fun (x45 : Value) w46 => KeepK S36 w44 w46 (OneK x43 (OneK x45 (K (.iface 197 (.agg #[x43, x45])) w46)))))))))))))))))))
  (ifB (x3 == 7)
  (DrewK w2 (fun w47 => HoldK (fun S48 => InK S48 ((ad g1).add 2) (LdK (.int .i64) ((ad g1).add 2) w47 (fun (x49 : Int) => InK S48 ((ad g1).add 3) (LdK .slc ((ad g1).add 3) w47 (fun (x50 : SlT) => IdxK x50.1 x50.2.1 0 4 (fun a51 => InK S48 a51 (LdsK KZ3 a51 w47 (fun (x52 : YZ3) => CallK Tryz.prog 71 #[.agg (LZ3 x52).toArray] w47 (.v (.one .raw)) (fun (x53 : Value) w54 => KeepK S48 w47 w54 (OneK x53 (K (.iface 199 (.agg #[.int .i64 x49, x53])) w54)))))))))))))
  (ifB (x3 == 8)
  (DrewK w2 (fun w55 => HoldK (fun S56 => InK S56 ((ad g1).add 3) (LdK .slc ((ad g1).add 3) w55 (fun (x57 : SlT) => IdxK x57.1 x57.2.1 0 4 (fun a58 => InK S56 a58 (LdsK KZ3 a58 w55 (fun (x59 : YZ3) => InK S56 ((ad g1).add 3) (LdK .slc ((ad g1).add 3) w55 (fun (x60 : SlT) => IdxK x60.1 x60.2.1 1 4 (fun a61 => InK S56 a61 (LdsK KZ3 a61 w55 (fun (x62 : YZ3) => InK S56 ((ad g1).add 3) (LdK .slc ((ad g1).add 3) w55 (fun (x63 : SlT) => IdxK x63.1 x63.2.1 2 4 (fun a64 => InK S56 a64 (LdsK KZ3 a64 w55 (fun (x65 : YZ3) => CallK Tryz.prog 104 #[.agg (LZ3 x59).toArray] w55 (.v (.one .raw)) (fun (x66 : Value) w67 => KeepK S56 w55 w67 (CallK Tryz.prog 71 #[.agg (LZ3 x62).toArray] w67 (.v (.one .raw)) (fun (x68 : Value) w69 => KeepK S56 w67 w69 (CallK Tryz.prog 71 #[.agg (LZ3 x65).toArray] w69 (.v (.one .raw)) (fun (x70 : Value) w71 => KeepK S56 w69 w71 (OneK x66 (OneK x68 (OneK x70 (K (.iface 201 (.agg #[x66, x68, x70])) w71)))))))))))))))))))))))))))
  (K .nilIface w2))))))))))
def pl71 : Plan := (.seq .auto (.seq (.seq .auto (.block (.seq .auto (.cond .auto (.seq .auto (.cond .auto (.seq .auto (.cond .auto (.seq .auto (.cond (.seq (.held (.soft 0 (.soft 1 (.soft 2 (.soft 3 (.soft 5 (.soft 6 (.soft 7 (.soft 8 (.pick 4 (.pick 9 (.soft 10 (.soft 11 (.soft 12 .done))) .stop) .stop)))))))))) .auto) (.seq .auto (.cond (.seq (.held (.soft 0 (.soft 1 (.soft 2 (.soft 3 (.soft 4 (.soft 5 (.soft 7 (.soft 8 (.soft 9 (.soft 10 (.pick 6 (.pick 11 (.soft 12 (.soft 13 (.soft 14 .done))) .stop) .stop)))))))))))) .auto) (.seq .auto (.cond (.seq (.held (.soft 0 (.soft 1 (.soft 2 (.soft 3 (.soft 5 (.soft 6 (.soft 7 (.soft 8 (.pick 4 (.pick 9 (.soft 10 (.soft 11 (.soft 12 .done))) .stop) .stop)))))))))) .auto) (.seq .auto (.cond (.seq (.held (.soft 0 (.soft 1 (.soft 2 (.soft 3 (.soft 4 (.soft 5 (.pick 6 (.soft 7 (.soft 8 (.soft 9 .done))) .stop)))))))) .auto) (.seq .auto (.cond (.seq (.held (.soft 0 (.soft 1 (.soft 2 (.soft 3 (.soft 5 (.soft 6 (.soft 7 (.soft 8 (.soft 10 (.soft 11 (.soft 12 (.soft 13 (.pick 4 (.pick 9 (.pick 14 (.soft 15 (.soft 16 (.soft 17 .done))) .stop) .stop) .stop)))))))))))))) .auto) .auto)))))))))))))))))) .auto))
theorem e71 (p0 : YZ3) (w : World) (K : Value → World → Prop) : vcFunc Tryz.prog Tryz.f71 pl71 [.agg (LZ3 p0).toArray] w K = C71 p0 w K := by kernel_rfl
theorem c71 (p0 : YZ3) (w : World) (K : Value → World → Prop) (h : C71 p0 w K) : Ret Tryz.prog 71 #[.agg (LZ3 p0).toArray] w K := by
  rw [← e71] at h
  exact vcFunc_sound (by kernel_rfl) Tryz.func71 h

end Go.Proofs.YtdphmcanlhcokaaGreatDoor

/-! ### TreeSpec -/
set_option linter.unusedVariables false
set_option maxRecDepth 100000
namespace Go.Proofs.YtdphmcanlhcokaaGreatDoor
open Vc

inductive Tr where
  | mk (kind : Int) (s : List UInt8) (n : Int) (ks : List Tr)

/-- A tree's struct: its kind, its name, its number, the slice of its parts. -/
abbrev TV := Int × ByteArray × Int × (Option Addr × Nat × Nat) × Unit
def tvA (v : TV) : Value := .agg #[.int .i64 v.1, .string v.2.1, .int .i64 v.2.2.1, .slice v.2.2.2.1.1 v.2.2.2.1.2.1 v.2.2.2.1.2.2]
def tvL (v : TV) : List Value := [.int .i64 v.1, .string v.2.1, .int .i64 v.2.2.1, .slice v.2.2.2.1.1 v.2.2.2.1.2.1 v.2.2.2.1.2.2]
theorem tvL_len (vs : List TV) : ∀ l ∈ vs.map tvL, l.length = 4 := by intro l hl; obtain ⟨v, _, rfl⟩ := List.mem_map.1 hl; rfl

mutual
/-- The struct v is the tree; its parts lie in the blocks of S. -/
def IsTr (w : World) (S : Nat → Prop) : Tr → TV → Prop
  | .mk k s n ks, v => v.1 = k ∧ v.2.1 = str s ∧ v.2.2.1 = n ∧ ∃ vs : List TV, RdSl w 4 v.2.2.2.1 (vs.map tvL).flatten ∧ vs.length = v.2.2.2.1.2.1 ∧ (∀ b, blkOf v.2.2.2.1 b → S b) ∧ IsTrs w S ks vs
def IsTrs (w : World) (S : Nat → Prop) : List Tr → List TV → Prop
  | [], vs => vs = []
  | t :: ts, vs => ∃ v vs', vs = v :: vs' ∧ IsTr w S t v ∧ IsTrs w S ts vs'
end

mutual
theorem IsTr.keep {w w' : World} {S T : Nat → Prop} (f : Fr T w w') (hn : ∀ k, S k → ¬ T k) : ∀ (t : Tr) (v : TV), IsTr w S t v → IsTr w' S t v
  | .mk k s n ks, v, h => by
    unfold IsTr at h ⊢
    obtain ⟨a, b, c, vs, d, e, g, h⟩ := h
    exact ⟨a, b, c, vs, d.keep f (fun k hk => hn k (g k hk)), e, g, IsTrs.keep f hn ks vs h⟩
theorem IsTrs.keep {w w' : World} {S T : Nat → Prop} (f : Fr T w w') (hn : ∀ k, S k → ¬ T k) : ∀ (ts : List Tr) (vs : List TV), IsTrs w S ts vs → IsTrs w' S ts vs
  | [], vs, h => by unfold IsTrs at h ⊢; exact h
  | t :: ts, vs, h => by
    unfold IsTrs at h ⊢
    obtain ⟨v, vs', rfl, h1, h2⟩ := h
    exact ⟨v, vs', rfl, IsTr.keep f hn t v h1, IsTrs.keep f hn ts vs' h2⟩
end
mutual
theorem IsTr.mono {w : World} {S T : Nat → Prop} (hST : ∀ k, S k → T k) : ∀ (t : Tr) (v : TV), IsTr w S t v → IsTr w T t v
  | .mk k s n ks, v, h => by
    unfold IsTr at h ⊢
    obtain ⟨a, b, c, vs, d, e, g, h⟩ := h
    exact ⟨a, b, c, vs, d, e, fun k hk => hST k (g k hk), IsTrs.mono hST ks vs h⟩
theorem IsTrs.mono {w : World} {S T : Nat → Prop} (hST : ∀ k, S k → T k) : ∀ (ts : List Tr) (vs : List TV), IsTrs w S ts vs → IsTrs w T ts vs
  | [], vs, h => by unfold IsTrs at h ⊢; exact h
  | t :: ts, vs, h => by
    unfold IsTrs at h ⊢
    obtain ⟨v, vs', rfl, h1, h2⟩ := h
    exact ⟨v, vs', rfl, IsTr.mono hST t v h1, IsTrs.mono hST ts vs' h2⟩
end
theorem IsTr.keep0 {w w' : World} {S : Nat → Prop} {t : Tr} {v : TV} (h : IsTr w S t v) (f : Fr none1 w w') : IsTr w' S t v := IsTr.keep f (fun _ _ t => t) t v h
theorem IsTrs.keep0 {w w' : World} {S : Nat → Prop} {t : List Tr} {v : List TV} (h : IsTrs w S t v) (f : Fr none1 w w') : IsTrs w' S t v := IsTrs.keep f (fun _ _ t => t) t v h

theorem IsTrs.get {w : World} {S : Nat → Prop} : ∀ {ts : List Tr} {vs : List TV}, IsTrs w S ts vs → ∀ {i : Nat} {t : Tr}, ts[i]? = some t → ∃ v, vs[i]? = some v ∧ IsTr w S t v
  | [], vs, h, i, t, ht => by simp at ht
  | t :: ts, vs, h, i, u, hu => by
    unfold IsTrs at h
    obtain ⟨v, vs', rfl, h1, h2⟩ := h
    cases i with
    | zero => simp at hu; subst hu; exact ⟨v, rfl, h1⟩
    | succ i => exact h2.get (by simpa using hu)
theorem IsTrs.len {w : World} {S : Nat → Prop} : ∀ {ts : List Tr} {vs : List TV}, IsTrs w S ts vs → vs.length = ts.length
  | [], vs, h => by unfold IsTrs at h; subst h; rfl
  | t :: ts, vs, h => by
    unfold IsTrs at h
    obtain ⟨v, vs', rfl, h1, h2⟩ := h
    simp [h2.len]

/-- A part of a tree, read. -/
theorem IsTr.ld {w : World} {S : Nat → Prop} {k : Int} {s : List UInt8} {n : Int} {ks : List Tr} {v : TV} (h : IsTr w S (.mk k s n ks) v) {i : Nat} {t : Tr} (ht : ks[i]? = some t) {K : TV → Prop} (hK : ∀ x, IsTr w S t x → K x) :
    IdxK v.2.2.2.1.1 v.2.2.2.1.2.1 (i : Int) 4 fun a => InK all1 a (LdsK [.int .i64, .str, .int .i64, .slc] a w K) := by
  unfold IsTr at h
  obtain ⟨_, _, _, vs, hr, hl, _, hts⟩ := h
  obtain ⟨x, hx, hxt⟩ := hts.get ht
  have hi := (List.getElem?_eq_some_iff.1 hx).1
  cases hp : v.2.2.2.1.1 with
  | none =>
    have := (hr.2.1 hp).1
    omega
  | some p =>
    refine ⟨p, rfl, by omega, by omega, InK.all ?_⟩
    rw [Int.toNat_natCast]
    exact RdSl.lds hr (tvL_len vs) (x := x) (by rw [List.getElem?_map, hx]; rfl) (by omega) (hK x hxt) hp
theorem IdxK.out_ink {base : Option Addr} {len : Nat} {i : Int} {size : Nat} {K : Addr → Prop} (h : IdxK base len i size fun a => InK all1 a (K a)) : IdxK base len i size K := by
  obtain ⟨a, h1, h2, h3, h4⟩ := h.out
  exact ⟨a, h1, h2, h3, h4.out.2⟩
theorem IsTr.len {w : World} {S : Nat → Prop} {k : Int} {s : List UInt8} {n : Int} {ks : List Tr} {v : TV} (h : IsTr w S (.mk k s n ks) v) : v.2.2.2.1.2.1 = ks.length := by
  unfold IsTr at h
  obtain ⟨_, _, _, vs, hr, hl, _, hts⟩ := h
  rw [← hl, hts.len]
theorem IsTr.kind {w : World} {S : Nat → Prop} {k : Int} {s : List UInt8} {n : Int} {ks : List Tr} {v : TV} (h : IsTr w S (.mk k s n ks) v) : v.1 = k := by unfold IsTr at h; exact h.1
theorem IsTr.name {w : World} {S : Nat → Prop} {k : Int} {s : List UInt8} {n : Int} {ks : List Tr} {v : TV} (h : IsTr w S (.mk k s n ks) v) : v.2.1 = str s := by unfold IsTr at h; exact h.2.1
theorem IsTr.num {w : World} {S : Nat → Prop} {k : Int} {s : List UInt8} {n : Int} {ks : List Tr} {v : TV} (h : IsTr w S (.mk k s n ks) v) : v.2.2.1 = n := by unfold IsTr at h; exact h.2.2.1

/-! ### A contract as a tree -/
def trO : Ob → Tr
  | .none => .mk 0 [] 0 []
  | .const n => .mk 11 [] n []
  | .fix s => .mk 12 s 0 []
  | .add l r => .mk 13 [] 0 [trO l, trO r]
  | .neg o => .mk 14 [] 0 [trO o]
  | .mul l r => .mk 15 [] 0 [trO l, trO r]
  | .max l r => .mk 16 [] 0 [trO l, trO r]
def trT : Tm → Tr
  | .none => .mk 0 [] 0 []
  | .zero => .mk 1 [] 0 []
  | .one s => .mk 2 s 0 []
  | .give t => .mk 3 [] 0 [trT t]
  | .and l r => .mk 4 [] 0 [trT l, trT r]
  | .or s l r => .mk 5 s 0 [trT l, trT r]
  | .scale o t => .mk 6 [] 0 [trO o, trT t]
  | .when d t => .mk 7 [] d [trT t]
  | .cond o l r => .mk 8 [] 0 [trO o, trT l, trT r]

theorem Ob.cell1 (o : Ob) : o.v.cells = #[o.v] := by cases o <;> rfl
theorem Tm.cell1 (t : Tm) : t.v.cells = #[t.v] := by cases t <;> rfl

theorem pobs_spec (o : Ob) {w : World} {S : Nat → Prop} {v : TV} (h : IsTr w S (trO o) v) : Ret Tryz.prog 104 #[tvA v] w fun r w' => r = o.v ∧ Fr none1 w w' := by
  refine c104 v w _ ?_
  unfold C104
  refine NewK.of fun b w1 hb hb1 f1 _ => ?_
  refine LdK.fld hb1 (x := v.1) rfl ?_
  have h1 := h.keep0 f1
  have two : ∀ (l r : Ob) (k : Int) (T : TypeId), IsTr w1 S (.mk k [] 0 [trO l, trO r]) v → (∀ {w : World} {v : TV}, IsTr w S (trO l) v → Ret Tryz.prog 104 #[tvA v] w fun r' w' => r' = l.v ∧ Fr none1 w w') →
      (∀ {w : World} {v : TV}, IsTr w S (trO r) v → Ret Tryz.prog 104 #[tvA v] w fun r' w' => r' = r.v ∧ Fr none1 w w') → o.v = .iface T (.agg #[l.v, r.v]) →
      DrewK w1 (fun w6 => HoldK (fun S7 => InK S7 ((⟨b, 0, none⟩ : Addr).add 3) (LdK .slc ((⟨b, 0, none⟩ : Addr).add 3) w6 (fun (x7 : Option Addr × Nat × Nat) => IdxK x7.1 x7.2.1 0 4 (fun a8 => InK S7 a8 (LdsK [.int .i64, .str, .int .i64, .slc] a8 w6 (fun (x9 : TV) =>
        InK S7 ((⟨b, 0, none⟩ : Addr).add 3) (LdK .slc ((⟨b, 0, none⟩ : Addr).add 3) w6 (fun (x10 : Option Addr × Nat × Nat) => IdxK x10.1 x10.2.1 1 4 (fun a11 => InK S7 a11 (LdsK [.int .i64, .str, .int .i64, .slc] a11 w6 (fun (x12 : TV) =>
          CallK Tryz.prog 104 #[tvA x9] w6 (.v (.one .raw)) (fun (x13 : Value) w14 => KeepK S7 w6 w14
            (CallK Tryz.prog 104 #[tvA x12] w14 (.v (.one .raw)) (fun (x15 : Value) w16 => KeepK S7 w14 w16
              (OneK x13 (OneK x15 ((Value.iface T (.agg #[x13, x15])) = o.v ∧ Fr none1 w w16)))))))))))))))))) := fun l r k T h1 ihl ihr ho => by
    refine DrewK.of fun w2 _ f2 => HoldK.all (InK.all ?_)
    have hb2 := f2.keep0 hb1
    have h2 := h1.keep0 f2
    refine LdK.fld hb2 (x := v.2.2.2.1) rfl ?_
    refine h2.ld (i := 0) rfl fun x hx => InK.all ?_
    refine LdK.fld hb2 (x := v.2.2.2.1) rfl ?_
    refine h2.ld (i := 1) rfl fun y hy => ?_
    refine CallK.of (ihl hx) ?_
    rintro _ w3 ⟨rfl, f3⟩
    refine ⟨_, rfl, KeepK.of f3 ?_⟩
    refine CallK.of (ihr (hy.keep0 f3)) ?_
    rintro _ w4 ⟨rfl, f4⟩
    exact ⟨_, rfl, KeepK.of f4 ⟨l.cell1, ⟨r.cell1, ho.symm, ((f1.trans f2).trans f3).trans f4⟩⟩⟩
  cases o with
  | none =>
    rw [h.kind]
    exact ifB.f rfl (ifB.f rfl (ifB.f rfl (ifB.f rfl (ifB.f rfl (ifB.f rfl ⟨rfl, f1⟩)))))
  | const n =>
    rw [h.kind]
    refine ifB.t rfl (LdK.fld hb1 (x := v.2.2.1) rfl ?_)
    rw [h.num]; exact ⟨rfl, f1⟩
  | fix s =>
    rw [h.kind]
    refine ifB.f rfl (ifB.t rfl (LdK.fld hb1 (x := v.2.1) rfl ?_))
    rw [h.name]; exact ⟨rfl, f1⟩
  | add l r =>
    rw [h.kind]
    exact ifB.f rfl (ifB.f rfl (ifB.t rfl (two l r 13 _ h1 (pobs_spec l) (pobs_spec r) rfl)))
  | neg x =>
    rw [h.kind]
    refine ifB.f rfl (ifB.f rfl (ifB.f rfl (ifB.t rfl (LdK.fld hb1 (x := v.2.2.2.1) rfl ?_))))
    refine IdxK.out_ink (h1.ld (i := 0) rfl fun y hy => ?_)
    refine CallK.of (pobs_spec x hy) ?_
    rintro _ w2 ⟨rfl, f2⟩
    exact ⟨_, rfl, ⟨x.cell1, rfl, f1.trans f2⟩⟩
  | mul l r =>
    rw [h.kind]
    exact ifB.f rfl (ifB.f rfl (ifB.f rfl (ifB.f rfl (ifB.t rfl (two l r 15 _ h1 (pobs_spec l) (pobs_spec r) rfl)))))
  | max l r =>
    rw [h.kind]
    exact ifB.f rfl (ifB.f rfl (ifB.f rfl (ifB.f rfl (ifB.f rfl (ifB.t rfl (two l r 16 _ h1 (pobs_spec l) (pobs_spec r) rfl))))))

theorem pterm_spec (t : Tm) {w : World} {S : Nat → Prop} {v : TV} (h : IsTr w S (trT t) v) : Ret Tryz.prog 71 #[tvA v] w fun r w' => r = t.v ∧ Fr none1 w w' := by
  refine c71 v w _ ?_
  unfold C71
  refine NewK.of fun b w1 hb hb1 f1 _ => ?_
  refine LdK.fld hb1 (x := v.1) rfl ?_
  have h1 := h.keep0 f1
  cases t with
  | none =>
    rw [h.kind]
    exact ifB.f rfl (ifB.f rfl (ifB.f rfl (ifB.f rfl (ifB.f rfl (ifB.f rfl (ifB.f rfl (ifB.f rfl ⟨rfl, f1⟩)))))))
  | zero => rw [h.kind]; exact ifB.t rfl ⟨rfl, f1⟩
  | one s =>
    rw [h.kind]
    refine ifB.f rfl (ifB.t rfl (LdK.fld hb1 (x := v.2.1) rfl ?_))
    rw [h.name]; exact ⟨rfl, f1⟩
  | give x =>
    rw [h.kind]
    refine ifB.f rfl (ifB.f rfl (ifB.t rfl (LdK.fld hb1 (x := v.2.2.2.1) rfl ?_)))
    refine IdxK.out_ink (h1.ld (i := 0) rfl fun y hy => ?_)
    refine CallK.of (pterm_spec x hy) ?_
    rintro _ w2 ⟨rfl, f2⟩
    exact ⟨_, rfl, ⟨x.cell1, rfl, f1.trans f2⟩⟩
  | and l r =>
    rw [h.kind]
    refine ifB.f rfl (ifB.f rfl (ifB.f rfl (ifB.t rfl ?_)))
    refine DrewK.of fun w2 _ f2 => HoldK.all (InK.all ?_)
    have hb2 := f2.keep0 hb1
    have h2 := h1.keep0 f2
    refine LdK.fld hb2 (x := v.2.2.2.1) rfl ?_
    refine h2.ld (i := 0) rfl fun x hx => InK.all ?_
    refine LdK.fld hb2 (x := v.2.2.2.1) rfl ?_
    refine h2.ld (i := 1) rfl fun y hy => ?_
    refine CallK.of (pterm_spec l hx) ?_
    rintro _ w3 ⟨rfl, f3⟩
    refine ⟨_, rfl, KeepK.of f3 ?_⟩
    refine CallK.of (pterm_spec r (hy.keep0 f3)) ?_
    rintro _ w4 ⟨rfl, f4⟩
    exact ⟨_, rfl, KeepK.of f4 ⟨l.cell1, ⟨r.cell1, rfl, ((f1.trans f2).trans f3).trans f4⟩⟩⟩
  | or s l r =>
    rw [h.kind]
    refine ifB.f rfl (ifB.f rfl (ifB.f rfl (ifB.f rfl (ifB.t rfl ?_))))
    refine DrewK.of fun w2 _ f2 => HoldK.all (InK.all ?_)
    have hb2 := f2.keep0 hb1
    have h2 := h1.keep0 f2
    refine LdK.fld hb2 (x := v.2.1) rfl (InK.all ?_)
    refine LdK.fld hb2 (x := v.2.2.2.1) rfl ?_
    refine h2.ld (i := 0) rfl fun x hx => InK.all ?_
    refine LdK.fld hb2 (x := v.2.2.2.1) rfl ?_
    refine h2.ld (i := 1) rfl fun y hy => ?_
    refine CallK.of (pterm_spec l hx) ?_
    rintro _ w3 ⟨rfl, f3⟩
    refine ⟨_, rfl, KeepK.of f3 ?_⟩
    refine CallK.of (pterm_spec r (hy.keep0 f3)) ?_
    rintro _ w4 ⟨rfl, f4⟩
    rw [h.name]
    exact ⟨_, rfl, KeepK.of f4 ⟨l.cell1, ⟨r.cell1, rfl, ((f1.trans f2).trans f3).trans f4⟩⟩⟩
  | scale o x =>
    rw [h.kind]
    refine ifB.f rfl (ifB.f rfl (ifB.f rfl (ifB.f rfl (ifB.f rfl (ifB.t rfl ?_)))))
    refine DrewK.of fun w2 _ f2 => HoldK.all (InK.all ?_)
    have hb2 := f2.keep0 hb1
    have h2 := h1.keep0 f2
    refine LdK.fld hb2 (x := v.2.2.2.1) rfl ?_
    refine h2.ld (i := 0) rfl fun y hy => InK.all ?_
    refine LdK.fld hb2 (x := v.2.2.2.1) rfl ?_
    refine h2.ld (i := 1) rfl fun z hz => ?_
    refine CallK.of (pobs_spec o hy) ?_
    rintro _ w3 ⟨rfl, f3⟩
    refine ⟨_, rfl, KeepK.of f3 ?_⟩
    refine CallK.of (pterm_spec x (hz.keep0 f3)) ?_
    rintro _ w4 ⟨rfl, f4⟩
    exact ⟨_, rfl, KeepK.of f4 ⟨o.cell1, ⟨x.cell1, rfl, ((f1.trans f2).trans f3).trans f4⟩⟩⟩
  | when d x =>
    rw [h.kind]
    refine ifB.f rfl (ifB.f rfl (ifB.f rfl (ifB.f rfl (ifB.f rfl (ifB.f rfl (ifB.t rfl ?_))))))
    refine DrewK.of fun w2 _ f2 => HoldK.all (InK.all ?_)
    have hb2 := f2.keep0 hb1
    have h2 := h1.keep0 f2
    refine LdK.fld hb2 (x := v.2.2.1) rfl (InK.all ?_)
    refine LdK.fld hb2 (x := v.2.2.2.1) rfl ?_
    refine h2.ld (i := 0) rfl fun y hy => ?_
    refine CallK.of (pterm_spec x hy) ?_
    rintro _ w3 ⟨rfl, f3⟩
    rw [h.num]
    exact ⟨_, rfl, KeepK.of f3 ⟨x.cell1, rfl, (f1.trans f2).trans f3⟩⟩
  | cond o l r =>
    rw [h.kind]
    refine ifB.f rfl (ifB.f rfl (ifB.f rfl (ifB.f rfl (ifB.f rfl (ifB.f rfl (ifB.f rfl (ifB.t rfl ?_)))))))
    refine DrewK.of fun w2 _ f2 => HoldK.all (InK.all ?_)
    have hb2 := f2.keep0 hb1
    have h2 := h1.keep0 f2
    refine LdK.fld hb2 (x := v.2.2.2.1) rfl ?_
    refine h2.ld (i := 0) rfl fun x hx => InK.all ?_
    refine LdK.fld hb2 (x := v.2.2.2.1) rfl ?_
    refine h2.ld (i := 1) rfl fun y hy => InK.all ?_
    refine LdK.fld hb2 (x := v.2.2.2.1) rfl ?_
    refine h2.ld (i := 2) rfl fun z hz => ?_
    refine CallK.of (pobs_spec o hx) ?_
    rintro _ w3 ⟨rfl, f3⟩
    refine ⟨_, rfl, KeepK.of f3 ?_⟩
    refine CallK.of (pterm_spec l (hy.keep0 f3)) ?_
    rintro _ w4 ⟨rfl, f4⟩
    refine ⟨_, rfl, KeepK.of f4 ?_⟩
    refine CallK.of (pterm_spec r (hz.keep0 (f3.trans f4))) ?_
    rintro _ w5 ⟨rfl, f5⟩
    exact ⟨_, rfl, KeepK.of f5 ⟨o.cell1, ⟨l.cell1, ⟨r.cell1, rfl, (((f1.trans f2).trans f3).trans f4).trans f5⟩⟩⟩⟩

end Go.Proofs.YtdphmcanlhcokaaGreatDoor

/-! ### CRefN -/
namespace Go.Proofs.YtdphmcanlhcokaaGreatDoor
open Vc
set_option maxRecDepth 100000
set_option linter.unusedVariables false
/-- handfast/handfastref01.runes -/
def C116 (p0 : ByteArray) (w : World) (K : Value → World → Prop) : Prop :=
  RunK Tryz.prog (Instr.range 9 (.string p0)) w (.v (.one .ptr)) (fun (x1 : Option Addr) w2 => LoopK (SlT × Unit) (fun _ s3 w4 next5 => NextK x1 w4 (fun x6 x7 w8 => RunK Tryz.prog (Instr.buildSlice 165 1 #[(0, .int .i32 x7)]) w8 (.v (.one .slc)) (fun (x9 : SlT) w10 => RunK Tryz.prog (Builtin.append_ #[165, 165] 165 #[.slice s3.1.1 s3.1.2.1 s3.1.2.2, .slice x9.1 x9.2.1 x9.2.2]) w10 (.v (.one .slc)) (fun (x11 : SlT) w12 => next5 ((x11.1, x11.2.1, x11.2.2), ()) w12)))
  (K (.slice s3.1.1 s3.1.2.1 s3.1.2.2) w4))
  ((none, 0, 0), ()) w2)
def pl116 : Plan := (.seq .auto (.seq .auto (.seq (.seq .auto (.block (.loop [(3, .one .slc)] .auto))) .auto)))
theorem e116 (p0 : ByteArray) (w : World) (K : Value → World → Prop) : vcFunc Tryz.prog Tryz.f116 pl116 [.string p0] w K = C116 p0 w K := by kernel_rfl
theorem c116 (p0 : ByteArray) (w : World) (K : Value → World → Prop) (h : C116 p0 w K) : Ret Tryz.prog 116 #[.string p0] w K := by
  rw [← e116] at h
  exact vcFunc_sound (by kernel_rfl) Tryz.func116 h

/-- handfast/handfastref01.Letter -/
def C117 (p0 : Int) (w : World) (K : Value → World → Prop) : Prop :=
  ifB (decide (p0 ≥ 97))
  (ifB (decide (p0 ≤ 122))
  (K (.bool true) w)
  (ifB (decide (p0 ≥ 48))
  (ifB (decide (p0 ≤ 57))
  (K (.bool true) w)
  (ifB (p0 == 95)
  (K (.bool true) w)
  (ifB (decide (p0 ≥ 128))
  (K (.bool (p0 != 65533)) w)
  (K (.bool false) w))))
  (ifB (p0 == 95)
  (K (.bool true) w)
  (ifB (decide (p0 ≥ 128))
  (K (.bool (p0 != 65533)) w)
  (K (.bool false) w)))))
  (ifB (decide (p0 ≥ 48))
  (ifB (decide (p0 ≤ 57))
  (K (.bool true) w)
  (ifB (p0 == 95)
  (K (.bool true) w)
  (ifB (decide (p0 ≥ 128))
  (K (.bool (p0 != 65533)) w)
  (K (.bool false) w))))
  (ifB (p0 == 95)
  (K (.bool true) w)
  (ifB (decide (p0 ≥ 128))
  (K (.bool (p0 != 65533)) w)
  (K (.bool false) w))))
def pl117 : Plan := .auto
theorem e117 (p0 : Int) (w : World) (K : Value → World → Prop) : vcFunc Tryz.prog Tryz.f117 pl117 [.int .i32 p0] w K = C117 p0 w K := by kernel_rfl
theorem c117 (p0 : Int) (w : World) (K : Value → World → Prop) (h : C117 p0 w K) : Ret Tryz.prog 117 #[.int .i32 p0] w K := by
  rw [← e117] at h
  exact vcFunc_sound (by kernel_rfl) Tryz.func117 h

/-- handfast/handfastref01.Name -/
def C88 (p0 : ByteArray) (w : World) (K : Value → World → Prop) : Prop :=
  CallK Tryz.prog 116 #[.string p0] w (.v (.one .slc)) (fun (x1 : SlT) w2 => LoopK (Int × Unit) (fun _ s3 w4 next5 => ifB (decide (s3.1 < (x1.2.1 : Int)))
  (IdxK x1.1 x1.2.1 s3.1 1 (fun a6 => LdK (.int .i32) a6 w4 (fun (x7 : Int) => CallK Tryz.prog 117 #[.int .i32 x7] w4 (.v (.one .bool)) (fun (x8 : Bool) w9 => ifB (!x8)
  (K (.bool false) w9)
  (ifB (s3.1 == 0)
  (IdxK x1.1 x1.2.1 s3.1 1 (fun a10 => LdK (.int .i32) a10 w9 (fun (x11 : Int) => ifB (decide (x11 ≥ 48))
  (IdxK x1.1 x1.2.1 s3.1 1 (fun a12 => LdK (.int .i32) a12 w9 (fun (x13 : Int) => ifB (decide (x13 ≤ 57))
  (K (.bool false) w9)
  (next5 (IntKind.i64.wrap (s3.1 + 1), ()) w9))))
  (next5 (IntKind.i64.wrap (s3.1 + 1), ()) w9))))
  (next5 (IntKind.i64.wrap (s3.1 + 1), ()) w9))))))
  (ifB (decide ((x1.2.1 : Int) ≥ 1))
  (K (.bool (decide ((x1.2.1 : Int) ≤ 12))) w4)
  (K (.bool false) w4)))
  (0, ()) w2)
def pl88 : Plan := (.seq .auto (.seq .auto (.seq (.seq .auto (.block (.loop [(9, .one (.int .i64))] .auto))) .auto)))
theorem e88 (p0 : ByteArray) (w : World) (K : Value → World → Prop) : vcFunc Tryz.prog Tryz.f88 pl88 [.string p0] w K = C88 p0 w K := by kernel_rfl
theorem c88 (p0 : ByteArray) (w : World) (K : Value → World → Prop) (h : C88 p0 w K) : Ret Tryz.prog 88 #[.string p0] w K := by
  rw [← e88] at h
  exact vcFunc_sound (by kernel_rfl) Tryz.func88 h

/-- handfast/handfastref01.Valid -/
def C55 (p0 : Int) (w : World) (K : Value → World → Prop) : Prop :=
  ifB (decide (p0 ≥ (-1000000000000)))
  (K (.bool (decide (p0 ≤ 1000000000000))) w)
  (K (.bool false) w)
def pl55 : Plan := .auto
theorem e55 (p0 : Int) (w : World) (K : Value → World → Prop) : vcFunc Tryz.prog Tryz.f55 pl55 [.int .i64 p0] w K = C55 p0 w K := by kernel_rfl
theorem c55 (p0 : Int) (w : World) (K : Value → World → Prop) (h : C55 p0 w K) : Ret Tryz.prog 55 #[.int .i64 p0] w K := by
  rw [← e55] at h
  exact vcFunc_sound (by kernel_rfl) Tryz.func55 h

end Go.Proofs.YtdphmcanlhcokaaGreatDoor

/-! ### RefName -/
set_option linter.unusedVariables false
set_option maxRecDepth 100000
namespace Go.Proofs.YtdphmcanlhcokaaGreatDoor
open Vc

/-! ### The document's own -/
theorem rletter_spec (r : Int) (w : World) : Ret Tryz.prog 117 #[.int .i32 r] w fun v w' => v = .bool (isLet r) ∧ w = w' := by
  refine c117 r w _ ?_
  unfold C117
  have tl : isLet r = (r == 95 || (decide (128 ≤ r) && r != 65533)) → ifB (r == 95) ((.bool true : Value) = .bool (isLet r) ∧ w = w) (ifB (decide (r ≥ 128)) ((.bool (r != 65533) : Value) = .bool (isLet r) ∧ w = w) ((.bool false : Value) = .bool (isLet r) ∧ w = w)) := fun h => by
    rw [h]
    refine ifB.by (fun h2 => ?_) (fun h2 => ?_)
    · rw [h2]; exact ⟨rfl, rfl⟩
    rw [h2, Bool.false_or]
    refine ifB.dec (fun h3 => ?_) (fun h3 => ?_)
    · rw [decide_eq_true (p := 128 ≤ r) (by omega)]; exact ⟨by rw [Bool.true_and], rfl⟩
    · rw [decide_eq_false (p := 128 ≤ r) (by omega)]; exact ⟨rfl, rfl⟩
  have mid : (decide (97 ≤ r) && decide (r ≤ 122)) = false → ifB (decide (r ≥ 48)) (ifB (decide (r ≤ 57)) ((.bool true : Value) = .bool (isLet r) ∧ w = w) (ifB (r == 95) ((.bool true : Value) = .bool (isLet r) ∧ w = w) (ifB (decide (r ≥ 128)) ((.bool (r != 65533) : Value) = .bool (isLet r) ∧ w = w) ((.bool false : Value) = .bool (isLet r) ∧ w = w))))
      (ifB (r == 95) ((.bool true : Value) = .bool (isLet r) ∧ w = w) (ifB (decide (r ≥ 128)) ((.bool (r != 65533) : Value) = .bool (isLet r) ∧ w = w) ((.bool false : Value) = .bool (isLet r) ∧ w = w))) := fun h => by
    refine ifB.dec (fun h1 => ?_) (fun h1 => ?_)
    · refine ifB.dec (fun h2 => ?_) (fun h2 => ?_)
      · refine ⟨?_, rfl⟩
        unfold isLet isDig
        rw [decide_eq_true (p := 48 ≤ r) (by omega), decide_eq_true (p := r ≤ 57) (by omega)]; simp
      · refine tl ?_
        unfold isLet isDig
        rw [h, decide_eq_false (p := r ≤ 57) (by omega), Bool.and_false, Bool.false_or, Bool.false_or]
    · refine tl ?_
      unfold isLet isDig
      rw [h, decide_eq_false (p := 48 ≤ r) (by omega), Bool.false_and, Bool.false_or, Bool.false_or]
  refine ifB.dec (fun h => ?_) (fun h => ?_)
  · refine ifB.dec (fun h2 => ?_) (fun h2 => ?_)
    · unfold isLet
      rw [decide_eq_true (p := 97 ≤ r) (by omega), decide_eq_true (p := r ≤ 122) (by omega)]; exact ⟨rfl, rfl⟩
    · exact mid (by rw [decide_eq_false (p := r ≤ 122) (by omega), Bool.and_false])
  · exact mid (by rw [decide_eq_false (p := 97 ≤ r) (by omega), Bool.false_and])

theorem rrunes_spec (bs : List UInt8) (hl : bs.length ≤ 1000000) (w : World) : Ret Tryz.prog 116 #[.string (str bs)] w fun r w' => ∃ v : Sl, r = .slice v.1 v.2.1 v.2.2 ∧ IsR w' v (runesL bs) ∧ Fr none1 w w' ∧ ∀ k, blkOf v k → w.heap.size ≤ k := by
  refine c116 _ w _ ?_
  refine range_okS bs fun r w1 hr hit f1 => ?_
  have hrl := runesL_len bs
  have s1 := f1.size
  refine LoopK.of (fun s w' => ∃ (done rest : List Int), runesL bs = done ++ rest ∧ IsR w' s.1 done ∧ (∀ k, blkOf s.1 k → w.heap.size < k) ∧ IsIt w' r rest ∧ Fr none1 w w') (fun _ w' => itLen w' r)
    ⟨[], _, rfl, .inl ⟨rfl, rfl⟩, (fun k ⟨a, ha, _⟩ => by cases ha), hit, f1⟩ ?_
  rintro _ ⟨v, _⟩ w2 ⟨done, rest, heq, hv, hvf, hit2, f2⟩
  dsimp only at hv hvf ⊢
  refine next_ok hit2 (fun c rest' pos w3 hc hok hit3 f3 => ?_) (fun hnil => ?_)
  · subst hc
    have hdl : done.length ≤ 1000000 := by
      have := congrArg List.length heq
      rw [List.length_append] at this; omega
    have fw3 : Fr none1 w w3 := f2.fresh f3 (by omega)
    have hv3 : IsR w3 v done := IsSl.keep hv f3 (fun k hk t => by have := hvf k hk; have : k = r := t; omega)
    refine r_snoc hv3 c hdl fun u w4 hu f4 uf => ?_
    have hit4 := hit3.keep f4 (fun t => by have := hvf r t; omega)
    have rlt := hit3.lt
    refine ⟨⟨done ++ [c], rest', by rw [heq]; simp, hu, fun k hk => ?_, hit4, fw3.comp f4 (fun k hk t => by have := hvf k t; omega)⟩, by rw [hit4.left, hit2.left]; simp⟩
    rcases uf k hk with t | t
    · exact hvf k t
    · omega
  · subst hnil
    rw [List.append_nil] at heq
    exact ⟨v, rfl, by rw [heq]; exact hv, f2, fun k hk => by have := hvf k hk; omega⟩

theorem rname_spec (bs : List UInt8) (hl : bs.length ≤ 1000000) (w : World) : Ret Tryz.prog 88 #[.string (str bs)] w fun v w' => v = .bool (nameF 0 (runesL bs)) ∧ Fr none1 w w' := by
  refine c88 _ w _ ?_
  refine CallK.of (rrunes_spec bs hl w) ?_
  rintro _ w1 ⟨v, rfl, hv, f1, _⟩
  refine ⟨v, rfl, ?_⟩
  have hrl := runesL_len bs
  generalize runesL bs = rs at *
  have hvl := hv.len
  have mem : ∀ j, j < rs.length → rs.getD j 0 ∈ rs := fun j hj => by rw [List.getD_eq_getElem?_getD, List.getElem?_eq_getElem hj]; exact List.getElem_mem _
  refine LoopK.of (fun s w' => w1 = w' ∧ 0 ≤ s.1 ∧ s.1 ≤ rs.length ∧ (∀ j : Nat, (j : Int) < s.1 → isLet (rs.getD j 0) = true) ∧ (0 < s.1 → isDig (rs.getD 0 0) = false)) (fun s _ => (rs.length - s.1).toNat)
    ⟨rfl, Int.le_refl _, by dsimp only; omega, fun j hj => by dsimp only at hj; omega, fun t => by dsimp only at t; omega⟩ ?_
  rintro _ ⟨i, _⟩ _ ⟨rfl, i0, i1, hlet, hdig⟩
  dsimp only at i0 i1 hlet hdig ⊢
  refine ifB.dec (fun hlt => ?_) (fun hge => ?_)
  · refine hv.ld i0 hlt ?_
    refine CallK.of (rletter_spec _ w1) ?_
    rintro _ _ ⟨rfl, rfl⟩
    refine ⟨_, rfl, ?_⟩
    have hi : i.toNat < rs.length := by omega
    refine ifB.by (fun hb => ?_) (fun hb => ?_)
    · refine ⟨?_, f1⟩
      rw [nameF_bad rs 0 ⟨_, mem _ hi, by simpa using hb⟩]
    have hli : isLet (rs.getD i.toNat 0) = true := by simpa using hb
    have next : (0 < i + 1 → isDig (rs.getD 0 0) = false) → ((w1 = w1 ∧ 0 ≤ IntKind.i64.wrap (i + 1) ∧ IntKind.i64.wrap (i + 1) ≤ rs.length ∧ (∀ j : Nat, (j : Int) < IntKind.i64.wrap (i + 1) → isLet (rs.getD j 0) = true) ∧ (0 < IntKind.i64.wrap (i + 1) → isDig (rs.getD 0 0) = false)) ∧ (rs.length - IntKind.i64.wrap (i + 1)).toNat < (rs.length - i).toNat) := fun hd => by
      rw [wI (by omega) (by omega)]
      refine ⟨⟨rfl, by omega, by omega, fun j hj => ?_, hd⟩, by omega⟩
      by_cases hji : (j : Int) < i
      · exact hlet j hji
      · rw [show j = i.toNat by omega]; exact hli
    refine ifB.eq (fun h0 => ?_) (fun h0 => ?_)
    · subst h0
      have e0 : (0 : Int).toNat = 0 := rfl
      refine hv.ld i0 hlt ?_
      rw [e0]
      have fin : isDig (rs.getD 0 0) = true → nameF 0 rs = false := fun hd => by
        cases rs with
        | nil => simp at hi
        | cons r l =>
          unfold nameF
          have hli : isLet r = true := hli
          rw [if_neg (by simp [hli]), if_pos ⟨rfl, hd⟩]
      refine ifB.dec (fun h48 => ?_) (fun h48 => ?_)
      · refine hv.ld i0 hlt ?_
        rw [e0]
        refine ifB.dec (fun h57 => ?_) (fun h57 => ?_)
        · refine ⟨?_, f1⟩
          rw [fin (by unfold isDig; rw [decide_eq_true (p := 48 ≤ rs.getD 0 0) (by omega), decide_eq_true (p := rs.getD 0 0 ≤ 57) (by omega)]; rfl)]
        · exact next fun _ => by unfold isDig; rw [decide_eq_false (p := rs.getD 0 0 ≤ 57) (by omega), Bool.and_false]
      · exact next fun _ => by unfold isDig; rw [decide_eq_false (p := 48 ≤ rs.getD 0 0) (by omega), Bool.false_and]
    · exact next fun _ => hdig (by omega)
  · have hall : ∀ r ∈ rs, isLet r = true := fun r hr => by
      obtain ⟨j, hj, rfl⟩ := List.mem_iff_getElem.1 hr
      have := hlet j (by omega)
      rwa [List.getD_eq_getElem?_getD, List.getElem?_eq_getElem hj] at this
    refine ifB.dec (fun h1 => ?_) (fun h1 => ?_)
    · refine ⟨?_, f1⟩
      rw [nameF_all rs 0 hall (fun _ => ?_) (by omega) (by omega)]
      · congr 1
        exact decide_eq_decide.2 (by omega)
      · have := hdig (by omega)
        cases rs with
        | nil => rfl
        | cons r l => exact this
    · refine ⟨?_, f1⟩
      have : rs = [] := List.eq_nil_of_length_eq_zero (by omega)
      rw [this]; rfl

theorem rvalid_spec (n : Int) (w : World) : Ret Tryz.prog 55 #[.int .i64 n] w fun r w' => r = .bool (decide (-1000000000000 ≤ n) && decide (n ≤ 1000000000000)) ∧ w = w' := by
  refine c55 n w _ ?_
  unfold C55
  refine ifB.dec (fun h => ?_) (fun h => ?_)
  · rw [decide_eq_true (show -1000000000000 ≤ n from h)]; exact ⟨rfl, rfl⟩
  · rw [decide_eq_false (show ¬ -1000000000000 ≤ n from h)]; exact ⟨rfl, rfl⟩

end Go.Proofs.YtdphmcanlhcokaaGreatDoor

/-! ### CRef04 -/
namespace Go.Proofs.YtdphmcanlhcokaaGreatDoor
open Vc
set_option maxRecDepth 100000
set_option linter.unusedVariables false
/-- handfast/handfastref04.form -/
def C118 (p0 : YZ3) (p1 : Bool) (w : World) (K : Value → World → Prop) : Prop :=
  NewK (.cells ((LZ3 p0).toArray) 41) w (fun g1 w2 => JoinK (Unit) (fun J3 => LdK (.int .i64) ((ad g1).add 0) w2 (fun (x6 : Int) => JoinK (Bool × Unit) (fun J7 => ifB (x6 == 1)
  (J7 ((x6 == 1), ()) w2)
  (ifB (x6 == 3)
  (J7 ((x6 == 3), ()) w2)
  (ifB (x6 == 4)
  (J7 ((x6 == 4), ()) w2)
  (ifB (x6 == 14)
  (J7 ((x6 == 14), ()) w2)
  (ifB (x6 == 13)
  (J7 ((x6 == 13), ()) w2)
  (ifB (x6 == 15)
  (J7 ((x6 == 15), ()) w2)
  (ifB (x6 == 16)
  (J7 ((x6 == 16), ()) w2)
  (ifB (x6 == 6)
  (J7 ((x6 == 6), ()) w2)
  (J7 ((x6 == 8), ()) w2)))))))))
  (fun _ s8 w9 => ifB s8.1
  (J3 (()) w9)
  (JoinK (Bool × Unit) (fun J10 => ifB (x6 == 2)
  (J10 ((x6 == 2), ()) w9)
  (ifB (x6 == 5)
  (J10 ((x6 == 5), ()) w9)
  (J10 ((x6 == 12), ()) w9)))
  (fun _ s11 w12 => ifB s11.1
  (LdK .str ((ad g1).add 1) w12 (fun (x13 : ByteArray) => CallK Tryz.prog 88 #[.string x13] w12 (.v (.one .bool)) (fun (x14 : Bool) w15 => ifB (!x14)
  (K (.bool false) w15)
  (J3 (()) w15))))
  (ifB (x6 == 7)
  (LdK (.int .i64) ((ad g1).add 2) w12 (fun (x16 : Int) => ifB (decide (x16 < 0))
  (K (.bool false) w12)
  (LdK (.int .i64) ((ad g1).add 2) w12 (fun (x17 : Int) => ifB (decide (x17 > 10000))
  (K (.bool false) w12)
  (J3 (()) w12)))))
  (ifB (x6 == 11)
  (LdK (.int .i64) ((ad g1).add 2) w12 (fun (x18 : Int) => CallK Tryz.prog 55 #[.int .i64 x18] w12 (.v (.one .bool)) (fun (x19 : Bool) w20 => ifB (!x19)
  (K (.bool false) w20)
  (J3 (()) w20))))
  (K (.bool false) w12))))))))
  (fun _ s4 w5 => LdK (.int .i64) ((ad g1).add 0) w5 (fun (x21 : Int) => ifB (!((decide (x21 ≥ 11)) == p1))
  (K (.bool false) w5)
  (LdK .slc ((ad g1).add 3) w5 (fun (x22 : SlT) => LoopK (Int × Unit) (fun _ s23 w24 next25 => ifB (decide (s23.1 < (x22.2.1 : Int)))
  (DrewK w24 (fun w26 => LdK .slc ((ad g1).add 3) w26 (fun (x27 : SlT) => IdxK x27.1 x27.2.1 s23.1 4 (fun a28 => LdsK KZ3 a28 w26 (fun (x29 : YZ3) => ifB p1
  (CallK Tryz.prog 118 #[.agg (LZ3 x29).toArray, .bool true] w26 (.v (.one .bool)) (fun (x30 : Bool) w31 => ifB (!x30)
  (K (.bool false) w31)
  (next25 (IntKind.i64.wrap (s23.1 + 1), ()) w31)))
  (ifB (s23.1 == 0)
  (LdK (.int .i64) ((ad g1).add 0) w26 (fun (x32 : Int) => ifB (x32 == 6)
  (CallK Tryz.prog 118 #[.agg (LZ3 x29).toArray, .bool true] w26 (.v (.one .bool)) (fun (x33 : Bool) w34 => ifB (!x33)
  (K (.bool false) w34)
  (next25 (IntKind.i64.wrap (s23.1 + 1), ()) w34)))
  (LdK (.int .i64) ((ad g1).add 0) w26 (fun (x35 : Int) => CallK Tryz.prog 118 #[.agg (LZ3 x29).toArray, .bool (x35 == 8)] w26 (.v (.one .bool)) (fun (x36 : Bool) w37 => ifB (!x36)
  (K (.bool false) w37)
  (next25 (IntKind.i64.wrap (s23.1 + 1), ()) w37))))))
  (CallK Tryz.prog 118 #[.agg (LZ3 x29).toArray, .bool false] w26 (.v (.one .bool)) (fun (x38 : Bool) w39 => ifB (!x38)
  (K (.bool false) w39)
  (next25 (IntKind.i64.wrap (s23.1 + 1), ()) w39)))))))))
  (K (.bool true) w24))
  (0, ()) w5)))))
def pl118 : Plan := (.seq .auto (.join [] (.seq .auto (.block (.join [(8, .one .bool)] .auto (.cond .auto (.join [(18, .one .bool)] .auto .auto))))) (.seq .auto (.seq (.seq .auto (.block (.loop [(50, .one (.int .i64))] (.seq .auto (.seq .auto (.seq (.block (.seq .auto (.seq (.tail 20) .auto))) .auto)))))) .auto))))
theorem e118 (p0 : YZ3) (p1 : Bool) (w : World) (K : Value → World → Prop) : vcFunc Tryz.prog Tryz.f118 pl118 [.agg (LZ3 p0).toArray, .bool p1] w K = C118 p0 p1 w K := by kernel_rfl
theorem c118 (p0 : YZ3) (p1 : Bool) (w : World) (K : Value → World → Prop) (h : C118 p0 p1 w K) : Ret Tryz.prog 118 #[.agg (LZ3 p0).toArray, .bool p1] w K := by
  rw [← e118] at h
  exact vcFunc_sound (by kernel_rfl) Tryz.func118 h

/-- handfast/handfastref04.Size -/
def C119 (p0 : YZ3) (w : World) (K : Value → World → Prop) : Prop :=
  NewK (.cells ((LZ3 p0).toArray) 41) w (fun g1 w2 => LdK (.int .i64) ((ad g1).add 0) w2 (fun (x3 : Int) => ifB (x3 == 0)
  (K (.tuple #[.int .i64 0, .int .i64 0]) w2)
  (LdK .slc ((ad g1).add 3) w2 (fun (x4 : SlT) => LoopK (Int × Int × Int × Unit) (fun _ s5 w6 next7 => ifB (decide (s5.2.2.1 < (x4.2.1 : Int)))
  (LdK .slc ((ad g1).add 3) w6 (fun (x8 : SlT) => IdxK x8.1 x8.2.1 s5.2.2.1 4 (fun a9 => LdsK KZ3 a9 w6 (fun (x10 : YZ3) => CallK Tryz.prog 119 #[.agg (LZ3 x10).toArray] w6 (.tup [.one (.int .i64), .one (.int .i64)]) (fun (x11 : Int × Int × Unit) w12 => next7 (IntKind.i64.wrap (s5.1 + x11.1), (if x11.2.1 > s5.2.1 then x11.2.1 else s5.2.1), IntKind.i64.wrap (s5.2.2.1 + 1), ()) w12)))))
  (K (.tuple #[.int .i64 s5.1, .int .i64 (IntKind.i64.wrap (s5.2.1 + 1))]) w6))
  (1, 0, 0, ()) w2))))
def pl119 : Plan := (.seq .auto (.seq .auto (.seq .auto (.seq (.seq .auto (.block (.loop [(4, .one (.int .i64)), (5, .one (.int .i64)), (15, .one (.int .i64))] .auto))) .auto))))
theorem e119 (p0 : YZ3) (w : World) (K : Value → World → Prop) : vcFunc Tryz.prog Tryz.f119 pl119 [.agg (LZ3 p0).toArray] w K = C119 p0 w K := by kernel_rfl
theorem c119 (p0 : YZ3) (w : World) (K : Value → World → Prop) (h : C119 p0 w K) : Ret Tryz.prog 119 #[.agg (LZ3 p0).toArray] w K := by
  rw [← e119] at h
  exact vcFunc_sound (by kernel_rfl) Tryz.func119 h

/-- handfast/handfastref04.labels -/
def C120 (p0 : YZ3) (w : World) (K : Value → World → Prop) : Prop :=
  NewK (.cells ((LZ3 p0).toArray) 41) w (fun g1 w2 => JoinK (SlT × Unit) (fun J3 => LdK (.int .i64) ((ad g1).add 0) w2 (fun (x6 : Int) => ifB (x6 == 5)
  (LdK .str ((ad g1).add 1) w2 (fun (x7 : ByteArray) => RunK Tryz.prog (Instr.buildSlice 27 1 #[(0, .string x7)]) w2 (.v (.one .slc)) (fun (x8 : SlT) w9 => RunK Tryz.prog (Builtin.append_ #[27, 27] 27 #[.slice none 0 0, .slice x8.1 x8.2.1 x8.2.2]) w9 (.v (.one .slc)) (fun (x10 : SlT) w11 => J3 ((x10.1, x10.2.1, x10.2.2), ()) w11))))
  (J3 ((none, 0, 0), ()) w2)))
  (fun _ s4 w5 => LdK .slc ((ad g1).add 3) w5 (fun (x12 : SlT) => LoopK (SlT × Int × Unit) (fun _ s13 w14 next15 => ifB (decide (s13.2.1 < (x12.2.1 : Int)))
  (LdK .slc ((ad g1).add 3) w14 (fun (x16 : SlT) => IdxK x16.1 x16.2.1 s13.2.1 4 (fun a17 => LdsK KZ3 a17 w14 (fun (x18 : YZ3) => CallK Tryz.prog 120 #[.agg (LZ3 x18).toArray] w14 (.v (.one .slc)) (fun (x19 : SlT) w20 => RunK Tryz.prog (Builtin.append_ #[27, 27] 27 #[.slice s13.1.1 s13.1.2.1 s13.1.2.2, .slice x19.1 x19.2.1 x19.2.2]) w20 (.v (.one .slc)) (fun (x21 : SlT) w22 => next15 ((x21.1, x21.2.1, x21.2.2), IntKind.i64.wrap (s13.2.1 + 1), ()) w22))))))
  (K (.slice s13.1.1 s13.1.2.1 s13.1.2.2) w14))
  ((s4.1.1, s4.1.2.1, s4.1.2.2), 0, ()) w5)))
def pl120 : Plan := (.seq .auto (.seq .auto (.join [(3, .one .slc)] .auto (.seq (.seq .auto (.block (.loop [(3, .one .slc), (16, .one (.int .i64))] .auto))) .auto))))
theorem e120 (p0 : YZ3) (w : World) (K : Value → World → Prop) : vcFunc Tryz.prog Tryz.f120 pl120 [.agg (LZ3 p0).toArray] w K = C120 p0 w K := by kernel_rfl
theorem c120 (p0 : YZ3) (w : World) (K : Value → World → Prop) (h : C120 p0 w K) : Ret Tryz.prog 120 #[.agg (LZ3 p0).toArray] w K := by
  rw [← e120] at h
  exact vcFunc_sound (by kernel_rfl) Tryz.func120 h

/-- handfast/handfastref04.Check -/
def C89 (p0 : YZ3) (p1 : Bool) (w : World) (K : Value → World → Prop) : Prop :=
  NewK (.cells ((LZ3 p0).toArray) 41) w (fun g1 w2 => LdsK KZ3 (ad g1) w2 (fun (x3 : YZ3) => CallK Tryz.prog 118 #[.agg (LZ3 x3).toArray, .bool p1] w2 (.v (.one .bool)) (fun (x4 : Bool) w5 => ifB (!x4)
  (K (.int .i64 2) w5)
  (LdsK KZ3 (ad g1) w5 (fun (x6 : YZ3) => CallK Tryz.prog 119 #[.agg (LZ3 x6).toArray] w5 (.tup [.one (.int .i64), .one (.int .i64)]) (fun (x7 : Int × Int × Unit) w8 => ifB (decide (x7.1 > 60))
  (K (.int .i64 5) w8)
  (ifB (decide (x7.2.1 > 12))
  (K (.int .i64 5) w8)
  (LdsK KZ3 (ad g1) w8 (fun (x9 : YZ3) => CallK Tryz.prog 120 #[.agg (LZ3 x9).toArray] w8 (.v (.one .slc)) (fun (x10 : SlT) w11 => LoopK (Int × Unit) (fun _ s12 w13 next14 => ifB (decide (s12.1 < (x10.2.1 : Int)))
  (LoopK (Int × Unit) (fun _ s15 w16 next17 => ifB (decide (s15.1 < s12.1))
  (DrewK w16 (fun w18 => IdxK x10.1 x10.2.1 s12.1 1 (fun a19 => LdK .str a19 w18 (fun (x20 : ByteArray) => IdxK x10.1 x10.2.1 s15.1 1 (fun a21 => LdK .str a21 w18 (fun (x22 : ByteArray) => ifB (x20.toList == x22.toList)
  (K (.int .i64 4) w18)
  (next17 (IntKind.i64.wrap (s15.1 + 1), ()) w18)))))))
  (next14 (IntKind.i64.wrap (s12.1 + 1), ()) w16))
  (0, ()) w13)
  (K (.int .i64 0) w13))
  (0, ()) w11))))))))))
def pl89 : Plan := (.seq .auto (.seq .auto (.seq .auto (.seq .auto (.seq (.seq .auto (.block (.loop [(29, .one (.int .i64))] (.seq .auto (.seq .auto (.seq (.block (.seq .auto (.seq .auto (.block (.loop [(9, .one (.int .i64))] (.seq .auto (.seq (.block (.seq .still .auto)) .auto))))))) .auto)))))) .auto)))))
theorem e89 (p0 : YZ3) (p1 : Bool) (w : World) (K : Value → World → Prop) : vcFunc Tryz.prog Tryz.f89 pl89 [.agg (LZ3 p0).toArray, .bool p1] w K = C89 p0 p1 w K := by kernel_rfl
theorem c89 (p0 : YZ3) (p1 : Bool) (w : World) (K : Value → World → Prop) (h : C89 p0 p1 w K) : Ret Tryz.prog 89 #[.agg (LZ3 p0).toArray, .bool p1] w K := by
  rw [← e89] at h
  exact vcFunc_sound (by kernel_rfl) Tryz.func89 h

/-- handfast/handfastref04.word -/
def C121 (p0 : Int) (w : World) (K : Value → World → Prop) : Prop :=
  RunK Tryz.prog (Instr.buildSlice 27 17 #[(0, .string (⟨#[]⟩ : ByteArray)), (1, .string (⟨#[122, 101, 114, 111]⟩ : ByteArray)), (2, .string (⟨#[111, 110, 101]⟩ : ByteArray)), (3, .string (⟨#[103, 105, 118, 101]⟩ : ByteArray)), (4, .string (⟨#[97, 110, 100]⟩ : ByteArray)), (5, .string (⟨#[111, 114]⟩ : ByteArray)), (6, .string (⟨#[115, 99, 97, 108, 101]⟩ : ByteArray)), (7, .string (⟨#[119, 104, 101, 110]⟩ : ByteArray)), (8, .string (⟨#[105, 102]⟩ : ByteArray)), (9, .string (⟨#[]⟩ : ByteArray)), (10, .string (⟨#[]⟩ : ByteArray)), (11, .string (⟨#[]⟩ : ByteArray)), (12, .string (⟨#[102, 105, 120]⟩ : ByteArray)), (13, .string (⟨#[97, 100, 100]⟩ : ByteArray)), (14, .string (⟨#[110, 101, 103]⟩ : ByteArray)), (15, .string (⟨#[109, 117, 108]⟩ : ByteArray)), (16, .string (⟨#[109, 97, 120]⟩ : ByteArray))]) w (.v (.one .slc)) (fun (x1 : SlT) w2 => IdxK x1.1 x1.2.1 p0 1 (fun a3 => LdK .str a3 w2 (fun (x4 : ByteArray) => K (.string x4) w2)))
def pl121 : Plan := .auto
theorem e121 (p0 : Int) (w : World) (K : Value → World → Prop) : vcFunc Tryz.prog Tryz.f121 pl121 [.int .i64 p0] w K = C121 p0 w K := by kernel_rfl
theorem c121 (p0 : Int) (w : World) (K : Value → World → Prop) (h : C121 p0 w K) : Ret Tryz.prog 121 #[.int .i64 p0] w K := by
  rw [← e121] at h
  exact vcFunc_sound (by kernel_rfl) Tryz.func121 h

/-- handfast/handfastref04.text -/
def C90 (p0 : YZ3) (w : World) (K : Value → World → Prop) : Prop :=
  NewK (.cells ((LZ3 p0).toArray) 41) w (fun g1 w2 => LdK (.int .i64) ((ad g1).add 0) w2 (fun (x3 : Int) => ifB (x3 == 11)
  (LdK (.int .i64) ((ad g1).add 2) w2 (fun (x4 : Int) => CallK Tryz.prog 83 #[.int .i64 x4] w2 (.v (.one .str)) (fun (x5 : ByteArray) w6 => K (.string x5) w6)))
  (ifB (x3 == 1)
  (K (.string (⟨#[122, 101, 114, 111]⟩ : ByteArray)) w2)
  (LdK (.int .i64) ((ad g1).add 0) w2 (fun (x7 : Int) => CallK Tryz.prog 121 #[.int .i64 x7] w2 (.v (.one .str)) (fun (x8 : ByteArray) w9 => CatK x8 (⟨#[40]⟩ : ByteArray) (JoinK (ByteArray × ByteArray × Unit) (fun J10 => JoinK (Bool × Unit) (fun J13 => LdK (.int .i64) ((ad g1).add 0) w9 (fun (x16 : Int) => ifB (x16 == 2)
  (J13 (true, ()) w9)
  (LdK (.int .i64) ((ad g1).add 0) w9 (fun (x17 : Int) => ifB (x17 == 5)
  (J13 (true, ()) w9)
  (LdK (.int .i64) ((ad g1).add 0) w9 (fun (x18 : Int) => J13 ((x18 == 12), ()) w9))))))
  (fun _ s14 w15 => ifB s14.1
  (LdK .str ((ad g1).add 1) w15 (fun (x19 : ByteArray) => CatK (x8 ++ (⟨#[40]⟩ : ByteArray)) x19 (J10 (((x8 ++ (⟨#[40]⟩ : ByteArray)) ++ x19), (⟨#[44]⟩ : ByteArray), ()) w15)))
  (J10 ((x8 ++ (⟨#[40]⟩ : ByteArray)), (⟨#[]⟩ : ByteArray), ()) w15)))
  (fun _ s11 w12 => JoinK (ByteArray × ByteArray × Unit) (fun J20 => LdK (.int .i64) ((ad g1).add 0) w12 (fun (x23 : Int) => ifB (x23 == 7)
  (LdK (.int .i64) ((ad g1).add 2) w12 (fun (x24 : Int) => CallK Tryz.prog 83 #[.int .i64 x24] w12 (.v (.one .str)) (fun (x25 : ByteArray) w26 => CatK s11.1 x25 (J20 ((s11.1 ++ x25), (⟨#[44]⟩ : ByteArray), ()) w26))))
  (J20 (s11.1, s11.2.1, ()) w12)))
  (fun _ s21 w22 => LdK .slc ((ad g1).add 3) w22 (fun (x27 : SlT) => LoopK (ByteArray × ByteArray × Int × Unit) (fun _ s28 w29 next30 => ifB (decide (s28.2.2.1 < (x27.2.1 : Int)))
  (CatK s28.1 s28.2.1 (LdK .slc ((ad g1).add 3) w29 (fun (x31 : SlT) => IdxK x31.1 x31.2.1 s28.2.2.1 4 (fun a32 => LdsK KZ3 a32 w29 (fun (x33 : YZ3) => CallK Tryz.prog 90 #[.agg (LZ3 x33).toArray] w29 (.v (.one .str)) (fun (x34 : ByteArray) w35 => CatK (s28.1 ++ s28.2.1) x34 (next30 (((s28.1 ++ s28.2.1) ++ x34), (⟨#[44]⟩ : ByteArray), IntKind.i64.wrap (s28.2.2.1 + 1), ()) w35)))))))
  (CatK s28.1 (⟨#[41]⟩ : ByteArray) (K (.string (s28.1 ++ (⟨#[41]⟩ : ByteArray))) w29)))
  (s21.1, s21.2.1, 0, ()) w22))))))))))
def pl90 : Plan := (.seq .auto (.seq .auto (.seq .auto (.seq .auto (.join [(3, .one .str), (4, .one .str)] (.join [(31, .one .bool)] .auto .auto) (.join [(3, .one .str), (4, .one .str)] .auto (.seq (.seq .auto (.block (.loop [(3, .one .str), (4, .one .str), (47, .one (.int .i64))] .auto))) .auto)))))))
theorem e90 (p0 : YZ3) (w : World) (K : Value → World → Prop) : vcFunc Tryz.prog Tryz.f90 pl90 [.agg (LZ3 p0).toArray] w K = C90 p0 w K := by kernel_rfl
theorem c90 (p0 : YZ3) (w : World) (K : Value → World → Prop) (h : C90 p0 w K) : Ret Tryz.prog 90 #[.agg (LZ3 p0).toArray] w K := by
  rw [← e90] at h
  exact vcFunc_sound (by kernel_rfl) Tryz.func90 h

/-- handfast/handfastref04.Write -/
def C56 (p0 : YZ3) (p1 : Bool) (w : World) (K : Value → World → Prop) : Prop :=
  NewK (.cells ((LZ3 p0).toArray) 41) w (fun g1 w2 => LdsK KZ3 (ad g1) w2 (fun (x3 : YZ3) => CallK Tryz.prog 89 #[.agg (LZ3 x3).toArray, .bool p1] w2 (.v (.one (.int .i64))) (fun (x4 : Int) w5 => ifB (x4 != 0)
  (K (.tuple #[.string (⟨#[]⟩ : ByteArray), .int .i64 x4]) w5)
  (LdsK KZ3 (ad g1) w5 (fun (x6 : YZ3) => CallK Tryz.prog 90 #[.agg (LZ3 x6).toArray] w5 (.v (.one .str)) (fun (x7 : ByteArray) w8 => ifB (decide ((x7.size : Int) > 1000))
  (K (.tuple #[.string (⟨#[]⟩ : ByteArray), .int .i64 5]) w8)
  (K (.tuple #[.string x7, .int .i64 0]) w8)))))))
def pl56 : Plan := .auto
theorem e56 (p0 : YZ3) (p1 : Bool) (w : World) (K : Value → World → Prop) : vcFunc Tryz.prog Tryz.f56 pl56 [.agg (LZ3 p0).toArray, .bool p1] w K = C56 p0 p1 w K := by kernel_rfl
theorem c56 (p0 : YZ3) (p1 : Bool) (w : World) (K : Value → World → Prop) (h : C56 p0 p1 w K) : Ret Tryz.prog 56 #[.agg (LZ3 p0).toArray, .bool p1] w K := by
  rw [← e56] at h
  exact vcFunc_sound (by kernel_rfl) Tryz.func56 h

/-- handfast/handfastplay.Plain -/
def C87 (p0 : Value) (w : World) (K : Value → World → Prop) : Prop :=
  NewK (.cells #[.int .i64 0, .string (⟨#[]⟩ : ByteArray), .int .i64 0, .slice none 0 0] 41) w (fun g1 w2 => TaK p0 188 (.agg []) (fun (x3 : Unit) => NewK (.cells #[] 188) w2 (fun g4 w5 => StsK (ad g4) [] w5 (fun w6 => StsK (ad g1) [.int .i64 1, .string (⟨#[]⟩ : ByteArray), .int .i64 0, .slice none 0 0] w6 (fun w7 => LdsK KZ3 (ad g1) w7 (fun (x8 : YZ3) => K (.agg (LZ3 x8).toArray) w7)))))
  (TaK p0 102 (.agg [.str]) (fun (x9 : ByteArray × Unit) => NewK (.cells #[.string (⟨#[]⟩ : ByteArray)] 102) w2 (fun g10 w11 => StsK (ad g10) [.string x9.1] w11 (fun w12 => LdK .str ((ad g10).add 0) w12 (fun (x13 : ByteArray) => StsK (ad g1) [.int .i64 2, .string x13, .int .i64 0, .slice none 0 0] w12 (fun w14 => LdsK KZ3 (ad g1) w14 (fun (x15 : YZ3) => K (.agg (LZ3 x15).toArray) w14))))))
  (TaK p0 190 (.agg [.raw]) (fun (x16 : Value × Unit) => NewK (.cells #[.nilIface] 190) w2 (fun g17 w18 => StsK (ad g17) [x16.1] w18 (fun w19 => LdK .raw ((ad g17).add 0) w19 (fun (x20 : Value) => CallK Tryz.prog 87 #[x20] w19 (.v (.agg KZ3)) (fun (x21 : YZ3) w22 => RunK Tryz.prog (Instr.buildSlice 39 1 #[(0, .agg (LZ3 x21).toArray)]) w22 (.v (.one .slc)) (fun (x23 : SlT) w24 => StsK (ad g1) [.int .i64 3, .string (⟨#[]⟩ : ByteArray), .int .i64 0, .slice x23.1 x23.2.1 x23.2.2] w24 (fun w25 => LdsK KZ3 (ad g1) w25 (fun (x26 : YZ3) => K (.agg (LZ3 x26).toArray) w25))))))))
  (TaK p0 192 (.agg [.raw, .raw]) (fun (x27 : Value × Value × Unit) => NewK (.cells #[.nilIface, .nilIface] 192) w2 (fun g28 w29 => StsK (ad g28) [x27.1, x27.2.1] w29 (fun w30 => DrewK w30 (fun w31 => HoldK (fun S32 => InK S32 ((ad g28).add 0) (LdK .raw ((ad g28).add 0) w31 (fun (x33 : Value) => InK S32 ((ad g28).add 1) (LdK .raw ((ad g28).add 1) w31 (fun (x34 : Value) => CallK Tryz.prog 87 #[x33] w31 (.v (.agg KZ3)) (fun (x35 : YZ3) w36 => KeepK S32 w31 w36 (CallK Tryz.prog 87 #[x34] w36 (.v (.agg KZ3)) (fun (x37 : YZ3) w38 => KeepK S32 w36 w38 (CallK Tryz.prog 114 #[.int .i64 4, .agg (LZ3 x35).toArray, .agg (LZ3 x37).toArray] w38 (.v (.agg KZ3)) (fun (x39 : YZ3) w40 => KeepK S32 w38 w40 (StsK (ad g1) (LZ3 x39) w40 (fun w41 => KeepK S32 w40 w41 (LdsK KZ3 (ad g1) w41 (fun (x42 : YZ3) => K (.agg (LZ3 x42).toArray) w41))))))))))))))))))
  (TaK p0 194 (.agg [.str, .raw, .raw]) (fun (x43 : ByteArray × Value × Value × Unit) => NewK (.cells #[.string (⟨#[]⟩ : ByteArray), .nilIface, .nilIface] 194) w2 (fun g44 w45 => StsK (ad g44) [.string x43.1, x43.2.1, x43.2.2.1] w45 (fun w46 => DrewK w46 (fun w47 => HoldK (fun S48 => InK S48 ((ad g44).add 1) (LdK .raw ((ad g44).add 1) w47 (fun (x49 : Value) => InK S48 ((ad g44).add 2) (LdK .raw ((ad g44).add 2) w47 (fun (x50 : Value) => AndK (CallK Tryz.prog 87 #[x49] w47 (.v (.agg KZ3)) (fun (x51 : YZ3) w52 => KeepK S48 w47 w52 (AndK (CallK Tryz.prog 87 #[x50] w52 (.v (.agg KZ3)) (fun (x53 : YZ3) w54 => KeepK S48 w52 w54 (AndK (CallK Tryz.prog 114 #[.int .i64 5, .agg (LZ3 x51).toArray, .agg (LZ3 x53).toArray] w54 (.v (.agg KZ3)) (fun (x55 : YZ3) w56 => KeepK S48 w54 w56 (NewK (.cells #[.int .i64 0, .string (⟨#[]⟩ : ByteArray), .int .i64 0, .slice none 0 0] 41) w56 (fun g57 w58 => KeepK S48 w56 w58 (StsK (ad g57) (LZ3 x55) w58 (fun w59 => KeepK S48 w58 w59 (LdK .str ((ad g44).add 0) w59 (fun (x60 : ByteArray) => StK ((ad g57).add 1) (.string x60) w59 (fun w61 => LdsK KZ3 (ad g57) w61 (fun (x62 : YZ3) => StsK (ad g1) (LZ3 x62) w61 (fun w63 => LdsK KZ3 (ad g1) w63 (fun (x64 : YZ3) => K (.agg (LZ3 x64).toArray) w63))))))))))))
  (NewK (.cells #[.int .i64 0, .string (⟨#[]⟩ : ByteArray), .int .i64 0, .slice none 0 0] 41) w54 (fun g65 w66 => KeepK S48 w54 w66 (CallK Tryz.prog 114 #[.int .i64 5, .agg (LZ3 x51).toArray, .agg (LZ3 x53).toArray] w66 (.v (.agg KZ3)) (fun (x67 : YZ3) w68 => KeepK S48 w66 w68 (StsK (ad g65) (LZ3 x67) w68 (fun w69 => KeepK S48 w68 w69 (LdK .str ((ad g44).add 0) w69 (fun (x70 : ByteArray) => StK ((ad g65).add 1) (.string x70) w69 (fun w71 => LdsK KZ3 (ad g65) w71 (fun (x72 : YZ3) => StsK (ad g1) (LZ3 x72) w71 (fun w73 => LdsK KZ3 (ad g1) w73 (fun (x74 : YZ3) => K (.agg (LZ3 x74).toArray) w73)))))))))))))))
  (NewK (.cells #[.int .i64 0, .string (⟨#[]⟩ : ByteArray), .int .i64 0, .slice none 0 0] 41) w52 (fun g75 w76 => KeepK S48 w52 w76 (CallK Tryz.prog 87 #[x50] w76 (.v (.agg KZ3)) (fun (x77 : YZ3) w78 => KeepK S48 w76 w78 (CallK Tryz.prog 114 #[.int .i64 5, .agg (LZ3 x51).toArray, .agg (LZ3 x77).toArray] w78 (.v (.agg KZ3)) (fun (x79 : YZ3) w80 => KeepK S48 w78 w80 (StsK (ad g75) (LZ3 x79) w80 (fun w81 => KeepK S48 w80 w81 (LdK .str ((ad g44).add 0) w81 (fun (x82 : ByteArray) => StK ((ad g75).add 1) (.string x82) w81 (fun w83 => LdsK KZ3 (ad g75) w83 (fun (x84 : YZ3) => StsK (ad g1) (LZ3 x84) w83 (fun w85 => LdsK KZ3 (ad g1) w85 (fun (x86 : YZ3) => K (.agg (LZ3 x86).toArray) w85)))))))))))))))))
  (NewK (.cells #[.int .i64 0, .string (⟨#[]⟩ : ByteArray), .int .i64 0, .slice none 0 0] 41) w47 (fun g87 w88 => KeepK S48 w47 w88 (CallK Tryz.prog 87 #[x49] w88 (.v (.agg KZ3)) (fun (x89 : YZ3) w90 => KeepK S48 w88 w90 (CallK Tryz.prog 87 #[x50] w90 (.v (.agg KZ3)) (fun (x91 : YZ3) w92 => KeepK S48 w90 w92 (CallK Tryz.prog 114 #[.int .i64 5, .agg (LZ3 x89).toArray, .agg (LZ3 x91).toArray] w92 (.v (.agg KZ3)) (fun (x93 : YZ3) w94 => KeepK S48 w92 w94 (StsK (ad g87) (LZ3 x93) w94 (fun w95 => KeepK S48 w94 w95 (LdK .str ((ad g44).add 0) w95 (fun (x96 : ByteArray) => StK ((ad g87).add 1) (.string x96) w95 (fun w97 => LdsK KZ3 (ad g87) w97 (fun (x98 : YZ3) => StsK (ad g1) (LZ3 x98) w97 (fun w99 => LdsK KZ3 (ad g1) w99 (fun (x100 : YZ3) => K (.agg (LZ3 x100).toArray) w99)))))))))))))))))))))))))
  (TaK p0 197 (.agg [.raw, .raw]) (fun (x101 : Value × Value × Unit) => NewK (.cells #[.nilIface, .nilIface] 197) w2 (fun g102 w103 => StsK (ad g102) [x101.1, x101.2.1] w103 (fun w104 => DrewK w104 (fun w105 => HoldK (fun S106 => InK S106 ((ad g102).add 0) (LdK .raw ((ad g102).add 0) w105 (fun (x107 : Value) => InK S106 ((ad g102).add 1) (LdK .raw ((ad g102).add 1) w105 (fun (x108 : Value) => CallK Tryz.prog 115 #[x107] w105 (.v (.agg KZ3)) (fun (x109 : YZ3) w110 => KeepK S106 w105 w110 (CallK Tryz.prog 87 #[x108] w110 (.v (.agg KZ3)) (fun (x111 : YZ3) w112 => KeepK S106 w110 w112 (CallK Tryz.prog 114 #[.int .i64 6, .agg (LZ3 x109).toArray, .agg (LZ3 x111).toArray] w112 (.v (.agg KZ3)) (fun (x113 : YZ3) w114 => KeepK S106 w112 w114 (StsK (ad g1) (LZ3 x113) w114 (fun w115 => KeepK S106 w114 w115 (LdsK KZ3 (ad g1) w115 (fun (x116 : YZ3) => K (.agg (LZ3 x116).toArray) w115))))))))))))))))))
  (TaK p0 199 (.agg [.int .i64, .raw]) (fun (x117 : Int × Value × Unit) => NewK (.cells #[.int .i64 0, .nilIface] 199) w2 (fun g118 w119 => StsK (ad g118) [.int .i64 x117.1, x117.2.1] w119 (fun w120 => DrewK w120 (fun w121 => HoldK (fun S122 => InK S122 ((ad g118).add 0) (LdK (.int .i64) ((ad g118).add 0) w121 (fun (x123 : Int) => InK S122 ((ad g118).add 1) (LdK .raw ((ad g118).add 1) w121 (fun (x124 : Value) => CallK Tryz.prog 87 #[x124] w121 (.v (.agg KZ3)) (fun (x125 : YZ3) w126 => KeepK S122 w121 w126 (RunK Tryz.prog (Instr.buildSlice 39 1 #[(0, .agg (LZ3 x125).toArray)]) w126 (.v (.one .slc)) (fun (x127 : SlT) w128 => KeepK S122 w126 w128 (StsK (ad g1) [.int .i64 7, .string (⟨#[]⟩ : ByteArray), .int .i64 x123, .slice x127.1 x127.2.1 x127.2.2] w128 (fun w129 => KeepK S122 w128 w129 (LdsK KZ3 (ad g1) w129 (fun (x130 : YZ3) => K (.agg (LZ3 x130).toArray) w129))))))))))))))))
  (TaK p0 201 (.agg [.raw, .raw, .raw]) (fun (x131 : Value × Value × Value × Unit) => NewK (.cells #[.nilIface, .nilIface, .nilIface] 201) w2 (fun g132 w133 => StsK (ad g132) [x131.1, x131.2.1, x131.2.2.1] w133 (fun w134 => DrewK w134 (fun w135 => HoldK (fun S136 => InK S136 ((ad g132).add 0) (LdK .raw ((ad g132).add 0) w135 (fun (x137 : Value) => InK S136 ((ad g132).add 1) (LdK .raw ((ad g132).add 1) w135 (fun (x138 : Value) => InK S136 ((ad g132).add 2) (LdK .raw ((ad g132).add 2) w135 (fun (x139 : Value) => CallK Tryz.prog 115 #[x137] w135 (.v (.agg KZ3)) (fun (x140 : YZ3) w141 => KeepK S136 w135 w141 (CallK Tryz.prog 87 #[x138] w141 (.v (.agg KZ3)) (fun (x142 : YZ3) w143 => KeepK S136 w141 w143 (CallK Tryz.prog 87 #[x139] w143 (.v (.agg KZ3)) (fun (x144 : YZ3) w145 => KeepK S136 w143 w145 (RunK Tryz.prog (Instr.buildSlice 39 3 #[(0, .agg (LZ3 x140).toArray), (1, .agg (LZ3 x142).toArray), (2, .agg (LZ3 x144).toArray)]) w145 (.v (.one .slc)) (fun (x146 : SlT) w147 => KeepK S136 w145 w147 (StsK (ad g1) [.int .i64 8, .string (⟨#[]⟩ : ByteArray), .int .i64 0, .slice x146.1 x146.2.1 x146.2.2] w147 (fun w148 => KeepK S136 w147 w148 (LdsK KZ3 (ad g1) w148 (fun (x149 : YZ3) => K (.agg (LZ3 x149).toArray) w148))))))))))))))))))))))
  (StsK (ad g1) [.int .i64 0, .string (⟨#[]⟩ : ByteArray), .int .i64 0, .slice none 0 0] w2 (fun w150 => LdsK KZ3 (ad g1) w150 (fun (x151 : YZ3) => K (.agg (LZ3 x151).toArray) w150)))))))))))
def pl87 : Plan := (.seq .auto (.seq (.seq .auto (.block (.seq .auto (.cond .auto (.seq .auto (.cond .auto (.seq .auto (.cond .auto (.seq .auto (.cond (.seq .auto (.seq (.held (.soft 0 (.soft 1 (.soft 3 (.soft 4 (.pick 2 (.pick 5 (.pick 6 (.pick 7 .done .stop) .stop) .stop) .stop)))))) .auto)) (.seq .auto (.cond (.seq .auto (.seq (.held (.soft 0 (.soft 1 (.soft 3 (.soft 4 (.pick 2 (.pick 5 (.pick 6 (.pick 7 (.pick 8 .done .stop) .stop) (.pick 7 (.pick 6 (.pick 8 .done .stop) .stop) .stop)) (.pick 7 (.pick 5 (.pick 6 (.pick 8 .done .stop) .stop) .stop) .stop)) (.pick 7 (.pick 2 (.pick 5 (.pick 6 (.pick 8 .done .stop) .stop) .stop) .stop) .stop))))))) .auto)) (.seq .auto (.cond (.seq .auto (.seq (.held (.soft 0 (.soft 1 (.soft 3 (.soft 4 (.pick 2 (.pick 5 (.pick 6 (.pick 7 .done .stop) .stop) .stop) .stop)))))) .auto)) (.seq .auto (.cond (.seq .auto (.seq (.held (.soft 0 (.soft 1 (.soft 2 (.soft 3 (.pick 4 (.pick 5 (.soft 6 (.pick 7 .done .stop)) .stop) .stop)))))) .auto)) (.seq .auto (.cond (.seq .auto (.seq (.held (.soft 0 (.soft 1 (.soft 3 (.soft 4 (.soft 6 (.soft 7 (.pick 2 (.pick 5 (.pick 8 (.pick 9 (.soft 10 (.pick 11 .done .stop)) .stop) .stop) .stop) .stop)))))))) .auto)) .auto)))))))))))))))))) .auto))
theorem e87 (p0 : Value) (w : World) (K : Value → World → Prop) : vcFunc Tryz.prog Tryz.f87 pl87 [p0] w K = C87 p0 w K := by kernel_rfl
theorem c87 (p0 : Value) (w : World) (K : Value → World → Prop) (h : C87 p0 w K) : Ret Tryz.prog 87 #[p0] w K := by
  rw [← e87] at h
  exact vcFunc_sound (by kernel_rfl) Tryz.func87 h

/-- handfast/handfastplay.PlainObs -/
def C115 (p0 : Value) (w : World) (K : Value → World → Prop) : Prop :=
  NewK (.cells #[.int .i64 0, .string (⟨#[]⟩ : ByteArray), .int .i64 0, .slice none 0 0] 41) w (fun g1 w2 => TaK p0 108 (.agg [.int .i64]) (fun (x3 : Int × Unit) => NewK (.cells #[.int .i64 0] 108) w2 (fun g4 w5 => StsK (ad g4) [.int .i64 x3.1] w5 (fun w6 => LdK (.int .i64) ((ad g4).add 0) w6 (fun (x7 : Int) => StsK (ad g1) [.int .i64 11, .string (⟨#[]⟩ : ByteArray), .int .i64 x7, .slice none 0 0] w6 (fun w8 => LdsK KZ3 (ad g1) w8 (fun (x9 : YZ3) => K (.agg (LZ3 x9).toArray) w8))))))
  (TaK p0 210 (.agg [.str]) (fun (x10 : ByteArray × Unit) => NewK (.cells #[.string (⟨#[]⟩ : ByteArray)] 210) w2 (fun g11 w12 => StsK (ad g11) [.string x10.1] w12 (fun w13 => LdK .str ((ad g11).add 0) w13 (fun (x14 : ByteArray) => StsK (ad g1) [.int .i64 12, .string x14, .int .i64 0, .slice none 0 0] w13 (fun w15 => LdsK KZ3 (ad g1) w15 (fun (x16 : YZ3) => K (.agg (LZ3 x16).toArray) w15))))))
  (TaK p0 252 (.agg [.raw, .raw]) (fun (x17 : Value × Value × Unit) => NewK (.cells #[.nilIface, .nilIface] 252) w2 (fun g18 w19 => StsK (ad g18) [x17.1, x17.2.1] w19 (fun w20 => DrewK w20 (fun w21 => HoldK (fun S22 => InK S22 ((ad g18).add 0) (LdK .raw ((ad g18).add 0) w21 (fun (x23 : Value) => InK S22 ((ad g18).add 1) (LdK .raw ((ad g18).add 1) w21 (fun (x24 : Value) => CallK Tryz.prog 115 #[x23] w21 (.v (.agg KZ3)) (fun (x25 : YZ3) w26 => KeepK S22 w21 w26 (CallK Tryz.prog 115 #[x24] w26 (.v (.agg KZ3)) (fun (x27 : YZ3) w28 => KeepK S22 w26 w28 (CallK Tryz.prog 114 #[.int .i64 13, .agg (LZ3 x25).toArray, .agg (LZ3 x27).toArray] w28 (.v (.agg KZ3)) (fun (x29 : YZ3) w30 => KeepK S22 w28 w30 (StsK (ad g1) (LZ3 x29) w30 (fun w31 => KeepK S22 w30 w31 (LdsK KZ3 (ad g1) w31 (fun (x32 : YZ3) => K (.agg (LZ3 x32).toArray) w31))))))))))))))))))
  (TaK p0 254 (.agg [.raw]) (fun (x33 : Value × Unit) => NewK (.cells #[.nilIface] 254) w2 (fun g34 w35 => StsK (ad g34) [x33.1] w35 (fun w36 => LdK .raw ((ad g34).add 0) w36 (fun (x37 : Value) => CallK Tryz.prog 115 #[x37] w36 (.v (.agg KZ3)) (fun (x38 : YZ3) w39 => RunK Tryz.prog (Instr.buildSlice 39 1 #[(0, .agg (LZ3 x38).toArray)]) w39 (.v (.one .slc)) (fun (x40 : SlT) w41 => StsK (ad g1) [.int .i64 14, .string (⟨#[]⟩ : ByteArray), .int .i64 0, .slice x40.1 x40.2.1 x40.2.2] w41 (fun w42 => LdsK KZ3 (ad g1) w42 (fun (x43 : YZ3) => K (.agg (LZ3 x43).toArray) w42))))))))
  (TaK p0 255 (.agg [.raw, .raw]) (fun (x44 : Value × Value × Unit) => NewK (.cells #[.nilIface, .nilIface] 255) w2 (fun g45 w46 => StsK (ad g45) [x44.1, x44.2.1] w46 (fun w47 => DrewK w47 (fun w48 => HoldK (fun S49 => InK S49 ((ad g45).add 0) (LdK .raw ((ad g45).add 0) w48 (fun (x50 : Value) => InK S49 ((ad g45).add 1) (LdK .raw ((ad g45).add 1) w48 (fun (x51 : Value) => CallK Tryz.prog 115 #[x50] w48 (.v (.agg KZ3)) (fun (x52 : YZ3) w53 => KeepK S49 w48 w53 (CallK Tryz.prog 115 #[x51] w53 (.v (.agg KZ3)) (fun (x54 : YZ3) w55 => KeepK S49 w53 w55 (CallK Tryz.prog 114 #[.int .i64 15, .agg (LZ3 x52).toArray, .agg (LZ3 x54).toArray] w55 (.v (.agg KZ3)) (fun (x56 : YZ3) w57 => KeepK S49 w55 w57 (StsK (ad g1) (LZ3 x56) w57 (fun w58 => KeepK S49 w57 w58 (LdsK KZ3 (ad g1) w58 (fun (x59 : YZ3) => K (.agg (LZ3 x59).toArray) w58))))))))))))))))))
  (TaK p0 256 (.agg [.raw, .raw]) (fun (x60 : Value × Value × Unit) => NewK (.cells #[.nilIface, .nilIface] 256) w2 (fun g61 w62 => StsK (ad g61) [x60.1, x60.2.1] w62 (fun w63 => DrewK w63 (fun w64 => HoldK (fun S65 => InK S65 ((ad g61).add 0) (LdK .raw ((ad g61).add 0) w64 (fun (x66 : Value) => InK S65 ((ad g61).add 1) (LdK .raw ((ad g61).add 1) w64 (fun (x67 : Value) => CallK Tryz.prog 115 #[x66] w64 (.v (.agg KZ3)) (fun (x68 : YZ3) w69 => KeepK S65 w64 w69 (CallK Tryz.prog 115 #[x67] w69 (.v (.agg KZ3)) (fun (x70 : YZ3) w71 => KeepK S65 w69 w71 (CallK Tryz.prog 114 #[.int .i64 16, .agg (LZ3 x68).toArray, .agg (LZ3 x70).toArray] w71 (.v (.agg KZ3)) (fun (x72 : YZ3) w73 => KeepK S65 w71 w73 (StsK (ad g1) (LZ3 x72) w73 (fun w74 => KeepK S65 w73 w74 (LdsK KZ3 (ad g1) w74 (fun (x75 : YZ3) => K (.agg (LZ3 x75).toArray) w74))))))))))))))))))
  (StsK (ad g1) [.int .i64 0, .string (⟨#[]⟩ : ByteArray), .int .i64 0, .slice none 0 0] w2 (fun w76 => LdsK KZ3 (ad g1) w76 (fun (x77 : YZ3) => K (.agg (LZ3 x77).toArray) w76)))))))))
def pl115 : Plan := (.seq .auto (.seq (.seq .auto (.block (.seq .auto (.cond .auto (.seq .auto (.cond .auto (.seq .auto (.cond (.seq .auto (.seq (.held (.soft 0 (.soft 1 (.soft 3 (.soft 4 (.pick 2 (.pick 5 (.pick 6 (.pick 7 .done .stop) .stop) .stop) .stop)))))) .auto)) (.seq .auto (.cond .auto (.seq .auto (.cond (.seq .auto (.seq (.held (.soft 0 (.soft 1 (.soft 3 (.soft 4 (.pick 2 (.pick 5 (.pick 6 (.pick 7 .done .stop) .stop) .stop) .stop)))))) .auto)) (.seq .auto (.cond (.seq .auto (.seq (.held (.soft 0 (.soft 1 (.soft 3 (.soft 4 (.pick 2 (.pick 5 (.pick 6 (.pick 7 .done .stop) .stop) .stop) .stop)))))) .auto)) .auto)))))))))))))) .auto))
theorem e115 (p0 : Value) (w : World) (K : Value → World → Prop) : vcFunc Tryz.prog Tryz.f115 pl115 [p0] w K = C115 p0 w K := by kernel_rfl
theorem c115 (p0 : Value) (w : World) (K : Value → World → Prop) (h : C115 p0 w K) : Ret Tryz.prog 115 #[p0] w K := by
  rw [← e115] at h
  exact vcFunc_sound (by kernel_rfl) Tryz.func115 h

/-- handfast/handfastplay.two -/
def C114 (p0 : Int) (p1 : YZ3) (p2 : YZ3) (w : World) (K : Value → World → Prop) : Prop :=
  NewK (.cells ((LZ3 p1).toArray) 41) w (fun g1 w2 => NewK (.cells ((LZ3 p2).toArray) 41) w2 (fun g3 w4 => NewK (.cells #[.int .i64 0, .string (⟨#[]⟩ : ByteArray), .int .i64 0, .slice none 0 0] 41) w4 (fun g5 w6 => LdsK KZ3 (ad g1) w6 (fun (x7 : YZ3) => LdsK KZ3 (ad g3) w6 (fun (x8 : YZ3) => RunK Tryz.prog (Instr.buildSlice 39 2 #[(0, .agg (LZ3 x7).toArray), (1, .agg (LZ3 x8).toArray)]) w6 (.v (.one .slc)) (fun (x9 : SlT) w10 => StsK (ad g5) [.int .i64 p0, .string (⟨#[]⟩ : ByteArray), .int .i64 0, .slice x9.1 x9.2.1 x9.2.2] w10 (fun w11 => LdsK KZ3 (ad g5) w11 (fun (x12 : YZ3) => K (.agg (LZ3 x12).toArray) w11))))))))
def pl114 : Plan := .auto
theorem e114 (p0 : Int) (p1 : YZ3) (p2 : YZ3) (w : World) (K : Value → World → Prop) : vcFunc Tryz.prog Tryz.f114 pl114 [.int .i64 p0, .agg (LZ3 p1).toArray, .agg (LZ3 p2).toArray] w K = C114 p0 p1 p2 w K := by kernel_rfl
theorem c114 (p0 : Int) (p1 : YZ3) (p2 : YZ3) (w : World) (K : Value → World → Prop) (h : C114 p0 p1 p2 w K) : Ret Tryz.prog 114 #[.int .i64 p0, .agg (LZ3 p1).toArray, .agg (LZ3 p2).toArray] w K := by
  rw [← e114] at h
  exact vcFunc_sound (by kernel_rfl) Tryz.func114 h

end Go.Proofs.YtdphmcanlhcokaaGreatDoor

/-! ### RefTree -/
set_option linter.unusedVariables false
set_option maxRecDepth 100000
namespace Go.Proofs.YtdphmcanlhcokaaGreatDoor
open Vc

/-! ### Plain -/
def okK (k : Int) (s : List UInt8) (n : Int) : Bool :=
  if k = 1 ∨ k = 3 ∨ k = 4 ∨ k = 14 ∨ k = 13 ∨ k = 15 ∨ k = 16 ∨ k = 6 ∨ k = 8 then true
  else if k = 2 ∨ k = 5 ∨ k = 12 then nameL s
  else if k = 7 then decide (0 ≤ n) && decide (n ≤ 10000)
  else if k = 11 then validF n
  else false
mutual
def formR : Tr → Bool → Bool
  | .mk k s n ks, b => okK k s n && (decide (11 ≤ k) == b) && formRs ks b (k == 6 || k == 8)
def formRs : List Tr → Bool → Bool → Bool
  | [], _, _ => true
  | t :: ts, b, f => formR t (b || f) && formRs ts b false
end
mutual
def sizeR : Tr → Nat
  | .mk k _ _ ks => if k = 0 then 0 else sizeRs ks + 1
def sizeRs : List Tr → Nat
  | [] => 0
  | t :: ts => sizeR t + sizeRs ts
end
mutual
def depthR : Tr → Nat
  | .mk k _ _ ks => if k = 0 then 0 else depthRs ks + 1
def depthRs : List Tr → Nat
  | [] => 0
  | t :: ts => max (depthR t) (depthRs ts)
end
mutual
def labelsR : Tr → List (List UInt8)
  | .mk k s _ ks => (if k = 5 then [s] else []) ++ labelsRs ks
def labelsRs : List Tr → List (List UInt8)
  | [] => []
  | t :: ts => labelsR t ++ labelsRs ts
end
mutual
def cntR : Tr → Nat
  | .mk _ _ _ ks => cntRs ks + 1
def cntRs : List Tr → Nat
  | [] => 0
  | t :: ts => cntR t + cntRs ts
end
mutual
def shortR : Tr → Prop
  | .mk _ s _ ks => s.length ≤ 1000 ∧ shortRs ks
def shortRs : List Tr → Prop
  | [] => True
  | t :: ts => shortR t ∧ shortRs ts
end
def checkR (t : Tr) (b : Bool) : Int := if formR t b = false then 2 else if 60 < sizeR t then 5 else if 12 < depthR t then 5 else if (labelsR t).Nodup then 0 else 4

mutual
theorem sizeR_le : ∀ t : Tr, sizeR t ≤ cntR t
  | .mk k s n ks => by unfold sizeR cntR; have := sizeRs_le ks; split <;> omega
theorem sizeRs_le : ∀ ts : List Tr, sizeRs ts ≤ cntRs ts
  | [] => Nat.le_refl _
  | t :: ts => by unfold sizeRs cntRs; have := sizeR_le t; have := sizeRs_le ts; omega
end
mutual
theorem depthR_le : ∀ t : Tr, depthR t ≤ cntR t
  | .mk k s n ks => by unfold depthR cntR; have := depthRs_le ks; split <;> omega
theorem depthRs_le : ∀ ts : List Tr, depthRs ts ≤ cntRs ts
  | [] => Nat.le_refl _
  | t :: ts => by unfold depthRs cntRs; have := depthR_le t; have := depthRs_le ts; omega
end
mutual
theorem labelsR_le : ∀ t : Tr, (labelsR t).length ≤ cntR t
  | .mk k s n ks => by
    unfold labelsR cntR
    have := labelsRs_le ks
    rw [List.length_append]
    split <;> simp <;> omega
theorem labelsRs_le : ∀ ts : List Tr, (labelsRs ts).length ≤ cntRs ts
  | [] => Nat.le_refl _
  | t :: ts => by unfold labelsRs cntRs; have := labelsR_le t; have := labelsRs_le ts; rw [List.length_append]; omega
end
theorem cntR_pos (t : Tr) : 1 ≤ cntR t := by cases t; unfold cntR; omega
theorem cntRs_app : ∀ (a b : List Tr), cntRs (a ++ b) = cntRs a + cntRs b
  | [], b => by simp [cntRs]
  | t :: a, b => by simp only [List.cons_append, cntRs, cntRs_app a b]; omega
theorem cntRs_len : ∀ ts : List Tr, ts.length ≤ cntRs ts
  | [] => Nat.le_refl _
  | t :: ts => by unfold cntRs; have := cntR_pos t; have := cntRs_len ts; rw [List.length_cons]; omega
theorem cntRs_get {ts : List Tr} {i : Nat} {t : Tr} (h : ts[i]? = some t) : cntRs (ts.take i) + cntR t + cntRs (ts.drop (i + 1)) = cntRs ts := by
  have hi := (List.getElem?_eq_some_iff.1 h).1
  have e : ts = ts.take i ++ (t :: ts.drop (i + 1)) := by
    conv => lhs; rw [← List.take_append_drop i ts]
    rw [List.drop_eq_getElem_cons hi, (List.getElem?_eq_some_iff.1 h).2]
  conv => rhs; rw [e]
  rw [cntRs_app, show cntRs (t :: ts.drop (i + 1)) = cntR t + cntRs (ts.drop (i + 1)) from rfl]; omega
theorem shortRs_get : ∀ {ts : List Tr} {i : Nat} {t : Tr}, shortRs ts → ts[i]? = some t → shortR t
  | [], i, t, h, ht => by simp at ht
  | u :: us, 0, t, h, ht => by simp at ht; subst ht; exact h.1
  | u :: us, i + 1, t, h, ht => shortRs_get h.2 (by simpa using ht)
theorem sizeRs_app : ∀ (a b : List Tr), sizeRs (a ++ b) = sizeRs a + sizeRs b
  | [], b => by simp [sizeRs]
  | t :: a, b => by simp only [List.cons_append, sizeRs, sizeRs_app a b]; omega
theorem depthRs_app : ∀ (a b : List Tr), depthRs (a ++ b) = max (depthRs a) (depthRs b)
  | [], b => by simp [depthRs]
  | t :: a, b => by simp only [List.cons_append, depthRs, depthRs_app a b]; omega
theorem labelsRs_app : ∀ (a b : List Tr), labelsRs (a ++ b) = labelsRs a ++ labelsRs b
  | [], b => by simp [labelsRs]
  | t :: a, b => by simp only [List.cons_append, labelsRs, labelsRs_app a b, List.append_assoc]
theorem take_one {α : Type} {ts : List α} {i : Nat} {t : α} (h : ts[i]? = some t) : ts.take (i + 1) = ts.take i ++ [t] := by rw [List.take_add_one, h]; rfl
theorem drop_one {α : Type} {ts : List α} {i : Nat} {t : α} (h : ts[i]? = some t) : ts.drop i = t :: ts.drop (i + 1) := by
  have hi := (List.getElem?_eq_some_iff.1 h).1
  rw [List.drop_eq_getElem_cons hi, (List.getElem?_eq_some_iff.1 h).2]
theorem kid_lt {k : Int} {s : List UInt8} {n : Int} {ks : List Tr} {t : Tr} (h : t ∈ ks) : SizeOf.sizeOf t < SizeOf.sizeOf (Tr.mk k s n ks) := by
  have := List.sizeOf_lt_of_mem h
  simp only [Tr.mk.sizeOf_spec]; omega

/-! ### Contracts as trees -/
def shortO : Ob → Prop
  | .none => True
  | .const _ => True
  | .fix s => s.length ≤ 1000
  | .add l r | .mul l r | .max l r => shortO l ∧ shortO r
  | .neg o => shortO o
def shortT : Tm → Prop
  | .none => True
  | .zero => True
  | .one s => s.length ≤ 1000
  | .give t => shortT t
  | .and l r => shortT l ∧ shortT r
  | .or s l r => s.length ≤ 1000 ∧ shortT l ∧ shortT r
  | .scale o t => shortO o ∧ shortT t
  | .when _ t => shortT t
  | .cond o l r => shortO o ∧ shortT l ∧ shortT r
theorem cnt_trO (o : Ob) : cntR (trO o) ≤ 4 * nodesO o + 1 := by
  induction o <;> simp only [trO, cntR, cntRs, nodesO] <;> omega
theorem cnt_trT (t : Tm) : cntR (trT t) ≤ 4 * nodesT t + 1 := by
  induction t <;> simp only [trT, cntR, cntRs, nodesT] <;> (try have := cnt_trO) <;> first | omega | (rename_i o _ _; have := cnt_trO o; omega) | (rename_i o _ _ _ _; have := cnt_trO o; omega)
theorem short_trO (o : Ob) (h : shortO o) : shortR (trO o) := by
  induction o <;> simp_all [trO, shortR, shortRs, shortO]
theorem short_trT (t : Tm) (h : shortT t) : shortR (trT t) := by
  induction t <;> simp_all [trT, shortR, shortRs, shortT, short_trO]
theorem size_trO (o : Ob) : sizeR (trO o) = nodesO o := by
  induction o <;> simp_all [trO, sizeR, sizeRs, nodesO]
theorem size_trT (t : Tm) : sizeR (trT t) = nodesT t := by
  induction t <;> simp_all [trT, sizeR, sizeRs, nodesT, size_trO] <;> omega
theorem depth_trO (o : Ob) : depthR (trO o) = depthO o := by
  induction o <;> simp_all [trO, depthR, depthRs, depthO]
theorem depth_trT (t : Tm) : depthR (trT t) = depthT t := by
  induction t <;> simp_all [trT, depthR, depthRs, depthT, depth_trO] <;> omega
theorem labels_trO (o : Ob) : labelsR (trO o) = [] := by
  induction o <;> simp_all [trO, labelsR, labelsRs]
theorem labels_trT (t : Tm) : labelsR (trT t) = labelsT t := by
  induction t <;> simp_all [trT, labelsR, labelsRs, labelsT, labels_trO]
theorem form_trO (o : Ob) : formR (trO o) true = formO o := by
  induction o <;> simp_all [trO, formR, formRs, formO, okK]
theorem form_trT (t : Tm) : formR (trT t) false = formT t := by
  induction t <;> simp_all [trT, formR, formRs, formT, okK, form_trO]
theorem check_trT (t : Tm) : checkR (trT t) false = checkT t := by unfold checkR checkT; rw [form_trT, size_trT, depth_trT, labels_trT]

/-! ### What the functions do -/
theorem IsTr.kids {w : World} {S : Nat → Prop} {k : Int} {s : List UInt8} {n : Int} {ks : List Tr} {v : TV} (h : IsTr w S (.mk k s n ks) v) {i : Nat} {t : Tr} (ht : ks[i]? = some t) {K : TV → Prop} (hK : ∀ x, IsTr w S t x → K x) :
    IdxK v.2.2.2.1.1 v.2.2.2.1.2.1 (i : Int) 4 fun a => LdsK [.int .i64, .str, .int .i64, .slc] a w K := IdxK.out_ink (h.ld ht hK)

theorem rsize_spec : ∀ (t : Tr) (hn : cntR t ≤ 1000000) {w : World} {S : Nat → Prop} {v : TV} (h : IsTr w S t v), Ret Tryz.prog 119 #[tvA v] w fun r w' => r = .tuple #[.int .i64 (sizeR t : Int), .int .i64 (depthR t : Int)] ∧ Fr none1 w w'
  | .mk k s n ks, hn, w, S, v, h => by
    have ih : ∀ t ∈ ks, cntR t ≤ 1000000 → ∀ {w : World} {S : Nat → Prop} {v : TV}, IsTr w S t v → Ret Tryz.prog 119 #[tvA v] w fun r w' => r = .tuple #[.int .i64 (sizeR t : Int), .int .i64 (depthR t : Int)] ∧ Fr none1 w w' := fun t ht hn w S v h => rsize_spec t hn h
    refine c119 v w _ ?_
    unfold C119
    refine NewK.of fun g w1 hg hb f1 _ => LdK.fld hb (x := v.1) rfl ?_
    have h1 := h.keep0 f1
    rw [h.kind]
    unfold sizeR depthR
    unfold cntR at hn
    refine ifB.eq (fun hk => ?_) (fun hk => ?_)
    · subst hk; exact ⟨rfl, f1⟩
    rw [if_neg hk, if_neg hk]
    refine LdK.fld hb (x := v.2.2.2.1) rfl ?_
    have hl := h.len
    have hcl := cntRs_len ks
    refine LoopK.of (fun s w' => ∃ i : Nat, s.2.2.1 = i ∧ i ≤ ks.length ∧ s.1 = ((sizeRs (ks.take i) + 1 : Nat) : Int) ∧ s.2.1 = (depthRs (ks.take i) : Int) ∧ Fr none1 w1 w') (fun s _ => (ks.length - s.2.2.1).toNat)
      ⟨0, rfl, Nat.zero_le _, rfl, rfl, Fr.refl _ _⟩ ?_
    rintro _ ⟨a, b, i', _⟩ w3 ⟨i, hi, hil, ha, hb3, f3⟩
    dsimp only at hi ha hb3 ⊢
    subst hi ha hb3
    rw [hl]
    have hszb : sizeRs (ks.take i) ≤ cntRs ks := by
      have e := cntRs_app (ks.take i) (ks.drop i); rw [List.take_append_drop] at e; have := sizeRs_le (ks.take i); omega
    have hdb : depthRs (ks.take i) ≤ cntRs ks := by
      have e := cntRs_app (ks.take i) (ks.drop i); rw [List.take_append_drop] at e; have := depthRs_le (ks.take i); omega
    refine ifB.dec (fun hlt => ?_) (fun hge => ?_)
    · have hi2 : i < ks.length := by omega
      obtain ⟨t, ht⟩ : ∃ t, ks[i]? = some t := ⟨_, List.getElem?_eq_getElem hi2⟩
      have hcg := cntRs_get ht
      refine LdK.fld (f3.keep0 hb) (x := v.2.2.2.1) rfl ?_
      refine (h1.keep0 f3).kids ht fun x hx => ?_
      refine CallK.of (ih t (List.mem_of_getElem? ht) (by omega) hx) ?_
      rintro _ w4 ⟨rfl, f4⟩
      refine ⟨((sizeR t : Int), (depthR t : Int), ()), rfl, ?_⟩
      dsimp only
      have h5 := sizeR_le t
      have h6 := depthR_le t
      have h7 := sizeRs_le (ks.take i)
      refine ⟨⟨i + 1, by rw [wI (by omega) (by omega)]; omega, by omega, ?_, ?_, f3.trans f4⟩, by rw [wI (by omega) (by omega)]; omega⟩
      · rw [take_one ht, sizeRs_app, wI (by omega) (by omega)]
        simp only [sizeRs]; omega
      · rw [take_one ht, depthRs_app]
        simp only [depthRs]
        by_cases hm : depthRs (ks.take i) < depthR t
        · rw [if_pos (by omega)]; omega
        · rw [if_neg (by omega)]; omega
    · have : i = ks.length := by omega
      subst this
      rw [List.take_length] at hdb ⊢
      rw [wI (by omega) (by omega)]
      exact ⟨by simp, f1.trans f3⟩
termination_by t => SizeOf.sizeOf t
decreasing_by exact kid_lt ht

theorem rlabels_spec : ∀ (t : Tr) (hn : cntR t ≤ 1000000) {w : World} {S : Nat → Prop} {v : TV} (h : IsTr w S t v) (hS : ∀ k, S k → k < w.heap.size), Ret Tryz.prog 120 #[tvA v] w fun r w' => ∃ u : Sl, r = .slice u.1 u.2.1 u.2.2 ∧ IsSs w' u (labelsR t) ∧ Fr none1 w w' ∧ ∀ k, blkOf u k → w.heap.size ≤ k
  | .mk k s n ks, hn, w, S, v, h, hS => by
    have ih : ∀ t ∈ ks, cntR t ≤ 1000000 → ∀ {w : World} {S : Nat → Prop} {v : TV}, IsTr w S t v → (∀ k, S k → k < w.heap.size) → Ret Tryz.prog 120 #[tvA v] w fun r w' => ∃ u : Sl, r = .slice u.1 u.2.1 u.2.2 ∧ IsSs w' u (labelsR t) ∧ Fr none1 w w' ∧ ∀ k, blkOf u k → w.heap.size ≤ k :=
      fun t ht hn w S v h hS => rlabels_spec t hn h hS
    refine c120 v w _ ?_
    unfold C120
    refine NewK.of fun g w1 hg hb f1 hsz1 => ?_
    have h1 := h.keep0 f1
    unfold cntR at hn
    unfold labelsR
    refine JoinK.of (fun s' w' => IsSs w' s'.1 (if k = 5 then [s] else []) ∧ Fr none1 w1 w' ∧ ∀ k, blkOf s'.1 k → w1.heap.size ≤ k) ?_ ?_
    · refine LdK.fld hb (x := v.1) rfl ?_
      rw [h.kind]
      refine ifB.eq (fun hk => ?_) (fun hk => ?_)
      · refine LdK.fld hb (x := v.2.1) rfl ?_
        rw [h.name, if_pos hk]
        obtain ⟨u, w3, hr, hu, hul, f3, uf⟩ := one_ok (P := Tryz.prog) (w := w1) elem_str (sv s) rfl
        refine ⟨u, w3, hr, ?_⟩
        obtain ⟨x, w4, hr4, hx, f4, xf⟩ := ss_app (none_ss w3) (ys := [s]) hu.rd (by simp)
        refine ⟨x, w4, hr4, hx, f3.comp f4 (fun k _ t => (none_blk k t).elim), fun k hk => ?_⟩
        rcases xf k hk with t | t
        · exact (none_blk k t).elim
        · have := f3.size; omega
      · rw [if_neg hk]
        exact ⟨none_ss _, Fr.refl _ _, fun k t => (none_blk k t).elim⟩
    rintro _ ⟨s1, _⟩ w2 ⟨hs1, f2, sf⟩
    dsimp only at hs1 sf ⊢
    refine LdK.fld (f2.keep0 hb) (x := v.2.2.2.1) rfl ?_
    have hl := h.len
    have hcl := cntRs_len ks
    have h2 := h1.keep0 f2
    have hll := labelsRs_le ks
    refine LoopK.of (fun s' w' => ∃ i : Nat, s'.2.1 = i ∧ i ≤ ks.length ∧ IsSs w' s'.1 ((if k = 5 then [s] else []) ++ labelsRs (ks.take i)) ∧ Fr none1 w1 w' ∧ ∀ k, blkOf s'.1 k → w1.heap.size ≤ k) (fun s' _ => (ks.length - s'.2.1).toNat)
      ⟨0, rfl, Nat.zero_le _, by rw [List.take_zero]; simpa [labelsRs] using hs1, f2, sf⟩ ?_
    rintro _ ⟨u, i', _⟩ w3 ⟨i, hi, hil, hu, f3, uf⟩
    dsimp only at hi hu uf ⊢
    subst hi
    rw [hl]
    refine ifB.dec (fun hlt => ?_) (fun hge => ?_)
    · have hi2 : i < ks.length := by omega
      obtain ⟨t, ht⟩ : ∃ t, ks[i]? = some t := ⟨_, List.getElem?_eq_getElem hi2⟩
      have hcg := cntRs_get ht
      refine LdK.fld (f3.keep0 hb) (x := v.2.2.2.1) rfl ?_
      refine (h1.keep0 f3).kids ht fun x hx => ?_
      have hsz3 : w.heap.size ≤ w3.heap.size := (f1.trans f3).size
      refine CallK.of (ih t (List.mem_of_getElem? ht) (by omega) hx (fun k hk => by have := hS k hk; omega)) ?_
      rintro _ w4 ⟨y, rfl, hy, f4, yf⟩
      refine ⟨y, rfl, ?_⟩
      have hlb := labelsR_le t
      have hlt := labelsRs_le (ks.take i)
      obtain ⟨z, w5, hr5, hz, f5, zf⟩ := ss_app (hu.keep0 f4) (IsSl.rd hy) (by rw [List.length_append]; split <;> simp <;> omega)
      refine ⟨z, w5, hr5, ⟨i + 1, by rw [wI (by omega) (by omega)]; omega, by omega, ?_, ?_, ?_⟩, by rw [wI (by omega) (by omega)]; omega⟩
      · rw [take_one ht, labelsRs_app]
        simpa [labelsRs, List.append_assoc] using hz
      · exact (f3.trans f4).comp f5 (fun k hk t => by have := uf k t; have := hk; omega)
      · intro k hk
        rcases zf k hk with t | t
        · exact uf k t
        · have := (f3.trans f4).size; omega
    · have : i = ks.length := by omega
      subst this
      rw [List.take_length] at hu
      exact ⟨u, rfl, hu, f1.trans f3, fun k hk => by have := uf k hk; have := f1.size; omega⟩
termination_by t => SizeOf.sizeOf t
decreasing_by exact kid_lt ht

theorem rform_spec : ∀ (t : Tr) (b : Bool) (hn : cntR t ≤ 1000000) (hsh : shortR t) {w : World} {S : Nat → Prop} {v : TV} (h : IsTr w S t v), Ret Tryz.prog 118 #[tvA v, .bool b] w fun r w' => r = .bool (formR t b) ∧ Fr none1 w w'
  | .mk k s n ks, b, hn, hsh, w, S, v, h => by
    have ih : ∀ t ∈ ks, cntR t ≤ 1000000 → shortR t → ∀ (b : Bool) {w : World} {S : Nat → Prop} {v : TV}, IsTr w S t v → Ret Tryz.prog 118 #[tvA v, .bool b] w fun r w' => r = .bool (formR t b) ∧ Fr none1 w w' :=
      fun t ht hn hsh b w S v h => rform_spec t b hn hsh h
    refine c118 v b w _ ?_
    unfold C118
    refine NewK.of fun g w1 hg hb f1 hsz1 => ?_
    have h1 := h.keep0 f1
    unfold cntR at hn
    unfold shortR at hsh
    unfold formR
    refine JoinK.of (fun _ w' => okK k s n = true ∧ Fr none1 w1 w') ?_ ?_
    · refine LdK.fld hb (x := v.1) rfl ?_
      rw [h.kind]
      have any9 : ∀ {J : Bool × Unit → World → Prop} , (J (decide (k = 1 ∨ k = 3 ∨ k = 4 ∨ k = 14 ∨ k = 13 ∨ k = 15 ∨ k = 16 ∨ k = 6 ∨ k = 8), ()) w1) → True := fun _ => trivial
      refine JoinK.of (fun s' w' => s'.1 = decide (k = 1 ∨ k = 3 ∨ k = 4 ∨ k = 14 ∨ k = 13 ∨ k = 15 ∨ k = 16 ∨ k = 6 ∨ k = 8) ∧ w1 = w') ?_ ?_
      · repeat' (refine ifB.eq (fun e => ⟨?_, rfl⟩) (fun _ => ?_))
        all_goals first | (subst e; rfl) | skip
        simp only [*, false_or]
        by_cases e : k = 8 <;> simp [e]
      rintro _ ⟨c, _⟩ _ ⟨hc, rfl⟩
      dsimp only at hc ⊢
      refine ifB.by (fun e => ?_) (fun e => ?_)
      · refine ⟨?_, Fr.refl _ _⟩
        unfold okK
        rw [if_pos (of_decide_eq_true (hc.symm.trans e))]
      have hk9 := of_decide_eq_false (hc.symm.trans e)
      have hok : okK k s n = if k = 2 ∨ k = 5 ∨ k = 12 then nameL s else if k = 7 then decide (0 ≤ n) && decide (n ≤ 10000) else if k = 11 then validF n else false := by unfold okK; rw [if_neg hk9]
      refine JoinK.of (fun s' w' => s'.1 = decide (k = 2 ∨ k = 5 ∨ k = 12) ∧ w1 = w') ?_ ?_
      · repeat' (refine ifB.eq (fun e => ⟨?_, rfl⟩) (fun _ => ?_))
        all_goals first | (subst e; rfl) | skip
        simp only [*, false_or]
        by_cases e : k = 12 <;> simp [e]
      rintro _ ⟨d, _⟩ _ ⟨hd, rfl⟩
      dsimp only at hd ⊢
      refine ifB.by (fun e => ?_) (fun e => ?_)
      · rw [if_pos (of_decide_eq_true (hd.symm.trans e))] at hok
        refine LdK.fld hb (x := v.2.1) rfl ?_
        rw [h.name]
        refine CallK.of (rname_spec s (by omega) w1) ?_
        rintro _ w2 ⟨rfl, f2⟩
        refine ⟨_, rfl, ifB.not (ifB.by (fun e => ?_) (fun e => ?_))⟩
        · exact ⟨by rw [hok]; exact e, f2⟩
        · refine ⟨?_, f1.trans f2⟩
          rw [hok, show nameL s = false from e]; rfl
      · rw [if_neg (of_decide_eq_false (hd.symm.trans e))] at hok
        refine ifB.eq (fun e7 => ?_) (fun e7 => ?_)
        · rw [if_pos e7] at hok
          refine LdK.fld hb (x := v.2.2.1) rfl ?_
          rw [h.num]
          refine ifB.dec (fun hlo => ?_) (fun hlo => LdK.fld hb (x := v.2.2.1) rfl ?_)
          · refine ⟨?_, f1⟩
            rw [hok, decide_eq_false (show ¬ 0 ≤ n by omega)]; rfl
          rw [h.num]
          refine ifB.dec (fun hhi => ?_) (fun hhi => ?_)
          · refine ⟨?_, f1⟩
            rw [hok, decide_eq_false (show ¬ n ≤ 10000 by omega), Bool.and_false]; rfl
          · exact ⟨by rw [hok, decide_eq_true (show 0 ≤ n by omega), decide_eq_true (show n ≤ 10000 by omega)]; rfl, Fr.refl _ _⟩
        · rw [if_neg e7] at hok
          refine ifB.eq (fun e11 => ?_) (fun e11 => ?_)
          · rw [if_pos e11] at hok
            refine LdK.fld hb (x := v.2.2.1) rfl ?_
            rw [h.num]
            refine CallK.of (rvalid_spec n w1) ?_
            rintro _ _ ⟨rfl, rfl⟩
            refine ⟨_, rfl, ifB.not (ifB.by (fun e => ?_) (fun e => ?_))⟩
            · exact ⟨by rw [hok]; exact e, Fr.refl _ _⟩
            · refine ⟨?_, f1⟩
              rw [hok, show validF n = false from e]; rfl
          · rw [if_neg e11] at hok
            exact ⟨by rw [hok]; rfl, f1⟩
    rintro _ _ w2 ⟨hok, f2⟩
    rw [hok]
    have hb2 := f2.keep0 hb
    have h2 := h1.keep0 f2
    refine LdK.fld hb2 (x := v.1) rfl ?_
    rw [h.kind]
    refine ifB.not (ifB.by (fun e => ?_) (fun e => ?_))
    · have e' : (decide (11 ≤ k) == b) = true := e
      rw [e']
      refine LdK.fld hb2 (x := v.2.2.2.1) rfl ?_
      have hl := h.len
      have hcl := cntRs_len ks
      refine LoopK.of (fun s' w' => ∃ i : Nat, s'.1 = i ∧ i ≤ ks.length ∧ formRs ks b (k == 6 || k == 8) = formRs (ks.drop i) b ((k == 6 || k == 8) && decide (i = 0)) ∧ Fr none1 w1 w') (fun s' _ => (ks.length - s'.1).toNat)
        ⟨0, rfl, Nat.zero_le _, by simp, f2⟩ ?_
      rintro _ ⟨i', _⟩ w3 ⟨i, hi, hil, hF, f3⟩
      dsimp only at hi ⊢
      subst hi
      rw [hl]
      refine ifB.dec (fun hlt => ?_) (fun hge => ?_)
      · have hi2 : i < ks.length := by omega
        obtain ⟨t, ht⟩ : ∃ t, ks[i]? = some t := ⟨_, List.getElem?_eq_getElem hi2⟩
        have hcg := cntRs_get ht
        have hsht := shortRs_get hsh.2 ht
        rw [drop_one ht] at hF
        rw [show formRs (t :: ks.drop (i + 1)) b ((k == 6 || k == 8) && decide (i = 0)) = (formR t (b || (k == 6 || k == 8) && decide (i = 0)) && formRs (ks.drop (i + 1)) b false) from rfl] at hF
        refine DrewK.of fun w4 _ f4 => LdK.fld ((f3.trans f4).keep0 hb) (x := v.2.2.2.1) rfl ?_
        refine (h1.keep0 (f3.trans f4)).kids ht fun x hx => ?_
        have last : ∀ (c : Bool), (b || (k == 6 || k == 8) && decide (i = 0)) = c → CallK Tryz.prog 118 #[tvA x, .bool c] w4 (.v (.one .bool)) (fun (x30 : Bool) w31 => ifB (!x30)
            ((Value.bool false) = .bool (true && true && formRs ks b (k == 6 || k == 8)) ∧ Fr none1 w w31)
            ((∃ j : Nat, IntKind.i64.wrap ((i : Int) + 1) = j ∧ j ≤ ks.length ∧ formRs ks b (k == 6 || k == 8) = formRs (ks.drop j) b ((k == 6 || k == 8) && decide (j = 0)) ∧ Fr none1 w1 w31) ∧ (ks.length - IntKind.i64.wrap ((i : Int) + 1)).toNat < (ks.length - (i : Int)).toNat)) := fun c hc => by
          refine CallK.of (ih t (List.mem_of_getElem? ht) (by omega) hsht c hx) ?_
          rintro _ w5 ⟨rfl, f5⟩
          rw [hc] at hF
          refine ⟨_, rfl, ifB.not (ifB.by (fun e => ?_) (fun e => ?_))⟩
          · rw [e, Bool.true_and] at hF
            refine ⟨⟨i + 1, by rw [wI (by omega) (by omega)]; omega, by omega, ?_, (f3.trans f4).trans f5⟩, by rw [wI (by omega) (by omega)]; omega⟩
            rw [hF, decide_eq_false (show ¬ i + 1 = 0 by omega), Bool.and_false]
          · rw [e, Bool.false_and] at hF
            exact ⟨by rw [hF]; rfl, f1.trans ((f3.trans f4).trans f5)⟩
        refine ifB.by (fun eb => last true (by rw [eb]; rfl)) (fun eb => ?_)
        refine ifB.eq (fun ei => ?_) (fun ei => ?_)
        · have ei : i = 0 := by omega
          refine LdK.fld ((f3.trans f4).keep0 hb) (x := v.1) rfl ?_
          rw [h.kind]
          refine ifB.eq (fun e6 => last true (by rw [eb, e6, ei]; rfl)) (fun e6 => ?_)
          refine LdK.fld ((f3.trans f4).keep0 hb) (x := v.1) rfl ?_
          rw [h.kind]
          exact last (k == 8) (by rw [eb, ei, show (k == 6) = false from beq_false_of_ne e6]; simp)
        · exact last false (by rw [eb, decide_eq_false (show ¬ i = 0 by omega)]; simp)
      · have : i = ks.length := by omega
        subst this
        rw [List.drop_length] at hF
        exact ⟨by rw [hF]; rfl, f1.trans f3⟩
    · have e' : (decide (11 ≤ k) == b) = false := e
      rw [e']
      exact ⟨rfl, f1.trans f2⟩
termination_by t => SizeOf.sizeOf t
decreasing_by exact kid_lt ht

/-- The labels up to i are unlike. -/
def unlike (l : List (List UInt8)) (i j : Nat) : Prop := ∀ b a : Nat, a < b → (b < i ∨ b = i ∧ a < j) → l[a]? ≠ l[b]?
theorem unlike_all {l : List (List UInt8)} (h : unlike l l.length 0) : l.Nodup := by
  unfold List.Nodup
  rw [List.pairwise_iff_getElem]
  intro i j hi hj hij e
  exact h j i hij (.inl hj) (by rw [List.getElem?_eq_getElem hi, List.getElem?_eq_getElem hj, e])
theorem nodup_ne {l : List (List UInt8)} (h : l.Nodup) {i j : Nat} (hij : i < j) (hj : j < l.length) : l[i]? ≠ l[j]? := by
  unfold List.Nodup at h
  rw [List.pairwise_iff_getElem] at h
  rw [List.getElem?_eq_getElem (show i < l.length by omega), List.getElem?_eq_getElem hj]
  intro e
  exact h i j (by omega) hj hij (Option.some.inj e)

theorem rcheck_spec (t : Tr) (b : Bool) (hn : cntR t ≤ 1000000) (hsh : shortR t) {w : World} {S : Nat → Prop} {v : TV} (h : IsTr w S t v) (hS : ∀ k, S k → k < w.heap.size) :
    Ret Tryz.prog 89 #[tvA v, .bool b] w fun r w' => r = .int .i64 (checkR t b) ∧ Fr none1 w w' := by
  refine c89 v b w _ ?_
  unfold C89
  refine NewK.of fun g w1 hg hb f1 hsz1 => LdsK.blk (x := v) hb ?_
  unfold checkR
  refine CallK.of (rform_spec t b hn hsh (h.keep0 f1)) ?_
  rintro _ w2 ⟨rfl, f2⟩
  have f12 := f1.trans f2
  refine ⟨_, rfl, ifB.not (ifB.by (fun e => ?_) (fun e => by rw [if_pos e]; exact ⟨rfl, f12⟩))⟩
  rw [if_neg (by rw [e]; decide)]
  refine LdsK.blk (x := v) (f2.keep0 hb) ?_
  refine CallK.of (rsize_spec t hn (h.keep0 f12)) ?_
  rintro _ w3 ⟨rfl, f3⟩
  have f13 := f12.trans f3
  refine ⟨((sizeR t : Int), (depthR t : Int), ()), rfl, ?_⟩
  dsimp only
  refine ifB.dec (fun h60 => ?_) (fun h60 => ?_)
  · rw [if_pos (by omega)]; exact ⟨rfl, f13⟩
  rw [if_neg (by omega)]
  refine ifB.dec (fun h12 => ?_) (fun h12 => ?_)
  · rw [if_pos (by omega)]; exact ⟨rfl, f13⟩
  rw [if_neg (by omega)]
  refine LdsK.blk (x := v) ((f2.trans f3).keep0 hb) ?_
  refine CallK.of (rlabels_spec t hn (h.keep0 f13) (fun k hk => by have := hS k hk; have := f13.size; omega)) ?_
  rintro _ w4 ⟨u, rfl, hu, f4, _⟩
  have f14 := f13.trans f4
  refine ⟨u, rfl, ?_⟩
  have hul := hu.len
  have hle := labelsR_le t
  have rd : ∀ {i : Nat} {w5 : World} {K : ByteArray → Prop}, i < (labelsR t).length → Fr none1 w4 w5 → K (str ((labelsR t).getD i [])) → IdxK u.1 (labelsR t).length (i : Int) 1 fun p => LdK .str p w5 K := fun {i w5 K} hi f5 k => by
    rw [← hul]
    refine (hu.keep0 f5).ld (i := i) (s := (labelsR t).getD i []) ?_ k
    rw [List.getD_eq_getElem?_getD, List.getElem?_eq_getElem hi]; rfl
  refine LoopK.of (fun s w' => ∃ i : Nat, s.1 = i ∧ i ≤ (labelsR t).length ∧ unlike (labelsR t) i 0 ∧ Fr none1 w4 w') (fun s _ => ((labelsR t).length - s.1).toNat)
    ⟨0, rfl, Nat.zero_le _, fun b a hab hb => by omega, Fr.refl _ _⟩ ?_
  rintro _ ⟨i', _⟩ w5 ⟨i, hi, hil, hun, f5⟩
  dsimp only at hi ⊢
  subst hi
  rw [hul]
  refine ifB.dec (fun hlt => ?_) (fun hge => ?_)
  · have hi2 : i < (labelsR t).length := by omega
    refine LoopK.of (fun s w' => ∃ j : Nat, s.1 = j ∧ j ≤ i ∧ unlike (labelsR t) i j ∧ Fr none1 w4 w') (fun s _ => (i - s.1).toNat)
      ⟨0, rfl, Nat.zero_le _, hun, f5⟩ ?_
    rintro _ ⟨j', _⟩ w6 ⟨j, hj, hjl, hun6, f6⟩
    dsimp only at hj ⊢
    subst hj
    refine ifB.dec (fun hlt2 => ?_) (fun hge2 => ?_)
    · have hj2 : j < i := by omega
      refine DrewK.of fun w7 _ f7 => ?_
      refine rd hi2 (f6.trans f7) ?_
      refine rd (i := j) (by omega) (f6.trans f7) ?_
      refine ifB.by (fun e => ?_) (fun e => ?_)
      · rw [str_beq] at e
        have e2 := of_decide_eq_true e
        refine ⟨?_, (f14.trans f6).trans f7⟩
        rw [if_neg]
        intro hnd
        refine nodup_ne hnd hj2 hi2 ?_
        rw [List.getD_eq_getElem?_getD, List.getD_eq_getElem?_getD, List.getElem?_eq_getElem hi2, List.getElem?_eq_getElem (show j < _ by omega)] at e2
        rw [List.getElem?_eq_getElem hi2, List.getElem?_eq_getElem (show j < _ by omega)]
        simp only [Option.getD_some] at e2
        rw [e2]
      · refine ⟨⟨j + 1, by rw [wI (by omega) (by omega)]; omega, by omega, ?_, f6.trans f7⟩, by rw [wI (by omega) (by omega)]; omega⟩
        intro b a hab hb
        by_cases hc : b = i ∧ a = j
        · obtain ⟨rfl, rfl⟩ := hc
          intro e2
          rw [str_beq, List.getD_eq_getElem?_getD, List.getD_eq_getElem?_getD, e2] at e
          simp at e
        · exact hun6 b a hab (by omega)
    · have : j = i := by omega
      subst this
      refine ⟨⟨j + 1, by rw [wI (by omega) (by omega)]; omega, by omega, fun b a hab hb => hun6 b a hab (by omega), f6⟩, by rw [wI (by omega) (by omega)]; omega⟩
  · have : i = (labelsR t).length := by omega
    subst this
    rw [if_pos (unlike_all hun)]
    exact ⟨rfl, f14.trans f5⟩

end Go.Proofs.YtdphmcanlhcokaaGreatDoor

/-! ### CWithin -/
namespace Go.Proofs.YtdphmcanlhcokaaGreatDoor
open Vc
set_option maxRecDepth 100000
set_option linter.unusedVariables false
/-- handfast/handfastkeep.Within -/
def C14 (p0 : Int) (p1 : Int) (w : World) (K : Value → World → Prop) : Prop :=
  ifB (decide (p1 < 1))
  (K (.int .i64 0) w)
  (NzK p1 (ifB (decide ((p0.tmod p1) < 0))
  (K (.int .i64 (IntKind.i64.wrap ((p0.tmod p1) + p1))) w)
  (K (.int .i64 (p0.tmod p1)) w)))
def pl14 : Plan := .auto
theorem e14 (p0 : Int) (p1 : Int) (w : World) (K : Value → World → Prop) : vcFunc Tryz.prog Tryz.f14 pl14 [.int .i64 p0, .int .i64 p1] w K = C14 p0 p1 w K := by kernel_rfl
theorem c14 (p0 : Int) (p1 : Int) (w : World) (K : Value → World → Prop) (h : C14 p0 p1 w K) : Ret Tryz.prog 14 #[.int .i64 p0, .int .i64 p1] w K := by
  rw [← e14] at h
  exact vcFunc_sound (by kernel_rfl) Tryz.func14 h

end Go.Proofs.YtdphmcanlhcokaaGreatDoor

/-! ### WithinSpec -/
set_option linter.unusedVariables false
namespace Go.Proofs.YtdphmcanlhcokaaGreatDoor
open Vc

def within (v n : Int) : Int := if n < 1 then 0 else v % n

theorem within_lo (v n : Int) : 0 ≤ within v n := by unfold within; split; omega; exact Int.emod_nonneg _ (by omega)
theorem within_hi (v : Int) {n : Int} (h : 1 ≤ n) : within v n < n := by unfold within; rw [if_neg (by omega)]; exact Int.emod_lt_of_pos _ (by omega)

theorem within_spec (v n : Int) (w : World) (hn : n ≤ 9223372036854775807) :
    Ret Tryz.prog 14 #[.int .i64 v, .int .i64 n] w fun r w' => r = .int .i64 (within v n) ∧ w = w' := by
  refine c14 v n w _ ?_
  unfold C14 within
  refine ifB.dec (fun h => ?_) (fun h => ⟨by omega, ?_⟩)
  · rw [if_pos h]; exact ⟨rfl, rfl⟩
  · rw [if_neg h]
    have e : v.tmod n = if 0 ≤ v ∨ n ∣ v then v % n else v % n - n := by
      rw [Int.tmod_eq_emod]
      split <;> omega
    have b0 := Int.emod_nonneg v (show n ≠ 0 by omega)
    have b1 := Int.emod_lt_of_pos v (show 0 < n by omega)
    refine ifB.dec (fun h2 => ⟨?_, rfl⟩) (fun h2 => ⟨?_, rfl⟩)
    · split at e
      · omega
      · rw [wI (by omega) (by omega)]; congr 1; omega
    · split at e
      · rw [e]
      · omega

end Go.Proofs.YtdphmcanlhcokaaGreatDoor

/-! ### CDigG -/
namespace Go.Proofs.YtdphmcanlhcokaaGreatDoor
open Vc
set_option maxRecDepth 100000
set_option linter.unusedVariables false
/-- handfast/handfastref01.Digits -/
def C83 (p0 : Int) (w : World) (K : Value → World → Prop) : Prop :=
  ifB (decide (p0 < 0))
  (NzK 10 (CallK Tryz.prog 83 #[.int .i64 (IntKind.i64.wrap (0 - (p0.tmod 10)))] w (.v (.one .str)) (fun (x1 : ByteArray) w2 => ifB (decide (p0 > (-10)))
  (CatK (⟨#[45]⟩ : ByteArray) x1 (K (.string ((⟨#[45]⟩ : ByteArray) ++ x1)) w2))
  (NzK 10 (CallK Tryz.prog 83 #[.int .i64 (IntKind.i64.wrap (p0.tdiv 10))] w2 (.v (.one .str)) (fun (x3 : ByteArray) w4 => CatK x3 x1 (K (.string (x3 ++ x1)) w4)))))))
  (ifB (decide (p0 < 10))
  (RunK Tryz.prog (Instr.buildSlice 22 1 #[(0, .int .u8 (IntKind.u8.wrap (IntKind.i64.wrap (48 + p0))))]) w (.v (.one .slc)) (fun (x5 : SlT) w6 => RunK Tryz.prog (convert 22 9 (.slice x5.1 x5.2.1 x5.2.2)) w6 (.v (.one .str)) (fun (x7 : ByteArray) w8 => K (.string x7) w8)))
  (DrewK w (fun w9 => HoldK (fun S10 => NzK 10 (NzK 10 (AndK (CallK Tryz.prog 83 #[.int .i64 (IntKind.i64.wrap (p0.tdiv 10))] w9 (.v (.one .str)) (fun (x11 : ByteArray) w12 => KeepK S10 w9 w12 (KeepK S10 w12 w12 (RunK Tryz.prog (Instr.buildSlice 22 1 #[(0, .int .u8 (IntKind.u8.wrap (IntKind.i64.wrap (48 + (p0.tmod 10)))))]) w12 (.v (.one .slc)) (fun (x13 : SlT) w14 => KeepK S10 w12 w14 (RunK Tryz.prog (convert 22 9 (.slice x13.1 x13.2.1 x13.2.2)) w14 (.v (.one .str)) (fun (x15 : ByteArray) w16 => KeepK S10 w14 w16 (CatK x11 x15 (K (.string (x11 ++ x15)) w16)))))))))
  (KeepK S10 w9 w9 (AndK (CallK Tryz.prog 83 #[.int .i64 (IntKind.i64.wrap (p0.tdiv 10))] w9 (.v (.one .str)) (fun (x17 : ByteArray) w18 => KeepK S10 w9 w18 (RunK Tryz.prog (Instr.buildSlice 22 1 #[(0, .int .u8 (IntKind.u8.wrap (IntKind.i64.wrap (48 + (p0.tmod 10)))))]) w18 (.v (.one .slc)) (fun (x19 : SlT) w20 => KeepK S10 w18 w20 (RunK Tryz.prog (convert 22 9 (.slice x19.1 x19.2.1 x19.2.2)) w20 (.v (.one .str)) (fun (x21 : ByteArray) w22 => KeepK S10 w20 w22 (CatK x17 x21 (K (.string (x17 ++ x21)) w22))))))))
  (RunK Tryz.prog (Instr.buildSlice 22 1 #[(0, .int .u8 (IntKind.u8.wrap (IntKind.i64.wrap (48 + (p0.tmod 10)))))]) w9 (.v (.one .slc)) (fun (x23 : SlT) w24 => KeepK S10 w9 w24 (AndK (CallK Tryz.prog 83 #[.int .i64 (IntKind.i64.wrap (p0.tdiv 10))] w24 (.v (.one .str)) (fun (x25 : ByteArray) w26 => KeepK S10 w24 w26 (RunK Tryz.prog (convert 22 9 (.slice x23.1 x23.2.1 x23.2.2)) w26 (.v (.one .str)) (fun (x27 : ByteArray) w28 => KeepK S10 w26 w28 (CatK x25 x27 (K (.string (x25 ++ x27)) w28))))))
  (RunK Tryz.prog (convert 22 9 (.slice x23.1 x23.2.1 x23.2.2)) w24 (.v (.one .str)) (fun (x29 : ByteArray) w30 => KeepK S10 w24 w30 (CallK Tryz.prog 83 #[.int .i64 (IntKind.i64.wrap (p0.tdiv 10))] w30 (.v (.one .str)) (fun (x31 : ByteArray) w32 => KeepK S10 w30 w32 (CatK x31 x29 (K (.string (x31 ++ x29)) w32)))))))))))))))))
def pl83 : Plan := (.seq .auto (.seq .auto (.seq .auto (.seq (.held (.soft 0 (.soft 1 (.soft 3 (.soft 4 (.soft 5 (.pick 2 (.pick 6 (.pick 7 (.pick 8 (.soft 9 (.soft 10 .done)) .stop) .stop) .stop) (.pick 6 (.pick 2 (.pick 7 (.pick 8 (.soft 9 (.soft 10 .done)) .stop) .stop) (.pick 7 (.pick 2 (.pick 8 (.soft 9 (.soft 10 .done)) .stop) (.pick 8 (.pick 2 (.soft 9 (.soft 10 .done)) .stop) .stop)) .stop)) .stop)))))))) .auto))))
theorem e83 (p0 : Int) (w : World) (K : Value → World → Prop) : vcFunc Tryz.prog Tryz.f83 pl83 [.int .i64 p0] w K = C83 p0 w K := by kernel_rfl
theorem c83 (p0 : Int) (w : World) (K : Value → World → Prop) (h : C83 p0 w K) : Ret Tryz.prog 83 #[.int .i64 p0] w K := by
  rw [← e83] at h
  exact vcFunc_sound (by kernel_rfl) Tryz.func83 h

end Go.Proofs.YtdphmcanlhcokaaGreatDoor

/-! ### DigSpec -/
set_option linter.unusedVariables false
set_option maxRecDepth 100000
namespace Go.Proofs.YtdphmcanlhcokaaGreatDoor
open Vc

def dig1 (n : Nat) : List UInt8 := [UInt8.ofNat (48 + n)]
theorem elem_u8 : ElemOk Tryz.prog 22 5 1 (.int .u8 0) 1 := ⟨Tryz.underlying22, ⟨Tryz.t5, by kernel_rfl, rfl, rfl, rfl⟩, rfl, by decide⟩

/-- One byte, as a slice, then as a text. -/
theorem dig1_slice (x : Int) (n : Nat) (hx : x = (n : Int)) (hn : n < 10) (w : World) : ∃ (v : Sl) (w' : World), (Instr.buildSlice 22 1 #[(0, .int .u8 (IntKind.u8.wrap (IntKind.i64.wrap (48 + x))))]).run Tryz.prog w = .ok (.slice v.1 v.2.1 v.2.2) w' ∧
    IsSl w' 5 1 v [.int .u8 ((UInt8.ofNat (48 + n)).toNat : Int)] ∧ v.2.1 = 1 ∧ Fr none1 w w' := by
  have e : IntKind.u8.wrap (IntKind.i64.wrap (48 + x)) = ((UInt8.ofNat (48 + n)).toNat : Int) := by
    rw [wI (by omega) (by omega), IntKind.wrap_u8, u8_of (by omega)]; omega
  rw [e]
  obtain ⟨v, w1, r1, hv, hl, f1, _⟩ := one_ok (P := Tryz.prog) (w := w) elem_u8 (.int .u8 ((UInt8.ofNat (48 + n)).toNat : Int)) rfl
  exact ⟨v, w1, r1, hv, hl, f1⟩
theorem dig1_text {v : Sl} {w : World} {n : Nat} (hv : IsSl w 5 1 v [.int .u8 ((UInt8.ofNat (48 + n)).toNat : Int)]) (hl : v.2.1 = 1) :
    (convert 22 9 (.slice v.1 v.2.1 v.2.2)).run Tryz.prog w = .ok (.string (str (dig1 n))) w := by
  have hr := IsSl.rd hv
  cases hx : v.1 with
  | none => have := (hr.2.1 hx).1; omega
  | some a =>
    have hc := hr.2.2 a hx
    rw [hl]
    exact run_convert_bytes_back w 22 9 5 a v.2.2 [UInt8.ofNat (48 + n)] Tryz.underlying22 Tryz.underlying5 Tryz.underlying9 (fun j hj => by
      have : j = 0 := by simpa using hj
      subst this
      exact hc.1)

theorem dec_lo {n : Nat} (h : n < 10) : Lib.decDigits n = dig1 n := by rw [Lib.decDigits, dif_pos h]; rfl
theorem dec_hi {n : Nat} (h : ¬ n < 10) : Lib.decDigits n = Lib.decDigits (n / 10) ++ dig1 (n % 10) := by rw [Lib.decDigits, dif_neg h]; rfl
theorem dec_len : ∀ (k u : Nat), u < 10 ^ (k + 1) → (Lib.decDigits u).length ≤ k + 1
  | 0, u, h => by rw [dec_lo (by omega)]; simp [dig1]
  | k + 1, u, h => by
    by_cases hu : u < 10
    · rw [dec_lo hu]; simp [dig1]
    · rw [dec_hi hu, List.length_append]
      have := dec_len k (u / 10) (by rw [Nat.pow_succ] at h; omega)
      simp only [dig1, List.length_singleton]; omega
theorem cat_small {a b : ByteArray} {K : Prop} (h : a.size + b.size ≤ 1000000) (k : K) : CatK a b K := ⟨by show ((a.size + b.size : Nat) : Int) ≤ 9223372036854775807; omega, k⟩

theorem digits_nat : ∀ n : Nat, n ≤ 9223372036854775807 → ∀ w, Ret Tryz.prog 83 #[.int .i64 (n : Int)] w fun r w' => r = .string (str (Lib.decDigits n)) ∧ Fr none1 w w' := by
  intro n
  induction n using Nat.strongRecOn with
  | _ n ih =>
    intro hn w
    refine c83 _ w _ ?_
    unfold C83
    refine ifB.no (by omega) ?_
    by_cases h : n < 10
    · refine ifB.yes (by omega) ?_
      rw [dec_lo h]
      obtain ⟨v, w1, r1, hv, hl, f1⟩ := dig1_slice (n : Int) n rfl h w
      exact ⟨v, w1, r1, _, w1, dig1_text hv hl, rfl, f1⟩
    · refine ifB.no (by omega) ?_
      have hq : IntKind.i64.wrap ((n : Int).tdiv 10) = ((n / 10 : Nat) : Int) := by
        rw [Int.tdiv_eq_ediv_of_nonneg (by omega), wI (by omega) (by omega)]; omega
      have hm : (n : Int).tmod 10 = ((n % 10 : Nat) : Int) := by rw [Int.tmod_eq_emod_of_nonneg (by omega)]; omega
      rw [hq, hm, dec_hi h, ← str_app]
      have ih' := ih (n / 10) (by omega) (by omega)
      have hc : ∀ {K : Prop}, K → CatK (str (Lib.decDigits (n / 10))) (str (dig1 (n % 10))) K := fun k => by
        refine cat_small ?_ k
        have := dec_len 18 (n / 10) (by omega)
        rw [str_size, str_size]; simp only [dig1, List.length_singleton]; omega
      refine DrewK.of fun w0 _ f0 => HoldK.all ⟨by omega, ⟨by omega, ⟨?_, KeepK.of (Fr.refl _ _) ⟨?_, ?_⟩⟩⟩⟩
      · refine CallK.of (ih' w0) ?_
        rintro _ w1 ⟨rfl, f1⟩
        refine ⟨_, rfl, KeepK.of f1 (KeepK.of (Fr.refl _ _) ?_)⟩
        obtain ⟨v, w2, r2, hv, hl, f2⟩ := dig1_slice ((n % 10 : Nat) : Int) (n % 10) rfl (by omega) w1
        exact ⟨v, w2, r2, KeepK.of f2 ⟨_, w2, dig1_text hv hl, KeepK.of (Fr.refl _ _) (hc ⟨rfl, (f0.trans f1).trans f2⟩)⟩⟩
      · refine CallK.of (ih' w0) ?_
        rintro _ w1 ⟨rfl, f1⟩
        refine ⟨_, rfl, KeepK.of f1 ?_⟩
        obtain ⟨v, w2, r2, hv, hl, f2⟩ := dig1_slice ((n % 10 : Nat) : Int) (n % 10) rfl (by omega) w1
        exact ⟨v, w2, r2, KeepK.of f2 ⟨_, w2, dig1_text hv hl, KeepK.of (Fr.refl _ _) (hc ⟨rfl, (f0.trans f1).trans f2⟩)⟩⟩
      · obtain ⟨v, w1, r1, hv, hl, f1⟩ := dig1_slice ((n % 10 : Nat) : Int) (n % 10) rfl (by omega) w0
        refine ⟨v, w1, r1, KeepK.of f1 ⟨?_, ?_⟩⟩
        · refine CallK.of (ih' w1) ?_
          rintro _ w2 ⟨rfl, f2⟩
          exact ⟨_, rfl, KeepK.of f2 ⟨_, w2, dig1_text (hv.keep0 f2) hl, KeepK.of (Fr.refl _ _) (hc ⟨rfl, (f0.trans f1).trans f2⟩)⟩⟩
        · refine ⟨_, w1, dig1_text hv hl, KeepK.of (Fr.refl _ _) ?_⟩
          refine CallK.of (ih' w1) ?_
          rintro _ w2 ⟨rfl, f2⟩
          exact ⟨_, rfl, KeepK.of f2 (hc ⟨rfl, (f0.trans f1).trans f2⟩)⟩

theorem digits_neg : ∀ n : Nat, 1 ≤ n → n ≤ 9223372036854775808 → ∀ w, Ret Tryz.prog 83 #[.int .i64 (-(n : Int))] w fun r w' => r = .string (str (45 :: Lib.decDigits n)) ∧ Fr none1 w w' := by
  intro n
  induction n using Nat.strongRecOn with
  | _ n ih =>
    intro h1 hn w
    refine c83 _ w _ ?_
    unfold C83
    refine ifB.yes (by omega) ⟨by omega, ?_⟩
    have hm : IntKind.i64.wrap (0 - (-(n : Int)).tmod 10) = ((n % 10 : Nat) : Int) := by
      rw [Int.neg_tmod, Int.tmod_eq_emod_of_nonneg (by omega), wI (by omega) (by omega)]; omega
    rw [hm]
    refine CallK.of (digits_nat (n % 10) (by omega) w) ?_
    rintro _ w1 ⟨rfl, f1⟩
    refine ⟨_, rfl, ?_⟩
    by_cases h : n < 10
    · refine ifB.yes (by omega) ?_
      have : n % 10 = n := by omega
      rw [this, dec_lo h]
      exact cat_small (by rw [str_size]; simp only [dig1, List.length_singleton]; decide) ⟨by show Value.string (str [45] ++ str (dig1 n)) = _; rw [str_app]; rfl, f1⟩
    · refine ifB.no (by omega) ⟨by omega, ?_⟩
      have hq : IntKind.i64.wrap ((-(n : Int)).tdiv 10) = -((n / 10 : Nat) : Int) := by
        rw [Int.neg_tdiv, Int.tdiv_eq_ediv_of_nonneg (by omega), wI (by omega) (by omega)]; omega
      rw [hq]
      refine CallK.of (ih (n / 10) (by omega) (by omega) (by omega) w1) ?_
      rintro _ w2 ⟨rfl, f2⟩
      refine ⟨_, rfl, ?_⟩
      rw [dec_lo (show n % 10 < 10 by omega), dec_hi h]
      refine cat_small ?_ ⟨by rw [str_app]; rfl, f1.trans f2⟩
      have := dec_len 18 (n / 10) (by omega)
      rw [str_size, str_size]; simp only [dig1, List.length_nil, List.length_cons]; omega

theorem digits_spec (n : Int) (h0 : -9223372036854775808 ≤ n) (h1 : n ≤ 9223372036854775807) (w : World) : Ret Tryz.prog 83 #[.int .i64 n] w fun r w' => r = .string (str (Lib.itoa n)) ∧ Fr none1 w w' := by
  unfold Lib.itoa
  by_cases h : n < 0
  · rw [if_pos h]
    have := digits_neg n.natAbs (by omega) (by omega) w
    rwa [show -(n.natAbs : Int) = n by omega] at this
  · rw [if_neg h]
    have := digits_nat n.toNat (by omega) w
    rwa [show (n.toNat : Int) = n by omega] at this

end Go.Proofs.YtdphmcanlhcokaaGreatDoor

/-! ### CMakeG -/
namespace Go.Proofs.YtdphmcanlhcokaaGreatDoor
open Vc
set_option maxRecDepth 100000
set_option linter.unusedVariables false
/-- (*handfast/handfastplay.maker).n -/
def C141 (p0 : Addr) (p1 : Int) (w : World) (K : Value → World → Prop) : Prop :=
  DrewK w (fun w1 => LdK (.int .i64) (p0.add 2) w1 (fun (x2 : Int) => LdK .slc ((p0.add 0).add 0) w1 (fun (x3 : SlT) => ifB (decide (x2 < (x3.2.1 : Int)))
  (DrewK w1 (fun w4 => LdK .slc ((p0.add 0).add 0) w4 (fun (x5 : SlT) => LdK (.int .i64) (p0.add 2) w4 (fun (x6 : Int) => IdxK x5.1 x5.2.1 x6 1 (fun a7 => LdK (.int .i64) a7 w4 (fun (x8 : Int) => LdK (.int .i64) (p0.add 2) w4 (fun (x9 : Int) => StK (p0.add 2) (.int .i64 (IntKind.i64.wrap (x9 + 1))) w4 (fun w10 => CallK Tryz.prog 14 #[.int .i64 x8, .int .i64 p1] w10 (.v (.one (.int .i64))) (fun (x11 : Int) w12 => K (.int .i64 x11) w12)))))))))
  (LdK (.int .i64) (p0.add 2) w1 (fun (x13 : Int) => StK (p0.add 2) (.int .i64 (IntKind.i64.wrap (x13 + 1))) w1 (fun w14 => CallK Tryz.prog 14 #[.int .i64 0, .int .i64 p1] w14 (.v (.one (.int .i64))) (fun (x15 : Int) w16 => K (.int .i64 x15) w16)))))))
def pl141 : Plan := (.seq .auto (.seq .auto (.seq (.seq .still (.cond .still .auto)) .auto)))
theorem e141 (p0 : Addr) (p1 : Int) (w : World) (K : Value → World → Prop) : vcFunc Tryz.prog Tryz.f141 pl141 [.pointer (some p0), .int .i64 p1] w K = C141 p0 p1 w K := by kernel_rfl
theorem c141 (p0 : Addr) (p1 : Int) (w : World) (K : Value → World → Prop) (h : C141 p0 p1 w K) : Ret Tryz.prog 141 #[.pointer (some p0), .int .i64 p1] w K := by
  rw [← e141] at h
  exact vcFunc_sound (by kernel_rfl) Tryz.func141 h

/-- (*handfast/handfastplay.maker).word -/
def C142 (p0 : Addr) (p1 : Option Addr) (p1l p1c : Nat) (w : World) (K : Value → World → Prop) : Prop :=
  CallK Tryz.prog 141 #[.pointer (some p0), .int .i64 (IntKind.i64.wrap ((p1l : Int) + 6))] w (.v (.one (.int .i64))) (fun (x1 : Int) w2 => JoinK (Bool × Unit) (fun J3 => ifB (decide (x1 ≥ (p1l : Int)))
  (LdK .slc ((p0.add 0).add 1) w2 (fun (x6 : SlT) => ifB (decide ((x6.2.1 : Int) > 0))
  (NzK 7 (J3 (((x1.tmod 7) == 0), ()) w2))
  (J3 (false, ()) w2)))
  (J3 (false, ()) w2))
  (fun _ s4 w5 => ifB s4.1
  (DrewK w5 (fun w7 => LdK .slc ((p0.add 0).add 1) w7 (fun (x8 : SlT) => LdK .slc ((p0.add 0).add 1) w7 (fun (x9 : SlT) => NzK (x9.2.1 : Int) (IdxK x8.1 x8.2.1 (x1.tmod (x9.2.1 : Int)) 1 (fun a10 => LdK .str a10 w7 (fun (x11 : ByteArray) => CallK Tryz.prog 50 #[.string x11, .int .i64 14] w7 (.v (.one .str)) (fun (x12 : ByteArray) w13 => K (.string x12) w13))))))))
  (NzK (p1l : Int) (IdxK p1 p1l (x1.tmod (p1l : Int)) 1 (fun a14 => LdK .str a14 w5 (fun (x15 : ByteArray) => K (.string x15) w5))))))
def pl142 : Plan := (.seq .auto (.seq .auto (.seq (.join [(28, .one .bool)] .auto (.cond (.seq (.tail 15) .auto) .auto)) .auto)))
theorem e142 (p0 : Addr) (p1 : Option Addr) (p1l p1c : Nat) (w : World) (K : Value → World → Prop) : vcFunc Tryz.prog Tryz.f142 pl142 [.pointer (some p0), .slice p1 p1l p1c] w K = C142 p0 p1 p1l p1c w K := by kernel_rfl
theorem c142 (p0 : Addr) (p1 : Option Addr) (p1l p1c : Nat) (w : World) (K : Value → World → Prop) (h : C142 p0 p1 p1l p1c w K) : Ret Tryz.prog 142 #[.pointer (some p0), .slice p1 p1l p1c] w K := by
  rw [← e142] at h
  exact vcFunc_sound (by kernel_rfl) Tryz.func142 h

/-- (*handfast/handfastplay.maker).obs -/
def C143 (p0 : Addr) (p1 : Int) (w : World) (K : Value → World → Prop) : Prop :=
  NewK (.cells #[.int .i64 0, .string (⟨#[]⟩ : ByteArray), .int .i64 0, .slice none 0 0] 41) w (fun g1 w2 => LdK (.int .i64) (p0.add 3) w2 (fun (x3 : Int) => StK (p0.add 3) (.int .i64 (IntKind.i64.wrap (x3 - 1))) w2 (fun w4 => CallK Tryz.prog 141 #[.pointer (some p0), .int .i64 9] w4 (.v (.one (.int .i64))) (fun (x5 : Int) w6 => JoinK (Int × Unit) (fun J7 => JoinK (Bool × Unit) (fun J10 => ifB (decide (p1 ≤ 0))
  (J10 (true, ()) w6)
  (LdK (.int .i64) (p0.add 3) w6 (fun (x13 : Int) => J10 (decide (x13 ≤ 0), ()) w6)))
  (fun _ s11 w12 => ifB s11.1
  (NzK 3 (J7 ((x5.tmod 3), ()) w12))
  (J7 (x5, ()) w12)))
  (fun _ s8 w9 => JoinK (Unit) (fun J14 => JoinK (Bool × Unit) (fun J17 => ifB (s8.1 == 0)
  (J17 ((s8.1 == 0), ()) w9)
  (J17 ((s8.1 == 1), ()) w9))
  (fun _ s18 w19 => ifB s18.1
  (RunK Tryz.prog (Instr.buildSlice 26 10 #[(0, .int .i64 0), (1, .int .i64 1), (2, .int .i64 (-1)), (3, .int .i64 2), (4, .int .i64 100), (5, .int .i64 (-7)), (6, .int .i64 1000000), (7, .int .i64 1000000000000), (8, .int .i64 (-1000000000000)), (9, .int .i64 3)]) w19 (.v (.one .slc)) (fun (x20 : SlT) w21 => CallK Tryz.prog 141 #[.pointer (some p0), .int .i64 10] w21 (.v (.one (.int .i64))) (fun (x22 : Int) w23 => IdxK x20.1 x20.2.1 x22 1 (fun a24 => LdK (.int .i64) a24 w23 (fun (x25 : Int) => StsK (ad g1) [.int .i64 11, .string (⟨#[]⟩ : ByteArray), .int .i64 x25, .slice none 0 0] w23 (fun w26 => LdsK KZ3 (ad g1) w26 (fun (x27 : YZ3) => K (.agg (LZ3 x27).toArray) w26)))))))
  (ifB (s8.1 == 2)
  (ifB (s8.1 == 2)
  (RunK Tryz.prog (Instr.buildSlice 27 3 #[(0, .string (⟨#[108, 105, 98, 111, 114]⟩ : ByteArray)), (1, .string (⟨#[114, 97, 105, 110]⟩ : ByteArray)), (2, .string (⟨#[195, 182, 108]⟩ : ByteArray))]) w19 (.v (.one .slc)) (fun (x28 : SlT) w29 => CallK Tryz.prog 142 #[.pointer (some p0), .slice x28.1 x28.2.1 x28.2.2] w29 (.v (.one .str)) (fun (x30 : ByteArray) w31 => StsK (ad g1) [.int .i64 12, .string x30, .int .i64 0, .slice none 0 0] w31 (fun w32 => LdsK KZ3 (ad g1) w32 (fun (x33 : YZ3) => K (.agg (LZ3 x33).toArray) w32)))))
  (ifB (s8.1 == 5)
  (CallK Tryz.prog 143 #[.pointer (some p0), .int .i64 (IntKind.i64.wrap (p1 - 1))] w19 (.v (.agg KZ3)) (fun (x34 : YZ3) w35 => RunK Tryz.prog (Instr.buildSlice 39 1 #[(0, .agg (LZ3 x34).toArray)]) w35 (.v (.one .slc)) (fun (x36 : SlT) w37 => StsK (ad g1) [.int .i64 14, .string (⟨#[]⟩ : ByteArray), .int .i64 0, .slice x36.1 x36.2.1 x36.2.2] w37 (fun w38 => LdsK KZ3 (ad g1) w38 (fun (x39 : YZ3) => K (.agg (LZ3 x39).toArray) w38)))))
  (J14 (()) w19)))
  (ifB (s8.1 == 3)
  (ifB (s8.1 == 3)
  (RunK Tryz.prog (Instr.buildSlice 27 3 #[(0, .string (⟨#[108, 105, 98, 111, 114]⟩ : ByteArray)), (1, .string (⟨#[114, 97, 105, 110]⟩ : ByteArray)), (2, .string (⟨#[195, 182, 108]⟩ : ByteArray))]) w19 (.v (.one .slc)) (fun (x40 : SlT) w41 => CallK Tryz.prog 142 #[.pointer (some p0), .slice x40.1 x40.2.1 x40.2.2] w41 (.v (.one .str)) (fun (x42 : ByteArray) w43 => StsK (ad g1) [.int .i64 12, .string x42, .int .i64 0, .slice none 0 0] w43 (fun w44 => LdsK KZ3 (ad g1) w44 (fun (x45 : YZ3) => K (.agg (LZ3 x45).toArray) w44)))))
  (ifB (s8.1 == 5)
  (CallK Tryz.prog 143 #[.pointer (some p0), .int .i64 (IntKind.i64.wrap (p1 - 1))] w19 (.v (.agg KZ3)) (fun (x46 : YZ3) w47 => RunK Tryz.prog (Instr.buildSlice 39 1 #[(0, .agg (LZ3 x46).toArray)]) w47 (.v (.one .slc)) (fun (x48 : SlT) w49 => StsK (ad g1) [.int .i64 14, .string (⟨#[]⟩ : ByteArray), .int .i64 0, .slice x48.1 x48.2.1 x48.2.2] w49 (fun w50 => LdsK KZ3 (ad g1) w50 (fun (x51 : YZ3) => K (.agg (LZ3 x51).toArray) w50)))))
  (J14 (()) w19)))
  (ifB (s8.1 == 4)
  (RunK Tryz.prog (Instr.buildSlice 27 3 #[(0, .string (⟨#[108, 105, 98, 111, 114]⟩ : ByteArray)), (1, .string (⟨#[114, 97, 105, 110]⟩ : ByteArray)), (2, .string (⟨#[195, 182, 108]⟩ : ByteArray))]) w19 (.v (.one .slc)) (fun (x52 : SlT) w53 => CallK Tryz.prog 142 #[.pointer (some p0), .slice x52.1 x52.2.1 x52.2.2] w53 (.v (.one .str)) (fun (x54 : ByteArray) w55 => StsK (ad g1) [.int .i64 12, .string x54, .int .i64 0, .slice none 0 0] w55 (fun w56 => LdsK KZ3 (ad g1) w56 (fun (x57 : YZ3) => K (.agg (LZ3 x57).toArray) w56)))))
  (ifB (s8.1 == 5)
  (CallK Tryz.prog 143 #[.pointer (some p0), .int .i64 (IntKind.i64.wrap (p1 - 1))] w19 (.v (.agg KZ3)) (fun (x58 : YZ3) w59 => RunK Tryz.prog (Instr.buildSlice 39 1 #[(0, .agg (LZ3 x58).toArray)]) w59 (.v (.one .slc)) (fun (x60 : SlT) w61 => StsK (ad g1) [.int .i64 14, .string (⟨#[]⟩ : ByteArray), .int .i64 0, .slice x60.1 x60.2.1 x60.2.2] w61 (fun w62 => LdsK KZ3 (ad g1) w62 (fun (x63 : YZ3) => K (.agg (LZ3 x63).toArray) w62)))))
  (J14 (()) w19)))))))
  (fun _ s15 w16 => CallK Tryz.prog 143 #[.pointer (some p0), .int .i64 (IntKind.i64.wrap (p1 - 1))] w16 (.v (.agg KZ3)) (fun (x64 : YZ3) w65 => NewK (.cells #[.int .i64 0, .string (⟨#[]⟩ : ByteArray), .int .i64 0, .slice none 0 0] 41) w65 (fun g66 w67 => StsK (ad g66) (LZ3 x64) w67 (fun w68 => DrewK w68 (fun w69 => HoldK (fun S70 => InK S70 (ad g66) (LdsK KZ3 (ad g66) w69 (fun (x71 : YZ3) => AndK (RunK Tryz.prog (Instr.buildSlice 26 3 #[(0, .int .i64 13), (1, .int .i64 15), (2, .int .i64 16)]) w69 (.v (.one .slc)) (fun (x72 : SlT) w73 => KeepK S70 w69 w73 (IdxK x72.1 x72.2.1 (IntKind.i64.wrap (s8.1 - 6)) 1 (fun a74 => InK S70 a74 (LdK (.int .i64) a74 w73 (fun (x75 : Int) => CallK Tryz.prog 143 #[.pointer (some p0), .int .i64 (IntKind.i64.wrap (p1 - 1))] w73 (.v (.agg KZ3)) (fun (x76 : YZ3) w77 => KeepK S70 w73 w77 (RunK Tryz.prog (Instr.buildSlice 39 2 #[(0, .agg (LZ3 x71).toArray), (1, .agg (LZ3 x76).toArray)]) w77 (.v (.one .slc)) (fun (x78 : SlT) w79 => KeepK S70 w77 w79 (StsK (ad g1) [.int .i64 x75, .string (⟨#[]⟩ : ByteArray), .int .i64 0, .slice x78.1 x78.2.1 x78.2.2] w79 (fun w80 => KeepK S70 w79 w80 (LdsK KZ3 (ad g1) w80 (fun (x81 : YZ3) => K (.agg (LZ3 x81).toArray) w80)))))))))))))
  (CallK Tryz.prog 143 #[.pointer (some p0), .int .i64 (IntKind.i64.wrap (p1 - 1))] w69 (.v (.agg KZ3)) (fun (x82 : YZ3) w83 => KeepK S70 w69 w83 (AndK (RunK Tryz.prog (Instr.buildSlice 26 3 #[(0, .int .i64 13), (1, .int .i64 15), (2, .int .i64 16)]) w83 (.v (.one .slc)) (fun (x84 : SlT) w85 => KeepK S70 w83 w85 (IdxK x84.1 x84.2.1 (IntKind.i64.wrap (s8.1 - 6)) 1 (fun a86 => InK S70 a86 (LdK (.int .i64) a86 w85 (fun (x87 : Int) => RunK Tryz.prog (Instr.buildSlice 39 2 #[(0, .agg (LZ3 x71).toArray), (1, .agg (LZ3 x82).toArray)]) w85 (.v (.one .slc)) (fun (x88 : SlT) w89 => KeepK S70 w85 w89 (StsK (ad g1) [.int .i64 x87, .string (⟨#[]⟩ : ByteArray), .int .i64 0, .slice x88.1 x88.2.1 x88.2.2] w89 (fun w90 => KeepK S70 w89 w90 (LdsK KZ3 (ad g1) w90 (fun (x91 : YZ3) => K (.agg (LZ3 x91).toArray) w90)))))))))))
  (RunK Tryz.prog (Instr.buildSlice 39 2 #[(0, .agg (LZ3 x71).toArray), (1, .agg (LZ3 x82).toArray)]) w83 (.v (.one .slc)) (fun (x92 : SlT) w93 => KeepK S70 w83 w93 (RunK Tryz.prog (Instr.buildSlice 26 3 #[(0, .int .i64 13), (1, .int .i64 15), (2, .int .i64 16)]) w93 (.v (.one .slc)) (fun (x94 : SlT) w95 => KeepK S70 w93 w95 (IdxK x94.1 x94.2.1 (IntKind.i64.wrap (s8.1 - 6)) 1 (fun a96 => InK S70 a96 (LdK (.int .i64) a96 w95 (fun (x97 : Int) => StsK (ad g1) [.int .i64 x97, .string (⟨#[]⟩ : ByteArray), .int .i64 0, .slice x92.1 x92.2.1 x92.2.2] w95 (fun w98 => KeepK S70 w95 w98 (LdsK KZ3 (ad g1) w98 (fun (x99 : YZ3) => K (.agg (LZ3 x99).toArray) w98)))))))))))))))))))))))))))
def pl143 : Plan := (.seq .auto (.seq .auto (.seq .auto (.join [(5, .one (.int .i64))] (.join [(24, .one .bool)] .auto .auto) (.join [] (.seq .auto (.block (.join [(28, .one .bool)] .auto .auto))) (.seq .auto (.seq (.held (.soft 1 (.soft 2 (.soft 5 (.soft 6 (.soft 7 (.soft 8 (.pick 0 (.soft 3 (.soft 4 (.pick 9 (.pick 10 (.soft 11 (.pick 12 .done .stop)) .stop) .stop))) (.pick 9 (.pick 0 (.soft 3 (.soft 4 (.pick 10 (.soft 11 (.pick 12 .done .stop)) .stop))) (.pick 10 (.pick 0 (.soft 3 (.soft 4 (.soft 11 (.pick 12 .done .stop)))) .stop) .stop)) .stop))))))))) .auto)))))))
theorem e143 (p0 : Addr) (p1 : Int) (w : World) (K : Value → World → Prop) : vcFunc Tryz.prog Tryz.f143 pl143 [.pointer (some p0), .int .i64 p1] w K = C143 p0 p1 w K := by kernel_rfl
theorem c143 (p0 : Addr) (p1 : Int) (w : World) (K : Value → World → Prop) (h : C143 p0 p1 w K) : Ret Tryz.prog 143 #[.pointer (some p0), .int .i64 p1] w K := by
  rw [← e143] at h
  exact vcFunc_sound (by kernel_rfl) Tryz.func143 h

/-- (*handfast/handfastplay.maker).term -/
def C109 (p0 : Addr) (p1 : Int) (w : World) (K : Value → World → Prop) : Prop :=
  NewK (.cells #[.int .i64 0, .string (⟨#[]⟩ : ByteArray), .int .i64 0, .slice none 0 0] 41) w (fun g1 w2 => LdK (.int .i64) (p0.add 3) w2 (fun (x3 : Int) => StK (p0.add 3) (.int .i64 (IntKind.i64.wrap (x3 - 1))) w2 (fun w4 => CallK Tryz.prog 141 #[.pointer (some p0), .int .i64 13] w4 (.v (.one (.int .i64))) (fun (x5 : Int) w6 => JoinK (Int × Unit) (fun J7 => JoinK (Bool × Unit) (fun J10 => ifB (decide (p1 ≤ 0))
  (J10 (true, ()) w6)
  (LdK (.int .i64) (p0.add 3) w6 (fun (x13 : Int) => J10 (decide (x13 ≤ 0), ()) w6)))
  (fun _ s11 w12 => ifB s11.1
  (NzK 3 (J7 ((x5.tmod 3), ()) w12))
  (J7 (x5, ()) w12)))
  (fun _ s8 w9 => NewK (.cells #[.int .i64 0, .string (⟨#[]⟩ : ByteArray), .int .i64 0, .slice none 0 0] 41) w9 (fun g14 w15 => StsK (ad g14) [.int .i64 0, .string (⟨#[]⟩ : ByteArray), .int .i64 0, .slice none 0 0] w15 (fun w16 => JoinK (Bool × Unit) (fun J17 => ifB (s8.1 == 0)
  (J17 ((s8.1 == 0), ()) w16)
  (J17 ((s8.1 == 1), ()) w16))
  (fun _ s18 w19 => ifB s18.1
  (RunK Tryz.prog (Instr.buildSlice 27 3 #[(0, .string (⟨#[117, 115, 100]⟩ : ByteArray)), (1, .string (⟨#[101, 117, 114]⟩ : ByteArray)), (2, .string (⟨#[103, 98, 112]⟩ : ByteArray))]) w19 (.v (.one .slc)) (fun (x20 : SlT) w21 => CallK Tryz.prog 142 #[.pointer (some p0), .slice x20.1 x20.2.1 x20.2.2] w21 (.v (.one .str)) (fun (x22 : ByteArray) w23 => StK ((ad g14).add 0) (.int .i64 2) w23 (fun w24 => StK ((ad g14).add 1) (.string x22) w24 (fun w25 => LdsK KZ3 (ad g14) w25 (fun (x26 : YZ3) => StsK (ad g1) (LZ3 x26) w25 (fun w27 => LdsK KZ3 (ad g1) w27 (fun (x28 : YZ3) => K (.agg (LZ3 x28).toArray) w27))))))))
  (ifB (s8.1 == 2)
  (StK ((ad g14).add 0) (.int .i64 1) w19 (fun w29 => LdsK KZ3 (ad g14) w29 (fun (x30 : YZ3) => StsK (ad g1) (LZ3 x30) w29 (fun w31 => LdsK KZ3 (ad g1) w31 (fun (x32 : YZ3) => K (.agg (LZ3 x32).toArray) w31)))))
  (JoinK (Bool × Unit) (fun J33 => ifB (s8.1 == 3)
  (J33 ((s8.1 == 3), ()) w19)
  (J33 ((s8.1 == 4), ()) w19))
  (fun _ s34 w35 => ifB s34.1
  (CallK Tryz.prog 109 #[.pointer (some p0), .int .i64 (IntKind.i64.wrap (p1 - 1))] w35 (.v (.agg KZ3)) (fun (x36 : YZ3) w37 => RunK Tryz.prog (Instr.buildSlice 39 1 #[(0, .agg (LZ3 x36).toArray)]) w37 (.v (.one .slc)) (fun (x38 : SlT) w39 => StK ((ad g14).add 0) (.int .i64 3) w39 (fun w40 => StK ((ad g14).add 3) (.slice x38.1 x38.2.1 x38.2.2) w40 (fun w41 => LdsK KZ3 (ad g14) w41 (fun (x42 : YZ3) => StsK (ad g1) (LZ3 x42) w41 (fun w43 => LdsK KZ3 (ad g1) w43 (fun (x44 : YZ3) => K (.agg (LZ3 x44).toArray) w43))))))))
  (JoinK (Bool × Unit) (fun J45 => ifB (s8.1 == 5)
  (J45 ((s8.1 == 5), ()) w35)
  (J45 ((s8.1 == 6), ()) w35))
  (fun _ s46 w47 => ifB s46.1
  (CallK Tryz.prog 109 #[.pointer (some p0), .int .i64 (IntKind.i64.wrap (p1 - 1))] w47 (.v (.agg KZ3)) (fun (x48 : YZ3) w49 => NewK (.cells #[.int .i64 0, .string (⟨#[]⟩ : ByteArray), .int .i64 0, .slice none 0 0] 41) w49 (fun g50 w51 => StsK (ad g50) (LZ3 x48) w51 (fun w52 => DrewK w52 (fun w53 => HoldK (fun S54 => InK S54 (ad g50) (LdsK KZ3 (ad g50) w53 (fun (x55 : YZ3) => CallK Tryz.prog 109 #[.pointer (some p0), .int .i64 (IntKind.i64.wrap (p1 - 1))] w53 (.v (.agg KZ3)) (fun (x56 : YZ3) w57 => KeepK S54 w53 w57 (AndK (RunK Tryz.prog (Instr.buildSlice 39 2 #[(0, .agg (LZ3 x55).toArray), (1, .agg (LZ3 x56).toArray)]) w57 (.v (.one .slc)) (fun (x58 : SlT) w59 => KeepK S54 w57 w59 (StK ((ad g14).add 0) (.int .i64 4) w59 (fun w60 => KeepK S54 w59 w60 (StK ((ad g14).add 3) (.slice x58.1 x58.2.1 x58.2.2) w60 (fun w61 => KeepK S54 w60 w61 (LdsK KZ3 (ad g14) w61 (fun (x62 : YZ3) => StsK (ad g1) (LZ3 x62) w61 (fun w63 => LdsK KZ3 (ad g1) w63 (fun (x64 : YZ3) => K (.agg (LZ3 x64).toArray) w63))))))))))
  (StK ((ad g14).add 0) (.int .i64 4) w57 (fun w65 => KeepK S54 w57 w65 (RunK Tryz.prog (Instr.buildSlice 39 2 #[(0, .agg (LZ3 x55).toArray), (1, .agg (LZ3 x56).toArray)]) w65 (.v (.one .slc)) (fun (x66 : SlT) w67 => KeepK S54 w65 w67 (StK ((ad g14).add 3) (.slice x66.1 x66.2.1 x66.2.2) w67 (fun w68 => KeepK S54 w67 w68 (LdsK KZ3 (ad g14) w68 (fun (x69 : YZ3) => StsK (ad g1) (LZ3 x69) w68 (fun w70 => LdsK KZ3 (ad g1) w70 (fun (x71 : YZ3) => K (.agg (LZ3 x71).toArray) w70))))))))))))))))))))
  (JoinK (Bool × Unit) (fun J72 => ifB (s8.1 == 7)
  (J72 ((s8.1 == 7), ()) w47)
  (J72 ((s8.1 == 8), ()) w47))
  (fun _ s73 w74 => ifB s73.1
  (LdK (.int .i64) (p0.add 4) w74 (fun (x75 : Int) => StK (p0.add 4) (.int .i64 (IntKind.i64.wrap (x75 + 1))) w74 (fun w76 => LdK (.int .i64) (p0.add 4) w76 (fun (x77 : Int) => CallK Tryz.prog 83 #[.int .i64 x77] w76 (.v (.one .str)) (fun (x78 : ByteArray) w79 => CatK (⟨#[99, 104]⟩ : ByteArray) x78 (CallK Tryz.prog 141 #[.pointer (some p0), .int .i64 30] w79 (.v (.one (.int .i64))) (fun (x80 : Int) w81 => ifB (x80 == 29)
  (CallK Tryz.prog 109 #[.pointer (some p0), .int .i64 (IntKind.i64.wrap (p1 - 1))] w81 (.v (.agg KZ3)) (fun (x82 : YZ3) w83 => NewK (.cells #[.int .i64 0, .string (⟨#[]⟩ : ByteArray), .int .i64 0, .slice none 0 0] 41) w83 (fun g84 w85 => StsK (ad g84) (LZ3 x82) w85 (fun w86 => DrewK w86 (fun w87 => HoldK (fun S88 => InK S88 (ad g84) (LdsK KZ3 (ad g84) w87 (fun (x89 : YZ3) => CallK Tryz.prog 109 #[.pointer (some p0), .int .i64 (IntKind.i64.wrap (p1 - 1))] w87 (.v (.agg KZ3)) (fun (x90 : YZ3) w91 => KeepK S88 w87 w91 (AndK (RunK Tryz.prog (Instr.buildSlice 39 2 #[(0, .agg (LZ3 x89).toArray), (1, .agg (LZ3 x90).toArray)]) w91 (.v (.one .slc)) (fun (x92 : SlT) w93 => KeepK S88 w91 w93 (StK ((ad g14).add 0) (.int .i64 5) w93 (fun w94 => KeepK S88 w93 w94 (StK ((ad g14).add 1) (.string (⟨#[99, 104, 49]⟩ : ByteArray)) w94 (fun w95 => KeepK S88 w94 w95 (StK ((ad g14).add 3) (.slice x92.1 x92.2.1 x92.2.2) w95 (fun w96 => KeepK S88 w95 w96 (LdsK KZ3 (ad g14) w96 (fun (x97 : YZ3) => StsK (ad g1) (LZ3 x97) w96 (fun w98 => LdsK KZ3 (ad g1) w98 (fun (x99 : YZ3) => K (.agg (LZ3 x99).toArray) w98))))))))))))
  (StK ((ad g14).add 0) (.int .i64 5) w91 (fun w100 => KeepK S88 w91 w100 (AndK (RunK Tryz.prog (Instr.buildSlice 39 2 #[(0, .agg (LZ3 x89).toArray), (1, .agg (LZ3 x90).toArray)]) w100 (.v (.one .slc)) (fun (x101 : SlT) w102 => KeepK S88 w100 w102 (StK ((ad g14).add 1) (.string (⟨#[99, 104, 49]⟩ : ByteArray)) w102 (fun w103 => KeepK S88 w102 w103 (StK ((ad g14).add 3) (.slice x101.1 x101.2.1 x101.2.2) w103 (fun w104 => KeepK S88 w103 w104 (LdsK KZ3 (ad g14) w104 (fun (x105 : YZ3) => StsK (ad g1) (LZ3 x105) w104 (fun w106 => LdsK KZ3 (ad g1) w106 (fun (x107 : YZ3) => K (.agg (LZ3 x107).toArray) w106))))))))))
  (StK ((ad g14).add 1) (.string (⟨#[99, 104, 49]⟩ : ByteArray)) w100 (fun w108 => KeepK S88 w100 w108 (RunK Tryz.prog (Instr.buildSlice 39 2 #[(0, .agg (LZ3 x89).toArray), (1, .agg (LZ3 x90).toArray)]) w108 (.v (.one .slc)) (fun (x109 : SlT) w110 => KeepK S88 w108 w110 (StK ((ad g14).add 3) (.slice x109.1 x109.2.1 x109.2.2) w110 (fun w111 => KeepK S88 w110 w111 (LdsK KZ3 (ad g14) w111 (fun (x112 : YZ3) => StsK (ad g1) (LZ3 x112) w111 (fun w113 => LdsK KZ3 (ad g1) w113 (fun (x114 : YZ3) => K (.agg (LZ3 x114).toArray) w113)))))))))))))))))))))))
  (CallK Tryz.prog 109 #[.pointer (some p0), .int .i64 (IntKind.i64.wrap (p1 - 1))] w81 (.v (.agg KZ3)) (fun (x115 : YZ3) w116 => NewK (.cells #[.int .i64 0, .string (⟨#[]⟩ : ByteArray), .int .i64 0, .slice none 0 0] 41) w116 (fun g117 w118 => StsK (ad g117) (LZ3 x115) w118 (fun w119 => DrewK w119 (fun w120 => HoldK (fun S121 => InK S121 (ad g117) (LdsK KZ3 (ad g117) w120 (fun (x122 : YZ3) => CallK Tryz.prog 109 #[.pointer (some p0), .int .i64 (IntKind.i64.wrap (p1 - 1))] w120 (.v (.agg KZ3)) (fun (x123 : YZ3) w124 => KeepK S121 w120 w124 (AndK (RunK Tryz.prog (Instr.buildSlice 39 2 #[(0, .agg (LZ3 x122).toArray), (1, .agg (LZ3 x123).toArray)]) w124 (.v (.one .slc)) (fun (x125 : SlT) w126 => KeepK S121 w124 w126 (StK ((ad g14).add 0) (.int .i64 5) w126 (fun w127 => KeepK S121 w126 w127 (StK ((ad g14).add 1) (.string ((⟨#[99, 104]⟩ : ByteArray) ++ x78)) w127 (fun w128 => KeepK S121 w127 w128 (StK ((ad g14).add 3) (.slice x125.1 x125.2.1 x125.2.2) w128 (fun w129 => KeepK S121 w128 w129 (LdsK KZ3 (ad g14) w129 (fun (x130 : YZ3) => StsK (ad g1) (LZ3 x130) w129 (fun w131 => LdsK KZ3 (ad g1) w131 (fun (x132 : YZ3) => K (.agg (LZ3 x132).toArray) w131))))))))))))
  (StK ((ad g14).add 0) (.int .i64 5) w124 (fun w133 => KeepK S121 w124 w133 (AndK (RunK Tryz.prog (Instr.buildSlice 39 2 #[(0, .agg (LZ3 x122).toArray), (1, .agg (LZ3 x123).toArray)]) w133 (.v (.one .slc)) (fun (x134 : SlT) w135 => KeepK S121 w133 w135 (StK ((ad g14).add 1) (.string ((⟨#[99, 104]⟩ : ByteArray) ++ x78)) w135 (fun w136 => KeepK S121 w135 w136 (StK ((ad g14).add 3) (.slice x134.1 x134.2.1 x134.2.2) w136 (fun w137 => KeepK S121 w136 w137 (LdsK KZ3 (ad g14) w137 (fun (x138 : YZ3) => StsK (ad g1) (LZ3 x138) w137 (fun w139 => LdsK KZ3 (ad g1) w139 (fun (x140 : YZ3) => K (.agg (LZ3 x140).toArray) w139))))))))))
  (StK ((ad g14).add 1) (.string ((⟨#[99, 104]⟩ : ByteArray) ++ x78)) w133 (fun w141 => KeepK S121 w133 w141 (RunK Tryz.prog (Instr.buildSlice 39 2 #[(0, .agg (LZ3 x122).toArray), (1, .agg (LZ3 x123).toArray)]) w141 (.v (.one .slc)) (fun (x142 : SlT) w143 => KeepK S121 w141 w143 (StK ((ad g14).add 3) (.slice x142.1 x142.2.1 x142.2.2) w143 (fun w144 => KeepK S121 w143 w144 (LdsK KZ3 (ad g14) w144 (fun (x145 : YZ3) => StsK (ad g1) (LZ3 x145) w144 (fun w146 => LdsK KZ3 (ad g1) w146 (fun (x147 : YZ3) => K (.agg (LZ3 x147).toArray) w146))))))))))))))))))))))))))))))
  (JoinK (Bool × Unit) (fun J148 => ifB (s8.1 == 9)
  (J148 ((s8.1 == 9), ()) w74)
  (J148 ((s8.1 == 10), ()) w74))
  (fun _ s149 w150 => ifB s149.1
  (CallK Tryz.prog 143 #[.pointer (some p0), .int .i64 (if 2 < IntKind.i64.wrap (p1 - 1) then 2 else IntKind.i64.wrap (p1 - 1))] w150 (.v (.agg KZ3)) (fun (x151 : YZ3) w152 => NewK (.cells #[.int .i64 0, .string (⟨#[]⟩ : ByteArray), .int .i64 0, .slice none 0 0] 41) w152 (fun g153 w154 => StsK (ad g153) (LZ3 x151) w154 (fun w155 => DrewK w155 (fun w156 => HoldK (fun S157 => InK S157 (ad g153) (LdsK KZ3 (ad g153) w156 (fun (x158 : YZ3) => CallK Tryz.prog 109 #[.pointer (some p0), .int .i64 (IntKind.i64.wrap (p1 - 1))] w156 (.v (.agg KZ3)) (fun (x159 : YZ3) w160 => KeepK S157 w156 w160 (AndK (RunK Tryz.prog (Instr.buildSlice 39 2 #[(0, .agg (LZ3 x158).toArray), (1, .agg (LZ3 x159).toArray)]) w160 (.v (.one .slc)) (fun (x161 : SlT) w162 => KeepK S157 w160 w162 (StK ((ad g14).add 0) (.int .i64 6) w162 (fun w163 => KeepK S157 w162 w163 (StK ((ad g14).add 3) (.slice x161.1 x161.2.1 x161.2.2) w163 (fun w164 => KeepK S157 w163 w164 (LdsK KZ3 (ad g14) w164 (fun (x165 : YZ3) => StsK (ad g1) (LZ3 x165) w164 (fun w166 => LdsK KZ3 (ad g1) w166 (fun (x167 : YZ3) => K (.agg (LZ3 x167).toArray) w166))))))))))
  (StK ((ad g14).add 0) (.int .i64 6) w160 (fun w168 => KeepK S157 w160 w168 (RunK Tryz.prog (Instr.buildSlice 39 2 #[(0, .agg (LZ3 x158).toArray), (1, .agg (LZ3 x159).toArray)]) w168 (.v (.one .slc)) (fun (x169 : SlT) w170 => KeepK S157 w168 w170 (StK ((ad g14).add 3) (.slice x169.1 x169.2.1 x169.2.2) w170 (fun w171 => KeepK S157 w170 w171 (LdsK KZ3 (ad g14) w171 (fun (x172 : YZ3) => StsK (ad g1) (LZ3 x172) w171 (fun w173 => LdsK KZ3 (ad g1) w173 (fun (x174 : YZ3) => K (.agg (LZ3 x174).toArray) w173))))))))))))))))))))
  (ifB (s8.1 == 11)
  (CallK Tryz.prog 141 #[.pointer (some p0), .int .i64 8] w150 (.v (.one (.int .i64))) (fun (x175 : Int) w176 => CallK Tryz.prog 109 #[.pointer (some p0), .int .i64 (IntKind.i64.wrap (p1 - 1))] w176 (.v (.agg KZ3)) (fun (x177 : YZ3) w178 => RunK Tryz.prog (Instr.buildSlice 39 1 #[(0, .agg (LZ3 x177).toArray)]) w178 (.v (.one .slc)) (fun (x179 : SlT) w180 => StK ((ad g14).add 0) (.int .i64 7) w180 (fun w181 => StK ((ad g14).add 2) (.int .i64 x175) w181 (fun w182 => StK ((ad g14).add 3) (.slice x179.1 x179.2.1 x179.2.2) w182 (fun w183 => LdsK KZ3 (ad g14) w183 (fun (x184 : YZ3) => StsK (ad g1) (LZ3 x184) w183 (fun w185 => LdsK KZ3 (ad g1) w185 (fun (x186 : YZ3) => K (.agg (LZ3 x186).toArray) w185))))))))))
  (CallK Tryz.prog 143 #[.pointer (some p0), .int .i64 (if 2 < IntKind.i64.wrap (p1 - 1) then 2 else IntKind.i64.wrap (p1 - 1))] w150 (.v (.agg KZ3)) (fun (x187 : YZ3) w188 => NewK (.cells #[.int .i64 0, .string (⟨#[]⟩ : ByteArray), .int .i64 0, .slice none 0 0] 41) w188 (fun g189 w190 => StsK (ad g189) (LZ3 x187) w190 (fun w191 => CallK Tryz.prog 109 #[.pointer (some p0), .int .i64 (IntKind.i64.wrap (p1 - 1))] w191 (.v (.agg KZ3)) (fun (x192 : YZ3) w193 => NewK (.cells #[.int .i64 0, .string (⟨#[]⟩ : ByteArray), .int .i64 0, .slice none 0 0] 41) w193 (fun g194 w195 => StsK (ad g194) (LZ3 x192) w195 (fun w196 => DrewK w196 (fun w197 => HoldK (fun S198 => InK S198 (ad g189) (LdsK KZ3 (ad g189) w197 (fun (x199 : YZ3) => InK S198 (ad g194) (LdsK KZ3 (ad g194) w197 (fun (x200 : YZ3) => CallK Tryz.prog 109 #[.pointer (some p0), .int .i64 (IntKind.i64.wrap (p1 - 1))] w197 (.v (.agg KZ3)) (fun (x201 : YZ3) w202 => KeepK S198 w197 w202 (AndK (RunK Tryz.prog (Instr.buildSlice 39 3 #[(0, .agg (LZ3 x199).toArray), (1, .agg (LZ3 x200).toArray), (2, .agg (LZ3 x201).toArray)]) w202 (.v (.one .slc)) (fun (x203 : SlT) w204 => KeepK S198 w202 w204 (StK ((ad g14).add 0) (.int .i64 8) w204 (fun w205 => KeepK S198 w204 w205 (StK ((ad g14).add 3) (.slice x203.1 x203.2.1 x203.2.2) w205 (fun w206 => KeepK S198 w205 w206 (LdsK KZ3 (ad g14) w206 (fun (x207 : YZ3) => StsK (ad g1) (LZ3 x207) w206 (fun w208 => LdsK KZ3 (ad g1) w208 (fun (x209 : YZ3) => K (.agg (LZ3 x209).toArray) w208))))))))))
  (StK ((ad g14).add 0) (.int .i64 8) w202 (fun w210 => KeepK S198 w202 w210 (RunK Tryz.prog (Instr.buildSlice 39 3 #[(0, .agg (LZ3 x199).toArray), (1, .agg (LZ3 x200).toArray), (2, .agg (LZ3 x201).toArray)]) w210 (.v (.one .slc)) (fun (x211 : SlT) w212 => KeepK S198 w210 w212 (StK ((ad g14).add 3) (.slice x211.1 x211.2.1 x211.2.2) w212 (fun w213 => KeepK S198 w212 w213 (LdsK KZ3 (ad g14) w213 (fun (x214 : YZ3) => StsK (ad g1) (LZ3 x214) w213 (fun w215 => LdsK KZ3 (ad g1) w215 (fun (x216 : YZ3) => K (.agg (LZ3 x216).toArray) w215)))))))))))))))))))))))))))))))))))))))))))
def pl109 : Plan := (.seq .auto (.seq .auto (.seq .auto (.join [(5, .one (.int .i64))] (.join [(31, .one .bool)] .auto .auto) (.seq .auto (.seq (.seq .auto (.block (.join [(54, .one .bool)] .auto (.cond .auto (.seq .auto (.cond .auto (.join [(65, .one .bool)] .auto (.cond .auto (.join [(75, .one .bool)] .auto (.cond (.seq .auto (.held (.soft 0 (.soft 1 (.soft 2 (.soft 3 (.soft 6 (.pick 4 (.pick 5 (.pick 7 (.soft 8 (.pick 9 .done .stop)) .stop) (.pick 7 (.pick 5 (.soft 8 (.pick 9 .done .stop)) .stop) .stop)) .stop)))))))) (.join [(90, .one .bool)] .auto (.cond (.seq .auto (.seq .auto (.seq .auto (.seq .auto (.held (.soft 0 (.soft 1 (.soft 2 (.soft 3 (.soft 4 (.soft 7 (.pick 5 (.pick 6 (.pick 8 (.soft 9 (.pick 10 (.soft 11 (.pick 12 .done .stop)) .stop)) .stop) (.pick 8 (.soft 9 (.pick 6 (.pick 10 (.soft 11 (.pick 12 .done .stop)) .stop) (.pick 10 (.pick 6 (.soft 11 (.pick 12 .done .stop)) .stop) .stop))) .stop)) .stop)))))))))))) (.join [(123, .one .bool)] .auto (.cond (.seq .auto (.held (.soft 0 (.soft 1 (.soft 2 (.soft 3 (.soft 6 (.pick 4 (.pick 5 (.pick 7 (.soft 8 (.pick 9 .done .stop)) .stop) (.pick 7 (.pick 5 (.soft 8 (.pick 9 .done .stop)) .stop) .stop)) .stop)))))))) (.seq .auto (.cond .auto (.seq .auto (.seq .auto (.held (.soft 0 (.soft 1 (.soft 2 (.soft 3 (.soft 4 (.soft 7 (.pick 5 (.pick 6 (.pick 8 (.soft 9 (.pick 10 .done .stop)) .stop) (.pick 8 (.pick 6 (.soft 9 (.pick 10 .done .stop)) .stop) .stop)) .stop)))))))))))))))))))))))))) .auto))))))
theorem e109 (p0 : Addr) (p1 : Int) (w : World) (K : Value → World → Prop) : vcFunc Tryz.prog Tryz.f109 pl109 [.pointer (some p0), .int .i64 p1] w K = C109 p0 p1 w K := by kernel_rfl
theorem c109 (p0 : Addr) (p1 : Int) (w : World) (K : Value → World → Prop) (h : C109 p0 p1 w K) : Ret Tryz.prog 109 #[.pointer (some p0), .int .i64 p1] w K := by
  rw [← e109] at h
  exact vcFunc_sound (by kernel_rfl) Tryz.func109 h

/-- handfast/handfastplay.Contract -/
def C81 (p0 : SlT × SlT × Unit) (w : World) (K : Value → World → Prop) : Prop :=
  NewK (.cells #[.slice p0.1.1 p0.1.2.1 p0.1.2.2, .slice p0.2.1.1 p0.2.1.2.1 p0.2.1.2.2] 29) w (fun g1 w2 => NewK (.cells #[.int .i64 0, .string (⟨#[]⟩ : ByteArray), .int .i64 0, .slice none 0 0] 41) w2 (fun g3 w4 => LdsK [.slc, .slc] (ad g1) w4 (fun (x5 : SlT × SlT × Unit) => NewK (.cells #[.slice x5.1.1 x5.1.2.1 x5.1.2.2, .slice x5.2.1.1 x5.2.1.2.1 x5.2.1.2.2, .int .i64 0, .int .i64 24, .int .i64 0] 220) w4 (fun g6 w7 => CallK Tryz.prog 109 #[.pointer (some (ad g6)), .int .i64 5] w7 (.v (.agg KZ3)) (fun (x8 : YZ3) w9 => StsK (ad g3) (LZ3 x8) w9 (fun w10 => LdsK KZ3 (ad g3) w10 (fun (x11 : YZ3) => K (.agg (LZ3 x11).toArray) w10)))))))
def pl81 : Plan := .auto
theorem e81 (p0 : SlT × SlT × Unit) (w : World) (K : Value → World → Prop) : vcFunc Tryz.prog Tryz.f81 pl81 [.agg #[.slice p0.1.1 p0.1.2.1 p0.1.2.2, .slice p0.2.1.1 p0.2.1.2.1 p0.2.1.2.2]] w K = C81 p0 w K := by kernel_rfl
theorem c81 (p0 : SlT × SlT × Unit) (w : World) (K : Value → World → Prop) (h : C81 p0 w K) : Ret Tryz.prog 81 #[.agg #[.slice p0.1.1 p0.1.2.1 p0.1.2.2, .slice p0.2.1.1 p0.2.1.2.1 p0.2.1.2.2]] w K := by
  rw [← e81] at h
  exact vcFunc_sound (by kernel_rfl) Tryz.func81 h

/-- handfast/handfastplay.Right -/
def C80 (p0 : SlT × SlT × Unit) (w : World) (K : Value → World → Prop) : Prop :=
  NewK (.cells #[.slice p0.1.1 p0.1.2.1 p0.1.2.2, .slice p0.2.1.1 p0.2.1.2.1 p0.2.1.2.2] 29) w (fun g1 w2 => NewK (.cells #[.int .i64 0, .string (⟨#[]⟩ : ByteArray), .int .i64 0, .slice none 0 0] 41) w2 (fun g3 w4 => LdsK [.slc, .slc] (ad g1) w4 (fun (x5 : SlT × SlT × Unit) => CallK Tryz.prog 81 #[.agg #[.slice x5.1.1 x5.1.2.1 x5.1.2.2, .slice x5.2.1.1 x5.2.1.2.1 x5.2.1.2.2]] w4 (.v (.agg KZ3)) (fun (x6 : YZ3) w7 => NewK (.cells #[.int .i64 0, .string (⟨#[]⟩ : ByteArray), .int .i64 0, .slice none 0 0] 41) w7 (fun g8 w9 => StsK (ad g8) (LZ3 x6) w9 (fun w10 => LdsK KZ3 (ad g8) w10 (fun (x11 : YZ3) => CallK Tryz.prog 89 #[.agg (LZ3 x11).toArray, .bool false] w10 (.v (.one (.int .i64))) (fun (x12 : Int) w13 => ifB (x12 != 0)
  (StsK (ad g3) [.int .i64 2, .string (⟨#[117, 115, 100]⟩ : ByteArray), .int .i64 0, .slice none 0 0] w13 (fun w14 => LdsK KZ3 (ad g3) w14 (fun (x15 : YZ3) => K (.agg (LZ3 x15).toArray) w14)))
  (LdsK KZ3 (ad g8) w13 (fun (x16 : YZ3) => StsK (ad g3) (LZ3 x16) w13 (fun w17 => LdsK KZ3 (ad g3) w17 (fun (x18 : YZ3) => K (.agg (LZ3 x18).toArray) w17))))))))))))
def pl80 : Plan := .auto
theorem e80 (p0 : SlT × SlT × Unit) (w : World) (K : Value → World → Prop) : vcFunc Tryz.prog Tryz.f80 pl80 [.agg #[.slice p0.1.1 p0.1.2.1 p0.1.2.2, .slice p0.2.1.1 p0.2.1.2.1 p0.2.1.2.2]] w K = C80 p0 w K := by kernel_rfl
theorem c80 (p0 : SlT × SlT × Unit) (w : World) (K : Value → World → Prop) (h : C80 p0 w K) : Ret Tryz.prog 80 #[.agg #[.slice p0.1.1 p0.1.2.1 p0.1.2.2, .slice p0.2.1.1 p0.2.1.2.1 p0.2.1.2.2]] w K := by
  rw [← e80] at h
  exact vcFunc_sound (by kernel_rfl) Tryz.func80 h

end Go.Proofs.YtdphmcanlhcokaaGreatDoor

/-! ### MakeSpec -/
set_option linter.unusedVariables false
set_option maxRecDepth 100000
namespace Go.Proofs.YtdphmcanlhcokaaGreatDoor
open Vc

theorem IsInts.keep {k : IntKind} {w w' : World} {v : Sl} {zs : List Int} (h : IsInts k w v.1 v.2.1 v.2.2 zs) {S : Nat → Prop} (f : Fr S w w') (hn : ∀ b, 0 < v.2.2 → blkOf v b → ¬ S b) : IsInts k w' v.1 v.2.1 v.2.2 zs := by
  rcases h with h | ⟨x, hx, hl, hc, hz, hcell, hw⟩
  · exact .inl h
  · exact .inr ⟨x, hx, hl, hc, hz, fun i hi => f.cell (hcell i hi) (by rw [show (x.add i).block = x.block by unfold Addr.add; split <;> rfl]; exact hn _ (by omega) ⟨x, hx, rfl⟩), hw⟩
theorem IsStrs.keep {w w' : World} {v : Sl} {zs : List ByteArray} (h : IsStrs w v.1 v.2.1 v.2.2 zs) {S : Nat → Prop} (f : Fr S w w') (hn : ∀ b, 0 < v.2.2 → blkOf v b → ¬ S b) : IsStrs w' v.1 v.2.1 v.2.2 zs := by
  rcases h with h | ⟨x, hx, hl, hc, hz, hcell, hw⟩
  · exact .inl h
  · exact .inr ⟨x, hx, hl, hc, hz, fun i hi => f.cell (hcell i hi) (by rw [show (x.add i).block = x.block by unfold Addr.add; split <;> rfl]; exact hn _ (by omega) ⟨x, hx, rfl⟩), hw⟩
theorem IsInts.blk {k : IntKind} {w : World} {v : Sl} {zs : List Int} (h : IsInts k w v.1 v.2.1 v.2.2 zs) {b : Nat} (hc : 0 < v.2.2) (hb : blkOf v b) : b < w.heap.size := by
  obtain ⟨a, ha, rfl⟩ := hb
  rcases h with ⟨h1, _, h3, _⟩ | ⟨x, hx, hl, hc', hz, hcell, hw⟩
  · omega
  · rw [ha] at hx; injection hx with hx; subst hx
    have := blk_of_cell (hcell 0 (by omega))
    rwa [show (a.add 0).block = a.block by unfold Addr.add; split <;> rfl] at this
theorem IsStrs.blk {w : World} {v : Sl} {zs : List ByteArray} (h : IsStrs w v.1 v.2.1 v.2.2 zs) {b : Nat} (hc : 0 < v.2.2) (hb : blkOf v b) : b < w.heap.size := by
  obtain ⟨a, ha, rfl⟩ := hb
  rcases h with ⟨h1, _, h3, _⟩ | ⟨x, hx, hl, hc', hz, hcell, hw⟩
  · omega
  · rw [ha] at hx; injection hx with hx; subst hx
    have := blk_of_cell (hcell 0 (by omega))
    rwa [show (a.add 0).block = a.block by unfold Addr.add; split <;> rfl] at this

/-- A maker in block b: its plan lies below m. -/
structure IsMk (w : World) (m b : Nat) (i : Int) : Prop where
  out : ∃ (sn sw : Sl) (l lb : Int) (ns : List Int) (ws : List ByteArray), w.heap[b]? = some (.cells #[.slice sn.1 sn.2.1 sn.2.2, .slice sw.1 sw.2.1 sw.2.2, .int .i64 i, .int .i64 l, .int .i64 lb] 220 (0, 0)) ∧
    IsInts .i64 w sn.1 sn.2.1 sn.2.2 ns ∧ IsStrs w sw.1 sw.2.1 sw.2.2 ws ∧ (∀ k, 0 < sn.2.2 → blkOf sn k → k < m ∧ k ≠ b) ∧ (∀ k, 0 < sw.2.2 → blkOf sw k → k < m ∧ k ≠ b)
  lt : b < m
  le : m ≤ w.heap.size

/-- Behind some steps of a maker. -/
structure At (w0 : World) (m b : Nat) (i0 : Int) (n : Nat) (w : World) (i : Int) : Prop where
  mker : IsMk w m b i
  lo : i0 ≤ i
  hi : i ≤ i0 + n
  fr : Fr (only b) w0 w
  le : m ≤ w0.heap.size

theorem IsMk.keep {w w' : World} {m b : Nat} {i : Int} (h : IsMk w m b i) {S : Nat → Prop} (f : Fr S w w') (hn : ∀ k, k < m → ¬ S k) : IsMk w' m b i := by
  obtain ⟨⟨sn, sw, l, lb, ns, ws, hb, h1, h2, h3, h4⟩, hlt, hle⟩ := h
  exact ⟨⟨sn, sw, l, lb, ns, ws, f.keep hb (hn _ hlt), IsInts.keep h1 f fun k hc hk => hn k (h3 k hc hk).1, IsStrs.keep h2 f fun k hc hk => hn k (h4 k hc hk).1, h3, h4⟩, hlt, by have := f.size; omega⟩
theorem At.keep {w0 w w' : World} {m b n : Nat} {i0 i : Int} (h : At w0 m b i0 n w i) {S : Nat → Prop} (f : Fr S w w') (hn : ∀ k, k < w0.heap.size → ¬ S k) : At w0 m b i0 n w' i :=
  ⟨h.mker.keep f (fun k hk => hn k (by have := h.le; omega)), h.lo, h.hi, h.fr.comp f (fun x hx t => (hn x hx t).elim), h.le⟩
theorem At.keep0 {w0 w w' : World} {m b n : Nat} {i0 i : Int} (h : At w0 m b i0 n w i) (f : Fr none1 w w') : At w0 m b i0 n w' i := h.keep f (fun _ _ t => t)
theorem At.size {w0 w : World} {m b n : Nat} {i0 i : Int} (h : At w0 m b i0 n w i) : w0.heap.size ≤ w.heap.size := h.fr.size
theorem At.more {w0 w : World} {m b n n' : Nat} {i0 i : Int} (h : At w0 m b i0 n w i) (hn : n ≤ n') : At w0 m b i0 n' w i := ⟨h.mker, h.lo, by have := h.hi; omega, h.fr, h.le⟩
theorem At.trans {w0 w w' : World} {m b n n' : Nat} {i0 i i' : Int} (h : At w0 m b i0 n w i) (h' : At w m b i n' w' i') : At w0 m b i0 (n + n') w' i' :=
  ⟨h'.mker, by have := h.lo; have := h'.lo; omega, by have := h.hi; have := h'.hi; omega, h.fr.trans h'.fr, h.le⟩
theorem At.start {w : World} {m b : Nat} {i : Int} (h : IsMk w m b i) : At w m b i 0 w i := ⟨h, Int.le_refl _, by omega, Fr.refl _ _, h.le⟩

theorem mn_spec {w : World} {m b : Nat} {i : Int} (h : IsMk w m b i) (hi : 0 ≤ i ∧ i ≤ 1000000000) (of : Int) (hof : of ≤ 9223372036854775807) :
    Ret Tryz.prog 141 #[.pointer (some ⟨b, 0, none⟩), .int .i64 of] w fun r w' => ∃ x : Int, r = .int .i64 x ∧ 0 ≤ x ∧ (1 ≤ of → x < of) ∧ At w m b i 1 w' (i + 1) := by
  refine c141 _ of w _ ?_
  unfold C141
  obtain ⟨⟨sn, sw, l, lb, ns, ws, hb, h1, h2, h3, h4⟩, hlt, hle⟩ := h
  refine DrewK.of fun w1 _ f1 => LdK.fld (f1.keep0 hb) (x := i) rfl (LdK.fld (f1.keep0 hb) (x := sn) rfl ?_)
  have fin : ∀ (v : Int) (w2 : World), Fr none1 w w2 → StK ((⟨b, 0, none⟩ : Addr).add 2) (.int .i64 (IntKind.i64.wrap (i + 1))) w2 (fun w10 => CallK Tryz.prog 14 #[.int .i64 v, .int .i64 of] w10 (.v (.one (.int .i64))) (fun (x11 : Int) w12 =>
      ∃ x : Int, (Value.int .i64 x11) = .int .i64 x ∧ 0 ≤ x ∧ (1 ≤ of → x < of) ∧ At w m b i 1 w12 (i + 1))) := fun v w2 f2 => by
    refine StK.fld (f2.keep0 hb) (by show 0 + 2 < 5; omega) rfl fun w3 hb3 f3 _ => ?_
    refine CallK.of (within_spec v of w3 hof) ?_
    rintro _ _ ⟨rfl, rfl⟩
    refine ⟨_, rfl, _, rfl, within_lo v of, fun h => within_hi v h, ?_⟩
    have f13 : Fr (only b) w w3 := Fr.of0 f2 f3
    rw [wI (by omega) (by omega)] at hb3
    exact ⟨⟨⟨sn, sw, l, lb, ns, ws, hb3, IsInts.keep h1 f13 fun k hc hk => (h3 k hc hk).2, IsStrs.keep h2 f13 fun k hc hk => (h4 k hc hk).2, h3, h4⟩, hlt, by have := f13.size; omega⟩, by omega, by omega, f13, hle⟩
  refine ifB.dec (fun hlt2 => ?_) (fun _ => LdK.fld (f1.keep0 hb) (x := i) rfl (fin 0 w1 f1))
  refine DrewK.of fun w2 _ f2 => LdK.fld ((f1.trans f2).keep0 hb) (x := sn) rfl (LdK.fld ((f1.trans f2).keep0 hb) (x := i) rfl ?_)
  refine IsInts.ld h1 (f1.trans f2) hi.1 hlt2 ?_
  exact LdK.fld ((f1.trans f2).keep0 hb) (x := i) rfl (fin _ w2 (f1.trans f2))

/-- A word out of some, or of the plan's: short. -/
theorem mword_spec {w : World} {m b : Nat} {i : Int} (h : IsMk w m b i) (hi : 0 ≤ i ∧ i ≤ 1000000000) {u : Sl} {l : List (List UInt8)} (hu : IsSs w u l) (hl : 1 ≤ l.length ∧ l.length ≤ 1000) (hs : ∀ s ∈ l, s.length ≤ 1000) (hub : ∀ k, blkOf u k → k ≠ b) :
    Ret Tryz.prog 142 #[.pointer (some ⟨b, 0, none⟩), .slice u.1 u.2.1 u.2.2] w fun r w' => ∃ s : List UInt8, r = .string (str s) ∧ s.length ≤ 1000 ∧ At w m b i 1 w' (i + 1) := by
  refine c142 _ u.1 u.2.1 u.2.2 w _ ?_
  unfold C142
  have hul := hu.len
  rw [hul, wI (by omega) (by omega)]
  refine CallK.of (mn_spec h hi ((l.length : Int) + 6) (by omega)) ?_
  rintro _ w1 ⟨x, rfl, hx0, hx1, a1⟩
  refine ⟨x, rfl, ?_⟩
  obtain ⟨⟨sn, sw, l', lb, ns, ws, hb, h1, h2, h3, h4⟩, hlt, hle⟩ := a1.mker
  refine JoinK.of (fun s w' => (s.1 = true → 0 < sw.2.1) ∧ w1 = w') ?_ ?_
  · refine ifB.dec (fun _ => LdK.fld hb (x := sw) rfl (ifB.dec (fun hp => ⟨by decide, fun _ => by omega, rfl⟩) (fun _ => ⟨(fun t => nomatch t), rfl⟩))) (fun _ => ⟨(fun t => nomatch t), rfl⟩)
  rintro _ ⟨c, _⟩ _ ⟨hc, rfl⟩
  dsimp only at hc ⊢
  refine ifB.by (fun e => ?_) (fun e => ?_)
  · have hpos := hc e
    refine DrewK.of fun w2 _ f2 => LdK.fld (f2.keep0 hb) (x := sw) rfl (LdK.fld (f2.keep0 hb) (x := sw) rfl ?_)
    refine ⟨by omega, ?_⟩
    have hm := Int.tmod_eq_emod_of_nonneg (b := (sw.2.1 : Int)) hx0
    refine IsStrs.ld h2 f2 (by rw [hm]; exact Int.emod_nonneg _ (by omega)) (by rw [hm]; exact Int.emod_lt_of_pos _ (by omega)) ?_
    rw [← str_of (ws.getD (x.tmod (sw.2.1 : Int)).toNat ByteArray.empty)]
    refine CallK.of (text1_spec _ 14 w2 (by omega)) ?_
    rintro _ _ ⟨rfl, rfl⟩
    refine ⟨_, rfl, _, rfl, ?_, a1.keep0 f2⟩
    rw [List.length_take]
    have : (14 : Int).toNat = 14 := rfl
    omega
  · refine ⟨by omega, ?_⟩
    have hm := Int.tmod_eq_emod_of_nonneg (b := (l.length : Int)) hx0
    have hm0 := Int.emod_nonneg x (b := (l.length : Int)) (by omega)
    have hm1 := Int.emod_lt_of_pos x (b := (l.length : Int)) (by omega)
    have hx2 : (x % (l.length : Int)).toNat < l.length := by omega
    have hu1 : IsSs w1 u l := IsSl.keep hu a1.fr fun k hk t => hub k hk t
    have := hu1.ld (i := (x % (l.length : Int)).toNat) (s := l.getD (x % (l.length : Int)).toNat []) (by rw [List.getD_eq_getElem?_getD, List.getElem?_eq_getElem hx2]; rfl)
      (K := fun x15 => ∃ s : List UInt8, (Value.string x15) = .string (str s) ∧ s.length ≤ 1000 ∧ At w m b i 1 w1 (i + 1)) ⟨_, rfl, by
        refine hs _ ?_
        rw [List.getD_eq_getElem?_getD, List.getElem?_eq_getElem hx2]; exact List.getElem_mem hx2, a1⟩
    rw [hul] at this
    rw [hm, show x % (l.length : Int) = (((x % (l.length : Int)).toNat : Nat) : Int) by omega]
    exact this

/-! ### The maker's other numbers -/
theorem wrap_rg (x : Int) : -9223372036854775808 ≤ IntKind.i64.wrap x ∧ IntKind.i64.wrap x ≤ 9223372036854775807 := by
  have e : IntKind.i64.wrap x = if x % 18446744073709551616 ≥ 9223372036854775808 then x % 18446744073709551616 - 18446744073709551616 else x % 18446744073709551616 := by
    unfold IntKind.wrap; simp [IntKind.signed, IntKind.bits]
  rw [e]; split <;> omega
theorem IsMk.left_rd {w : World} {m b : Nat} {i : Int} (h : IsMk w m b i) {K : Int → Prop} (k : ∀ x, K x) : LdK (.int .i64) ((⟨b, 0, none⟩ : Addr).add 3) w K := by
  obtain ⟨⟨sn, sw, l, lb, ns, ws, hb, h1, h2, h3, h4⟩, hlt, hle⟩ := h
  exact LdK.fld hb (x := l) rfl (k l)
theorem IsMk.left_st {w : World} {m b : Nat} {i : Int} (h : IsMk w m b i) (x : Int) {K : World → Prop} (k : ∀ w', At w m b i 0 w' i → K w') : StK ((⟨b, 0, none⟩ : Addr).add 3) (.int .i64 x) w K := by
  obtain ⟨⟨sn, sw, l, lb, ns, ws, hb, h1, h2, h3, h4⟩, hlt, hle⟩ := h
  refine StK.fld hb (by show 0 + 3 < 5; omega) rfl fun w3 hb3 f3 _ => k w3 ?_
  exact ⟨⟨⟨sn, sw, x, lb, ns, ws, hb3, IsInts.keep h1 f3 fun k hc hk => (h3 k hc hk).2, IsStrs.keep h2 f3 fun k hc hk => (h4 k hc hk).2, h3, h4⟩, hlt, by have := f3.size; omega⟩, Int.le_refl _, by omega, f3, hle⟩
theorem IsMk.label_ok {w : World} {m b : Nat} {i : Int} (h : IsMk w m b i) {K : Int → World → Prop} (k : ∀ x w', -9223372036854775808 ≤ x → x ≤ 9223372036854775807 → At w m b i 0 w' i → K x w') :
    LdK (.int .i64) ((⟨b, 0, none⟩ : Addr).add 4) w fun (x : Int) => StK ((⟨b, 0, none⟩ : Addr).add 4) (.int .i64 (IntKind.i64.wrap (x + 1))) w fun w2 => LdK (.int .i64) ((⟨b, 0, none⟩ : Addr).add 4) w2 fun (y : Int) => K y w2 := by
  obtain ⟨⟨sn, sw, l, lb, ns, ws, hb, h1, h2, h3, h4⟩, hlt, hle⟩ := h
  refine LdK.fld hb (x := lb) rfl ?_
  refine StK.fld hb (by show 0 + 4 < 5; omega) rfl fun w3 hb3 f3 _ => ?_
  refine LdK.fld hb3 (x := IntKind.i64.wrap (lb + 1)) rfl ?_
  have := wrap_rg (lb + 1)
  exact k _ w3 this.1 this.2 ⟨⟨⟨sn, sw, l, _, ns, ws, hb3, IsInts.keep h1 f3 fun k hc hk => (h3 k hc hk).2, IsStrs.keep h2 f3 fun k hc hk => (h4 k hc hk).2, h3, h4⟩, hlt, by have := f3.size; omega⟩, Int.le_refl _, by omega, f3, hle⟩

/-! ### Trees that were made -/
theorem elem_tr : ElemOk Tryz.prog 39 41 4 (.agg #[.int .i64 0, .string ⟨#[]⟩, .int .i64 0, .slice none 0 0]) 56 := ⟨Tryz.underlying39, ⟨Tryz.t41, by kernel_rfl, rfl, rfl, rfl⟩, rfl, by decide⟩
theorem elem_int : ElemOk Tryz.prog 26 3 1 (.int .i64 0) 8 := ⟨Tryz.underlying26, ⟨Tryz.t3, by kernel_rfl, rfl, rfl, rfl⟩, rfl, by decide⟩

/-- The blocks that came since w. -/
def since (w w' : World) : Nat → Prop := fun k => w.heap.size ≤ k ∧ k < w'.heap.size
/-- A tree that was made since w. -/
def Made (w w' : World) (t : Tr) (v : TV) : Prop := IsTr w' (since w w') t v
theorem Made.keep {w w1 w2 : World} {t : Tr} {v : TV} (h : Made w w1 t v) {S : Nat → Prop} (f : Fr S w1 w2) (hn : ∀ k, w.heap.size ≤ k → k < w1.heap.size → ¬ S k) : Made w w2 t v :=
  IsTr.mono (fun k hk => ⟨hk.1, by have := f.size; have := hk.2; omega⟩) t v (IsTr.keep f (fun k hk => hn k hk.1 hk.2) t v h)
theorem Made.keep0 {w w1 w2 : World} {t : Tr} {v : TV} (h : Made w w1 t v) (f : Fr none1 w1 w2) : Made w w2 t v := h.keep f (fun _ _ _ t => t)
theorem Made.older {w0 w w' : World} {t : Tr} {v : TV} (h : Made w w' t v) (hs : w0.heap.size ≤ w.heap.size) : Made w0 w' t v := IsTr.mono (fun k hk => ⟨by have := hk.1; omega, hk.2⟩) t v h
theorem leaf_made (w w' : World) (k : Int) (s : List UInt8) (n : Int) : Made w w' (.mk k s n []) (k, str s, n, (none, 0, 0), ()) := by
  unfold Made IsTr
  exact ⟨rfl, rfl, rfl, [], ⟨rfl, fun _ => ⟨rfl, rfl, rfl⟩, fun a ha => by cases ha⟩, rfl, fun b t => (none_blk b t).elim, by unfold IsTrs; rfl⟩
theorem node_made {w w' : World} {u : Sl} {vs : List TV} {ks : List Tr} (k : Int) (s : List UInt8) (n : Int) (hu : IsSl w' 41 4 u (vs.map tvL).flatten) (hl : u.2.1 = vs.length) (hub : ∀ k, blkOf u k → w.heap.size ≤ k) (h : IsTrs w' (since w w') ks vs) :
    Made w w' (.mk k s n ks) (k, str s, n, u, ()) := by
  unfold Made IsTr
  exact ⟨rfl, rfl, rfl, vs, hu.rd, hl.symm, fun b hb => ⟨hub b hb, hu.lt hb⟩, h⟩
theorem made1 {w w' : World} {t : Tr} {v : TV} (h : Made w w' t v) : IsTrs w' (since w w') [t] [v] := by
  unfold IsTrs; exact ⟨v, [], rfl, h, by unfold IsTrs; rfl⟩
theorem made2 {w w' : World} {t t2 : Tr} {v v2 : TV} (h : Made w w' t v) (h2 : Made w w' t2 v2) : IsTrs w' (since w w') [t, t2] [v, v2] := by
  unfold IsTrs; exact ⟨v, [v2], rfl, h, made1 h2⟩
theorem made3 {w w' : World} {t t2 t3 : Tr} {v v2 v3 : TV} (h : Made w w' t v) (h2 : Made w w' t2 v2) (h3 : Made w w' t3 v3) : IsTrs w' (since w w') [t, t2, t3] [v, v2, v3] := by
  unfold IsTrs; exact ⟨v, [v2, v3], rfl, h, made2 h2 h3⟩

theorem ob2 {kk : Int} (h : kk = 13 ∨ kk = 15 ∨ kk = 16) (l r : Ob) : ∃ o : Ob, trO o = .mk kk [] 0 [trO l, trO r] ∧ nodesO o = nodesO l + nodesO r + 1 ∧ (shortO l → shortO r → shortO o) := by
  rcases h with rfl | rfl | rfl
  · exact ⟨.add l r, rfl, rfl, fun a b => ⟨a, b⟩⟩
  · exact ⟨.mul l r, rfl, rfl, fun a b => ⟨a, b⟩⟩
  · exact ⟨.max l r, rfl, rfl, fun a b => ⟨a, b⟩⟩

/-- How many steps a number takes, a contract. -/
def coN : Nat → Nat
  | 0 => 4
  | d + 1 => 2 * coN d + 6

/-- A number was made. -/
def MO (w : World) (m b : Nat) (i : Int) (n : Nat) (v : TV) (w' : World) : Prop :=
  ∃ (o : Ob) (i' : Int), Made w w' (trO o) v ∧ nodesO o ≤ n ∧ shortO o ∧ At w m b i n w' i'

/-! ### A tree's struct in a block -/
abbrev TVK : List Ck := [.int .i64, .str, .int .i64, .slc]
def TB (w : World) (g : Nat) (v : TV) : Prop := w.heap[g]? = some (.cells (tvL v).toArray 41 (0, 0))
theorem TB.keep {w w' : World} {g : Nat} {v : TV} (h : TB w g v) {S : Nat → Prop} (f : Fr S w w') (hn : ¬ S g) : TB w' g v := f.keep h hn
theorem TB.keep0 {w w' : World} {g : Nat} {v : TV} (h : TB w g v) (f : Fr none1 w w') : TB w' g v := f.keep0 h
theorem TB.k {w : World} {g : Nat} {v : TV} (h : TB w g v) (x : Int) {K : World → Prop} (k : ∀ w', TB w' g (x, v.2) → Fr (only g) w w' → K w') : StK ((⟨g, 0, none⟩ : Addr).add 0) (.int .i64 x) w K :=
  StK.fld h (by show 0 + 0 < 4; omega) rfl fun w' hb f _ => k w' hb f
theorem TB.s {w : World} {g : Nat} {v : TV} (h : TB w g v) (x : ByteArray) {K : World → Prop} (k : ∀ w', TB w' g (v.1, x, v.2.2) → Fr (only g) w w' → K w') : StK ((⟨g, 0, none⟩ : Addr).add 1) (.string x) w K :=
  StK.fld h (by show 0 + 1 < 4; omega) rfl fun w' hb f _ => k w' hb f
theorem TB.n {w : World} {g : Nat} {v : TV} (h : TB w g v) (x : Int) {K : World → Prop} (k : ∀ w', TB w' g (v.1, v.2.1, x, v.2.2.2) → Fr (only g) w w' → K w') : StK ((⟨g, 0, none⟩ : Addr).add 2) (.int .i64 x) w K :=
  StK.fld h (by show 0 + 2 < 4; omega) rfl fun w' hb f _ => k w' hb f
theorem TB.u {w : World} {g : Nat} {v : TV} (h : TB w g v) (x : Sl) {K : World → Prop} (k : ∀ w', TB w' g (v.1, v.2.1, v.2.2.1, x, ()) → Fr (only g) w w' → K w') : StK ((⟨g, 0, none⟩ : Addr).add 3) (.slice x.1 x.2.1 x.2.2) w K :=
  StK.fld h (by show 0 + 3 < 4; omega) rfl fun w' hb f _ => k w' hb f
theorem TB.ld {w : World} {g : Nat} {v : TV} (h : TB w g v) {K : TV → Prop} (k : K v) : LdsK TVK ⟨g, 0, none⟩ w K := LdsK.blk (cks := TVK) (x := v) h k
theorem TB.new {w : World} {K : Nat → World → Prop} (k : ∀ g w1, w.heap.size = g → TB w1 g (0, str [], 0, (none, 0, 0), ()) → Fr none1 w w1 → w1.heap.size = g + 1 → K g w1) :
    NewK (.cells #[.int .i64 0, .string (⟨#[]⟩ : ByteArray), .int .i64 0, .slice none 0 0] 41) w K := NewK.of fun g w1 h1 h2 h3 h4 => k g w1 h1 h2 h3 h4
/-- A struct put into a new block. -/
theorem TB.put {w : World} (v : TV) {K : Nat → World → Prop} (k : ∀ g w1, w.heap.size = g → TB w1 g v → Fr none1 w w1 → K g w1) :
    NewK (.cells #[.int .i64 0, .string (⟨#[]⟩ : ByteArray), .int .i64 0, .slice none 0 0] 41) w fun g w1 => StsK ⟨g, 0, none⟩ (tvL v) w1 fun w2 => K g w2 :=
  ns_ok (zs := [.int .i64 0, .string (⟨#[]⟩ : ByteArray), .int .i64 0, .slice none 0 0]) (vs := tvL v) rfl rfl fun g w1 h1 h2 h3 => k g w1 h1 h2 h3

theorem tr_lit {w : World} (vs : List TV) (hl : vs.length ≤ 3) {K : Option Addr × Nat × Nat → World → Prop} (k : ∀ (u : Sl) w', IsSl w' 41 4 u (vs.map tvL).flatten → u.2.1 = vs.length → Fr none1 w w' → (∀ j, blkOf u j → w.heap.size ≤ j) → K u w') :
    RunK Tryz.prog (Instr.buildSlice 39 vs.length (((vs.map tvL).zipIdx.map fun (l, i) => (i, Value.agg l.toArray)).toArray)) w (.v (.one .slc)) fun (x : Option Addr × Nat × Nat) w' => K x w' := by
  obtain ⟨u, w', hr, hs, hul, f, hf⟩ := lits_ok (P := Tryz.prog) (w := w) elem_tr (vs.map tvL) (tvL_len vs) (by rw [List.length_map]; omega)
  rw [List.length_map] at hr hul
  exact ⟨u, w', hr, k u w' hs hul f hf⟩

/-- The struct that is told, through the result's own block g. -/
theorem fin_made {w wB wc : World} {m b g n' : Nat} {i i' : Int} {v0 v : TV} {t : Tr} (a : At w m b i n' wc i') (hg : w.heap.size ≤ g) (hgB : g < wB.heap.size) (hB : w.heap.size ≤ wB.heap.size) (tb : TB wc g v0) (hm : Made wB wc t v) {K : TV → World → Prop}
    (k : ∀ w2, At w m b i n' w2 i' → Made w w2 t v → K v w2) : StsK ⟨g, 0, none⟩ (tvL v) wc fun w2 => LdsK TVK ⟨g, 0, none⟩ w2 fun x => K x w2 :=
  StsK.blk (cs := tvL v0) (vs := tvL v) tb rfl rfl fun w2 hb2 f2 _ => LdsK.blk (cks := TVK) (x := v) hb2 (k w2 (a.keep f2 fun k hk t => by have : k = g := t; omega) ((hm.keep f2 fun k hk _ t => by have : k = g := t; omega).older hB))

/-- Numbers in a row. -/
theorem ints_lit {w : World} (ns : List Int) (hl : ns.length ≤ 100) {K : Option Addr × Nat × Nat → World → Prop} (k : ∀ (u : Sl) w', IsSl w' 3 1 u (ns.map (Value.int .i64)) → u.2.1 = ns.length → Fr none1 w w' → (∀ j, blkOf u j → w.heap.size ≤ j) → K u w') :
    RunK Tryz.prog (Instr.buildSlice 26 ns.length (((ns.map (Value.int .i64)).zipIdx.map fun (v, i) => (i, v)).toArray)) w (.v (.one .slc)) fun (x : Option Addr × Nat × Nat) w' => K x w' := by
  obtain ⟨u, w', hr, hs, hul, f, hf⟩ := lit_ok (P := Tryz.prog) (w := w) elem_int (ns.map (Value.int .i64)) (by intro v hv; obtain ⟨x, _, rfl⟩ := List.mem_map.1 hv; rfl) (by rw [List.length_map]; omega)
  rw [List.length_map] at hr hul
  exact ⟨u, w', hr, k u w' hs hul f hf⟩
theorem words_lit {w : World} (ss : List (List UInt8)) (hl : ss.length ≤ 100) {K : Option Addr × Nat × Nat → World → Prop} (k : ∀ (u : Sl) w', IsSs w' u ss → Fr none1 w w' → (∀ j, blkOf u j → w.heap.size ≤ j) → K u w') :
    RunK Tryz.prog (Instr.buildSlice 27 ss.length (((ss.map sv).zipIdx.map fun (v, i) => (i, v)).toArray)) w (.v (.one .slc)) fun (x : Option Addr × Nat × Nat) w' => K x w' := by
  obtain ⟨u, w', hr, hs, hul, f, hf⟩ := lit_ok (P := Tryz.prog) (w := w) elem_str (ss.map sv) (by intro v hv; obtain ⟨x, _, rfl⟩ := List.mem_map.1 hv; rfl) (by rw [List.length_map]; omega)
  rw [List.length_map] at hr
  exact ⟨u, w', hr, k u w' hs f hf⟩

theorem At.mkr {w : World} {m b n : Nat} {i i' : Int} {w' : World} (a : At w m b i n w' i') : IsMk w' m b i' := a.mker
theorem At.b_lt {w : World} {m b n : Nat} {i i' : Int} {w' : World} (a : At w m b i n w' i') : b < m ∧ m ≤ w.heap.size := ⟨a.mker.lt, a.le⟩

/-! ### Numbers -/
theorem mobs_spec : ∀ (d : Nat) {w : World} {m b : Nat} {i : Int} (h : IsMk w m b i) (p1 : Int) (hp : p1 ≤ d) (hp0 : -1000 ≤ p1) (hp2 : p1 ≤ 1000) (hi : 0 ≤ i) (hn : i + coN d ≤ 1000000000),
    Ret Tryz.prog 143 #[.pointer (some ⟨b, 0, none⟩), .int .i64 p1] w fun r w' => ∃ v : TV, r = tvA v ∧ MO w m b i (coN d) v w' := by
  intro d
  induction d using Nat.strongRecOn with
  | _ d IH =>
  intro w m b i h p1 hp hp0 hp2 hi hn
  refine c143 _ p1 w _ ?_
  unfold C143
  have hco : 4 ≤ coN d := by cases d <;> simp [coN]
  have hbm := h.lt
  have hmw := h.le
  refine TB.new fun g1 w1 hg1 tb1 f1 hs1 => ?_
  have a1 := (At.start h).keep0 f1
  refine a1.mkr.left_rd fun x3 => a1.mkr.left_st _ fun w2 a2' => ?_
  have a2 := a1.trans a2'
  have tb2 := tb1.keep a2'.fr (fun t => by have : g1 = b := t; omega)
  refine CallK.of (mn_spec a2.mkr (by omega) 9 (by omega)) ?_
  rintro _ w3 ⟨x5, rfl, hx0, hx9, a3'⟩
  refine ⟨x5, rfl, ?_⟩
  have a3 := a2.trans a3'
  have tb3 := tb2.keep a3'.fr (fun t => by have : g1 = b := t; omega)
  have hx9 := hx9 (by omega)
  refine JoinK.of (fun s w' => 0 ≤ s.1 ∧ s.1 < 9 ∧ (p1 ≤ 0 → s.1 < 3) ∧ w3 = w') ?_ ?_
  · refine JoinK.of (fun s w' => (p1 ≤ 0 → s.1 = true) ∧ w3 = w') ?_ ?_
    · exact ifB.dec (fun _ => ⟨fun _ => rfl, rfl⟩) (fun hp => a3.mkr.left_rd fun x => ⟨fun t => absurd t hp, rfl⟩)
    · rintro _ ⟨c, _⟩ _ ⟨hc, rfl⟩
      dsimp only at hc ⊢
      have hm3 := Int.tmod_eq_emod_of_nonneg (b := (3 : Int)) hx0
      refine ifB.by (fun e => ⟨by omega, ?_⟩) (fun e => ⟨hx0, hx9, fun t => (by rw [hc t] at e; cases e), rfl⟩)
      exact ⟨by omega, by omega, fun _ => by omega, rfl⟩
  rintro _ ⟨k, _⟩ _ ⟨hk0, hk9, hkp, rfl⟩
  dsimp only at hk0 hk9 hkp ⊢
  have hsz3 : w.heap.size ≤ w3.heap.size := a3.size
  have hg3 : g1 < w3.heap.size := lt_of_blk tb3
  have hgb : g1 ≠ b := by omega
  -- what a part is
  have ih : 0 < p1 → ∃ d', coN d = 2 * coN d' + 6 ∧ ∀ {w' : World} {i' : Int}, IsMk w' m b i' → 0 ≤ i' → i' + coN d' ≤ 1000000000 →
      Ret Tryz.prog 143 #[.pointer (some ⟨b, 0, none⟩), .int .i64 (IntKind.i64.wrap (p1 - 1))] w' fun r w'' => ∃ v : TV, r = tvA v ∧ MO w' m b i' (coN d') v w'' := fun hpos => by
    cases d with
    | zero => omega
    | succ d' =>
      refine ⟨d', rfl, fun hmk h0 h1 => ?_⟩
      rw [wI (by omega) (by omega)]
      exact IH d' (by omega) hmk (p1 - 1) (by omega) (by omega) (by omega) h0 h1
  -- a leaf
  have leafK : ∀ {wB wc : World} {n' : Nat} {i' : Int} {o : Ob} {v : TV}, At w m b i n' wc i' → n' ≤ 4 → TB wc g1 (0, str [], 0, (none, 0, 0), ()) → Made wc wc (trO o) v → nodesO o ≤ 1 → shortO o →
      StsK ⟨g1, 0, none⟩ (tvL v) wc fun w2 => LdsK TVK ⟨g1, 0, none⟩ w2 fun x => ∃ v : TV, tvA x = tvA v ∧ MO w m b i (coN d) v w2 := fun {wB wc n' i' o v} a hn' tb hm ho hs =>
    fin_made a (by omega) (lt_of_blk tb) a.size tb hm fun w2 a' hm' => ⟨v, rfl, o, i', hm', by omega, hs, a'.more (by omega)⟩
  have fixK : RunK Tryz.prog (Instr.buildSlice 27 3 #[(0, .string (⟨#[108, 105, 98, 111, 114]⟩ : ByteArray)), (1, .string (⟨#[114, 97, 105, 110]⟩ : ByteArray)), (2, .string (⟨#[195, 182, 108]⟩ : ByteArray))]) w3 (.v (.one .slc)) (fun (x40 : Option Addr × Nat × Nat) w41 =>
      CallK Tryz.prog 142 #[.pointer (some ⟨b, 0, none⟩), .slice x40.1 x40.2.1 x40.2.2] w41 (.v (.one .str)) (fun (x42 : ByteArray) w43 => StsK (⟨g1, 0, none⟩ : Addr) [.int .i64 12, .string x42, .int .i64 0, .slice none 0 0] w43 (fun w44 =>
        LdsK TVK (⟨g1, 0, none⟩ : Addr) w44 (fun x45 => ∃ v : TV, tvA x45 = tvA v ∧ MO w m b i (coN d) v w44)))) := by
    refine words_lit [[108, 105, 98, 111, 114], [114, 97, 105, 110], [195, 182, 108]] (by decide) fun u w4 hu f4 hf4 => ?_
    have a4 := a3.keep0 f4
    refine CallK.of (mword_spec a4.mkr (by omega) hu (by decide) (by decide) (fun k hk => by have := hf4 k hk; omega)) ?_
    rintro _ w5 ⟨s, rfl, hsl, a5'⟩
    refine ⟨_, rfl, ?_⟩
    exact leafK (wB := w5) (a4.trans a5') (by omega) ((tb3.keep0 f4).keep a5'.fr (fun t => hgb t)) (o := .fix s) (v := (12, str s, 0, (none, 0, 0), ())) (leaf_made _ _ 12 s 0) (Nat.le_refl _) hsl
  have negK : 3 ≤ k → CallK Tryz.prog 143 #[.pointer (some ⟨b, 0, none⟩), .int .i64 (IntKind.i64.wrap (p1 - 1))] w3 (.v (.agg TVK)) (fun (x46 : TV) w47 => RunK Tryz.prog (Instr.buildSlice 39 1 #[(0, tvA x46)]) w47 (.v (.one .slc)) (fun (x48 : Option Addr × Nat × Nat) w49 =>
      StsK (⟨g1, 0, none⟩ : Addr) [.int .i64 14, .string (⟨#[]⟩ : ByteArray), .int .i64 0, .slice x48.1 x48.2.1 x48.2.2] w49 (fun w50 => LdsK TVK (⟨g1, 0, none⟩ : Addr) w50 (fun x51 => ∃ v : TV, tvA x51 = tvA v ∧ MO w m b i (coN d) v w50)))) := fun hk => by
    obtain ⟨d', hd', ih⟩ := ih (by omega)
    refine CallK.of (ih a3.mkr (by have := a3.lo; omega) (by have := a3.hi; omega)) ?_
    rintro _ w4 ⟨x, rfl, o, i', hm, hno, hso, a4'⟩
    refine ⟨x, rfl, ?_⟩
    have a4 := a3.trans a4'
    refine tr_lit [x] (by show 1 ≤ 3; omega) fun u w5 hu hul f5 hf5 => ?_
    refine fin_made (wB := w3) (v := (14, str [], 0, u, ())) (t := trO (.neg o)) (a4.keep0 f5) (by omega) hg3 hsz3 ((tb3.keep a4'.fr (fun t => hgb t)).keep0 f5) (node_made 14 [] 0 hu hul (fun k hk => by have := hf5 k hk; have := a4'.size; omega) (made1 (hm.keep0 f5))) fun w6 a6 hm6 => ?_
    exact ⟨_, rfl, .neg o, i', hm6, by unfold nodesO; omega, hso, a6.more (by omega)⟩
  refine JoinK.of (fun _ w' => 6 ≤ k ∧ w3 = w') ?_ ?_
  · refine JoinK.of (fun s w' => (s.1 = true ↔ k = 0 ∨ k = 1) ∧ w3 = w') ?_ ?_
    · refine ifB.eq (fun e => ⟨by simp [e], rfl⟩) (fun e => ⟨by simp [e], rfl⟩)
    rintro _ ⟨c, _⟩ _ ⟨hc, rfl⟩
    dsimp only at hc ⊢
    refine ifB.by (fun e => ?_) (fun e => ?_)
    · refine ints_lit [0, 1, -1, 2, 100, -7, 1000000, 1000000000000, -1000000000000, 3] (by decide) fun u w4 hu hul f4 hf4 => ?_
      have a4 := a3.keep0 f4
      refine CallK.of (mn_spec a4.mkr (by omega) 10 (by omega)) ?_
      rintro _ w5 ⟨x, rfl, hx0', hx10, a5'⟩
      refine ⟨x, rfl, ?_⟩
      have hx10 := hx10 (by omega)
      have hu5 : IsSl w5 3 1 u _ := hu.keep a5'.fr (fun k hk t => by have : k = b := t; have := hf4 k hk; omega)
      have hxn : x.toNat < 10 := by omega
      refine IsSl.ld hu5 (c := .int .i64) (x := ([0, 1, -1, 2, 100, -7, 1000000, 1000000000000, -1000000000000, 3] : List Int).getD x.toNat 0) hx0' (by rw [hul]; show x < 10; omega) ?_ ?_
      · rw [List.getElem?_map, List.getD_eq_getElem?_getD, List.getElem?_eq_getElem (by show x.toNat < 10; omega)]; rfl
      · exact leafK (wB := w5) (a4.trans a5') (by omega) ((tb3.keep0 f4).keep a5'.fr (fun t => hgb t)) (o := .const _) (v := (11, str [], _, (none, 0, 0), ())) (leaf_made _ _ 11 [] _) (Nat.le_refl _) trivial
    · have hk2 : ¬ (k = 0 ∨ k = 1) := fun t => by rw [hc.2 t] at e; cases e
      refine ifB.eq (fun e2 => ?_) (fun e2 => ?_)
      · refine ifB.t (by simp [e2]) fixK
      refine ifB.eq (fun e3 => ifB.t (by simp [e3]) fixK) (fun e3 => ?_)
      refine ifB.eq (fun e4 => fixK) (fun e4 => ?_)
      refine ifB.eq (fun e5 => negK (by omega)) (fun e5 => ⟨by omega, rfl⟩)
  rintro _ _ _ ⟨hk6, rfl⟩
  obtain ⟨d', hd', ih⟩ := ih (by omega)
  refine CallK.of (ih a3.mkr (by have := a3.lo; omega) (by have := a3.hi; omega)) ?_
  rintro _ w4 ⟨x, rfl, o, i', hm, hno, hso, a4'⟩
  refine ⟨x, rfl, ?_⟩
  have a4 := a3.trans a4'
  refine TB.put x fun g2 w5 hg2 tbx f5 => ?_
  refine DrewK.of fun w6 _ f6 => HoldK.of (fun k => k ≠ b ∧ k ≠ g1) ?_
  have f56 := f5.trans f6
  have a6 := a4.keep0 f56
  have hsz4 := a4'.size
  have hg2b : g2 ≠ b ∧ g2 ≠ g1 := by omega
  refine ⟨hg2b, (tbx.keep0 f6).ld ?_⟩
  have tb6 := (tb3.keep a4'.fr (fun t => hgb t)).keep0 f56
  have hm6 := hm.keep0 f56
  have kk : ∀ (u : Sl) (w' : World), IsSl w' 3 1 u ([13, 15, 16].map (Value.int .i64)) → u.2.1 = 3 → ∀ {K : Int → Prop}, (∀ y, (y = 13 ∨ y = 15 ∨ y = 16) → K y) → (∀ j, blkOf u j → j ≠ b ∧ j ≠ g1) →
      IdxK u.1 u.2.1 (IntKind.i64.wrap (k - 6)) 1 fun a => InK (fun k => k ≠ b ∧ k ≠ g1) a (LdK (.int .i64) a w' K) := fun u w' hu hul K hK hj => by
    rw [wI (by omega) (by omega)]
    have h3 : k - 6 = 0 ∨ k - 6 = 1 ∨ k - 6 = 2 := by omega
    have base : IdxK u.1 u.2.1 (k - 6) 1 fun a => LdK (.int .i64) a w' K := by
      rcases h3 with e | e | e
      · exact IsSl.ld hu (c := .int .i64) (x := 13) (by omega) (by omega) (by rw [e]; rfl) (hK _ (by decide))
      · exact IsSl.ld hu (c := .int .i64) (x := 15) (by omega) (by omega) (by rw [e]; rfl) (hK _ (by decide))
      · exact IsSl.ld hu (c := .int .i64) (x := 16) (by omega) (by omega) (by rw [e]; rfl) (hK _ (by decide))
    obtain ⟨a, ha, h0, h1, hl⟩ := base.out
    refine ⟨a, ha, h0, h1, ⟨?_, hl⟩⟩
    have := hj a.block ⟨a, ha, rfl⟩
    rw [show (a.add ((k - 6).toNat * 1)).block = a.block by unfold Addr.add; split <;> rfl]
    exact this
  have notb : ∀ k, (fun k => k ≠ b ∧ k ≠ g1) k → ¬ only b k := fun k hk t => hk.1 t
  have notg : ∀ k, (fun k => k ≠ b ∧ k ≠ g1) k → ¬ only g1 k := fun k hk t => hk.2 t
  have fin2 : ∀ {w' w9 : World} {y : TV} {o2 : Ob} {i2 : Int} {n2 : Nat} {kd : Int} {u : Sl}, At w m b i n2 w9 i2 → n2 ≤ coN d → TB w9 g1 (0, str [], 0, (none, 0, 0), ()) → (kd = 13 ∨ kd = 15 ∨ kd = 16) → IsSl w9 41 4 u ([x, y].map tvL).flatten → u.2.1 = 2 →
      (∀ j, blkOf u j → w3.heap.size ≤ j) → Made w3 w9 (trO o) x → Made w3 w9 (trO o2) y → nodesO o2 ≤ coN d' → shortO o2 →
      StsK (⟨g1, 0, none⟩ : Addr) [.int .i64 kd, .string (⟨#[]⟩ : ByteArray), .int .i64 0, .slice u.1 u.2.1 u.2.2] w9 (fun w80 => KeepK (fun k => k ≠ b ∧ k ≠ g1) w9 w80 (LdsK TVK (⟨g1, 0, none⟩ : Addr) w80 (fun x81 => ∃ v : TV, tvA x81 = tvA v ∧ MO w m b i (coN d) v w80))) := fun {w' w9 y o2 i2 n2 kd u} a hn2 tb hkd hu hul huf hmx hmy hno2 hso2 => by
    obtain ⟨ob, e1, e2, e3⟩ := ob2 hkd o o2
    refine StsK.blk (cs := tvL _) (vs := tvL (kd, str [], 0, u, ())) tb rfl rfl fun w2 hb2 f2 _ => KeepK.on f2 notg ?_
    refine LdsK.blk (cks := TVK) (x := (kd, str [], 0, u, ())) hb2 ?_
    have hnode : Made w3 w9 (trO ob) (kd, str [], 0, u, ()) := by rw [e1]; exact node_made kd [] 0 hu hul huf (made2 hmx hmy)
    exact ⟨_, rfl, ob, i2, (hnode.keep f2 fun k hk _ t => by have : k = g1 := t; omega).older hsz3, by omega, e3 hso hso2, (a.keep f2 fun k hk t => by have : k = g1 := t; omega).more hn2⟩
  refine ⟨?_, ?_⟩
  · refine ints_lit [13, 15, 16] (by decide) fun u w7 hu hul f7 hf7 => KeepK.of f7 ?_
    have hub : ∀ j, blkOf u j → j ≠ b ∧ j ≠ g1 := fun j hj => by have := hf7 j hj; have := f56.size; omega
    refine kk u w7 hu hul (fun kd hkd => ?_) hub
    have a7 := a6.keep0 f7
    refine CallK.of (ih a7.mkr (by have := a7.lo; omega) (by have := a7.hi; omega)) ?_
    rintro _ w8 ⟨y, rfl, o2, i2, hm2, hno2, hso2, a8'⟩
    refine ⟨y, rfl, KeepK.on a8'.fr notb ?_⟩
    have a8 := a7.trans a8'
    refine tr_lit [x, y] (by show 2 ≤ 3; omega) fun v w9 hv hvl f9 hf9 => KeepK.of f9 ?_
    have hs7 := f56.size
    have hs8 := f7.size
    have hs9 := a8'.size
    exact fin2 (w' := w8) (a8.keep0 f9) (by omega) (((tb6.keep0 f7).keep a8'.fr (fun t => hgb t)).keep0 f9) hkd hv hvl (fun j hj => by have := hf9 j hj; omega) (((hm6.keep0 f7).keep a8'.fr (fun k hk _ t => by have : k = b := t; omega)).keep0 f9) ((hm2.keep0 f9).older (by omega)) hno2 hso2
  · refine CallK.of (ih a6.mkr (by have := a6.lo; omega) (by have := a6.hi; omega)) ?_
    rintro _ w8 ⟨y, rfl, o2, i2, hm2, hno2, hso2, a8'⟩
    refine ⟨y, rfl, KeepK.on a8'.fr notb ?_⟩
    have a8 := a6.trans a8'
    have hs7 := f56.size
    have hs9 := a8'.size
    have tb8 := tb6.keep a8'.fr (fun t => hgb t)
    have hm8 := hm6.keep a8'.fr (fun k hk _ t => by have : k = b := t; omega)
    refine ⟨?_, ?_⟩
    · refine ints_lit [13, 15, 16] (by decide) fun u w7 hu hul f7 hf7 => KeepK.of f7 ?_
      have hub : ∀ j, blkOf u j → j ≠ b ∧ j ≠ g1 := fun j hj => by have := hf7 j hj; omega
      refine kk u w7 hu hul (fun kd hkd => ?_) hub
      have hs10 := f7.size
      refine tr_lit [x, y] (by show 2 ≤ 3; omega) fun v w9 hv hvl f9 hf9 => KeepK.of f9 ?_
      exact fin2 (w' := w8) ((a8.keep0 f7).keep0 f9) (by omega) ((tb8.keep0 f7).keep0 f9) hkd hv hvl (fun j hj => by have := hf9 j hj; omega) ((hm8.keep0 f7).keep0 f9) (((hm2.keep0 f7).keep0 f9).older (by omega)) hno2 hso2
    · refine tr_lit [x, y] (by show 2 ≤ 3; omega) fun v w9 hv hvl f9 hf9 => KeepK.of f9 ?_
      refine ints_lit [13, 15, 16] (by decide) fun u w7 hu hul f7 hf7 => KeepK.of f7 ?_
      have hs10 := f9.size
      have hub : ∀ j, blkOf u j → j ≠ b ∧ j ≠ g1 := fun j hj => by have := hf7 j hj; omega
      refine kk u w7 hu hul (fun kd hkd => ?_) hub
      exact fin2 (w' := w8) ((a8.keep0 f9).keep0 f7) (by omega) ((tb8.keep0 f9).keep0 f7) hkd (hv.keep0 f7) hvl (fun j hj => by have := hf9 j hj; omega) ((hm8.keep0 f9).keep0 f7) (((hm2.keep0 f9).keep0 f7).older (by omega)) hno2 hso2

end Go.Proofs.YtdphmcanlhcokaaGreatDoor

/-! ### MakeSpec2 -/
set_option linter.unusedVariables false
set_option maxRecDepth 100000
namespace Go.Proofs.YtdphmcanlhcokaaGreatDoor
open Vc

/-- How many steps a contract takes. -/
def coT : Nat → Nat
  | 0 => 4
  | d + 1 => 2 * coT d + 50

/-- A contract was made. -/
def MT (w : World) (m b : Nat) (i : Int) (n : Nat) (v : TV) (w' : World) : Prop :=
  ∃ (t : Tm) (i' : Int), Made w w' (trT t) v ∧ nodesT t ≤ n ∧ shortT t ∧ At w m b i n w' i'

def MadeL (w w' : World) (ts : List Tr) (vs : List TV) : Prop := IsTrs w' (since w w') ts vs
theorem MadeL.keep {w w1 w2 : World} {t : List Tr} {v : List TV} (h : MadeL w w1 t v) {S : Nat → Prop} (f : Fr S w1 w2) (hn : ∀ k, w.heap.size ≤ k → k < w1.heap.size → ¬ S k) : MadeL w w2 t v :=
  IsTrs.mono (fun k hk => ⟨hk.1, by have := f.size; have := hk.2; omega⟩) t v (IsTrs.keep f (fun k hk => hn k hk.1 hk.2) t v h)
theorem MadeL.keep0 {w w1 w2 : World} {t : List Tr} {v : List TV} (h : MadeL w w1 t v) (f : Fr none1 w1 w2) : MadeL w w2 t v := h.keep f (fun _ _ _ t => t)

theorem itoa_short (x : Int) (h0 : -9223372036854775808 ≤ x) (h1 : x ≤ 9223372036854775807) : (Lib.itoa x).length ≤ 30 := by
  unfold Lib.itoa
  split
  · have := dec_len 20 x.natAbs (by omega)
    simp only [List.length_cons]; omega
  · have := dec_len 20 x.toNat (by omega)
    omega

/-- The contract's own blocks: its result g1, its struct g2; nothing of these is read while parts are made. -/
def outS (b g1 g2 : Nat) : Nat → Prop := fun k => k ≠ b ∧ k ≠ g1 ∧ k ≠ g2

structure Sit (w wB wc : World) (m b g1 g2 : Nat) (i : Int) (n : Nat) (i' : Int) (v : TV) : Prop where
  at_ : At w m b i n wc i'
  t1 : TB wc g1 (0, str [], 0, (none, 0, 0), ())
  t2 : TB wc g2 v
  wg1 : w.heap.size ≤ g1
  wg2 : w.heap.size ≤ g2
  ne : g1 ≠ g2
  Bg1 : g1 < wB.heap.size
  Bg2 : g2 < wB.heap.size
  B : wB.heap.size ≤ wc.heap.size

theorem Sit.keep0 {w wB wc wd : World} {m b g1 g2 n : Nat} {i i' : Int} {v : TV} (s : Sit w wB wc m b g1 g2 i n i' v) (f : Fr none1 wc wd) : Sit w wB wd m b g1 g2 i n i' v :=
  ⟨s.at_.keep0 f, s.t1.keep0 f, s.t2.keep0 f, s.wg1, s.wg2, s.ne, s.Bg1, s.Bg2, Nat.le_trans s.B f.size⟩
theorem Sit.b_ne {w wB wc : World} {m b g1 g2 n : Nat} {i i' : Int} {v : TV} (s : Sit w wB wc m b g1 g2 i n i' v) : b < w.heap.size ∧ g1 ≠ b ∧ g2 ≠ b := by
  have := s.at_.b_lt; have := s.wg1; have := s.wg2; omega
theorem Sit.go {w wB wc wd : World} {m b g1 g2 n n2 : Nat} {i i' i2 : Int} {v : TV} (s : Sit w wB wc m b g1 g2 i n i' v) (a : At wc m b i' n2 wd i2) : Sit w wB wd m b g1 g2 i (n + n2) i2 v :=
  ⟨s.at_.trans a, s.t1.keep a.fr (fun t => s.b_ne.2.1 t), s.t2.keep a.fr (fun t => s.b_ne.2.2 t), s.wg1, s.wg2, s.ne, s.Bg1, s.Bg2, Nat.le_trans s.B a.size⟩
/-- A write to the struct. -/
theorem Sit.set {w wB wc wd : World} {m b g1 g2 n : Nat} {i i' : Int} {v u : TV} (s : Sit w wB wc m b g1 g2 i n i' v) (f : Fr (only g2) wc wd) (t : TB wd g2 u) : Sit w wB wd m b g1 g2 i n i' u :=
  ⟨s.at_.keep f (fun k hk t => by have : k = g2 := t; have := s.wg2; omega), s.t1.keep f (fun t => s.ne t), t, s.wg1, s.wg2, s.ne, s.Bg1, s.Bg2, Nat.le_trans s.B f.size⟩
theorem MadeL.set {w wB wc wd : World} {m b g1 g2 n : Nat} {i i' : Int} {v : TV} (s : Sit w wB wc m b g1 g2 i n i' v) {ts : List Tr} {vs : List TV} (h : MadeL wB wc ts vs) (f : Fr (only g2) wc wd) : MadeL wB wd ts vs :=
  h.keep f fun k hk _ t => by have : k = g2 := t; have := s.Bg2; omega
theorem out_b {b g1 g2 : Nat} : ∀ k, outS b g1 g2 k → ¬ only b k := fun k hk t => hk.1 t
theorem out_2 {b g1 g2 : Nat} : ∀ k, outS b g1 g2 k → ¬ only g2 k := fun k hk t => hk.2.2 t

/-- The struct is told. -/
theorem Sit.tell {w wB wc : World} {m b g1 g2 n N : Nat} {i i' : Int} {v : TV} (s : Sit w wB wc m b g1 g2 i n i' v) (hn : n ≤ N) (hB : w.heap.size ≤ wB.heap.size) {t : Tm} (hm : Made wB wc (trT t) v) (ht : nodesT t ≤ N) (hs : shortT t) :
    LdsK TVK ⟨g2, 0, none⟩ wc fun (x : TV) => StsK ⟨g1, 0, none⟩ (tvL x) wc fun w2 => LdsK TVK ⟨g1, 0, none⟩ w2 fun (y : TV) => ∃ v : TV, tvA y = tvA v ∧ MT w m b i N v w2 :=
  s.t2.ld (fin_made s.at_ s.wg1 s.Bg1 hB s.t1 hm fun w2 a' hm' => ⟨_, rfl, t, i', hm', ht, hs, a'.more hn⟩)

/-- The parts, in a new slice; then the struct; in two orders. -/
theorem Sit.parts {w wB wc : World} {m b g1 g2 n N : Nat} {i i' : Int} {kd : Int} {ts : List Tr} {vs : List TV} (s : Sit w wB wc m b g1 g2 i n i' (0, str [], 0, (none, 0, 0), ())) (hn : n ≤ N) (hB : w.heap.size ≤ wB.heap.size) (hl : vs.length ≤ 3) (hm : MadeL wB wc ts vs) {t : Tm} (he : trT t = .mk kd [] 0 ts) (ht : nodesT t ≤ N) (hs : shortT t) :
    AndK (RunK Tryz.prog (Instr.buildSlice 39 vs.length (((vs.map tvL).zipIdx.map fun (l, i) => (i, Value.agg l.toArray)).toArray)) wc (.v (.one .slc)) (fun (x58 : Option Addr × Nat × Nat) w59 => KeepK (outS b g1 g2) wc w59 (StK ((⟨g2, 0, none⟩ : Addr).add 0) (.int .i64 kd) w59 (fun w60 => KeepK (outS b g1 g2) w59 w60 (StK ((⟨g2, 0, none⟩ : Addr).add 3) (.slice x58.1 x58.2.1 x58.2.2) w60 (fun w61 => KeepK (outS b g1 g2) w60 w61
        (LdsK TVK ⟨g2, 0, none⟩ w61 fun (x : TV) => StsK ⟨g1, 0, none⟩ (tvL x) w61 fun w2 => LdsK TVK ⟨g1, 0, none⟩ w2 fun (y : TV) => ∃ v : TV, tvA y = tvA v ∧ MT w m b i N v w2)))))))
      (StK ((⟨g2, 0, none⟩ : Addr).add 0) (.int .i64 kd) wc (fun w65 => KeepK (outS b g1 g2) wc w65 (RunK Tryz.prog (Instr.buildSlice 39 vs.length (((vs.map tvL).zipIdx.map fun (l, i) => (i, Value.agg l.toArray)).toArray)) w65 (.v (.one .slc)) (fun (x66 : Option Addr × Nat × Nat) w67 => KeepK (outS b g1 g2) w65 w67 (StK ((⟨g2, 0, none⟩ : Addr).add 3) (.slice x66.1 x66.2.1 x66.2.2) w67 (fun w68 => KeepK (outS b g1 g2) w67 w68
        (LdsK TVK ⟨g2, 0, none⟩ w68 fun (x : TV) => StsK ⟨g1, 0, none⟩ (tvL x) w68 fun w2 => LdsK TVK ⟨g1, 0, none⟩ w2 fun (y : TV) => ∃ v : TV, tvA y = tvA v ∧ MT w m b i N v w2))))))) := by
  refine ⟨?_, ?_⟩
  · refine tr_lit vs hl fun u w1 hu hul f1 hf1 => KeepK.of f1 ?_
    have s1 := s.keep0 f1
    have m1 := hm.keep0 f1
    refine s1.t2.k kd fun w2 t2 f2 => KeepK.on f2 out_2 ?_
    have s2 := s1.set f2 t2
    have m2 := m1.set s1 f2
    refine s2.t2.u u fun w3 t3 f3 => KeepK.on f3 out_2 ?_
    have s3 := s2.set f3 t3
    have m3 := m2.set s2 f3
    refine s3.tell hn hB (t := t) (by rw [he]; exact node_made kd [] 0 ((hu.keep f2 fun k hk t => by have : k = g2 := t; have := hf1 k hk; have := s.B; have := s.Bg2; omega).keep f3 fun k hk t => by have : k = g2 := t; have := hf1 k hk; have := s.B; have := s.Bg2; omega) hul (fun k hk => by have := hf1 k hk; have := s.B; omega) m3) ht hs
  · refine s.t2.k kd fun w1 t1 f1 => KeepK.on f1 out_2 ?_
    have s1 := s.set f1 t1
    have m1 := hm.set s f1
    refine tr_lit vs hl fun u w2 hu hul f2 hf2 => KeepK.of f2 ?_
    have s2 := s1.keep0 f2
    have m2 := m1.keep0 f2
    refine s2.t2.u u fun w3 t3 f3 => KeepK.on f3 out_2 ?_
    have s3 := s2.set f3 t3
    have m3 := m2.set s2 f3
    refine s3.tell hn hB (t := t) (by rw [he]; exact node_made kd [] 0 (hu.keep f3 fun k hk t => by have : k = g2 := t; have := hf2 k hk; have := s1.B; have := s.Bg2; omega) hul (fun k hk => by have := hf2 k hk; have := s1.B; omega) m3) ht hs

/-- .. with a label; in three orders. -/
theorem Sit.labelled {w wB wc : World} {m b g1 g2 n N : Nat} {i i' : Int} {ts : List Tr} {vs : List TV} (s : Sit w wB wc m b g1 g2 i n i' (0, str [], 0, (none, 0, 0), ())) (hn : n ≤ N) (hB : w.heap.size ≤ wB.heap.size) (hl : vs.length ≤ 3) (hm : MadeL wB wc ts vs) (x : List UInt8) {t : Tm} (he : trT t = .mk 5 x 0 ts) (ht : nodesT t ≤ N) (hs : shortT t) :
    AndK (RunK Tryz.prog (Instr.buildSlice 39 vs.length (((vs.map tvL).zipIdx.map fun (l, i) => (i, Value.agg l.toArray)).toArray)) wc (.v (.one .slc)) (fun (x92 : Option Addr × Nat × Nat) w93 => KeepK (outS b g1 g2) wc w93 (StK ((⟨g2, 0, none⟩ : Addr).add 0) (.int .i64 5) w93 (fun w94 => KeepK (outS b g1 g2) w93 w94 (StK ((⟨g2, 0, none⟩ : Addr).add 1) (.string (str x)) w94 (fun w95 => KeepK (outS b g1 g2) w94 w95 (StK ((⟨g2, 0, none⟩ : Addr).add 3) (.slice x92.1 x92.2.1 x92.2.2) w95 (fun w96 => KeepK (outS b g1 g2) w95 w96
        (LdsK TVK ⟨g2, 0, none⟩ w96 fun (x : TV) => StsK ⟨g1, 0, none⟩ (tvL x) w96 fun w2 => LdsK TVK ⟨g1, 0, none⟩ w2 fun (y : TV) => ∃ v : TV, tvA y = tvA v ∧ MT w m b i N v w2)))))))))
      (StK ((⟨g2, 0, none⟩ : Addr).add 0) (.int .i64 5) wc (fun w100 => KeepK (outS b g1 g2) wc w100 (AndK (RunK Tryz.prog (Instr.buildSlice 39 vs.length (((vs.map tvL).zipIdx.map fun (l, i) => (i, Value.agg l.toArray)).toArray)) w100 (.v (.one .slc)) (fun (x101 : Option Addr × Nat × Nat) w102 => KeepK (outS b g1 g2) w100 w102 (StK ((⟨g2, 0, none⟩ : Addr).add 1) (.string (str x)) w102 (fun w103 => KeepK (outS b g1 g2) w102 w103 (StK ((⟨g2, 0, none⟩ : Addr).add 3) (.slice x101.1 x101.2.1 x101.2.2) w103 (fun w104 => KeepK (outS b g1 g2) w103 w104
        (LdsK TVK ⟨g2, 0, none⟩ w104 fun (x : TV) => StsK ⟨g1, 0, none⟩ (tvL x) w104 fun w2 => LdsK TVK ⟨g1, 0, none⟩ w2 fun (y : TV) => ∃ v : TV, tvA y = tvA v ∧ MT w m b i N v w2)))))))
       (StK ((⟨g2, 0, none⟩ : Addr).add 1) (.string (str x)) w100 (fun w108 => KeepK (outS b g1 g2) w100 w108 (RunK Tryz.prog (Instr.buildSlice 39 vs.length (((vs.map tvL).zipIdx.map fun (l, i) => (i, Value.agg l.toArray)).toArray)) w108 (.v (.one .slc)) (fun (x109 : Option Addr × Nat × Nat) w110 => KeepK (outS b g1 g2) w108 w110 (StK ((⟨g2, 0, none⟩ : Addr).add 3) (.slice x109.1 x109.2.1 x109.2.2) w110 (fun w111 => KeepK (outS b g1 g2) w110 w111
        (LdsK TVK ⟨g2, 0, none⟩ w111 fun (x : TV) => StsK ⟨g1, 0, none⟩ (tvL x) w111 fun w2 => LdsK TVK ⟨g1, 0, none⟩ w2 fun (y : TV) => ∃ v : TV, tvA y = tvA v ∧ MT w m b i N v w2)))))))))) := by
  refine ⟨?_, ?_⟩
  · refine tr_lit vs hl fun u w1 hu hul f1 hf1 => KeepK.of f1 ?_
    have s1 := s.keep0 f1
    have m1 := hm.keep0 f1
    have hk : ∀ k, blkOf u k → ¬ only g2 k := fun k hk t => by have : k = g2 := t; have := hf1 k hk; have := s.B; have := s.Bg2; omega
    refine s1.t2.k 5 fun w2 t2 f2 => KeepK.on f2 out_2 ?_
    have s2 := s1.set f2 t2
    have m2 := m1.set s1 f2
    refine s2.t2.s (str x) fun w3 t3 f3 => KeepK.on f3 out_2 ?_
    have s3 := s2.set f3 t3
    have m3 := m2.set s2 f3
    refine s3.t2.u u fun w4 t4 f4 => KeepK.on f4 out_2 ?_
    have s4 := s3.set f4 t4
    have m4 := m3.set s3 f4
    exact s4.tell hn hB (t := t) (by rw [he]; exact node_made 5 x 0 (((hu.keep f2 hk).keep f3 hk).keep f4 hk) hul (fun k hk => by have := hf1 k hk; have := s.B; omega) m4) ht hs
  · refine s.t2.k 5 fun w1 t1 f1 => KeepK.on f1 out_2 ?_
    have s1 := s.set f1 t1
    have m1 := hm.set s f1
    refine ⟨?_, ?_⟩
    · refine tr_lit vs hl fun u w2 hu hul f2 hf2 => KeepK.of f2 ?_
      have hk : ∀ k, blkOf u k → ¬ only g2 k := fun k hk t => by have : k = g2 := t; have := hf2 k hk; have := s1.B; have := s.Bg2; omega
      have s2 := s1.keep0 f2
      have m2 := m1.keep0 f2
      refine s2.t2.s (str x) fun w3 t3 f3 => KeepK.on f3 out_2 ?_
      have s3 := s2.set f3 t3
      have m3 := m2.set s2 f3
      refine s3.t2.u u fun w4 t4 f4 => KeepK.on f4 out_2 ?_
      have s4 := s3.set f4 t4
      have m4 := m3.set s3 f4
      exact s4.tell hn hB (t := t) (by rw [he]; exact node_made 5 x 0 ((hu.keep f3 hk).keep f4 hk) hul (fun k hk => by have := hf2 k hk; have := s1.B; omega) m4) ht hs
    · refine s1.t2.s (str x) fun w3 t3 f3 => KeepK.on f3 out_2 ?_
      have s3 := s1.set f3 t3
      have m3 := m1.set s1 f3
      refine tr_lit vs hl fun u w2 hu hul f2 hf2 => KeepK.of f2 ?_
      have hk : ∀ k, blkOf u k → ¬ only g2 k := fun k hk t => by have : k = g2 := t; have := hf2 k hk; have := s3.B; have := s.Bg2; omega
      have s2 := s3.keep0 f2
      have m2 := m3.keep0 f2
      refine s2.t2.u u fun w4 t4 f4 => KeepK.on f4 out_2 ?_
      have s4 := s2.set f4 t4
      have m4 := m2.set s2 f4
      exact s4.tell hn hB (t := t) (by rw [he]; exact node_made 5 x 0 (hu.keep f4 hk) hul (fun k hk => by have := hf2 k hk; have := s3.B; omega) m4) ht hs

end Go.Proofs.YtdphmcanlhcokaaGreatDoor
