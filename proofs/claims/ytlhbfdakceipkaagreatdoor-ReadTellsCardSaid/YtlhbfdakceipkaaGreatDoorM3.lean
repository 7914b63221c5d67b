/-
  Texts of this claim, put together: StrSpec, NumF, ReadF, LexF, CReadG, ReadSpec, ReadSpec2, CSameG, SameSpec, CWake7, Wake7, Text7, RefReadF, CRefSg.
  Conditions: those of each theorem.
-/
import Derived.Test.YtlhbfdakceipkaaGreatDoorM0
import Derived.Test.YtlhbfdakceipkaaGreatDoorM1
import Derived.Test.YtlhbfdakceipkaaGreatDoorM2
import Derived.KernelRfl
import Derived.Laws.BytesString
import Derived.Laws.IdiomStrings
import Derived.Laws.StructEq
import Derived.Lib.ItoaNum
import Derived.Lib.RuneCount
import Derived.Test.YtlhbfdakceipkaaGreatDoorProg
/-! ### StrSpec -/
set_option linter.unusedVariables false
set_option maxRecDepth 100000
namespace Go.Proofs.YtlhbfdakceipkaaGreatDoor
open Vc

theorem extract_str (a : List UInt8) (i j : Nat) : (str a).extract i j = str ((a.drop i).take (j - i)) := by
  apply ByteArray.ext
  rw [ByteArray.data_extract]
  unfold str
  simp
theorem subs_ok {a : List UInt8} {lo hi : Int} (h0 : 0 ≤ lo) (h1 : lo ≤ hi) (h2 : hi ≤ a.length) {K : ByteArray → Prop} (k : K (str ((a.drop lo.toNat).take (hi.toNat - lo.toNat)))) : SubsK (str a) lo hi K :=
  ⟨h0, h1, by rw [str_size]; exact h2, by rw [extract_str]; exact k⟩
theorem strk_ok {a : List UInt8} {i : Int} (h0 : 0 ≤ i) (h1 : i < a.length) {K : Int → Prop} (k : K ((a.getD i.toNat 0).toNat : Int)) : StrK (str a) i K := by
  refine ⟨a.getD i.toNat 0, h0, ?_, k⟩
  have hlt : i.toNat < (str a).size := by rw [str_size]; omega
  rw [getElem?_pos (str a) i.toNat hlt, List.getD_eq_getElem?_getD, List.getElem?_eq_getElem (by omega)]
  rfl
theorem hasPrefix_spec (a b : List UInt8) (w : World) : Ret Tryz.prog 197 #[.string (str a), .string (str b)] w fun r w' => r = .bool (decide (a.take b.length = b)) ∧ w = w' := by
  refine c197 _ _ w _ ?_
  unfold C197
  rw [str_size, str_size]
  refine ifB.dec (fun h => ?_) (fun h => ?_)
  · refine subs_ok (by omega) (by omega) (by omega) ?_
    rw [str_beq]
    exact ⟨by simp, rfl⟩
  · refine ⟨?_, rfl⟩
    rw [decide_eq_false]
    intro t
    have := congrArg List.length t
    rw [List.length_take] at this
    omega

/-- What stands behind a '-', if one stands ahead. -/
def noMinus (s : List UInt8) : List UInt8 := if s.take 1 = [45] then s.drop 1 else s
theorem trimPrefix_spec (s : List UInt8) (w : World) : Ret Tryz.prog 160 #[.string (str s), .string (str [45])] w fun r w' => r = .string (str (noMinus s)) ∧ w = w' := by
  refine c160 _ _ w _ ?_
  refine CallK.of (R := fun r w' => r = .string (str (noMinus s)) ∧ w = w') ?_ (by rintro _ _ ⟨rfl, rfl⟩; exact ⟨_, rfl, rfl, rfl⟩)
  refine c178 _ _ w _ ?_
  refine CallK.of (hasPrefix_spec s [45] w) ?_
  rintro _ _ ⟨rfl, rfl⟩
  refine ⟨_, rfl, ?_⟩
  unfold noMinus
  refine ifB.dec (fun h => ?_) (fun h => ?_)
  · have h : s.take 1 = [45] := h
    have hl : 1 ≤ s.length := by
      have := congrArg List.length h
      rw [List.length_take] at this
      simp only [List.length_cons, List.length_nil] at this
      omega
    rw [if_pos h, str_size, str_size]
    refine subs_ok (by simp) (by simp only [List.length_cons, List.length_nil]; omega) (by omega) ?_
    refine ⟨?_, rfl⟩
    rw [List.take_of_length_le (by simp)]
    rfl
  · have h : ¬ s.take 1 = [45] := h
    rw [if_neg h]; exact ⟨rfl, rfl⟩

/-! ### Sets of bytes -/
def setA (cs : List UInt8) : List Value := (List.range 256).map fun c => .bool (decide (c ∈ cs.map (·.toNat)))
theorem setA_len (cs : List UInt8) : (setA cs).length = 256 := by unfold setA; simp
theorem setA_at (cs : List UInt8) {c : Nat} (h : c < 256) : (setA cs)[c]? = some (.bool (decide (c ∈ cs.map (·.toNat)))) := by
  unfold setA
  rw [List.getElem?_map, List.getElem?_range h]
  rfl
theorem setA_one (cs : List UInt8) : (setA cs).all one1 = true := by
  rw [List.all_eq_true]
  intro v hv
  obtain ⟨c, _, rfl⟩ := List.mem_map.1 hv
  rfl
theorem setA_snoc (cs : List UInt8) (c : UInt8) : (setA cs).set c.toNat (.bool true) = setA (cs ++ [c]) := by
  refine List.ext_getElem? fun i => ?_
  by_cases hi : i < 256
  · rw [setA_at _ hi, List.getElem?_set]
    by_cases hc : c.toNat = i
    · rw [if_pos hc, if_pos (by rw [setA_len, hc]; exact hi)]
      simp [hc]
    · rw [if_neg hc, setA_at _ hi]
      congr 2
      refine decide_eq_decide.2 ?_
      rw [List.map_append, List.mem_append]
      simp only [List.map_cons, List.map_nil, List.mem_singleton]
      exact ⟨.inl, fun t => t.elim id (fun t => absurd t.symm hc)⟩
  · rw [List.getElem?_eq_none (by rw [List.length_set, setA_len]; omega), List.getElem?_eq_none (by rw [setA_len]; omega)]

def IsSet (w : World) (g : Nat) (cs : List UInt8) : Prop := w.heap[g]? = some (.cells (setA cs).toArray 295 (0, 0))
theorem IsSet.lda {w : World} {g : Nat} {cs : List UInt8} (h : IsSet w g cs) {K : List Value → Prop} (k : K (setA cs)) : LdaK 256 (⟨g, 0, none⟩ : Addr) w K :=
  ⟨setA cs, setA_len cs, cellsAt_all h _ 0 fun j _ => by simp, k⟩

theorem contains_spec {w : World} {g : Nat} {cs : List UInt8} (h : IsSet w g cs) (c : UInt8) : Ret Tryz.prog 198 #[.pointer (some ⟨g, 0, none⟩), .int .u8 (c.toNat : Int)] w fun r w' => r = .bool (decide (c ∈ cs)) ∧ w = w' := by
  refine c198 _ _ w _ ?_
  have hc := UInt8.toNat_lt c
  refine ⟨by omega, by omega, ?_⟩
  rw [addr_add, Nat.mul_one, Int.toNat_natCast, Nat.zero_add]
  refine LdK.of h (x := decide (c ∈ cs)) ?_ ⟨rfl, rfl⟩
  rw [List.getElem?_toArray, setA_at _ (by omega)]
  congr 2
  refine decide_eq_decide.2 ?_
  rw [List.mem_map]
  constructor
  · rintro ⟨d, hd, e⟩
    rwa [← UInt8.toNat_inj.1 e]
  · intro t; exact ⟨c, t, rfl⟩

theorem makeSet_spec (cs : List UInt8) (hcs : ∀ c ∈ cs, c.toNat < 128) (hl : cs.length ≤ 1000) (w : World) : Ret Tryz.prog 181 #[.string (str cs)] w fun r w' => r = .tuple #[.agg (setA cs).toArray, .bool true] ∧ Fr none1 w w' := by
  refine c181 _ w _ ?_
  unfold C181
  refine NewK.of fun g w1 hg hg1 f1 _ => ?_
  have h1 : IsSet w1 g [] := hg1
  have F1 : Fr (only g) w1 w1 := Fr.refl _ _
  refine LoopK.of (fun s w' => ∃ n : Nat, s.1 = n ∧ n ≤ cs.length ∧ IsSet w' g (cs.take n) ∧ Fr (only g) w1 w') (fun s _ => cs.length - s.1.toNat) ⟨0, rfl, by omega, h1, F1⟩ ?_
  rintro _ ⟨i, _⟩ w2 ⟨n, hn, hnl, h2, f2⟩
  dsimp only at hn ⊢
  subst hn
  rw [str_size]
  refine ifB.dec (fun hlt => ?_) (fun hge => ?_)
  · refine strk_ok (by omega) (by omega) ?_
    rw [Int.toNat_natCast]
    have hmem : cs.getD n 0 ∈ cs := by
      rw [List.getD_eq_getElem?_getD, List.getElem?_eq_getElem (by omega)]
      exact List.getElem_mem _
    have hc := hcs _ hmem
    refine ifB.no (by omega) ?_
    refine ⟨by omega, by omega, ?_⟩
    rw [addr_add, Nat.mul_one, Int.toNat_natCast, Nat.zero_add]
    refine StK.of h2 (by rw [List.size_toArray, setA_len]; omega) rfl fun w3 h3 f3 _ => ?_
    rw [wI (x := (n : Int) + 1) (by omega) (by omega)]
    refine ⟨⟨n + 1, by omega, by omega, ?_, f2.trans f3⟩, by omega⟩
    unfold IsSet
    rw [h3, List.setIfInBounds_toArray, setA_snoc]
    have : cs.take n ++ [cs.getD n 0] = cs.take (n + 1) := by
      rw [List.take_succ_eq_append_getElem (by omega), List.getD_eq_getElem?_getD, List.getElem?_eq_getElem (by omega)]
      rfl
    rw [this]
  · have : n = cs.length := by omega
    subst this
    rw [List.take_length] at h2
    refine h2.lda ?_
    refine ⟨setA_len cs, StsK.blk h2 rfl (setA_one cs) fun w3 h3 f3 _ => ?_⟩
    have h3 : IsSet w3 g cs := h3
    refine h3.lda ⟨rfl, (f1.fresh f2 (by omega)).fresh f3 (by omega)⟩

theorem trimRight_spec {w : World} {g : Nat} {cs : List UInt8} (h : IsSet w g cs) (s : List UInt8) (hl : s.length ≤ 1000000) : Ret Tryz.prog 183 #[.string (str s), .pointer (some ⟨g, 0, none⟩)] w fun r w' =>
    (∃ t u, r = .string (str t) ∧ s = t ++ u ∧ (∀ c ∈ u, c ∈ cs) ∧ (t = [] ∨ ¬ t.getD (t.length - 1) 0 ∈ cs)) ∧ w = w' := by
  refine c183 _ _ w _ ?_
  refine LoopK.of (fun q w' => w = w' ∧ ∃ t u, q.1 = str t ∧ s = t ++ u ∧ ∀ c ∈ u, c ∈ cs) (fun q _ => q.1.size) ⟨rfl, s, [], rfl, by simp, by simp⟩ ?_
  rintro _ ⟨q, _⟩ _ ⟨rfl, t, u, hq, hs, hu⟩
  dsimp only at hq ⊢
  subst hq
  have htl : t.length ≤ s.length := by rw [hs, List.length_append]; omega
  rw [str_size]
  refine ifB.dec (fun hpos => ?_) (fun hz => ?_)
  · rw [wI (x := (t.length : Int) - 1) (by omega) (by omega)]
    refine strk_ok (by omega) (by omega) ?_
    rw [show ((t.length : Int) - 1).toNat = t.length - 1 by omega]
    refine CallK.of (contains_spec h _) ?_
    rintro _ _ ⟨rfl, rfl⟩
    refine ⟨_, rfl, ?_⟩
    by_cases hc : t.getD (t.length - 1) 0 ∈ cs
    · refine ifB.f (by rw [decide_eq_true hc]; rfl) ?_
      refine subs_ok (by omega) (by omega) (by omega) ?_
      have e : (t.drop (0 : Int).toNat).take (((t.length : Int) - 1).toNat - (0 : Int).toNat) = t.take (t.length - 1) := by
        rw [show (0 : Int).toNat = 0 from rfl, List.drop_zero, show ((t.length : Int) - 1).toNat - 0 = t.length - 1 by omega]
      rw [e]
      refine ⟨⟨rfl, t.take (t.length - 1), t.getD (t.length - 1) 0 :: u, rfl, ?_, fun c hc' => ?_⟩, ?_⟩
      · rw [hs]
        have : t = t.take (t.length - 1) ++ [t.getD (t.length - 1) 0] := by
          conv => lhs; rw [← List.take_length (l := t), show t.length = (t.length - 1) + 1 by omega, List.take_succ_eq_append_getElem (by omega)]
          rw [List.getD_eq_getElem?_getD, List.getElem?_eq_getElem (by omega)]
          rfl
        conv => lhs; rw [this]
        simp
      · rcases List.mem_cons.1 hc' with t' | t'
        · rw [t']; exact hc
        · exact hu c t'
      · rw [str_size, List.length_take]; omega
    · refine ifB.t (by rw [decide_eq_false hc]; rfl) ⟨⟨t, u, rfl, hs, hu, .inr hc⟩, rfl⟩
  · exact ⟨⟨t, u, rfl, hs, hu, .inl (List.eq_nil_of_length_eq_zero (by omega))⟩, rfl⟩

theorem trimLeft_spec {w : World} {g : Nat} {cs : List UInt8} (h : IsSet w g cs) (s : List UInt8) (hl : s.length ≤ 1000000) : Ret Tryz.prog 182 #[.string (str s), .pointer (some ⟨g, 0, none⟩)] w fun r w' =>
    (∃ t u, r = .string (str t) ∧ s = u ++ t ∧ (∀ c ∈ u, c ∈ cs) ∧ (t = [] ∨ ¬ t.getD 0 0 ∈ cs)) ∧ w = w' := by
  refine c182 _ _ w _ ?_
  refine LoopK.of (fun q w' => w = w' ∧ ∃ t u, q.1 = str t ∧ s = u ++ t ∧ ∀ c ∈ u, c ∈ cs) (fun q _ => q.1.size) ⟨rfl, s, [], rfl, by simp, by simp⟩ ?_
  rintro _ ⟨q, _⟩ _ ⟨rfl, t, u, hq, hs, hu⟩
  dsimp only at hq ⊢
  subst hq
  have htl : t.length ≤ s.length := by rw [hs, List.length_append]; omega
  rw [str_size]
  refine ifB.dec (fun hpos => ?_) (fun hz => ?_)
  · refine strk_ok (by omega) (by omega) ?_
    rw [show (0 : Int).toNat = 0 from rfl]
    refine CallK.of (contains_spec h _) ?_
    rintro _ _ ⟨rfl, rfl⟩
    refine ⟨_, rfl, ?_⟩
    by_cases hc : t.getD 0 0 ∈ cs
    · refine ifB.f (by rw [decide_eq_true hc]; rfl) ?_
      refine subs_ok (by omega) (by omega) (by omega) ?_
      have e : (t.drop (1 : Int).toNat).take (((t.length : Nat) : Int).toNat - (1 : Int).toNat) = t.drop 1 := by
        rw [show (1 : Int).toNat = 1 from rfl, List.take_of_length_le (by rw [List.length_drop]; omega)]
      rw [e]
      refine ⟨⟨rfl, t.drop 1, u ++ [t.getD 0 0], rfl, ?_, fun c hc' => ?_⟩, ?_⟩
      · rw [hs]
        cases t with
        | nil => simp at hpos
        | cons x t => simp
      · rcases List.mem_append.1 hc' with t' | t'
        · exact hu c t'
        · simp only [List.mem_singleton] at t'; rw [t']; exact hc
      · rw [str_size, List.length_drop]; omega
    · refine ifB.t (by rw [decide_eq_false hc]; rfl) ⟨⟨t, u, rfl, hs, hu, .inr hc⟩, rfl⟩
  · exact ⟨⟨t, u, rfl, hs, hu, .inl (List.eq_nil_of_length_eq_zero (by omega))⟩, rfl⟩

/-- Trim gives the empty text just where all is of the set. -/
theorem trim_spec (s cs : List UInt8) (hne : s ≠ []) (hcs : ∀ c ∈ cs, c.toNat < 128) (h2 : 2 ≤ cs.length) (hcl : cs.length ≤ 1000) (hl : s.length ≤ 1000000) (w : World) : Ret Tryz.prog 161 #[.string (str s), .string (str cs)] w fun r w' =>
    (∃ v, r = .string (str v) ∧ (v = [] ↔ ∀ c ∈ s, c ∈ cs)) ∧ Fr none1 w w' := by
  refine c161 _ _ w _ ?_
  unfold C161
  have e0 : (⟨#[]⟩ : ByteArray) = str [] := rfl
  rw [e0, str_beq, str_beq]
  refine ifB.no hne (ifB.no (fun t => by rw [t] at h2; simp at h2) ?_)
  refine JoinK.of (fun q w' => q.1 = false ∧ w = w') ?_ ?_
  · refine ifB.f ?_ ⟨rfl, rfl⟩
    rw [str_size, beq_eq_false_iff_ne]; omega
  rintro _ ⟨q, _⟩ _ ⟨hq, rfl⟩
  dsimp only at hq
  subst hq
  refine ifB.f rfl ?_
  refine CallK.of (makeSet_spec cs hcs hcl w) ?_
  rintro _ w1 ⟨rfl, f1⟩
  refine ⟨(setA cs, true, ()), rfl, ?_⟩
  refine NewK.of fun g w2 hg hg2 f2 _ => ?_
  have h2' : IsSet w2 g [] := hg2
  refine ⟨setA_len cs, StsK.blk h2' (by rw [setA_len, setA_len]) (setA_one cs) fun w3 h3 f3 _ => ?_⟩
  have h3 : IsSet w3 g cs := h3
  refine ifB.t rfl ?_
  refine CallK.of (trimRight_spec h3 s hl) ?_
  rintro _ _ ⟨⟨t, u, rfl, hs, hu, ht⟩, rfl⟩
  refine ⟨_, rfl, ?_⟩
  have htl : t.length ≤ s.length := by rw [hs, List.length_append]; omega
  refine CallK.of (trimLeft_spec h3 t (by omega)) ?_
  rintro _ _ ⟨⟨v, u', rfl, ht', hu', hv⟩, rfl⟩
  refine ⟨_, rfl, ⟨v, rfl, ?_⟩, f1.trans (f2.fresh f3 (by omega))⟩
  constructor
  · intro hv0 c hc
    rw [hs, ht', hv0, List.append_nil] at hc
    rcases List.mem_append.1 hc with hc | hc
    · exact hu' c hc
    · exact hu c hc
  · intro hall
    rcases hv with hv | hv
    · exact hv
    · cases v with
      | nil => rfl
      | cons x v =>
        refine absurd (hall x ?_) hv
        rw [hs, ht']; simp

/-! ### Atoi -/
def isD (c : UInt8) : Bool := decide (48 ≤ c.toNat) && decide (c.toNat ≤ 57)
def digs : List UInt8 := [48, 49, 50, 51, 52, 53, 54, 55, 56, 57]
theorem mem_digs (c : UInt8) : c ∈ digs ↔ isD c = true := by
  have hc := UInt8.toNat_lt c
  constructor
  · intro h
    have h : c = 48 ∨ c = 49 ∨ c = 50 ∨ c = 51 ∨ c = 52 ∨ c = 53 ∨ c = 54 ∨ c = 55 ∨ c = 56 ∨ c = 57 := by simpa [digs] using h
    rcases h with h | h | h | h | h | h | h | h | h | h <;> subst h <;> rfl
  · intro h
    have h : 48 ≤ c.toNat ∧ c.toNat ≤ 57 := by simpa [isD] using h
    obtain ⟨n, hn⟩ : ∃ n, c.toNat = n := ⟨_, rfl⟩
    have e : c = UInt8.ofNat n := by rw [← hn]; exact (UInt8.ofNat_toNat).symm
    have : n = 48 ∨ n = 49 ∨ n = 50 ∨ n = 51 ∨ n = 52 ∨ n = 53 ∨ n = 54 ∨ n = 55 ∨ n = 56 ∨ n = 57 := by omega
    rcases this with t | t | t | t | t | t | t | t | t | t <;> (rw [t] at e; rw [e]; decide)
def valL (d : List UInt8) : Int := d.foldl (fun n c => n * 10 + ((c.toNat : Int) - 48)) 0
theorem valL_snoc (d : List UInt8) (c : UInt8) : valL (d ++ [c]) = valL d * 10 + ((c.toNat : Int) - 48) := by unfold valL; rw [List.foldl_append]; rfl
theorem foldl_val : ∀ (d : List UInt8) (n : Int), 0 ≤ n → (∀ c ∈ d, isD c = true) → 0 ≤ d.foldl (fun n c => n * 10 + ((c.toNat : Int) - 48)) n ∧ d.foldl (fun n c => n * 10 + ((c.toNat : Int) - 48)) n < (n + 1) * ((10 ^ d.length : Nat) : Int)
  | [], n, h0, _ => by simp; omega
  | c :: d, n, h0, h => by
    have hc : 48 ≤ c.toNat ∧ c.toNat ≤ 57 := by simpa [isD] using h c (by simp)
    obtain ⟨i1, i2⟩ := foldl_val d (n * 10 + ((c.toNat : Int) - 48)) (by omega) (fun x hx => h x (by simp [hx]))
    refine ⟨i1, Int.lt_of_lt_of_le i2 ?_⟩
    have e : (n + 1) * ((10 ^ (c :: d).length : Nat) : Int) = (n * 10 + 10) * ((10 ^ d.length : Nat) : Int) := by
      rw [List.length_cons, Nat.pow_succ, Int.natCast_mul, Int.mul_comm ((10 ^ d.length : Nat) : Int), ← Int.mul_assoc]
      congr 1
      omega
    rw [e]
    exact Int.mul_le_mul_of_nonneg_right (by omega) (Int.natCast_nonneg _)
theorem valL_bound (d : List UInt8) (h : ∀ c ∈ d, isD c = true) (hl : d.length ≤ 18) : 0 ≤ valL d ∧ valL d < 1000000000000000000 := by
  obtain ⟨a, b⟩ := foldl_val d 0 (Int.le_refl _) h
  have : 10 ^ d.length ≤ 10 ^ 18 := Nat.pow_le_pow_right (by decide) hl
  unfold valL
  omega

theorem bytes_of {w : World} (s : List UInt8) : ∃ (v : Sl) (w' : World), (convert 9 38 (.string (str s))).run Tryz.prog w = .ok (.slice v.1 v.2.1 v.2.2) w' ∧ RdSl w' 1 v (s.map fun b => Value.int .u8 (b.toNat : Int)) ∧ v.2.1 = s.length ∧ Fr none1 w w' := by
  refine ⟨(some ⟨w.heap.size, 0, none⟩, (str s).size, _), _, run_bytes_of_string w 9 38 5 (str s) Tryz.underlying9 Tryz.underlying38 Tryz.underlying5, ?_, str_size s, ?_⟩
  · refine ⟨by rw [List.length_map, Nat.mul_one]; exact (str_size s).symm, (fun t => nomatch t), fun a ha => ?_⟩
    injection ha with ha
    subst ha
    refine cellsAt_all (Array.getElem?_push_size ..) _ 0 fun j hj => ?_
    rw [List.length_map] at hj
    unfold bytesRow
    rw [Nat.zero_add, Array.getElem?_append_left (by unfold str; simpa using hj)]
    unfold str
    simp
  · exact (drew_fr w).trans (push_fr _ _)

theorem iatoi_spec (s d : List UInt8) (neg : Bool) (hs : s = (if neg then 45 :: d else d)) (hne : d ≠ []) (hd : ∀ c ∈ d, isD c = true) (hl : s.length < 19) (w : World) :
    Ret Tryz.prog 186 #[.string (str s)] w fun r w' => r = .tuple #[.int .i64 (if neg then -(valL d) else valL d), .nilIface] ∧ Fr none1 w w' := by
  refine c186 _ w _ ?_
  unfold C186
  have hdl : 0 < d.length := List.length_pos_iff.2 hne
  have hsl : s.length = d.length + (if neg then 1 else 0) := by rw [hs]; cases neg <;> simp
  have hd18 : d.length ≤ 18 := by omega
  have h0 : 0 < s.length := by omega
  have hd0 : 48 ≤ (d.getD 0 0).toNat ∧ (d.getD 0 0).toNat ≤ 57 := by
    have : isD (d.getD 0 0) = true := hd _ (by rw [List.getD_eq_getElem?_getD, List.getElem?_eq_getElem hdl]; exact List.getElem_mem _)
    simpa [isD] using this
  have hs0 : ((s.getD 0 0).toNat = 45 ∧ neg = true) ∨ (48 ≤ (s.getD 0 0).toNat ∧ (s.getD 0 0).toNat ≤ 57 ∧ neg = false) := by
    rw [hs]
    cases neg with
    | true => exact .inl ⟨rfl, rfl⟩
    | false => exact .inr ⟨hd0.1, hd0.2, rfl⟩
  refine JoinK.of (fun q w' => q.1 = true ∧ w = w') ?_ ?_
  · rw [str_size]
    refine ifB.yes (by omega) ⟨decide_eq_true (by omega), rfl⟩
  rintro _ ⟨q, _⟩ _ ⟨hq, rfl⟩
  dsimp only at hq
  subst hq
  refine ifB.t rfl ?_
  refine JoinK.of (fun q w' => q.1 = str d ∧ w = w') ?_ ?_
  · refine JoinK.of (fun q w' => q.1 = neg ∧ w = w') ?_ ?_
    · refine strk_ok (by omega) (by omega) ?_
      rw [show (0 : Int).toNat = 0 from rfl]
      refine ifB.eq (fun h => ?_) (fun h => ?_)
      · refine ⟨?_, rfl⟩
        rcases hs0 with ⟨_, hn⟩ | ⟨h1, _, _⟩
        · exact hn.symm
        · omega
      · refine strk_ok (by omega) (by omega) ⟨?_, rfl⟩
        rw [show (0 : Int).toNat = 0 from rfl]
        rcases hs0 with ⟨h1, _⟩ | ⟨h1, _, hn⟩
        · omega
        · rw [hn]; simp only [beq_eq_false_iff_ne]; omega
    rintro _ ⟨q, _⟩ _ ⟨hq, rfl⟩
    dsimp only at hq
    subst hq
    refine ifB.by (fun hn => ?_) (fun hn => ?_)
    · subst hn
      refine subs_ok (by omega) (by rw [str_size]; omega) (by rw [str_size]; omega) ?_
      have e : (s.drop (1 : Int).toNat).take (((str s).size : Int).toNat - (1 : Int).toNat) = d := by
        rw [str_size, hs]
        simp
      rw [e, str_size]
      refine ifB.no (by omega) ⟨rfl, rfl⟩
    · subst hn
      refine ⟨?_, rfl⟩
      show str s = str d
      rw [hs]; rfl
  rintro _ ⟨q, _⟩ _ ⟨hq, rfl⟩
  dsimp only at hq
  subst hq
  obtain ⟨v, w1, r1, hv, hvl, f1⟩ := bytes_of (w := w) d
  refine ⟨v, w1, r1, ?_⟩
  refine LoopK.of (fun q w' => w1 = w' ∧ ∃ n : Nat, q.2.1 = n ∧ n ≤ d.length ∧ q.1 = valL (d.take n)) (fun q _ => d.length - q.2.1.toNat) ⟨rfl, 0, rfl, by omega, rfl⟩ ?_
  rintro _ ⟨m, i, _⟩ _ ⟨rfl, n, hn, hnl, hm⟩
  dsimp only at hn hm ⊢
  subst hn; subst hm
  refine ifB.dec (fun hlt => ?_) (fun hge => ?_)
  · have hmem : d.getD n 0 ∈ d := by rw [List.getD_eq_getElem?_getD, List.getElem?_eq_getElem (by omega)]; exact List.getElem_mem _
    have hc : 48 ≤ (d.getD n 0).toNat ∧ (d.getD n 0).toNat ≤ 57 := by simpa [isD] using hd _ hmem
    refine RdSl.ld hv (by omega) hlt (x := ((d.getD n 0).toNat : Int)) (by rw [Int.toNat_natCast, List.getElem?_map, List.getD_eq_getElem?_getD, List.getElem?_eq_getElem (by omega)]; rfl) ?_
    have e1 : IntKind.u8.wrap (((d.getD n 0).toNat : Int) - 48) = ((d.getD n 0).toNat : Int) - 48 := by rw [IntKind.wrap_u8]; omega
    rw [e1]
    refine ifB.no (by omega) ?_
    obtain ⟨b1, b2⟩ := valL_bound (d.take n) (fun c hc => hd c (List.mem_of_mem_take hc)) (by rw [List.length_take]; omega)
    rw [wI (x := ((d.getD n 0).toNat : Int) - 48) (by omega) (by omega)]
    obtain ⟨b3, b4⟩ := valL_bound (d.take (n + 1)) (fun c hc => hd c (List.mem_of_mem_take hc)) (by rw [List.length_take]; omega)
    have e2 : d.take (n + 1) = d.take n ++ [d.getD n 0] := by
      rw [List.take_succ_eq_append_getElem (by omega), List.getD_eq_getElem?_getD, List.getElem?_eq_getElem (by omega)]; rfl
    rw [e2, valL_snoc] at b3 b4
    rw [wI (x := valL (d.take n) * 10) (by omega) (by omega), wI (x := valL (d.take n) * 10 + (((d.getD n 0).toNat : Int) - 48)) (by omega) (by omega), wI (x := (n : Int) + 1) (by omega) (by omega)]
    refine ⟨⟨rfl, n + 1, by omega, by omega, ?_⟩, by omega⟩
    rw [e2, valL_snoc]
  · have : n = d.length := by omega
    subst this
    rw [List.take_length]
    obtain ⟨b1, b2⟩ := valL_bound d hd hd18
    refine strk_ok (by omega) (by omega) ?_
    rw [show (0 : Int).toNat = 0 from rfl]
    rcases hs0 with ⟨h1, hn⟩ | ⟨h1, h2, hn⟩
    · subst hn
      refine ifB.t (by rw [h1]; rfl) ?_
      rw [wI (x := 0 - valL d) (by omega) (by omega), Int.zero_sub]
      exact ⟨rfl, f1⟩
    · subst hn
      refine ifB.f (by simp only [beq_eq_false_iff_ne]; omega) ⟨rfl, f1⟩

theorem nil_ne {t : TypeId} (ht : ∃ ms, Tryz.prog.underlying t = some (.interface ms)) (o : Operand) (w : World) :
    (do eqGuard .neq t o (.const .nilIface) .nilIface .nilIface; binOp .neq t .nilIface .nilIface : Sem Value).run Tryz.prog w = .ok (.bool false) w := by
  obtain ⟨ms, ht⟩ := ht
  have h1 : (eqGuard .neq t o (.const .nilIface) .nilIface .nilIface).run Tryz.prog w = .ok () w := by
    unfold eqGuard
    simp
  rw [Sem.run_bind, h1, Result.andThen_ok]
  have h2 : (Op.equalIn (9999 + 1) t .nilIface .nilIface).run Tryz.prog w = .ok true w := by
    unfold Op.equalIn
    simp only [Sem.run_bind, under ht, Result.andThen_ok, Sem.run_pure]
  show (do pure (Value.bool (!(← Op.equalIn (9999 + 1) t .nilIface .nilIface))) : Sem Value).run Tryz.prog w = _
  rw [Sem.run_bind, h2]
  rfl

theorem atoi_spec (s d : List UInt8) (neg : Bool) (hs : s = (if neg then 45 :: d else d)) (hne : d ≠ []) (hd : ∀ c ∈ d, isD c = true) (hl : s.length < 19) (w : World) :
    Ret Tryz.prog 162 #[.string (str s)] w fun r w' => r = .tuple #[.int .i64 (if neg then -(valL d) else valL d), .nilIface] ∧ Fr none1 w w' := by
  refine c162 _ w _ ?_
  refine CallK.of (iatoi_spec s d neg hs hne hd hl w) ?_
  rintro _ w1 ⟨rfl, f1⟩
  refine ⟨(_, .nilIface, ()), rfl, ?_⟩
  refine ⟨false, w1, nil_ne ⟨_, Tryz.underlying275⟩ _ w1, ifB.f rfl ⟨rfl, f1⟩⟩

/-! ### A number out of a text -/
def numF (s : List UInt8) : Int × Bool :=
  if noMinus s = [] ∨ 13 < (noMinus s).length ∨ (noMinus s).all isD = false ∨ ((noMinus s).getD 0 0 = 48 ∧ s ≠ [48]) then (0, false) else
  if 1000000000000 < valL (noMinus s) then (0, false) else (if s.take 1 = [45] then -(valL (noMinus s)) else valL (noMinus s), true)

theorem number_spec (s : List UInt8) (hl : s.length ≤ 100000) (w : World) : Ret Tryz.prog 133 #[.string (str s)] w fun r w' => r = .tuple #[.int .i64 (numF s).1, .bool (numF s).2] ∧ Fr none1 w w' := by
  refine c133 _ w _ ?_
  unfold C133
  have e0 : (⟨#[]⟩ : ByteArray) = str [] := rfl
  have e45 : (⟨#[45]⟩ : ByteArray) = str [45] := rfl
  have e48 : (⟨#[48]⟩ : ByteArray) = str [48] := rfl
  have ed : (⟨#[48, 49, 50, 51, 52, 53, 54, 55, 56, 57]⟩ : ByteArray) = str digs := rfl
  rw [e0, e45, e48, ed]
  refine CallK.of (trimPrefix_spec s w) ?_
  rintro _ _ ⟨rfl, rfl⟩
  refine ⟨_, rfl, ?_⟩
  have hdl : (noMinus s).length ≤ s.length := by unfold noMinus; split <;> simp
  refine JoinK.of (fun q w' => q.1 = decide (noMinus s = [] ∨ 13 < (noMinus s).length ∨ (noMinus s).all isD = false ∨ ((noMinus s).getD 0 0 = 48 ∧ s ≠ [48])) ∧ Fr none1 w w') ?_ ?_
  · rw [str_beq]
    refine ifB.dec (fun h => ?_) (fun h => ?_)
    · exact ⟨(decide_eq_true (.inl h)).symm, Fr.refl _ _⟩
    rw [str_size]
    refine ifB.dec (fun h2 => ?_) (fun h2 => ?_)
    · exact ⟨(decide_eq_true (.inr (.inl (by omega)))).symm, Fr.refl _ _⟩
    refine CallK.of (trim_spec (noMinus s) digs h (by decide) (by decide) (by decide) (by omega) w) ?_
    rintro _ w1 ⟨⟨v, rfl, hv⟩, f1⟩
    refine ⟨_, rfl, ?_⟩
    rw [str_beq]
    have hall : v = [] ↔ (noMinus s).all isD = true := by
      rw [hv, List.all_eq_true]
      exact ⟨fun t c hc => (mem_digs c).1 (t c hc), fun t c hc => (mem_digs c).2 (t c hc)⟩
    by_cases hv0 : v = []
    · refine ifB.f (by simp [hv0]) ?_
      have ha := hall.1 hv0
      have hpos : 0 < (noMinus s).length := List.length_pos_iff.2 h
      refine strk_ok (by omega) (by omega) ?_
      rw [show (0 : Int).toNat = 0 from rfl]
      refine ifB.eq (fun h48 => ?_) (fun h48 => ?_)
      · refine ⟨?_, f1⟩
        have h48' : (noMinus s).getD 0 0 = 48 := UInt8.toNat_inj.1 (by have : (48 : UInt8).toNat = 48 := rfl
                                                                       omega)
        rw [str_beq]
        by_cases hs48 : s = [48]
        · rw [decide_eq_true hs48, decide_eq_false]
          · rfl
          · rintro (t | t | t | t)
            · exact h t
            · omega
            · rw [ha] at t; cases t
            · exact t.2 hs48
        · rw [decide_eq_false hs48, decide_eq_true (.inr (.inr (.inr ⟨h48', hs48⟩)))]; rfl
      · refine ⟨?_, f1⟩
        rw [decide_eq_false]
        rintro (t | t | t | t)
        · exact h t
        · omega
        · rw [ha] at t; cases t
        · exact h48 (by rw [t.1]; rfl)
    · refine ifB.t (by simp [hv0]) ⟨?_, f1⟩
      refine (decide_eq_true (.inr (.inr (.inl ?_)))).symm
      have := fun t => hv0 (hall.2 t)
      simpa using this
  rintro _ ⟨q, _⟩ w1 ⟨hq, f1⟩
  dsimp only at hq
  subst hq
  unfold numF
  refine ifB.dec (fun h => ?_) (fun h => ?_)
  · rw [if_pos h]; exact ⟨rfl, f1⟩
  rw [if_neg h]
  have hne : noMinus s ≠ [] := fun t => h (.inl t)
  have h13 : (noMinus s).length ≤ 13 := by
    by_cases t : 13 < (noMinus s).length
    · exact absurd (.inr (.inl t)) h
    · omega
  have hall : ∀ c ∈ noMinus s, isD c = true := by
    have : (noMinus s).all isD = true := by
      cases ha : (noMinus s).all isD with
      | true => rfl
      | false => exact absurd (.inr (.inr (.inl ha))) h
    exact List.all_eq_true.1 this
  have hsn : s = (if decide (s.take 1 = [45]) then 45 :: noMinus s else noMinus s) := by
    unfold noMinus
    by_cases t : s.take 1 = [45]
    · rw [if_pos (decide_eq_true t), if_pos t]
      conv => lhs; rw [← List.take_append_drop 1 s, t]
      rfl
    · rw [if_neg (by simpa using t), if_neg t]
  have hsl : s.length ≤ 14 := by
    rw [hsn]
    split
    · simp only [List.length_cons]; omega
    · omega
  obtain ⟨b1, b2⟩ := valL_bound (noMinus s) hall (by omega)
  by_cases hn : s.take 1 = [45]
  · rw [if_pos (decide_eq_true hn)] at hsn
    rw [if_pos hn]
    refine CallK.of (atoi_spec s (noMinus s) true hsn hne hall (by omega) w1) ?_
    rintro _ w2 ⟨rfl, f2⟩
    refine ⟨(-(valL (noMinus s)), .nilIface, ()), rfl, ?_⟩
    refine ⟨false, w2, nil_ne ⟨_, Tryz.underlying275⟩ _ w2, ifB.f rfl ?_⟩
    have f12 := f1.trans f2
    refine ifB.dec (fun h1 => ?_) (fun h1 => ?_)
    · rw [if_pos (by omega)]; exact ⟨rfl, f12⟩
    · rw [if_neg (by omega)]
      refine ifB.no (by omega) ⟨rfl, f12⟩
  · rw [if_neg (by simpa using hn)] at hsn
    rw [if_neg hn]
    refine CallK.of (atoi_spec s (noMinus s) false hsn hne hall (by omega) w1) ?_
    rintro _ w2 ⟨rfl, f2⟩
    refine ⟨(valL (noMinus s), .nilIface, ()), rfl, ?_⟩
    refine ⟨false, w2, nil_ne ⟨_, Tryz.underlying275⟩ _ w2, ifB.f rfl ?_⟩
    have f12 := f1.trans f2
    refine ifB.no (by omega) ?_
    refine ifB.dec (fun h1 => ?_) (fun h1 => ?_)
    · rw [if_pos (by omega)]; exact ⟨rfl, f12⟩
    · rw [if_neg (by omega)]; exact ⟨rfl, f12⟩

end Go.Proofs.YtlhbfdakceipkaaGreatDoor

/-! ### NumF -/
set_option linter.unusedVariables false
set_option maxRecDepth 100000
namespace Go.Proofs.YtlhbfdakceipkaaGreatDoor
open Vc

theorem ddec_lo {n : Nat} (h : n < 10) : Lib.decDigits n = [UInt8.ofNat (48 + n)] := Lib.decDigits_one h
theorem ddec_hi {n : Nat} (h : ¬ n < 10) : Lib.decDigits n = Lib.decDigits (n / 10) ++ [UInt8.ofNat (48 + n % 10)] := by rw [Lib.decDigits, dif_neg h]
theorem isD_dig {k : Nat} (h : k < 10) : isD (UInt8.ofNat (48 + k)) = true := by
  unfold isD
  rw [u8_of (by omega), decide_eq_true (by omega), decide_eq_true (by omega)]; rfl
theorem isD_rg {c : UInt8} (h : isD c = true) : 48 ≤ c.toNat ∧ c.toNat ≤ 57 := by
  unfold isD at h
  simp only [Bool.and_eq_true, decide_eq_true_eq] at h
  exact h

theorem dec_ok : ∀ n : Nat, Lib.decDigits n ≠ [] ∧ (∀ c ∈ Lib.decDigits n, isD c = true) ∧ valL (Lib.decDigits n) = n ∧ ((Lib.decDigits n).getD 0 0 = 48 → n = 0) ∧ (∀ k : Nat, 1 ≤ k → n < 10 ^ k → (Lib.decDigits n).length ≤ k) := by
  intro n
  induction n using Nat.strongRecOn with
  | _ n ih =>
    by_cases h : n < 10
    · rw [ddec_lo h]
      refine ⟨by simp, fun c hc => ?_, ?_, fun t => ?_, fun k hk _ => by simpa using hk⟩
      · simp only [List.mem_singleton] at hc; rw [hc]; exact isD_dig h
      · show (0 : Int) * 10 + (((UInt8.ofNat (48 + n)).toNat : Int) - 48) = n
        rw [u8_of (by omega)]; omega
      · have t : UInt8.ofNat (48 + n) = 48 := t
        have := congrArg UInt8.toNat t
        rw [u8_of (by omega)] at this
        have e : (48 : UInt8).toNat = 48 := rfl
        omega
    · obtain ⟨i1, i2, i3, i4, i5⟩ := ih (n / 10) (by omega)
      rw [ddec_hi h]
      refine ⟨by simp, fun c hc => ?_, ?_, fun t => ?_, fun k hk hlt => ?_⟩
      · rcases List.mem_append.1 hc with hc | hc
        · exact i2 c hc
        · simp only [List.mem_singleton] at hc; rw [hc]; exact isD_dig (by omega)
      · rw [valL_snoc, i3, u8_of (by omega)]; omega
      · have hp : 0 < (Lib.decDigits (n / 10)).length := List.length_pos_iff.2 i1
        rw [List.getD_eq_getElem?_getD, List.getElem?_append_left hp, ← List.getD_eq_getElem?_getD] at t
        have := i4 t
        omega
      · obtain ⟨k', rfl⟩ : ∃ k', k = k' + 1 := ⟨k - 1, by omega⟩
        have hk1 : 1 ≤ k' := by
          cases k' with
          | zero => simp at hlt; omega
          | succ k' => omega
        have hlt' : n / 10 < 10 ^ k' := by rw [Nat.pow_succ] at hlt; omega
        have := i5 k' hk1 hlt'
        simp only [List.length_append, List.length_singleton]
        omega
theorem dec_13 {n : Nat} (h : n ≤ 1000000000000) : (Lib.decDigits n).length ≤ 13 := (dec_ok n).2.2.2.2 13 (by omega) (by omega)

theorem nm_minus1 (s : List UInt8) : noMinus (45 :: s) = s := by unfold noMinus; rw [if_pos (by simp)]; rfl
theorem nm_digits {s : List UInt8} (h : ∀ c ∈ s, isD c = true) : noMinus s = s ∧ s.take 1 ≠ [45] := by
  have ht : s.take 1 ≠ [45] := fun t => by
    cases s with
    | nil => simp at t
    | cons c l =>
      have hc := h c (by simp)
      simp at t
      rw [t] at hc
      exact absurd hc (by decide)
  exact ⟨by unfold noMinus; rw [if_neg ht], ht⟩

theorem numF_dec {n : Nat} (h : n ≤ 1000000000000) : numF (Lib.decDigits n) = ((n : Int), true) := by
  obtain ⟨hne, hd, hv, h0, _⟩ := dec_ok n
  have h13 := dec_13 h
  obtain ⟨hnm, ht1⟩ := nm_digits hd
  unfold numF
  rw [hnm, if_neg, hv, if_neg (by omega), if_neg ht1]
  rintro (t | t | t | t)
  · exact hne t
  · omega
  · rw [List.all_eq_true.2 hd] at t; cases t
  · have := h0 t.1
    subst this
    exact t.2 (by rw [ddec_lo (by omega)]; rfl)
theorem numF_mdec {n : Nat} (h : n ≤ 1000000000000) (hn : n ≠ 0) : numF (45 :: Lib.decDigits n) = (-(n : Int), true) := by
  obtain ⟨hne, hd, hv, h0, _⟩ := dec_ok n
  have h13 := dec_13 h
  unfold numF
  rw [nm_minus1, if_neg, hv, if_neg (by omega), if_pos (by simp)]
  rintro (t | t | t | t)
  · exact hne t
  · omega
  · rw [List.all_eq_true.2 hd] at t; cases t
  · exact hn (h0 t.1)
theorem numF_itoa {n : Int} (h0 : -1000000000000 ≤ n) (h1 : n ≤ 1000000000000) : numF (Lib.itoa n) = (n, true) := by
  unfold Lib.itoa
  by_cases h : n < 0
  · rw [if_pos h, numF_mdec (by omega) (by omega)]
    congr 1; omega
  · rw [if_neg h, numF_dec (by omega)]
    congr 1; omega

theorem snoc_rec {α : Type} {Q : List α → Prop} (h0 : Q []) (h1 : ∀ l a, Q l → Q (l ++ [a])) (l : List α) : Q l := by
  have : ∀ r : List α, Q r.reverse := fun r => by
    induction r with
    | nil => exact h0
    | cons a r ih => rw [List.reverse_cons]; exact h1 _ _ ih
  have := this l.reverse
  rwa [List.reverse_reverse] at this

theorem valL_nonneg (d : List UInt8) (h : ∀ c ∈ d, isD c = true) : 0 ≤ valL d := (foldl_val d 0 (by omega) h).1
theorem dec_valL : ∀ d : List UInt8, d ≠ [] → (∀ c ∈ d, isD c = true) → (d.getD 0 0 = 48 → d = [48]) → Lib.decDigits (valL d).toNat = d ∧ (d ≠ [48] → 1 ≤ valL d) := by
  intro d
  induction d using snoc_rec with
  | h0 => intro h; exact absurd rfl h
  | h1 e c ih =>
    intro _ hd hz
    have hc := isD_rg (hd c (by simp))
    have hv := valL_snoc e c
    have hcc : UInt8.ofNat (48 + (c.toNat - 48)) = c := by rw [show 48 + (c.toNat - 48) = c.toNat by omega]; exact UInt8.ofNat_toNat
    by_cases he : e = []
    · subst he
      have hv0 : valL [] = 0 := rfl
      rw [List.nil_append] at *
      have : valL [c] = (c.toNat : Int) - 48 := by rw [hv, hv0]; omega
      rw [this]
      refine ⟨?_, fun hne => ?_⟩
      · rw [show ((c.toNat : Int) - 48).toNat = c.toNat - 48 by omega, ddec_lo (by omega), hcc]
      · have : c ≠ 48 := fun t => hne (by rw [t])
        have : c.toNat ≠ 48 := fun t => this (by rw [← UInt8.toNat_inj]; exact t)
        omega
    · have hp : 0 < e.length := List.length_pos_iff.2 he
      have hg : (e ++ [c]).getD 0 0 = e.getD 0 0 := by rw [List.getD_eq_getElem?_getD, List.getElem?_append_left hp, ← List.getD_eq_getElem?_getD]
      have hn48 : e.getD 0 0 ≠ 48 := fun t => by
        have := hz (hg.trans t)
        have := congrArg List.length this
        rw [List.length_append, List.length_singleton, List.length_singleton] at this
        omega
      obtain ⟨i1, i2⟩ := ih he (fun c hc => hd c (by simp [hc])) (fun t => absurd t hn48)
      have hv1 := i2 (fun t => hn48 (by rw [t]; rfl))
      rw [hv]
      refine ⟨?_, fun _ => by omega⟩
      rw [ddec_hi (n := (valL e * 10 + ((c.toNat : Int) - 48)).toNat) (by omega), show (valL e * 10 + ((c.toNat : Int) - 48)).toNat / 10 = (valL e).toNat by omega, i1, show (valL e * 10 + ((c.toNat : Int) - 48)).toNat % 10 = c.toNat - 48 by omega, hcc]

/-- What is read as a number is its digits. -/
theorem numF_inv {s : List UInt8} (h : (numF s).2 = true) : s = Lib.itoa (numF s).1 ∧ -1000000000000 ≤ (numF s).1 ∧ (numF s).1 ≤ 1000000000000 := by
  unfold numF at h ⊢
  split at h
  · cases h
  rename_i hc
  split at h
  · cases h
  rename_i hb
  rw [if_neg hc, if_neg hb]
  simp only [not_or] at hc
  obtain ⟨h1, h2, h3, h4⟩ := hc
  have hd : ∀ c ∈ noMinus s, isD c = true := by
    have : (noMinus s).all isD = true := by cases h : (noMinus s).all isD; exact absurd h h3; rfl
    exact List.all_eq_true.1 this
  have hn := valL_nonneg _ hd
  by_cases hm : s.take 1 = [45]
  · have hs : s = 45 :: noMinus s := by
      unfold noMinus
      rw [if_pos hm]
      cases s with
      | nil => simp at hm
      | cons c l => simp at hm; subst hm; rfl
    have hz : (noMinus s).getD 0 0 ≠ 48 := fun t => h4 ⟨t, fun e => by rw [e] at hm; simp at hm⟩
    obtain ⟨i1, i2⟩ := dec_valL _ h1 hd (fun t => absurd t hz)
    have := i2 (fun t => hz (by rw [t]; rfl))
    rw [if_pos hm]
    refine ⟨?_, by dsimp only; omega, by dsimp only; omega⟩
    dsimp only
    unfold Lib.itoa
    rw [if_pos (by omega), show (-valL (noMinus s)).natAbs = (valL (noMinus s)).toNat by omega, i1]
    exact hs
  · have hs : noMinus s = s := by unfold noMinus; rw [if_neg hm]
    rw [if_neg hm]
    rw [hs] at h1 h2 h3 h4 hb hn hd ⊢
    obtain ⟨i1, i2⟩ := dec_valL s h1 hd (fun t => by
      by_cases e : s = [48]
      · exact e
      · exact absurd ⟨t, e⟩ h4)
    refine ⟨?_, by dsimp only; omega, by dsimp only; omega⟩
    dsimp only
    unfold Lib.itoa
    rw [if_neg (by omega), i1]

end Go.Proofs.YtlhbfdakceipkaaGreatDoor

/-! ### ReadF -/
set_option linter.unusedVariables false
set_option maxRecDepth 100000
namespace Go.Proofs.YtlhbfdakceipkaaGreatDoor
open Vc

/-! ### The reader: the signs left, the error's place, the error -/
structure RS where
  l : List SignV
  at_ : Int
  e : Int

def placeF (fin : Int) (s : RS) : Int := match s.l with | x :: _ => x.2 | [] => fin
def failF (fin c : Int) (s : RS) : RS := if s.e = 0 then ⟨s.l, placeF fin s, c⟩ else s
def takeF (fin : Int) (right : List UInt8 → Bool) (s : RS) : List UInt8 × RS :=
  if s.e = 0 then match s.l with
    | [] => ([], ⟨[], fin, 2⟩)
    | x :: l => if right x.1 = true then (x.1, ⟨l, s.at_, 0⟩) else ([], ⟨x :: l, x.2, 2⟩)
  else ([], s)
def mustF (fin : Int) (x : List UInt8) (s : RS) : RS := (takeF fin (fun y => decide (y = x)) s).2
def wordF' (x : List UInt8) : Bool := (numF x).2 || (x == [102, 105, 120] || (x == [97, 100, 100] || (x == [110, 101, 103] || (x == [109, 117, 108] || x == [109, 97, 120]))))
def beginsF (x : List UInt8) : Bool := x == [122, 101, 114, 111] || (x == [111, 110, 101] || (x == [103, 105, 118, 101] || (x == [97, 110, 100] || (x == [111, 114] || (x == [115, 99, 97, 108, 101] || (x == [119, 104, 101, 110] || x == [105, 102]))))))
def dayF (x : List UInt8) : Bool := (numF x).2 && (decide (0 ≤ (numF x).1) && decide ((numF x).1 ≤ 10000))

def pairF (fin : Int) (rec : RS → Ob × RS) (s : RS) : Ob × Ob × RS :=
  ((rec (mustF fin [40] s)).1, (rec (mustF fin [44] (rec (mustF fin [40] s)).2)).1, mustF fin [41] (rec (mustF fin [44] (rec (mustF fin [40] s)).2)).2)
def numK (fin : Int) (rec : RS → Ob × RS) (x : List UInt8) (s : RS) : Ob × RS :=
  if x = [102, 105, 120] then (.fix (takeF fin nameL (mustF fin [40] s)).1, mustF fin [41] (takeF fin nameL (mustF fin [40] s)).2)
  else if x = [110, 101, 103] then (.neg (rec (mustF fin [40] s)).1, mustF fin [41] (rec (mustF fin [40] s)).2)
  else if x = [97, 100, 100] then (.add (pairF fin rec s).1 (pairF fin rec s).2.1, (pairF fin rec s).2.2)
  else if x = [109, 117, 108] then (.mul (pairF fin rec s).1 (pairF fin rec s).2.1, (pairF fin rec s).2.2)
  else if x = [109, 97, 120] then (.max (pairF fin rec s).1 (pairF fin rec s).2.1, (pairF fin rec s).2.2)
  else (.const (numF x).1, s)
def numR (fin : Int) : Nat → RS → Ob × RS
  | 0, s => (.none, failF fin 5 s)
  | n + 1, s => if s.e ≠ 0 then (.none, s) else if (takeF fin wordF' s).1 = [] then (.none, (takeF fin wordF' s).2) else numK fin (numR fin n) (takeF fin wordF' s).1 (takeF fin wordF' s).2

def oneF (fin : Int) (rec : RS → Tm × RS) (s : RS) : Tm × RS := ((rec s).1, mustF fin [41] (rec s).2)
def bothF (fin : Int) (rec : RS → Tm × RS) (s : RS) : Tm × Tm × RS := ((rec s).1, (rec (mustF fin [44] (rec s).2)).1, mustF fin [41] (rec (mustF fin [44] (rec s).2)).2)
/-- Behind a contract's word and its bracket. -/
def conK (fin : Int) (num : RS → Ob × RS) (rec : RS → Tm × RS) (x : List UInt8) (s : RS) : Tm × RS :=
  if x = [111, 110, 101] then (.one (takeF fin nameL s).1, mustF fin [41] (takeF fin nameL s).2)
  else if x = [103, 105, 118, 101] then (.give (oneF fin rec s).1, (oneF fin rec s).2)
  else if x = [97, 110, 100] then (.and (bothF fin rec s).1 (bothF fin rec s).2.1, (bothF fin rec s).2.2)
  else if x = [111, 114] then
    (.or (takeF fin nameL s).1 (bothF fin rec (mustF fin [44] (takeF fin nameL s).2)).1 (bothF fin rec (mustF fin [44] (takeF fin nameL s).2)).2.1, (bothF fin rec (mustF fin [44] (takeF fin nameL s).2)).2.2)
  else if x = [115, 99, 97, 108, 101] then (.scale (num s).1 (oneF fin rec (mustF fin [44] (num s).2)).1, (oneF fin rec (mustF fin [44] (num s).2)).2)
  else if x = [119, 104, 101, 110] then
    (.when (numF (takeF fin dayF s).1).1 (oneF fin rec (mustF fin [44] (takeF fin dayF s).2)).1, (oneF fin rec (mustF fin [44] (takeF fin dayF s).2)).2)
  else (.cond (num s).1 (bothF fin rec (mustF fin [44] (num s).2)).1 (bothF fin rec (mustF fin [44] (num s).2)).2.1, (bothF fin rec (mustF fin [44] (num s).2)).2.2)
def conR (fin : Int) : Nat → RS → Tm × RS
  | 0, s => (.none, failF fin 5 s)
  | n + 1, s => if s.e ≠ 0 then (.none, s) else if (takeF fin beginsF s).1 = [] then (.zero, (takeF fin beginsF s).2) else if (takeF fin beginsF s).1 = [122, 101, 114, 111] then (.zero, (takeF fin beginsF s).2)
      else conK fin (numR fin n) (conR fin n) (takeF fin beginsF s).1 (mustF fin [40] (takeF fin beginsF s).2)

def doneF (fin : Int) (s : RS) : RS := match s.l with | [] => s | _ :: _ => failF fin 2 s
/-- A reader of a text. -/
def endF (bs : List UInt8) : Int := ((runesL bs).length : Int) + 1
def beginF (bs : List UInt8) : RS := if 1000 < bs.length then ⟨[], 0, 5⟩ else if 0 < (sgF [] 0 false (runesL bs)).2 then ⟨(sgF [] 0 false (runesL bs)).1, (sgF [] 0 false (runesL bs)).2, 2⟩ else ⟨(sgF [] 0 false (runesL bs)).1, 0, 0⟩
def conS (bs : List UInt8) : RS := doneF (endF bs) (conR (endF bs) 12 (beginF bs)).2
def numS (bs : List UInt8) : RS := doneF (endF bs) (numR (endF bs) 12 (beginF bs)).2
def readT (bs : List UInt8) : Tm × Int × Int :=
  if (conS bs).e ≠ 0 then (.none, (conS bs).at_, (conS bs).e) else if checkT (conR (endF bs) 12 (beginF bs)).1 ≠ 0 then (.none, (conS bs).at_, checkT (conR (endF bs) 12 (beginF bs)).1) else ((conR (endF bs) 12 (beginF bs)).1, 0, 0)
def readO (bs : List UInt8) : Ob × Int × Int :=
  if (numS bs).e ≠ 0 then (.none, (numS bs).at_, (numS bs).e) else if checkO (numR (endF bs) 12 (beginF bs)).1 ≠ 0 then (.none, (numS bs).at_, checkO (numR (endF bs) 12 (beginF bs)).1) else ((numR (endF bs) 12 (beginF bs)).1, 0, 0)

/-! ### A step -/
theorem takeF_hit {fin : Int} {right : List UInt8 → Bool} {x : SignV} {l : List SignV} {a : Int} (h : right x.1 = true) : takeF fin right ⟨x :: l, a, 0⟩ = (x.1, ⟨l, a, 0⟩) := by
  unfold takeF; simp [h]
theorem takeF_miss {fin : Int} {right : List UInt8 → Bool} {x : SignV} {l : List SignV} {a : Int} (h : ¬ right x.1 = true) : takeF fin right ⟨x :: l, a, 0⟩ = ([], ⟨x :: l, x.2, 2⟩) := by
  unfold takeF; simp [h]
theorem takeF_nil {fin : Int} {right : List UInt8 → Bool} {a : Int} : takeF fin right ⟨[], a, 0⟩ = ([], ⟨[], fin, 2⟩) := by
  unfold takeF; simp
theorem takeF_err {fin : Int} {right : List UInt8 → Bool} {s : RS} (h : s.e ≠ 0) : takeF fin right s = ([], s) := by
  unfold takeF; rw [if_neg h]
theorem mustF_err {fin : Int} {x : List UInt8} {s : RS} (h : s.e ≠ 0) : mustF fin x s = s := by unfold mustF; rw [takeF_err h]
theorem failF_err {fin c : Int} {s : RS} (h : s.e ≠ 0) : failF fin c s = s := by unfold failF; rw [if_neg h]

/-- From s to s' these signs are taken. -/
structure Ate (s : RS) (ts : List (List UInt8)) (s' : RS) : Prop where
  e : s.e = 0
  e' : s'.e = 0
  at_ : s'.at_ = s.at_
  eat : ∃ xs : List SignV, s.l = xs ++ s'.l ∧ xs.map Prod.fst = ts

theorem Ate.trans {s s1 s2 : RS} {a b : List (List UInt8)} (h : Ate s a s1) (k : Ate s1 b s2) : Ate s (a ++ b) s2 := by
  obtain ⟨xs, hx, hxs⟩ := h.eat
  obtain ⟨ys, hy, hys⟩ := k.eat
  exact ⟨h.e, k.e', k.at_.trans h.at_, xs ++ ys, by rw [hx, hy, List.append_assoc], by rw [List.map_append, hxs, hys]⟩
theorem Ate.nil {s s' : RS} (h : Ate s [] s') : s = s' := by
  obtain ⟨xs, hx, hxs⟩ := h.eat
  have : xs = [] := by simpa using hxs
  subst this
  rcases s with ⟨l, a, e⟩
  rcases s' with ⟨l', a', e'⟩
  have h1 := h.e; have h2 := h.e'; have h3 := h.at_
  dsimp only at h1 h2 h3 hx
  subst h1 h2 h3
  rw [List.nil_append] at hx
  rw [hx]
theorem Ate.split {s s' : RS} {a b : List (List UInt8)} (h : Ate s (a ++ b) s') : ∃ s1, Ate s a s1 ∧ Ate s1 b s' := by
  obtain ⟨xs, hx, hxs⟩ := h.eat
  obtain ⟨ys, zs, rfl, hy, hz⟩ := List.map_eq_append_iff.1 hxs
  exact ⟨⟨zs ++ s'.l, s.at_, 0⟩, ⟨h.e, rfl, rfl, ys, by rw [hx, List.append_assoc], hy⟩, ⟨rfl, h.e', h.at_, zs, rfl, hz⟩⟩
theorem Ate.head {s s' : RS} {t : List UInt8} {ts : List (List UInt8)} (h : Ate s (t :: ts) s') : ∃ (x : SignV) (l : List SignV), s = ⟨x :: l, s.at_, 0⟩ ∧ x.1 = t ∧ Ate ⟨l, s.at_, 0⟩ ts s' := by
  obtain ⟨xs, hx, hxs⟩ := h.eat
  cases xs with
  | nil => simp at hxs
  | cons x xs =>
    simp only [List.map_cons, List.cons.injEq] at hxs
    refine ⟨x, xs ++ s'.l, ?_, hxs.1, rfl, h.e', h.at_, xs, rfl, hxs.2⟩
    rcases s with ⟨l, a, e⟩
    have h1 := h.e
    dsimp only at h1 hx ⊢
    rw [h1, hx]; rfl

theorem take_inv {fin : Int} {right : List UInt8 → Bool} {s : RS} (h : (takeF fin right s).2.e = 0) : Ate s [(takeF fin right s).1] (takeF fin right s).2 ∧ right (takeF fin right s).1 = true := by
  rcases s with ⟨l, a, e⟩
  by_cases he : e = 0
  · subst he
    cases l with
    | nil => rw [takeF_nil] at h; exact absurd (show (2 : Int) = 0 from h) (by decide)
    | cons x l =>
      by_cases hr : right x.1 = true
      · rw [takeF_hit hr]; exact ⟨⟨rfl, rfl, rfl, [x], rfl, rfl⟩, hr⟩
      · rw [takeF_miss hr] at h; exact absurd (show (2 : Int) = 0 from h) (by decide)
  · rw [takeF_err he] at h; exact absurd h he
theorem must_inv {fin : Int} {x : List UInt8} {s : RS} (h : (mustF fin x s).e = 0) : Ate s [x] (mustF fin x s) := by
  obtain ⟨h1, h2⟩ := take_inv (fin := fin) (right := fun y => decide (y = x)) h
  have h2 := of_decide_eq_true h2
  rw [h2] at h1
  exact h1
theorem take_of {fin : Int} {right : List UInt8 → Bool} {s s' : RS} {t : List UInt8} {ts : List (List UInt8)} (hr : right t = true) (h : Ate s (t :: ts) s') : ∃ s1, takeF fin right s = (t, s1) ∧ Ate s1 ts s' := by
  obtain ⟨x, l, hs, hx, ha⟩ := h.head
  refine ⟨_, ?_, ha⟩
  rw [hs, takeF_hit (by rw [hx]; exact hr), hx]
theorem must_of {fin : Int} {s s' : RS} {t : List UInt8} {ts : List (List UInt8)} (h : Ate s (t :: ts) s') : ∃ s1, mustF fin t s = s1 ∧ Ate s1 ts s' := by
  obtain ⟨s1, h1, h2⟩ := take_of (fin := fin) (right := fun y => decide (y = t)) (by simp) h
  exact ⟨s1, by unfold mustF; rw [h1], h2⟩

/-- The signs left are a proper beginning of these. -/
structure Cut (s : RS) (ts : List (List UInt8)) : Prop where
  e : s.e = 0
  cut : ∃ u : List (List UInt8), u ≠ [] ∧ s.l.map Prod.fst ++ u = ts
def deadR (fin : Int) : RS := ⟨[], fin, 2⟩
theorem dead_e (fin : Int) : (deadR fin).e ≠ 0 := by show (2 : Int) ≠ 0; decide
theorem Cut.nil {s : RS} (h : Cut s []) : False := by
  obtain ⟨u, hu, he⟩ := h.cut
  have := List.append_eq_nil_iff.1 he
  exact hu this.2
theorem Cut.head {s : RS} {t : List UInt8} {ts : List (List UInt8)} (h : Cut s (t :: ts)) : s = ⟨[], s.at_, 0⟩ ∨ ∃ (x : SignV) (l : List SignV), s = ⟨x :: l, s.at_, 0⟩ ∧ x.1 = t ∧ Cut ⟨l, s.at_, 0⟩ ts := by
  obtain ⟨u, hu, he⟩ := h.cut
  rcases s with ⟨l, a, e⟩
  have h1 := h.e
  dsimp only at h1 he ⊢
  subst h1
  cases l with
  | nil => exact .inl rfl
  | cons x l =>
    simp only [List.map_cons, List.cons_append, List.cons.injEq] at he
    exact .inr ⟨x, l, rfl, he.1, rfl, u, hu, he.2⟩
theorem Cut.split {s : RS} {a b : List (List UInt8)} (h : Cut s (a ++ b)) : Cut s a ∨ ∃ s1, Ate s a s1 ∧ Cut s1 b := by
  obtain ⟨u, hu, he⟩ := h.cut
  rcases List.append_eq_append_iff.1 he with ⟨c, hc1, hc2⟩ | ⟨c, hc1, hc2⟩
  · by_cases hc : c = []
    · subst hc
      rw [List.append_nil] at hc1
      rw [List.nil_append] at hc2
      refine .inr ⟨⟨[], s.at_, 0⟩, ⟨h.e, rfl, rfl, s.l, by simp, hc1.symm⟩, rfl, b, ?_, by simp⟩
      rw [← hc2]; exact hu
    · exact .inl ⟨h.e, c, hc, hc1.symm⟩
  · obtain ⟨ys, zs, hl, hy, hz⟩ := List.map_eq_append_iff.1 hc1
    exact .inr ⟨⟨zs, s.at_, 0⟩, ⟨h.e, rfl, rfl, ys, hl, hy⟩, rfl, u, hu, by rw [hz]; exact hc2.symm⟩
theorem take_cut {fin : Int} {right : List UInt8 → Bool} {s : RS} {t : List UInt8} {ts : List (List UInt8)} (hr : right t = true) (h : Cut s (t :: ts)) : takeF fin right s = ([], deadR fin) ∨ ∃ s1, takeF fin right s = (t, s1) ∧ Cut s1 ts := by
  rcases h.head with hs | ⟨x, l, hs, hx, hc⟩
  · left; rw [hs, takeF_nil]; rfl
  · right; exact ⟨_, by rw [hs, takeF_hit (by rw [hx]; exact hr), hx], hc⟩
theorem must_cut {fin : Int} {s : RS} {t : List UInt8} {ts : List (List UInt8)} (h : Cut s (t :: ts)) : mustF fin t s = deadR fin ∨ ∃ s1, mustF fin t s = s1 ∧ Cut s1 ts := by
  unfold mustF
  rcases take_cut (fin := fin) (right := fun y => decide (y = t)) (by simp) h with h1 | ⟨s1, h1, h2⟩
  · left; rw [h1]
  · right; rw [h1]; exact ⟨_, rfl, h2⟩
theorem must_dead (fin : Int) (x : List UInt8) : mustF fin x (deadR fin) = deadR fin := mustF_err (dead_e fin)
theorem take_dead (fin : Int) (right : List UInt8 → Bool) : takeF fin right (deadR fin) = ([], deadR fin) := takeF_err (dead_e fin)

/-! ### Behind an error nothing is read -/
theorem pair_err {fin : Int} {rec : RS → Ob × RS} (hr : ∀ s, s.e ≠ 0 → (rec s).2 = s) {s : RS} (h : s.e ≠ 0) : (pairF fin rec s).2.2 = s := by
  unfold pairF
  dsimp only
  rw [mustF_err h, hr s h, mustF_err h, hr s h, mustF_err h]
theorem numR_err (fin : Int) : ∀ (n : Nat) (s : RS), s.e ≠ 0 → (numR fin n s).2 = s
  | 0, s, h => failF_err h
  | n + 1, s, h => by unfold numR; rw [if_pos h]
theorem conR_err (fin : Int) : ∀ (n : Nat) (s : RS), s.e ≠ 0 → (conR fin n s).2 = s
  | 0, s, h => failF_err h
  | n + 1, s, h => by unfold conR; rw [if_pos h]

/-! ### The signs of a number, of a contract -/
def toksO : Ob → List (List UInt8)
  | .none => []
  | .const n => [Lib.itoa n]
  | .fix s => [102, 105, 120] :: [40] :: s :: [[41]]
  | .neg o => [110, 101, 103] :: [40] :: (toksO o ++ [[41]])
  | .add l r => [97, 100, 100] :: [40] :: (toksO l ++ ([44] :: (toksO r ++ [[41]])))
  | .mul l r => [109, 117, 108] :: [40] :: (toksO l ++ ([44] :: (toksO r ++ [[41]])))
  | .max l r => [109, 97, 120] :: [40] :: (toksO l ++ ([44] :: (toksO r ++ [[41]])))
def toksT : Tm → List (List UInt8)
  | .none => []
  | .zero => [[122, 101, 114, 111]]
  | .one s => [111, 110, 101] :: [40] :: s :: [[41]]
  | .give t => [103, 105, 118, 101] :: [40] :: (toksT t ++ [[41]])
  | .and l r => [97, 110, 100] :: [40] :: (toksT l ++ ([44] :: (toksT r ++ [[41]])))
  | .or s l r => [111, 114] :: [40] :: s :: [44] :: (toksT l ++ ([44] :: (toksT r ++ [[41]])))
  | .scale o t => [115, 99, 97, 108, 101] :: [40] :: (toksO o ++ ([44] :: (toksT t ++ [[41]])))
  | .when d t => [119, 104, 101, 110] :: [40] :: Lib.itoa d :: [44] :: (toksT t ++ [[41]])
  | .cond o l r => [105, 102] :: [40] :: (toksO o ++ ([44] :: (toksT l ++ ([44] :: (toksT r ++ [[41]])))))

/-- No word of a number is one of digits. -/
theorem word_cases {x : List UInt8} (h : wordF' x = true) : x = [102, 105, 120] ∨ x = [97, 100, 100] ∨ x = [110, 101, 103] ∨ x = [109, 117, 108] ∨ x = [109, 97, 120] ∨ (numF x).2 = true := by
  unfold wordF' at h
  simp only [Bool.or_eq_true, beq_iff_eq] at h
  rcases h with h | h | h | h | h | h <;> simp [h]
theorem word_num {x : List UInt8} (h : (numF x).2 = true) : x ≠ [] ∧ x ≠ [102, 105, 120] ∧ x ≠ [110, 101, 103] ∧ x ≠ [97, 100, 100] ∧ x ≠ [109, 117, 108] ∧ x ≠ [109, 97, 120] := by
  refine ⟨?_, ?_, ?_, ?_, ?_, ?_⟩ <;> (rintro rfl; exact absurd h (by decide +kernel))
theorem begins_cases {x : List UInt8} (h : beginsF x = true) : x = [122, 101, 114, 111] ∨ x = [111, 110, 101] ∨ x = [103, 105, 118, 101] ∨ x = [97, 110, 100] ∨ x = [111, 114] ∨ x = [115, 99, 97, 108, 101] ∨ x = [119, 104, 101, 110] ∨ x = [105, 102] := by
  unfold beginsF at h
  simpa only [Bool.or_eq_true, beq_iff_eq] using h

theorem day_cases {x : List UInt8} (h : dayF x = true) : (numF x).2 = true ∧ 0 ≤ (numF x).1 ∧ (numF x).1 ≤ 10000 := by
  unfold dayF at h
  simpa only [Bool.and_eq_true, decide_eq_true_eq] using h

/-! ### What was read is what stood there -/
def GoodO (n : Nat) (rec : RS → Ob × RS) : Prop := ∀ s, (rec s).2.e = 0 → Ate s (toksO (rec s).1) (rec s).2 ∧ formO (rec s).1 = true ∧ depthO (rec s).1 ≤ n
def GoodT (n : Nat) (rec : RS → Tm × RS) : Prop := ∀ s, (rec s).2.e = 0 → Ate s (toksT (rec s).1) (rec s).2 ∧ formT (rec s).1 = true ∧ depthT (rec s).1 ≤ n

theorem pair_inv {fin : Int} {n : Nat} {rec : RS → Ob × RS} (hr : GoodO n rec) {s : RS} (h : (pairF fin rec s).2.2.e = 0) :
    Ate s ([40] :: (toksO (pairF fin rec s).1 ++ ([44] :: (toksO (pairF fin rec s).2.1 ++ [[41]])))) (pairF fin rec s).2.2 ∧ (formO (pairF fin rec s).1 = true ∧ depthO (pairF fin rec s).1 ≤ n) ∧ formO (pairF fin rec s).2.1 = true ∧ depthO (pairF fin rec s).2.1 ≤ n := by
  unfold pairF at h ⊢
  dsimp only at h ⊢
  have h5 := must_inv h
  have h4 := hr _ h5.e
  have h3 := must_inv h4.1.e
  have h2 := hr _ h3.e
  have h1 := must_inv h2.1.e
  have := h1.trans (h2.1.trans (h3.trans (h4.1.trans h5)))
  exact ⟨by simpa using this, h2.2, h4.2⟩

theorem numR_inv (fin : Int) : ∀ n, GoodO n (numR fin n)
  | 0, s, h => by
    exfalso
    by_cases he : s.e = 0
    · have : (numR fin 0 s).2.e = 5 := by show (failF fin 5 s).e = 5; unfold failF; rw [if_pos he]
      rw [this] at h; exact absurd h (by decide)
    · rw [numR_err fin 0 s he] at h; exact he h
  | n + 1, s, h => by
    have ih := numR_inv fin n
    have he : s.e = 0 := by
      refine Classical.byContradiction fun he => ?_
      rw [numR_err fin (n + 1) s he] at h; exact he h
    unfold numR at h ⊢
    rw [if_neg (by simpa using he)] at h ⊢
    by_cases hnil : (takeF fin wordF' s).1 = []
    · rw [if_pos hnil] at h
      have := (take_inv h).2
      rw [hnil] at this
      exact absurd this (by decide +kernel)
    rw [if_neg hnil] at h ⊢
    have step : ∀ {o : Ob} {u : List (List UInt8)} {s' : RS}, Ate (takeF fin wordF' s).2 u s' → Ate s ((takeF fin wordF' s).1 :: u) s' ∧ wordF' (takeF fin wordF' s).1 = true := fun ha => by
      have t := take_inv (fin := fin) (right := wordF') (s := s) ha.e
      exact ⟨t.1.trans ha, t.2⟩
    generalize hx : (takeF fin wordF' s).1 = x at h hnil step ⊢
    generalize hs1 : (takeF fin wordF' s).2 = s1 at h step ⊢
    unfold numK at h ⊢
    by_cases c1 : x = [102, 105, 120]
    · rw [if_pos c1] at h ⊢
      dsimp only at h ⊢
      have h3 := must_inv h
      have h2 := take_inv h3.e
      have h1 := must_inv h2.1.e
      have := h1.trans (h2.1.trans h3)
      refine ⟨by have := (step (o := .none) this).1; rw [c1] at this; simpa [toksO] using this, h2.2, by unfold depthO; omega⟩
    rw [if_neg c1] at h ⊢
    by_cases c2 : x = [110, 101, 103]
    · rw [if_pos c2] at h ⊢
      dsimp only at h ⊢
      have h3 := must_inv h
      have h2 := ih _ h3.e
      have h1 := must_inv h2.1.e
      have := h1.trans (h2.1.trans h3)
      refine ⟨by have := (step (o := .none) this).1; rw [c2] at this; simpa [toksO] using this, h2.2.1, by unfold depthO; have := h2.2.2; omega⟩
    rw [if_neg c2] at h ⊢
    by_cases c3 : x = [97, 100, 100]
    · rw [if_pos c3] at h ⊢
      dsimp only at h ⊢
      have hp := pair_inv ih h
      refine ⟨by have := (step (o := .none) hp.1).1; rw [c3] at this; exact this, by unfold formO; rw [hp.2.1.1, hp.2.2.1]; rfl, by unfold depthO; have := hp.2.1.2; have := hp.2.2.2; omega⟩
    rw [if_neg c3] at h ⊢
    by_cases c4 : x = [109, 117, 108]
    · rw [if_pos c4] at h ⊢
      dsimp only at h ⊢
      have hp := pair_inv ih h
      refine ⟨by have := (step (o := .none) hp.1).1; rw [c4] at this; exact this, by unfold formO; rw [hp.2.1.1, hp.2.2.1]; rfl, by unfold depthO; have := hp.2.1.2; have := hp.2.2.2; omega⟩
    rw [if_neg c4] at h ⊢
    by_cases c5 : x = [109, 97, 120]
    · rw [if_pos c5] at h ⊢
      dsimp only at h ⊢
      have hp := pair_inv ih h
      refine ⟨by have := (step (o := .none) hp.1).1; rw [c5] at this; exact this, by unfold formO; rw [hp.2.1.1, hp.2.2.1]; rfl, by unfold depthO; have := hp.2.1.2; have := hp.2.2.2; omega⟩
    rw [if_neg c5] at h ⊢
    dsimp only at h ⊢
    have h1 := step (o := .none) (u := []) (s' := s1) ⟨h, h, rfl, [], rfl, rfl⟩
    rcases word_cases h1.2 with t | t | t | t | t | t
    · exact absurd t c1
    · exact absurd t c3
    · exact absurd t c2
    · exact absurd t c4
    · exact absurd t c5
    · have hi := numF_inv t
      refine ⟨?_, ?_, by unfold depthO; omega⟩
      · unfold toksO
        rw [← hi.1]; exact h1.1
      · unfold formO validF
        rw [decide_eq_true hi.2.1, decide_eq_true hi.2.2]; rfl

theorem one_inv {fin : Int} {n : Nat} {rec : RS → Tm × RS} (hr : GoodT n rec) {s : RS} (h : (oneF fin rec s).2.e = 0) :
    Ate s (toksT (oneF fin rec s).1 ++ [[41]]) (oneF fin rec s).2 ∧ formT (oneF fin rec s).1 = true ∧ depthT (oneF fin rec s).1 ≤ n := by
  unfold oneF at h ⊢
  dsimp only at h ⊢
  have h5 := must_inv h
  have h4 := hr _ h5.e
  exact ⟨h4.1.trans h5, h4.2⟩
theorem both_inv {fin : Int} {n : Nat} {rec : RS → Tm × RS} (hr : GoodT n rec) {s : RS} (h : (bothF fin rec s).2.2.e = 0) :
    Ate s (toksT (bothF fin rec s).1 ++ ([44] :: (toksT (bothF fin rec s).2.1 ++ [[41]]))) (bothF fin rec s).2.2 ∧ (formT (bothF fin rec s).1 = true ∧ depthT (bothF fin rec s).1 ≤ n) ∧ formT (bothF fin rec s).2.1 = true ∧ depthT (bothF fin rec s).2.1 ≤ n := by
  unfold bothF at h ⊢
  dsimp only at h ⊢
  have h5 := must_inv h
  have h4 := hr _ h5.e
  have h3 := must_inv h4.1.e
  have h2 := hr _ h3.e
  have := h2.1.trans (h3.trans (h4.1.trans h5))
  exact ⟨by simpa using this, h2.2, h4.2⟩

theorem conR_inv (fin : Int) : ∀ n, GoodT n (conR fin n)
  | 0, s, h => by
    exfalso
    by_cases he : s.e = 0
    · have : (conR fin 0 s).2.e = 5 := by show (failF fin 5 s).e = 5; unfold failF; rw [if_pos he]
      rw [this] at h; exact absurd h (by decide)
    · rw [conR_err fin 0 s he] at h; exact he h
  | n + 1, s, h => by
    have ih := conR_inv fin n
    have ihO := numR_inv fin n
    have he : s.e = 0 := by
      refine Classical.byContradiction fun he => ?_
      rw [conR_err fin (n + 1) s he] at h; exact he h
    unfold conR at h ⊢
    rw [if_neg (by simpa using he)] at h ⊢
    by_cases hnil : (takeF fin beginsF s).1 = []
    · rw [if_pos hnil] at h
      have := (take_inv h).2
      rw [hnil] at this
      exact absurd this (by decide +kernel)
    rw [if_neg hnil] at h ⊢
    have step : ∀ {u : List (List UInt8)} {s' : RS}, Ate (takeF fin beginsF s).2 u s' → Ate s ((takeF fin beginsF s).1 :: u) s' ∧ beginsF (takeF fin beginsF s).1 = true := fun ha => by
      have t := take_inv (fin := fin) (right := beginsF) (s := s) ha.e
      exact ⟨t.1.trans ha, t.2⟩
    generalize hx : (takeF fin beginsF s).1 = x at h hnil step ⊢
    generalize hs1 : (takeF fin beginsF s).2 = s1 at h step ⊢
    by_cases c0 : x = [122, 101, 114, 111]
    · rw [if_pos c0] at h ⊢
      dsimp only at h ⊢
      refine ⟨by have := (step (u := []) (s' := s1) ⟨h, h, rfl, [], rfl, rfl⟩).1; rw [c0] at this; exact this, rfl, by unfold depthT; omega⟩
    rw [if_neg c0] at h ⊢
    have step2 : ∀ {u : List (List UInt8)} {s' : RS}, Ate (mustF fin [40] s1) u s' → Ate s (x :: [40] :: u) s' ∧ beginsF x = true := fun ha => step ((must_inv ha.e).trans ha)
    generalize hs2 : mustF fin [40] s1 = s2 at h step2 ⊢
    unfold conK at h ⊢
    by_cases c1 : x = [111, 110, 101]
    · rw [if_pos c1] at h ⊢
      dsimp only at h ⊢
      have h3 := must_inv h
      have h2 := take_inv h3.e
      refine ⟨by have := (step2 (h2.1.trans h3)).1; rw [c1] at this; simpa [toksT] using this, h2.2, by unfold depthT; omega⟩
    rw [if_neg c1] at h ⊢
    by_cases c2 : x = [103, 105, 118, 101]
    · rw [if_pos c2] at h ⊢
      dsimp only at h ⊢
      have hp := one_inv ih h
      refine ⟨by have := (step2 hp.1).1; rw [c2] at this; exact this, hp.2.1, by unfold depthT; have := hp.2.2; omega⟩
    rw [if_neg c2] at h ⊢
    by_cases c3 : x = [97, 110, 100]
    · rw [if_pos c3] at h ⊢
      dsimp only at h ⊢
      have hp := both_inv ih h
      refine ⟨by have := (step2 hp.1).1; rw [c3] at this; exact this, by unfold formT; rw [hp.2.1.1, hp.2.2.1]; rfl, by unfold depthT; have := hp.2.1.2; have := hp.2.2.2; omega⟩
    rw [if_neg c3] at h ⊢
    by_cases c4 : x = [111, 114]
    · rw [if_pos c4] at h ⊢
      dsimp only at h ⊢
      have hp := both_inv ih h
      have h2 := must_inv hp.1.e
      have h1 := take_inv h2.e
      refine ⟨by have := (step2 (h1.1.trans (h2.trans hp.1))).1; rw [c4] at this; simpa [toksT] using this, by unfold formT; rw [hp.2.1.1, hp.2.2.1, h1.2]; rfl, by unfold depthT; have := hp.2.1.2; have := hp.2.2.2; omega⟩
    rw [if_neg c4] at h ⊢
    by_cases c5 : x = [115, 99, 97, 108, 101]
    · rw [if_pos c5] at h ⊢
      dsimp only at h ⊢
      have hp := one_inv ih h
      have h2 := must_inv hp.1.e
      have h1 := ihO _ h2.e
      refine ⟨by have := (step2 (h1.1.trans (h2.trans hp.1))).1; rw [c5] at this; simpa [toksT] using this, by unfold formT; rw [hp.2.1, h1.2.1]; rfl, by unfold depthT; have := hp.2.2; have := h1.2.2; omega⟩
    rw [if_neg c5] at h ⊢
    by_cases c6 : x = [119, 104, 101, 110]
    · rw [if_pos c6] at h ⊢
      dsimp only at h ⊢
      have hp := one_inv ih h
      have h2 := must_inv hp.1.e
      have h1 := take_inv h2.e
      have hd := day_cases h1.2
      have hi := numF_inv hd.1
      refine ⟨?_, by unfold formT; rw [hp.2.1, decide_eq_true hd.2.1, decide_eq_true hd.2.2]; rfl, by unfold depthT; have := hp.2.2; omega⟩
      have := (step2 (h1.1.trans (h2.trans hp.1))).1
      rw [c6] at this
      unfold toksT
      rw [← hi.1]
      simpa using this
    rw [if_neg c6] at h ⊢
    dsimp only at h ⊢
    have hp := both_inv ih h
    have h2 := must_inv hp.1.e
    have h1 := ihO _ h2.e
    have h0 := step2 (h1.1.trans (h2.trans hp.1))
    have c7 : x = [105, 102] := by
      rcases begins_cases h0.2 with t | t | t | t | t | t | t | t
      · exact absurd t c0
      · exact absurd t c1
      · exact absurd t c2
      · exact absurd t c3
      · exact absurd t c4
      · exact absurd t c5
      · exact absurd t c6
      · exact t
    refine ⟨by have := h0.1; rw [c7] at this; simpa [toksT] using this, by unfold formT; rw [hp.2.1.1, hp.2.2.1, h1.2.1]; rfl, by unfold depthT; have := hp.2.1.2; have := hp.2.2.2; have := h1.2.2; omega⟩

/-! ### What stands there is read -/
theorem numR_of (fin : Int) : ∀ (n : Nat) (o : Ob), formO o = true → depthO o ≤ n → ∀ {s s' : RS}, Ate s (toksO o) s' → numR fin n s = (o, s')
  | 0, o, hf, hd, s, s', h => by cases o <;> simp [formO, depthO] at hf hd
  | n + 1, o, hf, hd, s, s', h => by
    have ih := numR_of fin n
    have he := h.e
    unfold numR
    rw [if_neg (by simpa using he)]
    cases o with
    | none => cases hf
    | const k =>
      have hv := validF_iff hf
      have hn := numF_itoa hv.1 hv.2
      have hw : wordF' (Lib.itoa k) = true := by unfold wordF'; rw [hn]; rfl
      obtain ⟨s1, e1, h⟩ := take_of (fin := fin) hw h
      have := h.nil; subst this
      have hne := word_num (x := Lib.itoa k) (by rw [hn])
      rw [e1]
      dsimp only
      rw [if_neg hne.1]
      unfold numK
      rw [if_neg hne.2.1, if_neg hne.2.2.1, if_neg hne.2.2.2.1, if_neg hne.2.2.2.2.1, if_neg hne.2.2.2.2.2, hn]
    | fix x =>
      obtain ⟨s1, e1, h⟩ := take_of (fin := fin) (right := wordF') (by decide +kernel) h
      obtain ⟨s2, e2, h⟩ := must_of (fin := fin) h
      obtain ⟨s3, e3, h⟩ := take_of (fin := fin) (right := nameL) hf h
      obtain ⟨s4, e4, h⟩ := must_of (fin := fin) h
      have := h.nil; subst this
      rw [e1]
      dsimp only
      rw [if_neg (by decide)]
      unfold numK
      rw [if_pos rfl, e2, e3]
      dsimp only
      rw [e4]
    | neg x =>
      have hd' : depthO x ≤ n := by unfold depthO at hd; omega
      obtain ⟨s1, e1, h⟩ := take_of (fin := fin) (right := wordF') (by decide +kernel) h
      obtain ⟨s2, e2, h⟩ := must_of (fin := fin) h
      obtain ⟨s3, ha, h⟩ := h.split
      obtain ⟨s4, e4, h⟩ := must_of (fin := fin) h
      have := h.nil; subst this
      rw [e1]
      dsimp only
      rw [if_neg (by decide)]
      unfold numK
      rw [if_neg (by decide), if_pos rfl, e2, ih x hf hd' ha]
      dsimp only
      rw [e4]
    | add l r =>
      simp only [formO, Bool.and_eq_true] at hf
      have hl : depthO l ≤ n := by unfold depthO at hd; omega
      have hr : depthO r ≤ n := by unfold depthO at hd; omega
      obtain ⟨s1, e1, h⟩ := take_of (fin := fin) (right := wordF') (by decide +kernel) h
      obtain ⟨s2, e2, h⟩ := must_of (fin := fin) h
      obtain ⟨s3, ha, h⟩ := h.split
      obtain ⟨s4, e4, h⟩ := must_of (fin := fin) h
      obtain ⟨s5, hb, h⟩ := h.split
      obtain ⟨s6, e6, h⟩ := must_of (fin := fin) h
      have := h.nil; subst this
      rw [e1]
      dsimp only
      rw [if_neg (by decide)]
      unfold numK
      rw [if_neg (by decide), if_neg (by decide), if_pos rfl]
      unfold pairF
      rw [e2, ih l hf.1 hl ha]
      dsimp only
      rw [e4, ih r hf.2 hr hb]
      dsimp only
      rw [e6]
    | mul l r =>
      simp only [formO, Bool.and_eq_true] at hf
      have hl : depthO l ≤ n := by unfold depthO at hd; omega
      have hr : depthO r ≤ n := by unfold depthO at hd; omega
      obtain ⟨s1, e1, h⟩ := take_of (fin := fin) (right := wordF') (by decide +kernel) h
      obtain ⟨s2, e2, h⟩ := must_of (fin := fin) h
      obtain ⟨s3, ha, h⟩ := h.split
      obtain ⟨s4, e4, h⟩ := must_of (fin := fin) h
      obtain ⟨s5, hb, h⟩ := h.split
      obtain ⟨s6, e6, h⟩ := must_of (fin := fin) h
      have := h.nil; subst this
      rw [e1]
      dsimp only
      rw [if_neg (by decide)]
      unfold numK
      rw [if_neg (by decide), if_neg (by decide), if_neg (by decide), if_pos rfl]
      unfold pairF
      rw [e2, ih l hf.1 hl ha]
      dsimp only
      rw [e4, ih r hf.2 hr hb]
      dsimp only
      rw [e6]
    | max l r =>
      simp only [formO, Bool.and_eq_true] at hf
      have hl : depthO l ≤ n := by unfold depthO at hd; omega
      have hr : depthO r ≤ n := by unfold depthO at hd; omega
      obtain ⟨s1, e1, h⟩ := take_of (fin := fin) (right := wordF') (by decide +kernel) h
      obtain ⟨s2, e2, h⟩ := must_of (fin := fin) h
      obtain ⟨s3, ha, h⟩ := h.split
      obtain ⟨s4, e4, h⟩ := must_of (fin := fin) h
      obtain ⟨s5, hb, h⟩ := h.split
      obtain ⟨s6, e6, h⟩ := must_of (fin := fin) h
      have := h.nil; subst this
      rw [e1]
      dsimp only
      rw [if_neg (by decide)]
      unfold numK
      rw [if_neg (by decide), if_neg (by decide), if_neg (by decide), if_neg (by decide), if_pos rfl]
      unfold pairF
      rw [e2, ih l hf.1 hl ha]
      dsimp only
      rw [e4, ih r hf.2 hr hb]
      dsimp only
      rw [e6]

theorem oneF_of {fin : Int} {rec : RS → Tm × RS} {t : Tm} {s s1 s2 : RS} (h : rec s = (t, s1)) (e : mustF fin [41] s1 = s2) : oneF fin rec s = (t, s2) := by
  unfold oneF; rw [h]; dsimp only; rw [e]
theorem bothF_of {fin : Int} {rec : RS → Tm × RS} {l r : Tm} {s s1 s2 s3 s4 : RS} (h : rec s = (l, s1)) (e : mustF fin [44] s1 = s2) (h2 : rec s2 = (r, s3)) (e2 : mustF fin [41] s3 = s4) : bothF fin rec s = (l, r, s4) := by
  unfold bothF; rw [h]; dsimp only; rw [e, h2]; dsimp only; rw [e2]

theorem conR_of (fin : Int) : ∀ (n : Nat) (t : Tm), formT t = true → depthT t ≤ n → ∀ {s s' : RS}, Ate s (toksT t) s' → conR fin n s = (t, s')
  | 0, t, hf, hd, s, s', h => by cases t <;> simp [formT, depthT] at hf hd
  | n + 1, t, hf, hd, s, s', h => by
    have ih := conR_of fin n
    have ihO := numR_of fin n
    have he := h.e
    unfold conR
    rw [if_neg (by simpa using he)]
    cases t with
    | none => cases hf
    | zero =>
      obtain ⟨s1, e1, h⟩ := take_of (fin := fin) (right := beginsF) (by decide) h
      have := h.nil; subst this
      rw [e1]
      dsimp only
      rw [if_neg (by decide), if_pos rfl]
    | one x =>
      obtain ⟨s1, e1, h⟩ := take_of (fin := fin) (right := beginsF) (by decide) h
      obtain ⟨s2, e2, h⟩ := must_of (fin := fin) h
      obtain ⟨s3, e3, h⟩ := take_of (fin := fin) (right := nameL) hf h
      obtain ⟨s4, e4, h⟩ := must_of (fin := fin) h
      have := h.nil; subst this
      rw [e1]
      dsimp only
      rw [if_neg (by decide), if_neg (by decide), e2]
      unfold conK
      rw [if_pos rfl, e3]
      dsimp only
      rw [e4]
    | give x =>
      have hd' : depthT x ≤ n := by unfold depthT at hd; omega
      obtain ⟨s1, e1, h⟩ := take_of (fin := fin) (right := beginsF) (by decide) h
      obtain ⟨s2, e2, h⟩ := must_of (fin := fin) h
      obtain ⟨s3, ha, h⟩ := h.split
      obtain ⟨s4, e4, h⟩ := must_of (fin := fin) h
      have := h.nil; subst this
      rw [e1]
      dsimp only
      rw [if_neg (by decide), if_neg (by decide), e2]
      unfold conK
      rw [if_neg (by decide), if_pos rfl, oneF_of (ih x hf hd' ha) e4]
    | and l r =>
      simp only [formT, Bool.and_eq_true] at hf
      have hl : depthT l ≤ n := by unfold depthT at hd; omega
      have hr : depthT r ≤ n := by unfold depthT at hd; omega
      obtain ⟨s1, e1, h⟩ := take_of (fin := fin) (right := beginsF) (by decide) h
      obtain ⟨s2, e2, h⟩ := must_of (fin := fin) h
      obtain ⟨s3, ha, h⟩ := h.split
      obtain ⟨s4, e4, h⟩ := must_of (fin := fin) h
      obtain ⟨s5, hb, h⟩ := h.split
      obtain ⟨s6, e6, h⟩ := must_of (fin := fin) h
      have := h.nil; subst this
      rw [e1]
      dsimp only
      rw [if_neg (by decide), if_neg (by decide), e2]
      unfold conK
      rw [if_neg (by decide), if_neg (by decide), if_pos rfl, bothF_of (ih l hf.1 hl ha) e4 (ih r hf.2 hr hb) e6]
    | or x l r =>
      simp only [formT, Bool.and_eq_true] at hf
      have hl : depthT l ≤ n := by unfold depthT at hd; omega
      have hr : depthT r ≤ n := by unfold depthT at hd; omega
      obtain ⟨s1, e1, h⟩ := take_of (fin := fin) (right := beginsF) (by decide) h
      obtain ⟨s2, e2, h⟩ := must_of (fin := fin) h
      obtain ⟨s7, e7, h⟩ := take_of (fin := fin) (right := nameL) hf.1 h
      obtain ⟨s8, e8, h⟩ := must_of (fin := fin) h
      obtain ⟨s3, ha, h⟩ := h.split
      obtain ⟨s4, e4, h⟩ := must_of (fin := fin) h
      obtain ⟨s5, hb, h⟩ := h.split
      obtain ⟨s6, e6, h⟩ := must_of (fin := fin) h
      have := h.nil; subst this
      rw [e1]
      dsimp only
      rw [if_neg (by decide), if_neg (by decide), e2]
      unfold conK
      rw [if_neg (by decide), if_neg (by decide), if_neg (by decide), if_pos rfl, e7]
      dsimp only
      rw [e8, bothF_of (ih l hf.2.1 hl ha) e4 (ih r hf.2.2 hr hb) e6]
    | scale o x =>
      simp only [formT, Bool.and_eq_true] at hf
      have hl : depthO o ≤ n := by unfold depthT at hd; omega
      have hr : depthT x ≤ n := by unfold depthT at hd; omega
      obtain ⟨s1, e1, h⟩ := take_of (fin := fin) (right := beginsF) (by decide) h
      obtain ⟨s2, e2, h⟩ := must_of (fin := fin) h
      obtain ⟨s3, ha, h⟩ := h.split
      obtain ⟨s4, e4, h⟩ := must_of (fin := fin) h
      obtain ⟨s5, hb, h⟩ := h.split
      obtain ⟨s6, e6, h⟩ := must_of (fin := fin) h
      have := h.nil; subst this
      rw [e1]
      dsimp only
      rw [if_neg (by decide), if_neg (by decide), e2]
      unfold conK
      rw [if_neg (by decide), if_neg (by decide), if_neg (by decide), if_neg (by decide), if_pos rfl, ihO o hf.1 hl ha]
      dsimp only
      rw [e4, oneF_of (ih x hf.2 hr hb) e6]
    | when d x =>
      simp only [formT, Bool.and_eq_true, decide_eq_true_eq] at hf
      have hr : depthT x ≤ n := by unfold depthT at hd; omega
      have hn := numF_itoa (n := d) (by omega) (by omega)
      have hday : dayF (Lib.itoa d) = true := by unfold dayF; rw [hn]; simp [hf.1.1, hf.1.2]
      obtain ⟨s1, e1, h⟩ := take_of (fin := fin) (right := beginsF) (by decide) h
      obtain ⟨s2, e2, h⟩ := must_of (fin := fin) h
      obtain ⟨s3, e3, h⟩ := take_of (fin := fin) (right := dayF) hday h
      obtain ⟨s4, e4, h⟩ := must_of (fin := fin) h
      obtain ⟨s5, hb, h⟩ := h.split
      obtain ⟨s6, e6, h⟩ := must_of (fin := fin) h
      have := h.nil; subst this
      rw [e1]
      dsimp only
      rw [if_neg (by decide), if_neg (by decide), e2]
      unfold conK
      rw [if_neg (by decide), if_neg (by decide), if_neg (by decide), if_neg (by decide), if_neg (by decide), if_pos rfl, e3]
      dsimp only
      rw [e4, oneF_of (ih x hf.2 hr hb) e6, hn]
    | cond o l r =>
      simp only [formT, Bool.and_eq_true] at hf
      have ho : depthO o ≤ n := by unfold depthT at hd; omega
      have hl : depthT l ≤ n := by unfold depthT at hd; omega
      have hr : depthT r ≤ n := by unfold depthT at hd; omega
      obtain ⟨s1, e1, h⟩ := take_of (fin := fin) (right := beginsF) (by decide) h
      obtain ⟨s2, e2, h⟩ := must_of (fin := fin) h
      obtain ⟨s7, hc, h⟩ := h.split
      obtain ⟨s8, e8, h⟩ := must_of (fin := fin) h
      obtain ⟨s3, ha, h⟩ := h.split
      obtain ⟨s4, e4, h⟩ := must_of (fin := fin) h
      obtain ⟨s5, hb, h⟩ := h.split
      obtain ⟨s6, e6, h⟩ := must_of (fin := fin) h
      have := h.nil; subst this
      rw [e1]
      dsimp only
      rw [if_neg (by decide), if_neg (by decide), e2]
      unfold conK
      rw [if_neg (by decide), if_neg (by decide), if_neg (by decide), if_neg (by decide), if_neg (by decide), if_neg (by decide), ihO o hf.1 ho hc]
      dsimp only
      rw [e8, bothF_of (ih l hf.2.1 hl ha) e4 (ih r hf.2.2 hr hb) e6]

end Go.Proofs.YtlhbfdakceipkaaGreatDoor

/-! ### LexF -/
set_option linter.unusedVariables false
set_option maxRecDepth 100000
namespace Go.Proofs.YtlhbfdakceipkaaGreatDoor
open Vc

/-! ### Bytes and runes -/
theorem u8_self (b : UInt8) : UInt8.ofNat b.toNat = b := UInt8.ofNat_toNat
theorem dec_take (l : List UInt8) (hne : l ≠ []) (h : (decL l).1 ≠ 65533) : enc ((decL l).1 : Int) = l.take (decL l).2 := by
  have hok := okR_dec l
  rw [enc_eq _ hok]
  cases l with
  | nil => exact absurd rfl hne
  | cons b0 t =>
    have hb0 := b0.toNat_lt
    simp only [decL, Utf8.decode, get_list, str_list, str_size, Nat.zero_add, List.getD_cons_zero, List.length_cons] at h hok ⊢
    by_cases c1 : b0.toNat < 128
    · simp only [if_pos c1] at h hok ⊢
      rw [u8_self]; rfl
    simp only [if_neg c1] at h hok ⊢
    cases t with
    | nil => simp [Utf8.runeError] at h
    | cons b1 t =>
      have hb1 := b1.toNat_lt
      simp only [List.getD_cons_succ, List.getD_cons_zero, List.length_cons] at h hok ⊢
      by_cases c2 : (b0.toNat / 32 == 6 && (decide (1 < t.length + 1 + 1) && b1.toNat / 64 == 2)) = true
      · simp only [if_pos c2] at h hok ⊢
        simp only [Bool.and_eq_true, beq_iff_eq, decide_eq_true_eq] at c2
        by_cases c3 : b0.toNat % 32 * 64 + b1.toNat % 64 ≥ 128
        · simp only [if_pos c3] at h hok ⊢
          rw [if_neg (by omega), if_pos (by omega)]
          rw [show 192 + (b0.toNat % 32 * 64 + b1.toNat % 64) / 64 = b0.toNat by omega, show 128 + (b0.toNat % 32 * 64 + b1.toNat % 64) % 64 = b1.toNat by omega, u8_self, u8_self]; rfl
        · simp only [if_neg c3] at h; exact absurd rfl h
      simp only [if_neg c2] at h hok ⊢
      cases t with
      | nil => simp [Utf8.runeError] at h
      | cons b2 t =>
        have hb2 := b2.toNat_lt
        simp only [List.getD_cons_succ, List.getD_cons_zero, List.length_cons] at h hok ⊢
        by_cases c4 : (b0.toNat / 16 == 14 && (decide (1 < t.length + 1 + 1 + 1) && b1.toNat / 64 == 2) && (decide (2 < t.length + 1 + 1 + 1) && b2.toNat / 64 == 2)) = true
        · simp only [if_pos c4] at h hok ⊢
          simp only [Bool.and_eq_true, beq_iff_eq, decide_eq_true_eq] at c4
          by_cases c5 : (decide (b0.toNat % 16 * 4096 + b1.toNat % 64 * 64 + b2.toNat % 64 ≥ 2048) && Utf8.valid ((b0.toNat % 16 * 4096 + b1.toNat % 64 * 64 + b2.toNat % 64 : Nat) : Int)) = true
          · simp only [if_pos c5] at h hok ⊢
            simp only [Bool.and_eq_true, decide_eq_true_eq] at c5
            rw [if_neg (by omega), if_neg (by omega), if_pos (by omega)]
            rw [show 224 + (b0.toNat % 16 * 4096 + b1.toNat % 64 * 64 + b2.toNat % 64) / 4096 = b0.toNat by omega, show 128 + (b0.toNat % 16 * 4096 + b1.toNat % 64 * 64 + b2.toNat % 64) / 64 % 64 = b1.toNat by omega,
              show 128 + (b0.toNat % 16 * 4096 + b1.toNat % 64 * 64 + b2.toNat % 64) % 64 = b2.toNat by omega, u8_self, u8_self, u8_self]; rfl
          · simp only [if_neg c5] at h; exact absurd rfl h
        simp only [if_neg c4] at h hok ⊢
        cases t with
        | nil => simp [Utf8.runeError] at h
        | cons b3 t =>
          have hb3 := b3.toNat_lt
          simp only [List.getD_cons_zero, List.length_cons] at h hok ⊢
          by_cases c6 : (b0.toNat / 8 == 30 && (decide (1 < t.length + 1 + 1 + 1 + 1) && b1.toNat / 64 == 2) && (decide (2 < t.length + 1 + 1 + 1 + 1) && b2.toNat / 64 == 2) && (decide (3 < t.length + 1 + 1 + 1 + 1) && b3.toNat / 64 == 2)) = true
          · simp only [if_pos c6] at h hok ⊢
            simp only [Bool.and_eq_true, beq_iff_eq, decide_eq_true_eq] at c6
            by_cases c7 : (decide (b0.toNat % 8 * 262144 + b1.toNat % 64 * 4096 + b2.toNat % 64 * 64 + b3.toNat % 64 ≥ 65536) && Utf8.valid ((b0.toNat % 8 * 262144 + b1.toNat % 64 * 4096 + b2.toNat % 64 * 64 + b3.toNat % 64 : Nat) : Int)) = true
            · simp only [if_pos c7] at h hok ⊢
              simp only [Bool.and_eq_true, decide_eq_true_eq] at c7
              rw [if_neg (by omega), if_neg (by omega), if_neg (by omega)]
              rw [show 240 + (b0.toNat % 8 * 262144 + b1.toNat % 64 * 4096 + b2.toNat % 64 * 64 + b3.toNat % 64) / 262144 = b0.toNat by omega, show 128 + (b0.toNat % 8 * 262144 + b1.toNat % 64 * 4096 + b2.toNat % 64 * 64 + b3.toNat % 64) / 4096 % 64 = b1.toNat by omega,
                show 128 + (b0.toNat % 8 * 262144 + b1.toNat % 64 * 4096 + b2.toNat % 64 * 64 + b3.toNat % 64) / 64 % 64 = b2.toNat by omega, show 128 + (b0.toNat % 8 * 262144 + b1.toNat % 64 * 4096 + b2.toNat % 64 * 64 + b3.toNat % 64) % 64 = b3.toNat by omega, u8_self, u8_self, u8_self, u8_self]; rfl
            · simp only [if_neg c7] at h; exact absurd rfl h
          · simp only [if_neg c6] at h; exact absurd rfl h

theorem txt_runes : ∀ (n : Nat) (l : List UInt8), l.length ≤ n → (∀ r ∈ runesL l, r ≠ 65533) → txt (runesL l) = l
  | 0, l, h, _ => by
    have : l = [] := List.eq_nil_of_length_eq_zero (by omega)
    subst this; rfl
  | n + 1, l, h, hr => by
    by_cases hl : l = []
    · subst hl; rfl
    · rw [runesL_step l hl] at hr ⊢
      have h1 := decL_width l
      have hd : (l.drop (decL l).2).length = l.length - (decL l).2 := List.length_drop
      rw [txt_cons, dec_take l hl (fun t => hr _ (List.mem_cons_self ..) (by omega)), txt_runes n _ (by omega) (fun r hm => hr r (List.mem_cons_of_mem _ hm)), List.take_append_drop]
theorem txt_runesL (l : List UInt8) (h : ∀ r ∈ runesL l, r ≠ 65533) : txt (runesL l) = l := txt_runes l.length l (Nat.le_refl _) h

theorem isLet_kd {r : Int} (h : isLet r = true) : kd r = 97 := by unfold kd; rw [if_pos h]
theorem isLet_no {r : Int} (h : isLet r = true) : r ≠ 65533 ∧ r ≠ 32 := by
  refine ⟨?_, ?_⟩ <;> (rintro rfl; exact absurd h (by decide))
theorem kd_no {r : Int} (h : kd r ≠ 0) : r ≠ 65533 := by rintro rfl; exact h (by decide)

theorem enc_ascii {b : UInt8} (h : b.toNat < 128) : enc (b.toNat : Int) = [b] := by
  rw [enc_eq _ (by unfold okR; omega), if_pos h, u8_self]
theorem txt_ascii : ∀ (l : List UInt8), (∀ b ∈ l, b.toNat < 128) → txt (l.map fun b => (b.toNat : Int)) = l
  | [], _ => rfl
  | b :: l, h => by rw [List.map_cons, txt_cons, enc_ascii (h b (by simp)), txt_ascii l (fun c hc => h c (by simp [hc]))]; rfl
theorem enc_32 {r : Int} (h : okR r) (h32 : r ≠ 32) : (32 : UInt8) ∉ enc r := by
  obtain ⟨n, rfl⟩ : ∃ n : Nat, r = n := ⟨r.toNat, by unfold okR at h; omega⟩
  rw [enc_eq n h]
  have big : ∀ m : Nat, 128 ≤ m → m < 256 → (32 : UInt8) ≠ UInt8.ofNat m := fun m h1 h2 t => by
    have := congrArg UInt8.toNat t
    rw [u8_of h2] at this
    have e : (32 : UInt8).toNat = 32 := rfl
    omega
  unfold okR at h
  split
  · intro t
    have t := List.mem_singleton.1 t
    have := congrArg UInt8.toNat t
    rw [u8_of (by omega)] at this
    have e : (32 : UInt8).toNat = 32 := rfl
    omega
  split
  · simp only [List.mem_cons, List.not_mem_nil, or_false, not_or]
    exact ⟨big _ (by omega) (by omega), big _ (by omega) (by omega)⟩
  split
  · simp only [List.mem_cons, List.not_mem_nil, or_false, not_or]
    exact ⟨big _ (by omega) (by omega), big _ (by omega) (by omega), big _ (by omega) (by omega)⟩
  · simp only [List.mem_cons, List.not_mem_nil, or_false, not_or]
    exact ⟨big _ (by omega) (by omega), big _ (by omega) (by omega), big _ (by omega) (by omega), big _ (by omega) (by omega)⟩

/-! ### Words and signs, one behind the other -/
theorem lx_more (W : List SignV) (a : Int) (X : List Int) : ∀ (ls : List Int) (t : List UInt8) (at_ : Int), (∀ r ∈ ls, kd r = 97) → sgF (W ++ [(t, a)]) at_ true (ls ++ X) = sgF (W ++ [(t ++ txt ls, a)]) (at_ + ls.length) true X
  | [], t, at_, _ => by simp [txt_nil]
  | r :: ls, t, at_, h => by
    have h1 := h r (by simp)
    rw [List.cons_append]
    conv => lhs; unfold sgF
    rw [h1, if_neg (by decide), if_pos ⟨rfl, rfl⟩, addLast_of, lx_more W a X ls _ _ (fun x hx => h x (by simp [hx])), txt_cons, List.append_assoc]
    congr 1
    simp only [List.length_cons]; omega
theorem lx_word (W : List SignV) (X : List Int) (wd : List Int) (at_ : Int) (hne : wd ≠ []) (h : ∀ r ∈ wd, kd r = 97) : sgF W at_ false (wd ++ X) = sgF (W ++ [(txt wd, at_ + 1)]) (at_ + wd.length) true X := by
  cases wd with
  | nil => exact absurd rfl hne
  | cons r ls =>
    have h1 := h r (by simp)
    rw [List.cons_append]
    conv => lhs; unfold sgF
    rw [h1, if_neg (by decide), if_neg (by simp), if_pos (by decide), show ((97 : Int) == 97) = true from rfl, lx_more W _ X ls _ _ (fun x hx => h x (by simp [hx])), txt_cons]
    congr 1
    simp only [List.length_cons]; omega
theorem lx_sign (W : List SignV) (X : List Int) (c : Int) (at_ : Int) (run : Bool) (h : kd c = 40) : sgF W at_ run (c :: X) = sgF (W ++ [(enc c, at_ + 1)]) (at_ + 1) false X := by
  conv => lhs; unfold sgF
  rw [h, if_neg (by decide), if_neg (by simp), if_pos (by decide)]
  rfl
theorem lx_blank (W : List SignV) (X : List Int) (at_ : Int) (run : Bool) : sgF W at_ run (32 :: X) = sgF W (at_ + 1) false X := by
  conv => lhs; unfold sgF
  have e : kd 32 = 32 := rfl
  rw [e, if_neg (by decide), if_neg (by simp), if_neg (by decide)]

/-- Bytes whose signs are these; the last one is a bracket, a comma. -/
def LxB (b : Bool) (bs : List UInt8) (ts : List (List UInt8)) : Prop :=
  ∃ R : List Int, (∀ r ∈ R, okR r ∧ r ≠ 32) ∧ txt R = bs ∧ ∀ (W : List SignV) (at_ : Int), ∃ (ys : List SignV) (run : Bool), ys.map Prod.fst = ts ∧ (b = true → run = false) ∧ ∀ X, sgF W at_ false (R ++ X) = sgF (W ++ ys) (at_ + R.length) run X

theorem LxB.app {b : Bool} {x y : List UInt8} {s t : List (List UInt8)} (h : LxB true x s) (k : LxB b y t) : LxB b (x ++ y) (s ++ t) := by
  obtain ⟨R, h1, h2, h3⟩ := h
  obtain ⟨Q, k1, k2, k3⟩ := k
  refine ⟨R ++ Q, fun r hr => (List.mem_append.1 hr).elim (h1 r) (k1 r), by rw [txt_append, h2, k2], fun W at_ => ?_⟩
  obtain ⟨ys, run, a1, a2, a3⟩ := h3 W at_
  obtain ⟨zs, run2, b1, b2, b3⟩ := k3 (W ++ ys) (at_ + R.length)
  have := a2 rfl
  subst this
  refine ⟨ys ++ zs, run2, by rw [List.map_append, a1, b1], b2, fun X => ?_⟩
  rw [List.append_assoc, a3, b3, List.append_assoc, List.length_append]
  congr 1
  omega
theorem LxB.sign {b : Bool} {x : List UInt8} {s : List (List UInt8)} (h : LxB b x s) {c : UInt8} (hc : c = 40 ∨ c = 41 ∨ c = 44) : LxB true (x ++ [c]) (s ++ [[c]]) := by
  have hk : c.toNat < 128 ∧ kd (c.toNat : Int) = 40 ∧ c.toNat ≠ 32 := by rcases hc with rfl | rfl | rfl <;> decide
  obtain ⟨R, h1, h2, h3⟩ := h
  refine ⟨R ++ [(c.toNat : Int)], fun r hr => ?_, by rw [txt_append, h2, txt_one, enc_ascii hk.1], fun W at_ => ?_⟩
  · rcases List.mem_append.1 hr with hr | hr
    · exact h1 r hr
    · have := List.mem_singleton.1 hr
      subst this
      exact ⟨by unfold okR; omega, by omega⟩
  · obtain ⟨ys, run, a1, a2, a3⟩ := h3 W at_
    refine ⟨ys ++ [([c], at_ + R.length + 1)], false, by rw [List.map_append, a1]; rfl, fun _ => rfl, fun X => ?_⟩
    rw [List.append_assoc, a3, List.singleton_append, lx_sign _ _ _ _ _ hk.2.1, enc_ascii hk.1, List.append_assoc, List.length_append]
    congr 1
    simp only [List.length_singleton]; omega
theorem lxb_runes (wd : List Int) (hne : wd ≠ []) (h : ∀ r ∈ wd, kd r = 97 ∧ okR r) : LxB false (txt wd) [txt wd] :=
  ⟨wd, fun r hr => ⟨(h r hr).2, by rintro rfl; exact absurd (h 32 hr).1 (by decide)⟩, rfl, fun W at_ => ⟨[(txt wd, at_ + 1)], true, rfl, (fun t => nomatch t), fun X => lx_word W X wd at_ hne fun r hr => (h r hr).1⟩⟩
theorem lxb_ascii (wd : List UInt8) (hne : wd ≠ []) (h : ∀ b ∈ wd, b.toNat < 128 ∧ kd (b.toNat : Int) = 97) : LxB false wd [wd] := by
  have := lxb_runes (wd.map fun b => (b.toNat : Int)) (by simp [hne]) fun r hr => by
    obtain ⟨b, hb, rfl⟩ := List.mem_map.1 hr
    exact ⟨(h b hb).2, by unfold okR; have := (h b hb).1; omega⟩
  rwa [txt_ascii wd fun b hb => (h b hb).1] at this
theorem nameF_let : ∀ (rs : List Int) (n : Nat), nameF n rs = true → ∀ r ∈ rs, isLet r = true
  | [], _, _, r, hr => by cases hr
  | a :: rs, n, h, r, hr => by
    unfold nameF at h
    split at h
    · cases h
    rename_i ha
    split at h
    · cases h
    split at h
    · cases h
    rcases List.mem_cons.1 hr with rfl | hr
    · simpa using ha
    · exact nameF_let rs (n + 1) h r hr
theorem lxb_name {s : List UInt8} (h : nameL s = true) : LxB false s [s] := by
  have hl := nameF_let _ _ h
  have hne : runesL s ≠ [] := fun t => by
    have : nameF 0 (runesL s) = true := h
    rw [t] at this; exact absurd this (by decide)
  have := lxb_runes (runesL s) hne fun r hr => ⟨isLet_kd (hl r hr), okR_runes s r hr⟩
  rwa [txt_runesL s fun r hr => (isLet_no (hl r hr)).1] at this
theorem isD_kd {c : UInt8} (h : isD c = true) : c.toNat < 128 ∧ kd (c.toNat : Int) = 97 := by
  have := isD_rg h
  refine ⟨by omega, isLet_kd ?_⟩
  unfold isLet isDig
  rw [decide_eq_true (show (48 : Int) ≤ (c.toNat : Int) by omega), decide_eq_true (show (c.toNat : Int) ≤ 57 by omega)]
  simp
theorem lxb_num (n : Int) : LxB false (Lib.itoa n) [Lib.itoa n] := by
  refine lxb_ascii _ ?_ ?_
  · unfold Lib.itoa
    split
    · simp
    · exact (dec_ok _).1
  · unfold Lib.itoa
    split
    · intro b hb
      rcases List.mem_cons.1 hb with rfl | hb
      · decide
      · exact isD_kd ((dec_ok _).2.1 b hb)
    · exact fun b hb => isD_kd ((dec_ok _).2.1 b hb)

theorem lx_call1 {b : Bool} {wd x : List UInt8} {s : List (List UInt8)} (hw : LxB false wd [wd]) (h : LxB b x s) : LxB true (callL wd [x]) (wd :: [40] :: (s ++ [[41]])) := by
  have := ((hw.sign (c := 40) (.inl rfl)).app h).sign (c := 41) (.inr (.inl rfl))
  unfold callL
  rw [join1]
  simpa using this
theorem lx_call2 {b d : Bool} {wd x y : List UInt8} {s t : List (List UInt8)} (hw : LxB false wd [wd]) (h : LxB b x s) (k : LxB d y t) : LxB true (callL wd [x, y]) (wd :: [40] :: (s ++ ([44] :: (t ++ [[41]])))) := by
  have := ((((hw.sign (c := 40) (.inl rfl)).app h).sign (c := 44) (.inr (.inr rfl))).app k).sign (c := 41) (.inr (.inl rfl))
  unfold callL
  rw [join2]
  simpa using this
theorem lx_call3 {b d f : Bool} {wd x y z : List UInt8} {s t u : List (List UInt8)} (hw : LxB false wd [wd]) (h : LxB b x s) (k : LxB d y t) (m : LxB f z u) :
    LxB true (callL wd [x, y, z]) (wd :: [40] :: (s ++ ([44] :: (t ++ ([44] :: (u ++ [[41]])))))) := by
  have := ((((((hw.sign (c := 40) (.inl rfl)).app h).sign (c := 44) (.inr (.inr rfl))).app k).sign (c := 44) (.inr (.inr rfl))).app m).sign (c := 41) (.inr (.inl rfl))
  unfold callL
  rw [join3]
  simpa using this

theorem lx_num : ∀ o : Ob, formO o = true → ∃ b, LxB b (numO o) (toksO o)
  | .none, h => by cases h
  | .const n, _ => ⟨_, lxb_num n⟩
  | .fix s, h => ⟨_, lx_call1 (lxb_ascii _ (by decide) (by decide)) (lxb_name h)⟩
  | .neg o, h => by
    obtain ⟨b, hb⟩ := lx_num o h
    exact ⟨_, lx_call1 (lxb_ascii _ (by decide) (by decide)) hb⟩
  | .add l r, h => by
    simp only [formO, Bool.and_eq_true] at h
    obtain ⟨b, hb⟩ := lx_num l h.1
    obtain ⟨c, hc⟩ := lx_num r h.2
    exact ⟨_, lx_call2 (lxb_ascii _ (by decide) (by decide)) hb hc⟩
  | .mul l r, h => by
    simp only [formO, Bool.and_eq_true] at h
    obtain ⟨b, hb⟩ := lx_num l h.1
    obtain ⟨c, hc⟩ := lx_num r h.2
    exact ⟨_, lx_call2 (lxb_ascii _ (by decide) (by decide)) hb hc⟩
  | .max l r, h => by
    simp only [formO, Bool.and_eq_true] at h
    obtain ⟨b, hb⟩ := lx_num l h.1
    obtain ⟨c, hc⟩ := lx_num r h.2
    exact ⟨_, lx_call2 (lxb_ascii _ (by decide) (by decide)) hb hc⟩
/-- A contract's text; but for 'zero' its last sign is a bracket. -/
theorem lx_con : ∀ t : Tm, formT t = true → ∃ b, LxB b (conT t) (toksT t) ∧ (t ≠ .zero → b = true)
  | .none, h => by cases h
  | .zero, _ => ⟨_, lxb_ascii _ (by decide) (by decide), fun t => absurd rfl t⟩
  | .one s, h => ⟨_, lx_call1 (lxb_ascii _ (by decide) (by decide)) (lxb_name h), fun _ => rfl⟩
  | .give t, h => by
    obtain ⟨b, hb, _⟩ := lx_con t h
    exact ⟨_, lx_call1 (lxb_ascii _ (by decide) (by decide)) hb, fun _ => rfl⟩
  | .and l r, h => by
    simp only [formT, Bool.and_eq_true] at h
    obtain ⟨b, hb, _⟩ := lx_con l h.1
    obtain ⟨c, hc, _⟩ := lx_con r h.2
    exact ⟨_, lx_call2 (lxb_ascii _ (by decide) (by decide)) hb hc, fun _ => rfl⟩
  | .or s l r, h => by
    simp only [formT, Bool.and_eq_true] at h
    obtain ⟨b, hb, _⟩ := lx_con l h.2.1
    obtain ⟨c, hc, _⟩ := lx_con r h.2.2
    exact ⟨_, lx_call3 (lxb_ascii _ (by decide) (by decide)) (lxb_name h.1) hb hc, fun _ => rfl⟩
  | .scale o t, h => by
    simp only [formT, Bool.and_eq_true] at h
    obtain ⟨b, hb⟩ := lx_num o h.1
    obtain ⟨c, hc, _⟩ := lx_con t h.2
    exact ⟨_, lx_call2 (lxb_ascii _ (by decide) (by decide)) hb hc, fun _ => rfl⟩
  | .when d t, h => by
    simp only [formT, Bool.and_eq_true] at h
    obtain ⟨c, hc, _⟩ := lx_con t h.2
    exact ⟨_, lx_call2 (lxb_ascii _ (by decide) (by decide)) (lxb_num d) hc, fun _ => rfl⟩
  | .cond o l r, h => by
    simp only [formT, Bool.and_eq_true] at h
    obtain ⟨a, ha⟩ := lx_num o h.1
    obtain ⟨b, hb, _⟩ := lx_con l h.2.1
    obtain ⟨c, hc, _⟩ := lx_con r h.2.2
    exact ⟨_, lx_call3 (lxb_ascii _ (by decide) (by decide)) ha hb hc, fun _ => rfl⟩

/-- The signs of bytes. -/
theorem LxB.signs {b : Bool} {bs : List UInt8} {ts : List (List UInt8)} (h : LxB b bs ts) : ∃ ys : List SignV, sgF [] 0 false (runesL bs) = (ys, 0) ∧ ys.map Prod.fst = ts := by
  obtain ⟨R, h1, h2, h3⟩ := h
  obtain ⟨ys, run, a1, a2, a3⟩ := h3 [] 0
  have hR : runesL bs = R := by rw [← h2]; exact runes_txt0 R fun r hr => (h1 r hr).1
  refine ⟨ys, ?_, a1⟩
  have := a3 []
  rw [List.append_nil] at this
  rw [hR, this, List.nil_append]
  rfl

theorem doneF_nil {fin : Int} {s : RS} (h : s.l = []) : doneF fin s = s := by unfold doneF; rw [h]
theorem doneF_ok {fin : Int} {s : RS} (h : (doneF fin s).e = 0) : s.e = 0 ∧ s.l = [] ∧ doneF fin s = s := by
  unfold doneF at h ⊢
  cases hl : s.l with
  | nil => rw [hl] at h; exact ⟨h, rfl, rfl⟩
  | cons x l =>
    rw [hl] at h
    dsimp only at h
    unfold failF at h
    split at h
    · exact absurd (show (2 : Int) = 0 from h) (by decide)
    · contradiction

theorem checkO_form {o : Ob} (h : checkO o = 0) : formO o = true ∧ nodesO o ≤ 60 ∧ depthO o ≤ 12 := by
  unfold checkO at h
  repeat' split at h
  all_goals first | (exact absurd h (by decide)) | skip
  rename_i h1 h2 h3
  exact ⟨by simpa using h1, by omega, by omega⟩

/-- Signs that are a contract's are read as that contract. -/
theorem readT_of {bs : List UInt8} {t : Tm} {ys : List SignV} (hc : checkT t = 0) (hl : bs.length ≤ 1000) (hs : sgF [] 0 false (runesL bs) = (ys, 0)) (ht : ys.map Prod.fst = toksT t) : readT bs = (t, 0, 0) := by
  have hf := checkT_form hc
  have hb : beginF bs = ⟨ys, 0, 0⟩ := by unfold beginF; rw [if_neg (by omega), hs]; rfl
  have hr := conR_of (endF bs) 12 t hf.1 hf.2.2 (s := ⟨ys, 0, 0⟩) (s' := ⟨[], 0, 0⟩) ⟨rfl, rfl, rfl, ys, by simp, ht⟩
  unfold readT conS
  rw [hb, hr]
  dsimp only
  rw [doneF_nil rfl, if_neg (by simp), if_neg (by simpa using hc)]
theorem readO_of {bs : List UInt8} {o : Ob} {ys : List SignV} (hc : checkO o = 0) (hl : bs.length ≤ 1000) (hs : sgF [] 0 false (runesL bs) = (ys, 0)) (ht : ys.map Prod.fst = toksO o) : readO bs = (o, 0, 0) := by
  have hf := checkO_form hc
  have hb : beginF bs = ⟨ys, 0, 0⟩ := by unfold beginF; rw [if_neg (by omega), hs]; rfl
  have hr := numR_of (endF bs) 12 o hf.1 hf.2.2 (s := ⟨ys, 0, 0⟩) (s' := ⟨[], 0, 0⟩) ⟨rfl, rfl, rfl, ys, by simp, ht⟩
  unfold readO numS
  rw [hb, hr]
  dsimp only
  rw [doneF_nil rfl, if_neg (by simp), if_neg (by simpa using hc)]

theorem writeT_ok {t : Tm} (h : (writeT t).2 = 0) : checkT t = 0 ∧ (conT t).length ≤ 1000 ∧ writeT t = (conT t, 0) := by
  unfold writeT at h ⊢
  split at h
  · rename_i hc; exact absurd h hc
  rename_i hc
  split at h
  · exact absurd h (by decide)
  rename_i hl
  exact ⟨by simpa using hc, by omega, by rw [if_neg hc, if_neg hl]⟩
theorem writeO_ok {o : Ob} (h : (writeO o).2 = 0) : checkO o = 0 ∧ (numO o).length ≤ 1000 ∧ writeO o = (numO o, 0) := by
  unfold writeO at h ⊢
  split at h
  · rename_i hc; exact absurd h hc
  rename_i hc
  split at h
  · exact absurd h (by decide)
  rename_i hl
  exact ⟨by simpa using hc, by omega, by rw [if_neg hc, if_neg hl]⟩
/-- A contract's text is read as that contract. -/
theorem read_write {t : Tm} (h : (writeT t).2 = 0) : readT (writeT t).1 = (t, 0, 0) := by
  obtain ⟨h1, h2, h3⟩ := writeT_ok h
  obtain ⟨b, hb, _⟩ := lx_con t (checkT_form h1).1
  obtain ⟨ys, a1, a2⟩ := hb.signs
  rw [h3]
  exact readT_of h1 h2 a1 a2
theorem readO_write {o : Ob} (h : (writeO o).2 = 0) : readO (writeO o).1 = (o, 0, 0) := by
  obtain ⟨h1, h2, h3⟩ := writeO_ok h
  obtain ⟨b, hb⟩ := lx_num o (checkO_form h1).1
  obtain ⟨ys, a1, a2⟩ := hb.signs
  rw [h3]
  exact readO_of h1 h2 a1 a2

/-! ### How long it is -/
def lenS (l : List (List UInt8)) : Nat := l.flatten.length
theorem lenS_app (a b : List (List UInt8)) : lenS (a ++ b) = lenS a + lenS b := by unfold lenS; rw [List.flatten_append, List.length_append]
theorem lenS_add (l : List SignV) (x : List UInt8) : lenS ((addLast l x).map Prod.fst) = lenS (l.map Prod.fst) + x.length := by
  by_cases h : l = []
  · subst h; unfold addLast lenS; simp
  · obtain ⟨a, y, rfl⟩ := last_split l h
    rw [addLast_of, List.map_append, List.map_append, lenS_app, lenS_app]
    simp [lenS]; omega
theorem sgF_lenS : ∀ (R : List Int) (W : List SignV) (at_ : Int) (run : Bool), lenS ((sgF W at_ run R).1.map Prod.fst) ≤ lenS (W.map Prod.fst) + (txt R).length
  | [], W, at_, run => by show lenS (W.map Prod.fst) ≤ _; omega
  | r :: R, W, at_, run => by
    unfold sgF
    rw [txt_cons, List.length_append]
    split
    · simp [lenS]
    split
    · have := sgF_lenS R (addLast W (enc r)) (at_ + 1) true
      rw [lenS_add] at this; omega
    split
    · have := sgF_lenS R (W ++ [(enc r, at_ + 1)]) (at_ + 1) (kd r == 97)
      rw [List.map_append, lenS_app] at this
      have e : lenS ([(enc r, at_ + 1)].map Prod.fst) = (enc r).length := by simp [lenS]
      omega
    · have := sgF_lenS R W (at_ + 1) false
      omega
theorem sgF_ok : ∀ (R : List Int) (W : List SignV) (at_ : Int) (run : Bool), 0 ≤ at_ → ¬ 0 < (sgF W at_ run R).2 → ∀ r ∈ R, kd r ≠ 0
  | [], _, _, _, _, _, r, hr => by cases hr
  | c :: R, W, at_, run, h0, h, r, hr => by
    unfold sgF at h
    split at h
    · exact absurd (by dsimp only; omega) h
    rename_i hc
    have key : ∀ x ∈ R, kd x ≠ 0 := by
      split at h
      · exact sgF_ok R _ _ _ (by omega) h
      split at h
      · exact sgF_ok R _ _ _ (by omega) h
      · exact sgF_ok R _ _ _ (by omega) h
    rcases List.mem_cons.1 hr with rfl | hr
    · exact hc
    · exact key r hr

theorem call1_flat (wd x : List UInt8) : callL wd [x] = wd ++ ([40] ++ (x ++ [41])) := by unfold callL; rw [join1]; simp
theorem call2_flat (wd x y : List UInt8) : callL wd [x, y] = wd ++ ([40] ++ (x ++ ([44] ++ (y ++ [41])))) := by unfold callL; rw [join2]; simp
theorem call3_flat (wd x y z : List UInt8) : callL wd [x, y, z] = wd ++ ([40] ++ (x ++ ([44] ++ (y ++ ([44] ++ (z ++ [41])))))) := by unfold callL; rw [join3]; simp
theorem toksO_flat (o : Ob) : (toksO o).flatten = numO o := by
  induction o <;> simp_all [toksO, numO, call1_flat, call2_flat]
theorem toksT_flat (t : Tm) : (toksT t).flatten = conT t := by
  induction t <;> simp_all [toksT, conT, call1_flat, call2_flat, call3_flat, toksO_flat]

theorem sgF_bytes {bs : List UInt8} (h : ¬ 0 < (sgF [] 0 false (runesL bs)).2) : lenS ((sgF [] 0 false (runesL bs)).1.map Prod.fst) ≤ bs.length := by
  have h1 := sgF_ok _ _ _ _ (Int.le_refl _) h
  have h2 := sgF_lenS (runesL bs) [] 0 false
  rw [txt_runesL bs fun r hr => kd_no (h1 r hr)] at h2
  simpa [lenS] using h2

theorem beginF_ok {bs : List UInt8} (h : (beginF bs).e = 0) : bs.length ≤ 1000 ∧ ¬ 0 < (sgF [] 0 false (runesL bs)).2 ∧ beginF bs = ⟨(sgF [] 0 false (runesL bs)).1, 0, 0⟩ := by
  unfold beginF at h ⊢
  split at h
  · exact absurd (show (5 : Int) = 0 from h) (by decide)
  split at h
  · exact absurd (show (2 : Int) = 0 from h) (by decide)
  rename_i h1 h2
  exact ⟨by omega, h2, by rw [if_neg h1, if_neg h2]⟩

/-- A text that is a contract: written, it is not longer. -/
theorem readT_inv {bs : List UInt8} (h : (readT bs).2.2 = 0) : checkT (readT bs).1 = 0 ∧ (conT (readT bs).1).length ≤ bs.length ∧ bs.length ≤ 1000 ∧ (readT bs).2.1 = 0 := by
  unfold readT at h ⊢
  split at h
  · rename_i hc; exact absurd h hc
  rename_i hc
  split at h
  · rename_i hd; exact absurd h hd
  rename_i hd
  rw [if_neg hc, if_neg hd]
  have he : (conS bs).e = 0 := by simpa using hc
  obtain ⟨h1, h2, h3⟩ := doneF_ok he
  obtain ⟨i1, i2, i3⟩ := conR_inv (endF bs) 12 (beginF bs) h1
  obtain ⟨b1, b2, b3⟩ := beginF_ok i1.e
  refine ⟨by simpa using hd, ?_, b1, rfl⟩
  obtain ⟨xs, hx, hxs⟩ := i1.eat
  rw [h2, List.append_nil, b3] at hx
  dsimp only at hx ⊢
  rw [← toksT_flat, ← hxs, ← hx]
  exact sgF_bytes b2
theorem readO_inv {bs : List UInt8} (h : (readO bs).2.2 = 0) : checkO (readO bs).1 = 0 ∧ (numO (readO bs).1).length ≤ bs.length ∧ bs.length ≤ 1000 ∧ (readO bs).2.1 = 0 := by
  unfold readO at h ⊢
  split at h
  · rename_i hc; exact absurd h hc
  rename_i hc
  split at h
  · rename_i hd; exact absurd h hd
  rename_i hd
  rw [if_neg hc, if_neg hd]
  have he : (numS bs).e = 0 := by simpa using hc
  obtain ⟨h1, h2, h3⟩ := doneF_ok he
  obtain ⟨i1, i2, i3⟩ := numR_inv (endF bs) 12 (beginF bs) h1
  obtain ⟨b1, b2, b3⟩ := beginF_ok i1.e
  refine ⟨by simpa using hd, ?_, b1, rfl⟩
  obtain ⟨xs, hx, hxs⟩ := i1.eat
  rw [h2, List.append_nil, b3] at hx
  dsimp only at hx ⊢
  rw [← toksO_flat, ← hxs, ← hx]
  exact sgF_bytes b2
theorem readT_bad {bs : List UInt8} (h : (readT bs).2.2 ≠ 0) : (readT bs).1 = .none := by
  unfold readT at h ⊢
  split
  · rfl
  split
  · rfl
  rename_i h1 h2
  rw [if_neg h1, if_neg h2] at h
  exact absurd rfl h
theorem readO_bad {bs : List UInt8} (h : (readO bs).2.2 ≠ 0) : (readO bs).1 = .none := by
  unfold readO at h ⊢
  split
  · rfl
  split
  · rfl
  rename_i h1 h2
  rw [if_neg h1, if_neg h2] at h
  exact absurd rfl h

/-- A contract's text has no blanks. -/
theorem LxB.blank {b : Bool} {bs : List UInt8} {ts : List (List UInt8)} (h : LxB b bs ts) : (32 : UInt8) ∉ bs := by
  obtain ⟨R, h1, h2, _⟩ := h
  rw [← h2]
  intro t
  unfold txt at t
  obtain ⟨r, hr, hm⟩ := List.mem_flatMap.1 t
  exact enc_32 (h1 r hr).1 (h1 r hr).2 hm

/-! ### Blanks between signs -/
def gapF (k : Nat → Nat) : Nat → List Int → List Int
  | _, [] => []
  | n, r :: rs => if r = 40 ∨ r = 41 ∨ r = 44 then List.replicate (k n) 32 ++ (r :: (List.replicate (k n) 32 ++ gapF k (n + 1) rs)) else r :: gapF k n rs
theorem lx_blanks (W : List SignV) (X : List Int) : ∀ (k : Nat) (at_ : Int) (run : Bool), ∃ at' run', sgF W at_ run (List.replicate k 32 ++ X) = sgF W at' run' X ∧ (run = false → run' = false)
  | 0, at_, run => ⟨at_, run, rfl, fun h => h⟩
  | k + 1, at_, run => by
    obtain ⟨a, r, h1, h2⟩ := lx_blanks W X k (at_ + 1) false
    exact ⟨a, r, by rw [List.replicate_succ, List.cons_append, lx_blank, h1], fun _ => h2 rfl⟩
theorem addLast_fst {W W' : List SignV} (h : W.map Prod.fst = W'.map Prod.fst) (x : List UInt8) : (addLast W x).map Prod.fst = (addLast W' x).map Prod.fst := by
  by_cases hw : W = []
  · subst hw
    have : W' = [] := by cases W' with
      | nil => rfl
      | cons a b => simp at h
    rw [this]
  · have hw' : W' ≠ [] := by
      rintro rfl
      exact hw (by simpa using h)
    obtain ⟨a, y, rfl⟩ := last_split W hw
    obtain ⟨a', y', rfl⟩ := last_split W' hw'
    rw [List.map_append, List.map_append] at h
    have h := List.append_inj' h rfl
    simp only [List.map_cons, List.map_nil, List.cons.injEq, and_true] at h
    rw [addLast_of, addLast_of, List.map_append, List.map_append, h.1]
    simp [h.2]
theorem gap_same (k : Nat → Nat) : ∀ (R : List Int) (n : Nat) (W W' : List SignV) (a a' : Int) (run : Bool), W.map Prod.fst = W'.map Prod.fst → (∀ r ∈ R, kd r ≠ 0) →
    ∃ ys ys', sgF W a run R = (ys, 0) ∧ sgF W' a' run (gapF k n R) = (ys', 0) ∧ ys.map Prod.fst = ys'.map Prod.fst
  | [], n, W, W', a, a', run, h, _ => ⟨W, W', rfl, rfl, h⟩
  | r :: R, n, W, W', a, a', run, h, hk => by
    have hk0 := hk r (by simp)
    have hks : ∀ r ∈ R, kd r ≠ 0 := fun x hx => hk x (by simp [hx])
    unfold gapF
    by_cases hr : r = 40 ∨ r = 41 ∨ r = 44
    · rw [if_pos hr]
      have h40 : kd r = 40 := by rcases hr with rfl | rfl | rfl <;> rfl
      obtain ⟨a1, r1, e1, _⟩ := lx_blanks W' (r :: (List.replicate (k n) 32 ++ gapF k (n + 1) R)) (k n) a' run
      rw [lx_sign _ _ _ _ _ h40, e1, lx_sign _ _ _ _ _ h40]
      obtain ⟨a2, r2, e2, f2⟩ := lx_blanks (W' ++ [(enc r, a1 + 1)]) (gapF k (n + 1) R) (k n) (a1 + 1) false
      rw [e2, f2 rfl]
      exact gap_same k R (n + 1) _ _ _ _ _ (by rw [List.map_append, List.map_append, h]; rfl) hks
    · rw [if_neg hr]
      unfold sgF
      rw [if_neg hk0, if_neg hk0]
      split
      · exact gap_same k R n _ _ _ _ _ (addLast_fst h _) hks
      split
      · exact gap_same k R n _ _ _ _ _ (by rw [List.map_append, List.map_append, h]; rfl) hks
      · exact gap_same k R n _ _ _ _ _ h hks

end Go.Proofs.YtlhbfdakceipkaaGreatDoor

/-! ### CReadG -/
namespace Go.Proofs.YtlhbfdakceipkaaGreatDoor
open Vc
set_option maxRecDepth 100000
set_option linter.unusedVariables false
/-- (*handfast/read.reader).place -/
def C155 (p0 : Addr) (w : World) (K : Value → World → Prop) : Prop :=
  LdK .slc (p0.add 0) w (fun (x1 : Option Addr × Nat × Nat) => ifB (decide ((x1.2.1 : Int) > 0))
  (LdK .slc (p0.add 0) w (fun (x2 : Option Addr × Nat × Nat) => IdxK x2.1 x2.2.1 0 2 (fun a3 => LdK (.int .i64) (a3.add 1) w (fun (x4 : Int) => K (.int .i64 x4) w))))
  (LdK (.int .i64) (p0.add 1) w (fun (x5 : Int) => K (.int .i64 x5) w)))
def pl155 : Plan := .auto
theorem e155 (p0 : Addr) (w : World) (K : Value → World → Prop) : vcFunc Tryz.prog Tryz.f155 pl155 [.pointer (some p0)] w K = C155 p0 w K := by kernel_rfl
theorem c155 (p0 : Addr) (w : World) (K : Value → World → Prop) (h : C155 p0 w K) : Ret Tryz.prog 155 #[.pointer (some p0)] w K := by
  rw [← e155] at h
  exact vcFunc_sound (by kernel_rfl) Tryz.func155 h

/-- (*handfast/read.reader).fail -/
def C115 (p0 : Addr) (p1 : Int) (w : World) (K : Value → World → Prop) : Prop :=
  LdK (.int .i64) (p0.add 3) w (fun (x1 : Int) => ifB (x1 == 0)
  (CallK Tryz.prog 155 #[.pointer (some p0)] w (.v (.one (.int .i64))) (fun (x2 : Int) w3 => StK (p0.add 3) (.int .i64 p1) w3 (fun w4 => StK (p0.add 2) (.int .i64 x2) w4 (fun w5 => K (.tuple #[]) w5))))
  (K (.tuple #[]) w))
def pl115 : Plan := .auto
theorem e115 (p0 : Addr) (p1 : Int) (w : World) (K : Value → World → Prop) : vcFunc Tryz.prog Tryz.f115 pl115 [.pointer (some p0), .int .i64 p1] w K = C115 p0 p1 w K := by kernel_rfl
theorem c115 (p0 : Addr) (p1 : Int) (w : World) (K : Value → World → Prop) (h : C115 p0 p1 w K) : Ret Tryz.prog 115 #[.pointer (some p0), .int .i64 p1] w K := by
  rw [← e115] at h
  exact vcFunc_sound (by kernel_rfl) Tryz.func115 h

/-- (*handfast/read.reader).take -/
def C108 (p0 : Addr) (p1 : Value) (w : World) (K : Value → World → Prop) : Prop :=
  JoinK (Bool × Unit) (fun J1 => LdK (.int .i64) (p0.add 3) w (fun (x4 : Int) => ifB (x4 == 0)
  (LdK .slc (p0.add 0) w (fun (x5 : Option Addr × Nat × Nat) => ifB ((x5.2.1 : Int) == 0)
  (J1 (true, ()) w)
  (LdK .slc (p0.add 0) w (fun (x6 : Option Addr × Nat × Nat) => IdxK x6.1 x6.2.1 0 2 (fun a7 => LdK .str (a7.add 0) w (fun (x8 : ByteArray) => callV Tryz.prog p1 [.string x8] (.v (.one .bool)) w (fun (x9 : Bool) w10 => J1 ((!x9), ()) w10)))))))
  (J1 (false, ()) w)))
  (fun _ s2 w3 => ifB s2.1
  (CallK Tryz.prog 115 #[.pointer (some p0), .int .i64 2] w3 (.tup []) (fun (x11 : Unit) w12 => LdK (.int .i64) (p0.add 3) w12 (fun (x13 : Int) => ifB (x13 != 0)
  (K (.string (⟨#[]⟩ : ByteArray)) w12)
  (LdK .slc (p0.add 0) w12 (fun (x14 : Option Addr × Nat × Nat) => IdxK x14.1 x14.2.1 0 2 (fun a15 => LdK .str (a15.add 0) w12 (fun (x16 : ByteArray) => LdK .slc (p0.add 0) w12 (fun (x17 : Option Addr × Nat × Nat) => SubK x17.1 x17.2.2 1 x17.2.1 x17.2.2 2 (fun a18 l19 c20 => StK (p0.add 0) (.slice a18 l19 c20) w12 (fun w21 => K (.string x16) w21))))))))))
  (LdK (.int .i64) (p0.add 3) w3 (fun (x22 : Int) => ifB (x22 != 0)
  (K (.string (⟨#[]⟩ : ByteArray)) w3)
  (LdK .slc (p0.add 0) w3 (fun (x23 : Option Addr × Nat × Nat) => IdxK x23.1 x23.2.1 0 2 (fun a24 => LdK .str (a24.add 0) w3 (fun (x25 : ByteArray) => LdK .slc (p0.add 0) w3 (fun (x26 : Option Addr × Nat × Nat) => SubK x26.1 x26.2.2 1 x26.2.1 x26.2.2 2 (fun a27 l28 c29 => StK (p0.add 0) (.slice a27 l28 c29) w3 (fun w30 => K (.string x25) w30))))))))))
def pl108 : Plan := (.seq .auto (.seq (.join [(30, .one .bool)] .auto .auto) .auto))
theorem e108 (p0 : Addr) (p1 : Value) (w : World) (K : Value → World → Prop) : vcFunc Tryz.prog Tryz.f108 pl108 [.pointer (some p0), p1] w K = C108 p0 p1 w K := by kernel_rfl
theorem c108 (p0 : Addr) (p1 : Value) (w : World) (K : Value → World → Prop) (h : C108 p0 p1 w K) : Ret Tryz.prog 108 #[.pointer (some p0), p1] w K := by
  rw [← e108] at h
  exact vcFunc_sound (by kernel_rfl) Tryz.func108 h

/-- (*handfast/read.reader).must -/
def C110 (p0 : Addr) (p1 : ByteArray) (w : World) (K : Value → World → Prop) : Prop :=
  NewK (.cells #[.string p1] 9) w (fun g1 w2 => CallK Tryz.prog 108 #[.pointer (some p0), .func (.func 153) #[] #[.pointer (some (⟨g1, 0, none⟩ : Addr))]] w2 (.v (.one .str)) (fun (x3 : ByteArray) w4 => K (.tuple #[]) w4))
def pl110 : Plan := .auto
theorem e110 (p0 : Addr) (p1 : ByteArray) (w : World) (K : Value → World → Prop) : vcFunc Tryz.prog Tryz.f110 pl110 [.pointer (some p0), .string p1] w K = C110 p0 p1 w K := by kernel_rfl
theorem c110 (p0 : Addr) (p1 : ByteArray) (w : World) (K : Value → World → Prop) (h : C110 p0 p1 w K) : Ret Tryz.prog 110 #[.pointer (some p0), .string p1] w K := by
  rw [← e110] at h
  exact vcFunc_sound (by kernel_rfl) Tryz.func110 h

/-- (*handfast/read.reader).must$1 -/
def C153 (p0 : ByteArray) (c0 : Addr) (w : World) (K : Value → World → Prop) : Prop :=
  LdK .str c0 w (fun (x1 : ByteArray) => K (.bool (p0.toList == x1.toList)) w)
def pl153 : Plan := .auto
theorem e153 (p0 : ByteArray) (c0 : Addr) (w : World) (K : Value → World → Prop) : vcFunc Tryz.prog Tryz.f153 pl153 [.string p0, .pointer (some c0)] w K = C153 p0 c0 w K := by kernel_rfl
theorem c153 (p0 : ByteArray) (c0 : Addr) (w : World) (K : Value → World → Prop) (h : C153 p0 c0 w K) : Ret Tryz.prog 153 #[.string p0, .pointer (some c0)] w K := by
  rw [← e153] at h
  exact vcFunc_sound (by kernel_rfl) Tryz.func153 h

/-- (*handfast/read.reader).name -/
def C111 (p0 : Addr) (w : World) (K : Value → World → Prop) : Prop :=
  CallK Tryz.prog 108 #[.pointer (some p0), .func (.func 145) #[] #[]] w (.v (.one .str)) (fun (x1 : ByteArray) w2 => K (.string x1) w2)
def pl111 : Plan := .auto
theorem e111 (p0 : Addr) (w : World) (K : Value → World → Prop) : vcFunc Tryz.prog Tryz.f111 pl111 [.pointer (some p0)] w K = C111 p0 w K := by kernel_rfl
theorem c111 (p0 : Addr) (w : World) (K : Value → World → Prop) (h : C111 p0 w K) : Ret Tryz.prog 111 #[.pointer (some p0)] w K := by
  rw [← e111] at h
  exact vcFunc_sound (by kernel_rfl) Tryz.func111 h

/-- (*handfast/read.reader).deep -/
def C107 (p0 : Addr) (p1 : Int) (w : World) (K : Value → World → Prop) : Prop :=
  ifB (decide (p1 ≥ 12))
  (CallK Tryz.prog 115 #[.pointer (some p0), .int .i64 5] w (.tup []) (fun (x1 : Unit) w2 => LdK (.int .i64) (p0.add 3) w2 (fun (x3 : Int) => K (.bool (x3 != 0)) w2)))
  (LdK (.int .i64) (p0.add 3) w (fun (x4 : Int) => K (.bool (x4 != 0)) w))
def pl107 : Plan := .auto
theorem e107 (p0 : Addr) (p1 : Int) (w : World) (K : Value → World → Prop) : vcFunc Tryz.prog Tryz.f107 pl107 [.pointer (some p0), .int .i64 p1] w K = C107 p0 p1 w K := by kernel_rfl
theorem c107 (p0 : Addr) (p1 : Int) (w : World) (K : Value → World → Prop) (h : C107 p0 p1 w K) : Ret Tryz.prog 107 #[.pointer (some p0), .int .i64 p1] w K := by
  rw [← e107] at h
  exact vcFunc_sound (by kernel_rfl) Tryz.func107 h

/-- (*handfast/read.reader).pair -/
def C132 (p0 : Addr) (p1 : Int) (w : World) (K : Value → World → Prop) : Prop :=
  CallK Tryz.prog 110 #[.pointer (some p0), .string (⟨#[40]⟩ : ByteArray)] w (.tup []) (fun (x1 : Unit) w2 => CallK Tryz.prog 72 #[.pointer (some p0), .int .i64 p1] w2 (.v (.one .raw)) (fun (x3 : Value) w4 => CallK Tryz.prog 110 #[.pointer (some p0), .string (⟨#[44]⟩ : ByteArray)] w4 (.tup []) (fun (x5 : Unit) w6 => CallK Tryz.prog 72 #[.pointer (some p0), .int .i64 p1] w6 (.v (.one .raw)) (fun (x7 : Value) w8 => CallK Tryz.prog 110 #[.pointer (some p0), .string (⟨#[41]⟩ : ByteArray)] w8 (.tup []) (fun (x9 : Unit) w10 => K (.tuple #[x3, x7]) w10)))))
def pl132 : Plan := .auto
theorem e132 (p0 : Addr) (p1 : Int) (w : World) (K : Value → World → Prop) : vcFunc Tryz.prog Tryz.f132 pl132 [.pointer (some p0), .int .i64 p1] w K = C132 p0 p1 w K := by kernel_rfl
theorem c132 (p0 : Addr) (p1 : Int) (w : World) (K : Value → World → Prop) (h : C132 p0 p1 w K) : Ret Tryz.prog 132 #[.pointer (some p0), .int .i64 p1] w K := by
  rw [← e132] at h
  exact vcFunc_sound (by kernel_rfl) Tryz.func132 h

/-- (*handfast/read.reader).number -/
def C72 (p0 : Addr) (p1 : Int) (w : World) (K : Value → World → Prop) : Prop :=
  CallK Tryz.prog 107 #[.pointer (some p0), .int .i64 p1] w (.v (.one .bool)) (fun (x1 : Bool) w2 => ifB x1
  (K .nilIface w2)
  (CallK Tryz.prog 108 #[.pointer (some p0), .func (.func 131) #[] #[]] w2 (.v (.one .str)) (fun (x3 : ByteArray) w4 => ifB (x3.toList == (⟨#[]⟩ : ByteArray).toList)
  (K .nilIface w4)
  (ifB (x3.toList == (⟨#[102, 105, 120]⟩ : ByteArray).toList)
  (CallK Tryz.prog 110 #[.pointer (some p0), .string (⟨#[40]⟩ : ByteArray)] w4 (.tup []) (fun (x5 : Unit) w6 => CallK Tryz.prog 111 #[.pointer (some p0)] w6 (.v (.one .str)) (fun (x7 : ByteArray) w8 => NewK (.cells #[.string (⟨#[]⟩ : ByteArray)] 78) w8 (fun g9 w10 => StsK (⟨g9, 0, none⟩ : Addr) [.string x7] w10 (fun w11 => CallK Tryz.prog 110 #[.pointer (some p0), .string (⟨#[41]⟩ : ByteArray)] w11 (.tup []) (fun (x12 : Unit) w13 => LdsK [.str] (⟨g9, 0, none⟩ : Addr) w13 (fun (x14 : ByteArray × Unit) => K (.iface 78 (.agg #[.string x14.1])) w13)))))))
  (ifB (x3.toList == (⟨#[110, 101, 103]⟩ : ByteArray).toList)
  (CallK Tryz.prog 110 #[.pointer (some p0), .string (⟨#[40]⟩ : ByteArray)] w4 (.tup []) (fun (x15 : Unit) w16 => CallK Tryz.prog 72 #[.pointer (some p0), .int .i64 (IntKind.i64.wrap (p1 + 1))] w16 (.v (.one .raw)) (fun (x17 : Value) w18 => OneK x17 (NewK (.cells #[.nilIface] 85) w18 (fun g19 w20 => StsK (⟨g19, 0, none⟩ : Addr) [x17] w20 (fun w21 => CallK Tryz.prog 110 #[.pointer (some p0), .string (⟨#[41]⟩ : ByteArray)] w21 (.tup []) (fun (x22 : Unit) w23 => LdsK [.raw] (⟨g19, 0, none⟩ : Addr) w23 (fun (x24 : Value × Unit) => K (.iface 85 (.agg #[x24.1])) w23))))))))
  (ifB (x3.toList == (⟨#[97, 100, 100]⟩ : ByteArray).toList)
  (CallK Tryz.prog 132 #[.pointer (some p0), .int .i64 (IntKind.i64.wrap (p1 + 1))] w4 (.tup [.one .raw, .one .raw]) (fun (x25 : Value × Value × Unit) w26 => OneK x25.1 (OneK x25.2.1 (K (.iface 86 (.agg #[x25.1, x25.2.1])) w26))))
  (ifB (x3.toList == (⟨#[109, 117, 108]⟩ : ByteArray).toList)
  (CallK Tryz.prog 132 #[.pointer (some p0), .int .i64 (IntKind.i64.wrap (p1 + 1))] w4 (.tup [.one .raw, .one .raw]) (fun (x27 : Value × Value × Unit) w28 => OneK x27.1 (OneK x27.2.1 (K (.iface 83 (.agg #[x27.1, x27.2.1])) w28))))
  (ifB (x3.toList == (⟨#[109, 97, 120]⟩ : ByteArray).toList)
  (CallK Tryz.prog 132 #[.pointer (some p0), .int .i64 (IntKind.i64.wrap (p1 + 1))] w4 (.tup [.one .raw, .one .raw]) (fun (x29 : Value × Value × Unit) w30 => OneK x29.1 (OneK x29.2.1 (K (.iface 82 (.agg #[x29.1, x29.2.1])) w30))))
  (CallK Tryz.prog 133 #[.string x3] w4 (.tup [.one (.int .i64), .one .bool]) (fun (x31 : Int × Bool × Unit) w32 => K (.iface 80 (.agg #[.int .i64 x31.1])) w32))))))))))
def pl72 : Plan := .auto
theorem e72 (p0 : Addr) (p1 : Int) (w : World) (K : Value → World → Prop) : vcFunc Tryz.prog Tryz.f72 pl72 [.pointer (some p0), .int .i64 p1] w K = C72 p0 p1 w K := by kernel_rfl
theorem c72 (p0 : Addr) (p1 : Int) (w : World) (K : Value → World → Prop) (h : C72 p0 p1 w K) : Ret Tryz.prog 72 #[.pointer (some p0), .int .i64 p1] w K := by
  rw [← e72] at h
  exact vcFunc_sound (by kernel_rfl) Tryz.func72 h

/-- (*handfast/read.reader).day -/
def C114 (p0 : Addr) (w : World) (K : Value → World → Prop) : Prop :=
  CallK Tryz.prog 108 #[.pointer (some p0), .func (.func 154) #[] #[]] w (.v (.one .str)) (fun (x1 : ByteArray) w2 => CallK Tryz.prog 133 #[.string x1] w2 (.tup [.one (.int .i64), .one .bool]) (fun (x3 : Int × Bool × Unit) w4 => K (.int .i64 x3.1) w4))
def pl114 : Plan := .auto
theorem e114 (p0 : Addr) (w : World) (K : Value → World → Prop) : vcFunc Tryz.prog Tryz.f114 pl114 [.pointer (some p0)] w K = C114 p0 w K := by kernel_rfl
theorem c114 (p0 : Addr) (w : World) (K : Value → World → Prop) (h : C114 p0 w K) : Ret Tryz.prog 114 #[.pointer (some p0)] w K := by
  rw [← e114] at h
  exact vcFunc_sound (by kernel_rfl) Tryz.func114 h

/-- (*handfast/read.reader).day$1 -/
def C154 (p0 : ByteArray) (w : World) (K : Value → World → Prop) : Prop :=
  CallK Tryz.prog 133 #[.string p0] w (.tup [.one (.int .i64), .one .bool]) (fun (x1 : Int × Bool × Unit) w2 => ifB x1.2.1
  (ifB (decide (x1.1 ≥ 0))
  (K (.bool (decide (x1.1 ≤ 10000))) w2)
  (K (.bool false) w2))
  (K (.bool false) w2))
def pl154 : Plan := .auto
theorem e154 (p0 : ByteArray) (w : World) (K : Value → World → Prop) : vcFunc Tryz.prog Tryz.f154 pl154 [.string p0] w K = C154 p0 w K := by kernel_rfl
theorem c154 (p0 : ByteArray) (w : World) (K : Value → World → Prop) (h : C154 p0 w K) : Ret Tryz.prog 154 #[.string p0] w K := by
  rw [← e154] at h
  exact vcFunc_sound (by kernel_rfl) Tryz.func154 h

/-- (*handfast/read.reader).both -/
def C113 (p0 : Addr) (p1 : Int) (w : World) (K : Value → World → Prop) : Prop :=
  CallK Tryz.prog 64 #[.pointer (some p0), .int .i64 p1] w (.v (.one .raw)) (fun (x1 : Value) w2 => CallK Tryz.prog 110 #[.pointer (some p0), .string (⟨#[44]⟩ : ByteArray)] w2 (.tup []) (fun (x3 : Unit) w4 => CallK Tryz.prog 64 #[.pointer (some p0), .int .i64 p1] w4 (.v (.one .raw)) (fun (x5 : Value) w6 => CallK Tryz.prog 110 #[.pointer (some p0), .string (⟨#[41]⟩ : ByteArray)] w6 (.tup []) (fun (x7 : Unit) w8 => K (.tuple #[x1, x5]) w8))))
def pl113 : Plan := .auto
theorem e113 (p0 : Addr) (p1 : Int) (w : World) (K : Value → World → Prop) : vcFunc Tryz.prog Tryz.f113 pl113 [.pointer (some p0), .int .i64 p1] w K = C113 p0 p1 w K := by kernel_rfl
theorem c113 (p0 : Addr) (p1 : Int) (w : World) (K : Value → World → Prop) (h : C113 p0 p1 w K) : Ret Tryz.prog 113 #[.pointer (some p0), .int .i64 p1] w K := by
  rw [← e113] at h
  exact vcFunc_sound (by kernel_rfl) Tryz.func113 h

/-- (*handfast/read.reader).one -/
def C112 (p0 : Addr) (p1 : Int) (w : World) (K : Value → World → Prop) : Prop :=
  CallK Tryz.prog 64 #[.pointer (some p0), .int .i64 p1] w (.v (.one .raw)) (fun (x1 : Value) w2 => CallK Tryz.prog 110 #[.pointer (some p0), .string (⟨#[41]⟩ : ByteArray)] w2 (.tup []) (fun (x3 : Unit) w4 => K x1 w4))
def pl112 : Plan := .auto
theorem e112 (p0 : Addr) (p1 : Int) (w : World) (K : Value → World → Prop) : vcFunc Tryz.prog Tryz.f112 pl112 [.pointer (some p0), .int .i64 p1] w K = C112 p0 p1 w K := by kernel_rfl
theorem c112 (p0 : Addr) (p1 : Int) (w : World) (K : Value → World → Prop) (h : C112 p0 p1 w K) : Ret Tryz.prog 112 #[.pointer (some p0), .int .i64 p1] w K := by
  rw [← e112] at h
  exact vcFunc_sound (by kernel_rfl) Tryz.func112 h

/-- (*handfast/read.reader).contract -/
def C64 (p0 : Addr) (p1 : Int) (w : World) (K : Value → World → Prop) : Prop :=
  CallK Tryz.prog 107 #[.pointer (some p0), .int .i64 p1] w (.v (.one .bool)) (fun (x1 : Bool) w2 => ifB x1
  (K .nilIface w2)
  (CallK Tryz.prog 108 #[.pointer (some p0), .func (.func 109) #[] #[]] w2 (.v (.one .str)) (fun (x3 : ByteArray) w4 => ifB (x3.toList == (⟨#[]⟩ : ByteArray).toList)
  (K (.iface 76 (.agg #[])) w4)
  (ifB (x3.toList == (⟨#[122, 101, 114, 111]⟩ : ByteArray).toList)
  (K (.iface 76 (.agg #[])) w4)
  (CallK Tryz.prog 110 #[.pointer (some p0), .string (⟨#[40]⟩ : ByteArray)] w4 (.tup []) (fun (x5 : Unit) w6 => ifB (x3.toList == (⟨#[111, 110, 101]⟩ : ByteArray).toList)
  (CallK Tryz.prog 111 #[.pointer (some p0)] w6 (.v (.one .str)) (fun (x7 : ByteArray) w8 => NewK (.cells #[.string (⟨#[]⟩ : ByteArray)] 74) w8 (fun g9 w10 => StsK (⟨g9, 0, none⟩ : Addr) [.string x7] w10 (fun w11 => CallK Tryz.prog 110 #[.pointer (some p0), .string (⟨#[41]⟩ : ByteArray)] w11 (.tup []) (fun (x12 : Unit) w13 => LdsK [.str] (⟨g9, 0, none⟩ : Addr) w13 (fun (x14 : ByteArray × Unit) => K (.iface 74 (.agg #[.string x14.1])) w13))))))
  (ifB (x3.toList == (⟨#[103, 105, 118, 101]⟩ : ByteArray).toList)
  (CallK Tryz.prog 112 #[.pointer (some p0), .int .i64 (IntKind.i64.wrap (p1 + 1))] w6 (.v (.one .raw)) (fun (x15 : Value) w16 => OneK x15 (K (.iface 89 (.agg #[x15])) w16)))
  (ifB (x3.toList == (⟨#[97, 110, 100]⟩ : ByteArray).toList)
  (CallK Tryz.prog 113 #[.pointer (some p0), .int .i64 (IntKind.i64.wrap (p1 + 1))] w6 (.tup [.one .raw, .one .raw]) (fun (x17 : Value × Value × Unit) w18 => OneK x17.1 (OneK x17.2.1 (K (.iface 91 (.agg #[x17.1, x17.2.1])) w18))))
  (ifB (x3.toList == (⟨#[111, 114]⟩ : ByteArray).toList)
  (CallK Tryz.prog 111 #[.pointer (some p0)] w6 (.v (.one .str)) (fun (x19 : ByteArray) w20 => NewK (.cells #[.string (⟨#[]⟩ : ByteArray), .nilIface, .nilIface] 93) w20 (fun g21 w22 => StsK (⟨g21, 0, none⟩ : Addr) [.string x19, .nilIface, .nilIface] w22 (fun w23 => CallK Tryz.prog 110 #[.pointer (some p0), .string (⟨#[44]⟩ : ByteArray)] w23 (.tup []) (fun (x24 : Unit) w25 => CallK Tryz.prog 113 #[.pointer (some p0), .int .i64 (IntKind.i64.wrap (p1 + 1))] w25 (.tup [.one .raw, .one .raw]) (fun (x26 : Value × Value × Unit) w27 => OneK x26.1 (StsK ((⟨g21, 0, none⟩ : Addr).add 1) [x26.1] w27 (fun w28 => OneK x26.2.1 (StsK ((⟨g21, 0, none⟩ : Addr).add 2) [x26.2.1] w28 (fun w29 => LdsK [.str, .raw, .raw] (⟨g21, 0, none⟩ : Addr) w29 (fun (x30 : ByteArray × Value × Value × Unit) => K (.iface 93 (.agg #[.string x30.1, x30.2.1, x30.2.2.1])) w29)))))))))))
  (ifB (x3.toList == (⟨#[115, 99, 97, 108, 101]⟩ : ByteArray).toList)
  (CallK Tryz.prog 72 #[.pointer (some p0), .int .i64 (IntKind.i64.wrap (p1 + 1))] w6 (.v (.one .raw)) (fun (x31 : Value) w32 => OneK x31 (NewK (.cells #[.nilIface, .nilIface] 97) w32 (fun g33 w34 => StsK (⟨g33, 0, none⟩ : Addr) [x31, .nilIface] w34 (fun w35 => CallK Tryz.prog 110 #[.pointer (some p0), .string (⟨#[44]⟩ : ByteArray)] w35 (.tup []) (fun (x36 : Unit) w37 => CallK Tryz.prog 112 #[.pointer (some p0), .int .i64 (IntKind.i64.wrap (p1 + 1))] w37 (.v (.one .raw)) (fun (x38 : Value) w39 => OneK x38 (StsK ((⟨g33, 0, none⟩ : Addr).add 1) [x38] w39 (fun w40 => LdsK [.raw, .raw] (⟨g33, 0, none⟩ : Addr) w40 (fun (x41 : Value × Value × Unit) => K (.iface 97 (.agg #[x41.1, x41.2.1])) w40))))))))))
  (ifB (x3.toList == (⟨#[119, 104, 101, 110]⟩ : ByteArray).toList)
  (CallK Tryz.prog 114 #[.pointer (some p0)] w6 (.v (.one (.int .i64))) (fun (x42 : Int) w43 => NewK (.cells #[.int .i64 0, .nilIface] 95) w43 (fun g44 w45 => StsK (⟨g44, 0, none⟩ : Addr) [.int .i64 x42, .nilIface] w45 (fun w46 => CallK Tryz.prog 110 #[.pointer (some p0), .string (⟨#[44]⟩ : ByteArray)] w46 (.tup []) (fun (x47 : Unit) w48 => CallK Tryz.prog 112 #[.pointer (some p0), .int .i64 (IntKind.i64.wrap (p1 + 1))] w48 (.v (.one .raw)) (fun (x49 : Value) w50 => OneK x49 (StsK ((⟨g44, 0, none⟩ : Addr).add 1) [x49] w50 (fun w51 => LdsK [.int .i64, .raw] (⟨g44, 0, none⟩ : Addr) w51 (fun (x52 : Int × Value × Unit) => K (.iface 95 (.agg #[.int .i64 x52.1, x52.2.1])) w51)))))))))
  (CallK Tryz.prog 72 #[.pointer (some p0), .int .i64 (IntKind.i64.wrap (p1 + 1))] w6 (.v (.one .raw)) (fun (x53 : Value) w54 => OneK x53 (NewK (.cells #[.nilIface, .nilIface, .nilIface] 99) w54 (fun g55 w56 => StsK (⟨g55, 0, none⟩ : Addr) [x53, .nilIface, .nilIface] w56 (fun w57 => CallK Tryz.prog 110 #[.pointer (some p0), .string (⟨#[44]⟩ : ByteArray)] w57 (.tup []) (fun (x58 : Unit) w59 => CallK Tryz.prog 113 #[.pointer (some p0), .int .i64 (IntKind.i64.wrap (p1 + 1))] w59 (.tup [.one .raw, .one .raw]) (fun (x60 : Value × Value × Unit) w61 => OneK x60.1 (StsK ((⟨g55, 0, none⟩ : Addr).add 1) [x60.1] w61 (fun w62 => OneK x60.2.1 (StsK ((⟨g55, 0, none⟩ : Addr).add 2) [x60.2.1] w62 (fun w63 => LdsK [.raw, .raw, .raw] (⟨g55, 0, none⟩ : Addr) w63 (fun (x64 : Value × Value × Value × Unit) => K (.iface 99 (.agg #[x64.1, x64.2.1, x64.2.2.1])) w63)))))))))))))))))))))))
def pl64 : Plan := .auto
theorem e64 (p0 : Addr) (p1 : Int) (w : World) (K : Value → World → Prop) : vcFunc Tryz.prog Tryz.f64 pl64 [.pointer (some p0), .int .i64 p1] w K = C64 p0 p1 w K := by kernel_rfl
theorem c64 (p0 : Addr) (p1 : Int) (w : World) (K : Value → World → Prop) (h : C64 p0 p1 w K) : Ret Tryz.prog 64 #[.pointer (some p0), .int .i64 p1] w K := by
  rw [← e64] at h
  exact vcFunc_sound (by kernel_rfl) Tryz.func64 h

/-- (*handfast/read.reader).done -/
def C65 (p0 : Addr) (w : World) (K : Value → World → Prop) : Prop :=
  LdK .slc (p0.add 0) w (fun (x1 : Option Addr × Nat × Nat) => ifB (decide ((x1.2.1 : Int) > 0))
  (CallK Tryz.prog 115 #[.pointer (some p0), .int .i64 2] w (.tup []) (fun (x2 : Unit) w3 => K (.tuple #[]) w3))
  (K (.tuple #[]) w))
def pl65 : Plan := .auto
theorem e65 (p0 : Addr) (w : World) (K : Value → World → Prop) : vcFunc Tryz.prog Tryz.f65 pl65 [.pointer (some p0)] w K = C65 p0 w K := by kernel_rfl
theorem c65 (p0 : Addr) (w : World) (K : Value → World → Prop) (h : C65 p0 w K) : Ret Tryz.prog 65 #[.pointer (some p0)] w K := by
  rw [← e65] at h
  exact vcFunc_sound (by kernel_rfl) Tryz.func65 h

/-- handfast/read.word -/
def C131 (p0 : ByteArray) (w : World) (K : Value → World → Prop) : Prop :=
  CallK Tryz.prog 133 #[.string p0] w (.tup [.one (.int .i64), .one .bool]) (fun (x1 : Int × Bool × Unit) w2 => ifB x1.2.1
  (K (.bool true) w2)
  (ifB (p0.toList == (⟨#[102, 105, 120]⟩ : ByteArray).toList)
  (K (.bool true) w2)
  (ifB (p0.toList == (⟨#[97, 100, 100]⟩ : ByteArray).toList)
  (K (.bool true) w2)
  (ifB (p0.toList == (⟨#[110, 101, 103]⟩ : ByteArray).toList)
  (K (.bool true) w2)
  (ifB (p0.toList == (⟨#[109, 117, 108]⟩ : ByteArray).toList)
  (K (.bool true) w2)
  (K (.bool (p0.toList == (⟨#[109, 97, 120]⟩ : ByteArray).toList)) w2))))))
def pl131 : Plan := .auto
theorem e131 (p0 : ByteArray) (w : World) (K : Value → World → Prop) : vcFunc Tryz.prog Tryz.f131 pl131 [.string p0] w K = C131 p0 w K := by kernel_rfl
theorem c131 (p0 : ByteArray) (w : World) (K : Value → World → Prop) (h : C131 p0 w K) : Ret Tryz.prog 131 #[.string p0] w K := by
  rw [← e131] at h
  exact vcFunc_sound (by kernel_rfl) Tryz.func131 h

/-- handfast/read.begins -/
def C109 (p0 : ByteArray) (w : World) (K : Value → World → Prop) : Prop :=
  ifB (p0.toList == (⟨#[122, 101, 114, 111]⟩ : ByteArray).toList)
  (ifB (p0.toList == (⟨#[122, 101, 114, 111]⟩ : ByteArray).toList)
  (K (.bool true) w)
  (K (.bool false) w))
  (ifB (p0.toList == (⟨#[111, 110, 101]⟩ : ByteArray).toList)
  (ifB (p0.toList == (⟨#[111, 110, 101]⟩ : ByteArray).toList)
  (K (.bool true) w)
  (K (.bool false) w))
  (ifB (p0.toList == (⟨#[103, 105, 118, 101]⟩ : ByteArray).toList)
  (ifB (p0.toList == (⟨#[103, 105, 118, 101]⟩ : ByteArray).toList)
  (K (.bool true) w)
  (K (.bool false) w))
  (ifB (p0.toList == (⟨#[97, 110, 100]⟩ : ByteArray).toList)
  (ifB (p0.toList == (⟨#[97, 110, 100]⟩ : ByteArray).toList)
  (K (.bool true) w)
  (K (.bool false) w))
  (ifB (p0.toList == (⟨#[111, 114]⟩ : ByteArray).toList)
  (ifB (p0.toList == (⟨#[111, 114]⟩ : ByteArray).toList)
  (K (.bool true) w)
  (K (.bool false) w))
  (ifB (p0.toList == (⟨#[115, 99, 97, 108, 101]⟩ : ByteArray).toList)
  (ifB (p0.toList == (⟨#[115, 99, 97, 108, 101]⟩ : ByteArray).toList)
  (K (.bool true) w)
  (K (.bool false) w))
  (ifB (p0.toList == (⟨#[119, 104, 101, 110]⟩ : ByteArray).toList)
  (ifB (p0.toList == (⟨#[119, 104, 101, 110]⟩ : ByteArray).toList)
  (K (.bool true) w)
  (K (.bool false) w))
  (ifB (p0.toList == (⟨#[105, 102]⟩ : ByteArray).toList)
  (K (.bool true) w)
  (K (.bool false) w))))))))
def pl109 : Plan := .auto
theorem e109 (p0 : ByteArray) (w : World) (K : Value → World → Prop) : vcFunc Tryz.prog Tryz.f109 pl109 [.string p0] w K = C109 p0 w K := by kernel_rfl
theorem c109 (p0 : ByteArray) (w : World) (K : Value → World → Prop) (h : C109 p0 w K) : Ret Tryz.prog 109 #[.string p0] w K := by
  rw [← e109] at h
  exact vcFunc_sound (by kernel_rfl) Tryz.func109 h

/-- handfast/read.begin -/
def C63 (p0 : ByteArray) (w : World) (K : Value → World → Prop) : Prop :=
  CallK Tryz.prog 105 #[.string p0] w (.v (.one (.int .i64))) (fun (x1 : Int) w2 => NewK (.cells #[.slice none 0 0, .int .i64 (IntKind.i64.wrap (x1 + 1)), .int .i64 0, .int .i64 0] 145) w2 (fun g3 w4 => ifB (decide ((p0.size : Int) > 1000))
  (StK ((⟨g3, 0, none⟩ : Addr).add 3) (.int .i64 5) w4 (fun w5 => K (.pointer (some (⟨g3, 0, none⟩ : Addr))) w5))
  (CallK Tryz.prog 106 #[.string p0] w4 (.tup [.one .slc, .one (.int .i64)]) (fun (x6 : (Option Addr × Nat × Nat) × Int × Unit) w7 => ifB (decide (x6.2.1 > 0))
  (StK ((⟨g3, 0, none⟩ : Addr).add 3) (.int .i64 2) w7 (fun w8 => StK ((⟨g3, 0, none⟩ : Addr).add 2) (.int .i64 x6.2.1) w8 (fun w9 => StK ((⟨g3, 0, none⟩ : Addr).add 0) (.slice x6.1.1 x6.1.2.1 x6.1.2.2) w9 (fun w10 => K (.pointer (some (⟨g3, 0, none⟩ : Addr))) w10))))
  (StK ((⟨g3, 0, none⟩ : Addr).add 0) (.slice x6.1.1 x6.1.2.1 x6.1.2.2) w7 (fun w11 => K (.pointer (some (⟨g3, 0, none⟩ : Addr))) w11))))))
def pl63 : Plan := .auto
theorem e63 (p0 : ByteArray) (w : World) (K : Value → World → Prop) : vcFunc Tryz.prog Tryz.f63 pl63 [.string p0] w K = C63 p0 w K := by kernel_rfl
theorem c63 (p0 : ByteArray) (w : World) (K : Value → World → Prop) (h : C63 p0 w K) : Ret Tryz.prog 63 #[.string p0] w K := by
  rw [← e63] at h
  exact vcFunc_sound (by kernel_rfl) Tryz.func63 h

/-- handfast/read.Term -/
def C24 (p0 : ByteArray) (w : World) (K : Value → World → Prop) : Prop :=
  CallK Tryz.prog 63 #[.string p0] w (.v (.one .ptr)) (fun (x1 : Option Addr) w2 => CallK Tryz.prog 64 #[.pointer x1, .int .i64 0] w2 (.v (.one .raw)) (fun (x3 : Value) w4 => CallK Tryz.prog 65 #[.pointer x1] w4 (.tup []) (fun (x5 : Unit) w6 => optA x1 (fun a7 => LdK (.int .i64) (a7.add 3) w6 (fun (x8 : Int) => ifB (x8 == 0)
  (CallK Tryz.prog 66 #[x3] w6 (.v (.one (.int .i64))) (fun (x9 : Int) w10 => optA x1 (fun a11 => StK (a11.add 3) (.int .i64 x9) w10 (fun w12 => optA x1 (fun a13 => LdK (.int .i64) (a13.add 3) w12 (fun (x14 : Int) => ifB (x14 != 0)
  (DrewK w12 (fun w15 => optA x1 (fun a16 => LdK (.int .i64) (a16.add 2) w15 (fun (x17 : Int) => optA x1 (fun a18 => LdK (.int .i64) (a18.add 3) w15 (fun (x19 : Int) => K (.tuple #[.nilIface, .int .i64 x17, .int .i64 x19]) w15))))))
  (K (.tuple #[x3, .int .i64 0, .int .i64 0]) w12)))))))
  (optA x1 (fun a20 => LdK (.int .i64) (a20.add 3) w6 (fun (x21 : Int) => ifB (x21 != 0)
  (DrewK w6 (fun w22 => optA x1 (fun a23 => LdK (.int .i64) (a23.add 2) w22 (fun (x24 : Int) => optA x1 (fun a25 => LdK (.int .i64) (a25.add 3) w22 (fun (x26 : Int) => K (.tuple #[.nilIface, .int .i64 x24, .int .i64 x26]) w22))))))
  (K (.tuple #[x3, .int .i64 0, .int .i64 0]) w6)))))))))
def pl24 : Plan := (.seq .auto (.seq .auto (.seq .auto (.seq .auto (.seq .auto (.seq (.seq .auto (.cond (.seq .still .auto) .auto)) .auto))))))
theorem e24 (p0 : ByteArray) (w : World) (K : Value → World → Prop) : vcFunc Tryz.prog Tryz.f24 pl24 [.string p0] w K = C24 p0 w K := by kernel_rfl
theorem c24 (p0 : ByteArray) (w : World) (K : Value → World → Prop) (h : C24 p0 w K) : Ret Tryz.prog 24 #[.string p0] w K := by
  rw [← e24] at h
  exact vcFunc_sound (by kernel_rfl) Tryz.func24 h

/-- handfast/read.Obs -/
def C28 (p0 : ByteArray) (w : World) (K : Value → World → Prop) : Prop :=
  CallK Tryz.prog 63 #[.string p0] w (.v (.one .ptr)) (fun (x1 : Option Addr) w2 => CallK Tryz.prog 72 #[.pointer x1, .int .i64 0] w2 (.v (.one .raw)) (fun (x3 : Value) w4 => CallK Tryz.prog 65 #[.pointer x1] w4 (.tup []) (fun (x5 : Unit) w6 => optA x1 (fun a7 => LdK (.int .i64) (a7.add 3) w6 (fun (x8 : Int) => ifB (x8 == 0)
  (CallK Tryz.prog 73 #[x3] w6 (.v (.one (.int .i64))) (fun (x9 : Int) w10 => optA x1 (fun a11 => StK (a11.add 3) (.int .i64 x9) w10 (fun w12 => optA x1 (fun a13 => LdK (.int .i64) (a13.add 3) w12 (fun (x14 : Int) => ifB (x14 != 0)
  (DrewK w12 (fun w15 => optA x1 (fun a16 => LdK (.int .i64) (a16.add 2) w15 (fun (x17 : Int) => optA x1 (fun a18 => LdK (.int .i64) (a18.add 3) w15 (fun (x19 : Int) => K (.tuple #[.nilIface, .int .i64 x17, .int .i64 x19]) w15))))))
  (K (.tuple #[x3, .int .i64 0, .int .i64 0]) w12)))))))
  (optA x1 (fun a20 => LdK (.int .i64) (a20.add 3) w6 (fun (x21 : Int) => ifB (x21 != 0)
  (DrewK w6 (fun w22 => optA x1 (fun a23 => LdK (.int .i64) (a23.add 2) w22 (fun (x24 : Int) => optA x1 (fun a25 => LdK (.int .i64) (a25.add 3) w22 (fun (x26 : Int) => K (.tuple #[.nilIface, .int .i64 x24, .int .i64 x26]) w22))))))
  (K (.tuple #[x3, .int .i64 0, .int .i64 0]) w6)))))))))
def pl28 : Plan := (.seq .auto (.seq .auto (.seq .auto (.seq .auto (.seq .auto (.seq (.seq .auto (.cond (.seq .still .auto) .auto)) .auto))))))
theorem e28 (p0 : ByteArray) (w : World) (K : Value → World → Prop) : vcFunc Tryz.prog Tryz.f28 pl28 [.string p0] w K = C28 p0 w K := by kernel_rfl
theorem c28 (p0 : ByteArray) (w : World) (K : Value → World → Prop) (h : C28 p0 w K) : Ret Tryz.prog 28 #[.string p0] w K := by
  rw [← e28] at h
  exact vcFunc_sound (by kernel_rfl) Tryz.func28 h

end Go.Proofs.YtlhbfdakceipkaaGreatDoor

/-! ### ReadSpec -/
set_option linter.unusedVariables false
set_option maxRecDepth 100000
namespace Go.Proofs.YtlhbfdakceipkaaGreatDoor
open Vc

/-! ### Plain -/
theorem sgF_cnt : ∀ (R : List Int) (acc : List SignV) (at_ : Int) (run : Bool), (sgF acc at_ run R).1.length ≤ acc.length + 1 + R.length
  | [], acc, at_, run => by show acc.length ≤ _; simp only [List.length_nil]; omega
  | r :: R, acc, at_, run => by
    have h1 := sgF_cnt R (addLast acc (enc r)) (at_ + 1) true
    have h2 := sgF_cnt R (acc ++ [(enc r, at_ + 1)]) (at_ + 1) (kd r == 97)
    have h3 := sgF_cnt R acc (at_ + 1) false
    have e1 : (addLast acc (enc r)).length ≤ acc.length + 1 := by unfold addLast; simp
    simp only [List.length_append, List.length_cons, List.length_nil] at h2 ⊢
    unfold sgF
    split
    · simp
    split
    · omega
    split
    · omega
    · omega
theorem nodesO_toks (o : Ob) : nodesO o ≤ (toksO o).length := by
  induction o <;> simp_all [nodesO, toksO] <;> omega
theorem nodesT_toks (t : Tm) : nodesT t ≤ (toksT t).length := by
  induction t <;> simp_all [nodesT, toksT] <;> (try have := nodesO_toks) <;> first | omega | (rename_i o _ _; have := nodesO_toks o; omega) | (rename_i o _ _ _ _; have := nodesO_toks o; omega)
theorem mem_lenS {x : SignV} {l : List SignV} (h : x ∈ l) : x.1.length ≤ lenS (l.map Prod.fst) := by
  induction l with
  | nil => cases h
  | cons y l ih =>
    have e : lenS ((y :: l).map Prod.fst) = y.1.length + lenS (l.map Prod.fst) := by simp [lenS]
    rw [e]
    rcases List.mem_cons.1 h with rfl | h
    · omega
    · have := ih h; omega
theorem signs_short {bs : List UInt8} (h : bs.length ≤ 1000) : ∀ x ∈ (sgF [] 0 false (runesL bs)).1, x.1.length ≤ 10000 := fun x hx => by
  have h1 := mem_lenS hx
  have h2 := sgF_lenS (runesL bs) [] 0 false
  have h3 := txt_len (runesL bs)
  have h4 := runesL_len bs
  have h5 : lenS ((([] : List SignV)).map Prod.fst) = 0 := rfl
  omega
theorem reads_le (R : List Int) : reads R ≤ R.length := by unfold reads; exact (List.takeWhile_sublist _).length_le

theorem count_runes (s : ByteArray) : ∀ (fuel pos : Nat), s.size - pos ≤ fuel → Lib.runeCountFrom s fuel pos = (runesL (s.data.toList.drop pos)).length
  | 0, pos, h => by
    have : s.data.toList.drop pos = [] := List.drop_eq_nil_of_le (by rw [ba_len]; omega)
    rw [this]; rfl
  | f + 1, pos, h => by
    unfold Lib.runeCountFrom
    by_cases hp : pos < s.size
    · rw [if_pos hp]
      have hne : s.data.toList.drop pos ≠ [] := fun t => by
        have := congrArg List.length t
        rw [List.length_drop, ba_len, List.length_nil] at this; omega
      have hw := decL_width (s.data.toList.drop pos)
      rw [runesL_step _ hne, decL_drop, count_runes s f _ (by omega), List.length_cons, List.drop_drop]
      omega
    · rw [if_neg hp]
      have : s.data.toList.drop pos = [] := List.drop_eq_nil_of_le (by rw [ba_len]; omega)
      rw [this]; rfl

namespace Vc
theorem StsK.one {b i : Nat} {v : Value} {w : World} {K : World → Prop} {cs : Array Value} {T : TypeId} (hb : w.heap[b]? = some (.cells cs T (0, 0))) (hi : i < cs.size) (h1 : one1 v = true)
    (h : ∀ w1, w1.heap[b]? = some (.cells (cs.setIfInBounds i v) T (0, 0)) → Fr (only b) w w1 → w1.heap.size = w.heap.size → K w1) : StsK ((⟨b, 0, none⟩ : Addr).add i) [v] w K := by
  have e : ((⟨b, 0, none⟩ : Addr).add i).add 0 = ⟨b, i, none⟩ := by rw [addr_add, addr_add, Nat.zero_add, Nat.add_zero]
  refine ⟨⟨h1, by rw [e, cell_blk hb]; simp [hi], by rw [e]; exact frozen_blk hb, trivial⟩, ?_⟩
  show K (w.setCell (((⟨b, 0, none⟩ : Addr).add i).add 0) v)
  rw [e]
  exact h _ (heap_setCell_same hb) (setCell_fr _ _ _ _) (by simp [World.setCell])
end Vc

theorem str_eqb (x y : List UInt8) : ((str x).toList == (str y).toList) = (x == y) := by
  rw [str_beq]
  by_cases h : x = y <;> simp [h]
theorem ifB.str {y z : List UInt8} {A B : Prop} (h : y = z → A) (k : y ≠ z → B) : ifB ((str y).toList == (str z).toList) A B := by
  rw [str_beq]; exact ifB.dec h k

/-! ### The reader in memory -/
def rdObj (sl : Sl) (fin a e : Int) : Obj := .cells #[.slice sl.1 sl.2.1 sl.2.2, .int .i64 fin, .int .i64 a, .int .i64 e] 145 (0, 0)
/-- A reader in block b; it and its signs lie below m. -/
def IsRd (w : World) (m b : Nat) (fin : Int) (s : RS) : Prop := ∃ sl : Sl, w.heap[b]? = some (rdObj sl fin s.at_ s.e) ∧ IsSg w sl s.l ∧ (¬ blkOf sl b ∧ b < m ∧ m ≤ w.heap.size ∧ ∀ k, blkOf sl k → k < m) ∧ ∀ x ∈ s.l, x.1.length ≤ 10000
theorem IsRd.lt {w : World} {m b : Nat} {fin : Int} {s : RS} (h : IsRd w m b fin s) : b < m ∧ m ≤ w.heap.size := by
  obtain ⟨sl, hb, _, ⟨_, h1, h2, _⟩, _⟩ := h; exact ⟨h1, h2⟩
theorem IsRd.keep {w w' : World} {m b : Nat} {fin : Int} {s : RS} (h : IsRd w m b fin s) {S : Nat → Prop} (f : Fr S w w') (hn : ∀ k, k < m → ¬ S k) : IsRd w' m b fin s := by
  obtain ⟨sl, hb, hs, ⟨h1, h2, h3, h4⟩, h5⟩ := h
  exact ⟨sl, f.keep hb (hn b h2), hs.keep f (fun k hk => hn k (h4 k hk)), ⟨h1, h2, Nat.le_trans h3 f.size, h4⟩, h5⟩
theorem IsRd.keep0 {w w' : World} {m b : Nat} {fin : Int} {s : RS} (h : IsRd w m b fin s) (f : Fr none1 w w') : IsRd w' m b fin s := h.keep f (fun _ _ t => t)

/-- The slice without its first sign. -/
theorem sg_tail {w : World} {v : Sl} {x : SignV} {l : List SignV} (h : IsSg w v (x :: l)) {K : Option Addr → Nat → Nat → Prop} (k : ∀ u : Sl, IsSg w u l → (∀ j, blkOf u j → blkOf v j) → K u.1 u.2.1 u.2.2) : SubK v.1 v.2.2 1 (v.2.1 : Int) (v.2.2 : Int) 2 K := by
  obtain ⟨hs, hl⟩ := h
  simp only [List.length_cons] at hl
  have e : signCells (x :: l) = [.string (str x.1), .int .i64 x.2] ++ signCells l := rfl
  rcases hs with ⟨rfl, hnil⟩ | ⟨g, off, cs, hv, hb, hle, hc, hn, he⟩
  · dsimp only at hl; omega
  · refine ⟨by omega, by omega, by omega, by omega, ?_⟩
    rw [hv]
    have hlen := signCells_len l
    have hlen2 := signCells_len (x :: l)
    simp only [List.length_cons] at hlen2
    by_cases h1 : (v.2.2 : Int) = 1
    · rw [if_pos h1]
      have : l = [] := List.eq_nil_of_length_eq_zero (by omega)
      subst this
      refine k (some ⟨g, off, none⟩, ((v.2.1 : Int) - 1).toNat, ((v.2.2 : Int) - 1).toNat) ⟨.inr ⟨g, off, cs, rfl, hb, by dsimp only; omega, by dsimp only; omega, ?_, fun i hi => ?_⟩, ?_⟩ (fun j hj => ?_)
      · dsimp only; rw [hlen, List.length_nil]; omega
      · rw [hlen, List.length_nil] at hi; omega
      · dsimp only; rw [List.length_nil]; omega
      · obtain ⟨a, ha, rfl⟩ := hj; injection ha with ha; subst ha; exact ⟨_, hv, rfl⟩
    · rw [if_neg h1]
      have ea : (some (⟨g, off, none⟩ : Addr)).map (·.add (Int.toNat 1 * 2)) = some ⟨g, off + 2, none⟩ := by
        show some ((⟨g, off, none⟩ : Addr).add (1 * 2)) = _
        rw [addr_add]
      rw [ea]
      refine k (some ⟨g, off + 2, none⟩, ((v.2.1 : Int) - 1).toNat, ((v.2.2 : Int) - 1).toNat) ⟨.inr ⟨g, off + 2, cs, rfl, hb, by dsimp only; omega, by dsimp only; omega, ?_, fun i hi => ?_⟩, ?_⟩ (fun j hj => ?_)
      · dsimp only; rw [hlen]; omega
      · rw [hlen] at hi
        have := he (i + 2) (by omega)
        rw [show off + 2 + i = off + (i + 2) by omega, this, e]
        rfl
      · dsimp only; omega
      · obtain ⟨a, ha, rfl⟩ := hj; injection ha with ha; subst ha; exact ⟨_, hv, rfl⟩

theorem rplace_spec {w : World} {m b : Nat} {fin : Int} {s : RS} (h : IsRd w m b fin s) : Ret Tryz.prog 155 #[.pointer (some ⟨b, 0, none⟩)] w fun r w' => r = .int .i64 (placeF fin s) ∧ w = w' := by
  refine c155 _ w _ ?_
  obtain ⟨sl, hb, hs, _⟩ := h
  have hl := hs.len
  refine LdK.fld hb (x := sl) rfl ?_
  unfold placeF
  cases hsl : s.l with
  | nil =>
    rw [hsl] at hl
    refine ifB.no (by rw [hl]; decide) (LdK.fld hb (x := fin) rfl ⟨rfl, rfl⟩)
  | cons x l =>
    rw [hsl] at hl hs
    simp only [List.length_cons] at hl
    refine ifB.yes (by omega) (LdK.fld hb (x := sl) rfl ?_)
    exact sg_ld hs (i := 0) (by omega) (by omega) (x := x) rfl fun a _ k2 _ => k2 _ ⟨rfl, rfl⟩

theorem rfail_spec {w : World} {m b : Nat} {fin : Int} {s : RS} (h : IsRd w m b fin s) (c : Int) : Ret Tryz.prog 115 #[.pointer (some ⟨b, 0, none⟩), .int .i64 c] w fun r w' => r = .tuple #[] ∧ IsRd w' m b fin (failF fin c s) ∧ Fr (only b) w w' := by
  refine c115 _ c w _ ?_
  obtain ⟨sl, hb, hs, hbl, hsz⟩ := id h
  refine LdK.fld hb (x := s.e) rfl ?_
  unfold failF
  refine ifB.eq (fun he => ?_) (fun he => ?_)
  · rw [if_pos he]
    refine CallK.of (rplace_spec h) ?_
    rintro _ _ ⟨rfl, rfl⟩
    refine ⟨_, rfl, ?_⟩
    refine StK.fld hb (by show 0 + 3 < 4; omega) rfl fun w1 hb1 f1 _ => ?_
    refine StK.fld hb1 (by show 0 + 2 < 4; omega) rfl fun w2 hb2 f2 _ => ?_
    have f := f1.trans f2
    exact ⟨rfl, ⟨sl, hb2, hs.keep f (fun k hk t => hbl.1 (by have : k = b := t; rw [← this]; exact hk)), ⟨hbl.1, hbl.2.1, Nat.le_trans hbl.2.2.1 f.size, hbl.2.2.2⟩, hsz⟩, f⟩
  · rw [if_neg he]
    exact ⟨rfl, h, Fr.refl _ _⟩

theorem rtake_spec {w : World} {m b : Nat} {fin : Int} {s : RS} (h : IsRd w m b fin s) (v : Value) (right : List UInt8 → Bool)
    (hr : ∀ x : List UInt8, x.length ≤ 10000 → ∀ K : Bool → World → Prop, (∀ w1, Fr none1 w w1 → K (right x) w1) → callV Tryz.prog v [.string (str x)] (.v (.one .bool)) w K) :
    Ret Tryz.prog 108 #[.pointer (some ⟨b, 0, none⟩), v] w fun r w' => r = .string (str (takeF fin right s).1) ∧ IsRd w' m b fin (takeF fin right s).2 ∧ Fr (only b) w w' := by
  refine c108 _ v w _ ?_
  obtain ⟨sl, hb, hs, hbl, hsz⟩ := id h
  have hl := hs.len
  rcases s with ⟨l, a, e⟩
  dsimp only at hb hs hsz hl
  refine JoinK.of (fun c w' => c.1 = (decide (e = 0) && match l with | [] => true | x :: _ => !right x.1) ∧ Fr none1 w w') ?_ ?_
  · refine LdK.fld hb (x := e) rfl ?_
    refine ifB.eq (fun he => LdK.fld hb (x := sl) rfl ?_) (fun he => ⟨by simp [he], Fr.refl _ _⟩)
    cases l with
    | nil => exact ifB.t (by rw [hl]; rfl) ⟨by simp [he], Fr.refl _ _⟩
    | cons x l =>
      simp only [List.length_cons] at hl
      refine ifB.f (by rw [hl]; exact beq_eq_false_iff_ne.2 (by omega)) (LdK.fld hb (x := sl) rfl ?_)
      refine sg_ld hs (i := 0) (by omega) (by omega) (x := x) rfl fun q k1 _ _ => k1 _ ?_
      exact hr x.1 (hsz x (by simp)) _ fun w1 f1 => ⟨by simp [he], f1⟩
  rintro _ ⟨c, _⟩ w3 ⟨hc, f3⟩
  dsimp only at hc ⊢
  have h3 := h.keep0 f3
  refine ifB.by (fun e1 => ?_) (fun e1 => ?_)
  · rw [e1] at hc
    have hc2 := Bool.and_eq_true_iff.1 hc.symm
    have he : e = 0 := of_decide_eq_true hc2.1
    subst he
    refine CallK.of (rfail_spec h3 2) ?_
    rintro _ w4 ⟨rfl, h4, f4⟩
    refine ⟨(), rfl, ?_⟩
    have ht : takeF fin right ⟨l, a, 0⟩ = ([], failF fin 2 ⟨l, a, 0⟩) := by
      cases l with
      | nil => exact takeF_nil
      | cons x l => exact takeF_miss (by simpa using hc2.2)
    rw [ht]
    obtain ⟨sl4, hb4, h4'⟩ := id h4
    refine LdK.fld hb4 (x := 2) rfl (ifB.t rfl ?_)
    exact ⟨rfl, h4, Fr.of0 f3 f4⟩
  · obtain ⟨sl3, hb3, hs3, hbl3, _⟩ := id h3
    refine LdK.fld hb3 (x := e) rfl ?_
    refine ifB.ne (fun he => ?_) (fun he => ?_)
    · rw [takeF_err (s := ⟨l, a, e⟩) he]
      exact ⟨rfl, h3, Fr.of0 f3 (Fr.refl _ _)⟩
    · subst he
      rw [e1] at hc
      cases l with
      | nil => simp at hc
      | cons x l =>
        have hx : right x.1 = true := by simpa using hc
        rw [takeF_hit hx]
        have hl3 := hs3.len
        simp only [List.length_cons] at hl3
        refine LdK.fld hb3 (x := sl3) rfl ?_
        refine sg_ld hs3 (i := 0) (by omega) (by omega) (x := x) rfl fun q k1 _ _ => k1 _ ?_
        refine LdK.fld hb3 (x := sl3) rfl ?_
        refine sg_tail hs3 fun u hu hub => ?_
        refine StK.fld hb3 (by show 0 + 0 < 4; omega) rfl fun w4 hb4 f4 _ => ?_
        have hub' : ¬ blkOf u b := fun t => hbl3.1 (hub b t)
        exact ⟨rfl, ⟨u, hb4, hu.keep f4 (fun k hk t => hub' (by have : k = b := t; rw [← this]; exact hk)), ⟨hub', hbl3.2.1, Nat.le_trans hbl3.2.2.1 f4.size, fun k hk => hbl3.2.2.2 k (hub k hk)⟩, fun y hy => hsz y (by simp [hy])⟩, Fr.of0 f3 f4⟩

theorem rmust_spec {w : World} {m b : Nat} {fin : Int} {s : RS} (h : IsRd w m b fin s) (x : List UInt8) : Ret Tryz.prog 110 #[.pointer (some ⟨b, 0, none⟩), .string (str x)] w fun r w' => r = .tuple #[] ∧ IsRd w' m b fin (mustF fin x s) ∧ Fr (only b) w w' := by
  refine c110 _ (str x) w _ ?_
  refine NewK.of fun g w1 hg hb1 f1 _ => ?_
  refine CallK.of (rtake_spec (h.keep0 f1) _ (fun y => decide (y = x)) fun y _ K hK => ?_) ?_
  · have hf : Ret Tryz.prog 153 #[.string (str y), .pointer (some ⟨g, 0, none⟩)] w1 fun r w' => r = .bool (decide (y = x)) ∧ w1 = w' := by
      refine c153 (str y) _ w1 _ ?_
      refine LdK.of hb1 (x := str x) rfl ?_
      rw [str_beq]
      exact ⟨rfl, rfl⟩
    refine callV_of (by kernel_rfl) Tryz.func153 (by kernel_rfl) (hf.mono ?_)
    rintro _ _ ⟨rfl, rfl⟩
    exact ⟨_, rfl, hK _ (Fr.refl _ _)⟩
  · rintro _ w2 ⟨rfl, h2, f2⟩
    exact ⟨_, rfl, rfl, h2, Fr.of0 f1 f2⟩

theorem rname_spec' {w : World} {m b : Nat} {fin : Int} {s : RS} (h : IsRd w m b fin s) : Ret Tryz.prog 111 #[.pointer (some ⟨b, 0, none⟩)] w fun r w' => r = .string (str (takeF fin nameL s).1) ∧ IsRd w' m b fin (takeF fin nameL s).2 ∧ Fr (only b) w w' := by
  refine c111 _ w _ ?_
  refine CallK.of (rtake_spec h _ nameL fun y _ K hK => ?_) ?_
  · refine callV_of (by kernel_rfl) Tryz.func145 (by kernel_rfl) ((name_spec y w).mono ?_)
    rintro _ w1 ⟨rfl, f1⟩
    exact ⟨_, rfl, hK w1 f1⟩
  · rintro _ w2 ⟨rfl, h2, f2⟩
    exact ⟨_, rfl, rfl, h2, f2⟩

theorem rword_spec (y : List UInt8) (hl : y.length ≤ 10000) (w : World) : Ret Tryz.prog 131 #[.string (str y)] w fun r w' => r = .bool (wordF' y) ∧ Fr none1 w w' := by
  refine c131 (str y) w _ ?_
  refine CallK.of (number_spec y (by omega) w) ?_
  rintro _ w1 ⟨rfl, f1⟩
  refine ⟨(_, _, ()), rfl, ?_⟩
  unfold wordF'
  refine ifB.by (fun e => ?_) (fun e => ?_)
  · have e : (numF y).2 = true := e
    rw [e]; exact ⟨rfl, f1⟩
  have e : (numF y).2 = false := e
  rw [e, Bool.false_or]
  refine ifB.str (z := [102, 105, 120]) (fun e => ⟨by rw [e]; rfl, f1⟩) (fun e => ?_)
  rw [beq_eq_false_iff_ne.2 e, Bool.false_or]
  refine ifB.str (z := [97, 100, 100]) (fun e => ⟨by rw [e]; rfl, f1⟩) (fun e => ?_)
  rw [beq_eq_false_iff_ne.2 e, Bool.false_or]
  refine ifB.str (z := [110, 101, 103]) (fun e => ⟨by rw [e]; rfl, f1⟩) (fun e => ?_)
  rw [beq_eq_false_iff_ne.2 e, Bool.false_or]
  refine ifB.str (z := [109, 117, 108]) (fun e => ⟨by rw [e]; rfl, f1⟩) (fun e => ?_)
  rw [beq_eq_false_iff_ne.2 e, Bool.false_or, ← str_eqb y [109, 97, 120]]
  exact ⟨rfl, f1⟩

theorem rbegins_spec (y : List UInt8) (w : World) : Ret Tryz.prog 109 #[.string (str y)] w fun r w' => r = .bool (beginsF y) ∧ w = w' := by
  refine c109 (str y) w _ ?_
  unfold beginsF
  refine ifB.str (z := [122, 101, 114, 111]) (fun e => ifB.str (z := [122, 101, 114, 111]) (fun _ => ⟨by rw [e]; rfl, rfl⟩) (fun k => absurd e k)) (fun e => ?_)
  rw [beq_eq_false_iff_ne.2 e, Bool.false_or]
  refine ifB.str (z := [111, 110, 101]) (fun e => ifB.str (z := [111, 110, 101]) (fun _ => ⟨by rw [e]; rfl, rfl⟩) (fun k => absurd e k)) (fun e => ?_)
  rw [beq_eq_false_iff_ne.2 e, Bool.false_or]
  refine ifB.str (z := [103, 105, 118, 101]) (fun e => ifB.str (z := [103, 105, 118, 101]) (fun _ => ⟨by rw [e]; rfl, rfl⟩) (fun k => absurd e k)) (fun e => ?_)
  rw [beq_eq_false_iff_ne.2 e, Bool.false_or]
  refine ifB.str (z := [97, 110, 100]) (fun e => ifB.str (z := [97, 110, 100]) (fun _ => ⟨by rw [e]; rfl, rfl⟩) (fun k => absurd e k)) (fun e => ?_)
  rw [beq_eq_false_iff_ne.2 e, Bool.false_or]
  refine ifB.str (z := [111, 114]) (fun e => ifB.str (z := [111, 114]) (fun _ => ⟨by rw [e]; rfl, rfl⟩) (fun k => absurd e k)) (fun e => ?_)
  rw [beq_eq_false_iff_ne.2 e, Bool.false_or]
  refine ifB.str (z := [115, 99, 97, 108, 101]) (fun e => ifB.str (z := [115, 99, 97, 108, 101]) (fun _ => ⟨by rw [e]; rfl, rfl⟩) (fun k => absurd e k)) (fun e => ?_)
  rw [beq_eq_false_iff_ne.2 e, Bool.false_or]
  refine ifB.str (z := [119, 104, 101, 110]) (fun e => ifB.str (z := [119, 104, 101, 110]) (fun _ => ⟨by rw [e]; rfl, rfl⟩) (fun k => absurd e k)) (fun e => ?_)
  rw [beq_eq_false_iff_ne.2 e, Bool.false_or]
  refine ifB.str (z := [105, 102]) (fun e => ⟨by rw [e]; rfl, rfl⟩) (fun e => ?_)
  rw [beq_eq_false_iff_ne.2 e]
  exact ⟨rfl, rfl⟩

theorem rday1_spec (y : List UInt8) (hl : y.length ≤ 10000) (w : World) : Ret Tryz.prog 154 #[.string (str y)] w fun r w' => r = .bool (dayF y) ∧ Fr none1 w w' := by
  refine c154 (str y) w _ ?_
  refine CallK.of (number_spec y (by omega) w) ?_
  rintro _ w1 ⟨rfl, f1⟩
  refine ⟨(_, _, ()), rfl, ?_⟩
  unfold dayF
  refine ifB.by (fun e => ?_) (fun e => ?_)
  · have e : (numF y).2 = true := e
    rw [e, Bool.true_and]
    refine ifB.dec (fun h => ?_) (fun h => ?_)
    · have h : 0 ≤ (numF y).1 := h
      rw [decide_eq_true h, Bool.true_and]; exact ⟨rfl, f1⟩
    · have h : ¬ 0 ≤ (numF y).1 := h
      rw [decide_eq_false h]; exact ⟨rfl, f1⟩
  · have e : (numF y).2 = false := e
    rw [e]; exact ⟨rfl, f1⟩

theorem rday_spec {w : World} {m b : Nat} {fin : Int} {s : RS} (h : IsRd w m b fin s) : Ret Tryz.prog 114 #[.pointer (some ⟨b, 0, none⟩)] w fun r w' => r = .int .i64 (numF (takeF fin dayF s).1).1 ∧ IsRd w' m b fin (takeF fin dayF s).2 ∧ Fr (only b) w w' := by
  refine c114 _ w _ ?_
  refine CallK.of (rtake_spec h _ dayF fun y hy K hK => ?_) ?_
  · refine callV_of (by kernel_rfl) Tryz.func154 (by kernel_rfl) ((rday1_spec y hy w).mono ?_)
    rintro _ w1 ⟨rfl, f1⟩
    exact ⟨_, rfl, hK w1 f1⟩
  · rintro _ w2 ⟨rfl, h2, f2⟩
    refine ⟨_, rfl, ?_⟩
    have hsz : (takeF fin dayF s).1.length ≤ 100000 := by
      obtain ⟨_, _, _, _, hz⟩ := h
      unfold takeF
      split
      · split
        · simp
        · rename_i x l hl
          split
          · have := hz x (by rw [hl]; simp); dsimp only; omega
          · simp
      · simp
    refine CallK.of (number_spec _ hsz w2) ?_
    rintro _ w3 ⟨rfl, f3⟩
    exact ⟨(_, _, ()), rfl, rfl, h2.keep0 f3, f2.then0 f3⟩

theorem take_short {w : World} {m b : Nat} {fin : Int} {s : RS} (h : IsRd w m b fin s) (right : List UInt8 → Bool) : (takeF fin right s).1.length ≤ 10000 := by
  obtain ⟨_, _, _, _, hz⟩ := h
  unfold takeF
  split
  · split
    · simp
    · rename_i x l hl
      split
      · have := hz x (by rw [hl]; simp); dsimp only; omega
      · simp
  · simp

/-- How deep it is: n more are not too deep. -/
theorem rdeep_spec {w : World} {m b : Nat} {fin : Int} {s : RS} (h : IsRd w m b fin s) (n : Nat) (hn : n ≤ 12) : Ret Tryz.prog 107 #[.pointer (some ⟨b, 0, none⟩), .int .i64 (12 - (n : Int))] w fun r w' =>
    r = .bool (decide (n = 0) || decide (s.e ≠ 0)) ∧ IsRd w' m b fin (if n = 0 then failF fin 5 s else s) ∧ Fr (only b) w w' := by
  refine c107 _ _ w _ ?_
  refine ifB.dec (fun h0 => ?_) (fun h0 => ?_)
  · have : n = 0 := by omega
    subst this
    refine CallK.of (rfail_spec h 5) ?_
    rintro _ w1 ⟨rfl, h1, f1⟩
    refine ⟨(), rfl, ?_⟩
    obtain ⟨sl, hb, _⟩ := id h1
    refine LdK.fld hb (x := (failF fin 5 s).e) rfl ?_
    refine ⟨?_, h1, f1⟩
    have : (failF fin 5 s).e ≠ 0 := by
      unfold failF
      split
      · show (5 : Int) ≠ 0; decide
      · assumption
    rw [show ((failF fin 5 s).e != 0) = true from by simp [this]]; rfl
  · have hn0 : n ≠ 0 := by omega
    obtain ⟨sl, hb, _⟩ := id h
    refine LdK.fld hb (x := s.e) rfl ?_
    refine ⟨?_, by rw [if_neg hn0]; exact h, Fr.refl _ _⟩
    rw [decide_eq_false hn0, Bool.false_or]
    congr 1
    by_cases he : s.e = 0 <;> simp [he]

/-- A struct of one part, behind a bracket: it was put, the bracket taken, the struct read. -/
theorem wrap_ok {w : World} {m b : Nat} {fin : Int} {s : RS} (h : IsRd w m b fin s) (x : List UInt8) {T : TypeId} {zs : List Value} {cks : List Ck} (c : Cs cks) (hl : zs.length = (Cs.vals cks c).length) (h1 : (Cs.vals cks c).all one1 = true) {K : Cs cks → World → Prop}
    (k : ∀ w', IsRd w' m b fin (mustF fin x s) → Fr (only b) w w' → K c w') :
    NewK (.cells zs.toArray T) w fun g w1 => StsK ⟨g, 0, none⟩ (Cs.vals cks c) w1 fun w2 => CallK Tryz.prog 110 #[.pointer (some ⟨b, 0, none⟩), .string (str x)] w2 (.tup []) fun (_ : Unit) w3 => LdsK cks ⟨g, 0, none⟩ w3 fun y => K y w3 := by
  refine ns_ok hl h1 fun g w4 hg hb f => ?_
  have hlt := h.lt
  refine CallK.of (rmust_spec (h.keep0 f) x) ?_
  rintro _ w5 ⟨rfl, h5, f5⟩
  refine ⟨(), rfl, ?_⟩
  refine LdsK.blk (f5.keep hb (fun t => by have : g = b := t; omega)) ?_
  exact k w5 h5 (Fr.of0 f f5)

theorem sub1 (n : Nat) (hn : n + 1 ≤ 12) : IntKind.i64.wrap (12 - ((n + 1 : Nat) : Int) + 1) = 12 - (n : Int) := by
  rw [wI (by omega) (by omega)]; omega

theorem rnumber_spec : ∀ (n : Nat) (hn : n ≤ 12) {w : World} {m b : Nat} {fin : Int} {s : RS} (h : IsRd w m b fin s), Ret Tryz.prog 72 #[.pointer (some ⟨b, 0, none⟩), .int .i64 (12 - (n : Int))] w fun r w' => r = (numR fin n s).1.v ∧ IsRd w' m b fin (numR fin n s).2 ∧ Fr (only b) w w'
  | 0, hn, w, m, b, fin, s, h => by
    refine c72 _ _ w _ ?_
    refine CallK.of (rdeep_spec h 0 hn) ?_
    rintro _ w1 ⟨rfl, h1, f1⟩
    exact ⟨_, rfl, ifB.t rfl ⟨rfl, h1, f1⟩⟩
  | n + 1, hn, w, m, b, fin, s, h => by
    have ih := fun {w : World} {s : RS} (h : IsRd w m b fin s) => rnumber_spec n (by omega) h
    refine c72 _ _ w _ ?_
    refine CallK.of (rdeep_spec h (n + 1) hn) ?_
    rintro _ w1 ⟨rfl, h1, f1⟩
    rw [if_neg (by omega)] at h1
    refine ⟨_, rfl, ?_⟩
    dsimp only
    rw [sub1 n hn]
    unfold numR
    by_cases he : s.e = 0
    case neg =>
      rw [if_pos he]
      exact ifB.t (by simp [he]) ⟨rfl, h1, f1⟩
    rw [if_neg (by simpa using he)]
    refine ifB.f (by simp [he]) ?_
    refine CallK.of (rtake_spec h1 _ wordF' fun y hy K hK => ?_) ?_
    · refine callV_of (by kernel_rfl) Tryz.func131 (by kernel_rfl) ((rword_spec y hy w1).mono ?_)
      rintro _ w2 ⟨rfl, f2⟩
      exact ⟨_, rfl, hK w2 f2⟩
    rintro _ w2 ⟨rfl, h2, f2⟩
    have hsh := take_short h1 wordF'
    refine ⟨_, rfl, ?_⟩
    generalize (takeF fin wordF' s).1 = x at hsh ⊢
    generalize (takeF fin wordF' s).2 = s2 at h2 ⊢
    have f12 := f1.trans f2
    have pair : ∀ {K : Value × Value × Unit → World → Prop}, (∀ w', IsRd w' m b fin (pairF fin (numR fin n) s2).2.2 → Fr (only b) w w' → K ((pairF fin (numR fin n) s2).1.v, (pairF fin (numR fin n) s2).2.1.v, ()) w') →
        CallK Tryz.prog 132 #[.pointer (some ⟨b, 0, none⟩), .int .i64 (12 - (n : Int))] w2 (.tup [.one .raw, .one .raw]) K := fun {K} hK => by
      have hp : Ret Tryz.prog 132 #[.pointer (some ⟨b, 0, none⟩), .int .i64 (12 - (n : Int))] w2 fun r w' => r = .tuple #[(pairF fin (numR fin n) s2).1.v, (pairF fin (numR fin n) s2).2.1.v] ∧ IsRd w' m b fin (pairF fin (numR fin n) s2).2.2 ∧ Fr (only b) w2 w' := by
        refine c132 _ _ w2 _ ?_
        refine CallK.of (rmust_spec h2 [40]) ?_
        rintro _ w3 ⟨rfl, h3, f3⟩
        refine ⟨(), rfl, ?_⟩
        refine CallK.of (ih h3) ?_
        rintro _ w4 ⟨rfl, h4, f4⟩
        refine ⟨_, rfl, ?_⟩
        refine CallK.of (rmust_spec h4 [44]) ?_
        rintro _ w5 ⟨rfl, h5, f5⟩
        refine ⟨(), rfl, ?_⟩
        refine CallK.of (ih h5) ?_
        rintro _ w6 ⟨rfl, h6, f6⟩
        refine ⟨_, rfl, ?_⟩
        refine CallK.of (rmust_spec h6 [41]) ?_
        rintro _ w7 ⟨rfl, h7, f7⟩
        exact ⟨(), rfl, rfl, h7, (((f3.trans f4).trans f5).trans f6).trans f7⟩
      refine CallK.of hp ?_
      rintro _ w3 ⟨rfl, h3, f3⟩
      exact ⟨(_, _, ()), rfl, hK w3 h3 (f12.trans f3)⟩
    refine ifB.str (z := []) (fun e => ?_) (fun e => ?_)
    · rw [if_pos e]; exact ⟨rfl, h2, f12⟩
    rw [if_neg e]
    unfold numK
    refine ifB.str (z := [102, 105, 120]) (fun e => ?_) (fun e => ?_)
    · rw [if_pos e]
      refine CallK.of (rmust_spec h2 [40]) ?_
      rintro _ w3 ⟨rfl, h3, f3⟩
      refine ⟨(), rfl, ?_⟩
      refine CallK.of (rname_spec' h3) ?_
      rintro _ w4 ⟨rfl, h4, f4⟩
      refine ⟨_, rfl, ?_⟩
      exact wrap_ok h4 [41] (zs := [.string (⟨#[]⟩ : ByteArray)]) (cks := [.str]) (str (takeF fin nameL (mustF fin [40] s2)).1, ()) rfl rfl fun w5 h5 f5 => ⟨rfl, h5, ((f12.trans f3).trans f4).trans f5⟩
    rw [if_neg e]
    refine ifB.str (z := [110, 101, 103]) (fun e => ?_) (fun e => ?_)
    · rw [if_pos e]
      refine CallK.of (rmust_spec h2 [40]) ?_
      rintro _ w3 ⟨rfl, h3, f3⟩
      refine ⟨(), rfl, ?_⟩
      refine CallK.of (ih h3) ?_
      rintro _ w4 ⟨rfl, h4, f4⟩
      refine ⟨_, rfl, ⟨Ob.v_cells _, ?_⟩⟩
      exact wrap_ok h4 [41] (zs := [.nilIface]) (cks := [.raw]) ((numR fin n (mustF fin [40] s2)).1.v, ()) rfl (by simp [Cs.vals, Ck.val, Ob.v_one]) fun w5 h5 f5 => ⟨rfl, h5, ((f12.trans f3).trans f4).trans f5⟩
    rw [if_neg e]
    refine ifB.str (z := [97, 100, 100]) (fun e => ?_) (fun e => ?_)
    · rw [if_pos e]
      exact pair fun w3 h3 f3 => ⟨Ob.v_cells _, ⟨Ob.v_cells _, rfl, h3, f3⟩⟩
    rw [if_neg e]
    refine ifB.str (z := [109, 117, 108]) (fun e => ?_) (fun e => ?_)
    · rw [if_pos e]
      exact pair fun w3 h3 f3 => ⟨Ob.v_cells _, ⟨Ob.v_cells _, rfl, h3, f3⟩⟩
    rw [if_neg e]
    refine ifB.str (z := [109, 97, 120]) (fun e => ?_) (fun e => ?_)
    · rw [if_pos e]
      exact pair fun w3 h3 f3 => ⟨Ob.v_cells _, ⟨Ob.v_cells _, rfl, h3, f3⟩⟩
    rw [if_neg e]
    refine CallK.of (number_spec x (by omega) w2) ?_
    rintro _ w3 ⟨rfl, f3⟩
    exact ⟨(_, _, ()), rfl, rfl, h2.keep0 f3, f12.then0 f3⟩

end Go.Proofs.YtlhbfdakceipkaaGreatDoor

/-! ### ReadSpec2 -/
set_option linter.unusedVariables false
set_option maxRecDepth 100000
namespace Go.Proofs.YtlhbfdakceipkaaGreatDoor
open Vc

theorem one1_nil : one1 .nilIface = true := rfl

theorem rone_of {n : Nat} (ih : ∀ {w : World} {m b : Nat} {fin : Int} {s : RS}, IsRd w m b fin s → Ret Tryz.prog 64 #[.pointer (some ⟨b, 0, none⟩), .int .i64 (12 - (n : Int))] w fun r w' => r = (conR fin n s).1.v ∧ IsRd w' m b fin (conR fin n s).2 ∧ Fr (only b) w w')
    {w : World} {m b : Nat} {fin : Int} {s : RS} (h : IsRd w m b fin s) : Ret Tryz.prog 112 #[.pointer (some ⟨b, 0, none⟩), .int .i64 (12 - (n : Int))] w fun r w' => r = (oneF fin (conR fin n) s).1.v ∧ IsRd w' m b fin (oneF fin (conR fin n) s).2 ∧ Fr (only b) w w' := by
  refine c112 _ _ w _ ?_
  refine CallK.of (ih h) ?_
  rintro _ w1 ⟨rfl, h1, f1⟩
  refine ⟨_, rfl, ?_⟩
  refine CallK.of (rmust_spec h1 [41]) ?_
  rintro _ w2 ⟨rfl, h2, f2⟩
  exact ⟨(), rfl, rfl, h2, f1.trans f2⟩
theorem rboth_of {n : Nat} (ih : ∀ {w : World} {m b : Nat} {fin : Int} {s : RS}, IsRd w m b fin s → Ret Tryz.prog 64 #[.pointer (some ⟨b, 0, none⟩), .int .i64 (12 - (n : Int))] w fun r w' => r = (conR fin n s).1.v ∧ IsRd w' m b fin (conR fin n s).2 ∧ Fr (only b) w w')
    {w : World} {m b : Nat} {fin : Int} {s : RS} (h : IsRd w m b fin s) : Ret Tryz.prog 113 #[.pointer (some ⟨b, 0, none⟩), .int .i64 (12 - (n : Int))] w fun r w' =>
      r = .tuple #[(bothF fin (conR fin n) s).1.v, (bothF fin (conR fin n) s).2.1.v] ∧ IsRd w' m b fin (bothF fin (conR fin n) s).2.2 ∧ Fr (only b) w w' := by
  refine c113 _ _ w _ ?_
  refine CallK.of (ih h) ?_
  rintro _ w1 ⟨rfl, h1, f1⟩
  refine ⟨_, rfl, ?_⟩
  refine CallK.of (rmust_spec h1 [44]) ?_
  rintro _ w2 ⟨rfl, h2, f2⟩
  refine ⟨(), rfl, ?_⟩
  refine CallK.of (ih h2) ?_
  rintro _ w3 ⟨rfl, h3, f3⟩
  refine ⟨_, rfl, ?_⟩
  refine CallK.of (rmust_spec h3 [41]) ?_
  rintro _ w4 ⟨rfl, h4, f4⟩
  exact ⟨(), rfl, rfl, h4, ((f1.trans f2).trans f3).trans f4⟩

theorem rcontract_spec : ∀ (n : Nat) (hn : n ≤ 12) {w : World} {m b : Nat} {fin : Int} {s : RS} (h : IsRd w m b fin s), Ret Tryz.prog 64 #[.pointer (some ⟨b, 0, none⟩), .int .i64 (12 - (n : Int))] w fun r w' => r = (conR fin n s).1.v ∧ IsRd w' m b fin (conR fin n s).2 ∧ Fr (only b) w w'
  | 0, hn, w, m, b, fin, s, h => by
    refine c64 _ _ w _ ?_
    refine CallK.of (rdeep_spec h 0 hn) ?_
    rintro _ w1 ⟨rfl, h1, f1⟩
    exact ⟨_, rfl, ifB.t rfl ⟨rfl, h1, f1⟩⟩
  | n + 1, hn, w, m, b, fin, s, h => by
    have ih := fun {w : World} {m b : Nat} {fin : Int} {s : RS} (h : IsRd w m b fin s) => rcontract_spec n (by omega) h
    refine c64 _ _ w _ ?_
    refine CallK.of (rdeep_spec h (n + 1) hn) ?_
    rintro _ w1 ⟨rfl, h1, f1⟩
    rw [if_neg (by omega)] at h1
    refine ⟨_, rfl, ?_⟩
    dsimp only
    rw [sub1 n hn]
    unfold conR
    by_cases he : s.e = 0
    case neg =>
      rw [if_pos he]
      exact ifB.t (by simp [he]) ⟨rfl, h1, f1⟩
    rw [if_neg (by simpa using he)]
    refine ifB.f (by simp [he]) ?_
    refine CallK.of (rtake_spec h1 _ beginsF fun y hy K hK => ?_) ?_
    · refine callV_of (by kernel_rfl) Tryz.func109 (by kernel_rfl) ((rbegins_spec y w1).mono ?_)
      rintro _ _ ⟨rfl, rfl⟩
      exact ⟨_, rfl, hK w1 (Fr.refl _ _)⟩
    rintro _ w2 ⟨rfl, h2, f2⟩
    refine ⟨_, rfl, ?_⟩
    generalize (takeF fin beginsF s).1 = x
    generalize (takeF fin beginsF s).2 = s1 at h2 ⊢
    have f12 := f1.trans f2
    refine ifB.str (z := []) (fun e => ?_) (fun e => ?_)
    · rw [if_pos e]; exact ⟨rfl, h2, f12⟩
    rw [if_neg e]
    refine ifB.str (z := [122, 101, 114, 111]) (fun e => ?_) (fun e => ?_)
    · rw [if_pos e]; exact ⟨rfl, h2, f12⟩
    rw [if_neg e]
    refine CallK.of (rmust_spec h2 [40]) ?_
    rintro _ w3 ⟨rfl, h3, f3⟩
    refine ⟨(), rfl, ?_⟩
    have f13 := f12.trans f3
    generalize mustF fin [40] s1 = s2 at h3 ⊢
    have hlt := h.lt
    unfold conK
    refine ifB.str (z := [111, 110, 101]) (fun e => ?_) (fun e => ?_)
    · rw [if_pos e]
      refine CallK.of (rname_spec' h3) ?_
      rintro _ w4 ⟨rfl, h4, f4⟩
      refine ⟨_, rfl, ?_⟩
      exact wrap_ok h4 [41] (zs := [.string (⟨#[]⟩ : ByteArray)]) (cks := [.str]) (str (takeF fin nameL s2).1, ()) rfl rfl fun w5 h5 f5 => ⟨rfl, h5, (f13.trans f4).trans f5⟩
    rw [if_neg e]
    refine ifB.str (z := [103, 105, 118, 101]) (fun e => ?_) (fun e => ?_)
    · rw [if_pos e]
      refine CallK.of (rone_of ih h3) ?_
      rintro _ w4 ⟨rfl, h4, f4⟩
      exact ⟨_, rfl, ⟨Tm.v_cells _, rfl, h4, f13.trans f4⟩⟩
    rw [if_neg e]
    refine ifB.str (z := [97, 110, 100]) (fun e => ?_) (fun e => ?_)
    · rw [if_pos e]
      refine CallK.of (rboth_of ih h3) ?_
      rintro _ w4 ⟨rfl, h4, f4⟩
      exact ⟨(_, _, ()), rfl, ⟨Tm.v_cells _, ⟨Tm.v_cells _, rfl, h4, f13.trans f4⟩⟩⟩
    rw [if_neg e]
    refine ifB.str (z := [111, 114]) (fun e => ?_) (fun e => ?_)
    · rw [if_pos e]
      refine CallK.of (rname_spec' h3) ?_
      rintro _ w4 ⟨rfl, h4, f4⟩
      refine ⟨_, rfl, ?_⟩
      generalize (takeF fin nameL s2).1 = y
      generalize (takeF fin nameL s2).2 = s3 at h4 ⊢
      refine ns_ok (zs := [.string (⟨#[]⟩ : ByteArray), .nilIface, .nilIface]) (vs := [.string (str y), .nilIface, .nilIface]) rfl rfl fun g w5 hg hb f5 => ?_
      have hgm : m ≤ g := by have := h4.lt; omega
      have hgb : g ≠ b := by have := h4.lt; omega
      refine CallK.of (rmust_spec (h4.keep0 f5) [44]) ?_
      rintro _ w6 ⟨rfl, h6, f6⟩
      refine ⟨(), rfl, ?_⟩
      refine CallK.of (rboth_of ih h6) ?_
      rintro _ w7 ⟨rfl, h7, f7⟩
      refine ⟨(_, _, ()), rfl, ⟨Tm.v_cells _, ?_⟩⟩
      have hb7 := f7.keep1 (f6.keep1 hb hgb) hgb
      refine StsK.one hb7 (by show 1 < 3; omega) (Tm.v_one _) fun w8 hb8 f8 _ => ⟨Tm.v_cells _, ?_⟩
      refine StsK.one hb8 (by show 2 < 3; omega) (Tm.v_one _) fun w9 hb9 f9 _ => ?_
      refine LdsK.blk (x := (str y, (bothF fin (conR fin n) (mustF fin [44] s3)).1.v, (bothF fin (conR fin n) (mustF fin [44] s3)).2.1.v, ())) hb9 ?_
      have f89 := f8.trans f9
      exact ⟨rfl, h7.keep f89 (fun k hk t => by have : k = g := t; omega), (f13.trans f4).trans ((Fr.of0 f5 (f6.trans f7)).comp f89 fun x hx t => by have : x = g := t; omega)⟩
    rw [if_neg e]
    refine ifB.str (z := [115, 99, 97, 108, 101]) (fun e => ?_) (fun e => ?_)
    · rw [if_pos e]
      refine CallK.of (rnumber_spec n (by omega) h3) ?_
      rintro _ w4 ⟨rfl, h4, f4⟩
      refine ⟨_, rfl, ⟨Ob.v_cells _, ?_⟩⟩
      generalize (numR fin n s2).1 = y
      generalize (numR fin n s2).2 = s3 at h4 ⊢
      refine ns_ok (zs := [.nilIface, .nilIface]) (vs := [y.v, .nilIface]) rfl (by simp [Ob.v_one, one1_nil]) fun g w5 hg hb f5 => ?_
      have hgm : m ≤ g := by have := h4.lt; omega
      have hgb : g ≠ b := by have := h4.lt; omega
      refine CallK.of (rmust_spec (h4.keep0 f5) [44]) ?_
      rintro _ w6 ⟨rfl, h6, f6⟩
      refine ⟨(), rfl, ?_⟩
      refine CallK.of (rone_of ih h6) ?_
      rintro _ w7 ⟨rfl, h7, f7⟩
      refine ⟨_, rfl, ⟨Tm.v_cells _, ?_⟩⟩
      have hb7 := f7.keep1 (f6.keep1 hb hgb) hgb
      refine StsK.one hb7 (by show 1 < 2; omega) (Tm.v_one _) fun w8 hb8 f8 _ => ?_
      refine LdsK.blk (x := (y.v, (oneF fin (conR fin n) (mustF fin [44] s3)).1.v, ())) hb8 ?_
      exact ⟨rfl, h7.keep f8 (fun k hk t => by have : k = g := t; omega), (f13.trans f4).trans ((Fr.of0 f5 (f6.trans f7)).comp f8 fun x hx t => by have : x = g := t; omega)⟩
    rw [if_neg e]
    refine ifB.str (z := [119, 104, 101, 110]) (fun e => ?_) (fun e => ?_)
    · rw [if_pos e]
      refine CallK.of (rday_spec h3) ?_
      rintro _ w4 ⟨rfl, h4, f4⟩
      refine ⟨_, rfl, ?_⟩
      generalize (numF (takeF fin dayF s2).1).1 = y
      generalize (takeF fin dayF s2).2 = s3 at h4 ⊢
      refine ns_ok (zs := [.int .i64 0, .nilIface]) (vs := [.int .i64 y, .nilIface]) rfl rfl fun g w5 hg hb f5 => ?_
      have hgm : m ≤ g := by have := h4.lt; omega
      have hgb : g ≠ b := by have := h4.lt; omega
      refine CallK.of (rmust_spec (h4.keep0 f5) [44]) ?_
      rintro _ w6 ⟨rfl, h6, f6⟩
      refine ⟨(), rfl, ?_⟩
      refine CallK.of (rone_of ih h6) ?_
      rintro _ w7 ⟨rfl, h7, f7⟩
      refine ⟨_, rfl, ⟨Tm.v_cells _, ?_⟩⟩
      have hb7 := f7.keep1 (f6.keep1 hb hgb) hgb
      refine StsK.one hb7 (by show 1 < 2; omega) (Tm.v_one _) fun w8 hb8 f8 _ => ?_
      refine LdsK.blk (x := (y, (oneF fin (conR fin n) (mustF fin [44] s3)).1.v, ())) hb8 ?_
      exact ⟨rfl, h7.keep f8 (fun k hk t => by have : k = g := t; omega), (f13.trans f4).trans ((Fr.of0 f5 (f6.trans f7)).comp f8 fun x hx t => by have : x = g := t; omega)⟩
    rw [if_neg e]
    refine CallK.of (rnumber_spec n (by omega) h3) ?_
    rintro _ w4 ⟨rfl, h4, f4⟩
    refine ⟨_, rfl, ⟨Ob.v_cells _, ?_⟩⟩
    generalize (numR fin n s2).1 = y
    generalize (numR fin n s2).2 = s3 at h4 ⊢
    refine ns_ok (zs := [.nilIface, .nilIface, .nilIface]) (vs := [y.v, .nilIface, .nilIface]) rfl (by simp [Ob.v_one, one1_nil]) fun g w5 hg hb f5 => ?_
    have hgm : m ≤ g := by have := h4.lt; omega
    have hgb : g ≠ b := by have := h4.lt; omega
    refine CallK.of (rmust_spec (h4.keep0 f5) [44]) ?_
    rintro _ w6 ⟨rfl, h6, f6⟩
    refine ⟨(), rfl, ?_⟩
    refine CallK.of (rboth_of ih h6) ?_
    rintro _ w7 ⟨rfl, h7, f7⟩
    refine ⟨(_, _, ()), rfl, ⟨Tm.v_cells _, ?_⟩⟩
    have hb7 := f7.keep1 (f6.keep1 hb hgb) hgb
    refine StsK.one hb7 (by show 1 < 3; omega) (Tm.v_one _) fun w8 hb8 f8 _ => ⟨Tm.v_cells _, ?_⟩
    refine StsK.one hb8 (by show 2 < 3; omega) (Tm.v_one _) fun w9 hb9 f9 _ => ?_
    refine LdsK.blk (x := (y.v, (bothF fin (conR fin n) (mustF fin [44] s3)).1.v, (bothF fin (conR fin n) (mustF fin [44] s3)).2.1.v, ())) hb9 ?_
    have f89 := f8.trans f9
    exact ⟨rfl, h7.keep f89 (fun k hk t => by have : k = g := t; omega), (f13.trans f4).trans ((Fr.of0 f5 (f6.trans f7)).comp f89 fun x hx t => by have : x = g := t; omega)⟩

/-! ### The whole text -/
theorem rcount_spec (bs : List UInt8) (hl : bs.length < 9223372036854775807) (w : World) : Ret Tryz.prog 105 #[.string (str bs)] w fun r w' => r = .int .i64 ((runesL bs).length : Int) ∧ Fr none1 w w' := by
  refine (Tryz.utf8_RuneCountInString (str bs) w (by rw [str_size]; exact hl)).mono ?_
  rintro e w' ⟨rfl, pos, rfl⟩
  refine ⟨_, rfl, ?_, push_fr _ _⟩
  unfold Lib.runeCount
  rw [count_runes _ _ _ (by omega), str_list, List.drop_zero]

theorem rbegin_spec (bs : List UInt8) (hl : bs.length ≤ 1000000000000) (w : World) : Ret Tryz.prog 63 #[.string (str bs)] w fun r w' => ∃ m g : Nat, r = .pointer (some ⟨g, 0, none⟩) ∧ IsRd w' m g (endF bs) (beginF bs) ∧ Fr none1 w w' ∧ w.heap.size ≤ g := by
  refine c63 (str bs) w _ ?_
  refine CallK.of (rcount_spec bs (by omega) w) ?_
  rintro _ w1 ⟨rfl, f1⟩
  refine ⟨_, rfl, ?_⟩
  have hrl := runesL_len bs
  have hfin : IntKind.i64.wrap (((runesL bs).length : Int) + 1) = endF bs := wI (by omega) (by omega)
  refine NewK.of fun g w2 hg hb f2 hs2 => ?_
  rw [hfin] at hb
  have hgw : w.heap.size ≤ g := by have := f1.size; omega
  unfold beginF
  rw [str_size]
  refine ifB.dec (fun h => ?_) (fun h => ?_)
  · rw [if_pos (by omega)]
    refine StK.fld hb (by show 0 + 3 < 4; omega) rfl fun w3 hb3 f3 hs3 => ?_
    exact ⟨g + 1, g, rfl, ⟨(none, 0, 0), hb3, none_sg _, ⟨none_blk _, by omega, by omega, fun k t => (none_blk k t).elim⟩, fun x hx => by cases hx⟩, f1.trans (f2.fresh f3 (by omega)), hgw⟩
  · rw [if_neg (by omega)]
    refine CallK.of (signs_spec bs w2 (by have := reads_le (runesL bs); omega)) ?_
    rintro _ w3 ⟨sl, rfl, hsl, f3, hf⟩
    refine ⟨((sl.1, sl.2.1, sl.2.2), _, ()), rfl, ?_⟩
    have hb3 := f3.keep0 hb
    have hz := signs_short (bs := bs) (by omega)
    have hblk : ¬ blkOf sl g := fun t => by have := hf g t; omega
    have hltm : ∀ k, blkOf sl k → k < w3.heap.size := fun k hk => hsl.sl.lt hk
    refine ifB.dec (fun hp => ?_) (fun hp => ?_)
    · rw [if_pos (show 0 < (sgF [] 0 false (runesL bs)).2 from hp)]
      refine StK.fld hb3 (by show 0 + 3 < 4; omega) rfl fun w4 hb4 f4 hs4 => ?_
      refine StK.fld hb4 (by show 0 + 2 < 4; omega) rfl fun w5 hb5 f5 hs5 => ?_
      refine StK.fld hb5 (by show 0 + 0 < 4; omega) rfl fun w6 hb6 f6 hs6 => ?_
      have f46 := (f4.trans f5).trans f6
      exact ⟨w3.heap.size, g, rfl, ⟨sl, hb6, hsl.keep f46 (fun k hk t => hblk (by have : k = g := t; rw [← this]; exact hk)), ⟨hblk, lt_of_blk hb3, by omega, hltm⟩, hz⟩, f1.trans ((f2.trans f3).fresh f46 (by omega)), hgw⟩
    · rw [if_neg (show ¬ 0 < (sgF [] 0 false (runesL bs)).2 from hp)]
      refine StK.fld hb3 (by show 0 + 0 < 4; omega) rfl fun w4 hb4 f4 hs4 => ?_
      exact ⟨w3.heap.size, g, rfl, ⟨sl, hb4, hsl.keep f4 (fun k hk t => hblk (by have : k = g := t; rw [← this]; exact hk)), ⟨hblk, lt_of_blk hb3, by omega, hltm⟩, hz⟩, f1.trans ((f2.trans f3).fresh f4 (by omega)), hgw⟩

theorem rdone_spec {w : World} {m b : Nat} {fin : Int} {s : RS} (h : IsRd w m b fin s) : Ret Tryz.prog 65 #[.pointer (some ⟨b, 0, none⟩)] w fun r w' => r = .tuple #[] ∧ IsRd w' m b fin (doneF fin s) ∧ Fr (only b) w w' := by
  refine c65 _ w _ ?_
  obtain ⟨sl, hb, hs, _⟩ := id h
  have hl := hs.len
  refine LdK.fld hb (x := sl) rfl ?_
  unfold doneF
  cases hsl : s.l with
  | nil =>
    rw [hsl] at hl
    exact ifB.no (by rw [hl]; decide) ⟨rfl, h, Fr.refl _ _⟩
  | cons x l =>
    rw [hsl] at hl
    simp only [List.length_cons] at hl
    refine ifB.yes (by omega) ?_
    refine CallK.of (rfail_spec h 2) ?_
    rintro _ w1 ⟨rfl, h1, f1⟩
    exact ⟨(), rfl, rfl, h1, f1⟩

theorem con_small {bs : List UInt8} (h : (conS bs).e = 0) : nodesT (conR (endF bs) 12 (beginF bs)).1 ≤ 1000000 := by
  obtain ⟨h1, h2, _⟩ := doneF_ok h
  obtain ⟨i1, _, _⟩ := conR_inv (endF bs) 12 (beginF bs) h1
  obtain ⟨b1, _, b3⟩ := beginF_ok i1.e
  obtain ⟨xs, hx, hxs⟩ := i1.eat
  have h3 := nodesT_toks (conR (endF bs) 12 (beginF bs)).1
  rw [← hxs, List.length_map] at h3
  rw [h2, List.append_nil, b3] at hx
  have h4 := sgF_cnt (runesL bs) [] 0 false
  have h5 := runesL_len bs
  have hx : (sgF [] 0 false (runesL bs)).1 = xs := hx
  rw [hx, List.length_nil] at h4
  omega
theorem num_small {bs : List UInt8} (h : (numS bs).e = 0) : nodesO (numR (endF bs) 12 (beginF bs)).1 ≤ 1000000 := by
  obtain ⟨h1, h2, _⟩ := doneF_ok h
  obtain ⟨i1, _, _⟩ := numR_inv (endF bs) 12 (beginF bs) h1
  obtain ⟨b1, _, b3⟩ := beginF_ok i1.e
  obtain ⟨xs, hx, hxs⟩ := i1.eat
  have h3 := nodesO_toks (numR (endF bs) 12 (beginF bs)).1
  rw [← hxs, List.length_map] at h3
  rw [h2, List.append_nil, b3] at hx
  have h4 := sgF_cnt (runesL bs) [] 0 false
  have h5 := runesL_len bs
  have hx : (sgF [] 0 false (runesL bs)).1 = xs := hx
  rw [hx, List.length_nil] at h4
  omega

theorem rterm_spec (bs : List UInt8) (hl : bs.length ≤ 1000000000000) (w : World) : Ret Tryz.prog 24 #[.string (str bs)] w fun r w' => r = .tuple #[(readT bs).1.v, .int .i64 (readT bs).2.1, .int .i64 (readT bs).2.2] ∧ Fr none1 w w' := by
  refine c24 (str bs) w _ ?_
  refine CallK.of (rbegin_spec bs hl w) ?_
  rintro _ w1 ⟨m, g, rfl, h1, f1, hg⟩
  refine ⟨_, rfl, ?_⟩
  refine CallK.of (rcontract_spec 12 (Nat.le_refl _) h1) ?_
  rintro _ w2 ⟨rfl, h2, f2⟩
  refine ⟨_, rfl, ?_⟩
  refine CallK.of (rdone_spec h2) ?_
  rintro _ w3 ⟨rfl, h3, f3⟩
  refine ⟨(), rfl, ?_⟩
  have f13 : Fr none1 w w3 := f1.fresh (f2.trans f3) hg
  have h3 : IsRd w3 m g (endF bs) (conS bs) := h3
  obtain ⟨sl, hb, _⟩ := id h3
  unfold readT
  refine LdK.fld hb (x := (conS bs).e) rfl ?_
  refine ifB.eq (fun he => ?_) (fun he => ?_)
  · rw [if_neg (fun t => t he)]
    refine CallK.of (tcheck_spec _ (con_small he) w3) ?_
    rintro _ w4 ⟨rfl, f4⟩
    refine ⟨_, rfl, ?_⟩
    refine StK.fld (f4.keep0 hb) (by show 0 + 3 < 4; omega) rfl fun w5 hb5 f5 _ => ?_
    refine LdK.fld hb5 (x := checkT (conR (endF bs) 12 (beginF bs)).1) rfl ?_
    have f15 : Fr none1 w w5 := (f13.trans f4).fresh f5 (by omega)
    refine ifB.ne (fun hc => ?_) (fun hc => ?_)
    · rw [if_pos hc]
      refine DrewK.of fun w6 _ f6 => ?_
      refine LdK.fld (f6.keep0 hb5) (x := (conS bs).at_) rfl (LdK.fld (f6.keep0 hb5) (x := checkT (conR (endF bs) 12 (beginF bs)).1) rfl ?_)
      exact ⟨rfl, f15.trans f6⟩
    · rw [if_neg (fun t => t hc)]
      exact ⟨rfl, f15⟩
  · rw [if_pos he]
    refine LdK.fld hb (x := (conS bs).e) rfl ?_
    refine ifB.ne (fun _ => ?_) (fun hc => absurd hc he)
    refine DrewK.of fun w6 _ f6 => ?_
    refine LdK.fld (f6.keep0 hb) (x := (conS bs).at_) rfl (LdK.fld (f6.keep0 hb) (x := (conS bs).e) rfl ?_)
    exact ⟨rfl, f13.trans f6⟩

theorem robs_spec (bs : List UInt8) (hl : bs.length ≤ 1000000000000) (w : World) : Ret Tryz.prog 28 #[.string (str bs)] w fun r w' => r = .tuple #[(readO bs).1.v, .int .i64 (readO bs).2.1, .int .i64 (readO bs).2.2] ∧ Fr none1 w w' := by
  refine c28 (str bs) w _ ?_
  refine CallK.of (rbegin_spec bs hl w) ?_
  rintro _ w1 ⟨m, g, rfl, h1, f1, hg⟩
  refine ⟨_, rfl, ?_⟩
  refine CallK.of (rnumber_spec 12 (Nat.le_refl _) h1) ?_
  rintro _ w2 ⟨rfl, h2, f2⟩
  refine ⟨_, rfl, ?_⟩
  refine CallK.of (rdone_spec h2) ?_
  rintro _ w3 ⟨rfl, h3, f3⟩
  refine ⟨(), rfl, ?_⟩
  have f13 : Fr none1 w w3 := f1.fresh (f2.trans f3) hg
  have h3 : IsRd w3 m g (endF bs) (numS bs) := h3
  obtain ⟨sl, hb, _⟩ := id h3
  unfold readO
  refine LdK.fld hb (x := (numS bs).e) rfl ?_
  refine ifB.eq (fun he => ?_) (fun he => ?_)
  · rw [if_neg (fun t => t he)]
    refine CallK.of (ocheck_spec _ (num_small he) w3) ?_
    rintro _ w4 ⟨rfl, f4⟩
    refine ⟨_, rfl, ?_⟩
    refine StK.fld (f4.keep0 hb) (by show 0 + 3 < 4; omega) rfl fun w5 hb5 f5 _ => ?_
    refine LdK.fld hb5 (x := checkO (numR (endF bs) 12 (beginF bs)).1) rfl ?_
    have f15 : Fr none1 w w5 := (f13.trans f4).fresh f5 (by omega)
    refine ifB.ne (fun hc => ?_) (fun hc => ?_)
    · rw [if_pos hc]
      refine DrewK.of fun w6 _ f6 => ?_
      refine LdK.fld (f6.keep0 hb5) (x := (numS bs).at_) rfl (LdK.fld (f6.keep0 hb5) (x := checkO (numR (endF bs) 12 (beginF bs)).1) rfl ?_)
      exact ⟨rfl, f15.trans f6⟩
    · rw [if_neg (fun t => t hc)]
      exact ⟨rfl, f15⟩
  · rw [if_pos he]
    refine LdK.fld hb (x := (numS bs).e) rfl ?_
    refine ifB.ne (fun _ => ?_) (fun hc => absurd hc he)
    refine DrewK.of fun w6 _ f6 => ?_
    refine LdK.fld (f6.keep0 hb) (x := (numS bs).at_) rfl (LdK.fld (f6.keep0 hb) (x := (numS bs).e) rfl ?_)
    exact ⟨rfl, f13.trans f6⟩

end Go.Proofs.YtlhbfdakceipkaaGreatDoor

/-! ### CSameG -/
namespace Go.Proofs.YtlhbfdakceipkaaGreatDoor
open Vc
set_option maxRecDepth 100000
set_option linter.unusedVariables false
/-- handfast/obs.kind -/
def C80 (p0 : Value) (w : World) (K : Value → World → Prop) : Prop :=
  TaK p0 80 (.agg [.int .i64]) (fun (x1 : Int × Unit) => K (.int .i64 1) w)
  (TaK p0 78 (.agg [.str]) (fun (x2 : ByteArray × Unit) => K (.int .i64 2) w)
  (TaK p0 86 (.agg [.raw, .raw]) (fun (x3 : Value × Value × Unit) => K (.int .i64 3) w)
  (TaK p0 85 (.agg [.raw]) (fun (x4 : Value × Unit) => K (.int .i64 4) w)
  (TaK p0 83 (.agg [.raw, .raw]) (fun (x5 : Value × Value × Unit) => K (.int .i64 5) w)
  (TaK p0 82 (.agg [.raw, .raw]) (fun (x6 : Value × Value × Unit) => K (.int .i64 6) w)
  (K (.int .i64 0) w))))))
def pl80 : Plan := .auto
theorem e80 (p0 : Value) (w : World) (K : Value → World → Prop) : vcFunc Tryz.prog Tryz.f80 pl80 [p0] w K = C80 p0 w K := by kernel_rfl
theorem c80 (p0 : Value) (w : World) (K : Value → World → Prop) (h : C80 p0 w K) : Ret Tryz.prog 80 #[p0] w K := by
  rw [← e80] at h
  exact vcFunc_sound (by kernel_rfl) Tryz.func80 h

/-- handfast/obs.Same -/
def C34 (p0 : Value) (p1 : Value) (w : World) (K : Value → World → Prop) : Prop :=
  CallK Tryz.prog 80 #[p0] w (.v (.one (.int .i64))) (fun (x1 : Int) w2 => ifB (x1 == 0)
  (K (.bool false) w2)
  (CallK Tryz.prog 80 #[p0] w2 (.v (.one (.int .i64))) (fun (x3 : Int) w4 => CallK Tryz.prog 80 #[p1] w4 (.v (.one (.int .i64))) (fun (x5 : Int) w6 => ifB (x3 != x5)
  (K (.bool false) w6)
  (TaK p0 80 (.agg [.int .i64]) (fun (x7 : Int × Unit) => NewK (.cells #[.int .i64 0] 80) w6 (fun g8 w9 => StsK (⟨g8, 0, none⟩ : Addr) [.int .i64 x7.1] w9 (fun w10 => DrewK w10 (fun w11 => LdsK [.int .i64] (⟨g8, 0, none⟩ : Addr) w11 (fun (x12 : Int × Unit) => TaK p1 80 (.agg [.int .i64]) (fun (x13 : Int × Unit) => RunK Tryz.prog (do eqGuard .eql 80 (.tmp 25) (.tmp 27) (.agg #[.int .i64 x12.1]) (.agg #[.int .i64 x13.1]); binOp .eql 80 (.agg #[.int .i64 x12.1]) (.agg #[.int .i64 x13.1])) w11 (.v (.one .bool)) (fun (x14 : Bool) w15 => K (.bool x14) w15)) False)))))
  (NewK (.cells #[.int .i64 0] 80) w6 (fun g16 w17 => StsK (⟨g16, 0, none⟩ : Addr) [.int .i64 0] w17 (fun w18 => TaK p0 78 (.agg [.str]) (fun (x19 : ByteArray × Unit) => NewK (.cells #[.string (⟨#[]⟩ : ByteArray)] 78) w18 (fun g20 w21 => StsK (⟨g20, 0, none⟩ : Addr) [.string x19.1] w21 (fun w22 => DrewK w22 (fun w23 => LdsK [.str] (⟨g20, 0, none⟩ : Addr) w23 (fun (x24 : ByteArray × Unit) => TaK p1 78 (.agg [.str]) (fun (x25 : ByteArray × Unit) => RunK Tryz.prog (do eqGuard .eql 78 (.tmp 35) (.tmp 37) (.agg #[.string x24.1]) (.agg #[.string x25.1]); binOp .eql 78 (.agg #[.string x24.1]) (.agg #[.string x25.1])) w23 (.v (.one .bool)) (fun (x26 : Bool) w27 => K (.bool x26) w27)) False)))))
  (NewK (.cells #[.string (⟨#[]⟩ : ByteArray)] 78) w18 (fun g28 w29 => StsK (⟨g28, 0, none⟩ : Addr) [.string (⟨#[]⟩ : ByteArray)] w29 (fun w30 => CallK Tryz.prog 82 #[p0] w30 (.v (.one .slc)) (fun (x31 : Option Addr × Nat × Nat) w32 => CallK Tryz.prog 82 #[p1] w32 (.v (.one .slc)) (fun (x33 : Option Addr × Nat × Nat) w34 => CallK Tryz.prog 81 #[.slice x31.1 x31.2.1 x31.2.2, .slice x33.1 x33.2.1 x33.2.2, .func (.func 34) #[] #[]] w34 (.v (.one .bool)) (fun (x35 : Bool) w36 => K (.bool x35) w36))))))))))))))
def pl34 : Plan := (.seq .auto (.seq .auto (.seq (.seq .auto (.seq .auto (.cond (.seq (.tail 3) .auto) .auto))) (.seq (.seq .auto (.seq .auto (.cond (.seq (.tail 3) .auto) .auto))) .auto))))
theorem e34 (p0 : Value) (p1 : Value) (w : World) (K : Value → World → Prop) : vcFunc Tryz.prog Tryz.f34 pl34 [p0, p1] w K = C34 p0 p1 w K := by kernel_rfl
theorem c34 (p0 : Value) (p1 : Value) (w : World) (K : Value → World → Prop) (h : C34 p0 p1 w K) : Ret Tryz.prog 34 #[p0, p1] w K := by
  rw [← e34] at h
  exact vcFunc_sound (by kernel_rfl) Tryz.func34 h

/-- handfast/term.Same -/
def C33 (p0 : Value) (p1 : Value) (w : World) (K : Value → World → Prop) : Prop :=
  CallK Tryz.prog 75 #[p0] w (.v (.one (.int .i64))) (fun (x1 : Int) w2 => ifB (x1 == 0)
  (K (.bool false) w2)
  (CallK Tryz.prog 75 #[p0] w2 (.v (.one (.int .i64))) (fun (x3 : Int) w4 => CallK Tryz.prog 75 #[p1] w4 (.v (.one (.int .i64))) (fun (x5 : Int) w6 => ifB (x3 != x5)
  (K (.bool false) w6)
  (CallK Tryz.prog 76 #[p0] w6 (.tup [.one .str, .one (.int .i64)]) (fun (x7 : ByteArray × Int × Unit) w8 => CallK Tryz.prog 76 #[p1] w8 (.tup [.one .str, .one (.int .i64)]) (fun (x9 : ByteArray × Int × Unit) w10 => ifB (!(x7.1.toList == x9.1.toList))
  (K (.bool false) w10)
  (ifB (x7.2.1 != x9.2.1)
  (K (.bool false) w10)
  (CallK Tryz.prog 77 #[p0] w10 (.tup [.one .raw, .one .bool]) (fun (x11 : Value × Bool × Unit) w12 => ifB x11.2.1
  (CallK Tryz.prog 77 #[p1] w12 (.tup [.one .raw, .one .bool]) (fun (x13 : Value × Bool × Unit) w14 => CallK Tryz.prog 34 #[x11.1, x13.1] w14 (.v (.one .bool)) (fun (x15 : Bool) w16 => ifB (!x15)
  (K (.bool false) w16)
  (CallK Tryz.prog 79 #[p0] w16 (.v (.one .slc)) (fun (x17 : Option Addr × Nat × Nat) w18 => CallK Tryz.prog 79 #[p1] w18 (.v (.one .slc)) (fun (x19 : Option Addr × Nat × Nat) w20 => CallK Tryz.prog 78 #[.slice x17.1 x17.2.1 x17.2.2, .slice x19.1 x19.2.1 x19.2.2, .func (.func 33) #[] #[]] w20 (.v (.one .bool)) (fun (x21 : Bool) w22 => K (.bool x21) w22)))))))
  (CallK Tryz.prog 79 #[p0] w12 (.v (.one .slc)) (fun (x23 : Option Addr × Nat × Nat) w24 => CallK Tryz.prog 79 #[p1] w24 (.v (.one .slc)) (fun (x25 : Option Addr × Nat × Nat) w26 => CallK Tryz.prog 78 #[.slice x23.1 x23.2.1 x23.2.2, .slice x25.1 x25.2.1 x25.2.2, .func (.func 33) #[] #[]] w26 (.v (.one .bool)) (fun (x27 : Bool) w28 => K (.bool x27) w28))))))))))))))
def pl33 : Plan := .auto
theorem e33 (p0 : Value) (p1 : Value) (w : World) (K : Value → World → Prop) : vcFunc Tryz.prog Tryz.f33 pl33 [p0, p1] w K = C33 p0 p1 w K := by kernel_rfl
theorem c33 (p0 : Value) (p1 : Value) (w : World) (K : Value → World → Prop) (h : C33 p0 p1 w K) : Ret Tryz.prog 33 #[p0, p1] w K := by
  rw [← e33] at h
  exact vcFunc_sound (by kernel_rfl) Tryz.func33 h

/-- slices.EqualFunc[[]handfast/api.Obs,[]handfast/api.Obs,handfast/api.Obs,handfast/api.Obs] -/
def C81 (p0 : Option Addr) (p0l p0c : Nat) (p1 : Option Addr) (p1l p1c : Nat) (p2 : Value) (w : World) (K : Value → World → Prop) : Prop :=
  ifB ((p0l : Int) != (p1l : Int))
  (K (.bool false) w)
  (LoopK (Int × Unit) (fun _ s1 w2 next3 => ifB (decide (s1.1 < (p0l : Int)))
  (IdxK p0 p0l s1.1 1 (fun a4 => LdK .raw a4 w2 (fun (x5 : Value) => IdxK p1 p1l s1.1 1 (fun a6 => LdK .raw a6 w2 (fun (x7 : Value) => callV Tryz.prog p2 [x5, x7] (.v (.one .bool)) w2 (fun (x8 : Bool) w9 => ifB (!x8)
  (K (.bool false) w9)
  (next3 (IntKind.i64.wrap (s1.1 + 1), ()) w9)))))))
  (K (.bool true) w2))
  (0, ()) w)
def pl81 : Plan := (.seq .auto (.seq .auto (.seq (.seq .auto (.block (.loop [(17, .one (.int .i64))] .auto))) .auto)))
theorem e81 (p0 : Option Addr) (p0l p0c : Nat) (p1 : Option Addr) (p1l p1c : Nat) (p2 : Value) (w : World) (K : Value → World → Prop) : vcFunc Tryz.prog Tryz.f81 pl81 [.slice p0 p0l p0c, .slice p1 p1l p1c, p2] w K = C81 p0 p0l p0c p1 p1l p1c p2 w K := by kernel_rfl
theorem c81 (p0 : Option Addr) (p0l p0c : Nat) (p1 : Option Addr) (p1l p1c : Nat) (p2 : Value) (w : World) (K : Value → World → Prop) (h : C81 p0 p0l p0c p1 p1l p1c p2 w K) : Ret Tryz.prog 81 #[.slice p0 p0l p0c, .slice p1 p1l p1c, p2] w K := by
  rw [← e81] at h
  exact vcFunc_sound (by kernel_rfl) Tryz.func81 h

/-- slices.EqualFunc[[]handfast/api.Term,[]handfast/api.Term,handfast/api.Term,handfast/api.Term] -/
def C78 (p0 : Option Addr) (p0l p0c : Nat) (p1 : Option Addr) (p1l p1c : Nat) (p2 : Value) (w : World) (K : Value → World → Prop) : Prop :=
  ifB ((p0l : Int) != (p1l : Int))
  (K (.bool false) w)
  (LoopK (Int × Unit) (fun _ s1 w2 next3 => ifB (decide (s1.1 < (p0l : Int)))
  (IdxK p0 p0l s1.1 1 (fun a4 => LdK .raw a4 w2 (fun (x5 : Value) => IdxK p1 p1l s1.1 1 (fun a6 => LdK .raw a6 w2 (fun (x7 : Value) => callV Tryz.prog p2 [x5, x7] (.v (.one .bool)) w2 (fun (x8 : Bool) w9 => ifB (!x8)
  (K (.bool false) w9)
  (next3 (IntKind.i64.wrap (s1.1 + 1), ()) w9)))))))
  (K (.bool true) w2))
  (0, ()) w)
def pl78 : Plan := (.seq .auto (.seq .auto (.seq (.seq .auto (.block (.loop [(17, .one (.int .i64))] .auto))) .auto)))
theorem e78 (p0 : Option Addr) (p0l p0c : Nat) (p1 : Option Addr) (p1l p1c : Nat) (p2 : Value) (w : World) (K : Value → World → Prop) : vcFunc Tryz.prog Tryz.f78 pl78 [.slice p0 p0l p0c, .slice p1 p1l p1c, p2] w K = C78 p0 p0l p0c p1 p1l p1c p2 w K := by kernel_rfl
theorem c78 (p0 : Option Addr) (p0l p0c : Nat) (p1 : Option Addr) (p1l p1c : Nat) (p2 : Value) (w : World) (K : Value → World → Prop) (h : C78 p0 p0l p0c p1 p1l p1c p2 w K) : Ret Tryz.prog 78 #[.slice p0 p0l p0c, .slice p1 p1l p1c, p2] w K := by
  rw [← e78] at h
  exact vcFunc_sound (by kernel_rfl) Tryz.func78 h

end Go.Proofs.YtlhbfdakceipkaaGreatDoor

/-! ### SameSpec -/
set_option linter.unusedVariables false
set_option maxRecDepth 100000
namespace Go.Proofs.YtlhbfdakceipkaaGreatDoor
open Vc

/-! ### Plain -/
def kindO : Ob → Int
  | .none => 0
  | .const _ => 1
  | .fix _ => 2
  | .add _ _ => 3
  | .neg _ => 4
  | .mul _ _ => 5
  | .max _ _ => 6
def sameO : Ob → Ob → Bool
  | .const n, .const m => n == m
  | .fix s, .fix t => s == t
  | .add a b, .add c d => sameO a c && sameO b d
  | .neg a, .neg c => sameO a c
  | .mul a b, .mul c d => sameO a c && sameO b d
  | .max a b, .max c d => sameO a c && sameO b d
  | _, _ => false
def sameT : Tm → Tm → Bool
  | .zero, .zero => true
  | .one s, .one t => s == t
  | .give a, .give c => sameT a c
  | .and a b, .and c d => sameT a c && sameT b d
  | .or s a b, .or t c d => s == t && (sameT a c && sameT b d)
  | .scale o a, .scale p c => sameO o p && sameT a c
  | .when n a, .when m c => n == m && sameT a c
  | .cond o a b, .cond p c d => sameO o p && (sameT a c && sameT b d)
  | _, _ => false
theorem sameO_self (o : Ob) (h : formO o = true) : sameO o o = true := by
  induction o <;> simp_all [sameO, formO]
theorem sameT_self (t : Tm) (h : formT t = true) : sameT t t = true := by
  induction t <;> simp_all [sameT, formT, sameO_self]
theorem sameO_eq (a b : Ob) (h : sameO a b = true) : a = b := by
  induction a generalizing b with
  | none => cases b <;> simp [sameO] at h
  | const n => cases b <;> simp_all [sameO]
  | fix s => cases b <;> simp_all [sameO]
  | add l r i j => cases b <;> simp [sameO] at h; rw [i _ h.1, j _ h.2]
  | neg o i => cases b <;> simp [sameO] at h; rw [i _ h]
  | mul l r i j => cases b <;> simp [sameO] at h; rw [i _ h.1, j _ h.2]
  | max l r i j => cases b <;> simp [sameO] at h; rw [i _ h.1, j _ h.2]
theorem sameT_eq (a b : Tm) (h : sameT a b = true) : a = b := by
  induction a generalizing b with
  | none => cases b <;> simp [sameT] at h
  | zero => cases b <;> simp_all [sameT]
  | one s => cases b <;> simp_all [sameT]
  | give t i => cases b <;> simp [sameT] at h; rw [i _ h]
  | and l r i j => cases b <;> simp [sameT] at h; rw [i _ h.1, j _ h.2]
  | or s l r i j => cases b <;> simp [sameT] at h; rw [h.1, i _ h.2.1, j _ h.2.2]
  | scale o t i => cases b <;> simp [sameT] at h; rw [sameO_eq _ _ h.1, i _ h.2]
  | when d t i => cases b <;> simp [sameT] at h; rw [h.1, i _ h.2]
  | cond o l r i j => cases b <;> simp [sameT] at h; rw [sameO_eq _ _ h.1, i _ h.2.1, j _ h.2.2]

/-! ### Structs of one part compared -/
theorem const_eq (i j : Int) (o1 o2 : Operand) (w : World) :
    (do eqGuard .eql 80 o1 o2 (.agg #[.int .i64 i]) (.agg #[.int .i64 j]); binOp .eql 80 (.agg #[.int .i64 i]) (.agg #[.int .i64 j]) : Sem Value).run Tryz.prog w = .ok (.bool (i == j)) w := by
  have hf : ∃ fs, Tryz.prog.underlying 80 = some (.struct fs) ∧ Tryz.prog.fieldsOf 80 = fs := by
    unfold Program.fieldsOf
    rw [Tryz.underlying80]
    exact ⟨_, rfl, rfl⟩
  have hu : Tryz.prog.underlying 80 = some (.struct (Tryz.prog.fieldsOf 80)) := by
    obtain ⟨fs, h1, h2⟩ := hf
    rw [h1, h2]
  rw [Sem.run_bind, run_eqGuard_agg w _ _ _ _ _ _ (show Tryz.prog.eqGuardType Tryz.prog.depth 80 = false by kernel_rfl), Result.andThen_ok, run_eql_struct, run_equalIn_agg w _ _ _ _ hu (by kernel_rfl)]
  have hF : (Tryz.prog.fieldsOf 80).toList = [{ name := "N", type := 3, offset := 0, embedded := false, tag := "", pkgPath := "", byteOffset := 0 }] := by
    unfold Program.fieldsOf
    rw [Tryz.underlying80]
  have p0 : ∀ (v : Value), (part 3 #[v] 0).run Tryz.prog w = .ok v w := fun v => by simp [part, isAgg, under Tryz.underlying3]
  rw [hF]
  have q1 : (Op.equalIn 9999 3 (.int .i64 i) (.int .i64 j)).run Tryz.prog w = .ok (i == j) w := run_equalIn_int w 9998 _ _ _ _ _ Tryz.underlying3
  simp only [Op.eqFields, ne_eq, if_pos (show ¬ ("N" = "_") by decide), Sem.run_bind, p0, Result.andThen_ok, q1]
  by_cases hij : i = j
  · subst hij; simp
  · simp [hij]
theorem fix_eq (x y : ByteArray) (o1 o2 : Operand) (w : World) :
    (do eqGuard .eql 78 o1 o2 (.agg #[.string x]) (.agg #[.string y]); binOp .eql 78 (.agg #[.string x]) (.agg #[.string y]) : Sem Value).run Tryz.prog w = .ok (.bool (x.toList == y.toList)) w := by
  have hf : ∃ fs, Tryz.prog.underlying 78 = some (.struct fs) ∧ Tryz.prog.fieldsOf 78 = fs := by
    unfold Program.fieldsOf
    rw [Tryz.underlying78]
    exact ⟨_, rfl, rfl⟩
  have hu : Tryz.prog.underlying 78 = some (.struct (Tryz.prog.fieldsOf 78)) := by
    obtain ⟨fs, h1, h2⟩ := hf
    rw [h1, h2]
  rw [Sem.run_bind, run_eqGuard_agg w _ _ _ _ _ _ (show Tryz.prog.eqGuardType Tryz.prog.depth 78 = false by kernel_rfl), Result.andThen_ok, run_eql_struct, run_equalIn_agg w _ _ _ _ hu (by kernel_rfl)]
  have hF : (Tryz.prog.fieldsOf 78).toList = [{ name := "Name", type := 9, offset := 0, embedded := false, tag := "", pkgPath := "", byteOffset := 0 }] := by
    unfold Program.fieldsOf
    rw [Tryz.underlying78]
  have p0 : ∀ (v : Value), (part 9 #[v] 0).run Tryz.prog w = .ok v w := fun v => by simp [part, isAgg, under Tryz.underlying9]
  rw [hF]
  have q1 : (Op.equalIn 9999 9 (.string x) (.string y)).run Tryz.prog w = .ok (x.toList == y.toList) w := run_equalIn_string w 9998 _ _ _ Tryz.underlying9
  simp only [Op.eqFields, ne_eq, if_pos (show ¬ ("Name" = "_") by decide), Sem.run_bind, p0, Result.andThen_ok, q1]
  cases x.toList == y.toList <;> simp

/-! ### What the functions do -/
theorem okind_spec (o : Ob) (w : World) : Ret Tryz.prog 80 #[o.v] w fun r w' => r = .int .i64 (kindO o) ∧ w = w' := by
  refine c80 o.v w _ ?_
  cases o with
  | none => exact TaK.nil rfl (TaK.nil rfl (TaK.nil rfl (TaK.nil rfl (TaK.nil rfl (TaK.nil rfl ⟨rfl, rfl⟩)))))
  | const n => exact TaK.hit (n, ()) rfl ⟨rfl, rfl⟩
  | fix s => exact TaK.miss rfl (by decide) (TaK.hit (str s, ()) rfl ⟨rfl, rfl⟩)
  | add l r => exact TaK.miss rfl (by decide) (TaK.miss rfl (by decide) (TaK.hit (l.v, r.v, ()) rfl ⟨rfl, rfl⟩))
  | neg x => exact TaK.miss rfl (by decide) (TaK.miss rfl (by decide) (TaK.miss rfl (by decide) (TaK.hit (x.v, ()) rfl ⟨rfl, rfl⟩)))
  | mul l r => exact TaK.miss rfl (by decide) (TaK.miss rfl (by decide) (TaK.miss rfl (by decide) (TaK.miss rfl (by decide) (TaK.hit (l.v, r.v, ()) rfl ⟨rfl, rfl⟩))))
  | max l r => exact TaK.miss rfl (by decide) (TaK.miss rfl (by decide) (TaK.miss rfl (by decide) (TaK.miss rfl (by decide) (TaK.miss rfl (by decide) (TaK.hit (l.v, r.v, ()) rfl ⟨rfl, rfl⟩)))))

def all2 {α β : Type} (f : α → β → Bool) : List α → List β → Bool
  | [], [] => true
  | a :: l, b :: m => f a b && all2 f l m
  | _, _ => false
theorem all2_len {α β : Type} (f : α → β → Bool) : ∀ (l : List α) (m : List β), l.length ≠ m.length → all2 f l m = false
  | [], [], h => absurd rfl h
  | [], _ :: _, _ => rfl
  | _ :: _, [], _ => rfl
  | a :: l, b :: m, h => by unfold all2; rw [all2_len f l m (by simpa using h), Bool.and_false]
theorem all2_take {α β : Type} (f : α → β → Bool) : ∀ (l : List α) (m : List β) (i : Nat) (a : α) (b : β), l[i]? = some a → m[i]? = some b → all2 f (l.take (i + 1)) (m.take (i + 1)) = (all2 f (l.take i) (m.take i) && f a b)
  | [], _, i, a, b, h, _ => by simp at h
  | x :: l, [], i, a, b, _, h => by simp at h
  | x :: l, y :: m, 0, a, b, h, k => by simp at h k; subst h k; simp [all2]
  | x :: l, y :: m, i + 1, a, b, h, k => by
    have := all2_take f l m i a b (by simpa using h) (by simpa using k)
    simp only [List.take_succ_cons, all2]
    rw [this, Bool.and_assoc]
theorem all2_bad {α β : Type} (f : α → β → Bool) : ∀ (l : List α) (m : List β) (i : Nat) (a : α) (b : β), l[i]? = some a → m[i]? = some b → f a b = false → all2 f l m = false
  | [], _, i, a, b, h, _, _ => by simp at h
  | x :: l, [], i, a, b, _, h, _ => by simp at h
  | x :: l, y :: m, 0, a, b, h, k, e => by simp at h k; subst h k; simp [all2, e]
  | x :: l, y :: m, i + 1, a, b, h, k, e => by
    have := all2_bad f l m i a b (by simpa using h) (by simpa using k) e
    simp [all2, this]

theorem equal_os {w : World} {u v : Sl} {l m : List Ob} (hu : IsOs w u l) (hv : IsOs w v m) (hl : l.length ≤ 2) {cb : Value} (f : Ob → Ob → Bool)
    (hcb : ∀ a ∈ l, ∀ b ∈ m, ∀ w K, (∀ w', Fr none1 w w' → K (f a b) w') → callV Tryz.prog cb [a.v, b.v] (.v (.one .bool)) w K) :
    Ret Tryz.prog 81 #[.slice u.1 u.2.1 u.2.2, .slice v.1 v.2.1 v.2.2, cb] w fun r w' => r = .bool (all2 f l m) ∧ Fr none1 w w' := by
  refine c81 _ _ _ _ _ _ cb w _ ?_
  have hul := hu.len
  have hvl := hv.len
  refine ifB.ne (fun h => ?_) (fun h => ?_)
  · rw [all2_len f l m (by omega)]; exact ⟨rfl, Fr.refl _ _⟩
  refine LoopK.of (fun s w' => ∃ i : Nat, s.1 = i ∧ i ≤ l.length ∧ all2 f (l.take i) (m.take i) = true ∧ Fr none1 w w') (fun s _ => (2 - s.1).toNat) ⟨0, rfl, Nat.zero_le _, rfl, Fr.refl _ _⟩ ?_
  rintro _ ⟨i', _⟩ w2 ⟨i, hi, hil, hall, f2⟩
  dsimp only at hi ⊢
  subst hi
  refine ifB.dec (fun hlt => ?_) (fun hge => ?_)
  · have hi2 : i < l.length := by omega
    have hi3 : i < m.length := by omega
    obtain ⟨a, ha⟩ : ∃ a, l[i]? = some a := ⟨_, List.getElem?_eq_getElem hi2⟩
    obtain ⟨b, hb⟩ : ∃ b, m[i]? = some b := ⟨_, List.getElem?_eq_getElem hi3⟩
    refine (hu.keep0 f2).ld ha ?_
    refine (hv.keep0 f2).ld hb ?_
    refine hcb a (List.mem_of_getElem? ha) b (List.mem_of_getElem? hb) _ _ fun w3 f3 => ?_
    refine ifB.not (ifB.by (fun e => ?_) (fun e => ?_))
    · exact ⟨⟨i + 1, by rw [wI (by omega) (by omega)]; omega, by omega, by rw [all2_take f l m i a b ha hb, hall, e]; rfl, f2.trans f3⟩, by rw [wI (by omega) (by omega)]; omega⟩
    · rw [all2_bad f l m i a b ha hb e]; exact ⟨rfl, f2.trans f3⟩
  · have : i = l.length := by omega
    subst this
    rw [List.take_length, List.take_of_length_le (by omega)] at hall
    rw [hall]; exact ⟨rfl, f2⟩
theorem equal_ts {w : World} {u v : Sl} {l m : List Tm} (hu : IsTs w u l) (hv : IsTs w v m) (hl : l.length ≤ 2) {cb : Value} (f : Tm → Tm → Bool)
    (hcb : ∀ a ∈ l, ∀ b ∈ m, ∀ w K, (∀ w', Fr none1 w w' → K (f a b) w') → callV Tryz.prog cb [a.v, b.v] (.v (.one .bool)) w K) :
    Ret Tryz.prog 78 #[.slice u.1 u.2.1 u.2.2, .slice v.1 v.2.1 v.2.2, cb] w fun r w' => r = .bool (all2 f l m) ∧ Fr none1 w w' := by
  refine c78 _ _ _ _ _ _ cb w _ ?_
  have hul := hu.len
  have hvl := hv.len
  refine ifB.ne (fun h => ?_) (fun h => ?_)
  · rw [all2_len f l m (by omega)]; exact ⟨rfl, Fr.refl _ _⟩
  refine LoopK.of (fun s w' => ∃ i : Nat, s.1 = i ∧ i ≤ l.length ∧ all2 f (l.take i) (m.take i) = true ∧ Fr none1 w w') (fun s _ => (2 - s.1).toNat) ⟨0, rfl, Nat.zero_le _, rfl, Fr.refl _ _⟩ ?_
  rintro _ ⟨i', _⟩ w2 ⟨i, hi, hil, hall, f2⟩
  dsimp only at hi ⊢
  subst hi
  refine ifB.dec (fun hlt => ?_) (fun hge => ?_)
  · have hi2 : i < l.length := by omega
    have hi3 : i < m.length := by omega
    obtain ⟨a, ha⟩ : ∃ a, l[i]? = some a := ⟨_, List.getElem?_eq_getElem hi2⟩
    obtain ⟨b, hb⟩ : ∃ b, m[i]? = some b := ⟨_, List.getElem?_eq_getElem hi3⟩
    refine (hu.keep0 f2).ld ha ?_
    refine (hv.keep0 f2).ld hb ?_
    refine hcb a (List.mem_of_getElem? ha) b (List.mem_of_getElem? hb) _ _ fun w3 f3 => ?_
    refine ifB.not (ifB.by (fun e => ?_) (fun e => ?_))
    · exact ⟨⟨i + 1, by rw [wI (by omega) (by omega)]; omega, by omega, by rw [all2_take f l m i a b ha hb, hall, e]; rfl, f2.trans f3⟩, by rw [wI (by omega) (by omega)]; omega⟩
    · rw [all2_bad f l m i a b ha hb e]; exact ⟨rfl, f2.trans f3⟩
  · have : i = l.length := by omega
    subst this
    rw [List.take_length, List.take_of_length_le (by omega)] at hall
    rw [hall]; exact ⟨rfl, f2⟩

theorem kindO_zero (o : Ob) : kindO o = 0 ↔ o = .none := by cases o <;> simp [kindO]
theorem sameO_kind {a b : Ob} (h : kindO a ≠ kindO b) : sameO a b = false := by cases a <;> cases b <;> simp_all [sameO, kindO]
theorem sameO_kids {a b : Ob} (h0 : kindO a ≠ 0) (h : kindO a = kindO b) (hl : (leafO a).1 = false) : sameO a b = all2 sameO (kidsO a) (kidsO b) := by
  cases a <;> cases b <;> simp_all [sameO, kindO, leafO, kidsO, all2]

theorem osame_spec (a b : Ob) (w : World) : Ret Tryz.prog 34 #[a.v, b.v] w fun r w' => r = .bool (sameO a b) ∧ Fr none1 w w' := by
  have ih : ∀ k ∈ kidsO a, ∀ b w, Ret Tryz.prog 34 #[k.v, b.v] w fun r w' => r = .bool (sameO k b) ∧ Fr none1 w w' := fun k hk b w => osame_spec k b w
  refine c34 a.v b.v w _ ?_
  refine CallK.of (okind_spec a w) ?_
  rintro _ _ ⟨rfl, rfl⟩
  refine ⟨_, rfl, ifB.eq (fun h => ?_) (fun h => ?_)⟩
  · have := (kindO_zero a).1 h
    subst this
    exact ⟨by cases b <;> rfl, Fr.refl _ _⟩
  refine CallK.of (okind_spec a w) ?_
  rintro _ _ ⟨rfl, rfl⟩
  refine ⟨_, rfl, ?_⟩
  refine CallK.of (okind_spec b w) ?_
  rintro _ _ ⟨rfl, rfl⟩
  refine ⟨_, rfl, ifB.ne (fun hk => ?_) (fun hk => ?_)⟩
  · rw [sameO_kind hk]; exact ⟨rfl, Fr.refl _ _⟩
  have deep : (leafO a).1 = false → ∀ w2, Fr none1 w w2 →
      CallK Tryz.prog 82 #[a.v] w2 (.v (.one .slc)) (fun (x31 : Option Addr × Nat × Nat) w32 => CallK Tryz.prog 82 #[b.v] w32 (.v (.one .slc)) (fun (x33 : Option Addr × Nat × Nat) w34 =>
      CallK Tryz.prog 81 #[.slice x31.1 x31.2.1 x31.2.2, .slice x33.1 x33.2.1 x33.2.2, .func (.func 34) #[] #[]] w34 (.v (.one .bool)) (fun (x35 : Bool) w36 => (Value.bool x35) = .bool (sameO a b) ∧ Fr none1 w w36))) := fun hl w2 f2 => by
    refine CallK.of (okids_spec a w2) ?_
    rintro _ w3 ⟨u, rfl, hu, f3⟩
    refine ⟨u, rfl, ?_⟩
    refine CallK.of (okids_spec b w3) ?_
    rintro _ w4 ⟨v, rfl, hv, f4⟩
    refine ⟨v, rfl, ?_⟩
    refine CallK.of (equal_os (hu.keep0 f4) hv (kidsO_len a) sameO fun x hx y hy w K hK => ?_) ?_
    · refine callV_of (by kernel_rfl) Tryz.func34 (by kernel_rfl) ((ih x hx y w).mono ?_)
      rintro _ w' ⟨rfl, f⟩
      exact ⟨_, rfl, hK w' f⟩
    · rintro _ w5 ⟨rfl, f5⟩
      exact ⟨_, rfl, by rw [sameO_kids h hk hl], ((f2.trans f3).trans f4).trans f5⟩
  cases a with
  | none => exact absurd rfl h
  | const n =>
    cases b <;> simp only [kindO] at hk <;> try (exact absurd hk (by decide))
    rename_i m
    refine TaK.hit (n, ()) rfl (ns_ok (zs := [.int .i64 0]) (vs := [.int .i64 n]) rfl rfl fun g w1 hg hb f1 => ?_)
    refine DrewK.of fun w2 _ f2 => ?_
    refine LdsK.blk (cks := [.int .i64]) (x := (n, ())) (f2.keep0 hb) ?_
    refine TaK.hit (m, ()) rfl ?_
    exact ⟨_, w2, const_eq n m _ _ w2, rfl, f1.trans f2⟩
  | fix s =>
    cases b <;> simp only [kindO] at hk <;> try (exact absurd hk (by decide))
    rename_i t
    refine TaK.miss rfl (by decide) (ns_skip (zs := [.int .i64 0]) (vs := [.int .i64 0]) rfl rfl fun w0 f0 => ?_)
    refine TaK.hit (str s, ()) rfl (ns_ok (zs := [.string (⟨#[]⟩ : ByteArray)]) (vs := [.string (str s)]) rfl rfl fun g w1 hg hb f1 => ?_)
    refine DrewK.of fun w2 _ f2 => ?_
    refine LdsK.blk (cks := [.str]) (x := (str s, ())) (f2.keep0 hb) ?_
    refine TaK.hit (str t, ()) rfl ?_
    refine ⟨_, w2, fix_eq _ _ _ _ w2, ?_, (f0.trans f1).trans f2⟩
    show Value.bool _ = .bool (s == t)
    dsimp only
    rw [str_beq]
    by_cases e : s = t <;> simp [e]
  | add l r => exact TaK.miss rfl (by decide) (ns_skip (zs := [.int .i64 0]) (vs := [.int .i64 0]) rfl rfl fun w1 f1 => TaK.miss rfl (by decide) (ns_skip (zs := [.string (⟨#[]⟩ : ByteArray)]) (vs := [.string (⟨#[]⟩ : ByteArray)]) rfl rfl fun w2 f2 => deep rfl w2 (f1.trans f2)))
  | neg x => exact TaK.miss rfl (by decide) (ns_skip (zs := [.int .i64 0]) (vs := [.int .i64 0]) rfl rfl fun w1 f1 => TaK.miss rfl (by decide) (ns_skip (zs := [.string (⟨#[]⟩ : ByteArray)]) (vs := [.string (⟨#[]⟩ : ByteArray)]) rfl rfl fun w2 f2 => deep rfl w2 (f1.trans f2)))
  | mul l r => exact TaK.miss rfl (by decide) (ns_skip (zs := [.int .i64 0]) (vs := [.int .i64 0]) rfl rfl fun w1 f1 => TaK.miss rfl (by decide) (ns_skip (zs := [.string (⟨#[]⟩ : ByteArray)]) (vs := [.string (⟨#[]⟩ : ByteArray)]) rfl rfl fun w2 f2 => deep rfl w2 (f1.trans f2)))
  | max l r => exact TaK.miss rfl (by decide) (ns_skip (zs := [.int .i64 0]) (vs := [.int .i64 0]) rfl rfl fun w1 f1 => TaK.miss rfl (by decide) (ns_skip (zs := [.string (⟨#[]⟩ : ByteArray)]) (vs := [.string (⟨#[]⟩ : ByteArray)]) rfl rfl fun w2 f2 => deep rfl w2 (f1.trans f2)))
termination_by SizeOf.sizeOf a
decreasing_by exact kidsO_lt hk

theorem sameT_kind {a b : Tm} (h : kindT a ≠ kindT b) : sameT a b = false := by cases a <;> cases b <;> simp_all [sameT, kindT]
theorem sameT_parts {a b : Tm} (h0 : kindT a ≠ 0) (h : kindT a = kindT b) : sameT a b = (decide (ownT a = ownT b) && ((!(numberT a).2 || sameO (numberT a).1 (numberT b).1) && all2 sameT (kidsT a) (kidsT b))) := by
  cases a <;> cases b <;> simp_all [sameT, kindT, ownT, numberT, kidsT, all2] <;> (try (rw [Bool.eq_iff_iff]; simp))

theorem tsame_spec (a b : Tm) (w : World) : Ret Tryz.prog 33 #[a.v, b.v] w fun r w' => r = .bool (sameT a b) ∧ Fr none1 w w' := by
  have ih : ∀ k ∈ kidsT a, ∀ b w, Ret Tryz.prog 33 #[k.v, b.v] w fun r w' => r = .bool (sameT k b) ∧ Fr none1 w w' := fun k hk b w => tsame_spec k b w
  refine c33 a.v b.v w _ ?_
  refine CallK.of (tkind_spec a w) ?_
  rintro _ _ ⟨rfl, rfl⟩
  refine ⟨_, rfl, ifB.eq (fun h => ?_) (fun h => ?_)⟩
  · have := (kindT_none a).1 h
    subst this
    exact ⟨by cases b <;> rfl, Fr.refl _ _⟩
  refine CallK.of (tkind_spec a w) ?_
  rintro _ _ ⟨rfl, rfl⟩
  refine ⟨_, rfl, ?_⟩
  refine CallK.of (tkind_spec b w) ?_
  rintro _ _ ⟨rfl, rfl⟩
  refine ⟨_, rfl, ifB.ne (fun hk => ?_) (fun hk => ?_)⟩
  · rw [sameT_kind hk]; exact ⟨rfl, Fr.refl _ _⟩
  have hP := sameT_parts h hk
  refine CallK.of (own_spec a w) ?_
  rintro _ w1 ⟨rfl, f1⟩
  refine ⟨(str (ownT a).1, (ownT a).2, ()), rfl, ?_⟩
  refine CallK.of (own_spec b w1) ?_
  rintro _ w2 ⟨rfl, f2⟩
  refine ⟨(str (ownT b).1, (ownT b).2, ()), rfl, ?_⟩
  dsimp only
  have f12 := f1.trans f2
  rw [str_beq]
  refine ifB.not (ifB.dec (fun h1 => ?_) (fun h1 => ?_))
  case refine_2 =>
    rw [hP, decide_eq_false (fun t => h1 (by rw [t]))]; exact ⟨rfl, f12⟩
  refine ifB.ne (fun h2 => ?_) (fun h2 => ?_)
  · rw [hP, decide_eq_false (fun t => h2 (by rw [t]))]; exact ⟨rfl, f12⟩
  rw [decide_eq_true (Prod.ext h1 h2), Bool.true_and] at hP
  have deep : ∀ w2, Fr none1 w w2 → (!(numberT a).2 || sameO (numberT a).1 (numberT b).1) = true →
      CallK Tryz.prog 79 #[a.v] w2 (.v (.one .slc)) (fun (x31 : Option Addr × Nat × Nat) w32 => CallK Tryz.prog 79 #[b.v] w32 (.v (.one .slc)) (fun (x33 : Option Addr × Nat × Nat) w34 =>
      CallK Tryz.prog 78 #[.slice x31.1 x31.2.1 x31.2.2, .slice x33.1 x33.2.1 x33.2.2, .func (.func 33) #[] #[]] w34 (.v (.one .bool)) (fun (x35 : Bool) w36 => (Value.bool x35) = .bool (sameT a b) ∧ Fr none1 w w36))) := fun w2 f2 hn => by
    refine CallK.of (tkids_spec a w2) ?_
    rintro _ w3 ⟨u, rfl, hu, f3, _⟩
    refine ⟨u, rfl, ?_⟩
    refine CallK.of (tkids_spec b w3) ?_
    rintro _ w4 ⟨v, rfl, hv, f4, _⟩
    refine ⟨v, rfl, ?_⟩
    refine CallK.of (equal_ts (hu.keep0 f4) hv (kidsT_len a) sameT fun x hx y hy w K hK => ?_) ?_
    · refine callV_of (by kernel_rfl) Tryz.func33 (by kernel_rfl) ((ih x hx y w).mono ?_)
      rintro _ w' ⟨rfl, f⟩
      exact ⟨_, rfl, hK w' f⟩
    · rintro _ w5 ⟨rfl, f5⟩
      exact ⟨_, rfl, by rw [hP, hn, Bool.true_and], ((f2.trans f3).trans f4).trans f5⟩
  refine CallK.of (tnumber_spec a w2) ?_
  rintro _ w3 ⟨rfl, f3⟩
  refine ⟨(_, _, ()), rfl, ifB.by (fun e => ?_) (fun e => ?_)⟩
  · have e : (numberT a).2 = true := e
    refine CallK.of (tnumber_spec b w3) ?_
    rintro _ w4 ⟨rfl, f4⟩
    refine ⟨(_, _, ()), rfl, ?_⟩
    refine CallK.of (osame_spec (numberT a).1 (numberT b).1 w4) ?_
    rintro _ w5 ⟨rfl, f5⟩
    refine ⟨_, rfl, ifB.not (ifB.by (fun e2 => ?_) (fun e2 => ?_))⟩
    · exact deep w5 (((f12.trans f3).trans f4).trans f5) (by rw [e2]; simp)
    · rw [hP, e, e2]; exact ⟨rfl, ((f12.trans f3).trans f4).trans f5⟩
  · have e : (numberT a).2 = false := e
    exact deep w3 (f12.trans f3) (by rw [e]; rfl)
termination_by SizeOf.sizeOf a
decreasing_by exact kidsT_lt hk

end Go.Proofs.YtlhbfdakceipkaaGreatDoor

/-! ### CWake7 -/
namespace Go.Proofs.YtlhbfdakceipkaaGreatDoor
open Vc
set_option maxRecDepth 100000
set_option linter.unusedVariables false
/-- handfast/handfastkeep.Name -/
def C23 (p0 : ByteArray) (p1 : Int) (p2 : Int) (w : World) (K : Value → World → Prop) : Prop :=
  CallK Tryz.prog 32 #[.int .i64 p1, .int .i64 p2] w (.v (.one (.int .i64))) (fun (x1 : Int) w2 => RunK Tryz.prog (Instr.buildSlice 38 1 #[(0, .int .u8 (IntKind.u8.wrap (IntKind.i64.wrap (97 + x1))))]) w2 (.v (.one .slc)) (fun (x3 : Option Addr × Nat × Nat) w4 => RunK Tryz.prog (convert 38 9 (.slice x3.1 x3.2.1 x3.2.2)) w4 (.v (.one .str)) (fun (x5 : ByteArray) w6 => CatK p0 x5 (K (.string (p0 ++ x5)) w6))))
def pl23 : Plan := .auto
theorem e23 (p0 : ByteArray) (p1 : Int) (p2 : Int) (w : World) (K : Value → World → Prop) : vcFunc Tryz.prog Tryz.f23 pl23 [.string p0, .int .i64 p1, .int .i64 p2] w K = C23 p0 p1 p2 w K := by kernel_rfl
theorem c23 (p0 : ByteArray) (p1 : Int) (p2 : Int) (w : World) (K : Value → World → Prop) (h : C23 p0 p1 p2 w K) : Ret Tryz.prog 23 #[.string p0, .int .i64 p1, .int .i64 p2] w K := by
  rw [← e23] at h
  exact vcFunc_sound (by kernel_rfl) Tryz.func23 h

/-- handfast/handfastlaw07.wakes -/
def C25  (w : World) (K : Value → World → Prop) : Prop :=
  CallK Tryz.prog 24 #[.string (⟨#[103, 105, 118, 101, 40, 32, 122, 101, 114, 111, 32, 41]⟩ : ByteArray)] w (.tup [.one .raw, .one (.int .i64), .one (.int .i64)]) (fun (x1 : Value × Int × Int × Unit) w2 => TaK x1.1 89 (.agg [.raw]) (fun (x3 : Value × Unit) => NewK (.cells #[.nilIface] 89) w2 (fun g4 w5 => StsK (⟨g4, 0, none⟩ : Addr) [x3.1] w5 (fun w6 => ifB (x1.2.2.1 == 0)
  (K (.bool true) w6)
  (K (.bool false) w6))))
  (NewK (.cells #[.nilIface] 89) w2 (fun g7 w8 => StsK (⟨g7, 0, none⟩ : Addr) [.nilIface] w8 (fun w9 => ifB (x1.2.2.1 == 0)
  (K (.bool false) w9)
  (K (.bool false) w9)))))
def pl25 : Plan := .auto
theorem e25  (w : World) (K : Value → World → Prop) : vcFunc Tryz.prog Tryz.f25 pl25 [] w K = C25  w K := by kernel_rfl
theorem c25  (w : World) (K : Value → World → Prop) (h : C25  w K) : Ret Tryz.prog 25 #[] w K := by
  rw [← e25] at h
  exact vcFunc_sound (by kernel_rfl) Tryz.func25 h

/-- handfast/handfastlaw07.Text -/
def C26 (p0 : (Option Addr × Nat × Nat) × (Option Addr × Nat × Nat) × Unit) (p1 : Int) (p2 : Int) (p3 : ByteArray) (p4 : Bool) (w : World) (K : Value → World → Prop) : Prop :=
  NewK (.cells #[.slice p0.1.1 p0.1.2.1 p0.1.2.2, .slice p0.2.1.1 p0.2.1.2.1 p0.2.1.2.2] 25) w (fun g1 w2 => ifB p4
  (CallK Tryz.prog 53 #[.string p3, .int .i64 100] w2 (.v (.one .str)) (fun (x3 : ByteArray) w4 => K (.string x3) w4))
  (LdsK [.slc, .slc] (⟨g1, 0, none⟩ : Addr) w2 (fun (x5 : (Option Addr × Nat × Nat) × (Option Addr × Nat × Nat) × Unit) => CallK Tryz.prog 37 #[.agg #[.slice x5.1.1 x5.1.2.1 x5.1.2.2, .slice x5.2.1.1 x5.2.1.2.1 x5.2.1.2.2]] w2 (.v (.agg [.int .i64, .str, .int .i64, .slc])) (fun (x6 : Int × ByteArray × Int × (Option Addr × Nat × Nat) × Unit) w7 => CallK Tryz.prog 62 #[.agg #[.int .i64 x6.1, .string x6.2.1, .int .i64 x6.2.2.1, .slice x6.2.2.2.1.1 x6.2.2.2.1.2.1 x6.2.2.2.1.2.2], .bool false] w7 (.tup [.one .str, .one (.int .i64)]) (fun (x8 : ByteArray × Int × Unit) w9 => RunK Tryz.prog (Instr.buildSlice 23 16 #[(0, .string (⟨#[32]⟩ : ByteArray)), (1, .string (⟨#[40]⟩ : ByteArray)), (2, .string (⟨#[41]⟩ : ByteArray)), (3, .string (⟨#[44]⟩ : ByteArray)), (4, .string (⟨#[48]⟩ : ByteArray)), (5, .string (⟨#[45]⟩ : ByteArray)), (6, .string (⟨#[97]⟩ : ByteArray)), (7, .string (⟨#[122, 101, 114, 111]⟩ : ByteArray)), (8, .string (⟨#[111, 110, 101, 40]⟩ : ByteArray)), (9, .string (⟨#[102, 105, 120, 40, 120, 41]⟩ : ByteArray)), (10, .string (⟨#[195, 169]⟩ : ByteArray)), (11, .string (⟨#[255]⟩ : ByteArray)), (12, .string (⟨#[111, 114]⟩ : ByteArray)), (13, .string (⟨#[10]⟩ : ByteArray)), (14, .string (⟨#[97, 100, 100, 40, 49, 44, 50, 41]⟩ : ByteArray)), (15, .string (⟨#[119, 104, 101, 110, 40, 51, 44, 122, 101, 114, 111, 41]⟩ : ByteArray))]) w9 (.v (.one .slc)) (fun (x10 : Option Addr × Nat × Nat) w11 => CallK Tryz.prog 32 #[.int .i64 p2, .int .i64 (IntKind.i64.wrap ((x8.1.size : Int) + 1))] w11 (.v (.one (.int .i64))) (fun (x12 : Int) w13 => CallK Tryz.prog 32 #[.int .i64 p1, .int .i64 (IntKind.i64.wrap ((x10.2.1 : Int) + 14))] w13 (.v (.one (.int .i64))) (fun (x14 : Int) w15 => ifB (decide (x14 < (x10.2.1 : Int)))
  (DrewK w15 (fun w16 => SubsK x8.1 0 x12 (fun x17 => IdxK x10.1 x10.2.1 x14 1 (fun a18 => LdK .str a18 w16 (fun (x19 : ByteArray) => CatK x17 x19 (SubsK x8.1 x12 x8.1.size (fun x20 => CatK (x17 ++ x19) x20 (K (.string ((x17 ++ x19) ++ x20)) w16))))))))
  (ifB (decide (x14 < (IntKind.i64.wrap ((x10.2.1 : Int) + 5))))
  (ifB (decide (x12 < (x8.1.size : Int)))
  (DrewK w15 (fun w21 => SubsK x8.1 0 x12 (fun x22 => SubsK x8.1 (IntKind.i64.wrap (x12 + 1)) x8.1.size (fun x23 => CatK x22 x23 (K (.string (x22 ++ x23)) w21)))))
  (K (.string x8.1) w15))
  (K (.string x8.1) w15))))))))))
def pl26 : Plan := (.seq .auto (.seq .auto (.seq .auto (.seq .auto (.seq .auto (.seq (.seq .auto (.block (.seq .auto (.cond (.seq .still .auto) (.seq .auto (.cond (.seq .still .auto) .auto)))))) .auto))))))
theorem e26 (p0 : (Option Addr × Nat × Nat) × (Option Addr × Nat × Nat) × Unit) (p1 : Int) (p2 : Int) (p3 : ByteArray) (p4 : Bool) (w : World) (K : Value → World → Prop) : vcFunc Tryz.prog Tryz.f26 pl26 [.agg #[.slice p0.1.1 p0.1.2.1 p0.1.2.2, .slice p0.2.1.1 p0.2.1.2.1 p0.2.1.2.2], .int .i64 p1, .int .i64 p2, .string p3, .bool p4] w K = C26 p0 p1 p2 p3 p4 w K := by kernel_rfl
theorem c26 (p0 : (Option Addr × Nat × Nat) × (Option Addr × Nat × Nat) × Unit) (p1 : Int) (p2 : Int) (p3 : ByteArray) (p4 : Bool) (w : World) (K : Value → World → Prop) (h : C26 p0 p1 p2 p3 p4 w K) : Ret Tryz.prog 26 #[.agg #[.slice p0.1.1 p0.1.2.1 p0.1.2.2, .slice p0.2.1.1 p0.2.1.2.1 p0.2.1.2.2], .int .i64 p1, .int .i64 p2, .string p3, .bool p4] w K := by
  rw [← e26] at h
  exact vcFunc_sound (by kernel_rfl) Tryz.func26 h

end Go.Proofs.YtlhbfdakceipkaaGreatDoor

/-! ### Wake7 -/
set_option linter.unusedVariables false
set_option maxRecDepth 100000
namespace Go.Proofs.YtlhbfdakceipkaaGreatDoor
open Vc

theorem cat_few {a b : ByteArray} {K : Prop} (h : a.size + b.size ≤ 1000000) (k : K) : CatK a b K := ⟨by show ((a.size + b.size : Nat) : Int) ≤ 9223372036854775807; omega, k⟩
theorem elem_u8' : ElemOk Tryz.prog 38 5 1 (.int .u8 0) 1 := ⟨Tryz.underlying38, ⟨Tryz.t5, by kernel_rfl, rfl, rfl, rfl⟩, rfl, by decide⟩

theorem kname_spec (hd : List UInt8) (n of : Int) (h1 : 1 ≤ of) (h2 : of ≤ 26) (hl : hd.length ≤ 1000) (w : World) : Ret Tryz.prog 23 #[.string (str hd), .int .i64 n, .int .i64 of] w fun r w' =>
    r = .string (str (hd ++ [UInt8.ofNat (97 + (within n of).toNat)])) ∧ Fr none1 w w' := by
  refine c23 (str hd) n of w _ ?_
  refine CallK.of (within_spec n of w (by omega)) ?_
  rintro _ _ ⟨rfl, rfl⟩
  refine ⟨_, rfl, ?_⟩
  have hlo := within_lo n of
  have hhi := within_hi n h1
  have e : IntKind.u8.wrap (IntKind.i64.wrap (97 + within n of)) = ((UInt8.ofNat (97 + (within n of).toNat)).toNat : Int) := by
    rw [wI (by omega) (by omega), IntKind.wrap_u8, u8_of (by omega)]; omega
  rw [e]
  obtain ⟨v, w1, r1, hv, hl1, f1, _⟩ := one_ok (P := Tryz.prog) (w := w) elem_u8' (.int .u8 ((UInt8.ofNat (97 + (within n of).toNat)).toNat : Int)) rfl
  refine ⟨v, w1, r1, ?_⟩
  have hr := IsSl.rd hv
  cases hx : v.1 with
  | none => have := (hr.2.1 hx).1; omega
  | some a =>
    have hc := hr.2.2 a hx
    have r2 := run_convert_bytes_back w1 38 9 5 a v.2.2 [UInt8.ofNat (97 + (within n of).toNat)] Tryz.underlying38 Tryz.underlying5 Tryz.underlying9 (fun j hj => by
      have : j = 0 := by simpa using hj
      subst this
      exact hc.1)
    refine ⟨str [UInt8.ofNat (97 + (within n of).toNat)], w1, ?_, ?_⟩
    · rw [hl1]
      exact r2
    · refine cat_few (by rw [str_size, str_size]; simp; omega) ?_
      rw [str_app]
      exact ⟨rfl, f1⟩

theorem rtermB (s : ByteArray) (hl : s.size ≤ 1000000000000) (w : World) : Ret Tryz.prog 24 #[.string s] w fun r w' => r = .tuple #[(readT s.data.toList).1.v, .int .i64 (readT s.data.toList).2.1, .int .i64 (readT s.data.toList).2.2] ∧ Fr none1 w w' := by
  have := rterm_spec s.data.toList (by rw [ba_len]; exact hl) w
  rwa [str_of] at this
theorem robsB (s : ByteArray) (hl : s.size ≤ 1000000000000) (w : World) : Ret Tryz.prog 28 #[.string s] w fun r w' => r = .tuple #[(readO s.data.toList).1.v, .int .i64 (readO s.data.toList).2.1, .int .i64 (readO s.data.toList).2.2] ∧ Fr none1 w w' := by
  have := robs_spec s.data.toList (by rw [ba_len]; exact hl) w
  rwa [str_of] at this

theorem wakes7_read : readT [103, 105, 118, 101, 40, 32, 122, 101, 114, 111, 32, 41] = (.give .zero, 0, 0) := by rfl
theorem wakes7_spec (w : World) : Ret Tryz.prog 25 #[] w fun r w' => r = .bool true ∧ Fr none1 w w' := by
  refine c25 w _ ?_
  refine CallK.of (rterm_spec [103, 105, 118, 101, 40, 32, 122, 101, 114, 111, 32, 41] (by decide) w) ?_
  rintro _ w1 ⟨rfl, f1⟩
  rw [wakes7_read]
  refine ⟨(_, 0, 0, ()), rfl, ?_⟩
  refine TaK.hit (Tm.zero.v, ()) rfl (ns_skip (zs := [.nilIface]) (vs := [Tm.zero.v]) rfl rfl fun w2 f2 => ?_)
  exact ifB.t rfl ⟨rfl, f1.trans f2⟩

/-- A contract that was read is there. -/
theorem readT_there {bs : List UInt8} (h : (readT bs).2.2 = 0) : (readT bs).1 ≠ .none := fun t => by
  have := (readT_inv h).1
  rw [t] at this
  exact absurd this (by decide)
theorem tm_ifc (t : Tm) : ifcT t.v := by cases t <;> first | (exact .inl rfl) | (exact .inr ⟨_, _, rfl⟩)
theorem ob_ifc (o : Ob) : ifcT o.v := by cases o <;> first | (exact .inl rfl) | (exact .inr ⟨_, _, rfl⟩)
theorem nilT_tm (t : Tm) : nilT t.v = true ↔ t = .none := by cases t <;> simp [Tm.v, nilT]
theorem nilT_ob (o : Ob) : nilT o.v = true ↔ o = .none := by cases o <;> simp [Ob.v, nilT]

/-- Is a value of an interface not nil? -/
theorem nil_neq {t : TypeId} (ht : ∃ ms, Tryz.prog.underlying t = some (.interface ms)) (o : Operand) {v : Value} (hv : ifcT v) (w : World) :
    (do eqGuard .neq t o (.const .nilIface) v .nilIface; binOp .neq t v .nilIface : Sem Value).run Tryz.prog w = .ok (.bool (!nilT v)) w := by
  obtain ⟨ms, ht⟩ := ht
  rcases hv with rfl | ⟨u, x, rfl⟩
  · have h1 : (eqGuard .neq t o (.const .nilIface) .nilIface .nilIface).run Tryz.prog w = .ok () w := by
      unfold eqGuard
      simp
    rw [Sem.run_bind, h1, Result.andThen_ok]
    have h2 : (Op.equalIn (9999 + 1) t .nilIface .nilIface).run Tryz.prog w = .ok true w := by
      unfold Op.equalIn
      simp only [Sem.run_bind, under ht, Result.andThen_ok, Sem.run_pure]
    show (do pure (Value.bool (!(← Op.equalIn (9999 + 1) t .nilIface .nilIface))) : Sem Value).run Tryz.prog w = _
    rw [Sem.run_bind, h2]
    rfl
  · have h1 : (eqGuard .neq t o (.const .nilIface) (.iface u x) .nilIface).run Tryz.prog w = .ok () w := by
      unfold eqGuard
      rfl
    rw [Sem.run_bind, h1, Result.andThen_ok]
    have h2 : (Op.equalIn (9999 + 1) t (.iface u x) .nilIface).run Tryz.prog w = .ok false w := by
      unfold Op.equalIn
      simp only [Sem.run_bind, under ht, Result.andThen_ok, Sem.run_pure]
    show (do pure (Value.bool (!(← Op.equalIn (9999 + 1) t (.iface u x) .nilIface))) : Sem Value).run Tryz.prog w = _
    rw [Sem.run_bind, h2]
    rfl
theorem ifc_term : ∃ ms, Tryz.prog.underlying 28 = some (.interface ms) := ⟨_, Tryz.underlying28⟩
theorem ifc_obs : ∃ ms, Tryz.prog.underlying 65 = some (.interface ms) := ⟨_, Tryz.underlying65⟩

end Go.Proofs.YtlhbfdakceipkaaGreatDoor

/-! ### Text7 -/
set_option linter.unusedVariables false
set_option maxRecDepth 100000
namespace Go.Proofs.YtlhbfdakceipkaaGreatDoor
open Vc

/-- What is left of a text that is told rune by rune. -/
def IsItP (w : World) (r : Nat) (bs : List UInt8) (rs : List Int) : Prop := ∃ pos, w.heap[r]? = some (.stringIter (str bs) pos) ∧ runesL (bs.drop pos) = rs
theorem IsItP.keep {w w' : World} {r : Nat} {bs : List UInt8} {rs : List Int} (h : IsItP w r bs rs) {S : Nat → Prop} (f : Fr S w w') (hn : ¬ S r) : IsItP w' r bs rs := by
  obtain ⟨pos, a, b⟩ := h
  exact ⟨pos, f.keep a hn, b⟩
theorem IsItP.keep0 {w w' : World} {r : Nat} {bs : List UInt8} {rs : List Int} (h : IsItP w r bs rs) (f : Fr none1 w w') : IsItP w' r bs rs := h.keep f (fun t => t)
theorem IsItP.left {w : World} {r : Nat} {bs : List UInt8} {rs : List Int} (h : IsItP w r bs rs) : itLen w r = rs.length := by
  obtain ⟨pos, a, b⟩ := h
  unfold itLen
  rw [a, ← b]
  dsimp only
  rw [str_list]
theorem range_okP {w : World} (bs : List UInt8) {K : Option Addr → World → Prop}
    (hK : ∀ r w1, r = w.heap.size → IsItP w1 r bs (runesL bs) → Fr none1 w w1 → K (some ⟨r, 0, none⟩) w1) : RunK Tryz.prog (Instr.range 9 (.string (str bs))) w (.v (.one .ptr)) K := by
  refine ⟨some ⟨w.heap.size, 0, none⟩, { w with heap := w.heap.push (.stringIter (str bs) 0) }, ?_, hK _ _ rfl ⟨0, ?_, by rw [List.drop_zero]⟩ (push_fr w _)⟩
  · unfold Instr.range
    simp only [Sem.run_bind, under Tryz.underlying9, Result.andThen_ok, Sem.run_pure, run_newObj]
    rfl
  · simp
theorem next_okP {w : World} {r : Nat} {bs : List UInt8} {rs : List Int} (h : IsItP w r bs rs) {yes : Int → Int → World → Prop} {no : Prop}
    (hy : ∀ c rest (pos : Nat) w1, rs = c :: rest → okR c → pos < bs.length → IsItP w1 r bs rest → Fr (only r) w w1 → yes (pos : Int) c w1) (hn : rs = [] → no) : NextK (some ⟨r, 0, none⟩) w yes no := by
  obtain ⟨pos, hb, rfl⟩ := h
  refine ⟨r, str bs, pos, rfl, hb, ?_⟩
  rw [str_size]
  split
  · rename_i hlt
    have hne : bs.drop pos ≠ [] := fun t => by
      have := congrArg List.length t
      rw [List.length_drop, List.length_nil] at this
      omega
    have hst := runesL_step _ hne
    have hdec := decL_drop (str bs) pos
    rw [str_list] at hdec
    rw [← hdec, List.drop_drop] at hst
    refine hy _ _ _ _ hst ?_ hlt ⟨_, ?_, rfl⟩ ?_
    · have := okR_dec (bs.drop pos)
      rwa [← hdec] at this
    · have := lt_of_blk hb
      exact Array.getElem?_setIfInBounds_self_of_lt this
    · refine ⟨rfl, rfl, rfl, by simp, fun k hk hn => ?_⟩
      have : r ≠ k := fun e => hn e.symm
      exact Array.getElem?_setIfInBounds_ne this
  · rename_i hge
    refine hn ?_
    rw [List.drop_of_length_le (by omega)]
    rfl

theorem writeT_len (t : Tm) : (writeT t).1.length ≤ 1000 := by
  unfold writeT
  split
  · simp
  split
  · simp
  · dsimp only; omega
theorem writeO_len (o : Ob) : (writeO o).1.length ≤ 1000 := by
  unfold writeO
  split
  · simp
  split
  · simp
  · dsimp only; omega

/-- A text of chapter 7: not long. -/
theorem text7_spec {w : World} {p : PlV} (h : IsPl w p) (what at_ : Int) (s : List UInt8) (raw : Bool) : Ret Tryz.prog 26 #[plA p, .int .i64 what, .int .i64 at_, .string (str s), .bool raw] w fun r w' => ∃ bs : List UInt8, r = .string (str bs) ∧ bs.length ≤ 1100 ∧ Fr none1 w w' := by
  refine c26 p what at_ (str s) raw w _ ?_
  unfold C26
  refine NewK.of fun g1 w1 hg1 hb1 f1 _ => ?_
  refine ifB.by (fun _ => ?_) (fun _ => ?_)
  · refine CallK.of (text1_spec s 100 w1 (by omega)) ?_
    rintro _ _ ⟨rfl, rfl⟩
    refine ⟨_, rfl, _, rfl, ?_, f1⟩
    rw [List.length_take]
    have : (100 : Int).toNat = 100 := rfl
    omega
  refine LdsK.blk (cks := [.slc, .slc]) (x := p) hb1 ?_
  refine CallK.of (right_spec (h.keep0 f1)) ?_
  rintro _ w2 ⟨v, t, rfl, hm, hc, hs, f2⟩
  refine ⟨v, rfl, ?_⟩
  have hf := checkT_form hc
  have hcn := cnt_trT t
  have hln := len_trT t hs
  refine CallK.of (rwrite_spec (trT t) false (by omega) (short_trT t hs) (by omega) hm (fun k hk => hk.2)) ?_
  rintro _ w3 ⟨rfl, f3⟩
  rw [writeR_trT]
  have hwl := writeT_len t
  generalize (writeT t).1 = x at hwl ⊢
  refine ⟨(str x, _, ()), rfl, ?_⟩
  have f13 := (f1.trans f2).trans f3
  refine words_lit [[32], [40], [41], [44], [48], [45], [97], [122, 101, 114, 111], [111, 110, 101, 40], [102, 105, 120, 40, 120, 41], [195, 169], [255], [111, 114], [10], [97, 100, 100, 40, 49, 44, 50, 41], [119, 104, 101, 110, 40, 51, 44, 122, 101, 114, 111, 41]] (by decide) fun u w4 hu f4 _ => ?_
  have hul := hu.len
  have hul : u.2.1 = 16 := hul
  dsimp only
  rw [str_size, hul, wI (by omega) (by omega), wI (by omega) (by omega)]
  refine CallK.of (within_spec at_ _ w4 (by omega)) ?_
  rintro _ _ ⟨rfl, rfl⟩
  refine ⟨_, rfl, ?_⟩
  refine CallK.of (within_spec what _ w4 (by omega)) ?_
  rintro _ _ ⟨rfl, rfl⟩
  refine ⟨_, rfl, ?_⟩
  have hk0 := within_lo at_ ((x.length : Int) + 1)
  have hk1 := within_hi at_ (n := (x.length : Int) + 1) (by omega)
  have hw0 := within_lo what (((16 : Nat) : Int) + 14)
  generalize within at_ ((x.length : Int) + 1) = k at hk0 hk1 ⊢
  generalize within what (((16 : Nat) : Int) + 14) = q at hw0 ⊢
  have f14 := f13.trans f4
  refine ifB.dec (fun hq => ?_) (fun hq => ?_)
  · refine DrewK.of fun w5 _ f5 => ?_
    refine subs_ok (by omega) hk0 (by omega) ?_
    have hq2 : q.toNat < 16 := by omega
    have hs1 : IdxK u.1 u.2.1 ((q.toNat : Nat) : Int) 1 fun p => LdK .str p w5 (fun (x19 : ByteArray) => CatK (str ((x.drop (0 : Int).toNat).take (k.toNat - (0 : Int).toNat))) x19 (SubsK (str x) k ((str x).size : Int) (fun x20 => CatK (str ((x.drop (0 : Int).toNat).take (k.toNat - (0 : Int).toNat)) ++ x19) x20
        (∃ bs : List UInt8, (Value.string ((str ((x.drop (0 : Int).toNat).take (k.toNat - (0 : Int).toNat)) ++ x19) ++ x20)) = .string (str bs) ∧ bs.length ≤ 1100 ∧ Fr none1 w w5)))) := by
      obtain ⟨sx, hsx, hsl⟩ : ∃ sx : List UInt8, [[32], [40], [41], [44], [48], [45], [97], [122, 101, 114, 111], [111, 110, 101, 40], [102, 105, 120, 40, 120, 41], [195, 169], [255], [111, 114], [10], [97, 100, 100, 40, 49, 44, 50, 41], [119, 104, 101, 110, 40, 51, 44, 122, 101, 114, 111, 41]][q.toNat]? = some sx ∧ sx.length ≤ 12 :=
        ⟨_, List.getElem?_eq_getElem hq2, by
          have : ∀ y ∈ ([[32], [40], [41], [44], [48], [45], [97], [122, 101, 114, 111], [111, 110, 101, 40], [102, 105, 120, 40, 120, 41], [195, 169], [255], [111, 114], [10], [97, 100, 100, 40, 49, 44, 50, 41], [119, 104, 101, 110, 40, 51, 44, 122, 101, 114, 111, 41]] : List (List UInt8)), y.length ≤ 12 := by decide
          exact this _ (List.getElem_mem _)⟩
      refine (hu.keep0 f5).ld hsx ?_
      have l1 : ((x.drop (0 : Int).toNat).take (k.toNat - (0 : Int).toNat)).length ≤ x.length := by rw [List.length_take, List.length_drop]; omega
      refine cat_few (by rw [str_size, str_size]; omega) ?_
      refine subs_ok hk0 (by rw [str_size]; omega) (by rw [str_size]; omega) ?_
      rw [str_app]
      refine cat_few (by rw [str_size, str_size, List.length_append, List.length_take, List.length_drop, List.length_take, List.length_drop]; omega) ?_
      rw [str_app]
      refine ⟨_, rfl, ?_, f14.trans f5⟩
      rw [List.length_append, List.length_append, List.length_take, List.length_drop, List.length_take, List.length_drop]; omega
    rw [hul, show ((q.toNat : Nat) : Int) = q by omega] at hs1
    exact hs1
  refine ifB.by (fun _ => ?_) (fun _ => ⟨x, rfl, by omega, f14⟩)
  refine ifB.dec (fun hlt => ?_) (fun _ => ⟨x, rfl, by omega, f14⟩)
  refine DrewK.of fun w5 _ f5 => ?_
  rw [wI (by omega) (by omega)]
  refine subs_ok (by omega) hk0 (by omega) (subs_ok (by omega) (by omega) (by omega) ?_)
  refine cat_few (by rw [str_size, str_size, List.length_take, List.length_drop, List.length_take, List.length_drop]; omega) ?_
  rw [str_app]
  refine ⟨_, rfl, ?_, f14.trans f5⟩
  rw [List.length_append, List.length_take, List.length_drop, List.length_take, List.length_drop]; omega

end Go.Proofs.YtlhbfdakceipkaaGreatDoor

/-! ### RefReadF -/
set_option linter.unusedVariables false
set_option maxRecDepth 100000
namespace Go.Proofs.YtlhbfdakceipkaaGreatDoor
open Vc

/-! ### The document's reader -/
def nextF (s : RS) : List UInt8 := if s.e = 0 then match s.l with | x :: _ => x.1 | [] => [] else []
def stepF (s : RS) : RS := ⟨s.l.tail, s.at_, s.e⟩
def kindG (x : List UInt8) (num : Bool) : Nat → Int → Int
  | 0, _ => 0
  | n + 1, k => if x ≠ [] ∧ wordL k = x ∧ decide (11 ≤ k) = num then k else kindG x num n (k + 1)
def kindR (x : List UInt8) (num : Bool) : Int := kindG x num 16 1
def numOk (day : Bool) (x : List UInt8) : Bool := if day then dayF x else (numF x).2
def partsN (k : Int) : Nat := if k = 3 ∨ k = 7 ∨ k = 14 then 1 else if k = 4 ∨ k = 5 ∨ k = 6 ∨ k = 13 ∨ k = 15 ∨ k = 16 then 2 else if k = 8 then 3 else 0
def comF (k : Int) (i : Nat) : Bool := decide (0 < i) || (k == 5 || k == 7)
def partB (k : Int) (num : Bool) (i : Nat) : Bool := num || ((i == 0) && (k == 6 || k == 8))
def kidsR (fin : Int) (rec : Bool → RS → Tr × RS) (k : Int) (num : Bool) : Nat → Nat → List Tr → RS → List Tr × RS
  | 0, _, acc, s => (acc, s)
  | m + 1, i, acc, s => if s.e ≠ 0 then (acc, s) else
      kidsR fin rec k num m (i + 1) (acc ++ [(rec (partB k num i) (if comF k i = true then mustF fin [44] s else s)).1]) (rec (partB k num i) (if comF k i = true then mustF fin [44] s else s)).2
def headS (fin : Int) (k : Int) (s : RS) : List UInt8 × Int × RS :=
  if k = 2 ∨ k = 5 ∨ k = 12 then ((takeF fin nameL s).1, 0, (takeF fin nameL s).2) else if k = 7 then ([], (numF (takeF fin dayF s).1).1, (takeF fin dayF s).2) else ([], 0, s)
def bodyF (fin : Int) (rec : Bool → RS → Tr × RS) (k : Int) (num : Bool) (s : RS) : Tr × RS :=
  (.mk k (headS fin k s).1 (headS fin k s).2.1 (kidsR fin rec k num (partsN k) 0 [] (headS fin k s).2.2).1, mustF fin [41] (kidsR fin rec k num (partsN k) 0 [] (headS fin k s).2.2).2)
def treeF (fin : Int) : Nat → Bool → RS → Tr × RS
  | 0, num, s => (if num = true then .mk 11 [] 0 [] else .mk 0 [] 0 [], failF fin 5 s)
  | n + 1, num, s =>
    if kindR (nextF s) num = 0 then (if num = true then (.mk 11 [] (numF (takeF fin (numOk false) s).1).1 [], (takeF fin (numOk false) s).2) else (.mk 0 [] 0 [], failF fin 2 s))
    else if kindR (nextF s) num = 1 then (.mk 1 [] 0 [], stepF s)
    else bodyF fin (treeF fin n) (kindR (nextF s) num) num (mustF fin [40] (stepF s))
def begR (bs : List UInt8) : RS := ⟨(sgF [] 0 false (runesL bs)).1, 0, 0⟩
def endR (fin : Int) (s : RS) : RS := if s.e = 0 ∧ s.l ≠ [] then failF fin 2 s else s
def readR (bs : List UInt8) (num : Bool) : Tr × Int × Int :=
  if 1000 < bs.length then (.mk 0 [] 0 [], 0, 5) else if 0 < (sgF [] 0 false (runesL bs)).2 then (.mk 0 [] 0 [], (sgF [] 0 false (runesL bs)).2, 2) else
    if (endR (endF bs) (treeF (endF bs) 12 num (begR bs)).2).e ≠ 0 then (.mk 0 [] 0 [], (endR (endF bs) (treeF (endF bs) 12 num (begR bs)).2).at_, (endR (endF bs) (treeF (endF bs) 12 num (begR bs)).2).e)
    else if checkR (treeF (endF bs) 12 num (begR bs)).1 num ≠ 0 then (.mk 0 [] 0 [], 0, checkR (treeF (endF bs) 12 num (begR bs)).1 num) else ((treeF (endF bs) 12 num (begR bs)).1, 0, 0)

/-! ### Kinds -/
theorem kindG_eq (x : List UInt8) (num : Bool) (n : Nat) (k : Int) : kindG x num (n + 1) k = if x ≠ [] ∧ wordL k = x ∧ decide (11 ≤ k) = num then k else kindG x num n (k + 1) := rfl
theorem kindR_nil (num : Bool) : kindR [] num = 0 := by cases num <;> decide
theorem kindR_none {x : List UInt8} {num : Bool} (h : ∀ k : Int, 1 ≤ k → k ≤ 16 → decide (11 ≤ k) = num → x ≠ [] → wordL k ≠ x) : kindR x num = 0 := by
  have go : ∀ (n : Nat) (k : Int), 1 ≤ k → k + n ≤ 17 → kindG x num n k = 0 := by
    intro n
    induction n with
    | zero => intro k _ _; rfl
    | succ n ih =>
      intro k h1 h2
      rw [kindG_eq, if_neg (fun t => h k h1 (by omega) t.2.2 t.1 t.2.1)]
      exact ih (k + 1) (by omega) (by omega)
  exact go 16 1 (by omega) (by omega)
theorem kind_k {k : Int} (h1 : 1 ≤ k) (h2 : k ≤ 16) : k = 1 ∨ k = 2 ∨ k = 3 ∨ k = 4 ∨ k = 5 ∨ k = 6 ∨ k = 7 ∨ k = 8 ∨ k = 9 ∨ k = 10 ∨ k = 11 ∨ k = 12 ∨ k = 13 ∨ k = 14 ∨ k = 15 ∨ k = 16 := by omega
theorem kindR_noT {x : List UInt8} (h : beginsF x = false) : kindR x false = 0 := by
  refine kindR_none fun k h1 h2 h3 h4 h5 => ?_
  unfold beginsF at h
  simp only [Bool.or_eq_false_iff, beq_eq_false_iff_ne] at h
  obtain ⟨a1, a2, a3, a4, a5, a6, a7, a8⟩ := h
  have h3 : ¬ 11 ≤ k := of_decide_eq_false h3
  rcases kind_k h1 h2 with e | e | e | e | e | e | e | e | e | e | e | e | e | e | e | e <;> subst e <;> first | exact a1 h5.symm | exact a2 h5.symm | exact a3 h5.symm | exact a4 h5.symm | exact a5 h5.symm | exact a6 h5.symm | exact a7 h5.symm | exact a8 h5.symm | exact h4 h5.symm | exact h3 (by decide)
theorem kindR_noO {x : List UInt8} (h : x ≠ [102, 105, 120] ∧ x ≠ [97, 100, 100] ∧ x ≠ [110, 101, 103] ∧ x ≠ [109, 117, 108] ∧ x ≠ [109, 97, 120]) : kindR x true = 0 := by
  refine kindR_none fun k h1 h2 h3 h4 h5 => ?_
  obtain ⟨a1, a2, a3, a4, a5⟩ := h
  have h3 : 11 ≤ k := of_decide_eq_true h3
  rcases kind_k h1 h2 with e | e | e | e | e | e | e | e | e | e | e | e | e | e | e | e <;> subst e <;> first | exact a1 h5.symm | exact a2 h5.symm | exact a3 h5.symm | exact a4 h5.symm | exact a5 h5.symm | exact h4 h5.symm | exact absurd h3 (by decide)
theorem kindR_le (x : List UInt8) (num : Bool) : 0 ≤ kindR x num ∧ kindR x num ≤ 16 := by
  have go : ∀ (n : Nat) (k : Int), 1 ≤ k → k + n ≤ 17 → 0 ≤ kindG x num n k ∧ kindG x num n k ≤ 16 := by
    intro n
    induction n with
    | zero => intro k _ _; exact ⟨Int.le_refl _, show (0 : Int) ≤ 16 by decide⟩
    | succ n ih =>
      intro k h1 h2
      rw [kindG_eq]
      split
      · omega
      · exact ih (k + 1) (by omega) (by omega)
  exact go 16 1 (by omega) (by omega)

/-! ### Behind an error -/
theorem nextF_err {s : RS} (h : s.e ≠ 0) : nextF s = [] := by unfold nextF; rw [if_neg h]
theorem treeF_err (fin : Int) : ∀ (n : Nat) (b : Bool) (s : RS), s.e ≠ 0 → (treeF fin n b s).2 = s
  | 0, b, s, h => failF_err h
  | n + 1, b, s, h => by
    unfold treeF
    rw [nextF_err h, kindR_nil, if_pos rfl]
    cases b
    · exact failF_err h
    · show (takeF fin (numOk false) s).2 = s; rw [takeF_err h]
theorem headS_err {fin k : Int} {s : RS} (h : s.e ≠ 0) : (headS fin k s).2.2 = s := by
  unfold headS; split
  · show (takeF fin nameL s).2 = s; rw [takeF_err h]
  split
  · show (takeF fin dayF s).2 = s; rw [takeF_err h]
  · rfl

/-! ### Parts -/
section
variable {fin : Int} {rec : Bool → RS → Tr × RS} (hr : ∀ b s, s.e ≠ 0 → (rec b s).2 = s)
include hr
def fst (fin k : Int) (i : Nat) (s : RS) : RS := if comF k i = true then mustF fin [44] s else s
omit hr in
theorem fst_err {k : Int} {i : Nat} {s : RS} (h : s.e ≠ 0) : fst fin k i s = s := by unfold fst; split; exact mustF_err h; rfl
omit hr in
theorem kidsR_err (k : Int) (num : Bool) (m i : Nat) (acc : List Tr) {s : RS} (h : s.e ≠ 0) : kidsR fin rec k num m i acc s = (acc, s) := by
  cases m with
  | zero => rfl
  | succ m => unfold kidsR; rw [if_pos h]
omit hr in
theorem kidsR_ok (k : Int) (num : Bool) (m i : Nat) (acc : List Tr) {s : RS} (h : s.e = 0) : kidsR fin rec k num (m + 1) i acc s = kidsR fin rec k num m (i + 1) (acc ++ [(rec (partB k num i) (fst fin k i s)).1]) (rec (partB k num i) (fst fin k i s)).2 := by
  rw [kidsR, if_neg (by simpa using h)]; rfl
/-- The state behind the parts, error or none. -/
theorem kidsR_state (k : Int) (num : Bool) (m i : Nat) (acc : List Tr) (s : RS) : (kidsR fin rec k num (m + 1) i acc s).2 = (kidsR fin rec k num m (i + 1) [] (rec (partB k num i) (fst fin k i s)).2).2 := by
  have acc_eq : ∀ (m i : Nat) (a b : List Tr) (s : RS), (kidsR fin rec k num m i a s).2 = (kidsR fin rec k num m i b s).2 := by
    intro m
    induction m with
    | zero => intro i a b s; rfl
    | succ m ih =>
      intro i a b s
      by_cases h : s.e = 0
      · rw [kidsR_ok k num m i a h, kidsR_ok k num m i b h]; exact ih _ _ _ _
      · rw [kidsR_err k num _ i a h, kidsR_err k num _ i b h]
  by_cases h : s.e = 0
  · rw [kidsR_ok k num m i acc h]; exact acc_eq _ _ _ _ _
  · rw [kidsR_err k num _ i acc h, fst_err h, hr _ s h, kidsR_err k num m (i + 1) [] h]
end

/-! ### What went before went well -/
theorem must_back {fin : Int} {x : List UInt8} {s : RS} (h : (mustF fin x s).e = 0) : s.e = 0 := (must_inv h).e
theorem take_back {fin : Int} {right : List UInt8 → Bool} {s : RS} (h : (takeF fin right s).2.e = 0) : s.e = 0 := (take_inv h).1.e
theorem fst_back {fin k : Int} {i : Nat} {s : RS} (h : (fst fin k i s).e = 0) : s.e = 0 := by
  unfold fst at h; split at h
  · exact must_back h
  · exact h
theorem fail_not {fin c : Int} (hc : c ≠ 0) {s : RS} : (failF fin c s).e ≠ 0 := by
  unfold failF; split
  · exact hc
  · rename_i h; exact h
section
variable {fin : Int} {rec : Bool → RS → Tr × RS} (hr : ∀ b s, s.e ≠ 0 → (rec b s).2 = s)
include hr
theorem rec_back {b : Bool} {s : RS} (h : (rec b s).2.e = 0) : s.e = 0 := Classical.byContradiction fun hn => by rw [hr b s hn] at h; exact hn h
theorem kids1_state (k : Int) (num : Bool) (s : RS) : (kidsR fin rec k num 1 0 [] s).2 = (rec (partB k num 0) (fst fin k 0 s)).2 := kidsR_state hr k num 0 0 [] s
theorem kids1_list (k : Int) (num : Bool) (s : RS) (h : (rec (partB k num 0) (fst fin k 0 s)).2.e = 0) : (kidsR fin rec k num 1 0 [] s).1 = [(rec (partB k num 0) (fst fin k 0 s)).1] := by
  rw [kidsR_ok k num 0 0 [] (fst_back (rec_back hr h))]; rfl
theorem kids2_state (k : Int) (num : Bool) (s : RS) : (kidsR fin rec k num 2 0 [] s).2 = (rec (partB k num 1) (mustF fin [44] (rec (partB k num 0) (fst fin k 0 s)).2)).2 := by
  rw [kidsR_state hr k num 1 0 [] s, kidsR_state hr k num 0 1 [] _]; rfl
theorem kids2_list (k : Int) (num : Bool) (s : RS) (h : (rec (partB k num 1) (mustF fin [44] (rec (partB k num 0) (fst fin k 0 s)).2)).2.e = 0) :
    (kidsR fin rec k num 2 0 [] s).1 = [(rec (partB k num 0) (fst fin k 0 s)).1, (rec (partB k num 1) (mustF fin [44] (rec (partB k num 0) (fst fin k 0 s)).2)).1] := by
  have h1 := must_back (rec_back hr h)
  exact congrArg Prod.fst ((kidsR_ok k num 1 0 [] (fst_back (rec_back hr h1))).trans (kidsR_ok k num 0 1 _ h1))
theorem kids3_state (k : Int) (num : Bool) (s : RS) : (kidsR fin rec k num 3 0 [] s).2 = (rec (partB k num 2) (mustF fin [44] (rec (partB k num 1) (mustF fin [44] (rec (partB k num 0) (fst fin k 0 s)).2)).2)).2 := by
  rw [kidsR_state hr k num 2 0 [] s, kidsR_state hr k num 1 1 [] _, kidsR_state hr k num 0 2 [] _]; rfl
theorem kids3_list (k : Int) (num : Bool) (s : RS) (h : (rec (partB k num 2) (mustF fin [44] (rec (partB k num 1) (mustF fin [44] (rec (partB k num 0) (fst fin k 0 s)).2)).2)).2.e = 0) :
    (kidsR fin rec k num 3 0 [] s).1 = [(rec (partB k num 0) (fst fin k 0 s)).1, (rec (partB k num 1) (mustF fin [44] (rec (partB k num 0) (fst fin k 0 s)).2)).1, (rec (partB k num 2) (mustF fin [44] (rec (partB k num 1) (mustF fin [44] (rec (partB k num 0) (fst fin k 0 s)).2)).2)).1] := by
  have h2 := must_back (rec_back hr h)
  have h1 := must_back (rec_back hr h2)
  exact congrArg Prod.fst ((kidsR_ok k num 2 0 [] (fst_back (rec_back hr h1))).trans ((kidsR_ok k num 1 1 _ h1).trans (kidsR_ok k num 0 2 _ h2)))
end

/-! ### The same as the program's -/
/-- The same state; where all is well, the same. -/
def SameO (a : Tr × RS) (b : Ob × RS) : Prop := a.2 = b.2 ∧ (b.2.e = 0 → a.1 = trO b.1)
def SameT (a : Tr × RS) (b : Tm × RS) : Prop := a.2 = b.2 ∧ (b.2.e = 0 → a.1 = trT b.1)

theorem sameO_num (fin : Int) : ∀ (n : Nat) (s : RS), SameO (treeF fin n true s) (numR fin n s)
  | 0, s => ⟨rfl, fun h => (fail_not (by decide) h).elim⟩
  | n + 1, s => by
    have ih := sameO_num fin n
    have hr := treeF_err fin n
    by_cases he : s.e = 0
    rotate_left
    · refine ⟨?_, fun h => ?_⟩
      · rw [treeF_err fin _ _ s he, numR_err fin _ s he]
      · rw [numR_err fin _ s he] at h; exact (he h).elim
    obtain ⟨l, a, e⟩ := s
    dsimp only at he; subst he
    unfold treeF numR
    rw [if_neg (show ¬ ((0 : Int) ≠ 0) by decide)]
    cases l with
    | nil =>
      rw [show nextF ⟨[], a, 0⟩ = [] from rfl, kindR_nil, if_pos rfl, if_pos rfl, takeF_nil, takeF_nil, if_pos rfl]
      exact ⟨rfl, fun h => absurd (show (2 : Int) = 0 from h) (by decide)⟩
    | cons x l =>
      obtain ⟨x, p⟩ := x
      rw [show nextF ⟨(x, p) :: l, a, 0⟩ = x from rfl, show stepF ⟨(x, p) :: l, a, 0⟩ = ⟨l, a, 0⟩ from rfl]
      by_cases hw : wordF' x = true
      · rw [takeF_hit (right := wordF') (x := (x, p)) hw]
        have hne : x ≠ [] := by rintro rfl; exact absurd hw (by decide +kernel)
        rw [if_neg hne]
        dsimp only
        have two : ∀ k : Int, (k = 13 ∨ k = 15 ∨ k = 16) → ∀ (s2 : RS) (f : Ob → Ob → Ob), (∀ l r, trO (f l r) = .mk k [] 0 [trO l, trO r]) → SameO (bodyF fin (treeF fin n) k true (mustF fin [40] s2)) (f (pairF fin (numR fin n) s2).1 (pairF fin (numR fin n) s2).2.1, (pairF fin (numR fin n) s2).2.2) := by
          intro k hk s2 f hf
          have hp : partsN k = 2 := by rcases hk with rfl | rfl | rfl <;> decide
          have hh : ∀ s, headS fin k s = ([], 0, s) := fun s => by rcases hk with rfl | rfl | rfl <;> rfl
          have hf0 : ∀ s, fst fin k 0 s = s := fun s => by rcases hk with rfl | rfl | rfl <;> rfl
          have hb : ∀ i, partB k true i = true := fun i => rfl
          unfold bodyF pairF
          rw [hh, hp]
          dsimp only
          generalize mustF fin [40] s2 = s3
          rw [kids2_state hr, hf0, hb, hb]
          have i1 := ih s3
          have i2 := ih (mustF fin [44] (numR fin n s3).2)
          have hl := kids2_list (fin := fin) hr k true s3
          rw [hf0, hb, hb] at hl
          rw [i1.1] at hl ⊢
          rw [i2.1] at hl ⊢
          refine ⟨rfl, fun h => ?_⟩
          have h2 := must_back h
          have h1 : (numR fin n s3).2.e = 0 := must_back (Classical.byContradiction fun hn => by rw [numR_err fin n _ hn] at h2; exact hn h2)
          show Tr.mk k [] 0 _ = trO (f _ _)
          rw [hl h2, hf, i1.2 h1, i2.2 h2]
        rcases word_cases hw with c | c | c | c | c | c
        · subst c
          rw [show kindR [102, 105, 120] true = 12 by decide, if_neg (by decide), if_neg (by decide)]
          exact ⟨rfl, fun _ => rfl⟩
        · subst c
          rw [show kindR [97, 100, 100] true = 13 by decide, if_neg (by decide), if_neg (by decide)]
          exact two 13 (by decide) _ Ob.add (fun _ _ => rfl)
        · subst c
          rw [show kindR [110, 101, 103] true = 14 by decide, if_neg (by decide), if_neg (by decide)]
          show SameO (Tr.mk 14 [] 0 (kidsR fin (treeF fin n) 14 true 1 0 [] (mustF fin [40] ⟨l, a, 0⟩)).1, mustF fin [41] (kidsR fin (treeF fin n) 14 true 1 0 [] (mustF fin [40] ⟨l, a, 0⟩)).2) (Ob.neg (numR fin n (mustF fin [40] ⟨l, a, 0⟩)).1, mustF fin [41] (numR fin n (mustF fin [40] ⟨l, a, 0⟩)).2)
          generalize mustF fin [40] ⟨l, a, 0⟩ = s3
          have i1 := ih s3
          have hl := kids1_list (fin := fin) hr 14 true s3
          rw [kids1_state hr]
          rw [show fst fin 14 0 s3 = s3 from rfl, show partB 14 true 0 = true from rfl] at hl ⊢
          rw [i1.1] at hl ⊢
          refine ⟨rfl, fun h => ?_⟩
          have h1 := must_back h
          show Tr.mk 14 [] 0 _ = trO (.neg _)
          rw [hl h1, i1.2 h1]; rfl
        · subst c
          rw [show kindR [109, 117, 108] true = 15 by decide, if_neg (by decide), if_neg (by decide)]
          exact two 15 (by decide) _ Ob.mul (fun _ _ => rfl)
        · subst c
          rw [show kindR [109, 97, 120] true = 16 by decide, if_neg (by decide), if_neg (by decide)]
          exact two 16 (by decide) _ Ob.max (fun _ _ => rfl)
        · have hn := word_num c
          rw [kindR_noO ⟨hn.2.1, hn.2.2.2.1, hn.2.2.1, hn.2.2.2.2.1, hn.2.2.2.2.2⟩, if_pos rfl, if_pos rfl, takeF_hit (right := numOk false) (x := (x, p)) c]
          unfold numK
          rw [if_neg hn.2.1, if_neg hn.2.2.1, if_neg hn.2.2.2.1, if_neg hn.2.2.2.2.1, if_neg hn.2.2.2.2.2]
          exact ⟨rfl, fun _ => rfl⟩
      · rw [takeF_miss (right := wordF') (x := (x, p)) hw, if_pos rfl]
        have hw' : wordF' x = false := by simpa using hw
        unfold wordF' at hw'
        simp only [Bool.or_eq_false_iff, beq_eq_false_iff_ne] at hw'
        obtain ⟨a0, a1, a2, a3, a4, a5⟩ := hw'
        rw [kindR_noO ⟨a1, a2, a3, a4, a5⟩, if_pos rfl, if_pos rfl, takeF_miss (right := numOk false) (x := (x, p)) (by show ¬ (numF x).2 = true; rw [a0]; decide)]
        exact ⟨rfl, fun h => absurd (show (2 : Int) = 0 from h) (by decide)⟩

theorem sameT_con (fin : Int) : ∀ (n : Nat) (s : RS), SameT (treeF fin n false s) (conR fin n s)
  | 0, s => ⟨rfl, fun h => (fail_not (by decide) h).elim⟩
  | n + 1, s => by
    have ih := sameT_con fin n
    have ihO := sameO_num fin n
    have hr := treeF_err fin n
    by_cases he : s.e = 0
    rotate_left
    · refine ⟨?_, fun h => ?_⟩
      · rw [treeF_err fin _ _ s he, conR_err fin _ s he]
      · rw [conR_err fin _ s he] at h; exact (he h).elim
    obtain ⟨l, a, e⟩ := s
    dsimp only at he; subst he
    unfold treeF conR
    rw [if_neg (show ¬ ((0 : Int) ≠ 0) by decide)]
    cases l with
    | nil =>
      rw [show nextF ⟨[], a, 0⟩ = [] from rfl, kindR_nil, if_pos rfl, if_neg (by decide), takeF_nil, if_pos rfl]
      exact ⟨rfl, fun h => absurd (show (2 : Int) = 0 from h) (by decide)⟩
    | cons x l =>
      obtain ⟨x, p⟩ := x
      rw [show nextF ⟨(x, p) :: l, a, 0⟩ = x from rfl, show stepF ⟨(x, p) :: l, a, 0⟩ = ⟨l, a, 0⟩ from rfl]
      by_cases hw : beginsF x = true
      · rw [takeF_hit (right := beginsF) (x := (x, p)) hw]
        have hne : x ≠ [] := by rintro rfl; exact absurd hw (by decide)
        rw [if_neg hne]
        dsimp only
        rcases begins_cases hw with c | c | c | c | c | c | c | c
        · subst c
          rw [show kindR [122, 101, 114, 111] false = 1 by decide, if_neg (by decide), if_pos rfl, if_pos rfl]
          exact ⟨rfl, fun _ => rfl⟩
        all_goals (subst c; generalize mustF fin [40] ⟨l, a, 0⟩ = s3)
        · rw [show kindR [111, 110, 101] false = 2 by decide, if_neg (by decide), if_neg (by decide), if_neg (by decide)]
          exact ⟨rfl, fun _ => rfl⟩
        · rw [show kindR [103, 105, 118, 101] false = 3 by decide, if_neg (by decide), if_neg (by decide), if_neg (by decide)]
          show SameT (Tr.mk 3 [] 0 (kidsR fin (treeF fin n) 3 false 1 0 [] s3).1, mustF fin [41] (kidsR fin (treeF fin n) 3 false 1 0 [] s3).2) (Tm.give (conR fin n s3).1, mustF fin [41] (conR fin n s3).2)
          have i1 := ih s3
          have hl := kids1_list (fin := fin) hr 3 false s3
          rw [kids1_state hr]
          rw [show fst fin 3 0 s3 = s3 from rfl, show partB 3 false 0 = false from rfl] at hl ⊢
          rw [i1.1] at hl ⊢
          refine ⟨rfl, fun h => ?_⟩
          have h1 := must_back h
          show Tr.mk 3 [] 0 _ = trT (.give _)
          rw [hl h1, i1.2 h1]; rfl
        · rw [show kindR [97, 110, 100] false = 4 by decide, if_neg (by decide), if_neg (by decide), if_neg (by decide)]
          show SameT (Tr.mk 4 [] 0 (kidsR fin (treeF fin n) 4 false 2 0 [] s3).1, mustF fin [41] (kidsR fin (treeF fin n) 4 false 2 0 [] s3).2) (Tm.and (bothF fin (conR fin n) s3).1 (bothF fin (conR fin n) s3).2.1, (bothF fin (conR fin n) s3).2.2)
          unfold bothF
          dsimp only
          have i1 := ih s3
          have i2 := ih (mustF fin [44] (conR fin n s3).2)
          have hl := kids2_list (fin := fin) hr 4 false s3
          rw [kids2_state hr]
          rw [show fst fin 4 0 s3 = s3 from rfl, show partB 4 false 0 = false from rfl, show partB 4 false 1 = false from rfl] at hl ⊢
          rw [i1.1] at hl ⊢
          rw [i2.1] at hl ⊢
          refine ⟨rfl, fun h => ?_⟩
          have h2 := must_back h
          have h1 : (conR fin n s3).2.e = 0 := must_back (Classical.byContradiction fun hn => by rw [conR_err fin n _ hn] at h2; exact hn h2)
          show Tr.mk 4 [] 0 _ = trT (.and _ _)
          rw [hl h2, i1.2 h1, i2.2 h2]; rfl
        · rw [show kindR [111, 114] false = 5 by decide, if_neg (by decide), if_neg (by decide), if_neg (by decide)]
          show SameT (Tr.mk 5 (takeF fin nameL s3).1 0 (kidsR fin (treeF fin n) 5 false 2 0 [] (takeF fin nameL s3).2).1, mustF fin [41] (kidsR fin (treeF fin n) 5 false 2 0 [] (takeF fin nameL s3).2).2)
            (Tm.or (takeF fin nameL s3).1 (bothF fin (conR fin n) (mustF fin [44] (takeF fin nameL s3).2)).1 (bothF fin (conR fin n) (mustF fin [44] (takeF fin nameL s3).2)).2.1, (bothF fin (conR fin n) (mustF fin [44] (takeF fin nameL s3).2)).2.2)
          generalize (takeF fin nameL s3).1 = nm
          generalize (takeF fin nameL s3).2 = s4
          unfold bothF
          dsimp only
          have hl := kids2_list (fin := fin) hr 5 false s4
          rw [kids2_state hr]
          rw [show fst fin 5 0 s4 = mustF fin [44] s4 from rfl, show partB 5 false 0 = false from rfl, show partB 5 false 1 = false from rfl] at hl ⊢
          generalize mustF fin [44] s4 = s5 at hl ⊢
          have i1 := ih s5
          have i2 := ih (mustF fin [44] (conR fin n s5).2)
          rw [i1.1] at hl ⊢
          rw [i2.1] at hl ⊢
          refine ⟨rfl, fun h => ?_⟩
          have h2 := must_back h
          have h1 : (conR fin n s5).2.e = 0 := must_back (Classical.byContradiction fun hn => by rw [conR_err fin n _ hn] at h2; exact hn h2)
          show Tr.mk 5 nm 0 _ = trT (.or nm _ _)
          rw [hl h2, i1.2 h1, i2.2 h2]; rfl
        · rw [show kindR [115, 99, 97, 108, 101] false = 6 by decide, if_neg (by decide), if_neg (by decide), if_neg (by decide)]
          show SameT (Tr.mk 6 [] 0 (kidsR fin (treeF fin n) 6 false 2 0 [] s3).1, mustF fin [41] (kidsR fin (treeF fin n) 6 false 2 0 [] s3).2)
            (Tm.scale (numR fin n s3).1 (conR fin n (mustF fin [44] (numR fin n s3).2)).1, mustF fin [41] (conR fin n (mustF fin [44] (numR fin n s3).2)).2)
          have i1 := ihO s3
          have i2 := ih (mustF fin [44] (numR fin n s3).2)
          have hl := kids2_list (fin := fin) hr 6 false s3
          rw [kids2_state hr]
          rw [show fst fin 6 0 s3 = s3 from rfl, show partB 6 false 0 = true from rfl, show partB 6 false 1 = false from rfl] at hl ⊢
          rw [i1.1] at hl ⊢
          rw [i2.1] at hl ⊢
          refine ⟨rfl, fun h => ?_⟩
          have h2 := must_back h
          have h1 : (numR fin n s3).2.e = 0 := must_back (Classical.byContradiction fun hn => by rw [conR_err fin n _ hn] at h2; exact hn h2)
          show Tr.mk 6 [] 0 _ = trT (.scale _ _)
          rw [hl h2, i1.2 h1, i2.2 h2]; rfl
        · rw [show kindR [119, 104, 101, 110] false = 7 by decide, if_neg (by decide), if_neg (by decide), if_neg (by decide)]
          show SameT (Tr.mk 7 [] (numF (takeF fin dayF s3).1).1 (kidsR fin (treeF fin n) 7 false 1 0 [] (takeF fin dayF s3).2).1, mustF fin [41] (kidsR fin (treeF fin n) 7 false 1 0 [] (takeF fin dayF s3).2).2)
            (Tm.when (numF (takeF fin dayF s3).1).1 (conR fin n (mustF fin [44] (takeF fin dayF s3).2)).1, mustF fin [41] (conR fin n (mustF fin [44] (takeF fin dayF s3).2)).2)
          generalize (numF (takeF fin dayF s3).1).1 = nm
          generalize (takeF fin dayF s3).2 = s4
          have hl := kids1_list (fin := fin) hr 7 false s4
          rw [kids1_state hr]
          rw [show fst fin 7 0 s4 = mustF fin [44] s4 from rfl, show partB 7 false 0 = false from rfl] at hl ⊢
          generalize mustF fin [44] s4 = s5 at hl ⊢
          have i1 := ih s5
          rw [i1.1] at hl ⊢
          refine ⟨rfl, fun h => ?_⟩
          have h1 := must_back h
          show Tr.mk 7 [] nm _ = trT (.when nm _)
          rw [hl h1, i1.2 h1]; rfl
        · rw [show kindR [105, 102] false = 8 by decide, if_neg (by decide), if_neg (by decide), if_neg (by decide)]
          show SameT (Tr.mk 8 [] 0 (kidsR fin (treeF fin n) 8 false 3 0 [] s3).1, mustF fin [41] (kidsR fin (treeF fin n) 8 false 3 0 [] s3).2)
            (Tm.cond (numR fin n s3).1 (bothF fin (conR fin n) (mustF fin [44] (numR fin n s3).2)).1 (bothF fin (conR fin n) (mustF fin [44] (numR fin n s3).2)).2.1, (bothF fin (conR fin n) (mustF fin [44] (numR fin n s3).2)).2.2)
          unfold bothF
          dsimp only
          have i1 := ihO s3
          have hl := kids3_list (fin := fin) hr 8 false s3
          rw [kids3_state hr]
          rw [show fst fin 8 0 s3 = s3 from rfl, show partB 8 false 0 = true from rfl, show partB 8 false 1 = false from rfl, show partB 8 false 2 = false from rfl] at hl ⊢
          rw [i1.1] at hl ⊢
          have i2 := ih (mustF fin [44] (numR fin n s3).2)
          rw [i2.1] at hl ⊢
          have i3 := ih (mustF fin [44] (conR fin n (mustF fin [44] (numR fin n s3).2)).2)
          rw [i3.1] at hl ⊢
          refine ⟨rfl, fun h => ?_⟩
          have h3 := must_back h
          have h2 : (conR fin n (mustF fin [44] (numR fin n s3).2)).2.e = 0 := must_back (Classical.byContradiction fun hn => by rw [conR_err fin n _ hn] at h3; exact hn h3)
          have h1 : (numR fin n s3).2.e = 0 := must_back (Classical.byContradiction fun hn => by rw [conR_err fin n _ hn] at h2; exact hn h2)
          show Tr.mk 8 [] 0 _ = trT (.cond _ _ _)
          rw [hl h3, i1.2 h1, i2.2 h2, i3.2 h3]; rfl
      · rw [takeF_miss (right := beginsF) (x := (x, p)) hw, if_pos rfl]
        rw [kindR_noT (by simpa using hw), if_pos rfl, if_neg (by decide)]
        exact ⟨rfl, fun h => absurd (show (2 : Int) = 0 from h) (by decide)⟩

/-! ### The document reads as the program does -/
theorem endR_done {fin : Int} {s : RS} : (endR fin s) = doneF fin s := by
  unfold endR doneF
  obtain ⟨l, a, e⟩ := s
  cases l with
  | nil => simp
  | cons x l =>
    dsimp only
    by_cases he : e = 0
    · rw [if_pos ⟨he, by simp⟩]
    · rw [if_neg (fun t => he t.1)]; exact (failF_err he).symm
theorem doneF_err {fin : Int} {s : RS} (h : s.e ≠ 0) : doneF fin s = s := by
  unfold doneF; split
  · rfl
  · exact failF_err h
theorem readR_T (bs : List UInt8) : readR bs false = (trT (readT bs).1, (readT bs).2) := by
  unfold readR readT conS
  by_cases hl : 1000 < bs.length
  · rw [if_pos hl]
    have hb : beginF bs = ⟨[], 0, 5⟩ := by unfold beginF; rw [if_pos hl]
    have h5 : (⟨[], 0, 5⟩ : RS).e ≠ 0 := by show (5 : Int) ≠ 0; decide
    rw [hb, conR_err _ _ _ h5, doneF_err h5, if_pos h5]; rfl
  rw [if_neg hl]
  by_cases hb : 0 < (sgF [] 0 false (runesL bs)).2
  · rw [if_pos hb]
    have hbe : beginF bs = ⟨(sgF [] 0 false (runesL bs)).1, (sgF [] 0 false (runesL bs)).2, 2⟩ := by unfold beginF; rw [if_neg hl, if_pos hb]
    have h2 : (⟨(sgF [] 0 false (runesL bs)).1, (sgF [] 0 false (runesL bs)).2, 2⟩ : RS).e ≠ 0 := by show (2 : Int) ≠ 0; decide
    rw [hbe, conR_err _ _ _ h2, doneF_err h2, if_pos h2]; rfl
  rw [if_neg hb]
  have hbe : beginF bs = begR bs := by unfold beginF begR; rw [if_neg hl, if_neg hb]
  have hs := sameT_con (endF bs) 12 (begR bs)
  rw [hbe, endR_done, hs.1]
  by_cases he : (doneF (endF bs) (conR (endF bs) 12 (begR bs)).2).e = 0
  · have hd := doneF_ok he
    have ha := (conR_inv (endF bs) 12 (begR bs) hd.1).1.at_
    have ha : (conR (endF bs) 12 (begR bs)).2.at_ = 0 := ha
    have hne : ¬ (doneF (endF bs) (conR (endF bs) 12 (begR bs)).2).e ≠ 0 := by simpa using he
    simp only [if_neg hne]
    rw [hs.2 hd.1, check_trT, hd.2.2, ha]
    split <;> rfl
  · simp only [if_pos he]; rfl
theorem readR_O (bs : List UInt8) : readR bs true = (trO (readO bs).1, (readO bs).2) := by
  unfold readR readO numS
  by_cases hl : 1000 < bs.length
  · rw [if_pos hl]
    have hb : beginF bs = ⟨[], 0, 5⟩ := by unfold beginF; rw [if_pos hl]
    have h5 : (⟨[], 0, 5⟩ : RS).e ≠ 0 := by show (5 : Int) ≠ 0; decide
    rw [hb, numR_err _ _ _ h5, doneF_err h5, if_pos h5]; rfl
  rw [if_neg hl]
  by_cases hb : 0 < (sgF [] 0 false (runesL bs)).2
  · rw [if_pos hb]
    have hbe : beginF bs = ⟨(sgF [] 0 false (runesL bs)).1, (sgF [] 0 false (runesL bs)).2, 2⟩ := by unfold beginF; rw [if_neg hl, if_pos hb]
    have h2 : (⟨(sgF [] 0 false (runesL bs)).1, (sgF [] 0 false (runesL bs)).2, 2⟩ : RS).e ≠ 0 := by show (2 : Int) ≠ 0; decide
    rw [hbe, numR_err _ _ _ h2, doneF_err h2, if_pos h2]; rfl
  rw [if_neg hb]
  have hbe : beginF bs = begR bs := by unfold beginF begR; rw [if_neg hl, if_neg hb]
  have hs := sameO_num (endF bs) 12 (begR bs)
  rw [hbe, endR_done, hs.1]
  by_cases he : (doneF (endF bs) (numR (endF bs) 12 (begR bs)).2).e = 0
  · have hd := doneF_ok he
    have ha := (numR_inv (endF bs) 12 (begR bs) hd.1).1.at_
    have ha : (numR (endF bs) 12 (begR bs)).2.at_ = 0 := ha
    have hne : ¬ (doneF (endF bs) (numR (endF bs) 12 (begR bs)).2).e ≠ 0 := by simpa using he
    simp only [if_neg hne]
    rw [hs.2 hd.1, check_trO, hd.2.2, ha]
    split <;> rfl
  · simp only [if_pos he]; rfl

/-! ### How much is in a tree that was read -/
mutual
def wideR : Tr → Nat
  | .mk _ _ _ ks => 1 + wideRs ks
def wideRs : List Tr → Nat
  | [] => 0
  | t :: ts => wideR t + wideRs ts
end

end Go.Proofs.YtlhbfdakceipkaaGreatDoor

/-! ### CRefSg -/
namespace Go.Proofs.YtlhbfdakceipkaaGreatDoor
open Vc
set_option maxRecDepth 100000
set_option linter.unusedVariables false
/-- handfast/handfastref01.Number -/
def C159 (p0 : ByteArray) (w : World) (K : Value → World → Prop) : Prop :=
  JoinK (Bool × Unit) (fun J1 => ifB (decide ((p0.size : Int) > 0))
  (StrK p0 0 (fun x4 => J1 ((x4 == 45), ()) w))
  (J1 (false, ()) w))
  (fun _ s2 w3 => JoinK (ByteArray × Unit) (fun J5 => ifB s2.1
  (SubsK p0 1 p0.size (fun x8 => J5 (x8, ()) w3))
  (J5 (p0, ()) w3))
  (fun _ s6 w7 => JoinK (Bool × Unit) (fun J9 => ifB (decide ((s6.1.size : Int) < 1))
  (J9 (true, ()) w7)
  (ifB (decide ((s6.1.size : Int) > 13))
  (J9 (true, ()) w7)
  (StrK s6.1 0 (fun x12 => ifB (x12 == 48)
  (ifB (decide ((s6.1.size : Int) > 1))
  (J9 (true, ()) w7)
  (J9 (s2.1, ()) w7))
  (J9 (false, ()) w7)))))
  (fun _ s10 w11 => ifB s10.1
  (K (.tuple #[.int .i64 0, .bool false]) w11)
  (LoopK (Int × Int × Unit) (fun _ s13 w14 next15 => ifB (decide (s13.2.1 < (s6.1.size : Int)))
  (StrK s6.1 s13.2.1 (fun x16 => ifB (decide (x16 < 48))
  (K (.tuple #[.int .i64 0, .bool false]) w14)
  (StrK s6.1 s13.2.1 (fun x17 => ifB (decide (x17 > 57))
  (K (.tuple #[.int .i64 0, .bool false]) w14)
  (StrK s6.1 s13.2.1 (fun x18 => next15 (IntKind.i64.wrap ((IntKind.i64.wrap (10 * s13.1)) + (IntKind.i64.wrap (IntKind.u8.wrap (x18 - 48)))), IntKind.i64.wrap (s13.2.1 + 1), ()) w14))))))
  (ifB (decide (s13.1 > 1000000000000))
  (K (.tuple #[.int .i64 0, .bool false]) w14)
  (ifB s2.1
  (K (.tuple #[.int .i64 (IntKind.i64.wrap (0 - s13.1)), .bool true]) w14)
  (K (.tuple #[.int .i64 s13.1, .bool true]) w14))))
  (0, 0, ()) w11))))
def pl159 : Plan := (.seq .auto (.join [(4, .one .bool)] .auto (.join [(0, .one .str)] .auto (.seq (.join [(38, .one .bool)] .auto .auto) (.seq .auto (.seq (.seq .auto (.block (.loop [(5, .one (.int .i64)), (6, .one (.int .i64))] .auto))) .auto))))))
theorem e159 (p0 : ByteArray) (w : World) (K : Value → World → Prop) : vcFunc Tryz.prog Tryz.f159 pl159 [.string p0] w K = C159 p0 w K := by kernel_rfl
theorem c159 (p0 : ByteArray) (w : World) (K : Value → World → Prop) (h : C159 p0 w K) : Ret Tryz.prog 159 #[.string p0] w K := by
  rw [← e159] at h
  exact vcFunc_sound (by kernel_rfl) Tryz.func159 h

/-- handfast/handfastref01.Signs -/
def C67 (p0 : ByteArray) (w : World) (K : Value → World → Prop) : Prop :=
  CallK Tryz.prog 120 #[.string p0] w (.v (.one .slc)) (fun (x1 : Option Addr × Nat × Nat) w2 => RunK Tryz.prog (Instr.buildSlice 131 1 #[(0, .int .i32 32)]) w2 (.v (.one .slc)) (fun (x3 : Option Addr × Nat × Nat) w4 => RunK Tryz.prog (Builtin.append_ #[131, 131] 131 #[.slice x1.1 x1.2.1 x1.2.2, .slice x3.1 x3.2.1 x3.2.2]) w4 (.v (.one .slc)) (fun (x5 : Option Addr × Nat × Nat) w6 => LoopK ((Option Addr × Nat × Nat) × ByteArray × Int × Int × Unit) (fun _ s7 w8 next9 => ifB (decide (s7.2.2.2.1 < (x5.2.1 : Int)))
  (IdxK x5.1 x5.2.1 s7.2.2.2.1 1 (fun a10 => LdK (.int .i32) a10 w8 (fun (x11 : Int) => JoinK (Bool × Unit) (fun J12 => CallK Tryz.prog 121 #[.int .i32 x11] w8 (.v (.one .bool)) (fun (x15 : Bool) w16 => ifB x15
  (J12 (true, ()) w16)
  (J12 ((x11 == 45), ()) w16)))
  (fun _ s13 w14 => ifB s13.1
  (ifB (s7.2.1.toList == (⟨#[]⟩ : ByteArray).toList)
  (CatK s7.2.1 (Utf8.encode x11) (next9 ((s7.1.1, s7.1.2.1, s7.1.2.2), (s7.2.1 ++ (Utf8.encode x11)), IntKind.i64.wrap (s7.2.2.2.1 + 1), IntKind.i64.wrap (s7.2.2.2.1 + 1), ()) w14))
  (CatK s7.2.1 (Utf8.encode x11) (next9 ((s7.1.1, s7.1.2.1, s7.1.2.2), (s7.2.1 ++ (Utf8.encode x11)), s7.2.2.1, IntKind.i64.wrap (s7.2.2.2.1 + 1), ()) w14)))
  (JoinK ((Option Addr × Nat × Nat) × ByteArray × Unit) (fun J17 => ifB (!(s7.2.1.toList == (⟨#[]⟩ : ByteArray).toList))
  (RunK Tryz.prog (Instr.buildSlice 148 1 #[(0, .agg #[.string s7.2.1, .int .i64 s7.2.2.1])]) w14 (.v (.one .slc)) (fun (x20 : Option Addr × Nat × Nat) w21 => RunK Tryz.prog (Builtin.append_ #[148, 148] 148 #[.slice s7.1.1 s7.1.2.1 s7.1.2.2, .slice x20.1 x20.2.1 x20.2.2]) w21 (.v (.one .slc)) (fun (x22 : Option Addr × Nat × Nat) w23 => J17 ((x22.1, x22.2.1, x22.2.2), (⟨#[]⟩ : ByteArray), ()) w23)))
  (J17 ((s7.1.1, s7.1.2.1, s7.1.2.2), s7.2.1, ()) w14))
  (fun _ s18 w19 => ifB (x11 == 40)
  (ifB (x11 == 40)
  (RunK Tryz.prog (Instr.buildSlice 148 1 #[(0, .agg #[.string (Utf8.encode x11), .int .i64 (IntKind.i64.wrap (s7.2.2.2.1 + 1))])]) w19 (.v (.one .slc)) (fun (x24 : Option Addr × Nat × Nat) w25 => RunK Tryz.prog (Builtin.append_ #[148, 148] 148 #[.slice s18.1.1 s18.1.2.1 s18.1.2.2, .slice x24.1 x24.2.1 x24.2.2]) w25 (.v (.one .slc)) (fun (x26 : Option Addr × Nat × Nat) w27 => next9 ((x26.1, x26.2.1, x26.2.2), s18.2.1, s7.2.2.1, IntKind.i64.wrap (s7.2.2.2.1 + 1), ()) w27)))
  (ifB (x11 == 32)
  (next9 ((s18.1.1, s18.1.2.1, s18.1.2.2), s18.2.1, s7.2.2.1, IntKind.i64.wrap (s7.2.2.2.1 + 1), ()) w19)
  (K (.tuple #[.slice none 0 0, .int .i64 (IntKind.i64.wrap (s7.2.2.2.1 + 1))]) w19)))
  (ifB (x11 == 41)
  (ifB (x11 == 41)
  (RunK Tryz.prog (Instr.buildSlice 148 1 #[(0, .agg #[.string (Utf8.encode x11), .int .i64 (IntKind.i64.wrap (s7.2.2.2.1 + 1))])]) w19 (.v (.one .slc)) (fun (x28 : Option Addr × Nat × Nat) w29 => RunK Tryz.prog (Builtin.append_ #[148, 148] 148 #[.slice s18.1.1 s18.1.2.1 s18.1.2.2, .slice x28.1 x28.2.1 x28.2.2]) w29 (.v (.one .slc)) (fun (x30 : Option Addr × Nat × Nat) w31 => next9 ((x30.1, x30.2.1, x30.2.2), s18.2.1, s7.2.2.1, IntKind.i64.wrap (s7.2.2.2.1 + 1), ()) w31)))
  (ifB (x11 == 32)
  (next9 ((s18.1.1, s18.1.2.1, s18.1.2.2), s18.2.1, s7.2.2.1, IntKind.i64.wrap (s7.2.2.2.1 + 1), ()) w19)
  (K (.tuple #[.slice none 0 0, .int .i64 (IntKind.i64.wrap (s7.2.2.2.1 + 1))]) w19)))
  (ifB (x11 == 44)
  (RunK Tryz.prog (Instr.buildSlice 148 1 #[(0, .agg #[.string (Utf8.encode x11), .int .i64 (IntKind.i64.wrap (s7.2.2.2.1 + 1))])]) w19 (.v (.one .slc)) (fun (x32 : Option Addr × Nat × Nat) w33 => RunK Tryz.prog (Builtin.append_ #[148, 148] 148 #[.slice s18.1.1 s18.1.2.1 s18.1.2.2, .slice x32.1 x32.2.1 x32.2.2]) w33 (.v (.one .slc)) (fun (x34 : Option Addr × Nat × Nat) w35 => next9 ((x34.1, x34.2.1, x34.2.2), s18.2.1, s7.2.2.1, IntKind.i64.wrap (s7.2.2.2.1 + 1), ()) w35)))
  (ifB (x11 == 32)
  (next9 ((s18.1.1, s18.1.2.1, s18.1.2.2), s18.2.1, s7.2.2.1, IntKind.i64.wrap (s7.2.2.2.1 + 1), ()) w19)
  (K (.tuple #[.slice none 0 0, .int .i64 (IntKind.i64.wrap (s7.2.2.2.1 + 1))]) w19))))))))))
  (K (.tuple #[.slice s7.1.1 s7.1.2.1 s7.1.2.2, .int .i64 0]) w8))
  ((none, 0, 0), (⟨#[]⟩ : ByteArray), 0, 0, ()) w6)))
def pl67 : Plan := (.seq .auto (.seq .auto (.seq .auto (.seq .auto (.seq (.seq .auto (.block (.loop [(4, .one .slc), (5, .one .str), (6, .one (.int .i64)), (14, .one (.int .i64))] (.seq .auto (.seq .auto (.seq (.block (.seq .auto (.seq (.join [(24, .one .bool)] .auto .auto) (.join [(4, .one .slc), (5, .one .str)] .auto .auto)))) .auto)))))) .auto)))))
theorem e67 (p0 : ByteArray) (w : World) (K : Value → World → Prop) : vcFunc Tryz.prog Tryz.f67 pl67 [.string p0] w K = C67 p0 w K := by kernel_rfl
theorem c67 (p0 : ByteArray) (w : World) (K : Value → World → Prop) (h : C67 p0 w K) : Ret Tryz.prog 67 #[.string p0] w K := by
  rw [← e67] at h
  exact vcFunc_sound (by kernel_rfl) Tryz.func67 h

end Go.Proofs.YtlhbfdakceipkaaGreatDoor
