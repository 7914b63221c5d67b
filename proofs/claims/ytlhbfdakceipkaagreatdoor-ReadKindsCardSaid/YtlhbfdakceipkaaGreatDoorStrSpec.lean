/-
  Go's own texts: TrimPrefix, Trim, Atoi, where the program calls them; and a number out of a text.
  Conditions: texts of a size that the program hands over.
-/
import Derived.Test.YtlhbfdakceipkaaGreatDoorRuneSpec
import Derived.Test.YtlhbfdakceipkaaGreatDoorCStrLib
import Derived.Test.YtlhbfdakceipkaaGreatDoorCRNum
import Derived.Laws.IdiomStrings
set_option linter.unusedVariables false
set_option maxRecDepth 100000
namespace Go.Proofs.YtlhbfdakceipkaaGreatDoor
open Vc

theorem extract_str (a : List UInt8) (i j : Nat) : (str a).extract i j = str ((a.drop i).take (j - i)) := by
  apply ByteArray.ext
  rw [ByteArray.data_extract]
  unfold str
  simp
theorem subs_ok {a : List UInt8} {lo hi : Int} (h0 : 0 ≤ lo) (h1 : lo ≤ hi) (h2 : hi ≤ a.length) {K : ByteArray → Prop} (k : K (str ((a.drop lo.toNat).take (hi.toNat - lo.toNat)))) : SubsK (str a) lo hi K :=
  ⟨h0, h1, by rw [str_size]; exact h2, by rw [extract_str]; exact k⟩
theorem strk_ok {a : List UInt8} {i : Int} (h0 : 0 ≤ i) (h1 : i < a.length) {K : Int → Prop} (k : K ((a.getD i.toNat 0).toNat : Int)) : StrK (str a) i K := by
  refine ⟨a.getD i.toNat 0, h0, ?_, k⟩
  have hlt : i.toNat < (str a).size := by rw [str_size]; omega
  rw [getElem?_pos (str a) i.toNat hlt, List.getD_eq_getElem?_getD, List.getElem?_eq_getElem (by omega)]
  rfl
theorem hasPrefix_spec (a b : List UInt8) (w : World) : Ret Tryz.prog 197 #[.string (str a), .string (str b)] w fun r w' => r = .bool (decide (a.take b.length = b)) ∧ w = w' := by
  refine c197 _ _ w _ ?_
  unfold C197
  rw [str_size, str_size]
  refine ifB.dec (fun h => ?_) (fun h => ?_)
  · refine subs_ok (by omega) (by omega) (by omega) ?_
    rw [str_beq]
    exact ⟨by simp, rfl⟩
  · refine ⟨?_, rfl⟩
    rw [decide_eq_false]
    intro t
    have := congrArg List.length t
    rw [List.length_take] at this
    omega

/-- What stands behind a '-', if one stands ahead. -/
def noMinus (s : List UInt8) : List UInt8 := if s.take 1 = [45] then s.drop 1 else s
theorem trimPrefix_spec (s : List UInt8) (w : World) : Ret Tryz.prog 160 #[.string (str s), .string (str [45])] w fun r w' => r = .string (str (noMinus s)) ∧ w = w' := by
  refine c160 _ _ w _ ?_
  refine CallK.of (R := fun r w' => r = .string (str (noMinus s)) ∧ w = w') ?_ (by rintro _ _ ⟨rfl, rfl⟩; exact ⟨_, rfl, rfl, rfl⟩)
  refine c178 _ _ w _ ?_
  refine CallK.of (hasPrefix_spec s [45] w) ?_
  rintro _ _ ⟨rfl, rfl⟩
  refine ⟨_, rfl, ?_⟩
  unfold noMinus
  refine ifB.dec (fun h => ?_) (fun h => ?_)
  · have h : s.take 1 = [45] := h
    have hl : 1 ≤ s.length := by
      have := congrArg List.length h
      rw [List.length_take] at this
      simp only [List.length_cons, List.length_nil] at this
      omega
    rw [if_pos h, str_size, str_size]
    refine subs_ok (by simp) (by simp only [List.length_cons, List.length_nil]; omega) (by omega) ?_
    refine ⟨?_, rfl⟩
    rw [List.take_of_length_le (by simp)]
    rfl
  · have h : ¬ s.take 1 = [45] := h
    rw [if_neg h]; exact ⟨rfl, rfl⟩

/-! ### Sets of bytes -/
def setA (cs : List UInt8) : List Value := (List.range 256).map fun c => .bool (decide (c ∈ cs.map (·.toNat)))
theorem setA_len (cs : List UInt8) : (setA cs).length = 256 := by unfold setA; simp
theorem setA_at (cs : List UInt8) {c : Nat} (h : c < 256) : (setA cs)[c]? = some (.bool (decide (c ∈ cs.map (·.toNat)))) := by
  unfold setA
  rw [List.getElem?_map, List.getElem?_range h]
  rfl
theorem setA_one (cs : List UInt8) : (setA cs).all one1 = true := by
  rw [List.all_eq_true]
  intro v hv
  obtain ⟨c, _, rfl⟩ := List.mem_map.1 hv
  rfl
theorem setA_snoc (cs : List UInt8) (c : UInt8) : (setA cs).set c.toNat (.bool true) = setA (cs ++ [c]) := by
  refine List.ext_getElem? fun i => ?_
  by_cases hi : i < 256
  · rw [setA_at _ hi, List.getElem?_set]
    by_cases hc : c.toNat = i
    · rw [if_pos hc, if_pos (by rw [setA_len, hc]; exact hi)]
      simp [hc]
    · rw [if_neg hc, setA_at _ hi]
      congr 2
      refine decide_eq_decide.2 ?_
      rw [List.map_append, List.mem_append]
      simp only [List.map_cons, List.map_nil, List.mem_singleton]
      exact ⟨.inl, fun t => t.elim id (fun t => absurd t.symm hc)⟩
  · rw [List.getElem?_eq_none (by rw [List.length_set, setA_len]; omega), List.getElem?_eq_none (by rw [setA_len]; omega)]

def IsSet (w : World) (g : Nat) (cs : List UInt8) : Prop := w.heap[g]? = some (.cells (setA cs).toArray 295 (0, 0))
theorem IsSet.lda {w : World} {g : Nat} {cs : List UInt8} (h : IsSet w g cs) {K : List Value → Prop} (k : K (setA cs)) : LdaK 256 (⟨g, 0, none⟩ : Addr) w K :=
  ⟨setA cs, setA_len cs, cellsAt_all h _ 0 fun j _ => by simp, k⟩

theorem contains_spec {w : World} {g : Nat} {cs : List UInt8} (h : IsSet w g cs) (c : UInt8) : Ret Tryz.prog 198 #[.pointer (some ⟨g, 0, none⟩), .int .u8 (c.toNat : Int)] w fun r w' => r = .bool (decide (c ∈ cs)) ∧ w = w' := by
  refine c198 _ _ w _ ?_
  have hc := UInt8.toNat_lt c
  refine ⟨by omega, by omega, ?_⟩
  rw [addr_add, Nat.mul_one, Int.toNat_natCast, Nat.zero_add]
  refine LdK.of h (x := decide (c ∈ cs)) ?_ ⟨rfl, rfl⟩
  rw [List.getElem?_toArray, setA_at _ (by omega)]
  congr 2
  refine decide_eq_decide.2 ?_
  rw [List.mem_map]
  constructor
  · rintro ⟨d, hd, e⟩
    rwa [← UInt8.toNat_inj.1 e]
  · intro t; exact ⟨c, t, rfl⟩

theorem makeSet_spec (cs : List UInt8) (hcs : ∀ c ∈ cs, c.toNat < 128) (hl : cs.length ≤ 1000) (w : World) : Ret Tryz.prog 181 #[.string (str cs)] w fun r w' => r = .tuple #[.agg (setA cs).toArray, .bool true] ∧ Fr none1 w w' := by
  refine c181 _ w _ ?_
  unfold C181
  refine NewK.of fun g w1 hg hg1 f1 _ => ?_
  have h1 : IsSet w1 g [] := hg1
  have F1 : Fr (only g) w1 w1 := Fr.refl _ _
  refine LoopK.of (fun s w' => ∃ n : Nat, s.1 = n ∧ n ≤ cs.length ∧ IsSet w' g (cs.take n) ∧ Fr (only g) w1 w') (fun s _ => cs.length - s.1.toNat) ⟨0, rfl, by omega, h1, F1⟩ ?_
  rintro _ ⟨i, _⟩ w2 ⟨n, hn, hnl, h2, f2⟩
  dsimp only at hn ⊢
  subst hn
  rw [str_size]
  refine ifB.dec (fun hlt => ?_) (fun hge => ?_)
  · refine strk_ok (by omega) (by omega) ?_
    rw [Int.toNat_natCast]
    have hmem : cs.getD n 0 ∈ cs := by
      rw [List.getD_eq_getElem?_getD, List.getElem?_eq_getElem (by omega)]
      exact List.getElem_mem _
    have hc := hcs _ hmem
    refine ifB.no (by omega) ?_
    refine ⟨by omega, by omega, ?_⟩
    rw [addr_add, Nat.mul_one, Int.toNat_natCast, Nat.zero_add]
    refine StK.of h2 (by rw [List.size_toArray, setA_len]; omega) rfl fun w3 h3 f3 _ => ?_
    rw [wI (x := (n : Int) + 1) (by omega) (by omega)]
    refine ⟨⟨n + 1, by omega, by omega, ?_, f2.trans f3⟩, by omega⟩
    unfold IsSet
    rw [h3, List.setIfInBounds_toArray, setA_snoc]
    have : cs.take n ++ [cs.getD n 0] = cs.take (n + 1) := by
      rw [List.take_succ_eq_append_getElem (by omega), List.getD_eq_getElem?_getD, List.getElem?_eq_getElem (by omega)]
      rfl
    rw [this]
  · have : n = cs.length := by omega
    subst this
    rw [List.take_length] at h2
    refine h2.lda ?_
    refine ⟨setA_len cs, StsK.blk h2 rfl (setA_one cs) fun w3 h3 f3 _ => ?_⟩
    have h3 : IsSet w3 g cs := h3
    refine h3.lda ⟨rfl, (f1.fresh f2 (by omega)).fresh f3 (by omega)⟩

theorem trimRight_spec {w : World} {g : Nat} {cs : List UInt8} (h : IsSet w g cs) (s : List UInt8) (hl : s.length ≤ 1000000) : Ret Tryz.prog 183 #[.string (str s), .pointer (some ⟨g, 0, none⟩)] w fun r w' =>
    (∃ t u, r = .string (str t) ∧ s = t ++ u ∧ (∀ c ∈ u, c ∈ cs) ∧ (t = [] ∨ ¬ t.getD (t.length - 1) 0 ∈ cs)) ∧ w = w' := by
  refine c183 _ _ w _ ?_
  refine LoopK.of (fun q w' => w = w' ∧ ∃ t u, q.1 = str t ∧ s = t ++ u ∧ ∀ c ∈ u, c ∈ cs) (fun q _ => q.1.size) ⟨rfl, s, [], rfl, by simp, by simp⟩ ?_
  rintro _ ⟨q, _⟩ _ ⟨rfl, t, u, hq, hs, hu⟩
  dsimp only at hq ⊢
  subst hq
  have htl : t.length ≤ s.length := by rw [hs, List.length_append]; omega
  rw [str_size]
  refine ifB.dec (fun hpos => ?_) (fun hz => ?_)
  · rw [wI (x := (t.length : Int) - 1) (by omega) (by omega)]
    refine strk_ok (by omega) (by omega) ?_
    rw [show ((t.length : Int) - 1).toNat = t.length - 1 by omega]
    refine CallK.of (contains_spec h _) ?_
    rintro _ _ ⟨rfl, rfl⟩
    refine ⟨_, rfl, ?_⟩
    by_cases hc : t.getD (t.length - 1) 0 ∈ cs
    · refine ifB.f (by rw [decide_eq_true hc]; rfl) ?_
      refine subs_ok (by omega) (by omega) (by omega) ?_
      have e : (t.drop (0 : Int).toNat).take (((t.length : Int) - 1).toNat - (0 : Int).toNat) = t.take (t.length - 1) := by
        rw [show (0 : Int).toNat = 0 from rfl, List.drop_zero, show ((t.length : Int) - 1).toNat - 0 = t.length - 1 by omega]
      rw [e]
      refine ⟨⟨rfl, t.take (t.length - 1), t.getD (t.length - 1) 0 :: u, rfl, ?_, fun c hc' => ?_⟩, ?_⟩
      · rw [hs]
        have : t = t.take (t.length - 1) ++ [t.getD (t.length - 1) 0] := by
          conv => lhs; rw [← List.take_length (l := t), show t.length = (t.length - 1) + 1 by omega, List.take_succ_eq_append_getElem (by omega)]
          rw [List.getD_eq_getElem?_getD, List.getElem?_eq_getElem (by omega)]
          rfl
        conv => lhs; rw [this]
        simp
      · rcases List.mem_cons.1 hc' with t' | t'
        · rw [t']; exact hc
        · exact hu c t'
      · rw [str_size, List.length_take]; omega
    · refine ifB.t (by rw [decide_eq_false hc]; rfl) ⟨⟨t, u, rfl, hs, hu, .inr hc⟩, rfl⟩
  · exact ⟨⟨t, u, rfl, hs, hu, .inl (List.eq_nil_of_length_eq_zero (by omega))⟩, rfl⟩

theorem trimLeft_spec {w : World} {g : Nat} {cs : List UInt8} (h : IsSet w g cs) (s : List UInt8) (hl : s.length ≤ 1000000) : Ret Tryz.prog 182 #[.string (str s), .pointer (some ⟨g, 0, none⟩)] w fun r w' =>
    (∃ t u, r = .string (str t) ∧ s = u ++ t ∧ (∀ c ∈ u, c ∈ cs) ∧ (t = [] ∨ ¬ t.getD 0 0 ∈ cs)) ∧ w = w' := by
  refine c182 _ _ w _ ?_
  refine LoopK.of (fun q w' => w = w' ∧ ∃ t u, q.1 = str t ∧ s = u ++ t ∧ ∀ c ∈ u, c ∈ cs) (fun q _ => q.1.size) ⟨rfl, s, [], rfl, by simp, by simp⟩ ?_
  rintro _ ⟨q, _⟩ _ ⟨rfl, t, u, hq, hs, hu⟩
  dsimp only at hq ⊢
  subst hq
  have htl : t.length ≤ s.length := by rw [hs, List.length_append]; omega
  rw [str_size]
  refine ifB.dec (fun hpos => ?_) (fun hz => ?_)
  · refine strk_ok (by omega) (by omega) ?_
    rw [show (0 : Int).toNat = 0 from rfl]
    refine CallK.of (contains_spec h _) ?_
    rintro _ _ ⟨rfl, rfl⟩
    refine ⟨_, rfl, ?_⟩
    by_cases hc : t.getD 0 0 ∈ cs
    · refine ifB.f (by rw [decide_eq_true hc]; rfl) ?_
      refine subs_ok (by omega) (by omega) (by omega) ?_
      have e : (t.drop (1 : Int).toNat).take (((t.length : Nat) : Int).toNat - (1 : Int).toNat) = t.drop 1 := by
        rw [show (1 : Int).toNat = 1 from rfl, List.take_of_length_le (by rw [List.length_drop]; omega)]
      rw [e]
      refine ⟨⟨rfl, t.drop 1, u ++ [t.getD 0 0], rfl, ?_, fun c hc' => ?_⟩, ?_⟩
      · rw [hs]
        cases t with
        | nil => simp at hpos
        | cons x t => simp
      · rcases List.mem_append.1 hc' with t' | t'
        · exact hu c t'
        · simp only [List.mem_singleton] at t'; rw [t']; exact hc
      · rw [str_size, List.length_drop]; omega
    · refine ifB.t (by rw [decide_eq_false hc]; rfl) ⟨⟨t, u, rfl, hs, hu, .inr hc⟩, rfl⟩
  · exact ⟨⟨t, u, rfl, hs, hu, .inl (List.eq_nil_of_length_eq_zero (by omega))⟩, rfl⟩

/-- Trim gives the empty text just where all is of the set. -/
theorem trim_spec (s cs : List UInt8) (hne : s ≠ []) (hcs : ∀ c ∈ cs, c.toNat < 128) (h2 : 2 ≤ cs.length) (hcl : cs.length ≤ 1000) (hl : s.length ≤ 1000000) (w : World) : Ret Tryz.prog 161 #[.string (str s), .string (str cs)] w fun r w' =>
    (∃ v, r = .string (str v) ∧ (v = [] ↔ ∀ c ∈ s, c ∈ cs)) ∧ Fr none1 w w' := by
  refine c161 _ _ w _ ?_
  unfold C161
  have e0 : (⟨#[]⟩ : ByteArray) = str [] := rfl
  rw [e0, str_beq, str_beq]
  refine ifB.no hne (ifB.no (fun t => by rw [t] at h2; simp at h2) ?_)
  refine JoinK.of (fun q w' => q.1 = false ∧ w = w') ?_ ?_
  · refine ifB.f ?_ ⟨rfl, rfl⟩
    rw [str_size, beq_eq_false_iff_ne]; omega
  rintro _ ⟨q, _⟩ _ ⟨hq, rfl⟩
  dsimp only at hq
  subst hq
  refine ifB.f rfl ?_
  refine CallK.of (makeSet_spec cs hcs hcl w) ?_
  rintro _ w1 ⟨rfl, f1⟩
  refine ⟨(setA cs, true, ()), rfl, ?_⟩
  refine NewK.of fun g w2 hg hg2 f2 _ => ?_
  have h2' : IsSet w2 g [] := hg2
  refine ⟨setA_len cs, StsK.blk h2' (by rw [setA_len, setA_len]) (setA_one cs) fun w3 h3 f3 _ => ?_⟩
  have h3 : IsSet w3 g cs := h3
  refine ifB.t rfl ?_
  refine CallK.of (trimRight_spec h3 s hl) ?_
  rintro _ _ ⟨⟨t, u, rfl, hs, hu, ht⟩, rfl⟩
  refine ⟨_, rfl, ?_⟩
  have htl : t.length ≤ s.length := by rw [hs, List.length_append]; omega
  refine CallK.of (trimLeft_spec h3 t (by omega)) ?_
  rintro _ _ ⟨⟨v, u', rfl, ht', hu', hv⟩, rfl⟩
  refine ⟨_, rfl, ⟨v, rfl, ?_⟩, f1.trans (f2.fresh f3 (by omega))⟩
  constructor
  · intro hv0 c hc
    rw [hs, ht', hv0, List.append_nil] at hc
    rcases List.mem_append.1 hc with hc | hc
    · exact hu' c hc
    · exact hu c hc
  · intro hall
    rcases hv with hv | hv
    · exact hv
    · cases v with
      | nil => rfl
      | cons x v =>
        refine absurd (hall x ?_) hv
        rw [hs, ht']; simp

/-! ### Atoi -/
def isD (c : UInt8) : Bool := decide (48 ≤ c.toNat) && decide (c.toNat ≤ 57)
def digs : List UInt8 := [48, 49, 50, 51, 52, 53, 54, 55, 56, 57]
theorem mem_digs (c : UInt8) : c ∈ digs ↔ isD c = true := by
  have hc := UInt8.toNat_lt c
  constructor
  · intro h
    have h : c = 48 ∨ c = 49 ∨ c = 50 ∨ c = 51 ∨ c = 52 ∨ c = 53 ∨ c = 54 ∨ c = 55 ∨ c = 56 ∨ c = 57 := by simpa [digs] using h
    rcases h with h | h | h | h | h | h | h | h | h | h <;> subst h <;> rfl
  · intro h
    have h : 48 ≤ c.toNat ∧ c.toNat ≤ 57 := by simpa [isD] using h
    obtain ⟨n, hn⟩ : ∃ n, c.toNat = n := ⟨_, rfl⟩
    have e : c = UInt8.ofNat n := by rw [← hn]; exact (UInt8.ofNat_toNat).symm
    have : n = 48 ∨ n = 49 ∨ n = 50 ∨ n = 51 ∨ n = 52 ∨ n = 53 ∨ n = 54 ∨ n = 55 ∨ n = 56 ∨ n = 57 := by omega
    rcases this with t | t | t | t | t | t | t | t | t | t <;> (rw [t] at e; rw [e]; decide)
def valL (d : List UInt8) : Int := d.foldl (fun n c => n * 10 + ((c.toNat : Int) - 48)) 0
theorem valL_snoc (d : List UInt8) (c : UInt8) : valL (d ++ [c]) = valL d * 10 + ((c.toNat : Int) - 48) := by unfold valL; rw [List.foldl_append]; rfl
theorem foldl_val : ∀ (d : List UInt8) (n : Int), 0 ≤ n → (∀ c ∈ d, isD c = true) → 0 ≤ d.foldl (fun n c => n * 10 + ((c.toNat : Int) - 48)) n ∧ d.foldl (fun n c => n * 10 + ((c.toNat : Int) - 48)) n < (n + 1) * ((10 ^ d.length : Nat) : Int)
  | [], n, h0, _ => by simp; omega
  | c :: d, n, h0, h => by
    have hc : 48 ≤ c.toNat ∧ c.toNat ≤ 57 := by simpa [isD] using h c (by simp)
    obtain ⟨i1, i2⟩ := foldl_val d (n * 10 + ((c.toNat : Int) - 48)) (by omega) (fun x hx => h x (by simp [hx]))
    refine ⟨i1, Int.lt_of_lt_of_le i2 ?_⟩
    have e : (n + 1) * ((10 ^ (c :: d).length : Nat) : Int) = (n * 10 + 10) * ((10 ^ d.length : Nat) : Int) := by
      rw [List.length_cons, Nat.pow_succ, Int.natCast_mul, Int.mul_comm ((10 ^ d.length : Nat) : Int), ← Int.mul_assoc]
      congr 1
      omega
    rw [e]
    exact Int.mul_le_mul_of_nonneg_right (by omega) (Int.natCast_nonneg _)
theorem valL_bound (d : List UInt8) (h : ∀ c ∈ d, isD c = true) (hl : d.length ≤ 18) : 0 ≤ valL d ∧ valL d < 1000000000000000000 := by
  obtain ⟨a, b⟩ := foldl_val d 0 (Int.le_refl _) h
  have : 10 ^ d.length ≤ 10 ^ 18 := Nat.pow_le_pow_right (by decide) hl
  unfold valL
  omega

theorem bytes_of {w : World} (s : List UInt8) : ∃ (v : Sl) (w' : World), (convert 9 38 (.string (str s))).run Tryz.prog w = .ok (.slice v.1 v.2.1 v.2.2) w' ∧ RdSl w' 1 v (s.map fun b => Value.int .u8 (b.toNat : Int)) ∧ v.2.1 = s.length ∧ Fr none1 w w' := by
  refine ⟨(some ⟨w.heap.size, 0, none⟩, (str s).size, _), _, run_bytes_of_string w 9 38 5 (str s) Tryz.underlying9 Tryz.underlying38 Tryz.underlying5, ?_, str_size s, ?_⟩
  · refine ⟨by rw [List.length_map, Nat.mul_one]; exact (str_size s).symm, (fun t => nomatch t), fun a ha => ?_⟩
    injection ha with ha
    subst ha
    refine cellsAt_all (Array.getElem?_push_size ..) _ 0 fun j hj => ?_
    rw [List.length_map] at hj
    unfold bytesRow
    rw [Nat.zero_add, Array.getElem?_append_left (by unfold str; simpa using hj)]
    unfold str
    simp
  · exact (drew_fr w).trans (push_fr _ _)

theorem iatoi_spec (s d : List UInt8) (neg : Bool) (hs : s = (if neg then 45 :: d else d)) (hne : d ≠ []) (hd : ∀ c ∈ d, isD c = true) (hl : s.length < 19) (w : World) :
    Ret Tryz.prog 186 #[.string (str s)] w fun r w' => r = .tuple #[.int .i64 (if neg then -(valL d) else valL d), .nilIface] ∧ Fr none1 w w' := by
  refine c186 _ w _ ?_
  unfold C186
  have hdl : 0 < d.length := List.length_pos_iff.2 hne
  have hsl : s.length = d.length + (if neg then 1 else 0) := by rw [hs]; cases neg <;> simp
  have hd18 : d.length ≤ 18 := by omega
  have h0 : 0 < s.length := by omega
  have hd0 : 48 ≤ (d.getD 0 0).toNat ∧ (d.getD 0 0).toNat ≤ 57 := by
    have : isD (d.getD 0 0) = true := hd _ (by rw [List.getD_eq_getElem?_getD, List.getElem?_eq_getElem hdl]; exact List.getElem_mem _)
    simpa [isD] using this
  have hs0 : ((s.getD 0 0).toNat = 45 ∧ neg = true) ∨ (48 ≤ (s.getD 0 0).toNat ∧ (s.getD 0 0).toNat ≤ 57 ∧ neg = false) := by
    rw [hs]
    cases neg with
    | true => exact .inl ⟨rfl, rfl⟩
    | false => exact .inr ⟨hd0.1, hd0.2, rfl⟩
  refine JoinK.of (fun q w' => q.1 = true ∧ w = w') ?_ ?_
  · rw [str_size]
    refine ifB.yes (by omega) ⟨decide_eq_true (by omega), rfl⟩
  rintro _ ⟨q, _⟩ _ ⟨hq, rfl⟩
  dsimp only at hq
  subst hq
  refine ifB.t rfl ?_
  refine JoinK.of (fun q w' => q.1 = str d ∧ w = w') ?_ ?_
  · refine JoinK.of (fun q w' => q.1 = neg ∧ w = w') ?_ ?_
    · refine strk_ok (by omega) (by omega) ?_
      rw [show (0 : Int).toNat = 0 from rfl]
      refine ifB.eq (fun h => ?_) (fun h => ?_)
      · refine ⟨?_, rfl⟩
        rcases hs0 with ⟨_, hn⟩ | ⟨h1, _, _⟩
        · exact hn.symm
        · omega
      · refine strk_ok (by omega) (by omega) ⟨?_, rfl⟩
        rw [show (0 : Int).toNat = 0 from rfl]
        rcases hs0 with ⟨h1, _⟩ | ⟨h1, _, hn⟩
        · omega
        · rw [hn]; simp only [beq_eq_false_iff_ne]; omega
    rintro _ ⟨q, _⟩ _ ⟨hq, rfl⟩
    dsimp only at hq
    subst hq
    refine ifB.by (fun hn => ?_) (fun hn => ?_)
    · subst hn
      refine subs_ok (by omega) (by rw [str_size]; omega) (by rw [str_size]; omega) ?_
      have e : (s.drop (1 : Int).toNat).take (((str s).size : Int).toNat - (1 : Int).toNat) = d := by
        rw [str_size, hs]
        simp
      rw [e, str_size]
      refine ifB.no (by omega) ⟨rfl, rfl⟩
    · subst hn
      refine ⟨?_, rfl⟩
      show str s = str d
      rw [hs]; rfl
  rintro _ ⟨q, _⟩ _ ⟨hq, rfl⟩
  dsimp only at hq
  subst hq
  obtain ⟨v, w1, r1, hv, hvl, f1⟩ := bytes_of (w := w) d
  refine ⟨v, w1, r1, ?_⟩
  refine LoopK.of (fun q w' => w1 = w' ∧ ∃ n : Nat, q.2.1 = n ∧ n ≤ d.length ∧ q.1 = valL (d.take n)) (fun q _ => d.length - q.2.1.toNat) ⟨rfl, 0, rfl, by omega, rfl⟩ ?_
  rintro _ ⟨m, i, _⟩ _ ⟨rfl, n, hn, hnl, hm⟩
  dsimp only at hn hm ⊢
  subst hn; subst hm
  refine ifB.dec (fun hlt => ?_) (fun hge => ?_)
  · have hmem : d.getD n 0 ∈ d := by rw [List.getD_eq_getElem?_getD, List.getElem?_eq_getElem (by omega)]; exact List.getElem_mem _
    have hc : 48 ≤ (d.getD n 0).toNat ∧ (d.getD n 0).toNat ≤ 57 := by simpa [isD] using hd _ hmem
    refine RdSl.ld hv (by omega) hlt (x := ((d.getD n 0).toNat : Int)) (by rw [Int.toNat_natCast, List.getElem?_map, List.getD_eq_getElem?_getD, List.getElem?_eq_getElem (by omega)]; rfl) ?_
    have e1 : IntKind.u8.wrap (((d.getD n 0).toNat : Int) - 48) = ((d.getD n 0).toNat : Int) - 48 := by rw [IntKind.wrap_u8]; omega
    rw [e1]
    refine ifB.no (by omega) ?_
    obtain ⟨b1, b2⟩ := valL_bound (d.take n) (fun c hc => hd c (List.mem_of_mem_take hc)) (by rw [List.length_take]; omega)
    rw [wI (x := ((d.getD n 0).toNat : Int) - 48) (by omega) (by omega)]
    obtain ⟨b3, b4⟩ := valL_bound (d.take (n + 1)) (fun c hc => hd c (List.mem_of_mem_take hc)) (by rw [List.length_take]; omega)
    have e2 : d.take (n + 1) = d.take n ++ [d.getD n 0] := by
      rw [List.take_succ_eq_append_getElem (by omega), List.getD_eq_getElem?_getD, List.getElem?_eq_getElem (by omega)]; rfl
    rw [e2, valL_snoc] at b3 b4
    rw [wI (x := valL (d.take n) * 10) (by omega) (by omega), wI (x := valL (d.take n) * 10 + (((d.getD n 0).toNat : Int) - 48)) (by omega) (by omega), wI (x := (n : Int) + 1) (by omega) (by omega)]
    refine ⟨⟨rfl, n + 1, by omega, by omega, ?_⟩, by omega⟩
    rw [e2, valL_snoc]
  · have : n = d.length := by omega
    subst this
    rw [List.take_length]
    obtain ⟨b1, b2⟩ := valL_bound d hd hd18
    refine strk_ok (by omega) (by omega) ?_
    rw [show (0 : Int).toNat = 0 from rfl]
    rcases hs0 with ⟨h1, hn⟩ | ⟨h1, h2, hn⟩
    · subst hn
      refine ifB.t (by rw [h1]; rfl) ?_
      rw [wI (x := 0 - valL d) (by omega) (by omega), Int.zero_sub]
      exact ⟨rfl, f1⟩
    · subst hn
      refine ifB.f (by simp only [beq_eq_false_iff_ne]; omega) ⟨rfl, f1⟩

theorem nil_ne {t : TypeId} (ht : ∃ ms, Tryz.prog.underlying t = some (.interface ms)) (o : Operand) (w : World) :
    (do eqGuard .neq t o (.const .nilIface) .nilIface .nilIface; binOp .neq t .nilIface .nilIface : Sem Value).run Tryz.prog w = .ok (.bool false) w := by
  obtain ⟨ms, ht⟩ := ht
  have h1 : (eqGuard .neq t o (.const .nilIface) .nilIface .nilIface).run Tryz.prog w = .ok () w := by
    unfold eqGuard
    simp
  rw [Sem.run_bind, h1, Result.andThen_ok]
  have h2 : (Op.equalIn (9999 + 1) t .nilIface .nilIface).run Tryz.prog w = .ok true w := by
    unfold Op.equalIn
    simp only [Sem.run_bind, under ht, Result.andThen_ok, Sem.run_pure]
  show (do pure (Value.bool (!(← Op.equalIn (9999 + 1) t .nilIface .nilIface))) : Sem Value).run Tryz.prog w = _
  rw [Sem.run_bind, h2]
  rfl

theorem atoi_spec (s d : List UInt8) (neg : Bool) (hs : s = (if neg then 45 :: d else d)) (hne : d ≠ []) (hd : ∀ c ∈ d, isD c = true) (hl : s.length < 19) (w : World) :
    Ret Tryz.prog 162 #[.string (str s)] w fun r w' => r = .tuple #[.int .i64 (if neg then -(valL d) else valL d), .nilIface] ∧ Fr none1 w w' := by
  refine c162 _ w _ ?_
  refine CallK.of (iatoi_spec s d neg hs hne hd hl w) ?_
  rintro _ w1 ⟨rfl, f1⟩
  refine ⟨(_, .nilIface, ()), rfl, ?_⟩
  refine ⟨false, w1, nil_ne ⟨_, Tryz.underlying275⟩ _ w1, ifB.f rfl ⟨rfl, f1⟩⟩

/-! ### A number out of a text -/
def numF (s : List UInt8) : Int × Bool :=
  if noMinus s = [] ∨ 13 < (noMinus s).length ∨ (noMinus s).all isD = false ∨ ((noMinus s).getD 0 0 = 48 ∧ s ≠ [48]) then (0, false) else
  if 1000000000000 < valL (noMinus s) then (0, false) else (if s.take 1 = [45] then -(valL (noMinus s)) else valL (noMinus s), true)

theorem number_spec (s : List UInt8) (hl : s.length ≤ 100000) (w : World) : Ret Tryz.prog 133 #[.string (str s)] w fun r w' => r = .tuple #[.int .i64 (numF s).1, .bool (numF s).2] ∧ Fr none1 w w' := by
  refine c133 _ w _ ?_
  unfold C133
  have e0 : (⟨#[]⟩ : ByteArray) = str [] := rfl
  have e45 : (⟨#[45]⟩ : ByteArray) = str [45] := rfl
  have e48 : (⟨#[48]⟩ : ByteArray) = str [48] := rfl
  have ed : (⟨#[48, 49, 50, 51, 52, 53, 54, 55, 56, 57]⟩ : ByteArray) = str digs := rfl
  rw [e0, e45, e48, ed]
  refine CallK.of (trimPrefix_spec s w) ?_
  rintro _ _ ⟨rfl, rfl⟩
  refine ⟨_, rfl, ?_⟩
  have hdl : (noMinus s).length ≤ s.length := by unfold noMinus; split <;> simp
  refine JoinK.of (fun q w' => q.1 = decide (noMinus s = [] ∨ 13 < (noMinus s).length ∨ (noMinus s).all isD = false ∨ ((noMinus s).getD 0 0 = 48 ∧ s ≠ [48])) ∧ Fr none1 w w') ?_ ?_
  · rw [str_beq]
    refine ifB.dec (fun h => ?_) (fun h => ?_)
    · exact ⟨(decide_eq_true (.inl h)).symm, Fr.refl _ _⟩
    rw [str_size]
    refine ifB.dec (fun h2 => ?_) (fun h2 => ?_)
    · exact ⟨(decide_eq_true (.inr (.inl (by omega)))).symm, Fr.refl _ _⟩
    refine CallK.of (trim_spec (noMinus s) digs h (by decide) (by decide) (by decide) (by omega) w) ?_
    rintro _ w1 ⟨⟨v, rfl, hv⟩, f1⟩
    refine ⟨_, rfl, ?_⟩
    rw [str_beq]
    have hall : v = [] ↔ (noMinus s).all isD = true := by
      rw [hv, List.all_eq_true]
      exact ⟨fun t c hc => (mem_digs c).1 (t c hc), fun t c hc => (mem_digs c).2 (t c hc)⟩
    by_cases hv0 : v = []
    · refine ifB.f (by simp [hv0]) ?_
      have ha := hall.1 hv0
      have hpos : 0 < (noMinus s).length := List.length_pos_iff.2 h
      refine strk_ok (by omega) (by omega) ?_
      rw [show (0 : Int).toNat = 0 from rfl]
      refine ifB.eq (fun h48 => ?_) (fun h48 => ?_)
      · refine ⟨?_, f1⟩
        have h48' : (noMinus s).getD 0 0 = 48 := UInt8.toNat_inj.1 (by have : (48 : UInt8).toNat = 48 := rfl
                                                                       omega)
        rw [str_beq]
        by_cases hs48 : s = [48]
        · rw [decide_eq_true hs48, decide_eq_false]
          · rfl
          · rintro (t | t | t | t)
            · exact h t
            · omega
            · rw [ha] at t; cases t
            · exact t.2 hs48
        · rw [decide_eq_false hs48, decide_eq_true (.inr (.inr (.inr ⟨h48', hs48⟩)))]; rfl
      · refine ⟨?_, f1⟩
        rw [decide_eq_false]
        rintro (t | t | t | t)
        · exact h t
        · omega
        · rw [ha] at t; cases t
        · exact h48 (by rw [t.1]; rfl)
    · refine ifB.t (by simp [hv0]) ⟨?_, f1⟩
      refine (decide_eq_true (.inr (.inr (.inl ?_)))).symm
      have := fun t => hv0 (hall.2 t)
      simpa using this
  rintro _ ⟨q, _⟩ w1 ⟨hq, f1⟩
  dsimp only at hq
  subst hq
  unfold numF
  refine ifB.dec (fun h => ?_) (fun h => ?_)
  · rw [if_pos h]; exact ⟨rfl, f1⟩
  rw [if_neg h]
  have hne : noMinus s ≠ [] := fun t => h (.inl t)
  have h13 : (noMinus s).length ≤ 13 := by
    by_cases t : 13 < (noMinus s).length
    · exact absurd (.inr (.inl t)) h
    · omega
  have hall : ∀ c ∈ noMinus s, isD c = true := by
    have : (noMinus s).all isD = true := by
      cases ha : (noMinus s).all isD with
      | true => rfl
      | false => exact absurd (.inr (.inr (.inl ha))) h
    exact List.all_eq_true.1 this
  have hsn : s = (if decide (s.take 1 = [45]) then 45 :: noMinus s else noMinus s) := by
    unfold noMinus
    by_cases t : s.take 1 = [45]
    · rw [if_pos (decide_eq_true t), if_pos t]
      conv => lhs; rw [← List.take_append_drop 1 s, t]
      rfl
    · rw [if_neg (by simpa using t), if_neg t]
  have hsl : s.length ≤ 14 := by
    rw [hsn]
    split
    · simp only [List.length_cons]; omega
    · omega
  obtain ⟨b1, b2⟩ := valL_bound (noMinus s) hall (by omega)
  by_cases hn : s.take 1 = [45]
  · rw [if_pos (decide_eq_true hn)] at hsn
    rw [if_pos hn]
    refine CallK.of (atoi_spec s (noMinus s) true hsn hne hall (by omega) w1) ?_
    rintro _ w2 ⟨rfl, f2⟩
    refine ⟨(-(valL (noMinus s)), .nilIface, ()), rfl, ?_⟩
    refine ⟨false, w2, nil_ne ⟨_, Tryz.underlying275⟩ _ w2, ifB.f rfl ?_⟩
    have f12 := f1.trans f2
    refine ifB.dec (fun h1 => ?_) (fun h1 => ?_)
    · rw [if_pos (by omega)]; exact ⟨rfl, f12⟩
    · rw [if_neg (by omega)]
      refine ifB.no (by omega) ⟨rfl, f12⟩
  · rw [if_neg (by simpa using hn)] at hsn
    rw [if_neg hn]
    refine CallK.of (atoi_spec s (noMinus s) false hsn hne hall (by omega) w1) ?_
    rintro _ w2 ⟨rfl, f2⟩
    refine ⟨(valL (noMinus s), .nilIface, ()), rfl, ?_⟩
    refine ⟨false, w2, nil_ne ⟨_, Tryz.underlying275⟩ _ w2, ifB.f rfl ?_⟩
    have f12 := f1.trans f2
    refine ifB.no (by omega) ?_
    refine ifB.dec (fun h1 => ?_) (fun h1 => ?_)
    · rw [if_pos (by omega)]; exact ⟨rfl, f12⟩
    · rw [if_neg (by omega)]; exact ⟨rfl, f12⟩

end Go.Proofs.YtlhbfdakceipkaaGreatDoor
