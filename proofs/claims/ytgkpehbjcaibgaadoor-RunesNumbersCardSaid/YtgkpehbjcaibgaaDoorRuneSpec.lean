/-
  What the runes' functions do: letters, kinds, names, signs; the example of the document.
  Conditions: a text of which not too many runes are read.
-/
import Derived.Test.YtgkpehbjcaibgaaDoorUtf
import Derived.Test.YtgkpehbjcaibgaaDoorCRunes
import Derived.Laws.StructEq
set_option linter.unusedVariables false
set_option maxRecDepth 100000
namespace Go.Proofs.YtgkpehbjcaibgaaDoor
open Vc

def isDig (r : Int) : Bool := decide (48 ≤ r) && decide (r ≤ 57)
def isLet (r : Int) : Bool := (decide (97 ≤ r) && decide (r ≤ 122)) || isDig r || r == 95 || (decide (128 ≤ r) && r != 65533)
def kd (r : Int) : Int := if isLet r then 97 else if r = 45 then 97 else if r = 40 then 40 else if r = 41 then 40 else if r = 44 then 40 else if r = 32 then 32 else 0

theorem digit_spec (r : Int) (w : World) : Ret Tryd.prog 26 #[.int .i32 r] w fun v w' => v = .bool (isDig r) ∧ w = w' := by
  refine c26 r w _ ?_
  unfold isDig
  refine ifB.dec (fun h => ?_) (fun h => ?_)
  · rw [decide_eq_true (p := 48 ≤ r) (by omega)]; exact ⟨rfl, rfl⟩
  · rw [decide_eq_false (p := 48 ≤ r) (by omega)]; exact ⟨rfl, rfl⟩

theorem letter_spec (r : Int) (w : World) : Ret Tryd.prog 16 #[.int .i32 r] w fun v w' => v = .bool (isLet r) ∧ w = w' := by
  refine c16 r w _ ?_
  have tail : (decide (97 ≤ r) && decide (r ≤ 122)) = false → CallK Tryd.prog 26 #[.int .i32 r] w (.v (.one .bool)) (fun (x1 : Bool) w2 => ifB x1
      ((.bool true : Value) = .bool (isLet r) ∧ w = w2) (ifB (r == 95) ((.bool true : Value) = .bool (isLet r) ∧ w = w2) (ifB (decide (r ≥ 128)) ((.bool (r != 65533) : Value) = .bool (isLet r) ∧ w = w2) ((.bool false : Value) = .bool (isLet r) ∧ w = w2)))) := fun h => by
    refine CallK.of (digit_spec r w) ?_
    rintro _ _ ⟨rfl, rfl⟩
    refine ⟨_, rfl, ?_⟩
    unfold isLet
    rw [h, Bool.false_or]
    refine ifB.by (fun h1 => ?_) (fun h1 => ?_)
    · rw [h1]; exact ⟨rfl, rfl⟩
    rw [h1, Bool.false_or]
    refine ifB.by (fun h2 => ?_) (fun h2 => ?_)
    · rw [h2]; exact ⟨rfl, rfl⟩
    rw [h2, Bool.false_or]
    refine ifB.dec (fun h3 => ?_) (fun h3 => ?_)
    · rw [decide_eq_true (p := 128 ≤ r) (by omega)]; exact ⟨by rw [Bool.true_and], rfl⟩
    · rw [decide_eq_false (p := 128 ≤ r) (by omega)]; exact ⟨rfl, rfl⟩
  refine ifB.dec (fun h => ?_) (fun h => ?_)
  · refine ifB.dec (fun h2 => ?_) (fun h2 => ?_)
    · unfold isLet
      rw [decide_eq_true (p := 97 ≤ r) (by omega), decide_eq_true (p := r ≤ 122) (by omega)]; exact ⟨rfl, rfl⟩
    · exact tail (by rw [decide_eq_false (p := r ≤ 122) (by omega), Bool.and_false])
  · exact tail (by rw [decide_eq_false (p := 97 ≤ r) (by omega), Bool.false_and])

theorem kind_spec (r : Int) (w : World) : Ret Tryd.prog 28 #[.int .i32 r] w fun v w' => v = .int .u8 (kd r) ∧ w = w' := by
  refine c28 r w _ ?_
  refine CallK.of (letter_spec r w) ?_
  rintro _ _ ⟨rfl, rfl⟩
  refine ⟨_, rfl, ?_⟩
  unfold kd
  refine ifB.by (fun h1 => ?_) (fun h1 => ?_)
  · rw [if_pos h1]; exact ⟨rfl, rfl⟩
  rw [if_neg (by simp [h1])]
  refine ifB.eq (fun h => ?_) (fun h => ?_)
  · rw [if_pos h]; exact ⟨rfl, rfl⟩
  rw [if_neg h]
  refine ifB.eq (fun h => ?_) (fun h => ?_)
  · rw [if_pos h]; exact ⟨rfl, rfl⟩
  rw [if_neg h]
  refine ifB.eq (fun h => ?_) (fun h => ?_)
  · rw [if_pos h]; exact ⟨rfl, rfl⟩
  rw [if_neg h]
  refine ifB.eq (fun h => ?_) (fun h => ?_)
  · rw [if_pos h]; exact ⟨rfl, rfl⟩
  rw [if_neg h]
  refine ifB.eq (fun h => ?_) (fun h => ?_)
  · rw [if_pos h]; exact ⟨rfl, rfl⟩
  rw [if_neg h]; exact ⟨rfl, rfl⟩

/-- How much a round has left. -/
def itLen (w : World) (r : Nat) : Nat := match w.heap[r]? with
  | some (.stringIter s pos) => (runesL (s.data.toList.drop pos)).length
  | _ => 0
theorem IsIt.left {w : World} {r : Nat} {rs : List Int} (h : IsIt w r rs) : itLen w r = rs.length := by
  obtain ⟨s, pos, a, b⟩ := h
  unfold itLen
  rw [a, ← b]

theorem range_okS {w : World} (bs : List UInt8) {K : Option Addr → World → Prop}
    (hK : ∀ r w1, r = w.heap.size → IsIt w1 r (runesL bs) → Fr none1 w w1 → K (some ⟨r, 0, none⟩) w1) : RunK Tryd.prog (Instr.range 9 (.string (str bs))) w (.v (.one .ptr)) K := by
  refine range_ok Tryd.underlying9 (str bs) ?_
  rw [str_list]
  exact hK

/-! ### Names -/
def nameF (n : Nat) : List Int → Bool
  | [] => decide (0 < n)
  | r :: rs => if isLet r = false then false else if n = 0 ∧ isDig r = true then false else if 12 < n + 1 then false else nameF (n + 1) rs

theorem name_spec (bs : List UInt8) (w : World) : Ret Tryd.prog 18 #[.string (str bs)] w fun v w' => v = .bool (nameF 0 (runesL bs)) ∧ Fr none1 w w' := by
  refine c18 _ w _ ?_
  refine range_okS bs fun r w1 hr hit f1 => ?_
  have F0 : Fr (only r) w1 w1 := Fr.refl _ _
  refine LoopK.of (fun s w' => ∃ (n : Nat) (rest : List Int), s.1 = n ∧ n ≤ 12 ∧ IsIt w' r rest ∧ Fr (only r) w1 w' ∧ nameF n rest = nameF 0 (runesL bs)) (fun _ w' => itLen w' r) ⟨0, _, rfl, by omega, hit, F0, rfl⟩ ?_
  rintro _ ⟨n', _⟩ w2 ⟨n, rest, hn, hn12, hit2, f2, hnm⟩
  dsimp only at hn ⊢
  subst hn
  have fin : ∀ w', Fr (only r) w1 w' → Fr none1 w w' := fun w' f => f1.fresh f (by omega)
  refine next_ok hit2 (fun c rest' pos w3 hc hok hit3 f3 => ?_) (fun hnil => ?_)
  · subst hc
    have fw3 := fin _ (f2.trans f3)
    refine CallK.of (letter_spec c w3) ?_
    rintro _ _ ⟨rfl, rfl⟩
    refine ⟨_, rfl, ?_⟩
    have ml : itLen w3 r < itLen w2 r := by rw [hit3.left, hit2.left]; simp
    have hst : nameF n (c :: rest') = if isLet c = false then false else if n = 0 ∧ isDig c = true then false else if 12 < n + 1 then false else nameF (n + 1) rest' := rfl
    rw [hst] at hnm
    by_cases hl : isLet c = false
    · rw [if_pos hl] at hnm
      refine ifB.t (by rw [hl]; rfl) ⟨by rw [← hnm], fw3⟩
    rw [if_neg hl] at hnm
    refine ifB.f (by simpa using hl) ?_
    rw [wI (x := (n : Int) + 1) (by omega) (by omega)]
    have rest12 : ¬ (n = 0 ∧ isDig c = true) → ifB (decide ((n : Int) + 1 > 12)) ((.bool false : Value) = .bool (nameF 0 (runesL bs)) ∧ Fr none1 w w3)
        ((∃ (n' : Nat) (rest : List Int), ((n : Int) + 1) = n' ∧ n' ≤ 12 ∧ IsIt w3 r rest ∧ Fr (only r) w1 w3 ∧ nameF n' rest = nameF 0 (runesL bs)) ∧ itLen w3 r < itLen w2 r) := fun hd => by
      rw [if_neg hd] at hnm
      refine ifB.dec (fun h => ?_) (fun h => ?_)
      · rw [if_pos (by omega)] at hnm; exact ⟨by rw [← hnm], fw3⟩
      · rw [if_neg (by omega)] at hnm
        exact ⟨⟨n + 1, rest', by omega, by omega, hit3, f2.trans f3, hnm⟩, ml⟩
    refine ifB.eq (fun h1 => ?_) (fun h1 => ?_)
    · refine CallK.of (digit_spec c w3) ?_
      rintro _ _ ⟨rfl, rfl⟩
      refine ⟨_, rfl, ?_⟩
      refine ifB.by (fun hd => ?_) (fun hd => ?_)
      · rw [if_pos ⟨by omega, hd⟩] at hnm; exact ⟨by rw [← hnm], fw3⟩
      · exact rest12 fun t => by rw [t.2] at hd; cases hd
    · exact rest12 fun t => by have := t.1; omega
  · subst hnil
    refine ⟨?_, fin _ f2⟩
    rw [← hnm]
    unfold nameF
    congr 1
    exact decide_eq_decide.2 (by omega)

/-! ### Signs -/
abbrev SignV := List UInt8 × Int
def signCells (l : List SignV) : List Value := l.flatMap fun x => [.string (str x.1), .int .i64 x.2]
theorem signCells_len (l : List SignV) : (signCells l).length = l.length * 2 := by
  induction l with
  | nil => rfl
  | cons x l ih => unfold signCells at *; rw [List.flatMap_cons, List.length_append, ih]; simp; omega
theorem signCells_app (a b : List SignV) : signCells (a ++ b) = signCells a ++ signCells b := by unfold signCells; rw [List.flatMap_append]
theorem signCells_at : ∀ (l : List SignV) (i : Nat) (x : SignV), l[i]? = some x → (signCells l)[i * 2]? = some (.string (str x.1)) ∧ (signCells l)[i * 2 + 1]? = some (.int .i64 x.2)
  | [], i, x, h => by simp at h
  | y :: l, 0, x, h => by
    simp at h; subst h
    exact ⟨rfl, rfl⟩
  | y :: l, i + 1, x, h => by
    have := signCells_at l i x (by simpa using h)
    rw [show (i + 1) * 2 = i * 2 + 2 by omega, show i * 2 + 2 + 1 = i * 2 + 1 + 2 by omega]
    exact this

theorem elem_sign : ElemOk Tryd.prog 38 46 2 (.agg #[.string ByteArray.empty, .int .i64 0]) 24 := ⟨Tryd.underlying38, ⟨Tryd.t46, by kernel_rfl, rfl, rfl, rfl⟩, rfl, by decide⟩

/-- A slice of signs. -/
structure IsSg (w : World) (v : Sl) (l : List SignV) : Prop where
  sl : IsSl w 46 2 v (signCells l)
  len : v.2.1 = l.length

theorem IsSg.keep {w w' : World} {v : Sl} {l : List SignV} (h : IsSg w v l) {S : Nat → Prop} (f : Fr S w w') (hn : ∀ k, blkOf v k → ¬ S k) : IsSg w' v l := ⟨h.sl.keep f hn, h.len⟩
theorem IsSg.keep0 {w w' : World} {v : Sl} {l : List SignV} (h : IsSg w v l) (f : Fr none1 w w') : IsSg w' v l := h.keep f (fun _ _ t => t)
theorem none_sg (w : World) : IsSg w (none, 0, 0) [] := ⟨.inl ⟨rfl, rfl⟩, rfl⟩

theorem sg_snoc {w : World} {v : Sl} {l : List SignV} (h : IsSg w v l) (x : List UInt8) (at_ : Int) (hl : l.length ≤ 10000000) {K : Sl → World → Prop}
    (hK : ∀ y w', IsSg w' y (l ++ [(x, at_)]) → Fr (blkOf v) w w' → (∀ k, blkOf y k → blkOf v k ∨ w.heap.size ≤ k) → K y w') :
    RunK Tryd.prog (Instr.buildSlice 38 1 #[(0, .agg #[.string (str x), .int .i64 at_])]) w (.v (.one .slc)) fun (y : Option Addr × Nat × Nat) w' =>
      RunK Tryd.prog (Builtin.append_ #[38, 38] 38 #[.slice v.1 v.2.1 v.2.2, .slice y.1 y.2.1 y.2.2]) w' (.v (.one .slc)) fun (u : Option Addr × Nat × Nat) w'' => K u w'' := by
  obtain ⟨y, w1, r1, hy, hyl, f1, yf⟩ := buildSlice_ok (w := w) elem_sign 1 #[(0, .agg #[.string (str x), .int .i64 at_])] #[.string (str x), .int .i64 at_] (by omega) (by
    simp [Instr.fill, Value.cells]
    refine Array.ext (by simp) fun i h1 h2 => ?_
    have : i = 0 ∨ i = 1 := by simp at h2; omega
    rcases this with t | t <;> subst t <;> simp) rfl
  refine ⟨y, w1, r1, ?_⟩
  have hvl := h.len
  obtain ⟨z, w2, r2, hz, hzl, f2, zf⟩ := append_ok elem_sign 38 (h.sl.keep0 f1) hy.rd (by intro v hv; simp at hv; rcases hv with rfl | rfl <;> rfl) (by rw [hyl, hvl]; omega)
  refine ⟨z, w2, r2, hK z w2 ⟨?_, ?_⟩ (f1.of0 f2) fun k hk => ?_⟩
  · rw [signCells_app]; exact hz
  · rw [hzl, hyl, hvl, List.length_append]; rfl
  · rcases zf k hk with t | t
    · exact .inl t
    · exact .inr (Nat.le_trans f1.size t)

/-- A part of an element of a slice of signs. -/
theorem sg_ld {w : World} {v : Sl} {l : List SignV} (h : IsSg w v l) {i : Int} (h0 : 0 ≤ i) (h1 : i < v.2.1) {x : SignV} (hx : l[i.toNat]? = some x) {K : Addr → Prop}
    (hK : ∀ a : Addr, (∀ (K : ByteArray → Prop), K (str x.1) → LdK .str (a.add 0) w K) → (∀ (K : Int → Prop), K x.2 → LdK (.int .i64) (a.add 1) w K) → (∀ (K : ByteArray × Int × Unit → Prop), K (str x.1, x.2, ()) → LdsK [.str, .int .i64] a w K) → K a) : IdxK v.1 v.2.1 i 2 K := by
  obtain ⟨hs, hl⟩ := h
  obtain ⟨c1, c2⟩ := signCells_at l i.toNat x hx
  rcases hs with ⟨rfl, hnil⟩ | ⟨g, off, cs, hv, hb, hle, hc, hn, he⟩
  · dsimp only at h1; omega
  · refine ⟨_, hv, h0, h1, ?_⟩
    rw [addr_add]
    have hlen := signCells_len l
    have hi : i.toNat < l.length := by omega
    have e0 : w.cell? (⟨g, off + i.toNat * 2, none⟩ : Addr) = some (.string (str x.1)) := by
      rw [cell_blk hb, he _ (by omega)]; exact c1
    have e1 : w.cell? (⟨g, off + i.toNat * 2 + 1, none⟩ : Addr) = some (.int .i64 x.2) := by
      rw [cell_blk hb, show off + i.toNat * 2 + 1 = off + (i.toNat * 2 + 1) by omega, he _ (by omega)]; exact c2
    have a0 : ((⟨g, off + i.toNat * 2, none⟩ : Addr).add 0) = ⟨g, off + i.toNat * 2, none⟩ := by rw [addr_add]; rfl
    have a1 : ((⟨g, off + i.toNat * 2, none⟩ : Addr).add 1) = ⟨g, off + i.toNat * 2 + 1, none⟩ := by rw [addr_add]
    refine hK _ (fun K k => LdK.cell (by rw [a0]; exact e0) k) (fun K k => LdK.cell (by rw [a1]; exact e1) k) (fun K k => ⟨_, ⟨by rw [a0]; exact e0, by rw [a1]; exact e1, trivial⟩, k⟩)

def addLast (l : List SignV) (x : List UInt8) : List SignV := l.dropLast ++ [((l.getLastD ([], 0)).1 ++ x, (l.getLastD ([], 0)).2)]

theorem last_split (l : List SignV) (h : l ≠ []) : ∃ a y, l = a ++ [y] := ⟨l.dropLast, l.getLast h, (List.dropLast_concat_getLast h).symm⟩
theorem addLast_of (a : List SignV) (y : SignV) (x : List UInt8) : addLast (a ++ [y]) x = a ++ [(y.1 ++ x, y.2)] := by
  unfold addLast; simp

theorem sg_last {w : World} {v : Sl} {a : List SignV} {y : SignV} (h : IsSg w v (a ++ [y])) (x : List UInt8) {i : Int} (hi : i = (v.2.1 : Int) - 1) (hsz : y.1.length + x.length ≤ 1000000000000) {K : World → Prop}
    (hK : ∀ w', IsSg w' v (a ++ [(y.1 ++ x, y.2)]) → Fr (blkOf v) w w' → K w') :
    IdxK v.1 v.2.1 i 2 (fun p => LdK .str (p.add 0) w fun t => CatK t (Utf8.encode 0 |> fun _ => str x) (IdxK v.1 v.2.1 i 2 fun q => StK (q.add 0) (.string (t ++ str x)) w K)) := by
  have hl := h.len
  rw [List.length_append, List.length_singleton] at hl
  refine sg_ld h (x := y) (by omega) (by omega) (by rw [show i.toNat = a.length by omega]; simp) fun p h0 h1 h2 => ?_
  refine h0 _ ?_
  refine ⟨by rw [str_size, str_size]; show ((y.1.length + x.length : Nat) : Int) ≤ 9223372036854775807; omega, ?_⟩
  rw [str_app]
  obtain ⟨hs, _⟩ := h
  rcases hs with ⟨rfl, hnil⟩ | ⟨g, off, cs, hv, hb, hle, hc, hn, he⟩
  · dsimp only at hl; omega
  · refine ⟨_, hv, by omega, by omega, ?_⟩
    rw [addr_add, addr_add]
    have hlen := signCells_len (a ++ [y])
    have hal := signCells_len a
    rw [List.length_append, List.length_singleton] at hlen
    have hit : i.toNat = a.length := by omega
    refine StK.of hb (by omega) rfl fun w1 hb1 f1 hs1 => hK w1 ⟨.inr ⟨g, off, _, hv, hb1, hle, by simpa using hc, ?_, fun j hj => ?_⟩, by rw [List.length_append, List.length_singleton]; omega⟩ (f1.mono fun k _ hk => ⟨_, hv, hk⟩)
    · rw [signCells_len, List.length_append, List.length_singleton]; omega
    · rw [signCells_len, List.length_append, List.length_singleton] at hj
      rw [hit, Array.getElem?_setIfInBounds, signCells_app]
      have hje := he j (by omega)
      rw [signCells_app] at hje
      by_cases hja : j < (signCells a).length
      · rw [if_neg (by omega), hje, List.getElem?_append_left hja, List.getElem?_append_left hja]
      · rw [List.getElem?_append_right (by omega)] at hje ⊢
        by_cases h0 : j - (signCells a).length = 0
        · rw [if_pos (by omega), if_pos (by omega), h0]; rfl
        · rw [if_neg (by omega), hje]
          have : j - (signCells a).length = 1 := by omega
          rw [this]; rfl

def sgF (acc : List SignV) (at_ : Int) (run : Bool) : List Int → List SignV × Int
  | [] => (acc, 0)
  | r :: rs => if kd r = 0 then ([], at_ + 1) else if kd r = 97 ∧ run = true then sgF (addLast acc (enc r)) (at_ + 1) true rs else
      if kd r ≠ 32 then sgF (acc ++ [(enc r, at_ + 1)]) (at_ + 1) (kd r == 97) rs else sgF acc (at_ + 1) false rs

/-- How many runes are read. -/
def reads (rs : List Int) : Nat := (rs.takeWhile fun r => kd r != 0).length

theorem signs_spec (bs : List UInt8) (w : World) (hb : reads (runesL bs) ≤ 1000000) : Ret Tryd.prog 20 #[.string (str bs)] w fun v w' =>
    ∃ sl : Sl, v = .tuple #[.slice sl.1 sl.2.1 sl.2.2, .int .i64 (sgF [] 0 false (runesL bs)).2] ∧ IsSg w' sl (sgF [] 0 false (runesL bs)).1 ∧ Fr none1 w w' ∧ ∀ k, blkOf sl k → w.heap.size ≤ k := by
  refine c20 _ w _ ?_
  refine range_okS bs fun r w1 hr hit f1 => ?_
  have F0 : Fr (only r) w1 w1 := Fr.refl _ _
  have s1 := f1.size
  refine LoopK.of (fun s w' => ∃ (acc : List SignV) (rest : List Int), 0 ≤ s.2.1 ∧ s.2.1 + reads rest ≤ 1000000 ∧ IsSg w' s.1 acc ∧ (∀ k, blkOf s.1 k → w.heap.size < k) ∧ (s.2.2.1 = true → acc ≠ []) ∧ acc.length ≤ s.2.1 ∧ (∀ y ∈ acc, (y.1.length : Int) ≤ 4 * s.2.1) ∧ IsIt w' r rest ∧ Fr none1 w w' ∧ sgF acc s.2.1 s.2.2.1 rest = sgF [] 0 false (runesL bs)) (fun _ w' => itLen w' r)
    ⟨[], _, Int.le_refl _, by dsimp only; omega, none_sg _, (fun k ⟨a, ha, _⟩ => by cases ha), (fun t => by cases t), by simp, (fun y hy => by simp at hy), hit, f1, rfl⟩ ?_
  rintro _ ⟨v, at_, run, _⟩ w2 ⟨acc, rest, h0, hrd, hv, hvf, hrun, hal, hay, hit2, f2, heq⟩
  dsimp only at h0 hrd hv hvf hrun hal hay heq ⊢
  refine next_ok hit2 (fun c rest' pos w3 hc hok hit3 f3 => ?_) (fun hnil => ?_)
  · subst hc
    have fw3 : Fr none1 w w3 := f2.fresh f3 (by omega)
    have hv3 := hv.keep f3 (fun k hk t => by have := hvf k hk; have : k = r := t; omega)
    refine CallK.of (kind_spec c w3) ?_
    rintro _ _ ⟨rfl, rfl⟩
    refine ⟨_, rfl, ?_⟩
    have ml : ∀ w4, IsIt w4 r rest' → itLen w4 r < itLen w2 r := fun w4 h4 => by rw [h4.left, hit2.left]; simp
    have hunf : sgF acc at_ run (c :: rest') = if kd c = 0 then ([], at_ + 1) else if kd c = 97 ∧ run = true then sgF (addLast acc (enc c)) (at_ + 1) true rest' else
      if kd c ≠ 32 then sgF (acc ++ [(enc c, at_ + 1)]) (at_ + 1) (kd c == 97) rest' else sgF acc (at_ + 1) false rest' := rfl
    rw [hunf] at heq
    have e1 : IntKind.i64.wrap (at_ + 1) = at_ + 1 := wI (by omega) (by omega)
    rw [e1]
    refine ifB.eq (fun hk0 => ?_) (fun hk0 => ?_)
    · rw [if_pos hk0] at heq
      rw [← heq]
      exact ⟨(none, 0, 0), rfl, none_sg _, fw3, fun k ⟨a, ha, _⟩ => by cases ha⟩
    rw [if_neg hk0] at heq
    have hrd' : at_ + 1 + reads rest' ≤ 1000000 := by
      have : reads (c :: rest') = reads rest' + 1 := by
        unfold reads
        rw [List.takeWhile_cons_of_pos (by simpa using hk0)]
        rfl
      omega
    have hel := enc_len c
    refine JoinK.of (fun b w' => w3 = w' ∧ b.1 = (decide (kd c = 97) && run)) ?_ ?_
    · refine ifB.eq (fun h => ?_) (fun h => ?_)
      · exact ⟨rfl, by rw [decide_eq_true h, Bool.true_and]⟩
      · exact ⟨rfl, by rw [decide_eq_false h, Bool.false_and]⟩
    rintro _ ⟨b, _⟩ _ ⟨rfl, hbb⟩
    dsimp only at hbb ⊢
    subst hbb
    refine ifB.by (fun hab => ?_) (fun hab => ?_)
    · have hab' : kd c = 97 ∧ run = true := by simpa using hab
      obtain ⟨ha, hrn⟩ := hab'
      rw [if_pos ⟨ha, hrn⟩] at heq
      obtain ⟨a, y, rfl⟩ := last_split acc (hrun hrn)
      rw [addLast_of] at heq
      have hvl := hv.len
      rw [List.length_append, List.length_singleton] at hvl
      have hy4 := hay y (by simp)
      rw [wI (x := (v.2.1 : Int) - 1) (by omega) (by simp at hal; omega)]
      rw [enc_str]
      refine sg_last hv3 (enc c) rfl (by omega) fun w4 hv4 f4 => ?_
      have hlt3 : ∀ k, blkOf v k → k ≠ r := fun k hk => by have := hvf k hk; omega
      have hit4 := hit3.keep f4 (fun t => hlt3 r t rfl)
      refine ⟨⟨_, rest', by omega, hrd', hv4, hvf, fun _ => by simp, by simp at hal ⊢; omega, fun z hz => ?_, hit4, fw3.comp f4 (fun k hk t => by have := hvf k t; omega), ?_⟩, ml w4 hit4⟩
      · rcases List.mem_append.1 hz with hz | hz
        · have := hay z (by simp [hz]); omega
        · simp at hz; subst hz
          simp only [List.length_append]
          omega
      · rw [ha]; exact heq
    · have hab' : ¬ (kd c = 97 ∧ run = true) := by simpa using hab
      rw [if_neg hab'] at heq
      refine ifB.ne (fun h32 => ?_) (fun h32 => ?_)
      · rw [if_pos h32] at heq
        rw [enc_str]
        refine sg_snoc hv3 (enc c) (at_ + 1) (by omega) fun u w4 hu f4 uf => ?_
        have hlt3 : ∀ k, blkOf v k → k ≠ r := fun k hk => by have := hvf k hk; omega
        have hit4 := hit3.keep f4 (fun t => hlt3 r t rfl)
        have s3 := hit3.lt
        refine ⟨⟨_, rest', by omega, hrd', hu, fun k hk => ?_, fun _ => by simp, by simp; omega, fun z hz => ?_, hit4, fw3.comp f4 (fun k hk t => by have := hvf k t; omega), heq⟩, ml w4 hit4⟩
        · rcases uf k hk with t | t
          · exact hvf k t
          · omega
        · rcases List.mem_append.1 hz with hz | hz
          · have := hay z hz; omega
          · simp at hz; subst hz
            dsimp only
            omega
      · rw [if_neg (by simp [h32])] at heq
        refine ⟨⟨acc, rest', by omega, hrd', hv3, hvf, fun t => ?_, by omega, fun z hz => ?_, hit3, fw3, ?_⟩, ml w3 hit3⟩
        · rw [h32] at t; simp at t
        · have := hay z hz; omega
        · rw [h32]; exact heq
  · subst hnil
    rw [← heq]
    exact ⟨v, rfl, hv, f2, fun k hk => by have := hvf k hk; omega⟩

/-! ### Two signs compared; two lists; the example -/
theorem bytes_beq (x y : ByteArray) : (x.toList == y.toList) = decide (x = y) := by
  rw [ByteArray.toList_eq, ByteArray.toList_eq]
  by_cases h : x = y
  · subst h; simp
  · rw [decide_eq_false h]
    have : x.data.toList ≠ y.data.toList := fun t => h (by cases x; cases y; simpa using t)
    simpa using this

theorem sign_eq (x y : ByteArray) (i j : Int) (o1 o2 : Operand) (w : World) :
    (do eqGuard .eql 46 o1 o2 (.agg #[.string x, .int .i64 i]) (.agg #[.string y, .int .i64 j]); binOp .eql 46 (.agg #[.string x, .int .i64 i]) (.agg #[.string y, .int .i64 j]) : Sem Value).run Tryd.prog w = .ok (.bool (decide (x = y) && decide (i = j))) w := by
  have hf : ∃ fs, Tryd.prog.underlying 46 = some (.struct fs) ∧ Tryd.prog.fieldsOf 46 = fs := by
    unfold Program.fieldsOf
    rw [Tryd.underlying46]
    exact ⟨_, rfl, rfl⟩
  have hu : Tryd.prog.underlying 46 = some (.struct (Tryd.prog.fieldsOf 46)) := by
    obtain ⟨fs, h1, h2⟩ := hf
    rw [h1, h2]
  rw [Sem.run_bind, run_eqGuard_agg w _ _ _ _ _ _ (show Tryd.prog.eqGuardType Tryd.prog.depth 46 = false by kernel_rfl), Result.andThen_ok, run_eql_struct, run_equalIn_agg w _ _ _ _ hu (by kernel_rfl)]
  have hF : (Tryd.prog.fieldsOf 46).toList = [{ name := "Text", type := 9, offset := 0, embedded := false, tag := "", pkgPath := "", byteOffset := 0 }, { name := "At", type := 3, offset := 1, embedded := false, tag := "", pkgPath := "", byteOffset := 16 }] := by
    unfold Program.fieldsOf
    rw [Tryd.underlying46]
  have p0 : ∀ (v u : Value), (part 9 #[v, u] 0).run Tryd.prog w = .ok v w := fun v u => by simp [part, isAgg, under Tryd.underlying9]
  have p1 : ∀ (v u : Value), (part 3 #[v, u] 1).run Tryd.prog w = .ok u w := fun v u => by simp [part, isAgg, under Tryd.underlying3]
  rw [hF]
  have q0 : (Op.equalIn 9999 9 (.string x) (.string y)).run Tryd.prog w = .ok (x.toList == y.toList) w := run_equalIn_string w 9998 _ _ _ Tryd.underlying9
  have q1 : (Op.equalIn 9999 3 (.int .i64 i) (.int .i64 j)).run Tryd.prog w = .ok (i == j) w := run_equalIn_int w 9998 _ _ _ _ _ Tryd.underlying3
  simp only [Op.eqFields, ne_eq, if_pos (show ¬ ("Text" = "_") by decide), if_pos (show ¬ ("At" = "_") by decide), Sem.run_bind, p0, Result.andThen_ok, q0]
  rw [bytes_beq]
  by_cases hxy : x = y
  · subst hxy
    by_cases hij : i = j
    · subst hij; simp [p1, q1]
    · simp [hij, p1, q1]
  · simp [hxy]

theorem sign_ne (x y : ByteArray) (i j : Int) (o1 o2 : Operand) (w : World) :
    (do eqGuard .neq 46 o1 o2 (.agg #[.string x, .int .i64 i]) (.agg #[.string y, .int .i64 j]); binOp .neq 46 (.agg #[.string x, .int .i64 i]) (.agg #[.string y, .int .i64 j]) : Sem Value).run Tryd.prog w = .ok (.bool (!(decide (x = y) && decide (i = j)))) w := by
  have h := sign_eq x y i j o1 o2 w
  rw [Sem.run_bind, run_eqGuard_agg w _ _ _ _ _ _ (show Tryd.prog.eqGuardType Tryd.prog.depth 46 = false by kernel_rfl), Result.andThen_ok] at h ⊢
  rw [run_eql_struct] at h
  rw [run_neq_struct]
  cases hr : (Op.equalIn 10000 46 (.agg #[.string x, .int .i64 i]) (.agg #[.string y, .int .i64 j])).run Tryd.prog w with
  | halt e w' => rw [hr] at h; simp [Result.andThen] at h
  | ok b w' =>
    rw [hr, Result.andThen_ok] at h
    injection h with h1 h2
    injection h1 with h1
    rw [Result.andThen_ok, h1, h2]

theorem wakes1_runes : runesL [111, 110, 101, 40, 32, 195, 169, 41] = [111, 110, 101, 40, 32, 233, 41] := by
  have h : txt [111, 110, 101, 40, 32, 233, 41] = [111, 110, 101, 40, 32, 195, 169, 41] := by rfl
  rw [← h]
  exact runes_txt0 _ (by intro r hr; simp at hr; unfold okR; omega)
theorem wakes1_signs : sgF [] 0 false [111, 110, 101, 40, 32, 233, 41] = ([([111, 110, 101], 1), ([40], 4), ([195, 169], 6), ([41], 7)], 0) := by rfl

theorem wakes1_spec (w : World) : Ret Tryd.prog 13 #[] w fun r w' => r = .bool true ∧ Fr none1 w w' := by
  refine c13 w _ ?_
  refine CallK.of (signs_spec [111, 110, 101, 40, 32, 195, 169, 41] w (by rw [wakes1_runes]; decide)) ?_
  rintro _ w1 ⟨sl, rfl, hsl, f1, _⟩
  rw [wakes1_runes, wakes1_signs] at hsl ⊢
  refine ⟨((sl.1, sl.2.1, sl.2.2), 0, ()), rfl, ifB.t rfl (ifB.t (by have := hsl.len; simp only [List.length_cons, List.length_nil] at this; dsimp only; rw [this]; rfl) ?_)⟩
  have hl := hsl.len
  simp only [List.length_cons, List.length_nil] at hl
  refine sg_ld hsl (i := 2) (by omega) (by omega) (x := ([195, 169], 6)) rfl fun p _ _ hp => hp _ ?_
  refine ⟨_, w1, sign_eq _ _ _ _ _ _ w1, ?_⟩
  exact ⟨rfl, f1⟩

theorem text1_spec (bs : List UInt8) (n : Int) (w : World) (h0 : 0 ≤ n) : Ret Tryd.prog 14 #[.string (str bs), .int .i64 n] w fun r w' => r = .string (str (bs.take n.toNat)) ∧ w = w' := by
  refine c14 _ n w _ ?_
  have hsz := str_size bs
  have ext : ∀ m : Nat, (str bs).extract 0 m = str (bs.take m) := fun m => by
    apply ByteArray.ext
    rw [ByteArray.data_extract]
    unfold str
    simp
  unfold C14
  split
  · refine ⟨by omega, by omega, by omega, ?_, rfl⟩
    rw [show (0 : Int).toNat = 0 from rfl, ext]
  · refine ⟨by omega, by omega, by omega, ?_, rfl⟩
    rw [show (0 : Int).toNat = 0 from rfl, ext, Int.toNat_natCast, hsz, List.take_length, List.take_of_length_le (by omega)]

end Go.Proofs.YtgkpehbjcaibgaaDoor
