/-
  What the runes' functions do: letters, kinds, names, signs; the example of the document.
  Conditions: a text of which not too many runes are read.
-/
import Derived.Test.YtlhbfdakceipkaaGreatDoorNameSpec
import Derived.Laws.StructEq
set_option linter.unusedVariables false
set_option maxRecDepth 100000
namespace Go.Proofs.YtlhbfdakceipkaaGreatDoor
open Vc

def kd (r : Int) : Int := if isLet r then 97 else if r = 45 then 97 else if r = 40 then 40 else if r = 41 then 40 else if r = 44 then 40 else if r = 32 then 32 else 0

theorem kind_spec (r : Int) (w : World) : Ret Tryz.prog 152 #[.int .i32 r] w fun v w' => v = .int .u8 (kd r) ∧ w = w' := by
  refine c152 r w _ ?_
  refine CallK.of (letter_spec r w) ?_
  rintro _ _ ⟨rfl, rfl⟩
  refine ⟨_, rfl, ?_⟩
  unfold kd
  refine ifB.by (fun h1 => ?_) (fun h1 => ?_)
  · rw [if_pos h1]; exact ⟨rfl, rfl⟩
  rw [if_neg (by simp [h1])]
  refine ifB.eq (fun h => ?_) (fun h => ?_)
  · rw [if_pos h]; exact ⟨rfl, rfl⟩
  rw [if_neg h]
  refine ifB.eq (fun h => ?_) (fun h => ?_)
  · rw [if_pos h]; exact ⟨rfl, rfl⟩
  rw [if_neg h]
  refine ifB.eq (fun h => ?_) (fun h => ?_)
  · rw [if_pos h]; exact ⟨rfl, rfl⟩
  rw [if_neg h]
  refine ifB.eq (fun h => ?_) (fun h => ?_)
  · rw [if_pos h]; exact ⟨rfl, rfl⟩
  rw [if_neg h]
  refine ifB.eq (fun h => ?_) (fun h => ?_)
  · rw [if_pos h]; exact ⟨rfl, rfl⟩
  rw [if_neg h]; exact ⟨rfl, rfl⟩

/-! ### Signs -/
abbrev SignV := List UInt8 × Int
def signCells (l : List SignV) : List Value := l.flatMap fun x => [.string (str x.1), .int .i64 x.2]
theorem signCells_len (l : List SignV) : (signCells l).length = l.length * 2 := by
  induction l with
  | nil => rfl
  | cons x l ih => unfold signCells at *; rw [List.flatMap_cons, List.length_append, ih]; simp; omega
theorem signCells_app (a b : List SignV) : signCells (a ++ b) = signCells a ++ signCells b := by unfold signCells; rw [List.flatMap_append]
theorem signCells_at : ∀ (l : List SignV) (i : Nat) (x : SignV), l[i]? = some x → (signCells l)[i * 2]? = some (.string (str x.1)) ∧ (signCells l)[i * 2 + 1]? = some (.int .i64 x.2)
  | [], i, x, h => by simp at h
  | y :: l, 0, x, h => by
    simp at h; subst h
    exact ⟨rfl, rfl⟩
  | y :: l, i + 1, x, h => by
    have := signCells_at l i x (by simpa using h)
    rw [show (i + 1) * 2 = i * 2 + 2 by omega, show i * 2 + 2 + 1 = i * 2 + 1 + 2 by omega]
    exact this

theorem elem_sign : ElemOk Tryz.prog 143 270 2 (.agg #[.string ByteArray.empty, .int .i64 0]) 24 := ⟨Tryz.underlying143, ⟨Tryz.t270, by kernel_rfl, rfl, rfl, rfl⟩, rfl, by decide⟩

/-- A slice of signs. -/
structure IsSg (w : World) (v : Sl) (l : List SignV) : Prop where
  sl : IsSl w 270 2 v (signCells l)
  len : v.2.1 = l.length

theorem IsSg.keep {w w' : World} {v : Sl} {l : List SignV} (h : IsSg w v l) {S : Nat → Prop} (f : Fr S w w') (hn : ∀ k, blkOf v k → ¬ S k) : IsSg w' v l := ⟨h.sl.keep f hn, h.len⟩
theorem IsSg.keep0 {w w' : World} {v : Sl} {l : List SignV} (h : IsSg w v l) (f : Fr none1 w w') : IsSg w' v l := h.keep f (fun _ _ t => t)
theorem none_sg (w : World) : IsSg w (none, 0, 0) [] := ⟨.inl ⟨rfl, rfl⟩, rfl⟩

theorem sg_snoc {w : World} {v : Sl} {l : List SignV} (h : IsSg w v l) (x : List UInt8) (at_ : Int) (hl : l.length ≤ 10000000) {K : Sl → World → Prop}
    (hK : ∀ y w', IsSg w' y (l ++ [(x, at_)]) → Fr (blkOf v) w w' → (∀ k, blkOf y k → blkOf v k ∨ w.heap.size ≤ k) → K y w') :
    RunK Tryz.prog (Instr.buildSlice 143 1 #[(0, .agg #[.string (str x), .int .i64 at_])]) w (.v (.one .slc)) fun (y : Option Addr × Nat × Nat) w' =>
      RunK Tryz.prog (Builtin.append_ #[143, 143] 143 #[.slice v.1 v.2.1 v.2.2, .slice y.1 y.2.1 y.2.2]) w' (.v (.one .slc)) fun (u : Option Addr × Nat × Nat) w'' => K u w'' := by
  obtain ⟨y, w1, r1, hy, hyl, f1, yf⟩ := buildSlice_ok (w := w) elem_sign 1 #[(0, .agg #[.string (str x), .int .i64 at_])] #[.string (str x), .int .i64 at_] (by omega) (by
    simp [Instr.fill, Value.cells]
    refine Array.ext (by simp) fun i h1 h2 => ?_
    have : i = 0 ∨ i = 1 := by simp at h2; omega
    rcases this with t | t <;> subst t <;> simp) rfl
  refine ⟨y, w1, r1, ?_⟩
  have hvl := h.len
  obtain ⟨z, w2, r2, hz, hzl, f2, zf⟩ := append_ok elem_sign 143 (h.sl.keep0 f1) hy.rd (by intro v hv; simp at hv; rcases hv with rfl | rfl <;> rfl) (by rw [hyl, hvl]; omega)
  refine ⟨z, w2, r2, hK z w2 ⟨?_, ?_⟩ (f1.of0 f2) fun k hk => ?_⟩
  · rw [signCells_app]; exact hz
  · rw [hzl, hyl, hvl, List.length_append]; rfl
  · rcases zf k hk with t | t
    · exact .inl t
    · exact .inr (Nat.le_trans f1.size t)

/-- A part of an element of a slice of signs. -/
theorem sg_ld {w : World} {v : Sl} {l : List SignV} (h : IsSg w v l) {i : Int} (h0 : 0 ≤ i) (h1 : i < v.2.1) {x : SignV} (hx : l[i.toNat]? = some x) {K : Addr → Prop}
    (hK : ∀ a : Addr, (∀ (K : ByteArray → Prop), K (str x.1) → LdK .str (a.add 0) w K) → (∀ (K : Int → Prop), K x.2 → LdK (.int .i64) (a.add 1) w K) → (∀ (K : ByteArray × Int × Unit → Prop), K (str x.1, x.2, ()) → LdsK [.str, .int .i64] a w K) → K a) : IdxK v.1 v.2.1 i 2 K := by
  obtain ⟨hs, hl⟩ := h
  obtain ⟨c1, c2⟩ := signCells_at l i.toNat x hx
  rcases hs with ⟨rfl, hnil⟩ | ⟨g, off, cs, hv, hb, hle, hc, hn, he⟩
  · dsimp only at h1; omega
  · refine ⟨_, hv, h0, h1, ?_⟩
    rw [addr_add]
    have hlen := signCells_len l
    have hi : i.toNat < l.length := by omega
    have e0 : w.cell? (⟨g, off + i.toNat * 2, none⟩ : Addr) = some (.string (str x.1)) := by
      rw [cell_blk hb, he _ (by omega)]; exact c1
    have e1 : w.cell? (⟨g, off + i.toNat * 2 + 1, none⟩ : Addr) = some (.int .i64 x.2) := by
      rw [cell_blk hb, show off + i.toNat * 2 + 1 = off + (i.toNat * 2 + 1) by omega, he _ (by omega)]; exact c2
    have a0 : ((⟨g, off + i.toNat * 2, none⟩ : Addr).add 0) = ⟨g, off + i.toNat * 2, none⟩ := by rw [addr_add]; rfl
    have a1 : ((⟨g, off + i.toNat * 2, none⟩ : Addr).add 1) = ⟨g, off + i.toNat * 2 + 1, none⟩ := by rw [addr_add]
    refine hK _ (fun K k => LdK.cell (by rw [a0]; exact e0) k) (fun K k => LdK.cell (by rw [a1]; exact e1) k) (fun K k => ⟨_, ⟨by rw [a0]; exact e0, by rw [a1]; exact e1, trivial⟩, k⟩)

def addLast (l : List SignV) (x : List UInt8) : List SignV := l.dropLast ++ [((l.getLastD ([], 0)).1 ++ x, (l.getLastD ([], 0)).2)]

theorem last_split (l : List SignV) (h : l ≠ []) : ∃ a y, l = a ++ [y] := ⟨l.dropLast, l.getLast h, (List.dropLast_concat_getLast h).symm⟩
theorem addLast_of (a : List SignV) (y : SignV) (x : List UInt8) : addLast (a ++ [y]) x = a ++ [(y.1 ++ x, y.2)] := by
  unfold addLast; simp

theorem sg_last {w : World} {v : Sl} {a : List SignV} {y : SignV} (h : IsSg w v (a ++ [y])) (x : List UInt8) {i : Int} (hi : i = (v.2.1 : Int) - 1) (hsz : y.1.length + x.length ≤ 1000000000000) {K : World → Prop}
    (hK : ∀ w', IsSg w' v (a ++ [(y.1 ++ x, y.2)]) → Fr (blkOf v) w w' → K w') :
    IdxK v.1 v.2.1 i 2 (fun p => LdK .str (p.add 0) w fun t => CatK t (Utf8.encode 0 |> fun _ => str x) (IdxK v.1 v.2.1 i 2 fun q => StK (q.add 0) (.string (t ++ str x)) w K)) := by
  have hl := h.len
  rw [List.length_append, List.length_singleton] at hl
  refine sg_ld h (x := y) (by omega) (by omega) (by rw [show i.toNat = a.length by omega]; simp) fun p h0 h1 h2 => ?_
  refine h0 _ ?_
  refine ⟨by rw [str_size, str_size]; show ((y.1.length + x.length : Nat) : Int) ≤ 9223372036854775807; omega, ?_⟩
  rw [str_app]
  obtain ⟨hs, _⟩ := h
  rcases hs with ⟨rfl, hnil⟩ | ⟨g, off, cs, hv, hb, hle, hc, hn, he⟩
  · dsimp only at hl; omega
  · refine ⟨_, hv, by omega, by omega, ?_⟩
    rw [addr_add, addr_add]
    have hlen := signCells_len (a ++ [y])
    have hal := signCells_len a
    rw [List.length_append, List.length_singleton] at hlen
    have hit : i.toNat = a.length := by omega
    refine StK.of hb (by omega) rfl fun w1 hb1 f1 hs1 => hK w1 ⟨.inr ⟨g, off, _, hv, hb1, hle, by simpa using hc, ?_, fun j hj => ?_⟩, by rw [List.length_append, List.length_singleton]; omega⟩ (f1.mono fun k _ hk => ⟨_, hv, hk⟩)
    · rw [signCells_len, List.length_append, List.length_singleton]; omega
    · rw [signCells_len, List.length_append, List.length_singleton] at hj
      rw [hit, Array.getElem?_setIfInBounds, signCells_app]
      have hje := he j (by omega)
      rw [signCells_app] at hje
      by_cases hja : j < (signCells a).length
      · rw [if_neg (by omega), hje, List.getElem?_append_left hja, List.getElem?_append_left hja]
      · rw [List.getElem?_append_right (by omega)] at hje ⊢
        by_cases h0 : j - (signCells a).length = 0
        · rw [if_pos (by omega), if_pos (by omega), h0]; rfl
        · rw [if_neg (by omega), hje]
          have : j - (signCells a).length = 1 := by omega
          rw [this]; rfl

def sgF (acc : List SignV) (at_ : Int) (run : Bool) : List Int → List SignV × Int
  | [] => (acc, 0)
  | r :: rs => if kd r = 0 then ([], at_ + 1) else if kd r = 97 ∧ run = true then sgF (addLast acc (enc r)) (at_ + 1) true rs else
      if kd r ≠ 32 then sgF (acc ++ [(enc r, at_ + 1)]) (at_ + 1) (kd r == 97) rs else sgF acc (at_ + 1) false rs

/-- How many runes are read. -/
def reads (rs : List Int) : Nat := (rs.takeWhile fun r => kd r != 0).length

theorem signs_spec (bs : List UInt8) (w : World) (hb : reads (runesL bs) ≤ 1000000) : Ret Tryz.prog 106 #[.string (str bs)] w fun v w' =>
    ∃ sl : Sl, v = .tuple #[.slice sl.1 sl.2.1 sl.2.2, .int .i64 (sgF [] 0 false (runesL bs)).2] ∧ IsSg w' sl (sgF [] 0 false (runesL bs)).1 ∧ Fr none1 w w' ∧ ∀ k, blkOf sl k → w.heap.size ≤ k := by
  refine c106 _ w _ ?_
  refine range_okS bs fun r w1 hr hit f1 => ?_
  have F0 : Fr (only r) w1 w1 := Fr.refl _ _
  have s1 := f1.size
  refine LoopK.of (fun s w' => ∃ (acc : List SignV) (rest : List Int), 0 ≤ s.2.1 ∧ s.2.1 + reads rest ≤ 1000000 ∧ IsSg w' s.1 acc ∧ (∀ k, blkOf s.1 k → w.heap.size < k) ∧ (s.2.2.1 = true → acc ≠ []) ∧ acc.length ≤ s.2.1 ∧ (∀ y ∈ acc, (y.1.length : Int) ≤ 4 * s.2.1) ∧ IsIt w' r rest ∧ Fr none1 w w' ∧ sgF acc s.2.1 s.2.2.1 rest = sgF [] 0 false (runesL bs)) (fun _ w' => itLen w' r)
    ⟨[], _, Int.le_refl _, by dsimp only; omega, none_sg _, (fun k ⟨a, ha, _⟩ => by cases ha), (fun t => by cases t), by simp, (fun y hy => by simp at hy), hit, f1, rfl⟩ ?_
  rintro _ ⟨v, at_, run, _⟩ w2 ⟨acc, rest, h0, hrd, hv, hvf, hrun, hal, hay, hit2, f2, heq⟩
  dsimp only at h0 hrd hv hvf hrun hal hay heq ⊢
  refine next_ok hit2 (fun c rest' pos w3 hc hok hit3 f3 => ?_) (fun hnil => ?_)
  · subst hc
    have fw3 : Fr none1 w w3 := f2.fresh f3 (by omega)
    have hv3 := hv.keep f3 (fun k hk t => by have := hvf k hk; have : k = r := t; omega)
    refine CallK.of (kind_spec c w3) ?_
    rintro _ _ ⟨rfl, rfl⟩
    refine ⟨_, rfl, ?_⟩
    have ml : ∀ w4, IsIt w4 r rest' → itLen w4 r < itLen w2 r := fun w4 h4 => by rw [h4.left, hit2.left]; simp
    have hunf : sgF acc at_ run (c :: rest') = if kd c = 0 then ([], at_ + 1) else if kd c = 97 ∧ run = true then sgF (addLast acc (enc c)) (at_ + 1) true rest' else
      if kd c ≠ 32 then sgF (acc ++ [(enc c, at_ + 1)]) (at_ + 1) (kd c == 97) rest' else sgF acc (at_ + 1) false rest' := rfl
    rw [hunf] at heq
    have e1 : IntKind.i64.wrap (at_ + 1) = at_ + 1 := wI (by omega) (by omega)
    rw [e1]
    refine ifB.eq (fun hk0 => ?_) (fun hk0 => ?_)
    · rw [if_pos hk0] at heq
      rw [← heq]
      exact ⟨(none, 0, 0), rfl, none_sg _, fw3, fun k ⟨a, ha, _⟩ => by cases ha⟩
    rw [if_neg hk0] at heq
    have hrd' : at_ + 1 + reads rest' ≤ 1000000 := by
      have : reads (c :: rest') = reads rest' + 1 := by
        unfold reads
        rw [List.takeWhile_cons_of_pos (by simpa using hk0)]
        rfl
      omega
    have hel := enc_len c
    refine JoinK.of (fun b w' => w3 = w' ∧ b.1 = (decide (kd c = 97) && run)) ?_ ?_
    · refine ifB.eq (fun h => ?_) (fun h => ?_)
      · exact ⟨rfl, by rw [decide_eq_true h, Bool.true_and]⟩
      · exact ⟨rfl, by rw [decide_eq_false h, Bool.false_and]⟩
    rintro _ ⟨b, _⟩ _ ⟨rfl, hbb⟩
    dsimp only at hbb ⊢
    subst hbb
    refine ifB.by (fun hab => ?_) (fun hab => ?_)
    · have hab' : kd c = 97 ∧ run = true := by simpa using hab
      obtain ⟨ha, hrn⟩ := hab'
      rw [if_pos ⟨ha, hrn⟩] at heq
      obtain ⟨a, y, rfl⟩ := last_split acc (hrun hrn)
      rw [addLast_of] at heq
      have hvl := hv.len
      rw [List.length_append, List.length_singleton] at hvl
      have hy4 := hay y (by simp)
      rw [wI (x := (v.2.1 : Int) - 1) (by omega) (by simp at hal; omega)]
      rw [enc_str]
      refine sg_last hv3 (enc c) rfl (by omega) fun w4 hv4 f4 => ?_
      have hlt3 : ∀ k, blkOf v k → k ≠ r := fun k hk => by have := hvf k hk; omega
      have hit4 := hit3.keep f4 (fun t => hlt3 r t rfl)
      refine ⟨⟨_, rest', by omega, hrd', hv4, hvf, fun _ => by simp, by simp at hal ⊢; omega, fun z hz => ?_, hit4, fw3.comp f4 (fun k hk t => by have := hvf k t; omega), ?_⟩, ml w4 hit4⟩
      · rcases List.mem_append.1 hz with hz | hz
        · have := hay z (by simp [hz]); omega
        · simp at hz; subst hz
          simp only [List.length_append]
          omega
      · rw [ha]; exact heq
    · have hab' : ¬ (kd c = 97 ∧ run = true) := by simpa using hab
      rw [if_neg hab'] at heq
      refine ifB.ne (fun h32 => ?_) (fun h32 => ?_)
      · rw [if_pos h32] at heq
        rw [enc_str]
        refine sg_snoc hv3 (enc c) (at_ + 1) (by omega) fun u w4 hu f4 uf => ?_
        have hlt3 : ∀ k, blkOf v k → k ≠ r := fun k hk => by have := hvf k hk; omega
        have hit4 := hit3.keep f4 (fun t => hlt3 r t rfl)
        have s3 := hit3.lt
        refine ⟨⟨_, rest', by omega, hrd', hu, fun k hk => ?_, fun _ => by simp, by simp; omega, fun z hz => ?_, hit4, fw3.comp f4 (fun k hk t => by have := hvf k t; omega), heq⟩, ml w4 hit4⟩
        · rcases uf k hk with t | t
          · exact hvf k t
          · omega
        · rcases List.mem_append.1 hz with hz | hz
          · have := hay z hz; omega
          · simp at hz; subst hz
            dsimp only
            omega
      · rw [if_neg (by simp [h32])] at heq
        refine ⟨⟨acc, rest', by omega, hrd', hv3, hvf, fun t => ?_, by omega, fun z hz => ?_, hit3, fw3, ?_⟩, ml w3 hit3⟩
        · rw [h32] at t; simp at t
        · have := hay z hz; omega
        · rw [h32]; exact heq
  · subst hnil
    rw [← heq]
    exact ⟨v, rfl, hv, f2, fun k hk => by have := hvf k hk; omega⟩

end Go.Proofs.YtlhbfdakceipkaaGreatDoor
