/-
  The reference's window, and the small functions of WindowPlays.
-/
import Derived.Test.YtejhjjafmobmbaaWinSpec
import Derived.Test.YtejhjjafmobmbaaVcSlice
import Derived.Test.YtejhjjafmobmbaaCWPlays
import Derived.Test.YtejhjjafmobmbaaCWinClone
set_option linter.unusedVariables false
namespace Go.Proofs.Ytejhjjafmobmbaa
open Vc

theorem elem_int : ElemOk Try.prog 22 3 1 (.int .i64 0) 8 := ⟨Try.underlying22, ⟨Try.t3, by kernel_rfl, rfl, rfl, rfl⟩, rfl, by decide⟩

/-- The reference's window at block c: what it keeps lies in blocks from 'base' on, and not in c. -/
def IsRef (w : World) (base c : Nat) (e h : Int) (seen : List Int) : Prop :=
  ∃ sl : Sl, w.heap[c]? = some (.cells #[.int .i64 e, .int .i64 h, .slice sl.1 sl.2.1 sl.2.2] 37 (0, 0)) ∧ IsSl w 3 1 sl (seen.map (.int .i64)) ∧ (∀ k, blkOf sl k → k ≠ c ∧ base ≤ k) ∧
    -1 ≤ e ∧ -1 ≤ h ∧ (0 ≤ e → 0 ≤ h) ∧ e ≤ 9223372036854775807 ∧ h ≤ 9223372036854775807

theorem IsRef.keep {w w' : World} {base c : Nat} {e h : Int} {seen : List Int} (hr : IsRef w base c e h seen) {S : Nat → Prop} (f : Fr S w w') (h1 : ¬ S c) (h2 : ∀ k, base ≤ k → k ≠ c → ¬ S k) : IsRef w' base c e h seen := by
  obtain ⟨sl, hb, hs, hk, r⟩ := hr
  exact ⟨sl, f.keep hb h1, hs.keep f (fun k hk' => h2 k (hk k hk').2 (hk k hk').1), hk, r⟩

def refR (e h : Int) (seen : List Int) (ep n : Int) : Bool :=
  if ep < 0 ∨ n < 0 ∨ ep < e then false else if e < ep then true else decide (h - 64 < n) && !seen.contains n
def refS (e h : Int) (seen : List Int) (ep n : Int) (r : Bool) : List Int :=
  if r then (if e < ep then [n] else n :: seen.filter fun m => decide ((if h < n then n else h) - 64 < m)) else seen

theorem newref_spec (w : World) : Ret Try.prog 28 #[] w fun r w' => ∃ c, w.heap.size = c ∧ r = .pointer (some ⟨c, 0, none⟩) ∧ Fr none1 w w' ∧ (∀ base, IsRef w' base c (-1) (-1) []) ∧ c < w'.heap.size := by
  refine c28 w _ (NewK.of fun g w1 hg hgb hf hs => ⟨g, hg, rfl, hf, fun base => ⟨(none, 0, 0), hgb, .inl ⟨rfl, rfl⟩, fun k ⟨a, ha, _⟩ => (by cases ha), by omega, by omega, by omega, by omega, by omega⟩, by omega⟩)

theorem take_succ_ne {l : List Int} {i : Nat} {x n : Int} (hx : l[i]? = some x) (hne : x ≠ n) (h : n ∉ l.take i) : n ∉ l.take (i + 1) := by
  rw [List.take_add_one, hx]
  simp only [List.mem_append, Option.mem_toList, not_or]
  exact ⟨h, by simpa using fun e => hne e⟩

theorem getmap {l : List Int} {i : Nat} (h : i < l.length) : (l.map (Value.int .i64))[i]? = some (.int .i64 (l.getD i 0)) := by
  rw [List.getElem?_map, List.getElem?_eq_getElem h]
  simp [List.getD_eq_getElem?_getD, List.getElem?_eq_getElem h]

theorem ref_spec {w : World} {base c : Nat} {e h : Int} {seen : List Int} (ep n : Int) (hw : IsRef w base c e h seen) (hbase : base ≤ w.heap.size) (hlen : seen.length ≤ 10000) (he : ep ≤ 9223372036854775807) (hn : n ≤ 9223372036854775807) :
    Ret Try.prog 32 #[.pointer (some ⟨c, 0, none⟩), .int .i64 ep, .int .i64 n] w fun r w' =>
      r = .bool (refR e h seen ep n) ∧ Fr (only c) w w' ∧ IsRef w' base c (accE e ep (refR e h seen ep n)) (accH e h ep n (refR e h seen ep n)) (refS e h seen ep n (refR e h seen ep n)) := by
  have hw0 := hw
  obtain ⟨sl, hb, hs, hk, h1, h2, h3, h4, h5⟩ := hw
  have hc := lt_of_blk hb
  have hsl : sl.2.1 = seen.length := by have := hs.len; simp at this; omega
  refine c32 _ ep n w _ ?_
  unfold C32
  have no : refR e h seen ep n = false → (.bool false : Value) = .bool (refR e h seen ep n) ∧ Fr (only c) w w ∧ IsRef w base c (accE e ep (refR e h seen ep n)) (accH e h ep n (refR e h seen ep n)) (refS e h seen ep n (refR e h seen ep n)) := fun hr => by
    rw [hr]; exact ⟨rfl, Fr.refl _ _, hw0⟩
  refine ifB.dec (fun c1 => no (by simp [refR, c1])) (fun c1 => ?_)
  refine ifB.dec (fun c2 => no (by simp [refR, c2])) (fun c2 => ?_)
  refine LdK.fld hb rfl ?_
  refine ifB.dec (fun c3 => no (by simp [refR, c3])) (fun c3 => ?_)
  refine LdK.fld hb rfl ?_
  refine ifB.dec (fun c4 => ?_) (fun c4 => ?_)
  · have c4' : e < ep := c4
    have hr : refR e h seen ep n = true := by unfold refR; rw [if_neg (by omega), if_pos (by omega)]
    obtain ⟨x, w1, hrun, hx, hxl, f1, hxf⟩ := one_ok (P := Try.prog) (w := w) elem_int (.int .i64 n) rfl
    refine ⟨x, w1, hrun, ?_⟩
    have hb1 := f1.keep0 hb
    refine StK.fld hb1 (by simp) rfl fun w2 hb2 f2 _ => ?_
    refine StK.fld hb2 (by simp) rfl fun w3 hb3 f3 _ => ?_
    refine StK.fld hb3 (by simp) rfl fun w4 hb4 f4 _ => ?_
    have F := (f2.trans f3).trans f4
    rw [hr, accE_new c4', accH_new c4']
    refine ⟨rfl, f1.of0 F, x, hb4, ?_, fun k hk' => ⟨by have := hxf k hk'; omega, by have := hxf k hk'; omega⟩, by omega, by omega, by omega, by omega, by omega⟩
    have : refS e h seen ep n true = [n] := by simp [refS, c4']
    rw [this]
    exact hx.keep F (fun k hk' t => by have := hxf k hk'; have : k = c := t; omega)
  · have hee : ep = e := by omega
    subst hee
    have hh0 : 0 ≤ h := h3 (by omega)
    refine LdK.fld hb rfl ?_
    rw [wI (x := h - 64) (by omega) (by omega)]
    refine ifB.dec (fun c5 => no ?_) (fun c5 => ?_)
    · unfold refR; rw [if_neg (by omega), if_neg (by omega)]; simp; omega
    refine LdK.fld hb (x := sl) rfl ?_
    refine LoopK.of (fun (q : Int × Unit) w' => w = w' ∧ 0 ≤ q.1 ∧ q.1 ≤ seen.length ∧ n ∉ seen.take q.1.toNat) (fun (q : Int × Unit) _ => (seen.length - q.1).toNat) ⟨rfl, by omega, by omega, by simp⟩ ?_
    rintro _ ⟨i, ⟨⟩⟩ _ ⟨rfl, hi0, hi1, hni⟩
    dsimp only at hi0 hi1 hni ⊢
    rw [hsl]
    refine ifB.dec (fun c6 => ?_) (fun c6 => ?_)
    · have := hs.ld (c := .int .i64) (i := i) (x := seen.getD i.toNat 0) (K := fun (x : Int) => ifB (x == n)
        ((.bool false : Value) = .bool (refR ep h seen ep n) ∧ Fr (only c) w w ∧ IsRef w base c (accE ep ep (refR ep h seen ep n)) (accH ep h ep n (refR ep h seen ep n)) (refS ep h seen ep n (refR ep h seen ep n)))
        ((w = w ∧ 0 ≤ IntKind.i64.wrap (i + 1) ∧ IntKind.i64.wrap (i + 1) ≤ seen.length ∧ n ∉ seen.take (IntKind.i64.wrap (i + 1)).toNat) ∧ (seen.length - IntKind.i64.wrap (i + 1)).toNat < (seen.length - i).toNat)) hi0 (by rw [hsl]; exact c6) (getmap (by omega)) ?_
      · rw [hsl] at this; exact this
      · refine ifB.eq (fun d => no ?_) (fun d => ?_)
        · unfold refR; rw [if_neg (by omega), if_neg (by omega)]
          have : n ∈ seen := by
            rw [← d, List.getD_eq_getElem?_getD, List.getElem?_eq_getElem (show i.toNat < seen.length by omega)]
            simp
          simp [this]
        · rw [wI (by omega) (by omega)]
          refine ⟨⟨rfl, by omega, by omega, ?_⟩, by omega⟩
          rw [show (i + 1).toNat = i.toNat + 1 by omega]
          have hlt : i.toNat < seen.length := by omega
          refine take_succ_ne (x := seen.getD i.toNat 0) ?_ d hni
          rw [List.getD_eq_getElem?_getD, List.getElem?_eq_getElem hlt]; rfl
    · have hnot : n ∉ seen := by rw [List.take_of_length_le (by omega)] at hni; exact hni
      have hr : refR ep h seen ep n = true := by
        unfold refR; rw [if_neg (by omega), if_neg (by omega)]
        simp [hnot]; omega
      refine LdK.fld hb rfl ?_
      obtain ⟨h', hh'⟩ : ∃ h' : Int, h' = if h < n then n else h := ⟨_, rfl⟩
      rw [show (if n > h then n else h) = h' from hh'.symm]
      have hb' : h ≤ h' ∧ n ≤ h' ∧ h' ≤ 9223372036854775807 := by rw [hh']; split <;> omega
      refine StK.fld hb (by simp) rfl fun w1 hb1 f1 hs1 => ?_
      obtain ⟨x, w2, hrun, hx, hxl, f2, hxf⟩ := one_ok (P := Try.prog) (w := w1) elem_int (.int .i64 n) rfl
      refine ⟨x, w2, hrun, ?_⟩
      have hb2 := f2.keep0 hb1
      refine LdK.fld hb2 (x := sl) rfl ?_
      have hsA : IsSl w1 3 1 sl (seen.map (.int .i64)) := hs.keep f1 (fun k hk' t => (hk k hk').1 t)
      refine LoopK.of (fun (q : (Option Addr × Nat × Nat) × Int × Unit) w' => Fr none1 w1 w' ∧ 0 ≤ q.2.1 ∧ q.2.1 ≤ seen.length ∧ (∀ k, blkOf q.1 k → w1.heap.size ≤ k) ∧
          IsSl w' 3 1 q.1 ((n :: (seen.take q.2.1.toNat).filter fun m => decide (h' - 64 < m)).map (.int .i64)))
        (fun (q : (Option Addr × Nat × Nat) × Int × Unit) _ => (seen.length - q.2.1).toNat) ⟨f2, by dsimp only; omega, by dsimp only; omega, hxf, hx⟩ ?_
      rintro _ ⟨y, j, ⟨⟩⟩ w3 ⟨F3, hj0, hj1, hyf, hy⟩
      dsimp only at hj0 hj1 hyf hy ⊢
      have hb3 := F3.keep0 hb1
      have hsB := hsA.keep0 F3
      refine ifB.dec (fun c7 => ?_) (fun c7 => ?_)
      · rw [hsl] at c7
        have hyl : y.2.1 ≤ 1 + seen.length := by
          have := hy.len
          simp only [List.length_map, List.length_cons] at this
          have h7 := List.length_filter_le (fun m => decide (h' - 64 < m)) (seen.take j.toNat)
          have h8 : (seen.take j.toNat).length ≤ seen.length := List.length_take_le' ..
          omega
        have hlt : j.toNat < seen.length := by omega
        obtain ⟨sv, hsv⟩ : ∃ sv, seen[j.toNat]? = some sv := ⟨_, List.getElem?_eq_getElem hlt⟩
        have hgm : (seen.map (Value.int .i64))[j.toNat]? = some (.int .i64 sv) := by rw [List.getElem?_map, hsv]; rfl
        have hnx : ∀ (b : Bool), decide (h' - 64 < sv) = b → (seen.take (j + 1).toNat).filter (fun m => decide (h' - 64 < m)) = (seen.take j.toNat).filter (fun m => decide (h' - 64 < m)) ++ (if b then [sv] else []) := fun b hb => by
          rw [show (j + 1).toNat = j.toNat + 1 by omega, List.take_add_one, hsv, List.filter_append]
          have hf : (some sv).toList.filter (fun m => decide (h' - 64 < m)) = if b then [sv] else [] := by
            rw [Option.toList_some, List.filter_cons, List.filter_nil, hb]
          rw [hf]
        rcases hsB with ⟨hz, hz2⟩ | ⟨g, off, cs, hv, hbk, hl, hcp, hnn, hel⟩
        · simp at hz2; simp [hz2] at hlt
        refine ⟨_, hv, hj0, by omega, ?_⟩
        rw [addr_add]
        have hcell : cs[off + j.toNat]? = some (.int .i64 sv) := by rw [hel _ (by simp; omega), hgm]
        rw [Nat.mul_one]
        refine LdK.of (c := .int .i64) hbk hcell ?_
        refine LdK.fld hb3 rfl ?_
        rw [wI (x := h' - 64) (by omega) (by omega), wI (x := j + 1) (by omega) (by omega)]
        have hsB : IsSl w3 3 1 sl (seen.map (.int .i64)) := .inr ⟨g, off, cs, hv, hbk, hl, hcp, hnn, hel⟩
        refine ifB.dec (fun c8 => ?_) (fun c8 => ?_)
        · refine append_one elem_int _ hy (.int .i64 sv) rfl rfl (by omega) fun u w4 hu hul f4 huf => ?_
          refine ⟨⟨F3.comp f4 fun k hk' t => by have := hyf k t; omega, by omega, by omega, fun k hk' => ?_, ?_⟩, by omega⟩
          · have h31 := F3.size
            rcases huf k hk' with t | t
            · exact hyf k t
            · omega
          · rw [hnx true (decide_eq_true (by omega))]
            simpa using hu
        · refine ⟨⟨F3, by omega, by omega, hyf, ?_⟩, by omega⟩
          rw [hnx false (decide_eq_false (by omega))]
          simpa using hy
      · have hj : (seen.take j.toNat) = seen := List.take_of_length_le (by omega)
        rw [hj] at hy
        refine StK.fld hb3 (by simp) rfl fun w4 hb4 f4 _ => ?_
        have hbw := f1.size
        have Fa : Fr (only c) w w4 := (f1.then0 F3).trans f4
        have hE : accH ep h ep n true = h' := by unfold accH; simp [hh']
        have hS : refS ep h seen ep n true = n :: seen.filter fun m => decide (h' - 64 < m) := by unfold refS; simp [hh']
        rw [hr, accE_old, hE, hS]
        refine ⟨rfl, Fa, y, hb4, hy.keep f4 (fun k hk' t => ?_), fun k hk' => ?_, by omega, by omega, by omega, by omega, by omega⟩
        · have := hyf k hk'; have : k = c := t; omega
        · have := hyf k hk'; exact ⟨by omega, by omega⟩

/-! ### The small ones -/
def pnum (v : Int) : Int := if v.tmod 29 = 28 then v else within v 150
theorem number_spec (v : Int) (w : World) (hv : v ≤ 9223372036854775807) : Ret Try.prog 31 #[.int .i64 v] w fun r w' => r = .int .i64 (pnum v) ∧ w = w' := by
  refine c31 v w _ ⟨by omega, ?_⟩
  refine ifB.eq (fun h => ⟨by unfold pnum; rw [if_pos h], rfl⟩) (fun h => ?_)
  refine CallK.of (within_spec v 150 w (by omega)) ?_
  rintro _ _ ⟨rfl, rfl⟩
  exact ⟨_, rfl, by unfold pnum; rw [if_neg h], rfl⟩
theorem pnum_hi {v : Int} (hv : v ≤ 9223372036854775807) : pnum v ≤ 9223372036854775807 := by
  unfold pnum; split
  · exact hv
  · have := within_hi v (show (1 : Int) ≤ 150 by omega); omega
def pep (v : Int) : Int := if v.tmod 23 = 22 then v else within (v.tdiv 150) 4
theorem epochn_spec (v : Int) (w : World) (h1 : -9223372036854775808 ≤ v) (hv : v ≤ 9223372036854775807) : Ret Try.prog 29 #[.int .i64 v] w fun r w' => r = .int .i64 (pep v) ∧ w = w' := by
  refine c29 v w _ ⟨by omega, ?_⟩
  refine ifB.eq (fun h => ⟨by unfold pep; rw [if_pos h], rfl⟩) (fun h => ⟨by omega, ?_⟩)
  have hd : -9223372036854775808 ≤ v.tdiv 150 ∧ v.tdiv 150 ≤ 9223372036854775807 := by
    rcases Int.le_total 0 v with h0 | h0
    · rw [Int.tdiv_eq_ediv_of_nonneg h0]; omega
    · have e : v.tdiv 150 = -((-v).tdiv 150) := by rw [Int.neg_tdiv, Int.neg_neg]
      rw [e, Int.tdiv_eq_ediv_of_nonneg (by omega)]; omega
  rw [wI (x := v.tdiv 150) hd.1 hd.2]
  refine CallK.of (within_spec (v.tdiv 150) 4 w (by omega)) ?_
  rintro _ _ ⟨rfl, rfl⟩
  exact ⟨_, rfl, by unfold pep; rw [if_neg h], rfl⟩
theorem pep_hi {v : Int} (hv : v ≤ 9223372036854775807) : pep v ≤ 9223372036854775807 := by
  unfold pep; split
  · exact hv
  · have := within_hi (v.tdiv 150) (show (1 : Int) ≤ 4 by omega); omega

theorem clone_spec {w : World} {b : Nat} {e h : Int} {S : Int → Bool} (hw : IsWin w b e h S) : Ret Try.prog 30 #[.pointer (some ⟨b, 0, none⟩)] w fun r w' =>
    ∃ c, w.heap.size ≤ c ∧ r = .pointer (some ⟨c, 0, none⟩) ∧ Fr none1 w w' ∧ IsWin w' c e h S := by
  obtain ⟨x, hb, hr⟩ := hw
  refine c30 _ w _ ?_
  unfold C30
  refine LdsK.blk (x := (e, h, (x : Int), ())) hb ?_
  refine NewK.of fun g w1 hg hgb f1 hs => ?_
  refine StsK.blk hgb rfl rfl fun w2 hb2 f2 _ => ?_
  exact ⟨g, by omega, rfl, f1.fresh f2 (by omega), x, hb2, hr⟩

end Go.Proofs.Ytejhjjafmobmbaa
