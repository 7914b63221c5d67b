/-
  RunesNames: names are as many letters of any script as may be, the first one no digit.
  Conditions: none beyond the statement's own.
-/
import Derived.Test.YtejhjjafmobmbaaRuneSpec
import Derived.Test.YtejhjjafmobmbaaWinSpec
import Derived.Test.YtejhjjafmobmbaaCRNames
set_option linter.unusedVariables false
set_option maxRecDepth 100000
namespace Go.Proofs.Ytejhjjafmobmbaa
open Vc

/-! ### Plain -/
theorem nameF_all : ∀ (rs : List Int) (n : Nat), (∀ r ∈ rs, isLet r = true) → (n = 0 → isDig (rs.headD 0) = false) → n ≤ 12 → 0 < n + rs.length → nameF n rs = decide (n + rs.length ≤ 12)
  | [], n, _, _, h12, hp => by
    simp only [List.length_nil, Nat.add_zero] at hp ⊢
    rw [decide_eq_true (by omega)]
    exact decide_eq_true hp
  | r :: rs, n, hl, hd, h12, hp => by
    have h1 := hl r (by simp)
    unfold nameF
    rw [if_neg (by simp [h1]), if_neg (fun t => by have := hd t.1; simp at this; rw [this] at t; cases t.2)]
    by_cases h : 12 < n + 1
    · rw [if_pos h, decide_eq_false (by simp only [List.length_cons]; omega)]
    · rw [if_neg h, nameF_all rs (n + 1) (fun x hx => hl x (by simp [hx])) (fun t => by omega) (by omega) (by omega)]
      exact decide_eq_decide.2 (by simp only [List.length_cons]; omega)
theorem nameF_bad : ∀ (rs : List Int) (n : Nat), (∃ r ∈ rs, isLet r = false) → nameF n rs = false
  | [], n, h => by simp at h
  | r :: rs, n, ⟨x, hx, hb⟩ => by
    unfold nameF
    split
    · rfl
    split
    · rfl
    split
    · rfl
    rename_i h1 _ _
    rcases List.mem_cons.1 hx with rfl | hx
    · exact absurd hb h1
    · exact nameF_bad rs (n + 1) ⟨x, hx, hb⟩

def pat6 : List Int := [97, 95, 233, 27700, 128167, 122]
def bad7 : List Int := [65, 45, 32, 40, 65533, 127, 46]
theorem pat6_ok : ∀ r ∈ pat6, isLet r = true ∧ okR r ∧ isDig r = false := by
  intro r hr
  have : r = 97 ∨ r = 95 ∨ r = 233 ∨ r = 27700 ∨ r = 128167 ∨ r = 122 := by simpa [pat6] using hr
  refine ⟨?_, by unfold okR; omega, ?_⟩
  · rcases this with t | t | t | t | t | t <;> subst t <;> rfl
  · rcases this with t | t | t | t | t | t <;> subst t <;> rfl
theorem bad7_ok : ∀ r ∈ bad7, isLet r = false ∧ okR r := by
  intro r hr
  have : r = 65 ∨ r = 45 ∨ r = 32 ∨ r = 40 ∨ r = 65533 ∨ r = 127 ∨ r = 46 := by simpa [bad7] using hr
  refine ⟨?_, by unfold okR; omega⟩
  rcases this with t | t | t | t | t | t | t <;> subst t <;> rfl

/-! ### Slices of runes -/
theorem elem_rune : ElemOk Try.prog 51 21 1 (.int .i32 0) 4 := ⟨Try.underlying51, ⟨Try.t21, by kernel_rfl, rfl, rfl, rfl⟩, rfl, by decide⟩
def IsR (w : World) (v : Sl) (rs : List Int) : Prop := IsSl w 21 1 v (rs.map (Value.int .i32))

theorem IsR.txt {w : World} {v : Sl} {rs : List Int} (h : IsR w v rs) : (convert 51 9 (.slice v.1 v.2.1 v.2.2)).run Try.prog w = .ok (.string (str (txt rs))) w := by
  have hr := IsSl.rd h
  have hl := IsSl.len h
  rw [List.length_map, Nat.mul_one] at hl
  obtain ⟨h1, h2, h3⟩ := hr
  cases hv : v.1 with
  | none =>
    have := (h2 hv).2.2
    have : rs = [] := by simpa using this
    subst this
    exact run_convert_runes_nil w _ _ _ _ _ Try.underlying51 Try.underlying21 Try.underlying9
  | some a =>
    have hc := h3 a hv
    rw [run_convert_runes w _ _ _ a v.2.1 v.2.2 rs (by omega) Try.underlying51 Try.underlying21 Try.underlying9 (fun j hj => ?_), List.take_of_length_le (by omega), runesBytes_txt]
    have := cellsAt_get _ 0 j (.int .i32 (rs.getD j 0)) hc (by rw [List.getElem?_map, List.getD_eq_getElem?_getD, List.getElem?_eq_getElem hj]; rfl)
    rwa [Nat.zero_add] at this

theorem IsR.name {w : World} {v : Sl} {rs : List Int} (h : IsR w v rs) (hok : ∀ r ∈ rs, okR r) {K : Bool → World → Prop} (hK : ∀ w', Fr none1 w w' → K (nameF 0 rs) w') :
    RunK Try.prog (convert 51 9 (.slice v.1 v.2.1 v.2.2)) w (.v (.one .str)) (fun (x : ByteArray) w1 => CallK Try.prog 38 #[.string x] w1 (.v (.one .bool)) K) := by
  refine ⟨str (Go.Proofs.Ytejhjjafmobmbaa.txt rs), w, h.txt, ?_⟩
  refine CallK.of (name_spec _ w) ?_
  rintro _ w1 ⟨rfl, f1⟩
  rw [runes_txt0 rs hok]
  exact ⟨_, rfl, hK w1 f1⟩

theorem mem_set' {l : List Int} {i : Nat} {x y : Int} (h : y ∈ l.set i x) : y = x ∨ y ∈ l := by
  rcases List.mem_or_eq_of_mem_set h with t | t
  · exact .inr t
  · exact .inl t

theorem names_walk (p0 p1 p2 : Int) (w : World) (h0 : (Go.Lit.int .i64 p0).wf = true) (h1 : (Go.Lit.int .i64 p1).wf = true) (h2 : (Go.Lit.int .i64 p2).wf = true) :
    Ret Try.prog 11 #[.int .i64 p0, .int .i64 p1, .int .i64 p2] w fun r w' => r = .bool true ∧ Fr none1 w w' := by
  refine c11 p0 p1 p2 w _ ?_
  unfold C11
  refine CallK.of (within_spec p0 14 w (by omega)) ?_
  rintro _ _ ⟨rfl, rfl⟩
  refine ⟨_, rfl, ?_⟩
  have hlo := within_lo p0 14
  have hhi := within_hi p0 (n := 14) (by omega)
  rw [wI (x := 1 + within p0 14) (by omega) (by omega)]
  obtain ⟨n, hn⟩ : ∃ n : Nat, 1 + within p0 14 = n := ⟨(1 + within p0 14).toNat, by omega⟩
  rw [hn]
  have hn1 : 1 ≤ n ∧ n ≤ 14 := by omega
  obtain ⟨v, w1, r1, hv, hvl, hvc, f1, vf⟩ := make_ok (P := Try.prog) (w := w) (k := .i64) (k' := .i64) elem_rune rfl (n := (n : Int)) (m := (n : Int)) (by omega) (by omega) (by omega)
  rw [Int.toNat_natCast] at hv hvl hvc
  refine ⟨v, w1, r1, ?_⟩
  have s01 := f1.size
  refine LoopK.of (fun s w' => 0 ≤ s.1 ∧ s.1 ≤ n ∧ (∃ rs, IsR w' v rs ∧ rs.length = n ∧ (∀ j : Nat, (j : Int) < s.1 → rs[j]? = some (pat6.getD (j % 6) 0))) ∧ Fr none1 w w') (fun s _ => (n - s.1).toNat)
    ⟨Int.le_refl _, by dsimp only; omega, ⟨List.replicate n 0, by unfold IsR; rw [List.map_replicate]; exact hv, by simp, fun j hj => by dsimp only at hj; omega⟩, f1⟩ ?_
  rintro _ ⟨i, _⟩ w2 ⟨i0, i1, ⟨rs, hrs, hrl, hall⟩, f2⟩
  dsimp only at i0 i1 hall ⊢
  have vw : ∀ k, blkOf v k → w.heap.size ≤ k := vf
  refine ifB.dec (fun hlt => ?_) (fun hge => ?_)
  · obtain ⟨x, w3, r3, hx, hxl, f3, xf⟩ := lit_ok (P := Try.prog) (w := w2) elem_rune (pat6.map (Value.int .i32)) (by intro v hv; obtain ⟨x, _, rfl⟩ := List.mem_map.1 hv; rfl) (by simp [pat6])
    have hxl6 : x.2.1 = 6 := hxl
    refine ⟨x, w3, r3, ?_⟩
    refine ⟨by omega, ?_⟩
    have hmod : i.tmod 6 = ((i.toNat % 6 : Nat) : Int) := by rw [Int.tmod_eq_emod_of_nonneg i0]; omega
    rw [hmod]
    refine IsSl.ld hx (x := pat6.getD (i.toNat % 6) 0) (by omega) (by omega) (by
      rw [Int.toNat_natCast, List.getElem?_map, List.getD_eq_getElem?_getD, List.getElem?_eq_getElem (show i.toNat % 6 < pat6.length by show i.toNat % 6 < 6; omega)]; rfl) ?_
    refine IsSl.st (hrs.keep0 f3) i0 (by omega) rfl fun w4 h4 f4 _ => ?_
    rw [wI (x := i + 1) (by omega) (by omega)]
    refine ⟨⟨by omega, by omega, ⟨rs.set i.toNat (pat6.getD (i.toNat % 6) 0), by unfold IsR; rw [List.map_set]; exact h4, by simpa using hrl, fun j hj => ?_⟩, (f2.trans f3).comp f4 (fun k hk t => by have := vw k t; omega)⟩, by omega⟩
    rw [List.getElem?_set]
    by_cases hji : i.toNat = j
    · rw [if_pos hji, if_pos (by omega), hji]
    · rw [if_neg hji]
      exact hall j (by omega)
  have hii : i = n := by omega
  subst hii
  have hmem : ∀ r ∈ rs, r ∈ pat6 := fun r hr => by
    obtain ⟨j, hj, rfl⟩ := List.mem_iff_getElem.1 hr
    have h := hall j (by omega)
    rw [List.getElem?_eq_getElem hj] at h
    injection h with h
    rw [h, List.getD_eq_getElem?_getD, List.getElem?_eq_getElem (show j % 6 < pat6.length by show j % 6 < 6; omega)]
    exact List.getElem_mem _
  have hok : ∀ r ∈ rs, okR r := fun r hr => (pat6_ok r (hmem r hr)).2.1
  have hlet : ∀ r ∈ rs, isLet r = true := fun r hr => (pat6_ok r (hmem r hr)).1
  have hhead : isDig (rs.headD 0) = false := by
    cases rs with
    | nil => rfl
    | cons a l => exact (pat6_ok a (hmem a (by simp))).2.2
  refine hrs.name hok fun w3 f3 => ?_
  rw [nameF_all rs 0 hlet (fun _ => hhead) (by omega) (by omega)]
  refine ifB.f (by rw [Nat.zero_add, hrl]; simp; omega) ?_
  refine CallK.of (within_spec p1 (n : Int) w3 (by omega)) ?_
  rintro _ _ ⟨rfl, rfl⟩
  refine ⟨_, rfl, ?_⟩
  have alo := within_lo p1 (n : Int)
  have ahi := within_hi p1 (n := (n : Int)) (by omega)
  obtain ⟨at_, hat⟩ : ∃ at_ : Nat, within p1 (n : Int) = at_ := ⟨(within p1 (n : Int)).toNat, by omega⟩
  rw [hat]
  obtain ⟨x, w4, r4, hx, hxl, f4, xf⟩ := lit_ok (P := Try.prog) (w := w3) elem_rune (bad7.map (Value.int .i32)) (by intro v hv; obtain ⟨x, _, rfl⟩ := List.mem_map.1 hv; rfl) (by simp [bad7])
  have hxl7 : x.2.1 = 7 := hxl
  refine ⟨x, w4, r4, ?_⟩
  refine CallK.of (within_spec p2 7 w4 (by omega)) ?_
  rintro _ _ ⟨rfl, rfl⟩
  refine ⟨_, rfl, ?_⟩
  have blo := within_lo p2 7
  have bhi := within_hi p2 (n := 7) (by omega)
  have hb7 : (within p2 7).toNat < bad7.length := by show _ < 7; omega
  refine IsSl.ld hx (x := bad7[(within p2 7).toNat]) blo (by omega) (by rw [List.getElem?_map, List.getElem?_eq_getElem hb7]; rfl) ?_
  obtain ⟨c, hc⟩ : ∃ c, bad7[(within p2 7).toNat] = c := ⟨_, rfl⟩
  rw [hc]
  obtain ⟨cbad, cok⟩ := bad7_ok c (by rw [← hc]; exact List.getElem_mem _)
  have hrs4 : IsR w4 v rs := (IsSl.keep0 (IsSl.keep0 hrs f3) f4)
  refine IsSl.st hrs4 (by omega) (by omega) (x := .int .i32 c) rfl fun w5 h5 f5 _ => ?_
  rw [Int.toNat_natCast] at h5
  have h5' : IsR w5 v (rs.set at_ c) := by unfold IsR; rw [List.map_set]; exact h5
  have fw5 : Fr none1 w w5 := ((f2.trans f3).trans f4).comp f5 (fun k hk t => by have := vw k t; omega)
  refine h5'.name (fun r hr => (mem_set' hr).elim (fun t => by rw [t]; exact cok) (hok r)) fun w6 f6 => ?_
  rw [nameF_bad _ 0 ⟨c, List.mem_iff_getElem.2 ⟨at_, by rw [List.length_set]; omega, by simp⟩, cbad⟩]
  refine ifB.f rfl ?_
  refine IsSl.st (IsSl.keep0 h5' f6) (by omega) (by omega) (x := .int .i32 55) rfl fun w7 h7 f7 _ => ?_
  rw [Int.toNat_natCast] at h7
  have h7' : IsR w7 v (rs.set at_ 55) := by unfold IsR; rw [List.map_set]; rw [← List.map_set, List.set_set, List.map_set] at h7; exact h7
  have fw7 : Fr none1 w w7 := (fw5.trans f6).comp f7 (fun k hk t => by have := vw k t; omega)
  have ok7 : ∀ r ∈ rs.set at_ 55, okR r := fun r hr => (mem_set' hr).elim (fun t => by rw [t]; unfold okR; omega) (hok r)
  have let7 : ∀ r ∈ rs.set at_ 55, isLet r = true := fun r hr => (mem_set' hr).elim (fun t => by rw [t]; rfl) (hlet r)
  refine h7'.name ok7 fun w8 f8 => ?_
  have done : CallK Try.prog 38 #[.string (⟨#[]⟩ : ByteArray)] w8 (.v (.one .bool)) (fun (x38 : Bool) w39 => ifB (!x38)
      (CallK Try.prog 38 #[.string (⟨#[97, 255]⟩ : ByteArray)] w39 (.v (.one .bool)) (fun (x40 : Bool) w41 => ifB (!x40)
      (CallK Try.prog 36 #[] w41 (.v (.one .bool)) (fun (x42 : Bool) w43 => (.bool x42 : Value) = .bool true ∧ Fr none1 w w43)) ((.bool false : Value) = .bool true ∧ Fr none1 w w41))) ((.bool false : Value) = .bool true ∧ Fr none1 w w39)) := by
    refine CallK.of (name_spec [] w8) ?_
    rintro _ w9 ⟨rfl, f9⟩
    refine ⟨_, rfl, ifB.t rfl ?_⟩
    refine CallK.of (name_spec [97, 255] w9) ?_
    rintro _ w10 ⟨rfl, f10⟩
    refine ⟨_, rfl, ifB.t (by have : runesL [97, 255] = [97, 65533] := by rfl
                              rw [this]; rfl) ?_⟩
    refine CallK.of (wakes1_spec w10) ?_
    rintro _ w11 ⟨rfl, f11⟩
    exact ⟨_, rfl, rfl, (((fw7.trans f8).trans f9).trans f10).trans f11⟩
  refine ifB.dec (fun hpos => ?_) (fun hzero => ?_)
  · rw [nameF_all _ 0 let7 (fun _ => ?_) (by omega) (by simp; omega)]
    · exact ifB.t (by rw [Nat.zero_add, List.length_set, hrl]; simp; omega) done
    · cases hrs' : rs with
      | nil => rw [hrs'] at hrl; simp at hrl; omega
      | cons a l =>
        obtain ⟨m, hm⟩ : ∃ m, at_ = m + 1 := ⟨at_ - 1, by omega⟩
        rw [hm, List.set_cons_succ]
        rw [hrs'] at hhead
        exact hhead
  · refine ifB.t ?_ done
    have : at_ = 0 := by omega
    subst this
    cases hrs' : rs with
    | nil => rw [hrs'] at hrl; simp at hrl; omega
    | cons a l => rw [List.set_cons_zero]; rfl

end Go.Proofs.Ytejhjjafmobmbaa
