/-
  Slices of runes; names, in plain Lean.
  Conditions: none.
-/
import Derived.Test.YtlhbfdakceipkaaDoorNameSpec
set_option linter.unusedVariables false
set_option maxRecDepth 100000
namespace Go.Proofs.YtlhbfdakceipkaaDoor
open Vc

/-! ### Plain -/
theorem nameF_all : ∀ (rs : List Int) (n : Nat), (∀ r ∈ rs, isLet r = true) → (n = 0 → isDig (rs.headD 0) = false) → n ≤ 12 → 0 < n + rs.length → nameF n rs = decide (n + rs.length ≤ 12)
  | [], n, _, _, h12, hp => by
    simp only [List.length_nil, Nat.add_zero] at hp ⊢
    rw [decide_eq_true (by omega)]
    exact decide_eq_true hp
  | r :: rs, n, hl, hd, h12, hp => by
    have h1 := hl r (by simp)
    unfold nameF
    rw [if_neg (by simp [h1]), if_neg (fun t => by have := hd t.1; simp at this; rw [this] at t; cases t.2)]
    by_cases h : 12 < n + 1
    · rw [if_pos h, decide_eq_false (by simp only [List.length_cons]; omega)]
    · rw [if_neg h, nameF_all rs (n + 1) (fun x hx => hl x (by simp [hx])) (fun t => by omega) (by omega) (by omega)]
      exact decide_eq_decide.2 (by simp only [List.length_cons]; omega)
theorem nameF_bad : ∀ (rs : List Int) (n : Nat), (∃ r ∈ rs, isLet r = false) → nameF n rs = false
  | [], n, h => by simp at h
  | r :: rs, n, ⟨x, hx, hb⟩ => by
    unfold nameF
    split
    · rfl
    split
    · rfl
    split
    · rfl
    rename_i h1 _ _
    rcases List.mem_cons.1 hx with rfl | hx
    · exact absurd hb h1
    · exact nameF_bad rs (n + 1) ⟨x, hx, hb⟩

/-! ### Slices of runes -/
theorem elem_rune : ElemOk Tryd.prog 78 21 1 (.int .i32 0) 4 := ⟨Tryd.underlying78, ⟨Tryd.t21, by kernel_rfl, rfl, rfl, rfl⟩, rfl, by decide⟩
def IsR (w : World) (v : Sl) (rs : List Int) : Prop := IsSl w 21 1 v (rs.map (Value.int .i32))

theorem IsR.txt {w : World} {v : Sl} {rs : List Int} (h : IsR w v rs) : (convert 78 9 (.slice v.1 v.2.1 v.2.2)).run Tryd.prog w = .ok (.string (str (txt rs))) w := by
  have hr := IsSl.rd h
  have hl := IsSl.len h
  rw [List.length_map, Nat.mul_one] at hl
  obtain ⟨h1, h2, h3⟩ := hr
  cases hv : v.1 with
  | none =>
    have := (h2 hv).2.2
    have : rs = [] := by simpa using this
    subst this
    exact run_convert_runes_nil w _ _ _ _ _ Tryd.underlying78 Tryd.underlying21 Tryd.underlying9
  | some a =>
    have hc := h3 a hv
    rw [run_convert_runes w _ _ _ a v.2.1 v.2.2 rs (by omega) Tryd.underlying78 Tryd.underlying21 Tryd.underlying9 (fun j hj => ?_), List.take_of_length_le (by omega), runesBytes_txt]
    have := cellsAt_get _ 0 j (.int .i32 (rs.getD j 0)) hc (by rw [List.getElem?_map, List.getD_eq_getElem?_getD, List.getElem?_eq_getElem hj]; rfl)
    rwa [Nat.zero_add] at this

theorem r_snoc {w : World} {v : Sl} {rs : List Int} (h : IsR w v rs) (c : Int) (hl : rs.length ≤ 1000000) {K : Sl → World → Prop}
    (hK : ∀ y w', IsR w' y (rs ++ [c]) → Fr (blkOf v) w w' → (∀ k, blkOf y k → blkOf v k ∨ w.heap.size ≤ k) → K y w') :
    RunK Tryd.prog (Instr.buildSlice 78 1 #[(0, .int .i32 c)]) w (.v (.one .slc)) fun (y : Option Addr × Nat × Nat) w' =>
      RunK Tryd.prog (Builtin.append_ #[78, 78] 78 #[.slice v.1 v.2.1 v.2.2, .slice y.1 y.2.1 y.2.2]) w' (.v (.one .slc)) fun (u : Option Addr × Nat × Nat) w'' => K u w'' := by
  have hvl := IsSl.len h
  rw [List.length_map, Nat.mul_one] at hvl
  refine append_one elem_rune 78 h (.int .i32 c) rfl rfl (by omega) fun y w' hy _ f yf => hK y w' ?_ f yf
  unfold IsR
  rw [List.map_append]
  exact hy

theorem IsR.ld {w : World} {v : Sl} {rs : List Int} (h : IsR w v rs) {i : Int} (h0 : 0 ≤ i) (h1 : i < v.2.1) {K : Int → Prop} (k : K (rs.getD i.toNat 0)) : IdxK v.1 v.2.1 i 1 fun p => LdK (.int .i32) p w K := by
  have hl := IsSl.len h
  rw [List.length_map, Nat.mul_one] at hl
  refine IsSl.ld h h0 h1 (x := rs.getD i.toNat 0) ?_ k
  rw [List.getElem?_map, List.getD_eq_getElem?_getD, List.getElem?_eq_getElem (by omega)]
  rfl
theorem IsR.len {w : World} {v : Sl} {rs : List Int} (h : IsR w v rs) : v.2.1 = rs.length := by
  have hl := IsSl.len h
  rw [List.length_map, Nat.mul_one] at hl
  exact hl.symm

end Go.Proofs.YtlhbfdakceipkaaDoor
