/-
  Contracts and numbers as texts.
  Conditions: the table of powers of ten that strconv reads is in the world; there are not too many terms and numbers.
-/
import Derived.Test.YtlhbfdakceipkaaGreatDoorTermSpec
import Derived.Test.YtlhbfdakceipkaaGreatDoorCWriteG
import Derived.Test.YtlhbfdakceipkaaGreatDoorShelf
set_option linter.unusedVariables false
set_option maxRecDepth 100000
namespace Go.Proofs.YtlhbfdakceipkaaGreatDoor
open Vc

/-! ### In plain Lean -/
def callL (wd : List UInt8) (xs : List (List UInt8)) : List UInt8 := wd ++ [40] ++ Lib.join xs [44] ++ [41]
def numO : Ob → List UInt8
  | .none => []
  | .const n => Lib.itoa n
  | .fix s => callL [102, 105, 120] [s]
  | .add l r => callL [97, 100, 100] [numO l, numO r]
  | .neg o => callL [110, 101, 103] [numO o]
  | .mul l r => callL [109, 117, 108] [numO l, numO r]
  | .max l r => callL [109, 97, 120] [numO l, numO r]
def conT : Tm → List UInt8
  | .none => []
  | .zero => [122, 101, 114, 111]
  | .one s => callL [111, 110, 101] [s]
  | .give t => callL [103, 105, 118, 101] [conT t]
  | .and l r => callL [97, 110, 100] [conT l, conT r]
  | .or s l r => callL [111, 114] [s, conT l, conT r]
  | .scale o t => callL [115, 99, 97, 108, 101] [numO o, conT t]
  | .when d t => callL [119, 104, 101, 110] [Lib.itoa d, conT t]
  | .cond o l r => callL [105, 102] [numO o, conT l, conT r]
def writeT (t : Tm) : List UInt8 × Int := if checkT t ≠ 0 then ([], checkT t) else if 1000 < (conT t).length then ([], 5) else (conT t, 0)
def writeO (o : Ob) : List UInt8 × Int := if checkO o ≠ 0 then ([], checkO o) else if 1000 < (numO o).length then ([], 5) else (numO o, 0)

theorem join1 (a : List UInt8) : Lib.join [a] [44] = a := Lib.join_one _ _
theorem join2 (a b : List UInt8) : Lib.join [a, b] [44] = a ++ ([44] ++ b) := by rw [Lib.join_cons]; simp [Lib.joinTail]
theorem join3 (a b c : List UInt8) : Lib.join [a, b, c] [44] = a ++ ([44] ++ b ++ ([44] ++ c)) := by rw [Lib.join_cons]; simp [Lib.joinTail]
theorem call1_len (wd a : List UInt8) : (callL wd [a]).length = wd.length + a.length + 2 := by unfold callL; rw [join1]; simp; omega
theorem call2_len (wd a b : List UInt8) : (callL wd [a, b]).length = wd.length + a.length + b.length + 3 := by unfold callL; rw [join2]; simp; omega
theorem call3_len (wd a b c : List UInt8) : (callL wd [a, b, c]).length = wd.length + a.length + b.length + c.length + 4 := by unfold callL; rw [join3]; simp; omega

theorem decL_width4 (l : List UInt8) : (decL l).2 ≤ 4 := by
  simp only [decL, Utf8.decode]
  repeat' split
  all_goals simp
theorem runes_bytes : ∀ (n : Nat) (l : List UInt8), l.length ≤ n → l.length ≤ 4 * (runesL l).length
  | 0, l, h => by omega
  | n + 1, l, h => by
    by_cases hl : l = []
    · subst hl; simp
    · rw [runesL_step l hl, List.length_cons]
      have h1 := decL_width l
      have h4 := decL_width4 l
      have hd : (l.drop (decL l).2).length = l.length - (decL l).2 := List.length_drop
      have := runes_bytes n (l.drop (decL l).2) (by omega)
      omega
theorem nameF_len : ∀ (rs : List Int) (n : Nat), nameF n rs = true → rs = [] ∨ n + rs.length ≤ 12
  | [], _, _ => .inl rfl
  | r :: rs, n, h => by
    unfold nameF at h
    split at h
    · cases h
    split at h
    · cases h
    split at h
    · cases h
    rcases nameF_len rs (n + 1) h with rfl | t
    · simp; omega
    · simp only [List.length_cons]; omega
theorem nameL_len {s : List UInt8} (h : nameL s = true) : s.length ≤ 48 := by
  have hb := runes_bytes s.length s (Nat.le_refl _)
  rcases nameF_len _ _ h with t | t
  · rw [t, List.length_nil] at hb; omega
  · omega
theorem decDigits_len : ∀ (k u : Nat), u < 10 ^ (k + 1) → (Lib.decDigits u).length ≤ k + 1
  | 0, u, h => by rw [Lib.decDigits]; rw [dif_pos (by omega)]; simp
  | k + 1, u, h => by
    rw [Lib.decDigits]
    split
    · simp
    · rw [List.length_append]
      have := decDigits_len k (u / 10) (by rw [Nat.pow_succ] at h; omega)
      simp; omega
theorem itoa_len {n : Int} (h0 : -1000000000000 ≤ n) (h1 : n ≤ 1000000000000) : (Lib.itoa n).length ≤ 14 := by
  unfold Lib.itoa
  split
  · have := decDigits_len 12 n.natAbs (by omega)
    simp; omega
  · have := decDigits_len 12 n.toNat (by omega)
    omega
theorem validF_iff {n : Int} (h : validF n = true) : -1000000000000 ≤ n ∧ n ≤ 1000000000000 := by
  unfold validF at h
  simp only [Bool.and_eq_true, decide_eq_true_eq] at h
  exact h
theorem numO_len (o : Ob) (h : formO o = true) : (numO o).length ≤ 100 * nodesO o := by
  induction o with
  | none => cases h
  | const n => have := validF_iff h; have := itoa_len this.1 this.2; unfold numO nodesO; omega
  | fix s => have := nameL_len h; unfold numO nodesO; rw [call1_len]; simp; omega
  | neg o ih => have := ih h; unfold numO nodesO; rw [call1_len]; simp; omega
  | add l r a b => simp only [formO, Bool.and_eq_true] at h; have := a h.1; have := b h.2; unfold numO nodesO; rw [call2_len]; simp; omega
  | mul l r a b => simp only [formO, Bool.and_eq_true] at h; have := a h.1; have := b h.2; unfold numO nodesO; rw [call2_len]; simp; omega
  | max l r a b => simp only [formO, Bool.and_eq_true] at h; have := a h.1; have := b h.2; unfold numO nodesO; rw [call2_len]; simp; omega
theorem conT_len (t : Tm) (h : formT t = true) : (conT t).length ≤ 100 * nodesT t := by
  induction t with
  | none => cases h
  | zero => decide
  | one s => have := nameL_len h; unfold conT nodesT; rw [call1_len]; simp; omega
  | give t ih => have := ih h; unfold conT nodesT; rw [call1_len]; simp; omega
  | and l r a b => simp only [formT, Bool.and_eq_true] at h; have := a h.1; have := b h.2; unfold conT nodesT; rw [call2_len]; simp; omega
  | or s l r a b => simp only [formT, Bool.and_eq_true] at h; have := nameL_len h.1; have := a h.2.1; have := b h.2.2; unfold conT nodesT; rw [call3_len]; simp; omega
  | scale o t ih => simp only [formT, Bool.and_eq_true] at h; have := numO_len o h.1; have := ih h.2; unfold conT nodesT; rw [call2_len]; simp; omega
  | when d t ih => simp only [formT, Bool.and_eq_true, decide_eq_true_eq] at h; have := itoa_len (n := d) (by omega) (by omega); have := ih h.2; unfold conT nodesT; rw [call2_len]; simp; omega
  | cond o l r a b => simp only [formT, Bool.and_eq_true] at h; have := numO_len o h.1; have := a h.2.1; have := b h.2.2; unfold conT nodesT; rw [call3_len]; simp; omega

/-! ### What the functions do -/
/-- The table of powers of ten lies in the world. -/
def TabW (w : World) : Prop := Lib.TabIs Tryz.prog w "internal/strconv.uint64pow10" .u64 Lib.pow10Tab
theorem TabW.keep0 {w w' : World} (h : TabW w) (f : Fr none1 w w') : TabW w' := by
  unfold TabW Lib.TabIs World.var? at h ⊢
  cases hg : Tryz.prog.globalNamed "internal/strconv.uint64pow10" with
  | none => rw [hg] at h; cases h
  | some g =>
    rw [hg] at h
    simp only [Option.bind_some] at h ⊢
    split at h
    case h_1 cs T fr hb => rw [f.keep0 hb]; exact h
    case h_2 => cases h

theorem grow_fr (w : World) (k : Nat) (os : Array Obj) : Fr none1 w (Go.Sort.grow (w.drewN k) os) := by
  refine ⟨rfl, rfl, rfl, ?_, fun i hi _ => ?_⟩
  · show w.heap.size ≤ (w.heap ++ os).size
    rw [Array.size_append]; omega
  · show (w.heap ++ os)[i]? = _
    rw [Array.getElem?_append_left hi]

theorem itoa_spec (n : Int) (h0 : -9223372036854775808 ≤ n) (h1 : n ≤ 9223372036854775807) (w : World) (ht : TabW w) : Ret Tryz.prog 137 #[.int .i64 n] w fun r w' => r = .string (str (Lib.itoa n)) ∧ Fr none1 w w' := by
  refine (Tryz.strconv_Itoa n h0 h1 w ht).mono ?_
  rintro e w' ⟨rfl, k, os, rfl⟩
  exact ⟨_, rfl, rfl, grow_fr w k os⟩

theorem below_fr {w w' : World} (h : Go.RowKit.Below w.heap.size w w') : Fr none1 w w' := by
  obtain ⟨a, b, c, d, e⟩ := h
  exact ⟨a, b, c, d, fun k hk _ => e k hk⟩

theorem call_spec {w : World} {v : Sl} {xs : List (List UInt8)} (h : IsSs w v xs) (hne : xs ≠ []) (wd : List UInt8) (hl : (callL wd xs).length ≤ 10000000) :
    Ret Tryz.prog 136 #[.string (str wd), .slice v.1 v.2.1 v.2.2] w fun r w' => r = .string (str (callL wd xs)) ∧ Fr none1 w w' := by
  refine c136 (str wd) v.1 v.2.1 v.2.2 w _ ?_
  have hvl := h.len
  have hj : (callL wd xs).length = wd.length + 1 + (Lib.join xs [44]).length + 1 := by unfold callL; simp; omega
  rcases h with ⟨rfl, hnil⟩ | ⟨g, off, cs, hv, hb, hle, hcp, hn, he⟩
  · rw [List.map_eq_nil_iff] at hnil
    exact absurd hnil hne
  rw [Nat.mul_one] at hcp
  rw [List.length_map] at hn
  have hbt : (xs.map str).map (fun x : ByteArray => x.data.toList) = xs := by
    rw [List.map_map]
    conv => rhs; rw [← List.map_id xs]
    exact List.map_congr_left fun x _ => str_list x
  have hlj : xs.length ≤ (Lib.join xs [44]).length + 1 := by
    have h2 : ∀ l : List (List UInt8), l ≠ [] → l.length ≤ (Lib.join l [44]).length + 1 := by
      intro l hl
      cases l with
      | nil => exact absurd rfl hl
      | cons x r => rw [Lib.join_cons, List.length_append, Lib.joinTail_length]; simp; omega
    exact h2 xs hne
  have hJ := Tryz.strings_Join g off v.2.2 (xs.map str) (⟨#[44]⟩ : ByteArray) w (fun j x hx => by
      rw [cell_blk hb]
      rw [List.getElem?_map] at hx
      obtain ⟨y, hy, rfl⟩ := Option.map_eq_some_iff.1 hx
      have hj := (List.getElem?_eq_some_iff.1 hy).1
      rw [he j (by rw [List.length_map]; exact hj), List.getElem?_map, hy]
      rfl) (lt_of_blk hb) (by rw [List.length_map]; omega) (by rw [List.length_map]; omega) (by rw [hbt]; show (Lib.join xs [44]).length ≤ _; omega)
  rw [hbt, List.length_map] at hJ
  rw [hv]
  have sz : (str wd).size = wd.length := str_size wd
  have e40 : (⟨#[40]⟩ : ByteArray) = str [40] := rfl
  have e41 : (⟨#[41]⟩ : ByteArray) = str [41] := rfl
  unfold C136
  rw [e40, e41]
  have im : IntKind.i64.max = 9223372036854775807 := rfl
  refine ⟨by rw [sz, str_size, im]; simp; omega, ?_⟩
  rw [hvl]
  refine CallK.of (R := fun r w' => r = .string (str (Lib.join xs [44])) ∧ Fr none1 w w') (hJ.mono ?_) ?_
  · rintro e w' ⟨rfl, hB⟩
    exact ⟨_, rfl, rfl, below_fr hB⟩
  rintro _ w1 ⟨rfl, f1⟩
  refine ⟨_, rfl, ?_⟩
  rw [str_app]
  refine ⟨by rw [str_size, str_size, im]; simp; omega, ?_⟩
  rw [str_app]
  refine ⟨by rw [str_size, str_size, im]; simp; omega, ?_⟩
  rw [str_app]
  exact ⟨rfl, f1⟩

/-- Texts in a row, as a slice. -/
theorem texts_lit {w : World} (xs : List (List UInt8)) (hl : xs.length ≤ 100) {K : Option Addr × Nat × Nat → World → Prop} (k : ∀ (u : Sl) w', IsSs w' u xs → Fr none1 w w' → K u w') :
    RunK Tryz.prog (Instr.buildSlice 23 xs.length (((xs.map sv).zipIdx.map fun (v, i) => (i, v)).toArray)) w (.v (.one .slc)) (fun (x : Option Addr × Nat × Nat) w1 => K x w1) := by
  obtain ⟨x, w1, hr, hx, hxl, f1, hf⟩ := lit_ok (P := Tryz.prog) (w := w) elem_str (xs.map sv) (by intro v hv; obtain ⟨x, _, rfl⟩ := List.mem_map.1 hv; rfl) (by rw [List.length_map]; omega)
  rw [List.length_map] at hr
  exact ⟨x, w1, hr, k x w1 hx f1⟩

theorem wnumber_spec (o : Ob) (hf : formO o = true) (hn : nodesO o ≤ 10000) (w : World) (ht : TabW w) : Ret Tryz.prog 86 #[o.v] w fun r w' => r = .string (str (numO o)) ∧ Fr none1 w w' := by
  refine c86 o.v w _ ?_
  unfold C86
  have hL := numO_len o hf
  cases o with
  | none => cases hf
  | const n =>
    have hv := validF_iff hf
    refine TaK.hit (n, ()) rfl (ns_ok (zs := [.int .i64 0]) (vs := [.int .i64 n]) rfl rfl fun g w1 _ hb f1 => LdK.fld hb (x := n) rfl ?_)
    refine CallK.of (itoa_spec n (by omega) (by omega) w1 (ht.keep0 f1)) ?_
    rintro _ w2 ⟨rfl, f2⟩
    exact ⟨_, rfl, rfl, f1.trans f2⟩
  | fix s =>
    refine TaK.miss rfl (by decide) (TaK.hit (str s, ()) rfl (ns_ok (zs := [.string (⟨#[]⟩ : ByteArray)]) (vs := [.string (str s)]) rfl rfl fun g w1 _ hb f1 => LdK.fld hb (x := str s) rfl ?_))
    refine texts_lit (w := w1) [s] (by simp) fun u w2 hu f2 => ?_
    refine CallK.of (call_spec hu (by simp) [102, 105, 120] (by unfold numO nodesO at hL; omega)) ?_
    rintro _ w3 ⟨rfl, f3⟩
    exact ⟨_, rfl, rfl, (f1.trans f2).trans f3⟩
  | neg x =>
    have hnx : nodesO x ≤ 10000 := by unfold nodesO at hn; omega
    refine TaK.miss rfl (by decide) (TaK.miss rfl (by decide) (TaK.miss rfl (by decide) (TaK.hit (x.v, ()) rfl (ns_ok (zs := [.nilIface]) (vs := [x.v]) rfl (by simp [Ob.v_one]) fun g w1 _ hb f1 => LdK.fld (c := .raw) hb (x := x.v) rfl ?_))))
    refine CallK.of (wnumber_spec x hf hnx w1 (ht.keep0 f1)) ?_
    rintro _ w2 ⟨rfl, f2⟩
    refine ⟨_, rfl, ?_⟩
    refine texts_lit (w := w2) [numO x] (by simp) fun u w3 hu f3 => ?_
    refine CallK.of (call_spec hu (by simp) [110, 101, 103] (by unfold numO nodesO at hL; omega)) ?_
    rintro _ w4 ⟨rfl, f4⟩
    exact ⟨_, rfl, rfl, ((f1.trans f2).trans f3).trans f4⟩
  | add l r =>
    simp only [formO, Bool.and_eq_true] at hf
    have hnl : nodesO l ≤ 10000 := by unfold nodesO at hn; omega
    have hnr : nodesO r ≤ 10000 := by unfold nodesO at hn; omega
    refine TaK.miss rfl (by decide) (TaK.miss rfl (by decide) (TaK.hit (l.v, r.v, ()) rfl (ns_ok (zs := [.nilIface, .nilIface]) (vs := [l.v, r.v]) rfl (by simp [Ob.v_one]) fun g w1 _ hb f1 => ?_)))
    refine DrewK.of fun w2 _ f2 => HoldK.all ?_
    have hb2 := f2.keep0 hb
    refine InK.all (LdK.fld (c := .raw) hb2 (x := l.v) rfl (InK.all (LdK.fld (c := .raw) hb2 (x := r.v) rfl ?_)))
    refine CallK.of (wnumber_spec l hf.1 hnl w2 ((ht.keep0 f1).keep0 f2)) ?_
    rintro _ w3 ⟨rfl, f3⟩
    refine ⟨_, rfl, KeepK.of f3 ?_⟩
    refine CallK.of (wnumber_spec r hf.2 hnr w3 (((ht.keep0 f1).keep0 f2).keep0 f3)) ?_
    rintro _ w4 ⟨rfl, f4⟩
    refine ⟨_, rfl, KeepK.of f4 ?_⟩
    refine texts_lit (w := w4) [numO l, numO r] (by simp) fun u w5 hu f5 => KeepK.of f5 ?_
    refine CallK.of (call_spec hu (by simp) [97, 100, 100] (by unfold numO nodesO at hL; omega)) ?_
    rintro _ w6 ⟨rfl, f6⟩
    exact ⟨_, rfl, KeepK.of f6 ⟨rfl, (f1.trans f2).trans (((f3.trans f4).trans f5).trans f6)⟩⟩
  | mul l r =>
    simp only [formO, Bool.and_eq_true] at hf
    have hnl : nodesO l ≤ 10000 := by unfold nodesO at hn; omega
    have hnr : nodesO r ≤ 10000 := by unfold nodesO at hn; omega
    refine TaK.miss rfl (by decide) (TaK.miss rfl (by decide) (TaK.miss rfl (by decide) (TaK.miss rfl (by decide) (TaK.hit (l.v, r.v, ()) rfl (ns_ok (zs := [.nilIface, .nilIface]) (vs := [l.v, r.v]) rfl (by simp [Ob.v_one]) fun g w1 _ hb f1 => ?_)))))
    refine DrewK.of fun w2 _ f2 => HoldK.all ?_
    have hb2 := f2.keep0 hb
    refine InK.all (LdK.fld (c := .raw) hb2 (x := l.v) rfl (InK.all (LdK.fld (c := .raw) hb2 (x := r.v) rfl ?_)))
    refine CallK.of (wnumber_spec l hf.1 hnl w2 ((ht.keep0 f1).keep0 f2)) ?_
    rintro _ w3 ⟨rfl, f3⟩
    refine ⟨_, rfl, KeepK.of f3 ?_⟩
    refine CallK.of (wnumber_spec r hf.2 hnr w3 (((ht.keep0 f1).keep0 f2).keep0 f3)) ?_
    rintro _ w4 ⟨rfl, f4⟩
    refine ⟨_, rfl, KeepK.of f4 ?_⟩
    refine texts_lit (w := w4) [numO l, numO r] (by simp) fun u w5 hu f5 => KeepK.of f5 ?_
    refine CallK.of (call_spec hu (by simp) [109, 117, 108] (by unfold numO nodesO at hL; omega)) ?_
    rintro _ w6 ⟨rfl, f6⟩
    exact ⟨_, rfl, KeepK.of f6 ⟨rfl, (f1.trans f2).trans (((f3.trans f4).trans f5).trans f6)⟩⟩
  | max l r =>
    simp only [formO, Bool.and_eq_true] at hf
    have hnl : nodesO l ≤ 10000 := by unfold nodesO at hn; omega
    have hnr : nodesO r ≤ 10000 := by unfold nodesO at hn; omega
    refine TaK.miss rfl (by decide) (TaK.miss rfl (by decide) (TaK.miss rfl (by decide) (TaK.miss rfl (by decide) (TaK.miss rfl (by decide) (TaK.hit (l.v, r.v, ()) rfl (ns_ok (zs := [.nilIface, .nilIface]) (vs := [l.v, r.v]) rfl (by simp [Ob.v_one]) fun g w1 _ hb f1 => ?_))))))
    refine DrewK.of fun w2 _ f2 => HoldK.all ?_
    have hb2 := f2.keep0 hb
    refine InK.all (LdK.fld (c := .raw) hb2 (x := l.v) rfl (InK.all (LdK.fld (c := .raw) hb2 (x := r.v) rfl ?_)))
    refine CallK.of (wnumber_spec l hf.1 hnl w2 ((ht.keep0 f1).keep0 f2)) ?_
    rintro _ w3 ⟨rfl, f3⟩
    refine ⟨_, rfl, KeepK.of f3 ?_⟩
    refine CallK.of (wnumber_spec r hf.2 hnr w3 (((ht.keep0 f1).keep0 f2).keep0 f3)) ?_
    rintro _ w4 ⟨rfl, f4⟩
    refine ⟨_, rfl, KeepK.of f4 ?_⟩
    refine texts_lit (w := w4) [numO l, numO r] (by simp) fun u w5 hu f5 => KeepK.of f5 ?_
    refine CallK.of (call_spec hu (by simp) [109, 97, 120] (by unfold numO nodesO at hL; omega)) ?_
    rintro _ w6 ⟨rfl, f6⟩
    exact ⟨_, rfl, KeepK.of f6 ⟨rfl, (f1.trans f2).trans (((f3.trans f4).trans f5).trans f6)⟩⟩

theorem wcontract_spec (t : Tm) (hf : formT t = true) (hn : nodesT t ≤ 10000) (w : World) (ht : TabW w) : Ret Tryz.prog 84 #[t.v] w fun r w' => r = .string (str (conT t)) ∧ Fr none1 w w' := by
  refine c84 t.v w _ ?_
  unfold C84
  have hL := conT_len t hf
  cases t with
  | none => cases hf
  | zero => exact TaK.hit () rfl (ns_ok (zs := []) (vs := []) rfl rfl fun g w1 _ hb f1 => ⟨rfl, f1⟩)
  | one s =>
    refine TaK.miss rfl (by decide) (TaK.hit (str s, ()) rfl (ns_ok (zs := [.string (⟨#[]⟩ : ByteArray)]) (vs := [.string (str s)]) rfl rfl fun g w1 _ hb f1 => LdK.fld hb (x := str s) rfl ?_))
    refine texts_lit (w := w1) [s] (by simp) fun u w2 hu f2 => ?_
    refine CallK.of (call_spec hu (by simp) [111, 110, 101] (by unfold conT nodesT at hL; omega)) ?_
    rintro _ w3 ⟨rfl, f3⟩
    exact ⟨_, rfl, rfl, (f1.trans f2).trans f3⟩
  | give x =>
    have hnx : nodesT x ≤ 10000 := by unfold nodesT at hn; omega
    refine TaK.miss rfl (by decide) (TaK.miss rfl (by decide) (TaK.hit (x.v, ()) rfl (ns_ok (zs := [.nilIface]) (vs := [x.v]) rfl (by simp [Tm.v_one]) fun g w1 _ hb f1 => LdK.fld (c := .raw) hb (x := x.v) rfl ?_)))
    refine CallK.of (wcontract_spec x hf hnx w1 (ht.keep0 f1)) ?_
    rintro _ w2 ⟨rfl, f2⟩
    refine ⟨_, rfl, ?_⟩
    refine texts_lit (w := w2) [conT x] (by simp) fun u w3 hu f3 => ?_
    refine CallK.of (call_spec hu (by simp) [103, 105, 118, 101] (by unfold conT nodesT at hL; omega)) ?_
    rintro _ w4 ⟨rfl, f4⟩
    exact ⟨_, rfl, rfl, ((f1.trans f2).trans f3).trans f4⟩
  | and l r =>
    simp only [formT, Bool.and_eq_true] at hf
    have hnl : nodesT l ≤ 10000 := by unfold nodesT at hn; omega
    have hnr : nodesT r ≤ 10000 := by unfold nodesT at hn; omega
    refine TaK.miss rfl (by decide) (TaK.miss rfl (by decide) (TaK.miss rfl (by decide) (TaK.hit (l.v, r.v, ()) rfl (ns_ok (zs := [.nilIface, .nilIface]) (vs := [l.v, r.v]) rfl (by simp [Tm.v_one]) fun g w1 _ hb f1 => ?_))))
    refine DrewK.of fun w2 _ f2 => HoldK.all ?_
    have hb2 := f2.keep0 hb
    refine InK.all (LdK.fld (c := .raw) hb2 (x := l.v) rfl (InK.all (LdK.fld (c := .raw) hb2 (x := r.v) rfl ?_)))
    refine CallK.of (wcontract_spec l hf.1 hnl w2 ((ht.keep0 f1).keep0 f2)) ?_
    rintro _ w3 ⟨rfl, f3⟩
    refine ⟨_, rfl, KeepK.of f3 ?_⟩
    refine CallK.of (wcontract_spec r hf.2 hnr w3 (((ht.keep0 f1).keep0 f2).keep0 f3)) ?_
    rintro _ w4 ⟨rfl, f4⟩
    refine ⟨_, rfl, KeepK.of f4 ?_⟩
    refine texts_lit (w := w4) [conT l, conT r] (by simp) fun u w5 hu f5 => KeepK.of f5 ?_
    refine CallK.of (call_spec hu (by simp) [97, 110, 100] (by unfold conT nodesT at hL; omega)) ?_
    rintro _ w6 ⟨rfl, f6⟩
    exact ⟨_, rfl, KeepK.of f6 ⟨rfl, (f1.trans f2).trans (((f3.trans f4).trans f5).trans f6)⟩⟩
  | or s l r =>
    simp only [formT, Bool.and_eq_true] at hf
    have hnl : nodesT l ≤ 10000 := by unfold nodesT at hn; omega
    have hnr : nodesT r ≤ 10000 := by unfold nodesT at hn; omega
    refine TaK.miss rfl (by decide) (TaK.miss rfl (by decide) (TaK.miss rfl (by decide) (TaK.miss rfl (by decide) (TaK.hit (str s, l.v, r.v, ()) rfl (ns_ok (zs := [.string (⟨#[]⟩ : ByteArray), .nilIface, .nilIface]) (vs := [.string (str s), l.v, r.v]) rfl (by simp [Tm.v_one, one1_str]) fun g w1 _ hb f1 => ?_)))))
    refine DrewK.of fun w2 _ f2 => HoldK.all ?_
    have hb2 := f2.keep0 hb
    refine InK.all (LdK.fld hb2 (x := str s) rfl (InK.all (LdK.fld (c := .raw) hb2 (x := l.v) rfl (InK.all (LdK.fld (c := .raw) hb2 (x := r.v) rfl ?_)))))
    refine CallK.of (wcontract_spec l hf.2.1 hnl w2 ((ht.keep0 f1).keep0 f2)) ?_
    rintro _ w3 ⟨rfl, f3⟩
    refine ⟨_, rfl, KeepK.of f3 ?_⟩
    refine CallK.of (wcontract_spec r hf.2.2 hnr w3 (((ht.keep0 f1).keep0 f2).keep0 f3)) ?_
    rintro _ w4 ⟨rfl, f4⟩
    refine ⟨_, rfl, KeepK.of f4 ?_⟩
    refine texts_lit (w := w4) [s, conT l, conT r] (by simp) fun u w5 hu f5 => KeepK.of f5 ?_
    refine CallK.of (call_spec hu (by simp) [111, 114] (by unfold conT nodesT at hL; omega)) ?_
    rintro _ w6 ⟨rfl, f6⟩
    exact ⟨_, rfl, KeepK.of f6 ⟨rfl, (f1.trans f2).trans (((f3.trans f4).trans f5).trans f6)⟩⟩
  | scale o x =>
    simp only [formT, Bool.and_eq_true] at hf
    have hno : nodesO o ≤ 10000 := by unfold nodesT at hn; omega
    have hnx : nodesT x ≤ 10000 := by unfold nodesT at hn; omega
    refine TaK.miss rfl (by decide) (TaK.miss rfl (by decide) (TaK.miss rfl (by decide) (TaK.miss rfl (by decide) (TaK.miss rfl (by decide) (TaK.hit (o.v, x.v, ()) rfl (ns_ok (zs := [.nilIface, .nilIface]) (vs := [o.v, x.v]) rfl (by simp [Tm.v_one, Ob.v_one]) fun g w1 _ hb f1 => ?_))))))
    refine DrewK.of fun w2 _ f2 => HoldK.all ?_
    have hb2 := f2.keep0 hb
    refine InK.all (LdK.fld (c := .raw) hb2 (x := o.v) rfl (InK.all (LdK.fld (c := .raw) hb2 (x := x.v) rfl ?_)))
    refine CallK.of (wnumber_spec o hf.1 hno w2 ((ht.keep0 f1).keep0 f2)) ?_
    rintro _ w3 ⟨rfl, f3⟩
    refine ⟨_, rfl, KeepK.of f3 ?_⟩
    refine CallK.of (wcontract_spec x hf.2 hnx w3 (((ht.keep0 f1).keep0 f2).keep0 f3)) ?_
    rintro _ w4 ⟨rfl, f4⟩
    refine ⟨_, rfl, KeepK.of f4 ?_⟩
    refine texts_lit (w := w4) [numO o, conT x] (by simp) fun u w5 hu f5 => KeepK.of f5 ?_
    refine CallK.of (call_spec hu (by simp) [115, 99, 97, 108, 101] (by unfold conT nodesT at hL; omega)) ?_
    rintro _ w6 ⟨rfl, f6⟩
    exact ⟨_, rfl, KeepK.of f6 ⟨rfl, (f1.trans f2).trans (((f3.trans f4).trans f5).trans f6)⟩⟩
  | when d x =>
    simp only [formT, Bool.and_eq_true, decide_eq_true_eq] at hf
    have hnx : nodesT x ≤ 10000 := by unfold nodesT at hn; omega
    refine TaK.miss rfl (by decide) (TaK.miss rfl (by decide) (TaK.miss rfl (by decide) (TaK.miss rfl (by decide) (TaK.miss rfl (by decide) (TaK.miss rfl (by decide) (TaK.hit (d, x.v, ()) rfl (ns_ok (zs := [.int .i64 0, .nilIface]) (vs := [.int .i64 d, x.v]) rfl (by simp [Tm.v_one, one1_int]) fun g w1 _ hb f1 => ?_)))))))
    refine DrewK.of fun w2 _ f2 => HoldK.all ?_
    have hb2 := f2.keep0 hb
    refine InK.all (LdK.fld hb2 (x := d) rfl (InK.all (LdK.fld (c := .raw) hb2 (x := x.v) rfl ?_)))
    refine CallK.of (itoa_spec d (by omega) (by omega) w2 ((ht.keep0 f1).keep0 f2)) ?_
    rintro _ w3 ⟨rfl, f3⟩
    refine ⟨_, rfl, KeepK.of f3 ?_⟩
    refine CallK.of (wcontract_spec x hf.2 hnx w3 (((ht.keep0 f1).keep0 f2).keep0 f3)) ?_
    rintro _ w4 ⟨rfl, f4⟩
    refine ⟨_, rfl, KeepK.of f4 ?_⟩
    refine texts_lit (w := w4) [Lib.itoa d, conT x] (by simp) fun u w5 hu f5 => KeepK.of f5 ?_
    refine CallK.of (call_spec hu (by simp) [119, 104, 101, 110] (by unfold conT nodesT at hL; omega)) ?_
    rintro _ w6 ⟨rfl, f6⟩
    exact ⟨_, rfl, KeepK.of f6 ⟨rfl, (f1.trans f2).trans (((f3.trans f4).trans f5).trans f6)⟩⟩
  | cond o l r =>
    simp only [formT, Bool.and_eq_true] at hf
    have hno : nodesO o ≤ 10000 := by unfold nodesT at hn; omega
    have hnl : nodesT l ≤ 10000 := by unfold nodesT at hn; omega
    have hnr : nodesT r ≤ 10000 := by unfold nodesT at hn; omega
    refine TaK.miss rfl (by decide) (TaK.miss rfl (by decide) (TaK.miss rfl (by decide) (TaK.miss rfl (by decide) (TaK.miss rfl (by decide) (TaK.miss rfl (by decide) (TaK.miss rfl (by decide) (TaK.hit (o.v, l.v, r.v, ()) rfl (ns_ok (zs := [.nilIface, .nilIface, .nilIface]) (vs := [o.v, l.v, r.v]) rfl (by simp [Tm.v_one, Ob.v_one]) fun g w1 _ hb f1 => ?_))))))))
    refine DrewK.of fun w2 _ f2 => HoldK.all ?_
    have hb2 := f2.keep0 hb
    refine InK.all (LdK.fld (c := .raw) hb2 (x := o.v) rfl (InK.all (LdK.fld (c := .raw) hb2 (x := l.v) rfl (InK.all (LdK.fld (c := .raw) hb2 (x := r.v) rfl ?_)))))
    refine CallK.of (wnumber_spec o hf.1 hno w2 ((ht.keep0 f1).keep0 f2)) ?_
    rintro _ w3 ⟨rfl, f3⟩
    refine ⟨_, rfl, KeepK.of f3 ?_⟩
    refine CallK.of (wcontract_spec l hf.2.1 hnl w3 (((ht.keep0 f1).keep0 f2).keep0 f3)) ?_
    rintro _ w4 ⟨rfl, f4⟩
    refine ⟨_, rfl, KeepK.of f4 ?_⟩
    refine CallK.of (wcontract_spec r hf.2.2 hnr w4 ((((ht.keep0 f1).keep0 f2).keep0 f3).keep0 f4)) ?_
    rintro _ w5 ⟨rfl, f5⟩
    refine ⟨_, rfl, KeepK.of f5 ?_⟩
    refine texts_lit (w := w5) [numO o, conT l, conT r] (by simp) fun u w6 hu f6 => KeepK.of f6 ?_
    refine CallK.of (call_spec hu (by simp) [105, 102] (by unfold conT nodesT at hL; omega)) ?_
    rintro _ w7 ⟨rfl, f7⟩
    exact ⟨_, rfl, KeepK.of f7 ⟨rfl, (f1.trans f2).trans ((((f3.trans f4).trans f5).trans f6).trans f7)⟩⟩

theorem told_spec (s : List UInt8) (w : World) : Ret Tryz.prog 83 #[.string (str s)] w fun r w' => r = .tuple #[.string (str (if 1000 < s.length then [] else s)), .int .i64 (if 1000 < s.length then 5 else 0)] ∧ w = w' := by
  refine c83 (str s) w _ ?_
  unfold C83
  rw [str_size]
  refine ifB.dec (fun h => ?_) (fun h => ?_)
  · rw [if_pos (by omega), if_pos (by omega)]; exact ⟨rfl, rfl⟩
  · rw [if_neg (by omega), if_neg (by omega)]; exact ⟨rfl, rfl⟩

theorem checkT_form {t : Tm} (h : checkT t = 0) : formT t = true ∧ nodesT t ≤ 60 ∧ depthT t ≤ 12 := by
  unfold checkT at h
  repeat' split at h
  all_goals first | (exact absurd h (by decide)) | skip
  rename_i h1 h2 h3 _
  exact ⟨by simpa using h1, by omega, by omega⟩

theorem wterm_spec (t : Tm) (hn : nodesT t ≤ 1000000) (w : World) (ht : TabW w) : Ret Tryz.prog 35 #[t.v] w fun r w' => r = .tuple #[.string (str (writeT t).1), .int .i64 (writeT t).2] ∧ Fr none1 w w' := by
  refine c35 t.v w _ ?_
  refine CallK.of (tcheck_spec t hn w) ?_
  rintro _ w1 ⟨rfl, f1⟩
  unfold writeT
  refine ⟨_, rfl, ifB.ne (fun h => ?_) (fun h => ?_)⟩
  · rw [if_pos h]; exact ⟨rfl, f1⟩
  rw [if_neg (fun t => t h)]
  have hc := checkT_form h
  refine CallK.of (wcontract_spec t hc.1 (by omega) w1 (ht.keep0 f1)) ?_
  rintro _ w2 ⟨rfl, f2⟩
  refine ⟨_, rfl, ?_⟩
  have htd := told_spec (conT t) w2
  by_cases hl : 1000 < (conT t).length
  · rw [if_pos hl, if_pos hl] at htd
    rw [if_pos hl]
    refine CallK.of htd ?_
    rintro _ _ ⟨rfl, rfl⟩
    exact ⟨(str [], 5, ()), rfl, rfl, f1.trans f2⟩
  · rw [if_neg hl, if_neg hl] at htd
    rw [if_neg hl]
    refine CallK.of htd ?_
    rintro _ _ ⟨rfl, rfl⟩
    exact ⟨(str (conT t), 0, ()), rfl, rfl, f1.trans f2⟩

end Go.Proofs.YtlhbfdakceipkaaGreatDoor
