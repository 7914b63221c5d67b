/-
  ReadForms: texts that are no contracts: where, and why.
  Conditions: none beyond the statement's own.
-/
import Derived.Test.YtlhbfdakceipkaaGreatDoorWake7
import Derived.Test.YtlhbfdakceipkaaGreatDoorCRForm
set_option linter.unusedVariables false
set_option maxRecDepth 100000
namespace Go.Proofs.YtlhbfdakceipkaaGreatDoor
open Vc

/-- The texts, each with its error's place and the error. -/
def giveN (n : Nat) : List UInt8 := (List.replicate n [103, 105, 118, 101, 40]).flatten
def formsL (x1 deep fin x8 x9 : ByteArray) : List (ByteArray × Int × Int) :=
  [((⟨#[]⟩ : ByteArray), 1, 2), ((⟨#[122, 101, 114, 111, 32, 122, 101, 114, 111]⟩ : ByteArray), 6, 2), ((⟨#[90, 101, 114, 111]⟩ : ByteArray), 1, 2), ((⟨#[111, 110, 101]⟩ : ByteArray), 4, 2), ((⟨#[111, 110, 101, 40]⟩ : ByteArray), 5, 2), (((⟨#[111, 110, 101, 40]⟩ : ByteArray) ++ x1), 7, 2),
   ((⟨#[111, 110, 101, 40, 41]⟩ : ByteArray), 5, 2), ((⟨#[111, 110, 101, 40, 49, 97, 41]⟩ : ByteArray), 5, 2), ((((⟨#[111, 110, 101, 40]⟩ : ByteArray) ++ x1) ++ (⟨#[44, 120, 41]⟩ : ByteArray)), 7, 2), ((⟨#[103, 105, 118, 101, 40, 49, 41]⟩ : ByteArray), 6, 2), ((⟨#[97, 110, 100, 40, 122, 101, 114, 111, 41]⟩ : ByteArray), 9, 2),
   ((⟨#[97, 110, 100, 40, 122, 101, 114, 111, 44, 122, 101, 114, 111, 44, 122, 101, 114, 111, 41]⟩ : ByteArray), 14, 2), ((⟨#[111, 114, 40, 122, 101, 114, 111, 44, 122, 101, 114, 111, 41]⟩ : ByteArray), 13, 2), ((⟨#[119, 104, 101, 110, 40, 45, 49, 44, 122, 101, 114, 111, 41]⟩ : ByteArray), 6, 2),
   ((⟨#[119, 104, 101, 110, 40, 49, 48, 48, 48, 49, 44, 122, 101, 114, 111, 41]⟩ : ByteArray), 6, 2), ((⟨#[119, 104, 101, 110, 40, 48, 49, 44, 122, 101, 114, 111, 41]⟩ : ByteArray), 6, 2), ((⟨#[115, 99, 97, 108, 101, 40, 122, 101, 114, 111, 44, 122, 101, 114, 111, 41]⟩ : ByteArray), 7, 2),
   ((⟨#[115, 99, 97, 108, 101, 40, 97, 100, 100, 40, 49, 41, 44, 122, 101, 114, 111, 41]⟩ : ByteArray), 12, 2), ((⟨#[105, 102, 40, 49, 44, 122, 101, 114, 111, 41]⟩ : ByteArray), 10, 2), ((⟨#[195, 169, 40, 122, 101, 114, 111, 41]⟩ : ByteArray), 1, 2), ((⟨#[103, 105, 118, 101, 40, 122, 101, 114, 111, 41, 46]⟩ : ByteArray), 11, 2),
   ((⟨#[103, 105, 118, 101, 9, 40, 122, 101, 114, 111, 41]⟩ : ByteArray), 5, 2), (((deep ++ (⟨#[122, 101, 114, 111]⟩ : ByteArray)) ++ fin), 61, 5), (deep, 61, 5), (((x8 ++ (⟨#[122, 101, 114, 111]⟩ : ByteArray)) ++ x9), 0, 0),
   ((⟨#[111, 114, 40, 97, 44, 122, 101, 114, 111, 44, 111, 114, 40, 97, 44, 122, 101, 114, 111, 44, 122, 101, 114, 111, 41, 41]⟩ : ByteArray), 0, 4), ((⟨#[115, 99, 97, 108, 101, 40, 49, 48, 48, 48, 48, 48, 48, 48, 48, 48, 48, 48, 49, 44, 122, 101, 114, 111, 41]⟩ : ByteArray), 7, 2), ((((⟨#[111, 110, 101, 40, 195, 182]⟩ : ByteArray) ++ x1) ++ (⟨#[41]⟩ : ByteArray)), 0, 0)]
def formsC (c : UInt8) : List (ByteArray × Int × Int) := formsL (str [99, c]) (str (giveN 12)) (str (List.replicate 12 41)) (str ((giveN 12).drop 5)) (str ((List.replicate 12 41).drop 1))
theorem formsC_ok (k : Nat) (hk : k < 9) : ∀ e ∈ formsC (UInt8.ofNat (97 + k)), (readT e.1.data.toList).2 = e.2 ∧ e.1.size ≤ 1000 := by
  have : k = 0 ∨ k = 1 ∨ k = 2 ∨ k = 3 ∨ k = 4 ∨ k = 5 ∨ k = 6 ∨ k = 7 ∨ k = 8 := by omega
  rcases this with rfl | rfl | rfl | rfl | rfl | rfl | rfl | rfl | rfl <;> decide +kernel
theorem elem_forms : ElemOk Tryz.prog 58 57 3 (.agg #[.string ⟨#[]⟩, .int .i64 0, .int .i64 0]) 32 := ⟨Tryz.underlying58, ⟨Tryz.t57, by kernel_rfl, rfl, rfl, rfl⟩, rfl, by decide⟩

def longL (n : Nat) : List UInt8 := [103, 105, 118, 101, 40] ++ List.replicate n 32
theorem long_ok : (readT (longL 996)).2 = (0, 5) := by decide +kernel

theorem tm_str (s : ByteArray) : Value.string s = .string s := rfl
theorem forms_walk (p0 : Int) (w : World) (h0 : (Go.Lit.int .i64 p0).wf = true) : Ret Tryz.prog 4 #[.int .i64 p0] w fun r w' => r = .bool true ∧ Fr none1 w w' := by
  refine c4 p0 w _ ?_
  unfold C4
  refine CallK.of (kname_spec [99] p0 9 (by omega) (by omega) (by decide) w) ?_
  rintro _ w1 ⟨rfl, f1⟩
  refine ⟨_, rfl, ?_⟩
  have hlo := within_lo p0 9
  have hhi := within_hi p0 (n := 9) (by omega)
  generalize hk : (within p0 9).toNat = k
  have hk9 : k < 9 := by omega
  have hall := formsC_ok k hk9
  dsimp only [List.cons_append, List.nil_append]
  generalize UInt8.ofNat (97 + k) = c at hall ⊢
  refine LoopK.of (fun s w' => ∃ i : Nat, s.2.2.1 = i ∧ i ≤ 12 ∧ s.1 = str (giveN i) ∧ s.2.1 = str (List.replicate i 41) ∧ Fr none1 w w') (fun s _ => (12 - s.2.2.1).toNat) ⟨0, rfl, by omega, rfl, rfl, f1⟩ ?_
  rintro _ ⟨deep, fin, i', _⟩ w2 ⟨i, hi, hil, hd, hf, f2⟩
  dsimp only at hi hd hf ⊢
  subst hi hd hf
  have hgl : (giveN i).length = 5 * i := by unfold giveN; simp; omega
  refine ifB.dec (fun hlt => ?_) (fun hge => ?_)
  · refine cat_few (by rw [str_size, hgl]; show 5 * i + 5 ≤ _; omega) (cat_few (by rw [str_size, List.length_replicate]; show i + 1 ≤ _; omega) ?_)
    refine ⟨⟨i + 1, by rw [wI (by omega) (by omega)]; omega, by omega, ?_, ?_, f2⟩, by rw [wI (by omega) (by omega)]; omega⟩
    · show str (giveN i) ++ str [103, 105, 118, 101, 40] = _
      rw [str_app]
      unfold giveN
      rw [List.replicate_succ', List.flatten_append]
      rfl
    · show str (List.replicate i 41) ++ str [41] = _
      rw [str_app, List.replicate_succ']
  · have : i = 12 := by omega
    subst this
    refine DrewK.of fun w3 _ f3 => HoldK.all ?_
    refine cat_few (Nat.le_of_ble_eq_true rfl) (cat_few (Nat.le_of_ble_eq_true rfl) (cat_few (Nat.le_of_ble_eq_true rfl) (cat_few (Nat.le_of_ble_eq_true rfl) (cat_few (Nat.le_of_ble_eq_true rfl) ?_))))
    refine subs_ok (by omega) (by decide) (by decide) ?_
    refine cat_few (Nat.le_of_ble_eq_true rfl) ?_
    refine subs_ok (by omega) (by decide) (by decide) ?_
    refine cat_few (Nat.le_of_ble_eq_true rfl) (cat_few (Nat.le_of_ble_eq_true rfl) (cat_few (Nat.le_of_ble_eq_true rfl) ?_))
    have hL : formsL (str [99, c]) (str (giveN 12)) (str (List.replicate 12 41)) (str ((giveN 12).drop 5)) (str ((List.replicate 12 41).drop 1)) = formsC c := rfl
    obtain ⟨v, w4, hr, hs, hvl, f4, _⟩ := lits_ok (P := Tryz.prog) (w := w3) elem_forms ((formsC c).map fun e => [.string e.1, .int .i64 e.2.1, .int .i64 e.2.2]) (by intro l hl; obtain ⟨e, _, rfl⟩ := List.mem_map.1 hl; rfl) (by rw [List.length_map]; show 28 * 3 ≤ _; omega)
    refine ⟨v, w4, hr, KeepK.of f4 ?_⟩
    have hlen : (formsC c).length = 28 := rfl
    rw [List.length_map, hlen] at hvl
    have f14 := (f2.trans f3).trans f4
    have hrd := IsSl.rd hs
    clear hr hs
    generalize formsC c = L at hall hrd hlen
    refine LoopK.of (fun s w' => ∃ i : Nat, s.1 = i ∧ i ≤ 28 ∧ Fr none1 w w' ∧ Fr none1 w4 w') (fun s _ => (28 - s.1).toNat) ⟨0, rfl, by omega, f14, Fr.refl _ _⟩ ?_
    rintro _ ⟨i', _⟩ w5 ⟨i, hi, hil, f5, g5⟩
    dsimp only at hi ⊢
    subst hi
    refine ifB.dec (fun hlt => ?_) (fun hge => ?_)
    · rw [hvl] at hlt
      have hi2 : i < L.length := by omega
      obtain ⟨e, he⟩ : ∃ e, L[i]? = some e := ⟨_, List.getElem?_eq_getElem hi2⟩
      have hem := hall e (List.mem_of_getElem? he)
      cases hp : v.1 with
      | none => have := (hrd.2.1 hp).1; omega
      | some p =>
        refine ⟨p, rfl, by omega, by rw [hvl]; omega, ?_⟩
        rw [Int.toNat_natCast]
        refine RdSl.lds (hrd.keep0 g5) (by intro l hl; obtain ⟨e, _, rfl⟩ := List.mem_map.1 hl; rfl) (x := (e.1, e.2.1, e.2.2, ())) (by rw [List.getElem?_map, he]; rfl) (by omega) ?_ hp
        refine ns_ok (zs := [.string (⟨#[]⟩ : ByteArray), .int .i64 0, .int .i64 0]) (vs := [.string e.1, .int .i64 e.2.1, .int .i64 e.2.2]) rfl rfl fun g w6 hg hb f6 => ?_
        refine LdK.fld hb (x := e.1) rfl ?_
        refine CallK.of (rtermB e.1 (by omega) w6) ?_
        rintro _ w7 ⟨rfl, f7⟩
        have h1 : (readT e.1.data.toList).2.1 = e.2.1 := by rw [hem.1]
        have h2 : (readT e.1.data.toList).2.2 = e.2.2 := by rw [hem.1]
        refine ⟨((readT e.1.data.toList).1.v, (readT e.1.data.toList).2.1, (readT e.1.data.toList).2.2, ()), rfl, ?_⟩
        dsimp only
        have hb7 := f7.keep0 hb
        refine LdK.fld hb7 (x := e.2.1) rfl (ifB.ne (fun t => absurd h1 t) (fun _ => ?_))
        refine LdK.fld hb7 (x := e.2.2) rfl (ifB.ne (fun t => absurd h2 t) (fun _ => ?_))
        refine ⟨_, w7, nil_neq ifc_term _ (tm_ifc _) w7, ?_⟩
        refine ifB.f ?_ ⟨⟨i + 1, by rw [wI (by omega) (by omega)]; omega, by omega, (f5.trans f6).trans f7, (g5.trans f6).trans f7⟩, by rw [wI (by omega) (by omega)]; omega⟩
        by_cases hz : (readT e.1.data.toList).2.2 = 0
        · have := readT_there hz
          have hn : nilT (readT e.1.data.toList).1.v = false := by
            cases h : nilT (readT e.1.data.toList).1.v
            · rfl
            · exact absurd ((nilT_tm _).1 h) this
          rw [hn, hz]; rfl
        · rw [readT_bad hz]
          show (!((!true) == ((readT e.1.data.toList).2.2 == 0))) = false
          rw [beq_eq_false_iff_ne.2 hz]; rfl
    · refine LoopK.of (fun s w' => ∃ n : Nat, n ≤ 996 ∧ s.1 = str (longL n) ∧ Fr none1 w w') (fun s _ => 2000 - s.1.size) ⟨0, by omega, rfl, f5⟩ ?_
      rintro _ ⟨long, _⟩ w6 ⟨n, hn, hl, f6⟩
      dsimp only at hl ⊢
      subst hl
      have hls : (longL n).length = 5 + n := by unfold longL; rw [List.length_append, List.length_replicate]; rfl
      rw [str_size, hls]
      refine ifB.dec (fun hle => ?_) (fun hgt => ?_)
      · refine cat_few (by rw [str_size, hls]; show 5 + n + 1 ≤ _; omega) ?_
        have e : str (longL n) ++ (⟨#[32]⟩ : ByteArray) = str (longL (n + 1)) := by
          show str (longL n) ++ str [32] = _
          rw [str_app]
          unfold longL
          rw [List.append_assoc, List.replicate_succ']
        rw [e]
        have hls2 : (longL (n + 1)).length = 5 + (n + 1) := by unfold longL; rw [List.length_append, List.length_replicate]; rfl
        exact ⟨⟨n + 1, by omega, rfl, f6⟩, by rw [str_size, hls2]; omega⟩
      · have : n = 996 := by omega
        subst this
        refine CallK.of (rterm_spec (longL 996) (by rw [hls]; omega) w6) ?_
        rintro _ w7 ⟨rfl, f7⟩
        rw [long_ok]
        refine ⟨(_, 0, 5, ()), rfl, ifB.t rfl (ifB.t rfl ?_)⟩
        refine CallK.of (wakes7_spec w7) ?_
        rintro _ w8 ⟨rfl, f8⟩
        exact ⟨_, rfl, rfl, (f6.trans f7).trans f8⟩

end Go.Proofs.YtlhbfdakceipkaaGreatDoor
