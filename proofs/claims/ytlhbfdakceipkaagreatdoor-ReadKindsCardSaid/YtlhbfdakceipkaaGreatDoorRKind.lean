/-
  ReadKinds: each kind's text is that kind, with its parts in their places.
  Conditions: none beyond the statement's own.
-/
import Derived.Test.YtlhbfdakceipkaaGreatDoorWake7
import Derived.Test.YtlhbfdakceipkaaGreatDoorCRKind
set_option linter.unusedVariables false
set_option maxRecDepth 100000
namespace Go.Proofs.YtlhbfdakceipkaaGreatDoor
open Vc

def kindsO (c : UInt8) (d : Int) : Ob := .add (.fix [99, c]) (.neg (.mul (.const d) (.max (.const (-12)) (.fix [195, 182, 108]))))
def kindsW (x1 x6 : ByteArray) : ByteArray := (((((⟨#[97, 100, 100, 40, 102, 105, 120, 40]⟩ : ByteArray) ++ x1) ++ (⟨#[41, 44, 110, 101, 103, 40, 109, 117, 108, 40]⟩ : ByteArray)) ++ x6) ++ (⟨#[44, 109, 97, 120, 40, 45, 49, 50, 44, 102, 105, 120, 40, 195, 182, 108, 41, 41, 41, 41, 41]⟩ : ByteArray))
def kindsL (c : UInt8) (d : Int) (x1 x6 : ByteArray) : List (ByteArray × Tm) :=
  [((⟨#[122, 101, 114, 111]⟩ : ByteArray), .zero), (((⟨#[111, 110, 101, 40]⟩ : ByteArray) ++ x1) ++ (⟨#[41]⟩ : ByteArray), .one [99, c]), ((⟨#[103, 105, 118, 101, 40, 122, 101, 114, 111, 41]⟩ : ByteArray), .give .zero),
   (((⟨#[97, 110, 100, 40, 111, 110, 101, 40]⟩ : ByteArray) ++ x1) ++ (⟨#[41, 44, 122, 101, 114, 111, 41]⟩ : ByteArray), .and (.one [99, c]) .zero),
   (((((⟨#[111, 114, 40]⟩ : ByteArray) ++ x1) ++ (⟨#[44, 122, 101, 114, 111, 44, 111, 110, 101, 40]⟩ : ByteArray)) ++ x1) ++ (⟨#[41, 41]⟩ : ByteArray), .or [99, c] .zero (.one [99, c])),
   (((⟨#[119, 104, 101, 110, 40]⟩ : ByteArray) ++ x6) ++ (⟨#[44, 122, 101, 114, 111, 41]⟩ : ByteArray), .when d .zero),
   (((⟨#[115, 99, 97, 108, 101, 40]⟩ : ByteArray) ++ kindsW x1 x6) ++ (⟨#[44, 122, 101, 114, 111, 41]⟩ : ByteArray), .scale (kindsO c d) .zero),
   (((((⟨#[105, 102, 40]⟩ : ByteArray) ++ kindsW x1 x6) ++ (⟨#[44, 111, 110, 101, 40]⟩ : ByteArray)) ++ x1) ++ (⟨#[41, 44, 122, 101, 114, 111, 41]⟩ : ByteArray), .cond (kindsO c d) (.one [99, c]) .zero)]
def kindsC (c : UInt8) (d : Nat) : List (ByteArray × Tm) := kindsL c (d : Int) (str [99, c]) (str [UInt8.ofNat (48 + d)])
theorem ba_app (a b : ByteArray) : (a ++ b).data.toList = a.data.toList ++ b.data.toList := by
  conv => lhs; rw [← str_of a, ← str_of b, str_app, str_list]
theorem text_ok {s : ByteArray} {t : Tm} (hc : checkT t = 0) (hb : s.data.toList = conT t) (hl : (conT t).length ≤ 1000) : readT s.data.toList = (t, 0, 0) := by
  have hw : writeT t = (conT t, 0) := by unfold writeT; rw [if_neg (fun h => h hc), if_neg (by omega)]
  have := read_write (t := t) (by rw [hw])
  rw [hw] at this
  rw [hb]; exact this
theorem textO_ok {s : ByteArray} {t : Ob} (hc : checkO t = 0) (hb : s.data.toList = numO t) (hl : (numO t).length ≤ 1000) : readO s.data.toList = (t, 0, 0) := by
  have hw : writeO t = (numO t, 0) := by unfold writeO; rw [if_neg (fun h => h hc), if_neg (by omega)]
  have := readO_write (o := t) (by rw [hw])
  rw [hw] at this
  rw [hb]; exact this
theorem itoa_one {d : Nat} (h : d < 10) : Lib.itoa (d : Int) = [UInt8.ofNat (48 + d)] := by
  unfold Lib.itoa
  rw [if_neg (by omega), Int.toNat_natCast, Lib.decDigits_one h]
theorem itoa_12 : Lib.itoa (-12) = [45, 49, 50] := by
  unfold Lib.itoa
  rw [if_pos (by decide), show (-12 : Int).natAbs = 12 from rfl, Lib.decDigits_two (by decide) (by decide)]
  rfl
theorem nm_oel : nameL [195, 182, 108] = true := by decide +kernel
theorem kindsW_eq (c : UInt8) {d : Nat} (hd : d < 10) : (kindsW (str [99, c]) (str [UInt8.ofNat (48 + d)])).data.toList = numO (kindsO c d) := by
  unfold kindsW
  simp only [ba_app, str_list, kindsO, numO, callL, join1, join2, itoa_one hd, itoa_12]
  rfl
theorem kinds_ok {c : UInt8} (hc : nameL [99, c] = true) {d : Nat} (hd : d < 10) : (∀ e ∈ kindsC c d, readT e.1.data.toList = (e.2, 0, 0) ∧ e.1.size ≤ 1000) ∧ readO (kindsW (str [99, c]) (str [UInt8.ofNat (48 + d)])).data.toList = (kindsO c d, 0, 0) := by
  have hv : ∀ n : Nat, n < 10 → validF (n : Int) = true := fun n hn => by unfold validF; rw [decide_eq_true (by omega), decide_eq_true (by omega)]; rfl
  have hv12 : validF (-12) = true := by decide
  have hday : decide (0 ≤ (d : Int)) = true ∧ decide ((d : Int) ≤ 10000) = true := ⟨decide_eq_true (by omega), decide_eq_true (by omega)⟩
  refine ⟨fun e he => ?_, textO_ok ?_ (kindsW_eq c hd) ?_⟩
  · have hW := kindsW_eq c hd
    simp only [kindsC, kindsL, List.mem_cons, List.not_mem_nil, or_false] at he
    rcases he with rfl | rfl | rfl | rfl | rfl | rfl | rfl | rfl
    all_goals refine ⟨text_ok ?_ ?_ ?_, Nat.le_of_ble_eq_true rfl⟩
    all_goals first
      | (simp only [checkT, formT, formO, kindsO, hc, hv d hd, hv12, nm_oel, hday.1, hday.2, Bool.and_self, Bool.true_and, nodesT, nodesO, depthT, depthO, labelsT]; rfl)
      | (simp only [ba_app, str_list, hW, conT, numO, callL, join1, join2, join3, itoa_one hd, kindsO, itoa_12]; rfl)
      | (simp only [conT, numO, callL, join1, join2, join3, itoa_one hd, kindsO, itoa_12]; exact Nat.le_of_ble_eq_true rfl)
      | skip
  · simp only [checkO, formO, kindsO, hc, hv d hd, hv12, nm_oel, Bool.and_self, nodesO, depthO]; rfl
  · simp only [numO, callL, join1, join2, itoa_one hd, kindsO, itoa_12]; exact Nat.le_of_ble_eq_true rfl
theorem seven_ok : readO [32, 45, 55, 32] = (.const (-7), 0, 0) := by rfl
theorem usd_ok : (readO [111, 110, 101, 40, 117, 115, 100, 41]).2 = (1, 2) := by decide +kernel
theorem elem_kinds : ElemOk Tryz.prog 100 87 2 (.agg #[.string ⟨#[]⟩, .nilIface]) 32 := ⟨Tryz.underlying100, ⟨Tryz.t87, by kernel_rfl, rfl, rfl, rfl⟩, rfl, by decide⟩

theorem kinds_walk (p0 : Int) (w : World) (h0 : (Go.Lit.int .i64 p0).wf = true) : Ret Tryz.prog 6 #[.int .i64 p0] w fun r w' => r = .bool true ∧ Fr none1 w w' := by
  refine c6 p0 w _ ?_
  unfold C6
  refine CallK.of (kname_spec [99] p0 9 (by omega) (by omega) (by decide) w) ?_
  rintro _ w1 ⟨rfl, f1⟩
  refine ⟨_, rfl, ?_⟩
  have hlo := within_lo p0 9
  have hhi := within_hi p0 (n := 9) (by omega)
  generalize hk : (within p0 9).toNat = k
  have hk9 : k < 9 := by omega
  refine CallK.of (within_spec p0 10 w1 (by omega)) ?_
  rintro _ _ ⟨rfl, rfl⟩
  refine ⟨_, rfl, ?_⟩
  have hlo := within_lo p0 10
  have hhi := within_hi p0 (n := 10) (by omega)
  obtain ⟨d, hd⟩ : ∃ d : Nat, within p0 10 = d := ⟨(within p0 10).toNat, by omega⟩
  rw [hd]
  have hd10 : d < 10 := by omega
  have hcn : nameL [99, UInt8.ofNat (97 + k)] = true := by
    have : k = 0 ∨ k = 1 ∨ k = 2 ∨ k = 3 ∨ k = 4 ∨ k = 5 ∨ k = 6 ∨ k = 7 ∨ k = 8 := by omega
    rcases this with rfl | rfl | rfl | rfl | rfl | rfl | rfl | rfl | rfl <;> decide +kernel
  obtain ⟨hall, ho⟩ := kinds_ok hcn hd10
  have hC : kindsC (UInt8.ofNat (97 + k)) d = kindsL (UInt8.ofNat (97 + k)) (d : Int) (str [99, UInt8.ofNat (97 + k)]) (str [UInt8.ofNat (48 + d)]) := rfl
  have h6 : (str ([48, 49, 50, 51, 52, 53, 54, 55, 56, 57].drop d |>.take 1)) = str [UInt8.ofNat (48 + d)] := by
    have : d = 0 ∨ d = 1 ∨ d = 2 ∨ d = 3 ∨ d = 4 ∨ d = 5 ∨ d = 6 ∨ d = 7 ∨ d = 8 ∨ d = 9 := by omega
    rcases this with rfl | rfl | rfl | rfl | rfl | rfl | rfl | rfl | rfl | rfl <;> rfl
  dsimp only [List.cons_append, List.nil_append]
  refine subs_ok (a := [48, 49, 50, 51, 52, 53, 54, 55, 56, 57]) (by omega) (by show (d : Int) ≤ 10; omega) (by decide) ?_
  have hsz : (⟨#[48, 49, 50, 51, 52, 53, 54, 55, 56, 57]⟩ : ByteArray).size = 10 := rfl
  rw [hsz]
  refine subs_ok (by omega) (by omega) (by rw [List.length_take, List.length_drop]; simp; omega) ?_
  rw [show Int.toNat ((10 : Nat) : Int) = 10 from rfl]
  have h6' : (((([48, 49, 50, 51, 52, 53, 54, 55, 56, 57] : List UInt8).drop (d : Int).toNat).take (10 - (d : Int).toNat)).drop (Int.toNat 0)).take (Int.toNat 1 - Int.toNat 0) = (([48, 49, 50, 51, 52, 53, 54, 55, 56, 57] : List UInt8).drop d).take 1 := by
    have : d = 0 ∨ d = 1 ∨ d = 2 ∨ d = 3 ∨ d = 4 ∨ d = 5 ∨ d = 6 ∨ d = 7 ∨ d = 8 ∨ d = 9 := by omega
    rcases this with rfl | rfl | rfl | rfl | rfl | rfl | rfl | rfl | rfl | rfl <;> rfl
  rw [h6', h6]
  generalize UInt8.ofNat (97 + k) = c at hall ho hC ⊢
  generalize hx6 : UInt8.ofNat (48 + d) = d6 at hC ho ⊢
  refine NewK.of fun gx w2 hgx hbx f2 hs2 => NewK.of fun gy w3 hgy hby f3 hs3 => ?_
  refine StsK.blk (cs := [.string (⟨#[]⟩ : ByteArray)]) (f3.keep0 hbx) rfl rfl fun w4 hbx4 f4 hs4 => ?_
  have hne : gy ≠ gx := by omega
  refine StsK.blk (cs := []) (f4.keep1 hby hne) rfl rfl fun w5 hby5 f5 hs5 => ?_
  have hbx5 := f5.keep1 hbx4 (Ne.symm hne)
  refine ⟨rfl, ⟨rfl, ⟨rfl, ⟨rfl, ⟨rfl, ⟨rfl, ⟨rfl, ?_⟩⟩⟩⟩⟩⟩⟩
  refine ns_ok (zs := [.nilIface, .nilIface]) (vs := [(Ob.fix [99, c]).v, (Ob.neg (.mul (.const d) (.max (.const (-12)) (.fix [195, 182, 108])))).v]) rfl rfl fun go w6 hgo hbo f6 => ?_
  have hbx6 := f6.keep0 hbx5
  have hby6 := f6.keep0 hby5
  have f13 : Fr none1 w w3 := f1.trans (f2.trans f3)
  have hw1 := f1.size
  have f16 : Fr none1 w w6 := ((f13.fresh f4 (by omega)).fresh f5 (by omega)).then0 f6
  have hfew : ∀ {a b : ByteArray} {K : Prop}, a.size + b.size ≤ 1000000 → K → CatK a b K := fun h k => cat_few h k
  refine hfew (Nat.le_of_ble_eq_true rfl) (hfew (Nat.le_of_ble_eq_true rfl) (hfew (Nat.le_of_ble_eq_true rfl) (hfew (Nat.le_of_ble_eq_true rfl) ?_)))
  refine LdsK.blk (cks := []) (x := ()) hby6 ⟨rfl, hfew (Nat.le_of_ble_eq_true rfl) (hfew (Nat.le_of_ble_eq_true rfl) ?_)⟩
  refine LdsK.blk (cks := [.str]) (x := (str [99, c], ())) hbx6 ⟨rfl, ?_⟩
  refine LdsK.blk (cks := []) (x := ()) hby6 ⟨rfl, ⟨rfl, hfew (Nat.le_of_ble_eq_true rfl) (hfew (Nat.le_of_ble_eq_true rfl) ?_)⟩⟩
  refine LdsK.blk (cks := [.str]) (x := (str [99, c], ())) hbx6 (LdsK.blk (cks := []) (x := ()) hby6 ⟨rfl, ⟨rfl, ⟨rfl, ?_⟩⟩⟩)
  refine hfew (Nat.le_of_ble_eq_true rfl) (hfew (Nat.le_of_ble_eq_true rfl) (hfew (Nat.le_of_ble_eq_true rfl) (hfew (Nat.le_of_ble_eq_true rfl) ?_)))
  refine LdsK.blk (cks := []) (x := ()) hby6 (LdsK.blk (cks := [.str]) (x := (str [99, c], ())) hbx6 ⟨rfl, ⟨rfl, ⟨rfl, hfew (Nat.le_of_ble_eq_true rfl) (hfew (Nat.le_of_ble_eq_true rfl) ?_)⟩⟩⟩)
  refine LdsK.blk (cks := []) (x := ()) hby6 ⟨rfl, ⟨rfl, hfew (Nat.le_of_ble_eq_true rfl) (hfew (Nat.le_of_ble_eq_true rfl) ?_)⟩⟩
  have ldo : ∀ {w' : World} {K : Value × Value × Unit → Prop}, Fr none1 w6 w' → K ((Ob.fix [99, c]).v, (Ob.neg (.mul (.const d) (.max (.const (-12)) (.fix [195, 182, 108])))).v, ()) → LdsK [.raw, .raw] (⟨go, 0, none⟩ : Addr) w' K := fun {w' K} f k =>
    LdsK.blk (cks := [.raw, .raw]) (x := ((Ob.fix [99, c]).v, (Ob.neg (.mul (.const d) (.max (.const (-12)) (.fix [195, 182, 108])))).v, ())) (f.keep0 hbo) k
  refine ldo (Fr.refl _ _) (LdsK.blk (cks := []) (x := ()) hby6 ⟨rfl, ⟨rfl, ⟨rfl, ?_⟩⟩⟩)
  refine hfew (Nat.le_of_ble_eq_true rfl) (hfew (Nat.le_of_ble_eq_true rfl) (hfew (Nat.le_of_ble_eq_true rfl) (hfew (Nat.le_of_ble_eq_true rfl) ?_)))
  refine ldo (Fr.refl _ _) (LdsK.blk (cks := [.str]) (x := (str [99, c], ())) hbx6 (LdsK.blk (cks := []) (x := ()) hby6 ⟨rfl, ⟨rfl, ⟨rfl, ⟨rfl, ?_⟩⟩⟩⟩))
  obtain ⟨v, w7, hr, hs, hvl, f7, _⟩ := lits_ok (P := Tryz.prog) (w := w6) elem_kinds ((kindsC c d).map fun e => [.string e.1, e.2.v]) (by intro l hl; obtain ⟨e, _, rfl⟩ := List.mem_map.1 hl; rfl) (by rw [List.length_map]; show 8 * 2 ≤ _; omega)
  have hlen : (kindsC c d).length = 8 := rfl
  subst hx6
  refine ⟨v, w7, hr, ?_⟩
  rw [List.length_map, hlen] at hvl
  have f17 := f16.trans f7
  have hrd := IsSl.rd hs
  clear hr hs hC
  generalize kindsC c d = L at hall hrd hlen
  refine LoopK.of (fun s w' => ∃ i : Nat, s.1 = i ∧ i ≤ 8 ∧ Fr none1 w w' ∧ Fr none1 w7 w') (fun s _ => (8 - s.1).toNat) ⟨0, rfl, by omega, f17, Fr.refl _ _⟩ ?_
  rintro _ ⟨i', _⟩ w8 ⟨i, hi, hil, f8, g8⟩
  dsimp only at hi ⊢
  subst hi
  refine ifB.dec (fun hlt => ?_) (fun hge => ?_)
  · rw [hvl] at hlt
    have hi2 : i < L.length := by omega
    obtain ⟨e, he⟩ : ∃ e, L[i]? = some e := ⟨_, List.getElem?_eq_getElem hi2⟩
    obtain ⟨er, e4⟩ := hall e (List.mem_of_getElem? he)
    cases hp : v.1 with
    | none => have := (hrd.2.1 hp).1; omega
    | some p =>
      refine ⟨p, rfl, by omega, by rw [hvl]; omega, ?_⟩
      rw [Int.toNat_natCast]
      refine RdSl.lds (hrd.keep0 g8) (by intro l hl; obtain ⟨e, _, rfl⟩ := List.mem_map.1 hl; rfl) (cks := [.str, .raw]) (x := (e.1, e.2.v, ())) (by rw [List.getElem?_map, he]; rfl) (by omega) ?_ hp
      refine ns_ok (zs := [.string (⟨#[]⟩ : ByteArray), .nilIface]) (vs := [.string e.1, e.2.v]) rfl (by simp [one1_str, Tm.v_one]) fun g w9 hg hb f9 => ?_
      refine LdK.fld hb (x := e.1) rfl ?_
      refine CallK.of (rtermB e.1 (by omega) w9) ?_
      rintro _ w10 ⟨rfl, f10⟩
      rw [er]
      refine ⟨(e.2.v, 0, 0, ()), rfl, ?_⟩
      refine ifB.f rfl (ifB.f rfl ?_)
      refine LdK.fld (c := .raw) (f10.keep0 hb) (x := e.2.v) rfl ?_
      refine CallK.of (tsame_spec e.2 e.2 w10) ?_
      rintro _ w11 ⟨rfl, f11⟩
      refine ⟨_, rfl, ifB.f (by have hz := (readT_inv (bs := e.1.data.toList) (by rw [er])).1; rw [er] at hz; rw [sameT_self e.2 (checkT_form hz).1]; rfl) ⟨⟨i + 1, by rw [wI (by omega) (by omega)]; omega, by omega, ((f8.trans f9).trans f10).trans f11, ((g8.trans f9).trans f10).trans f11⟩, by rw [wI (by omega) (by omega)]; omega⟩⟩
  · refine CallK.of (robsB (kindsW (str [99, c]) (str [UInt8.ofNat (48 + d)])) (Nat.le_of_ble_eq_true rfl) w8) ?_
    rintro _ w9 ⟨rfl, f9⟩
    rw [ho]
    refine ⟨((kindsO c d).v, 0, 0, ()), rfl, ?_⟩
    refine CallK.of (robs_spec [32, 45, 55, 32] (by decide) w9) ?_
    rintro _ w10 ⟨rfl, f10⟩
    rw [seven_ok]
    refine ⟨((Ob.const (-7)).v, 0, 0, ()), rfl, ?_⟩
    refine CallK.of (robs_spec [111, 110, 101, 40, 117, 115, 100, 41] (by decide) w10) ?_
    rintro _ w11 ⟨rfl, f11⟩
    rw [usd_ok]
    refine ⟨(_, 1, 2, ()), rfl, ?_⟩
    have f911 := (f9.trans f10).trans f11
    refine ifB.t rfl (ldo ((f7.trans g8).trans f911) ?_)
    refine CallK.of (osame_spec (kindsO c d) (kindsO c d) w11) ?_
    rintro _ w12 ⟨rfl, f12⟩
    refine ⟨_, rfl, ifB.t (sameO_self _ (by have := (readO_inv (bs := (kindsW (str [99, c]) (str [UInt8.ofNat (48 + d)])).data.toList) (by rw [ho])).1; rw [ho] at this; exact (checkO_form this).1)) (ifB.t rfl ?_)⟩
    refine CallK.of (osame_spec (.const (-7)) (.const (-7)) w12) ?_
    rintro _ w13 ⟨rfl, f13⟩
    refine ⟨_, rfl, ifB.t rfl (ifB.t rfl (ifB.t rfl ?_))⟩
    refine CallK.of (wakes7_spec w13) ?_
    rintro _ w14 ⟨rfl, f14⟩
    exact ⟨_, rfl, rfl, (((f8.trans f911).trans f12).trans f13).trans f14⟩

end Go.Proofs.YtlhbfdakceipkaaGreatDoor
