/-
  Events: which fields a kind names, which of them may be what; whether an event may be.
  Conditions: of a trade, that its contract's text is told somehow; an event's Term is nil or an interface value.
-/
import Derived.Test.YtlhbfdakceipkaaGreatDoorVcMapS
import Derived.Test.YtlhbfdakceipkaaGreatDoorNameSpec
import Derived.Test.YtlhbfdakceipkaaGreatDoorCEventG
import Derived.Test.YtlhbfdakceipkaaGreatDoorShelf
set_option linter.unusedVariables false
set_option maxRecDepth 100000
namespace Go.Proofs.YtlhbfdakceipkaaGreatDoor
open Vc

/-! ### In plain Lean -/
abbrev EvT := Int × ByteArray × ByteArray × ByteArray × ByteArray × Int × Int × Value × Unit
def evA (e : EvT) : Value := .agg #[.int .i64 e.1, .string e.2.1, .string e.2.2.1, .string e.2.2.2.1, .string e.2.2.2.2.1, .int .i64 e.2.2.2.2.2.1, .int .i64 e.2.2.2.2.2.2.1, e.2.2.2.2.2.2.2.1]

def fieldsF (k : Int) : List UInt8 :=
  if k = 1 then [] else if k = 2 then [73, 84] else if k = 3 then [78, 68, 86] else if k = 4 then [73, 76, 86] else if k = 5 then [68] else if k = 6 then [68, 67, 86] else [63]
def hasF (k : Int) (c : UInt8) : Bool := (fieldsF k).contains c
def nameB (s : ByteArray) : Bool := nameF 0 (runesL s.data.toList)
def validF (n : Int) : Bool := decide (-1000000000000 ≤ n) && decide (n ≤ 1000000000000)
def nilT : Value → Bool
  | .nilIface => true
  | _ => false
/-- A value of an interface. -/
def ifcT (v : Value) : Prop := v = .nilIface ∨ ∃ t u, v = .iface t u
def emptyB (s : ByteArray) : Bool := s.toList == (⟨#[]⟩ : ByteArray).toList
def onlyF (e : EvT) : Bool :=
  (emptyB e.2.1 || hasF e.1 73) && (emptyB e.2.2.1 || hasF e.1 78) && (emptyB e.2.2.2.1 || hasF e.1 76) && (emptyB e.2.2.2.2.1 || hasF e.1 67) &&
  ((e.2.2.2.2.2.1 == 0 || hasF e.1 68) && (e.2.2.2.2.2.2.1 == 0 || hasF e.1 86) && (nilT e.2.2.2.2.2.2.2.1 || hasF e.1 84))
def namedF (e : EvT) : Bool :=
  (!hasF e.1 73 || nameB e.2.1) && (!hasF e.1 78 || nameB e.2.2.1) && (!hasF e.1 76 || nameB e.2.2.2.1) && (!hasF e.1 67 || nameB e.2.2.2.2.1)
/-- Whether an event may be; tr: what is said of its contract. -/
def checkF (e : EvT) (tr : Int) : Int :=
  if fieldsF e.1 = [63] then 1 else if onlyF e = false then 1 else if namedF e = false then 1 else
  if e.2.2.2.2.2.1 < 0 then 1 else if e.2.2.2.2.2.1 > 10000 then 1 else if validF e.2.2.2.2.2.2.1 = false then 1 else
  if e.1 = 4 ∧ e.2.2.2.2.2.2.1 ≠ 0 ∧ e.2.2.2.2.2.2.1 ≠ 1 then 1 else if e.1 = 2 then tr else 0

/-! ### What the functions do -/
theorem efields_spec (k : Int) (w : World) : Ret Tryz.prog 93 #[.int .i64 k] w fun r w' => r = .string (str (fieldsF k)) ∧ w = w' := by
  refine c93 k w _ ?_
  unfold fieldsF
  refine ifB.eq (fun h => ?_) (fun h => ?_)
  · rw [if_pos h]; exact ⟨rfl, rfl⟩
  rw [if_neg h]
  refine ifB.eq (fun h => ?_) (fun h => ?_)
  · rw [if_pos h]; exact ⟨rfl, rfl⟩
  rw [if_neg h]
  refine ifB.eq (fun h => ?_) (fun h => ?_)
  · rw [if_pos h]; exact ⟨rfl, rfl⟩
  rw [if_neg h]
  refine ifB.eq (fun h => ?_) (fun h => ?_)
  · rw [if_pos h]; exact ⟨rfl, rfl⟩
  rw [if_neg h]
  refine ifB.eq (fun h => ?_) (fun h => ?_)
  · rw [if_pos h]; exact ⟨rfl, rfl⟩
  rw [if_neg h]
  refine ifB.eq (fun h => ?_) (fun h => ?_)
  · rw [if_pos h]; exact ⟨rfl, rfl⟩
  rw [if_neg h]; exact ⟨rfl, rfl⟩

theorem valid_spec (n : Int) (w : World) : Ret Tryz.prog 96 #[.int .i64 n] w fun r w' => r = .bool (validF n) ∧ w = w' := by
  refine c96 n w _ ?_
  unfold validF
  refine ifB.dec (fun h => ?_) (fun h => ?_)
  · rw [decide_eq_true (p := -1000000000000 ≤ n) (by omega)]; exact ⟨rfl, rfl⟩
  · rw [decide_eq_false (p := -1000000000000 ≤ n) (by omega)]; exact ⟨rfl, rfl⟩

theorem idx_contains : ∀ (l : List UInt8) (c : UInt8), decide (0 ≤ Lib.indexByte l c) = l.contains c
  | [], c => by simp [Lib.indexByte]
  | b :: l, c => by
    have ih := idx_contains l c
    have hg := Lib.indexByte_ge l c
    unfold Lib.indexByte
    rw [List.contains_cons, ← ih]
    by_cases h : b = c
    · subst h; simp
    · have h1 : (b == c) = false := by simpa using h
      have h2 : (c == b) = false := by simpa using fun t => h t.symm
      rw [h1, h2, Bool.false_or]
      simp only [Bool.false_eq_true, if_false]
      by_cases hm : Lib.indexByte l c = -1
      · rw [hm]; simp
      · rw [if_neg (by simpa using hm)]
        exact decide_eq_decide.2 (by omega)

theorem contains_one (l : List UInt8) (c : UInt8) (w : World) : Ret Tryz.prog 169 #[.string (str l), .string (str [c])] w fun r w' => r = .bool (l.contains c) ∧ w = w' := by
  refine (Tryz.strings_Contains_one (str l) c w).mono ?_
  rintro e w' ⟨rfl, rfl⟩
  refine ⟨_, rfl, ?_, rfl⟩
  rw [str_list, idx_contains]

theorem has_spec (k : Int) (c : UInt8) (w : World) : Ret Tryz.prog 144 #[.int .i64 k, .string (str [c])] w fun r w' => r = .bool (hasF k c) ∧ w = w' := by
  refine c144 k _ w _ ?_
  refine CallK.of (efields_spec k w) ?_
  rintro _ _ ⟨rfl, rfl⟩
  refine ⟨_, rfl, ?_⟩
  refine CallK.of (contains_one _ c w) ?_
  rintro _ _ ⟨rfl, rfl⟩
  exact ⟨_, rfl, rfl, rfl⟩

/-- Is a value of an interface nil? -/
theorem nil_eq {t : TypeId} (ht : ∃ ms, Tryz.prog.underlying t = some (.interface ms)) (o : Operand) {v : Value} (hv : ifcT v) (w : World) :
    (do eqGuard .eql t o (.const .nilIface) v .nilIface; binOp .eql t v .nilIface : Sem Value).run Tryz.prog w = .ok (.bool (nilT v)) w := by
  obtain ⟨ms, ht⟩ := ht
  rcases hv with rfl | ⟨u, x, rfl⟩
  · have h1 : (eqGuard .eql t o (.const .nilIface) .nilIface .nilIface).run Tryz.prog w = .ok () w := by
      unfold eqGuard
      simp
    rw [Sem.run_bind, h1, Result.andThen_ok]
    have h2 : (Op.equalIn (9999 + 1) t .nilIface .nilIface).run Tryz.prog w = .ok true w := by
      unfold Op.equalIn
      simp only [Sem.run_bind, under ht, Result.andThen_ok, Sem.run_pure]
    show (do pure (Value.bool (← Op.equalIn (9999 + 1) t .nilIface .nilIface)) : Sem Value).run Tryz.prog w = _
    rw [Sem.run_bind, h2]
    rfl
  · have h1 : (eqGuard .eql t o (.const .nilIface) (.iface u x) .nilIface).run Tryz.prog w = .ok () w := by
      unfold eqGuard
      rfl
    rw [Sem.run_bind, h1, Result.andThen_ok]
    have h2 : (Op.equalIn (9999 + 1) t (.iface u x) .nilIface).run Tryz.prog w = .ok false w := by
      unfold Op.equalIn
      simp only [Sem.run_bind, under ht, Result.andThen_ok, Sem.run_pure]
    show (do pure (Value.bool (← Op.equalIn (9999 + 1) t (.iface u x) .nilIface)) : Sem Value).run Tryz.prog w = _
    rw [Sem.run_bind, h2]
    rfl

/-- The four texts of an event, as the literal lays them. -/
def textsOf (e : EvT) : Array MapEntry := #[⟨.string (str [73]), .string e.2.1, 0⟩, ⟨.string (str [78]), .string e.2.2.1, 1⟩, ⟨.string (str [76]), .string e.2.2.2.1, 2⟩, ⟨.string (str [67]), .string e.2.2.2.2.1, 3⟩]
def evCells (e : EvT) : Obj := .cells #[.int .i64 e.1, .string e.2.1, .string e.2.2.1, .string e.2.2.2.1, .string e.2.2.2.2.1, .int .i64 e.2.2.2.2.2.1, .int .i64 e.2.2.2.2.2.2.1, e.2.2.2.2.2.2.2.1] 30 (0, 0)

theorem str_ne {a b : List UInt8} (h : a ≠ b) : str a ≠ str b := fun t => h (str_inj t)

/-- The literal map of an event's texts is laid, and a range over it begins. -/
theorem texts_ok {w : World} {b : Nat} {e : EvT} (hb : w.heap[b]? = some (evCells e)) {K : Option Addr → World → Prop}
    (h : ∀ m r w1, w.heap.size ≤ m → w.heap.size ≤ r → r ≠ m → MIt w1 r m (textsOf e) 4 #[] → Fr none1 w w1 → w1.heap[b]? = some (evCells e) → K (some ⟨r, 0, none⟩) w1) :
    NewK (.map #[] 0) w (fun g3 w4 => LdK .str ((⟨b, 0, none⟩ : Addr).add 1) w4 (fun (x5 : ByteArray) => RunU Tryz.prog (Instr.mapUpdate 262 (.map (some g3)) (.string (⟨#[73]⟩ : ByteArray)) (.string x5)) w4 (fun w6 => LdK .str ((⟨b, 0, none⟩ : Addr).add 2) w6 (fun (x7 : ByteArray) => RunU Tryz.prog (Instr.mapUpdate 262 (.map (some g3)) (.string (⟨#[78]⟩ : ByteArray)) (.string x7)) w6 (fun w8 => LdK .str ((⟨b, 0, none⟩ : Addr).add 3) w8 (fun (x9 : ByteArray) => RunU Tryz.prog (Instr.mapUpdate 262 (.map (some g3)) (.string (⟨#[76]⟩ : ByteArray)) (.string x9)) w8 (fun w10 => LdK .str ((⟨b, 0, none⟩ : Addr).add 4) w10 (fun (x11 : ByteArray) => RunU Tryz.prog (Instr.mapUpdate 262 (.map (some g3)) (.string (⟨#[67]⟩ : ByteArray)) (.string x11)) w10 (fun w12 => RunK Tryz.prog (Instr.range 262 (.map (some g3))) w12 (.v (.one .ptr)) (fun (x13 : Option Addr) w14 => K x13 w14)))))))))) := by
  have e73 : (⟨#[73]⟩ : ByteArray) = str [73] := rfl
  have e78 : (⟨#[78]⟩ : ByteArray) = str [78] := rfl
  have e76 : (⟨#[76]⟩ : ByteArray) = str [76] := rfl
  have e67 : (⟨#[67]⟩ : ByteArray) = str [67] := rfl
  rw [e73, e78, e76, e67]
  have tm := Tryz.underlying262
  have ts := Tryz.underlying9
  have hlb := lt_of_blk hb
  refine NewK.of fun g w1 hg hm1 f1 hs1 => ?_
  have b1 := f1.keep0 hb
  have hgb : b ≠ g := by omega
  refine LdK.fld b1 rfl ?_
  refine insert_str hm1 _ _ tm ts (by simp) fun w2 hm2 f2 _ => ?_
  have b2 := f2.keep1 b1 hgb
  refine LdK.fld b2 rfl ?_
  refine insert_str hm2 _ _ tm ts (by
    intro x hx; simp at hx; subst hx; exact ⟨_, rfl, str_ne (by decide)⟩) fun w3 hm3 f3 _ => ?_
  have b3 := f3.keep1 b2 hgb
  refine LdK.fld b3 rfl ?_
  refine insert_str hm3 _ _ tm ts (by
    intro x hx; simp at hx; rcases hx with rfl | rfl <;> exact ⟨_, rfl, str_ne (by decide)⟩) fun w4 hm4 f4 _ => ?_
  have b4 := f4.keep1 b3 hgb
  refine LdK.fld b4 rfl ?_
  refine insert_str hm4 _ _ tm ts (by
    intro x hx; simp at hx; rcases hx with rfl | rfl | rfl <;> exact ⟨_, rfl, str_ne (by decide)⟩) fun w5 hm5 f5 _ => ?_
  have b5 := f5.keep1 b4 hgb
  have f15 : Fr none1 w w5 := (((f1.fresh f2 (by omega)).fresh f3 (by omega)).fresh f4 (by omega)).fresh f5 (by omega)
  have hm5' : w5.heap[g]? = some (.map (textsOf e) 4) := hm5
  refine mrange_ok tm hm5' (by
    intro x hx; simp [textsOf] at hx; rcases hx with rfl | rfl | rfl | rfl <;> simp) (by simp [textsOf]) fun r w6 hr hM f6 => ?_
  have := lt_of_blk hm5'
  have := f15.size
  exact h g r w6 (by omega) (by omega) (by omega) hM (f15.then0 f6) (f6.keep0 b5)

/-- All of a range over the four texts. -/
theorem texts_all {e : EvT} {seen : Array Nat} {good : ByteArray → ByteArray → Bool} (hall : ∀ x ∈ (textsOf e).toList, seen.contains x.born = true → ∀ a b, x.key = .string a → x.val = .string b → good a b = true)
    (hs : ∀ x ∈ (textsOf e).toList, seen.contains x.born = true) : (good (str [73]) e.2.1 && good (str [78]) e.2.2.1 && good (str [76]) e.2.2.2.1 && good (str [67]) e.2.2.2.2.1) = true := by
  have g := fun x hx => hall x hx (hs x hx)
  rw [g ⟨.string (str [73]), .string e.2.1, 0⟩ (by simp [textsOf]) _ _ rfl rfl, g ⟨.string (str [78]), .string e.2.2.1, 1⟩ (by simp [textsOf]) _ _ rfl rfl,
    g ⟨.string (str [76]), .string e.2.2.2.1, 2⟩ (by simp [textsOf]) _ _ rfl rfl, g ⟨.string (str [67]), .string e.2.2.2.2.1, 3⟩ (by simp [textsOf]) _ _ rfl rfl]
  rfl
/-- One that is not good. -/
theorem texts_bad {e : EvT} {good : ByteArray → ByteArray → Bool} {x : MapEntry} {a b : ByteArray} (hx : x ∈ (textsOf e).toList) (ha : x.key = .string a) (hb : x.val = .string b) (hg : good a b = false) :
    (good (str [73]) e.2.1 && good (str [78]) e.2.2.1 && good (str [76]) e.2.2.2.1 && good (str [67]) e.2.2.2.2.1) = false := by
  simp [textsOf] at hx
  rcases hx with rfl | rfl | rfl | rfl <;> (injection ha with ha; injection hb with hb; subst ha; subst hb; rw [hg]; simp)
/-- An entry's key is one letter. -/
theorem texts_key {e : EvT} {x : MapEntry} (hx : x ∈ (textsOf e).toList) : ∃ c b, x.key = .string (str [c]) ∧ x.val = .string b := by
  simp [textsOf] at hx
  rcases hx with rfl | rfl | rfl | rfl <;> exact ⟨_, _, rfl, rfl⟩

/-- The letter of a key. -/
def letOf (a : ByteArray) : UInt8 := a.data.toList.getD 0 0
theorem letOf_str (c : UInt8) : letOf (str [c]) = c := by unfold letOf; rw [str_list]; rfl

/-- The tests of an entry, as the loop makes them, of the entries seen. -/
def Seen (e : EvT) (good : ByteArray → ByteArray → Bool) (seen : Array Nat) : Prop := ∀ x ∈ (textsOf e).toList, seen.contains x.born = true → ∀ a b, x.key = .string a → x.val = .string b → good a b = true
theorem textsOf_nodup (e : EvT) : ∀ x ∈ (textsOf e).toList, ∀ y ∈ (textsOf e).toList, x.born = y.born → x = y := by
  intro x hx y hy h
  simp [textsOf] at hx hy
  rcases hx with rfl | rfl | rfl | rfl <;> rcases hy with rfl | rfl | rfl | rfl <;> first | rfl | (simp at h)
theorem Seen.push {e : EvT} {good : ByteArray → ByteArray → Bool} {seen : Array Nat} (h : Seen e good seen) {x : MapEntry} (hx : x ∈ (textsOf e).toList) {a b : ByteArray} (ha : x.key = .string a) (hb : x.val = .string b) (hg : good a b = true) : Seen e good (seen.push x.born) := by
  intro y hy hc a' b' ha' hb'
  rw [contains_push] at hc
  cases hs : seen.contains y.born with
  | true => exact h y hy hs a' b' ha' hb'
  | false =>
    rw [hs, Bool.false_or] at hc
    have := textsOf_nodup e y hy x hx (by simpa using hc)
    subst this
    rw [ha] at ha'; rw [hb] at hb'
    injection ha' with ha'; injection hb' with hb'
    subst ha'; subst hb'
    exact hg
theorem Seen.none (e : EvT) (good : ByteArray → ByteArray → Bool) : Seen e good #[] := fun x hx h => by simp at h

theorem named_spec (e : EvT) (w : World) : Ret Tryz.prog 95 #[evA e] w fun r w' => r = .bool (namedF e) ∧ Fr none1 w w' := by
  refine c95 e w _ ?_
  unfold C95
  refine NewK.of fun b w1 hb hb1 f1 _ => ?_
  refine texts_ok (e := e) hb1 fun m r w2 hm hr hrm hM f2 hb2 => ?_
  obtain ⟨good, hgood⟩ : ∃ good : ByteArray → ByteArray → Bool, good = fun a s => !hasF e.1 (letOf a) || nameB s := ⟨_, rfl⟩
  have hN : namedF e = (good (str [73]) e.2.1 && good (str [78]) e.2.2.1 && good (str [76]) e.2.2.2.1 && good (str [67]) e.2.2.2.2.1) := by
    rw [hgood]; unfold namedF; simp only [letOf_str]
  refine LoopK.of (fun _ w' => ∃ seen, MIt w' r m (textsOf e) 4 seen ∧ Seen e good seen ∧ Fr (only r) w2 w' ∧ w'.heap[b]? = some (evCells e)) (fun _ w' => leftN w' r m) ⟨#[], hM, Seen.none e good, Fr.refl _ _, hb2⟩ ?_
  rintro _ _ w3 ⟨seen, hM3, hS, f3, hb3⟩
  have fin : ∀ w', Fr (only r) w2 w' → Fr none1 w w' := fun w' f => (f1.then0 f2).fresh f (by have := f1.size; omega)
  refine mnext_ok hM3 hrm (fun x hx hc w4 hM4 f4 hlt hen => ?_) (fun hall => ?_)
  · refine hen ?_
    obtain ⟨c, s, hk, hv⟩ := texts_key hx
    dsimp only
    rw [hk, hv]
    have hb4 := f4.keep1 hb3 (by have := lt_of_blk hb1; have := f2.size; omega)
    refine LdK.fld hb4 rfl ?_
    refine CallK.of (has_spec e.1 c w4) ?_
    rintro _ _ ⟨rfl, rfl⟩
    refine ⟨_, rfl, ?_⟩
    refine ifB.by (fun h => ?_) (fun h => ?_)
    · refine CallK.of (by have := name_spec s.data.toList w4; rw [str_of] at this; exact this) ?_
      rintro _ w5 ⟨rfl, f5⟩
      refine ⟨_, rfl, ifB.not (ifB.by (fun hn => ?_) (fun hn => ?_))⟩
      · refine ⟨⟨_, hM4.keep0 f5, hS.push hx hk hv ?_, (f3.trans f4).then0 f5, f5.keep0 hb4⟩, ?_⟩
        · rw [hgood]; dsimp only; unfold nameB; rw [hn]; simp
        · rw [(hM4.keep0 f5).left, ← hM4.left]; exact hlt
      · refine ⟨?_, (fin _ (f3.trans f4)).trans f5⟩
        rw [hN, texts_bad hx hk hv]
        rw [hgood]; dsimp only; rw [letOf_str, h]; unfold nameB; rw [hn]; rfl
    · refine ⟨⟨_, hM4, hS.push hx hk hv ?_, f3.trans f4, hb4⟩, hlt⟩
      rw [hgood]; dsimp only; rw [letOf_str, h]; rfl
  · refine ⟨?_, fin _ f3⟩
    rw [hN, texts_all hS hall]

theorem only_spec (e : EvT) (hT : ifcT e.2.2.2.2.2.2.2.1) (w : World) : Ret Tryz.prog 94 #[evA e] w fun r w' => r = .bool (onlyF e) ∧ Fr none1 w w' := by
  refine c94 e w _ ?_
  unfold C94
  refine NewK.of fun b w1 hb hb1 f1 _ => ?_
  refine texts_ok (e := e) hb1 fun m r w2 hm hr hrm hM f2 hb2 => ?_
  obtain ⟨good, hgood⟩ : ∃ good : ByteArray → ByteArray → Bool, good = fun a s => emptyB s || hasF e.1 (letOf a) := ⟨_, rfl⟩
  have hN : onlyF e = ((good (str [73]) e.2.1 && good (str [78]) e.2.2.1 && good (str [76]) e.2.2.2.1 && good (str [67]) e.2.2.2.2.1) &&
      ((e.2.2.2.2.2.1 == 0 || hasF e.1 68) && (e.2.2.2.2.2.2.1 == 0 || hasF e.1 86) && (nilT e.2.2.2.2.2.2.2.1 || hasF e.1 84))) := by
    rw [hgood]; unfold onlyF; simp only [letOf_str]
  refine LoopK.of (fun _ w' => ∃ seen, MIt w' r m (textsOf e) 4 seen ∧ Seen e good seen ∧ Fr (only r) w2 w' ∧ w'.heap[b]? = some (evCells e)) (fun _ w' => leftN w' r m) ⟨#[], hM, Seen.none e good, Fr.refl _ _, hb2⟩ ?_
  rintro _ _ w3 ⟨seen, hM3, hS, f3, hb3⟩
  have fin : ∀ w', Fr (only r) w2 w' → Fr none1 w w' := fun w' f => (f1.then0 f2).fresh f (by have := f1.size; omega)
  refine mnext_ok hM3 hrm (fun x hx hc w4 hM4 f4 hlt hen => ?_) (fun hall => ?_)
  · refine hen ?_
    obtain ⟨c, s, hk, hv⟩ := texts_key hx
    dsimp only
    rw [hk, hv]
    have hb4 := f4.keep1 hb3 (by have := lt_of_blk hb1; have := f2.size; omega)
    refine ifB.by (fun hs => ?_) (fun hs => ?_)
    · have hem : emptyB s = false := by unfold emptyB; simpa using hs
      refine LdK.fld hb4 rfl ?_
      refine CallK.of (has_spec e.1 c w4) ?_
      rintro _ _ ⟨rfl, rfl⟩
      refine ⟨_, rfl, ifB.not (ifB.by (fun h => ?_) (fun h => ?_))⟩
      · refine ⟨⟨_, hM4, hS.push hx hk hv ?_, f3.trans f4, hb4⟩, hlt⟩
        rw [hgood]; dsimp only; rw [letOf_str, h]; simp
      · refine ⟨?_, fin _ (f3.trans f4)⟩
        rw [hN, texts_bad hx hk hv (by rw [hgood]; dsimp only; rw [letOf_str, h, hem]; rfl)]
        rfl
    · have hem : emptyB s = true := by unfold emptyB; simpa using hs
      refine ⟨⟨_, hM4, hS.push hx hk hv ?_, f3.trans f4, hb4⟩, hlt⟩
      rw [hgood]; dsimp only; rw [hem]; rfl
  · have hg := texts_all hS hall
    rw [hN, hg, Bool.true_and]
    have fr := fin _ f3
    have hterm : ∀ (d v : Bool), d = true → v = true → LdK .raw ((⟨b, 0, none⟩ : Addr).add 7) w3 (fun (x31 : Value) => RunK Tryz.prog (do eqGuard .eql 28 (.tmp 28) (.const .nilIface) x31 .nilIface; binOp .eql 28 x31 .nilIface) w3 (.v (.one .bool)) (fun (x32 : Bool) w33 => ifB x32
        ((.bool true : Value) = .bool (d && v && (nilT e.2.2.2.2.2.2.2.1 || hasF e.1 84)) ∧ Fr none1 w w33)
        (LdK (.int .i64) ((⟨b, 0, none⟩ : Addr).add 0) w33 (fun (x34 : Int) => CallK Tryz.prog 144 #[.int .i64 x34, .string (⟨#[84]⟩ : ByteArray)] w33 (.v (.one .bool)) (fun (x35 : Bool) w36 => (.bool x35 : Value) = .bool (d && v && (nilT e.2.2.2.2.2.2.2.1 || hasF e.1 84)) ∧ Fr none1 w w36))))) := by
      rintro d v rfl rfl
      refine LdK.fld hb3 (x := e.2.2.2.2.2.2.2.1) rfl ?_
      refine ⟨nilT e.2.2.2.2.2.2.2.1, w3, nil_eq ⟨_, Tryz.underlying28⟩ _ hT w3, ?_⟩
      refine ifB.by (fun h => ?_) (fun h => ?_)
      · rw [h]; exact ⟨rfl, fr⟩
      · refine LdK.fld hb3 rfl ?_
        refine CallK.of (has_spec e.1 84 w3) ?_
        rintro _ _ ⟨rfl, rfl⟩
        rw [h]
        exact ⟨_, rfl, by simp, fr⟩
    have hval : ∀ d : Bool, d = true → LdK (.int .i64) ((⟨b, 0, none⟩ : Addr).add 6) w3 (fun (x30 : Int) => ifB (x30 == 0)
        (LdK .raw ((⟨b, 0, none⟩ : Addr).add 7) w3 (fun (x31 : Value) => RunK Tryz.prog (do eqGuard .eql 28 (.tmp 28) (.const .nilIface) x31 .nilIface; binOp .eql 28 x31 .nilIface) w3 (.v (.one .bool)) (fun (x32 : Bool) w33 => ifB x32
          ((.bool true : Value) = .bool (d && (e.2.2.2.2.2.2.1 == 0 || hasF e.1 86) && (nilT e.2.2.2.2.2.2.2.1 || hasF e.1 84)) ∧ Fr none1 w w33)
          (LdK (.int .i64) ((⟨b, 0, none⟩ : Addr).add 0) w33 (fun (x34 : Int) => CallK Tryz.prog 144 #[.int .i64 x34, .string (⟨#[84]⟩ : ByteArray)] w33 (.v (.one .bool)) (fun (x35 : Bool) w36 => (.bool x35 : Value) = .bool (d && (e.2.2.2.2.2.2.1 == 0 || hasF e.1 86) && (nilT e.2.2.2.2.2.2.2.1 || hasF e.1 84)) ∧ Fr none1 w w36))))))
        (LdK (.int .i64) ((⟨b, 0, none⟩ : Addr).add 0) w3 (fun (x37 : Int) => CallK Tryz.prog 144 #[.int .i64 x37, .string (⟨#[86]⟩ : ByteArray)] w3 (.v (.one .bool)) (fun (x38 : Bool) w39 => ifB x38
          (LdK .raw ((⟨b, 0, none⟩ : Addr).add 7) w39 (fun (x40 : Value) => RunK Tryz.prog (do eqGuard .eql 28 (.tmp 28) (.const .nilIface) x40 .nilIface; binOp .eql 28 x40 .nilIface) w39 (.v (.one .bool)) (fun (x41 : Bool) w42 => ifB x41
            ((.bool true : Value) = .bool (d && (e.2.2.2.2.2.2.1 == 0 || hasF e.1 86) && (nilT e.2.2.2.2.2.2.2.1 || hasF e.1 84)) ∧ Fr none1 w w42)
            (LdK (.int .i64) ((⟨b, 0, none⟩ : Addr).add 0) w42 (fun (x43 : Int) => CallK Tryz.prog 144 #[.int .i64 x43, .string (⟨#[84]⟩ : ByteArray)] w42 (.v (.one .bool)) (fun (x44 : Bool) w45 => (.bool x44 : Value) = .bool (d && (e.2.2.2.2.2.2.1 == 0 || hasF e.1 86) && (nilT e.2.2.2.2.2.2.2.1 || hasF e.1 84)) ∧ Fr none1 w w45))))))
          ((.bool false : Value) = .bool (d && (e.2.2.2.2.2.2.1 == 0 || hasF e.1 86) && (nilT e.2.2.2.2.2.2.2.1 || hasF e.1 84)) ∧ Fr none1 w w39))))) := by
      rintro d rfl
      refine LdK.fld hb3 rfl ?_
      refine ifB.by (fun h => ?_) (fun h => ?_)
      · exact hterm true _ rfl (by rw [h]; rfl)
      · refine LdK.fld hb3 rfl ?_
        refine CallK.of (has_spec e.1 86 w3) ?_
        rintro _ _ ⟨rfl, rfl⟩
        refine ⟨_, rfl, ifB.by (fun h2 => ?_) (fun h2 => ?_)⟩
        · exact hterm true _ rfl (by rw [h2]; simp)
        · refine ⟨?_, fr⟩
          rw [h, h2]; rfl
    refine LdK.fld hb3 rfl ?_
    refine ifB.by (fun h => ?_) (fun h => ?_)
    · exact hval _ (by rw [h]; rfl)
    · refine LdK.fld hb3 rfl ?_
      refine CallK.of (has_spec e.1 68 w3) ?_
      rintro _ _ ⟨rfl, rfl⟩
      refine ⟨_, rfl, ifB.by (fun h2 => ?_) (fun h2 => ?_)⟩
      · exact hval _ (by rw [h2]; simp)
      · refine ⟨?_, fr⟩
        rw [h, h2]; rfl

theorem check_spec (e : EvT) (hT : ifcT e.2.2.2.2.2.2.2.1) (tr : Int) (w : World)
    (ht : e.1 = 2 → ∀ w1, Fr none1 w w1 → Ret Tryz.prog 35 #[e.2.2.2.2.2.2.2.1] w1 fun r w' => (∃ s, r = .tuple #[.string s, .int .i64 tr]) ∧ Fr none1 w1 w') :
    Ret Tryz.prog 49 #[evA e] w fun r w' => r = .int .i64 (checkF e tr) ∧ Fr none1 w w' := by
  refine c49 e w _ ?_
  unfold C49
  refine NewK.of fun b w1 hb hb1 f1 _ => ?_
  refine LdK.fld hb1 rfl ?_
  refine CallK.of (efields_spec e.1 w1) ?_
  rintro _ _ ⟨rfl, rfl⟩
  refine ⟨_, rfl, ?_⟩
  unfold checkF
  have e63 : (⟨#[63]⟩ : ByteArray) = str [63] := rfl
  have q63 : ((str (fieldsF e.1)).toList == (⟨#[63]⟩ : ByteArray).toList) = decide (fieldsF e.1 = [63]) := by rw [e63, str_beq]
  rw [q63]
  refine ifB.dec (fun h => ?_) (fun h => ?_)
  · rw [if_pos h]; exact ⟨rfl, f1⟩
  rw [if_neg h]
  refine LdsK.blk (x := e) hb1 ?_
  refine CallK.of (only_spec e hT w1) ?_
  rintro _ w2 ⟨rfl, f2⟩
  refine ⟨_, rfl, ifB.not (ifB.by (fun ho => ?_) (fun ho => ?_))⟩
  case refine_2 => rw [if_pos ho]; exact ⟨rfl, f1.trans f2⟩
  rw [if_neg (by simp [ho])]
  have hb2 := f2.keep0 hb1
  refine LdsK.blk (x := e) hb2 ?_
  refine CallK.of (named_spec e w2) ?_
  rintro _ w3 ⟨rfl, f3⟩
  have f13 := (f1.trans f2).trans f3
  refine ⟨_, rfl, ifB.not (ifB.by (fun hn => ?_) (fun hn => ?_))⟩
  case refine_2 => rw [if_pos hn]; exact ⟨rfl, f13⟩
  rw [if_neg (by simp [hn])]
  have hb3 := f3.keep0 hb2
  refine LdK.fld hb3 (x := e.2.2.2.2.2.1) rfl ?_
  refine ifB.dec (fun h => ?_) (fun h => ?_)
  · rw [if_pos h]; exact ⟨rfl, f13⟩
  rw [if_neg h]
  refine LdK.fld hb3 (x := e.2.2.2.2.2.1) rfl ?_
  refine ifB.dec (fun h => ?_) (fun h => ?_)
  · rw [if_pos h]; exact ⟨rfl, f13⟩
  rw [if_neg h]
  refine LdK.fld hb3 (x := e.2.2.2.2.2.2.1) rfl ?_
  refine CallK.of (valid_spec e.2.2.2.2.2.2.1 w3) ?_
  rintro _ _ ⟨rfl, rfl⟩
  refine ⟨_, rfl, ifB.not (ifB.by (fun hv => ?_) (fun hv => ?_))⟩
  case refine_2 => rw [if_pos hv]; exact ⟨rfl, f13⟩
  rw [if_neg (by simp [hv])]
  refine JoinK.of (fun s w' => s.1 = decide (e.1 = 4 ∧ e.2.2.2.2.2.2.1 ≠ 0 ∧ e.2.2.2.2.2.2.1 ≠ 1) ∧ w3 = w') ?_ ?_
  · refine LdK.fld hb3 (x := e.1) rfl ?_
    refine ifB.eq (fun h4 => ?_) (fun h4 => ?_)
    · refine LdK.fld hb3 (x := e.2.2.2.2.2.2.1) rfl ?_
      refine ifB.ne (fun h0 => ?_) (fun h0 => ?_)
      · refine LdK.fld hb3 (x := e.2.2.2.2.2.2.1) rfl ⟨?_, rfl⟩
        dsimp only
        by_cases h1 : e.2.2.2.2.2.2.1 = 1
        · rw [decide_eq_false (fun t => t.2.2 h1), h1]; rfl
        · rw [decide_eq_true ⟨h4, h0, h1⟩]; simpa using h1
      · exact ⟨by dsimp only; rw [decide_eq_false (fun t => t.2.1 h0)], rfl⟩
    · exact ⟨by dsimp only; rw [decide_eq_false (fun t => h4 t.1)], rfl⟩
  · rintro _ ⟨s, _⟩ _ ⟨hs, rfl⟩
    dsimp only at hs ⊢
    rw [hs]
    refine ifB.dec (fun h => ?_) (fun h => ?_)
    · rw [if_pos h]; exact ⟨rfl, f13⟩
    rw [if_neg h]
    refine LdK.fld hb3 (x := e.1) rfl ?_
    refine ifB.eq (fun h2 => ?_) (fun h2 => ?_)
    · rw [if_pos h2]
      refine LdK.fld hb3 (x := e.2.2.2.2.2.2.2.1) rfl ?_
      refine CallK.of (ht h2 w3 f13) ?_
      rintro _ w4 ⟨⟨s', rfl⟩, f4⟩
      exact ⟨(s', tr, ()), rfl, rfl, f13.trans f4⟩
    · rw [if_neg h2]; exact ⟨rfl, f13⟩

end Go.Proofs.YtlhbfdakceipkaaGreatDoor
