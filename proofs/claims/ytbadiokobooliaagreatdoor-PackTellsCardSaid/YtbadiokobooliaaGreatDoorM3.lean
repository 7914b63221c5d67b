/-
  Texts of this claim, put together: RefWrite, CRef11P, RefEv, PlainSpec, CSome11, SomeSpec, CKName, KName, VcCmd, DoSpec, SomeSpec2, RefEv2, KeepB, CPTell, PTell.
  Conditions: those of each theorem.
-/
import Derived.Test.YtbadiokobooliaaGreatDoorM0
import Derived.Test.YtbadiokobooliaaGreatDoorM1
import Derived.Test.YtbadiokobooliaaGreatDoorM2
import Derived.KernelRfl
import Derived.Laws.BytesString
import Derived.Laws.IdiomStrings
import Derived.Test.YtbadiokobooliaaGreatDoorProg
/-! ### RefWrite -/
set_option linter.unusedVariables false
set_option maxRecDepth 100000
namespace Go.Proofs.YtbadiokobooliaaGreatDoor
open Vc

/-! ### Plain -/
def wordTab : List (List UInt8) := [[], [122, 101, 114, 111], [111, 110, 101], [103, 105, 118, 101], [97, 110, 100], [111, 114], [115, 99, 97, 108, 101], [119, 104, 101, 110], [105, 102], [], [], [], [102, 105, 120], [97, 100, 100], [110, 101, 103], [109, 117, 108], [109, 97, 120]]
def wordL (k : Int) : List UInt8 := wordTab.getD k.toNat []
def headR (k : Int) (s : List UInt8) (n : Int) : List UInt8 := wordL k ++ [40] ++ ((if k = 2 ∨ k = 5 ∨ k = 12 then s else []) ++ (if k = 7 then Lib.itoa n else []))
def sepR (k : Int) : List UInt8 := if k = 2 ∨ k = 5 ∨ k = 12 ∨ k = 7 then [44] else []
mutual
def textR : Tr → List UInt8
  | .mk k s n ks => if k = 11 then Lib.itoa n else if k = 1 then [122, 101, 114, 111] else textRs (headR k s n) (sepR k) ks ++ [41]
def textRs : List UInt8 → List UInt8 → List Tr → List UInt8
  | acc, _, [] => acc
  | acc, sep, t :: ts => textRs (acc ++ sep ++ textR t) [44] ts
end
mutual
def lenR : Tr → Nat
  | .mk _ s _ ks => 50 + s.length + lenRs ks
def lenRs : List Tr → Nat
  | [] => 0
  | t :: ts => lenR t + 1 + lenRs ts
end
theorem lenRs_app : ∀ (a b : List Tr), lenRs (a ++ b) = lenRs a + lenRs b
  | [], b => by simp [lenRs]
  | t :: a, b => by simp only [List.cons_append, lenRs, lenRs_app a b]; omega
theorem lenRs_len : ∀ ts : List Tr, ts.length ≤ lenRs ts
  | [] => Nat.le_refl _
  | t :: ts => by unfold lenRs; have := lenRs_len ts; rw [List.length_cons]; omega
theorem textRs_app : ∀ (a b : List Tr) (acc sep : List UInt8), textRs acc sep (a ++ b) = textRs (textRs acc sep a) (if a = [] then sep else [44]) b
  | [], b, acc, sep => by simp [textRs]
  | t :: a, b, acc, sep => by
    rw [List.cons_append, textRs, textRs, textRs_app a b, if_neg (List.cons_ne_nil t a), ite_self]
theorem sepR_len (k : Int) : (sepR k).length ≤ 1 := by unfold sepR; split <;> simp
theorem wordL_len (k : Int) : (wordL k).length ≤ 5 := by
  unfold wordL
  have : ∀ x ∈ wordTab, x.length ≤ 5 := by decide
  rw [List.getD_eq_getElem?_getD]
  cases h : wordTab[k.toNat]? with
  | none => simp
  | some x => exact this x (List.mem_of_getElem? h)
theorem itoa_le (n : Int) (h0 : -9223372036854775808 ≤ n) (h1 : n ≤ 9223372036854775807) : (Lib.itoa n).length ≤ 30 := itoa_short n h0 h1
theorem okK_n {k n : Int} {s : List UInt8} (h : okK k s n = true) : ((k = 11 ∨ k = 7) → -1000000000000 ≤ n ∧ n ≤ 1000000000000) ∧ 1 ≤ k ∧ k ≤ 16 := by
  unfold okK at h
  repeat' split at h
  · rename_i h1; exact ⟨fun t => by omega, by omega, by omega⟩
  · rename_i h1 h2; exact ⟨fun t => by omega, by omega, by omega⟩
  · rename_i h1 h2 h3
    simp only [Bool.and_eq_true, decide_eq_true_eq] at h
    exact ⟨fun _ => by omega, by omega, by omega⟩
  · rename_i h1 h2 h3 h4
    have := validF_iff h
    exact ⟨fun _ => this, by omega, by omega⟩
  · cases h
theorem head_len {k n : Int} {s : List UInt8} (h : okK k s n = true) : (headR k s n).length ≤ s.length + 40 := by
  have h1 := wordL_len k
  have h2 := (okK_n h).1
  unfold headR
  simp only [List.length_append, List.length_cons, List.length_nil]
  split
  · rename_i hk
    rw [if_neg (by omega), List.length_nil]; omega
  · split
    · rename_i h7
      have := itoa_le n (by have := h2 (.inr h7); omega) (by have := h2 (.inr h7); omega)
      simp only [List.length_nil]; omega
    · simp only [List.length_nil]; omega
theorem formRs_get : ∀ {ts : List Tr} {b f : Bool} {i : Nat} {t : Tr}, formRs ts b f = true → ts[i]? = some t → ∃ b', formR t b' = true
  | [], b, f, i, t, h, ht => by simp at ht
  | u :: us, b, f, 0, t, h, ht => by
    unfold formRs at h
    simp only [Bool.and_eq_true] at h
    simp at ht; subst ht
    exact ⟨_, h.1⟩
  | u :: us, b, f, i + 1, t, h, ht => by
    unfold formRs at h
    simp only [Bool.and_eq_true] at h
    exact formRs_get h.2 (by simpa using ht)
mutual
theorem textR_len : ∀ (t : Tr) (b : Bool), formR t b = true → (textR t).length ≤ lenR t
  | .mk k s n ks, b, h => by
    unfold formR at h
    simp only [Bool.and_eq_true] at h
    have hk := okK_n h.1.1
    unfold textR lenR
    split
    · have := itoa_le n (by omega) (by omega); omega
    split
    · simp; omega
    · have h1 := head_len h.1.1
      have h2 := textRs_len ks _ _ (headR k s n) (sepR k) h.2 (sepR_len k)
      rw [List.length_append, List.length_singleton]; omega
theorem textRs_len : ∀ (ts : List Tr) (b f : Bool) (acc sep : List UInt8), formRs ts b f = true → sep.length ≤ 1 → (textRs acc sep ts).length ≤ acc.length + lenRs ts
  | [], b, f, acc, sep, h, hs => by unfold textRs lenRs; omega
  | t :: ts, b, f, acc, sep, h, hs => by
    unfold formRs at h
    simp only [Bool.and_eq_true] at h
    have h1 := textR_len t _ h.1
    have h2 := textRs_len ts b false (acc ++ sep ++ textR t) [44] h.2 (Nat.le_refl _)
    unfold textRs lenRs
    rw [List.length_append, List.length_append] at h2
    omega
end
theorem len_trO (o : Ob) (h : shortO o) : lenR (trO o) ≤ 1060 * (3 * nodesO o + 1) := by
  induction o <;> simp_all [trO, lenR, lenRs, nodesO, shortO] <;> omega
theorem len_trT (t : Tm) (h : shortT t) : lenR (trT t) ≤ 1060 * (3 * nodesT t + 1) := by
  induction t with
  | none => simp [trT, lenR, lenRs, nodesT]
  | zero => simp [trT, lenR, lenRs, nodesT]
  | one s => simp [trT, lenR, lenRs, nodesT, shortT] at h ⊢; omega
  | give t i => have := i h; simp [trT, lenR, lenRs, nodesT] at this ⊢; omega
  | and l r i j => have := i h.1; have := j h.2; simp [trT, lenR, lenRs, nodesT] at *; omega
  | or s l r i j => have := i h.2.1; have := j h.2.2; have := h.1; simp [trT, lenR, lenRs, nodesT] at *; omega
  | scale o t i => have := i h.2; have := len_trO o h.1; simp [trT, lenR, lenRs, nodesT] at *; omega
  | when d t i => have := i h; simp [trT, lenR, lenRs, nodesT] at *; omega
  | cond o l r i j => have := i h.2.1; have := j h.2.2; have := len_trO o h.1; simp [trT, lenR, lenRs, nodesT] at *; omega

theorem text_trO : ∀ (o : Ob), formO o = true → textR (trO o) = numO o := by
  intro o h
  induction o with
  | none => cases h
  | const n => rfl
  | fix s => simp [trO, textR, textRs, headR, numO, callL, join1, wordL, wordTab]
  | add l r i j => simp only [formO, Bool.and_eq_true] at h; simp [trO, textR, textRs, headR, sepR, numO, callL, join2, wordL, wordTab, i h.1, j h.2]
  | neg o i => simp [trO, textR, textRs, headR, sepR, numO, callL, join1, wordL, wordTab, i h]
  | mul l r i j => simp only [formO, Bool.and_eq_true] at h; simp [trO, textR, textRs, headR, sepR, numO, callL, join2, wordL, wordTab, i h.1, j h.2]
  | max l r i j => simp only [formO, Bool.and_eq_true] at h; simp [trO, textR, textRs, headR, sepR, numO, callL, join2, wordL, wordTab, i h.1, j h.2]
theorem text_trT : ∀ (t : Tm), formT t = true → textR (trT t) = conT t := by
  intro t h
  induction t with
  | none => cases h
  | zero => rfl
  | one s => simp [trT, textR, textRs, headR, conT, callL, join1, wordL, wordTab]
  | give t i => simp [trT, textR, textRs, headR, sepR, conT, callL, join1, wordL, wordTab, i h]
  | and l r i j => simp only [formT, Bool.and_eq_true] at h; simp [trT, textR, textRs, headR, sepR, conT, callL, join2, wordL, wordTab, i h.1, j h.2]
  | or s l r i j => simp only [formT, Bool.and_eq_true] at h; simp [trT, textR, textRs, headR, sepR, conT, callL, join3, wordL, wordTab, i h.2.1, j h.2.2]
  | scale o t i => simp only [formT, Bool.and_eq_true] at h; simp [trT, textR, textRs, headR, sepR, conT, callL, join2, wordL, wordTab, text_trO o h.1, i h.2]
  | when d t i => simp only [formT, Bool.and_eq_true] at h; simp [trT, textR, textRs, headR, sepR, conT, callL, join2, wordL, wordTab, i h.2]
  | cond o l r i j => simp only [formT, Bool.and_eq_true] at h; simp [trT, textR, textRs, headR, sepR, conT, callL, join3, wordL, wordTab, text_trO o h.1, i h.2.1, j h.2.2]

/-- Write of a tree. -/
def writeR (t : Tr) (b : Bool) : List UInt8 × Int := if checkR t b ≠ 0 then ([], checkR t b) else if 1000 < (textR t).length then ([], 5) else (textR t, 0)
theorem writeR_trT (t : Tm) : writeR (trT t) false = writeT t := by
  unfold writeR writeT
  rw [check_trT]
  split
  · rfl
  rename_i h
  rw [text_trT t (checkT_form (by simpa using h)).1]

/-! ### What the functions do -/
theorem cat_huge {a b : ByteArray} {K : Prop} (h : a.size + b.size ≤ 1000000000) (k : K) : CatK a b K := ⟨by show ((a.size + b.size : Nat) : Int) ≤ 9223372036854775807; omega, k⟩

theorem rword_tab (k : Int) (h0 : 0 ≤ k) (h1 : k ≤ 16) (w : World) : Ret Tryz.prog 131 #[.int .i64 k] w fun r w' => r = .string (str (wordL k)) ∧ Fr none1 w w' := by
  refine c131 k w _ ?_
  refine words_lit wordTab (by decide) fun u w1 hu f1 _ => ?_
  have hul := hu.len
  have hk : k.toNat < wordTab.length := by show k.toNat < 17; omega
  have := hu.ld (i := k.toNat) (s := wordL k) (by unfold wordL; rw [List.getD_eq_getElem?_getD, List.getElem?_eq_getElem hk]; rfl) (K := fun x => Value.string x = .string (str (wordL k)) ∧ Fr none1 w w1) ⟨rfl, f1⟩
  rw [show k = ((k.toNat : Nat) : Int) by omega]
  exact this

theorem rtext_spec : ∀ (t : Tr) (b : Bool) (hf : formR t b = true) (hl : lenR t ≤ 100000000) {w : World} {S : Nat → Prop} {v : TV} (h : IsTr w S t v), Ret Tryz.prog 97 #[tvA v] w fun r w' => r = .string (str (textR t)) ∧ Fr none1 w w'
  | .mk k s n ks, b, hf, hl, w, S, v, h => by
    have ih : ∀ t ∈ ks, ∀ b, formR t b = true → lenR t ≤ 100000000 → ∀ {w : World} {S : Nat → Prop} {v : TV}, IsTr w S t v → Ret Tryz.prog 97 #[tvA v] w fun r w' => r = .string (str (textR t)) ∧ Fr none1 w w' := fun t ht b hf hl w S v h => rtext_spec t b hf hl h
    refine c97 v w _ ?_
    unfold C97
    unfold formR at hf
    simp only [Bool.and_eq_true] at hf
    have hk := okK_n hf.1.1
    have hhl := head_len hf.1.1
    refine NewK.of fun g w1 hg hb f1 _ => LdK.fld hb (x := v.1) rfl ?_
    have h1 := h.keep0 f1
    rw [h.kind]
    unfold textR
    refine ifB.eq (fun e => ?_) (fun e => ?_)
    · rw [if_pos e]
      refine LdK.fld hb (x := v.2.2.1) rfl ?_
      rw [h.num]
      refine CallK.of (digits_spec n (by omega) (by omega) w1) ?_
      rintro _ w2 ⟨rfl, f2⟩
      exact ⟨_, rfl, rfl, f1.trans f2⟩
    rw [if_neg e]
    refine ifB.eq (fun e2 => ?_) (fun e2 => ?_)
    · rw [if_pos e2]; exact ⟨rfl, f1⟩
    rw [if_neg e2]
    refine LdK.fld hb (x := v.1) rfl ?_
    rw [h.kind]
    refine CallK.of (rword_tab k (by omega) (by omega) w1) ?_
    rintro _ w2 ⟨rfl, f2⟩
    refine ⟨_, rfl, ?_⟩
    have hwl := wordL_len k
    unfold lenR at hl
    refine cat_huge (by rw [str_size]; show (wordL k).length + 1 ≤ _; omega) ?_
    have hcat : str (wordL k) ++ (⟨#[40]⟩ : ByteArray) = str (wordL k ++ [40]) := by rw [← str_app]; rfl
    rw [hcat]
    have hb2 := f2.keep0 hb
    have f12 := f1.trans f2
    have hkind := h.kind
    refine JoinK.of (fun s' w' => s'.1 = str (wordL k ++ [40] ++ (if k = 2 ∨ k = 5 ∨ k = 12 then s else [])) ∧ s'.2.1 = str (if k = 2 ∨ k = 5 ∨ k = 12 then [44] else []) ∧ w2 = w') ?_ ?_
    · refine JoinK.of (fun c w' => (c.1 = true ↔ k = 2 ∨ k = 5 ∨ k = 12) ∧ w2 = w') ?_ ?_
      · refine LdK.fld hb2 (x := v.1) rfl ?_
        rw [hkind]
        refine ifB.eq (fun e => ⟨by simp [e], rfl⟩) (fun e => LdK.fld hb2 (x := v.1) rfl ?_)
        rw [hkind]
        refine ifB.eq (fun e => ⟨by simp [e], rfl⟩) (fun e2 => LdK.fld hb2 (x := v.1) rfl ?_)
        rw [hkind]
        exact ⟨by simp [e, e2], rfl⟩
      rintro _ ⟨c, _⟩ _ ⟨hc, rfl⟩
      dsimp only at hc ⊢
      refine ifB.by (fun e => ?_) (fun e => ?_)
      · refine LdK.fld hb2 (x := v.2.1) rfl ?_
        rw [h.name]
        refine cat_huge (by rw [str_size, str_size, List.length_append]; show (wordL k).length + 1 + s.length ≤ _; omega) ?_
        rw [if_pos (hc.1 e), if_pos (hc.1 e), str_app]
        exact ⟨rfl, rfl, rfl⟩
      · have hn : ¬ (k = 2 ∨ k = 5 ∨ k = 12) := fun t => by rw [hc.2 t] at e; cases e
        rw [if_neg hn, if_neg hn, List.append_nil]
        exact ⟨rfl, rfl, rfl⟩
    rintro _ ⟨s1, sep1, _⟩ _ ⟨hs1, hsep1, rfl⟩
    dsimp only at hs1 hsep1 ⊢
    subst hs1 hsep1
    refine JoinK.of (fun s' w' => s'.1 = str (headR k s n) ∧ s'.2.1 = str (sepR k) ∧ Fr none1 w w' ∧ Fr none1 w1 w') ?_ ?_
    · refine LdK.fld hb2 (x := v.1) rfl ?_
      rw [hkind]
      refine ifB.eq (fun e7 => ?_) (fun e7 => ?_)
      · refine LdK.fld hb2 (x := v.2.2.1) rfl ?_
        rw [h.num]
        refine CallK.of (digits_spec n (by omega) (by omega) w2) ?_
        rintro _ w3 ⟨rfl, f3⟩
        refine ⟨_, rfl, ?_⟩
        have hil := itoa_le n (by omega) (by omega)
        have hn : ¬ (k = 2 ∨ k = 5 ∨ k = 12) := by omega
        rw [if_neg hn, List.append_nil]
        refine cat_huge (by rw [str_size, str_size, List.length_append]; show (wordL k).length + 1 + _ ≤ _; omega) ?_
        unfold headR sepR
        rw [if_neg hn, if_pos e7, if_pos (.inr (.inr (.inr e7))), List.nil_append, str_app]
        exact ⟨rfl, rfl, f12.trans f3, f2.trans f3⟩
      · unfold headR sepR
        rw [if_neg e7, List.append_nil]
        refine ⟨rfl, ?_, f12, f2⟩
        by_cases hn : k = 2 ∨ k = 5 ∨ k = 12
        · rw [if_pos hn, if_pos hn, if_pos (show k = 2 ∨ k = 5 ∨ k = 12 ∨ k = 7 by omega)]
        · rw [if_neg hn, if_neg hn, if_neg (show ¬ (k = 2 ∨ k = 5 ∨ k = 12 ∨ k = 7) by omega)]
    rintro _ ⟨s2, sep2, _⟩ w3 ⟨hs2, hsep2, f3, g3⟩
    dsimp only at hs2 hsep2 ⊢
    subst hs2 hsep2
    refine LdK.fld (g3.keep0 hb) (x := v.2.2.2.1) rfl ?_
    have hvl := h.len
    have hkl := lenRs_len ks
    refine LoopK.of (fun s' w' => ∃ i : Nat, s'.2.2.1 = i ∧ i ≤ ks.length ∧ s'.1 = str (textRs (headR k s n) (sepR k) (ks.take i)) ∧ s'.2.1 = str (if ks.take i = [] then sepR k else [44]) ∧ Fr none1 w w' ∧ Fr none1 w1 w') (fun s' _ => (ks.length - s'.2.2.1).toNat)
      ⟨0, rfl, Nat.zero_le _, rfl, rfl, f3, g3⟩ ?_
    rintro _ ⟨acc, sep, i', _⟩ w4 ⟨i, hi, hil, hacc, hsep, f4, g4⟩
    dsimp only at hi hacc hsep ⊢
    subst hi hacc hsep
    have hlk := lenRs_app (ks.take i) (ks.drop i)
    rw [List.take_append_drop] at hlk
    have hft : formRs (ks.take i) b (k == 6 || k == 8) = true := by
      have key : ∀ (ts : List Tr) (n : Nat) (b f : Bool), formRs ts b f = true → formRs (ts.take n) b f = true := by
        intro ts
        induction ts with
        | nil => intro n b f _; simp [formRs]
        | cons t ts ih =>
          intro n b f h
          cases n with
          | zero => simp [formRs]
          | succ n =>
            unfold formRs at h
            simp only [Bool.and_eq_true] at h
            rw [List.take_succ_cons]
            unfold formRs
            rw [h.1, ih n b false h.2]; rfl
      exact key ks i _ _ hf.2
    have htl := textRs_len (ks.take i) b _ (headR k s n) (sepR k) hft (sepR_len k)
    have hsl : (if ks.take i = [] then sepR k else [44]).length ≤ 1 := by split; exact sepR_len k; simp
    rw [hvl]
    refine ifB.dec (fun hlt => ?_) (fun hge => ?_)
    · have hi2 : i < ks.length := by omega
      obtain ⟨t, ht⟩ : ∃ t, ks[i]? = some t := ⟨_, List.getElem?_eq_getElem hi2⟩
      obtain ⟨b', hb'⟩ := formRs_get hf.2 ht
      have hlt2 : lenR t + 1 ≤ lenRs (ks.drop i) := by rw [drop_one ht]; unfold lenRs; omega
      have htl2 := textR_len t b' hb'
      refine cat_huge (by rw [str_size, str_size]; omega) ?_
      refine LdK.fld (g4.keep0 hb) (x := v.2.2.2.1) rfl ?_
      refine (h1.keep0 g4).kids ht fun x hx => ?_
      refine CallK.of (ih t (List.mem_of_getElem? ht) b' hb' (by omega) hx) ?_
      rintro _ w5 ⟨rfl, f5⟩
      refine ⟨_, rfl, ?_⟩
      rw [str_app]
      refine cat_huge (by rw [str_size, str_size, List.length_append]; omega) ?_
      refine ⟨⟨i + 1, by rw [wI (by omega) (by omega)]; omega, by omega, ?_, ?_, f4.trans f5, g4.trans f5⟩, by rw [wI (by omega) (by omega)]; omega⟩
      · rw [take_one ht, textRs_app, str_app]
        simp only [textRs]
      · rw [take_one ht, if_neg (by simp)]; rfl
    · have : i = ks.length := by omega
      subst this
      rw [List.take_length] at htl ⊢
      refine cat_huge (by rw [str_size]; show _ + 1 ≤ _; omega) ?_
      exact ⟨by rw [← str_app]; rfl, f4⟩
termination_by t => SizeOf.sizeOf t
decreasing_by exact kid_lt ht

theorem rwrite_spec (t : Tr) (b : Bool) (hn : cntR t ≤ 1000000) (hsh : shortR t) (hl : lenR t ≤ 100000000) {w : World} {S : Nat → Prop} {v : TV} (h : IsTr w S t v) (hS : ∀ k, S k → k < w.heap.size) :
    Ret Tryz.prog 58 #[tvA v, .bool b] w fun r w' => r = .tuple #[.string (str (writeR t b).1), .int .i64 (writeR t b).2] ∧ Fr none1 w w' := by
  refine c58 v b w _ ?_
  unfold C58
  refine NewK.of fun g w1 hg hb f1 _ => ?_
  have tb : TB w1 g v := hb
  refine tb.ld ?_
  have h1 := h.keep0 f1
  refine CallK.of (rcheck_spec t b hn hsh h1 (fun k hk => by have := hS k hk; have := f1.size; omega)) ?_
  rintro _ w2 ⟨rfl, f2⟩
  refine ⟨_, rfl, ?_⟩
  unfold writeR
  refine ifB.ne (fun e => ?_) (fun e => ?_)
  · rw [if_pos e]; exact ⟨rfl, f1.trans f2⟩
  rw [if_neg (fun t => t e)]
  have hf : formR t b = true := by
    unfold checkR at e
    split at e
    · exact absurd e (by decide)
    · rename_i hf; cases hq : formR t b
      · exact absurd hq hf
      · rfl
  refine (tb.keep0 f2).ld ?_
  refine CallK.of (rtext_spec t b hf hl (h1.keep0 f2)) ?_
  rintro _ w3 ⟨rfl, f3⟩
  refine ⟨_, rfl, ?_⟩
  rw [str_size]
  refine ifB.dec (fun hx => ?_) (fun hx => ?_)
  · rw [if_pos (by omega)]; exact ⟨rfl, (f1.trans f2).trans f3⟩
  · rw [if_neg (by omega)]; exact ⟨rfl, (f1.trans f2).trans f3⟩

end Go.Proofs.YtbadiokobooliaaGreatDoor

/-! ### CRef11P -/
namespace Go.Proofs.YtbadiokobooliaaGreatDoor
open Vc
set_option maxRecDepth 100000
set_option linter.unusedVariables false
/-- handfast/handfastref11.Fields -/
def C56 (p0 : Int) (w : World) (K : Value → World → Prop) : Prop :=
  ifB (p0 == 1)
  (K (.string (⟨#[]⟩ : ByteArray)) w)
  (ifB (p0 == 2)
  (K (.string (⟨#[73, 84]⟩ : ByteArray)) w)
  (ifB (p0 == 3)
  (K (.string (⟨#[78, 68, 86]⟩ : ByteArray)) w)
  (ifB (p0 == 4)
  (K (.string (⟨#[73, 76, 86]⟩ : ByteArray)) w)
  (ifB (p0 == 5)
  (K (.string (⟨#[68]⟩ : ByteArray)) w)
  (ifB (p0 == 6)
  (K (.string (⟨#[68, 67, 86]⟩ : ByteArray)) w)
  (K (.string (⟨#[63]⟩ : ByteArray)) w))))))
def pl56 : Plan := .auto
theorem e56 (p0 : Int) (w : World) (K : Value → World → Prop) : vcFunc Tryz.prog Tryz.f56 pl56 [.int .i64 p0] w K = C56 p0 w K := by kernel_rfl
theorem c56 (p0 : Int) (w : World) (K : Value → World → Prop) (h : C56 p0 w K) : Ret Tryz.prog 56 #[.int .i64 p0] w K := by
  rw [← e56] at h
  exact vcFunc_sound (by kernel_rfl) Tryz.func56 h

/-- handfast/handfastref11.has -/
def C55 (p0 : ByteArray) (p1 : Int) (w : World) (K : Value → World → Prop) : Prop :=
  LoopK (Int × Unit) (fun _ s1 w2 next3 => ifB (decide (s1.1 < (p0.size : Int)))
  (StrK p0 s1.1 (fun x4 => ifB (x4 == p1)
  (K (.bool true) w2)
  (next3 (IntKind.i64.wrap (s1.1 + 1), ()) w2)))
  (K (.bool false) w2))
  (0, ()) w
def pl55 : Plan := (.seq .auto (.seq (.seq .auto (.block (.loop [(5, .one (.int .i64))] .auto))) .auto))
theorem e55 (p0 : ByteArray) (p1 : Int) (w : World) (K : Value → World → Prop) : vcFunc Tryz.prog Tryz.f55 pl55 [.string p0, .int .u8 p1] w K = C55 p0 p1 w K := by kernel_rfl
theorem c55 (p0 : ByteArray) (p1 : Int) (w : World) (K : Value → World → Prop) (h : C55 p0 p1 w K) : Ret Tryz.prog 55 #[.string p0, .int .u8 p1] w K := by
  rw [← e55] at h
  exact vcFunc_sound (by kernel_rfl) Tryz.func55 h

/-- handfast/handfastref11.text -/
def C94 (p0 : ByteArray) (p1 : Bool) (w : World) (K : Value → World → Prop) : Prop :=
  ifB p1
  (CallK Tryz.prog 127 #[.string p0] w (.v (.one .bool)) (fun (x1 : Bool) w2 => ifB x1
  (K (.bool true) w2)
  (ifB (!p1)
  (K (.bool (p0.toList == (⟨#[]⟩ : ByteArray).toList)) w2)
  (K (.bool false) w2))))
  (ifB (!p1)
  (K (.bool (p0.toList == (⟨#[]⟩ : ByteArray).toList)) w)
  (K (.bool false) w))
def pl94 : Plan := .auto
theorem e94 (p0 : ByteArray) (p1 : Bool) (w : World) (K : Value → World → Prop) : vcFunc Tryz.prog Tryz.f94 pl94 [.string p0, .bool p1] w K = C94 p0 p1 w K := by kernel_rfl
theorem c94 (p0 : ByteArray) (p1 : Bool) (w : World) (K : Value → World → Prop) (h : C94 p0 p1 w K) : Ret Tryz.prog 94 #[.string p0, .bool p1] w K := by
  rw [← e94] at h
  exact vcFunc_sound (by kernel_rfl) Tryz.func94 h

/-- handfast/handfastref11.Check -/
def C54 (p0 : Int × ByteArray × ByteArray × ByteArray × ByteArray × Int × Int × Int × ByteArray × Int × (Option Addr × Nat × Nat) × Unit) (p1 : Bool) (w : World) (K : Value → World → Prop) : Prop :=
  NewK (.cells #[.int .i64 p0.1, .string p0.2.1, .string p0.2.2.1, .string p0.2.2.2.1, .string p0.2.2.2.2.1, .int .i64 p0.2.2.2.2.2.1, .int .i64 p0.2.2.2.2.2.2.1, .int .i64 p0.2.2.2.2.2.2.2.1, .string p0.2.2.2.2.2.2.2.2.1, .int .i64 p0.2.2.2.2.2.2.2.2.2.1, .slice p0.2.2.2.2.2.2.2.2.2.2.1.1 p0.2.2.2.2.2.2.2.2.2.2.1.2.1 p0.2.2.2.2.2.2.2.2.2.2.1.2.2] 35) w (fun g1 w2 => LdK (.int .i64) ((⟨g1, 0, none⟩ : Addr).add 0) w2 (fun (x3 : Int) => CallK Tryz.prog 56 #[.int .i64 x3] w2 (.v (.one .str)) (fun (x4 : ByteArray) w5 => DrewK w5 (fun w6 => HoldK (fun S7 => ifB (x4.toList == (⟨#[63]⟩ : ByteArray).toList)
  (K (.int .i64 1) w6)
  (InK S7 ((⟨g1, 0, none⟩ : Addr).add 1) (LdK .str ((⟨g1, 0, none⟩ : Addr).add 1) w6 (fun (x8 : ByteArray) => CallK Tryz.prog 55 #[.string x4, .int .u8 73] w6 (.v (.one .bool)) (fun (x9 : Bool) w10 => KeepK S7 w6 w10 (CallK Tryz.prog 94 #[.string x8, .bool x9] w10 (.v (.one .bool)) (fun (x11 : Bool) w12 => KeepK S7 w10 w12 (ifB (!x11)
  (K (.int .i64 1) w12)
  (InK S7 ((⟨g1, 0, none⟩ : Addr).add 2) (LdK .str ((⟨g1, 0, none⟩ : Addr).add 2) w12 (fun (x13 : ByteArray) => CallK Tryz.prog 55 #[.string x4, .int .u8 78] w12 (.v (.one .bool)) (fun (x14 : Bool) w15 => KeepK S7 w12 w15 (CallK Tryz.prog 94 #[.string x13, .bool x14] w15 (.v (.one .bool)) (fun (x16 : Bool) w17 => KeepK S7 w15 w17 (ifB (!x16)
  (K (.int .i64 1) w17)
  (InK S7 ((⟨g1, 0, none⟩ : Addr).add 3) (LdK .str ((⟨g1, 0, none⟩ : Addr).add 3) w17 (fun (x18 : ByteArray) => CallK Tryz.prog 55 #[.string x4, .int .u8 76] w17 (.v (.one .bool)) (fun (x19 : Bool) w20 => KeepK S7 w17 w20 (CallK Tryz.prog 94 #[.string x18, .bool x19] w20 (.v (.one .bool)) (fun (x21 : Bool) w22 => KeepK S7 w20 w22 (ifB (!x21)
  (K (.int .i64 1) w22)
  (InK S7 ((⟨g1, 0, none⟩ : Addr).add 4) (LdK .str ((⟨g1, 0, none⟩ : Addr).add 4) w22 (fun (x23 : ByteArray) => CallK Tryz.prog 55 #[.string x4, .int .u8 67] w22 (.v (.one .bool)) (fun (x24 : Bool) w25 => KeepK S7 w22 w25 (CallK Tryz.prog 94 #[.string x23, .bool x24] w25 (.v (.one .bool)) (fun (x26 : Bool) w27 => KeepK S7 w25 w27 (ifB (!x26)
  (K (.int .i64 1) w27)
  (JoinK (Bool × Unit) (fun J28 => CallK Tryz.prog 55 #[.string x4, .int .u8 68] w27 (.v (.one .bool)) (fun (x31 : Bool) w32 => ifB x31
  (LdK (.int .i64) ((⟨g1, 0, none⟩ : Addr).add 5) w32 (fun (x33 : Int) => ifB (decide (x33 < 0))
  (J28 (true, ()) w32)
  (LdK (.int .i64) ((⟨g1, 0, none⟩ : Addr).add 5) w32 (fun (x34 : Int) => ifB (decide (x34 > 10000))
  (J28 (true, ()) w32)
  (CallK Tryz.prog 55 #[.string x4, .int .u8 68] w32 (.v (.one .bool)) (fun (x35 : Bool) w36 => ifB (!x35)
  (LdK (.int .i64) ((⟨g1, 0, none⟩ : Addr).add 5) w36 (fun (x37 : Int) => ifB (x37 != 0)
  (J28 (true, ()) w36)
  (CallK Tryz.prog 55 #[.string x4, .int .u8 86] w36 (.v (.one .bool)) (fun (x38 : Bool) w39 => ifB x38
  (LdK (.int .i64) ((⟨g1, 0, none⟩ : Addr).add 6) w39 (fun (x40 : Int) => CallK Tryz.prog 95 #[.int .i64 x40] w39 (.v (.one .bool)) (fun (x41 : Bool) w42 => ifB (!x41)
  (J28 (true, ()) w42)
  (CallK Tryz.prog 55 #[.string x4, .int .u8 86] w42 (.v (.one .bool)) (fun (x43 : Bool) w44 => ifB (!x43)
  (LdK (.int .i64) ((⟨g1, 0, none⟩ : Addr).add 6) w44 (fun (x45 : Int) => J28 ((x45 != 0), ()) w44))
  (J28 (false, ()) w44))))))
  (CallK Tryz.prog 55 #[.string x4, .int .u8 86] w39 (.v (.one .bool)) (fun (x46 : Bool) w47 => ifB (!x46)
  (LdK (.int .i64) ((⟨g1, 0, none⟩ : Addr).add 6) w47 (fun (x48 : Int) => J28 ((x48 != 0), ()) w47))
  (J28 (false, ()) w47)))))))
  (CallK Tryz.prog 55 #[.string x4, .int .u8 86] w36 (.v (.one .bool)) (fun (x49 : Bool) w50 => ifB x49
  (LdK (.int .i64) ((⟨g1, 0, none⟩ : Addr).add 6) w50 (fun (x51 : Int) => CallK Tryz.prog 95 #[.int .i64 x51] w50 (.v (.one .bool)) (fun (x52 : Bool) w53 => ifB (!x52)
  (J28 (true, ()) w53)
  (CallK Tryz.prog 55 #[.string x4, .int .u8 86] w53 (.v (.one .bool)) (fun (x54 : Bool) w55 => ifB (!x54)
  (LdK (.int .i64) ((⟨g1, 0, none⟩ : Addr).add 6) w55 (fun (x56 : Int) => J28 ((x56 != 0), ()) w55))
  (J28 (false, ()) w55))))))
  (CallK Tryz.prog 55 #[.string x4, .int .u8 86] w50 (.v (.one .bool)) (fun (x57 : Bool) w58 => ifB (!x57)
  (LdK (.int .i64) ((⟨g1, 0, none⟩ : Addr).add 6) w58 (fun (x59 : Int) => J28 ((x59 != 0), ()) w58))
  (J28 (false, ()) w58)))))))))))
  (CallK Tryz.prog 55 #[.string x4, .int .u8 68] w32 (.v (.one .bool)) (fun (x60 : Bool) w61 => ifB (!x60)
  (LdK (.int .i64) ((⟨g1, 0, none⟩ : Addr).add 5) w61 (fun (x62 : Int) => ifB (x62 != 0)
  (J28 (true, ()) w61)
  (CallK Tryz.prog 55 #[.string x4, .int .u8 86] w61 (.v (.one .bool)) (fun (x63 : Bool) w64 => ifB x63
  (LdK (.int .i64) ((⟨g1, 0, none⟩ : Addr).add 6) w64 (fun (x65 : Int) => CallK Tryz.prog 95 #[.int .i64 x65] w64 (.v (.one .bool)) (fun (x66 : Bool) w67 => ifB (!x66)
  (J28 (true, ()) w67)
  (CallK Tryz.prog 55 #[.string x4, .int .u8 86] w67 (.v (.one .bool)) (fun (x68 : Bool) w69 => ifB (!x68)
  (LdK (.int .i64) ((⟨g1, 0, none⟩ : Addr).add 6) w69 (fun (x70 : Int) => J28 ((x70 != 0), ()) w69))
  (J28 (false, ()) w69))))))
  (CallK Tryz.prog 55 #[.string x4, .int .u8 86] w64 (.v (.one .bool)) (fun (x71 : Bool) w72 => ifB (!x71)
  (LdK (.int .i64) ((⟨g1, 0, none⟩ : Addr).add 6) w72 (fun (x73 : Int) => J28 ((x73 != 0), ()) w72))
  (J28 (false, ()) w72)))))))
  (CallK Tryz.prog 55 #[.string x4, .int .u8 86] w61 (.v (.one .bool)) (fun (x74 : Bool) w75 => ifB x74
  (LdK (.int .i64) ((⟨g1, 0, none⟩ : Addr).add 6) w75 (fun (x76 : Int) => CallK Tryz.prog 95 #[.int .i64 x76] w75 (.v (.one .bool)) (fun (x77 : Bool) w78 => ifB (!x77)
  (J28 (true, ()) w78)
  (CallK Tryz.prog 55 #[.string x4, .int .u8 86] w78 (.v (.one .bool)) (fun (x79 : Bool) w80 => ifB (!x79)
  (LdK (.int .i64) ((⟨g1, 0, none⟩ : Addr).add 6) w80 (fun (x81 : Int) => J28 ((x81 != 0), ()) w80))
  (J28 (false, ()) w80))))))
  (CallK Tryz.prog 55 #[.string x4, .int .u8 86] w75 (.v (.one .bool)) (fun (x82 : Bool) w83 => ifB (!x82)
  (LdK (.int .i64) ((⟨g1, 0, none⟩ : Addr).add 6) w83 (fun (x84 : Int) => J28 ((x84 != 0), ()) w83))
  (J28 (false, ()) w83)))))))))
  (fun _ s29 w30 => ifB s29.1
  (K (.int .i64 1) w30)
  (JoinK (Bool × Unit) (fun J85 => CallK Tryz.prog 55 #[.string x4, .int .u8 84] w30 (.v (.one .bool)) (fun (x88 : Bool) w89 => ifB (!x88)
  (LdK (.int .i64) (((⟨g1, 0, none⟩ : Addr).add 7).add 0) w89 (fun (x90 : Int) => ifB (x90 != 0)
  (J85 (true, ()) w89)
  (ifB p1
  (J85 (true, ()) w89)
  (LdK (.int .i64) ((⟨g1, 0, none⟩ : Addr).add 0) w89 (fun (x91 : Int) => ifB (x91 == 4)
  (LdK (.int .i64) ((⟨g1, 0, none⟩ : Addr).add 6) w89 (fun (x92 : Int) => ifB (decide (x92 < 0))
  (J85 (true, ()) w89)
  (LdK (.int .i64) ((⟨g1, 0, none⟩ : Addr).add 6) w89 (fun (x93 : Int) => J85 (decide (x93 > 1), ()) w89))))
  (J85 (false, ()) w89))))))
  (LdK (.int .i64) ((⟨g1, 0, none⟩ : Addr).add 0) w89 (fun (x94 : Int) => ifB (x94 == 4)
  (LdK (.int .i64) ((⟨g1, 0, none⟩ : Addr).add 6) w89 (fun (x95 : Int) => ifB (decide (x95 < 0))
  (J85 (true, ()) w89)
  (LdK (.int .i64) ((⟨g1, 0, none⟩ : Addr).add 6) w89 (fun (x96 : Int) => J85 (decide (x96 > 1), ()) w89))))
  (J85 (false, ()) w89)))))
  (fun _ s86 w87 => ifB s86.1
  (K (.int .i64 1) w87)
  (LdK (.int .i64) ((⟨g1, 0, none⟩ : Addr).add 0) w87 (fun (x97 : Int) => ifB (x97 == 2)
  (LdsK [.int .i64, .str, .int .i64, .slc] ((⟨g1, 0, none⟩ : Addr).add 7) w87 (fun (x98 : Int × ByteArray × Int × (Option Addr × Nat × Nat) × Unit) => CallK Tryz.prog 58 #[.agg #[.int .i64 x98.1, .string x98.2.1, .int .i64 x98.2.2.1, .slice x98.2.2.2.1.1 x98.2.2.2.1.2.1 x98.2.2.2.1.2.2], .bool false] w87 (.tup [.one .str, .one (.int .i64)]) (fun (x99 : ByteArray × Int × Unit) w100 => K (.int .i64 x99.2.1) w100)))
  (K (.int .i64 0) w87))))))))))))))))))))))))))))))))))))))))
def pl54 : Plan := (.seq .auto (.seq .auto (.seq (.seq (.held (.soft 0 (.soft 1 (.soft 2 (.soft 3 (.soft 4 (.soft 5 (.pick 6 (.pick 7 (.soft 8 (.soft 9 (.soft 10 (.soft 11 (.soft 12 (.soft 13 (.pick 14 (.pick 15 (.soft 16 (.soft 17 (.soft 18 (.soft 19 (.soft 20 (.soft 21 (.pick 22 (.pick 23 (.soft 24 (.soft 25 (.soft 26 (.soft 27 (.soft 28 (.soft 29 (.pick 30 (.pick 31 (.soft 32 (.soft 33 .done)) .stop) .stop))))))) .stop) .stop))))))) .stop) .stop))))))) .stop) .stop)))))))) .auto) (.seq (.join [(86, .one .bool)] .auto .auto) (.seq (.join [(113, .one .bool)] .auto .auto) .auto)))))
theorem e54 (p0 : Int × ByteArray × ByteArray × ByteArray × ByteArray × Int × Int × Int × ByteArray × Int × (Option Addr × Nat × Nat) × Unit) (p1 : Bool) (w : World) (K : Value → World → Prop) : vcFunc Tryz.prog Tryz.f54 pl54 [.agg #[.int .i64 p0.1, .string p0.2.1, .string p0.2.2.1, .string p0.2.2.2.1, .string p0.2.2.2.2.1, .int .i64 p0.2.2.2.2.2.1, .int .i64 p0.2.2.2.2.2.2.1, .int .i64 p0.2.2.2.2.2.2.2.1, .string p0.2.2.2.2.2.2.2.2.1, .int .i64 p0.2.2.2.2.2.2.2.2.2.1, .slice p0.2.2.2.2.2.2.2.2.2.2.1.1 p0.2.2.2.2.2.2.2.2.2.2.1.2.1 p0.2.2.2.2.2.2.2.2.2.2.1.2.2], .bool p1] w K = C54 p0 p1 w K := by kernel_rfl
theorem c54 (p0 : Int × ByteArray × ByteArray × ByteArray × ByteArray × Int × Int × Int × ByteArray × Int × (Option Addr × Nat × Nat) × Unit) (p1 : Bool) (w : World) (K : Value → World → Prop) (h : C54 p0 p1 w K) : Ret Tryz.prog 54 #[.agg #[.int .i64 p0.1, .string p0.2.1, .string p0.2.2.1, .string p0.2.2.2.1, .string p0.2.2.2.2.1, .int .i64 p0.2.2.2.2.2.1, .int .i64 p0.2.2.2.2.2.2.1, .int .i64 p0.2.2.2.2.2.2.2.1, .string p0.2.2.2.2.2.2.2.2.1, .int .i64 p0.2.2.2.2.2.2.2.2.2.1, .slice p0.2.2.2.2.2.2.2.2.2.2.1.1 p0.2.2.2.2.2.2.2.2.2.2.1.2.1 p0.2.2.2.2.2.2.2.2.2.2.1.2.2], .bool p1] w K := by
  rw [← e54] at h
  exact vcFunc_sound (by kernel_rfl) Tryz.func54 h

/-- handfast/handfastref11.Number -/
def C20 (p0 : Int) (w : World) (K : Value → World → Prop) : Prop :=
  LoopK ((Option Addr × Nat × Nat) × Int × Unit) (fun _ s1 w2 next3 => ifB (decide (s1.2.1 ≥ 0))
  (NnK (IntKind.u64.wrap (IntKind.i64.wrap (8 * s1.2.1))) (RunK Tryz.prog (Instr.buildSlice 38 1 #[(0, .int .u8 (IntKind.u8.wrap (Int.fdiv (IntKind.u64.wrap p0) (2 ^ (min (Int.toNat (IntKind.u64.wrap (IntKind.i64.wrap (8 * s1.2.1)))) 64)))))]) w2 (.v (.one .slc)) (fun (x4 : Option Addr × Nat × Nat) w5 => RunK Tryz.prog (Builtin.append_ #[38, 38] 38 #[.slice s1.1.1 s1.1.2.1 s1.1.2.2, .slice x4.1 x4.2.1 x4.2.2]) w5 (.v (.one .slc)) (fun (x6 : Option Addr × Nat × Nat) w7 => next3 ((x6.1, x6.2.1, x6.2.2), IntKind.i64.wrap (s1.2.1 - 1), ()) w7))))
  (K (.slice s1.1.1 s1.1.2.1 s1.1.2.2) w2))
  ((none, 0, 0), 7, ()) w
def pl20 : Plan := (.seq .auto (.seq .auto (.seq (.seq .auto (.block (.loop [(3, .one .slc), (4, .one (.int .i64))] .auto))) .auto)))
theorem e20 (p0 : Int) (w : World) (K : Value → World → Prop) : vcFunc Tryz.prog Tryz.f20 pl20 [.int .i64 p0] w K = C20 p0 w K := by kernel_rfl
theorem c20 (p0 : Int) (w : World) (K : Value → World → Prop) (h : C20 p0 w K) : Ret Tryz.prog 20 #[.int .i64 p0] w K := by
  rw [← e20] at h
  exact vcFunc_sound (by kernel_rfl) Tryz.func20 h

/-- handfast/handfastref11.row -/
def C57 (p0 : ByteArray) (w : World) (K : Value → World → Prop) : Prop :=
  RunK Tryz.prog (Instr.buildSlice 38 1 #[(0, .int .u8 (IntKind.u8.wrap (p0.size : Int)))]) w (.v (.one .slc)) (fun (x1 : Option Addr × Nat × Nat) w2 => RunK Tryz.prog (Builtin.append_ #[38, 9] 38 #[.slice x1.1 x1.2.1 x1.2.2, .string p0]) w2 (.v (.one .slc)) (fun (x3 : Option Addr × Nat × Nat) w4 => K (.slice x3.1 x3.2.1 x3.2.2) w4))
def pl57 : Plan := .auto
theorem e57 (p0 : ByteArray) (w : World) (K : Value → World → Prop) : vcFunc Tryz.prog Tryz.f57 pl57 [.string p0] w K = C57 p0 w K := by kernel_rfl
theorem c57 (p0 : ByteArray) (w : World) (K : Value → World → Prop) (h : C57 p0 w K) : Ret Tryz.prog 57 #[.string p0] w K := by
  rw [← e57] at h
  exact vcFunc_sound (by kernel_rfl) Tryz.func57 h

/-- handfast/handfastref11.Pack -/
def C13 (p0 : Int × ByteArray × ByteArray × ByteArray × ByteArray × Int × Int × Int × ByteArray × Int × (Option Addr × Nat × Nat) × Unit) (w : World) (K : Value → World → Prop) : Prop :=
  NewK (.cells #[.int .i64 p0.1, .string p0.2.1, .string p0.2.2.1, .string p0.2.2.2.1, .string p0.2.2.2.2.1, .int .i64 p0.2.2.2.2.2.1, .int .i64 p0.2.2.2.2.2.2.1, .int .i64 p0.2.2.2.2.2.2.2.1, .string p0.2.2.2.2.2.2.2.2.1, .int .i64 p0.2.2.2.2.2.2.2.2.2.1, .slice p0.2.2.2.2.2.2.2.2.2.2.1.1 p0.2.2.2.2.2.2.2.2.2.2.1.2.1 p0.2.2.2.2.2.2.2.2.2.2.1.2.2] 35) w (fun g1 w2 => LdsK [.int .i64, .str, .str, .str, .str, .int .i64, .int .i64, .int .i64, .str, .int .i64, .slc] (⟨g1, 0, none⟩ : Addr) w2 (fun (x3 : Int × ByteArray × ByteArray × ByteArray × ByteArray × Int × Int × Int × ByteArray × Int × (Option Addr × Nat × Nat) × Unit) => CallK Tryz.prog 54 #[.agg #[.int .i64 x3.1, .string x3.2.1, .string x3.2.2.1, .string x3.2.2.2.1, .string x3.2.2.2.2.1, .int .i64 x3.2.2.2.2.2.1, .int .i64 x3.2.2.2.2.2.2.1, .int .i64 x3.2.2.2.2.2.2.2.1, .string x3.2.2.2.2.2.2.2.2.1, .int .i64 x3.2.2.2.2.2.2.2.2.2.1, .slice x3.2.2.2.2.2.2.2.2.2.2.1.1 x3.2.2.2.2.2.2.2.2.2.2.1.2.1 x3.2.2.2.2.2.2.2.2.2.2.1.2.2], .bool false] w2 (.v (.one (.int .i64))) (fun (x4 : Int) w5 => ifB (x4 != 0)
  (K (.tuple #[.slice none 0 0, .int .i64 x4]) w5)
  (LdK (.int .i64) ((⟨g1, 0, none⟩ : Addr).add 0) w5 (fun (x6 : Int) => RunK Tryz.prog (Instr.buildSlice 38 1 #[(0, .int .u8 (IntKind.u8.wrap x6))]) w5 (.v (.one .slc)) (fun (x7 : Option Addr × Nat × Nat) w8 => RunK Tryz.prog (Instr.buildSlice 38 7 #[(0, .int .u8 73), (1, .int .u8 78), (2, .int .u8 76), (3, .int .u8 67), (4, .int .u8 68), (5, .int .u8 86), (6, .int .u8 84)]) w8 (.v (.one .slc)) (fun (x9 : Option Addr × Nat × Nat) w10 => RunK Tryz.prog (convert 38 38 (.slice x9.1 x9.2.1 x9.2.2)) w10 (.v (.one .slc)) (fun (x11 : Option Addr × Nat × Nat) w12 => LoopK ((Option Addr × Nat × Nat) × Int × Unit) (fun _ s13 w14 next15 => ifB (decide (s13.2.1 < (x11.2.1 : Int)))
  (IdxK x11.1 x11.2.1 s13.2.1 1 (fun a16 => LdK (.int .u8) a16 w14 (fun (x17 : Int) => LdK (.int .i64) ((⟨g1, 0, none⟩ : Addr).add 0) w14 (fun (x18 : Int) => CallK Tryz.prog 56 #[.int .i64 x18] w14 (.v (.one .str)) (fun (x19 : ByteArray) w20 => CallK Tryz.prog 55 #[.string x19, .int .u8 x17] w20 (.v (.one .bool)) (fun (x21 : Bool) w22 => ifB (!x21)
  (next15 ((s13.1.1, s13.1.2.1, s13.1.2.2), IntKind.i64.wrap (s13.2.1 + 1), ()) w22)
  (ifB (x17 == 73)
  (LdK .str ((⟨g1, 0, none⟩ : Addr).add 1) w22 (fun (x23 : ByteArray) => CallK Tryz.prog 57 #[.string x23] w22 (.v (.one .slc)) (fun (x24 : Option Addr × Nat × Nat) w25 => RunK Tryz.prog (Builtin.append_ #[38, 38] 38 #[.slice s13.1.1 s13.1.2.1 s13.1.2.2, .slice x24.1 x24.2.1 x24.2.2]) w25 (.v (.one .slc)) (fun (x26 : Option Addr × Nat × Nat) w27 => next15 ((x26.1, x26.2.1, x26.2.2), IntKind.i64.wrap (s13.2.1 + 1), ()) w27))))
  (ifB (x17 == 78)
  (LdK .str ((⟨g1, 0, none⟩ : Addr).add 2) w22 (fun (x28 : ByteArray) => CallK Tryz.prog 57 #[.string x28] w22 (.v (.one .slc)) (fun (x29 : Option Addr × Nat × Nat) w30 => RunK Tryz.prog (Builtin.append_ #[38, 38] 38 #[.slice s13.1.1 s13.1.2.1 s13.1.2.2, .slice x29.1 x29.2.1 x29.2.2]) w30 (.v (.one .slc)) (fun (x31 : Option Addr × Nat × Nat) w32 => next15 ((x31.1, x31.2.1, x31.2.2), IntKind.i64.wrap (s13.2.1 + 1), ()) w32))))
  (ifB (x17 == 76)
  (LdK .str ((⟨g1, 0, none⟩ : Addr).add 3) w22 (fun (x33 : ByteArray) => CallK Tryz.prog 57 #[.string x33] w22 (.v (.one .slc)) (fun (x34 : Option Addr × Nat × Nat) w35 => RunK Tryz.prog (Builtin.append_ #[38, 38] 38 #[.slice s13.1.1 s13.1.2.1 s13.1.2.2, .slice x34.1 x34.2.1 x34.2.2]) w35 (.v (.one .slc)) (fun (x36 : Option Addr × Nat × Nat) w37 => next15 ((x36.1, x36.2.1, x36.2.2), IntKind.i64.wrap (s13.2.1 + 1), ()) w37))))
  (ifB (x17 == 67)
  (LdK .str ((⟨g1, 0, none⟩ : Addr).add 4) w22 (fun (x38 : ByteArray) => CallK Tryz.prog 57 #[.string x38] w22 (.v (.one .slc)) (fun (x39 : Option Addr × Nat × Nat) w40 => RunK Tryz.prog (Builtin.append_ #[38, 38] 38 #[.slice s13.1.1 s13.1.2.1 s13.1.2.2, .slice x39.1 x39.2.1 x39.2.2]) w40 (.v (.one .slc)) (fun (x41 : Option Addr × Nat × Nat) w42 => next15 ((x41.1, x41.2.1, x41.2.2), IntKind.i64.wrap (s13.2.1 + 1), ()) w42))))
  (ifB (x17 == 68)
  (LdK (.int .i64) ((⟨g1, 0, none⟩ : Addr).add 5) w22 (fun (x43 : Int) => CallK Tryz.prog 20 #[.int .i64 x43] w22 (.v (.one .slc)) (fun (x44 : Option Addr × Nat × Nat) w45 => RunK Tryz.prog (Builtin.append_ #[38, 38] 38 #[.slice s13.1.1 s13.1.2.1 s13.1.2.2, .slice x44.1 x44.2.1 x44.2.2]) w45 (.v (.one .slc)) (fun (x46 : Option Addr × Nat × Nat) w47 => next15 ((x46.1, x46.2.1, x46.2.2), IntKind.i64.wrap (s13.2.1 + 1), ()) w47))))
  (ifB (x17 == 86)
  (LdK (.int .i64) ((⟨g1, 0, none⟩ : Addr).add 6) w22 (fun (x48 : Int) => CallK Tryz.prog 20 #[.int .i64 x48] w22 (.v (.one .slc)) (fun (x49 : Option Addr × Nat × Nat) w50 => RunK Tryz.prog (Builtin.append_ #[38, 38] 38 #[.slice s13.1.1 s13.1.2.1 s13.1.2.2, .slice x49.1 x49.2.1 x49.2.2]) w50 (.v (.one .slc)) (fun (x51 : Option Addr × Nat × Nat) w52 => next15 ((x51.1, x51.2.1, x51.2.2), IntKind.i64.wrap (s13.2.1 + 1), ()) w52))))
  (LdsK [.int .i64, .str, .int .i64, .slc] ((⟨g1, 0, none⟩ : Addr).add 7) w22 (fun (x53 : Int × ByteArray × Int × (Option Addr × Nat × Nat) × Unit) => CallK Tryz.prog 58 #[.agg #[.int .i64 x53.1, .string x53.2.1, .int .i64 x53.2.2.1, .slice x53.2.2.2.1.1 x53.2.2.2.1.2.1 x53.2.2.2.1.2.2], .bool false] w22 (.tup [.one .str, .one (.int .i64)]) (fun (x54 : ByteArray × Int × Unit) w55 => ifB (x54.2.1 != 0)
  (K (.tuple #[.slice none 0 0, .int .i64 x54.2.1]) w55)
  (NnK 8 (RunK Tryz.prog (Instr.buildSlice 38 2 #[(0, .int .u8 (IntKind.u8.wrap (Int.fdiv (x54.1.size : Int) (2 ^ (min (Int.toNat 8) 64))))), (1, .int .u8 (IntKind.u8.wrap (x54.1.size : Int)))]) w55 (.v (.one .slc)) (fun (x56 : Option Addr × Nat × Nat) w57 => RunK Tryz.prog (Builtin.append_ #[38, 38] 38 #[.slice s13.1.1 s13.1.2.1 s13.1.2.2, .slice x56.1 x56.2.1 x56.2.2]) w57 (.v (.one .slc)) (fun (x58 : Option Addr × Nat × Nat) w59 => RunK Tryz.prog (Builtin.append_ #[38, 9] 38 #[.slice x58.1 x58.2.1 x58.2.2, .string x54.1]) w59 (.v (.one .slc)) (fun (x60 : Option Addr × Nat × Nat) w61 => next15 ((x60.1, x60.2.1, x60.2.2), IntKind.i64.wrap (s13.2.1 + 1), ()) w61))))))))))))))))))))
  (K (.tuple #[.slice s13.1.1 s13.1.2.1 s13.1.2.2, .int .i64 0]) w14))
  ((x7.1, x7.2.1, x7.2.2), 0, ()) w12))))))))
def pl13 : Plan := (.seq .auto (.seq .auto (.seq .auto (.seq (.seq .auto (.block (.loop [(5, .one .slc), (22, .one (.int .i64))] .auto))) .auto))))
theorem e13 (p0 : Int × ByteArray × ByteArray × ByteArray × ByteArray × Int × Int × Int × ByteArray × Int × (Option Addr × Nat × Nat) × Unit) (w : World) (K : Value → World → Prop) : vcFunc Tryz.prog Tryz.f13 pl13 [.agg #[.int .i64 p0.1, .string p0.2.1, .string p0.2.2.1, .string p0.2.2.2.1, .string p0.2.2.2.2.1, .int .i64 p0.2.2.2.2.2.1, .int .i64 p0.2.2.2.2.2.2.1, .int .i64 p0.2.2.2.2.2.2.2.1, .string p0.2.2.2.2.2.2.2.2.1, .int .i64 p0.2.2.2.2.2.2.2.2.2.1, .slice p0.2.2.2.2.2.2.2.2.2.2.1.1 p0.2.2.2.2.2.2.2.2.2.2.1.2.1 p0.2.2.2.2.2.2.2.2.2.2.1.2.2]] w K = C13 p0 w K := by kernel_rfl
theorem c13 (p0 : Int × ByteArray × ByteArray × ByteArray × ByteArray × Int × Int × Int × ByteArray × Int × (Option Addr × Nat × Nat) × Unit) (w : World) (K : Value → World → Prop) (h : C13 p0 w K) : Ret Tryz.prog 13 #[.agg #[.int .i64 p0.1, .string p0.2.1, .string p0.2.2.1, .string p0.2.2.2.1, .string p0.2.2.2.2.1, .int .i64 p0.2.2.2.2.2.1, .int .i64 p0.2.2.2.2.2.2.1, .int .i64 p0.2.2.2.2.2.2.2.1, .string p0.2.2.2.2.2.2.2.2.1, .int .i64 p0.2.2.2.2.2.2.2.2.2.1, .slice p0.2.2.2.2.2.2.2.2.2.2.1.1 p0.2.2.2.2.2.2.2.2.2.2.1.2.1 p0.2.2.2.2.2.2.2.2.2.2.1.2.2]] w K := by
  rw [← e13] at h
  exact vcFunc_sound (by kernel_rfl) Tryz.func13 h

/-- handfast/handfastref11.PackEntry -/
def C15 (p0 : Int × ByteArray × ByteArray × ByteArray × ByteArray × Int × Int × Int × ByteArray × Int × (Option Addr × Nat × Nat) × Bool × Unit) (w : World) (K : Value → World → Prop) : Prop :=
  NewK (.cells #[.int .i64 p0.1, .string p0.2.1, .string p0.2.2.1, .string p0.2.2.2.1, .string p0.2.2.2.2.1, .int .i64 p0.2.2.2.2.2.1, .int .i64 p0.2.2.2.2.2.2.1, .int .i64 p0.2.2.2.2.2.2.2.1, .string p0.2.2.2.2.2.2.2.2.1, .int .i64 p0.2.2.2.2.2.2.2.2.2.1, .slice p0.2.2.2.2.2.2.2.2.2.2.1.1 p0.2.2.2.2.2.2.2.2.2.2.1.2.1 p0.2.2.2.2.2.2.2.2.2.2.1.2.2, .bool p0.2.2.2.2.2.2.2.2.2.2.2.1] 48) w (fun g1 w2 => LdsK [.int .i64, .str, .str, .str, .str, .int .i64, .int .i64, .int .i64, .str, .int .i64, .slc] ((⟨g1, 0, none⟩ : Addr).add 0) w2 (fun (x3 : Int × ByteArray × ByteArray × ByteArray × ByteArray × Int × Int × Int × ByteArray × Int × (Option Addr × Nat × Nat) × Unit) => CallK Tryz.prog 13 #[.agg #[.int .i64 x3.1, .string x3.2.1, .string x3.2.2.1, .string x3.2.2.2.1, .string x3.2.2.2.2.1, .int .i64 x3.2.2.2.2.2.1, .int .i64 x3.2.2.2.2.2.2.1, .int .i64 x3.2.2.2.2.2.2.2.1, .string x3.2.2.2.2.2.2.2.2.1, .int .i64 x3.2.2.2.2.2.2.2.2.2.1, .slice x3.2.2.2.2.2.2.2.2.2.2.1.1 x3.2.2.2.2.2.2.2.2.2.2.1.2.1 x3.2.2.2.2.2.2.2.2.2.2.1.2.2]] w2 (.tup [.one .slc, .one (.int .i64)]) (fun (x4 : (Option Addr × Nat × Nat) × Int × Unit) w5 => ifB (x4.2.1 != 0)
  (K (.tuple #[.slice none 0 0, .int .i64 x4.2.1]) w5)
  (LdK .bool ((⟨g1, 0, none⟩ : Addr).add 11) w5 (fun (x6 : Bool) => ifB x6
  (RunK Tryz.prog (Instr.buildSlice 38 1 #[(0, .int .u8 1)]) w5 (.v (.one .slc)) (fun (x7 : Option Addr × Nat × Nat) w8 => RunK Tryz.prog (Builtin.append_ #[38, 38] 38 #[.slice x7.1 x7.2.1 x7.2.2, .slice x4.1.1 x4.1.2.1 x4.1.2.2]) w8 (.v (.one .slc)) (fun (x9 : Option Addr × Nat × Nat) w10 => K (.tuple #[.slice x9.1 x9.2.1 x9.2.2, .int .i64 0]) w10)))
  (RunK Tryz.prog (Instr.buildSlice 38 1 #[(0, .int .u8 0)]) w5 (.v (.one .slc)) (fun (x11 : Option Addr × Nat × Nat) w12 => RunK Tryz.prog (Builtin.append_ #[38, 38] 38 #[.slice x11.1 x11.2.1 x11.2.2, .slice x4.1.1 x4.1.2.1 x4.1.2.2]) w12 (.v (.one .slc)) (fun (x13 : Option Addr × Nat × Nat) w14 => K (.tuple #[.slice x13.1 x13.2.1 x13.2.2, .int .i64 0]) w14))))))))
def pl15 : Plan := .auto
theorem e15 (p0 : Int × ByteArray × ByteArray × ByteArray × ByteArray × Int × Int × Int × ByteArray × Int × (Option Addr × Nat × Nat) × Bool × Unit) (w : World) (K : Value → World → Prop) : vcFunc Tryz.prog Tryz.f15 pl15 [.agg #[.int .i64 p0.1, .string p0.2.1, .string p0.2.2.1, .string p0.2.2.2.1, .string p0.2.2.2.2.1, .int .i64 p0.2.2.2.2.2.1, .int .i64 p0.2.2.2.2.2.2.1, .int .i64 p0.2.2.2.2.2.2.2.1, .string p0.2.2.2.2.2.2.2.2.1, .int .i64 p0.2.2.2.2.2.2.2.2.2.1, .slice p0.2.2.2.2.2.2.2.2.2.2.1.1 p0.2.2.2.2.2.2.2.2.2.2.1.2.1 p0.2.2.2.2.2.2.2.2.2.2.1.2.2, .bool p0.2.2.2.2.2.2.2.2.2.2.2.1]] w K = C15 p0 w K := by kernel_rfl
theorem c15 (p0 : Int × ByteArray × ByteArray × ByteArray × ByteArray × Int × Int × Int × ByteArray × Int × (Option Addr × Nat × Nat) × Bool × Unit) (w : World) (K : Value → World → Prop) (h : C15 p0 w K) : Ret Tryz.prog 15 #[.agg #[.int .i64 p0.1, .string p0.2.1, .string p0.2.2.1, .string p0.2.2.2.1, .string p0.2.2.2.2.1, .int .i64 p0.2.2.2.2.2.1, .int .i64 p0.2.2.2.2.2.2.1, .int .i64 p0.2.2.2.2.2.2.2.1, .string p0.2.2.2.2.2.2.2.2.1, .int .i64 p0.2.2.2.2.2.2.2.2.2.1, .slice p0.2.2.2.2.2.2.2.2.2.2.1.1 p0.2.2.2.2.2.2.2.2.2.2.1.2.1 p0.2.2.2.2.2.2.2.2.2.2.1.2.2, .bool p0.2.2.2.2.2.2.2.2.2.2.2.1]] w K := by
  rw [← e15] at h
  exact vcFunc_sound (by kernel_rfl) Tryz.func15 h

end Go.Proofs.YtbadiokobooliaaGreatDoor

/-! ### RefEv -/
set_option linter.unusedVariables false
set_option maxRecDepth 100000
namespace Go.Proofs.YtbadiokobooliaaGreatDoor
open Vc

abbrev EvR := Int × ByteArray × ByteArray × ByteArray × ByteArray × Int × Int × Int × ByteArray × Int × (Option Addr × Nat × Nat) × Unit
def evR (e : EvT) (v : TV) : EvR := (e.1, e.2.1, e.2.2.1, e.2.2.2.1, e.2.2.2.2.1, e.2.2.2.2.2.1, e.2.2.2.2.2.2.1, v.1, v.2.1, v.2.2.1, v.2.2.2.1, ())
def evRL (x : EvR) : List Value := [.int .i64 x.1, .string x.2.1, .string x.2.2.1, .string x.2.2.2.1, .string x.2.2.2.2.1, .int .i64 x.2.2.2.2.2.1, .int .i64 x.2.2.2.2.2.2.1, .int .i64 x.2.2.2.2.2.2.2.1, .string x.2.2.2.2.2.2.2.2.1, .int .i64 x.2.2.2.2.2.2.2.2.2.1, .slice x.2.2.2.2.2.2.2.2.2.2.1.1 x.2.2.2.2.2.2.2.2.2.2.1.2.1 x.2.2.2.2.2.2.2.2.2.2.1.2.2]
def evRA (x : EvR) : Value := .agg #[.int .i64 x.1, .string x.2.1, .string x.2.2.1, .string x.2.2.2.1, .string x.2.2.2.2.1, .int .i64 x.2.2.2.2.2.1, .int .i64 x.2.2.2.2.2.2.1, .int .i64 x.2.2.2.2.2.2.2.1, .string x.2.2.2.2.2.2.2.2.1, .int .i64 x.2.2.2.2.2.2.2.2.2.1, .slice x.2.2.2.2.2.2.2.2.2.2.1.1 x.2.2.2.2.2.2.2.2.2.2.1.2.1 x.2.2.2.2.2.2.2.2.2.2.1.2.2]

/-! ### Plain -/
def textF (s : ByteArray) (named : Bool) : Bool := if named = true then nameB s else emptyB s
def badN (e : EvT) : Bool := (hasF e.1 68 && (decide (e.2.2.2.2.2.1 < 0) || decide (e.2.2.2.2.2.1 > 10000))) || ((!hasF e.1 68 && (e.2.2.2.2.2.1 != 0)) || ((hasF e.1 86 && !validF e.2.2.2.2.2.2.1) || (!hasF e.1 86 && (e.2.2.2.2.2.2.1 != 0))))
def badT (e : EvT) : Bool := (!hasF e.1 84 && !nilT e.2.2.2.2.2.2.2.1) || ((e.1 == 4) && (decide (e.2.2.2.2.2.2.1 < 0) || decide (e.2.2.2.2.2.2.1 > 1)))
theorem text_two (s : ByteArray) (h : Bool) : ((emptyB s || h) && (!h || nameB s)) = textF s h := by
  cases h <;> simp [textF]
theorem checkF_one {e : EvT} (tr : Int) (h : onlyF e = false ∨ namedF e = false ∨ e.2.2.2.2.2.1 < 0 ∨ e.2.2.2.2.2.1 > 10000 ∨ validF e.2.2.2.2.2.2.1 = false ∨ (e.1 = 4 ∧ e.2.2.2.2.2.2.1 ≠ 0 ∧ e.2.2.2.2.2.2.1 ≠ 1)) : checkF e tr = 1 := by
  unfold checkF
  by_cases c0 : fieldsF e.1 = [63]
  · rw [if_pos c0]
  rw [if_neg c0]
  by_cases c1 : onlyF e = false
  · rw [if_pos c1]
  rw [if_neg c1]
  by_cases c2 : namedF e = false
  · rw [if_pos c2]
  rw [if_neg c2]
  by_cases c3 : e.2.2.2.2.2.1 < 0
  · rw [if_pos c3]
  rw [if_neg c3]
  by_cases c4 : e.2.2.2.2.2.1 > 10000
  · rw [if_pos c4]
  rw [if_neg c4]
  by_cases c5 : validF e.2.2.2.2.2.2.1 = false
  · rw [if_pos c5]
  rw [if_neg c5]
  by_cases c6 : e.1 = 4 ∧ e.2.2.2.2.2.2.1 ≠ 0 ∧ e.2.2.2.2.2.2.1 ≠ 1
  · rw [if_pos c6]
  · exfalso
    rcases h with h | h | h | h | h | h
    · exact c1 h
    · exact c2 h
    · exact c3 h
    · exact c4 h
    · exact c5 h
    · exact c6 h
theorem text_bad {s : ByteArray} {h : Bool} (t : textF s h = false) : (emptyB s || h) = false ∨ (!h || nameB s) = false := by
  rw [← text_two] at t
  cases hx : (emptyB s || h)
  · exact .inl rfl
  · rw [hx, Bool.true_and] at t; exact .inr t
theorem text_good {s : ByteArray} {h : Bool} (t : textF s h = true) : (emptyB s || h) = true ∧ (!h || nameB s) = true := by
  rw [← text_two, Bool.and_eq_true] at t; exact t

theorem only_no {e : EvT} (h : (emptyB e.2.1 || hasF e.1 73) = false ∨ (emptyB e.2.2.1 || hasF e.1 78) = false ∨ (emptyB e.2.2.2.1 || hasF e.1 76) = false ∨ (emptyB e.2.2.2.2.1 || hasF e.1 67) = false ∨ (e.2.2.2.2.2.1 == 0 || hasF e.1 68) = false ∨ (e.2.2.2.2.2.2.1 == 0 || hasF e.1 86) = false ∨ (nilT e.2.2.2.2.2.2.2.1 || hasF e.1 84) = false) : onlyF e = false := by
  unfold onlyF
  rcases h with h | h | h | h | h | h | h <;> simp [h]
theorem named_no {e : EvT} (h : (!hasF e.1 73 || nameB e.2.1) = false ∨ (!hasF e.1 78 || nameB e.2.2.1) = false ∨ (!hasF e.1 76 || nameB e.2.2.2.1) = false ∨ (!hasF e.1 67 || nameB e.2.2.2.2.1) = false) : namedF e = false := by
  unfold namedF
  rcases h with h | h | h | h <;> simp [h]
theorem badN_one {e : EvT} (h : badN e = true) (tr : Int) : checkF e tr = 1 := by
  unfold badN at h
  simp only [Bool.or_eq_true, Bool.and_eq_true, decide_eq_true_eq, Bool.not_eq_true', bne_iff_ne] at h
  refine checkF_one tr ?_
  rcases h with ⟨_, h | h⟩ | ⟨h1, h2⟩ | ⟨_, h⟩ | ⟨h1, h2⟩
  · exact .inr (.inr (.inl h))
  · exact .inr (.inr (.inr (.inl h)))
  · exact .inl (only_no (.inr (.inr (.inr (.inr (.inl (by rw [h1, beq_false_of_ne h2]; rfl)))))))
  · exact .inr (.inr (.inr (.inr (.inl h))))
  · exact .inl (only_no (.inr (.inr (.inr (.inr (.inr (.inl (by rw [h1, beq_false_of_ne h2]; rfl))))))))
theorem badT_one {e : EvT} (h : badT e = true) (tr : Int) : checkF e tr = 1 := by
  unfold badT at h
  simp only [Bool.or_eq_true, Bool.and_eq_true, decide_eq_true_eq, Bool.not_eq_true', beq_iff_eq] at h
  refine checkF_one tr ?_
  rcases h with ⟨h1, h2⟩ | ⟨h1, h2⟩
  · exact .inl (only_no (.inr (.inr (.inr (.inr (.inr (.inr (by rw [h1, h2]; rfl))))))))
  · exact .inr (.inr (.inr (.inr (.inr ⟨h1, by omega, by omega⟩))))
theorem text_one {e : EvT} (tr : Int) (h : textF e.2.1 (hasF e.1 73) = false ∨ textF e.2.2.1 (hasF e.1 78) = false ∨ textF e.2.2.2.1 (hasF e.1 76) = false ∨ textF e.2.2.2.2.1 (hasF e.1 67) = false) : checkF e tr = 1 := by
  refine checkF_one tr ?_
  rcases h with h | h | h | h <;> rcases text_bad h with h | h
  · exact .inl (only_no (.inl h))
  · exact .inr (.inl (named_no (.inl h)))
  · exact .inl (only_no (.inr (.inl h)))
  · exact .inr (.inl (named_no (.inr (.inl h))))
  · exact .inl (only_no (.inr (.inr (.inl h))))
  · exact .inr (.inl (named_no (.inr (.inr (.inl h)))))
  · exact .inl (only_no (.inr (.inr (.inr (.inl h)))))
  · exact .inr (.inl (named_no (.inr (.inr (.inr h)))))
theorem check_good {e : EvT} (tr : Int) (hf : fieldsF e.1 ≠ [63]) (h1 : textF e.2.1 (hasF e.1 73) = true) (h2 : textF e.2.2.1 (hasF e.1 78) = true) (h3 : textF e.2.2.2.1 (hasF e.1 76) = true) (h4 : textF e.2.2.2.2.1 (hasF e.1 67) = true) (hN : badN e = false) (hT : badT e = false) : checkF e tr = if e.1 = 2 then tr else 0 := by
  have v0 : validF 0 = true := by decide
  have t1 := text_good h1; have t2 := text_good h2; have t3 := text_good h3; have t4 := text_good h4
  unfold badN at hN
  unfold badT at hT
  simp only [Bool.or_eq_false_iff, Bool.and_eq_false_iff, decide_eq_false_iff_not, Bool.not_eq_false', bne_eq_false_iff_eq, beq_eq_false_iff_ne] at hN hT
  obtain ⟨n1, n2, n3, n4⟩ := hN
  obtain ⟨q1, q2⟩ := hT
  have d0 : (e.2.2.2.2.2.1 == 0 || hasF e.1 68) = true := by rcases n2 with h | h; rw [h]; simp; rw [h]; rfl
  have d1 : ¬ e.2.2.2.2.2.1 < 0 ∧ ¬ e.2.2.2.2.2.1 > 10000 := by
    rcases n1 with h | h
    · rcases n2 with h' | h'
      · rw [h] at h'; cases h'
      · rw [h']; decide
    · exact h
  have d2 : (e.2.2.2.2.2.2.1 == 0 || hasF e.1 86) = true := by rcases n4 with h | h; rw [h]; simp; rw [h]; rfl
  have d3 : validF e.2.2.2.2.2.2.1 = true := by
    rcases n3 with h | h
    · rcases n4 with h' | h'
      · rw [h] at h'; cases h'
      · rw [h']; exact v0
    · exact h
  have d4 : (nilT e.2.2.2.2.2.2.2.1 || hasF e.1 84) = true := by rcases q1 with h | h <;> rw [h] <;> simp
  have o : onlyF e = true := by unfold onlyF; rw [t1.1, t2.1, t3.1, t4.1, d0, d2, d4]; rfl
  have n : namedF e = true := by unfold namedF; rw [t1.2, t2.2, t3.2, t4.2]; rfl
  unfold checkF
  rw [if_neg hf, if_neg (by rw [o]; decide), if_neg (by rw [n]; decide), if_neg d1.1, if_neg d1.2, if_neg (by rw [d3]; decide), if_neg (fun t => ?_)]
  rcases q2 with h | h
  · exact h t.1
  · exact t.2.2 (by have := t.2.1; omega)

/-! ### Walks -/
theorem strk_at {a : List UInt8} {i : Int} (h0 : 0 ≤ i) (h1 : i < a.length) {K : Int → Prop} (k : K ((a.getD i.toNat 0).toNat : Int)) : StrK (str a) i K := by
  refine ⟨a.getD i.toNat 0, h0, ?_, k⟩
  have hlt : i.toNat < (str a).size := by rw [str_size]; omega
  rw [getElem?_pos (str a) i.toNat hlt, List.getD_eq_getElem?_getD, List.getElem?_eq_getElem (by omega)]
  rfl
theorem fields11_spec (k : Int) (w : World) : Ret Tryz.prog 56 #[.int .i64 k] w fun r w' => r = .string (str (fieldsF k)) ∧ w = w' := by
  refine c56 k w _ ?_
  unfold C56 fieldsF
  refine ifB.eq (fun h => by rw [if_pos h]; exact ⟨rfl, rfl⟩) (fun h => ?_)
  rw [if_neg h]
  refine ifB.eq (fun h => by rw [if_pos h]; exact ⟨rfl, rfl⟩) (fun h => ?_)
  rw [if_neg h]
  refine ifB.eq (fun h => by rw [if_pos h]; exact ⟨rfl, rfl⟩) (fun h => ?_)
  rw [if_neg h]
  refine ifB.eq (fun h => by rw [if_pos h]; exact ⟨rfl, rfl⟩) (fun h => ?_)
  rw [if_neg h]
  refine ifB.eq (fun h => by rw [if_pos h]; exact ⟨rfl, rfl⟩) (fun h => ?_)
  rw [if_neg h]
  refine ifB.eq (fun h => by rw [if_pos h]; exact ⟨rfl, rfl⟩) (fun h => ?_)
  rw [if_neg h]
  exact ⟨rfl, rfl⟩

theorem drop_contains {l : List UInt8} {c : UInt8} {i : Nat} (h : i < l.length) : (l.drop i).contains c = ((l.getD i 0 == c) || (l.drop (i + 1)).contains c) := by
  rw [List.drop_eq_getElem_cons h, List.contains_cons, List.getD_eq_getElem?_getD, List.getElem?_eq_getElem h]
  show (c == l[i] || _) = ((l[i] == c) || _)
  rw [Bool.beq_comm]

theorem has11_spec (l : List UInt8) (hl : l.length ≤ 1000) (c : UInt8) (w : World) : Ret Tryz.prog 55 #[.string (str l), .int .u8 (c.toNat : Int)] w fun r w' => r = .bool (l.contains c) ∧ w = w' := by
  refine c55 _ _ w _ ?_
  unfold C55
  rw [str_size]
  refine LoopK.of (fun s w' => ∃ i : Nat, s.1 = i ∧ i ≤ l.length ∧ l.contains c = (l.drop i).contains c ∧ w = w') (fun s _ => l.length - s.1.toNat) ⟨0, rfl, by omega, rfl, rfl⟩ ?_
  rintro _ ⟨i, _⟩ _ ⟨n, rfl, hn, hc, rfl⟩
  dsimp only
  refine ifB.dec (fun hlt => ?_) (fun hge => ?_)
  · have hlt' : n < l.length := by omega
    rw [drop_contains hlt'] at hc
    refine strk_at (by omega) (by omega) ?_
    rw [Int.toNat_natCast]
    refine ifB.eq (fun e => ?_) (fun e => ?_)
    · have : l.getD n 0 = c := UInt8.toNat_inj.1 (by omega)
      exact ⟨by rw [hc, this]; simp, rfl⟩
    · have : l.getD n 0 ≠ c := fun t => e (by rw [t])
      rw [beq_false_of_ne this, Bool.false_or] at hc
      rw [wI (x := (n : Int) + 1) (by omega) (by omega)]
      exact ⟨⟨n + 1, rfl, by omega, hc, rfl⟩, by omega⟩
  · rw [List.drop_eq_nil_of_le (by omega)] at hc
    exact ⟨by rw [hc]; rfl, rfl⟩
theorem fieldsF_len (k : Int) : (fieldsF k).length ≤ 3 := by
  unfold fieldsF
  repeat' split
  all_goals simp
theorem hasK (k : Int) (c : UInt8) (w : World) {K : Bool → World → Prop} (h : K (hasF k c) w) : CallK Tryz.prog 55 #[.string (str (fieldsF k)), .int .u8 (c.toNat : Int)] w (.v (.one .bool)) (fun (x : Bool) w' => K x w') := by
  have := fieldsF_len k
  refine CallK.of (has11_spec (fieldsF k) (by omega) c w) ?_
  rintro _ _ ⟨rfl, rfl⟩
  exact ⟨_, rfl, h⟩

theorem text11_spec (s : ByteArray) (hs : s.size ≤ 1000000) (named : Bool) (w : World) : Ret Tryz.prog 94 #[.string s, .bool named] w fun r w' => r = .bool (textF s named) ∧ Fr none1 w w' := by
  obtain ⟨l, rfl⟩ : ∃ l, s = str l := ⟨s.data.toList, (str_of s).symm⟩
  rw [str_size] at hs
  refine c94 _ named w _ ?_
  unfold C94 textF
  refine ifB.by (fun h => ?_) (fun h => ?_)
  · rw [if_pos h]
    refine CallK.of (rname_spec l hs w) ?_
    rintro _ w1 ⟨rfl, f1⟩
    have hn : nameB (str l) = nameF 0 (runesL l) := by unfold nameB; rw [str_list]
    refine ⟨_, rfl, ifB.by (fun e => ⟨by rw [hn, e], f1⟩) (fun e => ?_)⟩
    subst h
    exact ifB.f rfl ⟨by rw [hn, e], f1⟩
  · subst h
    exact ifB.t rfl ⟨rfl, Fr.refl _ _⟩
theorem textK (s : ByteArray) (hs : s.size ≤ 1000000) (named : Bool) (w : World) {K : Bool → World → Prop} (h : ∀ w', Fr none1 w w' → K (textF s named) w') : CallK Tryz.prog 94 #[.string s, .bool named] w (.v (.one .bool)) (fun (x : Bool) w' => K x w') := by
  refine CallK.of (text11_spec s hs named w) ?_
  rintro _ w1 ⟨rfl, f1⟩
  exact ⟨_, rfl, h w1 f1⟩

theorem check11_spec (e : EvT) (t : Tm) (he : e.2.2.2.2.2.2.2.1 = t.v) (hz : smallE e) (hn : nodesT t ≤ 30000) (hsh : shortT t) {w : World} {S : Nat → Prop} {v : TV} (h : IsTr w S (trT t) v) (hS : ∀ k, S k → k < w.heap.size) :
    Ret Tryz.prog 54 #[evRA (evR e v), .bool false] w fun r w' => r = .int .i64 (checkF e (writeT t).2) ∧ Fr none1 w w' := by
  refine c54 (evR e v) false w _ ?_
  unfold C54
  refine NewK.of fun g w1 hg hb f1 _ => ?_
  refine LdK.fld hb (x := e.1) rfl ?_
  refine CallK.of (fields11_spec e.1 w1) ?_
  rintro _ _ ⟨rfl, rfl⟩
  refine ⟨_, rfl, ?_⟩
  have e63 : (⟨#[63]⟩ : ByteArray) = str [63] := rfl
  have q63 : ((str (fieldsF e.1)).toList == (⟨#[63]⟩ : ByteArray).toList) = decide (fieldsF e.1 = [63]) := by rw [e63, str_beq]
  rw [q63]
  refine DrewK.of fun w2 _ f2 => HoldK.all ?_
  refine ifB.dec (fun h63 => ⟨by unfold checkF; rw [if_pos h63], f1.trans f2⟩) (fun h63 => ?_)
  refine InK.all (LdK.fld (f2.keep0 hb) (x := e.2.1) rfl ?_)
  refine hasK e.1 73 w2 (KeepK.of (Fr.refl _ _) ?_)
  refine textK _ hz.1 _ w2 fun w3 f3 => KeepK.of f3 ?_
  have f23 := f2.trans f3
  refine ifB.not (ifB.by (fun h1 => ?_) (fun h1 => ⟨by rw [text_one _ (.inl h1)], f1.trans f23⟩))
  refine InK.all (LdK.fld (f23.keep0 hb) (x := e.2.2.1) rfl ?_)
  refine hasK e.1 78 w3 (KeepK.of (Fr.refl _ _) ?_)
  refine textK _ hz.2.1 _ w3 fun w4 f4 => KeepK.of f4 ?_
  have f24 := f23.trans f4
  refine ifB.not (ifB.by (fun h2 => ?_) (fun h2 => ⟨by rw [text_one _ (.inr (.inl h2))], f1.trans f24⟩))
  refine InK.all (LdK.fld (f24.keep0 hb) (x := e.2.2.2.1) rfl ?_)
  refine hasK e.1 76 w4 (KeepK.of (Fr.refl _ _) ?_)
  refine textK _ hz.2.2.1 _ w4 fun w5 f5 => KeepK.of f5 ?_
  have f25 := f24.trans f5
  refine ifB.not (ifB.by (fun h3 => ?_) (fun h3 => ⟨by rw [text_one _ (.inr (.inr (.inl h3)))], f1.trans f25⟩))
  refine InK.all (LdK.fld (f25.keep0 hb) (x := e.2.2.2.2.1) rfl ?_)
  refine hasK e.1 67 w5 (KeepK.of (Fr.refl _ _) ?_)
  refine textK _ hz.2.2.2 _ w5 fun w6 f6 => KeepK.of f6 ?_
  have f26 := f25.trans f6
  refine ifB.not (ifB.by (fun h4 => ?_) (fun h4 => ⟨by rw [text_one _ (.inr (.inr (.inr h4)))], f1.trans f26⟩))
  have hb6 := f26.keep0 hb
  have f16 := f1.trans f26
  have valK : ∀ {K : Bool → World → Prop}, K (validF e.2.2.2.2.2.2.1) w6 → CallK Tryz.prog 95 #[.int .i64 e.2.2.2.2.2.2.1] w6 (.v (.one .bool)) (fun (x : Bool) w' => K x w') := fun {K} k => by
    refine CallK.of (rvalid_spec _ w6) ?_
    rintro _ _ ⟨rfl, rfl⟩
    exact ⟨_, rfl, k⟩
  refine JoinK.of (fun c w' => c.1 = badN e ∧ w6 = w') ?_ ?_
  · unfold badN
    repeat' first
      | (refine hasK e.1 68 w6 ?_)
      | (refine hasK e.1 86 w6 ?_)
      | (refine LdK.fld hb6 (x := e.2.2.2.2.2.1) rfl ?_)
      | (refine LdK.fld hb6 (x := e.2.2.2.2.2.2.1) rfl ?_)
      | (refine valK ?_)
      | (refine ifB.by (fun _ => ?_) (fun _ => ?_))
      | (refine And.intro ?_ rfl)
      | fail
    all_goals (simp_all [evR] <;> omega)
  rintro _ ⟨c, _⟩ _ ⟨hc, rfl⟩
  dsimp only at hc ⊢
  rw [hc]
  refine ifB.by (fun hN => ⟨by rw [badN_one hN], f16⟩) (fun hN => ?_)
  have hkind : (v.1 = 0) = (nilT t.v = true) := by
    cases t <;> (have := h.kind; simp only [trT] at h; have hk := h.kind; rw [hk]; simp [Tm.v, nilT])
  have hK : ∀ {K : Int → Prop}, K v.1 → LdK (.int .i64) (((⟨g, 0, none⟩ : Addr).add 7).add 0) w6 K := fun {K} k => by
    rw [addr_add, addr_add]
    exact LdK.cell (x := v.1) (by rw [cell_blk hb6]; rfl) k
  refine JoinK.of (fun c w' => c.1 = badT e ∧ w6 = w') ?_ ?_
  · unfold badT
    rw [he]
    repeat' first
      | (refine hasK e.1 84 w6 ?_)
      | (refine hK ?_)
      | (refine LdK.fld hb6 (x := e.1) rfl ?_)
      | (refine LdK.fld hb6 (x := e.2.2.2.2.2.2.1) rfl ?_)
      | (refine ifB.f rfl ?_)
      | (refine ifB.by (fun _ => ?_) (fun _ => ?_))
      | (refine And.intro ?_ rfl)
      | fail
    all_goals (simp_all <;> omega)
  rintro _ ⟨c, _⟩ _ ⟨hc, rfl⟩
  dsimp only at hc ⊢
  rw [hc]
  refine ifB.by (fun hT => ⟨by rw [badT_one hT], f16⟩) (fun hT => ?_)
  rw [check_good _ h63 h1 h2 h3 h4 hN hT]
  refine LdK.fld hb6 (x := e.1) rfl (ifB.eq (fun h22 => ?_) (fun h22 => ⟨by rw [if_neg h22], f16⟩))
  rw [if_pos h22]
  have tv : ∀ {K : TV → Prop}, K v → LdsK TVK ((⟨g, 0, none⟩ : Addr).add 7) w6 K := fun {K} k => ⟨v, cellsAt_shift (m := 7) _ 0 (cellsAt_all hb6 (Cs.vals TVK v) 7 fun j hj => (by
    match j, hj with
    | 0, _ => rfl
    | 1, _ => rfl
    | 2, _ => rfl
    | 3, _ => rfl
    | j + 4, h => exact absurd h (by show ¬ j + 4 < 4; omega))), k⟩
  refine tv ?_
  have hc := cnt_trT t
  have hl := len_trT t hsh
  refine CallK.of (rwrite_spec (trT t) false (by omega) (short_trT t hsh) (by omega) (h.keep0 f16) (fun k hk => by have := hS k hk; have := f16.size; omega)) ?_
  rintro _ w7 ⟨rfl, f7⟩
  rw [writeR_trT]
  exact ⟨(str (writeT t).1, (writeT t).2, ()), rfl, rfl, f16.trans f7⟩

end Go.Proofs.YtbadiokobooliaaGreatDoor

/-! ### PlainSpec -/
set_option linter.unusedVariables false
set_option maxRecDepth 100000
namespace Go.Proofs.YtbadiokobooliaaGreatDoor
open Vc

/-- A result, told through its own block. -/
theorem tellM {w wB wc : World} {g : Nat} {v0 v : TV} {t : Tr} (f : Fr none1 w wc) (hg : w.heap.size ≤ g) (hgB : g < wB.heap.size) (hB : w.heap.size ≤ wB.heap.size) (tb : TB wc g v0) (hm : Made wB wc t v) {K : TV → World → Prop}
    (k : ∀ w2, Fr none1 w w2 → Made w w2 t v → K v w2) : StsK ⟨g, 0, none⟩ (tvL v) wc fun w2 => LdsK TVK ⟨g, 0, none⟩ w2 fun x => K x w2 :=
  StsK.blk (cs := tvL v0) (vs := tvL v) tb rfl rfl fun w2 hb2 f2 _ => LdsK.blk (cks := TVK) (x := v) hb2 (k w2 (f.fresh f2 hg) ((hm.keep f2 fun k hk _ t => by have : k = g := t; omega).older hB))

theorem two_gen (k : Int) {w : World} {S : Nat → Prop} {t u : Tr} {a b : TV} (ha : IsTr w S t a) (hb : IsTr w S u b) (hS : ∀ j, S j → j < w.heap.size) : Ret Tryz.prog 105 #[.int .i64 k, tvA a, tvA b] w fun r w' => ∃ v : Sl, r = tvA (k, str [], 0, v, ()) ∧ IsTr w' (fun j => S j ∨ since w w' j) (.mk k [] 0 [t, u]) (k, str [], 0, v, ()) ∧ Fr none1 w w' := by
  refine c105 k a b w _ ?_
  unfold C105
  refine NewK.of fun g1 w1 hg1 hb1 f1 hs1 => NewK.of fun g2 w2 hg2 hb2 f2 hs2 => TB.new fun g3 w3 hg3 t3 f3 hs3 => ?_
  have t1 : TB w3 g1 a := (f2.trans f3).keep0 hb1
  have t2 : TB w3 g2 b := f3.keep0 hb2
  have f13 := (f1.trans f2).trans f3
  refine t1.ld (t2.ld ?_)
  refine tr_lit [a, b] (by show 2 ≤ 3; omega) fun u' w4 hu hul f4 hf4 => ?_
  have f14 := f13.trans f4
  have hsz := f13.size
  refine StsK.blk (cs := tvL (0, str [], 0, (none, 0, 0), ())) (vs := tvL (k, str [], 0, u', ())) (t3.keep0 f4) rfl rfl fun w5 hb5 f5 _ => LdsK.blk (cks := TVK) (x := (k, str [], 0, u', ())) hb5 ?_
  refine ⟨u', rfl, ?_, f14.fresh f5 (by omega)⟩
  have hM1 : IsTr w4 (fun j => (S j ∨ since w w4 j) ∧ j ≠ g3) (.mk k [] 0 [t, u]) (k, str [], 0, u', ()) := by
    unfold IsTr
    refine ⟨rfl, rfl, rfl, [a, b], hu.rd, hul.symm, fun j hj => ⟨.inr ⟨by have := hf4 j hj; omega, hu.lt hj⟩, by have := hf4 j hj; have := lt_of_blk t3; omega⟩, ?_⟩
    have hkk : IsTrs w4 S [t, u] [a, b] := by
      unfold IsTrs; exact ⟨a, [b], rfl, IsTr.keep0 ha f14, by unfold IsTrs; exact ⟨b, [], rfl, IsTr.keep0 hb f14, by unfold IsTrs; rfl⟩⟩
    exact IsTrs.mono (fun j hj => ⟨.inl hj, by have := hS j hj; have := f1.size; have := f2.size; omega⟩) _ _ hkk
  exact IsTr.mono (fun j hj => hj.1.elim .inl fun h => .inr ⟨h.1, Nat.lt_of_lt_of_le h.2 f5.size⟩) _ _ (IsTr.keep f5 (fun j hj t => hj.2 t) _ _ hM1)
theorem two_spec (k : Int) {w0 w : World} {t u : Tr} {a b : TV} (ha : Made w0 w t a) (hb : Made w0 w u b) (h0 : w0.heap.size ≤ w.heap.size) : Ret Tryz.prog 105 #[.int .i64 k, tvA a, tvA b] w fun r w' => ∃ v : Sl, r = tvA (k, str [], 0, v, ()) ∧ Made w0 w' (.mk k [] 0 [t, u]) (k, str [], 0, v, ()) ∧ Fr none1 w w' := by
  refine (two_gen k ha hb (fun j hj => hj.2)).mono fun r w' ⟨v, e, m, f⟩ => ⟨v, e, ?_, f⟩
  exact IsTr.mono (fun j hj => hj.elim (fun h => ⟨h.1, Nat.lt_of_lt_of_le h.2 f.size⟩) fun h => ⟨Nat.le_trans h0 h.1, h.2⟩) _ _ m

/-- A label put in, and the tree told. -/
theorem or_tell {w w1 wc : World} {g1 g gd : Nat} {v0 : TV} {S : Nat → Prop} {t u : Tr} {v : Sl} {s : List UInt8} {l r : Value} {T : TypeId} (f : Fr none1 w wc) (hg : w.heap.size ≤ g1) (hg1 : g1 < w1.heap.size) (hB : w.heap.size ≤ w1.heap.size) (hgg : w1.heap.size ≤ g) (hgc : g < wc.heap.size)
    (tb : TB wc g1 v0) (tg : TB wc g (5, str [], 0, v, ())) (hb : wc.heap[gd]? = some (.cells #[.string (str s), l, r] T (0, 0))) (hm : IsTr wc S (.mk 5 [] 0 [t, u]) (5, str [], 0, v, ())) (hS : ∀ j, S j → w1.heap.size ≤ j ∧ j < wc.heap.size ∧ j ≠ g) {K : TV → World → Prop}
    (hK : ∀ v w2, Fr none1 w w2 → Made w w2 (.mk 5 s 0 [t, u]) v → K v w2) :
    LdK .str ((⟨gd, 0, none⟩ : Addr).add 0) wc (fun (x60 : ByteArray) => StK ((⟨g, 0, none⟩ : Addr).add 1) (.string x60) wc (fun w61 => LdsK TVK ⟨g, 0, none⟩ w61 (fun (x62 : TV) => StsK ⟨g1, 0, none⟩ (tvL x62) w61 (fun w63 => LdsK TVK ⟨g1, 0, none⟩ w63 (fun (x64 : TV) => K x64 w63))))) := by
  refine LdK.fld hb (x := str s) rfl (tg.s (str s) fun w2 t2 f2 => t2.ld ?_)
  have hm2 : IsTr w2 S (.mk 5 s 0 [t, u]) (5, str s, 0, v, ()) := by
    have h := IsTr.keep f2 (fun j hj t => (hS j hj).2.2 t) _ _ hm
    unfold IsTr at h ⊢
    exact ⟨rfl, rfl, rfl, h.2.2.2⟩
  have tb2 := tb.keep f2 (fun t => by have : g1 = g := t; omega)
  refine StsK.blk (cs := tvL v0) (vs := tvL (5, str s, 0, v, ())) tb2 rfl rfl fun w3 hb3 f3 _ => ?_
  refine LdsK.blk (cks := TVK) (x := (5, str s, 0, v, ())) hb3 (hK _ _ ((f.fresh f2 (by omega)).fresh f3 hg) ?_)
  have := f2.size; have := f3.size
  exact IsTr.mono (fun j hj => ⟨by have := (hS j hj).1; omega, by have := (hS j hj).2.1; omega⟩) _ _ (IsTr.keep f3 (fun j hj t => by have : j = g1 := t; have := (hS j hj).1; omega) _ _ hm2)

/-- Two parts told, while something else is held. -/
theorem two_tell (k : Int) {w w1 wc : World} {g1 : Nat} {v0 a b : TV} {t u : Tr} (f : Fr none1 w wc) (hg : w.heap.size ≤ g1) (hg1 : g1 < w1.heap.size) (hB : w.heap.size ≤ w1.heap.size) (hc : w1.heap.size ≤ wc.heap.size) (tb : TB wc g1 v0) (ha : Made w1 wc t a) (hb : Made w1 wc u b) {K : TV → World → Prop}
    (hK : ∀ v w2, Fr none1 w w2 → Made w w2 (.mk k [] 0 [t, u]) v → K v w2) : CallK Tryz.prog 105 #[.int .i64 k, tvA a, tvA b] wc (.v (.agg TVK)) (fun (x29 : TV) w30 => KeepK (fun j => j ≠ g1) wc w30 (StsK ⟨g1, 0, none⟩ (tvL x29) w30 (fun w31 => KeepK (fun j => j ≠ g1) w30 w31 (LdsK TVK ⟨g1, 0, none⟩ w31 (fun (x32 : TV) => K x32 w31))))) := by
  refine CallK.of (two_spec k ha hb hc) ?_
  rintro _ w2 ⟨v, rfl, mv, f2⟩
  refine ⟨_, rfl, KeepK.of f2 ?_⟩
  refine StsK.blk (cs := tvL v0) (vs := tvL (k, str [], 0, v, ())) (tb.keep0 f2) rfl rfl fun w3 hb3 f3 _ => KeepK.on f3 (fun j hj t => hj t) ?_
  exact LdsK.blk (cks := TVK) (x := (k, str [], 0, v, ())) hb3 (hK _ _ ((f.trans f2).fresh f3 hg) ((mv.keep f3 fun k hk _ t => by have : k = g1 := t; omega).older hB))
/-- Some parts in a new slice, told. -/
theorem lit_tell (k n : Int) {w w1 wc : World} {g1 : Nat} {v0 : TV} {ts : List Tr} {vs : List TV} (f : Fr none1 w wc) (hg : w.heap.size ≤ g1) (hg1 : g1 < w1.heap.size) (hB : w.heap.size ≤ w1.heap.size) (hc : w1.heap.size ≤ wc.heap.size) (tb : TB wc g1 v0) (hl : vs.length ≤ 3) (hm : IsTrs wc (since w1 wc) ts vs) {K : TV → World → Prop}
    (hK : ∀ v w2, Fr none1 w w2 → Made w w2 (.mk k [] n ts) v → K v w2) :
    RunK Tryz.prog (Instr.buildSlice 31 vs.length (((vs.map tvL).zipIdx.map fun (l, i) => (i, Value.agg l.toArray)).toArray)) wc (.v (.one .slc)) (fun (x : Option Addr × Nat × Nat) w2 => KeepK (fun j => j ≠ g1) wc w2 (StsK ⟨g1, 0, none⟩ [.int .i64 k, .string (⟨#[]⟩ : ByteArray), .int .i64 n, .slice x.1 x.2.1 x.2.2] w2 (fun w31 => KeepK (fun j => j ≠ g1) w2 w31 (LdsK TVK ⟨g1, 0, none⟩ w31 (fun (x32 : TV) => K x32 w31))))) := by
  refine tr_lit vs hl fun u w2 hu hul f2 hf2 => KeepK.of f2 ?_
  refine StsK.blk (cs := tvL v0) (vs := tvL (k, str [], n, u, ())) (tb.keep0 f2) rfl rfl fun w3 hb3 f3 _ => KeepK.on f3 (fun j hj t => hj t) ?_
  refine LdsK.blk (cks := TVK) (x := (k, str [], n, u, ())) hb3 (hK _ _ ((f.trans f2).fresh f3 hg) ?_)
  have hM : Made w1 w2 (.mk k [] n ts) (k, str [], n, u, ()) := node_made k [] n hu hul (fun k hk => by have := hf2 k hk; omega) (IsTrs.mono (fun j hj => ⟨hj.1, by have := hj.2; have := f2.size; omega⟩) _ _ (IsTrs.keep0 hm f2))
  exact (hM.keep f3 fun k hk _ t => by have : k = g1 := t; omega).older hB
theorem lit_tell0 (k n : Int) {w w1 wc : World} {g1 : Nat} {v0 : TV} {ts : List Tr} {vs : List TV} (f : Fr none1 w wc) (hg : w.heap.size ≤ g1) (hg1 : g1 < w1.heap.size) (hB : w.heap.size ≤ w1.heap.size) (hc : w1.heap.size ≤ wc.heap.size) (tb : TB wc g1 v0) (hl : vs.length ≤ 3) (hm : IsTrs wc (since w1 wc) ts vs) {K : TV → World → Prop}
    (hK : ∀ v w2, Fr none1 w w2 → Made w w2 (.mk k [] n ts) v → K v w2) :
    RunK Tryz.prog (Instr.buildSlice 31 vs.length (((vs.map tvL).zipIdx.map fun (l, i) => (i, Value.agg l.toArray)).toArray)) wc (.v (.one .slc)) (fun (x : Option Addr × Nat × Nat) w2 => StsK ⟨g1, 0, none⟩ [.int .i64 k, .string (⟨#[]⟩ : ByteArray), .int .i64 n, .slice x.1 x.2.1 x.2.2] w2 (fun w31 => LdsK TVK ⟨g1, 0, none⟩ w31 (fun (x32 : TV) => K x32 w31))) := by
  refine tr_lit vs hl fun u w2 hu hul f2 hf2 => ?_
  refine StsK.blk (cs := tvL v0) (vs := tvL (k, str [], n, u, ())) (tb.keep0 f2) rfl rfl fun w3 hb3 f3 _ => ?_
  refine LdsK.blk (cks := TVK) (x := (k, str [], n, u, ())) hb3 (hK _ _ ((f.trans f2).fresh f3 hg) ?_)
  have hM : Made w1 w2 (.mk k [] n ts) (k, str [], n, u, ()) := node_made k [] n hu hul (fun k hk => by have := hf2 k hk; omega) (IsTrs.mono (fun j hj => ⟨hj.1, by have := hj.2; have := f2.size; omega⟩) _ _ (IsTrs.keep0 hm f2))
  exact (hM.keep f3 fun k hk _ t => by have : k = g1 := t; omega).older hB
theorem leaf_tell {w wc : World} {g : Nat} {v0 : TV} (f : Fr none1 w wc) (hg : w.heap.size ≤ g) (tb : TB wc g v0) (k : Int) (s : List UInt8) (n : Int) {K : TV → World → Prop}
    (hk : ∀ v w2, Fr none1 w w2 → Made w w2 (.mk k s n []) v → K v w2) : StsK ⟨g, 0, none⟩ (tvL (k, str s, n, (none, 0, 0), ())) wc fun w2 => LdsK TVK ⟨g, 0, none⟩ w2 fun x => K x w2 :=
  StsK.blk (cs := tvL v0) (vs := tvL (k, str s, n, (none, 0, 0), ())) tb rfl rfl fun w2 hb2 f2 _ => LdsK.blk (cks := TVK) (x := (k, str s, n, (none, 0, 0), ())) hb2 (hk _ w2 (f.fresh f2 hg) (leaf_made _ _ k s n))

theorem plainO_spec (o : Ob) (w : World) : Ret Tryz.prog 106 #[o.v] w fun r w' => ∃ v : TV, r = tvA v ∧ Made w w' (trO o) v ∧ Fr none1 w w' := by
  induction o generalizing w with
  | none =>
    refine c106 _ w _ ?_
    unfold C106
    refine TB.new fun g1 w1 hg1 t1 f1 hs1 => ?_
    refine TaK.nil rfl (TaK.nil rfl (TaK.nil rfl (TaK.nil rfl (TaK.nil rfl (TaK.nil rfl ?_)))))
    exact leaf_tell f1 (by omega) t1 0 [] 0 fun v w2 f2 m2 => ⟨v, rfl, m2, f2⟩
  | const n =>
    refine c106 _ w _ ?_
    unfold C106
    refine TB.new fun g1 w1 hg1 t1 f1 hs1 => ?_
    refine TaK.hit (n, ()) rfl (ns_ok (zs := [.int .i64 0]) (vs := [.int .i64 n]) rfl rfl fun g w2 _ hb f2 => LdK.fld hb (x := n) rfl ?_)
    exact leaf_tell (f1.trans f2) (by omega) (t1.keep0 f2) 11 [] n fun v w2 f2 m2 => ⟨v, rfl, m2, f2⟩
  | fix s =>
    refine c106 _ w _ ?_
    unfold C106
    refine TB.new fun g1 w1 hg1 t1 f1 hs1 => ?_
    refine TaK.miss rfl (by decide) (TaK.hit (str s, ()) rfl (ns_ok (zs := [.string (⟨#[]⟩ : ByteArray)]) (vs := [.string (str s)]) rfl rfl fun g w2 _ hb f2 => LdK.fld hb (x := str s) rfl ?_))
    exact leaf_tell (f1.trans f2) (by omega) (t1.keep0 f2) 12 s 0 fun v w2 f2 m2 => ⟨v, rfl, m2, f2⟩
  | neg x i =>
    refine c106 _ w _ ?_
    unfold C106
    refine TB.new fun g1 w1 hg1 t1 f1 hs1 => ?_
    refine TaK.miss rfl (by decide) (TaK.miss rfl (by decide) (TaK.miss rfl (by decide) (TaK.hit (x.v, ()) rfl (ns_ok (zs := [.nilIface]) (vs := [x.v]) rfl (by simp [Ob.v_one]) fun g w2 hg hb f2 => LdK.fld (c := .raw) hb (x := x.v) rfl ?_))))
    refine CallK.of (i w2) ?_
    rintro _ w3 ⟨a, rfl, ma, f3⟩
    refine ⟨a, rfl, ?_⟩
    have hsz := f2.size; have hsz3 := f3.size
    exact lit_tell0 14 0 (w1 := w1) (vs := [a]) ((f1.trans f2).trans f3) (by omega) (by omega) (by omega) (by omega) ((t1.keep0 f2).keep0 f3) (by show 1 ≤ 3; omega) (made1 (ma.older hsz)) fun v w2 f2 m2 => ⟨v, rfl, m2, f2⟩
  | add l r i j =>
    refine c106 _ w _ ?_
    unfold C106
    refine TB.new fun g1 w1 hg1 t1 f1 hs1 => ?_
    refine TaK.miss rfl (by decide) (TaK.miss rfl (by decide) (TaK.hit (l.v, r.v, ()) rfl (ns_ok (zs := [.nilIface, .nilIface]) (vs := [l.v, r.v]) rfl (by simp [Ob.v_one]) fun g w2 hg hb f2 => ?_)))
    refine DrewK.of fun w3 _ f3 => HoldK.of (fun j => j ≠ g1) ?_
    have hb3 := f3.keep0 hb
    have hs2 := f2.size; have hs3 := f3.size
    have hne : g ≠ g1 := by omega
    refine ⟨by rw [addr_add]; exact hne, LdK.fld (c := .raw) hb3 (x := l.v) rfl ⟨by rw [addr_add]; exact hne, LdK.fld (c := .raw) hb3 (x := r.v) rfl ?_⟩⟩
    refine CallK.of (i w3) ?_
    rintro _ w4 ⟨a, rfl, ma, f4⟩
    refine ⟨a, rfl, KeepK.of f4 ?_⟩
    refine CallK.of (j w4) ?_
    rintro _ w5 ⟨b, rfl, mb, f5⟩
    refine ⟨b, rfl, KeepK.of f5 ?_⟩
    have hs4 := f4.size; have hs5 := f5.size
    exact two_tell 13 (w1 := w1) ((((f1.trans f2).trans f3).trans f4).trans f5) (by omega) (by omega) (by omega) (by omega) ((((t1.keep0 f2).keep0 f3).keep0 f4).keep0 f5) ((ma.older (by omega)).keep0 f5) (mb.older (by omega)) fun v w2 f2 m2 => ⟨v, rfl, m2, f2⟩
  | mul l r i j =>
    refine c106 _ w _ ?_
    unfold C106
    refine TB.new fun g1 w1 hg1 t1 f1 hs1 => ?_
    refine TaK.miss rfl (by decide) (TaK.miss rfl (by decide) (TaK.miss rfl (by decide) (TaK.miss rfl (by decide) (TaK.hit (l.v, r.v, ()) rfl (ns_ok (zs := [.nilIface, .nilIface]) (vs := [l.v, r.v]) rfl (by simp [Ob.v_one]) fun g w2 hg hb f2 => ?_)))))
    refine DrewK.of fun w3 _ f3 => HoldK.of (fun j => j ≠ g1) ?_
    have hb3 := f3.keep0 hb
    have hs2 := f2.size; have hs3 := f3.size
    have hne : g ≠ g1 := by omega
    refine ⟨by rw [addr_add]; exact hne, LdK.fld (c := .raw) hb3 (x := l.v) rfl ⟨by rw [addr_add]; exact hne, LdK.fld (c := .raw) hb3 (x := r.v) rfl ?_⟩⟩
    refine CallK.of (i w3) ?_
    rintro _ w4 ⟨a, rfl, ma, f4⟩
    refine ⟨a, rfl, KeepK.of f4 ?_⟩
    refine CallK.of (j w4) ?_
    rintro _ w5 ⟨b, rfl, mb, f5⟩
    refine ⟨b, rfl, KeepK.of f5 ?_⟩
    have hs4 := f4.size; have hs5 := f5.size
    exact two_tell 15 (w1 := w1) ((((f1.trans f2).trans f3).trans f4).trans f5) (by omega) (by omega) (by omega) (by omega) ((((t1.keep0 f2).keep0 f3).keep0 f4).keep0 f5) ((ma.older (by omega)).keep0 f5) (mb.older (by omega)) fun v w2 f2 m2 => ⟨v, rfl, m2, f2⟩
  | max l r i j =>
    refine c106 _ w _ ?_
    unfold C106
    refine TB.new fun g1 w1 hg1 t1 f1 hs1 => ?_
    refine TaK.miss rfl (by decide) (TaK.miss rfl (by decide) (TaK.miss rfl (by decide) (TaK.miss rfl (by decide) (TaK.miss rfl (by decide) (TaK.hit (l.v, r.v, ()) rfl (ns_ok (zs := [.nilIface, .nilIface]) (vs := [l.v, r.v]) rfl (by simp [Ob.v_one]) fun g w2 hg hb f2 => ?_))))))
    refine DrewK.of fun w3 _ f3 => HoldK.of (fun j => j ≠ g1) ?_
    have hb3 := f3.keep0 hb
    have hs2 := f2.size; have hs3 := f3.size
    have hne : g ≠ g1 := by omega
    refine ⟨by rw [addr_add]; exact hne, LdK.fld (c := .raw) hb3 (x := l.v) rfl ⟨by rw [addr_add]; exact hne, LdK.fld (c := .raw) hb3 (x := r.v) rfl ?_⟩⟩
    refine CallK.of (i w3) ?_
    rintro _ w4 ⟨a, rfl, ma, f4⟩
    refine ⟨a, rfl, KeepK.of f4 ?_⟩
    refine CallK.of (j w4) ?_
    rintro _ w5 ⟨b, rfl, mb, f5⟩
    refine ⟨b, rfl, KeepK.of f5 ?_⟩
    have hs4 := f4.size; have hs5 := f5.size
    exact two_tell 16 (w1 := w1) ((((f1.trans f2).trans f3).trans f4).trans f5) (by omega) (by omega) (by omega) (by omega) ((((t1.keep0 f2).keep0 f3).keep0 f4).keep0 f5) ((ma.older (by omega)).keep0 f5) (mb.older (by omega)) fun v w2 f2 m2 => ⟨v, rfl, m2, f2⟩

theorem plainT_spec (t : Tm) (w : World) : Ret Tryz.prog 66 #[t.v] w fun r w' => ∃ v : TV, r = tvA v ∧ Made w w' (trT t) v ∧ Fr none1 w w' := by
  induction t generalizing w with
  | none =>
    refine c66 _ w _ ?_
    unfold C66
    refine TB.new fun g1 w1 hg1 t1 f1 hs1 => ?_
    refine TaK.nil rfl (TaK.nil rfl (TaK.nil rfl (TaK.nil rfl (TaK.nil rfl (TaK.nil rfl (TaK.nil rfl (TaK.nil rfl (?_))))))))
    exact leaf_tell f1 (by omega) t1 0 [] 0 fun v w2 f2 m2 => ⟨v, rfl, m2, f2⟩
  | zero =>
    refine c66 _ w _ ?_
    unfold C66
    refine TB.new fun g1 w1 hg1 t1 f1 hs1 => ?_
    refine TaK.hit () rfl (ns_ok (zs := []) (vs := []) rfl rfl fun g w2 _ hb f2 => ?_)
    exact leaf_tell (f1.trans f2) (by omega) (t1.keep0 f2) 1 [] 0 fun v w2 f2 m2 => ⟨v, rfl, m2, f2⟩
  | one s =>
    refine c66 _ w _ ?_
    unfold C66
    refine TB.new fun g1 w1 hg1 t1 f1 hs1 => ?_
    refine TaK.miss rfl (by decide) (TaK.hit (str s, ()) rfl (ns_ok (zs := [.string (⟨#[]⟩ : ByteArray)]) (vs := [.string (str s)]) rfl rfl fun g w2 _ hb f2 => LdK.fld hb (x := str s) rfl ?_))
    exact leaf_tell (f1.trans f2) (by omega) (t1.keep0 f2) 2 s 0 fun v w2 f2 m2 => ⟨v, rfl, m2, f2⟩
  | give x i =>
    refine c66 _ w _ ?_
    unfold C66
    refine TB.new fun g1 w1 hg1 t1 f1 hs1 => ?_
    refine TaK.miss rfl (by decide) (TaK.miss rfl (by decide) (TaK.hit (x.v, ()) rfl (ns_ok (zs := [.nilIface]) (vs := [x.v]) rfl (by simp [Tm.v_one]) fun g w2 hg hb f2 => LdK.fld (c := .raw) hb (x := x.v) rfl ?_)))
    refine CallK.of (i w2) ?_
    rintro _ w3 ⟨a, rfl, ma, f3⟩
    refine ⟨a, rfl, ?_⟩
    have hsz := f2.size; have hsz3 := f3.size
    exact lit_tell0 3 0 (w1 := w1) (vs := [a]) ((f1.trans f2).trans f3) (by omega) (by omega) (by omega) (by omega) ((t1.keep0 f2).keep0 f3) (by show 1 ≤ 3; omega) (made1 (ma.older hsz)) fun v w2 f2 m2 => ⟨v, rfl, m2, f2⟩
  | and l r i j =>
    refine c66 _ w _ ?_
    unfold C66
    refine TB.new fun g1 w1 hg1 t1 f1 hs1 => ?_
    refine TaK.miss rfl (by decide) (TaK.miss rfl (by decide) (TaK.miss rfl (by decide) (TaK.hit (l.v, r.v, ()) rfl (ns_ok (zs := [.nilIface, .nilIface]) (vs := [l.v, r.v]) rfl (by simp [Ob.v_one, Tm.v_one]) fun g w2 hg hb f2 => ?_))))
    refine DrewK.of fun w3 _ f3 => HoldK.of (fun j => j ≠ g1) ?_
    have hb3 := f3.keep0 hb
    have hs2 := f2.size; have hs3 := f3.size
    have hne : g ≠ g1 := by omega
    refine ⟨by rw [addr_add]; exact hne, LdK.fld (c := .raw) hb3 (x := l.v) rfl ⟨by rw [addr_add]; exact hne, LdK.fld (c := .raw) hb3 (x := r.v) rfl ?_⟩⟩
    refine CallK.of (i w3) ?_
    rintro _ w4 ⟨a, rfl, ma, f4⟩
    refine ⟨a, rfl, KeepK.of f4 ?_⟩
    refine CallK.of (j w4) ?_
    rintro _ w5 ⟨b, rfl, mb, f5⟩
    refine ⟨b, rfl, KeepK.of f5 ?_⟩
    have hs4 := f4.size; have hs5 := f5.size
    exact two_tell 4 (w1 := w1) ((((f1.trans f2).trans f3).trans f4).trans f5) (by omega) (by omega) (by omega) (by omega) ((((t1.keep0 f2).keep0 f3).keep0 f4).keep0 f5) ((ma.older (by omega)).keep0 f5) (mb.older (by omega)) fun v w2 f2 m2 => ⟨v, rfl, m2, f2⟩
  | scale o x j =>
    refine c66 _ w _ ?_
    unfold C66
    refine TB.new fun g1 w1 hg1 t1 f1 hs1 => ?_
    refine TaK.miss rfl (by decide) (TaK.miss rfl (by decide) (TaK.miss rfl (by decide) (TaK.miss rfl (by decide) (TaK.miss rfl (by decide) (TaK.hit (o.v, x.v, ()) rfl (ns_ok (zs := [.nilIface, .nilIface]) (vs := [o.v, x.v]) rfl (by simp [Ob.v_one, Tm.v_one]) fun g w2 hg hb f2 => ?_))))))
    refine DrewK.of fun w3 _ f3 => HoldK.of (fun j => j ≠ g1) ?_
    have hb3 := f3.keep0 hb
    have hs2 := f2.size; have hs3 := f3.size
    have hne : g ≠ g1 := by omega
    refine ⟨by rw [addr_add]; exact hne, LdK.fld (c := .raw) hb3 (x := o.v) rfl ⟨by rw [addr_add]; exact hne, LdK.fld (c := .raw) hb3 (x := x.v) rfl ?_⟩⟩
    refine CallK.of (plainO_spec o w3) ?_
    rintro _ w4 ⟨a, rfl, ma, f4⟩
    refine ⟨a, rfl, KeepK.of f4 ?_⟩
    refine CallK.of (j w4) ?_
    rintro _ w5 ⟨b, rfl, mb, f5⟩
    refine ⟨b, rfl, KeepK.of f5 ?_⟩
    have hs4 := f4.size; have hs5 := f5.size
    exact two_tell 6 (w1 := w1) ((((f1.trans f2).trans f3).trans f4).trans f5) (by omega) (by omega) (by omega) (by omega) ((((t1.keep0 f2).keep0 f3).keep0 f4).keep0 f5) ((ma.older (by omega)).keep0 f5) (mb.older (by omega)) fun v w2 f2 m2 => ⟨v, rfl, m2, f2⟩
  | «when» d x j =>
    refine c66 _ w _ ?_
    unfold C66
    refine TB.new fun g1 w1 hg1 t1 f1 hs1 => ?_
    refine TaK.miss rfl (by decide) (TaK.miss rfl (by decide) (TaK.miss rfl (by decide) (TaK.miss rfl (by decide) (TaK.miss rfl (by decide) (TaK.miss rfl (by decide) (TaK.hit (d, x.v, ()) rfl (ns_ok (zs := [.int .i64 0, .nilIface]) (vs := [.int .i64 d, x.v]) rfl (by show (one1 (.int .i64 d) && (one1 x.v && true)) = true; rw [Tm.v_one]; rfl) fun g w2 hg hb f2 => ?_)))))))
    refine DrewK.of fun w3 _ f3 => HoldK.of (fun j => j ≠ g1) ?_
    have hb3 := f3.keep0 hb
    have hs2 := f2.size; have hs3 := f3.size
    have hne : g ≠ g1 := by omega
    refine ⟨by rw [addr_add]; exact hne, LdK.fld hb3 (x := d) rfl ⟨by rw [addr_add]; exact hne, LdK.fld (c := .raw) hb3 (x := x.v) rfl ?_⟩⟩
    refine CallK.of (j w3) ?_
    rintro _ w4 ⟨a, rfl, ma, f4⟩
    refine ⟨a, rfl, KeepK.of f4 ?_⟩
    have hs4 := f4.size
    exact lit_tell 7 d (w1 := w1) (vs := [a]) (((f1.trans f2).trans f3).trans f4) (by omega) (by omega) (by omega) (by omega) (((t1.keep0 f2).keep0 f3).keep0 f4) (by show 1 ≤ 3; omega) (made1 (ma.older (by omega))) fun v w2 f2 m2 => ⟨v, rfl, m2, f2⟩
  | cond o l r i j =>
    refine c66 _ w _ ?_
    unfold C66
    refine TB.new fun g1 w1 hg1 t1 f1 hs1 => ?_
    refine TaK.miss rfl (by decide) (TaK.miss rfl (by decide) (TaK.miss rfl (by decide) (TaK.miss rfl (by decide) (TaK.miss rfl (by decide) (TaK.miss rfl (by decide) (TaK.miss rfl (by decide) (TaK.hit (o.v, l.v, r.v, ()) rfl (ns_ok (zs := [.nilIface, .nilIface, .nilIface]) (vs := [o.v, l.v, r.v]) rfl (by simp [Ob.v_one, Tm.v_one]) fun g w2 hg hb f2 => ?_))))))))
    refine DrewK.of fun w3 _ f3 => HoldK.of (fun j => j ≠ g1) ?_
    have hb3 := f3.keep0 hb
    have hs2 := f2.size; have hs3 := f3.size
    have hne : g ≠ g1 := by omega
    refine ⟨by rw [addr_add]; exact hne, LdK.fld (c := .raw) hb3 (x := o.v) rfl ⟨by rw [addr_add]; exact hne, LdK.fld (c := .raw) hb3 (x := l.v) rfl ⟨by rw [addr_add]; exact hne, LdK.fld (c := .raw) hb3 (x := r.v) rfl ?_⟩⟩⟩
    refine CallK.of (plainO_spec o w3) ?_
    rintro _ w4 ⟨a, rfl, ma, f4⟩
    refine ⟨a, rfl, KeepK.of f4 ?_⟩
    refine CallK.of (i w4) ?_
    rintro _ w5 ⟨b, rfl, mb, f5⟩
    refine ⟨b, rfl, KeepK.of f5 ?_⟩
    refine CallK.of (j w5) ?_
    rintro _ w6 ⟨c, rfl, mc, f6⟩
    refine ⟨c, rfl, KeepK.of f6 ?_⟩
    have hs4 := f4.size; have hs5 := f5.size; have hs6 := f6.size
    exact lit_tell 8 0 (w1 := w1) (vs := [a, b, c]) (((((f1.trans f2).trans f3).trans f4).trans f5).trans f6) (by omega) (by omega) (by omega) (by omega) (((((t1.keep0 f2).keep0 f3).keep0 f4).keep0 f5).keep0 f6) (by show 3 ≤ 3; omega) (made3 (((ma.older (by omega)).keep0 f5).keep0 f6) ((mb.older (by omega)).keep0 f6) (mc.older (by omega))) fun v w2 f2 m2 => ⟨v, rfl, m2, f2⟩
  | or s l r i j =>
    refine c66 _ w _ ?_
    unfold C66
    refine TB.new fun g1 w1 hg1 t1 f1 hs1 => ?_
    refine TaK.miss rfl (by decide) (TaK.miss rfl (by decide) (TaK.miss rfl (by decide) (TaK.miss rfl (by decide) (TaK.hit (str s, l.v, r.v, ()) rfl (ns_ok (zs := [.string (⟨#[]⟩ : ByteArray), .nilIface, .nilIface]) (vs := [.string (str s), l.v, r.v]) rfl (by show (one1 (.string (str s)) && (one1 l.v && (one1 r.v && true))) = true; rw [Tm.v_one, Tm.v_one]; rfl) fun g w2 hg hb f2 => ?_)))))
    refine DrewK.of fun w3 _ f3 => HoldK.of (fun j => j < w3.heap.size) ?_
    have hb3 := f3.keep0 hb
    have hs2 := f2.size; have hs3 := f3.size
    have hg3 := lt_of_blk hb3
    have t3 := (t1.keep0 f2).keep0 f3
    have f13 := (f1.trans f2).trans f3
    refine ⟨by rw [addr_add]; exact hg3, LdK.fld (c := .raw) hb3 (x := l.v) rfl ⟨by rw [addr_add]; exact hg3, LdK.fld (c := .raw) hb3 (x := r.v) rfl ?_⟩⟩
    have put : ∀ {wa wb : World} {gg : Nat}, w3.heap.size ≤ gg → Fr (only gg) wa wb → ∀ K : Prop, K → KeepK (fun j => j < w3.heap.size) wa wb K := fun hgg f K k => KeepK.on f (fun j hj t => by have : j = _ := t; omega) k
    have wide : ∀ {wx wy wz : World} {t : Tr} {v : TV} {gg : Nat}, Made wx wy t v → Fr none1 wy wz → w1.heap.size ≤ wx.heap.size → (gg < wx.heap.size ∨ wy.heap.size ≤ gg) → IsTr wz (fun j => w1.heap.size ≤ j ∧ j < wz.heap.size ∧ j ≠ gg) t v := fun {wx wy wz t v gg} m f h1 h2 =>
      IsTr.mono (fun j hj => ⟨by have := hj.1; omega, Nat.lt_of_lt_of_le hj.2 f.size, by have := hj.1; have := hj.2; omega⟩) _ _ (IsTr.keep0 m f)
    have ending : ∀ {wx : World} {g5 : Nat} {v : Sl}, Fr none1 w3 wx → w3.heap.size ≤ g5 → g5 < wx.heap.size → TB wx g5 (0, str [], 0, (none, 0, 0), ()) → IsTr wx (fun j => w1.heap.size ≤ j ∧ j < wx.heap.size ∧ j ≠ g5) (.mk 5 [] 0 [trT l, trT r]) (5, str [], 0, v, ()) →
        StsK ⟨g5, 0, none⟩ (tvL (5, str [], 0, v, ())) wx (fun w8 => KeepK (fun j => j < w3.heap.size) wx w8 (LdK .str ((⟨g, 0, none⟩ : Addr).add 0) w8 (fun (x60 : ByteArray) => StK ((⟨g5, 0, none⟩ : Addr).add 1) (.string x60) w8 (fun w61 => LdsK TVK ⟨g5, 0, none⟩ w61 (fun (x62 : TV) => StsK ⟨g1, 0, none⟩ (tvL x62) w61 (fun w63 => LdsK TVK ⟨g1, 0, none⟩ w63 (fun (x64 : TV) =>
          ∃ v : TV, tvA x64 = tvA v ∧ Made w w63 (trT (.or s l r)) v ∧ Fr none1 w w63))))))) := fun {wx g5 v} fa h1 h2 t5 mv => by
      have sx := fa.size
      refine StsK.blk (cs := tvL (0, str [], 0, (none, 0, 0), ())) (vs := tvL (5, str [], 0, v, ())) t5 rfl rfl fun w8 hb8 f8 _ => put (gg := g5) (by omega) f8 _ ?_
      have s8 := f8.size
      exact or_tell (w1 := w1) ((f13.trans fa).fresh f8 (by omega)) (by omega) (by omega) (by omega) (by omega) (by omega) ((t3.keep0 fa).keep f8 (fun t => by have : g1 = g5 := t; omega)) hb8 (f8.keep (fa.keep0 hb3) (fun t => by have : g = g5 := t; omega))
        (IsTr.keep f8 (fun j hj t => hj.2.2 t) _ _ mv) (fun j hj => ⟨hj.1, by have := hj.2.1; omega, hj.2.2⟩) fun v w2 f2 m2 => ⟨v, rfl, m2, f2⟩
    -- the two parts joined behind the struct's block
    have joined : ∀ {wx : World} {g5 : Nat} {a b : TV}, Fr none1 w3 wx → w3.heap.size ≤ g5 → g5 < wx.heap.size → TB wx g5 (0, str [], 0, (none, 0, 0), ()) → IsTr wx (fun j => w1.heap.size ≤ j ∧ j < wx.heap.size ∧ j ≠ g5) (trT l) a → IsTr wx (fun j => w1.heap.size ≤ j ∧ j < wx.heap.size ∧ j ≠ g5) (trT r) b →
        CallK Tryz.prog 105 #[.int .i64 5, tvA a, tvA b] wx (.v (.agg TVK)) (fun (x55 : TV) w7 => KeepK (fun j => j < w3.heap.size) wx w7 (StsK ⟨g5, 0, none⟩ (tvL x55) w7 (fun w8 => KeepK (fun j => j < w3.heap.size) w7 w8 (LdK .str ((⟨g, 0, none⟩ : Addr).add 0) w8 (fun (x60 : ByteArray) => StK ((⟨g5, 0, none⟩ : Addr).add 1) (.string x60) w8 (fun w61 => LdsK TVK ⟨g5, 0, none⟩ w61 (fun (x62 : TV) => StsK ⟨g1, 0, none⟩ (tvL x62) w61 (fun w63 => LdsK TVK ⟨g1, 0, none⟩ w63 (fun (x64 : TV) =>
          ∃ v : TV, tvA x64 = tvA v ∧ Made w w63 (trT (.or s l r)) v ∧ Fr none1 w w63))))))))) := fun {wx g5 a b} fa h1 h2 t5 ma mb => by
      refine CallK.of (two_gen 5 ma mb (fun j hj => hj.2.1)) ?_
      rintro _ w7 ⟨v, rfl, mv, f7⟩
      have s7 := f7.size
      have sx := fa.size
      refine ⟨_, rfl, KeepK.of f7 (ending (fa.trans f7) h1 (by omega) (t5.keep0 f7) ?_)⟩
      exact IsTr.mono (fun j hj => hj.elim (fun h => ⟨h.1, by have := h.2.1; omega, h.2.2⟩) fun h => ⟨by have := h.1; omega, h.2, by have := h.1; omega⟩) _ _ mv
    refine ⟨?_, ?_⟩
    · refine CallK.of (i w3) ?_
      rintro _ w4 ⟨a, rfl, ma, f4⟩
      have s4 := f4.size
      refine ⟨a, rfl, KeepK.of f4 ⟨?_, ?_⟩⟩
      · refine CallK.of (j w4) ?_
        rintro _ w5 ⟨b, rfl, mb, f5⟩
        have s5 := f5.size
        refine ⟨b, rfl, KeepK.of f5 ⟨?_, ?_⟩⟩
        · refine CallK.of (two_gen 5 (S := fun j => w1.heap.size ≤ j ∧ j < w5.heap.size) (IsTr.mono (fun j hj => ⟨hj.1, hj.2.1⟩) _ _ (wide (gg := 0) ma f5 (by omega) (.inl (by omega)))) (IsTr.mono (fun j hj => ⟨hj.1, hj.2.1⟩) _ _ (wide (gg := 0) mb (Fr.refl _ _) (by omega) (.inl (by omega)))) (fun j hj => hj.2)) ?_
          rintro _ w6 ⟨v, rfl, mv, f6⟩
          have s6 := f6.size
          refine ⟨_, rfl, KeepK.of f6 ?_⟩
          refine TB.new fun g5 w7 hg5 t57 f7 hs7 => KeepK.of f7 ?_
          have s7 := f7.size
          exact ending (((f4.trans f5).trans f6).trans f7) (by omega) (by omega) t57 (IsTr.mono (fun j hj => hj.elim (fun h => ⟨h.1, by have := h.2; omega, by have := h.2; omega⟩) fun h => ⟨by have := h.1; omega, by have := h.2; omega, by have := h.2; omega⟩) _ _ (IsTr.keep0 mv f7))
        · refine TB.new fun g5 w6 hg5 t5 f6 hs6 => KeepK.of f6 ?_
          have s6 := f6.size
          exact joined ((f4.trans f5).trans f6) (by omega) (by omega) t5 (wide ma (f5.trans f6) (by omega) (.inr (by omega))) (wide mb f6 (by omega) (.inr (by omega)))
      · refine TB.new fun g5 w5 hg5 t5 f5 hs5 => KeepK.of f5 ?_
        have s5 := f5.size
        refine CallK.of (j w5) ?_
        rintro _ w6 ⟨b, rfl, mb, f6⟩
        have s6 := f6.size
        refine ⟨b, rfl, KeepK.of f6 ?_⟩
        exact joined ((f4.trans f5).trans f6) (by omega) (by omega) (t5.keep0 f6) (wide ma (f5.trans f6) (by omega) (.inr (by omega))) (wide mb (Fr.refl _ _) (by omega) (.inl (by omega)))
    · refine TB.new fun g5 w4 hg5 t5 f4 hs4 => KeepK.of f4 ?_
      have s4 := f4.size
      refine CallK.of (i w4) ?_
      rintro _ w5 ⟨a, rfl, ma, f5⟩
      have s5 := f5.size
      refine ⟨a, rfl, KeepK.of f5 ?_⟩
      refine CallK.of (j w5) ?_
      rintro _ w6 ⟨b, rfl, mb, f6⟩
      have s6 := f6.size
      refine ⟨b, rfl, KeepK.of f6 ?_⟩
      exact joined ((f4.trans f5).trans f6) (by omega) (by omega) ((t5.keep0 f5).keep0 f6) (wide ma f6 (by omega) (.inl (by omega))) (wide mb (Fr.refl _ _) (by omega) (.inl (by omega)))

end Go.Proofs.YtbadiokobooliaaGreatDoor

/-! ### CSome11 -/
namespace Go.Proofs.YtbadiokobooliaaGreatDoor
open Vc
set_option maxRecDepth 100000
set_option linter.unusedVariables false
/-- handfast/handfastlaw11.Some -/
def C11 (p0 : Int × Int × Int × Int × Int × ByteArray × (Option Addr × Nat × Nat) × (Option Addr × Nat × Nat) × Unit) (p1 : Int) (p2 : Int) (p3 : ByteArray) (p4 : Int) (w : World) (K : Value → World → Prop) : Prop :=
  NewK (.cells #[.int .i64 p0.1, .int .i64 p0.2.1, .int .i64 p0.2.2.1, .int .i64 p0.2.2.2.1, .int .i64 p0.2.2.2.2.1, .string p0.2.2.2.2.2.1, .slice p0.2.2.2.2.2.2.1.1 p0.2.2.2.2.2.2.1.2.1 p0.2.2.2.2.2.2.1.2.2, .slice p0.2.2.2.2.2.2.2.1.1 p0.2.2.2.2.2.2.2.1.2.1 p0.2.2.2.2.2.2.2.1.2.2] 27) w (fun g1 w2 => NewK (.cells #[.int .i64 0, .string (⟨#[]⟩ : ByteArray), .string (⟨#[]⟩ : ByteArray), .string (⟨#[]⟩ : ByteArray), .string (⟨#[]⟩ : ByteArray), .int .i64 0, .int .i64 0, .nilIface] 30) w2 (fun g3 w4 => NewK (.cells #[.int .i64 0, .string (⟨#[]⟩ : ByteArray), .string (⟨#[]⟩ : ByteArray), .string (⟨#[]⟩ : ByteArray), .string (⟨#[]⟩ : ByteArray), .int .i64 0, .int .i64 0, .int .i64 0, .string (⟨#[]⟩ : ByteArray), .int .i64 0, .slice none 0 0] 35) w4 (fun g5 w6 => LdsK [.int .i64, .int .i64, .int .i64, .int .i64, .int .i64, .str, .slc, .slc] (⟨g1, 0, none⟩ : Addr) w6 (fun (x7 : Int × Int × Int × Int × Int × ByteArray × (Option Addr × Nat × Nat) × (Option Addr × Nat × Nat) × Unit) => CallK Tryz.prog 48 #[.pointer none, .agg #[.int .i64 x7.1, .int .i64 x7.2.1, .int .i64 x7.2.2.1, .int .i64 x7.2.2.2.1, .int .i64 x7.2.2.2.2.1, .string x7.2.2.2.2.2.1, .slice x7.2.2.2.2.2.2.1.1 x7.2.2.2.2.2.2.1.2.1 x7.2.2.2.2.2.2.1.2.2, .slice x7.2.2.2.2.2.2.2.1.1 x7.2.2.2.2.2.2.2.1.2.1 x7.2.2.2.2.2.2.2.1.2.2], .int .i64 3] w6 (.v (.agg [.int .i64, .str, .str, .str, .str, .int .i64, .int .i64, .int .i64, .str, .int .i64, .slc])) (fun (x8 : Int × ByteArray × ByteArray × ByteArray × ByteArray × Int × Int × Int × ByteArray × Int × (Option Addr × Nat × Nat) × Unit) w9 => NewK (.cells #[.int .i64 0, .string (⟨#[]⟩ : ByteArray), .string (⟨#[]⟩ : ByteArray), .string (⟨#[]⟩ : ByteArray), .string (⟨#[]⟩ : ByteArray), .int .i64 0, .int .i64 0, .int .i64 0, .string (⟨#[]⟩ : ByteArray), .int .i64 0, .slice none 0 0] 35) w9 (fun g10 w11 => StsK (⟨g10, 0, none⟩ : Addr) [.int .i64 x8.1, .string x8.2.1, .string x8.2.2.1, .string x8.2.2.2.1, .string x8.2.2.2.2.1, .int .i64 x8.2.2.2.2.2.1, .int .i64 x8.2.2.2.2.2.2.1, .int .i64 x8.2.2.2.2.2.2.2.1, .string x8.2.2.2.2.2.2.2.2.1, .int .i64 x8.2.2.2.2.2.2.2.2.2.1, .slice x8.2.2.2.2.2.2.2.2.2.2.1.1 x8.2.2.2.2.2.2.2.2.2.2.1.2.1 x8.2.2.2.2.2.2.2.2.2.2.1.2.2] w11 (fun w12 => JoinK (Unit) (fun J13 => CallK Tryz.prog 22 #[.int .i64 p1, .int .i64 20] w12 (.v (.one (.int .i64))) (fun (x16 : Int) w17 => ifB (x16 == 0)
  (CallK Tryz.prog 22 #[.int .i64 p2, .int .i64 9] w17 (.v (.one (.int .i64))) (fun (x18 : Int) w19 => StK ((⟨g10, 0, none⟩ : Addr).add 0) (.int .i64 x18) w19 (fun w20 => J13 (()) w20)))
  (ifB (x16 == 1)
  (CallK Tryz.prog 49 #[.string p3, .int .i64 16] w17 (.v (.one .str)) (fun (x21 : ByteArray) w22 => StK ((⟨g10, 0, none⟩ : Addr).add 1) (.string x21) w22 (fun w23 => J13 (()) w23)))
  (ifB (x16 == 2)
  (CallK Tryz.prog 49 #[.string p3, .int .i64 16] w17 (.v (.one .str)) (fun (x24 : ByteArray) w25 => StK ((⟨g10, 0, none⟩ : Addr).add 2) (.string x24) w25 (fun w26 => J13 (()) w26)))
  (ifB (x16 == 3)
  (CallK Tryz.prog 49 #[.string p3, .int .i64 16] w17 (.v (.one .str)) (fun (x27 : ByteArray) w28 => StK ((⟨g10, 0, none⟩ : Addr).add 3) (.string x27) w28 (fun w29 => J13 (()) w29)))
  (ifB (x16 == 4)
  (CallK Tryz.prog 49 #[.string p3, .int .i64 16] w17 (.v (.one .str)) (fun (x30 : ByteArray) w31 => StK ((⟨g10, 0, none⟩ : Addr).add 4) (.string x30) w31 (fun w32 => J13 (()) w32)))
  (ifB (x16 == 5)
  (StK ((⟨g10, 0, none⟩ : Addr).add 5) (.int .i64 p2) w17 (fun w33 => J13 (()) w33))
  (ifB (x16 == 6)
  (StK ((⟨g10, 0, none⟩ : Addr).add 6) (.int .i64 p2) w17 (fun w34 => J13 (()) w34))
  (J13 (()) w17)))))))))
  (fun _ s14 w15 => LdsK [.int .i64, .str, .str, .str, .str, .int .i64, .int .i64, .int .i64, .str, .int .i64, .slc] (⟨g10, 0, none⟩ : Addr) w15 (fun (x35 : Int × ByteArray × ByteArray × ByteArray × ByteArray × Int × Int × Int × ByteArray × Int × (Option Addr × Nat × Nat) × Unit) => CallK Tryz.prog 50 #[.agg #[.int .i64 x35.1, .string x35.2.1, .string x35.2.2.1, .string x35.2.2.2.1, .string x35.2.2.2.2.1, .int .i64 x35.2.2.2.2.2.1, .int .i64 x35.2.2.2.2.2.2.1, .int .i64 x35.2.2.2.2.2.2.2.1, .string x35.2.2.2.2.2.2.2.2.1, .int .i64 x35.2.2.2.2.2.2.2.2.2.1, .slice x35.2.2.2.2.2.2.2.2.2.2.1.1 x35.2.2.2.2.2.2.2.2.2.2.1.2.1 x35.2.2.2.2.2.2.2.2.2.2.1.2.2]] w15 (.v (.agg [.int .i64, .str, .str, .str, .str, .int .i64, .int .i64, .raw])) (fun (x36 : Int × ByteArray × ByteArray × ByteArray × ByteArray × Int × Int × Value × Unit) w37 => NewK (.cells #[.int .i64 0, .string (⟨#[]⟩ : ByteArray), .string (⟨#[]⟩ : ByteArray), .string (⟨#[]⟩ : ByteArray), .string (⟨#[]⟩ : ByteArray), .int .i64 0, .int .i64 0, .nilIface] 30) w37 (fun g38 w39 => StsK (⟨g38, 0, none⟩ : Addr) [.int .i64 x36.1, .string x36.2.1, .string x36.2.2.1, .string x36.2.2.2.1, .string x36.2.2.2.2.1, .int .i64 x36.2.2.2.2.2.1, .int .i64 x36.2.2.2.2.2.2.1, x36.2.2.2.2.2.2.2.1] w39 (fun w40 => NzK 11 (ifB ((p4.tmod 11) == 10)
  (NzK 11 (CallK Tryz.prog 51 #[.int .i64 (IntKind.i64.wrap (p4.tdiv 11))] w40 (.v (.one .raw)) (fun (x41 : Value) w42 => OneK x41 (StsK ((⟨g38, 0, none⟩ : Addr).add 7) [x41] w42 (fun w43 => LdK .raw ((⟨g38, 0, none⟩ : Addr).add 7) w43 (fun (x44 : Value) => RunK Tryz.prog (do eqGuard .neq 28 (.tmp 63) (.const .nilIface) x44 .nilIface; binOp .neq 28 x44 .nilIface) w43 (.v (.one .bool)) (fun (x45 : Bool) w46 => DrewK w46 (fun w47 => HoldK (fun S48 => InK S48 (⟨g38, 0, none⟩ : Addr) (LdsK [.int .i64, .str, .str, .str, .str, .int .i64, .int .i64, .raw] (⟨g38, 0, none⟩ : Addr) w47 (fun (x49 : Int × ByteArray × ByteArray × ByteArray × ByteArray × Int × Int × Value × Unit) => InK S48 (⟨g38, 0, none⟩ : Addr) (LdsK [.int .i64, .str, .str, .str, .str, .int .i64, .int .i64, .raw] (⟨g38, 0, none⟩ : Addr) w47 (fun (x50 : Int × ByteArray × ByteArray × ByteArray × ByteArray × Int × Int × Value × Unit) => CallK Tryz.prog 30 #[.agg #[.int .i64 x50.1, .string x50.2.1, .string x50.2.2.1, .string x50.2.2.2.1, .string x50.2.2.2.2.1, .int .i64 x50.2.2.2.2.2.1, .int .i64 x50.2.2.2.2.2.2.1, x50.2.2.2.2.2.2.2.1]] w47 (.v (.agg [.int .i64, .str, .str, .str, .str, .int .i64, .int .i64, .int .i64, .str, .int .i64, .slc])) (fun (x51 : Int × ByteArray × ByteArray × ByteArray × ByteArray × Int × Int × Int × ByteArray × Int × (Option Addr × Nat × Nat) × Unit) w52 => KeepK S48 w47 w52 (StsK (⟨g3, 0, none⟩ : Addr) [.int .i64 x49.1, .string x49.2.1, .string x49.2.2.1, .string x49.2.2.2.1, .string x49.2.2.2.2.1, .int .i64 x49.2.2.2.2.2.1, .int .i64 x49.2.2.2.2.2.2.1, x49.2.2.2.2.2.2.2.1] w52 (fun w53 => KeepK S48 w52 w53 (StsK (⟨g5, 0, none⟩ : Addr) [.int .i64 x51.1, .string x51.2.1, .string x51.2.2.1, .string x51.2.2.2.1, .string x51.2.2.2.2.1, .int .i64 x51.2.2.2.2.2.1, .int .i64 x51.2.2.2.2.2.2.1, .int .i64 x51.2.2.2.2.2.2.2.1, .string x51.2.2.2.2.2.2.2.2.1, .int .i64 x51.2.2.2.2.2.2.2.2.2.1, .slice x51.2.2.2.2.2.2.2.2.2.2.1.1 x51.2.2.2.2.2.2.2.2.2.2.1.2.1 x51.2.2.2.2.2.2.2.2.2.2.1.2.2] w53 (fun w54 => KeepK S48 w53 w54 (LdsK [.int .i64, .str, .str, .str, .str, .int .i64, .int .i64, .raw] (⟨g3, 0, none⟩ : Addr) w54 (fun (x55 : Int × ByteArray × ByteArray × ByteArray × ByteArray × Int × Int × Value × Unit) => LdsK [.int .i64, .str, .str, .str, .str, .int .i64, .int .i64, .int .i64, .str, .int .i64, .slc] (⟨g5, 0, none⟩ : Addr) w54 (fun (x56 : Int × ByteArray × ByteArray × ByteArray × ByteArray × Int × Int × Int × ByteArray × Int × (Option Addr × Nat × Nat) × Unit) => K (.tuple #[.agg #[.int .i64 x55.1, .string x55.2.1, .string x55.2.2.1, .string x55.2.2.2.1, .string x55.2.2.2.2.1, .int .i64 x55.2.2.2.2.2.1, .int .i64 x55.2.2.2.2.2.2.1, x55.2.2.2.2.2.2.2.1], .agg #[.int .i64 x56.1, .string x56.2.1, .string x56.2.2.1, .string x56.2.2.2.1, .string x56.2.2.2.2.1, .int .i64 x56.2.2.2.2.2.1, .int .i64 x56.2.2.2.2.2.2.1, .int .i64 x56.2.2.2.2.2.2.2.1, .string x56.2.2.2.2.2.2.2.2.1, .int .i64 x56.2.2.2.2.2.2.2.2.2.1, .slice x56.2.2.2.2.2.2.2.2.2.2.1.1 x56.2.2.2.2.2.2.2.2.2.2.1.2.1 x56.2.2.2.2.2.2.2.2.2.2.1.2.2], .bool x45]) w54)))))))))))))))))))))
  (DrewK w40 (fun w57 => HoldK (fun S58 => InK S58 (⟨g38, 0, none⟩ : Addr) (LdsK [.int .i64, .str, .str, .str, .str, .int .i64, .int .i64, .raw] (⟨g38, 0, none⟩ : Addr) w57 (fun (x59 : Int × ByteArray × ByteArray × ByteArray × ByteArray × Int × Int × Value × Unit) => InK S58 (⟨g38, 0, none⟩ : Addr) (LdsK [.int .i64, .str, .str, .str, .str, .int .i64, .int .i64, .raw] (⟨g38, 0, none⟩ : Addr) w57 (fun (x60 : Int × ByteArray × ByteArray × ByteArray × ByteArray × Int × Int × Value × Unit) => CallK Tryz.prog 30 #[.agg #[.int .i64 x60.1, .string x60.2.1, .string x60.2.2.1, .string x60.2.2.2.1, .string x60.2.2.2.2.1, .int .i64 x60.2.2.2.2.2.1, .int .i64 x60.2.2.2.2.2.2.1, x60.2.2.2.2.2.2.2.1]] w57 (.v (.agg [.int .i64, .str, .str, .str, .str, .int .i64, .int .i64, .int .i64, .str, .int .i64, .slc])) (fun (x61 : Int × ByteArray × ByteArray × ByteArray × ByteArray × Int × Int × Int × ByteArray × Int × (Option Addr × Nat × Nat) × Unit) w62 => KeepK S58 w57 w62 (StsK (⟨g3, 0, none⟩ : Addr) [.int .i64 x59.1, .string x59.2.1, .string x59.2.2.1, .string x59.2.2.2.1, .string x59.2.2.2.2.1, .int .i64 x59.2.2.2.2.2.1, .int .i64 x59.2.2.2.2.2.2.1, x59.2.2.2.2.2.2.2.1] w62 (fun w63 => KeepK S58 w62 w63 (StsK (⟨g5, 0, none⟩ : Addr) [.int .i64 x61.1, .string x61.2.1, .string x61.2.2.1, .string x61.2.2.2.1, .string x61.2.2.2.2.1, .int .i64 x61.2.2.2.2.2.1, .int .i64 x61.2.2.2.2.2.2.1, .int .i64 x61.2.2.2.2.2.2.2.1, .string x61.2.2.2.2.2.2.2.2.1, .int .i64 x61.2.2.2.2.2.2.2.2.2.1, .slice x61.2.2.2.2.2.2.2.2.2.2.1.1 x61.2.2.2.2.2.2.2.2.2.2.1.2.1 x61.2.2.2.2.2.2.2.2.2.2.1.2.2] w63 (fun w64 => KeepK S58 w63 w64 (LdsK [.int .i64, .str, .str, .str, .str, .int .i64, .int .i64, .raw] (⟨g3, 0, none⟩ : Addr) w64 (fun (x65 : Int × ByteArray × ByteArray × ByteArray × ByteArray × Int × Int × Value × Unit) => LdsK [.int .i64, .str, .str, .str, .str, .int .i64, .int .i64, .int .i64, .str, .int .i64, .slc] (⟨g5, 0, none⟩ : Addr) w64 (fun (x66 : Int × ByteArray × ByteArray × ByteArray × ByteArray × Int × Int × Int × ByteArray × Int × (Option Addr × Nat × Nat) × Unit) => K (.tuple #[.agg #[.int .i64 x65.1, .string x65.2.1, .string x65.2.2.1, .string x65.2.2.2.1, .string x65.2.2.2.2.1, .int .i64 x65.2.2.2.2.2.1, .int .i64 x65.2.2.2.2.2.2.1, x65.2.2.2.2.2.2.2.1], .agg #[.int .i64 x66.1, .string x66.2.1, .string x66.2.2.1, .string x66.2.2.2.1, .string x66.2.2.2.2.1, .int .i64 x66.2.2.2.2.2.1, .int .i64 x66.2.2.2.2.2.2.1, .int .i64 x66.2.2.2.2.2.2.2.1, .string x66.2.2.2.2.2.2.2.2.1, .int .i64 x66.2.2.2.2.2.2.2.2.2.1, .slice x66.2.2.2.2.2.2.2.2.2.2.1.1 x66.2.2.2.2.2.2.2.2.2.2.1.2.1 x66.2.2.2.2.2.2.2.2.2.2.1.2.2], .bool false]) w64))))))))))))))))))))))))))))
def pl11 : Plan := (.seq .auto (.seq .auto (.join [] .auto (.seq .auto (.seq .auto (.seq .auto (.seq (.held (.soft 0 (.soft 1 (.soft 3 (.pick 2 (.pick 4 (.pick 5 (.soft 6 .done) .stop) .stop) .stop))))) .auto)))))))
theorem e11 (p0 : Int × Int × Int × Int × Int × ByteArray × (Option Addr × Nat × Nat) × (Option Addr × Nat × Nat) × Unit) (p1 : Int) (p2 : Int) (p3 : ByteArray) (p4 : Int) (w : World) (K : Value → World → Prop) : vcFunc Tryz.prog Tryz.f11 pl11 [.agg #[.int .i64 p0.1, .int .i64 p0.2.1, .int .i64 p0.2.2.1, .int .i64 p0.2.2.2.1, .int .i64 p0.2.2.2.2.1, .string p0.2.2.2.2.2.1, .slice p0.2.2.2.2.2.2.1.1 p0.2.2.2.2.2.2.1.2.1 p0.2.2.2.2.2.2.1.2.2, .slice p0.2.2.2.2.2.2.2.1.1 p0.2.2.2.2.2.2.2.1.2.1 p0.2.2.2.2.2.2.2.1.2.2], .int .i64 p1, .int .i64 p2, .string p3, .int .i64 p4] w K = C11 p0 p1 p2 p3 p4 w K := by kernel_rfl
theorem c11 (p0 : Int × Int × Int × Int × Int × ByteArray × (Option Addr × Nat × Nat) × (Option Addr × Nat × Nat) × Unit) (p1 : Int) (p2 : Int) (p3 : ByteArray) (p4 : Int) (w : World) (K : Value → World → Prop) (h : C11 p0 p1 p2 p3 p4 w K) : Ret Tryz.prog 11 #[.agg #[.int .i64 p0.1, .int .i64 p0.2.1, .int .i64 p0.2.2.1, .int .i64 p0.2.2.2.1, .int .i64 p0.2.2.2.2.1, .string p0.2.2.2.2.2.1, .slice p0.2.2.2.2.2.2.1.1 p0.2.2.2.2.2.2.1.2.1 p0.2.2.2.2.2.2.1.2.2, .slice p0.2.2.2.2.2.2.2.1.1 p0.2.2.2.2.2.2.2.1.2.1 p0.2.2.2.2.2.2.2.1.2.2], .int .i64 p1, .int .i64 p2, .string p3, .int .i64 p4] w K := by
  rw [← e11] at h
  exact vcFunc_sound (by kernel_rfl) Tryz.func11 h

/-- handfast/handfastplay.Do -/
def C48 (p0 : Option Addr) (p1 : Int × Int × Int × Int × Int × ByteArray × (Option Addr × Nat × Nat) × (Option Addr × Nat × Nat) × Unit) (p2 : Int) (w : World) (K : Value → World → Prop) : Prop :=
  NewK (.cells #[.int .i64 p1.1, .int .i64 p1.2.1, .int .i64 p1.2.2.1, .int .i64 p1.2.2.2.1, .int .i64 p1.2.2.2.2.1, .string p1.2.2.2.2.2.1, .slice p1.2.2.2.2.2.2.1.1 p1.2.2.2.2.2.2.1.2.1 p1.2.2.2.2.2.2.1.2.2, .slice p1.2.2.2.2.2.2.2.1.1 p1.2.2.2.2.2.2.2.1.2.1 p1.2.2.2.2.2.2.2.1.2.2] 27) w (fun g1 w2 => NewK (.cells #[.int .i64 0, .string (⟨#[]⟩ : ByteArray), .string (⟨#[]⟩ : ByteArray), .string (⟨#[]⟩ : ByteArray), .string (⟨#[]⟩ : ByteArray), .int .i64 0, .int .i64 0, .int .i64 0, .string (⟨#[]⟩ : ByteArray), .int .i64 0, .slice none 0 0] 35) w2 (fun g3 w4 => NewK (.cells #[.int .i64 0, .string (⟨#[]⟩ : ByteArray), .string (⟨#[]⟩ : ByteArray), .string (⟨#[]⟩ : ByteArray), .string (⟨#[]⟩ : ByteArray), .int .i64 0, .int .i64 0, .int .i64 0, .string (⟨#[]⟩ : ByteArray), .int .i64 0, .slice none 0 0] 35) w4 (fun g5 w6 => StsK (⟨g5, 0, none⟩ : Addr) [.int .i64 0, .string (⟨#[]⟩ : ByteArray), .string (⟨#[]⟩ : ByteArray), .string (⟨#[]⟩ : ByteArray), .string (⟨#[]⟩ : ByteArray), .int .i64 0, .int .i64 0, .int .i64 0, .string (⟨#[]⟩ : ByteArray), .int .i64 0, .slice none 0 0] w6 (fun w7 => LdK (.int .i64) ((⟨g1, 0, none⟩ : Addr).add 1) w7 (fun (x8 : Int) => CallK Tryz.prog 85 #[.string (⟨#[116]⟩ : ByteArray), .int .i64 x8, .int .i64 5] w7 (.v (.one .str)) (fun (x9 : ByteArray) w10 => JoinK (ByteArray × Unit) (fun J11 => LdK (.int .i64) ((⟨g1, 0, none⟩ : Addr).add 1) w10 (fun (x14 : Int) => NzK 19 (ifB ((x14.tmod 19) == 18)
  (LdK .str ((⟨g1, 0, none⟩ : Addr).add 5) w10 (fun (x15 : ByteArray) => CallK Tryz.prog 49 #[.string x15, .int .i64 14] w10 (.v (.one .str)) (fun (x16 : ByteArray) w17 => J11 (x16, ()) w17)))
  (J11 (x9, ()) w10))))
  (fun _ s12 w13 => LdK (.int .i64) ((⟨g1, 0, none⟩ : Addr).add 0) w13 (fun (x18 : Int) => CallK Tryz.prog 22 #[.int .i64 x18, .int .i64 20] w13 (.v (.one (.int .i64))) (fun (x19 : Int) w20 => ifB (x19 == 0)
  (StK ((⟨g5, 0, none⟩ : Addr).add 0) (.int .i64 1) w20 (fun w21 => LdsK [.int .i64, .str, .str, .str, .str, .int .i64, .int .i64, .int .i64, .str, .int .i64, .slc] (⟨g5, 0, none⟩ : Addr) w21 (fun (x22 : Int × ByteArray × ByteArray × ByteArray × ByteArray × Int × Int × Int × ByteArray × Int × (Option Addr × Nat × Nat) × Unit) => StsK (⟨g3, 0, none⟩ : Addr) [.int .i64 x22.1, .string x22.2.1, .string x22.2.2.1, .string x22.2.2.2.1, .string x22.2.2.2.2.1, .int .i64 x22.2.2.2.2.2.1, .int .i64 x22.2.2.2.2.2.2.1, .int .i64 x22.2.2.2.2.2.2.2.1, .string x22.2.2.2.2.2.2.2.2.1, .int .i64 x22.2.2.2.2.2.2.2.2.2.1, .slice x22.2.2.2.2.2.2.2.2.2.2.1.1 x22.2.2.2.2.2.2.2.2.2.2.1.2.1 x22.2.2.2.2.2.2.2.2.2.2.1.2.2] w21 (fun w23 => LdsK [.int .i64, .str, .str, .str, .str, .int .i64, .int .i64, .int .i64, .str, .int .i64, .slc] (⟨g3, 0, none⟩ : Addr) w23 (fun (x24 : Int × ByteArray × ByteArray × ByteArray × ByteArray × Int × Int × Int × ByteArray × Int × (Option Addr × Nat × Nat) × Unit) => K (.agg #[.int .i64 x24.1, .string x24.2.1, .string x24.2.2.1, .string x24.2.2.2.1, .string x24.2.2.2.2.1, .int .i64 x24.2.2.2.2.2.1, .int .i64 x24.2.2.2.2.2.2.1, .int .i64 x24.2.2.2.2.2.2.2.1, .string x24.2.2.2.2.2.2.2.2.1, .int .i64 x24.2.2.2.2.2.2.2.2.2.1, .slice x24.2.2.2.2.2.2.2.2.2.2.1.1 x24.2.2.2.2.2.2.2.2.2.2.1.2.1 x24.2.2.2.2.2.2.2.2.2.2.1.2.2]) w23)))))
  (ifB (decide (x19 < 7))
  (LdsK [.slc, .slc] ((⟨g1, 0, none⟩ : Addr).add 6) w20 (fun (x25 : (Option Addr × Nat × Nat) × (Option Addr × Nat × Nat) × Unit) => CallK Tryz.prog 86 #[.agg #[.slice x25.1.1 x25.1.2.1 x25.1.2.2, .slice x25.2.1.1 x25.2.1.2.1 x25.2.1.2.2]] w20 (.v (.agg [.int .i64, .str, .int .i64, .slc])) (fun (x26 : Int × ByteArray × Int × (Option Addr × Nat × Nat) × Unit) w27 => StK ((⟨g5, 0, none⟩ : Addr).add 0) (.int .i64 2) w27 (fun w28 => StK ((⟨g5, 0, none⟩ : Addr).add 1) (.string s12.1) w28 (fun w29 => StsK ((⟨g5, 0, none⟩ : Addr).add 7) [.int .i64 x26.1, .string x26.2.1, .int .i64 x26.2.2.1, .slice x26.2.2.2.1.1 x26.2.2.2.1.2.1 x26.2.2.2.1.2.2] w29 (fun w30 => LdK (.int .i64) ((⟨g1, 0, none⟩ : Addr).add 2) w30 (fun (x31 : Int) => NzK 17 (ifB ((x31.tmod 17) == 16)
  (LdsK [.slc, .slc] ((⟨g1, 0, none⟩ : Addr).add 6) w30 (fun (x32 : (Option Addr × Nat × Nat) × (Option Addr × Nat × Nat) × Unit) => CallK Tryz.prog 87 #[.agg #[.slice x32.1.1 x32.1.2.1 x32.1.2.2, .slice x32.2.1.1 x32.2.1.2.1 x32.2.1.2.2]] w30 (.v (.agg [.int .i64, .str, .int .i64, .slc])) (fun (x33 : Int × ByteArray × Int × (Option Addr × Nat × Nat) × Unit) w34 => StsK ((⟨g5, 0, none⟩ : Addr).add 7) [.int .i64 x33.1, .string x33.2.1, .int .i64 x33.2.2.1, .slice x33.2.2.2.1.1 x33.2.2.2.1.2.1 x33.2.2.2.1.2.2] w34 (fun w35 => LdsK [.int .i64, .str, .str, .str, .str, .int .i64, .int .i64, .int .i64, .str, .int .i64, .slc] (⟨g5, 0, none⟩ : Addr) w35 (fun (x36 : Int × ByteArray × ByteArray × ByteArray × ByteArray × Int × Int × Int × ByteArray × Int × (Option Addr × Nat × Nat) × Unit) => StsK (⟨g3, 0, none⟩ : Addr) [.int .i64 x36.1, .string x36.2.1, .string x36.2.2.1, .string x36.2.2.2.1, .string x36.2.2.2.2.1, .int .i64 x36.2.2.2.2.2.1, .int .i64 x36.2.2.2.2.2.2.1, .int .i64 x36.2.2.2.2.2.2.2.1, .string x36.2.2.2.2.2.2.2.2.1, .int .i64 x36.2.2.2.2.2.2.2.2.2.1, .slice x36.2.2.2.2.2.2.2.2.2.2.1.1 x36.2.2.2.2.2.2.2.2.2.2.1.2.1 x36.2.2.2.2.2.2.2.2.2.2.1.2.2] w35 (fun w37 => LdsK [.int .i64, .str, .str, .str, .str, .int .i64, .int .i64, .int .i64, .str, .int .i64, .slc] (⟨g3, 0, none⟩ : Addr) w37 (fun (x38 : Int × ByteArray × ByteArray × ByteArray × ByteArray × Int × Int × Int × ByteArray × Int × (Option Addr × Nat × Nat) × Unit) => K (.agg #[.int .i64 x38.1, .string x38.2.1, .string x38.2.2.1, .string x38.2.2.2.1, .string x38.2.2.2.2.1, .int .i64 x38.2.2.2.2.2.1, .int .i64 x38.2.2.2.2.2.2.1, .int .i64 x38.2.2.2.2.2.2.2.1, .string x38.2.2.2.2.2.2.2.2.1, .int .i64 x38.2.2.2.2.2.2.2.2.2.1, .slice x38.2.2.2.2.2.2.2.2.2.2.1.1 x38.2.2.2.2.2.2.2.2.2.2.1.2.1 x38.2.2.2.2.2.2.2.2.2.2.1.2.2]) w37)))))))
  (LdsK [.int .i64, .str, .str, .str, .str, .int .i64, .int .i64, .int .i64, .str, .int .i64, .slc] (⟨g5, 0, none⟩ : Addr) w30 (fun (x39 : Int × ByteArray × ByteArray × ByteArray × ByteArray × Int × Int × Int × ByteArray × Int × (Option Addr × Nat × Nat) × Unit) => StsK (⟨g3, 0, none⟩ : Addr) [.int .i64 x39.1, .string x39.2.1, .string x39.2.2.1, .string x39.2.2.2.1, .string x39.2.2.2.2.1, .int .i64 x39.2.2.2.2.2.1, .int .i64 x39.2.2.2.2.2.2.1, .int .i64 x39.2.2.2.2.2.2.2.1, .string x39.2.2.2.2.2.2.2.2.1, .int .i64 x39.2.2.2.2.2.2.2.2.2.1, .slice x39.2.2.2.2.2.2.2.2.2.2.1.1 x39.2.2.2.2.2.2.2.2.2.2.1.2.1 x39.2.2.2.2.2.2.2.2.2.2.1.2.2] w30 (fun w40 => LdsK [.int .i64, .str, .str, .str, .str, .int .i64, .int .i64, .int .i64, .str, .int .i64, .slc] (⟨g3, 0, none⟩ : Addr) w40 (fun (x41 : Int × ByteArray × ByteArray × ByteArray × ByteArray × Int × Int × Int × ByteArray × Int × (Option Addr × Nat × Nat) × Unit) => K (.agg #[.int .i64 x41.1, .string x41.2.1, .string x41.2.2.1, .string x41.2.2.2.1, .string x41.2.2.2.2.1, .int .i64 x41.2.2.2.2.2.1, .int .i64 x41.2.2.2.2.2.2.1, .int .i64 x41.2.2.2.2.2.2.2.1, .string x41.2.2.2.2.2.2.2.2.1, .int .i64 x41.2.2.2.2.2.2.2.2.2.1, .slice x41.2.2.2.2.2.2.2.2.2.2.1.1 x41.2.2.2.2.2.2.2.2.2.2.1.2.1 x41.2.2.2.2.2.2.2.2.2.2.1.2.2]) w40))))))))))))
  (ifB (decide (x19 < 11))
  (JoinK (Unit) (fun J42 => DrewK w20 (fun w45 => HoldK (fun S46 => InK S46 ((⟨g1, 0, none⟩ : Addr).add 1) (LdK (.int .i64) ((⟨g1, 0, none⟩ : Addr).add 1) w45 (fun (x47 : Int) => InK S46 ((⟨g1, 0, none⟩ : Addr).add 3) (LdK (.int .i64) ((⟨g1, 0, none⟩ : Addr).add 3) w45 (fun (x48 : Int) => InK S46 ((⟨g1, 0, none⟩ : Addr).add 4) (LdK (.int .i64) ((⟨g1, 0, none⟩ : Addr).add 4) w45 (fun (x49 : Int) => AndK (RunK Tryz.prog (Instr.buildSlice 23 3 #[(0, .string (⟨#[108, 105, 98, 111, 114]⟩ : ByteArray)), (1, .string (⟨#[114, 97, 105, 110]⟩ : ByteArray)), (2, .string (⟨#[195, 182, 108]⟩ : ByteArray))]) w45 (.v (.one .slc)) (fun (x50 : Option Addr × Nat × Nat) w51 => KeepK S46 w45 w51 (CallK Tryz.prog 22 #[.int .i64 x47, .int .i64 3] w51 (.v (.one (.int .i64))) (fun (x52 : Int) w53 => KeepK S46 w51 w53 (IdxK x50.1 x50.2.1 x52 1 (fun a54 => InK S46 a54 (LdK .str a54 w53 (fun (x55 : ByteArray) => CallK Tryz.prog 22 #[.int .i64 x48, .int .i64 (IntKind.i64.wrap (p2 + 2))] w53 (.v (.one (.int .i64))) (fun (x56 : Int) w57 => KeepK S46 w53 w57 (CallK Tryz.prog 22 #[.int .i64 x49, .int .i64 30] w57 (.v (.one (.int .i64))) (fun (x58 : Int) w59 => KeepK S46 w57 w59 (StK ((⟨g5, 0, none⟩ : Addr).add 0) (.int .i64 3) w59 (fun w60 => KeepK S46 w59 w60 (StK ((⟨g5, 0, none⟩ : Addr).add 2) (.string x55) w60 (fun w61 => KeepK S46 w60 w61 (StK ((⟨g5, 0, none⟩ : Addr).add 5) (.int .i64 x56) w61 (fun w62 => KeepK S46 w61 w62 (StK ((⟨g5, 0, none⟩ : Addr).add 6) (.int .i64 (IntKind.i64.wrap (x58 - 10))) w62 (fun w63 => KeepK S46 w62 w63 (J42 (()) w63))))))))))))))))))))
  (CallK Tryz.prog 22 #[.int .i64 x47, .int .i64 3] w45 (.v (.one (.int .i64))) (fun (x64 : Int) w65 => KeepK S46 w45 w65 (AndK (RunK Tryz.prog (Instr.buildSlice 23 3 #[(0, .string (⟨#[108, 105, 98, 111, 114]⟩ : ByteArray)), (1, .string (⟨#[114, 97, 105, 110]⟩ : ByteArray)), (2, .string (⟨#[195, 182, 108]⟩ : ByteArray))]) w65 (.v (.one .slc)) (fun (x66 : Option Addr × Nat × Nat) w67 => KeepK S46 w65 w67 (IdxK x66.1 x66.2.1 x64 1 (fun a68 => InK S46 a68 (LdK .str a68 w67 (fun (x69 : ByteArray) => CallK Tryz.prog 22 #[.int .i64 x48, .int .i64 (IntKind.i64.wrap (p2 + 2))] w67 (.v (.one (.int .i64))) (fun (x70 : Int) w71 => KeepK S46 w67 w71 (CallK Tryz.prog 22 #[.int .i64 x49, .int .i64 30] w71 (.v (.one (.int .i64))) (fun (x72 : Int) w73 => KeepK S46 w71 w73 (StK ((⟨g5, 0, none⟩ : Addr).add 0) (.int .i64 3) w73 (fun w74 => KeepK S46 w73 w74 (StK ((⟨g5, 0, none⟩ : Addr).add 2) (.string x69) w74 (fun w75 => KeepK S46 w74 w75 (StK ((⟨g5, 0, none⟩ : Addr).add 5) (.int .i64 x70) w75 (fun w76 => KeepK S46 w75 w76 (StK ((⟨g5, 0, none⟩ : Addr).add 6) (.int .i64 (IntKind.i64.wrap (x72 - 10))) w76 (fun w77 => KeepK S46 w76 w77 (J42 (()) w77))))))))))))))))))
  (CallK Tryz.prog 22 #[.int .i64 x48, .int .i64 (IntKind.i64.wrap (p2 + 2))] w65 (.v (.one (.int .i64))) (fun (x78 : Int) w79 => KeepK S46 w65 w79 (AndK (RunK Tryz.prog (Instr.buildSlice 23 3 #[(0, .string (⟨#[108, 105, 98, 111, 114]⟩ : ByteArray)), (1, .string (⟨#[114, 97, 105, 110]⟩ : ByteArray)), (2, .string (⟨#[195, 182, 108]⟩ : ByteArray))]) w79 (.v (.one .slc)) (fun (x80 : Option Addr × Nat × Nat) w81 => KeepK S46 w79 w81 (IdxK x80.1 x80.2.1 x64 1 (fun a82 => InK S46 a82 (LdK .str a82 w81 (fun (x83 : ByteArray) => CallK Tryz.prog 22 #[.int .i64 x49, .int .i64 30] w81 (.v (.one (.int .i64))) (fun (x84 : Int) w85 => KeepK S46 w81 w85 (StK ((⟨g5, 0, none⟩ : Addr).add 0) (.int .i64 3) w85 (fun w86 => KeepK S46 w85 w86 (StK ((⟨g5, 0, none⟩ : Addr).add 2) (.string x83) w86 (fun w87 => KeepK S46 w86 w87 (StK ((⟨g5, 0, none⟩ : Addr).add 5) (.int .i64 x78) w87 (fun w88 => KeepK S46 w87 w88 (StK ((⟨g5, 0, none⟩ : Addr).add 6) (.int .i64 (IntKind.i64.wrap (x84 - 10))) w88 (fun w89 => KeepK S46 w88 w89 (J42 (()) w89))))))))))))))))
  (CallK Tryz.prog 22 #[.int .i64 x49, .int .i64 30] w79 (.v (.one (.int .i64))) (fun (x90 : Int) w91 => KeepK S46 w79 w91 (AndK (RunK Tryz.prog (Instr.buildSlice 23 3 #[(0, .string (⟨#[108, 105, 98, 111, 114]⟩ : ByteArray)), (1, .string (⟨#[114, 97, 105, 110]⟩ : ByteArray)), (2, .string (⟨#[195, 182, 108]⟩ : ByteArray))]) w91 (.v (.one .slc)) (fun (x92 : Option Addr × Nat × Nat) w93 => KeepK S46 w91 w93 (IdxK x92.1 x92.2.1 x64 1 (fun a94 => InK S46 a94 (LdK .str a94 w93 (fun (x95 : ByteArray) => StK ((⟨g5, 0, none⟩ : Addr).add 0) (.int .i64 3) w93 (fun w96 => KeepK S46 w93 w96 (StK ((⟨g5, 0, none⟩ : Addr).add 2) (.string x95) w96 (fun w97 => KeepK S46 w96 w97 (StK ((⟨g5, 0, none⟩ : Addr).add 5) (.int .i64 x78) w97 (fun w98 => KeepK S46 w97 w98 (StK ((⟨g5, 0, none⟩ : Addr).add 6) (.int .i64 (IntKind.i64.wrap (x90 - 10))) w98 (fun w99 => KeepK S46 w98 w99 (J42 (()) w99))))))))))))))
  (StK ((⟨g5, 0, none⟩ : Addr).add 0) (.int .i64 3) w91 (fun w100 => KeepK S46 w91 w100 (RunK Tryz.prog (Instr.buildSlice 23 3 #[(0, .string (⟨#[108, 105, 98, 111, 114]⟩ : ByteArray)), (1, .string (⟨#[114, 97, 105, 110]⟩ : ByteArray)), (2, .string (⟨#[195, 182, 108]⟩ : ByteArray))]) w100 (.v (.one .slc)) (fun (x101 : Option Addr × Nat × Nat) w102 => KeepK S46 w100 w102 (IdxK x101.1 x101.2.1 x64 1 (fun a103 => InK S46 a103 (LdK .str a103 w102 (fun (x104 : ByteArray) => StK ((⟨g5, 0, none⟩ : Addr).add 2) (.string x104) w102 (fun w105 => KeepK S46 w102 w105 (StK ((⟨g5, 0, none⟩ : Addr).add 5) (.int .i64 x78) w105 (fun w106 => KeepK S46 w105 w106 (StK ((⟨g5, 0, none⟩ : Addr).add 6) (.int .i64 (IntKind.i64.wrap (x90 - 10))) w106 (fun w107 => KeepK S46 w106 w107 (J42 (()) w107))))))))))))))))))))))))))))))))
  (fun _ s43 w44 => LdK (.int .i64) ((⟨g1, 0, none⟩ : Addr).add 2) w44 (fun (x108 : Int) => NzK 5 (ifB ((x108.tmod 5) == 0)
  (ifB (!(Option.isNone p0))
  (CallK Tryz.prog 88 #[.pointer p0] w44 (.v (.one .slc)) (fun (x109 : Option Addr × Nat × Nat) w110 => LoopK (Int × Unit) (fun _ s111 w112 next113 => ifB (decide (s111.1 < (x109.2.1 : Int)))
  (IdxK x109.1 x109.2.1 s111.1 5 (fun a114 => LdsK [.bool, .str, .str, .int .i64, .int .i64] a114 w112 (fun (x115 : Bool × ByteArray × ByteArray × Int × Int × Unit) => NewK (.cells #[.bool false, .string (⟨#[]⟩ : ByteArray), .string (⟨#[]⟩ : ByteArray), .int .i64 0, .int .i64 0] 150) w112 (fun g116 w117 => StsK (⟨g116, 0, none⟩ : Addr) [.bool x115.1, .string x115.2.1, .string x115.2.2.1, .int .i64 x115.2.2.2.1, .int .i64 x115.2.2.2.2.1] w117 (fun w118 => DrewK w118 (fun w119 => LdK .bool ((⟨g116, 0, none⟩ : Addr).add 0) w119 (fun (x120 : Bool) => ifB (!x120)
  (LdK (.int .i64) ((⟨g116, 0, none⟩ : Addr).add 3) w119 (fun (x121 : Int) => optA p0 (fun a122 => LdK (.int .i64) (a122.add 0) w119 (fun (x123 : Int) => ifB (decide (x121 ≤ x123))
  (DrewK w119 (fun w124 => HoldK (fun S125 => InK S125 ((⟨g116, 0, none⟩ : Addr).add 1) (LdK .str ((⟨g116, 0, none⟩ : Addr).add 1) w124 (fun (x126 : ByteArray) => InK S125 ((⟨g116, 0, none⟩ : Addr).add 3) (LdK (.int .i64) ((⟨g116, 0, none⟩ : Addr).add 3) w124 (fun (x127 : Int) => StK ((⟨g5, 0, none⟩ : Addr).add 2) (.string x126) w124 (fun w128 => KeepK S125 w124 w128 (StK ((⟨g5, 0, none⟩ : Addr).add 5) (.int .i64 x127) w128 (fun w129 => KeepK S125 w128 w129 (next113 (IntKind.i64.wrap (s111.1 + 1), ()) w129)))))))))))
  (next113 (IntKind.i64.wrap (s111.1 + 1), ()) w119)))))
  (next113 (IntKind.i64.wrap (s111.1 + 1), ()) w119))))))))
  (LdK (.int .i64) ((⟨g1, 0, none⟩ : Addr).add 2) w112 (fun (x130 : Int) => NzK 13 (ifB ((x130.tmod 13) == 12)
  (LdK (.int .i64) ((⟨g1, 0, none⟩ : Addr).add 4) w112 (fun (x131 : Int) => StK ((⟨g5, 0, none⟩ : Addr).add 6) (.int .i64 x131) w112 (fun w132 => LdsK [.int .i64, .str, .str, .str, .str, .int .i64, .int .i64, .int .i64, .str, .int .i64, .slc] (⟨g5, 0, none⟩ : Addr) w132 (fun (x133 : Int × ByteArray × ByteArray × ByteArray × ByteArray × Int × Int × Int × ByteArray × Int × (Option Addr × Nat × Nat) × Unit) => StsK (⟨g3, 0, none⟩ : Addr) [.int .i64 x133.1, .string x133.2.1, .string x133.2.2.1, .string x133.2.2.2.1, .string x133.2.2.2.2.1, .int .i64 x133.2.2.2.2.2.1, .int .i64 x133.2.2.2.2.2.2.1, .int .i64 x133.2.2.2.2.2.2.2.1, .string x133.2.2.2.2.2.2.2.2.1, .int .i64 x133.2.2.2.2.2.2.2.2.2.1, .slice x133.2.2.2.2.2.2.2.2.2.2.1.1 x133.2.2.2.2.2.2.2.2.2.2.1.2.1 x133.2.2.2.2.2.2.2.2.2.2.1.2.2] w132 (fun w134 => LdsK [.int .i64, .str, .str, .str, .str, .int .i64, .int .i64, .int .i64, .str, .int .i64, .slc] (⟨g3, 0, none⟩ : Addr) w134 (fun (x135 : Int × ByteArray × ByteArray × ByteArray × ByteArray × Int × Int × Int × ByteArray × Int × (Option Addr × Nat × Nat) × Unit) => K (.agg #[.int .i64 x135.1, .string x135.2.1, .string x135.2.2.1, .string x135.2.2.2.1, .string x135.2.2.2.2.1, .int .i64 x135.2.2.2.2.2.1, .int .i64 x135.2.2.2.2.2.2.1, .int .i64 x135.2.2.2.2.2.2.2.1, .string x135.2.2.2.2.2.2.2.2.1, .int .i64 x135.2.2.2.2.2.2.2.2.2.1, .slice x135.2.2.2.2.2.2.2.2.2.2.1.1 x135.2.2.2.2.2.2.2.2.2.2.1.2.1 x135.2.2.2.2.2.2.2.2.2.2.1.2.2]) w134))))))
  (LdsK [.int .i64, .str, .str, .str, .str, .int .i64, .int .i64, .int .i64, .str, .int .i64, .slc] (⟨g5, 0, none⟩ : Addr) w112 (fun (x136 : Int × ByteArray × ByteArray × ByteArray × ByteArray × Int × Int × Int × ByteArray × Int × (Option Addr × Nat × Nat) × Unit) => StsK (⟨g3, 0, none⟩ : Addr) [.int .i64 x136.1, .string x136.2.1, .string x136.2.2.1, .string x136.2.2.2.1, .string x136.2.2.2.2.1, .int .i64 x136.2.2.2.2.2.1, .int .i64 x136.2.2.2.2.2.2.1, .int .i64 x136.2.2.2.2.2.2.2.1, .string x136.2.2.2.2.2.2.2.2.1, .int .i64 x136.2.2.2.2.2.2.2.2.2.1, .slice x136.2.2.2.2.2.2.2.2.2.2.1.1 x136.2.2.2.2.2.2.2.2.2.2.1.2.1 x136.2.2.2.2.2.2.2.2.2.2.1.2.2] w112 (fun w137 => LdsK [.int .i64, .str, .str, .str, .str, .int .i64, .int .i64, .int .i64, .str, .int .i64, .slc] (⟨g3, 0, none⟩ : Addr) w137 (fun (x138 : Int × ByteArray × ByteArray × ByteArray × ByteArray × Int × Int × Int × ByteArray × Int × (Option Addr × Nat × Nat) × Unit) => K (.agg #[.int .i64 x138.1, .string x138.2.1, .string x138.2.2.1, .string x138.2.2.2.1, .string x138.2.2.2.2.1, .int .i64 x138.2.2.2.2.2.1, .int .i64 x138.2.2.2.2.2.2.1, .int .i64 x138.2.2.2.2.2.2.2.1, .string x138.2.2.2.2.2.2.2.2.1, .int .i64 x138.2.2.2.2.2.2.2.2.2.1, .slice x138.2.2.2.2.2.2.2.2.2.2.1.1 x138.2.2.2.2.2.2.2.2.2.2.1.2.1 x138.2.2.2.2.2.2.2.2.2.2.1.2.2]) w137))))))))
  (0, ()) w110))
  (LdK (.int .i64) ((⟨g1, 0, none⟩ : Addr).add 2) w44 (fun (x139 : Int) => NzK 13 (ifB ((x139.tmod 13) == 12)
  (LdK (.int .i64) ((⟨g1, 0, none⟩ : Addr).add 4) w44 (fun (x140 : Int) => StK ((⟨g5, 0, none⟩ : Addr).add 6) (.int .i64 x140) w44 (fun w141 => LdsK [.int .i64, .str, .str, .str, .str, .int .i64, .int .i64, .int .i64, .str, .int .i64, .slc] (⟨g5, 0, none⟩ : Addr) w141 (fun (x142 : Int × ByteArray × ByteArray × ByteArray × ByteArray × Int × Int × Int × ByteArray × Int × (Option Addr × Nat × Nat) × Unit) => StsK (⟨g3, 0, none⟩ : Addr) [.int .i64 x142.1, .string x142.2.1, .string x142.2.2.1, .string x142.2.2.2.1, .string x142.2.2.2.2.1, .int .i64 x142.2.2.2.2.2.1, .int .i64 x142.2.2.2.2.2.2.1, .int .i64 x142.2.2.2.2.2.2.2.1, .string x142.2.2.2.2.2.2.2.2.1, .int .i64 x142.2.2.2.2.2.2.2.2.2.1, .slice x142.2.2.2.2.2.2.2.2.2.2.1.1 x142.2.2.2.2.2.2.2.2.2.2.1.2.1 x142.2.2.2.2.2.2.2.2.2.2.1.2.2] w141 (fun w143 => LdsK [.int .i64, .str, .str, .str, .str, .int .i64, .int .i64, .int .i64, .str, .int .i64, .slc] (⟨g3, 0, none⟩ : Addr) w143 (fun (x144 : Int × ByteArray × ByteArray × ByteArray × ByteArray × Int × Int × Int × ByteArray × Int × (Option Addr × Nat × Nat) × Unit) => K (.agg #[.int .i64 x144.1, .string x144.2.1, .string x144.2.2.1, .string x144.2.2.2.1, .string x144.2.2.2.2.1, .int .i64 x144.2.2.2.2.2.1, .int .i64 x144.2.2.2.2.2.2.1, .int .i64 x144.2.2.2.2.2.2.2.1, .string x144.2.2.2.2.2.2.2.2.1, .int .i64 x144.2.2.2.2.2.2.2.2.2.1, .slice x144.2.2.2.2.2.2.2.2.2.2.1.1 x144.2.2.2.2.2.2.2.2.2.2.1.2.1 x144.2.2.2.2.2.2.2.2.2.2.1.2.2]) w143))))))
  (LdsK [.int .i64, .str, .str, .str, .str, .int .i64, .int .i64, .int .i64, .str, .int .i64, .slc] (⟨g5, 0, none⟩ : Addr) w44 (fun (x145 : Int × ByteArray × ByteArray × ByteArray × ByteArray × Int × Int × Int × ByteArray × Int × (Option Addr × Nat × Nat) × Unit) => StsK (⟨g3, 0, none⟩ : Addr) [.int .i64 x145.1, .string x145.2.1, .string x145.2.2.1, .string x145.2.2.2.1, .string x145.2.2.2.2.1, .int .i64 x145.2.2.2.2.2.1, .int .i64 x145.2.2.2.2.2.2.1, .int .i64 x145.2.2.2.2.2.2.2.1, .string x145.2.2.2.2.2.2.2.2.1, .int .i64 x145.2.2.2.2.2.2.2.2.2.1, .slice x145.2.2.2.2.2.2.2.2.2.2.1.1 x145.2.2.2.2.2.2.2.2.2.2.1.2.1 x145.2.2.2.2.2.2.2.2.2.2.1.2.2] w44 (fun w146 => LdsK [.int .i64, .str, .str, .str, .str, .int .i64, .int .i64, .int .i64, .str, .int .i64, .slc] (⟨g3, 0, none⟩ : Addr) w146 (fun (x147 : Int × ByteArray × ByteArray × ByteArray × ByteArray × Int × Int × Int × ByteArray × Int × (Option Addr × Nat × Nat) × Unit) => K (.agg #[.int .i64 x147.1, .string x147.2.1, .string x147.2.2.1, .string x147.2.2.2.1, .string x147.2.2.2.2.1, .int .i64 x147.2.2.2.2.2.1, .int .i64 x147.2.2.2.2.2.2.1, .int .i64 x147.2.2.2.2.2.2.2.1, .string x147.2.2.2.2.2.2.2.2.1, .int .i64 x147.2.2.2.2.2.2.2.2.2.1, .slice x147.2.2.2.2.2.2.2.2.2.2.1.1 x147.2.2.2.2.2.2.2.2.2.2.1.2.1 x147.2.2.2.2.2.2.2.2.2.2.1.2.2]) w146))))))))
  (LdK (.int .i64) ((⟨g1, 0, none⟩ : Addr).add 2) w44 (fun (x148 : Int) => NzK 13 (ifB ((x148.tmod 13) == 12)
  (LdK (.int .i64) ((⟨g1, 0, none⟩ : Addr).add 4) w44 (fun (x149 : Int) => StK ((⟨g5, 0, none⟩ : Addr).add 6) (.int .i64 x149) w44 (fun w150 => LdsK [.int .i64, .str, .str, .str, .str, .int .i64, .int .i64, .int .i64, .str, .int .i64, .slc] (⟨g5, 0, none⟩ : Addr) w150 (fun (x151 : Int × ByteArray × ByteArray × ByteArray × ByteArray × Int × Int × Int × ByteArray × Int × (Option Addr × Nat × Nat) × Unit) => StsK (⟨g3, 0, none⟩ : Addr) [.int .i64 x151.1, .string x151.2.1, .string x151.2.2.1, .string x151.2.2.2.1, .string x151.2.2.2.2.1, .int .i64 x151.2.2.2.2.2.1, .int .i64 x151.2.2.2.2.2.2.1, .int .i64 x151.2.2.2.2.2.2.2.1, .string x151.2.2.2.2.2.2.2.2.1, .int .i64 x151.2.2.2.2.2.2.2.2.2.1, .slice x151.2.2.2.2.2.2.2.2.2.2.1.1 x151.2.2.2.2.2.2.2.2.2.2.1.2.1 x151.2.2.2.2.2.2.2.2.2.2.1.2.2] w150 (fun w152 => LdsK [.int .i64, .str, .str, .str, .str, .int .i64, .int .i64, .int .i64, .str, .int .i64, .slc] (⟨g3, 0, none⟩ : Addr) w152 (fun (x153 : Int × ByteArray × ByteArray × ByteArray × ByteArray × Int × Int × Int × ByteArray × Int × (Option Addr × Nat × Nat) × Unit) => K (.agg #[.int .i64 x153.1, .string x153.2.1, .string x153.2.2.1, .string x153.2.2.2.1, .string x153.2.2.2.2.1, .int .i64 x153.2.2.2.2.2.1, .int .i64 x153.2.2.2.2.2.2.1, .int .i64 x153.2.2.2.2.2.2.2.1, .string x153.2.2.2.2.2.2.2.2.1, .int .i64 x153.2.2.2.2.2.2.2.2.2.1, .slice x153.2.2.2.2.2.2.2.2.2.2.1.1 x153.2.2.2.2.2.2.2.2.2.2.1.2.1 x153.2.2.2.2.2.2.2.2.2.2.1.2.2]) w152))))))
  (LdsK [.int .i64, .str, .str, .str, .str, .int .i64, .int .i64, .int .i64, .str, .int .i64, .slc] (⟨g5, 0, none⟩ : Addr) w44 (fun (x154 : Int × ByteArray × ByteArray × ByteArray × ByteArray × Int × Int × Int × ByteArray × Int × (Option Addr × Nat × Nat) × Unit) => StsK (⟨g3, 0, none⟩ : Addr) [.int .i64 x154.1, .string x154.2.1, .string x154.2.2.1, .string x154.2.2.2.1, .string x154.2.2.2.2.1, .int .i64 x154.2.2.2.2.2.1, .int .i64 x154.2.2.2.2.2.2.1, .int .i64 x154.2.2.2.2.2.2.2.1, .string x154.2.2.2.2.2.2.2.2.1, .int .i64 x154.2.2.2.2.2.2.2.2.2.1, .slice x154.2.2.2.2.2.2.2.2.2.2.1.1 x154.2.2.2.2.2.2.2.2.2.2.1.2.1 x154.2.2.2.2.2.2.2.2.2.2.1.2.2] w44 (fun w155 => LdsK [.int .i64, .str, .str, .str, .str, .int .i64, .int .i64, .int .i64, .str, .int .i64, .slc] (⟨g3, 0, none⟩ : Addr) w155 (fun (x156 : Int × ByteArray × ByteArray × ByteArray × ByteArray × Int × Int × Int × ByteArray × Int × (Option Addr × Nat × Nat) × Unit) => K (.agg #[.int .i64 x156.1, .string x156.2.1, .string x156.2.2.1, .string x156.2.2.2.1, .string x156.2.2.2.2.1, .int .i64 x156.2.2.2.2.2.1, .int .i64 x156.2.2.2.2.2.2.1, .int .i64 x156.2.2.2.2.2.2.2.1, .string x156.2.2.2.2.2.2.2.2.1, .int .i64 x156.2.2.2.2.2.2.2.2.2.1, .slice x156.2.2.2.2.2.2.2.2.2.2.1.1 x156.2.2.2.2.2.2.2.2.2.2.1.2.1 x156.2.2.2.2.2.2.2.2.2.2.1.2.2]) w155)))))))))))
  (ifB (decide (x19 < 14))
  (DrewK w20 (fun w157 => HoldK (fun S158 => InK S158 ((⟨g1, 0, none⟩ : Addr).add 2) (LdK (.int .i64) ((⟨g1, 0, none⟩ : Addr).add 2) w157 (fun (x159 : Int) => InK S158 ((⟨g1, 0, none⟩ : Addr).add 4) (LdK (.int .i64) ((⟨g1, 0, none⟩ : Addr).add 4) w157 (fun (x160 : Int) => CallK Tryz.prog 22 #[.int .i64 x159, .int .i64 3] w157 (.v (.one (.int .i64))) (fun (x161 : Int) w162 => KeepK S158 w157 w162 (CallK Tryz.prog 89 #[.int .i64 (IntKind.i64.wrap (1 + x161))] w162 (.v (.one .str)) (fun (x163 : ByteArray) w164 => KeepK S158 w162 w164 (CatK (⟨#[99, 104]⟩ : ByteArray) x163 (CallK Tryz.prog 22 #[.int .i64 x160, .int .i64 2] w164 (.v (.one (.int .i64))) (fun (x165 : Int) w166 => KeepK S158 w164 w166 (StK ((⟨g5, 0, none⟩ : Addr).add 0) (.int .i64 4) w166 (fun w167 => KeepK S158 w166 w167 (StK ((⟨g5, 0, none⟩ : Addr).add 1) (.string s12.1) w167 (fun w168 => KeepK S158 w167 w168 (StK ((⟨g5, 0, none⟩ : Addr).add 3) (.string ((⟨#[99, 104]⟩ : ByteArray) ++ x163)) w168 (fun w169 => KeepK S158 w168 w169 (StK ((⟨g5, 0, none⟩ : Addr).add 6) (.int .i64 x165) w169 (fun w170 => KeepK S158 w169 w170 (LdK (.int .i64) ((⟨g1, 0, none⟩ : Addr).add 2) w170 (fun (x171 : Int) => NzK 3 (ifB ((x171.tmod 3) == 0)
  (ifB (!(Option.isNone p0))
  (optA p0 (fun a172 => LdK .slc (a172.add 1) w170 (fun (x173 : Option Addr × Nat × Nat) => LoopK (Int × Unit) (fun _ s174 w175 next176 => ifB (decide (s174.1 < (x173.2.1 : Int)))
  (IdxK x173.1 x173.2.1 s174.1 6 (fun a177 => LdsK [.str, .int .i64, .int .i64, .str, .int .i64, .slc] a177 w175 (fun (x178 : ByteArray × Int × Int × ByteArray × Int × (Option Addr × Nat × Nat) × Unit) => NewK (.cells #[.string (⟨#[]⟩ : ByteArray), .int .i64 0, .int .i64 0, .string (⟨#[]⟩ : ByteArray), .int .i64 0, .slice none 0 0] 157) w175 (fun g179 w180 => StsK (⟨g179, 0, none⟩ : Addr) [.string x178.1, .int .i64 x178.2.1, .int .i64 x178.2.2.1, .string x178.2.2.2.1, .int .i64 x178.2.2.2.2.1, .slice x178.2.2.2.2.2.1.1 x178.2.2.2.2.2.1.2.1 x178.2.2.2.2.2.1.2.2] w180 (fun w181 => DrewK w181 (fun w182 => HoldK (fun S183 => InK S183 ((⟨g179, 0, none⟩ : Addr).add 0) (LdK .str ((⟨g179, 0, none⟩ : Addr).add 0) w182 (fun (x184 : ByteArray) => InK S183 ((⟨g179, 0, none⟩ : Addr).add 2) (LdsK [.int .i64, .str, .int .i64, .slc] ((⟨g179, 0, none⟩ : Addr).add 2) w182 (fun (x185 : Int × ByteArray × Int × (Option Addr × Nat × Nat) × Unit) => InK S183 ((⟨g179, 0, none⟩ : Addr).add 1) (LdK (.int .i64) ((⟨g179, 0, none⟩ : Addr).add 1) w182 (fun (x186 : Int) => optA p0 (fun a187 => InK S183 (a187.add 2) (LdK .ptr (a187.add 2) w182 (fun (x188 : Option Addr) => CallK Tryz.prog 90 #[.string x184, .agg #[.int .i64 x185.1, .string x185.2.1, .int .i64 x185.2.2.1, .slice x185.2.2.2.1.1 x185.2.2.2.1.2.1 x185.2.2.2.1.2.2], .int .i64 x186, .pointer x188] w182 (.tup [.one .slc, .one .slc, .one (.int .i64)]) (fun (x189 : (Option Addr × Nat × Nat) × (Option Addr × Nat × Nat) × Int × Unit) w190 => KeepK S183 w182 w190 (LoopK (Int × Unit) (fun _ s191 w192 next193 => ifB (decide (s191.1 < (x189.2.1.2.1 : Int)))
  (IdxK x189.2.1.1 x189.2.1.2.1 s191.1 5 (fun a194 => LdsK [.bool, .str, .str, .int .i64, .int .i64] a194 w192 (fun (x195 : Bool × ByteArray × ByteArray × Int × Int × Unit) => NewK (.cells #[.bool false, .string (⟨#[]⟩ : ByteArray), .string (⟨#[]⟩ : ByteArray), .int .i64 0, .int .i64 0] 150) w192 (fun g196 w197 => StsK (⟨g196, 0, none⟩ : Addr) [.bool x195.1, .string x195.2.1, .string x195.2.2.1, .int .i64 x195.2.2.2.1, .int .i64 x195.2.2.2.2.1] w197 (fun w198 => LdK .bool ((⟨g196, 0, none⟩ : Addr).add 0) w198 (fun (x199 : Bool) => ifB x199
  (DrewK w198 (fun w200 => HoldK (fun S201 => InK S201 ((⟨g179, 0, none⟩ : Addr).add 0) (LdK .str ((⟨g179, 0, none⟩ : Addr).add 0) w200 (fun (x202 : ByteArray) => InK S201 ((⟨g196, 0, none⟩ : Addr).add 2) (LdK .str ((⟨g196, 0, none⟩ : Addr).add 2) w200 (fun (x203 : ByteArray) => StK ((⟨g5, 0, none⟩ : Addr).add 1) (.string x202) w200 (fun w204 => KeepK S201 w200 w204 (StK ((⟨g5, 0, none⟩ : Addr).add 3) (.string x203) w204 (fun w205 => KeepK S201 w204 w205 (next193 (IntKind.i64.wrap (s191.1 + 1), ()) w205)))))))))))
  (next193 (IntKind.i64.wrap (s191.1 + 1), ()) w198)))))))
  (next176 (IntKind.i64.wrap (s174.1 + 1), ()) w192))
  (0, ()) w190))))))))))))))))))
  (LdsK [.int .i64, .str, .str, .str, .str, .int .i64, .int .i64, .int .i64, .str, .int .i64, .slc] (⟨g5, 0, none⟩ : Addr) w175 (fun (x206 : Int × ByteArray × ByteArray × ByteArray × ByteArray × Int × Int × Int × ByteArray × Int × (Option Addr × Nat × Nat) × Unit) => StsK (⟨g3, 0, none⟩ : Addr) [.int .i64 x206.1, .string x206.2.1, .string x206.2.2.1, .string x206.2.2.2.1, .string x206.2.2.2.2.1, .int .i64 x206.2.2.2.2.2.1, .int .i64 x206.2.2.2.2.2.2.1, .int .i64 x206.2.2.2.2.2.2.2.1, .string x206.2.2.2.2.2.2.2.2.1, .int .i64 x206.2.2.2.2.2.2.2.2.2.1, .slice x206.2.2.2.2.2.2.2.2.2.2.1.1 x206.2.2.2.2.2.2.2.2.2.2.1.2.1 x206.2.2.2.2.2.2.2.2.2.2.1.2.2] w175 (fun w207 => LdsK [.int .i64, .str, .str, .str, .str, .int .i64, .int .i64, .int .i64, .str, .int .i64, .slc] (⟨g3, 0, none⟩ : Addr) w207 (fun (x208 : Int × ByteArray × ByteArray × ByteArray × ByteArray × Int × Int × Int × ByteArray × Int × (Option Addr × Nat × Nat) × Unit) => K (.agg #[.int .i64 x208.1, .string x208.2.1, .string x208.2.2.1, .string x208.2.2.2.1, .string x208.2.2.2.2.1, .int .i64 x208.2.2.2.2.2.1, .int .i64 x208.2.2.2.2.2.2.1, .int .i64 x208.2.2.2.2.2.2.2.1, .string x208.2.2.2.2.2.2.2.2.1, .int .i64 x208.2.2.2.2.2.2.2.2.2.1, .slice x208.2.2.2.2.2.2.2.2.2.2.1.1 x208.2.2.2.2.2.2.2.2.2.2.1.2.1 x208.2.2.2.2.2.2.2.2.2.2.1.2.2]) w207)))))
  (0, ()) w170)))
  (LdsK [.int .i64, .str, .str, .str, .str, .int .i64, .int .i64, .int .i64, .str, .int .i64, .slc] (⟨g5, 0, none⟩ : Addr) w170 (fun (x209 : Int × ByteArray × ByteArray × ByteArray × ByteArray × Int × Int × Int × ByteArray × Int × (Option Addr × Nat × Nat) × Unit) => StsK (⟨g3, 0, none⟩ : Addr) [.int .i64 x209.1, .string x209.2.1, .string x209.2.2.1, .string x209.2.2.2.1, .string x209.2.2.2.2.1, .int .i64 x209.2.2.2.2.2.1, .int .i64 x209.2.2.2.2.2.2.1, .int .i64 x209.2.2.2.2.2.2.2.1, .string x209.2.2.2.2.2.2.2.2.1, .int .i64 x209.2.2.2.2.2.2.2.2.2.1, .slice x209.2.2.2.2.2.2.2.2.2.2.1.1 x209.2.2.2.2.2.2.2.2.2.2.1.2.1 x209.2.2.2.2.2.2.2.2.2.2.1.2.2] w170 (fun w210 => LdsK [.int .i64, .str, .str, .str, .str, .int .i64, .int .i64, .int .i64, .str, .int .i64, .slc] (⟨g3, 0, none⟩ : Addr) w210 (fun (x211 : Int × ByteArray × ByteArray × ByteArray × ByteArray × Int × Int × Int × ByteArray × Int × (Option Addr × Nat × Nat) × Unit) => K (.agg #[.int .i64 x211.1, .string x211.2.1, .string x211.2.2.1, .string x211.2.2.2.1, .string x211.2.2.2.2.1, .int .i64 x211.2.2.2.2.2.1, .int .i64 x211.2.2.2.2.2.2.1, .int .i64 x211.2.2.2.2.2.2.2.1, .string x211.2.2.2.2.2.2.2.2.1, .int .i64 x211.2.2.2.2.2.2.2.2.2.1, .slice x211.2.2.2.2.2.2.2.2.2.2.1.1 x211.2.2.2.2.2.2.2.2.2.2.1.2.1 x211.2.2.2.2.2.2.2.2.2.2.1.2.2]) w210)))))
  (LdsK [.int .i64, .str, .str, .str, .str, .int .i64, .int .i64, .int .i64, .str, .int .i64, .slc] (⟨g5, 0, none⟩ : Addr) w170 (fun (x212 : Int × ByteArray × ByteArray × ByteArray × ByteArray × Int × Int × Int × ByteArray × Int × (Option Addr × Nat × Nat) × Unit) => StsK (⟨g3, 0, none⟩ : Addr) [.int .i64 x212.1, .string x212.2.1, .string x212.2.2.1, .string x212.2.2.2.1, .string x212.2.2.2.2.1, .int .i64 x212.2.2.2.2.2.1, .int .i64 x212.2.2.2.2.2.2.1, .int .i64 x212.2.2.2.2.2.2.2.1, .string x212.2.2.2.2.2.2.2.2.1, .int .i64 x212.2.2.2.2.2.2.2.2.2.1, .slice x212.2.2.2.2.2.2.2.2.2.2.1.1 x212.2.2.2.2.2.2.2.2.2.2.1.2.1 x212.2.2.2.2.2.2.2.2.2.2.1.2.2] w170 (fun w213 => LdsK [.int .i64, .str, .str, .str, .str, .int .i64, .int .i64, .int .i64, .str, .int .i64, .slc] (⟨g3, 0, none⟩ : Addr) w213 (fun (x214 : Int × ByteArray × ByteArray × ByteArray × ByteArray × Int × Int × Int × ByteArray × Int × (Option Addr × Nat × Nat) × Unit) => K (.agg #[.int .i64 x214.1, .string x214.2.1, .string x214.2.2.1, .string x214.2.2.2.1, .string x214.2.2.2.2.1, .int .i64 x214.2.2.2.2.2.1, .int .i64 x214.2.2.2.2.2.2.1, .int .i64 x214.2.2.2.2.2.2.2.1, .string x214.2.2.2.2.2.2.2.2.1, .int .i64 x214.2.2.2.2.2.2.2.2.2.1, .slice x214.2.2.2.2.2.2.2.2.2.2.1.1 x214.2.2.2.2.2.2.2.2.2.2.1.2.1 x214.2.2.2.2.2.2.2.2.2.2.1.2.2]) w213))))))))))))))))))))))))))))
  (ifB (decide (x19 < 17))
  (LdK (.int .i64) ((⟨g1, 0, none⟩ : Addr).add 3) w20 (fun (x215 : Int) => CallK Tryz.prog 22 #[.int .i64 x215, .int .i64 4] w20 (.v (.one (.int .i64))) (fun (x216 : Int) w217 => StK ((⟨g5, 0, none⟩ : Addr).add 0) (.int .i64 5) w217 (fun w218 => StK ((⟨g5, 0, none⟩ : Addr).add 5) (.int .i64 (IntKind.i64.wrap (x216 + p2))) w218 (fun w219 => LdsK [.int .i64, .str, .str, .str, .str, .int .i64, .int .i64, .int .i64, .str, .int .i64, .slc] (⟨g5, 0, none⟩ : Addr) w219 (fun (x220 : Int × ByteArray × ByteArray × ByteArray × ByteArray × Int × Int × Int × ByteArray × Int × (Option Addr × Nat × Nat) × Unit) => StsK (⟨g3, 0, none⟩ : Addr) [.int .i64 x220.1, .string x220.2.1, .string x220.2.2.1, .string x220.2.2.2.1, .string x220.2.2.2.2.1, .int .i64 x220.2.2.2.2.2.1, .int .i64 x220.2.2.2.2.2.2.1, .int .i64 x220.2.2.2.2.2.2.2.1, .string x220.2.2.2.2.2.2.2.2.1, .int .i64 x220.2.2.2.2.2.2.2.2.2.1, .slice x220.2.2.2.2.2.2.2.2.2.2.1.1 x220.2.2.2.2.2.2.2.2.2.2.1.2.1 x220.2.2.2.2.2.2.2.2.2.2.1.2.2] w219 (fun w221 => LdsK [.int .i64, .str, .str, .str, .str, .int .i64, .int .i64, .int .i64, .str, .int .i64, .slc] (⟨g3, 0, none⟩ : Addr) w221 (fun (x222 : Int × ByteArray × ByteArray × ByteArray × ByteArray × Int × Int × Int × ByteArray × Int × (Option Addr × Nat × Nat) × Unit) => K (.agg #[.int .i64 x222.1, .string x222.2.1, .string x222.2.2.1, .string x222.2.2.2.1, .string x222.2.2.2.2.1, .int .i64 x222.2.2.2.2.2.1, .int .i64 x222.2.2.2.2.2.2.1, .int .i64 x222.2.2.2.2.2.2.2.1, .string x222.2.2.2.2.2.2.2.2.1, .int .i64 x222.2.2.2.2.2.2.2.2.2.1, .slice x222.2.2.2.2.2.2.2.2.2.2.1.1 x222.2.2.2.2.2.2.2.2.2.2.1.2.1 x222.2.2.2.2.2.2.2.2.2.2.1.2.2]) w221))))))))
  (ifB (decide (x19 < 19))
  (JoinK (Unit) (fun J223 => DrewK w20 (fun w226 => HoldK (fun S227 => InK S227 ((⟨g1, 0, none⟩ : Addr).add 3) (LdK (.int .i64) ((⟨g1, 0, none⟩ : Addr).add 3) w226 (fun (x228 : Int) => InK S227 ((⟨g1, 0, none⟩ : Addr).add 1) (LdK (.int .i64) ((⟨g1, 0, none⟩ : Addr).add 1) w226 (fun (x229 : Int) => AndK (CallK Tryz.prog 22 #[.int .i64 x228, .int .i64 (IntKind.i64.wrap (p2 + 2))] w226 (.v (.one (.int .i64))) (fun (x230 : Int) w231 => KeepK S227 w226 w231 (AndK (RunK Tryz.prog (Instr.buildSlice 23 3 #[(0, .string (⟨#[117, 115, 100]⟩ : ByteArray)), (1, .string (⟨#[101, 117, 114]⟩ : ByteArray)), (2, .string (⟨#[103, 98, 112]⟩ : ByteArray))]) w231 (.v (.one .slc)) (fun (x232 : Option Addr × Nat × Nat) w233 => KeepK S227 w231 w233 (CallK Tryz.prog 22 #[.int .i64 x229, .int .i64 3] w233 (.v (.one (.int .i64))) (fun (x234 : Int) w235 => KeepK S227 w233 w235 (IdxK x232.1 x232.2.1 x234 1 (fun a236 => InK S227 a236 (LdK .str a236 w235 (fun (x237 : ByteArray) => StK ((⟨g5, 0, none⟩ : Addr).add 0) (.int .i64 6) w235 (fun w238 => KeepK S227 w235 w238 (StK ((⟨g5, 0, none⟩ : Addr).add 5) (.int .i64 x230) w238 (fun w239 => KeepK S227 w238 w239 (StK ((⟨g5, 0, none⟩ : Addr).add 4) (.string x237) w239 (fun w240 => KeepK S227 w239 w240 (J223 (()) w240))))))))))))))
  (CallK Tryz.prog 22 #[.int .i64 x229, .int .i64 3] w231 (.v (.one (.int .i64))) (fun (x241 : Int) w242 => KeepK S227 w231 w242 (AndK (RunK Tryz.prog (Instr.buildSlice 23 3 #[(0, .string (⟨#[117, 115, 100]⟩ : ByteArray)), (1, .string (⟨#[101, 117, 114]⟩ : ByteArray)), (2, .string (⟨#[103, 98, 112]⟩ : ByteArray))]) w242 (.v (.one .slc)) (fun (x243 : Option Addr × Nat × Nat) w244 => KeepK S227 w242 w244 (IdxK x243.1 x243.2.1 x241 1 (fun a245 => InK S227 a245 (LdK .str a245 w244 (fun (x246 : ByteArray) => StK ((⟨g5, 0, none⟩ : Addr).add 0) (.int .i64 6) w244 (fun w247 => KeepK S227 w244 w247 (StK ((⟨g5, 0, none⟩ : Addr).add 5) (.int .i64 x230) w247 (fun w248 => KeepK S227 w247 w248 (StK ((⟨g5, 0, none⟩ : Addr).add 4) (.string x246) w248 (fun w249 => KeepK S227 w248 w249 (J223 (()) w249))))))))))))
  (StK ((⟨g5, 0, none⟩ : Addr).add 0) (.int .i64 6) w242 (fun w250 => KeepK S227 w242 w250 (AndK (RunK Tryz.prog (Instr.buildSlice 23 3 #[(0, .string (⟨#[117, 115, 100]⟩ : ByteArray)), (1, .string (⟨#[101, 117, 114]⟩ : ByteArray)), (2, .string (⟨#[103, 98, 112]⟩ : ByteArray))]) w250 (.v (.one .slc)) (fun (x251 : Option Addr × Nat × Nat) w252 => KeepK S227 w250 w252 (IdxK x251.1 x251.2.1 x241 1 (fun a253 => InK S227 a253 (LdK .str a253 w252 (fun (x254 : ByteArray) => StK ((⟨g5, 0, none⟩ : Addr).add 5) (.int .i64 x230) w252 (fun w255 => KeepK S227 w252 w255 (StK ((⟨g5, 0, none⟩ : Addr).add 4) (.string x254) w255 (fun w256 => KeepK S227 w255 w256 (J223 (()) w256))))))))))
  (StK ((⟨g5, 0, none⟩ : Addr).add 5) (.int .i64 x230) w250 (fun w257 => KeepK S227 w250 w257 (RunK Tryz.prog (Instr.buildSlice 23 3 #[(0, .string (⟨#[117, 115, 100]⟩ : ByteArray)), (1, .string (⟨#[101, 117, 114]⟩ : ByteArray)), (2, .string (⟨#[103, 98, 112]⟩ : ByteArray))]) w257 (.v (.one .slc)) (fun (x258 : Option Addr × Nat × Nat) w259 => KeepK S227 w257 w259 (IdxK x258.1 x258.2.1 x241 1 (fun a260 => InK S227 a260 (LdK .str a260 w259 (fun (x261 : ByteArray) => StK ((⟨g5, 0, none⟩ : Addr).add 4) (.string x261) w259 (fun w262 => KeepK S227 w259 w262 (J223 (()) w262)))))))))))))))))))
  (RunK Tryz.prog (Instr.buildSlice 23 3 #[(0, .string (⟨#[117, 115, 100]⟩ : ByteArray)), (1, .string (⟨#[101, 117, 114]⟩ : ByteArray)), (2, .string (⟨#[103, 98, 112]⟩ : ByteArray))]) w226 (.v (.one .slc)) (fun (x263 : Option Addr × Nat × Nat) w264 => KeepK S227 w226 w264 (CallK Tryz.prog 22 #[.int .i64 x228, .int .i64 (IntKind.i64.wrap (p2 + 2))] w264 (.v (.one (.int .i64))) (fun (x265 : Int) w266 => KeepK S227 w264 w266 (CallK Tryz.prog 22 #[.int .i64 x229, .int .i64 3] w266 (.v (.one (.int .i64))) (fun (x267 : Int) w268 => KeepK S227 w266 w268 (IdxK x263.1 x263.2.1 x267 1 (fun a269 => InK S227 a269 (LdK .str a269 w268 (fun (x270 : ByteArray) => StK ((⟨g5, 0, none⟩ : Addr).add 0) (.int .i64 6) w268 (fun w271 => KeepK S227 w268 w271 (StK ((⟨g5, 0, none⟩ : Addr).add 5) (.int .i64 x265) w271 (fun w272 => KeepK S227 w271 w272 (StK ((⟨g5, 0, none⟩ : Addr).add 4) (.string x270) w272 (fun w273 => KeepK S227 w272 w273 (J223 (()) w273)))))))))))))))))))))))
  (fun _ s224 w225 => ifB (!(Option.isNone p0))
  (CallK Tryz.prog 91 #[.pointer p0] w225 (.v (.one .slc)) (fun (x274 : Option Addr × Nat × Nat) w275 => LoopK (Int × Unit) (fun _ s276 w277 next278 => ifB (decide (s276.1 < (x274.2.1 : Int)))
  (IdxK x274.1 x274.2.1 s276.1 4 (fun a279 => LdsK [.int .i64, .str, .int .i64, .int .i64] a279 w277 (fun (x280 : Int × ByteArray × Int × Int × Unit) => NewK (.cells #[.int .i64 0, .string (⟨#[]⟩ : ByteArray), .int .i64 0, .int .i64 0] 164) w277 (fun g281 w282 => StsK (⟨g281, 0, none⟩ : Addr) [.int .i64 x280.1, .string x280.2.1, .int .i64 x280.2.2.1, .int .i64 x280.2.2.2.1] w282 (fun w283 => LdK (.int .i64) ((⟨g1, 0, none⟩ : Addr).add 2) w283 (fun (x284 : Int) => CallK Tryz.prog 22 #[.int .i64 x284, .int .i64 4] w283 (.v (.one (.int .i64))) (fun (x285 : Int) w286 => ifB (decide (s276.1 ≤ x285))
  (LdK (.int .i64) ((⟨g281, 0, none⟩ : Addr).add 2) w286 (fun (x287 : Int) => LdK (.int .i64) ((⟨g281, 0, none⟩ : Addr).add 3) w286 (fun (x288 : Int) => ifB (x287 != x288)
  (DrewK w286 (fun w289 => HoldK (fun S290 => InK S290 ((⟨g281, 0, none⟩ : Addr).add 0) (LdK (.int .i64) ((⟨g281, 0, none⟩ : Addr).add 0) w289 (fun (x291 : Int) => InK S290 ((⟨g281, 0, none⟩ : Addr).add 1) (LdK .str ((⟨g281, 0, none⟩ : Addr).add 1) w289 (fun (x292 : ByteArray) => StK ((⟨g5, 0, none⟩ : Addr).add 5) (.int .i64 x291) w289 (fun w293 => KeepK S290 w289 w293 (StK ((⟨g5, 0, none⟩ : Addr).add 4) (.string x292) w293 (fun w294 => KeepK S290 w293 w294 (next278 (IntKind.i64.wrap (s276.1 + 1), ()) w294)))))))))))
  (next278 (IntKind.i64.wrap (s276.1 + 1), ()) w286))))
  (next278 (IntKind.i64.wrap (s276.1 + 1), ()) w286))))))))
  (LdK (.int .i64) ((⟨g5, 0, none⟩ : Addr).add 5) w277 (fun (x295 : Int) => LdK .str ((⟨g5, 0, none⟩ : Addr).add 4) w277 (fun (x296 : ByteArray) => CallK Tryz.prog 92 #[.pointer p0, .int .i64 x295, .string x296] w277 (.v (.one (.int .i64))) (fun (x297 : Int) w298 => StK ((⟨g5, 0, none⟩ : Addr).add 6) (.int .i64 x297) w298 (fun w299 => LdK (.int .i64) ((⟨g1, 0, none⟩ : Addr).add 2) w299 (fun (x300 : Int) => NzK 7 (ifB ((x300.tmod 7) == 6)
  (LdK (.int .i64) ((⟨g1, 0, none⟩ : Addr).add 4) w299 (fun (x301 : Int) => StK ((⟨g5, 0, none⟩ : Addr).add 6) (.int .i64 x301) w299 (fun w302 => LdsK [.int .i64, .str, .str, .str, .str, .int .i64, .int .i64, .int .i64, .str, .int .i64, .slc] (⟨g5, 0, none⟩ : Addr) w302 (fun (x303 : Int × ByteArray × ByteArray × ByteArray × ByteArray × Int × Int × Int × ByteArray × Int × (Option Addr × Nat × Nat) × Unit) => StsK (⟨g3, 0, none⟩ : Addr) [.int .i64 x303.1, .string x303.2.1, .string x303.2.2.1, .string x303.2.2.2.1, .string x303.2.2.2.2.1, .int .i64 x303.2.2.2.2.2.1, .int .i64 x303.2.2.2.2.2.2.1, .int .i64 x303.2.2.2.2.2.2.2.1, .string x303.2.2.2.2.2.2.2.2.1, .int .i64 x303.2.2.2.2.2.2.2.2.2.1, .slice x303.2.2.2.2.2.2.2.2.2.2.1.1 x303.2.2.2.2.2.2.2.2.2.2.1.2.1 x303.2.2.2.2.2.2.2.2.2.2.1.2.2] w302 (fun w304 => LdsK [.int .i64, .str, .str, .str, .str, .int .i64, .int .i64, .int .i64, .str, .int .i64, .slc] (⟨g3, 0, none⟩ : Addr) w304 (fun (x305 : Int × ByteArray × ByteArray × ByteArray × ByteArray × Int × Int × Int × ByteArray × Int × (Option Addr × Nat × Nat) × Unit) => K (.agg #[.int .i64 x305.1, .string x305.2.1, .string x305.2.2.1, .string x305.2.2.2.1, .string x305.2.2.2.2.1, .int .i64 x305.2.2.2.2.2.1, .int .i64 x305.2.2.2.2.2.2.1, .int .i64 x305.2.2.2.2.2.2.2.1, .string x305.2.2.2.2.2.2.2.2.1, .int .i64 x305.2.2.2.2.2.2.2.2.2.1, .slice x305.2.2.2.2.2.2.2.2.2.2.1.1 x305.2.2.2.2.2.2.2.2.2.2.1.2.1 x305.2.2.2.2.2.2.2.2.2.2.1.2.2]) w304))))))
  (LdsK [.int .i64, .str, .str, .str, .str, .int .i64, .int .i64, .int .i64, .str, .int .i64, .slc] (⟨g5, 0, none⟩ : Addr) w299 (fun (x306 : Int × ByteArray × ByteArray × ByteArray × ByteArray × Int × Int × Int × ByteArray × Int × (Option Addr × Nat × Nat) × Unit) => StsK (⟨g3, 0, none⟩ : Addr) [.int .i64 x306.1, .string x306.2.1, .string x306.2.2.1, .string x306.2.2.2.1, .string x306.2.2.2.2.1, .int .i64 x306.2.2.2.2.2.1, .int .i64 x306.2.2.2.2.2.2.1, .int .i64 x306.2.2.2.2.2.2.2.1, .string x306.2.2.2.2.2.2.2.2.1, .int .i64 x306.2.2.2.2.2.2.2.2.2.1, .slice x306.2.2.2.2.2.2.2.2.2.2.1.1 x306.2.2.2.2.2.2.2.2.2.2.1.2.1 x306.2.2.2.2.2.2.2.2.2.2.1.2.2] w299 (fun w307 => LdsK [.int .i64, .str, .str, .str, .str, .int .i64, .int .i64, .int .i64, .str, .int .i64, .slc] (⟨g3, 0, none⟩ : Addr) w307 (fun (x308 : Int × ByteArray × ByteArray × ByteArray × ByteArray × Int × Int × Int × ByteArray × Int × (Option Addr × Nat × Nat) × Unit) => K (.agg #[.int .i64 x308.1, .string x308.2.1, .string x308.2.2.1, .string x308.2.2.2.1, .string x308.2.2.2.2.1, .int .i64 x308.2.2.2.2.2.1, .int .i64 x308.2.2.2.2.2.2.1, .int .i64 x308.2.2.2.2.2.2.2.1, .string x308.2.2.2.2.2.2.2.2.1, .int .i64 x308.2.2.2.2.2.2.2.2.2.1, .slice x308.2.2.2.2.2.2.2.2.2.2.1.1 x308.2.2.2.2.2.2.2.2.2.2.1.2.1 x308.2.2.2.2.2.2.2.2.2.2.1.2.2]) w307))))))))))))
  (0, ()) w275))
  (LdK (.int .i64) ((⟨g1, 0, none⟩ : Addr).add 2) w225 (fun (x309 : Int) => NzK 7 (ifB ((x309.tmod 7) == 6)
  (LdK (.int .i64) ((⟨g1, 0, none⟩ : Addr).add 4) w225 (fun (x310 : Int) => StK ((⟨g5, 0, none⟩ : Addr).add 6) (.int .i64 x310) w225 (fun w311 => LdsK [.int .i64, .str, .str, .str, .str, .int .i64, .int .i64, .int .i64, .str, .int .i64, .slc] (⟨g5, 0, none⟩ : Addr) w311 (fun (x312 : Int × ByteArray × ByteArray × ByteArray × ByteArray × Int × Int × Int × ByteArray × Int × (Option Addr × Nat × Nat) × Unit) => StsK (⟨g3, 0, none⟩ : Addr) [.int .i64 x312.1, .string x312.2.1, .string x312.2.2.1, .string x312.2.2.2.1, .string x312.2.2.2.2.1, .int .i64 x312.2.2.2.2.2.1, .int .i64 x312.2.2.2.2.2.2.1, .int .i64 x312.2.2.2.2.2.2.2.1, .string x312.2.2.2.2.2.2.2.2.1, .int .i64 x312.2.2.2.2.2.2.2.2.2.1, .slice x312.2.2.2.2.2.2.2.2.2.2.1.1 x312.2.2.2.2.2.2.2.2.2.2.1.2.1 x312.2.2.2.2.2.2.2.2.2.2.1.2.2] w311 (fun w313 => LdsK [.int .i64, .str, .str, .str, .str, .int .i64, .int .i64, .int .i64, .str, .int .i64, .slc] (⟨g3, 0, none⟩ : Addr) w313 (fun (x314 : Int × ByteArray × ByteArray × ByteArray × ByteArray × Int × Int × Int × ByteArray × Int × (Option Addr × Nat × Nat) × Unit) => K (.agg #[.int .i64 x314.1, .string x314.2.1, .string x314.2.2.1, .string x314.2.2.2.1, .string x314.2.2.2.2.1, .int .i64 x314.2.2.2.2.2.1, .int .i64 x314.2.2.2.2.2.2.1, .int .i64 x314.2.2.2.2.2.2.2.1, .string x314.2.2.2.2.2.2.2.2.1, .int .i64 x314.2.2.2.2.2.2.2.2.2.1, .slice x314.2.2.2.2.2.2.2.2.2.2.1.1 x314.2.2.2.2.2.2.2.2.2.2.1.2.1 x314.2.2.2.2.2.2.2.2.2.2.1.2.2]) w313))))))
  (LdsK [.int .i64, .str, .str, .str, .str, .int .i64, .int .i64, .int .i64, .str, .int .i64, .slc] (⟨g5, 0, none⟩ : Addr) w225 (fun (x315 : Int × ByteArray × ByteArray × ByteArray × ByteArray × Int × Int × Int × ByteArray × Int × (Option Addr × Nat × Nat) × Unit) => StsK (⟨g3, 0, none⟩ : Addr) [.int .i64 x315.1, .string x315.2.1, .string x315.2.2.1, .string x315.2.2.2.1, .string x315.2.2.2.2.1, .int .i64 x315.2.2.2.2.2.1, .int .i64 x315.2.2.2.2.2.2.1, .int .i64 x315.2.2.2.2.2.2.2.1, .string x315.2.2.2.2.2.2.2.2.1, .int .i64 x315.2.2.2.2.2.2.2.2.2.1, .slice x315.2.2.2.2.2.2.2.2.2.2.1.1 x315.2.2.2.2.2.2.2.2.2.2.1.2.1 x315.2.2.2.2.2.2.2.2.2.2.1.2.2] w225 (fun w316 => LdsK [.int .i64, .str, .str, .str, .str, .int .i64, .int .i64, .int .i64, .str, .int .i64, .slc] (⟨g3, 0, none⟩ : Addr) w316 (fun (x317 : Int × ByteArray × ByteArray × ByteArray × ByteArray × Int × Int × Int × ByteArray × Int × (Option Addr × Nat × Nat) × Unit) => K (.agg #[.int .i64 x317.1, .string x317.2.1, .string x317.2.2.1, .string x317.2.2.2.1, .string x317.2.2.2.2.1, .int .i64 x317.2.2.2.2.2.1, .int .i64 x317.2.2.2.2.2.2.1, .int .i64 x317.2.2.2.2.2.2.2.1, .string x317.2.2.2.2.2.2.2.2.1, .int .i64 x317.2.2.2.2.2.2.2.2.2.1, .slice x317.2.2.2.2.2.2.2.2.2.2.1.1 x317.2.2.2.2.2.2.2.2.2.2.1.2.1 x317.2.2.2.2.2.2.2.2.2.2.1.2.2]) w316)))))))))
  (DrewK w20 (fun w318 => HoldK (fun S319 => InK S319 ((⟨g1, 0, none⟩ : Addr).add 1) (LdK (.int .i64) ((⟨g1, 0, none⟩ : Addr).add 1) w318 (fun (x320 : Int) => InK S319 ((⟨g1, 0, none⟩ : Addr).add 5) (LdK .str ((⟨g1, 0, none⟩ : Addr).add 5) w318 (fun (x321 : ByteArray) => InK S319 ((⟨g1, 0, none⟩ : Addr).add 3) (LdK (.int .i64) ((⟨g1, 0, none⟩ : Addr).add 3) w318 (fun (x322 : Int) => InK S319 ((⟨g1, 0, none⟩ : Addr).add 4) (LdK (.int .i64) ((⟨g1, 0, none⟩ : Addr).add 4) w318 (fun (x323 : Int) => CallK Tryz.prog 22 #[.int .i64 x320, .int .i64 9] w318 (.v (.one (.int .i64))) (fun (x324 : Int) w325 => KeepK S319 w318 w325 (CallK Tryz.prog 49 #[.string x321, .int .i64 5] w325 (.v (.one .str)) (fun (x326 : ByteArray) w327 => KeepK S319 w325 w327 (StsK (⟨g5, 0, none⟩ : Addr) [.int .i64 x324, .string x326, .string (⟨#[]⟩ : ByteArray), .string (⟨#[]⟩ : ByteArray), .string (⟨#[]⟩ : ByteArray), .int .i64 x322, .int .i64 x323, .int .i64 0, .string (⟨#[]⟩ : ByteArray), .int .i64 0, .slice none 0 0] w327 (fun w328 => KeepK S319 w327 w328 (LdsK [.int .i64, .str, .str, .str, .str, .int .i64, .int .i64, .int .i64, .str, .int .i64, .slc] (⟨g5, 0, none⟩ : Addr) w328 (fun (x329 : Int × ByteArray × ByteArray × ByteArray × ByteArray × Int × Int × Int × ByteArray × Int × (Option Addr × Nat × Nat) × Unit) => StsK (⟨g3, 0, none⟩ : Addr) [.int .i64 x329.1, .string x329.2.1, .string x329.2.2.1, .string x329.2.2.2.1, .string x329.2.2.2.2.1, .int .i64 x329.2.2.2.2.2.1, .int .i64 x329.2.2.2.2.2.2.1, .int .i64 x329.2.2.2.2.2.2.2.1, .string x329.2.2.2.2.2.2.2.2.1, .int .i64 x329.2.2.2.2.2.2.2.2.2.1, .slice x329.2.2.2.2.2.2.2.2.2.2.1.1 x329.2.2.2.2.2.2.2.2.2.2.1.2.1 x329.2.2.2.2.2.2.2.2.2.2.1.2.2] w328 (fun w330 => LdsK [.int .i64, .str, .str, .str, .str, .int .i64, .int .i64, .int .i64, .str, .int .i64, .slc] (⟨g3, 0, none⟩ : Addr) w330 (fun (x331 : Int × ByteArray × ByteArray × ByteArray × ByteArray × Int × Int × Int × ByteArray × Int × (Option Addr × Nat × Nat) × Unit) => K (.agg #[.int .i64 x331.1, .string x331.2.1, .string x331.2.2.1, .string x331.2.2.2.1, .string x331.2.2.2.2.1, .int .i64 x331.2.2.2.2.2.1, .int .i64 x331.2.2.2.2.2.2.1, .int .i64 x331.2.2.2.2.2.2.2.1, .string x331.2.2.2.2.2.2.2.2.1, .int .i64 x331.2.2.2.2.2.2.2.2.2.1, .slice x331.2.2.2.2.2.2.2.2.2.2.1.1 x331.2.2.2.2.2.2.2.2.2.2.1.2.1 x331.2.2.2.2.2.2.2.2.2.2.1.2.2]) w330))))))))))))))))))))))))))))))))))
def pl48 : Plan := (.seq .auto (.seq .auto (.seq .auto (.join [(8, .one .str)] .auto (.seq (.seq .auto (.block (.seq .auto (.cond .auto (.seq .auto (.cond .auto (.seq .auto (.cond (.join [] (.held (.soft 1 (.soft 2 (.soft 6 (.soft 7 (.soft 8 (.soft 9 (.soft 11 (.soft 12 (.soft 15 (.pick 0 (.pick 3 (.soft 4 (.soft 5 (.pick 10 (.pick 13 (.soft 14 (.pick 16 (.soft 17 (.pick 18 (.soft 19 (.pick 20 (.soft 21 (.pick 22 .done .stop)) .stop)) .stop)) .stop)) .stop) .stop))) .stop) (.pick 3 (.pick 0 (.soft 4 (.soft 5 (.pick 10 (.pick 13 (.soft 14 (.pick 16 (.soft 17 (.pick 18 (.soft 19 (.pick 20 (.soft 21 (.pick 22 .done .stop)) .stop)) .stop)) .stop)) .stop) .stop))) (.pick 10 (.pick 0 (.soft 4 (.soft 5 (.pick 13 (.soft 14 (.pick 16 (.soft 17 (.pick 18 (.soft 19 (.pick 20 (.soft 21 (.pick 22 .done .stop)) .stop)) .stop)) .stop)) .stop))) (.pick 13 (.soft 14 (.pick 0 (.soft 4 (.soft 5 (.pick 16 (.soft 17 (.pick 18 (.soft 19 (.pick 20 (.soft 21 (.pick 22 .done .stop)) .stop)) .stop)) .stop))) (.pick 16 (.pick 0 (.soft 4 (.soft 5 (.soft 17 (.pick 18 (.soft 19 (.pick 20 (.soft 21 (.pick 22 .done .stop)) .stop)) .stop)))) .stop) .stop))) .stop)) .stop)) .stop)))))))))))) (.seq (.seq .auto (.cond (.seq .auto (.block (.loop [(101, .one (.int .i64))] (.seq .auto (.seq .auto (.seq (.block (.seq .auto (.seq .still (.cond (.held (.soft 0 (.soft 1 (.soft 2 (.soft 3 (.soft 4 (.pick 5 (.soft 6 (.pick 7 .done .stop)) .stop))))))) .auto)))) .auto)))))) .auto)) .auto)) (.seq .auto (.cond (.seq (.held (.soft 0 (.soft 1 (.soft 2 (.soft 7 (.soft 8 (.soft 10 (.pick 3 (.soft 4 (.pick 5 (.soft 6 (.pick 9 (.pick 11 (.soft 12 (.pick 13 (.soft 14 (.pick 15 (.soft 16 (.pick 17 .done .stop)) .stop)) .stop)) .stop) .stop)) .stop)) .stop)))))))) (.seq .auto (.cond (.seq .auto (.block (.loop [(161, .one (.int .i64))] (.seq .auto (.seq .auto (.seq (.block (.seq .auto (.seq (.held (.soft 0 (.soft 1 (.soft 2 (.soft 3 (.soft 4 (.soft 5 (.soft 6 (.soft 7 (.soft 8 (.soft 9 (.pick 10 (.soft 11 (.soft 12 (.soft 13 (.soft 14 (.soft 15 (.soft 16 (.soft 17 .done))))))) .stop)))))))))))) (.seq .auto (.block (.loop [(182, .one (.int .i64))] (.seq .auto (.seq .auto (.seq (.block (.seq .auto (.seq .auto (.cond (.held (.soft 0 (.soft 1 (.soft 2 (.soft 3 (.soft 4 (.pick 5 (.soft 6 (.pick 7 .done .stop)) .stop))))))) .auto)))) .auto))))))))) .auto)))))) .auto))) (.seq .auto (.cond .auto (.seq .auto (.cond (.join [] (.held (.soft 0 (.soft 1 (.soft 2 (.soft 3 (.soft 6 (.soft 7 (.soft 11 (.pick 4 (.pick 5 (.pick 8 (.soft 9 (.soft 10 (.pick 12 (.soft 13 (.pick 14 (.soft 15 (.pick 16 .done .stop)) .stop)) .stop))) .stop) (.pick 8 (.pick 5 (.soft 9 (.soft 10 (.pick 12 (.soft 13 (.pick 14 (.soft 15 (.pick 16 .done .stop)) .stop)) .stop))) (.pick 12 (.soft 13 (.pick 5 (.soft 9 (.soft 10 (.pick 14 (.soft 15 (.pick 16 .done .stop)) .stop))) (.pick 14 (.pick 5 (.soft 9 (.soft 10 (.soft 15 (.pick 16 .done .stop)))) .stop) .stop))) .stop)) .stop)) (.pick 5 (.pick 4 (.pick 8 (.soft 9 (.soft 10 (.pick 12 (.soft 13 (.pick 14 (.soft 15 (.pick 16 .done .stop)) .stop)) .stop))) .stop) .stop) .stop)))))))))) (.seq (.seq .auto (.cond (.seq (.seq .auto (.block (.loop [(228, .one (.int .i64))] (.seq .auto (.seq .auto (.seq (.block (.seq .auto (.seq .auto (.cond (.held (.soft 0 (.soft 1 (.soft 2 (.soft 3 (.soft 4 (.pick 5 (.soft 6 (.pick 7 .done .stop)) .stop))))))) .auto)))) .auto)))))) .auto) .auto)) .auto)) (.held (.soft 0 (.soft 1 (.soft 3 (.soft 4 (.soft 6 (.soft 7 (.soft 8 (.soft 9 (.pick 2 (.pick 5 (.soft 10 (.pick 11 .done .stop)) .stop) .stop)))))))))))))))))))))))) .auto)))))
theorem e48 (p0 : Option Addr) (p1 : Int × Int × Int × Int × Int × ByteArray × (Option Addr × Nat × Nat) × (Option Addr × Nat × Nat) × Unit) (p2 : Int) (w : World) (K : Value → World → Prop) : vcFunc Tryz.prog Tryz.f48 pl48 [.pointer p0, .agg #[.int .i64 p1.1, .int .i64 p1.2.1, .int .i64 p1.2.2.1, .int .i64 p1.2.2.2.1, .int .i64 p1.2.2.2.2.1, .string p1.2.2.2.2.2.1, .slice p1.2.2.2.2.2.2.1.1 p1.2.2.2.2.2.2.1.2.1 p1.2.2.2.2.2.2.1.2.2, .slice p1.2.2.2.2.2.2.2.1.1 p1.2.2.2.2.2.2.2.1.2.1 p1.2.2.2.2.2.2.2.1.2.2], .int .i64 p2] w K = C48 p0 p1 p2 w K := by kernel_rfl
theorem c48 (p0 : Option Addr) (p1 : Int × Int × Int × Int × Int × ByteArray × (Option Addr × Nat × Nat) × (Option Addr × Nat × Nat) × Unit) (p2 : Int) (w : World) (K : Value → World → Prop) (h : C48 p0 p1 p2 w K) : Ret Tryz.prog 48 #[.pointer p0, .agg #[.int .i64 p1.1, .int .i64 p1.2.1, .int .i64 p1.2.2.1, .int .i64 p1.2.2.2.1, .int .i64 p1.2.2.2.2.1, .string p1.2.2.2.2.2.1, .slice p1.2.2.2.2.2.2.1.1 p1.2.2.2.2.2.2.1.2.1 p1.2.2.2.2.2.2.1.2.2, .slice p1.2.2.2.2.2.2.2.1.1 p1.2.2.2.2.2.2.2.1.2.1 p1.2.2.2.2.2.2.2.1.2.2], .int .i64 p2] w K := by
  rw [← e48] at h
  exact vcFunc_sound (by kernel_rfl) Tryz.func48 h

/-- handfast/handfastplay.Back -/
def C50 (p0 : Int × ByteArray × ByteArray × ByteArray × ByteArray × Int × Int × Int × ByteArray × Int × (Option Addr × Nat × Nat) × Unit) (w : World) (K : Value → World → Prop) : Prop :=
  NewK (.cells #[.int .i64 p0.1, .string p0.2.1, .string p0.2.2.1, .string p0.2.2.2.1, .string p0.2.2.2.2.1, .int .i64 p0.2.2.2.2.2.1, .int .i64 p0.2.2.2.2.2.2.1, .int .i64 p0.2.2.2.2.2.2.2.1, .string p0.2.2.2.2.2.2.2.2.1, .int .i64 p0.2.2.2.2.2.2.2.2.2.1, .slice p0.2.2.2.2.2.2.2.2.2.2.1.1 p0.2.2.2.2.2.2.2.2.2.2.1.2.1 p0.2.2.2.2.2.2.2.2.2.2.1.2.2] 35) w (fun g1 w2 => NewK (.cells #[.int .i64 0, .string (⟨#[]⟩ : ByteArray), .string (⟨#[]⟩ : ByteArray), .string (⟨#[]⟩ : ByteArray), .string (⟨#[]⟩ : ByteArray), .int .i64 0, .int .i64 0, .nilIface] 30) w2 (fun g3 w4 => DrewK w4 (fun w5 => HoldK (fun S6 => InK S6 ((⟨g1, 0, none⟩ : Addr).add 0) (LdK (.int .i64) ((⟨g1, 0, none⟩ : Addr).add 0) w5 (fun (x7 : Int) => InK S6 ((⟨g1, 0, none⟩ : Addr).add 1) (LdK .str ((⟨g1, 0, none⟩ : Addr).add 1) w5 (fun (x8 : ByteArray) => InK S6 ((⟨g1, 0, none⟩ : Addr).add 2) (LdK .str ((⟨g1, 0, none⟩ : Addr).add 2) w5 (fun (x9 : ByteArray) => InK S6 ((⟨g1, 0, none⟩ : Addr).add 3) (LdK .str ((⟨g1, 0, none⟩ : Addr).add 3) w5 (fun (x10 : ByteArray) => InK S6 ((⟨g1, 0, none⟩ : Addr).add 4) (LdK .str ((⟨g1, 0, none⟩ : Addr).add 4) w5 (fun (x11 : ByteArray) => InK S6 ((⟨g1, 0, none⟩ : Addr).add 5) (LdK (.int .i64) ((⟨g1, 0, none⟩ : Addr).add 5) w5 (fun (x12 : Int) => InK S6 ((⟨g1, 0, none⟩ : Addr).add 6) (LdK (.int .i64) ((⟨g1, 0, none⟩ : Addr).add 6) w5 (fun (x13 : Int) => InK S6 ((⟨g1, 0, none⟩ : Addr).add 7) (LdsK [.int .i64, .str, .int .i64, .slc] ((⟨g1, 0, none⟩ : Addr).add 7) w5 (fun (x14 : Int × ByteArray × Int × (Option Addr × Nat × Nat) × Unit) => CallK Tryz.prog 93 #[.agg #[.int .i64 x14.1, .string x14.2.1, .int .i64 x14.2.2.1, .slice x14.2.2.2.1.1 x14.2.2.2.1.2.1 x14.2.2.2.1.2.2]] w5 (.v (.one .raw)) (fun (x15 : Value) w16 => KeepK S6 w5 w16 (OneK x15 (StsK (⟨g3, 0, none⟩ : Addr) [.int .i64 x7, .string x8, .string x9, .string x10, .string x11, .int .i64 x12, .int .i64 x13, x15] w16 (fun w17 => KeepK S6 w16 w17 (LdsK [.int .i64, .str, .str, .str, .str, .int .i64, .int .i64, .raw] (⟨g3, 0, none⟩ : Addr) w17 (fun (x18 : Int × ByteArray × ByteArray × ByteArray × ByteArray × Int × Int × Value × Unit) => K (.agg #[.int .i64 x18.1, .string x18.2.1, .string x18.2.2.1, .string x18.2.2.2.1, .string x18.2.2.2.2.1, .int .i64 x18.2.2.2.2.2.1, .int .i64 x18.2.2.2.2.2.2.1, x18.2.2.2.2.2.2.2.1]) w17))))))))))))))))))))))))))
def pl50 : Plan := (.seq .auto (.seq (.held (.soft 0 (.soft 1 (.soft 2 (.soft 3 (.soft 4 (.soft 5 (.soft 6 (.soft 7 (.soft 8 (.soft 9 (.soft 10 (.soft 11 (.soft 12 (.soft 13 (.soft 14 (.soft 15 (.pick 16 (.soft 17 (.pick 18 .done .stop)) .stop)))))))))))))))))) .auto))
theorem e50 (p0 : Int × ByteArray × ByteArray × ByteArray × ByteArray × Int × Int × Int × ByteArray × Int × (Option Addr × Nat × Nat) × Unit) (w : World) (K : Value → World → Prop) : vcFunc Tryz.prog Tryz.f50 pl50 [.agg #[.int .i64 p0.1, .string p0.2.1, .string p0.2.2.1, .string p0.2.2.2.1, .string p0.2.2.2.2.1, .int .i64 p0.2.2.2.2.2.1, .int .i64 p0.2.2.2.2.2.2.1, .int .i64 p0.2.2.2.2.2.2.2.1, .string p0.2.2.2.2.2.2.2.2.1, .int .i64 p0.2.2.2.2.2.2.2.2.2.1, .slice p0.2.2.2.2.2.2.2.2.2.2.1.1 p0.2.2.2.2.2.2.2.2.2.2.1.2.1 p0.2.2.2.2.2.2.2.2.2.2.1.2.2]] w K = C50 p0 w K := by kernel_rfl
theorem c50 (p0 : Int × ByteArray × ByteArray × ByteArray × ByteArray × Int × Int × Int × ByteArray × Int × (Option Addr × Nat × Nat) × Unit) (w : World) (K : Value → World → Prop) (h : C50 p0 w K) : Ret Tryz.prog 50 #[.agg #[.int .i64 p0.1, .string p0.2.1, .string p0.2.2.1, .string p0.2.2.2.1, .string p0.2.2.2.2.1, .int .i64 p0.2.2.2.2.2.1, .int .i64 p0.2.2.2.2.2.2.1, .int .i64 p0.2.2.2.2.2.2.2.1, .string p0.2.2.2.2.2.2.2.2.1, .int .i64 p0.2.2.2.2.2.2.2.2.2.1, .slice p0.2.2.2.2.2.2.2.2.2.2.1.1 p0.2.2.2.2.2.2.2.2.2.2.1.2.1 p0.2.2.2.2.2.2.2.2.2.2.1.2.2]] w K := by
  rw [← e50] at h
  exact vcFunc_sound (by kernel_rfl) Tryz.func50 h

/-- handfast/handfastplay.Event -/
def C30 (p0 : Int × ByteArray × ByteArray × ByteArray × ByteArray × Int × Int × Value × Unit) (w : World) (K : Value → World → Prop) : Prop :=
  NewK (.cells #[.int .i64 p0.1, .string p0.2.1, .string p0.2.2.1, .string p0.2.2.2.1, .string p0.2.2.2.2.1, .int .i64 p0.2.2.2.2.2.1, .int .i64 p0.2.2.2.2.2.2.1, p0.2.2.2.2.2.2.2.1] 30) w (fun g1 w2 => NewK (.cells #[.int .i64 0, .string (⟨#[]⟩ : ByteArray), .string (⟨#[]⟩ : ByteArray), .string (⟨#[]⟩ : ByteArray), .string (⟨#[]⟩ : ByteArray), .int .i64 0, .int .i64 0, .int .i64 0, .string (⟨#[]⟩ : ByteArray), .int .i64 0, .slice none 0 0] 35) w2 (fun g3 w4 => DrewK w4 (fun w5 => HoldK (fun S6 => InK S6 ((⟨g1, 0, none⟩ : Addr).add 0) (LdK (.int .i64) ((⟨g1, 0, none⟩ : Addr).add 0) w5 (fun (x7 : Int) => InK S6 ((⟨g1, 0, none⟩ : Addr).add 1) (LdK .str ((⟨g1, 0, none⟩ : Addr).add 1) w5 (fun (x8 : ByteArray) => InK S6 ((⟨g1, 0, none⟩ : Addr).add 2) (LdK .str ((⟨g1, 0, none⟩ : Addr).add 2) w5 (fun (x9 : ByteArray) => InK S6 ((⟨g1, 0, none⟩ : Addr).add 3) (LdK .str ((⟨g1, 0, none⟩ : Addr).add 3) w5 (fun (x10 : ByteArray) => InK S6 ((⟨g1, 0, none⟩ : Addr).add 4) (LdK .str ((⟨g1, 0, none⟩ : Addr).add 4) w5 (fun (x11 : ByteArray) => InK S6 ((⟨g1, 0, none⟩ : Addr).add 5) (LdK (.int .i64) ((⟨g1, 0, none⟩ : Addr).add 5) w5 (fun (x12 : Int) => InK S6 ((⟨g1, 0, none⟩ : Addr).add 6) (LdK (.int .i64) ((⟨g1, 0, none⟩ : Addr).add 6) w5 (fun (x13 : Int) => InK S6 ((⟨g1, 0, none⟩ : Addr).add 7) (LdK .raw ((⟨g1, 0, none⟩ : Addr).add 7) w5 (fun (x14 : Value) => CallK Tryz.prog 66 #[x14] w5 (.v (.agg [.int .i64, .str, .int .i64, .slc])) (fun (x15 : Int × ByteArray × Int × (Option Addr × Nat × Nat) × Unit) w16 => KeepK S6 w5 w16 (StsK (⟨g3, 0, none⟩ : Addr) [.int .i64 x7, .string x8, .string x9, .string x10, .string x11, .int .i64 x12, .int .i64 x13, .int .i64 x15.1, .string x15.2.1, .int .i64 x15.2.2.1, .slice x15.2.2.2.1.1 x15.2.2.2.1.2.1 x15.2.2.2.1.2.2] w16 (fun w17 => KeepK S6 w16 w17 (LdsK [.int .i64, .str, .str, .str, .str, .int .i64, .int .i64, .int .i64, .str, .int .i64, .slc] (⟨g3, 0, none⟩ : Addr) w17 (fun (x18 : Int × ByteArray × ByteArray × ByteArray × ByteArray × Int × Int × Int × ByteArray × Int × (Option Addr × Nat × Nat) × Unit) => K (.agg #[.int .i64 x18.1, .string x18.2.1, .string x18.2.2.1, .string x18.2.2.2.1, .string x18.2.2.2.2.1, .int .i64 x18.2.2.2.2.2.1, .int .i64 x18.2.2.2.2.2.2.1, .int .i64 x18.2.2.2.2.2.2.2.1, .string x18.2.2.2.2.2.2.2.2.1, .int .i64 x18.2.2.2.2.2.2.2.2.2.1, .slice x18.2.2.2.2.2.2.2.2.2.2.1.1 x18.2.2.2.2.2.2.2.2.2.2.1.2.1 x18.2.2.2.2.2.2.2.2.2.2.1.2.2]) w17)))))))))))))))))))))))))
def pl30 : Plan := (.seq .auto (.seq (.held (.soft 0 (.soft 1 (.soft 2 (.soft 3 (.soft 4 (.soft 5 (.soft 6 (.soft 7 (.soft 8 (.soft 9 (.soft 10 (.soft 11 (.soft 12 (.soft 13 (.soft 14 (.soft 15 (.pick 16 (.soft 17 (.pick 18 .done .stop)) .stop)))))))))))))))))) .auto))
theorem e30 (p0 : Int × ByteArray × ByteArray × ByteArray × ByteArray × Int × Int × Value × Unit) (w : World) (K : Value → World → Prop) : vcFunc Tryz.prog Tryz.f30 pl30 [.agg #[.int .i64 p0.1, .string p0.2.1, .string p0.2.2.1, .string p0.2.2.2.1, .string p0.2.2.2.2.1, .int .i64 p0.2.2.2.2.2.1, .int .i64 p0.2.2.2.2.2.2.1, p0.2.2.2.2.2.2.2.1]] w K = C30 p0 w K := by kernel_rfl
theorem c30 (p0 : Int × ByteArray × ByteArray × ByteArray × ByteArray × Int × Int × Value × Unit) (w : World) (K : Value → World → Prop) (h : C30 p0 w K) : Ret Tryz.prog 30 #[.agg #[.int .i64 p0.1, .string p0.2.1, .string p0.2.2.1, .string p0.2.2.2.1, .string p0.2.2.2.2.1, .int .i64 p0.2.2.2.2.2.1, .int .i64 p0.2.2.2.2.2.2.1, p0.2.2.2.2.2.2.2.1]] w K := by
  rw [← e30] at h
  exact vcFunc_sound (by kernel_rfl) Tryz.func30 h

end Go.Proofs.YtbadiokobooliaaGreatDoor

/-! ### SomeSpec -/
set_option linter.unusedVariables false
set_option maxRecDepth 100000
namespace Go.Proofs.YtbadiokobooliaaGreatDoor
open Vc

abbrev EK : List Ck := [.int .i64, .str, .str, .str, .str, .int .i64, .int .i64, .raw]
abbrev ERK : List Ck := [.int .i64, .str, .str, .str, .str, .int .i64, .int .i64, .int .i64, .str, .int .i64, .slc]
def evL (e : EvT) : List Value := [.int .i64 e.1, .string e.2.1, .string e.2.2.1, .string e.2.2.2.1, .string e.2.2.2.2.1, .int .i64 e.2.2.2.2.2.1, .int .i64 e.2.2.2.2.2.2.1, e.2.2.2.2.2.2.2.1]
theorem evL_one {e : EvT} (h : one1 e.2.2.2.2.2.2.2.1 = true) : (evL e).all one1 = true := by
  show (one1 (.int .i64 _) && (one1 (.string _) && (one1 (.string _) && (one1 (.string _) && (one1 (.string _) && (one1 (.int .i64 _) && (one1 (.int .i64 _) && (one1 e.2.2.2.2.2.2.2.1 && true)))))))) = true
  rw [h]; rfl
theorem tv_at {w : World} {g : Nat} {x : EvR} {T : TypeId} (hb : w.heap[g]? = some (.cells (evRL x).toArray T (0, 0))) {K : TV → Prop} (k : K (x.2.2.2.2.2.2.2.1, x.2.2.2.2.2.2.2.2.1, x.2.2.2.2.2.2.2.2.2.1, x.2.2.2.2.2.2.2.2.2.2.1, ())) : LdsK TVK ((⟨g, 0, none⟩ : Addr).add 7) w K :=
  ⟨(x.2.2.2.2.2.2.2.1, x.2.2.2.2.2.2.2.2.1, x.2.2.2.2.2.2.2.2.2.1, x.2.2.2.2.2.2.2.2.2.2.1, ()), cellsAt_shift (m := 7) _ 0 (cellsAt_all hb _ 7 fun j hj => (by
    match j, hj with
    | 0, _ => rfl
    | 1, _ => rfl
    | 2, _ => rfl
    | 3, _ => rfl
    | j + 4, h => exact absurd h (by show ¬ j + 4 < 4; omega))), k⟩

theorem back_spec (e : EvT) (t : Tm) (he : e.2.2.2.2.2.2.2.1 = t.v) {w : World} {S : Nat → Prop} {v : TV} (h : IsTr w S (trT t) v) :
    Ret Tryz.prog 50 #[evRA (evR e v)] w fun r w' => r = evA e ∧ Fr none1 w w' := by
  refine c50 (evR e v) w _ ?_
  unfold C50
  refine NewK.of fun g w1 hg hb f1 hs1 => NewK.of fun g3 w2 hg3 hb3 f2 hs2 => ?_
  have hb2 := f2.keep0 hb
  refine DrewK.of fun w3 _ f3 => HoldK.of (fun k => k ≠ g3) ?_
  have hb3' := f3.keep0 hb2
  have hn : g ≠ g3 := by omega
  refine ⟨by rw [addr_add]; exact hn, LdK.fld hb3' (x := e.1) rfl ?_⟩
  refine ⟨by rw [addr_add]; exact hn, LdK.fld hb3' (x := e.2.1) rfl ?_⟩
  refine ⟨by rw [addr_add]; exact hn, LdK.fld hb3' (x := e.2.2.1) rfl ?_⟩
  refine ⟨by rw [addr_add]; exact hn, LdK.fld hb3' (x := e.2.2.2.1) rfl ?_⟩
  refine ⟨by rw [addr_add]; exact hn, LdK.fld hb3' (x := e.2.2.2.2.1) rfl ?_⟩
  refine ⟨by rw [addr_add]; exact hn, LdK.fld hb3' (x := e.2.2.2.2.2.1) rfl ?_⟩
  refine ⟨by rw [addr_add]; exact hn, LdK.fld hb3' (x := e.2.2.2.2.2.2.1) rfl ?_⟩
  refine ⟨by rw [addr_add]; exact hn, tv_at (x := evR e v) hb3' ?_⟩
  have f13 := (f1.trans f2).trans f3
  refine CallK.of (pterm_spec t (h.keep0 f13)) ?_
  rintro _ w4 ⟨rfl, f4⟩
  refine ⟨_, rfl, KeepK.of f4 ⟨Tm.cell1 t, ?_⟩⟩
  refine StsK.blk (cs := [.int .i64 0, .string (⟨#[]⟩ : ByteArray), .string (⟨#[]⟩ : ByteArray), .string (⟨#[]⟩ : ByteArray), .string (⟨#[]⟩ : ByteArray), .int .i64 0, .int .i64 0, .nilIface]) (vs := [.int .i64 e.1, .string e.2.1, .string e.2.2.1, .string e.2.2.2.1, .string e.2.2.2.2.1, .int .i64 e.2.2.2.2.2.1, .int .i64 e.2.2.2.2.2.2.1, t.v]) ((f3.trans f4).keep0 hb3) rfl (by
    have := evL_one (e := e) (by rw [he]; exact Tm.v_one t)
    unfold evL at this; rw [he] at this; exact this) fun w5 hb5 f5 _ => KeepK.on f5 (fun k hk t => hk t) ?_
  rw [← he] at hb5
  exact LdsK.blk (cks := EK) (x := e) hb5 ⟨rfl, (f13.trans f4).fresh f5 (by have := f1.size; omega)⟩

theorem event_of_spec (e : EvT) (t : Tm) (he : e.2.2.2.2.2.2.2.1 = t.v) (w : World) :
    Ret Tryz.prog 30 #[evA e] w fun r w' => ∃ v : TV, r = evRA (evR e v) ∧ Made w w' (trT t) v ∧ Fr none1 w w' := by
  refine c30 e w _ ?_
  unfold C30
  refine NewK.of fun g w1 hg hb f1 hs1 => NewK.of fun g3 w2 hg3 hb3 f2 hs2 => ?_
  have hb2 := f2.keep0 hb
  refine DrewK.of fun w3 _ f3 => HoldK.of (fun k => k ≠ g3) ?_
  have hb3' := f3.keep0 hb2
  have hn : g ≠ g3 := by omega
  refine ⟨by rw [addr_add]; exact hn, LdK.fld hb3' (x := e.1) rfl ?_⟩
  refine ⟨by rw [addr_add]; exact hn, LdK.fld hb3' (x := e.2.1) rfl ?_⟩
  refine ⟨by rw [addr_add]; exact hn, LdK.fld hb3' (x := e.2.2.1) rfl ?_⟩
  refine ⟨by rw [addr_add]; exact hn, LdK.fld hb3' (x := e.2.2.2.1) rfl ?_⟩
  refine ⟨by rw [addr_add]; exact hn, LdK.fld hb3' (x := e.2.2.2.2.1) rfl ?_⟩
  refine ⟨by rw [addr_add]; exact hn, LdK.fld hb3' (x := e.2.2.2.2.2.1) rfl ?_⟩
  refine ⟨by rw [addr_add]; exact hn, LdK.fld hb3' (x := e.2.2.2.2.2.2.1) rfl ?_⟩
  refine ⟨by rw [addr_add]; exact hn, LdK.fld (c := .raw) hb3' (x := e.2.2.2.2.2.2.2.1) rfl ?_⟩
  have f13 := (f1.trans f2).trans f3
  rw [he]
  refine CallK.of (plainT_spec t w3) ?_
  rintro _ w4 ⟨v, rfl, mv, f4⟩
  refine ⟨v, rfl, KeepK.of f4 ?_⟩
  have s3 := f3.size
  have s13 := f13.size
  refine StsK.blk (cs := evRL (0, (⟨#[]⟩ : ByteArray), (⟨#[]⟩ : ByteArray), (⟨#[]⟩ : ByteArray), (⟨#[]⟩ : ByteArray), 0, 0, 0, (⟨#[]⟩ : ByteArray), 0, (none, 0, 0), ())) (vs := evRL (evR e v)) ((f3.trans f4).keep0 hb3) rfl rfl fun w5 hb5 f5 _ => KeepK.on f5 (fun k hk t => hk t) ?_
  refine LdsK.blk (cks := ERK) (x := evR e v) hb5 ⟨v, rfl, ?_, (f13.trans f4).fresh f5 (by have := f1.size; omega)⟩
  exact (mv.keep f5 fun k hk _ t => by have : k = g3 := t; omega).older s13

end Go.Proofs.YtbadiokobooliaaGreatDoor

/-! ### CKName -/
namespace Go.Proofs.YtbadiokobooliaaGreatDoor
open Vc
set_option maxRecDepth 100000
set_option linter.unusedVariables false
/-- handfast/handfastkeep.Name -/
def C85 (p0 : ByteArray) (p1 : Int) (p2 : Int) (w : World) (K : Value → World → Prop) : Prop :=
  CallK Tryz.prog 22 #[.int .i64 p1, .int .i64 p2] w (.v (.one (.int .i64))) (fun (x1 : Int) w2 => RunK Tryz.prog (Instr.buildSlice 38 1 #[(0, .int .u8 (IntKind.u8.wrap (IntKind.i64.wrap (97 + x1))))]) w2 (.v (.one .slc)) (fun (x3 : Option Addr × Nat × Nat) w4 => RunK Tryz.prog (convert 38 9 (.slice x3.1 x3.2.1 x3.2.2)) w4 (.v (.one .str)) (fun (x5 : ByteArray) w6 => CatK p0 x5 (K (.string (p0 ++ x5)) w6))))
def pl85 : Plan := .auto
theorem e85 (p0 : ByteArray) (p1 : Int) (p2 : Int) (w : World) (K : Value → World → Prop) : vcFunc Tryz.prog Tryz.f85 pl85 [.string p0, .int .i64 p1, .int .i64 p2] w K = C85 p0 p1 p2 w K := by kernel_rfl
theorem c85 (p0 : ByteArray) (p1 : Int) (p2 : Int) (w : World) (K : Value → World → Prop) (h : C85 p0 p1 p2 w K) : Ret Tryz.prog 85 #[.string p0, .int .i64 p1, .int .i64 p2] w K := by
  rw [← e85] at h
  exact vcFunc_sound (by kernel_rfl) Tryz.func85 h

end Go.Proofs.YtbadiokobooliaaGreatDoor

/-! ### KName -/
set_option linter.unusedVariables false
set_option maxRecDepth 100000
namespace Go.Proofs.YtbadiokobooliaaGreatDoor
open Vc

theorem cat_few {a b : ByteArray} {K : Prop} (h : a.size + b.size ≤ 1000000) (k : K) : CatK a b K := ⟨by show ((a.size + b.size : Nat) : Int) ≤ 9223372036854775807; omega, k⟩
theorem elem_u8' : ElemOk Tryz.prog 38 5 1 (.int .u8 0) 1 := ⟨Tryz.underlying38, ⟨Tryz.t5, by kernel_rfl, rfl, rfl, rfl⟩, rfl, by decide⟩

theorem kname_spec (hd : List UInt8) (n of : Int) (h1 : 1 ≤ of) (h2 : of ≤ 26) (hl : hd.length ≤ 1000) (w : World) : Ret Tryz.prog 85 #[.string (str hd), .int .i64 n, .int .i64 of] w fun r w' =>
    r = .string (str (hd ++ [UInt8.ofNat (97 + (within n of).toNat)])) ∧ Fr none1 w w' := by
  refine c85 (str hd) n of w _ ?_
  refine CallK.of (within_spec n of w (by omega)) ?_
  rintro _ _ ⟨rfl, rfl⟩
  refine ⟨_, rfl, ?_⟩
  have hlo := within_lo n of
  have hhi := within_hi n h1
  have e : IntKind.u8.wrap (IntKind.i64.wrap (97 + within n of)) = ((UInt8.ofNat (97 + (within n of).toNat)).toNat : Int) := by
    rw [wI (by omega) (by omega), IntKind.wrap_u8, u8_of (by omega)]; omega
  rw [e]
  obtain ⟨v, w1, r1, hv, hl1, f1, _⟩ := one_ok (P := Tryz.prog) (w := w) elem_u8' (.int .u8 ((UInt8.ofNat (97 + (within n of).toNat)).toNat : Int)) rfl
  refine ⟨v, w1, r1, ?_⟩
  have hr := IsSl.rd hv
  cases hx : v.1 with
  | none => have := (hr.2.1 hx).1; omega
  | some a =>
    have hc := hr.2.2 a hx
    have r2 := run_convert_bytes_back w1 38 9 5 a v.2.2 [UInt8.ofNat (97 + (within n of).toNat)] Tryz.underlying38 Tryz.underlying5 Tryz.underlying9 (fun j hj => by
      have : j = 0 := by simpa using hj
      subst this
      exact hc.1)
    refine ⟨str [UInt8.ofNat (97 + (within n of).toNat)], w1, ?_, ?_⟩
    · rw [hl1]
      exact r2
    · refine cat_few (by rw [str_size, str_size]; simp; omega) ?_
      rw [str_app]
      exact ⟨rfl, f1⟩

end Go.Proofs.YtbadiokobooliaaGreatDoor

/-! ### VcCmd -/
set_option linter.unusedVariables false
namespace Go.Proofs.YtbadiokobooliaaGreatDoor
namespace Vc
variable {P : Program}

abbrev CmV := Int × Int × Int × Int × Int × ByteArray × (Option Addr × Nat × Nat) × (Option Addr × Nat × Nat) × Unit
def cmL (c : CmV) : List Value := [.int .i64 c.1, .int .i64 c.2.1, .int .i64 c.2.2.1, .int .i64 c.2.2.2.1, .int .i64 c.2.2.2.2.1, .string c.2.2.2.2.2.1, .slice c.2.2.2.2.2.2.1.1 c.2.2.2.2.2.2.1.2.1 c.2.2.2.2.2.2.1.2.2, .slice c.2.2.2.2.2.2.2.1.1 c.2.2.2.2.2.2.2.1.2.1 c.2.2.2.2.2.2.2.1.2.2]
def cmPl (c : CmV) : PlV := (c.2.2.2.2.2.2.1, c.2.2.2.2.2.2.2.1, ())
/-- A command that came in: its plan's numbers and words are there. -/
def IsCm (w : World) (c : CmV) : Prop := IsPl w (cmPl c) ∧ (Lit.int .i64 c.1).wf = true ∧ (Lit.int .i64 c.2.1).wf = true ∧ (Lit.int .i64 c.2.2.1).wf = true ∧ (Lit.int .i64 c.2.2.2.1).wf = true ∧ (Lit.int .i64 c.2.2.2.2.1).wf = true ∧ c.2.2.2.2.2.1.size ≤ maxLen

theorem open_cmd {H : Type} {enc : TypeId × Value → H} {w : World} {base : Nat} {held : Bool} {t ti ts tp t0 t1 e0 e1 : TypeId} {f0 f1 f2 f3 f4 f5 f6 g0 g1 : Field} {fuel : Nat} {cs : List Value} {x : DataW H × List MemPlace}
    (ht : P.underlying t = some (.struct #[f0, f1, f2, f3, f4, f5, f6]))
    (q0 : f0.type = ti ∧ f0.offset = 0) (q1 : f1.type = ti ∧ f1.offset = 1) (q2 : f2.type = ti ∧ f2.offset = 2) (q3 : f3.type = ti ∧ f3.offset = 3) (q4 : f4.type = ti ∧ f4.offset = 4) (q5 : f5.type = ts ∧ f5.offset = 5) (q6 : f6.type = tp ∧ f6.offset = 6)
    (hti : P.underlying ti = some (.int .i64)) (hts : P.underlying ts = some .string) (htp : P.underlying tp = some (.struct #[g0, g1])) (hg0 : g0.type = t0) (hg1 : g1.type = t1) (ho0 : g0.offset = 0) (ho1 : g1.offset = 1)
    (hc : P.cellsOf t = 8) (hci : P.cellsOf ti = 1) (hcs : P.cellsOf ts = 1) (hcp : P.cellsOf tp = 2) (hc0 : P.cellsOf t0 = 1) (hc1 : P.cellsOf t1 = 1)
    (h0 : P.underlying t0 = some (.slice e0)) (h1 : P.underlying t1 = some (.slice e1)) (k0 : P.underlying e0 = some (.int .i64)) (k1 : P.underlying e1 = some .string) (d0 : P.cellsOf e0 = 1) (d1 : P.cellsOf e1 = 1)
    (h : DataW.trod enc P w base (fun _ => true) held fuel t cs = some x) : ∃ c : CmV, cs = cmL c ∧ IsCm w c := by
  obtain ⟨xs, n, _, _, hl, hlen, hf⟩ := DataW.trod_struct ht h
  rw [hc] at hl
  match xs, hlen with
  | [y0, y1, y2, y3, y4, y5, y6], _ =>
    match cs, hl with
    | [c0, c1, c2, c3, c4, c5, c6, c7], _ =>
      have a0 := hf 0 f0 rfl
      have a1 := hf 1 f1 rfl
      have a2 := hf 2 f2 rfl
      have a3 := hf 3 f3 rfl
      have a4 := hf 4 f4 rfl
      have a5 := hf 5 f5 rfl
      have a6 := hf 6 f6 rfl
      rw [q0.1, q0.2, hci] at a0
      rw [q1.1, q1.2, hci] at a1
      rw [q2.1, q2.2, hci] at a2
      rw [q3.1, q3.2, hci] at a3
      rw [q4.1, q4.2, hci] at a4
      rw [q5.1, q5.2, hcs] at a5
      rw [q6.1, q6.2, hcp] at a6
      simp only [List.drop_zero, List.drop_succ_cons, List.take_succ_cons, List.take_zero, List.getElem?_cons_zero, List.getElem?_cons_succ] at a0 a1 a2 a3 a4 a5 a6
      obtain ⟨z0, e0, _, w0⟩ := DataW.trod_int hti a0
      obtain ⟨z1, e1, _, w1⟩ := DataW.trod_int hti a1
      obtain ⟨z2, e2, _, w2⟩ := DataW.trod_int hti a2
      obtain ⟨z3, e3, _, w3⟩ := DataW.trod_int hti a3
      obtain ⟨z4, e4, _, w4⟩ := DataW.trod_int hti a4
      obtain ⟨s5, e5, _, w5⟩ := DataW.trod_string hts a5
      obtain ⟨p, ep, hp⟩ := open_plan htp hg0 hg1 ho0 ho1 hcp hc0 hc1 h0 h1 k0 k1 d0 d1 a6
      simp only [List.cons.injEq, and_true] at e0 e1 e2 e3 e4 e5 ep
      obtain ⟨p1, p2⟩ := ep
      subst e0; subst e1; subst e2; subst e3; subst e4; subst e5; subst p1; subst p2
      exact ⟨(z0, z1, z2, z3, z4, s5, p.1, p.2.1, ()), rfl, hp, w0, w1, w2, w3, w4, w5⟩

end Vc
end Go.Proofs.YtbadiokobooliaaGreatDoor

/-! ### DoSpec -/
set_option linter.unusedVariables false
set_option maxRecDepth 100000
namespace Go.Proofs.YtbadiokobooliaaGreatDoor
open Vc

/-- An event with short texts, its tree in blocks of S. -/
def Fine (w : World) (S : Nat → Prop) (x : EvR) : Prop := ∃ (e : EvT) (t : Tm) (v : TV), x = evR e v ∧ e.2.2.2.2.2.2.2.1 = t.v ∧ smallE e ∧ nodesT t ≤ 2000 ∧ shortT t ∧ IsTr w S (trT t) v

structure DoS (w wc : World) (g1 g3 g5 : Nat) (c : CmV) : Prop where
  b1 : wc.heap[g1]? = some (.cells (cmL c).toArray 27 (0, 0))
  pl : IsPl w (cmPl c)
  b3 : ∃ x : EvR, wc.heap[g3]? = some (.cells (evRL x).toArray 35 (0, 0))
  b5 : ∃ x : EvR, wc.heap[g5]? = some (.cells (evRL x).toArray 35 (0, 0)) ∧ Fine wc (fun k => w.heap.size ≤ k ∧ k < wc.heap.size ∧ k ≠ g3 ∧ k ≠ g5) x
  fr : Fr none1 w wc
  lo : w.heap.size ≤ g1 ∧ w.heap.size ≤ g3 ∧ w.heap.size ≤ g5 ∧ g1 ≠ g3 ∧ g1 ≠ g5 ∧ g3 ≠ g5

theorem Fine.keep {w w' : World} {S S' T : Nat → Prop} {x : EvR} (h : Fine w S x) (f : Fr T w w') (hn : ∀ k, S k → ¬ T k) (hs : ∀ k, S k → S' k) : Fine w' S' x := by
  obtain ⟨e, t, v, h1, h2, h3, h4, h5, h6⟩ := h
  exact ⟨e, t, v, h1, h2, h3, h4, h5, IsTr.mono hs _ _ (IsTr.keep f hn _ _ h6)⟩
theorem DoS.keep0 {w wc wd : World} {g1 g3 g5 : Nat} {c : CmV} (h : DoS w wc g1 g3 g5 c) (f : Fr none1 wc wd) : DoS w wd g1 g3 g5 c := by
  obtain ⟨x3, h3⟩ := h.b3
  obtain ⟨x5, h5, hf⟩ := h.b5
  exact ⟨f.keep0 h.b1, h.pl, ⟨x3, f.keep0 h3⟩, ⟨x5, f.keep0 h5, hf.keep f (fun _ _ t => t) fun k hk => ⟨hk.1, Nat.lt_of_lt_of_le hk.2.1 f.size, hk.2.2⟩⟩, h.fr.trans f, h.lo⟩

/-- What was told. -/
def Told (w : World) (r : Value) (w' : World) : Prop := ∃ x : EvR, r = evRA x ∧ Fine w' (fun k => w.heap.size ≤ k ∧ k < w'.heap.size) x ∧ Fr none1 w w'

theorem DoS.fin {w wc : World} {g1 g3 g5 : Nat} {c : CmV} (h : DoS w wc g1 g3 g5 c) :
    LdsK ERK ⟨g5, 0, none⟩ wc (fun (x : EvR) => StsK ⟨g3, 0, none⟩ (evRL x) wc (fun w2 => LdsK ERK ⟨g3, 0, none⟩ w2 (fun (y : EvR) => Told w (evRA y) w2))) := by
  obtain ⟨x3, h3⟩ := h.b3
  obtain ⟨x5, h5, hf⟩ := h.b5
  refine LdsK.blk (cks := ERK) (x := x5) h5 ?_
  refine StsK.blk (cs := evRL x3) (vs := evRL x5) h3 rfl rfl fun w2 hb2 f2 _ => LdsK.blk (cks := ERK) (x := x5) hb2 ?_
  exact ⟨x5, rfl, hf.keep f2 (fun k hk t => hk.2.2.1 t) (fun k hk => ⟨hk.1, Nat.lt_of_lt_of_le hk.2.1 f2.size⟩), h.fr.fresh f2 h.lo.2.1⟩

/-- A write to the event's own block that leaves it fine. -/
theorem DoS.put {w wc wd : World} {g1 g3 g5 : Nat} {c : CmV} (h : DoS w wc g1 g3 g5 c) {x x' : EvR} (hx : wc.heap[g5]? = some (.cells (evRL x).toArray 35 (0, 0))) (f : Fr (only g5) wc wd) (hb : wd.heap[g5]? = some (.cells (evRL x').toArray 35 (0, 0)))
    (hf : Fine wc (fun k => w.heap.size ≤ k ∧ k < wc.heap.size ∧ k ≠ g3 ∧ k ≠ g5) x') : DoS w wd g1 g3 g5 c := by
  obtain ⟨x3, h3⟩ := h.b3
  obtain ⟨l1, l2, l3, l4, l5, l6⟩ := h.lo
  exact ⟨f.keep h.b1 (fun t => l5 t), h.pl, ⟨x3, f.keep h3 (fun t => l6 t)⟩, ⟨x', hb, hf.keep f (fun k hk t => hk.2.2.2 t) fun k hk => ⟨hk.1, Nat.lt_of_lt_of_le hk.2.1 f.size, hk.2.2⟩⟩, h.fr.fresh f l3, h.lo⟩

theorem DoS.n0 {w wc : World} {g1 g3 g5 : Nat} {c : CmV} (h : DoS w wc g1 g3 g5 c) (n : Int) {K : World → Prop} (k : ∀ wd, DoS w wd g1 g3 g5 c → Fr (only g5) wc wd → K wd) : StK ((⟨g5, 0, none⟩ : Addr).add 0) (.int .i64 n) wc K := by
  obtain ⟨x5, h5, e, t, v, rfl, he, hz, hn, hsh, hT⟩ := h.b5
  exact StK.fld h5 (by show 0 + 0 < 11; omega) rfl fun wd hb f _ => k wd (h.put h5 (x' := evR (n, e.2) v) f hb ⟨(n, e.2), t, v, rfl, he, hz, hn, hsh, hT⟩) f
theorem DoS.s1 {w wc : World} {g1 g3 g5 : Nat} {c : CmV} (h : DoS w wc g1 g3 g5 c) (s : ByteArray) (hs : s.size ≤ 1000000) {K : World → Prop} (k : ∀ wd, DoS w wd g1 g3 g5 c → Fr (only g5) wc wd → K wd) : StK ((⟨g5, 0, none⟩ : Addr).add 1) (.string s) wc K := by
  obtain ⟨x5, h5, e, t, v, rfl, he, hz, hn, hsh, hT⟩ := h.b5
  exact StK.fld h5 (by show 0 + 1 < 11; omega) rfl fun wd hb f _ => k wd (h.put h5 (x' := evR (e.1, s, e.2.2) v) f hb ⟨(e.1, s, e.2.2), t, v, rfl, he, ⟨hs, hz.2⟩, hn, hsh, hT⟩) f
theorem DoS.s2 {w wc : World} {g1 g3 g5 : Nat} {c : CmV} (h : DoS w wc g1 g3 g5 c) (s : ByteArray) (hs : s.size ≤ 1000000) {K : World → Prop} (k : ∀ wd, DoS w wd g1 g3 g5 c → Fr (only g5) wc wd → K wd) : StK ((⟨g5, 0, none⟩ : Addr).add 2) (.string s) wc K := by
  obtain ⟨x5, h5, e, t, v, rfl, he, hz, hn, hsh, hT⟩ := h.b5
  exact StK.fld h5 (by show 0 + 2 < 11; omega) rfl fun wd hb f _ => k wd (h.put h5 (x' := evR (e.1, e.2.1, s, e.2.2.2) v) f hb ⟨(e.1, e.2.1, s, e.2.2.2), t, v, rfl, he, ⟨hz.1, hs, hz.2.2⟩, hn, hsh, hT⟩) f
theorem DoS.s3 {w wc : World} {g1 g3 g5 : Nat} {c : CmV} (h : DoS w wc g1 g3 g5 c) (s : ByteArray) (hs : s.size ≤ 1000000) {K : World → Prop} (k : ∀ wd, DoS w wd g1 g3 g5 c → Fr (only g5) wc wd → K wd) : StK ((⟨g5, 0, none⟩ : Addr).add 3) (.string s) wc K := by
  obtain ⟨x5, h5, e, t, v, rfl, he, hz, hn, hsh, hT⟩ := h.b5
  exact StK.fld h5 (by show 0 + 3 < 11; omega) rfl fun wd hb f _ => k wd (h.put h5 (x' := evR (e.1, e.2.1, e.2.2.1, s, e.2.2.2.2) v) f hb ⟨(e.1, e.2.1, e.2.2.1, s, e.2.2.2.2), t, v, rfl, he, ⟨hz.1, hz.2.1, hs, hz.2.2.2⟩, hn, hsh, hT⟩) f
theorem DoS.s4 {w wc : World} {g1 g3 g5 : Nat} {c : CmV} (h : DoS w wc g1 g3 g5 c) (s : ByteArray) (hs : s.size ≤ 1000000) {K : World → Prop} (k : ∀ wd, DoS w wd g1 g3 g5 c → Fr (only g5) wc wd → K wd) : StK ((⟨g5, 0, none⟩ : Addr).add 4) (.string s) wc K := by
  obtain ⟨x5, h5, e, t, v, rfl, he, hz, hn, hsh, hT⟩ := h.b5
  exact StK.fld h5 (by show 0 + 4 < 11; omega) rfl fun wd hb f _ => k wd (h.put h5 (x' := evR (e.1, e.2.1, e.2.2.1, e.2.2.2.1, s, e.2.2.2.2.2) v) f hb ⟨(e.1, e.2.1, e.2.2.1, e.2.2.2.1, s, e.2.2.2.2.2), t, v, rfl, he, ⟨hz.1, hz.2.1, hz.2.2.1, hs⟩, hn, hsh, hT⟩) f
theorem DoS.n5 {w wc : World} {g1 g3 g5 : Nat} {c : CmV} (h : DoS w wc g1 g3 g5 c) (n : Int) {K : World → Prop} (k : ∀ wd, DoS w wd g1 g3 g5 c → Fr (only g5) wc wd → K wd) : StK ((⟨g5, 0, none⟩ : Addr).add 5) (.int .i64 n) wc K := by
  obtain ⟨x5, h5, e, t, v, rfl, he, hz, hn, hsh, hT⟩ := h.b5
  exact StK.fld h5 (by show 0 + 5 < 11; omega) rfl fun wd hb f _ => k wd (h.put h5 (x' := evR (e.1, e.2.1, e.2.2.1, e.2.2.2.1, e.2.2.2.2.1, n, e.2.2.2.2.2.2) v) f hb ⟨(e.1, e.2.1, e.2.2.1, e.2.2.2.1, e.2.2.2.2.1, n, e.2.2.2.2.2.2), t, v, rfl, he, hz, hn, hsh, hT⟩) f
theorem DoS.n6 {w wc : World} {g1 g3 g5 : Nat} {c : CmV} (h : DoS w wc g1 g3 g5 c) (n : Int) {K : World → Prop} (k : ∀ wd, DoS w wd g1 g3 g5 c → Fr (only g5) wc wd → K wd) : StK ((⟨g5, 0, none⟩ : Addr).add 6) (.int .i64 n) wc K := by
  obtain ⟨x5, h5, e, t, v, rfl, he, hz, hn, hsh, hT⟩ := h.b5
  exact StK.fld h5 (by show 0 + 6 < 11; omega) rfl fun wd hb f _ => k wd (h.put h5 (x' := evR (e.1, e.2.1, e.2.2.1, e.2.2.2.1, e.2.2.2.2.1, e.2.2.2.2.2.1, n, e.2.2.2.2.2.2.2) v) f hb ⟨(e.1, e.2.1, e.2.2.1, e.2.2.2.1, e.2.2.2.2.1, e.2.2.2.2.2.1, n, e.2.2.2.2.2.2.2), t, v, rfl, he, hz, hn, hsh, hT⟩) f

theorem writes_shift {p : Addr} {m : Nat} : ∀ (vs : List Value) (w : World) (i : Nat), Writes w p (m + i) vs → Writes w (p.add m) i vs
  | [], _, _, _ => trivial
  | v :: vs, w, i, ⟨h1, h2, h3, h4⟩ => ⟨h1, by rw [add_add]; exact h2, by rw [add_add]; exact h3, by rw [add_add]; exact writes_shift vs _ (i + 1) h4⟩
theorem setCells_shift {p : Addr} {m : Nat} : ∀ (vs : List Value) (w : World) (i : Nat), setCells w (p.add m) i vs = setCells w p (m + i) vs
  | [], _, _ => rfl
  | v :: vs, w, i => by
    show setCells (w.setCell ((p.add m).add i) v) (p.add m) (i + 1) vs = setCells (w.setCell (p.add (m + i)) v) p (m + i + 1) vs
    rw [add_add, setCells_shift vs _ (i + 1)]; rfl
theorem DoS.term {w wc : World} {g1 g3 g5 : Nat} {c : CmV} (h : DoS w wc g1 g3 g5 c) {t : Tm} {v : TV} (hn : nodesT t ≤ 2000) (hsh : shortT t) (hT : IsTr wc (fun k => w.heap.size ≤ k ∧ k < wc.heap.size ∧ k ≠ g3 ∧ k ≠ g5) (trT t) v) {K : World → Prop} (k : ∀ wd, DoS w wd g1 g3 g5 c → Fr (only g5) wc wd → K wd) :
    StsK ((⟨g5, 0, none⟩ : Addr).add 7) (tvL v) wc K := by
  obtain ⟨x5, h5, e, t', v', rfl, he, hz, _⟩ := h.b5
  obtain ⟨a1, a2, a3, a4⟩ := setCells_all (T := 35) (b := g5) (tvL v) wc [.int .i64 e.1, .string e.2.1, .string e.2.2.1, .string e.2.2.2.1, .string e.2.2.2.2.1, .int .i64 e.2.2.2.2.2.1, .int .i64 e.2.2.2.2.2.2.1] (tvL v') h5 rfl rfl
  refine ⟨writes_shift _ _ 0 a1, ?_⟩
  rw [setCells_shift]
  exact k _ (h.put h5 (x' := evR (e.1, e.2.1, e.2.2.1, e.2.2.2.1, e.2.2.2.2.1, e.2.2.2.2.2.1, e.2.2.2.2.2.2.1, t.v, ()) v) a3 a2 ⟨_, t, v, rfl, rfl, hz, hn, hsh, hT⟩) a3

/-! ### Rules -/
theorem DoS.ri {w wc : World} {g1 g3 g5 : Nat} {c : CmV} (h : DoS w wc g1 g3 g5 c) {i : Nat} (hi : i < 5) {K : Int → Prop} (k : ∀ x, K x) : LdK (.int .i64) ((⟨g1, 0, none⟩ : Addr).add i) wc K := by
  match i, hi with
  | 0, _ => exact LdK.fld h.b1 (x := c.1) rfl (k _)
  | 1, _ => exact LdK.fld h.b1 (x := c.2.1) rfl (k _)
  | 2, _ => exact LdK.fld h.b1 (x := c.2.2.1) rfl (k _)
  | 3, _ => exact LdK.fld h.b1 (x := c.2.2.2.1) rfl (k _)
  | 4, _ => exact LdK.fld h.b1 (x := c.2.2.2.2.1) rfl (k _)
theorem DoS.rs {w wc : World} {g1 g3 g5 : Nat} {c : CmV} (h : DoS w wc g1 g3 g5 c) {K : ByteArray → Prop} (k : ∀ x, K x) : LdK .str ((⟨g1, 0, none⟩ : Addr).add 5) wc K := LdK.fld h.b1 (x := c.2.2.2.2.2.1) rfl (k _)
theorem inG {S : Nat → Prop} {g i : Nat} {K : Prop} (hS : S g) (k : K) : InK S ((⟨g, 0, none⟩ : Addr).add i) K := ⟨by rw [addr_add]; exact hS, k⟩
theorem witK (v of : Int) (hof : of ≤ 9223372036854775807) {wc : World} {K : Int → World → Prop} (k : ∀ x, 0 ≤ x → (1 ≤ of → x < of) → K x wc) : CallK Tryz.prog 22 #[.int .i64 v, .int .i64 of] wc (.v (.one (.int .i64))) (fun (x : Int) w' => K x w') := by
  refine CallK.of (within_spec v of wc hof) ?_
  rintro _ _ ⟨rfl, rfl⟩
  exact ⟨_, rfl, k _ (within_lo v of) (fun h => within_hi v h)⟩
theorem txtK (s : ByteArray) (n : Int) (h0 : 0 ≤ n) (h1 : n ≤ 1000) {wc : World} {K : ByteArray → World → Prop} (k : ∀ x : ByteArray, x.size ≤ 1000 → K x wc) : CallK Tryz.prog 49 #[.string s, .int .i64 n] wc (.v (.one .str)) (fun (x : ByteArray) w' => K x w') := by
  obtain ⟨l, rfl⟩ : ∃ l, s = str l := ⟨s.data.toList, (str_of s).symm⟩
  refine CallK.of (text1_spec l n wc h0) ?_
  rintro _ _ ⟨rfl, rfl⟩
  exact ⟨_, rfl, k _ (by rw [str_size, List.length_take]; omega)⟩
theorem wordK (ss : List (List UInt8)) (hl : ss.length = 3) (hs : ∀ s ∈ ss, s.length ≤ 1000) {wc : World} {K : (Option Addr × Nat × Nat) → World → Prop} (k : ∀ (u : Sl) w', (∀ (x : Int) (wd : World) (S : Nat → Prop), 0 ≤ x → x < 3 → Fr none1 w' wd → (∀ j, wc.heap.size ≤ j → S j) → ∀ K : ByteArray → Prop, (∀ s : ByteArray, s.size ≤ 1000 → K s) → IdxK u.1 u.2.1 x 1 fun a => InK S a (LdK .str a wd K)) → Fr none1 wc w' → K u w') :
    RunK Tryz.prog (Instr.buildSlice 23 ss.length (((ss.map sv).zipIdx.map fun (v, i) => (i, v)).toArray)) wc (.v (.one .slc)) (fun (x : Option Addr × Nat × Nat) w' => K x w') := by
  refine words_lit ss (by omega) fun u w' hu f hf => k u w' (fun x wd S h0 h1 fd hS K hK => ?_) f
  have hu2 : IsSs wd u ss := hu.keep0 fd
  have hul := hu2.len
  rcases hu2 with ⟨hh, _⟩ | ⟨g, off, cs, hv, hb, hle, hc, hn, he⟩
  · rw [hh] at hul; dsimp only at hul; omega
  · refine ⟨⟨g, off, none⟩, hv, h0, by omega, ?_⟩
    have hx : x.toNat < ss.length := by omega
    rw [addr_add]
    refine ⟨hS _ (hf _ ⟨_, hv, rfl⟩), LdK.cell (x := str (ss[x.toNat])) ?_ (hK _ (by rw [str_size]; exact hs _ (List.getElem_mem hx)))⟩
    rw [cell_blk hb, Nat.mul_one, he _ (by rw [List.length_map]; exact hx), List.getElem?_map, List.getElem?_eq_getElem hx]
    rfl

theorem DoS.rp {w wc : World} {g1 g3 g5 : Nat} {c : CmV} (h : DoS w wc g1 g3 g5 c) {K : PlV → Prop} (k : K (cmPl c)) : LdsK [.slc, .slc] ((⟨g1, 0, none⟩ : Addr).add 6) wc K :=
  ⟨cmPl c, cellsAt_shift (m := 6) _ 0 (cellsAt_all h.b1 _ 6 fun j hj => (by
    match j, hj with
    | 0, _ => rfl
    | 1, _ => rfl
    | j + 2, h => exact absurd h (by show ¬ j + 2 < 2; omega))), k⟩
theorem DoS.lt5 {w wc : World} {g1 g3 g5 : Nat} {c : CmV} (h : DoS w wc g1 g3 g5 c) : g5 < wc.heap.size ∧ g3 < wc.heap.size := by
  obtain ⟨_, h3⟩ := h.b3
  obtain ⟨_, h5, _⟩ := h.b5
  exact ⟨lt_of_blk h5, lt_of_blk h3⟩
theorem DoS.made {w wc wd : World} {g1 g3 g5 : Nat} {c : CmV} (h : DoS w wc g1 g3 g5 c) {t : Tr} {v : TV} (m : Made wc wd t v) {we : World} (f : Fr (only g5) wd we) : IsTr we (fun k => w.heap.size ≤ k ∧ k < we.heap.size ∧ k ≠ g3 ∧ k ≠ g5) t v := by
  have l := h.lt5; have s := h.fr.size
  have m' := IsTr.keep (T := only g5) f (fun k hk q => by have := hk.1; have : k = g5 := q; omega) _ _ m
  exact IsTr.mono (fun k hk => ⟨by have := hk.1; omega, Nat.lt_of_lt_of_le hk.2 f.size, by have := hk.1; omega, by have := hk.1; omega⟩) _ _ m'

theorem do_spec (c : CmV) (p2 : Int) {w : World} (hp : IsPl w (cmPl c)) : Ret Tryz.prog 48 #[.pointer none, .agg (cmL c).toArray, .int .i64 p2] w (Told w) := by
  refine c48 none c p2 w _ ?_
  unfold C48
  refine NewK.of fun g1 w1 hg1 hb1 f1 hs1 => NewK.of fun g3 w2 hg3 hb3 f2 hs2 => NewK.of fun g5 w3 hg5 hb5 f3 hs3 => ?_
  refine StsK.blk (cs := evRL (0, (⟨#[]⟩ : ByteArray), (⟨#[]⟩ : ByteArray), (⟨#[]⟩ : ByteArray), (⟨#[]⟩ : ByteArray), 0, 0, 0, (⟨#[]⟩ : ByteArray), 0, (none, 0, 0), ())) (vs := evRL (0, (⟨#[]⟩ : ByteArray), (⟨#[]⟩ : ByteArray), (⟨#[]⟩ : ByteArray), (⟨#[]⟩ : ByteArray), 0, 0, 0, (⟨#[]⟩ : ByteArray), 0, (none, 0, 0), ())) hb5 rfl rfl fun w4 hb54 f4 hs4 => ?_
  have e0 : (⟨#[]⟩ : ByteArray) = str [] := rfl
  have hz0 : (⟨#[]⟩ : ByteArray).size ≤ 1000000 := by decide
  have zfine : ∀ (wa : World) (S : Nat → Prop) (a : ByteArray) (k d v : Int), a.size ≤ 1000000 → Fine wa S (k, a, (⟨#[]⟩ : ByteArray), (⟨#[]⟩ : ByteArray), (⟨#[]⟩ : ByteArray), d, v, 0, (⟨#[]⟩ : ByteArray), 0, (none, 0, 0), ()) := fun wa S a k d v ha =>
    ⟨(k, a, (⟨#[]⟩ : ByteArray), (⟨#[]⟩ : ByteArray), (⟨#[]⟩ : ByteArray), d, v, .nilIface, ()), .none, (0, str [], 0, (none, 0, 0), ()), rfl, rfl, ⟨ha, hz0, hz0, hz0⟩, by decide, trivial, IsTr.mono (fun k hk => by have := hk.1; have := hk.2; omega) _ _ (leaf_made wa wa 0 [] 0)⟩
  have D : DoS w w4 g1 g3 g5 c := by
    have f14 : Fr none1 w w4 := ((f1.trans f2).trans f3).fresh f4 (by omega)
    exact ⟨f4.keep ((f2.trans f3).keep0 hb1) (fun t => by have : g1 = g5 := t; omega), hp, ⟨(0, (⟨#[]⟩ : ByteArray), (⟨#[]⟩ : ByteArray), (⟨#[]⟩ : ByteArray), (⟨#[]⟩ : ByteArray), 0, 0, 0, (⟨#[]⟩ : ByteArray), 0, (none, 0, 0), ()), f4.keep (f3.keep0 hb3) (fun t => by have : g3 = g5 := t; omega)⟩, ⟨_, hb54, zfine _ _ _ _ _ _ (by decide)⟩, f14, by omega⟩
  have hlo := D.lo
  clear hb1 hb3 hb5 hb54 f1 f2 f3 f4
  refine D.ri (by omega) fun x8 => ?_
  have et : (⟨#[116]⟩ : ByteArray) = str [116] := rfl
  rw [et]
  refine CallK.of (kname_spec [116] x8 5 (by omega) (by omega) (by decide) w4) ?_
  rintro _ w5 ⟨rfl, f5⟩
  refine ⟨_, rfl, ?_⟩
  have D := D.keep0 f5
  refine JoinK.of (fun q w' => q.1.size ≤ 1000 ∧ w5 = w') ?_ ?_
  · refine D.ri (by omega) fun x14 => ⟨by decide, ifB.by (fun _ => ?_) (fun _ => ⟨by rw [str_size]; simp, rfl⟩)⟩
    exact D.rs fun x => txtK x 14 (by decide) (by decide) fun y hy => ⟨hy, rfl⟩
  rintro _ ⟨nm, _⟩ _ ⟨hnm, rfl⟩
  dsimp only at hnm ⊢
  refine D.ri (by omega) fun x18 => witK x18 20 (by decide) fun k hk0 hk1 => ?_
  have hwr := wrap_rg (p2 + 2)
  -- the last steps
  have turn : ∀ {wa : World} (n : Int), n ≠ 0 → DoS w wa g1 g3 g5 c → LdK (.int .i64) ((⟨g1, 0, none⟩ : Addr).add 2) wa (fun (x139 : Int) => NzK n (ifB ((x139.tmod n) == n - 1)
      (LdK (.int .i64) ((⟨g1, 0, none⟩ : Addr).add 4) wa (fun (x140 : Int) => StK ((⟨g5, 0, none⟩ : Addr).add 6) (.int .i64 x140) wa (fun w141 => LdsK ERK ⟨g5, 0, none⟩ w141 (fun (x : EvR) => StsK ⟨g3, 0, none⟩ (evRL x) w141 (fun w2 => LdsK ERK ⟨g3, 0, none⟩ w2 (fun (y : EvR) => Told w (evRA y) w2))))))
      (LdsK ERK ⟨g5, 0, none⟩ wa (fun (x : EvR) => StsK ⟨g3, 0, none⟩ (evRL x) wa (fun w2 => LdsK ERK ⟨g3, 0, none⟩ w2 (fun (y : EvR) => Told w (evRA y) w2)))))) := fun {wa} n hn D =>
    D.ri (by omega) fun x => ⟨hn, ifB.by (fun _ => D.ri (by omega) fun y => D.n6 y fun wd D' _ => D'.fin) (fun _ => D.fin)⟩
  refine ifB.by (fun _ => D.n0 1 fun wd D' _ => D'.fin) (fun _ => ?_)
  refine ifB.by (fun _ => ?_) (fun _ => ?_)
  · refine D.rp ?_
    refine CallK.of (right_spec (D.pl.keep0 D.fr)) ?_
    rintro _ w6 ⟨v, tt, rfl, mv, hc, hsh, f6⟩
    refine ⟨v, rfl, ?_⟩
    have D6 := D.keep0 f6
    refine D6.n0 2 fun w7 D7 f7 => D7.s1 nm (by omega) fun w8 D8 f8 => ?_
    have hf := checkT_form hc
    refine D8.term (t := tt) (by omega) hsh (D.made mv (f7.trans f8)) fun w9 D9 f9 => ?_
    refine D9.ri (by omega) fun x => ⟨by decide, ifB.by (fun _ => ?_) (fun _ => D9.fin)⟩
    refine D9.rp ?_
    refine CallK.of (contract_spec (D9.pl.keep0 D9.fr)) ?_
    rintro _ wa ⟨v2, t2, rfl, mv2, hn2, hsh2, fa⟩
    refine ⟨v2, rfl, ?_⟩
    exact (D9.keep0 fa).term hn2 hsh2 (D9.made mv2 (Fr.refl _ _)) fun wb Db _ => Db.fin
  refine ifB.by (fun _ => ?_) (fun _ => ?_)
  · refine JoinK.of (fun _ w' => DoS w w' g1 g3 g5 c) ?_ ?_
    · refine DrewK.of fun w6 _ f6 => HoldK.of (fun k => k ≠ g5) ?_
      have D := D.keep0 f6
      refine inG hlo.2.2.2.2.1 (D.ri (by omega) fun xa => inG hlo.2.2.2.2.1 (D.ri (by omega) fun xb => inG hlo.2.2.2.2.1 (D.ri (by omega) fun xc => ?_)))
      repeat' first
        | exact D
        | (refine (⟨?_, ?_⟩ : AndK _ _))
        | (refine wordK [[108, 105, 98, 111, 114], [114, 97, 105, 110], [195, 182, 108]] rfl (by decide) fun u wd pick f => KeepK.of f ?_; have hlt := D.lt5; have D := D.keep0 f)
        | (refine witK _ _ (by first | decide | exact hwr.2) fun y hy0 hy1 => KeepK.of (Fr.refl _ _) ?_)
        | (refine pick _ _ _ (by assumption) (by first | (exact hy1 (by decide)) | (exact hyA (by decide)) | omega) (Fr.refl _ _) (fun j hj t => by omega) _ (fun s hs => ?_))
        | (refine D.n0 _ fun wd D' f => KeepK.on f (fun _ hk t => hk t) ?_; have D := D')
        | (refine D.s2 _ (by omega) fun wd D' f => KeepK.on f (fun _ hk t => hk t) ?_; have D := D')
        | (refine D.n5 _ fun wd D' f => KeepK.on f (fun _ hk t => hk t) ?_; have D := D')
        | (refine D.n6 _ fun wd D' f => KeepK.on f (fun _ hk t => hk t) ?_; have D := D')
        | fail
    rintro _ _ w6 D
    refine D.ri (by omega) fun x => ⟨by decide, ifB.by (fun _ => ifB.f rfl (turn 13 (by decide) D)) (fun _ => turn 13 (by decide) D)⟩
  refine ifB.by (fun _ => ?_) (fun _ => ?_)
  · refine DrewK.of fun w6 _ f6 => HoldK.of (fun k => k ≠ g5) ?_
    have D := D.keep0 f6
    refine inG hlo.2.2.2.2.1 (D.ri (by omega) fun xa => inG hlo.2.2.2.2.1 (D.ri (by omega) fun xb => ?_))
    refine witK _ 3 (by decide) fun y hy0 hy1 => KeepK.of (Fr.refl _ _) ?_
    have hr := wrap_rg (1 + y)
    refine CallK.of (digits_spec (IntKind.i64.wrap (1 + y)) hr.1 hr.2 w6) ?_
    rintro _ w7 ⟨rfl, f7⟩
    refine ⟨_, rfl, KeepK.of f7 ?_⟩
    have hit := itoa_short (IntKind.i64.wrap (1 + y)) hr.1 hr.2
    have D := D.keep0 f7
    have ech : (⟨#[99, 104]⟩ : ByteArray) = str [99, 104] := rfl
    rw [ech]
    refine ⟨by rw [str_size, str_size]; show ((_ : Nat) : Int) ≤ 9223372036854775807; simp only [List.length_cons, List.length_nil]; omega, ?_⟩
    rw [str_app]
    refine witK _ 2 (by decide) fun z hz0' hz1 => KeepK.of (Fr.refl _ _) ?_
    refine D.n0 _ fun wa D f => KeepK.on f (fun _ hk t => hk t) ?_
    refine D.s1 _ (by omega) fun wb D f => KeepK.on f (fun _ hk t => hk t) ?_
    refine D.s3 _ (by rw [str_size]; simp only [List.length_append, List.length_cons, List.length_nil]; omega) fun wc D f => KeepK.on f (fun _ hk t => hk t) ?_
    refine D.n6 _ fun wd D f => KeepK.on f (fun _ hk t => hk t) ?_
    refine D.ri (by omega) fun x => ⟨by decide, ifB.by (fun _ => ifB.f rfl D.fin) (fun _ => D.fin)⟩
  refine ifB.by (fun _ => ?_) (fun _ => ?_)
  · exact D.ri (by omega) fun x => witK x 4 (by decide) fun y _ _ => D.n0 5 fun wa Da _ => Da.n5 _ fun wb Db _ => Db.fin
  refine ifB.by (fun _ => ?_) (fun _ => ?_)
  · refine JoinK.of (fun _ w' => DoS w w' g1 g3 g5 c) ?_ ?_
    · refine DrewK.of fun w6 _ f6 => HoldK.of (fun k => k ≠ g5) ?_
      have D := D.keep0 f6
      refine inG hlo.2.2.2.2.1 (D.ri (by omega) fun xa => inG hlo.2.2.2.2.1 (D.ri (by omega) fun xb => ?_))
      repeat' first
        | exact D
        | (refine (⟨?_, ?_⟩ : AndK _ _))
        | (refine wordK [[117, 115, 100], [101, 117, 114], [103, 98, 112]] rfl (by decide) fun u wd pick f => KeepK.of f ?_; have hlt := D.lt5; have D := D.keep0 f)
        | (refine witK _ _ (by first | decide | exact hwr.2) fun y hy0 hy1 => KeepK.of (Fr.refl _ _) ?_)
        | (refine pick _ _ _ (by assumption) (by first | (exact hy1 (by decide)) | (exact hyA (by decide)) | omega) (Fr.refl _ _) (fun j hj t => by omega) _ (fun s hs => ?_))
        | (refine D.n0 _ fun wd D' f => KeepK.on f (fun _ hk t => hk t) ?_; have D := D')
        | (refine D.s4 _ (by omega) fun wd D' f => KeepK.on f (fun _ hk t => hk t) ?_; have D := D')
        | (refine D.n5 _ fun wd D' f => KeepK.on f (fun _ hk t => hk t) ?_; have D := D')
        | (refine D.n6 _ fun wd D' f => KeepK.on f (fun _ hk t => hk t) ?_; have D := D')
        | fail
    rintro _ _ w6 D
    exact ifB.f rfl (turn 7 (by decide) D)
  · refine DrewK.of fun w6 _ f6 => HoldK.of (fun k => k ≠ g5) ?_
    have D := D.keep0 f6
    refine inG hlo.2.2.2.2.1 (D.ri (by omega) fun xa => inG hlo.2.2.2.2.1 (D.rs fun xs => inG hlo.2.2.2.2.1 (D.ri (by omega) fun xb => inG hlo.2.2.2.2.1 (D.ri (by omega) fun xc => ?_))))
    refine witK _ 9 (by decide) fun y hy0 hy1 => KeepK.of (Fr.refl _ _) ?_
    refine txtK xs 5 (by decide) (by decide) fun s hs => KeepK.of (Fr.refl _ _) ?_
    obtain ⟨x5, h5, _⟩ := D.b5
    refine StsK.blk (cs := evRL x5) (vs := evRL (y, s, (⟨#[]⟩ : ByteArray), (⟨#[]⟩ : ByteArray), (⟨#[]⟩ : ByteArray), xb, xc, 0, (⟨#[]⟩ : ByteArray), 0, (none, 0, 0), ())) h5 rfl rfl fun w7 hb7 f7 _ => KeepK.on f7 (fun _ hk t => hk t) ?_
    exact (D.put h5 f7 hb7 (zfine _ _ s y xb xc (by omega))).fin

end Go.Proofs.YtbadiokobooliaaGreatDoor

/-! ### SomeSpec2 -/
set_option linter.unusedVariables false
set_option maxRecDepth 100000
namespace Go.Proofs.YtbadiokobooliaaGreatDoor
open Vc

theorem some_spec (c : CmV) (p1 p2 : Int) (p3 : ByteArray) {w : World} (hp : IsPl w (cmPl c)) :
    Ret Tryz.prog 11 #[.agg (cmL c).toArray, .int .i64 p1, .int .i64 p2, .string p3, .int .i64 0] w fun r w' =>
      ∃ (e : EvT) (t : Tm) (v : TV), r = .tuple #[evA e, evRA (evR e v), .bool false] ∧ e.2.2.2.2.2.2.2.1 = t.v ∧ smallE e ∧ nodesT t ≤ 2000 ∧ shortT t ∧ Made w w' (trT t) v ∧ Fr none1 w w' := by
  refine c11 c p1 p2 p3 0 w _ ?_
  unfold C11
  refine NewK.of fun g1 w1 hg1 hb1 f1 hs1 => NewK.of fun g3 w2 hg3 hb3 f2 hs2 => NewK.of fun g5 w3 hg5 hb5 f3 hs3 => ?_
  refine LdsK.blk (cks := [.int .i64, .int .i64, .int .i64, .int .i64, .int .i64, .str, .slc, .slc]) (x := c) ((f2.trans f3).keep0 hb1) ?_
  have f13 := (f1.trans f2).trans f3
  refine CallK.of (do_spec c 3 (hp.keep0 f13)) ?_
  rintro _ w4 ⟨x, rfl, hx, f4⟩
  refine ⟨x, rfl, ?_⟩
  have s4 := f4.size
  refine NewK.of fun g10 w5 hg10 hb10 f5 hs5 => ?_
  refine StsK.blk (cs := evRL (0, (⟨#[]⟩ : ByteArray), (⟨#[]⟩ : ByteArray), (⟨#[]⟩ : ByteArray), (⟨#[]⟩ : ByteArray), 0, 0, 0, (⟨#[]⟩ : ByteArray), 0, (none, 0, 0), ())) (vs := evRL x) hb10 rfl rfl fun w6 hb6 f6 hs6 => ?_
  have hx6 : Fine w6 (fun k => w3.heap.size ≤ k ∧ k < w4.heap.size) x := (hx.keep f5 (fun _ _ t => t) (fun _ h => h)).keep f6 (fun k hk t => by have : k = g10 := t; have := hk.2; omega) (fun _ h => h)
  refine JoinK.of (fun _ w' => (∃ y : EvR, w'.heap[g10]? = some (.cells (evRL y).toArray 35 (0, 0)) ∧ Fine w' (fun k => w3.heap.size ≤ k ∧ k < w4.heap.size) y) ∧ Fr (only g10) w6 w') ?_ ?_
  · obtain ⟨e, t, v, rfl, he, hz, hn, hsh, hT⟩ := hx6
    have kp : ∀ wd, Fr (only g10) w6 wd → IsTr wd (fun k => w3.heap.size ≤ k ∧ k < w4.heap.size) (trT t) v := fun wd f => IsTr.keep f (fun k hk q => by have : k = g10 := q; have := hk.2; omega) _ _ hT
    refine witK p1 20 (by decide) fun k _ _ => ?_
    refine ifB.by (fun _ => ?_) (fun _ => ?_)
    · refine witK p2 9 (by decide) fun n _ _ => StK.fld hb6 (by show 0 + 0 < 11; omega) rfl fun wd hb f _ => ?_
      exact ⟨⟨evR (n, e.2) v, hb, (n, e.2), t, v, rfl, he, hz, hn, hsh, kp wd f⟩, f⟩
    refine ifB.by (fun _ => ?_) (fun _ => ?_)
    · refine txtK p3 16 (by decide) (by decide) fun s hs => StK.fld hb6 (by show 0 + 1 < 11; omega) rfl fun wd hb f _ => ?_
      exact ⟨⟨evR (e.1, s, e.2.2) v, hb, (e.1, s, e.2.2), t, v, rfl, he, ⟨by show s.size ≤ _; omega, hz.2⟩, hn, hsh, kp wd f⟩, f⟩
    refine ifB.by (fun _ => ?_) (fun _ => ?_)
    · refine txtK p3 16 (by decide) (by decide) fun s hs => StK.fld hb6 (by show 0 + 2 < 11; omega) rfl fun wd hb f _ => ?_
      exact ⟨⟨evR (e.1, e.2.1, s, e.2.2.2) v, hb, (e.1, e.2.1, s, e.2.2.2), t, v, rfl, he, ⟨hz.1, by show s.size ≤ _; omega, hz.2.2⟩, hn, hsh, kp wd f⟩, f⟩
    refine ifB.by (fun _ => ?_) (fun _ => ?_)
    · refine txtK p3 16 (by decide) (by decide) fun s hs => StK.fld hb6 (by show 0 + 3 < 11; omega) rfl fun wd hb f _ => ?_
      exact ⟨⟨evR (e.1, e.2.1, e.2.2.1, s, e.2.2.2.2) v, hb, (e.1, e.2.1, e.2.2.1, s, e.2.2.2.2), t, v, rfl, he, ⟨hz.1, hz.2.1, by show s.size ≤ _; omega, hz.2.2.2⟩, hn, hsh, kp wd f⟩, f⟩
    refine ifB.by (fun _ => ?_) (fun _ => ?_)
    · refine txtK p3 16 (by decide) (by decide) fun s hs => StK.fld hb6 (by show 0 + 4 < 11; omega) rfl fun wd hb f _ => ?_
      exact ⟨⟨evR (e.1, e.2.1, e.2.2.1, e.2.2.2.1, s, e.2.2.2.2.2) v, hb, (e.1, e.2.1, e.2.2.1, e.2.2.2.1, s, e.2.2.2.2.2), t, v, rfl, he, ⟨hz.1, hz.2.1, hz.2.2.1, by show s.size ≤ _; omega⟩, hn, hsh, kp wd f⟩, f⟩
    refine ifB.by (fun _ => ?_) (fun _ => ?_)
    · refine StK.fld hb6 (by show 0 + 5 < 11; omega) rfl fun wd hb f _ => ?_
      exact ⟨⟨evR (e.1, e.2.1, e.2.2.1, e.2.2.2.1, e.2.2.2.2.1, p2, e.2.2.2.2.2.2) v, hb, (e.1, e.2.1, e.2.2.1, e.2.2.2.1, e.2.2.2.2.1, p2, e.2.2.2.2.2.2), t, v, rfl, he, hz, hn, hsh, kp wd f⟩, f⟩
    refine ifB.by (fun _ => ?_) (fun _ => ?_)
    · refine StK.fld hb6 (by show 0 + 6 < 11; omega) rfl fun wd hb f _ => ?_
      exact ⟨⟨evR (e.1, e.2.1, e.2.2.1, e.2.2.2.1, e.2.2.2.2.1, e.2.2.2.2.2.1, p2, e.2.2.2.2.2.2.2) v, hb, (e.1, e.2.1, e.2.2.1, e.2.2.2.1, e.2.2.2.2.1, e.2.2.2.2.2.1, p2, e.2.2.2.2.2.2.2), t, v, rfl, he, hz, hn, hsh, kp wd f⟩, f⟩
    · exact ⟨⟨evR e v, hb6, e, t, v, rfl, he, hz, hn, hsh, hT⟩, Fr.refl _ _⟩
  rintro _ _ w7 ⟨⟨y, hb7, e, t, v, rfl, he, hz, hn, hsh, hT⟩, f7⟩
  refine LdsK.blk (cks := ERK) (x := evR e v) hb7 ?_
  refine CallK.of (back_spec e t he hT) ?_
  rintro _ w8 ⟨rfl, f8⟩
  refine ⟨e, rfl, ?_⟩
  have hone : one1 e.2.2.2.2.2.2.2.1 = true := by rw [he]; exact Tm.v_one t
  refine ns_ok (zs := [.int .i64 0, .string (⟨#[]⟩ : ByteArray), .string (⟨#[]⟩ : ByteArray), .string (⟨#[]⟩ : ByteArray), .string (⟨#[]⟩ : ByteArray), .int .i64 0, .int .i64 0, .nilIface]) (vs := evL e) rfl (evL_one hone) fun g38 w9 hg38 hb9 f9 => ?_
  refine ⟨by decide, ifB.f (by decide) ?_⟩
  have s5 := f5.size; have s6 := f6.size; have s7 := f7.size; have s8 := f8.size
  refine DrewK.of fun wa _ fa => HoldK.of (fun k => k = g38) ⟨rfl, ?_⟩
  refine LdsK.blk (cks := EK) (x := e) (fa.keep0 hb9) ⟨rfl, LdsK.blk (cks := EK) (x := e) (fa.keep0 hb9) ?_⟩
  refine CallK.of (event_of_spec e t he wa) ?_
  rintro _ wb ⟨v2, rfl, mv, fb⟩
  refine ⟨evR e v2, rfl, KeepK.of fb ?_⟩
  have f36 : Fr none1 w3 w6 := (f4.trans f5).fresh f6 (by omega)
  have f3b : Fr none1 w3 wb := ((((f36.fresh f7 (by omega)).trans f8).trans f9).trans fa).trans fb
  have s3b := f3b.size
  have sab := (f9.trans fa).size
  refine StsK.blk (cs := [.int .i64 0, .string (⟨#[]⟩ : ByteArray), .string (⟨#[]⟩ : ByteArray), .string (⟨#[]⟩ : ByteArray), .string (⟨#[]⟩ : ByteArray), .int .i64 0, .int .i64 0, .nilIface]) (vs := evL e) ((f3.trans f3b).keep0 hb3) rfl (evL_one hone) fun wc hbc fc _ => KeepK.on fc (fun k hk q => by have : g3 = k := q.symm; omega) ?_
  refine StsK.blk (cs := evRL (0, (⟨#[]⟩ : ByteArray), (⟨#[]⟩ : ByteArray), (⟨#[]⟩ : ByteArray), (⟨#[]⟩ : ByteArray), 0, 0, 0, (⟨#[]⟩ : ByteArray), 0, (none, 0, 0), ())) (vs := evRL (evR e v2)) (fc.keep (f3b.keep0 hb5) (fun q => by have : g5 = g3 := q; omega)) rfl rfl fun wd hbd fd _ => KeepK.on fd (fun k hk q => by have : g5 = k := q.symm; omega) ?_
  refine LdsK.blk (cks := EK) (x := e) (fd.keep hbc (fun q => by have : g3 = g5 := q; omega)) (LdsK.blk (cks := ERK) (x := evR e v2) hbd ?_)
  refine ⟨e, t, v2, rfl, he, hz, hn, hsh, ?_, ((f13.trans f3b).fresh fc (by omega)).fresh fd (by omega)⟩
  have m2 := (mv.keep fc (fun k hk _ q => by have : k = g3 := q; omega)).keep fd (fun k hk _ q => by have : k = g5 := q; omega)
  exact m2.older (by omega)

end Go.Proofs.YtbadiokobooliaaGreatDoor

/-! ### RefEv2 -/
set_option linter.unusedVariables false
set_option maxRecDepth 100000
namespace Go.Proofs.YtbadiokobooliaaGreatDoor
open Vc

/-- Some bytes behind some others. -/
theorem app_some {w : World} {x : Sl} {xs : List UInt8} (hx : IsB w x xs) {y : Sl} {ys : List UInt8} (hy : IsB w y ys) (hl : xs.length + ys.length ≤ 100000000) {K : (Option Addr × Nat × Nat) → World → Prop}
    (k : ∀ (u : Sl) w', IsB w' u (xs ++ ys) → Fr (blkOf x) w w' → (∀ k, blkOf u k → blkOf x k ∨ w.heap.size ≤ k) → K u w') :
    RunK Tryz.prog (Builtin.append_ #[38, 38] 38 #[.slice x.1 x.2.1 x.2.2, .slice y.1 y.2.1 y.2.2]) w (.v (.one .slc)) (fun (u : Option Addr × Nat × Nat) w' => K u w') := by
  obtain ⟨u, w', hr, hu, f, uf⟩ := append_bytes hx hy.rd hl
  exact ⟨u, w', hr, k u w' hu f uf⟩

theorem number11_spec (n : Int) (w : World) : Ret Tryz.prog 20 #[.int .i64 n] w fun r w' => ∃ u : Sl, r = .slice u.1 u.2.1 u.2.2 ∧ IsB w' u (numL n) ∧ Fr none1 w w' ∧ ∀ k, blkOf u k → w.heap.size ≤ k := by
  refine c20 n w _ ?_
  unfold C20
  obtain ⟨M, hM⟩ : ∃ M : Nat, M = (n % 18446744073709551616).toNat := ⟨_, rfl⟩
  have hMn : IntKind.u64.wrap n = (M : Int) := by rw [wrapU]; omega
  have hnum : numL n = digs 8 M := by rw [hM]; rfl
  rw [hnum, hMn]
  refine LoopK.of (fun s w' => ∃ j : Nat, s.2.1 = 7 - (j : Int) ∧ j ≤ 8 ∧ IsB w' s.1 ((digs 8 M).take j) ∧ (∀ k, blkOf s.1 k → w.heap.size ≤ k) ∧ Fr none1 w w') (fun s _ => (s.2.1 + 1).toNat) ⟨0, rfl, by omega, .inl ⟨rfl, rfl⟩, (fun k ⟨a, ha, _⟩ => by cases ha), Fr.refl _ _⟩ ?_
  rintro _ ⟨v, i, _⟩ w1 ⟨j, hi, hj, hv, hvf, f1⟩
  dsimp only at hi hv hvf ⊢
  subst hi
  refine ifB.dec (fun hge => ?_) (fun hlt => ?_)
  rotate_left
  · have : j = 8 := by omega
    subst this
    rw [List.take_of_length_le (by rw [digs_len]; omega)] at hv
    exact ⟨v, rfl, hv, f1, hvf⟩
  have hj8 : j < 8 := by omega
  have e1 : IntKind.u64.wrap (IntKind.i64.wrap (8 * (7 - (j : Int)))) = ((8 * (7 - j) : Nat) : Int) := by
    rw [wI (x := 8 * (7 - (j : Int))) (by omega) (by omega), wrapU]; omega
  rw [e1]
  refine ⟨by omega, ?_⟩
  rw [Int.toNat_natCast, fdiv_nat M (8 * (7 - j)) (by omega), wrapB, show 2 ^ (8 * (7 - j)) = 256 ^ (7 - j) by rw [Nat.pow_mul]]
  have hb : Value.int .u8 ((M / 256 ^ (7 - j) % 256 : Nat) : Int) = bc (UInt8.ofNat (M / 256 ^ (7 - j) % 256)) := by
    unfold bc
    rw [u8_nat (Nat.mod_lt _ (by decide))]
  rw [hb]
  obtain ⟨x, w2, hr2, hx, hxl, f2, xf⟩ := lit_ok (P := Tryz.prog) (w := w1) elem_byte [bc (UInt8.ofNat (M / 256 ^ (7 - j) % 256))] (by simp [bc, Value.cells]) (by simp)
  refine ⟨x, w2, hr2, ?_⟩
  have hx0 : IsB w2 x [UInt8.ofNat (M / 256 ^ (7 - j) % 256)] := hx
  have s1 := f1.size; have s2 := f2.size
  refine app_some (IsB.keep0 hv f2) hx0 (by rw [List.length_take, digs_len]; simp only [List.length_singleton]; omega) fun u w3 hu f3 uf => ?_
  rw [wI (x := 7 - (j : Int) - 1) (by omega) (by omega)]
  refine ⟨⟨j + 1, by omega, by omega, ?_, fun k hk => ?_, (f1.trans f2).comp f3 (fun k hk t => by have := hvf k t; omega)⟩, by omega⟩
  · have hd := digs_at 8 M j hj8
    rw [List.take_add_one, hd]
    exact hu
  · rcases uf k hk with t | t
    · exact hvf k t
    · omega

theorem row11_spec (s : ByteArray) (hs : s.size ≤ 1000000) (w : World) : Ret Tryz.prog 57 #[.string s] w fun r w' => ∃ u : Sl, r = .slice u.1 u.2.1 u.2.2 ∧ IsB w' u (txtB s.data.toList) ∧ Fr none1 w w' ∧ ∀ k, blkOf u k → w.heap.size ≤ k := by
  refine c57 s w _ ?_
  unfold C57
  rw [wrapB_bc]
  refine rowText_ok (w := w) [UInt8.ofNat (s.size % 256)] (by simp) s hs fun u w2 hu f2 uf => ?_
  refine ⟨u, rfl, ?_, f2, uf⟩
  unfold txtB
  rw [show s.data.toList.length = s.size from rfl]
  exact hu

theorem rowK (s : ByteArray) (hs : s.size ≤ 1000000) (w : World) {K : (Option Addr × Nat × Nat) → World → Prop} (h : ∀ u w', IsB w' u (txtB s.data.toList) → Fr none1 w w' → (∀ k, blkOf u k → w.heap.size ≤ k) → K u w') : CallK Tryz.prog 57 #[.string s] w (.v (.one .slc)) (fun (x : Option Addr × Nat × Nat) w' => K x w') := by
  refine CallK.of (row11_spec s hs w) ?_
  rintro _ w1 ⟨u, rfl, hu, f1, uf⟩
  exact ⟨u, rfl, h u w1 hu f1 uf⟩
theorem numK11 (n : Int) (w : World) {K : (Option Addr × Nat × Nat) → World → Prop} (h : ∀ u w', IsB w' u (numL n) → Fr none1 w w' → (∀ k, blkOf u k → w.heap.size ≤ k) → K u w') : CallK Tryz.prog 20 #[.int .i64 n] w (.v (.one .slc)) (fun (x : Option Addr × Nat × Nat) w' => K x w') := by
  refine CallK.of (number11_spec n w) ?_
  rintro _ w1 ⟨u, rfl, hu, f1, uf⟩
  exact ⟨u, rfl, h u w1 hu f1 uf⟩

theorem pack11_spec (e : EvT) (t : Tm) (he : e.2.2.2.2.2.2.2.1 = t.v) (hz : smallE e) (hn : nodesT t ≤ 30000) (hsh : shortT t) (hts : (writeT t).1.length ≤ 1000000) {w : World} {S : Nat → Prop} {v : TV} (h : IsTr w S (trT t) v) (hS : ∀ k, S k → k < w.heap.size) :
    Ret Tryz.prog 13 #[evRA (evR e v)] w fun r w' => ∃ u : Sl, r = .tuple #[.slice u.1 u.2.1 u.2.2, .int .i64 (packF e (writeT t).1 (writeT t).2).2] ∧ IsB w' u (packF e (writeT t).1 (writeT t).2).1 ∧ Fr none1 w w' ∧ ∀ k, blkOf u k → w.heap.size ≤ k := by
  refine c13 (evR e v) w _ ?_
  unfold C13
  refine NewK.of fun g w1 hg hb f1 _ => ?_
  refine LdsK.blk (cks := [.int .i64, .str, .str, .str, .str, .int .i64, .int .i64, .int .i64, .str, .int .i64, .slc]) (x := evR e v) hb ?_
  refine CallK.of (check11_spec e t he hz hn hsh (h.keep0 f1) (fun k hk => by have := hS k hk; have := f1.size; omega)) ?_
  rintro _ w2 ⟨rfl, f2⟩
  refine ⟨_, rfl, ?_⟩
  have f12 := f1.trans f2
  have hb2 := f2.keep0 hb
  unfold packF
  refine ifB.ne (fun hne => ?_) (fun heq => ?_)
  · rw [if_pos hne]
    exact ⟨(none, 0, 0), rfl, .inl ⟨rfl, rfl⟩, f12, fun k ⟨a, ha, _⟩ => by cases ha⟩
  rw [if_neg (fun t => t heq)]
  refine LdK.fld hb2 (x := e.1) rfl ?_
  have hkB : Value.int .u8 (IntKind.u8.wrap e.1) = bc (UInt8.ofNat (e.1 % 256).toNat) := by
    unfold bc
    rw [u8_nat (by omega)]
    congr 1
    simp [IntKind.wrap, IntKind.signed, IntKind.bits]
    omega
  rw [hkB]
  obtain ⟨x, w3, hr3, hx, hxl, f3, xf⟩ := lit_ok (P := Tryz.prog) (w := w2) elem_byte [bc (UInt8.ofNat (e.1 % 256).toNat)] (by simp [bc, Value.cells]) (by simp)
  refine ⟨x, w3, hr3, ?_⟩
  have hx0 : IsB w3 x [UInt8.ofNat (e.1 % 256).toNat] := hx
  obtain ⟨y, w4, hr4, hy, hyl, f4, yf⟩ := lit_ok (P := Tryz.prog) (w := w3) elem_byte (ordL.map bc) (by intro v hv; obtain ⟨x, _, rfl⟩ := List.mem_map.1 hv; rfl) (by decide)
  refine ⟨y, w4, hr4, ?_⟩
  have hy0 : IsB w4 y ordL := hy
  have s12 := f12.size
  have s3 := f3.size
  have s4 := f4.size
  have hysome : y.1.isSome = true := by
    rcases hy0 with ⟨hh, _⟩ | ⟨g', off, cs, hv', _⟩
    · rw [hh] at hyl; exact absurd hyl (by decide)
    · rw [hv']; rfl
  obtain ⟨w5, hr5, hy5, f5⟩ := conv_ok (P := Tryz.prog) Tryz.underlying38 Tryz.underlying5 hy0 hysome
  refine ⟨y, w5, hr5, ?_⟩
  have hyr : RdB w5 y ordL := hy5
  have s5 := f5.size
  have f25 : Fr none1 w2 w5 := (f3.trans f4).comp f5 (fun k hk t => by have := yf k t; omega)
  have hb5 := f25.keep0 hb2
  have f15 := f12.trans f25
  have hyold : ∀ k, blkOf y k → k < w4.heap.size := fun k hk => IsSl.lt hy0 hk
  have ylt : ∀ k, blkOf y k → k < w5.heap.size := fun k hk => by have := IsSl.lt hy0 hk; omega
  have hx5 : IsB w5 x [UInt8.ofNat (e.1 % 256).toNat] := IsB.keep (IsB.keep0 hx0 f4) f5 (fun k hk t => by have := yf k t; have := IsSl.lt hx0 hk; omega)
  have hyl7 : y.2.1 = 7 := hyl
  have htr : hasF e.1 84 = true → (writeT t).2 = 0 := fun h84 => by
    have h2 : e.1 = 2 := by
      unfold hasF fieldsF at h84
      by_cases h2 : e.1 = 2
      · exact h2
      · rw [if_neg h2] at h84
        repeat' split at h84
        all_goals exact absurd h84 (by decide)
    unfold checkF at heq
    rw [h2] at heq
    repeat' split at heq
    all_goals first | exact heq | (exact absurd heq (by decide)) | (rename_i hx; exact absurd rfl hx)
  refine LoopK.of (fun s w' => ∃ i : Nat, s.2.1 = i ∧ i ≤ 7 ∧ IsB w' s.1 (UInt8.ofNat (e.1 % 256).toNat :: ((ordL.take i).filter (hasF e.1)).flatMap (fieldB e (writeT t).1)) ∧ (∀ k, blkOf s.1 k → w2.heap.size ≤ k ∧ ¬ blkOf y k) ∧ RdB w' y ordL ∧ Fr none1 w2 w' ∧ w5.heap.size ≤ w'.heap.size)
    (fun s _ => (7 - s.2.1).toNat) ⟨0, rfl, by omega, hx5, fun k hk => ⟨xf k hk, fun t => by have := yf k t; have := IsSl.lt hx0 hk; omega⟩, hyr, f25, Nat.le_refl _⟩ ?_
  rintro _ ⟨u, i', _⟩ w6 ⟨i, hi, hil, hu, huf, hy6, f6, hs56⟩
  dsimp only at hi hu huf ⊢
  subst hi
  refine ifB.dec (fun hlt => ?_) (fun hge => ?_)
  rotate_left
  · have : i = 7 := by omega
    subst this
    have hfl : (ordL.take 7).filter (hasF e.1) = fieldL e.1 := rfl
    rw [hfl] at hu
    exact ⟨u, rfl, hu, f12.trans f6, fun k hk => by have := (huf k hk).1; omega⟩
  have hi7 : i < 7 := by omega
  refine RdB.at hy6 (i := (i : Int)) (by omega) hlt ?_
  rw [Int.toNat_natCast]
  obtain ⟨c, hc⟩ : ∃ c, ordL[i]? = some c := ⟨_, List.getElem?_eq_getElem (by show i < 7; exact hi7)⟩
  have hcv : ordL.getD i 0 = c := by rw [List.getD_eq_getElem?_getD, hc]; rfl
  rw [hcv]
  have hb6 := f6.keep0 hb2
  refine LdK.fld hb6 (x := e.1) rfl ?_
  refine CallK.of (fields11_spec e.1 w6) ?_
  rintro _ _ ⟨rfl, rfl⟩
  refine ⟨_, rfl, ?_⟩
  refine hasK e.1 c w6 ?_
  have hstep : ((ordL.take (i + 1)).filter (hasF e.1)).flatMap (fieldB e (writeT t).1) = ((ordL.take i).filter (hasF e.1)).flatMap (fieldB e (writeT t).1) ++ (if hasF e.1 c = true then fieldB e (writeT t).1 c else []) := by
    rw [List.take_add_one, hc, List.filter_append, List.flatMap_append]
    by_cases hh : hasF e.1 c = true
    · simp [hh]
    · simp [hh]
  have hwi : IntKind.i64.wrap ((i : Int) + 1) = ((i + 1 : Nat) : Int) := by rw [wI (x := (i : Int) + 1) (by omega) (by omega)]; rfl
  rw [hwi]
  refine ifB.not (ifB.by (fun hh => ?_) (fun hh => ?_))
  rotate_left
  · rw [if_neg (by rw [hh]; decide), List.append_nil] at hstep
    exact ⟨⟨i + 1, rfl, by omega, by rw [hstep]; exact hu, huf, hy6, f6, hs56⟩, by omega⟩
  rw [if_pos hh] at hstep
  have hbound : ∀ l : List UInt8, (l.flatMap (fieldB e (writeT t).1)).length ≤ l.length * 1000010 := by
    intro l
    induction l with
    | nil => simp
    | cons a l ih => rw [List.flatMap_cons, List.length_append, List.length_cons]; have := fieldB_len e hz (writeT t).1 hts a; omega
  have hb1' := hbound ((ordL.take i).filter (hasF e.1))
  have hb2' := fieldB_len e hz (writeT t).1 hts c
  have ht7 : ((ordL.take i).filter (hasF e.1)).length ≤ 7 := by have := List.length_filter_le (hasF e.1) (ordL.take i); rw [List.length_take] at this; omega
  have s6 := f6.size
  -- the field's bytes put behind
  have go : ∀ (wa : World) (q : Sl), IsB wa q (fieldB e (writeT t).1 c) → Fr none1 w6 wa → RunK Tryz.prog (Builtin.append_ #[38, 38] 38 #[.slice u.1 u.2.1 u.2.2, .slice q.1 q.2.1 q.2.2]) wa (.v (.one .slc)) (fun (x26 : Option Addr × Nat × Nat) w27 =>
      (∃ j : Nat, ((i + 1 : Nat) : Int) = j ∧ j ≤ 7 ∧ IsB w27 (x26.1, x26.2.1, x26.2.2) (UInt8.ofNat (e.1 % 256).toNat :: ((ordL.take j).filter (hasF e.1)).flatMap (fieldB e (writeT t).1)) ∧ (∀ k, blkOf (x26.1, x26.2.1, x26.2.2) k → w2.heap.size ≤ k ∧ ¬ blkOf y k) ∧ RdB w27 y ordL ∧ Fr none1 w2 w27 ∧ w5.heap.size ≤ w27.heap.size) ∧ (7 - ((i + 1 : Nat) : Int)).toNat < (7 - (i : Int)).toNat) := by
    intro wa q hq fa
    refine app_some (IsB.keep0 hu fa) hq (by simp only [List.length_cons]; omega) fun z w7 hz7 f7 zf => ?_
    have sa := fa.size
    refine ⟨⟨i + 1, rfl, by omega, by rw [hstep, ← List.cons_append]; exact hz7, fun k hk => ?_, RdB.keep (RdB.keep0 hy6 fa) f7 (fun k hk t => (huf k t).2 hk), (f6.trans fa).comp f7 (fun k hk t => by have := (huf k t).1; omega), by have := f7.size; omega⟩, by omega⟩
    rcases zf k hk with t | t
    · exact huf k t
    · exact ⟨by omega, fun q => by have := IsSl.lt hy0 q; have := s5; have := hyold k q; omega⟩
  have eqc : ∀ d : UInt8, (c.toNat : Int) = (d.toNat : Int) → c = d := fun d h => UInt8.toNat_inj.1 (by omega)
  refine ifB.eq (fun q => ?_) (fun n73 => ?_)
  · have hc' := eqc 73 q
    exact LdK.fld hb6 (x := e.2.1) rfl (rowK _ hz.1 w6 fun q w7 hq f7 _ => go w7 q (by rw [hc']; exact hq) f7)
  refine ifB.eq (fun q => ?_) (fun n78 => ?_)
  · have hc' := eqc 78 q
    exact LdK.fld hb6 (x := e.2.2.1) rfl (rowK _ hz.2.1 w6 fun q w7 hq f7 _ => go w7 q (by rw [hc']; exact hq) f7)
  refine ifB.eq (fun q => ?_) (fun n76 => ?_)
  · have hc' := eqc 76 q
    exact LdK.fld hb6 (x := e.2.2.2.1) rfl (rowK _ hz.2.2.1 w6 fun q w7 hq f7 _ => go w7 q (by rw [hc']; exact hq) f7)
  refine ifB.eq (fun q => ?_) (fun n67 => ?_)
  · have hc' := eqc 67 q
    exact LdK.fld hb6 (x := e.2.2.2.2.1) rfl (rowK _ hz.2.2.2 w6 fun q w7 hq f7 _ => go w7 q (by rw [hc']; exact hq) f7)
  refine ifB.eq (fun q => ?_) (fun n68 => ?_)
  · have hc' := eqc 68 q
    exact LdK.fld hb6 (x := e.2.2.2.2.2.1) rfl (numK11 _ w6 fun q w7 hq f7 _ => go w7 q (by rw [hc']; exact hq) f7)
  refine ifB.eq (fun q => ?_) (fun n86 => ?_)
  · have hc' := eqc 86 q
    exact LdK.fld hb6 (x := e.2.2.2.2.2.2.1) rfl (numK11 _ w6 fun q w7 hq f7 _ => go w7 q (by rw [hc']; exact hq) f7)
  have h84 : c = 84 := by
    have hmem : c ∈ ordL := List.mem_of_getElem? hc
    simp only [ordL, List.mem_cons, List.not_mem_nil, or_false] at hmem
    rcases hmem with q | q | q | q | q | q | q
    · exact (n73 (by rw [q]; rfl)).elim
    · exact (n78 (by rw [q]; rfl)).elim
    · exact (n76 (by rw [q]; rfl)).elim
    · exact (n67 (by rw [q]; rfl)).elim
    · exact (n68 (by rw [q]; rfl)).elim
    · exact (n86 (by rw [q]; rfl)).elim
    · exact q
  have he84 : (writeT t).2 = 0 := htr (by rw [← h84]; exact hh)
  have tv : ∀ {K : TV → Prop}, K v → LdsK TVK ((⟨g, 0, none⟩ : Addr).add 7) w6 K := fun {K} k => ⟨v, cellsAt_shift (m := 7) _ 0 (cellsAt_all hb6 (Cs.vals TVK v) 7 fun j hj => (by
    match j, hj with
    | 0, _ => rfl
    | 1, _ => rfl
    | 2, _ => rfl
    | 3, _ => rfl
    | j + 4, h => exact absurd h (by show ¬ j + 4 < 4; omega))), k⟩
  refine tv ?_
  have hcn := cnt_trT t
  have hln := len_trT t hsh
  have f06 := f12.trans f6
  refine CallK.of (rwrite_spec (trT t) false (by omega) (short_trT t hsh) (by omega) (h.keep0 f06) (fun k hk => by have := hS k hk; have := f06.size; omega)) ?_
  rintro _ w7 ⟨rfl, f7⟩
  rw [writeR_trT]
  refine ⟨(str (writeT t).1, (writeT t).2, ()), rfl, ?_⟩
  dsimp only
  rw [he84]
  refine ifB.f rfl ⟨by decide, ?_⟩
  have es : ((str (writeT t).1).size : Int) = ((writeT t).1.length : Int) := by rw [str_size]
  rw [es, show Int.toNat 8 = 8 from rfl, fdiv_nat (writeT t).1.length 8 (by omega), wrapB_bc, wrapB_bc]
  obtain ⟨x2, w8, hr8, hx2, hxl2, f8, xf2⟩ := lit_ok (P := Tryz.prog) (w := w7) elem_byte [bc (UInt8.ofNat ((writeT t).1.length / 2 ^ 8 % 256)), bc (UInt8.ofNat ((writeT t).1.length % 256))] (by simp [bc, Value.cells]) (by simp)
  refine ⟨x2, w8, hr8, ?_⟩
  have hx20 : IsB w8 x2 [UInt8.ofNat ((writeT t).1.length / 2 ^ 8 % 256), UInt8.ofNat ((writeT t).1.length % 256)] := hx2
  have s7 := f7.size; have s8 := f8.size
  refine app_some (IsB.keep0 hu (f7.trans f8)) hx20 (by simp only [List.length_cons, List.length_nil]; omega) fun z w9 hz9 f9 zf => ?_
  have s9 := f9.size
  have hul := hz9.len
  obtain ⟨q, w10, hr10, hq, _, f10, qf⟩ := append_text elem_byte 38 Tryz.underlying9 hz9 (str (writeT t).1) (by rw [hul, str_size]; simp only [List.length_append, List.length_cons, List.length_nil]; omega)
  have zof : ∀ k, blkOf z k → w2.heap.size ≤ k ∧ ¬ blkOf y k := fun k hk => (zf k hk).elim (huf k) fun t => ⟨by omega, fun q => by have := hyold k q; omega⟩
  refine ⟨q, w10, hr10, ⟨i + 1, rfl, by omega, ?_, fun k hk => ?_, RdB.keep (RdB.keep (RdB.keep0 hy6 (f7.trans f8)) f9 (fun k hk t => (huf k t).2 hk)) f10 (fun k hk t => (zof k t).2 hk), ((f6.trans (f7.trans f8)).comp f9 (fun k hk t => by have := (huf k t).1; omega)).comp f10 (fun k hk t => by have := (zof k t).1; omega), by have := f10.size; omega⟩, by omega⟩
  · rw [hstep]
    have hF : fieldB e (writeT t).1 c = [UInt8.ofNat ((writeT t).1.length / 2 ^ 8 % 256), UInt8.ofNat ((writeT t).1.length % 256)] ++ (writeT t).1 := by rw [h84]; rfl
    rw [hF, ← List.cons_append, ← List.append_assoc]
    unfold IsB
    rw [List.map_append, ← str_list (writeT t).1]
    simp only [str_list] at hq ⊢
    exact hq
  · rcases qf k hk with t | t
    · exact zof k t
    · exact ⟨by omega, fun q => by have := hyold k q; omega⟩


abbrev EnR := Int × ByteArray × ByteArray × ByteArray × ByteArray × Int × Int × Int × ByteArray × Int × (Option Addr × Nat × Nat) × Bool × Unit
def enR (e : EvT) (v : TV) (r : Bool) : EnR := (e.1, e.2.1, e.2.2.1, e.2.2.2.1, e.2.2.2.2.1, e.2.2.2.2.2.1, e.2.2.2.2.2.2.1, v.1, v.2.1, v.2.2.1, v.2.2.2.1, r, ())
def enRA (e : EvT) (v : TV) (r : Bool) : Value := .agg #[.int .i64 e.1, .string e.2.1, .string e.2.2.1, .string e.2.2.2.1, .string e.2.2.2.2.1, .int .i64 e.2.2.2.2.2.1, .int .i64 e.2.2.2.2.2.2.1, .int .i64 v.1, .string v.2.1, .int .i64 v.2.2.1, .slice v.2.2.2.1.1 v.2.2.2.1.2.1 v.2.2.2.1.2.2, .bool r]

theorem entry11_spec (e : EvT) (r : Bool) (t : Tm) (he : e.2.2.2.2.2.2.2.1 = t.v) (hz : smallE e) (hn : nodesT t ≤ 30000) (hsh : shortT t) (hts : (writeT t).1.length ≤ 1000000) {w : World} {S : Nat → Prop} {v : TV} (h : IsTr w S (trT t) v) (hS : ∀ k, S k → k < w.heap.size) :
    Ret Tryz.prog 15 #[enRA e v r] w fun q w' => ∃ u : Sl, q = .tuple #[.slice u.1 u.2.1 u.2.2, .int .i64 (entF e (writeT t).1 (writeT t).2 r).2] ∧ IsB w' u (entF e (writeT t).1 (writeT t).2 r).1 ∧ Fr none1 w w' ∧ ∀ k, blkOf u k → w.heap.size ≤ k := by
  refine c15 (enR e v r) w _ ?_
  unfold C15
  refine NewK.of fun g w1 hg hb f1 _ => ?_
  refine LdsK.pre (cks := [.int .i64, .str, .str, .str, .str, .int .i64, .int .i64, .int .i64, .str, .int .i64, .slc]) (x := evR e v) hb (fun j hj => ?_) ?_
  · match j, hj with
    | 0, _ => rfl
    | 1, _ => rfl
    | 2, _ => rfl
    | 3, _ => rfl
    | 4, _ => rfl
    | 5, _ => rfl
    | 6, _ => rfl
    | 7, _ => rfl
    | 8, _ => rfl
    | 9, _ => rfl
    | 10, _ => rfl
    | j + 11, h => exact absurd h (by show ¬ j + 11 < 11; omega)
  refine CallK.of (pack11_spec e t he hz hn hsh hts (h.keep0 f1) (fun k hk => by have := hS k hk; have := f1.size; omega)) ?_
  rintro _ w2 ⟨u, rfl, hu, f2, uf⟩
  refine ⟨(u, (packF e (writeT t).1 (writeT t).2).2, ()), rfl, ?_⟩
  have f12 := f1.trans f2
  have hlen := packF_len e hz (writeT t).1 hts (writeT t).2
  have hsz := f1.size
  unfold entF
  dsimp only
  refine ifB.ne (fun hne => ?_) (fun he => ?_)
  · simp only [if_pos hne]
    exact ⟨(none, 0, 0), rfl, .inl ⟨rfl, rfl⟩, f12, fun k ⟨a, ha, _⟩ => by cases ha⟩
  simp only [if_neg (show ¬ (packF e (writeT t).1 (writeT t).2).2 ≠ 0 from fun t => t he)]
  refine LdK.fld (f2.keep0 hb) (x := r) rfl ?_
  have fin : ∀ (c : UInt8), RunK Tryz.prog (Instr.buildSlice 38 1 #[(0, bc c)]) w2 (.v (.one .slc)) (fun (x7 : Option Addr × Nat × Nat) w8 => RunK Tryz.prog (Builtin.append_ #[38, 38] 38 #[.slice x7.1 x7.2.1 x7.2.2, .slice u.1 u.2.1 u.2.2]) w8 (.v (.one .slc)) (fun (x9 : Option Addr × Nat × Nat) w10 =>
      ∃ z : Sl, (Value.tuple #[.slice x9.1 x9.2.1 x9.2.2, .int .i64 0]) = .tuple #[.slice z.1 z.2.1 z.2.2, .int .i64 0] ∧ IsB w10 z (c :: (packF e (writeT t).1 (writeT t).2).1) ∧ Fr none1 w w10 ∧ ∀ k, blkOf z k → w.heap.size ≤ k)) := by
    intro c
    obtain ⟨x, w3, hr3, hx, hxl, f3, xf⟩ := lit_ok (P := Tryz.prog) (w := w2) elem_byte [bc c] (by simp [bc, Value.cells]) (by simp)
    refine ⟨x, w3, hr3, ?_⟩
    have hx0 : IsB w3 x [c] := hx
    have s2 := f12.size
    have s3 := f3.size
    refine app_some hx0 (IsB.keep0 hu f3) (by simp only [List.length_singleton]; omega) fun y w4 hy f4 yf => ?_
    refine ⟨y, rfl, hy, (f12.trans f3).comp f4 (fun k hk t => by have := xf k t; omega), fun k hk => ?_⟩
    rcases yf k hk with t | t
    · have := xf k t; omega
    · omega
  refine ifB.by (fun h => ?_) (fun h => ?_)
  · rw [if_pos h]; exact fin 1
  · rw [if_neg (by rw [h]; decide)]; exact fin 0

end Go.Proofs.YtbadiokobooliaaGreatDoor

/-! ### KeepB -/
set_option linter.unusedVariables false
namespace Go.Proofs.YtbadiokobooliaaGreatDoor
open Vc

theorem copy_spec {w : World} {v : Sl} {bs : List UInt8} (h : RdB w v bs) (hl : bs.length ≤ 100000000) :
    Ret Tryz.prog 33 #[.slice v.1 v.2.1 v.2.2] w fun r w' => ∃ u : Sl, r = .slice u.1 u.2.1 u.2.2 ∧ IsB w' u bs ∧ Fr none1 w w' ∧ ∀ k, blkOf u k → w.heap.size ≤ k := by
  refine c33 v.1 v.2.1 v.2.2 w _ ?_
  obtain ⟨u, w2, hr2, hu, f2, hf2⟩ := append_bytes (xs := []) (none_b w) h (by simp; omega)
  refine ⟨u, w2, hr2, u, rfl, hu, f2.mono (fun k _ ⟨a, ha, _⟩ => by cases ha), fun k hk => ?_⟩
  rcases hf2 k hk with ⟨a, ha, _⟩ | t
  · cases ha
  · exact t

theorem cut_spec {w : World} {v : Sl} {bs : List UInt8} (h : RdB w v bs) (hc : v.2.1 ≤ v.2.2) {n : Int} (hn : 0 ≤ n) (hl : n ≤ 100000000) :
    Ret Tryz.prog 18 #[.slice v.1 v.2.1 v.2.2, .int .i64 n] w fun r w' => ∃ u : Sl, r = .slice u.1 u.2.1 u.2.2 ∧ IsB w' u (bs.take n.toNat) ∧ Fr none1 w w' ∧ ∀ k, blkOf u k → w.heap.size ≤ k := by
  refine c18 v.1 v.2.1 v.2.2 n w _ ?_
  have hvl := h.len
  obtain ⟨m, hm, hmt, hm0, hm1⟩ : ∃ m : Int, m = (if n < (v.2.1 : Int) then n else (v.2.1 : Int)) ∧ bs.take m.toNat = bs.take n.toNat ∧ 0 ≤ m ∧ m ≤ v.2.1 := by
    refine ⟨_, rfl, ?_, ?_, ?_⟩ <;> split
    · rfl
    · rw [List.take_of_length_le (by omega), List.take_of_length_le (by omega)]
    all_goals omega
  unfold C18
  rw [← hm]
  refine RdB.sub h hm0 hm1 hc fun hu => ?_
  rw [hmt] at hu
  refine CallK.of (copy_spec (v := (v.1, m.toNat, v.2.2)) hu (by simp only [List.length_take]; omega)) ?_
  rintro _ w3 ⟨u, rfl, hu, f3, hf3⟩
  exact ⟨u, rfl, u, rfl, hu, f3, hf3⟩

end Go.Proofs.YtbadiokobooliaaGreatDoor

/-! ### CPTell -/
namespace Go.Proofs.YtbadiokobooliaaGreatDoor
open Vc
set_option maxRecDepth 100000
set_option linter.unusedVariables false
/-- handfast/handfastlaw12.PackTells -/
def C3 (p0 : Int × Int × Int × Int × Int × ByteArray × (Option Addr × Nat × Nat) × (Option Addr × Nat × Nat) × Unit) (p1 : Int) (p2 : Int) (p3 : ByteArray) (p4 : Bool) (p5 : Int) (w : World) (K : Value → World → Prop) : Prop :=
  NewK (.cells #[.int .i64 p0.1, .int .i64 p0.2.1, .int .i64 p0.2.2.1, .int .i64 p0.2.2.2.1, .int .i64 p0.2.2.2.2.1, .string p0.2.2.2.2.2.1, .slice p0.2.2.2.2.2.2.1.1 p0.2.2.2.2.2.2.1.2.1 p0.2.2.2.2.2.2.1.2.2, .slice p0.2.2.2.2.2.2.2.1.1 p0.2.2.2.2.2.2.2.1.2.1 p0.2.2.2.2.2.2.2.1.2.2] 27) w (fun g1 w2 => LdsK [.int .i64, .int .i64, .int .i64, .int .i64, .int .i64, .str, .slc, .slc] (⟨g1, 0, none⟩ : Addr) w2 (fun (x3 : Int × Int × Int × Int × Int × ByteArray × (Option Addr × Nat × Nat) × (Option Addr × Nat × Nat) × Unit) => CallK Tryz.prog 11 #[.agg #[.int .i64 x3.1, .int .i64 x3.2.1, .int .i64 x3.2.2.1, .int .i64 x3.2.2.2.1, .int .i64 x3.2.2.2.2.1, .string x3.2.2.2.2.2.1, .slice x3.2.2.2.2.2.2.1.1 x3.2.2.2.2.2.2.1.2.1 x3.2.2.2.2.2.2.1.2.2, .slice x3.2.2.2.2.2.2.2.1.1 x3.2.2.2.2.2.2.2.1.2.1 x3.2.2.2.2.2.2.2.1.2.2], .int .i64 p1, .int .i64 p2, .string p3, .int .i64 0] w2 (.tup [.agg [.int .i64, .str, .str, .str, .str, .int .i64, .int .i64, .raw], .agg [.int .i64, .str, .str, .str, .str, .int .i64, .int .i64, .int .i64, .str, .int .i64, .slc], .one .bool]) (fun (x4 : (Int × ByteArray × ByteArray × ByteArray × ByteArray × Int × Int × Value × Unit) × (Int × ByteArray × ByteArray × ByteArray × ByteArray × Int × Int × Int × ByteArray × Int × (Option Addr × Nat × Nat) × Unit) × Bool × Unit) w5 => NewK (.cells #[.int .i64 0, .string (⟨#[]⟩ : ByteArray), .string (⟨#[]⟩ : ByteArray), .string (⟨#[]⟩ : ByteArray), .string (⟨#[]⟩ : ByteArray), .int .i64 0, .int .i64 0, .nilIface] 30) w5 (fun g6 w7 => NewK (.cells #[.int .i64 0, .string (⟨#[]⟩ : ByteArray), .string (⟨#[]⟩ : ByteArray), .string (⟨#[]⟩ : ByteArray), .string (⟨#[]⟩ : ByteArray), .int .i64 0, .int .i64 0, .int .i64 0, .string (⟨#[]⟩ : ByteArray), .int .i64 0, .slice none 0 0] 35) w7 (fun g8 w9 => StsK (⟨g6, 0, none⟩ : Addr) [.int .i64 x4.1.1, .string x4.1.2.1, .string x4.1.2.2.1, .string x4.1.2.2.2.1, .string x4.1.2.2.2.2.1, .int .i64 x4.1.2.2.2.2.2.1, .int .i64 x4.1.2.2.2.2.2.2.1, x4.1.2.2.2.2.2.2.2.1] w9 (fun w10 => StsK (⟨g8, 0, none⟩ : Addr) [.int .i64 x4.2.1.1, .string x4.2.1.2.1, .string x4.2.1.2.2.1, .string x4.2.1.2.2.2.1, .string x4.2.1.2.2.2.2.1, .int .i64 x4.2.1.2.2.2.2.2.1, .int .i64 x4.2.1.2.2.2.2.2.2.1, .int .i64 x4.2.1.2.2.2.2.2.2.2.1, .string x4.2.1.2.2.2.2.2.2.2.2.1, .int .i64 x4.2.1.2.2.2.2.2.2.2.2.2.1, .slice x4.2.1.2.2.2.2.2.2.2.2.2.2.1.1 x4.2.1.2.2.2.2.2.2.2.2.2.2.1.2.1 x4.2.1.2.2.2.2.2.2.2.2.2.2.1.2.2] w10 (fun w11 => LdsK [.int .i64, .str, .str, .str, .str, .int .i64, .int .i64, .raw] (⟨g6, 0, none⟩ : Addr) w11 (fun (x12 : Int × ByteArray × ByteArray × ByteArray × ByteArray × Int × Int × Value × Unit) => CallK Tryz.prog 12 #[.agg #[.int .i64 x12.1, .string x12.2.1, .string x12.2.2.1, .string x12.2.2.2.1, .string x12.2.2.2.2.1, .int .i64 x12.2.2.2.2.2.1, .int .i64 x12.2.2.2.2.2.2.1, x12.2.2.2.2.2.2.2.1]] w11 (.tup [.one .slc, .one (.int .i64)]) (fun (x13 : (Option Addr × Nat × Nat) × Int × Unit) w14 => LdsK [.int .i64, .str, .str, .str, .str, .int .i64, .int .i64, .int .i64, .str, .int .i64, .slc] (⟨g8, 0, none⟩ : Addr) w14 (fun (x15 : Int × ByteArray × ByteArray × ByteArray × ByteArray × Int × Int × Int × ByteArray × Int × (Option Addr × Nat × Nat) × Unit) => CallK Tryz.prog 13 #[.agg #[.int .i64 x15.1, .string x15.2.1, .string x15.2.2.1, .string x15.2.2.2.1, .string x15.2.2.2.2.1, .int .i64 x15.2.2.2.2.2.1, .int .i64 x15.2.2.2.2.2.2.1, .int .i64 x15.2.2.2.2.2.2.2.1, .string x15.2.2.2.2.2.2.2.2.1, .int .i64 x15.2.2.2.2.2.2.2.2.2.1, .slice x15.2.2.2.2.2.2.2.2.2.2.1.1 x15.2.2.2.2.2.2.2.2.2.2.1.2.1 x15.2.2.2.2.2.2.2.2.2.2.1.2.2]] w14 (.tup [.one .slc, .one (.int .i64)]) (fun (x16 : (Option Addr × Nat × Nat) × Int × Unit) w17 => LdsK [.int .i64, .str, .str, .str, .str, .int .i64, .int .i64, .raw] (⟨g6, 0, none⟩ : Addr) w17 (fun (x18 : Int × ByteArray × ByteArray × ByteArray × ByteArray × Int × Int × Value × Unit) => CallK Tryz.prog 14 #[.agg #[.int .i64 x18.1, .string x18.2.1, .string x18.2.2.1, .string x18.2.2.2.1, .string x18.2.2.2.2.1, .int .i64 x18.2.2.2.2.2.1, .int .i64 x18.2.2.2.2.2.2.1, x18.2.2.2.2.2.2.2.1, .bool p4]] w17 (.tup [.one .slc, .one (.int .i64)]) (fun (x19 : (Option Addr × Nat × Nat) × Int × Unit) w20 => LdsK [.int .i64, .str, .str, .str, .str, .int .i64, .int .i64, .int .i64, .str, .int .i64, .slc] (⟨g8, 0, none⟩ : Addr) w20 (fun (x21 : Int × ByteArray × ByteArray × ByteArray × ByteArray × Int × Int × Int × ByteArray × Int × (Option Addr × Nat × Nat) × Unit) => CallK Tryz.prog 15 #[.agg #[.int .i64 x21.1, .string x21.2.1, .string x21.2.2.1, .string x21.2.2.2.1, .string x21.2.2.2.2.1, .int .i64 x21.2.2.2.2.2.1, .int .i64 x21.2.2.2.2.2.2.1, .int .i64 x21.2.2.2.2.2.2.2.1, .string x21.2.2.2.2.2.2.2.2.1, .int .i64 x21.2.2.2.2.2.2.2.2.2.1, .slice x21.2.2.2.2.2.2.2.2.2.2.1.1 x21.2.2.2.2.2.2.2.2.2.2.1.2.1 x21.2.2.2.2.2.2.2.2.2.2.1.2.2, .bool p4]] w20 (.tup [.one .slc, .one (.int .i64)]) (fun (x22 : (Option Addr × Nat × Nat) × Int × Unit) w23 => CallK Tryz.prog 17 #[.int .i64 p5] w23 (.v (.one .slc)) (fun (x24 : Option Addr × Nat × Nat) w25 => CallK Tryz.prog 16 #[.slice x24.1 x24.2.1 x24.2.2] w25 (.tup [.one (.int .i64), .one .bool]) (fun (x26 : Int × Bool × Unit) w27 => CallK Tryz.prog 17 #[.int .i64 p5] w27 (.v (.one .slc)) (fun (x28 : Option Addr × Nat × Nat) w29 => CallK Tryz.prog 18 #[.slice x28.1 x28.2.1 x28.2.2, .int .i64 7] w29 (.v (.one .slc)) (fun (x30 : Option Addr × Nat × Nat) w31 => CallK Tryz.prog 16 #[.slice x30.1 x30.2.1 x30.2.2] w31 (.tup [.one (.int .i64), .one .bool]) (fun (x32 : Int × Bool × Unit) w33 => ifB (x13.2.1 == x16.2.1)
  (CallK Tryz.prog 19 #[.slice x13.1.1 x13.1.2.1 x13.1.2.2, .slice x16.1.1 x16.1.2.1 x16.1.2.2] w33 (.v (.one .bool)) (fun (x34 : Bool) w35 => ifB x34
  (ifB (x19.2.1 == x22.2.1)
  (CallK Tryz.prog 19 #[.slice x19.1.1 x19.1.2.1 x19.1.2.2, .slice x22.1.1 x22.1.2.1 x22.1.2.2] w35 (.v (.one .bool)) (fun (x36 : Bool) w37 => ifB x36
  (CallK Tryz.prog 17 #[.int .i64 p5] w37 (.v (.one .slc)) (fun (x38 : Option Addr × Nat × Nat) w39 => CallK Tryz.prog 20 #[.int .i64 p5] w39 (.v (.one .slc)) (fun (x40 : Option Addr × Nat × Nat) w41 => CallK Tryz.prog 19 #[.slice x38.1 x38.2.1 x38.2.2, .slice x40.1 x40.2.1 x40.2.2] w41 (.v (.one .bool)) (fun (x42 : Bool) w43 => ifB x42
  (ifB x26.2.1
  (ifB (x26.1 == p5)
  (ifB (!x32.2.1)
  (CallK Tryz.prog 21 #[] w43 (.v (.one .bool)) (fun (x44 : Bool) w45 => K (.bool x44) w45))
  (K (.bool false) w43))
  (K (.bool false) w43))
  (K (.bool false) w43))
  (K (.bool false) w43)))))
  (K (.bool false) w37)))
  (K (.bool false) w35))
  (K (.bool false) w35)))
  (K (.bool false) w33)))))))))))))))))))))
def pl3 : Plan := .auto
theorem e3 (p0 : Int × Int × Int × Int × Int × ByteArray × (Option Addr × Nat × Nat) × (Option Addr × Nat × Nat) × Unit) (p1 : Int) (p2 : Int) (p3 : ByteArray) (p4 : Bool) (p5 : Int) (w : World) (K : Value → World → Prop) : vcFunc Tryz.prog Tryz.f3 pl3 [.agg #[.int .i64 p0.1, .int .i64 p0.2.1, .int .i64 p0.2.2.1, .int .i64 p0.2.2.2.1, .int .i64 p0.2.2.2.2.1, .string p0.2.2.2.2.2.1, .slice p0.2.2.2.2.2.2.1.1 p0.2.2.2.2.2.2.1.2.1 p0.2.2.2.2.2.2.1.2.2, .slice p0.2.2.2.2.2.2.2.1.1 p0.2.2.2.2.2.2.2.1.2.1 p0.2.2.2.2.2.2.2.1.2.2], .int .i64 p1, .int .i64 p2, .string p3, .bool p4, .int .i64 p5] w K = C3 p0 p1 p2 p3 p4 p5 w K := by kernel_rfl
theorem c3 (p0 : Int × Int × Int × Int × Int × ByteArray × (Option Addr × Nat × Nat) × (Option Addr × Nat × Nat) × Unit) (p1 : Int) (p2 : Int) (p3 : ByteArray) (p4 : Bool) (p5 : Int) (w : World) (K : Value → World → Prop) (h : C3 p0 p1 p2 p3 p4 p5 w K) : Ret Tryz.prog 3 #[.agg #[.int .i64 p0.1, .int .i64 p0.2.1, .int .i64 p0.2.2.1, .int .i64 p0.2.2.2.1, .int .i64 p0.2.2.2.2.1, .string p0.2.2.2.2.2.1, .slice p0.2.2.2.2.2.2.1.1 p0.2.2.2.2.2.2.1.2.1 p0.2.2.2.2.2.2.1.2.2, .slice p0.2.2.2.2.2.2.2.1.1 p0.2.2.2.2.2.2.2.1.2.1 p0.2.2.2.2.2.2.2.1.2.2], .int .i64 p1, .int .i64 p2, .string p3, .bool p4, .int .i64 p5] w K := by
  rw [← e3] at h
  exact vcFunc_sound (by kernel_rfl) Tryz.func3 h

end Go.Proofs.YtbadiokobooliaaGreatDoor

/-! ### PTell -/
set_option linter.unusedVariables false
set_option maxRecDepth 100000
namespace Go.Proofs.YtbadiokobooliaaGreatDoor
open Vc

theorem write_short12 (t : Tm) : (writeT t).1.length ≤ 1000 := by
  unfold writeT
  split
  · simp
  split
  · simp
  · dsimp only; omega

theorem tells12_walk (p0 : CmV) (p1 p2 : Int) (p3 : ByteArray) (p4 : Bool) (p5 : Int) (w : World) (h0 : IsCm w p0) (h1 : (Go.Lit.int .i64 p1).wf = true) (h2 : (Go.Lit.int .i64 p2).wf = true) (h3 : p3.size ≤ maxLen) (h5 : (Go.Lit.int .i64 p5).wf = true) (ht : TabW w) :
    Ret Tryz.prog 3 #[.agg (cmL p0).toArray, .int .i64 p1, .int .i64 p2, .string p3, .bool p4, .int .i64 p5] w fun r w' => r = .bool true ∧ Fr none1 w w' := by
  refine c3 p0 p1 p2 p3 p4 p5 w _ ?_
  unfold C3
  refine NewK.of fun g1 w1 hg1 hb1 f1 _ => ?_
  refine LdsK.blk (cks := [.int .i64, .int .i64, .int .i64, .int .i64, .int .i64, .str, .slc, .slc]) (x := p0) hb1 ?_
  refine CallK.of (some_spec p0 p1 p2 p3 (h0.1.keep0 f1)) ?_
  rintro _ w2 ⟨e, t, v, rfl, he, hz, hn, hsh, hm, f2⟩
  refine ⟨(e, evR e v, false, ()), rfl, ?_⟩
  have f12 := f1.trans f2
  have hone : one1 e.2.2.2.2.2.2.2.1 = true := by rw [he]; exact Tm.v_one t
  refine NewK.of fun g6 w3 hg6 hb6 f3 hs3 => NewK.of fun g8 w4 hg8 hb8 f4 hs4 => ?_
  refine StsK.blk (cs := [.int .i64 0, .string (⟨#[]⟩ : ByteArray), .string (⟨#[]⟩ : ByteArray), .string (⟨#[]⟩ : ByteArray), .string (⟨#[]⟩ : ByteArray), .int .i64 0, .int .i64 0, .nilIface]) (vs := evL e) (f4.keep0 hb6) rfl (evL_one hone) fun w5 hb65 f5 hs5 => ?_
  refine StsK.blk (cs := evRL (0, (⟨#[]⟩ : ByteArray), (⟨#[]⟩ : ByteArray), (⟨#[]⟩ : ByteArray), (⟨#[]⟩ : ByteArray), 0, 0, 0, (⟨#[]⟩ : ByteArray), 0, (none, 0, 0), ())) (vs := evRL (evR e v)) (f5.keep hb8 (fun q => by have : g8 = g6 := q; omega)) rfl rfl fun w6 hb86 f6 hs6 => ?_
  have hb66 := f6.keep hb65 (fun q => by have : g6 = g8 := q; omega)
  have f26 : Fr none1 w2 w6 := ((f3.trans f4).fresh f5 (by omega)).fresh f6 (by omega)
  have f16 := f12.trans f26
  have hm6 : IsTr w6 (since w1 w2) (trT t) v := IsTr.keep0 hm f26
  have hml : ∀ k, since w1 w2 k → k < w6.heap.size := fun k hk => by have := hk.2; have := f26.size; omega
  have hts := write_short12 t
  have ifc : ifcT e.2.2.2.2.2.2.2.1 := by rw [he]; cases t <;> first | (exact .inl rfl) | (exact .inr ⟨_, _, rfl⟩)
  have htr : ∀ wa, Fr none1 w wa → e.1 = 2 → ∀ w1, Fr none1 wa w1 → Ret Tryz.prog 71 #[e.2.2.2.2.2.2.2.1] w1 fun r w' => r = .tuple #[.string (str (writeT t).1), .int .i64 (writeT t).2] ∧ Fr none1 w1 w' := fun wa fa h w1 f => by
    rw [he]
    exact wterm_spec t (by omega) w1 (ht.keep0 (fa.trans f))
  refine LdsK.blk (cks := EK) (x := e) hb66 ?_
  refine CallK.of (event_spec e ifc hz (writeT t).1 (by omega) (writeT t).2 w6 (htr w6 f16)) ?_
  rintro _ w7 ⟨a, rfl, ha, f7, _⟩
  refine ⟨(a, (packF e (writeT t).1 (writeT t).2).2, ()), rfl, ?_⟩
  refine LdsK.blk (cks := ERK) (x := evR e v) (f7.keep0 hb86) ?_
  refine CallK.of (pack11_spec e t he hz (by omega) hsh (by omega) (hm6.keep0 f7) (fun k hk => Nat.lt_of_lt_of_le (hml k hk) f7.size)) ?_
  rintro _ w8 ⟨b, rfl, hb, f8, _⟩
  refine ⟨(b, (packF e (writeT t).1 (writeT t).2).2, ()), rfl, ?_⟩
  have f68 := f7.trans f8
  refine LdsK.blk (cks := EK) (x := e) (f68.keep0 hb66) ?_
  refine CallK.of (entry_spec e p4 ifc hz (writeT t).1 (by omega) (writeT t).2 w8 (htr w8 (f16.trans f68))) ?_
  rintro _ w9 ⟨c, rfl, hc, f9, _⟩
  refine ⟨(c, (entF e (writeT t).1 (writeT t).2 p4).2, ()), rfl, ?_⟩
  have f69 := f68.trans f9
  refine LdsK.blk (cks := ERK) (x := evR e v) (f69.keep0 hb86) ?_
  refine CallK.of (entry11_spec e p4 t he hz (by omega) hsh (by omega) (hm6.keep0 f69) (fun k hk => Nat.lt_of_lt_of_le (hml k hk) f69.size)) ?_
  rintro _ w10 ⟨d, rfl, hd, f10, _⟩
  refine ⟨(d, (entF e (writeT t).1 (writeT t).2 p4).2, ()), rfl, ?_⟩
  have f610 := f69.trans f10
  have fa := f16.trans f610
  have hpl := packF_len e hz (writeT t).1 (by omega) (writeT t).2
  have hnl := numL_len p5
  have rng := h5
  refine CallK.of (pnum_spec p5 w10) ?_
  rintro _ w11 ⟨m1, rfl, hm1, f11, _⟩
  refine ⟨m1, rfl, ?_⟩
  refine CallK.of (ptake_spec hm1.rd) ?_
  rintro _ _ ⟨rfl, rfl⟩
  refine ⟨((takeL (numL p5)).1, (takeL (numL p5)).2, ()), rfl, ?_⟩
  refine CallK.of (pnum_spec p5 w11) ?_
  rintro _ w12 ⟨m2, rfl, hm2, f12', _⟩
  refine ⟨m2, rfl, ?_⟩
  refine CallK.of (cut_spec hm2.rd (IsB.cap hm2) (n := 7) (by decide) (by decide)) ?_
  rintro _ w13 ⟨m3, rfl, hm3, f13, _⟩
  refine ⟨m3, rfl, ?_⟩
  refine CallK.of (ptake_spec hm3.rd) ?_
  rintro _ _ ⟨rfl, rfl⟩
  refine ⟨((takeL ((numL p5).take (7 : Int).toNat)).1, (takeL ((numL p5).take (7 : Int).toNat)).2, ()), rfl, ?_⟩
  have g13 : Fr none1 w10 w13 := (f11.trans f12').trans f13
  dsimp only
  refine ifB.t (beq_self_eq_true _) ?_
  refine CallK.of (same_spec (IsB.keep0 ha ((f8.trans f9).trans (f10.trans g13))).rd (IsB.keep0 hb ((f9.trans f10).trans g13)).rd (by omega)) ?_
  rintro _ w14 ⟨rfl, f14⟩
  refine ⟨_, rfl, ifB.t (decide_eq_true rfl) (ifB.t (beq_self_eq_true _) ?_)⟩
  have hel : (entF e (writeT t).1 (writeT t).2 p4).1.length ≤ 10000001 := by unfold entF; split <;> simp <;> omega
  refine CallK.of (same_spec (IsB.keep0 hc ((f10.trans g13).trans f14)).rd (IsB.keep0 hd (g13.trans f14)).rd (by omega)) ?_
  rintro _ w15 ⟨rfl, f15⟩
  refine ⟨_, rfl, ifB.t (decide_eq_true rfl) ?_⟩
  refine CallK.of (pnum_spec p5 w15) ?_
  rintro _ w16 ⟨m4, rfl, hm4, f16', _⟩
  refine ⟨m4, rfl, ?_⟩
  refine CallK.of (number11_spec p5 w16) ?_
  rintro _ w17 ⟨m5, rfl, hm5, f17, _⟩
  refine ⟨m5, rfl, ?_⟩
  refine CallK.of (same_spec (IsB.keep0 hm4 f17).rd hm5.rd (by omega)) ?_
  rintro _ w18 ⟨rfl, f18⟩
  refine ⟨_, rfl, ifB.t (decide_eq_true rfl) ?_⟩
  have hrg : -9223372036854775808 ≤ p5 ∧ p5 ≤ 9223372036854775807 := by
    simp [Go.Lit.wf, IntKind.min, IntKind.max, IntKind.signed, IntKind.bits] at h5
    omega
  rw [take_num p5 hrg.1 hrg.2]
  refine ifB.t rfl (ifB.t (beq_self_eq_true _) ?_)
  have hno : (takeL ((numL p5).take (7 : Int).toNat)).2 = false := by
    unfold takeL
    rw [if_neg (by rw [List.length_take, hnl]; decide)]
  rw [hno]
  refine ifB.t rfl ?_
  refine CallK.of (wakes12_spec w18) ?_
  rintro _ w19 ⟨rfl, f19⟩
  exact ⟨_, rfl, rfl, fa.trans (g13.trans (f14.trans (f15.trans (f16'.trans (f17.trans (f18.trans f19))))))⟩

end Go.Proofs.YtbadiokobooliaaGreatDoor
