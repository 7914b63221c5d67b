/-
  The signs of what was written; blanks between signs; how many bytes signs have; a contract's text read.
  Conditions: none beyond those stated.
-/
import Derived.Test.YtlhbfdakceipkaaGreatDoorReadF
set_option linter.unusedVariables false
set_option maxRecDepth 100000
namespace Go.Proofs.YtlhbfdakceipkaaGreatDoor
open Vc

/-! ### Bytes and runes -/
theorem u8_self (b : UInt8) : UInt8.ofNat b.toNat = b := UInt8.ofNat_toNat
theorem dec_take (l : List UInt8) (hne : l ≠ []) (h : (decL l).1 ≠ 65533) : enc ((decL l).1 : Int) = l.take (decL l).2 := by
  have hok := okR_dec l
  rw [enc_eq _ hok]
  cases l with
  | nil => exact absurd rfl hne
  | cons b0 t =>
    have hb0 := b0.toNat_lt
    simp only [decL, Utf8.decode, get_list, str_list, str_size, Nat.zero_add, List.getD_cons_zero, List.length_cons] at h hok ⊢
    by_cases c1 : b0.toNat < 128
    · simp only [if_pos c1] at h hok ⊢
      rw [u8_self]; rfl
    simp only [if_neg c1] at h hok ⊢
    cases t with
    | nil => simp [Utf8.runeError] at h
    | cons b1 t =>
      have hb1 := b1.toNat_lt
      simp only [List.getD_cons_succ, List.getD_cons_zero, List.length_cons] at h hok ⊢
      by_cases c2 : (b0.toNat / 32 == 6 && (decide (1 < t.length + 1 + 1) && b1.toNat / 64 == 2)) = true
      · simp only [if_pos c2] at h hok ⊢
        simp only [Bool.and_eq_true, beq_iff_eq, decide_eq_true_eq] at c2
        by_cases c3 : b0.toNat % 32 * 64 + b1.toNat % 64 ≥ 128
        · simp only [if_pos c3] at h hok ⊢
          rw [if_neg (by omega), if_pos (by omega)]
          rw [show 192 + (b0.toNat % 32 * 64 + b1.toNat % 64) / 64 = b0.toNat by omega, show 128 + (b0.toNat % 32 * 64 + b1.toNat % 64) % 64 = b1.toNat by omega, u8_self, u8_self]; rfl
        · simp only [if_neg c3] at h; exact absurd rfl h
      simp only [if_neg c2] at h hok ⊢
      cases t with
      | nil => simp [Utf8.runeError] at h
      | cons b2 t =>
        have hb2 := b2.toNat_lt
        simp only [List.getD_cons_succ, List.getD_cons_zero, List.length_cons] at h hok ⊢
        by_cases c4 : (b0.toNat / 16 == 14 && (decide (1 < t.length + 1 + 1 + 1) && b1.toNat / 64 == 2) && (decide (2 < t.length + 1 + 1 + 1) && b2.toNat / 64 == 2)) = true
        · simp only [if_pos c4] at h hok ⊢
          simp only [Bool.and_eq_true, beq_iff_eq, decide_eq_true_eq] at c4
          by_cases c5 : (decide (b0.toNat % 16 * 4096 + b1.toNat % 64 * 64 + b2.toNat % 64 ≥ 2048) && Utf8.valid ((b0.toNat % 16 * 4096 + b1.toNat % 64 * 64 + b2.toNat % 64 : Nat) : Int)) = true
          · simp only [if_pos c5] at h hok ⊢
            simp only [Bool.and_eq_true, decide_eq_true_eq] at c5
            rw [if_neg (by omega), if_neg (by omega), if_pos (by omega)]
            rw [show 224 + (b0.toNat % 16 * 4096 + b1.toNat % 64 * 64 + b2.toNat % 64) / 4096 = b0.toNat by omega, show 128 + (b0.toNat % 16 * 4096 + b1.toNat % 64 * 64 + b2.toNat % 64) / 64 % 64 = b1.toNat by omega,
              show 128 + (b0.toNat % 16 * 4096 + b1.toNat % 64 * 64 + b2.toNat % 64) % 64 = b2.toNat by omega, u8_self, u8_self, u8_self]; rfl
          · simp only [if_neg c5] at h; exact absurd rfl h
        simp only [if_neg c4] at h hok ⊢
        cases t with
        | nil => simp [Utf8.runeError] at h
        | cons b3 t =>
          have hb3 := b3.toNat_lt
          simp only [List.getD_cons_succ, List.getD_cons_zero, List.length_cons] at h hok ⊢
          by_cases c6 : (b0.toNat / 8 == 30 && (decide (1 < t.length + 1 + 1 + 1 + 1) && b1.toNat / 64 == 2) && (decide (2 < t.length + 1 + 1 + 1 + 1) && b2.toNat / 64 == 2) && (decide (3 < t.length + 1 + 1 + 1 + 1) && b3.toNat / 64 == 2)) = true
          · simp only [if_pos c6] at h hok ⊢
            simp only [Bool.and_eq_true, beq_iff_eq, decide_eq_true_eq] at c6
            by_cases c7 : (decide (b0.toNat % 8 * 262144 + b1.toNat % 64 * 4096 + b2.toNat % 64 * 64 + b3.toNat % 64 ≥ 65536) && Utf8.valid ((b0.toNat % 8 * 262144 + b1.toNat % 64 * 4096 + b2.toNat % 64 * 64 + b3.toNat % 64 : Nat) : Int)) = true
            · simp only [if_pos c7] at h hok ⊢
              simp only [Bool.and_eq_true, decide_eq_true_eq] at c7
              rw [if_neg (by omega), if_neg (by omega), if_neg (by omega)]
              rw [show 240 + (b0.toNat % 8 * 262144 + b1.toNat % 64 * 4096 + b2.toNat % 64 * 64 + b3.toNat % 64) / 262144 = b0.toNat by omega, show 128 + (b0.toNat % 8 * 262144 + b1.toNat % 64 * 4096 + b2.toNat % 64 * 64 + b3.toNat % 64) / 4096 % 64 = b1.toNat by omega,
                show 128 + (b0.toNat % 8 * 262144 + b1.toNat % 64 * 4096 + b2.toNat % 64 * 64 + b3.toNat % 64) / 64 % 64 = b2.toNat by omega, show 128 + (b0.toNat % 8 * 262144 + b1.toNat % 64 * 4096 + b2.toNat % 64 * 64 + b3.toNat % 64) % 64 = b3.toNat by omega, u8_self, u8_self, u8_self, u8_self]; rfl
            · simp only [if_neg c7] at h; exact absurd rfl h
          · simp only [if_neg c6] at h; exact absurd rfl h

theorem txt_runes : ∀ (n : Nat) (l : List UInt8), l.length ≤ n → (∀ r ∈ runesL l, r ≠ 65533) → txt (runesL l) = l
  | 0, l, h, _ => by
    have : l = [] := List.eq_nil_of_length_eq_zero (by omega)
    subst this; rfl
  | n + 1, l, h, hr => by
    by_cases hl : l = []
    · subst hl; rfl
    · rw [runesL_step l hl] at hr ⊢
      have h1 := decL_width l
      have hd : (l.drop (decL l).2).length = l.length - (decL l).2 := List.length_drop
      rw [txt_cons, dec_take l hl (fun t => hr _ (List.mem_cons_self ..) (by omega)), txt_runes n _ (by omega) (fun r hm => hr r (List.mem_cons_of_mem _ hm)), List.take_append_drop]
theorem txt_runesL (l : List UInt8) (h : ∀ r ∈ runesL l, r ≠ 65533) : txt (runesL l) = l := txt_runes l.length l (Nat.le_refl _) h

theorem isLet_kd {r : Int} (h : isLet r = true) : kd r = 97 := by unfold kd; rw [if_pos h]
theorem isLet_no {r : Int} (h : isLet r = true) : r ≠ 65533 ∧ r ≠ 32 := by
  refine ⟨?_, ?_⟩ <;> (rintro rfl; exact absurd h (by decide))
theorem kd_no {r : Int} (h : kd r ≠ 0) : r ≠ 65533 := by rintro rfl; exact h (by decide)

theorem enc_ascii {b : UInt8} (h : b.toNat < 128) : enc (b.toNat : Int) = [b] := by
  rw [enc_eq _ (by unfold okR; omega), if_pos h, u8_self]
theorem txt_ascii : ∀ (l : List UInt8), (∀ b ∈ l, b.toNat < 128) → txt (l.map fun b => (b.toNat : Int)) = l
  | [], _ => rfl
  | b :: l, h => by rw [List.map_cons, txt_cons, enc_ascii (h b (by simp)), txt_ascii l (fun c hc => h c (by simp [hc]))]; rfl
theorem enc_32 {r : Int} (h : okR r) (h32 : r ≠ 32) : (32 : UInt8) ∉ enc r := by
  obtain ⟨n, rfl⟩ : ∃ n : Nat, r = n := ⟨r.toNat, by unfold okR at h; omega⟩
  rw [enc_eq n h]
  have big : ∀ m : Nat, 128 ≤ m → m < 256 → (32 : UInt8) ≠ UInt8.ofNat m := fun m h1 h2 t => by
    have := congrArg UInt8.toNat t
    rw [u8_of h2] at this
    have e : (32 : UInt8).toNat = 32 := rfl
    omega
  unfold okR at h
  split
  · intro t
    have t := List.mem_singleton.1 t
    have := congrArg UInt8.toNat t
    rw [u8_of (by omega)] at this
    have e : (32 : UInt8).toNat = 32 := rfl
    omega
  split
  · simp only [List.mem_cons, List.not_mem_nil, or_false, not_or]
    exact ⟨big _ (by omega) (by omega), big _ (by omega) (by omega)⟩
  split
  · simp only [List.mem_cons, List.not_mem_nil, or_false, not_or]
    exact ⟨big _ (by omega) (by omega), big _ (by omega) (by omega), big _ (by omega) (by omega)⟩
  · simp only [List.mem_cons, List.not_mem_nil, or_false, not_or]
    exact ⟨big _ (by omega) (by omega), big _ (by omega) (by omega), big _ (by omega) (by omega), big _ (by omega) (by omega)⟩

/-! ### Words and signs, one behind the other -/
theorem lx_more (W : List SignV) (a : Int) (X : List Int) : ∀ (ls : List Int) (t : List UInt8) (at_ : Int), (∀ r ∈ ls, kd r = 97) → sgF (W ++ [(t, a)]) at_ true (ls ++ X) = sgF (W ++ [(t ++ txt ls, a)]) (at_ + ls.length) true X
  | [], t, at_, _ => by simp [txt_nil]
  | r :: ls, t, at_, h => by
    have h1 := h r (by simp)
    rw [List.cons_append]
    conv => lhs; unfold sgF
    rw [h1, if_neg (by decide), if_pos ⟨rfl, rfl⟩, addLast_of, lx_more W a X ls _ _ (fun x hx => h x (by simp [hx])), txt_cons, List.append_assoc]
    congr 1
    simp only [List.length_cons]; omega
theorem lx_word (W : List SignV) (X : List Int) (wd : List Int) (at_ : Int) (hne : wd ≠ []) (h : ∀ r ∈ wd, kd r = 97) : sgF W at_ false (wd ++ X) = sgF (W ++ [(txt wd, at_ + 1)]) (at_ + wd.length) true X := by
  cases wd with
  | nil => exact absurd rfl hne
  | cons r ls =>
    have h1 := h r (by simp)
    rw [List.cons_append]
    conv => lhs; unfold sgF
    rw [h1, if_neg (by decide), if_neg (by simp), if_pos (by decide), show ((97 : Int) == 97) = true from rfl, lx_more W _ X ls _ _ (fun x hx => h x (by simp [hx])), txt_cons]
    congr 1
    simp only [List.length_cons]; omega
theorem lx_sign (W : List SignV) (X : List Int) (c : Int) (at_ : Int) (run : Bool) (h : kd c = 40) : sgF W at_ run (c :: X) = sgF (W ++ [(enc c, at_ + 1)]) (at_ + 1) false X := by
  conv => lhs; unfold sgF
  rw [h, if_neg (by decide), if_neg (by simp), if_pos (by decide)]
  rfl
theorem lx_blank (W : List SignV) (X : List Int) (at_ : Int) (run : Bool) : sgF W at_ run (32 :: X) = sgF W (at_ + 1) false X := by
  conv => lhs; unfold sgF
  have e : kd 32 = 32 := rfl
  rw [e, if_neg (by decide), if_neg (by simp), if_neg (by decide)]

/-- Bytes whose signs are these; the last one is a bracket, a comma. -/
def LxB (b : Bool) (bs : List UInt8) (ts : List (List UInt8)) : Prop :=
  ∃ R : List Int, (∀ r ∈ R, okR r ∧ r ≠ 32) ∧ txt R = bs ∧ ∀ (W : List SignV) (at_ : Int), ∃ (ys : List SignV) (run : Bool), ys.map Prod.fst = ts ∧ (b = true → run = false) ∧ ∀ X, sgF W at_ false (R ++ X) = sgF (W ++ ys) (at_ + R.length) run X

theorem LxB.app {b : Bool} {x y : List UInt8} {s t : List (List UInt8)} (h : LxB true x s) (k : LxB b y t) : LxB b (x ++ y) (s ++ t) := by
  obtain ⟨R, h1, h2, h3⟩ := h
  obtain ⟨Q, k1, k2, k3⟩ := k
  refine ⟨R ++ Q, fun r hr => (List.mem_append.1 hr).elim (h1 r) (k1 r), by rw [txt_append, h2, k2], fun W at_ => ?_⟩
  obtain ⟨ys, run, a1, a2, a3⟩ := h3 W at_
  obtain ⟨zs, run2, b1, b2, b3⟩ := k3 (W ++ ys) (at_ + R.length)
  have := a2 rfl
  subst this
  refine ⟨ys ++ zs, run2, by rw [List.map_append, a1, b1], b2, fun X => ?_⟩
  rw [List.append_assoc, a3, b3, List.append_assoc, List.length_append]
  congr 1
  omega
theorem LxB.sign {b : Bool} {x : List UInt8} {s : List (List UInt8)} (h : LxB b x s) {c : UInt8} (hc : c = 40 ∨ c = 41 ∨ c = 44) : LxB true (x ++ [c]) (s ++ [[c]]) := by
  have hk : c.toNat < 128 ∧ kd (c.toNat : Int) = 40 ∧ c.toNat ≠ 32 := by rcases hc with rfl | rfl | rfl <;> decide
  obtain ⟨R, h1, h2, h3⟩ := h
  refine ⟨R ++ [(c.toNat : Int)], fun r hr => ?_, by rw [txt_append, h2, txt_one, enc_ascii hk.1], fun W at_ => ?_⟩
  · rcases List.mem_append.1 hr with hr | hr
    · exact h1 r hr
    · have := List.mem_singleton.1 hr
      subst this
      exact ⟨by unfold okR; omega, by omega⟩
  · obtain ⟨ys, run, a1, a2, a3⟩ := h3 W at_
    refine ⟨ys ++ [([c], at_ + R.length + 1)], false, by rw [List.map_append, a1]; rfl, fun _ => rfl, fun X => ?_⟩
    rw [List.append_assoc, a3, List.singleton_append, lx_sign _ _ _ _ _ hk.2.1, enc_ascii hk.1, List.append_assoc, List.length_append]
    congr 1
    simp only [List.length_singleton]; omega
theorem lxb_runes (wd : List Int) (hne : wd ≠ []) (h : ∀ r ∈ wd, kd r = 97 ∧ okR r) : LxB false (txt wd) [txt wd] :=
  ⟨wd, fun r hr => ⟨(h r hr).2, by rintro rfl; exact absurd (h 32 hr).1 (by decide)⟩, rfl, fun W at_ => ⟨[(txt wd, at_ + 1)], true, rfl, (fun t => nomatch t), fun X => lx_word W X wd at_ hne fun r hr => (h r hr).1⟩⟩
theorem lxb_ascii (wd : List UInt8) (hne : wd ≠ []) (h : ∀ b ∈ wd, b.toNat < 128 ∧ kd (b.toNat : Int) = 97) : LxB false wd [wd] := by
  have := lxb_runes (wd.map fun b => (b.toNat : Int)) (by simp [hne]) fun r hr => by
    obtain ⟨b, hb, rfl⟩ := List.mem_map.1 hr
    exact ⟨(h b hb).2, by unfold okR; have := (h b hb).1; omega⟩
  rwa [txt_ascii wd fun b hb => (h b hb).1] at this
theorem nameF_let : ∀ (rs : List Int) (n : Nat), nameF n rs = true → ∀ r ∈ rs, isLet r = true
  | [], _, _, r, hr => by cases hr
  | a :: rs, n, h, r, hr => by
    unfold nameF at h
    split at h
    · cases h
    rename_i ha
    split at h
    · cases h
    split at h
    · cases h
    rcases List.mem_cons.1 hr with rfl | hr
    · simpa using ha
    · exact nameF_let rs (n + 1) h r hr
theorem lxb_name {s : List UInt8} (h : nameL s = true) : LxB false s [s] := by
  have hl := nameF_let _ _ h
  have hne : runesL s ≠ [] := fun t => by
    have : nameF 0 (runesL s) = true := h
    rw [t] at this; exact absurd this (by decide)
  have := lxb_runes (runesL s) hne fun r hr => ⟨isLet_kd (hl r hr), okR_runes s r hr⟩
  rwa [txt_runesL s fun r hr => (isLet_no (hl r hr)).1] at this
theorem isD_kd {c : UInt8} (h : isD c = true) : c.toNat < 128 ∧ kd (c.toNat : Int) = 97 := by
  have := isD_rg h
  refine ⟨by omega, isLet_kd ?_⟩
  unfold isLet isDig
  rw [decide_eq_true (show (48 : Int) ≤ (c.toNat : Int) by omega), decide_eq_true (show (c.toNat : Int) ≤ 57 by omega)]
  simp
theorem lxb_num (n : Int) : LxB false (Lib.itoa n) [Lib.itoa n] := by
  refine lxb_ascii _ ?_ ?_
  · unfold Lib.itoa
    split
    · simp
    · exact (dec_ok _).1
  · unfold Lib.itoa
    split
    · intro b hb
      rcases List.mem_cons.1 hb with rfl | hb
      · decide
      · exact isD_kd ((dec_ok _).2.1 b hb)
    · exact fun b hb => isD_kd ((dec_ok _).2.1 b hb)

theorem lx_call1 {b : Bool} {wd x : List UInt8} {s : List (List UInt8)} (hw : LxB false wd [wd]) (h : LxB b x s) : LxB true (callL wd [x]) (wd :: [40] :: (s ++ [[41]])) := by
  have := ((hw.sign (c := 40) (.inl rfl)).app h).sign (c := 41) (.inr (.inl rfl))
  unfold callL
  rw [join1]
  simpa using this
theorem lx_call2 {b d : Bool} {wd x y : List UInt8} {s t : List (List UInt8)} (hw : LxB false wd [wd]) (h : LxB b x s) (k : LxB d y t) : LxB true (callL wd [x, y]) (wd :: [40] :: (s ++ ([44] :: (t ++ [[41]])))) := by
  have := ((((hw.sign (c := 40) (.inl rfl)).app h).sign (c := 44) (.inr (.inr rfl))).app k).sign (c := 41) (.inr (.inl rfl))
  unfold callL
  rw [join2]
  simpa using this
theorem lx_call3 {b d f : Bool} {wd x y z : List UInt8} {s t u : List (List UInt8)} (hw : LxB false wd [wd]) (h : LxB b x s) (k : LxB d y t) (m : LxB f z u) :
    LxB true (callL wd [x, y, z]) (wd :: [40] :: (s ++ ([44] :: (t ++ ([44] :: (u ++ [[41]])))))) := by
  have := ((((((hw.sign (c := 40) (.inl rfl)).app h).sign (c := 44) (.inr (.inr rfl))).app k).sign (c := 44) (.inr (.inr rfl))).app m).sign (c := 41) (.inr (.inl rfl))
  unfold callL
  rw [join3]
  simpa using this

theorem lx_num : ∀ o : Ob, formO o = true → ∃ b, LxB b (numO o) (toksO o)
  | .none, h => by cases h
  | .const n, _ => ⟨_, lxb_num n⟩
  | .fix s, h => ⟨_, lx_call1 (lxb_ascii _ (by decide) (by decide)) (lxb_name h)⟩
  | .neg o, h => by
    obtain ⟨b, hb⟩ := lx_num o h
    exact ⟨_, lx_call1 (lxb_ascii _ (by decide) (by decide)) hb⟩
  | .add l r, h => by
    simp only [formO, Bool.and_eq_true] at h
    obtain ⟨b, hb⟩ := lx_num l h.1
    obtain ⟨c, hc⟩ := lx_num r h.2
    exact ⟨_, lx_call2 (lxb_ascii _ (by decide) (by decide)) hb hc⟩
  | .mul l r, h => by
    simp only [formO, Bool.and_eq_true] at h
    obtain ⟨b, hb⟩ := lx_num l h.1
    obtain ⟨c, hc⟩ := lx_num r h.2
    exact ⟨_, lx_call2 (lxb_ascii _ (by decide) (by decide)) hb hc⟩
  | .max l r, h => by
    simp only [formO, Bool.and_eq_true] at h
    obtain ⟨b, hb⟩ := lx_num l h.1
    obtain ⟨c, hc⟩ := lx_num r h.2
    exact ⟨_, lx_call2 (lxb_ascii _ (by decide) (by decide)) hb hc⟩
/-- A contract's text; but for 'zero' its last sign is a bracket. -/
theorem lx_con : ∀ t : Tm, formT t = true → ∃ b, LxB b (conT t) (toksT t) ∧ (t ≠ .zero → b = true)
  | .none, h => by cases h
  | .zero, _ => ⟨_, lxb_ascii _ (by decide) (by decide), fun t => absurd rfl t⟩
  | .one s, h => ⟨_, lx_call1 (lxb_ascii _ (by decide) (by decide)) (lxb_name h), fun _ => rfl⟩
  | .give t, h => by
    obtain ⟨b, hb, _⟩ := lx_con t h
    exact ⟨_, lx_call1 (lxb_ascii _ (by decide) (by decide)) hb, fun _ => rfl⟩
  | .and l r, h => by
    simp only [formT, Bool.and_eq_true] at h
    obtain ⟨b, hb, _⟩ := lx_con l h.1
    obtain ⟨c, hc, _⟩ := lx_con r h.2
    exact ⟨_, lx_call2 (lxb_ascii _ (by decide) (by decide)) hb hc, fun _ => rfl⟩
  | .or s l r, h => by
    simp only [formT, Bool.and_eq_true] at h
    obtain ⟨b, hb, _⟩ := lx_con l h.2.1
    obtain ⟨c, hc, _⟩ := lx_con r h.2.2
    exact ⟨_, lx_call3 (lxb_ascii _ (by decide) (by decide)) (lxb_name h.1) hb hc, fun _ => rfl⟩
  | .scale o t, h => by
    simp only [formT, Bool.and_eq_true] at h
    obtain ⟨b, hb⟩ := lx_num o h.1
    obtain ⟨c, hc, _⟩ := lx_con t h.2
    exact ⟨_, lx_call2 (lxb_ascii _ (by decide) (by decide)) hb hc, fun _ => rfl⟩
  | .when d t, h => by
    simp only [formT, Bool.and_eq_true] at h
    obtain ⟨c, hc, _⟩ := lx_con t h.2
    exact ⟨_, lx_call2 (lxb_ascii _ (by decide) (by decide)) (lxb_num d) hc, fun _ => rfl⟩
  | .cond o l r, h => by
    simp only [formT, Bool.and_eq_true] at h
    obtain ⟨a, ha⟩ := lx_num o h.1
    obtain ⟨b, hb, _⟩ := lx_con l h.2.1
    obtain ⟨c, hc, _⟩ := lx_con r h.2.2
    exact ⟨_, lx_call3 (lxb_ascii _ (by decide) (by decide)) ha hb hc, fun _ => rfl⟩

/-- The signs of bytes. -/
theorem LxB.signs {b : Bool} {bs : List UInt8} {ts : List (List UInt8)} (h : LxB b bs ts) : ∃ ys : List SignV, sgF [] 0 false (runesL bs) = (ys, 0) ∧ ys.map Prod.fst = ts := by
  obtain ⟨R, h1, h2, h3⟩ := h
  obtain ⟨ys, run, a1, a2, a3⟩ := h3 [] 0
  have hR : runesL bs = R := by rw [← h2]; exact runes_txt0 R fun r hr => (h1 r hr).1
  refine ⟨ys, ?_, a1⟩
  have := a3 []
  rw [List.append_nil] at this
  rw [hR, this, List.nil_append]
  rfl

theorem doneF_nil {fin : Int} {s : RS} (h : s.l = []) : doneF fin s = s := by unfold doneF; rw [h]
theorem doneF_ok {fin : Int} {s : RS} (h : (doneF fin s).e = 0) : s.e = 0 ∧ s.l = [] ∧ doneF fin s = s := by
  unfold doneF at h ⊢
  cases hl : s.l with
  | nil => rw [hl] at h; exact ⟨h, rfl, rfl⟩
  | cons x l =>
    rw [hl] at h
    dsimp only at h
    unfold failF at h
    split at h
    · exact absurd (show (2 : Int) = 0 from h) (by decide)
    · contradiction

theorem checkO_form {o : Ob} (h : checkO o = 0) : formO o = true ∧ nodesO o ≤ 60 ∧ depthO o ≤ 12 := by
  unfold checkO at h
  repeat' split at h
  all_goals first | (exact absurd h (by decide)) | skip
  rename_i h1 h2 h3
  exact ⟨by simpa using h1, by omega, by omega⟩

/-- Signs that are a contract's are read as that contract. -/
theorem readT_of {bs : List UInt8} {t : Tm} {ys : List SignV} (hc : checkT t = 0) (hl : bs.length ≤ 1000) (hs : sgF [] 0 false (runesL bs) = (ys, 0)) (ht : ys.map Prod.fst = toksT t) : readT bs = (t, 0, 0) := by
  have hf := checkT_form hc
  have hb : beginF bs = ⟨ys, 0, 0⟩ := by unfold beginF; rw [if_neg (by omega), hs]; rfl
  have hr := conR_of (endF bs) 12 t hf.1 hf.2.2 (s := ⟨ys, 0, 0⟩) (s' := ⟨[], 0, 0⟩) ⟨rfl, rfl, rfl, ys, by simp, ht⟩
  unfold readT conS
  rw [hb, hr]
  dsimp only
  rw [doneF_nil rfl, if_neg (by simp), if_neg (by simpa using hc)]
theorem readO_of {bs : List UInt8} {o : Ob} {ys : List SignV} (hc : checkO o = 0) (hl : bs.length ≤ 1000) (hs : sgF [] 0 false (runesL bs) = (ys, 0)) (ht : ys.map Prod.fst = toksO o) : readO bs = (o, 0, 0) := by
  have hf := checkO_form hc
  have hb : beginF bs = ⟨ys, 0, 0⟩ := by unfold beginF; rw [if_neg (by omega), hs]; rfl
  have hr := numR_of (endF bs) 12 o hf.1 hf.2.2 (s := ⟨ys, 0, 0⟩) (s' := ⟨[], 0, 0⟩) ⟨rfl, rfl, rfl, ys, by simp, ht⟩
  unfold readO numS
  rw [hb, hr]
  dsimp only
  rw [doneF_nil rfl, if_neg (by simp), if_neg (by simpa using hc)]

theorem writeT_ok {t : Tm} (h : (writeT t).2 = 0) : checkT t = 0 ∧ (conT t).length ≤ 1000 ∧ writeT t = (conT t, 0) := by
  unfold writeT at h ⊢
  split at h
  · rename_i hc; exact absurd h hc
  rename_i hc
  split at h
  · exact absurd h (by decide)
  rename_i hl
  exact ⟨by simpa using hc, by omega, by rw [if_neg hc, if_neg hl]⟩
theorem writeO_ok {o : Ob} (h : (writeO o).2 = 0) : checkO o = 0 ∧ (numO o).length ≤ 1000 ∧ writeO o = (numO o, 0) := by
  unfold writeO at h ⊢
  split at h
  · rename_i hc; exact absurd h hc
  rename_i hc
  split at h
  · exact absurd h (by decide)
  rename_i hl
  exact ⟨by simpa using hc, by omega, by rw [if_neg hc, if_neg hl]⟩
/-- A contract's text is read as that contract. -/
theorem read_write {t : Tm} (h : (writeT t).2 = 0) : readT (writeT t).1 = (t, 0, 0) := by
  obtain ⟨h1, h2, h3⟩ := writeT_ok h
  obtain ⟨b, hb, _⟩ := lx_con t (checkT_form h1).1
  obtain ⟨ys, a1, a2⟩ := hb.signs
  rw [h3]
  exact readT_of h1 h2 a1 a2
theorem readO_write {o : Ob} (h : (writeO o).2 = 0) : readO (writeO o).1 = (o, 0, 0) := by
  obtain ⟨h1, h2, h3⟩ := writeO_ok h
  obtain ⟨b, hb⟩ := lx_num o (checkO_form h1).1
  obtain ⟨ys, a1, a2⟩ := hb.signs
  rw [h3]
  exact readO_of h1 h2 a1 a2

/-! ### How long it is -/
def lenS (l : List (List UInt8)) : Nat := l.flatten.length
theorem lenS_app (a b : List (List UInt8)) : lenS (a ++ b) = lenS a + lenS b := by unfold lenS; rw [List.flatten_append, List.length_append]
theorem lenS_add (l : List SignV) (x : List UInt8) : lenS ((addLast l x).map Prod.fst) = lenS (l.map Prod.fst) + x.length := by
  by_cases h : l = []
  · subst h; unfold addLast lenS; simp
  · obtain ⟨a, y, rfl⟩ := last_split l h
    rw [addLast_of, List.map_append, List.map_append, lenS_app, lenS_app]
    simp [lenS]; omega
theorem sgF_lenS : ∀ (R : List Int) (W : List SignV) (at_ : Int) (run : Bool), lenS ((sgF W at_ run R).1.map Prod.fst) ≤ lenS (W.map Prod.fst) + (txt R).length
  | [], W, at_, run => by show lenS (W.map Prod.fst) ≤ _; omega
  | r :: R, W, at_, run => by
    unfold sgF
    rw [txt_cons, List.length_append]
    split
    · simp [lenS]
    split
    · have := sgF_lenS R (addLast W (enc r)) (at_ + 1) true
      rw [lenS_add] at this; omega
    split
    · have := sgF_lenS R (W ++ [(enc r, at_ + 1)]) (at_ + 1) (kd r == 97)
      rw [List.map_append, lenS_app] at this
      have e : lenS ([(enc r, at_ + 1)].map Prod.fst) = (enc r).length := by simp [lenS]
      omega
    · have := sgF_lenS R W (at_ + 1) false
      omega
theorem sgF_ok : ∀ (R : List Int) (W : List SignV) (at_ : Int) (run : Bool), 0 ≤ at_ → ¬ 0 < (sgF W at_ run R).2 → ∀ r ∈ R, kd r ≠ 0
  | [], _, _, _, _, _, r, hr => by cases hr
  | c :: R, W, at_, run, h0, h, r, hr => by
    unfold sgF at h
    split at h
    · exact absurd (by dsimp only; omega) h
    rename_i hc
    have key : ∀ x ∈ R, kd x ≠ 0 := by
      split at h
      · exact sgF_ok R _ _ _ (by omega) h
      split at h
      · exact sgF_ok R _ _ _ (by omega) h
      · exact sgF_ok R _ _ _ (by omega) h
    rcases List.mem_cons.1 hr with rfl | hr
    · exact hc
    · exact key r hr

theorem call1_flat (wd x : List UInt8) : callL wd [x] = wd ++ ([40] ++ (x ++ [41])) := by unfold callL; rw [join1]; simp
theorem call2_flat (wd x y : List UInt8) : callL wd [x, y] = wd ++ ([40] ++ (x ++ ([44] ++ (y ++ [41])))) := by unfold callL; rw [join2]; simp
theorem call3_flat (wd x y z : List UInt8) : callL wd [x, y, z] = wd ++ ([40] ++ (x ++ ([44] ++ (y ++ ([44] ++ (z ++ [41])))))) := by unfold callL; rw [join3]; simp
theorem toksO_flat (o : Ob) : (toksO o).flatten = numO o := by
  induction o <;> simp_all [toksO, numO, call1_flat, call2_flat]
theorem toksT_flat (t : Tm) : (toksT t).flatten = conT t := by
  induction t <;> simp_all [toksT, conT, call1_flat, call2_flat, call3_flat, toksO_flat]

theorem sgF_bytes {bs : List UInt8} (h : ¬ 0 < (sgF [] 0 false (runesL bs)).2) : lenS ((sgF [] 0 false (runesL bs)).1.map Prod.fst) ≤ bs.length := by
  have h1 := sgF_ok _ _ _ _ (Int.le_refl _) h
  have h2 := sgF_lenS (runesL bs) [] 0 false
  rw [txt_runesL bs fun r hr => kd_no (h1 r hr)] at h2
  simpa [lenS] using h2

theorem beginF_ok {bs : List UInt8} (h : (beginF bs).e = 0) : bs.length ≤ 1000 ∧ ¬ 0 < (sgF [] 0 false (runesL bs)).2 ∧ beginF bs = ⟨(sgF [] 0 false (runesL bs)).1, 0, 0⟩ := by
  unfold beginF at h ⊢
  split at h
  · exact absurd (show (5 : Int) = 0 from h) (by decide)
  split at h
  · exact absurd (show (2 : Int) = 0 from h) (by decide)
  rename_i h1 h2
  exact ⟨by omega, h2, by rw [if_neg h1, if_neg h2]⟩

/-- A text that is a contract: written, it is not longer. -/
theorem readT_inv {bs : List UInt8} (h : (readT bs).2.2 = 0) : checkT (readT bs).1 = 0 ∧ (conT (readT bs).1).length ≤ bs.length ∧ bs.length ≤ 1000 ∧ (readT bs).2.1 = 0 := by
  unfold readT at h ⊢
  split at h
  · rename_i hc; exact absurd h hc
  rename_i hc
  split at h
  · rename_i hd; exact absurd h hd
  rename_i hd
  rw [if_neg hc, if_neg hd]
  have he : (conS bs).e = 0 := by simpa using hc
  obtain ⟨h1, h2, h3⟩ := doneF_ok he
  obtain ⟨i1, i2, i3⟩ := conR_inv (endF bs) 12 (beginF bs) h1
  obtain ⟨b1, b2, b3⟩ := beginF_ok i1.e
  refine ⟨by simpa using hd, ?_, b1, rfl⟩
  obtain ⟨xs, hx, hxs⟩ := i1.eat
  rw [h2, List.append_nil, b3] at hx
  dsimp only at hx ⊢
  rw [← toksT_flat, ← hxs, ← hx]
  exact sgF_bytes b2
theorem readO_inv {bs : List UInt8} (h : (readO bs).2.2 = 0) : checkO (readO bs).1 = 0 ∧ (numO (readO bs).1).length ≤ bs.length ∧ bs.length ≤ 1000 ∧ (readO bs).2.1 = 0 := by
  unfold readO at h ⊢
  split at h
  · rename_i hc; exact absurd h hc
  rename_i hc
  split at h
  · rename_i hd; exact absurd h hd
  rename_i hd
  rw [if_neg hc, if_neg hd]
  have he : (numS bs).e = 0 := by simpa using hc
  obtain ⟨h1, h2, h3⟩ := doneF_ok he
  obtain ⟨i1, i2, i3⟩ := numR_inv (endF bs) 12 (beginF bs) h1
  obtain ⟨b1, b2, b3⟩ := beginF_ok i1.e
  refine ⟨by simpa using hd, ?_, b1, rfl⟩
  obtain ⟨xs, hx, hxs⟩ := i1.eat
  rw [h2, List.append_nil, b3] at hx
  dsimp only at hx ⊢
  rw [← toksO_flat, ← hxs, ← hx]
  exact sgF_bytes b2
theorem readT_bad {bs : List UInt8} (h : (readT bs).2.2 ≠ 0) : (readT bs).1 = .none := by
  unfold readT at h ⊢
  split
  · rfl
  split
  · rfl
  rename_i h1 h2
  rw [if_neg h1, if_neg h2] at h
  exact absurd rfl h
theorem readO_bad {bs : List UInt8} (h : (readO bs).2.2 ≠ 0) : (readO bs).1 = .none := by
  unfold readO at h ⊢
  split
  · rfl
  split
  · rfl
  rename_i h1 h2
  rw [if_neg h1, if_neg h2] at h
  exact absurd rfl h

/-- A contract's text has no blanks. -/
theorem LxB.blank {b : Bool} {bs : List UInt8} {ts : List (List UInt8)} (h : LxB b bs ts) : (32 : UInt8) ∉ bs := by
  obtain ⟨R, h1, h2, _⟩ := h
  rw [← h2]
  intro t
  unfold txt at t
  obtain ⟨r, hr, hm⟩ := List.mem_flatMap.1 t
  exact enc_32 (h1 r hr).1 (h1 r hr).2 hm

/-! ### Blanks between signs -/
def gapF (k : Nat → Nat) : Nat → List Int → List Int
  | _, [] => []
  | n, r :: rs => if r = 40 ∨ r = 41 ∨ r = 44 then List.replicate (k n) 32 ++ (r :: (List.replicate (k n) 32 ++ gapF k (n + 1) rs)) else r :: gapF k n rs
theorem lx_blanks (W : List SignV) (X : List Int) : ∀ (k : Nat) (at_ : Int) (run : Bool), ∃ at' run', sgF W at_ run (List.replicate k 32 ++ X) = sgF W at' run' X ∧ (run = false → run' = false)
  | 0, at_, run => ⟨at_, run, rfl, fun h => h⟩
  | k + 1, at_, run => by
    obtain ⟨a, r, h1, h2⟩ := lx_blanks W X k (at_ + 1) false
    exact ⟨a, r, by rw [List.replicate_succ, List.cons_append, lx_blank, h1], fun _ => h2 rfl⟩
theorem addLast_fst {W W' : List SignV} (h : W.map Prod.fst = W'.map Prod.fst) (x : List UInt8) : (addLast W x).map Prod.fst = (addLast W' x).map Prod.fst := by
  by_cases hw : W = []
  · subst hw
    have : W' = [] := by cases W' with
      | nil => rfl
      | cons a b => simp at h
    rw [this]
  · have hw' : W' ≠ [] := by
      rintro rfl
      exact hw (by simpa using h)
    obtain ⟨a, y, rfl⟩ := last_split W hw
    obtain ⟨a', y', rfl⟩ := last_split W' hw'
    rw [List.map_append, List.map_append] at h
    have h := List.append_inj' h rfl
    simp only [List.map_cons, List.map_nil, List.cons.injEq, and_true] at h
    rw [addLast_of, addLast_of, List.map_append, List.map_append, h.1]
    simp [h.2]
theorem gap_same (k : Nat → Nat) : ∀ (R : List Int) (n : Nat) (W W' : List SignV) (a a' : Int) (run : Bool), W.map Prod.fst = W'.map Prod.fst → (∀ r ∈ R, kd r ≠ 0) →
    ∃ ys ys', sgF W a run R = (ys, 0) ∧ sgF W' a' run (gapF k n R) = (ys', 0) ∧ ys.map Prod.fst = ys'.map Prod.fst
  | [], n, W, W', a, a', run, h, _ => ⟨W, W', rfl, rfl, h⟩
  | r :: R, n, W, W', a, a', run, h, hk => by
    have hk0 := hk r (by simp)
    have hks : ∀ r ∈ R, kd r ≠ 0 := fun x hx => hk x (by simp [hx])
    unfold gapF
    by_cases hr : r = 40 ∨ r = 41 ∨ r = 44
    · rw [if_pos hr]
      have h40 : kd r = 40 := by rcases hr with rfl | rfl | rfl <;> rfl
      obtain ⟨a1, r1, e1, _⟩ := lx_blanks W' (r :: (List.replicate (k n) 32 ++ gapF k (n + 1) R)) (k n) a' run
      rw [lx_sign _ _ _ _ _ h40, e1, lx_sign _ _ _ _ _ h40]
      obtain ⟨a2, r2, e2, f2⟩ := lx_blanks (W' ++ [(enc r, a1 + 1)]) (gapF k (n + 1) R) (k n) (a1 + 1) false
      rw [e2, f2 rfl]
      exact gap_same k R (n + 1) _ _ _ _ _ (by rw [List.map_append, List.map_append, h]; rfl) hks
    · rw [if_neg hr]
      unfold sgF
      rw [if_neg hk0, if_neg hk0]
      split
      · exact gap_same k R n _ _ _ _ _ (addLast_fst h _) hks
      split
      · exact gap_same k R n _ _ _ _ _ (by rw [List.map_append, List.map_append, h]; rfl) hks
      · exact gap_same k R n _ _ _ _ _ h hks

end Go.Proofs.YtlhbfdakceipkaaGreatDoor
