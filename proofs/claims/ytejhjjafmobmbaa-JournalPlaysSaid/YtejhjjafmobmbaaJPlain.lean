/-
  The plain law of a journal's bytes: packed records are read as they were; one with a byte turned behind its size is none.
  Conditions: records of at most 4000 bytes.
-/
import Derived.Test.YtejhjjafmobmbaaJOpen
set_option linter.unusedVariables false
namespace Go.Proofs.Ytejhjjafmobmbaa
open Vc

theorem xor_cancel {a b c : UInt8} (h : a ^^^ c = b ^^^ c) : a = b := by
  have : (a ^^^ c) ^^^ c = (b ^^^ c) ^^^ c := by rw [h]
  rwa [UInt8.xor_assoc, UInt8.xor_assoc, UInt8.xor_self, UInt8.xor_zero, UInt8.xor_zero] at this
theorem xor_cancel' {a b c : UInt8} (h : c ^^^ a = c ^^^ b) : a = b := by
  rw [UInt8.xor_comm c a, UInt8.xor_comm c b] at h; exact xor_cancel h

theorem xorL_set : ∀ (l : List UInt8) (a v : UInt8) (j : Nat), j < l.length → xorL a (l.set j v) = xorL a l → v = l.getD j 0
  | [], _, _, _, h, _ => by simp at h
  | c :: l, a, v, 0, _, h => by
    rw [List.set_cons_zero, xorL_cons, xorL_cons, xorL_from (a ^^^ v), xorL_from (a ^^^ c)] at h
    exact xor_cancel' (xor_cancel h)
  | c :: l, a, v, j + 1, hj, h => by
    rw [List.set_cons_succ, xorL_cons, xorL_cons] at h
    have := xorL_set l (a ^^^ c) v j (by simpa using hj) h
    simpa using this

def hd (n : Nat) : List UInt8 := [toByte ((n : Int) / 256), toByte ((n : Int) % 256)]
theorem hd_size {n : Nat} (h : n ≤ 4000) (t : List UInt8) : sizeL (hd n ++ t) = n := by
  have e1 := toByte_nat (z := (n : Int) / 256) (by omega) (by omega)
  have e2 := toByte_nat (z := (n : Int) % 256) (by omega) (by omega)
  show 256 * (toByte ((n : Int) / 256)).toNat + (toByte ((n : Int) % 256)).toNat = n
  omega

theorem firstL_form {n : Nat} (hn : n ≤ 4000) {m t : List UInt8} (hm : m.length = n) (e : UInt8) : firstL (hd n ++ m ++ [e] ++ t) = if e = xorL 150 (hd n ++ m) then some (m, t) else none := by
  have hs : sizeL (hd n ++ m ++ [e] ++ t) = n := by
    rw [List.append_assoc, List.append_assoc]; exact hd_size hn _
  have hlen : (hd n ++ m).length = 2 + n := by rw [List.length_append, hm]; rfl
  unfold firstL
  have htot : (hd n ++ m ++ [e] ++ t).length = 2 + n + 1 + t.length := by rw [List.length_append, List.length_append, hlen]; rfl
  rw [hs, if_neg (by omega), if_neg (by omega), if_neg (by omega)]
  have e1 : (hd n ++ m ++ [e] ++ t).getD (2 + n) 0 = e := by
    rw [List.getD_eq_getElem?_getD, List.append_assoc, List.getElem?_append_right (by omega), hlen, Nat.sub_self]; rfl
  have e2 : (hd n ++ m ++ [e] ++ t).take (2 + n) = hd n ++ m := by
    rw [List.append_assoc, ← hlen, List.take_left]
  have e3 : ((hd n ++ m ++ [e] ++ t).drop 2).take n = m := by
    show ((m ++ [e] ++ t)).take n = m
    rw [List.append_assoc, ← hm, List.take_left]
  have e4 : (hd n ++ m ++ [e] ++ t).drop (n + 3) = t := by
    rw [show n + 3 = (hd n ++ m ++ [e]).length by simp [hd, hm], List.drop_left]
  rw [e1, e2, e3, e4]
  by_cases h : e = xorL 150 (hd n ++ m)
  · rw [if_neg (by simpa using h), if_pos h]
  · rw [if_pos h, if_neg h]

theorem packL_form (x : List UInt8) : packL x = hd x.length ++ x ++ [xorL 150 (hd x.length ++ x)] := rfl

theorem firstL_pack {x : List UInt8} (t : List UInt8) (h : x.length ≤ 4000) : firstL (packL x ++ t) = some (x, t) := by
  rw [packL_form, firstL_form h rfl, if_pos rfl]

theorem firstL_turned {x : List UInt8} (t : List UInt8) (h : x.length ≤ 4000) {j : Nat} {v : UInt8} (h2 : 2 ≤ j) (hj : j < x.length + 3) (hv : v ≠ (packL x).getD j 0) : firstL ((packL x).set j v ++ t) = none := by
  have hh : (hd x.length).length = 2 := rfl
  have hl : (hd x.length ++ x).length = 2 + x.length := by rw [List.length_append, hh]
  rw [packL_form] at hv ⊢
  by_cases he : j = 2 + x.length
  · subst he
    rw [List.set_append_right _ _ (by omega), hl, Nat.sub_self, List.set_cons_zero, firstL_form h rfl, if_neg]
    intro t
    apply hv
    rw [t, List.getD_eq_getElem?_getD, List.getElem?_append_right (by omega), hl, Nat.sub_self]; rfl
  · have e0 : (hd x.length ++ x).set j v = hd x.length ++ x.set (j - 2) v := by
      rw [List.set_append_right _ _ (by omega)]
      rfl
    rw [List.set_append_left _ _ (by omega), e0, firstL_form h (by simp), if_neg]
    intro t
    apply hv
    rw [← e0] at t
    have := xorL_set _ 150 v j (by omega) t.symm
    rw [this, getD_l (hd x.length ++ x) _ _ (by omega)]

def packs : List (List UInt8) → List UInt8
  | [] => []
  | x :: l => packL x ++ packs l
theorem packs_app (a b : List (List UInt8)) : packs (a ++ b) = packs a ++ packs b := by
  induction a with
  | nil => rfl
  | cons x l ih => show packL x ++ packs (l ++ b) = (packL x ++ packs l) ++ packs b; rw [ih, List.append_assoc]
theorem packs_snoc (a : List (List UInt8)) (x : List UInt8) : packs (a ++ [x]) = packs a ++ packL x := by
  rw [packs_app]; show packs a ++ (packL x ++ []) = _; rw [List.append_nil]

/-- Packed records, and behind them what begins with none. -/
theorem parse_packs {t : List UInt8} (ht : firstL t = none) : ∀ (l : List (List UInt8)), (∀ r ∈ l, r.length ≤ 4000) → Parse (packs l ++ t) l t
  | [], _ => .stop ht
  | x :: l, h => by
    refine .next (x := x) (t := packs l ++ t) ?_ (parse_packs ht l fun r hr => h r (by simp [hr]))
    show firstL (packL x ++ packs l ++ t) = _
    rw [List.append_assoc]
    exact firstL_pack _ (h x (by simp))

theorem firstL_nil : firstL [] = none := by unfold firstL; rw [if_pos (by simp)]

/-- Where a byte is turned behind a record's size, the records end ahead of it. -/
theorem parse_turned {l : List (List UInt8)} {k at_ : Nat} {v : UInt8} (h : ∀ r ∈ l, r.length ≤ 4000) (hk : k < l.length) (h1 : (packs (l.take k)).length + 2 ≤ at_) (h2 : at_ < (packs (l.take (k + 1))).length) (hv : v ≠ (packs l).getD at_ 0) :
    ∃ rest, Parse ((packs l).set at_ v) (l.take k) rest ∧ ((packs l).set at_ v).take (((packs l).set at_ v).length - rest.length) = packs (l.take k) ∧ rest.length = (packs l).length - (packs (l.take k)).length := by
  have hsplit : l = l.take k ++ l[k] :: l.drop (k + 1) := by
    rw [← List.drop_eq_getElem_cons hk, List.take_append_drop]
  have hx : l[k].length ≤ 4000 := h _ (List.getElem_mem hk)
  have hp : packs l = packs (l.take k) ++ (packL l[k] ++ packs (l.drop (k + 1))) := by
    conv => lhs; rw [hsplit]
    rw [packs_app]; rfl
  have hk1 : (packs (l.take (k + 1))).length = (packs (l.take k)).length + (l[k].length + 3) := by
    rw [List.take_succ_eq_append_getElem hk, packs_snoc, List.length_append, packL_len]
  rw [hk1] at h2
  obtain ⟨j, hj⟩ : ∃ j, at_ = (packs (l.take k)).length + j := ⟨at_ - (packs (l.take k)).length, by omega⟩
  subst hj
  have hset : (packs l).set ((packs (l.take k)).length + j) v = packs (l.take k) ++ ((packL l[k]).set j v ++ packs (l.drop (k + 1))) := by
    rw [hp, List.set_append_right _ _ (by omega), Nat.add_sub_cancel_left, List.set_append_left _ _ (by rw [packL_len]; omega)]
  have hvj : v ≠ (packL l[k]).getD j 0 := by
    intro t
    apply hv
    rw [t, hp, List.getD_eq_getElem?_getD, List.getD_eq_getElem?_getD, List.getElem?_append_right (by omega), Nat.add_sub_cancel_left, List.getElem?_append_left (by rw [packL_len]; omega)]
  have hnone := firstL_turned (x := l[k]) (packs (l.drop (k + 1))) hx (j := j) (v := v) (by omega) (by omega) hvj
  refine ⟨(packL l[k]).set j v ++ packs (l.drop (k + 1)), ?_, ?_, ?_⟩
  · rw [hset]
    exact parse_packs hnone _ fun r hr => h r (List.mem_of_mem_take hr)
  · rw [hset, List.length_append, Nat.add_sub_cancel, List.take_left]
  · rw [hp]; simp only [List.length_append, List.length_set]; omega

end Go.Proofs.Ytejhjjafmobmbaa
