/-
  RunesBad: the first rune that is no sign is told by its place, counted in runes, not in bytes.
  Conditions: none beyond the statement's own.
-/
import Derived.Test.YtejhjjafmobmbaaRuneSpec
import Derived.Test.YtejhjjafmobmbaaWinSpec
import Derived.Test.YtejhjjafmobmbaaCRBad
import Derived.SizedLaws
set_option linter.unusedVariables false
set_option maxRecDepth 100000
namespace Go.Proofs.Ytejhjjafmobmbaa
open Vc

theorem sgF_bad : ∀ (rs : List Int) (acc : List SignV) (at_ : Int) (run : Bool) (c : Int) (tail : List Int), (∀ r ∈ rs, kd r ≠ 0) → kd c = 0 → sgF acc at_ run (rs ++ c :: tail) = ([], at_ + rs.length + 1)
  | [], acc, at_, run, c, tail, _, hc => by
    show (if kd c = 0 then _ else _) = _
    rw [if_pos hc]; simp
  | r :: rs, acc, at_, run, c, tail, h, hc => by
    have h1 := h r (by simp)
    have ih := fun acc run => sgF_bad rs acc (at_ + 1) run c tail (fun x hx => h x (by simp [hx])) hc
    have e : at_ + 1 + (rs.length : Int) + 1 = at_ + ((r :: rs).length : Int) + 1 := by simp only [List.length_cons]; omega
    rw [List.cons_append]
    unfold sgF
    rw [if_neg h1]
    split
    · rw [ih, e]
    split
    · rw [ih, e]
    · rw [ih, e]
theorem reads_bad (rs : List Int) (c : Int) (tail : List Int) (h : ∀ r ∈ rs, kd r ≠ 0) (hc : kd c = 0) : reads (rs ++ c :: tail) = rs.length := by
  unfold reads
  rw [List.takeWhile_append_of_pos (by intro r hr; simpa using h r hr), List.takeWhile_cons_of_neg (by simp [hc])]
  simp
theorem kd_let {r : Int} (h : isLet r = true) : kd r = 97 := by unfold kd; rw [if_pos h]

theorem decL_ascii {b : UInt8} (h : b.toNat < 128) (t : List UInt8) : decL (b :: t) = (b.toNat, 1) := by
  simp only [decL, Utf8.decode, get_list, str_list, List.getD_cons_zero, Nat.add_zero]
  rw [if_pos h]
theorem decL_255 (t : List UInt8) : decL (255 :: t) = (65533, 1) := by
  have e : (255 : UInt8).toNat = 255 := rfl
  simp only [decL, Utf8.decode, get_list, str_list, List.getD_cons_zero, Nat.add_zero, e]
  simp [Utf8.runeError]

def badS : List (List UInt8) := [[65], [46], [9], [255], [43], [0], [39]]
theorem badS_ok : ∀ b ∈ badS, b.length = 1 ∧ ∀ t, ∃ c rest, runesL (b ++ t) = c :: rest ∧ kd c = 0 := by
  intro b hb
  have hb : b = [65] ∨ b = [46] ∨ b = [9] ∨ b = [255] ∨ b = [43] ∨ b = [0] ∨ b = [39] := by simpa [badS] using hb
  have asc : ∀ x : UInt8, x.toNat < 128 → kd (x.toNat : Int) = 0 → ∀ t, ∃ c rest, runesL ([x] ++ t) = c :: rest ∧ kd c = 0 := fun x hx hk t =>
    ⟨_, _, runesL_step _ (by simp), by rw [List.singleton_append, decL_ascii hx]; exact hk⟩
  rcases hb with h | h | h | h | h | h | h <;> subst h
  · exact ⟨rfl, asc 65 (by decide) (by rfl)⟩
  · exact ⟨rfl, asc 46 (by decide) (by rfl)⟩
  · exact ⟨rfl, asc 9 (by decide) (by rfl)⟩
  · exact ⟨rfl, fun t => ⟨_, _, runesL_step _ (by simp), by rw [List.singleton_append, decL_255]; rfl⟩⟩
  · exact ⟨rfl, asc 43 (by decide) (by rfl)⟩
  · exact ⟨rfl, asc 0 (by decide) (by rfl)⟩
  · exact ⟨rfl, asc 39 (by decide) (by rfl)⟩

theorem cat_ok {a b : List UInt8} {K : Prop} (h : a.length + b.length ≤ 1000000000000000) (k : K) : CatK (str a) (str b) K :=
  ⟨by rw [str_size, str_size]; show ((a.length + b.length : Nat) : Int) ≤ 9223372036854775807; omega, k⟩
theorem elem_str : ElemOk Try.prog 38 9 1 (.string ByteArray.empty) 16 := ⟨Try.underlying38, ⟨Try.t9, by kernel_rfl, rfl, rfl, rfl⟩, rfl, by decide⟩

theorem bad_walk (p0 : ByteArray) (p1 : Int) (p2 : ByteArray) (w : World) (h0 : p0.size ≤ reachBytes) (h1 : (Go.Lit.int .i64 p1).wf = true) (h2 : p2.size ≤ reachBytes) :
    Ret Try.prog 9 #[.string p0, .int .i64 p1, .string p2] w fun r w' => r = .bool true ∧ Fr none1 w w' := by
  obtain ⟨s, rfl⟩ : ∃ bs, p0 = str bs := ⟨p0.data.toList, (str_of p0).symm⟩
  obtain ⟨t, rfl⟩ : ∃ bs, p2 = str bs := ⟨p2.data.toList, (str_of p2).symm⟩
  rw [str_size] at h0 h2
  have htl : t.length ≤ 140737488351232 := h2
  refine c9 _ p1 _ w _ ?_
  unfold C9
  refine CallK.of (word_spec s w) ?_
  rintro _ w1 ⟨rfl, f1⟩
  refine ⟨_, rfl, ?_⟩
  have e5 : (⟨#[230, 176, 180, 195, 169]⟩ : ByteArray) = str (txt [27700, 233]) := by rfl
  have e40 : (⟨#[40]⟩ : ByteArray) = str (txt [40]) := by rfl
  have e41 : (⟨#[41, 32]⟩ : ByteArray) = str (txt [41, 32]) := by rfl
  rw [e5, e40, e41]
  simp only [str_app, ← txt_append]
  obtain ⟨ws, hws⟩ : ∃ ws, [27700, 233] ++ wordR s = ws := ⟨_, rfl⟩
  have hwl : ws.length ≤ 11 := by rw [← hws]; have := wordR_len s; simp only [List.length_append, List.length_cons, List.length_nil]; omega
  have hwok : ∀ r ∈ ws, isLet r = true ∧ okR r := by
    rw [← hws]
    intro r hr
    rcases List.mem_append.1 hr with hr | hr
    · have hr : r = 27700 ∨ r = 233 := by simpa using hr
      refine ⟨?_, by unfold okR; omega⟩
      rcases hr with h | h <;> subst h <;> rfl
    · exact wordR_ok s r hr
  have hww := wordR_len s
  have hwt := txt_len (wordR s)
  have hwt2 := txt_len ws
  refine cat_ok (by have : (txt [27700, 233]).length = 5 := rfl
                    omega) ?_
  rw [hws]
  refine range_okS (txt ws) fun r w2 hr hit f2 => ?_
  rw [runes_txt0 ws (fun r hr => (hwok r hr).2)] at hit
  have F0 : Fr (only r) w2 w2 := Fr.refl _ _
  refine LoopK.of (fun q w' => ∃ rest : List Int, 0 ≤ q.1 ∧ q.1 + rest.length = ws.length ∧ IsIt w' r rest ∧ Fr (only r) w2 w') (fun _ w' => itLen w' r) ⟨ws, Int.le_refl _, by dsimp only; omega, hit, F0⟩ ?_
  rintro _ ⟨n, _⟩ w3 ⟨rest, n0, hn, hit3, f3⟩
  dsimp only at n0 hn ⊢
  refine next_ok hit3 (fun c rest' pos w4 hc hok hit4 f4 => ?_) (fun hnil => ?_)
  · subst hc
    simp only [List.length_cons] at hn
    rw [wI (x := n + 1) (by omega) (by omega)]
    exact ⟨⟨rest', by omega, by omega, hit4, f3.trans f4⟩, by rw [hit4.left, hit3.left]; simp⟩
  subst hnil
  simp only [List.length_nil] at hn
  have fw3 : Fr none1 w w3 := f1.trans (f2.fresh f3 (by omega))
  obtain ⟨x, w4, r4, hx, hxl, f4, xf⟩ := lit_ok (P := Try.prog) (w := w3) elem_str (badS.map fun b => Value.string (str b)) (by intro v hv; obtain ⟨x, _, rfl⟩ := List.mem_map.1 hv; rfl) (by simp [badS])
  have hxl7 : x.2.1 = 7 := hxl
  refine ⟨x, w4, r4, ?_⟩
  refine CallK.of (within_spec p1 7 w4 (by omega)) ?_
  rintro _ _ ⟨rfl, rfl⟩
  refine ⟨_, rfl, ?_⟩
  have blo := within_lo p1 7
  have bhi := within_hi p1 (n := 7) (by omega)
  have hb7 : (within p1 7).toNat < badS.length := by show _ < 7; omega
  refine IsSl.ld hx (c := .str) (x := str badS[(within p1 7).toNat]) blo (by omega) (by rw [List.getElem?_map, List.getElem?_eq_getElem hb7]; rfl) ?_
  obtain ⟨b, hb⟩ : ∃ b, badS[(within p1 7).toNat] = b := ⟨_, rfl⟩
  rw [hb]
  obtain ⟨bl, bok⟩ := badS_ok b (by rw [← hb]; exact List.getElem_mem _)
  obtain ⟨c, rest, hbt, hc⟩ := bok t
  simp only [str_app]
  have hl2 : (txt ([40] ++ ws)).length ≤ 100 := by have := txt_len ([40] ++ ws); simp only [List.length_append, List.length_cons, List.length_nil] at this; omega
  have hl3 : (txt ([40] ++ ws ++ [41, 32])).length ≤ 100 := by have := txt_len ([40] ++ ws ++ [41, 32]); simp only [List.length_append, List.length_cons, List.length_nil] at this; omega
  have hrun1 : runesL (txt ws ++ b ++ t) = ws ++ c :: rest := by rw [List.append_assoc, runes_txt _ _ (fun r hr => (hwok r hr).2), hbt]
  have hok2 : ∀ r ∈ [40] ++ ws ++ [41, 32], okR r ∧ kd r ≠ 0 := fun r hr => by
    have hr : r = 40 ∨ r ∈ ws ∨ r = 41 ∨ r = 32 := by simpa using hr
    rcases hr with h | h | h | h
    · subst h; exact ⟨by unfold okR; omega, by decide⟩
    · exact ⟨(hwok r h).2, by rw [kd_let (hwok r h).1]; decide⟩
    · subst h; exact ⟨by unfold okR; omega, by decide⟩
    · subst h; exact ⟨by unfold okR; omega, by decide⟩
  have hrun2 : runesL (txt ([40] ++ ws ++ [41, 32]) ++ b ++ t) = ([40] ++ ws ++ [41, 32]) ++ c :: rest := by rw [List.append_assoc, runes_txt _ _ (fun r hr => (hok2 r hr).1), hbt]
  have hk1 : ∀ r ∈ ws, kd r ≠ 0 := fun r hr => by rw [kd_let (hwok r hr).1]; decide
  refine cat_ok (by omega) (cat_ok (by simp only [List.length_append]; omega) ?_)
  refine CallK.of (signs_spec (txt ws ++ b ++ t) w4 (by rw [hrun1, reads_bad ws c rest hk1 hc]; omega)) ?_
  rintro _ w5 ⟨sl, rfl, hsl, f5, _⟩
  rw [hrun1, sgF_bad ws [] 0 false c rest hk1 hc] at hsl ⊢
  refine ⟨((sl.1, sl.2.1, sl.2.2), _, ()), rfl, ?_⟩
  refine cat_ok (by have : (txt [40]).length = 1 := rfl
                    omega) (cat_ok (by have : (txt [41, 32]).length = 2 := rfl
                                       omega) (cat_ok (by omega) (cat_ok (by simp only [List.length_append] at *; omega) ?_)))
  refine CallK.of (signs_spec (txt ([40] ++ ws ++ [41, 32]) ++ b ++ t) w5 (by rw [hrun2, reads_bad _ c rest (fun r hr => (hok2 r hr).2) hc]; simp; omega)) ?_
  rintro _ w6 ⟨sl2, rfl, hsl2, f6, _⟩
  rw [hrun2, sgF_bad _ [] 0 false c rest (fun r hr => (hok2 r hr).2) hc] at hsl2 ⊢
  refine ⟨((sl2.1, sl2.2.1, sl2.2.2), _, ()), rfl, ?_⟩
  have l1 : sl.2.1 = 0 := hsl.len
  have l2 : sl2.2.1 = 0 := hsl2.len
  dsimp only
  rw [l1, l2, wI (x := n + 1) (by omega) (by omega), wI (x := n + 4) (by omega) (by omega)]
  refine ifB.t rfl (ifB.t ?_ (ifB.t rfl (ifB.t ?_ ?_)))
  · simp only [beq_iff_eq]; omega
  · simp only [beq_iff_eq, List.length_append, List.length_cons, List.length_nil]; omega
  refine CallK.of (wakes1_spec w6) ?_
  rintro _ w7 ⟨rfl, f7⟩
  exact ⟨_, rfl, rfl, (((fw3.trans f4).trans f5).trans f6).trans f7⟩

end Go.Proofs.Ytejhjjafmobmbaa
