/-
  RunesPlaces: signs stand at their places, in order, none is empty; put together without blanks they are the text without its blanks.
  Conditions: none beyond the statement's own.
-/
import Derived.Test.YtejhjjafmobmbaaRJoin
import Derived.Test.YtejhjjafmobmbaaVcMap
import Derived.Test.YtejhjjafmobmbaaCRPlaces
set_option linter.unusedVariables false
set_option maxRecDepth 100000
namespace Go.Proofs.Ytejhjjafmobmbaa
open Vc

/-! ### Plain -/
abbrev SgR := List Int × Int
def toV (x : SgR) : SignV := (txt x.1, x.2)
def thick (l : List Int) : List Int := l.filter fun r => r != 32

structure Inv (done : List Int) (A : List SgR) : Prop where
  ok : ∀ x ∈ A, x.1 ≠ [] ∧ ∀ r ∈ x.1, okR r
  at_ : ∀ x ∈ A, 1 ≤ x.2 ∧ x.2 ≤ done.length ∧ ∀ k, k < x.1.length → done[(x.2 - 1).toNat + k]? = x.1[k]?
  up : ∀ i, i + 1 < A.length → (A.getD i ([], 0)).2 < (A.getD (i + 1) ([], 0)).2
  all : A.flatMap (·.1) = thick done

theorem kd_32 {r : Int} (h : kd r = 32) : r = 32 := by
  unfold kd at h
  repeat' split at h
  all_goals first | assumption | (exact absurd h (by decide))
theorem thick_snoc {l : List Int} {r : Int} (h : r ≠ 32) : thick (l ++ [r]) = thick l ++ [r] := by
  unfold thick; rw [List.filter_append]; simp [h]
theorem thick_blank {l : List Int} : thick (l ++ [32]) = thick l := by
  unfold thick; rw [List.filter_append]; simp

theorem Inv.more {done : List Int} {A : List SgR} (h : Inv done A) {r : Int} (h32 : r ≠ 32) (hok : okR r) : Inv (done ++ [r]) (A ++ [([r], (done.length : Int) + 1)]) := by
  obtain ⟨a, b, c, d⟩ := h
  refine ⟨fun x hx => ?_, fun x hx => ?_, fun i hi => ?_, ?_⟩
  · rcases List.mem_append.1 hx with hx | hx
    · exact a x hx
    · simp at hx; subst hx; exact ⟨by simp, by simpa using hok⟩
  · rcases List.mem_append.1 hx with hx | hx
    · obtain ⟨b1, b2, b3⟩ := b x hx
      refine ⟨b1, by simp; omega, fun k hk => ?_⟩
      have := b3 k hk
      rw [List.getElem?_eq_getElem hk] at this
      have hlt := (List.getElem?_eq_some_iff.1 this).1
      rw [List.getElem?_append_left hlt]
      exact b3 k hk
    · simp at hx; subst hx
      refine ⟨by dsimp only; omega, by simp, fun k hk => ?_⟩
      simp at hk; subst hk
      dsimp only
      rw [show ((done.length : Int) + 1 - 1).toNat + 0 = done.length by omega]
      simp
  · simp only [List.length_append, List.length_singleton] at hi
    by_cases hi2 : i + 1 < A.length
    · have := c i hi2
      rw [List.getD_eq_getElem?_getD, List.getD_eq_getElem?_getD] at this ⊢
      rw [List.getElem?_append_left (by omega), List.getElem?_append_left hi2]
      exact this
    · have e : i + 1 = A.length := by omega
      have hx := b _ (List.getElem_mem (show i < A.length by omega))
      rw [List.getD_eq_getElem?_getD, List.getD_eq_getElem?_getD, List.getElem?_append_left (by omega), List.getElem?_append_right (by omega), List.getElem?_eq_getElem (by omega), e]
      simp
      omega
  · rw [List.flatMap_append, d, thick_snoc h32]; simp

theorem Inv.blank {done : List Int} {A : List SgR} (h : Inv done A) : Inv (done ++ [32]) A := by
  obtain ⟨a, b, c, d⟩ := h
  refine ⟨a, fun x hx => ?_, c, by rw [d, thick_blank]⟩
  obtain ⟨b1, b2, b3⟩ := b x hx
  refine ⟨b1, by simp; omega, fun k hk => ?_⟩
  have := b3 k hk
  rw [List.getElem?_eq_getElem hk] at this
  have hlt := (List.getElem?_eq_some_iff.1 this).1
  rw [List.getElem?_append_left hlt]
  exact b3 k hk

theorem Inv.longer {done : List Int} {B : List SgR} {y : SgR} (h : Inv done (B ++ [y])) (hy : (y.2 - 1).toNat + y.1.length = done.length) {r : Int} (h32 : r ≠ 32) (hok : okR r) : Inv (done ++ [r]) (B ++ [(y.1 ++ [r], y.2)]) := by
  obtain ⟨a, b, c, d⟩ := h
  refine ⟨fun x hx => ?_, fun x hx => ?_, fun i hi => ?_, ?_⟩
  · rcases List.mem_append.1 hx with hx | hx
    · exact a x (by simp [hx])
    · simp at hx; subst hx
      have := a y (by simp)
      refine ⟨by simp, fun c hc => ?_⟩
      rcases List.mem_append.1 hc with hc | hc
      · exact this.2 c hc
      · simp at hc; subst hc; exact hok
  · have key : ∀ x ∈ B ++ [y], ∀ k, k < x.1.length → (done ++ [r])[(x.2 - 1).toNat + k]? = x.1[k]? := fun x hx k hk => by
      have := (b x hx).2.2 k hk
      rw [List.getElem?_eq_getElem hk] at this
      have hlt := (List.getElem?_eq_some_iff.1 this).1
      rw [List.getElem?_append_left hlt]
      exact (b x hx).2.2 k hk
    rcases List.mem_append.1 hx with hx | hx
    · obtain ⟨b1, b2, b3⟩ := b x (by simp [hx])
      exact ⟨b1, by simp; omega, key x (by simp [hx])⟩
    · simp at hx; subst hx
      obtain ⟨b1, b2, b3⟩ := b y (by simp)
      refine ⟨b1, by simp; omega, fun k hk => ?_⟩
      simp only [List.length_append, List.length_singleton] at hk
      dsimp only
      by_cases hk2 : k < y.1.length
      · rw [List.getElem?_append_left hk2]; exact key y (by simp) k hk2
      · have : k = y.1.length := by omega
        subst this
        rw [hy]; simp
  · simp only [List.length_append, List.length_singleton] at hi
    have := c i (by simp; omega)
    by_cases hi2 : i + 1 < B.length
    · rw [List.getD_eq_getElem?_getD, List.getD_eq_getElem?_getD] at this ⊢
      rw [List.getElem?_append_left (by omega), List.getElem?_append_left hi2] at this ⊢
      exact this
    · have e : i + 1 = B.length := by omega
      rw [List.getD_eq_getElem?_getD, List.getD_eq_getElem?_getD] at this ⊢
      rw [List.getElem?_append_left (by omega), List.getElem?_append_right (by omega), e] at this ⊢
      simpa using this
  · rw [List.flatMap_append] at d ⊢
    rw [thick_snoc h32, ← d]
    simp

theorem sg_inv : ∀ (rest done : List Int) (A : List SgR) (run : Bool), Inv done A → (run = true → ∃ B y, A = B ++ [y] ∧ (y.2 - 1).toNat + y.1.length = done.length) → (∀ r ∈ rest, okR r) →
    (∃ A', sgF (A.map toV) done.length run rest = (A'.map toV, 0) ∧ Inv (done ++ rest) A') ∨ (∃ c : Int, sgF (A.map toV) done.length run rest = ([], c) ∧ 1 ≤ c)
  | [], done, A, run, h, _, _ => .inl ⟨A, rfl, by rw [List.append_nil]; exact h⟩
  | r :: rs, done, A, run, h, hr, hok => by
    have hokr := hok r (by simp)
    have hoks : ∀ x ∈ rs, okR x := fun x hx => hok x (by simp [hx])
    have e1 : (done.length : Int) + 1 = ((done ++ [r]).length : Nat) := by simp
    have e2 : done ++ r :: rs = (done ++ [r]) ++ rs := by simp
    have hst : sgF (A.map toV) done.length run (r :: rs) = if kd r = 0 then ([], (done.length : Int) + 1) else if kd r = 97 ∧ run = true then sgF (addLast (A.map toV) (enc r)) ((done.length : Int) + 1) true rs else
      if kd r ≠ 32 then sgF (A.map toV ++ [(enc r, (done.length : Int) + 1)]) ((done.length : Int) + 1) (kd r == 97) rs else sgF (A.map toV) ((done.length : Int) + 1) false rs := rfl
    rw [hst, e2]
    split
    · exact .inr ⟨_, rfl, by omega⟩
    have k32 : kd r ≠ 32 → r ≠ 32 := fun t q => t (by rw [q]; rfl)
    split
    · rename_i hk
      obtain ⟨B, y, rfl, hy⟩ := hr hk.2
      have e3 : addLast ((B ++ [y]).map toV) (enc r) = (B ++ [(y.1 ++ [r], y.2)]).map toV := by
        rw [List.map_append, List.map_singleton, addLast_of, List.map_append, List.map_singleton]
        unfold toV
        dsimp only
        rw [txt_append, txt_one]
      rw [e3, e1]
      refine sg_inv rs (done ++ [r]) _ true (h.longer hy (k32 (by rw [hk.1]; decide)) hokr) (fun _ => ⟨B, _, rfl, ?_⟩) hoks
      simp only [List.length_append, List.length_singleton]
      omega
    split
    · rename_i hk
      have e3 : A.map toV ++ [(enc r, (done.length : Int) + 1)] = (A ++ [([r], (done.length : Int) + 1)]).map toV := by
        rw [List.map_append, List.map_singleton]
        unfold toV
        dsimp only
        rw [txt_one]
      rw [e3, e1]
      have hm := h.more (k32 hk) hokr
      rw [e1] at hm
      refine sg_inv rs (done ++ [r]) _ _ hm (fun _ => ⟨A, _, rfl, ?_⟩) hoks
      simp
    · rename_i hk
      have hk32 : kd r = 32 := by simpa using hk
      have hr32 := kd_32 hk32
      subst hr32
      rw [e1]
      exact sg_inv rs (done ++ [32]) A false h.blank (fun t => by cases t) hoks

theorem Inv.count {done : List Int} {A : List SgR} (h : Inv done A) : A.length ≤ done.length := by
  have h1 : ∀ A : List SgR, (∀ x ∈ A, x.1 ≠ []) → A.length ≤ (A.flatMap (·.1)).length := by
    intro A
    induction A with
    | nil => intro _; simp
    | cons x A ih =>
      intro hx
      have := ih (fun y hy => hx y (by simp [hy]))
      have h2 : 0 < x.1.length := List.length_pos_iff.2 (hx x (by simp))
      rw [List.flatMap_cons, List.length_append, List.length_cons]; omega
  have := h1 A (fun x hx => (h.ok x hx).1)
  rw [h.all] at this
  exact Nat.le_trans this (by unfold thick; exact List.length_filter_le _ _)

theorem rest_head {R : List Int} {n : Nat} {c : Int} {rest : List Int} (h : R.drop n = c :: rest) : R[n]? = some c ∧ R.drop (n + 1) = rest ∧ n < R.length := by
  have h1 : (R.drop n)[0]? = some c := by rw [h]; rfl
  rw [List.getElem?_drop, Nat.add_zero] at h1
  refine ⟨h1, ?_, (List.getElem?_eq_some_iff.1 h1).1⟩
  rw [← List.drop_drop, h]; rfl

theorem places_walk (p0 : ByteArray) (w : World) (h0 : p0.size ≤ maxLen) : Ret Try.prog 10 #[.string p0] w fun r w' => r = .bool true ∧ Fr none1 w w' := by
  obtain ⟨bs, rfl⟩ : ∃ bs, p0 = str bs := ⟨p0.data.toList, (str_of p0).symm⟩
  refine c10 _ w _ ?_
  unfold C10
  refine CallK.of (text1_spec bs 80 w (by omega)) ?_
  rintro _ _ ⟨rfl, rfl⟩
  refine ⟨_, rfl, ?_⟩
  have hR80 : (runesL (bs.take (80 : Int).toNat)).length ≤ 80 := Nat.le_trans (runesL_len _) (by rw [List.length_take]; exact Nat.min_le_left _ _)
  have hRok := okR_runes (bs.take (80 : Int).toNat)
  generalize bs.take (80 : Int).toNat = bt at *
  generalize hRe : runesL bt = R at *
  have hrd : reads R ≤ 1000000 := by
    have : reads R ≤ R.length := by unfold reads; exact (List.takeWhile_sublist _).length_le
    omega
  refine CallK.of (signs_spec bt w (by rw [hRe]; exact hrd)) ?_
  rintro _ w1 ⟨sl, rfl, hsl, f1, slf⟩
  rw [hRe] at hsl ⊢
  refine ⟨((sl.1, sl.2.1, sl.2.2), _, ()), rfl, ?_⟩
  have hI0 : Inv [] [] := ⟨fun x hx => by simp at hx, fun x hx => by simp at hx, fun i hi => by simp at hi, rfl⟩
  rcases sg_inv R [] [] false hI0 (fun t => by cases t) hRok with ⟨A, hA, inv⟩ | ⟨c, hc, hc1⟩
  rotate_left
  · have hc' : sgF [] 0 false R = ([], c) := hc
    rw [hc'] at hsl ⊢
    refine ifB.t (by simp only [bne_iff_ne, ne_eq]; omega) (ifB.t (by have := hsl.len; dsimp only; rw [this]; rfl) (ifB.yes hc1 ?_))
    refine CallK.of (wakes1_spec w1) ?_
    rintro _ w2 ⟨rfl, f2⟩
    exact ⟨_, rfl, rfl, f1.trans f2⟩
  have hA' : sgF [] 0 false R = (A.map toV, 0) := hA
  rw [hA'] at hsl ⊢
  rw [List.nil_append] at inv
  refine ifB.f rfl ?_
  have hsll : sl.2.1 = A.length := by have := hsl.len; simpa using this
  have hAl := inv.count
  dsimp only
  have e0 : (⟨#[]⟩ : ByteArray) = str (txt []) := by rfl
  rw [e0]
  have tot : ∀ i, (txt ((A.take i).flatMap (·.1))).length ≤ 320 := fun i => by
    have h1 := txt_len ((A.take i).flatMap (·.1))
    have h2 : ((A.take i).flatMap (·.1)).length ≤ (A.flatMap (·.1)).length := by
      conv => rhs; rw [← List.take_append_drop i A, List.flatMap_append, List.length_append]
      omega
    rw [inv.all] at h2
    have h3 : (thick R).length ≤ R.length := by unfold thick; exact List.length_filter_le _ _
    omega
  have hAi : ∀ i : Nat, i < A.length → (A.map toV)[i]? = some (toV (A.getD i ([], 0))) := fun i hi => by
    rw [List.getElem?_map, List.getD_eq_getElem?_getD, List.getElem?_eq_getElem hi]; rfl
  have hAm : ∀ i : Nat, i < A.length → A.getD i ([], 0) ∈ A := fun i hi => by
    rw [List.getD_eq_getElem?_getD, List.getElem?_eq_getElem hi]; exact List.getElem_mem _
  refine LoopK.of (fun s w' => 0 ≤ s.2.1 ∧ s.2.1 ≤ A.length ∧ s.1 = str (txt ((A.take s.2.1.toNat).flatMap (·.1))) ∧ Fr none1 w1 w') (fun s _ => (A.length - s.2.1).toNat) ⟨Int.le_refl _, by dsimp only; omega, rfl, Fr.refl _ _⟩ ?_
  rintro _ ⟨s, i, _⟩ w2 ⟨i0, i1, hs, f2⟩
  dsimp only at i0 i1 hs ⊢
  subst hs
  refine ifB.dec (fun hlt => ?_) (fun hge => ?_)
  · refine DrewK.of fun w3 _ f3 => ?_
    have hs3 := (hsl.keep0 f2).keep0 f3
    have hi : i.toNat < A.length := by omega
    refine sg_ld hs3 i0 hlt (hAi _ hi) fun p hp _ _ => hp _ ?_
    have hx := inv.ok _ (hAm _ hi)
    have hat := inv.at_ _ (hAm _ hi)
    rw [bytes_beq]
    refine ifB.no (fun t => ?_) ?_
    · have := str_inj t
      have h1 := txt_len (A.getD i.toNat ([], 0)).1
      have h2 := List.length_pos_iff.2 hx.1
      have h3 : (txt (A.getD i.toNat ([], 0)).1).length = 0 := by
        show (toV (A.getD i.toNat ([], 0))).1.length = 0
        rw [this]; rfl
      omega
    have step : CatK (str (txt ((A.take i.toNat).flatMap (·.1)))) (str (toV (A.getD i.toNat ([], 0))).1) ((0 ≤ IntKind.i64.wrap (i + 1) ∧ IntKind.i64.wrap (i + 1) ≤ A.length ∧ str (txt ((A.take i.toNat).flatMap (·.1))) ++ str (toV (A.getD i.toNat ([], 0))).1 = str (txt ((A.take (IntKind.i64.wrap (i + 1)).toNat).flatMap (·.1))) ∧ Fr none1 w1 w3) ∧ (A.length - IntKind.i64.wrap (i + 1)).toNat < (A.length - i).toNat) := by
      have h1 := tot i.toNat
      have h2 : ((A.take i.toNat).flatMap (·.1)) ++ (A.getD i.toNat ([], 0)).1 = (A.take (i.toNat + 1)).flatMap (·.1) := by
        rw [List.take_succ_eq_append_getElem hi, List.flatMap_append, List.getD_eq_getElem?_getD, List.getElem?_eq_getElem hi]
        simp
      have h3 := tot (i.toNat + 1)
      rw [← h2, txt_append, List.length_append] at h3
      refine cat_ok (by show _ + (txt (A.getD i.toNat ([], 0)).1).length ≤ _; omega) ?_
      rw [wI (x := i + 1) (by omega) (by omega), str_app]
      refine ⟨⟨by omega, by omega, ?_, f2.trans f3⟩, by omega⟩
      rw [show (i + 1).toNat = i.toNat + 1 by omega, ← h2, txt_append]
      rfl
    refine ifB.dec (fun hpos => ?_) (fun hz => ?_)
    · refine sg_ld hs3 i0 hlt (hAi _ hi) fun p _ hp _ => hp _ ?_
      rw [wI (x := i - 1) (by omega) (by omega)]
      refine sg_ld hs3 (i := i - 1) (by omega) (by omega) (hAi _ (by omega)) fun q _ hq _ => hq _ ?_
      refine ifB.no (fun t => ?_) ?_
      · have := inv.up (i - 1).toNat (by omega)
        rw [show (i - 1).toNat + 1 = i.toNat by omega] at this
        have t2 : (A.getD i.toNat ([], 0)).2 ≤ (A.getD (i - 1).toNat ([], 0)).2 := t
        omega
      refine sg_ld hs3 i0 hlt (hAi _ hi) fun p hp _ _ => hp _ step
    · refine sg_ld hs3 i0 hlt (hAi _ hi) fun p hp _ _ => hp _ step
  have hii : i = A.length := by omega
  subst hii
  rw [Int.toNat_natCast, List.take_length, inv.all]
  refine NewK.of fun g w3 hg hgm f3 hs3 => ?_
  have fw3 := (f1.trans f2).trans f3
  refine range_okS bt fun r w4 hr hit f4 => ?_
  rw [hRe] at hit
  have fw4 := fw3.trans f4
  have glt : g < w4.heap.size := by have := f4.size; omega
  have rlt := hit.lt
  have gr : g ≠ r := by omega
  have hs4 : IsSg w4 sl (A.map toV) := ((hsl.keep0 f2).keep0 f3).keep0 f4
  have slt : ∀ k, blkOf sl k → k < g := fun k hk => by have := IsSl.lt (hsl.keep0 f2).sl hk; omega
  have F4 : Fr (fun k => k = g ∨ k = r) w4 w4 := Fr.refl _ _
  refine LoopK.of (fun s w' => ∃ (n : Nat) (M : Int → Option Value), s.2.1 = n ∧ n ≤ R.length ∧ s.1 = str (txt (thick (R.take n))) ∧ IsIt w' r (R.drop n) ∧ IsMap w' g M ∧ (∀ m c, m < n → R[m]? = some c → M ((m : Int) + 1) = some (.string (str (enc c)))) ∧ Fr (fun k => k = g ∨ k = r) w4 w') (fun _ w' => itLen w' r)
    ⟨0, fun _ => none, rfl, by omega, rfl, by rw [List.drop_zero]; exact hit, (IsMap.new hgm).keep f4 (fun t => t), fun m c hm => by omega, F4⟩ ?_
  rintro _ ⟨s, n', _⟩ w5 ⟨n, M, hn, hnR, hs, hit5, hM, hMa, f5⟩
  dsimp only at hn hs ⊢
  subst hn; subst hs
  refine next_ok hit5 (fun c rest' pos w6 hc hok hit6 f6 => ?_) (fun hnil => ?_)
  · obtain ⟨hc1, hc2, hc3⟩ := rest_head hc
    have hM6 := hM.keep f6 (fun t => gr t)
    rw [wI (x := (n : Int) + 1) (by omega) (by omega)]
    obtain ⟨w7, hr7, f7, hs7, hM7⟩ := update_ok (P := Try.prog) (t := 49) hM6 ((n : Int) + 1) (.string (str (enc c))) Try.underlying49 Try.underlying3
    rw [enc_str]
    refine ⟨w7, hr7, ?_⟩
    have hit7 := hit6.keep f7 (fun t => gr (Eq.symm t))
    have fr7 : Fr (fun k => k = g ∨ k = r) w4 w7 := (f5.trans (f6.mono fun _ _ t => .inr t)).trans (f7.mono fun _ _ t => .inl t)
    have hMb : ∀ m d, m < n + 1 → R[m]? = some d → (fun m => if m = (n : Int) + 1 then some (Value.string (str (enc c))) else M m) ((m : Int) + 1) = some (.string (str (enc d))) := fun m d hm hd => by
      dsimp only
      by_cases hmn : m = n
      · subst hmn
        rw [if_pos rfl]
        rw [hc1] at hd; injection hd with hd; rw [hd]
      · rw [if_neg (by omega)]
        exact hMa m d (by omega) hd
    have ml : itLen w7 r < itLen w5 r := by rw [hit7.left, hit5.left, hc]; simp
    have htk : R.take (n + 1) = R.take n ++ [c] := by
      rw [List.take_succ_eq_append_getElem hc3]
      rw [List.getElem?_eq_getElem hc3] at hc1; injection hc1 with hc1; rw [hc1]
    rw [← hc2] at hit7
    have hth : (thick (R.take n)).length ≤ R.length := by
      refine Nat.le_trans (m := (R.take n).length) ?_ (by rw [List.length_take]; omega)
      unfold thick; exact List.length_filter_le _ _
    have htl := txt_len (thick (R.take n))
    have hel := enc_len c
    refine ifB.ne (fun h32 => ?_) (fun h32 => ?_)
    · refine cat_ok (by omega) ?_
      rw [str_app]
      refine ⟨⟨n + 1, _, by omega, by omega, ?_, hit7, hM7, hMb, fr7⟩, ml⟩
      rw [htk, thick_snoc h32, txt_append, txt_one]
    · refine ⟨⟨n + 1, _, by omega, by omega, ?_, hit7, hM7, hMb, fr7⟩, ml⟩
      rw [htk, h32, thick_blank]
  have hnl : n = R.length := by
    have := congrArg List.length hnil
    rw [List.length_drop, List.length_nil] at this
    omega
  subst hnl
  rw [List.take_length]
  have fw5 : Fr none1 w w5 := fw4.comp f5 (fun k hk t => by have := fw3.size; have := (f1.trans f2).size; rcases t with t | t <;> omega)
  have hs5 : IsSg w5 sl (A.map toV) := hs4.keep f5 (fun k hk t => by have := slt k hk; have := f3.size; rcases t with t | t <;> omega)
  have F5 : Fr none1 w5 w5 := Fr.refl _ _
  refine LoopK.of (fun s w' => 0 ≤ s.1 ∧ s.1 ≤ A.length ∧ Fr none1 w5 w') (fun s _ => (A.length - s.1).toNat) ⟨Int.le_refl _, by dsimp only; omega, F5⟩ ?_
  rintro _ ⟨i, _⟩ w6 ⟨i0, i1, f6⟩
  dsimp only at i0 i1 ⊢
  refine ifB.dec (fun hlt => ?_) (fun hge => ?_)
  · have hi : i.toNat < A.length := by omega
    have hs6 := hs5.keep0 f6
    have hx := inv.ok _ (hAm _ hi)
    obtain ⟨b1, b2, b3⟩ := inv.at_ _ (hAm _ hi)
    refine sg_ld hs6 i0 hlt (hAi _ hi) fun p hp _ _ => hp _ ?_
    show RunK Try.prog (Instr.range 9 (.string (str (txt (A.getD i.toNat ([], 0)).1)))) w6 _ _
    refine range_okS _ fun r2 w7 hr2 hit7 f7 => ?_
    rw [runes_txt0 _ hx.2] at hit7
    have F7 : Fr (only r2) w7 w7 := Fr.refl _ _
    have s6 := f6.size
    refine LoopK.of (fun q w' => ∃ k : Nat, q.1 = k ∧ k ≤ (A.getD i.toNat ([], 0)).1.length ∧ IsIt w' r2 ((A.getD i.toNat ([], 0)).1.drop k) ∧ Fr (only r2) w7 w') (fun _ w' => itLen w' r2) ⟨0, rfl, by omega, by rw [List.drop_zero]; exact hit7, F7⟩ ?_
    rintro _ ⟨k', _⟩ w8 ⟨k, hk, hkl, hit8, f8⟩
    dsimp only at hk ⊢
    subst hk
    have fr8 : Fr none1 w5 w8 := (f6.trans f7).comp f8 (fun x hx t => by have : x = r2 := t; omega)
    refine next_ok hit8 (fun c rest' pos w9 hc hok hit9 f9 => ?_) (fun hnil => ?_)
    · obtain ⟨hc1, hc2, hc3⟩ := rest_head hc
      have fr9 : Fr none1 w5 w9 := fr8.comp f9 (fun x hx t => by have : x = r2 := t; omega)
      refine sg_ld (hs5.keep0 fr9) i0 hlt (hAi _ hi) fun p _ hp _ => hp _ ?_
      have hR := b3 k hc3
      rw [hc1] at hR
      have hlt9 := (List.getElem?_eq_some_iff.1 hR).1
      have hMk := hMa _ c hlt9 hR
      have e9 : IntKind.i64.wrap ((toV (A.getD i.toNat ([], 0))).2 + (k : Int)) = ((((A.getD i.toNat ([], 0)).2 - 1).toNat + k : Nat) : Int) + 1 := by
        show IntKind.i64.wrap ((A.getD i.toNat ([], 0)).2 + (k : Int)) = _
        rw [wI (by omega) (by omega)]; omega
      rw [e9]
      have hlk := lookup_ok (P := Try.prog) (t := 49) (.string ByteArray.empty) (hM.keep fr9 (fun t => t)) (((((A.getD i.toNat ([], 0)).2 - 1).toNat + k : Nat) : Int) + 1) false Try.underlying49 Try.underlying3 (by kernel_rfl)
      rw [hMk] at hlk
      refine ⟨str (enc c), w9, hlk, ?_⟩
      rw [enc_str, bytes_beq, decide_eq_true rfl]
      refine ifB.f rfl ?_
      rw [wI (x := (k : Int) + 1) (by omega) (by omega)]
      rw [← hc2] at hit9
      exact ⟨⟨k + 1, by omega, by omega, hit9, f8.trans f9⟩, by rw [hit9.left, hit8.left, hc, hc2]; simp⟩
    · rw [wI (x := i + 1) (by omega) (by omega)]
      exact ⟨⟨by omega, by omega, fr8⟩, by omega⟩
  · rw [bytes_beq]
    refine ifB.yes rfl ?_
    refine CallK.of (wakes1_spec w6) ?_
    rintro _ w7 ⟨rfl, f7⟩
    exact ⟨_, rfl, rfl, (fw5.trans f6).trans f7⟩

end Go.Proofs.Ytejhjjafmobmbaa
