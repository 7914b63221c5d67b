/-
  read.Term, read.Obs: what they make of any text.
  Conditions: a text of a size that there can be.
-/
import Derived.Test.YtlhbfdakceipkaaGreatDoorLexF
import Derived.Test.YtlhbfdakceipkaaGreatDoorCReadG
import Derived.Lib.RuneCount
set_option linter.unusedVariables false
set_option maxRecDepth 100000
namespace Go.Proofs.YtlhbfdakceipkaaGreatDoor
open Vc

/-! ### Plain -/
theorem sgF_cnt : ∀ (R : List Int) (acc : List SignV) (at_ : Int) (run : Bool), (sgF acc at_ run R).1.length ≤ acc.length + 1 + R.length
  | [], acc, at_, run => by show acc.length ≤ _; simp only [List.length_nil]; omega
  | r :: R, acc, at_, run => by
    have h1 := sgF_cnt R (addLast acc (enc r)) (at_ + 1) true
    have h2 := sgF_cnt R (acc ++ [(enc r, at_ + 1)]) (at_ + 1) (kd r == 97)
    have h3 := sgF_cnt R acc (at_ + 1) false
    have e1 : (addLast acc (enc r)).length ≤ acc.length + 1 := by unfold addLast; simp
    simp only [List.length_append, List.length_cons, List.length_nil] at h2 ⊢
    unfold sgF
    split
    · simp
    split
    · omega
    split
    · omega
    · omega
theorem nodesO_toks (o : Ob) : nodesO o ≤ (toksO o).length := by
  induction o <;> simp_all [nodesO, toksO] <;> omega
theorem nodesT_toks (t : Tm) : nodesT t ≤ (toksT t).length := by
  induction t <;> simp_all [nodesT, toksT] <;> (try have := nodesO_toks) <;> first | omega | (rename_i o _ _; have := nodesO_toks o; omega) | (rename_i o _ _ _ _; have := nodesO_toks o; omega)
theorem mem_lenS {x : SignV} {l : List SignV} (h : x ∈ l) : x.1.length ≤ lenS (l.map Prod.fst) := by
  induction l with
  | nil => cases h
  | cons y l ih =>
    have e : lenS ((y :: l).map Prod.fst) = y.1.length + lenS (l.map Prod.fst) := by simp [lenS]
    rw [e]
    rcases List.mem_cons.1 h with rfl | h
    · omega
    · have := ih h; omega
theorem signs_short {bs : List UInt8} (h : bs.length ≤ 1000) : ∀ x ∈ (sgF [] 0 false (runesL bs)).1, x.1.length ≤ 10000 := fun x hx => by
  have h1 := mem_lenS hx
  have h2 := sgF_lenS (runesL bs) [] 0 false
  have h3 := txt_len (runesL bs)
  have h4 := runesL_len bs
  have h5 : lenS ((([] : List SignV)).map Prod.fst) = 0 := rfl
  omega
theorem reads_le (R : List Int) : reads R ≤ R.length := by unfold reads; exact (List.takeWhile_sublist _).length_le

theorem count_runes (s : ByteArray) : ∀ (fuel pos : Nat), s.size - pos ≤ fuel → Lib.runeCountFrom s fuel pos = (runesL (s.data.toList.drop pos)).length
  | 0, pos, h => by
    have : s.data.toList.drop pos = [] := List.drop_eq_nil_of_le (by rw [ba_len]; omega)
    rw [this]; rfl
  | f + 1, pos, h => by
    unfold Lib.runeCountFrom
    by_cases hp : pos < s.size
    · rw [if_pos hp]
      have hne : s.data.toList.drop pos ≠ [] := fun t => by
        have := congrArg List.length t
        rw [List.length_drop, ba_len, List.length_nil] at this; omega
      have hw := decL_width (s.data.toList.drop pos)
      rw [runesL_step _ hne, decL_drop, count_runes s f _ (by omega), List.length_cons, List.drop_drop]
      omega
    · rw [if_neg hp]
      have : s.data.toList.drop pos = [] := List.drop_eq_nil_of_le (by rw [ba_len]; omega)
      rw [this]; rfl

namespace Vc
theorem StsK.one {b i : Nat} {v : Value} {w : World} {K : World → Prop} {cs : Array Value} {T : TypeId} (hb : w.heap[b]? = some (.cells cs T (0, 0))) (hi : i < cs.size) (h1 : one1 v = true)
    (h : ∀ w1, w1.heap[b]? = some (.cells (cs.setIfInBounds i v) T (0, 0)) → Fr (only b) w w1 → w1.heap.size = w.heap.size → K w1) : StsK ((⟨b, 0, none⟩ : Addr).add i) [v] w K := by
  have e : ((⟨b, 0, none⟩ : Addr).add i).add 0 = ⟨b, i, none⟩ := by rw [addr_add, addr_add, Nat.zero_add, Nat.add_zero]
  refine ⟨⟨h1, by rw [e, cell_blk hb]; simp [hi], by rw [e]; exact frozen_blk hb, trivial⟩, ?_⟩
  show K (w.setCell (((⟨b, 0, none⟩ : Addr).add i).add 0) v)
  rw [e]
  exact h _ (heap_setCell_same hb) (setCell_fr _ _ _ _) (by simp [World.setCell])
end Vc

theorem str_eqb (x y : List UInt8) : ((str x).toList == (str y).toList) = (x == y) := by
  rw [str_beq]
  by_cases h : x = y <;> simp [h]
theorem ifB.str {y z : List UInt8} {A B : Prop} (h : y = z → A) (k : y ≠ z → B) : ifB ((str y).toList == (str z).toList) A B := by
  rw [str_beq]; exact ifB.dec h k

/-! ### The reader in memory -/
def rdObj (sl : Sl) (fin a e : Int) : Obj := .cells #[.slice sl.1 sl.2.1 sl.2.2, .int .i64 fin, .int .i64 a, .int .i64 e] 145 (0, 0)
/-- A reader in block b; it and its signs lie below m. -/
def IsRd (w : World) (m b : Nat) (fin : Int) (s : RS) : Prop := ∃ sl : Sl, w.heap[b]? = some (rdObj sl fin s.at_ s.e) ∧ IsSg w sl s.l ∧ (¬ blkOf sl b ∧ b < m ∧ m ≤ w.heap.size ∧ ∀ k, blkOf sl k → k < m) ∧ ∀ x ∈ s.l, x.1.length ≤ 10000
theorem IsRd.lt {w : World} {m b : Nat} {fin : Int} {s : RS} (h : IsRd w m b fin s) : b < m ∧ m ≤ w.heap.size := by
  obtain ⟨sl, hb, _, ⟨_, h1, h2, _⟩, _⟩ := h; exact ⟨h1, h2⟩
theorem IsRd.keep {w w' : World} {m b : Nat} {fin : Int} {s : RS} (h : IsRd w m b fin s) {S : Nat → Prop} (f : Fr S w w') (hn : ∀ k, k < m → ¬ S k) : IsRd w' m b fin s := by
  obtain ⟨sl, hb, hs, ⟨h1, h2, h3, h4⟩, h5⟩ := h
  exact ⟨sl, f.keep hb (hn b h2), hs.keep f (fun k hk => hn k (h4 k hk)), ⟨h1, h2, Nat.le_trans h3 f.size, h4⟩, h5⟩
theorem IsRd.keep0 {w w' : World} {m b : Nat} {fin : Int} {s : RS} (h : IsRd w m b fin s) (f : Fr none1 w w') : IsRd w' m b fin s := h.keep f (fun _ _ t => t)

/-- The slice without its first sign. -/
theorem sg_tail {w : World} {v : Sl} {x : SignV} {l : List SignV} (h : IsSg w v (x :: l)) {K : Option Addr → Nat → Nat → Prop} (k : ∀ u : Sl, IsSg w u l → (∀ j, blkOf u j → blkOf v j) → K u.1 u.2.1 u.2.2) : SubK v.1 v.2.2 1 (v.2.1 : Int) (v.2.2 : Int) 2 K := by
  obtain ⟨hs, hl⟩ := h
  simp only [List.length_cons] at hl
  have e : signCells (x :: l) = [.string (str x.1), .int .i64 x.2] ++ signCells l := rfl
  rcases hs with ⟨rfl, hnil⟩ | ⟨g, off, cs, hv, hb, hle, hc, hn, he⟩
  · dsimp only at hl; omega
  · refine ⟨by omega, by omega, by omega, by omega, ?_⟩
    rw [hv]
    have hlen := signCells_len l
    have hlen2 := signCells_len (x :: l)
    simp only [List.length_cons] at hlen2
    by_cases h1 : (v.2.2 : Int) = 1
    · rw [if_pos h1]
      have : l = [] := List.eq_nil_of_length_eq_zero (by omega)
      subst this
      refine k (some ⟨g, off, none⟩, ((v.2.1 : Int) - 1).toNat, ((v.2.2 : Int) - 1).toNat) ⟨.inr ⟨g, off, cs, rfl, hb, by dsimp only; omega, by dsimp only; omega, ?_, fun i hi => ?_⟩, ?_⟩ (fun j hj => ?_)
      · dsimp only; rw [hlen, List.length_nil]; omega
      · rw [hlen, List.length_nil] at hi; omega
      · dsimp only; rw [List.length_nil]; omega
      · obtain ⟨a, ha, rfl⟩ := hj; injection ha with ha; subst ha; exact ⟨_, hv, rfl⟩
    · rw [if_neg h1]
      have ea : (some (⟨g, off, none⟩ : Addr)).map (·.add (Int.toNat 1 * 2)) = some ⟨g, off + 2, none⟩ := by
        show some ((⟨g, off, none⟩ : Addr).add (1 * 2)) = _
        rw [addr_add]
      rw [ea]
      refine k (some ⟨g, off + 2, none⟩, ((v.2.1 : Int) - 1).toNat, ((v.2.2 : Int) - 1).toNat) ⟨.inr ⟨g, off + 2, cs, rfl, hb, by dsimp only; omega, by dsimp only; omega, ?_, fun i hi => ?_⟩, ?_⟩ (fun j hj => ?_)
      · dsimp only; rw [hlen]; omega
      · rw [hlen] at hi
        have := he (i + 2) (by omega)
        rw [show off + 2 + i = off + (i + 2) by omega, this, e]
        rfl
      · dsimp only; omega
      · obtain ⟨a, ha, rfl⟩ := hj; injection ha with ha; subst ha; exact ⟨_, hv, rfl⟩

theorem rplace_spec {w : World} {m b : Nat} {fin : Int} {s : RS} (h : IsRd w m b fin s) : Ret Tryz.prog 155 #[.pointer (some ⟨b, 0, none⟩)] w fun r w' => r = .int .i64 (placeF fin s) ∧ w = w' := by
  refine c155 _ w _ ?_
  obtain ⟨sl, hb, hs, _⟩ := h
  have hl := hs.len
  refine LdK.fld hb (x := sl) rfl ?_
  unfold placeF
  cases hsl : s.l with
  | nil =>
    rw [hsl] at hl
    refine ifB.no (by rw [hl]; decide) (LdK.fld hb (x := fin) rfl ⟨rfl, rfl⟩)
  | cons x l =>
    rw [hsl] at hl hs
    simp only [List.length_cons] at hl
    refine ifB.yes (by omega) (LdK.fld hb (x := sl) rfl ?_)
    exact sg_ld hs (i := 0) (by omega) (by omega) (x := x) rfl fun a _ k2 _ => k2 _ ⟨rfl, rfl⟩

theorem rfail_spec {w : World} {m b : Nat} {fin : Int} {s : RS} (h : IsRd w m b fin s) (c : Int) : Ret Tryz.prog 115 #[.pointer (some ⟨b, 0, none⟩), .int .i64 c] w fun r w' => r = .tuple #[] ∧ IsRd w' m b fin (failF fin c s) ∧ Fr (only b) w w' := by
  refine c115 _ c w _ ?_
  obtain ⟨sl, hb, hs, hbl, hsz⟩ := id h
  refine LdK.fld hb (x := s.e) rfl ?_
  unfold failF
  refine ifB.eq (fun he => ?_) (fun he => ?_)
  · rw [if_pos he]
    refine CallK.of (rplace_spec h) ?_
    rintro _ _ ⟨rfl, rfl⟩
    refine ⟨_, rfl, ?_⟩
    refine StK.fld hb (by show 0 + 3 < 4; omega) rfl fun w1 hb1 f1 _ => ?_
    refine StK.fld hb1 (by show 0 + 2 < 4; omega) rfl fun w2 hb2 f2 _ => ?_
    have f := f1.trans f2
    exact ⟨rfl, ⟨sl, hb2, hs.keep f (fun k hk t => hbl.1 (by have : k = b := t; rw [← this]; exact hk)), ⟨hbl.1, hbl.2.1, Nat.le_trans hbl.2.2.1 f.size, hbl.2.2.2⟩, hsz⟩, f⟩
  · rw [if_neg he]
    exact ⟨rfl, h, Fr.refl _ _⟩

theorem rtake_spec {w : World} {m b : Nat} {fin : Int} {s : RS} (h : IsRd w m b fin s) (v : Value) (right : List UInt8 → Bool)
    (hr : ∀ x : List UInt8, x.length ≤ 10000 → ∀ K : Bool → World → Prop, (∀ w1, Fr none1 w w1 → K (right x) w1) → callV Tryz.prog v [.string (str x)] (.v (.one .bool)) w K) :
    Ret Tryz.prog 108 #[.pointer (some ⟨b, 0, none⟩), v] w fun r w' => r = .string (str (takeF fin right s).1) ∧ IsRd w' m b fin (takeF fin right s).2 ∧ Fr (only b) w w' := by
  refine c108 _ v w _ ?_
  obtain ⟨sl, hb, hs, hbl, hsz⟩ := id h
  have hl := hs.len
  rcases s with ⟨l, a, e⟩
  dsimp only at hb hs hsz hl
  refine JoinK.of (fun c w' => c.1 = (decide (e = 0) && match l with | [] => true | x :: _ => !right x.1) ∧ Fr none1 w w') ?_ ?_
  · refine LdK.fld hb (x := e) rfl ?_
    refine ifB.eq (fun he => LdK.fld hb (x := sl) rfl ?_) (fun he => ⟨by simp [he], Fr.refl _ _⟩)
    cases l with
    | nil => exact ifB.t (by rw [hl]; rfl) ⟨by simp [he], Fr.refl _ _⟩
    | cons x l =>
      simp only [List.length_cons] at hl
      refine ifB.f (by rw [hl]; exact beq_eq_false_iff_ne.2 (by omega)) (LdK.fld hb (x := sl) rfl ?_)
      refine sg_ld hs (i := 0) (by omega) (by omega) (x := x) rfl fun q k1 _ _ => k1 _ ?_
      exact hr x.1 (hsz x (by simp)) _ fun w1 f1 => ⟨by simp [he], f1⟩
  rintro _ ⟨c, _⟩ w3 ⟨hc, f3⟩
  dsimp only at hc ⊢
  have h3 := h.keep0 f3
  refine ifB.by (fun e1 => ?_) (fun e1 => ?_)
  · rw [e1] at hc
    have hc2 := Bool.and_eq_true_iff.1 hc.symm
    have he : e = 0 := of_decide_eq_true hc2.1
    subst he
    refine CallK.of (rfail_spec h3 2) ?_
    rintro _ w4 ⟨rfl, h4, f4⟩
    refine ⟨(), rfl, ?_⟩
    have ht : takeF fin right ⟨l, a, 0⟩ = ([], failF fin 2 ⟨l, a, 0⟩) := by
      cases l with
      | nil => exact takeF_nil
      | cons x l => exact takeF_miss (by simpa using hc2.2)
    rw [ht]
    obtain ⟨sl4, hb4, h4'⟩ := id h4
    refine LdK.fld hb4 (x := 2) rfl (ifB.t rfl ?_)
    exact ⟨rfl, h4, Fr.of0 f3 f4⟩
  · obtain ⟨sl3, hb3, hs3, hbl3, _⟩ := id h3
    refine LdK.fld hb3 (x := e) rfl ?_
    refine ifB.ne (fun he => ?_) (fun he => ?_)
    · rw [takeF_err (s := ⟨l, a, e⟩) he]
      exact ⟨rfl, h3, Fr.of0 f3 (Fr.refl _ _)⟩
    · subst he
      rw [e1] at hc
      cases l with
      | nil => simp at hc
      | cons x l =>
        have hx : right x.1 = true := by simpa using hc
        rw [takeF_hit hx]
        have hl3 := hs3.len
        simp only [List.length_cons] at hl3
        refine LdK.fld hb3 (x := sl3) rfl ?_
        refine sg_ld hs3 (i := 0) (by omega) (by omega) (x := x) rfl fun q k1 _ _ => k1 _ ?_
        refine LdK.fld hb3 (x := sl3) rfl ?_
        refine sg_tail hs3 fun u hu hub => ?_
        refine StK.fld hb3 (by show 0 + 0 < 4; omega) rfl fun w4 hb4 f4 _ => ?_
        have hub' : ¬ blkOf u b := fun t => hbl3.1 (hub b t)
        exact ⟨rfl, ⟨u, hb4, hu.keep f4 (fun k hk t => hub' (by have : k = b := t; rw [← this]; exact hk)), ⟨hub', hbl3.2.1, Nat.le_trans hbl3.2.2.1 f4.size, fun k hk => hbl3.2.2.2 k (hub k hk)⟩, fun y hy => hsz y (by simp [hy])⟩, Fr.of0 f3 f4⟩

theorem rmust_spec {w : World} {m b : Nat} {fin : Int} {s : RS} (h : IsRd w m b fin s) (x : List UInt8) : Ret Tryz.prog 110 #[.pointer (some ⟨b, 0, none⟩), .string (str x)] w fun r w' => r = .tuple #[] ∧ IsRd w' m b fin (mustF fin x s) ∧ Fr (only b) w w' := by
  refine c110 _ (str x) w _ ?_
  refine NewK.of fun g w1 hg hb1 f1 _ => ?_
  refine CallK.of (rtake_spec (h.keep0 f1) _ (fun y => decide (y = x)) fun y _ K hK => ?_) ?_
  · have hf : Ret Tryz.prog 153 #[.string (str y), .pointer (some ⟨g, 0, none⟩)] w1 fun r w' => r = .bool (decide (y = x)) ∧ w1 = w' := by
      refine c153 (str y) _ w1 _ ?_
      refine LdK.of hb1 (x := str x) rfl ?_
      rw [str_beq]
      exact ⟨rfl, rfl⟩
    refine callV_of (by kernel_rfl) Tryz.func153 (by kernel_rfl) (hf.mono ?_)
    rintro _ _ ⟨rfl, rfl⟩
    exact ⟨_, rfl, hK _ (Fr.refl _ _)⟩
  · rintro _ w2 ⟨rfl, h2, f2⟩
    exact ⟨_, rfl, rfl, h2, Fr.of0 f1 f2⟩

theorem rname_spec' {w : World} {m b : Nat} {fin : Int} {s : RS} (h : IsRd w m b fin s) : Ret Tryz.prog 111 #[.pointer (some ⟨b, 0, none⟩)] w fun r w' => r = .string (str (takeF fin nameL s).1) ∧ IsRd w' m b fin (takeF fin nameL s).2 ∧ Fr (only b) w w' := by
  refine c111 _ w _ ?_
  refine CallK.of (rtake_spec h _ nameL fun y _ K hK => ?_) ?_
  · refine callV_of (by kernel_rfl) Tryz.func145 (by kernel_rfl) ((name_spec y w).mono ?_)
    rintro _ w1 ⟨rfl, f1⟩
    exact ⟨_, rfl, hK w1 f1⟩
  · rintro _ w2 ⟨rfl, h2, f2⟩
    exact ⟨_, rfl, rfl, h2, f2⟩

theorem rword_spec (y : List UInt8) (hl : y.length ≤ 10000) (w : World) : Ret Tryz.prog 131 #[.string (str y)] w fun r w' => r = .bool (wordF' y) ∧ Fr none1 w w' := by
  refine c131 (str y) w _ ?_
  refine CallK.of (number_spec y (by omega) w) ?_
  rintro _ w1 ⟨rfl, f1⟩
  refine ⟨(_, _, ()), rfl, ?_⟩
  unfold wordF'
  refine ifB.by (fun e => ?_) (fun e => ?_)
  · have e : (numF y).2 = true := e
    rw [e]; exact ⟨rfl, f1⟩
  have e : (numF y).2 = false := e
  rw [e, Bool.false_or]
  refine ifB.str (z := [102, 105, 120]) (fun e => ⟨by rw [e]; rfl, f1⟩) (fun e => ?_)
  rw [beq_eq_false_iff_ne.2 e, Bool.false_or]
  refine ifB.str (z := [97, 100, 100]) (fun e => ⟨by rw [e]; rfl, f1⟩) (fun e => ?_)
  rw [beq_eq_false_iff_ne.2 e, Bool.false_or]
  refine ifB.str (z := [110, 101, 103]) (fun e => ⟨by rw [e]; rfl, f1⟩) (fun e => ?_)
  rw [beq_eq_false_iff_ne.2 e, Bool.false_or]
  refine ifB.str (z := [109, 117, 108]) (fun e => ⟨by rw [e]; rfl, f1⟩) (fun e => ?_)
  rw [beq_eq_false_iff_ne.2 e, Bool.false_or, ← str_eqb y [109, 97, 120]]
  exact ⟨rfl, f1⟩

theorem rbegins_spec (y : List UInt8) (w : World) : Ret Tryz.prog 109 #[.string (str y)] w fun r w' => r = .bool (beginsF y) ∧ w = w' := by
  refine c109 (str y) w _ ?_
  unfold beginsF
  refine ifB.str (z := [122, 101, 114, 111]) (fun e => ifB.str (z := [122, 101, 114, 111]) (fun _ => ⟨by rw [e]; rfl, rfl⟩) (fun k => absurd e k)) (fun e => ?_)
  rw [beq_eq_false_iff_ne.2 e, Bool.false_or]
  refine ifB.str (z := [111, 110, 101]) (fun e => ifB.str (z := [111, 110, 101]) (fun _ => ⟨by rw [e]; rfl, rfl⟩) (fun k => absurd e k)) (fun e => ?_)
  rw [beq_eq_false_iff_ne.2 e, Bool.false_or]
  refine ifB.str (z := [103, 105, 118, 101]) (fun e => ifB.str (z := [103, 105, 118, 101]) (fun _ => ⟨by rw [e]; rfl, rfl⟩) (fun k => absurd e k)) (fun e => ?_)
  rw [beq_eq_false_iff_ne.2 e, Bool.false_or]
  refine ifB.str (z := [97, 110, 100]) (fun e => ifB.str (z := [97, 110, 100]) (fun _ => ⟨by rw [e]; rfl, rfl⟩) (fun k => absurd e k)) (fun e => ?_)
  rw [beq_eq_false_iff_ne.2 e, Bool.false_or]
  refine ifB.str (z := [111, 114]) (fun e => ifB.str (z := [111, 114]) (fun _ => ⟨by rw [e]; rfl, rfl⟩) (fun k => absurd e k)) (fun e => ?_)
  rw [beq_eq_false_iff_ne.2 e, Bool.false_or]
  refine ifB.str (z := [115, 99, 97, 108, 101]) (fun e => ifB.str (z := [115, 99, 97, 108, 101]) (fun _ => ⟨by rw [e]; rfl, rfl⟩) (fun k => absurd e k)) (fun e => ?_)
  rw [beq_eq_false_iff_ne.2 e, Bool.false_or]
  refine ifB.str (z := [119, 104, 101, 110]) (fun e => ifB.str (z := [119, 104, 101, 110]) (fun _ => ⟨by rw [e]; rfl, rfl⟩) (fun k => absurd e k)) (fun e => ?_)
  rw [beq_eq_false_iff_ne.2 e, Bool.false_or]
  refine ifB.str (z := [105, 102]) (fun e => ⟨by rw [e]; rfl, rfl⟩) (fun e => ?_)
  rw [beq_eq_false_iff_ne.2 e]
  exact ⟨rfl, rfl⟩

theorem rday1_spec (y : List UInt8) (hl : y.length ≤ 10000) (w : World) : Ret Tryz.prog 154 #[.string (str y)] w fun r w' => r = .bool (dayF y) ∧ Fr none1 w w' := by
  refine c154 (str y) w _ ?_
  refine CallK.of (number_spec y (by omega) w) ?_
  rintro _ w1 ⟨rfl, f1⟩
  refine ⟨(_, _, ()), rfl, ?_⟩
  unfold dayF
  refine ifB.by (fun e => ?_) (fun e => ?_)
  · have e : (numF y).2 = true := e
    rw [e, Bool.true_and]
    refine ifB.dec (fun h => ?_) (fun h => ?_)
    · have h : 0 ≤ (numF y).1 := h
      rw [decide_eq_true h, Bool.true_and]; exact ⟨rfl, f1⟩
    · have h : ¬ 0 ≤ (numF y).1 := h
      rw [decide_eq_false h]; exact ⟨rfl, f1⟩
  · have e : (numF y).2 = false := e
    rw [e]; exact ⟨rfl, f1⟩

theorem rday_spec {w : World} {m b : Nat} {fin : Int} {s : RS} (h : IsRd w m b fin s) : Ret Tryz.prog 114 #[.pointer (some ⟨b, 0, none⟩)] w fun r w' => r = .int .i64 (numF (takeF fin dayF s).1).1 ∧ IsRd w' m b fin (takeF fin dayF s).2 ∧ Fr (only b) w w' := by
  refine c114 _ w _ ?_
  refine CallK.of (rtake_spec h _ dayF fun y hy K hK => ?_) ?_
  · refine callV_of (by kernel_rfl) Tryz.func154 (by kernel_rfl) ((rday1_spec y hy w).mono ?_)
    rintro _ w1 ⟨rfl, f1⟩
    exact ⟨_, rfl, hK w1 f1⟩
  · rintro _ w2 ⟨rfl, h2, f2⟩
    refine ⟨_, rfl, ?_⟩
    have hsz : (takeF fin dayF s).1.length ≤ 100000 := by
      obtain ⟨_, _, _, _, hz⟩ := h
      unfold takeF
      split
      · split
        · simp
        · rename_i x l hl
          split
          · have := hz x (by rw [hl]; simp); dsimp only; omega
          · simp
      · simp
    refine CallK.of (number_spec _ hsz w2) ?_
    rintro _ w3 ⟨rfl, f3⟩
    exact ⟨(_, _, ()), rfl, rfl, h2.keep0 f3, f2.then0 f3⟩

theorem take_short {w : World} {m b : Nat} {fin : Int} {s : RS} (h : IsRd w m b fin s) (right : List UInt8 → Bool) : (takeF fin right s).1.length ≤ 10000 := by
  obtain ⟨_, _, _, _, hz⟩ := h
  unfold takeF
  split
  · split
    · simp
    · rename_i x l hl
      split
      · have := hz x (by rw [hl]; simp); dsimp only; omega
      · simp
  · simp

/-- How deep it is: n more are not too deep. -/
theorem rdeep_spec {w : World} {m b : Nat} {fin : Int} {s : RS} (h : IsRd w m b fin s) (n : Nat) (hn : n ≤ 12) : Ret Tryz.prog 107 #[.pointer (some ⟨b, 0, none⟩), .int .i64 (12 - (n : Int))] w fun r w' =>
    r = .bool (decide (n = 0) || decide (s.e ≠ 0)) ∧ IsRd w' m b fin (if n = 0 then failF fin 5 s else s) ∧ Fr (only b) w w' := by
  refine c107 _ _ w _ ?_
  refine ifB.dec (fun h0 => ?_) (fun h0 => ?_)
  · have : n = 0 := by omega
    subst this
    refine CallK.of (rfail_spec h 5) ?_
    rintro _ w1 ⟨rfl, h1, f1⟩
    refine ⟨(), rfl, ?_⟩
    obtain ⟨sl, hb, _⟩ := id h1
    refine LdK.fld hb (x := (failF fin 5 s).e) rfl ?_
    refine ⟨?_, h1, f1⟩
    have : (failF fin 5 s).e ≠ 0 := by
      unfold failF
      split
      · show (5 : Int) ≠ 0; decide
      · assumption
    rw [show ((failF fin 5 s).e != 0) = true from by simp [this]]; rfl
  · have hn0 : n ≠ 0 := by omega
    obtain ⟨sl, hb, _⟩ := id h
    refine LdK.fld hb (x := s.e) rfl ?_
    refine ⟨?_, by rw [if_neg hn0]; exact h, Fr.refl _ _⟩
    rw [decide_eq_false hn0, Bool.false_or]
    congr 1
    by_cases he : s.e = 0 <;> simp [he]

/-- A struct of one part, behind a bracket: it was put, the bracket taken, the struct read. -/
theorem wrap_ok {w : World} {m b : Nat} {fin : Int} {s : RS} (h : IsRd w m b fin s) (x : List UInt8) {T : TypeId} {zs : List Value} {cks : List Ck} (c : Cs cks) (hl : zs.length = (Cs.vals cks c).length) (h1 : (Cs.vals cks c).all one1 = true) {K : Cs cks → World → Prop}
    (k : ∀ w', IsRd w' m b fin (mustF fin x s) → Fr (only b) w w' → K c w') :
    NewK (.cells zs.toArray T) w fun g w1 => StsK ⟨g, 0, none⟩ (Cs.vals cks c) w1 fun w2 => CallK Tryz.prog 110 #[.pointer (some ⟨b, 0, none⟩), .string (str x)] w2 (.tup []) fun (_ : Unit) w3 => LdsK cks ⟨g, 0, none⟩ w3 fun y => K y w3 := by
  refine ns_ok hl h1 fun g w4 hg hb f => ?_
  have hlt := h.lt
  refine CallK.of (rmust_spec (h.keep0 f) x) ?_
  rintro _ w5 ⟨rfl, h5, f5⟩
  refine ⟨(), rfl, ?_⟩
  refine LdsK.blk (f5.keep hb (fun t => by have : g = b := t; omega)) ?_
  exact k w5 h5 (Fr.of0 f f5)

theorem sub1 (n : Nat) (hn : n + 1 ≤ 12) : IntKind.i64.wrap (12 - ((n + 1 : Nat) : Int) + 1) = 12 - (n : Int) := by
  rw [wI (by omega) (by omega)]; omega

theorem rnumber_spec : ∀ (n : Nat) (hn : n ≤ 12) {w : World} {m b : Nat} {fin : Int} {s : RS} (h : IsRd w m b fin s), Ret Tryz.prog 72 #[.pointer (some ⟨b, 0, none⟩), .int .i64 (12 - (n : Int))] w fun r w' => r = (numR fin n s).1.v ∧ IsRd w' m b fin (numR fin n s).2 ∧ Fr (only b) w w'
  | 0, hn, w, m, b, fin, s, h => by
    refine c72 _ _ w _ ?_
    refine CallK.of (rdeep_spec h 0 hn) ?_
    rintro _ w1 ⟨rfl, h1, f1⟩
    exact ⟨_, rfl, ifB.t rfl ⟨rfl, h1, f1⟩⟩
  | n + 1, hn, w, m, b, fin, s, h => by
    have ih := fun {w : World} {s : RS} (h : IsRd w m b fin s) => rnumber_spec n (by omega) h
    refine c72 _ _ w _ ?_
    refine CallK.of (rdeep_spec h (n + 1) hn) ?_
    rintro _ w1 ⟨rfl, h1, f1⟩
    rw [if_neg (by omega)] at h1
    refine ⟨_, rfl, ?_⟩
    dsimp only
    rw [sub1 n hn]
    unfold numR
    by_cases he : s.e = 0
    case neg =>
      rw [if_pos he]
      exact ifB.t (by simp [he]) ⟨rfl, h1, f1⟩
    rw [if_neg (by simpa using he)]
    refine ifB.f (by simp [he]) ?_
    refine CallK.of (rtake_spec h1 _ wordF' fun y hy K hK => ?_) ?_
    · refine callV_of (by kernel_rfl) Tryz.func131 (by kernel_rfl) ((rword_spec y hy w1).mono ?_)
      rintro _ w2 ⟨rfl, f2⟩
      exact ⟨_, rfl, hK w2 f2⟩
    rintro _ w2 ⟨rfl, h2, f2⟩
    have hsh := take_short h1 wordF'
    refine ⟨_, rfl, ?_⟩
    generalize (takeF fin wordF' s).1 = x at hsh ⊢
    generalize (takeF fin wordF' s).2 = s2 at h2 ⊢
    have f12 := f1.trans f2
    have pair : ∀ {K : Value × Value × Unit → World → Prop}, (∀ w', IsRd w' m b fin (pairF fin (numR fin n) s2).2.2 → Fr (only b) w w' → K ((pairF fin (numR fin n) s2).1.v, (pairF fin (numR fin n) s2).2.1.v, ()) w') →
        CallK Tryz.prog 132 #[.pointer (some ⟨b, 0, none⟩), .int .i64 (12 - (n : Int))] w2 (.tup [.one .raw, .one .raw]) K := fun {K} hK => by
      have hp : Ret Tryz.prog 132 #[.pointer (some ⟨b, 0, none⟩), .int .i64 (12 - (n : Int))] w2 fun r w' => r = .tuple #[(pairF fin (numR fin n) s2).1.v, (pairF fin (numR fin n) s2).2.1.v] ∧ IsRd w' m b fin (pairF fin (numR fin n) s2).2.2 ∧ Fr (only b) w2 w' := by
        refine c132 _ _ w2 _ ?_
        refine CallK.of (rmust_spec h2 [40]) ?_
        rintro _ w3 ⟨rfl, h3, f3⟩
        refine ⟨(), rfl, ?_⟩
        refine CallK.of (ih h3) ?_
        rintro _ w4 ⟨rfl, h4, f4⟩
        refine ⟨_, rfl, ?_⟩
        refine CallK.of (rmust_spec h4 [44]) ?_
        rintro _ w5 ⟨rfl, h5, f5⟩
        refine ⟨(), rfl, ?_⟩
        refine CallK.of (ih h5) ?_
        rintro _ w6 ⟨rfl, h6, f6⟩
        refine ⟨_, rfl, ?_⟩
        refine CallK.of (rmust_spec h6 [41]) ?_
        rintro _ w7 ⟨rfl, h7, f7⟩
        exact ⟨(), rfl, rfl, h7, (((f3.trans f4).trans f5).trans f6).trans f7⟩
      refine CallK.of hp ?_
      rintro _ w3 ⟨rfl, h3, f3⟩
      exact ⟨(_, _, ()), rfl, hK w3 h3 (f12.trans f3)⟩
    refine ifB.str (z := []) (fun e => ?_) (fun e => ?_)
    · rw [if_pos e]; exact ⟨rfl, h2, f12⟩
    rw [if_neg e]
    unfold numK
    refine ifB.str (z := [102, 105, 120]) (fun e => ?_) (fun e => ?_)
    · rw [if_pos e]
      refine CallK.of (rmust_spec h2 [40]) ?_
      rintro _ w3 ⟨rfl, h3, f3⟩
      refine ⟨(), rfl, ?_⟩
      refine CallK.of (rname_spec' h3) ?_
      rintro _ w4 ⟨rfl, h4, f4⟩
      refine ⟨_, rfl, ?_⟩
      exact wrap_ok h4 [41] (zs := [.string (⟨#[]⟩ : ByteArray)]) (cks := [.str]) (str (takeF fin nameL (mustF fin [40] s2)).1, ()) rfl rfl fun w5 h5 f5 => ⟨rfl, h5, ((f12.trans f3).trans f4).trans f5⟩
    rw [if_neg e]
    refine ifB.str (z := [110, 101, 103]) (fun e => ?_) (fun e => ?_)
    · rw [if_pos e]
      refine CallK.of (rmust_spec h2 [40]) ?_
      rintro _ w3 ⟨rfl, h3, f3⟩
      refine ⟨(), rfl, ?_⟩
      refine CallK.of (ih h3) ?_
      rintro _ w4 ⟨rfl, h4, f4⟩
      refine ⟨_, rfl, ⟨Ob.v_cells _, ?_⟩⟩
      exact wrap_ok h4 [41] (zs := [.nilIface]) (cks := [.raw]) ((numR fin n (mustF fin [40] s2)).1.v, ()) rfl (by simp [Cs.vals, Ck.val, Ob.v_one]) fun w5 h5 f5 => ⟨rfl, h5, ((f12.trans f3).trans f4).trans f5⟩
    rw [if_neg e]
    refine ifB.str (z := [97, 100, 100]) (fun e => ?_) (fun e => ?_)
    · rw [if_pos e]
      exact pair fun w3 h3 f3 => ⟨Ob.v_cells _, ⟨Ob.v_cells _, rfl, h3, f3⟩⟩
    rw [if_neg e]
    refine ifB.str (z := [109, 117, 108]) (fun e => ?_) (fun e => ?_)
    · rw [if_pos e]
      exact pair fun w3 h3 f3 => ⟨Ob.v_cells _, ⟨Ob.v_cells _, rfl, h3, f3⟩⟩
    rw [if_neg e]
    refine ifB.str (z := [109, 97, 120]) (fun e => ?_) (fun e => ?_)
    · rw [if_pos e]
      exact pair fun w3 h3 f3 => ⟨Ob.v_cells _, ⟨Ob.v_cells _, rfl, h3, f3⟩⟩
    rw [if_neg e]
    refine CallK.of (number_spec x (by omega) w2) ?_
    rintro _ w3 ⟨rfl, f3⟩
    exact ⟨(_, _, ()), rfl, rfl, h2.keep0 f3, f12.then0 f3⟩

end Go.Proofs.YtlhbfdakceipkaaGreatDoor
