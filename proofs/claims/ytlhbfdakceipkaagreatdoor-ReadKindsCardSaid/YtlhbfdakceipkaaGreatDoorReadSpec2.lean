/-
  read.Term, read.Obs: what they make of any text (contracts, the whole text).
  Conditions: a text of a size that there can be.
-/
import Derived.Test.YtlhbfdakceipkaaGreatDoorReadSpec
set_option linter.unusedVariables false
set_option maxRecDepth 100000
namespace Go.Proofs.YtlhbfdakceipkaaGreatDoor
open Vc

theorem one1_nil : one1 .nilIface = true := rfl

theorem rone_of {n : Nat} (ih : ∀ {w : World} {m b : Nat} {fin : Int} {s : RS}, IsRd w m b fin s → Ret Tryz.prog 64 #[.pointer (some ⟨b, 0, none⟩), .int .i64 (12 - (n : Int))] w fun r w' => r = (conR fin n s).1.v ∧ IsRd w' m b fin (conR fin n s).2 ∧ Fr (only b) w w')
    {w : World} {m b : Nat} {fin : Int} {s : RS} (h : IsRd w m b fin s) : Ret Tryz.prog 112 #[.pointer (some ⟨b, 0, none⟩), .int .i64 (12 - (n : Int))] w fun r w' => r = (oneF fin (conR fin n) s).1.v ∧ IsRd w' m b fin (oneF fin (conR fin n) s).2 ∧ Fr (only b) w w' := by
  refine c112 _ _ w _ ?_
  refine CallK.of (ih h) ?_
  rintro _ w1 ⟨rfl, h1, f1⟩
  refine ⟨_, rfl, ?_⟩
  refine CallK.of (rmust_spec h1 [41]) ?_
  rintro _ w2 ⟨rfl, h2, f2⟩
  exact ⟨(), rfl, rfl, h2, f1.trans f2⟩
theorem rboth_of {n : Nat} (ih : ∀ {w : World} {m b : Nat} {fin : Int} {s : RS}, IsRd w m b fin s → Ret Tryz.prog 64 #[.pointer (some ⟨b, 0, none⟩), .int .i64 (12 - (n : Int))] w fun r w' => r = (conR fin n s).1.v ∧ IsRd w' m b fin (conR fin n s).2 ∧ Fr (only b) w w')
    {w : World} {m b : Nat} {fin : Int} {s : RS} (h : IsRd w m b fin s) : Ret Tryz.prog 113 #[.pointer (some ⟨b, 0, none⟩), .int .i64 (12 - (n : Int))] w fun r w' =>
      r = .tuple #[(bothF fin (conR fin n) s).1.v, (bothF fin (conR fin n) s).2.1.v] ∧ IsRd w' m b fin (bothF fin (conR fin n) s).2.2 ∧ Fr (only b) w w' := by
  refine c113 _ _ w _ ?_
  refine CallK.of (ih h) ?_
  rintro _ w1 ⟨rfl, h1, f1⟩
  refine ⟨_, rfl, ?_⟩
  refine CallK.of (rmust_spec h1 [44]) ?_
  rintro _ w2 ⟨rfl, h2, f2⟩
  refine ⟨(), rfl, ?_⟩
  refine CallK.of (ih h2) ?_
  rintro _ w3 ⟨rfl, h3, f3⟩
  refine ⟨_, rfl, ?_⟩
  refine CallK.of (rmust_spec h3 [41]) ?_
  rintro _ w4 ⟨rfl, h4, f4⟩
  exact ⟨(), rfl, rfl, h4, ((f1.trans f2).trans f3).trans f4⟩

theorem rcontract_spec : ∀ (n : Nat) (hn : n ≤ 12) {w : World} {m b : Nat} {fin : Int} {s : RS} (h : IsRd w m b fin s), Ret Tryz.prog 64 #[.pointer (some ⟨b, 0, none⟩), .int .i64 (12 - (n : Int))] w fun r w' => r = (conR fin n s).1.v ∧ IsRd w' m b fin (conR fin n s).2 ∧ Fr (only b) w w'
  | 0, hn, w, m, b, fin, s, h => by
    refine c64 _ _ w _ ?_
    refine CallK.of (rdeep_spec h 0 hn) ?_
    rintro _ w1 ⟨rfl, h1, f1⟩
    exact ⟨_, rfl, ifB.t rfl ⟨rfl, h1, f1⟩⟩
  | n + 1, hn, w, m, b, fin, s, h => by
    have ih := fun {w : World} {m b : Nat} {fin : Int} {s : RS} (h : IsRd w m b fin s) => rcontract_spec n (by omega) h
    refine c64 _ _ w _ ?_
    refine CallK.of (rdeep_spec h (n + 1) hn) ?_
    rintro _ w1 ⟨rfl, h1, f1⟩
    rw [if_neg (by omega)] at h1
    refine ⟨_, rfl, ?_⟩
    dsimp only
    rw [sub1 n hn]
    unfold conR
    by_cases he : s.e = 0
    case neg =>
      rw [if_pos he]
      exact ifB.t (by simp [he]) ⟨rfl, h1, f1⟩
    rw [if_neg (by simpa using he)]
    refine ifB.f (by simp [he]) ?_
    refine CallK.of (rtake_spec h1 _ beginsF fun y hy K hK => ?_) ?_
    · refine callV_of (by kernel_rfl) Tryz.func109 (by kernel_rfl) ((rbegins_spec y w1).mono ?_)
      rintro _ _ ⟨rfl, rfl⟩
      exact ⟨_, rfl, hK w1 (Fr.refl _ _)⟩
    rintro _ w2 ⟨rfl, h2, f2⟩
    refine ⟨_, rfl, ?_⟩
    generalize (takeF fin beginsF s).1 = x
    generalize (takeF fin beginsF s).2 = s1 at h2 ⊢
    have f12 := f1.trans f2
    refine ifB.str (z := []) (fun e => ?_) (fun e => ?_)
    · rw [if_pos e]; exact ⟨rfl, h2, f12⟩
    rw [if_neg e]
    refine ifB.str (z := [122, 101, 114, 111]) (fun e => ?_) (fun e => ?_)
    · rw [if_pos e]; exact ⟨rfl, h2, f12⟩
    rw [if_neg e]
    refine CallK.of (rmust_spec h2 [40]) ?_
    rintro _ w3 ⟨rfl, h3, f3⟩
    refine ⟨(), rfl, ?_⟩
    have f13 := f12.trans f3
    generalize mustF fin [40] s1 = s2 at h3 ⊢
    have hlt := h.lt
    unfold conK
    refine ifB.str (z := [111, 110, 101]) (fun e => ?_) (fun e => ?_)
    · rw [if_pos e]
      refine CallK.of (rname_spec' h3) ?_
      rintro _ w4 ⟨rfl, h4, f4⟩
      refine ⟨_, rfl, ?_⟩
      exact wrap_ok h4 [41] (zs := [.string (⟨#[]⟩ : ByteArray)]) (cks := [.str]) (str (takeF fin nameL s2).1, ()) rfl rfl fun w5 h5 f5 => ⟨rfl, h5, (f13.trans f4).trans f5⟩
    rw [if_neg e]
    refine ifB.str (z := [103, 105, 118, 101]) (fun e => ?_) (fun e => ?_)
    · rw [if_pos e]
      refine CallK.of (rone_of ih h3) ?_
      rintro _ w4 ⟨rfl, h4, f4⟩
      exact ⟨_, rfl, ⟨Tm.v_cells _, rfl, h4, f13.trans f4⟩⟩
    rw [if_neg e]
    refine ifB.str (z := [97, 110, 100]) (fun e => ?_) (fun e => ?_)
    · rw [if_pos e]
      refine CallK.of (rboth_of ih h3) ?_
      rintro _ w4 ⟨rfl, h4, f4⟩
      exact ⟨(_, _, ()), rfl, ⟨Tm.v_cells _, ⟨Tm.v_cells _, rfl, h4, f13.trans f4⟩⟩⟩
    rw [if_neg e]
    refine ifB.str (z := [111, 114]) (fun e => ?_) (fun e => ?_)
    · rw [if_pos e]
      refine CallK.of (rname_spec' h3) ?_
      rintro _ w4 ⟨rfl, h4, f4⟩
      refine ⟨_, rfl, ?_⟩
      generalize (takeF fin nameL s2).1 = y
      generalize (takeF fin nameL s2).2 = s3 at h4 ⊢
      refine ns_ok (zs := [.string (⟨#[]⟩ : ByteArray), .nilIface, .nilIface]) (vs := [.string (str y), .nilIface, .nilIface]) rfl rfl fun g w5 hg hb f5 => ?_
      have hgm : m ≤ g := by have := h4.lt; omega
      have hgb : g ≠ b := by have := h4.lt; omega
      refine CallK.of (rmust_spec (h4.keep0 f5) [44]) ?_
      rintro _ w6 ⟨rfl, h6, f6⟩
      refine ⟨(), rfl, ?_⟩
      refine CallK.of (rboth_of ih h6) ?_
      rintro _ w7 ⟨rfl, h7, f7⟩
      refine ⟨(_, _, ()), rfl, ⟨Tm.v_cells _, ?_⟩⟩
      have hb7 := f7.keep1 (f6.keep1 hb hgb) hgb
      refine StsK.one hb7 (by show 1 < 3; omega) (Tm.v_one _) fun w8 hb8 f8 _ => ⟨Tm.v_cells _, ?_⟩
      refine StsK.one hb8 (by show 2 < 3; omega) (Tm.v_one _) fun w9 hb9 f9 _ => ?_
      refine LdsK.blk (x := (str y, (bothF fin (conR fin n) (mustF fin [44] s3)).1.v, (bothF fin (conR fin n) (mustF fin [44] s3)).2.1.v, ())) hb9 ?_
      have f89 := f8.trans f9
      exact ⟨rfl, h7.keep f89 (fun k hk t => by have : k = g := t; omega), (f13.trans f4).trans ((Fr.of0 f5 (f6.trans f7)).comp f89 fun x hx t => by have : x = g := t; omega)⟩
    rw [if_neg e]
    refine ifB.str (z := [115, 99, 97, 108, 101]) (fun e => ?_) (fun e => ?_)
    · rw [if_pos e]
      refine CallK.of (rnumber_spec n (by omega) h3) ?_
      rintro _ w4 ⟨rfl, h4, f4⟩
      refine ⟨_, rfl, ⟨Ob.v_cells _, ?_⟩⟩
      generalize (numR fin n s2).1 = y
      generalize (numR fin n s2).2 = s3 at h4 ⊢
      refine ns_ok (zs := [.nilIface, .nilIface]) (vs := [y.v, .nilIface]) rfl (by simp [Ob.v_one, one1_nil]) fun g w5 hg hb f5 => ?_
      have hgm : m ≤ g := by have := h4.lt; omega
      have hgb : g ≠ b := by have := h4.lt; omega
      refine CallK.of (rmust_spec (h4.keep0 f5) [44]) ?_
      rintro _ w6 ⟨rfl, h6, f6⟩
      refine ⟨(), rfl, ?_⟩
      refine CallK.of (rone_of ih h6) ?_
      rintro _ w7 ⟨rfl, h7, f7⟩
      refine ⟨_, rfl, ⟨Tm.v_cells _, ?_⟩⟩
      have hb7 := f7.keep1 (f6.keep1 hb hgb) hgb
      refine StsK.one hb7 (by show 1 < 2; omega) (Tm.v_one _) fun w8 hb8 f8 _ => ?_
      refine LdsK.blk (x := (y.v, (oneF fin (conR fin n) (mustF fin [44] s3)).1.v, ())) hb8 ?_
      exact ⟨rfl, h7.keep f8 (fun k hk t => by have : k = g := t; omega), (f13.trans f4).trans ((Fr.of0 f5 (f6.trans f7)).comp f8 fun x hx t => by have : x = g := t; omega)⟩
    rw [if_neg e]
    refine ifB.str (z := [119, 104, 101, 110]) (fun e => ?_) (fun e => ?_)
    · rw [if_pos e]
      refine CallK.of (rday_spec h3) ?_
      rintro _ w4 ⟨rfl, h4, f4⟩
      refine ⟨_, rfl, ?_⟩
      generalize (numF (takeF fin dayF s2).1).1 = y
      generalize (takeF fin dayF s2).2 = s3 at h4 ⊢
      refine ns_ok (zs := [.int .i64 0, .nilIface]) (vs := [.int .i64 y, .nilIface]) rfl rfl fun g w5 hg hb f5 => ?_
      have hgm : m ≤ g := by have := h4.lt; omega
      have hgb : g ≠ b := by have := h4.lt; omega
      refine CallK.of (rmust_spec (h4.keep0 f5) [44]) ?_
      rintro _ w6 ⟨rfl, h6, f6⟩
      refine ⟨(), rfl, ?_⟩
      refine CallK.of (rone_of ih h6) ?_
      rintro _ w7 ⟨rfl, h7, f7⟩
      refine ⟨_, rfl, ⟨Tm.v_cells _, ?_⟩⟩
      have hb7 := f7.keep1 (f6.keep1 hb hgb) hgb
      refine StsK.one hb7 (by show 1 < 2; omega) (Tm.v_one _) fun w8 hb8 f8 _ => ?_
      refine LdsK.blk (x := (y, (oneF fin (conR fin n) (mustF fin [44] s3)).1.v, ())) hb8 ?_
      exact ⟨rfl, h7.keep f8 (fun k hk t => by have : k = g := t; omega), (f13.trans f4).trans ((Fr.of0 f5 (f6.trans f7)).comp f8 fun x hx t => by have : x = g := t; omega)⟩
    rw [if_neg e]
    refine CallK.of (rnumber_spec n (by omega) h3) ?_
    rintro _ w4 ⟨rfl, h4, f4⟩
    refine ⟨_, rfl, ⟨Ob.v_cells _, ?_⟩⟩
    generalize (numR fin n s2).1 = y
    generalize (numR fin n s2).2 = s3 at h4 ⊢
    refine ns_ok (zs := [.nilIface, .nilIface, .nilIface]) (vs := [y.v, .nilIface, .nilIface]) rfl (by simp [Ob.v_one, one1_nil]) fun g w5 hg hb f5 => ?_
    have hgm : m ≤ g := by have := h4.lt; omega
    have hgb : g ≠ b := by have := h4.lt; omega
    refine CallK.of (rmust_spec (h4.keep0 f5) [44]) ?_
    rintro _ w6 ⟨rfl, h6, f6⟩
    refine ⟨(), rfl, ?_⟩
    refine CallK.of (rboth_of ih h6) ?_
    rintro _ w7 ⟨rfl, h7, f7⟩
    refine ⟨(_, _, ()), rfl, ⟨Tm.v_cells _, ?_⟩⟩
    have hb7 := f7.keep1 (f6.keep1 hb hgb) hgb
    refine StsK.one hb7 (by show 1 < 3; omega) (Tm.v_one _) fun w8 hb8 f8 _ => ⟨Tm.v_cells _, ?_⟩
    refine StsK.one hb8 (by show 2 < 3; omega) (Tm.v_one _) fun w9 hb9 f9 _ => ?_
    refine LdsK.blk (x := (y.v, (bothF fin (conR fin n) (mustF fin [44] s3)).1.v, (bothF fin (conR fin n) (mustF fin [44] s3)).2.1.v, ())) hb9 ?_
    have f89 := f8.trans f9
    exact ⟨rfl, h7.keep f89 (fun k hk t => by have : k = g := t; omega), (f13.trans f4).trans ((Fr.of0 f5 (f6.trans f7)).comp f89 fun x hx t => by have : x = g := t; omega)⟩

/-! ### The whole text -/
theorem rcount_spec (bs : List UInt8) (hl : bs.length < 9223372036854775807) (w : World) : Ret Tryz.prog 105 #[.string (str bs)] w fun r w' => r = .int .i64 ((runesL bs).length : Int) ∧ Fr none1 w w' := by
  refine (Tryz.utf8_RuneCountInString (str bs) w (by rw [str_size]; exact hl)).mono ?_
  rintro e w' ⟨rfl, pos, rfl⟩
  refine ⟨_, rfl, ?_, push_fr _ _⟩
  unfold Lib.runeCount
  rw [count_runes _ _ _ (by omega), str_list, List.drop_zero]

theorem rbegin_spec (bs : List UInt8) (hl : bs.length ≤ 1000000000000) (w : World) : Ret Tryz.prog 63 #[.string (str bs)] w fun r w' => ∃ m g : Nat, r = .pointer (some ⟨g, 0, none⟩) ∧ IsRd w' m g (endF bs) (beginF bs) ∧ Fr none1 w w' ∧ w.heap.size ≤ g := by
  refine c63 (str bs) w _ ?_
  refine CallK.of (rcount_spec bs (by omega) w) ?_
  rintro _ w1 ⟨rfl, f1⟩
  refine ⟨_, rfl, ?_⟩
  have hrl := runesL_len bs
  have hfin : IntKind.i64.wrap (((runesL bs).length : Int) + 1) = endF bs := wI (by omega) (by omega)
  refine NewK.of fun g w2 hg hb f2 hs2 => ?_
  rw [hfin] at hb
  have hgw : w.heap.size ≤ g := by have := f1.size; omega
  unfold beginF
  rw [str_size]
  refine ifB.dec (fun h => ?_) (fun h => ?_)
  · rw [if_pos (by omega)]
    refine StK.fld hb (by show 0 + 3 < 4; omega) rfl fun w3 hb3 f3 hs3 => ?_
    exact ⟨g + 1, g, rfl, ⟨(none, 0, 0), hb3, none_sg _, ⟨none_blk _, by omega, by omega, fun k t => (none_blk k t).elim⟩, fun x hx => by cases hx⟩, f1.trans (f2.fresh f3 (by omega)), hgw⟩
  · rw [if_neg (by omega)]
    refine CallK.of (signs_spec bs w2 (by have := reads_le (runesL bs); omega)) ?_
    rintro _ w3 ⟨sl, rfl, hsl, f3, hf⟩
    refine ⟨((sl.1, sl.2.1, sl.2.2), _, ()), rfl, ?_⟩
    have hb3 := f3.keep0 hb
    have hz := signs_short (bs := bs) (by omega)
    have hblk : ¬ blkOf sl g := fun t => by have := hf g t; omega
    have hltm : ∀ k, blkOf sl k → k < w3.heap.size := fun k hk => hsl.sl.lt hk
    refine ifB.dec (fun hp => ?_) (fun hp => ?_)
    · rw [if_pos (show 0 < (sgF [] 0 false (runesL bs)).2 from hp)]
      refine StK.fld hb3 (by show 0 + 3 < 4; omega) rfl fun w4 hb4 f4 hs4 => ?_
      refine StK.fld hb4 (by show 0 + 2 < 4; omega) rfl fun w5 hb5 f5 hs5 => ?_
      refine StK.fld hb5 (by show 0 + 0 < 4; omega) rfl fun w6 hb6 f6 hs6 => ?_
      have f46 := (f4.trans f5).trans f6
      exact ⟨w3.heap.size, g, rfl, ⟨sl, hb6, hsl.keep f46 (fun k hk t => hblk (by have : k = g := t; rw [← this]; exact hk)), ⟨hblk, lt_of_blk hb3, by omega, hltm⟩, hz⟩, f1.trans ((f2.trans f3).fresh f46 (by omega)), hgw⟩
    · rw [if_neg (show ¬ 0 < (sgF [] 0 false (runesL bs)).2 from hp)]
      refine StK.fld hb3 (by show 0 + 0 < 4; omega) rfl fun w4 hb4 f4 hs4 => ?_
      exact ⟨w3.heap.size, g, rfl, ⟨sl, hb4, hsl.keep f4 (fun k hk t => hblk (by have : k = g := t; rw [← this]; exact hk)), ⟨hblk, lt_of_blk hb3, by omega, hltm⟩, hz⟩, f1.trans ((f2.trans f3).fresh f4 (by omega)), hgw⟩

theorem rdone_spec {w : World} {m b : Nat} {fin : Int} {s : RS} (h : IsRd w m b fin s) : Ret Tryz.prog 65 #[.pointer (some ⟨b, 0, none⟩)] w fun r w' => r = .tuple #[] ∧ IsRd w' m b fin (doneF fin s) ∧ Fr (only b) w w' := by
  refine c65 _ w _ ?_
  obtain ⟨sl, hb, hs, _⟩ := id h
  have hl := hs.len
  refine LdK.fld hb (x := sl) rfl ?_
  unfold doneF
  cases hsl : s.l with
  | nil =>
    rw [hsl] at hl
    exact ifB.no (by rw [hl]; decide) ⟨rfl, h, Fr.refl _ _⟩
  | cons x l =>
    rw [hsl] at hl
    simp only [List.length_cons] at hl
    refine ifB.yes (by omega) ?_
    refine CallK.of (rfail_spec h 2) ?_
    rintro _ w1 ⟨rfl, h1, f1⟩
    exact ⟨(), rfl, rfl, h1, f1⟩

theorem con_small {bs : List UInt8} (h : (conS bs).e = 0) : nodesT (conR (endF bs) 12 (beginF bs)).1 ≤ 1000000 := by
  obtain ⟨h1, h2, _⟩ := doneF_ok h
  obtain ⟨i1, _, _⟩ := conR_inv (endF bs) 12 (beginF bs) h1
  obtain ⟨b1, _, b3⟩ := beginF_ok i1.e
  obtain ⟨xs, hx, hxs⟩ := i1.eat
  have h3 := nodesT_toks (conR (endF bs) 12 (beginF bs)).1
  rw [← hxs, List.length_map] at h3
  rw [h2, List.append_nil, b3] at hx
  have h4 := sgF_cnt (runesL bs) [] 0 false
  have h5 := runesL_len bs
  have hx : (sgF [] 0 false (runesL bs)).1 = xs := hx
  rw [hx, List.length_nil] at h4
  omega
theorem num_small {bs : List UInt8} (h : (numS bs).e = 0) : nodesO (numR (endF bs) 12 (beginF bs)).1 ≤ 1000000 := by
  obtain ⟨h1, h2, _⟩ := doneF_ok h
  obtain ⟨i1, _, _⟩ := numR_inv (endF bs) 12 (beginF bs) h1
  obtain ⟨b1, _, b3⟩ := beginF_ok i1.e
  obtain ⟨xs, hx, hxs⟩ := i1.eat
  have h3 := nodesO_toks (numR (endF bs) 12 (beginF bs)).1
  rw [← hxs, List.length_map] at h3
  rw [h2, List.append_nil, b3] at hx
  have h4 := sgF_cnt (runesL bs) [] 0 false
  have h5 := runesL_len bs
  have hx : (sgF [] 0 false (runesL bs)).1 = xs := hx
  rw [hx, List.length_nil] at h4
  omega

theorem rterm_spec (bs : List UInt8) (hl : bs.length ≤ 1000000000000) (w : World) : Ret Tryz.prog 24 #[.string (str bs)] w fun r w' => r = .tuple #[(readT bs).1.v, .int .i64 (readT bs).2.1, .int .i64 (readT bs).2.2] ∧ Fr none1 w w' := by
  refine c24 (str bs) w _ ?_
  refine CallK.of (rbegin_spec bs hl w) ?_
  rintro _ w1 ⟨m, g, rfl, h1, f1, hg⟩
  refine ⟨_, rfl, ?_⟩
  refine CallK.of (rcontract_spec 12 (Nat.le_refl _) h1) ?_
  rintro _ w2 ⟨rfl, h2, f2⟩
  refine ⟨_, rfl, ?_⟩
  refine CallK.of (rdone_spec h2) ?_
  rintro _ w3 ⟨rfl, h3, f3⟩
  refine ⟨(), rfl, ?_⟩
  have f13 : Fr none1 w w3 := f1.fresh (f2.trans f3) hg
  have h3 : IsRd w3 m g (endF bs) (conS bs) := h3
  obtain ⟨sl, hb, _⟩ := id h3
  unfold readT
  refine LdK.fld hb (x := (conS bs).e) rfl ?_
  refine ifB.eq (fun he => ?_) (fun he => ?_)
  · rw [if_neg (fun t => t he)]
    refine CallK.of (tcheck_spec _ (con_small he) w3) ?_
    rintro _ w4 ⟨rfl, f4⟩
    refine ⟨_, rfl, ?_⟩
    refine StK.fld (f4.keep0 hb) (by show 0 + 3 < 4; omega) rfl fun w5 hb5 f5 _ => ?_
    refine LdK.fld hb5 (x := checkT (conR (endF bs) 12 (beginF bs)).1) rfl ?_
    have f15 : Fr none1 w w5 := (f13.trans f4).fresh f5 (by omega)
    refine ifB.ne (fun hc => ?_) (fun hc => ?_)
    · rw [if_pos hc]
      refine DrewK.of fun w6 _ f6 => ?_
      refine LdK.fld (f6.keep0 hb5) (x := (conS bs).at_) rfl (LdK.fld (f6.keep0 hb5) (x := checkT (conR (endF bs) 12 (beginF bs)).1) rfl ?_)
      exact ⟨rfl, f15.trans f6⟩
    · rw [if_neg (fun t => t hc)]
      exact ⟨rfl, f15⟩
  · rw [if_pos he]
    refine LdK.fld hb (x := (conS bs).e) rfl ?_
    refine ifB.ne (fun _ => ?_) (fun hc => absurd hc he)
    refine DrewK.of fun w6 _ f6 => ?_
    refine LdK.fld (f6.keep0 hb) (x := (conS bs).at_) rfl (LdK.fld (f6.keep0 hb) (x := (conS bs).e) rfl ?_)
    exact ⟨rfl, f13.trans f6⟩

theorem robs_spec (bs : List UInt8) (hl : bs.length ≤ 1000000000000) (w : World) : Ret Tryz.prog 28 #[.string (str bs)] w fun r w' => r = .tuple #[(readO bs).1.v, .int .i64 (readO bs).2.1, .int .i64 (readO bs).2.2] ∧ Fr none1 w w' := by
  refine c28 (str bs) w _ ?_
  refine CallK.of (rbegin_spec bs hl w) ?_
  rintro _ w1 ⟨m, g, rfl, h1, f1, hg⟩
  refine ⟨_, rfl, ?_⟩
  refine CallK.of (rnumber_spec 12 (Nat.le_refl _) h1) ?_
  rintro _ w2 ⟨rfl, h2, f2⟩
  refine ⟨_, rfl, ?_⟩
  refine CallK.of (rdone_spec h2) ?_
  rintro _ w3 ⟨rfl, h3, f3⟩
  refine ⟨(), rfl, ?_⟩
  have f13 : Fr none1 w w3 := f1.fresh (f2.trans f3) hg
  have h3 : IsRd w3 m g (endF bs) (numS bs) := h3
  obtain ⟨sl, hb, _⟩ := id h3
  unfold readO
  refine LdK.fld hb (x := (numS bs).e) rfl ?_
  refine ifB.eq (fun he => ?_) (fun he => ?_)
  · rw [if_neg (fun t => t he)]
    refine CallK.of (ocheck_spec _ (num_small he) w3) ?_
    rintro _ w4 ⟨rfl, f4⟩
    refine ⟨_, rfl, ?_⟩
    refine StK.fld (f4.keep0 hb) (by show 0 + 3 < 4; omega) rfl fun w5 hb5 f5 _ => ?_
    refine LdK.fld hb5 (x := checkO (numR (endF bs) 12 (beginF bs)).1) rfl ?_
    have f15 : Fr none1 w w5 := (f13.trans f4).fresh f5 (by omega)
    refine ifB.ne (fun hc => ?_) (fun hc => ?_)
    · rw [if_pos hc]
      refine DrewK.of fun w6 _ f6 => ?_
      refine LdK.fld (f6.keep0 hb5) (x := (numS bs).at_) rfl (LdK.fld (f6.keep0 hb5) (x := checkO (numR (endF bs) 12 (beginF bs)).1) rfl ?_)
      exact ⟨rfl, f15.trans f6⟩
    · rw [if_neg (fun t => t hc)]
      exact ⟨rfl, f15⟩
  · rw [if_pos he]
    refine LdK.fld hb (x := (numS bs).e) rfl ?_
    refine ifB.ne (fun _ => ?_) (fun hc => absurd hc he)
    refine DrewK.of fun w6 _ f6 => ?_
    refine LdK.fld (f6.keep0 hb) (x := (numS bs).at_) rfl (LdK.fld (f6.keep0 hb) (x := (numS bs).e) rfl ?_)
    exact ⟨rfl, f13.trans f6⟩

end Go.Proofs.YtlhbfdakceipkaaGreatDoor
