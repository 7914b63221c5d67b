/-
  Texts of this claim, put together: FBack.
  Conditions: those of each theorem.
-/
import Derived.Test.YtdphmcanlhcokaaGreatDoorM4
/-! ### FBack -/
set_option linter.unusedVariables false
set_option maxRecDepth 100000
namespace Go.Proofs.YtdphmcanlhcokaaGreatDoor
open Vc

theorem frM_of (f : FrT) (t : Tm) (he : (frE f).2.2.2.2.2.2.2.1 = t.v) : ∃ m : FrM, m.f = f ∧ m.m.t = t := by
  obtain ⟨e, he1, he2⟩ := evM_of (frE f) t he
  exact ⟨(f.1, f.2.1, f.2.2.1, f.2.2.2.1, f.2.2.2.2.1, f.2.2.2.2.2.1, f.2.2.2.2.2.2.1, e), by unfold FrM.f; dsimp only; rw [he1]; rfl, he2⟩

theorem seal_chk (kb : List UInt8) (X : FrM) : (sealM kb X).2 = checkFr X.f (writeT X.m.t).2 := by
  unfold sealM sealF
  by_cases h : checkFr X.f (writeT X.m.t).2 = 0
  · have hb : (bytesFr X.f (writeT X.m.t).1 (writeT X.m.t).2).2 = 0 := by
      unfold bytesFr; rw [if_neg (fun t => t h)]; split <;> rfl
    rw [if_neg (fun t => t hb)]
    exact h.symm
  · have hb : bytesFr X.f (writeT X.m.t).1 (writeT X.m.t).2 = ([], checkFr X.f (writeT X.m.t).2) := by
      unfold bytesFr; rw [if_pos h]
    rw [hb, if_pos h]
theorem same_frame {m : FrM} {bs : List UInt8} (h : bytesM m = (bs, 0)) : sameP m.m m.m = true := by
  obtain ⟨hc, hb, hp⟩ := bytes_ok h
  by_cases k : m.2.2.2.1 = 1
  · exact sameP_self (m := m.m) (bs := (packM m.m).1) (Prod.ext rfl (hp k))
  · have := none_zero (m := m.m) ((check_fr hc).2.2.2.2.2.2 k)
    rw [this]; rfl

theorem open_spoilt {kb B : List UInt8} {i : Nat} (hi : i < 8) {c : UInt8} (hc : c ≠ (B ++ hedL (sumI kb B)).getD (B.length + i) 0) : openF kb ((B ++ hedL (sumI kb B)).set (B.length + i) c) = (zeroFr, 12) := by
  have hl := hed_len (sumI kb B)
  rw [List.getD_eq_getElem?_getD, List.getElem?_append_right (by omega), Nat.add_sub_cancel_left] at hc
  rw [List.set_append_right _ _ (by omega), Nat.add_sub_cancel_left]
  have hlen : (B ++ (hedL (sumI kb B)).set i c).length = B.length + 8 := by rw [List.length_append, List.length_set, hl]
  have ht : textL (B ++ (hedL (sumI kb B)).set i c) = B := by unfold textL; rw [hlen, Nat.add_sub_cancel, List.take_left]
  have hs : tailL (B ++ (hedL (sumI kb B)).set i c) = (hedL (sumI kb B)).set i c := by unfold tailL; rw [hlen, Nat.add_sub_cancel, List.drop_left]
  unfold openF
  rw [if_neg (by omega), ht, hs]
  refine if_pos fun e => hc ?_
  have h2 : ((hedL (sumI kb B)).set i c)[i]? = some c := by rw [List.getElem?_set_self (by omega)]
  rw [e] at h2
  rw [h2]; rfl
theorem xor_ne (x : UInt8) {p : Int} (hp : BitVec.ofInt 8 p ≠ 0) : UInt8.ofNat (BitVec.ofInt 8 (x.toNat : Int) ^^^ BitVec.ofInt 8 p).toNat ≠ x := by
  intro e
  have h1 : (BitVec.ofInt 8 (x.toNat : Int) ^^^ BitVec.ofInt 8 p) = BitVec.ofInt 8 (x.toNat : Int) := by
    apply BitVec.eq_of_toNat_eq
    have h := (BitVec.ofInt 8 (x.toNat : Int) ^^^ BitVec.ofInt 8 p).isLt
    have h2 := congrArg UInt8.toNat e
    rw [UInt8.toNat_ofNat', Nat.mod_eq_of_lt h] at h2
    rw [h2]
    have := x.toNat_lt
    simp
  refine hp ?_
  have h3 := congrArg (fun t => BitVec.ofInt 8 (x.toNat : Int) ^^^ t) h1
  simpa [← BitVec.xor_assoc] using h3
theorem xorB_val (x : UInt8) (p : Int) : Value.int .u8 (IntKind.u8.wrap ((BitVec.ofInt 8 (x.toNat : Int) ^^^ BitVec.ofInt 8 p).toNat : Int)) = bc (UInt8.ofNat (BitVec.ofInt 8 (x.toNat : Int) ^^^ BitVec.ofInt 8 p).toNat) := by
  have h := (BitVec.ofInt 8 (x.toNat : Int) ^^^ BitVec.ofInt 8 p).isLt
  rw [wB (by omega) (by omega)]
  unfold bc
  rw [UInt8.toNat_ofNat', Nat.mod_eq_of_lt h]
theorem bit_ne {j : Int} (h0 : 0 ≤ j) (h1 : j < 8) : BitVec.ofInt 8 (IntKind.u8.wrap (1 * 2 ^ (min (Int.toNat (IntKind.u64.wrap j)) 8))) ≠ 0 := by
  have : j = 0 ∨ j = 1 ∨ j = 2 ∨ j = 3 ∨ j = 4 ∨ j = 5 ∨ j = 6 ∨ j = 7 := by omega
  rcases this with rfl | rfl | rfl | rfl | rfl | rfl | rfl | rfl <;> decide

set_option maxHeartbeats 8000000 in
theorem back19_walk (a0 : Option Addr) (len0 cap0 : Nat) (z0 : List Int) (p1 : RawV) (p2 : CmV) (p3 : Int) (w : World) (h0 : IsInts .u8 w a0 len0 cap0 z0) (h1 : IsRaw w p1) (h2 : IsCm w p2) (h3 : (Go.Lit.int .i64 p3).wf = true) (ht : TabW w) :
    Ret Tryz.prog 5 #[.slice a0 len0 cap0, .agg (rawL p1).toArray, .agg (cmL p2).toArray, .int .i64 p3] w fun r w' => r = .bool true ∧ Fr none1 w w' := by
  refine c5 a0 len0 cap0 p1 p2 p3 w _ ?_
  unfold C5
  have hhead : 0 ≤ p1.2.2.2.2.2.1 ∧ p1.2.2.2.2.2.1 < 18446744073709551616 := by
    have h4 := h1.2.2.2.2.2.1
    simp [Go.Lit.wf, IntKind.min, IntKind.max, IntKind.signed, IntKind.bits] at h4
    omega
  obtain ⟨hr, hcap⟩ := args_rd h0
  refine NewK.of fun g1 w1 hg1 hb1 f1 hs1 => NewK.of fun g3 w2 hg3 hb3 f2 hs2 => NewK.of fun g5 w3 hg5 hb5 f3 hs3 => ?_
  have hb1 : w1.heap[g1]? = some (.cells (rawL p1).toArray 25 (0, 0)) := hb1
  have hb3 : w2.heap[g3]? = some (.cells (cmL p2).toArray 31 (0, 0)) := hb3
  have hb5 : w3.heap[g5]? = some (.cells (keyL zeroKey).toArray 33 (0, 0)) := hb5
  have F3 := (f1.trans f2).trans f3
  refine key_all ?_
  refine copy_key hb5 (hr.keep0 F3) _ fun r1 w4 hb54 f4 => ?_
  have hk := padK_len ((z0.take len0).map toByte)
  generalize padK ((z0.take len0).map toByte) = kb at *
  have F4 : Fr none1 w w4 := F3.fresh f4 (by have := f1.size; have := f2.size; omega)
  have b14 := f4.keep (f3.keep0 (f2.keep0 hb1)) (fun t => by have : g1 = g5 := t; omega)
  have b34 := f4.keep (f3.keep0 hb3) (fun t => by have : g3 = g5 := t; omega)
  refine LdsK.blk (cks := [.int .i64, .int .i64, .int .i64, .int .i64, .int .i64, .int .u64, .bool, .int .i64, .int .i64, .str]) (x := p1) b14 ?_
  refine LdsK.blk (cks := [.int .i64, .int .i64, .int .i64, .int .i64, .int .i64, .str, .slc, .slc]) (x := p2) b34 ?_
  refine CallK.of (frsome_spec p1 p2 (h2.1.keep0 F4)) ?_
  rintro _ w5 ⟨f, t, v, rfl, he, hz, hn, hsh, hhd, mt, f5⟩
  refine ⟨(f, frR f v, false, ()), rfl, ?_⟩
  obtain ⟨m, rfl, hmt⟩ := frM_of f t he
  subst hmt
  have F5 := F4.trans f5
  refine NewK.of fun g16 w6 hg16 hb16 f6 hs6 => NewK.of fun g18 w7 hg18 hb18 f7 hs7 => ?_
  refine StsK.blk (cs := frL zeroFr.f) (vs := frL m.f) (f7.keep0 hb16) rfl (frM_one m) fun w8 hb168 f8 hs8 => ?_
  refine StsK.blk (cs := frRL (frR zeroFr.f (0, str [], 0, (none, 0, 0), ()))) (vs := frRL (frR m.f v)) (f8.keep hb18 (fun t => by have : g18 = g16 := t; omega)) rfl (frRL_one _) fun w9 hb189 f9 hs9 => ?_
  have s5 := F5.size
  have b169 := f9.keep hb168 (fun t => by have : g16 = g18 := t; omega)
  have F7 := (F5.trans f6).trans f7
  have F9 : Fr none1 w w9 := (F7.fresh f8 (by omega)).fresh f9 (by omega)
  have g5lt := lt_of_blk hb54
  have s45 := f5.size
  have b59 := f9.keep (f8.keep (f7.keep0 (f6.keep0 (f5.keep0 hb54))) (fun t => by have : g5 = g16 := t; omega)) (fun t => by have : g5 = g18 := t; omega)
  have hh : 0 ≤ m.2.2.2.2.2.1 ∧ m.2.2.2.2.2.1 < 18446744073709551616 := by
    have : m.2.2.2.2.2.1 = p1.2.2.2.2.2.1 := hhd
    rw [this]; exact hhead
  refine LdaK.of b59 (by simp [keyL, hk]) (LdsK.blk (cks := FK) (x := m.f) b169 ?_)
  refine CallK.of (fseal_m kb hk m hz (by omega) hh w9 (ht.keep0 F9)) ?_
  rintro _ w10 ⟨b, rfl, hb, f10⟩
  refine ⟨(b, (sealM kb m).2, ()), rfl, ?_⟩
  have F10 := F9.trans f10
  have wk : ∀ wa, Fr none1 w wa → CallK Tryz.prog 10 #[] wa (.v (.one .bool)) (fun (x : Bool) w' => (Value.bool x) = .bool true ∧ Fr none1 w w') := by
    intro wa fa
    refine CallK.of (wakes19_spec wa (ht.keep0 fa)) ?_
    rintro _ w5 ⟨rfl, f5⟩
    exact ⟨_, rfl, rfl, fa.trans f5⟩
  refine ifB.ne (fun hne => ?_) (fun hok => ?_)
  · refine LdsK.blk (cks := FK) (x := m.f) (f10.keep0 b169) ?_
    refine CallK.of (fcheck_m m (by omega) w10 (ht.keep0 F10)) ?_
    rintro _ w11 ⟨rfl, f11⟩
    refine ⟨_, rfl, ifB.t ?_ (wk w11 (F10.trans f11))⟩
    rw [seal_chk]; simp
  obtain ⟨e1, e2⟩ := seal_ok hok
  have hsm := same_frame e1
  have hBl := bytes_len e1
  have hBu : (bytesM m).1.length ≤ 140737488350000 := by
    have hq := (bytes_ok e1).2.1
    have hpl := packF_len m.m.e hz (writeT m.m.t).1 (by have := write_short m.m.t; omega) (writeT m.m.t).2
    have hpl : (packM m.m).1.length ≤ _ := hpl
    rw [hq, List.length_append, top_len]
    split
    · omega
    · simp
  generalize (bytesM m).1 = B at *
  rw [e2] at hb
  have hbl := hb.is.len
  rw [List.length_append, hed_len] at hbl
  refine LdaK.of (f10.keep0 b59) (by simp [keyL, hk]) ?_
  refine CallK.of (fopen_spec kb hk hb.is.rd hb.is.cap (by rw [List.length_append, hed_len]; omega) (ht.keep0 F10)) ?_
  rintro _ w11 ⟨rfl, f11⟩
  rw [open_sealed hh e1]
  refine ⟨(m.f, 0, ()), rfl, ?_⟩
  have F11 := F10.trans f11
  refine NewK.of fun g34 w12 hg34 hb34 f12 hs12 => ?_
  refine StsK.blk (cs := frL zeroFr.f) (vs := frL m.f) hb34 rfl (frM_one m) fun w13 hb13 f13 hs13 => ?_
  have s11 := F11.size
  have F13 : Fr none1 w w13 := (F11.trans f12).fresh f13 (by omega)
  have g16lt := lt_of_blk b169
  have s1011 := (f10.trans f11).size
  have b1613 : w13.heap[g16]? = some (.cells (frL m.f).toArray 38 (0, 0)) := f13.keep (f12.keep0 ((f10.trans f11).keep0 b169)) (fun t => by have : g16 = g34 := t; omega)
  refine JoinK.of (fun st w' => st.1 = false ∧ Fr none1 w13 w') ?_ ?_
  · refine ifB.f (by simp) ?_
    refine LdK.fld hb13 (x := m.1) rfl (LdK.fld b1613 (x := m.1) rfl (ifB.f (by simp) ?_))
    refine LdK.fld hb13 (x := m.2.1) rfl (LdK.fld b1613 (x := m.2.1) rfl (ifB.f (by simp) ?_))
    refine LdK.fld hb13 (x := m.2.2.1) rfl (LdK.fld b1613 (x := m.2.2.1) rfl (ifB.f (by simp) ?_))
    refine LdK.fld hb13 (x := m.2.2.2.1) rfl (LdK.fld b1613 (x := m.2.2.2.1) rfl (ifB.f (by simp) ?_))
    refine LdK.fld hb13 (x := m.2.2.2.2.1) rfl (LdK.fld b1613 (x := m.2.2.2.2.1) rfl (ifB.f (by simp) ?_))
    refine LdK.fld hb13 (x := m.2.2.2.2.2.1) rfl (LdK.fld b1613 (x := m.2.2.2.2.2.1) rfl (ifB.f (by simp) ?_))
    refine LdK.fld hb13 (x := m.2.2.2.2.2.2.1) rfl (LdK.fld b1613 (x := m.2.2.2.2.2.2.1) rfl (ifB.f (by simp) ?_))
    refine fr_ev hb13 (fr_ev b1613 ?_)
    refine CallK.of (esame_spec m.m m.m w13) ?_
    rintro _ w14 ⟨rfl, f14⟩
    refine ⟨_, rfl, ?_⟩
    rw [hsm]
    refine ifB.f rfl ⟨?_, f14⟩
    exact decide_eq_false (show ¬ ((b.2.1 : Int) < 43) by omega)
  rintro _ ⟨st, _⟩ w14 ⟨hst, f14⟩
  dsimp only at hst ⊢
  refine ifB.f hst ?_
  have s12 := f11.size; have s913 := f12.size
  have hb14 : IsB w14 b (B ++ hedL (sumI kb B)) := ((((hb.is.keep0 f11).keep0 f12).keep f13 fun k hk t => by have : k = g34 := t; have := hb.is.lt hk; omega)).keep0 f14
  have b514 : w14.heap[g5]? = some (.cells (keyL kb).toArray 33 (0, 0)) := f14.keep0 (f13.keep (f12.keep0 (f11.keep0 (f10.keep0 b59))) (fun t => by have : g5 = g34 := t; have := lt_of_blk b59; omega))
  have F14 := F13.trans f14
  rw [wI (x := (b.2.1 : Int) - 8) (by omega) (by omega)]
  have en : ((b.2.1 : Int) - 8).toNat = B.length := by omega
  refine RdB.mid hb14.rd (by omega) (by omega) (Int.le_refl _) hb14.cap fun u hu _ _ _ => ?_
  have eT : ((B ++ hedL (sumI kb B)).drop ((b.2.1 : Int) - 8).toNat).take ((b.2.1 : Int) - ((b.2.1 : Int) - 8)).toNat = hedL (sumI kb B) := by
    rw [en, List.drop_left, List.take_of_length_le (by rw [hed_len]; omega)]
  rw [eT] at hu
  refine CallK.of (snumber_spec hu) ?_
  rintro _ _ ⟨rfl, rfl⟩
  have hr := sum_rng kb B
  rw [if_pos (hed_len _), low_hed _ hr.1 hr.2]
  refine ⟨(sumI kb B, decide ((hedL (sumI kb B)).length = 8), ()), rfl, ?_⟩
  refine DrewK.of fun w15 _ f15 => HoldK.of (fun k => k = g5) (ifB.f (by simp [hed_len]) ⟨rfl, LdaK.of (f15.keep0 b514) (by simp [keyL, hk]) ?_⟩)
  have hb15 := hb14.keep0 f15
  refine RdB.sub hb15.rd (by omega) (by omega) hb15.cap fun hT => ?_
  rw [en, List.take_left] at hT
  rw [en]
  refine CallK.of (sip_spec (v := (b.1, B.length, b.2.2)) hk hT (by have := hb15.cap; show B.length ≤ b.2.2; omega) (by omega)) ?_
  rintro _ w16 ⟨rfl, f16⟩
  refine ⟨_, rfl, ifB.f (by simp) ?_⟩
  have hb16 := hb15.keep0 f16
  have F16 := (F14.trans f15).trans f16
  refine DrewK.of fun w17 _ f17 => HoldK.all ⟨by decide, ?_⟩
  have hb17 := hb16.keep0 f17
  have q0 := within_lo p3 8; have q1 := within_hi p3 (show (1 : Int) ≤ 8 by decide)
  refine wthK p3 8 (by decide) ?_
  generalize within p3 8 = q at *
  rw [wI (x := (b.2.1 : Int) - 1) (by omega) (by omega), wI (x := (b.2.1 : Int) - 1 - q) (by omega) (by omega)]
  refine IdxK.ink (fun _ _ => trivial) (RdB.at hb17.rd (by omega) (by omega) (wthK _ 8 (by decide) ?_))
  have j0 := within_lo (IntKind.i64.wrap (p3.tdiv 8)) 8; have j1 := within_hi (IntKind.i64.wrap (p3.tdiv 8)) (show (1 : Int) ≤ 8 by decide)
  generalize within (IntKind.i64.wrap (p3.tdiv 8)) 8 = j at *
  have hju : IntKind.u64.wrap j = j := by simp [IntKind.wrap, IntKind.signed, IntKind.bits]; omega
  refine ⟨by rw [hju]; exact j0, ?_⟩
  rw [xorB_val]
  obtain ⟨i, hi⟩ : ∃ i : Nat, (i : Int) = 7 - q := ⟨(7 - q).toNat, by omega⟩
  have ei : ((b.2.1 : Int) - 1 - q).toNat = B.length + i := by omega
  rw [ei]
  have hcne := xor_ne ((B ++ hedL (sumI kb B)).getD (B.length + i) 0) (bit_ne j0 j1)
  generalize UInt8.ofNat (BitVec.ofInt 8 (((B ++ hedL (sumI kb B)).getD (B.length + i) 0).toNat : Int) ^^^ BitVec.ofInt 8 (IntKind.u8.wrap (1 * 2 ^ (min (Int.toNat (IntKind.u64.wrap j)) 8)))).toNat = c at *
  have hO := open_spoilt (kb := kb) (B := B) (i := i) (by omega) hcne
  refine IsSl.st hb17 (by omega) (by omega) rfl fun w18 hb18 f18 hs18 => ?_
  rw [ei] at hb18
  have hb18 : IsB w18 b ((B ++ hedL (sumI kb B)).set (B.length + i) c) := by unfold IsB; rw [List.map_set]; exact hb18
  have hlo : ∀ k, blkOf b k → w9.heap.size ≤ k := hb.lo
  have g5l := lt_of_blk b59
  have s9 := F9.size
  have F18 : Fr none1 w w18 := (F16.trans f17).comp f18 fun k hk t => by have := hlo k t; omega
  have b518 := f18.keep (f17.keep0 (f16.keep0 (f15.keep0 b514))) (fun t => by have := hlo g5 t; omega)
  refine LdaK.of b518 (by simp [keyL, hk]) ?_
  refine CallK.of (fopen_spec kb hk hb18.rd hb18.cap (by rw [List.length_set, List.length_append, hed_len]; omega) (ht.keep0 F18)) ?_
  rintro _ w19 ⟨rfl, f19⟩
  rw [hO]
  refine ⟨(zeroFr.f, 12, ()), rfl, ?_⟩
  refine NewK.of fun g84 w20 hg84 hb84 f20 hs20 => ?_
  refine StsK.blk (cs := frL zeroFr.f) (vs := frL zeroFr.f) hb84 rfl (frM_one zeroFr) fun w21 hb21 f21 hs21 => ?_
  have F19 := F18.trans f19
  have F21 : Fr none1 w w21 := (F19.trans f20).fresh f21 (by have := F19.size; omega)
  exact ifB.t rfl (wk w21 F21)

end Go.Proofs.YtdphmcanlhcokaaGreatDoor
