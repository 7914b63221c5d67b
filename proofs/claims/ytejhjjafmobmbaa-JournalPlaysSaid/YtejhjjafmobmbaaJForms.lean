/-
  JournalForms: a record's bytes: its size, itself, and its end: all of them, xor, are 0x96.
  Conditions: none beyond the statement's own.
-/
import Derived.Test.YtejhjjafmobmbaaJFull
import Derived.Test.YtejhjjafmobmbaaVcNest
import Derived.Test.YtejhjjafmobmbaaCJForms
set_option linter.unusedVariables false
namespace Go.Proofs.Ytejhjjafmobmbaa
open Vc

theorem xorI_xor (x c : UInt8) : xorI x (c.toNat : Int) = x ^^^ c := by
  unfold xorI
  apply UInt8.toNat_inj.1
  have h1 : ∀ y : UInt8, (BitVec.ofInt 8 (y.toNat : Int)) = y.toBitVec := fun y => by
    apply BitVec.eq_of_toNat_eq
    rw [BitVec.ofInt_natCast, BitVec.toNat_ofNat, Nat.mod_eq_of_lt (UInt8.toNat_lt _)]
    rfl
  rw [h1, h1, UInt8.toNat_ofNat', Nat.mod_eq_of_lt (BitVec.isLt _)]
  rfl
theorem xorL_cons (a c : UInt8) (bs : List UInt8) : xorL a (c :: bs) = xorL (a ^^^ c) bs := by
  unfold xorL; rw [List.foldl_cons, xorI_xor]
theorem xorL_snoc (a c : UInt8) (bs : List UInt8) : xorL a (bs ++ [c]) = xorL a bs ^^^ c := by
  unfold xorL; rw [List.foldl_append]; simp only [List.foldl_cons, List.foldl_nil, xorI_xor]
theorem xorL_from (a : UInt8) (bs : List UInt8) : xorL a bs = a ^^^ xorL 0 bs := by
  induction bs generalizing a with
  | nil => unfold xorL; simp
  | cons c bs ih => rw [xorL_cons, xorL_cons, ih, ih (0 ^^^ c), UInt8.xor_assoc, UInt8.zero_xor]
theorem xorL_pack (bs : List UInt8) : xorL 0 (packL bs) = 150 := by
  unfold packL
  rw [xorL_snoc, xorL_from 150, ← UInt8.xor_assoc, UInt8.xor_comm (xorL 0 _) 150, UInt8.xor_assoc, UInt8.xor_self, UInt8.xor_zero]

theorem RdB.mid {w : World} {v : Sl} {bs : List UInt8} (h : RdB w v bs) {lo hi : Int} (h0 : 0 ≤ lo) (h1 : lo ≤ hi) (h2 : hi ≤ v.2.1) (hc : v.2.1 ≤ v.2.2) {K : Option Addr → Nat → Nat → Prop}
    (k : ∀ u : Sl, RdB w u ((bs.drop lo.toNat).take (hi - lo).toNat) → u.2.1 ≤ u.2.2 → u.2.1 = (hi - lo).toNat → (∀ k, blkOf u k → blkOf v k) → K u.1 u.2.1 u.2.2) : SubK v.1 v.2.2 lo hi v.2.2 1 K := by
  refine RdSl.mid h h0 h1 h2 hc fun u hu => k u ?_
  unfold RdB; rw [List.map_take, List.map_drop]; exact hu

theorem toByte_nat {z : Int} (h0 : 0 ≤ z) (h1 : z ≤ 255) : ((toByte z).toNat : Int) = z := by
  have := toByte_bc' h0 h1
  unfold bc at this
  injection this with _ h
  omega

theorem RdB.cellAt {w : World} {v : Sl} {bs : List UInt8} (h : RdB w v bs) {i : Int} (h0 : 0 ≤ i) (h1 : i < v.2.1) : ∃ a, v.1 = some a ∧ ∀ w', Fr none1 w w' → w'.cell? (a.add (i.toNat * 1)) = some (.int .u8 ((bs.getD i.toNat 0).toNat : Int)) := by
  have hl := h.len
  obtain ⟨q1, q2, q3⟩ := h
  cases hv : v.1 with
  | none => have := (q2 hv).1; omega
  | some a =>
    refine ⟨a, rfl, fun w' f => f.cell0 ?_⟩
    have := cellsAt_get (bs.map bc) 0 i.toNat (bc (bs.getD i.toNat 0)) (q3 a hv) (by
      rw [List.getElem?_map, List.getElem?_eq_getElem (by omega), List.getD_eq_getElem?_getD, List.getElem?_eq_getElem (by omega)]; rfl)
    rw [Nat.zero_add] at this
    rw [Nat.mul_one]; exact this

theorem forms_walk (a : Option Addr) (len cap : Nat) (z : List (Sl × List Int)) (w : World) (h0 : IsNest .u8 w a len cap z) :
    Ret Try.prog 18 #[.slice a len cap] w fun r w' => r = .bool true ∧ Fr none1 w w' := by
  have hlen := h0.len_le
  refine c18 a len cap w _ ?_
  unfold C18
  refine CallK.of (fnew_spec 4000 w) ?_
  rintro _ w1 ⟨b, rfl, hb, f1, i1⟩
  refine ⟨some ⟨b, 0, none⟩, rfl, ifB.f rfl ?_⟩
  refine CallK.of (open_none i1 rfl rfl) ?_
  rintro _ w2 ⟨p, S, rfl, hp, f2, hS, j2⟩
  refine ⟨(some ⟨p, 0, none⟩, 0, ()), rfl, ifB.f rfl (ifB.f rfl ?_)⟩
  have s01 := f1.size
  have hwp : w.heap.size ≤ p := by omega
  have hq : (newF 4000).quota = 4000 := rfl
  have F0 : Fill w w2 p b 4000 4000 0 := ⟨⟨S, b, newF 4000, [], j2, fun k hk => Nat.le_trans s01 (hS k hk), rfl, rfl, hq, by show ((([] : List UInt8).length : Nat) : Int) = _; simp, rfl, by simp⟩, f1.trans f2⟩
  refine LoopK.of (fun s w' => 0 ≤ s.1 ∧ s.1 ≤ 90 * s.2.1 ∧ 0 ≤ s.2.1 ∧ s.2.1 ≤ 10 ∧ Fill w w' p b 4000 (4000 - s.1) s.2.1) (fun s _ => (10 - s.2.1).toNat) ⟨Int.le_refl _, Int.le_refl _, Int.le_refl _, by dsimp only; omega, F0⟩ ?_
  rintro _ ⟨at_, i, _⟩ w3 ⟨l0, l1, k0, k1, hF⟩
  dsimp only at l0 l1 k0 k1 hF ⊢
  obtain ⟨⟨S3, g3, s, rs, j3, hS3, e1, e2, e3, e4, e5, e6⟩, F3⟩ := id hF
  have done : CallK Try.prog 64 #[] w3 (.v (.one .bool)) (fun (x58 : Bool) w59 => (.bool x58 : Value) = .bool true ∧ Fr none1 w w59) := by
    refine CallK.of (wakes18_spec w3) ?_
    rintro _ w7 ⟨rfl, f7⟩
    exact ⟨_, rfl, rfl, F3.trans f7⟩
  refine ifB.dec (fun hin => ?_) (fun _ => done)
  refine ifB.dec (fun hin2 => ?_) (fun _ => done)
  refine IsNest.ld h0 F3 k0 hin fun u zs hu => ?_
  obtain ⟨ru, cu⟩ := args_rd hu
  generalize (zs.take u.2.1).map toByte = U at ru
  refine CallK.of (cut_spec (v := (u.1, u.2.1, u.2.2)) (ru.keep0 F3) cu (n := 80) (by omega) (by omega)) ?_
  rintro _ w4 ⟨x, rfl, hx, f4, hxf⟩
  refine ⟨x, rfl, ?_⟩
  have hXl : (U.take (80 : Int).toNat).length ≤ 80 := by simp only [List.length_take]; omega
  generalize U.take (80 : Int).toNat = X at hx hXl
  have hxl := hx.len
  have j4 := j3.keep0 f4
  have pl3 := j3.plt
  have bl3 := j3.file.lt
  have sl3 := j3.slt
  have hxo : ∀ k, blkOf x k → k < w4.heap.size ∧ k ≠ p ∧ k ≠ b ∧ ¬ S3 k := fun k hk => by
    have := hxf k hk
    exact ⟨IsSl.lt hx hk, by omega, by omega, fun t => by have := sl3 k t; omega⟩
  have hF4 : ∀ w5, Fr (inJ S3 p b) w4 w5 → Fr none1 w w5 := fun w5 f5 => (F3.trans f4).comp f5 (fun k hk t => by
    rcases t with t | t | t
    · omega
    · omega
    · have := hS3 k t; omega)
  obtain ⟨a1, a2, a3, a4, a5, a6, a7, a8⟩ := putJ_ok (s := s) (x := X) e1 e2 (by omega) (by rw [e3, e4]; omega)
  refine CallK.of (put_spec j4 hx.rd hxo (by omega)) ?_
  rw [a1, a2, a3]
  rintro _ w5 ⟨rfl, f5, S5, g5, hS5, _, j5⟩
  refine ⟨_, rfl, ifB.f rfl ?_⟩
  have F5 := hF4 w5 f5
  have hx5 : IsB w5 x X := hx.keep f5 (fun k hk t => by
    obtain ⟨_, q1, q2, q3⟩ := hxo k hk
    rcases t with t | t | t
    · exact q1 t
    · exact q2 t
    · exact q3 t)
  have hFl : ∀ w6, Fr none1 w5 w6 → Fill w w6 p b 4000 (4000 - (at_ + X.length + 3)) (i + 1) := fun w6 f6 => by
    refine Fill.keep0 ?_ f6
    refine ⟨⟨S5, g5, _, _, j5, fun k hk => ?_, a7, a8, a5.trans e3, ?_, ?_, fun r hr => ?_⟩, F5⟩
    · rcases hS5 k hk with t | t
      · exact hS3 k t
      · exact Nat.le_trans (F3.trans f4).size t
    · rw [a4, List.length_append, packL_len]; omega
    · simp only [List.length_append, if_true, List.length_singleton]; omega
    · simp only [if_true, List.mem_append, List.mem_singleton] at hr
      rcases hr with t | t
      · exact e6 r t
      · rw [t]; omega
  generalize (putJ s false X).1 = s5 at *
  refine CallK.of (fbytes_spec j5.file) ?_
  rintro _ w6 ⟨c, rfl, hc, f6, hcf⟩
  refine ⟨c, rfl, ?_⟩
  rw [a4] at hc
  have hcl := hc.len
  rw [List.length_append, packL_len] at hcl
  have hcc := hc.cap
  have j6 := j5.keep0 f6
  refine RegK.still0 ?_
  rw [wI (x := at_ + (x.2.1 : Int)) (by omega) (by omega), wI (x := at_ + (x.2.1 : Int) + 3) (by omega) (by omega), wI (x := at_ + 1) (by omega) (by omega), wI (x := at_ + 2) (by omega) (by omega), wI (x := at_ + 2 + (x.2.1 : Int)) (by omega) (by omega)]
  refine ifB.f (by simp; omega) ?_
  have hbl : s.b.length = at_.toNat := by omega
  have g0 : (s.b ++ packL X).getD at_.toNat 0 = toByte ((X.length : Int) / 256) := by
    rw [List.getD_eq_getElem?_getD, List.getElem?_append_right (by omega), ← hbl, Nat.sub_self]; rfl
  have g1 : (s.b ++ packL X).getD (at_ + 1).toNat 0 = toByte ((X.length : Int) % 256) := by
    rw [List.getD_eq_getElem?_getD, List.getElem?_append_right (by omega), show (at_ + 1).toNat - s.b.length = 1 by omega]; rfl
  refine AnyK.still0 (s5.synced) (fun w7 f7 => ?_) ?_
  · refine CallK.of (fsynced_spec (j6.keep0 f7).file) ?_
    rintro _ _ ⟨rfl, rfl⟩
    exact ⟨_, rfl, rfl, f7⟩
  refine ifB.f (by rw [a6, List.length_append, packL_len, hcl]; simp) ?_
  obtain ⟨ac, hac, hcell0⟩ := hc.rd.cellAt (i := at_) l0 (by omega)
  obtain ⟨ac', hac', hcell1⟩ := hc.rd.cellAt (i := at_ + 1) (by omega) (by omega)
  rw [g0, toByte_nat (by omega) (by omega)] at hcell0
  rw [g1, toByte_nat (by omega) (by omega)] at hcell1
  refine ⟨ac, hac, l0, by omega, ?_⟩
  refine AnyK.still0 ((X.length : Int) / 256) (fun w7 f7 => LdK.cell (hcell0 w7 f7) ⟨rfl, f7⟩) ?_
  refine AnyK.still0 (IntKind.i64.wrap ((X.length : Int) / 256)) (fun w7 f7 => ⟨rfl, f7⟩) ?_
  refine ⟨ac', hac', by omega, by omega, ?_⟩
  refine AnyK.still0 ((X.length : Int) % 256) (fun w7 f7 => LdK.cell (hcell1 w7 f7) ⟨rfl, f7⟩) ?_
  refine AnyK.still0 (IntKind.i64.wrap ((X.length : Int) % 256)) (fun w7 f7 => ⟨rfl, f7⟩) ?_
  rw [wI (x := (X.length : Int) / 256) (by omega) (by omega), wI (x := (X.length : Int) % 256) (by omega) (by omega), wI (x := (X.length : Int) / 256 * 256) (by omega) (by omega), wI (x := (X.length : Int) / 256 * 256 + (X.length : Int) % 256) (by omega) (by omega)]
  refine ifB.f (by rw [hxl]; simp; omega) ?_
  refine RdB.mid hc.rd (by omega) (by omega) (by omega) hcc fun v hv _ hvl hvb => ?_
  have hvX : ((s.b ++ packL X).drop (at_ + 2).toNat).take (at_ + 2 + (x.2.1 : Int) - (at_ + 2)).toNat = X := by
    rw [show (at_ + 2 + (x.2.1 : Int) - (at_ + 2)).toNat = X.length by omega, show (at_ + 2).toNat = s.b.length + 2 by omega, ← List.drop_drop, List.drop_left]
    show ((packL X).drop 2).take X.length = X
    unfold packL headL
    simp
  rw [hvX] at hv
  refine AnyK.still0 true (fun w7 f7 => ?_) ?_
  · refine CallK.of (same_spec (hv.keep0 f7) ((hx5.keep0 f6).rd.keep0 f7) (by omega)) ?_
    rintro _ w8 ⟨rfl, f8⟩
    exact ⟨true, by rw [decide_eq_true rfl]; rfl, rfl, f7.trans f8⟩
  intro w7 f7
  have f7 : Fr none1 w6 w7 := f7
  refine ifB.f rfl ?_
  refine RdB.mid (hc.rd.keep0 f7) l0 (by omega) (Int.le_refl _) hcc fun y hy _ hyl _ => ?_
  have hyP : ((s.b ++ packL X).drop at_.toNat).take ((c.2.1 : Int) - at_).toNat = packL X := by
    rw [← hbl, List.drop_left, List.take_of_length_le (by rw [packL_len]; omega)]
  rw [hyP] at hy
  have hyl' := hy.len
  rw [packL_len] at hyl'
  refine LoopK.of (fun q w8 => w7 = w8 ∧ 0 ≤ q.2.1 ∧ q.2.1 ≤ y.2.1 ∧ q.1 = ((xorL 0 ((packL X).take q.2.1.toNat)).toNat : Int)) (fun q _ => (y.2.1 - q.2.1).toNat) ⟨rfl, Int.le_refl _, by dsimp only; omega, rfl⟩ ?_
  rintro _ ⟨q, j, _⟩ _ ⟨rfl, j0, j1, hq⟩
  dsimp only at j0 j1 hq ⊢
  refine ifB.dec (fun hlt => ?_) (fun hge => ?_)
  · refine RdB.at hy j0 hlt ?_
    rw [wI (x := j + 1) (by omega) (by omega), hq, xorI_int]
    refine ⟨⟨rfl, by omega, by omega, ?_⟩, by omega⟩
    rw [show (j + 1).toNat = j.toNat + 1 by omega, List.take_succ_eq_append_getElem (by rw [packL_len]; omega)]
    unfold xorL
    rw [List.foldl_append, List.getD_eq_getElem?_getD, List.getElem?_eq_getElem (by rw [packL_len]; omega)]
    rfl
  · rw [List.take_of_length_le (by rw [packL_len]; omega), xorL_pack] at hq
    refine ifB.f (by rw [hq]; rfl) ?_
    rw [wI (x := i + 1) (by omega) (by omega)]
    have hat : (c.2.1 : Int) = at_ + X.length + 3 := by omega
    rw [hat]
    exact ⟨⟨by omega, by omega, by omega, by omega, hFl w7 (f6.trans f7)⟩, by omega⟩

end Go.Proofs.Ytejhjjafmobmbaa
