/-
  FileCuts: a crash keeps all that was synced, and a beginning of the rest, of which the last byte may be spoilt.
  Conditions: none beyond the statement's own.
-/
import Derived.Test.YtejhjjafmobmbaaFQuota
import Derived.Test.YtejhjjafmobmbaaCFCuts
set_option linter.unusedVariables false
namespace Go.Proofs.Ytejhjjafmobmbaa
open Vc

theorem syncF_ok {s : FileS} (hl : s.lit = false) (hd : s.dead = false) : (syncF s).2 = 0 ∧ (syncF s).1.b = s.b ∧ (syncF s).1.quota = s.quota ∧ (syncF s).1.synced = s.b.length ∧ (syncF s).1.lit = false ∧ (syncF s).1.dead = false := by
  unfold syncF stepF
  rw [hl, hd]
  refine ⟨rfl, rfl, rfl, rfl, rfl, rfl⟩

/-- Where the calls of a region come one after another: the world after none, one, two of them. -/
def Chain2 (i j : Nat) (W0 W1 W2 : World) : (Nat → Bool) → World → Prop := fun D w =>
  (D i = false → w = W0) ∧ (D i = true → D j = false → w = W1) ∧ (D j = true → D i = true ∧ w = W2)

theorem upd_self' (D : Nat → Bool) (i : Nat) : upd D i i = true := by unfold upd; simp
theorem upd_ne' (D : Nat → Bool) {i j : Nat} (h : j ≠ i) : upd D i j = D j := by
  unfold upd
  have : Nat.beq j i = false := by rw [← Bool.not_eq_true]; intro t; exact h (Nat.eq_of_beq_eq_true t)
  rw [this]

theorem copy_is {w w1 : World} {v u : Sl} (hr : (Builtin.append_ #[53, 53] 53 #[.slice none 0 0, .slice v.1 v.2.1 v.2.2]).run Try.prog w = .ok (.slice u.1 u.2.1 u.2.2) w1) :
    Ret Try.prog 44 #[.slice v.1 v.2.1 v.2.2] w fun r w' => r = .slice u.1 u.2.1 u.2.2 ∧ w1 = w' := by
  refine c44 v.1 v.2.1 v.2.2 w _ ?_
  exact ⟨u, w1, hr, rfl, rfl⟩

theorem cuts_walk (a : Option Addr) (len cap : Nat) (z : List Int) (a' : Option Addr) (len' cap' : Nat) (z' : List Int) (keep : Int) (sp : Int) (w : World) (h0 : IsInts .u8 w a len cap z) (h1 : IsInts .u8 w a' len' cap' z') (h2 : (Lit.int .i64 keep).wf = true) (h3 : (Lit.int .u8 sp).wf = true) :
    Ret Try.prog 12 #[.slice a len cap, .slice a' len' cap', .int .i64 keep, .int .u8 sp] w fun r w' => r = .bool true ∧ Fr none1 w w' := by
  refine c12 a len cap a' len' cap' keep sp w _ ?_
  unfold C12
  obtain ⟨ra, ca⟩ := args_rd h0
  obtain ⟨rb, cb⟩ := args_rd h1
  generalize (z.take len).map toByte = za at ra
  generalize (z'.take len').map toByte = zb at rb
  refine CallK.of (fnew_spec 1000 w) ?_
  rintro _ w1 ⟨b, rfl, hb, f1, i1⟩
  refine ⟨some ⟨b, 0, none⟩, rfl, ifB.f rfl ?_⟩
  refine CallK.of (cut_spec (v := (a, len, cap)) (ra.keep0 f1) ca (n := 60) (by omega) (by omega)) ?_
  rintro _ w2 ⟨x, rfl, hx, f2, hxf⟩
  refine ⟨x, rfl, ?_⟩
  refine CallK.of (cut_spec (v := (a', len', cap')) ((rb.keep0 f1).keep0 f2) cb (n := 60) (by omega) (by omega)) ?_
  rintro _ w3 ⟨y, rfl, hy, f3, hyf⟩
  refine ⟨y, rfl, ?_⟩
  have hAl : (za.take (60 : Int).toNat).length ≤ 60 := by simp only [List.length_take]; omega
  have hBl : (zb.take (60 : Int).toNat).length ≤ 60 := by simp only [List.length_take]; omega
  generalize za.take (60 : Int).toNat = A at hx hAl
  generalize zb.take (60 : Int).toNat = B at hy hBl
  have hyl := hy.len
  have hx3 := hx.keep0 f3
  have lt1 := i1.lt
  have s12 := f2.size
  have s23 := f3.size
  have i3 := (i1.keep0 f2).keep0 f3
  have hxb : ∀ k, blkOf x k → k ≠ b := fun k hk t => by have := hxf k hk; omega
  have hyb : ∀ k, blkOf y k → k ≠ b := fun k hk t => by have := hyf k hk; omega
  have hq : (newF 1000).quota = 1000 := rfl
  obtain ⟨a1, a2, a3, a4, a5, a6⟩ := appF_ok (s := newF 1000) (x := A) rfl rfl (by rw [hq]; show _ ≤ (1000 : Int) - ((([] : List UInt8).length : Nat) : Int); simp; omega)
  refine CallK.of (fappend_spec i3 hx3.rd (fun t => hxb b t rfl)) ?_
  rintro _ w4 ⟨rfl, f4, g4, _, i4⟩
  rw [a1]
  refine ⟨_, rfl, ifB.f rfl ?_⟩
  have a2' : (appF (newF 1000) A).1.b = A := a2
  rw [hq] at a3
  generalize (appF (newF 1000) A).1 = s1 at *
  clear a2
  obtain ⟨b1, b2, b3, b4, b5, b6⟩ := syncF_ok a5 a6
  refine CallK.of (fsync_spec i4) ?_
  rintro _ w5 ⟨rfl, f5, g5, _, i5⟩
  rw [b1]
  refine ⟨_, rfl, ifB.f rfl ?_⟩
  generalize (syncF s1).1 = s2 at *
  rw [a2'] at b2 b4
  obtain ⟨c1, c2, c3, c4, c5, c6⟩ := appF_ok (s := s2) (x := B) b5 b6 (by rw [b3, a3, b2]; omega)
  have hx5 := (hx3.keep f4 hxb).keep f5 hxb
  have hy5 := (hy.keep f4 hyb).keep f5 hyb
  refine CallK.of (fappend_spec i5 hy5.rd (fun t => hyb b t rfl)) ?_
  rintro _ w6 ⟨rfl, f6, g6, _, i6⟩
  rw [c1]
  refine ⟨_, rfl, ifB.f rfl ?_⟩
  generalize (appF s2 B).1 = s3 at *
  rw [b2] at c2
  rw [b4] at c4
  refine CallK.of (fcrash_spec i6 keep sp) ?_
  rintro _ w7 ⟨rfl, f7, g7, _, i7⟩
  refine ⟨(), rfl, ?_⟩
  have F7 : Fr none1 w w7 := (((((f1.trans f2).trans f3).fresh f4 hb).fresh f5 hb).fresh f6 hb).fresh f7 hb
  have hx7 := (hx5.keep f6 hxb).keep f7 hxb
  have hy7 := (hy5.keep f6 hyb).keep f7 hyb
  obtain ⟨n, hn⟩ : ∃ n : Int, (if (y.2.1 : Int) < (if 0 > keep then 0 else keep) then (y.2.1 : Int) else (if 0 > keep then 0 else keep)) = n := ⟨_, rfl⟩
  have hn0 : 0 ≤ n := by rw [← hn]; repeat' split
                         all_goals omega
  have hn1 : n ≤ B.length := by rw [← hn, ← hyl]; repeat' split
                                all_goals omega
  have hk : crashK s3 keep = A.length + n := by
    unfold crashK
    rw [c2, c4, ← hn, hyl, List.length_append]
    repeat' split
    all_goals omega
  have hlit : (crashF s3 keep sp).dead = false := rfl
  have hsy : (crashF s3 keep sp).synced = A.length + n := hk
  have hbb : (crashF s3 keep sp).b = crashB s3 (A.length + n) sp := by rw [← hk]; rfl
  generalize crashF s3 keep sp = s4 at *
  rw [hn]
  -- the region: the copy, then what goes behind it
  have r0 := drew_fr w7
  generalize hW0 : ({ w7 with drawn := w7.drawn + 1 } : World) = W0 at r0
  obtain ⟨u, W1, hr1, hu, g1, huf⟩ := append_bytes (xs := []) (none_b W0) (hx7.rd.keep0 r0) (by simp; omega)
  have fr1 : Fr none1 W0 W1 := g1.mono (fun k _ ⟨a, ha, _⟩ => by cases ha)
  have huf' : ∀ k, blkOf u k → W0.heap.size ≤ k := fun k hk => by
    rcases huf k hk with ⟨a, ha, _⟩ | t
    · cases ha
    · exact t
  rw [List.nil_append] at hu
  have hy1 : RdB W1 y B := (hy7.rd.keep0 r0).keep0 fr1
  have hsub : RdB W1 (y.1, n.toNat, y.2.2) (B.take n.toNat) := by
    have hcy := hy7.cap
    have := RdB.sub (v := y) (n := n) (K := fun a l c => RdB W1 (a, l, c) (B.take n.toNat)) hy1 hn0 (by omega) hcy (fun t => t)
    obtain ⟨_, _, _, _, t⟩ := this.out
    have e : (if (y.2.2 : Int) = 0 then y.1 else y.1.map (·.add ((0 : Int).toNat * 1))) = y.1 := by
      split
      · rfl
      · cases y.1 with
        | none => rfl
        | some a => simp [Addr.add]
    rw [e, Int.sub_zero, Int.sub_zero, Int.toNat_natCast] at t
    exact t
  obtain ⟨v, W2, hr2, hv, g2, hvf⟩ := append_bytes hu hsub (by simp only [List.length_take]; omega)
  have fr2 : Fr none1 W0 W2 := fr1.comp g2 (fun k hk t => by have := huf' k t; omega)
  have hvf' : ∀ k, blkOf v k → w7.heap.size ≤ k := fun k hk => by
    have := r0.size
    have := fr1.size
    rcases hvf k hk with t | t
    · have := huf' k t; omega
    · omega
  obtain ⟨W, hWd⟩ : ∃ W, W = A ++ B.take n.toNat := ⟨_, rfl⟩
  rw [← hWd] at hv
  have hWl : (W.length : Int) = A.length + n := by rw [hWd]; simp; omega
  have hvl := hv.len
  refine ⟨⟨Chain2 1 5 W0 W1 W2, ⟨fun _ => hW0, (fun t => by cases t), (fun t => by cases t)⟩, ?_⟩⟩
  refine ⟨u, fun D w8 hD _ hC => ?_, ?_⟩
  · obtain ⟨k1, k2, k3⟩ := hC
    obtain rfl := k1 hD
    refine CallK.of (copy_is (v := x) hr1) ?_
    rintro _ _ ⟨rfl, rfl⟩
    refine ⟨u, rfl, rfl, fun t => ?_, fun _ _ => rfl, fun t => ?_⟩
    · rw [upd_self'] at t; cases t
    · rw [upd_ne' _ (by decide)] at t; have := (k3 t).1; rw [hD] at this; cases this
  refine RdB.sub hy7.rd hn0 (by omega) hy7.cap fun _ => ?_
  refine ⟨v, fun D w8 hD hp hC => ?_, ?_⟩
  · obtain ⟨k1, k2, k3⟩ := hC
    obtain rfl := k2 (hp 1 (by simp)) hD
    refine ⟨v, W2, hr2, rfl, fun t => ?_, fun _ t => ?_, fun t => ⟨?_, rfl⟩⟩
    · rw [upd_ne' _ (by decide), hp 1 (by simp)] at t; cases t
    · rw [upd_self'] at t; cases t
    · rw [upd_ne' _ (by decide), hp 1 (by simp)]
  intro w29 hC
  obtain ⟨_, rfl⟩ := hC.2.2 rfl
  have F : Fr none1 w7 w29 := r0.trans fr2
  have i8 := i7.keep0 F
  have fin : ∀ w30 : World, Fr none1 w w30 → IsFile w30 b g7 s4 → IsB w30 v s4.b → s4.b.length = W.length →
      CallK Try.prog 46 #[.pointer (some ⟨b, 0, none⟩)] w30 (.v (.one .slc)) (fun (x44 : Option Addr × Nat × Nat) w45 => CallK Try.prog 45 #[.slice x44.1 x44.2.1 x44.2.2, .slice v.1 v.2.1 v.2.2] w45 (.v (.one .bool)) (fun (x46 : Bool) w47 => ifB x46
  (CallK Try.prog 47 #[.pointer (some ⟨b, 0, none⟩)] w47 (.v (.one (.int .i64))) (fun (x48 : Int) w49 => ifB (x48 == (v.2.1 : Int))
  (CallK Try.prog 48 #[.pointer (some ⟨b, 0, none⟩)] w49 (.v (.one .bool)) (fun (x50 : Bool) w51 => ifB (!x50)
  (CallK Try.prog 49 #[] w51 (.v (.one .bool)) (fun (x52 : Bool) w53 => (.bool x52 : Value) = .bool true ∧ Fr none1 w w53))
  ((.bool false : Value) = .bool true ∧ Fr none1 w w51)))
  ((.bool false : Value) = .bool true ∧ Fr none1 w w49)))
  ((.bool false : Value) = .bool true ∧ Fr none1 w w47))) := fun w30 G i30 hv30 hl => by
    have hl30 := hv30.len
    refine CallK.of (fbytes_spec i30) ?_
    rintro _ w31 ⟨t, rfl, ht, p1, _⟩
    refine ⟨t, rfl, ?_⟩
    refine CallK.of (same_spec ht.rd (hv30.keep0 p1).rd (by omega)) ?_
    rintro _ w32 ⟨rfl, p2⟩
    refine ⟨_, rfl, ifB.t (by simp) ?_⟩
    refine CallK.of (fsynced_spec ((i30.keep0 p1).keep0 p2)) ?_
    rintro _ _ ⟨rfl, rfl⟩
    refine ⟨_, rfl, ifB.t (by rw [hsy, hl30, hl, hWl]; simp) ?_⟩
    refine CallK.of (fdead_spec ((i30.keep0 p1).keep0 p2)) ?_
    rintro _ _ ⟨rfl, rfl⟩
    rw [hlit]
    refine ⟨_, rfl, ifB.t rfl ?_⟩
    refine CallK.of (wakes17_spec w32) ?_
    rintro _ w33 ⟨rfl, p3⟩
    exact ⟨_, rfl, rfl, ((G.trans p1).trans p2).trans p3⟩
  have htk : (A ++ B).take (A.length + n).toNat = W := by
    rw [show (A.length + n).toNat = A.length + n.toNat by omega, List.take_length_add_append, hWd]
  unfold crashB at hbb
  rw [c2, c4, htk] at hbb
  refine ifB.dec (fun hp => ?_) (fun hp => ?_)
  · rw [if_pos (by omega)] at hbb
    have hvl' : (v.2.1 : Int) = A.length + n := by rw [hvl]; exact hWl
    rw [wI (x := (v.2.1 : Int) - 1) (by omega) (by omega)]
    refine RdB.at hv.rd (by omega) (by omega) ?_
    rw [xorI_val]
    refine IsSl.st hv (by omega) (by omega) rfl fun w30 hv30 p0 _ => ?_
    have hg7 := i7.glt
    refine fin w30 ((F7.trans F).comp p0 (fun k hk t => by have := hvf' k t; have := F7.size; omega)) (i8.keep p0 (fun t => by have := hvf' b t; have := i7.lt; omega) (fun t => by have := hvf' g7 t; omega)) ?_ ?_
    · unfold IsB
      have e2 : (A ++ B).getD (A.length + n - 1).toNat 0 = W.getD (A.length + n - 1).toNat 0 := by
        rw [← htk, List.getD_eq_getElem?_getD, List.getD_eq_getElem?_getD, List.getElem?_take_of_lt (by omega)]
      rw [hbb, List.map_set, e2, ← hvl']
      exact hv30
    · rw [hbb]; simp
  · rw [if_neg (by omega)] at hbb
    exact fin w29 (F7.trans F) i8 (by rw [hbb]; exact hv) (by rw [hbb])

end Go.Proofs.Ytejhjjafmobmbaa
