/-
  Texts of this claim, put together: MakeSpec3, VcPlan, PlanSpec, RefWrite, CRef11P, RefEv, PlainSpec, CSome11, SomeSpec, CReadG, ReadSpec, ReadSpec2, BytesMore, CLend, LendB, CPackT, TakeSpec, CKName, KName, VcCmd.
  Conditions: those of each theorem.
-/
import Derived.Test.YtdphmcanlhcokaaGreatDoorM0
import Derived.Test.YtdphmcanlhcokaaGreatDoorM1
import Derived.Test.YtdphmcanlhcokaaGreatDoorM2
import Derived.ChangeSame
import Derived.ChangeSlices
import Derived.KernelRfl
import Derived.Laws.BytesString
import Derived.Laws.IdiomStrings
import Derived.Lib.Bytes
import Derived.Lib.RuneCount
import Derived.SliceStrings
import Derived.Test.YtdphmcanlhcokaaGreatDoorProg
/-! ### MakeSpec3 -/
set_option linter.unusedVariables false
set_option maxRecDepth 100000
namespace Go.Proofs.YtdphmcanlhcokaaGreatDoor
open Vc

theorem coT_ge (d : Nat) : 4 ≤ coT d := by cases d <;> simp [coT]

theorem mterm_spec : ∀ (d : Nat) {w : World} {m b : Nat} {i : Int} (h : IsMk w m b i) (p1 : Int) (hp : p1 ≤ d) (hp0 : -1000 ≤ p1) (hp2 : p1 ≤ 1000) (hi : 0 ≤ i) (hn : i + coT d ≤ 1000000000),
    Ret Tryz.prog 109 #[.pointer (some ⟨b, 0, none⟩), .int .i64 p1] w fun r w' => ∃ v : TV, r = tvA v ∧ MT w m b i (coT d) v w' := by
  intro d
  induction d using Nat.strongRecOn with
  | _ d IH =>
  intro w m b i h p1 hp hp0 hp2 hi hn
  refine c109 _ p1 w _ ?_
  unfold C109
  have hco := coT_ge d
  have hbm := h.lt
  have hmw := h.le
  refine TB.new fun g1 w1 hg1 tb1 f1 hs1 => ?_
  have a1 := (At.start h).keep0 f1
  refine a1.mkr.left_rd fun x3 => a1.mkr.left_st _ fun w2 a2' => ?_
  have a2 := a1.trans a2'
  have tb2 := tb1.keep a2'.fr (fun t => by have : g1 = b := t; omega)
  refine CallK.of (mn_spec a2.mkr (by omega) 13 (by omega)) ?_
  rintro _ w3 ⟨x5, rfl, hx0, hx9, a3'⟩
  refine ⟨x5, rfl, ?_⟩
  have a3 := a2.trans a3'
  have tb3 := tb2.keep a3'.fr (fun t => by have : g1 = b := t; omega)
  have hx9 := hx9 (by omega)
  refine JoinK.of (fun s w' => 0 ≤ s.1 ∧ s.1 < 13 ∧ (p1 ≤ 0 → s.1 < 3) ∧ w3 = w') ?_ ?_
  · refine JoinK.of (fun s w' => (p1 ≤ 0 → s.1 = true) ∧ w3 = w') ?_ ?_
    · exact ifB.dec (fun _ => ⟨fun _ => rfl, rfl⟩) (fun hp => a3.mkr.left_rd fun x => ⟨fun t => absurd t hp, rfl⟩)
    · rintro _ ⟨c, _⟩ _ ⟨hc, rfl⟩
      dsimp only at hc ⊢
      have hm3 := Int.tmod_eq_emod_of_nonneg (b := (3 : Int)) hx0
      refine ifB.by (fun e => ⟨by omega, ?_⟩) (fun e => ⟨hx0, hx9, fun t => (by rw [hc t] at e; cases e), rfl⟩)
      exact ⟨by omega, by omega, fun _ => by omega, rfl⟩
  rintro _ ⟨k, _⟩ _ ⟨hk0, hk9, hkp, rfl⟩
  dsimp only at hk0 hk9 hkp ⊢
  have hsz3 : w.heap.size ≤ w3.heap.size := a3.size
  have hg3 : g1 < w3.heap.size := lt_of_blk tb3
  have hgb : g1 ≠ b := by omega
  refine TB.put (0, str [], 0, (none, 0, 0), ()) fun g2 w4 hg2 tb4 f4 => ?_
  have hsz4 := f4.size
  have hg24 : g2 < w4.heap.size := lt_of_blk tb4
  have S : Sit w w4 w4 m b g1 g2 i (0 + 0 + 1) (i + 1) (0, str [], 0, (none, 0, 0), ()) := ⟨a3.keep0 f4, tb3.keep0 f4, tb4, by omega, by omega, by omega, by omega, by omega, Nat.le_refl _⟩
  have hB : w.heap.size ≤ w4.heap.size := by omega
  clear tb1 tb2 tb3 tb4 a1 a2 a3 a2' a3' f1 hs1
  -- what a part is
  have ihT : 0 < p1 → ∃ d', coT d = 2 * coT d' + 50 ∧ ∀ {w' : World} {i' : Int}, IsMk w' m b i' → 0 ≤ i' → i' + coT d' ≤ 1000000000 →
      Ret Tryz.prog 109 #[.pointer (some ⟨b, 0, none⟩), .int .i64 (IntKind.i64.wrap (p1 - 1))] w' fun r w'' => ∃ v : TV, r = tvA v ∧ MT w' m b i' (coT d') v w'' := fun hpos => by
    cases d with
    | zero => omega
    | succ d' =>
      refine ⟨d', rfl, fun hmk h0 h1 => ?_⟩
      rw [wI (by omega) (by omega)]
      exact IH d' (by omega) hmk (p1 - 1) (by omega) (by omega) (by omega) h0 h1
  have ihO : 0 < p1 → ∀ {w' : World} {i' : Int}, IsMk w' m b i' → 0 ≤ i' → i' + 34 ≤ 1000000000 →
      Ret Tryz.prog 143 #[.pointer (some ⟨b, 0, none⟩), .int .i64 (if 2 < IntKind.i64.wrap (p1 - 1) then 2 else IntKind.i64.wrap (p1 - 1))] w' fun r w'' => ∃ v : TV, r = tvA v ∧ MO w' m b i' 34 v w'' := fun hpos {w' i'} hmk h0 h1 => by
    rw [wI (by omega) (by omega)]
    by_cases h2 : 2 < p1 - 1
    · rw [if_pos h2]
      exact mobs_spec 2 hmk 2 (by omega) (by omega) (by omega) h0 (by show i' + 34 ≤ _; omega)
    · rw [if_neg h2]
      exact mobs_spec 2 hmk (p1 - 1) (by omega) (by omega) (by omega) h0 (by show i' + 34 ≤ _; omega)
  refine JoinK.of (fun s w' => (s.1 = true ↔ k = 0 ∨ k = 1) ∧ w4 = w') ?_ ?_
  · exact ifB.eq (fun e => ⟨by simp [e], rfl⟩) (fun e => ⟨by simp [e], rfl⟩)
  rintro _ ⟨c, _⟩ _ ⟨hc, rfl⟩
  dsimp only at hc ⊢
  refine ifB.by (fun e => ?_) (fun e => ?_)
  · -- a currency
    refine words_lit [[117, 115, 100], [101, 117, 114], [103, 98, 112]] (by decide) fun u w5 hu f5 hf5 => ?_
    have S5 := S.keep0 f5
    refine CallK.of (mword_spec S5.at_.mkr (by omega) hu (by decide) (by decide) (fun k hk => by have := hf5 k hk; omega)) ?_
    rintro _ w6 ⟨s, rfl, hsl, a6⟩
    refine ⟨_, rfl, ?_⟩
    have S6 := S5.go a6
    refine S6.t2.k 2 fun w7 t7 f7 => ?_
    have S7 := S6.set f7 t7
    refine S7.t2.s (str s) fun w8 t8 f8 => ?_
    have S8 := S7.set f8 t8
    exact S8.tell (by omega) hB (t := .one s) (leaf_made _ _ 2 s 0) (by show 1 ≤ coT d; omega) hsl
  have hk01 : ¬ (k = 0 ∨ k = 1) := fun t => by rw [hc.2 t] at e; cases e
  clear hc e
  refine ifB.eq (fun e2 => ?_) (fun e2 => ?_)
  · refine S.t2.k 1 fun w7 t7 f7 => ?_
    exact (S.set f7 t7).tell (by omega) hB (t := .zero) (leaf_made _ _ 1 [] 0) (by show 1 ≤ coT d; omega) trivial
  have hpos : 0 < p1 := by
    refine Classical.byContradiction fun hno => ?_
    have := hkp (by omega); omega
  obtain ⟨d', hd', ihT⟩ := ihT hpos
  have ihO := @ihO hpos
  refine JoinK.of (fun s w' => (s.1 = true ↔ k = 3 ∨ k = 4) ∧ w4 = w') ?_ ?_
  · exact ifB.eq (fun e => ⟨by simp [e], rfl⟩) (fun e => ⟨by simp [e], rfl⟩)
  rintro _ ⟨c, _⟩ _ ⟨hc, rfl⟩
  dsimp only at hc ⊢
  refine ifB.by (fun e => ?_) (fun e => ?_)
  · -- give
    refine CallK.of (ihT S.at_.mkr (by omega) (by omega)) ?_
    rintro _ w5 ⟨x, rfl, t, i5, hm, hno, hso, a5⟩
    refine ⟨x, rfl, ?_⟩
    have S5 := S.go a5
    refine tr_lit [x] (by show 1 ≤ 3; omega) fun u w6 hu hul f6 hf6 => ?_
    have S6 := S5.keep0 f6
    have m6 : MadeL w4 w6 [trT t] [x] := made1 (hm.keep0 f6)
    have hk : ∀ k, blkOf u k → ¬ only g2 k := fun k hk t => by have : k = g2 := t; have := hf6 k hk; have := S5.B; omega
    refine S6.t2.k 3 fun w7 t7 f7 => ?_
    have S7 := S6.set f7 t7
    have m7 := m6.set S6 f7
    refine S7.t2.u u fun w8 t8 f8 => ?_
    have S8 := S7.set f8 t8
    have m8 := m7.set S7 f8
    exact S8.tell (by omega) hB (t := .give t) (node_made 3 [] 0 ((hu.keep f7 hk).keep f8 hk) hul (fun k hk => by have := hf6 k hk; have := S5.B; omega) m8) (by unfold nodesT; omega) hso
  have hk34 : ¬ (k = 3 ∨ k = 4) := fun t => by rw [hc.2 t] at e; cases e
  clear hc e
  refine JoinK.of (fun s w' => (s.1 = true ↔ k = 5 ∨ k = 6) ∧ w4 = w') ?_ ?_
  · exact ifB.eq (fun e => ⟨by simp [e], rfl⟩) (fun e => ⟨by simp [e], rfl⟩)
  rintro _ ⟨c, _⟩ _ ⟨hc, rfl⟩
  dsimp only at hc ⊢
  refine ifB.by (fun e => ?_) (fun e => ?_)
  · -- and
    refine CallK.of (ihT S.at_.mkr (by omega) (by omega)) ?_
    rintro _ w5 ⟨x, rfl, t, i5, hm, hno, hso, a5⟩
    refine ⟨x, rfl, ?_⟩
    have S5 := S.go a5
    have hB5 := S5.B
    refine TB.put x fun g3 w6 hg3' t6 f6 => ?_
    refine DrewK.of fun w7 _ f7 => HoldK.of (outS b g1 g2) ?_
    have f67 := f6.trans f7
    have S7 := S5.keep0 f67
    refine ⟨by show g3 ≠ b ∧ g3 ≠ g1 ∧ g3 ≠ g2; omega, (t6.keep0 f7).ld ?_⟩
    refine CallK.of (ihT S7.at_.mkr (by have := S7.at_.lo; omega) (by have := S7.at_.hi; omega)) ?_
    rintro _ w8 ⟨y, rfl, t2, i8, hm2, hno2, hso2, a8⟩
    refine ⟨y, rfl, KeepK.on a8.fr out_b ?_⟩
    have S8 := S7.go a8
    have m8 : MadeL w4 w8 [trT t, trT t2] [x, y] := made2 ((hm.keep0 f67).keep a8.fr fun k hk _ t => by have : k = b := t; omega) (hm2.older (by have := f67.size; omega))
    exact S8.parts (by omega) hB (by show 2 ≤ 3; omega) m8 (t := .and t t2) rfl (by unfold nodesT; omega) ⟨hso, hso2⟩
  have hk56 : ¬ (k = 5 ∨ k = 6) := fun t => by rw [hc.2 t] at e; cases e
  clear hc e
  refine JoinK.of (fun s w' => (s.1 = true ↔ k = 7 ∨ k = 8) ∧ w4 = w') ?_ ?_
  · exact ifB.eq (fun e => ⟨by simp [e], rfl⟩) (fun e => ⟨by simp [e], rfl⟩)
  rintro _ ⟨c, _⟩ _ ⟨hc, rfl⟩
  dsimp only at hc ⊢
  refine ifB.by (fun e => ?_) (fun e => ?_)
  · -- or
    refine S.at_.mkr.label_ok fun lb w5 hl0 hl1 a5 => ?_
    have S5 := S.go a5
    refine CallK.of (digits_spec lb hl0 hl1 w5) ?_
    rintro _ w6 ⟨rfl, f6⟩
    refine ⟨_, rfl, ?_⟩
    have S6 := S5.keep0 f6
    have hil := itoa_short lb hl0 hl1
    refine cat_small (by rw [str_size]; show 2 + (Lib.itoa lb).length ≤ _; omega) ?_
    have hcat : (⟨#[99, 104]⟩ : ByteArray) ++ str (Lib.itoa lb) = str ([99, 104] ++ Lib.itoa lb) := by rw [← str_app]; rfl
    rw [hcat]
    refine CallK.of (mn_spec S6.at_.mkr (by omega) 30 (by omega)) ?_
    rintro _ w7 ⟨x30, rfl, _, _, a7⟩
    refine ⟨x30, rfl, ?_⟩
    have S7 := S6.go a7
    have both : ∀ (nm : List UInt8), nm.length ≤ 1000 → CallK Tryz.prog 109 #[.pointer (some ⟨b, 0, none⟩), .int .i64 (IntKind.i64.wrap (p1 - 1))] w7 (.v (.agg TVK)) (fun (x82 : TV) w83 =>
        NewK (.cells #[.int .i64 0, .string (⟨#[]⟩ : ByteArray), .int .i64 0, .slice none 0 0] 41) w83 (fun g84 w85 => StsK ⟨g84, 0, none⟩ (tvL x82) w85 (fun w86 => DrewK w86 (fun w87 => HoldK (fun S88 => InK S88 ⟨g84, 0, none⟩ (LdsK TVK ⟨g84, 0, none⟩ w87 (fun (x89 : TV) =>
          CallK Tryz.prog 109 #[.pointer (some ⟨b, 0, none⟩), .int .i64 (IntKind.i64.wrap (p1 - 1))] w87 (.v (.agg TVK)) (fun (x90 : TV) w91 => KeepK S88 w87 w91
            (AndK (RunK Tryz.prog (Instr.buildSlice 39 2 #[(0, tvA x89), (1, tvA x90)]) w91 (.v (.one .slc)) (fun (x92 : Option Addr × Nat × Nat) w93 => KeepK S88 w91 w93 (StK ((⟨g2, 0, none⟩ : Addr).add 0) (.int .i64 5) w93 (fun w94 => KeepK S88 w93 w94 (StK ((⟨g2, 0, none⟩ : Addr).add 1) (.string (str nm)) w94 (fun w95 => KeepK S88 w94 w95 (StK ((⟨g2, 0, none⟩ : Addr).add 3) (.slice x92.1 x92.2.1 x92.2.2) w95 (fun w96 => KeepK S88 w95 w96
        (LdsK TVK ⟨g2, 0, none⟩ w96 fun (x : TV) => StsK ⟨g1, 0, none⟩ (tvL x) w96 fun w2 => LdsK TVK ⟨g1, 0, none⟩ w2 fun (y : TV) => ∃ v : TV, tvA y = tvA v ∧ MT w m b i (coT d) v w2)))))))))
      (StK ((⟨g2, 0, none⟩ : Addr).add 0) (.int .i64 5) w91 (fun w100 => KeepK S88 w91 w100 (AndK (RunK Tryz.prog (Instr.buildSlice 39 2 #[(0, tvA x89), (1, tvA x90)]) w100 (.v (.one .slc)) (fun (x101 : Option Addr × Nat × Nat) w102 => KeepK S88 w100 w102 (StK ((⟨g2, 0, none⟩ : Addr).add 1) (.string (str nm)) w102 (fun w103 => KeepK S88 w102 w103 (StK ((⟨g2, 0, none⟩ : Addr).add 3) (.slice x101.1 x101.2.1 x101.2.2) w103 (fun w104 => KeepK S88 w103 w104
        (LdsK TVK ⟨g2, 0, none⟩ w104 fun (x : TV) => StsK ⟨g1, 0, none⟩ (tvL x) w104 fun w2 => LdsK TVK ⟨g1, 0, none⟩ w2 fun (y : TV) => ∃ v : TV, tvA y = tvA v ∧ MT w m b i (coT d) v w2)))))))
       (StK ((⟨g2, 0, none⟩ : Addr).add 1) (.string (str nm)) w100 (fun w108 => KeepK S88 w100 w108 (RunK Tryz.prog (Instr.buildSlice 39 2 #[(0, tvA x89), (1, tvA x90)]) w108 (.v (.one .slc)) (fun (x109 : Option Addr × Nat × Nat) w110 => KeepK S88 w108 w110 (StK ((⟨g2, 0, none⟩ : Addr).add 3) (.slice x109.1 x109.2.1 x109.2.2) w110 (fun w111 => KeepK S88 w110 w111
        (LdsK TVK ⟨g2, 0, none⟩ w111 fun (x : TV) => StsK ⟨g1, 0, none⟩ (tvL x) w111 fun w2 => LdsK TVK ⟨g1, 0, none⟩ w2 fun (y : TV) => ∃ v : TV, tvA y = tvA v ∧ MT w m b i (coT d) v w2))))))))))))))))))) := fun nm hnm => by
      refine CallK.of (ihT S7.at_.mkr (by have := S7.at_.lo; omega) (by have := S7.at_.hi; omega)) ?_
      rintro _ w8 ⟨x, rfl, t, i8, hm, hno, hso, a8⟩
      refine ⟨x, rfl, ?_⟩
      have S8 := S7.go a8
      have hB7 := S7.B
      have hB8 := S8.B
      refine TB.put x fun g3 w9 hg3' t9 f9 => ?_
      refine DrewK.of fun w10 _ f10 => HoldK.of (outS b g1 g2) ?_
      have f910 := f9.trans f10
      have S10 := S8.keep0 f910
      refine ⟨by show g3 ≠ b ∧ g3 ≠ g1 ∧ g3 ≠ g2; omega, (t9.keep0 f10).ld ?_⟩
      refine CallK.of (ihT S10.at_.mkr (by have := S10.at_.lo; omega) (by have := S10.at_.hi; omega)) ?_
      rintro _ w11 ⟨y, rfl, t2, i11, hm2, hno2, hso2, a11⟩
      refine ⟨y, rfl, KeepK.on a11.fr out_b ?_⟩
      have S11 := S10.go a11
      have m11 : MadeL w4 w11 [trT t, trT t2] [x, y] := made2 (((hm.older hB7).keep0 f910).keep a11.fr fun k hk _ t => by have : k = b := t; omega) (hm2.older (by have := f910.size; omega))
      exact S11.labelled (by omega) hB (by show 2 ≤ 3; omega) m11 nm (t := .or nm t t2) rfl (by unfold nodesT; omega) ⟨hnm, hso, hso2⟩
    refine ifB.eq (fun _ => both [99, 104, 49] (by decide)) (fun _ => both ([99, 104] ++ Lib.itoa lb) (by simp; omega))
  have hk78 : ¬ (k = 7 ∨ k = 8) := fun t => by rw [hc.2 t] at e; cases e
  clear hc e
  refine JoinK.of (fun s w' => (s.1 = true ↔ k = 9 ∨ k = 10) ∧ w4 = w') ?_ ?_
  · exact ifB.eq (fun e => ⟨by simp [e], rfl⟩) (fun e => ⟨by simp [e], rfl⟩)
  rintro _ ⟨c, _⟩ _ ⟨hc, rfl⟩
  dsimp only at hc ⊢
  refine ifB.by (fun e => ?_) (fun e => ?_)
  · -- scale
    refine CallK.of (ihO S.at_.mkr (by omega) (by omega)) ?_
    rintro _ w5 ⟨x, rfl, o, i5, hm, hno, hso, a5⟩
    refine ⟨x, rfl, ?_⟩
    have S5 := S.go a5
    have hB5 := S5.B
    refine TB.put x fun g3 w6 hg3' t6 f6 => ?_
    refine DrewK.of fun w7 _ f7 => HoldK.of (outS b g1 g2) ?_
    have f67 := f6.trans f7
    have S7 := S5.keep0 f67
    refine ⟨by show g3 ≠ b ∧ g3 ≠ g1 ∧ g3 ≠ g2; omega, (t6.keep0 f7).ld ?_⟩
    refine CallK.of (ihT S7.at_.mkr (by have := S7.at_.lo; omega) (by have := S7.at_.hi; omega)) ?_
    rintro _ w8 ⟨y, rfl, t2, i8, hm2, hno2, hso2, a8⟩
    refine ⟨y, rfl, KeepK.on a8.fr out_b ?_⟩
    have S8 := S7.go a8
    have m8 : MadeL w4 w8 [trO o, trT t2] [x, y] := made2 ((hm.keep0 f67).keep a8.fr fun k hk _ t => by have : k = b := t; omega) (hm2.older (by have := f67.size; omega))
    exact S8.parts (by omega) hB (by show 2 ≤ 3; omega) m8 (t := .scale o t2) rfl (by unfold nodesT; omega) ⟨hso, hso2⟩
  clear hc e
  refine ifB.eq (fun e => ?_) (fun e => ?_)
  · -- when
    refine CallK.of (mn_spec S.at_.mkr (by omega) 8 (by omega)) ?_
    rintro _ w5 ⟨x8, rfl, hx80, hx88, a5⟩
    refine ⟨x8, rfl, ?_⟩
    have S5 := S.go a5
    have hB5 := S5.B
    refine CallK.of (ihT S5.at_.mkr (by have := S5.at_.lo; omega) (by have := S5.at_.hi; omega)) ?_
    rintro _ w6 ⟨x, rfl, t, i6, hm, hno, hso, a6⟩
    refine ⟨x, rfl, ?_⟩
    have S6 := S5.go a6
    refine tr_lit [x] (by show 1 ≤ 3; omega) fun u w7 hu hul f7 hf7 => ?_
    have S7 := S6.keep0 f7
    have m7 : MadeL w4 w7 [trT t] [x] := made1 ((hm.older hB5).keep0 f7)
    have hk : ∀ k, blkOf u k → ¬ only g2 k := fun k hk t => by have : k = g2 := t; have := hf7 k hk; have := S6.B; omega
    refine S7.t2.k 7 fun w8 t8 f8 => ?_
    have S8 := S7.set f8 t8
    have m8 := m7.set S7 f8
    refine S8.t2.n x8 fun w9 t9 f9 => ?_
    have S9 := S8.set f9 t9
    have m9 := m8.set S8 f9
    refine S9.t2.u u fun w10 t10 f10 => ?_
    have S10 := S9.set f10 t10
    have m10 := m9.set S9 f10
    exact S10.tell (by omega) hB (t := .when x8 t) (node_made 7 [] x8 (((hu.keep f8 hk).keep f9 hk).keep f10 hk) hul (fun k hk => by have := hf7 k hk; have := S6.B; omega) m10) (by unfold nodesT; omega) hso
  · -- if
    refine CallK.of (ihO S.at_.mkr (by omega) (by omega)) ?_
    rintro _ w5 ⟨x, rfl, o, i5, hm, hno, hso, a5⟩
    refine ⟨x, rfl, ?_⟩
    have S5 := S.go a5
    have hB5 := S5.B
    refine TB.put x fun g3 w6 hg3' t6 f6 => ?_
    have S6 := S5.keep0 f6
    have hB6 := S6.B
    refine CallK.of (ihT S6.at_.mkr (by have := S6.at_.lo; omega) (by have := S6.at_.hi; omega)) ?_
    rintro _ w7 ⟨y, rfl, t, i7, hm2, hno2, hso2, a7⟩
    refine ⟨y, rfl, ?_⟩
    have S7 := S6.go a7
    have hB7 := S7.B
    have hsz7 := a7.size
    refine TB.put y fun g4 w8 hg4 t8 f8 => ?_
    refine DrewK.of fun w9 _ f9 => HoldK.of (outS b g1 g2) ?_
    have f89 := f8.trans f9
    have S9 := S7.keep0 f89
    have hg3lt : g3 < w6.heap.size := lt_of_blk t6
    refine ⟨by show g3 ≠ b ∧ g3 ≠ g1 ∧ g3 ≠ g2; omega, ((t6.keep a7.fr (fun t => by have : g3 = b := t; omega)).keep0 f89).ld ?_⟩
    refine ⟨by show g4 ≠ b ∧ g4 ≠ g1 ∧ g4 ≠ g2; omega, (t8.keep0 f9).ld ?_⟩
    refine CallK.of (ihT S9.at_.mkr (by have := S9.at_.lo; omega) (by have := S9.at_.hi; omega)) ?_
    rintro _ w10 ⟨z, rfl, t2, i10, hm3, hno3, hso3, a10⟩
    refine ⟨z, rfl, KeepK.on a10.fr out_b ?_⟩
    have S10 := S9.go a10
    have hsz9 := f89.size
    have m10 : MadeL w4 w10 [trO o, trT t, trT t2] [x, y, z] := made3 ((((hm.keep0 f6).keep a7.fr fun k hk _ t => by have : k = b := t; omega).keep0 f89).keep a10.fr fun k hk _ t => by have : k = b := t; omega)
      (((hm2.older hB6).keep0 f89).keep a10.fr fun k hk _ t => by have : k = b := t; omega) (hm3.older (by omega))
    exact S10.parts (by omega) hB (by show 3 ≤ 3; omega) m10 (t := .cond o t t2) rfl (by unfold nodesT; omega) ⟨hso, hso2, hso3⟩

end Go.Proofs.YtdphmcanlhcokaaGreatDoor

/-! ### VcPlan -/
set_option linter.unusedVariables false
namespace Go.Proofs.YtdphmcanlhcokaaGreatDoor
namespace Vc
variable {P : Program}

abbrev PlV := (Option Addr × Nat × Nat) × (Option Addr × Nat × Nat) × Unit
def plA (p : PlV) : Value := .agg #[.slice p.1.1 p.1.2.1 p.1.2.2, .slice p.2.1.1 p.2.1.2.1 p.2.1.2.2]
/-- A plan that came in: its numbers, its words. -/
def IsPl (w : World) (p : PlV) : Prop := (∃ ns, IsInts .i64 w p.1.1 p.1.2.1 p.1.2.2 ns) ∧ ∃ ws, IsStrs w p.2.1.1 p.2.1.2.1 p.2.1.2.2 ws

theorem ints_of {H : Type} {enc : TypeId × Value → H} {w : World} {base : Nat} {held : Bool} {t e : TypeId} {fuel : Nat} {cs : List Value} {x : DataW H × List MemPlace} (ht : P.underlying t = some (.slice e)) (he : P.underlying e = some (.int .i64)) (hc : P.cellsOf e = 1)
    (h : DataW.trod enc P w base (fun _ => true) held fuel t cs = some x) : ∃ (u : Option Addr × Nat × Nat), cs = [.slice u.1 u.2.1 u.2.2] ∧ ∃ ns, IsInts .i64 w u.1 u.2.1 u.2.2 ns := by
  rcases Go.ChangeShapes.open_ints ht he hc h with ⟨hcs, _⟩ | ⟨a, l, c, zs, hcs, _, hl, hm, hz, _, hcell, hwz⟩
  · exact ⟨(none, 0, 0), hcs, [], .inl ⟨rfl, rfl, rfl, rfl⟩⟩
  · exact ⟨(some a, l, c), hcs, zs, .inr ⟨a, rfl, hl, hm, by simpa using hz, hcell, hwz⟩⟩
theorem strs_of {H : Type} {enc : TypeId × Value → H} {w : World} {base : Nat} {held : Bool} {t e : TypeId} {fuel : Nat} {cs : List Value} {x : DataW H × List MemPlace} (ht : P.underlying t = some (.slice e)) (he : P.underlying e = some .string) (hc : P.cellsOf e = 1)
    (h : DataW.trod enc P w base (fun _ => true) held fuel t cs = some x) : ∃ (u : Option Addr × Nat × Nat), cs = [.slice u.1 u.2.1 u.2.2] ∧ ∃ ws, IsStrs w u.1 u.2.1 u.2.2 ws := by
  rcases Go.ChangeShapes.open_strings ht he hc h with ⟨hcs, _⟩ | ⟨a, l, c, zs, hcs, _, hl, hm, hz, _, hcell, hwz⟩
  · exact ⟨(none, 0, 0), hcs, [], .inl ⟨rfl, rfl, rfl, rfl⟩⟩
  · exact ⟨(some a, l, c), hcs, zs, .inr ⟨a, rfl, hl, hm, by simpa using hz, hcell, hwz⟩⟩

theorem open_plan {H : Type} {enc : TypeId × Value → H} {w : World} {base : Nat} {held : Bool} {t t0 t1 e0 e1 : TypeId} {f0 f1 : Field} {fuel : Nat} {cs : List Value} {x : DataW H × List MemPlace}
    (ht : P.underlying t = some (.struct #[f0, f1])) (hf0 : f0.type = t0) (hf1 : f1.type = t1) (ho0 : f0.offset = 0) (ho1 : f1.offset = 1) (hc : P.cellsOf t = 2) (hc0 : P.cellsOf t0 = 1) (hc1 : P.cellsOf t1 = 1)
    (h0 : P.underlying t0 = some (.slice e0)) (h1 : P.underlying t1 = some (.slice e1)) (k0 : P.underlying e0 = some (.int .i64)) (k1 : P.underlying e1 = some .string) (d0 : P.cellsOf e0 = 1) (d1 : P.cellsOf e1 = 1)
    (h : DataW.trod enc P w base (fun _ => true) held fuel t cs = some x) : ∃ p : PlV, cs = [.slice p.1.1 p.1.2.1 p.1.2.2, .slice p.2.1.1 p.2.1.2.1 p.2.1.2.2] ∧ IsPl w p := by
  obtain ⟨y0, y1, n, _, hlen, g0, g1⟩ := Go.ChangeShapes.trod_struct2 ht h
  rw [hf0, ho0, hc0] at g0
  rw [hf1, ho1, hc1] at g1
  obtain ⟨u, hu, hi⟩ := ints_of h0 k0 d0 g0
  obtain ⟨v, hv, hs⟩ := strs_of h1 k1 d1 g1
  rw [hc] at hlen
  match cs, hlen with
  | [a, b], _ =>
    simp only [List.drop_zero, List.drop_succ_cons, List.take_succ_cons, List.take_zero, List.cons.injEq, and_true] at hu hv
    exact ⟨(u, v, ()), by rw [hu, hv], hi, hs⟩

end Vc
end Go.Proofs.YtdphmcanlhcokaaGreatDoor

/-! ### PlanSpec -/
set_option linter.unusedVariables false
set_option maxRecDepth 100000
namespace Go.Proofs.YtdphmcanlhcokaaGreatDoor
open Vc

theorem Vc.IsPl.keep0 {w w' : World} {p : PlV} (h : IsPl w p) (f : Fr none1 w w') : IsPl w' p := by
  obtain ⟨⟨ns, h1⟩, ws, h2⟩ := h
  exact ⟨⟨ns, IsInts.keep h1 f fun _ _ _ t => t⟩, ws, IsStrs.keep h2 f fun _ _ _ t => t⟩

/-- A new maker of a plan. -/
theorem maker_new {w : World} {p : PlV} (h : IsPl w p) (l : Int) {K : Nat → World → Prop} (k : ∀ g w', w.heap.size = g → IsMk w' (g + 1) g 0 → Fr none1 w w' → K g w') :
    NewK (.cells #[.slice p.1.1 p.1.2.1 p.1.2.2, .slice p.2.1.1 p.2.1.2.1 p.2.1.2.2, .int .i64 0, .int .i64 l, .int .i64 0] 220) w K :=
  NewK.of fun g w1 hg hb f hs => by
    obtain ⟨⟨ns, h1⟩, ws, h2⟩ := h
    refine k g w1 hg ⟨⟨p.1, p.2.1, l, 0, ns, ws, hb, IsInts.keep h1 f fun _ _ _ t => t, IsStrs.keep h2 f fun _ _ _ t => t, fun k hc hk => ?_, fun k hc hk => ?_⟩, by omega, by omega⟩ f
    · have := IsInts.blk h1 hc hk; omega
    · have := IsStrs.blk h2 hc hk; omega

theorem contract_spec {w : World} {p : PlV} (h : IsPl w p) : Ret Tryz.prog 81 #[plA p] w fun r w' => ∃ (v : TV) (t : Tm), r = tvA v ∧ Made w w' (trT t) v ∧ nodesT t ≤ 2000 ∧ shortT t ∧ Fr none1 w w' := by
  refine c81 p w _ ?_
  unfold C81
  refine NewK.of fun g1 w1 hg1 hb1 f1 _ => ?_
  refine TB.new fun g2 w2 hg2 t2 f2 hs2 => ?_
  refine LdsK.blk (cks := [.slc, .slc]) (x := p) (f2.keep0 hb1) ?_
  have f12 := f1.trans f2
  refine maker_new (h.keep0 f12) 24 fun g3 w3 hg3 hmk f3 => ?_
  refine CallK.of (mterm_spec 5 hmk 5 (by omega) (by omega) (by omega) (by omega) (by show (0 : Int) + ((1678 : Nat) : Int) ≤ _; omega)) ?_
  rintro _ w4 ⟨v, rfl, t, i4, hm, hn, hs, a4⟩
  refine ⟨v, rfl, ?_⟩
  have hz12 := f12.size
  have hz3 := f3.size
  have hn : nodesT t ≤ 1678 := hn
  have t4 := (t2.keep0 f3).keep a4.fr (fun t => by have : g2 = g3 := t; omega)
  have hg2lt : g2 < w3.heap.size := by have := lt_of_blk t2; omega
  refine StsK.blk (cs := tvL _) (vs := tvL v) t4 rfl rfl fun w5 hb5 f5 _ => LdsK.blk (cks := TVK) (x := v) hb5 ?_
  refine ⟨v, t, rfl, (hm.keep f5 fun k hk _ t => by have : k = g2 := t; omega).older (by omega), by omega, hs, ?_⟩
  have := f1.size
  exact ((f12.trans f3).fresh a4.fr (by omega)).fresh f5 (by omega)

/-- The contract of which all is known: usd. -/
theorem usd_right : checkT (.one [117, 115, 100]) = 0 := by decide +kernel

theorem right_spec {w : World} {p : PlV} (h : IsPl w p) : Ret Tryz.prog 80 #[plA p] w fun r w' => ∃ (v : TV) (t : Tm), r = tvA v ∧ Made w w' (trT t) v ∧ checkT t = 0 ∧ shortT t ∧ Fr none1 w w' := by
  refine c80 p w _ ?_
  unfold C80
  refine NewK.of fun g1 w1 hg1 hb1 f1 _ => ?_
  refine TB.new fun g2 w2 hg2 t2 f2 hs2 => ?_
  refine LdsK.blk (cks := [.slc, .slc]) (x := p) (f2.keep0 hb1) ?_
  have f12 := f1.trans f2
  have hz1 := f1.size
  refine CallK.of (contract_spec (h.keep0 f12)) ?_
  rintro _ w3 ⟨v, t, rfl, hm, hn, hs, f3⟩
  refine ⟨v, rfl, ?_⟩
  have hz3 := f3.size
  refine TB.put v fun g4 w4 hg4 t4 f4 => t4.ld ?_
  have hz4 := f4.size
  have hm4 := hm.keep0 f4
  have hcn := cnt_trT t
  refine CallK.of (rcheck_spec (trT t) false (by omega) (short_trT t hs) hm4 (fun k hk => hk.2)) ?_
  rintro _ w5 ⟨rfl, f5⟩
  refine ⟨_, rfl, ?_⟩
  have f35 := (f3.trans f4).trans f5
  have t25 := t2.keep0 f35
  have hg2lt : g2 < w2.heap.size := lt_of_blk t2
  rw [check_trT]
  have fin : ∀ {t : Tm} {v : TV}, Made w2 w5 (trT t) v → checkT t = 0 → shortT t → StsK ⟨g2, 0, none⟩ (tvL v) w5 fun w6 => LdsK TVK ⟨g2, 0, none⟩ w6 fun (x : TV) => ∃ (v : TV) (t : Tm), tvA x = tvA v ∧ Made w w6 (trT t) v ∧ checkT t = 0 ∧ shortT t ∧ Fr none1 w w6 := fun {t v} hm hc hs => by
    refine StsK.blk (cs := tvL _) (vs := tvL v) t25 rfl rfl fun w6 hb6 f6 _ => LdsK.blk (cks := TVK) (x := v) hb6 ?_
    exact ⟨v, t, rfl, (hm.keep f6 fun k hk _ t => by have : k = g2 := t; omega).older (by omega), hc, hs, (f12.trans f35).fresh f6 (by omega)⟩
  refine ifB.ne (fun hc => ?_) (fun hc => ?_)
  · exact fin (t := .one [117, 115, 100]) (v := (2, str [117, 115, 100], 0, (none, 0, 0), ())) (leaf_made _ _ 2 [117, 115, 100] 0) usd_right (by show (3 : Nat) ≤ 1000; omega)
  · exact (t4.keep0 f5).ld (fin (hm4.keep0 f5) hc hs)

end Go.Proofs.YtdphmcanlhcokaaGreatDoor

/-! ### RefWrite -/
set_option linter.unusedVariables false
set_option maxRecDepth 100000
namespace Go.Proofs.YtdphmcanlhcokaaGreatDoor
open Vc

/-! ### Plain -/
def wordTab : List (List UInt8) := [[], [122, 101, 114, 111], [111, 110, 101], [103, 105, 118, 101], [97, 110, 100], [111, 114], [115, 99, 97, 108, 101], [119, 104, 101, 110], [105, 102], [], [], [], [102, 105, 120], [97, 100, 100], [110, 101, 103], [109, 117, 108], [109, 97, 120]]
def wordL (k : Int) : List UInt8 := wordTab.getD k.toNat []
def headR (k : Int) (s : List UInt8) (n : Int) : List UInt8 := wordL k ++ [40] ++ ((if k = 2 ∨ k = 5 ∨ k = 12 then s else []) ++ (if k = 7 then Lib.itoa n else []))
def sepR (k : Int) : List UInt8 := if k = 2 ∨ k = 5 ∨ k = 12 ∨ k = 7 then [44] else []
mutual
def textR : Tr → List UInt8
  | .mk k s n ks => if k = 11 then Lib.itoa n else if k = 1 then [122, 101, 114, 111] else textRs (headR k s n) (sepR k) ks ++ [41]
def textRs : List UInt8 → List UInt8 → List Tr → List UInt8
  | acc, _, [] => acc
  | acc, sep, t :: ts => textRs (acc ++ sep ++ textR t) [44] ts
end
mutual
def lenR : Tr → Nat
  | .mk _ s _ ks => 50 + s.length + lenRs ks
def lenRs : List Tr → Nat
  | [] => 0
  | t :: ts => lenR t + 1 + lenRs ts
end
theorem lenRs_app : ∀ (a b : List Tr), lenRs (a ++ b) = lenRs a + lenRs b
  | [], b => by simp [lenRs]
  | t :: a, b => by simp only [List.cons_append, lenRs, lenRs_app a b]; omega
theorem lenRs_len : ∀ ts : List Tr, ts.length ≤ lenRs ts
  | [] => Nat.le_refl _
  | t :: ts => by unfold lenRs; have := lenRs_len ts; rw [List.length_cons]; omega
theorem textRs_app : ∀ (a b : List Tr) (acc sep : List UInt8), textRs acc sep (a ++ b) = textRs (textRs acc sep a) (if a = [] then sep else [44]) b
  | [], b, acc, sep => by simp [textRs]
  | t :: a, b, acc, sep => by
    rw [List.cons_append, textRs, textRs, textRs_app a b, if_neg (List.cons_ne_nil t a), ite_self]
theorem sepR_len (k : Int) : (sepR k).length ≤ 1 := by unfold sepR; split <;> simp
theorem wordL_len (k : Int) : (wordL k).length ≤ 5 := by
  unfold wordL
  have : ∀ x ∈ wordTab, x.length ≤ 5 := by decide
  rw [List.getD_eq_getElem?_getD]
  cases h : wordTab[k.toNat]? with
  | none => simp
  | some x => exact this x (List.mem_of_getElem? h)
theorem itoa_le (n : Int) (h0 : -9223372036854775808 ≤ n) (h1 : n ≤ 9223372036854775807) : (Lib.itoa n).length ≤ 30 := itoa_short n h0 h1
theorem okK_n {k n : Int} {s : List UInt8} (h : okK k s n = true) : ((k = 11 ∨ k = 7) → -1000000000000 ≤ n ∧ n ≤ 1000000000000) ∧ 1 ≤ k ∧ k ≤ 16 := by
  unfold okK at h
  repeat' split at h
  · rename_i h1; exact ⟨fun t => by omega, by omega, by omega⟩
  · rename_i h1 h2; exact ⟨fun t => by omega, by omega, by omega⟩
  · rename_i h1 h2 h3
    simp only [Bool.and_eq_true, decide_eq_true_eq] at h
    exact ⟨fun _ => by omega, by omega, by omega⟩
  · rename_i h1 h2 h3 h4
    have := validF_iff h
    exact ⟨fun _ => this, by omega, by omega⟩
  · cases h
theorem head_len {k n : Int} {s : List UInt8} (h : okK k s n = true) : (headR k s n).length ≤ s.length + 40 := by
  have h1 := wordL_len k
  have h2 := (okK_n h).1
  unfold headR
  simp only [List.length_append, List.length_cons, List.length_nil]
  split
  · rename_i hk
    rw [if_neg (by omega), List.length_nil]; omega
  · split
    · rename_i h7
      have := itoa_le n (by have := h2 (.inr h7); omega) (by have := h2 (.inr h7); omega)
      simp only [List.length_nil]; omega
    · simp only [List.length_nil]; omega
theorem formRs_get : ∀ {ts : List Tr} {b f : Bool} {i : Nat} {t : Tr}, formRs ts b f = true → ts[i]? = some t → ∃ b', formR t b' = true
  | [], b, f, i, t, h, ht => by simp at ht
  | u :: us, b, f, 0, t, h, ht => by
    unfold formRs at h
    simp only [Bool.and_eq_true] at h
    simp at ht; subst ht
    exact ⟨_, h.1⟩
  | u :: us, b, f, i + 1, t, h, ht => by
    unfold formRs at h
    simp only [Bool.and_eq_true] at h
    exact formRs_get h.2 (by simpa using ht)
mutual
theorem textR_len : ∀ (t : Tr) (b : Bool), formR t b = true → (textR t).length ≤ lenR t
  | .mk k s n ks, b, h => by
    unfold formR at h
    simp only [Bool.and_eq_true] at h
    have hk := okK_n h.1.1
    unfold textR lenR
    split
    · have := itoa_le n (by omega) (by omega); omega
    split
    · simp; omega
    · have h1 := head_len h.1.1
      have h2 := textRs_len ks _ _ (headR k s n) (sepR k) h.2 (sepR_len k)
      rw [List.length_append, List.length_singleton]; omega
theorem textRs_len : ∀ (ts : List Tr) (b f : Bool) (acc sep : List UInt8), formRs ts b f = true → sep.length ≤ 1 → (textRs acc sep ts).length ≤ acc.length + lenRs ts
  | [], b, f, acc, sep, h, hs => by unfold textRs lenRs; omega
  | t :: ts, b, f, acc, sep, h, hs => by
    unfold formRs at h
    simp only [Bool.and_eq_true] at h
    have h1 := textR_len t _ h.1
    have h2 := textRs_len ts b false (acc ++ sep ++ textR t) [44] h.2 (Nat.le_refl _)
    unfold textRs lenRs
    rw [List.length_append, List.length_append] at h2
    omega
end
theorem len_trO (o : Ob) (h : shortO o) : lenR (trO o) ≤ 1060 * (3 * nodesO o + 1) := by
  induction o <;> simp_all [trO, lenR, lenRs, nodesO, shortO] <;> omega
theorem len_trT (t : Tm) (h : shortT t) : lenR (trT t) ≤ 1060 * (3 * nodesT t + 1) := by
  induction t with
  | none => simp [trT, lenR, lenRs, nodesT]
  | zero => simp [trT, lenR, lenRs, nodesT]
  | one s => simp [trT, lenR, lenRs, nodesT, shortT] at h ⊢; omega
  | give t i => have := i h; simp [trT, lenR, lenRs, nodesT] at this ⊢; omega
  | and l r i j => have := i h.1; have := j h.2; simp [trT, lenR, lenRs, nodesT] at *; omega
  | or s l r i j => have := i h.2.1; have := j h.2.2; have := h.1; simp [trT, lenR, lenRs, nodesT] at *; omega
  | scale o t i => have := i h.2; have := len_trO o h.1; simp [trT, lenR, lenRs, nodesT] at *; omega
  | when d t i => have := i h; simp [trT, lenR, lenRs, nodesT] at *; omega
  | cond o l r i j => have := i h.2.1; have := j h.2.2; have := len_trO o h.1; simp [trT, lenR, lenRs, nodesT] at *; omega

theorem text_trO : ∀ (o : Ob), formO o = true → textR (trO o) = numO o := by
  intro o h
  induction o with
  | none => cases h
  | const n => rfl
  | fix s => simp [trO, textR, textRs, headR, numO, callL, join1, wordL, wordTab]
  | add l r i j => simp only [formO, Bool.and_eq_true] at h; simp [trO, textR, textRs, headR, sepR, numO, callL, join2, wordL, wordTab, i h.1, j h.2]
  | neg o i => simp [trO, textR, textRs, headR, sepR, numO, callL, join1, wordL, wordTab, i h]
  | mul l r i j => simp only [formO, Bool.and_eq_true] at h; simp [trO, textR, textRs, headR, sepR, numO, callL, join2, wordL, wordTab, i h.1, j h.2]
  | max l r i j => simp only [formO, Bool.and_eq_true] at h; simp [trO, textR, textRs, headR, sepR, numO, callL, join2, wordL, wordTab, i h.1, j h.2]
theorem text_trT : ∀ (t : Tm), formT t = true → textR (trT t) = conT t := by
  intro t h
  induction t with
  | none => cases h
  | zero => rfl
  | one s => simp [trT, textR, textRs, headR, conT, callL, join1, wordL, wordTab]
  | give t i => simp [trT, textR, textRs, headR, sepR, conT, callL, join1, wordL, wordTab, i h]
  | and l r i j => simp only [formT, Bool.and_eq_true] at h; simp [trT, textR, textRs, headR, sepR, conT, callL, join2, wordL, wordTab, i h.1, j h.2]
  | or s l r i j => simp only [formT, Bool.and_eq_true] at h; simp [trT, textR, textRs, headR, sepR, conT, callL, join3, wordL, wordTab, i h.2.1, j h.2.2]
  | scale o t i => simp only [formT, Bool.and_eq_true] at h; simp [trT, textR, textRs, headR, sepR, conT, callL, join2, wordL, wordTab, text_trO o h.1, i h.2]
  | when d t i => simp only [formT, Bool.and_eq_true] at h; simp [trT, textR, textRs, headR, sepR, conT, callL, join2, wordL, wordTab, i h.2]
  | cond o l r i j => simp only [formT, Bool.and_eq_true] at h; simp [trT, textR, textRs, headR, sepR, conT, callL, join3, wordL, wordTab, text_trO o h.1, i h.2.1, j h.2.2]

/-- Write of a tree. -/
def writeR (t : Tr) (b : Bool) : List UInt8 × Int := if checkR t b ≠ 0 then ([], checkR t b) else if 1000 < (textR t).length then ([], 5) else (textR t, 0)
theorem writeR_trT (t : Tm) : writeR (trT t) false = writeT t := by
  unfold writeR writeT
  rw [check_trT]
  split
  · rfl
  rename_i h
  rw [text_trT t (checkT_form (by simpa using h)).1]

/-! ### What the functions do -/
theorem cat_huge {a b : ByteArray} {K : Prop} (h : a.size + b.size ≤ 1000000000) (k : K) : CatK a b K := ⟨by show ((a.size + b.size : Nat) : Int) ≤ 9223372036854775807; omega, k⟩

theorem rword_tab (k : Int) (h0 : 0 ≤ k) (h1 : k ≤ 16) (w : World) : Ret Tryz.prog 121 #[.int .i64 k] w fun r w' => r = .string (str (wordL k)) ∧ Fr none1 w w' := by
  refine c121 k w _ ?_
  refine words_lit wordTab (by decide) fun u w1 hu f1 _ => ?_
  have hul := hu.len
  have hk : k.toNat < wordTab.length := by show k.toNat < 17; omega
  have := hu.ld (i := k.toNat) (s := wordL k) (by unfold wordL; rw [List.getD_eq_getElem?_getD, List.getElem?_eq_getElem hk]; rfl) (K := fun x => Value.string x = .string (str (wordL k)) ∧ Fr none1 w w1) ⟨rfl, f1⟩
  rw [show k = ((k.toNat : Nat) : Int) by omega]
  exact this

theorem rtext_spec : ∀ (t : Tr) (b : Bool) (hf : formR t b = true) (hl : lenR t ≤ 100000000) {w : World} {S : Nat → Prop} {v : TV} (h : IsTr w S t v), Ret Tryz.prog 90 #[tvA v] w fun r w' => r = .string (str (textR t)) ∧ Fr none1 w w'
  | .mk k s n ks, b, hf, hl, w, S, v, h => by
    have ih : ∀ t ∈ ks, ∀ b, formR t b = true → lenR t ≤ 100000000 → ∀ {w : World} {S : Nat → Prop} {v : TV}, IsTr w S t v → Ret Tryz.prog 90 #[tvA v] w fun r w' => r = .string (str (textR t)) ∧ Fr none1 w w' := fun t ht b hf hl w S v h => rtext_spec t b hf hl h
    refine c90 v w _ ?_
    unfold C90
    unfold formR at hf
    simp only [Bool.and_eq_true] at hf
    have hk := okK_n hf.1.1
    have hhl := head_len hf.1.1
    refine NewK.of fun g w1 hg hb f1 _ => LdK.fld hb (x := v.1) rfl ?_
    have h1 := h.keep0 f1
    rw [h.kind]
    unfold textR
    refine ifB.eq (fun e => ?_) (fun e => ?_)
    · rw [if_pos e]
      refine LdK.fld hb (x := v.2.2.1) rfl ?_
      rw [h.num]
      refine CallK.of (digits_spec n (by omega) (by omega) w1) ?_
      rintro _ w2 ⟨rfl, f2⟩
      exact ⟨_, rfl, rfl, f1.trans f2⟩
    rw [if_neg e]
    refine ifB.eq (fun e2 => ?_) (fun e2 => ?_)
    · rw [if_pos e2]; exact ⟨rfl, f1⟩
    rw [if_neg e2]
    refine LdK.fld hb (x := v.1) rfl ?_
    rw [h.kind]
    refine CallK.of (rword_tab k (by omega) (by omega) w1) ?_
    rintro _ w2 ⟨rfl, f2⟩
    refine ⟨_, rfl, ?_⟩
    have hwl := wordL_len k
    unfold lenR at hl
    refine cat_huge (by rw [str_size]; show (wordL k).length + 1 ≤ _; omega) ?_
    have hcat : str (wordL k) ++ (⟨#[40]⟩ : ByteArray) = str (wordL k ++ [40]) := by rw [← str_app]; rfl
    rw [hcat]
    have hb2 := f2.keep0 hb
    have f12 := f1.trans f2
    have hkind := h.kind
    refine JoinK.of (fun s' w' => s'.1 = str (wordL k ++ [40] ++ (if k = 2 ∨ k = 5 ∨ k = 12 then s else [])) ∧ s'.2.1 = str (if k = 2 ∨ k = 5 ∨ k = 12 then [44] else []) ∧ w2 = w') ?_ ?_
    · refine JoinK.of (fun c w' => (c.1 = true ↔ k = 2 ∨ k = 5 ∨ k = 12) ∧ w2 = w') ?_ ?_
      · refine LdK.fld hb2 (x := v.1) rfl ?_
        rw [hkind]
        refine ifB.eq (fun e => ⟨by simp [e], rfl⟩) (fun e => LdK.fld hb2 (x := v.1) rfl ?_)
        rw [hkind]
        refine ifB.eq (fun e => ⟨by simp [e], rfl⟩) (fun e2 => LdK.fld hb2 (x := v.1) rfl ?_)
        rw [hkind]
        exact ⟨by simp [e, e2], rfl⟩
      rintro _ ⟨c, _⟩ _ ⟨hc, rfl⟩
      dsimp only at hc ⊢
      refine ifB.by (fun e => ?_) (fun e => ?_)
      · refine LdK.fld hb2 (x := v.2.1) rfl ?_
        rw [h.name]
        refine cat_huge (by rw [str_size, str_size, List.length_append]; show (wordL k).length + 1 + s.length ≤ _; omega) ?_
        rw [if_pos (hc.1 e), if_pos (hc.1 e), str_app]
        exact ⟨rfl, rfl, rfl⟩
      · have hn : ¬ (k = 2 ∨ k = 5 ∨ k = 12) := fun t => by rw [hc.2 t] at e; cases e
        rw [if_neg hn, if_neg hn, List.append_nil]
        exact ⟨rfl, rfl, rfl⟩
    rintro _ ⟨s1, sep1, _⟩ _ ⟨hs1, hsep1, rfl⟩
    dsimp only at hs1 hsep1 ⊢
    subst hs1 hsep1
    refine JoinK.of (fun s' w' => s'.1 = str (headR k s n) ∧ s'.2.1 = str (sepR k) ∧ Fr none1 w w' ∧ Fr none1 w1 w') ?_ ?_
    · refine LdK.fld hb2 (x := v.1) rfl ?_
      rw [hkind]
      refine ifB.eq (fun e7 => ?_) (fun e7 => ?_)
      · refine LdK.fld hb2 (x := v.2.2.1) rfl ?_
        rw [h.num]
        refine CallK.of (digits_spec n (by omega) (by omega) w2) ?_
        rintro _ w3 ⟨rfl, f3⟩
        refine ⟨_, rfl, ?_⟩
        have hil := itoa_le n (by omega) (by omega)
        have hn : ¬ (k = 2 ∨ k = 5 ∨ k = 12) := by omega
        rw [if_neg hn, List.append_nil]
        refine cat_huge (by rw [str_size, str_size, List.length_append]; show (wordL k).length + 1 + _ ≤ _; omega) ?_
        unfold headR sepR
        rw [if_neg hn, if_pos e7, if_pos (.inr (.inr (.inr e7))), List.nil_append, str_app]
        exact ⟨rfl, rfl, f12.trans f3, f2.trans f3⟩
      · unfold headR sepR
        rw [if_neg e7, List.append_nil]
        refine ⟨rfl, ?_, f12, f2⟩
        by_cases hn : k = 2 ∨ k = 5 ∨ k = 12
        · rw [if_pos hn, if_pos hn, if_pos (show k = 2 ∨ k = 5 ∨ k = 12 ∨ k = 7 by omega)]
        · rw [if_neg hn, if_neg hn, if_neg (show ¬ (k = 2 ∨ k = 5 ∨ k = 12 ∨ k = 7) by omega)]
    rintro _ ⟨s2, sep2, _⟩ w3 ⟨hs2, hsep2, f3, g3⟩
    dsimp only at hs2 hsep2 ⊢
    subst hs2 hsep2
    refine LdK.fld (g3.keep0 hb) (x := v.2.2.2.1) rfl ?_
    have hvl := h.len
    have hkl := lenRs_len ks
    refine LoopK.of (fun s' w' => ∃ i : Nat, s'.2.2.1 = i ∧ i ≤ ks.length ∧ s'.1 = str (textRs (headR k s n) (sepR k) (ks.take i)) ∧ s'.2.1 = str (if ks.take i = [] then sepR k else [44]) ∧ Fr none1 w w' ∧ Fr none1 w1 w') (fun s' _ => (ks.length - s'.2.2.1).toNat)
      ⟨0, rfl, Nat.zero_le _, rfl, rfl, f3, g3⟩ ?_
    rintro _ ⟨acc, sep, i', _⟩ w4 ⟨i, hi, hil, hacc, hsep, f4, g4⟩
    dsimp only at hi hacc hsep ⊢
    subst hi hacc hsep
    have hlk := lenRs_app (ks.take i) (ks.drop i)
    rw [List.take_append_drop] at hlk
    have hft : formRs (ks.take i) b (k == 6 || k == 8) = true := by
      have key : ∀ (ts : List Tr) (n : Nat) (b f : Bool), formRs ts b f = true → formRs (ts.take n) b f = true := by
        intro ts
        induction ts with
        | nil => intro n b f _; simp [formRs]
        | cons t ts ih =>
          intro n b f h
          cases n with
          | zero => simp [formRs]
          | succ n =>
            unfold formRs at h
            simp only [Bool.and_eq_true] at h
            rw [List.take_succ_cons]
            unfold formRs
            rw [h.1, ih n b false h.2]; rfl
      exact key ks i _ _ hf.2
    have htl := textRs_len (ks.take i) b _ (headR k s n) (sepR k) hft (sepR_len k)
    have hsl : (if ks.take i = [] then sepR k else [44]).length ≤ 1 := by split; exact sepR_len k; simp
    rw [hvl]
    refine ifB.dec (fun hlt => ?_) (fun hge => ?_)
    · have hi2 : i < ks.length := by omega
      obtain ⟨t, ht⟩ : ∃ t, ks[i]? = some t := ⟨_, List.getElem?_eq_getElem hi2⟩
      obtain ⟨b', hb'⟩ := formRs_get hf.2 ht
      have hlt2 : lenR t + 1 ≤ lenRs (ks.drop i) := by rw [drop_one ht]; unfold lenRs; omega
      have htl2 := textR_len t b' hb'
      refine cat_huge (by rw [str_size, str_size]; omega) ?_
      refine LdK.fld (g4.keep0 hb) (x := v.2.2.2.1) rfl ?_
      refine (h1.keep0 g4).kids ht fun x hx => ?_
      refine CallK.of (ih t (List.mem_of_getElem? ht) b' hb' (by omega) hx) ?_
      rintro _ w5 ⟨rfl, f5⟩
      refine ⟨_, rfl, ?_⟩
      rw [str_app]
      refine cat_huge (by rw [str_size, str_size, List.length_append]; omega) ?_
      refine ⟨⟨i + 1, by rw [wI (by omega) (by omega)]; omega, by omega, ?_, ?_, f4.trans f5, g4.trans f5⟩, by rw [wI (by omega) (by omega)]; omega⟩
      · rw [take_one ht, textRs_app, str_app]
        simp only [textRs]
      · rw [take_one ht, if_neg (by simp)]; rfl
    · have : i = ks.length := by omega
      subst this
      rw [List.take_length] at htl ⊢
      refine cat_huge (by rw [str_size]; show _ + 1 ≤ _; omega) ?_
      exact ⟨by rw [← str_app]; rfl, f4⟩
termination_by t => SizeOf.sizeOf t
decreasing_by exact kid_lt ht

theorem rwrite_spec (t : Tr) (b : Bool) (hn : cntR t ≤ 1000000) (hsh : shortR t) (hl : lenR t ≤ 100000000) {w : World} {S : Nat → Prop} {v : TV} (h : IsTr w S t v) (hS : ∀ k, S k → k < w.heap.size) :
    Ret Tryz.prog 56 #[tvA v, .bool b] w fun r w' => r = .tuple #[.string (str (writeR t b).1), .int .i64 (writeR t b).2] ∧ Fr none1 w w' := by
  refine c56 v b w _ ?_
  unfold C56
  refine NewK.of fun g w1 hg hb f1 _ => ?_
  have tb : TB w1 g v := hb
  refine tb.ld ?_
  have h1 := h.keep0 f1
  refine CallK.of (rcheck_spec t b hn hsh h1 (fun k hk => by have := hS k hk; have := f1.size; omega)) ?_
  rintro _ w2 ⟨rfl, f2⟩
  refine ⟨_, rfl, ?_⟩
  unfold writeR
  refine ifB.ne (fun e => ?_) (fun e => ?_)
  · rw [if_pos e]; exact ⟨rfl, f1.trans f2⟩
  rw [if_neg (fun t => t e)]
  have hf : formR t b = true := by
    unfold checkR at e
    split at e
    · exact absurd e (by decide)
    · rename_i hf; cases hq : formR t b
      · exact absurd hq hf
      · rfl
  refine (tb.keep0 f2).ld ?_
  refine CallK.of (rtext_spec t b hf hl (h1.keep0 f2)) ?_
  rintro _ w3 ⟨rfl, f3⟩
  refine ⟨_, rfl, ?_⟩
  rw [str_size]
  refine ifB.dec (fun hx => ?_) (fun hx => ?_)
  · rw [if_pos (by omega)]; exact ⟨rfl, (f1.trans f2).trans f3⟩
  · rw [if_neg (by omega)]; exact ⟨rfl, (f1.trans f2).trans f3⟩

end Go.Proofs.YtdphmcanlhcokaaGreatDoor

/-! ### CRef11P -/
namespace Go.Proofs.YtdphmcanlhcokaaGreatDoor
open Vc
set_option maxRecDepth 100000
set_option linter.unusedVariables false
/-- handfast/handfastref11.Fields -/
def C52 (p0 : Int) (w : World) (K : Value → World → Prop) : Prop :=
  ifB (p0 == 1)
  (K (.string (⟨#[]⟩ : ByteArray)) w)
  (ifB (p0 == 2)
  (K (.string (⟨#[73, 84]⟩ : ByteArray)) w)
  (ifB (p0 == 3)
  (K (.string (⟨#[78, 68, 86]⟩ : ByteArray)) w)
  (ifB (p0 == 4)
  (K (.string (⟨#[73, 76, 86]⟩ : ByteArray)) w)
  (ifB (p0 == 5)
  (K (.string (⟨#[68]⟩ : ByteArray)) w)
  (ifB (p0 == 6)
  (K (.string (⟨#[68, 67, 86]⟩ : ByteArray)) w)
  (K (.string (⟨#[63]⟩ : ByteArray)) w))))))
def pl52 : Plan := .auto
theorem e52 (p0 : Int) (w : World) (K : Value → World → Prop) : vcFunc Tryz.prog Tryz.f52 pl52 [.int .i64 p0] w K = C52 p0 w K := by kernel_rfl
theorem c52 (p0 : Int) (w : World) (K : Value → World → Prop) (h : C52 p0 w K) : Ret Tryz.prog 52 #[.int .i64 p0] w K := by
  rw [← e52] at h
  exact vcFunc_sound (by kernel_rfl) Tryz.func52 h

/-- handfast/handfastref11.has -/
def C54 (p0 : ByteArray) (p1 : Int) (w : World) (K : Value → World → Prop) : Prop :=
  LoopK (Int × Unit) (fun _ s1 w2 next3 => ifB (decide (s1.1 < (p0.size : Int)))
  (StrK p0 s1.1 (fun x4 => ifB (x4 == p1)
  (K (.bool true) w2)
  (next3 (IntKind.i64.wrap (s1.1 + 1), ()) w2)))
  (K (.bool false) w2))
  (0, ()) w
def pl54 : Plan := (.seq .auto (.seq (.seq .auto (.block (.loop [(5, .one (.int .i64))] .auto))) .auto))
theorem e54 (p0 : ByteArray) (p1 : Int) (w : World) (K : Value → World → Prop) : vcFunc Tryz.prog Tryz.f54 pl54 [.string p0, .int .u8 p1] w K = C54 p0 p1 w K := by kernel_rfl
theorem c54 (p0 : ByteArray) (p1 : Int) (w : World) (K : Value → World → Prop) (h : C54 p0 p1 w K) : Ret Tryz.prog 54 #[.string p0, .int .u8 p1] w K := by
  rw [← e54] at h
  exact vcFunc_sound (by kernel_rfl) Tryz.func54 h

/-- handfast/handfastref11.text -/
def C53 (p0 : ByteArray) (p1 : Bool) (w : World) (K : Value → World → Prop) : Prop :=
  ifB p1
  (CallK Tryz.prog 88 #[.string p0] w (.v (.one .bool)) (fun (x1 : Bool) w2 => ifB x1
  (K (.bool true) w2)
  (ifB (!p1)
  (K (.bool (p0.toList == (⟨#[]⟩ : ByteArray).toList)) w2)
  (K (.bool false) w2))))
  (ifB (!p1)
  (K (.bool (p0.toList == (⟨#[]⟩ : ByteArray).toList)) w)
  (K (.bool false) w))
def pl53 : Plan := .auto
theorem e53 (p0 : ByteArray) (p1 : Bool) (w : World) (K : Value → World → Prop) : vcFunc Tryz.prog Tryz.f53 pl53 [.string p0, .bool p1] w K = C53 p0 p1 w K := by kernel_rfl
theorem c53 (p0 : ByteArray) (p1 : Bool) (w : World) (K : Value → World → Prop) (h : C53 p0 p1 w K) : Ret Tryz.prog 53 #[.string p0, .bool p1] w K := by
  rw [← e53] at h
  exact vcFunc_sound (by kernel_rfl) Tryz.func53 h

/-- handfast/handfastref11.Check -/
def C29 (p0 : YZ16) (p1 : Bool) (w : World) (K : Value → World → Prop) : Prop :=
  NewK (.cells ((LZ16 p0).toArray) 43) w (fun g1 w2 => LdK (.int .i64) ((ad g1).add 0) w2 (fun (x3 : Int) => CallK Tryz.prog 52 #[.int .i64 x3] w2 (.v (.one .str)) (fun (x4 : ByteArray) w5 => DrewK w5 (fun w6 => HoldK (fun S7 => ifB (x4.toList == (⟨#[63]⟩ : ByteArray).toList)
  (K (.int .i64 1) w6)
  (InK S7 ((ad g1).add 1) (LdK .str ((ad g1).add 1) w6 (fun (x8 : ByteArray) => CallK Tryz.prog 54 #[.string x4, .int .u8 73] w6 (.v (.one .bool)) (fun (x9 : Bool) w10 => KeepK S7 w6 w10 (CallK Tryz.prog 53 #[.string x8, .bool x9] w10 (.v (.one .bool)) (fun (x11 : Bool) w12 => KeepK S7 w10 w12 (ifB (!x11)
  (K (.int .i64 1) w12)
  (InK S7 ((ad g1).add 2) (LdK .str ((ad g1).add 2) w12 (fun (x13 : ByteArray) => CallK Tryz.prog 54 #[.string x4, .int .u8 78] w12 (.v (.one .bool)) (fun (x14 : Bool) w15 => KeepK S7 w12 w15 (CallK Tryz.prog 53 #[.string x13, .bool x14] w15 (.v (.one .bool)) (fun (x16 : Bool) w17 => KeepK S7 w15 w17 (ifB (!x16)
  (K (.int .i64 1) w17)
  (InK S7 ((ad g1).add 3) (LdK .str ((ad g1).add 3) w17 (fun (x18 : ByteArray) => CallK Tryz.prog 54 #[.string x4, .int .u8 76] w17 (.v (.one .bool)) (fun (x19 : Bool) w20 => KeepK S7 w17 w20 (CallK Tryz.prog 53 #[.string x18, .bool x19] w20 (.v (.one .bool)) (fun (x21 : Bool) w22 => KeepK S7 w20 w22 (ifB (!x21)
  (K (.int .i64 1) w22)
  (InK S7 ((ad g1).add 4) (LdK .str ((ad g1).add 4) w22 (fun (x23 : ByteArray) => CallK Tryz.prog 54 #[.string x4, .int .u8 67] w22 (.v (.one .bool)) (fun (x24 : Bool) w25 => KeepK S7 w22 w25 (CallK Tryz.prog 53 #[.string x23, .bool x24] w25 (.v (.one .bool)) (fun (x26 : Bool) w27 => KeepK S7 w25 w27 (ifB (!x26)
  (K (.int .i64 1) w27)
  (JoinK (Bool × Unit) (fun J28 => CallK Tryz.prog 54 #[.string x4, .int .u8 68] w27 (.v (.one .bool)) (fun (x31 : Bool) w32 => ifB x31
  (LdK (.int .i64) ((ad g1).add 5) w32 (fun (x33 : Int) => ifB (decide (x33 < 0))
  (J28 (true, ()) w32)
  (LdK (.int .i64) ((ad g1).add 5) w32 (fun (x34 : Int) => ifB (decide (x34 > 10000))
  (J28 (true, ()) w32)
  (CallK Tryz.prog 54 #[.string x4, .int .u8 68] w32 (.v (.one .bool)) (fun (x35 : Bool) w36 => ifB (!x35)
  (LdK (.int .i64) ((ad g1).add 5) w36 (fun (x37 : Int) => ifB (x37 != 0)
  (J28 (true, ()) w36)
  (CallK Tryz.prog 54 #[.string x4, .int .u8 86] w36 (.v (.one .bool)) (fun (x38 : Bool) w39 => ifB x38
  (LdK (.int .i64) ((ad g1).add 6) w39 (fun (x40 : Int) => CallK Tryz.prog 55 #[.int .i64 x40] w39 (.v (.one .bool)) (fun (x41 : Bool) w42 => ifB (!x41)
  (J28 (true, ()) w42)
  (CallK Tryz.prog 54 #[.string x4, .int .u8 86] w42 (.v (.one .bool)) (fun (x43 : Bool) w44 => ifB (!x43)
  (LdK (.int .i64) ((ad g1).add 6) w44 (fun (x45 : Int) => J28 ((x45 != 0), ()) w44))
  (J28 (false, ()) w44))))))
  (CallK Tryz.prog 54 #[.string x4, .int .u8 86] w39 (.v (.one .bool)) (fun (x46 : Bool) w47 => ifB (!x46)
  (LdK (.int .i64) ((ad g1).add 6) w47 (fun (x48 : Int) => J28 ((x48 != 0), ()) w47))
  (J28 (false, ()) w47)))))))
  (CallK Tryz.prog 54 #[.string x4, .int .u8 86] w36 (.v (.one .bool)) (fun (x49 : Bool) w50 => ifB x49
  (LdK (.int .i64) ((ad g1).add 6) w50 (fun (x51 : Int) => CallK Tryz.prog 55 #[.int .i64 x51] w50 (.v (.one .bool)) (fun (x52 : Bool) w53 => ifB (!x52)
  (J28 (true, ()) w53)
  (CallK Tryz.prog 54 #[.string x4, .int .u8 86] w53 (.v (.one .bool)) (fun (x54 : Bool) w55 => ifB (!x54)
  (LdK (.int .i64) ((ad g1).add 6) w55 (fun (x56 : Int) => J28 ((x56 != 0), ()) w55))
  (J28 (false, ()) w55))))))
  (CallK Tryz.prog 54 #[.string x4, .int .u8 86] w50 (.v (.one .bool)) (fun (x57 : Bool) w58 => ifB (!x57)
  (LdK (.int .i64) ((ad g1).add 6) w58 (fun (x59 : Int) => J28 ((x59 != 0), ()) w58))
  (J28 (false, ()) w58)))))))))))
  (CallK Tryz.prog 54 #[.string x4, .int .u8 68] w32 (.v (.one .bool)) (fun (x60 : Bool) w61 => ifB (!x60)
  (LdK (.int .i64) ((ad g1).add 5) w61 (fun (x62 : Int) => ifB (x62 != 0)
  (J28 (true, ()) w61)
  (CallK Tryz.prog 54 #[.string x4, .int .u8 86] w61 (.v (.one .bool)) (fun (x63 : Bool) w64 => ifB x63
  (LdK (.int .i64) ((ad g1).add 6) w64 (fun (x65 : Int) => CallK Tryz.prog 55 #[.int .i64 x65] w64 (.v (.one .bool)) (fun (x66 : Bool) w67 => ifB (!x66)
  (J28 (true, ()) w67)
  (CallK Tryz.prog 54 #[.string x4, .int .u8 86] w67 (.v (.one .bool)) (fun (x68 : Bool) w69 => ifB (!x68)
  (LdK (.int .i64) ((ad g1).add 6) w69 (fun (x70 : Int) => J28 ((x70 != 0), ()) w69))
  (J28 (false, ()) w69))))))
  (CallK Tryz.prog 54 #[.string x4, .int .u8 86] w64 (.v (.one .bool)) (fun (x71 : Bool) w72 => ifB (!x71)
  (LdK (.int .i64) ((ad g1).add 6) w72 (fun (x73 : Int) => J28 ((x73 != 0), ()) w72))
  (J28 (false, ()) w72)))))))
  (CallK Tryz.prog 54 #[.string x4, .int .u8 86] w61 (.v (.one .bool)) (fun (x74 : Bool) w75 => ifB x74
  (LdK (.int .i64) ((ad g1).add 6) w75 (fun (x76 : Int) => CallK Tryz.prog 55 #[.int .i64 x76] w75 (.v (.one .bool)) (fun (x77 : Bool) w78 => ifB (!x77)
  (J28 (true, ()) w78)
  (CallK Tryz.prog 54 #[.string x4, .int .u8 86] w78 (.v (.one .bool)) (fun (x79 : Bool) w80 => ifB (!x79)
  (LdK (.int .i64) ((ad g1).add 6) w80 (fun (x81 : Int) => J28 ((x81 != 0), ()) w80))
  (J28 (false, ()) w80))))))
  (CallK Tryz.prog 54 #[.string x4, .int .u8 86] w75 (.v (.one .bool)) (fun (x82 : Bool) w83 => ifB (!x82)
  (LdK (.int .i64) ((ad g1).add 6) w83 (fun (x84 : Int) => J28 ((x84 != 0), ()) w83))
  (J28 (false, ()) w83)))))))))
  (fun _ s29 w30 => ifB s29.1
  (K (.int .i64 1) w30)
  (JoinK (Bool × Unit) (fun J85 => CallK Tryz.prog 54 #[.string x4, .int .u8 84] w30 (.v (.one .bool)) (fun (x88 : Bool) w89 => ifB (!x88)
  (LdK (.int .i64) (((ad g1).add 7).add 0) w89 (fun (x90 : Int) => ifB (x90 != 0)
  (J85 (true, ()) w89)
  (ifB p1
  (J85 (true, ()) w89)
  (LdK (.int .i64) ((ad g1).add 0) w89 (fun (x91 : Int) => ifB (x91 == 4)
  (LdK (.int .i64) ((ad g1).add 6) w89 (fun (x92 : Int) => ifB (decide (x92 < 0))
  (J85 (true, ()) w89)
  (LdK (.int .i64) ((ad g1).add 6) w89 (fun (x93 : Int) => J85 (decide (x93 > 1), ()) w89))))
  (J85 (false, ()) w89))))))
  (LdK (.int .i64) ((ad g1).add 0) w89 (fun (x94 : Int) => ifB (x94 == 4)
  (LdK (.int .i64) ((ad g1).add 6) w89 (fun (x95 : Int) => ifB (decide (x95 < 0))
  (J85 (true, ()) w89)
  (LdK (.int .i64) ((ad g1).add 6) w89 (fun (x96 : Int) => J85 (decide (x96 > 1), ()) w89))))
  (J85 (false, ()) w89)))))
  (fun _ s86 w87 => ifB s86.1
  (K (.int .i64 1) w87)
  (LdK (.int .i64) ((ad g1).add 0) w87 (fun (x97 : Int) => ifB (x97 == 2)
  (LdsK KZ3 ((ad g1).add 7) w87 (fun (x98 : YZ3) => CallK Tryz.prog 56 #[.agg (LZ3 x98).toArray, .bool false] w87 (.tup [.one .str, .one (.int .i64)]) (fun (x99 : ByteArray × Int × Unit) w100 => K (.int .i64 x99.2.1) w100)))
  (K (.int .i64 0) w87))))))))))))))))))))))))))))))))))))))))
def pl29 : Plan := (.seq .auto (.seq .auto (.seq (.seq (.held (.soft 0 (.soft 1 (.soft 2 (.soft 3 (.soft 4 (.soft 5 (.pick 6 (.pick 7 (.soft 8 (.soft 9 (.soft 10 (.soft 11 (.soft 12 (.soft 13 (.pick 14 (.pick 15 (.soft 16 (.soft 17 (.soft 18 (.soft 19 (.soft 20 (.soft 21 (.pick 22 (.pick 23 (.soft 24 (.soft 25 (.soft 26 (.soft 27 (.soft 28 (.soft 29 (.pick 30 (.pick 31 (.soft 32 (.soft 33 .done)) .stop) .stop))))))) .stop) .stop))))))) .stop) .stop))))))) .stop) .stop)))))))) .auto) (.seq (.join [(86, .one .bool)] .auto .auto) (.seq (.join [(113, .one .bool)] .auto .auto) .auto)))))
theorem e29 (p0 : YZ16) (p1 : Bool) (w : World) (K : Value → World → Prop) : vcFunc Tryz.prog Tryz.f29 pl29 [.agg (LZ16 p0).toArray, .bool p1] w K = C29 p0 p1 w K := by kernel_rfl
theorem c29 (p0 : YZ16) (p1 : Bool) (w : World) (K : Value → World → Prop) (h : C29 p0 p1 w K) : Ret Tryz.prog 29 #[.agg (LZ16 p0).toArray, .bool p1] w K := by
  rw [← e29] at h
  exact vcFunc_sound (by kernel_rfl) Tryz.func29 h

/-- handfast/handfastref11.Number -/
def C35 (p0 : Int) (w : World) (K : Value → World → Prop) : Prop :=
  LoopK (SlT × Int × Unit) (fun _ s1 w2 next3 => ifB (decide (s1.2.1 ≥ 0))
  (NnK (IntKind.u64.wrap (IntKind.i64.wrap (8 * s1.2.1))) (RunK Tryz.prog (Instr.buildSlice 22 1 #[(0, .int .u8 (IntKind.u8.wrap (Int.fdiv (IntKind.u64.wrap p0) (2 ^ (min (Int.toNat (IntKind.u64.wrap (IntKind.i64.wrap (8 * s1.2.1)))) 64)))))]) w2 (.v (.one .slc)) (fun (x4 : SlT) w5 => RunK Tryz.prog (Builtin.append_ #[22, 22] 22 #[.slice s1.1.1 s1.1.2.1 s1.1.2.2, .slice x4.1 x4.2.1 x4.2.2]) w5 (.v (.one .slc)) (fun (x6 : SlT) w7 => next3 ((x6.1, x6.2.1, x6.2.2), IntKind.i64.wrap (s1.2.1 - 1), ()) w7))))
  (K (.slice s1.1.1 s1.1.2.1 s1.1.2.2) w2))
  ((none, 0, 0), 7, ()) w
def pl35 : Plan := (.seq .auto (.seq .auto (.seq (.seq .auto (.block (.loop [(3, .one .slc), (4, .one (.int .i64))] .auto))) .auto)))
theorem e35 (p0 : Int) (w : World) (K : Value → World → Prop) : vcFunc Tryz.prog Tryz.f35 pl35 [.int .i64 p0] w K = C35 p0 w K := by kernel_rfl
theorem c35 (p0 : Int) (w : World) (K : Value → World → Prop) (h : C35 p0 w K) : Ret Tryz.prog 35 #[.int .i64 p0] w K := by
  rw [← e35] at h
  exact vcFunc_sound (by kernel_rfl) Tryz.func35 h

/-- handfast/handfastref11.row -/
def C65 (p0 : ByteArray) (w : World) (K : Value → World → Prop) : Prop :=
  RunK Tryz.prog (Instr.buildSlice 22 1 #[(0, .int .u8 (IntKind.u8.wrap (p0.size : Int)))]) w (.v (.one .slc)) (fun (x1 : SlT) w2 => RunK Tryz.prog (Builtin.append_ #[22, 9] 22 #[.slice x1.1 x1.2.1 x1.2.2, .string p0]) w2 (.v (.one .slc)) (fun (x3 : SlT) w4 => K (.slice x3.1 x3.2.1 x3.2.2) w4))
def pl65 : Plan := .auto
theorem e65 (p0 : ByteArray) (w : World) (K : Value → World → Prop) : vcFunc Tryz.prog Tryz.f65 pl65 [.string p0] w K = C65 p0 w K := by kernel_rfl
theorem c65 (p0 : ByteArray) (w : World) (K : Value → World → Prop) (h : C65 p0 w K) : Ret Tryz.prog 65 #[.string p0] w K := by
  rw [← e65] at h
  exact vcFunc_sound (by kernel_rfl) Tryz.func65 h

/-- handfast/handfastref11.Pack -/
def C36 (p0 : YZ16) (w : World) (K : Value → World → Prop) : Prop :=
  NewK (.cells ((LZ16 p0).toArray) 43) w (fun g1 w2 => LdsK KZ16 (ad g1) w2 (fun (x3 : YZ16) => CallK Tryz.prog 29 #[.agg (LZ16 x3).toArray, .bool false] w2 (.v (.one (.int .i64))) (fun (x4 : Int) w5 => ifB (x4 != 0)
  (K (.tuple #[.slice none 0 0, .int .i64 x4]) w5)
  (LdK (.int .i64) ((ad g1).add 0) w5 (fun (x6 : Int) => RunK Tryz.prog (Instr.buildSlice 22 1 #[(0, .int .u8 (IntKind.u8.wrap x6))]) w5 (.v (.one .slc)) (fun (x7 : SlT) w8 => RunK Tryz.prog (Instr.buildSlice 22 7 #[(0, .int .u8 73), (1, .int .u8 78), (2, .int .u8 76), (3, .int .u8 67), (4, .int .u8 68), (5, .int .u8 86), (6, .int .u8 84)]) w8 (.v (.one .slc)) (fun (x9 : SlT) w10 => RunK Tryz.prog (convert 22 22 (.slice x9.1 x9.2.1 x9.2.2)) w10 (.v (.one .slc)) (fun (x11 : SlT) w12 => LoopK (SlT × Int × Unit) (fun _ s13 w14 next15 => ifB (decide (s13.2.1 < (x11.2.1 : Int)))
  (IdxK x11.1 x11.2.1 s13.2.1 1 (fun a16 => LdK (.int .u8) a16 w14 (fun (x17 : Int) => LdK (.int .i64) ((ad g1).add 0) w14 (fun (x18 : Int) => CallK Tryz.prog 52 #[.int .i64 x18] w14 (.v (.one .str)) (fun (x19 : ByteArray) w20 => CallK Tryz.prog 54 #[.string x19, .int .u8 x17] w20 (.v (.one .bool)) (fun (x21 : Bool) w22 => ifB (!x21)
  (next15 ((s13.1.1, s13.1.2.1, s13.1.2.2), IntKind.i64.wrap (s13.2.1 + 1), ()) w22)
  (ifB (x17 == 73)
  (LdK .str ((ad g1).add 1) w22 (fun (x23 : ByteArray) => CallK Tryz.prog 65 #[.string x23] w22 (.v (.one .slc)) (fun (x24 : SlT) w25 => RunK Tryz.prog (Builtin.append_ #[22, 22] 22 #[.slice s13.1.1 s13.1.2.1 s13.1.2.2, .slice x24.1 x24.2.1 x24.2.2]) w25 (.v (.one .slc)) (fun (x26 : SlT) w27 => next15 ((x26.1, x26.2.1, x26.2.2), IntKind.i64.wrap (s13.2.1 + 1), ()) w27))))
  (ifB (x17 == 78)
  (LdK .str ((ad g1).add 2) w22 (fun (x28 : ByteArray) => CallK Tryz.prog 65 #[.string x28] w22 (.v (.one .slc)) (fun (x29 : SlT) w30 => RunK Tryz.prog (Builtin.append_ #[22, 22] 22 #[.slice s13.1.1 s13.1.2.1 s13.1.2.2, .slice x29.1 x29.2.1 x29.2.2]) w30 (.v (.one .slc)) (fun (x31 : SlT) w32 => next15 ((x31.1, x31.2.1, x31.2.2), IntKind.i64.wrap (s13.2.1 + 1), ()) w32))))
  (ifB (x17 == 76)
  (LdK .str ((ad g1).add 3) w22 (fun (x33 : ByteArray) => CallK Tryz.prog 65 #[.string x33] w22 (.v (.one .slc)) (fun (x34 : SlT) w35 => RunK Tryz.prog (Builtin.append_ #[22, 22] 22 #[.slice s13.1.1 s13.1.2.1 s13.1.2.2, .slice x34.1 x34.2.1 x34.2.2]) w35 (.v (.one .slc)) (fun (x36 : SlT) w37 => next15 ((x36.1, x36.2.1, x36.2.2), IntKind.i64.wrap (s13.2.1 + 1), ()) w37))))
  (ifB (x17 == 67)
  (LdK .str ((ad g1).add 4) w22 (fun (x38 : ByteArray) => CallK Tryz.prog 65 #[.string x38] w22 (.v (.one .slc)) (fun (x39 : SlT) w40 => RunK Tryz.prog (Builtin.append_ #[22, 22] 22 #[.slice s13.1.1 s13.1.2.1 s13.1.2.2, .slice x39.1 x39.2.1 x39.2.2]) w40 (.v (.one .slc)) (fun (x41 : SlT) w42 => next15 ((x41.1, x41.2.1, x41.2.2), IntKind.i64.wrap (s13.2.1 + 1), ()) w42))))
  (ifB (x17 == 68)
  (LdK (.int .i64) ((ad g1).add 5) w22 (fun (x43 : Int) => CallK Tryz.prog 35 #[.int .i64 x43] w22 (.v (.one .slc)) (fun (x44 : SlT) w45 => RunK Tryz.prog (Builtin.append_ #[22, 22] 22 #[.slice s13.1.1 s13.1.2.1 s13.1.2.2, .slice x44.1 x44.2.1 x44.2.2]) w45 (.v (.one .slc)) (fun (x46 : SlT) w47 => next15 ((x46.1, x46.2.1, x46.2.2), IntKind.i64.wrap (s13.2.1 + 1), ()) w47))))
  (ifB (x17 == 86)
  (LdK (.int .i64) ((ad g1).add 6) w22 (fun (x48 : Int) => CallK Tryz.prog 35 #[.int .i64 x48] w22 (.v (.one .slc)) (fun (x49 : SlT) w50 => RunK Tryz.prog (Builtin.append_ #[22, 22] 22 #[.slice s13.1.1 s13.1.2.1 s13.1.2.2, .slice x49.1 x49.2.1 x49.2.2]) w50 (.v (.one .slc)) (fun (x51 : SlT) w52 => next15 ((x51.1, x51.2.1, x51.2.2), IntKind.i64.wrap (s13.2.1 + 1), ()) w52))))
  (LdsK KZ3 ((ad g1).add 7) w22 (fun (x53 : YZ3) => CallK Tryz.prog 56 #[.agg (LZ3 x53).toArray, .bool false] w22 (.tup [.one .str, .one (.int .i64)]) (fun (x54 : ByteArray × Int × Unit) w55 => ifB (x54.2.1 != 0)
  (K (.tuple #[.slice none 0 0, .int .i64 x54.2.1]) w55)
  (NnK 8 (RunK Tryz.prog (Instr.buildSlice 22 2 #[(0, .int .u8 (IntKind.u8.wrap (Int.fdiv (x54.1.size : Int) (2 ^ (min (Int.toNat 8) 64))))), (1, .int .u8 (IntKind.u8.wrap (x54.1.size : Int)))]) w55 (.v (.one .slc)) (fun (x56 : SlT) w57 => RunK Tryz.prog (Builtin.append_ #[22, 22] 22 #[.slice s13.1.1 s13.1.2.1 s13.1.2.2, .slice x56.1 x56.2.1 x56.2.2]) w57 (.v (.one .slc)) (fun (x58 : SlT) w59 => RunK Tryz.prog (Builtin.append_ #[22, 9] 22 #[.slice x58.1 x58.2.1 x58.2.2, .string x54.1]) w59 (.v (.one .slc)) (fun (x60 : SlT) w61 => next15 ((x60.1, x60.2.1, x60.2.2), IntKind.i64.wrap (s13.2.1 + 1), ()) w61))))))))))))))))))))
  (K (.tuple #[.slice s13.1.1 s13.1.2.1 s13.1.2.2, .int .i64 0]) w14))
  ((x7.1, x7.2.1, x7.2.2), 0, ()) w12))))))))
def pl36 : Plan := (.seq .auto (.seq .auto (.seq .auto (.seq (.seq .auto (.block (.loop [(5, .one .slc), (22, .one (.int .i64))] .auto))) .auto))))
theorem e36 (p0 : YZ16) (w : World) (K : Value → World → Prop) : vcFunc Tryz.prog Tryz.f36 pl36 [.agg (LZ16 p0).toArray] w K = C36 p0 w K := by kernel_rfl
theorem c36 (p0 : YZ16) (w : World) (K : Value → World → Prop) (h : C36 p0 w K) : Ret Tryz.prog 36 #[.agg (LZ16 p0).toArray] w K := by
  rw [← e36] at h
  exact vcFunc_sound (by kernel_rfl) Tryz.func36 h

end Go.Proofs.YtdphmcanlhcokaaGreatDoor

/-! ### RefEv -/
set_option linter.unusedVariables false
set_option maxRecDepth 100000
namespace Go.Proofs.YtdphmcanlhcokaaGreatDoor
open Vc

abbrev EvR := Int × ByteArray × ByteArray × ByteArray × ByteArray × Int × Int × Int × ByteArray × Int × (Option Addr × Nat × Nat) × Unit
def evR (e : EvT) (v : TV) : EvR := (e.1, e.2.1, e.2.2.1, e.2.2.2.1, e.2.2.2.2.1, e.2.2.2.2.2.1, e.2.2.2.2.2.2.1, v.1, v.2.1, v.2.2.1, v.2.2.2.1, ())
def evRL (x : EvR) : List Value := [.int .i64 x.1, .string x.2.1, .string x.2.2.1, .string x.2.2.2.1, .string x.2.2.2.2.1, .int .i64 x.2.2.2.2.2.1, .int .i64 x.2.2.2.2.2.2.1, .int .i64 x.2.2.2.2.2.2.2.1, .string x.2.2.2.2.2.2.2.2.1, .int .i64 x.2.2.2.2.2.2.2.2.2.1, .slice x.2.2.2.2.2.2.2.2.2.2.1.1 x.2.2.2.2.2.2.2.2.2.2.1.2.1 x.2.2.2.2.2.2.2.2.2.2.1.2.2]
def evRA (x : EvR) : Value := .agg #[.int .i64 x.1, .string x.2.1, .string x.2.2.1, .string x.2.2.2.1, .string x.2.2.2.2.1, .int .i64 x.2.2.2.2.2.1, .int .i64 x.2.2.2.2.2.2.1, .int .i64 x.2.2.2.2.2.2.2.1, .string x.2.2.2.2.2.2.2.2.1, .int .i64 x.2.2.2.2.2.2.2.2.2.1, .slice x.2.2.2.2.2.2.2.2.2.2.1.1 x.2.2.2.2.2.2.2.2.2.2.1.2.1 x.2.2.2.2.2.2.2.2.2.2.1.2.2]

/-! ### Plain -/
def textF (s : ByteArray) (named : Bool) : Bool := if named = true then nameB s else emptyB s
def badN (e : EvT) : Bool := (hasF e.1 68 && (decide (e.2.2.2.2.2.1 < 0) || decide (e.2.2.2.2.2.1 > 10000))) || ((!hasF e.1 68 && (e.2.2.2.2.2.1 != 0)) || ((hasF e.1 86 && !validF e.2.2.2.2.2.2.1) || (!hasF e.1 86 && (e.2.2.2.2.2.2.1 != 0))))
def badT (e : EvT) : Bool := (!hasF e.1 84 && !nilT e.2.2.2.2.2.2.2.1) || ((e.1 == 4) && (decide (e.2.2.2.2.2.2.1 < 0) || decide (e.2.2.2.2.2.2.1 > 1)))
theorem text_two (s : ByteArray) (h : Bool) : ((emptyB s || h) && (!h || nameB s)) = textF s h := by
  cases h <;> simp [textF]
theorem checkF_one {e : EvT} (tr : Int) (h : onlyF e = false ∨ namedF e = false ∨ e.2.2.2.2.2.1 < 0 ∨ e.2.2.2.2.2.1 > 10000 ∨ validF e.2.2.2.2.2.2.1 = false ∨ (e.1 = 4 ∧ e.2.2.2.2.2.2.1 ≠ 0 ∧ e.2.2.2.2.2.2.1 ≠ 1)) : checkF e tr = 1 := by
  unfold checkF
  by_cases c0 : fieldsF e.1 = [63]
  · rw [if_pos c0]
  rw [if_neg c0]
  by_cases c1 : onlyF e = false
  · rw [if_pos c1]
  rw [if_neg c1]
  by_cases c2 : namedF e = false
  · rw [if_pos c2]
  rw [if_neg c2]
  by_cases c3 : e.2.2.2.2.2.1 < 0
  · rw [if_pos c3]
  rw [if_neg c3]
  by_cases c4 : e.2.2.2.2.2.1 > 10000
  · rw [if_pos c4]
  rw [if_neg c4]
  by_cases c5 : validF e.2.2.2.2.2.2.1 = false
  · rw [if_pos c5]
  rw [if_neg c5]
  by_cases c6 : e.1 = 4 ∧ e.2.2.2.2.2.2.1 ≠ 0 ∧ e.2.2.2.2.2.2.1 ≠ 1
  · rw [if_pos c6]
  · exfalso
    rcases h with h | h | h | h | h | h
    · exact c1 h
    · exact c2 h
    · exact c3 h
    · exact c4 h
    · exact c5 h
    · exact c6 h
theorem text_bad {s : ByteArray} {h : Bool} (t : textF s h = false) : (emptyB s || h) = false ∨ (!h || nameB s) = false := by
  rw [← text_two] at t
  cases hx : (emptyB s || h)
  · exact .inl rfl
  · rw [hx, Bool.true_and] at t; exact .inr t
theorem text_good {s : ByteArray} {h : Bool} (t : textF s h = true) : (emptyB s || h) = true ∧ (!h || nameB s) = true := by
  rw [← text_two, Bool.and_eq_true] at t; exact t

theorem only_no {e : EvT} (h : (emptyB e.2.1 || hasF e.1 73) = false ∨ (emptyB e.2.2.1 || hasF e.1 78) = false ∨ (emptyB e.2.2.2.1 || hasF e.1 76) = false ∨ (emptyB e.2.2.2.2.1 || hasF e.1 67) = false ∨ (e.2.2.2.2.2.1 == 0 || hasF e.1 68) = false ∨ (e.2.2.2.2.2.2.1 == 0 || hasF e.1 86) = false ∨ (nilT e.2.2.2.2.2.2.2.1 || hasF e.1 84) = false) : onlyF e = false := by
  unfold onlyF
  rcases h with h | h | h | h | h | h | h <;> simp [h]
theorem named_no {e : EvT} (h : (!hasF e.1 73 || nameB e.2.1) = false ∨ (!hasF e.1 78 || nameB e.2.2.1) = false ∨ (!hasF e.1 76 || nameB e.2.2.2.1) = false ∨ (!hasF e.1 67 || nameB e.2.2.2.2.1) = false) : namedF e = false := by
  unfold namedF
  rcases h with h | h | h | h <;> simp [h]
theorem badN_one {e : EvT} (h : badN e = true) (tr : Int) : checkF e tr = 1 := by
  unfold badN at h
  simp only [Bool.or_eq_true, Bool.and_eq_true, decide_eq_true_eq, Bool.not_eq_true', bne_iff_ne] at h
  refine checkF_one tr ?_
  rcases h with ⟨_, h | h⟩ | ⟨h1, h2⟩ | ⟨_, h⟩ | ⟨h1, h2⟩
  · exact .inr (.inr (.inl h))
  · exact .inr (.inr (.inr (.inl h)))
  · exact .inl (only_no (.inr (.inr (.inr (.inr (.inl (by rw [h1, beq_false_of_ne h2]; rfl)))))))
  · exact .inr (.inr (.inr (.inr (.inl h))))
  · exact .inl (only_no (.inr (.inr (.inr (.inr (.inr (.inl (by rw [h1, beq_false_of_ne h2]; rfl))))))))
theorem badT_one {e : EvT} (h : badT e = true) (tr : Int) : checkF e tr = 1 := by
  unfold badT at h
  simp only [Bool.or_eq_true, Bool.and_eq_true, decide_eq_true_eq, Bool.not_eq_true', beq_iff_eq] at h
  refine checkF_one tr ?_
  rcases h with ⟨h1, h2⟩ | ⟨h1, h2⟩
  · exact .inl (only_no (.inr (.inr (.inr (.inr (.inr (.inr (by rw [h1, h2]; rfl))))))))
  · exact .inr (.inr (.inr (.inr (.inr ⟨h1, by omega, by omega⟩))))
theorem text_one {e : EvT} (tr : Int) (h : textF e.2.1 (hasF e.1 73) = false ∨ textF e.2.2.1 (hasF e.1 78) = false ∨ textF e.2.2.2.1 (hasF e.1 76) = false ∨ textF e.2.2.2.2.1 (hasF e.1 67) = false) : checkF e tr = 1 := by
  refine checkF_one tr ?_
  rcases h with h | h | h | h <;> rcases text_bad h with h | h
  · exact .inl (only_no (.inl h))
  · exact .inr (.inl (named_no (.inl h)))
  · exact .inl (only_no (.inr (.inl h)))
  · exact .inr (.inl (named_no (.inr (.inl h))))
  · exact .inl (only_no (.inr (.inr (.inl h))))
  · exact .inr (.inl (named_no (.inr (.inr (.inl h)))))
  · exact .inl (only_no (.inr (.inr (.inr (.inl h)))))
  · exact .inr (.inl (named_no (.inr (.inr (.inr h)))))
theorem check_good {e : EvT} (tr : Int) (hf : fieldsF e.1 ≠ [63]) (h1 : textF e.2.1 (hasF e.1 73) = true) (h2 : textF e.2.2.1 (hasF e.1 78) = true) (h3 : textF e.2.2.2.1 (hasF e.1 76) = true) (h4 : textF e.2.2.2.2.1 (hasF e.1 67) = true) (hN : badN e = false) (hT : badT e = false) : checkF e tr = if e.1 = 2 then tr else 0 := by
  have v0 : validF 0 = true := by decide
  have t1 := text_good h1; have t2 := text_good h2; have t3 := text_good h3; have t4 := text_good h4
  unfold badN at hN
  unfold badT at hT
  simp only [Bool.or_eq_false_iff, Bool.and_eq_false_iff, decide_eq_false_iff_not, Bool.not_eq_false', bne_eq_false_iff_eq, beq_eq_false_iff_ne] at hN hT
  obtain ⟨n1, n2, n3, n4⟩ := hN
  obtain ⟨q1, q2⟩ := hT
  have d0 : (e.2.2.2.2.2.1 == 0 || hasF e.1 68) = true := by rcases n2 with h | h; rw [h]; simp; rw [h]; rfl
  have d1 : ¬ e.2.2.2.2.2.1 < 0 ∧ ¬ e.2.2.2.2.2.1 > 10000 := by
    rcases n1 with h | h
    · rcases n2 with h' | h'
      · rw [h] at h'; cases h'
      · rw [h']; decide
    · exact h
  have d2 : (e.2.2.2.2.2.2.1 == 0 || hasF e.1 86) = true := by rcases n4 with h | h; rw [h]; simp; rw [h]; rfl
  have d3 : validF e.2.2.2.2.2.2.1 = true := by
    rcases n3 with h | h
    · rcases n4 with h' | h'
      · rw [h] at h'; cases h'
      · rw [h']; exact v0
    · exact h
  have d4 : (nilT e.2.2.2.2.2.2.2.1 || hasF e.1 84) = true := by rcases q1 with h | h <;> rw [h] <;> simp
  have o : onlyF e = true := by unfold onlyF; rw [t1.1, t2.1, t3.1, t4.1, d0, d2, d4]; rfl
  have n : namedF e = true := by unfold namedF; rw [t1.2, t2.2, t3.2, t4.2]; rfl
  unfold checkF
  rw [if_neg hf, if_neg (by rw [o]; decide), if_neg (by rw [n]; decide), if_neg d1.1, if_neg d1.2, if_neg (by rw [d3]; decide), if_neg (fun t => ?_)]
  rcases q2 with h | h
  · exact h t.1
  · exact t.2.2 (by have := t.2.1; omega)

/-! ### Walks -/
theorem strk_at {a : List UInt8} {i : Int} (h0 : 0 ≤ i) (h1 : i < a.length) {K : Int → Prop} (k : K ((a.getD i.toNat 0).toNat : Int)) : StrK (str a) i K := by
  refine ⟨a.getD i.toNat 0, h0, ?_, k⟩
  have hlt : i.toNat < (str a).size := by rw [str_size]; omega
  rw [getElem?_pos (str a) i.toNat hlt, List.getD_eq_getElem?_getD, List.getElem?_eq_getElem (by omega)]
  rfl
theorem fields11_spec (k : Int) (w : World) : Ret Tryz.prog 52 #[.int .i64 k] w fun r w' => r = .string (str (fieldsF k)) ∧ w = w' := by
  refine c52 k w _ ?_
  unfold C52 fieldsF
  refine ifB.eq (fun h => by rw [if_pos h]; exact ⟨rfl, rfl⟩) (fun h => ?_)
  rw [if_neg h]
  refine ifB.eq (fun h => by rw [if_pos h]; exact ⟨rfl, rfl⟩) (fun h => ?_)
  rw [if_neg h]
  refine ifB.eq (fun h => by rw [if_pos h]; exact ⟨rfl, rfl⟩) (fun h => ?_)
  rw [if_neg h]
  refine ifB.eq (fun h => by rw [if_pos h]; exact ⟨rfl, rfl⟩) (fun h => ?_)
  rw [if_neg h]
  refine ifB.eq (fun h => by rw [if_pos h]; exact ⟨rfl, rfl⟩) (fun h => ?_)
  rw [if_neg h]
  refine ifB.eq (fun h => by rw [if_pos h]; exact ⟨rfl, rfl⟩) (fun h => ?_)
  rw [if_neg h]
  exact ⟨rfl, rfl⟩

theorem drop_contains {l : List UInt8} {c : UInt8} {i : Nat} (h : i < l.length) : (l.drop i).contains c = ((l.getD i 0 == c) || (l.drop (i + 1)).contains c) := by
  rw [List.drop_eq_getElem_cons h, List.contains_cons, List.getD_eq_getElem?_getD, List.getElem?_eq_getElem h]
  show (c == l[i] || _) = ((l[i] == c) || _)
  rw [Bool.beq_comm]

theorem has11_spec (l : List UInt8) (hl : l.length ≤ 1000) (c : UInt8) (w : World) : Ret Tryz.prog 54 #[.string (str l), .int .u8 (c.toNat : Int)] w fun r w' => r = .bool (l.contains c) ∧ w = w' := by
  refine c54 _ _ w _ ?_
  unfold C54
  rw [str_size]
  refine LoopK.of (fun s w' => ∃ i : Nat, s.1 = i ∧ i ≤ l.length ∧ l.contains c = (l.drop i).contains c ∧ w = w') (fun s _ => l.length - s.1.toNat) ⟨0, rfl, by omega, rfl, rfl⟩ ?_
  rintro _ ⟨i, _⟩ _ ⟨n, rfl, hn, hc, rfl⟩
  dsimp only
  refine ifB.dec (fun hlt => ?_) (fun hge => ?_)
  · have hlt' : n < l.length := by omega
    rw [drop_contains hlt'] at hc
    refine strk_at (by omega) (by omega) ?_
    rw [Int.toNat_natCast]
    refine ifB.eq (fun e => ?_) (fun e => ?_)
    · have : l.getD n 0 = c := UInt8.toNat_inj.1 (by omega)
      exact ⟨by rw [hc, this]; simp, rfl⟩
    · have : l.getD n 0 ≠ c := fun t => e (by rw [t])
      rw [beq_false_of_ne this, Bool.false_or] at hc
      rw [wI (x := (n : Int) + 1) (by omega) (by omega)]
      exact ⟨⟨n + 1, rfl, by omega, hc, rfl⟩, by omega⟩
  · rw [List.drop_eq_nil_of_le (by omega)] at hc
    exact ⟨by rw [hc]; rfl, rfl⟩
theorem fieldsF_len (k : Int) : (fieldsF k).length ≤ 3 := by
  unfold fieldsF
  repeat' split
  all_goals simp
theorem hasK (k : Int) (c : UInt8) (w : World) {K : Bool → World → Prop} (h : K (hasF k c) w) : CallK Tryz.prog 54 #[.string (str (fieldsF k)), .int .u8 (c.toNat : Int)] w (.v (.one .bool)) (fun (x : Bool) w' => K x w') := by
  have := fieldsF_len k
  refine CallK.of (has11_spec (fieldsF k) (by omega) c w) ?_
  rintro _ _ ⟨rfl, rfl⟩
  exact ⟨_, rfl, h⟩

theorem text11_spec (s : ByteArray) (hs : s.size ≤ 1000000) (named : Bool) (w : World) : Ret Tryz.prog 53 #[.string s, .bool named] w fun r w' => r = .bool (textF s named) ∧ Fr none1 w w' := by
  obtain ⟨l, rfl⟩ : ∃ l, s = str l := ⟨s.data.toList, (str_of s).symm⟩
  rw [str_size] at hs
  refine c53 _ named w _ ?_
  unfold C53 textF
  refine ifB.by (fun h => ?_) (fun h => ?_)
  · rw [if_pos h]
    refine CallK.of (rname_spec l hs w) ?_
    rintro _ w1 ⟨rfl, f1⟩
    have hn : nameB (str l) = nameF 0 (runesL l) := by unfold nameB; rw [str_list]
    refine ⟨_, rfl, ifB.by (fun e => ⟨by rw [hn, e], f1⟩) (fun e => ?_)⟩
    subst h
    exact ifB.f rfl ⟨by rw [hn, e], f1⟩
  · subst h
    exact ifB.t rfl ⟨rfl, Fr.refl _ _⟩
theorem textK (s : ByteArray) (hs : s.size ≤ 1000000) (named : Bool) (w : World) {K : Bool → World → Prop} (h : ∀ w', Fr none1 w w' → K (textF s named) w') : CallK Tryz.prog 53 #[.string s, .bool named] w (.v (.one .bool)) (fun (x : Bool) w' => K x w') := by
  refine CallK.of (text11_spec s hs named w) ?_
  rintro _ w1 ⟨rfl, f1⟩
  exact ⟨_, rfl, h w1 f1⟩

theorem check11_spec (e : EvT) (t : Tm) (he : e.2.2.2.2.2.2.2.1 = t.v) (hz : smallE e) (hn : nodesT t ≤ 30000) (hsh : shortT t) {w : World} {S : Nat → Prop} {v : TV} (h : IsTr w S (trT t) v) (hS : ∀ k, S k → k < w.heap.size) :
    Ret Tryz.prog 29 #[evRA (evR e v), .bool false] w fun r w' => r = .int .i64 (checkF e (writeT t).2) ∧ Fr none1 w w' := by
  refine c29 (evR e v) false w _ ?_
  unfold C29
  refine NewK.of fun g w1 hg hb f1 _ => ?_
  refine LdK.fld hb (x := e.1) rfl ?_
  refine CallK.of (fields11_spec e.1 w1) ?_
  rintro _ _ ⟨rfl, rfl⟩
  refine ⟨_, rfl, ?_⟩
  have e63 : (⟨#[63]⟩ : ByteArray) = str [63] := rfl
  have q63 : ((str (fieldsF e.1)).toList == (⟨#[63]⟩ : ByteArray).toList) = decide (fieldsF e.1 = [63]) := by rw [e63, str_beq]
  rw [q63]
  refine DrewK.of fun w2 _ f2 => HoldK.all ?_
  refine ifB.dec (fun h63 => ⟨by unfold checkF; rw [if_pos h63], f1.trans f2⟩) (fun h63 => ?_)
  refine InK.all (LdK.fld (f2.keep0 hb) (x := e.2.1) rfl ?_)
  refine hasK e.1 73 w2 (KeepK.of (Fr.refl _ _) ?_)
  refine textK _ hz.1 _ w2 fun w3 f3 => KeepK.of f3 ?_
  have f23 := f2.trans f3
  refine ifB.not (ifB.by (fun h1 => ?_) (fun h1 => ⟨by rw [text_one _ (.inl h1)], f1.trans f23⟩))
  refine InK.all (LdK.fld (f23.keep0 hb) (x := e.2.2.1) rfl ?_)
  refine hasK e.1 78 w3 (KeepK.of (Fr.refl _ _) ?_)
  refine textK _ hz.2.1 _ w3 fun w4 f4 => KeepK.of f4 ?_
  have f24 := f23.trans f4
  refine ifB.not (ifB.by (fun h2 => ?_) (fun h2 => ⟨by rw [text_one _ (.inr (.inl h2))], f1.trans f24⟩))
  refine InK.all (LdK.fld (f24.keep0 hb) (x := e.2.2.2.1) rfl ?_)
  refine hasK e.1 76 w4 (KeepK.of (Fr.refl _ _) ?_)
  refine textK _ hz.2.2.1 _ w4 fun w5 f5 => KeepK.of f5 ?_
  have f25 := f24.trans f5
  refine ifB.not (ifB.by (fun h3 => ?_) (fun h3 => ⟨by rw [text_one _ (.inr (.inr (.inl h3)))], f1.trans f25⟩))
  refine InK.all (LdK.fld (f25.keep0 hb) (x := e.2.2.2.2.1) rfl ?_)
  refine hasK e.1 67 w5 (KeepK.of (Fr.refl _ _) ?_)
  refine textK _ hz.2.2.2 _ w5 fun w6 f6 => KeepK.of f6 ?_
  have f26 := f25.trans f6
  refine ifB.not (ifB.by (fun h4 => ?_) (fun h4 => ⟨by rw [text_one _ (.inr (.inr (.inr h4)))], f1.trans f26⟩))
  have hb6 := f26.keep0 hb
  have f16 := f1.trans f26
  have valK : ∀ {K : Bool → World → Prop}, K (validF e.2.2.2.2.2.2.1) w6 → CallK Tryz.prog 55 #[.int .i64 e.2.2.2.2.2.2.1] w6 (.v (.one .bool)) (fun (x : Bool) w' => K x w') := fun {K} k => by
    refine CallK.of (rvalid_spec _ w6) ?_
    rintro _ _ ⟨rfl, rfl⟩
    exact ⟨_, rfl, k⟩
  refine JoinK.of (fun c w' => c.1 = badN e ∧ w6 = w') ?_ ?_
  · unfold badN
    repeat' first
      | (refine hasK e.1 68 w6 ?_)
      | (refine hasK e.1 86 w6 ?_)
      | (refine LdK.fld hb6 (x := e.2.2.2.2.2.1) rfl ?_)
      | (refine LdK.fld hb6 (x := e.2.2.2.2.2.2.1) rfl ?_)
      | (refine valK ?_)
      | (refine ifB.by (fun _ => ?_) (fun _ => ?_))
      | (refine And.intro ?_ rfl)
      | fail
    all_goals (simp_all [evR] <;> omega)
  rintro _ ⟨c, _⟩ _ ⟨hc, rfl⟩
  dsimp only at hc ⊢
  rw [hc]
  refine ifB.by (fun hN => ⟨by rw [badN_one hN], f16⟩) (fun hN => ?_)
  have hkind : (v.1 = 0) = (nilT t.v = true) := by
    cases t <;> (have := h.kind; simp only [trT] at h; have hk := h.kind; rw [hk]; simp [Tm.v, nilT])
  have hK : ∀ {K : Int → Prop}, K v.1 → LdK (.int .i64) (((⟨g, 0, none⟩ : Addr).add 7).add 0) w6 K := fun {K} k => by
    rw [addr_add, addr_add]
    exact LdK.cell (x := v.1) (by rw [cell_blk hb6]; rfl) k
  refine JoinK.of (fun c w' => c.1 = badT e ∧ w6 = w') ?_ ?_
  · unfold badT
    rw [he]
    repeat' first
      | (refine hasK e.1 84 w6 ?_)
      | (refine hK ?_)
      | (refine LdK.fld hb6 (x := e.1) rfl ?_)
      | (refine LdK.fld hb6 (x := e.2.2.2.2.2.2.1) rfl ?_)
      | (refine ifB.f rfl ?_)
      | (refine ifB.by (fun _ => ?_) (fun _ => ?_))
      | (refine And.intro ?_ rfl)
      | fail
    all_goals (simp_all <;> omega)
  rintro _ ⟨c, _⟩ _ ⟨hc, rfl⟩
  dsimp only at hc ⊢
  rw [hc]
  refine ifB.by (fun hT => ⟨by rw [badT_one hT], f16⟩) (fun hT => ?_)
  rw [check_good _ h63 h1 h2 h3 h4 hN hT]
  refine LdK.fld hb6 (x := e.1) rfl (ifB.eq (fun h22 => ?_) (fun h22 => ⟨by rw [if_neg h22], f16⟩))
  rw [if_pos h22]
  have tv : ∀ {K : TV → Prop}, K v → LdsK TVK ((⟨g, 0, none⟩ : Addr).add 7) w6 K := fun {K} k => ⟨v, cellsAt_shift (m := 7) _ 0 (cellsAt_all hb6 (Cs.vals TVK v) 7 fun j hj => (by
    match j, hj with
    | 0, _ => rfl
    | 1, _ => rfl
    | 2, _ => rfl
    | 3, _ => rfl
    | j + 4, h => exact absurd h (by show ¬ j + 4 < 4; omega))), k⟩
  refine tv ?_
  have hc := cnt_trT t
  have hl := len_trT t hsh
  refine CallK.of (rwrite_spec (trT t) false (by omega) (short_trT t hsh) (by omega) (h.keep0 f16) (fun k hk => by have := hS k hk; have := f16.size; omega)) ?_
  rintro _ w7 ⟨rfl, f7⟩
  rw [writeR_trT]
  exact ⟨(str (writeT t).1, (writeT t).2, ()), rfl, rfl, f16.trans f7⟩

end Go.Proofs.YtdphmcanlhcokaaGreatDoor

/-! ### PlainSpec -/
set_option linter.unusedVariables false
set_option maxRecDepth 100000
namespace Go.Proofs.YtdphmcanlhcokaaGreatDoor
open Vc

theorem two_gen (k : Int) {w : World} {S : Nat → Prop} {t u : Tr} {a b : TV} (ha : IsTr w S t a) (hb : IsTr w S u b) (hS : ∀ j, S j → j < w.heap.size) : Ret Tryz.prog 114 #[.int .i64 k, tvA a, tvA b] w fun r w' => ∃ v : Sl, r = tvA (k, str [], 0, v, ()) ∧ IsTr w' (fun j => S j ∨ since w w' j) (.mk k [] 0 [t, u]) (k, str [], 0, v, ()) ∧ Fr none1 w w' := by
  refine c114 k a b w _ ?_
  unfold C114
  refine NewK.of fun g1 w1 hg1 hb1 f1 hs1 => NewK.of fun g2 w2 hg2 hb2 f2 hs2 => TB.new fun g3 w3 hg3 t3 f3 hs3 => ?_
  have t1 : TB w3 g1 a := (f2.trans f3).keep0 hb1
  have t2 : TB w3 g2 b := f3.keep0 hb2
  have f13 := (f1.trans f2).trans f3
  refine t1.ld (t2.ld ?_)
  refine tr_lit [a, b] (by show 2 ≤ 3; omega) fun u' w4 hu hul f4 hf4 => ?_
  have f14 := f13.trans f4
  have hsz := f13.size
  refine StsK.blk (cs := tvL (0, str [], 0, (none, 0, 0), ())) (vs := tvL (k, str [], 0, u', ())) (t3.keep0 f4) rfl rfl fun w5 hb5 f5 _ => LdsK.blk (cks := TVK) (x := (k, str [], 0, u', ())) hb5 ?_
  refine ⟨u', rfl, ?_, f14.fresh f5 (by omega)⟩
  have hM1 : IsTr w4 (fun j => (S j ∨ since w w4 j) ∧ j ≠ g3) (.mk k [] 0 [t, u]) (k, str [], 0, u', ()) := by
    unfold IsTr
    refine ⟨rfl, rfl, rfl, [a, b], hu.rd, hul.symm, fun j hj => ⟨.inr ⟨by have := hf4 j hj; omega, hu.lt hj⟩, by have := hf4 j hj; have := lt_of_blk t3; omega⟩, ?_⟩
    have hkk : IsTrs w4 S [t, u] [a, b] := by
      unfold IsTrs; exact ⟨a, [b], rfl, IsTr.keep0 ha f14, by unfold IsTrs; exact ⟨b, [], rfl, IsTr.keep0 hb f14, by unfold IsTrs; rfl⟩⟩
    exact IsTrs.mono (fun j hj => ⟨.inl hj, by have := hS j hj; have := f1.size; have := f2.size; omega⟩) _ _ hkk
  exact IsTr.mono (fun j hj => hj.1.elim .inl fun h => .inr ⟨h.1, Nat.lt_of_lt_of_le h.2 f5.size⟩) _ _ (IsTr.keep f5 (fun j hj t => hj.2 t) _ _ hM1)
theorem two_spec (k : Int) {w0 w : World} {t u : Tr} {a b : TV} (ha : Made w0 w t a) (hb : Made w0 w u b) (h0 : w0.heap.size ≤ w.heap.size) : Ret Tryz.prog 114 #[.int .i64 k, tvA a, tvA b] w fun r w' => ∃ v : Sl, r = tvA (k, str [], 0, v, ()) ∧ Made w0 w' (.mk k [] 0 [t, u]) (k, str [], 0, v, ()) ∧ Fr none1 w w' := by
  refine (two_gen k ha hb (fun j hj => hj.2)).mono fun r w' ⟨v, e, m, f⟩ => ⟨v, e, ?_, f⟩
  exact IsTr.mono (fun j hj => hj.elim (fun h => ⟨h.1, Nat.lt_of_lt_of_le h.2 f.size⟩) fun h => ⟨Nat.le_trans h0 h.1, h.2⟩) _ _ m

/-- A label put in, and the tree told. -/
theorem or_tell {w w1 wc : World} {g1 g gd : Nat} {v0 : TV} {S : Nat → Prop} {t u : Tr} {v : Sl} {s : List UInt8} {l r : Value} {T : TypeId} (f : Fr none1 w wc) (hg : w.heap.size ≤ g1) (hg1 : g1 < w1.heap.size) (hB : w.heap.size ≤ w1.heap.size) (hgg : w1.heap.size ≤ g) (hgc : g < wc.heap.size)
    (tb : TB wc g1 v0) (tg : TB wc g (5, str [], 0, v, ())) (hb : wc.heap[gd]? = some (.cells #[.string (str s), l, r] T (0, 0))) (hm : IsTr wc S (.mk 5 [] 0 [t, u]) (5, str [], 0, v, ())) (hS : ∀ j, S j → w1.heap.size ≤ j ∧ j < wc.heap.size ∧ j ≠ g) {K : TV → World → Prop}
    (hK : ∀ v w2, Fr none1 w w2 → Made w w2 (.mk 5 s 0 [t, u]) v → K v w2) :
    LdK .str ((⟨gd, 0, none⟩ : Addr).add 0) wc (fun (x60 : ByteArray) => StK ((⟨g, 0, none⟩ : Addr).add 1) (.string x60) wc (fun w61 => LdsK TVK ⟨g, 0, none⟩ w61 (fun (x62 : TV) => StsK ⟨g1, 0, none⟩ (tvL x62) w61 (fun w63 => LdsK TVK ⟨g1, 0, none⟩ w63 (fun (x64 : TV) => K x64 w63))))) := by
  refine LdK.fld hb (x := str s) rfl (tg.s (str s) fun w2 t2 f2 => t2.ld ?_)
  have hm2 : IsTr w2 S (.mk 5 s 0 [t, u]) (5, str s, 0, v, ()) := by
    have h := IsTr.keep f2 (fun j hj t => (hS j hj).2.2 t) _ _ hm
    unfold IsTr at h ⊢
    exact ⟨rfl, rfl, rfl, h.2.2.2⟩
  have tb2 := tb.keep f2 (fun t => by have : g1 = g := t; omega)
  refine StsK.blk (cs := tvL v0) (vs := tvL (5, str s, 0, v, ())) tb2 rfl rfl fun w3 hb3 f3 _ => ?_
  refine LdsK.blk (cks := TVK) (x := (5, str s, 0, v, ())) hb3 (hK _ _ ((f.fresh f2 (by omega)).fresh f3 hg) ?_)
  have := f2.size; have := f3.size
  exact IsTr.mono (fun j hj => ⟨by have := (hS j hj).1; omega, by have := (hS j hj).2.1; omega⟩) _ _ (IsTr.keep f3 (fun j hj t => by have : j = g1 := t; have := (hS j hj).1; omega) _ _ hm2)

/-- Two parts told, while something else is held. -/
theorem two_tell (k : Int) {w w1 wc : World} {g1 : Nat} {v0 a b : TV} {t u : Tr} (f : Fr none1 w wc) (hg : w.heap.size ≤ g1) (hg1 : g1 < w1.heap.size) (hB : w.heap.size ≤ w1.heap.size) (hc : w1.heap.size ≤ wc.heap.size) (tb : TB wc g1 v0) (ha : Made w1 wc t a) (hb : Made w1 wc u b) {K : TV → World → Prop}
    (hK : ∀ v w2, Fr none1 w w2 → Made w w2 (.mk k [] 0 [t, u]) v → K v w2) : CallK Tryz.prog 114 #[.int .i64 k, tvA a, tvA b] wc (.v (.agg TVK)) (fun (x29 : TV) w30 => KeepK (fun j => j ≠ g1) wc w30 (StsK ⟨g1, 0, none⟩ (tvL x29) w30 (fun w31 => KeepK (fun j => j ≠ g1) w30 w31 (LdsK TVK ⟨g1, 0, none⟩ w31 (fun (x32 : TV) => K x32 w31))))) := by
  refine CallK.of (two_spec k ha hb hc) ?_
  rintro _ w2 ⟨v, rfl, mv, f2⟩
  refine ⟨_, rfl, KeepK.of f2 ?_⟩
  refine StsK.blk (cs := tvL v0) (vs := tvL (k, str [], 0, v, ())) (tb.keep0 f2) rfl rfl fun w3 hb3 f3 _ => KeepK.on f3 (fun j hj t => hj t) ?_
  exact LdsK.blk (cks := TVK) (x := (k, str [], 0, v, ())) hb3 (hK _ _ ((f.trans f2).fresh f3 hg) ((mv.keep f3 fun k hk _ t => by have : k = g1 := t; omega).older hB))
/-- Some parts in a new slice, told. -/
theorem lit_tell (k n : Int) {w w1 wc : World} {g1 : Nat} {v0 : TV} {ts : List Tr} {vs : List TV} (f : Fr none1 w wc) (hg : w.heap.size ≤ g1) (hg1 : g1 < w1.heap.size) (hB : w.heap.size ≤ w1.heap.size) (hc : w1.heap.size ≤ wc.heap.size) (tb : TB wc g1 v0) (hl : vs.length ≤ 3) (hm : IsTrs wc (since w1 wc) ts vs) {K : TV → World → Prop}
    (hK : ∀ v w2, Fr none1 w w2 → Made w w2 (.mk k [] n ts) v → K v w2) :
    RunK Tryz.prog (Instr.buildSlice 39 vs.length (((vs.map tvL).zipIdx.map fun (l, i) => (i, Value.agg l.toArray)).toArray)) wc (.v (.one .slc)) (fun (x : Option Addr × Nat × Nat) w2 => KeepK (fun j => j ≠ g1) wc w2 (StsK ⟨g1, 0, none⟩ [.int .i64 k, .string (⟨#[]⟩ : ByteArray), .int .i64 n, .slice x.1 x.2.1 x.2.2] w2 (fun w31 => KeepK (fun j => j ≠ g1) w2 w31 (LdsK TVK ⟨g1, 0, none⟩ w31 (fun (x32 : TV) => K x32 w31))))) := by
  refine tr_lit vs hl fun u w2 hu hul f2 hf2 => KeepK.of f2 ?_
  refine StsK.blk (cs := tvL v0) (vs := tvL (k, str [], n, u, ())) (tb.keep0 f2) rfl rfl fun w3 hb3 f3 _ => KeepK.on f3 (fun j hj t => hj t) ?_
  refine LdsK.blk (cks := TVK) (x := (k, str [], n, u, ())) hb3 (hK _ _ ((f.trans f2).fresh f3 hg) ?_)
  have hM : Made w1 w2 (.mk k [] n ts) (k, str [], n, u, ()) := node_made k [] n hu hul (fun k hk => by have := hf2 k hk; omega) (IsTrs.mono (fun j hj => ⟨hj.1, by have := hj.2; have := f2.size; omega⟩) _ _ (IsTrs.keep0 hm f2))
  exact (hM.keep f3 fun k hk _ t => by have : k = g1 := t; omega).older hB
theorem lit_tell0 (k n : Int) {w w1 wc : World} {g1 : Nat} {v0 : TV} {ts : List Tr} {vs : List TV} (f : Fr none1 w wc) (hg : w.heap.size ≤ g1) (hg1 : g1 < w1.heap.size) (hB : w.heap.size ≤ w1.heap.size) (hc : w1.heap.size ≤ wc.heap.size) (tb : TB wc g1 v0) (hl : vs.length ≤ 3) (hm : IsTrs wc (since w1 wc) ts vs) {K : TV → World → Prop}
    (hK : ∀ v w2, Fr none1 w w2 → Made w w2 (.mk k [] n ts) v → K v w2) :
    RunK Tryz.prog (Instr.buildSlice 39 vs.length (((vs.map tvL).zipIdx.map fun (l, i) => (i, Value.agg l.toArray)).toArray)) wc (.v (.one .slc)) (fun (x : Option Addr × Nat × Nat) w2 => StsK ⟨g1, 0, none⟩ [.int .i64 k, .string (⟨#[]⟩ : ByteArray), .int .i64 n, .slice x.1 x.2.1 x.2.2] w2 (fun w31 => LdsK TVK ⟨g1, 0, none⟩ w31 (fun (x32 : TV) => K x32 w31))) := by
  refine tr_lit vs hl fun u w2 hu hul f2 hf2 => ?_
  refine StsK.blk (cs := tvL v0) (vs := tvL (k, str [], n, u, ())) (tb.keep0 f2) rfl rfl fun w3 hb3 f3 _ => ?_
  refine LdsK.blk (cks := TVK) (x := (k, str [], n, u, ())) hb3 (hK _ _ ((f.trans f2).fresh f3 hg) ?_)
  have hM : Made w1 w2 (.mk k [] n ts) (k, str [], n, u, ()) := node_made k [] n hu hul (fun k hk => by have := hf2 k hk; omega) (IsTrs.mono (fun j hj => ⟨hj.1, by have := hj.2; have := f2.size; omega⟩) _ _ (IsTrs.keep0 hm f2))
  exact (hM.keep f3 fun k hk _ t => by have : k = g1 := t; omega).older hB
theorem leaf_tell {w wc : World} {g : Nat} {v0 : TV} (f : Fr none1 w wc) (hg : w.heap.size ≤ g) (tb : TB wc g v0) (k : Int) (s : List UInt8) (n : Int) {K : TV → World → Prop}
    (hk : ∀ v w2, Fr none1 w w2 → Made w w2 (.mk k s n []) v → K v w2) : StsK ⟨g, 0, none⟩ (tvL (k, str s, n, (none, 0, 0), ())) wc fun w2 => LdsK TVK ⟨g, 0, none⟩ w2 fun x => K x w2 :=
  StsK.blk (cs := tvL v0) (vs := tvL (k, str s, n, (none, 0, 0), ())) tb rfl rfl fun w2 hb2 f2 _ => LdsK.blk (cks := TVK) (x := (k, str s, n, (none, 0, 0), ())) hb2 (hk _ w2 (f.fresh f2 hg) (leaf_made _ _ k s n))

theorem plainO_spec (o : Ob) (w : World) : Ret Tryz.prog 115 #[o.v] w fun r w' => ∃ v : TV, r = tvA v ∧ Made w w' (trO o) v ∧ Fr none1 w w' := by
  induction o generalizing w with
  | none =>
    refine c115 _ w _ ?_
    unfold C115
    refine TB.new fun g1 w1 hg1 t1 f1 hs1 => ?_
    refine TaK.nil rfl (TaK.nil rfl (TaK.nil rfl (TaK.nil rfl (TaK.nil rfl (TaK.nil rfl ?_)))))
    exact leaf_tell f1 (by omega) t1 0 [] 0 fun v w2 f2 m2 => ⟨v, rfl, m2, f2⟩
  | const n =>
    refine c115 _ w _ ?_
    unfold C115
    refine TB.new fun g1 w1 hg1 t1 f1 hs1 => ?_
    refine TaK.hit (n, ()) rfl (ns_ok (zs := [.int .i64 0]) (vs := [.int .i64 n]) rfl rfl fun g w2 _ hb f2 => LdK.fld hb (x := n) rfl ?_)
    exact leaf_tell (f1.trans f2) (by omega) (t1.keep0 f2) 11 [] n fun v w2 f2 m2 => ⟨v, rfl, m2, f2⟩
  | fix s =>
    refine c115 _ w _ ?_
    unfold C115
    refine TB.new fun g1 w1 hg1 t1 f1 hs1 => ?_
    refine TaK.miss rfl (by decide) (TaK.hit (str s, ()) rfl (ns_ok (zs := [.string (⟨#[]⟩ : ByteArray)]) (vs := [.string (str s)]) rfl rfl fun g w2 _ hb f2 => LdK.fld hb (x := str s) rfl ?_))
    exact leaf_tell (f1.trans f2) (by omega) (t1.keep0 f2) 12 s 0 fun v w2 f2 m2 => ⟨v, rfl, m2, f2⟩
  | neg x i =>
    refine c115 _ w _ ?_
    unfold C115
    refine TB.new fun g1 w1 hg1 t1 f1 hs1 => ?_
    refine TaK.miss rfl (by decide) (TaK.miss rfl (by decide) (TaK.miss rfl (by decide) (TaK.hit (x.v, ()) rfl (ns_ok (zs := [.nilIface]) (vs := [x.v]) rfl (by simp [Ob.v_one]) fun g w2 hg hb f2 => LdK.fld (c := .raw) hb (x := x.v) rfl ?_))))
    refine CallK.of (i w2) ?_
    rintro _ w3 ⟨a, rfl, ma, f3⟩
    refine ⟨a, rfl, ?_⟩
    have hsz := f2.size; have hsz3 := f3.size
    exact lit_tell0 14 0 (w1 := w1) (vs := [a]) ((f1.trans f2).trans f3) (by omega) (by omega) (by omega) (by omega) ((t1.keep0 f2).keep0 f3) (by show 1 ≤ 3; omega) (made1 (ma.older hsz)) fun v w2 f2 m2 => ⟨v, rfl, m2, f2⟩
  | add l r i j =>
    refine c115 _ w _ ?_
    unfold C115
    refine TB.new fun g1 w1 hg1 t1 f1 hs1 => ?_
    refine TaK.miss rfl (by decide) (TaK.miss rfl (by decide) (TaK.hit (l.v, r.v, ()) rfl (ns_ok (zs := [.nilIface, .nilIface]) (vs := [l.v, r.v]) rfl (by simp [Ob.v_one]) fun g w2 hg hb f2 => ?_)))
    refine DrewK.of fun w3 _ f3 => HoldK.of (fun j => j ≠ g1) ?_
    have hb3 := f3.keep0 hb
    have hs2 := f2.size; have hs3 := f3.size
    have hne : g ≠ g1 := by omega
    refine ⟨by rw [addr_add]; exact hne, LdK.fld (c := .raw) hb3 (x := l.v) rfl ⟨by rw [addr_add]; exact hne, LdK.fld (c := .raw) hb3 (x := r.v) rfl ?_⟩⟩
    refine CallK.of (i w3) ?_
    rintro _ w4 ⟨a, rfl, ma, f4⟩
    refine ⟨a, rfl, KeepK.of f4 ?_⟩
    refine CallK.of (j w4) ?_
    rintro _ w5 ⟨b, rfl, mb, f5⟩
    refine ⟨b, rfl, KeepK.of f5 ?_⟩
    have hs4 := f4.size; have hs5 := f5.size
    exact two_tell 13 (w1 := w1) ((((f1.trans f2).trans f3).trans f4).trans f5) (by omega) (by omega) (by omega) (by omega) ((((t1.keep0 f2).keep0 f3).keep0 f4).keep0 f5) ((ma.older (by omega)).keep0 f5) (mb.older (by omega)) fun v w2 f2 m2 => ⟨v, rfl, m2, f2⟩
  | mul l r i j =>
    refine c115 _ w _ ?_
    unfold C115
    refine TB.new fun g1 w1 hg1 t1 f1 hs1 => ?_
    refine TaK.miss rfl (by decide) (TaK.miss rfl (by decide) (TaK.miss rfl (by decide) (TaK.miss rfl (by decide) (TaK.hit (l.v, r.v, ()) rfl (ns_ok (zs := [.nilIface, .nilIface]) (vs := [l.v, r.v]) rfl (by simp [Ob.v_one]) fun g w2 hg hb f2 => ?_)))))
    refine DrewK.of fun w3 _ f3 => HoldK.of (fun j => j ≠ g1) ?_
    have hb3 := f3.keep0 hb
    have hs2 := f2.size; have hs3 := f3.size
    have hne : g ≠ g1 := by omega
    refine ⟨by rw [addr_add]; exact hne, LdK.fld (c := .raw) hb3 (x := l.v) rfl ⟨by rw [addr_add]; exact hne, LdK.fld (c := .raw) hb3 (x := r.v) rfl ?_⟩⟩
    refine CallK.of (i w3) ?_
    rintro _ w4 ⟨a, rfl, ma, f4⟩
    refine ⟨a, rfl, KeepK.of f4 ?_⟩
    refine CallK.of (j w4) ?_
    rintro _ w5 ⟨b, rfl, mb, f5⟩
    refine ⟨b, rfl, KeepK.of f5 ?_⟩
    have hs4 := f4.size; have hs5 := f5.size
    exact two_tell 15 (w1 := w1) ((((f1.trans f2).trans f3).trans f4).trans f5) (by omega) (by omega) (by omega) (by omega) ((((t1.keep0 f2).keep0 f3).keep0 f4).keep0 f5) ((ma.older (by omega)).keep0 f5) (mb.older (by omega)) fun v w2 f2 m2 => ⟨v, rfl, m2, f2⟩
  | max l r i j =>
    refine c115 _ w _ ?_
    unfold C115
    refine TB.new fun g1 w1 hg1 t1 f1 hs1 => ?_
    refine TaK.miss rfl (by decide) (TaK.miss rfl (by decide) (TaK.miss rfl (by decide) (TaK.miss rfl (by decide) (TaK.miss rfl (by decide) (TaK.hit (l.v, r.v, ()) rfl (ns_ok (zs := [.nilIface, .nilIface]) (vs := [l.v, r.v]) rfl (by simp [Ob.v_one]) fun g w2 hg hb f2 => ?_))))))
    refine DrewK.of fun w3 _ f3 => HoldK.of (fun j => j ≠ g1) ?_
    have hb3 := f3.keep0 hb
    have hs2 := f2.size; have hs3 := f3.size
    have hne : g ≠ g1 := by omega
    refine ⟨by rw [addr_add]; exact hne, LdK.fld (c := .raw) hb3 (x := l.v) rfl ⟨by rw [addr_add]; exact hne, LdK.fld (c := .raw) hb3 (x := r.v) rfl ?_⟩⟩
    refine CallK.of (i w3) ?_
    rintro _ w4 ⟨a, rfl, ma, f4⟩
    refine ⟨a, rfl, KeepK.of f4 ?_⟩
    refine CallK.of (j w4) ?_
    rintro _ w5 ⟨b, rfl, mb, f5⟩
    refine ⟨b, rfl, KeepK.of f5 ?_⟩
    have hs4 := f4.size; have hs5 := f5.size
    exact two_tell 16 (w1 := w1) ((((f1.trans f2).trans f3).trans f4).trans f5) (by omega) (by omega) (by omega) (by omega) ((((t1.keep0 f2).keep0 f3).keep0 f4).keep0 f5) ((ma.older (by omega)).keep0 f5) (mb.older (by omega)) fun v w2 f2 m2 => ⟨v, rfl, m2, f2⟩

theorem plainT_spec (t : Tm) (w : World) : Ret Tryz.prog 87 #[t.v] w fun r w' => ∃ v : TV, r = tvA v ∧ Made w w' (trT t) v ∧ Fr none1 w w' := by
  induction t generalizing w with
  | none =>
    refine c87 _ w _ ?_
    unfold C87
    refine TB.new fun g1 w1 hg1 t1 f1 hs1 => ?_
    refine TaK.nil rfl (TaK.nil rfl (TaK.nil rfl (TaK.nil rfl (TaK.nil rfl (TaK.nil rfl (TaK.nil rfl (TaK.nil rfl (?_))))))))
    exact leaf_tell f1 (by omega) t1 0 [] 0 fun v w2 f2 m2 => ⟨v, rfl, m2, f2⟩
  | zero =>
    refine c87 _ w _ ?_
    unfold C87
    refine TB.new fun g1 w1 hg1 t1 f1 hs1 => ?_
    refine TaK.hit () rfl (ns_ok (zs := []) (vs := []) rfl rfl fun g w2 _ hb f2 => ?_)
    exact leaf_tell (f1.trans f2) (by omega) (t1.keep0 f2) 1 [] 0 fun v w2 f2 m2 => ⟨v, rfl, m2, f2⟩
  | one s =>
    refine c87 _ w _ ?_
    unfold C87
    refine TB.new fun g1 w1 hg1 t1 f1 hs1 => ?_
    refine TaK.miss rfl (by decide) (TaK.hit (str s, ()) rfl (ns_ok (zs := [.string (⟨#[]⟩ : ByteArray)]) (vs := [.string (str s)]) rfl rfl fun g w2 _ hb f2 => LdK.fld hb (x := str s) rfl ?_))
    exact leaf_tell (f1.trans f2) (by omega) (t1.keep0 f2) 2 s 0 fun v w2 f2 m2 => ⟨v, rfl, m2, f2⟩
  | give x i =>
    refine c87 _ w _ ?_
    unfold C87
    refine TB.new fun g1 w1 hg1 t1 f1 hs1 => ?_
    refine TaK.miss rfl (by decide) (TaK.miss rfl (by decide) (TaK.hit (x.v, ()) rfl (ns_ok (zs := [.nilIface]) (vs := [x.v]) rfl (by simp [Tm.v_one]) fun g w2 hg hb f2 => LdK.fld (c := .raw) hb (x := x.v) rfl ?_)))
    refine CallK.of (i w2) ?_
    rintro _ w3 ⟨a, rfl, ma, f3⟩
    refine ⟨a, rfl, ?_⟩
    have hsz := f2.size; have hsz3 := f3.size
    exact lit_tell0 3 0 (w1 := w1) (vs := [a]) ((f1.trans f2).trans f3) (by omega) (by omega) (by omega) (by omega) ((t1.keep0 f2).keep0 f3) (by show 1 ≤ 3; omega) (made1 (ma.older hsz)) fun v w2 f2 m2 => ⟨v, rfl, m2, f2⟩
  | and l r i j =>
    refine c87 _ w _ ?_
    unfold C87
    refine TB.new fun g1 w1 hg1 t1 f1 hs1 => ?_
    refine TaK.miss rfl (by decide) (TaK.miss rfl (by decide) (TaK.miss rfl (by decide) (TaK.hit (l.v, r.v, ()) rfl (ns_ok (zs := [.nilIface, .nilIface]) (vs := [l.v, r.v]) rfl (by simp [Ob.v_one, Tm.v_one]) fun g w2 hg hb f2 => ?_))))
    refine DrewK.of fun w3 _ f3 => HoldK.of (fun j => j ≠ g1) ?_
    have hb3 := f3.keep0 hb
    have hs2 := f2.size; have hs3 := f3.size
    have hne : g ≠ g1 := by omega
    refine ⟨by rw [addr_add]; exact hne, LdK.fld (c := .raw) hb3 (x := l.v) rfl ⟨by rw [addr_add]; exact hne, LdK.fld (c := .raw) hb3 (x := r.v) rfl ?_⟩⟩
    refine CallK.of (i w3) ?_
    rintro _ w4 ⟨a, rfl, ma, f4⟩
    refine ⟨a, rfl, KeepK.of f4 ?_⟩
    refine CallK.of (j w4) ?_
    rintro _ w5 ⟨b, rfl, mb, f5⟩
    refine ⟨b, rfl, KeepK.of f5 ?_⟩
    have hs4 := f4.size; have hs5 := f5.size
    exact two_tell 4 (w1 := w1) ((((f1.trans f2).trans f3).trans f4).trans f5) (by omega) (by omega) (by omega) (by omega) ((((t1.keep0 f2).keep0 f3).keep0 f4).keep0 f5) ((ma.older (by omega)).keep0 f5) (mb.older (by omega)) fun v w2 f2 m2 => ⟨v, rfl, m2, f2⟩
  | scale o x j =>
    refine c87 _ w _ ?_
    unfold C87
    refine TB.new fun g1 w1 hg1 t1 f1 hs1 => ?_
    refine TaK.miss rfl (by decide) (TaK.miss rfl (by decide) (TaK.miss rfl (by decide) (TaK.miss rfl (by decide) (TaK.miss rfl (by decide) (TaK.hit (o.v, x.v, ()) rfl (ns_ok (zs := [.nilIface, .nilIface]) (vs := [o.v, x.v]) rfl (by simp [Ob.v_one, Tm.v_one]) fun g w2 hg hb f2 => ?_))))))
    refine DrewK.of fun w3 _ f3 => HoldK.of (fun j => j ≠ g1) ?_
    have hb3 := f3.keep0 hb
    have hs2 := f2.size; have hs3 := f3.size
    have hne : g ≠ g1 := by omega
    refine ⟨by rw [addr_add]; exact hne, LdK.fld (c := .raw) hb3 (x := o.v) rfl ⟨by rw [addr_add]; exact hne, LdK.fld (c := .raw) hb3 (x := x.v) rfl ?_⟩⟩
    refine CallK.of (plainO_spec o w3) ?_
    rintro _ w4 ⟨a, rfl, ma, f4⟩
    refine ⟨a, rfl, KeepK.of f4 ?_⟩
    refine CallK.of (j w4) ?_
    rintro _ w5 ⟨b, rfl, mb, f5⟩
    refine ⟨b, rfl, KeepK.of f5 ?_⟩
    have hs4 := f4.size; have hs5 := f5.size
    exact two_tell 6 (w1 := w1) ((((f1.trans f2).trans f3).trans f4).trans f5) (by omega) (by omega) (by omega) (by omega) ((((t1.keep0 f2).keep0 f3).keep0 f4).keep0 f5) ((ma.older (by omega)).keep0 f5) (mb.older (by omega)) fun v w2 f2 m2 => ⟨v, rfl, m2, f2⟩
  | «when» d x j =>
    refine c87 _ w _ ?_
    unfold C87
    refine TB.new fun g1 w1 hg1 t1 f1 hs1 => ?_
    refine TaK.miss rfl (by decide) (TaK.miss rfl (by decide) (TaK.miss rfl (by decide) (TaK.miss rfl (by decide) (TaK.miss rfl (by decide) (TaK.miss rfl (by decide) (TaK.hit (d, x.v, ()) rfl (ns_ok (zs := [.int .i64 0, .nilIface]) (vs := [.int .i64 d, x.v]) rfl (by show (one1 (.int .i64 d) && (one1 x.v && true)) = true; rw [Tm.v_one]; rfl) fun g w2 hg hb f2 => ?_)))))))
    refine DrewK.of fun w3 _ f3 => HoldK.of (fun j => j ≠ g1) ?_
    have hb3 := f3.keep0 hb
    have hs2 := f2.size; have hs3 := f3.size
    have hne : g ≠ g1 := by omega
    refine ⟨by rw [addr_add]; exact hne, LdK.fld hb3 (x := d) rfl ⟨by rw [addr_add]; exact hne, LdK.fld (c := .raw) hb3 (x := x.v) rfl ?_⟩⟩
    refine CallK.of (j w3) ?_
    rintro _ w4 ⟨a, rfl, ma, f4⟩
    refine ⟨a, rfl, KeepK.of f4 ?_⟩
    have hs4 := f4.size
    exact lit_tell 7 d (w1 := w1) (vs := [a]) (((f1.trans f2).trans f3).trans f4) (by omega) (by omega) (by omega) (by omega) (((t1.keep0 f2).keep0 f3).keep0 f4) (by show 1 ≤ 3; omega) (made1 (ma.older (by omega))) fun v w2 f2 m2 => ⟨v, rfl, m2, f2⟩
  | cond o l r i j =>
    refine c87 _ w _ ?_
    unfold C87
    refine TB.new fun g1 w1 hg1 t1 f1 hs1 => ?_
    refine TaK.miss rfl (by decide) (TaK.miss rfl (by decide) (TaK.miss rfl (by decide) (TaK.miss rfl (by decide) (TaK.miss rfl (by decide) (TaK.miss rfl (by decide) (TaK.miss rfl (by decide) (TaK.hit (o.v, l.v, r.v, ()) rfl (ns_ok (zs := [.nilIface, .nilIface, .nilIface]) (vs := [o.v, l.v, r.v]) rfl (by simp [Ob.v_one, Tm.v_one]) fun g w2 hg hb f2 => ?_))))))))
    refine DrewK.of fun w3 _ f3 => HoldK.of (fun j => j ≠ g1) ?_
    have hb3 := f3.keep0 hb
    have hs2 := f2.size; have hs3 := f3.size
    have hne : g ≠ g1 := by omega
    refine ⟨by rw [addr_add]; exact hne, LdK.fld (c := .raw) hb3 (x := o.v) rfl ⟨by rw [addr_add]; exact hne, LdK.fld (c := .raw) hb3 (x := l.v) rfl ⟨by rw [addr_add]; exact hne, LdK.fld (c := .raw) hb3 (x := r.v) rfl ?_⟩⟩⟩
    refine CallK.of (plainO_spec o w3) ?_
    rintro _ w4 ⟨a, rfl, ma, f4⟩
    refine ⟨a, rfl, KeepK.of f4 ?_⟩
    refine CallK.of (i w4) ?_
    rintro _ w5 ⟨b, rfl, mb, f5⟩
    refine ⟨b, rfl, KeepK.of f5 ?_⟩
    refine CallK.of (j w5) ?_
    rintro _ w6 ⟨c, rfl, mc, f6⟩
    refine ⟨c, rfl, KeepK.of f6 ?_⟩
    have hs4 := f4.size; have hs5 := f5.size; have hs6 := f6.size
    exact lit_tell 8 0 (w1 := w1) (vs := [a, b, c]) (((((f1.trans f2).trans f3).trans f4).trans f5).trans f6) (by omega) (by omega) (by omega) (by omega) (((((t1.keep0 f2).keep0 f3).keep0 f4).keep0 f5).keep0 f6) (by show 3 ≤ 3; omega) (made3 (((ma.older (by omega)).keep0 f5).keep0 f6) ((mb.older (by omega)).keep0 f6) (mc.older (by omega))) fun v w2 f2 m2 => ⟨v, rfl, m2, f2⟩
  | or s l r i j =>
    refine c87 _ w _ ?_
    unfold C87
    refine TB.new fun g1 w1 hg1 t1 f1 hs1 => ?_
    refine TaK.miss rfl (by decide) (TaK.miss rfl (by decide) (TaK.miss rfl (by decide) (TaK.miss rfl (by decide) (TaK.hit (str s, l.v, r.v, ()) rfl (ns_ok (zs := [.string (⟨#[]⟩ : ByteArray), .nilIface, .nilIface]) (vs := [.string (str s), l.v, r.v]) rfl (by show (one1 (.string (str s)) && (one1 l.v && (one1 r.v && true))) = true; rw [Tm.v_one, Tm.v_one]; rfl) fun g w2 hg hb f2 => ?_)))))
    refine DrewK.of fun w3 _ f3 => HoldK.of (fun j => j < w3.heap.size) ?_
    have hb3 := f3.keep0 hb
    have hs2 := f2.size; have hs3 := f3.size
    have hg3 := lt_of_blk hb3
    have t3 := (t1.keep0 f2).keep0 f3
    have f13 := (f1.trans f2).trans f3
    refine ⟨by rw [addr_add]; exact hg3, LdK.fld (c := .raw) hb3 (x := l.v) rfl ⟨by rw [addr_add]; exact hg3, LdK.fld (c := .raw) hb3 (x := r.v) rfl ?_⟩⟩
    have put : ∀ {wa wb : World} {gg : Nat}, w3.heap.size ≤ gg → Fr (only gg) wa wb → ∀ K : Prop, K → KeepK (fun j => j < w3.heap.size) wa wb K := fun hgg f K k => KeepK.on f (fun j hj t => by have : j = _ := t; omega) k
    have wide : ∀ {wx wy wz : World} {t : Tr} {v : TV} {gg : Nat}, Made wx wy t v → Fr none1 wy wz → w1.heap.size ≤ wx.heap.size → (gg < wx.heap.size ∨ wy.heap.size ≤ gg) → IsTr wz (fun j => w1.heap.size ≤ j ∧ j < wz.heap.size ∧ j ≠ gg) t v := fun {wx wy wz t v gg} m f h1 h2 =>
      IsTr.mono (fun j hj => ⟨by have := hj.1; omega, Nat.lt_of_lt_of_le hj.2 f.size, by have := hj.1; have := hj.2; omega⟩) _ _ (IsTr.keep0 m f)
    have ending : ∀ {wx : World} {g5 : Nat} {v : Sl}, Fr none1 w3 wx → w3.heap.size ≤ g5 → g5 < wx.heap.size → TB wx g5 (0, str [], 0, (none, 0, 0), ()) → IsTr wx (fun j => w1.heap.size ≤ j ∧ j < wx.heap.size ∧ j ≠ g5) (.mk 5 [] 0 [trT l, trT r]) (5, str [], 0, v, ()) →
        StsK ⟨g5, 0, none⟩ (tvL (5, str [], 0, v, ())) wx (fun w8 => KeepK (fun j => j < w3.heap.size) wx w8 (LdK .str ((⟨g, 0, none⟩ : Addr).add 0) w8 (fun (x60 : ByteArray) => StK ((⟨g5, 0, none⟩ : Addr).add 1) (.string x60) w8 (fun w61 => LdsK TVK ⟨g5, 0, none⟩ w61 (fun (x62 : TV) => StsK ⟨g1, 0, none⟩ (tvL x62) w61 (fun w63 => LdsK TVK ⟨g1, 0, none⟩ w63 (fun (x64 : TV) =>
          ∃ v : TV, tvA x64 = tvA v ∧ Made w w63 (trT (.or s l r)) v ∧ Fr none1 w w63))))))) := fun {wx g5 v} fa h1 h2 t5 mv => by
      have sx := fa.size
      refine StsK.blk (cs := tvL (0, str [], 0, (none, 0, 0), ())) (vs := tvL (5, str [], 0, v, ())) t5 rfl rfl fun w8 hb8 f8 _ => put (gg := g5) (by omega) f8 _ ?_
      have s8 := f8.size
      exact or_tell (w1 := w1) ((f13.trans fa).fresh f8 (by omega)) (by omega) (by omega) (by omega) (by omega) (by omega) ((t3.keep0 fa).keep f8 (fun t => by have : g1 = g5 := t; omega)) hb8 (f8.keep (fa.keep0 hb3) (fun t => by have : g = g5 := t; omega))
        (IsTr.keep f8 (fun j hj t => hj.2.2 t) _ _ mv) (fun j hj => ⟨hj.1, by have := hj.2.1; omega, hj.2.2⟩) fun v w2 f2 m2 => ⟨v, rfl, m2, f2⟩
    -- the two parts joined behind the struct's block
    have joined : ∀ {wx : World} {g5 : Nat} {a b : TV}, Fr none1 w3 wx → w3.heap.size ≤ g5 → g5 < wx.heap.size → TB wx g5 (0, str [], 0, (none, 0, 0), ()) → IsTr wx (fun j => w1.heap.size ≤ j ∧ j < wx.heap.size ∧ j ≠ g5) (trT l) a → IsTr wx (fun j => w1.heap.size ≤ j ∧ j < wx.heap.size ∧ j ≠ g5) (trT r) b →
        CallK Tryz.prog 114 #[.int .i64 5, tvA a, tvA b] wx (.v (.agg TVK)) (fun (x55 : TV) w7 => KeepK (fun j => j < w3.heap.size) wx w7 (StsK ⟨g5, 0, none⟩ (tvL x55) w7 (fun w8 => KeepK (fun j => j < w3.heap.size) w7 w8 (LdK .str ((⟨g, 0, none⟩ : Addr).add 0) w8 (fun (x60 : ByteArray) => StK ((⟨g5, 0, none⟩ : Addr).add 1) (.string x60) w8 (fun w61 => LdsK TVK ⟨g5, 0, none⟩ w61 (fun (x62 : TV) => StsK ⟨g1, 0, none⟩ (tvL x62) w61 (fun w63 => LdsK TVK ⟨g1, 0, none⟩ w63 (fun (x64 : TV) =>
          ∃ v : TV, tvA x64 = tvA v ∧ Made w w63 (trT (.or s l r)) v ∧ Fr none1 w w63))))))))) := fun {wx g5 a b} fa h1 h2 t5 ma mb => by
      refine CallK.of (two_gen 5 ma mb (fun j hj => hj.2.1)) ?_
      rintro _ w7 ⟨v, rfl, mv, f7⟩
      have s7 := f7.size
      have sx := fa.size
      refine ⟨_, rfl, KeepK.of f7 (ending (fa.trans f7) h1 (by omega) (t5.keep0 f7) ?_)⟩
      exact IsTr.mono (fun j hj => hj.elim (fun h => ⟨h.1, by have := h.2.1; omega, h.2.2⟩) fun h => ⟨by have := h.1; omega, h.2, by have := h.1; omega⟩) _ _ mv
    refine ⟨?_, ?_⟩
    · refine CallK.of (i w3) ?_
      rintro _ w4 ⟨a, rfl, ma, f4⟩
      have s4 := f4.size
      refine ⟨a, rfl, KeepK.of f4 ⟨?_, ?_⟩⟩
      · refine CallK.of (j w4) ?_
        rintro _ w5 ⟨b, rfl, mb, f5⟩
        have s5 := f5.size
        refine ⟨b, rfl, KeepK.of f5 ⟨?_, ?_⟩⟩
        · refine CallK.of (two_gen 5 (S := fun j => w1.heap.size ≤ j ∧ j < w5.heap.size) (IsTr.mono (fun j hj => ⟨hj.1, hj.2.1⟩) _ _ (wide (gg := 0) ma f5 (by omega) (.inl (by omega)))) (IsTr.mono (fun j hj => ⟨hj.1, hj.2.1⟩) _ _ (wide (gg := 0) mb (Fr.refl _ _) (by omega) (.inl (by omega)))) (fun j hj => hj.2)) ?_
          rintro _ w6 ⟨v, rfl, mv, f6⟩
          have s6 := f6.size
          refine ⟨_, rfl, KeepK.of f6 ?_⟩
          refine TB.new fun g5 w7 hg5 t57 f7 hs7 => KeepK.of f7 ?_
          have s7 := f7.size
          exact ending (((f4.trans f5).trans f6).trans f7) (by omega) (by omega) t57 (IsTr.mono (fun j hj => hj.elim (fun h => ⟨h.1, by have := h.2; omega, by have := h.2; omega⟩) fun h => ⟨by have := h.1; omega, by have := h.2; omega, by have := h.2; omega⟩) _ _ (IsTr.keep0 mv f7))
        · refine TB.new fun g5 w6 hg5 t5 f6 hs6 => KeepK.of f6 ?_
          have s6 := f6.size
          exact joined ((f4.trans f5).trans f6) (by omega) (by omega) t5 (wide ma (f5.trans f6) (by omega) (.inr (by omega))) (wide mb f6 (by omega) (.inr (by omega)))
      · refine TB.new fun g5 w5 hg5 t5 f5 hs5 => KeepK.of f5 ?_
        have s5 := f5.size
        refine CallK.of (j w5) ?_
        rintro _ w6 ⟨b, rfl, mb, f6⟩
        have s6 := f6.size
        refine ⟨b, rfl, KeepK.of f6 ?_⟩
        exact joined ((f4.trans f5).trans f6) (by omega) (by omega) (t5.keep0 f6) (wide ma (f5.trans f6) (by omega) (.inr (by omega))) (wide mb (Fr.refl _ _) (by omega) (.inl (by omega)))
    · refine TB.new fun g5 w4 hg5 t5 f4 hs4 => KeepK.of f4 ?_
      have s4 := f4.size
      refine CallK.of (i w4) ?_
      rintro _ w5 ⟨a, rfl, ma, f5⟩
      have s5 := f5.size
      refine ⟨a, rfl, KeepK.of f5 ?_⟩
      refine CallK.of (j w5) ?_
      rintro _ w6 ⟨b, rfl, mb, f6⟩
      have s6 := f6.size
      refine ⟨b, rfl, KeepK.of f6 ?_⟩
      exact joined ((f4.trans f5).trans f6) (by omega) (by omega) ((t5.keep0 f5).keep0 f6) (wide ma f6 (by omega) (.inl (by omega))) (wide mb (Fr.refl _ _) (by omega) (.inl (by omega)))

end Go.Proofs.YtdphmcanlhcokaaGreatDoor

/-! ### CSome11 -/
namespace Go.Proofs.YtdphmcanlhcokaaGreatDoor
open Vc
set_option maxRecDepth 100000
set_option linter.unusedVariables false
/-- handfast/handfastlaw11.Some -/
def C25 (p0 : YZ13) (p1 : Int) (p2 : Int) (p3 : ByteArray) (p4 : Int) (w : World) (K : Value → World → Prop) : Prop :=
  NewK (.cells ((LZ13 p0).toArray) 31) w (fun g1 w2 => NewK (.cells #[.int .i64 0, .string (⟨#[]⟩ : ByteArray), .string (⟨#[]⟩ : ByteArray), .string (⟨#[]⟩ : ByteArray), .string (⟨#[]⟩ : ByteArray), .int .i64 0, .int .i64 0, .nilIface] 36) w2 (fun g3 w4 => NewK (.cells #[.int .i64 0, .string (⟨#[]⟩ : ByteArray), .string (⟨#[]⟩ : ByteArray), .string (⟨#[]⟩ : ByteArray), .string (⟨#[]⟩ : ByteArray), .int .i64 0, .int .i64 0, .int .i64 0, .string (⟨#[]⟩ : ByteArray), .int .i64 0, .slice none 0 0] 43) w4 (fun g5 w6 => LdsK KZ13 (ad g1) w6 (fun (x7 : YZ13) => CallK Tryz.prog 49 #[.pointer none, .agg (LZ13 x7).toArray, .int .i64 3] w6 (.v (.agg KZ16)) (fun (x8 : YZ16) w9 => NewK (.cells #[.int .i64 0, .string (⟨#[]⟩ : ByteArray), .string (⟨#[]⟩ : ByteArray), .string (⟨#[]⟩ : ByteArray), .string (⟨#[]⟩ : ByteArray), .int .i64 0, .int .i64 0, .int .i64 0, .string (⟨#[]⟩ : ByteArray), .int .i64 0, .slice none 0 0] 43) w9 (fun g10 w11 => StsK (ad g10) (LZ16 x8) w11 (fun w12 => JoinK (Unit) (fun J13 => CallK Tryz.prog 14 #[.int .i64 p1, .int .i64 20] w12 (.v (.one (.int .i64))) (fun (x16 : Int) w17 => ifB (x16 == 0)
  (CallK Tryz.prog 14 #[.int .i64 p2, .int .i64 9] w17 (.v (.one (.int .i64))) (fun (x18 : Int) w19 => StK ((ad g10).add 0) (.int .i64 x18) w19 (fun w20 => J13 (()) w20)))
  (ifB (x16 == 1)
  (CallK Tryz.prog 50 #[.string p3, .int .i64 16] w17 (.v (.one .str)) (fun (x21 : ByteArray) w22 => StK ((ad g10).add 1) (.string x21) w22 (fun w23 => J13 (()) w23)))
  (ifB (x16 == 2)
  (CallK Tryz.prog 50 #[.string p3, .int .i64 16] w17 (.v (.one .str)) (fun (x24 : ByteArray) w25 => StK ((ad g10).add 2) (.string x24) w25 (fun w26 => J13 (()) w26)))
  (ifB (x16 == 3)
  (CallK Tryz.prog 50 #[.string p3, .int .i64 16] w17 (.v (.one .str)) (fun (x27 : ByteArray) w28 => StK ((ad g10).add 3) (.string x27) w28 (fun w29 => J13 (()) w29)))
  (ifB (x16 == 4)
  (CallK Tryz.prog 50 #[.string p3, .int .i64 16] w17 (.v (.one .str)) (fun (x30 : ByteArray) w31 => StK ((ad g10).add 4) (.string x30) w31 (fun w32 => J13 (()) w32)))
  (ifB (x16 == 5)
  (StK ((ad g10).add 5) (.int .i64 p2) w17 (fun w33 => J13 (()) w33))
  (ifB (x16 == 6)
  (StK ((ad g10).add 6) (.int .i64 p2) w17 (fun w34 => J13 (()) w34))
  (J13 (()) w17)))))))))
  (fun _ s14 w15 => LdsK KZ16 (ad g10) w15 (fun (x35 : YZ16) => CallK Tryz.prog 44 #[.agg (LZ16 x35).toArray] w15 (.v (.agg KZ14)) (fun (x36 : YZ14) w37 => NewK (.cells #[.int .i64 0, .string (⟨#[]⟩ : ByteArray), .string (⟨#[]⟩ : ByteArray), .string (⟨#[]⟩ : ByteArray), .string (⟨#[]⟩ : ByteArray), .int .i64 0, .int .i64 0, .nilIface] 36) w37 (fun g38 w39 => StsK (ad g38) (LZ14 x36) w39 (fun w40 => NzK 11 (ifB ((p4.tmod 11) == 10)
  (NzK 11 (CallK Tryz.prog 26 #[.int .i64 (IntKind.i64.wrap (p4.tdiv 11))] w40 (.v (.one .raw)) (fun (x41 : Value) w42 => OneK x41 (StsK ((ad g38).add 7) [x41] w42 (fun w43 => LdK .raw ((ad g38).add 7) w43 (fun (x44 : Value) => RunK Tryz.prog (do eqGuard .neq 34 (.tmp 63) (.const .nilIface) x44 .nilIface; binOp .neq 34 x44 .nilIface) w43 (.v (.one .bool)) (fun (x45 : Bool) w46 => DrewK w46 (fun w47 => HoldK (fun S48 => InK S48 (ad g38) (LdsK KZ14 (ad g38) w47 (fun (x49 : YZ14) => InK S48 (ad g38) (LdsK KZ14 (ad g38) w47 (fun (x50 : YZ14) => CallK Tryz.prog 51 #[.agg (LZ14 x50).toArray] w47 (.v (.agg KZ16)) (fun (x51 : YZ16) w52 => KeepK S48 w47 w52 (StsK (ad g3) (LZ14 x49) w52 (fun w53 => KeepK S48 w52 w53 (StsK (ad g5) (LZ16 x51) w53 (fun w54 => KeepK S48 w53 w54 (LdsK KZ14 (ad g3) w54 (fun (x55 : YZ14) => LdsK KZ16 (ad g5) w54 (fun (x56 : YZ16) => K (.tuple #[.agg (LZ14 x55).toArray, .agg (LZ16 x56).toArray, .bool x45]) w54)))))))))))))))))))))
  (DrewK w40 (fun w57 => HoldK (fun S58 => InK S58 (ad g38) (LdsK KZ14 (ad g38) w57 (fun (x59 : YZ14) => InK S58 (ad g38) (LdsK KZ14 (ad g38) w57 (fun (x60 : YZ14) => CallK Tryz.prog 51 #[.agg (LZ14 x60).toArray] w57 (.v (.agg KZ16)) (fun (x61 : YZ16) w62 => KeepK S58 w57 w62 (StsK (ad g3) (LZ14 x59) w62 (fun w63 => KeepK S58 w62 w63 (StsK (ad g5) (LZ16 x61) w63 (fun w64 => KeepK S58 w63 w64 (LdsK KZ14 (ad g3) w64 (fun (x65 : YZ14) => LdsK KZ16 (ad g5) w64 (fun (x66 : YZ16) => K (.tuple #[.agg (LZ14 x65).toArray, .agg (LZ16 x66).toArray, .bool false]) w64))))))))))))))))))))))))))))
def pl25 : Plan := (.seq .auto (.seq .auto (.join [] .auto (.seq .auto (.seq .auto (.seq .auto (.seq (.held (.soft 0 (.soft 1 (.soft 3 (.pick 2 (.pick 4 (.pick 5 (.soft 6 .done) .stop) .stop) .stop))))) .auto)))))))
theorem e25 (p0 : YZ13) (p1 : Int) (p2 : Int) (p3 : ByteArray) (p4 : Int) (w : World) (K : Value → World → Prop) : vcFunc Tryz.prog Tryz.f25 pl25 [.agg (LZ13 p0).toArray, .int .i64 p1, .int .i64 p2, .string p3, .int .i64 p4] w K = C25 p0 p1 p2 p3 p4 w K := by kernel_rfl
theorem c25 (p0 : YZ13) (p1 : Int) (p2 : Int) (p3 : ByteArray) (p4 : Int) (w : World) (K : Value → World → Prop) (h : C25 p0 p1 p2 p3 p4 w K) : Ret Tryz.prog 25 #[.agg (LZ13 p0).toArray, .int .i64 p1, .int .i64 p2, .string p3, .int .i64 p4] w K := by
  rw [← e25] at h
  exact vcFunc_sound (by kernel_rfl) Tryz.func25 h

/-- handfast/handfastplay.Do -/
def C49 (p0 : Option Addr) (p1 : YZ13) (p2 : Int) (w : World) (K : Value → World → Prop) : Prop :=
  NewK (.cells ((LZ13 p1).toArray) 31) w (fun g1 w2 => NewK (.cells #[.int .i64 0, .string (⟨#[]⟩ : ByteArray), .string (⟨#[]⟩ : ByteArray), .string (⟨#[]⟩ : ByteArray), .string (⟨#[]⟩ : ByteArray), .int .i64 0, .int .i64 0, .int .i64 0, .string (⟨#[]⟩ : ByteArray), .int .i64 0, .slice none 0 0] 43) w2 (fun g3 w4 => NewK (.cells #[.int .i64 0, .string (⟨#[]⟩ : ByteArray), .string (⟨#[]⟩ : ByteArray), .string (⟨#[]⟩ : ByteArray), .string (⟨#[]⟩ : ByteArray), .int .i64 0, .int .i64 0, .int .i64 0, .string (⟨#[]⟩ : ByteArray), .int .i64 0, .slice none 0 0] 43) w4 (fun g5 w6 => StsK (ad g5) [.int .i64 0, .string (⟨#[]⟩ : ByteArray), .string (⟨#[]⟩ : ByteArray), .string (⟨#[]⟩ : ByteArray), .string (⟨#[]⟩ : ByteArray), .int .i64 0, .int .i64 0, .int .i64 0, .string (⟨#[]⟩ : ByteArray), .int .i64 0, .slice none 0 0] w6 (fun w7 => LdK (.int .i64) ((ad g1).add 1) w7 (fun (x8 : Int) => CallK Tryz.prog 79 #[.string (⟨#[116]⟩ : ByteArray), .int .i64 x8, .int .i64 5] w7 (.v (.one .str)) (fun (x9 : ByteArray) w10 => JoinK (ByteArray × Unit) (fun J11 => LdK (.int .i64) ((ad g1).add 1) w10 (fun (x14 : Int) => NzK 19 (ifB ((x14.tmod 19) == 18)
  (LdK .str ((ad g1).add 5) w10 (fun (x15 : ByteArray) => CallK Tryz.prog 50 #[.string x15, .int .i64 14] w10 (.v (.one .str)) (fun (x16 : ByteArray) w17 => J11 (x16, ()) w17)))
  (J11 (x9, ()) w10))))
  (fun _ s12 w13 => LdK (.int .i64) ((ad g1).add 0) w13 (fun (x18 : Int) => CallK Tryz.prog 14 #[.int .i64 x18, .int .i64 20] w13 (.v (.one (.int .i64))) (fun (x19 : Int) w20 => ifB (x19 == 0)
  (StK ((ad g5).add 0) (.int .i64 1) w20 (fun w21 => LdsK KZ16 (ad g5) w21 (fun (x22 : YZ16) => StsK (ad g3) (LZ16 x22) w21 (fun w23 => LdsK KZ16 (ad g3) w23 (fun (x24 : YZ16) => K (.agg (LZ16 x24).toArray) w23)))))
  (ifB (decide (x19 < 7))
  (LdsK [.slc, .slc] ((ad g1).add 6) w20 (fun (x25 : SlT × SlT × Unit) => CallK Tryz.prog 80 #[.agg #[.slice x25.1.1 x25.1.2.1 x25.1.2.2, .slice x25.2.1.1 x25.2.1.2.1 x25.2.1.2.2]] w20 (.v (.agg KZ3)) (fun (x26 : YZ3) w27 => StK ((ad g5).add 0) (.int .i64 2) w27 (fun w28 => StK ((ad g5).add 1) (.string s12.1) w28 (fun w29 => StsK ((ad g5).add 7) (LZ3 x26) w29 (fun w30 => LdK (.int .i64) ((ad g1).add 2) w30 (fun (x31 : Int) => NzK 17 (ifB ((x31.tmod 17) == 16)
  (LdsK [.slc, .slc] ((ad g1).add 6) w30 (fun (x32 : SlT × SlT × Unit) => CallK Tryz.prog 81 #[.agg #[.slice x32.1.1 x32.1.2.1 x32.1.2.2, .slice x32.2.1.1 x32.2.1.2.1 x32.2.1.2.2]] w30 (.v (.agg KZ3)) (fun (x33 : YZ3) w34 => StsK ((ad g5).add 7) (LZ3 x33) w34 (fun w35 => LdsK KZ16 (ad g5) w35 (fun (x36 : YZ16) => StsK (ad g3) (LZ16 x36) w35 (fun w37 => LdsK KZ16 (ad g3) w37 (fun (x38 : YZ16) => K (.agg (LZ16 x38).toArray) w37)))))))
  (LdsK KZ16 (ad g5) w30 (fun (x39 : YZ16) => StsK (ad g3) (LZ16 x39) w30 (fun w40 => LdsK KZ16 (ad g3) w40 (fun (x41 : YZ16) => K (.agg (LZ16 x41).toArray) w40))))))))))))
  (ifB (decide (x19 < 11))
  (JoinK (Unit) (fun J42 => DrewK w20 (fun w45 => HoldK (fun S46 => InK S46 ((ad g1).add 1) (LdK (.int .i64) ((ad g1).add 1) w45 (fun (x47 : Int) => InK S46 ((ad g1).add 3) (LdK (.int .i64) ((ad g1).add 3) w45 (fun (x48 : Int) => InK S46 ((ad g1).add 4) (LdK (.int .i64) ((ad g1).add 4) w45 (fun (x49 : Int) => AndK (RunK Tryz.prog (Instr.buildSlice 27 3 #[(0, .string (⟨#[108, 105, 98, 111, 114]⟩ : ByteArray)), (1, .string (⟨#[114, 97, 105, 110]⟩ : ByteArray)), (2, .string (⟨#[195, 182, 108]⟩ : ByteArray))]) w45 (.v (.one .slc)) (fun (x50 : SlT) w51 => KeepK S46 w45 w51 (CallK Tryz.prog 14 #[.int .i64 x47, .int .i64 3] w51 (.v (.one (.int .i64))) (fun (x52 : Int) w53 => KeepK S46 w51 w53 (IdxK x50.1 x50.2.1 x52 1 (fun a54 => InK S46 a54 (LdK .str a54 w53 (fun (x55 : ByteArray) => CallK Tryz.prog 14 #[.int .i64 x48, .int .i64 (IntKind.i64.wrap (p2 + 2))] w53 (.v (.one (.int .i64))) (fun (x56 : Int) w57 => KeepK S46 w53 w57 (CallK Tryz.prog 14 #[.int .i64 x49, .int .i64 30] w57 (.v (.one (.int .i64))) (fun (x58 : Int) w59 => KeepK S46 w57 w59 (StK ((ad g5).add 0) (.int .i64 3) w59 (fun w60 => KeepK S46 w59 w60 (StK ((ad g5).add 2) (.string x55) w60 (fun w61 => KeepK S46 w60 w61 (StK ((ad g5).add 5) (.int .i64 x56) w61 (fun w62 => KeepK S46 w61 w62 (StK ((ad g5).add 6) (.int .i64 (IntKind.i64.wrap (x58 - 10))) w62 (fun w63 => KeepK S46 w62 w63 (J42 (()) w63))))))))))))))))))))
  (CallK Tryz.prog 14 #[.int .i64 x47, .int .i64 3] w45 (.v (.one (.int .i64))) (fun (x64 : Int) w65 => KeepK S46 w45 w65 (AndK (RunK Tryz.prog (Instr.buildSlice 27 3 #[(0, .string (⟨#[108, 105, 98, 111, 114]⟩ : ByteArray)), (1, .string (⟨#[114, 97, 105, 110]⟩ : ByteArray)), (2, .string (⟨#[195, 182, 108]⟩ : ByteArray))]) w65 (.v (.one .slc)) (fun (x66 : SlT) w67 => KeepK S46 w65 w67 (IdxK x66.1 x66.2.1 x64 1 (fun a68 => InK S46 a68 (LdK .str a68 w67 (fun (x69 : ByteArray) => CallK Tryz.prog 14 #[.int .i64 x48, .int .i64 (IntKind.i64.wrap (p2 + 2))] w67 (.v (.one (.int .i64))) (fun (x70 : Int) w71 => KeepK S46 w67 w71 (CallK Tryz.prog 14 #[.int .i64 x49, .int .i64 30] w71 (.v (.one (.int .i64))) (fun (x72 : Int) w73 => KeepK S46 w71 w73 (StK ((ad g5).add 0) (.int .i64 3) w73 (fun w74 => KeepK S46 w73 w74 (StK ((ad g5).add 2) (.string x69) w74 (fun w75 => KeepK S46 w74 w75 (StK ((ad g5).add 5) (.int .i64 x70) w75 (fun w76 => KeepK S46 w75 w76 (StK ((ad g5).add 6) (.int .i64 (IntKind.i64.wrap (x72 - 10))) w76 (fun w77 => KeepK S46 w76 w77 (J42 (()) w77))))))))))))))))))
  (CallK Tryz.prog 14 #[.int .i64 x48, .int .i64 (IntKind.i64.wrap (p2 + 2))] w65 (.v (.one (.int .i64))) (fun (x78 : Int) w79 => KeepK S46 w65 w79 (AndK (RunK Tryz.prog (Instr.buildSlice 27 3 #[(0, .string (⟨#[108, 105, 98, 111, 114]⟩ : ByteArray)), (1, .string (⟨#[114, 97, 105, 110]⟩ : ByteArray)), (2, .string (⟨#[195, 182, 108]⟩ : ByteArray))]) w79 (.v (.one .slc)) (fun (x80 : SlT) w81 => KeepK S46 w79 w81 (IdxK x80.1 x80.2.1 x64 1 (fun a82 => InK S46 a82 (LdK .str a82 w81 (fun (x83 : ByteArray) => CallK Tryz.prog 14 #[.int .i64 x49, .int .i64 30] w81 (.v (.one (.int .i64))) (fun (x84 : Int) w85 => KeepK S46 w81 w85 (StK ((ad g5).add 0) (.int .i64 3) w85 (fun w86 => KeepK S46 w85 w86 (StK ((ad g5).add 2) (.string x83) w86 (fun w87 => KeepK S46 w86 w87 (StK ((ad g5).add 5) (.int .i64 x78) w87 (fun w88 => KeepK S46 w87 w88 (StK ((ad g5).add 6) (.int .i64 (IntKind.i64.wrap (x84 - 10))) w88 (fun w89 => KeepK S46 w88 w89 (J42 (()) w89))))))))))))))))
  (CallK Tryz.prog 14 #[.int .i64 x49, .int .i64 30] w79 (.v (.one (.int .i64))) (fun (x90 : Int) w91 => KeepK S46 w79 w91 (AndK (RunK Tryz.prog (Instr.buildSlice 27 3 #[(0, .string (⟨#[108, 105, 98, 111, 114]⟩ : ByteArray)), (1, .string (⟨#[114, 97, 105, 110]⟩ : ByteArray)), (2, .string (⟨#[195, 182, 108]⟩ : ByteArray))]) w91 (.v (.one .slc)) (fun (x92 : SlT) w93 => KeepK S46 w91 w93 (IdxK x92.1 x92.2.1 x64 1 (fun a94 => InK S46 a94 (LdK .str a94 w93 (fun (x95 : ByteArray) => StK ((ad g5).add 0) (.int .i64 3) w93 (fun w96 => KeepK S46 w93 w96 (StK ((ad g5).add 2) (.string x95) w96 (fun w97 => KeepK S46 w96 w97 (StK ((ad g5).add 5) (.int .i64 x78) w97 (fun w98 => KeepK S46 w97 w98 (StK ((ad g5).add 6) (.int .i64 (IntKind.i64.wrap (x90 - 10))) w98 (fun w99 => KeepK S46 w98 w99 (J42 (()) w99))))))))))))))
  (StK ((ad g5).add 0) (.int .i64 3) w91 (fun w100 => KeepK S46 w91 w100 (RunK Tryz.prog (Instr.buildSlice 27 3 #[(0, .string (⟨#[108, 105, 98, 111, 114]⟩ : ByteArray)), (1, .string (⟨#[114, 97, 105, 110]⟩ : ByteArray)), (2, .string (⟨#[195, 182, 108]⟩ : ByteArray))]) w100 (.v (.one .slc)) (fun (x101 : SlT) w102 => KeepK S46 w100 w102 (IdxK x101.1 x101.2.1 x64 1 (fun a103 => InK S46 a103 (LdK .str a103 w102 (fun (x104 : ByteArray) => StK ((ad g5).add 2) (.string x104) w102 (fun w105 => KeepK S46 w102 w105 (StK ((ad g5).add 5) (.int .i64 x78) w105 (fun w106 => KeepK S46 w105 w106 (StK ((ad g5).add 6) (.int .i64 (IntKind.i64.wrap (x90 - 10))) w106 (fun w107 => KeepK S46 w106 w107 (J42 (()) w107))))))))))))))))))))))))))))))))
  (fun _ s43 w44 => LdK (.int .i64) ((ad g1).add 2) w44 (fun (x108 : Int) => NzK 5 (ifB ((x108.tmod 5) == 0)
  (ifB (!(Option.isNone p0))
  (CallK Tryz.prog 82 #[.pointer p0] w44 (.v (.one .slc)) (fun (x109 : SlT) w110 => LoopK (Int × Unit) (fun _ s111 w112 next113 => ifB (decide (s111.1 < (x109.2.1 : Int)))
  (IdxK x109.1 x109.2.1 s111.1 5 (fun a114 => LdsK KZ8 a114 w112 (fun (x115 : YZ8) => NewK (.cells #[.bool false, .string (⟨#[]⟩ : ByteArray), .string (⟨#[]⟩ : ByteArray), .int .i64 0, .int .i64 0] 145) w112 (fun g116 w117 => StsK (ad g116) (LZ8 x115) w117 (fun w118 => DrewK w118 (fun w119 => LdK .bool ((ad g116).add 0) w119 (fun (x120 : Bool) => ifB (!x120)
  (LdK (.int .i64) ((ad g116).add 3) w119 (fun (x121 : Int) => optA p0 (fun a122 => LdK (.int .i64) (a122.add 0) w119 (fun (x123 : Int) => ifB (decide (x121 ≤ x123))
  (DrewK w119 (fun w124 => HoldK (fun S125 => InK S125 ((ad g116).add 1) (LdK .str ((ad g116).add 1) w124 (fun (x126 : ByteArray) => InK S125 ((ad g116).add 3) (LdK (.int .i64) ((ad g116).add 3) w124 (fun (x127 : Int) => StK ((ad g5).add 2) (.string x126) w124 (fun w128 => KeepK S125 w124 w128 (StK ((ad g5).add 5) (.int .i64 x127) w128 (fun w129 => KeepK S125 w128 w129 (next113 (IntKind.i64.wrap (s111.1 + 1), ()) w129)))))))))))
  (next113 (IntKind.i64.wrap (s111.1 + 1), ()) w119)))))
  (next113 (IntKind.i64.wrap (s111.1 + 1), ()) w119))))))))
  (LdK (.int .i64) ((ad g1).add 2) w112 (fun (x130 : Int) => NzK 13 (ifB ((x130.tmod 13) == 12)
  (LdK (.int .i64) ((ad g1).add 4) w112 (fun (x131 : Int) => StK ((ad g5).add 6) (.int .i64 x131) w112 (fun w132 => LdsK KZ16 (ad g5) w132 (fun (x133 : YZ16) => StsK (ad g3) (LZ16 x133) w132 (fun w134 => LdsK KZ16 (ad g3) w134 (fun (x135 : YZ16) => K (.agg (LZ16 x135).toArray) w134))))))
  (LdsK KZ16 (ad g5) w112 (fun (x136 : YZ16) => StsK (ad g3) (LZ16 x136) w112 (fun w137 => LdsK KZ16 (ad g3) w137 (fun (x138 : YZ16) => K (.agg (LZ16 x138).toArray) w137))))))))
  (0, ()) w110))
  (LdK (.int .i64) ((ad g1).add 2) w44 (fun (x139 : Int) => NzK 13 (ifB ((x139.tmod 13) == 12)
  (LdK (.int .i64) ((ad g1).add 4) w44 (fun (x140 : Int) => StK ((ad g5).add 6) (.int .i64 x140) w44 (fun w141 => LdsK KZ16 (ad g5) w141 (fun (x142 : YZ16) => StsK (ad g3) (LZ16 x142) w141 (fun w143 => LdsK KZ16 (ad g3) w143 (fun (x144 : YZ16) => K (.agg (LZ16 x144).toArray) w143))))))
  (LdsK KZ16 (ad g5) w44 (fun (x145 : YZ16) => StsK (ad g3) (LZ16 x145) w44 (fun w146 => LdsK KZ16 (ad g3) w146 (fun (x147 : YZ16) => K (.agg (LZ16 x147).toArray) w146))))))))
  (LdK (.int .i64) ((ad g1).add 2) w44 (fun (x148 : Int) => NzK 13 (ifB ((x148.tmod 13) == 12)
  (LdK (.int .i64) ((ad g1).add 4) w44 (fun (x149 : Int) => StK ((ad g5).add 6) (.int .i64 x149) w44 (fun w150 => LdsK KZ16 (ad g5) w150 (fun (x151 : YZ16) => StsK (ad g3) (LZ16 x151) w150 (fun w152 => LdsK KZ16 (ad g3) w152 (fun (x153 : YZ16) => K (.agg (LZ16 x153).toArray) w152))))))
  (LdsK KZ16 (ad g5) w44 (fun (x154 : YZ16) => StsK (ad g3) (LZ16 x154) w44 (fun w155 => LdsK KZ16 (ad g3) w155 (fun (x156 : YZ16) => K (.agg (LZ16 x156).toArray) w155)))))))))))
  (ifB (decide (x19 < 14))
  (DrewK w20 (fun w157 => HoldK (fun S158 => InK S158 ((ad g1).add 2) (LdK (.int .i64) ((ad g1).add 2) w157 (fun (x159 : Int) => InK S158 ((ad g1).add 4) (LdK (.int .i64) ((ad g1).add 4) w157 (fun (x160 : Int) => CallK Tryz.prog 14 #[.int .i64 x159, .int .i64 3] w157 (.v (.one (.int .i64))) (fun (x161 : Int) w162 => KeepK S158 w157 w162 (CallK Tryz.prog 83 #[.int .i64 (IntKind.i64.wrap (1 + x161))] w162 (.v (.one .str)) (fun (x163 : ByteArray) w164 => KeepK S158 w162 w164 (CatK (⟨#[99, 104]⟩ : ByteArray) x163 (CallK Tryz.prog 14 #[.int .i64 x160, .int .i64 2] w164 (.v (.one (.int .i64))) (fun (x165 : Int) w166 => KeepK S158 w164 w166 (StK ((ad g5).add 0) (.int .i64 4) w166 (fun w167 => KeepK S158 w166 w167 (StK ((ad g5).add 1) (.string s12.1) w167 (fun w168 => KeepK S158 w167 w168 (StK ((ad g5).add 3) (.string ((⟨#[99, 104]⟩ : ByteArray) ++ x163)) w168 (fun w169 => KeepK S158 w168 w169 (StK ((ad g5).add 6) (.int .i64 x165) w169 (fun w170 => KeepK S158 w169 w170 (LdK (.int .i64) ((ad g1).add 2) w170 (fun (x171 : Int) => NzK 3 (ifB ((x171.tmod 3) == 0)
  (ifB (!(Option.isNone p0))
  (optA p0 (fun a172 => LdK .slc (a172.add 1) w170 (fun (x173 : SlT) => LoopK (Int × Unit) (fun _ s174 w175 next176 => ifB (decide (s174.1 < (x173.2.1 : Int)))
  (IdxK x173.1 x173.2.1 s174.1 6 (fun a177 => LdsK KZ12 a177 w175 (fun (x178 : YZ12) => NewK (.cells #[.string (⟨#[]⟩ : ByteArray), .int .i64 0, .int .i64 0, .string (⟨#[]⟩ : ByteArray), .int .i64 0, .slice none 0 0] 152) w175 (fun g179 w180 => StsK (ad g179) (LZ12 x178) w180 (fun w181 => DrewK w181 (fun w182 => HoldK (fun S183 => InK S183 ((ad g179).add 0) (LdK .str ((ad g179).add 0) w182 (fun (x184 : ByteArray) => InK S183 ((ad g179).add 2) (LdsK KZ3 ((ad g179).add 2) w182 (fun (x185 : YZ3) => InK S183 ((ad g179).add 1) (LdK (.int .i64) ((ad g179).add 1) w182 (fun (x186 : Int) => optA p0 (fun a187 => InK S183 (a187.add 2) (LdK .ptr (a187.add 2) w182 (fun (x188 : Option Addr) => CallK Tryz.prog 84 #[.string x184, .agg (LZ3 x185).toArray, .int .i64 x186, .pointer x188] w182 (.tup [.one .slc, .one .slc, .one (.int .i64)]) (fun (x189 : SlT × SlT × Int × Unit) w190 => KeepK S183 w182 w190 (LoopK (Int × Unit) (fun _ s191 w192 next193 => ifB (decide (s191.1 < (x189.2.1.2.1 : Int)))
  (IdxK x189.2.1.1 x189.2.1.2.1 s191.1 5 (fun a194 => LdsK KZ8 a194 w192 (fun (x195 : YZ8) => NewK (.cells #[.bool false, .string (⟨#[]⟩ : ByteArray), .string (⟨#[]⟩ : ByteArray), .int .i64 0, .int .i64 0] 145) w192 (fun g196 w197 => StsK (ad g196) (LZ8 x195) w197 (fun w198 => LdK .bool ((ad g196).add 0) w198 (fun (x199 : Bool) => ifB x199
  (DrewK w198 (fun w200 => HoldK (fun S201 => InK S201 ((ad g179).add 0) (LdK .str ((ad g179).add 0) w200 (fun (x202 : ByteArray) => InK S201 ((ad g196).add 2) (LdK .str ((ad g196).add 2) w200 (fun (x203 : ByteArray) => StK ((ad g5).add 1) (.string x202) w200 (fun w204 => KeepK S201 w200 w204 (StK ((ad g5).add 3) (.string x203) w204 (fun w205 => KeepK S201 w204 w205 (next193 (IntKind.i64.wrap (s191.1 + 1), ()) w205)))))))))))
  (next193 (IntKind.i64.wrap (s191.1 + 1), ()) w198)))))))
  (next176 (IntKind.i64.wrap (s174.1 + 1), ()) w192))
  (0, ()) w190))))))))))))))))))
  (LdsK KZ16 (ad g5) w175 (fun (x206 : YZ16) => StsK (ad g3) (LZ16 x206) w175 (fun w207 => LdsK KZ16 (ad g3) w207 (fun (x208 : YZ16) => K (.agg (LZ16 x208).toArray) w207)))))
  (0, ()) w170)))
  (LdsK KZ16 (ad g5) w170 (fun (x209 : YZ16) => StsK (ad g3) (LZ16 x209) w170 (fun w210 => LdsK KZ16 (ad g3) w210 (fun (x211 : YZ16) => K (.agg (LZ16 x211).toArray) w210)))))
  (LdsK KZ16 (ad g5) w170 (fun (x212 : YZ16) => StsK (ad g3) (LZ16 x212) w170 (fun w213 => LdsK KZ16 (ad g3) w213 (fun (x214 : YZ16) => K (.agg (LZ16 x214).toArray) w213))))))))))))))))))))))))))))
  (ifB (decide (x19 < 17))
  (LdK (.int .i64) ((ad g1).add 3) w20 (fun (x215 : Int) => CallK Tryz.prog 14 #[.int .i64 x215, .int .i64 4] w20 (.v (.one (.int .i64))) (fun (x216 : Int) w217 => StK ((ad g5).add 0) (.int .i64 5) w217 (fun w218 => StK ((ad g5).add 5) (.int .i64 (IntKind.i64.wrap (x216 + p2))) w218 (fun w219 => LdsK KZ16 (ad g5) w219 (fun (x220 : YZ16) => StsK (ad g3) (LZ16 x220) w219 (fun w221 => LdsK KZ16 (ad g3) w221 (fun (x222 : YZ16) => K (.agg (LZ16 x222).toArray) w221))))))))
  (ifB (decide (x19 < 19))
  (JoinK (Unit) (fun J223 => DrewK w20 (fun w226 => HoldK (fun S227 => InK S227 ((ad g1).add 3) (LdK (.int .i64) ((ad g1).add 3) w226 (fun (x228 : Int) => InK S227 ((ad g1).add 1) (LdK (.int .i64) ((ad g1).add 1) w226 (fun (x229 : Int) => AndK (CallK Tryz.prog 14 #[.int .i64 x228, .int .i64 (IntKind.i64.wrap (p2 + 2))] w226 (.v (.one (.int .i64))) (fun (x230 : Int) w231 => KeepK S227 w226 w231 (AndK (RunK Tryz.prog (Instr.buildSlice 27 3 #[(0, .string (⟨#[117, 115, 100]⟩ : ByteArray)), (1, .string (⟨#[101, 117, 114]⟩ : ByteArray)), (2, .string (⟨#[103, 98, 112]⟩ : ByteArray))]) w231 (.v (.one .slc)) (fun (x232 : SlT) w233 => KeepK S227 w231 w233 (CallK Tryz.prog 14 #[.int .i64 x229, .int .i64 3] w233 (.v (.one (.int .i64))) (fun (x234 : Int) w235 => KeepK S227 w233 w235 (IdxK x232.1 x232.2.1 x234 1 (fun a236 => InK S227 a236 (LdK .str a236 w235 (fun (x237 : ByteArray) => StK ((ad g5).add 0) (.int .i64 6) w235 (fun w238 => KeepK S227 w235 w238 (StK ((ad g5).add 5) (.int .i64 x230) w238 (fun w239 => KeepK S227 w238 w239 (StK ((ad g5).add 4) (.string x237) w239 (fun w240 => KeepK S227 w239 w240 (J223 (()) w240))))))))))))))
  (CallK Tryz.prog 14 #[.int .i64 x229, .int .i64 3] w231 (.v (.one (.int .i64))) (fun (x241 : Int) w242 => KeepK S227 w231 w242 (AndK (RunK Tryz.prog (Instr.buildSlice 27 3 #[(0, .string (⟨#[117, 115, 100]⟩ : ByteArray)), (1, .string (⟨#[101, 117, 114]⟩ : ByteArray)), (2, .string (⟨#[103, 98, 112]⟩ : ByteArray))]) w242 (.v (.one .slc)) (fun (x243 : SlT) w244 => KeepK S227 w242 w244 (IdxK x243.1 x243.2.1 x241 1 (fun a245 => InK S227 a245 (LdK .str a245 w244 (fun (x246 : ByteArray) => StK ((ad g5).add 0) (.int .i64 6) w244 (fun w247 => KeepK S227 w244 w247 (StK ((ad g5).add 5) (.int .i64 x230) w247 (fun w248 => KeepK S227 w247 w248 (StK ((ad g5).add 4) (.string x246) w248 (fun w249 => KeepK S227 w248 w249 (J223 (()) w249))))))))))))
  (StK ((ad g5).add 0) (.int .i64 6) w242 (fun w250 => KeepK S227 w242 w250 (AndK (RunK Tryz.prog (Instr.buildSlice 27 3 #[(0, .string (⟨#[117, 115, 100]⟩ : ByteArray)), (1, .string (⟨#[101, 117, 114]⟩ : ByteArray)), (2, .string (⟨#[103, 98, 112]⟩ : ByteArray))]) w250 (.v (.one .slc)) (fun (x251 : SlT) w252 => KeepK S227 w250 w252 (IdxK x251.1 x251.2.1 x241 1 (fun a253 => InK S227 a253 (LdK .str a253 w252 (fun (x254 : ByteArray) => StK ((ad g5).add 5) (.int .i64 x230) w252 (fun w255 => KeepK S227 w252 w255 (StK ((ad g5).add 4) (.string x254) w255 (fun w256 => KeepK S227 w255 w256 (J223 (()) w256))))))))))
  (StK ((ad g5).add 5) (.int .i64 x230) w250 (fun w257 => KeepK S227 w250 w257 (RunK Tryz.prog (Instr.buildSlice 27 3 #[(0, .string (⟨#[117, 115, 100]⟩ : ByteArray)), (1, .string (⟨#[101, 117, 114]⟩ : ByteArray)), (2, .string (⟨#[103, 98, 112]⟩ : ByteArray))]) w257 (.v (.one .slc)) (fun (x258 : SlT) w259 => KeepK S227 w257 w259 (IdxK x258.1 x258.2.1 x241 1 (fun a260 => InK S227 a260 (LdK .str a260 w259 (fun (x261 : ByteArray) => StK ((ad g5).add 4) (.string x261) w259 (fun w262 => KeepK S227 w259 w262 (J223 (()) w262)))))))))))))))))))
  (RunK Tryz.prog (Instr.buildSlice 27 3 #[(0, .string (⟨#[117, 115, 100]⟩ : ByteArray)), (1, .string (⟨#[101, 117, 114]⟩ : ByteArray)), (2, .string (⟨#[103, 98, 112]⟩ : ByteArray))]) w226 (.v (.one .slc)) (fun (x263 : SlT) w264 => KeepK S227 w226 w264 (CallK Tryz.prog 14 #[.int .i64 x228, .int .i64 (IntKind.i64.wrap (p2 + 2))] w264 (.v (.one (.int .i64))) (fun (x265 : Int) w266 => KeepK S227 w264 w266 (CallK Tryz.prog 14 #[.int .i64 x229, .int .i64 3] w266 (.v (.one (.int .i64))) (fun (x267 : Int) w268 => KeepK S227 w266 w268 (IdxK x263.1 x263.2.1 x267 1 (fun a269 => InK S227 a269 (LdK .str a269 w268 (fun (x270 : ByteArray) => StK ((ad g5).add 0) (.int .i64 6) w268 (fun w271 => KeepK S227 w268 w271 (StK ((ad g5).add 5) (.int .i64 x265) w271 (fun w272 => KeepK S227 w271 w272 (StK ((ad g5).add 4) (.string x270) w272 (fun w273 => KeepK S227 w272 w273 (J223 (()) w273)))))))))))))))))))))))
  (fun _ s224 w225 => ifB (!(Option.isNone p0))
  (CallK Tryz.prog 85 #[.pointer p0] w225 (.v (.one .slc)) (fun (x274 : SlT) w275 => LoopK (Int × Unit) (fun _ s276 w277 next278 => ifB (decide (s276.1 < (x274.2.1 : Int)))
  (IdxK x274.1 x274.2.1 s276.1 4 (fun a279 => LdsK KZ2 a279 w277 (fun (x280 : YZ2) => NewK (.cells #[.int .i64 0, .string (⟨#[]⟩ : ByteArray), .int .i64 0, .int .i64 0] 159) w277 (fun g281 w282 => StsK (ad g281) (LZ2 x280) w282 (fun w283 => LdK (.int .i64) ((ad g1).add 2) w283 (fun (x284 : Int) => CallK Tryz.prog 14 #[.int .i64 x284, .int .i64 4] w283 (.v (.one (.int .i64))) (fun (x285 : Int) w286 => ifB (decide (s276.1 ≤ x285))
  (LdK (.int .i64) ((ad g281).add 2) w286 (fun (x287 : Int) => LdK (.int .i64) ((ad g281).add 3) w286 (fun (x288 : Int) => ifB (x287 != x288)
  (DrewK w286 (fun w289 => HoldK (fun S290 => InK S290 ((ad g281).add 0) (LdK (.int .i64) ((ad g281).add 0) w289 (fun (x291 : Int) => InK S290 ((ad g281).add 1) (LdK .str ((ad g281).add 1) w289 (fun (x292 : ByteArray) => StK ((ad g5).add 5) (.int .i64 x291) w289 (fun w293 => KeepK S290 w289 w293 (StK ((ad g5).add 4) (.string x292) w293 (fun w294 => KeepK S290 w293 w294 (next278 (IntKind.i64.wrap (s276.1 + 1), ()) w294)))))))))))
  (next278 (IntKind.i64.wrap (s276.1 + 1), ()) w286))))
  (next278 (IntKind.i64.wrap (s276.1 + 1), ()) w286))))))))
  (LdK (.int .i64) ((ad g5).add 5) w277 (fun (x295 : Int) => LdK .str ((ad g5).add 4) w277 (fun (x296 : ByteArray) => CallK Tryz.prog 86 #[.pointer p0, .int .i64 x295, .string x296] w277 (.v (.one (.int .i64))) (fun (x297 : Int) w298 => StK ((ad g5).add 6) (.int .i64 x297) w298 (fun w299 => LdK (.int .i64) ((ad g1).add 2) w299 (fun (x300 : Int) => NzK 7 (ifB ((x300.tmod 7) == 6)
  (LdK (.int .i64) ((ad g1).add 4) w299 (fun (x301 : Int) => StK ((ad g5).add 6) (.int .i64 x301) w299 (fun w302 => LdsK KZ16 (ad g5) w302 (fun (x303 : YZ16) => StsK (ad g3) (LZ16 x303) w302 (fun w304 => LdsK KZ16 (ad g3) w304 (fun (x305 : YZ16) => K (.agg (LZ16 x305).toArray) w304))))))
  (LdsK KZ16 (ad g5) w299 (fun (x306 : YZ16) => StsK (ad g3) (LZ16 x306) w299 (fun w307 => LdsK KZ16 (ad g3) w307 (fun (x308 : YZ16) => K (.agg (LZ16 x308).toArray) w307))))))))))))
  (0, ()) w275))
  (LdK (.int .i64) ((ad g1).add 2) w225 (fun (x309 : Int) => NzK 7 (ifB ((x309.tmod 7) == 6)
  (LdK (.int .i64) ((ad g1).add 4) w225 (fun (x310 : Int) => StK ((ad g5).add 6) (.int .i64 x310) w225 (fun w311 => LdsK KZ16 (ad g5) w311 (fun (x312 : YZ16) => StsK (ad g3) (LZ16 x312) w311 (fun w313 => LdsK KZ16 (ad g3) w313 (fun (x314 : YZ16) => K (.agg (LZ16 x314).toArray) w313))))))
  (LdsK KZ16 (ad g5) w225 (fun (x315 : YZ16) => StsK (ad g3) (LZ16 x315) w225 (fun w316 => LdsK KZ16 (ad g3) w316 (fun (x317 : YZ16) => K (.agg (LZ16 x317).toArray) w316)))))))))
  (DrewK w20 (fun w318 => HoldK (fun S319 => InK S319 ((ad g1).add 1) (LdK (.int .i64) ((ad g1).add 1) w318 (fun (x320 : Int) => InK S319 ((ad g1).add 5) (LdK .str ((ad g1).add 5) w318 (fun (x321 : ByteArray) => InK S319 ((ad g1).add 3) (LdK (.int .i64) ((ad g1).add 3) w318 (fun (x322 : Int) => InK S319 ((ad g1).add 4) (LdK (.int .i64) ((ad g1).add 4) w318 (fun (x323 : Int) => CallK Tryz.prog 14 #[.int .i64 x320, .int .i64 9] w318 (.v (.one (.int .i64))) (fun (x324 : Int) w325 => KeepK S319 w318 w325 (CallK Tryz.prog 50 #[.string x321, .int .i64 5] w325 (.v (.one .str)) (fun (x326 : ByteArray) w327 => KeepK S319 w325 w327 (StsK (ad g5) [.int .i64 x324, .string x326, .string (⟨#[]⟩ : ByteArray), .string (⟨#[]⟩ : ByteArray), .string (⟨#[]⟩ : ByteArray), .int .i64 x322, .int .i64 x323, .int .i64 0, .string (⟨#[]⟩ : ByteArray), .int .i64 0, .slice none 0 0] w327 (fun w328 => KeepK S319 w327 w328 (LdsK KZ16 (ad g5) w328 (fun (x329 : YZ16) => StsK (ad g3) (LZ16 x329) w328 (fun w330 => LdsK KZ16 (ad g3) w330 (fun (x331 : YZ16) => K (.agg (LZ16 x331).toArray) w330))))))))))))))))))))))))))))))))))
def pl49 : Plan := (.seq .auto (.seq .auto (.seq .auto (.join [(8, .one .str)] .auto (.seq (.seq .auto (.block (.seq .auto (.cond .auto (.seq .auto (.cond .auto (.seq .auto (.cond (.join [] (.held (.soft 1 (.soft 2 (.soft 6 (.soft 7 (.soft 8 (.soft 9 (.soft 11 (.soft 12 (.soft 15 (.pick 0 (.pick 3 (.soft 4 (.soft 5 (.pick 10 (.pick 13 (.soft 14 (.pick 16 (.soft 17 (.pick 18 (.soft 19 (.pick 20 (.soft 21 (.pick 22 .done .stop)) .stop)) .stop)) .stop)) .stop) .stop))) .stop) (.pick 3 (.pick 0 (.soft 4 (.soft 5 (.pick 10 (.pick 13 (.soft 14 (.pick 16 (.soft 17 (.pick 18 (.soft 19 (.pick 20 (.soft 21 (.pick 22 .done .stop)) .stop)) .stop)) .stop)) .stop) .stop))) (.pick 10 (.pick 0 (.soft 4 (.soft 5 (.pick 13 (.soft 14 (.pick 16 (.soft 17 (.pick 18 (.soft 19 (.pick 20 (.soft 21 (.pick 22 .done .stop)) .stop)) .stop)) .stop)) .stop))) (.pick 13 (.soft 14 (.pick 0 (.soft 4 (.soft 5 (.pick 16 (.soft 17 (.pick 18 (.soft 19 (.pick 20 (.soft 21 (.pick 22 .done .stop)) .stop)) .stop)) .stop))) (.pick 16 (.pick 0 (.soft 4 (.soft 5 (.soft 17 (.pick 18 (.soft 19 (.pick 20 (.soft 21 (.pick 22 .done .stop)) .stop)) .stop)))) .stop) .stop))) .stop)) .stop)) .stop)))))))))))) (.seq (.seq .auto (.cond (.seq .auto (.block (.loop [(101, .one (.int .i64))] (.seq .auto (.seq .auto (.seq (.block (.seq .auto (.seq .still (.cond (.held (.soft 0 (.soft 1 (.soft 2 (.soft 3 (.soft 4 (.pick 5 (.soft 6 (.pick 7 .done .stop)) .stop))))))) .auto)))) .auto)))))) .auto)) .auto)) (.seq .auto (.cond (.seq (.held (.soft 0 (.soft 1 (.soft 2 (.soft 7 (.soft 8 (.soft 10 (.pick 3 (.soft 4 (.pick 5 (.soft 6 (.pick 9 (.pick 11 (.soft 12 (.pick 13 (.soft 14 (.pick 15 (.soft 16 (.pick 17 .done .stop)) .stop)) .stop)) .stop) .stop)) .stop)) .stop)))))))) (.seq .auto (.cond (.seq .auto (.block (.loop [(161, .one (.int .i64))] (.seq .auto (.seq .auto (.seq (.block (.seq .auto (.seq (.held (.soft 0 (.soft 1 (.soft 2 (.soft 3 (.soft 4 (.soft 5 (.soft 6 (.soft 7 (.soft 8 (.soft 9 (.pick 10 (.soft 11 (.soft 12 (.soft 13 (.soft 14 (.soft 15 (.soft 16 (.soft 17 .done))))))) .stop)))))))))))) (.seq .auto (.block (.loop [(182, .one (.int .i64))] (.seq .auto (.seq .auto (.seq (.block (.seq .auto (.seq .auto (.cond (.held (.soft 0 (.soft 1 (.soft 2 (.soft 3 (.soft 4 (.pick 5 (.soft 6 (.pick 7 .done .stop)) .stop))))))) .auto)))) .auto))))))))) .auto)))))) .auto))) (.seq .auto (.cond .auto (.seq .auto (.cond (.join [] (.held (.soft 0 (.soft 1 (.soft 2 (.soft 3 (.soft 6 (.soft 7 (.soft 11 (.pick 4 (.pick 5 (.pick 8 (.soft 9 (.soft 10 (.pick 12 (.soft 13 (.pick 14 (.soft 15 (.pick 16 .done .stop)) .stop)) .stop))) .stop) (.pick 8 (.pick 5 (.soft 9 (.soft 10 (.pick 12 (.soft 13 (.pick 14 (.soft 15 (.pick 16 .done .stop)) .stop)) .stop))) (.pick 12 (.soft 13 (.pick 5 (.soft 9 (.soft 10 (.pick 14 (.soft 15 (.pick 16 .done .stop)) .stop))) (.pick 14 (.pick 5 (.soft 9 (.soft 10 (.soft 15 (.pick 16 .done .stop)))) .stop) .stop))) .stop)) .stop)) (.pick 5 (.pick 4 (.pick 8 (.soft 9 (.soft 10 (.pick 12 (.soft 13 (.pick 14 (.soft 15 (.pick 16 .done .stop)) .stop)) .stop))) .stop) .stop) .stop)))))))))) (.seq (.seq .auto (.cond (.seq (.seq .auto (.block (.loop [(228, .one (.int .i64))] (.seq .auto (.seq .auto (.seq (.block (.seq .auto (.seq .auto (.cond (.held (.soft 0 (.soft 1 (.soft 2 (.soft 3 (.soft 4 (.pick 5 (.soft 6 (.pick 7 .done .stop)) .stop))))))) .auto)))) .auto)))))) .auto) .auto)) .auto)) (.held (.soft 0 (.soft 1 (.soft 3 (.soft 4 (.soft 6 (.soft 7 (.soft 8 (.soft 9 (.pick 2 (.pick 5 (.soft 10 (.pick 11 .done .stop)) .stop) .stop)))))))))))))))))))))))) .auto)))))
theorem e49 (p0 : Option Addr) (p1 : YZ13) (p2 : Int) (w : World) (K : Value → World → Prop) : vcFunc Tryz.prog Tryz.f49 pl49 [.pointer p0, .agg (LZ13 p1).toArray, .int .i64 p2] w K = C49 p0 p1 p2 w K := by kernel_rfl
theorem c49 (p0 : Option Addr) (p1 : YZ13) (p2 : Int) (w : World) (K : Value → World → Prop) (h : C49 p0 p1 p2 w K) : Ret Tryz.prog 49 #[.pointer p0, .agg (LZ13 p1).toArray, .int .i64 p2] w K := by
  rw [← e49] at h
  exact vcFunc_sound (by kernel_rfl) Tryz.func49 h

/-- handfast/handfastplay.Back -/
def C44 (p0 : YZ16) (w : World) (K : Value → World → Prop) : Prop :=
  NewK (.cells ((LZ16 p0).toArray) 43) w (fun g1 w2 => NewK (.cells #[.int .i64 0, .string (⟨#[]⟩ : ByteArray), .string (⟨#[]⟩ : ByteArray), .string (⟨#[]⟩ : ByteArray), .string (⟨#[]⟩ : ByteArray), .int .i64 0, .int .i64 0, .nilIface] 36) w2 (fun g3 w4 => DrewK w4 (fun w5 => HoldK (fun S6 => InK S6 ((ad g1).add 0) (LdK (.int .i64) ((ad g1).add 0) w5 (fun (x7 : Int) => InK S6 ((ad g1).add 1) (LdK .str ((ad g1).add 1) w5 (fun (x8 : ByteArray) => InK S6 ((ad g1).add 2) (LdK .str ((ad g1).add 2) w5 (fun (x9 : ByteArray) => InK S6 ((ad g1).add 3) (LdK .str ((ad g1).add 3) w5 (fun (x10 : ByteArray) => InK S6 ((ad g1).add 4) (LdK .str ((ad g1).add 4) w5 (fun (x11 : ByteArray) => InK S6 ((ad g1).add 5) (LdK (.int .i64) ((ad g1).add 5) w5 (fun (x12 : Int) => InK S6 ((ad g1).add 6) (LdK (.int .i64) ((ad g1).add 6) w5 (fun (x13 : Int) => InK S6 ((ad g1).add 7) (LdsK KZ3 ((ad g1).add 7) w5 (fun (x14 : YZ3) => CallK Tryz.prog 71 #[.agg (LZ3 x14).toArray] w5 (.v (.one .raw)) (fun (x15 : Value) w16 => KeepK S6 w5 w16 (OneK x15 (StsK (ad g3) [.int .i64 x7, .string x8, .string x9, .string x10, .string x11, .int .i64 x12, .int .i64 x13, x15] w16 (fun w17 => KeepK S6 w16 w17 (LdsK KZ14 (ad g3) w17 (fun (x18 : YZ14) => K (.agg (LZ14 x18).toArray) w17))))))))))))))))))))))))))
def pl44 : Plan := (.seq .auto (.seq (.held (.soft 0 (.soft 1 (.soft 2 (.soft 3 (.soft 4 (.soft 5 (.soft 6 (.soft 7 (.soft 8 (.soft 9 (.soft 10 (.soft 11 (.soft 12 (.soft 13 (.soft 14 (.soft 15 (.pick 16 (.soft 17 (.pick 18 .done .stop)) .stop)))))))))))))))))) .auto))
theorem e44 (p0 : YZ16) (w : World) (K : Value → World → Prop) : vcFunc Tryz.prog Tryz.f44 pl44 [.agg (LZ16 p0).toArray] w K = C44 p0 w K := by kernel_rfl
theorem c44 (p0 : YZ16) (w : World) (K : Value → World → Prop) (h : C44 p0 w K) : Ret Tryz.prog 44 #[.agg (LZ16 p0).toArray] w K := by
  rw [← e44] at h
  exact vcFunc_sound (by kernel_rfl) Tryz.func44 h

/-- handfast/handfastplay.Event -/
def C51 (p0 : YZ14) (w : World) (K : Value → World → Prop) : Prop :=
  NewK (.cells ((LZ14 p0).toArray) 36) w (fun g1 w2 => NewK (.cells #[.int .i64 0, .string (⟨#[]⟩ : ByteArray), .string (⟨#[]⟩ : ByteArray), .string (⟨#[]⟩ : ByteArray), .string (⟨#[]⟩ : ByteArray), .int .i64 0, .int .i64 0, .int .i64 0, .string (⟨#[]⟩ : ByteArray), .int .i64 0, .slice none 0 0] 43) w2 (fun g3 w4 => DrewK w4 (fun w5 => HoldK (fun S6 => InK S6 ((ad g1).add 0) (LdK (.int .i64) ((ad g1).add 0) w5 (fun (x7 : Int) => InK S6 ((ad g1).add 1) (LdK .str ((ad g1).add 1) w5 (fun (x8 : ByteArray) => InK S6 ((ad g1).add 2) (LdK .str ((ad g1).add 2) w5 (fun (x9 : ByteArray) => InK S6 ((ad g1).add 3) (LdK .str ((ad g1).add 3) w5 (fun (x10 : ByteArray) => InK S6 ((ad g1).add 4) (LdK .str ((ad g1).add 4) w5 (fun (x11 : ByteArray) => InK S6 ((ad g1).add 5) (LdK (.int .i64) ((ad g1).add 5) w5 (fun (x12 : Int) => InK S6 ((ad g1).add 6) (LdK (.int .i64) ((ad g1).add 6) w5 (fun (x13 : Int) => InK S6 ((ad g1).add 7) (LdK .raw ((ad g1).add 7) w5 (fun (x14 : Value) => CallK Tryz.prog 87 #[x14] w5 (.v (.agg KZ3)) (fun (x15 : YZ3) w16 => KeepK S6 w5 w16 (StsK (ad g3) [.int .i64 x7, .string x8, .string x9, .string x10, .string x11, .int .i64 x12, .int .i64 x13, .int .i64 x15.1, .string x15.2.1, .int .i64 x15.2.2.1, .slice x15.2.2.2.1.1 x15.2.2.2.1.2.1 x15.2.2.2.1.2.2] w16 (fun w17 => KeepK S6 w16 w17 (LdsK KZ16 (ad g3) w17 (fun (x18 : YZ16) => K (.agg (LZ16 x18).toArray) w17)))))))))))))))))))))))))
def pl51 : Plan := (.seq .auto (.seq (.held (.soft 0 (.soft 1 (.soft 2 (.soft 3 (.soft 4 (.soft 5 (.soft 6 (.soft 7 (.soft 8 (.soft 9 (.soft 10 (.soft 11 (.soft 12 (.soft 13 (.soft 14 (.soft 15 (.pick 16 (.soft 17 (.pick 18 .done .stop)) .stop)))))))))))))))))) .auto))
theorem e51 (p0 : YZ14) (w : World) (K : Value → World → Prop) : vcFunc Tryz.prog Tryz.f51 pl51 [.agg (LZ14 p0).toArray] w K = C51 p0 w K := by kernel_rfl
theorem c51 (p0 : YZ14) (w : World) (K : Value → World → Prop) (h : C51 p0 w K) : Ret Tryz.prog 51 #[.agg (LZ14 p0).toArray] w K := by
  rw [← e51] at h
  exact vcFunc_sound (by kernel_rfl) Tryz.func51 h

end Go.Proofs.YtdphmcanlhcokaaGreatDoor

/-! ### SomeSpec -/
set_option linter.unusedVariables false
set_option maxRecDepth 100000
namespace Go.Proofs.YtdphmcanlhcokaaGreatDoor
open Vc

abbrev EK : List Ck := [.int .i64, .str, .str, .str, .str, .int .i64, .int .i64, .raw]
abbrev ERK : List Ck := [.int .i64, .str, .str, .str, .str, .int .i64, .int .i64, .int .i64, .str, .int .i64, .slc]
def evL (e : EvT) : List Value := [.int .i64 e.1, .string e.2.1, .string e.2.2.1, .string e.2.2.2.1, .string e.2.2.2.2.1, .int .i64 e.2.2.2.2.2.1, .int .i64 e.2.2.2.2.2.2.1, e.2.2.2.2.2.2.2.1]
theorem evL_one {e : EvT} (h : one1 e.2.2.2.2.2.2.2.1 = true) : (evL e).all one1 = true := by
  show (one1 (.int .i64 _) && (one1 (.string _) && (one1 (.string _) && (one1 (.string _) && (one1 (.string _) && (one1 (.int .i64 _) && (one1 (.int .i64 _) && (one1 e.2.2.2.2.2.2.2.1 && true)))))))) = true
  rw [h]; rfl
theorem tv_at {w : World} {g : Nat} {x : EvR} {T : TypeId} (hb : w.heap[g]? = some (.cells (evRL x).toArray T (0, 0))) {K : TV → Prop} (k : K (x.2.2.2.2.2.2.2.1, x.2.2.2.2.2.2.2.2.1, x.2.2.2.2.2.2.2.2.2.1, x.2.2.2.2.2.2.2.2.2.2.1, ())) : LdsK TVK ((⟨g, 0, none⟩ : Addr).add 7) w K :=
  ⟨(x.2.2.2.2.2.2.2.1, x.2.2.2.2.2.2.2.2.1, x.2.2.2.2.2.2.2.2.2.1, x.2.2.2.2.2.2.2.2.2.2.1, ()), cellsAt_shift (m := 7) _ 0 (cellsAt_all hb _ 7 fun j hj => (by
    match j, hj with
    | 0, _ => rfl
    | 1, _ => rfl
    | 2, _ => rfl
    | 3, _ => rfl
    | j + 4, h => exact absurd h (by show ¬ j + 4 < 4; omega))), k⟩

theorem back_spec (e : EvT) (t : Tm) (he : e.2.2.2.2.2.2.2.1 = t.v) {w : World} {S : Nat → Prop} {v : TV} (h : IsTr w S (trT t) v) :
    Ret Tryz.prog 44 #[evRA (evR e v)] w fun r w' => r = evA e ∧ Fr none1 w w' := by
  refine c44 (evR e v) w _ ?_
  unfold C44
  refine NewK.of fun g w1 hg hb f1 hs1 => NewK.of fun g3 w2 hg3 hb3 f2 hs2 => ?_
  have hb2 := f2.keep0 hb
  refine DrewK.of fun w3 _ f3 => HoldK.of (fun k => k ≠ g3) ?_
  have hb3' := f3.keep0 hb2
  have hn : g ≠ g3 := by omega
  refine ⟨by rw [addr_add]; exact hn, LdK.fld hb3' (x := e.1) rfl ?_⟩
  refine ⟨by rw [addr_add]; exact hn, LdK.fld hb3' (x := e.2.1) rfl ?_⟩
  refine ⟨by rw [addr_add]; exact hn, LdK.fld hb3' (x := e.2.2.1) rfl ?_⟩
  refine ⟨by rw [addr_add]; exact hn, LdK.fld hb3' (x := e.2.2.2.1) rfl ?_⟩
  refine ⟨by rw [addr_add]; exact hn, LdK.fld hb3' (x := e.2.2.2.2.1) rfl ?_⟩
  refine ⟨by rw [addr_add]; exact hn, LdK.fld hb3' (x := e.2.2.2.2.2.1) rfl ?_⟩
  refine ⟨by rw [addr_add]; exact hn, LdK.fld hb3' (x := e.2.2.2.2.2.2.1) rfl ?_⟩
  refine ⟨by rw [addr_add]; exact hn, tv_at (x := evR e v) hb3' ?_⟩
  have f13 := (f1.trans f2).trans f3
  refine CallK.of (pterm_spec t (h.keep0 f13)) ?_
  rintro _ w4 ⟨rfl, f4⟩
  refine ⟨_, rfl, KeepK.of f4 ⟨Tm.cell1 t, ?_⟩⟩
  refine StsK.blk (cs := [.int .i64 0, .string (⟨#[]⟩ : ByteArray), .string (⟨#[]⟩ : ByteArray), .string (⟨#[]⟩ : ByteArray), .string (⟨#[]⟩ : ByteArray), .int .i64 0, .int .i64 0, .nilIface]) (vs := [.int .i64 e.1, .string e.2.1, .string e.2.2.1, .string e.2.2.2.1, .string e.2.2.2.2.1, .int .i64 e.2.2.2.2.2.1, .int .i64 e.2.2.2.2.2.2.1, t.v]) ((f3.trans f4).keep0 hb3) rfl (by
    have := evL_one (e := e) (by rw [he]; exact Tm.v_one t)
    unfold evL at this; rw [he] at this; exact this) fun w5 hb5 f5 _ => KeepK.on f5 (fun k hk t => hk t) ?_
  rw [← he] at hb5
  exact LdsK.blk (cks := EK) (x := e) hb5 ⟨rfl, (f13.trans f4).fresh f5 (by have := f1.size; omega)⟩

end Go.Proofs.YtdphmcanlhcokaaGreatDoor

/-! ### CReadG -/
namespace Go.Proofs.YtdphmcanlhcokaaGreatDoor
open Vc
set_option maxRecDepth 100000
set_option linter.unusedVariables false
/-- (*handfast/read.reader).place -/
def C215 (p0 : Addr) (w : World) (K : Value → World → Prop) : Prop :=
  LdK .slc (p0.add 0) w (fun (x1 : SlT) => ifB (decide ((x1.2.1 : Int) > 0))
  (LdK .slc (p0.add 0) w (fun (x2 : SlT) => IdxK x2.1 x2.2.1 0 2 (fun a3 => LdK (.int .i64) (a3.add 1) w (fun (x4 : Int) => K (.int .i64 x4) w))))
  (LdK (.int .i64) (p0.add 1) w (fun (x5 : Int) => K (.int .i64 x5) w)))
def pl215 : Plan := .auto
theorem e215 (p0 : Addr) (w : World) (K : Value → World → Prop) : vcFunc Tryz.prog Tryz.f215 pl215 [.pointer (some p0)] w K = C215 p0 w K := by kernel_rfl
theorem c215 (p0 : Addr) (w : World) (K : Value → World → Prop) (h : C215 p0 w K) : Ret Tryz.prog 215 #[.pointer (some p0)] w K := by
  rw [← e215] at h
  exact vcFunc_sound (by kernel_rfl) Tryz.func215 h

/-- (*handfast/read.reader).fail -/
def C198 (p0 : Addr) (p1 : Int) (w : World) (K : Value → World → Prop) : Prop :=
  LdK (.int .i64) (p0.add 3) w (fun (x1 : Int) => ifB (x1 == 0)
  (CallK Tryz.prog 215 #[.pointer (some p0)] w (.v (.one (.int .i64))) (fun (x2 : Int) w3 => StK (p0.add 3) (.int .i64 p1) w3 (fun w4 => StK (p0.add 2) (.int .i64 x2) w4 (fun w5 => K (.tuple #[]) w5))))
  (K (.tuple #[]) w))
def pl198 : Plan := .auto
theorem e198 (p0 : Addr) (p1 : Int) (w : World) (K : Value → World → Prop) : vcFunc Tryz.prog Tryz.f198 pl198 [.pointer (some p0), .int .i64 p1] w K = C198 p0 p1 w K := by kernel_rfl
theorem c198 (p0 : Addr) (p1 : Int) (w : World) (K : Value → World → Prop) (h : C198 p0 p1 w K) : Ret Tryz.prog 198 #[.pointer (some p0), .int .i64 p1] w K := by
  rw [← e198] at h
  exact vcFunc_sound (by kernel_rfl) Tryz.func198 h

/-- (*handfast/read.reader).take -/
def C190 (p0 : Addr) (p1 : Value) (w : World) (K : Value → World → Prop) : Prop :=
  JoinK (Bool × Unit) (fun J1 => LdK (.int .i64) (p0.add 3) w (fun (x4 : Int) => ifB (x4 == 0)
  (LdK .slc (p0.add 0) w (fun (x5 : SlT) => ifB ((x5.2.1 : Int) == 0)
  (J1 (true, ()) w)
  (LdK .slc (p0.add 0) w (fun (x6 : SlT) => IdxK x6.1 x6.2.1 0 2 (fun a7 => LdK .str (a7.add 0) w (fun (x8 : ByteArray) => callV Tryz.prog p1 [.string x8] (.v (.one .bool)) w (fun (x9 : Bool) w10 => J1 ((!x9), ()) w10)))))))
  (J1 (false, ()) w)))
  (fun _ s2 w3 => ifB s2.1
  (CallK Tryz.prog 198 #[.pointer (some p0), .int .i64 2] w3 (.tup []) (fun (x11 : Unit) w12 => LdK (.int .i64) (p0.add 3) w12 (fun (x13 : Int) => ifB (x13 != 0)
  (K (.string (⟨#[]⟩ : ByteArray)) w12)
  (LdK .slc (p0.add 0) w12 (fun (x14 : SlT) => IdxK x14.1 x14.2.1 0 2 (fun a15 => LdK .str (a15.add 0) w12 (fun (x16 : ByteArray) => LdK .slc (p0.add 0) w12 (fun (x17 : SlT) => SubK x17.1 x17.2.2 1 x17.2.1 x17.2.2 2 (fun a18 l19 c20 => StK (p0.add 0) (.slice a18 l19 c20) w12 (fun w21 => K (.string x16) w21))))))))))
  (LdK (.int .i64) (p0.add 3) w3 (fun (x22 : Int) => ifB (x22 != 0)
  (K (.string (⟨#[]⟩ : ByteArray)) w3)
  (LdK .slc (p0.add 0) w3 (fun (x23 : SlT) => IdxK x23.1 x23.2.1 0 2 (fun a24 => LdK .str (a24.add 0) w3 (fun (x25 : ByteArray) => LdK .slc (p0.add 0) w3 (fun (x26 : SlT) => SubK x26.1 x26.2.2 1 x26.2.1 x26.2.2 2 (fun a27 l28 c29 => StK (p0.add 0) (.slice a27 l28 c29) w3 (fun w30 => K (.string x25) w30))))))))))
def pl190 : Plan := (.seq .auto (.seq (.join [(30, .one .bool)] .auto .auto) .auto))
theorem e190 (p0 : Addr) (p1 : Value) (w : World) (K : Value → World → Prop) : vcFunc Tryz.prog Tryz.f190 pl190 [.pointer (some p0), p1] w K = C190 p0 p1 w K := by kernel_rfl
theorem c190 (p0 : Addr) (p1 : Value) (w : World) (K : Value → World → Prop) (h : C190 p0 p1 w K) : Ret Tryz.prog 190 #[.pointer (some p0), p1] w K := by
  rw [← e190] at h
  exact vcFunc_sound (by kernel_rfl) Tryz.func190 h

/-- (*handfast/read.reader).must -/
def C192 (p0 : Addr) (p1 : ByteArray) (w : World) (K : Value → World → Prop) : Prop :=
  NewK (.cells #[.string p1] 9) w (fun g1 w2 => CallK Tryz.prog 190 #[.pointer (some p0), .func (.func 210) #[] #[.pointer (some (ad g1))]] w2 (.v (.one .str)) (fun (x3 : ByteArray) w4 => K (.tuple #[]) w4))
def pl192 : Plan := .auto
theorem e192 (p0 : Addr) (p1 : ByteArray) (w : World) (K : Value → World → Prop) : vcFunc Tryz.prog Tryz.f192 pl192 [.pointer (some p0), .string p1] w K = C192 p0 p1 w K := by kernel_rfl
theorem c192 (p0 : Addr) (p1 : ByteArray) (w : World) (K : Value → World → Prop) (h : C192 p0 p1 w K) : Ret Tryz.prog 192 #[.pointer (some p0), .string p1] w K := by
  rw [← e192] at h
  exact vcFunc_sound (by kernel_rfl) Tryz.func192 h

/-- (*handfast/read.reader).must$1 -/
def C210 (p0 : ByteArray) (c0 : Addr) (w : World) (K : Value → World → Prop) : Prop :=
  LdK .str c0 w (fun (x1 : ByteArray) => K (.bool (p0.toList == x1.toList)) w)
def pl210 : Plan := .auto
theorem e210 (p0 : ByteArray) (c0 : Addr) (w : World) (K : Value → World → Prop) : vcFunc Tryz.prog Tryz.f210 pl210 [.string p0, .pointer (some c0)] w K = C210 p0 c0 w K := by kernel_rfl
theorem c210 (p0 : ByteArray) (c0 : Addr) (w : World) (K : Value → World → Prop) (h : C210 p0 c0 w K) : Ret Tryz.prog 210 #[.string p0, .pointer (some c0)] w K := by
  rw [← e210] at h
  exact vcFunc_sound (by kernel_rfl) Tryz.func210 h

/-- (*handfast/read.reader).name -/
def C193 (p0 : Addr) (w : World) (K : Value → World → Prop) : Prop :=
  CallK Tryz.prog 190 #[.pointer (some p0), .func (.func 94) #[] #[]] w (.v (.one .str)) (fun (x1 : ByteArray) w2 => K (.string x1) w2)
def pl193 : Plan := .auto
theorem e193 (p0 : Addr) (w : World) (K : Value → World → Prop) : vcFunc Tryz.prog Tryz.f193 pl193 [.pointer (some p0)] w K = C193 p0 w K := by kernel_rfl
theorem c193 (p0 : Addr) (w : World) (K : Value → World → Prop) (h : C193 p0 w K) : Ret Tryz.prog 193 #[.pointer (some p0)] w K := by
  rw [← e193] at h
  exact vcFunc_sound (by kernel_rfl) Tryz.func193 h

/-- (*handfast/read.reader).deep -/
def C189 (p0 : Addr) (p1 : Int) (w : World) (K : Value → World → Prop) : Prop :=
  ifB (decide (p1 ≥ 12))
  (CallK Tryz.prog 198 #[.pointer (some p0), .int .i64 5] w (.tup []) (fun (x1 : Unit) w2 => LdK (.int .i64) (p0.add 3) w2 (fun (x3 : Int) => K (.bool (x3 != 0)) w2)))
  (LdK (.int .i64) (p0.add 3) w (fun (x4 : Int) => K (.bool (x4 != 0)) w))
def pl189 : Plan := .auto
theorem e189 (p0 : Addr) (p1 : Int) (w : World) (K : Value → World → Prop) : vcFunc Tryz.prog Tryz.f189 pl189 [.pointer (some p0), .int .i64 p1] w K = C189 p0 p1 w K := by kernel_rfl
theorem c189 (p0 : Addr) (p1 : Int) (w : World) (K : Value → World → Prop) (h : C189 p0 p1 w K) : Ret Tryz.prog 189 #[.pointer (some p0), .int .i64 p1] w K := by
  rw [← e189] at h
  exact vcFunc_sound (by kernel_rfl) Tryz.func189 h

/-- (*handfast/read.reader).pair -/
def C212 (p0 : Addr) (p1 : Int) (w : World) (K : Value → World → Prop) : Prop :=
  CallK Tryz.prog 192 #[.pointer (some p0), .string (⟨#[40]⟩ : ByteArray)] w (.tup []) (fun (x1 : Unit) w2 => CallK Tryz.prog 196 #[.pointer (some p0), .int .i64 p1] w2 (.v (.one .raw)) (fun (x3 : Value) w4 => CallK Tryz.prog 192 #[.pointer (some p0), .string (⟨#[44]⟩ : ByteArray)] w4 (.tup []) (fun (x5 : Unit) w6 => CallK Tryz.prog 196 #[.pointer (some p0), .int .i64 p1] w6 (.v (.one .raw)) (fun (x7 : Value) w8 => CallK Tryz.prog 192 #[.pointer (some p0), .string (⟨#[41]⟩ : ByteArray)] w8 (.tup []) (fun (x9 : Unit) w10 => K (.tuple #[x3, x7]) w10)))))
def pl212 : Plan := .auto
theorem e212 (p0 : Addr) (p1 : Int) (w : World) (K : Value → World → Prop) : vcFunc Tryz.prog Tryz.f212 pl212 [.pointer (some p0), .int .i64 p1] w K = C212 p0 p1 w K := by kernel_rfl
theorem c212 (p0 : Addr) (p1 : Int) (w : World) (K : Value → World → Prop) (h : C212 p0 p1 w K) : Ret Tryz.prog 212 #[.pointer (some p0), .int .i64 p1] w K := by
  rw [← e212] at h
  exact vcFunc_sound (by kernel_rfl) Tryz.func212 h

/-- (*handfast/read.reader).number -/
def C196 (p0 : Addr) (p1 : Int) (w : World) (K : Value → World → Prop) : Prop :=
  CallK Tryz.prog 189 #[.pointer (some p0), .int .i64 p1] w (.v (.one .bool)) (fun (x1 : Bool) w2 => ifB x1
  (K .nilIface w2)
  (CallK Tryz.prog 190 #[.pointer (some p0), .func (.func 211) #[] #[]] w2 (.v (.one .str)) (fun (x3 : ByteArray) w4 => ifB (x3.toList == (⟨#[]⟩ : ByteArray).toList)
  (K .nilIface w4)
  (ifB (x3.toList == (⟨#[102, 105, 120]⟩ : ByteArray).toList)
  (CallK Tryz.prog 192 #[.pointer (some p0), .string (⟨#[40]⟩ : ByteArray)] w4 (.tup []) (fun (x5 : Unit) w6 => CallK Tryz.prog 193 #[.pointer (some p0)] w6 (.v (.one .str)) (fun (x7 : ByteArray) w8 => NewK (.cells #[.string (⟨#[]⟩ : ByteArray)] 210) w8 (fun g9 w10 => StsK (ad g9) [.string x7] w10 (fun w11 => CallK Tryz.prog 192 #[.pointer (some p0), .string (⟨#[41]⟩ : ByteArray)] w11 (.tup []) (fun (x12 : Unit) w13 => LdsK [.str] (ad g9) w13 (fun (x14 : ByteArray × Unit) => K (.iface 210 (.agg #[.string x14.1])) w13)))))))
  (ifB (x3.toList == (⟨#[110, 101, 103]⟩ : ByteArray).toList)
  (CallK Tryz.prog 192 #[.pointer (some p0), .string (⟨#[40]⟩ : ByteArray)] w4 (.tup []) (fun (x15 : Unit) w16 => CallK Tryz.prog 196 #[.pointer (some p0), .int .i64 (IntKind.i64.wrap (p1 + 1))] w16 (.v (.one .raw)) (fun (x17 : Value) w18 => OneK x17 (NewK (.cells #[.nilIface] 254) w18 (fun g19 w20 => StsK (ad g19) [x17] w20 (fun w21 => CallK Tryz.prog 192 #[.pointer (some p0), .string (⟨#[41]⟩ : ByteArray)] w21 (.tup []) (fun (x22 : Unit) w23 => LdsK [.raw] (ad g19) w23 (fun (x24 : Value × Unit) => K (.iface 254 (.agg #[x24.1])) w23))))))))
  (ifB (x3.toList == (⟨#[97, 100, 100]⟩ : ByteArray).toList)
  (CallK Tryz.prog 212 #[.pointer (some p0), .int .i64 (IntKind.i64.wrap (p1 + 1))] w4 (.tup [.one .raw, .one .raw]) (fun (x25 : Value × Value × Unit) w26 => OneK x25.1 (OneK x25.2.1 (K (.iface 252 (.agg #[x25.1, x25.2.1])) w26))))
  (ifB (x3.toList == (⟨#[109, 117, 108]⟩ : ByteArray).toList)
  (CallK Tryz.prog 212 #[.pointer (some p0), .int .i64 (IntKind.i64.wrap (p1 + 1))] w4 (.tup [.one .raw, .one .raw]) (fun (x27 : Value × Value × Unit) w28 => OneK x27.1 (OneK x27.2.1 (K (.iface 255 (.agg #[x27.1, x27.2.1])) w28))))
  (ifB (x3.toList == (⟨#[109, 97, 120]⟩ : ByteArray).toList)
  (CallK Tryz.prog 212 #[.pointer (some p0), .int .i64 (IntKind.i64.wrap (p1 + 1))] w4 (.tup [.one .raw, .one .raw]) (fun (x29 : Value × Value × Unit) w30 => OneK x29.1 (OneK x29.2.1 (K (.iface 256 (.agg #[x29.1, x29.2.1])) w30))))
  (CallK Tryz.prog 213 #[.string x3] w4 (.tup [.one (.int .i64), .one .bool]) (fun (x31 : Int × Bool × Unit) w32 => K (.iface 108 (.agg #[.int .i64 x31.1])) w32))))))))))
def pl196 : Plan := .auto
theorem e196 (p0 : Addr) (p1 : Int) (w : World) (K : Value → World → Prop) : vcFunc Tryz.prog Tryz.f196 pl196 [.pointer (some p0), .int .i64 p1] w K = C196 p0 p1 w K := by kernel_rfl
theorem c196 (p0 : Addr) (p1 : Int) (w : World) (K : Value → World → Prop) (h : C196 p0 p1 w K) : Ret Tryz.prog 196 #[.pointer (some p0), .int .i64 p1] w K := by
  rw [← e196] at h
  exact vcFunc_sound (by kernel_rfl) Tryz.func196 h

/-- (*handfast/read.reader).day -/
def C197 (p0 : Addr) (w : World) (K : Value → World → Prop) : Prop :=
  CallK Tryz.prog 190 #[.pointer (some p0), .func (.func 214) #[] #[]] w (.v (.one .str)) (fun (x1 : ByteArray) w2 => CallK Tryz.prog 213 #[.string x1] w2 (.tup [.one (.int .i64), .one .bool]) (fun (x3 : Int × Bool × Unit) w4 => K (.int .i64 x3.1) w4))
def pl197 : Plan := .auto
theorem e197 (p0 : Addr) (w : World) (K : Value → World → Prop) : vcFunc Tryz.prog Tryz.f197 pl197 [.pointer (some p0)] w K = C197 p0 w K := by kernel_rfl
theorem c197 (p0 : Addr) (w : World) (K : Value → World → Prop) (h : C197 p0 w K) : Ret Tryz.prog 197 #[.pointer (some p0)] w K := by
  rw [← e197] at h
  exact vcFunc_sound (by kernel_rfl) Tryz.func197 h

/-- (*handfast/read.reader).day$1 -/
def C214 (p0 : ByteArray) (w : World) (K : Value → World → Prop) : Prop :=
  CallK Tryz.prog 213 #[.string p0] w (.tup [.one (.int .i64), .one .bool]) (fun (x1 : Int × Bool × Unit) w2 => ifB x1.2.1
  (ifB (decide (x1.1 ≥ 0))
  (K (.bool (decide (x1.1 ≤ 10000))) w2)
  (K (.bool false) w2))
  (K (.bool false) w2))
def pl214 : Plan := .auto
theorem e214 (p0 : ByteArray) (w : World) (K : Value → World → Prop) : vcFunc Tryz.prog Tryz.f214 pl214 [.string p0] w K = C214 p0 w K := by kernel_rfl
theorem c214 (p0 : ByteArray) (w : World) (K : Value → World → Prop) (h : C214 p0 w K) : Ret Tryz.prog 214 #[.string p0] w K := by
  rw [← e214] at h
  exact vcFunc_sound (by kernel_rfl) Tryz.func214 h

/-- (*handfast/read.reader).both -/
def C195 (p0 : Addr) (p1 : Int) (w : World) (K : Value → World → Prop) : Prop :=
  CallK Tryz.prog 171 #[.pointer (some p0), .int .i64 p1] w (.v (.one .raw)) (fun (x1 : Value) w2 => CallK Tryz.prog 192 #[.pointer (some p0), .string (⟨#[44]⟩ : ByteArray)] w2 (.tup []) (fun (x3 : Unit) w4 => CallK Tryz.prog 171 #[.pointer (some p0), .int .i64 p1] w4 (.v (.one .raw)) (fun (x5 : Value) w6 => CallK Tryz.prog 192 #[.pointer (some p0), .string (⟨#[41]⟩ : ByteArray)] w6 (.tup []) (fun (x7 : Unit) w8 => K (.tuple #[x1, x5]) w8))))
def pl195 : Plan := .auto
theorem e195 (p0 : Addr) (p1 : Int) (w : World) (K : Value → World → Prop) : vcFunc Tryz.prog Tryz.f195 pl195 [.pointer (some p0), .int .i64 p1] w K = C195 p0 p1 w K := by kernel_rfl
theorem c195 (p0 : Addr) (p1 : Int) (w : World) (K : Value → World → Prop) (h : C195 p0 p1 w K) : Ret Tryz.prog 195 #[.pointer (some p0), .int .i64 p1] w K := by
  rw [← e195] at h
  exact vcFunc_sound (by kernel_rfl) Tryz.func195 h

/-- (*handfast/read.reader).one -/
def C194 (p0 : Addr) (p1 : Int) (w : World) (K : Value → World → Prop) : Prop :=
  CallK Tryz.prog 171 #[.pointer (some p0), .int .i64 p1] w (.v (.one .raw)) (fun (x1 : Value) w2 => CallK Tryz.prog 192 #[.pointer (some p0), .string (⟨#[41]⟩ : ByteArray)] w2 (.tup []) (fun (x3 : Unit) w4 => K x1 w4))
def pl194 : Plan := .auto
theorem e194 (p0 : Addr) (p1 : Int) (w : World) (K : Value → World → Prop) : vcFunc Tryz.prog Tryz.f194 pl194 [.pointer (some p0), .int .i64 p1] w K = C194 p0 p1 w K := by kernel_rfl
theorem c194 (p0 : Addr) (p1 : Int) (w : World) (K : Value → World → Prop) (h : C194 p0 p1 w K) : Ret Tryz.prog 194 #[.pointer (some p0), .int .i64 p1] w K := by
  rw [← e194] at h
  exact vcFunc_sound (by kernel_rfl) Tryz.func194 h

/-- (*handfast/read.reader).contract -/
def C171 (p0 : Addr) (p1 : Int) (w : World) (K : Value → World → Prop) : Prop :=
  CallK Tryz.prog 189 #[.pointer (some p0), .int .i64 p1] w (.v (.one .bool)) (fun (x1 : Bool) w2 => ifB x1
  (K .nilIface w2)
  (CallK Tryz.prog 190 #[.pointer (some p0), .func (.func 191) #[] #[]] w2 (.v (.one .str)) (fun (x3 : ByteArray) w4 => ifB (x3.toList == (⟨#[]⟩ : ByteArray).toList)
  (K (.iface 188 (.agg #[])) w4)
  (ifB (x3.toList == (⟨#[122, 101, 114, 111]⟩ : ByteArray).toList)
  (K (.iface 188 (.agg #[])) w4)
  (CallK Tryz.prog 192 #[.pointer (some p0), .string (⟨#[40]⟩ : ByteArray)] w4 (.tup []) (fun (x5 : Unit) w6 => ifB (x3.toList == (⟨#[111, 110, 101]⟩ : ByteArray).toList)
  (CallK Tryz.prog 193 #[.pointer (some p0)] w6 (.v (.one .str)) (fun (x7 : ByteArray) w8 => NewK (.cells #[.string (⟨#[]⟩ : ByteArray)] 102) w8 (fun g9 w10 => StsK (ad g9) [.string x7] w10 (fun w11 => CallK Tryz.prog 192 #[.pointer (some p0), .string (⟨#[41]⟩ : ByteArray)] w11 (.tup []) (fun (x12 : Unit) w13 => LdsK [.str] (ad g9) w13 (fun (x14 : ByteArray × Unit) => K (.iface 102 (.agg #[.string x14.1])) w13))))))
  (ifB (x3.toList == (⟨#[103, 105, 118, 101]⟩ : ByteArray).toList)
  (CallK Tryz.prog 194 #[.pointer (some p0), .int .i64 (IntKind.i64.wrap (p1 + 1))] w6 (.v (.one .raw)) (fun (x15 : Value) w16 => OneK x15 (K (.iface 190 (.agg #[x15])) w16)))
  (ifB (x3.toList == (⟨#[97, 110, 100]⟩ : ByteArray).toList)
  (CallK Tryz.prog 195 #[.pointer (some p0), .int .i64 (IntKind.i64.wrap (p1 + 1))] w6 (.tup [.one .raw, .one .raw]) (fun (x17 : Value × Value × Unit) w18 => OneK x17.1 (OneK x17.2.1 (K (.iface 192 (.agg #[x17.1, x17.2.1])) w18))))
  (ifB (x3.toList == (⟨#[111, 114]⟩ : ByteArray).toList)
  (CallK Tryz.prog 193 #[.pointer (some p0)] w6 (.v (.one .str)) (fun (x19 : ByteArray) w20 => NewK (.cells #[.string (⟨#[]⟩ : ByteArray), .nilIface, .nilIface] 194) w20 (fun g21 w22 => StsK (ad g21) [.string x19, .nilIface, .nilIface] w22 (fun w23 => CallK Tryz.prog 192 #[.pointer (some p0), .string (⟨#[44]⟩ : ByteArray)] w23 (.tup []) (fun (x24 : Unit) w25 => CallK Tryz.prog 195 #[.pointer (some p0), .int .i64 (IntKind.i64.wrap (p1 + 1))] w25 (.tup [.one .raw, .one .raw]) (fun (x26 : Value × Value × Unit) w27 => OneK x26.1 (StsK ((ad g21).add 1) [x26.1] w27 (fun w28 => OneK x26.2.1 (StsK ((ad g21).add 2) [x26.2.1] w28 (fun w29 => LdsK [.str, .raw, .raw] (ad g21) w29 (fun (x30 : ByteArray × Value × Value × Unit) => K (.iface 194 (.agg #[.string x30.1, x30.2.1, x30.2.2.1])) w29)))))))))))
  (ifB (x3.toList == (⟨#[115, 99, 97, 108, 101]⟩ : ByteArray).toList)
  (CallK Tryz.prog 196 #[.pointer (some p0), .int .i64 (IntKind.i64.wrap (p1 + 1))] w6 (.v (.one .raw)) (fun (x31 : Value) w32 => OneK x31 (NewK (.cells #[.nilIface, .nilIface] 197) w32 (fun g33 w34 => StsK (ad g33) [x31, .nilIface] w34 (fun w35 => CallK Tryz.prog 192 #[.pointer (some p0), .string (⟨#[44]⟩ : ByteArray)] w35 (.tup []) (fun (x36 : Unit) w37 => CallK Tryz.prog 194 #[.pointer (some p0), .int .i64 (IntKind.i64.wrap (p1 + 1))] w37 (.v (.one .raw)) (fun (x38 : Value) w39 => OneK x38 (StsK ((ad g33).add 1) [x38] w39 (fun w40 => LdsK [.raw, .raw] (ad g33) w40 (fun (x41 : Value × Value × Unit) => K (.iface 197 (.agg #[x41.1, x41.2.1])) w40))))))))))
  (ifB (x3.toList == (⟨#[119, 104, 101, 110]⟩ : ByteArray).toList)
  (CallK Tryz.prog 197 #[.pointer (some p0)] w6 (.v (.one (.int .i64))) (fun (x42 : Int) w43 => NewK (.cells #[.int .i64 0, .nilIface] 199) w43 (fun g44 w45 => StsK (ad g44) [.int .i64 x42, .nilIface] w45 (fun w46 => CallK Tryz.prog 192 #[.pointer (some p0), .string (⟨#[44]⟩ : ByteArray)] w46 (.tup []) (fun (x47 : Unit) w48 => CallK Tryz.prog 194 #[.pointer (some p0), .int .i64 (IntKind.i64.wrap (p1 + 1))] w48 (.v (.one .raw)) (fun (x49 : Value) w50 => OneK x49 (StsK ((ad g44).add 1) [x49] w50 (fun w51 => LdsK [.int .i64, .raw] (ad g44) w51 (fun (x52 : Int × Value × Unit) => K (.iface 199 (.agg #[.int .i64 x52.1, x52.2.1])) w51)))))))))
  (CallK Tryz.prog 196 #[.pointer (some p0), .int .i64 (IntKind.i64.wrap (p1 + 1))] w6 (.v (.one .raw)) (fun (x53 : Value) w54 => OneK x53 (NewK (.cells #[.nilIface, .nilIface, .nilIface] 201) w54 (fun g55 w56 => StsK (ad g55) [x53, .nilIface, .nilIface] w56 (fun w57 => CallK Tryz.prog 192 #[.pointer (some p0), .string (⟨#[44]⟩ : ByteArray)] w57 (.tup []) (fun (x58 : Unit) w59 => CallK Tryz.prog 195 #[.pointer (some p0), .int .i64 (IntKind.i64.wrap (p1 + 1))] w59 (.tup [.one .raw, .one .raw]) (fun (x60 : Value × Value × Unit) w61 => OneK x60.1 (StsK ((ad g55).add 1) [x60.1] w61 (fun w62 => OneK x60.2.1 (StsK ((ad g55).add 2) [x60.2.1] w62 (fun w63 => LdsK [.raw, .raw, .raw] (ad g55) w63 (fun (x64 : Value × Value × Value × Unit) => K (.iface 201 (.agg #[x64.1, x64.2.1, x64.2.2.1])) w63)))))))))))))))))))))))
def pl171 : Plan := .auto
theorem e171 (p0 : Addr) (p1 : Int) (w : World) (K : Value → World → Prop) : vcFunc Tryz.prog Tryz.f171 pl171 [.pointer (some p0), .int .i64 p1] w K = C171 p0 p1 w K := by kernel_rfl
theorem c171 (p0 : Addr) (p1 : Int) (w : World) (K : Value → World → Prop) (h : C171 p0 p1 w K) : Ret Tryz.prog 171 #[.pointer (some p0), .int .i64 p1] w K := by
  rw [← e171] at h
  exact vcFunc_sound (by kernel_rfl) Tryz.func171 h

/-- (*handfast/read.reader).done -/
def C172 (p0 : Addr) (w : World) (K : Value → World → Prop) : Prop :=
  LdK .slc (p0.add 0) w (fun (x1 : SlT) => ifB (decide ((x1.2.1 : Int) > 0))
  (CallK Tryz.prog 198 #[.pointer (some p0), .int .i64 2] w (.tup []) (fun (x2 : Unit) w3 => K (.tuple #[]) w3))
  (K (.tuple #[]) w))
def pl172 : Plan := .auto
theorem e172 (p0 : Addr) (w : World) (K : Value → World → Prop) : vcFunc Tryz.prog Tryz.f172 pl172 [.pointer (some p0)] w K = C172 p0 w K := by kernel_rfl
theorem c172 (p0 : Addr) (w : World) (K : Value → World → Prop) (h : C172 p0 w K) : Ret Tryz.prog 172 #[.pointer (some p0)] w K := by
  rw [← e172] at h
  exact vcFunc_sound (by kernel_rfl) Tryz.func172 h

/-- handfast/read.word -/
def C211 (p0 : ByteArray) (w : World) (K : Value → World → Prop) : Prop :=
  CallK Tryz.prog 213 #[.string p0] w (.tup [.one (.int .i64), .one .bool]) (fun (x1 : Int × Bool × Unit) w2 => ifB x1.2.1
  (K (.bool true) w2)
  (ifB (p0.toList == (⟨#[102, 105, 120]⟩ : ByteArray).toList)
  (K (.bool true) w2)
  (ifB (p0.toList == (⟨#[97, 100, 100]⟩ : ByteArray).toList)
  (K (.bool true) w2)
  (ifB (p0.toList == (⟨#[110, 101, 103]⟩ : ByteArray).toList)
  (K (.bool true) w2)
  (ifB (p0.toList == (⟨#[109, 117, 108]⟩ : ByteArray).toList)
  (K (.bool true) w2)
  (K (.bool (p0.toList == (⟨#[109, 97, 120]⟩ : ByteArray).toList)) w2))))))
def pl211 : Plan := .auto
theorem e211 (p0 : ByteArray) (w : World) (K : Value → World → Prop) : vcFunc Tryz.prog Tryz.f211 pl211 [.string p0] w K = C211 p0 w K := by kernel_rfl
theorem c211 (p0 : ByteArray) (w : World) (K : Value → World → Prop) (h : C211 p0 w K) : Ret Tryz.prog 211 #[.string p0] w K := by
  rw [← e211] at h
  exact vcFunc_sound (by kernel_rfl) Tryz.func211 h

/-- handfast/read.begins -/
def C191 (p0 : ByteArray) (w : World) (K : Value → World → Prop) : Prop :=
  ifB (p0.toList == (⟨#[122, 101, 114, 111]⟩ : ByteArray).toList)
  (ifB (p0.toList == (⟨#[122, 101, 114, 111]⟩ : ByteArray).toList)
  (K (.bool true) w)
  (K (.bool false) w))
  (ifB (p0.toList == (⟨#[111, 110, 101]⟩ : ByteArray).toList)
  (ifB (p0.toList == (⟨#[111, 110, 101]⟩ : ByteArray).toList)
  (K (.bool true) w)
  (K (.bool false) w))
  (ifB (p0.toList == (⟨#[103, 105, 118, 101]⟩ : ByteArray).toList)
  (ifB (p0.toList == (⟨#[103, 105, 118, 101]⟩ : ByteArray).toList)
  (K (.bool true) w)
  (K (.bool false) w))
  (ifB (p0.toList == (⟨#[97, 110, 100]⟩ : ByteArray).toList)
  (ifB (p0.toList == (⟨#[97, 110, 100]⟩ : ByteArray).toList)
  (K (.bool true) w)
  (K (.bool false) w))
  (ifB (p0.toList == (⟨#[111, 114]⟩ : ByteArray).toList)
  (ifB (p0.toList == (⟨#[111, 114]⟩ : ByteArray).toList)
  (K (.bool true) w)
  (K (.bool false) w))
  (ifB (p0.toList == (⟨#[115, 99, 97, 108, 101]⟩ : ByteArray).toList)
  (ifB (p0.toList == (⟨#[115, 99, 97, 108, 101]⟩ : ByteArray).toList)
  (K (.bool true) w)
  (K (.bool false) w))
  (ifB (p0.toList == (⟨#[119, 104, 101, 110]⟩ : ByteArray).toList)
  (ifB (p0.toList == (⟨#[119, 104, 101, 110]⟩ : ByteArray).toList)
  (K (.bool true) w)
  (K (.bool false) w))
  (ifB (p0.toList == (⟨#[105, 102]⟩ : ByteArray).toList)
  (K (.bool true) w)
  (K (.bool false) w))))))))
def pl191 : Plan := .auto
theorem e191 (p0 : ByteArray) (w : World) (K : Value → World → Prop) : vcFunc Tryz.prog Tryz.f191 pl191 [.string p0] w K = C191 p0 w K := by kernel_rfl
theorem c191 (p0 : ByteArray) (w : World) (K : Value → World → Prop) (h : C191 p0 w K) : Ret Tryz.prog 191 #[.string p0] w K := by
  rw [← e191] at h
  exact vcFunc_sound (by kernel_rfl) Tryz.func191 h

/-- handfast/read.begin -/
def C170 (p0 : ByteArray) (w : World) (K : Value → World → Prop) : Prop :=
  CallK Tryz.prog 187 #[.string p0] w (.v (.one (.int .i64))) (fun (x1 : Int) w2 => NewK (.cells #[.slice none 0 0, .int .i64 (IntKind.i64.wrap (x1 + 1)), .int .i64 0, .int .i64 0] 303) w2 (fun g3 w4 => ifB (decide ((p0.size : Int) > 1000))
  (StK ((ad g3).add 3) (.int .i64 5) w4 (fun w5 => K (.pointer (some (ad g3))) w5))
  (CallK Tryz.prog 188 #[.string p0] w4 (.tup [.one .slc, .one (.int .i64)]) (fun (x6 : SlT × Int × Unit) w7 => ifB (decide (x6.2.1 > 0))
  (StK ((ad g3).add 3) (.int .i64 2) w7 (fun w8 => StK ((ad g3).add 2) (.int .i64 x6.2.1) w8 (fun w9 => StK ((ad g3).add 0) (.slice x6.1.1 x6.1.2.1 x6.1.2.2) w9 (fun w10 => K (.pointer (some (ad g3))) w10))))
  (StK ((ad g3).add 0) (.slice x6.1.1 x6.1.2.1 x6.1.2.2) w7 (fun w11 => K (.pointer (some (ad g3))) w11))))))
def pl170 : Plan := .auto
theorem e170 (p0 : ByteArray) (w : World) (K : Value → World → Prop) : vcFunc Tryz.prog Tryz.f170 pl170 [.string p0] w K = C170 p0 w K := by kernel_rfl
theorem c170 (p0 : ByteArray) (w : World) (K : Value → World → Prop) (h : C170 p0 w K) : Ret Tryz.prog 170 #[.string p0] w K := by
  rw [← e170] at h
  exact vcFunc_sound (by kernel_rfl) Tryz.func170 h

/-- handfast/read.Term -/
def C157 (p0 : ByteArray) (w : World) (K : Value → World → Prop) : Prop :=
  CallK Tryz.prog 170 #[.string p0] w (.v (.one .ptr)) (fun (x1 : Option Addr) w2 => CallK Tryz.prog 171 #[.pointer x1, .int .i64 0] w2 (.v (.one .raw)) (fun (x3 : Value) w4 => CallK Tryz.prog 172 #[.pointer x1] w4 (.tup []) (fun (x5 : Unit) w6 => optA x1 (fun a7 => LdK (.int .i64) (a7.add 3) w6 (fun (x8 : Int) => ifB (x8 == 0)
  (CallK Tryz.prog 95 #[x3] w6 (.v (.one (.int .i64))) (fun (x9 : Int) w10 => optA x1 (fun a11 => StK (a11.add 3) (.int .i64 x9) w10 (fun w12 => optA x1 (fun a13 => LdK (.int .i64) (a13.add 3) w12 (fun (x14 : Int) => ifB (x14 != 0)
  (DrewK w12 (fun w15 => optA x1 (fun a16 => LdK (.int .i64) (a16.add 2) w15 (fun (x17 : Int) => optA x1 (fun a18 => LdK (.int .i64) (a18.add 3) w15 (fun (x19 : Int) => K (.tuple #[.nilIface, .int .i64 x17, .int .i64 x19]) w15))))))
  (K (.tuple #[x3, .int .i64 0, .int .i64 0]) w12)))))))
  (optA x1 (fun a20 => LdK (.int .i64) (a20.add 3) w6 (fun (x21 : Int) => ifB (x21 != 0)
  (DrewK w6 (fun w22 => optA x1 (fun a23 => LdK (.int .i64) (a23.add 2) w22 (fun (x24 : Int) => optA x1 (fun a25 => LdK (.int .i64) (a25.add 3) w22 (fun (x26 : Int) => K (.tuple #[.nilIface, .int .i64 x24, .int .i64 x26]) w22))))))
  (K (.tuple #[x3, .int .i64 0, .int .i64 0]) w6)))))))))
def pl157 : Plan := (.seq .auto (.seq .auto (.seq .auto (.seq .auto (.seq .auto (.seq (.seq .auto (.cond (.seq .still .auto) .auto)) .auto))))))
theorem e157 (p0 : ByteArray) (w : World) (K : Value → World → Prop) : vcFunc Tryz.prog Tryz.f157 pl157 [.string p0] w K = C157 p0 w K := by kernel_rfl
theorem c157 (p0 : ByteArray) (w : World) (K : Value → World → Prop) (h : C157 p0 w K) : Ret Tryz.prog 157 #[.string p0] w K := by
  rw [← e157] at h
  exact vcFunc_sound (by kernel_rfl) Tryz.func157 h

end Go.Proofs.YtdphmcanlhcokaaGreatDoor

/-! ### ReadSpec -/
set_option linter.unusedVariables false
set_option maxRecDepth 100000
namespace Go.Proofs.YtdphmcanlhcokaaGreatDoor
open Vc

/-! ### Plain -/
theorem sgF_cnt : ∀ (R : List Int) (acc : List SignV) (at_ : Int) (run : Bool), (sgF acc at_ run R).1.length ≤ acc.length + 1 + R.length
  | [], acc, at_, run => by show acc.length ≤ _; simp only [List.length_nil]; omega
  | r :: R, acc, at_, run => by
    have h1 := sgF_cnt R (addLast acc (enc r)) (at_ + 1) true
    have h2 := sgF_cnt R (acc ++ [(enc r, at_ + 1)]) (at_ + 1) (kd r == 97)
    have h3 := sgF_cnt R acc (at_ + 1) false
    have e1 : (addLast acc (enc r)).length ≤ acc.length + 1 := by unfold addLast; simp
    simp only [List.length_append, List.length_cons, List.length_nil] at h2 ⊢
    unfold sgF
    split
    · simp
    split
    · omega
    split
    · omega
    · omega
theorem nodesO_toks (o : Ob) : nodesO o ≤ (toksO o).length := by
  induction o <;> simp_all [nodesO, toksO] <;> omega
theorem nodesT_toks (t : Tm) : nodesT t ≤ (toksT t).length := by
  induction t <;> simp_all [nodesT, toksT] <;> (try have := nodesO_toks) <;> first | omega | (rename_i o _ _; have := nodesO_toks o; omega) | (rename_i o _ _ _ _; have := nodesO_toks o; omega)
theorem mem_lenS {x : SignV} {l : List SignV} (h : x ∈ l) : x.1.length ≤ lenS (l.map Prod.fst) := by
  induction l with
  | nil => cases h
  | cons y l ih =>
    have e : lenS ((y :: l).map Prod.fst) = y.1.length + lenS (l.map Prod.fst) := by simp [lenS]
    rw [e]
    rcases List.mem_cons.1 h with rfl | h
    · omega
    · have := ih h; omega
theorem signs_short {bs : List UInt8} (h : bs.length ≤ 1000) : ∀ x ∈ (sgF [] 0 false (runesL bs)).1, x.1.length ≤ 10000 := fun x hx => by
  have h1 := mem_lenS hx
  have h2 := sgF_lenS (runesL bs) [] 0 false
  have h3 := txt_len (runesL bs)
  have h4 := runesL_len bs
  have h5 : lenS ((([] : List SignV)).map Prod.fst) = 0 := rfl
  omega
theorem reads_le (R : List Int) : reads R ≤ R.length := by unfold reads; exact (List.takeWhile_sublist _).length_le

theorem count_runes (s : ByteArray) : ∀ (fuel pos : Nat), s.size - pos ≤ fuel → Lib.runeCountFrom s fuel pos = (runesL (s.data.toList.drop pos)).length
  | 0, pos, h => by
    have : s.data.toList.drop pos = [] := List.drop_eq_nil_of_le (by rw [ba_len]; omega)
    rw [this]; rfl
  | f + 1, pos, h => by
    unfold Lib.runeCountFrom
    by_cases hp : pos < s.size
    · rw [if_pos hp]
      have hne : s.data.toList.drop pos ≠ [] := fun t => by
        have := congrArg List.length t
        rw [List.length_drop, ba_len, List.length_nil] at this; omega
      have hw := decL_width (s.data.toList.drop pos)
      rw [runesL_step _ hne, decL_drop, count_runes s f _ (by omega), List.length_cons, List.drop_drop]
      omega
    · rw [if_neg hp]
      have : s.data.toList.drop pos = [] := List.drop_eq_nil_of_le (by rw [ba_len]; omega)
      rw [this]; rfl

namespace Vc
theorem StsK.one {b i : Nat} {v : Value} {w : World} {K : World → Prop} {cs : Array Value} {T : TypeId} (hb : w.heap[b]? = some (.cells cs T (0, 0))) (hi : i < cs.size) (h1 : one1 v = true)
    (h : ∀ w1, w1.heap[b]? = some (.cells (cs.setIfInBounds i v) T (0, 0)) → Fr (only b) w w1 → w1.heap.size = w.heap.size → K w1) : StsK ((⟨b, 0, none⟩ : Addr).add i) [v] w K := by
  have e : ((⟨b, 0, none⟩ : Addr).add i).add 0 = ⟨b, i, none⟩ := by rw [addr_add, addr_add, Nat.zero_add, Nat.add_zero]
  refine ⟨⟨h1, by rw [e, cell_blk hb]; simp [hi], by rw [e]; exact frozen_blk hb, trivial⟩, ?_⟩
  show K (w.setCell (((⟨b, 0, none⟩ : Addr).add i).add 0) v)
  rw [e]
  exact h _ (heap_setCell_same hb) (setCell_fr _ _ _ _) (by simp [World.setCell])
end Vc

theorem str_eqb (x y : List UInt8) : ((str x).toList == (str y).toList) = (x == y) := by
  rw [str_beq]
  by_cases h : x = y <;> simp [h]
theorem ifB.str {y z : List UInt8} {A B : Prop} (h : y = z → A) (k : y ≠ z → B) : ifB ((str y).toList == (str z).toList) A B := by
  rw [str_beq]; exact ifB.dec h k

/-! ### The reader in memory -/
def rdObj (sl : Sl) (fin a e : Int) : Obj := .cells #[.slice sl.1 sl.2.1 sl.2.2, .int .i64 fin, .int .i64 a, .int .i64 e] 303 (0, 0)
/-- A reader in block b; it and its signs lie below m. -/
def IsRd (w : World) (m b : Nat) (fin : Int) (s : RS) : Prop := ∃ sl : Sl, w.heap[b]? = some (rdObj sl fin s.at_ s.e) ∧ IsSg w sl s.l ∧ (¬ blkOf sl b ∧ b < m ∧ m ≤ w.heap.size ∧ ∀ k, blkOf sl k → k < m) ∧ ∀ x ∈ s.l, x.1.length ≤ 10000
theorem IsRd.lt {w : World} {m b : Nat} {fin : Int} {s : RS} (h : IsRd w m b fin s) : b < m ∧ m ≤ w.heap.size := by
  obtain ⟨sl, hb, _, ⟨_, h1, h2, _⟩, _⟩ := h; exact ⟨h1, h2⟩
theorem IsRd.keep {w w' : World} {m b : Nat} {fin : Int} {s : RS} (h : IsRd w m b fin s) {S : Nat → Prop} (f : Fr S w w') (hn : ∀ k, k < m → ¬ S k) : IsRd w' m b fin s := by
  obtain ⟨sl, hb, hs, ⟨h1, h2, h3, h4⟩, h5⟩ := h
  exact ⟨sl, f.keep hb (hn b h2), hs.keep f (fun k hk => hn k (h4 k hk)), ⟨h1, h2, Nat.le_trans h3 f.size, h4⟩, h5⟩
theorem IsRd.keep0 {w w' : World} {m b : Nat} {fin : Int} {s : RS} (h : IsRd w m b fin s) (f : Fr none1 w w') : IsRd w' m b fin s := h.keep f (fun _ _ t => t)

/-- The slice without its first sign. -/
theorem sg_tail {w : World} {v : Sl} {x : SignV} {l : List SignV} (h : IsSg w v (x :: l)) {K : Option Addr → Nat → Nat → Prop} (k : ∀ u : Sl, IsSg w u l → (∀ j, blkOf u j → blkOf v j) → K u.1 u.2.1 u.2.2) : SubK v.1 v.2.2 1 (v.2.1 : Int) (v.2.2 : Int) 2 K := by
  obtain ⟨hs, hl⟩ := h
  simp only [List.length_cons] at hl
  have e : signCells (x :: l) = [.string (str x.1), .int .i64 x.2] ++ signCells l := rfl
  rcases hs with ⟨rfl, hnil⟩ | ⟨g, off, cs, hv, hb, hle, hc, hn, he⟩
  · dsimp only at hl; omega
  · refine ⟨by omega, by omega, by omega, by omega, ?_⟩
    rw [hv]
    have hlen := signCells_len l
    have hlen2 := signCells_len (x :: l)
    simp only [List.length_cons] at hlen2
    by_cases h1 : (v.2.2 : Int) = 1
    · rw [if_pos h1]
      have : l = [] := List.eq_nil_of_length_eq_zero (by omega)
      subst this
      refine k (some ⟨g, off, none⟩, ((v.2.1 : Int) - 1).toNat, ((v.2.2 : Int) - 1).toNat) ⟨.inr ⟨g, off, cs, rfl, hb, by dsimp only; omega, by dsimp only; omega, ?_, fun i hi => ?_⟩, ?_⟩ (fun j hj => ?_)
      · dsimp only; rw [hlen, List.length_nil]; omega
      · rw [hlen, List.length_nil] at hi; omega
      · dsimp only; rw [List.length_nil]; omega
      · obtain ⟨a, ha, rfl⟩ := hj; injection ha with ha; subst ha; exact ⟨_, hv, rfl⟩
    · rw [if_neg h1]
      have ea : (some (⟨g, off, none⟩ : Addr)).map (·.add (Int.toNat 1 * 2)) = some ⟨g, off + 2, none⟩ := by
        show some ((⟨g, off, none⟩ : Addr).add (1 * 2)) = _
        rw [addr_add]
      rw [ea]
      refine k (some ⟨g, off + 2, none⟩, ((v.2.1 : Int) - 1).toNat, ((v.2.2 : Int) - 1).toNat) ⟨.inr ⟨g, off + 2, cs, rfl, hb, by dsimp only; omega, by dsimp only; omega, ?_, fun i hi => ?_⟩, ?_⟩ (fun j hj => ?_)
      · dsimp only; rw [hlen]; omega
      · rw [hlen] at hi
        have := he (i + 2) (by omega)
        rw [show off + 2 + i = off + (i + 2) by omega, this, e]
        rfl
      · dsimp only; omega
      · obtain ⟨a, ha, rfl⟩ := hj; injection ha with ha; subst ha; exact ⟨_, hv, rfl⟩

theorem rplace_spec {w : World} {m b : Nat} {fin : Int} {s : RS} (h : IsRd w m b fin s) : Ret Tryz.prog 215 #[.pointer (some ⟨b, 0, none⟩)] w fun r w' => r = .int .i64 (placeF fin s) ∧ w = w' := by
  refine c215 _ w _ ?_
  obtain ⟨sl, hb, hs, _⟩ := h
  have hl := hs.len
  refine LdK.fld hb (x := sl) rfl ?_
  unfold placeF
  cases hsl : s.l with
  | nil =>
    rw [hsl] at hl
    refine ifB.no (by rw [hl]; decide) (LdK.fld hb (x := fin) rfl ⟨rfl, rfl⟩)
  | cons x l =>
    rw [hsl] at hl hs
    simp only [List.length_cons] at hl
    refine ifB.yes (by omega) (LdK.fld hb (x := sl) rfl ?_)
    exact sg_ld hs (i := 0) (by omega) (by omega) (x := x) rfl fun a _ k2 _ => k2 _ ⟨rfl, rfl⟩

theorem rfail_spec {w : World} {m b : Nat} {fin : Int} {s : RS} (h : IsRd w m b fin s) (c : Int) : Ret Tryz.prog 198 #[.pointer (some ⟨b, 0, none⟩), .int .i64 c] w fun r w' => r = .tuple #[] ∧ IsRd w' m b fin (failF fin c s) ∧ Fr (only b) w w' := by
  refine c198 _ c w _ ?_
  obtain ⟨sl, hb, hs, hbl, hsz⟩ := id h
  refine LdK.fld hb (x := s.e) rfl ?_
  unfold failF
  refine ifB.eq (fun he => ?_) (fun he => ?_)
  · rw [if_pos he]
    refine CallK.of (rplace_spec h) ?_
    rintro _ _ ⟨rfl, rfl⟩
    refine ⟨_, rfl, ?_⟩
    refine StK.fld hb (by show 0 + 3 < 4; omega) rfl fun w1 hb1 f1 _ => ?_
    refine StK.fld hb1 (by show 0 + 2 < 4; omega) rfl fun w2 hb2 f2 _ => ?_
    have f := f1.trans f2
    exact ⟨rfl, ⟨sl, hb2, hs.keep f (fun k hk t => hbl.1 (by have : k = b := t; rw [← this]; exact hk)), ⟨hbl.1, hbl.2.1, Nat.le_trans hbl.2.2.1 f.size, hbl.2.2.2⟩, hsz⟩, f⟩
  · rw [if_neg he]
    exact ⟨rfl, h, Fr.refl _ _⟩

theorem rtake_spec {w : World} {m b : Nat} {fin : Int} {s : RS} (h : IsRd w m b fin s) (v : Value) (right : List UInt8 → Bool)
    (hr : ∀ x : List UInt8, x.length ≤ 10000 → ∀ K : Bool → World → Prop, (∀ w1, Fr none1 w w1 → K (right x) w1) → callV Tryz.prog v [.string (str x)] (.v (.one .bool)) w K) :
    Ret Tryz.prog 190 #[.pointer (some ⟨b, 0, none⟩), v] w fun r w' => r = .string (str (takeF fin right s).1) ∧ IsRd w' m b fin (takeF fin right s).2 ∧ Fr (only b) w w' := by
  refine c190 _ v w _ ?_
  obtain ⟨sl, hb, hs, hbl, hsz⟩ := id h
  have hl := hs.len
  rcases s with ⟨l, a, e⟩
  dsimp only at hb hs hsz hl
  refine JoinK.of (fun c w' => c.1 = (decide (e = 0) && match l with | [] => true | x :: _ => !right x.1) ∧ Fr none1 w w') ?_ ?_
  · refine LdK.fld hb (x := e) rfl ?_
    refine ifB.eq (fun he => LdK.fld hb (x := sl) rfl ?_) (fun he => ⟨by simp [he], Fr.refl _ _⟩)
    cases l with
    | nil => exact ifB.t (by rw [hl]; rfl) ⟨by simp [he], Fr.refl _ _⟩
    | cons x l =>
      simp only [List.length_cons] at hl
      refine ifB.f (by rw [hl]; exact beq_eq_false_iff_ne.2 (by omega)) (LdK.fld hb (x := sl) rfl ?_)
      refine sg_ld hs (i := 0) (by omega) (by omega) (x := x) rfl fun q k1 _ _ => k1 _ ?_
      exact hr x.1 (hsz x (by simp)) _ fun w1 f1 => ⟨by simp [he], f1⟩
  rintro _ ⟨c, _⟩ w3 ⟨hc, f3⟩
  dsimp only at hc ⊢
  have h3 := h.keep0 f3
  refine ifB.by (fun e1 => ?_) (fun e1 => ?_)
  · rw [e1] at hc
    have hc2 := Bool.and_eq_true_iff.1 hc.symm
    have he : e = 0 := of_decide_eq_true hc2.1
    subst he
    refine CallK.of (rfail_spec h3 2) ?_
    rintro _ w4 ⟨rfl, h4, f4⟩
    refine ⟨(), rfl, ?_⟩
    have ht : takeF fin right ⟨l, a, 0⟩ = ([], failF fin 2 ⟨l, a, 0⟩) := by
      cases l with
      | nil => exact takeF_nil
      | cons x l => exact takeF_miss (by simpa using hc2.2)
    rw [ht]
    obtain ⟨sl4, hb4, h4'⟩ := id h4
    refine LdK.fld hb4 (x := 2) rfl (ifB.t rfl ?_)
    exact ⟨rfl, h4, Fr.of0 f3 f4⟩
  · obtain ⟨sl3, hb3, hs3, hbl3, _⟩ := id h3
    refine LdK.fld hb3 (x := e) rfl ?_
    refine ifB.ne (fun he => ?_) (fun he => ?_)
    · rw [takeF_err (s := ⟨l, a, e⟩) he]
      exact ⟨rfl, h3, Fr.of0 f3 (Fr.refl _ _)⟩
    · subst he
      rw [e1] at hc
      cases l with
      | nil => simp at hc
      | cons x l =>
        have hx : right x.1 = true := by simpa using hc
        rw [takeF_hit hx]
        have hl3 := hs3.len
        simp only [List.length_cons] at hl3
        refine LdK.fld hb3 (x := sl3) rfl ?_
        refine sg_ld hs3 (i := 0) (by omega) (by omega) (x := x) rfl fun q k1 _ _ => k1 _ ?_
        refine LdK.fld hb3 (x := sl3) rfl ?_
        refine sg_tail hs3 fun u hu hub => ?_
        refine StK.fld hb3 (by show 0 + 0 < 4; omega) rfl fun w4 hb4 f4 _ => ?_
        have hub' : ¬ blkOf u b := fun t => hbl3.1 (hub b t)
        exact ⟨rfl, ⟨u, hb4, hu.keep f4 (fun k hk t => hub' (by have : k = b := t; rw [← this]; exact hk)), ⟨hub', hbl3.2.1, Nat.le_trans hbl3.2.2.1 f4.size, fun k hk => hbl3.2.2.2 k (hub k hk)⟩, fun y hy => hsz y (by simp [hy])⟩, Fr.of0 f3 f4⟩

theorem rmust_spec {w : World} {m b : Nat} {fin : Int} {s : RS} (h : IsRd w m b fin s) (x : List UInt8) : Ret Tryz.prog 192 #[.pointer (some ⟨b, 0, none⟩), .string (str x)] w fun r w' => r = .tuple #[] ∧ IsRd w' m b fin (mustF fin x s) ∧ Fr (only b) w w' := by
  refine c192 _ (str x) w _ ?_
  refine NewK.of fun g w1 hg hb1 f1 _ => ?_
  refine CallK.of (rtake_spec (h.keep0 f1) _ (fun y => decide (y = x)) fun y _ K hK => ?_) ?_
  · have hf : Ret Tryz.prog 210 #[.string (str y), .pointer (some ⟨g, 0, none⟩)] w1 fun r w' => r = .bool (decide (y = x)) ∧ w1 = w' := by
      refine c210 (str y) _ w1 _ ?_
      refine LdK.of hb1 (x := str x) rfl ?_
      rw [str_beq]
      exact ⟨rfl, rfl⟩
    refine callV_of (by kernel_rfl) Tryz.func210 (by kernel_rfl) (hf.mono ?_)
    rintro _ _ ⟨rfl, rfl⟩
    exact ⟨_, rfl, hK _ (Fr.refl _ _)⟩
  · rintro _ w2 ⟨rfl, h2, f2⟩
    exact ⟨_, rfl, rfl, h2, Fr.of0 f1 f2⟩

theorem rname_spec' {w : World} {m b : Nat} {fin : Int} {s : RS} (h : IsRd w m b fin s) : Ret Tryz.prog 193 #[.pointer (some ⟨b, 0, none⟩)] w fun r w' => r = .string (str (takeF fin nameL s).1) ∧ IsRd w' m b fin (takeF fin nameL s).2 ∧ Fr (only b) w w' := by
  refine c193 _ w _ ?_
  refine CallK.of (rtake_spec h _ nameL fun y _ K hK => ?_) ?_
  · refine callV_of (by kernel_rfl) Tryz.func94 (by kernel_rfl) ((name_spec y w).mono ?_)
    rintro _ w1 ⟨rfl, f1⟩
    exact ⟨_, rfl, hK w1 f1⟩
  · rintro _ w2 ⟨rfl, h2, f2⟩
    exact ⟨_, rfl, rfl, h2, f2⟩

theorem rword_spec (y : List UInt8) (hl : y.length ≤ 10000) (w : World) : Ret Tryz.prog 211 #[.string (str y)] w fun r w' => r = .bool (wordF' y) ∧ Fr none1 w w' := by
  refine c211 (str y) w _ ?_
  refine CallK.of (number_spec y (by omega) w) ?_
  rintro _ w1 ⟨rfl, f1⟩
  refine ⟨(_, _, ()), rfl, ?_⟩
  unfold wordF'
  refine ifB.by (fun e => ?_) (fun e => ?_)
  · have e : (numF y).2 = true := e
    rw [e]; exact ⟨rfl, f1⟩
  have e : (numF y).2 = false := e
  rw [e, Bool.false_or]
  refine ifB.str (z := [102, 105, 120]) (fun e => ⟨by rw [e]; rfl, f1⟩) (fun e => ?_)
  rw [beq_eq_false_iff_ne.2 e, Bool.false_or]
  refine ifB.str (z := [97, 100, 100]) (fun e => ⟨by rw [e]; rfl, f1⟩) (fun e => ?_)
  rw [beq_eq_false_iff_ne.2 e, Bool.false_or]
  refine ifB.str (z := [110, 101, 103]) (fun e => ⟨by rw [e]; rfl, f1⟩) (fun e => ?_)
  rw [beq_eq_false_iff_ne.2 e, Bool.false_or]
  refine ifB.str (z := [109, 117, 108]) (fun e => ⟨by rw [e]; rfl, f1⟩) (fun e => ?_)
  rw [beq_eq_false_iff_ne.2 e, Bool.false_or, ← str_eqb y [109, 97, 120]]
  exact ⟨rfl, f1⟩

theorem rbegins_spec (y : List UInt8) (w : World) : Ret Tryz.prog 191 #[.string (str y)] w fun r w' => r = .bool (beginsF y) ∧ w = w' := by
  refine c191 (str y) w _ ?_
  unfold beginsF
  refine ifB.str (z := [122, 101, 114, 111]) (fun e => ifB.str (z := [122, 101, 114, 111]) (fun _ => ⟨by rw [e]; rfl, rfl⟩) (fun k => absurd e k)) (fun e => ?_)
  rw [beq_eq_false_iff_ne.2 e, Bool.false_or]
  refine ifB.str (z := [111, 110, 101]) (fun e => ifB.str (z := [111, 110, 101]) (fun _ => ⟨by rw [e]; rfl, rfl⟩) (fun k => absurd e k)) (fun e => ?_)
  rw [beq_eq_false_iff_ne.2 e, Bool.false_or]
  refine ifB.str (z := [103, 105, 118, 101]) (fun e => ifB.str (z := [103, 105, 118, 101]) (fun _ => ⟨by rw [e]; rfl, rfl⟩) (fun k => absurd e k)) (fun e => ?_)
  rw [beq_eq_false_iff_ne.2 e, Bool.false_or]
  refine ifB.str (z := [97, 110, 100]) (fun e => ifB.str (z := [97, 110, 100]) (fun _ => ⟨by rw [e]; rfl, rfl⟩) (fun k => absurd e k)) (fun e => ?_)
  rw [beq_eq_false_iff_ne.2 e, Bool.false_or]
  refine ifB.str (z := [111, 114]) (fun e => ifB.str (z := [111, 114]) (fun _ => ⟨by rw [e]; rfl, rfl⟩) (fun k => absurd e k)) (fun e => ?_)
  rw [beq_eq_false_iff_ne.2 e, Bool.false_or]
  refine ifB.str (z := [115, 99, 97, 108, 101]) (fun e => ifB.str (z := [115, 99, 97, 108, 101]) (fun _ => ⟨by rw [e]; rfl, rfl⟩) (fun k => absurd e k)) (fun e => ?_)
  rw [beq_eq_false_iff_ne.2 e, Bool.false_or]
  refine ifB.str (z := [119, 104, 101, 110]) (fun e => ifB.str (z := [119, 104, 101, 110]) (fun _ => ⟨by rw [e]; rfl, rfl⟩) (fun k => absurd e k)) (fun e => ?_)
  rw [beq_eq_false_iff_ne.2 e, Bool.false_or]
  refine ifB.str (z := [105, 102]) (fun e => ⟨by rw [e]; rfl, rfl⟩) (fun e => ?_)
  rw [beq_eq_false_iff_ne.2 e]
  exact ⟨rfl, rfl⟩

theorem rday1_spec (y : List UInt8) (hl : y.length ≤ 10000) (w : World) : Ret Tryz.prog 214 #[.string (str y)] w fun r w' => r = .bool (dayF y) ∧ Fr none1 w w' := by
  refine c214 (str y) w _ ?_
  refine CallK.of (number_spec y (by omega) w) ?_
  rintro _ w1 ⟨rfl, f1⟩
  refine ⟨(_, _, ()), rfl, ?_⟩
  unfold dayF
  refine ifB.by (fun e => ?_) (fun e => ?_)
  · have e : (numF y).2 = true := e
    rw [e, Bool.true_and]
    refine ifB.dec (fun h => ?_) (fun h => ?_)
    · have h : 0 ≤ (numF y).1 := h
      rw [decide_eq_true h, Bool.true_and]; exact ⟨rfl, f1⟩
    · have h : ¬ 0 ≤ (numF y).1 := h
      rw [decide_eq_false h]; exact ⟨rfl, f1⟩
  · have e : (numF y).2 = false := e
    rw [e]; exact ⟨rfl, f1⟩

theorem rday_spec {w : World} {m b : Nat} {fin : Int} {s : RS} (h : IsRd w m b fin s) : Ret Tryz.prog 197 #[.pointer (some ⟨b, 0, none⟩)] w fun r w' => r = .int .i64 (numF (takeF fin dayF s).1).1 ∧ IsRd w' m b fin (takeF fin dayF s).2 ∧ Fr (only b) w w' := by
  refine c197 _ w _ ?_
  refine CallK.of (rtake_spec h _ dayF fun y hy K hK => ?_) ?_
  · refine callV_of (by kernel_rfl) Tryz.func214 (by kernel_rfl) ((rday1_spec y hy w).mono ?_)
    rintro _ w1 ⟨rfl, f1⟩
    exact ⟨_, rfl, hK w1 f1⟩
  · rintro _ w2 ⟨rfl, h2, f2⟩
    refine ⟨_, rfl, ?_⟩
    have hsz : (takeF fin dayF s).1.length ≤ 100000 := by
      obtain ⟨_, _, _, _, hz⟩ := h
      unfold takeF
      split
      · split
        · simp
        · rename_i x l hl
          split
          · have := hz x (by rw [hl]; simp); dsimp only; omega
          · simp
      · simp
    refine CallK.of (number_spec _ hsz w2) ?_
    rintro _ w3 ⟨rfl, f3⟩
    exact ⟨(_, _, ()), rfl, rfl, h2.keep0 f3, f2.then0 f3⟩

theorem take_short {w : World} {m b : Nat} {fin : Int} {s : RS} (h : IsRd w m b fin s) (right : List UInt8 → Bool) : (takeF fin right s).1.length ≤ 10000 := by
  obtain ⟨_, _, _, _, hz⟩ := h
  unfold takeF
  split
  · split
    · simp
    · rename_i x l hl
      split
      · have := hz x (by rw [hl]; simp); dsimp only; omega
      · simp
  · simp

/-- How deep it is: n more are not too deep. -/
theorem rdeep_spec {w : World} {m b : Nat} {fin : Int} {s : RS} (h : IsRd w m b fin s) (n : Nat) (hn : n ≤ 12) : Ret Tryz.prog 189 #[.pointer (some ⟨b, 0, none⟩), .int .i64 (12 - (n : Int))] w fun r w' =>
    r = .bool (decide (n = 0) || decide (s.e ≠ 0)) ∧ IsRd w' m b fin (if n = 0 then failF fin 5 s else s) ∧ Fr (only b) w w' := by
  refine c189 _ _ w _ ?_
  refine ifB.dec (fun h0 => ?_) (fun h0 => ?_)
  · have : n = 0 := by omega
    subst this
    refine CallK.of (rfail_spec h 5) ?_
    rintro _ w1 ⟨rfl, h1, f1⟩
    refine ⟨(), rfl, ?_⟩
    obtain ⟨sl, hb, _⟩ := id h1
    refine LdK.fld hb (x := (failF fin 5 s).e) rfl ?_
    refine ⟨?_, h1, f1⟩
    have : (failF fin 5 s).e ≠ 0 := by
      unfold failF
      split
      · show (5 : Int) ≠ 0; decide
      · assumption
    rw [show ((failF fin 5 s).e != 0) = true from by simp [this]]; rfl
  · have hn0 : n ≠ 0 := by omega
    obtain ⟨sl, hb, _⟩ := id h
    refine LdK.fld hb (x := s.e) rfl ?_
    refine ⟨?_, by rw [if_neg hn0]; exact h, Fr.refl _ _⟩
    rw [decide_eq_false hn0, Bool.false_or]
    congr 1
    by_cases he : s.e = 0 <;> simp [he]

/-- A struct of one part, behind a bracket: it was put, the bracket taken, the struct read. -/
theorem wrap_ok {w : World} {m b : Nat} {fin : Int} {s : RS} (h : IsRd w m b fin s) (x : List UInt8) {T : TypeId} {zs : List Value} {cks : List Ck} (c : Cs cks) (hl : zs.length = (Cs.vals cks c).length) (h1 : (Cs.vals cks c).all one1 = true) {K : Cs cks → World → Prop}
    (k : ∀ w', IsRd w' m b fin (mustF fin x s) → Fr (only b) w w' → K c w') :
    NewK (.cells zs.toArray T) w fun g w1 => StsK ⟨g, 0, none⟩ (Cs.vals cks c) w1 fun w2 => CallK Tryz.prog 192 #[.pointer (some ⟨b, 0, none⟩), .string (str x)] w2 (.tup []) fun (_ : Unit) w3 => LdsK cks ⟨g, 0, none⟩ w3 fun y => K y w3 := by
  refine ns_ok hl h1 fun g w4 hg hb f => ?_
  have hlt := h.lt
  refine CallK.of (rmust_spec (h.keep0 f) x) ?_
  rintro _ w5 ⟨rfl, h5, f5⟩
  refine ⟨(), rfl, ?_⟩
  refine LdsK.blk (f5.keep hb (fun t => by have : g = b := t; omega)) ?_
  exact k w5 h5 (Fr.of0 f f5)

theorem sub1 (n : Nat) (hn : n + 1 ≤ 12) : IntKind.i64.wrap (12 - ((n + 1 : Nat) : Int) + 1) = 12 - (n : Int) := by
  rw [wI (by omega) (by omega)]; omega

theorem rnumber_spec : ∀ (n : Nat) (hn : n ≤ 12) {w : World} {m b : Nat} {fin : Int} {s : RS} (h : IsRd w m b fin s), Ret Tryz.prog 196 #[.pointer (some ⟨b, 0, none⟩), .int .i64 (12 - (n : Int))] w fun r w' => r = (numR fin n s).1.v ∧ IsRd w' m b fin (numR fin n s).2 ∧ Fr (only b) w w'
  | 0, hn, w, m, b, fin, s, h => by
    refine c196 _ _ w _ ?_
    refine CallK.of (rdeep_spec h 0 hn) ?_
    rintro _ w1 ⟨rfl, h1, f1⟩
    exact ⟨_, rfl, ifB.t rfl ⟨rfl, h1, f1⟩⟩
  | n + 1, hn, w, m, b, fin, s, h => by
    have ih := fun {w : World} {s : RS} (h : IsRd w m b fin s) => rnumber_spec n (by omega) h
    refine c196 _ _ w _ ?_
    refine CallK.of (rdeep_spec h (n + 1) hn) ?_
    rintro _ w1 ⟨rfl, h1, f1⟩
    rw [if_neg (by omega)] at h1
    refine ⟨_, rfl, ?_⟩
    dsimp only
    rw [sub1 n hn]
    unfold numR
    by_cases he : s.e = 0
    case neg =>
      rw [if_pos he]
      exact ifB.t (by simp [he]) ⟨rfl, h1, f1⟩
    rw [if_neg (by simpa using he)]
    refine ifB.f (by simp [he]) ?_
    refine CallK.of (rtake_spec h1 _ wordF' fun y hy K hK => ?_) ?_
    · refine callV_of (by kernel_rfl) Tryz.func211 (by kernel_rfl) ((rword_spec y hy w1).mono ?_)
      rintro _ w2 ⟨rfl, f2⟩
      exact ⟨_, rfl, hK w2 f2⟩
    rintro _ w2 ⟨rfl, h2, f2⟩
    have hsh := take_short h1 wordF'
    refine ⟨_, rfl, ?_⟩
    generalize (takeF fin wordF' s).1 = x at hsh ⊢
    generalize (takeF fin wordF' s).2 = s2 at h2 ⊢
    have f12 := f1.trans f2
    have pair : ∀ {K : Value × Value × Unit → World → Prop}, (∀ w', IsRd w' m b fin (pairF fin (numR fin n) s2).2.2 → Fr (only b) w w' → K ((pairF fin (numR fin n) s2).1.v, (pairF fin (numR fin n) s2).2.1.v, ()) w') →
        CallK Tryz.prog 212 #[.pointer (some ⟨b, 0, none⟩), .int .i64 (12 - (n : Int))] w2 (.tup [.one .raw, .one .raw]) K := fun {K} hK => by
      have hp : Ret Tryz.prog 212 #[.pointer (some ⟨b, 0, none⟩), .int .i64 (12 - (n : Int))] w2 fun r w' => r = .tuple #[(pairF fin (numR fin n) s2).1.v, (pairF fin (numR fin n) s2).2.1.v] ∧ IsRd w' m b fin (pairF fin (numR fin n) s2).2.2 ∧ Fr (only b) w2 w' := by
        refine c212 _ _ w2 _ ?_
        refine CallK.of (rmust_spec h2 [40]) ?_
        rintro _ w3 ⟨rfl, h3, f3⟩
        refine ⟨(), rfl, ?_⟩
        refine CallK.of (ih h3) ?_
        rintro _ w4 ⟨rfl, h4, f4⟩
        refine ⟨_, rfl, ?_⟩
        refine CallK.of (rmust_spec h4 [44]) ?_
        rintro _ w5 ⟨rfl, h5, f5⟩
        refine ⟨(), rfl, ?_⟩
        refine CallK.of (ih h5) ?_
        rintro _ w6 ⟨rfl, h6, f6⟩
        refine ⟨_, rfl, ?_⟩
        refine CallK.of (rmust_spec h6 [41]) ?_
        rintro _ w7 ⟨rfl, h7, f7⟩
        exact ⟨(), rfl, rfl, h7, (((f3.trans f4).trans f5).trans f6).trans f7⟩
      refine CallK.of hp ?_
      rintro _ w3 ⟨rfl, h3, f3⟩
      exact ⟨(_, _, ()), rfl, hK w3 h3 (f12.trans f3)⟩
    refine ifB.str (z := []) (fun e => ?_) (fun e => ?_)
    · rw [if_pos e]; exact ⟨rfl, h2, f12⟩
    rw [if_neg e]
    unfold numK
    refine ifB.str (z := [102, 105, 120]) (fun e => ?_) (fun e => ?_)
    · rw [if_pos e]
      refine CallK.of (rmust_spec h2 [40]) ?_
      rintro _ w3 ⟨rfl, h3, f3⟩
      refine ⟨(), rfl, ?_⟩
      refine CallK.of (rname_spec' h3) ?_
      rintro _ w4 ⟨rfl, h4, f4⟩
      refine ⟨_, rfl, ?_⟩
      exact wrap_ok h4 [41] (zs := [.string (⟨#[]⟩ : ByteArray)]) (cks := [.str]) (str (takeF fin nameL (mustF fin [40] s2)).1, ()) rfl rfl fun w5 h5 f5 => ⟨rfl, h5, ((f12.trans f3).trans f4).trans f5⟩
    rw [if_neg e]
    refine ifB.str (z := [110, 101, 103]) (fun e => ?_) (fun e => ?_)
    · rw [if_pos e]
      refine CallK.of (rmust_spec h2 [40]) ?_
      rintro _ w3 ⟨rfl, h3, f3⟩
      refine ⟨(), rfl, ?_⟩
      refine CallK.of (ih h3) ?_
      rintro _ w4 ⟨rfl, h4, f4⟩
      refine ⟨_, rfl, ⟨Ob.v_cells _, ?_⟩⟩
      exact wrap_ok h4 [41] (zs := [.nilIface]) (cks := [.raw]) ((numR fin n (mustF fin [40] s2)).1.v, ()) rfl (by simp [Cs.vals, Ck.val, Ob.v_one]) fun w5 h5 f5 => ⟨rfl, h5, ((f12.trans f3).trans f4).trans f5⟩
    rw [if_neg e]
    refine ifB.str (z := [97, 100, 100]) (fun e => ?_) (fun e => ?_)
    · rw [if_pos e]
      exact pair fun w3 h3 f3 => ⟨Ob.v_cells _, ⟨Ob.v_cells _, rfl, h3, f3⟩⟩
    rw [if_neg e]
    refine ifB.str (z := [109, 117, 108]) (fun e => ?_) (fun e => ?_)
    · rw [if_pos e]
      exact pair fun w3 h3 f3 => ⟨Ob.v_cells _, ⟨Ob.v_cells _, rfl, h3, f3⟩⟩
    rw [if_neg e]
    refine ifB.str (z := [109, 97, 120]) (fun e => ?_) (fun e => ?_)
    · rw [if_pos e]
      exact pair fun w3 h3 f3 => ⟨Ob.v_cells _, ⟨Ob.v_cells _, rfl, h3, f3⟩⟩
    rw [if_neg e]
    refine CallK.of (number_spec x (by omega) w2) ?_
    rintro _ w3 ⟨rfl, f3⟩
    exact ⟨(_, _, ()), rfl, rfl, h2.keep0 f3, f12.then0 f3⟩

end Go.Proofs.YtdphmcanlhcokaaGreatDoor

/-! ### ReadSpec2 -/
set_option linter.unusedVariables false
set_option maxRecDepth 100000
namespace Go.Proofs.YtdphmcanlhcokaaGreatDoor
open Vc

theorem one1_nil : one1 .nilIface = true := rfl

theorem rone_of {n : Nat} (ih : ∀ {w : World} {m b : Nat} {fin : Int} {s : RS}, IsRd w m b fin s → Ret Tryz.prog 171 #[.pointer (some ⟨b, 0, none⟩), .int .i64 (12 - (n : Int))] w fun r w' => r = (conR fin n s).1.v ∧ IsRd w' m b fin (conR fin n s).2 ∧ Fr (only b) w w')
    {w : World} {m b : Nat} {fin : Int} {s : RS} (h : IsRd w m b fin s) : Ret Tryz.prog 194 #[.pointer (some ⟨b, 0, none⟩), .int .i64 (12 - (n : Int))] w fun r w' => r = (oneF fin (conR fin n) s).1.v ∧ IsRd w' m b fin (oneF fin (conR fin n) s).2 ∧ Fr (only b) w w' := by
  refine c194 _ _ w _ ?_
  refine CallK.of (ih h) ?_
  rintro _ w1 ⟨rfl, h1, f1⟩
  refine ⟨_, rfl, ?_⟩
  refine CallK.of (rmust_spec h1 [41]) ?_
  rintro _ w2 ⟨rfl, h2, f2⟩
  exact ⟨(), rfl, rfl, h2, f1.trans f2⟩
theorem rboth_of {n : Nat} (ih : ∀ {w : World} {m b : Nat} {fin : Int} {s : RS}, IsRd w m b fin s → Ret Tryz.prog 171 #[.pointer (some ⟨b, 0, none⟩), .int .i64 (12 - (n : Int))] w fun r w' => r = (conR fin n s).1.v ∧ IsRd w' m b fin (conR fin n s).2 ∧ Fr (only b) w w')
    {w : World} {m b : Nat} {fin : Int} {s : RS} (h : IsRd w m b fin s) : Ret Tryz.prog 195 #[.pointer (some ⟨b, 0, none⟩), .int .i64 (12 - (n : Int))] w fun r w' =>
      r = .tuple #[(bothF fin (conR fin n) s).1.v, (bothF fin (conR fin n) s).2.1.v] ∧ IsRd w' m b fin (bothF fin (conR fin n) s).2.2 ∧ Fr (only b) w w' := by
  refine c195 _ _ w _ ?_
  refine CallK.of (ih h) ?_
  rintro _ w1 ⟨rfl, h1, f1⟩
  refine ⟨_, rfl, ?_⟩
  refine CallK.of (rmust_spec h1 [44]) ?_
  rintro _ w2 ⟨rfl, h2, f2⟩
  refine ⟨(), rfl, ?_⟩
  refine CallK.of (ih h2) ?_
  rintro _ w3 ⟨rfl, h3, f3⟩
  refine ⟨_, rfl, ?_⟩
  refine CallK.of (rmust_spec h3 [41]) ?_
  rintro _ w4 ⟨rfl, h4, f4⟩
  exact ⟨(), rfl, rfl, h4, ((f1.trans f2).trans f3).trans f4⟩

theorem rcontract_spec : ∀ (n : Nat) (hn : n ≤ 12) {w : World} {m b : Nat} {fin : Int} {s : RS} (h : IsRd w m b fin s), Ret Tryz.prog 171 #[.pointer (some ⟨b, 0, none⟩), .int .i64 (12 - (n : Int))] w fun r w' => r = (conR fin n s).1.v ∧ IsRd w' m b fin (conR fin n s).2 ∧ Fr (only b) w w'
  | 0, hn, w, m, b, fin, s, h => by
    refine c171 _ _ w _ ?_
    refine CallK.of (rdeep_spec h 0 hn) ?_
    rintro _ w1 ⟨rfl, h1, f1⟩
    exact ⟨_, rfl, ifB.t rfl ⟨rfl, h1, f1⟩⟩
  | n + 1, hn, w, m, b, fin, s, h => by
    have ih := fun {w : World} {m b : Nat} {fin : Int} {s : RS} (h : IsRd w m b fin s) => rcontract_spec n (by omega) h
    refine c171 _ _ w _ ?_
    refine CallK.of (rdeep_spec h (n + 1) hn) ?_
    rintro _ w1 ⟨rfl, h1, f1⟩
    rw [if_neg (by omega)] at h1
    refine ⟨_, rfl, ?_⟩
    dsimp only
    rw [sub1 n hn]
    unfold conR
    by_cases he : s.e = 0
    case neg =>
      rw [if_pos he]
      exact ifB.t (by simp [he]) ⟨rfl, h1, f1⟩
    rw [if_neg (by simpa using he)]
    refine ifB.f (by simp [he]) ?_
    refine CallK.of (rtake_spec h1 _ beginsF fun y hy K hK => ?_) ?_
    · refine callV_of (by kernel_rfl) Tryz.func191 (by kernel_rfl) ((rbegins_spec y w1).mono ?_)
      rintro _ _ ⟨rfl, rfl⟩
      exact ⟨_, rfl, hK w1 (Fr.refl _ _)⟩
    rintro _ w2 ⟨rfl, h2, f2⟩
    refine ⟨_, rfl, ?_⟩
    generalize (takeF fin beginsF s).1 = x
    generalize (takeF fin beginsF s).2 = s1 at h2 ⊢
    have f12 := f1.trans f2
    refine ifB.str (z := []) (fun e => ?_) (fun e => ?_)
    · rw [if_pos e]; exact ⟨rfl, h2, f12⟩
    rw [if_neg e]
    refine ifB.str (z := [122, 101, 114, 111]) (fun e => ?_) (fun e => ?_)
    · rw [if_pos e]; exact ⟨rfl, h2, f12⟩
    rw [if_neg e]
    refine CallK.of (rmust_spec h2 [40]) ?_
    rintro _ w3 ⟨rfl, h3, f3⟩
    refine ⟨(), rfl, ?_⟩
    have f13 := f12.trans f3
    generalize mustF fin [40] s1 = s2 at h3 ⊢
    have hlt := h.lt
    unfold conK
    refine ifB.str (z := [111, 110, 101]) (fun e => ?_) (fun e => ?_)
    · rw [if_pos e]
      refine CallK.of (rname_spec' h3) ?_
      rintro _ w4 ⟨rfl, h4, f4⟩
      refine ⟨_, rfl, ?_⟩
      exact wrap_ok h4 [41] (zs := [.string (⟨#[]⟩ : ByteArray)]) (cks := [.str]) (str (takeF fin nameL s2).1, ()) rfl rfl fun w5 h5 f5 => ⟨rfl, h5, (f13.trans f4).trans f5⟩
    rw [if_neg e]
    refine ifB.str (z := [103, 105, 118, 101]) (fun e => ?_) (fun e => ?_)
    · rw [if_pos e]
      refine CallK.of (rone_of ih h3) ?_
      rintro _ w4 ⟨rfl, h4, f4⟩
      exact ⟨_, rfl, ⟨Tm.v_cells _, rfl, h4, f13.trans f4⟩⟩
    rw [if_neg e]
    refine ifB.str (z := [97, 110, 100]) (fun e => ?_) (fun e => ?_)
    · rw [if_pos e]
      refine CallK.of (rboth_of ih h3) ?_
      rintro _ w4 ⟨rfl, h4, f4⟩
      exact ⟨(_, _, ()), rfl, ⟨Tm.v_cells _, ⟨Tm.v_cells _, rfl, h4, f13.trans f4⟩⟩⟩
    rw [if_neg e]
    refine ifB.str (z := [111, 114]) (fun e => ?_) (fun e => ?_)
    · rw [if_pos e]
      refine CallK.of (rname_spec' h3) ?_
      rintro _ w4 ⟨rfl, h4, f4⟩
      refine ⟨_, rfl, ?_⟩
      generalize (takeF fin nameL s2).1 = y
      generalize (takeF fin nameL s2).2 = s3 at h4 ⊢
      refine ns_ok (zs := [.string (⟨#[]⟩ : ByteArray), .nilIface, .nilIface]) (vs := [.string (str y), .nilIface, .nilIface]) rfl rfl fun g w5 hg hb f5 => ?_
      have hgm : m ≤ g := by have := h4.lt; omega
      have hgb : g ≠ b := by have := h4.lt; omega
      refine CallK.of (rmust_spec (h4.keep0 f5) [44]) ?_
      rintro _ w6 ⟨rfl, h6, f6⟩
      refine ⟨(), rfl, ?_⟩
      refine CallK.of (rboth_of ih h6) ?_
      rintro _ w7 ⟨rfl, h7, f7⟩
      refine ⟨(_, _, ()), rfl, ⟨Tm.v_cells _, ?_⟩⟩
      have hb7 := f7.keep1 (f6.keep1 hb hgb) hgb
      refine StsK.one hb7 (by show 1 < 3; omega) (Tm.v_one _) fun w8 hb8 f8 _ => ⟨Tm.v_cells _, ?_⟩
      refine StsK.one hb8 (by show 2 < 3; omega) (Tm.v_one _) fun w9 hb9 f9 _ => ?_
      refine LdsK.blk (x := (str y, (bothF fin (conR fin n) (mustF fin [44] s3)).1.v, (bothF fin (conR fin n) (mustF fin [44] s3)).2.1.v, ())) hb9 ?_
      have f89 := f8.trans f9
      exact ⟨rfl, h7.keep f89 (fun k hk t => by have : k = g := t; omega), (f13.trans f4).trans ((Fr.of0 f5 (f6.trans f7)).comp f89 fun x hx t => by have : x = g := t; omega)⟩
    rw [if_neg e]
    refine ifB.str (z := [115, 99, 97, 108, 101]) (fun e => ?_) (fun e => ?_)
    · rw [if_pos e]
      refine CallK.of (rnumber_spec n (by omega) h3) ?_
      rintro _ w4 ⟨rfl, h4, f4⟩
      refine ⟨_, rfl, ⟨Ob.v_cells _, ?_⟩⟩
      generalize (numR fin n s2).1 = y
      generalize (numR fin n s2).2 = s3 at h4 ⊢
      refine ns_ok (zs := [.nilIface, .nilIface]) (vs := [y.v, .nilIface]) rfl (by simp [Ob.v_one, one1_nil]) fun g w5 hg hb f5 => ?_
      have hgm : m ≤ g := by have := h4.lt; omega
      have hgb : g ≠ b := by have := h4.lt; omega
      refine CallK.of (rmust_spec (h4.keep0 f5) [44]) ?_
      rintro _ w6 ⟨rfl, h6, f6⟩
      refine ⟨(), rfl, ?_⟩
      refine CallK.of (rone_of ih h6) ?_
      rintro _ w7 ⟨rfl, h7, f7⟩
      refine ⟨_, rfl, ⟨Tm.v_cells _, ?_⟩⟩
      have hb7 := f7.keep1 (f6.keep1 hb hgb) hgb
      refine StsK.one hb7 (by show 1 < 2; omega) (Tm.v_one _) fun w8 hb8 f8 _ => ?_
      refine LdsK.blk (x := (y.v, (oneF fin (conR fin n) (mustF fin [44] s3)).1.v, ())) hb8 ?_
      exact ⟨rfl, h7.keep f8 (fun k hk t => by have : k = g := t; omega), (f13.trans f4).trans ((Fr.of0 f5 (f6.trans f7)).comp f8 fun x hx t => by have : x = g := t; omega)⟩
    rw [if_neg e]
    refine ifB.str (z := [119, 104, 101, 110]) (fun e => ?_) (fun e => ?_)
    · rw [if_pos e]
      refine CallK.of (rday_spec h3) ?_
      rintro _ w4 ⟨rfl, h4, f4⟩
      refine ⟨_, rfl, ?_⟩
      generalize (numF (takeF fin dayF s2).1).1 = y
      generalize (takeF fin dayF s2).2 = s3 at h4 ⊢
      refine ns_ok (zs := [.int .i64 0, .nilIface]) (vs := [.int .i64 y, .nilIface]) rfl rfl fun g w5 hg hb f5 => ?_
      have hgm : m ≤ g := by have := h4.lt; omega
      have hgb : g ≠ b := by have := h4.lt; omega
      refine CallK.of (rmust_spec (h4.keep0 f5) [44]) ?_
      rintro _ w6 ⟨rfl, h6, f6⟩
      refine ⟨(), rfl, ?_⟩
      refine CallK.of (rone_of ih h6) ?_
      rintro _ w7 ⟨rfl, h7, f7⟩
      refine ⟨_, rfl, ⟨Tm.v_cells _, ?_⟩⟩
      have hb7 := f7.keep1 (f6.keep1 hb hgb) hgb
      refine StsK.one hb7 (by show 1 < 2; omega) (Tm.v_one _) fun w8 hb8 f8 _ => ?_
      refine LdsK.blk (x := (y, (oneF fin (conR fin n) (mustF fin [44] s3)).1.v, ())) hb8 ?_
      exact ⟨rfl, h7.keep f8 (fun k hk t => by have : k = g := t; omega), (f13.trans f4).trans ((Fr.of0 f5 (f6.trans f7)).comp f8 fun x hx t => by have : x = g := t; omega)⟩
    rw [if_neg e]
    refine CallK.of (rnumber_spec n (by omega) h3) ?_
    rintro _ w4 ⟨rfl, h4, f4⟩
    refine ⟨_, rfl, ⟨Ob.v_cells _, ?_⟩⟩
    generalize (numR fin n s2).1 = y
    generalize (numR fin n s2).2 = s3 at h4 ⊢
    refine ns_ok (zs := [.nilIface, .nilIface, .nilIface]) (vs := [y.v, .nilIface, .nilIface]) rfl (by simp [Ob.v_one, one1_nil]) fun g w5 hg hb f5 => ?_
    have hgm : m ≤ g := by have := h4.lt; omega
    have hgb : g ≠ b := by have := h4.lt; omega
    refine CallK.of (rmust_spec (h4.keep0 f5) [44]) ?_
    rintro _ w6 ⟨rfl, h6, f6⟩
    refine ⟨(), rfl, ?_⟩
    refine CallK.of (rboth_of ih h6) ?_
    rintro _ w7 ⟨rfl, h7, f7⟩
    refine ⟨(_, _, ()), rfl, ⟨Tm.v_cells _, ?_⟩⟩
    have hb7 := f7.keep1 (f6.keep1 hb hgb) hgb
    refine StsK.one hb7 (by show 1 < 3; omega) (Tm.v_one _) fun w8 hb8 f8 _ => ⟨Tm.v_cells _, ?_⟩
    refine StsK.one hb8 (by show 2 < 3; omega) (Tm.v_one _) fun w9 hb9 f9 _ => ?_
    refine LdsK.blk (x := (y.v, (bothF fin (conR fin n) (mustF fin [44] s3)).1.v, (bothF fin (conR fin n) (mustF fin [44] s3)).2.1.v, ())) hb9 ?_
    have f89 := f8.trans f9
    exact ⟨rfl, h7.keep f89 (fun k hk t => by have : k = g := t; omega), (f13.trans f4).trans ((Fr.of0 f5 (f6.trans f7)).comp f89 fun x hx t => by have : x = g := t; omega)⟩

/-! ### The whole text -/
theorem rcount_spec (bs : List UInt8) (hl : bs.length < 9223372036854775807) (w : World) : Ret Tryz.prog 187 #[.string (str bs)] w fun r w' => r = .int .i64 ((runesL bs).length : Int) ∧ Fr none1 w w' := by
  refine (Tryz.utf8_RuneCountInString (str bs) w (by rw [str_size]; exact hl)).mono ?_
  rintro e w' ⟨rfl, pos, rfl⟩
  refine ⟨_, rfl, ?_, push_fr _ _⟩
  unfold Lib.runeCount
  rw [count_runes _ _ _ (by omega), str_list, List.drop_zero]

theorem rbegin_spec (bs : List UInt8) (hl : bs.length ≤ 1000000000000) (w : World) : Ret Tryz.prog 170 #[.string (str bs)] w fun r w' => ∃ m g : Nat, r = .pointer (some ⟨g, 0, none⟩) ∧ IsRd w' m g (endF bs) (beginF bs) ∧ Fr none1 w w' ∧ w.heap.size ≤ g := by
  refine c170 (str bs) w _ ?_
  refine CallK.of (rcount_spec bs (by omega) w) ?_
  rintro _ w1 ⟨rfl, f1⟩
  refine ⟨_, rfl, ?_⟩
  have hrl := runesL_len bs
  have hfin : IntKind.i64.wrap (((runesL bs).length : Int) + 1) = endF bs := wI (by omega) (by omega)
  refine NewK.of fun g w2 hg hb f2 hs2 => ?_
  rw [hfin] at hb
  have hgw : w.heap.size ≤ g := by have := f1.size; omega
  unfold beginF
  rw [str_size]
  refine ifB.dec (fun h => ?_) (fun h => ?_)
  · rw [if_pos (by omega)]
    refine StK.fld hb (by show 0 + 3 < 4; omega) rfl fun w3 hb3 f3 hs3 => ?_
    exact ⟨g + 1, g, rfl, ⟨(none, 0, 0), hb3, none_sg _, ⟨none_blk _, by omega, by omega, fun k t => (none_blk k t).elim⟩, fun x hx => by cases hx⟩, f1.trans (f2.fresh f3 (by omega)), hgw⟩
  · rw [if_neg (by omega)]
    refine CallK.of (signs_spec bs w2 (by have := reads_le (runesL bs); omega)) ?_
    rintro _ w3 ⟨sl, rfl, hsl, f3, hf⟩
    refine ⟨((sl.1, sl.2.1, sl.2.2), _, ()), rfl, ?_⟩
    have hb3 := f3.keep0 hb
    have hz := signs_short (bs := bs) (by omega)
    have hblk : ¬ blkOf sl g := fun t => by have := hf g t; omega
    have hltm : ∀ k, blkOf sl k → k < w3.heap.size := fun k hk => hsl.sl.lt hk
    refine ifB.dec (fun hp => ?_) (fun hp => ?_)
    · rw [if_pos (show 0 < (sgF [] 0 false (runesL bs)).2 from hp)]
      refine StK.fld hb3 (by show 0 + 3 < 4; omega) rfl fun w4 hb4 f4 hs4 => ?_
      refine StK.fld hb4 (by show 0 + 2 < 4; omega) rfl fun w5 hb5 f5 hs5 => ?_
      refine StK.fld hb5 (by show 0 + 0 < 4; omega) rfl fun w6 hb6 f6 hs6 => ?_
      have f46 := (f4.trans f5).trans f6
      exact ⟨w3.heap.size, g, rfl, ⟨sl, hb6, hsl.keep f46 (fun k hk t => hblk (by have : k = g := t; rw [← this]; exact hk)), ⟨hblk, lt_of_blk hb3, by omega, hltm⟩, hz⟩, f1.trans ((f2.trans f3).fresh f46 (by omega)), hgw⟩
    · rw [if_neg (show ¬ 0 < (sgF [] 0 false (runesL bs)).2 from hp)]
      refine StK.fld hb3 (by show 0 + 0 < 4; omega) rfl fun w4 hb4 f4 hs4 => ?_
      exact ⟨w3.heap.size, g, rfl, ⟨sl, hb4, hsl.keep f4 (fun k hk t => hblk (by have : k = g := t; rw [← this]; exact hk)), ⟨hblk, lt_of_blk hb3, by omega, hltm⟩, hz⟩, f1.trans ((f2.trans f3).fresh f4 (by omega)), hgw⟩

theorem rdone_spec {w : World} {m b : Nat} {fin : Int} {s : RS} (h : IsRd w m b fin s) : Ret Tryz.prog 172 #[.pointer (some ⟨b, 0, none⟩)] w fun r w' => r = .tuple #[] ∧ IsRd w' m b fin (doneF fin s) ∧ Fr (only b) w w' := by
  refine c172 _ w _ ?_
  obtain ⟨sl, hb, hs, _⟩ := id h
  have hl := hs.len
  refine LdK.fld hb (x := sl) rfl ?_
  unfold doneF
  cases hsl : s.l with
  | nil =>
    rw [hsl] at hl
    exact ifB.no (by rw [hl]; decide) ⟨rfl, h, Fr.refl _ _⟩
  | cons x l =>
    rw [hsl] at hl
    simp only [List.length_cons] at hl
    refine ifB.yes (by omega) ?_
    refine CallK.of (rfail_spec h 2) ?_
    rintro _ w1 ⟨rfl, h1, f1⟩
    exact ⟨(), rfl, rfl, h1, f1⟩

theorem con_small {bs : List UInt8} (h : (conS bs).e = 0) : nodesT (conR (endF bs) 12 (beginF bs)).1 ≤ 1000000 := by
  obtain ⟨h1, h2, _⟩ := doneF_ok h
  obtain ⟨i1, _, _⟩ := conR_inv (endF bs) 12 (beginF bs) h1
  obtain ⟨b1, _, b3⟩ := beginF_ok i1.e
  obtain ⟨xs, hx, hxs⟩ := i1.eat
  have h3 := nodesT_toks (conR (endF bs) 12 (beginF bs)).1
  rw [← hxs, List.length_map] at h3
  rw [h2, List.append_nil, b3] at hx
  have h4 := sgF_cnt (runesL bs) [] 0 false
  have h5 := runesL_len bs
  have hx : (sgF [] 0 false (runesL bs)).1 = xs := hx
  rw [hx, List.length_nil] at h4
  omega

theorem rterm_spec (bs : List UInt8) (hl : bs.length ≤ 1000000000000) (w : World) : Ret Tryz.prog 157 #[.string (str bs)] w fun r w' => r = .tuple #[(readT bs).1.v, .int .i64 (readT bs).2.1, .int .i64 (readT bs).2.2] ∧ Fr none1 w w' := by
  refine c157 (str bs) w _ ?_
  refine CallK.of (rbegin_spec bs hl w) ?_
  rintro _ w1 ⟨m, g, rfl, h1, f1, hg⟩
  refine ⟨_, rfl, ?_⟩
  refine CallK.of (rcontract_spec 12 (Nat.le_refl _) h1) ?_
  rintro _ w2 ⟨rfl, h2, f2⟩
  refine ⟨_, rfl, ?_⟩
  refine CallK.of (rdone_spec h2) ?_
  rintro _ w3 ⟨rfl, h3, f3⟩
  refine ⟨(), rfl, ?_⟩
  have f13 : Fr none1 w w3 := f1.fresh (f2.trans f3) hg
  have h3 : IsRd w3 m g (endF bs) (conS bs) := h3
  obtain ⟨sl, hb, _⟩ := id h3
  unfold readT
  refine LdK.fld hb (x := (conS bs).e) rfl ?_
  refine ifB.eq (fun he => ?_) (fun he => ?_)
  · rw [if_neg (fun t => t he)]
    refine CallK.of (tcheck_spec _ (con_small he) w3) ?_
    rintro _ w4 ⟨rfl, f4⟩
    refine ⟨_, rfl, ?_⟩
    refine StK.fld (f4.keep0 hb) (by show 0 + 3 < 4; omega) rfl fun w5 hb5 f5 _ => ?_
    refine LdK.fld hb5 (x := checkT (conR (endF bs) 12 (beginF bs)).1) rfl ?_
    have f15 : Fr none1 w w5 := (f13.trans f4).fresh f5 (by omega)
    refine ifB.ne (fun hc => ?_) (fun hc => ?_)
    · rw [if_pos hc]
      refine DrewK.of fun w6 _ f6 => ?_
      refine LdK.fld (f6.keep0 hb5) (x := (conS bs).at_) rfl (LdK.fld (f6.keep0 hb5) (x := checkT (conR (endF bs) 12 (beginF bs)).1) rfl ?_)
      exact ⟨rfl, f15.trans f6⟩
    · rw [if_neg (fun t => t hc)]
      exact ⟨rfl, f15⟩
  · rw [if_pos he]
    refine LdK.fld hb (x := (conS bs).e) rfl ?_
    refine ifB.ne (fun _ => ?_) (fun hc => absurd hc he)
    refine DrewK.of fun w6 _ f6 => ?_
    refine LdK.fld (f6.keep0 hb) (x := (conS bs).at_) rfl (LdK.fld (f6.keep0 hb) (x := (conS bs).e) rfl ?_)
    exact ⟨rfl, f13.trans f6⟩

end Go.Proofs.YtdphmcanlhcokaaGreatDoor

/-! ### BytesMore -/
set_option linter.unusedVariables false
namespace Go.Proofs.YtdphmcanlhcokaaGreatDoor
open Vc

theorem RdB.mid {w : World} {v : Sl} {bs : List UInt8} (h : RdB w v bs) {lo hi : Int} (h0 : 0 ≤ lo) (h1 : lo ≤ hi) (h2 : hi ≤ v.2.1) (hc : v.2.1 ≤ v.2.2) {K : Option Addr → Nat → Nat → Prop}
    (k : ∀ u : Sl, RdB w u ((bs.drop lo.toNat).take (hi - lo).toNat) → u.2.1 ≤ u.2.2 → u.2.1 = (hi - lo).toNat → (∀ k, blkOf u k → blkOf v k) → K u.1 u.2.1 u.2.2) : SubK v.1 v.2.2 lo hi v.2.2 1 K := by
  refine RdSl.mid h h0 h1 h2 hc fun u hu => k u ?_
  unfold RdB; rw [List.map_take, List.map_drop]; exact hu

theorem RdB.keepE {w w' : World} {v : Sl} {bs : List UInt8} (h : RdB w v bs) {S : Nat → Prop} (f : Fr S w w') (hn : bs ≠ [] → ∀ k, blkOf v k → ¬ S k) : RdB w' v bs := by
  by_cases e : bs = []
  · subst e
    obtain ⟨h1, h2, h3⟩ := h
    exact ⟨h1, h2, fun a ha => trivial⟩
  · exact h.keep f (hn e)

/-- Where there are bytes their block is there. -/
theorem RdB.ltE {w : World} {v : Sl} {bs : List UInt8} (h : RdB w v bs) (hn : bs ≠ []) {k : Nat} (hk : blkOf v k) : k < w.heap.size := by
  obtain ⟨a, ha, rfl⟩ := hk
  obtain ⟨_, _, h3⟩ := h
  have := h3 a ha
  cases bs with
  | nil => exact (hn rfl).elim
  | cons b bs => exact blk_of_cell this.1

end Go.Proofs.YtdphmcanlhcokaaGreatDoor

/-! ### CLend -/
namespace Go.Proofs.YtdphmcanlhcokaaGreatDoor
open Vc
set_option maxRecDepth 100000
set_option linter.unusedVariables false

end Go.Proofs.YtdphmcanlhcokaaGreatDoor

/-! ### LendB -/
set_option linter.unusedVariables false
namespace Go.Proofs.YtdphmcanlhcokaaGreatDoor
open Vc

/-- make of bytes, with room: all of it zeros. -/
theorem make_full {w : World} {n m : Int} (h0 : 0 ≤ n) (h1 : n ≤ m) (hb : m ≤ 281474976710656) :
    ∃ w', (Instr.makeSlice 22 (.int .i64 n) (.int .i64 m)).run Tryz.prog w = .ok (.slice (some ⟨w.heap.size, 0, none⟩) n.toNat m.toNat) w' ∧ IsB w' (some ⟨w.heap.size, 0, none⟩, m.toNat, m.toNat) (List.replicate m.toNat 0) ∧ Fr none1 w w' := by
  obtain ⟨hu, ⟨i, hi, hs, hz, hby⟩, hc, hpos⟩ := elem_byte
  have hti : ∀ w, (typeInfo 5).run Tryz.prog w = .ok i w := fun w => by simp [typeInfo, hi]
  have hsize : ∀ w, (sizeOf 5).run Tryz.prog w = .ok 1 w := fun w => by rw [sizeof hi, hs]
  have ha : ∀ (k : IntKind) (n : Int) w, (asInt (.int k n)).run Tryz.prog w = .ok n w := fun _ _ _ => rfl
  unfold Instr.makeSlice
  simp only [Sem.run_bind, under hu, Result.andThen_ok, ha, hti, wI (x := n) (by omega) (by omega), wI (x := m) (by omega) (by omega)]
  have hbm : ¬ ((i.bytes : Int) * m > 2 ^ 48) := by rw [hby]; omega
  rw [if_neg (by simp; omega)]
  have hcells : ∀ zc : Array Value, (m.toNat * 1 ≠ 0 → zc = #[.int .u8 0]) → (Array.range (m.toNat * 1)).map (zc[· % zc.size]!) = Array.replicate m.toNat (.int .u8 0) := fun zc hzc => by
    by_cases h : m.toNat * 1 = 0
    · have : m.toNat = 0 := by omega
      rw [this]; simp
    · rw [hzc h]
      apply Array.ext
      · simp
      · intro j h1 h2
        have : j % 1 = 0 := Nat.mod_one _
        simp [this]
  have fin : ∀ cs : Array Value, cs = Array.replicate m.toNat (.int .u8 0) →
      ∃ w', (do pure (Value.slice (some (← newRow 5 cs)) n.toNat m.toNat) : Sem Value).run Tryz.prog w = .ok (.slice (some ⟨w.heap.size, 0, none⟩) n.toNat m.toNat) w' ∧ IsB w' (some ⟨w.heap.size, 0, none⟩, m.toNat, m.toNat) (List.replicate m.toNat 0) ∧ Fr none1 w w' := fun cs hcs => by
    subst hcs
    simp only [newRow, Sem.run_bind, run_newObj, Result.andThen_ok, Sem.run_pure]
    refine ⟨_, rfl, .inr ⟨w.heap.size, 0, _, rfl, Array.getElem?_push_size .., Nat.le_refl _, by simp, by simp, fun j hj => ?_⟩, push_fr _ _⟩
    simp at hj
    rw [List.map_replicate, Array.getElem?_replicate, List.getElem?_replicate, if_pos (show 0 + j < m.toNat by omega), if_pos (show j < m.toNat by omega)]
    rfl
  by_cases h : m.toNat * 1 = 0
  · simp only [Sem.run_bind, run_askRoom, Result.andThen_ok, hsize, if_pos h, Sem.run_pure]
    exact fin _ (hcells #[] (fun hh => absurd h hh))
  · simp only [Sem.run_bind, run_askRoom, Result.andThen_ok, hsize, if_neg h, zeroof hi hz, Sem.run_pure]
    exact fin _ (hcells _ (fun _ => rfl))

theorem setCells_above {g : Nat} {T : TypeId} : ∀ (vs : List Value) (w : World) (cs cs' : Array Value) (off i : Nat), w.heap[g]? = some (.cells cs T (0, 0)) → (setCells w ⟨g, off, none⟩ i vs).heap[g]? = some (.cells cs' T (0, 0)) → ∀ j, off + i + vs.length ≤ j → cs'[j]? = cs[j]?
  | [], w, cs, cs', off, i, hb, hb', j, _ => by
    have : some (Obj.cells cs T (0, 0)) = some (.cells cs' T (0, 0)) := by rw [← hb, ← hb']; rfl
    injection this with this
    injection this with this
    rw [this]
  | v :: vs, w, cs, cs', off, i, hb, hb', j, hj => by
    simp only [List.length_cons] at hj
    unfold setCells at hb'
    rw [addr_add] at hb'
    have hs := Vc.heap_setCell_same (i := off + i) (v := v) hb
    have := setCells_above vs _ _ cs' off (i + 1) hs hb' j (by omega)
    rw [this, Array.getElem?_setIfInBounds_ne (by omega)]

end Go.Proofs.YtdphmcanlhcokaaGreatDoor

/-! ### CPackT -/
namespace Go.Proofs.YtdphmcanlhcokaaGreatDoor
open Vc
set_option maxRecDepth 100000
set_option linter.unusedVariables false
/-- (*handfast/pack.reader).take -/
def C98 (p0 : Addr) (p1 : Int) (w : World) (K : Value → World → Prop) : Prop :=
  LdK .bool (p0.add 1) w (fun (x1 : Bool) => ifB x1
  (StK (p0.add 1) (.bool true) w (fun w2 => K (.slice none 0 0) w2))
  (LdK .slc (p0.add 0) w (fun (x3 : SlT) => ifB (decide (p1 > (x3.2.1 : Int)))
  (StK (p0.add 1) (.bool true) w (fun w4 => K (.slice none 0 0) w4))
  (LdK .slc (p0.add 0) w (fun (x5 : SlT) => SubK x5.1 x5.2.2 0 p1 x5.2.2 1 (fun a6 l7 c8 => LdK .slc (p0.add 0) w (fun (x9 : SlT) => SubK x9.1 x9.2.2 p1 x9.2.1 x9.2.2 1 (fun a10 l11 c12 => StK (p0.add 0) (.slice a10 l11 c12) w (fun w13 => K (.slice a6 l7 c8) w13)))))))))
def pl98 : Plan := .auto
theorem e98 (p0 : Addr) (p1 : Int) (w : World) (K : Value → World → Prop) : vcFunc Tryz.prog Tryz.f98 pl98 [.pointer (some p0), .int .i64 p1] w K = C98 p0 p1 w K := by kernel_rfl
theorem c98 (p0 : Addr) (p1 : Int) (w : World) (K : Value → World → Prop) (h : C98 p0 p1 w K) : Ret Tryz.prog 98 #[.pointer (some p0), .int .i64 p1] w K := by
  rw [← e98] at h
  exact vcFunc_sound (by kernel_rfl) Tryz.func98 h

/-- (*handfast/pack.reader).text -/
def C134 (p0 : Addr) (p1 : Int) (w : World) (K : Value → World → Prop) : Prop :=
  CallK Tryz.prog 98 #[.pointer (some p0), .int .i64 p1] w (.v (.one .slc)) (fun (x1 : SlT) w2 => LoopK (Int × Int × Unit) (fun _ s3 w4 next5 => ifB (decide (s3.2.1 < (x1.2.1 : Int)))
  (IdxK x1.1 x1.2.1 s3.2.1 1 (fun a6 => LdK (.int .u8) a6 w4 (fun (x7 : Int) => NnK 8 (next5 (IntKind.i64.wrap ((BitVec.ofInt 64 (IntKind.i64.wrap (s3.1 * 2 ^ (min (Int.toNat 8) 64))) ||| BitVec.ofInt 64 (IntKind.i64.wrap x7)).toNat : Int), IntKind.i64.wrap (s3.2.1 + 1), ()) w4))))
  (CallK Tryz.prog 98 #[.pointer (some p0), .int .i64 s3.1] w4 (.v (.one .slc)) (fun (x8 : SlT) w9 => RunK Tryz.prog (convert 22 9 (.slice x8.1 x8.2.1 x8.2.2)) w9 (.v (.one .str)) (fun (x10 : ByteArray) w11 => K (.string x10) w11))))
  (0, 0, ()) w2)
def pl134 : Plan := (.seq .auto (.seq .auto (.seq (.seq .auto (.block (.loop [(5, .one (.int .i64)), (12, .one (.int .i64))] .auto))) .auto)))
theorem e134 (p0 : Addr) (p1 : Int) (w : World) (K : Value → World → Prop) : vcFunc Tryz.prog Tryz.f134 pl134 [.pointer (some p0), .int .i64 p1] w K = C134 p0 p1 w K := by kernel_rfl
theorem c134 (p0 : Addr) (p1 : Int) (w : World) (K : Value → World → Prop) (h : C134 p0 p1 w K) : Ret Tryz.prog 134 #[.pointer (some p0), .int .i64 p1] w K := by
  rw [← e134] at h
  exact vcFunc_sound (by kernel_rfl) Tryz.func134 h

/-- (*handfast/pack.reader).number -/
def C132 (p0 : Addr) (w : World) (K : Value → World → Prop) : Prop :=
  CallK Tryz.prog 98 #[.pointer (some p0), .int .i64 8] w (.v (.one .slc)) (fun (x1 : SlT) w2 => CallK Tryz.prog 67 #[.slice x1.1 x1.2.1 x1.2.2] w2 (.tup [.one (.int .i64), .one .bool]) (fun (x3 : Int × Bool × Unit) w4 => LdK .bool (p0.add 1) w4 (fun (x5 : Bool) => ifB x5
  (StK (p0.add 1) (.bool true) w4 (fun w6 => K (.int .i64 x3.1) w6))
  (StK (p0.add 1) (.bool (!x3.2.1)) w4 (fun w7 => K (.int .i64 x3.1) w7)))))
def pl132 : Plan := .auto
theorem e132 (p0 : Addr) (w : World) (K : Value → World → Prop) : vcFunc Tryz.prog Tryz.f132 pl132 [.pointer (some p0)] w K = C132 p0 w K := by kernel_rfl
theorem c132 (p0 : Addr) (w : World) (K : Value → World → Prop) (h : C132 p0 w K) : Ret Tryz.prog 132 #[.pointer (some p0)] w K := by
  rw [← e132] at h
  exact vcFunc_sound (by kernel_rfl) Tryz.func132 h

/-- (*handfast/pack.reader).term -/
def C133 (p0 : Addr) (w : World) (K : Value → World → Prop) : Prop :=
  CallK Tryz.prog 134 #[.pointer (some p0), .int .i64 2] w (.v (.one .str)) (fun (x1 : ByteArray) w2 => CallK Tryz.prog 157 #[.string x1] w2 (.tup [.one .raw, .one (.int .i64), .one (.int .i64)]) (fun (x3 : Value × Int × Int × Unit) w4 => LdK .bool (p0.add 1) w4 (fun (x5 : Bool) => ifB x5
  (StK (p0.add 1) (.bool true) w4 (fun w6 => K x3.1 w6))
  (StK (p0.add 1) (.bool (x3.2.2.1 != 0)) w4 (fun w7 => K x3.1 w7)))))
def pl133 : Plan := .auto
theorem e133 (p0 : Addr) (w : World) (K : Value → World → Prop) : vcFunc Tryz.prog Tryz.f133 pl133 [.pointer (some p0)] w K = C133 p0 w K := by kernel_rfl
theorem c133 (p0 : Addr) (w : World) (K : Value → World → Prop) (h : C133 p0 w K) : Ret Tryz.prog 133 #[.pointer (some p0)] w K := by
  rw [← e133] at h
  exact vcFunc_sound (by kernel_rfl) Tryz.func133 h

/-- (*handfast/pack.reader).field -/
def C99 (p0 : Addr) (p1 : Addr) (p2 : Int) (w : World) (K : Value → World → Prop) : Prop :=
  ifB (p2 == 68)
  (CallK Tryz.prog 132 #[.pointer (some p0)] w (.v (.one (.int .i64))) (fun (x1 : Int) w2 => StK (p1.add 5) (.int .i64 x1) w2 (fun w3 => K (.tuple #[]) w3)))
  (ifB (p2 == 86)
  (CallK Tryz.prog 132 #[.pointer (some p0)] w (.v (.one (.int .i64))) (fun (x4 : Int) w5 => StK (p1.add 6) (.int .i64 x4) w5 (fun w6 => K (.tuple #[]) w6)))
  (ifB (p2 == 84)
  (CallK Tryz.prog 133 #[.pointer (some p0)] w (.v (.one .raw)) (fun (x7 : Value) w8 => OneK x7 (StsK (p1.add 7) [x7] w8 (fun w9 => K (.tuple #[]) w9))))
  (ifB (p2 == 73)
  (CallK Tryz.prog 134 #[.pointer (some p0), .int .i64 1] w (.v (.one .str)) (fun (x10 : ByteArray) w11 => StK (p1.add 1) (.string x10) w11 (fun w12 => K (.tuple #[]) w12)))
  (ifB (p2 == 78)
  (CallK Tryz.prog 134 #[.pointer (some p0), .int .i64 1] w (.v (.one .str)) (fun (x13 : ByteArray) w14 => StK (p1.add 2) (.string x13) w14 (fun w15 => K (.tuple #[]) w15)))
  (ifB (p2 == 76)
  (CallK Tryz.prog 134 #[.pointer (some p0), .int .i64 1] w (.v (.one .str)) (fun (x16 : ByteArray) w17 => StK (p1.add 3) (.string x16) w17 (fun w18 => K (.tuple #[]) w18)))
  (ifB (p2 == 67)
  (CallK Tryz.prog 134 #[.pointer (some p0), .int .i64 1] w (.v (.one .str)) (fun (x19 : ByteArray) w20 => StK (p1.add 4) (.string x19) w20 (fun w21 => K (.tuple #[]) w21)))
  (K (.tuple #[]) w)))))))
def pl99 : Plan := .auto
theorem e99 (p0 : Addr) (p1 : Addr) (p2 : Int) (w : World) (K : Value → World → Prop) : vcFunc Tryz.prog Tryz.f99 pl99 [.pointer (some p0), .pointer (some p1), .int .i32 p2] w K = C99 p0 p1 p2 w K := by kernel_rfl
theorem c99 (p0 : Addr) (p1 : Addr) (p2 : Int) (w : World) (K : Value → World → Prop) (h : C99 p0 p1 p2 w K) : Ret Tryz.prog 99 #[.pointer (some p0), .pointer (some p1), .int .i32 p2] w K := by
  rw [← e99] at h
  exact vcFunc_sound (by kernel_rfl) Tryz.func99 h

/-- handfast/pack.Take -/
def C68 (p0 : Option Addr) (p0l p0c : Nat) (w : World) (K : Value → World → Prop) : Prop :=
  NewK (.cells #[.int .i64 0, .string (⟨#[]⟩ : ByteArray), .string (⟨#[]⟩ : ByteArray), .string (⟨#[]⟩ : ByteArray), .string (⟨#[]⟩ : ByteArray), .int .i64 0, .int .i64 0, .nilIface] 36) w (fun g1 w2 => NewK (.cells #[.slice p0 p0l p0c, .bool false] 175) w2 (fun g3 w4 => NewK (.cells #[.int .i64 0, .string (⟨#[]⟩ : ByteArray), .string (⟨#[]⟩ : ByteArray), .string (⟨#[]⟩ : ByteArray), .string (⟨#[]⟩ : ByteArray), .int .i64 0, .int .i64 0, .nilIface] 36) w4 (fun g5 w6 => StsK (ad g5) [.int .i64 0, .string (⟨#[]⟩ : ByteArray), .string (⟨#[]⟩ : ByteArray), .string (⟨#[]⟩ : ByteArray), .string (⟨#[]⟩ : ByteArray), .int .i64 0, .int .i64 0, .nilIface] w6 (fun w7 => CallK Tryz.prog 98 #[.pointer (some (ad g3)), .int .i64 1] w7 (.v (.one .slc)) (fun (x8 : SlT) w9 => LoopK (Int × Unit) (fun _ s10 w11 next12 => ifB (decide (s10.1 < (x8.2.1 : Int)))
  (IdxK x8.1 x8.2.1 s10.1 1 (fun a13 => LdK (.int .u8) a13 w11 (fun (x14 : Int) => StK ((ad g5).add 0) (.int .i64 (IntKind.i64.wrap x14)) w11 (fun w15 => next12 (IntKind.i64.wrap (s10.1 + 1), ()) w15))))
  (LdK (.int .i64) ((ad g5).add 0) w11 (fun (x16 : Int) => CallK Tryz.prog 91 #[.int .i64 x16] w11 (.v (.one .slc)) (fun (x17 : SlT) w18 => LoopK (Int × Unit) (fun _ s19 w20 next21 => ifB (decide (s19.1 < (x17.2.1 : Int)))
  (IdxK x17.1 x17.2.1 s19.1 1 (fun a22 => LdK (.int .i32) a22 w20 (fun (x23 : Int) => CallK Tryz.prog 99 #[.pointer (some (ad g3)), .pointer (some (ad g5)), .int .i32 x23] w20 (.tup []) (fun (x24 : Unit) w25 => next21 (IntKind.i64.wrap (s19.1 + 1), ()) w25))))
  (LdsK KZ14 (ad g5) w20 (fun (x26 : YZ14) => CallK Tryz.prog 59 #[.agg (LZ14 x26).toArray] w20 (.tup [.one .slc, .one (.int .i64)]) (fun (x27 : SlT × Int × Unit) w28 => LdK .bool ((ad g3).add 1) w28 (fun (x29 : Bool) => ifB x29
  (StsK (ad g1) [.int .i64 0, .string (⟨#[]⟩ : ByteArray), .string (⟨#[]⟩ : ByteArray), .string (⟨#[]⟩ : ByteArray), .string (⟨#[]⟩ : ByteArray), .int .i64 0, .int .i64 0, .nilIface] w28 (fun w30 => LdsK KZ14 (ad g1) w30 (fun (x31 : YZ14) => K (.tuple #[.agg (LZ14 x31).toArray, .int .i64 2]) w30)))
  (ifB (x27.2.1 != 0)
  (StsK (ad g1) [.int .i64 0, .string (⟨#[]⟩ : ByteArray), .string (⟨#[]⟩ : ByteArray), .string (⟨#[]⟩ : ByteArray), .string (⟨#[]⟩ : ByteArray), .int .i64 0, .int .i64 0, .nilIface] w28 (fun w32 => LdsK KZ14 (ad g1) w32 (fun (x33 : YZ14) => K (.tuple #[.agg (LZ14 x33).toArray, .int .i64 2]) w32)))
  (CallK Tryz.prog 41 #[.slice x27.1.1 x27.1.2.1 x27.1.2.2, .slice p0 p0l p0c] w28 (.v (.one .bool)) (fun (x34 : Bool) w35 => ifB (!x34)
  (StsK (ad g1) [.int .i64 0, .string (⟨#[]⟩ : ByteArray), .string (⟨#[]⟩ : ByteArray), .string (⟨#[]⟩ : ByteArray), .string (⟨#[]⟩ : ByteArray), .int .i64 0, .int .i64 0, .nilIface] w35 (fun w36 => LdsK KZ14 (ad g1) w36 (fun (x37 : YZ14) => K (.tuple #[.agg (LZ14 x37).toArray, .int .i64 2]) w36)))
  (LdsK KZ14 (ad g5) w35 (fun (x38 : YZ14) => StsK (ad g1) (LZ14 x38) w35 (fun w39 => LdsK KZ14 (ad g1) w39 (fun (x40 : YZ14) => K (.tuple #[.agg (LZ14 x40).toArray, .int .i64 0]) w39))))))))))))
  (0, ()) w18))))
  (0, ()) w9)))))
def pl68 : Plan := (.seq .auto (.seq .auto (.seq .auto (.seq (.seq .auto (.block (.loop [(19, .one (.int .i64))] .auto))) (.seq (.seq .auto (.block (.loop [(31, .one (.int .i64))] .auto))) .auto)))))
theorem e68 (p0 : Option Addr) (p0l p0c : Nat) (w : World) (K : Value → World → Prop) : vcFunc Tryz.prog Tryz.f68 pl68 [.slice p0 p0l p0c] w K = C68 p0 p0l p0c w K := by kernel_rfl
theorem c68 (p0 : Option Addr) (p0l p0c : Nat) (w : World) (K : Value → World → Prop) (h : C68 p0 p0l p0c w K) : Ret Tryz.prog 68 #[.slice p0 p0l p0c] w K := by
  rw [← e68] at h
  exact vcFunc_sound (by kernel_rfl) Tryz.func68 h

end Go.Proofs.YtdphmcanlhcokaaGreatDoor

/-! ### TakeSpec -/
set_option linter.unusedVariables false
set_option maxRecDepth 100000
namespace Go.Proofs.YtdphmcanlhcokaaGreatDoor
open Vc

/-- A taker: what is left of the bytes (in a block below n), and whether there were too few. -/
def IsTk (T : TypeId) (w : World) (g n : Nat) (s : TkS) : Prop :=
  ∃ u : Sl, w.heap[g]? = some (.cells #[.slice u.1 u.2.1 u.2.2, .bool s.2] T (0, 0)) ∧ RdB w u s.1 ∧ u.2.1 ≤ u.2.2 ∧ (s.1 ≠ [] → ∀ k, blkOf u k → k < n)
theorem IsTk.keep {T : TypeId} {w w' : World} {g n : Nat} {s : TkS} (h : IsTk T w g n s) {S : Nat → Prop} (f : Fr S w w') (hg : ¬ S g) (hS : ∀ k, S k → n ≤ k) : IsTk T w' g n s := by
  obtain ⟨u, a, b, c, d⟩ := h
  exact ⟨u, f.keep a hg, b.keepE f fun hn k hk t => by have := d hn k hk; have := hS k t; omega, c, d⟩
theorem IsTk.keep0 {T : TypeId} {w w' : World} {g n : Nat} {s : TkS} (h : IsTk T w g n s) (f : Fr none1 w w') : IsTk T w' g n s := h.keep f (fun t => t) (fun _ t => t.elim)

theorem none_rd (w : World) : RdB w (none, 0, 0) [] := (none_b w).rd

theorem or_byte64 (m : Nat) (b : UInt8) (hm : m < 65536) : IntKind.i64.wrap ((BitVec.ofInt 64 (IntKind.i64.wrap ((m : Int) * 2 ^ (min (Int.toNat 8) 64))) ||| BitVec.ofInt 64 (IntKind.i64.wrap (b.toNat : Int))).toNat : Int) = ((m * 256 + b.toNat : Nat) : Int) := by
  have hb := b.toNat_lt
  have e1 : ((m : Int) * 2 ^ (min (Int.toNat 8) 64)) = ((m * 256 : Nat) : Int) := by
    rw [show min (Int.toNat 8) 64 = 8 by decide]; norm_cast
  rw [e1, wI (x := ((m * 256 : Nat) : Int)) (by omega) (by omega), wI (x := (b.toNat : Int)) (by omega) (by omega), BitVec.toNat_or, ofInt_nat, ofInt_nat, Nat.mod_eq_of_lt (by omega), Nat.mod_eq_of_lt (by omega)]
  have e2 : m * 256 ||| b.toNat = m * 256 + b.toNat := by
    rw [show m * 256 = m <<< 8 by rw [Nat.shiftLeft_eq], ← Nat.shiftLeft_add_eq_or_of_lt (show b.toNat < 2 ^ 8 from hb)]
  rw [e2, wI (by omega) (by omega)]

theorem tk_bad {z : Bool} {n : Nat} {s : TkS} (h : s.2 = true ∨ s.1.length < n) : tkF z n s = (if z = true then List.replicate n 0 else [], (s.1, true)) := by unfold tkF; rw [if_pos h]
theorem tk_good {z : Bool} {n : Nat} {s : TkS} (h : s.2 = false) (h' : n ≤ s.1.length) : tkF z n s = (s.1.take n, (s.1.drop n, false)) := by
  unfold tkF; rw [if_neg (by rw [h]; simp; omega)]

theorem tk_take {w : World} {g n0 : Nat} {s : TkS} (h : IsTk 175 w g n0 s) (hg : n0 ≤ g) (n : Nat) : Ret Tryz.prog 98 #[.pointer (some ⟨g, 0, none⟩), .int .i64 (n : Int)] w fun r w' =>
    ∃ v : Sl, r = .slice v.1 v.2.1 v.2.2 ∧ RdB w' v (tkF false n s).1 ∧ ((tkF false n s).1 ≠ [] → ∀ k, blkOf v k → k < n0) ∧ IsTk 175 w' g n0 (tkF false n s).2 ∧ Fr (only g) w w' := by
  obtain ⟨u, hb, hu, hc, hlt⟩ := h
  have hul := hu.len
  refine c98 _ _ w _ ?_
  unfold C98
  have bad : s.2 = true ∨ s.1.length < n → ∀ w1, w1.heap[g]? = some (.cells #[.slice u.1 u.2.1 u.2.2, .bool true] 175 (0, 0)) → Fr (only g) w w1 →
      ∃ v : Sl, (Value.slice none 0 0) = .slice v.1 v.2.1 v.2.2 ∧ RdB w1 v (tkF false n s).1 ∧ ((tkF false n s).1 ≠ [] → ∀ k, blkOf v k → k < n0) ∧ IsTk 175 w1 g n0 (tkF false n s).2 ∧ Fr (only g) w w1 := fun hbad w1 hb1 f1 => by
    rw [tk_bad hbad]
    exact ⟨(none, 0, 0), rfl, none_rd w1, (fun h => (h rfl).elim), ⟨u, hb1, hu.keepE f1 fun hn k hk t => by have := hlt hn k hk; have : k = g := t; omega, hc, hlt⟩, f1⟩
  refine LdK.fld hb (x := s.2) rfl ?_
  refine ifB.by (fun e => ?_) (fun e => ?_)
  · exact StK.fld hb (by show 0 + 1 < 2; omega) rfl fun w1 hb1 f1 _ => bad (.inl e) w1 hb1 f1
  refine LdK.fld hb (x := u) rfl ?_
  refine ifB.dec (fun hgt => ?_) (fun hle => ?_)
  · exact StK.fld hb (by show 0 + 1 < 2; omega) rfl fun w1 hb1 f1 _ => bad (.inr (by omega)) w1 hb1 f1
  refine LdK.fld hb (x := u) rfl ?_
  refine RdB.sub hu (by omega) (by omega) hc fun ha => ?_
  refine LdK.fld hb (x := u) rfl ?_
  refine RdB.mid hu (by omega) (by omega) (Int.le_refl _) hc fun v hv hvc hvl hvb => ?_
  refine StK.fld hb (by show 0 + 0 < 2; omega) rfl fun w1 hb1 f1 _ => ?_
  rw [Int.toNat_natCast] at ha hv ⊢
  have e2 : (s.1.drop n).take ((u.2.1 : Int) - (n : Int)).toNat = s.1.drop n := List.take_of_length_le (by rw [List.length_drop]; omega)
  rw [e2] at hv
  rw [tk_good e (by omega)]
  have ne1 : s.1.take n ≠ [] → s.1 ≠ [] := fun h t => h (by rw [t]; simp)
  have ne2 : s.1.drop n ≠ [] → s.1 ≠ [] := fun h t => h (by rw [t]; simp)
  refine ⟨(u.1, n, u.2.2), rfl, ha.keepE f1 fun hn k hk t => by have := hlt (ne1 hn) k hk; have : k = g := t; omega, (fun hn k hk => hlt (ne1 hn) k hk), ⟨v, ?_, hv.keepE f1 fun hn k hk t => by have := hlt (ne2 hn) k (hvb k hk); have : k = g := t; omega, hvc, fun hn k hk => hlt (ne2 hn) k (hvb k hk)⟩, f1⟩
  rw [hb1, ← e]; rfl

theorem tk_text {w : World} {g n0 : Nat} {s : TkS} (h : IsTk 175 w g n0 s) (hg : n0 ≤ g) (size : Nat) (hs : size ≤ 2) : Ret Tryz.prog 134 #[.pointer (some ⟨g, 0, none⟩), .int .i64 (size : Int)] w fun r w' =>
    r = .string (str (txF false size s).1) ∧ IsTk 175 w' g n0 (txF false size s).2 ∧ Fr (only g) w w' := by
  refine c134 _ _ w _ ?_
  unfold C134
  refine CallK.of (tk_take h hg size) ?_
  rintro _ w1 ⟨v, rfl, hv, _, h1, f1⟩
  refine ⟨v, rfl, ?_⟩
  have hvl := hv.len
  have hl2 : (tkF false size s).1.length ≤ 2 := by
    unfold tkF; split
    · simp
    · dsimp only; rw [List.length_take]; omega
  unfold txF
  generalize tkF false size s = x at *
  have hbig : ∀ i, i ≤ 2 → big (x.1.take i) < 65536 := fun i hi => by
    have h1 := big_lt (x.1.take i)
    have h2 : 256 ^ (x.1.take i).length ≤ 256 ^ 2 := Nat.pow_le_pow_right (by decide) (by rw [List.length_take]; omega)
    have : (256 : Nat) ^ 2 = 65536 := by decide
    omega
  refine LoopK.of (fun st w' => ∃ i : Nat, st.2.1 = i ∧ i ≤ x.1.length ∧ st.1 = (big (x.1.take i) : Int) ∧ w1 = w') (fun st _ => (2 - st.2.1).toNat) ⟨0, rfl, by omega, rfl, rfl⟩ ?_
  rintro _ ⟨m, i', _⟩ _ ⟨i, hi, hi8, hm, rfl⟩
  dsimp only at hi hm ⊢
  subst hi hm
  refine ifB.dec (fun hlt => ?_) (fun hge => ?_)
  · refine RdB.at hv (by omega) hlt ?_
    refine ⟨by omega, ?_⟩
    rw [Int.toNat_natCast, or_byte64 _ _ (hbig i (by omega)), wI (by omega) (by omega)]
    refine ⟨⟨i + 1, by omega, by omega, ?_, rfl⟩, by omega⟩
    rw [big_take x.1 i (by omega)]
  · rw [List.take_of_length_le (by omega)]
    refine CallK.of (tk_take h1 hg (big x.1)) ?_
    rintro _ w2 ⟨u, rfl, hu, _, h2, f2⟩
    refine ⟨u, rfl, ?_⟩
    exact ⟨_, w2, txt_of hu, rfl, h2, f1.trans f2⟩

theorem tk_num {w : World} {g n0 : Nat} {s : TkS} (h : IsTk 175 w g n0 s) (hg : n0 ≤ g) : Ret Tryz.prog 132 #[.pointer (some ⟨g, 0, none⟩)] w fun r w' =>
    r = .int .i64 (nuF false s).1 ∧ IsTk 175 w' g n0 (nuF false s).2 ∧ Fr (only g) w w' := by
  refine c132 _ w _ ?_
  unfold C132
  refine CallK.of (tk_take h hg 8) ?_
  rintro _ w1 ⟨v, rfl, hv, _, h1, f1⟩
  refine ⟨v, rfl, ?_⟩
  unfold nuF
  generalize tkF false 8 s = x at *
  refine CallK.of (ptake_spec hv) ?_
  rintro _ _ ⟨rfl, rfl⟩
  refine ⟨((takeL x.1).1, (takeL x.1).2, ()), rfl, ?_⟩
  obtain ⟨u, hb, hu, hc, hlt⟩ := h1
  have kp : ∀ w2, Fr (only g) w1 w2 → RdB w2 u x.2.1 := fun w2 f2 => hu.keepE f2 fun hn k hk t => by have := hlt hn k hk; have : k = g := t; omega
  refine LdK.fld hb (x := x.2.2) rfl ?_
  refine ifB.by (fun e => ?_) (fun e => ?_)
  · refine StK.fld hb (by show 0 + 1 < 2; omega) rfl fun w2 hb2 f2 _ => ?_
    exact ⟨rfl, ⟨u, by rw [hb2, e]; rfl, kp w2 f2, hc, hlt⟩, f1.trans f2⟩
  · refine StK.fld hb (by show 0 + 1 < 2; omega) rfl fun w2 hb2 f2 _ => ?_
    exact ⟨rfl, ⟨u, by rw [hb2, e]; simp, kp w2 f2, hc, hlt⟩, f1.trans f2⟩

theorem tx_len (z : Bool) (size : Nat) (hs : size ≤ 2) (s : TkS) : (txF z size s).1.length ≤ 65535 := by
  have hb : big (tkF z size s).1 ≤ 65535 := by
    have hl2 : (tkF z size s).1.length ≤ 2 := by
      unfold tkF; split
      · dsimp only; split <;> simp <;> omega
      · dsimp only; rw [List.length_take]; omega
    have h1 := big_lt (tkF z size s).1
    have h2 : 256 ^ (tkF z size s).1.length ≤ 256 ^ 2 := Nat.pow_le_pow_right (by decide) hl2
    have : (256 : Nat) ^ 2 = 65536 := by decide
    omega
  unfold txF
  generalize (tkF z size s).2 = t
  generalize big (tkF z size s).1 = n at *
  unfold tkF
  split
  · dsimp only; split <;> simp; omega
  · dsimp only; rw [List.length_take]; omega

theorem tk_term {w : World} {g n0 : Nat} {s : TkS} (h : IsTk 175 w g n0 s) (hg : n0 ≤ g) : Ret Tryz.prog 133 #[.pointer (some ⟨g, 0, none⟩)] w fun r w' =>
    r = (teF false s).1.v ∧ IsTk 175 w' g n0 (teF false s).2 ∧ Fr (only g) w w' := by
  refine c133 _ w _ ?_
  unfold C133
  refine CallK.of (tk_text h hg 2 (by decide)) ?_
  rintro _ w1 ⟨rfl, h1, f1⟩
  have hl := tx_len false 2 (by decide) s
  unfold teF
  generalize txF false 2 s = x at *
  refine ⟨_, rfl, ?_⟩
  refine CallK.of (rterm_spec x.1 (by omega) w1) ?_
  rintro _ w2 ⟨rfl, f2⟩
  refine ⟨((readT x.1).1.v, (readT x.1).2.1, (readT x.1).2.2, ()), rfl, ?_⟩
  obtain ⟨u, hb, hu, hc, hlt⟩ := h1.keep0 f2
  have kp : ∀ w3, Fr (only g) w2 w3 → RdB w3 u x.2.1 := fun w3 f3 => hu.keepE f3 fun hn k hk t => by have := hlt hn k hk; have : k = g := t; omega
  refine LdK.fld hb (x := x.2.2) rfl ?_
  have f12 : Fr (only g) w w2 := f1.then0 f2
  refine ifB.by (fun e => ?_) (fun e => ?_)
  · refine StK.fld hb (by show 0 + 1 < 2; omega) rfl fun w3 hb3 f3 _ => ?_
    exact ⟨rfl, ⟨u, by rw [hb3, e]; rfl, kp w3 f3, hc, hlt⟩, f12.trans f3⟩
  · refine StK.fld hb (by show 0 + 1 < 2; omega) rfl fun w3 hb3 f3 _ => ?_
    exact ⟨rfl, ⟨u, by rw [hb3, e]; simp, kp w3 f3, hc, hlt⟩, f12.trans f3⟩

/-! ### A field, the event -/
def evMc (m : EvM) : Obj := .cells (evL' m) 36 (0, 0)
  where evL' (m : EvM) : Array Value := #[.int .i64 m.1, .string (str m.2.1), .string (str m.2.2.1), .string (str m.2.2.2.1), .string (str m.2.2.2.2.1), .int .i64 m.2.2.2.2.2.1, .int .i64 m.2.2.2.2.2.2.1, m.2.2.2.2.2.2.2.v]

theorem both_of {g b : Nat} {w w1 w2 : World} (f1 : Fr (only g) w w1) (f2 : Fr (only b) w1 w2) : Fr (fun k => k = g ∨ k = b) w w2 := (f1.mono fun k _ t => .inl t).trans (f2.mono fun k _ t => .inr t)

theorem tk_field {w : World} {g b n0 : Nat} {x : TkS × EvM} (h : IsTk 175 w g n0 x.1) (hg : n0 ≤ g) (hb : w.heap[b]? = some (evMc x.2)) (hn : n0 ≤ b) (hgb : b ≠ g) (c : UInt8) (hc : c = 73 ∨ c = 78 ∨ c = 76 ∨ c = 67 ∨ c = 68 ∨ c = 86 ∨ c = 84) :
    Ret Tryz.prog 99 #[.pointer (some ⟨g, 0, none⟩), .pointer (some ⟨b, 0, none⟩), .int .i32 (u8I c)] w fun r w' =>
      r = .tuple #[] ∧ IsTk 175 w' g n0 (evStep false x c).1 ∧ w'.heap[b]? = some (evMc (evStep false x c).2) ∧ Fr (fun k => k = g ∨ k = b) w w' := by
  refine c99 _ _ _ w _ ?_
  unfold C99
  have hd : ∀ (a : UInt8) (n : Int), u8I a = n → c ≠ a → (u8I c == n) = false := fun a n ha hne => by
    subst ha
    unfold u8I
    have : c.toNat ≠ a.toNat := fun t => hne (UInt8.toNat_inj.1 t)
    simp; omega
  have num : ∀ (o : Nat) (ho : o < 8) (m' : EvM) (hm : ((evMc.evL' x.2).setIfInBounds o (.int .i64 (nuF false x.1).1)) = evMc.evL' m') (hs : evStep false x c = ((nuF false x.1).2, m')),
      CallK Tryz.prog 132 #[.pointer (some ⟨g, 0, none⟩)] w (.v (.one (.int .i64))) (fun (x1 : Int) w2 => StK ((⟨b, 0, none⟩ : Addr).add o) (.int .i64 x1) w2 (fun w3 => (Value.tuple #[]) = .tuple #[] ∧ IsTk 175 w3 g n0 (evStep false x c).1 ∧ w3.heap[b]? = some (evMc (evStep false x c).2) ∧ Fr (fun k => k = g ∨ k = b) w w3)) := fun o ho m' hm hs => by
    refine CallK.of (tk_num h hg) ?_
    rintro _ w1 ⟨rfl, h1, f1⟩
    refine ⟨_, rfl, ?_⟩
    have hb1 := f1.keep1 hb hgb
    refine StK.fld hb1 (by show 0 + o < 8; omega) rfl fun w2 hb2 f2 _ => ?_
    rw [hs]
    refine ⟨rfl, h1.keep f2 (fun t => by have : g = b := t; omega) (fun k t => by have : k = b := t; omega), ?_, both_of f1 f2⟩
    rw [hb2, Nat.zero_add, hm]; rfl
  have txt : ∀ (o : Nat) (ho : o < 8) (m' : EvM) (hm : ((evMc.evL' x.2).setIfInBounds o (.string (str (txF false 1 x.1).1))) = evMc.evL' m') (hs : evStep false x c = ((txF false 1 x.1).2, m')),
      CallK Tryz.prog 134 #[.pointer (some ⟨g, 0, none⟩), .int .i64 1] w (.v (.one .str)) (fun (x1 : ByteArray) w2 => StK ((⟨b, 0, none⟩ : Addr).add o) (.string x1) w2 (fun w3 => (Value.tuple #[]) = .tuple #[] ∧ IsTk 175 w3 g n0 (evStep false x c).1 ∧ w3.heap[b]? = some (evMc (evStep false x c).2) ∧ Fr (fun k => k = g ∨ k = b) w w3)) := fun o ho m' hm hs => by
    refine CallK.of (tk_text h hg 1 (by decide)) ?_
    rintro _ w1 ⟨rfl, h1, f1⟩
    refine ⟨_, rfl, ?_⟩
    have hb1 := f1.keep1 hb hgb
    refine StK.fld hb1 (by show 0 + o < 8; omega) rfl fun w2 hb2 f2 _ => ?_
    rw [hs]
    refine ⟨rfl, h1.keep f2 (fun t => by have : g = b := t; omega) (fun k t => by have : k = b := t; omega), ?_, both_of f1 f2⟩
    rw [hb2, Nat.zero_add, hm]; rfl
  rcases hc with rfl | rfl | rfl | rfl | rfl | rfl | rfl
  · exact ifB.f (by decide) (ifB.f (by decide) (ifB.f (by decide) (ifB.t (by decide) (txt 1 (by decide) _ rfl rfl))))
  · exact ifB.f (by decide) (ifB.f (by decide) (ifB.f (by decide) (ifB.f (by decide) (ifB.t (by decide) (txt 2 (by decide) _ rfl rfl)))))
  · exact ifB.f (by decide) (ifB.f (by decide) (ifB.f (by decide) (ifB.f (by decide) (ifB.f (by decide) (ifB.t (by decide) (txt 3 (by decide) _ rfl rfl))))))
  · exact ifB.f (by decide) (ifB.f (by decide) (ifB.f (by decide) (ifB.f (by decide) (ifB.f (by decide) (ifB.f (by decide) (ifB.t (by decide) (txt 4 (by decide) _ rfl rfl)))))))
  · exact ifB.t (by decide) (num 5 (by decide) _ rfl rfl)
  · exact ifB.f (by decide) (ifB.t (by decide) (num 6 (by decide) _ rfl rfl))
  · refine ifB.f (by decide) (ifB.f (by decide) (ifB.t (by decide) ?_))
    refine CallK.of (tk_term h hg) ?_
    rintro _ w1 ⟨rfl, h1, f1⟩
    refine ⟨_, rfl, ?_⟩
    have hb1 := f1.keep1 hb hgb
    refine ⟨Tm.v_cells _, StsK.one hb1 (by show 7 < 8; omega) (Tm.v_one _) fun w2 hb2 f2 _ => ?_⟩
    refine ⟨rfl, h1.keep f2 (fun t => by have : g = b := t; omega) (fun k t => by have : k = b := t; omega), ?_, both_of f1 f2⟩
    rw [hb2]; rfl

/-! ### What was taken is small -/
def smallM (m : EvM) : Prop := m.2.1.length ≤ 65535 ∧ m.2.2.1.length ≤ 65535 ∧ m.2.2.2.1.length ≤ 65535 ∧ m.2.2.2.2.1.length ≤ 65535 ∧ nodesT m.2.2.2.2.2.2.2 ≤ 1000000
theorem read_small (bs : List UInt8) : nodesT (readT bs).1 ≤ 1000000 := by
  unfold readT
  split
  · show nodesT .none ≤ _; decide
  split
  · show nodesT .none ≤ _; decide
  · rename_i h _
    exact con_small (Classical.not_not.1 h)
theorem step_small (z : Bool) (x : TkS × EvM) (c : UInt8) (h : smallM x.2) : smallM (evStep z x c).2 := by
  obtain ⟨h1, h2, h3, h4, h5⟩ := h
  have ht := tx_len z 1 (by decide) x.1
  unfold evStep
  repeat' split
  · exact ⟨h1, h2, h3, h4, h5⟩
  · exact ⟨h1, h2, h3, h4, h5⟩
  · exact ⟨h1, h2, h3, h4, read_small _⟩
  · exact ⟨ht, h2, h3, h4, h5⟩
  · exact ⟨h1, ht, h3, h4, h5⟩
  · exact ⟨h1, h2, ht, h4, h5⟩
  · exact ⟨h1, h2, h3, ht, h5⟩
theorem fold_small (z : Bool) : ∀ (l : List UInt8) (x : TkS × EvM), smallM x.2 → smallM (l.foldl (evStep z) x).2
  | [], x, h => h
  | c :: l, x, h => fold_small z l _ (step_small z x c h)
theorem takeM_small (z : Bool) (bs : List UInt8) : smallM (takeM z bs).2 := fold_small z _ _ ⟨by simp, by simp, by simp, by simp, by show nodesT .none ≤ _; decide⟩
theorem smallM.e {m : EvM} (h : smallM m) : smallE m.e := by
  obtain ⟨h1, h2, h3, h4, h5⟩ := h
  exact ⟨by show (str _).size ≤ _; rw [str_size]; omega, by show (str _).size ≤ _; rw [str_size]; omega, by show (str _).size ≤ _; rw [str_size]; omega, by show (str _).size ≤ _; rw [str_size]; omega⟩
theorem ifc_v (t : Tm) : ifcT t.v := by cases t <;> first | (exact .inl rfl) | (exact .inr ⟨_, _, rfl⟩)

/-- An event packed, of a tree. -/
theorem pack_m (m : EvM) (h : smallM m) (w : World) (ht : TabW w) : Ret Tryz.prog 59 #[evA m.e] w fun r w' => ∃ v : Sl, r = .tuple #[.slice v.1 v.2.1 v.2.2, .int .i64 (packM m).2] ∧ IsB w' v (packM m).1 ∧ Fr none1 w w' ∧ ∀ k, blkOf v k → w.heap.size ≤ k := by
  have hl := write_short m.t
  exact event_spec m.e (ifc_v m.t) h.e (writeT m.t).1 (by omega) (writeT m.t).2 w fun _ w1 f => wterm_spec m.t h.2.2.2.2 w1 (ht.keep0 f)

/-! ### Equal bytes -/
theorem nums_str (bs : List UInt8) : Go.strOfNums (bs.map fun b => (b.toNat : Int)) = str bs := by
  unfold Go.strOfNums str
  congr 1
  rw [List.map_map]
  congr 1
  conv => rhs; rw [← List.map_id bs]
  refine List.map_congr_left fun b _ => ?_
  simp
theorem nums_bytes (bs : List UInt8) : Lib.bytesOf (bs.map fun b => (b.toNat : Int)) = bs := by
  unfold Lib.bytesOf
  rw [List.map_map]
  conv => rhs; rw [← List.map_id bs]
  refine List.map_congr_left fun b _ => ?_
  simp
theorem bequal_spec {w : World} {v u : Sl} {bs cs : List UInt8} (h : RdB w v bs) (h' : RdB w u cs) : Ret Tryz.prog 41 #[.slice v.1 v.2.1 v.2.2, .slice u.1 u.2.1 u.2.2] w fun r w' => r = .bool (bs == cs) ∧ w = w' := by
  refine (Tryz.bytes_Equal _ _ (bs.map fun b => (b.toNat : Int)) (cs.map fun b => (b.toNat : Int)) w (by rw [nums_str]; exact txt_of h) (by rw [nums_str]; exact txt_of h')).mono ?_
  rintro e w' ⟨rfl, rfl⟩
  exact ⟨_, rfl, by rw [nums_bytes, nums_bytes], rfl⟩

theorem ord_mem {c : UInt8} {k : Int} (h : c ∈ fieldL k) : c = 73 ∨ c = 78 ∨ c = 76 ∨ c = 67 ∨ c = 68 ∨ c = 86 ∨ c = 84 := by
  have := (List.mem_filter.1 h).1
  simpa [ordL] using this

theorem take_spec {w : World} {v : Sl} {bs : List UInt8} (h : RdB w v bs) (hc : v.2.1 ≤ v.2.2) (ht : TabW w) : Ret Tryz.prog 68 #[.slice v.1 v.2.1 v.2.2] w fun r w' =>
    r = .tuple #[evA (takeP false bs).1.e, .int .i64 (takeP false bs).2] ∧ Fr none1 w w' := by
  refine c68 v.1 v.2.1 v.2.2 w _ ?_
  unfold C68
  refine NewK.of fun g1 w1 hg1 hb1 f1 hs1 => NewK.of fun g3 w2 hg3 hb3 f2 hs2 => NewK.of fun g5 w3 hg5 hb5 f3 hs3 => ?_
  have hb5' : w3.heap[g5]? = some (.cells (evL zeroM.e).toArray 36 (0, 0)) := hb5
  refine StsK.blk (cs := evL zeroM.e) (vs := evL zeroM.e) hb5' rfl rfl fun w4 hb54 f4 hs4 => ?_
  have f13 := (f1.trans f2).trans f3
  have f14 : Fr none1 w w4 := f13.fresh f4 (by have := f13.size; omega)
  have hb34 : w4.heap[g3]? = _ := f4.keep (f3.keep0 hb3) (fun t => by have : g3 = g5 := t; omega)
  have hb14 : w4.heap[g1]? = some (.cells (evL zeroM.e).toArray 36 (0, 0)) := f4.keep (f3.keep0 (f2.keep0 hb1)) (fun t => by have : g1 = g5 := t; omega)
  have tk4 : IsTk 175 w4 g3 w.heap.size (bs, false) := ⟨v, hb34, h.keep0 f14, hc, fun hn k hk => h.ltE hn hk⟩
  refine CallK.of (tk_take tk4 (by omega) 1) ?_
  rintro _ w5 ⟨x8, rfl, hx, hxb, tk5, f5⟩
  refine ⟨x8, rfl, ?_⟩
  have hb55 : w5.heap[g5]? = some (evMc zeroM) := f5.keep1 hb54 (by omega)
  have hb15 := f5.keep1 hb14 (by omega)
  have f15 : Fr none1 w w5 := f14.fresh f5 (by omega)
  have hxl : (tkF false 1 (bs, false)).1.length ≤ 1 := by
    unfold tkF; split
    · simp
    · dsimp only; rw [List.length_take]; omega
  have hM : takeM false bs = (fieldL (big (tkF false 1 (bs, false)).1 : Int)).foldl (evStep false) ((tkF false 1 (bs, false)).2, ((big (tkF false 1 (bs, false)).1 : Int), [], [], [], [], 0, 0, .none)) := rfl
  have hsm := takeM_small false bs
  have hP : takeP false bs = if takeOk false bs = true then ((takeM false bs).2, 0) else (zeroM, 2) := rfl
  have hO : takeOk false bs = (!(takeM false bs).1.2 && ((packM (takeM false bs).2).2 == 0 && ((packM (takeM false bs).2).1 == bs && (!false || (takeM false bs).1.1 == [])))) := rfl
  generalize takeP false bs = P at *
  generalize takeOk false bs = O at *
  generalize takeM false bs = M at *
  generalize tkF false 1 (bs, false) = x at *
  have hxlen := hx.len
  refine LoopK.of (fun st w' => ∃ i : Nat, st.1 = i ∧ i ≤ x.1.length ∧ w'.heap[g5]? = some (evMc ((big (x.1.take i) : Int), [], [], [], [], 0, 0, .none)) ∧ Fr (only g5) w5 w') (fun st _ => (1 - st.1).toNat) ⟨0, rfl, by omega, hb55, Fr.refl _ _⟩ ?_
  rintro _ ⟨i', _⟩ w6 ⟨i, hi, hil, hb56, f6⟩
  dsimp only at hi ⊢
  subst hi
  have hx6 : RdB w6 x8 x.1 := hx.keepE f6 fun hn k hk t => by have := hxb hn k hk; have : k = g5 := t; omega
  have tk6 := tk5.keep f6 (fun t => by have : g3 = g5 := t; omega) (fun k t => by have : k = g5 := t; omega)
  have hb16 := f6.keep1 hb15 (by omega)
  refine ifB.dec (fun hlt => ?_) (fun hge => ?_)
  · refine RdB.at hx6 (by omega) hlt ?_
    have hb := (x.1.getD (Int.toNat (i : Int)) 0).toNat_lt
    refine StK.fld hb56 (by show 0 + 0 < 8; omega) rfl fun w7 hb57 f7 _ => ?_
    rw [wI (by omega) (by omega)] at hb57
    refine ⟨⟨i + 1, by rw [wI (by omega) (by omega)]; omega, by omega, ?_, f6.trans f7⟩, by rw [wI (by omega) (by omega)]; omega⟩
    have hi0 : i = 0 := by omega
    subst hi0
    rw [hb57, big_take x.1 0 (by omega)]
    show some (Obj.cells _ _ _) = some (Obj.cells _ _ _)
    simp [evMc.evL', big]
  rw [List.take_of_length_le (by omega)] at hb56
  clear hx hx6 hxb
  refine LdK.fld hb56 (x := (big x.1 : Int)) rfl ?_
  refine CallK.of (fields_spec (big x.1 : Int) w6) ?_
  rintro _ w7 ⟨fv, rfl, hfv, f7, ff⟩
  refine ⟨fv, rfl, ?_⟩
  have s5 := f15.size; have s6 := f6.size; have s7 := f7.size
  have hb57 := f7.keep0 hb56
  have hb17 := f7.keep0 hb16
  have tk7 := tk6.keep0 f7
  have f17 : Fr none1 w w7 := (f15.fresh f6 (by omega)).trans f7
  have hfl := hfv.len
  rw [List.length_map] at hfl
  have hl7 : (fieldL (big x.1 : Int)).length ≤ 7 := by unfold fieldL; exact Nat.le_trans (List.length_filter_le _ _) (by decide)
  have hmem : ∀ c ∈ fieldL (big x.1 : Int), c = 73 ∨ c = 78 ∨ c = 76 ∨ c = 67 ∨ c = 68 ∨ c = 86 ∨ c = 84 := fun c h => ord_mem h
  generalize fieldL (big x.1 : Int) = L at *
  obtain ⟨X, hX⟩ : ∃ X : TkS × EvM, X = (x.2, ((big x.1 : Int), [], [], [], [], 0, 0, .none)) := ⟨_, rfl⟩
  rw [← hX] at hM
  have tk7 : IsTk 175 w7 g3 w.heap.size X.1 := by rw [hX]; exact tk7
  have hb57 : w7.heap[g5]? = some (evMc X.2) := by rw [hX]; exact hb57
  refine LoopK.of (fun st w' => ∃ i : Nat, st.1 = i ∧ i ≤ L.length ∧ IsTk 175 w' g3 w.heap.size ((L.take i).foldl (evStep false) X).1 ∧ w'.heap[g5]? = some (evMc ((L.take i).foldl (evStep false) X).2) ∧ Fr (fun k => k = g3 ∨ k = g5) w7 w') (fun st _ => (L.length - st.1).toNat) ⟨0, rfl, by omega, tk7, hb57, Fr.refl _ _⟩ ?_
  rintro _ ⟨i', _⟩ w8 ⟨i, hi, hil, tk8, hb58, f8⟩
  dsimp only at hi ⊢
  subst hi
  have hfv8 : IsR w8 fv (L.map u8I) := IsSl.keep hfv f8 fun k hk t => by have := ff k hk; have h5 := lt_of_blk hb56; rcases t with t | t <;> omega
  refine ifB.dec (fun hlt => ?_) (fun hge => ?_)
  · have hilt : i < L.length := by omega
    refine IsR.ld hfv8 (by omega) hlt ?_
    obtain ⟨c, hc⟩ : ∃ c, L[i]? = some c := ⟨_, List.getElem?_eq_getElem hilt⟩
    have hcv : (L.map u8I).getD (Int.toNat (i : Int)) 0 = u8I c := by
      rw [Int.toNat_natCast, List.getD_eq_getElem?_getD, List.getElem?_map, hc]; rfl
    rw [hcv]
    refine CallK.of (tk_field tk8 (by omega) hb58 (by omega) (by omega) c (hmem c (List.mem_of_getElem? hc))) ?_
    rintro _ w9 ⟨rfl, tk9, hb59, f9⟩
    refine ⟨(), rfl, ⟨i + 1, by rw [wI (by omega) (by omega)]; omega, by omega, ?_, ?_, f8.trans f9⟩, by rw [wI (by omega) (by omega)]; omega⟩
    · rw [List.take_add_one, hc, List.foldl_append]; exact tk9
    · rw [List.take_add_one, hc, List.foldl_append]; exact hb59
  rw [List.take_of_length_le (by omega), ← hM] at tk8 hb58
  have f18 : Fr none1 w w8 := f17.comp f8 fun k hk t => by rcases t with t | t <;> omega
  have hb18 : w8.heap[g1]? = _ := f8.keep hb17 (fun t => by rcases t with t | t <;> omega)
  refine LdsK.blk (cks := EK) (x := M.2.e) hb58 ?_
  refine CallK.of (pack_m M.2 hsm w8 (ht.keep0 f18)) ?_
  rintro _ w9 ⟨u, rfl, hu, f9, uf⟩
  refine ⟨(u, (packM M.2).2, ()), rfl, ?_⟩
  have hb19 := f9.keep0 hb18
  have hb59 := f9.keep0 hb58
  have f19 := f18.trans f9
  have fail : O = false → ∀ w10, w10.heap[g1]? = some (.cells (evL zeroM.e).toArray 36 (0, 0)) → Fr none1 w w10 → StsK ⟨g1, 0, none⟩ (evL zeroM.e) w10 (fun w30 => LdsK EK ⟨g1, 0, none⟩ w30 (fun (y : EvT) => (Value.tuple #[evA y, .int .i64 2]) = .tuple #[evA P.1.e, .int .i64 P.2] ∧ Fr none1 w w30)) := fun ho w10 hb f10 => by
    rw [hP, ho]
    refine StsK.blk (cs := evL zeroM.e) (vs := evL zeroM.e) hb rfl rfl fun w11 hb11 f11 _ => LdsK.blk (cks := EK) (x := zeroM.e) hb11 ?_
    exact ⟨rfl, f10.fresh f11 (by omega)⟩
  obtain ⟨ru, hrb, hru, hrc, hrl⟩ := tk8.keep0 f9
  refine LdK.fld hrb (x := M.1.2) rfl ?_
  refine ifB.by (fun e => fail (by rw [hO, e]; rfl) w9 hb19 f19) (fun e => ?_)
  dsimp only
  refine ifB.ne (fun hne => fail (by rw [hO, e]; simp [hne]) w9 hb19 f19) (fun he => ?_)
  refine CallK.of (bequal_spec hu.rd (h.keep0 f19)) ?_
  rintro _ _ ⟨rfl, rfl⟩
  refine ⟨_, rfl, ifB.not (ifB.by (fun eq => ?_) (fun ne => fail (by rw [hO, ne]; simp) w9 hb19 f19))⟩
  have ho : O = true := by rw [hO, e, he, eq]; rfl
  rw [hP, ho]
  refine LdsK.blk (cks := EK) (x := M.2.e) hb59 ?_
  refine StsK.blk (cs := evL zeroM.e) (vs := evL M.2.e) hb19 rfl (evL_one (Tm.v_one _)) fun w10 hb110 f10 _ => LdsK.blk (cks := EK) (x := M.2.e) hb110 ?_
  exact ⟨rfl, f19.fresh f10 (by omega)⟩

end Go.Proofs.YtdphmcanlhcokaaGreatDoor

/-! ### CKName -/
namespace Go.Proofs.YtdphmcanlhcokaaGreatDoor
open Vc
set_option maxRecDepth 100000
set_option linter.unusedVariables false
/-- handfast/handfastkeep.Name -/
def C79 (p0 : ByteArray) (p1 : Int) (p2 : Int) (w : World) (K : Value → World → Prop) : Prop :=
  CallK Tryz.prog 14 #[.int .i64 p1, .int .i64 p2] w (.v (.one (.int .i64))) (fun (x1 : Int) w2 => RunK Tryz.prog (Instr.buildSlice 22 1 #[(0, .int .u8 (IntKind.u8.wrap (IntKind.i64.wrap (97 + x1))))]) w2 (.v (.one .slc)) (fun (x3 : SlT) w4 => RunK Tryz.prog (convert 22 9 (.slice x3.1 x3.2.1 x3.2.2)) w4 (.v (.one .str)) (fun (x5 : ByteArray) w6 => CatK p0 x5 (K (.string (p0 ++ x5)) w6))))
def pl79 : Plan := .auto
theorem e79 (p0 : ByteArray) (p1 : Int) (p2 : Int) (w : World) (K : Value → World → Prop) : vcFunc Tryz.prog Tryz.f79 pl79 [.string p0, .int .i64 p1, .int .i64 p2] w K = C79 p0 p1 p2 w K := by kernel_rfl
theorem c79 (p0 : ByteArray) (p1 : Int) (p2 : Int) (w : World) (K : Value → World → Prop) (h : C79 p0 p1 p2 w K) : Ret Tryz.prog 79 #[.string p0, .int .i64 p1, .int .i64 p2] w K := by
  rw [← e79] at h
  exact vcFunc_sound (by kernel_rfl) Tryz.func79 h

end Go.Proofs.YtdphmcanlhcokaaGreatDoor

/-! ### KName -/
set_option linter.unusedVariables false
set_option maxRecDepth 100000
namespace Go.Proofs.YtdphmcanlhcokaaGreatDoor
open Vc

theorem cat_few {a b : ByteArray} {K : Prop} (h : a.size + b.size ≤ 1000000) (k : K) : CatK a b K := ⟨by show ((a.size + b.size : Nat) : Int) ≤ 9223372036854775807; omega, k⟩
theorem elem_u8' : ElemOk Tryz.prog 22 5 1 (.int .u8 0) 1 := ⟨Tryz.underlying22, ⟨Tryz.t5, by kernel_rfl, rfl, rfl, rfl⟩, rfl, by decide⟩

theorem kname_spec (hd : List UInt8) (n of : Int) (h1 : 1 ≤ of) (h2 : of ≤ 26) (hl : hd.length ≤ 1000) (w : World) : Ret Tryz.prog 79 #[.string (str hd), .int .i64 n, .int .i64 of] w fun r w' =>
    r = .string (str (hd ++ [UInt8.ofNat (97 + (within n of).toNat)])) ∧ Fr none1 w w' := by
  refine c79 (str hd) n of w _ ?_
  refine CallK.of (within_spec n of w (by omega)) ?_
  rintro _ _ ⟨rfl, rfl⟩
  refine ⟨_, rfl, ?_⟩
  have hlo := within_lo n of
  have hhi := within_hi n h1
  have e : IntKind.u8.wrap (IntKind.i64.wrap (97 + within n of)) = ((UInt8.ofNat (97 + (within n of).toNat)).toNat : Int) := by
    rw [wI (by omega) (by omega), IntKind.wrap_u8, u8_of (by omega)]; omega
  rw [e]
  obtain ⟨v, w1, r1, hv, hl1, f1, _⟩ := one_ok (P := Tryz.prog) (w := w) elem_u8' (.int .u8 ((UInt8.ofNat (97 + (within n of).toNat)).toNat : Int)) rfl
  refine ⟨v, w1, r1, ?_⟩
  have hr := IsSl.rd hv
  cases hx : v.1 with
  | none => have := (hr.2.1 hx).1; omega
  | some a =>
    have hc := hr.2.2 a hx
    have r2 := run_convert_bytes_back w1 22 9 5 a v.2.2 [UInt8.ofNat (97 + (within n of).toNat)] Tryz.underlying22 Tryz.underlying5 Tryz.underlying9 (fun j hj => by
      have : j = 0 := by simpa using hj
      subst this
      exact hc.1)
    refine ⟨str [UInt8.ofNat (97 + (within n of).toNat)], w1, ?_, ?_⟩
    · rw [hl1]
      exact r2
    · refine cat_few (by rw [str_size, str_size]; simp; omega) ?_
      rw [str_app]
      exact ⟨rfl, f1⟩

end Go.Proofs.YtdphmcanlhcokaaGreatDoor

/-! ### VcCmd -/
set_option linter.unusedVariables false
namespace Go.Proofs.YtdphmcanlhcokaaGreatDoor
namespace Vc
variable {P : Program}

abbrev CmV := Int × Int × Int × Int × Int × ByteArray × (Option Addr × Nat × Nat) × (Option Addr × Nat × Nat) × Unit
def cmL (c : CmV) : List Value := [.int .i64 c.1, .int .i64 c.2.1, .int .i64 c.2.2.1, .int .i64 c.2.2.2.1, .int .i64 c.2.2.2.2.1, .string c.2.2.2.2.2.1, .slice c.2.2.2.2.2.2.1.1 c.2.2.2.2.2.2.1.2.1 c.2.2.2.2.2.2.1.2.2, .slice c.2.2.2.2.2.2.2.1.1 c.2.2.2.2.2.2.2.1.2.1 c.2.2.2.2.2.2.2.1.2.2]
def cmPl (c : CmV) : PlV := (c.2.2.2.2.2.2.1, c.2.2.2.2.2.2.2.1, ())
/-- A command that came in: its plan's numbers and words are there. -/
def IsCm (w : World) (c : CmV) : Prop := IsPl w (cmPl c) ∧ (Lit.int .i64 c.1).wf = true ∧ (Lit.int .i64 c.2.1).wf = true ∧ (Lit.int .i64 c.2.2.1).wf = true ∧ (Lit.int .i64 c.2.2.2.1).wf = true ∧ (Lit.int .i64 c.2.2.2.2.1).wf = true ∧ c.2.2.2.2.2.1.size ≤ maxLen

theorem open_cmd {H : Type} {enc : TypeId × Value → H} {w : World} {base : Nat} {held : Bool} {t ti ts tp t0 t1 e0 e1 : TypeId} {f0 f1 f2 f3 f4 f5 f6 g0 g1 : Field} {fuel : Nat} {cs : List Value} {x : DataW H × List MemPlace}
    (ht : P.underlying t = some (.struct #[f0, f1, f2, f3, f4, f5, f6]))
    (q0 : f0.type = ti ∧ f0.offset = 0) (q1 : f1.type = ti ∧ f1.offset = 1) (q2 : f2.type = ti ∧ f2.offset = 2) (q3 : f3.type = ti ∧ f3.offset = 3) (q4 : f4.type = ti ∧ f4.offset = 4) (q5 : f5.type = ts ∧ f5.offset = 5) (q6 : f6.type = tp ∧ f6.offset = 6)
    (hti : P.underlying ti = some (.int .i64)) (hts : P.underlying ts = some .string) (htp : P.underlying tp = some (.struct #[g0, g1])) (hg0 : g0.type = t0) (hg1 : g1.type = t1) (ho0 : g0.offset = 0) (ho1 : g1.offset = 1)
    (hc : P.cellsOf t = 8) (hci : P.cellsOf ti = 1) (hcs : P.cellsOf ts = 1) (hcp : P.cellsOf tp = 2) (hc0 : P.cellsOf t0 = 1) (hc1 : P.cellsOf t1 = 1)
    (h0 : P.underlying t0 = some (.slice e0)) (h1 : P.underlying t1 = some (.slice e1)) (k0 : P.underlying e0 = some (.int .i64)) (k1 : P.underlying e1 = some .string) (d0 : P.cellsOf e0 = 1) (d1 : P.cellsOf e1 = 1)
    (h : DataW.trod enc P w base (fun _ => true) held fuel t cs = some x) : ∃ c : CmV, cs = cmL c ∧ IsCm w c := by
  obtain ⟨xs, n, _, _, hl, hlen, hf⟩ := DataW.trod_struct ht h
  rw [hc] at hl
  match xs, hlen with
  | [y0, y1, y2, y3, y4, y5, y6], _ =>
    match cs, hl with
    | [c0, c1, c2, c3, c4, c5, c6, c7], _ =>
      have a0 := hf 0 f0 rfl
      have a1 := hf 1 f1 rfl
      have a2 := hf 2 f2 rfl
      have a3 := hf 3 f3 rfl
      have a4 := hf 4 f4 rfl
      have a5 := hf 5 f5 rfl
      have a6 := hf 6 f6 rfl
      rw [q0.1, q0.2, hci] at a0
      rw [q1.1, q1.2, hci] at a1
      rw [q2.1, q2.2, hci] at a2
      rw [q3.1, q3.2, hci] at a3
      rw [q4.1, q4.2, hci] at a4
      rw [q5.1, q5.2, hcs] at a5
      rw [q6.1, q6.2, hcp] at a6
      simp only [List.drop_zero, List.drop_succ_cons, List.take_succ_cons, List.take_zero, List.getElem?_cons_zero, List.getElem?_cons_succ] at a0 a1 a2 a3 a4 a5 a6
      obtain ⟨z0, e0, _, w0⟩ := DataW.trod_int hti a0
      obtain ⟨z1, e1, _, w1⟩ := DataW.trod_int hti a1
      obtain ⟨z2, e2, _, w2⟩ := DataW.trod_int hti a2
      obtain ⟨z3, e3, _, w3⟩ := DataW.trod_int hti a3
      obtain ⟨z4, e4, _, w4⟩ := DataW.trod_int hti a4
      obtain ⟨s5, e5, _, w5⟩ := DataW.trod_string hts a5
      obtain ⟨p, ep, hp⟩ := open_plan htp hg0 hg1 ho0 ho1 hcp hc0 hc1 h0 h1 k0 k1 d0 d1 a6
      simp only [List.cons.injEq, and_true] at e0 e1 e2 e3 e4 e5 ep
      obtain ⟨p1, p2⟩ := ep
      subst e0; subst e1; subst e2; subst e3; subst e4; subst e5; subst p1; subst p2
      exact ⟨(z0, z1, z2, z3, z4, s5, p.1, p.2.1, ()), rfl, hp, w0, w1, w2, w3, w4, w5⟩

end Vc
end Go.Proofs.YtdphmcanlhcokaaGreatDoor
