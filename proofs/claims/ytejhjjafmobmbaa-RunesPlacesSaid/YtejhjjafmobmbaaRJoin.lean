/-
  RunesJoin: names put together with signs and blanks between are these names and signs, at their places.
  Conditions: none beyond the statement's own.
-/
import Derived.Test.YtejhjjafmobmbaaRBad
import Derived.Test.YtejhjjafmobmbaaCRJoin
set_option linter.unusedVariables false
set_option maxRecDepth 100000
namespace Go.Proofs.Ytejhjjafmobmbaa
open Vc

/-! ### Plain -/
theorem sgF_blank (W : List SignV) (X : List Int) : ∀ (k : Nat) (at_ : Int), sgF W at_ false (List.replicate k 32 ++ X) = sgF W (at_ + k) false X
  | 0, at_ => by simp
  | k + 1, at_ => by
    rw [List.replicate_succ, List.cons_append]
    conv => lhs; unfold sgF
    have e : kd 32 = 32 := rfl
    rw [e, if_neg (by decide), if_neg (by decide), if_neg (by decide), sgF_blank W X k]
    congr 1; omega
theorem sgF_more (W : List SignV) (a : Int) (X : List Int) : ∀ (ls : List Int) (t : List UInt8) (at_ : Int), (∀ r ∈ ls, kd r = 97) → sgF (W ++ [(t, a)]) at_ true (ls ++ X) = sgF (W ++ [(t ++ txt ls, a)]) (at_ + ls.length) true X
  | [], t, at_, _ => by simp [txt_nil]
  | r :: ls, t, at_, h => by
    have h1 := h r (by simp)
    rw [List.cons_append]
    conv => lhs; unfold sgF
    rw [h1, if_neg (by decide), if_pos ⟨rfl, rfl⟩, addLast_of, sgF_more W a X ls _ _ (fun x hx => h x (by simp [hx])), txt_cons, List.append_assoc]
    congr 1
    simp only [List.length_cons]; omega
theorem sgF_word (W : List SignV) (X : List Int) (wd : List Int) (at_ : Int) (hne : wd ≠ []) (h : ∀ r ∈ wd, kd r = 97) : sgF W at_ false (wd ++ X) = sgF (W ++ [(txt wd, at_ + 1)]) (at_ + wd.length) true X := by
  cases wd with
  | nil => exact absurd rfl hne
  | cons r ls =>
    have h1 := h r (by simp)
    rw [List.cons_append]
    conv => lhs; unfold sgF
    rw [h1, if_neg (by decide), if_neg (by simp), if_pos (by decide), show ((97 : Int) == 97) = true from rfl, sgF_more W _ X ls _ _ (fun x hx => h x (by simp [hx])), txt_cons]
    congr 1
    simp only [List.length_cons]; omega
theorem sgF_sign (W : List SignV) (X : List Int) (c : Int) (at_ : Int) (run : Bool) (h : kd c = 40) : sgF W at_ run (c :: X) = sgF (W ++ [(enc c, at_ + 1)]) (at_ + 1) false X := by
  conv => lhs; unfold sgF
  rw [h, if_neg (by decide), if_neg (by simp), if_pos (by decide)]
  rfl
theorem reads_all : ∀ (R X : List Int), (∀ r ∈ R, kd r ≠ 0) → reads (R ++ X) = R.length + reads X
  | [], X, _ => by simp
  | r :: R, X, h => by
    have ih := reads_all R X (fun x hx => h x (by simp [hx]))
    unfold reads at *
    rw [List.cons_append, List.takeWhile_cons_of_pos (by simpa using h r (by simp)), List.length_cons, ih, List.length_cons]
    omega

theorem join_walk (a0 : Option Addr) (l0 c0 : Nat) (z0 : List ByteArray) (a1 : Option Addr) (l1 c1 : Nat) (z1 : List Int) (w : World) (h0 : IsStrs w a0 l0 c0 z0) (h1 : IsInts .i64 w a1 l1 c1 z1) :
    Ret Try.prog 8 #[.slice a0 l0 c0, .slice a1 l1 c1] w fun r w' => r = .bool true ∧ Fr none1 w w' := by
  refine c8 a0 l0 c0 a1 l1 c1 w _ ?_
  unfold C8
  have e0 : (⟨#[]⟩ : ByteArray) = str (txt []) := by rfl
  have e32 : (⟨#[32]⟩ : ByteArray) = str (txt [32]) := by rfl
  have e33 : (⟨#[32, 32]⟩ : ByteArray) = str (txt [32, 32]) := by rfl
  rw [e0, e32, e33]
  have F0 : Fr none1 w w := Fr.refl _ _
  refine LoopK.of (fun s w' => 0 ≤ s.2.2.2.1 ∧ s.2.2.2.1 ≤ 6 ∧ ∃ (R : List Int) (W : List SignV), s.1 = str (txt R) ∧ s.2.1 = R.length + 1 ∧ IsSg w' s.2.2.1 W ∧ (∀ k, blkOf s.2.2.1 k → w.heap.size ≤ k) ∧ (W.length : Int) = 2 * s.2.2.2.1 ∧ (R.length : Int) ≤ 14 * s.2.2.2.1 ∧ (∀ r ∈ R, okR r ∧ kd r ≠ 0) ∧ Fr none1 w w' ∧ ∀ X, sgF [] 0 false (R ++ X) = sgF W R.length false X) (fun s _ => (6 - s.2.2.2.1).toNat)
    ⟨Int.le_refl _, by dsimp only; omega, [], [], rfl, rfl, none_sg _, (fun k ⟨a, ha, _⟩ => by cases ha), rfl, by simp, (fun r hr => by simp at hr), F0, fun X => rfl⟩ ?_
  rintro _ ⟨s, n, want, i, _⟩ w2 ⟨i0, i6, R, W, hs, hn, hW, hWf, hWl, hRl, hRok, f2, hsg⟩
  dsimp only at i0 i6 hs hn hW hWf hWl hRl ⊢
  subst hs; subst hn
  refine JoinK.of (fun b w' => w2 = w' ∧ (b.1 = true → i < l0 ∧ i < 6)) (ifB.dec (fun h => ⟨rfl, fun t => ⟨h, of_decide_eq_true t⟩⟩) (fun h => ⟨rfl, fun t => by cases t⟩)) ?_
  rintro _ ⟨b, _⟩ _ ⟨rfl, hb⟩
  dsimp only at hb ⊢
  refine ifB.by (fun hbt => ?_) (fun hbf => ?_)
  · obtain ⟨hil, hi6⟩ := hb hbt
    refine JoinK.of (fun k w' => w2 = w' ∧ 0 ≤ k.1 ∧ k.1 ≤ 3) ?_ ?_
    · refine ifB.dec (fun h => ?_) (fun h => ⟨rfl, by dsimp only; omega, by dsimp only; omega⟩)
      refine IsInts.ld h1 f2 i0 h ?_
      refine CallK.of (within_spec _ 4 w2 (by omega)) ?_
      rintro _ _ ⟨rfl, rfl⟩
      have q1 := within_lo (z1.getD i.toNat 0) 4
      have q2 := within_hi (z1.getD i.toNat 0) (n := 4) (by omega)
      exact ⟨_, rfl, rfl, by dsimp only; omega, by dsimp only; omega⟩
    rintro _ ⟨k, _⟩ _ ⟨rfl, k0, k3⟩
    dsimp only at k0 k3 ⊢
    have hRt := txt_len R
    refine LoopK.of (fun q w' => w2 = w' ∧ 0 ≤ q.2.2.1 ∧ q.2.2.1 ≤ k ∧ q.1 = str (txt (R ++ List.replicate q.2.2.1.toNat 32)) ∧ q.2.1 = R.length + 1 + q.2.2.1) (fun q _ => (k - q.2.2.1).toNat)
      ⟨rfl, Int.le_refl _, k0, by simp, by dsimp only; omega⟩ ?_
    rintro _ ⟨s, n, j, _⟩ _ ⟨rfl, j0, jk, hs, hn⟩
    dsimp only at j0 jk hs hn ⊢
    subst hs; subst hn
    have hRj := txt_len (R ++ List.replicate j.toNat 32)
    rw [List.length_append, List.length_replicate] at hRj
    refine ifB.dec (fun hjk => ?_) (fun hjk => ?_)
    · refine cat_ok (by have : (txt [32]).length = 1 := rfl
                        omega) ?_
      rw [wI (x := (R.length : Int) + 1 + j + 1) (by omega) (by omega), wI (x := j + 1) (by omega) (by omega), str_app, ← txt_append]
      refine ⟨⟨rfl, by omega, by omega, ?_, by omega⟩, by omega⟩
      rw [show (j + 1).toNat = j.toNat + 1 by omega, List.replicate_succ', List.append_assoc]
    have hj : j = k := by omega
    subst hj
    obtain ⟨R1, hR1⟩ : ∃ R1, R ++ List.replicate j.toNat 32 = R1 := ⟨_, rfl⟩
    rw [hR1] at hRj ⊢
    have hR1l : (R1.length : Int) = R.length + j := by rw [← hR1, List.length_append, List.length_replicate]; omega
    have hR1ok : ∀ r ∈ R1, okR r ∧ kd r ≠ 0 := fun r hr => by
      rw [← hR1] at hr
      rcases List.mem_append.1 hr with hr | hr
      · exact hRok r hr
      · obtain rfl := List.eq_of_mem_replicate hr
        exact ⟨by unfold okR; omega, by decide⟩
    have hsg1 : ∀ X, sgF [] 0 false (R1 ++ X) = sgF W R1.length false X := fun X => by
      rw [← hR1, List.append_assoc, hsg, sgF_blank]
      congr 1
      rw [List.length_append, List.length_replicate]; omega
    refine IsStrs.ld h0 f2 i0 hil ?_
    obtain ⟨bs, hbs⟩ : ∃ bs, z0.getD i.toNat ByteArray.empty = str bs := ⟨_, (str_of _).symm⟩
    rw [hbs]
    refine CallK.of (word_spec bs w2) ?_
    rintro _ w3 ⟨rfl, f3⟩
    refine ⟨_, rfl, ?_⟩
    have wok := wordR_ok bs
    have wl := wordR_len bs
    have wne : wordR bs ≠ [] := by unfold wordR; simp
    have wt := txt_len (wordR bs)
    generalize wordR bs = wd at *
    have fw3 := f2.trans f3
    refine sg_snoc (hW.keep0 f3) (txt wd) _ (by omega) fun y w4 hy f4 yf => ?_
    have fw4 : Fr none1 w w4 := fw3.comp f4 (fun k hk t => by have := hWf k t; omega)
    have yf' : ∀ k, blkOf y k → w.heap.size ≤ k := fun k hk => by
      rcases yf k hk with t | t
      · exact hWf k t
      · exact Nat.le_trans fw3.size t
    refine cat_ok (by omega) ?_
    refine range_okS (txt wd) fun r w5 hr hit f5 => ?_
    rw [runes_txt0 wd (fun r hr => (wok r hr).2)] at hit
    have F5 : Fr (only r) w5 w5 := Fr.refl _ _
    refine LoopK.of (fun q w' => ∃ rest : List Int, (R.length : Int) + 1 + j ≤ q.1 ∧ q.1 + rest.length = (R.length : Int) + 1 + j + wd.length ∧ IsIt w' r rest ∧ Fr (only r) w5 w') (fun _ w' => itLen w' r) ⟨wd, Int.le_refl _, by dsimp only, hit, F5⟩ ?_
    rintro _ ⟨m, _⟩ w6 ⟨rest, m0, hm, hit6, f6⟩
    dsimp only at m0 hm ⊢
    refine next_ok hit6 (fun c rest' pos w7 hc hok hit7 f7 => ?_) (fun hnil => ?_)
    · subst hc
      simp only [List.length_cons] at hm
      rw [wI (x := m + 1) (by omega) (by omega)]
      exact ⟨⟨rest', by omega, by omega, hit7, f6.trans f7⟩, by rw [hit7.left, hit6.left]; simp⟩
    subst hnil
    simp only [List.length_nil] at hm
    have hy6 : IsSg w6 y (W ++ [(txt wd, (R.length : Int) + 1 + j)]) := (hy.keep0 f5).keep f6 (fun k hk t => by have := IsSl.lt hy.sl hk; have : k = r := t; omega)
    have fw6 : Fr none1 w w6 := fw4.trans (f5.fresh f6 (by omega))
    refine ⟨by omega, ?_⟩
    -- the sign
    have sign : ∃ c : Int, (c = 40 ∨ c = 41 ∨ c = 44) ∧ ∀ K : ByteArray → Prop, K (str (txt [c])) → SubsK (⟨#[40, 41, 44]⟩ : ByteArray) (j.tmod 3) ((⟨#[40, 41, 44]⟩ : ByteArray).size) (fun x33 => SubsK x33 0 1 K) := by
      have : j = 0 ∨ j = 1 ∨ j = 2 ∨ j = 3 := by omega
      rcases this with t | t | t | t <;> subst t
      · exact ⟨40, by omega, fun K hK => ⟨by decide, by decide, by decide, by decide, by decide, by decide, hK⟩⟩
      · exact ⟨41, by omega, fun K hK => ⟨by decide, by decide, by decide, by decide, by decide, by decide, hK⟩⟩
      · exact ⟨44, by omega, fun K hK => ⟨by decide, by decide, by decide, by decide, by decide, by decide, hK⟩⟩
      · exact ⟨40, by omega, fun K hK => ⟨by decide, by decide, by decide, by decide, by decide, by decide, hK⟩⟩
    obtain ⟨c, hc, hsub⟩ := sign
    refine hsub _ ?_
    have ckd : kd c = 40 := by rcases hc with t | t | t <;> subst t <;> rfl
    have cok : okR c := by unfold okR; omega
    refine sg_snoc hy6 (txt [c]) m (by simp; omega) fun u w7 hu f7 uf => ?_
    have fw7 : Fr none1 w w7 := fw6.comp f7 (fun k hk t => by have := yf' k t; omega)
    rw [str_app, ← txt_append, wI (x := m + 1) (by omega) (by omega), wI (x := i + 1) (by omega) (by omega)]
    have ht1 : (txt [c]).length ≤ 4 := by have := txt_len [c]; simpa using this.2
    have ht2 := txt_len (R1 ++ wd)
    rw [List.length_append] at ht2
    refine cat_ok (by omega) ?_
    rw [str_app, ← txt_append]
    refine ⟨⟨by omega, by omega, _, _, rfl, ?_, hu, fun k hk => ?_, ?_, ?_, fun r hr => ?_, fw7, fun X => ?_⟩, by omega⟩
    · simp only [List.length_append, List.length_cons, List.length_nil]; omega
    · rcases uf k hk with t | t
      · exact yf' k t
      · exact Nat.le_trans fw6.size t
    · simp only [List.length_append, List.length_cons, List.length_nil]; omega
    · simp only [List.length_append, List.length_cons, List.length_nil]; omega
    · rcases List.mem_append.1 hr with hr | hr
      · rcases List.mem_append.1 hr with hr | hr
        · exact hR1ok r hr
        · exact ⟨(wok r hr).2, by rw [kd_let (wok r hr).1]; decide⟩
      · simp at hr; subst hr
        exact ⟨cok, by rw [ckd]; decide⟩
    · rw [List.append_assoc, List.append_assoc, hsg1, sgF_word W _ wd _ wne (fun r hr => kd_let (wok r hr).1), List.singleton_append, sgF_sign _ _ _ _ _ ckd, txt_one]
      have q1 : (R1.length : Int) + 1 = (R.length : Int) + 1 + j := by omega
      have q2 : (R1.length : Int) + (wd.length : Int) + 1 = m := by omega
      have q3 : m = (((R1 ++ wd ++ [c]).length : Nat) : Int) := by simp only [List.length_append, List.length_cons, List.length_nil]; omega
      rw [q1, q2, ← q3]
  · have hRt := txt_len R
    refine cat_ok (by have : (txt [32, 32]).length = 2 := rfl
                      omega) ?_
    rw [str_app, ← txt_append]
    have hok2 : ∀ r ∈ R ++ [32, 32], okR r := fun r hr => by
      rcases List.mem_append.1 hr with hr | hr
      · exact (hRok r hr).1
      · simp at hr; subst hr; unfold okR; omega
    have hrun : runesL (txt (R ++ [32, 32])) = R ++ [32, 32] := runes_txt0 _ hok2
    refine CallK.of (signs_spec (txt (R ++ [32, 32])) w2 (by rw [hrun, reads_all R _ (fun r hr => (hRok r hr).2)]; have : reads [32, 32] = 2 := rfl
                                                             omega)) ?_
    rintro _ w3 ⟨sl, rfl, hsl, f3, slf⟩
    have hres : sgF W (R.length : Int) false [32, 32] = (W, 0) := by rfl
    rw [hrun, hsg, hres] at hsl ⊢
    refine ⟨((sl.1, sl.2.1, sl.2.2), 0, ()), rfl, ifB.t rfl ?_⟩
    refine CallK.of (same_signs hsl (hW.keep0 f3) (by show W.length ≤ 1000000; omega)) ?_
    rintro _ w4 ⟨rfl, f4⟩
    refine ⟨_, rfl, ifB.t (decide_eq_true rfl) ?_⟩
    refine CallK.of (wakes1_spec w4) ?_
    rintro _ w5 ⟨rfl, f5⟩
    exact ⟨_, rfl, rfl, ((f2.trans f3).trans f4).trans f5⟩

end Go.Proofs.Ytejhjjafmobmbaa
