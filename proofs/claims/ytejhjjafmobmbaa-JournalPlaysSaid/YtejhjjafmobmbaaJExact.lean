/-
  Records, a file's bytes, equal rows compared: with outcomes that are told ahead.
  Conditions: as of the functions' own contracts.
-/
import Derived.Test.YtejhjjafmobmbaaJPlain
set_option linter.unusedVariables false
namespace Go.Proofs.Ytejhjjafmobmbaa
open Vc

theorem fbytes_is {w : World} {b g : Nat} {s : FileS} (h : IsFile w b g s) : ∃ (u : Sl) (w1 : World), Ret Try.prog 46 #[.pointer (some ⟨b, 0, none⟩)] w (fun r w' => r = .slice u.1 u.2.1 u.2.2 ∧ w1 = w') ∧ IsB w1 u s.b ∧ Fr none1 w w1 ∧ ∀ k, blkOf u k → w.heap.size ≤ k := by
  obtain ⟨⟨sl, hb, hs, _⟩, _, ok⟩ := h
  obtain ⟨u, w1, hr, hu, f, hf⟩ := clone_is hs.rd (by have := ok.len; omega)
  refine ⟨u, w1, ?_, hu, f, hf⟩
  refine c46 _ w _ ?_
  refine LdK.fld hb (x := sl) rfl ?_
  refine CallK.of hr ?_
  rintro _ _ ⟨rfl, rfl⟩
  exact ⟨u, rfl, rfl, rfl⟩

/-- n draws later. -/
def dr (n : Nat) (w : World) : World := { w with drawn := w.drawn + n }
theorem dr_fr (n : Nat) (w : World) : Fr none1 w (dr n w) := ⟨rfl, rfl, rfl, Nat.le_refl _, fun _ _ _ => rfl⟩

theorem same_is {w : World} {x y : Sl} {xs : List UInt8} (hx : RdB w x xs) (hy : RdB w y xs) (hl : xs.length ≤ 100000000) :
    ∃ w1, Ret Try.prog 45 #[.slice x.1 x.2.1 x.2.2, .slice y.1 y.2.1 y.2.2] w (fun r w' => r = .bool true ∧ w1 = w') ∧ Fr none1 w w1 := by
  refine ⟨dr xs.length w, ?_, dr_fr _ _⟩
  refine c45 x.1 x.2.1 x.2.2 y.1 y.2.1 y.2.2 w _ ?_
  have ex := hx.len
  have ey := hy.len
  refine ifB.f (by rw [ex, ey]; simp) ?_
  refine LoopK.of (fun s w' => 0 ≤ s.1 ∧ s.1 ≤ x.2.1 ∧ dr s.1.toNat w = w') (fun s _ => (x.2.1 - s.1).toNat) ⟨by dsimp only; omega, by dsimp only; omega, rfl⟩ ?_
  rintro _ ⟨i, _⟩ _ ⟨i0, i1, rfl⟩
  dsimp only at i0 i1 ⊢
  refine ifB.dec (fun hlt => ?_) (fun hge => ?_)
  · refine ⟨?_⟩
    have f2 : Fr none1 w { dr i.toNat w with drawn := (dr i.toNat w).drawn + 1 } := ⟨rfl, rfl, rfl, Nat.le_refl _, fun _ _ _ => rfl⟩
    refine RdB.at (hx.keep0 f2) i0 hlt ?_
    refine RdB.at (hy.keep0 f2) i0 (by omega) ?_
    refine ifB.f (by simp) ?_
    rw [wI (by omega) (by omega)]
    refine ⟨⟨by omega, by omega, ?_⟩, by omega⟩
    rw [show (i + 1).toNat = i.toNat + 1 by omega]
    rfl
  · rw [show i.toNat = xs.length by omega]
    exact ⟨rfl, rfl⟩

theorem rows_is {w : World} {S T : Nat → Prop} {x y : Sl} {xs : List (List UInt8)} (hx : IsRows w S x xs) (hy : IsRows w T y xs) (hl : xs.length ≤ 1000000) (hr : ∀ r ∈ xs, r.length ≤ 100000000) :
    ∃ w1, Ret Try.prog 67 #[.slice x.1 x.2.1 x.2.2, .slice y.1 y.2.1 y.2.2] w (fun r w' => r = .bool true ∧ w1 = w') ∧ Fr none1 w w1 := by
  have ex := hx.len
  have ey := hy.len
  obtain ⟨⟨us, a1, a2, a3, a4⟩, o, l⟩ := id hx
  obtain ⟨⟨vs, b1, b2, b3, b4⟩, o', l'⟩ := id hy
  have seq : ∀ n, n ≤ xs.length → ∃ f : Nat → World, f 0 = w ∧ (∀ i, i < n → Ret Try.prog 45 #[slv (us.getD i nils), slv (vs.getD i nils)] (dr 1 (f i)) (fun r w' => r = .bool true ∧ f (i + 1) = w')) ∧ ∀ i, i ≤ n → Fr none1 w (f i) := by
    intro n
    induction n with
    | zero => exact fun _ => ⟨fun _ => w, rfl, fun i hi => by omega, fun i hi => Fr.refl _ _⟩
    | succ n ih =>
      intro hn
      obtain ⟨f, h0, h1, h2⟩ := ih (by omega)
      have fr := (h2 n (Nat.le_refl _)).trans (dr_fr 1 (f n))
      obtain ⟨w1, hs, fs⟩ := same_is ((a3 n (by omega)).keep0 fr) ((b3 n (by omega)).keep0 fr) (by
        rw [List.getD_eq_getElem?_getD, List.getElem?_eq_getElem (by omega)]; exact hr _ (List.getElem_mem _))
      refine ⟨fun i => if i ≤ n then f i else w1, by simp [h0], fun i hi => ?_, fun i hi => ?_⟩
      · by_cases hin : i < n
        · simp only [if_pos (show i ≤ n by omega), if_pos (show i + 1 ≤ n by omega)]
          exact h1 i hin
        · have : i = n := by omega
          subst this
          simp only [Nat.le_refl, if_true, if_neg (show ¬ i + 1 ≤ i by omega)]
          exact hs
      · by_cases hin : i ≤ n
        · simp only [if_pos hin]; exact h2 i hin
        · simp only [if_neg hin]; exact fr.trans fs
  obtain ⟨f, h0, h1, h2⟩ := seq xs.length (Nat.le_refl _)
  refine ⟨f xs.length, ?_, h2 _ (Nat.le_refl _)⟩
  refine c67 x.1 x.2.1 x.2.2 y.1 y.2.1 y.2.2 w _ ?_
  refine ifB.f (by rw [ex, ey]; simp) ?_
  refine LoopK.of (fun s w' => 0 ≤ s.1 ∧ s.1 ≤ x.2.1 ∧ f s.1.toNat = w') (fun s _ => (x.2.1 - s.1).toNat) ⟨by dsimp only; omega, by dsimp only; omega, h0⟩ ?_
  rintro _ ⟨i, _⟩ _ ⟨i0, i1, rfl⟩
  dsimp only at i0 i1 ⊢
  refine ifB.dec (fun hlt => ?_) (fun hge => ?_)
  · refine ⟨?_⟩
    have fr := (h2 i.toNat (by omega)).trans (dr_fr 1 (f i.toNat))
    have hiu : i.toNat < us.length := by omega
    have hiv : i.toNat < vs.length := by omega
    refine IsSl.ld (a1.keep0 fr) i0 hlt (x := us.getD i.toNat nils) (by rw [List.getElem?_map, List.getD_eq_getElem?_getD, List.getElem?_eq_getElem hiu]; rfl) ?_
    refine IsSl.ld (b1.keep0 fr) i0 (by omega) (x := vs.getD i.toNat nils) (by rw [List.getElem?_map, List.getD_eq_getElem?_getD, List.getElem?_eq_getElem hiv]; rfl) ?_
    refine CallK.of (h1 i.toNat (by omega)) ?_
    rintro _ _ ⟨rfl, rfl⟩
    refine ⟨true, rfl, ifB.f rfl ?_⟩
    rw [wI (by omega) (by omega)]
    refine ⟨⟨by omega, by omega, ?_⟩, by omega⟩
    rw [show (i + 1).toNat = i.toNat + 1 by omega]
  · rw [show i.toNat = xs.length by omega]
    exact ⟨rfl, rfl⟩

theorem records_is {w : World} {S : Nat → Prop} {p b g : Nat} {s : FileS} {d : Bool} {rs : List (List UInt8)} (h : IsJ w S p b g s d rs) (hl : rs.length ≤ 1000000) (hr : ∀ r ∈ rs, r.length ≤ 100000000) :
    ∃ (v : Sl) (w1 : World) (S' : Nat → Prop), Ret Try.prog 68 #[.pointer (some ⟨p, 0, none⟩)] w (fun r w' => r = .slice v.1 v.2.1 v.2.2 ∧ w1 = w') ∧ IsRows w1 S' v rs ∧ Fr none1 w w1 ∧ ∀ k, S' k → w.heap.size ≤ k := by
  obtain ⟨_, ⟨jl, hp, hj⟩, _⟩ := h
  have hjl := hj.len
  obtain ⟨⟨us, a1, a2, a3, a4⟩, o, l⟩ := id hj
  have seq : ∀ n, n ≤ rs.length → ∃ f : Nat → Sl × World, f 0 = (nils, w) ∧
      (∀ i, i < n → ∃ (u : Sl) (wa : World) (y : Sl) (wb : World), Ret Try.prog 78 #[slv (us.getD i nils)] (f i).2 (fun r w' => r = .slice u.1 u.2.1 u.2.2 ∧ wa = w') ∧ (Instr.buildSlice 79 1 #[(0, .slice u.1 u.2.1 u.2.2)]).run Try.prog wa = .ok (.slice y.1 y.2.1 y.2.2) wb ∧
        (Builtin.append_ #[79, 79] 79 #[slv (f i).1, .slice y.1 y.2.1 y.2.2]).run Try.prog wb = .ok (slv (f (i + 1)).1) (f (i + 1)).2) ∧
      (∀ i, i ≤ n → Fr none1 w (f i).2) ∧ ∃ S', IsRows (f n).2 S' (f n).1 (rs.take n) ∧ ∀ k, S' k → w.heap.size ≤ k := by
    intro n
    induction n with
    | zero => exact fun _ => ⟨fun _ => (nils, w), rfl, fun i hi => by omega, fun i hi => Fr.refl _ _, fun _ => False, none_rows _ _ (fun k t => t.elim), fun k t => t.elim⟩
    | succ n ih =>
      intro hn
      obtain ⟨f, h0, h1, h2, S', hv, hS⟩ := ih (by omega)
      have fn := h2 n (Nat.le_refl _)
      have sn := fn.size
      obtain ⟨u, wa, hc, hu, fa, hf⟩ := clone_is ((a3 n (by omega)).keep0 fn) (by
        rw [List.getD_eq_getElem?_getD, List.getElem?_eq_getElem (by omega)]; exact hr _ (List.getElem_mem _))
      have hvlt := hv.lt
      obtain ⟨y, wb, z, wc, r1, fb, r2, fc, S2, hS2, hz⟩ := (hv.keep0 fa).snoc hu.rd (fun k hk => ⟨IsSl.lt hu hk, fun t => by have := hvlt k t; have := hf k hk; omega⟩) (by simp only [List.length_take]; omega)
      have sa := fa.size
      have fwc : Fr none1 w wc := (fn.trans fa).comp fc (fun k hk t => by have := hS k (hv.own k t); omega)
      refine ⟨fun i => if i ≤ n then f i else (z, wc), by simp [h0], fun i hi => ?_, fun i hi => ?_, S2, ?_, fun k hk => ?_⟩
      · by_cases hin : i < n
        · simp only [if_pos (show i ≤ n by omega), if_pos (show i + 1 ≤ n by omega)]
          exact h1 i hin
        · have : i = n := by omega
          subst this
          simp only [Nat.le_refl, if_true, if_neg (show ¬ i + 1 ≤ i by omega)]
          exact ⟨u, wa, y, wb, hc, r1, r2⟩
      · by_cases hin : i ≤ n
        · simp only [if_pos hin]; exact h2 i hin
        · simp only [if_neg hin]; exact fwc
      · simp only [if_neg (show ¬ n + 1 ≤ n by omega)]
        rw [List.take_succ_eq_append_getElem (by omega)]
        rw [List.getD_eq_getElem?_getD, List.getElem?_eq_getElem (by omega)] at hz
        exact hz
      · rcases hS2 k hk with t | t | t
        · exact hS k t
        · have := hf k t; omega
        · omega
  obtain ⟨f, h0, h1, h2, S', hv, hS⟩ := seq rs.length (Nat.le_refl _)
  rw [List.take_length] at hv
  refine ⟨(f rs.length).1, (f rs.length).2, S', ?_, hv, h2 _ (Nat.le_refl _), hS⟩
  refine c68 _ w _ ?_
  refine LdK.fld hp (x := jl) rfl ?_
  refine LoopK.of (fun q w' => 0 ≤ q.2.1 ∧ q.2.1 ≤ jl.2.1 ∧ (f q.2.1.toNat).1 = q.1 ∧ (f q.2.1.toNat).2 = w') (fun q _ => (jl.2.1 - q.2.1).toNat) ⟨by dsimp only; omega, by dsimp only; omega, by dsimp only; rw [show (0 : Int).toNat = 0 from rfl, h0]; rfl, by dsimp only; rw [show (0 : Int).toNat = 0 from rfl, h0]⟩ ?_
  rintro _ ⟨v, i, _⟩ w1 ⟨i0, i1, e1, e2⟩
  dsimp only at i0 i1 e1 e2 ⊢
  subst e1; subst e2
  refine ifB.dec (fun hlt => ?_) (fun hge => ?_)
  · have hi : i.toNat < us.length := by omega
    refine IsSl.ld (a1.keep0 (h2 i.toNat (by omega))) i0 hlt (x := us.getD i.toNat nils) (by rw [List.getElem?_map, List.getD_eq_getElem?_getD, List.getElem?_eq_getElem hi]; rfl) ?_
    obtain ⟨u, wa, y, wb, hc, r1, r2⟩ := h1 i.toNat (by omega)
    refine CallK.of hc ?_
    rintro _ _ ⟨rfl, rfl⟩
    refine ⟨u, rfl, y, wb, r1, (f (i.toNat + 1)).1, (f (i.toNat + 1)).2, r2, ?_⟩
    rw [wI (by omega) (by omega)]
    refine ⟨⟨by omega, by omega, ?_, ?_⟩, by omega⟩
    · rw [show (i + 1).toNat = i.toNat + 1 by omega]
    · rw [show (i + 1).toNat = i.toNat + 1 by omega]
  · rw [show i.toNat = rs.length by omega]
    exact ⟨rfl, rfl⟩

end Go.Proofs.Ytejhjjafmobmbaa
