/-
  The plain law of a crash: opened again, the records are those that were put well, and at most the one under way.
  Conditions: records of at most 4000 bytes.
-/
import Derived.Test.YtejhjjafmobmbaaJSpoilt
set_option linter.unusedVariables false
namespace Go.Proofs.Ytejhjjafmobmbaa
open Vc

theorem firstL_short {bs : List UInt8} (h : bs.length < sizeL bs + 3) : firstL bs = none := by
  unfold firstL
  repeat' split
  all_goals first | rfl | (exfalso; omega)

theorem firstL_cut {x : List UInt8} (hx : x.length ≤ 4000) {m : Nat} (hm : m < x.length + 3) (h0 : 0 < m) (v : UInt8) : firstL (((packL x).take m).set (m - 1) v) = none := by
  have hl : (((packL x).take m).set (m - 1) v).length = m := by rw [List.length_set, List.length_take, packL_len]; omega
  refine firstL_short ?_
  rw [hl]
  by_cases h2 : m ≤ 2
  · omega
  have hh : (hd x.length).length = 2 := rfl
  have e : ((packL x).take m).set (m - 1) v = hd x.length ++ ((x ++ [xorL 150 (hd x.length ++ x)]).take (m - 2)).set (m - 1 - 2) v := by
    rw [packL_form, List.append_assoc, show m = (hd x.length).length + (m - 2) by omega, List.take_length_add_append, List.set_append_right _ _ (by omega)]
    rw [hh, show 2 + (m - 2) - 2 = m - 2 by omega]
  rw [e, hd_size hx]
  exact hm

theorem crash_parse {G : List (List UInt8)} {x y : List UInt8} {s : FileS} (ok : s.Ok) (hy : y = [] ∨ y = packL x) (hx : x.length ≤ 4000) (hb : s.b = packs G ++ y) (hs : s.synced = ((packs G).length : Int)) (hG : ∀ r ∈ G, r.length ≤ 4000) (keep sp : Int) :
    ∃ R rest, (R = G ∨ R = G ++ [x] ∧ y = packL x) ∧ Parse (crashF s keep sp).b R rest ∧ (crashF s keep sp).b.take ((crashF s keep sp).b.length - rest.length) = packs R ∧ (crashF s keep sp).synced = ((crashF s keep sp).b.length : Int) := by
  obtain ⟨m, hm, hm1⟩ : ∃ m : Nat, crashK s keep = ((packs G).length : Int) + m ∧ m ≤ y.length := by
    have hbl : (s.b.length : Int) = (packs G).length + y.length := by rw [hb, List.length_append]; omega
    refine ⟨(crashK s keep - (packs G).length).toNat, ?_, ?_⟩ <;> unfold crashK <;> rw [hs, hbl] <;> repeat' split
    all_goals omega
  have hB : (crashF s keep sp).b = crashB s (crashK s keep) sp := rfl
  have hS : (crashF s keep sp).synced = crashK s keep := rfl
  rw [hB, hS, hm]
  unfold crashB
  rw [hs, hb]
  have etk : (packs G ++ y).take (((packs G).length : Int) + m).toNat = packs G ++ y.take m := by
    rw [show (((packs G).length : Int) + m).toNat = (packs G).length + m by omega, List.take_length_add_append]
  rw [etk]
  by_cases h0 : m = 0
  · subst h0
    rw [if_neg (by omega), List.take_zero]
    refine ⟨G, [], .inl rfl, parse_packs firstL_nil G hG, ?_, by simp⟩
    simp
  · rw [if_pos (by omega)]
    have hyx : y = packL x := by
      rcases hy with t | t
      · subst t; simp at hm1; omega
      · exact t
    subst hyx
    rw [packL_len] at hm1
    generalize xorI ((packs G ++ packL x).getD (((packs G).length : Int) + (m : Int) - 1).toNat 0) sp = v
    have eset : (packs G ++ (packL x).take m).set (((packs G).length : Int) + (m : Int) - 1).toNat v = packs G ++ ((packL x).take m).set (m - 1) v := by
      rw [show (((packs G).length : Int) + (m : Int) - 1).toNat = (packs G).length + (m - 1) by omega, List.set_append_right _ _ (by omega), Nat.add_sub_cancel_left]
    rw [eset]
    have hl : (((packL x).take m).set (m - 1) v).length = m := by rw [List.length_set, List.length_take, packL_len]; omega
    have bad : firstL (((packL x).take m).set (m - 1) v) = none → ∃ R rest, (R = G ∨ R = G ++ [x] ∧ packL x = packL x) ∧ Parse (packs G ++ ((packL x).take m).set (m - 1) v) R rest ∧ (packs G ++ ((packL x).take m).set (m - 1) v).take ((packs G ++ ((packL x).take m).set (m - 1) v).length - rest.length) = packs R ∧ ((packs G).length : Int) + m = ((packs G ++ ((packL x).take m).set (m - 1) v).length : Int) := fun hn => by
      refine ⟨G, _, .inl rfl, parse_packs hn G hG, ?_, by rw [List.length_append, hl]; omega⟩
      rw [List.length_append, Nat.add_sub_cancel, List.take_left]
    by_cases hlast : m < x.length + 3
    · exact bad (firstL_cut hx hlast (by omega) v)
    · have hmm : m = x.length + 3 := by omega
      have eall : (packL x).take m = packL x := List.take_of_length_le (by rw [packL_len]; omega)
      by_cases hv : v = (packL x).getD (m - 1) 0
      · have esame : ((packL x).take m).set (m - 1) v = packL x := by
          rw [eall, hv, List.getD_eq_getElem?_getD, List.getElem?_eq_getElem (by rw [packL_len]; omega)]
          simp
        rw [esame]
        refine ⟨G ++ [x], [], .inr ⟨rfl, rfl⟩, ?_, ?_, by rw [List.length_append, packL_len]; omega⟩
        · rw [← packs_snoc]
          have := parse_packs firstL_nil (G ++ [x]) (fun r hr => by
            simp only [List.mem_append, List.mem_singleton] at hr
            rcases hr with t | t
            · exact hG r t
            · rw [t]; exact hx)
          rw [List.append_nil] at this
          exact this
        · rw [← packs_snoc]; simp
      · refine bad ?_
        rw [eall]
        have := firstL_turned (x := x) [] hx (j := m - 1) (v := v) (by omega) (by omega) hv
        rw [List.append_nil] at this
        exact this

theorem stepF_live {s : FileS} (h : (stepF s).2 = true) : (stepF s).1.dead = s.dead := by
  unfold stepF at *
  split at h
  · cases h
  · rename_i hc; rw [if_neg hc]

theorem putJ_lit {s : FileS} {x : List UInt8} (hd : s.dead = false) (hx : x.length ≤ 4000) (h : (x.length : Int) + 3 ≤ s.quota - s.b.length) :
    ((putJ s false x).2.2.1 = 0 ∧ (putJ s false x).2.2.2 = true ∧ (putJ s false x).2.1 = false ∧ (putJ s false x).1.b = s.b ++ packL x ∧ (putJ s false x).1.quota = s.quota ∧ (putJ s false x).1.synced = ((s.b ++ packL x).length : Int) ∧ (putJ s false x).1.dead = false) ∨
    ((putJ s false x).2.2.1 = 11 ∧ (putJ s false x).2.2.2 = false ∧ ((putJ s false x).1.b = s.b ∨ (putJ s false x).1.b = s.b ++ packL x) ∧ (putJ s false x).1.quota = s.quota ∧ (putJ s false x).1.synced = s.synced) := by
  obtain ⟨e1, e2, e3⟩ := stepF_b s
  unfold putJ
  rw [hd, if_neg (by simp), if_neg (by omega)]
  have ha : appF s (packL x) = if (stepF s).2 then ({ (stepF s).1 with b := s.b ++ packL x }, 0) else ((stepF s).1, 11) := by
    unfold appF
    rw [hd, if_neg (by simp), if_neg (by rw [packL_len]; omega)]
  cases hst : (stepF s).2 with
  | false =>
    right
    have ha' : appF s (packL x) = ((stepF s).1, 11) := by rw [ha, hst]; rfl
    rw [ha']
    dsimp only
    rw [if_pos (by decide)]
    exact ⟨rfl, rfl, .inl e1, e2, e3⟩
  | true =>
    have hlv := stepF_live hst
    obtain ⟨t, ht⟩ : ∃ t : FileS, ({ (stepF s).1 with b := s.b ++ packL x } : FileS) = t := ⟨_, rfl⟩
    have ha' : appF s (packL x) = (t, 0) := by rw [ha, hst, if_pos rfl, ht]
    have t1 : t.b = s.b ++ packL x := by rw [← ht]
    have t2 : t.quota = s.quota := by rw [← ht]; exact e2
    have t3 : t.synced = s.synced := by rw [← ht]; exact e3
    have t4 : t.dead = false := by rw [← ht]; exact hlv.trans hd
    obtain ⟨d1, d2, d3⟩ := stepF_b t
    have hs : syncF t = if (stepF t).2 then ({ (stepF t).1 with synced := t.b.length }, 0) else ((stepF t).1, 11) := by
      unfold syncF
      rw [t4, if_neg (by simp)]
    rw [ha']
    dsimp only
    rw [if_neg (by decide)]
    cases hst2 : (stepF t).2 with
    | false =>
      right
      have hs' : syncF t = ((stepF t).1, 11) := by rw [hs, hst2]; rfl
      rw [hs']
      dsimp only
      rw [if_pos (by decide)]
      exact ⟨rfl, rfl, .inr (d1.trans t1), d2.trans t2, d3.trans t3⟩
    | true =>
      left
      have hlv2 := stepF_live hst2
      obtain ⟨u, hu⟩ : ∃ u : FileS, ({ (stepF t).1 with synced := (t.b.length : Int) } : FileS) = u := ⟨_, rfl⟩
      have hs' : syncF t = (u, 0) := by rw [hs, hst2, if_pos rfl, hu]
      rw [hs']
      dsimp only
      rw [if_neg (by decide), ← hu]
      exact ⟨rfl, rfl, rfl, d1.trans t1, d2.trans t2, by dsimp only; rw [t1], hlv2.trans t4⟩

end Go.Proofs.Ytejhjjafmobmbaa
