/-
  Slices of structs of two numbers and a slice of bytes that came in, with the reach of the slices inside.
-/
import Derived.Test.YtejhjjafmobmbaaVcNest
import Derived.SizedLaws
import Derived.Deep.Strs
namespace Go.Proofs.Ytejhjjafmobmbaa
namespace Vc
open Go.ChangeShapes Go.WideShapes
variable {P : Program}

abbrev ActV := Int × Int × Sl × List Int
def IsActs (w : World) (a : Option Addr) (len cap : Nat) (us : List ActV) : Prop :=
  (a = none ∧ len = 0 ∧ cap = 0 ∧ us = []) ∨
  ∃ x, a = some x ∧ len ≤ cap ∧ cap ≤ maxLen ∧ us.length = len ∧ ∀ i u, us[i]? = some u → w.cell? ((x.add (i * 3)).add 0) = some (.int .i64 u.1) ∧ w.cell? ((x.add (i * 3)).add 1) = some (.int .i64 u.2.1) ∧ w.cell? ((x.add (i * 3)).add 2) = some (.slice u.2.2.1.1 u.2.2.1.2.1 u.2.2.1.2.2) ∧
    (Lit.int .i64 u.1).wf = true ∧ (Lit.int .i64 u.2.1).wf = true ∧ IsInts .u8 w u.2.2.1.1 u.2.2.1.2.1 u.2.2.1.2.2 u.2.2.2 ∧ u.2.2.1.2.2 ≤ reachBytes

theorem weightsAll_mem {H : Type} {e : TypeId} {n : Nat} : ∀ (ds : List (DataW H)) (d : DataW H), d ∈ ds → n ∈ d.weights P e → n ∈ DataW.weightsAll P e ds
  | d0 :: ds, d, hd, hn => by
    simp only [DataW.weightsAll, List.mem_append]
    rcases List.mem_cons.1 hd with rfl | hd
    · exact .inl hn
    · exact .inr (weightsAll_mem ds d hd hn)

theorem open_acts {H : Type} {enc : TypeId × Value → H} {w : World} {base : Nat} {held : Bool} {t e tb eb ti : TypeId} {f0 f1 f2 : Field} {fuel : Nat} {cs : List Value} {x : DataW H × List MemPlace}
    (ht : P.underlying t = some (.slice e)) (he : P.underlying e = some (.struct #[f0, f1, f2])) (hf0 : f0.type = ti) (hf1 : f1.type = ti) (hf2 : f2.type = tb) (ho0 : f0.offset = 0) (ho1 : f1.offset = 1) (ho2 : f2.offset = 2)
    (hti : P.underlying ti = some (.int .i64)) (htb : P.underlying tb = some (.slice eb)) (heb : P.underlying eb = some (.int .u8))
    (hc : P.cellsOf e = 3) (hci : P.cellsOf ti = 1) (hctb : P.cellsOf tb = 1) (hceb : P.cellsOf eb = 1) (hby : P.bytesOf eb = 1)
    (h : DataW.trod enc P w base (fun _ => true) held fuel t cs = some x) (hw : ∀ n ∈ x.1.weights P t, n ≤ reachBytes) : ∃ a len cap us, cs = [.slice a len cap] ∧ IsActs w a len cap us := by
  rcases DataW.trod_slice ht h with ⟨h0, _⟩ | ⟨a, len, cap, elems, rest, n, _, hcs, hx, hb, hl, hm, hlen, hel, _, _⟩
  · exact ⟨none, 0, 0, [], h0, .inl ⟨rfl, rfl, rfl, rfl⟩⟩
  obtain ⟨us, ul, hu⟩ := list_of (α := ActV) (Q := fun i u => w.cell? ((a.add (i * 3)).add 0) = some (.int .i64 u.1) ∧ w.cell? ((a.add (i * 3)).add 1) = some (.int .i64 u.2.1) ∧ w.cell? ((a.add (i * 3)).add 2) = some (.slice u.2.2.1.1 u.2.2.1.2.1 u.2.2.1.2.2) ∧
    (Lit.int .i64 u.1).wf = true ∧ (Lit.int .i64 u.2.1).wf = true ∧ IsInts .u8 w u.2.2.1.1 u.2.2.1.2.1 u.2.2.1.2.2 u.2.2.2 ∧ u.2.2.1.2.2 ≤ reachBytes) len fun i hi => by
    have hb' := hel i hi
    rw [List.getElem?_eq_getElem (by omega), hc, Option.bind_eq_some_iff] at hb'
    obtain ⟨cs', hcs', hy'⟩ := hb'
    have hcells : ∃ c0 c1 c2, cs' = [c0, c1, c2] ∧ w.cell? ((a.add (i * 3)).add 0) = some c0 ∧ w.cell? ((a.add (i * 3)).add 1) = some c1 ∧ w.cell? ((a.add (i * 3)).add 2) = some c2 := by
      unfold World.cells? at hcs'
      split at hcs'
      · simp only [List.range_succ, List.range_zero, List.nil_append, List.cons_append, List.mapM_cons, List.mapM_nil] at hcs'
        cases h0 : w.cell? ((a.add (i * 3)).add 0) with
        | none => simp [h0] at hcs'
        | some c0 =>
          cases h1 : w.cell? ((a.add (i * 3)).add 1) with
          | none => simp [h0, h1] at hcs'
          | some c1 =>
            cases h2 : w.cell? ((a.add (i * 3)).add 2) with
            | none => simp [h0, h1, h2] at hcs'
            | some c2 =>
              simp [h0, h1, h2] at hcs'
              exact ⟨c0, c1, c2, hcs'.symm, rfl, rfl, rfl⟩
      · cases hcs'
    obtain ⟨c0, c1, c2, rfl, q0, q1, q2⟩ := hcells
    obtain ⟨y0, y1, y2, m, hxe, _, g0, g1, g2⟩ := Go.Deep.trod_struct3 he hy'
    rw [hf0, ho0, hci] at g0
    rw [hf1, ho1, hci] at g1
    rw [hf2, ho2, hctb] at g2
    simp only [List.drop_zero, List.drop_succ_cons, List.take_succ_cons, List.take_zero] at g0 g1 g2
    obtain ⟨z0, hz0, _, hw0⟩ := DataW.trod_int hti g0
    obtain ⟨z1, hz1, _, hw1⟩ := DataW.trod_int hti g1
    simp only [List.cons.injEq, and_true] at hz0 hz1
    subst hz0; subst hz1
    rcases open_ints htb heb hceb g2 with ⟨h2, _⟩ | ⟨y, l, c, zs, h2, _, hl', hm', hz', hx2, hcell, hwz⟩
    · simp only [List.cons.injEq, and_true] at h2
      subst h2
      exact ⟨(z0, z1, (none, 0, 0), []), q0, q1, q2, hw0, hw1, .inl ⟨rfl, rfl, rfl, rfl⟩, Nat.zero_le _⟩
    · simp only [List.cons.injEq, and_true] at h2
      subst h2
      have hzc : zs.length = c := by simpa using hz'
      refine ⟨(z0, z1, (some y, l, c), zs), q0, q1, q2, hw0, hw1, .inr ⟨y, rfl, hl', hm', hzc, hcell, hwz⟩, ?_⟩
      dsimp only
      have hmem : (elems[i]'(by omega)).1 ∈ elems.map (·.1) := List.mem_map.2 ⟨_, List.getElem_mem _, rfl⟩
      refine hw c ?_
      rw [hx]
      simp only [DataW.weights, ht, List.mem_cons, List.mem_append]
      refine .inr (.inl (weightsAll_mem _ _ hmem ?_))
      rw [hxe]
      simp only [DataW.weights, he]
      refine DataW.weights_mem_each (ts := [f0.type, f1.type, f2.type]) (ds := [y0.1, y1.1, y2.1]) (j := 2) rfl rfl c ?_
      rw [hf2, hx2]
      simp only [DataW.weights, htb, hby, lits, List.length_map, List.length_take, List.length_drop, List.mem_cons]
      left
      omega
  exact ⟨some a, len, cap, us, hcs, .inr ⟨a, rfl, hl, hm, ul, hu⟩⟩

end Vc
end Go.Proofs.Ytejhjjafmobmbaa
