/-
  FilePlays: whatever is done with a file, each answer, and all that it tells, is what the document says; crashes, clones, too.
  Conditions: none beyond the statement's own.
-/
import Derived.Test.YtejhjjafmobmbaaLendSpec
import Derived.Test.YtejhjjafmobmbaaVcActs
import Derived.Test.YtejhjjafmobmbaaCFPlays
set_option linter.unusedVariables false
namespace Go.Proofs.Ytejhjjafmobmbaa
open Vc

theorem Vc.IsActs.len_le {w : World} {a : Option Addr} {len cap : Nat} {us : List ActV} (h : IsActs w a len cap us) : (len : Int) ≤ 9223372036854775807 := by
  rcases h with ⟨_, rfl, _, _⟩ | ⟨x, _, hl, hc, _⟩
  · omega
  · unfold maxLen at hc; omega

theorem acts_ld {w w' : World} {a : Option Addr} {len cap : Nat} {us : List ActV} (h : IsActs w a len cap us) (f : Fr none1 w w') {i : Int} (h0 : 0 ≤ i) (h1 : i < len) {K : Int × Int × (Option Addr × Nat × Nat) × Unit → Prop}
    (hK : ∀ (x y : Int) (v : Sl) (bs : List UInt8), (Go.Lit.int .i64 x).wf = true → (Go.Lit.int .i64 y).wf = true → RdB w v bs → (bs ≠ [] → ∀ k, blkOf v k → k < w.heap.size) → bs.length ≤ 140737488351232 → K (x, y, v, ())) :
    IdxK a len i 3 fun p => LdsK [.int .i64, .int .i64, .slc] p w' K := by
  rcases h with ⟨_, rfl, _, _⟩ | ⟨x, rfl, hl, hc, hz, hcell⟩
  · omega
  · refine ⟨x, rfl, h0, h1, ?_⟩
    obtain ⟨c0, c1, c2, w0, w1, hi, hr⟩ := hcell i.toNat us[i.toNat] (List.getElem?_eq_getElem (by omega))
    obtain ⟨r1, r2⟩ := args_rd hi
    have hrl := r1.len
    dsimp only at hrl
    refine ⟨(us[i.toNat].1, us[i.toNat].2.1, us[i.toNat].2.2.1, ()), ⟨f.cell0 c0, f.cell0 c1, f.cell0 c2, trivial⟩, hK _ _ _ _ w0 w1 r1 (fun hne k ⟨ad, had, e⟩ => ?_) (by unfold reachBytes at hr; omega)⟩
    have hc := r1.2.2 ad had
    subst e
    cases hbs : ((us[i.toNat].2.2.2.take us[i.toNat].2.2.1.2.1).map toByte).map bc with
    | nil => exact absurd (List.map_eq_nil_iff.1 hbs) hne
    | cons u l =>
      rw [hbs] at hc
      have := blk_of_cell hc.1
      unfold Addr.add at this
      split at this <;> exact this

/-- A file and the document's, in blocks of their own, all new since the beginning. -/
structure Two (w0 w : World) (b g c h : Nat) (s t : FileS) : Prop where
  fr : Fr none1 w0 w
  file : IsFile w b g s
  ref : IsRef w c h t
  ne : b ≠ c ∧ b ≠ h ∧ g ≠ c ∧ g ≠ h
  lo : w0.heap.size ≤ b ∧ w0.heap.size ≤ c ∧ w0.heap.size ≤ h

theorem Two.keep0 {w0 w w' : World} {b g c h : Nat} {s t : FileS} (x : Two w0 w b g c h s t) (f : Fr none1 w w') : Two w0 w' b g c h s t := ⟨x.fr.trans f, x.file.keep0 f, x.ref.keep0 f, x.ne, x.lo⟩
theorem Two.tof {w0 w w' : World} {b g c h : Nat} {s t s' : FileS} (x : Two w0 w b g c h s t) (y : FileTo w b g s' w') : ∃ g', (g' = b ∨ g' = g ∨ w.heap.size ≤ g') ∧ Two w0 w' b g' c h s' t := by
  obtain ⟨fr, hf, hr, ⟨n1, n2, n3, n4⟩, l1, l2, l3⟩ := x
  obtain ⟨f, g', hg, hf'⟩ := y
  have hc := hr.lt
  have hh := hr.glt
  refine ⟨g', hg, fr.fresh f l1, hf', hr.keep f (fun t => n1 (Eq.symm t)) (fun t => n2 (Eq.symm t)), ⟨n1, n2, ?_, ?_⟩, l1, l2, l3⟩ <;> rcases hg with q | q | q <;> omega
theorem Two.tor {w0 w w' : World} {b g c h : Nat} {s t t' : FileS} (x : Two w0 w b g c h s t) (y : RefTo w c h t' w') : ∃ h', (h' = c ∨ h' = h ∨ w.heap.size ≤ h') ∧ Two w0 w' b g c h' s t' := by
  obtain ⟨fr, hf, hr, ⟨n1, n2, n3, n4⟩, l1, l2, l3⟩ := x
  obtain ⟨f, h', hg, hr'⟩ := y
  have hc := hf.lt
  have hh := hf.glt
  have sz := fr.size
  refine ⟨h', hg, fr.comp f (fun k hk q => by rcases q with q | q <;> omega), hf.keep f (fun q => by rcases q with q | q <;> omega) (fun q => by rcases q with q | q <;> omega), hr', ⟨n1, ?_, n3, ?_⟩, l1, l2, ?_⟩ <;> rcases hg with q | q | q <;> omega
theorem Two.pair {w0 w : World} {b g c h : Nat} {s t : FileS} (x : Two w0 w b g c h s t) (y : Sim s t) : Pair w b c s t := ⟨⟨g, h, x.file, x.ref, x.ne.1, x.ne.2.1, x.ne.2.2.1, x.ne.2.2.2⟩, y⟩

theorem Two.keep {w0 w w' : World} {b g c h : Nat} {s t : FileS} (x : Two w0 w b g c h s t) {S : Nat → Prop} (f : Fr S w w') (h1 : ¬ S b) (h2 : ¬ S g) (h3 : ¬ S c) (h4 : ¬ S h) (h5 : ∀ k, S k → w0.heap.size ≤ k) : Two w0 w' b g c h s t :=
  ⟨x.fr.comp f (fun k hk q => by have := h5 k q; omega), x.file.keep f h1 h2, x.ref.keep f h3 h4, x.ne, x.lo⟩

def PlC (w : World) (b c gl e : Nat) (s t : FileS) (x y : Int) (v : Sl) (bs : List UInt8) : (Nat → Bool) → World → Prop := fun D w9 =>
  ∃ gg hh, Two w w9 b gg c hh (if D 2 = true then (appF s bs).1 else s) (if D 6 = true then (appF t bs).1 else t) ∧ IsB w9 (some ⟨gl, 0, none⟩, bs.length + 3, bs.length + 3) (lendL bs) ∧
    w9.heap[e]? = some (.cells #[.int .i64 x, .int .i64 y, .slice v.1 v.2.1 v.2.2] 73 (0, 0)) ∧ gg ≠ gl ∧ hh ≠ gl ∧ hh ≠ e

theorem plays17_walk (q0 : Int) (a : Option Addr) (len cap : Nat) (z : List ActV) (w : World) (h0 : (Go.Lit.int .i64 q0).wf = true) (h1 : IsActs w a len cap z) :
    Ret Try.prog 16 #[.int .i64 q0, .slice a len cap] w fun r w' => r = .bool true ∧ Fr none1 w w' := by
  have hlen := h1.len_le
  refine c16 q0 a len cap w _ ?_
  unfold C16
  refine JoinK.of (fun _ w' => w = w') ⟨⟨by omega, ifB.by (fun _ => ?_) (fun _ => rfl)⟩⟩ ?_
  · refine CallK.of (within_spec q0 60 w (by omega)) ?_
    rintro _ _ ⟨rfl, rfl⟩
    exact ⟨_, rfl, rfl⟩
  rintro _ ⟨q, _⟩ _ rfl
  dsimp only
  refine CallK.of (fnew_spec q w) ?_
  rintro _ w1 ⟨b, rfl, hb, f1, i1⟩
  refine ⟨some ⟨b, 0, none⟩, rfl, ?_⟩
  refine CallK.of (rnew_spec q w1) ?_
  rintro _ w2 ⟨c, rfl, hc, f2, i2⟩
  refine ⟨some ⟨c, 0, none⟩, rfl, ifB.f rfl ?_⟩
  have s01 := f1.size
  have bl1 := i1.lt
  have T0 : Two w w2 b b c c (newF q) (newF q) := ⟨f1.trans f2, i1.keep0 f2, i2, by omega, by omega⟩
  refine LoopK.of (fun s w' => 0 ≤ s.2.2.1 ∧ s.2.2.1 ≤ 20 ∧ ∃ b g c h s1 t1, s.1 = some ⟨b, 0, none⟩ ∧ s.2.1 = some ⟨c, 0, none⟩ ∧ Two w w' b g c h s1 t1 ∧ Sim s1 t1) (fun s _ => (20 - s.2.2.1).toNat)
    ⟨Int.le_refl _, by dsimp only; omega, b, b, c, c, newF q, newF q, rfl, rfl, T0, ⟨rfl, rfl, rfl, rfl, rfl, fun _ => rfl⟩⟩ ?_
  clear T0 i1 i2 f1 f2 hb hc s01 bl1
  rintro _ ⟨pb, pc, i, _⟩ w3 ⟨k0, k1, b, g, c, h, s, t, hpb, hpc, T, sim⟩
  dsimp only at k0 k1 hpb hpc ⊢
  subst hpb; subst hpc
  have done : CallK Try.prog 63 #[.pointer (some ⟨b, 0, none⟩), .pointer (some ⟨c, 0, none⟩)] w3 (.v (.one .bool)) (fun (x133 : Bool) w134 => ifB x133
  (CallK Try.prog 49 #[] w134 (.v (.one .bool)) (fun (x135 : Bool) w136 => (.bool x135 : Value) = .bool true ∧ Fr none1 w w136))
  ((.bool false : Value) = .bool true ∧ Fr none1 w w134)) := by
    refine CallK.of (fsame_spec (T.pair sim)) ?_
    rintro _ w4 ⟨rfl, f4⟩
    refine ⟨_, rfl, ifB.t rfl ?_⟩
    refine CallK.of (wakes17_spec w4) ?_
    rintro _ w5 ⟨rfl, f5⟩
    exact ⟨_, rfl, rfl, (T.fr.trans f4).trans f5⟩
  refine ifB.dec (fun hin => ?_) (fun _ => done)
  refine ifB.dec (fun hin2 => ?_) (fun _ => done)
  rw [wI (x := i + 1) (by omega) (by omega)]
  have tl : ∀ (b g c h : Nat) (s t : FileS) (w6 : World), Two w w6 b g c h s t → Sim s t →
      CallK Try.prog 63 #[.pointer (some ⟨b, 0, none⟩), .pointer (some ⟨c, 0, none⟩)] w6 (.v (.one .bool)) (fun (x55 : Bool) w56 => ifB (!x55)
  ((.bool false : Value) = .bool true ∧ Fr none1 w w56)
  (CallK Try.prog 46 #[.pointer (some ⟨b, 0, none⟩)] w56 (.v (.one .slc)) (fun (x57 : Option Addr × Nat × Nat) w58 => CallK Try.prog 50 #[.slice x57.1 x57.2.1 x57.2.2] w58 (.tup []) (fun (x59 : Unit) w60 => (0 ≤ i + 1 ∧ i + 1 ≤ 20 ∧ ∃ b' g' c' h' s1 t1, (some ⟨b, 0, none⟩ : Option Addr) = some ⟨b', 0, none⟩ ∧ (some ⟨c, 0, none⟩ : Option Addr) = some ⟨c', 0, none⟩ ∧ Two w w60 b' g' c' h' s1 t1 ∧ Sim s1 t1) ∧ (20 - (i + 1)).toNat < (20 - i).toNat)))) := fun b g c h s t w6 T sim => by
    refine CallK.of (fsame_spec (T.pair sim)) ?_
    rintro _ w7 ⟨rfl, f7⟩
    refine ⟨_, rfl, ifB.f rfl ?_⟩
    have T7 := T.keep0 f7
    refine CallK.of (fbytes_full T7.file) ?_
    rintro _ w8 ⟨u, rfl, hu, f8, huf, huq⟩
    refine ⟨u, rfl, ?_⟩
    refine CallK.of (spoil_spec huq) ?_
    rintro _ w9 ⟨rfl, f9⟩
    exact ⟨(), rfl, ⟨by omega, by omega, b, g, c, h, s, t, rfl, rfl, T7.keep0 (f8.comp f9 fun k hk q => by have := huf k q; omega), sim⟩, by omega⟩
  clear done
  refine acts_ld h1 T.fr k0 hin fun x y v bs hx hy hv hvk hbl => ?_
  refine NewK.of fun e w4 he he4 f4 _ => ?_
  refine StsK.blk he4 rfl rfl fun w5 he5 f5 _ => ?_
  dsimp only at he5 ⊢
  have f35 : Fr none1 w3 w5 := f4.fresh f5 (by omega)
  have T5 := T.keep0 f35
  have bl3 := T.file.lt
  have gl3 := T.file.glt
  have cl3 := T.ref.lt
  have hl3 := T.ref.glt
  have szw := T.fr.size
  refine LdK.fld he5 (x := x) rfl ?_
  refine CallK.of (within_spec x 11 w5 (by omega)) ?_
  rintro _ _ ⟨rfl, rfl⟩
  refine ⟨_, rfl, ?_⟩
  refine JoinK.of (fun _ w' => w5 = w') (ifB.by (fun _ => rfl) (fun _ => ifB.by (fun _ => rfl) (fun _ => ifB.by (fun _ => rfl) (fun _ => rfl)))) ?_
  rintro _ ⟨q1, _⟩ _ rfl
  dsimp only
  refine ifB.by (fun _ => ?_) (fun _ => ?_)
  · refine LdK.fld he5 (x := v) rfl ?_
    refine CallK.of (lend_spec (hv.keep0 T5.fr) hbl) ?_
    rintro _ w6 ⟨gl, rfl, hgl, hlend, f6⟩
    refine ⟨(some ⟨gl, 0, none⟩, bs.length, bs.length + 3), rfl, ?_⟩
    have T6 := T5.keep0 f6
    have s35 := f35.size
    have s56 := f6.size
    have r0 := drew_fr w6
    refine ⟨⟨PlC w b c gl e s t x y v bs, ⟨g, h, T6.keep0 r0, hlend.keep0 r0, r0.keep0 (f6.keep0 he5), by omega, by omega, by omega⟩, ?_⟩⟩
    have egl : ∀ w9, IsB w9 (some ⟨gl, 0, none⟩, bs.length + 3, bs.length + 3) (lendL bs) → RdB w9 (some ⟨gl, 0, none⟩, bs.length, bs.length + 3) bs := fun w9 hl => by
      have := hl.rd.2.2 _ rfl
      refine ⟨by simp, (fun q => nomatch q), fun ad had => ?_⟩
      injection had with had; subst had
      have := cellsAt_take _ 0 bs.length this
      rw [← List.map_take] at this
      unfold lendL at this
      rw [List.take_left] at this
      exact this
    refine ⟨(appF s bs).2, fun D w9 hD _ hC => ?_, ?_⟩
    · obtain ⟨gg, hh, TT, hl9, he9, n1, n2, n3⟩ := hC
      rw [hD, if_neg (by simp)] at TT
      have ltgl : gl < w9.heap.size := IsSl.lt hl9 ⟨_, rfl, rfl⟩
      refine CallK.of (fappend_spec TT.file (egl w9 hl9) (fun ⟨ad, had, q⟩ => by injection had with had; subst had; dsimp only at q; omega)) ?_
      rintro _ w10 ⟨rfl, t10⟩
      obtain ⟨g', hg', T10⟩ := TT.tof t10
      refine ⟨_, rfl, rfl, g', hh, ?_, hl9.keep t10.1 (fun k ⟨ad, had, q⟩ q2 => by injection had with had; subst had; dsimp only at q; have : k = b := q2; omega), t10.1.keep he9 (fun q => by have : e = b := q; omega), ?_, n2, n3⟩
      · rw [upd_self', if_pos rfl, upd_ne' _ (by decide)]; exact T10
      · rcases hg' with q | q | q <;> omega
    refine ⟨v, fun D w9 hD _ hC => ?_, ?_⟩
    · obtain ⟨gg, hh, TT, hl9, he9, n1, n2, n3⟩ := hC
      refine LdK.fld he9 (x := v) rfl ⟨rfl, gg, hh, ?_, hl9, he9, n1, n2, n3⟩
      rw [upd_ne' _ (by decide), upd_ne' _ (by decide)]; exact TT
    refine ⟨(appF t bs).2, fun D w9 hD hp hC => ?_, ?_⟩
    · obtain ⟨gg, hh, TT, hl9, he9, n1, n2, n3⟩ := hC
      rw [hD, if_neg (show ¬ false = true by simp)] at TT
      have ltgl : gl < w9.heap.size := IsSl.lt hl9 ⟨_, rfl, rfl⟩
      have lte := lt_of_blk he9
      refine CallK.of (rappend_spec TT.ref (hv.keep0 TT.fr) (fun hne q => by have := hvk hne c q; have := TT.lo; omega)) ?_
      rintro _ w10 ⟨rfl, t10⟩
      obtain ⟨h', hh', T10⟩ := TT.tor t10
      refine ⟨_, rfl, rfl, gg, h', ?_, hl9.keep t10.1 (fun k ⟨ad, had, q⟩ q2 => by injection had with had; subst had; dsimp only at q; rcases q2 with q2 | q2 <;> omega), t10.1.keep he9 (fun q => by rcases q with q | q <;> omega), n1, ?_, ?_⟩
      · rw [upd_self', if_pos rfl, upd_ne' _ (by decide)]; exact T10
      · rcases hh' with q | q | q <;> omega
      · rcases hh' with q | q | q <;> omega
    obtain ⟨ecode, simA⟩ := sim.app bs
    refine ifB.f (by rw [ecode]; simp) ?_
    refine ⟨v, fun D w9 hD _ hC => ?_, ?_⟩
    · obtain ⟨gg, hh, TT, hl9, he9, n1, n2, n3⟩ := hC
      refine LdK.fld he9 (x := v) rfl ⟨rfl, gg, hh, ?_, hl9, he9, n1, n2, n3⟩
      rw [upd_ne' _ (by decide), upd_ne' _ (by decide)]; exact TT
    refine ⟨true, fun D w9 hD _ hC => ?_, ?_⟩
    · obtain ⟨gg, hh, TT, hl9, he9, n1, n2, n3⟩ := hC
      refine CallK.of (intact_spec hl9 (hv.keep0 TT.fr) hbl) ?_
      rintro _ w10 ⟨rfl, f10⟩
      refine ⟨true, rfl, rfl, gg, hh, ?_, hl9.keep0 f10, f10.keep0 he9, n1, n2, n3⟩
      rw [upd_ne' _ (by decide), upd_ne' _ (by decide)]; exact TT.keep0 f10
    intro w9 hC
    obtain ⟨gg, hh, TT, hl9, he9, n1, n2, n3⟩ := hC
    have TT : Two w w9 b gg c hh (appF s bs).1 (appF t bs).1 := TT
    refine ifB.f rfl ?_
    refine CallK.of (spoil_spec (v := (some ⟨gl, 0, none⟩, bs.length, bs.length + 3)) ⟨by dsimp only; omega, lendL bs, hl9⟩) ?_
    rintro _ w10 ⟨rfl, f10⟩
    refine ⟨(), rfl, ?_⟩
    have only1 : ∀ k, blkOf (some (⟨gl, 0, none⟩ : Addr), bs.length, bs.length + 3) k → k = gl := fun k ⟨ad, had, q⟩ => by injection had with had; subst had; exact q
    exact tl b gg c hh _ _ w10 (TT.keep f10 (fun q => by have := only1 _ q; omega) (fun q => by have := only1 _ q; omega) (fun q => by have := only1 _ q; omega) (fun q => by have := only1 _ q; omega) (fun k q => by have := only1 _ q; omega)) simA
  refine JoinK.of (fun _ w' => w5 = w') (ifB.by (fun _ => rfl) (fun _ => rfl)) ?_
  rintro _ ⟨q2, _⟩ _ rfl
  dsimp only
  refine ifB.by (fun _ => ?_) (fun _ => ?_)
  · refine CallK.of (fsync_spec T5.file) ?_
    rintro _ w6 ⟨rfl, t6⟩
    obtain ⟨g', _, T6⟩ := T5.tof t6
    refine ⟨_, rfl, ?_⟩
    refine CallK.of (rsync_spec T6.ref) ?_
    rintro _ w7 ⟨rfl, t7⟩
    obtain ⟨h', _, T7⟩ := T6.tor t7
    obtain ⟨ecode, simA⟩ := sim.sync
    refine ⟨_, rfl, ifB.f (by rw [ecode]; simp) ?_⟩
    exact tl b g' c h' _ _ w7 T7 simA
  refine ifB.by (fun _ => ?_) (fun _ => ?_)
  · refine DrewK.of fun w6 _ f6 => ?_
    have T6 := T5.keep0 f6
    have he6 := f6.keep0 he5
    refine LdK.fld he6 (x := y) rfl ?_
    obtain ⟨⟨sl, hcb, hsl, _⟩, _, okr⟩ := T6.ref
    refine LdK.fld hcb (x := sl) rfl ?_
    have hslen := hsl.len
    have hok := okr.len
    rw [wI (x := (sl.2.1 : Int) + 3) (by omega) (by omega)]
    refine CallK.of (within_spec y ((sl.2.1 : Int) + 3) w6 (by omega)) ?_
    rintro _ _ ⟨rfl, rfl⟩
    refine ⟨_, rfl, ?_⟩
    generalize IntKind.i64.wrap (within y ((sl.2.1 : Int) + 3) - 1) = n
    refine CallK.of (fcut_spec T6.file n) ?_
    rintro _ w7 ⟨rfl, t7⟩
    obtain ⟨g', _, T7⟩ := T6.tof t7
    refine ⟨_, rfl, ?_⟩
    refine CallK.of (rcut_spec T7.ref n) ?_
    rintro _ w8 ⟨rfl, t8⟩
    obtain ⟨h', _, T8⟩ := T7.tor t8
    obtain ⟨ecode, simA⟩ := sim.cut n
    refine ⟨_, rfl, ifB.f (by rw [ecode]; simp) ?_⟩
    exact tl b g' c h' _ _ w8 T8 simA
  refine ifB.by (fun _ => ?_) (fun _ => ?_)
  · refine LdK.fld he5 (x := y) rfl ?_
    refine CallK.of (within_spec y 5 w5 (by omega)) ?_
    rintro _ _ ⟨rfl, rfl⟩
    refine ⟨_, rfl, ?_⟩
    generalize hn : IntKind.i64.wrap (within y 5 - 1) = n
    refine CallK.of (ffuse_spec T5.file n) ?_
    rintro _ w6 ⟨rfl, t6⟩
    obtain ⟨g', _, T6⟩ := T5.tof t6
    refine ⟨(), rfl, ?_⟩
    have he6 := t6.1.keep he5 (fun q => by have : e = b := q; omega)
    refine LdK.fld he6 (x := y) rfl ?_
    refine CallK.of (within_spec y 5 w6 (by omega)) ?_
    rintro _ _ ⟨rfl, rfl⟩
    refine ⟨_, rfl, ?_⟩
    rw [hn]
    refine CallK.of (rfuse_spec T6.ref n) ?_
    rintro _ w7 ⟨rfl, t7⟩
    obtain ⟨h', _, T7⟩ := T6.tor t7
    refine ⟨(), rfl, ?_⟩
    exact tl b g' c h' _ _ w7 T7 (sim.fuse' n)
  refine JoinK.of (fun _ w' => w5 = w') (ifB.by (fun _ => rfl) (fun _ => rfl)) ?_
  rintro _ ⟨q3, _⟩ _ rfl
  dsimp only
  refine ifB.by (fun _ => ?_) (fun _ => ?_)
  · refine LdK.fld he5 (x := y) rfl ?_
    refine LdK.fld he5 (x := v) rfl ?_
    refine CallK.of (fcrash_spec T5.file y (IntKind.u8.wrap (v.2.1 : Int))) ?_
    rintro _ w6 ⟨rfl, t6⟩
    obtain ⟨g', _, T6⟩ := T5.tof t6
    refine ⟨(), rfl, ?_⟩
    have he6 := t6.1.keep he5 (fun q => by have : e = b := q; omega)
    refine LdK.fld he6 (x := y) rfl ?_
    refine LdK.fld he6 (x := v) rfl ?_
    refine CallK.of (rcrash_spec T6.ref y (IntKind.u8.wrap (v.2.1 : Int))) ?_
    rintro _ w7 ⟨rfl, t7⟩
    obtain ⟨h', _, T7⟩ := T6.tor t7
    refine ⟨(), rfl, ?_⟩
    exact tl b g' c h' _ _ w7 T7 (sim.crash y _)
  · refine CallK.of (fclone_spec T5.file) ?_
    rintro _ w6 ⟨b', g', rfl, f6, hb', hg', j6⟩
    refine ⟨some ⟨b', 0, none⟩, rfl, ?_⟩
    have T6 := T5.keep0 f6
    refine CallK.of (rcopy_spec T6.ref) ?_
    rintro _ w7 ⟨c', h', rfl, f7, hc', hh', j7⟩
    refine ⟨some ⟨c', 0, none⟩, rfl, ?_⟩
    have s56 := f6.size
    have s35 := f35.size
    have l1 := j6.lt
    have l2 := j6.glt
    exact tl b' g' c' h' _ _ w7 ⟨T6.fr.trans f7, j6.keep0 f7, j7, by omega, by omega⟩ sim

end Go.Proofs.Ytejhjjafmobmbaa
