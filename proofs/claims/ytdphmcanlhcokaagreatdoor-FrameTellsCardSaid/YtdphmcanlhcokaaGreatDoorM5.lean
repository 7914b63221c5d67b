/-
  Texts of this claim, put together: OddSpec, FrOdd, KeyCopy, RefFr3, CFTell, FTell.
  Conditions: those of each theorem.
-/
import Derived.Test.YtdphmcanlhcokaaGreatDoorM0
import Derived.Test.YtdphmcanlhcokaaGreatDoorM4
import Derived.KernelRfl
import Derived.Test.YtdphmcanlhcokaaGreatDoorProg
/-! ### OddSpec -/
set_option linter.unusedVariables false
set_option maxRecDepth 100000
namespace Go.Proofs.YtdphmcanlhcokaaGreatDoor
open Vc

/-- A value that is no contract, and not nil. -/
def OddV (v : Value) : Prop := ∃ u x, v = .iface u x ∧ u ≠ 188 ∧ u ≠ 102 ∧ u ≠ 190 ∧ u ≠ 192 ∧ u ≠ 194 ∧ u ≠ 197 ∧ u ≠ 199 ∧ u ≠ 201
theorem OddV.one {v : Value} (h : OddV v) : one1 v = true := by obtain ⟨u, x, rfl, _⟩ := h; rfl
theorem OddV.nil {v : Value} (h : OddV v) : nilT v = false := by obtain ⟨u, x, rfl, _⟩ := h; rfl
theorem OddV.ifc {v : Value} (h : OddV v) : ifcT v := by obtain ⟨u, x, rfl, _⟩ := h; exact .inr ⟨_, _, rfl⟩
/-- A value as a contract: one, or none (odd tells that it is no nil then). -/
def TmI (v : Value) (t : Tm) (od : Bool) : Prop := (v = t.v ∧ od = false) ∨ (t = .none ∧ OddV v ∧ od = true)
theorem TmI.one {v : Value} {t : Tm} {od : Bool} (h : TmI v t od) : one1 v = true := by rcases h with ⟨rfl, _⟩ | ⟨_, h, _⟩; exact Tm.v_one t; exact h.one
theorem TmI.cells {v : Value} {t : Tm} {od : Bool} (h : TmI v t od) : v.cells = #[v] := by
  rcases h with ⟨rfl, _⟩ | ⟨_, ⟨u, x, rfl, _⟩, _⟩
  · exact Tm.v_cells t
  · rfl
theorem TmI.ifc {v : Value} {t : Tm} {od : Bool} (h : TmI v t od) : ifcT v := by
  rcases h with ⟨rfl, _⟩ | ⟨_, h, _⟩
  · cases t <;> first | (exact .inl rfl) | (exact .inr ⟨_, _, rfl⟩)
  · exact h.ifc

theorem odd_kind {v : Value} (h : OddV v) (w : World) : Ret Tryz.prog 72 #[v] w fun r w' => r = .int .i64 0 ∧ w = w' := by
  obtain ⟨u, x, rfl, h1, h2, h3, h4, h5, h6, h7, h8⟩ := h
  refine c72 _ w _ ?_
  unfold C72
  exact TaK.miss rfl h1 (TaK.miss rfl h2 (TaK.miss rfl h3 (TaK.miss rfl h4 (TaK.miss rfl h5 (TaK.miss rfl h6 (TaK.miss rfl h7 (TaK.miss rfl h8 ⟨rfl, rfl⟩)))))))
theorem odd_own {v : Value} (h : OddV v) (w : World) : Ret Tryz.prog 73 #[v] w fun r w' => r = .tuple #[.string (str []), .int .i64 0] ∧ Fr none1 w w' := by
  obtain ⟨u, x, rfl, h1, h2, h3, h4, h5, h6, h7, h8⟩ := h
  refine c73 _ w _ ?_
  unfold C73
  have f0 := Fr.refl none1 w
  refine TaK.miss rfl h2 (lay0 (zs := [.string (⟨#[]⟩ : ByteArray)]) f0 rfl fun w1 f1 => ?_)
  refine TaK.miss rfl h5 (lay0 (zs := [.string (⟨#[]⟩ : ByteArray), .nilIface, .nilIface]) f1 rfl fun w2 f2 => ?_)
  refine TaK.miss rfl h7 (lay0 (zs := [.int .i64 0, .nilIface]) f2 rfl fun w3 f3 => ?_)
  exact ⟨rfl, f3⟩
theorem odd_form {v : Value} (h : OddV v) (w : World) : Ret Tryz.prog 125 #[v] w fun r w' => r = .bool false ∧ Fr none1 w w' := by
  refine c125 v w _ ?_
  unfold C125
  refine CallK.of (odd_own h w) ?_
  rintro _ w1 ⟨rfl, f1⟩
  refine ⟨(str [], 0, ()), rfl, ?_⟩
  dsimp only
  refine JoinK.of (fun s w' => w1 = w') ?_ ?_
  · refine CallK.of (odd_kind h w1) ?_
    rintro _ _ ⟨rfl, rfl⟩
    refine ⟨_, rfl, ?_⟩
    refine CallK.of (tkind_spec (.one []) w1) ?_
    rintro _ _ ⟨rfl, rfl⟩
    refine ⟨_, rfl, ifB.eq (fun h => rfl) (fun _ => ?_)⟩
    refine CallK.of (odd_kind h w1) ?_
    rintro _ _ ⟨rfl, rfl⟩
    refine ⟨_, rfl, ?_⟩
    refine CallK.of (tkind_spec (.or [] .none .none) w1) ?_
    rintro _ _ ⟨rfl, rfl⟩
    exact ⟨_, rfl, rfl⟩
  rintro _ ⟨s, _⟩ _ rfl
  dsimp only
  refine JoinK.of (fun s w' => s.1 = true ∧ w1 = w') ?_ ?_
  · refine CallK.of (odd_kind h w1) ?_
    rintro _ _ ⟨rfl, rfl⟩
    exact ⟨_, rfl, ifB.t rfl ⟨rfl, rfl⟩⟩
  rintro _ ⟨s, _⟩ _ ⟨hs, rfl⟩
  dsimp only at hs ⊢
  subst hs
  exact ifB.t rfl ⟨rfl, f1⟩
theorem odd_check {v : Value} (h : OddV v) (w : World) : Ret Tryz.prog 95 #[v] w fun r w' => r = .int .i64 2 ∧ Fr none1 w w' := by
  refine c95 v w _ ?_
  refine CallK.of (odd_form h w) ?_
  rintro _ w1 ⟨rfl, f1⟩
  exact ⟨_, rfl, ifB.t rfl ⟨rfl, f1⟩⟩
theorem odd_write {v : Value} (h : OddV v) (w : World) : Ret Tryz.prog 64 #[v] w fun r w' => r = .tuple #[.string (str []), .int .i64 2] ∧ Fr none1 w w' := by
  refine c64 v w _ ?_
  refine CallK.of (odd_check h w) ?_
  rintro _ w1 ⟨rfl, f1⟩
  exact ⟨_, rfl, ifB.t rfl ⟨rfl, f1⟩⟩
theorem wrote_i {v : Value} {t : Tm} {od : Bool} (h : TmI v t od) (hn : nodesT t ≤ 1000000) {w : World} (ht : TabW w) : Wrote w v (writeT t).1 (writeT t).2 := by
  rcases h with ⟨rfl, _⟩ | ⟨rfl, h, _⟩
  · exact wrote_tm t hn ht
  · intro w1 f1; exact odd_write h w1
theorem plain_i {v : Value} {t : Tm} {od : Bool} (h : TmI v t od) (w : World) : Ret Tryz.prog 87 #[v] w fun r w' => ∃ v : TV, r = tvA v ∧ Made w w' (trT t) v ∧ Fr none1 w w' := by
  rcases h with ⟨rfl, _⟩ | ⟨rfl, ⟨u, x, rfl, h1, h2, h3, h4, h5, h6, h7, h8⟩, _⟩
  · exact plainT_spec t w
  · refine c87 _ w _ ?_
    unfold C87
    refine TB.new fun g1 w1 hg1 t1 f1 hs1 => ?_
    refine TaK.miss rfl h1 (TaK.miss rfl h2 (TaK.miss rfl h3 (TaK.miss rfl h4 (TaK.miss rfl h5 (TaK.miss rfl h6 (TaK.miss rfl h7 (TaK.miss rfl h8 ?_)))))))
    exact leaf_tell f1 (by omega) t1 0 [] 0 fun v w2 f2 m2 => ⟨v, rfl, m2, f2⟩

theorem event_i (e : EvT) (t : Tm) {od : Bool} (he : TmI e.2.2.2.2.2.2.2.1 t od) (w : World) :
    Ret Tryz.prog 51 #[evA e] w fun r w' => ∃ v : TV, r = evRA (evR e v) ∧ Made w w' (trT t) v ∧ Fr none1 w w' := by
  refine c51 e w _ ?_
  unfold C51
  refine NewK.of fun g w1 hg hb f1 hs1 => NewK.of fun g3 w2 hg3 hb3 f2 hs2 => ?_
  have hb2 := f2.keep0 hb
  refine DrewK.of fun w3 _ f3 => HoldK.of (fun k => k ≠ g3) ?_
  have hb3' := f3.keep0 hb2
  have hn : g ≠ g3 := by omega
  refine ⟨by rw [addr_add]; exact hn, LdK.fld hb3' (x := e.1) rfl ?_⟩
  refine ⟨by rw [addr_add]; exact hn, LdK.fld hb3' (x := e.2.1) rfl ?_⟩
  refine ⟨by rw [addr_add]; exact hn, LdK.fld hb3' (x := e.2.2.1) rfl ?_⟩
  refine ⟨by rw [addr_add]; exact hn, LdK.fld hb3' (x := e.2.2.2.1) rfl ?_⟩
  refine ⟨by rw [addr_add]; exact hn, LdK.fld hb3' (x := e.2.2.2.2.1) rfl ?_⟩
  refine ⟨by rw [addr_add]; exact hn, LdK.fld hb3' (x := e.2.2.2.2.2.1) rfl ?_⟩
  refine ⟨by rw [addr_add]; exact hn, LdK.fld hb3' (x := e.2.2.2.2.2.2.1) rfl ?_⟩
  refine ⟨by rw [addr_add]; exact hn, LdK.fld (c := .raw) hb3' (x := e.2.2.2.2.2.2.2.1) rfl ?_⟩
  have f13 := (f1.trans f2).trans f3
  refine CallK.of (plain_i he w3) ?_
  rintro _ w4 ⟨v, rfl, mv, f4⟩
  refine ⟨v, rfl, KeepK.of f4 ?_⟩
  have s3 := f3.size
  have s13 := f13.size
  refine StsK.blk (cs := evRL (0, (⟨#[]⟩ : ByteArray), (⟨#[]⟩ : ByteArray), (⟨#[]⟩ : ByteArray), (⟨#[]⟩ : ByteArray), 0, 0, 0, (⟨#[]⟩ : ByteArray), 0, (none, 0, 0), ())) (vs := evRL (evR e v)) ((f3.trans f4).keep0 hb3) rfl rfl fun w5 hb5 f5 _ => KeepK.on f5 (fun k hk t => hk t) ?_
  refine LdsK.blk (cks := ERK) (x := evR e v) hb5 ⟨v, rfl, ?_, (f13.trans f4).fresh f5 (by have := f1.size; omega)⟩
  exact (mv.keep f5 fun k hk _ t => by have : k = g3 := t; omega).older s13
theorem frref_i (f : FrT) (t : Tm) {od : Bool} (he : TmI (frE f).2.2.2.2.2.2.2.1 t od) (w : World) :
    Ret Tryz.prog 27 #[frA f] w fun r w' => ∃ v : TV, r = frRA (frR f v) ∧ Made w w' (trT t) v ∧ Fr none1 w w' := by
  refine c27 f w _ ?_
  unfold C27
  refine NewK.of fun g w1 hg hb f1 hs1 => NewK.of fun g3 w2 hg3 hb3 f2 hs2 => ?_
  have hb2 : w2.heap[g]? = some (.cells (frL f).toArray 38 (0, 0)) := f2.keep0 hb
  refine DrewK.of fun w3 _ f3 => HoldK.of (fun k => k ≠ g3) ?_
  have hb3' := f3.keep0 hb2
  have hn : g ≠ g3 := by omega
  refine inG hn (LdK.fld hb3' (x := f.1) rfl (inG hn (LdK.fld hb3' (x := f.2.1) rfl (inG hn (LdK.fld hb3' (x := f.2.2.1) rfl (inG hn (LdK.fld hb3' (x := f.2.2.2.1) rfl ?_)))))))
  refine inG hn (LdK.fld hb3' (x := f.2.2.2.2.1) rfl (inG hn (LdK.fld hb3' (x := f.2.2.2.2.2.1) rfl (inG hn (LdK.fld hb3' (x := f.2.2.2.2.2.2.1) rfl (inG hn (fr_ev hb3' ?_)))))))
  have f13 := (f1.trans f2).trans f3
  refine CallK.of (event_i (frE f) t he w3) ?_
  rintro _ w4 ⟨v, rfl, mv, f4⟩
  refine ⟨evR (frE f) v, rfl, KeepK.of f4 ?_⟩
  have s3 := f3.size
  have s13 := f13.size
  refine StsK.blk (vs := frRL (frR f v)) ((f3.trans f4).keep0 hb3) rfl (frRL_one _) fun w5 hb5 f5 _ => KeepK.on f5 (fun k hk t => hk t) ?_
  refine LdsK.blk (cks := FRK) (x := frR f v) hb5 ⟨v, rfl, ?_, (f13.trans f4).fresh f5 (by have := f1.size; omega)⟩
  exact (mv.keep f5 fun k hk _ t => by have : k = g3 := t; omega).older s13

/-- What Odd answers: nil, or no contract. -/
theorem odd_is {g1 g6 g8 : Nat} {v : Sl} {i : Nat} {r : Value} (h : (oddL g1 g6 g8 v)[i]? = some r) : ∃ od, TmI r .none od ∧ od = !nilT r := by
  have odd : ∀ u x, u ≠ 188 ∧ u ≠ 102 ∧ u ≠ 190 ∧ u ≠ 192 ∧ u ≠ 194 ∧ u ≠ 197 ∧ u ≠ 199 ∧ u ≠ 201 → ∃ od, TmI (.iface u x) .none od ∧ od = !nilT (.iface u x) := fun u x h => ⟨true, .inr ⟨rfl, ⟨u, x, rfl, h⟩, rfl⟩, rfl⟩
  match i, h with
  | 0, h => injection h with h; subst h; exact ⟨false, .inl ⟨rfl, rfl⟩, rfl⟩
  | 1, h => injection h with h; subst h; exact odd _ _ (by decide)
  | 2, h => injection h with h; subst h; exact odd _ _ (by decide)
  | 3, h => injection h with h; subst h; exact odd _ _ (by decide)
  | 4, h => injection h with h; subst h; exact odd _ _ (by decide)
  | 5, h => injection h with h; subst h; exact odd _ _ (by decide)
  | 6, h => injection h with h; subst h; exact odd _ _ (by decide)
  | 7, h => injection h with h; subst h; exact odd _ _ (by decide)
  | 8, h => injection h with h; subst h; exact odd _ _ (by decide)
  | i + 9, h => cases h

/-- Some event, whatever odd is. -/
theorem some_i (c : CmV) (p1 p2 : Int) (p3 : ByteArray) (p4 : Int) {w : World} (hp : IsPl w (cmPl c)) :
    Ret Tryz.prog 25 #[.agg (cmL c).toArray, .int .i64 p1, .int .i64 p2, .string p3, .int .i64 p4] w fun r w' =>
      ∃ (e : EvT) (t : Tm) (v : TV) (od : Bool), r = .tuple #[evA e, evRA (evR e v), .bool od] ∧ TmI e.2.2.2.2.2.2.2.1 t od ∧ smallE e ∧ nodesT t ≤ 2000 ∧ shortT t ∧ Made w w' (trT t) v ∧ Fr none1 w w' := by
  refine c25 c p1 p2 p3 p4 w _ ?_
  unfold C25
  refine NewK.of fun g1 w1 hg1 hb1 f1 hs1 => NewK.of fun g3 w2 hg3 hb3 f2 hs2 => NewK.of fun g5 w3 hg5 hb5 f3 hs3 => ?_
  refine LdsK.blk (cks := [.int .i64, .int .i64, .int .i64, .int .i64, .int .i64, .str, .slc, .slc]) (x := c) ((f2.trans f3).keep0 hb1) ?_
  have f13 := (f1.trans f2).trans f3
  refine CallK.of (do_spec c 3 (hp.keep0 f13)) ?_
  rintro _ w4 ⟨x, rfl, hx, f4⟩
  refine ⟨x, rfl, ?_⟩
  have s4 := f4.size
  refine NewK.of fun g10 w5 hg10 hb10 f5 hs5 => ?_
  refine StsK.blk (cs := evRL (0, (⟨#[]⟩ : ByteArray), (⟨#[]⟩ : ByteArray), (⟨#[]⟩ : ByteArray), (⟨#[]⟩ : ByteArray), 0, 0, 0, (⟨#[]⟩ : ByteArray), 0, (none, 0, 0), ())) (vs := evRL x) hb10 rfl rfl fun w6 hb6 f6 hs6 => ?_
  have hx6 : Fine w6 (fun k => w3.heap.size ≤ k ∧ k < w4.heap.size) x := (hx.keep f5 (fun _ _ t => t) (fun _ h => h)).keep f6 (fun k hk t => by have : k = g10 := t; have := hk.2; omega) (fun _ h => h)
  refine JoinK.of (fun _ w' => (∃ y : EvR, w'.heap[g10]? = some (.cells (evRL y).toArray 43 (0, 0)) ∧ Fine w' (fun k => w3.heap.size ≤ k ∧ k < w4.heap.size) y) ∧ Fr (only g10) w6 w') ?_ ?_
  · obtain ⟨e, t, v, rfl, he, hz, hn, hsh, hT⟩ := hx6
    have kp : ∀ wd, Fr (only g10) w6 wd → IsTr wd (fun k => w3.heap.size ≤ k ∧ k < w4.heap.size) (trT t) v := fun wd f => IsTr.keep f (fun k hk q => by have : k = g10 := q; have := hk.2; omega) _ _ hT
    refine witK p1 20 (by decide) fun k _ _ => ?_
    refine ifB.by (fun _ => ?_) (fun _ => ?_)
    · refine witK p2 9 (by decide) fun n _ _ => StK.fld hb6 (by show 0 + 0 < 11; omega) rfl fun wd hb f _ => ?_
      exact ⟨⟨evR (n, e.2) v, hb, (n, e.2), t, v, rfl, he, hz, hn, hsh, kp wd f⟩, f⟩
    refine ifB.by (fun _ => ?_) (fun _ => ?_)
    · refine txtK p3 16 (by decide) (by decide) fun s hs => StK.fld hb6 (by show 0 + 1 < 11; omega) rfl fun wd hb f _ => ?_
      exact ⟨⟨evR (e.1, s, e.2.2) v, hb, (e.1, s, e.2.2), t, v, rfl, he, ⟨by show s.size ≤ _; omega, hz.2⟩, hn, hsh, kp wd f⟩, f⟩
    refine ifB.by (fun _ => ?_) (fun _ => ?_)
    · refine txtK p3 16 (by decide) (by decide) fun s hs => StK.fld hb6 (by show 0 + 2 < 11; omega) rfl fun wd hb f _ => ?_
      exact ⟨⟨evR (e.1, e.2.1, s, e.2.2.2) v, hb, (e.1, e.2.1, s, e.2.2.2), t, v, rfl, he, ⟨hz.1, by show s.size ≤ _; omega, hz.2.2⟩, hn, hsh, kp wd f⟩, f⟩
    refine ifB.by (fun _ => ?_) (fun _ => ?_)
    · refine txtK p3 16 (by decide) (by decide) fun s hs => StK.fld hb6 (by show 0 + 3 < 11; omega) rfl fun wd hb f _ => ?_
      exact ⟨⟨evR (e.1, e.2.1, e.2.2.1, s, e.2.2.2.2) v, hb, (e.1, e.2.1, e.2.2.1, s, e.2.2.2.2), t, v, rfl, he, ⟨hz.1, hz.2.1, by show s.size ≤ _; omega, hz.2.2.2⟩, hn, hsh, kp wd f⟩, f⟩
    refine ifB.by (fun _ => ?_) (fun _ => ?_)
    · refine txtK p3 16 (by decide) (by decide) fun s hs => StK.fld hb6 (by show 0 + 4 < 11; omega) rfl fun wd hb f _ => ?_
      exact ⟨⟨evR (e.1, e.2.1, e.2.2.1, e.2.2.2.1, s, e.2.2.2.2.2) v, hb, (e.1, e.2.1, e.2.2.1, e.2.2.2.1, s, e.2.2.2.2.2), t, v, rfl, he, ⟨hz.1, hz.2.1, hz.2.2.1, by show s.size ≤ _; omega⟩, hn, hsh, kp wd f⟩, f⟩
    refine ifB.by (fun _ => ?_) (fun _ => ?_)
    · refine StK.fld hb6 (by show 0 + 5 < 11; omega) rfl fun wd hb f _ => ?_
      exact ⟨⟨evR (e.1, e.2.1, e.2.2.1, e.2.2.2.1, e.2.2.2.2.1, p2, e.2.2.2.2.2.2) v, hb, (e.1, e.2.1, e.2.2.1, e.2.2.2.1, e.2.2.2.2.1, p2, e.2.2.2.2.2.2), t, v, rfl, he, hz, hn, hsh, kp wd f⟩, f⟩
    refine ifB.by (fun _ => ?_) (fun _ => ?_)
    · refine StK.fld hb6 (by show 0 + 6 < 11; omega) rfl fun wd hb f _ => ?_
      exact ⟨⟨evR (e.1, e.2.1, e.2.2.1, e.2.2.2.1, e.2.2.2.2.1, e.2.2.2.2.2.1, p2, e.2.2.2.2.2.2.2) v, hb, (e.1, e.2.1, e.2.2.1, e.2.2.2.1, e.2.2.2.2.1, e.2.2.2.2.2.1, p2, e.2.2.2.2.2.2.2), t, v, rfl, he, hz, hn, hsh, kp wd f⟩, f⟩
    · exact ⟨⟨evR e v, hb6, e, t, v, rfl, he, hz, hn, hsh, hT⟩, Fr.refl _ _⟩
  rintro _ _ w7 ⟨⟨y, hb7, e0, t0, v0, rfl, he0, hz0, hn0, hsh0, hT⟩, f7⟩
  refine LdsK.blk (cks := ERK) (x := evR e0 v0) hb7 ?_
  refine CallK.of (back_spec e0 t0 he0 hT) ?_
  rintro _ w8 ⟨rfl, f8⟩
  refine ⟨e0, rfl, ?_⟩
  have hone0 : one1 e0.2.2.2.2.2.2.2.1 = true := by rw [he0]; exact Tm.v_one t0
  refine ns_ok (zs := [.int .i64 0, .string (⟨#[]⟩ : ByteArray), .string (⟨#[]⟩ : ByteArray), .string (⟨#[]⟩ : ByteArray), .string (⟨#[]⟩ : ByteArray), .int .i64 0, .int .i64 0, .nilIface]) (vs := evL e0) rfl (evL_one hone0) fun g38 w9 hg38 hb9 f9 => ?_
  have s5 := f5.size; have s6 := f6.size; have s7 := f7.size; have s8 := f8.size; have s9 := f9.size
  have f36 : Fr none1 w3 w6 := (f4.trans f5).fresh f6 (by omega)
  have f39 : Fr none1 w3 w9 := ((f36.fresh f7 (by omega)).trans f8).trans f9
  have tail : ∀ (e : EvT) (t : Tm) (od : Bool) (we : World), TmI e.2.2.2.2.2.2.2.1 t od → smallE e → nodesT t ≤ 2000 → shortT t → we.heap[g38]? = some (.cells (evL e).toArray 36 (0, 0)) → Fr none1 w3 we → g38 < we.heap.size →
      DrewK we (fun w57 => HoldK (fun S58 => InK S58 ⟨g38, 0, none⟩ (LdsK EK ⟨g38, 0, none⟩ w57 (fun (x59 : Cs EK) => InK S58 ⟨g38, 0, none⟩ (LdsK EK ⟨g38, 0, none⟩ w57 (fun (x60 : Cs EK) => CallK Tryz.prog 51 #[.agg (Cs.vals EK x60).toArray] w57 (.v (.agg ERK)) (fun (x61 : Cs ERK) w62 => KeepK S58 w57 w62 (StsK ⟨g3, 0, none⟩ (Cs.vals EK x59) w62 (fun w63 => KeepK S58 w62 w63 (StsK ⟨g5, 0, none⟩ (Cs.vals ERK x61) w63 (fun w64 => KeepK S58 w63 w64 (LdsK EK ⟨g3, 0, none⟩ w64 (fun (x65 : Cs EK) => LdsK ERK ⟨g5, 0, none⟩ w64 (fun (x66 : Cs ERK) =>
        ∃ (e : EvT) (t : Tm) (v : TV) (od' : Bool), (Value.tuple #[.agg (Cs.vals EK x65).toArray, .agg (Cs.vals ERK x66).toArray, .bool od]) = .tuple #[evA e, evRA (evR e v), .bool od'] ∧ TmI e.2.2.2.2.2.2.2.1 t od' ∧ smallE e ∧ nodesT t ≤ 2000 ∧ shortT t ∧ Made w w64 (trT t) v ∧ Fr none1 w w64)))))))))))))) := fun e t od we he hz hn hsh hbe f3e hge => by
    have hone : one1 e.2.2.2.2.2.2.2.1 = true := he.one
    refine DrewK.of fun wa _ fa => HoldK.of (fun k => k = g38) ⟨rfl, ?_⟩
    refine LdsK.blk (cks := EK) (x := e) (fa.keep0 hbe) ⟨rfl, LdsK.blk (cks := EK) (x := e) (fa.keep0 hbe) ?_⟩
    refine CallK.of (event_i e t he wa) ?_
    rintro _ wb ⟨v2, rfl, mv, fb⟩
    refine ⟨evR e v2, rfl, KeepK.of fb ?_⟩
    have f3b : Fr none1 w3 wb := (f3e.trans fa).trans fb
    have s3b := f3b.size
    have sab := fa.size
    have s3e := f3e.size
    refine StsK.blk (cs := [.int .i64 0, .string (⟨#[]⟩ : ByteArray), .string (⟨#[]⟩ : ByteArray), .string (⟨#[]⟩ : ByteArray), .string (⟨#[]⟩ : ByteArray), .int .i64 0, .int .i64 0, .nilIface]) (vs := evL e) ((f3.trans f3b).keep0 hb3) rfl (evL_one hone) fun wc hbc fc _ => KeepK.on fc (fun k hk q => by have : g3 = k := q.symm; omega) ?_
    refine StsK.blk (cs := evRL (0, (⟨#[]⟩ : ByteArray), (⟨#[]⟩ : ByteArray), (⟨#[]⟩ : ByteArray), (⟨#[]⟩ : ByteArray), 0, 0, 0, (⟨#[]⟩ : ByteArray), 0, (none, 0, 0), ())) (vs := evRL (evR e v2)) (fc.keep (f3b.keep0 hb5) (fun q => by have : g5 = g3 := q; omega)) rfl rfl fun wd hbd fd _ => KeepK.on fd (fun k hk q => by have : g5 = k := q.symm; omega) ?_
    refine LdsK.blk (cks := EK) (x := e) (fd.keep hbc (fun q => by have : g3 = g5 := q; omega)) (LdsK.blk (cks := ERK) (x := evR e v2) hbd ?_)
    refine ⟨e, t, v2, od, rfl, he, hz, hn, hsh, ?_, ((f13.trans f3b).fresh fc (by omega)).fresh fd (by omega)⟩
    have m2 := (mv.keep fc (fun k hk _ q => by have : k = g3 := q; omega)).keep fd (fun k hk _ q => by have : k = g5 := q; omega)
    exact m2.older (by omega)
  have hl38 := lt_of_blk hb9
  refine ⟨by decide, ifB.by (fun _ => ?_) (fun _ => tail e0 t0 false w9 (.inl ⟨he0, rfl⟩) hz0 hn0 hsh0 hb9 f39 hl38)⟩
  refine ⟨by decide, ?_⟩
  refine CallK.of (odd_spec _ w9) ?_
  rintro r wo ⟨⟨q1, q6, q8, qv, hr⟩, fo⟩
  obtain ⟨od, hod, hodn⟩ := odd_is hr
  refine ⟨r, rfl, ⟨hod.cells, ?_⟩⟩
  have hbo := fo.keep0 hb9
  obtain ⟨a1, a2, a3, a4⟩ := setCells_all (T := 36) (b := g38) [r] wo [.int .i64 e0.1, .string e0.2.1, .string e0.2.2.1, .string e0.2.2.2.1, .string e0.2.2.2.2.1, .int .i64 e0.2.2.2.2.2.1, .int .i64 e0.2.2.2.2.2.2.1] [e0.2.2.2.2.2.2.2.1] hbo rfl (by simp [hod.one])
  refine ⟨writes_shift _ _ 0 a1, ?_⟩
  rw [setCells_shift]
  obtain ⟨en, hen⟩ : ∃ en : EvT, en = (e0.1, e0.2.1, e0.2.2.1, e0.2.2.2.1, e0.2.2.2.2.1, e0.2.2.2.2.2.1, e0.2.2.2.2.2.2.1, r, ()) := ⟨_, rfl⟩
  have a2' : (setCells wo ⟨g38, 0, none⟩ (7 + 0) [r]).heap[g38]? = some (.cells (evL en).toArray 36 (0, 0)) := by rw [hen]; exact a2
  have fo' : Fr none1 w3 (setCells wo ⟨g38, 0, none⟩ (7 + 0) [r]) := (f39.trans fo).fresh a3 (by omega)
  generalize hwn : setCells wo ⟨g38, 0, none⟩ (7 + 0) [r] = wn at a2' fo' ⊢
  refine LdK.fld (c := .raw) a2' (x := r) (by rw [hen]; rfl) ?_
  refine ⟨!nilT r, _, nil_neq ifc_term _ hod.ifc _, ?_⟩
  rw [← hodn]
  exact tail en .none od wn (by rw [hen]; exact hod) (by rw [hen]; exact hz0) (by decide) trivial a2' fo' (lt_of_blk a2')

end Go.Proofs.YtdphmcanlhcokaaGreatDoor

/-! ### FrOdd -/
set_option linter.unusedVariables false
set_option maxRecDepth 100000
namespace Go.Proofs.YtdphmcanlhcokaaGreatDoor
open Vc

/-- The frame in block g, with its event's term. -/
structure FSi (w wc : World) (g1 g3 g5 g7 g : Nat) (x : RawV) (c : CmV) (f : FrT) (od : Bool) : Prop where
  b1 : wc.heap[g1]? = some (.cells (rawL x).toArray 25 (0, 0))
  b3 : wc.heap[g3]? = some (.cells (cmL c).toArray 31 (0, 0))
  b5 : wc.heap[g5]? = some (.cells (frL zeroFr.f).toArray 38 (0, 0))
  b7 : ∃ z : FRT, wc.heap[g7]? = some (.cells (frRL z).toArray 45 (0, 0))
  b : wc.heap[g]? = some (.cells (frL f).toArray 38 (0, 0))
  fr : Fr none1 w wc
  lo : w.heap.size ≤ g1 ∧ g1 < g3 ∧ g3 < g5 ∧ g5 < g7 ∧ g7 < g
  he : ∃ t : Tm, TmI (frE f).2.2.2.2.2.2.2.1 t od ∧ smallE (frE f) ∧ nodesT t ≤ 2000 ∧ shortT t
  hh : f.2.2.2.2.2.1 = x.2.2.2.2.2.1
theorem FSi.keep0 {w wc wd : World} {g1 g3 g5 g7 g : Nat} {x : RawV} {c : CmV} {f : FrT} {od : Bool} (h : FSi w wc g1 g3 g5 g7 g x c f od) (q : Fr none1 wc wd) : FSi w wd g1 g3 g5 g7 g x c f od :=
  ⟨q.keep0 h.b1, q.keep0 h.b3, q.keep0 h.b5, h.b7.imp fun _ t => q.keep0 t, q.keep0 h.b, h.fr.trans q, h.lo, h.he, h.hh⟩
/-- A write to the frame. -/
theorem FSi.put {w wc wd : World} {g1 g3 g5 g7 g : Nat} {x : RawV} {c : CmV} {f f' : FrT} {od od' : Bool} (h : FSi w wc g1 g3 g5 g7 g x c f od) (q : Fr (only g) wc wd) (hb : wd.heap[g]? = some (.cells (frL f').toArray 38 (0, 0)))
    (he : ∃ t : Tm, TmI (frE f').2.2.2.2.2.2.2.1 t od' ∧ smallE (frE f') ∧ nodesT t ≤ 2000 ∧ shortT t) (hh : f'.2.2.2.2.2.1 = f.2.2.2.2.2.1) : FSi w wd g1 g3 g5 g7 g x c f' od' := by
  obtain ⟨l1, l2, l3, l4, l5⟩ := h.lo
  exact ⟨q.keep h.b1 (fun t => by have : g1 = g := t; omega), q.keep h.b3 (fun t => by have : g3 = g := t; omega), q.keep h.b5 (fun t => by have : g5 = g := t; omega), h.b7.imp fun _ hz => q.keep hz (fun t => by have : g7 = g := t; omega), hb, h.fr.fresh q (by omega), h.lo, he, by rw [hh, h.hh]⟩

set_option maxHeartbeats 4000000 in
theorem frsome_i (x : RawV) (c : CmV) (odd : Int) {w : World} (hp : IsPl w (cmPl c)) :
    Ret Tryz.prog 6 #[.agg (rawL x).toArray, .agg (cmL c).toArray, .int .i64 odd] w fun r w' =>
      ∃ (f : FrT) (t : Tm) (v : TV) (od : Bool), r = .tuple #[frA f, frRA (frR f v), .bool od] ∧ TmI (frE f).2.2.2.2.2.2.2.1 t od ∧ smallE (frE f) ∧ nodesT t ≤ 2000 ∧ shortT t ∧ f.2.2.2.2.2.1 = x.2.2.2.2.2.1 ∧ Made w w' (trT t) v ∧ Fr none1 w w' := by
  refine c6 x c odd w _ ?_
  unfold C6
  refine NewK.of fun g1 w1 hg1 hb1 f1 hs1 => NewK.of fun g3 w2 hg3 hb3 f2 hs2 => NewK.of fun g5 w3 hg5 hb5 f3 hs3 => NewK.of fun g7 w4 hg7 hb7 f4 hs4 => ?_
  have hb1 : w1.heap[g1]? = some (.cells (rawL x).toArray 25 (0, 0)) := hb1
  have hb3 : w2.heap[g3]? = some (.cells (cmL c).toArray 31 (0, 0)) := hb3
  have hb5 : w3.heap[g5]? = some (.cells (frL zeroFr.f).toArray 38 (0, 0)) := hb5
  have hb7 : w4.heap[g7]? = some (.cells (frRL (frR zeroFr.f (0, str [], 0, (none, 0, 0), ()))).toArray 45 (0, 0)) := hb7
  have b14 := f4.keep0 (f3.keep0 (f2.keep0 hb1))
  have b34 := f4.keep0 (f3.keep0 hb3)
  have b54 := f4.keep0 hb5
  have F4 : Fr none1 w w4 := ((f1.trans f2).trans f3).trans f4
  have fin0 : ∀ (g : Nat) (wa wb : World), Fr none1 w4 wa → g7 < g → wb.heap[g]? = some (.cells (frL (fr0 x).f).toArray 38 (0, 0)) → Fr (only g) wa wb → FSi w wb g1 g3 g5 g7 g x c (fr0 x).f false := fun g wa wb fa hg hb fb => by
    have fr := (F4.trans fa).fresh fb (by omega)
    exact ⟨fb.keep (fa.keep0 b14) (fun t => by have : g1 = g := t; omega), fb.keep (fa.keep0 b34) (fun t => by have : g3 = g := t; omega), fb.keep (fa.keep0 b54) (fun t => by have : g5 = g := t; omega), ⟨_, fb.keep (fa.keep0 hb7) (fun t => by have : g7 = g := t; omega)⟩, hb, fr, by have := f1.size; omega, ⟨.none, .inl ⟨rfl, rfl⟩, zeroM_small, by decide, trivial⟩, rfl⟩
  refine JoinK.of (fun st w' => ∃ g, st.1 = some ⟨g, 0, none⟩ ∧ FSi w w' g1 g3 g5 g7 g x c (fr0 x).f false) ?_ ?_
  · refine DrewK.of fun w5 _ f5 => HoldK.of (fun k => k = g1) ?_
    have b15 := f5.keep0 b14
    refine inG rfl (LdK.fld b15 (x := x.1) rfl (inG rfl (LdK.fld b15 (x := x.2.1) rfl (inG rfl (LdK.fld b15 (x := x.2.2.1) rfl (inG rfl (LdK.fld b15 (x := x.2.2.2.1) rfl (inG rfl (LdK.fld b15 (x := x.2.2.2.2.1) rfl (inG rfl (LdK.fld b15 (x := x.2.2.2.2.2.1) rfl (inG rfl (LdK.fld b15 (x := x.2.2.2.2.2.2.1) rfl ?_)))))))))))))
    have endK : ∀ (g : Nat) (wa : World), Fr none1 w4 wa → wa.heap[g]? = some (.cells (frL zeroFr.f).toArray 38 (0, 0)) → g7 < g → StsK ⟨g, 0, none⟩ (frL (fr0 x).f) wa (fun wb => KeepK (fun k => k = g1) wa wb (∃ h, some (⟨g, 0, none⟩ : Addr) = some ⟨h, 0, none⟩ ∧ FSi w wb g1 g3 g5 g7 h x c (fr0 x).f false)) := fun g wa fa hb hg =>
      StsK.blk (cs := frL zeroFr.f) (vs := frL (fr0 x).f) hb rfl (frM_one _) fun wb hbb fb _ => KeepK.on fb (fun k hk t => by have : k = g := t; omega) ⟨g, rfl, fin0 g wa wb fa hg hbb fb⟩
    have s5 := f5.size
    have newK : ∀ {K : Nat → World → Prop}, (∀ g wa, Fr none1 w4 wa → wa.heap[g]? = some (.cells (frL zeroFr.f).toArray 38 (0, 0)) → g7 < g → K g wa) → NewK (.cells (frL zeroFr.f).toArray 38) w5 (fun g wa => KeepK (fun k => k = g1) w5 wa (K g wa)) := fun k =>
      NewK.of fun g wa hg hb fa hs => KeepK.of fa (k g wa (f5.trans fa) hb (by omega))
    repeat' first
      | (refine (⟨?_, ?_⟩ : AndK _ _))
      | (refine wthK _ _ (by decide) ?_)
      | (refine newK fun g wa fa hba hga => ?_)
      | exact endK _ _ fa hba hga
  rintro _ ⟨s10, _⟩ w5 ⟨g, hg10, S5⟩
  dsimp only at hg10 ⊢
  subst hg10
  have tail : ∀ (wa : World) (f : FrT) (od : Bool), FSi w wa g1 g3 g5 g7 g x c f od → DrewK wa (fun w110 => HoldK (fun S111 => optA (some (⟨g, 0, none⟩ : Addr)) (fun a112 => InK S111 a112 (LdsK FK a112 w110 (fun (x113 : Cs FK) => optA (some (⟨g, 0, none⟩ : Addr)) (fun a114 => InK S111 a114 (LdsK FK a114 w110 (fun (x115 : Cs FK) => CallK Tryz.prog 27 #[.agg (Cs.vals FK x115).toArray] w110 (.v (.agg FRK)) (fun (x116 : Cs FRK) w117 => KeepK S111 w110 w117 (StsK ⟨g5, 0, none⟩ (Cs.vals FK x113) w117 (fun w118 => KeepK S111 w117 w118 (StsK ⟨g7, 0, none⟩ (Cs.vals FRK x116) w118 (fun w119 => KeepK S111 w118 w119 (LdsK FK ⟨g5, 0, none⟩ w119 (fun (x120 : Cs FK) => LdsK FRK ⟨g7, 0, none⟩ w119 (fun (x121 : Cs FRK) =>
      ∃ (f : FrT) (t : Tm) (v : TV) (od' : Bool), (Value.tuple #[.agg (Cs.vals FK x120).toArray, .agg (Cs.vals FRK x121).toArray, .bool od]) = .tuple #[frA f, frRA (frR f v), .bool od'] ∧ TmI (frE f).2.2.2.2.2.2.2.1 t od' ∧ smallE (frE f) ∧ nodesT t ≤ 2000 ∧ shortT t ∧ f.2.2.2.2.2.1 = x.2.2.2.2.2.1 ∧ Made w w119 (trT t) v ∧ Fr none1 w w119)))))))))))))))) := fun wa f od S => by
    refine DrewK.of fun wb _ fb => HoldK.of (fun k => k = g) ?_
    have S := S.keep0 fb
    obtain ⟨l1, l2, l3, l4, l5⟩ := S.lo
    obtain ⟨t, he, hz, hn, hsh⟩ := S.he
    have l5b := lt_of_blk S.b5
    have l7b : g7 < wb.heap.size := by obtain ⟨z0, hz0⟩ := S.b7; exact lt_of_blk hz0
    have swb := S.fr.size
    refine ⟨rfl, LdsK.blk (cks := FK) (x := f) S.b ⟨rfl, LdsK.blk (cks := FK) (x := f) S.b ?_⟩⟩
    refine CallK.of (frref_i f t he wb) ?_
    rintro _ wc ⟨v, rfl, mv, fc⟩
    refine ⟨frR f v, rfl, KeepK.of fc ?_⟩
    have S := S.keep0 fc
    have hone : (frL f).all one1 = true := frL_one he.one
    refine StsK.blk (cs := frL zeroFr.f) (vs := frL f) S.b5 rfl hone fun wd hbd fd _ => KeepK.on fd (fun k hk q => by have : k = g5 := q; omega) ?_
    obtain ⟨z, hz7⟩ := S.b7
    refine StsK.blk (cs := frRL z) (vs := frRL (frR f v)) (fd.keep hz7 (fun q => by have : g7 = g5 := q; omega)) rfl (frRL_one _) fun we hbe fe _ => KeepK.on fe (fun k hk q => by have : k = g7 := q; omega) ?_
    refine LdsK.blk (cks := FK) (x := f) (fe.keep hbd (fun q => by have : g5 = g7 := q; omega)) (LdsK.blk (cks := FRK) (x := frR f v) hbe ?_)
    refine ⟨f, t, v, od, rfl, he, hz, hn, hsh, S.hh, ?_, (S.fr.fresh fd (by omega)).fresh fe (by omega)⟩
    exact ((mv.keep fd (fun k hk _ q => by have : k = g5 := q; omega)).keep fe (fun k hk _ q => by have : k = g7 := q; omega)).older swb
  -- the flag
  refine JoinK.of (fun _ w' => ∃ f : FrM, FSi w w' g1 g3 g5 g7 g x c f.f false ∧ f.m = zeroM) ?_ ?_
  · refine JoinK.of (fun _ w' => w5 = w') ?_ ?_
    · refine optA.on (LdK.fld S5.b (x := (fr0 x).2.2.2.1) rfl (ifB.by (fun _ => rfl) (fun _ => optA.on (LdK.fld S5.b (x := (fr0 x).2.2.2.1) rfl rfl))))
    rintro _ ⟨bl, _⟩ _ rfl
    refine ifB.by (fun _ => optA.on (StK.fld S5.b (by show 0 + 6 < 15; omega) rfl fun w6 hb6 f6 _ => ?_)) (fun _ => ⟨fr0 x, S5, rfl⟩)
    exact ⟨((fr0 x).1, (fr0 x).2.1, (fr0 x).2.2.1, (fr0 x).2.2.2.1, (fr0 x).2.2.2.2.1, (fr0 x).2.2.2.2.2.1, false, zeroM), S5.put f6 hb6 S5.he rfl, rfl⟩
  rintro _ _ w6 ⟨f, S6, hfz⟩
  -- the event
  refine JoinK.of (fun st w' => ∃ f : FrT, FSi w w' g1 g3 g5 g7 g x c f st.1) ?_ ?_
  · refine optA.on (LdK.fld S6.b (x := f.2.2.2.1) rfl (ifB.by (fun _ => ?_) (fun _ => ⟨f.f, S6⟩)))
    refine LdsK.blk (cks := [.int .i64, .int .i64, .int .i64, .int .i64, .int .i64, .str, .slc, .slc]) (x := c) S6.b3 ?_
    refine LdK.fld S6.b1 (x := x.2.2.2.2.2.2.2.1) rfl (LdK.fld S6.b1 (x := x.2.2.2.2.2.2.2.2.1) rfl (LdK.fld (c := .str) S6.b1 (x := x.2.2.2.2.2.2.2.2.2.1) rfl ?_))
    refine CallK.of (some_i c x.2.2.2.2.2.2.2.1 x.2.2.2.2.2.2.2.2.1 x.2.2.2.2.2.2.2.2.2.1 odd (hp.keep0 S6.fr)) ?_
    rintro _ w7 ⟨e, t, v, od, rfl, he, hz, hn, hsh, mt, f7⟩
    refine ⟨(e, evR e v, od, ()), rfl, optA.on ?_⟩
    have S7 := S6.keep0 f7
    have hone : (evL e).all one1 = true := evL_one he.one
    obtain ⟨a1, a2, a3, a4⟩ := setCells_all (T := 38) (b := g) (evL e) w7 [.int .i64 f.1, .int .i64 f.2.1, .int .i64 f.2.2.1, .int .i64 f.2.2.2.1, .int .i64 f.2.2.2.2.1, .int .u64 f.2.2.2.2.2.1, .bool f.2.2.2.2.2.2.1] (evL f.m.e) S7.b rfl hone
    refine ⟨writes_shift _ _ 0 a1, ?_⟩
    rw [setCells_shift]
    exact ⟨(f.1, f.2.1, f.2.2.1, f.2.2.2.1, f.2.2.2.2.1, f.2.2.2.2.2.1, f.2.2.2.2.2.2.1, e), S7.put a3 a2 ⟨t, he, hz, hn, hsh⟩ rfl⟩
  rintro _ ⟨st, _⟩ w8 ⟨f8, S8⟩
  dsimp only at S8 ⊢
  clear S6 S5 hfz
  refine LdK.fld S8.b1 (x := x.2.2.2.2.2.2.2.2.1) rfl ?_
  refine CallK.of (within_spec x.2.2.2.2.2.2.2.2.1 40 w8 (by decide)) ?_
  rintro _ _ ⟨rfl, rfl⟩
  refine ⟨_, rfl, ?_⟩
  refine ifB.by (fun _ => LdK.fld S8.b1 (x := x.1) rfl (optA.on (StK.fld S8.b (by show 0 + 0 < 15; omega) rfl fun w9 hb9 f9 _ => ?_))) (fun _ => ?_)
  · exact tail w9 (x.1, f8.2) st (S8.put f9 hb9 S8.he rfl)
  refine ifB.by (fun _ => LdK.fld S8.b1 (x := x.2.1) rfl (optA.on (StK.fld S8.b (by show 0 + 1 < 15; omega) rfl fun w9 hb9 f9 _ => ?_))) (fun _ => ?_)
  · exact tail w9 (f8.1, x.2.1, f8.2.2) st (S8.put f9 hb9 S8.he rfl)
  refine ifB.by (fun _ => LdK.fld S8.b1 (x := x.2.2.1) rfl (optA.on (StK.fld S8.b (by show 0 + 2 < 15; omega) rfl fun w9 hb9 f9 _ => ?_))) (fun _ => ?_)
  · exact tail w9 (f8.1, f8.2.1, x.2.2.1, f8.2.2.2) st (S8.put f9 hb9 S8.he rfl)
  refine ifB.by (fun _ => LdK.fld S8.b1 (x := x.2.2.2.1) rfl (optA.on (StK.fld S8.b (by show 0 + 3 < 15; omega) rfl fun w9 hb9 f9 _ => ?_))) (fun _ => ?_)
  · exact tail w9 (f8.1, f8.2.1, f8.2.2.1, x.2.2.2.1, f8.2.2.2.2) st (S8.put f9 hb9 S8.he rfl)
  refine ifB.by (fun _ => LdK.fld S8.b1 (x := x.2.2.2.2.1) rfl (optA.on (StK.fld S8.b (by show 0 + 4 < 15; omega) rfl fun w9 hb9 f9 _ => ?_))) (fun _ => ?_)
  · exact tail w9 (f8.1, f8.2.1, f8.2.2.1, f8.2.2.2.1, x.2.2.2.2.1, f8.2.2.2.2.2) st (S8.put f9 hb9 S8.he rfl)
  refine ifB.by (fun _ => LdK.fld (c := .bool) S8.b1 (x := x.2.2.2.2.2.2.1) rfl (optA.on (StK.fld S8.b (by show 0 + 6 < 15; omega) rfl fun w9 hb9 f9 _ => ?_))) (fun _ => ?_)
  · exact tail w9 (f8.1, f8.2.1, f8.2.2.1, f8.2.2.2.1, f8.2.2.2.2.1, f8.2.2.2.2.2.1, x.2.2.2.2.2.2.1, f8.2.2.2.2.2.2.2) st (S8.put f9 hb9 S8.he rfl)
  refine ifB.by (fun _ => ?_) (fun _ => tail w8 f8 st S8)
  refine CallK.of (odd_spec odd w8) ?_
  rintro r w9 ⟨⟨q1, q6, q8, qv, hr⟩, f9⟩
  obtain ⟨od, hod, hodn⟩ := odd_is hr
  have S9 := S8.keep0 f9
  refine ⟨r, rfl, optA.on ⟨hod.cells, ?_⟩⟩
  obtain ⟨a1, a2, a3, a4⟩ := setCells_all (T := 38) (b := g) [r] w9 [.int .i64 f8.1, .int .i64 f8.2.1, .int .i64 f8.2.2.1, .int .i64 f8.2.2.2.1, .int .i64 f8.2.2.2.2.1, .int .u64 f8.2.2.2.2.2.1, .bool f8.2.2.2.2.2.2.1, .int .i64 (frE f8).1, .string (frE f8).2.1, .string (frE f8).2.2.1, .string (frE f8).2.2.2.1, .string (frE f8).2.2.2.2.1, .int .i64 (frE f8).2.2.2.2.2.1, .int .i64 (frE f8).2.2.2.2.2.2.1] [(frE f8).2.2.2.2.2.2.2.1] S9.b rfl (by simp [hod.one])
  refine ⟨writes_shift _ _ 0 (writes_shift _ _ 7 a1), ?_⟩
  rw [setCells_shift, setCells_shift]
  obtain ⟨fn, hfn⟩ : ∃ fn : FrT, fn = (f8.1, f8.2.1, f8.2.2.1, f8.2.2.2.1, f8.2.2.2.2.1, f8.2.2.2.2.2.1, f8.2.2.2.2.2.2.1, (frE f8).1, (frE f8).2.1, (frE f8).2.2.1, (frE f8).2.2.2.1, (frE f8).2.2.2.2.1, (frE f8).2.2.2.2.2.1, (frE f8).2.2.2.2.2.2.1, r, ()) := ⟨_, rfl⟩
  have hzz : smallE (frE f8) := by obtain ⟨t, _, hz, _⟩ := S9.he; exact hz
  have S10 : FSi w _ g1 g3 g5 g7 g x c fn od := S9.put a3 (by rw [hfn]; exact a2) ⟨.none, by rw [hfn]; exact hod, by rw [hfn]; exact hzz, by decide, trivial⟩ (by rw [hfn])
  refine optA.on (LdK.fld (c := .raw) S10.b (x := r) (by rw [hfn]; rfl) ?_)
  refine ⟨!nilT r, _, nil_neq ifc_term _ hod.ifc _, ?_⟩
  rw [← hodn]
  exact tail _ fn od S10

end Go.Proofs.YtdphmcanlhcokaaGreatDoor

/-! ### KeyCopy -/
set_option linter.unusedVariables false
set_option maxRecDepth 100000
namespace Go.Proofs.YtdphmcanlhcokaaGreatDoor
open Vc

def zeroKey : List UInt8 := List.replicate 16 0
/-- The first sixteen bytes, zeros behind them. -/
def padK (ys : List UInt8) : List UInt8 := ys.take 16 ++ List.replicate (16 - ys.length) 0
theorem padK_len (ys : List UInt8) : (padK ys).length = 16 := by unfold padK; rw [List.length_append, List.length_take, List.length_replicate]; omega

theorem copy_key {w : World} {g : Nat} {T : TypeId} {y : Sl} {ys : List UInt8} (hb : w.heap[g]? = some (.cells (keyL zeroKey).toArray T (0, 0))) (hy : RdB w y ys) (o : TypeId) {K : Int → World → Prop}
    (k : ∀ r w', w'.heap[g]? = some (.cells (keyL (padK ys)).toArray T (0, 0)) → Fr (only g) w w' → K r w') :
    RunK Tryz.prog (Builtin.copy_ #[22, 22] o #[.slice (some ⟨g, 0, none⟩) 16 16, .slice y.1 y.2.1 y.2.2]) w (.v (.one (.int .i64))) (fun (x : Int) w' => K x w') := by
  obtain ⟨hu, ⟨i, hi, hs, hz, hby⟩, hc, hpos⟩ := elem_byte
  have hsize : ∀ w, (sizeOf 5).run Tryz.prog w = .ok 1 w := fun w => by rw [sizeof hi, hs]
  have hlen : ∀ w, (Builtin.lenOf (.slice y.1 y.2.1 y.2.2)).run Tryz.prog w = .ok y.2.1 w := fun w => rfl
  have hyl := hy.len
  obtain ⟨n, hn⟩ : ∃ n, n = min ys.length 16 := ⟨_, rfl⟩
  have hm : Nat.min y.2.1 16 = n := by rw [hyl, hn]
  have hyn : RdB w (y.1, n, y.2.2) (ys.take n) := by
    obtain ⟨h1, h2, h3⟩ := hy
    refine ⟨by simp; omega, fun e => ?_, fun a ha => ?_⟩
    · obtain ⟨e1, e2, e3⟩ := h2 e
      have : ys = [] := by simpa using e3
      subst this
      exact ⟨by simp [hn], e2, by simp⟩
    · rw [List.map_take]; exact cellsAt_take _ 0 n (h3 a ha)
  have hfst : (Builtin.firstCells 1 n (.slice y.1 y.2.1 y.2.2)).run Tryz.prog w = .ok ((ys.take n).map bc).toArray w := by
    have := RdSl.first (P := Tryz.prog) hyn
    obtain ⟨y1, y2, y3⟩ := y
    cases y1 <;> exact this
  obtain ⟨hw, cs', a1, a2, a3, a4, a5, a6⟩ := writes_blk ((ys.take n).map bc) w (keyL zeroKey).toArray 0 0 hb (by simp [keyL, zeroKey]; omega) (bc_one _)
  have habove := setCells_above ((ys.take n).map bc) w (keyL zeroKey).toArray cs' 0 0 hb a1
  have hcs : cs' = (keyL (padK ys)).toArray := by
    apply Array.ext'
    apply List.ext_getElem?
    intro j
    rw [Array.getElem?_toList]
    show cs'[j]? = (keyL (padK ys))[j]?
    simp only [List.length_map, List.length_take, Nat.zero_add] at habove a3
    unfold keyL padK
    rw [List.map_append]
    by_cases hj : j < n
    · have := a3 j (by omega)
      rw [this, List.getElem?_append_left (by simp; omega)]
      rw [show ys.take n = ys.take 16 by rw [hn, List.take_eq_take_iff]; omega]
    · have q := habove j (by omega)
      rw [q, List.getElem?_append_right (by simp; omega), List.getElem?_toArray]
      unfold keyL zeroKey
      rw [List.map_replicate, List.map_replicate, List.getElem?_replicate, List.getElem?_replicate]
      simp only [List.length_map, List.length_take]
      by_cases h16 : j < 16
      · rw [if_pos h16, if_pos (by omega)]
      · rw [if_neg h16, if_neg (by omega)]
  refine ⟨(n : Int), setCells w ⟨g, 0, none⟩ 0 ((ys.take n).map bc), ?_, k _ _ (by rw [← hcs]; exact a1) a5⟩
  unfold Builtin.copy_
  simp only [Sem.run_bind, under hu, Result.andThen_ok, hsize, List.getElem?_toArray, List.getElem?_cons_zero, List.getElem?_cons_succ, Sem.run_pure, hlen, hm, hfst]
  rw [show (storeCells ⟨g, 0, none⟩ (((ys.take n).map bc).toArray).toList 0).run Tryz.prog w = .ok () _ from storeCells_ok ((ys.take n).map bc) 0 w hw]
  rfl

/-- All of a key's array, as a slice. -/
theorem key_all {g : Nat} {K : Option Addr → Nat → Nat → Prop} (k : K (some ⟨g, 0, none⟩) 16 16) : SubK (some ⟨g, 0, none⟩) 16 0 16 16 1 K := by
  refine ⟨by decide, by decide, by decide, by decide, ?_⟩
  have e : (if (16 : Int) = 0 then some (⟨g, 0, none⟩ : Addr) else (some (⟨g, 0, none⟩ : Addr)).map (·.add ((0 : Int).toNat * 1))) = some ⟨g, 0, none⟩ := by
    rw [if_neg (by decide), Option.map_some, addr_add]; rfl
  rw [e]
  exact k

end Go.Proofs.YtdphmcanlhcokaaGreatDoor

/-! ### RefFr3 -/
set_option linter.unusedVariables false
set_option maxRecDepth 100000
namespace Go.Proofs.YtdphmcanlhcokaaGreatDoor
open Vc

def zTV : TV := (0, str [], 0, (none, 0, 0), ())
def zeroX : FRT := frR zeroFr.f zTV

end Go.Proofs.YtdphmcanlhcokaaGreatDoor

/-! ### CFTell -/
namespace Go.Proofs.YtdphmcanlhcokaaGreatDoor
open Vc
set_option maxRecDepth 100000
set_option linter.unusedVariables false
/-- handfast/handfastlaw19.FrameTells -/
def C3 (p0 : Option Addr) (p0l p0c : Nat) (p1 : YZ15) (p2 : YZ13) (p3 : Int) (w : World) (K : Value → World → Prop) : Prop :=
  NewK (.cells ((LZ15 p1).toArray) 25) w (fun g1 w2 => NewK (.cells ((LZ13 p2).toArray) 31) w2 (fun g3 w4 => NewK (.cells #[.int .u8 0, .int .u8 0, .int .u8 0, .int .u8 0, .int .u8 0, .int .u8 0, .int .u8 0, .int .u8 0, .int .u8 0, .int .u8 0, .int .u8 0, .int .u8 0, .int .u8 0, .int .u8 0, .int .u8 0, .int .u8 0] 33) w4 (fun g5 w6 => SubK (some (ad g5)) 16 0 16 16 1 (fun a7 l8 c9 => RunK Tryz.prog (Builtin.copy_ #[22, 22] 3 #[.slice a7 l8 c9, .slice p0 p0l p0c]) w6 (.v (.one (.int .i64))) (fun (x10 : Int) w11 => LdsK KZ15 (ad g1) w11 (fun (x12 : YZ15) => LdsK KZ13 (ad g3) w11 (fun (x13 : YZ13) => CallK Tryz.prog 6 #[.agg (LZ15 x12).toArray, .agg (LZ13 x13).toArray, .int .i64 p3] w11 (.tup [.agg KZ18, .agg KZ19, .one .bool]) (fun (x14 : YZ18 × YZ19 × Bool × Unit) w15 => NewK (.cells #[.int .i64 0, .int .i64 0, .int .i64 0, .int .i64 0, .int .i64 0, .int .u64 0, .bool false, .int .i64 0, .string (⟨#[]⟩ : ByteArray), .string (⟨#[]⟩ : ByteArray), .string (⟨#[]⟩ : ByteArray), .string (⟨#[]⟩ : ByteArray), .int .i64 0, .int .i64 0, .nilIface] 38) w15 (fun g16 w17 => NewK (.cells #[.int .i64 0, .int .i64 0, .int .i64 0, .int .i64 0, .int .i64 0, .int .u64 0, .bool false, .int .i64 0, .string (⟨#[]⟩ : ByteArray), .string (⟨#[]⟩ : ByteArray), .string (⟨#[]⟩ : ByteArray), .string (⟨#[]⟩ : ByteArray), .int .i64 0, .int .i64 0, .int .i64 0, .string (⟨#[]⟩ : ByteArray), .int .i64 0, .slice none 0 0] 45) w17 (fun g18 w19 => StsK (ad g16) [.int .i64 x14.1.1, .int .i64 x14.1.2.1, .int .i64 x14.1.2.2.1, .int .i64 x14.1.2.2.2.1, .int .i64 x14.1.2.2.2.2.1, .int .u64 x14.1.2.2.2.2.2.1, .bool x14.1.2.2.2.2.2.2.1, .int .i64 x14.1.2.2.2.2.2.2.2.1, .string x14.1.2.2.2.2.2.2.2.2.1, .string x14.1.2.2.2.2.2.2.2.2.2.1, .string x14.1.2.2.2.2.2.2.2.2.2.2.1, .string x14.1.2.2.2.2.2.2.2.2.2.2.2.1, .int .i64 x14.1.2.2.2.2.2.2.2.2.2.2.2.2.1, .int .i64 x14.1.2.2.2.2.2.2.2.2.2.2.2.2.2.1, x14.1.2.2.2.2.2.2.2.2.2.2.2.2.2.2.1] w19 (fun w20 => StsK (ad g18) [.int .i64 x14.2.1.1, .int .i64 x14.2.1.2.1, .int .i64 x14.2.1.2.2.1, .int .i64 x14.2.1.2.2.2.1, .int .i64 x14.2.1.2.2.2.2.1, .int .u64 x14.2.1.2.2.2.2.2.1, .bool x14.2.1.2.2.2.2.2.2.1, .int .i64 x14.2.1.2.2.2.2.2.2.2.1, .string x14.2.1.2.2.2.2.2.2.2.2.1, .string x14.2.1.2.2.2.2.2.2.2.2.2.1, .string x14.2.1.2.2.2.2.2.2.2.2.2.2.1, .string x14.2.1.2.2.2.2.2.2.2.2.2.2.2.1, .int .i64 x14.2.1.2.2.2.2.2.2.2.2.2.2.2.2.1, .int .i64 x14.2.1.2.2.2.2.2.2.2.2.2.2.2.2.2.1, .int .i64 x14.2.1.2.2.2.2.2.2.2.2.2.2.2.2.2.2.1, .string x14.2.1.2.2.2.2.2.2.2.2.2.2.2.2.2.2.2.1, .int .i64 x14.2.1.2.2.2.2.2.2.2.2.2.2.2.2.2.2.2.2.1, .slice x14.2.1.2.2.2.2.2.2.2.2.2.2.2.2.2.2.2.2.2.1.1 x14.2.1.2.2.2.2.2.2.2.2.2.2.2.2.2.2.2.2.2.1.2.1 x14.2.1.2.2.2.2.2.2.2.2.2.2.2.2.2.2.2.2.2.1.2.2] w20 (fun w21 => LdsK KZ19 (ad g18) w21 (fun (x22 : YZ19) => CallK Tryz.prog 7 #[.agg (LZ19 x22).toArray, .bool x14.2.2.1] w21 (.v (.one (.int .i64))) (fun (x23 : Int) w24 => LdaK 16 (ad g5) w24 (fun x25 => LdsK KZ18 (ad g16) w24 (fun (x26 : YZ18) => CallK Tryz.prog 8 #[.agg x25.toArray, .agg (LZ18 x26).toArray] w24 (.tup [.one .slc, .one (.int .i64)]) (fun (x27 : SlT × Int × Unit) w28 => LdsK KZ18 (ad g16) w28 (fun (x29 : YZ18) => CallK Tryz.prog 9 #[.agg (LZ18 x29).toArray] w28 (.v (.one (.int .i64))) (fun (x30 : Int) w31 => ifB (x30 != x23)
  (K (.bool false) w31)
  (ifB (x27.2.1 != x23)
  (K (.bool false) w31)
  (ifB (x23 != 0)
  (ifB ((x27.1.2.1 : Int) == 0)
  (CallK Tryz.prog 10 #[] w31 (.v (.one .bool)) (fun (x32 : Bool) w33 => K (.bool x32) w33))
  (K (.bool false) w31))
  (LdaK 16 (ad g5) w31 (fun x34 => LdsK KZ19 (ad g18) w31 (fun (x35 : YZ19) => CallK Tryz.prog 11 #[.agg x34.toArray, .agg (LZ19 x35).toArray] w31 (.tup [.one .slc, .one (.int .i64)]) (fun (x36 : SlT × Int × Unit) w37 => CallK Tryz.prog 12 #[.slice x27.1.1 x27.1.2.1 x27.1.2.2, .slice x36.1.1 x36.1.2.1 x36.1.2.2] w37 (.v (.one .bool)) (fun (x38 : Bool) w39 => ifB x38
  (CallK Tryz.prog 10 #[] w39 (.v (.one .bool)) (fun (x40 : Bool) w41 => K (.bool x40) w41))
  (K (.bool false) w39)))))))))))))))))))))))))))
def pl3 : Plan := .auto
theorem e3 (p0 : Option Addr) (p0l p0c : Nat) (p1 : YZ15) (p2 : YZ13) (p3 : Int) (w : World) (K : Value → World → Prop) : vcFunc Tryz.prog Tryz.f3 pl3 [.slice p0 p0l p0c, .agg (LZ15 p1).toArray, .agg (LZ13 p2).toArray, .int .i64 p3] w K = C3 p0 p0l p0c p1 p2 p3 w K := by kernel_rfl
theorem c3 (p0 : Option Addr) (p0l p0c : Nat) (p1 : YZ15) (p2 : YZ13) (p3 : Int) (w : World) (K : Value → World → Prop) (h : C3 p0 p0l p0c p1 p2 p3 w K) : Ret Tryz.prog 3 #[.slice p0 p0l p0c, .agg (LZ15 p1).toArray, .agg (LZ13 p2).toArray, .int .i64 p3] w K := by
  rw [← e3] at h
  exact vcFunc_sound (by kernel_rfl) Tryz.func3 h

end Go.Proofs.YtdphmcanlhcokaaGreatDoor

/-! ### FTell -/
set_option linter.unusedVariables false
set_option maxRecDepth 100000
namespace Go.Proofs.YtdphmcanlhcokaaGreatDoor
open Vc

theorem check11_odd (e : EvT) (he : OddV e.2.2.2.2.2.2.2.1) (hz : smallE e) {w : World} {S : Nat → Prop} {v : TV} (h : IsTr w S (trT .none) v) (hS : ∀ k, S k → k < w.heap.size) :
    Ret Tryz.prog 29 #[evRA (evR e v), .bool true] w fun r w' => r = .int .i64 (checkF e (writeT .none).2) ∧ Fr none1 w w' := by
  refine c29 (evR e v) true w _ ?_
  unfold C29
  refine NewK.of fun g w1 hg hb f1 _ => ?_
  refine LdK.fld hb (x := e.1) rfl ?_
  refine CallK.of (fields11_spec e.1 w1) ?_
  rintro _ _ ⟨rfl, rfl⟩
  refine ⟨_, rfl, ?_⟩
  have e63 : (⟨#[63]⟩ : ByteArray) = str [63] := rfl
  have q63 : ((str (fieldsF e.1)).toList == (⟨#[63]⟩ : ByteArray).toList) = decide (fieldsF e.1 = [63]) := by rw [e63, str_beq]
  rw [q63]
  refine DrewK.of fun w2 _ f2 => HoldK.all ?_
  refine ifB.dec (fun h63 => ⟨by unfold checkF; rw [if_pos h63], f1.trans f2⟩) (fun h63 => ?_)
  refine InK.all (LdK.fld (f2.keep0 hb) (x := e.2.1) rfl ?_)
  refine hasK e.1 73 w2 (KeepK.of (Fr.refl _ _) ?_)
  refine textK _ hz.1 _ w2 fun w3 f3 => KeepK.of f3 ?_
  have f23 := f2.trans f3
  refine ifB.not (ifB.by (fun h1 => ?_) (fun h1 => ⟨by rw [text_one _ (.inl h1)], f1.trans f23⟩))
  refine InK.all (LdK.fld (f23.keep0 hb) (x := e.2.2.1) rfl ?_)
  refine hasK e.1 78 w3 (KeepK.of (Fr.refl _ _) ?_)
  refine textK _ hz.2.1 _ w3 fun w4 f4 => KeepK.of f4 ?_
  have f24 := f23.trans f4
  refine ifB.not (ifB.by (fun h2 => ?_) (fun h2 => ⟨by rw [text_one _ (.inr (.inl h2))], f1.trans f24⟩))
  refine InK.all (LdK.fld (f24.keep0 hb) (x := e.2.2.2.1) rfl ?_)
  refine hasK e.1 76 w4 (KeepK.of (Fr.refl _ _) ?_)
  refine textK _ hz.2.2.1 _ w4 fun w5 f5 => KeepK.of f5 ?_
  have f25 := f24.trans f5
  refine ifB.not (ifB.by (fun h3 => ?_) (fun h3 => ⟨by rw [text_one _ (.inr (.inr (.inl h3)))], f1.trans f25⟩))
  refine InK.all (LdK.fld (f25.keep0 hb) (x := e.2.2.2.2.1) rfl ?_)
  refine hasK e.1 67 w5 (KeepK.of (Fr.refl _ _) ?_)
  refine textK _ hz.2.2.2 _ w5 fun w6 f6 => KeepK.of f6 ?_
  have f26 := f25.trans f6
  refine ifB.not (ifB.by (fun h4 => ?_) (fun h4 => ⟨by rw [text_one _ (.inr (.inr (.inr h4)))], f1.trans f26⟩))
  have hb6 := f26.keep0 hb
  have f16 := f1.trans f26
  have valK : ∀ {K : Bool → World → Prop}, K (validF e.2.2.2.2.2.2.1) w6 → CallK Tryz.prog 55 #[.int .i64 e.2.2.2.2.2.2.1] w6 (.v (.one .bool)) (fun (x : Bool) w' => K x w') := fun {K} k => by
    refine CallK.of (rvalid_spec _ w6) ?_
    rintro _ _ ⟨rfl, rfl⟩
    exact ⟨_, rfl, k⟩
  refine JoinK.of (fun c w' => c.1 = badN e ∧ w6 = w') ?_ ?_
  · unfold badN
    repeat' first
      | (refine hasK e.1 68 w6 ?_)
      | (refine hasK e.1 86 w6 ?_)
      | (refine LdK.fld hb6 (x := e.2.2.2.2.2.1) rfl ?_)
      | (refine LdK.fld hb6 (x := e.2.2.2.2.2.2.1) rfl ?_)
      | (refine valK ?_)
      | (refine ifB.by (fun _ => ?_) (fun _ => ?_))
      | (refine And.intro ?_ rfl)
      | fail
    all_goals (simp_all [evR] <;> omega)
  rintro _ ⟨c, _⟩ _ ⟨hc, rfl⟩
  dsimp only at hc ⊢
  rw [hc]
  refine ifB.by (fun hN => ⟨by rw [badN_one hN], f16⟩) (fun hN => ?_)
  have hv0 : v.1 = 0 := h.kind
  have hn : nilT e.2.2.2.2.2.2.2.1 = false := he.nil
  have hK : ∀ {K : Int → Prop}, K v.1 → LdK (.int .i64) (((⟨g, 0, none⟩ : Addr).add 7).add 0) w6 K := fun {K} k => by
    rw [addr_add, addr_add]
    exact LdK.cell (x := v.1) (by rw [cell_blk hb6]; rfl) k
  refine JoinK.of (fun c w' => c.1 = badT e ∧ w6 = w') ?_ ?_
  · unfold badT
    rw [hn]
    repeat' first
      | (refine hasK e.1 84 w6 ?_)
      | (refine hK ?_)
      | (refine LdK.fld hb6 (x := e.1) rfl ?_)
      | (refine LdK.fld hb6 (x := e.2.2.2.2.2.2.1) rfl ?_)
      | (refine ifB.t rfl ?_)
      | (refine ifB.by (fun _ => ?_) (fun _ => ?_))
      | (refine And.intro ?_ rfl)
      | fail
    all_goals (simp_all <;> omega)
  rintro _ ⟨c, _⟩ _ ⟨hc, rfl⟩
  dsimp only at hc ⊢
  rw [hc]
  refine ifB.by (fun hT => ⟨by rw [badT_one hT], f16⟩) (fun hT => ?_)
  rw [check_good _ h63 h1 h2 h3 h4 hN hT]
  refine LdK.fld hb6 (x := e.1) rfl (ifB.eq (fun h22 => ?_) (fun h22 => ⟨by rw [if_neg h22], f16⟩))
  rw [if_pos h22]
  have tv : ∀ {K : TV → Prop}, K v → LdsK TVK ((⟨g, 0, none⟩ : Addr).add 7) w6 K := fun {K} k => ⟨v, cellsAt_shift (m := 7) _ 0 (cellsAt_all hb6 (Cs.vals TVK v) 7 fun j hj => (by
    match j, hj with
    | 0, _ => rfl
    | 1, _ => rfl
    | 2, _ => rfl
    | 3, _ => rfl
    | j + 4, h => exact absurd h (by show ¬ j + 4 < 4; omega))), k⟩
  refine tv ?_
  have hc := cnt_trT .none
  have hl := len_trT .none trivial
  refine CallK.of (rwrite_spec (trT .none) false (by decide) (short_trT .none trivial) (by decide) (h.keep0 f16) (fun k hk => by have := hS k hk; have := f16.size; omega)) ?_
  rintro _ w7 ⟨rfl, f7⟩
  rw [writeR_trT]
  exact ⟨(str (writeT .none).1, (writeT .none).2, ()), rfl, rfl, f16.trans f7⟩

theorem frM_of_i (f : FrT) (t : Tm) (he : (frE f).2.2.2.2.2.2.2.1 = t.v) : ∃ m : FrM, f = m.f ∧ m.m.t = t := by
  obtain ⟨a1, a2, a3, a4, a5, a6, a7, b1, b2, b3, b4, b5, b6, b7, b8, _⟩ := f
  refine ⟨(a1, a2, a3, a4, a5, a6, a7, b1, b2.data.toList, b3.data.toList, b4.data.toList, b5.data.toList, b6, b7, t), ?_, rfl⟩
  have he : b8 = t.v := he
  subst he
  simp only [FrM.f, EvM.e, str_of]

theorem check17_i (f : FrT) (t : Tm) {od : Bool} (he : TmI (frE f).2.2.2.2.2.2.2.1 t od) (hz : smallE (frE f)) (hn : nodesT t ≤ 2000) (hsh : shortT t) {w : World} {S : Nat → Prop} {v : TV} (h : IsTr w S (trT t) v) (hS : ∀ k, S k → k < w.heap.size) :
    Ret Tryz.prog 7 #[frRA (frR f v), .bool od] w fun r w' => r = .int .i64 (checkFr f (writeT t).2) ∧ Fr none1 w w' := by
  rcases he with ⟨he, rfl⟩ | ⟨rfl, he, rfl⟩
  · obtain ⟨m, rfl, hmt⟩ := frM_of_i f t he
    subst hmt
    exact check17_spec m hz (by omega) hsh h hS
  · refine check17_gen f v true _ w (fun w1 f1 => check11_odd (frE f) he hz (h.keep0 f1) fun k hk => Nat.lt_of_lt_of_le (hS k hk) f1.size) ?_
    rw [he.nil]; simp
theorem sealF_chk (kb : List UInt8) (f : FrT) (ts : List UInt8) (tr : Int) : (sealF kb f ts tr).2 = checkFr f tr := by
  unfold sealF
  by_cases h : checkFr f tr = 0
  · have hb : (bytesFr f ts tr).2 = 0 := by
      unfold bytesFr; rw [if_neg (fun t => t h)]; split <;> rfl
    rw [if_neg (fun t => t hb)]
    exact h.symm
  · have hb : (bytesFr f ts tr).2 = checkFr f tr := by unfold bytesFr; rw [if_pos h]
    rw [if_pos (by rw [hb]; exact h)]
    exact hb
theorem sealF_no {kb : List UInt8} {f : FrT} {ts : List UInt8} {tr : Int} (h : checkFr f tr ≠ 0) : (sealF kb f ts tr).1 = [] := by
  unfold sealF bytesFr
  rw [if_pos h, if_pos h]
theorem odd_bad {f : FrT} (h : OddV (frE f).2.2.2.2.2.2.2.1) : checkFr f 2 ≠ 0 := by
  intro q
  obtain ⟨_, _, _, _, _, a, b⟩ := check_fr q
  by_cases k : f.2.2.2.1 = 1
  · have c := check_zero (a k)
    have ho := c.2.1
    by_cases k2 : (frE f).1 = 2
    · have := c.2.2.2.2.2.2 k2; cases this
    · unfold onlyF at ho
      rw [h.nil] at ho
      simp only [Bool.and_eq_true, Bool.or_eq_true] at ho
      have h84 : hasF (frE f).1 84 = true := by rcases ho.2.2 with t | t; cases t; exact t
      rcases kinds_of c.1 with t | t | t | t | t | t
      all_goals first | exact k2 t | (rw [t] at h84; revert h84; decide)
  · have := b k
    unfold noneF at this
    rw [h.nil] at this
    simp at this

theorem seal_len_i {kb : List UInt8} {m : FrM} (hz : smallE m.m.e) : (sealM kb m).1.length ≤ 100000000 := by
  by_cases h : (sealM kb m).2 = 0
  · obtain ⟨e1, e2⟩ := seal_ok h
    have hq := (bytes_ok e1).2.1
    have hpl := packF_len m.m.e hz (writeT m.m.t).1 (by have := write_short m.m.t; omega) (writeT m.m.t).2
    have hpl : (packM m.m).1.length ≤ _ := hpl
    rw [e2, List.length_append, hed_len, hq, List.length_append, top_len]
    split
    · omega
    · simp
  · have hne : checkFr m.f (writeT m.m.t).2 ≠ 0 := by rw [← sealF_chk kb m.f (writeT m.m.t).1]; exact h
    have : (sealM kb m).1 = [] := sealF_no hne
    rw [this]; simp

set_option maxHeartbeats 8000000 in
theorem tells19_walk (a0 : Option Addr) (len0 cap0 : Nat) (z0 : List Int) (p1 : RawV) (p2 : CmV) (p3 : Int) (w : World) (h0 : IsInts .u8 w a0 len0 cap0 z0) (h1 : IsRaw w p1) (h2 : IsCm w p2) (h3 : (Go.Lit.int .i64 p3).wf = true) (ht : TabW w) :
    Ret Tryz.prog 3 #[.slice a0 len0 cap0, .agg (rawL p1).toArray, .agg (cmL p2).toArray, .int .i64 p3] w fun r w' => r = .bool true ∧ Fr none1 w w' := by
  refine c3 a0 len0 cap0 p1 p2 p3 w _ ?_
  unfold C3
  have hhead : 0 ≤ p1.2.2.2.2.2.1 ∧ p1.2.2.2.2.2.1 < 18446744073709551616 := by
    have h4 := h1.2.2.2.2.2.1
    simp [Go.Lit.wf, IntKind.min, IntKind.max, IntKind.signed, IntKind.bits] at h4
    omega
  obtain ⟨hr, hcap⟩ := args_rd h0
  refine NewK.of fun g1 w1 hg1 hb1 f1 hs1 => NewK.of fun g3 w2 hg3 hb3 f2 hs2 => NewK.of fun g5 w3 hg5 hb5 f3 hs3 => ?_
  have hb1 : w1.heap[g1]? = some (.cells (rawL p1).toArray 25 (0, 0)) := hb1
  have hb3 : w2.heap[g3]? = some (.cells (cmL p2).toArray 31 (0, 0)) := hb3
  have hb5 : w3.heap[g5]? = some (.cells (keyL zeroKey).toArray 33 (0, 0)) := hb5
  have F3 := (f1.trans f2).trans f3
  refine key_all ?_
  refine copy_key hb5 (hr.keep0 F3) _ fun r1 w4 hb54 f4 => ?_
  have hk := padK_len ((z0.take len0).map toByte)
  generalize padK ((z0.take len0).map toByte) = kb at *
  have F4 : Fr none1 w w4 := F3.fresh f4 (by have := f1.size; have := f2.size; omega)
  have b14 := f4.keep (f3.keep0 (f2.keep0 hb1)) (fun t => by have : g1 = g5 := t; omega)
  have b34 := f4.keep (f3.keep0 hb3) (fun t => by have : g3 = g5 := t; omega)
  refine LdsK.blk (cks := [.int .i64, .int .i64, .int .i64, .int .i64, .int .i64, .int .u64, .bool, .int .i64, .int .i64, .str]) (x := p1) b14 ?_
  refine LdsK.blk (cks := [.int .i64, .int .i64, .int .i64, .int .i64, .int .i64, .str, .slc, .slc]) (x := p2) b34 ?_
  refine CallK.of (frsome_i p1 p2 p3 (h2.1.keep0 F4)) ?_
  rintro _ w5 ⟨f, t, v, od, rfl, he, hz, hn, hsh, hhd, mt, f5⟩
  refine ⟨(f, frR f v, od, ()), rfl, ?_⟩
  have hone : (frL f).all one1 = true := frL_one he.one
  have F5 := F4.trans f5
  refine NewK.of fun g16 w6 hg16 hb16 f6 hs6 => NewK.of fun g18 w7 hg18 hb18 f7 hs7 => ?_
  refine StsK.blk (cs := frL zeroFr.f) (vs := frL f) (f7.keep0 hb16) rfl hone fun w8 hb168 f8 hs8 => ?_
  refine StsK.blk (cs := frRL zeroX) (vs := frRL (frR f v)) (f8.keep hb18 (fun t => by have : g18 = g16 := t; omega)) rfl (frRL_one _) fun w9 hb189 f9 hs9 => ?_
  have s5 := f5.size
  have f59 : Fr none1 w5 w9 := ((f6.trans f7).fresh f8 (by omega)).fresh f9 (by omega)
  have hb169 := f9.keep hb168 (fun t => by have : g16 = g18 := t; omega)
  have F9 := F5.trans f59
  have b59 := f59.keep0 (f5.keep0 hb54)
  have s59 := f59.size
  have mt9 : IsTr w9 (since w4 w5) (trT t) v := IsTr.keep0 mt f59
  have ml : ∀ k, since w4 w5 k → k < w9.heap.size := fun k hk => by have := hk.2; omega
  have hh : 0 ≤ f.2.2.2.2.2.1 ∧ f.2.2.2.2.2.1 < 18446744073709551616 := by rw [hhd]; exact hhead
  have wr : ∀ wa, Fr none1 w wa → Wrote wa (frE f).2.2.2.2.2.2.2.1 (writeT t).1 (writeT t).2 := fun wa fa => wrote_i he (by omega) (ht.keep0 fa)
  have hts := write_short t
  refine LdsK.blk (cks := FRK) (x := frR f v) hb189 ?_
  refine CallK.of (check17_i f t he hz hn hsh mt9 ml) ?_
  rintro _ w10 ⟨rfl, f10⟩
  refine ⟨_, rfl, ?_⟩
  have F10 := F9.trans f10
  refine LdaK.of (f10.keep0 b59) (by simp [keyL, hk]) (LdsK.blk (cks := FK) (x := f) (f10.keep0 hb169) ?_)
  refine CallK.of (seal_spec kb hk f he.ifc hz hh (writeT t).1 (by omega) (writeT t).2 w10 (wr w10 F10)) ?_
  rintro _ w11 ⟨u, rfl, hu, f11⟩
  refine ⟨(u, (sealF kb f (writeT t).1 (writeT t).2).2, ()), rfl, ?_⟩
  have F11 := F10.trans f11
  have f911 := f10.trans f11
  refine LdsK.blk (cks := FK) (x := f) (f911.keep0 hb169) ?_
  refine CallK.of (fcheck_spec f he.ifc (writeT t).1 (writeT t).2 w11 (wr w11 F11)) ?_
  rintro _ w12 ⟨rfl, f12⟩
  refine ⟨_, rfl, ?_⟩
  have F12 := F11.trans f12
  have f912 := f911.trans f12
  refine ifB.ne (fun q => absurd rfl q) (fun _ => ?_)
  rw [sealF_chk] 
  refine ifB.ne (fun q => absurd rfl q) (fun _ => ?_)
  have wk : ∀ wa, Fr none1 w wa → CallK Tryz.prog 10 #[] wa (.v (.one .bool)) (fun (x : Bool) w' => (Value.bool x) = .bool true ∧ Fr none1 w w') := by
    intro wa fa
    refine CallK.of (wakes19_spec wa (ht.keep0 fa)) ?_
    rintro _ w5 ⟨rfl, f5⟩
    exact ⟨_, rfl, rfl, fa.trans f5⟩
  refine ifB.ne (fun hne => ?_) (fun hz0 => ?_)
  · have hul := hu.is.len
    rw [sealF_no hne] at hul
    refine ifB.t (by dsimp only; rw [hul]; rfl) (wk w12 F12)
  rcases he with ⟨he, rfl⟩ | ⟨rfl, he, rfl⟩
  · obtain ⟨m, rfl, hmt⟩ := frM_of_i f t he
    subst hmt
    refine LdaK.of (f912.keep0 b59) (by simp [keyL, hk]) (LdsK.blk (cks := FRK) (x := frR m.f v) (f912.keep0 hb189) ?_)
    refine CallK.of (seal17_spec kb hk m hz (by omega) hsh hh (IsTr.keep0 mt9 f912) fun k hk => by have := ml k hk; have := f912.size; omega) ?_
    rintro _ w13 ⟨y, rfl, hy, f13⟩
    refine ⟨(y, (sealM kb m).2, ()), rfl, ?_⟩
    have hsl := seal_len_i (kb := kb) hz
    refine CallK.of (same_spec (xs := (sealM kb m).1) (ys := (sealM kb m).1) ((hu.is.keep0 f12).keep0 f13).rd hy.is.rd (by omega)) ?_
    rintro _ w14 ⟨rfl, f14⟩
    exact ⟨_, rfl, ifB.t (by simp) (wk w14 ((F12.trans f13).trans f14))⟩
  · exact absurd hz0 (odd_bad he)

end Go.Proofs.YtdphmcanlhcokaaGreatDoor
