/-
  Texts of this claim, put together: DoSpec, RefEv2, RefReadF, CRefSg, RTellSpec, CRefRd, RefReadSpec, RefReadSpec2, RefReadSpec3, CRef11T, TakeSpec2, TakeSpec3, TakeSpec4, SomeSpec2, PTake0, CSameG, SameSpec, NilNe, CEvSame, EvSame, KeepB, CPBackL, PBack.
  Conditions: those of each theorem.
-/
import Derived.Test.YtbadiokobooliaaGreatDoorM0
import Derived.Test.YtbadiokobooliaaGreatDoorM1
import Derived.Test.YtbadiokobooliaaGreatDoorM2
import Derived.Test.YtbadiokobooliaaGreatDoorM3
import Derived.KernelRfl
import Derived.Laws.StructEq
import Derived.Test.YtbadiokobooliaaGreatDoorProg
/-! ### DoSpec -/
set_option linter.unusedVariables false
set_option maxRecDepth 100000
namespace Go.Proofs.YtbadiokobooliaaGreatDoor
open Vc

/-- An event with short texts, its tree in blocks of S. -/
def Fine (w : World) (S : Nat → Prop) (x : EvR) : Prop := ∃ (e : EvT) (t : Tm) (v : TV), x = evR e v ∧ e.2.2.2.2.2.2.2.1 = t.v ∧ smallE e ∧ nodesT t ≤ 2000 ∧ shortT t ∧ IsTr w S (trT t) v

structure DoS (w wc : World) (g1 g3 g5 : Nat) (c : CmV) : Prop where
  b1 : wc.heap[g1]? = some (.cells (cmL c).toArray 27 (0, 0))
  pl : IsPl w (cmPl c)
  b3 : ∃ x : EvR, wc.heap[g3]? = some (.cells (evRL x).toArray 35 (0, 0))
  b5 : ∃ x : EvR, wc.heap[g5]? = some (.cells (evRL x).toArray 35 (0, 0)) ∧ Fine wc (fun k => w.heap.size ≤ k ∧ k < wc.heap.size ∧ k ≠ g3 ∧ k ≠ g5) x
  fr : Fr none1 w wc
  lo : w.heap.size ≤ g1 ∧ w.heap.size ≤ g3 ∧ w.heap.size ≤ g5 ∧ g1 ≠ g3 ∧ g1 ≠ g5 ∧ g3 ≠ g5

theorem Fine.keep {w w' : World} {S S' T : Nat → Prop} {x : EvR} (h : Fine w S x) (f : Fr T w w') (hn : ∀ k, S k → ¬ T k) (hs : ∀ k, S k → S' k) : Fine w' S' x := by
  obtain ⟨e, t, v, h1, h2, h3, h4, h5, h6⟩ := h
  exact ⟨e, t, v, h1, h2, h3, h4, h5, IsTr.mono hs _ _ (IsTr.keep f hn _ _ h6)⟩
theorem DoS.keep0 {w wc wd : World} {g1 g3 g5 : Nat} {c : CmV} (h : DoS w wc g1 g3 g5 c) (f : Fr none1 wc wd) : DoS w wd g1 g3 g5 c := by
  obtain ⟨x3, h3⟩ := h.b3
  obtain ⟨x5, h5, hf⟩ := h.b5
  exact ⟨f.keep0 h.b1, h.pl, ⟨x3, f.keep0 h3⟩, ⟨x5, f.keep0 h5, hf.keep f (fun _ _ t => t) fun k hk => ⟨hk.1, Nat.lt_of_lt_of_le hk.2.1 f.size, hk.2.2⟩⟩, h.fr.trans f, h.lo⟩

/-- What was told. -/
def Told (w : World) (r : Value) (w' : World) : Prop := ∃ x : EvR, r = evRA x ∧ Fine w' (fun k => w.heap.size ≤ k ∧ k < w'.heap.size) x ∧ Fr none1 w w'

theorem DoS.fin {w wc : World} {g1 g3 g5 : Nat} {c : CmV} (h : DoS w wc g1 g3 g5 c) :
    LdsK ERK ⟨g5, 0, none⟩ wc (fun (x : EvR) => StsK ⟨g3, 0, none⟩ (evRL x) wc (fun w2 => LdsK ERK ⟨g3, 0, none⟩ w2 (fun (y : EvR) => Told w (evRA y) w2))) := by
  obtain ⟨x3, h3⟩ := h.b3
  obtain ⟨x5, h5, hf⟩ := h.b5
  refine LdsK.blk (cks := ERK) (x := x5) h5 ?_
  refine StsK.blk (cs := evRL x3) (vs := evRL x5) h3 rfl rfl fun w2 hb2 f2 _ => LdsK.blk (cks := ERK) (x := x5) hb2 ?_
  exact ⟨x5, rfl, hf.keep f2 (fun k hk t => hk.2.2.1 t) (fun k hk => ⟨hk.1, Nat.lt_of_lt_of_le hk.2.1 f2.size⟩), h.fr.fresh f2 h.lo.2.1⟩

/-- A write to the event's own block that leaves it fine. -/
theorem DoS.put {w wc wd : World} {g1 g3 g5 : Nat} {c : CmV} (h : DoS w wc g1 g3 g5 c) {x x' : EvR} (hx : wc.heap[g5]? = some (.cells (evRL x).toArray 35 (0, 0))) (f : Fr (only g5) wc wd) (hb : wd.heap[g5]? = some (.cells (evRL x').toArray 35 (0, 0)))
    (hf : Fine wc (fun k => w.heap.size ≤ k ∧ k < wc.heap.size ∧ k ≠ g3 ∧ k ≠ g5) x') : DoS w wd g1 g3 g5 c := by
  obtain ⟨x3, h3⟩ := h.b3
  obtain ⟨l1, l2, l3, l4, l5, l6⟩ := h.lo
  exact ⟨f.keep h.b1 (fun t => l5 t), h.pl, ⟨x3, f.keep h3 (fun t => l6 t)⟩, ⟨x', hb, hf.keep f (fun k hk t => hk.2.2.2 t) fun k hk => ⟨hk.1, Nat.lt_of_lt_of_le hk.2.1 f.size, hk.2.2⟩⟩, h.fr.fresh f l3, h.lo⟩

theorem DoS.n0 {w wc : World} {g1 g3 g5 : Nat} {c : CmV} (h : DoS w wc g1 g3 g5 c) (n : Int) {K : World → Prop} (k : ∀ wd, DoS w wd g1 g3 g5 c → Fr (only g5) wc wd → K wd) : StK ((⟨g5, 0, none⟩ : Addr).add 0) (.int .i64 n) wc K := by
  obtain ⟨x5, h5, e, t, v, rfl, he, hz, hn, hsh, hT⟩ := h.b5
  exact StK.fld h5 (by show 0 + 0 < 11; omega) rfl fun wd hb f _ => k wd (h.put h5 (x' := evR (n, e.2) v) f hb ⟨(n, e.2), t, v, rfl, he, hz, hn, hsh, hT⟩) f
theorem DoS.s1 {w wc : World} {g1 g3 g5 : Nat} {c : CmV} (h : DoS w wc g1 g3 g5 c) (s : ByteArray) (hs : s.size ≤ 1000000) {K : World → Prop} (k : ∀ wd, DoS w wd g1 g3 g5 c → Fr (only g5) wc wd → K wd) : StK ((⟨g5, 0, none⟩ : Addr).add 1) (.string s) wc K := by
  obtain ⟨x5, h5, e, t, v, rfl, he, hz, hn, hsh, hT⟩ := h.b5
  exact StK.fld h5 (by show 0 + 1 < 11; omega) rfl fun wd hb f _ => k wd (h.put h5 (x' := evR (e.1, s, e.2.2) v) f hb ⟨(e.1, s, e.2.2), t, v, rfl, he, ⟨hs, hz.2⟩, hn, hsh, hT⟩) f
theorem DoS.s2 {w wc : World} {g1 g3 g5 : Nat} {c : CmV} (h : DoS w wc g1 g3 g5 c) (s : ByteArray) (hs : s.size ≤ 1000000) {K : World → Prop} (k : ∀ wd, DoS w wd g1 g3 g5 c → Fr (only g5) wc wd → K wd) : StK ((⟨g5, 0, none⟩ : Addr).add 2) (.string s) wc K := by
  obtain ⟨x5, h5, e, t, v, rfl, he, hz, hn, hsh, hT⟩ := h.b5
  exact StK.fld h5 (by show 0 + 2 < 11; omega) rfl fun wd hb f _ => k wd (h.put h5 (x' := evR (e.1, e.2.1, s, e.2.2.2) v) f hb ⟨(e.1, e.2.1, s, e.2.2.2), t, v, rfl, he, ⟨hz.1, hs, hz.2.2⟩, hn, hsh, hT⟩) f
theorem DoS.s3 {w wc : World} {g1 g3 g5 : Nat} {c : CmV} (h : DoS w wc g1 g3 g5 c) (s : ByteArray) (hs : s.size ≤ 1000000) {K : World → Prop} (k : ∀ wd, DoS w wd g1 g3 g5 c → Fr (only g5) wc wd → K wd) : StK ((⟨g5, 0, none⟩ : Addr).add 3) (.string s) wc K := by
  obtain ⟨x5, h5, e, t, v, rfl, he, hz, hn, hsh, hT⟩ := h.b5
  exact StK.fld h5 (by show 0 + 3 < 11; omega) rfl fun wd hb f _ => k wd (h.put h5 (x' := evR (e.1, e.2.1, e.2.2.1, s, e.2.2.2.2) v) f hb ⟨(e.1, e.2.1, e.2.2.1, s, e.2.2.2.2), t, v, rfl, he, ⟨hz.1, hz.2.1, hs, hz.2.2.2⟩, hn, hsh, hT⟩) f
theorem DoS.s4 {w wc : World} {g1 g3 g5 : Nat} {c : CmV} (h : DoS w wc g1 g3 g5 c) (s : ByteArray) (hs : s.size ≤ 1000000) {K : World → Prop} (k : ∀ wd, DoS w wd g1 g3 g5 c → Fr (only g5) wc wd → K wd) : StK ((⟨g5, 0, none⟩ : Addr).add 4) (.string s) wc K := by
  obtain ⟨x5, h5, e, t, v, rfl, he, hz, hn, hsh, hT⟩ := h.b5
  exact StK.fld h5 (by show 0 + 4 < 11; omega) rfl fun wd hb f _ => k wd (h.put h5 (x' := evR (e.1, e.2.1, e.2.2.1, e.2.2.2.1, s, e.2.2.2.2.2) v) f hb ⟨(e.1, e.2.1, e.2.2.1, e.2.2.2.1, s, e.2.2.2.2.2), t, v, rfl, he, ⟨hz.1, hz.2.1, hz.2.2.1, hs⟩, hn, hsh, hT⟩) f
theorem DoS.n5 {w wc : World} {g1 g3 g5 : Nat} {c : CmV} (h : DoS w wc g1 g3 g5 c) (n : Int) {K : World → Prop} (k : ∀ wd, DoS w wd g1 g3 g5 c → Fr (only g5) wc wd → K wd) : StK ((⟨g5, 0, none⟩ : Addr).add 5) (.int .i64 n) wc K := by
  obtain ⟨x5, h5, e, t, v, rfl, he, hz, hn, hsh, hT⟩ := h.b5
  exact StK.fld h5 (by show 0 + 5 < 11; omega) rfl fun wd hb f _ => k wd (h.put h5 (x' := evR (e.1, e.2.1, e.2.2.1, e.2.2.2.1, e.2.2.2.2.1, n, e.2.2.2.2.2.2) v) f hb ⟨(e.1, e.2.1, e.2.2.1, e.2.2.2.1, e.2.2.2.2.1, n, e.2.2.2.2.2.2), t, v, rfl, he, hz, hn, hsh, hT⟩) f
theorem DoS.n6 {w wc : World} {g1 g3 g5 : Nat} {c : CmV} (h : DoS w wc g1 g3 g5 c) (n : Int) {K : World → Prop} (k : ∀ wd, DoS w wd g1 g3 g5 c → Fr (only g5) wc wd → K wd) : StK ((⟨g5, 0, none⟩ : Addr).add 6) (.int .i64 n) wc K := by
  obtain ⟨x5, h5, e, t, v, rfl, he, hz, hn, hsh, hT⟩ := h.b5
  exact StK.fld h5 (by show 0 + 6 < 11; omega) rfl fun wd hb f _ => k wd (h.put h5 (x' := evR (e.1, e.2.1, e.2.2.1, e.2.2.2.1, e.2.2.2.2.1, e.2.2.2.2.2.1, n, e.2.2.2.2.2.2.2) v) f hb ⟨(e.1, e.2.1, e.2.2.1, e.2.2.2.1, e.2.2.2.2.1, e.2.2.2.2.2.1, n, e.2.2.2.2.2.2.2), t, v, rfl, he, hz, hn, hsh, hT⟩) f

theorem writes_shift {p : Addr} {m : Nat} : ∀ (vs : List Value) (w : World) (i : Nat), Writes w p (m + i) vs → Writes w (p.add m) i vs
  | [], _, _, _ => trivial
  | v :: vs, w, i, ⟨h1, h2, h3, h4⟩ => ⟨h1, by rw [add_add]; exact h2, by rw [add_add]; exact h3, by rw [add_add]; exact writes_shift vs _ (i + 1) h4⟩
theorem setCells_shift {p : Addr} {m : Nat} : ∀ (vs : List Value) (w : World) (i : Nat), setCells w (p.add m) i vs = setCells w p (m + i) vs
  | [], _, _ => rfl
  | v :: vs, w, i => by
    show setCells (w.setCell ((p.add m).add i) v) (p.add m) (i + 1) vs = setCells (w.setCell (p.add (m + i)) v) p (m + i + 1) vs
    rw [add_add, setCells_shift vs _ (i + 1)]; rfl
theorem DoS.term {w wc : World} {g1 g3 g5 : Nat} {c : CmV} (h : DoS w wc g1 g3 g5 c) {t : Tm} {v : TV} (hn : nodesT t ≤ 2000) (hsh : shortT t) (hT : IsTr wc (fun k => w.heap.size ≤ k ∧ k < wc.heap.size ∧ k ≠ g3 ∧ k ≠ g5) (trT t) v) {K : World → Prop} (k : ∀ wd, DoS w wd g1 g3 g5 c → Fr (only g5) wc wd → K wd) :
    StsK ((⟨g5, 0, none⟩ : Addr).add 7) (tvL v) wc K := by
  obtain ⟨x5, h5, e, t', v', rfl, he, hz, _⟩ := h.b5
  obtain ⟨a1, a2, a3, a4⟩ := setCells_all (T := 35) (b := g5) (tvL v) wc [.int .i64 e.1, .string e.2.1, .string e.2.2.1, .string e.2.2.2.1, .string e.2.2.2.2.1, .int .i64 e.2.2.2.2.2.1, .int .i64 e.2.2.2.2.2.2.1] (tvL v') h5 rfl rfl
  refine ⟨writes_shift _ _ 0 a1, ?_⟩
  rw [setCells_shift]
  exact k _ (h.put h5 (x' := evR (e.1, e.2.1, e.2.2.1, e.2.2.2.1, e.2.2.2.2.1, e.2.2.2.2.2.1, e.2.2.2.2.2.2.1, t.v, ()) v) a3 a2 ⟨_, t, v, rfl, rfl, hz, hn, hsh, hT⟩) a3

/-! ### Rules -/
theorem DoS.ri {w wc : World} {g1 g3 g5 : Nat} {c : CmV} (h : DoS w wc g1 g3 g5 c) {i : Nat} (hi : i < 5) {K : Int → Prop} (k : ∀ x, K x) : LdK (.int .i64) ((⟨g1, 0, none⟩ : Addr).add i) wc K := by
  match i, hi with
  | 0, _ => exact LdK.fld h.b1 (x := c.1) rfl (k _)
  | 1, _ => exact LdK.fld h.b1 (x := c.2.1) rfl (k _)
  | 2, _ => exact LdK.fld h.b1 (x := c.2.2.1) rfl (k _)
  | 3, _ => exact LdK.fld h.b1 (x := c.2.2.2.1) rfl (k _)
  | 4, _ => exact LdK.fld h.b1 (x := c.2.2.2.2.1) rfl (k _)
theorem DoS.rs {w wc : World} {g1 g3 g5 : Nat} {c : CmV} (h : DoS w wc g1 g3 g5 c) {K : ByteArray → Prop} (k : ∀ x, K x) : LdK .str ((⟨g1, 0, none⟩ : Addr).add 5) wc K := LdK.fld h.b1 (x := c.2.2.2.2.2.1) rfl (k _)
theorem inG {S : Nat → Prop} {g i : Nat} {K : Prop} (hS : S g) (k : K) : InK S ((⟨g, 0, none⟩ : Addr).add i) K := ⟨by rw [addr_add]; exact hS, k⟩
theorem witK (v of : Int) (hof : of ≤ 9223372036854775807) {wc : World} {K : Int → World → Prop} (k : ∀ x, 0 ≤ x → (1 ≤ of → x < of) → K x wc) : CallK Tryz.prog 22 #[.int .i64 v, .int .i64 of] wc (.v (.one (.int .i64))) (fun (x : Int) w' => K x w') := by
  refine CallK.of (within_spec v of wc hof) ?_
  rintro _ _ ⟨rfl, rfl⟩
  exact ⟨_, rfl, k _ (within_lo v of) (fun h => within_hi v h)⟩
theorem txtK (s : ByteArray) (n : Int) (h0 : 0 ≤ n) (h1 : n ≤ 1000) {wc : World} {K : ByteArray → World → Prop} (k : ∀ x : ByteArray, x.size ≤ 1000 → K x wc) : CallK Tryz.prog 49 #[.string s, .int .i64 n] wc (.v (.one .str)) (fun (x : ByteArray) w' => K x w') := by
  obtain ⟨l, rfl⟩ : ∃ l, s = str l := ⟨s.data.toList, (str_of s).symm⟩
  refine CallK.of (text1_spec l n wc h0) ?_
  rintro _ _ ⟨rfl, rfl⟩
  exact ⟨_, rfl, k _ (by rw [str_size, List.length_take]; omega)⟩
theorem wordK (ss : List (List UInt8)) (hl : ss.length = 3) (hs : ∀ s ∈ ss, s.length ≤ 1000) {wc : World} {K : (Option Addr × Nat × Nat) → World → Prop} (k : ∀ (u : Sl) w', (∀ (x : Int) (wd : World) (S : Nat → Prop), 0 ≤ x → x < 3 → Fr none1 w' wd → (∀ j, wc.heap.size ≤ j → S j) → ∀ K : ByteArray → Prop, (∀ s : ByteArray, s.size ≤ 1000 → K s) → IdxK u.1 u.2.1 x 1 fun a => InK S a (LdK .str a wd K)) → Fr none1 wc w' → K u w') :
    RunK Tryz.prog (Instr.buildSlice 23 ss.length (((ss.map sv).zipIdx.map fun (v, i) => (i, v)).toArray)) wc (.v (.one .slc)) (fun (x : Option Addr × Nat × Nat) w' => K x w') := by
  refine words_lit ss (by omega) fun u w' hu f hf => k u w' (fun x wd S h0 h1 fd hS K hK => ?_) f
  have hu2 : IsSs wd u ss := hu.keep0 fd
  have hul := hu2.len
  rcases hu2 with ⟨hh, _⟩ | ⟨g, off, cs, hv, hb, hle, hc, hn, he⟩
  · rw [hh] at hul; dsimp only at hul; omega
  · refine ⟨⟨g, off, none⟩, hv, h0, by omega, ?_⟩
    have hx : x.toNat < ss.length := by omega
    rw [addr_add]
    refine ⟨hS _ (hf _ ⟨_, hv, rfl⟩), LdK.cell (x := str (ss[x.toNat])) ?_ (hK _ (by rw [str_size]; exact hs _ (List.getElem_mem hx)))⟩
    rw [cell_blk hb, Nat.mul_one, he _ (by rw [List.length_map]; exact hx), List.getElem?_map, List.getElem?_eq_getElem hx]
    rfl

theorem DoS.rp {w wc : World} {g1 g3 g5 : Nat} {c : CmV} (h : DoS w wc g1 g3 g5 c) {K : PlV → Prop} (k : K (cmPl c)) : LdsK [.slc, .slc] ((⟨g1, 0, none⟩ : Addr).add 6) wc K :=
  ⟨cmPl c, cellsAt_shift (m := 6) _ 0 (cellsAt_all h.b1 _ 6 fun j hj => (by
    match j, hj with
    | 0, _ => rfl
    | 1, _ => rfl
    | j + 2, h => exact absurd h (by show ¬ j + 2 < 2; omega))), k⟩
theorem DoS.lt5 {w wc : World} {g1 g3 g5 : Nat} {c : CmV} (h : DoS w wc g1 g3 g5 c) : g5 < wc.heap.size ∧ g3 < wc.heap.size := by
  obtain ⟨_, h3⟩ := h.b3
  obtain ⟨_, h5, _⟩ := h.b5
  exact ⟨lt_of_blk h5, lt_of_blk h3⟩
theorem DoS.made {w wc wd : World} {g1 g3 g5 : Nat} {c : CmV} (h : DoS w wc g1 g3 g5 c) {t : Tr} {v : TV} (m : Made wc wd t v) {we : World} (f : Fr (only g5) wd we) : IsTr we (fun k => w.heap.size ≤ k ∧ k < we.heap.size ∧ k ≠ g3 ∧ k ≠ g5) t v := by
  have l := h.lt5; have s := h.fr.size
  have m' := IsTr.keep (T := only g5) f (fun k hk q => by have := hk.1; have : k = g5 := q; omega) _ _ m
  exact IsTr.mono (fun k hk => ⟨by have := hk.1; omega, Nat.lt_of_lt_of_le hk.2 f.size, by have := hk.1; omega, by have := hk.1; omega⟩) _ _ m'

theorem do_spec (c : CmV) (p2 : Int) {w : World} (hp : IsPl w (cmPl c)) : Ret Tryz.prog 48 #[.pointer none, .agg (cmL c).toArray, .int .i64 p2] w (Told w) := by
  refine c48 none c p2 w _ ?_
  unfold C48
  refine NewK.of fun g1 w1 hg1 hb1 f1 hs1 => NewK.of fun g3 w2 hg3 hb3 f2 hs2 => NewK.of fun g5 w3 hg5 hb5 f3 hs3 => ?_
  refine StsK.blk (cs := evRL (0, (⟨#[]⟩ : ByteArray), (⟨#[]⟩ : ByteArray), (⟨#[]⟩ : ByteArray), (⟨#[]⟩ : ByteArray), 0, 0, 0, (⟨#[]⟩ : ByteArray), 0, (none, 0, 0), ())) (vs := evRL (0, (⟨#[]⟩ : ByteArray), (⟨#[]⟩ : ByteArray), (⟨#[]⟩ : ByteArray), (⟨#[]⟩ : ByteArray), 0, 0, 0, (⟨#[]⟩ : ByteArray), 0, (none, 0, 0), ())) hb5 rfl rfl fun w4 hb54 f4 hs4 => ?_
  have e0 : (⟨#[]⟩ : ByteArray) = str [] := rfl
  have hz0 : (⟨#[]⟩ : ByteArray).size ≤ 1000000 := by decide
  have zfine : ∀ (wa : World) (S : Nat → Prop) (a : ByteArray) (k d v : Int), a.size ≤ 1000000 → Fine wa S (k, a, (⟨#[]⟩ : ByteArray), (⟨#[]⟩ : ByteArray), (⟨#[]⟩ : ByteArray), d, v, 0, (⟨#[]⟩ : ByteArray), 0, (none, 0, 0), ()) := fun wa S a k d v ha =>
    ⟨(k, a, (⟨#[]⟩ : ByteArray), (⟨#[]⟩ : ByteArray), (⟨#[]⟩ : ByteArray), d, v, .nilIface, ()), .none, (0, str [], 0, (none, 0, 0), ()), rfl, rfl, ⟨ha, hz0, hz0, hz0⟩, by decide, trivial, IsTr.mono (fun k hk => by have := hk.1; have := hk.2; omega) _ _ (leaf_made wa wa 0 [] 0)⟩
  have D : DoS w w4 g1 g3 g5 c := by
    have f14 : Fr none1 w w4 := ((f1.trans f2).trans f3).fresh f4 (by omega)
    exact ⟨f4.keep ((f2.trans f3).keep0 hb1) (fun t => by have : g1 = g5 := t; omega), hp, ⟨(0, (⟨#[]⟩ : ByteArray), (⟨#[]⟩ : ByteArray), (⟨#[]⟩ : ByteArray), (⟨#[]⟩ : ByteArray), 0, 0, 0, (⟨#[]⟩ : ByteArray), 0, (none, 0, 0), ()), f4.keep (f3.keep0 hb3) (fun t => by have : g3 = g5 := t; omega)⟩, ⟨_, hb54, zfine _ _ _ _ _ _ (by decide)⟩, f14, by omega⟩
  have hlo := D.lo
  clear hb1 hb3 hb5 hb54 f1 f2 f3 f4
  refine D.ri (by omega) fun x8 => ?_
  have et : (⟨#[116]⟩ : ByteArray) = str [116] := rfl
  rw [et]
  refine CallK.of (kname_spec [116] x8 5 (by omega) (by omega) (by decide) w4) ?_
  rintro _ w5 ⟨rfl, f5⟩
  refine ⟨_, rfl, ?_⟩
  have D := D.keep0 f5
  refine JoinK.of (fun q w' => q.1.size ≤ 1000 ∧ w5 = w') ?_ ?_
  · refine D.ri (by omega) fun x14 => ⟨by decide, ifB.by (fun _ => ?_) (fun _ => ⟨by rw [str_size]; simp, rfl⟩)⟩
    exact D.rs fun x => txtK x 14 (by decide) (by decide) fun y hy => ⟨hy, rfl⟩
  rintro _ ⟨nm, _⟩ _ ⟨hnm, rfl⟩
  dsimp only at hnm ⊢
  refine D.ri (by omega) fun x18 => witK x18 20 (by decide) fun k hk0 hk1 => ?_
  have hwr := wrap_rg (p2 + 2)
  -- the last steps
  have turn : ∀ {wa : World} (n : Int), n ≠ 0 → DoS w wa g1 g3 g5 c → LdK (.int .i64) ((⟨g1, 0, none⟩ : Addr).add 2) wa (fun (x139 : Int) => NzK n (ifB ((x139.tmod n) == n - 1)
      (LdK (.int .i64) ((⟨g1, 0, none⟩ : Addr).add 4) wa (fun (x140 : Int) => StK ((⟨g5, 0, none⟩ : Addr).add 6) (.int .i64 x140) wa (fun w141 => LdsK ERK ⟨g5, 0, none⟩ w141 (fun (x : EvR) => StsK ⟨g3, 0, none⟩ (evRL x) w141 (fun w2 => LdsK ERK ⟨g3, 0, none⟩ w2 (fun (y : EvR) => Told w (evRA y) w2))))))
      (LdsK ERK ⟨g5, 0, none⟩ wa (fun (x : EvR) => StsK ⟨g3, 0, none⟩ (evRL x) wa (fun w2 => LdsK ERK ⟨g3, 0, none⟩ w2 (fun (y : EvR) => Told w (evRA y) w2)))))) := fun {wa} n hn D =>
    D.ri (by omega) fun x => ⟨hn, ifB.by (fun _ => D.ri (by omega) fun y => D.n6 y fun wd D' _ => D'.fin) (fun _ => D.fin)⟩
  refine ifB.by (fun _ => D.n0 1 fun wd D' _ => D'.fin) (fun _ => ?_)
  refine ifB.by (fun _ => ?_) (fun _ => ?_)
  · refine D.rp ?_
    refine CallK.of (right_spec (D.pl.keep0 D.fr)) ?_
    rintro _ w6 ⟨v, tt, rfl, mv, hc, hsh, f6⟩
    refine ⟨v, rfl, ?_⟩
    have D6 := D.keep0 f6
    refine D6.n0 2 fun w7 D7 f7 => D7.s1 nm (by omega) fun w8 D8 f8 => ?_
    have hf := checkT_form hc
    refine D8.term (t := tt) (by omega) hsh (D.made mv (f7.trans f8)) fun w9 D9 f9 => ?_
    refine D9.ri (by omega) fun x => ⟨by decide, ifB.by (fun _ => ?_) (fun _ => D9.fin)⟩
    refine D9.rp ?_
    refine CallK.of (contract_spec (D9.pl.keep0 D9.fr)) ?_
    rintro _ wa ⟨v2, t2, rfl, mv2, hn2, hsh2, fa⟩
    refine ⟨v2, rfl, ?_⟩
    exact (D9.keep0 fa).term hn2 hsh2 (D9.made mv2 (Fr.refl _ _)) fun wb Db _ => Db.fin
  refine ifB.by (fun _ => ?_) (fun _ => ?_)
  · refine JoinK.of (fun _ w' => DoS w w' g1 g3 g5 c) ?_ ?_
    · refine DrewK.of fun w6 _ f6 => HoldK.of (fun k => k ≠ g5) ?_
      have D := D.keep0 f6
      refine inG hlo.2.2.2.2.1 (D.ri (by omega) fun xa => inG hlo.2.2.2.2.1 (D.ri (by omega) fun xb => inG hlo.2.2.2.2.1 (D.ri (by omega) fun xc => ?_)))
      repeat' first
        | exact D
        | (refine (⟨?_, ?_⟩ : AndK _ _))
        | (refine wordK [[108, 105, 98, 111, 114], [114, 97, 105, 110], [195, 182, 108]] rfl (by decide) fun u wd pick f => KeepK.of f ?_; have hlt := D.lt5; have D := D.keep0 f)
        | (refine witK _ _ (by first | decide | exact hwr.2) fun y hy0 hy1 => KeepK.of (Fr.refl _ _) ?_)
        | (refine pick _ _ _ (by assumption) (by first | (exact hy1 (by decide)) | (exact hyA (by decide)) | omega) (Fr.refl _ _) (fun j hj t => by omega) _ (fun s hs => ?_))
        | (refine D.n0 _ fun wd D' f => KeepK.on f (fun _ hk t => hk t) ?_; have D := D')
        | (refine D.s2 _ (by omega) fun wd D' f => KeepK.on f (fun _ hk t => hk t) ?_; have D := D')
        | (refine D.n5 _ fun wd D' f => KeepK.on f (fun _ hk t => hk t) ?_; have D := D')
        | (refine D.n6 _ fun wd D' f => KeepK.on f (fun _ hk t => hk t) ?_; have D := D')
        | fail
    rintro _ _ w6 D
    refine D.ri (by omega) fun x => ⟨by decide, ifB.by (fun _ => ifB.f rfl (turn 13 (by decide) D)) (fun _ => turn 13 (by decide) D)⟩
  refine ifB.by (fun _ => ?_) (fun _ => ?_)
  · refine DrewK.of fun w6 _ f6 => HoldK.of (fun k => k ≠ g5) ?_
    have D := D.keep0 f6
    refine inG hlo.2.2.2.2.1 (D.ri (by omega) fun xa => inG hlo.2.2.2.2.1 (D.ri (by omega) fun xb => ?_))
    refine witK _ 3 (by decide) fun y hy0 hy1 => KeepK.of (Fr.refl _ _) ?_
    have hr := wrap_rg (1 + y)
    refine CallK.of (digits_spec (IntKind.i64.wrap (1 + y)) hr.1 hr.2 w6) ?_
    rintro _ w7 ⟨rfl, f7⟩
    refine ⟨_, rfl, KeepK.of f7 ?_⟩
    have hit := itoa_short (IntKind.i64.wrap (1 + y)) hr.1 hr.2
    have D := D.keep0 f7
    have ech : (⟨#[99, 104]⟩ : ByteArray) = str [99, 104] := rfl
    rw [ech]
    refine ⟨by rw [str_size, str_size]; show ((_ : Nat) : Int) ≤ 9223372036854775807; simp only [List.length_cons, List.length_nil]; omega, ?_⟩
    rw [str_app]
    refine witK _ 2 (by decide) fun z hz0' hz1 => KeepK.of (Fr.refl _ _) ?_
    refine D.n0 _ fun wa D f => KeepK.on f (fun _ hk t => hk t) ?_
    refine D.s1 _ (by omega) fun wb D f => KeepK.on f (fun _ hk t => hk t) ?_
    refine D.s3 _ (by rw [str_size]; simp only [List.length_append, List.length_cons, List.length_nil]; omega) fun wc D f => KeepK.on f (fun _ hk t => hk t) ?_
    refine D.n6 _ fun wd D f => KeepK.on f (fun _ hk t => hk t) ?_
    refine D.ri (by omega) fun x => ⟨by decide, ifB.by (fun _ => ifB.f rfl D.fin) (fun _ => D.fin)⟩
  refine ifB.by (fun _ => ?_) (fun _ => ?_)
  · exact D.ri (by omega) fun x => witK x 4 (by decide) fun y _ _ => D.n0 5 fun wa Da _ => Da.n5 _ fun wb Db _ => Db.fin
  refine ifB.by (fun _ => ?_) (fun _ => ?_)
  · refine JoinK.of (fun _ w' => DoS w w' g1 g3 g5 c) ?_ ?_
    · refine DrewK.of fun w6 _ f6 => HoldK.of (fun k => k ≠ g5) ?_
      have D := D.keep0 f6
      refine inG hlo.2.2.2.2.1 (D.ri (by omega) fun xa => inG hlo.2.2.2.2.1 (D.ri (by omega) fun xb => ?_))
      repeat' first
        | exact D
        | (refine (⟨?_, ?_⟩ : AndK _ _))
        | (refine wordK [[117, 115, 100], [101, 117, 114], [103, 98, 112]] rfl (by decide) fun u wd pick f => KeepK.of f ?_; have hlt := D.lt5; have D := D.keep0 f)
        | (refine witK _ _ (by first | decide | exact hwr.2) fun y hy0 hy1 => KeepK.of (Fr.refl _ _) ?_)
        | (refine pick _ _ _ (by assumption) (by first | (exact hy1 (by decide)) | (exact hyA (by decide)) | omega) (Fr.refl _ _) (fun j hj t => by omega) _ (fun s hs => ?_))
        | (refine D.n0 _ fun wd D' f => KeepK.on f (fun _ hk t => hk t) ?_; have D := D')
        | (refine D.s4 _ (by omega) fun wd D' f => KeepK.on f (fun _ hk t => hk t) ?_; have D := D')
        | (refine D.n5 _ fun wd D' f => KeepK.on f (fun _ hk t => hk t) ?_; have D := D')
        | (refine D.n6 _ fun wd D' f => KeepK.on f (fun _ hk t => hk t) ?_; have D := D')
        | fail
    rintro _ _ w6 D
    exact ifB.f rfl (turn 7 (by decide) D)
  · refine DrewK.of fun w6 _ f6 => HoldK.of (fun k => k ≠ g5) ?_
    have D := D.keep0 f6
    refine inG hlo.2.2.2.2.1 (D.ri (by omega) fun xa => inG hlo.2.2.2.2.1 (D.rs fun xs => inG hlo.2.2.2.2.1 (D.ri (by omega) fun xb => inG hlo.2.2.2.2.1 (D.ri (by omega) fun xc => ?_))))
    refine witK _ 9 (by decide) fun y hy0 hy1 => KeepK.of (Fr.refl _ _) ?_
    refine txtK xs 5 (by decide) (by decide) fun s hs => KeepK.of (Fr.refl _ _) ?_
    obtain ⟨x5, h5, _⟩ := D.b5
    refine StsK.blk (cs := evRL x5) (vs := evRL (y, s, (⟨#[]⟩ : ByteArray), (⟨#[]⟩ : ByteArray), (⟨#[]⟩ : ByteArray), xb, xc, 0, (⟨#[]⟩ : ByteArray), 0, (none, 0, 0), ())) h5 rfl rfl fun w7 hb7 f7 _ => KeepK.on f7 (fun _ hk t => hk t) ?_
    exact (D.put h5 f7 hb7 (zfine _ _ s y xb xc (by omega))).fin

end Go.Proofs.YtbadiokobooliaaGreatDoor

/-! ### RefEv2 -/
set_option linter.unusedVariables false
set_option maxRecDepth 100000
namespace Go.Proofs.YtbadiokobooliaaGreatDoor
open Vc

/-- Some bytes behind some others. -/
theorem app_some {w : World} {x : Sl} {xs : List UInt8} (hx : IsB w x xs) {y : Sl} {ys : List UInt8} (hy : IsB w y ys) (hl : xs.length + ys.length ≤ 140737488355000) {K : (Option Addr × Nat × Nat) → World → Prop}
    (k : ∀ (u : Sl) w', IsB w' u (xs ++ ys) → Fr (blkOf x) w w' → (∀ k, blkOf u k → blkOf x k ∨ w.heap.size ≤ k) → K u w') :
    RunK Tryz.prog (Builtin.append_ #[38, 38] 38 #[.slice x.1 x.2.1 x.2.2, .slice y.1 y.2.1 y.2.2]) w (.v (.one .slc)) (fun (u : Option Addr × Nat × Nat) w' => K u w') := by
  obtain ⟨u, w', hr, hu, f, uf⟩ := append_bytes hx hy.rd hl
  exact ⟨u, w', hr, k u w' hu f uf⟩

end Go.Proofs.YtbadiokobooliaaGreatDoor

/-! ### RefReadF -/
set_option linter.unusedVariables false
set_option maxRecDepth 100000
namespace Go.Proofs.YtbadiokobooliaaGreatDoor
open Vc

/-! ### The document's reader -/

/-! ### Kinds -/

/-! ### Behind an error -/

/-! ### Parts -/
section
variable {fin : Int} {rec : Bool → RS → Tr × RS} (hr : ∀ b s, s.e ≠ 0 → (rec b s).2 = s)
include hr
omit hr in
omit hr in
omit hr in
end

/-! ### What went before went well -/
section
variable {fin : Int} {rec : Bool → RS → Tr × RS} (hr : ∀ b s, s.e ≠ 0 → (rec b s).2 = s)
include hr
end

/-! ### The same as the program's -/

/-! ### The document reads as the program does -/

/-! ### How much is in a tree that was read -/

end Go.Proofs.YtbadiokobooliaaGreatDoor

/-! ### CRefSg -/
namespace Go.Proofs.YtbadiokobooliaaGreatDoor
open Vc
set_option maxRecDepth 100000
set_option linter.unusedVariables false

end Go.Proofs.YtbadiokobooliaaGreatDoor

/-! ### RTellSpec -/
set_option linter.unusedVariables false
set_option maxRecDepth 100000
namespace Go.Proofs.YtbadiokobooliaaGreatDoor
open Vc

/-! ### The document's signs -/

end Go.Proofs.YtbadiokobooliaaGreatDoor

/-! ### CRefRd -/
namespace Go.Proofs.YtbadiokobooliaaGreatDoor
open Vc
set_option maxRecDepth 100000
set_option linter.unusedVariables false

end Go.Proofs.YtbadiokobooliaaGreatDoor

/-! ### RefReadSpec -/
set_option linter.unusedVariables false
set_option maxRecDepth 100000
namespace Go.Proofs.YtbadiokobooliaaGreatDoor
open Vc

/-! ### Steps, plain -/

/-! ### The reader -/

end Go.Proofs.YtbadiokobooliaaGreatDoor

/-! ### RefReadSpec2 -/
set_option linter.unusedVariables false
set_option maxRecDepth 100000
namespace Go.Proofs.YtbadiokobooliaaGreatDoor
open Vc

/-! ### How many parts a kind has -/

/-! ### Trees -/

end Go.Proofs.YtbadiokobooliaaGreatDoor

/-! ### RefReadSpec3 -/
set_option linter.unusedVariables false
set_option maxRecDepth 100000
namespace Go.Proofs.YtbadiokobooliaaGreatDoor
open Vc

/-! ### What was read is small -/

/-! ### Same trees -/

end Go.Proofs.YtbadiokobooliaaGreatDoor

/-! ### CRef11T -/
namespace Go.Proofs.YtbadiokobooliaaGreatDoor
open Vc
set_option maxRecDepth 100000
set_option linter.unusedVariables false

/-- handfast/handfastref11.TakeNumber -/
def C63 (p0 : Option Addr) (p0l p0c : Nat) (w : World) (K : Value → World → Prop) : Prop :=
  ifB ((p0l : Int) != 8)
  (K (.tuple #[.int .i64 0, .bool false]) w)
  (LoopK (Int × Int × Unit) (fun _ s1 w2 next3 => ifB (decide (s1.2.1 < 8))
  (NnK 8 (IdxK p0 p0l s1.2.1 1 (fun a4 => LdK (.int .u8) a4 w2 (fun (x5 : Int) => next3 (IntKind.u64.wrap ((BitVec.ofInt 64 (IntKind.u64.wrap (s1.1 * 2 ^ (min (Int.toNat 8) 64))) ||| BitVec.ofInt 64 (IntKind.u64.wrap x5)).toNat : Int), IntKind.i64.wrap (s1.2.1 + 1), ()) w2))))
  (K (.tuple #[.int .i64 (IntKind.i64.wrap s1.1), .bool true]) w2))
  (0, 0, ()) w)
def pl63 : Plan := (.seq .auto (.seq .auto (.seq .auto (.seq (.seq .auto (.block (.loop [(4, .one (.int .u64)), (5, .one (.int .i64))] .auto))) .auto))))
theorem e63 (p0 : Option Addr) (p0l p0c : Nat) (w : World) (K : Value → World → Prop) : vcFunc Tryz.prog Tryz.f63 pl63 [.slice p0 p0l p0c] w K = C63 p0 p0l p0c w K := by kernel_rfl

/-- handfast/handfastref11.Same -/
def C29 (p0 : YZ17) (p1 : YZ17) (w : World) (K : Value → World → Prop) : Prop :=
  NewK (.cells ((LZ17 p0).toArray) 35) w (fun g1 w2 => NewK (.cells ((LZ17 p1).toArray) 35) w2 (fun g3 w4 => LdK (.int .i64) ((ad g1).add 0) w4 (fun (x5 : Int) => LdK (.int .i64) ((ad g3).add 0) w4 (fun (x6 : Int) => ifB (x5 == x6)
  (LdK .str ((ad g1).add 1) w4 (fun (x7 : ByteArray) => LdK .str ((ad g3).add 1) w4 (fun (x8 : ByteArray) => ifB (x7.toList == x8.toList)
  (LdK .str ((ad g1).add 2) w4 (fun (x9 : ByteArray) => LdK .str ((ad g3).add 2) w4 (fun (x10 : ByteArray) => ifB (x9.toList == x10.toList)
  (LdK .str ((ad g1).add 3) w4 (fun (x11 : ByteArray) => LdK .str ((ad g3).add 3) w4 (fun (x12 : ByteArray) => ifB (x11.toList == x12.toList)
  (LdK .str ((ad g1).add 4) w4 (fun (x13 : ByteArray) => LdK .str ((ad g3).add 4) w4 (fun (x14 : ByteArray) => ifB (x13.toList == x14.toList)
  (LdK (.int .i64) ((ad g1).add 5) w4 (fun (x15 : Int) => LdK (.int .i64) ((ad g3).add 5) w4 (fun (x16 : Int) => ifB (x15 == x16)
  (LdK (.int .i64) ((ad g1).add 6) w4 (fun (x17 : Int) => LdK (.int .i64) ((ad g3).add 6) w4 (fun (x18 : Int) => ifB (x17 == x18)
  (LdK (.int .i64) (((ad g1).add 7).add 0) w4 (fun (x19 : Int) => ifB (x19 == 0)
  (LdK (.int .i64) (((ad g3).add 7).add 0) w4 (fun (x20 : Int) => ifB (x20 == 0)
  (K (.bool true) w4)
  (LdsK KZ3 ((ad g1).add 7) w4 (fun (x21 : YZ3) => LdsK KZ3 ((ad g3).add 7) w4 (fun (x22 : YZ3) => CallK Tryz.prog 65 #[.agg (LZ3 x21).toArray, .agg (LZ3 x22).toArray] w4 (.v (.one .bool)) (fun (x23 : Bool) w24 => K (.bool x23) w24))))))
  (LdsK KZ3 ((ad g1).add 7) w4 (fun (x25 : YZ3) => LdsK KZ3 ((ad g3).add 7) w4 (fun (x26 : YZ3) => CallK Tryz.prog 65 #[.agg (LZ3 x25).toArray, .agg (LZ3 x26).toArray] w4 (.v (.one .bool)) (fun (x27 : Bool) w28 => K (.bool x27) w28))))))
  (K (.bool false) w4))))
  (K (.bool false) w4))))
  (K (.bool false) w4))))
  (K (.bool false) w4))))
  (K (.bool false) w4))))
  (K (.bool false) w4))))
  (K (.bool false) w4)))))
def pl29 : Plan := .auto
theorem e29 (p0 : YZ17) (p1 : YZ17) (w : World) (K : Value → World → Prop) : vcFunc Tryz.prog Tryz.f29 pl29 [.agg (LZ17 p0).toArray, .agg (LZ17 p1).toArray] w K = C29 p0 p1 w K := by kernel_rfl
theorem c29 (p0 : YZ17) (p1 : YZ17) (w : World) (K : Value → World → Prop) (h : C29 p0 p1 w K) : Ret Tryz.prog 29 #[.agg (LZ17 p0).toArray, .agg (LZ17 p1).toArray] w K := by
  rw [← e29] at h
  exact vcFunc_sound (by kernel_rfl) Tryz.func29 h

end Go.Proofs.YtbadiokobooliaaGreatDoor

/-! ### TakeSpec2 -/
set_option linter.unusedVariables false
set_option maxRecDepth 100000
namespace Go.Proofs.YtbadiokobooliaaGreatDoor
open Vc

/-! ### The trees that are read are small -/

/-! ### The document's taker -/

end Go.Proofs.YtbadiokobooliaaGreatDoor

/-! ### TakeSpec3 -/
set_option linter.unusedVariables false
set_option maxRecDepth 100000
namespace Go.Proofs.YtbadiokobooliaaGreatDoor
open Vc

namespace Vc
end Vc

end Go.Proofs.YtbadiokobooliaaGreatDoor

/-! ### TakeSpec4 -/
set_option linter.unusedVariables false
set_option maxRecDepth 100000
namespace Go.Proofs.YtbadiokobooliaaGreatDoor
open Vc

/-! ### The document's entry of bytes -/
def zeroV : TV := (0, str [], 0, (none, 0, 0), ())

/-! ### The document's events compared -/

end Go.Proofs.YtbadiokobooliaaGreatDoor

/-! ### SomeSpec2 -/
set_option linter.unusedVariables false
set_option maxRecDepth 100000
namespace Go.Proofs.YtbadiokobooliaaGreatDoor
open Vc

theorem some_spec (c : CmV) (p1 p2 : Int) (p3 : ByteArray) {w : World} (hp : IsPl w (cmPl c)) :
    Ret Tryz.prog 11 #[.agg (cmL c).toArray, .int .i64 p1, .int .i64 p2, .string p3, .int .i64 0] w fun r w' =>
      ∃ (e : EvT) (t : Tm) (v : TV), r = .tuple #[evA e, evRA (evR e v), .bool false] ∧ e.2.2.2.2.2.2.2.1 = t.v ∧ smallE e ∧ nodesT t ≤ 2000 ∧ shortT t ∧ Made w w' (trT t) v ∧ Fr none1 w w' := by
  refine c11 c p1 p2 p3 0 w _ ?_
  unfold C11
  refine NewK.of fun g1 w1 hg1 hb1 f1 hs1 => NewK.of fun g3 w2 hg3 hb3 f2 hs2 => NewK.of fun g5 w3 hg5 hb5 f3 hs3 => ?_
  refine LdsK.blk (cks := [.int .i64, .int .i64, .int .i64, .int .i64, .int .i64, .str, .slc, .slc]) (x := c) ((f2.trans f3).keep0 hb1) ?_
  have f13 := (f1.trans f2).trans f3
  refine CallK.of (do_spec c 3 (hp.keep0 f13)) ?_
  rintro _ w4 ⟨x, rfl, hx, f4⟩
  refine ⟨x, rfl, ?_⟩
  have s4 := f4.size
  refine NewK.of fun g10 w5 hg10 hb10 f5 hs5 => ?_
  refine StsK.blk (cs := evRL (0, (⟨#[]⟩ : ByteArray), (⟨#[]⟩ : ByteArray), (⟨#[]⟩ : ByteArray), (⟨#[]⟩ : ByteArray), 0, 0, 0, (⟨#[]⟩ : ByteArray), 0, (none, 0, 0), ())) (vs := evRL x) hb10 rfl rfl fun w6 hb6 f6 hs6 => ?_
  have hx6 : Fine w6 (fun k => w3.heap.size ≤ k ∧ k < w4.heap.size) x := (hx.keep f5 (fun _ _ t => t) (fun _ h => h)).keep f6 (fun k hk t => by have : k = g10 := t; have := hk.2; omega) (fun _ h => h)
  refine JoinK.of (fun _ w' => (∃ y : EvR, w'.heap[g10]? = some (.cells (evRL y).toArray 35 (0, 0)) ∧ Fine w' (fun k => w3.heap.size ≤ k ∧ k < w4.heap.size) y) ∧ Fr (only g10) w6 w') ?_ ?_
  · obtain ⟨e, t, v, rfl, he, hz, hn, hsh, hT⟩ := hx6
    have kp : ∀ wd, Fr (only g10) w6 wd → IsTr wd (fun k => w3.heap.size ≤ k ∧ k < w4.heap.size) (trT t) v := fun wd f => IsTr.keep f (fun k hk q => by have : k = g10 := q; have := hk.2; omega) _ _ hT
    refine witK p1 20 (by decide) fun k _ _ => ?_
    refine ifB.by (fun _ => ?_) (fun _ => ?_)
    · refine witK p2 9 (by decide) fun n _ _ => StK.fld hb6 (by show 0 + 0 < 11; omega) rfl fun wd hb f _ => ?_
      exact ⟨⟨evR (n, e.2) v, hb, (n, e.2), t, v, rfl, he, hz, hn, hsh, kp wd f⟩, f⟩
    refine ifB.by (fun _ => ?_) (fun _ => ?_)
    · refine txtK p3 16 (by decide) (by decide) fun s hs => StK.fld hb6 (by show 0 + 1 < 11; omega) rfl fun wd hb f _ => ?_
      exact ⟨⟨evR (e.1, s, e.2.2) v, hb, (e.1, s, e.2.2), t, v, rfl, he, ⟨by show s.size ≤ _; omega, hz.2⟩, hn, hsh, kp wd f⟩, f⟩
    refine ifB.by (fun _ => ?_) (fun _ => ?_)
    · refine txtK p3 16 (by decide) (by decide) fun s hs => StK.fld hb6 (by show 0 + 2 < 11; omega) rfl fun wd hb f _ => ?_
      exact ⟨⟨evR (e.1, e.2.1, s, e.2.2.2) v, hb, (e.1, e.2.1, s, e.2.2.2), t, v, rfl, he, ⟨hz.1, by show s.size ≤ _; omega, hz.2.2⟩, hn, hsh, kp wd f⟩, f⟩
    refine ifB.by (fun _ => ?_) (fun _ => ?_)
    · refine txtK p3 16 (by decide) (by decide) fun s hs => StK.fld hb6 (by show 0 + 3 < 11; omega) rfl fun wd hb f _ => ?_
      exact ⟨⟨evR (e.1, e.2.1, e.2.2.1, s, e.2.2.2.2) v, hb, (e.1, e.2.1, e.2.2.1, s, e.2.2.2.2), t, v, rfl, he, ⟨hz.1, hz.2.1, by show s.size ≤ _; omega, hz.2.2.2⟩, hn, hsh, kp wd f⟩, f⟩
    refine ifB.by (fun _ => ?_) (fun _ => ?_)
    · refine txtK p3 16 (by decide) (by decide) fun s hs => StK.fld hb6 (by show 0 + 4 < 11; omega) rfl fun wd hb f _ => ?_
      exact ⟨⟨evR (e.1, e.2.1, e.2.2.1, e.2.2.2.1, s, e.2.2.2.2.2) v, hb, (e.1, e.2.1, e.2.2.1, e.2.2.2.1, s, e.2.2.2.2.2), t, v, rfl, he, ⟨hz.1, hz.2.1, hz.2.2.1, by show s.size ≤ _; omega⟩, hn, hsh, kp wd f⟩, f⟩
    refine ifB.by (fun _ => ?_) (fun _ => ?_)
    · refine StK.fld hb6 (by show 0 + 5 < 11; omega) rfl fun wd hb f _ => ?_
      exact ⟨⟨evR (e.1, e.2.1, e.2.2.1, e.2.2.2.1, e.2.2.2.2.1, p2, e.2.2.2.2.2.2) v, hb, (e.1, e.2.1, e.2.2.1, e.2.2.2.1, e.2.2.2.2.1, p2, e.2.2.2.2.2.2), t, v, rfl, he, hz, hn, hsh, kp wd f⟩, f⟩
    refine ifB.by (fun _ => ?_) (fun _ => ?_)
    · refine StK.fld hb6 (by show 0 + 6 < 11; omega) rfl fun wd hb f _ => ?_
      exact ⟨⟨evR (e.1, e.2.1, e.2.2.1, e.2.2.2.1, e.2.2.2.2.1, e.2.2.2.2.2.1, p2, e.2.2.2.2.2.2.2) v, hb, (e.1, e.2.1, e.2.2.1, e.2.2.2.1, e.2.2.2.2.1, e.2.2.2.2.2.1, p2, e.2.2.2.2.2.2.2), t, v, rfl, he, hz, hn, hsh, kp wd f⟩, f⟩
    · exact ⟨⟨evR e v, hb6, e, t, v, rfl, he, hz, hn, hsh, hT⟩, Fr.refl _ _⟩
  rintro _ _ w7 ⟨⟨y, hb7, e, t, v, rfl, he, hz, hn, hsh, hT⟩, f7⟩
  refine LdsK.blk (cks := ERK) (x := evR e v) hb7 ?_
  refine CallK.of (back_spec e t he hT) ?_
  rintro _ w8 ⟨rfl, f8⟩
  refine ⟨e, rfl, ?_⟩
  have hone : one1 e.2.2.2.2.2.2.2.1 = true := by rw [he]; exact Tm.v_one t
  refine ns_ok (zs := [.int .i64 0, .string (⟨#[]⟩ : ByteArray), .string (⟨#[]⟩ : ByteArray), .string (⟨#[]⟩ : ByteArray), .string (⟨#[]⟩ : ByteArray), .int .i64 0, .int .i64 0, .nilIface]) (vs := evL e) rfl (evL_one hone) fun g38 w9 hg38 hb9 f9 => ?_
  refine ⟨by decide, ifB.f (by decide) ?_⟩
  have s5 := f5.size; have s6 := f6.size; have s7 := f7.size; have s8 := f8.size
  refine DrewK.of fun wa _ fa => HoldK.of (fun k => k = g38) ⟨rfl, ?_⟩
  refine LdsK.blk (cks := EK) (x := e) (fa.keep0 hb9) ⟨rfl, LdsK.blk (cks := EK) (x := e) (fa.keep0 hb9) ?_⟩
  refine CallK.of (event_of_spec e t he wa) ?_
  rintro _ wb ⟨v2, rfl, mv, fb⟩
  refine ⟨evR e v2, rfl, KeepK.of fb ?_⟩
  have f36 : Fr none1 w3 w6 := (f4.trans f5).fresh f6 (by omega)
  have f3b : Fr none1 w3 wb := ((((f36.fresh f7 (by omega)).trans f8).trans f9).trans fa).trans fb
  have s3b := f3b.size
  have sab := (f9.trans fa).size
  refine StsK.blk (cs := [.int .i64 0, .string (⟨#[]⟩ : ByteArray), .string (⟨#[]⟩ : ByteArray), .string (⟨#[]⟩ : ByteArray), .string (⟨#[]⟩ : ByteArray), .int .i64 0, .int .i64 0, .nilIface]) (vs := evL e) ((f3.trans f3b).keep0 hb3) rfl (evL_one hone) fun wc hbc fc _ => KeepK.on fc (fun k hk q => by have : g3 = k := q.symm; omega) ?_
  refine StsK.blk (cs := evRL (0, (⟨#[]⟩ : ByteArray), (⟨#[]⟩ : ByteArray), (⟨#[]⟩ : ByteArray), (⟨#[]⟩ : ByteArray), 0, 0, 0, (⟨#[]⟩ : ByteArray), 0, (none, 0, 0), ())) (vs := evRL (evR e v2)) (fc.keep (f3b.keep0 hb5) (fun q => by have : g5 = g3 := q; omega)) rfl rfl fun wd hbd fd _ => KeepK.on fd (fun k hk q => by have : g5 = k := q.symm; omega) ?_
  refine LdsK.blk (cks := EK) (x := e) (fd.keep hbc (fun q => by have : g3 = g5 := q; omega)) (LdsK.blk (cks := ERK) (x := evR e v2) hbd ?_)
  refine ⟨e, t, v2, rfl, he, hz, hn, hsh, ?_, ((f13.trans f3b).fresh fc (by omega)).fresh fd (by omega)⟩
  have m2 := (mv.keep fc (fun k hk _ q => by have : k = g3 := q; omega)).keep fd (fun k hk _ q => by have : k = g5 := q; omega)
  exact m2.older (by omega)

end Go.Proofs.YtbadiokobooliaaGreatDoor

/-! ### PTake0 -/
set_option linter.unusedVariables false
set_option maxRecDepth 100000
namespace Go.Proofs.YtbadiokobooliaaGreatDoor
open Vc

theorem evM_of (e : EvT) (t : Tm) (he : e.2.2.2.2.2.2.2.1 = t.v) : ∃ m : EvM, m.e = e ∧ m.t = t :=
  ⟨(e.1, e.2.1.data.toList, e.2.2.1.data.toList, e.2.2.2.1.data.toList, e.2.2.2.2.1.data.toList, e.2.2.2.2.2.1, e.2.2.2.2.2.2.1, t), by unfold EvM.e; simp only [str_of]; rw [← he], rfl⟩

/-- An event, and the document's, laid. -/
theorem ns2_ok (m : EvM) (v : TV) {w : World} {K : Nat → World → Prop} (k : ∀ g w4, w.heap.size ≤ g → w4.heap[g]? = some (.cells (evL m.e).toArray 30 (0, 0)) → Fr none1 w w4 → K g w4) :
    NewK (.cells #[.int .i64 0, .string (⟨#[]⟩ : ByteArray), .string (⟨#[]⟩ : ByteArray), .string (⟨#[]⟩ : ByteArray), .string (⟨#[]⟩ : ByteArray), .int .i64 0, .int .i64 0, .nilIface] 30) w (fun g8 w9 =>
    NewK (.cells #[.int .i64 0, .string (⟨#[]⟩ : ByteArray), .string (⟨#[]⟩ : ByteArray), .string (⟨#[]⟩ : ByteArray), .string (⟨#[]⟩ : ByteArray), .int .i64 0, .int .i64 0, .int .i64 0, .string (⟨#[]⟩ : ByteArray), .int .i64 0, .slice none 0 0] 35) w9 (fun g10 w11 =>
    StsK ⟨g8, 0, none⟩ (evL m.e) w11 (fun w12 => StsK ⟨g10, 0, none⟩ (evRL (evR m.e v)) w12 (fun w13 => K g8 w13)))) := by
  refine NewK.of fun g6 w3 hg6 hb6 f3 hs3 => NewK.of fun g8 w4 hg8 hb8 f4 hs4 => ?_
  refine StsK.blk (cs := evL zeroM.e) (vs := evL m.e) (f4.keep0 hb6) rfl (evL_one (Tm.v_one _)) fun w5 hb65 f5 hs5 => ?_
  refine StsK.blk (cs := evRL (evR zeroM.e zeroV)) (vs := evRL (evR m.e v)) (f5.keep hb8 (fun q => by have : g8 = g6 := q; omega)) rfl rfl fun w6 hb86 f6 hs6 => ?_
  exact k g6 w6 (by omega) (f6.keep hb65 (fun q => by have : g6 = g8 := q; omega)) (((f3.trans f4).fresh f5 (by omega)).fresh f6 (by omega))

end Go.Proofs.YtbadiokobooliaaGreatDoor

/-! ### CSameG -/
namespace Go.Proofs.YtbadiokobooliaaGreatDoor
open Vc
set_option maxRecDepth 100000
set_option linter.unusedVariables false
/-- handfast/obs.kind -/
def C151 (p0 : Value) (w : World) (K : Value → World → Prop) : Prop :=
  TaK p0 174 (.agg [.int .i64]) (fun (x1 : Int × Unit) => K (.int .i64 1) w)
  (TaK p0 251 (.agg [.str]) (fun (x2 : ByteArray × Unit) => K (.int .i64 2) w)
  (TaK p0 253 (.agg [.raw, .raw]) (fun (x3 : Value × Value × Unit) => K (.int .i64 3) w)
  (TaK p0 255 (.agg [.raw]) (fun (x4 : Value × Unit) => K (.int .i64 4) w)
  (TaK p0 256 (.agg [.raw, .raw]) (fun (x5 : Value × Value × Unit) => K (.int .i64 5) w)
  (TaK p0 257 (.agg [.raw, .raw]) (fun (x6 : Value × Value × Unit) => K (.int .i64 6) w)
  (K (.int .i64 0) w))))))
def pl151 : Plan := .auto
theorem e151 (p0 : Value) (w : World) (K : Value → World → Prop) : vcFunc Tryz.prog Tryz.f151 pl151 [p0] w K = C151 p0 w K := by kernel_rfl
theorem c151 (p0 : Value) (w : World) (K : Value → World → Prop) (h : C151 p0 w K) : Ret Tryz.prog 151 #[p0] w K := by
  rw [← e151] at h
  exact vcFunc_sound (by kernel_rfl) Tryz.func151 h

/-- handfast/obs.Same -/
def C115 (p0 : Value) (p1 : Value) (w : World) (K : Value → World → Prop) : Prop :=
  CallK Tryz.prog 151 #[p0] w (.v (.one (.int .i64))) (fun (x1 : Int) w2 => ifB (x1 == 0)
  (K (.bool false) w2)
  (CallK Tryz.prog 151 #[p0] w2 (.v (.one (.int .i64))) (fun (x3 : Int) w4 => CallK Tryz.prog 151 #[p1] w4 (.v (.one (.int .i64))) (fun (x5 : Int) w6 => ifB (x3 != x5)
  (K (.bool false) w6)
  (TaK p0 174 (.agg [.int .i64]) (fun (x7 : Int × Unit) => NewK (.cells #[.int .i64 0] 174) w6 (fun g8 w9 => StsK (ad g8) [.int .i64 x7.1] w9 (fun w10 => DrewK w10 (fun w11 => LdsK [.int .i64] (ad g8) w11 (fun (x12 : Int × Unit) => TaK p1 174 (.agg [.int .i64]) (fun (x13 : Int × Unit) => RunK Tryz.prog (do eqGuard .eql 174 (.tmp 25) (.tmp 27) (.agg #[.int .i64 x12.1]) (.agg #[.int .i64 x13.1]); binOp .eql 174 (.agg #[.int .i64 x12.1]) (.agg #[.int .i64 x13.1])) w11 (.v (.one .bool)) (fun (x14 : Bool) w15 => K (.bool x14) w15)) False)))))
  (NewK (.cells #[.int .i64 0] 174) w6 (fun g16 w17 => StsK (ad g16) [.int .i64 0] w17 (fun w18 => TaK p0 251 (.agg [.str]) (fun (x19 : ByteArray × Unit) => NewK (.cells #[.string (⟨#[]⟩ : ByteArray)] 251) w18 (fun g20 w21 => StsK (ad g20) [.string x19.1] w21 (fun w22 => DrewK w22 (fun w23 => LdsK [.str] (ad g20) w23 (fun (x24 : ByteArray × Unit) => TaK p1 251 (.agg [.str]) (fun (x25 : ByteArray × Unit) => RunK Tryz.prog (do eqGuard .eql 251 (.tmp 35) (.tmp 37) (.agg #[.string x24.1]) (.agg #[.string x25.1]); binOp .eql 251 (.agg #[.string x24.1]) (.agg #[.string x25.1])) w23 (.v (.one .bool)) (fun (x26 : Bool) w27 => K (.bool x26) w27)) False)))))
  (NewK (.cells #[.string (⟨#[]⟩ : ByteArray)] 251) w18 (fun g28 w29 => StsK (ad g28) [.string (⟨#[]⟩ : ByteArray)] w29 (fun w30 => CallK Tryz.prog 153 #[p0] w30 (.v (.one .slc)) (fun (x31 : SlT) w32 => CallK Tryz.prog 153 #[p1] w32 (.v (.one .slc)) (fun (x33 : SlT) w34 => CallK Tryz.prog 152 #[.slice x31.1 x31.2.1 x31.2.2, .slice x33.1 x33.2.1 x33.2.2, .func (.func 115) #[] #[]] w34 (.v (.one .bool)) (fun (x35 : Bool) w36 => K (.bool x35) w36))))))))))))))
def pl115 : Plan := (.seq .auto (.seq .auto (.seq (.seq .auto (.seq .auto (.cond (.seq (.tail 3) .auto) .auto))) (.seq (.seq .auto (.seq .auto (.cond (.seq (.tail 3) .auto) .auto))) .auto))))
theorem e115 (p0 : Value) (p1 : Value) (w : World) (K : Value → World → Prop) : vcFunc Tryz.prog Tryz.f115 pl115 [p0, p1] w K = C115 p0 p1 w K := by kernel_rfl
theorem c115 (p0 : Value) (p1 : Value) (w : World) (K : Value → World → Prop) (h : C115 p0 p1 w K) : Ret Tryz.prog 115 #[p0, p1] w K := by
  rw [← e115] at h
  exact vcFunc_sound (by kernel_rfl) Tryz.func115 h

/-- handfast/term.Same -/
def C72 (p0 : Value) (p1 : Value) (w : World) (K : Value → World → Prop) : Prop :=
  CallK Tryz.prog 112 #[p0] w (.v (.one (.int .i64))) (fun (x1 : Int) w2 => ifB (x1 == 0)
  (K (.bool false) w2)
  (CallK Tryz.prog 112 #[p0] w2 (.v (.one (.int .i64))) (fun (x3 : Int) w4 => CallK Tryz.prog 112 #[p1] w4 (.v (.one (.int .i64))) (fun (x5 : Int) w6 => ifB (x3 != x5)
  (K (.bool false) w6)
  (CallK Tryz.prog 113 #[p0] w6 (.tup [.one .str, .one (.int .i64)]) (fun (x7 : ByteArray × Int × Unit) w8 => CallK Tryz.prog 113 #[p1] w8 (.tup [.one .str, .one (.int .i64)]) (fun (x9 : ByteArray × Int × Unit) w10 => ifB (!(x7.1.toList == x9.1.toList))
  (K (.bool false) w10)
  (ifB (x7.2.1 != x9.2.1)
  (K (.bool false) w10)
  (CallK Tryz.prog 114 #[p0] w10 (.tup [.one .raw, .one .bool]) (fun (x11 : Value × Bool × Unit) w12 => ifB x11.2.1
  (CallK Tryz.prog 114 #[p1] w12 (.tup [.one .raw, .one .bool]) (fun (x13 : Value × Bool × Unit) w14 => CallK Tryz.prog 115 #[x11.1, x13.1] w14 (.v (.one .bool)) (fun (x15 : Bool) w16 => ifB (!x15)
  (K (.bool false) w16)
  (CallK Tryz.prog 117 #[p0] w16 (.v (.one .slc)) (fun (x17 : SlT) w18 => CallK Tryz.prog 117 #[p1] w18 (.v (.one .slc)) (fun (x19 : SlT) w20 => CallK Tryz.prog 116 #[.slice x17.1 x17.2.1 x17.2.2, .slice x19.1 x19.2.1 x19.2.2, .func (.func 72) #[] #[]] w20 (.v (.one .bool)) (fun (x21 : Bool) w22 => K (.bool x21) w22)))))))
  (CallK Tryz.prog 117 #[p0] w12 (.v (.one .slc)) (fun (x23 : SlT) w24 => CallK Tryz.prog 117 #[p1] w24 (.v (.one .slc)) (fun (x25 : SlT) w26 => CallK Tryz.prog 116 #[.slice x23.1 x23.2.1 x23.2.2, .slice x25.1 x25.2.1 x25.2.2, .func (.func 72) #[] #[]] w26 (.v (.one .bool)) (fun (x27 : Bool) w28 => K (.bool x27) w28))))))))))))))
def pl72 : Plan := .auto
theorem e72 (p0 : Value) (p1 : Value) (w : World) (K : Value → World → Prop) : vcFunc Tryz.prog Tryz.f72 pl72 [p0, p1] w K = C72 p0 p1 w K := by kernel_rfl
theorem c72 (p0 : Value) (p1 : Value) (w : World) (K : Value → World → Prop) (h : C72 p0 p1 w K) : Ret Tryz.prog 72 #[p0, p1] w K := by
  rw [← e72] at h
  exact vcFunc_sound (by kernel_rfl) Tryz.func72 h

/-- slices.EqualFunc[[]handfast/api.Obs,[]handfast/api.Obs,handfast/api.Obs,handfast/api.Obs] -/
def C152 (p0 : Option Addr) (p0l p0c : Nat) (p1 : Option Addr) (p1l p1c : Nat) (p2 : Value) (w : World) (K : Value → World → Prop) : Prop :=
  ifB ((p0l : Int) != (p1l : Int))
  (K (.bool false) w)
  (LoopK (Int × Unit) (fun _ s1 w2 next3 => ifB (decide (s1.1 < (p0l : Int)))
  (IdxK p0 p0l s1.1 1 (fun a4 => LdK .raw a4 w2 (fun (x5 : Value) => IdxK p1 p1l s1.1 1 (fun a6 => LdK .raw a6 w2 (fun (x7 : Value) => callV Tryz.prog p2 [x5, x7] (.v (.one .bool)) w2 (fun (x8 : Bool) w9 => ifB (!x8)
  (K (.bool false) w9)
  (next3 (IntKind.i64.wrap (s1.1 + 1), ()) w9)))))))
  (K (.bool true) w2))
  (0, ()) w)
def pl152 : Plan := (.seq .auto (.seq .auto (.seq (.seq .auto (.block (.loop [(17, .one (.int .i64))] .auto))) .auto)))
theorem e152 (p0 : Option Addr) (p0l p0c : Nat) (p1 : Option Addr) (p1l p1c : Nat) (p2 : Value) (w : World) (K : Value → World → Prop) : vcFunc Tryz.prog Tryz.f152 pl152 [.slice p0 p0l p0c, .slice p1 p1l p1c, p2] w K = C152 p0 p0l p0c p1 p1l p1c p2 w K := by kernel_rfl
theorem c152 (p0 : Option Addr) (p0l p0c : Nat) (p1 : Option Addr) (p1l p1c : Nat) (p2 : Value) (w : World) (K : Value → World → Prop) (h : C152 p0 p0l p0c p1 p1l p1c p2 w K) : Ret Tryz.prog 152 #[.slice p0 p0l p0c, .slice p1 p1l p1c, p2] w K := by
  rw [← e152] at h
  exact vcFunc_sound (by kernel_rfl) Tryz.func152 h

/-- slices.EqualFunc[[]handfast/api.Term,[]handfast/api.Term,handfast/api.Term,handfast/api.Term] -/
def C116 (p0 : Option Addr) (p0l p0c : Nat) (p1 : Option Addr) (p1l p1c : Nat) (p2 : Value) (w : World) (K : Value → World → Prop) : Prop :=
  ifB ((p0l : Int) != (p1l : Int))
  (K (.bool false) w)
  (LoopK (Int × Unit) (fun _ s1 w2 next3 => ifB (decide (s1.1 < (p0l : Int)))
  (IdxK p0 p0l s1.1 1 (fun a4 => LdK .raw a4 w2 (fun (x5 : Value) => IdxK p1 p1l s1.1 1 (fun a6 => LdK .raw a6 w2 (fun (x7 : Value) => callV Tryz.prog p2 [x5, x7] (.v (.one .bool)) w2 (fun (x8 : Bool) w9 => ifB (!x8)
  (K (.bool false) w9)
  (next3 (IntKind.i64.wrap (s1.1 + 1), ()) w9)))))))
  (K (.bool true) w2))
  (0, ()) w)
def pl116 : Plan := (.seq .auto (.seq .auto (.seq (.seq .auto (.block (.loop [(17, .one (.int .i64))] .auto))) .auto)))
theorem e116 (p0 : Option Addr) (p0l p0c : Nat) (p1 : Option Addr) (p1l p1c : Nat) (p2 : Value) (w : World) (K : Value → World → Prop) : vcFunc Tryz.prog Tryz.f116 pl116 [.slice p0 p0l p0c, .slice p1 p1l p1c, p2] w K = C116 p0 p0l p0c p1 p1l p1c p2 w K := by kernel_rfl
theorem c116 (p0 : Option Addr) (p0l p0c : Nat) (p1 : Option Addr) (p1l p1c : Nat) (p2 : Value) (w : World) (K : Value → World → Prop) (h : C116 p0 p0l p0c p1 p1l p1c p2 w K) : Ret Tryz.prog 116 #[.slice p0 p0l p0c, .slice p1 p1l p1c, p2] w K := by
  rw [← e116] at h
  exact vcFunc_sound (by kernel_rfl) Tryz.func116 h

end Go.Proofs.YtbadiokobooliaaGreatDoor

/-! ### SameSpec -/
set_option linter.unusedVariables false
set_option maxRecDepth 100000
namespace Go.Proofs.YtbadiokobooliaaGreatDoor
open Vc

/-! ### Plain -/
def kindO : Ob → Int
  | .none => 0
  | .const _ => 1
  | .fix _ => 2
  | .add _ _ => 3
  | .neg _ => 4
  | .mul _ _ => 5
  | .max _ _ => 6
def sameO : Ob → Ob → Bool
  | .const n, .const m => n == m
  | .fix s, .fix t => s == t
  | .add a b, .add c d => sameO a c && sameO b d
  | .neg a, .neg c => sameO a c
  | .mul a b, .mul c d => sameO a c && sameO b d
  | .max a b, .max c d => sameO a c && sameO b d
  | _, _ => false
def sameT : Tm → Tm → Bool
  | .zero, .zero => true
  | .one s, .one t => s == t
  | .give a, .give c => sameT a c
  | .and a b, .and c d => sameT a c && sameT b d
  | .or s a b, .or t c d => s == t && (sameT a c && sameT b d)
  | .scale o a, .scale p c => sameO o p && sameT a c
  | .when n a, .when m c => n == m && sameT a c
  | .cond o a b, .cond p c d => sameO o p && (sameT a c && sameT b d)
  | _, _ => false
theorem sameO_self (o : Ob) (h : formO o = true) : sameO o o = true := by
  induction o <;> simp_all [sameO, formO]
theorem sameT_self (t : Tm) (h : formT t = true) : sameT t t = true := by
  induction t <;> simp_all [sameT, formT, sameO_self]
theorem sameO_eq (a b : Ob) (h : sameO a b = true) : a = b := by
  induction a generalizing b with
  | none => cases b <;> simp [sameO] at h
  | const n => cases b <;> simp_all [sameO]
  | fix s => cases b <;> simp_all [sameO]
  | add l r i j => cases b <;> simp [sameO] at h; rw [i _ h.1, j _ h.2]
  | neg o i => cases b <;> simp [sameO] at h; rw [i _ h]
  | mul l r i j => cases b <;> simp [sameO] at h; rw [i _ h.1, j _ h.2]
  | max l r i j => cases b <;> simp [sameO] at h; rw [i _ h.1, j _ h.2]
theorem sameT_eq (a b : Tm) (h : sameT a b = true) : a = b := by
  induction a generalizing b with
  | none => cases b <;> simp [sameT] at h
  | zero => cases b <;> simp_all [sameT]
  | one s => cases b <;> simp_all [sameT]
  | give t i => cases b <;> simp [sameT] at h; rw [i _ h]
  | and l r i j => cases b <;> simp [sameT] at h; rw [i _ h.1, j _ h.2]
  | or s l r i j => cases b <;> simp [sameT] at h; rw [h.1, i _ h.2.1, j _ h.2.2]
  | scale o t i => cases b <;> simp [sameT] at h; rw [sameO_eq _ _ h.1, i _ h.2]
  | when d t i => cases b <;> simp [sameT] at h; rw [h.1, i _ h.2]
  | cond o l r i j => cases b <;> simp [sameT] at h; rw [sameO_eq _ _ h.1, i _ h.2.1, j _ h.2.2]

/-! ### Structs of one part compared -/
theorem const_eq (i j : Int) (o1 o2 : Operand) (w : World) :
    (do eqGuard .eql 174 o1 o2 (.agg #[.int .i64 i]) (.agg #[.int .i64 j]); binOp .eql 174 (.agg #[.int .i64 i]) (.agg #[.int .i64 j]) : Sem Value).run Tryz.prog w = .ok (.bool (i == j)) w := by
  have hf : ∃ fs, Tryz.prog.underlying 174 = some (.struct fs) ∧ Tryz.prog.fieldsOf 174 = fs := by
    unfold Program.fieldsOf
    rw [Tryz.underlying174]
    exact ⟨_, rfl, rfl⟩
  have hu : Tryz.prog.underlying 174 = some (.struct (Tryz.prog.fieldsOf 174)) := by
    obtain ⟨fs, h1, h2⟩ := hf
    rw [h1, h2]
  rw [Sem.run_bind, run_eqGuard_agg w _ _ _ _ _ _ (show Tryz.prog.eqGuardType Tryz.prog.depth 174 = false by kernel_rfl), Result.andThen_ok, run_eql_struct, run_equalIn_agg w _ _ _ _ hu (by kernel_rfl)]
  have hF : (Tryz.prog.fieldsOf 174).toList = [{ name := "N", type := 3, offset := 0, embedded := false, tag := "", pkgPath := "", byteOffset := 0 }] := by
    unfold Program.fieldsOf
    rw [Tryz.underlying174]
  have p0 : ∀ (v : Value), (part 3 #[v] 0).run Tryz.prog w = .ok v w := fun v => by simp [part, isAgg, under Tryz.underlying3]
  rw [hF]
  have q1 : (Op.equalIn 9999 3 (.int .i64 i) (.int .i64 j)).run Tryz.prog w = .ok (i == j) w := run_equalIn_int w 9998 _ _ _ _ _ Tryz.underlying3
  simp only [Op.eqFields, ne_eq, if_pos (show ¬ ("N" = "_") by decide), Sem.run_bind, p0, Result.andThen_ok, q1]
  by_cases hij : i = j
  · subst hij; simp
  · simp [hij]
theorem fix_eq (x y : ByteArray) (o1 o2 : Operand) (w : World) :
    (do eqGuard .eql 251 o1 o2 (.agg #[.string x]) (.agg #[.string y]); binOp .eql 251 (.agg #[.string x]) (.agg #[.string y]) : Sem Value).run Tryz.prog w = .ok (.bool (x.toList == y.toList)) w := by
  have hf : ∃ fs, Tryz.prog.underlying 251 = some (.struct fs) ∧ Tryz.prog.fieldsOf 251 = fs := by
    unfold Program.fieldsOf
    rw [Tryz.underlying251]
    exact ⟨_, rfl, rfl⟩
  have hu : Tryz.prog.underlying 251 = some (.struct (Tryz.prog.fieldsOf 251)) := by
    obtain ⟨fs, h1, h2⟩ := hf
    rw [h1, h2]
  rw [Sem.run_bind, run_eqGuard_agg w _ _ _ _ _ _ (show Tryz.prog.eqGuardType Tryz.prog.depth 251 = false by kernel_rfl), Result.andThen_ok, run_eql_struct, run_equalIn_agg w _ _ _ _ hu (by kernel_rfl)]
  have hF : (Tryz.prog.fieldsOf 251).toList = [{ name := "Name", type := 9, offset := 0, embedded := false, tag := "", pkgPath := "", byteOffset := 0 }] := by
    unfold Program.fieldsOf
    rw [Tryz.underlying251]
  have p0 : ∀ (v : Value), (part 9 #[v] 0).run Tryz.prog w = .ok v w := fun v => by simp [part, isAgg, under Tryz.underlying9]
  rw [hF]
  have q1 : (Op.equalIn 9999 9 (.string x) (.string y)).run Tryz.prog w = .ok (x.toList == y.toList) w := run_equalIn_string w 9998 _ _ _ Tryz.underlying9
  simp only [Op.eqFields, ne_eq, if_pos (show ¬ ("Name" = "_") by decide), Sem.run_bind, p0, Result.andThen_ok, q1]
  cases x.toList == y.toList <;> simp

/-! ### What the functions do -/
theorem okind_spec (o : Ob) (w : World) : Ret Tryz.prog 151 #[o.v] w fun r w' => r = .int .i64 (kindO o) ∧ w = w' := by
  refine c151 o.v w _ ?_
  cases o with
  | none => exact TaK.nil rfl (TaK.nil rfl (TaK.nil rfl (TaK.nil rfl (TaK.nil rfl (TaK.nil rfl ⟨rfl, rfl⟩)))))
  | const n => exact TaK.hit (n, ()) rfl ⟨rfl, rfl⟩
  | fix s => exact TaK.miss rfl (by decide) (TaK.hit (str s, ()) rfl ⟨rfl, rfl⟩)
  | add l r => exact TaK.miss rfl (by decide) (TaK.miss rfl (by decide) (TaK.hit (l.v, r.v, ()) rfl ⟨rfl, rfl⟩))
  | neg x => exact TaK.miss rfl (by decide) (TaK.miss rfl (by decide) (TaK.miss rfl (by decide) (TaK.hit (x.v, ()) rfl ⟨rfl, rfl⟩)))
  | mul l r => exact TaK.miss rfl (by decide) (TaK.miss rfl (by decide) (TaK.miss rfl (by decide) (TaK.miss rfl (by decide) (TaK.hit (l.v, r.v, ()) rfl ⟨rfl, rfl⟩))))
  | max l r => exact TaK.miss rfl (by decide) (TaK.miss rfl (by decide) (TaK.miss rfl (by decide) (TaK.miss rfl (by decide) (TaK.miss rfl (by decide) (TaK.hit (l.v, r.v, ()) rfl ⟨rfl, rfl⟩)))))

def all2 {α β : Type} (f : α → β → Bool) : List α → List β → Bool
  | [], [] => true
  | a :: l, b :: m => f a b && all2 f l m
  | _, _ => false
theorem all2_len {α β : Type} (f : α → β → Bool) : ∀ (l : List α) (m : List β), l.length ≠ m.length → all2 f l m = false
  | [], [], h => absurd rfl h
  | [], _ :: _, _ => rfl
  | _ :: _, [], _ => rfl
  | a :: l, b :: m, h => by unfold all2; rw [all2_len f l m (by simpa using h), Bool.and_false]
theorem all2_take {α β : Type} (f : α → β → Bool) : ∀ (l : List α) (m : List β) (i : Nat) (a : α) (b : β), l[i]? = some a → m[i]? = some b → all2 f (l.take (i + 1)) (m.take (i + 1)) = (all2 f (l.take i) (m.take i) && f a b)
  | [], _, i, a, b, h, _ => by simp at h
  | x :: l, [], i, a, b, _, h => by simp at h
  | x :: l, y :: m, 0, a, b, h, k => by simp at h k; subst h k; simp [all2]
  | x :: l, y :: m, i + 1, a, b, h, k => by
    have := all2_take f l m i a b (by simpa using h) (by simpa using k)
    simp only [List.take_succ_cons, all2]
    rw [this, Bool.and_assoc]
theorem all2_bad {α β : Type} (f : α → β → Bool) : ∀ (l : List α) (m : List β) (i : Nat) (a : α) (b : β), l[i]? = some a → m[i]? = some b → f a b = false → all2 f l m = false
  | [], _, i, a, b, h, _, _ => by simp at h
  | x :: l, [], i, a, b, _, h, _ => by simp at h
  | x :: l, y :: m, 0, a, b, h, k, e => by simp at h k; subst h k; simp [all2, e]
  | x :: l, y :: m, i + 1, a, b, h, k, e => by
    have := all2_bad f l m i a b (by simpa using h) (by simpa using k) e
    simp [all2, this]

theorem equal_os {w : World} {u v : Sl} {l m : List Ob} (hu : IsOs w u l) (hv : IsOs w v m) (hl : l.length ≤ 2) {cb : Value} (f : Ob → Ob → Bool)
    (hcb : ∀ a ∈ l, ∀ b ∈ m, ∀ w K, (∀ w', Fr none1 w w' → K (f a b) w') → callV Tryz.prog cb [a.v, b.v] (.v (.one .bool)) w K) :
    Ret Tryz.prog 152 #[.slice u.1 u.2.1 u.2.2, .slice v.1 v.2.1 v.2.2, cb] w fun r w' => r = .bool (all2 f l m) ∧ Fr none1 w w' := by
  refine c152 _ _ _ _ _ _ cb w _ ?_
  have hul := hu.len
  have hvl := hv.len
  refine ifB.ne (fun h => ?_) (fun h => ?_)
  · rw [all2_len f l m (by omega)]; exact ⟨rfl, Fr.refl _ _⟩
  refine LoopK.of (fun s w' => ∃ i : Nat, s.1 = i ∧ i ≤ l.length ∧ all2 f (l.take i) (m.take i) = true ∧ Fr none1 w w') (fun s _ => (2 - s.1).toNat) ⟨0, rfl, Nat.zero_le _, rfl, Fr.refl _ _⟩ ?_
  rintro _ ⟨i', _⟩ w2 ⟨i, hi, hil, hall, f2⟩
  dsimp only at hi ⊢
  subst hi
  refine ifB.dec (fun hlt => ?_) (fun hge => ?_)
  · have hi2 : i < l.length := by omega
    have hi3 : i < m.length := by omega
    obtain ⟨a, ha⟩ : ∃ a, l[i]? = some a := ⟨_, List.getElem?_eq_getElem hi2⟩
    obtain ⟨b, hb⟩ : ∃ b, m[i]? = some b := ⟨_, List.getElem?_eq_getElem hi3⟩
    refine (hu.keep0 f2).ld ha ?_
    refine (hv.keep0 f2).ld hb ?_
    refine hcb a (List.mem_of_getElem? ha) b (List.mem_of_getElem? hb) _ _ fun w3 f3 => ?_
    refine ifB.not (ifB.by (fun e => ?_) (fun e => ?_))
    · exact ⟨⟨i + 1, by rw [wI (by omega) (by omega)]; omega, by omega, by rw [all2_take f l m i a b ha hb, hall, e]; rfl, f2.trans f3⟩, by rw [wI (by omega) (by omega)]; omega⟩
    · rw [all2_bad f l m i a b ha hb e]; exact ⟨rfl, f2.trans f3⟩
  · have : i = l.length := by omega
    subst this
    rw [List.take_length, List.take_of_length_le (by omega)] at hall
    rw [hall]; exact ⟨rfl, f2⟩
theorem equal_ts {w : World} {u v : Sl} {l m : List Tm} (hu : IsTs w u l) (hv : IsTs w v m) (hl : l.length ≤ 2) {cb : Value} (f : Tm → Tm → Bool)
    (hcb : ∀ a ∈ l, ∀ b ∈ m, ∀ w K, (∀ w', Fr none1 w w' → K (f a b) w') → callV Tryz.prog cb [a.v, b.v] (.v (.one .bool)) w K) :
    Ret Tryz.prog 116 #[.slice u.1 u.2.1 u.2.2, .slice v.1 v.2.1 v.2.2, cb] w fun r w' => r = .bool (all2 f l m) ∧ Fr none1 w w' := by
  refine c116 _ _ _ _ _ _ cb w _ ?_
  have hul := hu.len
  have hvl := hv.len
  refine ifB.ne (fun h => ?_) (fun h => ?_)
  · rw [all2_len f l m (by omega)]; exact ⟨rfl, Fr.refl _ _⟩
  refine LoopK.of (fun s w' => ∃ i : Nat, s.1 = i ∧ i ≤ l.length ∧ all2 f (l.take i) (m.take i) = true ∧ Fr none1 w w') (fun s _ => (2 - s.1).toNat) ⟨0, rfl, Nat.zero_le _, rfl, Fr.refl _ _⟩ ?_
  rintro _ ⟨i', _⟩ w2 ⟨i, hi, hil, hall, f2⟩
  dsimp only at hi ⊢
  subst hi
  refine ifB.dec (fun hlt => ?_) (fun hge => ?_)
  · have hi2 : i < l.length := by omega
    have hi3 : i < m.length := by omega
    obtain ⟨a, ha⟩ : ∃ a, l[i]? = some a := ⟨_, List.getElem?_eq_getElem hi2⟩
    obtain ⟨b, hb⟩ : ∃ b, m[i]? = some b := ⟨_, List.getElem?_eq_getElem hi3⟩
    refine (hu.keep0 f2).ld ha ?_
    refine (hv.keep0 f2).ld hb ?_
    refine hcb a (List.mem_of_getElem? ha) b (List.mem_of_getElem? hb) _ _ fun w3 f3 => ?_
    refine ifB.not (ifB.by (fun e => ?_) (fun e => ?_))
    · exact ⟨⟨i + 1, by rw [wI (by omega) (by omega)]; omega, by omega, by rw [all2_take f l m i a b ha hb, hall, e]; rfl, f2.trans f3⟩, by rw [wI (by omega) (by omega)]; omega⟩
    · rw [all2_bad f l m i a b ha hb e]; exact ⟨rfl, f2.trans f3⟩
  · have : i = l.length := by omega
    subst this
    rw [List.take_length, List.take_of_length_le (by omega)] at hall
    rw [hall]; exact ⟨rfl, f2⟩

theorem kindO_zero (o : Ob) : kindO o = 0 ↔ o = .none := by cases o <;> simp [kindO]
theorem sameO_kind {a b : Ob} (h : kindO a ≠ kindO b) : sameO a b = false := by cases a <;> cases b <;> simp_all [sameO, kindO]
theorem sameO_kids {a b : Ob} (h0 : kindO a ≠ 0) (h : kindO a = kindO b) (hl : (leafO a).1 = false) : sameO a b = all2 sameO (kidsO a) (kidsO b) := by
  cases a <;> cases b <;> simp_all [sameO, kindO, leafO, kidsO, all2]

theorem osame_spec (a b : Ob) (w : World) : Ret Tryz.prog 115 #[a.v, b.v] w fun r w' => r = .bool (sameO a b) ∧ Fr none1 w w' := by
  have ih : ∀ k ∈ kidsO a, ∀ b w, Ret Tryz.prog 115 #[k.v, b.v] w fun r w' => r = .bool (sameO k b) ∧ Fr none1 w w' := fun k hk b w => osame_spec k b w
  refine c115 a.v b.v w _ ?_
  refine CallK.of (okind_spec a w) ?_
  rintro _ _ ⟨rfl, rfl⟩
  refine ⟨_, rfl, ifB.eq (fun h => ?_) (fun h => ?_)⟩
  · have := (kindO_zero a).1 h
    subst this
    exact ⟨by cases b <;> rfl, Fr.refl _ _⟩
  refine CallK.of (okind_spec a w) ?_
  rintro _ _ ⟨rfl, rfl⟩
  refine ⟨_, rfl, ?_⟩
  refine CallK.of (okind_spec b w) ?_
  rintro _ _ ⟨rfl, rfl⟩
  refine ⟨_, rfl, ifB.ne (fun hk => ?_) (fun hk => ?_)⟩
  · rw [sameO_kind hk]; exact ⟨rfl, Fr.refl _ _⟩
  have deep : (leafO a).1 = false → ∀ w2, Fr none1 w w2 →
      CallK Tryz.prog 153 #[a.v] w2 (.v (.one .slc)) (fun (x31 : Option Addr × Nat × Nat) w32 => CallK Tryz.prog 153 #[b.v] w32 (.v (.one .slc)) (fun (x33 : Option Addr × Nat × Nat) w34 =>
      CallK Tryz.prog 152 #[.slice x31.1 x31.2.1 x31.2.2, .slice x33.1 x33.2.1 x33.2.2, .func (.func 115) #[] #[]] w34 (.v (.one .bool)) (fun (x35 : Bool) w36 => (Value.bool x35) = .bool (sameO a b) ∧ Fr none1 w w36))) := fun hl w2 f2 => by
    refine CallK.of (okids_spec a w2) ?_
    rintro _ w3 ⟨u, rfl, hu, f3⟩
    refine ⟨u, rfl, ?_⟩
    refine CallK.of (okids_spec b w3) ?_
    rintro _ w4 ⟨v, rfl, hv, f4⟩
    refine ⟨v, rfl, ?_⟩
    refine CallK.of (equal_os (hu.keep0 f4) hv (kidsO_len a) sameO fun x hx y hy w K hK => ?_) ?_
    · refine callV_of (by kernel_rfl) Tryz.func115 (by kernel_rfl) ((ih x hx y w).mono ?_)
      rintro _ w' ⟨rfl, f⟩
      exact ⟨_, rfl, hK w' f⟩
    · rintro _ w5 ⟨rfl, f5⟩
      exact ⟨_, rfl, by rw [sameO_kids h hk hl], ((f2.trans f3).trans f4).trans f5⟩
  cases a with
  | none => exact absurd rfl h
  | const n =>
    cases b <;> simp only [kindO] at hk <;> try (exact absurd hk (by decide))
    rename_i m
    refine TaK.hit (n, ()) rfl (ns_ok (zs := [.int .i64 0]) (vs := [.int .i64 n]) rfl rfl fun g w1 hg hb f1 => ?_)
    refine DrewK.of fun w2 _ f2 => ?_
    refine LdsK.blk (cks := [.int .i64]) (x := (n, ())) (f2.keep0 hb) ?_
    refine TaK.hit (m, ()) rfl ?_
    exact ⟨_, w2, const_eq n m _ _ w2, rfl, f1.trans f2⟩
  | fix s =>
    cases b <;> simp only [kindO] at hk <;> try (exact absurd hk (by decide))
    rename_i t
    refine TaK.miss rfl (by decide) (ns_skip (zs := [.int .i64 0]) (vs := [.int .i64 0]) rfl rfl fun w0 f0 => ?_)
    refine TaK.hit (str s, ()) rfl (ns_ok (zs := [.string (⟨#[]⟩ : ByteArray)]) (vs := [.string (str s)]) rfl rfl fun g w1 hg hb f1 => ?_)
    refine DrewK.of fun w2 _ f2 => ?_
    refine LdsK.blk (cks := [.str]) (x := (str s, ())) (f2.keep0 hb) ?_
    refine TaK.hit (str t, ()) rfl ?_
    refine ⟨_, w2, fix_eq _ _ _ _ w2, ?_, (f0.trans f1).trans f2⟩
    show Value.bool _ = .bool (s == t)
    dsimp only
    rw [str_beq]
    by_cases e : s = t <;> simp [e]
  | add l r => exact TaK.miss rfl (by decide) (ns_skip (zs := [.int .i64 0]) (vs := [.int .i64 0]) rfl rfl fun w1 f1 => TaK.miss rfl (by decide) (ns_skip (zs := [.string (⟨#[]⟩ : ByteArray)]) (vs := [.string (⟨#[]⟩ : ByteArray)]) rfl rfl fun w2 f2 => deep rfl w2 (f1.trans f2)))
  | neg x => exact TaK.miss rfl (by decide) (ns_skip (zs := [.int .i64 0]) (vs := [.int .i64 0]) rfl rfl fun w1 f1 => TaK.miss rfl (by decide) (ns_skip (zs := [.string (⟨#[]⟩ : ByteArray)]) (vs := [.string (⟨#[]⟩ : ByteArray)]) rfl rfl fun w2 f2 => deep rfl w2 (f1.trans f2)))
  | mul l r => exact TaK.miss rfl (by decide) (ns_skip (zs := [.int .i64 0]) (vs := [.int .i64 0]) rfl rfl fun w1 f1 => TaK.miss rfl (by decide) (ns_skip (zs := [.string (⟨#[]⟩ : ByteArray)]) (vs := [.string (⟨#[]⟩ : ByteArray)]) rfl rfl fun w2 f2 => deep rfl w2 (f1.trans f2)))
  | max l r => exact TaK.miss rfl (by decide) (ns_skip (zs := [.int .i64 0]) (vs := [.int .i64 0]) rfl rfl fun w1 f1 => TaK.miss rfl (by decide) (ns_skip (zs := [.string (⟨#[]⟩ : ByteArray)]) (vs := [.string (⟨#[]⟩ : ByteArray)]) rfl rfl fun w2 f2 => deep rfl w2 (f1.trans f2)))
termination_by SizeOf.sizeOf a
decreasing_by exact kidsO_lt hk

theorem sameT_kind {a b : Tm} (h : kindT a ≠ kindT b) : sameT a b = false := by cases a <;> cases b <;> simp_all [sameT, kindT]
theorem sameT_parts {a b : Tm} (h0 : kindT a ≠ 0) (h : kindT a = kindT b) : sameT a b = (decide (ownT a = ownT b) && ((!(numberT a).2 || sameO (numberT a).1 (numberT b).1) && all2 sameT (kidsT a) (kidsT b))) := by
  cases a <;> cases b <;> simp_all [sameT, kindT, ownT, numberT, kidsT, all2] <;> (try (rw [Bool.eq_iff_iff]; simp))

theorem tsame_spec (a b : Tm) (w : World) : Ret Tryz.prog 72 #[a.v, b.v] w fun r w' => r = .bool (sameT a b) ∧ Fr none1 w w' := by
  have ih : ∀ k ∈ kidsT a, ∀ b w, Ret Tryz.prog 72 #[k.v, b.v] w fun r w' => r = .bool (sameT k b) ∧ Fr none1 w w' := fun k hk b w => tsame_spec k b w
  refine c72 a.v b.v w _ ?_
  refine CallK.of (tkind_spec a w) ?_
  rintro _ _ ⟨rfl, rfl⟩
  refine ⟨_, rfl, ifB.eq (fun h => ?_) (fun h => ?_)⟩
  · have := (kindT_none a).1 h
    subst this
    exact ⟨by cases b <;> rfl, Fr.refl _ _⟩
  refine CallK.of (tkind_spec a w) ?_
  rintro _ _ ⟨rfl, rfl⟩
  refine ⟨_, rfl, ?_⟩
  refine CallK.of (tkind_spec b w) ?_
  rintro _ _ ⟨rfl, rfl⟩
  refine ⟨_, rfl, ifB.ne (fun hk => ?_) (fun hk => ?_)⟩
  · rw [sameT_kind hk]; exact ⟨rfl, Fr.refl _ _⟩
  have hP := sameT_parts h hk
  refine CallK.of (own_spec a w) ?_
  rintro _ w1 ⟨rfl, f1⟩
  refine ⟨(str (ownT a).1, (ownT a).2, ()), rfl, ?_⟩
  refine CallK.of (own_spec b w1) ?_
  rintro _ w2 ⟨rfl, f2⟩
  refine ⟨(str (ownT b).1, (ownT b).2, ()), rfl, ?_⟩
  dsimp only
  have f12 := f1.trans f2
  rw [str_beq]
  refine ifB.not (ifB.dec (fun h1 => ?_) (fun h1 => ?_))
  case refine_2 =>
    rw [hP, decide_eq_false (fun t => h1 (by rw [t]))]; exact ⟨rfl, f12⟩
  refine ifB.ne (fun h2 => ?_) (fun h2 => ?_)
  · rw [hP, decide_eq_false (fun t => h2 (by rw [t]))]; exact ⟨rfl, f12⟩
  rw [decide_eq_true (Prod.ext h1 h2), Bool.true_and] at hP
  have deep : ∀ w2, Fr none1 w w2 → (!(numberT a).2 || sameO (numberT a).1 (numberT b).1) = true →
      CallK Tryz.prog 117 #[a.v] w2 (.v (.one .slc)) (fun (x31 : Option Addr × Nat × Nat) w32 => CallK Tryz.prog 117 #[b.v] w32 (.v (.one .slc)) (fun (x33 : Option Addr × Nat × Nat) w34 =>
      CallK Tryz.prog 116 #[.slice x31.1 x31.2.1 x31.2.2, .slice x33.1 x33.2.1 x33.2.2, .func (.func 72) #[] #[]] w34 (.v (.one .bool)) (fun (x35 : Bool) w36 => (Value.bool x35) = .bool (sameT a b) ∧ Fr none1 w w36))) := fun w2 f2 hn => by
    refine CallK.of (tkids_spec a w2) ?_
    rintro _ w3 ⟨u, rfl, hu, f3, _⟩
    refine ⟨u, rfl, ?_⟩
    refine CallK.of (tkids_spec b w3) ?_
    rintro _ w4 ⟨v, rfl, hv, f4, _⟩
    refine ⟨v, rfl, ?_⟩
    refine CallK.of (equal_ts (hu.keep0 f4) hv (kidsT_len a) sameT fun x hx y hy w K hK => ?_) ?_
    · refine callV_of (by kernel_rfl) Tryz.func72 (by kernel_rfl) ((ih x hx y w).mono ?_)
      rintro _ w' ⟨rfl, f⟩
      exact ⟨_, rfl, hK w' f⟩
    · rintro _ w5 ⟨rfl, f5⟩
      exact ⟨_, rfl, by rw [hP, hn, Bool.true_and], ((f2.trans f3).trans f4).trans f5⟩
  refine CallK.of (tnumber_spec a w2) ?_
  rintro _ w3 ⟨rfl, f3⟩
  refine ⟨(_, _, ()), rfl, ifB.by (fun e => ?_) (fun e => ?_)⟩
  · have e : (numberT a).2 = true := e
    refine CallK.of (tnumber_spec b w3) ?_
    rintro _ w4 ⟨rfl, f4⟩
    refine ⟨(_, _, ()), rfl, ?_⟩
    refine CallK.of (osame_spec (numberT a).1 (numberT b).1 w4) ?_
    rintro _ w5 ⟨rfl, f5⟩
    refine ⟨_, rfl, ifB.not (ifB.by (fun e2 => ?_) (fun e2 => ?_))⟩
    · exact deep w5 (((f12.trans f3).trans f4).trans f5) (by rw [e2]; simp)
    · rw [hP, e, e2]; exact ⟨rfl, ((f12.trans f3).trans f4).trans f5⟩
  · have e : (numberT a).2 = false := e
    exact deep w3 (f12.trans f3) (by rw [e]; rfl)
termination_by SizeOf.sizeOf a
decreasing_by exact kidsT_lt hk

end Go.Proofs.YtbadiokobooliaaGreatDoor

/-! ### NilNe -/
set_option linter.unusedVariables false
namespace Go.Proofs.YtbadiokobooliaaGreatDoor
open Vc

theorem ifc_term : ∃ ms, Tryz.prog.underlying 28 = some (.interface ms) := ⟨_, Tryz.underlying28⟩

end Go.Proofs.YtbadiokobooliaaGreatDoor

/-! ### CEvSame -/
namespace Go.Proofs.YtbadiokobooliaaGreatDoor
open Vc
set_option maxRecDepth 100000
set_option linter.unusedVariables false
/-- handfast/event.Same -/
def C32 (p0 : YZ14) (p1 : YZ14) (w : World) (K : Value → World → Prop) : Prop :=
  NewK (.cells ((LZ14 p0).toArray) 30) w (fun g1 w2 => NewK (.cells ((LZ14 p1).toArray) 30) w2 (fun g3 w4 => JoinK (Bool × Unit) (fun J5 => LdK .raw ((ad g1).add 7) w4 (fun (x8 : Value) => RunK Tryz.prog (do eqGuard .eql 28 (.tmp 7) (.const .nilIface) x8 .nilIface; binOp .eql 28 x8 .nilIface) w4 (.v (.one .bool)) (fun (x9 : Bool) w10 => ifB x9
  (LdK .raw ((ad g3).add 7) w10 (fun (x11 : Value) => RunK Tryz.prog (do eqGuard .eql 28 (.tmp 11) (.const .nilIface) x11 .nilIface; binOp .eql 28 x11 .nilIface) w10 (.v (.one .bool)) (fun (x12 : Bool) w13 => ifB x12
  (J5 (true, ()) w13)
  (LdK .raw ((ad g1).add 7) w13 (fun (x14 : Value) => LdK .raw ((ad g3).add 7) w13 (fun (x15 : Value) => CallK Tryz.prog 72 #[x14, x15] w13 (.v (.one .bool)) (fun (x16 : Bool) w17 => J5 (x16, ()) w17)))))))
  (LdK .raw ((ad g1).add 7) w10 (fun (x18 : Value) => LdK .raw ((ad g3).add 7) w10 (fun (x19 : Value) => CallK Tryz.prog 72 #[x18, x19] w10 (.v (.one .bool)) (fun (x20 : Bool) w21 => J5 (x20, ()) w21)))))))
  (fun _ s6 w7 => ifB s6.1
  (LdK (.int .i64) ((ad g1).add 0) w7 (fun (x22 : Int) => LdK (.int .i64) ((ad g3).add 0) w7 (fun (x23 : Int) => ifB (x22 == x23)
  (LdK .str ((ad g1).add 1) w7 (fun (x24 : ByteArray) => LdK .str ((ad g3).add 1) w7 (fun (x25 : ByteArray) => ifB (x24.toList == x25.toList)
  (LdK .str ((ad g1).add 2) w7 (fun (x26 : ByteArray) => LdK .str ((ad g3).add 2) w7 (fun (x27 : ByteArray) => ifB (x26.toList == x27.toList)
  (LdK .str ((ad g1).add 3) w7 (fun (x28 : ByteArray) => LdK .str ((ad g3).add 3) w7 (fun (x29 : ByteArray) => ifB (x28.toList == x29.toList)
  (LdK .str ((ad g1).add 4) w7 (fun (x30 : ByteArray) => LdK .str ((ad g3).add 4) w7 (fun (x31 : ByteArray) => ifB (x30.toList == x31.toList)
  (LdK (.int .i64) ((ad g1).add 5) w7 (fun (x32 : Int) => LdK (.int .i64) ((ad g3).add 5) w7 (fun (x33 : Int) => ifB (x32 == x33)
  (LdK (.int .i64) ((ad g1).add 6) w7 (fun (x34 : Int) => LdK (.int .i64) ((ad g3).add 6) w7 (fun (x35 : Int) => K (.bool (x34 == x35)) w7)))
  (K (.bool false) w7))))
  (K (.bool false) w7))))
  (K (.bool false) w7))))
  (K (.bool false) w7))))
  (K (.bool false) w7))))
  (K (.bool false) w7))))
  (K (.bool false) w7))))
def pl32 : Plan := (.seq .auto (.join [(5, .one .bool)] .auto .auto))
theorem e32 (p0 : YZ14) (p1 : YZ14) (w : World) (K : Value → World → Prop) : vcFunc Tryz.prog Tryz.f32 pl32 [.agg (LZ14 p0).toArray, .agg (LZ14 p1).toArray] w K = C32 p0 p1 w K := by kernel_rfl
theorem c32 (p0 : YZ14) (p1 : YZ14) (w : World) (K : Value → World → Prop) (h : C32 p0 p1 w K) : Ret Tryz.prog 32 #[.agg (LZ14 p0).toArray, .agg (LZ14 p1).toArray] w K := by
  rw [← e32] at h
  exact vcFunc_sound (by kernel_rfl) Tryz.func32 h

end Go.Proofs.YtbadiokobooliaaGreatDoor

/-! ### EvSame -/
set_option linter.unusedVariables false
set_option maxRecDepth 100000
namespace Go.Proofs.YtbadiokobooliaaGreatDoor
open Vc

def sameP (a b : EvM) : Bool := ((nilT a.t.v && nilT b.t.v) || sameT a.t b.t) && (a.1 == b.1 && (a.2.1 == b.2.1 && (a.2.2.1 == b.2.2.1 && (a.2.2.2.1 == b.2.2.2.1 && (a.2.2.2.2.1 == b.2.2.2.2.1 && (a.2.2.2.2.2.1 == b.2.2.2.2.2.1 && a.2.2.2.2.2.2.1 == b.2.2.2.2.2.2.1))))))

theorem ev_ifc (t : Tm) : ifcT t.v := by cases t <;> first | (exact .inl rfl) | (exact .inr ⟨_, _, rfl⟩)

theorem esame_spec (a b : EvM) (w : World) : Ret Tryz.prog 32 #[evA a.e, evA b.e] w fun r w' => r = .bool (sameP a b) ∧ Fr none1 w w' := by
  refine c32 a.e b.e w _ ?_
  unfold C32
  refine NewK.of fun g1 w1 hg1 hb1 f1 hs1 => NewK.of fun g3 w2 hg3 hb3 f2 hs2 => ?_
  have hb1 : w2.heap[g1]? = some (.cells #[.int .i64 a.1, .string (str a.2.1), .string (str a.2.2.1), .string (str a.2.2.2.1), .string (str a.2.2.2.2.1), .int .i64 a.2.2.2.2.2.1, .int .i64 a.2.2.2.2.2.2.1, a.t.v] 30 (0, 0)) := f2.keep0 hb1
  have hb3 : w2.heap[g3]? = some (.cells #[.int .i64 b.1, .string (str b.2.1), .string (str b.2.2.1), .string (str b.2.2.2.1), .string (str b.2.2.2.2.1), .int .i64 b.2.2.2.2.2.1, .int .i64 b.2.2.2.2.2.2.1, b.t.v] 30 (0, 0)) := hb3
  have f12 := f1.trans f2
  refine JoinK.of (fun s w' => s.1 = ((nilT a.t.v && nilT b.t.v) || sameT a.t b.t) ∧ Fr none1 w2 w') ?_ ?_
  · have cmp : (nilT a.t.v && nilT b.t.v) = false → LdK .raw ((⟨g1, 0, none⟩ : Addr).add 7) w2 (fun (x18 : Value) => LdK .raw ((⟨g3, 0, none⟩ : Addr).add 7) w2 (fun (x19 : Value) => CallK Tryz.prog 72 #[x18, x19] w2 (.v (.one .bool)) (fun (x20 : Bool) w21 =>
        x20 = ((nilT a.t.v && nilT b.t.v) || sameT a.t b.t) ∧ Fr none1 w2 w21))) := fun q => by
      refine LdK.fld hb1 (x := a.t.v) rfl (LdK.fld hb3 (x := b.t.v) rfl ?_)
      refine CallK.of (tsame_spec a.t b.t w2) ?_
      rintro _ w3 ⟨rfl, f3⟩
      exact ⟨_, rfl, by rw [q]; rfl, f3⟩
    refine LdK.fld hb1 (x := a.t.v) rfl ?_
    refine ⟨nilT a.t.v, w2, nil_eq ifc_term _ (ev_ifc _) w2, ?_⟩
    refine ifB.by (fun q => ?_) (fun q => cmp (by rw [q]; rfl))
    refine LdK.fld hb3 (x := b.t.v) rfl ?_
    refine ⟨nilT b.t.v, w2, nil_eq ifc_term _ (ev_ifc _) w2, ?_⟩
    refine ifB.by (fun q' => ?_) (fun q' => cmp (by rw [q, q']; rfl))
    exact ⟨by rw [q, q']; rfl, Fr.refl _ _⟩
  rintro _ ⟨s, _⟩ w3 ⟨hs, f3⟩
  dsimp only at hs ⊢
  have hb1 := f3.keep0 hb1
  have hb3 := f3.keep0 hb3
  have f13 := f12.trans f3
  unfold sameP
  rw [← hs]
  refine ifB.by (fun q => ?_) (fun q => by rw [q]; exact ⟨rfl, f13⟩)
  rw [q, Bool.true_and]
  refine LdK.fld hb1 (x := a.1) rfl (LdK.fld hb3 (x := b.1) rfl ?_)
  refine ifB.by (fun q => ?_) (fun q => by rw [q]; exact ⟨rfl, f13⟩)
  rw [q, Bool.true_and]
  refine LdK.fld hb1 (x := str a.2.1) rfl (LdK.fld hb3 (x := str b.2.1) rfl ?_)
  rw [str_beq, ← Bool.beq_eq_decide_eq]
  refine ifB.by (fun q => ?_) (fun q => by rw [q]; exact ⟨rfl, f13⟩)
  rw [q, Bool.true_and]
  refine LdK.fld hb1 (x := str a.2.2.1) rfl (LdK.fld hb3 (x := str b.2.2.1) rfl ?_)
  rw [str_beq, ← Bool.beq_eq_decide_eq]
  refine ifB.by (fun q => ?_) (fun q => by rw [q]; exact ⟨rfl, f13⟩)
  rw [q, Bool.true_and]
  refine LdK.fld hb1 (x := str a.2.2.2.1) rfl (LdK.fld hb3 (x := str b.2.2.2.1) rfl ?_)
  rw [str_beq, ← Bool.beq_eq_decide_eq]
  refine ifB.by (fun q => ?_) (fun q => by rw [q]; exact ⟨rfl, f13⟩)
  rw [q, Bool.true_and]
  refine LdK.fld hb1 (x := str a.2.2.2.2.1) rfl (LdK.fld hb3 (x := str b.2.2.2.2.1) rfl ?_)
  rw [str_beq, ← Bool.beq_eq_decide_eq]
  refine ifB.by (fun q => ?_) (fun q => by rw [q]; exact ⟨rfl, f13⟩)
  rw [q, Bool.true_and]
  refine LdK.fld hb1 (x := a.2.2.2.2.2.1) rfl (LdK.fld hb3 (x := b.2.2.2.2.2.1) rfl ?_)
  refine ifB.by (fun q => ?_) (fun q => by rw [q]; exact ⟨rfl, f13⟩)
  rw [q, Bool.true_and]
  refine LdK.fld hb1 (x := a.2.2.2.2.2.2.1) rfl (LdK.fld hb3 (x := b.2.2.2.2.2.2.1) rfl ?_)
  exact ⟨rfl, f13⟩

theorem sameP_eq {a b : EvM} (h : sameP a b = true) : a = b := by
  unfold sameP at h
  simp only [Bool.and_eq_true, Bool.or_eq_true, beq_iff_eq] at h
  obtain ⟨ht, h1, h2, h3, h4, h5, h6, h7⟩ := h
  have : a.t = b.t := by
    rcases ht with ⟨x, y⟩ | x
    · rw [none_of_nil x, none_of_nil y]
    · exact sameT_eq _ _ x
  obtain ⟨a1, a2, a3, a4, a5, a6, a7, a8⟩ := a
  obtain ⟨b1, b2, b3, b4, b5, b6, b7, b8⟩ := b
  simp only [EvM.t] at this h1 h2 h3 h4 h5 h6 h7
  subst h1 h2 h3 h4 h5 h6 h7 this
  rfl

theorem check_form {t : Tm} (h : checkT t = 0) : formT t = true := by
  unfold checkT at h
  repeat' split at h
  all_goals first | (exact absurd h (by decide)) | skip
  rename_i h1 h2 h3 _
  simpa using h1

theorem sameP_self {m : EvM} {bs : List UInt8} (h : packM m = (bs, 0)) : sameP m m = true := by
  obtain ⟨hc, _⟩ := pack_zero h
  obtain ⟨hk, ho, _, _, _, _, ht⟩ := check_zero hc
  have key : ((nilT m.t.v && nilT m.t.v) || sameT m.t m.t) = true := by
    by_cases h2 : m.e.1 = 2
    · have hw : checkT m.t = 0 := by
        have := ht h2
        unfold writeT at this
        split at this
        · rename_i c; exact (c this).elim
        · rename_i c; exact Classical.not_not.1 c
      rw [sameT_self m.t (check_form hw), Bool.or_true]
    · have hn : hasF m.e.1 84 = false := by
        unfold hasF fieldsF
        rw [if_neg h2]
        repeat' split
        all_goals decide
      unfold onlyF at ho
      rw [hn] at ho
      simp only [Bool.or_false, Bool.and_eq_true] at ho
      have hh : nilT m.t.v = true := ho.2.2
      rw [hh]; rfl
  unfold sameP
  rw [key]
  simp

end Go.Proofs.YtbadiokobooliaaGreatDoor

/-! ### KeepB -/
set_option linter.unusedVariables false
namespace Go.Proofs.YtbadiokobooliaaGreatDoor
open Vc

theorem copy_spec {w : World} {v : Sl} {bs : List UInt8} (h : RdB w v bs) (hl : bs.length ≤ 140737488355000) :
    Ret Tryz.prog 33 #[.slice v.1 v.2.1 v.2.2] w fun r w' => ∃ u : Sl, r = .slice u.1 u.2.1 u.2.2 ∧ IsB w' u bs ∧ Fr none1 w w' ∧ ∀ k, blkOf u k → w.heap.size ≤ k := by
  refine c33 v.1 v.2.1 v.2.2 w _ ?_
  obtain ⟨u, w2, hr2, hu, f2, hf2⟩ := append_bytes (xs := []) (none_b w) h (by simp; omega)
  refine ⟨u, w2, hr2, u, rfl, hu, f2.mono (fun k _ ⟨a, ha, _⟩ => by cases ha), fun k hk => ?_⟩
  rcases hf2 k hk with ⟨a, ha, _⟩ | t
  · cases ha
  · exact t

end Go.Proofs.YtbadiokobooliaaGreatDoor

/-! ### CPBackL -/
namespace Go.Proofs.YtbadiokobooliaaGreatDoor
open Vc
set_option maxRecDepth 100000
set_option linter.unusedVariables false
/-- handfast/handfastlaw12.PackBack -/
def C5 (p0 : YZ13) (p1 : YZ13) (p2 : Int) (w : World) (K : Value → World → Prop) : Prop :=
  NewK (.cells ((LZ13 p0).toArray) 27) w (fun g1 w2 => NewK (.cells ((LZ13 p1).toArray) 27) w2 (fun g3 w4 => LdsK KZ13 (ad g1) w4 (fun (x5 : YZ13) => CallK Tryz.prog 11 #[.agg (LZ13 x5).toArray, .int .i64 99, .int .i64 0, .string (⟨#[]⟩ : ByteArray), .int .i64 0] w4 (.tup [.agg KZ14, .agg KZ17, .one .bool]) (fun (x6 : YZ14 × YZ17 × Bool × Unit) w7 => NewK (.cells #[.int .i64 0, .string (⟨#[]⟩ : ByteArray), .string (⟨#[]⟩ : ByteArray), .string (⟨#[]⟩ : ByteArray), .string (⟨#[]⟩ : ByteArray), .int .i64 0, .int .i64 0, .nilIface] 30) w7 (fun g8 w9 => NewK (.cells #[.int .i64 0, .string (⟨#[]⟩ : ByteArray), .string (⟨#[]⟩ : ByteArray), .string (⟨#[]⟩ : ByteArray), .string (⟨#[]⟩ : ByteArray), .int .i64 0, .int .i64 0, .int .i64 0, .string (⟨#[]⟩ : ByteArray), .int .i64 0, .slice none 0 0] 35) w9 (fun g10 w11 => StsK (ad g8) [.int .i64 x6.1.1, .string x6.1.2.1, .string x6.1.2.2.1, .string x6.1.2.2.2.1, .string x6.1.2.2.2.2.1, .int .i64 x6.1.2.2.2.2.2.1, .int .i64 x6.1.2.2.2.2.2.2.1, x6.1.2.2.2.2.2.2.2.1] w11 (fun w12 => StsK (ad g10) [.int .i64 x6.2.1.1, .string x6.2.1.2.1, .string x6.2.1.2.2.1, .string x6.2.1.2.2.2.1, .string x6.2.1.2.2.2.2.1, .int .i64 x6.2.1.2.2.2.2.2.1, .int .i64 x6.2.1.2.2.2.2.2.2.1, .int .i64 x6.2.1.2.2.2.2.2.2.2.1, .string x6.2.1.2.2.2.2.2.2.2.2.1, .int .i64 x6.2.1.2.2.2.2.2.2.2.2.2.1, .slice x6.2.1.2.2.2.2.2.2.2.2.2.2.1.1 x6.2.1.2.2.2.2.2.2.2.2.2.2.1.2.1 x6.2.1.2.2.2.2.2.2.2.2.2.2.1.2.2] w12 (fun w13 => LdsK KZ13 (ad g3) w13 (fun (x14 : YZ13) => CallK Tryz.prog 11 #[.agg (LZ13 x14).toArray, .int .i64 99, .int .i64 0, .string (⟨#[]⟩ : ByteArray), .int .i64 0] w13 (.tup [.agg KZ14, .agg KZ17, .one .bool]) (fun (x15 : YZ14 × YZ17 × Bool × Unit) w16 => NewK (.cells #[.int .i64 0, .string (⟨#[]⟩ : ByteArray), .string (⟨#[]⟩ : ByteArray), .string (⟨#[]⟩ : ByteArray), .string (⟨#[]⟩ : ByteArray), .int .i64 0, .int .i64 0, .nilIface] 30) w16 (fun g17 w18 => NewK (.cells #[.int .i64 0, .string (⟨#[]⟩ : ByteArray), .string (⟨#[]⟩ : ByteArray), .string (⟨#[]⟩ : ByteArray), .string (⟨#[]⟩ : ByteArray), .int .i64 0, .int .i64 0, .int .i64 0, .string (⟨#[]⟩ : ByteArray), .int .i64 0, .slice none 0 0] 35) w18 (fun g19 w20 => StsK (ad g17) [.int .i64 x15.1.1, .string x15.1.2.1, .string x15.1.2.2.1, .string x15.1.2.2.2.1, .string x15.1.2.2.2.2.1, .int .i64 x15.1.2.2.2.2.2.1, .int .i64 x15.1.2.2.2.2.2.2.1, x15.1.2.2.2.2.2.2.2.1] w20 (fun w21 => StsK (ad g19) [.int .i64 x15.2.1.1, .string x15.2.1.2.1, .string x15.2.1.2.2.1, .string x15.2.1.2.2.2.1, .string x15.2.1.2.2.2.2.1, .int .i64 x15.2.1.2.2.2.2.2.1, .int .i64 x15.2.1.2.2.2.2.2.2.1, .int .i64 x15.2.1.2.2.2.2.2.2.2.1, .string x15.2.1.2.2.2.2.2.2.2.2.1, .int .i64 x15.2.1.2.2.2.2.2.2.2.2.2.1, .slice x15.2.1.2.2.2.2.2.2.2.2.2.2.1.1 x15.2.1.2.2.2.2.2.2.2.2.2.2.1.2.1 x15.2.1.2.2.2.2.2.2.2.2.2.2.1.2.2] w21 (fun w22 => LdsK KZ14 (ad g8) w22 (fun (x23 : YZ14) => CallK Tryz.prog 12 #[.agg (LZ14 x23).toArray] w22 (.tup [.one .slc, .one (.int .i64)]) (fun (x24 : SlT × Int × Unit) w25 => ifB (x24.2.1 != 0)
  (LdsK KZ14 (ad g8) w25 (fun (x26 : YZ14) => CallK Tryz.prog 31 #[.agg (LZ14 x26).toArray] w25 (.v (.one (.int .i64))) (fun (x27 : Int) w28 => ifB (x24.2.1 == x27)
  (ifB ((x24.1.2.1 : Int) == 0)
  (CallK Tryz.prog 21 #[] w28 (.v (.one .bool)) (fun (x29 : Bool) w30 => K (.bool x29) w30))
  (K (.bool false) w28))
  (K (.bool false) w28))))
  (CallK Tryz.prog 24 #[.slice x24.1.1 x24.1.2.1 x24.1.2.2] w25 (.tup [.agg KZ14, .one (.int .i64)]) (fun (x31 : YZ14 × Int × Unit) w32 => NewK (.cells #[.int .i64 0, .string (⟨#[]⟩ : ByteArray), .string (⟨#[]⟩ : ByteArray), .string (⟨#[]⟩ : ByteArray), .string (⟨#[]⟩ : ByteArray), .int .i64 0, .int .i64 0, .nilIface] 30) w32 (fun g33 w34 => StsK (ad g33) [.int .i64 x31.1.1, .string x31.1.2.1, .string x31.1.2.2.1, .string x31.1.2.2.2.1, .string x31.1.2.2.2.2.1, .int .i64 x31.1.2.2.2.2.2.1, .int .i64 x31.1.2.2.2.2.2.2.1, x31.1.2.2.2.2.2.2.2.1] w34 (fun w35 => ifB (x31.2.1 != 0)
  (K (.bool false) w35)
  (LdsK KZ14 (ad g8) w35 (fun (x36 : YZ14) => LdsK KZ14 (ad g33) w35 (fun (x37 : YZ14) => CallK Tryz.prog 32 #[.agg (LZ14 x36).toArray, .agg (LZ14 x37).toArray] w35 (.v (.one .bool)) (fun (x38 : Bool) w39 => ifB (!x38)
  (K (.bool false) w39)
  (ifB ((x24.1.2.1 : Int) == 0)
  (K (.bool false) w39)
  (SubK x24.1.1 x24.1.2.2 0 (IntKind.i64.wrap ((x24.1.2.1 : Int) - 1)) x24.1.2.2 1 (fun a40 l41 c42 => CallK Tryz.prog 24 #[.slice a40 l41 c42] w39 (.tup [.agg KZ14, .one (.int .i64)]) (fun (x43 : YZ14 × Int × Unit) w44 => NewK (.cells #[.int .i64 0, .string (⟨#[]⟩ : ByteArray), .string (⟨#[]⟩ : ByteArray), .string (⟨#[]⟩ : ByteArray), .string (⟨#[]⟩ : ByteArray), .int .i64 0, .int .i64 0, .nilIface] 30) w44 (fun g45 w46 => StsK (ad g45) [.int .i64 x43.1.1, .string x43.1.2.1, .string x43.1.2.2.1, .string x43.1.2.2.2.1, .string x43.1.2.2.2.2.1, .int .i64 x43.1.2.2.2.2.2.1, .int .i64 x43.1.2.2.2.2.2.2.1, x43.1.2.2.2.2.2.2.2.1] w46 (fun w47 => CallK Tryz.prog 33 #[.slice x24.1.1 x24.1.2.1 x24.1.2.2] w47 (.v (.one .slc)) (fun (x48 : SlT) w49 => RunK Tryz.prog (Instr.buildSlice 38 1 #[(0, .int .u8 p2)]) w49 (.v (.one .slc)) (fun (x50 : SlT) w51 => RunK Tryz.prog (Builtin.append_ #[38, 38] 38 #[.slice x48.1 x48.2.1 x48.2.2, .slice x50.1 x50.2.1 x50.2.2]) w51 (.v (.one .slc)) (fun (x52 : SlT) w53 => CallK Tryz.prog 24 #[.slice x52.1 x52.2.1 x52.2.2] w53 (.tup [.agg KZ14, .one (.int .i64)]) (fun (x54 : YZ14 × Int × Unit) w55 => NewK (.cells #[.int .i64 0, .string (⟨#[]⟩ : ByteArray), .string (⟨#[]⟩ : ByteArray), .string (⟨#[]⟩ : ByteArray), .string (⟨#[]⟩ : ByteArray), .int .i64 0, .int .i64 0, .nilIface] 30) w55 (fun g56 w57 => StsK (ad g56) [.int .i64 x54.1.1, .string x54.1.2.1, .string x54.1.2.2.1, .string x54.1.2.2.2.1, .string x54.1.2.2.2.2.1, .int .i64 x54.1.2.2.2.2.2.1, .int .i64 x54.1.2.2.2.2.2.2.1, x54.1.2.2.2.2.2.2.2.1] w57 (fun w58 => LdsK KZ14 (ad g17) w58 (fun (x59 : YZ14) => CallK Tryz.prog 12 #[.agg (LZ14 x59).toArray] w58 (.tup [.one .slc, .one (.int .i64)]) (fun (x60 : SlT × Int × Unit) w61 => DrewK w61 (fun w62 => HoldK (fun S63 => ifB (x43.2.1 == 2)
  (ifB (x54.2.1 == 2)
  (ifB (x60.2.1 != 0)
  (CallK Tryz.prog 21 #[] w62 (.v (.one .bool)) (fun (x64 : Bool) w65 => KeepK S63 w62 w65 (K (.bool x64) w65)))
  (InK S63 (ad g8) (LdsK KZ14 (ad g8) w62 (fun (x66 : YZ14) => InK S63 (ad g17) (LdsK KZ14 (ad g17) w62 (fun (x67 : YZ14) => CallK Tryz.prog 19 #[.slice x24.1.1 x24.1.2.1 x24.1.2.2, .slice x60.1.1 x60.1.2.1 x60.1.2.2] w62 (.v (.one .bool)) (fun (x68 : Bool) w69 => KeepK S63 w62 w69 (CallK Tryz.prog 32 #[.agg (LZ14 x66).toArray, .agg (LZ14 x67).toArray] w69 (.v (.one .bool)) (fun (x70 : Bool) w71 => KeepK S63 w69 w71 (ifB (x68 == x70)
  (CallK Tryz.prog 21 #[] w71 (.v (.one .bool)) (fun (x72 : Bool) w73 => KeepK S63 w71 w73 (K (.bool x72) w73)))
  (K (.bool false) w71)))))))))))
  (K (.bool false) w62))
  (K (.bool false) w62)))))))))))))))))))))))))))))))))))))))))
def pl5 : Plan := (.seq .auto (.seq .auto (.seq .auto (.seq .auto (.seq .auto (.seq .auto (.seq .auto (.seq .auto (.seq .auto (.seq .auto (.seq (.held (.soft 0 (.soft 1 (.soft 2 (.soft 3 (.soft 4 (.soft 5 (.soft 6 (.soft 7 (.soft 8 (.soft 9 (.soft 10 (.soft 11 (.soft 13 (.soft 14 (.pick 12 (.pick 15 (.soft 16 (.soft 17 (.soft 18 (.soft 19 (.pick 20 (.soft 21 (.soft 22 .done)) .stop))))) .stop) .stop)))))))))))))))) .auto)))))))))))
theorem e5 (p0 : YZ13) (p1 : YZ13) (p2 : Int) (w : World) (K : Value → World → Prop) : vcFunc Tryz.prog Tryz.f5 pl5 [.agg (LZ13 p0).toArray, .agg (LZ13 p1).toArray, .int .u8 p2] w K = C5 p0 p1 p2 w K := by kernel_rfl
theorem c5 (p0 : YZ13) (p1 : YZ13) (p2 : Int) (w : World) (K : Value → World → Prop) (h : C5 p0 p1 p2 w K) : Ret Tryz.prog 5 #[.agg (LZ13 p0).toArray, .agg (LZ13 p1).toArray, .int .u8 p2] w K := by
  rw [← e5] at h
  exact vcFunc_sound (by kernel_rfl) Tryz.func5 h

end Go.Proofs.YtbadiokobooliaaGreatDoor

/-! ### PBack -/
set_option linter.unusedVariables false
set_option maxRecDepth 100000
namespace Go.Proofs.YtbadiokobooliaaGreatDoor
open Vc

theorem sml_of {m : EvM} (hz : smallE m.e) (hn : nodesT m.t ≤ 2000) (w : World) (ht : TabW w) : Ret Tryz.prog 12 #[evA m.e] w fun r w' => ∃ v : Sl, r = .tuple #[.slice v.1 v.2.1 v.2.2, .int .i64 (packM m).2] ∧ IsB w' v (packM m).1 ∧ Fr none1 w w' ∧ ∀ k, blkOf v k → w.heap.size ≤ k := by
  have hl := write_short m.t
  exact event_spec m.e (ifc_v m.t) hz (writeT m.t).1 (by omega) (writeT m.t).2 w fun _ w1 f => wterm_spec m.t (Nat.le_trans hn (by decide)) w1 (ht.keep0 f)

theorem pack_err {m : EvM} (h : (packM m).2 ≠ 0) : (packM m).2 = checkF m.e (writeT m.t).2 ∧ (packM m).1 = [] := by
  unfold packM packF at h ⊢
  split
  · exact ⟨rfl, rfl⟩
  · rename_i c; rw [if_neg c] at h; exact (h rfl).elim

set_option maxHeartbeats 1000000 in
theorem back12_walk (p0 p1 : CmV) (p2 : Int) (w : World) (h0 : IsCm w p0) (h1 : IsCm w p1) (h2 : (Go.Lit.int .u8 p2).wf = true) (ht : TabW w) :
    Ret Tryz.prog 5 #[.agg (cmL p0).toArray, .agg (cmL p1).toArray, .int .u8 p2] w fun r w' => r = .bool true ∧ Fr none1 w w' := by
  refine c5 p0 p1 p2 w _ ?_
  unfold C5
  refine NewK.of fun g1 w1 hg1 hb1 f1 _ => NewK.of fun g3 w2 hg3 hb3 f2 _ => ?_
  have f12 := f1.trans f2
  refine LdsK.blk (cks := [.int .i64, .int .i64, .int .i64, .int .i64, .int .i64, .str, .slc, .slc]) (x := p0) (f2.keep0 hb1) ?_
  refine CallK.of (some_spec p0 99 0 (⟨#[]⟩ : ByteArray) (h0.1.keep0 f12)) ?_
  rintro _ w3 ⟨e, t, v, rfl, he, hz, hn, hsh, hm, f3⟩
  obtain ⟨m, rfl, rfl⟩ := evM_of e t he
  refine ⟨(m.e, evR m.e v, false, ()), rfl, ?_⟩
  refine ns2_ok m v fun g8 w4 hg8 hb8 f4 => ?_
  have f14 := (f12.trans f3).trans f4
  refine LdsK.blk (cks := [.int .i64, .int .i64, .int .i64, .int .i64, .int .i64, .str, .slc, .slc]) (x := p1) (f4.keep0 (f3.keep0 hb3)) ?_
  refine CallK.of (some_spec p1 99 0 (⟨#[]⟩ : ByteArray) (h1.1.keep0 f14)) ?_
  rintro _ w5 ⟨e', t', v', rfl, he', hz', hn', hsh', hm', f5⟩
  obtain ⟨m', rfl, rfl⟩ := evM_of e' t' he'
  refine ⟨(m'.e, evR m'.e v', false, ()), rfl, ?_⟩
  refine ns2_ok m' v' fun g17 w6 hg17 hb17 f6 => ?_
  have f16 := (f14.trans f5).trans f6
  have hb8 := f6.keep0 (f5.keep0 hb8)
  refine LdsK.blk (cks := EK) (x := m.e) hb8 ?_
  refine CallK.of (sml_of hz hn w6 (ht.keep0 f16)) ?_
  rintro _ w7 ⟨u, rfl, hu, f7, uf⟩
  have hpl : (packM m).1.length ≤ 10000000 := packF_len m.e hz _ (by have := write_short m.t; omega) _
  have hul := hu.len
  refine ⟨(u, (packM m).2, ()), rfl, ?_⟩
  have f17 := f16.trans f7
  have hb8 := f7.keep0 hb8
  have hb17 := f7.keep0 hb17
  dsimp only
  have wake : ∀ {wa : World} {K : Bool → World → Prop}, (∀ wb, Fr none1 wa wb → K true wb) → CallK Tryz.prog 21 #[] wa (.v (.one .bool)) (fun (x : Bool) wb => K x wb) := fun {wa K} k => by
    refine CallK.of (wakes12_spec wa) ?_
    rintro _ wb ⟨rfl, fb⟩
    exact ⟨_, rfl, k wb fb⟩
  refine ifB.ne (fun hne => ?_) (fun hok => ?_)
  · refine LdsK.blk (cks := EK) (x := m.e) hb8 ?_
    have hlw := write_short m.t
    refine CallK.of (check_spec m.e (ifc_v m.t) (writeT m.t).2 w7 fun _ wa fa => (wterm_spec m.t (by omega) wa ((ht.keep0 f17).keep0 fa)).mono fun r w' ⟨h, f⟩ => ⟨⟨_, h⟩, f⟩) ?_
    rintro _ w8 ⟨rfl, f8⟩
    obtain ⟨q1, q2⟩ := pack_err hne
    refine ⟨_, rfl, ifB.t (by rw [q1]; simp) (ifB.t (by rw [hul, q2]; rfl) ?_)⟩
    exact wake fun wb fb => ⟨rfl, (f17.trans f8).trans fb⟩
  have hpk : packM m = ((packM m).1, 0) := Prod.ext rfl hok
  generalize hbs : (packM m).1 = bs at *
  have htk := tkp_back false hpk
  have hless := tkp_less hpk
  have hbne : bs ≠ [] := by rw [(pack_zero hpk).2]; simp
  have hbl : 0 < bs.length := List.length_pos_iff.2 hbne
  refine CallK.of (take_spec hu.rd hu.cap (ht.keep0 f17)) ?_
  rintro _ w8 ⟨rfl, f8⟩
  rw [htk]
  refine ⟨(m.e, 0, ()), rfl, ?_⟩
  refine ns_ok (zs := evL zeroM.e) (vs := evL m.e) rfl (evL_one (Tm.v_one _)) fun g33 w9 hg33 hb33 f9 => ?_
  have f79 := f8.trans f9
  refine ifB.f rfl ?_
  refine LdsK.blk (cks := EK) (x := m.e) (f79.keep0 hb8) (LdsK.blk (cks := EK) (x := m.e) hb33 ?_)
  refine CallK.of (esame_spec m m w9) ?_
  rintro _ w10 ⟨rfl, f10⟩
  rw [sameP_self hpk]
  refine ⟨_, rfl, ifB.f rfl (ifB.f (by simp; omega) ?_)⟩
  have f710 := f79.trans f10
  have hu10 := hu.keep0 f710
  rw [wI (x := (u.2.1 : Int) - 1) (by omega) (by omega)]
  refine RdB.sub hu10.rd (by omega) (by omega) hu10.cap fun hl => ?_
  obtain ⟨n, hn1⟩ : ∃ n, n = bs.length - 1 := ⟨_, rfl⟩
  rw [show ((u.2.1 : Int) - 1).toNat = n by omega] at hl ⊢
  rw [← hn1] at hless
  have hnc : n ≤ u.2.2 := by have := hu10.cap; omega
  obtain ⟨ds, hds⟩ : ∃ ds, ds = bs.take n := ⟨_, rfl⟩
  rw [← hds] at hless hl
  have f110 := f17.trans f710
  refine CallK.of (take_spec (v := (u.1, n, u.2.2)) hl hnc (ht.keep0 f110)) ?_
  rintro _ w11 ⟨rfl, f11⟩
  rw [hless]
  refine ⟨(zeroM.e, 2, ()), rfl, ?_⟩
  refine ns_ok (zs := evL zeroM.e) (vs := evL zeroM.e) rfl rfl fun g45 w12 hg45 hb45 f12' => ?_
  have f712 := (f710.trans f11).trans f12'
  refine CallK.of (copy_spec (hu.keep0 f712).rd (by omega)) ?_
  rintro _ w13 ⟨y, rfl, hy, f13, yf⟩
  refine ⟨y, rfl, ?_⟩
  rw [toByte_bc h2]
  obtain ⟨x, w14, hr14, hx, hxl, f14', xf⟩ := lit_ok (P := Tryz.prog) (w := w13) elem_byte [bc (toByte p2)] (by simp [bc, Value.cells]) (by simp)
  refine ⟨x, w14, hr14, ?_⟩
  have hx0 : IsB w14 x [toByte p2] := hx
  refine app_some (hy.keep0 f14') hx0 (by simp only [List.length_singleton]; omega) fun z w15 hz15 f15 zf => ?_
  have s17 := (f17.trans f712).size
  have s13 := f13.size
  have s14 := f14'.size
  have f1215 : Fr none1 w12 w15 := (f13.trans f14').comp f15 fun k hk t => by have := yf k t; omega
  have f715 := f712.trans f1215
  have f115 := f17.trans f715
  refine CallK.of (take_spec hz15.rd hz15.cap (ht.keep0 f115)) ?_
  rintro _ w16 ⟨rfl, f16'⟩
  rw [tkp_more hpk]
  refine ⟨(zeroM.e, 2, ()), rfl, ?_⟩
  refine ns_ok (zs := evL zeroM.e) (vs := evL zeroM.e) rfl rfl fun g56 w17 hg56 hb56 f17' => ?_
  have f717 := (f715.trans f16').trans f17'
  have f117 := f17.trans f717
  refine LdsK.blk (cks := EK) (x := m'.e) (f717.keep0 hb17) ?_
  refine CallK.of (sml_of hz' hn' w17 (ht.keep0 f117)) ?_
  rintro _ w18 ⟨q, rfl, hq, f18, qf⟩
  refine ⟨(q, (packM m').2, ()), rfl, ?_⟩
  have f118 := f117.trans f18
  have f718 := f717.trans f18
  refine DrewK.of fun w19 _ f19 => HoldK.all ?_
  refine ifB.t rfl (ifB.t rfl ?_)
  dsimp only
  refine ifB.ne (fun hne => ?_) (fun he => ?_)
  · refine CallK.of (wakes12_spec w19) ?_
    rintro _ wb ⟨rfl, fb⟩
    exact ⟨_, rfl, KeepK.of fb ⟨rfl, (f118.trans f19).trans fb⟩⟩
  refine InK.all (LdsK.blk (cks := EK) (x := m.e) (f19.keep0 (f718.keep0 hb8)) (InK.all (LdsK.blk (cks := EK) (x := m'.e) (f19.keep0 (f718.keep0 hb17)) ?_)))
  have hpk' : packM m' = ((packM m').1, 0) := Prod.ext rfl he
  refine CallK.of (same_spec (hu.keep0 (f718.trans f19)).rd (hq.keep0 f19).rd (by omega)) ?_
  rintro _ w20 ⟨rfl, f20⟩
  refine ⟨_, rfl, KeepK.of f20 ?_⟩
  refine CallK.of (esame_spec m m' w20) ?_
  rintro _ w21 ⟨rfl, f21⟩
  refine ⟨_, rfl, KeepK.of f21 ?_⟩
  have key : decide (bs = (packM m').1) = sameP m m' := by
    by_cases hb : bs = (packM m').1
    · have : m = m' := pack_inj hpk (by rw [hb]; exact hpk')
      subst this
      rw [sameP_self hpk]; simp [hb]
    · rw [decide_eq_false hb]
      cases hs : sameP m m' with
      | false => rfl
      | true => have := sameP_eq hs; subst this; exact (hb (by rw [hpk])).elim
  rw [key]
  refine ifB.t (by simp) ?_
  refine CallK.of (wakes12_spec w21) ?_
  rintro _ wb ⟨rfl, fb⟩
  exact ⟨_, rfl, KeepK.of fb ⟨rfl, ((((f118.trans f19).trans f20).trans f21).trans fb)⟩⟩

end Go.Proofs.YtbadiokobooliaaGreatDoor
