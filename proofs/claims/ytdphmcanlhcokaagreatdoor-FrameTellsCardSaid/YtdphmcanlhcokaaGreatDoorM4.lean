/-
  Texts of this claim, put together: DoSpec, RefEv2, RefReadF, CRefSg, RTellSpec, CRefRd, RefReadSpec, RefReadSpec2, RefReadSpec3, CRef11T, TakeSpec2, TakeSpec3, TakeSpec4, CSipG, SipSpec, NilNe, CFrameG, FrameSpec, FrameF, FrameSpec2, FrameSpec3, CSameG, SameSpec, CEvSame, EvSame, CFrSome, FrRef, VcRaw, SomeSpec2, FrSome, CRefFr, RefFr, CRefSip, RefSipSpec, RefFr2.
  Conditions: those of each theorem.
-/
import Derived.Test.YtdphmcanlhcokaaGreatDoorM0
import Derived.Test.YtdphmcanlhcokaaGreatDoorM1
import Derived.Test.YtdphmcanlhcokaaGreatDoorM2
import Derived.Test.YtdphmcanlhcokaaGreatDoorM3
import Derived.KernelRfl
import Derived.Laws.StructEq
import Derived.Test.YtdphmcanlhcokaaGreatDoorProg
/-! ### DoSpec -/
set_option linter.unusedVariables false
set_option maxRecDepth 100000
namespace Go.Proofs.YtdphmcanlhcokaaGreatDoor
open Vc

/-- An event with short texts, its tree in blocks of S. -/
def Fine (w : World) (S : Nat → Prop) (x : EvR) : Prop := ∃ (e : EvT) (t : Tm) (v : TV), x = evR e v ∧ e.2.2.2.2.2.2.2.1 = t.v ∧ smallE e ∧ nodesT t ≤ 2000 ∧ shortT t ∧ IsTr w S (trT t) v

structure DoS (w wc : World) (g1 g3 g5 : Nat) (c : CmV) : Prop where
  b1 : wc.heap[g1]? = some (.cells (cmL c).toArray 31 (0, 0))
  pl : IsPl w (cmPl c)
  b3 : ∃ x : EvR, wc.heap[g3]? = some (.cells (evRL x).toArray 43 (0, 0))
  b5 : ∃ x : EvR, wc.heap[g5]? = some (.cells (evRL x).toArray 43 (0, 0)) ∧ Fine wc (fun k => w.heap.size ≤ k ∧ k < wc.heap.size ∧ k ≠ g3 ∧ k ≠ g5) x
  fr : Fr none1 w wc
  lo : w.heap.size ≤ g1 ∧ w.heap.size ≤ g3 ∧ w.heap.size ≤ g5 ∧ g1 ≠ g3 ∧ g1 ≠ g5 ∧ g3 ≠ g5

theorem Fine.keep {w w' : World} {S S' T : Nat → Prop} {x : EvR} (h : Fine w S x) (f : Fr T w w') (hn : ∀ k, S k → ¬ T k) (hs : ∀ k, S k → S' k) : Fine w' S' x := by
  obtain ⟨e, t, v, h1, h2, h3, h4, h5, h6⟩ := h
  exact ⟨e, t, v, h1, h2, h3, h4, h5, IsTr.mono hs _ _ (IsTr.keep f hn _ _ h6)⟩
theorem DoS.keep0 {w wc wd : World} {g1 g3 g5 : Nat} {c : CmV} (h : DoS w wc g1 g3 g5 c) (f : Fr none1 wc wd) : DoS w wd g1 g3 g5 c := by
  obtain ⟨x3, h3⟩ := h.b3
  obtain ⟨x5, h5, hf⟩ := h.b5
  exact ⟨f.keep0 h.b1, h.pl, ⟨x3, f.keep0 h3⟩, ⟨x5, f.keep0 h5, hf.keep f (fun _ _ t => t) fun k hk => ⟨hk.1, Nat.lt_of_lt_of_le hk.2.1 f.size, hk.2.2⟩⟩, h.fr.trans f, h.lo⟩

/-- What was told. -/
def Told (w : World) (r : Value) (w' : World) : Prop := ∃ x : EvR, r = evRA x ∧ Fine w' (fun k => w.heap.size ≤ k ∧ k < w'.heap.size) x ∧ Fr none1 w w'

theorem DoS.fin {w wc : World} {g1 g3 g5 : Nat} {c : CmV} (h : DoS w wc g1 g3 g5 c) :
    LdsK ERK ⟨g5, 0, none⟩ wc (fun (x : EvR) => StsK ⟨g3, 0, none⟩ (evRL x) wc (fun w2 => LdsK ERK ⟨g3, 0, none⟩ w2 (fun (y : EvR) => Told w (evRA y) w2))) := by
  obtain ⟨x3, h3⟩ := h.b3
  obtain ⟨x5, h5, hf⟩ := h.b5
  refine LdsK.blk (cks := ERK) (x := x5) h5 ?_
  refine StsK.blk (cs := evRL x3) (vs := evRL x5) h3 rfl rfl fun w2 hb2 f2 _ => LdsK.blk (cks := ERK) (x := x5) hb2 ?_
  exact ⟨x5, rfl, hf.keep f2 (fun k hk t => hk.2.2.1 t) (fun k hk => ⟨hk.1, Nat.lt_of_lt_of_le hk.2.1 f2.size⟩), h.fr.fresh f2 h.lo.2.1⟩

/-- A write to the event's own block that leaves it fine. -/
theorem DoS.put {w wc wd : World} {g1 g3 g5 : Nat} {c : CmV} (h : DoS w wc g1 g3 g5 c) {x x' : EvR} (hx : wc.heap[g5]? = some (.cells (evRL x).toArray 43 (0, 0))) (f : Fr (only g5) wc wd) (hb : wd.heap[g5]? = some (.cells (evRL x').toArray 43 (0, 0)))
    (hf : Fine wc (fun k => w.heap.size ≤ k ∧ k < wc.heap.size ∧ k ≠ g3 ∧ k ≠ g5) x') : DoS w wd g1 g3 g5 c := by
  obtain ⟨x3, h3⟩ := h.b3
  obtain ⟨l1, l2, l3, l4, l5, l6⟩ := h.lo
  exact ⟨f.keep h.b1 (fun t => l5 t), h.pl, ⟨x3, f.keep h3 (fun t => l6 t)⟩, ⟨x', hb, hf.keep f (fun k hk t => hk.2.2.2 t) fun k hk => ⟨hk.1, Nat.lt_of_lt_of_le hk.2.1 f.size, hk.2.2⟩⟩, h.fr.fresh f l3, h.lo⟩

theorem DoS.n0 {w wc : World} {g1 g3 g5 : Nat} {c : CmV} (h : DoS w wc g1 g3 g5 c) (n : Int) {K : World → Prop} (k : ∀ wd, DoS w wd g1 g3 g5 c → Fr (only g5) wc wd → K wd) : StK ((⟨g5, 0, none⟩ : Addr).add 0) (.int .i64 n) wc K := by
  obtain ⟨x5, h5, e, t, v, rfl, he, hz, hn, hsh, hT⟩ := h.b5
  exact StK.fld h5 (by show 0 + 0 < 11; omega) rfl fun wd hb f _ => k wd (h.put h5 (x' := evR (n, e.2) v) f hb ⟨(n, e.2), t, v, rfl, he, hz, hn, hsh, hT⟩) f
theorem DoS.s1 {w wc : World} {g1 g3 g5 : Nat} {c : CmV} (h : DoS w wc g1 g3 g5 c) (s : ByteArray) (hs : s.size ≤ 1000000) {K : World → Prop} (k : ∀ wd, DoS w wd g1 g3 g5 c → Fr (only g5) wc wd → K wd) : StK ((⟨g5, 0, none⟩ : Addr).add 1) (.string s) wc K := by
  obtain ⟨x5, h5, e, t, v, rfl, he, hz, hn, hsh, hT⟩ := h.b5
  exact StK.fld h5 (by show 0 + 1 < 11; omega) rfl fun wd hb f _ => k wd (h.put h5 (x' := evR (e.1, s, e.2.2) v) f hb ⟨(e.1, s, e.2.2), t, v, rfl, he, ⟨hs, hz.2⟩, hn, hsh, hT⟩) f
theorem DoS.s2 {w wc : World} {g1 g3 g5 : Nat} {c : CmV} (h : DoS w wc g1 g3 g5 c) (s : ByteArray) (hs : s.size ≤ 1000000) {K : World → Prop} (k : ∀ wd, DoS w wd g1 g3 g5 c → Fr (only g5) wc wd → K wd) : StK ((⟨g5, 0, none⟩ : Addr).add 2) (.string s) wc K := by
  obtain ⟨x5, h5, e, t, v, rfl, he, hz, hn, hsh, hT⟩ := h.b5
  exact StK.fld h5 (by show 0 + 2 < 11; omega) rfl fun wd hb f _ => k wd (h.put h5 (x' := evR (e.1, e.2.1, s, e.2.2.2) v) f hb ⟨(e.1, e.2.1, s, e.2.2.2), t, v, rfl, he, ⟨hz.1, hs, hz.2.2⟩, hn, hsh, hT⟩) f
theorem DoS.s3 {w wc : World} {g1 g3 g5 : Nat} {c : CmV} (h : DoS w wc g1 g3 g5 c) (s : ByteArray) (hs : s.size ≤ 1000000) {K : World → Prop} (k : ∀ wd, DoS w wd g1 g3 g5 c → Fr (only g5) wc wd → K wd) : StK ((⟨g5, 0, none⟩ : Addr).add 3) (.string s) wc K := by
  obtain ⟨x5, h5, e, t, v, rfl, he, hz, hn, hsh, hT⟩ := h.b5
  exact StK.fld h5 (by show 0 + 3 < 11; omega) rfl fun wd hb f _ => k wd (h.put h5 (x' := evR (e.1, e.2.1, e.2.2.1, s, e.2.2.2.2) v) f hb ⟨(e.1, e.2.1, e.2.2.1, s, e.2.2.2.2), t, v, rfl, he, ⟨hz.1, hz.2.1, hs, hz.2.2.2⟩, hn, hsh, hT⟩) f
theorem DoS.s4 {w wc : World} {g1 g3 g5 : Nat} {c : CmV} (h : DoS w wc g1 g3 g5 c) (s : ByteArray) (hs : s.size ≤ 1000000) {K : World → Prop} (k : ∀ wd, DoS w wd g1 g3 g5 c → Fr (only g5) wc wd → K wd) : StK ((⟨g5, 0, none⟩ : Addr).add 4) (.string s) wc K := by
  obtain ⟨x5, h5, e, t, v, rfl, he, hz, hn, hsh, hT⟩ := h.b5
  exact StK.fld h5 (by show 0 + 4 < 11; omega) rfl fun wd hb f _ => k wd (h.put h5 (x' := evR (e.1, e.2.1, e.2.2.1, e.2.2.2.1, s, e.2.2.2.2.2) v) f hb ⟨(e.1, e.2.1, e.2.2.1, e.2.2.2.1, s, e.2.2.2.2.2), t, v, rfl, he, ⟨hz.1, hz.2.1, hz.2.2.1, hs⟩, hn, hsh, hT⟩) f
theorem DoS.n5 {w wc : World} {g1 g3 g5 : Nat} {c : CmV} (h : DoS w wc g1 g3 g5 c) (n : Int) {K : World → Prop} (k : ∀ wd, DoS w wd g1 g3 g5 c → Fr (only g5) wc wd → K wd) : StK ((⟨g5, 0, none⟩ : Addr).add 5) (.int .i64 n) wc K := by
  obtain ⟨x5, h5, e, t, v, rfl, he, hz, hn, hsh, hT⟩ := h.b5
  exact StK.fld h5 (by show 0 + 5 < 11; omega) rfl fun wd hb f _ => k wd (h.put h5 (x' := evR (e.1, e.2.1, e.2.2.1, e.2.2.2.1, e.2.2.2.2.1, n, e.2.2.2.2.2.2) v) f hb ⟨(e.1, e.2.1, e.2.2.1, e.2.2.2.1, e.2.2.2.2.1, n, e.2.2.2.2.2.2), t, v, rfl, he, hz, hn, hsh, hT⟩) f
theorem DoS.n6 {w wc : World} {g1 g3 g5 : Nat} {c : CmV} (h : DoS w wc g1 g3 g5 c) (n : Int) {K : World → Prop} (k : ∀ wd, DoS w wd g1 g3 g5 c → Fr (only g5) wc wd → K wd) : StK ((⟨g5, 0, none⟩ : Addr).add 6) (.int .i64 n) wc K := by
  obtain ⟨x5, h5, e, t, v, rfl, he, hz, hn, hsh, hT⟩ := h.b5
  exact StK.fld h5 (by show 0 + 6 < 11; omega) rfl fun wd hb f _ => k wd (h.put h5 (x' := evR (e.1, e.2.1, e.2.2.1, e.2.2.2.1, e.2.2.2.2.1, e.2.2.2.2.2.1, n, e.2.2.2.2.2.2.2) v) f hb ⟨(e.1, e.2.1, e.2.2.1, e.2.2.2.1, e.2.2.2.2.1, e.2.2.2.2.2.1, n, e.2.2.2.2.2.2.2), t, v, rfl, he, hz, hn, hsh, hT⟩) f

theorem writes_shift {p : Addr} {m : Nat} : ∀ (vs : List Value) (w : World) (i : Nat), Writes w p (m + i) vs → Writes w (p.add m) i vs
  | [], _, _, _ => trivial
  | v :: vs, w, i, ⟨h1, h2, h3, h4⟩ => ⟨h1, by rw [add_add]; exact h2, by rw [add_add]; exact h3, by rw [add_add]; exact writes_shift vs _ (i + 1) h4⟩
theorem setCells_shift {p : Addr} {m : Nat} : ∀ (vs : List Value) (w : World) (i : Nat), setCells w (p.add m) i vs = setCells w p (m + i) vs
  | [], _, _ => rfl
  | v :: vs, w, i => by
    show setCells (w.setCell ((p.add m).add i) v) (p.add m) (i + 1) vs = setCells (w.setCell (p.add (m + i)) v) p (m + i + 1) vs
    rw [add_add, setCells_shift vs _ (i + 1)]; rfl
theorem DoS.term {w wc : World} {g1 g3 g5 : Nat} {c : CmV} (h : DoS w wc g1 g3 g5 c) {t : Tm} {v : TV} (hn : nodesT t ≤ 2000) (hsh : shortT t) (hT : IsTr wc (fun k => w.heap.size ≤ k ∧ k < wc.heap.size ∧ k ≠ g3 ∧ k ≠ g5) (trT t) v) {K : World → Prop} (k : ∀ wd, DoS w wd g1 g3 g5 c → Fr (only g5) wc wd → K wd) :
    StsK ((⟨g5, 0, none⟩ : Addr).add 7) (tvL v) wc K := by
  obtain ⟨x5, h5, e, t', v', rfl, he, hz, _⟩ := h.b5
  obtain ⟨a1, a2, a3, a4⟩ := setCells_all (T := 43) (b := g5) (tvL v) wc [.int .i64 e.1, .string e.2.1, .string e.2.2.1, .string e.2.2.2.1, .string e.2.2.2.2.1, .int .i64 e.2.2.2.2.2.1, .int .i64 e.2.2.2.2.2.2.1] (tvL v') h5 rfl rfl
  refine ⟨writes_shift _ _ 0 a1, ?_⟩
  rw [setCells_shift]
  exact k _ (h.put h5 (x' := evR (e.1, e.2.1, e.2.2.1, e.2.2.2.1, e.2.2.2.2.1, e.2.2.2.2.2.1, e.2.2.2.2.2.2.1, t.v, ()) v) a3 a2 ⟨_, t, v, rfl, rfl, hz, hn, hsh, hT⟩) a3

/-! ### Rules -/
theorem DoS.ri {w wc : World} {g1 g3 g5 : Nat} {c : CmV} (h : DoS w wc g1 g3 g5 c) {i : Nat} (hi : i < 5) {K : Int → Prop} (k : ∀ x, K x) : LdK (.int .i64) ((⟨g1, 0, none⟩ : Addr).add i) wc K := by
  match i, hi with
  | 0, _ => exact LdK.fld h.b1 (x := c.1) rfl (k _)
  | 1, _ => exact LdK.fld h.b1 (x := c.2.1) rfl (k _)
  | 2, _ => exact LdK.fld h.b1 (x := c.2.2.1) rfl (k _)
  | 3, _ => exact LdK.fld h.b1 (x := c.2.2.2.1) rfl (k _)
  | 4, _ => exact LdK.fld h.b1 (x := c.2.2.2.2.1) rfl (k _)
theorem DoS.rs {w wc : World} {g1 g3 g5 : Nat} {c : CmV} (h : DoS w wc g1 g3 g5 c) {K : ByteArray → Prop} (k : ∀ x, K x) : LdK .str ((⟨g1, 0, none⟩ : Addr).add 5) wc K := LdK.fld h.b1 (x := c.2.2.2.2.2.1) rfl (k _)
theorem inG {S : Nat → Prop} {g i : Nat} {K : Prop} (hS : S g) (k : K) : InK S ((⟨g, 0, none⟩ : Addr).add i) K := ⟨by rw [addr_add]; exact hS, k⟩
theorem witK (v of : Int) (hof : of ≤ 9223372036854775807) {wc : World} {K : Int → World → Prop} (k : ∀ x, 0 ≤ x → (1 ≤ of → x < of) → K x wc) : CallK Tryz.prog 14 #[.int .i64 v, .int .i64 of] wc (.v (.one (.int .i64))) (fun (x : Int) w' => K x w') := by
  refine CallK.of (within_spec v of wc hof) ?_
  rintro _ _ ⟨rfl, rfl⟩
  exact ⟨_, rfl, k _ (within_lo v of) (fun h => within_hi v h)⟩
theorem txtK (s : ByteArray) (n : Int) (h0 : 0 ≤ n) (h1 : n ≤ 1000) {wc : World} {K : ByteArray → World → Prop} (k : ∀ x : ByteArray, x.size ≤ 1000 → K x wc) : CallK Tryz.prog 50 #[.string s, .int .i64 n] wc (.v (.one .str)) (fun (x : ByteArray) w' => K x w') := by
  obtain ⟨l, rfl⟩ : ∃ l, s = str l := ⟨s.data.toList, (str_of s).symm⟩
  refine CallK.of (text1_spec l n wc h0) ?_
  rintro _ _ ⟨rfl, rfl⟩
  exact ⟨_, rfl, k _ (by rw [str_size, List.length_take]; omega)⟩
theorem wordK (ss : List (List UInt8)) (hl : ss.length = 3) (hs : ∀ s ∈ ss, s.length ≤ 1000) {wc : World} {K : (Option Addr × Nat × Nat) → World → Prop} (k : ∀ (u : Sl) w', (∀ (x : Int) (wd : World) (S : Nat → Prop), 0 ≤ x → x < 3 → Fr none1 w' wd → (∀ j, wc.heap.size ≤ j → S j) → ∀ K : ByteArray → Prop, (∀ s : ByteArray, s.size ≤ 1000 → K s) → IdxK u.1 u.2.1 x 1 fun a => InK S a (LdK .str a wd K)) → Fr none1 wc w' → K u w') :
    RunK Tryz.prog (Instr.buildSlice 27 ss.length (((ss.map sv).zipIdx.map fun (v, i) => (i, v)).toArray)) wc (.v (.one .slc)) (fun (x : Option Addr × Nat × Nat) w' => K x w') := by
  refine words_lit ss (by omega) fun u w' hu f hf => k u w' (fun x wd S h0 h1 fd hS K hK => ?_) f
  have hu2 : IsSs wd u ss := hu.keep0 fd
  have hul := hu2.len
  rcases hu2 with ⟨hh, _⟩ | ⟨g, off, cs, hv, hb, hle, hc, hn, he⟩
  · rw [hh] at hul; dsimp only at hul; omega
  · refine ⟨⟨g, off, none⟩, hv, h0, by omega, ?_⟩
    have hx : x.toNat < ss.length := by omega
    rw [addr_add]
    refine ⟨hS _ (hf _ ⟨_, hv, rfl⟩), LdK.cell (x := str (ss[x.toNat])) ?_ (hK _ (by rw [str_size]; exact hs _ (List.getElem_mem hx)))⟩
    rw [cell_blk hb, Nat.mul_one, he _ (by rw [List.length_map]; exact hx), List.getElem?_map, List.getElem?_eq_getElem hx]
    rfl

theorem DoS.rp {w wc : World} {g1 g3 g5 : Nat} {c : CmV} (h : DoS w wc g1 g3 g5 c) {K : PlV → Prop} (k : K (cmPl c)) : LdsK [.slc, .slc] ((⟨g1, 0, none⟩ : Addr).add 6) wc K :=
  ⟨cmPl c, cellsAt_shift (m := 6) _ 0 (cellsAt_all h.b1 _ 6 fun j hj => (by
    match j, hj with
    | 0, _ => rfl
    | 1, _ => rfl
    | j + 2, h => exact absurd h (by show ¬ j + 2 < 2; omega))), k⟩
theorem DoS.lt5 {w wc : World} {g1 g3 g5 : Nat} {c : CmV} (h : DoS w wc g1 g3 g5 c) : g5 < wc.heap.size ∧ g3 < wc.heap.size := by
  obtain ⟨_, h3⟩ := h.b3
  obtain ⟨_, h5, _⟩ := h.b5
  exact ⟨lt_of_blk h5, lt_of_blk h3⟩
theorem DoS.made {w wc wd : World} {g1 g3 g5 : Nat} {c : CmV} (h : DoS w wc g1 g3 g5 c) {t : Tr} {v : TV} (m : Made wc wd t v) {we : World} (f : Fr (only g5) wd we) : IsTr we (fun k => w.heap.size ≤ k ∧ k < we.heap.size ∧ k ≠ g3 ∧ k ≠ g5) t v := by
  have l := h.lt5; have s := h.fr.size
  have m' := IsTr.keep (T := only g5) f (fun k hk q => by have := hk.1; have : k = g5 := q; omega) _ _ m
  exact IsTr.mono (fun k hk => ⟨by have := hk.1; omega, Nat.lt_of_lt_of_le hk.2 f.size, by have := hk.1; omega, by have := hk.1; omega⟩) _ _ m'

theorem do_spec (c : CmV) (p2 : Int) {w : World} (hp : IsPl w (cmPl c)) : Ret Tryz.prog 49 #[.pointer none, .agg (cmL c).toArray, .int .i64 p2] w (Told w) := by
  refine c49 none c p2 w _ ?_
  unfold C49
  refine NewK.of fun g1 w1 hg1 hb1 f1 hs1 => NewK.of fun g3 w2 hg3 hb3 f2 hs2 => NewK.of fun g5 w3 hg5 hb5 f3 hs3 => ?_
  refine StsK.blk (cs := evRL (0, (⟨#[]⟩ : ByteArray), (⟨#[]⟩ : ByteArray), (⟨#[]⟩ : ByteArray), (⟨#[]⟩ : ByteArray), 0, 0, 0, (⟨#[]⟩ : ByteArray), 0, (none, 0, 0), ())) (vs := evRL (0, (⟨#[]⟩ : ByteArray), (⟨#[]⟩ : ByteArray), (⟨#[]⟩ : ByteArray), (⟨#[]⟩ : ByteArray), 0, 0, 0, (⟨#[]⟩ : ByteArray), 0, (none, 0, 0), ())) hb5 rfl rfl fun w4 hb54 f4 hs4 => ?_
  have e0 : (⟨#[]⟩ : ByteArray) = str [] := rfl
  have hz0 : (⟨#[]⟩ : ByteArray).size ≤ 1000000 := by decide
  have zfine : ∀ (wa : World) (S : Nat → Prop) (a : ByteArray) (k d v : Int), a.size ≤ 1000000 → Fine wa S (k, a, (⟨#[]⟩ : ByteArray), (⟨#[]⟩ : ByteArray), (⟨#[]⟩ : ByteArray), d, v, 0, (⟨#[]⟩ : ByteArray), 0, (none, 0, 0), ()) := fun wa S a k d v ha =>
    ⟨(k, a, (⟨#[]⟩ : ByteArray), (⟨#[]⟩ : ByteArray), (⟨#[]⟩ : ByteArray), d, v, .nilIface, ()), .none, (0, str [], 0, (none, 0, 0), ()), rfl, rfl, ⟨ha, hz0, hz0, hz0⟩, by decide, trivial, IsTr.mono (fun k hk => by have := hk.1; have := hk.2; omega) _ _ (leaf_made wa wa 0 [] 0)⟩
  have D : DoS w w4 g1 g3 g5 c := by
    have f14 : Fr none1 w w4 := ((f1.trans f2).trans f3).fresh f4 (by omega)
    exact ⟨f4.keep ((f2.trans f3).keep0 hb1) (fun t => by have : g1 = g5 := t; omega), hp, ⟨(0, (⟨#[]⟩ : ByteArray), (⟨#[]⟩ : ByteArray), (⟨#[]⟩ : ByteArray), (⟨#[]⟩ : ByteArray), 0, 0, 0, (⟨#[]⟩ : ByteArray), 0, (none, 0, 0), ()), f4.keep (f3.keep0 hb3) (fun t => by have : g3 = g5 := t; omega)⟩, ⟨_, hb54, zfine _ _ _ _ _ _ (by decide)⟩, f14, by omega⟩
  have hlo := D.lo
  clear hb1 hb3 hb5 hb54 f1 f2 f3 f4
  refine D.ri (by omega) fun x8 => ?_
  have et : (⟨#[116]⟩ : ByteArray) = str [116] := rfl
  rw [et]
  refine CallK.of (kname_spec [116] x8 5 (by omega) (by omega) (by decide) w4) ?_
  rintro _ w5 ⟨rfl, f5⟩
  refine ⟨_, rfl, ?_⟩
  have D := D.keep0 f5
  refine JoinK.of (fun q w' => q.1.size ≤ 1000 ∧ w5 = w') ?_ ?_
  · refine D.ri (by omega) fun x14 => ⟨by decide, ifB.by (fun _ => ?_) (fun _ => ⟨by rw [str_size]; simp, rfl⟩)⟩
    exact D.rs fun x => txtK x 14 (by decide) (by decide) fun y hy => ⟨hy, rfl⟩
  rintro _ ⟨nm, _⟩ _ ⟨hnm, rfl⟩
  dsimp only at hnm ⊢
  refine D.ri (by omega) fun x18 => witK x18 20 (by decide) fun k hk0 hk1 => ?_
  have hwr := wrap_rg (p2 + 2)
  -- the last steps
  have turn : ∀ {wa : World} (n : Int), n ≠ 0 → DoS w wa g1 g3 g5 c → LdK (.int .i64) ((⟨g1, 0, none⟩ : Addr).add 2) wa (fun (x139 : Int) => NzK n (ifB ((x139.tmod n) == n - 1)
      (LdK (.int .i64) ((⟨g1, 0, none⟩ : Addr).add 4) wa (fun (x140 : Int) => StK ((⟨g5, 0, none⟩ : Addr).add 6) (.int .i64 x140) wa (fun w141 => LdsK ERK ⟨g5, 0, none⟩ w141 (fun (x : EvR) => StsK ⟨g3, 0, none⟩ (evRL x) w141 (fun w2 => LdsK ERK ⟨g3, 0, none⟩ w2 (fun (y : EvR) => Told w (evRA y) w2))))))
      (LdsK ERK ⟨g5, 0, none⟩ wa (fun (x : EvR) => StsK ⟨g3, 0, none⟩ (evRL x) wa (fun w2 => LdsK ERK ⟨g3, 0, none⟩ w2 (fun (y : EvR) => Told w (evRA y) w2)))))) := fun {wa} n hn D =>
    D.ri (by omega) fun x => ⟨hn, ifB.by (fun _ => D.ri (by omega) fun y => D.n6 y fun wd D' _ => D'.fin) (fun _ => D.fin)⟩
  refine ifB.by (fun _ => D.n0 1 fun wd D' _ => D'.fin) (fun _ => ?_)
  refine ifB.by (fun _ => ?_) (fun _ => ?_)
  · refine D.rp ?_
    refine CallK.of (right_spec (D.pl.keep0 D.fr)) ?_
    rintro _ w6 ⟨v, tt, rfl, mv, hc, hsh, f6⟩
    refine ⟨v, rfl, ?_⟩
    have D6 := D.keep0 f6
    refine D6.n0 2 fun w7 D7 f7 => D7.s1 nm (by omega) fun w8 D8 f8 => ?_
    have hf := checkT_form hc
    refine D8.term (t := tt) (by omega) hsh (D.made mv (f7.trans f8)) fun w9 D9 f9 => ?_
    refine D9.ri (by omega) fun x => ⟨by decide, ifB.by (fun _ => ?_) (fun _ => D9.fin)⟩
    refine D9.rp ?_
    refine CallK.of (contract_spec (D9.pl.keep0 D9.fr)) ?_
    rintro _ wa ⟨v2, t2, rfl, mv2, hn2, hsh2, fa⟩
    refine ⟨v2, rfl, ?_⟩
    exact (D9.keep0 fa).term hn2 hsh2 (D9.made mv2 (Fr.refl _ _)) fun wb Db _ => Db.fin
  refine ifB.by (fun _ => ?_) (fun _ => ?_)
  · refine JoinK.of (fun _ w' => DoS w w' g1 g3 g5 c) ?_ ?_
    · refine DrewK.of fun w6 _ f6 => HoldK.of (fun k => k ≠ g5) ?_
      have D := D.keep0 f6
      refine inG hlo.2.2.2.2.1 (D.ri (by omega) fun xa => inG hlo.2.2.2.2.1 (D.ri (by omega) fun xb => inG hlo.2.2.2.2.1 (D.ri (by omega) fun xc => ?_)))
      repeat' first
        | exact D
        | (refine (⟨?_, ?_⟩ : AndK _ _))
        | (refine wordK [[108, 105, 98, 111, 114], [114, 97, 105, 110], [195, 182, 108]] rfl (by decide) fun u wd pick f => KeepK.of f ?_; have hlt := D.lt5; have D := D.keep0 f)
        | (refine witK _ _ (by first | decide | exact hwr.2) fun y hy0 hy1 => KeepK.of (Fr.refl _ _) ?_)
        | (refine pick _ _ _ (by assumption) (by first | (exact hy1 (by decide)) | (exact hyA (by decide)) | omega) (Fr.refl _ _) (fun j hj t => by omega) _ (fun s hs => ?_))
        | (refine D.n0 _ fun wd D' f => KeepK.on f (fun _ hk t => hk t) ?_; have D := D')
        | (refine D.s2 _ (by omega) fun wd D' f => KeepK.on f (fun _ hk t => hk t) ?_; have D := D')
        | (refine D.n5 _ fun wd D' f => KeepK.on f (fun _ hk t => hk t) ?_; have D := D')
        | (refine D.n6 _ fun wd D' f => KeepK.on f (fun _ hk t => hk t) ?_; have D := D')
        | fail
    rintro _ _ w6 D
    refine D.ri (by omega) fun x => ⟨by decide, ifB.by (fun _ => ifB.f rfl (turn 13 (by decide) D)) (fun _ => turn 13 (by decide) D)⟩
  refine ifB.by (fun _ => ?_) (fun _ => ?_)
  · refine DrewK.of fun w6 _ f6 => HoldK.of (fun k => k ≠ g5) ?_
    have D := D.keep0 f6
    refine inG hlo.2.2.2.2.1 (D.ri (by omega) fun xa => inG hlo.2.2.2.2.1 (D.ri (by omega) fun xb => ?_))
    refine witK _ 3 (by decide) fun y hy0 hy1 => KeepK.of (Fr.refl _ _) ?_
    have hr := wrap_rg (1 + y)
    refine CallK.of (digits_spec (IntKind.i64.wrap (1 + y)) hr.1 hr.2 w6) ?_
    rintro _ w7 ⟨rfl, f7⟩
    refine ⟨_, rfl, KeepK.of f7 ?_⟩
    have hit := itoa_short (IntKind.i64.wrap (1 + y)) hr.1 hr.2
    have D := D.keep0 f7
    have ech : (⟨#[99, 104]⟩ : ByteArray) = str [99, 104] := rfl
    rw [ech]
    refine ⟨by rw [str_size, str_size]; show ((_ : Nat) : Int) ≤ 9223372036854775807; simp only [List.length_cons, List.length_nil]; omega, ?_⟩
    rw [str_app]
    refine witK _ 2 (by decide) fun z hz0' hz1 => KeepK.of (Fr.refl _ _) ?_
    refine D.n0 _ fun wa D f => KeepK.on f (fun _ hk t => hk t) ?_
    refine D.s1 _ (by omega) fun wb D f => KeepK.on f (fun _ hk t => hk t) ?_
    refine D.s3 _ (by rw [str_size]; simp only [List.length_append, List.length_cons, List.length_nil]; omega) fun wc D f => KeepK.on f (fun _ hk t => hk t) ?_
    refine D.n6 _ fun wd D f => KeepK.on f (fun _ hk t => hk t) ?_
    refine D.ri (by omega) fun x => ⟨by decide, ifB.by (fun _ => ifB.f rfl D.fin) (fun _ => D.fin)⟩
  refine ifB.by (fun _ => ?_) (fun _ => ?_)
  · exact D.ri (by omega) fun x => witK x 4 (by decide) fun y _ _ => D.n0 5 fun wa Da _ => Da.n5 _ fun wb Db _ => Db.fin
  refine ifB.by (fun _ => ?_) (fun _ => ?_)
  · refine JoinK.of (fun _ w' => DoS w w' g1 g3 g5 c) ?_ ?_
    · refine DrewK.of fun w6 _ f6 => HoldK.of (fun k => k ≠ g5) ?_
      have D := D.keep0 f6
      refine inG hlo.2.2.2.2.1 (D.ri (by omega) fun xa => inG hlo.2.2.2.2.1 (D.ri (by omega) fun xb => ?_))
      repeat' first
        | exact D
        | (refine (⟨?_, ?_⟩ : AndK _ _))
        | (refine wordK [[117, 115, 100], [101, 117, 114], [103, 98, 112]] rfl (by decide) fun u wd pick f => KeepK.of f ?_; have hlt := D.lt5; have D := D.keep0 f)
        | (refine witK _ _ (by first | decide | exact hwr.2) fun y hy0 hy1 => KeepK.of (Fr.refl _ _) ?_)
        | (refine pick _ _ _ (by assumption) (by first | (exact hy1 (by decide)) | (exact hyA (by decide)) | omega) (Fr.refl _ _) (fun j hj t => by omega) _ (fun s hs => ?_))
        | (refine D.n0 _ fun wd D' f => KeepK.on f (fun _ hk t => hk t) ?_; have D := D')
        | (refine D.s4 _ (by omega) fun wd D' f => KeepK.on f (fun _ hk t => hk t) ?_; have D := D')
        | (refine D.n5 _ fun wd D' f => KeepK.on f (fun _ hk t => hk t) ?_; have D := D')
        | (refine D.n6 _ fun wd D' f => KeepK.on f (fun _ hk t => hk t) ?_; have D := D')
        | fail
    rintro _ _ w6 D
    exact ifB.f rfl (turn 7 (by decide) D)
  · refine DrewK.of fun w6 _ f6 => HoldK.of (fun k => k ≠ g5) ?_
    have D := D.keep0 f6
    refine inG hlo.2.2.2.2.1 (D.ri (by omega) fun xa => inG hlo.2.2.2.2.1 (D.rs fun xs => inG hlo.2.2.2.2.1 (D.ri (by omega) fun xb => inG hlo.2.2.2.2.1 (D.ri (by omega) fun xc => ?_))))
    refine witK _ 9 (by decide) fun y hy0 hy1 => KeepK.of (Fr.refl _ _) ?_
    refine txtK xs 5 (by decide) (by decide) fun s hs => KeepK.of (Fr.refl _ _) ?_
    obtain ⟨x5, h5, _⟩ := D.b5
    refine StsK.blk (cs := evRL x5) (vs := evRL (y, s, (⟨#[]⟩ : ByteArray), (⟨#[]⟩ : ByteArray), (⟨#[]⟩ : ByteArray), xb, xc, 0, (⟨#[]⟩ : ByteArray), 0, (none, 0, 0), ())) h5 rfl rfl fun w7 hb7 f7 _ => KeepK.on f7 (fun _ hk t => hk t) ?_
    exact (D.put h5 f7 hb7 (zfine _ _ s y xb xc (by omega))).fin

end Go.Proofs.YtdphmcanlhcokaaGreatDoor

/-! ### RefEv2 -/
set_option linter.unusedVariables false
set_option maxRecDepth 100000
namespace Go.Proofs.YtdphmcanlhcokaaGreatDoor
open Vc

/-- Some bytes behind some others. -/
theorem app_some {w : World} {x : Sl} {xs : List UInt8} (hx : IsB w x xs) {y : Sl} {ys : List UInt8} (hy : IsB w y ys) (hl : xs.length + ys.length ≤ 140737488355000) {K : (Option Addr × Nat × Nat) → World → Prop}
    (k : ∀ (u : Sl) w', IsB w' u (xs ++ ys) → Fr (blkOf x) w w' → (∀ k, blkOf u k → blkOf x k ∨ w.heap.size ≤ k) → K u w') :
    RunK Tryz.prog (Builtin.append_ #[22, 22] 22 #[.slice x.1 x.2.1 x.2.2, .slice y.1 y.2.1 y.2.2]) w (.v (.one .slc)) (fun (u : Option Addr × Nat × Nat) w' => K u w') := by
  obtain ⟨u, w', hr, hu, f, uf⟩ := append_bytes hx hy.rd hl
  exact ⟨u, w', hr, k u w' hu f uf⟩

theorem number11_spec (n : Int) (w : World) : Ret Tryz.prog 35 #[.int .i64 n] w fun r w' => ∃ u : Sl, r = .slice u.1 u.2.1 u.2.2 ∧ IsB w' u (numL n) ∧ Fr none1 w w' ∧ ∀ k, blkOf u k → w.heap.size ≤ k := by
  refine c35 n w _ ?_
  unfold C35
  obtain ⟨M, hM⟩ : ∃ M : Nat, M = (n % 18446744073709551616).toNat := ⟨_, rfl⟩
  have hMn : IntKind.u64.wrap n = (M : Int) := by rw [wrapU]; omega
  have hnum : numL n = digs 8 M := by rw [hM]; rfl
  rw [hnum, hMn]
  refine LoopK.of (fun s w' => ∃ j : Nat, s.2.1 = 7 - (j : Int) ∧ j ≤ 8 ∧ IsB w' s.1 ((digs 8 M).take j) ∧ (∀ k, blkOf s.1 k → w.heap.size ≤ k) ∧ Fr none1 w w') (fun s _ => (s.2.1 + 1).toNat) ⟨0, rfl, by omega, .inl ⟨rfl, rfl⟩, (fun k ⟨a, ha, _⟩ => by cases ha), Fr.refl _ _⟩ ?_
  rintro _ ⟨v, i, _⟩ w1 ⟨j, hi, hj, hv, hvf, f1⟩
  dsimp only at hi hv hvf ⊢
  subst hi
  refine ifB.dec (fun hge => ?_) (fun hlt => ?_)
  rotate_left
  · have : j = 8 := by omega
    subst this
    rw [List.take_of_length_le (by rw [digs_len]; omega)] at hv
    exact ⟨v, rfl, hv, f1, hvf⟩
  have hj8 : j < 8 := by omega
  have e1 : IntKind.u64.wrap (IntKind.i64.wrap (8 * (7 - (j : Int)))) = ((8 * (7 - j) : Nat) : Int) := by
    rw [wI (x := 8 * (7 - (j : Int))) (by omega) (by omega), wrapU]; omega
  rw [e1]
  refine ⟨by omega, ?_⟩
  rw [Int.toNat_natCast, fdiv_nat M (8 * (7 - j)) (by omega), wrapB, show 2 ^ (8 * (7 - j)) = 256 ^ (7 - j) by rw [Nat.pow_mul]]
  have hb : Value.int .u8 ((M / 256 ^ (7 - j) % 256 : Nat) : Int) = bc (UInt8.ofNat (M / 256 ^ (7 - j) % 256)) := by
    unfold bc
    rw [u8_nat (Nat.mod_lt _ (by decide))]
  rw [hb]
  obtain ⟨x, w2, hr2, hx, hxl, f2, xf⟩ := lit_ok (P := Tryz.prog) (w := w1) elem_byte [bc (UInt8.ofNat (M / 256 ^ (7 - j) % 256))] (by simp [bc, Value.cells]) (by simp)
  refine ⟨x, w2, hr2, ?_⟩
  have hx0 : IsB w2 x [UInt8.ofNat (M / 256 ^ (7 - j) % 256)] := hx
  have s1 := f1.size; have s2 := f2.size
  refine app_some (IsB.keep0 hv f2) hx0 (by rw [List.length_take, digs_len]; simp only [List.length_singleton]; omega) fun u w3 hu f3 uf => ?_
  rw [wI (x := 7 - (j : Int) - 1) (by omega) (by omega)]
  refine ⟨⟨j + 1, by omega, by omega, ?_, fun k hk => ?_, (f1.trans f2).comp f3 (fun k hk t => by have := hvf k t; omega)⟩, by omega⟩
  · have hd := digs_at 8 M j hj8
    rw [List.take_add_one, hd]
    exact hu
  · rcases uf k hk with t | t
    · exact hvf k t
    · omega

theorem row11_spec (s : ByteArray) (hs : s.size ≤ 1000000) (w : World) : Ret Tryz.prog 65 #[.string s] w fun r w' => ∃ u : Sl, r = .slice u.1 u.2.1 u.2.2 ∧ IsB w' u (txtB s.data.toList) ∧ Fr none1 w w' ∧ ∀ k, blkOf u k → w.heap.size ≤ k := by
  refine c65 s w _ ?_
  unfold C65
  rw [wrapB_bc]
  refine rowText_ok (w := w) [UInt8.ofNat (s.size % 256)] (by simp) s hs fun u w2 hu f2 uf => ?_
  refine ⟨u, rfl, ?_, f2, uf⟩
  unfold txtB
  rw [show s.data.toList.length = s.size from rfl]
  exact hu

theorem rowK (s : ByteArray) (hs : s.size ≤ 1000000) (w : World) {K : (Option Addr × Nat × Nat) → World → Prop} (h : ∀ u w', IsB w' u (txtB s.data.toList) → Fr none1 w w' → (∀ k, blkOf u k → w.heap.size ≤ k) → K u w') : CallK Tryz.prog 65 #[.string s] w (.v (.one .slc)) (fun (x : Option Addr × Nat × Nat) w' => K x w') := by
  refine CallK.of (row11_spec s hs w) ?_
  rintro _ w1 ⟨u, rfl, hu, f1, uf⟩
  exact ⟨u, rfl, h u w1 hu f1 uf⟩
theorem numK11 (n : Int) (w : World) {K : (Option Addr × Nat × Nat) → World → Prop} (h : ∀ u w', IsB w' u (numL n) → Fr none1 w w' → (∀ k, blkOf u k → w.heap.size ≤ k) → K u w') : CallK Tryz.prog 35 #[.int .i64 n] w (.v (.one .slc)) (fun (x : Option Addr × Nat × Nat) w' => K x w') := by
  refine CallK.of (number11_spec n w) ?_
  rintro _ w1 ⟨u, rfl, hu, f1, uf⟩
  exact ⟨u, rfl, h u w1 hu f1 uf⟩

theorem pack11_spec (e : EvT) (t : Tm) (he : e.2.2.2.2.2.2.2.1 = t.v) (hz : smallE e) (hn : nodesT t ≤ 30000) (hsh : shortT t) (hts : (writeT t).1.length ≤ 1000000) {w : World} {S : Nat → Prop} {v : TV} (h : IsTr w S (trT t) v) (hS : ∀ k, S k → k < w.heap.size) :
    Ret Tryz.prog 36 #[evRA (evR e v)] w fun r w' => ∃ u : Sl, r = .tuple #[.slice u.1 u.2.1 u.2.2, .int .i64 (packF e (writeT t).1 (writeT t).2).2] ∧ IsB w' u (packF e (writeT t).1 (writeT t).2).1 ∧ Fr none1 w w' ∧ ∀ k, blkOf u k → w.heap.size ≤ k := by
  refine c36 (evR e v) w _ ?_
  unfold C36
  refine NewK.of fun g w1 hg hb f1 _ => ?_
  refine LdsK.blk (cks := [.int .i64, .str, .str, .str, .str, .int .i64, .int .i64, .int .i64, .str, .int .i64, .slc]) (x := evR e v) hb ?_
  refine CallK.of (check11_spec e t he hz hn hsh (h.keep0 f1) (fun k hk => by have := hS k hk; have := f1.size; omega)) ?_
  rintro _ w2 ⟨rfl, f2⟩
  refine ⟨_, rfl, ?_⟩
  have f12 := f1.trans f2
  have hb2 := f2.keep0 hb
  unfold packF
  refine ifB.ne (fun hne => ?_) (fun heq => ?_)
  · rw [if_pos hne]
    exact ⟨(none, 0, 0), rfl, .inl ⟨rfl, rfl⟩, f12, fun k ⟨a, ha, _⟩ => by cases ha⟩
  rw [if_neg (fun t => t heq)]
  refine LdK.fld hb2 (x := e.1) rfl ?_
  have hkB : Value.int .u8 (IntKind.u8.wrap e.1) = bc (UInt8.ofNat (e.1 % 256).toNat) := by
    unfold bc
    rw [u8_nat (by omega)]
    congr 1
    simp [IntKind.wrap, IntKind.signed, IntKind.bits]
    omega
  rw [hkB]
  obtain ⟨x, w3, hr3, hx, hxl, f3, xf⟩ := lit_ok (P := Tryz.prog) (w := w2) elem_byte [bc (UInt8.ofNat (e.1 % 256).toNat)] (by simp [bc, Value.cells]) (by simp)
  refine ⟨x, w3, hr3, ?_⟩
  have hx0 : IsB w3 x [UInt8.ofNat (e.1 % 256).toNat] := hx
  obtain ⟨y, w4, hr4, hy, hyl, f4, yf⟩ := lit_ok (P := Tryz.prog) (w := w3) elem_byte (ordL.map bc) (by intro v hv; obtain ⟨x, _, rfl⟩ := List.mem_map.1 hv; rfl) (by decide)
  refine ⟨y, w4, hr4, ?_⟩
  have hy0 : IsB w4 y ordL := hy
  have s12 := f12.size
  have s3 := f3.size
  have s4 := f4.size
  have hysome : y.1.isSome = true := by
    rcases hy0 with ⟨hh, _⟩ | ⟨g', off, cs, hv', _⟩
    · rw [hh] at hyl; exact absurd hyl (by decide)
    · rw [hv']; rfl
  obtain ⟨w5, hr5, hy5, f5⟩ := conv_ok (P := Tryz.prog) Tryz.underlying22 Tryz.underlying5 hy0 hysome
  refine ⟨y, w5, hr5, ?_⟩
  have hyr : RdB w5 y ordL := hy5
  have s5 := f5.size
  have f25 : Fr none1 w2 w5 := (f3.trans f4).comp f5 (fun k hk t => by have := yf k t; omega)
  have hb5 := f25.keep0 hb2
  have f15 := f12.trans f25
  have hyold : ∀ k, blkOf y k → k < w4.heap.size := fun k hk => IsSl.lt hy0 hk
  have ylt : ∀ k, blkOf y k → k < w5.heap.size := fun k hk => by have := IsSl.lt hy0 hk; omega
  have hx5 : IsB w5 x [UInt8.ofNat (e.1 % 256).toNat] := IsB.keep (IsB.keep0 hx0 f4) f5 (fun k hk t => by have := yf k t; have := IsSl.lt hx0 hk; omega)
  have hyl7 : y.2.1 = 7 := hyl
  have htr : hasF e.1 84 = true → (writeT t).2 = 0 := fun h84 => by
    have h2 : e.1 = 2 := by
      unfold hasF fieldsF at h84
      by_cases h2 : e.1 = 2
      · exact h2
      · rw [if_neg h2] at h84
        repeat' split at h84
        all_goals exact absurd h84 (by decide)
    unfold checkF at heq
    rw [h2] at heq
    repeat' split at heq
    all_goals first | exact heq | (exact absurd heq (by decide)) | (rename_i hx; exact absurd rfl hx)
  refine LoopK.of (fun s w' => ∃ i : Nat, s.2.1 = i ∧ i ≤ 7 ∧ IsB w' s.1 (UInt8.ofNat (e.1 % 256).toNat :: ((ordL.take i).filter (hasF e.1)).flatMap (fieldB e (writeT t).1)) ∧ (∀ k, blkOf s.1 k → w2.heap.size ≤ k ∧ ¬ blkOf y k) ∧ RdB w' y ordL ∧ Fr none1 w2 w' ∧ w5.heap.size ≤ w'.heap.size)
    (fun s _ => (7 - s.2.1).toNat) ⟨0, rfl, by omega, hx5, fun k hk => ⟨xf k hk, fun t => by have := yf k t; have := IsSl.lt hx0 hk; omega⟩, hyr, f25, Nat.le_refl _⟩ ?_
  rintro _ ⟨u, i', _⟩ w6 ⟨i, hi, hil, hu, huf, hy6, f6, hs56⟩
  dsimp only at hi hu huf ⊢
  subst hi
  refine ifB.dec (fun hlt => ?_) (fun hge => ?_)
  rotate_left
  · have : i = 7 := by omega
    subst this
    have hfl : (ordL.take 7).filter (hasF e.1) = fieldL e.1 := rfl
    rw [hfl] at hu
    exact ⟨u, rfl, hu, f12.trans f6, fun k hk => by have := (huf k hk).1; omega⟩
  have hi7 : i < 7 := by omega
  refine RdB.at hy6 (i := (i : Int)) (by omega) hlt ?_
  rw [Int.toNat_natCast]
  obtain ⟨c, hc⟩ : ∃ c, ordL[i]? = some c := ⟨_, List.getElem?_eq_getElem (by show i < 7; exact hi7)⟩
  have hcv : ordL.getD i 0 = c := by rw [List.getD_eq_getElem?_getD, hc]; rfl
  rw [hcv]
  have hb6 := f6.keep0 hb2
  refine LdK.fld hb6 (x := e.1) rfl ?_
  refine CallK.of (fields11_spec e.1 w6) ?_
  rintro _ _ ⟨rfl, rfl⟩
  refine ⟨_, rfl, ?_⟩
  refine hasK e.1 c w6 ?_
  have hstep : ((ordL.take (i + 1)).filter (hasF e.1)).flatMap (fieldB e (writeT t).1) = ((ordL.take i).filter (hasF e.1)).flatMap (fieldB e (writeT t).1) ++ (if hasF e.1 c = true then fieldB e (writeT t).1 c else []) := by
    rw [List.take_add_one, hc, List.filter_append, List.flatMap_append]
    by_cases hh : hasF e.1 c = true
    · simp [hh]
    · simp [hh]
  have hwi : IntKind.i64.wrap ((i : Int) + 1) = ((i + 1 : Nat) : Int) := by rw [wI (x := (i : Int) + 1) (by omega) (by omega)]; rfl
  rw [hwi]
  refine ifB.not (ifB.by (fun hh => ?_) (fun hh => ?_))
  rotate_left
  · rw [if_neg (by rw [hh]; decide), List.append_nil] at hstep
    exact ⟨⟨i + 1, rfl, by omega, by rw [hstep]; exact hu, huf, hy6, f6, hs56⟩, by omega⟩
  rw [if_pos hh] at hstep
  have hbound : ∀ l : List UInt8, (l.flatMap (fieldB e (writeT t).1)).length ≤ l.length * 1000010 := by
    intro l
    induction l with
    | nil => simp
    | cons a l ih => rw [List.flatMap_cons, List.length_append, List.length_cons]; have := fieldB_len e hz (writeT t).1 hts a; omega
  have hb1' := hbound ((ordL.take i).filter (hasF e.1))
  have hb2' := fieldB_len e hz (writeT t).1 hts c
  have ht7 : ((ordL.take i).filter (hasF e.1)).length ≤ 7 := by have := List.length_filter_le (hasF e.1) (ordL.take i); rw [List.length_take] at this; omega
  have s6 := f6.size
  -- the field's bytes put behind
  have go : ∀ (wa : World) (q : Sl), IsB wa q (fieldB e (writeT t).1 c) → Fr none1 w6 wa → RunK Tryz.prog (Builtin.append_ #[22, 22] 22 #[.slice u.1 u.2.1 u.2.2, .slice q.1 q.2.1 q.2.2]) wa (.v (.one .slc)) (fun (x26 : Option Addr × Nat × Nat) w27 =>
      (∃ j : Nat, ((i + 1 : Nat) : Int) = j ∧ j ≤ 7 ∧ IsB w27 (x26.1, x26.2.1, x26.2.2) (UInt8.ofNat (e.1 % 256).toNat :: ((ordL.take j).filter (hasF e.1)).flatMap (fieldB e (writeT t).1)) ∧ (∀ k, blkOf (x26.1, x26.2.1, x26.2.2) k → w2.heap.size ≤ k ∧ ¬ blkOf y k) ∧ RdB w27 y ordL ∧ Fr none1 w2 w27 ∧ w5.heap.size ≤ w27.heap.size) ∧ (7 - ((i + 1 : Nat) : Int)).toNat < (7 - (i : Int)).toNat) := by
    intro wa q hq fa
    refine app_some (IsB.keep0 hu fa) hq (by simp only [List.length_cons]; omega) fun z w7 hz7 f7 zf => ?_
    have sa := fa.size
    refine ⟨⟨i + 1, rfl, by omega, by rw [hstep, ← List.cons_append]; exact hz7, fun k hk => ?_, RdB.keep (RdB.keep0 hy6 fa) f7 (fun k hk t => (huf k t).2 hk), (f6.trans fa).comp f7 (fun k hk t => by have := (huf k t).1; omega), by have := f7.size; omega⟩, by omega⟩
    rcases zf k hk with t | t
    · exact huf k t
    · exact ⟨by omega, fun q => by have := IsSl.lt hy0 q; have := s5; have := hyold k q; omega⟩
  have eqc : ∀ d : UInt8, (c.toNat : Int) = (d.toNat : Int) → c = d := fun d h => UInt8.toNat_inj.1 (by omega)
  refine ifB.eq (fun q => ?_) (fun n73 => ?_)
  · have hc' := eqc 73 q
    exact LdK.fld hb6 (x := e.2.1) rfl (rowK _ hz.1 w6 fun q w7 hq f7 _ => go w7 q (by rw [hc']; exact hq) f7)
  refine ifB.eq (fun q => ?_) (fun n78 => ?_)
  · have hc' := eqc 78 q
    exact LdK.fld hb6 (x := e.2.2.1) rfl (rowK _ hz.2.1 w6 fun q w7 hq f7 _ => go w7 q (by rw [hc']; exact hq) f7)
  refine ifB.eq (fun q => ?_) (fun n76 => ?_)
  · have hc' := eqc 76 q
    exact LdK.fld hb6 (x := e.2.2.2.1) rfl (rowK _ hz.2.2.1 w6 fun q w7 hq f7 _ => go w7 q (by rw [hc']; exact hq) f7)
  refine ifB.eq (fun q => ?_) (fun n67 => ?_)
  · have hc' := eqc 67 q
    exact LdK.fld hb6 (x := e.2.2.2.2.1) rfl (rowK _ hz.2.2.2 w6 fun q w7 hq f7 _ => go w7 q (by rw [hc']; exact hq) f7)
  refine ifB.eq (fun q => ?_) (fun n68 => ?_)
  · have hc' := eqc 68 q
    exact LdK.fld hb6 (x := e.2.2.2.2.2.1) rfl (numK11 _ w6 fun q w7 hq f7 _ => go w7 q (by rw [hc']; exact hq) f7)
  refine ifB.eq (fun q => ?_) (fun n86 => ?_)
  · have hc' := eqc 86 q
    exact LdK.fld hb6 (x := e.2.2.2.2.2.2.1) rfl (numK11 _ w6 fun q w7 hq f7 _ => go w7 q (by rw [hc']; exact hq) f7)
  have h84 : c = 84 := by
    have hmem : c ∈ ordL := List.mem_of_getElem? hc
    simp only [ordL, List.mem_cons, List.not_mem_nil, or_false] at hmem
    rcases hmem with q | q | q | q | q | q | q
    · exact (n73 (by rw [q]; rfl)).elim
    · exact (n78 (by rw [q]; rfl)).elim
    · exact (n76 (by rw [q]; rfl)).elim
    · exact (n67 (by rw [q]; rfl)).elim
    · exact (n68 (by rw [q]; rfl)).elim
    · exact (n86 (by rw [q]; rfl)).elim
    · exact q
  have he84 : (writeT t).2 = 0 := htr (by rw [← h84]; exact hh)
  have tv : ∀ {K : TV → Prop}, K v → LdsK TVK ((⟨g, 0, none⟩ : Addr).add 7) w6 K := fun {K} k => ⟨v, cellsAt_shift (m := 7) _ 0 (cellsAt_all hb6 (Cs.vals TVK v) 7 fun j hj => (by
    match j, hj with
    | 0, _ => rfl
    | 1, _ => rfl
    | 2, _ => rfl
    | 3, _ => rfl
    | j + 4, h => exact absurd h (by show ¬ j + 4 < 4; omega))), k⟩
  refine tv ?_
  have hcn := cnt_trT t
  have hln := len_trT t hsh
  have f06 := f12.trans f6
  refine CallK.of (rwrite_spec (trT t) false (by omega) (short_trT t hsh) (by omega) (h.keep0 f06) (fun k hk => by have := hS k hk; have := f06.size; omega)) ?_
  rintro _ w7 ⟨rfl, f7⟩
  rw [writeR_trT]
  refine ⟨(str (writeT t).1, (writeT t).2, ()), rfl, ?_⟩
  dsimp only
  rw [he84]
  refine ifB.f rfl ⟨by decide, ?_⟩
  have es : ((str (writeT t).1).size : Int) = ((writeT t).1.length : Int) := by rw [str_size]
  rw [es, show Int.toNat 8 = 8 from rfl, fdiv_nat (writeT t).1.length 8 (by omega), wrapB_bc, wrapB_bc]
  obtain ⟨x2, w8, hr8, hx2, hxl2, f8, xf2⟩ := lit_ok (P := Tryz.prog) (w := w7) elem_byte [bc (UInt8.ofNat ((writeT t).1.length / 2 ^ 8 % 256)), bc (UInt8.ofNat ((writeT t).1.length % 256))] (by simp [bc, Value.cells]) (by simp)
  refine ⟨x2, w8, hr8, ?_⟩
  have hx20 : IsB w8 x2 [UInt8.ofNat ((writeT t).1.length / 2 ^ 8 % 256), UInt8.ofNat ((writeT t).1.length % 256)] := hx2
  have s7 := f7.size; have s8 := f8.size
  refine app_some (IsB.keep0 hu (f7.trans f8)) hx20 (by simp only [List.length_cons, List.length_nil]; omega) fun z w9 hz9 f9 zf => ?_
  have s9 := f9.size
  have hul := hz9.len
  obtain ⟨q, w10, hr10, hq, _, f10, qf⟩ := append_text elem_byte 22 Tryz.underlying9 hz9 (str (writeT t).1) (by rw [hul, str_size]; simp only [List.length_append, List.length_cons, List.length_nil]; omega)
  have zof : ∀ k, blkOf z k → w2.heap.size ≤ k ∧ ¬ blkOf y k := fun k hk => (zf k hk).elim (huf k) fun t => ⟨by omega, fun q => by have := hyold k q; omega⟩
  refine ⟨q, w10, hr10, ⟨i + 1, rfl, by omega, ?_, fun k hk => ?_, RdB.keep (RdB.keep (RdB.keep0 hy6 (f7.trans f8)) f9 (fun k hk t => (huf k t).2 hk)) f10 (fun k hk t => (zof k t).2 hk), ((f6.trans (f7.trans f8)).comp f9 (fun k hk t => by have := (huf k t).1; omega)).comp f10 (fun k hk t => by have := (zof k t).1; omega), by have := f10.size; omega⟩, by omega⟩
  · rw [hstep]
    have hF : fieldB e (writeT t).1 c = [UInt8.ofNat ((writeT t).1.length / 2 ^ 8 % 256), UInt8.ofNat ((writeT t).1.length % 256)] ++ (writeT t).1 := by rw [h84]; rfl
    rw [hF, ← List.cons_append, ← List.append_assoc]
    unfold IsB
    rw [List.map_append, ← str_list (writeT t).1]
    simp only [str_list] at hq ⊢
    exact hq
  · rcases qf k hk with t | t
    · exact zof k t
    · exact ⟨by omega, fun q => by have := hyold k q; omega⟩

end Go.Proofs.YtdphmcanlhcokaaGreatDoor

/-! ### RefReadF -/
set_option linter.unusedVariables false
set_option maxRecDepth 100000
namespace Go.Proofs.YtdphmcanlhcokaaGreatDoor
open Vc

/-! ### The document's reader -/

/-! ### Kinds -/

/-! ### Behind an error -/

/-! ### Parts -/
section
variable {fin : Int} {rec : Bool → RS → Tr × RS} (hr : ∀ b s, s.e ≠ 0 → (rec b s).2 = s)
include hr
omit hr in
omit hr in
omit hr in
end

/-! ### What went before went well -/
section
variable {fin : Int} {rec : Bool → RS → Tr × RS} (hr : ∀ b s, s.e ≠ 0 → (rec b s).2 = s)
include hr
end

/-! ### The same as the program's -/

/-! ### The document reads as the program does -/

/-! ### How much is in a tree that was read -/

end Go.Proofs.YtdphmcanlhcokaaGreatDoor

/-! ### CRefSg -/
namespace Go.Proofs.YtdphmcanlhcokaaGreatDoor
open Vc
set_option maxRecDepth 100000
set_option linter.unusedVariables false

end Go.Proofs.YtdphmcanlhcokaaGreatDoor

/-! ### RTellSpec -/
set_option linter.unusedVariables false
set_option maxRecDepth 100000
namespace Go.Proofs.YtdphmcanlhcokaaGreatDoor
open Vc

/-! ### The document's signs -/

end Go.Proofs.YtdphmcanlhcokaaGreatDoor

/-! ### CRefRd -/
namespace Go.Proofs.YtdphmcanlhcokaaGreatDoor
open Vc
set_option maxRecDepth 100000
set_option linter.unusedVariables false

end Go.Proofs.YtdphmcanlhcokaaGreatDoor

/-! ### RefReadSpec -/
set_option linter.unusedVariables false
set_option maxRecDepth 100000
namespace Go.Proofs.YtdphmcanlhcokaaGreatDoor
open Vc

/-! ### Steps, plain -/

/-! ### The reader -/

end Go.Proofs.YtdphmcanlhcokaaGreatDoor

/-! ### RefReadSpec2 -/
set_option linter.unusedVariables false
set_option maxRecDepth 100000
namespace Go.Proofs.YtdphmcanlhcokaaGreatDoor
open Vc

/-! ### How many parts a kind has -/

/-! ### Trees -/

end Go.Proofs.YtdphmcanlhcokaaGreatDoor

/-! ### RefReadSpec3 -/
set_option linter.unusedVariables false
set_option maxRecDepth 100000
namespace Go.Proofs.YtdphmcanlhcokaaGreatDoor
open Vc

/-! ### What was read is small -/

/-! ### Same trees -/

end Go.Proofs.YtdphmcanlhcokaaGreatDoor

/-! ### CRef11T -/
namespace Go.Proofs.YtdphmcanlhcokaaGreatDoor
open Vc
set_option maxRecDepth 100000
set_option linter.unusedVariables false

end Go.Proofs.YtdphmcanlhcokaaGreatDoor

/-! ### TakeSpec2 -/
set_option linter.unusedVariables false
set_option maxRecDepth 100000
namespace Go.Proofs.YtdphmcanlhcokaaGreatDoor
open Vc

/-! ### The trees that are read are small -/

/-! ### The document's taker -/

end Go.Proofs.YtdphmcanlhcokaaGreatDoor

/-! ### TakeSpec3 -/
set_option linter.unusedVariables false
set_option maxRecDepth 100000
namespace Go.Proofs.YtdphmcanlhcokaaGreatDoor
open Vc

namespace Vc
theorem IdxK.ink {base : Option Addr} {len : Nat} {i : Int} {size : Nat} {K : Addr → Prop} {S : Nat → Prop} (hS : ∀ a, base = some a → S a.block) (h : IdxK base len i size K) : IdxK base len i size fun p => InK S p (K p) := by
  obtain ⟨a, ha, h0, h1, k⟩ := h.out
  exact ⟨a, ha, h0, h1, ⟨by rw [add_block]; exact hS a ha, k⟩⟩
theorem KeepK.same {S : Nat → Prop} {w : World} {K : Prop} (k : K) : KeepK S w w K := KeepK.of (Fr.refl _ _) k
end Vc

end Go.Proofs.YtdphmcanlhcokaaGreatDoor

/-! ### TakeSpec4 -/
set_option linter.unusedVariables false
set_option maxRecDepth 100000
namespace Go.Proofs.YtdphmcanlhcokaaGreatDoor
open Vc

/-! ### The document's entry of bytes -/

/-! ### The document's events compared -/

end Go.Proofs.YtdphmcanlhcokaaGreatDoor

/-! ### CSipG -/
namespace Go.Proofs.YtdphmcanlhcokaaGreatDoor
open Vc
set_option maxRecDepth 100000
set_option linter.unusedVariables false
/-- math/bits.RotateLeft64 -/
def C108 (p0 : Int) (p1 : Int) (w : World) (K : Value → World → Prop) : Prop :=
  NnK (IntKind.u64.wrap ((BitVec.ofInt 64 (IntKind.u64.wrap p1) &&& BitVec.ofInt 64 63).toNat : Int)) (NnK (IntKind.u64.wrap (64 - (IntKind.u64.wrap ((BitVec.ofInt 64 (IntKind.u64.wrap p1) &&& BitVec.ofInt 64 63).toNat : Int)))) (K (.int .u64 (IntKind.u64.wrap ((BitVec.ofInt 64 (IntKind.u64.wrap (p0 * 2 ^ (min (Int.toNat (IntKind.u64.wrap ((BitVec.ofInt 64 (IntKind.u64.wrap p1) &&& BitVec.ofInt 64 63).toNat : Int))) 64))) ||| BitVec.ofInt 64 (Int.fdiv p0 (2 ^ (min (Int.toNat (IntKind.u64.wrap (64 - (IntKind.u64.wrap ((BitVec.ofInt 64 (IntKind.u64.wrap p1) &&& BitVec.ofInt 64 63).toNat : Int))))) 64)))).toNat : Int))) w))
def pl108 : Plan := .auto
theorem e108 (p0 : Int) (p1 : Int) (w : World) (K : Value → World → Prop) : vcFunc Tryz.prog Tryz.f108 pl108 [.int .u64 p0, .int .i64 p1] w K = C108 p0 p1 w K := by kernel_rfl
theorem c108 (p0 : Int) (p1 : Int) (w : World) (K : Value → World → Prop) (h : C108 p0 p1 w K) : Ret Tryz.prog 108 #[.int .u64 p0, .int .i64 p1] w K := by
  rw [← e108] at h
  exact vcFunc_sound (by kernel_rfl) Tryz.func108 h

/-- (*handfast/sip.state).round -/
def C78 (p0 : Addr) (w : World) (K : Value → World → Prop) : Prop :=
  DrewK w (fun w1 => LdK (.int .u64) (p0.add 0) w1 (fun (x2 : Int) => LdK (.int .u64) (p0.add 1) w1 (fun (x3 : Int) => StK (p0.add 0) (.int .u64 (IntKind.u64.wrap (x2 + x3))) w1 (fun w4 => DrewK w4 (fun w5 => HoldK (fun S6 => InK S6 (p0.add 1) (LdK (.int .u64) (p0.add 1) w5 (fun (x7 : Int) => InK S6 (p0.add 0) (LdK (.int .u64) (p0.add 0) w5 (fun (x8 : Int) => CallK Tryz.prog 108 #[.int .u64 x7, .int .i64 13] w5 (.v (.one (.int .u64))) (fun (x9 : Int) w10 => KeepK S6 w5 w10 (StK (p0.add 1) (.int .u64 (IntKind.u64.wrap ((BitVec.ofInt 64 x9 ^^^ BitVec.ofInt 64 x8).toNat : Int))) w10 (fun w11 => LdK (.int .u64) (p0.add 0) w11 (fun (x12 : Int) => CallK Tryz.prog 108 #[.int .u64 x12, .int .i64 32] w11 (.v (.one (.int .u64))) (fun (x13 : Int) w14 => StK (p0.add 0) (.int .u64 x13) w14 (fun w15 => DrewK w15 (fun w16 => LdK (.int .u64) (p0.add 2) w16 (fun (x17 : Int) => LdK (.int .u64) (p0.add 3) w16 (fun (x18 : Int) => StK (p0.add 2) (.int .u64 (IntKind.u64.wrap (x17 + x18))) w16 (fun w19 => DrewK w19 (fun w20 => HoldK (fun S21 => InK S21 (p0.add 3) (LdK (.int .u64) (p0.add 3) w20 (fun (x22 : Int) => InK S21 (p0.add 2) (LdK (.int .u64) (p0.add 2) w20 (fun (x23 : Int) => CallK Tryz.prog 108 #[.int .u64 x22, .int .i64 16] w20 (.v (.one (.int .u64))) (fun (x24 : Int) w25 => KeepK S21 w20 w25 (StK (p0.add 3) (.int .u64 (IntKind.u64.wrap ((BitVec.ofInt 64 x24 ^^^ BitVec.ofInt 64 x23).toNat : Int))) w25 (fun w26 => DrewK w26 (fun w27 => LdK (.int .u64) (p0.add 0) w27 (fun (x28 : Int) => LdK (.int .u64) (p0.add 3) w27 (fun (x29 : Int) => StK (p0.add 0) (.int .u64 (IntKind.u64.wrap (x28 + x29))) w27 (fun w30 => DrewK w30 (fun w31 => HoldK (fun S32 => InK S32 (p0.add 3) (LdK (.int .u64) (p0.add 3) w31 (fun (x33 : Int) => InK S32 (p0.add 0) (LdK (.int .u64) (p0.add 0) w31 (fun (x34 : Int) => CallK Tryz.prog 108 #[.int .u64 x33, .int .i64 21] w31 (.v (.one (.int .u64))) (fun (x35 : Int) w36 => KeepK S32 w31 w36 (StK (p0.add 3) (.int .u64 (IntKind.u64.wrap ((BitVec.ofInt 64 x35 ^^^ BitVec.ofInt 64 x34).toNat : Int))) w36 (fun w37 => DrewK w37 (fun w38 => LdK (.int .u64) (p0.add 2) w38 (fun (x39 : Int) => LdK (.int .u64) (p0.add 1) w38 (fun (x40 : Int) => StK (p0.add 2) (.int .u64 (IntKind.u64.wrap (x39 + x40))) w38 (fun w41 => DrewK w41 (fun w42 => HoldK (fun S43 => InK S43 (p0.add 1) (LdK (.int .u64) (p0.add 1) w42 (fun (x44 : Int) => InK S43 (p0.add 2) (LdK (.int .u64) (p0.add 2) w42 (fun (x45 : Int) => CallK Tryz.prog 108 #[.int .u64 x44, .int .i64 17] w42 (.v (.one (.int .u64))) (fun (x46 : Int) w47 => KeepK S43 w42 w47 (StK (p0.add 1) (.int .u64 (IntKind.u64.wrap ((BitVec.ofInt 64 x46 ^^^ BitVec.ofInt 64 x45).toNat : Int))) w47 (fun w48 => LdK (.int .u64) (p0.add 2) w48 (fun (x49 : Int) => CallK Tryz.prog 108 #[.int .u64 x49, .int .i64 32] w48 (.v (.one (.int .u64))) (fun (x50 : Int) w51 => StK (p0.add 2) (.int .u64 x50) w51 (fun w52 => K (.tuple #[]) w52))))))))))))))))))))))))))))))))))))))))))))))))))))))))))
def pl78 : Plan := (.seq (.tail 11) (.seq (.held (.soft 0 (.soft 1 (.soft 2 (.soft 3 (.soft 4 (.soft 6 (.soft 7 (.soft 8 (.soft 9 (.pick 5 (.soft 10 (.soft 11 (.soft 12 (.last 13 .done)))) .stop))))))))))) (.seq .auto (.seq (.tail 11) (.seq (.held (.soft 0 (.soft 1 (.soft 2 (.soft 3 (.soft 4 (.soft 6 (.soft 7 (.soft 8 (.soft 9 (.pick 5 (.soft 10 (.soft 11 (.soft 12 (.last 13 .done)))) .stop))))))))))) (.seq (.tail 11) (.seq (.held (.soft 0 (.soft 1 (.soft 2 (.soft 3 (.soft 4 (.soft 6 (.soft 7 (.soft 8 (.soft 9 (.pick 5 (.soft 10 (.soft 11 (.soft 12 (.last 13 .done)))) .stop))))))))))) (.seq (.tail 11) (.seq (.held (.soft 0 (.soft 1 (.soft 2 (.soft 3 (.soft 4 (.soft 6 (.soft 7 (.soft 8 (.soft 9 (.pick 5 (.soft 10 (.soft 11 (.soft 12 (.last 13 .done)))) .stop))))))))))) .auto)))))))))
theorem e78 (p0 : Addr) (w : World) (K : Value → World → Prop) : vcFunc Tryz.prog Tryz.f78 pl78 [.pointer (some p0)] w K = C78 p0 w K := by kernel_rfl
theorem c78 (p0 : Addr) (w : World) (K : Value → World → Prop) (h : C78 p0 w K) : Ret Tryz.prog 78 #[.pointer (some p0)] w K := by
  rw [← e78] at h
  exact vcFunc_sound (by kernel_rfl) Tryz.func78 h

/-- (*handfast/sip.state).rounds -/
def C48 (p0 : Addr) (p1 : Int) (w : World) (K : Value → World → Prop) : Prop :=
  LoopK (Int × Unit) (fun _ s1 w2 next3 => ifB (decide (s1.1 < p1))
  (CallK Tryz.prog 78 #[.pointer (some p0)] w2 (.tup []) (fun (x4 : Unit) w5 => next3 (IntKind.i64.wrap (s1.1 + 1), ()) w5))
  (K (.tuple #[]) w2))
  (0, ()) w
def pl48 : Plan := (.seq .auto (.block (.loop [(5, .one (.int .i64))] .auto)))
theorem e48 (p0 : Addr) (p1 : Int) (w : World) (K : Value → World → Prop) : vcFunc Tryz.prog Tryz.f48 pl48 [.pointer (some p0), .int .i64 p1] w K = C48 p0 p1 w K := by kernel_rfl
theorem c48 (p0 : Addr) (p1 : Int) (w : World) (K : Value → World → Prop) (h : C48 p0 p1 w K) : Ret Tryz.prog 48 #[.pointer (some p0), .int .i64 p1] w K := by
  rw [← e48] at h
  exact vcFunc_sound (by kernel_rfl) Tryz.func48 h

/-- (*handfast/sip.state).take -/
def C47 (p0 : Addr) (p1 : Int) (w : World) (K : Value → World → Prop) : Prop :=
  LdK (.int .u64) (p0.add 3) w (fun (x1 : Int) => StK (p0.add 3) (.int .u64 (IntKind.u64.wrap ((BitVec.ofInt 64 x1 ^^^ BitVec.ofInt 64 p1).toNat : Int))) w (fun w2 => CallK Tryz.prog 48 #[.pointer (some p0), .int .i64 2] w2 (.tup []) (fun (x3 : Unit) w4 => LdK (.int .u64) (p0.add 0) w4 (fun (x5 : Int) => StK (p0.add 0) (.int .u64 (IntKind.u64.wrap ((BitVec.ofInt 64 x5 ^^^ BitVec.ofInt 64 p1).toNat : Int))) w4 (fun w6 => K (.tuple #[]) w6)))))
def pl47 : Plan := .auto
theorem e47 (p0 : Addr) (p1 : Int) (w : World) (K : Value → World → Prop) : vcFunc Tryz.prog Tryz.f47 pl47 [.pointer (some p0), .int .u64 p1] w K = C47 p0 p1 w K := by kernel_rfl
theorem c47 (p0 : Addr) (p1 : Int) (w : World) (K : Value → World → Prop) (h : C47 p0 p1 w K) : Ret Tryz.prog 47 #[.pointer (some p0), .int .u64 p1] w K := by
  rw [← e47] at h
  exact vcFunc_sound (by kernel_rfl) Tryz.func47 h

/-- handfast/sip.low -/
def C46 (p0 : Option Addr) (p0l p0c : Nat) (w : World) (K : Value → World → Prop) : Prop :=
  LoopK (Int × Int × Unit) (fun _ s1 w2 next3 => ifB (decide (s1.2.1 < (p0l : Int)))
  (IdxK p0 p0l s1.2.1 1 (fun a4 => LdK (.int .u8) a4 w2 (fun (x5 : Int) => NnK (IntKind.i64.wrap (8 * s1.2.1)) (next3 (IntKind.u64.wrap ((BitVec.ofInt 64 s1.1 ||| BitVec.ofInt 64 (IntKind.u64.wrap ((IntKind.u64.wrap x5) * 2 ^ (min (Int.toNat (IntKind.i64.wrap (8 * s1.2.1))) 64)))).toNat : Int), IntKind.i64.wrap (s1.2.1 + 1), ()) w2))))
  (K (.int .u64 s1.1) w2))
  (0, 0, ()) w
def pl46 : Plan := (.seq .auto (.seq .auto (.seq (.seq .auto (.block (.loop [(3, .one (.int .u64)), (8, .one (.int .i64))] .auto))) .auto)))
theorem e46 (p0 : Option Addr) (p0l p0c : Nat) (w : World) (K : Value → World → Prop) : vcFunc Tryz.prog Tryz.f46 pl46 [.slice p0 p0l p0c] w K = C46 p0 p0l p0c w K := by kernel_rfl
theorem c46 (p0 : Option Addr) (p0l p0c : Nat) (w : World) (K : Value → World → Prop) (h : C46 p0 p0l p0c w K) : Ret Tryz.prog 46 #[.slice p0 p0l p0c] w K := by
  rw [← e46] at h
  exact vcFunc_sound (by kernel_rfl) Tryz.func46 h

/-- handfast/sip.Sum -/
def C24 (p0 : List Value) (p1 : Option Addr) (p1l p1c : Nat) (w : World) (K : Value → World → Prop) : Prop :=
  NewK (.cells p0.toArray 33) w (fun g1 w2 => DrewK w2 (fun w3 => HoldK (fun S4 => SubK (some (ad g1)) 16 0 8 16 1 (fun a5 l6 c7 => SubK (some (ad g1)) 16 8 16 16 1 (fun a8 l9 c10 => CallK Tryz.prog 46 #[.slice a5 l6 c7] w3 (.v (.one (.int .u64))) (fun (x11 : Int) w12 => KeepK S4 w3 w12 (CallK Tryz.prog 46 #[.slice a8 l9 c10] w12 (.v (.one (.int .u64))) (fun (x13 : Int) w14 => KeepK S4 w12 w14 (NewK (.cells #[.int .u64 (IntKind.u64.wrap ((BitVec.ofInt 64 x11 ^^^ BitVec.ofInt 64 8317987319222330741).toNat : Int)), .int .u64 (IntKind.u64.wrap ((BitVec.ofInt 64 x13 ^^^ BitVec.ofInt 64 7237128888997146477).toNat : Int)), .int .u64 (IntKind.u64.wrap ((BitVec.ofInt 64 x11 ^^^ BitVec.ofInt 64 7816392313619706465).toNat : Int)), .int .u64 (IntKind.u64.wrap ((BitVec.ofInt 64 x13 ^^^ BitVec.ofInt 64 8387220255154660723).toNat : Int))] 95) w14 (fun g15 w16 => NzK 8 (LoopK (Int × Unit) (fun _ s17 w18 next19 => ifB (decide (s17.1 < (IntKind.i64.wrap ((IntKind.i64.wrap ((p1l : Int).tdiv 8)) * 8))))
  (SubK p1 p1c s17.1 (IntKind.i64.wrap (s17.1 + 8)) p1c 1 (fun a20 l21 c22 => CallK Tryz.prog 46 #[.slice a20 l21 c22] w18 (.v (.one (.int .u64))) (fun (x23 : Int) w24 => CallK Tryz.prog 47 #[.pointer (some (ad g15)), .int .u64 x23] w24 (.tup []) (fun (x25 : Unit) w26 => next19 (IntKind.i64.wrap (s17.1 + 8), ()) w26))))
  (SubK p1 p1c (IntKind.i64.wrap ((IntKind.i64.wrap ((p1l : Int).tdiv 8)) * 8)) p1l p1c 1 (fun a27 l28 c29 => CallK Tryz.prog 46 #[.slice a27 l28 c29] w18 (.v (.one (.int .u64))) (fun (x30 : Int) w31 => NnK 56 (CallK Tryz.prog 47 #[.pointer (some (ad g15)), .int .u64 (IntKind.u64.wrap ((BitVec.ofInt 64 x30 ||| BitVec.ofInt 64 (IntKind.u64.wrap ((IntKind.u64.wrap (p1l : Int)) * 2 ^ (min (Int.toNat 56) 64)))).toNat : Int))] w31 (.tup []) (fun (x32 : Unit) w33 => LdK (.int .u64) ((ad g15).add 2) w33 (fun (x34 : Int) => StK ((ad g15).add 2) (.int .u64 (IntKind.u64.wrap ((BitVec.ofInt 64 x34 ^^^ BitVec.ofInt 64 255).toNat : Int))) w33 (fun w35 => CallK Tryz.prog 48 #[.pointer (some (ad g15)), .int .i64 4] w35 (.tup []) (fun (x36 : Unit) w37 => DrewK w37 (fun w38 => LdK (.int .u64) ((ad g15).add 0) w38 (fun (x39 : Int) => LdK (.int .u64) ((ad g15).add 1) w38 (fun (x40 : Int) => LdK (.int .u64) ((ad g15).add 2) w38 (fun (x41 : Int) => LdK (.int .u64) ((ad g15).add 3) w38 (fun (x42 : Int) => K (.int .u64 (IntKind.u64.wrap ((BitVec.ofInt 64 (IntKind.u64.wrap ((BitVec.ofInt 64 (IntKind.u64.wrap ((BitVec.ofInt 64 x39 ^^^ BitVec.ofInt 64 x40).toNat : Int)) ^^^ BitVec.ofInt 64 x41).toNat : Int)) ^^^ BitVec.ofInt 64 x42).toNat : Int))) w38))))))))))))))
  (0, ()) w16)))))))))))
def pl24 : Plan := (.seq .auto (.seq (.held (.soft 0 (.soft 2 (.pick 1 (.pick 3 (.soft 4 (.soft 5 .done)) .stop) .stop)))) (.seq .auto (.seq .auto (.seq (.seq .auto (.block (.loop [(9, .one (.int .i64))] .auto))) (.seq .auto (.seq .auto (.seq .auto (.seq .still .auto)))))))))
theorem e24 (p0 : List Value) (p1 : Option Addr) (p1l p1c : Nat) (w : World) (K : Value → World → Prop) : vcFunc Tryz.prog Tryz.f24 pl24 [.agg p0.toArray, .slice p1 p1l p1c] w K = C24 p0 p1 p1l p1c w K := by kernel_rfl
theorem c24 (p0 : List Value) (p1 : Option Addr) (p1l p1c : Nat) (w : World) (K : Value → World → Prop) (h : C24 p0 p1 p1l p1c w K) : Ret Tryz.prog 24 #[.agg p0.toArray, .slice p1 p1l p1c] w K := by
  rw [← e24] at h
  exact vcFunc_sound (by kernel_rfl) Tryz.func24 h

/-- handfast/sip.Bytes -/
def C31 (p0 : Int) (w : World) (K : Value → World → Prop) : Prop :=
  RunK Tryz.prog (Instr.makeSlice 22 (.int .i64 8) (.int .i64 8)) w (.v (.one .slc)) (fun (x1 : SlT) w2 => LoopK (Int × Unit) (fun _ s3 w4 next5 => ifB (decide (s3.1 < (x1.2.1 : Int)))
  (NnK (IntKind.i64.wrap (8 * s3.1)) (IdxK x1.1 x1.2.1 s3.1 1 (fun a6 => StK a6 (.int .u8 (IntKind.u8.wrap (Int.fdiv p0 (2 ^ (min (Int.toNat (IntKind.i64.wrap (8 * s3.1))) 64))))) w4 (fun w7 => next5 (IntKind.i64.wrap (s3.1 + 1), ()) w7))))
  (K (.slice x1.1 x1.2.1 x1.2.2) w4))
  (0, ()) w2)
def pl31 : Plan := (.seq .auto (.seq .auto (.seq (.seq .auto (.block (.loop [(8, .one (.int .i64))] .auto))) .auto)))
theorem e31 (p0 : Int) (w : World) (K : Value → World → Prop) : vcFunc Tryz.prog Tryz.f31 pl31 [.int .u64 p0] w K = C31 p0 w K := by kernel_rfl
theorem c31 (p0 : Int) (w : World) (K : Value → World → Prop) (h : C31 p0 w K) : Ret Tryz.prog 31 #[.int .u64 p0] w K := by
  rw [← e31] at h
  exact vcFunc_sound (by kernel_rfl) Tryz.func31 h

/-- handfast/sip.Number -/
def C23 (p0 : Option Addr) (p0l p0c : Nat) (w : World) (K : Value → World → Prop) : Prop :=
  ifB ((p0l : Int) != 8)
  (K (.tuple #[.int .u64 0, .bool false]) w)
  (CallK Tryz.prog 46 #[.slice p0 p0l p0c] w (.v (.one (.int .u64))) (fun (x1 : Int) w2 => K (.tuple #[.int .u64 x1, .bool true]) w2))
def pl23 : Plan := .auto
theorem e23 (p0 : Option Addr) (p0l p0c : Nat) (w : World) (K : Value → World → Prop) : vcFunc Tryz.prog Tryz.f23 pl23 [.slice p0 p0l p0c] w K = C23 p0 p0l p0c w K := by kernel_rfl
theorem c23 (p0 : Option Addr) (p0l p0c : Nat) (w : World) (K : Value → World → Prop) (h : C23 p0 p0l p0c w K) : Ret Tryz.prog 23 #[.slice p0 p0l p0c] w K := by
  rw [← e23] at h
  exact vcFunc_sound (by kernel_rfl) Tryz.func23 h

/-- handfast/sip.Same -/
def C39 (p0 : Option Addr) (p0l p0c : Nat) (p1 : Option Addr) (p1l p1c : Nat) (w : World) (K : Value → World → Prop) : Prop :=
  CallK Tryz.prog 41 #[.slice p0 p0l p0c, .slice p1 p1l p1c] w (.v (.one .bool)) (fun (x1 : Bool) w2 => K (.bool x1) w2)
def pl39 : Plan := .auto
theorem e39 (p0 : Option Addr) (p0l p0c : Nat) (p1 : Option Addr) (p1l p1c : Nat) (w : World) (K : Value → World → Prop) : vcFunc Tryz.prog Tryz.f39 pl39 [.slice p0 p0l p0c, .slice p1 p1l p1c] w K = C39 p0 p0l p0c p1 p1l p1c w K := by kernel_rfl
theorem c39 (p0 : Option Addr) (p0l p0c : Nat) (p1 : Option Addr) (p1l p1c : Nat) (w : World) (K : Value → World → Prop) (h : C39 p0 p0l p0c p1 p1l p1c w K) : Ret Tryz.prog 39 #[.slice p0 p0l p0c, .slice p1 p1l p1c] w K := by
  rw [← e39] at h
  exact vcFunc_sound (by kernel_rfl) Tryz.func39 h

end Go.Proofs.YtdphmcanlhcokaaGreatDoor

/-! ### SipSpec -/
set_option linter.unusedVariables false
set_option maxRecDepth 100000
namespace Go.Proofs.YtdphmcanlhcokaaGreatDoor
open Vc

namespace Vc
theorem AixK.of {b n : Nat} {i : Int} {K : Addr → Prop} (h0 : 0 ≤ i) (h1 : i < n) (k : K ⟨b, i.toNat, none⟩) : AixK ⟨b, 0, none⟩ n i 1 K :=
  ⟨h0, h1, by rw [addr_add, Nat.zero_add, Nat.mul_one]; exact k⟩
theorem LdaK.of {w : World} {b n : Nat} {cs : List Value} {T : TypeId} {fr : Nat × Nat} (hb : w.heap[b]? = some (.cells cs.toArray T fr)) (hn : cs.length = n) {K : List Value → Prop} (k : K cs) : LdaK n ⟨b, 0, none⟩ w K :=
  ⟨cs, hn, cellsAt_all hb _ 0 fun j _ => by simp, k⟩
end Vc

def sipC (s : SipS) : Array Value := #[.int .u64 s.1, .int .u64 s.2.1, .int .u64 s.2.2.1, .int .u64 s.2.2.2]
def IsSt (w : World) (b : Nat) (s : SipS) : Prop := w.heap[b]? = some (.cells (sipC s) 95 (0, 0))

theorem rotl_spec (x k : Int) (hk : k = 13 ∨ k = 16 ∨ k = 17 ∨ k = 21 ∨ k = 32) (w : World) : Ret Tryz.prog 108 #[.int .u64 x, .int .i64 k] w fun r w' => r = .int .u64 (rotU x k.toNat) ∧ w = w' := by
  refine c108 x k w _ ?_
  unfold C108 rotU
  have e1 : IntKind.u64.wrap ((BitVec.ofInt 64 (IntKind.u64.wrap k) &&& BitVec.ofInt 64 63).toNat : Int) = k := by rcases hk with rfl | rfl | rfl | rfl | rfl <;> decide
  have e2 : IntKind.u64.wrap (64 - k) = 64 - k := by rcases hk with rfl | rfl | rfl | rfl | rfl <;> decide
  have e3 : Int.toNat (64 - k) = 64 - k.toNat := by rcases hk with rfl | rfl | rfl | rfl | rfl <;> decide
  rw [e1, e2, e3]
  exact ⟨by rcases hk with rfl | rfl | rfl | rfl | rfl <;> decide, by rcases hk with rfl | rfl | rfl | rfl | rfl <;> decide, rfl, rfl⟩

theorem rotK (x k : Int) (hk : k = 13 ∨ k = 16 ∨ k = 17 ∨ k = 21 ∨ k = 32) (w : World) {K : Int → World → Prop} (h : K (rotU x k.toNat) w) : CallK Tryz.prog 108 #[.int .u64 x, .int .i64 k] w (.v (.one (.int .u64))) (fun (y : Int) w' => K y w') := by
  refine CallK.of (rotl_spec x k hk w) ?_
  rintro _ _ ⟨rfl, rfl⟩
  exact ⟨_, rfl, h⟩

/-- A cell of the state read, written. -/
theorem IsSt.ld {w : World} {b : Nat} {s : SipS} (h : IsSt w b s) {o : Nat} {x : Int} (hx : (sipC s)[o]? = some (.int .u64 x)) {K : Int → Prop} (k : K x) : LdK (.int .u64) ((⟨b, 0, none⟩ : Addr).add o) w K := LdK.fld h (x := x) (by rw [Nat.zero_add]; exact hx) k
theorem IsSt.st {w : World} {b : Nat} {s s' : SipS} (h : IsSt w b s) {o : Nat} {x : Int} (ho : o < 4) (hs : (sipC s).setIfInBounds o (.int .u64 x) = sipC s') {K : World → Prop} (k : ∀ w1, IsSt w1 b s' → Fr (only b) w w1 → K w1) : StK ((⟨b, 0, none⟩ : Addr).add o) (.int .u64 x) w K :=
  StK.fld h (by show 0 + o < 4; omega) rfl fun w1 hb f _ => k w1 (by unfold IsSt; rw [hb, Nat.zero_add, hs]) f
theorem IsSt.keep0 {w w' : World} {b : Nat} {s : SipS} (h : IsSt w b s) (f : Fr none1 w w') : IsSt w' b s := f.keep0 h

theorem sround_spec {w : World} {b : Nat} {s : SipS} (h : IsSt w b s) : Ret Tryz.prog 78 #[.pointer (some ⟨b, 0, none⟩)] w fun r w' => r = .tuple #[] ∧ IsSt w' b (roundI s) ∧ Fr (only b) w w' := by
  refine c78 _ w _ ?_
  unfold C78
  obtain ⟨a0, a1, a2, a3⟩ := s
  refine DrewK.of fun w1 _ f1 => ?_
  have h := h.keep0 f1
  refine h.ld rfl (h.ld rfl (h.st (s' := (addU a0 a1, a1, a2, a3)) (by decide) rfl fun w2 h f2 => ?_))
  have F := (Fr.of0 f1 f2)
  refine DrewK.of fun w3 _ f3 => HoldK.all (InK.all (IsSt.ld (h.keep0 f3) rfl (InK.all (IsSt.ld (h.keep0 f3) rfl ?_))))
  have h := h.keep0 f3
  have F := F.then0 f3
  refine rotK _ 13 (by decide) _ (KeepK.same (h.st (s' := (addU a0 a1, xorU (rotU a1 13) (addU a0 a1), a2, a3)) (by decide) rfl fun w4 h f4 => ?_))
  have F := F.trans f4
  refine h.ld rfl (rotK _ 32 (by decide) _ (h.st (s' := (rotU (addU a0 a1) 32, xorU (rotU a1 13) (addU a0 a1), a2, a3)) (by decide) rfl fun w5 h f5 => ?_))
  have F := F.trans f5
  have e : roundI (a0, a1, a2, a3) = (addU (rotU (addU a0 a1) 32) (xorU (rotU a3 16) (addU a2 a3)), xorU (rotU (xorU (rotU a1 13) (addU a0 a1)) 17) (addU (addU a2 a3) (xorU (rotU a1 13) (addU a0 a1))), rotU (addU (addU a2 a3) (xorU (rotU a1 13) (addU a0 a1))) 32, xorU (rotU (xorU (rotU a3 16) (addU a2 a3)) 21) (addU (rotU (addU a0 a1) 32) (xorU (rotU a3 16) (addU a2 a3)))) := rfl
  rw [e]
  generalize xorU (rotU a1 13) (addU a0 a1) = b1 at *
  generalize rotU (addU a0 a1) 32 = b0 at *
  refine DrewK.of fun w6 _ f6 => ?_
  have h := h.keep0 f6
  have F := F.then0 f6
  refine h.ld rfl (h.ld rfl (h.st (s' := (b0, b1, addU a2 a3, a3)) (by decide) rfl fun w7 h f7 => ?_))
  have F := F.trans f7
  refine DrewK.of fun w8 _ f8 => HoldK.all (InK.all (IsSt.ld (h.keep0 f8) rfl (InK.all (IsSt.ld (h.keep0 f8) rfl ?_))))
  have h := h.keep0 f8
  have F := F.then0 f8
  refine rotK _ 16 (by decide) _ (KeepK.same (h.st (s' := (b0, b1, addU a2 a3, xorU (rotU a3 16) (addU a2 a3))) (by decide) rfl fun w9 h f9 => ?_))
  have F := F.trans f9
  generalize xorU (rotU a3 16) (addU a2 a3) = b3 at *
  generalize addU a2 a3 = b2 at *
  refine DrewK.of fun w10 _ f10 => ?_
  have h := h.keep0 f10
  have F := F.then0 f10
  refine h.ld rfl (h.ld rfl (h.st (s' := (addU b0 b3, b1, b2, b3)) (by decide) rfl fun w11 h f11 => ?_))
  have F := F.trans f11
  refine DrewK.of fun w12 _ f12 => HoldK.all (InK.all (IsSt.ld (h.keep0 f12) rfl (InK.all (IsSt.ld (h.keep0 f12) rfl ?_))))
  have h := h.keep0 f12
  have F := F.then0 f12
  refine rotK _ 21 (by decide) _ (KeepK.same (h.st (s' := (addU b0 b3, b1, b2, xorU (rotU b3 21) (addU b0 b3))) (by decide) rfl fun w13 h f13 => ?_))
  have F := F.trans f13
  generalize xorU (rotU b3 21) (addU b0 b3) = c3 at *
  generalize addU b0 b3 = c0 at *
  refine DrewK.of fun w14 _ f14 => ?_
  have h := h.keep0 f14
  have F := F.then0 f14
  refine h.ld rfl (h.ld rfl (h.st (s' := (c0, b1, addU b2 b1, c3)) (by decide) rfl fun w15 h f15 => ?_))
  have F := F.trans f15
  refine DrewK.of fun w16 _ f16 => HoldK.all (InK.all (IsSt.ld (h.keep0 f16) rfl (InK.all (IsSt.ld (h.keep0 f16) rfl ?_))))
  have h := h.keep0 f16
  have F := F.then0 f16
  refine rotK _ 17 (by decide) _ (KeepK.same (h.st (s' := (c0, xorU (rotU b1 17) (addU b2 b1), addU b2 b1, c3)) (by decide) rfl fun w17 h f17 => ?_))
  have F := F.trans f17
  refine h.ld rfl (rotK _ 32 (by decide) _ (h.st (s' := (c0, xorU (rotU b1 17) (addU b2 b1), rotU (addU b2 b1) 32, c3)) (by decide) rfl fun w18 h f18 => ?_))
  exact ⟨rfl, h, F.trans f18⟩

theorem rounds_spec {w : World} {b : Nat} {s : SipS} (h : IsSt w b s) (n : Nat) (hn : n ≤ 100) : Ret Tryz.prog 48 #[.pointer (some ⟨b, 0, none⟩), .int .i64 (n : Int)] w fun r w' => r = .tuple #[] ∧ IsSt w' b (roundsN n s) ∧ Fr (only b) w w' := by
  refine c48 _ _ w _ ?_
  unfold C48
  refine LoopK.of (fun st w' => ∃ i : Nat, st.1 = i ∧ i ≤ n ∧ IsSt w' b (roundsN i s) ∧ Fr (only b) w w') (fun st _ => (n - st.1).toNat) ⟨0, rfl, by omega, h, Fr.refl _ _⟩ ?_
  rintro _ ⟨i', _⟩ w1 ⟨i, hi, hin, h1, f1⟩
  dsimp only at hi ⊢
  subst hi
  refine ifB.dec (fun hlt => ?_) (fun hge => ?_)
  · refine CallK.of (sround_spec h1) ?_
    rintro _ w2 ⟨rfl, h2, f2⟩
    refine ⟨(), rfl, ?_⟩
    rw [wI (by omega) (by omega)]
    exact ⟨⟨i + 1, by omega, by omega, h2, f1.trans f2⟩, by omega⟩
  · obtain rfl : i = n := by omega
    exact ⟨rfl, h1, f1⟩

theorem absorb_spec {w : World} {b : Nat} {s : SipS} (h : IsSt w b s) (m : Int) : Ret Tryz.prog 47 #[.pointer (some ⟨b, 0, none⟩), .int .u64 m] w fun r w' => r = .tuple #[] ∧ IsSt w' b (absI m s) ∧ Fr (only b) w w' := by
  refine c47 _ _ w _ ?_
  unfold C47 absI
  obtain ⟨a0, a1, a2, a3⟩ := s
  refine h.ld rfl (h.st (s' := (a0, a1, a2, xorU a3 m)) (by decide) rfl fun w1 h1 f1 => ?_)
  refine CallK.of (rounds_spec h1 2 (by decide)) ?_
  rintro _ w2 ⟨rfl, h2, f2⟩
  refine ⟨(), rfl, ?_⟩
  dsimp only
  generalize roundsN 2 (a0, a1, a2, xorU a3 m) = t at *
  obtain ⟨t0, t1, t2, t3⟩ := t
  refine h2.ld rfl (h2.st (s' := (xorU t0 m, t1, t2, t3)) (by decide) rfl fun w3 h3 f3 => ?_)
  exact ⟨rfl, h3, (f1.trans f2).trans f3⟩

theorem slow_spec {w : World} {v : Sl} {bs : List UInt8} (h : RdB w v bs) (hl : bs.length ≤ 8) : Ret Tryz.prog 46 #[.slice v.1 v.2.1 v.2.2] w fun r w' => r = .int .u64 (lowL bs : Int) ∧ w = w' := by
  refine c46 v.1 v.2.1 v.2.2 w _ ?_
  unfold C46
  have hvl := h.len
  refine LoopK.of (fun s w' => ∃ i : Nat, s.2.1 = i ∧ i ≤ bs.length ∧ s.1 = (lowL (bs.take i) : Int) ∧ w = w') (fun s _ => (bs.length - s.2.1).toNat) ⟨0, rfl, by omega, rfl, rfl⟩ ?_
  rintro _ ⟨m, i', _⟩ _ ⟨i, hi, hil, hm, rfl⟩
  dsimp only at hi hm ⊢
  subst hi hm
  refine ifB.dec (fun hlt => ?_) (fun hge => ?_)
  · refine RdB.at h (by omega) hlt ?_
    rw [wI (x := 8 * (i : Int)) (by omega) (by omega), wI (x := (i : Int) + 1) (by omega) (by omega)]
    refine ⟨by omega, ⟨i + 1, by omega, by omega, ?_, rfl⟩, by omega⟩
    have hi8 : i < 8 := by omega
    have hb := (bs.getD i 0).toNat_lt
    have hlow := low_lt (bs.take i)
    rw [List.length_take, Nat.min_eq_left (by omega)] at hlow
    have hp : 256 ^ i = 2 ^ (8 * i) := by rw [show (256 : Nat) = 2 ^ 8 by decide, ← Nat.pow_mul]
    have hp8 : 256 ^ i ≤ 72057594037927936 := by
      have : (72057594037927936 : Nat) = 256 ^ 7 := by decide
      rw [this]; exact Nat.pow_le_pow_right (by decide) (by omega)
    have hpb : 256 ^ i * (bs.getD i 0).toNat < 18446744073709551616 := by
      have h1 : 256 ^ i * (bs.getD i 0).toNat ≤ 256 ^ i * 255 := Nat.mul_le_mul_left _ (by omega)
      have h2 : 256 ^ i * 255 ≤ 72057594037927936 * 255 := Nat.mul_le_mul_right _ hp8
      omega
    rw [Int.toNat_natCast, low_take bs i (by omega), wrapU_nat (bs.getD i 0).toNat, Nat.mod_eq_of_lt (show (bs.getD i 0).toNat < 18446744073709551616 by omega), show Int.toNat (8 * (i : Int)) = 8 * i by omega, shl_nat _ (8 * i) (by omega),
      ← hp, Nat.mul_comm (bs.getD i 0).toNat, Nat.mod_eq_of_lt hpb, or_nat _ _ (by omega) hpb]
    congr 1
    rw [hp, Nat.mul_comm, ← Nat.shiftLeft_eq, Nat.or_comm, ← Nat.shiftLeft_add_eq_or_of_lt (by rw [← hp]; exact hlow), Nat.shiftLeft_eq]
    omega
  · rw [List.take_of_length_le (by omega)]; exact ⟨rfl, rfl⟩

/-- A key: sixteen bytes. -/
def keyL (kb : List UInt8) : List Value := kb.map bc
theorem key_rd {w : World} {g : Nat} {kb : List UInt8} {T : TypeId} {fr : Nat × Nat} (hb : w.heap[g]? = some (.cells (keyL kb).toArray T fr)) (hk : kb.length = 16) : RdB w (some ⟨g, 0, none⟩, 16, 16) kb := by
  refine ⟨by simp [hk], (fun t => nomatch t), fun a ha => ?_⟩
  injection ha with ha
  subst ha
  exact cellsAt_all hb _ 0 fun j _ => by simp [keyL]

/-- The halves of a key. -/
theorem key_lo {w : World} {g : Nat} {kb : List UInt8} (hk : kb.length = 16) (h : RdB w (some ⟨g, 0, none⟩, 16, 16) kb) {K : Option Addr → Nat → Nat → Prop} (k : RdB w (some ⟨g, 0, none⟩, 8, 16) (kb.take 8) → K (some ⟨g, 0, none⟩) 8 16) :
    SubK (some ⟨g, 0, none⟩) 16 0 8 16 1 K := by
  refine ⟨by decide, by decide, by decide, by decide, ?_⟩
  have e : (if (16 : Int) = 0 then some (⟨g, 0, none⟩ : Addr) else (some (⟨g, 0, none⟩ : Addr)).map (·.add ((0 : Int).toNat * 1))) = some ⟨g, 0, none⟩ := by
    rw [if_neg (by decide), Option.map_some, addr_add]; rfl
  rw [e]
  refine k ⟨by simp [hk], (fun t => nomatch t), fun a ha => ?_⟩
  rw [List.map_take]
  exact cellsAt_take _ 0 8 (h.2.2 a ha)
theorem key_hi {w : World} {g : Nat} {kb : List UInt8} (hk : kb.length = 16) (h : RdB w (some ⟨g, 0, none⟩, 16, 16) kb) {K : Option Addr → Nat → Nat → Prop} (k : RdB w (some ⟨g, 8, none⟩, 8, 8) (kb.drop 8) → K (some ⟨g, 8, none⟩) 8 8) :
    SubK (some ⟨g, 0, none⟩) 16 8 16 16 1 K := by
  refine ⟨by decide, by decide, by decide, by decide, ?_⟩
  have e : (if (16 : Int) = 8 then some (⟨g, 0, none⟩ : Addr) else (some (⟨g, 0, none⟩ : Addr)).map (·.add ((8 : Int).toNat * 1))) = some ⟨g, 8, none⟩ := by
    rw [if_neg (by decide), Option.map_some, addr_add]; rfl
  rw [e]
  refine k ⟨by simp [hk], (fun t => nomatch t), fun a ha => ?_⟩
  injection ha with ha
  subst ha
  have h8 := cellsAt_drop 8 _ 0 (h.2.2 ⟨g, 0, none⟩ rfl)
  have := cellsAt_shift (m := 8) _ 0 h8
  rw [addr_add, Nat.zero_add] at this
  rw [List.map_drop]
  exact this

theorem sip_spec {w : World} {v : Sl} {kb bs : List UInt8} (hk : kb.length = 16) (h : RdB w v bs) (hc : v.2.1 ≤ v.2.2) (hl : bs.length ≤ 140737488355300) : Ret Tryz.prog 24 #[.agg (keyL kb).toArray, .slice v.1 v.2.1 v.2.2] w fun r w' => r = .int .u64 (sumI kb bs) ∧ Fr none1 w w' := by
  refine c24 (keyL kb) v.1 v.2.1 v.2.2 w _ ?_
  unfold C24
  have hvl := h.len
  refine NewK.of fun g1 w1 hg1 hb1 f1 _ => DrewK.of fun w2 _ f2 => HoldK.all ?_
  have f12 := f1.trans f2
  have hK := key_rd (f2.keep0 hb1) hk
  refine key_lo hk hK fun hA => key_hi hk hK fun hu => ?_
  refine CallK.of (slow_spec (v := (some ⟨g1, 0, none⟩, 8, 16)) hA (by rw [List.length_take]; omega)) ?_
  rintro _ _ ⟨rfl, rfl⟩
  refine ⟨_, rfl, KeepK.same ?_⟩
  refine CallK.of (slow_spec (v := (some ⟨g1, 8, none⟩, 8, 8)) hu (by rw [List.length_drop]; omega)) ?_
  rintro _ _ ⟨rfl, rfl⟩
  refine ⟨_, rfl, KeepK.same ?_⟩
  refine NewK.of fun b w3 hb hb3 f3 _ => ⟨by decide, ?_⟩
  have S3 : IsSt w3 b (initI kb) := hb3
  have f13 := f12.trans f3
  have hdv : ((v.2.1 : Int).tdiv 8) = ((bs.length / 8 : Nat) : Int) := by rw [Int.tdiv_eq_ediv_of_nonneg (by omega)]; omega
  rw [hdv, wI (x := ((bs.length / 8 : Nat) : Int)) (by omega) (by omega), wI (x := ((bs.length / 8 : Nat) : Int) * 8) (by omega) (by omega)]
  unfold sumI
  generalize initI kb = s0 at *
  have f03 := f13.size
  refine LoopK.of (fun st w' => ∃ i : Nat, st.1 = 8 * (i : Int) ∧ i ≤ bs.length / 8 ∧ IsSt w' b (blocksI bs s0 i) ∧ Fr (only b) w3 w') (fun st _ => (8 * (bs.length / 8 : Nat) - st.1).toNat) ⟨0, rfl, by omega, S3, Fr.refl _ _⟩ ?_
  rintro _ ⟨i', _⟩ w4 ⟨i, hi, hil, S4, f4⟩
  dsimp only at hi ⊢
  subst hi
  have hs2 := f12.size
  have h4 : RdB w4 v bs := (h.keep0 f13).keepE f4 fun hn k hk t => by have := h.ltE hn hk; have : k = b := t; omega
  refine ifB.dec (fun hlt => ?_) (fun hge => ?_)
  · rw [wI (x := 8 * (i : Int) + 8) (by omega) (by omega)]
    refine RdB.mid h4 (by omega) (by omega) (by omega) hc fun u hu _ _ _ => ?_
    rw [show (8 * (i : Int)).toNat = 8 * i by omega, show (8 * (i : Int) + 8 - 8 * (i : Int)).toNat = 8 by omega] at hu
    refine CallK.of (slow_spec hu (by rw [List.length_take]; omega)) ?_
    rintro _ _ ⟨rfl, rfl⟩
    refine ⟨_, rfl, ?_⟩
    refine CallK.of (absorb_spec S4 _) ?_
    rintro _ w5 ⟨rfl, S5, f5⟩
    exact ⟨(), rfl, ⟨i + 1, by omega, by omega, S5, f4.trans f5⟩, by omega⟩
  · obtain rfl : i = bs.length / 8 := by omega
    refine RdB.mid h4 (by omega) (by omega) (Int.le_refl _) hc fun u hu _ _ _ => ?_
    rw [show (((bs.length / 8 : Nat) : Int) * 8).toNat = 8 * (bs.length / 8) by omega, List.take_of_length_le (by rw [List.length_drop]; omega)] at hu
    have hdl : (bs.drop (8 * (bs.length / 8))).length ≤ 7 := by rw [List.length_drop]; omega
    refine CallK.of (slow_spec hu (by omega)) ?_
    rintro _ _ ⟨rfl, rfl⟩
    refine ⟨_, rfl, by decide, ?_⟩
    have hlow := low_lt (bs.drop (8 * (bs.length / 8)))
    have hlow2 : lowL (bs.drop (8 * (bs.length / 8))) < 72057594037927936 := by
      have h2 : 256 ^ (bs.drop (8 * (bs.length / 8))).length ≤ 256 ^ 7 := Nat.pow_le_pow_right (by decide) hdl
      have : (256 : Nat) ^ 7 = 72057594037927936 := by decide
      omega
    have elast : IntKind.u64.wrap ((BitVec.ofInt 64 (lowL (bs.drop (8 * (bs.length / 8))) : Int) ||| BitVec.ofInt 64 (IntKind.u64.wrap ((IntKind.u64.wrap (v.2.1 : Int)) * 2 ^ (min (Int.toNat 56) 64)))).toNat : Int) = (lastL bs : Int) := by
      rw [hvl, wrapU_nat bs.length, Nat.mod_eq_of_lt (show bs.length < 18446744073709551616 by omega), show Int.toNat 56 = 56 by rfl, shl_nat _ 56 (by decide), show bs.length * 2 ^ 56 % 18446744073709551616 = bs.length % 256 * 72057594037927936 by omega,
        or_nat _ _ (by omega) (by omega)]
      congr 1
      unfold lastL
      rw [Nat.or_comm, show bs.length % 256 * 72057594037927936 = (bs.length % 256) <<< 56 by rw [Nat.shiftLeft_eq], ← Nat.shiftLeft_add_eq_or_of_lt (by exact hlow2)]
      omega
    rw [elast]
    refine CallK.of (absorb_spec S4 _) ?_
    rintro _ w5 ⟨rfl, S5, f5⟩
    refine ⟨(), rfl, ?_⟩
    generalize absI (lastL bs : Int) (blocksI bs s0 (bs.length / 8)) = t at *
    obtain ⟨t0, t1, t2, t3⟩ := t
    unfold finI
    refine S5.ld rfl (S5.st (s' := (t0, t1, xorU t2 255, t3)) (by decide) rfl fun w6 S6 f6 => ?_)
    refine CallK.of (rounds_spec S6 4 (by decide)) ?_
    rintro _ w7 ⟨rfl, S7, f7⟩
    refine ⟨(), rfl, ?_⟩
    dsimp only
    generalize roundsN 4 (t0, t1, xorU t2 255, t3) = q at *
    obtain ⟨q0, q1, q2, q3⟩ := q
    refine DrewK.of fun w8 _ f8 => ?_
    have S8 := S7.keep0 f8
    refine S8.ld rfl (S8.ld rfl (S8.ld rfl (S8.ld rfl ?_)))
    have f38 : Fr (only b) w3 w8 := ((((f4.trans f5).trans f6).trans f7).then0 f8)
    exact ⟨rfl, f13.fresh f38 (by omega)⟩

theorem sbytes_spec (n : Int) (h0 : 0 ≤ n) (h1 : n < 18446744073709551616) (w : World) : Ret Tryz.prog 31 #[.int .u64 n] w fun r w' => ∃ v : Sl, r = .slice v.1 v.2.1 v.2.2 ∧ IsB w' v (hedL n) ∧ Fr none1 w w' ∧ ∀ k, blkOf v k → w.heap.size ≤ k := by
  refine c31 n w _ ?_
  unfold C31
  obtain ⟨M, rfl⟩ : ∃ M : Nat, n = M := ⟨n.toNat, by omega⟩
  obtain ⟨w1, hr1, hx1, f1⟩ := make_full (w := w) (n := 8) (m := 8) (by decide) (by decide) (by decide)
  refine ⟨(some ⟨w.heap.size, 0, none⟩, 8, 8), w1, hr1, ?_⟩
  have hx1 : IsB w1 (some ⟨w.heap.size, 0, none⟩, 8, 8) (List.replicate 8 0) := hx1
  have hh : hedL (M : Int) = lsb 8 M := by unfold hedL; rw [show ((M : Int) % 18446744073709551616).toNat = M by omega]
  refine LoopK.of (fun st w' => ∃ (i : Nat) (cs : List UInt8), st.1 = i ∧ i ≤ 8 ∧ IsB w' (some ⟨w.heap.size, 0, none⟩, 8, 8) cs ∧ cs.length = 8 ∧ (∀ j, j < i → cs[j]? = (lsb 8 M)[j]?) ∧ Fr none1 w w') (fun st _ => (8 - st.1).toNat) ⟨0, _, rfl, by omega, hx1, by simp, fun j hj => by omega, f1⟩ ?_
  rintro _ ⟨i', _⟩ w2 ⟨i, cs, hi, hil, hx2, hcl, hall, f2⟩
  dsimp only at hi ⊢
  subst hi
  refine ifB.dec (fun hlt => ?_) (fun hge => ?_)
  · have hi8 : i < 8 := by omega
    rw [wI (x := 8 * (i : Int)) (by omega) (by omega), wI (x := (i : Int) + 1) (by omega) (by omega), show Int.toNat (8 * (i : Int)) = 8 * i by omega]
    refine ⟨by omega, ?_⟩
    have hv : Value.int .u8 (IntKind.u8.wrap (Int.fdiv (M : Int) (2 ^ (min (8 * i) 64)))) = bc (UInt8.ofNat (M / 256 ^ i % 256)) := by
      rw [fdiv_nat M (8 * i) (by omega), wrapB]
      unfold bc
      rw [u8_nat (Nat.mod_lt _ (by decide)), show (256 : Nat) ^ i = 2 ^ (8 * i) by rw [show (256 : Nat) = 2 ^ 8 by decide, ← Nat.pow_mul]]
    rw [hv]
    refine IsSl.st (v := (some ⟨w.heap.size, 0, none⟩, 8, 8)) hx2 (by omega) hlt rfl fun w3 hb3 f3 _ => ?_
    have hb3' : IsB w3 (some ⟨w.heap.size, 0, none⟩, 8, 8) (cs.set i (UInt8.ofNat (M / 256 ^ i % 256))) := by unfold IsB; rw [List.map_set]; rw [Int.toNat_natCast] at hb3; exact hb3
    refine ⟨⟨i + 1, _, by omega, by omega, hb3', by rw [List.length_set]; exact hcl, fun j hj => ?_, f2.comp f3 fun k hk ⟨a, ha, e⟩ => by injection ha with ha; subst ha; dsimp only at e; omega⟩, by omega⟩
    rw [List.getElem?_set]
    by_cases hij : i = j
    · subst hij; rw [if_pos rfl, if_pos (by omega), lsb_at 8 M i hi8]
    · rw [if_neg hij]; exact hall j (by omega)
  · refine ⟨(some ⟨w.heap.size, 0, none⟩, 8, 8), rfl, ?_, f2, fun k ⟨a, ha, e⟩ => by injection ha with ha; subst ha; dsimp only at e; omega⟩
    have : cs = lsb 8 M := by
      refine List.ext_getElem? fun j => ?_
      by_cases hj : j < 8
      · exact hall j (by omega)
      · rw [List.getElem?_eq_none (by omega), List.getElem?_eq_none (by rw [lsb_len]; omega)]
    rw [hh, ← this]; exact hx2

theorem snumber_spec {w : World} {v : Sl} {bs : List UInt8} (h : RdB w v bs) : Ret Tryz.prog 23 #[.slice v.1 v.2.1 v.2.2] w fun r w' => r = .tuple #[.int .u64 (if bs.length = 8 then (lowL bs : Int) else 0), .bool (decide (bs.length = 8))] ∧ w = w' := by
  refine c23 v.1 v.2.1 v.2.2 w _ ?_
  unfold C23
  have hvl := h.len
  refine ifB.ne (fun hne => ?_) (fun heq => ?_)
  · rw [if_neg (by omega), decide_eq_false (by omega)]; exact ⟨rfl, rfl⟩
  · rw [if_pos (by omega), decide_eq_true (by omega)]
    refine CallK.of (slow_spec h (by omega)) ?_
    rintro _ _ ⟨rfl, rfl⟩
    exact ⟨_, rfl, rfl, rfl⟩

theorem ssame_spec {w : World} {v u : Sl} {bs cs : List UInt8} (h : RdB w v bs) (h' : RdB w u cs) : Ret Tryz.prog 39 #[.slice v.1 v.2.1 v.2.2, .slice u.1 u.2.1 u.2.2] w fun r w' => r = .bool (bs == cs) ∧ w = w' := by
  refine c39 v.1 v.2.1 v.2.2 u.1 u.2.1 u.2.2 w _ ?_
  unfold C39
  refine CallK.of (bequal_spec h h') ?_
  rintro _ _ ⟨rfl, rfl⟩
  exact ⟨_, rfl, rfl, rfl⟩

end Go.Proofs.YtdphmcanlhcokaaGreatDoor

/-! ### NilNe -/
set_option linter.unusedVariables false
namespace Go.Proofs.YtdphmcanlhcokaaGreatDoor
open Vc

/-- Is a value of an interface not nil? -/
theorem nil_neq {t : TypeId} (ht : ∃ ms, Tryz.prog.underlying t = some (.interface ms)) (o : Operand) {v : Value} (hv : ifcT v) (w : World) :
    (do eqGuard .neq t o (.const .nilIface) v .nilIface; binOp .neq t v .nilIface : Sem Value).run Tryz.prog w = .ok (.bool (!nilT v)) w := by
  obtain ⟨ms, ht⟩ := ht
  rcases hv with rfl | ⟨u, x, rfl⟩
  · have h1 : (eqGuard .neq t o (.const .nilIface) .nilIface .nilIface).run Tryz.prog w = .ok () w := by
      unfold eqGuard
      simp
    rw [Sem.run_bind, h1, Result.andThen_ok]
    have h2 : (Op.equalIn (9999 + 1) t .nilIface .nilIface).run Tryz.prog w = .ok true w := by
      unfold Op.equalIn
      simp only [Sem.run_bind, under ht, Result.andThen_ok, Sem.run_pure]
    show (do pure (Value.bool (!(← Op.equalIn (9999 + 1) t .nilIface .nilIface))) : Sem Value).run Tryz.prog w = _
    rw [Sem.run_bind, h2]
    rfl
  · have h1 : (eqGuard .neq t o (.const .nilIface) (.iface u x) .nilIface).run Tryz.prog w = .ok () w := by
      unfold eqGuard
      rfl
    rw [Sem.run_bind, h1, Result.andThen_ok]
    have h2 : (Op.equalIn (9999 + 1) t (.iface u x) .nilIface).run Tryz.prog w = .ok false w := by
      unfold Op.equalIn
      simp only [Sem.run_bind, under ht, Result.andThen_ok, Sem.run_pure]
    show (do pure (Value.bool (!(← Op.equalIn (9999 + 1) t (.iface u x) .nilIface))) : Sem Value).run Tryz.prog w = _
    rw [Sem.run_bind, h2]
    rfl
theorem ifc_term : ∃ ms, Tryz.prog.underlying 34 = some (.interface ms) := ⟨_, Tryz.underlying34⟩

end Go.Proofs.YtdphmcanlhcokaaGreatDoor

/-! ### CFrameG -/
namespace Go.Proofs.YtdphmcanlhcokaaGreatDoor
open Vc
set_option maxRecDepth 100000
set_option linter.unusedVariables false
/-- handfast/frame.counts -/
def C32 (p0 : Int) (w : World) (K : Value → World → Prop) : Prop :=
  ifB (decide (p0 ≥ 0))
  (K (.bool (decide (p0 ≤ 2147483647))) w)
  (K (.bool false) w)
def pl32 : Plan := .auto
theorem e32 (p0 : Int) (w : World) (K : Value → World → Prop) : vcFunc Tryz.prog Tryz.f32 pl32 [.int .i64 p0] w K = C32 p0 w K := by kernel_rfl
theorem c32 (p0 : Int) (w : World) (K : Value → World → Prop) (h : C32 p0 w K) : Ret Tryz.prog 32 #[.int .i64 p0] w K := by
  rw [← e32] at h
  exact vcFunc_sound (by kernel_rfl) Tryz.func32 h

/-- handfast/frame.none -/
def C34 (p0 : YZ14) (w : World) (K : Value → World → Prop) : Prop :=
  NewK (.cells ((LZ14 p0).toArray) 36) w (fun g1 w2 => LdK .raw ((ad g1).add 7) w2 (fun (x3 : Value) => RunK Tryz.prog (do eqGuard .eql 34 (.tmp 4) (.const .nilIface) x3 .nilIface; binOp .eql 34 x3 .nilIface) w2 (.v (.one .bool)) (fun (x4 : Bool) w5 => ifB x4
  (LdK (.int .i64) ((ad g1).add 0) w5 (fun (x6 : Int) => ifB (x6 == 0)
  (LdK .str ((ad g1).add 1) w5 (fun (x7 : ByteArray) => ifB (x7.toList == (⟨#[]⟩ : ByteArray).toList)
  (LdK .str ((ad g1).add 2) w5 (fun (x8 : ByteArray) => ifB (x8.toList == (⟨#[]⟩ : ByteArray).toList)
  (LdK .str ((ad g1).add 3) w5 (fun (x9 : ByteArray) => ifB (x9.toList == (⟨#[]⟩ : ByteArray).toList)
  (LdK .str ((ad g1).add 4) w5 (fun (x10 : ByteArray) => ifB (x10.toList == (⟨#[]⟩ : ByteArray).toList)
  (LdK (.int .i64) ((ad g1).add 5) w5 (fun (x11 : Int) => ifB (x11 == 0)
  (LdK (.int .i64) ((ad g1).add 6) w5 (fun (x12 : Int) => K (.bool (x12 == 0)) w5))
  (K (.bool false) w5)))
  (K (.bool false) w5)))
  (K (.bool false) w5)))
  (K (.bool false) w5)))
  (K (.bool false) w5)))
  (K (.bool false) w5)))
  (K (.bool false) w5))))
def pl34 : Plan := .auto
theorem e34 (p0 : YZ14) (w : World) (K : Value → World → Prop) : vcFunc Tryz.prog Tryz.f34 pl34 [.agg (LZ14 p0).toArray] w K = C34 p0 w K := by kernel_rfl
theorem c34 (p0 : YZ14) (w : World) (K : Value → World → Prop) (h : C34 p0 w K) : Ret Tryz.prog 34 #[.agg (LZ14 p0).toArray] w K := by
  rw [← e34] at h
  exact vcFunc_sound (by kernel_rfl) Tryz.func34 h

/-- handfast/frame.Check -/
def C9 (p0 : YZ18) (w : World) (K : Value → World → Prop) : Prop :=
  NewK (.cells ((LZ18 p0).toArray) 38) w (fun g1 w2 => JoinK (Bool × Unit) (fun J3 => LdK (.int .i64) ((ad g1).add 0) w2 (fun (x6 : Int) => ifB (x6 != 0)
  (LdK (.int .i64) ((ad g1).add 0) w2 (fun (x7 : Int) => ifB (x7 != 1)
  (J3 (true, ()) w2)
  (LdK (.int .i64) ((ad g1).add 1) w2 (fun (x8 : Int) => CallK Tryz.prog 32 #[.int .i64 x8] w2 (.v (.one .bool)) (fun (x9 : Bool) w10 => ifB (!x9)
  (J3 (true, ()) w10)
  (LdK (.int .i64) ((ad g1).add 2) w10 (fun (x11 : Int) => CallK Tryz.prog 32 #[.int .i64 x11] w10 (.v (.one .bool)) (fun (x12 : Bool) w13 => ifB (!x12)
  (J3 (true, ()) w13)
  (LdK (.int .i64) ((ad g1).add 4) w13 (fun (x14 : Int) => CallK Tryz.prog 32 #[.int .i64 x14] w13 (.v (.one .bool)) (fun (x15 : Bool) w16 => J3 ((!x15), ()) w16)))))))))))
  (LdK (.int .i64) ((ad g1).add 1) w2 (fun (x17 : Int) => CallK Tryz.prog 32 #[.int .i64 x17] w2 (.v (.one .bool)) (fun (x18 : Bool) w19 => ifB (!x18)
  (J3 (true, ()) w19)
  (LdK (.int .i64) ((ad g1).add 2) w19 (fun (x20 : Int) => CallK Tryz.prog 32 #[.int .i64 x20] w19 (.v (.one .bool)) (fun (x21 : Bool) w22 => ifB (!x21)
  (J3 (true, ()) w22)
  (LdK (.int .i64) ((ad g1).add 4) w22 (fun (x23 : Int) => CallK Tryz.prog 32 #[.int .i64 x23] w22 (.v (.one .bool)) (fun (x24 : Bool) w25 => J3 ((!x24), ()) w25)))))))))))
  (fun _ s4 w5 => ifB s4.1
  (K (.int .i64 1) w5)
  (JoinK (Bool × Unit) (fun J26 => LdK (.int .i64) ((ad g1).add 3) w5 (fun (x29 : Int) => ifB (decide (x29 < 1))
  (J26 (true, ()) w5)
  (LdK (.int .i64) ((ad g1).add 3) w5 (fun (x30 : Int) => ifB (decide (x30 > 4))
  (J26 (true, ()) w5)
  (LdK .bool ((ad g1).add 6) w5 (fun (x31 : Bool) => ifB x31
  (LdK (.int .i64) ((ad g1).add 3) w5 (fun (x32 : Int) => ifB (x32 == 1)
  (J26 (true, ()) w5)
  (LdK (.int .i64) ((ad g1).add 3) w5 (fun (x33 : Int) => J26 ((x33 == 3), ()) w5))))
  (J26 (false, ()) w5)))))))
  (fun _ s27 w28 => ifB s27.1
  (K (.int .i64 1) w28)
  (LdK (.int .i64) ((ad g1).add 3) w28 (fun (x34 : Int) => ifB (x34 == 1)
  (LdsK KZ14 ((ad g1).add 7) w28 (fun (x35 : YZ14) => CallK Tryz.prog 33 #[.agg (LZ14 x35).toArray] w28 (.v (.one (.int .i64))) (fun (x36 : Int) w37 => K (.int .i64 x36) w37)))
  (LdsK KZ14 ((ad g1).add 7) w28 (fun (x38 : YZ14) => CallK Tryz.prog 34 #[.agg (LZ14 x38).toArray] w28 (.v (.one .bool)) (fun (x39 : Bool) w40 => ifB (!x39)
  (K (.int .i64 1) w40)
  (K (.int .i64 0) w40))))))))))
def pl9 : Plan := (.seq .auto (.seq (.block (.join [(3, .one .bool)] .auto (.cond .auto (.join [(30, .one .bool)] .auto .auto)))) .auto))
theorem e9 (p0 : YZ18) (w : World) (K : Value → World → Prop) : vcFunc Tryz.prog Tryz.f9 pl9 [.agg (LZ18 p0).toArray] w K = C9 p0 w K := by kernel_rfl
theorem c9 (p0 : YZ18) (w : World) (K : Value → World → Prop) (h : C9 p0 w K) : Ret Tryz.prog 9 #[.agg (LZ18 p0).toArray] w K := by
  rw [← e9] at h
  exact vcFunc_sound (by kernel_rfl) Tryz.func9 h

/-- handfast/frame.flag -/
def C58 (p0 : Bool) (w : World) (K : Value → World → Prop) : Prop :=
  ifB p0
  (K (.int .u8 1) w)
  (K (.int .u8 0) w)
def pl58 : Plan := .auto
theorem e58 (p0 : Bool) (w : World) (K : Value → World → Prop) : vcFunc Tryz.prog Tryz.f58 pl58 [.bool p0] w K = C58 p0 w K := by kernel_rfl
theorem c58 (p0 : Bool) (w : World) (K : Value → World → Prop) (h : C58 p0 w K) : Ret Tryz.prog 58 #[.bool p0] w K := by
  rw [← e58] at h
  exact vcFunc_sound (by kernel_rfl) Tryz.func58 h

/-- handfast/frame.body -/
def C30 (p0 : YZ18) (w : World) (K : Value → World → Prop) : Prop :=
  NewK (.cells ((LZ18 p0).toArray) 38) w (fun g1 w2 => LdsK KZ18 (ad g1) w2 (fun (x3 : YZ18) => CallK Tryz.prog 9 #[.agg (LZ18 x3).toArray] w2 (.v (.one (.int .i64))) (fun (x4 : Int) w5 => ifB (x4 != 0)
  (K (.tuple #[.slice none 0 0, .int .i64 x4]) w5)
  (LdK (.int .i64) ((ad g1).add 0) w5 (fun (x6 : Int) => RunK Tryz.prog (Instr.buildSlice 22 1 #[(0, .int .u8 (IntKind.u8.wrap x6))]) w5 (.v (.one .slc)) (fun (x7 : SlT) w8 => DrewK w8 (fun w9 => HoldK (fun S10 => InK S10 ((ad g1).add 1) (LdK (.int .i64) ((ad g1).add 1) w9 (fun (x11 : Int) => InK S10 ((ad g1).add 2) (LdK (.int .i64) ((ad g1).add 2) w9 (fun (x12 : Int) => CallK Tryz.prog 57 #[.int .i64 x11] w9 (.v (.one .slc)) (fun (x13 : SlT) w14 => KeepK S10 w9 w14 (RunK Tryz.prog (Builtin.append_ #[22, 22] 22 #[.slice x7.1 x7.2.1 x7.2.2, .slice x13.1 x13.2.1 x13.2.2]) w14 (.v (.one .slc)) (fun (x15 : SlT) w16 => KeepK S10 w14 w16 (CallK Tryz.prog 57 #[.int .i64 x12] w16 (.v (.one .slc)) (fun (x17 : SlT) w18 => KeepK S10 w16 w18 (RunK Tryz.prog (Builtin.append_ #[22, 22] 22 #[.slice x15.1 x15.2.1 x15.2.2, .slice x17.1 x17.2.1 x17.2.2]) w18 (.v (.one .slc)) (fun (x19 : SlT) w20 => KeepK S10 w18 w20 (DrewK w20 (fun w21 => HoldK (fun S22 => InK S22 ((ad g1).add 3) (LdK (.int .i64) ((ad g1).add 3) w21 (fun (x23 : Int) => InK S22 ((ad g1).add 4) (LdK (.int .i64) ((ad g1).add 4) w21 (fun (x24 : Int) => KeepK S22 w21 w21 (RunK Tryz.prog (Instr.buildSlice 22 1 #[(0, .int .u8 (IntKind.u8.wrap x23))]) w21 (.v (.one .slc)) (fun (x25 : SlT) w26 => KeepK S22 w21 w26 (RunK Tryz.prog (Builtin.append_ #[22, 22] 22 #[.slice x19.1 x19.2.1 x19.2.2, .slice x25.1 x25.2.1 x25.2.2]) w26 (.v (.one .slc)) (fun (x27 : SlT) w28 => KeepK S22 w26 w28 (CallK Tryz.prog 57 #[.int .i64 x24] w28 (.v (.one .slc)) (fun (x29 : SlT) w30 => KeepK S22 w28 w30 (RunK Tryz.prog (Builtin.append_ #[22, 22] 22 #[.slice x27.1 x27.2.1 x27.2.2, .slice x29.1 x29.2.1 x29.2.2]) w30 (.v (.one .slc)) (fun (x31 : SlT) w32 => KeepK S22 w30 w32 (DrewK w32 (fun w33 => HoldK (fun S34 => InK S34 ((ad g1).add 5) (LdK (.int .u64) ((ad g1).add 5) w33 (fun (x35 : Int) => InK S34 ((ad g1).add 6) (LdK .bool ((ad g1).add 6) w33 (fun (x36 : Bool) => CallK Tryz.prog 31 #[.int .u64 x35] w33 (.v (.one .slc)) (fun (x37 : SlT) w38 => KeepK S34 w33 w38 (RunK Tryz.prog (Builtin.append_ #[22, 22] 22 #[.slice x31.1 x31.2.1 x31.2.2, .slice x37.1 x37.2.1 x37.2.2]) w38 (.v (.one .slc)) (fun (x39 : SlT) w40 => KeepK S34 w38 w40 (CallK Tryz.prog 58 #[.bool x36] w40 (.v (.one (.int .u8))) (fun (x41 : Int) w42 => KeepK S34 w40 w42 (RunK Tryz.prog (Instr.buildSlice 22 1 #[(0, .int .u8 x41)]) w42 (.v (.one .slc)) (fun (x43 : SlT) w44 => KeepK S34 w42 w44 (RunK Tryz.prog (Builtin.append_ #[22, 22] 22 #[.slice x39.1 x39.2.1 x39.2.2, .slice x43.1 x43.2.1 x43.2.2]) w44 (.v (.one .slc)) (fun (x45 : SlT) w46 => KeepK S34 w44 w46 (LdK (.int .i64) ((ad g1).add 3) w46 (fun (x47 : Int) => ifB (x47 != 1)
  (K (.tuple #[.slice x45.1 x45.2.1 x45.2.2, .int .i64 0]) w46)
  (LdsK KZ14 ((ad g1).add 7) w46 (fun (x48 : YZ14) => CallK Tryz.prog 59 #[.agg (LZ14 x48).toArray] w46 (.tup [.one .slc, .one (.int .i64)]) (fun (x49 : SlT × Int × Unit) w50 => ifB (x49.2.1 != 0)
  (K (.tuple #[.slice none 0 0, .int .i64 x49.2.1]) w50)
  (RunK Tryz.prog (Builtin.append_ #[22, 22] 22 #[.slice x45.1 x45.2.1 x45.2.2, .slice x49.1.1 x49.1.2.1 x49.1.2.2]) w50 (.v (.one .slc)) (fun (x51 : SlT) w52 => K (.tuple #[.slice x51.1 x51.2.1 x51.2.2, .int .i64 0]) w52)))))))))))))))))))))))))))))))))))))))))))))))))))))))))
def pl30 : Plan := (.seq .auto (.seq .auto (.seq .auto (.seq (.held (.soft 0 (.soft 1 (.soft 2 (.soft 5 (.soft 6 (.pick 3 (.pick 4 (.pick 7 (.pick 8 (.soft 9 .done) .stop) .stop) .stop) .stop))))))) (.seq (.held (.soft 0 (.soft 1 (.soft 2 (.soft 6 (.soft 7 (.pick 3 (.pick 4 (.pick 5 (.pick 8 (.pick 9 (.soft 10 .done) .stop) .stop) .stop) .stop) .stop))))))) (.seq (.held (.soft 0 (.soft 1 (.soft 2 (.soft 5 (.soft 6 (.pick 3 (.pick 4 (.pick 7 (.pick 8 (.pick 9 (.soft 10 .done) .stop) .stop) .stop) .stop) .stop))))))) .auto))))))
theorem e30 (p0 : YZ18) (w : World) (K : Value → World → Prop) : vcFunc Tryz.prog Tryz.f30 pl30 [.agg (LZ18 p0).toArray] w K = C30 p0 w K := by kernel_rfl
theorem c30 (p0 : YZ18) (w : World) (K : Value → World → Prop) (h : C30 p0 w K) : Ret Tryz.prog 30 #[.agg (LZ18 p0).toArray] w K := by
  rw [← e30] at h
  exact vcFunc_sound (by kernel_rfl) Tryz.func30 h

/-- handfast/frame.Seal -/
def C8 (p0 : List Value) (p1 : YZ18) (w : World) (K : Value → World → Prop) : Prop :=
  NewK (.cells p0.toArray 33) w (fun g1 w2 => NewK (.cells ((LZ18 p1).toArray) 38) w2 (fun g3 w4 => LdsK KZ18 (ad g3) w4 (fun (x5 : YZ18) => CallK Tryz.prog 30 #[.agg (LZ18 x5).toArray] w4 (.tup [.one .slc, .one (.int .i64)]) (fun (x6 : SlT × Int × Unit) w7 => ifB (x6.2.1 != 0)
  (K (.tuple #[.slice none 0 0, .int .i64 x6.2.1]) w7)
  (LdaK 16 (ad g1) w7 (fun x8 => CallK Tryz.prog 24 #[.agg x8.toArray, .slice x6.1.1 x6.1.2.1 x6.1.2.2] w7 (.v (.one (.int .u64))) (fun (x9 : Int) w10 => CallK Tryz.prog 31 #[.int .u64 x9] w10 (.v (.one .slc)) (fun (x11 : SlT) w12 => RunK Tryz.prog (Builtin.append_ #[22, 22] 22 #[.slice x6.1.1 x6.1.2.1 x6.1.2.2, .slice x11.1 x11.2.1 x11.2.2]) w12 (.v (.one .slc)) (fun (x13 : SlT) w14 => K (.tuple #[.slice x13.1 x13.2.1 x13.2.2, .int .i64 0]) w14)))))))))
def pl8 : Plan := .auto
theorem e8 (p0 : List Value) (p1 : YZ18) (w : World) (K : Value → World → Prop) : vcFunc Tryz.prog Tryz.f8 pl8 [.agg p0.toArray, .agg (LZ18 p1).toArray] w K = C8 p0 p1 w K := by kernel_rfl
theorem c8 (p0 : List Value) (p1 : YZ18) (w : World) (K : Value → World → Prop) (h : C8 p0 p1 w K) : Ret Tryz.prog 8 #[.agg p0.toArray, .agg (LZ18 p1).toArray] w K := by
  rw [← e8] at h
  exact vcFunc_sound (by kernel_rfl) Tryz.func8 h

/-- handfast/frame.parse -/
def C40 (p0 : Option Addr) (p0l p0c : Nat) (w : World) (K : Value → World → Prop) : Prop :=
  NewK (.cells #[.int .i64 0, .int .i64 0, .int .i64 0, .int .i64 0, .int .i64 0, .int .u64 0, .bool false, .int .i64 0, .string (⟨#[]⟩ : ByteArray), .string (⟨#[]⟩ : ByteArray), .string (⟨#[]⟩ : ByteArray), .string (⟨#[]⟩ : ByteArray), .int .i64 0, .int .i64 0, .nilIface] 38) w (fun g1 w2 => DrewK w2 (fun w3 => HoldK (fun S4 => IdxK p0 p0l 0 1 (fun a5 => InK S4 a5 (LdK (.int .u8) a5 w3 (fun (x6 : Int) => IdxK p0 p0l 17 1 (fun a7 => InK S4 a7 (LdK (.int .u8) a7 w3 (fun (x8 : Int) => IdxK p0 p0l 34 1 (fun a9 => InK S4 a9 (LdK (.int .u8) a9 w3 (fun (x10 : Int) => NewK (.cells #[.int .i64 0, .int .i64 0, .int .i64 0, .int .i64 0, .int .i64 0, .int .u64 0, .bool false, .int .i64 0, .string (⟨#[]⟩ : ByteArray), .string (⟨#[]⟩ : ByteArray), .string (⟨#[]⟩ : ByteArray), .string (⟨#[]⟩ : ByteArray), .int .i64 0, .int .i64 0, .nilIface] 38) w3 (fun g11 w12 => KeepK S4 w3 w12 (StsK (ad g11) [.int .i64 (IntKind.i64.wrap x6), .int .i64 0, .int .i64 0, .int .i64 (IntKind.i64.wrap x8), .int .i64 0, .int .u64 0, .bool (x10 == 1), .int .i64 0, .string (⟨#[]⟩ : ByteArray), .string (⟨#[]⟩ : ByteArray), .string (⟨#[]⟩ : ByteArray), .string (⟨#[]⟩ : ByteArray), .int .i64 0, .int .i64 0, .nilIface] w12 (fun w13 => KeepK S4 w12 w13 (SubK p0 p0c 1 9 p0c 1 (fun a14 l15 c16 => CallK Tryz.prog 67 #[.slice a14 l15 c16] w13 (.tup [.one (.int .i64), .one .bool]) (fun (x17 : Int × Bool × Unit) w18 => StK ((ad g11).add 1) (.int .i64 x17.1) w18 (fun w19 => SubK p0 p0c 9 17 p0c 1 (fun a20 l21 c22 => CallK Tryz.prog 67 #[.slice a20 l21 c22] w19 (.tup [.one (.int .i64), .one .bool]) (fun (x23 : Int × Bool × Unit) w24 => StK ((ad g11).add 2) (.int .i64 x23.1) w24 (fun w25 => SubK p0 p0c 18 26 p0c 1 (fun a26 l27 c28 => CallK Tryz.prog 67 #[.slice a26 l27 c28] w25 (.tup [.one (.int .i64), .one .bool]) (fun (x29 : Int × Bool × Unit) w30 => StK ((ad g11).add 4) (.int .i64 x29.1) w30 (fun w31 => SubK p0 p0c 26 34 p0c 1 (fun a32 l33 c34 => CallK Tryz.prog 23 #[.slice a32 l33 c34] w31 (.tup [.one (.int .u64), .one .bool]) (fun (x35 : Int × Bool × Unit) w36 => StK ((ad g11).add 5) (.int .u64 x35.1) w36 (fun w37 => LdK (.int .i64) ((ad g11).add 3) w37 (fun (x38 : Int) => ifB (x38 == 1)
  (SubK p0 p0c 35 p0l p0c 1 (fun a39 l40 c41 => CallK Tryz.prog 68 #[.slice a39 l40 c41] w37 (.tup [.agg KZ14, .one (.int .i64)]) (fun (x42 : YZ14 × Int × Unit) w43 => StsK ((ad g11).add 7) [.int .i64 x42.1.1, .string x42.1.2.1, .string x42.1.2.2.1, .string x42.1.2.2.2.1, .string x42.1.2.2.2.2.1, .int .i64 x42.1.2.2.2.2.2.1, .int .i64 x42.1.2.2.2.2.2.2.1, x42.1.2.2.2.2.2.2.2.1] w43 (fun w44 => LdsK KZ18 (ad g11) w44 (fun (x45 : YZ18) => StsK (ad g1) (LZ18 x45) w44 (fun w46 => LdsK KZ18 (ad g1) w46 (fun (x47 : YZ18) => K (.agg (LZ18 x47).toArray) w46)))))))
  (LdsK KZ18 (ad g11) w37 (fun (x48 : YZ18) => StsK (ad g1) (LZ18 x48) w37 (fun w49 => LdsK KZ18 (ad g1) w49 (fun (x50 : YZ18) => K (.agg (LZ18 x50).toArray) w49)))))))))))))))))))))))))))))))))
def pl40 : Plan := (.seq .auto (.seq (.held (.soft 0 (.soft 1 (.soft 2 (.soft 3 (.soft 4 (.soft 5 (.soft 6 (.soft 7 (.soft 8 (.soft 9 (.soft 10 (.soft 11 (.soft 12 (.pick 13 (.pick 14 .done .stop) .stop))))))))))))))) .auto))
theorem e40 (p0 : Option Addr) (p0l p0c : Nat) (w : World) (K : Value → World → Prop) : vcFunc Tryz.prog Tryz.f40 pl40 [.slice p0 p0l p0c] w K = C40 p0 p0l p0c w K := by kernel_rfl
theorem c40 (p0 : Option Addr) (p0l p0c : Nat) (w : World) (K : Value → World → Prop) (h : C40 p0 p0l p0c w K) : Ret Tryz.prog 40 #[.slice p0 p0l p0c] w K := by
  rw [← e40] at h
  exact vcFunc_sound (by kernel_rfl) Tryz.func40 h

/-- handfast/frame.Open -/
def C18 (p0 : List Value) (p1 : Option Addr) (p1l p1c : Nat) (w : World) (K : Value → World → Prop) : Prop :=
  NewK (.cells p0.toArray 33) w (fun g1 w2 => NewK (.cells #[.int .i64 0, .int .i64 0, .int .i64 0, .int .i64 0, .int .i64 0, .int .u64 0, .bool false, .int .i64 0, .string (⟨#[]⟩ : ByteArray), .string (⟨#[]⟩ : ByteArray), .string (⟨#[]⟩ : ByteArray), .string (⟨#[]⟩ : ByteArray), .int .i64 0, .int .i64 0, .nilIface] 38) w2 (fun g3 w4 => ifB (decide ((p1l : Int) < 8))
  (StsK (ad g3) [.int .i64 0, .int .i64 0, .int .i64 0, .int .i64 0, .int .i64 0, .int .u64 0, .bool false, .int .i64 0, .string (⟨#[]⟩ : ByteArray), .string (⟨#[]⟩ : ByteArray), .string (⟨#[]⟩ : ByteArray), .string (⟨#[]⟩ : ByteArray), .int .i64 0, .int .i64 0, .nilIface] w4 (fun w5 => LdsK KZ18 (ad g3) w5 (fun (x6 : YZ18) => K (.tuple #[.agg (LZ18 x6).toArray, .int .i64 2]) w5)))
  (DrewK w4 (fun w7 => SubK p1 p1c 0 (IntKind.i64.wrap ((p1l : Int) - 8)) p1c 1 (fun a8 l9 c10 => SubK p1 p1c (IntKind.i64.wrap ((p1l : Int) - 8)) p1l p1c 1 (fun a11 l12 c13 => LdaK 16 (ad g1) w7 (fun x14 => CallK Tryz.prog 24 #[.agg x14.toArray, .slice a8 l9 c10] w7 (.v (.one (.int .u64))) (fun (x15 : Int) w16 => CallK Tryz.prog 31 #[.int .u64 x15] w16 (.v (.one .slc)) (fun (x17 : SlT) w18 => CallK Tryz.prog 39 #[.slice a11 l12 c13, .slice x17.1 x17.2.1 x17.2.2] w18 (.v (.one .bool)) (fun (x19 : Bool) w20 => ifB (!x19)
  (StsK (ad g3) [.int .i64 0, .int .i64 0, .int .i64 0, .int .i64 0, .int .i64 0, .int .u64 0, .bool false, .int .i64 0, .string (⟨#[]⟩ : ByteArray), .string (⟨#[]⟩ : ByteArray), .string (⟨#[]⟩ : ByteArray), .string (⟨#[]⟩ : ByteArray), .int .i64 0, .int .i64 0, .nilIface] w20 (fun w21 => LdsK KZ18 (ad g3) w21 (fun (x22 : YZ18) => K (.tuple #[.agg (LZ18 x22).toArray, .int .i64 12]) w21)))
  (ifB (decide ((l9 : Int) < 35))
  (StsK (ad g3) [.int .i64 0, .int .i64 0, .int .i64 0, .int .i64 0, .int .i64 0, .int .u64 0, .bool false, .int .i64 0, .string (⟨#[]⟩ : ByteArray), .string (⟨#[]⟩ : ByteArray), .string (⟨#[]⟩ : ByteArray), .string (⟨#[]⟩ : ByteArray), .int .i64 0, .int .i64 0, .nilIface] w20 (fun w23 => LdsK KZ18 (ad g3) w23 (fun (x24 : YZ18) => K (.tuple #[.agg (LZ18 x24).toArray, .int .i64 2]) w23)))
  (CallK Tryz.prog 40 #[.slice a8 l9 c10] w20 (.v (.agg KZ18)) (fun (x25 : YZ18) w26 => NewK (.cells #[.int .i64 0, .int .i64 0, .int .i64 0, .int .i64 0, .int .i64 0, .int .u64 0, .bool false, .int .i64 0, .string (⟨#[]⟩ : ByteArray), .string (⟨#[]⟩ : ByteArray), .string (⟨#[]⟩ : ByteArray), .string (⟨#[]⟩ : ByteArray), .int .i64 0, .int .i64 0, .nilIface] 38) w26 (fun g27 w28 => StsK (ad g27) (LZ18 x25) w28 (fun w29 => LdsK KZ18 (ad g27) w29 (fun (x30 : YZ18) => CallK Tryz.prog 30 #[.agg (LZ18 x30).toArray] w29 (.tup [.one .slc, .one (.int .i64)]) (fun (x31 : SlT × Int × Unit) w32 => ifB (x31.2.1 != 0)
  (StsK (ad g3) [.int .i64 0, .int .i64 0, .int .i64 0, .int .i64 0, .int .i64 0, .int .u64 0, .bool false, .int .i64 0, .string (⟨#[]⟩ : ByteArray), .string (⟨#[]⟩ : ByteArray), .string (⟨#[]⟩ : ByteArray), .string (⟨#[]⟩ : ByteArray), .int .i64 0, .int .i64 0, .nilIface] w32 (fun w33 => LdsK KZ18 (ad g3) w33 (fun (x34 : YZ18) => K (.tuple #[.agg (LZ18 x34).toArray, .int .i64 2]) w33)))
  (CallK Tryz.prog 41 #[.slice x31.1.1 x31.1.2.1 x31.1.2.2, .slice a8 l9 c10] w32 (.v (.one .bool)) (fun (x35 : Bool) w36 => ifB (!x35)
  (StsK (ad g3) [.int .i64 0, .int .i64 0, .int .i64 0, .int .i64 0, .int .i64 0, .int .u64 0, .bool false, .int .i64 0, .string (⟨#[]⟩ : ByteArray), .string (⟨#[]⟩ : ByteArray), .string (⟨#[]⟩ : ByteArray), .string (⟨#[]⟩ : ByteArray), .int .i64 0, .int .i64 0, .nilIface] w36 (fun w37 => LdsK KZ18 (ad g3) w37 (fun (x38 : YZ18) => K (.tuple #[.agg (LZ18 x38).toArray, .int .i64 2]) w37)))
  (LdsK KZ18 (ad g27) w36 (fun (x39 : YZ18) => StsK (ad g3) (LZ18 x39) w36 (fun w40 => LdsK KZ18 (ad g3) w40 (fun (x41 : YZ18) => K (.tuple #[.agg (LZ18 x41).toArray, .int .i64 0]) w40)))))))))))))))))))))))
def pl18 : Plan := (.seq .auto (.seq .auto (.seq .still .auto)))
theorem e18 (p0 : List Value) (p1 : Option Addr) (p1l p1c : Nat) (w : World) (K : Value → World → Prop) : vcFunc Tryz.prog Tryz.f18 pl18 [.agg p0.toArray, .slice p1 p1l p1c] w K = C18 p0 p1 p1l p1c w K := by kernel_rfl
theorem c18 (p0 : List Value) (p1 : Option Addr) (p1l p1c : Nat) (w : World) (K : Value → World → Prop) (h : C18 p0 p1 p1l p1c w K) : Ret Tryz.prog 18 #[.agg p0.toArray, .slice p1 p1l p1c] w K := by
  rw [← e18] at h
  exact vcFunc_sound (by kernel_rfl) Tryz.func18 h

/-- handfast/handfastlaw19.wakes -/
def C10  (w : World) (K : Value → World → Prop) : Prop :=
  CallK Tryz.prog 18 #[.agg #[.int .u8 0, .int .u8 0, .int .u8 0, .int .u8 0, .int .u8 0, .int .u8 0, .int .u8 0, .int .u8 0, .int .u8 0, .int .u8 0, .int .u8 0, .int .u8 0, .int .u8 0, .int .u8 0, .int .u8 0, .int .u8 0], .slice none 0 0] w (.tup [.agg KZ18, .one (.int .i64)]) (fun (x1 : YZ18 × Int × Unit) w2 => NewK (.cells #[.int .i64 0, .int .i64 0, .int .i64 0, .int .i64 0, .int .i64 0, .int .u64 0, .bool false, .int .i64 0, .string (⟨#[]⟩ : ByteArray), .string (⟨#[]⟩ : ByteArray), .string (⟨#[]⟩ : ByteArray), .string (⟨#[]⟩ : ByteArray), .int .i64 0, .int .i64 0, .nilIface] 38) w2 (fun g3 w4 => StsK (ad g3) [.int .i64 x1.1.1, .int .i64 x1.1.2.1, .int .i64 x1.1.2.2.1, .int .i64 x1.1.2.2.2.1, .int .i64 x1.1.2.2.2.2.1, .int .u64 x1.1.2.2.2.2.2.1, .bool x1.1.2.2.2.2.2.2.1, .int .i64 x1.1.2.2.2.2.2.2.2.1, .string x1.1.2.2.2.2.2.2.2.2.1, .string x1.1.2.2.2.2.2.2.2.2.2.1, .string x1.1.2.2.2.2.2.2.2.2.2.2.1, .string x1.1.2.2.2.2.2.2.2.2.2.2.2.1, .int .i64 x1.1.2.2.2.2.2.2.2.2.2.2.2.2.1, .int .i64 x1.1.2.2.2.2.2.2.2.2.2.2.2.2.2.1, x1.1.2.2.2.2.2.2.2.2.2.2.2.2.2.2.1] w4 (fun w5 => CallK Tryz.prog 8 #[.agg #[.int .u8 0, .int .u8 0, .int .u8 0, .int .u8 0, .int .u8 0, .int .u8 0, .int .u8 0, .int .u8 0, .int .u8 0, .int .u8 0, .int .u8 0, .int .u8 0, .int .u8 0, .int .u8 0, .int .u8 0, .int .u8 0], .agg #[.int .i64 0, .int .i64 0, .int .i64 0, .int .i64 3, .int .i64 0, .int .u64 0, .bool false, .int .i64 0, .string (⟨#[]⟩ : ByteArray), .string (⟨#[]⟩ : ByteArray), .string (⟨#[]⟩ : ByteArray), .string (⟨#[]⟩ : ByteArray), .int .i64 0, .int .i64 0, .nilIface]] w5 (.tup [.one .slc, .one (.int .i64)]) (fun (x6 : SlT × Int × Unit) w7 => ifB (x1.2.1 == 2)
  (ifB (x6.2.1 == 0)
  (K (.bool ((x6.1.2.1 : Int) == 43)) w7)
  (K (.bool false) w7))
  (K (.bool false) w7)))))
def pl10 : Plan := .auto
theorem e10  (w : World) (K : Value → World → Prop) : vcFunc Tryz.prog Tryz.f10 pl10 [] w K = C10  w K := by kernel_rfl
theorem c10  (w : World) (K : Value → World → Prop) (h : C10  w K) : Ret Tryz.prog 10 #[] w K := by
  rw [← e10] at h
  exact vcFunc_sound (by kernel_rfl) Tryz.func10 h

end Go.Proofs.YtdphmcanlhcokaaGreatDoor

/-! ### FrameSpec -/
set_option linter.unusedVariables false
set_option maxRecDepth 100000
namespace Go.Proofs.YtdphmcanlhcokaaGreatDoor
open Vc

namespace Vc
theorem LdsK.off {cks : List Ck} {b o : Nat} {w : World} {K : Cs cks → Prop} {cs : Array Value} {T : TypeId} {fr : Nat × Nat} {x : Cs cks} (hb : w.heap[b]? = some (.cells cs T fr)) (hx : ∀ j, j < (Cs.vals cks x).length → cs[o + j]? = (Cs.vals cks x)[j]?) (h : K x) : LdsK cks ((⟨b, 0, none⟩ : Addr).add o) w K :=
  ⟨x, cellsAt_shift (m := o) _ 0 (cellsAt_all hb _ o hx), h⟩
end Vc

abbrev FrT := Int × Int × Int × Int × Int × Int × Bool × EvT
abbrev FK : List Ck := [.int .i64, .int .i64, .int .i64, .int .i64, .int .i64, .int .u64, .bool, .int .i64, .str, .str, .str, .str, .int .i64, .int .i64, .raw]
def frE (f : FrT) : EvT := f.2.2.2.2.2.2.2
def frL (f : FrT) : List Value := [.int .i64 f.1, .int .i64 f.2.1, .int .i64 f.2.2.1, .int .i64 f.2.2.2.1, .int .i64 f.2.2.2.2.1, .int .u64 f.2.2.2.2.2.1, .bool f.2.2.2.2.2.2.1, .int .i64 (frE f).1, .string (frE f).2.1, .string (frE f).2.2.1, .string (frE f).2.2.2.1, .string (frE f).2.2.2.2.1, .int .i64 (frE f).2.2.2.2.2.1, .int .i64 (frE f).2.2.2.2.2.2.1, (frE f).2.2.2.2.2.2.2.1]
def frA (f : FrT) : Value := .agg (frL f).toArray
theorem frL_one {f : FrT} (h : one1 (frE f).2.2.2.2.2.2.2.1 = true) : (frL f).all one1 = true := by
  unfold frL
  simp only [List.all_cons, List.all_nil, Bool.and_true, Bool.and_eq_true, h, and_true]
  exact ⟨rfl, rfl, rfl, rfl, rfl, rfl, rfl, rfl, rfl, rfl, rfl, rfl, rfl, rfl⟩

/-! ### Plain -/
def countsF (n : Int) : Bool := decide (0 ≤ n) && decide (n ≤ 2147483647)
def noneF (e : EvT) : Bool := nilT e.2.2.2.2.2.2.2.1 && (e.1 == 0 && (emptyB e.2.1 && (emptyB e.2.2.1 && (emptyB e.2.2.2.1 && (emptyB e.2.2.2.2.1 && (e.2.2.2.2.2.1 == 0 && e.2.2.2.2.2.2.1 == 0))))))
def headF (f : FrT) : Bool := (f.1 == 0 || f.1 == 1) && (countsF f.2.1 && (countsF f.2.2.1 && countsF f.2.2.2.2.1))
def kindF (f : FrT) : Bool := decide (1 ≤ f.2.2.2.1) && (decide (f.2.2.2.1 ≤ 4) && !(f.2.2.2.2.2.2.1 && (f.2.2.2.1 == 1 || f.2.2.2.1 == 3)))
def checkFr (f : FrT) (tr : Int) : Int := if headF f = false then 1 else if kindF f = false then 1 else if f.2.2.2.1 = 1 then checkF (frE f) tr else if noneF (frE f) = false then 1 else 0
def topB (f : FrT) : List UInt8 := UInt8.ofNat (f.1 % 256).toNat :: (numL f.2.1 ++ (numL f.2.2.1 ++ (UInt8.ofNat (f.2.2.2.1 % 256).toNat :: (numL f.2.2.2.2.1 ++ (hedL f.2.2.2.2.2.1 ++ [if f.2.2.2.2.2.2.1 = true then 1 else 0])))))
def bytesFr (f : FrT) (ts : List UInt8) (tr : Int) : List UInt8 × Int := if checkFr f tr ≠ 0 then ([], checkFr f tr) else if f.2.2.2.1 ≠ 1 then (topB f, 0) else (topB f ++ (packF (frE f) ts tr).1, 0)
def sealF (kb : List UInt8) (f : FrT) (ts : List UInt8) (tr : Int) : List UInt8 × Int := if (bytesFr f ts tr).2 ≠ 0 then ([], (bytesFr f ts tr).2) else ((bytesFr f ts tr).1 ++ hedL (sumI kb (bytesFr f ts tr).1), 0)
theorem top_len (f : FrT) : (topB f).length = 35 := by
  unfold topB
  simp only [List.length_cons, List.length_append, numL_len, hed_len, List.length_nil]

/-! ### Walks -/
theorem counts_spec (n : Int) (w : World) : Ret Tryz.prog 32 #[.int .i64 n] w fun r w' => r = .bool (countsF n) ∧ w = w' := by
  refine c32 n w _ ?_
  unfold countsF
  refine ifB.dec (fun h => ?_) (fun h => ?_)
  · rw [decide_eq_true (p := 0 ≤ n) (by omega)]; exact ⟨rfl, rfl⟩
  · rw [decide_eq_false (p := 0 ≤ n) (by omega)]; exact ⟨rfl, rfl⟩
theorem countsK (n : Int) (w : World) {K : Bool → World → Prop} (h : K (countsF n) w) : CallK Tryz.prog 32 #[.int .i64 n] w (.v (.one .bool)) (fun (x : Bool) w' => K x w') := by
  refine CallK.of (counts_spec n w) ?_
  rintro _ _ ⟨rfl, rfl⟩
  exact ⟨_, rfl, h⟩

theorem none_spec (e : EvT) (hT : ifcT e.2.2.2.2.2.2.2.1) (w : World) : Ret Tryz.prog 34 #[evA e] w fun r w' => r = .bool (noneF e) ∧ Fr none1 w w' := by
  refine c34 e w _ ?_
  unfold C34
  refine NewK.of fun g1 w1 hg1 hb1 f1 hs1 => ?_
  unfold noneF
  refine LdK.fld hb1 (x := e.2.2.2.2.2.2.2.1) rfl ?_
  refine ⟨nilT e.2.2.2.2.2.2.2.1, w1, nil_eq ifc_term _ hT w1, ?_⟩
  refine ifB.by (fun q => ?_) (fun q => by rw [q]; exact ⟨rfl, f1⟩)
  rw [q, Bool.true_and]
  refine LdK.fld hb1 (x := e.1) rfl ?_
  refine ifB.by (fun q => ?_) (fun q => by rw [q]; exact ⟨rfl, f1⟩)
  rw [q, Bool.true_and]
  refine LdK.fld hb1 (x := e.2.1) rfl ?_
  refine ifB.by (fun q => ?_) (fun q => by rw [show emptyB e.2.1 = false from q]; exact ⟨rfl, f1⟩)
  rw [show emptyB e.2.1 = true from q, Bool.true_and]
  refine LdK.fld hb1 (x := e.2.2.1) rfl ?_
  refine ifB.by (fun q => ?_) (fun q => by rw [show emptyB e.2.2.1 = false from q]; exact ⟨rfl, f1⟩)
  rw [show emptyB e.2.2.1 = true from q, Bool.true_and]
  refine LdK.fld hb1 (x := e.2.2.2.1) rfl ?_
  refine ifB.by (fun q => ?_) (fun q => by rw [show emptyB e.2.2.2.1 = false from q]; exact ⟨rfl, f1⟩)
  rw [show emptyB e.2.2.2.1 = true from q, Bool.true_and]
  refine LdK.fld hb1 (x := e.2.2.2.2.1) rfl ?_
  refine ifB.by (fun q => ?_) (fun q => by rw [show emptyB e.2.2.2.2.1 = false from q]; exact ⟨rfl, f1⟩)
  rw [show emptyB e.2.2.2.2.1 = true from q, Bool.true_and]
  refine LdK.fld hb1 (x := e.2.2.2.2.2.1) rfl ?_
  refine ifB.by (fun q => ?_) (fun q => by rw [q]; exact ⟨rfl, f1⟩)
  rw [q, Bool.true_and]
  refine LdK.fld hb1 (x := e.2.2.2.2.2.2.1) rfl ?_
  exact ⟨rfl, f1⟩

/-- What write.Term tells of a value. -/
def Wrote (w : World) (x : Value) (ts : List UInt8) (tr : Int) : Prop := ∀ w1, Fr none1 w w1 → Ret Tryz.prog 64 #[x] w1 fun r w' => r = .tuple #[.string (str ts), .int .i64 tr] ∧ Fr none1 w1 w'
theorem Wrote.keep {w w' : World} {x : Value} {ts : List UInt8} {tr : Int} (h : Wrote w x ts tr) (f : Fr none1 w w') : Wrote w' x ts tr := fun w1 f1 => h w1 (f.trans f1)
theorem wrote_tm (t : Tm) (hn : nodesT t ≤ 1000000) {w : World} (ht : TabW w) : Wrote w t.v (writeT t).1 (writeT t).2 := fun w1 f => wterm_spec t hn w1 (ht.keep0 f)

theorem fr_ev {w : World} {g : Nat} {f : FrT} {T : TypeId} (hb : w.heap[g]? = some (.cells (frL f).toArray T (0, 0))) {K : EvT → Prop} (k : K (frE f)) : LdsK EK ((⟨g, 0, none⟩ : Addr).add 7) w K := by
  refine LdsK.off (x := frE f) hb (fun j hj => ?_) k
  match j, hj with
  | 0, _ => rfl
  | 1, _ => rfl
  | 2, _ => rfl
  | 3, _ => rfl
  | 4, _ => rfl
  | 5, _ => rfl
  | 6, _ => rfl
  | 7, _ => rfl
  | j + 8, h => exact absurd h (by show ¬ j + 8 < 8; omega)

theorem fcheck_spec (f : FrT) (hT : ifcT (frE f).2.2.2.2.2.2.2.1) (ts : List UInt8) (tr : Int) (w : World) (ht : Wrote w (frE f).2.2.2.2.2.2.2.1 ts tr) :
    Ret Tryz.prog 9 #[frA f] w fun r w' => r = .int .i64 (checkFr f tr) ∧ Fr none1 w w' := by
  refine c9 f w _ ?_
  unfold C9
  refine NewK.of fun g1 w1 hg1 hb1 f1 hs1 => ?_
  have hb1 : w1.heap[g1]? = some (.cells (frL f).toArray 38 (0, 0)) := hb1
  refine JoinK.of (fun s w' => s.1 = !(headF f) ∧ w1 = w') ?_ ?_
  · have rest : (f.1 == 0 || f.1 == 1) = true → LdK (.int .i64) ((⟨g1, 0, none⟩ : Addr).add 1) w1 (fun (x8 : Int) => CallK Tryz.prog 32 #[.int .i64 x8] w1 (.v (.one .bool)) (fun (x9 : Bool) w10 => ifB (!x9)
        ((true = !(headF f)) ∧ w1 = w10)
        (LdK (.int .i64) ((⟨g1, 0, none⟩ : Addr).add 2) w10 (fun (x11 : Int) => CallK Tryz.prog 32 #[.int .i64 x11] w10 (.v (.one .bool)) (fun (x12 : Bool) w13 => ifB (!x12)
        ((true = !(headF f)) ∧ w1 = w13)
        (LdK (.int .i64) ((⟨g1, 0, none⟩ : Addr).add 4) w13 (fun (x14 : Int) => CallK Tryz.prog 32 #[.int .i64 x14] w13 (.v (.one .bool)) (fun (x15 : Bool) w16 => ((!x15) = !(headF f)) ∧ w1 = w16))))))) ) := fun h0 => by
      unfold headF
      rw [h0, Bool.true_and]
      refine LdK.fld hb1 (x := f.2.1) rfl (countsK _ _ (ifB.not (ifB.by (fun q => ?_) (fun q => by rw [q]; exact ⟨rfl, rfl⟩))))
      rw [q, Bool.true_and]
      refine LdK.fld hb1 (x := f.2.2.1) rfl (countsK _ _ (ifB.not (ifB.by (fun q => ?_) (fun q => by rw [q]; exact ⟨rfl, rfl⟩))))
      rw [q, Bool.true_and]
      exact LdK.fld hb1 (x := f.2.2.2.2.1) rfl (countsK _ _ ⟨rfl, rfl⟩)
    refine LdK.fld hb1 (x := f.1) rfl ?_
    refine ifB.ne (fun h => ?_) (fun h => rest (by rw [h]; rfl))
    refine LdK.fld hb1 (x := f.1) rfl ?_
    refine ifB.ne (fun h' => ?_) (fun h' => rest (by rw [h']; rfl))
    refine ⟨?_, rfl⟩
    unfold headF
    rw [beq_false_of_ne h, beq_false_of_ne h']; rfl
  rintro _ ⟨s, _⟩ _ ⟨hs, rfl⟩
  dsimp only at hs ⊢
  subst hs
  unfold checkFr
  refine ifB.by (fun q => ?_) (fun q => ?_)
  · rw [if_pos (by simpa using q)]; exact ⟨rfl, f1⟩
  rw [if_neg (by simpa using q)]
  refine JoinK.of (fun s w' => s.1 = !(kindF f) ∧ w1 = w') ?_ ?_
  · unfold kindF
    refine LdK.fld hb1 (x := f.2.2.2.1) rfl ?_
    refine ifB.dec (fun h => ?_) (fun h => ?_)
    · rw [decide_eq_false (p := 1 ≤ f.2.2.2.1) (by omega)]; exact ⟨rfl, rfl⟩
    rw [decide_eq_true (p := 1 ≤ f.2.2.2.1) (by omega), Bool.true_and]
    refine LdK.fld hb1 (x := f.2.2.2.1) rfl ?_
    refine ifB.dec (fun h => ?_) (fun h => ?_)
    · rw [decide_eq_false (p := f.2.2.2.1 ≤ 4) (by omega)]; exact ⟨rfl, rfl⟩
    rw [decide_eq_true (p := f.2.2.2.1 ≤ 4) (by omega), Bool.true_and, Bool.not_not]
    refine LdK.fld hb1 (x := f.2.2.2.2.2.2.1) rfl ?_
    refine ifB.by (fun q => ?_) (fun q => by rw [q]; exact ⟨rfl, rfl⟩)
    rw [q, Bool.true_and]
    refine LdK.fld hb1 (x := f.2.2.2.1) rfl ?_
    refine ifB.by (fun q => by rw [q]; exact ⟨rfl, rfl⟩) (fun q => ?_)
    rw [q, Bool.false_or]
    exact LdK.fld hb1 (x := f.2.2.2.1) rfl ⟨rfl, rfl⟩
  rintro _ ⟨s, _⟩ _ ⟨hs, rfl⟩
  dsimp only at hs ⊢
  subst hs
  refine ifB.by (fun q => ?_) (fun q => ?_)
  · rw [if_pos (by simpa using q)]; exact ⟨rfl, f1⟩
  rw [if_neg (by simpa using q)]
  refine LdK.fld hb1 (x := f.2.2.2.1) rfl ?_
  refine ifB.eq (fun h => ?_) (fun h => ?_)
  · rw [if_pos h]
    refine fr_ev hb1 ?_
    refine CallK.of (check_spec (frE f) hT tr w1 fun _ w2 f2 => (ht w2 (f1.trans f2)).mono fun r w' ⟨h, f⟩ => ⟨⟨_, h⟩, f⟩) ?_
    rintro _ w2 ⟨rfl, f2⟩
    exact ⟨_, rfl, rfl, f1.trans f2⟩
  · rw [if_neg h]
    refine fr_ev hb1 ?_
    refine CallK.of (none_spec (frE f) hT w1) ?_
    rintro _ w2 ⟨rfl, f2⟩
    refine ⟨_, rfl, ifB.not (ifB.by (fun q => ?_) (fun q => ?_))⟩
    · rw [if_neg (by rw [q]; decide)]; exact ⟨rfl, f1.trans f2⟩
    · rw [if_pos q]; exact ⟨rfl, f1.trans f2⟩

theorem flagK (b : Bool) (w : World) {K : Int → World → Prop} (h : ∀ n : Int, Value.int .u8 n = bc (if b = true then 1 else 0) → K n w) : CallK Tryz.prog 58 #[.bool b] w (.v (.one (.int .u8))) (fun (x : Int) w' => K x w') := by
  refine CallK.of (R := fun r w' => r = .int .u8 (if b = true then 1 else 0) ∧ w = w') ?_ ?_
  · refine c58 b w _ ?_
    unfold C58
    cases b
    · exact ifB.f rfl ⟨rfl, rfl⟩
    · exact ifB.t rfl ⟨rfl, rfl⟩
  · rintro _ _ ⟨rfl, rfl⟩
    exact ⟨_, rfl, h _ (by cases b <;> rfl)⟩

/-- Bytes put behind bytes of one's own. -/
structure Own (w0 w : World) (v : Sl) (bs : List UInt8) : Prop where
  is : IsB w v bs
  lo : ∀ k, blkOf v k → w0.heap.size ≤ k
theorem Own.keep0 {w0 w w' : World} {v : Sl} {bs : List UInt8} (h : Own w0 w v bs) (f : Fr none1 w w') : Own w0 w' v bs := ⟨h.is.keep0 f, h.lo⟩
theorem Own.app {w0 w : World} {x : Sl} {xs : List UInt8} (hx : Own w0 w x xs) (h0 : w0.heap.size ≤ w.heap.size) {y : Sl} {ys : List UInt8} (hy : RdB w y ys) (hl : xs.length + ys.length ≤ 140737488355000) {K : (Option Addr × Nat × Nat) → World → Prop}
    (k : ∀ (u : Sl) w', Own w0 w' u (xs ++ ys) → Fr (blkOf x) w w' → K u w') :
    RunK Tryz.prog (Builtin.append_ #[22, 22] 22 #[.slice x.1 x.2.1 x.2.2, .slice y.1 y.2.1 y.2.2]) w (.v (.one .slc)) (fun (u : Option Addr × Nat × Nat) w' => K u w') := by
  obtain ⟨u, w', hr, hu, f, uf⟩ := append_bytes hx.is hy hl
  refine ⟨u, w', hr, k u w' ⟨hu, fun j hj => ?_⟩ f⟩
  rcases uf j hj with t | t
  · exact hx.lo j t
  · omega
theorem lit1 {w : World} (c : UInt8) {K : (Option Addr × Nat × Nat) → World → Prop} (k : ∀ (u : Sl) w', IsB w' u [c] → Fr none1 w w' → (∀ j, blkOf u j → w.heap.size ≤ j) → K u w') :
    RunK Tryz.prog (Instr.buildSlice 22 1 #[(0, bc c)]) w (.v (.one .slc)) (fun (u : Option Addr × Nat × Nat) w' => K u w') := by
  obtain ⟨x, w', hr, hx, _, f, xf⟩ := lit_ok (P := Tryz.prog) (w := w) elem_byte [bc c] (by simp [bc, Value.cells]) (by simp)
  exact ⟨x, w', hr, k x w' hx f xf⟩
theorem pnumK (n : Int) (w : World) {K : (Option Addr × Nat × Nat) → World → Prop} (k : ∀ u w', IsB w' u (numL n) → Fr none1 w w' → K u w') : CallK Tryz.prog 57 #[.int .i64 n] w (.v (.one .slc)) (fun (x : Option Addr × Nat × Nat) w' => K x w') := by
  refine CallK.of (pnum_spec n w) ?_
  rintro _ w1 ⟨u, rfl, hu, f1, uf⟩
  exact ⟨u, rfl, k u w1 hu f1⟩
theorem hedK (n : Int) (h0 : 0 ≤ n) (h1 : n < 18446744073709551616) (w : World) {K : (Option Addr × Nat × Nat) → World → Prop} (k : ∀ u w', IsB w' u (hedL n) → Fr none1 w w' → K u w') : CallK Tryz.prog 31 #[.int .u64 n] w (.v (.one .slc)) (fun (x : Option Addr × Nat × Nat) w' => K x w') := by
  refine CallK.of (sbytes_spec n h0 h1 w) ?_
  rintro _ w1 ⟨u, rfl, hu, f1, uf⟩
  exact ⟨u, rfl, k u w1 hu f1⟩
theorem byteK (n : Int) : Value.int .u8 (IntKind.u8.wrap n) = bc (UInt8.ofNat (n % 256).toNat) := by
  unfold bc
  have h0 : 0 ≤ n % 256 := Int.emod_nonneg _ (by decide)
  have h1 : n % 256 < 256 := Int.emod_lt_of_pos _ (by decide)
  rw [u8_nat (by omega)]
  congr 1
  simp [IntKind.wrap, IntKind.signed, IntKind.bits]
  omega

theorem body_spec (f : FrT) (hT : ifcT (frE f).2.2.2.2.2.2.2.1) (hz : smallE (frE f)) (hh : 0 ≤ f.2.2.2.2.2.1 ∧ f.2.2.2.2.2.1 < 18446744073709551616) (ts : List UInt8) (hts : ts.length ≤ 1000000) (tr : Int) (w : World) (ht : Wrote w (frE f).2.2.2.2.2.2.2.1 ts tr) :
    Ret Tryz.prog 30 #[frA f] w fun r w' => ∃ v : Sl, r = .tuple #[.slice v.1 v.2.1 v.2.2, .int .i64 (bytesFr f ts tr).2] ∧ Own w w' v (bytesFr f ts tr).1 ∧ Fr none1 w w' := by
  refine c30 f w _ ?_
  unfold C30
  refine NewK.of fun g1 w1 hg1 hb1 f1 hs1 => ?_
  have hb1 : w1.heap[g1]? = some (.cells (frL f).toArray 38 (0, 0)) := hb1
  refine LdsK.blk (cks := FK) (x := f) hb1 ?_
  refine CallK.of (fcheck_spec f hT ts tr w1 (ht.keep f1)) ?_
  rintro _ w2 ⟨rfl, f2⟩
  refine ⟨_, rfl, ?_⟩
  have nob : ∀ k, ¬ blkOf ((none, 0, 0) : Sl) k := fun k ⟨a, ha, _⟩ => by cases ha
  unfold bytesFr
  refine ifB.ne (fun hne => ?_) (fun he => ?_)
  · rw [if_pos hne]
    exact ⟨(none, 0, 0), rfl, ⟨none_b w2, fun k hk => (nob k hk).elim⟩, f1.trans f2⟩
  rw [if_neg (fun t => t he)]
  have b2 := f2.keep0 hb1
  have F := f1.trans f2
  refine LdK.fld b2 (x := f.1) rfl ?_
  rw [byteK]
  refine lit1 _ fun x w3 hx f3 xf => ?_
  have h0 := F.size
  have F := F.trans f3
  have hx : Own w1 w3 x [UInt8.ofNat (f.1 % 256).toNat] := ⟨hx, fun k hk => by have := xf k hk; have := f2.size; omega⟩
  have b3 := f3.keep0 b2
  have hg : w.heap.size ≤ g1 := by omega
  have own : ∀ {wa : World} {v : Sl} {bs : List UInt8}, Own w1 wa v bs → ∀ k, blkOf v k → k ≠ g1 ∧ w.heap.size ≤ k := fun h k hk => by have := h.lo k hk; omega
  have q1 : ∀ {wa : World}, Fr none1 w wa → w1.heap.size ≤ wa.heap.size → ∀ {v : Sl} {bs : List UInt8}, Own w1 wa v bs → ∀ {wb : World}, Fr (blkOf v) wa wb → Fr none1 w wb := fun F _ _ _ h _ f => F.comp f fun k hk t => by have := (own h k t).2; omega
  have s13 : w1.heap.size ≤ w3.heap.size := by have := f2.size; have := f3.size; omega
  refine DrewK.of fun w4 _ f4 => HoldK.of (fun k => k = g1) (inG rfl (LdK.fld (f4.keep0 b3) (x := f.2.1) rfl (inG rfl (LdK.fld (f4.keep0 b3) (x := f.2.2.1) rfl ?_))))
  refine pnumK _ w4 fun n1 w5 hn1 f5 => KeepK.of f5 ?_
  have f35 := f4.trans f5
  have hx := hx.keep0 f35
  have b5 := f35.keep0 b3
  have F := F.trans f35
  have s15 : w1.heap.size ≤ w5.heap.size := by have := f35.size; omega
  refine hx.app s15 hn1.rd (by rw [numL_len]; simp only [List.length_singleton]; omega) fun y w6 hy f6 => KeepK.on f6 (fun k hk t => (own hx k t).1 hk) ?_
  have b6 := f6.keep b5 (fun t => (own hx _ t).1 rfl)
  have F := q1 F s15 hx f6
  have s16 : w1.heap.size ≤ w6.heap.size := by have := f6.size; omega
  clear hx b5 f35 f4 f5 hn1 b3 f6
  refine pnumK _ w6 fun n2 w7 hn2 f7 => KeepK.of f7 ?_
  have hy := hy.keep0 f7
  have b7 := f7.keep0 b6
  have F := F.trans f7
  have s17 : w1.heap.size ≤ w7.heap.size := by have := f7.size; omega
  refine hy.app s17 hn2.rd (by rw [numL_len, List.length_append, numL_len, List.length_singleton]; decide) fun z w8 hzz f8 => KeepK.on f8 (fun k hk t => (own hy k t).1 hk) ?_
  have b8 := f8.keep b7 (fun t => (own hy _ t).1 rfl)
  have F := q1 F s17 hy f8
  have s18 : w1.heap.size ≤ w8.heap.size := by have := f8.size; omega
  clear hy b7 f7 hn2 b6 f8
  refine DrewK.of fun w9 _ f9 => HoldK.of (fun k => k = g1) (inG rfl (LdK.fld (f9.keep0 b8) (x := f.2.2.2.1) rfl (inG rfl (LdK.fld (f9.keep0 b8) (x := f.2.2.2.2.1) rfl (KeepK.same ?_)))))
  rw [byteK]
  refine lit1 _ fun x2 w10 hx2 f10 x2f => KeepK.of f10 ?_
  have f810 := f9.trans f10
  have hzz := hzz.keep0 f810
  have b10 := f810.keep0 b8
  have F := F.trans f810
  have s110 : w1.heap.size ≤ w10.heap.size := by have := f810.size; omega
  refine hzz.app s110 hx2.rd (by simp only [List.length_append, numL_len, List.length_singleton]; decide) fun u w11 hu f11 => KeepK.on f11 (fun k hk t => (own hzz k t).1 hk) ?_
  have b11 := f11.keep b10 (fun t => (own hzz _ t).1 rfl)
  have F := q1 F s110 hzz f11
  have s111 : w1.heap.size ≤ w11.heap.size := by have := f11.size; omega
  clear hzz b10 f810 hx2 x2f b8 f11 f9 f10
  refine pnumK _ w11 fun n3 w12 hn3 f12 => KeepK.of f12 ?_
  have hu := hu.keep0 f12
  have b12 := f12.keep0 b11
  have F := F.trans f12
  have s112 : w1.heap.size ≤ w12.heap.size := by have := f12.size; omega
  refine hu.app s112 hn3.rd (by simp only [List.length_append, numL_len, List.length_singleton]; decide) fun v w13 hv f13 => KeepK.on f13 (fun k hk t => (own hu k t).1 hk) ?_
  have b13 := f13.keep b12 (fun t => (own hu _ t).1 rfl)
  have F := q1 F s112 hu f13
  have s113 : w1.heap.size ≤ w13.heap.size := by have := f13.size; omega
  clear hu b12 f12 hn3 b11 f13
  refine DrewK.of fun w14 _ f14 => HoldK.of (fun k => k = g1) (inG rfl (LdK.fld (f14.keep0 b13) (x := f.2.2.2.2.2.1) rfl (inG rfl (LdK.fld (f14.keep0 b13) (x := f.2.2.2.2.2.2.1) rfl ?_))))
  refine hedK _ hh.1 hh.2 w14 fun n4 w15 hn4 f15 => KeepK.of f15 ?_
  have f1315 := f14.trans f15
  have hv := hv.keep0 f1315
  have b15 := f1315.keep0 b13
  have F := F.trans f1315
  have s115 : w1.heap.size ≤ w15.heap.size := by have := f1315.size; omega
  refine hv.app s115 hn4.rd (by simp only [List.length_append, numL_len, hed_len, List.length_singleton]; decide) fun p w16 hp f16 => KeepK.on f16 (fun k hk t => (own hv k t).1 hk) ?_
  have b16 := f16.keep b15 (fun t => (own hv _ t).1 rfl)
  have F := q1 F s115 hv f16
  have s116 : w1.heap.size ≤ w16.heap.size := by have := f16.size; omega
  clear hv b15 f1315 hn4 b13 f16 f14 f15
  refine flagK _ w16 fun n hn => KeepK.same ?_
  rw [hn]
  refine lit1 _ fun x3 w17 hx3 f17 x3f => KeepK.of f17 ?_
  have hp := hp.keep0 f17
  have b17 := f17.keep0 b16
  have F := F.trans f17
  have s117 : w1.heap.size ≤ w17.heap.size := by have := f17.size; omega
  refine hp.app s117 hx3.rd (by simp only [List.length_append, numL_len, hed_len, List.length_singleton]; decide) fun r w18 hr f18 => KeepK.on f18 (fun k hk t => (own hp k t).1 hk) ?_
  have b18 := f18.keep b17 (fun t => (own hp _ t).1 rfl)
  have F := q1 F s117 hp f18
  have s118 : w1.heap.size ≤ w18.heap.size := by have := f18.size; omega
  clear hp b17 f17 hx3 x3f b16 f18
  have htop : ([UInt8.ofNat (f.1 % 256).toNat] ++ numL f.2.1 ++ numL f.2.2.1 ++ [UInt8.ofNat (f.2.2.2.1 % 256).toNat] ++ numL f.2.2.2.2.1 ++ hedL f.2.2.2.2.2.1 ++ [if f.2.2.2.2.2.2.1 = true then 1 else 0]) = topB f := by
    unfold topB; simp only [List.append_assoc, List.cons_append, List.nil_append]
  rw [htop] at hr
  have htl := top_len f
  have up : ∀ {wa : World} {v : Sl} {bs : List UInt8}, Own w1 wa v bs → Own w wa v bs := fun h => ⟨h.is, fun k hk => (own h k hk).2⟩
  refine LdK.fld b18 (x := f.2.2.2.1) rfl ?_
  refine ifB.ne (fun hne => ?_) (fun hk1 => ?_)
  · rw [if_pos hne]
    exact ⟨r, rfl, up hr, F⟩
  rw [if_neg (fun t => t hk1)]
  have hev : (packF (frE f) ts tr).2 = 0 := by
    unfold checkFr at he
    split at he
    · cases he
    split at he
    · cases he
    first | rw [if_pos hk1] at he | skip
    unfold packF; rw [if_neg (fun t => t he)]
  refine fr_ev b18 ?_
  refine CallK.of (event_spec (frE f) hT hz ts hts tr w18 fun _ wa fa => ht wa (F.trans fa)) ?_
  rintro _ w19 ⟨q, rfl, hq, f19, qf⟩
  refine ⟨(q, (packF (frE f) ts tr).2, ()), rfl, ?_⟩
  dsimp only
  refine ifB.f (by rw [hev]; rfl) ?_
  have hpl := packF_len (frE f) hz ts hts tr
  refine (hr.keep0 f19).app (by have := f19.size; omega) hq.rd (by omega) fun o w20 ho f20 => ?_
  exact ⟨o, rfl, up ho, q1 (F.trans f19) (by have := f19.size; omega) (hr.keep0 f19) f20⟩

theorem seal_spec (kb : List UInt8) (hk : kb.length = 16) (f : FrT) (hT : ifcT (frE f).2.2.2.2.2.2.2.1) (hz : smallE (frE f)) (hh : 0 ≤ f.2.2.2.2.2.1 ∧ f.2.2.2.2.2.1 < 18446744073709551616) (ts : List UInt8) (hts : ts.length ≤ 1000000) (tr : Int) (w : World) (ht : Wrote w (frE f).2.2.2.2.2.2.2.1 ts tr) :
    Ret Tryz.prog 8 #[.agg (keyL kb).toArray, frA f] w fun r w' => ∃ v : Sl, r = .tuple #[.slice v.1 v.2.1 v.2.2, .int .i64 (sealF kb f ts tr).2] ∧ Own w w' v (sealF kb f ts tr).1 ∧ Fr none1 w w' := by
  refine c8 (keyL kb) f w _ ?_
  unfold C8
  refine NewK.of fun g0 w0 hg0 hb0 f0 _ => NewK.of fun g1 w1 hg1 hb1 f1 hs1 => ?_
  have hb1 : w1.heap[g1]? = some (.cells (frL f).toArray 38 (0, 0)) := hb1
  have f01 := f0.trans f1
  refine LdsK.blk (cks := FK) (x := f) hb1 ?_
  refine CallK.of (body_spec f hT hz hh ts hts tr w1 (ht.keep f01)) ?_
  rintro _ w2 ⟨v, rfl, hv, f2⟩
  refine ⟨(v, (bytesFr f ts tr).2, ()), rfl, ?_⟩
  have F := f01.trans f2
  have hbl : (bytesFr f ts tr).1.length ≤ 10000035 := by
    have := packF_len (frE f) hz ts hts tr
    have := top_len f
    unfold bytesFr
    split
    · simp
    split
    · dsimp only; omega
    · dsimp only; rw [List.length_append]; omega
  unfold sealF
  dsimp only
  have s01 := f01.size
  refine ifB.ne (fun hne => ?_) (fun he => ?_)
  · rw [if_pos hne]
    exact ⟨(none, 0, 0), rfl, ⟨none_b w2, fun k ⟨a, ha, _⟩ => by cases ha⟩, F⟩
  rw [if_neg (fun t => t he)]
  generalize (bytesFr f ts tr).1 = bs at *
  refine LdaK.of (f2.keep0 (f1.keep0 hb0)) (by simp [keyL, hk]) ?_
  refine CallK.of (sip_spec hk hv.is.rd hv.is.cap (by omega)) ?_
  rintro _ w3 ⟨rfl, f3⟩
  refine ⟨_, rfl, ?_⟩
  have hr := sum_rng kb bs
  refine hedK _ hr.1 hr.2 w3 fun u w4 hu f4 => ?_
  have f24 := f3.trans f4
  have s24 := f24.size; have s2 := f2.size
  refine (hv.keep0 f24).app (by omega) hu.rd (by rw [hed_len]; omega) fun o w5 ho f5 => ?_
  exact ⟨o, rfl, ⟨ho.is, fun k hk => by have := ho.lo k hk; omega⟩, (F.trans f24).comp f5 fun k hk t => by have := hv.lo k t; omega⟩

end Go.Proofs.YtdphmcanlhcokaaGreatDoor

/-! ### FrameF -/
set_option linter.unusedVariables false
set_option maxRecDepth 100000
namespace Go.Proofs.YtdphmcanlhcokaaGreatDoor
open Vc

/-- A frame, its event's contract as a tree. -/
abbrev FrM := Int × Int × Int × Int × Int × Int × Bool × EvM
def FrM.f (m : FrM) : FrT := (m.1, m.2.1, m.2.2.1, m.2.2.2.1, m.2.2.2.2.1, m.2.2.2.2.2.1, m.2.2.2.2.2.2.1, m.2.2.2.2.2.2.2.e)
def FrM.m (m : FrM) : EvM := m.2.2.2.2.2.2.2
def zeroFr : FrM := (0, 0, 0, 0, 0, 0, false, zeroM)
def bytesM (m : FrM) : List UInt8 × Int := bytesFr m.f (writeT m.m.t).1 (writeT m.m.t).2
def sealM (kb : List UInt8) (m : FrM) : List UInt8 × Int := sealF kb m.f (writeT m.m.t).1 (writeT m.m.t).2
def partL (bs : List UInt8) (a b : Nat) : List UInt8 := (bs.drop a).take (b - a)
def parseF (bs : List UInt8) : FrM :=
  (((bs.getD 0 0).toNat : Int), (takeL (partL bs 1 9)).1, (takeL (partL bs 9 17)).1, ((bs.getD 17 0).toNat : Int), (takeL (partL bs 18 26)).1, (lowL (partL bs 26 34) : Int), (bs.getD 34 0).toNat == 1,
    if (bs.getD 17 0).toNat = 1 then (takeP false (bs.drop 35)).1 else zeroM)
def textL (bs : List UInt8) : List UInt8 := bs.take (bs.length - 8)
def tailL (bs : List UInt8) : List UInt8 := bs.drop (bs.length - 8)
/-- The frame of bytes, or what is wrong with them. -/
def openF (kb bs : List UInt8) : FrM × Int :=
  if bs.length < 8 then (zeroFr, 2) else if tailL bs ≠ hedL (sumI kb (textL bs)) then (zeroFr, 12) else if (textL bs).length < 35 then (zeroFr, 2)
  else if (bytesM (parseF (textL bs))).2 ≠ 0 ∨ (bytesM (parseF (textL bs))).1 ≠ textL bs then (zeroFr, 2) else (parseF (textL bs), 0)

theorem counts_rng {n : Int} (h : countsF n = true) : 0 ≤ n ∧ n ≤ 2147483647 := by
  unfold countsF at h
  simp only [Bool.and_eq_true, decide_eq_true_eq] at h
  exact h
theorem check_fr {f : FrT} {tr : Int} (h : checkFr f tr = 0) : (f.1 = 0 ∨ f.1 = 1) ∧ (0 ≤ f.2.1 ∧ f.2.1 ≤ 2147483647) ∧ (0 ≤ f.2.2.1 ∧ f.2.2.1 ≤ 2147483647) ∧ (0 ≤ f.2.2.2.2.1 ∧ f.2.2.2.2.1 ≤ 2147483647) ∧ (1 ≤ f.2.2.2.1 ∧ f.2.2.2.1 ≤ 4) ∧
    (f.2.2.2.1 = 1 → checkF (frE f) tr = 0) ∧ (f.2.2.2.1 ≠ 1 → noneF (frE f) = true) := by
  unfold checkFr at h
  by_cases h1 : headF f = false
  · rw [if_pos h1] at h; cases h
  rw [if_neg h1] at h
  by_cases h2 : kindF f = false
  · rw [if_pos h2] at h; cases h
  rw [if_neg h2] at h
  have h1 : headF f = true := by simpa using h1
  have h2 : kindF f = true := by simpa using h2
  unfold headF at h1
  simp only [Bool.and_eq_true, Bool.or_eq_true, beq_iff_eq] at h1
  obtain ⟨a, b, c, d⟩ := h1
  unfold kindF at h2
  rw [Bool.and_eq_true, Bool.and_eq_true, decide_eq_true_eq, decide_eq_true_eq] at h2
  refine ⟨a, counts_rng b, counts_rng c, counts_rng d, ⟨h2.1, h2.2.1⟩, fun k => ?_, fun k => ?_⟩
  · rw [if_pos k] at h; exact h
  · rw [if_neg k] at h
    by_cases hn : noneF (frE f) = false
    · rw [if_pos hn] at h; cases h
    · simpa using hn

theorem bytes_ok {m : FrM} {bs : List UInt8} (h : bytesM m = (bs, 0)) : checkFr m.f (writeT m.m.t).2 = 0 ∧ bs = topB m.f ++ (if m.2.2.2.1 = 1 then (packM m.m).1 else []) ∧ (m.2.2.2.1 = 1 → (packM m.m).2 = 0) := by
  unfold bytesM bytesFr at h
  by_cases h0 : checkFr m.f (writeT m.m.t).2 ≠ 0
  · rw [if_pos h0] at h; injection h with _ h; exact (h0 h).elim
  rw [if_neg h0] at h
  have h0 : checkFr m.f (writeT m.m.t).2 = 0 := Classical.not_not.1 h0
  refine ⟨h0, ?_, fun k => ?_⟩
  · by_cases k : m.2.2.2.1 = 1
    · rw [if_pos k]
      rw [if_neg (fun t => t k)] at h
      injection h with h _
      exact h.symm
    · rw [if_neg k]
      rw [if_pos (show m.f.2.2.2.1 ≠ 1 from k)] at h
      injection h with h _
      rw [← h, List.append_nil]
  · have := (check_fr h0).2.2.2.2.2.1 k
    show (packF m.m.e _ _).2 = 0
    unfold packF
    rw [if_neg (fun t => t this)]

theorem seal_ok {kb : List UInt8} {m : FrM} (h : (sealM kb m).2 = 0) : bytesM m = ((bytesM m).1, 0) ∧ (sealM kb m).1 = (bytesM m).1 ++ hedL (sumI kb (bytesM m).1) := by
  unfold sealM sealF at h ⊢
  by_cases h0 : (bytesFr m.f (writeT m.m.t).1 (writeT m.m.t).2).2 ≠ 0
  · rw [if_pos h0] at h; exact (h0 h).elim
  · rw [if_neg h0]
    exact ⟨Prod.ext rfl (Classical.not_not.1 h0), rfl⟩

end Go.Proofs.YtdphmcanlhcokaaGreatDoor

/-! ### FrameSpec2 -/
set_option linter.unusedVariables false
set_option maxRecDepth 100000
namespace Go.Proofs.YtdphmcanlhcokaaGreatDoor
open Vc

theorem frM_one (m : FrM) : (frL m.f).all one1 = true := frL_one (Tm.v_one _)

theorem parse_spec {w : World} {v : Sl} {bs : List UInt8} (h : RdB w v bs) (hc : v.2.1 ≤ v.2.2) (hl : 35 ≤ bs.length) (ht : TabW w) : Ret Tryz.prog 40 #[.slice v.1 v.2.1 v.2.2] w fun r w' => r = frA (parseF bs).f ∧ Fr none1 w w' := by
  refine c40 v.1 v.2.1 v.2.2 w _ ?_
  unfold C40
  have hvl := h.len
  refine NewK.of fun g1 w1 hg1 hb1 f1 hs1 => ?_
  have hb1 : w1.heap[g1]? = some (.cells (frL zeroFr.f).toArray 38 (0, 0)) := hb1
  refine DrewK.of fun w2 _ f2 => HoldK.of (fun k => k < w.heap.size) ?_
  have f12 := f1.trans f2
  have h2 := h.keep0 f12
  have hne : bs ≠ [] := fun t => by rw [t] at hl; simp at hl
  have hS : ∀ a, v.1 = some a → (fun k => k < w.heap.size) a.block := fun a ha => h.ltE hne ⟨a, ha, rfl⟩
  refine IdxK.ink hS (RdB.at h2 (by decide) (by omega) (IdxK.ink hS (RdB.at h2 (by decide) (by omega) (IdxK.ink hS (RdB.at h2 (by decide) (by omega) ?_)))))
  rw [show Int.toNat 0 = 0 by rfl, show Int.toNat 17 = 17 by rfl, show Int.toNat 34 = 34 by rfl]
  have b0 := (bs.getD 0 0).toNat_lt
  have b17 := (bs.getD 17 0).toNat_lt
  rw [wI (x := ((bs.getD 0 0).toNat : Int)) (by omega) (by omega), wI (x := ((bs.getD 17 0).toNat : Int)) (by omega) (by omega)]
  have s12 := f12.size
  refine NewK.of fun g w3 hg hb3 f3 hs3 => KeepK.of f3 ?_
  obtain ⟨fl, hfl⟩ : ∃ fl, fl = (((bs.getD 34 0).toNat : Int) == 1) := ⟨_, rfl⟩
  rw [← hfl]
  obtain ⟨X, hX⟩ : ∃ X : FrM, X = (((bs.getD 0 0).toNat : Int), 0, 0, ((bs.getD 17 0).toNat : Int), 0, 0, fl, zeroM) := ⟨_, rfl⟩
  refine StsK.blk (cs := frL zeroFr.f) (vs := frL (EvM.e zeroM |> fun e => ((((bs.getD 0 0).toNat : Int), 0, 0, ((bs.getD 17 0).toNat : Int), 0, 0, fl, e) : FrT))) hb3 rfl (frL_one rfl) fun w4 hb4 f4 hs4 => KeepK.on f4 (fun k hk t => by have : k = g := t; omega) ?_
  have F4 : Fr none1 w w4 := (f12.trans f3).fresh f4 (by omega)
  have g14 := f4.keep (f3.keep0 (f2.keep0 hb1)) (fun t => by have : g1 = g := t; have := lt_of_blk hb1; have := f2.size; omega)
  have h4 := h.keep0 F4
  refine RdB.mid h4 (by decide) (by decide) (by omega) hc fun u1 hu1 _ _ _ => ?_
  refine CallK.of (ptake_spec hu1) ?_
  rintro _ _ ⟨rfl, rfl⟩
  refine ⟨((takeL (partL bs 1 9)).1, (takeL (partL bs 1 9)).2, ()), rfl, ?_⟩
  refine StK.fld hb4 (by show 0 + 1 < 15; omega) rfl fun w5 hb5 f5 _ => ?_
  have F5 : Fr none1 w w5 := F4.fresh f5 (by omega)
  have h5 := h.keep0 F5
  have g15 := f5.keep g14 (fun t => by have : g1 = g := t; have := lt_of_blk hb1; have := f2.size; omega)
  refine RdB.mid h5 (by decide) (by decide) (by omega) hc fun u2 hu2 _ _ _ => ?_
  refine CallK.of (ptake_spec hu2) ?_
  rintro _ _ ⟨rfl, rfl⟩
  refine ⟨((takeL (partL bs 9 17)).1, (takeL (partL bs 9 17)).2, ()), rfl, ?_⟩
  refine StK.fld hb5 (by show 0 + 2 < 15; omega) rfl fun w6 hb6 f6 _ => ?_
  have F6 : Fr none1 w w6 := F5.fresh f6 (by omega)
  have h6 := h.keep0 F6
  have g16 := f6.keep g15 (fun t => by have : g1 = g := t; have := lt_of_blk hb1; have := f2.size; omega)
  refine RdB.mid h6 (by decide) (by decide) (by omega) hc fun u3 hu3 _ _ _ => ?_
  refine CallK.of (ptake_spec hu3) ?_
  rintro _ _ ⟨rfl, rfl⟩
  refine ⟨((takeL (partL bs 18 26)).1, (takeL (partL bs 18 26)).2, ()), rfl, ?_⟩
  refine StK.fld hb6 (by show 0 + 4 < 15; omega) rfl fun w7 hb7 f7 _ => ?_
  have F7 : Fr none1 w w7 := F6.fresh f7 (by omega)
  have h7 := h.keep0 F7
  have g17 := f7.keep g16 (fun t => by have : g1 = g := t; have := lt_of_blk hb1; have := f2.size; omega)
  refine RdB.mid h7 (by decide) (by decide) (by omega) hc fun u4 hu4 _ _ _ => ?_
  have hp8 : (partL bs 26 34).length = 8 := by unfold partL; rw [List.length_take, List.length_drop]; omega
  have hu4 : RdB w7 u4 (partL bs 26 34) := hu4
  refine CallK.of (snumber_spec hu4) ?_
  rintro _ _ ⟨rfl, rfl⟩
  rw [if_pos hp8]
  refine ⟨((lowL (partL bs 26 34) : Int), decide ((partL bs 26 34).length = 8), ()), rfl, ?_⟩
  refine StK.fld hb7 (by show 0 + 5 < 15; omega) rfl fun w8 hb8 f8 _ => ?_
  have F8 : Fr none1 w w8 := F7.fresh f8 (by omega)
  have h8 := h.keep0 F8
  have g18 := f8.keep g17 (fun t => by have : g1 = g := t; have := lt_of_blk hb1; have := f2.size; omega)
  have hb8 : w8.heap[g]? = some (.cells (frL (FrM.f (((bs.getD 0 0).toNat : Int), (takeL (partL bs 1 9)).1, (takeL (partL bs 9 17)).1, ((bs.getD 17 0).toNat : Int), (takeL (partL bs 18 26)).1, (lowL (partL bs 26 34) : Int), fl, zeroM))).toArray 38 (0, 0)) := by rw [hb8]; rfl
  have fin : ∀ (Y : FrM) (w9 : World), w9.heap[g]? = some (.cells (frL Y.f).toArray 38 (0, 0)) → w9.heap[g1]? = some (.cells (frL zeroFr.f).toArray 38 (0, 0)) → Fr none1 w w9 → Y = parseF bs →
      LdsK FK ⟨g, 0, none⟩ w9 (fun (x45 : Cs FK) => StsK ⟨g1, 0, none⟩ (Cs.vals FK x45) w9 (fun w46 => LdsK FK ⟨g1, 0, none⟩ w46 (fun (x47 : Cs FK) => (Value.agg (Cs.vals FK x47).toArray) = frA (parseF bs).f ∧ Fr none1 w w46))) := fun Y w9 hY h1 F9 e => by
    subst e
    refine LdsK.blk (cks := FK) (x := (parseF bs).f) hY ?_
    refine StsK.blk (cs := frL zeroFr.f) (vs := frL (parseF bs).f) h1 rfl (frM_one _) fun w10 hb10 f10 _ => LdsK.blk (cks := FK) (x := (parseF bs).f) hb10 ?_
    exact ⟨rfl, F9.fresh f10 (by omega)⟩
  have hfl' : ((bs.getD 34 0).toNat == 1) = fl := by
    rw [hfl, Bool.eq_iff_iff]; simp only [beq_iff_eq]; omega
  refine LdK.fld hb8 (x := ((bs.getD 17 0).toNat : Int)) rfl ?_
  refine ifB.eq (fun h1 => ?_) (fun h1 => ?_)
  · refine RdB.mid h8 (by decide) (by omega) (Int.le_refl _) hc fun u5 hu5 hu5c _ _ => ?_
    have e35 : (bs.drop (35 : Int).toNat).take ((v.2.1 : Int) - 35).toNat = bs.drop 35 := by
      rw [show (35 : Int).toNat = 35 by rfl]
      exact List.take_of_length_le (by rw [List.length_drop]; omega)
    rw [e35] at hu5
    refine CallK.of (take_spec hu5 hu5c (ht.keep0 F8)) ?_
    rintro _ w9 ⟨rfl, f9⟩
    refine ⟨((takeP false (bs.drop 35)).1.e, (takeP false (bs.drop 35)).2, ()), rfl, ?_⟩
    have e : parseF bs = (((bs.getD 0 0).toNat : Int), (takeL (partL bs 1 9)).1, (takeL (partL bs 9 17)).1, ((bs.getD 17 0).toNat : Int), (takeL (partL bs 18 26)).1, (lowL (partL bs 26 34) : Int), fl, (takeP false (bs.drop 35)).1) := by
      unfold parseF; rw [if_pos (by omega), hfl']
    obtain ⟨a1, a2, a3, a4⟩ := setCells_all (T := 38) (b := g) (evL (takeP false (bs.drop 35)).1.e) w9 [.int .i64 ((bs.getD 0 0).toNat : Int), .int .i64 (takeL (partL bs 1 9)).1, .int .i64 (takeL (partL bs 9 17)).1, .int .i64 ((bs.getD 17 0).toNat : Int), .int .i64 (takeL (partL bs 18 26)).1, .int .u64 (lowL (partL bs 26 34) : Int), .bool fl] (evL zeroM.e) (f9.keep0 hb8) rfl (evL_one (Tm.v_one _))
    refine ⟨writes_shift _ _ 0 a1, ?_⟩
    rw [setCells_shift]
    refine fin _ _ ?_ (a3.keep (f9.keep0 g18) (fun t => by have : g1 = g := t; have := lt_of_blk hb1; have := f2.size; omega)) ((F8.trans f9).fresh a3 (by omega)) e.symm
    exact a2
  · refine fin _ w8 hb8 g18 F8 ?_
    unfold parseF; rw [if_neg (by omega), hfl']

end Go.Proofs.YtdphmcanlhcokaaGreatDoor

/-! ### FrameSpec3 -/
set_option linter.unusedVariables false
set_option maxRecDepth 100000
namespace Go.Proofs.YtdphmcanlhcokaaGreatDoor
open Vc

theorem parse_small (bs : List UInt8) : smallM (parseF bs).m := by
  unfold parseF
  show smallM (if (bs.getD 17 0).toNat = 1 then (takeP false (bs.drop 35)).1 else zeroM)
  have hz : smallM zeroM := ⟨by decide, by decide, by decide, by decide, by decide⟩
  split
  · unfold takeP; split
    · exact takeM_small false _
    · exact hz
  · exact hz
theorem parse_head (bs : List UInt8) : 0 ≤ (parseF bs).2.2.2.2.2.1 ∧ (parseF bs).2.2.2.2.2.1 < 18446744073709551616 := by
  unfold parseF
  dsimp only
  have h := low_lt (partL bs 26 34)
  have h2 : 256 ^ (partL bs 26 34).length ≤ 256 ^ 8 := Nat.pow_le_pow_right (by decide) (by unfold partL; rw [List.length_take]; omega)
  have : (256 : Nat) ^ 8 = 18446744073709551616 := by decide
  omega

theorem fbody_m (m : FrM) (hs : smallE m.m.e) (hn : nodesT m.m.t ≤ 1000000) (hh : 0 ≤ m.2.2.2.2.2.1 ∧ m.2.2.2.2.2.1 < 18446744073709551616) (w : World) (ht : TabW w) :
    Ret Tryz.prog 30 #[frA m.f] w fun r w' => ∃ v : Sl, r = .tuple #[.slice v.1 v.2.1 v.2.2, .int .i64 (bytesM m).2] ∧ Own w w' v (bytesM m).1 ∧ Fr none1 w w' := by
  have hl := write_short m.m.t
  exact body_spec m.f (ifc_v m.m.t) hs hh (writeT m.m.t).1 (by omega) (writeT m.m.t).2 w (wrote_tm m.m.t hn ht)
theorem fseal_m (kb : List UInt8) (hk : kb.length = 16) (m : FrM) (hs : smallE m.m.e) (hn : nodesT m.m.t ≤ 1000000) (hh : 0 ≤ m.2.2.2.2.2.1 ∧ m.2.2.2.2.2.1 < 18446744073709551616) (w : World) (ht : TabW w) :
    Ret Tryz.prog 8 #[.agg (keyL kb).toArray, frA m.f] w fun r w' => ∃ v : Sl, r = .tuple #[.slice v.1 v.2.1 v.2.2, .int .i64 (sealM kb m).2] ∧ Own w w' v (sealM kb m).1 ∧ Fr none1 w w' := by
  have hl := write_short m.m.t
  exact seal_spec kb hk m.f (ifc_v m.m.t) hs hh (writeT m.m.t).1 (by omega) (writeT m.m.t).2 w (wrote_tm m.m.t hn ht)

theorem fopen_spec (kb : List UInt8) (hk : kb.length = 16) {w : World} {v : Sl} {bs : List UInt8} (h : RdB w v bs) (hc : v.2.1 ≤ v.2.2) (hl : bs.length ≤ 140737488355300) (ht : TabW w) :
    Ret Tryz.prog 18 #[.agg (keyL kb).toArray, .slice v.1 v.2.1 v.2.2] w fun r w' => r = .tuple #[frA (openF kb bs).1.f, .int .i64 (openF kb bs).2] ∧ Fr none1 w w' := by
  refine c18 (keyL kb) v.1 v.2.1 v.2.2 w _ ?_
  unfold C18
  have hvl := h.len
  refine NewK.of fun g0 w0 hg0 hb0 f0 hs0 => NewK.of fun g w1 hg hb1 f1 hs1 => ?_
  have hb1 : w1.heap[g]? = some (.cells (frL zeroFr.f).toArray 38 (0, 0)) := hb1
  have f01 := f0.trans f1
  have fail : ∀ (code : Int), openF kb bs = (zeroFr, code) → ∀ w2, w2.heap[g]? = some (.cells (frL zeroFr.f).toArray 38 (0, 0)) → Fr none1 w w2 → StsK ⟨g, 0, none⟩ (frL zeroFr.f) w2 (fun w5 => LdsK FK ⟨g, 0, none⟩ w5 (fun (x6 : Cs FK) => (Value.tuple #[.agg (Cs.vals FK x6).toArray, .int .i64 code]) = .tuple #[frA (openF kb bs).1.f, .int .i64 (openF kb bs).2] ∧ Fr none1 w w5)) := fun code e w2 hb f2 => by
    rw [e]
    refine StsK.blk (cs := frL zeroFr.f) (vs := frL zeroFr.f) hb rfl (frM_one zeroFr) fun w3 hb3 f3 _ => LdsK.blk (cks := FK) (x := zeroFr.f) hb3 ?_
    exact ⟨rfl, f2.fresh f3 (by omega)⟩
  have s01 := f01.size
  have hO : openF kb bs = if bs.length < 8 then (zeroFr, 2) else if tailL bs ≠ hedL (sumI kb (textL bs)) then (zeroFr, 12) else if (textL bs).length < 35 then (zeroFr, 2)
      else if (bytesM (parseF (textL bs))).2 ≠ 0 ∨ (bytesM (parseF (textL bs))).1 ≠ textL bs then (zeroFr, 2) else (parseF (textL bs), 0) := rfl
  refine ifB.dec (fun hlt => ?_) (fun hge => ?_)
  · exact fail 2 (by rw [hO, if_pos (by omega)]) w1 hb1 f01
  rw [if_neg (by omega)] at hO
  refine DrewK.of fun w2 _ f2 => ?_
  have f02 := f01.trans f2
  have hb2 := f2.keep0 hb1
  have h2 := h.keep0 f02
  rw [wI (x := (v.2.1 : Int) - 8) (by omega) (by omega)]
  obtain ⟨n, hn⟩ : ∃ n, n = bs.length - 8 := ⟨_, rfl⟩
  refine RdB.sub h2 (by omega) (by omega) hc fun hT => ?_
  refine RdB.mid h2 (by omega) (by omega) (Int.le_refl _) hc fun u hu huc hul hub => ?_
  have en : ((v.2.1 : Int) - 8).toNat = n := by omega
  have e8 : ((v.2.1 : Int) - ((v.2.1 : Int) - 8)).toNat = 8 := by omega
  rw [en] at hT hu ⊢
  rw [e8, List.take_of_length_le (by rw [List.length_drop]; omega)] at hu
  have hnc : n ≤ v.2.2 := by omega
  have etx : textL bs = bs.take n := by unfold textL; rw [hn]
  have etl : tailL bs = bs.drop n := by unfold tailL; rw [hn]
  rw [← etx] at hT
  rw [← etl] at hu
  have htl : (textL bs).length = n := by rw [etx, List.length_take]; omega
  refine LdaK.of (f2.keep0 (f1.keep0 hb0)) (by simp [keyL, hk]) ?_
  refine CallK.of (sip_spec (v := (v.1, n, v.2.2)) hk hT hnc (by omega)) ?_
  rintro _ w3 ⟨rfl, f3⟩
  refine ⟨_, rfl, ?_⟩
  have hr := sum_rng kb (textL bs)
  refine hedK _ hr.1 hr.2 w3 fun q w4 hq f4 => ?_
  have f24 := f3.trans f4
  refine CallK.of (ssame_spec (hu.keep0 f24) hq.rd) ?_
  rintro _ _ ⟨rfl, rfl⟩
  refine ⟨_, rfl, ?_⟩
  have f04 := f02.trans f24
  have hb4 := f24.keep0 hb2
  refine ifB.not (ifB.by (fun heq => ?_) (fun hne => fail 12 (by rw [hO, if_pos (by intro t; rw [t] at hne; simp at hne)]) w4 hb4 f04))
  rw [if_neg (by simpa using heq)] at hO
  refine ifB.dec (fun hlt => ?_) (fun hge35 => ?_)
  · exact fail 2 (by rw [hO, if_pos (by omega)]) w4 hb4 f04
  rw [if_neg (by omega)] at hO
  have hT4 := hT.keep0 f24
  have hsm := parse_small (textL bs)
  have hph := parse_head (textL bs)
  refine CallK.of (parse_spec (v := (v.1, n, v.2.2)) hT4 hnc (by omega) (ht.keep0 f04)) ?_
  rintro _ w5 ⟨rfl, f5⟩
  generalize textL bs = tx at *
  generalize parseF tx = X at *
  refine ⟨X.f, rfl, ?_⟩
  refine ns_ok (zs := frL zeroFr.f) (vs := frL X.f) rfl (frM_one X) fun g6 w6 hg6 hb6 f6 => ?_
  have f46 := f5.trans f6
  have f06 := f04.trans f46
  refine LdsK.blk (cks := FK) (x := X.f) hb6 ?_
  refine CallK.of (fbody_m X hsm.e hsm.2.2.2.2 hph w6 (ht.keep0 f06)) ?_
  rintro _ w7 ⟨y, rfl, hy, f7⟩
  refine ⟨(y, (bytesM X).2, ()), rfl, ?_⟩
  have f07 := f06.trans f7
  have hb7 := f7.keep0 (f46.keep0 hb4)
  dsimp only
  refine ifB.ne (fun hne => ?_) (fun he => ?_)
  · exact fail 2 (by rw [hO, if_pos (.inl hne)]) w7 hb7 f07
  refine CallK.of (bequal_spec (u := (v.1, n, v.2.2)) hy.is.rd ((hT4.keep0 f46).keep0 f7)) ?_
  rintro _ _ ⟨rfl, rfl⟩
  refine ⟨_, rfl, ifB.not (ifB.by (fun heq2 => ?_) (fun hne2 => ?_))⟩
  · rw [if_neg (by rw [he]; simpa using heq2)] at hO
    rw [hO]
    refine LdsK.blk (cks := FK) (x := X.f) (f7.keep0 hb6) ?_
    refine StsK.blk (cs := frL zeroFr.f) (vs := frL X.f) hb7 rfl (frM_one X) fun w8 hb8 f8 _ => LdsK.blk (cks := FK) (x := X.f) hb8 ?_
    exact ⟨rfl, f07.fresh f8 (by omega)⟩
  · exact fail 2 (by rw [hO, if_pos (.inr (by intro t; rw [t] at hne2; simp at hne2))]) w7 hb7 f07

/-! ### The example of the chapter -/
def zeroK : List UInt8 := List.replicate 16 0
def wantM : FrM := (0, 0, 0, 3, 0, 0, false, zeroM)
theorem want_ok : (sealM zeroK wantM).2 = 0 ∧ (sealM zeroK wantM).1.length = 43 := by
  have hb : bytesFr wantM.f (writeT wantM.m.t).1 (writeT wantM.m.t).2 = (topB wantM.f, 0) := by
    have : checkFr wantM.f (writeT wantM.m.t).2 = 0 := by simp [checkFr, headF, countsF, kindF, noneF, wantM, FrM.f, frE, EvM.e, zeroM, nilT, Tm.v, empty_str]
    unfold bytesFr
    rw [if_neg (by rw [this]; decide), if_pos (show wantM.f.2.2.2.1 ≠ 1 by decide)]
  unfold sealM sealF
  rw [hb, if_neg (by decide)]
  exact ⟨rfl, by dsimp only; rw [List.length_append, top_len, hed_len]⟩
theorem open_nil (kb : List UInt8) : openF kb [] = (zeroFr, 2) := by unfold openF; rw [if_pos (by decide)]

theorem wakes19_spec (w : World) (ht : TabW w) : Ret Tryz.prog 10 #[] w fun r w' => r = .bool true ∧ Fr none1 w w' := by
  refine c10 w _ ?_
  unfold C10
  refine CallK.of (fopen_spec zeroK rfl (v := (none, 0, 0)) (bs := []) (none_rd w) (Nat.le_refl _) (by decide) ht) ?_
  rintro _ w1 ⟨rfl, f1⟩
  rw [open_nil]
  refine ⟨(zeroFr.f, 2, ()), rfl, ?_⟩
  refine ns_skip (zs := frL zeroFr.f) (vs := frL zeroFr.f) rfl (frM_one zeroFr) fun w2 f2 => ?_
  have f12 := f1.trans f2
  refine CallK.of (fseal_m zeroK rfl wantM ⟨by decide, by decide, by decide, by decide⟩ (by decide) (by decide) w2 (ht.keep0 f12)) ?_
  rintro _ w3 ⟨v, rfl, hv, f3⟩
  obtain ⟨h1, h2⟩ := want_ok
  refine ⟨(v, (sealM zeroK wantM).2, ()), rfl, ?_⟩
  have hvl := hv.is.len
  rw [h2] at hvl
  refine ifB.t rfl (ifB.t (by rw [h1]; rfl) ?_)
  refine ⟨?_, f12.trans f3⟩
  dsimp only
  rw [hvl]; rfl

end Go.Proofs.YtdphmcanlhcokaaGreatDoor

/-! ### CSameG -/
namespace Go.Proofs.YtdphmcanlhcokaaGreatDoor
open Vc
set_option maxRecDepth 100000
set_option linter.unusedVariables false

/-- handfast/term.Same -/
def C45 (p0 : Value) (p1 : Value) (w : World) (K : Value → World → Prop) : Prop :=
  CallK Tryz.prog 72 #[p0] w (.v (.one (.int .i64))) (fun (x1 : Int) w2 => ifB (x1 == 0)
  (K (.bool false) w2)
  (CallK Tryz.prog 72 #[p0] w2 (.v (.one (.int .i64))) (fun (x3 : Int) w4 => CallK Tryz.prog 72 #[p1] w4 (.v (.one (.int .i64))) (fun (x5 : Int) w6 => ifB (x3 != x5)
  (K (.bool false) w6)
  (CallK Tryz.prog 73 #[p0] w6 (.tup [.one .str, .one (.int .i64)]) (fun (x7 : ByteArray × Int × Unit) w8 => CallK Tryz.prog 73 #[p1] w8 (.tup [.one .str, .one (.int .i64)]) (fun (x9 : ByteArray × Int × Unit) w10 => ifB (!(x7.1.toList == x9.1.toList))
  (K (.bool false) w10)
  (ifB (x7.2.1 != x9.2.1)
  (K (.bool false) w10)
  (CallK Tryz.prog 74 #[p0] w10 (.tup [.one .raw, .one .bool]) (fun (x11 : Value × Bool × Unit) w12 => ifB x11.2.1
  (CallK Tryz.prog 74 #[p1] w12 (.tup [.one .raw, .one .bool]) (fun (x13 : Value × Bool × Unit) w14 => CallK Tryz.prog 75 #[x11.1, x13.1] w14 (.v (.one .bool)) (fun (x15 : Bool) w16 => ifB (!x15)
  (K (.bool false) w16)
  (CallK Tryz.prog 77 #[p0] w16 (.v (.one .slc)) (fun (x17 : SlT) w18 => CallK Tryz.prog 77 #[p1] w18 (.v (.one .slc)) (fun (x19 : SlT) w20 => CallK Tryz.prog 76 #[.slice x17.1 x17.2.1 x17.2.2, .slice x19.1 x19.2.1 x19.2.2, .func (.func 45) #[] #[]] w20 (.v (.one .bool)) (fun (x21 : Bool) w22 => K (.bool x21) w22)))))))
  (CallK Tryz.prog 77 #[p0] w12 (.v (.one .slc)) (fun (x23 : SlT) w24 => CallK Tryz.prog 77 #[p1] w24 (.v (.one .slc)) (fun (x25 : SlT) w26 => CallK Tryz.prog 76 #[.slice x23.1 x23.2.1 x23.2.2, .slice x25.1 x25.2.1 x25.2.2, .func (.func 45) #[] #[]] w26 (.v (.one .bool)) (fun (x27 : Bool) w28 => K (.bool x27) w28))))))))))))))
def pl45 : Plan := .auto
theorem e45 (p0 : Value) (p1 : Value) (w : World) (K : Value → World → Prop) : vcFunc Tryz.prog Tryz.f45 pl45 [p0, p1] w K = C45 p0 p1 w K := by kernel_rfl

/-- slices.EqualFunc[[]handfast/api.Term,[]handfast/api.Term,handfast/api.Term,handfast/api.Term] -/
def C76 (p0 : Option Addr) (p0l p0c : Nat) (p1 : Option Addr) (p1l p1c : Nat) (p2 : Value) (w : World) (K : Value → World → Prop) : Prop :=
  ifB ((p0l : Int) != (p1l : Int))
  (K (.bool false) w)
  (LoopK (Int × Unit) (fun _ s1 w2 next3 => ifB (decide (s1.1 < (p0l : Int)))
  (IdxK p0 p0l s1.1 1 (fun a4 => LdK .raw a4 w2 (fun (x5 : Value) => IdxK p1 p1l s1.1 1 (fun a6 => LdK .raw a6 w2 (fun (x7 : Value) => callV Tryz.prog p2 [x5, x7] (.v (.one .bool)) w2 (fun (x8 : Bool) w9 => ifB (!x8)
  (K (.bool false) w9)
  (next3 (IntKind.i64.wrap (s1.1 + 1), ()) w9)))))))
  (K (.bool true) w2))
  (0, ()) w)
def pl76 : Plan := (.seq .auto (.seq .auto (.seq (.seq .auto (.block (.loop [(17, .one (.int .i64))] .auto))) .auto)))
theorem e76 (p0 : Option Addr) (p0l p0c : Nat) (p1 : Option Addr) (p1l p1c : Nat) (p2 : Value) (w : World) (K : Value → World → Prop) : vcFunc Tryz.prog Tryz.f76 pl76 [.slice p0 p0l p0c, .slice p1 p1l p1c, p2] w K = C76 p0 p0l p0c p1 p1l p1c p2 w K := by kernel_rfl

end Go.Proofs.YtdphmcanlhcokaaGreatDoor

/-! ### SameSpec -/
set_option linter.unusedVariables false
set_option maxRecDepth 100000
namespace Go.Proofs.YtdphmcanlhcokaaGreatDoor
open Vc

/-! ### Plain -/

/-! ### Structs of one part compared -/

/-! ### What the functions do -/

end Go.Proofs.YtdphmcanlhcokaaGreatDoor

/-! ### CEvSame -/
namespace Go.Proofs.YtdphmcanlhcokaaGreatDoor
open Vc
set_option maxRecDepth 100000
set_option linter.unusedVariables false
/-- handfast/event.Same -/
def C22 (p0 : YZ14) (p1 : YZ14) (w : World) (K : Value → World → Prop) : Prop :=
  NewK (.cells ((LZ14 p0).toArray) 36) w (fun g1 w2 => NewK (.cells ((LZ14 p1).toArray) 36) w2 (fun g3 w4 => JoinK (Bool × Unit) (fun J5 => LdK .raw ((ad g1).add 7) w4 (fun (x8 : Value) => RunK Tryz.prog (do eqGuard .eql 34 (.tmp 7) (.const .nilIface) x8 .nilIface; binOp .eql 34 x8 .nilIface) w4 (.v (.one .bool)) (fun (x9 : Bool) w10 => ifB x9
  (LdK .raw ((ad g3).add 7) w10 (fun (x11 : Value) => RunK Tryz.prog (do eqGuard .eql 34 (.tmp 11) (.const .nilIface) x11 .nilIface; binOp .eql 34 x11 .nilIface) w10 (.v (.one .bool)) (fun (x12 : Bool) w13 => ifB x12
  (J5 (true, ()) w13)
  (LdK .raw ((ad g1).add 7) w13 (fun (x14 : Value) => LdK .raw ((ad g3).add 7) w13 (fun (x15 : Value) => CallK Tryz.prog 45 #[x14, x15] w13 (.v (.one .bool)) (fun (x16 : Bool) w17 => J5 (x16, ()) w17)))))))
  (LdK .raw ((ad g1).add 7) w10 (fun (x18 : Value) => LdK .raw ((ad g3).add 7) w10 (fun (x19 : Value) => CallK Tryz.prog 45 #[x18, x19] w10 (.v (.one .bool)) (fun (x20 : Bool) w21 => J5 (x20, ()) w21)))))))
  (fun _ s6 w7 => ifB s6.1
  (LdK (.int .i64) ((ad g1).add 0) w7 (fun (x22 : Int) => LdK (.int .i64) ((ad g3).add 0) w7 (fun (x23 : Int) => ifB (x22 == x23)
  (LdK .str ((ad g1).add 1) w7 (fun (x24 : ByteArray) => LdK .str ((ad g3).add 1) w7 (fun (x25 : ByteArray) => ifB (x24.toList == x25.toList)
  (LdK .str ((ad g1).add 2) w7 (fun (x26 : ByteArray) => LdK .str ((ad g3).add 2) w7 (fun (x27 : ByteArray) => ifB (x26.toList == x27.toList)
  (LdK .str ((ad g1).add 3) w7 (fun (x28 : ByteArray) => LdK .str ((ad g3).add 3) w7 (fun (x29 : ByteArray) => ifB (x28.toList == x29.toList)
  (LdK .str ((ad g1).add 4) w7 (fun (x30 : ByteArray) => LdK .str ((ad g3).add 4) w7 (fun (x31 : ByteArray) => ifB (x30.toList == x31.toList)
  (LdK (.int .i64) ((ad g1).add 5) w7 (fun (x32 : Int) => LdK (.int .i64) ((ad g3).add 5) w7 (fun (x33 : Int) => ifB (x32 == x33)
  (LdK (.int .i64) ((ad g1).add 6) w7 (fun (x34 : Int) => LdK (.int .i64) ((ad g3).add 6) w7 (fun (x35 : Int) => K (.bool (x34 == x35)) w7)))
  (K (.bool false) w7))))
  (K (.bool false) w7))))
  (K (.bool false) w7))))
  (K (.bool false) w7))))
  (K (.bool false) w7))))
  (K (.bool false) w7))))
  (K (.bool false) w7))))
def pl22 : Plan := (.seq .auto (.join [(5, .one .bool)] .auto .auto))
theorem e22 (p0 : YZ14) (p1 : YZ14) (w : World) (K : Value → World → Prop) : vcFunc Tryz.prog Tryz.f22 pl22 [.agg (LZ14 p0).toArray, .agg (LZ14 p1).toArray] w K = C22 p0 p1 w K := by kernel_rfl
theorem c22 (p0 : YZ14) (p1 : YZ14) (w : World) (K : Value → World → Prop) (h : C22 p0 p1 w K) : Ret Tryz.prog 22 #[.agg (LZ14 p0).toArray, .agg (LZ14 p1).toArray] w K := by
  rw [← e22] at h
  exact vcFunc_sound (by kernel_rfl) Tryz.func22 h

end Go.Proofs.YtdphmcanlhcokaaGreatDoor

/-! ### EvSame -/
set_option linter.unusedVariables false
set_option maxRecDepth 100000
namespace Go.Proofs.YtdphmcanlhcokaaGreatDoor
open Vc

end Go.Proofs.YtdphmcanlhcokaaGreatDoor

/-! ### CFrSome -/
namespace Go.Proofs.YtdphmcanlhcokaaGreatDoor
open Vc
set_option maxRecDepth 100000
set_option linter.unusedVariables false
/-- handfast/handfastlaw19.Some -/
def C6 (p0 : YZ15) (p1 : YZ13) (p2 : Int) (w : World) (K : Value → World → Prop) : Prop :=
  NewK (.cells ((LZ15 p0).toArray) 25) w (fun g1 w2 => NewK (.cells ((LZ13 p1).toArray) 31) w2 (fun g3 w4 => NewK (.cells #[.int .i64 0, .int .i64 0, .int .i64 0, .int .i64 0, .int .i64 0, .int .u64 0, .bool false, .int .i64 0, .string (⟨#[]⟩ : ByteArray), .string (⟨#[]⟩ : ByteArray), .string (⟨#[]⟩ : ByteArray), .string (⟨#[]⟩ : ByteArray), .int .i64 0, .int .i64 0, .nilIface] 38) w4 (fun g5 w6 => NewK (.cells #[.int .i64 0, .int .i64 0, .int .i64 0, .int .i64 0, .int .i64 0, .int .u64 0, .bool false, .int .i64 0, .string (⟨#[]⟩ : ByteArray), .string (⟨#[]⟩ : ByteArray), .string (⟨#[]⟩ : ByteArray), .string (⟨#[]⟩ : ByteArray), .int .i64 0, .int .i64 0, .int .i64 0, .string (⟨#[]⟩ : ByteArray), .int .i64 0, .slice none 0 0] 45) w6 (fun g7 w8 => JoinK (Option Addr × Unit) (fun J9 => DrewK w8 (fun w12 => HoldK (fun S13 => InK S13 ((ad g1).add 0) (LdK (.int .i64) ((ad g1).add 0) w12 (fun (x14 : Int) => InK S13 ((ad g1).add 1) (LdK (.int .i64) ((ad g1).add 1) w12 (fun (x15 : Int) => InK S13 ((ad g1).add 2) (LdK (.int .i64) ((ad g1).add 2) w12 (fun (x16 : Int) => InK S13 ((ad g1).add 3) (LdK (.int .i64) ((ad g1).add 3) w12 (fun (x17 : Int) => InK S13 ((ad g1).add 4) (LdK (.int .i64) ((ad g1).add 4) w12 (fun (x18 : Int) => InK S13 ((ad g1).add 5) (LdK (.int .u64) ((ad g1).add 5) w12 (fun (x19 : Int) => InK S13 ((ad g1).add 6) (LdK .bool ((ad g1).add 6) w12 (fun (x20 : Bool) => AndK (CallK Tryz.prog 14 #[.int .i64 x14, .int .i64 2] w12 (.v (.one (.int .i64))) (fun (x21 : Int) w22 => KeepK S13 w12 w22 (AndK (CallK Tryz.prog 14 #[.int .i64 x15, .int .i64 2147483648] w22 (.v (.one (.int .i64))) (fun (x23 : Int) w24 => KeepK S13 w22 w24 (AndK (CallK Tryz.prog 14 #[.int .i64 x16, .int .i64 2147483648] w24 (.v (.one (.int .i64))) (fun (x25 : Int) w26 => KeepK S13 w24 w26 (AndK (CallK Tryz.prog 14 #[.int .i64 x17, .int .i64 4] w26 (.v (.one (.int .i64))) (fun (x27 : Int) w28 => KeepK S13 w26 w28 (AndK (CallK Tryz.prog 14 #[.int .i64 x18, .int .i64 70] w28 (.v (.one (.int .i64))) (fun (x29 : Int) w30 => KeepK S13 w28 w30 (NewK (.cells #[.int .i64 0, .int .i64 0, .int .i64 0, .int .i64 0, .int .i64 0, .int .u64 0, .bool false, .int .i64 0, .string (⟨#[]⟩ : ByteArray), .string (⟨#[]⟩ : ByteArray), .string (⟨#[]⟩ : ByteArray), .string (⟨#[]⟩ : ByteArray), .int .i64 0, .int .i64 0, .nilIface] 38) w30 (fun g31 w32 => KeepK S13 w30 w32 (StsK (ad g31) [.int .i64 x21, .int .i64 x23, .int .i64 x25, .int .i64 (IntKind.i64.wrap (1 + x27)), .int .i64 x29, .int .u64 x19, .bool x20, .int .i64 0, .string (⟨#[]⟩ : ByteArray), .string (⟨#[]⟩ : ByteArray), .string (⟨#[]⟩ : ByteArray), .string (⟨#[]⟩ : ByteArray), .int .i64 0, .int .i64 0, .nilIface] w32 (fun w33 => KeepK S13 w32 w33 (J9 ((some (ad g31)), ()) w33)))))))
  (NewK (.cells #[.int .i64 0, .int .i64 0, .int .i64 0, .int .i64 0, .int .i64 0, .int .u64 0, .bool false, .int .i64 0, .string (⟨#[]⟩ : ByteArray), .string (⟨#[]⟩ : ByteArray), .string (⟨#[]⟩ : ByteArray), .string (⟨#[]⟩ : ByteArray), .int .i64 0, .int .i64 0, .nilIface] 38) w28 (fun g34 w35 => KeepK S13 w28 w35 (CallK Tryz.prog 14 #[.int .i64 x18, .int .i64 70] w35 (.v (.one (.int .i64))) (fun (x36 : Int) w37 => KeepK S13 w35 w37 (StsK (ad g34) [.int .i64 x21, .int .i64 x23, .int .i64 x25, .int .i64 (IntKind.i64.wrap (1 + x27)), .int .i64 x36, .int .u64 x19, .bool x20, .int .i64 0, .string (⟨#[]⟩ : ByteArray), .string (⟨#[]⟩ : ByteArray), .string (⟨#[]⟩ : ByteArray), .string (⟨#[]⟩ : ByteArray), .int .i64 0, .int .i64 0, .nilIface] w37 (fun w38 => KeepK S13 w37 w38 (J9 ((some (ad g34)), ()) w38))))))))))
  (NewK (.cells #[.int .i64 0, .int .i64 0, .int .i64 0, .int .i64 0, .int .i64 0, .int .u64 0, .bool false, .int .i64 0, .string (⟨#[]⟩ : ByteArray), .string (⟨#[]⟩ : ByteArray), .string (⟨#[]⟩ : ByteArray), .string (⟨#[]⟩ : ByteArray), .int .i64 0, .int .i64 0, .nilIface] 38) w26 (fun g39 w40 => KeepK S13 w26 w40 (CallK Tryz.prog 14 #[.int .i64 x17, .int .i64 4] w40 (.v (.one (.int .i64))) (fun (x41 : Int) w42 => KeepK S13 w40 w42 (CallK Tryz.prog 14 #[.int .i64 x18, .int .i64 70] w42 (.v (.one (.int .i64))) (fun (x43 : Int) w44 => KeepK S13 w42 w44 (StsK (ad g39) [.int .i64 x21, .int .i64 x23, .int .i64 x25, .int .i64 (IntKind.i64.wrap (1 + x41)), .int .i64 x43, .int .u64 x19, .bool x20, .int .i64 0, .string (⟨#[]⟩ : ByteArray), .string (⟨#[]⟩ : ByteArray), .string (⟨#[]⟩ : ByteArray), .string (⟨#[]⟩ : ByteArray), .int .i64 0, .int .i64 0, .nilIface] w44 (fun w45 => KeepK S13 w44 w45 (J9 ((some (ad g39)), ()) w45))))))))))))
  (NewK (.cells #[.int .i64 0, .int .i64 0, .int .i64 0, .int .i64 0, .int .i64 0, .int .u64 0, .bool false, .int .i64 0, .string (⟨#[]⟩ : ByteArray), .string (⟨#[]⟩ : ByteArray), .string (⟨#[]⟩ : ByteArray), .string (⟨#[]⟩ : ByteArray), .int .i64 0, .int .i64 0, .nilIface] 38) w24 (fun g46 w47 => KeepK S13 w24 w47 (CallK Tryz.prog 14 #[.int .i64 x16, .int .i64 2147483648] w47 (.v (.one (.int .i64))) (fun (x48 : Int) w49 => KeepK S13 w47 w49 (CallK Tryz.prog 14 #[.int .i64 x17, .int .i64 4] w49 (.v (.one (.int .i64))) (fun (x50 : Int) w51 => KeepK S13 w49 w51 (CallK Tryz.prog 14 #[.int .i64 x18, .int .i64 70] w51 (.v (.one (.int .i64))) (fun (x52 : Int) w53 => KeepK S13 w51 w53 (StsK (ad g46) [.int .i64 x21, .int .i64 x23, .int .i64 x48, .int .i64 (IntKind.i64.wrap (1 + x50)), .int .i64 x52, .int .u64 x19, .bool x20, .int .i64 0, .string (⟨#[]⟩ : ByteArray), .string (⟨#[]⟩ : ByteArray), .string (⟨#[]⟩ : ByteArray), .string (⟨#[]⟩ : ByteArray), .int .i64 0, .int .i64 0, .nilIface] w53 (fun w54 => KeepK S13 w53 w54 (J9 ((some (ad g46)), ()) w54))))))))))))))
  (NewK (.cells #[.int .i64 0, .int .i64 0, .int .i64 0, .int .i64 0, .int .i64 0, .int .u64 0, .bool false, .int .i64 0, .string (⟨#[]⟩ : ByteArray), .string (⟨#[]⟩ : ByteArray), .string (⟨#[]⟩ : ByteArray), .string (⟨#[]⟩ : ByteArray), .int .i64 0, .int .i64 0, .nilIface] 38) w22 (fun g55 w56 => KeepK S13 w22 w56 (CallK Tryz.prog 14 #[.int .i64 x15, .int .i64 2147483648] w56 (.v (.one (.int .i64))) (fun (x57 : Int) w58 => KeepK S13 w56 w58 (CallK Tryz.prog 14 #[.int .i64 x16, .int .i64 2147483648] w58 (.v (.one (.int .i64))) (fun (x59 : Int) w60 => KeepK S13 w58 w60 (CallK Tryz.prog 14 #[.int .i64 x17, .int .i64 4] w60 (.v (.one (.int .i64))) (fun (x61 : Int) w62 => KeepK S13 w60 w62 (CallK Tryz.prog 14 #[.int .i64 x18, .int .i64 70] w62 (.v (.one (.int .i64))) (fun (x63 : Int) w64 => KeepK S13 w62 w64 (StsK (ad g55) [.int .i64 x21, .int .i64 x57, .int .i64 x59, .int .i64 (IntKind.i64.wrap (1 + x61)), .int .i64 x63, .int .u64 x19, .bool x20, .int .i64 0, .string (⟨#[]⟩ : ByteArray), .string (⟨#[]⟩ : ByteArray), .string (⟨#[]⟩ : ByteArray), .string (⟨#[]⟩ : ByteArray), .int .i64 0, .int .i64 0, .nilIface] w64 (fun w65 => KeepK S13 w64 w65 (J9 ((some (ad g55)), ()) w65))))))))))))))))
  (NewK (.cells #[.int .i64 0, .int .i64 0, .int .i64 0, .int .i64 0, .int .i64 0, .int .u64 0, .bool false, .int .i64 0, .string (⟨#[]⟩ : ByteArray), .string (⟨#[]⟩ : ByteArray), .string (⟨#[]⟩ : ByteArray), .string (⟨#[]⟩ : ByteArray), .int .i64 0, .int .i64 0, .nilIface] 38) w12 (fun g66 w67 => KeepK S13 w12 w67 (CallK Tryz.prog 14 #[.int .i64 x14, .int .i64 2] w67 (.v (.one (.int .i64))) (fun (x68 : Int) w69 => KeepK S13 w67 w69 (CallK Tryz.prog 14 #[.int .i64 x15, .int .i64 2147483648] w69 (.v (.one (.int .i64))) (fun (x70 : Int) w71 => KeepK S13 w69 w71 (CallK Tryz.prog 14 #[.int .i64 x16, .int .i64 2147483648] w71 (.v (.one (.int .i64))) (fun (x72 : Int) w73 => KeepK S13 w71 w73 (CallK Tryz.prog 14 #[.int .i64 x17, .int .i64 4] w73 (.v (.one (.int .i64))) (fun (x74 : Int) w75 => KeepK S13 w73 w75 (CallK Tryz.prog 14 #[.int .i64 x18, .int .i64 70] w75 (.v (.one (.int .i64))) (fun (x76 : Int) w77 => KeepK S13 w75 w77 (StsK (ad g66) [.int .i64 x68, .int .i64 x70, .int .i64 x72, .int .i64 (IntKind.i64.wrap (1 + x74)), .int .i64 x76, .int .u64 x19, .bool x20, .int .i64 0, .string (⟨#[]⟩ : ByteArray), .string (⟨#[]⟩ : ByteArray), .string (⟨#[]⟩ : ByteArray), .string (⟨#[]⟩ : ByteArray), .int .i64 0, .int .i64 0, .nilIface] w77 (fun w78 => KeepK S13 w77 w78 (J9 ((some (ad g66)), ()) w78))))))))))))))))))))))))))))))))
  (fun _ s10 w11 => JoinK (Unit) (fun J79 => JoinK (Bool × Unit) (fun J82 => optA s10.1 (fun a85 => LdK (.int .i64) (a85.add 3) w11 (fun (x86 : Int) => ifB (x86 == 1)
  (J82 (true, ()) w11)
  (optA s10.1 (fun a87 => LdK (.int .i64) (a87.add 3) w11 (fun (x88 : Int) => J82 ((x88 == 3), ()) w11))))))
  (fun _ s83 w84 => ifB s83.1
  (optA s10.1 (fun a89 => StK (a89.add 6) (.bool false) w84 (fun w90 => J79 (()) w90)))
  (J79 (()) w84)))
  (fun _ s80 w81 => JoinK (Bool × Unit) (fun J91 => optA s10.1 (fun a94 => LdK (.int .i64) (a94.add 3) w81 (fun (x95 : Int) => ifB (x95 == 1)
  (LdsK KZ13 (ad g3) w81 (fun (x96 : YZ13) => LdK (.int .i64) ((ad g1).add 7) w81 (fun (x97 : Int) => LdK (.int .i64) ((ad g1).add 8) w81 (fun (x98 : Int) => LdK .str ((ad g1).add 9) w81 (fun (x99 : ByteArray) => CallK Tryz.prog 25 #[.agg (LZ13 x96).toArray, .int .i64 x97, .int .i64 x98, .string x99, .int .i64 p2] w81 (.tup [.agg KZ14, .agg KZ16, .one .bool]) (fun (x100 : YZ14 × YZ16 × Bool × Unit) w101 => optA s10.1 (fun a102 => StsK (a102.add 7) [.int .i64 x100.1.1, .string x100.1.2.1, .string x100.1.2.2.1, .string x100.1.2.2.2.1, .string x100.1.2.2.2.2.1, .int .i64 x100.1.2.2.2.2.2.1, .int .i64 x100.1.2.2.2.2.2.2.1, x100.1.2.2.2.2.2.2.2.1] w101 (fun w103 => J91 (x100.2.2.1, ()) w103))))))))
  (J91 (false, ()) w81))))
  (fun _ s92 w93 => LdK (.int .i64) ((ad g1).add 8) w93 (fun (x104 : Int) => CallK Tryz.prog 14 #[.int .i64 x104, .int .i64 40] w93 (.v (.one (.int .i64))) (fun (x105 : Int) w106 => ifB (x105 == 33)
  (LdK (.int .i64) ((ad g1).add 0) w106 (fun (x107 : Int) => optA s10.1 (fun a108 => StK (a108.add 0) (.int .i64 x107) w106 (fun w109 => DrewK w109 (fun w110 => HoldK (fun S111 => optA s10.1 (fun a112 => InK S111 a112 (LdsK KZ18 a112 w110 (fun (x113 : YZ18) => optA s10.1 (fun a114 => InK S111 a114 (LdsK KZ18 a114 w110 (fun (x115 : YZ18) => CallK Tryz.prog 27 #[.agg (LZ18 x115).toArray] w110 (.v (.agg KZ19)) (fun (x116 : YZ19) w117 => KeepK S111 w110 w117 (StsK (ad g5) (LZ18 x113) w117 (fun w118 => KeepK S111 w117 w118 (StsK (ad g7) (LZ19 x116) w118 (fun w119 => KeepK S111 w118 w119 (LdsK KZ18 (ad g5) w119 (fun (x120 : YZ18) => LdsK KZ19 (ad g7) w119 (fun (x121 : YZ19) => K (.tuple #[.agg (LZ18 x120).toArray, .agg (LZ19 x121).toArray, .bool s92.1]) w119))))))))))))))))))))
  (ifB (x105 == 34)
  (LdK (.int .i64) ((ad g1).add 1) w106 (fun (x122 : Int) => optA s10.1 (fun a123 => StK (a123.add 1) (.int .i64 x122) w106 (fun w124 => DrewK w124 (fun w125 => HoldK (fun S126 => optA s10.1 (fun a127 => InK S126 a127 (LdsK KZ18 a127 w125 (fun (x128 : YZ18) => optA s10.1 (fun a129 => InK S126 a129 (LdsK KZ18 a129 w125 (fun (x130 : YZ18) => CallK Tryz.prog 27 #[.agg (LZ18 x130).toArray] w125 (.v (.agg KZ19)) (fun (x131 : YZ19) w132 => KeepK S126 w125 w132 (StsK (ad g5) (LZ18 x128) w132 (fun w133 => KeepK S126 w132 w133 (StsK (ad g7) (LZ19 x131) w133 (fun w134 => KeepK S126 w133 w134 (LdsK KZ18 (ad g5) w134 (fun (x135 : YZ18) => LdsK KZ19 (ad g7) w134 (fun (x136 : YZ19) => K (.tuple #[.agg (LZ18 x135).toArray, .agg (LZ19 x136).toArray, .bool s92.1]) w134))))))))))))))))))))
  (ifB (x105 == 35)
  (LdK (.int .i64) ((ad g1).add 2) w106 (fun (x137 : Int) => optA s10.1 (fun a138 => StK (a138.add 2) (.int .i64 x137) w106 (fun w139 => DrewK w139 (fun w140 => HoldK (fun S141 => optA s10.1 (fun a142 => InK S141 a142 (LdsK KZ18 a142 w140 (fun (x143 : YZ18) => optA s10.1 (fun a144 => InK S141 a144 (LdsK KZ18 a144 w140 (fun (x145 : YZ18) => CallK Tryz.prog 27 #[.agg (LZ18 x145).toArray] w140 (.v (.agg KZ19)) (fun (x146 : YZ19) w147 => KeepK S141 w140 w147 (StsK (ad g5) (LZ18 x143) w147 (fun w148 => KeepK S141 w147 w148 (StsK (ad g7) (LZ19 x146) w148 (fun w149 => KeepK S141 w148 w149 (LdsK KZ18 (ad g5) w149 (fun (x150 : YZ18) => LdsK KZ19 (ad g7) w149 (fun (x151 : YZ19) => K (.tuple #[.agg (LZ18 x150).toArray, .agg (LZ19 x151).toArray, .bool s92.1]) w149))))))))))))))))))))
  (ifB (x105 == 36)
  (LdK (.int .i64) ((ad g1).add 3) w106 (fun (x152 : Int) => optA s10.1 (fun a153 => StK (a153.add 3) (.int .i64 x152) w106 (fun w154 => DrewK w154 (fun w155 => HoldK (fun S156 => optA s10.1 (fun a157 => InK S156 a157 (LdsK KZ18 a157 w155 (fun (x158 : YZ18) => optA s10.1 (fun a159 => InK S156 a159 (LdsK KZ18 a159 w155 (fun (x160 : YZ18) => CallK Tryz.prog 27 #[.agg (LZ18 x160).toArray] w155 (.v (.agg KZ19)) (fun (x161 : YZ19) w162 => KeepK S156 w155 w162 (StsK (ad g5) (LZ18 x158) w162 (fun w163 => KeepK S156 w162 w163 (StsK (ad g7) (LZ19 x161) w163 (fun w164 => KeepK S156 w163 w164 (LdsK KZ18 (ad g5) w164 (fun (x165 : YZ18) => LdsK KZ19 (ad g7) w164 (fun (x166 : YZ19) => K (.tuple #[.agg (LZ18 x165).toArray, .agg (LZ19 x166).toArray, .bool s92.1]) w164))))))))))))))))))))
  (ifB (x105 == 37)
  (LdK (.int .i64) ((ad g1).add 4) w106 (fun (x167 : Int) => optA s10.1 (fun a168 => StK (a168.add 4) (.int .i64 x167) w106 (fun w169 => DrewK w169 (fun w170 => HoldK (fun S171 => optA s10.1 (fun a172 => InK S171 a172 (LdsK KZ18 a172 w170 (fun (x173 : YZ18) => optA s10.1 (fun a174 => InK S171 a174 (LdsK KZ18 a174 w170 (fun (x175 : YZ18) => CallK Tryz.prog 27 #[.agg (LZ18 x175).toArray] w170 (.v (.agg KZ19)) (fun (x176 : YZ19) w177 => KeepK S171 w170 w177 (StsK (ad g5) (LZ18 x173) w177 (fun w178 => KeepK S171 w177 w178 (StsK (ad g7) (LZ19 x176) w178 (fun w179 => KeepK S171 w178 w179 (LdsK KZ18 (ad g5) w179 (fun (x180 : YZ18) => LdsK KZ19 (ad g7) w179 (fun (x181 : YZ19) => K (.tuple #[.agg (LZ18 x180).toArray, .agg (LZ19 x181).toArray, .bool s92.1]) w179))))))))))))))))))))
  (ifB (x105 == 38)
  (LdK .bool ((ad g1).add 6) w106 (fun (x182 : Bool) => optA s10.1 (fun a183 => StK (a183.add 6) (.bool x182) w106 (fun w184 => DrewK w184 (fun w185 => HoldK (fun S186 => optA s10.1 (fun a187 => InK S186 a187 (LdsK KZ18 a187 w185 (fun (x188 : YZ18) => optA s10.1 (fun a189 => InK S186 a189 (LdsK KZ18 a189 w185 (fun (x190 : YZ18) => CallK Tryz.prog 27 #[.agg (LZ18 x190).toArray] w185 (.v (.agg KZ19)) (fun (x191 : YZ19) w192 => KeepK S186 w185 w192 (StsK (ad g5) (LZ18 x188) w192 (fun w193 => KeepK S186 w192 w193 (StsK (ad g7) (LZ19 x191) w193 (fun w194 => KeepK S186 w193 w194 (LdsK KZ18 (ad g5) w194 (fun (x195 : YZ18) => LdsK KZ19 (ad g7) w194 (fun (x196 : YZ19) => K (.tuple #[.agg (LZ18 x195).toArray, .agg (LZ19 x196).toArray, .bool s92.1]) w194))))))))))))))))))))
  (ifB (x105 == 39)
  (CallK Tryz.prog 26 #[.int .i64 p2] w106 (.v (.one .raw)) (fun (x197 : Value) w198 => optA s10.1 (fun a199 => OneK x197 (StsK ((a199.add 7).add 7) [x197] w198 (fun w200 => optA s10.1 (fun a201 => LdK .raw ((a201.add 7).add 7) w200 (fun (x202 : Value) => RunK Tryz.prog (do eqGuard .neq 34 (.tmp 99) (.const .nilIface) x202 .nilIface; binOp .neq 34 x202 .nilIface) w200 (.v (.one .bool)) (fun (x203 : Bool) w204 => DrewK w204 (fun w205 => HoldK (fun S206 => optA s10.1 (fun a207 => InK S206 a207 (LdsK KZ18 a207 w205 (fun (x208 : YZ18) => optA s10.1 (fun a209 => InK S206 a209 (LdsK KZ18 a209 w205 (fun (x210 : YZ18) => CallK Tryz.prog 27 #[.agg (LZ18 x210).toArray] w205 (.v (.agg KZ19)) (fun (x211 : YZ19) w212 => KeepK S206 w205 w212 (StsK (ad g5) (LZ18 x208) w212 (fun w213 => KeepK S206 w212 w213 (StsK (ad g7) (LZ19 x211) w213 (fun w214 => KeepK S206 w213 w214 (LdsK KZ18 (ad g5) w214 (fun (x215 : YZ18) => LdsK KZ19 (ad g7) w214 (fun (x216 : YZ19) => K (.tuple #[.agg (LZ18 x215).toArray, .agg (LZ19 x216).toArray, .bool x203]) w214))))))))))))))))))))))))
  (DrewK w106 (fun w217 => HoldK (fun S218 => optA s10.1 (fun a219 => InK S218 a219 (LdsK KZ18 a219 w217 (fun (x220 : YZ18) => optA s10.1 (fun a221 => InK S218 a221 (LdsK KZ18 a221 w217 (fun (x222 : YZ18) => CallK Tryz.prog 27 #[.agg (LZ18 x222).toArray] w217 (.v (.agg KZ19)) (fun (x223 : YZ19) w224 => KeepK S218 w217 w224 (StsK (ad g5) (LZ18 x220) w224 (fun w225 => KeepK S218 w224 w225 (StsK (ad g7) (LZ19 x223) w225 (fun w226 => KeepK S218 w225 w226 (LdsK KZ18 (ad g5) w226 (fun (x227 : YZ18) => LdsK KZ19 (ad g7) w226 (fun (x228 : YZ19) => K (.tuple #[.agg (LZ18 x227).toArray, .agg (LZ19 x228).toArray, .bool s92.1]) w226))))))))))))))))))))))))))))))))
def pl6 : Plan := (.seq .auto (.join [(9, .one .ptr)] (.held (.soft 0 (.soft 1 (.soft 3 (.soft 4 (.soft 6 (.soft 7 (.soft 9 (.soft 10 (.soft 13 (.soft 14 (.soft 16 (.soft 17 (.soft 18 (.soft 19 (.pick 2 (.pick 5 (.pick 8 (.pick 11 (.soft 12 (.pick 15 (.soft 20 (.pick 21 (.pick 22 .done .stop) .stop)) (.pick 21 (.pick 15 (.soft 20 (.pick 22 .done .stop)) .stop) .stop))) (.pick 21 (.pick 11 (.soft 12 (.pick 15 (.soft 20 (.pick 22 .done .stop)) .stop)) .stop) .stop)) (.pick 21 (.pick 8 (.pick 11 (.soft 12 (.pick 15 (.soft 20 (.pick 22 .done .stop)) .stop)) .stop) .stop) .stop)) (.pick 21 (.pick 5 (.pick 8 (.pick 11 (.soft 12 (.pick 15 (.soft 20 (.pick 22 .done .stop)) .stop)) .stop) .stop) .stop) .stop)) (.pick 21 (.pick 2 (.pick 5 (.pick 8 (.pick 11 (.soft 12 (.pick 15 (.soft 20 (.pick 22 .done .stop)) .stop)) .stop) .stop) .stop) .stop) .stop))))))))))))))))) (.seq .auto (.join [] (.join [(39, .one .bool)] .auto .auto) (.join [(10, .one .bool)] .auto (.seq .auto (.seq (.held (.soft 0 (.soft 1 (.soft 3 (.pick 2 (.pick 4 (.pick 5 (.soft 6 .done) .stop) .stop) .stop))))) .auto)))))))
theorem e6 (p0 : YZ15) (p1 : YZ13) (p2 : Int) (w : World) (K : Value → World → Prop) : vcFunc Tryz.prog Tryz.f6 pl6 [.agg (LZ15 p0).toArray, .agg (LZ13 p1).toArray, .int .i64 p2] w K = C6 p0 p1 p2 w K := by kernel_rfl
theorem c6 (p0 : YZ15) (p1 : YZ13) (p2 : Int) (w : World) (K : Value → World → Prop) (h : C6 p0 p1 p2 w K) : Ret Tryz.prog 6 #[.agg (LZ15 p0).toArray, .agg (LZ13 p1).toArray, .int .i64 p2] w K := by
  rw [← e6] at h
  exact vcFunc_sound (by kernel_rfl) Tryz.func6 h

/-- handfast/handfastlaw19.Ref -/
def C27 (p0 : YZ18) (w : World) (K : Value → World → Prop) : Prop :=
  NewK (.cells ((LZ18 p0).toArray) 38) w (fun g1 w2 => NewK (.cells #[.int .i64 0, .int .i64 0, .int .i64 0, .int .i64 0, .int .i64 0, .int .u64 0, .bool false, .int .i64 0, .string (⟨#[]⟩ : ByteArray), .string (⟨#[]⟩ : ByteArray), .string (⟨#[]⟩ : ByteArray), .string (⟨#[]⟩ : ByteArray), .int .i64 0, .int .i64 0, .int .i64 0, .string (⟨#[]⟩ : ByteArray), .int .i64 0, .slice none 0 0] 45) w2 (fun g3 w4 => DrewK w4 (fun w5 => HoldK (fun S6 => InK S6 ((ad g1).add 0) (LdK (.int .i64) ((ad g1).add 0) w5 (fun (x7 : Int) => InK S6 ((ad g1).add 1) (LdK (.int .i64) ((ad g1).add 1) w5 (fun (x8 : Int) => InK S6 ((ad g1).add 2) (LdK (.int .i64) ((ad g1).add 2) w5 (fun (x9 : Int) => InK S6 ((ad g1).add 3) (LdK (.int .i64) ((ad g1).add 3) w5 (fun (x10 : Int) => InK S6 ((ad g1).add 4) (LdK (.int .i64) ((ad g1).add 4) w5 (fun (x11 : Int) => InK S6 ((ad g1).add 5) (LdK (.int .u64) ((ad g1).add 5) w5 (fun (x12 : Int) => InK S6 ((ad g1).add 6) (LdK .bool ((ad g1).add 6) w5 (fun (x13 : Bool) => InK S6 ((ad g1).add 7) (LdsK KZ14 ((ad g1).add 7) w5 (fun (x14 : YZ14) => CallK Tryz.prog 51 #[.agg (LZ14 x14).toArray] w5 (.v (.agg KZ16)) (fun (x15 : YZ16) w16 => KeepK S6 w5 w16 (StsK (ad g3) [.int .i64 x7, .int .i64 x8, .int .i64 x9, .int .i64 x10, .int .i64 x11, .int .u64 x12, .bool x13, .int .i64 x15.1, .string x15.2.1, .string x15.2.2.1, .string x15.2.2.2.1, .string x15.2.2.2.2.1, .int .i64 x15.2.2.2.2.2.1, .int .i64 x15.2.2.2.2.2.2.1, .int .i64 x15.2.2.2.2.2.2.2.1, .string x15.2.2.2.2.2.2.2.2.1, .int .i64 x15.2.2.2.2.2.2.2.2.2.1, .slice x15.2.2.2.2.2.2.2.2.2.2.1.1 x15.2.2.2.2.2.2.2.2.2.2.1.2.1 x15.2.2.2.2.2.2.2.2.2.2.1.2.2] w16 (fun w17 => KeepK S6 w16 w17 (LdsK KZ19 (ad g3) w17 (fun (x18 : YZ19) => K (.agg (LZ19 x18).toArray) w17)))))))))))))))))))))))))
def pl27 : Plan := (.seq .auto (.seq (.held (.soft 0 (.soft 1 (.soft 2 (.soft 3 (.soft 4 (.soft 5 (.soft 6 (.soft 7 (.soft 8 (.soft 9 (.soft 10 (.soft 11 (.soft 12 (.soft 13 (.soft 14 (.soft 15 (.pick 16 (.soft 17 (.pick 18 .done .stop)) .stop)))))))))))))))))) .auto))
theorem e27 (p0 : YZ18) (w : World) (K : Value → World → Prop) : vcFunc Tryz.prog Tryz.f27 pl27 [.agg (LZ18 p0).toArray] w K = C27 p0 w K := by kernel_rfl
theorem c27 (p0 : YZ18) (w : World) (K : Value → World → Prop) (h : C27 p0 w K) : Ret Tryz.prog 27 #[.agg (LZ18 p0).toArray] w K := by
  rw [← e27] at h
  exact vcFunc_sound (by kernel_rfl) Tryz.func27 h

/-- handfast/handfastlaw19.Same -/
def C20 (p0 : YZ18) (p1 : YZ19) (w : World) (K : Value → World → Prop) : Prop :=
  NewK (.cells ((LZ18 p0).toArray) 38) w (fun g1 w2 => NewK (.cells ((LZ19 p1).toArray) 45) w2 (fun g3 w4 => DrewK w4 (fun w5 => HoldK (fun S6 => InK S6 ((ad g1).add 0) (LdK (.int .i64) ((ad g1).add 0) w5 (fun (x7 : Int) => InK S6 ((ad g3).add 0) (LdK (.int .i64) ((ad g3).add 0) w5 (fun (x8 : Int) => ifB (x7 == x8)
  (InK S6 ((ad g1).add 1) (LdK (.int .i64) ((ad g1).add 1) w5 (fun (x9 : Int) => InK S6 ((ad g3).add 1) (LdK (.int .i64) ((ad g3).add 1) w5 (fun (x10 : Int) => ifB (x9 == x10)
  (InK S6 ((ad g1).add 2) (LdK (.int .i64) ((ad g1).add 2) w5 (fun (x11 : Int) => InK S6 ((ad g3).add 2) (LdK (.int .i64) ((ad g3).add 2) w5 (fun (x12 : Int) => ifB (x11 == x12)
  (InK S6 ((ad g1).add 3) (LdK (.int .i64) ((ad g1).add 3) w5 (fun (x13 : Int) => InK S6 ((ad g3).add 3) (LdK (.int .i64) ((ad g3).add 3) w5 (fun (x14 : Int) => ifB (x13 == x14)
  (InK S6 ((ad g1).add 4) (LdK (.int .i64) ((ad g1).add 4) w5 (fun (x15 : Int) => InK S6 ((ad g3).add 4) (LdK (.int .i64) ((ad g3).add 4) w5 (fun (x16 : Int) => ifB (x15 == x16)
  (InK S6 ((ad g1).add 5) (LdK (.int .u64) ((ad g1).add 5) w5 (fun (x17 : Int) => InK S6 ((ad g3).add 5) (LdK (.int .u64) ((ad g3).add 5) w5 (fun (x18 : Int) => ifB (x17 == x18)
  (InK S6 ((ad g1).add 6) (LdK .bool ((ad g1).add 6) w5 (fun (x19 : Bool) => InK S6 ((ad g3).add 6) (LdK .bool ((ad g3).add 6) w5 (fun (x20 : Bool) => ifB (x19 == x20)
  (InK S6 ((ad g1).add 7) (LdsK KZ14 ((ad g1).add 7) w5 (fun (x21 : YZ14) => InK S6 ((ad g3).add 7) (LdsK KZ16 ((ad g3).add 7) w5 (fun (x22 : YZ16) => CallK Tryz.prog 44 #[.agg (LZ16 x22).toArray] w5 (.v (.agg KZ14)) (fun (x23 : YZ14) w24 => KeepK S6 w5 w24 (CallK Tryz.prog 22 #[.agg (LZ14 x21).toArray, .agg (LZ14 x23).toArray] w24 (.v (.one .bool)) (fun (x25 : Bool) w26 => KeepK S6 w24 w26 (K (.bool x25) w26)))))))))
  (K (.bool false) w5))))))
  (K (.bool false) w5))))))
  (K (.bool false) w5))))))
  (K (.bool false) w5))))))
  (K (.bool false) w5))))))
  (K (.bool false) w5))))))
  (K (.bool false) w5)))))))))
def pl20 : Plan := (.seq .auto (.seq (.held (.soft 0 (.soft 1 (.soft 2 (.soft 3 (.soft 4 (.soft 5 (.soft 6 (.soft 7 (.soft 8 (.soft 9 (.soft 10 (.soft 11 (.soft 12 (.soft 13 (.soft 14 (.soft 15 (.soft 16 (.soft 17 (.soft 18 (.soft 19 (.soft 20 (.soft 21 (.soft 22 (.soft 23 (.soft 24 (.soft 25 (.soft 26 (.soft 27 (.soft 28 (.soft 29 (.soft 30 (.soft 31 (.soft 32 (.soft 33 (.soft 34 (.soft 35 (.soft 36 (.soft 37 (.soft 38 (.soft 39 (.soft 40 (.soft 41 (.soft 42 (.soft 43 (.soft 44 (.soft 45 (.soft 46 (.soft 47 (.soft 48 (.soft 49 (.soft 50 (.soft 51 (.pick 52 (.pick 53 (.soft 54 (.soft 55 .done)) .stop) .stop)))))))))))))))))))))))))))))))))))))))))))))))))))))) .auto))
theorem e20 (p0 : YZ18) (p1 : YZ19) (w : World) (K : Value → World → Prop) : vcFunc Tryz.prog Tryz.f20 pl20 [.agg (LZ18 p0).toArray, .agg (LZ19 p1).toArray] w K = C20 p0 p1 w K := by kernel_rfl
theorem c20 (p0 : YZ18) (p1 : YZ19) (w : World) (K : Value → World → Prop) (h : C20 p0 p1 w K) : Ret Tryz.prog 20 #[.agg (LZ18 p0).toArray, .agg (LZ19 p1).toArray] w K := by
  rw [← e20] at h
  exact vcFunc_sound (by kernel_rfl) Tryz.func20 h

/-- handfast/handfastplay.Odd -/
def C26 (p0 : Int) (w : World) (K : Value → World → Prop) : Prop :=
  NewK (.cells #[.string (⟨#[]⟩ : ByteArray)] 102) w (fun g1 w2 => StsK (ad g1) [.string (⟨#[117, 115, 100]⟩ : ByteArray)] w2 (fun w3 => RunK Tryz.prog (Instr.buildSlice 26 1 #[(0, .int .i64 1)]) w3 (.v (.one .slc)) (fun (x4 : SlT) w5 => NewK (.map #[] 0) w5 (fun g6 w7 => NewK (.cells #[.int .i64 2] 108) w7 (fun g8 w9 => RunK Tryz.prog (Instr.buildSlice 110 9 #[(0, .nilIface), (1, .iface 3 (.int .i64 5)), (2, .iface 9 (.string (⟨#[122, 101, 114, 111]⟩ : ByteArray))), (3, .iface 103 (.pointer (some (ad g1)))), (4, .iface 26 (.slice x4.1 x4.2.1 x4.2.2)), (5, .iface 105 (.agg #[.int .i64 0, .string (⟨#[]⟩ : ByteArray), .int .i64 0])), (6, .iface 106 (.map (some g6))), (7, .iface 108 (.agg #[.int .i64 1])), (8, .iface 109 (.pointer (some (ad g8))))]) w9 (.v (.one .slc)) (fun (x10 : SlT) w11 => CallK Tryz.prog 14 #[.int .i64 p0, .int .i64 9] w11 (.v (.one (.int .i64))) (fun (x12 : Int) w13 => IdxK x10.1 x10.2.1 x12 1 (fun a14 => LdK .raw a14 w13 (fun (x15 : Value) => K x15 w13)))))))))
def pl26 : Plan := .auto
theorem e26 (p0 : Int) (w : World) (K : Value → World → Prop) : vcFunc Tryz.prog Tryz.f26 pl26 [.int .i64 p0] w K = C26 p0 w K := by kernel_rfl
theorem c26 (p0 : Int) (w : World) (K : Value → World → Prop) (h : C26 p0 w K) : Ret Tryz.prog 26 #[.int .i64 p0] w K := by
  rw [← e26] at h
  exact vcFunc_sound (by kernel_rfl) Tryz.func26 h

end Go.Proofs.YtdphmcanlhcokaaGreatDoor

/-! ### FrRef -/
set_option linter.unusedVariables false
set_option maxRecDepth 100000
namespace Go.Proofs.YtdphmcanlhcokaaGreatDoor
open Vc

abbrev FRT := Int × Int × Int × Int × Int × Int × Bool × EvR
abbrev FRK : List Ck := [.int .i64, .int .i64, .int .i64, .int .i64, .int .i64, .int .u64, .bool, .int .i64, .str, .str, .str, .str, .int .i64, .int .i64, .int .i64, .str, .int .i64, .slc]
def frR (f : FrT) (v : TV) : FRT := (f.1, f.2.1, f.2.2.1, f.2.2.2.1, f.2.2.2.2.1, f.2.2.2.2.2.1, f.2.2.2.2.2.2.1, evR (frE f) v)
def frrE (x : FRT) : EvR := x.2.2.2.2.2.2.2
def frRL (x : FRT) : List Value := [.int .i64 x.1, .int .i64 x.2.1, .int .i64 x.2.2.1, .int .i64 x.2.2.2.1, .int .i64 x.2.2.2.2.1, .int .u64 x.2.2.2.2.2.1, .bool x.2.2.2.2.2.2.1, .int .i64 (frrE x).1, .string (frrE x).2.1, .string (frrE x).2.2.1, .string (frrE x).2.2.2.1, .string (frrE x).2.2.2.2.1, .int .i64 (frrE x).2.2.2.2.2.1, .int .i64 (frrE x).2.2.2.2.2.2.1, .int .i64 (frrE x).2.2.2.2.2.2.2.1, .string (frrE x).2.2.2.2.2.2.2.2.1, .int .i64 (frrE x).2.2.2.2.2.2.2.2.2.1, .slice (frrE x).2.2.2.2.2.2.2.2.2.2.1.1 (frrE x).2.2.2.2.2.2.2.2.2.2.1.2.1 (frrE x).2.2.2.2.2.2.2.2.2.2.1.2.2]
def frRA (x : FRT) : Value := .agg (frRL x).toArray
theorem frRL_one (x : FRT) : (frRL x).all one1 = true := rfl
theorem frr_ev {w : World} {g : Nat} {x : FRT} {T : TypeId} (hb : w.heap[g]? = some (.cells (frRL x).toArray T (0, 0))) {K : EvR → Prop} (k : K (frrE x)) : LdsK ERK ((⟨g, 0, none⟩ : Addr).add 7) w K := by
  refine LdsK.off (x := frrE x) hb (fun j hj => ?_) k
  match j, hj with
  | 0, _ => rfl
  | 1, _ => rfl
  | 2, _ => rfl
  | 3, _ => rfl
  | 4, _ => rfl
  | 5, _ => rfl
  | 6, _ => rfl
  | 7, _ => rfl
  | 8, _ => rfl
  | 9, _ => rfl
  | 10, _ => rfl
  | j + 11, h => exact absurd h (by show ¬ j + 11 < 11; omega)

end Go.Proofs.YtdphmcanlhcokaaGreatDoor

/-! ### VcRaw -/
set_option linter.unusedVariables false
namespace Go.Proofs.YtdphmcanlhcokaaGreatDoor
namespace Vc
variable {P : Program}

abbrev RawV := Int × Int × Int × Int × Int × Int × Bool × Int × Int × ByteArray × Unit
def rawL (c : RawV) : List Value := [.int .i64 c.1, .int .i64 c.2.1, .int .i64 c.2.2.1, .int .i64 c.2.2.2.1, .int .i64 c.2.2.2.2.1, .int .u64 c.2.2.2.2.2.1, .bool c.2.2.2.2.2.2.1, .int .i64 c.2.2.2.2.2.2.2.1, .int .i64 c.2.2.2.2.2.2.2.2.1, .string c.2.2.2.2.2.2.2.2.2.1]
/-- Such numbers are numbers of their kinds; the word is as long as a text can be. -/
def IsRaw (w : World) (c : RawV) : Prop := (Lit.int .i64 c.1).wf = true ∧ (Lit.int .i64 c.2.1).wf = true ∧ (Lit.int .i64 c.2.2.1).wf = true ∧ (Lit.int .i64 c.2.2.2.1).wf = true ∧ (Lit.int .i64 c.2.2.2.2.1).wf = true ∧ (Lit.int .u64 c.2.2.2.2.2.1).wf = true ∧ (Lit.int .i64 c.2.2.2.2.2.2.2.1).wf = true ∧ (Lit.int .i64 c.2.2.2.2.2.2.2.2.1).wf = true ∧ c.2.2.2.2.2.2.2.2.2.1.size ≤ maxLen

theorem open_raw {H : Type} {enc : TypeId × Value → H} {w : World} {base : Nat} {held : Bool} {t ti tu tb ts : TypeId} {f0 f1 f2 f3 f4 f5 f6 f7 f8 f9 : Field} {fuel : Nat} {cs : List Value} {x : DataW H × List MemPlace}
    (ht : P.underlying t = some (.struct #[f0, f1, f2, f3, f4, f5, f6, f7, f8, f9]))
    (q0 : f0.type = ti ∧ f0.offset = 0) (q1 : f1.type = ti ∧ f1.offset = 1) (q2 : f2.type = ti ∧ f2.offset = 2) (q3 : f3.type = ti ∧ f3.offset = 3) (q4 : f4.type = ti ∧ f4.offset = 4) (q5 : f5.type = tu ∧ f5.offset = 5) (q6 : f6.type = tb ∧ f6.offset = 6) (q7 : f7.type = ti ∧ f7.offset = 7) (q8 : f8.type = ti ∧ f8.offset = 8) (q9 : f9.type = ts ∧ f9.offset = 9)
    (hti : P.underlying ti = some (.int .i64)) (htu : P.underlying tu = some (.int .u64)) (htb : P.underlying tb = some .bool) (hts : P.underlying ts = some .string)
    (hc : P.cellsOf t = 10) (hci : P.cellsOf ti = 1) (hcu : P.cellsOf tu = 1) (hcb : P.cellsOf tb = 1) (hcs : P.cellsOf ts = 1)
    (h : DataW.trod enc P w base (fun _ => true) held fuel t cs = some x) : ∃ c : RawV, cs = rawL c ∧ IsRaw w c := by
  obtain ⟨xs, n, _, _, hl, hlen, hf⟩ := DataW.trod_struct ht h
  rw [hc] at hl
  match xs, hlen with
  | [y0, y1, y2, y3, y4, y5, y6, y7, y8, y9], _ =>
    match cs, hl with
    | [c0, c1, c2, c3, c4, c5, c6, c7, c8, c9], _ =>
      have a0 := hf 0 f0 rfl
      have a1 := hf 1 f1 rfl
      have a2 := hf 2 f2 rfl
      have a3 := hf 3 f3 rfl
      have a4 := hf 4 f4 rfl
      have a5 := hf 5 f5 rfl
      have a6 := hf 6 f6 rfl
      have a7 := hf 7 f7 rfl
      have a8 := hf 8 f8 rfl
      have a9 := hf 9 f9 rfl
      rw [q0.1, q0.2, hci] at a0
      rw [q1.1, q1.2, hci] at a1
      rw [q2.1, q2.2, hci] at a2
      rw [q3.1, q3.2, hci] at a3
      rw [q4.1, q4.2, hci] at a4
      rw [q5.1, q5.2, hcu] at a5
      rw [q6.1, q6.2, hcb] at a6
      rw [q7.1, q7.2, hci] at a7
      rw [q8.1, q8.2, hci] at a8
      rw [q9.1, q9.2, hcs] at a9
      simp only [List.drop_zero, List.drop_succ_cons, List.take_succ_cons, List.take_zero, List.getElem?_cons_zero, List.getElem?_cons_succ] at a0 a1 a2 a3 a4 a5 a6 a7 a8 a9
      obtain ⟨z0, e0, _, w0⟩ := DataW.trod_int hti a0
      obtain ⟨z1, e1, _, w1⟩ := DataW.trod_int hti a1
      obtain ⟨z2, e2, _, w2⟩ := DataW.trod_int hti a2
      obtain ⟨z3, e3, _, w3⟩ := DataW.trod_int hti a3
      obtain ⟨z4, e4, _, w4⟩ := DataW.trod_int hti a4
      obtain ⟨z5, e5, _, w5⟩ := DataW.trod_int htu a5
      obtain ⟨z6, e6, _⟩ := DataW.trod_bool htb a6
      obtain ⟨z7, e7, _, w7⟩ := DataW.trod_int hti a7
      obtain ⟨z8, e8, _, w8⟩ := DataW.trod_int hti a8
      obtain ⟨s9, e9, _, w9⟩ := DataW.trod_string hts a9
      simp only [List.cons.injEq, and_true] at e0 e1 e2 e3 e4 e5 e6 e7 e8 e9
      subst e0; subst e1; subst e2; subst e3; subst e4; subst e5; subst e6; subst e7; subst e8; subst e9
      exact ⟨(z0, z1, z2, z3, z4, z5, z6, z7, z8, s9, ()), rfl, w0, w1, w2, w3, w4, w5, w7, w8, w9⟩

end Vc
end Go.Proofs.YtdphmcanlhcokaaGreatDoor

/-! ### SomeSpec2 -/
set_option linter.unusedVariables false
set_option maxRecDepth 100000
namespace Go.Proofs.YtdphmcanlhcokaaGreatDoor
open Vc

end Go.Proofs.YtdphmcanlhcokaaGreatDoor

/-! ### FrSome -/
set_option linter.unusedVariables false
set_option maxRecDepth 100000
namespace Go.Proofs.YtdphmcanlhcokaaGreatDoor
open Vc

theorem wthK {S : Nat → Prop} (v n : Int) (hn : n ≤ 9223372036854775807) {wa : World} {K : Int → World → Prop} (k : K (within v n) wa) : CallK Tryz.prog 14 #[.int .i64 v, .int .i64 n] wa (.v (.one (.int .i64))) (fun (x : Int) wb => KeepK S wa wb (K x wb)) := by
  refine CallK.of (within_spec v n wa hn) ?_
  rintro _ _ ⟨rfl, rfl⟩
  exact ⟨_, rfl, KeepK.same k⟩

theorem elem_anyI : ElemOk Tryz.prog 110 20 1 .nilIface 16 := ⟨Tryz.underlying110, ⟨Tryz.t20, by kernel_rfl, rfl, rfl, rfl⟩, rfl, by decide⟩
theorem elem_intI : ElemOk Tryz.prog 26 3 1 (.int .i64 0) 8 := ⟨Tryz.underlying26, ⟨Tryz.t3, by kernel_rfl, rfl, rfl, rfl⟩, rfl, by decide⟩
/-- The odd values, out of what was made for them. -/
def oddL (g1 g6 g8 : Nat) (v : Sl) : List Value := [.nilIface, .iface 3 (.int .i64 5), .iface 9 (.string ⟨#[122, 101, 114, 111]⟩), .iface 103 (.pointer (some ⟨g1, 0, none⟩)), .iface 26 (.slice v.1 v.2.1 v.2.2), .iface 105 (.agg #[.int .i64 0, .string ⟨#[]⟩, .int .i64 0]), .iface 106 (.map (some g6)), .iface 108 (.agg #[.int .i64 1]), .iface 109 (.pointer (some ⟨g8, 0, none⟩))]
theorem odd_spec (n : Int) (w : World) : Ret Tryz.prog 26 #[.int .i64 n] w fun r w' => (∃ (g1 g6 g8 : Nat) (v : Sl), (oddL g1 g6 g8 v)[(within n 9).toNat]? = some r) ∧ Fr none1 w w' := by
  refine c26 n w _ ?_
  unfold C26
  refine NewK.of fun g1 w1 hg1 hb1 f1 hs1 => ?_
  refine StsK.blk (cs := [.string ⟨#[]⟩]) hb1 rfl rfl fun w2 hb2 f2 hs2 => ?_
  obtain ⟨v, w3, hr3, hv, _, f3, _⟩ := lit_ok (P := Tryz.prog) (w := w2) elem_intI [.int .i64 1] (by simp [Value.cells]) (by decide)
  refine ⟨v, w3, hr3, ?_⟩
  refine NewK.of fun g6 w4 hg6 hb6 f4 hs4 => NewK.of fun g8 w5 hg8 hb8 f5 hs5 => ?_
  obtain ⟨y, w6, hr6, hy, hyl, f6, _⟩ := lit_ok (P := Tryz.prog) (w := w5) elem_anyI (oddL g1 g6 g8 v) (by unfold oddL; simp [Value.cells]) (by show 9 ≤ _; decide)
  refine ⟨y, w6, hr6, ?_⟩
  refine CallK.of (within_spec n 9 w6 (by decide)) ?_
  rintro _ _ ⟨rfl, rfl⟩
  refine ⟨_, rfl, ?_⟩
  have l0 := within_lo n 9
  have l1 := within_hi n (show (1 : Int) ≤ 9 by decide)
  have hyl : y.2.1 = 9 := hyl
  obtain ⟨r, hr⟩ : ∃ r, (oddL g1 g6 g8 v)[(within n 9).toNat]? = some r := ⟨_, List.getElem?_eq_getElem (show (within n 9).toNat < (oddL g1 g6 g8 v).length by show _ < 9; omega)⟩
  have F : Fr none1 w w6 := ((((f1.fresh f2 (by omega)).trans f3).trans f4).trans f5).trans f6
  exact RdSl.ld (c := .raw) hy.rd l0 (by rw [hyl]; omega) (x := r) hr ⟨⟨g1, g6, g8, v, hr⟩, F⟩

def fr0 (x : RawV) : FrM := (within x.1 2, within x.2.1 2147483648, within x.2.2.1 2147483648, IntKind.i64.wrap (1 + within x.2.2.2.1 4), within x.2.2.2.2.1 70, x.2.2.2.2.2.1, x.2.2.2.2.2.2.1, zeroM)

theorem zeroM_small : smallE zeroM.e := ⟨by decide, by decide, by decide, by decide⟩

theorem optA.on {a : Addr} {K : Addr → Prop} (k : K a) : optA (some a) K := k

end Go.Proofs.YtdphmcanlhcokaaGreatDoor

/-! ### CRefFr -/
namespace Go.Proofs.YtdphmcanlhcokaaGreatDoor
open Vc
set_option maxRecDepth 100000
set_option linter.unusedVariables false
/-- handfast/handfastref17.far -/
def C28 (p0 : Int) (w : World) (K : Value → World → Prop) : Prop :=
  ifB (decide (p0 < 0))
  (K (.bool true) w)
  (K (.bool (decide (p0 ≥ 2147483648))) w)
def pl28 : Plan := .auto
theorem e28 (p0 : Int) (w : World) (K : Value → World → Prop) : vcFunc Tryz.prog Tryz.f28 pl28 [.int .i64 p0] w K = C28 p0 w K := by kernel_rfl
theorem c28 (p0 : Int) (w : World) (K : Value → World → Prop) (h : C28 p0 w K) : Ret Tryz.prog 28 #[.int .i64 p0] w K := by
  rw [← e28] at h
  exact vcFunc_sound (by kernel_rfl) Tryz.func28 h

/-- handfast/handfastref17.CheckFrame -/
def C7 (p0 : YZ19) (p1 : Bool) (w : World) (K : Value → World → Prop) : Prop :=
  NewK (.cells ((LZ19 p0).toArray) 45) w (fun g1 w2 => JoinK (Bool × Unit) (fun J3 => LdK (.int .i64) ((ad g1).add 0) w2 (fun (x6 : Int) => ifB (decide (x6 < 0))
  (J3 (true, ()) w2)
  (LdK (.int .i64) ((ad g1).add 0) w2 (fun (x7 : Int) => ifB (decide (x7 > 1))
  (J3 (true, ()) w2)
  (LdK (.int .i64) ((ad g1).add 1) w2 (fun (x8 : Int) => CallK Tryz.prog 28 #[.int .i64 x8] w2 (.v (.one .bool)) (fun (x9 : Bool) w10 => ifB x9
  (J3 (true, ()) w10)
  (LdK (.int .i64) ((ad g1).add 2) w10 (fun (x11 : Int) => CallK Tryz.prog 28 #[.int .i64 x11] w10 (.v (.one .bool)) (fun (x12 : Bool) w13 => ifB x12
  (J3 (true, ()) w13)
  (LdK (.int .i64) ((ad g1).add 4) w13 (fun (x14 : Int) => CallK Tryz.prog 28 #[.int .i64 x14] w13 (.v (.one .bool)) (fun (x15 : Bool) w16 => ifB x15
  (J3 (true, ()) w16)
  (LdK (.int .i64) ((ad g1).add 3) w16 (fun (x17 : Int) => ifB (decide (x17 < 1))
  (J3 (true, ()) w16)
  (LdK (.int .i64) ((ad g1).add 3) w16 (fun (x18 : Int) => ifB (decide (x18 > 4))
  (J3 (true, ()) w16)
  (LdK .bool ((ad g1).add 6) w16 (fun (x19 : Bool) => ifB x19
  (LdK (.int .i64) ((ad g1).add 3) w16 (fun (x20 : Int) => ifB (x20 == 1)
  (J3 (true, ()) w16)
  (LdK (.int .i64) ((ad g1).add 3) w16 (fun (x21 : Int) => J3 ((x21 == 3), ()) w16))))
  (J3 (false, ()) w16))))))))))))))))))))
  (fun _ s4 w5 => ifB s4.1
  (K (.int .i64 1) w5)
  (LdK (.int .i64) ((ad g1).add 3) w5 (fun (x22 : Int) => ifB (x22 == 1)
  (LdsK KZ16 ((ad g1).add 7) w5 (fun (x23 : YZ16) => CallK Tryz.prog 29 #[.agg (LZ16 x23).toArray, .bool p1] w5 (.v (.one (.int .i64))) (fun (x24 : Int) w25 => K (.int .i64 x24) w25)))
  (LdsK KZ16 ((ad g1).add 7) w5 (fun (x26 : YZ16) => NewK (.cells #[.int .i64 0, .string (⟨#[]⟩ : ByteArray), .string (⟨#[]⟩ : ByteArray), .string (⟨#[]⟩ : ByteArray), .string (⟨#[]⟩ : ByteArray), .int .i64 0, .int .i64 0, .int .i64 0, .string (⟨#[]⟩ : ByteArray), .int .i64 0, .slice none 0 0] 43) w5 (fun g27 w28 => StsK (ad g27) (LZ16 x26) w28 (fun w29 => JoinK (Bool × Unit) (fun J30 => LdK (.int .i64) ((ad g27).add 0) w29 (fun (x33 : Int) => ifB (x33 != 0)
  (J30 (true, ()) w29)
  (LdK .str ((ad g27).add 1) w29 (fun (x34 : ByteArray) => ifB (!(x34.toList == (⟨#[]⟩ : ByteArray).toList))
  (J30 (true, ()) w29)
  (LdK .str ((ad g27).add 2) w29 (fun (x35 : ByteArray) => ifB (!(x35.toList == (⟨#[]⟩ : ByteArray).toList))
  (J30 (true, ()) w29)
  (LdK .str ((ad g27).add 3) w29 (fun (x36 : ByteArray) => ifB (!(x36.toList == (⟨#[]⟩ : ByteArray).toList))
  (J30 (true, ()) w29)
  (LdK .str ((ad g27).add 4) w29 (fun (x37 : ByteArray) => ifB (!(x37.toList == (⟨#[]⟩ : ByteArray).toList))
  (J30 (true, ()) w29)
  (LdK (.int .i64) ((ad g27).add 5) w29 (fun (x38 : Int) => ifB (x38 != 0)
  (J30 (true, ()) w29)
  (LdK (.int .i64) ((ad g27).add 6) w29 (fun (x39 : Int) => ifB (x39 != 0)
  (J30 (true, ()) w29)
  (LdK (.int .i64) (((ad g27).add 7).add 0) w29 (fun (x40 : Int) => ifB (x40 != 0)
  (J30 (true, ()) w29)
  (J30 (p1, ()) w29)))))))))))))))))
  (fun _ s31 w32 => ifB s31.1
  (K (.int .i64 1) w32)
  (K (.int .i64 0) w32))))))))))
def pl7 : Plan := (.seq .auto (.seq (.join [(52, .one .bool)] .auto .auto) (.seq .auto (.seq .auto (.seq (.join [(103, .one .bool)] .auto .auto) .auto)))))
theorem e7 (p0 : YZ19) (p1 : Bool) (w : World) (K : Value → World → Prop) : vcFunc Tryz.prog Tryz.f7 pl7 [.agg (LZ19 p0).toArray, .bool p1] w K = C7 p0 p1 w K := by kernel_rfl
theorem c7 (p0 : YZ19) (p1 : Bool) (w : World) (K : Value → World → Prop) (h : C7 p0 p1 w K) : Ret Tryz.prog 7 #[.agg (LZ19 p0).toArray, .bool p1] w K := by
  rw [← e7] at h
  exact vcFunc_sound (by kernel_rfl) Tryz.func7 h

/-- handfast/handfastref17.Seal -/
def C11 (p0 : List Value) (p1 : YZ19) (w : World) (K : Value → World → Prop) : Prop :=
  NewK (.cells p0.toArray 32) w (fun g1 w2 => NewK (.cells ((LZ19 p1).toArray) 45) w2 (fun g3 w4 => LdsK KZ19 (ad g3) w4 (fun (x5 : YZ19) => CallK Tryz.prog 7 #[.agg (LZ19 x5).toArray, .bool false] w4 (.v (.one (.int .i64))) (fun (x6 : Int) w7 => ifB (x6 != 0)
  (K (.tuple #[.slice none 0 0, .int .i64 x6]) w7)
  (JoinK (SlT × Unit) (fun J8 => DrewK w7 (fun w11 => HoldK (fun S12 => InK S12 ((ad g3).add 0) (LdK (.int .i64) ((ad g3).add 0) w11 (fun (x13 : Int) => InK S12 ((ad g3).add 1) (LdK (.int .i64) ((ad g3).add 1) w11 (fun (x14 : Int) => InK S12 ((ad g3).add 2) (LdK (.int .i64) ((ad g3).add 2) w11 (fun (x15 : Int) => AndK (RunK Tryz.prog (Instr.buildSlice 22 1 #[(0, .int .u8 (IntKind.u8.wrap x13))]) w11 (.v (.one .slc)) (fun (x16 : SlT) w17 => KeepK S12 w11 w17 (CallK Tryz.prog 35 #[.int .i64 x14] w17 (.v (.one .slc)) (fun (x18 : SlT) w19 => KeepK S12 w17 w19 (RunK Tryz.prog (Builtin.append_ #[22, 22] 22 #[.slice x16.1 x16.2.1 x16.2.2, .slice x18.1 x18.2.1 x18.2.2]) w19 (.v (.one .slc)) (fun (x20 : SlT) w21 => KeepK S12 w19 w21 (CallK Tryz.prog 35 #[.int .i64 x15] w21 (.v (.one .slc)) (fun (x22 : SlT) w23 => RunK Tryz.prog (Builtin.append_ #[22, 22] 22 #[.slice x20.1 x20.2.1 x20.2.2, .slice x22.1 x22.2.1 x22.2.2]) w23 (.v (.one .slc)) (fun (x24 : SlT) w25 => J8 ((x24.1, x24.2.1, x24.2.2), ()) w25)))))))))
  (CallK Tryz.prog 35 #[.int .i64 x14] w11 (.v (.one .slc)) (fun (x26 : SlT) w27 => KeepK S12 w11 w27 (RunK Tryz.prog (Instr.buildSlice 22 1 #[(0, .int .u8 (IntKind.u8.wrap x13))]) w27 (.v (.one .slc)) (fun (x28 : SlT) w29 => KeepK S12 w27 w29 (RunK Tryz.prog (Builtin.append_ #[22, 22] 22 #[.slice x28.1 x28.2.1 x28.2.2, .slice x26.1 x26.2.1 x26.2.2]) w29 (.v (.one .slc)) (fun (x30 : SlT) w31 => KeepK S12 w29 w31 (CallK Tryz.prog 35 #[.int .i64 x15] w31 (.v (.one .slc)) (fun (x32 : SlT) w33 => RunK Tryz.prog (Builtin.append_ #[22, 22] 22 #[.slice x30.1 x30.2.1 x30.2.2, .slice x32.1 x32.2.1 x32.2.2]) w33 (.v (.one .slc)) (fun (x34 : SlT) w35 => J8 ((x34.1, x34.2.1, x34.2.2), ()) w35))))))))))))))))))
  (fun _ s9 w10 => DrewK w10 (fun w36 => HoldK (fun S37 => InK S37 ((ad g3).add 3) (LdK (.int .i64) ((ad g3).add 3) w36 (fun (x38 : Int) => InK S37 ((ad g3).add 4) (LdK (.int .i64) ((ad g3).add 4) w36 (fun (x39 : Int) => InK S37 ((ad g3).add 5) (LdK (.int .u64) ((ad g3).add 5) w36 (fun (x40 : Int) => RunK Tryz.prog (Instr.buildSlice 22 1 #[(0, .int .u8 (IntKind.u8.wrap x38))]) w36 (.v (.one .slc)) (fun (x41 : SlT) w42 => KeepK S37 w36 w42 (RunK Tryz.prog (Builtin.append_ #[22, 22] 22 #[.slice s9.1.1 s9.1.2.1 s9.1.2.2, .slice x41.1 x41.2.1 x41.2.2]) w42 (.v (.one .slc)) (fun (x43 : SlT) w44 => KeepK S37 w42 w44 (CallK Tryz.prog 35 #[.int .i64 x39] w44 (.v (.one .slc)) (fun (x45 : SlT) w46 => KeepK S37 w44 w46 (RunK Tryz.prog (Builtin.append_ #[22, 22] 22 #[.slice x43.1 x43.2.1 x43.2.2, .slice x45.1 x45.2.1 x45.2.2]) w46 (.v (.one .slc)) (fun (x47 : SlT) w48 => KeepK S37 w46 w48 (CallK Tryz.prog 15 #[.int .u64 x40] w48 (.v (.one .slc)) (fun (x49 : SlT) w50 => RunK Tryz.prog (Builtin.append_ #[22, 22] 22 #[.slice x47.1 x47.2.1 x47.2.2, .slice x49.1 x49.2.1 x49.2.2]) w50 (.v (.one .slc)) (fun (x51 : SlT) w52 => LdK .bool ((ad g3).add 6) w52 (fun (x53 : Bool) => ifB x53
  (RunK Tryz.prog (Instr.buildSlice 22 1 #[(0, .int .u8 1)]) w52 (.v (.one .slc)) (fun (x54 : SlT) w55 => RunK Tryz.prog (Builtin.append_ #[22, 22] 22 #[.slice x51.1 x51.2.1 x51.2.2, .slice x54.1 x54.2.1 x54.2.2]) w55 (.v (.one .slc)) (fun (x56 : SlT) w57 => LdK (.int .i64) ((ad g3).add 3) w57 (fun (x58 : Int) => ifB (x58 == 1)
  (LdsK KZ16 ((ad g3).add 7) w57 (fun (x59 : YZ16) => CallK Tryz.prog 36 #[.agg (LZ16 x59).toArray] w57 (.tup [.one .slc, .one (.int .i64)]) (fun (x60 : SlT × Int × Unit) w61 => ifB (x60.2.1 != 0)
  (K (.tuple #[.slice none 0 0, .int .i64 x60.2.1]) w61)
  (RunK Tryz.prog (Builtin.append_ #[22, 22] 22 #[.slice x56.1 x56.2.1 x56.2.2, .slice x60.1.1 x60.1.2.1 x60.1.2.2]) w61 (.v (.one .slc)) (fun (x62 : SlT) w63 => LdaK 16 (ad g1) w63 (fun x64 => CallK Tryz.prog 16 #[.agg x64.toArray, .slice x62.1 x62.2.1 x62.2.2] w63 (.v (.one (.int .u64))) (fun (x65 : Int) w66 => CallK Tryz.prog 15 #[.int .u64 x65] w66 (.v (.one .slc)) (fun (x67 : SlT) w68 => RunK Tryz.prog (Builtin.append_ #[22, 22] 22 #[.slice x62.1 x62.2.1 x62.2.2, .slice x67.1 x67.2.1 x67.2.2]) w68 (.v (.one .slc)) (fun (x69 : SlT) w70 => K (.tuple #[.slice x69.1 x69.2.1 x69.2.2, .int .i64 0]) w70)))))))))
  (LdaK 16 (ad g1) w57 (fun x71 => CallK Tryz.prog 16 #[.agg x71.toArray, .slice x56.1 x56.2.1 x56.2.2] w57 (.v (.one (.int .u64))) (fun (x72 : Int) w73 => CallK Tryz.prog 15 #[.int .u64 x72] w73 (.v (.one .slc)) (fun (x74 : SlT) w75 => RunK Tryz.prog (Builtin.append_ #[22, 22] 22 #[.slice x56.1 x56.2.1 x56.2.2, .slice x74.1 x74.2.1 x74.2.2]) w75 (.v (.one .slc)) (fun (x76 : SlT) w77 => K (.tuple #[.slice x76.1 x76.2.1 x76.2.2, .int .i64 0]) w77)))))))))
  (RunK Tryz.prog (Instr.buildSlice 22 1 #[(0, .int .u8 0)]) w52 (.v (.one .slc)) (fun (x78 : SlT) w79 => RunK Tryz.prog (Builtin.append_ #[22, 22] 22 #[.slice x51.1 x51.2.1 x51.2.2, .slice x78.1 x78.2.1 x78.2.2]) w79 (.v (.one .slc)) (fun (x80 : SlT) w81 => LdK (.int .i64) ((ad g3).add 3) w81 (fun (x82 : Int) => ifB (x82 == 1)
  (LdsK KZ16 ((ad g3).add 7) w81 (fun (x83 : YZ16) => CallK Tryz.prog 36 #[.agg (LZ16 x83).toArray] w81 (.tup [.one .slc, .one (.int .i64)]) (fun (x84 : SlT × Int × Unit) w85 => ifB (x84.2.1 != 0)
  (K (.tuple #[.slice none 0 0, .int .i64 x84.2.1]) w85)
  (RunK Tryz.prog (Builtin.append_ #[22, 22] 22 #[.slice x80.1 x80.2.1 x80.2.2, .slice x84.1.1 x84.1.2.1 x84.1.2.2]) w85 (.v (.one .slc)) (fun (x86 : SlT) w87 => LdaK 16 (ad g1) w87 (fun x88 => CallK Tryz.prog 16 #[.agg x88.toArray, .slice x86.1 x86.2.1 x86.2.2] w87 (.v (.one (.int .u64))) (fun (x89 : Int) w90 => CallK Tryz.prog 15 #[.int .u64 x89] w90 (.v (.one .slc)) (fun (x91 : SlT) w92 => RunK Tryz.prog (Builtin.append_ #[22, 22] 22 #[.slice x86.1 x86.2.1 x86.2.2, .slice x91.1 x91.2.1 x91.2.2]) w92 (.v (.one .slc)) (fun (x93 : SlT) w94 => K (.tuple #[.slice x93.1 x93.2.1 x93.2.2, .int .i64 0]) w94)))))))))
  (LdaK 16 (ad g1) w81 (fun x95 => CallK Tryz.prog 16 #[.agg x95.toArray, .slice x80.1 x80.2.1 x80.2.2] w81 (.v (.one (.int .u64))) (fun (x96 : Int) w97 => CallK Tryz.prog 15 #[.int .u64 x96] w97 (.v (.one .slc)) (fun (x98 : SlT) w99 => RunK Tryz.prog (Builtin.append_ #[22, 22] 22 #[.slice x80.1 x80.2.1 x80.2.2, .slice x98.1 x98.2.1 x98.2.2]) w99 (.v (.one .slc)) (fun (x100 : SlT) w101 => K (.tuple #[.slice x100.1 x100.2.1 x100.2.2, .int .i64 0]) w101))))))))))))))))))))))))))))))))))
def pl11 : Plan := (.seq .auto (.seq .auto (.join [(7, .one .slc)] (.held (.soft 0 (.soft 1 (.soft 2 (.soft 4 (.soft 5 (.soft 8 (.soft 9 (.pick 3 (.pick 6 (.pick 7 (.last 10 (.last 11 (.soft 12 .done))) .stop) .stop) (.pick 6 (.pick 3 (.pick 7 (.last 10 (.last 11 (.soft 12 .done))) .stop) .stop) .stop)))))))))) (.seq (.held (.soft 0 (.soft 1 (.soft 2 (.soft 3 (.soft 6 (.soft 7 (.soft 10 (.soft 11 (.pick 4 (.pick 5 (.pick 8 (.pick 9 (.last 12 (.last 13 (.soft 14 .done))) .stop) .stop) .stop) .stop)))))))))) .auto))))
theorem e11 (p0 : List Value) (p1 : YZ19) (w : World) (K : Value → World → Prop) : vcFunc Tryz.prog Tryz.f11 pl11 [.agg p0.toArray, .agg (LZ19 p1).toArray] w K = C11 p0 p1 w K := by kernel_rfl
theorem c11 (p0 : List Value) (p1 : YZ19) (w : World) (K : Value → World → Prop) (h : C11 p0 p1 w K) : Ret Tryz.prog 11 #[.agg p0.toArray, .agg (LZ19 p1).toArray] w K := by
  rw [← e11] at h
  exact vcFunc_sound (by kernel_rfl) Tryz.func11 h

end Go.Proofs.YtdphmcanlhcokaaGreatDoor

/-! ### RefFr -/
set_option linter.unusedVariables false
set_option maxRecDepth 100000
namespace Go.Proofs.YtdphmcanlhcokaaGreatDoor
open Vc

theorem far_spec (n : Int) (w : World) : Ret Tryz.prog 28 #[.int .i64 n] w fun r w' => r = .bool (!countsF n) ∧ w = w' := by
  refine c28 n w _ ?_
  unfold C28
  refine ifB.dec (fun q => ⟨?_, rfl⟩) (fun q => ⟨?_, rfl⟩)
  · rw [show countsF n = false by unfold countsF; simp; omega]; rfl
  · refine congrArg Value.bool ?_
    unfold countsF
    by_cases h : n ≤ 2147483647
    · rw [decide_eq_false (by omega), decide_eq_true (show 0 ≤ n by omega), decide_eq_true h]; rfl
    · rw [decide_eq_true (by omega), decide_eq_false h, Bool.and_false]; rfl

theorem check17_gen (f : FrT) (v : TV) (od : Bool) (tr : Int) (w : World)
    (hev : ∀ w1, Fr none1 w w1 → Ret Tryz.prog 29 #[evRA (evR (frE f) v), .bool od] w1 fun r w' => r = .int .i64 (checkF (frE f) tr) ∧ Fr none1 w1 w')
    (hnil : (v.1 != 0 || od) = !(nilT (frE f).2.2.2.2.2.2.2.1)) :
    Ret Tryz.prog 7 #[frRA (frR f v), .bool od] w fun r w' => r = .int .i64 (checkFr f tr) ∧ Fr none1 w w' := by
  refine c7 (frR f v) od w _ ?_
  unfold C7
  refine NewK.of fun g w1 hg hb f1 hs1 => ?_
  have hb : w1.heap[g]? = some (.cells (frRL (frR f v)).toArray 45 (0, 0)) := hb
  refine JoinK.of (fun st w' => st.1 = (!(headF f && kindF f)) ∧ w1 = w') ?_ ?_
  · refine LdK.fld hb (x := f.1) rfl (ifB.dec (fun q => ⟨?_, rfl⟩) (fun q => LdK.fld hb (x := f.1) rfl (ifB.dec (fun q2 => ⟨?_, rfl⟩) (fun q2 => ?_))))
    · unfold headF; rw [show (f.1 == 0 || f.1 == 1) = false by simp; omega]; rfl
    · unfold headF; rw [show (f.1 == 0 || f.1 == 1) = false by simp; omega]; rfl
    have h0 : (f.1 == 0 || f.1 == 1) = true := by simp; omega
    refine LdK.fld hb (x := f.2.1) rfl (CallK.of (far_spec f.2.1 w1) ?_)
    rintro _ _ ⟨rfl, rfl⟩
    refine ⟨_, rfl, ifB.by (fun q => ⟨?_, rfl⟩) (fun q => ?_)⟩
    · unfold headF; rw [h0, show countsF f.2.1 = false by simpa using q]; rfl
    have h1 : countsF f.2.1 = true := by simpa using q
    refine LdK.fld hb (x := f.2.2.1) rfl (CallK.of (far_spec f.2.2.1 w1) ?_)
    rintro _ _ ⟨rfl, rfl⟩
    refine ⟨_, rfl, ifB.by (fun q => ⟨?_, rfl⟩) (fun q => ?_)⟩
    · unfold headF; rw [h0, h1, show countsF f.2.2.1 = false by simpa using q]; rfl
    have h2 : countsF f.2.2.1 = true := by simpa using q
    refine LdK.fld hb (x := f.2.2.2.2.1) rfl (CallK.of (far_spec f.2.2.2.2.1 w1) ?_)
    rintro _ _ ⟨rfl, rfl⟩
    refine ⟨_, rfl, ifB.by (fun q => ⟨?_, rfl⟩) (fun q => ?_)⟩
    · unfold headF; rw [h0, h1, h2, show countsF f.2.2.2.2.1 = false by simpa using q]; rfl
    have h3 : countsF f.2.2.2.2.1 = true := by simpa using q
    have hh : headF f = true := by unfold headF; rw [h0, h1, h2, h3]; rfl
    rw [hh, Bool.true_and]
    unfold kindF
    refine LdK.fld hb (x := f.2.2.2.1) rfl (ifB.dec (fun q => ⟨?_, rfl⟩) (fun q => LdK.fld hb (x := f.2.2.2.1) rfl (ifB.dec (fun q2 => ⟨?_, rfl⟩) (fun q2 => ?_))))
    · rw [decide_eq_false (show ¬ (1 ≤ f.2.2.2.1) by omega)]; rfl
    · rw [decide_eq_false (show ¬ (f.2.2.2.1 ≤ 4) by omega), Bool.false_and, Bool.and_false]; rfl
    rw [decide_eq_true (show 1 ≤ f.2.2.2.1 by omega), decide_eq_true (show f.2.2.2.1 ≤ 4 by omega), Bool.true_and, Bool.true_and, Bool.not_not]
    refine LdK.fld hb (x := f.2.2.2.2.2.2.1) rfl (ifB.by (fun q => LdK.fld hb (x := f.2.2.2.1) rfl (ifB.by (fun q2 => ⟨?_, rfl⟩) (fun q2 => LdK.fld hb (x := f.2.2.2.1) rfl ⟨?_, rfl⟩))) (fun q => ⟨?_, rfl⟩))
    · rw [q, q2]; rfl
    · rw [q, q2]; rfl
    · rw [q]; rfl
  rintro _ ⟨bd, _⟩ _ ⟨hbd, rfl⟩
  dsimp only at hbd ⊢
  refine ifB.by (fun q => ⟨?_, f1⟩) (fun q => ?_)
  · rw [q] at hbd
    unfold checkFr
    by_cases hh : headF f = false
    · rw [if_pos hh]
    · rw [if_neg hh, if_pos (by cases hk : kindF f with | false => rfl | true => rw [hk, show headF f = true by simpa using hh] at hbd; cases hbd)]
  rw [q] at hbd
  have hbt : headF f = true ∧ kindF f = true := by
    cases h1 : headF f <;> cases h2 : kindF f <;> rw [h1, h2] at hbd <;> first | exact ⟨rfl, rfl⟩ | cases hbd
  have hC : checkFr f tr = if f.2.2.2.1 = 1 then checkF (frE f) tr else if noneF (frE f) = false then 1 else 0 := by
    unfold checkFr; rw [if_neg (by rw [hbt.1]; decide), if_neg (by rw [hbt.2]; decide)]
  refine LdK.fld hb (x := f.2.2.2.1) rfl (ifB.eq (fun q => frr_ev hb ?_) (fun q => frr_ev hb ?_))
  · refine CallK.of (hev w1 f1) ?_
    rintro _ w2 ⟨rfl, f2⟩
    exact ⟨_, rfl, by rw [hC, if_pos q], f1.trans f2⟩
  rw [if_neg q] at hC
  refine ns_ok (vs := evRL (evR (frE f) v)) rfl rfl fun g2 w2 hg2 hb2 f2 => ?_
  refine JoinK.of (fun st w' => st.1 = (!(noneF (frE f))) ∧ w2 = w') ?_ ?_
  · unfold noneF
    cases hn : nilT (frE f).2.2.2.2.2.2.2.1 with
    | true =>
      rw [hn] at hnil
      obtain ⟨hv0, hod⟩ : v.1 = 0 ∧ od = false := by
        cases od with
        | true => rw [Bool.or_true] at hnil; cases hnil
        | false => exact ⟨by simpa using hnil, rfl⟩
      rw [Bool.true_and]
      refine LdK.fld hb2 (x := (frE f).1) rfl (ifB.ne (fun q => ⟨?_, rfl⟩) (fun q => ?_))
      · rw [show ((frE f).1 == 0) = false by simpa using q]; rfl
      rw [show ((frE f).1 == 0) = true by simpa using q, Bool.true_and]
      refine LdK.fld hb2 (x := (frE f).2.1) rfl (ifB.not (ifB.by (fun q => ?_) (fun q => ⟨?_, rfl⟩)))
      rotate_left
      · rw [show emptyB (frE f).2.1 = false from q]; rfl
      rw [show emptyB (frE f).2.1 = true from q, Bool.true_and]
      refine LdK.fld hb2 (x := (frE f).2.2.1) rfl (ifB.not (ifB.by (fun q => ?_) (fun q => ⟨?_, rfl⟩)))
      rotate_left
      · rw [show emptyB (frE f).2.2.1 = false from q]; rfl
      rw [show emptyB (frE f).2.2.1 = true from q, Bool.true_and]
      refine LdK.fld hb2 (x := (frE f).2.2.2.1) rfl (ifB.not (ifB.by (fun q => ?_) (fun q => ⟨?_, rfl⟩)))
      rotate_left
      · rw [show emptyB (frE f).2.2.2.1 = false from q]; rfl
      rw [show emptyB (frE f).2.2.2.1 = true from q, Bool.true_and]
      refine LdK.fld hb2 (x := (frE f).2.2.2.2.1) rfl (ifB.not (ifB.by (fun q => ?_) (fun q => ⟨?_, rfl⟩)))
      rotate_left
      · rw [show emptyB (frE f).2.2.2.2.1 = false from q]; rfl
      rw [show emptyB (frE f).2.2.2.2.1 = true from q, Bool.true_and]
      refine LdK.fld hb2 (x := (frE f).2.2.2.2.2.1) rfl (ifB.ne (fun q => ⟨?_, rfl⟩) (fun q => ?_))
      · rw [show ((frE f).2.2.2.2.2.1 == 0) = false by simpa using q]; rfl
      rw [show ((frE f).2.2.2.2.2.1 == 0) = true by simpa using q, Bool.true_and]
      refine LdK.fld hb2 (x := (frE f).2.2.2.2.2.2.1) rfl (ifB.ne (fun q => ⟨?_, rfl⟩) (fun q => ?_))
      · rw [show ((frE f).2.2.2.2.2.2.1 == 0) = false by simpa using q]; rfl
      rw [show ((frE f).2.2.2.2.2.2.1 == 0) = true by simpa using q]
      refine LdK.fld hb2 (x := v.1) rfl (ifB.ne (fun q => absurd hv0 q) (fun _ => ⟨hod, rfl⟩))
    | false =>
      rw [hn] at hnil
      rw [Bool.false_and, Bool.not_false]
      refine LdK.fld hb2 (x := (frE f).1) rfl (ifB.by (fun _ => ⟨rfl, rfl⟩) (fun _ => ?_))
      refine LdK.fld hb2 (x := (frE f).2.1) rfl (ifB.by (fun _ => ⟨rfl, rfl⟩) (fun _ => ?_))
      refine LdK.fld hb2 (x := (frE f).2.2.1) rfl (ifB.by (fun _ => ⟨rfl, rfl⟩) (fun _ => ?_))
      refine LdK.fld hb2 (x := (frE f).2.2.2.1) rfl (ifB.by (fun _ => ⟨rfl, rfl⟩) (fun _ => ?_))
      refine LdK.fld hb2 (x := (frE f).2.2.2.2.1) rfl (ifB.by (fun _ => ⟨rfl, rfl⟩) (fun _ => ?_))
      refine LdK.fld hb2 (x := (frE f).2.2.2.2.2.1) rfl (ifB.by (fun _ => ⟨rfl, rfl⟩) (fun _ => ?_))
      refine LdK.fld hb2 (x := (frE f).2.2.2.2.2.2.1) rfl (ifB.by (fun _ => ⟨rfl, rfl⟩) (fun _ => ?_))
      refine LdK.fld hb2 (x := v.1) rfl (ifB.by (fun _ => ⟨rfl, rfl⟩) (fun q => ⟨?_, rfl⟩))
      rw [q] at hnil; simpa using hnil
  rintro _ ⟨nb, _⟩ _ ⟨hnb, rfl⟩
  dsimp only at hnb ⊢
  have f12 := f1.trans f2
  refine ifB.by (fun q => ⟨?_, f12⟩) (fun q => ⟨?_, f12⟩)
  · rw [hC, if_pos (by rw [q] at hnb; simpa using hnb)]
  · rw [hC, if_neg (by rw [q] at hnb; simpa using hnb)]

end Go.Proofs.YtdphmcanlhcokaaGreatDoor

/-! ### CRefSip -/
namespace Go.Proofs.YtdphmcanlhcokaaGreatDoor
open Vc
set_option maxRecDepth 100000
set_option linter.unusedVariables false
/-- handfast/handfastref01.left -/
def C66 (p0 : Int) (p1 : Int) (w : World) (K : Value → World → Prop) : Prop :=
  NnK p1 (NnK (IntKind.u64.wrap (64 - p1)) (K (.int .u64 (IntKind.u64.wrap ((BitVec.ofInt 64 (IntKind.u64.wrap (p0 * 2 ^ (min (Int.toNat p1) 64))) ||| BitVec.ofInt 64 (Int.fdiv p0 (2 ^ (min (Int.toNat (IntKind.u64.wrap (64 - p1))) 64)))).toNat : Int))) w))
def pl66 : Plan := .auto
theorem e66 (p0 : Int) (p1 : Int) (w : World) (K : Value → World → Prop) : vcFunc Tryz.prog Tryz.f66 pl66 [.int .u64 p0, .int .u64 p1] w K = C66 p0 p1 w K := by kernel_rfl
theorem c66 (p0 : Int) (p1 : Int) (w : World) (K : Value → World → Prop) (h : C66 p0 p1 w K) : Ret Tryz.prog 66 #[.int .u64 p0, .int .u64 p1] w K := by
  rw [← e66] at h
  exact vcFunc_sound (by kernel_rfl) Tryz.func66 h

/-- handfast/handfastref01.number -/
def C37 (p0 : Option Addr) (p0l p0c : Nat) (w : World) (K : Value → World → Prop) : Prop :=
  LoopK (Int × Int × Unit) (fun _ s1 w2 next3 => ifB (decide (s1.2.1 ≥ 0))
  (NnK 8 (IdxK p0 p0l s1.2.1 1 (fun a4 => LdK (.int .u8) a4 w2 (fun (x5 : Int) => next3 (IntKind.u64.wrap ((BitVec.ofInt 64 (IntKind.u64.wrap (s1.1 * 2 ^ (min (Int.toNat 8) 64))) ||| BitVec.ofInt 64 (IntKind.u64.wrap x5)).toNat : Int), IntKind.i64.wrap (s1.2.1 - 1), ()) w2))))
  (K (.int .u64 s1.1) w2))
  (0, 7, ()) w
def pl37 : Plan := (.seq .auto (.seq .auto (.seq (.seq .auto (.block (.loop [(3, .one (.int .u64)), (4, .one (.int .i64))] .auto))) .auto)))
theorem e37 (p0 : Option Addr) (p0l p0c : Nat) (w : World) (K : Value → World → Prop) : vcFunc Tryz.prog Tryz.f37 pl37 [.slice p0 p0l p0c] w K = C37 p0 p0l p0c w K := by kernel_rfl
theorem c37 (p0 : Option Addr) (p0l p0c : Nat) (w : World) (K : Value → World → Prop) (h : C37 p0 p0l p0c w K) : Ret Tryz.prog 37 #[.slice p0 p0l p0c] w K := by
  rw [← e37] at h
  exact vcFunc_sound (by kernel_rfl) Tryz.func37 h

/-- handfast/handfastref01.round -/
def C38 (p0 : List Value) (w : World) (K : Value → World → Prop) : Prop :=
  NewK (.cells p0.toArray 84) w (fun g1 w2 => NewK (.cells #[.int .u64 0, .int .u64 0, .int .u64 0, .int .u64 0] 84) w2 (fun g3 w4 => AixK (ad g1) 4 0 1 (fun a5 => LdK (.int .u64) a5 w4 (fun (x6 : Int) => AixK (ad g1) 4 1 1 (fun a7 => LdK (.int .u64) a7 w4 (fun (x8 : Int) => AixK (ad g1) 4 0 1 (fun a9 => StK a9 (.int .u64 (IntKind.u64.wrap (x6 + x8))) w4 (fun w10 => DrewK w10 (fun w11 => HoldK (fun S12 => AixK (ad g1) 4 1 1 (fun a13 => InK S12 a13 (LdK (.int .u64) a13 w11 (fun (x14 : Int) => AixK (ad g1) 4 0 1 (fun a15 => InK S12 a15 (LdK (.int .u64) a15 w11 (fun (x16 : Int) => CallK Tryz.prog 66 #[.int .u64 x14, .int .u64 13] w11 (.v (.one (.int .u64))) (fun (x17 : Int) w18 => KeepK S12 w11 w18 (AixK (ad g1) 4 1 1 (fun a19 => StK a19 (.int .u64 (IntKind.u64.wrap ((BitVec.ofInt 64 x17 ^^^ BitVec.ofInt 64 x16).toNat : Int))) w18 (fun w20 => AixK (ad g1) 4 0 1 (fun a21 => LdK (.int .u64) a21 w20 (fun (x22 : Int) => CallK Tryz.prog 66 #[.int .u64 x22, .int .u64 32] w20 (.v (.one (.int .u64))) (fun (x23 : Int) w24 => AixK (ad g1) 4 0 1 (fun a25 => StK a25 (.int .u64 x23) w24 (fun w26 => AixK (ad g1) 4 2 1 (fun a27 => LdK (.int .u64) a27 w26 (fun (x28 : Int) => AixK (ad g1) 4 3 1 (fun a29 => LdK (.int .u64) a29 w26 (fun (x30 : Int) => AixK (ad g1) 4 2 1 (fun a31 => StK a31 (.int .u64 (IntKind.u64.wrap (x28 + x30))) w26 (fun w32 => DrewK w32 (fun w33 => HoldK (fun S34 => AixK (ad g1) 4 3 1 (fun a35 => InK S34 a35 (LdK (.int .u64) a35 w33 (fun (x36 : Int) => AixK (ad g1) 4 2 1 (fun a37 => InK S34 a37 (LdK (.int .u64) a37 w33 (fun (x38 : Int) => CallK Tryz.prog 66 #[.int .u64 x36, .int .u64 16] w33 (.v (.one (.int .u64))) (fun (x39 : Int) w40 => KeepK S34 w33 w40 (AixK (ad g1) 4 3 1 (fun a41 => StK a41 (.int .u64 (IntKind.u64.wrap ((BitVec.ofInt 64 x39 ^^^ BitVec.ofInt 64 x38).toNat : Int))) w40 (fun w42 => AixK (ad g1) 4 0 1 (fun a43 => LdK (.int .u64) a43 w42 (fun (x44 : Int) => AixK (ad g1) 4 3 1 (fun a45 => LdK (.int .u64) a45 w42 (fun (x46 : Int) => AixK (ad g1) 4 0 1 (fun a47 => StK a47 (.int .u64 (IntKind.u64.wrap (x44 + x46))) w42 (fun w48 => DrewK w48 (fun w49 => HoldK (fun S50 => AixK (ad g1) 4 3 1 (fun a51 => InK S50 a51 (LdK (.int .u64) a51 w49 (fun (x52 : Int) => AixK (ad g1) 4 0 1 (fun a53 => InK S50 a53 (LdK (.int .u64) a53 w49 (fun (x54 : Int) => CallK Tryz.prog 66 #[.int .u64 x52, .int .u64 21] w49 (.v (.one (.int .u64))) (fun (x55 : Int) w56 => KeepK S50 w49 w56 (AixK (ad g1) 4 3 1 (fun a57 => StK a57 (.int .u64 (IntKind.u64.wrap ((BitVec.ofInt 64 x55 ^^^ BitVec.ofInt 64 x54).toNat : Int))) w56 (fun w58 => AixK (ad g1) 4 2 1 (fun a59 => LdK (.int .u64) a59 w58 (fun (x60 : Int) => AixK (ad g1) 4 1 1 (fun a61 => LdK (.int .u64) a61 w58 (fun (x62 : Int) => AixK (ad g1) 4 2 1 (fun a63 => StK a63 (.int .u64 (IntKind.u64.wrap (x60 + x62))) w58 (fun w64 => DrewK w64 (fun w65 => HoldK (fun S66 => AixK (ad g1) 4 1 1 (fun a67 => InK S66 a67 (LdK (.int .u64) a67 w65 (fun (x68 : Int) => AixK (ad g1) 4 2 1 (fun a69 => InK S66 a69 (LdK (.int .u64) a69 w65 (fun (x70 : Int) => CallK Tryz.prog 66 #[.int .u64 x68, .int .u64 17] w65 (.v (.one (.int .u64))) (fun (x71 : Int) w72 => KeepK S66 w65 w72 (AixK (ad g1) 4 1 1 (fun a73 => StK a73 (.int .u64 (IntKind.u64.wrap ((BitVec.ofInt 64 x71 ^^^ BitVec.ofInt 64 x70).toNat : Int))) w72 (fun w74 => AixK (ad g1) 4 2 1 (fun a75 => LdK (.int .u64) a75 w74 (fun (x76 : Int) => CallK Tryz.prog 66 #[.int .u64 x76, .int .u64 32] w74 (.v (.one (.int .u64))) (fun (x77 : Int) w78 => AixK (ad g1) 4 2 1 (fun a79 => StK a79 (.int .u64 x77) w78 (fun w80 => LdaK 4 (ad g1) w80 (fun x81 => AndK (x81.length = 4) (StsK (ad g3) x81 w80 (fun w82 => LdaK 4 (ad g3) w82 (fun x83 => K (.agg x83.toArray) w82))))))))))))))))))))))))))))))))))))))))))))))))))))))))))))))))))))))))))))))))))))))))
def pl38 : Plan := (.seq .auto (.seq .auto (.seq (.held (.soft 0 (.soft 1 (.soft 3 (.soft 4 (.pick 2 (.soft 5 (.soft 6 (.last 7 .done))) .stop)))))) (.seq .auto (.seq .auto (.seq (.held (.soft 0 (.soft 1 (.soft 3 (.soft 4 (.pick 2 (.soft 5 (.soft 6 (.last 7 .done))) .stop)))))) (.seq .auto (.seq (.held (.soft 0 (.soft 1 (.soft 3 (.soft 4 (.pick 2 (.soft 5 (.soft 6 (.last 7 .done))) .stop)))))) (.seq .auto (.seq (.held (.soft 0 (.soft 1 (.soft 3 (.soft 4 (.pick 2 (.soft 5 (.soft 6 (.last 7 .done))) .stop)))))) .auto))))))))))
theorem e38 (p0 : List Value) (w : World) (K : Value → World → Prop) : vcFunc Tryz.prog Tryz.f38 pl38 [.agg p0.toArray] w K = C38 p0 w K := by kernel_rfl
theorem c38 (p0 : List Value) (w : World) (K : Value → World → Prop) (h : C38 p0 w K) : Ret Tryz.prog 38 #[.agg p0.toArray] w K := by
  rw [← e38] at h
  exact vcFunc_sound (by kernel_rfl) Tryz.func38 h

/-- handfast/handfastref01.Sip -/
def C16 (p0 : List Value) (p1 : Option Addr) (p1l p1c : Nat) (w : World) (K : Value → World → Prop) : Prop :=
  NewK (.cells p0.toArray 32) w (fun g1 w2 => DrewK w2 (fun w3 => HoldK (fun S4 => SubK (some (ad g1)) 16 0 8 16 1 (fun a5 l6 c7 => SubK (some (ad g1)) 16 8 16 16 1 (fun a8 l9 c10 => CallK Tryz.prog 37 #[.slice a5 l6 c7] w3 (.v (.one (.int .u64))) (fun (x11 : Int) w12 => KeepK S4 w3 w12 (CallK Tryz.prog 37 #[.slice a8 l9 c10] w12 (.v (.one (.int .u64))) (fun (x13 : Int) w14 => KeepK S4 w12 w14 (NewK (.cells #[.int .u64 0, .int .u64 0, .int .u64 0, .int .u64 0] 84) w14 (fun g15 w16 => AndK (([.int .u64 (IntKind.u64.wrap ((BitVec.ofInt 64 x11 ^^^ BitVec.ofInt 64 8317987319222330741).toNat : Int)), .int .u64 (IntKind.u64.wrap ((BitVec.ofInt 64 x13 ^^^ BitVec.ofInt 64 7237128888997146477).toNat : Int)), .int .u64 (IntKind.u64.wrap ((BitVec.ofInt 64 x11 ^^^ BitVec.ofInt 64 7816392313619706465).toNat : Int)), .int .u64 (IntKind.u64.wrap ((BitVec.ofInt 64 x13 ^^^ BitVec.ofInt 64 8387220255154660723).toNat : Int))] : List Value).length = 4) (StsK (ad g15) [.int .u64 (IntKind.u64.wrap ((BitVec.ofInt 64 x11 ^^^ BitVec.ofInt 64 8317987319222330741).toNat : Int)), .int .u64 (IntKind.u64.wrap ((BitVec.ofInt 64 x13 ^^^ BitVec.ofInt 64 7237128888997146477).toNat : Int)), .int .u64 (IntKind.u64.wrap ((BitVec.ofInt 64 x11 ^^^ BitVec.ofInt 64 7816392313619706465).toNat : Int)), .int .u64 (IntKind.u64.wrap ((BitVec.ofInt 64 x13 ^^^ BitVec.ofInt 64 8387220255154660723).toNat : Int))] w16 (fun w17 => RunK Tryz.prog (Builtin.append_ #[22, 22] 22 #[.slice none 0 0, .slice p1 p1l p1c]) w17 (.v (.one .slc)) (fun (x18 : SlT) w19 => LoopK (SlT × Unit) (fun _ s20 w21 next22 => NzK 8 (ifB (((s20.1.2.1 : Int).tmod 8) != 7)
  (RunK Tryz.prog (Instr.buildSlice 22 1 #[(0, .int .u8 0)]) w21 (.v (.one .slc)) (fun (x23 : SlT) w24 => RunK Tryz.prog (Builtin.append_ #[22, 22] 22 #[.slice s20.1.1 s20.1.2.1 s20.1.2.2, .slice x23.1 x23.2.1 x23.2.2]) w24 (.v (.one .slc)) (fun (x25 : SlT) w26 => next22 ((x25.1, x25.2.1, x25.2.2), ()) w26)))
  (RunK Tryz.prog (Instr.buildSlice 22 1 #[(0, .int .u8 (IntKind.u8.wrap (p1l : Int)))]) w21 (.v (.one .slc)) (fun (x27 : SlT) w28 => RunK Tryz.prog (Builtin.append_ #[22, 22] 22 #[.slice s20.1.1 s20.1.2.1 s20.1.2.2, .slice x27.1 x27.2.1 x27.2.2]) w28 (.v (.one .slc)) (fun (x29 : SlT) w30 => LoopK (Int × Unit) (fun _ s31 w32 next33 => ifB (decide (s31.1 < (x29.2.1 : Int)))
  (SubK x29.1 x29.2.2 s31.1 (IntKind.i64.wrap (s31.1 + 8)) x29.2.2 1 (fun a34 l35 c36 => CallK Tryz.prog 37 #[.slice a34 l35 c36] w32 (.v (.one (.int .u64))) (fun (x37 : Int) w38 => AixK (ad g15) 4 3 1 (fun a39 => LdK (.int .u64) a39 w38 (fun (x40 : Int) => AixK (ad g15) 4 3 1 (fun a41 => StK a41 (.int .u64 (IntKind.u64.wrap ((BitVec.ofInt 64 x40 ^^^ BitVec.ofInt 64 x37).toNat : Int))) w38 (fun w42 => LdaK 4 (ad g15) w42 (fun x43 => CallK Tryz.prog 38 #[.agg x43.toArray] w42 (.v (.arr)) (fun (x44 : List Value) w45 => CallK Tryz.prog 38 #[.agg x44.toArray] w45 (.v (.arr)) (fun (x46 : List Value) w47 => AndK (x46.length = 4) (StsK (ad g15) x46 w47 (fun w48 => AixK (ad g15) 4 0 1 (fun a49 => LdK (.int .u64) a49 w48 (fun (x50 : Int) => AixK (ad g15) 4 0 1 (fun a51 => StK a51 (.int .u64 (IntKind.u64.wrap ((BitVec.ofInt 64 x50 ^^^ BitVec.ofInt 64 x37).toNat : Int))) w48 (fun w52 => next33 (IntKind.i64.wrap (s31.1 + 8), ()) w52))))))))))))))))
  (AixK (ad g15) 4 2 1 (fun a53 => LdK (.int .u64) a53 w32 (fun (x54 : Int) => AixK (ad g15) 4 2 1 (fun a55 => StK a55 (.int .u64 (IntKind.u64.wrap ((BitVec.ofInt 64 x54 ^^^ BitVec.ofInt 64 255).toNat : Int))) w32 (fun w56 => LdaK 4 (ad g15) w56 (fun x57 => CallK Tryz.prog 38 #[.agg x57.toArray] w56 (.v (.arr)) (fun (x58 : List Value) w59 => CallK Tryz.prog 38 #[.agg x58.toArray] w59 (.v (.arr)) (fun (x60 : List Value) w61 => CallK Tryz.prog 38 #[.agg x60.toArray] w61 (.v (.arr)) (fun (x62 : List Value) w63 => CallK Tryz.prog 38 #[.agg x62.toArray] w63 (.v (.arr)) (fun (x64 : List Value) w65 => AndK (x64.length = 4) (StsK (ad g15) x64 w65 (fun w66 => AixK (ad g15) 4 0 1 (fun a67 => LdK (.int .u64) a67 w66 (fun (x68 : Int) => AixK (ad g15) 4 1 1 (fun a69 => LdK (.int .u64) a69 w66 (fun (x70 : Int) => AixK (ad g15) 4 2 1 (fun a71 => LdK (.int .u64) a71 w66 (fun (x72 : Int) => AixK (ad g15) 4 3 1 (fun a73 => LdK (.int .u64) a73 w66 (fun (x74 : Int) => K (.int .u64 (IntKind.u64.wrap ((BitVec.ofInt 64 (IntKind.u64.wrap ((BitVec.ofInt 64 (IntKind.u64.wrap ((BitVec.ofInt 64 x68 ^^^ BitVec.ofInt 64 x70).toNat : Int)) ^^^ BitVec.ofInt 64 x72).toNat : Int)) ^^^ BitVec.ofInt 64 x74).toNat : Int))) w66)))))))))))))))))))))
  (0, ()) w30)))))
  ((x18.1, x18.2.1, x18.2.2), ()) w19)))))))))))))
def pl16 : Plan := (.seq .auto (.seq (.held (.soft 0 (.soft 2 (.pick 1 (.pick 3 (.soft 4 (.soft 5 .done)) .stop) .stop)))) (.seq .auto (.seq .auto (.seq (.block (.loop [(8, .one .slc)] .auto)) (.seq .auto (.seq (.seq .auto (.block (.loop [(9, .one (.int .i64))] .auto))) .auto)))))))
theorem e16 (p0 : List Value) (p1 : Option Addr) (p1l p1c : Nat) (w : World) (K : Value → World → Prop) : vcFunc Tryz.prog Tryz.f16 pl16 [.agg p0.toArray, .slice p1 p1l p1c] w K = C16 p0 p1 p1l p1c w K := by kernel_rfl
theorem c16 (p0 : List Value) (p1 : Option Addr) (p1l p1c : Nat) (w : World) (K : Value → World → Prop) (h : C16 p0 p1 p1l p1c w K) : Ret Tryz.prog 16 #[.agg p0.toArray, .slice p1 p1l p1c] w K := by
  rw [← e16] at h
  exact vcFunc_sound (by kernel_rfl) Tryz.func16 h

/-- handfast/handfastref01.Bytes -/
def C15 (p0 : Int) (w : World) (K : Value → World → Prop) : Prop :=
  LoopK (SlT × Int × Unit) (fun _ s1 w2 next3 => ifB (decide (s1.2.1 < 8))
  (NnK (IntKind.u64.wrap (IntKind.i64.wrap (8 * s1.2.1))) (RunK Tryz.prog (Instr.buildSlice 22 1 #[(0, .int .u8 (IntKind.u8.wrap (Int.fdiv p0 (2 ^ (min (Int.toNat (IntKind.u64.wrap (IntKind.i64.wrap (8 * s1.2.1)))) 64)))))]) w2 (.v (.one .slc)) (fun (x4 : SlT) w5 => RunK Tryz.prog (Builtin.append_ #[22, 22] 22 #[.slice s1.1.1 s1.1.2.1 s1.1.2.2, .slice x4.1 x4.2.1 x4.2.2]) w5 (.v (.one .slc)) (fun (x6 : SlT) w7 => next3 ((x6.1, x6.2.1, x6.2.2), IntKind.i64.wrap (s1.2.1 + 1), ()) w7))))
  (K (.slice s1.1.1 s1.1.2.1 s1.1.2.2) w2))
  ((none, 0, 0), 0, ()) w
def pl15 : Plan := (.seq .auto (.seq .auto (.seq (.seq .auto (.block (.loop [(3, .one .slc), (4, .one (.int .i64))] .auto))) .auto)))
theorem e15 (p0 : Int) (w : World) (K : Value → World → Prop) : vcFunc Tryz.prog Tryz.f15 pl15 [.int .u64 p0] w K = C15 p0 w K := by kernel_rfl
theorem c15 (p0 : Int) (w : World) (K : Value → World → Prop) (h : C15 p0 w K) : Ret Tryz.prog 15 #[.int .u64 p0] w K := by
  rw [← e15] at h
  exact vcFunc_sound (by kernel_rfl) Tryz.func15 h

end Go.Proofs.YtdphmcanlhcokaaGreatDoor

/-! ### RefSipSpec -/
set_option linter.unusedVariables false
set_option maxRecDepth 100000
namespace Go.Proofs.YtdphmcanlhcokaaGreatDoor
open Vc

/-- The document's state: an array of four numbers. -/
def sipL (s : SipS) : List Value := [.int .u64 s.1, .int .u64 s.2.1, .int .u64 s.2.2.1, .int .u64 s.2.2.2]
def IsAr (w : World) (b : Nat) (s : SipS) : Prop := w.heap[b]? = some (.cells (sipL s).toArray 84 (0, 0))
theorem IsAr.keep0 {w w' : World} {b : Nat} {s : SipS} (h : IsAr w b s) (f : Fr none1 w w') : IsAr w' b s := f.keep0 h
theorem IsAr.ld {w : World} {b : Nat} {s : SipS} (h : IsAr w b s) {i : Int} (h0 : 0 ≤ i) (h1 : i < 4) {x : Int} (hx : (sipL s)[i.toNat]? = some (.int .u64 x)) {K : Int → Prop} (k : K x) : AixK ⟨b, 0, none⟩ 4 i 1 fun a => LdK (.int .u64) a w K :=
  AixK.of h0 h1 (LdK.of h (x := x) (by rw [List.getElem?_toArray]; exact hx) k)
theorem IsAr.ldS {w : World} {b : Nat} {s : SipS} (h : IsAr w b s) {i : Int} (h0 : 0 ≤ i) (h1 : i < 4) {x : Int} (hx : (sipL s)[i.toNat]? = some (.int .u64 x)) {K : Int → Prop} (k : K x) : AixK ⟨b, 0, none⟩ 4 i 1 fun a => InK all1 a (LdK (.int .u64) a w K) :=
  AixK.of h0 h1 (InK.all (LdK.of h (x := x) (by rw [List.getElem?_toArray]; exact hx) k))
theorem IsAr.st {w : World} {b : Nat} {s s' : SipS} (h : IsAr w b s) {i : Int} (h0 : 0 ≤ i) (h1 : i < 4) {x : Int} (hs : (sipL s).set i.toNat (.int .u64 x) = sipL s') {K : World → Prop} (k : ∀ w1, IsAr w1 b s' → Fr (only b) w w1 → K w1) : AixK ⟨b, 0, none⟩ 4 i 1 fun a => StK a (.int .u64 x) w K :=
  AixK.of h0 h1 (StK.of h (by show _ < 4; omega) rfl fun w1 hb f _ => k w1 (by unfold IsAr; rw [hb, List.setIfInBounds_toArray, hs]) f)

theorem left_spec (x k : Int) (hk : k = 13 ∨ k = 16 ∨ k = 17 ∨ k = 21 ∨ k = 32) (w : World) : Ret Tryz.prog 66 #[.int .u64 x, .int .u64 k] w fun r w' => r = .int .u64 (rotU x k.toNat) ∧ w = w' := by
  refine c66 x k w _ ?_
  unfold C66 rotU
  have e2 : IntKind.u64.wrap (64 - k) = 64 - k := by rcases hk with rfl | rfl | rfl | rfl | rfl <;> decide
  have e3 : Int.toNat (64 - k) = 64 - k.toNat := by rcases hk with rfl | rfl | rfl | rfl | rfl <;> decide
  rw [e2, e3]
  exact ⟨by rcases hk with rfl | rfl | rfl | rfl | rfl <;> decide, by rcases hk with rfl | rfl | rfl | rfl | rfl <;> decide, rfl, rfl⟩
theorem leftK (x k : Int) (hk : k = 13 ∨ k = 16 ∨ k = 17 ∨ k = 21 ∨ k = 32) (w : World) {K : Int → World → Prop} (h : K (rotU x k.toNat) w) : CallK Tryz.prog 66 #[.int .u64 x, .int .u64 k] w (.v (.one (.int .u64))) (fun (y : Int) w' => K y w') := by
  refine CallK.of (left_spec x k hk w) ?_
  rintro _ _ ⟨rfl, rfl⟩
  exact ⟨_, rfl, h⟩

theorem number01_spec {w : World} {v : Sl} {bs : List UInt8} (h : RdB w v bs) (hl : bs.length = 8) : Ret Tryz.prog 37 #[.slice v.1 v.2.1 v.2.2] w fun r w' => r = .int .u64 (lowL bs : Int) ∧ w = w' := by
  refine c37 v.1 v.2.1 v.2.2 w _ ?_
  unfold C37
  have hvl := h.len
  refine LoopK.of (fun s w' => ∃ i : Nat, s.2.1 = (i : Int) - 1 ∧ i ≤ 8 ∧ s.1 = (lowL (bs.drop i) : Int) ∧ w = w') (fun s _ => (s.2.1 + 1).toNat) ⟨8, rfl, by omega, by rw [List.drop_of_length_le (by omega)]; rfl, rfl⟩ ?_
  rintro _ ⟨m, i', _⟩ _ ⟨i, hi, hil, hm, rfl⟩
  dsimp only at hi hm ⊢
  subst hi hm
  refine ifB.dec (fun hge => ?_) (fun hlt => ?_)
  · refine ⟨by decide, ?_⟩
    obtain ⟨j, rfl⟩ : ∃ j, i = j + 1 := ⟨i - 1, by omega⟩
    refine RdB.at h (by omega) (by omega) ?_
    have e1 : (((j + 1 : Nat) : Int) - 1).toNat = j := by omega
    have hlow : lowL (bs.drop (j + 1)) < 72057594037927936 := by
      have h1 := low_lt (bs.drop (j + 1))
      have h2 : 256 ^ (bs.drop (j + 1)).length ≤ 256 ^ 7 := Nat.pow_le_pow_right (by decide) (by rw [List.length_drop]; omega)
      have : (256 : Nat) ^ 7 = 72057594037927936 := by decide
      omega
    rw [e1, or_byte _ _ hlow, wI (by omega) (by omega)]
    refine ⟨⟨j, by omega, by omega, ?_, rfl⟩, by omega⟩
    rw [low_drop bs j (by omega)]
  · have : i = 0 := by omega
    subst this
    exact ⟨rfl, rfl⟩

theorem round01_spec (s : SipS) (w : World) : Ret Tryz.prog 38 #[.agg (sipL s).toArray] w fun r w' => r = .agg (sipL (roundI s)).toArray ∧ Fr none1 w w' := by
  refine c38 (sipL s) w _ ?_
  unfold C38
  refine NewK.of fun b w0 hb hb0 f0 hs0 => NewK.of fun g3 w1 hg3 hb3 f1 hs1 => ?_
  have h : IsAr w1 b s := f1.keep0 hb0
  have F0 := f0.trans f1
  have hbw : w.heap.size ≤ b := by omega
  have hgw : w.heap.size ≤ g3 := by omega
  have hbg : b ≠ g3 := by omega
  have F : Fr (only b) w1 w1 := Fr.refl _ _
  obtain ⟨a0, a1, a2, a3⟩ := s
  refine h.ld (by decide) (by decide) rfl (h.ld (by decide) (by decide) rfl (h.st (s' := (addU a0 a1, a1, a2, a3)) (by decide) (by decide) rfl fun w2 h f2 => ?_))
  have F := F.trans f2
  refine DrewK.of fun w3 _ f3 => HoldK.all (IsAr.ldS (h.keep0 f3) (by decide) (by decide) rfl (IsAr.ldS (h.keep0 f3) (by decide) (by decide) rfl ?_))
  have h := h.keep0 f3
  have F := F.then0 f3
  refine leftK _ 13 (by decide) _ (KeepK.same (h.st (s' := (addU a0 a1, xorU (rotU a1 13) (addU a0 a1), a2, a3)) (by decide) (by decide) rfl fun w4 h f4 => ?_))
  have F := F.trans f4
  refine h.ld (by decide) (by decide) rfl (leftK _ 32 (by decide) _ (h.st (s' := (rotU (addU a0 a1) 32, xorU (rotU a1 13) (addU a0 a1), a2, a3)) (by decide) (by decide) rfl fun w5 h f5 => ?_))
  have F := F.trans f5
  have e : roundI (a0, a1, a2, a3) = (addU (rotU (addU a0 a1) 32) (xorU (rotU a3 16) (addU a2 a3)), xorU (rotU (xorU (rotU a1 13) (addU a0 a1)) 17) (addU (addU a2 a3) (xorU (rotU a1 13) (addU a0 a1))), rotU (addU (addU a2 a3) (xorU (rotU a1 13) (addU a0 a1))) 32, xorU (rotU (xorU (rotU a3 16) (addU a2 a3)) 21) (addU (rotU (addU a0 a1) 32) (xorU (rotU a3 16) (addU a2 a3)))) := rfl
  rw [e]
  generalize xorU (rotU a1 13) (addU a0 a1) = b1 at *
  generalize rotU (addU a0 a1) 32 = b0 at *
  refine h.ld (by decide) (by decide) rfl (h.ld (by decide) (by decide) rfl (h.st (s' := (b0, b1, addU a2 a3, a3)) (by decide) (by decide) rfl fun w7 h f7 => ?_))
  have F := F.trans f7
  refine DrewK.of fun w8 _ f8 => HoldK.all (IsAr.ldS (h.keep0 f8) (by decide) (by decide) rfl (IsAr.ldS (h.keep0 f8) (by decide) (by decide) rfl ?_))
  have h := h.keep0 f8
  have F := F.then0 f8
  refine leftK _ 16 (by decide) _ (KeepK.same (h.st (s' := (b0, b1, addU a2 a3, xorU (rotU a3 16) (addU a2 a3))) (by decide) (by decide) rfl fun w9 h f9 => ?_))
  have F := F.trans f9
  generalize xorU (rotU a3 16) (addU a2 a3) = b3 at *
  generalize addU a2 a3 = b2 at *
  refine h.ld (by decide) (by decide) rfl (h.ld (by decide) (by decide) rfl (h.st (s' := (addU b0 b3, b1, b2, b3)) (by decide) (by decide) rfl fun w11 h f11 => ?_))
  have F := F.trans f11
  refine DrewK.of fun w12 _ f12 => HoldK.all (IsAr.ldS (h.keep0 f12) (by decide) (by decide) rfl (IsAr.ldS (h.keep0 f12) (by decide) (by decide) rfl ?_))
  have h := h.keep0 f12
  have F := F.then0 f12
  refine leftK _ 21 (by decide) _ (KeepK.same (h.st (s' := (addU b0 b3, b1, b2, xorU (rotU b3 21) (addU b0 b3))) (by decide) (by decide) rfl fun w13 h f13 => ?_))
  have F := F.trans f13
  generalize xorU (rotU b3 21) (addU b0 b3) = c3 at *
  generalize addU b0 b3 = c0 at *
  refine h.ld (by decide) (by decide) rfl (h.ld (by decide) (by decide) rfl (h.st (s' := (c0, b1, addU b2 b1, c3)) (by decide) (by decide) rfl fun w15 h f15 => ?_))
  have F := F.trans f15
  refine DrewK.of fun w16 _ f16 => HoldK.all (IsAr.ldS (h.keep0 f16) (by decide) (by decide) rfl (IsAr.ldS (h.keep0 f16) (by decide) (by decide) rfl ?_))
  have h := h.keep0 f16
  have F := F.then0 f16
  refine leftK _ 17 (by decide) _ (KeepK.same (h.st (s' := (c0, xorU (rotU b1 17) (addU b2 b1), addU b2 b1, c3)) (by decide) (by decide) rfl fun w17 h f17 => ?_))
  have F := F.trans f17
  refine h.ld (by decide) (by decide) rfl (leftK _ 32 (by decide) _ (h.st (s' := (c0, xorU (rotU b1 17) (addU b2 b1), rotU (addU b2 b1) 32, c3)) (by decide) (by decide) rfl fun w18 h f18 => ?_))
  have F := F.trans f18
  generalize (c0, xorU (rotU b1 17) (addU b2 b1), rotU (addU b2 b1) 32, c3) = R at *
  refine LdaK.of h rfl ⟨rfl, ?_⟩
  refine StsK.blk (cs := [.int .u64 0, .int .u64 0, .int .u64 0, .int .u64 0]) (vs := sipL R) (F.keep1 hb3 (fun t => hbg t.symm)) rfl rfl fun w19 hb19 f19 _ => LdaK.of hb19 rfl ?_
  exact ⟨rfl, (F0.fresh F hbw).fresh f19 hgw⟩
theorem roundK (s : SipS) (w : World) {K : List Value → World → Prop} (h : ∀ w', Fr none1 w w' → K (sipL (roundI s)) w') : CallK Tryz.prog 38 #[.agg (sipL s).toArray] w (.v .arr) (fun (y : List Value) w' => K y w') := by
  refine CallK.of (round01_spec s w) ?_
  rintro _ w' ⟨rfl, f⟩
  exact ⟨_, rfl, h w' f⟩

theorem sip01_spec {w : World} {v : Sl} {kb bs : List UInt8} (hk : kb.length = 16) (h : RdB w v bs) (hl : bs.length ≤ 140737488354000) : Ret Tryz.prog 16 #[.agg (keyL kb).toArray, .slice v.1 v.2.1 v.2.2] w fun r w' => r = .int .u64 (sumI kb bs) ∧ Fr none1 w w' := by
  refine c16 (keyL kb) v.1 v.2.1 v.2.2 w _ ?_
  unfold C16
  have hvl := h.len
  refine NewK.of fun g1 w1 hg1 hb1 f1 _ => DrewK.of fun w2 _ f2 => HoldK.all ?_
  have f12 := f1.trans f2
  have hK := key_rd (f2.keep0 hb1) hk
  refine key_lo hk hK fun hA => key_hi hk hK fun hu => ?_
  refine CallK.of (number01_spec (v := (some ⟨g1, 0, none⟩, 8, 16)) hA (by rw [List.length_take]; omega)) ?_
  rintro _ _ ⟨rfl, rfl⟩
  refine ⟨_, rfl, KeepK.same ?_⟩
  refine CallK.of (number01_spec (v := (some ⟨g1, 8, none⟩, 8, 8)) hu (by rw [List.length_drop]; omega)) ?_
  rintro _ _ ⟨rfl, rfl⟩
  refine ⟨_, rfl, KeepK.same ?_⟩
  refine NewK.of fun b w3 hb hb3 f3 _ => ⟨rfl, ?_⟩
  have s2 := f12.size
  refine StsK.blk (cs := [.int .u64 0, .int .u64 0, .int .u64 0, .int .u64 0]) (vs := sipL (initI kb)) hb3 rfl rfl fun w4 hb4 f4 _ => ?_
  have S4 : IsAr w4 b (initI kb) := hb4
  have f14 : Fr none1 w w4 := (f12.trans f3).fresh f4 (by omega)
  have hblt := lt_of_blk hb4
  unfold sumI
  generalize initI kb = s0 at *
  obtain ⟨y, w5, hr5, hy, f5, yf⟩ := append_bytes (none_b w4) (h.keep0 f14) (by simp; omega)
  refine ⟨y, w5, hr5, ?_⟩
  rw [List.nil_append] at hy
  have nob : ∀ k, ¬ blkOf ((none, 0, 0) : Sl) k := fun k ⟨a, ha, _⟩ => by cases ha
  have f5' : Fr none1 w4 w5 := f5.mono fun k _ t => nob k t
  have hyf : ∀ k, blkOf y k → w4.heap.size ≤ k := fun k hk => (yf k hk).elim (fun t => (nob k t).elim) id
  have S5 := S4.keep0 f5'
  have f15 := f14.trans f5'
  have hb14 := f14.size
  refine LoopK.of (fun st w' => ∃ k : Nat, k ≤ 7 - bs.length % 8 ∧ IsB w' st.1 (padL bs k) ∧ (∀ j, blkOf st.1 j → w4.heap.size ≤ j) ∧ IsAr w' b s0 ∧ Fr none1 w w') (fun st _ => bs.length + 7 - st.1.2.1) ⟨0, by omega, by unfold padL; simpa using hy, hyf, S5, f15⟩ ?_
  rintro _ ⟨st, _⟩ w6 ⟨k, hk7, hs, hsf, S6, f6⟩
  dsimp only at hs hsf ⊢
  have hsn := hs.len
  have hpl : (padL bs k).length = bs.length + k := by unfold padL; simp
  have f6s := f6.size
  have stlt : ∀ j, blkOf st j → j < w6.heap.size := fun j hj => IsSl.lt hs hj
  have snoc : ∀ (c : UInt8), ∃ (x : Sl) (w7 : World) (z : Sl) (w8 : World), (Instr.buildSlice 22 1 #[(0, bc c)]).run Tryz.prog w6 = .ok (.slice x.1 x.2.1 x.2.2) w7 ∧
      (Builtin.append_ #[22, 22] 22 #[.slice st.1 st.2.1 st.2.2, .slice x.1 x.2.1 x.2.2]).run Tryz.prog w7 = .ok (.slice z.1 z.2.1 z.2.2) w8 ∧ IsB w8 z (padL bs k ++ [c]) ∧ (∀ j, blkOf z j → w4.heap.size ≤ j) ∧ IsAr w8 b s0 ∧ Fr none1 w w8 := fun c => by
    obtain ⟨x, w7, hr7, hx, hxl, f7, xf⟩ := lit_ok (P := Tryz.prog) (w := w6) elem_byte [bc c] (by simp [bc, Value.cells]) (by simp)
    have hx0 : IsB w7 x [c] := hx
    obtain ⟨z, w8, hr8, hz, f8, zf⟩ := append_bytes (hs.keep0 f7) hx0.rd (by simp only [List.length_singleton]; omega)
    refine ⟨x, w7, z, w8, hr7, hr8, hz, fun j hj => ?_, f8.keep (S6.keep0 f7) (fun t => by have := hsf b t; omega), (f6.trans f7).comp f8 fun j hj t => by have := hsf j t; omega⟩
    rcases zf j hj with t | t
    · exact hsf j t
    · have := f7.size
      have := f15.size
      have hw46 : w4.heap.size ≤ w6.heap.size := by
        by_cases hq : w4.heap.size ≤ w6.heap.size
        · exact hq
        · exfalso
          have := lt_of_blk S6
          omega
      omega
  refine ⟨by decide, ?_⟩
  rw [Int.tmod_eq_emod_of_nonneg (by omega)]
  refine ifB.ne (fun hne => ?_) (fun heq => ?_)
  · obtain ⟨x, w7, z, w8, hr7, hr8, hz, hzf, S8, f8⟩ := snoc 0
    refine ⟨x, w7, hr7, z, w8, hr8, ⟨k + 1, by omega, ?_, hzf, S8, f8⟩, ?_⟩
    · have : padL bs k ++ [0] = padL bs (k + 1) := by unfold padL; rw [List.append_assoc, List.replicate_succ']
      rw [← this]; exact hz
    · have := hz.len
      rw [List.length_append, List.length_singleton] at this
      omega
  · have hk : k = 7 - bs.length % 8 := by omega
    have hcv : Value.int .u8 (IntKind.u8.wrap (v.2.1 : Int)) = bc (UInt8.ofNat (bs.length % 256)) := by
      rw [hvl, wrapB]; unfold bc; rw [u8_nat (Nat.mod_lt _ (by decide))]
    rw [hcv]
    obtain ⟨x, w7, z, w8, hr7, hr8, hz, hzf, S8, f8⟩ := snoc (UInt8.ofNat (bs.length % 256))
    refine ⟨x, w7, hr7, z, w8, hr8, ?_⟩
    have hz : IsB w8 z (allL bs) := by unfold allL; rw [← hk]; exact hz
    have hzn := hz.len
    have hal := all_len bs
    have hq : bs.length / 8 ≤ 17592186044500 := by omega
    clear snoc hs hsf S6 f6 S5 hy hyf
    refine LoopK.of (fun st w' => ∃ i : Nat, st.1 = 8 * (i : Int) ∧ i ≤ bs.length / 8 + 1 ∧ IsAr w' b (blocksI (allL bs) s0 i) ∧ Fr (only b) w8 w') (fun st _ => (8 * (bs.length / 8 + 1 : Nat) - st.1).toNat) ⟨0, rfl, by omega, S8, Fr.refl _ _⟩ ?_
    rintro _ ⟨i', _⟩ w9 ⟨i, hi, hil, S9, f9⟩
    dsimp only at hi ⊢
    subst hi
    have hz9 : RdB w9 z (allL bs) := hz.rd.keep f9 fun j hj t => by have := hzf j hj; have : j = b := t; omega
    refine ifB.dec (fun hlt => ?_) (fun hge => ?_)
    · rw [wI (x := 8 * (i : Int) + 8) (by omega) (by omega)]
      refine RdB.mid hz9 (by omega) (by omega) (by omega) hz.cap fun u hu _ _ _ => ?_
      rw [show (8 * (i : Int)).toNat = 8 * i by omega, show (8 * (i : Int) + 8 - 8 * (i : Int)).toNat = 8 by omega] at hu
      refine CallK.of (number01_spec hu (by rw [List.length_take, List.length_drop]; omega)) ?_
      rintro _ _ ⟨rfl, rfl⟩
      refine ⟨_, rfl, ?_⟩
      have hB : blocksI (allL bs) s0 (i + 1) = absI (lowL ((allL bs).drop (8 * i) |>.take 8) : Int) (blocksI (allL bs) s0 i) := rfl
      generalize (lowL ((allL bs).drop (8 * i) |>.take 8) : Int) = m at *
      generalize blocksI (allL bs) s0 i = t at *
      obtain ⟨t0, t1, t2, t3⟩ := t
      unfold absI at hB
      refine S9.ld (by decide) (by decide) rfl (S9.st (s' := (t0, t1, t2, xorU t3 m)) (by decide) (by decide) rfl fun w10 S10 f10 => ?_)
      refine LdaK.of S10 rfl (roundK _ w10 fun w11 f11 => roundK _ w11 fun w12 f12' => ⟨rfl, ?_⟩)
      have f1012 := f11.trans f12'
      refine StsK.blk (cs := sipL (t0, t1, t2, xorU t3 m)) (vs := sipL (roundI (roundI (t0, t1, t2, xorU t3 m)))) (f1012.keep0 S10) rfl rfl fun w13 hb13 f13 _ => ?_
      have S13 : IsAr w13 b (roundsN 2 (t0, t1, t2, xorU t3 m)) := hb13
      dsimp only at hB
      generalize roundsN 2 (t0, t1, t2, xorU t3 m) = q at *
      obtain ⟨q0, q1, q2, q3⟩ := q
      refine S13.ld (by decide) (by decide) rfl (S13.st (s' := (xorU q0 m, q1, q2, q3)) (by decide) (by decide) rfl fun w14 S14 f14' => ?_)
      refine ⟨⟨i + 1, by omega, by omega, by rw [hB]; exact S14, (((f9.trans f10).then0 f1012).trans f13).trans f14'⟩, by omega⟩
    · obtain rfl : i = bs.length / 8 + 1 := by omega
      rw [blocks_last] at S9
      generalize absI (lastL bs : Int) (blocksI bs s0 (bs.length / 8)) = t at *
      obtain ⟨t0, t1, t2, t3⟩ := t
      unfold finI
      refine S9.ld (by decide) (by decide) rfl (S9.st (s' := (t0, t1, xorU t2 255, t3)) (by decide) (by decide) rfl fun w10 S10 f10 => ?_)
      refine LdaK.of S10 rfl (roundK _ w10 fun w11 f11 => roundK _ w11 fun w12 f12' => roundK _ w12 fun w13 f13 => roundK _ w13 fun w14 f14' => ⟨rfl, ?_⟩)
      have f1014 := ((f11.trans f12').trans f13).trans f14'
      refine StsK.blk (cs := sipL (t0, t1, xorU t2 255, t3)) (vs := sipL (roundI (roundI (roundI (roundI (t0, t1, xorU t2 255, t3)))))) (f1014.keep0 S10) rfl rfl fun w15 hb15 f15' _ => ?_
      have S15 : IsAr w15 b (roundsN 4 (t0, t1, xorU t2 255, t3)) := hb15
      dsimp only
      generalize roundsN 4 (t0, t1, xorU t2 255, t3) = q at *
      obtain ⟨q0, q1, q2, q3⟩ := q
      refine S15.ld (by decide) (by decide) rfl (S15.ld (by decide) (by decide) rfl (S15.ld (by decide) (by decide) rfl (S15.ld (by decide) (by decide) rfl ?_)))
      have fb : Fr (only b) w8 w15 := ((f9.trans f10).then0 f1014).trans f15'
      exact ⟨rfl, f8.fresh fb (by omega)⟩

theorem bytes01_spec (n : Int) (h0 : 0 ≤ n) (h1 : n < 18446744073709551616) (w : World) : Ret Tryz.prog 15 #[.int .u64 n] w fun r w' => ∃ v : Sl, r = .slice v.1 v.2.1 v.2.2 ∧ IsB w' v (hedL n) ∧ Fr none1 w w' ∧ ∀ k, blkOf v k → w.heap.size ≤ k := by
  refine c15 n w _ ?_
  unfold C15
  obtain ⟨M, rfl⟩ : ∃ M : Nat, n = M := ⟨n.toNat, by omega⟩
  have hh : hedL (M : Int) = lsb 8 M := by unfold hedL; rw [show ((M : Int) % 18446744073709551616).toNat = M by omega]
  refine LoopK.of (fun st w' => ∃ i : Nat, st.2.1 = i ∧ i ≤ 8 ∧ IsB w' st.1 ((lsb 8 M).take i) ∧ (∀ k, blkOf st.1 k → w.heap.size ≤ k) ∧ Fr none1 w w') (fun st _ => (8 - st.2.1).toNat) ⟨0, rfl, by omega, none_b w, (fun k ⟨a, ha, _⟩ => by cases ha), Fr.refl _ _⟩ ?_
  rintro _ ⟨st, i', _⟩ w1 ⟨i, hi, hil, hs, hsf, f1⟩
  dsimp only at hi hs hsf ⊢
  subst hi
  refine ifB.dec (fun hlt => ?_) (fun hge => ?_)
  · have hi8 : i < 8 := by omega
    rw [wI (x := 8 * (i : Int)) (by omega) (by omega), wU (x := 8 * (i : Int)) (by omega) (by omega), wI (x := (i : Int) + 1) (by omega) (by omega), show Int.toNat (8 * (i : Int)) = 8 * i by omega]
    refine ⟨by omega, ?_⟩
    have hv : Value.int .u8 (IntKind.u8.wrap (Int.fdiv (M : Int) (2 ^ (min (8 * i) 64)))) = bc (UInt8.ofNat (M / 256 ^ i % 256)) := by
      rw [fdiv_nat M (8 * i) (by omega), wrapB]
      unfold bc
      rw [u8_nat (Nat.mod_lt _ (by decide)), show (256 : Nat) ^ i = 2 ^ (8 * i) by rw [show (256 : Nat) = 2 ^ 8 by decide, ← Nat.pow_mul]]
    rw [hv]
    obtain ⟨x, w2, hr2, hx, hxl, f2, xf⟩ := lit_ok (P := Tryz.prog) (w := w1) elem_byte [bc (UInt8.ofNat (M / 256 ^ i % 256))] (by simp [bc, Value.cells]) (by simp)
    have hx0 : IsB w2 x [UInt8.ofNat (M / 256 ^ i % 256)] := hx
    refine ⟨x, w2, hr2, ?_⟩
    obtain ⟨z, w3, hr3, hz, f3, zf⟩ := append_bytes (hs.keep0 f2) hx0.rd (by rw [List.length_take, List.length_singleton]; omega)
    have s1 := f1.size; have s2 := f2.size
    refine ⟨z, w3, hr3, ⟨i + 1, by omega, by omega, ?_, fun k hk => ?_, (f1.trans f2).comp f3 fun k hk t => by have := hsf k t; omega⟩, by omega⟩
    · rw [List.take_add_one, lsb_at 8 M i hi8]; exact hz
    · rcases zf k hk with t | t
      · exact hsf k t
      · omega
  · have hi8 : i = 8 := by omega
    subst hi8
    rw [List.take_of_length_le (by rw [lsb_len]; decide)] at hs
    exact ⟨st, rfl, by rw [hh]; exact hs, f1, hsf⟩

end Go.Proofs.YtdphmcanlhcokaaGreatDoor

/-! ### RefFr2 -/
set_option linter.unusedVariables false
set_option maxRecDepth 100000
namespace Go.Proofs.YtdphmcanlhcokaaGreatDoor
open Vc

theorem nil_tr (t : Tm) {w : World} {S : Nat → Prop} {v : TV} (h : IsTr w S (trT t) v) : (v.1 != 0 || false) = !(nilT t.v) := by
  rw [Bool.or_false]
  cases t <;> (have h1 := h; unfold trT at h1; unfold IsTr at h1; obtain ⟨e, _⟩ := h1; rw [e]; rfl)

theorem check17_spec (m : FrM) (hz : smallE m.m.e) (hn : nodesT m.m.t ≤ 30000) (hsh : shortT m.m.t) {w : World} {S : Nat → Prop} {v : TV} (h : IsTr w S (trT m.m.t) v) (hS : ∀ k, S k → k < w.heap.size) :
    Ret Tryz.prog 7 #[frRA (frR m.f v), .bool false] w fun r w' => r = .int .i64 (checkFr m.f (writeT m.m.t).2) ∧ Fr none1 w w' :=
  check17_gen m.f v false (writeT m.m.t).2 w (fun w1 f => check11_spec m.m.e m.m.t rfl hz hn hsh (h.keep0 f) fun k hk => Nat.lt_of_lt_of_le (hS k hk) f.size) (nil_tr m.m.t h)

/-- What there is while the document seals: the key's block, the frame's; w2 is the world when both were there. -/
structure Wk (w w2 wa : World) (g1 g3 : Nat) (kb : List UInt8) (X : FRT) : Prop where
  b1 : wa.heap[g1]? = some (.cells (keyL kb).toArray 32 (0, 0))
  b3 : wa.heap[g3]? = some (.cells (frRL X).toArray 45 (0, 0))
  fr : Fr none1 w wa
  sz : w2.heap.size ≤ wa.heap.size
  lo : w.heap.size ≤ w2.heap.size ∧ g1 < w2.heap.size ∧ g3 < w2.heap.size
theorem Wk.keep0 {w w2 wa wb : World} {g1 g3 : Nat} {kb : List UInt8} {X : FRT} (h : Wk w w2 wa g1 g3 kb X) (q : Fr none1 wa wb) : Wk w w2 wb g1 g3 kb X := ⟨q.keep0 h.b1, q.keep0 h.b3, h.fr.trans q, Nat.le_trans h.sz q.size, h.lo⟩
theorem Own.no {B wc : World} {x : Sl} {xs : List UInt8} (h : Own B wc x xs) {g : Nat} (hg : g < B.heap.size) : ¬ blkOf x g := fun t => by have := h.lo g t; omega
theorem Wk.add {w w2 wa : World} {g1 g3 : Nat} {kb : List UInt8} {X : FRT} (h : Wk w w2 wa g1 g3 kb X) {x : Sl} {xs : List UInt8} (hx : Own w2 wa x xs) {y : Sl} {ys : List UInt8} (hy : RdB wa y ys) (hl : xs.length + ys.length ≤ 140737488355000) {K : (Option Addr × Nat × Nat) → World → Prop}
    (k : ∀ (u : Sl) wb, Own w2 wb u (xs ++ ys) → Wk w w2 wb g1 g3 kb X → Fr (blkOf x) wa wb → K u wb) :
    RunK Tryz.prog (Builtin.append_ #[22, 22] 22 #[.slice x.1 x.2.1 x.2.2, .slice y.1 y.2.1 y.2.2]) wa (.v (.one .slc)) (fun (u : Option Addr × Nat × Nat) w' => K u w') := by
  obtain ⟨l1, l2, l3⟩ := h.lo
  refine hx.app h.sz hy hl fun u wb hu f => k u wb hu ⟨f.keep h.b1 (hx.no l2), f.keep h.b3 (hx.no l3), h.fr.comp f fun j hj t => by have := hx.lo j t; omega, Nat.le_trans h.sz f.size, h.lo⟩ f
theorem b01K (n : Int) (h0 : 0 ≤ n) (h1 : n < 18446744073709551616) (w : World) {K : (Option Addr × Nat × Nat) → World → Prop} (k : ∀ u w', IsB w' u (hedL n) → Fr none1 w w' → K u w') : CallK Tryz.prog 15 #[.int .u64 n] w (.v (.one .slc)) (fun (x : Option Addr × Nat × Nat) w' => K x w') := by
  refine CallK.of (bytes01_spec n h0 h1 w) ?_
  rintro _ w1 ⟨u, rfl, hu, f1, uf⟩
  exact ⟨u, rfl, k u w1 hu f1⟩
theorem s01K {w : World} {v : Sl} {kb bs : List UInt8} (hk : kb.length = 16) (h : RdB w v bs) (hl : bs.length ≤ 140737488354000) {K : Int → World → Prop} (k : ∀ w', Fr none1 w w' → K (sumI kb bs) w') : CallK Tryz.prog 16 #[.agg (keyL kb).toArray, .slice v.1 v.2.1 v.2.2] w (.v (.one (.int .u64))) (fun (x : Int) w' => K x w') := by
  refine CallK.of (sip01_spec hk h hl) ?_
  rintro _ w' ⟨rfl, f⟩
  exact ⟨_, rfl, k w' f⟩

set_option maxHeartbeats 4000000 in
theorem seal17_spec (kb : List UInt8) (hk : kb.length = 16) (m : FrM) (hz : smallE m.m.e) (hn : nodesT m.m.t ≤ 30000) (hsh : shortT m.m.t) (hh : 0 ≤ m.2.2.2.2.2.1 ∧ m.2.2.2.2.2.1 < 18446744073709551616) {w : World} {S : Nat → Prop} {v : TV} (h : IsTr w S (trT m.m.t) v) (hS : ∀ k, S k → k < w.heap.size) :
    Ret Tryz.prog 11 #[.agg (keyL kb).toArray, frRA (frR m.f v)] w fun r w' => ∃ u : Sl, r = .tuple #[.slice u.1 u.2.1 u.2.2, .int .i64 (sealM kb m).2] ∧ Own w w' u (sealM kb m).1 ∧ Fr none1 w w' := by
  refine c11 (keyL kb) (frR m.f v) w _ ?_
  unfold C11
  refine NewK.of fun g1 w1 hg1 hb1 f1 hs1 => NewK.of fun g3 w2 hg3 hb3 f2 hs2 => ?_
  have hb3 : w2.heap[g3]? = some (.cells (frRL (frR m.f v)).toArray 45 (0, 0)) := hb3
  have W2 : Wk w w2 w2 g1 g3 kb (frR m.f v) := ⟨f2.keep0 hb1, hb3, f1.trans f2, Nat.le_refl _, by have := f1.size; have := f2.size; omega⟩
  have tr : ∀ {wa : World}, Wk w w2 wa g1 g3 kb (frR m.f v) → IsTr wa S (trT m.m.t) v ∧ (∀ k, S k → k < wa.heap.size) := fun W => ⟨h.keep0 W.fr, fun k hk => Nat.lt_of_lt_of_le (hS k hk) W.fr.size⟩
  refine LdsK.blk (cks := FRK) (x := frR m.f v) hb3 ?_
  refine CallK.of (check17_spec m hz hn hsh (tr W2).1 (tr W2).2) ?_
  rintro _ w3 ⟨rfl, f3⟩
  refine ⟨_, rfl, ?_⟩
  have W3 := W2.keep0 f3
  refine ifB.ne (fun hne => ?_) (fun he => ?_)
  · have hs : sealM kb m = ([], checkFr m.f (writeT m.m.t).2) := by
      unfold sealM sealF bytesFr; rw [if_pos hne, if_pos hne]
    rw [hs]
    exact ⟨(none, 0, 0), rfl, ⟨none_b w3, fun k ⟨a, ha, _⟩ => by cases ha⟩, W3.fr⟩
  have l3 := W2.lo.2.2
  have hl0 := W2.lo.1
  have own : ∀ {wa : World} {x : Sl} {xs : List UInt8}, Own w2 wa x xs → ∀ k, k = g3 → ¬ blkOf x k := fun h k e t => h.no l3 (e ▸ t)
  have ofb : ∀ {wa : World} {x : Sl} {xs : List UInt8}, IsB wa x xs → w2.heap.size ≤ wa.heap.size → ∀ {wb : World}, (∀ k, blkOf x k → wb.heap.size ≤ k) → w2.heap.size ≤ wb.heap.size → Own w2 wa x xs := fun h _ _ q s => ⟨h, fun k hk => Nat.le_trans s (q k hk)⟩
  refine JoinK.of (fun st w' => Own w2 w' st.1 ([UInt8.ofNat (m.1 % 256).toNat] ++ numL m.2.1 ++ numL m.2.2.1) ∧ Wk w w2 w' g1 g3 kb (frR m.f v)) ?_ ?_
  · refine DrewK.of fun w4 _ f4 => HoldK.of (fun k => k = g3) ?_
    have W4 := W3.keep0 f4
    refine inG rfl (LdK.fld W4.b3 (x := m.1) rfl (inG rfl (LdK.fld W4.b3 (x := m.2.1) rfl (inG rfl (LdK.fld W4.b3 (x := m.2.2.1) rfl ?_)))))
    rw [byteK]
    refine ⟨?_, ?_⟩
    · refine lit1 _ fun x w5 hx f5 xf => KeepK.of f5 ?_
      have W5 := W4.keep0 f5
      have hx := ofb hx W5.sz xf W4.sz
      refine numK11 _ w5 fun n w6 hn f6 _ => KeepK.of f6 ?_
      refine (W5.keep0 f6).add (hx.keep0 f6) hn.rd (by simp only [numL_len, List.length_singleton]; omega) fun y w7 hy W7 f7 => KeepK.on f7 (own (hx.keep0 f6)) ?_
      refine numK11 _ w7 fun n w8 hn f8 _ => ?_
      refine (W7.keep0 f8).add (hy.keep0 f8) hn.rd (by simp only [List.length_append, numL_len, List.length_singleton]; omega) fun z w9 hz W9 f9 => ⟨hz, W9⟩
    · refine numK11 _ w4 fun n w5 hn f5 nf => KeepK.of f5 ?_
      have W5 := W4.keep0 f5
      refine lit1 _ fun x w6 hx f6 xf => KeepK.of f6 ?_
      have W6 := W5.keep0 f6
      have hx := ofb hx W6.sz xf W5.sz
      refine W6.add hx (hn.keep0 f6).rd (by simp only [numL_len, List.length_singleton]; omega) fun y w7 hy W7 f7 => KeepK.on f7 (own hx) ?_
      refine numK11 _ w7 fun n w8 hn f8 _ => ?_
      refine (W7.keep0 f8).add (hy.keep0 f8) hn.rd (by simp only [List.length_append, numL_len, List.length_singleton]; omega) fun z w9 hz W9 f9 => ⟨hz, W9⟩
  rintro _ ⟨st, _⟩ w10 ⟨hst, W10⟩
  dsimp only at hst ⊢
  have htl := top_len m.f
  have fin : ∀ {wa : World} {o : Sl} {bs : List UInt8}, Wk w w2 wa g1 g3 kb (frR m.f v) → Own w2 wa o bs → bs.length ≤ 140737488350000 → bytesM m = (bs, 0) →
      LdaK 16 ⟨g1, 0, none⟩ wa (fun x => CallK Tryz.prog 16 #[.agg x.toArray, .slice o.1 o.2.1 o.2.2] wa (.v (.one (.int .u64))) (fun (n : Int) wb => CallK Tryz.prog 15 #[.int .u64 n] wb (.v (.one .slc)) (fun (u : Option Addr × Nat × Nat) wc => RunK Tryz.prog (Builtin.append_ #[22, 22] 22 #[.slice o.1 o.2.1 o.2.2, .slice u.1 u.2.1 u.2.2]) wc (.v (.one .slc)) (fun (y : Option Addr × Nat × Nat) wd =>
        ∃ z : Sl, Value.tuple #[.slice y.1 y.2.1 y.2.2, .int .i64 0] = .tuple #[.slice z.1 z.2.1 z.2.2, .int .i64 (sealM kb m).2] ∧ Own w wd z (sealM kb m).1 ∧ Fr none1 w wd)))) := fun {wa o bs} W ho hl hb => by
    have hs : sealM kb m = (bs ++ hedL (sumI kb bs), 0) := by
      unfold sealM sealF
      rw [show bytesFr m.f (writeT m.m.t).1 (writeT m.m.t).2 = (bs, 0) from hb]
      exact if_neg fun t => t rfl
    rw [hs]
    refine LdaK.of W.b1 (by simp [keyL, hk]) (s01K hk ho.is.rd (by omega) fun wb fb => ?_)
    have hr := sum_rng kb bs
    refine b01K _ hr.1 hr.2 wb fun u wc hu fc => ?_
    have fbc := fb.trans fc
    refine (W.keep0 fbc).add (ho.keep0 fbc) hu.rd (by rw [hed_len]; omega) fun y wd hy Wd fd => ⟨y, rfl, ⟨hy.is, fun k hk => Nat.le_trans hl0 (hy.lo k hk)⟩, Wd.fr⟩
  refine DrewK.of fun w11 _ f11 => HoldK.of (fun k => k = g3) ?_
  have W11 := W10.keep0 f11
  have hst := hst.keep0 f11
  refine inG rfl (LdK.fld W11.b3 (x := m.2.2.2.1) rfl (inG rfl (LdK.fld W11.b3 (x := m.2.2.2.2.1) rfl (inG rfl (LdK.fld W11.b3 (x := m.2.2.2.2.2.1) rfl ?_)))))
  rw [byteK]
  refine lit1 _ fun x w12 hx f12 xf => KeepK.of f12 ?_
  have hst := hst.keep0 f12
  refine (W11.keep0 f12).add hst hx.rd (by simp only [List.length_append, numL_len, List.length_singleton]; omega) fun y w13 hy W13 f13 => KeepK.on f13 (own hst) ?_
  refine numK11 _ w13 fun n w14 hn14 f14 _ => KeepK.of f14 ?_
  have hy := hy.keep0 f14
  refine (W13.keep0 f14).add hy hn14.rd (by simp only [List.length_append, numL_len, List.length_singleton]; omega) fun z w15 hz15 W15 f15 => KeepK.on f15 (own hy) ?_
  refine b01K _ hh.1 hh.2 w15 fun b w16 hb16 f16 => ?_
  have hz15 := hz15.keep0 f16
  refine (W15.keep0 f16).add hz15 hb16.rd (by simp only [List.length_append, numL_len, hed_len, List.length_singleton]; omega) fun p w17 hp W17 f17 => ?_
  have htop : ∀ c : UInt8, c = (if m.2.2.2.2.2.2.1 = true then 1 else 0) → [UInt8.ofNat (m.1 % 256).toNat] ++ numL m.2.1 ++ numL m.2.2.1 ++ [UInt8.ofNat (m.2.2.2.1 % 256).toNat] ++ numL m.2.2.2.2.1 ++ hedL m.2.2.2.2.2.1 ++ [c] = topB m.f := fun c e => by
    rw [e]; unfold topB FrM.f; simp only [List.append_assoc, List.cons_append, List.nil_append]
  refine LdK.fld W17.b3 (x := m.2.2.2.2.2.2.1) rfl (ifB.by (fun q => lit1 1 fun x w18 hx f18 xf => ?_) (fun q => lit1 0 fun x w18 hx f18 xf => ?_))
  all_goals
    have hp := hp.keep0 f18
    refine (W17.keep0 f18).add hp hx.rd (by simp only [List.length_append, numL_len, hed_len, List.length_singleton]; omega) fun o w19 ho W19 f19 => ?_
    rw [htop _ (by rw [q]; rfl)] at ho
    refine LdK.fld W19.b3 (x := m.2.2.2.1) rfl (ifB.eq (fun k1 => frr_ev W19.b3 ?_) (fun k1 => ?_))
    · refine CallK.of (pack11_spec m.m.e m.m.t rfl hz hn hsh (by have := write_short m.m.t; omega) (tr W19).1 (tr W19).2) ?_
      rintro _ w20 ⟨u, rfl, hu, f20, uf⟩
      have hev : (packF m.m.e (writeT m.m.t).1 (writeT m.m.t).2).2 = 0 := by
        unfold checkFr at he
        split at he
        · cases he
        split at he
        · cases he
        rw [if_pos (show m.f.2.2.2.1 = 1 from k1)] at he
        unfold packF; rw [if_neg (fun t => t he)]
      refine ⟨(u, (packF m.m.e (writeT m.m.t).1 (writeT m.m.t).2).2, ()), rfl, ifB.f (by rw [hev]; rfl) ?_⟩
      have hpl := packF_len m.m.e hz (writeT m.m.t).1 (by have := write_short m.m.t; omega) (writeT m.m.t).2
      refine (W19.keep0 f20).add (ho.keep0 f20) hu.rd (by omega) fun r w21 hr W21 f21 => ?_
      refine fin W21 hr (by rw [List.length_append]; omega) ?_
      unfold bytesM bytesFr
      rw [if_neg (fun t => t he), if_neg (fun t => t k1)]
      rfl
    · refine fin W19 ho (by omega) ?_
      unfold bytesM bytesFr
      rw [if_neg (fun t => t he), if_pos (show m.f.2.2.2.1 ≠ 1 from k1)]

end Go.Proofs.YtdphmcanlhcokaaGreatDoor
