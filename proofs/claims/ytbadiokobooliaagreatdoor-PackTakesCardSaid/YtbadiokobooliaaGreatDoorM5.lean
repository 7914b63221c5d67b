/-
  Texts of this claim, put together: RefReadSpec2, RefReadSpec3, CRef11T, TakeSpec2, TakeSpec3, TakeSpec4, SomeSpec2, PTake0, NilNe, CPTakeL, PTake.
  Conditions: those of each theorem.
-/
import Derived.Test.YtbadiokobooliaaGreatDoorM0
import Derived.Test.YtbadiokobooliaaGreatDoorM1
import Derived.Test.YtbadiokobooliaaGreatDoorM2
import Derived.Test.YtbadiokobooliaaGreatDoorM4
import Derived.KernelRfl
import Derived.Test.YtbadiokobooliaaGreatDoorProg
/-! ### RefReadSpec2 -/
set_option linter.unusedVariables false
set_option maxRecDepth 100000
namespace Go.Proofs.YtbadiokobooliaaGreatDoor
open Vc

/-! ### How many parts a kind has -/
theorem upd_ok {w : World} {g : Nat} {M : Int → Option Value} (hm : IsMap w g M) (n : Int) (v : Value) {K : World → Prop} (h : ∀ w', IsMap w' g (fun m => if m = n then some v else M m) → Fr (only g) w w' → K w') :
    RunU Tryz.prog (Instr.mapUpdate 249 (.map (some g)) (.int .i64 n) v) w K := by
  obtain ⟨w', hr, f, _, hm'⟩ := update_ok hm n v Tryz.underlying249 Tryz.underlying3
  exact ⟨w', hr, h w' hm' f⟩
theorem parts_tab (k : Int) : ((if k = 16 then some (Value.int .i64 2) else if k = 15 then some (.int .i64 2) else if k = 14 then some (.int .i64 1) else if k = 13 then some (.int .i64 2) else if k = 8 then some (.int .i64 3) else if k = 7 then some (.int .i64 1)
    else if k = 6 then some (.int .i64 2) else if k = 5 then some (.int .i64 2) else if k = 4 then some (.int .i64 2) else if k = 3 then some (.int .i64 1) else none).getD (.int .i64 0)) = .int .i64 (partsN k) := by
  by_cases h1 : k = 16; · subst h1; rfl
  by_cases h2 : k = 15; · subst h2; rfl
  by_cases h3 : k = 14; · subst h3; rfl
  by_cases h4 : k = 13; · subst h4; rfl
  by_cases h5 : k = 8; · subst h5; rfl
  by_cases h6 : k = 7; · subst h6; rfl
  by_cases h7 : k = 6; · subst h7; rfl
  by_cases h8 : k = 5; · subst h8; rfl
  by_cases h9 : k = 4; · subst h9; rfl
  by_cases h10 : k = 3; · subst h10; rfl
  simp [partsN, h1, h2, h3, h4, h5, h6, h7, h8, h9, h10]
theorem parts_map (k : Int) {w : World} {K : Int → World → Prop} (hK : ∀ w', Fr none1 w w' → K (partsN k) w') :
    NewK (.map #[] 0) w (fun g33 w34 => RunU Tryz.prog (Instr.mapUpdate 249 (.map (some g33)) (.int .i64 3) (.int .i64 1)) w34 (fun w35 => RunU Tryz.prog (Instr.mapUpdate 249 (.map (some g33)) (.int .i64 4) (.int .i64 2)) w35 (fun w36 => RunU Tryz.prog (Instr.mapUpdate 249 (.map (some g33)) (.int .i64 5) (.int .i64 2)) w36 (fun w37 => RunU Tryz.prog (Instr.mapUpdate 249 (.map (some g33)) (.int .i64 6) (.int .i64 2)) w37 (fun w38 => RunU Tryz.prog (Instr.mapUpdate 249 (.map (some g33)) (.int .i64 7) (.int .i64 1)) w38 (fun w39 => RunU Tryz.prog (Instr.mapUpdate 249 (.map (some g33)) (.int .i64 8) (.int .i64 3)) w39 (fun w40 => RunU Tryz.prog (Instr.mapUpdate 249 (.map (some g33)) (.int .i64 13) (.int .i64 2)) w40 (fun w41 => RunU Tryz.prog (Instr.mapUpdate 249 (.map (some g33)) (.int .i64 14) (.int .i64 1)) w41 (fun w42 => RunU Tryz.prog (Instr.mapUpdate 249 (.map (some g33)) (.int .i64 15) (.int .i64 2)) w42 (fun w43 => RunU Tryz.prog (Instr.mapUpdate 249 (.map (some g33)) (.int .i64 16) (.int .i64 2)) w43 (fun w44 => RunK Tryz.prog (Instr.lookup 249 (.map (some g33)) (.int .i64 k) false) w44 (.v (.one (.int .i64))) (fun (x45 : Int) w46 => K x45 w46)))))))))))) := by
  refine NewK.of fun g w1 hg hb f1 _ => ?_
  have m1 := IsMap.new hb
  refine upd_ok m1 3 _ fun w2 m2 f2 => upd_ok m2 4 _ fun w3 m3 f3 => upd_ok m3 5 _ fun w4 m4 f4 => upd_ok m4 6 _ fun w5 m5 f5 => upd_ok m5 7 _ fun w6 m6 f6 => upd_ok m6 8 _ fun w7 m7 f7 => upd_ok m7 13 _ fun w8 m8 f8 => upd_ok m8 14 _ fun w9 m9 f9 => upd_ok m9 15 _ fun w10 m10 f10 => upd_ok m10 16 _ fun w11 m11 f11 => ?_
  have f : Fr none1 w w11 := ((((((((((f1.fresh f2 (by omega)).fresh f3 (by omega)).fresh f4 (by omega)).fresh f5 (by omega)).fresh f6 (by omega)).fresh f7 (by omega)).fresh f8 (by omega)).fresh f9 (by omega)).fresh f10 (by omega)).fresh f11 (by omega))
  refine ⟨((partsN k : Nat) : Int), w11, ?_, hK w11 f⟩
  rw [lookup_ok (.int .i64 0) m11 k false Tryz.underlying249 Tryz.underlying3 (by kernel_rfl)]
  rw [if_neg (by decide)]
  exact congrArg (fun v => Result.ok v w11) (parts_tab k)

/-! ### Trees -/
theorem rr_code {w : World} {m b N : Nat} {fin : Int} {s : RS} (h : IsRr w m b N fin s) {K : Int → Prop} (k : K s.e) : LdK (.int .i64) ((⟨b, 0, none⟩ : Addr).add 4) w K := by
  obtain ⟨⟨sl, L, n, hb, _⟩, hlt, hle⟩ := h
  exact LdK.fld hb (x := s.e) rfl k
theorem rr_tell {w wB wc : World} {m b g N : Nat} {fin : Int} {s : RS} {v0 v : TV} {t : Tr} (h : IsRr wc m b N fin s) (f : Fr (only b) w wc) (hm : m ≤ w.heap.size) (hg : w.heap.size ≤ g) (hgB : g < wB.heap.size) (hB : w.heap.size ≤ wB.heap.size) (tb : TB wc g v0) (hmd : Made wB wc t v) {K : TV → World → Prop}
    (k : ∀ w2, IsRr w2 m b N fin s → Fr (only b) w w2 → Made w w2 t v → K v w2) : StsK ⟨g, 0, none⟩ (tvL v) wc fun w2 => LdsK TVK ⟨g, 0, none⟩ w2 fun x => K x w2 :=
  StsK.blk (cs := tvL v0) (vs := tvL v) tb rfl rfl fun w2 hb2 f2 _ => LdsK.blk (cks := TVK) (x := v) hb2 (k w2 (h.keep f2 fun k hk t => by have : k = g := t; omega) (f.comp f2 fun k hk t => by have : k = g := t; omega) ((hmd.keep f2 fun k hk _ t => by have : k = g := t; omega).older hB))
theorem IsTrs.snoc {w : World} {S : Nat → Prop} : ∀ {ts : List Tr} {vs : List TV} {t : Tr} {v : TV}, IsTrs w S ts vs → IsTr w S t v → IsTrs w S (ts ++ [t]) (vs ++ [v])
  | [], vs, t, v, h, h2 => by unfold IsTrs at h; subst h; unfold IsTrs; exact ⟨v, [], rfl, h2, by unfold IsTrs; rfl⟩
  | t' :: ts, vs, t, v, h, h2 => by
    unfold IsTrs at h
    obtain ⟨v', vs', rfl, h1, h3⟩ := h
    show IsTrs w S (t' :: (ts ++ [t])) _
    unfold IsTrs
    exact ⟨v', vs' ++ [v], rfl, h1, h3.snoc h2⟩

/-- The depth's own error. -/
def deepF (fin : Int) (n : Nat) (s : RS) : RS := if n = 0 then failF fin 5 s else s
theorem treeF_zero {fin : Int} {n : Nat} {num : Bool} {s : RS} (h : kindR (nextF (deepF fin n s)) num = 0) : treeF fin n num s = if num = true then (.mk 11 [] (numF (takeF fin (numOk false) (deepF fin n s)).1).1 [], (takeF fin (numOk false) (deepF fin n s)).2) else (.mk 0 [] 0 [], failF fin 2 (deepF fin n s)) := by
  cases n with
  | zero =>
    have he : (failF fin 5 s).e ≠ 0 := fail_not (by decide)
    unfold treeF deepF
    rw [if_pos rfl, takeF_err he, failF_err he]
    cases num
    · rfl
    · show (Tr.mk 11 [] 0 [], failF fin 5 s) = (Tr.mk 11 [] (numF []).1 [], failF fin 5 s)
      rw [numF_nil]
  | succ n =>
    have hd : deepF fin (n + 1) s = s := if_neg (by omega)
    rw [hd] at h ⊢
    unfold treeF
    rw [if_pos h]

/-- While parts are read. -/
structure Kids (w wB wc : World) (m b g1 g2 N : Nat) (fin : Int) (s : RS) (k : Int) (nm : List UInt8) (nn : Int) (ts : List Tr) (u : Sl) (vs : List TV) (S : Nat → Prop) : Prop where
  rd : IsRr wc m b N fin s
  fr : Fr (only b) w wc
  B : wB.heap.size ≤ wc.heap.size
  t1 : TB wc g1 (0, str [], 0, (none, 0, 0), ())
  t2 : TB wc g2 (k, str nm, nn, u, ())
  sl : IsSl wc 33 4 u (vs.map tvL).flatten
  len : u.2.1 = vs.length
  kids : IsTrs wc S ts vs
  low : ∀ k, blkOf u k → wB.heap.size ≤ k
  off : ∀ k, S k → wB.heap.size ≤ k ∧ k < wc.heap.size ∧ ¬ blkOf u k
structure Spot (w wB : World) (m b g1 g2 : Nat) : Prop where
  bm : b < m
  mw : m ≤ w.heap.size
  wg : w.heap.size ≤ g1
  gg : g1 < g2
  gB : g2 < wB.heap.size
theorem Kids.keep {w wB wc wd : World} {m b g1 g2 N : Nat} {fin : Int} {s s' : RS} {k : Int} {nm : List UInt8} {nn : Int} {ts : List Tr} {u : Sl} {vs : List TV} {S : Nat → Prop} (h : Kids w wB wc m b g1 g2 N fin s k nm nn ts u vs S) (p : Spot w wB m b g1 g2) (f : Fr (only b) wc wd) (hr : IsRr wd m b N fin s') : Kids w wB wd m b g1 g2 N fin s' k nm nn ts u vs S := by
  obtain ⟨p1, p2, p3, p4, p5⟩ := p
  exact ⟨hr, h.fr.trans f, Nat.le_trans h.B f.size, h.t1.keep f (fun t => by have : g1 = b := t; omega), h.t2.keep f (fun t => by have : g2 = b := t; omega), h.sl.keep f (fun k hk t => by have : k = b := t; have := h.low k hk; omega), h.len,
    IsTrs.keep f (fun k hk t => by have : k = b := t; have := (h.off k hk).1; omega) _ _ h.kids, h.low, fun k hk => ⟨(h.off k hk).1, Nat.lt_of_lt_of_le (h.off k hk).2.1 f.size, (h.off k hk).2.2⟩⟩
theorem Kids.keep0 {w wB wc wd : World} {m b g1 g2 N : Nat} {fin : Int} {s : RS} {k : Int} {nm : List UInt8} {nn : Int} {ts : List Tr} {u : Sl} {vs : List TV} {S : Nat → Prop} (h : Kids w wB wc m b g1 g2 N fin s k nm nn ts u vs S) (p : Spot w wB m b g1 g2) (f : Fr none1 wc wd) : Kids w wB wd m b g1 g2 N fin s k nm nn ts u vs S :=
  h.keep p (f.mono fun _ _ t => t.elim) (h.rd.keep0 f)

/-- The tree is told. -/
theorem Kids.tell {w wB wc : World} {m b g1 g2 N : Nat} {fin : Int} {s : RS} {k : Int} {nm : List UInt8} {nn : Int} {ts : List Tr} {u : Sl} {vs : List TV} {S : Nat → Prop} (h : Kids w wB wc m b g1 g2 N fin s k nm nn ts u vs S) (p : Spot w wB m b g1 g2) :
    CallK Tryz.prog 138 #[.pointer (some ⟨b, 0, none⟩), .string (⟨#[41]⟩ : ByteArray)] wc (.tup []) (fun (x130 : Unit) w131 => LdsK TVK ⟨g2, 0, none⟩ w131 (fun (x132 : TV) => StsK ⟨g1, 0, none⟩ (tvL x132) w131 (fun w133 => LdsK TVK ⟨g1, 0, none⟩ w133 (fun (x134 : TV) =>
      ∃ v : TV, tvA x134 = tvA v ∧ Made w w133 (.mk k nm nn ts) v ∧ IsRr w133 m b N fin (mustF fin [41] s) ∧ Fr (only b) w w133)))) := by
  refine CallK.of (rr_sign h.rd [41] (by decide)) ?_
  rintro _ w1 ⟨rfl, h1, f1⟩
  have h1 := h.keep p f1 h1
  refine ⟨(), rfl, h1.t2.ld ?_⟩
  have hm : Made wB w1 (.mk k nm nn ts) (k, str nm, nn, u, ()) := node_made k nm nn h1.sl h1.len h1.low (IsTrs.mono (fun k hk => ⟨(h1.off k hk).1, (h1.off k hk).2.1⟩) _ _ h1.kids)
  have := h1.fr.size
  have p2 := p.wg; have p3 := p.gg; have p4 := p.gB
  exact rr_tell h1.rd h1.fr p.mw p.wg (by omega) (by omega) h1.t1 hm fun w2 r2 f2 m2 => ⟨_, rfl, m2, r2, f2⟩

/-- One part more. -/
theorem Kids.more {w wB wc wd : World} {m b g1 g2 N : Nat} {fin : Int} {s s' : RS} {k : Int} {nm : List UInt8} {nn : Int} {ts : List Tr} {u : Sl} {vs : List TV} {S : Nat → Prop} (h : Kids w wB wc m b g1 g2 N fin s k nm nn ts u vs S) (p : Spot w wB m b g1 g2) (hl : vs.length ≤ 10)
    (hr : IsRr wd m b N fin s') (f : Fr (only b) wc wd) {t : Tr} {v : TV} (hm : Made wc wd t v) {K : World → Prop} (hK : ∀ we u' S', Kids w wB we m b g1 g2 N fin s' k nm nn (ts ++ [t]) u' (vs ++ [v]) S' → K we) :
    KeepK (fun k => k ≠ b) wc wd (RunK Tryz.prog (Instr.buildSlice 31 1 #[(0, tvA v)]) wd (.v (.one .slc)) (fun (x73 : Option Addr × Nat × Nat) w74 => KeepK (fun k => k ≠ b) wd w74 (RunK Tryz.prog (Builtin.append_ #[31, 31] 31 #[.slice u.1 u.2.1 u.2.2, .slice x73.1 x73.2.1 x73.2.2]) w74 (.v (.one .slc)) (fun (x75 : Option Addr × Nat × Nat) w76 => StK ((⟨g2, 0, none⟩ : Addr).add 3) (.slice x75.1 x75.2.1 x75.2.2) w76 K)))) := by
  refine KeepK.on f (fun k hk t => hk t) ?_
  have h1 := h.keep p f hr
  refine tr_lit [v] (by show 1 ≤ 3; omega) fun y w2 hy hyl f2 hyf => KeepK.of f2 ?_
  have h2 := h1.keep0 p f2
  obtain ⟨z, w3, r3, hz, hzl, f3, zf⟩ := append_ok elem_tr 31 h2.sl hy.rd (by
    intro x hx
    simp only [List.map_cons, List.map_nil, List.flatten_cons, List.flatten_nil, List.append_nil, tvL, List.mem_cons, List.not_mem_nil, or_false] at hx
    rcases hx with rfl | rfl | rfl | rfl <;> rfl) (by rw [hyl, h2.len]; simp only [List.length_singleton]; omega)
  refine ⟨z, w3, r3, ?_⟩
  obtain ⟨p1, p2, p3, p4, p5⟩ := p
  have lowU : ∀ k, blkOf u k → wB.heap.size ≤ k := h.low
  have r3 : IsRr w3 m b N fin s' := h2.rd.keep f3 fun k hk t => by have := lowU k t; omega
  have t13 := h2.t1.keep f3 (fun t => by have := lowU _ t; omega)
  have t23 := h2.t2.keep f3 (fun t => by have := lowU _ t; omega)
  have lowZ : ∀ k, blkOf z k → wB.heap.size ≤ k := fun k hk => (zf k hk).elim (lowU k) fun t => by have := h2.B; omega
  refine t23.u z fun w4 t4 f4 => hK w4 z (fun k => S k ∨ since wc wd k) ?_
  have hsd := f.size
  have hs2 := f2.size
  have hs3 := f3.size
  have hs4 := f4.size
  have off1 : ∀ k, since wc wd k → ¬ blkOf u k := fun k hk t => by have := h.sl.lt t; have := hk.1; omega
  have kid : IsTr w4 (since wc wd) t v := IsTr.keep f4 (fun k hk t => by have : k = g2 := t; have := hk.1; have := h.B; omega) t v (IsTr.keep f3 (fun k hk t => off1 k hk t) t v (IsTr.keep0 hm f2))
  have kids : IsTrs w4 S ts vs := IsTrs.keep f4 (fun k hk t => by have : k = g2 := t; have := (h.off k hk).1; omega) _ _ (IsTrs.keep f3 (fun k hk t => (h.off k hk).2.2 t) _ _ h2.kids)
  refine ⟨r3.keep f4 (fun k hk t => by have : k = g2 := t; omega), (h2.fr.comp f3 (fun k hk t => by have := lowU k t; omega)).comp f4 (fun k hk t => by have : k = g2 := t; omega), by have := h2.B; omega, t13.keep f4 (fun t => by have : g1 = g2 := t; omega), t4,
    ?_, by rw [hzl, hyl, h2.len, List.length_append], IsTrs.snoc (IsTrs.mono (fun _ h => .inl h) _ _ kids) (IsTr.mono (fun _ h => .inr h) _ _ kid), lowZ, ?_⟩
  · rw [List.map_append, List.flatten_append]
    exact hz.keep f4 fun k hk t => by have : k = g2 := t; have := lowZ k hk; omega
  · intro k hk
    rcases hk with hk | hk
    · have o := h.off k hk
      exact ⟨o.1, by omega, fun t => (zf k t).elim o.2.2 fun t => by have := o.2.1; omega⟩
    · have := h.B
      exact ⟨by have := hk.1; omega, by have := hk.2; omega, fun t => (zf k t).elim (off1 k hk) fun t => by have := hk.2; omega⟩

theorem kidsR_last {fin : Int} {rec : Bool → RS → Tr × RS} {k : Int} {num : Bool} {i : Nat} {acc : List Tr} {s : RS} : kidsR fin rec k num 0 i acc s = (acc, s) := rfl

theorem pE1 {k : Int} {num : Bool} {j : Nat} (h : j = 0) (h6 : k = 6) (e : num = false) : true = partB k num j := by subst h h6; simp [partB]
theorem pE2 {k : Int} {num : Bool} {j : Nat} (h : j = 0) (h6 : k ≠ 6) (e : num = false) : (k == 8) = partB k num j := by subst h e; simp [partB, h6]
theorem pE3 {k : Int} {num : Bool} {j : Nat} (h : j ≠ 0) (e : num = false) : false = partB k num j := by subst e; simp [partB, h]

theorem rr_tree (fin : Int) : ∀ (n : Nat) {w : World} {m b N : Nat} {s : RS} (h : IsRr w m b N fin s) (num : Bool) (p2 : Int) (hp : p2 + n = 13) (h1 : 1 ≤ p2),
    Ret Tryz.prog 103 #[.pointer (some ⟨b, 0, none⟩), .bool num, .int .i64 p2] w fun r w' => ∃ v : TV, r = tvA v ∧ Made w w' (treeF fin n num s).1 v ∧ IsRr w' m b N fin (treeF fin n num s).2 ∧ Fr (only b) w w' := by
  intro n
  induction n using Nat.strongRecOn with
  | _ n IH =>
  intro w m b N s h num p2 hp hp1
  have hbm := h.lt
  have hmw := h.le
  refine c103 _ num p2 w _ ?_
  unfold C103
  have e40 : (⟨#[40]⟩ : ByteArray) = str [40] := rfl
  have e44 : (⟨#[44]⟩ : ByteArray) = str [44] := rfl
  rw [e40, e44]
  refine TB.new fun g1 w1 hg1 tb1 f1 hs1 => ?_
  refine JoinK.of (fun _ w' => IsRr w' m b N fin (deepF fin n s) ∧ Fr (only b) w1 w') ?_ ?_
  · unfold deepF
    refine ifB.dec (fun e => ?_) (fun e => ?_)
    · rw [if_pos (by omega)]
      refine CallK.of (rr_fail (h.keep0 f1) 5) ?_
      rintro _ w2 ⟨rfl, h2, f2⟩
      exact ⟨(), rfl, h2, f2⟩
    · rw [if_neg (by omega)]
      exact ⟨h.keep0 f1, Fr.refl _ _⟩
  rintro _ _ w2 ⟨h2, f2⟩
  have f12 : Fr (only b) w w2 := Fr.of0 f1 f2
  have tb2 := tb1.keep f2 (fun t => by have : g1 = b := t; omega)
  have hsz1 := f1.size
  have hsz2 := f2.size
  refine CallK.of (rr_next h2) ?_
  rintro _ w3 ⟨rfl, f3⟩
  refine ⟨_, rfl, ?_⟩
  refine CallK.of (rr_kind _ num w3) ?_
  rintro _ w4 ⟨rfl, f4⟩
  refine ⟨_, rfl, ?_⟩
  have f34 := f3.trans f4
  have h4 := h2.keep0 f34
  have tb4 := tb2.keep0 f34
  have f14 : Fr (only b) w w4 := f12.then0 f34
  have hsz4 := f34.size
  obtain ⟨k, hk⟩ : ∃ k, kindR (nextF (deepF fin n s)) num = k := ⟨_, rfl⟩
  rw [hk]
  refine JoinK.of (fun c w' => c.1 = (decide (k = 0) && num) ∧ w4 = w') ?_ ?_
  · exact ifB.eq (fun e => ⟨by simp [e], rfl⟩) (fun e => ⟨by simp [e], rfl⟩)
  rintro _ ⟨c, _⟩ _ ⟨hc, rfl⟩
  dsimp only at hc ⊢
  rw [hc]
  refine ifB.by (fun e => ?_) (fun e => ?_)
  · rw [Bool.and_eq_true, decide_eq_true_eq] at e
    obtain ⟨e0, rfl⟩ := e
    rw [treeF_zero (hk.trans e0), if_pos rfl]
    refine CallK.of (rr_number h4 false) ?_
    rintro _ w5 ⟨rfl, h5, f5⟩
    refine ⟨_, rfl, ?_⟩
    have hsz5 := f5.size
    exact rr_tell (wB := w5) (v := (11, str [], _, (none, 0, 0), ())) h5 (f14.trans f5) hmw (by omega) (by omega) (by omega) (tb4.keep f5 (fun t => by have : g1 = b := t; omega)) (leaf_made _ _ 11 [] _) fun w6 h6 f6 m6 => ⟨_, rfl, m6, h6, f6⟩
  refine ifB.eq (fun e0 => ?_) (fun e0 => ?_)
  · have hnum : num = false := by rw [decide_eq_true e0] at e; simpa using e
    subst hnum
    rw [treeF_zero (hk.trans e0), if_neg (by decide)]
    refine CallK.of (rr_fail h4 2) ?_
    rintro _ w5 ⟨rfl, h5, f5⟩
    refine ⟨(), rfl, ?_⟩
    have hsz5 := f5.size
    exact rr_tell (wB := w5) (v := (0, str [], 0, (none, 0, 0), ())) h5 (f14.trans f5) hmw (by omega) (by omega) (by omega) (tb4.keep f5 (fun t => by have : g1 = b := t; omega)) (leaf_made _ _ 0 [] 0) fun w6 h6 f6 m6 => ⟨_, rfl, m6, h6, f6⟩
  -- some kind
  clear hc e c tb1 tb2
  obtain ⟨n', rfl⟩ : ∃ n', n = n' + 1 := by
    cases n with
    | zero =>
      refine (e0 ?_).elim
      rw [← hk, nextF_err (s := deepF fin 0 s) (fail_not (by decide)), kindR_nil]
    | succ n => exact ⟨n, rfl⟩
  have hd : deepF fin (n' + 1) s = s := if_neg (by omega)
  rw [hd] at hk h2 h4
  have hne : s.l ≠ [] := fun t => by
    refine e0 ?_
    rw [← hk]
    have : nextF s = [] := by unfold nextF; rw [t]; split <;> rfl
    rw [this, kindR_nil]
  refine rr_step h4 hne fun w5 h5 f5 => ?_
  have hsz5 := f5.size
  have tb5 := tb4.keep f5 (fun t => by have : g1 = b := t; omega)
  refine TB.put (k, str [], 0, (none, 0, 0), ()) fun g2 w6 hg2 t26 f6 => ?_
  have hsz6 := f6.size
  have hg26 := lt_of_blk t26
  have f16 : Fr (only b) w w6 := (f14.trans f5).then0 f6
  have h6 := h5.keep0 f6
  have t16 := tb5.keep0 f6
  have hT : treeF fin (n' + 1) num s = if k = 1 then (.mk 1 [] 0 [], stepF s) else bodyF fin (treeF fin n') k num (mustF fin [40] (stepF s)) := by
    rw [treeF, hk, if_neg e0]
  rw [hT]
  refine ifB.eq (fun e1 => ?_) (fun e1 => ?_)
  · subst e1
    rw [if_pos rfl]
    refine t26.ld ?_
    exact rr_tell (wB := w6) h6 f16 hmw (by omega) (by omega) (by omega) t16 (leaf_made _ _ 1 [] 0) fun w7 h7 f7 m7 => ⟨_, rfl, m7, h7, f7⟩
  rw [if_neg e1]
  refine CallK.of (rr_sign h6 [40] (by decide)) ?_
  rintro _ w7 ⟨rfl, h7, f7⟩
  refine ⟨(), rfl, ?_⟩
  have hsz7 := f7.size
  have t17 := t16.keep f7 (fun t => by have : g1 = b := t; omega)
  have t27 := t26.keep f7 (fun t => by have : g2 = b := t; omega)
  refine parts_map k fun w8 f8 => ?_
  have hsz8 := f8.size
  have h8 := h7.keep0 f8
  have t18 := t17.keep0 f8
  have t28 := t27.keep0 f8
  have f18 : Fr (only b) w w8 := (f16.trans f7).then0 f8
  have hk16 := kindR_le (nextF s) num
  rw [hk] at hk16
  generalize mustF fin [40] (stepF s) = s2 at h8 ⊢
  have w25 : str ([] : List UInt8) = (⟨#[]⟩ : ByteArray) := rfl
  refine JoinK.of (fun _ w' => IsRr w' m b N fin (headS fin k s2).2.2 ∧ TB w' g1 (0, str [], 0, (none, 0, 0), ()) ∧ TB w' g2 (k, str (headS fin k s2).1, (headS fin k s2).2.1, (none, 0, 0), ()) ∧ Fr (only b) w w') ?_ ?_
  · refine JoinK.of (fun c w' => (c.1 = true ↔ k = 2 ∨ k = 5 ∨ k = 12) ∧ w8 = w') ?_ ?_
    · refine ifB.eq (fun e => ⟨by simp [e], rfl⟩) (fun e => ifB.eq (fun e' => ⟨by simp [e'], rfl⟩) (fun e' => ⟨by simp [e, e'], rfl⟩))
    rintro _ ⟨c, _⟩ _ ⟨hc, rfl⟩
    dsimp only at hc ⊢
    unfold headS
    refine ifB.by (fun e => ?_) (fun e => ?_)
    · have e' := hc.1 e
      rw [if_pos e']
      refine CallK.of (rr_name h8) ?_
      rintro _ w9 ⟨rfl, h9, f9⟩
      refine ⟨_, rfl, ?_⟩
      have t19 := t18.keep f9 (fun t => by have : g1 = b := t; omega)
      refine (t28.keep f9 (fun t => by have : g2 = b := t; omega)).s _ fun w10 t2a f10 => ?_
      exact ⟨h9.keep f10 (fun k hk t => by have : k = g2 := t; omega), t19.keep f10 (fun t => by have : g1 = g2 := t; omega), t2a, (f18.trans f9).comp f10 (fun k hk t => by have : k = g2 := t; omega)⟩
    · have e' : ¬ (k = 2 ∨ k = 5 ∨ k = 12) := fun t => by rw [hc.2 t] at e; cases e
      rw [if_neg e']
      refine ifB.eq (fun e7 => ?_) (fun e7 => ?_)
      · rw [if_pos e7]
        refine CallK.of (rr_number h8 true) ?_
        rintro _ w9 ⟨rfl, h9, f9⟩
        refine ⟨_, rfl, ?_⟩
        have t19 := t18.keep f9 (fun t => by have : g1 = b := t; omega)
        refine (t28.keep f9 (fun t => by have : g2 = b := t; omega)).n _ fun w10 t2a f10 => ?_
        exact ⟨h9.keep f10 (fun k hk t => by have : k = g2 := t; omega), t19.keep f10 (fun t => by have : g1 = g2 := t; omega), t2a, (f18.trans f9).comp f10 (fun k hk t => by have : k = g2 := t; omega)⟩
      · rw [if_neg e7]
        exact ⟨h8, t18, t28, f18⟩
  rintro _ _ wB ⟨hB, t1B, t2B, fB⟩
  have hszB := fB.size
  have hg2B := lt_of_blk t2B
  unfold bodyF
  generalize (headS fin k s2).1 = nm at t2B ⊢
  generalize (headS fin k s2).2.1 = nn at t2B ⊢
  generalize (headS fin k s2).2.2 = s3 at hB ⊢
  have spot : Spot w wB m b g1 g2 := ⟨hbm, hmw, by omega, by omega, hg2B⟩
  have hpn : partsN k ≤ 3 := by unfold partsN; split; omega; split; omega; split <;> omega
  refine LoopK.of (fun st wc => ∃ (j : Nat) (acc : List Tr) (s' : RS) (u : Sl) (vs : List TV) (S : Nat → Prop), st.1 = j ∧ j ≤ partsN k ∧ vs.length = j ∧ Kids w wB wc m b g1 g2 N fin s' k nm nn acc u vs S ∧
      kidsR fin (treeF fin n') k num (partsN k - j) j acc s' = kidsR fin (treeF fin n') k num (partsN k) 0 [] s3) (fun st _ => partsN k - st.1.toNat)
    ⟨0, [], s3, (none, 0, 0), [], fun _ => False, rfl, by omega, rfl, ⟨hB, fB, Nat.le_refl _, t1B, t2B, .inl ⟨rfl, rfl⟩, rfl, by unfold IsTrs; rfl, fun k t => (none_blk k t).elim, fun k t => t.elim⟩, rfl⟩ ?_
  rintro _ ⟨i, _⟩ wc ⟨j, acc, s', u, vs, S, rfl, hj, hvl, K, hst⟩
  dsimp only
  refine ifB.dec (fun hlt => ?_) (fun hge => ?_)
  rotate_left
  · have : j = partsN k := by omega
    subst this
    rw [Nat.sub_self, kidsR_last] at hst
    rw [← hst]
    exact K.tell spot
  refine rr_code K.rd (ifB.eq (fun he => ?_) (fun he => ?_))
  rotate_left
  · rw [kidsR_err k num _ j acc he] at hst
    rw [← hst]
    exact K.tell spot
  obtain ⟨q, hq⟩ : ∃ q, partsN k - j = q + 1 := ⟨partsN k - j - 1, by omega⟩
  rw [hq, kidsR_ok k num q j acc he] at hst
  have hszc := K.fr.size
  -- a part, the comma behind
  have part : ∀ (bb : Bool) (w68 : World) (s'' : RS), bb = partB k num j → s'' = fst fin k j s' → Kids w wB w68 m b g1 g2 N fin s'' k nm nn acc u vs S →
      CallK Tryz.prog 103 #[.pointer (some ⟨b, 0, none⟩), .bool bb, .int .i64 (IntKind.i64.wrap (p2 + 1))] w68 (.v (.agg TVK)) (fun (x71 : TV) w72 => KeepK (fun k => k ≠ b) w68 w72 (RunK Tryz.prog (Instr.buildSlice 31 1 #[(0, tvA x71)]) w72 (.v (.one .slc)) (fun (x73 : Option Addr × Nat × Nat) w74 => KeepK (fun k => k ≠ b) w72 w74 (RunK Tryz.prog (Builtin.append_ #[31, 31] 31 #[.slice u.1 u.2.1 u.2.2, .slice x73.1 x73.2.1 x73.2.2]) w74 (.v (.one .slc)) (fun (x75 : Option Addr × Nat × Nat) w76 => StK ((⟨g2, 0, none⟩ : Addr).add 3) (.slice x75.1 x75.2.1 x75.2.2) w76 (fun w77 =>
          (∃ (j' : Nat) (acc : List Tr) (s' : RS) (u : Sl) (vs : List TV) (S : Nat → Prop), IntKind.i64.wrap ((j : Int) + 1) = j' ∧ j' ≤ partsN k ∧ vs.length = j' ∧ Kids w wB w77 m b g1 g2 N fin s' k nm nn acc u vs S ∧
            kidsR fin (treeF fin n') k num (partsN k - j') j' acc s' = kidsR fin (treeF fin n') k num (partsN k) 0 [] s3) ∧ partsN k - (IntKind.i64.wrap ((j : Int) + 1)).toNat < partsN k - (j : Int).toNat)))))) := by
    rintro bb w68 s'' rfl rfl KD
    rw [wI (x := p2 + 1) (by omega) (by omega), wI (x := (j : Int) + 1) (by omega) (by omega)]
    refine CallK.of (IH n' (by omega) KD.rd (partB k num j) (p2 + 1) (by omega) (by omega)) ?_
    rintro _ w72 ⟨v, rfl, mv, r72, f72⟩
    refine ⟨v, rfl, ?_⟩
    refine KD.more spot (by omega) r72 f72 mv fun we u' S' KE => ?_
    refine ⟨⟨j + 1, _, _, u', _, S', rfl, by omega, by simp [hvl], KE, ?_⟩, by omega⟩
    rw [show partsN k - (j + 1) = q by omega]
    exact hst
  refine JoinK.of (fun c w' => c.1 = comF k j ∧ wc = w') ?_ ?_
  · unfold comF
    refine ifB.dec (fun e => ⟨by rw [decide_eq_true (show 0 < j by omega)]; rfl, rfl⟩) (fun e => ?_)
    rw [decide_eq_false (show ¬ 0 < j by omega)]
    refine ifB.eq (fun e5 => ⟨by simp [e5], rfl⟩) (fun e5 => ⟨by simp [e5], rfl⟩)
  rintro _ ⟨c, _⟩ _ ⟨hc, rfl⟩
  dsimp only at hc ⊢
  rw [hc]
  refine ifB.by (fun ec => ?_) (fun ec => ?_)
  · refine CallK.of (rr_sign K.rd [44] (by decide)) ?_
    rintro _ w67 ⟨rfl, r67, f67⟩
    have KC := K.keep spot f67 r67
    have hs'' : mustF fin [44] s' = fst fin k j s' := by unfold fst; rw [if_pos ec]
    refine ⟨(), rfl, ?_⟩
    refine DrewK.of fun w68 _ f68 => ?_
    have KD := KC.keep0 spot f68
    refine HoldK.of (fun k => k ≠ b) ⟨by rw [addr_add]; show g2 ≠ b; omega, ?_⟩
    refine LdK.fld KD.t2 (x := u) rfl ?_
    refine ifB.by (fun e => part true _ _ (by simp [partB, e]) hs'' KD) (fun e => ifB.eq (fun e0 => ifB.eq (fun e6 => part true _ _ (pE1 (by omega) e6 e) hs'' KD) (fun e6 => part (k == 8) _ _ (pE2 (by omega) e6 e) hs'' KD)) (fun e0 => part false _ _ (pE3 (by omega) e) hs'' KD))
  · have hs'' : s' = fst fin k j s' := by unfold fst; rw [if_neg (by rw [ec]; decide)]
    refine DrewK.of fun w68 _ f68 => ?_
    have KD := K.keep0 spot f68
    refine HoldK.of (fun k => k ≠ b) ⟨by rw [addr_add]; show g2 ≠ b; omega, ?_⟩
    refine LdK.fld KD.t2 (x := u) rfl ?_
    refine ifB.by (fun e => part true _ _ (by simp [partB, e]) hs'' KD) (fun e => ifB.eq (fun e0 => ifB.eq (fun e6 => part true _ _ (pE1 (by omega) e6 e) hs'' KD) (fun e6 => part (k == 8) _ _ (pE2 (by omega) e6 e) hs'' KD)) (fun e0 => part false _ _ (pE3 (by omega) e) hs'' KD))

end Go.Proofs.YtbadiokobooliaaGreatDoor

/-! ### RefReadSpec3 -/
set_option linter.unusedVariables false
set_option maxRecDepth 100000
namespace Go.Proofs.YtbadiokobooliaaGreatDoor
open Vc

/-! ### What was read is small -/
theorem shortO_toks (o : Ob) (h : ∀ x ∈ toksO o, x.length ≤ 1000) : shortO o := by
  induction o with
  | none => trivial
  | const n => trivial
  | fix s => exact h s (by simp [toksO])
  | neg o i => exact i fun x hx => h x (by simp [toksO, hx])
  | add l r i j => exact ⟨i fun x hx => h x (by simp [toksO, hx]), j fun x hx => h x (by simp [toksO, hx])⟩
  | mul l r i j => exact ⟨i fun x hx => h x (by simp [toksO, hx]), j fun x hx => h x (by simp [toksO, hx])⟩
  | max l r i j => exact ⟨i fun x hx => h x (by simp [toksO, hx]), j fun x hx => h x (by simp [toksO, hx])⟩
theorem shortT_toks (t : Tm) (h : ∀ x ∈ toksT t, x.length ≤ 1000) : shortT t := by
  induction t with
  | none => trivial
  | zero => trivial
  | one s => exact h s (by simp [toksT])
  | give t i => exact i fun x hx => h x (by simp [toksT, hx])
  | and l r i j => exact ⟨i fun x hx => h x (by simp [toksT, hx]), j fun x hx => h x (by simp [toksT, hx])⟩
  | or s l r i j => exact ⟨h s (by simp [toksT]), i fun x hx => h x (by simp [toksT, hx]), j fun x hx => h x (by simp [toksT, hx])⟩
  | scale o t i => exact ⟨shortO_toks o fun x hx => h x (by simp [toksT, hx]), i fun x hx => h x (by simp [toksT, hx])⟩
  | «when» d t i => exact i fun x hx => h x (by simp [toksT, hx])
  | cond o l r i j => exact ⟨shortO_toks o fun x hx => h x (by simp [toksT, hx]), i fun x hx => h x (by simp [toksT, hx]), j fun x hx => h x (by simp [toksT, hx])⟩
theorem ate_small {bs : List UInt8} (hl : ¬ 1000 < bs.length) (hb : ¬ 0 < (sgF [] 0 false (runesL bs)).2) {ts : List (List UInt8)} {s' : RS} (h : Ate (begR bs) ts s') : ts.length ≤ 1001 ∧ ∀ x ∈ ts, x.length ≤ 1000 := by
  obtain ⟨xs, hx, rfl⟩ := h.eat
  have hx : (sgF [] 0 false (runesL bs)).1 = xs ++ s'.l := hx
  have h1 := sgF_cnt (runesL bs) [] 0 false
  have h2 := runesL_len bs
  have h3 := sgF_bytes hb
  rw [hx] at h1 h3
  refine ⟨by simp only [List.length_append, List.length_map, List.length_nil] at h1 ⊢; omega, fun x hm => ?_⟩
  obtain ⟨y, hy, rfl⟩ := List.mem_map.1 hm
  have := mem_lenS (x := y) (l := xs ++ s'.l) (List.mem_append_left _ hy)
  omega
theorem tree_small {bs : List UInt8} (hl : ¬ 1000 < bs.length) (hb : ¬ 0 < (sgF [] 0 false (runesL bs)).2) (num : Bool) (he : (treeF (endF bs) 12 num (begR bs)).2.e = 0) : cntR (treeF (endF bs) 12 num (begR bs)).1 ≤ 1000000 ∧ shortR (treeF (endF bs) 12 num (begR bs)).1 := by
  cases num
  · have hs := sameT_con (endF bs) 12 (begR bs)
    rw [hs.1] at he
    rw [hs.2 he]
    have ha := ate_small hl hb (conR_inv (endF bs) 12 (begR bs) he).1
    have h1 := nodesT_toks (conR (endF bs) 12 (begR bs)).1
    have h2 := cnt_trT (conR (endF bs) 12 (begR bs)).1
    exact ⟨by omega, short_trT _ (shortT_toks _ ha.2)⟩
  · have hs := sameO_num (endF bs) 12 (begR bs)
    rw [hs.1] at he
    rw [hs.2 he]
    have ha := ate_small hl hb (numR_inv (endF bs) 12 (begR bs) he).1
    have h1 := nodesO_toks (numR (endF bs) 12 (begR bs)).1
    have h2 := cnt_trO (numR (endF bs) 12 (begR bs)).1
    exact ⟨by omega, short_trO _ (shortO_toks _ ha.2)⟩

theorem rr_count (bs : List UInt8) (hl : bs.length ≤ 1000000) (w : World) : Ret Tryz.prog 102 #[.string (str bs)] w fun r w' => r = .int .i64 ((runesL bs).length : Int) ∧ Fr none1 w w' := by
  refine c102 _ w _ ?_
  unfold C102
  refine CallK.of (rrunes_spec bs hl w) ?_
  rintro _ w1 ⟨v, rfl, hv, f1, _⟩
  refine ⟨v, rfl, ?_⟩
  have := IsR.len hv
  exact ⟨by rw [this], f1⟩

/-- A result, told through its own block. -/
theorem tell0 {w wc : World} {g : Nat} {v0 v : TV} {t : Tr} (f : Fr none1 w wc) (hg : w.heap.size ≤ g) (tb : TB wc g v0) {S : Nat → Prop} (hm : IsTr wc S t v) (hS : ∀ k, S k → w.heap.size ≤ k ∧ k < wc.heap.size ∧ k ≠ g) {K : TV → World → Prop}
    (k : ∀ w2, Fr none1 w w2 → Made w w2 t v → K v w2) : StsK ⟨g, 0, none⟩ (tvL v) wc fun w2 => LdsK TVK ⟨g, 0, none⟩ w2 fun x => K x w2 :=
  StsK.blk (cs := tvL v0) (vs := tvL v) tb rfl rfl fun w2 hb2 f2 _ => LdsK.blk (cks := TVK) (x := v) hb2 (k w2 (f.fresh f2 hg) (IsTr.mono (fun k hk => ⟨(hS k hk).1, Nat.lt_of_lt_of_le (hS k hk).2.1 f2.size⟩) _ _ (IsTr.keep f2 (fun k hk t => (hS k hk).2.2 t) _ _ hm)))
theorem tell_leaf {w wc : World} {g : Nat} {v0 : TV} (f : Fr none1 w wc) (hg : w.heap.size ≤ g) (tb : TB wc g v0) (k : Int) (s : List UInt8) (n : Int) {K : TV → World → Prop}
    (hk : ∀ w2, Fr none1 w w2 → Made w w2 (.mk k s n []) (k, str s, n, (none, 0, 0), ()) → K (k, str s, n, (none, 0, 0), ()) w2) : StsK ⟨g, 0, none⟩ (tvL (k, str s, n, (none, 0, 0), ())) wc fun w2 => LdsK TVK ⟨g, 0, none⟩ w2 fun x => K x w2 :=
  tell0 (S := fun _ => False) f hg tb (IsTr.mono (fun k hk => by have := hk.1; have := hk.2; omega) _ _ (leaf_made wc wc k s n)) (fun k t => t.elim) hk

theorem rread_spec (bs : List UInt8) (hl : bs.length ≤ 100000) (num : Bool) (w : World) : Ret Tryz.prog 64 #[.string (str bs), .bool num] w fun r w' =>
    ∃ v : TV, r = .tuple #[tvA v, .int .i64 (readR bs num).2.1, .int .i64 (readR bs num).2.2] ∧ Made w w' (readR bs num).1 v ∧ Fr none1 w w' := by
  refine c64 _ num w _ ?_
  unfold C64
  unfold readR
  refine TB.new fun g1 w1 hg1 tb1 f1 hs1 => ?_
  rw [str_size]
  refine ifB.dec (fun h1000 => ?_) (fun h1000 => ?_)
  · rw [if_pos (by omega)]
    exact tell_leaf f1 (by omega) tb1 0 [] 0 fun w2 f2 m2 => ⟨_, rfl, m2, f2⟩
  rw [if_neg (by omega)]
  refine CallK.of (rsigns_spec bs (by omega) w1) ?_
  rintro _ w2 ⟨sl, rfl, hsl, f2⟩
  refine ⟨(sl, (sgF [] 0 false (runesL bs)).2, ()), rfl, ?_⟩
  dsimp only
  have f12 := f1.trans f2
  have tb2 := tb1.keep0 f2
  refine ifB.dec (fun hb => ?_) (fun hb => ?_)
  · rw [if_pos (by omega)]
    exact tell_leaf f12 (by omega) tb2 0 [] 0 fun w2 f2 m2 => ⟨_, rfl, m2, f2⟩
  have hb : ¬ 0 < (sgF [] 0 false (runesL bs)).2 := by omega
  rw [if_neg hb]
  refine CallK.of (rr_count bs (by omega) w2) ?_
  rintro _ w3 ⟨rfl, f3⟩
  refine ⟨_, rfl, ?_⟩
  have hrl := runesL_len bs
  rw [wI (x := ((runesL bs).length : Int) + 1) (by omega) (by omega)]
  have hfin : ((runesL bs).length : Int) + 1 = endF bs := rfl
  rw [hfin]
  refine NewK.of fun g w4 hg hb4 f4 hs4 => ?_
  have f14 := (f12.trans f3).trans f4
  have hsz := (f12.trans f3).size
  have hs3 := f3.size
  have hsl4 := hsl.keep0 (f3.trans f4)
  have hcnt := sgF_cnt (runesL bs) [] 0 false
  have R : IsRr w4 w4.heap.size g (sgF [] 0 false (runesL bs)).1.length (endF bs) (begR bs) := by
    refine ⟨⟨sl, (sgF [] 0 false (runesL bs)).1, 0, hb4, hsl4, rfl, by omega, ⟨by simp only [List.length_nil] at hcnt; omega, rfl⟩, signs_short (by omega), fun k hk => ?_⟩, by omega, Nat.le_refl _⟩
    have := (hsl.keep0 f3).sl.lt hk
    omega
  have tb4 := (tb2.keep0 f3).keep0 f4
  have hg1lt := lt_of_blk tb2
  refine CallK.of (rr_tree (endF bs) 12 R num 1 (by omega) (by omega)) ?_
  rintro _ w5 ⟨v, rfl, mv, R5, f5⟩
  refine ⟨v, rfl, ?_⟩
  have hg1g : g1 ≠ g := by omega
  have tb5 := tb4.keep f5 (fun t => hg1g t)
  have f15 : Fr none1 w w5 := f14.fresh f5 (by omega)
  refine TB.put v fun g2 w6 hg2 t26 f6 => ?_
  have hsz5 := f5.size
  have tb6 := tb5.keep0 f6
  have R6 := R5.keep0 f6
  have m6 := mv.keep0 f6
  have f16 := f15.trans f6
  have hsz6 := f6.size
  have hg26 := lt_of_blk t26
  obtain ⟨s5, hs5⟩ : ∃ s, (treeF (endF bs) 12 num (begR bs)).2 = s := ⟨_, rfl⟩
  have hsm := tree_small (by omega) hb num
  rw [hs5] at R6 hsm ⊢
  obtain ⟨t5, ht5⟩ : ∃ t, (treeF (endF bs) 12 num (begR bs)).1 = t := ⟨_, rfl⟩
  rw [ht5] at m6 hsm ⊢
  have bad : ∀ (w20 : World) (s' : RS), Fr none1 w w20 → IsRr w20 w4.heap.size g (sgF [] 0 false (runesL bs)).1.length (endF bs) s' → TB w20 g1 (0, str [], 0, (none, 0, 0), ()) →
      DrewK w20 (fun w26 => HoldK (fun S27 => InK S27 ((⟨g, 0, none⟩ : Addr).add 3) (LdK (.int .i64) ((⟨g, 0, none⟩ : Addr).add 3) w26 (fun (x28 : Int) => InK S27 ((⟨g, 0, none⟩ : Addr).add 4) (LdK (.int .i64) ((⟨g, 0, none⟩ : Addr).add 4) w26 (fun (x29 : Int) =>
        StsK (⟨g1, 0, none⟩ : Addr) [.int .i64 0, .string (⟨#[]⟩ : ByteArray), .int .i64 0, .slice none 0 0] w26 (fun w30 => KeepK S27 w26 w30 (LdsK TVK (⟨g1, 0, none⟩ : Addr) w30 (fun (x31 : TV) => 
          ∃ v : TV, (Value.tuple #[tvA x31, .int .i64 x28, .int .i64 x29]) = .tuple #[tvA v, .int .i64 s'.at_, .int .i64 s'.e] ∧ Made w w30 (.mk 0 [] 0 []) v ∧ Fr none1 w w30))))))))) := by
    intro w20 s' f20 R20 tb20
    refine DrewK.of fun w26 _ f26 => HoldK.of (fun k => k ≠ g1) ?_
    obtain ⟨⟨sl', L, n, hb', _⟩, _, _⟩ := R20.keep0 f26
    refine ⟨by rw [addr_add]; exact fun t => hg1g t.symm, LdK.fld hb' (x := s'.at_) rfl ⟨by rw [addr_add]; exact fun t => hg1g t.symm, LdK.fld hb' (x := s'.e) rfl ?_⟩⟩
    have f27 := f20.trans f26
    refine StsK.blk (cs := tvL (0, str [], 0, (none, 0, 0), ())) (vs := tvL (0, str [], 0, (none, 0, 0), ())) (tb20.keep0 f26) rfl rfl fun w30 hb30 f30 _ => KeepK.on f30 (fun k hk t => hk t) ?_
    exact LdsK.blk (cks := TVK) (x := (0, str [], 0, (none, 0, 0), ())) hb30 ⟨_, rfl, (leaf_made w30 w30 0 [] 0).older (by have := f27.size; have := f30.size; omega), f27.fresh f30 (by omega)⟩
  have good : ∀ (w20 : World), Fr none1 w6 w20 → s5.e = 0 → s5.l = [] → LdsK TVK (⟨g2, 0, none⟩ : Addr) w20 (fun (x32 : TV) => CallK Tryz.prog 96 #[tvA x32, .bool num] w20 (.v (.one (.int .i64))) (fun (x33 : Int) w34 => ifB (x33 != 0)
        (StsK (⟨g1, 0, none⟩ : Addr) [.int .i64 0, .string (⟨#[]⟩ : ByteArray), .int .i64 0, .slice none 0 0] w34 (fun w35 => LdsK TVK (⟨g1, 0, none⟩ : Addr) w35 (fun (x36 : TV) => 
          ∃ v : TV, (Value.tuple #[tvA x36, .int .i64 0, .int .i64 x33]) = .tuple #[tvA v, .int .i64 (if checkR t5 num ≠ 0 then ((Tr.mk 0 [] 0 [], 0, checkR t5 num) : Tr × Int × Int) else (t5, 0, 0)).2.1, .int .i64 (if checkR t5 num ≠ 0 then ((Tr.mk 0 [] 0 [], 0, checkR t5 num) : Tr × Int × Int) else (t5, 0, 0)).2.2] ∧ Made w w35 (if checkR t5 num ≠ 0 then ((Tr.mk 0 [] 0 [], 0, checkR t5 num) : Tr × Int × Int) else (t5, 0, 0)).1 v ∧ Fr none1 w w35)))
        (LdsK TVK (⟨g2, 0, none⟩ : Addr) w34 (fun (x37 : TV) => StsK (⟨g1, 0, none⟩ : Addr) (tvL x37) w34 (fun w38 => LdsK TVK (⟨g1, 0, none⟩ : Addr) w38 (fun (x39 : TV) => 
          ∃ v : TV, (Value.tuple #[tvA x39, .int .i64 0, .int .i64 0]) = .tuple #[tvA v, .int .i64 (if checkR t5 num ≠ 0 then ((Tr.mk 0 [] 0 [], 0, checkR t5 num) : Tr × Int × Int) else (t5, 0, 0)).2.1, .int .i64 (if checkR t5 num ≠ 0 then ((Tr.mk 0 [] 0 [], 0, checkR t5 num) : Tr × Int × Int) else (t5, 0, 0)).2.2] ∧ Made w w38 (if checkR t5 num ≠ 0 then ((Tr.mk 0 [] 0 [], 0, checkR t5 num) : Tr × Int × Int) else (t5, 0, 0)).1 v ∧ Fr none1 w w38)))))) := by
    intro w20 f20 he hle
    have hsm := hsm he
    refine (t26.keep0 f20).ld ?_
    refine CallK.of (rcheck_spec t5 num hsm.1 hsm.2 (m6.keep0 f20) (fun k hk => hk.2)) ?_
    rintro _ w34 ⟨rfl, f34⟩
    refine ⟨_, rfl, ifB.ne (fun e => ?_) (fun e => ?_)⟩
    · simp only [if_pos e]
      exact tell_leaf ((f16.trans f20).trans f34) (by omega) ((tb6.keep0 f20).keep0 f34) 0 [] 0 fun w2 f2 m2 => ⟨_, rfl, m2.older (by have := f2.size; omega), f2⟩
    · simp only [if_neg (show ¬ checkR t5 num ≠ 0 from fun t => t e)]
      refine ((t26.keep0 f20).keep0 f34).ld ?_
      exact tell0 ((f16.trans f20).trans f34) (by omega) ((tb6.keep0 f20).keep0 f34) ((m6.keep0 f20).keep0 f34) (fun k hk => ⟨by have := hk.1; omega, hk.2, fun t => by have := hk.1; omega⟩) fun w2 f2 m2 => ⟨_, rfl, m2, f2⟩
  refine JoinK.of (fun c w' => c.1 = (decide (s5.e = 0) && !s5.l.isEmpty) ∧ w6 = w') ?_ ?_
  · refine rr_code R6 (ifB.eq (fun e => ?_) (fun e => ?_))
    · obtain ⟨⟨sl', L, n, hb', hs', hl', hn', hL', _⟩, _, _⟩ := R6
      refine LdK.fld hb' (x := (n : Int)) rfl ⟨?_, rfl⟩
      have hlen := hsl.len
      rw [hlen, hl', decide_eq_true e]
      by_cases hh : n < L.length
      · obtain ⟨x, _, hd⟩ := drop_next hh
        rw [hd, decide_eq_true (by omega)]; rfl
      · rw [List.drop_eq_nil_of_le (by omega), decide_eq_false (by omega)]; rfl
    · exact ⟨by simp [e], rfl⟩
  rintro _ ⟨c, _⟩ _ ⟨hc, rfl⟩
  dsimp only at hc ⊢
  rw [hc]
  refine ifB.by (fun e => ?_) (fun e => ?_)
  · rw [Bool.and_eq_true, decide_eq_true_eq] at e
    have hl : s5.l ≠ [] := fun t => by rw [t] at e; exact absurd e.2 (by decide)
    have hend : endR (endF bs) s5 = failF (endF bs) 2 s5 := if_pos ⟨e.1, hl⟩
    rw [hend]
    have hne : (failF (endF bs) 2 s5).e ≠ 0 := fail_not (by decide)
    simp only [if_pos hne]
    refine CallK.of (rr_fail R6 2) ?_
    rintro _ w7 ⟨rfl, R7, f7⟩
    refine ⟨(), rfl, rr_code R7 (ifB.ne (fun _ => ?_) (fun t => (hne t).elim))⟩
    exact bad w7 _ (f16.fresh f7 (by omega)) R7 (tb6.keep f7 (fun t => hg1g t))
  · have hend : endR (endF bs) s5 = s5 := by
      unfold endR
      refine if_neg fun t => ?_
      rw [decide_eq_true t.1] at e
      cases hl : s5.l with
      | nil => exact t.2 hl
      | cons x l => rw [hl] at e; simp at e
    rw [hend]
    refine rr_code R6 (ifB.ne (fun hne => ?_) (fun he => ?_))
    · simp only [if_pos hne]
      exact bad w6 _ f16 R6 tb6
    · simp only [if_neg (show ¬ s5.e ≠ 0 from fun t => t he)]
      refine good w6 (Fr.refl _ _) he ?_
      rw [decide_eq_true he] at e
      cases hl : s5.l with
      | nil => rfl
      | cons x l => rw [hl] at e; simp at e

/-! ### Same trees -/
mutual
def sameR : Tr → Tr → Bool
  | .mk k s n ks, .mk k' s' n' ks' => !(k == 0) && (k == k' && (s == s' && (n == n' && sameRs ks ks')))
def sameRs : List Tr → List Tr → Bool
  | [], [] => true
  | [], _ :: _ => false
  | _ :: _, [] => false
  | t :: ts, t' :: ts' => sameR t t' && sameRs ts ts'
end
mutual
def wholeR : Tr → Bool
  | .mk k _ _ ks => !(k == 0) && wholeRs ks
def wholeRs : List Tr → Bool
  | [] => true
  | t :: ts => wholeR t && wholeRs ts
end
mutual
theorem sameR_self : ∀ t : Tr, sameR t t = wholeR t
  | .mk k s n ks => by unfold sameR wholeR; rw [sameRs_self ks]; simp
theorem sameRs_self : ∀ ts : List Tr, sameRs ts ts = wholeRs ts
  | [] => rfl
  | t :: ts => by unfold sameRs wholeRs; rw [sameR_self t, sameRs_self ts]
end
theorem whole_trO (o : Ob) (h : formO o = true) : wholeR (trO o) = true := by
  induction o with
  | none => cases h
  | const n => rfl
  | fix s => rfl
  | neg o i => simp [trO, wholeR, wholeRs, i h]
  | add l r i j => simp only [formO, Bool.and_eq_true] at h; simp [trO, wholeR, wholeRs, i h.1, j h.2]
  | mul l r i j => simp only [formO, Bool.and_eq_true] at h; simp [trO, wholeR, wholeRs, i h.1, j h.2]
  | max l r i j => simp only [formO, Bool.and_eq_true] at h; simp [trO, wholeR, wholeRs, i h.1, j h.2]
theorem whole_trT (t : Tm) (h : formT t = true) : wholeR (trT t) = true := by
  induction t with
  | none => cases h
  | zero => rfl
  | one s => rfl
  | give t i => simp [trT, wholeR, wholeRs, i h]
  | and l r i j => simp only [formT, Bool.and_eq_true] at h; simp [trT, wholeR, wholeRs, i h.1, j h.2]
  | or s l r i j => simp only [formT, Bool.and_eq_true] at h; simp [trT, wholeR, wholeRs, i h.2.1, j h.2.2]
  | scale o t i => simp only [formT, Bool.and_eq_true] at h; simp [trT, wholeR, wholeRs, whole_trO o h.1, i h.2]
  | «when» d t i => simp only [formT, Bool.and_eq_true] at h; simp [trT, wholeR, wholeRs, i h.2]
  | cond o l r i j => simp only [formT, Bool.and_eq_true] at h; simp [trT, wholeR, wholeRs, whole_trO o h.1, i h.2.1, j h.2.2]
theorem sameRs_len : ∀ {ts ts' : List Tr}, ts.length ≠ ts'.length → sameRs ts ts' = false
  | [], [], h => (h rfl).elim
  | [], _ :: _, _ => rfl
  | _ :: _, [], _ => rfl
  | t :: ts, t' :: ts', h => by unfold sameRs; rw [sameRs_len (fun e => h (by simp [e]))]; simp
theorem sameRs_at : ∀ {ts ts' : List Tr} {i : Nat} {t t' : Tr}, ts[i]? = some t → ts'[i]? = some t' → sameRs (ts.drop i) (ts'.drop i) = (sameR t t' && sameRs (ts.drop (i + 1)) (ts'.drop (i + 1))) := by
  intro ts ts' i t t' h h'
  rw [drop_one h, drop_one h']; rfl

theorem rsame_spec : ∀ (t t' : Tr) (hn : cntR t ≤ 1000000000000) {w : World} {S S' : Nat → Prop} {v v' : TV} (h : IsTr w S t v) (h' : IsTr w S' t' v'),
    Ret Tryz.prog 65 #[tvA v, tvA v'] w fun r w' => r = .bool (sameR t t') ∧ Fr none1 w w'
  | .mk k s n ks, .mk k' s' n' ks', hn, w, S, S', v, v', h, h' => by
    have ih : ∀ t ∈ ks, ∀ t', cntR t ≤ 1000000000000 → ∀ {w : World} {S S' : Nat → Prop} {v v' : TV}, IsTr w S t v → IsTr w S' t' v' → Ret Tryz.prog 65 #[tvA v, tvA v'] w fun r w' => r = .bool (sameR t t') ∧ Fr none1 w w' := fun t ht t' hc => rsame_spec t t' hc
    refine c65 v v' w _ ?_
    unfold C65
    refine NewK.of fun g1 w1 hg1 hb1 f1 hs1 => NewK.of fun g2 w2 hg2 hb2 f2 hs2 => ?_
    have b1 := f2.keep0 hb1
    have f12 := f1.trans f2
    have t1 : TB w2 g1 v := b1
    have t2 : TB w2 g2 v' := hb2
    have hk := h.kind; have hk' := h'.kind; have hs := h.name; have hs' := h'.name; have hnn := h.num; have hnn' := h'.num; have hl := h.len; have hl' := h'.len
    unfold sameR
    refine LdK.fld t1 (x := v.1) rfl ?_
    rw [hk]
    refine ifB.eq (fun e => ⟨by simp [e], f12⟩) (fun e0 => ?_)
    refine LdK.fld t1 (x := v.1) rfl (LdK.fld t2 (x := v'.1) rfl ?_)
    rw [hk, hk']
    refine ifB.ne (fun e => ⟨by simp [e], f12⟩) (fun ek => ?_)
    refine LdK.fld t1 (x := v.2.1) rfl (LdK.fld t2 (x := v'.2.1) rfl ?_)
    rw [hs, hs']
    refine ifB.not (ifB.str (fun es => ?_) (fun e => ⟨by simp [e], f12⟩))
    refine LdK.fld t1 (x := v.2.2.1) rfl (LdK.fld t2 (x := v'.2.2.1) rfl ?_)
    rw [hnn, hnn']
    refine ifB.ne (fun e => ⟨by simp [e], f12⟩) (fun en => ?_)
    refine LdK.fld t1 (x := v.2.2.2.1) rfl (LdK.fld t2 (x := v'.2.2.2.1) rfl ?_)
    rw [hl, hl']
    refine ifB.ne (fun e => ⟨by rw [sameRs_len (fun t => e (by rw [t]))]; simp, f12⟩) (fun el => ?_)
    refine LdK.fld t1 (x := v.2.2.2.1) rfl ?_
    have hall : (!(k == 0) && (k == k' && (s == s' && (n == n' && sameRs ks ks')))) = sameRs ks ks' := by
      have e0' : ¬ k' = 0 := by rw [← ek]; exact e0
      simp [e0', ek, es, en]
    rw [hall]
    have hcl := cntRs_len ks
    have hcn : cntRs ks ≤ 1000000000000 := by unfold cntR at hn; omega
    rw [hl]
    refine LoopK.of (fun st w' => ∃ j : Nat, st.1 = j ∧ j ≤ ks.length ∧ sameRs (ks.drop j) (ks'.drop j) = sameRs ks ks' ∧ Fr none1 w2 w') (fun st _ => ks.length - st.1.toNat) ⟨0, rfl, by omega, rfl, Fr.refl _ _⟩ ?_
    rintro _ ⟨i, _⟩ w3 ⟨j, rfl, hj, hst, f3⟩
    dsimp only
    refine ifB.dec (fun hlt => ?_) (fun hge => ?_)
    rotate_left
    · have : j = ks.length := by omega
      rw [List.drop_eq_nil_of_le (by omega), List.drop_eq_nil_of_le (by omega)] at hst
      exact ⟨by rw [← hst]; rfl, f12.trans f3⟩
    obtain ⟨t, ht⟩ : ∃ t, ks[j]? = some t := ⟨ks[j], List.getElem?_eq_getElem (by omega)⟩
    obtain ⟨t', ht'⟩ : ∃ t, ks'[j]? = some t := ⟨ks'[j], List.getElem?_eq_getElem (by omega)⟩
    rw [sameRs_at ht ht'] at hst
    refine DrewK.of fun w4 _ f4 => ?_
    have f34 := f3.trans f4
    refine LdK.fld (f34.keep0 t1) (x := v.2.2.2.1) rfl ?_
    refine IdxK.out_ink (((h.keep0 f12).keep0 f34).ld ht fun x hx => ?_)
    refine LdK.fld (f34.keep0 t2) (x := v'.2.2.2.1) rfl ?_
    refine IdxK.out_ink (((h'.keep0 f12).keep0 f34).ld ht' fun x' hx' => ?_)
    have hct := cntRs_get ht
    refine CallK.of (ih t (List.mem_of_getElem? ht) t' (by omega) hx hx') ?_
    rintro _ w5 ⟨rfl, f5⟩
    refine ⟨_, rfl, ifB.not (ifB.by (fun e => ?_) (fun e => ?_))⟩
    · rw [e, Bool.true_and] at hst
      rw [wI (x := (j : Int) + 1) (by omega) (by omega)]
      exact ⟨⟨j + 1, rfl, by omega, hst, f34.trans f5⟩, by omega⟩
    · rw [e, Bool.false_and] at hst
      exact ⟨by rw [← hst], f12.trans (f34.trans f5)⟩
termination_by t => SizeOf.sizeOf t
decreasing_by exact kid_lt ht

end Go.Proofs.YtbadiokobooliaaGreatDoor

/-! ### CRef11T -/
namespace Go.Proofs.YtbadiokobooliaaGreatDoor
open Vc
set_option maxRecDepth 100000
set_option linter.unusedVariables false
/-- (*handfast/handfastref11.taker).take -/
def C62 (p0 : Addr) (p1 : Int) (w : World) (K : Value → World → Prop) : Prop :=
  LdK .bool (p0.add 1) w (fun (x1 : Bool) => ifB x1
  (StK (p0.add 1) (.bool true) w (fun w2 => RunK Tryz.prog (Instr.makeSlice 38 (.int .i64 p1) (.int .i64 p1)) w2 (.v (.one .slc)) (fun (x3 : SlT) w4 => K (.slice x3.1 x3.2.1 x3.2.2) w4)))
  (LdK .slc (p0.add 0) w (fun (x5 : SlT) => ifB (decide (p1 > (x5.2.1 : Int)))
  (StK (p0.add 1) (.bool true) w (fun w6 => RunK Tryz.prog (Instr.makeSlice 38 (.int .i64 p1) (.int .i64 p1)) w6 (.v (.one .slc)) (fun (x7 : SlT) w8 => K (.slice x7.1 x7.2.1 x7.2.2) w8)))
  (LdK .slc (p0.add 0) w (fun (x9 : SlT) => SubK x9.1 x9.2.2 0 p1 x9.2.2 1 (fun a10 l11 c12 => LdK .slc (p0.add 0) w (fun (x13 : SlT) => SubK x13.1 x13.2.2 p1 x13.2.1 x13.2.2 1 (fun a14 l15 c16 => StK (p0.add 0) (.slice a14 l15 c16) w (fun w17 => K (.slice a10 l11 c12) w17)))))))))
def pl62 : Plan := .auto
theorem e62 (p0 : Addr) (p1 : Int) (w : World) (K : Value → World → Prop) : vcFunc Tryz.prog Tryz.f62 pl62 [.pointer (some p0), .int .i64 p1] w K = C62 p0 p1 w K := by kernel_rfl
theorem c62 (p0 : Addr) (p1 : Int) (w : World) (K : Value → World → Prop) (h : C62 p0 p1 w K) : Ret Tryz.prog 62 #[.pointer (some p0), .int .i64 p1] w K := by
  rw [← e62] at h
  exact vcFunc_sound (by kernel_rfl) Tryz.func62 h

/-- handfast/handfastref11.TakeNumber -/
def C63 (p0 : Option Addr) (p0l p0c : Nat) (w : World) (K : Value → World → Prop) : Prop :=
  ifB ((p0l : Int) != 8)
  (K (.tuple #[.int .i64 0, .bool false]) w)
  (LoopK (Int × Int × Unit) (fun _ s1 w2 next3 => ifB (decide (s1.2.1 < 8))
  (NnK 8 (IdxK p0 p0l s1.2.1 1 (fun a4 => LdK (.int .u8) a4 w2 (fun (x5 : Int) => next3 (IntKind.u64.wrap ((BitVec.ofInt 64 (IntKind.u64.wrap (s1.1 * 2 ^ (min (Int.toNat 8) 64))) ||| BitVec.ofInt 64 (IntKind.u64.wrap x5)).toNat : Int), IntKind.i64.wrap (s1.2.1 + 1), ()) w2))))
  (K (.tuple #[.int .i64 (IntKind.i64.wrap s1.1), .bool true]) w2))
  (0, 0, ()) w)
def pl63 : Plan := (.seq .auto (.seq .auto (.seq .auto (.seq (.seq .auto (.block (.loop [(4, .one (.int .u64)), (5, .one (.int .i64))] .auto))) .auto))))
theorem e63 (p0 : Option Addr) (p0l p0c : Nat) (w : World) (K : Value → World → Prop) : vcFunc Tryz.prog Tryz.f63 pl63 [.slice p0 p0l p0c] w K = C63 p0 p0l p0c w K := by kernel_rfl
theorem c63 (p0 : Option Addr) (p0l p0c : Nat) (w : World) (K : Value → World → Prop) (h : C63 p0 p0l p0c w K) : Ret Tryz.prog 63 #[.slice p0 p0l p0c] w K := by
  rw [← e63] at h
  exact vcFunc_sound (by kernel_rfl) Tryz.func63 h

/-- handfast/handfastref11.Take -/
def C25 (p0 : Option Addr) (p0l p0c : Nat) (w : World) (K : Value → World → Prop) : Prop :=
  NewK (.cells #[.int .i64 0, .string (⟨#[]⟩ : ByteArray), .string (⟨#[]⟩ : ByteArray), .string (⟨#[]⟩ : ByteArray), .string (⟨#[]⟩ : ByteArray), .int .i64 0, .int .i64 0, .int .i64 0, .string (⟨#[]⟩ : ByteArray), .int .i64 0, .slice none 0 0] 35) w (fun g1 w2 => NewK (.cells #[.slice p0 p0l p0c, .bool false] 124) w2 (fun g3 w4 => CallK Tryz.prog 62 #[.pointer (some (ad g3)), .int .i64 1] w4 (.v (.one .slc)) (fun (x5 : SlT) w6 => IdxK x5.1 x5.2.1 0 1 (fun a7 => LdK (.int .u8) a7 w6 (fun (x8 : Int) => NewK (.cells #[.int .i64 0, .string (⟨#[]⟩ : ByteArray), .string (⟨#[]⟩ : ByteArray), .string (⟨#[]⟩ : ByteArray), .string (⟨#[]⟩ : ByteArray), .int .i64 0, .int .i64 0, .int .i64 0, .string (⟨#[]⟩ : ByteArray), .int .i64 0, .slice none 0 0] 35) w6 (fun g9 w10 => StsK (ad g9) [.int .i64 (IntKind.i64.wrap x8), .string (⟨#[]⟩ : ByteArray), .string (⟨#[]⟩ : ByteArray), .string (⟨#[]⟩ : ByteArray), .string (⟨#[]⟩ : ByteArray), .int .i64 0, .int .i64 0, .int .i64 0, .string (⟨#[]⟩ : ByteArray), .int .i64 0, .slice none 0 0] w10 (fun w11 => RunK Tryz.prog (Instr.buildSlice 38 7 #[(0, .int .u8 73), (1, .int .u8 78), (2, .int .u8 76), (3, .int .u8 67), (4, .int .u8 68), (5, .int .u8 86), (6, .int .u8 84)]) w11 (.v (.one .slc)) (fun (x12 : SlT) w13 => RunK Tryz.prog (convert 38 38 (.slice x12.1 x12.2.1 x12.2.2)) w13 (.v (.one .slc)) (fun (x14 : SlT) w15 => LoopK (Int × Unit) (fun _ s16 w17 next18 => ifB (decide (s16.1 < (x14.2.1 : Int)))
  (IdxK x14.1 x14.2.1 s16.1 1 (fun a19 => LdK (.int .u8) a19 w17 (fun (x20 : Int) => LdK (.int .i64) ((ad g9).add 0) w17 (fun (x21 : Int) => CallK Tryz.prog 56 #[.int .i64 x21] w17 (.v (.one .str)) (fun (x22 : ByteArray) w23 => CallK Tryz.prog 55 #[.string x22, .int .u8 x20] w23 (.v (.one .bool)) (fun (x24 : Bool) w25 => ifB (!x24)
  (next18 (IntKind.i64.wrap (s16.1 + 1), ()) w25)
  (ifB (x20 == 68)
  (CallK Tryz.prog 62 #[.pointer (some (ad g3)), .int .i64 8] w25 (.v (.one .slc)) (fun (x26 : SlT) w27 => CallK Tryz.prog 63 #[.slice x26.1 x26.2.1 x26.2.2] w27 (.tup [.one (.int .i64), .one .bool]) (fun (x28 : Int × Bool × Unit) w29 => StK ((ad g9).add 5) (.int .i64 x28.1) w29 (fun w30 => next18 (IntKind.i64.wrap (s16.1 + 1), ()) w30))))
  (ifB (x20 == 86)
  (CallK Tryz.prog 62 #[.pointer (some (ad g3)), .int .i64 8] w25 (.v (.one .slc)) (fun (x31 : SlT) w32 => CallK Tryz.prog 63 #[.slice x31.1 x31.2.1 x31.2.2] w32 (.tup [.one (.int .i64), .one .bool]) (fun (x33 : Int × Bool × Unit) w34 => StK ((ad g9).add 6) (.int .i64 x33.1) w34 (fun w35 => next18 (IntKind.i64.wrap (s16.1 + 1), ()) w35))))
  (ifB (x20 == 84)
  (CallK Tryz.prog 62 #[.pointer (some (ad g3)), .int .i64 2] w25 (.v (.one .slc)) (fun (x36 : SlT) w37 => DrewK w37 (fun w38 => HoldK (fun S39 => IdxK x36.1 x36.2.1 0 1 (fun a40 => InK S39 a40 (LdK (.int .u8) a40 w38 (fun (x41 : Int) => IdxK x36.1 x36.2.1 1 1 (fun a42 => InK S39 a42 (LdK (.int .u8) a42 w38 (fun (x43 : Int) => AndK (KeepK S39 w38 w38 (KeepK S39 w38 w38 (CallK Tryz.prog 62 #[.pointer (some (ad g3)), .int .i64 (IntKind.i64.wrap ((IntKind.i64.wrap ((IntKind.i64.wrap x41) * 256)) + (IntKind.i64.wrap x43)))] w38 (.v (.one .slc)) (fun (x44 : SlT) w45 => KeepK S39 w38 w45 (RunK Tryz.prog (convert 38 9 (.slice x44.1 x44.2.1 x44.2.2)) w45 (.v (.one .str)) (fun (x46 : ByteArray) w47 => KeepK S39 w45 w47 (CallK Tryz.prog 64 #[.string x46, .bool false] w47 (.tup [.agg KZ3, .one (.int .i64), .one (.int .i64)]) (fun (x48 : YZ3 × Int × Int × Unit) w49 => StsK ((ad g9).add 7) [.int .i64 x48.1.1, .string x48.1.2.1, .int .i64 x48.1.2.2.1, .slice x48.1.2.2.2.1.1 x48.1.2.2.2.1.2.1 x48.1.2.2.2.1.2.2] w49 (fun w50 => next18 (IntKind.i64.wrap (s16.1 + 1), ()) w50)))))))))
  (KeepK S39 w38 w38 (KeepK S39 w38 w38 (CallK Tryz.prog 62 #[.pointer (some (ad g3)), .int .i64 (IntKind.i64.wrap ((IntKind.i64.wrap ((IntKind.i64.wrap x41) * 256)) + (IntKind.i64.wrap x43)))] w38 (.v (.one .slc)) (fun (x51 : SlT) w52 => KeepK S39 w38 w52 (RunK Tryz.prog (convert 38 9 (.slice x51.1 x51.2.1 x51.2.2)) w52 (.v (.one .str)) (fun (x53 : ByteArray) w54 => KeepK S39 w52 w54 (CallK Tryz.prog 64 #[.string x53, .bool false] w54 (.tup [.agg KZ3, .one (.int .i64), .one (.int .i64)]) (fun (x55 : YZ3 × Int × Int × Unit) w56 => StsK ((ad g9).add 7) [.int .i64 x55.1.1, .string x55.1.2.1, .int .i64 x55.1.2.2.1, .slice x55.1.2.2.2.1.1 x55.1.2.2.2.1.2.1 x55.1.2.2.2.1.2.2] w56 (fun w57 => next18 (IntKind.i64.wrap (s16.1 + 1), ()) w57)))))))))))))))))))
  (CallK Tryz.prog 62 #[.pointer (some (ad g3)), .int .i64 1] w25 (.v (.one .slc)) (fun (x58 : SlT) w59 => IdxK x58.1 x58.2.1 0 1 (fun a60 => LdK (.int .u8) a60 w59 (fun (x61 : Int) => CallK Tryz.prog 62 #[.pointer (some (ad g3)), .int .i64 (IntKind.i64.wrap x61)] w59 (.v (.one .slc)) (fun (x62 : SlT) w63 => RunK Tryz.prog (convert 38 9 (.slice x62.1 x62.2.1 x62.2.2)) w63 (.v (.one .str)) (fun (x64 : ByteArray) w65 => ifB (x20 == 73)
  (StK ((ad g9).add 1) (.string x64) w65 (fun w66 => next18 (IntKind.i64.wrap (s16.1 + 1), ()) w66))
  (ifB (x20 == 78)
  (StK ((ad g9).add 2) (.string x64) w65 (fun w67 => next18 (IntKind.i64.wrap (s16.1 + 1), ()) w67))
  (ifB (x20 == 76)
  (StK ((ad g9).add 3) (.string x64) w65 (fun w68 => next18 (IntKind.i64.wrap (s16.1 + 1), ()) w68))
  (StK ((ad g9).add 4) (.string x64) w65 (fun w69 => next18 (IntKind.i64.wrap (s16.1 + 1), ()) w69)))))))))))))))))))
  (LdsK KZ17 (ad g9) w17 (fun (x70 : YZ17) => CallK Tryz.prog 13 #[.agg (LZ17 x70).toArray] w17 (.tup [.one .slc, .one (.int .i64)]) (fun (x71 : SlT × Int × Unit) w72 => LdK .bool ((ad g3).add 1) w72 (fun (x73 : Bool) => ifB x73
  (StsK (ad g1) [.int .i64 0, .string (⟨#[]⟩ : ByteArray), .string (⟨#[]⟩ : ByteArray), .string (⟨#[]⟩ : ByteArray), .string (⟨#[]⟩ : ByteArray), .int .i64 0, .int .i64 0, .int .i64 0, .string (⟨#[]⟩ : ByteArray), .int .i64 0, .slice none 0 0] w72 (fun w74 => LdsK KZ17 (ad g1) w74 (fun (x75 : YZ17) => K (.tuple #[.agg (LZ17 x75).toArray, .int .i64 2]) w74)))
  (LdK .slc ((ad g3).add 0) w72 (fun (x76 : SlT) => ifB (decide ((x76.2.1 : Int) > 0))
  (StsK (ad g1) [.int .i64 0, .string (⟨#[]⟩ : ByteArray), .string (⟨#[]⟩ : ByteArray), .string (⟨#[]⟩ : ByteArray), .string (⟨#[]⟩ : ByteArray), .int .i64 0, .int .i64 0, .int .i64 0, .string (⟨#[]⟩ : ByteArray), .int .i64 0, .slice none 0 0] w72 (fun w77 => LdsK KZ17 (ad g1) w77 (fun (x78 : YZ17) => K (.tuple #[.agg (LZ17 x78).toArray, .int .i64 2]) w77)))
  (ifB (x71.2.1 != 0)
  (StsK (ad g1) [.int .i64 0, .string (⟨#[]⟩ : ByteArray), .string (⟨#[]⟩ : ByteArray), .string (⟨#[]⟩ : ByteArray), .string (⟨#[]⟩ : ByteArray), .int .i64 0, .int .i64 0, .int .i64 0, .string (⟨#[]⟩ : ByteArray), .int .i64 0, .slice none 0 0] w72 (fun w79 => LdsK KZ17 (ad g1) w79 (fun (x80 : YZ17) => K (.tuple #[.agg (LZ17 x80).toArray, .int .i64 2]) w79)))
  (RunK Tryz.prog (convert 38 9 (.slice x71.1.1 x71.1.2.1 x71.1.2.2)) w72 (.v (.one .str)) (fun (x81 : ByteArray) w82 => RunK Tryz.prog (convert 38 9 (.slice p0 p0l p0c)) w82 (.v (.one .str)) (fun (x83 : ByteArray) w84 => ifB (!(x81.toList == x83.toList))
  (StsK (ad g1) [.int .i64 0, .string (⟨#[]⟩ : ByteArray), .string (⟨#[]⟩ : ByteArray), .string (⟨#[]⟩ : ByteArray), .string (⟨#[]⟩ : ByteArray), .int .i64 0, .int .i64 0, .int .i64 0, .string (⟨#[]⟩ : ByteArray), .int .i64 0, .slice none 0 0] w84 (fun w85 => LdsK KZ17 (ad g1) w85 (fun (x86 : YZ17) => K (.tuple #[.agg (LZ17 x86).toArray, .int .i64 2]) w85)))
  (LdsK KZ17 (ad g9) w84 (fun (x87 : YZ17) => StsK (ad g1) (LZ17 x87) w84 (fun w88 => LdsK KZ17 (ad g1) w88 (fun (x89 : YZ17) => K (.tuple #[.agg (LZ17 x89).toArray, .int .i64 0]) w88)))))))))))))))
  (0, ()) w15)))))))))
def pl25 : Plan := (.seq .auto (.seq .auto (.seq .auto (.seq (.seq .auto (.block (.loop [(25, .one (.int .i64))] (.seq .auto (.seq .auto (.seq (.block (.seq .auto (.seq .auto (.seq .auto (.block (.seq .auto (.cond .auto (.seq .auto (.cond .auto (.seq .auto (.cond (.seq .auto (.seq (.held (.soft 0 (.soft 1 (.soft 2 (.soft 3 (.soft 6 (.soft 7 (.soft 8 (.pick 4 (.soft 5 (.pick 9 (.soft 10 (.pick 11 (.pick 12 (.soft 13 .done) .stop) .stop)) .stop)) (.pick 9 (.pick 4 (.soft 5 (.soft 10 (.pick 11 (.pick 12 (.soft 13 .done) .stop) .stop))) .stop) .stop)))))))))) .auto)) .auto))))))))))) .auto)))))) .auto))))
theorem e25 (p0 : Option Addr) (p0l p0c : Nat) (w : World) (K : Value → World → Prop) : vcFunc Tryz.prog Tryz.f25 pl25 [.slice p0 p0l p0c] w K = C25 p0 p0l p0c w K := by kernel_rfl
theorem c25 (p0 : Option Addr) (p0l p0c : Nat) (w : World) (K : Value → World → Prop) (h : C25 p0 p0l p0c w K) : Ret Tryz.prog 25 #[.slice p0 p0l p0c] w K := by
  rw [← e25] at h
  exact vcFunc_sound (by kernel_rfl) Tryz.func25 h

/-- handfast/handfastref11.TakeEntry -/
def C27 (p0 : Option Addr) (p0l p0c : Nat) (w : World) (K : Value → World → Prop) : Prop :=
  NewK (.cells #[.int .i64 0, .string (⟨#[]⟩ : ByteArray), .string (⟨#[]⟩ : ByteArray), .string (⟨#[]⟩ : ByteArray), .string (⟨#[]⟩ : ByteArray), .int .i64 0, .int .i64 0, .int .i64 0, .string (⟨#[]⟩ : ByteArray), .int .i64 0, .slice none 0 0, .bool false] 48) w (fun g1 w2 => ifB (decide ((p0l : Int) < 1))
  (StsK (ad g1) [.int .i64 0, .string (⟨#[]⟩ : ByteArray), .string (⟨#[]⟩ : ByteArray), .string (⟨#[]⟩ : ByteArray), .string (⟨#[]⟩ : ByteArray), .int .i64 0, .int .i64 0, .int .i64 0, .string (⟨#[]⟩ : ByteArray), .int .i64 0, .slice none 0 0, .bool false] w2 (fun w3 => LdsK KZ19 (ad g1) w3 (fun (x4 : YZ19) => K (.tuple #[.agg (LZ19 x4).toArray, .int .i64 2]) w3)))
  (IdxK p0 p0l 0 1 (fun a5 => LdK (.int .u8) a5 w2 (fun (x6 : Int) => ifB (decide (x6 > 1))
  (StsK (ad g1) [.int .i64 0, .string (⟨#[]⟩ : ByteArray), .string (⟨#[]⟩ : ByteArray), .string (⟨#[]⟩ : ByteArray), .string (⟨#[]⟩ : ByteArray), .int .i64 0, .int .i64 0, .int .i64 0, .string (⟨#[]⟩ : ByteArray), .int .i64 0, .slice none 0 0, .bool false] w2 (fun w7 => LdsK KZ19 (ad g1) w7 (fun (x8 : YZ19) => K (.tuple #[.agg (LZ19 x8).toArray, .int .i64 2]) w7)))
  (SubK p0 p0c 1 p0l p0c 1 (fun a9 l10 c11 => CallK Tryz.prog 25 #[.slice a9 l10 c11] w2 (.tup [.agg KZ17, .one (.int .i64)]) (fun (x12 : YZ17 × Int × Unit) w13 => NewK (.cells #[.int .i64 0, .string (⟨#[]⟩ : ByteArray), .string (⟨#[]⟩ : ByteArray), .string (⟨#[]⟩ : ByteArray), .string (⟨#[]⟩ : ByteArray), .int .i64 0, .int .i64 0, .int .i64 0, .string (⟨#[]⟩ : ByteArray), .int .i64 0, .slice none 0 0] 35) w13 (fun g14 w15 => StsK (ad g14) [.int .i64 x12.1.1, .string x12.1.2.1, .string x12.1.2.2.1, .string x12.1.2.2.2.1, .string x12.1.2.2.2.2.1, .int .i64 x12.1.2.2.2.2.2.1, .int .i64 x12.1.2.2.2.2.2.2.1, .int .i64 x12.1.2.2.2.2.2.2.2.1, .string x12.1.2.2.2.2.2.2.2.2.1, .int .i64 x12.1.2.2.2.2.2.2.2.2.2.1, .slice x12.1.2.2.2.2.2.2.2.2.2.2.1.1 x12.1.2.2.2.2.2.2.2.2.2.2.1.2.1 x12.1.2.2.2.2.2.2.2.2.2.2.1.2.2] w15 (fun w16 => ifB (x12.2.1 != 0)
  (StsK (ad g1) [.int .i64 0, .string (⟨#[]⟩ : ByteArray), .string (⟨#[]⟩ : ByteArray), .string (⟨#[]⟩ : ByteArray), .string (⟨#[]⟩ : ByteArray), .int .i64 0, .int .i64 0, .int .i64 0, .string (⟨#[]⟩ : ByteArray), .int .i64 0, .slice none 0 0, .bool false] w16 (fun w17 => LdsK KZ19 (ad g1) w17 (fun (x18 : YZ19) => K (.tuple #[.agg (LZ19 x18).toArray, .int .i64 x12.2.1]) w17)))
  (DrewK w16 (fun w19 => LdsK KZ17 (ad g14) w19 (fun (x20 : YZ17) => IdxK p0 p0l 0 1 (fun a21 => LdK (.int .u8) a21 w19 (fun (x22 : Int) => StsK (ad g1) [.int .i64 x20.1, .string x20.2.1, .string x20.2.2.1, .string x20.2.2.2.1, .string x20.2.2.2.2.1, .int .i64 x20.2.2.2.2.2.1, .int .i64 x20.2.2.2.2.2.2.1, .int .i64 x20.2.2.2.2.2.2.2.1, .string x20.2.2.2.2.2.2.2.2.1, .int .i64 x20.2.2.2.2.2.2.2.2.2.1, .slice x20.2.2.2.2.2.2.2.2.2.2.1.1 x20.2.2.2.2.2.2.2.2.2.2.1.2.1 x20.2.2.2.2.2.2.2.2.2.2.1.2.2, .bool (x22 == 1)] w19 (fun w23 => LdsK KZ19 (ad g1) w23 (fun (x24 : YZ19) => K (.tuple #[.agg (LZ19 x24).toArray, .int .i64 0]) w23))))))))))))))))
def pl27 : Plan := (.seq .auto (.seq .auto (.seq .auto (.seq .auto (.seq (.tail 6) .auto)))))
theorem e27 (p0 : Option Addr) (p0l p0c : Nat) (w : World) (K : Value → World → Prop) : vcFunc Tryz.prog Tryz.f27 pl27 [.slice p0 p0l p0c] w K = C27 p0 p0l p0c w K := by kernel_rfl
theorem c27 (p0 : Option Addr) (p0l p0c : Nat) (w : World) (K : Value → World → Prop) (h : C27 p0 p0l p0c w K) : Ret Tryz.prog 27 #[.slice p0 p0l p0c] w K := by
  rw [← e27] at h
  exact vcFunc_sound (by kernel_rfl) Tryz.func27 h

/-- handfast/handfastref11.Same -/
def C29 (p0 : YZ17) (p1 : YZ17) (w : World) (K : Value → World → Prop) : Prop :=
  NewK (.cells ((LZ17 p0).toArray) 35) w (fun g1 w2 => NewK (.cells ((LZ17 p1).toArray) 35) w2 (fun g3 w4 => LdK (.int .i64) ((ad g1).add 0) w4 (fun (x5 : Int) => LdK (.int .i64) ((ad g3).add 0) w4 (fun (x6 : Int) => ifB (x5 == x6)
  (LdK .str ((ad g1).add 1) w4 (fun (x7 : ByteArray) => LdK .str ((ad g3).add 1) w4 (fun (x8 : ByteArray) => ifB (x7.toList == x8.toList)
  (LdK .str ((ad g1).add 2) w4 (fun (x9 : ByteArray) => LdK .str ((ad g3).add 2) w4 (fun (x10 : ByteArray) => ifB (x9.toList == x10.toList)
  (LdK .str ((ad g1).add 3) w4 (fun (x11 : ByteArray) => LdK .str ((ad g3).add 3) w4 (fun (x12 : ByteArray) => ifB (x11.toList == x12.toList)
  (LdK .str ((ad g1).add 4) w4 (fun (x13 : ByteArray) => LdK .str ((ad g3).add 4) w4 (fun (x14 : ByteArray) => ifB (x13.toList == x14.toList)
  (LdK (.int .i64) ((ad g1).add 5) w4 (fun (x15 : Int) => LdK (.int .i64) ((ad g3).add 5) w4 (fun (x16 : Int) => ifB (x15 == x16)
  (LdK (.int .i64) ((ad g1).add 6) w4 (fun (x17 : Int) => LdK (.int .i64) ((ad g3).add 6) w4 (fun (x18 : Int) => ifB (x17 == x18)
  (LdK (.int .i64) (((ad g1).add 7).add 0) w4 (fun (x19 : Int) => ifB (x19 == 0)
  (LdK (.int .i64) (((ad g3).add 7).add 0) w4 (fun (x20 : Int) => ifB (x20 == 0)
  (K (.bool true) w4)
  (LdsK KZ3 ((ad g1).add 7) w4 (fun (x21 : YZ3) => LdsK KZ3 ((ad g3).add 7) w4 (fun (x22 : YZ3) => CallK Tryz.prog 65 #[.agg (LZ3 x21).toArray, .agg (LZ3 x22).toArray] w4 (.v (.one .bool)) (fun (x23 : Bool) w24 => K (.bool x23) w24))))))
  (LdsK KZ3 ((ad g1).add 7) w4 (fun (x25 : YZ3) => LdsK KZ3 ((ad g3).add 7) w4 (fun (x26 : YZ3) => CallK Tryz.prog 65 #[.agg (LZ3 x25).toArray, .agg (LZ3 x26).toArray] w4 (.v (.one .bool)) (fun (x27 : Bool) w28 => K (.bool x27) w28))))))
  (K (.bool false) w4))))
  (K (.bool false) w4))))
  (K (.bool false) w4))))
  (K (.bool false) w4))))
  (K (.bool false) w4))))
  (K (.bool false) w4))))
  (K (.bool false) w4)))))
def pl29 : Plan := .auto
theorem e29 (p0 : YZ17) (p1 : YZ17) (w : World) (K : Value → World → Prop) : vcFunc Tryz.prog Tryz.f29 pl29 [.agg (LZ17 p0).toArray, .agg (LZ17 p1).toArray] w K = C29 p0 p1 w K := by kernel_rfl
theorem c29 (p0 : YZ17) (p1 : YZ17) (w : World) (K : Value → World → Prop) (h : C29 p0 p1 w K) : Ret Tryz.prog 29 #[.agg (LZ17 p0).toArray, .agg (LZ17 p1).toArray] w K := by
  rw [← e29] at h
  exact vcFunc_sound (by kernel_rfl) Tryz.func29 h

end Go.Proofs.YtbadiokobooliaaGreatDoor

/-! ### TakeSpec2 -/
set_option linter.unusedVariables false
set_option maxRecDepth 100000
namespace Go.Proofs.YtbadiokobooliaaGreatDoor
open Vc

/-- An entry of bytes, or that they are none. -/
def takeE (z : Bool) (bs : List UInt8) : (EvM × Bool) × Int :=
  if bs = [] ∨ 1 < bs.getD 0 0 then ((zeroM, false), 2) else if (takeP z (bs.drop 1)).2 ≠ 0 then ((zeroM, false), (takeP z (bs.drop 1)).2) else (((takeP z (bs.drop 1)).1, bs.getD 0 0 == 1), 0)
theorem takeE_same (bs : List UInt8) : takeE true bs = takeE false bs := by unfold takeE; rw [tkp_same]

abbrev ENK : List Ck := [.int .i64, .str, .str, .str, .str, .int .i64, .int .i64, .raw, .bool]
def enL (e : EvT) (r : Bool) : List Value := [.int .i64 e.1, .string e.2.1, .string e.2.2.1, .string e.2.2.2.1, .string e.2.2.2.2.1, .int .i64 e.2.2.2.2.2.1, .int .i64 e.2.2.2.2.2.2.1, e.2.2.2.2.2.2.2.1, .bool r]
theorem enL_one {e : EvT} (r : Bool) (h : one1 e.2.2.2.2.2.2.2.1 = true) : (enL e r).all one1 = true := by
  show (one1 (.int .i64 _) && (one1 (.string _) && (one1 (.string _) && (one1 (.string _) && (one1 (.string _) && (one1 (.int .i64 _) && (one1 (.int .i64 _) && (one1 e.2.2.2.2.2.2.2.1 && (one1 (.bool r) && true))))))))) = true
  rw [h]; rfl

theorem tentry_spec {w : World} {v : Sl} {bs : List UInt8} (h : RdB w v bs) (hc : v.2.1 ≤ v.2.2) (ht : TabW w) : Ret Tryz.prog 26 #[.slice v.1 v.2.1 v.2.2] w fun r w' =>
    r = .tuple #[enA (takeE false bs).1.1.e (takeE false bs).1.2, .int .i64 (takeE false bs).2] ∧ Fr none1 w w' := by
  refine c26 v.1 v.2.1 v.2.2 w _ ?_
  unfold C26
  have hl := h.len
  refine NewK.of fun g1 w1 hg1 hb1 f1 hs1 => ?_
  have hb1 : w1.heap[g1]? = some (.cells (enL zeroM.e false).toArray 45 (0, 0)) := hb1
  have fail : ∀ (code : Int) (q : takeE false bs = ((zeroM, false), code)) (w2 : World), w2.heap[g1]? = some (.cells (enL zeroM.e false).toArray 45 (0, 0)) → Fr none1 w w2 → StsK ⟨g1, 0, none⟩ (enL zeroM.e false) w2 (fun w3 => LdsK ENK ⟨g1, 0, none⟩ w3 (fun (y : EnT) => (Value.tuple #[.agg #[.int .i64 y.1, .string y.2.1, .string y.2.2.1, .string y.2.2.2.1, .string y.2.2.2.2.1, .int .i64 y.2.2.2.2.2.1, .int .i64 y.2.2.2.2.2.2.1, y.2.2.2.2.2.2.2.1, .bool y.2.2.2.2.2.2.2.2.1], .int .i64 code]) = .tuple #[enA (takeE false bs).1.1.e (takeE false bs).1.2, .int .i64 (takeE false bs).2] ∧ Fr none1 w w3)) := fun code q w2 hb f2 => by
    rw [q]
    refine StsK.blk (cs := enL zeroM.e false) (vs := enL zeroM.e false) hb rfl rfl fun w3 hb3 f3 _ => LdsK.blk (cks := ENK) (x := enOf zeroM.e false) hb3 ?_
    exact ⟨rfl, f2.fresh f3 (by omega)⟩
  refine ifB.eq (fun e => ?_) (fun e => ?_)
  · have : bs = [] := List.eq_nil_of_length_eq_zero (by omega)
    exact fail 2 (by unfold takeE; rw [if_pos (.inl this)]) w1 hb1 f1
  have hne : bs ≠ [] := fun t => by subst t; exact e (by rw [hl]; rfl)
  have hlp : 0 < bs.length := by cases bs with
    | nil => exact (hne rfl).elim
    | cons _ _ => simp
  refine RdB.at (h.keep0 f1) (Int.le_refl _) (by omega) ?_
  rw [show Int.toNat 0 = 0 by rfl]
  refine ifB.dec (fun hgt => ?_) (fun hle => ?_)
  · exact fail 2 (by unfold takeE; rw [if_pos (.inr (by rw [UInt8.lt_iff_toNat_lt]; show 1 < _; omega))]) w1 hb1 f1
  have hle' : ¬ 1 < bs.getD 0 0 := fun t => hle (by rw [UInt8.lt_iff_toNat_lt] at t; have : (1 : UInt8).toNat = 1 := rfl; omega)
  have hE : takeE false bs = if (takeP false (bs.drop 1)).2 ≠ 0 then ((zeroM, false), (takeP false (bs.drop 1)).2) else (((takeP false (bs.drop 1)).1, bs.getD 0 0 == 1), 0) := by
    unfold takeE; rw [if_neg (fun t => t.elim hne hle')]
  refine RdB.mid (h.keep0 f1) (by omega) (by omega) (Int.le_refl _) hc fun u hu huc hul hub => ?_
  have e2 : (bs.drop (1 : Int).toNat).take ((v.2.1 : Int) - 1).toNat = bs.drop 1 := by
    rw [show (1 : Int).toNat = 1 by rfl]
    exact List.take_of_length_le (by rw [List.length_drop]; omega)
  rw [e2] at hu
  refine CallK.of (take_spec hu huc (ht.keep0 f1)) ?_
  rintro _ w2 ⟨rfl, f2⟩
  refine ⟨((takeP false (bs.drop 1)).1.e, (takeP false (bs.drop 1)).2, ()), rfl, ?_⟩
  generalize takeP false (bs.drop 1) = P at *
  have f12 := f1.trans f2
  refine ns_ok (zs := evL zeroM.e) (vs := evL P.1.e) rfl (evL_one (Tm.v_one _)) fun g4 w4 hg4 hb4 f4 => ?_
  have s2 := f2.size
  have hb14 := f4.keep0 (f2.keep0 hb1)
  have f14 := f12.trans f4
  refine ifB.ne (fun hc => ?_) (fun hc => ?_)
  · exact fail P.2 (by rw [hE, if_pos hc]) w4 hb14 f14
  refine DrewK.of fun w5 _ f5 => ?_
  refine LdsK.blk (cks := EK) (x := P.1.e) (f5.keep0 hb4) ?_
  refine RdB.at ((h.keep0 f14).keep0 f5) (Int.le_refl _) (by omega) ?_
  rw [show Int.toNat 0 = 0 by rfl]
  have hbit : (((bs.getD 0 0).toNat : Int) == 1) = (bs.getD 0 0 == 1) := by
    rw [Bool.eq_iff_iff]
    simp only [beq_iff_eq]
    exact ⟨fun t => UInt8.toNat_inj.1 (by have : (1 : UInt8).toNat = 1 := rfl; omega), fun t => by rw [t]; rfl⟩
  rw [hbit]
  refine StsK.blk (cs := enL zeroM.e false) (vs := enL P.1.e (bs.getD 0 0 == 1)) (f5.keep0 hb14) rfl (enL_one _ (Tm.v_one _)) fun w6 hb6 f6 _ => LdsK.blk (cks := ENK) (x := enOf P.1.e (bs.getD 0 0 == 1)) hb6 ?_
  rw [hE, if_neg (fun t => t hc)]
  exact ⟨rfl, (f14.trans f5).fresh f6 (by omega)⟩

/-! ### The trees that are read are small -/
def fitT (t : Tm) : Prop := nodesT t ≤ 60 ∧ shortT t
theorem short_formO (o : Ob) (h : formO o = true) : shortO o := by
  induction o with
  | none => trivial
  | const n => trivial
  | fix s => have := nameL_len h; show s.length ≤ 1000; omega
  | add l r hl hr => unfold formO at h; rw [Bool.and_eq_true] at h; exact ⟨hl h.1, hr h.2⟩
  | mul l r hl hr => unfold formO at h; rw [Bool.and_eq_true] at h; exact ⟨hl h.1, hr h.2⟩
  | max l r hl hr => unfold formO at h; rw [Bool.and_eq_true] at h; exact ⟨hl h.1, hr h.2⟩
  | neg o ho => unfold formO at h; exact ho h
theorem short_formT (t : Tm) (h : formT t = true) : shortT t := by
  induction t with
  | none => trivial
  | zero => trivial
  | one s => have := nameL_len h; show s.length ≤ 1000; omega
  | give t ht => exact ht h
  | and l r hl hr => unfold formT at h; rw [Bool.and_eq_true] at h; exact ⟨hl h.1, hr h.2⟩
  | or s l r hl hr => unfold formT at h; rw [Bool.and_eq_true, Bool.and_eq_true] at h; have := nameL_len h.1; exact ⟨by omega, hl h.2.1, hr h.2.2⟩
  | scale o t ht => unfold formT at h; rw [Bool.and_eq_true] at h; exact ⟨short_formO o h.1, ht h.2⟩
  | when d t ht => unfold formT at h; rw [Bool.and_eq_true] at h; exact ht h.2
  | cond o l r hl hr => unfold formT at h; rw [Bool.and_eq_true, Bool.and_eq_true] at h; exact ⟨short_formO o h.1, hl h.2.1, hr h.2.2⟩
theorem fit_check {t : Tm} (h : checkT t = 0) : formT t = true ∧ nodesT t ≤ 60 := by
  unfold checkT at h
  repeat' split at h
  all_goals first | (exact absurd h (by decide)) | skip
  rename_i h1 h2 h3 _
  exact ⟨by simpa using h1, by omega⟩
theorem fit_none : fitT .none := ⟨by decide, trivial⟩
theorem read_fit (bs : List UInt8) : fitT (readT bs).1 := by
  unfold readT
  split
  · exact fit_none
  split
  · exact fit_none
  · rename_i h
    obtain ⟨a, b⟩ := fit_check (Classical.not_not.1 h)
    exact ⟨b, short_formT _ a⟩
theorem step_fit (z : Bool) (x : TkS × EvM) (c : UInt8) (h : fitT x.2.t) : fitT (evStep z x c).2.t := by
  unfold evStep
  repeat' split
  all_goals first | exact h | exact read_fit _
theorem fold_fit (z : Bool) : ∀ (l : List UInt8) (x : TkS × EvM), fitT x.2.t → fitT (l.foldl (evStep z) x).2.t
  | [], x, h => h
  | c :: l, x, h => fold_fit z l _ (step_fit z x c h)
theorem takeM_fit (z : Bool) (bs : List UInt8) : fitT (takeM z bs).2.t := fold_fit z _ _ fit_none
theorem step_kind (z : Bool) (x : TkS × EvM) (c : UInt8) : (evStep z x c).2.1 = x.2.1 := by
  unfold evStep
  repeat' split
  all_goals rfl
theorem fold_kind (z : Bool) : ∀ (l : List UInt8) (x : TkS × EvM), (l.foldl (evStep z) x).2.1 = x.2.1
  | [], x => rfl
  | c :: l, x => (fold_kind z l _).trans (step_kind z x c)

/-! ### The document's taker -/
theorem tk_len (n : Nat) (s : TkS) : (tkF true n s).1.length = n := by
  unfold tkF; split
  · simp
  · rename_i h; dsimp only; rw [List.length_take]; have : n ≤ s.1.length := Nat.le_of_not_lt fun t => h (.inr t); omega

theorem tr_take {w : World} {g n0 : Nat} {s : TkS} (h : IsTk 124 w g n0 s) (hg : n0 ≤ g) (n : Nat) (hn : n ≤ 100000) : Ret Tryz.prog 62 #[.pointer (some ⟨g, 0, none⟩), .int .i64 (n : Int)] w fun r w' =>
    ∃ v : Sl, r = .slice v.1 v.2.1 v.2.2 ∧ RdB w' v (tkF true n s).1 ∧ ((tkF true n s).1 ≠ [] → ∀ k, blkOf v k → k < n0 ∨ w.heap.size ≤ k) ∧ IsTk 124 w' g n0 (tkF true n s).2 ∧ Fr (only g) w w' := by
  obtain ⟨u, hb, hu, hc, hlt⟩ := h
  have hul := hu.len
  refine c62 _ _ w _ ?_
  unfold C62
  have bad : s.2 = true ∨ s.1.length < n → ∀ w1, w1.heap[g]? = some (.cells #[.slice u.1 u.2.1 u.2.2, .bool true] 124 (0, 0)) → Fr (only g) w w1 → w1.heap.size = w.heap.size →
      RunK Tryz.prog (Instr.makeSlice 38 (.int .i64 (n : Int)) (.int .i64 (n : Int))) w1 (.v (.one .slc)) (fun (x : Option Addr × Nat × Nat) w2 => ∃ v : Sl, (Value.slice x.1 x.2.1 x.2.2) = .slice v.1 v.2.1 v.2.2 ∧ RdB w2 v (tkF true n s).1 ∧ ((tkF true n s).1 ≠ [] → ∀ k, blkOf v k → k < n0 ∨ w.heap.size ≤ k) ∧ IsTk 124 w2 g n0 (tkF true n s).2 ∧ Fr (only g) w w2) := fun hbad w1 hb1 f1 hs1 => by
    rw [tk_bad hbad]
    obtain ⟨w2, hr2, hx2, f2⟩ := make_full (w := w1) (n := (n : Int)) (m := (n : Int)) (by omega) (by omega) (by omega)
    rw [Int.toNat_natCast] at hr2 hx2
    refine ⟨(some ⟨w1.heap.size, 0, none⟩, n, n), w2, hr2, (some ⟨w1.heap.size, 0, none⟩, n, n), rfl, hx2.rd, fun _ k ⟨a, ha, e⟩ => ?_, ⟨u, f2.keep0 hb1, (hu.keepE f1 fun hn k hk t => by have := hlt hn k hk; have : k = g := t; omega).keep0 f2, hc, hlt⟩, f1.then0 f2⟩
    injection ha with ha
    subst ha
    right
    dsimp only at e
    omega
  refine LdK.fld hb (x := s.2) rfl ?_
  refine ifB.by (fun e => ?_) (fun e => ?_)
  · exact StK.fld hb (by show 0 + 1 < 2; omega) rfl fun w1 hb1 f1 hs => bad (.inl e) w1 hb1 f1 hs
  refine LdK.fld hb (x := u) rfl ?_
  refine ifB.dec (fun hgt => ?_) (fun hle => ?_)
  · exact StK.fld hb (by show 0 + 1 < 2; omega) rfl fun w1 hb1 f1 hs => bad (.inr (by omega)) w1 hb1 f1 hs
  refine LdK.fld hb (x := u) rfl ?_
  refine RdB.sub hu (by omega) (by omega) hc fun ha => ?_
  refine LdK.fld hb (x := u) rfl ?_
  refine RdB.mid hu (by omega) (by omega) (Int.le_refl _) hc fun v hv hvc hvl hvb => ?_
  refine StK.fld hb (by show 0 + 0 < 2; omega) rfl fun w1 hb1 f1 _ => ?_
  rw [Int.toNat_natCast] at ha hv ⊢
  have e2 : (s.1.drop n).take ((u.2.1 : Int) - (n : Int)).toNat = s.1.drop n := List.take_of_length_le (by rw [List.length_drop]; omega)
  rw [e2] at hv
  rw [tk_good e (by omega)]
  have ne1 : s.1.take n ≠ [] → s.1 ≠ [] := fun h t => h (by rw [t]; simp)
  have ne2 : s.1.drop n ≠ [] → s.1 ≠ [] := fun h t => h (by rw [t]; simp)
  refine ⟨(u.1, n, u.2.2), rfl, ha.keepE f1 fun hn k hk t => by have := hlt (ne1 hn) k hk; have : k = g := t; omega, (fun hn k hk => .inl (hlt (ne1 hn) k hk)), ⟨v, ?_, hv.keepE f1 fun hn k hk t => by have := hlt (ne2 hn) k (hvb k hk); have : k = g := t; omega, hvc, fun hn k hk => hlt (ne2 hn) k (hvb k hk)⟩, f1⟩
  rw [hb1, ← e]; rfl

theorem tnum11_spec {w : World} {v : Sl} {bs : List UInt8} (h : RdB w v bs) :
    Ret Tryz.prog 63 #[.slice v.1 v.2.1 v.2.2] w fun r w' => r = .tuple #[.int .i64 (takeL bs).1, .bool (takeL bs).2] ∧ w = w' := by
  refine c63 v.1 v.2.1 v.2.2 w _ ?_
  have hvl := h.len
  unfold takeL
  refine ifB.ne (fun hne => ?_) (fun heq => ?_)
  · rw [if_neg (by omega)]; exact ⟨rfl, rfl⟩
  rw [if_pos (by omega)]
  refine LoopK.of (fun s w' => ∃ i : Nat, s.2.1 = i ∧ i ≤ 8 ∧ s.1 = (big (bs.take i) : Int) ∧ w = w') (fun s _ => (8 - s.2.1).toNat) ⟨0, rfl, by omega, rfl, rfl⟩ ?_
  rintro _ ⟨m, i', _⟩ _ ⟨i, hi, hi8, hm, rfl⟩
  dsimp only at hi hm ⊢
  subst hi hm
  refine ifB.dec (fun hlt => ?_) (fun hge => ?_)
  · have hi7 : i < 8 := by omega
    refine ⟨by omega, ?_⟩
    refine RdB.at h (by omega) (by omega) ?_
    rw [Int.toNat_natCast, or_byte _ _ (big_take_lt bs i (by omega)), wI (by omega) (by omega)]
    refine ⟨⟨i + 1, by omega, by omega, ?_, rfl⟩, by omega⟩
    rw [big_take bs i (by omega)]
  · rw [List.take_of_length_le (by omega)]; exact ⟨rfl, rfl⟩

/-- What there is while the document takes an event. -/
structure TrS (w0 wc : World) (g1 g3 g9 : Nat) (x : TkS × EvM) : Prop where
  tk : IsTk 124 wc g3 w0.heap.size x.1
  ev : ∃ v : TV, wc.heap[g9]? = some (.cells (evRL (evR x.2.e v)).toArray 35 (0, 0)) ∧ IsTr wc (fun k => w0.heap.size ≤ k ∧ k < wc.heap.size ∧ k ≠ g1 ∧ k ≠ g3 ∧ k ≠ g9) (trT x.2.t) v
  b1 : ∃ y : EvR, wc.heap[g1]? = some (.cells (evRL y).toArray 35 (0, 0))
  fr : Fr none1 w0 wc
  lo : w0.heap.size ≤ g1 ∧ w0.heap.size ≤ g3 ∧ w0.heap.size ≤ g9 ∧ g1 ≠ g3 ∧ g1 ≠ g9 ∧ g3 ≠ g9

theorem TrS.take {w0 wc : World} {g1 g3 g9 : Nat} {x : TkS × EvM} (h : TrS w0 wc g1 g3 g9 x) (n : Nat) (hn : n ≤ 100000) {K : (Option Addr × Nat × Nat) → World → Prop}
    (k : ∀ (v : Sl) wd, RdB wd v (tkF true n x.1).1 → ((tkF true n x.1).1 ≠ [] → ∀ k, blkOf v k → k ≠ g3) → TrS w0 wd g1 g3 g9 ((tkF true n x.1).2, x.2) → Fr (only g3) wc wd → K v wd) :
    CallK Tryz.prog 62 #[.pointer (some ⟨g3, 0, none⟩), .int .i64 (n : Int)] wc (.v (.one .slc)) (fun (y : Option Addr × Nat × Nat) wd => K y wd) := by
  obtain ⟨l1, l2, l3, l4, l5, l6⟩ := h.lo
  obtain ⟨v, hv, hT⟩ := h.ev
  obtain ⟨y, hy⟩ := h.b1
  have hlt3 : g3 < wc.heap.size := by obtain ⟨u, hb, _⟩ := h.tk; exact lt_of_blk hb
  refine CallK.of (tr_take h.tk l2 n hn) ?_
  rintro _ wd ⟨u, rfl, hu, hub, tk, f⟩
  refine ⟨u, rfl, k u wd hu (fun hne j hj => by have := hub hne j hj; omega) ⟨tk, ⟨v, f.keep hv (fun t => l6 t.symm), ?_⟩, ⟨y, f.keep hy (fun t => l4 t)⟩, h.fr.fresh f l2, h.lo⟩ f⟩
  exact IsTr.mono (fun j hj => ⟨hj.1, Nat.lt_of_lt_of_le hj.2.1 f.size, hj.2.2⟩) _ _ (IsTr.keep f (fun j hj t => hj.2.2.2.1 t) _ _ hT)

/-- A write to the event. -/
theorem TrS.put {w0 wc wd : World} {g1 g3 g9 : Nat} {s : TkS} {m m' : EvM} (h : TrS w0 wc g1 g3 g9 (s, m)) (f : Fr (only g9) wc wd) {v : TV} (hb : wd.heap[g9]? = some (.cells (evRL (evR m'.e v)).toArray 35 (0, 0)))
    (hT : IsTr wc (fun k => w0.heap.size ≤ k ∧ k < wc.heap.size ∧ k ≠ g1 ∧ k ≠ g3 ∧ k ≠ g9) (trT m'.t) v) : TrS w0 wd g1 g3 g9 (s, m') := by
  obtain ⟨l1, l2, l3, l4, l5, l6⟩ := h.lo
  obtain ⟨y, hy⟩ := h.b1
  refine ⟨h.tk.keep f (fun t => l6 t) (fun k t => by have : k = g9 := t; omega), ⟨v, hb, ?_⟩, ⟨y, f.keep hy (fun t => l5 t)⟩, h.fr.fresh f l3, h.lo⟩
  exact IsTr.mono (fun j hj => ⟨hj.1, Nat.lt_of_lt_of_le hj.2.1 f.size, hj.2.2⟩) _ _ (IsTr.keep f (fun j hj t => hj.2.2.2.2 t) _ _ hT)

theorem TrS.keep0 {w0 wc wd : World} {g1 g3 g9 : Nat} {x : TkS × EvM} (h : TrS w0 wc g1 g3 g9 x) (f : Fr none1 wc wd) : TrS w0 wd g1 g3 g9 x := by
  obtain ⟨v, hv, hT⟩ := h.ev
  obtain ⟨y, hy⟩ := h.b1
  exact ⟨h.tk.keep0 f, ⟨v, f.keep0 hv, IsTr.mono (fun j hj => ⟨hj.1, Nat.lt_of_lt_of_le hj.2.1 f.size, hj.2.2⟩) _ _ (IsTr.keep0 hT f)⟩, ⟨y, f.keep0 hy⟩, h.fr.trans f, h.lo⟩

theorem TrS.num {w0 wc : World} {g1 g3 g9 : Nat} {x : TkS × EvM} (h : TrS w0 wc g1 g3 g9 x) (o : Nat) (c : UInt8) (hoc : (o = 5 ∧ c = 68) ∨ (o = 6 ∧ c = 86)) {K : World → Prop}
    (k : ∀ wd, TrS w0 wd g1 g3 g9 (evStep true x c) → Fr (fun k => k = g3 ∨ k = g9) wc wd → K wd) :
    CallK Tryz.prog 62 #[.pointer (some ⟨g3, 0, none⟩), .int .i64 8] wc (.v (.one .slc)) (fun (x26 : Option Addr × Nat × Nat) w27 => CallK Tryz.prog 63 #[.slice x26.1 x26.2.1 x26.2.2] w27 (.tup [.one (.int .i64), .one .bool]) (fun (x28 : Int × Bool × Unit) w29 => StK ((⟨g9, 0, none⟩ : Addr).add o) (.int .i64 x28.1) w29 (fun w30 => K w30))) := by
  refine h.take 8 (by decide) fun v wd hv hne h1 f1 => ?_
  refine CallK.of (tnum11_spec hv) ?_
  rintro _ _ ⟨rfl, rfl⟩
  refine ⟨((takeL (tkF true 8 x.1).1).1, (takeL (tkF true 8 x.1).1).2, ()), rfl, ?_⟩
  obtain ⟨t, hb, hT⟩ := h1.ev
  have e0 : nuF true x.1 = ((takeL (tkF true 8 x.1).1).1, (tkF true 8 x.1).2) := by unfold nuF; simp
  rcases hoc with ⟨rfl, rfl⟩ | ⟨rfl, rfl⟩
  · refine StK.fld hb (by show 0 + 5 < 11; omega) rfl fun w2 hb2 f2 _ => k w2 ?_ (both_of f1 f2)
    have : evStep true x 68 = ((tkF true 8 x.1).2, (x.2.1, x.2.2.1, x.2.2.2.1, x.2.2.2.2.1, x.2.2.2.2.2.1, (takeL (tkF true 8 x.1).1).1, x.2.2.2.2.2.2.2.1, x.2.2.2.2.2.2.2.2)) := by
      show ((nuF true x.1).2, _) = _; rw [e0]
    rw [this]
    exact h1.put f2 hb2 hT
  · refine StK.fld hb (by show 0 + 6 < 11; omega) rfl fun w2 hb2 f2 _ => k w2 ?_ (both_of f1 f2)
    have : evStep true x 86 = ((tkF true 8 x.1).2, (x.2.1, x.2.2.1, x.2.2.2.1, x.2.2.2.2.1, x.2.2.2.2.2.1, x.2.2.2.2.2.2.1, (takeL (tkF true 8 x.1).1).1, x.2.2.2.2.2.2.2.2)) := by
      show ((nuF true x.1).2, _) = _; rw [e0]
    rw [this]
    exact h1.put f2 hb2 hT

end Go.Proofs.YtbadiokobooliaaGreatDoor

/-! ### TakeSpec3 -/
set_option linter.unusedVariables false
set_option maxRecDepth 100000
namespace Go.Proofs.YtbadiokobooliaaGreatDoor
open Vc

namespace Vc
theorem IdxK.ink {base : Option Addr} {len : Nat} {i : Int} {size : Nat} {K : Addr → Prop} {S : Nat → Prop} (hS : ∀ a, base = some a → S a.block) (h : IdxK base len i size K) : IdxK base len i size fun p => InK S p (K p) := by
  obtain ⟨a, ha, h0, h1, k⟩ := h.out
  exact ⟨a, ha, h0, h1, ⟨by rw [add_block]; exact hS a ha, k⟩⟩
theorem KeepK.same {S : Nat → Prop} {w : World} {K : Prop} (k : K) : KeepK S w w K := KeepK.of (Fr.refl _ _) k
end Vc

theorem big_one {l : List UInt8} (h : l.length = 1) : big l = (l.getD 0 0).toNat := by
  match l, h with
  | [a], _ => rw [big1]; rfl
theorem big_two {l : List UInt8} (h : l.length = 2) : big l = (l.getD 0 0).toNat * 256 + (l.getD 1 0).toNat := by
  match l, h with
  | [a, b], _ => rw [big2]; rfl

theorem TrS.text {w0 wc : World} {g1 g3 g9 : Nat} {x : TkS × EvM} (h : TrS w0 wc g1 g3 g9 x) (c : UInt8) (hc : c = 73 ∨ c = 78 ∨ c = 76 ∨ c = 67) {K : World → Prop}
    (k : ∀ wd, TrS w0 wd g1 g3 g9 (evStep true x c) → Fr (fun k => k = g3 ∨ k = g9) wc wd → K wd) :
    CallK Tryz.prog 62 #[.pointer (some ⟨g3, 0, none⟩), .int .i64 1] wc (.v (.one .slc)) (fun (x58 : Option Addr × Nat × Nat) w59 => IdxK x58.1 x58.2.1 0 1 (fun a60 => LdK (.int .u8) a60 w59 (fun (x61 : Int) =>
      CallK Tryz.prog 62 #[.pointer (some ⟨g3, 0, none⟩), .int .i64 (IntKind.i64.wrap x61)] w59 (.v (.one .slc)) (fun (x62 : Option Addr × Nat × Nat) w63 => RunK Tryz.prog (convert 38 9 (.slice x62.1 x62.2.1 x62.2.2)) w63 (.v (.one .str)) (fun (x64 : ByteArray) w65 =>
        ifB ((c.toNat : Int) == 73) (StK ((⟨g9, 0, none⟩ : Addr).add 1) (.string x64) w65 (fun w66 => K w66))
        (ifB ((c.toNat : Int) == 78) (StK ((⟨g9, 0, none⟩ : Addr).add 2) (.string x64) w65 (fun w66 => K w66))
        (ifB ((c.toNat : Int) == 76) (StK ((⟨g9, 0, none⟩ : Addr).add 3) (.string x64) w65 (fun w66 => K w66))
        (StK ((⟨g9, 0, none⟩ : Addr).add 4) (.string x64) w65 (fun w66 => K w66))))))))) := by
  refine h.take 1 (by decide) fun v w1 hv hne h1 f1 => ?_
  have hl := tk_len 1 x.1
  refine RdB.at hv (Int.le_refl _) (by rw [hv.len, hl]; decide) ?_
  rw [show Int.toNat 0 = 0 by rfl, ← big_one hl]
  have hb : big (tkF true 1 x.1).1 ≤ 255 := by rw [big_one hl]; have := ((tkF true 1 x.1).1.getD 0 0).toNat_lt; omega
  rw [wI (by omega) (by omega)]
  refine h1.take _ (by omega) fun u w2 hu hne2 h2 f2 => ?_
  refine ⟨_, w2, txt_of hu, ?_⟩
  obtain ⟨t, hb2, hT⟩ := h2.ev
  have f12 : Fr (only g3) wc w2 := f1.trans f2
  have e1 : (tkF true (big (tkF true 1 x.1).1) (tkF true 1 x.1).2).1 = (txF true 1 x.1).1 := rfl
  have e2 : (tkF true (big (tkF true 1 x.1).1) (tkF true 1 x.1).2).2 = (txF true 1 x.1).2 := rfl
  dsimp only at hu h2
  rw [e1] at *
  rw [e2] at h2
  rcases hc with rfl | rfl | rfl | rfl
  · refine ifB.t (by decide) ?_
    exact StK.fld hb2 (by show 0 + 1 < 11; omega) rfl fun w3 hb3 f3 _ => k w3 (h2.put f3 (m' := (x.2.1, (txF true 1 x.1).1, x.2.2.2.1, x.2.2.2.2.1, x.2.2.2.2.2.1, x.2.2.2.2.2.2.1, x.2.2.2.2.2.2.2.1, x.2.2.2.2.2.2.2.2)) hb3 hT) (both_of f12 f3)
  · refine ifB.f (by decide) (ifB.t (by decide) ?_)
    exact StK.fld hb2 (by show 0 + 2 < 11; omega) rfl fun w3 hb3 f3 _ => k w3 (h2.put f3 (m' := (x.2.1, x.2.2.1, (txF true 1 x.1).1, x.2.2.2.2.1, x.2.2.2.2.2.1, x.2.2.2.2.2.2.1, x.2.2.2.2.2.2.2.1, x.2.2.2.2.2.2.2.2)) hb3 hT) (both_of f12 f3)
  · refine ifB.f (by decide) (ifB.f (by decide) (ifB.t (by decide) ?_))
    exact StK.fld hb2 (by show 0 + 3 < 11; omega) rfl fun w3 hb3 f3 _ => k w3 (h2.put f3 (m' := (x.2.1, x.2.2.1, x.2.2.2.1, (txF true 1 x.1).1, x.2.2.2.2.2.1, x.2.2.2.2.2.2.1, x.2.2.2.2.2.2.2.1, x.2.2.2.2.2.2.2.2)) hb3 hT) (both_of f12 f3)
  · refine ifB.f (by decide) (ifB.f (by decide) (ifB.f (by decide) ?_))
    exact StK.fld hb2 (by show 0 + 4 < 11; omega) rfl fun w3 hb3 f3 _ => k w3 (h2.put f3 (m' := (x.2.1, x.2.2.1, x.2.2.2.1, x.2.2.2.2.1, (txF true 1 x.1).1, x.2.2.2.2.2.2.1, x.2.2.2.2.2.2.2.1, x.2.2.2.2.2.2.2.2)) hb3 hT) (both_of f12 f3)

theorem TrS.term {w0 wc : World} {g1 g3 g9 : Nat} {x : TkS × EvM} (h : TrS w0 wc g1 g3 g9 x) {K : World → Prop}
    (k : ∀ wd, TrS w0 wd g1 g3 g9 (evStep true x 84) → Fr (fun k => k = g3 ∨ k = g9) wc wd → K wd) :
    CallK Tryz.prog 62 #[.pointer (some ⟨g3, 0, none⟩), .int .i64 2] wc (.v (.one .slc)) (fun (x36 : Option Addr × Nat × Nat) w37 => DrewK w37 (fun w38 => HoldK (fun S39 =>
      IdxK x36.1 x36.2.1 0 1 (fun a40 => InK S39 a40 (LdK (.int .u8) a40 w38 (fun (x41 : Int) => IdxK x36.1 x36.2.1 1 1 (fun a42 => InK S39 a42 (LdK (.int .u8) a42 w38 (fun (x43 : Int) => AndK
        (KeepK S39 w38 w38 (KeepK S39 w38 w38 (CallK Tryz.prog 62 #[.pointer (some ⟨g3, 0, none⟩), .int .i64 (IntKind.i64.wrap ((IntKind.i64.wrap ((IntKind.i64.wrap x41) * 256)) + (IntKind.i64.wrap x43)))] w38 (.v (.one .slc)) (fun (x44 : Option Addr × Nat × Nat) w45 => KeepK S39 w38 w45 (RunK Tryz.prog (convert 38 9 (.slice x44.1 x44.2.1 x44.2.2)) w45 (.v (.one .str)) (fun (x46 : ByteArray) w47 => KeepK S39 w45 w47 (CallK Tryz.prog 64 #[.string x46, .bool false] w47 (.tup [.agg TVK, .one (.int .i64), .one (.int .i64)]) (fun (x48 : (Int × ByteArray × Int × (Option Addr × Nat × Nat) × Unit) × Int × Int × Unit) w49 => StsK ((⟨g9, 0, none⟩ : Addr).add 7) (tvL x48.1) w49 (fun w50 => K w50)))))))))
        (KeepK S39 w38 w38 (KeepK S39 w38 w38 (CallK Tryz.prog 62 #[.pointer (some ⟨g3, 0, none⟩), .int .i64 (IntKind.i64.wrap ((IntKind.i64.wrap ((IntKind.i64.wrap x41) * 256)) + (IntKind.i64.wrap x43)))] w38 (.v (.one .slc)) (fun (x44 : Option Addr × Nat × Nat) w45 => KeepK S39 w38 w45 (RunK Tryz.prog (convert 38 9 (.slice x44.1 x44.2.1 x44.2.2)) w45 (.v (.one .str)) (fun (x46 : ByteArray) w47 => KeepK S39 w45 w47 (CallK Tryz.prog 64 #[.string x46, .bool false] w47 (.tup [.agg TVK, .one (.int .i64), .one (.int .i64)]) (fun (x48 : (Int × ByteArray × Int × (Option Addr × Nat × Nat) × Unit) × Int × Int × Unit) w49 => StsK ((⟨g9, 0, none⟩ : Addr).add 7) (tvL x48.1) w49 (fun w50 => K w50)))))))))))))))))) := by
  refine h.take 2 (by decide) fun v w1 hv hne h1 f1 => DrewK.of fun w2 _ f2 => HoldK.of (fun k => k ≠ g3) ?_
  have hl := tk_len 2 x.1
  have hv2 := hv.keep0 f2
  have hlen := hv.len
  have hn : (tkF true 2 x.1).1 ≠ [] := fun t => by rw [t] at hl; simp at hl
  have hS : ∀ a, v.1 = some a → (fun k => k ≠ g3) a.block := fun a ha => hne hn _ ⟨a, ha, rfl⟩
  refine IdxK.ink hS (RdB.at hv2 (Int.le_refl _) (by omega) ?_)
  refine IdxK.ink hS (RdB.at hv2 (by decide) (by omega) ?_)
  rw [show Int.toNat 0 = 0 by rfl, show Int.toNat 1 = 1 by rfl]
  have b0 := ((tkF true 2 x.1).1.getD 0 0).toNat_lt
  have b1 := ((tkF true 2 x.1).1.getD 1 0).toNat_lt
  have eb : IntKind.i64.wrap (IntKind.i64.wrap (IntKind.i64.wrap (((tkF true 2 x.1).1.getD 0 0).toNat : Int) * 256) + IntKind.i64.wrap (((tkF true 2 x.1).1.getD 1 0).toNat : Int)) = ((big (tkF true 2 x.1).1 : Nat) : Int) := by
    rw [big_two hl, wI (x := (((tkF true 2 x.1).1.getD 0 0).toNat : Int)) (by omega) (by omega), wI (x := (((tkF true 2 x.1).1.getD 1 0).toNat : Int)) (by omega) (by omega), wI (x := (((tkF true 2 x.1).1.getD 0 0).toNat : Int) * 256) (by omega) (by omega), wI (by omega) (by omega)]
    omega
  rw [eb]
  have hb : big (tkF true 2 x.1).1 ≤ 65535 := by rw [big_two hl]; omega
  have h2 := h1.keep0 f2
  have A : KeepK (fun k => k ≠ g3) w2 w2 (KeepK (fun k => k ≠ g3) w2 w2 (CallK Tryz.prog 62 #[.pointer (some ⟨g3, 0, none⟩), .int .i64 ((big (tkF true 2 x.1).1 : Nat) : Int)] w2 (.v (.one .slc)) (fun (x44 : Option Addr × Nat × Nat) w45 => KeepK (fun k => k ≠ g3) w2 w45 (RunK Tryz.prog (convert 38 9 (.slice x44.1 x44.2.1 x44.2.2)) w45 (.v (.one .str)) (fun (x46 : ByteArray) w47 => KeepK (fun k => k ≠ g3) w45 w47 (CallK Tryz.prog 64 #[.string x46, .bool false] w47 (.tup [.agg TVK, .one (.int .i64), .one (.int .i64)]) (fun (x48 : (Int × ByteArray × Int × (Option Addr × Nat × Nat) × Unit) × Int × Int × Unit) w49 => StsK ((⟨g9, 0, none⟩ : Addr).add 7) (tvL x48.1) w49 (fun w50 => K w50)))))))) := by
    refine KeepK.same (KeepK.same ?_)
    refine h2.take _ (by omega) fun u w3 hu _ h3 f3 => KeepK.on f3 (fun k hk t => hk t) ?_
    have e1 : (tkF true (big (tkF true 2 x.1).1) (tkF true 2 x.1).2).1 = (txF true 2 x.1).1 := rfl
    have e2 : (tkF true (big (tkF true 2 x.1).1) (tkF true 2 x.1).2).2 = (txF true 2 x.1).2 := rfl
    dsimp only at hu h3
    rw [e1] at hu
    rw [e2] at h3
    refine ⟨_, w3, txt_of hu, KeepK.same ?_⟩
    have htl := tx_len true 2 (by decide) x.1
    refine CallK.of (rread_spec (txF true 2 x.1).1 (by omega) false w3) ?_
    rintro _ w4 ⟨t, rfl, mt, f4⟩
    refine ⟨(t, (readR (txF true 2 x.1).1 false).2.1, (readR (txF true 2 x.1).1 false).2.2, ()), rfl, ?_⟩
    rw [readR_T] at mt
    have h4 := h3.keep0 f4
    obtain ⟨l1, l2, l3, l4, l5, l6⟩ := h4.lo
    obtain ⟨t0, hb4, hT⟩ := h4.ev
    obtain ⟨a1, a2, a3, a4⟩ := setCells_all (T := 35) (b := g9) (tvL t) w4 [.int .i64 x.2.1, .string (str x.2.2.1), .string (str x.2.2.2.1), .string (str x.2.2.2.2.1), .string (str x.2.2.2.2.2.1), .int .i64 x.2.2.2.2.2.2.1, .int .i64 x.2.2.2.2.2.2.2.1] (tvL t0) hb4 rfl rfl
    refine ⟨writes_shift _ _ 0 a1, ?_⟩
    rw [setCells_shift]
    have hs3 := f3.size
    have g1lt : g1 < w3.heap.size := by obtain ⟨y, hy⟩ := h3.b1; exact lt_of_blk hy
    have g3lt : g3 < w3.heap.size := by obtain ⟨u, hb, _⟩ := h3.tk; exact lt_of_blk hb
    have g9lt : g9 < w3.heap.size := by obtain ⟨t, hb, _⟩ := h3.ev; exact lt_of_blk hb
    have hw03 : w0.heap.size ≤ w3.heap.size := h3.fr.size
    have hT' : IsTr w4 (fun k => w0.heap.size ≤ k ∧ k < w4.heap.size ∧ k ≠ g1 ∧ k ≠ g3 ∧ k ≠ g9) (trT (readT (txF true 2 x.1).1).1) t :=
      IsTr.mono (fun j hj => ⟨by have := hj.1; omega, hj.2, by have := hj.1; omega, by have := hj.1; omega, by have := hj.1; omega⟩) _ _ mt
    have es : evStep true x 84 = ((txF true 2 x.1).2, (x.2.1, x.2.2.1, x.2.2.2.1, x.2.2.2.2.1, x.2.2.2.2.2.1, x.2.2.2.2.2.2.1, x.2.2.2.2.2.2.2.1, (readT (txF true 2 x.1).1).1)) := by
      show ((teF true x.1).2, _) = _
      have : teF true x.1 = ((readT (txF true 2 x.1).1).1, (txF true 2 x.1).2) := by unfold teF; simp
      rw [this]
    refine k _ ?_ (both_of (((f1.then0 f2).trans f3).then0 f4) a3)
    rw [es]
    exact h4.put a3 (m' := (x.2.1, x.2.2.1, x.2.2.2.1, x.2.2.2.2.1, x.2.2.2.2.2.1, x.2.2.2.2.2.2.1, x.2.2.2.2.2.2.2.1, (readT (txF true 2 x.1).1).1)) (v := t) a2 hT'
  exact ⟨A, A⟩

theorem zero_tree (w w' : World) : Made w w' (trT .none) (0, str [], 0, (none, 0, 0), ()) := leaf_made w w' 0 [] 0

theorem take11_spec {w : World} {v : Sl} {bs : List UInt8} (h : RdB w v bs) (hc : v.2.1 ≤ v.2.2) : Ret Tryz.prog 25 #[.slice v.1 v.2.1 v.2.2] w fun r w' =>
    ∃ t : TV, r = .tuple #[evRA (evR (takeP true bs).1.e t), .int .i64 (takeP true bs).2] ∧ Made w w' (trT (takeP true bs).1.t) t ∧ Fr none1 w w' := by
  refine c25 v.1 v.2.1 v.2.2 w _ ?_
  unfold C25
  have z0 : ∀ m : EvM, m = zeroM → evRL (evR m.e (0, str [], 0, (none, 0, 0), ())) = evRL (evR zeroM.e (0, str [], 0, (none, 0, 0), ())) := fun m e => by rw [e]
  refine NewK.of fun g1 w1 hg1 hb1 f1 hs1 => NewK.of fun g3 w2 hg3 hb3 f2 hs2 => ?_
  have hb1 : w1.heap[g1]? = some (.cells (evRL (evR zeroM.e (0, str [], 0, (none, 0, 0), ()))).toArray 35 (0, 0)) := hb1
  have f12 := f1.trans f2
  have s12 := f12.size
  have tk2 : IsTk 124 w2 g3 w.heap.size (bs, false) := ⟨v, hb3, h.keep0 f12, hc, fun hn k hk => h.ltE hn hk⟩
  refine CallK.of (tr_take tk2 (by omega) 1 (by decide)) ?_
  rintro _ w3 ⟨x5, rfl, hx, hxb, tk3, f3⟩
  refine ⟨x5, rfl, ?_⟩
  have hl := tk_len 1 (bs, false)
  refine RdB.at hx (Int.le_refl _) (by rw [hx.len, hl]; decide) ?_
  rw [show Int.toNat 0 = 0 by rfl, ← big_one hl]
  have hbb : big (tkF true 1 (bs, false)).1 ≤ 255 := by rw [big_one hl]; have := ((tkF true 1 (bs, false)).1.getD 0 0).toNat_lt; omega
  rw [wI (by omega) (by omega)]
  have hM : takeM true bs = (fieldL (big (tkF true 1 (bs, false)).1 : Int)).foldl (evStep true) ((tkF true 1 (bs, false)).2, ((big (tkF true 1 (bs, false)).1 : Int), [], [], [], [], 0, 0, .none)) := rfl
  have hsm := takeM_small true bs
  have hft := takeM_fit true bs
  have hP : takeP true bs = if takeOk true bs = true then ((takeM true bs).2, 0) else (zeroM, 2) := rfl
  have hO : takeOk true bs = (!(takeM true bs).1.2 && ((packM (takeM true bs).2).2 == 0 && ((packM (takeM true bs).2).1 == bs && (!true || (takeM true bs).1.1 == [])))) := rfl
  generalize takeP true bs = P at *
  generalize takeOk true bs = O at *
  generalize takeM true bs = M at *
  generalize tkF true 1 (bs, false) = x at *
  obtain ⟨X, hX⟩ : ∃ X : TkS × EvM, X = (x.2, ((big x.1 : Int), [], [], [], [], 0, 0, .none)) := ⟨_, rfl⟩
  rw [← hX] at hM
  have s3 := f3.size
  refine ns_ok (zs := evRL (evR zeroM.e (0, str [], 0, (none, 0, 0), ()))) (vs := evRL (evR (EvM.e ((big x.1 : Int), [], [], [], [], 0, 0, .none)) (0, str [], 0, (none, 0, 0), ()))) rfl rfl fun g9 w4 hg9 hb9 f4 => ?_
  have hb9 : w4.heap[g9]? = some (.cells (evRL (evR X.2.e (0, str [], 0, (none, 0, 0), ()))).toArray 35 (0, 0)) := by rw [hX]; exact hb9
  have hXt : X.2.t = .none := by rw [hX]; rfl
  have hXk : X.2.1 = (big x.1 : Int) := by rw [hX]
  have f13 : Fr none1 w w3 := f12.fresh f3 (by omega)
  have f14 := f13.trans f4
  have g1lt := lt_of_blk hb1
  have g3lt := lt_of_blk hb3
  have S4 : TrS w w4 g1 g3 g9 X := by
    refine ⟨by rw [hX]; exact tk3.keep0 f4, ⟨_, hb9, ?_⟩, ⟨_, f4.keep0 (f3.keep1 (f2.keep0 hb1) (by omega))⟩, f14, by omega, by omega, by omega, by omega, by omega, by omega⟩
    rw [hXt]
    exact IsTr.mono (fun k hk => by have := hk.1; have := hk.2; omega) _ _ (zero_tree w4 w4)
  obtain ⟨y, w5, hr5, hy, hyl, f5, yf⟩ := lit_ok (P := Tryz.prog) (w := w4) elem_byte (ordL.map bc) (by intro v hv; obtain ⟨x, _, rfl⟩ := List.mem_map.1 hv; rfl) (by decide)
  refine ⟨y, w5, hr5, ?_⟩
  have hy0 : IsB w5 y ordL := hy
  have hysome : y.1.isSome = true := by
    rcases hy0 with ⟨hh, _⟩ | ⟨g', off, cs, hv', _⟩
    · rw [hh] at hyl; exact absurd hyl (by decide)
    · rw [hv']; rfl
  obtain ⟨w6, hr6, hy6, f6⟩ := conv_ok (P := Tryz.prog) Tryz.underlying38 Tryz.underlying5 hy0 hysome
  refine ⟨y, w6, hr6, ?_⟩
  have hyr : RdB w6 y ordL := hy6
  have s4 := f4.size; have s5 := f5.size; have s6 := f6.size
  have g9lt := lt_of_blk hb9
  have yne : ∀ k, blkOf y k → k ≠ g1 ∧ k ≠ g3 ∧ k ≠ g9 := fun k hk => by have := yf k hk; omega
  have f46 : Fr none1 w4 w6 := f5.comp f6 fun k hk t => by have := yf k t; omega
  have S6 := S4.keep0 f46
  have hyl7 : y.2.1 = 7 := hyl
  have hXL : ∀ i, (((ordL.take i).filter (hasF X.2.1)).foldl (evStep true) X).2.1 = X.2.1 := fun i => fold_kind true _ _
  refine LoopK.of (fun st w' => ∃ i : Nat, st.1 = i ∧ i ≤ 7 ∧ TrS w w' g1 g3 g9 (((ordL.take i).filter (hasF X.2.1)).foldl (evStep true) X) ∧ Fr (fun k => k = g3 ∨ k = g9) w6 w') (fun st _ => (7 - st.1).toNat) ⟨0, rfl, by omega, S6, Fr.refl _ _⟩ ?_
  rintro _ ⟨i', _⟩ w7 ⟨i, hi, hil, S7, f7⟩
  dsimp only at hi ⊢
  subst hi
  have hy7 : RdB w7 y ordL := hyr.keep f7 fun k hk t => by have := yne k hk; rcases t with t | t <;> omega
  refine ifB.dec (fun hlt => ?_) (fun hge => ?_)
  · have hi7 : i < 7 := by omega
    refine RdB.at hy7 (by omega) hlt ?_
    obtain ⟨c, hc⟩ : ∃ c, ordL[i]? = some c := ⟨_, List.getElem?_eq_getElem (by show i < 7; exact hi7)⟩
    have hcv : ordL.getD (Int.toNat (i : Int)) 0 = c := by rw [Int.toNat_natCast, List.getD_eq_getElem?_getD, hc]; rfl
    rw [hcv]
    obtain ⟨t7, hb7, hT7⟩ := id S7.ev
    have e0 := hXL i
    have hstep : ((ordL.take (i + 1)).filter (hasF X.2.1)).foldl (evStep true) X = if hasF X.2.1 c = true then evStep true (((ordL.take i).filter (hasF X.2.1)).foldl (evStep true) X) c else ((ordL.take i).filter (hasF X.2.1)).foldl (evStep true) X := by
      rw [List.take_add_one, hc, List.filter_append, List.foldl_append]
      by_cases hh : hasF X.2.1 c = true
      · rw [if_pos hh]; simp [hh]
      · rw [if_neg hh]; simp [hh]
    generalize ((ordL.take i).filter (hasF X.2.1)).foldl (evStep true) X = Y at *
    refine LdK.fld hb7 (x := Y.2.1) rfl ?_
    rw [e0]
    refine CallK.of (fields11_spec X.2.1 w7) ?_
    rintro _ _ ⟨rfl, rfl⟩
    refine ⟨_, rfl, ?_⟩
    refine hasK X.2.1 c w7 ?_
    have next : ∀ Z : TkS × EvM, ((ordL.take (i + 1)).filter (hasF X.2.1)).foldl (evStep true) X = Z → ∀ wd, TrS w wd g1 g3 g9 Z → Fr (fun k => k = g3 ∨ k = g9) w7 wd →
        (∃ i' : Nat, (IntKind.i64.wrap ((i : Int) + 1)) = i' ∧ i' ≤ 7 ∧ TrS w wd g1 g3 g9 (((ordL.take i').filter (hasF X.2.1)).foldl (evStep true) X) ∧ Fr (fun k => k = g3 ∨ k = g9) w6 wd) ∧ (7 - (IntKind.i64.wrap ((i : Int) + 1))).toNat < (7 - (i : Int)).toNat := fun Z hZ wd hS hf => by
      rw [wI (by omega) (by omega)]
      exact ⟨⟨i + 1, by omega, by omega, by rw [hZ]; exact hS, f7.trans hf⟩, by omega⟩
    refine ifB.not (ifB.by (fun hh => ?_) (fun hh => ?_))
    · rw [if_pos hh] at hstep
      have hcm : c ∈ ordL := List.mem_of_getElem? hc
      have hc7 : c = 73 ∨ c = 78 ∨ c = 76 ∨ c = 67 ∨ c = 68 ∨ c = 86 ∨ c = 84 := by simpa [ordL] using hcm
      rcases hc7 with rfl | rfl | rfl | rfl | rfl | rfl | rfl
      · exact ifB.f (by decide) (ifB.f (by decide) (ifB.f (by decide) (S7.text 73 (.inl rfl) fun wd hS hf => next _ hstep wd hS hf)))
      · exact ifB.f (by decide) (ifB.f (by decide) (ifB.f (by decide) (S7.text 78 (.inr (.inl rfl)) fun wd hS hf => next _ hstep wd hS hf)))
      · exact ifB.f (by decide) (ifB.f (by decide) (ifB.f (by decide) (S7.text 76 (.inr (.inr (.inl rfl))) fun wd hS hf => next _ hstep wd hS hf)))
      · exact ifB.f (by decide) (ifB.f (by decide) (ifB.f (by decide) (S7.text 67 (.inr (.inr (.inr rfl))) fun wd hS hf => next _ hstep wd hS hf)))
      · exact ifB.t (by decide) (S7.num 5 68 (.inl ⟨rfl, rfl⟩) fun wd hS hf => next _ hstep wd hS hf)
      · exact ifB.f (by decide) (ifB.t (by decide) (S7.num 6 86 (.inr ⟨rfl, rfl⟩) fun wd hS hf => next _ hstep wd hS hf))
      · exact ifB.f (by decide) (ifB.f (by decide) (ifB.t (by decide) (S7.term fun wd hS hf => next _ hstep wd hS hf)))
    · rw [if_neg (by rw [hh]; decide)] at hstep
      exact next _ hstep w7 S7 (Fr.refl _ _)
  have hi7 : i = 7 := by omega
  subst hi7
  have hfl : (ordL.take 7).filter (hasF X.2.1) = fieldL X.2.1 := rfl
  rw [hfl, hXk, ← hM] at S7
  obtain ⟨l1, l2, l3, l4, l5, l6⟩ := S7.lo
  obtain ⟨t, hb7, hT7⟩ := id S7.ev
  obtain ⟨y1, hb17⟩ := id S7.b1
  have f07 := S7.fr
  refine LdsK.blk (cks := ERK) (x := evR M.2.e t) hb7 ?_
  have hsh := write_short M.2.t
  refine CallK.of (pack11_spec M.2.e M.2.t rfl hsm.e (by have := hft.1; omega) hft.2 (by omega) hT7 (fun k hk => hk.2.1)) ?_
  rintro _ w8 ⟨u, rfl, hu, f8, uf⟩
  refine ⟨(u, (packM M.2).2, ()), rfl, ?_⟩
  have S8 := S7.keep0 f8
  have f08 := f07.trans f8
  have hb18 := f8.keep0 hb17
  have fail : O = false → ∀ w10, Fr none1 w8 w10 → StsK ⟨g1, 0, none⟩ (evRL (evR zeroM.e (0, str [], 0, (none, 0, 0), ()))) w10 (fun w30 => LdsK ERK ⟨g1, 0, none⟩ w30 (fun (y : EvR) => ∃ t : TV, (Value.tuple #[evRA y, .int .i64 2]) = .tuple #[evRA (evR P.1.e t), .int .i64 P.2] ∧ Made w w30 (trT P.1.t) t ∧ Fr none1 w w30)) := fun ho w10 f10 => by
    rw [hP, ho]
    refine StsK.blk (cs := evRL y1) (vs := evRL (evR zeroM.e (0, str [], 0, (none, 0, 0), ()))) (f10.keep0 hb18) rfl rfl fun w11 hb11 f11 _ => LdsK.blk (cks := ERK) (x := evR zeroM.e (0, str [], 0, (none, 0, 0), ())) hb11 ?_
    exact ⟨_, rfl, zero_tree _ _, (f08.trans f10).fresh f11 l1⟩
  obtain ⟨ru, hrb, hru, hrc, hrl⟩ := S8.tk
  have hrul := hru.len
  refine LdK.fld hrb (x := M.1.2) rfl ?_
  refine ifB.by (fun e => fail (by rw [hO, e]; rfl) w8 (Fr.refl _ _)) (fun e => ?_)
  refine LdK.fld hrb (x := ru) rfl ?_
  refine ifB.dec (fun hgt => fail ?_ w8 (Fr.refl _ _)) (fun hle => ?_)
  · have : M.1.1 ≠ [] := fun t => by rw [t, List.length_nil] at hrul; omega
    rw [hO]; simp [this]
  have hnil : M.1.1 = [] := List.eq_nil_of_length_eq_zero (by omega)
  dsimp only
  refine ifB.ne (fun hne => fail (by rw [hO, e]; simp [hne]) w8 (Fr.refl _ _)) (fun he => ?_)
  refine ⟨_, w8, txt_of hu.rd, _, w8, txt_of (h.keep0 f08), ?_⟩
  rw [str_eqb]
  refine ifB.not (ifB.by (fun eq => ?_) (fun ne => fail ?_ w8 (Fr.refl _ _)))
  · have eq : ((packM M.2).1 == bs) = true := eq
    have ho : O = true := by rw [hO, e, he, eq, hnil]; rfl
    rw [hP, ho]
    refine LdsK.blk (cks := ERK) (x := evR M.2.e t) (f8.keep0 hb7) ?_
    refine StsK.blk (cs := evRL y1) (vs := evRL (evR M.2.e t)) hb18 rfl rfl fun w10 hb110 f10 _ => LdsK.blk (cks := ERK) (x := evR M.2.e t) hb110 ?_
    refine ⟨t, rfl, ?_, f08.fresh f10 l1⟩
    exact IsTr.mono (fun j hj => ⟨hj.1, by have := f8.size; have := f10.size; have := hj.2.1; omega⟩) _ _ (IsTr.keep f10 (fun j hj t => hj.2.2.1 t) _ _ (IsTr.keep0 hT7 f8))
  · have ne : ((packM M.2).1 == bs) = false := ne
    rw [hO, ne]; simp

end Go.Proofs.YtbadiokobooliaaGreatDoor

/-! ### TakeSpec4 -/
set_option linter.unusedVariables false
set_option maxRecDepth 100000
namespace Go.Proofs.YtbadiokobooliaaGreatDoor
open Vc

/-- A part of bytes that may be written to. -/
theorem IsB.mid {w : World} {v : Sl} {bs : List UInt8} (h : IsB w v bs) {lo hi : Int} (h0 : 0 ≤ lo) (h1 : lo ≤ hi) (h2 : hi ≤ v.2.1) {K : Option Addr → Nat → Nat → Prop}
    (k : ∀ u : Sl, IsB w u ((bs.drop lo.toNat).take (hi - lo).toNat) → (∀ k, blkOf u k → blkOf v k) → K u.1 u.2.1 u.2.2) : SubK v.1 v.2.2 lo hi v.2.2 1 K := by
  have hc := IsB.cap h
  have hlen := IsB.len h
  refine ⟨h0, h1, by omega, by omega, ?_⟩
  have hk := fun (A : Option Addr) (L C : Nat) => k (A, L, C)
  rcases h with ⟨rfl, hb⟩ | ⟨g, off, cs, hv, hb, hl, hcs, hn, he⟩
  · have : bs = [] := by simpa using hb
    subst this
    have hlo : lo = 0 := by simp at hlen hc h2; omega
    have hhi : hi = 0 := by simp at h2; omega
    subst hlo; subst hhi
    refine hk none 0 0 (.inl ⟨rfl, by simp⟩) fun k ⟨a, ha, _⟩ => by cases ha
  · rw [hv]
    have hmap : (bs.map bc).length = v.2.1 := by rw [hn, Nat.mul_one]
    by_cases hq : (v.2.2 : Int) = lo
    · rw [if_pos hq]
      refine hk (some ⟨g, off, none⟩) (hi - lo).toNat ((v.2.2 : Int) - lo).toNat (.inr ⟨g, off, cs, rfl, hb, by dsimp only; omega, by dsimp only; omega, ?_, fun i hi' => ?_⟩) fun k ⟨a, ha, e⟩ => ⟨_, hv, by injection ha with ha; subst ha; exact e⟩
      · dsimp only
        rw [List.length_map, List.length_take, List.length_drop]; omega
      · rw [List.length_map, List.length_take, List.length_drop] at hi'; omega
    · rw [if_neg hq]
      have e : (some (⟨g, off, none⟩ : Addr)).map (·.add (lo.toNat * 1)) = some ⟨g, off + lo.toNat, none⟩ := by
        rw [Option.map_some, addr_add, Nat.mul_one]
      rw [e]
      refine hk (some ⟨g, off + lo.toNat, none⟩) (hi - lo).toNat ((v.2.2 : Int) - lo).toNat (.inr ⟨g, off + lo.toNat, cs, rfl, hb, by dsimp only; omega, by dsimp only; omega, ?_, fun i hi' => ?_⟩) (fun k ⟨a, ha, e⟩ => ⟨_, hv, by injection ha with ha; subst ha; exact e⟩)
      · dsimp only
        rw [List.length_map, List.length_take, List.length_drop]; omega
      · rw [List.length_map, List.length_take, List.length_drop] at hi'
        have := he (lo.toNat + i) (by rw [hmap]; omega)
        rw [Nat.add_assoc, this, List.getElem?_map, List.getElem?_map, List.getElem?_take_of_lt (by omega), List.getElem?_drop]

/-! ### The document's entry of bytes -/
abbrev ERNK : List Ck := [.int .i64, .str, .str, .str, .str, .int .i64, .int .i64, .int .i64, .str, .int .i64, .slc, .bool]
def enRL (x : EvR) (r : Bool) : List Value := evRL x ++ [.bool r]
def enRof (x : EvR) (r : Bool) : EnR := (x.1, x.2.1, x.2.2.1, x.2.2.2.1, x.2.2.2.2.1, x.2.2.2.2.2.1, x.2.2.2.2.2.2.1, x.2.2.2.2.2.2.2.1, x.2.2.2.2.2.2.2.2.1, x.2.2.2.2.2.2.2.2.2.1, x.2.2.2.2.2.2.2.2.2.2.1, r, ())
def zeroV : TV := (0, str [], 0, (none, 0, 0), ())

theorem tentry11_spec {w : World} {v : Sl} {bs : List UInt8} (h : RdB w v bs) (hc : v.2.1 ≤ v.2.2) : Ret Tryz.prog 27 #[.slice v.1 v.2.1 v.2.2] w fun r w' =>
    ∃ t : TV, r = .tuple #[enRA (takeE true bs).1.1.e t (takeE true bs).1.2, .int .i64 (takeE true bs).2] ∧ Made w w' (trT (takeE true bs).1.1.t) t ∧ Fr none1 w w' := by
  refine c27 v.1 v.2.1 v.2.2 w _ ?_
  unfold C27
  have hl := h.len
  refine NewK.of fun g1 w1 hg1 hb1 f1 hs1 => ?_
  have hb1 : w1.heap[g1]? = some (.cells (enRL (evR zeroM.e zeroV) false).toArray 48 (0, 0)) := hb1
  have fail : ∀ (code : Int) (q : takeE true bs = ((zeroM, false), code)) (w2 : World), w2.heap[g1]? = some (.cells (enRL (evR zeroM.e zeroV) false).toArray 48 (0, 0)) → Fr none1 w w2 → StsK ⟨g1, 0, none⟩ (enRL (evR zeroM.e zeroV) false) w2 (fun w3 => LdsK ERNK ⟨g1, 0, none⟩ w3 (fun (y : EnR) => ∃ t : TV, (Value.tuple #[.agg #[.int .i64 y.1, .string y.2.1, .string y.2.2.1, .string y.2.2.2.1, .string y.2.2.2.2.1, .int .i64 y.2.2.2.2.2.1, .int .i64 y.2.2.2.2.2.2.1, .int .i64 y.2.2.2.2.2.2.2.1, .string y.2.2.2.2.2.2.2.2.1, .int .i64 y.2.2.2.2.2.2.2.2.2.1, .slice y.2.2.2.2.2.2.2.2.2.2.1.1 y.2.2.2.2.2.2.2.2.2.2.1.2.1 y.2.2.2.2.2.2.2.2.2.2.1.2.2, .bool y.2.2.2.2.2.2.2.2.2.2.2.1], .int .i64 code]) = .tuple #[enRA (takeE true bs).1.1.e t (takeE true bs).1.2, .int .i64 (takeE true bs).2] ∧ Made w w3 (trT (takeE true bs).1.1.t) t ∧ Fr none1 w w3)) := fun code q w2 hb f2 => by
    rw [q]
    refine StsK.blk (cs := enRL (evR zeroM.e zeroV) false) (vs := enRL (evR zeroM.e zeroV) false) hb rfl rfl fun w3 hb3 f3 _ => LdsK.blk (cks := ERNK) (x := enRof (evR zeroM.e zeroV) false) hb3 ?_
    exact ⟨zeroV, rfl, zero_tree _ _, f2.fresh f3 (by omega)⟩
  refine ifB.dec (fun e => ?_) (fun e => ?_)
  · have : bs = [] := List.eq_nil_of_length_eq_zero (by omega)
    exact fail 2 (by unfold takeE; rw [if_pos (.inl this)]) w1 hb1 f1
  have hne : bs ≠ [] := fun t => by subst t; simp at hl; omega
  have hlp : 0 < bs.length := by omega
  refine RdB.at (h.keep0 f1) (Int.le_refl _) (by omega) ?_
  rw [show Int.toNat 0 = 0 by rfl]
  refine ifB.dec (fun hgt => ?_) (fun hle => ?_)
  · exact fail 2 (by unfold takeE; rw [if_pos (.inr (by rw [UInt8.lt_iff_toNat_lt]; show 1 < _; omega))]) w1 hb1 f1
  have hle' : ¬ 1 < bs.getD 0 0 := fun t => hle (by rw [UInt8.lt_iff_toNat_lt] at t; have : (1 : UInt8).toNat = 1 := rfl; omega)
  have hE : takeE true bs = if (takeP true (bs.drop 1)).2 ≠ 0 then ((zeroM, false), (takeP true (bs.drop 1)).2) else (((takeP true (bs.drop 1)).1, bs.getD 0 0 == 1), 0) := by
    unfold takeE; rw [if_neg (fun t => t.elim hne hle')]
  refine RdB.mid (h.keep0 f1) (by omega) (by omega) (Int.le_refl _) hc fun u hu huc hul hub => ?_
  have e2 : (bs.drop (1 : Int).toNat).take ((v.2.1 : Int) - 1).toNat = bs.drop 1 := by
    rw [show (1 : Int).toNat = 1 by rfl]
    exact List.take_of_length_le (by rw [List.length_drop]; omega)
  rw [e2] at hu
  refine CallK.of (take11_spec hu huc) ?_
  rintro _ w2 ⟨t, rfl, mt, f2⟩
  refine ⟨(evR (takeP true (bs.drop 1)).1.e t, (takeP true (bs.drop 1)).2, ()), rfl, ?_⟩
  generalize takeP true (bs.drop 1) = P at *
  have f12 := f1.trans f2
  refine ns_ok (zs := evRL (evR zeroM.e zeroV)) (vs := evRL (evR P.1.e t)) rfl rfl fun g4 w4 hg4 hb4 f4 => ?_
  have s1 := f1.size
  have s2 := f2.size
  have hb14 := f4.keep0 (f2.keep0 hb1)
  have f14 := f12.trans f4
  refine ifB.ne (fun hc => ?_) (fun hc => ?_)
  · exact fail P.2 (by rw [hE, if_pos hc]) w4 hb14 f14
  refine DrewK.of fun w5 _ f5 => ?_
  refine LdsK.blk (cks := ERK) (x := evR P.1.e t) (f5.keep0 hb4) ?_
  refine RdB.at ((h.keep0 f14).keep0 f5) (Int.le_refl _) (by omega) ?_
  rw [show Int.toNat 0 = 0 by rfl]
  have hbit : (((bs.getD 0 0).toNat : Int) == 1) = (bs.getD 0 0 == 1) := by
    rw [Bool.eq_iff_iff]
    simp only [beq_iff_eq]
    exact ⟨fun t => UInt8.toNat_inj.1 (by have : (1 : UInt8).toNat = 1 := rfl; omega), fun t => by rw [t]; rfl⟩
  rw [hbit]
  refine StsK.blk (cs := enRL (evR zeroM.e zeroV) false) (vs := enRL (evR P.1.e t) (bs.getD 0 0 == 1)) (f5.keep0 hb14) rfl rfl fun w6 hb6 f6 _ => LdsK.blk (cks := ERNK) (x := enRof (evR P.1.e t) (bs.getD 0 0 == 1)) hb6 ?_
  rw [hE, if_neg (fun t => t hc)]
  refine ⟨t, rfl, ?_, (f14.trans f5).fresh f6 (by omega)⟩
  have m5 := (mt.keep0 f4).keep0 f5
  exact (m5.keep f6 fun k hk _ q => by have : k = g1 := q; omega).older (by omega)

/-! ### The document's events compared -/
def kdTr : Tr → Int
  | .mk k _ _ _ => k
def sameM (a b : EvM) : Bool := a.1 == b.1 && (a.2.1 == b.2.1 && (a.2.2.1 == b.2.2.1 && (a.2.2.2.1 == b.2.2.2.1 && (a.2.2.2.2.1 == b.2.2.2.2.1 && (a.2.2.2.2.2.1 == b.2.2.2.2.2.1 && (a.2.2.2.2.2.2.1 == b.2.2.2.2.2.2.1 && ((kdTr (trT a.t) == 0 && kdTr (trT b.t) == 0) || sameR (trT a.t) (trT b.t))))))))

theorem same11_spec (a b : EvM) (hn : cntR (trT a.t) ≤ 1000000000000) {w : World} {S S' : Nat → Prop} {v v' : TV} (h : IsTr w S (trT a.t) v) (h' : IsTr w S' (trT b.t) v') :
    Ret Tryz.prog 29 #[evRA (evR a.e v), evRA (evR b.e v')] w fun r w' => r = .bool (sameM a b) ∧ Fr none1 w w' := by
  refine c29 (evR a.e v) (evR b.e v') w _ ?_
  unfold C29
  refine NewK.of fun g1 w1 hg1 hb1 f1 hs1 => NewK.of fun g3 w2 hg3 hb3 f2 hs2 => ?_
  have hb1 : w2.heap[g1]? = some (.cells (evRL (evR a.e v)).toArray 35 (0, 0)) := f2.keep0 hb1
  have hb3 : w2.heap[g3]? = some (.cells (evRL (evR b.e v')).toArray 35 (0, 0)) := hb3
  have f12 := f1.trans f2
  have hk : v.1 = kdTr (trT a.t) := by
    cases hx : trT a.t with
    | mk k s n ks => rw [hx] at h; exact h.kind
  have hk' : v'.1 = kdTr (trT b.t) := by
    cases hx : trT b.t with
    | mk k s n ks => rw [hx] at h'; exact h'.kind
  refine LdK.fld hb1 (x := a.1) rfl (LdK.fld hb3 (x := b.1) rfl ?_)
  unfold sameM
  refine ifB.by (fun q => ?_) (fun q => by rw [q]; exact ⟨rfl, f12⟩)
  rw [q, Bool.true_and]
  refine LdK.fld hb1 (x := str a.2.1) rfl (LdK.fld hb3 (x := str b.2.1) rfl ?_)
  rw [str_eqb]
  refine ifB.by (fun q => ?_) (fun q => by rw [q]; exact ⟨rfl, f12⟩)
  rw [q, Bool.true_and]
  refine LdK.fld hb1 (x := str a.2.2.1) rfl (LdK.fld hb3 (x := str b.2.2.1) rfl ?_)
  rw [str_eqb]
  refine ifB.by (fun q => ?_) (fun q => by rw [q]; exact ⟨rfl, f12⟩)
  rw [q, Bool.true_and]
  refine LdK.fld hb1 (x := str a.2.2.2.1) rfl (LdK.fld hb3 (x := str b.2.2.2.1) rfl ?_)
  rw [str_eqb]
  refine ifB.by (fun q => ?_) (fun q => by rw [q]; exact ⟨rfl, f12⟩)
  rw [q, Bool.true_and]
  refine LdK.fld hb1 (x := str a.2.2.2.2.1) rfl (LdK.fld hb3 (x := str b.2.2.2.2.1) rfl ?_)
  rw [str_eqb]
  refine ifB.by (fun q => ?_) (fun q => by rw [q]; exact ⟨rfl, f12⟩)
  rw [q, Bool.true_and]
  refine LdK.fld hb1 (x := a.2.2.2.2.2.1) rfl (LdK.fld hb3 (x := b.2.2.2.2.2.1) rfl ?_)
  refine ifB.by (fun q => ?_) (fun q => by rw [q]; exact ⟨rfl, f12⟩)
  rw [q, Bool.true_and]
  refine LdK.fld hb1 (x := a.2.2.2.2.2.2.1) rfl (LdK.fld hb3 (x := b.2.2.2.2.2.2.1) rfl ?_)
  refine ifB.by (fun q => ?_) (fun q => by rw [q]; exact ⟨rfl, f12⟩)
  rw [q, Bool.true_and]
  have k1 : ∀ {K : Int → Prop}, K v.1 → LdK (.int .i64) (((⟨g1, 0, none⟩ : Addr).add 7).add 0) w2 K := fun {K} k => by
    rw [addr_add]; exact LdK.fld hb1 (x := v.1) rfl k
  have k3 : ∀ {K : Int → Prop}, K v'.1 → LdK (.int .i64) (((⟨g3, 0, none⟩ : Addr).add 7).add 0) w2 K := fun {K} k => by
    rw [addr_add]; exact LdK.fld hb3 (x := v'.1) rfl k
  have cmp : (kdTr (trT a.t) == 0 && kdTr (trT b.t) == 0) = false → LdsK TVK ((⟨g1, 0, none⟩ : Addr).add 7) w2 (fun (x21 : TV) => LdsK TVK ((⟨g3, 0, none⟩ : Addr).add 7) w2 (fun (x22 : TV) => CallK Tryz.prog 65 #[tvA x21, tvA x22] w2 (.v (.one .bool)) (fun (x23 : Bool) w24 =>
      (Value.bool x23) = .bool ((kdTr (trT a.t) == 0 && kdTr (trT b.t) == 0) || sameR (trT a.t) (trT b.t)) ∧ Fr none1 w w24))) := fun q => by
    refine tv_at hb1 (tv_at hb3 ?_)
    refine CallK.of (rsame_spec (trT a.t) (trT b.t) hn (h.keep0 f12) (h'.keep0 f12)) ?_
    rintro _ w3 ⟨rfl, f3⟩
    exact ⟨_, rfl, by rw [q]; rfl, f12.trans f3⟩
  refine k1 ?_
  rw [hk]
  refine ifB.by (fun q => k3 ?_) (fun q => cmp (by rw [q]; rfl))
  rw [hk']
  refine ifB.by (fun q' => ?_) (fun q' => cmp (by rw [q, q']; rfl))
  exact ⟨by rw [q, q']; rfl, f12⟩

theorem kind_none : kdTr (trT .none) = 0 := rfl
/-- An event that may be is like itself. -/
theorem same_self {m : EvM} {bs : List UInt8} (h : packM m = (bs, 0)) : sameM m m = true := by
  obtain ⟨hc, _⟩ := pack_zero h
  obtain ⟨hk, ho, _, _, _, _, ht⟩ := check_zero hc
  have key : ((kdTr (trT m.t) == 0 && kdTr (trT m.t) == 0) || sameR (trT m.t) (trT m.t)) = true := by
    by_cases h2 : m.e.1 = 2
    · have hw : checkT m.t = 0 := by
        have := ht h2
        unfold writeT at this
        split at this
        · rename_i c; exact (c this).elim
        · rename_i c; exact Classical.not_not.1 c
      rw [sameR_self, whole_trT m.t (fit_check hw).1, Bool.or_true]
    · have hn : hasF m.e.1 84 = false := by
        unfold hasF fieldsF
        rw [if_neg h2]
        repeat' split
        all_goals decide
      unfold onlyF at ho
      rw [hn] at ho
      simp only [Bool.or_false, Bool.and_eq_true] at ho
      have : m.t = .none := none_of_nil ho.2.2
      rw [this, kind_none]; rfl
  unfold sameM
  rw [key]
  simp

end Go.Proofs.YtbadiokobooliaaGreatDoor

/-! ### SomeSpec2 -/
set_option linter.unusedVariables false
set_option maxRecDepth 100000
namespace Go.Proofs.YtbadiokobooliaaGreatDoor
open Vc

theorem some_spec (c : CmV) (p1 p2 : Int) (p3 : ByteArray) {w : World} (hp : IsPl w (cmPl c)) :
    Ret Tryz.prog 11 #[.agg (cmL c).toArray, .int .i64 p1, .int .i64 p2, .string p3, .int .i64 0] w fun r w' =>
      ∃ (e : EvT) (t : Tm) (v : TV), r = .tuple #[evA e, evRA (evR e v), .bool false] ∧ e.2.2.2.2.2.2.2.1 = t.v ∧ smallE e ∧ nodesT t ≤ 2000 ∧ shortT t ∧ Made w w' (trT t) v ∧ Fr none1 w w' := by
  refine c11 c p1 p2 p3 0 w _ ?_
  unfold C11
  refine NewK.of fun g1 w1 hg1 hb1 f1 hs1 => NewK.of fun g3 w2 hg3 hb3 f2 hs2 => NewK.of fun g5 w3 hg5 hb5 f3 hs3 => ?_
  refine LdsK.blk (cks := [.int .i64, .int .i64, .int .i64, .int .i64, .int .i64, .str, .slc, .slc]) (x := c) ((f2.trans f3).keep0 hb1) ?_
  have f13 := (f1.trans f2).trans f3
  refine CallK.of (do_spec c 3 (hp.keep0 f13)) ?_
  rintro _ w4 ⟨x, rfl, hx, f4⟩
  refine ⟨x, rfl, ?_⟩
  have s4 := f4.size
  refine NewK.of fun g10 w5 hg10 hb10 f5 hs5 => ?_
  refine StsK.blk (cs := evRL (0, (⟨#[]⟩ : ByteArray), (⟨#[]⟩ : ByteArray), (⟨#[]⟩ : ByteArray), (⟨#[]⟩ : ByteArray), 0, 0, 0, (⟨#[]⟩ : ByteArray), 0, (none, 0, 0), ())) (vs := evRL x) hb10 rfl rfl fun w6 hb6 f6 hs6 => ?_
  have hx6 : Fine w6 (fun k => w3.heap.size ≤ k ∧ k < w4.heap.size) x := (hx.keep f5 (fun _ _ t => t) (fun _ h => h)).keep f6 (fun k hk t => by have : k = g10 := t; have := hk.2; omega) (fun _ h => h)
  refine JoinK.of (fun _ w' => (∃ y : EvR, w'.heap[g10]? = some (.cells (evRL y).toArray 35 (0, 0)) ∧ Fine w' (fun k => w3.heap.size ≤ k ∧ k < w4.heap.size) y) ∧ Fr (only g10) w6 w') ?_ ?_
  · obtain ⟨e, t, v, rfl, he, hz, hn, hsh, hT⟩ := hx6
    have kp : ∀ wd, Fr (only g10) w6 wd → IsTr wd (fun k => w3.heap.size ≤ k ∧ k < w4.heap.size) (trT t) v := fun wd f => IsTr.keep f (fun k hk q => by have : k = g10 := q; have := hk.2; omega) _ _ hT
    refine witK p1 20 (by decide) fun k _ _ => ?_
    refine ifB.by (fun _ => ?_) (fun _ => ?_)
    · refine witK p2 9 (by decide) fun n _ _ => StK.fld hb6 (by show 0 + 0 < 11; omega) rfl fun wd hb f _ => ?_
      exact ⟨⟨evR (n, e.2) v, hb, (n, e.2), t, v, rfl, he, hz, hn, hsh, kp wd f⟩, f⟩
    refine ifB.by (fun _ => ?_) (fun _ => ?_)
    · refine txtK p3 16 (by decide) (by decide) fun s hs => StK.fld hb6 (by show 0 + 1 < 11; omega) rfl fun wd hb f _ => ?_
      exact ⟨⟨evR (e.1, s, e.2.2) v, hb, (e.1, s, e.2.2), t, v, rfl, he, ⟨by show s.size ≤ _; omega, hz.2⟩, hn, hsh, kp wd f⟩, f⟩
    refine ifB.by (fun _ => ?_) (fun _ => ?_)
    · refine txtK p3 16 (by decide) (by decide) fun s hs => StK.fld hb6 (by show 0 + 2 < 11; omega) rfl fun wd hb f _ => ?_
      exact ⟨⟨evR (e.1, e.2.1, s, e.2.2.2) v, hb, (e.1, e.2.1, s, e.2.2.2), t, v, rfl, he, ⟨hz.1, by show s.size ≤ _; omega, hz.2.2⟩, hn, hsh, kp wd f⟩, f⟩
    refine ifB.by (fun _ => ?_) (fun _ => ?_)
    · refine txtK p3 16 (by decide) (by decide) fun s hs => StK.fld hb6 (by show 0 + 3 < 11; omega) rfl fun wd hb f _ => ?_
      exact ⟨⟨evR (e.1, e.2.1, e.2.2.1, s, e.2.2.2.2) v, hb, (e.1, e.2.1, e.2.2.1, s, e.2.2.2.2), t, v, rfl, he, ⟨hz.1, hz.2.1, by show s.size ≤ _; omega, hz.2.2.2⟩, hn, hsh, kp wd f⟩, f⟩
    refine ifB.by (fun _ => ?_) (fun _ => ?_)
    · refine txtK p3 16 (by decide) (by decide) fun s hs => StK.fld hb6 (by show 0 + 4 < 11; omega) rfl fun wd hb f _ => ?_
      exact ⟨⟨evR (e.1, e.2.1, e.2.2.1, e.2.2.2.1, s, e.2.2.2.2.2) v, hb, (e.1, e.2.1, e.2.2.1, e.2.2.2.1, s, e.2.2.2.2.2), t, v, rfl, he, ⟨hz.1, hz.2.1, hz.2.2.1, by show s.size ≤ _; omega⟩, hn, hsh, kp wd f⟩, f⟩
    refine ifB.by (fun _ => ?_) (fun _ => ?_)
    · refine StK.fld hb6 (by show 0 + 5 < 11; omega) rfl fun wd hb f _ => ?_
      exact ⟨⟨evR (e.1, e.2.1, e.2.2.1, e.2.2.2.1, e.2.2.2.2.1, p2, e.2.2.2.2.2.2) v, hb, (e.1, e.2.1, e.2.2.1, e.2.2.2.1, e.2.2.2.2.1, p2, e.2.2.2.2.2.2), t, v, rfl, he, hz, hn, hsh, kp wd f⟩, f⟩
    refine ifB.by (fun _ => ?_) (fun _ => ?_)
    · refine StK.fld hb6 (by show 0 + 6 < 11; omega) rfl fun wd hb f _ => ?_
      exact ⟨⟨evR (e.1, e.2.1, e.2.2.1, e.2.2.2.1, e.2.2.2.2.1, e.2.2.2.2.2.1, p2, e.2.2.2.2.2.2.2) v, hb, (e.1, e.2.1, e.2.2.1, e.2.2.2.1, e.2.2.2.2.1, e.2.2.2.2.2.1, p2, e.2.2.2.2.2.2.2), t, v, rfl, he, hz, hn, hsh, kp wd f⟩, f⟩
    · exact ⟨⟨evR e v, hb6, e, t, v, rfl, he, hz, hn, hsh, hT⟩, Fr.refl _ _⟩
  rintro _ _ w7 ⟨⟨y, hb7, e, t, v, rfl, he, hz, hn, hsh, hT⟩, f7⟩
  refine LdsK.blk (cks := ERK) (x := evR e v) hb7 ?_
  refine CallK.of (back_spec e t he hT) ?_
  rintro _ w8 ⟨rfl, f8⟩
  refine ⟨e, rfl, ?_⟩
  have hone : one1 e.2.2.2.2.2.2.2.1 = true := by rw [he]; exact Tm.v_one t
  refine ns_ok (zs := [.int .i64 0, .string (⟨#[]⟩ : ByteArray), .string (⟨#[]⟩ : ByteArray), .string (⟨#[]⟩ : ByteArray), .string (⟨#[]⟩ : ByteArray), .int .i64 0, .int .i64 0, .nilIface]) (vs := evL e) rfl (evL_one hone) fun g38 w9 hg38 hb9 f9 => ?_
  refine ⟨by decide, ifB.f (by decide) ?_⟩
  have s5 := f5.size; have s6 := f6.size; have s7 := f7.size; have s8 := f8.size
  refine DrewK.of fun wa _ fa => HoldK.of (fun k => k = g38) ⟨rfl, ?_⟩
  refine LdsK.blk (cks := EK) (x := e) (fa.keep0 hb9) ⟨rfl, LdsK.blk (cks := EK) (x := e) (fa.keep0 hb9) ?_⟩
  refine CallK.of (event_of_spec e t he wa) ?_
  rintro _ wb ⟨v2, rfl, mv, fb⟩
  refine ⟨evR e v2, rfl, KeepK.of fb ?_⟩
  have f36 : Fr none1 w3 w6 := (f4.trans f5).fresh f6 (by omega)
  have f3b : Fr none1 w3 wb := ((((f36.fresh f7 (by omega)).trans f8).trans f9).trans fa).trans fb
  have s3b := f3b.size
  have sab := (f9.trans fa).size
  refine StsK.blk (cs := [.int .i64 0, .string (⟨#[]⟩ : ByteArray), .string (⟨#[]⟩ : ByteArray), .string (⟨#[]⟩ : ByteArray), .string (⟨#[]⟩ : ByteArray), .int .i64 0, .int .i64 0, .nilIface]) (vs := evL e) ((f3.trans f3b).keep0 hb3) rfl (evL_one hone) fun wc hbc fc _ => KeepK.on fc (fun k hk q => by have : g3 = k := q.symm; omega) ?_
  refine StsK.blk (cs := evRL (0, (⟨#[]⟩ : ByteArray), (⟨#[]⟩ : ByteArray), (⟨#[]⟩ : ByteArray), (⟨#[]⟩ : ByteArray), 0, 0, 0, (⟨#[]⟩ : ByteArray), 0, (none, 0, 0), ())) (vs := evRL (evR e v2)) (fc.keep (f3b.keep0 hb5) (fun q => by have : g5 = g3 := q; omega)) rfl rfl fun wd hbd fd _ => KeepK.on fd (fun k hk q => by have : g5 = k := q.symm; omega) ?_
  refine LdsK.blk (cks := EK) (x := e) (fd.keep hbc (fun q => by have : g3 = g5 := q; omega)) (LdsK.blk (cks := ERK) (x := evR e v2) hbd ?_)
  refine ⟨e, t, v2, rfl, he, hz, hn, hsh, ?_, ((f13.trans f3b).fresh fc (by omega)).fresh fd (by omega)⟩
  have m2 := (mv.keep fc (fun k hk _ q => by have : k = g3 := q; omega)).keep fd (fun k hk _ q => by have : k = g5 := q; omega)
  exact m2.older (by omega)

end Go.Proofs.YtbadiokobooliaaGreatDoor

/-! ### PTake0 -/
set_option linter.unusedVariables false
set_option maxRecDepth 100000
namespace Go.Proofs.YtbadiokobooliaaGreatDoor
open Vc

end Go.Proofs.YtbadiokobooliaaGreatDoor

/-! ### NilNe -/
set_option linter.unusedVariables false
namespace Go.Proofs.YtbadiokobooliaaGreatDoor
open Vc

/-- Is a value of an interface not nil? -/
theorem nil_neq {t : TypeId} (ht : ∃ ms, Tryz.prog.underlying t = some (.interface ms)) (o : Operand) {v : Value} (hv : ifcT v) (w : World) :
    (do eqGuard .neq t o (.const .nilIface) v .nilIface; binOp .neq t v .nilIface : Sem Value).run Tryz.prog w = .ok (.bool (!nilT v)) w := by
  obtain ⟨ms, ht⟩ := ht
  rcases hv with rfl | ⟨u, x, rfl⟩
  · have h1 : (eqGuard .neq t o (.const .nilIface) .nilIface .nilIface).run Tryz.prog w = .ok () w := by
      unfold eqGuard
      simp
    rw [Sem.run_bind, h1, Result.andThen_ok]
    have h2 : (Op.equalIn (9999 + 1) t .nilIface .nilIface).run Tryz.prog w = .ok true w := by
      unfold Op.equalIn
      simp only [Sem.run_bind, under ht, Result.andThen_ok, Sem.run_pure]
    show (do pure (Value.bool (!(← Op.equalIn (9999 + 1) t .nilIface .nilIface))) : Sem Value).run Tryz.prog w = _
    rw [Sem.run_bind, h2]
    rfl
  · have h1 : (eqGuard .neq t o (.const .nilIface) (.iface u x) .nilIface).run Tryz.prog w = .ok () w := by
      unfold eqGuard
      rfl
    rw [Sem.run_bind, h1, Result.andThen_ok]
    have h2 : (Op.equalIn (9999 + 1) t (.iface u x) .nilIface).run Tryz.prog w = .ok false w := by
      unfold Op.equalIn
      simp only [Sem.run_bind, under ht, Result.andThen_ok, Sem.run_pure]
    show (do pure (Value.bool (!(← Op.equalIn (9999 + 1) t (.iface u x) .nilIface))) : Sem Value).run Tryz.prog w = _
    rw [Sem.run_bind, h2]
    rfl
theorem ifc_term : ∃ ms, Tryz.prog.underlying 28 = some (.interface ms) := ⟨_, Tryz.underlying28⟩

end Go.Proofs.YtbadiokobooliaaGreatDoor

/-! ### CPTakeL -/
namespace Go.Proofs.YtbadiokobooliaaGreatDoor
open Vc
set_option maxRecDepth 100000
set_option linter.unusedVariables false
/-- handfast/handfastlaw12.PackTakes -/
def C4 (p0 : Option Addr) (p0l p0c : Nat) (p1 : YZ13) (p2 : Int) (p3 : Int) (p4 : ByteArray) (p5 : Bool) (p6 : Int) (p7 : Int) (w : World) (K : Value → World → Prop) : Prop :=
  NewK (.cells ((LZ13 p1).toArray) 27) w (fun g1 w2 => JoinK (SlT × Unit) (fun J3 => ifB (!p5)
  (LdsK KZ13 (ad g1) w2 (fun (x6 : YZ13) => CallK Tryz.prog 11 #[.agg (LZ13 x6).toArray, .int .i64 p2, .int .i64 p3, .string p4, .int .i64 0] w2 (.tup [.agg KZ14, .agg KZ17, .one .bool]) (fun (x7 : YZ14 × YZ17 × Bool × Unit) w8 => NewK (.cells #[.int .i64 0, .string (⟨#[]⟩ : ByteArray), .string (⟨#[]⟩ : ByteArray), .string (⟨#[]⟩ : ByteArray), .string (⟨#[]⟩ : ByteArray), .int .i64 0, .int .i64 0, .nilIface] 30) w8 (fun g9 w10 => NewK (.cells #[.int .i64 0, .string (⟨#[]⟩ : ByteArray), .string (⟨#[]⟩ : ByteArray), .string (⟨#[]⟩ : ByteArray), .string (⟨#[]⟩ : ByteArray), .int .i64 0, .int .i64 0, .int .i64 0, .string (⟨#[]⟩ : ByteArray), .int .i64 0, .slice none 0 0] 35) w10 (fun g11 w12 => StsK (ad g9) [.int .i64 x7.1.1, .string x7.1.2.1, .string x7.1.2.2.1, .string x7.1.2.2.2.1, .string x7.1.2.2.2.2.1, .int .i64 x7.1.2.2.2.2.2.1, .int .i64 x7.1.2.2.2.2.2.2.1, x7.1.2.2.2.2.2.2.2.1] w12 (fun w13 => StsK (ad g11) [.int .i64 x7.2.1.1, .string x7.2.1.2.1, .string x7.2.1.2.2.1, .string x7.2.1.2.2.2.1, .string x7.2.1.2.2.2.2.1, .int .i64 x7.2.1.2.2.2.2.2.1, .int .i64 x7.2.1.2.2.2.2.2.2.1, .int .i64 x7.2.1.2.2.2.2.2.2.2.1, .string x7.2.1.2.2.2.2.2.2.2.2.1, .int .i64 x7.2.1.2.2.2.2.2.2.2.2.2.1, .slice x7.2.1.2.2.2.2.2.2.2.2.2.2.1.1 x7.2.1.2.2.2.2.2.2.2.2.2.2.1.2.1 x7.2.1.2.2.2.2.2.2.2.2.2.2.1.2.2] w13 (fun w14 => LdsK KZ17 (ad g11) w14 (fun (x15 : YZ17) => CallK Tryz.prog 13 #[.agg (LZ17 x15).toArray] w14 (.tup [.one .slc, .one (.int .i64)]) (fun (x16 : SlT × Int × Unit) w17 => NzK 3 (RunK Tryz.prog (Instr.buildSlice 38 1 #[(0, .int .u8 (IntKind.u8.wrap (p3.tmod 3)))]) w17 (.v (.one .slc)) (fun (x18 : SlT) w19 => RunK Tryz.prog (Builtin.append_ #[38, 38] 38 #[.slice x18.1 x18.2.1 x18.2.2, .slice x16.1.1 x16.1.2.1 x16.1.2.2]) w19 (.v (.one .slc)) (fun (x20 : SlT) w21 => JoinK (SlT × Unit) (fun J22 => CallK Tryz.prog 22 #[.int .i64 p6, .int .i64 (IntKind.i64.wrap (2 * (x20.2.1 : Int)))] w21 (.v (.one (.int .i64))) (fun (x25 : Int) w26 => ifB (decide (x25 < (x20.2.1 : Int)))
  (SubK x20.1 x20.2.2 x25 x20.2.1 x20.2.2 1 (fun a27 l28 c29 => J22 ((a27, l28, c29), ()) w26))
  (J22 ((x20.1, x20.2.1, x20.2.2), ()) w26)))
  (fun _ s23 w24 => CallK Tryz.prog 22 #[.int .i64 p7, .int .i64 (IntKind.i64.wrap ((IntKind.i64.wrap (16 * (s23.1.2.1 : Int))) + 1))] w24 (.v (.one (.int .i64))) (fun (x30 : Int) w31 => ifB (decide (x30 < (IntKind.i64.wrap (8 * (s23.1.2.1 : Int)))))
  (NzK 8 (IdxK s23.1.1 s23.1.2.1 (IntKind.i64.wrap (x30.tdiv 8)) 1 (fun a32 => LdK (.int .u8) a32 w31 (fun (x33 : Int) => NzK 8 (NnK (IntKind.u64.wrap (x30.tmod 8)) (IdxK s23.1.1 s23.1.2.1 (IntKind.i64.wrap (x30.tdiv 8)) 1 (fun a34 => StK a34 (.int .u8 (IntKind.u8.wrap ((BitVec.ofInt 8 x33 ^^^ BitVec.ofInt 8 (IntKind.u8.wrap (1 * 2 ^ (min (Int.toNat (IntKind.u64.wrap (x30.tmod 8))) 8)))).toNat : Int))) w31 (fun w35 => J3 ((s23.1.1, s23.1.2.1, s23.1.2.2), ()) w35))))))))
  (J3 ((s23.1.1, s23.1.2.1, s23.1.2.2), ()) w31)))))))))))))))
  (J3 ((p0, p0l, p0c), ()) w2))
  (fun _ s4 w5 => CallK Tryz.prog 23 #[.slice s4.1.1 s4.1.2.1 s4.1.2.2] w5 (.v (.one .slc)) (fun (x36 : SlT) w37 => CallK Tryz.prog 24 #[.slice x36.1 x36.2.1 x36.2.2] w37 (.tup [.agg KZ14, .one (.int .i64)]) (fun (x38 : YZ14 × Int × Unit) w39 => NewK (.cells #[.int .i64 0, .string (⟨#[]⟩ : ByteArray), .string (⟨#[]⟩ : ByteArray), .string (⟨#[]⟩ : ByteArray), .string (⟨#[]⟩ : ByteArray), .int .i64 0, .int .i64 0, .nilIface] 30) w39 (fun g40 w41 => StsK (ad g40) [.int .i64 x38.1.1, .string x38.1.2.1, .string x38.1.2.2.1, .string x38.1.2.2.2.1, .string x38.1.2.2.2.2.1, .int .i64 x38.1.2.2.2.2.2.1, .int .i64 x38.1.2.2.2.2.2.2.1, x38.1.2.2.2.2.2.2.2.1] w41 (fun w42 => CallK Tryz.prog 25 #[.slice s4.1.1 s4.1.2.1 s4.1.2.2] w42 (.tup [.agg KZ17, .one (.int .i64)]) (fun (x43 : YZ17 × Int × Unit) w44 => NewK (.cells #[.int .i64 0, .string (⟨#[]⟩ : ByteArray), .string (⟨#[]⟩ : ByteArray), .string (⟨#[]⟩ : ByteArray), .string (⟨#[]⟩ : ByteArray), .int .i64 0, .int .i64 0, .int .i64 0, .string (⟨#[]⟩ : ByteArray), .int .i64 0, .slice none 0 0] 35) w44 (fun g45 w46 => StsK (ad g45) [.int .i64 x43.1.1, .string x43.1.2.1, .string x43.1.2.2.1, .string x43.1.2.2.2.1, .string x43.1.2.2.2.2.1, .int .i64 x43.1.2.2.2.2.2.1, .int .i64 x43.1.2.2.2.2.2.2.1, .int .i64 x43.1.2.2.2.2.2.2.2.1, .string x43.1.2.2.2.2.2.2.2.2.1, .int .i64 x43.1.2.2.2.2.2.2.2.2.2.1, .slice x43.1.2.2.2.2.2.2.2.2.2.2.1.1 x43.1.2.2.2.2.2.2.2.2.2.2.1.2.1 x43.1.2.2.2.2.2.2.2.2.2.2.1.2.2] w46 (fun w47 => CallK Tryz.prog 26 #[.slice x36.1 x36.2.1 x36.2.2] w47 (.tup [.agg KZ15, .one (.int .i64)]) (fun (x48 : YZ15 × Int × Unit) w49 => NewK (.cells #[.int .i64 0, .string (⟨#[]⟩ : ByteArray), .string (⟨#[]⟩ : ByteArray), .string (⟨#[]⟩ : ByteArray), .string (⟨#[]⟩ : ByteArray), .int .i64 0, .int .i64 0, .nilIface, .bool false] 45) w49 (fun g50 w51 => StsK (ad g50) [.int .i64 x48.1.1, .string x48.1.2.1, .string x48.1.2.2.1, .string x48.1.2.2.2.1, .string x48.1.2.2.2.2.1, .int .i64 x48.1.2.2.2.2.2.1, .int .i64 x48.1.2.2.2.2.2.2.1, x48.1.2.2.2.2.2.2.2.1, .bool x48.1.2.2.2.2.2.2.2.2.1] w51 (fun w52 => CallK Tryz.prog 27 #[.slice s4.1.1 s4.1.2.1 s4.1.2.2] w52 (.tup [.agg KZ19, .one (.int .i64)]) (fun (x53 : YZ19 × Int × Unit) w54 => NewK (.cells #[.int .i64 0, .string (⟨#[]⟩ : ByteArray), .string (⟨#[]⟩ : ByteArray), .string (⟨#[]⟩ : ByteArray), .string (⟨#[]⟩ : ByteArray), .int .i64 0, .int .i64 0, .int .i64 0, .string (⟨#[]⟩ : ByteArray), .int .i64 0, .slice none 0 0, .bool false] 48) w54 (fun g55 w56 => StsK (ad g55) [.int .i64 x53.1.1, .string x53.1.2.1, .string x53.1.2.2.1, .string x53.1.2.2.2.1, .string x53.1.2.2.2.2.1, .int .i64 x53.1.2.2.2.2.2.1, .int .i64 x53.1.2.2.2.2.2.2.1, .int .i64 x53.1.2.2.2.2.2.2.2.1, .string x53.1.2.2.2.2.2.2.2.2.1, .int .i64 x53.1.2.2.2.2.2.2.2.2.2.1, .slice x53.1.2.2.2.2.2.2.2.2.2.2.1.1 x53.1.2.2.2.2.2.2.2.2.2.2.1.2.1 x53.1.2.2.2.2.2.2.2.2.2.2.1.2.2, .bool x53.1.2.2.2.2.2.2.2.2.2.2.2.1] w56 (fun w57 => ifB (x38.2.1 != x43.2.1)
  (K (.bool false) w57)
  (ifB (x48.2.1 != x53.2.1)
  (K (.bool false) w57)
  (CallK Tryz.prog 28 #[.slice x36.1 x36.2.1 x36.2.2, .slice s4.1.1 s4.1.2.1 s4.1.2.2] w57 (.v (.one .bool)) (fun (x58 : Bool) w59 => ifB (!x58)
  (K (.bool false) w59)
  (JoinK (Bool × Unit) (fun J60 => DrewK w59 (fun w63 => HoldK (fun S64 => ifB (x38.2.1 == 0)
  (InK S64 (ad g40) (LdsK KZ14 (ad g40) w63 (fun (x65 : YZ14) => InK S64 (ad g45) (LdsK KZ17 (ad g45) w63 (fun (x66 : YZ17) => CallK Tryz.prog 30 #[.agg (LZ14 x65).toArray] w63 (.v (.agg KZ17)) (fun (x67 : YZ17) w68 => KeepK S64 w63 w68 (CallK Tryz.prog 29 #[.agg (LZ17 x67).toArray, .agg (LZ17 x66).toArray] w68 (.v (.one .bool)) (fun (x69 : Bool) w70 => KeepK S64 w68 w70 (ifB (!x69)
  (J60 (true, ()) w70)
  (ifB (x38.2.1 != 0)
  (InK S64 ((ad g40).add 0) (LdK (.int .i64) ((ad g40).add 0) w70 (fun (x71 : Int) => ifB (x71 != 0)
  (J60 (true, ()) w70)
  (InK S64 ((ad g40).add 7) (LdK .raw ((ad g40).add 7) w70 (fun (x72 : Value) => RunK Tryz.prog (do eqGuard .neq 28 (.tmp 143) (.const .nilIface) x72 .nilIface; binOp .neq 28 x72 .nilIface) w70 (.v (.one .bool)) (fun (x73 : Bool) w74 => KeepK S64 w70 w74 (J60 (x73, ()) w74))))))))
  (J60 (false, ()) w70)))))))))))
  (ifB (x38.2.1 != 0)
  (InK S64 ((ad g40).add 0) (LdK (.int .i64) ((ad g40).add 0) w63 (fun (x75 : Int) => ifB (x75 != 0)
  (J60 (true, ()) w63)
  (InK S64 ((ad g40).add 7) (LdK .raw ((ad g40).add 7) w63 (fun (x76 : Value) => RunK Tryz.prog (do eqGuard .neq 28 (.tmp 143) (.const .nilIface) x76 .nilIface; binOp .neq 28 x76 .nilIface) w63 (.v (.one .bool)) (fun (x77 : Bool) w78 => KeepK S64 w63 w78 (J60 (x77, ()) w78))))))))
  (J60 (false, ()) w63)))))
  (fun _ s61 w62 => ifB s61.1
  (K (.bool false) w62)
  (DrewK w62 (fun w79 => HoldK (fun S80 => ifB (x48.2.1 != 0)
  (ifB (x48.2.1 == 0)
  (CallK Tryz.prog 21 #[] w79 (.v (.one .bool)) (fun (x81 : Bool) w82 => KeepK S80 w79 w82 (K (.bool x81) w82)))
  (InK S80 (((ad g50).add 0).add 0) (LdK (.int .i64) (((ad g50).add 0).add 0) w79 (fun (x83 : Int) => ifB (x83 == 0)
  (InK S80 ((ad g50).add 8) (LdK .bool ((ad g50).add 8) w79 (fun (x84 : Bool) => ifB (!x84)
  (CallK Tryz.prog 21 #[] w79 (.v (.one .bool)) (fun (x85 : Bool) w86 => KeepK S80 w79 w86 (K (.bool x85) w86)))
  (K (.bool false) w79))))
  (K (.bool false) w79)))))
  (InK S80 ((ad g50).add 8) (LdK .bool ((ad g50).add 8) w79 (fun (x87 : Bool) => InK S80 ((ad g55).add 11) (LdK .bool ((ad g55).add 11) w79 (fun (x88 : Bool) => ifB (x87 == x88)
  (InK S80 ((ad g50).add 0) (LdsK KZ14 ((ad g50).add 0) w79 (fun (x89 : YZ14) => InK S80 ((ad g55).add 0) (LdsK KZ17 ((ad g55).add 0) w79 (fun (x90 : YZ17) => CallK Tryz.prog 30 #[.agg (LZ14 x89).toArray] w79 (.v (.agg KZ17)) (fun (x91 : YZ17) w92 => KeepK S80 w79 w92 (CallK Tryz.prog 29 #[.agg (LZ17 x91).toArray, .agg (LZ17 x90).toArray] w92 (.v (.one .bool)) (fun (x93 : Bool) w94 => KeepK S80 w92 w94 (ifB x93
  (ifB (x48.2.1 == 0)
  (CallK Tryz.prog 21 #[] w94 (.v (.one .bool)) (fun (x95 : Bool) w96 => KeepK S80 w94 w96 (K (.bool x95) w96)))
  (InK S80 (((ad g50).add 0).add 0) (LdK (.int .i64) (((ad g50).add 0).add 0) w94 (fun (x97 : Int) => ifB (x97 == 0)
  (InK S80 ((ad g50).add 8) (LdK .bool ((ad g50).add 8) w94 (fun (x98 : Bool) => ifB (!x98)
  (CallK Tryz.prog 21 #[] w94 (.v (.one .bool)) (fun (x99 : Bool) w100 => KeepK S80 w94 w100 (K (.bool x99) w100)))
  (K (.bool false) w94))))
  (K (.bool false) w94)))))
  (K (.bool false) w94))))))))))
  (K (.bool false) w79)))))))))))))))))))))))))))))
def pl4 : Plan := (.seq .auto (.join [(0, .one .slc)] (.seq .auto (.cond (.seq .auto (.seq .auto (.seq .auto (.join [(0, .one .slc)] .auto .auto)))) .auto)) (.seq .auto (.seq .auto (.seq .auto (.seq .auto (.seq .auto (.seq .auto (.seq (.join [(147, .one .bool)] (.held (.soft 0 (.soft 1 (.soft 2 (.soft 3 (.soft 5 (.pick 4 (.pick 6 (.soft 7 (.soft 8 (.soft 9 (.soft 10 (.soft 11 (.soft 12 (.soft 13 (.soft 14 (.soft 15 (.soft 16 (.soft 17 (.soft 18 (.pick 19 (.soft 20 (.soft 21 (.soft 22 .done))) .stop))))))))))))) .stop) .stop))))))) .auto) (.seq (.held (.soft 0 (.soft 1 (.soft 2 (.soft 3 (.soft 4 (.soft 5 (.soft 6 (.soft 7 (.soft 8 (.soft 9 (.soft 10 (.soft 12 (.soft 13 (.pick 11 (.pick 14 (.soft 15 (.soft 16 (.soft 17 (.soft 18 (.soft 19 (.soft 20 (.soft 21 (.soft 22 (.soft 23 (.soft 24 (.soft 25 (.soft 26 (.soft 27 (.soft 28 (.soft 29 (.soft 30 (.soft 31 (.soft 32 (.pick 33 (.soft 34 (.soft 35 .done)) .stop))))))))))))))))))) .stop) .stop))))))))))))))) .auto))))))))))
theorem e4 (p0 : Option Addr) (p0l p0c : Nat) (p1 : YZ13) (p2 : Int) (p3 : Int) (p4 : ByteArray) (p5 : Bool) (p6 : Int) (p7 : Int) (w : World) (K : Value → World → Prop) : vcFunc Tryz.prog Tryz.f4 pl4 [.slice p0 p0l p0c, .agg (LZ13 p1).toArray, .int .i64 p2, .int .i64 p3, .string p4, .bool p5, .int .i64 p6, .int .i64 p7] w K = C4 p0 p0l p0c p1 p2 p3 p4 p5 p6 p7 w K := by kernel_rfl
theorem c4 (p0 : Option Addr) (p0l p0c : Nat) (p1 : YZ13) (p2 : Int) (p3 : Int) (p4 : ByteArray) (p5 : Bool) (p6 : Int) (p7 : Int) (w : World) (K : Value → World → Prop) (h : C4 p0 p0l p0c p1 p2 p3 p4 p5 p6 p7 w K) : Ret Tryz.prog 4 #[.slice p0 p0l p0c, .agg (LZ13 p1).toArray, .int .i64 p2, .int .i64 p3, .string p4, .bool p5, .int .i64 p6, .int .i64 p7] w K := by
  rw [← e4] at h
  exact vcFunc_sound (by kernel_rfl) Tryz.func4 h

end Go.Proofs.YtbadiokobooliaaGreatDoor

/-! ### PTake -/
set_option linter.unusedVariables false
set_option maxRecDepth 100000
namespace Go.Proofs.YtbadiokobooliaaGreatDoor
open Vc

theorem byte_wrap (x : Int) : ∃ c : UInt8, Value.int .u8 (IntKind.u8.wrap x) = bc c := by
  refine ⟨UInt8.ofNat (x % 256).toNat, ?_⟩
  unfold bc
  have h0 : 0 ≤ x % 256 := Int.emod_nonneg _ (by decide)
  have h1 : x % 256 < 256 := Int.emod_lt_of_pos _ (by decide)
  rw [u8_nat (by omega)]
  congr 1
  simp [IntKind.wrap, IntKind.signed, IntKind.bits]
  omega

theorem lend_rd {w : World} {g : Nat} {bs : List UInt8} (h : IsB w (some ⟨g, 0, none⟩, bs.length + 3, bs.length + 3) (lendL bs)) : RdB w (some ⟨g, 0, none⟩, bs.length, bs.length + 3) bs := by
  obtain ⟨h1, h2, h3⟩ := h.rd
  refine ⟨by simp, (fun t => nomatch t), fun a ha => ?_⟩
  have := cellsAt_take _ 0 bs.length (h3 a ha)
  unfold lendL at this
  rw [List.map_append, List.take_append_of_le_length (by simp), List.take_of_length_le (by simp)] at this
  exact this

theorem takeE_sound {z : Bool} {bs : List UInt8} (h : (takeE z bs).2 = 0) : packM (takeE z bs).1.1 = (bs.drop 1, 0) := by
  unfold takeE at h ⊢
  split at h
  · cases h
  split at h
  · rename_i c; exact (c h).elim
  · rename_i a c
    rw [if_neg a, if_neg c]
    exact tkp_sound (Classical.not_not.1 c)
theorem takeE_bad {z : Bool} {bs : List UInt8} (h : (takeE z bs).2 ≠ 0) : (takeE z bs).1 = (zeroM, false) := by
  unfold takeE at h ⊢
  split at h
  · rename_i a; rw [if_pos a]
  split at h
  · rename_i a c; rw [if_neg a, if_pos c]
  · exact (h rfl).elim

theorem tkp_small (z : Bool) (bs : List UInt8) : fitT (takeP z bs).1.t := by
  unfold takeP; split
  · exact takeM_fit z bs
  · exact fit_none
theorem takeE_small (z : Bool) (bs : List UInt8) : fitT (takeE z bs).1.1.t := by
  unfold takeE; split
  · exact fit_none
  split
  · exact fit_none
  · exact tkp_small z _
theorem fit_cnt {t : Tm} (h : fitT t) : cntR (trT t) ≤ 1000000000000 := by have := cnt_trT t; have := h.1; omega

theorem takes12_walk (a0 : Option Addr) (len0 cap0 : Nat) (z0 : List Int) (p1 : CmV) (p2 p3 : Int) (p4 : ByteArray) (p5 : Bool) (p6 p7 : Int) (w : World) (h0 : IsInts .u8 w a0 len0 cap0 z0) (hc0 : cap0 ≤ reachBytes) (h1 : IsCm w p1) (h2 : (Go.Lit.int .i64 p2).wf = true) (h3 : (Go.Lit.int .i64 p3).wf = true) (h4 : p4.size ≤ maxLen) (h6 : (Go.Lit.int .i64 p6).wf = true) (h7 : (Go.Lit.int .i64 p7).wf = true) (ht : TabW w) :
    Ret Tryz.prog 4 #[.slice a0 len0 cap0, .agg (cmL p1).toArray, .int .i64 p2, .int .i64 p3, .string p4, .bool p5, .int .i64 p6, .int .i64 p7] w fun r w' => r = .bool true ∧ Fr none1 w w' := by
  refine c4 a0 len0 cap0 p1 p2 p3 p4 p5 p6 p7 w _ ?_
  unfold C4
  have hrb : reachBytes = 140737488351232 := rfl
  refine NewK.of fun g1 w1 hg1 hb1 f1 _ => ?_
  refine JoinK.of (fun s w' => ∃ bs : List UInt8, RdB w' s.1 bs ∧ s.1.2.1 ≤ s.1.2.2 ∧ bs.length ≤ 140737488351232 ∧ Fr none1 w w') ?_ ?_
  · refine ifB.not (ifB.by (fun _ => ?_) (fun _ => ?_))
    · obtain ⟨hr, hcap⟩ := args_rd h0
      refine ⟨(z0.take len0).map toByte, hr.keep0 f1, hcap, ?_, f1⟩
      have := hr.len
      dsimp only at this
      omega
    refine LdsK.blk (cks := [.int .i64, .int .i64, .int .i64, .int .i64, .int .i64, .str, .slc, .slc]) (x := p1) hb1 ?_
    refine CallK.of (some_spec p1 p2 p3 p4 (h1.1.keep0 f1)) ?_
    rintro _ w2 ⟨e, t, v, rfl, he, hz, hn, hsh, hm, f2⟩
    refine ⟨(e, evR e v, false, ()), rfl, ?_⟩
    have f12 := f1.trans f2
    have hone : one1 e.2.2.2.2.2.2.2.1 = true := by rw [he]; exact Tm.v_one t
    refine NewK.of fun g6 w3 hg6 hb6 f3 hs3 => NewK.of fun g8 w4 hg8 hb8 f4 hs4 => ?_
    refine StsK.blk (cs := [.int .i64 0, .string (⟨#[]⟩ : ByteArray), .string (⟨#[]⟩ : ByteArray), .string (⟨#[]⟩ : ByteArray), .string (⟨#[]⟩ : ByteArray), .int .i64 0, .int .i64 0, .nilIface]) (vs := evL e) (f4.keep0 hb6) rfl (evL_one hone) fun w5 hb65 f5 hs5 => ?_
    refine StsK.blk (cs := evRL (0, (⟨#[]⟩ : ByteArray), (⟨#[]⟩ : ByteArray), (⟨#[]⟩ : ByteArray), (⟨#[]⟩ : ByteArray), 0, 0, 0, (⟨#[]⟩ : ByteArray), 0, (none, 0, 0), ())) (vs := evRL (evR e v)) (f5.keep hb8 (fun q => by have : g8 = g6 := q; omega)) rfl rfl fun w6 hb86 f6 hs6 => ?_
    have f26 : Fr none1 w2 w6 := ((f3.trans f4).fresh f5 (by omega)).fresh f6 (by omega)
    have f16 := f12.trans f26
    have hm6 : IsTr w6 (since w1 w2) (trT t) v := IsTr.keep0 hm f26
    have hml : ∀ k, since w1 w2 k → k < w6.heap.size := fun k hk => by have := hk.2; have := f26.size; omega
    have hts := write_short t
    refine LdsK.blk (cks := ERK) (x := evR e v) hb86 ?_
    refine CallK.of (pack11_spec e t he hz (by omega) hsh (by omega) hm6 hml) ?_
    rintro _ w7 ⟨u, rfl, hu, f7, uf⟩
    refine ⟨(u, (packF e (writeT t).1 (writeT t).2).2, ()), rfl, by decide, ?_⟩
    have hpl := packF_len e hz (writeT t).1 (by omega) (writeT t).2
    obtain ⟨c, hcv⟩ := byte_wrap (p3.tmod 3)
    rw [hcv]
    obtain ⟨x, w8, hr8, hx, hxl, f8, xf⟩ := lit_ok (P := Tryz.prog) (w := w7) elem_byte [bc c] (by simp [bc, Value.cells]) (by simp)
    refine ⟨x, w8, hr8, ?_⟩
    have hx0 : IsB w8 x [c] := hx
    refine app_some hx0 (IsB.keep0 hu f8) (by simp only [List.length_singleton]; omega) fun y w9 hy f9 yf => ?_
    have s1 := f16.size; have s7 := f7.size; have s8 := f8.size
    have f19 : Fr none1 w w9 := ((f16.trans f7).trans f8).comp f9 fun k hk t => by have := xf k t; omega
    have hyf : ∀ k, blkOf y k → w.heap.size ≤ k := fun k hk => by rcases yf k hk with t | t; have := xf k t; omega; omega
    have hyl : ([c] ++ (packF e (writeT t).1 (writeT t).2).1).length ≤ 10000001 ∧ 1 ≤ ([c] ++ (packF e (writeT t).1 (writeT t).2).1).length := by simp only [List.length_append, List.length_singleton]; omega
    generalize [c] ++ (packF e (writeT t).1 (writeT t).2).1 = bs at *
    have hyn := hy.len
    refine JoinK.of (fun s w' => ∃ bs : List UInt8, IsB w' s.1 bs ∧ bs.length ≤ 10000001 ∧ (∀ k, blkOf s.1 k → w.heap.size ≤ k) ∧ Fr none1 w w') ?_ ?_
    · rw [wI (x := 2 * (y.2.1 : Int)) (by omega) (by omega)]
      refine CallK.of (within_spec p6 (2 * (y.2.1 : Int)) w9 (by omega)) ?_
      rintro _ _ ⟨rfl, rfl⟩
      refine ⟨_, rfl, ?_⟩
      have k0 := within_lo p6 (2 * (y.2.1 : Int))
      generalize within p6 (2 * (y.2.1 : Int)) = k at *
      refine ifB.dec (fun hlt => ?_) (fun _ => ⟨bs, hy, hyl.1, hyf, f19⟩)
      refine IsB.mid hy k0 (by omega) (Int.le_refl _) fun u hu hub => ?_
      exact ⟨_, hu, by rw [List.length_take, List.length_drop]; omega, fun k hk => hyf k (hub k hk), f19⟩
    rintro _ ⟨s, _⟩ w10 ⟨ds, hs, hsl, hsf, f10⟩
    dsimp only at hs hsf ⊢
    have hsn := hs.len
    rw [wI (x := 16 * (s.2.1 : Int)) (by omega) (by omega), wI (x := 16 * (s.2.1 : Int) + 1) (by omega) (by omega), wI (x := 8 * (s.2.1 : Int)) (by omega) (by omega)]
    refine CallK.of (within_spec p7 (16 * (s.2.1 : Int) + 1) w10 (by omega)) ?_
    rintro _ _ ⟨rfl, rfl⟩
    refine ⟨_, rfl, ?_⟩
    have k0 := within_lo p7 (16 * (s.2.1 : Int) + 1)
    generalize within p7 (16 * (s.2.1 : Int) + 1) = k at *
    refine ifB.dec (fun hlt => ?_) (fun _ => ⟨ds, hs.rd, hs.cap, by omega, f10⟩)
    have hq : k.tdiv 8 = k / 8 := Int.tdiv_eq_ediv_of_nonneg k0
    have hm : k.tmod 8 = k % 8 := Int.tmod_eq_emod_of_nonneg k0
    have hm0 : 0 ≤ k % 8 := Int.emod_nonneg _ (by decide)
    have hm1 : k % 8 < 8 := Int.emod_lt_of_pos _ (by decide)
    rw [hq, hm, wI (x := k / 8) (by omega) (by omega), wU (x := k % 8) (by omega) (by omega)]
    refine ⟨by decide, ?_⟩
    refine RdB.at hs.rd (by omega) (by omega) ?_
    refine ⟨by decide, hm0, ?_⟩
    obtain ⟨d, hd⟩ := byte_wrap (((BitVec.ofInt 8 ((ds.getD (k / 8).toNat 0).toNat : Int) ^^^ BitVec.ofInt 8 (IntKind.u8.wrap (1 * 2 ^ (min (Int.toNat (k % 8)) 8)))).toNat : Int))
    rw [hd]
    refine IsSl.st hs (by omega) (by omega) rfl fun w11 hb11 f11 _ => ?_
    have hb11' : IsB w11 s (ds.set (k / 8).toNat d) := by unfold IsB; rw [List.map_set]; exact hb11
    exact ⟨_, hb11'.rd, hb11'.cap, by rw [List.length_set]; omega, f10.comp f11 fun j hj t => by have := hsf j t; omega⟩
  rintro _ ⟨s, _⟩ w2 ⟨bs, hs, hsc, hsl, f2⟩
  dsimp only at hs hsc ⊢
  refine CallK.of (lend_spec hs hsl) ?_
  rintro _ w3 ⟨gL, rfl, hgL, hL, f3⟩
  refine ⟨(some ⟨gL, 0, none⟩, bs.length, bs.length + 3), rfl, ?_⟩
  have ht2 : TabW w2 := ht.keep0 f2
  refine CallK.of (take_spec (lend_rd hL) (by dsimp only; omega) (ht2.keep0 f3)) ?_
  rintro _ w4 ⟨rfl, f4⟩
  have hs2 := f2.size
  have hsame : takeP true bs = takeP false bs := tkp_same bs
  have hsameE : takeE true bs = takeE false bs := takeE_same bs
  have hso : (takeP false bs).2 = 0 → packM (takeP false bs).1 = (bs, 0) := fun h => tkp_sound h
  have hba : (takeP false bs).2 ≠ 0 → takeP false bs = (zeroM, 2) := fun h => tkp_bad h
  have hfit := tkp_small false bs
  have hsoE : (takeE false bs).2 = 0 → packM (takeE false bs).1.1 = (bs.drop 1, 0) := fun h => takeE_sound h
  have hbaE : (takeE false bs).2 ≠ 0 → (takeE false bs).1 = (zeroM, false) := fun h => takeE_bad h
  have hfitE := takeE_small false bs
  refine ⟨((takeP false bs).1.e, (takeP false bs).2, ()), rfl, ?_⟩
  refine ns_ok (zs := evL zeroM.e) (vs := evL (takeP false bs).1.e) rfl (evL_one (Tm.v_one _)) fun g5 w5 hg5 hb5 f5 => ?_
  have f35 := f4.trans f5
  have hs5 : RdB w5 s bs := (hs.keep0 f3).keep0 f35
  refine CallK.of (take11_spec hs5 hsc) ?_
  rintro _ w6 ⟨t1, rfl, m1, f6⟩
  rw [hsame] at m1
  rw [hsame]
  refine ⟨(evR (takeP false bs).1.e t1, (takeP false bs).2, ()), rfl, ?_⟩
  refine ns_ok (zs := evRL (evR zeroM.e zeroV)) (vs := evRL (evR (takeP false bs).1.e t1)) rfl rfl fun g7 w7 hg7 hb7 f7 => ?_
  have f37 := (f35.trans f6).trans f7
  have hL7 := hL.keep0 f37
  refine CallK.of (tentry_spec (lend_rd hL7) (by dsimp only; omega) ((ht2.keep0 f3).keep0 f37)) ?_
  rintro _ w8 ⟨rfl, f8⟩
  refine ⟨(enOf (takeE false bs).1.1.e (takeE false bs).1.2, (takeE false bs).2, ()), rfl, ?_⟩
  refine ns_ok (zs := enL zeroM.e false) (vs := enL (takeE false bs).1.1.e (takeE false bs).1.2) rfl (enL_one _ (Tm.v_one _)) fun g9 w9 hg9 hb9 f9 => ?_
  have f39 := (f37.trans f8).trans f9
  refine CallK.of (tentry11_spec ((hs.keep0 f3).keep0 f39) hsc) ?_
  rintro _ w10 ⟨t2, rfl, m2, f10⟩
  rw [hsameE] at m2
  rw [hsameE]
  refine ⟨(enRof (evR (takeE false bs).1.1.e t2) (takeE false bs).1.2, (takeE false bs).2, ()), rfl, ?_⟩
  refine ns_ok (zs := enRL (evR zeroM.e zeroV) false) (vs := enRL (evR (takeE false bs).1.1.e t2) (takeE false bs).1.2) rfl rfl fun g11 w11 hg11 hb11 f11 => ?_
  have f311 := (f39.trans f10).trans f11
  have f911 := f10.trans f11
  have f711 := (f8.trans f9).trans f911
  have f511 := (f6.trans f7).trans f711
  refine ifB.f (by simp) (ifB.f (by simp) ?_)
  refine CallK.of (intact_spec (hL.keep0 f311) ((hs.keep0 f3).keep0 f311) hsl) ?_
  rintro _ w12 ⟨rfl, f12⟩
  refine ⟨_, rfl, ifB.f rfl ?_⟩
  have b5 := f12.keep0 (f511.keep0 hb5)
  have b7 := f12.keep0 (f711.keep0 hb7)
  have b9 := f12.keep0 (f911.keep0 hb9)
  have b11 := f12.keep0 hb11
  have T1 := IsTr.keep0 m1 ((f7.trans f711).trans f12)
  have T2 := IsTr.keep0 m2 (f11.trans f12)
  have F := ((f2.trans f3).trans f311).trans f12
  generalize takeP false bs = P at *
  generalize takeE false bs = E at *
  clear hb1 f1 hb5 hb7 hb9 hb11 hL hL7 m1 m2 hs5
  refine JoinK.of (fun st w' => st.1 = false ∧ Fr none1 w12 w') ?_ ?_
  · refine DrewK.of fun w13 _ f13 => HoldK.all ?_
    refine ifB.eq (fun h => ?_) (fun h => ?_)
    · refine InK.all (LdsK.blk (cks := EK) (x := P.1.e) (f13.keep0 b5) (InK.all (LdsK.blk (cks := ERK) (x := evR P.1.e t1) (f13.keep0 b7) ?_)))
      refine CallK.of (event_of_spec P.1.e P.1.t rfl w13) ?_
      rintro _ w14 ⟨v2, rfl, mv, f14⟩
      refine ⟨evR P.1.e v2, rfl, KeepK.of f14 ?_⟩
      refine CallK.of (same11_spec P.1 P.1 (fit_cnt hfit) mv (IsTr.keep0 T1 (f13.trans f14))) ?_
      rintro _ w15 ⟨rfl, f15⟩
      refine ⟨_, rfl, KeepK.of f15 ?_⟩
      rw [same_self (hso h)]
      exact ifB.f rfl (ifB.f (by rw [h]; rfl) ⟨rfl, (f13.trans f14).trans f15⟩)
    · rw [hba h] at b5
      refine ifB.t (by simp [h]) (InK.all (LdK.fld (f13.keep0 b5) (x := 0) rfl (ifB.f (by decide) (InK.all (LdK.fld (f13.keep0 b5) (x := Value.nilIface) rfl ?_)))))
      refine ⟨false, w13, nil_neq ifc_term _ (.inl rfl) w13, KeepK.same ⟨rfl, f13⟩⟩
  rintro _ ⟨q, _⟩ w13 ⟨hq, f13⟩
  dsimp only at hq ⊢
  subst hq
  refine ifB.f rfl ?_
  refine DrewK.of fun w14 _ f14 => HoldK.all ?_
  have f134 := f13.trans f14
  have wake : ∀ wa, Fr none1 w13 wa → ∀ {K : Bool → World → Prop}, (∀ wb, Fr none1 wa wb → K true wb) → CallK Tryz.prog 21 #[] wa (.v (.one .bool)) (fun (x : Bool) wb => KeepK all1 wa wb (K x wb)) := fun wa _ {K} k => by
    refine CallK.of (wakes12_spec wa) ?_
    rintro _ wb ⟨rfl, fb⟩
    exact ⟨_, rfl, KeepK.of fb (k wb fb)⟩
  refine ifB.ne (fun h => ?_) (fun h => ?_)
  · rw [hbaE h] at b9
    refine ifB.f (by simp [h]) ?_
    refine InK.all ?_
    rw [addr_add, addr_add]
    refine LdK.of (f134.keep0 b9) (x := 0) rfl (ifB.t rfl (InK.all (LdK.fld (f134.keep0 b9) (x := false) rfl (ifB.t rfl ?_))))
    exact wake w14 f14 fun wb fb => ⟨rfl, (F.trans f134).trans fb⟩
  · refine InK.all (LdK.fld (f134.keep0 b9) (x := E.1.2) rfl (InK.all (LdK.fld (f134.keep0 b11) (x := E.1.2) rfl (ifB.t (by simp) ?_))))
    refine InK.all (LdsK.pre (cks := EK) (x := E.1.1.e) (f134.keep0 b9) (fun j hj => ?_) ?_)
    · match j, hj with
      | 0, _ => rfl
      | 1, _ => rfl
      | 2, _ => rfl
      | 3, _ => rfl
      | 4, _ => rfl
      | 5, _ => rfl
      | 6, _ => rfl
      | 7, _ => rfl
      | j + 8, h => exact absurd h (by show ¬ j + 8 < 8; omega)
    refine InK.all (LdsK.pre (cks := ERK) (x := evR E.1.1.e t2) (f134.keep0 b11) (fun j hj => ?_) ?_)
    · match j, hj with
      | 0, _ => rfl
      | 1, _ => rfl
      | 2, _ => rfl
      | 3, _ => rfl
      | 4, _ => rfl
      | 5, _ => rfl
      | 6, _ => rfl
      | 7, _ => rfl
      | 8, _ => rfl
      | 9, _ => rfl
      | 10, _ => rfl
      | j + 11, h => exact absurd h (by show ¬ j + 11 < 11; omega)
    refine CallK.of (event_of_spec E.1.1.e E.1.1.t rfl w14) ?_
    rintro _ w15 ⟨v2, rfl, mv, f15⟩
    refine ⟨evR E.1.1.e v2, rfl, KeepK.of f15 ?_⟩
    refine CallK.of (same11_spec E.1.1 E.1.1 (fit_cnt hfitE) mv (IsTr.keep0 T2 (f134.trans f15))) ?_
    rintro _ w16 ⟨rfl, f16⟩
    refine ⟨_, rfl, KeepK.of f16 ?_⟩
    rw [same_self (hsoE h)]
    refine ifB.t rfl (ifB.t (by rw [h]; rfl) ?_)
    exact wake w16 ((f14.trans f15).trans f16) fun wb fb => ⟨rfl, (((F.trans f134).trans f15).trans f16).trans fb⟩

end Go.Proofs.YtbadiokobooliaaGreatDoor
