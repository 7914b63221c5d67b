/-
  What a journal's opening reads: the records that bytes begin with; lists of rows compared.
  Conditions: the file lies in blocks of its own; it is not lit, and lives.
-/
import Derived.Test.YtejhjjafmobmbaaJForms
import Derived.Test.YtejhjjafmobmbaaCKRows
set_option linter.unusedVariables false
namespace Go.Proofs.Ytejhjjafmobmbaa
open Vc

def sizeL (bs : List UInt8) : Nat := 256 * (bs.getD 0 0).toNat + (bs.getD 1 0).toNat
/-- The record that bytes begin with, and what stands behind it. -/
def firstL (bs : List UInt8) : Option (List UInt8 × List UInt8) :=
  if bs.length < 2 then none else if 4000 < sizeL bs then none else if bs.length < sizeL bs + 3 then none else
  if bs.getD (2 + sizeL bs) 0 ≠ xorL 150 (bs.take (2 + sizeL bs)) then none else some ((bs.drop 2).take (sizeL bs), bs.drop (sizeL bs + 3))

theorem or_size (a b : UInt8) : ((BitVec.ofInt 64 ((a.toNat : Int) * 256) ||| BitVec.ofInt 64 (b.toNat : Int)).toNat : Int) = 256 * (a.toNat : Int) + (b.toNat : Int) := by
  have ha := UInt8.toNat_lt a
  have hb := UInt8.toNat_lt b
  have e1 : (BitVec.ofInt 64 ((a.toNat : Int) * 256)).toNat = 2 ^ 8 * a.toNat := by
    rw [show (a.toNat : Int) * 256 = ((2 ^ 8 * a.toNat : Nat) : Int) by omega, BitVec.ofInt_natCast, BitVec.toNat_ofNat, Nat.mod_eq_of_lt (by omega)]
  have e2 : (BitVec.ofInt 64 (b.toNat : Int)).toNat = b.toNat := by
    rw [BitVec.ofInt_natCast, BitVec.toNat_ofNat, Nat.mod_eq_of_lt (by omega)]
  rw [BitVec.toNat_or, e1, e2, ← Nat.two_pow_add_eq_or_of_lt (by omega)]
  omega

def FirstIs (w : World) (v : Sl) (bs : List UInt8) (r : Value) (w' : World) : Prop :=
  Fr none1 w w' ∧ match firstL bs with
  | none => r = .tuple #[.slice none 0 0, .slice v.1 v.2.1 v.2.2, .bool false]
  | some (x, t) => ∃ u q : Sl, r = .tuple #[.slice u.1 u.2.1 u.2.2, .slice q.1 q.2.1 q.2.2, .bool true] ∧ IsB w' u x ∧ (∀ k, blkOf u k → w.heap.size ≤ k) ∧ RdB w' q t ∧ q.2.1 ≤ q.2.2 ∧ ∀ k, blkOf q k → blkOf v k

theorem first_spec {w : World} {v : Sl} {bs : List UInt8} (h : RdB w v bs) (hc : v.2.1 ≤ v.2.2) (hl : bs.length ≤ 1000000) : Ret Try.prog 80 #[.slice v.1 v.2.1 v.2.2] w (FirstIs w v bs) := by
  have hvl := h.len
  refine c80 v.1 v.2.1 v.2.2 w _ ?_
  unfold C80 FirstIs firstL
  refine ifB.dec (fun h2 => ?_) (fun h2 => ?_)
  · rw [if_pos (by omega)]; exact ⟨Fr.refl _ _, rfl⟩
  rw [if_neg (by omega)]
  obtain ⟨a0, ha0, hcell0⟩ := h.cellAt (i := 0) (by omega) (by omega)
  obtain ⟨a1, ha1, hcell1⟩ := h.cellAt (i := 1) (by omega) (by omega)
  have b0 := UInt8.toNat_lt (bs.getD 0 0)
  have b1 := UInt8.toNat_lt (bs.getD 1 0)
  refine RegK.still0 ?_
  refine ⟨a0, ha0, by omega, by omega, ?_⟩
  refine AnyK.still0 ((bs.getD 0 0).toNat : Int) (fun w7 f7 => LdK.cell (hcell0 w7 f7) ⟨rfl, f7⟩) ?_
  refine AnyK.still0 (IntKind.i64.wrap ((bs.getD 0 0).toNat : Int)) (fun w7 f7 => ⟨rfl, f7⟩) ?_
  refine ⟨by omega, a1, ha1, by omega, by omega, ?_⟩
  refine AnyK.still0 ((bs.getD 1 0).toNat : Int) (fun w7 f7 => LdK.cell (hcell1 w7 f7) ⟨rfl, f7⟩) ?_
  refine AnyK.still0 (IntKind.i64.wrap ((bs.getD 1 0).toNat : Int)) (fun w7 f7 => ⟨rfl, f7⟩) ?_
  intro w1 f1
  have f1 : Fr none1 w w1 := f1
  have esz : IntKind.i64.wrap ((BitVec.ofInt 64 (IntKind.i64.wrap (IntKind.i64.wrap ((bs.getD 0 0).toNat : Int) * 2 ^ (min (Int.toNat 8) 64))) ||| BitVec.ofInt 64 (IntKind.i64.wrap ((bs.getD 1 0).toNat : Int))).toNat : Int) = (sizeL bs : Int) := by
    rw [wI (x := ((bs.getD 0 0).toNat : Int)) (by omega) (by omega), wI (x := ((bs.getD 1 0).toNat : Int)) (by omega) (by omega), show (2 : Int) ^ (min (Int.toNat 8) 64) = 256 from rfl, wI (x := ((bs.getD 0 0).toNat : Int) * 256) (by omega) (by omega), or_size]
    unfold sizeL
    rw [wI (by omega) (by omega)]
    omega
  have hszb : sizeL bs ≤ 65535 := by unfold sizeL; omega
  rw [esz]
  generalize sizeL bs = n at *
  rw [wI (x := 2 + (n : Int)) (by omega) (by omega), wI (x := 2 + (n : Int) + 1) (by omega) (by omega)]
  refine RegK.still0 ?_
  refine ifB.dec (fun h3 => ?_) (fun h3 => ?_)
  · rw [if_pos (by omega)]
    refine ⟨fun D w2 f2 => f2, ⟨fun D w2 f2 => f2, fun w2 f2 => ?_⟩⟩
    have f2 : Fr none1 w1 w2 := f2
    exact ⟨f1.trans f2, rfl⟩
  rw [if_neg (by omega)]
  refine ifB.dec (fun h4 => ?_) (fun h4 => ?_)
  · rw [if_pos (by omega)]
    refine ⟨fun D w2 f2 => f2, ⟨fun D w2 f2 => f2, fun w2 f2 => ?_⟩⟩
    have f2 : Fr none1 w1 w2 := f2
    exact ⟨f1.trans f2, rfl⟩
  rw [if_neg (by omega)]
  have r1 := h.keep0 f1
  obtain ⟨a2, ha2, hcell2⟩ := r1.cellAt (i := 2 + (n : Int)) (by omega) (by omega)
  rw [show (2 + (n : Int)).toNat = 2 + n by omega] at hcell2
  refine ⟨a2, ha2, by omega, by omega, ?_⟩
  rw [show (2 + (n : Int)).toNat = 2 + n by omega]
  refine AnyK.still0 ((bs.getD (2 + n) 0).toNat : Int) (fun w7 f7 => LdK.cell (hcell2 w7 f7) ⟨rfl, f7⟩) ?_
  refine RdB.sub r1 (n := 2 + (n : Int)) (by omega) (by omega) hc fun hs => ?_
  rw [show (2 + (n : Int)).toNat = 2 + n by omega] at hs
  refine AnyK.still0 ((xorL 150 (bs.take (2 + n))).toNat : Int) (fun w7 f7 => ?_) ?_
  · refine CallK.of (xor_spec (v := (v.1, (2 + (n : Int)).toNat, v.2.2)) (bs := bs.take (2 + n)) ?_ (by simp only [List.length_take]; omega)) ?_
    · rw [show (2 + (n : Int)).toNat = 2 + n by omega]; exact hs.keep0 f7
    rintro _ _ ⟨rfl, rfl⟩
    exact ⟨_, rfl, rfl, f7⟩
  intro w2 f2
  have f2 : Fr none1 w1 w2 := f2
  refine ifB.ne (fun hne => ?_) (fun heq => ?_)
  · rw [if_pos (fun t => hne (by rw [t]))]
    exact ⟨f1.trans f2, rfl⟩
  rw [if_neg (by rw [Decidable.not_not]; exact UInt8.toNat_inj.1 (by omega))]
  have f02 := f1.trans f2
  have r0 := drew_fr w2
  generalize hW0 : ({ w2 with drawn := w2.drawn + 1 } : World) = W0 at r0
  have rW0 := (h.keep0 f02).keep0 r0
  have esub : ((bs.drop (2 : Int).toNat).take (2 + (n : Int) - 2).toNat) = (bs.drop 2).take n := by rw [show (2 + (n : Int) - 2).toNat = n by omega]; rfl
  -- the record in new memory
  obtain ⟨mid, hmid, hmidr⟩ : ∃ mid : Sl, RdB W0 mid ((bs.drop 2).take n) ∧ ∀ K : Option Addr → Nat → Nat → Prop, K mid.1 mid.2.1 mid.2.2 → SubK v.1 v.2.2 2 (2 + (n : Int)) v.2.2 1 K := by
    have := RdB.mid rW0 (lo := 2) (hi := 2 + (n : Int)) (K := fun a l c => ∃ u : Sl, u = (a, l, c) ∧ RdB W0 u ((bs.drop 2).take n)) (by omega) (by omega) (by omega) hc (fun u hu _ _ _ => ⟨u, rfl, by rw [esub] at hu; exact hu⟩)
    obtain ⟨q1, q2, q3, q4, u, hu, hr⟩ := this.out
    exact ⟨u, hr, fun K hK => ⟨q1, q2, q3, q4, by rw [hu] at hK; exact hK⟩⟩
  obtain ⟨u, W1, hr1, hu, q1, huf⟩ := clone_is hmid (by simp only [List.length_take, List.length_drop]; omega)
  refine ⟨⟨fun D w9 => (D 4 = false → w9 = W0) ∧ (D 4 = true → w9 = W1), ⟨fun _ => hW0, (fun t => by cases t)⟩, ?_⟩⟩
  refine hmidr _ ?_
  refine ⟨u, fun D w9 hD _ hC => ?_, ?_⟩
  · obtain rfl := hC.1 hD
    refine CallK.of hr1 ?_
    rintro _ _ ⟨rfl, rfl⟩
    exact ⟨u, rfl, rfl, (fun t => by rw [upd_self'] at t; cases t), fun _ => rfl⟩
  refine RdB.mid ((rW0.keep0 q1)) (lo := 2 + (n : Int) + 1) (hi := v.2.1) (by omega) (by omega) (Int.le_refl _) hc fun q hq hqc _ hqb => ?_
  intro w9 hC
  obtain rfl := hC.2 rfl
  have e4 : ((bs.drop (2 + (n : Int) + 1).toNat).take ((v.2.1 : Int) - (2 + (n : Int) + 1)).toNat) = bs.drop (n + 3) := by
    rw [show (2 + (n : Int) + 1).toNat = n + 3 by omega, List.take_of_length_le (by simp only [List.length_drop]; omega)]
  rw [e4] at hq
  refine ⟨(f02.trans r0).trans q1, u, q, rfl, hu, fun k hk => ?_, hq, hqc, hqb⟩
  exact Nat.le_trans (f02.trans r0).size (huf k hk)

theorem firstL_lt {bs x t : List UInt8} (h : firstL bs = some (x, t)) : t.length + 3 ≤ bs.length ∧ x.length + t.length + 3 = bs.length ∧ x.length ≤ 4000 := by
  unfold firstL at h
  split at h
  · cases h
  split at h
  · cases h
  split at h
  · cases h
  split at h
  · cases h
  injection h with h
  injection h with h1 h2
  subst h1; subst h2
  simp only [List.length_take, List.length_drop]
  omega

/-- The records that bytes are, and what stands behind them. -/
inductive Parse : List UInt8 → List (List UInt8) → List UInt8 → Prop where
  | stop {bs : List UInt8} : firstL bs = none → Parse bs [] bs
  | next {bs x t q : List UInt8} {l : List (List UInt8)} : firstL bs = some (x, t) → Parse t l q → Parse bs (x :: l) q

theorem Parse.len {bs q : List UInt8} {l : List (List UInt8)} (h : Parse bs l q) : q.length + 3 * l.length ≤ bs.length ∧ ∀ r ∈ l, r.length ≤ 4000 := by
  induction h with
  | stop _ => simp
  | next h _ ih =>
    have := firstL_lt h
    simp only [List.length_cons, List.mem_cons]
    refine ⟨by omega, fun r hr => ?_⟩
    rcases hr with rfl | hr
    · exact this.2.2
    · exact ih.2 r hr

/-- Where a file is opened. -/
def Opened (w : World) (b g : Nat) (s : FileS) (rows : List (List UInt8)) (rest : List UInt8) (r : Value) (w' : World) : Prop :=
  ∃ (p : Nat) (S : Nat → Prop) (g' : Nat) (s' : FileS), r = .tuple #[.pointer (some ⟨p, 0, none⟩), .int .i64 0] ∧ w.heap.size ≤ p ∧ Fr (only b) w w' ∧ (∀ k, S k → w.heap.size ≤ k) ∧ (g' = b ∨ g' = g ∨ w.heap.size ≤ g') ∧ IsJ w' S p b g' s' false rows ∧
    s'.b = s.b.take (s.b.length - rest.length) ∧ s'.quota = s.quota ∧ s'.lit = false ∧ s'.dead = false ∧ (s'.synced = s.synced ∧ rest = [] ∨ s'.synced = s'.b.length)

theorem open_spec {w : World} {b g : Nat} {s : FileS} {rows : List (List UInt8)} {rest : List UInt8} (h : IsFile w b g s) (hd : s.dead = false) (hl : s.lit = false) (hP : Parse s.b rows rest) :
    Ret Try.prog 65 #[.pointer (some ⟨b, 0, none⟩)] w (Opened w b g s rows rest) := by
  have hbl := h.lt
  have hgl := h.glt
  have hsl := h.ok.len
  refine c65 _ w _ ?_
  refine CallK.of (fdead_spec h) ?_
  rintro _ _ ⟨rfl, rfl⟩
  rw [hd]
  refine ⟨_, rfl, ifB.f rfl ?_⟩
  refine NewK.of fun p w1 hp hp1 f1 hs1 => ?_
  have h1 := h.keep0 f1
  refine CallK.of (fbytes_spec h1) ?_
  rintro _ w2 ⟨u, rfl, hu, f2, huf⟩
  refine ⟨u, rfl, ?_⟩
  have hul := hu.len
  have f02 := f1.trans f2
  have hs12 := f2.size
  have hu_lt : ∀ k, blkOf u k → k < w2.heap.size := fun k hk => IsSl.lt hu hk
  have F0 : Fr (only p) w2 w2 := Fr.refl _ _
  refine LoopK.of (fun q w' => ∃ (jl : Sl) (S : Nat → Prop) (rs : List (List UInt8)) (bs : List UInt8), RdB w' q.1 bs ∧ q.1.2.1 ≤ q.1.2.2 ∧ (∀ k, blkOf q.1 k → blkOf u k) ∧ (∃ l, rows = rs ++ l ∧ Parse bs l rest) ∧ bs.length + 3 * rs.length ≤ s.b.length ∧
      w'.heap[p]? = some (.cells #[.pointer (some ⟨b, 0, none⟩), .slice jl.1 jl.2.1 jl.2.2, .bool false] 105 (0, 0)) ∧ IsRows w' S jl rs ∧ (∀ k, S k → w2.heap.size ≤ k) ∧ Fr (only p) w2 w') (fun q _ => q.1.2.1)
    ⟨(none, 0, 0), fun _ => False, [], s.b, hu.rd, hu.cap, fun k hk => hk, ⟨rows, rfl, hP⟩, by simp, f2.keep0 hp1, none_rows _ _ (fun k t => t.elim), fun k t => t.elim, F0⟩ ?_
  rintro _ ⟨q, _⟩ w3 ⟨jl, S, rs, bs, hq, hqc, hqb, ⟨l, hrows, hPl⟩, hlen, hp3, hj3, hS, f3⟩
  dsimp only at hq hqc hqb ⊢
  have hql := hq.len
  refine CallK.of (first_spec hq hqc (by omega)) ?_
  rintro r w4 ⟨f4, hr⟩
  have hp4 := f4.keep0 hp3
  have hj4 := hj3.keep0 f4
  have f24 : Fr (only p) w2 w4 := f3.then0 f4
  have s24 := f24.size
  cases hPl with
  | stop hn =>
    rw [hn] at hr
    dsimp only at hr
    subst hr
    refine ⟨((none, 0, 0), (q.1, q.2.1, q.2.2), false, ()), rfl, ifB.t rfl ?_⟩
    rw [List.append_nil] at hrows
    subst hrows
    have h4 : IsFile w4 b g s := (h.keep0 f02).keep f24 (fun t => by have : b = p := t; omega) (fun t => by have : g = p := t; omega)
    have j4 : IsJ w4 S p b g s false rows := ⟨h4, ⟨jl, hp4, hj4⟩, by omega, fun k hk => by have := hS k hk; omega⟩
    refine ifB.dec (fun hpos => ?_) (fun hz => ?_)
    · have hn1 : ((u.2.1 : Int) - (q.2.1 : Int)) = ((s.b.length - rest.length : Nat) : Int) := by omega
      rw [wI (x := (u.2.1 : Int) - (q.2.1 : Int)) (by omega) (by omega), hn1]
      obtain ⟨a1, a2, a3, a4, a5, a6⟩ := cutF_ok (s := s) (n := ((s.b.length - rest.length : Nat) : Int)) hl hd (by omega) (by omega)
      refine CallK.of (fcut_spec h4 _) ?_
      rintro _ w5 ⟨rfl, t5⟩
      rw [a1]
      refine ⟨_, rfl, ifB.f rfl ?_⟩
      have f5 := t5.1
      obtain ⟨g', hg', j5⟩ := j4.filed t5
      refine ⟨p, S, g', _, rfl, by omega, ((f02.fresh f24 (by omega)).mono fun _ _ t => t.elim).trans f5, fun k hk => Nat.le_trans f02.size (hS k hk), ?_, j5, ?_, a3, a5, a6, .inr ?_⟩
      · have := (f02.fresh f24 (by omega)).size
        rcases hg' with t | t | t
        · exact .inl t
        · exact .inr (.inl t)
        · exact .inr (.inr (by omega))
      · rw [a2, Int.toNat_natCast]
      · rw [a4, a2, Int.toNat_natCast, List.length_take]; omega
    · have hr0 : rest = [] := List.eq_nil_of_length_eq_zero (by omega)
      refine ⟨p, S, g, s, rfl, by omega, (f02.fresh f24 (by omega)).mono fun _ _ t => t.elim, fun k hk => Nat.le_trans f02.size (hS k hk), .inr (.inl rfl), j4, ?_, rfl, hl, hd, .inl ⟨rfl, hr0⟩⟩
      rw [hr0, List.length_nil, Nat.sub_zero, List.take_length]
  | next hf hPt =>
    rename_i x t l'
    rw [hf] at hr
    obtain ⟨y, q2, hr, hy, hyf, hq2, hq2c, hq2b⟩ := hr
    subst hr
    have hlt := firstL_lt hf
    refine ⟨((y.1, y.2.1, y.2.2), (q2.1, q2.2.1, q2.2.2), true, ()), rfl, ifB.f rfl ?_⟩
    refine LdK.fld hp4 (x := jl) rfl ?_
    have s34 := f4.size
    have s23 := f3.size
    have hjl := hj3.lt
    obtain ⟨m, w5, z, w6, r1, f5, r2, f6, S', hS', hz⟩ := hj4.snoc hy.rd (fun k hk => ⟨IsSl.lt hy hk, fun t => by have := hjl k t; have := hyf k hk; omega⟩) (by omega)
    refine ⟨m, w5, r1, z, w6, r2, ?_⟩
    have npj : ¬ blkOf jl p := fun t => by have := hS p (hj3.own p t); omega
    have hp6 := f6.keep hp4 npj
    refine StK.fld hp6 (by simp) rfl fun w7 hp7 f7 _ => ?_
    have hS'' : ∀ k, S' k → w2.heap.size ≤ k := fun k hk => by
      rcases hS' k hk with t | t | t
      · exact hS k t
      · have := hyf k t; omega
      · omega
    have f46 : ∀ k, blkOf q2 k → ¬ blkOf jl k := fun k hk t => by have := hu_lt k (hqb k (hq2b k hk)); have := hS k (hj3.own k t); omega
    have hq7 : RdB w7 q2 t := (hq2.keep f6 f46).keep f7 (fun k hk t => by have := hu_lt k (hqb k (hq2b k hk)); have := huf k (hqb k (hq2b k hk)); have : k = p := t; omega)
    refine ⟨⟨z, S', rs ++ [x], t, hq7, hq2c, fun k hk => hqb k (hq2b k hk), ⟨l', by rw [hrows]; simp, hPt⟩, by simp only [List.length_append, List.length_singleton]; omega, hp7, hz.keep f7 (fun k hk t => by have := hS'' k hk; have : k = p := t; omega), hS'', ?_⟩, ?_⟩
    · exact (f24.comp f6 (fun x hx t => by have := hS x (hj3.own x t); omega)).trans f7
    · have := hq2.len
      dsimp only
      omega

theorem IsRows.row {w : World} {S : Nat → Prop} {v : Sl} {rs : List (List UInt8)} (h : IsRows w S v rs) {i : Int} (h0 : 0 ≤ i) (h1 : i < v.2.1) {K : Sl → Prop} (k : ∀ u : Sl, RdB w u (rs.getD i.toNat []) → K u) : IdxK v.1 v.2.1 i 1 fun p => LdK .slc p w K := by
  have hl := h.len
  obtain ⟨⟨us, a1, a2, a3, a4⟩, o, l⟩ := h
  have hi : i.toNat < us.length := by omega
  exact IsSl.ld a1 h0 h1 (x := us.getD i.toNat nils) (by rw [List.getElem?_map, List.getD_eq_getElem?_getD, List.getElem?_eq_getElem hi]; rfl) (k _ (a3 i.toNat hi))

theorem rows_same {w : World} {S T : Nat → Prop} {x y : Sl} {xs ys : List (List UInt8)} (hx : IsRows w S x xs) (hy : IsRows w T y ys) (hl : xs.length ≤ 1000000) (hr : ∀ r ∈ xs, r.length ≤ 100000000) :
    Ret Try.prog 67 #[.slice x.1 x.2.1 x.2.2, .slice y.1 y.2.1 y.2.2] w fun r w' => r = .bool (decide (xs = ys)) ∧ Fr none1 w w' := by
  refine c67 x.1 x.2.1 x.2.2 y.1 y.2.1 y.2.2 w _ ?_
  have ex := hx.len
  have ey := hy.len
  refine ifB.ne (fun h => ?_) (fun h => ?_)
  · refine ⟨?_, Fr.refl _ _⟩
    rw [decide_eq_false (fun t => by subst t; omega)]
  refine LoopK.of (fun s w' => 0 ≤ s.1 ∧ s.1 ≤ x.2.1 ∧ Fr none1 w w' ∧ ∀ j : Nat, (j : Int) < s.1 → xs.getD j [] = ys.getD j []) (fun s _ => (x.2.1 - s.1).toNat) ⟨by dsimp only; omega, by dsimp only; omega, Fr.refl _ _, fun j hj => by dsimp only at hj; omega⟩ ?_
  rintro _ s w1 ⟨i0, i1, f1, hall⟩
  refine ifB.dec (fun hlt => ?_) (fun hge => ?_)
  · refine DrewK.of fun w2 _ f2 => ?_
    refine ((hx.keep0 f1).keep0 f2).row i0 hlt fun u hu => ?_
    refine ((hy.keep0 f1).keep0 f2).row i0 (by omega) fun v hv => ?_
    have hrl : (xs.getD s.1.toNat []).length ≤ 100000000 := by
      rw [List.getD_eq_getElem?_getD, List.getElem?_eq_getElem (by omega)]
      exact hr _ (List.getElem_mem _)
    refine CallK.of (same_spec hu hv hrl) ?_
    rintro _ w3 ⟨rfl, f3⟩
    refine ⟨_, rfl, ?_⟩
    by_cases heq : xs.getD s.1.toNat [] = ys.getD s.1.toNat []
    · refine ifB.f (by simp only [heq, decide_true, Bool.not_true]) ?_
      rw [wI (by omega) (by omega)]
      refine ⟨⟨by dsimp only; omega, by dsimp only; omega, (f1.trans f2).trans f3, fun j hj => ?_⟩, by dsimp only; omega⟩
      dsimp only at hj
      by_cases hji : (j : Int) < s.1
      · exact hall j hji
      · have : s.1.toNat = j := by omega
        rw [this] at heq
        exact heq
    · refine ifB.t (by simp only [decide_eq_false heq, Bool.not_false]) ?_
      refine ⟨?_, (f1.trans f2).trans f3⟩
      rw [decide_eq_false (fun t => by subst t; exact heq rfl)]
  · refine ⟨?_, f1⟩
    rw [decide_eq_true]
    refine List.ext_getElem (by omega) fun j h1 h2 => ?_
    have := hall j (by omega)
    rw [List.getD_eq_getElem?_getD, List.getD_eq_getElem?_getD, List.getElem?_eq_getElem h1, List.getElem?_eq_getElem h2] at this
    simpa using this

end Go.Proofs.Ytejhjjafmobmbaa
