/-
  What the document's journal does where it is opened: it reads the same records, and cuts the same rest.
  Conditions: the file lies in blocks of its own.
-/
import Derived.Test.YtejhjjafmobmbaaRJSpec
import Derived.Test.YtejhjjafmobmbaaJOpen2
import Derived.Laws.StructEq
set_option linter.unusedVariables false
namespace Go.Proofs.Ytejhjjafmobmbaa
open Vc

theorem text_beq (x y : List UInt8) : ((⟨x.toArray⟩ : ByteArray).toList == (⟨y.toArray⟩ : ByteArray).toList) = decide (x = y) := by
  rw [ByteArray.toList_eq, ByteArray.toList_eq]
  by_cases h : x = y
  · subst h; simp
  · rw [decide_eq_false h]
    simpa using h

/-- A record is what its bytes begin with, and its sum. -/
theorem pack_head {D : List UInt8} (h : 3 ≤ D.length) (h4 : sizeL D ≤ 4000) (hl : sizeL D + 3 ≤ D.length) : headL ((D.drop 2).take (sizeL D)) ++ (D.drop 2).take (sizeL D) = D.take (2 + sizeL D) := by
  match D, h with
  | a :: b :: t, _ =>
    have ha := UInt8.toNat_lt a
    have hb := UInt8.toNat_lt b
    have hsz : sizeL (a :: b :: t) = 256 * a.toNat + b.toNat := rfl
    simp only [List.length_cons] at hl
    have hlen : ((List.drop 2 (a :: b :: t)).take (sizeL (a :: b :: t))).length = 256 * a.toNat + b.toNat := by
      rw [List.length_take, hsz]
      show min _ t.length = _
      omega
    have e1 : toByte (((256 * a.toNat + b.toNat : Nat) : Int) / 256) = a := by
      refine UInt8.toNat_inj.1 ?_
      have := toByte_nat (z := ((256 * a.toNat + b.toNat : Nat) : Int) / 256) (by omega) (by omega)
      omega
    have e2 : toByte (((256 * a.toNat + b.toNat : Nat) : Int) % 256) = b := by
      refine UInt8.toNat_inj.1 ?_
      have := toByte_nat (z := ((256 * a.toNat + b.toNat : Nat) : Int) % 256) (by omega) (by omega)
      omega
    unfold headL
    rw [hlen, e1, e2, hsz, show 2 + (256 * a.toNat + b.toNat) = (256 * a.toNat + b.toNat) + 1 + 1 by omega, List.take_succ_cons, List.take_succ_cons]
    rfl
theorem pack_is_first {D : List UInt8} (h : 3 ≤ D.length) (h4 : sizeL D ≤ 4000) (hl : sizeL D + 3 ≤ D.length) : (packL ((D.drop 2).take (sizeL D)) = D.take (3 + sizeL D)) ↔ D.getD (2 + sizeL D) 0 = xorL 150 (D.take (2 + sizeL D)) := by
  unfold packL
  rw [pack_head h h4 hl, show 3 + sizeL D = (2 + sizeL D) + 1 by omega, List.take_succ_eq_append_getElem (by omega), List.getD_eq_getElem?_getD, List.getElem?_eq_getElem (by omega)]
  constructor
  · intro e
    have := List.append_cancel_left e
    injection this with this
    exact this.symm
  · intro e
    have e' : D[2 + sizeL D] = xorL 150 (D.take (2 + sizeL D)) := e
    rw [e']

def OpenedR (w : World) (b g : Nat) (s : FileS) (rows : List (List UInt8)) (rest : List UInt8) (r : Value) (w' : World) : Prop :=
  (∃ (p : Nat) (S : Nat → Prop) (g' : Nat) (s' : FileS), r = .tuple #[.pointer (some ⟨p, 0, none⟩), .int .i64 0] ∧ w.heap.size ≤ p ∧ Fr (two b g) w w' ∧ (∀ k, S k → w.heap.size ≤ k) ∧ (g' = b ∨ g' = g ∨ w.heap.size ≤ g') ∧ IsRJ w' S p b g' s' false rows ∧
    (rest = [] ∧ s' = s ∨ rest ≠ [] ∧ (cutF s ((s.b.length - rest.length : Nat) : Int)).2 = 0 ∧ s' = (cutF s ((s.b.length - rest.length : Nat) : Int)).1)) ∨
  (rest ≠ [] ∧ (cutF s ((s.b.length - rest.length : Nat) : Int)).2 ≠ 0 ∧ r = .tuple #[.pointer none, .int .i64 (cutF s ((s.b.length - rest.length : Nat) : Int)).2] ∧ RefTo w b g (cutF s ((s.b.length - rest.length : Nat) : Int)).1 w')

theorem getD_drop' (l : List UInt8) (p k : Nat) : (l.drop p).getD k 0 = l.getD (p + k) 0 := by simp [List.getD, List.getElem?_drop]

theorem ropen_spec {w : World} {b g : Nat} {s : FileS} {rows : List (List UInt8)} {rest : List UInt8} (h : IsRef w b g s) (hd : s.dead = false) (hP : Parse s.b rows rest) :
    Ret Try.prog 71 #[.pointer (some ⟨b, 0, none⟩)] w (OpenedR w b g s rows rest) := by
  have hbl := h.lt
  have hgl := h.glt
  have hsl := h.ok.len
  have hh := h
  obtain ⟨⟨sl, hb, hs, _⟩, _, ok⟩ := hh
  have hslen := hs.len
  refine c71 _ w _ ?_
  unfold C71
  refine LdK.fld hb rfl ?_
  refine ifB.f hd ?_
  refine NewK.of fun p w1 hp hp1 f1 hs1 => ?_
  have F1 : Fr (only p) w1 w1 := Fr.refl _ _
  refine LoopK.of (fun q w' => ∃ (at_ : Nat) (jl : Sl) (S : Nat → Prop) (rs : List (List UInt8)), q.1 = at_ ∧ at_ ≤ s.b.length ∧ (∃ l, rows = rs ++ l ∧ Parse (s.b.drop at_) l rest) ∧ 3 * rs.length ≤ at_ ∧
      w'.heap[p]? = some (.cells #[.pointer (some ⟨b, 0, none⟩), .slice jl.1 jl.2.1 jl.2.2, .bool false] 95 (0, 0)) ∧ IsRows w' S jl rs ∧ (∀ k, S k → w1.heap.size ≤ k) ∧ Fr (only p) w1 w') (fun q _ => s.b.length + 1 - q.1.toNat)
    ⟨0, (none, 0, 0), fun _ => False, [], rfl, by omega, ⟨rows, rfl, hP⟩, by simp, hp1, none_rows _ _ (fun k t => t.elim), fun k t => t.elim, F1⟩ ?_
  rintro _ ⟨q, _⟩ w3 ⟨at_, jl, S, rs, hq, hatl, ⟨l, hrows, hPl⟩, hrl, hp3, hj3, hS, f3⟩
  dsimp only at hq ⊢
  subst hq
  have hs13 := f3.size
  have hb3 : ∀ w', Fr none1 w3 w' → w'.heap[b]? = some (.cells #[.slice sl.1 sl.2.1 sl.2.2, .int .i64 s.synced, .int .i64 s.quota, .bool s.dead, .bool s.lit, .int .i64 s.fuse] 75 (0, 0)) := fun w' f => f.keep0 (f3.keep1 (f1.keep0 hb) (by omega))
  have h3 : IsRef w3 b g s := (h.keep0 f1).keep f3 (fun t => by have : b = p := t; omega) (fun t => by have : g = p := t; omega)
  have hs3 : IsB w3 sl s.b := by
    obtain ⟨⟨sl', hb', hs', _⟩, _⟩ := h3
    have := hb3 w3 (Fr.refl _ _)
    rw [this] at hb'
    simp only [Option.some.injEq, Obj.cells.injEq, and_true] at hb'
    have e := congrArg (fun a => a[0]?) hb'
    simp at e
    obtain ⟨e1, e2, e3⟩ := e
    have e : sl = sl' := Prod.ext e1 (Prod.ext e2 e3)
    rw [e]; exact hs'
  -- the end
  have fin : ∀ w4, Fr none1 w3 w4 → firstL (s.b.drop at_) = none → LdK .slc ((⟨b, 0, none⟩ : Addr).add 0) w4 (fun (x80 : Option Addr × Nat × Nat) => ifB (decide ((at_ : Int) < (x80.2.1 : Int)))
      (CallK Try.prog 59 #[.pointer (some (⟨b, 0, none⟩ : Addr)), .int .i64 (at_ : Int)] w4 (.v (.one (.int .i64))) (fun (x81 : Int) w82 => ifB (x81 != 0)
      (OpenedR w b g s rows rest (.tuple #[.pointer none, .int .i64 x81]) w82)
      (OpenedR w b g s rows rest (.tuple #[.pointer (some (⟨p, 0, none⟩ : Addr)), .int .i64 0]) w82)))
      (OpenedR w b g s rows rest (.tuple #[.pointer (some (⟨p, 0, none⟩ : Addr)), .int .i64 0]) w4)) := fun w4 f4 hnone => by
    refine LdK.fld (hb3 w4 f4) (x := sl) rfl ?_
    have hPr : l = [] ∧ rest = s.b.drop at_ := by
      cases hPl with
      | stop _ => exact ⟨rfl, rfl⟩
      | next hf _ => rw [hnone] at hf; cases hf
    obtain ⟨rfl, hre⟩ := hPr
    rw [List.append_nil] at hrows
    subst hrows
    have hrel : rest.length = s.b.length - at_ := by rw [hre, List.length_drop]
    have h4 : IsRef w4 b g s := h3.keep0 f4
    have hp4 := f4.keep0 hp3
    have hj4 := hj3.keep0 f4
    have hs34 := f4.size
    have j4 : IsRJ w4 S p b g s false rows := ⟨h4, ⟨jl, hp4, hj4⟩, by omega, fun k hk => by have := hS k hk; omega⟩
    have fw4 : Fr none1 w w4 := f1.fresh (f3.then0 f4) (by omega)
    have hSw : ∀ k, S k → w.heap.size ≤ k := fun k hk => Nat.le_trans f1.size (hS k hk)
    refine ifB.dec (fun hlt => ?_) (fun hge => ?_)
    · have hrn : rest ≠ [] := fun e => by rw [e, List.length_nil] at hrel; omega
      have hn1 : (at_ : Int) = ((s.b.length - rest.length : Nat) : Int) := by omega
      rw [hn1]
      refine CallK.of (rcut_spec h4 _) ?_
      rintro _ w5 ⟨rfl, t5⟩
      have f5 := t5.1
      obtain ⟨g', hg', j5⟩ := j4.filed t5
      have hg'' : g' = b ∨ g' = g ∨ w.heap.size ≤ g' := hg'.imp id (Or.imp id (Nat.le_trans fw4.size))
      refine ⟨_, rfl, ifB.ne (fun he => ?_) (fun he => ?_)⟩
      · exact .inr ⟨hrn, he, rfl, (fw4.mono fun _ _ t => t.elim).trans f5, g', hg'', j5.file⟩
      · exact .inl ⟨p, S, g', _, rfl, by omega, (fw4.mono fun _ _ t => t.elim).trans f5, hSw, hg'', j5, .inr ⟨hrn, he, rfl⟩⟩
    · have hr0 : rest = [] := List.eq_nil_of_length_eq_zero (by omega)
      exact .inl ⟨p, S, g, s, rfl, by omega, fw4.mono fun _ _ t => t.elim, hSw, .inr (.inl rfl), j4, .inl ⟨hr0, rfl⟩⟩
  rw [wI (x := (at_ : Int) + 3) (by omega) (by omega)]
  refine LdK.fld (hb3 w3 (Fr.refl _ _)) (x := sl) rfl ?_
  refine ifB.dec (fun h3l => ?_) (fun h3l => ?_)
  rotate_left
  · refine fin w3 (Fr.refl _ _) ?_
    have : (s.b.drop at_).length < 3 := by rw [List.length_drop]; omega
    unfold firstL
    split
    · rfl
    split
    · rfl
    rw [if_pos (by omega)]
  obtain ⟨D, hD⟩ : ∃ D, s.b.drop at_ = D := ⟨_, rfl⟩
  have hDl : D.length = s.b.length - at_ := by rw [← hD, List.length_drop]
  have hD3 : 3 ≤ D.length := by omega
  rw [hD] at fin hPl
  obtain ⟨a0, ha0, hcell0⟩ := hs3.rd.cellAt (i := (at_ : Int)) (by omega) (by omega)
  obtain ⟨a1, ha1, hcell1⟩ := hs3.rd.cellAt (i := (at_ : Int) + 1) (by omega) (by omega)
  rw [Int.toNat_natCast] at hcell0
  rw [show ((at_ : Int) + 1).toNat = at_ + 1 by omega] at hcell1
  have b0 := UInt8.toNat_lt (s.b.getD at_ 0)
  have b1 := UInt8.toNat_lt (s.b.getD (at_ + 1) 0)
  rw [wI (x := (at_ : Int) + 1) (by omega) (by omega)]
  refine RegK.still0 ?_
  refine AnyK.still0 sl (fun w7 f7 => LdK.fld (hb3 w7 f7) (x := sl) rfl ⟨rfl, f7⟩) ?_
  refine ⟨a0, ha0, by omega, by omega, ?_⟩
  rw [Int.toNat_natCast]
  refine AnyK.still0 ((s.b.getD at_ 0).toNat : Int) (fun w7 f7 => LdK.cell (hcell0 w7 f7) ⟨rfl, f7⟩) ?_
  refine AnyK.still0 (IntKind.i64.wrap ((s.b.getD at_ 0).toNat : Int)) (fun w7 f7 => ⟨rfl, f7⟩) ?_
  refine ⟨by omega, ?_⟩
  refine AnyK.still0 sl (fun w7 f7 => LdK.fld (hb3 w7 f7) (x := sl) rfl ⟨rfl, f7⟩) ?_
  refine ⟨a1, ha1, by omega, by omega, ?_⟩
  rw [show ((at_ : Int) + 1).toNat = at_ + 1 by omega]
  refine AnyK.still0 ((s.b.getD (at_ + 1) 0).toNat : Int) (fun w7 f7 => LdK.cell (hcell1 w7 f7) ⟨rfl, f7⟩) ?_
  refine AnyK.still0 (IntKind.i64.wrap ((s.b.getD (at_ + 1) 0).toNat : Int)) (fun w7 f7 => ⟨rfl, f7⟩) ?_
  intro w4 f4
  have f4 : Fr none1 w3 w4 := f4
  have esz : IntKind.i64.wrap ((BitVec.ofInt 64 (IntKind.i64.wrap (IntKind.i64.wrap ((s.b.getD at_ 0).toNat : Int) * 2 ^ (min (Int.toNat 8) 64))) ||| BitVec.ofInt 64 (IntKind.i64.wrap ((s.b.getD (at_ + 1) 0).toNat : Int))).toNat : Int) = (sizeL D : Int) := by
    rw [wI (x := ((s.b.getD at_ 0).toNat : Int)) (by omega) (by omega), wI (x := ((s.b.getD (at_ + 1) 0).toNat : Int)) (by omega) (by omega), show (2 : Int) ^ (min (Int.toNat 8) 64) = 256 from rfl, wI (x := ((s.b.getD at_ 0).toNat : Int) * 256) (by omega) (by omega), or_size]
    unfold sizeL
    rw [← hD, getD_drop', getD_drop']
    simp only [Nat.add_zero]
    rw [wI (by omega) (by omega)]
    omega
  have hszb : sizeL D ≤ 65535 := by
    unfold sizeL
    have := UInt8.toNat_lt (D.getD 0 0)
    have := UInt8.toNat_lt (D.getD 1 0)
    omega
  rw [esz]
  obtain ⟨n, hn⟩ : ∃ n, sizeL D = n := ⟨_, rfl⟩
  rw [hn] at hszb ⊢
  rw [wI (x := (at_ : Int) + 3 + (n : Int)) (by omega) (by omega), wI (x := (at_ : Int) + 2) (by omega) (by omega), wI (x := (at_ : Int) + 2 + (n : Int)) (by omega) (by omega), wI (x := (3 : Int) + (n : Int)) (by omega) (by omega), wI (x := (at_ : Int) + (3 + (n : Int))) (by omega) (by omega)]
  refine JoinK.of (fun q w' => w4 = w' ∧ q.1 = (decide (4000 < n) || decide (D.length < n + 3))) ?_ ?_
  · refine ifB.dec (fun hq => ?_) (fun hq => ?_)
    · exact ⟨rfl, by rw [decide_eq_true (p := 4000 < n) (by omega), Bool.true_or]⟩
    · refine LdK.fld (hb3 w4 f4) (x := sl) rfl ⟨rfl, ?_⟩
      rw [decide_eq_false (p := 4000 < n) (by omega), Bool.false_or]
      exact decide_eq_decide.2 (by omega)
  rintro _ ⟨q, _⟩ _ ⟨rfl, hq⟩
  dsimp only at hq ⊢
  subst hq
  refine ifB.by (fun hbad => ?_) (fun hgood => ?_)
  · refine fin w4 f4 ?_
    have hbad' : 4000 < n ∨ D.length < n + 3 := by simpa using hbad
    unfold firstL
    rw [hn, if_neg (by omega)]
    rcases hbad' with t | t
    · rw [if_pos t]
    · split
      · rfl
      · rfl
  have hgood' : ¬ 4000 < n ∧ ¬ D.length < n + 3 := by simpa using hgood
  obtain ⟨hn4, hnl⟩ := hgood'
  refine LdK.fld (hb3 w4 f4) (x := sl) rfl ?_
  have hs4 := hs3.keep0 f4
  refine RdB.mid hs4.rd (lo := (at_ : Int) + 2) (hi := (at_ : Int) + 2 + (n : Int)) (by omega) (by omega) (by omega) hs4.cap fun u hu huc hul hub => ?_
  have eu : (s.b.drop ((at_ : Int) + 2).toNat).take ((at_ : Int) + 2 + (n : Int) - ((at_ : Int) + 2)).toNat = (D.drop 2).take n := by
    rw [← hD, List.drop_drop, show ((at_ : Int) + 2).toNat = at_ + 2 by omega, show ((at_ : Int) + 2 + (n : Int) - ((at_ : Int) + 2)).toNat = n by omega]
  rw [eu] at hu
  have hul2 : ((D.drop 2).take n).length = n := by rw [List.length_take, List.length_drop]; omega
  obtain ⟨v, w5, hr5, hv, f5, vf⟩ := rcopy_bytes hu (by omega)
  refine ⟨v, w5, hr5, ?_⟩
  have f35 := f4.trans f5
  -- the comparison
  have r0 := drew_fr w5
  generalize hW0 : ({ w5 with drawn := w5.drawn + 1 } : World) = W0 at r0
  obtain ⟨y, W1, hr1, hy, q1, yf⟩ := record_is (hv.keep0 r0).rd (by omega)
  have f3W0 := f35.trans r0
  have hsW0 := hs3.keep0 f3W0
  obtain ⟨mid, hmid, hmidr⟩ : ∃ mid : Sl, RdB W0 mid (D.take (3 + n)) ∧ ∀ K : Option Addr → Nat → Nat → Prop, K mid.1 mid.2.1 mid.2.2 → SubK sl.1 sl.2.2 (at_ : Int) ((at_ : Int) + 3 + (n : Int)) sl.2.2 1 K := by
    have := RdB.mid hsW0.rd (lo := (at_ : Int)) (hi := (at_ : Int) + 3 + (n : Int)) (K := fun a l c => ∃ u : Sl, u = (a, l, c) ∧ RdB W0 u (D.take (3 + n))) (by omega) (by omega) (by omega) hsW0.cap (fun u hu _ _ _ => ⟨u, rfl, by
      rw [Int.toNat_natCast, hD, show ((at_ : Int) + 3 + (n : Int) - (at_ : Int)).toNat = 3 + n by omega] at hu; exact hu⟩)
    obtain ⟨q1, q2, q3, q4, u, hu, hr⟩ := this.out
    exact ⟨u, hr, fun K hK => ⟨q1, q2, q3, q4, by rw [hu] at hK; exact hK⟩⟩
  have still : ∀ (D : Nat → Bool) (w9 : World) (i : Nat), i ≠ 1 → ((D 1 = false → w9 = W0) ∧ (D 1 = true → w9 = W1)) → ((upd D i) 1 = false → w9 = W0) ∧ ((upd D i) 1 = true → w9 = W1) := fun D w9 i hi hC => ⟨fun t => by rw [upd_ne' _ (Ne.symm hi)] at t; exact hC.1 t, fun t => by rw [upd_ne' _ (Ne.symm hi)] at t; exact hC.2 t⟩
  have at1 : ∀ (D : Nat → Bool) (w9 : World), ((D 1 = false → w9 = W0) ∧ (D 1 = true → w9 = W1)) → Fr none1 W0 w9 := fun D w9 hC => by
    cases h1 : D 1 with
    | false => rw [hC.1 h1]; exact Fr.refl _ _
    | true => rw [hC.2 h1]; exact q1
  refine ⟨⟨fun D w9 => (D 1 = false → w9 = W0) ∧ (D 1 = true → w9 = W1), ⟨fun _ => hW0, (fun t => by cases t)⟩, ?_⟩⟩
  refine ⟨y, fun D w9 hD _ hC => ?_, ?_⟩
  · obtain rfl := hC.1 hD
    refine CallK.of hr1 ?_
    rintro _ _ ⟨rfl, rfl⟩
    exact ⟨y, rfl, rfl, (fun t => by rw [upd_self'] at t; cases t), fun _ => rfl⟩
  refine ⟨⟨(packL ((D.drop 2).take n)).toArray⟩, fun D9 w9 hD hp hC => ?_, ?_⟩
  · have h1 : D9 1 = true := hp 1 (by simp)
    have e9 := hC.2 h1
    subst e9
    exact ⟨_, _, text_of hy.rd, rfl, still _ _ 2 (by decide) hC⟩
  refine ⟨sl, fun D w9 hD _ hC => LdK.fld (hb3 w9 (f3W0.trans (at1 D w9 hC))) (x := sl) rfl ⟨rfl, still D w9 6 (by decide) hC⟩, ?_⟩
  refine hmidr _ ?_
  refine ⟨⟨(D.take (3 + n)).toArray⟩, fun D w9 hD _ hC => ⟨_, w9, text_of (hmid.keep0 (at1 D w9 hC)), rfl, still D w9 13 (by decide) hC⟩, ?_⟩
  intro w9 hC
  obtain rfl := hC.2 rfl
  rw [text_beq]
  have f39 := f3W0.trans q1
  have hiff := pack_is_first hD3 (by omega) (by omega)
  rw [hn] at hiff
  by_cases heq : packL ((D.drop 2).take n) = D.take (3 + n)
  · refine ifB.f (by rw [decide_eq_true heq]; rfl) ?_
    have hfirst : firstL D = some ((D.drop 2).take n, D.drop (n + 3)) := by
      unfold firstL
      rw [hn, if_neg (by omega), if_neg hn4, if_neg hnl, if_neg (by rw [Decidable.not_not]; exact hiff.1 heq)]
    have hp9 := f39.keep0 hp3
    have hj9 := hj3.keep0 f39
    refine LdK.fld hp9 (x := jl) rfl ?_
    have hv9 := (hv.keep0 r0).keep0 q1
    have hjl := hj3.lt
    have sz1 := f4.size
    obtain ⟨m, w6, z, w7, rr1, f6, rr2, f7, S', hS', hz⟩ := hj9.snoc hv9.rd (fun k hk => ⟨IsSl.lt hv9 hk, fun t => by have := hjl k t; have := vf k hk; omega⟩) (by omega)
    refine ⟨m, w6, rr1, z, w7, rr2, ?_⟩
    have npj : ¬ blkOf jl p := fun t => by have := hS p (hj3.own p t); omega
    have hp7 := f7.keep hp9 npj
    refine StK.fld hp7 (by simp) rfl fun w8 hp8 f8 _ => ?_
    have sz39 := f39.size
    have hS'' : ∀ k, S' k → w1.heap.size ≤ k := fun k hk => by
      rcases hS' k hk with t | t | t
      · exact hS k t
      · have := vf k t; omega
      · omega
    cases hPl with
    | stop hnn => rw [hfirst] at hnn; cases hnn
    | next hf hPt =>
      rename_i x t l'
      rw [hfirst] at hf
      injection hf with hf
      injection hf with hf1 hf2
      subst hf1; subst hf2
      refine ⟨⟨at_ + (3 + n), z, S', rs ++ [(D.drop 2).take n], by omega, by omega, ⟨l', by rw [hrows]; simp, ?_⟩, by simp only [List.length_append, List.length_singleton]; omega, hp8, hz.keep f8 (fun k hk t => by have := hS'' k hk; have : k = p := t; omega), hS'', ?_⟩, ?_⟩
      · rw [← List.drop_drop, hD, Nat.add_comm 3 n]; exact hPt
      · exact ((f3.then0 f39).comp f7 (fun x hx t => by have := hS x (hj3.own x t); omega)).trans f8
      · omega
  · refine ifB.t (by rw [decide_eq_false heq]; rfl) ?_
    refine fin w9 f39 ?_
    unfold firstL
    rw [hn, if_neg (by omega), if_neg hn4, if_neg hnl, if_pos (fun t => heq (hiff.2 t))]

theorem ropen_dead {w : World} {b g : Nat} {s : FileS} (h : IsRef w b g s) (hd : s.dead = true) :
    Ret Try.prog 71 #[.pointer (some ⟨b, 0, none⟩)] w fun r w' => r = .tuple #[.pointer none, .int .i64 11] ∧ w = w' := by
  obtain ⟨⟨sl, hb, hs, _⟩, _, ok⟩ := h
  refine c71 _ w _ ?_
  exact LdK.fld hb rfl (ifB.t hd ⟨rfl, rfl⟩)
theorem open_dead {w : World} {b g : Nat} {s : FileS} (h : IsFile w b g s) (hd : s.dead = true) :
    Ret Try.prog 65 #[.pointer (some ⟨b, 0, none⟩)] w fun r w' => r = .tuple #[.pointer none, .int .i64 11] ∧ w = w' := by
  refine c65 _ w _ ?_
  refine CallK.of (fdead_spec h) ?_
  rintro _ _ ⟨rfl, rfl⟩
  exact ⟨_, rfl, ifB.t hd ⟨rfl, rfl⟩⟩

end Go.Proofs.Ytejhjjafmobmbaa
