/-
  JournalTrue: wherever the file crashes, whatever is kept, or spoilt: opened again a journal has all that was put well, and at most one record more, whole.
  Conditions: none beyond the statement's own.
-/
import Derived.Test.YtejhjjafmobmbaaJCrash
import Derived.Test.YtejhjjafmobmbaaCJTrue
set_option linter.unusedVariables false
namespace Go.Proofs.Ytejhjjafmobmbaa
open Vc

def rowAt (z : List (Sl × List Int)) (i : Nat) : Sl := (z.getD i (nils, [])).1
def rowB (z : List (Sl × List Int)) (i : Nat) : List UInt8 := ((z.getD i (nils, [])).2.take (z.getD i (nils, [])).1.2.1).map toByte

theorem nest_at {w w' : World} {a : Option Addr} {len cap : Nat} {z : List (Sl × List Int)} (h : IsNest .u8 w a len cap z) (f : Fr none1 w w') {i : Int} (h0 : 0 ≤ i) (h1 : i < len) {K : Sl → Prop}
    (hK : RdB w (rowAt z i.toNat) (rowB z i.toNat) → (rowAt z i.toNat).2.1 ≤ (rowAt z i.toNat).2.2 → K (rowAt z i.toNat)) : IdxK a len i 1 fun p => LdK .slc p w' K := by
  rcases h with ⟨_, rfl, _, _⟩ | ⟨x, rfl, hl, hc, hz, hcell⟩
  · omega
  · refine ⟨x, rfl, h0, h1, ?_⟩
    rw [Nat.mul_one]
    obtain ⟨c1, c2⟩ := hcell i.toNat z[i.toNat] (List.getElem?_eq_getElem (by omega))
    have e : z.getD i.toNat (nils, []) = z[i.toNat] := by rw [List.getD_eq_getElem?_getD, List.getElem?_eq_getElem (by omega)]; rfl
    obtain ⟨r1, r2⟩ := args_rd c2
    unfold rowAt rowB at hK
    rw [e] at hK
    exact LdK.cell (x := z[i.toNat].1) (f.cell0 c1) (hK r1 r2)

/-- At the beginning of a life. -/
structure Tr (w0 w : World) (b : Nat) (good : Sl) (n : Int) : Prop where
  fr : Fr none1 w0 w
  out : ∃ (g : Nat) (s : FileS) (Sg : Nat → Prop) (rs : List (List UInt8)), IsFile w b g s ∧ IsRows w Sg good rs ∧ s.b = packs rs ∧ s.synced = ((packs rs).length : Int) ∧ s.lit = false ∧ s.dead = false ∧ s.quota = 4000 ∧ (rs.length : Int) ≤ n ∧ (∀ r ∈ rs, r.length ≤ 60) ∧
    ∀ k, Sg k → w0.heap.size ≤ k ∧ k ≠ b ∧ k ≠ g

/-- While records are put. -/
structure Put1 (w0 w : World) (p b : Nat) (good : Sl) (n : Int) : Prop where
  fr : Fr none1 w0 w
  out : ∃ (S : Nat → Prop) (g : Nat) (s : FileS) (Sg : Nat → Prop) (rs : List (List UInt8)), IsJ w S p b g s false rs ∧ IsRows w Sg good rs ∧ s.b = packs rs ∧ s.synced = ((packs rs).length : Int) ∧ s.dead = false ∧ s.quota = 4000 ∧ (rs.length : Int) ≤ n ∧ (∀ r ∈ rs, r.length ≤ 60) ∧
    (∀ k, S k → w0.heap.size ≤ k) ∧ ∀ k, Sg k → w0.heap.size ≤ k ∧ k ≠ p ∧ k ≠ b ∧ k ≠ g ∧ ¬ S k

/-- Behind the last record that was put. -/
structure Put2 (w0 w : World) (b : Nat) (len : Nat) (z : List (Sl × List Int)) (good : Sl) (n : Int) (under : Bool) : Prop where
  fr : Fr none1 w0 w
  out : ∃ (g : Nat) (s : FileS) (Sg : Nat → Prop) (rs : List (List UInt8)) (y : List UInt8), IsFile w b g s ∧ IsRows w Sg good rs ∧ s.b = packs rs ++ y ∧ s.synced = ((packs rs).length : Int) ∧ s.quota = 4000 ∧ (rs.length : Int) ≤ n ∧ (∀ r ∈ rs, r.length ≤ 60) ∧
    (∀ k, Sg k → w0.heap.size ≤ k ∧ k ≠ b ∧ k ≠ g) ∧ (under = false → y = []) ∧ (under = true → n < 16 ∧ n < len ∧ (y = [] ∨ y = packL ((rowB z n.toNat).take 60)))

theorem packs_len60 : ∀ (l : List (List UInt8)), (∀ r ∈ l, r.length ≤ 60) → (packs l).length ≤ 63 * l.length
  | [], _ => by simp [packs]
  | x :: l, h => by
    have h1 := packs_len60 l fun r hr => h r (by simp [hr])
    have h2 := h x (by simp)
    show (packL x ++ packs l).length ≤ _
    rw [List.length_append, packL_len, List.length_cons]; omega

/-- One record: the cut of a row, in new memory. -/
theorem cut60 {w0 w : World} {a : Option Addr} {len cap : Nat} {z : List (Sl × List Int)} (h : IsNest .u8 w0 a len cap z) (f : Fr none1 w0 w) {i : Int} (h0 : 0 ≤ i) (h1 : i < len) {K : Sl → World → Prop}
    (hK : ∀ (x : Sl) w', IsB w' x ((rowB z i.toNat).take 60) → Fr none1 w w' → (∀ k, blkOf x k → w.heap.size ≤ k ∧ k < w'.heap.size) → K x w') :
    IdxK a len i 1 fun p => LdK .slc p w fun (x9 : Option Addr × Nat × Nat) => CallK Try.prog 40 #[.slice x9.1 x9.2.1 x9.2.2, .int .i64 60] w (.v (.one .slc)) (fun (x10 : Option Addr × Nat × Nat) w11 => K x10 w11) := by
  refine nest_at h f h0 h1 fun hr hc => ?_
  refine CallK.of (cut_spec (hr.keep0 f) hc (n := 60) (by omega) (by omega)) ?_
  rintro _ w4 ⟨x, rfl, hx, f4, hxf⟩
  exact ⟨x, rfl, hK x w4 hx f4 fun k hk => ⟨hxf k hk, IsSl.lt hx hk⟩⟩

theorem true_walk (a : Option Addr) (len cap : Nat) (z : List (Sl × List Int)) (a1 : Option Addr) (len1 cap1 : Nat) (z1 : List Int) (a2 : Option Addr) (len2 cap2 : Nat) (z2 : List Int) (a3 : Option Addr) (len3 cap3 : Nat) (z3 : List Int) (w : World) (h0 : IsNest .u8 w a len cap z) (h1 : IsInts .i64 w a1 len1 cap1 z1) (h2 : IsInts .i64 w a2 len2 cap2 z2) (h3 : IsInts .u8 w a3 len3 cap3 z3) :
    Ret Try.prog 19 #[.slice a len cap, .slice a1 len1 cap1, .slice a2 len2 cap2, .slice a3 len3 cap3] w fun r w' => r = .bool true ∧ Fr none1 w w' := by
  refine c19 a len cap a1 len1 cap1 a2 len2 cap2 a3 len3 cap3 w _ ?_
  unfold C19
  have done : ∀ w3, Fr none1 w w3 → CallK Try.prog 64 #[] w3 (.v (.one .bool)) (fun (x58 : Bool) w59 => (.bool x58 : Value) = .bool true ∧ Fr none1 w w59) := fun w3 F => by
    refine CallK.of (wakes18_spec w3) ?_
    rintro _ w7 ⟨rfl, f7⟩
    exact ⟨_, rfl, rfl, F.trans f7⟩
  refine CallK.of (fnew_spec 4000 w) ?_
  rintro _ w1 ⟨b, rfl, hb, f1, i1⟩
  refine ⟨some ⟨b, 0, none⟩, rfl, ifB.f rfl ?_⟩
  have F0 : Tr w w1 b (none, 0, 0) 0 := ⟨f1, b, newF 4000, fun _ => False, [], i1, none_rows _ _ fun k t => t.elim, rfl, rfl, rfl, rfl, rfl, Int.le_refl _, by simp, fun k t => t.elim⟩
  refine LoopK.of (fun s w' => 0 ≤ s.2.1 ∧ s.2.1 ≤ 16 ∧ 0 ≤ s.2.2.1 ∧ s.2.2.1 ≤ 6 ∧ Tr w w' b s.1 s.2.1) (fun s _ => (6 - s.2.2.1).toNat) ⟨Int.le_refl _, by dsimp only; omega, Int.le_refl _, by dsimp only; omega, F0⟩ ?_
  rintro _ ⟨good, n, life, _⟩ w3 ⟨n0, n1, l0, l1, hF⟩
  dsimp only at n0 n1 l0 l1 hF ⊢
  obtain ⟨F3, g3, s3, Sg, rs, i3, hg3, e1, e2, e3, e4, e5, e6, e7, hSg⟩ := hF
  refine ifB.dec (fun hl1 => ?_) (fun _ => done w3 F3)
  refine ifB.dec (fun hl2 => ?_) (fun _ => done w3 F3)
  have gl3 := hg3.lt
  have hrs16 : rs.length ≤ 16 := by omega
  have rows4000 : ∀ r ∈ rs, r.length ≤ 4000 := fun r hr => by have := e7 r hr; omega
  have rowsBig : ∀ r ∈ rs, r.length ≤ 100000000 := fun r hr => by have := e7 r hr; omega
  have hP : Parse s3.b rs [] := by
    have := parse_packs firstL_nil rs rows4000
    rw [List.append_nil] at this
    rw [e1]; exact this
  refine CallK.of (open_spec i3 e4 e3 hP) ?_
  rintro _ w4 ⟨p, S, g4, s4, rfl, hp, f4, hS, hg4, j4, t1, t2, t3, t4, t5⟩
  refine ⟨(some ⟨p, 0, none⟩, 0, ()), rfl, ifB.f rfl (ifB.f rfl ?_)⟩
  rw [List.length_nil, Nat.sub_zero, List.take_length, e1] at t1
  have F4 := F3.fresh f4 hb
  have hg4r : IsRows w4 Sg good rs := hg3.keep f4 (fun k hk t => (hSg k hk).2.1 t)
  refine CallK.of (records_spec j4 (by omega) rowsBig) ?_
  rintro _ w5 ⟨v, Sv, rfl, hv, f5, _⟩
  refine ⟨v, rfl, ?_⟩
  refine CallK.of (rows_same hv (hg4r.keep0 f5) (by omega) rowsBig) ?_
  rintro _ w6 ⟨rfl, f6⟩
  refine ⟨_, rfl, ifB.f (by simp) ?_⟩
  have szw := F3.size
  have hSw : ∀ k, S k → w.heap.size ≤ k := fun k hk => by have := hS k hk; omega
  have hSg4 : ∀ k, Sg k → w.heap.size ≤ k ∧ k ≠ p ∧ k ≠ b ∧ k ≠ g4 ∧ ¬ S k := fun k hk => by
    obtain ⟨q0, q1, q2⟩ := hSg k hk
    have := gl3 k hk
    refine ⟨q0, by omega, q1, ?_, fun t => by have := hS k t; omega⟩
    rcases hg4 with t | t | t <;> omega
  have hsy : s4.synced = ((packs rs).length : Int) := by
    rcases t5 with ⟨t, _⟩ | t
    · rw [t, e2]
    · rw [t, t1]
  have f46 := f5.trans f6
  have P6 : Put1 w w6 p b good n := ⟨F4.trans f46, S, g4, s4, Sg, rs, j4.keep0 f46, hg4r.keep0 f46, t1, hsy, t4, t2.trans e5, e6, e7, hSw, hSg4⟩
  have hpw : w.heap.size ≤ p := by omega
  refine JoinK.of (fun _ w' => Put1 w w' p b good n) ?_ ?_
  · refine ifB.dec (fun h => ?_) (fun h => P6)
    refine IsInts.ld h1 P6.fr l0 h ?_
    refine CallK.of (within_spec _ 9 w6 (by omega)) ?_
    rintro _ _ ⟨rfl, rfl⟩
    refine ⟨_, rfl, ?_⟩
    refine CallK.of (ffuse_spec (j4.keep0 f46).file _) ?_
    rintro _ w7 ⟨rfl, t7⟩
    refine ⟨(), rfl, ?_⟩
    have f7 := t7.1
    obtain ⟨g7, hg7, j7⟩ := (j4.keep0 f46).filed t7
    have s46 := (f4.then0 f46).size
    refine ⟨P6.fr.fresh f7 hb, S, g7, _, Sg, rs, j7, (hg4r.keep0 f46).keep f7 (fun k hk t => (hSg k hk).2.1 t), t1, hsy, t4, t2.trans e5, e6, e7, hSw, fun k hk => ?_⟩
    obtain ⟨q0, q1, q2, q3, q4⟩ := hSg4 k hk
    have := gl3 k hk
    refine ⟨q0, q1, q2, ?_, q4⟩
    rcases hg7 with t | t | t <;> omega
  rintro _ _ w7 P7
  refine JoinK.of (fun q w' => 0 ≤ q.2.1 ∧ q.2.1 ≤ 16 ∧ Put2 w w' b len z q.1 q.2.1 q.2.2.1) ?_ ?_
  · refine LoopK.of (fun q w' => 0 ≤ q.2.1 ∧ q.2.1 ≤ 16 ∧ q.2.2.1 = false ∧ Put1 w w' p b q.1 q.2.1) (fun q _ => (16 - q.2.1).toNat) ⟨n0, n1, rfl, P7⟩ ?_
    rintro _ ⟨gd, m, un, _⟩ w8 ⟨m0, m1, hun, P8⟩
    dsimp only at m0 m1 hun P8 ⊢
    subst hun
    clear P6 P7 j4 hg4r hSg4 hv t1 hsy hP i3 hg3 e1 e2 e6 e7 hSg rows4000 rowsBig hrs16 gl3
    obtain ⟨F8, S, g8, s, Sg, rs, j8, hr8, e1, e2, e3, e4, e5, e6, hS, hSg⟩ := P8
    have gl8 := hr8.lt
    have pl8 := j8.plt
    have bl8 := j8.file.lt
    have gg8 := j8.file.glt
    have sl8 := j8.slt
    have hpl := packs_len60 rs e6
    refine JoinK.of (fun t w' => w8 = w' ∧ t.1 = (decide (m < len) && decide (m < 16))) (ifB.dec (fun h => ⟨rfl, by rw [decide_eq_true h, Bool.true_and]⟩) (fun h => ⟨rfl, by rw [decide_eq_false h, Bool.false_and]⟩)) ?_
    rintro _ ⟨t, _⟩ _ ⟨rfl, ht⟩
    dsimp only at ht ⊢
    rw [ht]
    refine ifB.by (fun hin => ?_) (fun hout => ?_)
    · rw [Bool.and_eq_true, decide_eq_true_eq, decide_eq_true_eq] at hin
      refine cut60 h0 F8 m0 hin.1 fun x w9 hx f9 hxf => ?_
      have hXl : ((rowB z m.toNat).take 60).length ≤ 60 := by simp only [List.length_take]; omega
      obtain ⟨X, hX⟩ : ∃ X, X = (rowB z m.toNat).take 60 := ⟨_, rfl⟩
      rw [← hX] at hx hXl
      have hxo : ∀ k, blkOf x k → k < w9.heap.size ∧ k ≠ p ∧ k ≠ b ∧ ¬ S k := fun k hk => by
        obtain ⟨q1, q2⟩ := hxf k hk
        exact ⟨q2, by omega, by omega, fun t => by have := sl8 k t; omega⟩
      refine CallK.of (put_spec (j8.keep0 f9) hx.rd hxo (by omega)) ?_
      have s89 := f9.size
      have lit := putJ_lit (s := s) (x := X) e3 (by omega) (by rw [e4, e1]; omega)
      generalize putJ s false X = PJ at lit
      obtain ⟨s', d', code, added⟩ := PJ
      dsimp only at lit ⊢
      rintro _ w10 ⟨rfl, f10, S10, g10, hS10, hg10, j10⟩
      refine ⟨_, rfl, ?_⟩
      have s910 := f10.size
      have inS : ∀ k, Sg k → ¬ inJ S p b k := fun k hk t => by
        obtain ⟨_, q1, q2, _, q3⟩ := hSg k hk
        rcases t with t | t | t
        · exact q1 t
        · exact q2 t
        · exact q3 t
      have hr10 : IsRows w10 Sg gd rs := (hr8.keep0 f9).keep f10 inS
      have F10 : Fr none1 w w10 := (F8.trans f9).comp f10 (fun k hk t => by
        rcases t with t | t | t
        · omega
        · omega
        · have := hS k t; omega)
      have hg10a : ∀ k, Sg k → k ≠ g10 := fun k hk => by
        obtain ⟨_, q1, q2, q3, q4⟩ := hSg k hk
        have := gl8 k hk
        rcases hg10 with t | t | t <;> omega
      rcases lit with ⟨c1, c2, c3, c4, c5, c6, c7⟩ | ⟨c1, c2, c4, c5, c6⟩
      · subst c1; subst c2; subst c3
        refine ifB.f rfl (ifB.f rfl ?_)
        have j10 : IsJ w10 S10 p b g10 s' false (rs ++ [X]) := j10
        have sl10 := j10.slt
        have gg10 := j10.file.glt
        refine cut60 h0 F10 m0 hin.1 fun x2 w11 hx2 f11 hx2f => ?_
        rw [← hX] at hx2
        have s1011 := f11.size
        obtain ⟨y, w12, zz, w13, r1, f12, r2, f13, S', hS', hz⟩ := (hr10.keep0 f11).snoc hx2.rd (fun k hk => ⟨(hx2f k hk).2, fun t => by have := gl8 k t; have := (hx2f k hk).1; omega⟩) (by omega)
        refine ⟨y, w12, r1, zz, w13, r2, ?_⟩
        rw [wI (x := m + 1) (by omega) (by omega)]
        have ho : ∀ k, blkOf gd k → Sg k := hr8.own
        have hS10a : ∀ k, S10 k → ¬ Sg k := fun k hk t => by
          have := gl8 k t
          rcases hS10 k hk with q | q
          · exact (hSg k t).2.2.2.2 q
          · omega
        have j13 : IsJ w13 S10 p b g10 s' false (rs ++ [X]) := (j10.keep0 f11).keep f13 (fun t => (hSg p (ho p t)).2.1 rfl) (fun t => (hSg b (ho b t)).2.2.1 rfl) (fun t => hg10a g10 (ho g10 t) rfl) (fun k hk t => hS10a k hk (ho k t))
        refine ⟨⟨by omega, by omega, rfl, (F10.trans f11).comp f13 (fun k hk t => by have := (hSg k (ho k t)).1; omega), S10, g10, s', S', rs ++ [X], j13, hz, ?_, ?_, c7, c5.trans e4, ?_, fun r hr => ?_, fun k hk => ?_, fun k hk => ?_⟩, by omega⟩
        · rw [c4, e1, packs_snoc]
        · rw [c6, e1, packs_snoc]
        · simp only [List.length_append, List.length_singleton]; omega
        · simp only [List.mem_append, List.mem_singleton] at hr
          rcases hr with t | t
          · exact e6 r t
          · rw [t]; exact hXl
        · rcases hS10 k hk with t | t
          · exact hS k t
          · have := F8.size; omega
        · have fw := F8.size
          rcases hS' k hk with t | t | t
          · obtain ⟨q0, q1, q2, q3, q4⟩ := hSg k t
            exact ⟨q0, q1, q2, hg10a k t, fun q => hS10a k q t⟩
          · have t := (hx2f k t).1
            exact ⟨by omega, by omega, by omega, by omega, fun q => by have := sl10 k q; omega⟩
          · exact ⟨by omega, by omega, by omega, by omega, fun q => by have := sl10 k q; omega⟩
      · subst c1; subst c2
        refine ifB.t rfl ?_
        obtain ⟨y, hy1, hy2⟩ : ∃ y, s'.b = packs rs ++ y ∧ (y = [] ∨ y = packL X) := by
          rcases c4 with t | t
          · exact ⟨[], by rw [t, e1, List.append_nil], .inl rfl⟩
          · exact ⟨packL X, by rw [t, e1], .inr rfl⟩
        rw [hX] at hy2
        refine ⟨m0, m1, F10, g10, s', Sg, rs, y, j10.file, hr10, hy1, c6.trans e2, c5.trans e4, e5, e6, fun k hk => ⟨(hSg k hk).1, (hSg k hk).2.2.1, hg10a k hk⟩, (fun t => by cases t), fun _ => ⟨hin.2, hin.1, hy2⟩⟩
    · exact ⟨m0, m1, F8, g8, s, Sg, rs, [], j8.file, hr8, by rw [e1, List.append_nil], e2, e4, e5, e6, fun k hk => ⟨(hSg k hk).1, (hSg k hk).2.2.1, (hSg k hk).2.2.2.1⟩, fun _ => rfl, fun t => by cases t⟩
  clear P6 P7 j4 hg4r hSg4 hv t1 hsy hP i3 hg3 e1 e2 e6 e7 hSg rows4000 rowsBig hrs16 gl3
  rintro _ ⟨gd, m, under, _⟩ w8 ⟨m0, m1, P8⟩
  dsimp only at m0 m1 P8 ⊢
  obtain ⟨F8, g8, s, Sg, rs, y, i8, hr8, e1, e2, e4, e5, e6, hSg, u1, u2⟩ := P8
  refine JoinK.of (fun _ w' => w8 = w') (ifB.dec (fun h => IsInts.ld h2 F8 l0 h rfl) (fun h => rfl)) ?_
  rintro _ ⟨keep, _⟩ _ rfl
  refine JoinK.of (fun _ w' => w8 = w') (ifB.dec (fun h => IsInts.ld h3 F8 l0 h rfl) (fun h => rfl)) ?_
  rintro _ ⟨sp, _⟩ _ rfl
  dsimp only
  refine CallK.of (fcrash_spec i8 keep sp) ?_
  rintro _ w9 ⟨rfl, f9, g9, hg9, i9⟩
  refine ⟨(), rfl, ?_⟩
  have gl8 := hr8.lt
  have hr9 : IsRows w9 Sg gd rs := hr8.keep f9 (fun k hk t => (hSg k hk).2.1 t)
  have rows4000 : ∀ r ∈ rs, r.length ≤ 4000 := fun r hr => by have := e6 r hr; omega
  obtain ⟨x, hyx, hxl, hxu⟩ : ∃ x : List UInt8, (y = [] ∨ y = packL x) ∧ x.length ≤ 60 ∧ (under = true → x = (rowB z m.toNat).take 60) := by
    cases under with
    | false => exact ⟨[], .inl (u1 rfl), by simp, fun t => by cases t⟩
    | true => exact ⟨_, (u2 rfl).2.2, by simp only [List.length_take]; omega, fun _ => rfl⟩
  obtain ⟨R, rest, hR, hPR, htk, hsyn⟩ := crash_parse (s := s) i8.ok hyx (by omega) e1 e2 rows4000 keep sp
  refine CallK.of (open_spec i9 rfl rfl hPR) ?_
  rintro _ w10 ⟨p10, S10, g10, s10, rfl, hp10, f10, hS10, hg10, j10, t1, t2, t3, t4, t5⟩
  refine ⟨(some ⟨p10, 0, none⟩, 0, ()), rfl, ifB.f rfl (ifB.f rfl ?_)⟩
  rw [htk] at t1
  have hsy10 : s10.synced = ((packs R).length : Int) := by
    rcases t5 with ⟨q1, q2⟩ | q
    · rw [q1, hsyn, ← htk, q2, List.length_nil, Nat.sub_zero, List.take_length]
    · rw [q, t1]
  have hRl : R.length ≤ rs.length + 1 ∧ ∀ r ∈ R, r.length ≤ 60 := by
    rcases hR with t | ⟨t, _⟩
    · subst t; exact ⟨by omega, e6⟩
    · subst t
      refine ⟨by simp, fun r hr => ?_⟩
      simp only [List.mem_append, List.mem_singleton] at hr
      rcases hr with t | t
      · exact e6 r t
      · rw [t]; exact hxl
  have hRbig : ∀ r ∈ R, r.length ≤ 100000000 := fun r hr => by have := hRl.2 r hr; omega
  have hr10 : IsRows w10 Sg gd rs := hr9.keep f10 (fun k hk t => (hSg k hk).2.1 t)
  have F9 := F8.fresh f9 hb
  have F10 := F9.fresh f10 hb
  have s89 := f9.size
  have s910 := f10.size
  have q10 : s10.quota = 4000 := t2.trans e4
  have hg10a : ∀ k, Sg k → k ≠ g10 := fun k hk => by
    obtain ⟨_, q1, q2⟩ := hSg k hk
    have := gl8 k hk
    rcases hg10 with t | t | t
    · omega
    · rcases hg9 with q | q | q <;> omega
    · omega
  refine CallK.of (records_spec j10 (by omega) hRbig) ?_
  rintro _ w11 ⟨v, Sv, rfl, hv, f11, _⟩
  have hvl := hv.len
  have hgl := hr10.len
  refine ⟨v, rfl, ?_⟩
  have j11 := j10.keep0 f11
  have hr11 := hr10.keep0 f11
  have F11 := F10.trans f11
  have fin : ∀ (gd' : Sl) (S' : Nat → Prop) (wa : World) (Q : World → Prop), IsRows wa S' gd' R → IsJ wa S10 p10 b g10 s10 false R → (∀ wb, Fr none1 wa wb → Q wb) →
      CallK Try.prog 68 #[.pointer (some ⟨p10, 0, none⟩)] wa (.v (.one .slc)) (fun (x72 : Option Addr × Nat × Nat) w73 => CallK Try.prog 67 #[.slice x72.1 x72.2.1 x72.2.2, .slice gd'.1 gd'.2.1 gd'.2.2] w73 (.v (.one .bool)) (fun (x74 : Bool) w75 => ifB (!x74)
  ((.bool false : Value) = .bool true ∧ Fr none1 w w75)
  (Q w75))) := fun gd' S' wa Q hga jga hQ => by
    refine CallK.of (records_spec jga (by omega) hRbig) ?_
    rintro _ wb ⟨v', Sv', rfl, hv', fb, _⟩
    refine ⟨v', rfl, ?_⟩
    refine CallK.of (rows_same hv' (hga.keep0 fb) (by omega) hRbig) ?_
    rintro _ wc ⟨rfl, fc⟩
    refine ⟨_, rfl, ifB.f (by simp) (hQ wc (fb.trans fc))⟩
  rw [wI (x := life + 1) (by omega) (by omega), wI (x := (gd.2.1 : Int) + 1) (by omega) (by omega)]
  have stay : R = rs → ∀ wb, Fr none1 w11 wb → (0 ≤ m ∧ m ≤ 16 ∧ 0 ≤ life + 1 ∧ life + 1 ≤ 6 ∧ Tr w wb b gd m) ∧ (6 - (life + 1)).toNat < (6 - life).toNat := fun hRr wb fb => by
    subst hRr
    exact ⟨⟨m0, m1, by omega, by omega, F11.trans fb, g10, s10, Sg, R, (j11.keep0 fb).file, hr11.keep0 fb, t1, hsy10, t3, t4, q10, e5, e6, fun k hk => ⟨(hSg k hk).1, (hSg k hk).2.1, hg10a k hk⟩⟩, by omega⟩
  refine ifB.by (fun hu => ?_) (fun hu => ?_)
  · refine ifB.eq (fun hq => ?_) (fun hq => ?_)
    · have hRx : R = rs ++ [x] := by
        rcases hR with t | ⟨t, _⟩
        · subst t; omega
        · exact t
      obtain ⟨v1, v2, _⟩ := u2 hu
      refine cut60 h0 F11 m0 v2 fun x2 w12 hx2 f12 hx2f => ?_
      rw [← hxu hu] at hx2
      have s1011 := f11.size
      obtain ⟨yy, w13, zz, w14, r1, f13, r2, f14, S', hS', hz⟩ := (hr11.keep0 f12).snoc hx2.rd (fun k hk => ⟨(hx2f k hk).2, fun t => by have := gl8 k t; have := (hx2f k hk).1; omega⟩) (by omega)
      refine ⟨yy, w13, r1, zz, w14, r2, ?_⟩
      rw [← hRx] at hz
      rw [wI (x := m + 1) (by omega) (by omega)]
      have ho : ∀ k, blkOf gd k → Sg k := hr8.own
      have s1112 := f12.size
      have bl10 := j10.file.lt
      have gg10 := j10.file.glt
      have j14 : IsJ w14 S10 p10 b g10 s10 false R := (j11.keep0 f12).keep f14 (fun t => by have := gl8 p10 (ho p10 t); omega) (fun t => (hSg b (ho b t)).2.1 rfl) (fun t => hg10a g10 (ho g10 t) rfl) (fun k hk t => by have := gl8 k (ho k t); have := hS10 k hk; omega)
      refine fin zz S' w14 _ hz j14 fun wb fb => ?_
      refine ⟨⟨by omega, by omega, by omega, by omega, ((F11.trans f12).comp f14 (fun k hk t => by have := (hSg k (ho k t)).1; omega)).trans fb, g10, s10, S', R, (j14.keep0 fb).file, hz.keep0 fb, t1, hsy10, t3, t4, q10, ?_, hRl.2, fun k hk => ?_⟩, by omega⟩
      · rw [hRx]; simp only [List.length_append, List.length_singleton]; omega
      · have fw := F8.size
        rcases hS' k hk with t | t | t
        · exact ⟨(hSg k t).1, (hSg k t).2.1, hg10a k t⟩
        · have := (hx2f k t).1; exact ⟨by omega, by omega, by omega⟩
        · exact ⟨by omega, by omega, by omega⟩
    · have hRr : R = rs := by
        rcases hR with t | ⟨t, _⟩
        · exact t
        · exfalso
          apply hq
          rw [hvl, t, hgl]; simp
      exact fin gd Sg w11 _ (by rw [hRr]; exact hr11) j11 (stay hRr)
  · have hRr : R = rs := by
      rcases hR with t | ⟨_, t⟩
      · exact t
      · exfalso
        have := u1 hu
        rw [this] at t
        have h := congrArg List.length t
        rw [packL_len] at h
        simp at h
    exact fin gd Sg w11 _ (by rw [hRr]; exact hr11) j11 (stay hRr)

end Go.Proofs.Ytejhjjafmobmbaa
