/-
  JournalPlays: whatever is put, wherever the file stops: each answer, the records, the file's own bytes are what the document says.
  Conditions: none beyond the statement's own.
-/
import Derived.Test.YtejhjjafmobmbaaJDuo
import Derived.Test.YtejhjjafmobmbaaCJPlays
set_option linter.unusedVariables false
namespace Go.Proofs.Ytejhjjafmobmbaa
open Vc

def RecC (i j : Nat) (W0 W1 : World) : (Nat → Bool) → World → Prop := fun D w =>
  (D i = false ∧ D j = false ∧ w = W0) ∨ (D i = true ∧ D j = false ∧ w = W1) ∨ (D i = true ∧ D j = true ∧ Fr none1 W1 w)
theorem RecC.calm {i j k : Nat} {W0 W1 : World} {D : Nat → Bool} {w : World} (h : RecC i j W0 W1 D w) (hi : i ≠ k) (hj : j ≠ k) : RecC i j W0 W1 (upd D k) w := by
  unfold RecC at *
  rw [upd_ne' _ hi, upd_ne' _ hj]; exact h
theorem RecC.fr {i j : Nat} {W0 W1 : World} {D : Nat → Bool} {w : World} (h : RecC i j W0 W1 D w) (f : Fr none1 W0 W1) : Fr none1 W0 w := by
  rcases h with ⟨_, _, rfl⟩ | ⟨_, _, rfl⟩ | ⟨_, _, h⟩
  · exact Fr.refl _ _
  · exact f
  · exact f.trans h

def TailC (W0 W1 W2 W3 : World) : (Nat → Bool) → World → Prop := fun D w =>
  (D 1 = false ∧ D 6 = false ∧ D 19 = false ∧ D 24 = false ∧ w = W0) ∨ (D 1 = true ∧ D 6 = false ∧ D 19 = false ∧ D 24 = false ∧ w = W1) ∨
  (D 1 = true ∧ D 6 = true ∧ D 19 = false ∧ D 24 = false ∧ w = W2) ∨ (D 1 = true ∧ D 6 = true ∧ D 19 = true ∧ D 24 = false ∧ w = W3) ∨ (D 1 = true ∧ D 6 = true ∧ D 19 = true ∧ D 24 = true ∧ Fr none1 W3 w)
theorem TailC.calm {k : Nat} {W0 W1 W2 W3 : World} {D : Nat → Bool} {w : World} (h : TailC W0 W1 W2 W3 D w) (h1 : 1 ≠ k) (h2 : 6 ≠ k) (h3 : 19 ≠ k) (h4 : 24 ≠ k) : TailC W0 W1 W2 W3 (upd D k) w := by
  unfold TailC at *
  rw [upd_ne' _ h1, upd_ne' _ h2, upd_ne' _ h3, upd_ne' _ h4]; exact h
theorem TailC.fr {W0 W1 W2 W3 : World} {D : Nat → Bool} {w : World} (h : TailC W0 W1 W2 W3 D w) (f1 : Fr none1 W0 W1) (f2 : Fr none1 W1 W2) (f3 : Fr none1 W2 W3) : Fr none1 W0 w := by
  rcases h with ⟨_, _, _, _, rfl⟩ | ⟨_, _, _, _, rfl⟩ | ⟨_, _, _, _, rfl⟩ | ⟨_, _, _, _, rfl⟩ | ⟨_, _, _, _, h⟩
  · exact Fr.refl _ _
  · exact f1
  · exact f1.trans f2
  · exact (f1.trans f2).trans f3
  · exact ((f1.trans f2).trans f3).trans h

def PutC (w : World) (p q b c e gl : Nat) (E : Nat → Prop) (X Y : JS) (x y : Int) (v : Sl) (bs : List UInt8) : (Nat → Bool) → World → Prop := fun D w9 =>
  ∃ A B, Duo w w9 p q b c A B E (if D 2 = true then putX X bs else X) (if D 6 = true then putX Y bs else Y) ∧ IsB w9 (some ⟨gl, 0, none⟩, bs.length + 3, bs.length + 3) (lendL bs) ∧
    w9.heap[e]? = some (.cells #[.int .i64 x, .int .i64 y, .slice v.1 v.2.1 v.2.2] 93 (0, 0))

theorem only_gl {gl n m : Nat} {k : Nat} (h : blkOf (some (⟨gl, 0, none⟩ : Addr), n, m) k) : k = gl := by
  obtain ⟨ad, had, q⟩ := h
  injection had with had; subst had; exact q
theorem lend_rd {w9 : World} {gl : Nat} {bs : List UInt8} (hl : IsB w9 (some ⟨gl, 0, none⟩, bs.length + 3, bs.length + 3) (lendL bs)) : RdB w9 (some ⟨gl, 0, none⟩, bs.length, bs.length + 3) bs := by
  have := hl.rd.2.2 _ rfl
  refine ⟨by simp, (fun q => nomatch q), fun ad had => ?_⟩
  injection had with had; subst had
  have := cellsAt_take _ 0 bs.length this
  rw [← List.map_take] at this
  unfold lendL at this
  rw [List.take_left] at this
  exact this

theorem plays18_walk (q0 : Int) (a : Option Addr) (len cap : Nat) (z : List ActV) (w : World) (h0 : (Go.Lit.int .i64 q0).wf = true) (h1 : IsActs w a len cap z) :
    Ret Try.prog 21 #[.int .i64 q0, .slice a len cap] w fun r w' => r = .bool true ∧ Fr none1 w w' := by
  have hlen := h1.len_le
  refine c21 q0 a len cap w _ ?_
  unfold C21
  refine CallK.of (within_spec q0 400 w (by omega)) ?_
  rintro _ _ ⟨rfl, rfl⟩
  refine ⟨_, rfl, ?_⟩
  generalize within q0 400 = qq
  refine CallK.of (fnew_spec qq w) ?_
  rintro _ w1 ⟨b, rfl, hb, f1, i1⟩
  refine ⟨some ⟨b, 0, none⟩, rfl, ?_⟩
  refine CallK.of (rnew_spec qq w1) ?_
  rintro _ w2 ⟨c, rfl, hc, f2, i2⟩
  refine ⟨some ⟨c, 0, none⟩, rfl, ifB.f rfl ?_⟩
  refine CallK.of (open_none (i1.keep0 f2) rfl rfl) ?_
  rintro _ w3 ⟨p, S, rfl, hp, f3, hS, j3⟩
  refine ⟨(some ⟨p, 0, none⟩, 0, ()), rfl, ?_⟩
  have P0 : Parse [] [] [] := .stop rfl
  refine CallK.of (ropen_spec (i2.keep0 f3) rfl P0) ?_
  rintro _ w4 hO
  rcases hO with ⟨q, T, h, t', rfl, hq, f4, hT, hh, k4, hs⟩ | ⟨hne, _⟩
  rotate_left
  · exact absurd rfl hne
  obtain rfl : t' = newF qq := hs.elim (fun x => x.2) (fun x => absurd rfl x.1)
  refine ⟨(some ⟨q, 0, none⟩, 0, ()), rfl, ifB.f rfl (ifB.f rfl (ifB.f rfl ?_))⟩
  have D0 : ∃ A B, Duo w w4 p q b c A B none1 (newF qq, false, []) (newF qq, false, []) := by
    have b1 := i1.lt
    have c2 := i2.lt
    have p3 := j3.plt
    have S3 := j3.slt
    have s1 := f1.size
    have s2 := f2.size
    have s3 := f3.size
    have s4 := f4.size
    have kq := k4.plt
    have kT := k4.slt
    have kh := k4.file.glt
    have nc : ∀ k, (k = p ∨ k = b ∨ S k) → ¬ two c c k := fun k hk t => by
      have t : k = c := t.elim id id
      rcases hk with u | u | u
      · omega
      · omega
      · have := hS k u; omega
    refine ⟨fun k => k = p ∨ k = b ∨ S k, fun k => k = q ∨ k = c ∨ k = h ∨ T k, ((f1.trans f2).trans f3).comp f4 (fun k hk t => by rcases t with t | t <;> omega),
      ⟨S, b, j3.keep f4 (nc p (.inl rfl)) (nc b (.inr (.inl rfl))) (nc b (.inr (.inl rfl))) (fun k hk => nc k (.inr (.inr hk))), fun k hk => ?_⟩, ⟨T, h, k4, fun k hk => hk⟩, fun k hk t => ?_, fun k hk => ?_, fun k hk => ?_, fun k hk => ?_, fun k hk => ?_, fun k hk => hk.elim⟩
    · rcases hk with u | u | u | u
      · exact .inl u
      · exact .inr (.inl u)
      · exact .inr (.inl u)
      · exact .inr (.inr u)
    · have hlt : k < w3.heap.size ∧ k ≠ c := by
        refine ⟨?_, fun u => nc k hk (.inl u)⟩
        rcases hk with u | u | u
        · omega
        · omega
        · exact S3 k u
      rcases t with u | u | u | u
      · omega
      · exact hlt.2 u
      · rcases hh with v | v | v <;> omega
      · have := hT k u; omega
    · rcases hk with u | u | u
      · omega
      · omega
      · have := hS k u; omega
    · rcases hk with u | u | u | u
      · omega
      · omega
      · rcases hh with v | v | v <;> omega
      · have := hT k u; omega
    · rcases hk with u | u | u
      · omega
      · omega
      · have := S3 k u; omega
    · rcases hk with u | u | u | u
      · omega
      · omega
      · omega
      · exact kT k u
  obtain ⟨A, B, D0⟩ := D0
  clear i1 i2 j3 k4 hs hT hh hS hp hq f3 f4
  refine LoopK.of (fun s w' => 0 ≤ s.2.2.1 ∧ s.2.2.1 ≤ 20 ∧ ∃ p q A B s1 t1 d rs, s.1 = some ⟨p, 0, none⟩ ∧ s.2.1 = some ⟨q, 0, none⟩ ∧ Duo w w' p q b c A B none1 (s1, d, rs) (t1, d, rs) ∧ Sim s1 t1 ∧ (rs.length : Int) ≤ 30000 + s.2.2.1 ∧ ∀ r ∈ rs, r.length ≤ 4000) (fun s _ => (20 - s.2.2.1).toNat)
    ⟨Int.le_refl _, by dsimp only; omega, p, q, A, B, newF qq, newF qq, false, [], rfl, rfl, D0, ⟨rfl, rfl, rfl, rfl, rfl, fun _ => rfl⟩, by simp, by simp⟩ ?_
  clear D0
  rintro _ ⟨pj, pk, i, _⟩ w5 ⟨i0, i20, p, q, A, B, s, t, d, rs, hpj, hpk, D, sim, hrl, hrr⟩
  dsimp only at i0 i20 hpj hpk hrl ⊢
  subst hpj; subst hpk
  have done : CallK Try.prog 64 #[] w5 (.v (.one .bool)) (fun (x135 : Bool) w136 => (.bool x135 : Value) = .bool true ∧ Fr none1 w w136) := by
    refine CallK.of (wakes18_spec w5) ?_
    rintro _ w6 ⟨rfl, f6⟩
    exact ⟨_, rfl, rfl, D.fr.trans f6⟩
  refine ifB.dec (fun hin => ?_) (fun _ => done)
  refine ifB.dec (fun hin2 => ?_) (fun _ => done)
  clear done
  rw [wI (x := i + 1) (by omega) (by omega)]
  refine acts_ld h1 D.fr i0 hin fun x y v bs hx hy hv hvk hbl => ?_
  refine NewK.of fun e w6 he he6 f6 hs6 => ?_
  refine StsK.blk he6 rfl rfl fun w7 he7 f7 _ => ?_
  dsimp only at he7 ⊢
  have szw := D.fr.size
  have D7 : Duo w w7 p q b c A B (only e) (s, d, rs) (t, d, rs) := by
    have D6 := (D.keep0 f6).withE (E' := only e) fun k hk => by
      have hk : k = e := hk
      subst hk
      exact ⟨by omega, fun t => by have := D.ltA _ t; omega, fun t => by have := D.ltB _ t; omega⟩
    exact D6.keepX f7 (fun k hk t => (D6.e k t).2.1 hk) (fun k hk t => (D6.e k t).2.2 hk) (fun k hk => by have hk : k = e := hk; omega)
  have s57 : w5.heap.size ≤ w7.heap.size := Nat.le_trans f6.size f7.size
  clear D f7 he6 f6
  have keepE : ∀ {w8 w9 : World}, Fr (noE (only e)) w8 w9 → w8.heap[e]? = some (.cells #[.int .i64 x, .int .i64 y, .slice v.1 v.2.1 v.2.2] 93 (0, 0)) → w9.heap[e]? = some (.cells #[.int .i64 x, .int .i64 y, .slice v.1 v.2.1 v.2.2] 93 (0, 0)) := fun f hh => f.keep hh (fun t => t rfl)
  refine JoinK.of (fun s' w' => ∃ p q A B s1 t1 d rs, s'.1 = some ⟨p, 0, none⟩ ∧ s'.2.1 = some ⟨q, 0, none⟩ ∧ Duo w w' p q b c A B none1 (s1, d, rs) (t1, d, rs) ∧ Sim s1 t1 ∧ (rs.length : Int) ≤ 30000 + (i + 1) ∧ ∀ r ∈ rs, r.length ≤ 4000) ?_ ?_
  · have fin : ∀ (w' : World) (p q : Nat) (A B E : Nat → Prop) (s1 t1 : FileS) (d : Bool) (rs : List (List UInt8)), Duo w w' p q b c A B E (s1, d, rs) (t1, d, rs) → Sim s1 t1 → (rs.length : Int) ≤ 30000 + (i + 1) → (∀ r ∈ rs, r.length ≤ 4000) →
        ∃ p' q' A B s1 t1 d rs, (some ⟨p, 0, none⟩ : Option Addr) = some ⟨p', 0, none⟩ ∧ (some ⟨q, 0, none⟩ : Option Addr) = some ⟨q', 0, none⟩ ∧ Duo w w' p' q' b c A B none1 (s1, d, rs) (t1, d, rs) ∧ Sim s1 t1 ∧ (rs.length : Int) ≤ 30000 + (i + 1) ∧ ∀ r ∈ rs, r.length ≤ 4000 :=
      fun w' p q A B E s1 t1 d rs D sm h1 h2 => ⟨p, q, A, B, s1, t1, d, rs, rfl, rfl, D.withE (fun k hk => hk.elim), sm, h1, h2⟩
    refine LdK.fld he7 (x := x) rfl ?_
    refine CallK.of (within_spec x 9 w7 (by omega)) ?_
    rintro _ _ ⟨rfl, rfl⟩
    refine ⟨_, rfl, ?_⟩
    refine JoinK.of (fun _ w' => w7 = w') (ifB.by (fun _ => rfl) (fun _ => ifB.by (fun _ => rfl) (fun _ => ifB.by (fun _ => rfl) (fun _ => rfl)))) ?_
    rintro _ ⟨q1, _⟩ _ rfl
    dsimp only
    refine ifB.by (fun _ => ?_) (fun _ => ?_)
    · -- a record put
      refine LdK.fld he7 (x := v) rfl ?_
      refine CallK.of (lend_spec (hv.keep0 D7.fr) hbl) ?_
      rintro _ w8 ⟨gl, rfl, hgl, hlend, f8⟩
      refine ⟨(some ⟨gl, 0, none⟩, bs.length, bs.length + 3), rfl, ?_⟩
      have hltgl : gl < w8.heap.size := IsSl.lt hlend ⟨_, rfl, rfl⟩
      have D8 : Duo w w8 p q b c A B (fun k => k = e ∨ k = gl) (s, d, rs) (t, d, rs) := (D7.keep0 f8).withE fun k hk => by
        rcases hk with u | u
        · have q1 := D7.e k u; have q2 := f8.size; exact ⟨by omega, q1.2⟩
        · subst u
          exact ⟨hltgl, fun t => by have := D7.ltA _ t; omega, fun t => by have := D7.ltB _ t; omega⟩
      have keep2 : ∀ {w8 w9 : World}, Fr (noE (fun k => k = e ∨ k = gl)) w8 w9 → IsB w8 (some ⟨gl, 0, none⟩, bs.length + 3, bs.length + 3) (lendL bs) ∧ w8.heap[e]? = some (.cells #[.int .i64 x, .int .i64 y, .slice v.1 v.2.1 v.2.2] 93 (0, 0)) →
          IsB w9 (some ⟨gl, 0, none⟩, bs.length + 3, bs.length + 3) (lendL bs) ∧ w9.heap[e]? = some (.cells #[.int .i64 x, .int .i64 y, .slice v.1 v.2.1 v.2.2] 93 (0, 0)) := fun f hh => ⟨hh.1.keep f (fun k hk t => t (.inr (only_gl hk))), f.keep hh.2 (fun t => t (.inl rfl))⟩
      have r0 := drew_fr w8
      have hvB : ∀ (w9 : World) (A B E : Nat → Prop) (X Y : JS), Duo w w9 p q b c A B E X Y → bs ≠ [] → ∀ k, blkOf v k → ¬ B k := fun w9 A B E X Y D hne k hk t => by have := hvk hne k hk; have := D.loB k t; omega
      refine ⟨⟨PutC w p q b c e gl (fun k => k = e ∨ k = gl) (s, d, rs) (t, d, rs) x y v bs, ⟨A, B, D8.keep0 r0, hlend.keep0 r0, r0.keep0 (f8.keep0 he7)⟩, ?_⟩⟩
      obtain ⟨ecode, simA⟩ := sim.put d bs
      refine ⟨(putJ s d bs).2.2.1, fun DD w9 hD _ hC => ?_, ?_⟩
      · obtain ⟨A, B, D9, hl9, he9⟩ := hC
        rw [hD, if_neg (by simp)] at D9
        refine CallK.of (D9.put (lend_rd hl9) (fun k hk => ?_) (by show rs.length ≤ _; omega)) ?_
        · have := D9.e k (.inr (only_gl hk)); exact ⟨this.1, this.2.1⟩
        rintro _ w10 ⟨rfl, A', D10, f10⟩
        obtain ⟨hl10, he10⟩ := keep2 f10 ⟨hl9, he9⟩
        refine ⟨_, rfl, rfl, A', B, ?_, hl10, he10⟩
        rw [upd_self', if_pos rfl, upd_ne' _ (by decide)]; exact D10
      refine ⟨v, fun DD w9 hD _ hC => ?_, ?_⟩
      · obtain ⟨A, B, D9, hl9, he9⟩ := hC
        refine LdK.fld he9 (x := v) rfl ⟨rfl, A, B, ?_, hl9, he9⟩
        rw [upd_ne' _ (by decide), upd_ne' _ (by decide)]; exact D9
      refine ⟨(putJ t d bs).2.2.1, fun DD w9 hD _ hC => ?_, ?_⟩
      · obtain ⟨A, B, D9, hl9, he9⟩ := hC
        rw [hD, if_neg (show ¬ false = true by simp)] at D9
        refine CallK.of (D9.rput (hv.keep0 D9.fr) (hvB _ _ _ _ _ _ D9) (by show rs.length ≤ _; omega)) ?_
        rintro _ w10 ⟨rfl, B', D10, f10⟩
        obtain ⟨hl10, he10⟩ := keep2 f10 ⟨hl9, he9⟩
        refine ⟨_, rfl, rfl, A, B', ?_, hl10, he10⟩
        rw [upd_self', if_pos rfl, upd_ne' _ (by decide)]; exact D10
      refine ifB.f (by rw [ecode]; simp) ?_
      refine ⟨v, fun DD w9 hD _ hC => ?_, ?_⟩
      · obtain ⟨A, B, D9, hl9, he9⟩ := hC
        refine LdK.fld he9 (x := v) rfl ⟨rfl, A, B, ?_, hl9, he9⟩
        rw [upd_ne' _ (by decide), upd_ne' _ (by decide)]; exact D9
      refine ⟨true, fun DD w9 hD _ hC => ?_, ?_⟩
      · obtain ⟨A, B, D9, hl9, he9⟩ := hC
        refine CallK.of (intact_spec hl9 (hv.keep0 D9.fr) hbl) ?_
        rintro _ w10 ⟨rfl, f10⟩
        refine ⟨true, rfl, rfl, A, B, ?_, hl9.keep0 f10, f10.keep0 he9⟩
        rw [upd_ne' _ (by decide), upd_ne' _ (by decide)]; exact D9.keep0 f10
      intro w9 hC
      obtain ⟨A, B, D9, _, _⟩ := hC
      have D9 : Duo w w9 p q b c A B (fun k => k = e ∨ k = gl) (putX (s, d, rs) bs) (putX (t, d, rs) bs) := D9
      have ex : putX (t, d, rs) bs = ((putJ t d bs).1, (putX (s, d, rs) bs).2) := by
        unfold putX
        dsimp only
        rw [ecode]
      rw [ex] at D9
      refine ifB.f rfl (fin w9 p q A B _ _ _ _ _ D9 simA ?_ fun r hr => ?_)
      · show (((if (putJ s d bs).2.2.2 then rs ++ [bs] else rs).length : Nat) : Int) ≤ _
        split
        · simp only [List.length_append, List.length_singleton]; omega
        · omega
      · have hr : r ∈ (if (putJ s d bs).2.2.2 then rs ++ [bs] else rs) := hr
        split at hr
        · rename_i hfl
          rcases List.mem_append.1 hr with hr | hr
          · exact hrr r hr
          · simp at hr; subst hr; exact putJ_len hfl
        · exact hrr r hr
    refine ifB.by (fun _ => ?_) (fun _ => ?_)
    · -- a fuse
      refine LdK.fld he7 (x := y) rfl ?_
      refine CallK.of (within_spec y 4 w7 (by omega)) ?_
      rintro _ _ ⟨rfl, rfl⟩
      refine ⟨_, rfl, ?_⟩
      generalize hn : within y 4 = n
      obtain ⟨g, hf, step⟩ := D7.fileL
      refine CallK.of (ffuse_spec hf n) ?_
      rintro _ w8 ⟨rfl, t8⟩
      obtain ⟨A8, D8, f8⟩ := step _ _ t8
      have he8 := keepE f8 he7
      refine ⟨(), rfl, LdK.fld he8 (x := y) rfl ?_⟩
      refine CallK.of (within_spec y 4 w8 (by omega)) ?_
      rintro _ _ ⟨rfl, rfl⟩
      refine ⟨_, rfl, ?_⟩
      rw [hn]
      obtain ⟨h, hg, rstep⟩ := D8.fileR
      refine CallK.of (rfuse_spec hg n) ?_
      rintro _ w9 ⟨rfl, t9⟩
      obtain ⟨B9, D9, f9⟩ := rstep _ _ t9
      exact ⟨(), rfl, fin w9 p q A8 B9 _ _ _ _ _ D9 (sim.fuse' n) (by omega) hrr⟩
    refine JoinK.of (fun _ w' => w7 = w') (ifB.by (fun _ => rfl) (fun _ => rfl)) ?_
    rintro _ ⟨q2, _⟩ _ rfl
    dsimp only
    refine ifB.by (fun _ => ?_) (fun _ => ?_)
    · -- a crash
      have r0 := drew_fr w7
      generalize hW0 : ({ w7 with drawn := w7.drawn + 1 } : World) = W0 at r0
      have D8 := D7.keep0 r0
      have heW := r0.keep0 he7
      obtain ⟨g, hf, step⟩ := D8.fileL
      generalize hn : IntKind.i64.wrap (within y 200 - 1) = n
      refine ⟨⟨LastC 9 [2, 3, 6, 8] W0 (fun w' => FileTo W0 b g (crashF s n (IntKind.u8.wrap (v.2.1 : Int))) w'), .inl ⟨rfl, hW0⟩, ?_⟩⟩
      refine ⟨y, fun DD w9 hD _ hC => ?_, ?_⟩
      · obtain ⟨e9, hC'⟩ := hC.calm (j := 2) (by simp) (by decide) hD
        rw [← e9] at heW
        exact LdK.fld heW (x := y) rfl ⟨rfl, hC'⟩
      refine ⟨within y 200, fun DD w9 hD _ hC => ?_, ?_⟩
      · obtain ⟨e9, hC'⟩ := hC.calm (j := 3) (by simp) (by decide) hD
        refine CallK.of (within_spec y 200 w9 (by omega)) ?_
        rintro _ _ ⟨rfl, rfl⟩
        exact ⟨_, rfl, rfl, hC'⟩
      refine ⟨v, fun DD w9 hD _ hC => ?_, ?_⟩
      · obtain ⟨e9, hC'⟩ := hC.calm (j := 6) (by simp) (by decide) hD
        rw [← e9] at heW
        exact LdK.fld heW (x := v) rfl ⟨rfl, hC'⟩
      refine ⟨IntKind.u8.wrap (v.2.1 : Int), fun DD w9 hD _ hC => ⟨rfl, (hC.calm (j := 8) (by simp) (by decide) hD).2⟩, ?_⟩
      rw [hn]
      refine ⟨(), fun DD w9 hD hpr hC => ?_, ?_⟩
      · have e9 := hC.last hD
        subst e9
        refine CallK.of (fcrash_spec hf n (IntKind.u8.wrap (v.2.1 : Int))) ?_
        rintro _ w10 ⟨rfl, t10⟩
        exact ⟨(), rfl, rfl, LastC.done (by decide) hpr t10⟩
      intro w9 hC
      rcases hC with ⟨q9, _⟩ | ⟨_, _, t9⟩
      · cases q9
      obtain ⟨A9, D9, f9⟩ := step _ _ t9
      have he9 := keepE f9 heW
      clear step hf D8 t9 heW
      have r1 := drew_fr w9
      generalize hV0 : ({ w9 with drawn := w9.drawn + 1 } : World) = V0 at r1
      have D10 := D9.keep0 r1
      have heV := r1.keep0 he9
      obtain ⟨h, hg, rstep⟩ := D10.fileR
      refine ⟨⟨LastC 9 [2, 3, 6, 8] V0 (fun w' => RefTo V0 c h (crashR t n (IntKind.u8.wrap (v.2.1 : Int))) w'), .inl ⟨rfl, hV0⟩, ?_⟩⟩
      refine ⟨y, fun DD w9 hD _ hC => ?_, ?_⟩
      · obtain ⟨e9, hC'⟩ := hC.calm (j := 2) (by simp) (by decide) hD
        rw [← e9] at heV
        exact LdK.fld heV (x := y) rfl ⟨rfl, hC'⟩
      refine ⟨within y 200, fun DD w9 hD _ hC => ?_, ?_⟩
      · obtain ⟨e9, hC'⟩ := hC.calm (j := 3) (by simp) (by decide) hD
        refine CallK.of (within_spec y 200 w9 (by omega)) ?_
        rintro _ _ ⟨rfl, rfl⟩
        exact ⟨_, rfl, rfl, hC'⟩
      refine ⟨v, fun DD w9 hD _ hC => ?_, ?_⟩
      · obtain ⟨e9, hC'⟩ := hC.calm (j := 6) (by simp) (by decide) hD
        rw [← e9] at heV
        exact LdK.fld heV (x := v) rfl ⟨rfl, hC'⟩
      refine ⟨IntKind.u8.wrap (v.2.1 : Int), fun DD w9 hD _ hC => ⟨rfl, (hC.calm (j := 8) (by simp) (by decide) hD).2⟩, ?_⟩
      rw [hn]
      refine ⟨(), fun DD w9 hD hpr hC => ?_, ?_⟩
      · have e9 := hC.last hD
        subst e9
        refine CallK.of (rcrash_spec hg n (IntKind.u8.wrap (v.2.1 : Int))) ?_
        rintro _ w10 ⟨rfl, t10⟩
        exact ⟨(), rfl, rfl, LastC.done (by decide) hpr t10⟩
      intro w11 hC
      rcases hC with ⟨q9, _⟩ | ⟨_, _, t11⟩
      · cases q9
      obtain ⟨B11, D11, f11⟩ := rstep _ _ t11
      have simC := sim.crash n (IntKind.u8.wrap (v.2.1 : Int))
      obtain ⟨g11, hf11, _⟩ := D11.fileL
      have hbl11 := hf11.ok.len
      obtain ⟨rows, rest, hP⟩ := parse_any (crashF s n (IntKind.u8.wrap (v.2.1 : Int))).b.length _ (Nat.le_refl _)
      have hP' : Parse (crashR t n (IntKind.u8.wrap (v.2.1 : Int))).b rows rest := by rw [← simC.b]; exact hP
      have hPl := hP.len
      refine CallK.of (D11.open rfl rfl hP) ?_
      rintro _ w12 ⟨p', A12, rfl, D12, f12⟩
      refine ⟨(some ⟨p', 0, none⟩, 0, ()), rfl, ?_⟩
      refine CallK.of (D12.ropen rfl rfl hP') ?_
      rintro _ w13 ⟨q', B13, rfl, D13, f13⟩
      refine ⟨(some ⟨q', 0, none⟩, 0, ()), rfl, ifB.f rfl (ifB.f rfl (ifB.f rfl ?_))⟩
      have hbl11' : (crashF s n (IntKind.u8.wrap (v.2.1 : Int))).b.length ≤ 65536 := hbl11
      exact fin w13 p' q' _ _ _ _ _ _ _ D13 (cutS_sim simC rest) (by omega) hPl.2
    refine ifB.by (fun _ => ?_) (fun _ => ?_)
    · -- raw bytes behind
      refine LdK.fld he7 (x := v) rfl ?_
      obtain ⟨g, hf, step⟩ := D7.fileL
      refine CallK.of (fappend_specE hf (hv.keep0 D7.fr) (fun hne t => by have := hvk hne b t; have := hb; omega)) ?_
      rintro _ w8 ⟨rfl, t8⟩
      obtain ⟨A8, D8, f8⟩ := step _ _ t8
      have he8 := keepE f8 he7
      refine ⟨_, rfl, LdK.fld he8 (x := v) rfl ?_⟩
      obtain ⟨h, hg, rstep⟩ := D8.fileR
      refine CallK.of (rappend_spec hg (hv.keep0 D8.fr) (fun hne t => by have := hvk hne c t; have := f1.size; omega)) ?_
      rintro _ w9 ⟨rfl, t9⟩
      obtain ⟨B9, D9, f9⟩ := rstep _ _ t9
      have he9 := keepE f9 he8
      refine ⟨_, rfl, ?_⟩
      obtain ⟨_, simA⟩ := sim.app bs
      generalize (appF s bs).1 = s9 at *
      generalize (appF t bs).1 = t9' at *
      clear step rstep hf hg t8 t9
      obtain ⟨g9, hf9, _⟩ := D9.fileL
      obtain ⟨h9, hg9, _⟩ := D9.fileR
      refine CallK.of (fclone_spec hf9) ?_
      rintro _ w10 ⟨fc, fg, rfl, f10, hfc, hfg, jc⟩
      refine ⟨some ⟨fc, 0, none⟩, rfl, ?_⟩
      have D10 := D9.keep0 f10
      have he10 := f10.keep0 he9
      have hbl9 : s9.b.length ≤ 65536 := hf9.ok.len
      -- what stands behind the comparison
      have behind : ∀ w14 : World, Duo w w14 p q b c A8 B9 (only e) (s9, d, rs) (t9', d, rs) → w14.heap[e]? = some (.cells #[.int .i64 x, .int .i64 y, .slice v.1 v.2.1 v.2.2] 93 (0, 0)) →
          DrewK w14 (fun w157 => optA (some (⟨c, 0, none⟩ : Addr)) (fun a158 => LdK .slc (a158.add 0) w157 (fun (x159 : Option Addr × Nat × Nat) => LdK .slc ((⟨e, 0, none⟩ : Addr).add 2) w157 (fun (x160 : Option Addr × Nat × Nat) => JoinK (Bool × Unit) (fun J161 => DrewK w157 (fun w164 => optA (some (⟨c, 0, none⟩ : Addr)) (fun a165 => LdK .bool (a165.add 3) w164 (fun (x166 : Bool) => ifB (!x166)
          (ifB (decide ((IntKind.i64.wrap ((x159.2.1 : Int) - (x160.2.1 : Int))) ≥ 0))
          (optA (some (⟨c, 0, none⟩ : Addr)) (fun a167 => LdK .slc (a167.add 0) w164 (fun (x168 : Option Addr × Nat × Nat) => SubK x168.1 x168.2.2 (IntKind.i64.wrap ((x159.2.1 : Int) - (x160.2.1 : Int))) x168.2.1 x168.2.2 1 (fun a169 l170 c171 => LdK .slc ((⟨e, 0, none⟩ : Addr).add 2) w164 (fun (x172 : Option Addr × Nat × Nat) => CallK Try.prog 45 #[.slice a169 l170 c171, .slice x172.1 x172.2.1 x172.2.2] w164 (.v (.one .bool)) (fun (x173 : Bool) w174 => J161 (x173, ()) w174))))))
          (J161 (false, ()) w164))
          (J161 (false, ()) w164)))))
          (fun _ s162 w163 => ifB s162.1
          (CallK Try.prog 53 #[.pointer (some ⟨b, 0, none⟩), .int .i64 (IntKind.i64.wrap ((x159.2.1 : Int) - (x160.2.1 : Int)))] w163 (.v (.one (.int .i64))) (fun (x175 : Int) w176 => CallK Try.prog 59 #[.pointer (some ⟨c, 0, none⟩), .int .i64 (IntKind.i64.wrap ((x159.2.1 : Int) - (x160.2.1 : Int)))] w176 (.v (.one (.int .i64))) (fun (x177 : Int) w178 => ∃ p' q' A B s1 t1 d rs, (some ⟨p, 0, none⟩ : Option Addr) = some ⟨p', 0, none⟩ ∧ (some ⟨q, 0, none⟩ : Option Addr) = some ⟨q', 0, none⟩ ∧ Duo w w178 p' q' b c A B none1 (s1, d, rs) (t1, d, rs) ∧ Sim s1 t1 ∧ (rs.length : Int) ≤ 30000 + (i + 1) ∧ ∀ r ∈ rs, r.length ≤ 4000)))
          (∃ p' q' A B s1 t1 d rs, (some ⟨p, 0, none⟩ : Option Addr) = some ⟨p', 0, none⟩ ∧ (some ⟨q, 0, none⟩ : Option Addr) = some ⟨q', 0, none⟩ ∧ Duo w w163 p' q' b c A B none1 (s1, d, rs) (t1, d, rs) ∧ Sim s1 t1 ∧ (rs.length : Int) ≤ 30000 + (i + 1) ∧ ∀ r ∈ rs, r.length ≤ 4000)))))) := fun w14 D14 he14 => by
        refine DrewK.of fun w15 _ f15 => ?_
        have D15 := D14.keep0 f15
        have he15 := f15.keep0 he14
        obtain ⟨h15, hg15, _⟩ := D15.fileR
        obtain ⟨⟨sl, hcb, hsl, _⟩, _, okr⟩ := hg15
        have hslen := hsl.len
        have hok : t9'.b.length ≤ 65536 := okr.len
        have hsl' : IsB w15 sl t9'.b := hsl
        have hslen' : sl.2.1 = t9'.b.length := hslen
        refine LdK.fld hcb (x := sl) rfl ?_
        refine LdK.fld he15 (x := v) rfl ?_
        have hvl := hv.len
        rw [wI (x := (sl.2.1 : Int) - (v.2.1 : Int)) (by omega) (by omega)]
        refine JoinK.of (fun _ w' => Fr none1 w15 w') ?_ ?_
        · refine DrewK.of fun w16 _ f16 => ?_
          refine LdK.fld (f16.keep0 hcb) (x := t9'.dead) rfl ?_
          refine ifB.by (fun _ => ?_) (fun _ => f16)
          refine ifB.dec (fun hge => ?_) (fun _ => f16)
          refine LdK.fld (f16.keep0 hcb) (x := sl) rfl ?_
          refine RdB.mid (hsl'.rd.keep0 f16) (lo := (sl.2.1 : Int) - (v.2.1 : Int)) (hi := (sl.2.1 : Int)) (by omega) (by omega) (by omega) hsl'.cap fun u hu _ _ _ => ?_
          refine LdK.fld (f16.keep0 he15) (x := v) rfl ?_
          refine CallK.of (same_spec hu ((hv.keep0 D15.fr).keep0 f16) (by simp only [List.length_take, List.length_drop]; omega)) ?_
          rintro _ w17 ⟨rfl, f17⟩
          exact ⟨_, rfl, f16.trans f17⟩
        rintro _ ⟨bb, _⟩ w17 f17
        have f17 : Fr none1 w15 w17 := f17
        have D17 := D15.keep0 f17
        dsimp only
        generalize (sl.2.1 : Int) - (v.2.1 : Int) = n
        refine ifB.by (fun _ => ?_) (fun _ => ?_)
        · obtain ⟨g17, hf17, step⟩ := D17.fileL
          refine CallK.of (fcut_spec hf17 n) ?_
          rintro _ w18 ⟨rfl, t18⟩
          obtain ⟨A18, D18, _⟩ := step _ _ t18
          refine ⟨_, rfl, ?_⟩
          obtain ⟨h18, hg18, rstep⟩ := D18.fileR
          refine CallK.of (rcut_spec hg18 n) ?_
          rintro _ w19 ⟨rfl, t19⟩
          obtain ⟨B19, D19, _⟩ := rstep _ _ t19
          exact ⟨_, rfl, fin w19 p q _ _ _ _ _ _ _ D19 (simA.cut n).2 (by omega) hrr⟩
        · exact fin w17 p q _ _ _ _ _ _ _ D17 simA (by omega) hrr
      have eltfc : e < w9.heap.size := (D9.e e rfl).1
      cases hdead : s9.dead with
      | true =>
        refine CallK.of (open_dead jc hdead) ?_
        rintro _ _ ⟨rfl, rfl⟩
        refine ⟨(none, 11, ()), rfl, ?_⟩
        obtain ⟨h10, hg10, _⟩ := D10.fileR
        refine CallK.of (rcopy_spec hg10) ?_
        rintro _ w11 ⟨rc, rh, rfl, f11, hrc, hrh, kc⟩
        refine ⟨some ⟨rc, 0, none⟩, rfl, ?_⟩
        have hdead' : t9'.dead = true := by rw [← simA.dead]; exact hdead
        refine CallK.of (ropen_dead kc hdead') ?_
        rintro _ _ ⟨rfl, rfl⟩
        refine ⟨(none, 11, ()), rfl, ?_⟩
        refine JoinK.of (fun b w' => b.1 = false ∧ Fr none1 w11 w') ?_ ?_
        · refine RegK.still0 (ifB.f rfl (ifB.f rfl (ifB.f rfl ?_)))
          exact ⟨fun _ _ h => h, ⟨fun _ _ h => h, ⟨fun _ _ h => h, fun w12 f12 => ⟨rfl, f12⟩⟩⟩⟩
        rintro _ ⟨bb, _⟩ w12 ⟨hbb, f12⟩
        dsimp only at hbb
        subst hbb
        have f11' := f11.trans f12
        exact ifB.f rfl (behind w12 (D10.keep0 f11') (f11'.keep0 he10))
      | false =>
        obtain ⟨rows, rest, hP⟩ := parse_any s9.b.length _ (Nat.le_refl _)
        have hP' : Parse t9'.b rows rest := by rw [← simA.b]; exact hP
        have hPl := hP.len
        have hdead' : t9'.dead = false := by rw [← simA.dead]; exact hdead
        obtain ⟨ecut, _⟩ := simA.cut ((s9.b.length - rest.length : Nat) : Int)
        have ebl : s9.b.length = t9'.b.length := by rw [simA.b]
        refine CallK.of (open_gen jc hdead hP) ?_
        rintro _ w11 hO
        have hD11 : Fr (only fc) w10 w11 := by
          rcases hO with ⟨_, _, _, _, _, _, f, _⟩ | ⟨_, _, _, t⟩
          · exact f
          · exact t.1
        have nA : ∀ k, A8 k → ¬ only fc k := fun k hk t => by have := D9.ltA k hk; have : k = fc := t; omega
        have nB : ∀ k, B9 k → ¬ only fc k := fun k hk t => by have := D9.ltB k hk; have : k = fc := t; omega
        have s9w := D9.fr.size
        have D11 := D10.keepX hD11 nA nB (fun k hk => by have : k = fc := hk; omega)
        have he11 := hD11.keep he10 (fun t => by have : e = fc := t; omega)
        have s1011 := hD11.size
        have s910 := f10.size
        obtain ⟨h11, hg11, _⟩ := D11.fileR
        rcases hO with ⟨p2, S2, g2, s2, rfl, hp2, _, hS2, hg2, j2, hs2⟩ | ⟨hne, hcode, rfl, t11⟩
        · refine ⟨(some ⟨p2, 0, none⟩, 0, ()), rfl, ?_⟩
          refine CallK.of (rcopy_spec hg11) ?_
          rintro _ w12 ⟨rc, rh, rfl, f12, hrc, hrh, kc⟩
          refine ⟨some ⟨rc, 0, none⟩, rfl, ?_⟩
          refine CallK.of (ropen_spec kc hdead' hP') ?_
          rintro _ w13 hO2
          rcases hO2 with ⟨q2, T2, h2, t2, rfl, hq2, f13, hT2, hh2, k2, ht2⟩ | ⟨hne, hcode, _⟩
          rotate_left
          · rw [← ebl, ← ecut] at hcode
            rcases hs2 with ⟨u, _⟩ | ⟨_, u, _⟩
            · exact absurd u hne
            · exact absurd u hcode
          refine ⟨(some ⟨q2, 0, none⟩, 0, ()), rfl, ?_⟩
          have s12 := f12.size
          have s13 := f13.size
          have jp := j2.plt
          have jf := j2.file.lt
          have jg := j2.file.glt
          have jS := j2.slt
          have j13 : IsJ w13 S2 p2 fc g2 s2 false rows := (j2.keep0 f12).keep f13 (fun t => by rcases t with t | t <;> omega) (fun t => by rcases t with t | t <;> omega) (fun t => by rcases t with t | t <;> omega) (fun k hk t => by have := jS k hk; rcases t with t | t <;> omega)
          have D13 := (D11.keep0 f12).keepX f13 (fun k hk t => by have := D11.ltA k hk; rcases t with t | t <;> omega) (fun k hk t => by have := D11.ltB k hk; rcases t with t | t <;> omega) (fun k hk => by have := D11.fr.size; rcases hk with t | t <;> omega)
          have he13 := f13.keep (f12.keep0 he11) (fun t => by have := lt_of_blk he11; rcases t with t | t <;> omega)
          refine JoinK.of (fun b w' => b.1 = false ∧ Fr none1 w13 w') ?_ ?_
          · have r0 := drew_fr w13
            generalize hW0 : ({ w13 with drawn := w13.drawn + 1 } : World) = W0 at r0
            have htk : rows.length ≤ 1000000 := by omega
            have htl : ∀ r ∈ rows, r.length ≤ 100000000 := fun r hr => by have := hPl.2 r hr; omega
            obtain ⟨x1, W1, SS, hr1, hx1, m1, _⟩ := records_is (j13.keep0 r0) htk htl
            obtain ⟨_, ⟨jl, hq13, hjl⟩, _⟩ := k2
            refine ⟨⟨RecC 15 20 W0 W1, .inl ⟨rfl, rfl, hW0⟩, ?_⟩⟩
            refine ifB.f rfl (ifB.f rfl (ifB.t rfl ?_))
            refine ⟨x1, fun DD w9 hD _ hC => ?_, ?_⟩
            · rcases hC with ⟨_, c2, rfl⟩ | ⟨c1, _⟩ | ⟨c1, _⟩
              · refine CallK.of hr1 ?_
                rintro _ _ ⟨rfl, rfl⟩
                exact ⟨x1, rfl, rfl, .inr (.inl ⟨upd_self' _ _, by rw [upd_ne' _ (by decide)]; exact c2, rfl⟩)⟩
              · rw [hD] at c1; cases c1
              · rw [hD] at c1; cases c1
            refine ⟨jl, fun DD w9 hD _ hC => LdK.fld ((hC.fr m1).keep0 (r0.keep0 hq13)) (x := jl) rfl ⟨rfl, hC.calm (by decide) (by decide)⟩, ?_⟩
            refine ⟨true, fun DD w9 hD hpr hC => ?_, ?_⟩
            · rcases hC with ⟨c1, _⟩ | ⟨c1, _, rfl⟩ | ⟨_, c2, _⟩
              · rw [hpr 15 (by simp)] at c1; cases c1
              · refine CallK.of (rows_same hx1 ((hjl.keep0 r0).keep0 m1) htk htl) ?_
                rintro _ w10 ⟨rfl, f10⟩
                exact ⟨true, by rw [decide_eq_true rfl]; rfl, rfl, .inr (.inr ⟨by rw [upd_ne' _ (by decide)]; exact c1, upd_self' _ _, f10⟩)⟩
              · rw [hD] at c2; cases c2
            intro w9 hC
            exact ⟨rfl, r0.trans (hC.fr m1)⟩
          rintro _ ⟨bb, _⟩ w14 ⟨hbb, f14⟩
          dsimp only at hbb
          subst hbb
          exact ifB.f rfl (behind w14 (D13.keep0 f14) (f14.keep0 he13))
        · refine ⟨(none, _, ()), rfl, ?_⟩
          refine CallK.of (rcopy_spec hg11) ?_
          rintro _ w12 ⟨rc, rh, rfl, f12, hrc, hrh, kc⟩
          refine ⟨some ⟨rc, 0, none⟩, rfl, ?_⟩
          refine CallK.of (ropen_spec kc hdead' hP') ?_
          rintro _ w13 hO2
          rcases hO2 with ⟨_, _, _, _, _, _, _, _, _, _, ht2⟩ | ⟨_, _, rfl, t13⟩
          · rw [← ebl, ← ecut] at ht2
            rcases ht2 with ⟨u, _⟩ | ⟨_, u, _⟩
            · exact absurd u hne
            · exact absurd u hcode
          refine ⟨(none, _, ()), rfl, ?_⟩
          have f13 := t13.1
          have s12 := f12.size
          have D13 := (D11.keep0 f12).keepX f13 (fun k hk t => by have := D11.ltA k hk; rcases t with t | t <;> omega) (fun k hk t => by have := D11.ltB k hk; rcases t with t | t <;> omega) (fun k hk => by have := D11.fr.size; rcases hk with t | t <;> omega)
          have he13 := f13.keep (f12.keep0 he11) (fun t => by have := lt_of_blk he11; rcases t with t | t <;> omega)
          refine JoinK.of (fun b w' => b.1 = false ∧ Fr none1 w13 w') ?_ ?_
          · refine RegK.still0 (ifB.f ?_ (ifB.f rfl (ifB.f rfl ?_)))
            · show ((cutF s9 ((s9.b.length - rest.length : Nat) : Int)).2 != (cutF t9' ((t9'.b.length - rest.length : Nat) : Int)).2) = false
              rw [← ebl, ← ecut]; simp
            exact ⟨fun _ _ h => h, ⟨fun _ _ h => h, ⟨fun _ _ h => h, fun w12 f12 => ⟨rfl, f12⟩⟩⟩⟩
          rintro _ ⟨bb, _⟩ w14 ⟨hbb, f14⟩
          dsimp only at hbb
          subst hbb
          exact ifB.f rfl (behind w14 (D13.keep0 f14) (f14.keep0 he13))
    · -- is there room
      refine RegK.still0 ?_
      obtain ⟨S7, g7, hj7, _⟩ := D7.j
      obtain ⟨T7, h7, hk7, _⟩ := D7.k
      refine AnyK.still0 y (fun w9 f9 => LdK.fld (f9.keep0 he7) (x := y) rfl ⟨rfl, f9⟩) ?_
      refine AnyK.still0 (roomF s y) (fun w9 f9 => ?_) ?_
      · refine CallK.of (room_spec (hj7.keep0 f9) y) ?_
        rintro _ w10 ⟨rfl, f10⟩
        exact ⟨_, rfl, rfl, f9.trans f10⟩
      refine AnyK.still0 y (fun w9 f9 => LdK.fld (f9.keep0 he7) (x := y) rfl ⟨rfl, f9⟩) ?_
      refine AnyK.still0 (roomF t y) (fun w9 f9 => ?_) ?_
      · refine CallK.of (rroom_spec (hk7.keep0 f9) y) ?_
        rintro _ w10 ⟨rfl, f10⟩
        exact ⟨_, rfl, rfl, f9.trans f10⟩
      intro w9 f9
      have f9 : Fr none1 w7 w9 := f9
      have er : roomF s y = roomF t y := by unfold roomF; rw [sim.quota, sim.b]
      refine ifB.f (by rw [er]; simp) (fin w9 p q _ _ _ _ _ _ _ (D7.keep0 f9) sim (by omega) hrr)
  -- both are compared
  clear D7 he7 keepE
  rintro _ ⟨pj, pk, _⟩ w8 ⟨p, q, A, B, s, t, d, rs, hpj, hpk, D, sim, hrl, hrr⟩
  dsimp only at hpj hpk ⊢
  subst hpj; subst hpk
  have r0 := drew_fr w8
  generalize hW0 : ({ w8 with drawn := w8.drawn + 1 } : World) = W0 at r0
  have htk : rs.length ≤ 1000000 := by omega
  have htl : ∀ r ∈ rs, r.length ≤ 100000000 := fun r hr => by have := hrr r hr; omega
  have DW := D.keep0 r0
  obtain ⟨S8, g8, hj8, _⟩ := DW.j
  obtain ⟨T8, h8, hk8, _⟩ := DW.k
  obtain ⟨x1, W1, SS, hr1, hx1, m1, _⟩ := records_is hj8 htk htl
  have hk8' := hk8
  obtain ⟨hfr, ⟨jl, hqb, hjl⟩, _⟩ := hk8'
  obtain ⟨⟨sl, hcb, hsl, _⟩, _, okr⟩ := hfr
  obtain ⟨W2, hr2, m2⟩ := rows_is hx1 (hjl.keep0 m1) htk htl
  obtain ⟨x3, W3, hr3, hx3, m3, _⟩ := fbytes_is ((hj8.keep0 m1).keep0 m2).file
  have hx3' : IsB W3 x3 s.b := hx3
  have hbl : s.b.length ≤ 65536 := hj8.file.ok.len
  refine ⟨⟨TailC W0 W1 W2 W3, .inl ⟨rfl, rfl, rfl, rfl, hW0⟩, ?_⟩⟩
  refine ⟨x1, fun DD w9 hD _ hC => ?_, ?_⟩
  · rcases hC with ⟨c1, c2, c3, c4, rfl⟩ | ⟨c1, _⟩ | ⟨c1, _⟩ | ⟨c1, _⟩ | ⟨c1, _⟩
    · refine CallK.of hr1 ?_
      rintro _ _ ⟨rfl, rfl⟩
      refine ⟨x1, rfl, rfl, .inr (.inl ⟨upd_self' _ _, ?_, ?_, ?_, rfl⟩)⟩
      · rw [upd_ne' _ (by decide)]; exact c2
      · rw [upd_ne' _ (by decide)]; exact c3
      · rw [upd_ne' _ (by decide)]; exact c4
    all_goals (rw [hD] at c1; cases c1)
  refine ⟨jl, fun DD w9 hD _ hC => LdK.fld ((hC.fr m1 m2 m3).keep0 hqb) (x := jl) rfl ⟨rfl, hC.calm (by decide) (by decide) (by decide) (by decide)⟩, ?_⟩
  refine ⟨true, fun DD w9 hD hpr hC => ?_, ?_⟩
  · rcases hC with ⟨c1, _⟩ | ⟨c1, c2, c3, c4, rfl⟩ | ⟨_, c2, _⟩ | ⟨_, c2, _⟩ | ⟨_, c2, _⟩
    · rw [hpr 1 (by simp)] at c1; cases c1
    · refine CallK.of hr2 ?_
      rintro _ _ ⟨rfl, rfl⟩
      refine ⟨true, rfl, rfl, .inr (.inr (.inl ⟨?_, upd_self' _ _, ?_, ?_, rfl⟩))⟩
      · rw [upd_ne' _ (by decide)]; exact c1
      · rw [upd_ne' _ (by decide)]; exact c3
      · rw [upd_ne' _ (by decide)]; exact c4
    all_goals (rw [hD] at c2; cases c2)
  refine ifB.f rfl ?_
  refine ⟨d, fun DD w9 hD _ hC => ?_, ?_⟩
  · refine CallK.of (jdead_spec (hj8.keep0 (hC.fr m1 m2 m3))) ?_
    rintro _ _ ⟨rfl, rfl⟩
    exact ⟨_, rfl, rfl, hC.calm (by decide) (by decide) (by decide) (by decide)⟩
  refine ⟨d, fun DD w9 hD _ hC => LdK.fld ((hC.fr m1 m2 m3).keep0 hqb) (x := d) rfl ⟨rfl, hC.calm (by decide) (by decide) (by decide) (by decide)⟩, ?_⟩
  refine ifB.f (by simp) ?_
  refine ⟨x3, fun DD w9 hD hpr hC => ?_, ?_⟩
  · rcases hC with ⟨c1, _⟩ | ⟨_, c2, _⟩ | ⟨c1, c2, c3, c4, rfl⟩ | ⟨_, _, c3, _⟩ | ⟨_, _, c3, _⟩
    · rw [hpr 1 (by simp)] at c1; cases c1
    · rw [hpr 6 (by simp)] at c2; cases c2
    · refine CallK.of hr3 ?_
      rintro _ _ ⟨rfl, rfl⟩
      refine ⟨x3, rfl, rfl, .inr (.inr (.inr (.inl ⟨?_, ?_, upd_self' _ _, ?_, rfl⟩)))⟩
      · rw [upd_ne' _ (by decide)]; exact c1
      · rw [upd_ne' _ (by decide)]; exact c2
      · rw [upd_ne' _ (by decide)]; exact c4
    all_goals (rw [hD] at c3; cases c3)
  refine ⟨sl, fun DD w9 hD _ hC => LdK.fld ((hC.fr m1 m2 m3).keep0 hcb) (x := sl) rfl ⟨rfl, hC.calm (by decide) (by decide) (by decide) (by decide)⟩, ?_⟩
  refine ⟨true, fun DD w9 hD hpr hC => ?_, ?_⟩
  · rcases hC with ⟨c1, _⟩ | ⟨_, c2, _⟩ | ⟨_, _, c3, _⟩ | ⟨c1, c2, c3, c4, rfl⟩ | ⟨_, _, _, c4, _⟩
    · rw [hpr 1 (by simp)] at c1; cases c1
    · rw [hpr 6 (by simp)] at c2; cases c2
    · rw [hpr 19 (by simp)] at c3; cases c3
    · refine CallK.of (same_spec hx3'.rd (((hsl.keep0 m1).keep0 m2).keep0 m3).rd (by omega)) ?_
      rintro _ w10 ⟨rfl, f10⟩
      refine ⟨true, by rw [decide_eq_true (show s.b = (t, d, rs).1.b from sim.b)]; rfl, rfl, .inr (.inr (.inr (.inr ⟨?_, ?_, ?_, upd_self' _ _, f10⟩)))⟩
      · rw [upd_ne' _ (by decide)]; exact c1
      · rw [upd_ne' _ (by decide)]; exact c2
      · rw [upd_ne' _ (by decide)]; exact c3
    · rw [hD] at c4; cases c4
  intro w9 hC
  have f9 : Fr none1 W0 w9 := hC.fr m1 m2 m3
  exact ifB.f rfl ⟨⟨by omega, by omega, p, q, A, B, s, t, d, rs, rfl, rfl, DW.keep0 f9, sim, hrl, hrr⟩, by omega⟩

end Go.Proofs.Ytejhjjafmobmbaa
