/-
  A journal's opening, of a file that lives, lit or not.
  Conditions: the file lies in blocks of its own, and lives.
-/
import Derived.Test.YtejhjjafmobmbaaJExact
set_option linter.unusedVariables false
namespace Go.Proofs.Ytejhjjafmobmbaa
open Vc

/-- Where a file is opened: its rest is cut, or the cut is refused. -/
def Opened2 (w : World) (b g : Nat) (s : FileS) (rows : List (List UInt8)) (rest : List UInt8) (r : Value) (w' : World) : Prop :=
  (∃ (p : Nat) (S : Nat → Prop) (g' : Nat) (s' : FileS), r = .tuple #[.pointer (some ⟨p, 0, none⟩), .int .i64 0] ∧ w.heap.size ≤ p ∧ Fr (only b) w w' ∧ (∀ k, S k → w.heap.size ≤ k) ∧ (g' = b ∨ g' = g ∨ w.heap.size ≤ g') ∧ IsJ w' S p b g' s' false rows ∧
    (rest = [] ∧ s' = s ∨ rest ≠ [] ∧ (cutF s ((s.b.length - rest.length : Nat) : Int)).2 = 0 ∧ s' = (cutF s ((s.b.length - rest.length : Nat) : Int)).1)) ∨
  (rest ≠ [] ∧ (cutF s ((s.b.length - rest.length : Nat) : Int)).2 ≠ 0 ∧ r = .tuple #[.pointer none, .int .i64 (cutF s ((s.b.length - rest.length : Nat) : Int)).2] ∧ FileTo w b g (cutF s ((s.b.length - rest.length : Nat) : Int)).1 w')

theorem open_gen {w : World} {b g : Nat} {s : FileS} {rows : List (List UInt8)} {rest : List UInt8} (h : IsFile w b g s) (hd : s.dead = false) (hP : Parse s.b rows rest) :
    Ret Try.prog 65 #[.pointer (some ⟨b, 0, none⟩)] w (Opened2 w b g s rows rest) := by
  have hbl := h.lt
  have hgl := h.glt
  have hsl := h.ok.len
  refine c65 _ w _ ?_
  refine CallK.of (fdead_spec h) ?_
  rintro _ _ ⟨rfl, rfl⟩
  rw [hd]
  refine ⟨_, rfl, ifB.f rfl ?_⟩
  refine NewK.of fun p w1 hp hp1 f1 hs1 => ?_
  have h1 := h.keep0 f1
  refine CallK.of (fbytes_spec h1) ?_
  rintro _ w2 ⟨u, rfl, hu, f2, huf⟩
  refine ⟨u, rfl, ?_⟩
  have hul := hu.len
  have f02 := f1.trans f2
  have hs12 := f2.size
  have hu_lt : ∀ k, blkOf u k → k < w2.heap.size := fun k hk => IsSl.lt hu hk
  have F0 : Fr (only p) w2 w2 := Fr.refl _ _
  refine LoopK.of (fun q w' => ∃ (jl : Sl) (S : Nat → Prop) (rs : List (List UInt8)) (bs : List UInt8), RdB w' q.1 bs ∧ q.1.2.1 ≤ q.1.2.2 ∧ (∀ k, blkOf q.1 k → blkOf u k) ∧ (∃ l, rows = rs ++ l ∧ Parse bs l rest) ∧ bs.length + 3 * rs.length ≤ s.b.length ∧
      w'.heap[p]? = some (.cells #[.pointer (some ⟨b, 0, none⟩), .slice jl.1 jl.2.1 jl.2.2, .bool false] 105 (0, 0)) ∧ IsRows w' S jl rs ∧ (∀ k, S k → w2.heap.size ≤ k) ∧ Fr (only p) w2 w') (fun q _ => q.1.2.1)
    ⟨(none, 0, 0), fun _ => False, [], s.b, hu.rd, hu.cap, fun k hk => hk, ⟨rows, rfl, hP⟩, by simp, f2.keep0 hp1, none_rows _ _ (fun k t => t.elim), fun k t => t.elim, F0⟩ ?_
  rintro _ ⟨q, _⟩ w3 ⟨jl, S, rs, bs, hq, hqc, hqb, ⟨l, hrows, hPl⟩, hlen, hp3, hj3, hS, f3⟩
  dsimp only at hq hqc hqb ⊢
  have hql := hq.len
  refine CallK.of (first_spec hq hqc (by omega)) ?_
  rintro r w4 ⟨f4, hr⟩
  have hp4 := f4.keep0 hp3
  have hj4 := hj3.keep0 f4
  have f24 : Fr (only p) w2 w4 := f3.then0 f4
  have s24 := f24.size
  cases hPl with
  | stop hn =>
    rw [hn] at hr
    dsimp only at hr
    subst hr
    refine ⟨((none, 0, 0), (q.1, q.2.1, q.2.2), false, ()), rfl, ifB.t rfl ?_⟩
    rw [List.append_nil] at hrows
    subst hrows
    have h4 : IsFile w4 b g s := (h.keep0 f02).keep f24 (fun t => by have : b = p := t; omega) (fun t => by have : g = p := t; omega)
    have j4 : IsJ w4 S p b g s false rows := ⟨h4, ⟨jl, hp4, hj4⟩, by omega, fun k hk => by have := hS k hk; omega⟩
    refine ifB.dec (fun hpos => ?_) (fun hz => ?_)
    · have hn1 : ((u.2.1 : Int) - (q.2.1 : Int)) = ((s.b.length - rest.length : Nat) : Int) := by omega
      rw [wI (x := (u.2.1 : Int) - (q.2.1 : Int)) (by omega) (by omega), hn1]
      have hrn : rest ≠ [] := fun e => by rw [e, List.length_nil] at hql; omega
      refine CallK.of (fcut_spec h4 _) ?_
      rintro _ w5 ⟨rfl, t5⟩
      have f5 := t5.1
      have fw4 := f02.fresh f24 (by omega)
      obtain ⟨g', hg', j5⟩ := j4.filed t5
      have hg'' : g' = b ∨ g' = g ∨ w.heap.size ≤ g' := by
        have := fw4.size
        rcases hg' with t | t | t
        · exact .inl t
        · exact .inr (.inl t)
        · exact .inr (.inr (by omega))
      refine ⟨_, rfl, ifB.ne (fun he => ?_) (fun he => ?_)⟩
      · refine .inr ⟨hrn, he, rfl, (fw4.mono fun _ _ t => t.elim).trans f5, g', hg'', j5.file⟩
      · exact .inl ⟨p, S, g', _, rfl, by omega, (fw4.mono fun _ _ t => t.elim).trans f5, fun k hk => Nat.le_trans f02.size (hS k hk), hg'', j5, .inr ⟨hrn, he, rfl⟩⟩
    · have hr0 : rest = [] := List.eq_nil_of_length_eq_zero (by omega)
      exact .inl ⟨p, S, g, s, rfl, by omega, (f02.fresh f24 (by omega)).mono fun _ _ t => t.elim, fun k hk => Nat.le_trans f02.size (hS k hk), .inr (.inl rfl), j4, .inl ⟨hr0, rfl⟩⟩
  | next hf hPt =>
    rename_i x t l'
    rw [hf] at hr
    obtain ⟨y, q2, hr, hy, hyf, hq2, hq2c, hq2b⟩ := hr
    subst hr
    have hlt := firstL_lt hf
    refine ⟨((y.1, y.2.1, y.2.2), (q2.1, q2.2.1, q2.2.2), true, ()), rfl, ifB.f rfl ?_⟩
    refine LdK.fld hp4 (x := jl) rfl ?_
    have s34 := f4.size
    have s23 := f3.size
    have hjl := hj3.lt
    obtain ⟨m, w5, z, w6, r1, f5, r2, f6, S', hS', hz⟩ := hj4.snoc hy.rd (fun k hk => ⟨IsSl.lt hy hk, fun t => by have := hjl k t; have := hyf k hk; omega⟩) (by omega)
    refine ⟨m, w5, r1, z, w6, r2, ?_⟩
    have npj : ¬ blkOf jl p := fun t => by have := hS p (hj3.own p t); omega
    have hp6 := f6.keep hp4 npj
    refine StK.fld hp6 (by simp) rfl fun w7 hp7 f7 _ => ?_
    have hS'' : ∀ k, S' k → w2.heap.size ≤ k := fun k hk => by
      rcases hS' k hk with t | t | t
      · exact hS k t
      · have := hyf k t; omega
      · omega
    have f46 : ∀ k, blkOf q2 k → ¬ blkOf jl k := fun k hk t => by have := hu_lt k (hqb k (hq2b k hk)); have := hS k (hj3.own k t); omega
    have hq7 : RdB w7 q2 t := (hq2.keep f6 f46).keep f7 (fun k hk t => by have := hu_lt k (hqb k (hq2b k hk)); have := huf k (hqb k (hq2b k hk)); have : k = p := t; omega)
    refine ⟨⟨z, S', rs ++ [x], t, hq7, hq2c, fun k hk => hqb k (hq2b k hk), ⟨l', by rw [hrows]; simp, hPt⟩, by simp only [List.length_append, List.length_singleton]; omega, hp7, hz.keep f7 (fun k hk t => by have := hS'' k hk; have : k = p := t; omega), hS'', ?_⟩, ?_⟩
    · exact (f24.comp f6 (fun x hx t => by have := hS x (hj3.own x t); omega)).trans f7
    · have := hq2.len
      dsimp only
      omega


/-- Any bytes are records, and a rest. -/
theorem parse_any : ∀ (n : Nat) (bs : List UInt8), bs.length ≤ n → ∃ rows rest, Parse bs rows rest := by
  intro n
  induction n with
  | zero =>
    intro bs h
    refine ⟨[], bs, .stop ?_⟩
    unfold firstL
    rw [if_pos (by omega)]
  | succ n ih =>
    intro bs h
    cases hf : firstL bs with
    | none => exact ⟨[], bs, .stop hf⟩
    | some xt =>
      obtain ⟨x, t⟩ := xt
      have := firstL_lt hf
      obtain ⟨rows, rest, hp⟩ := ih t (by omega)
      exact ⟨x :: rows, rest, .next hf hp⟩

theorem Parse.det {bs q q' : List UInt8} {l l' : List (List UInt8)} (h : Parse bs l q) (h' : Parse bs l' q') : l = l' ∧ q = q' := by
  induction h generalizing l' q' with
  | stop hn =>
    cases h' with
    | stop _ => exact ⟨rfl, rfl⟩
    | next hf _ => rw [hn] at hf; cases hf
  | next hf _ ih =>
    cases h' with
    | stop hn => rw [hn] at hf; cases hf
    | next hf' hp =>
      rw [hf] at hf'
      injection hf' with e
      injection e with e1 e2
      subst e1; subst e2
      obtain ⟨a, b⟩ := ih hp
      exact ⟨by rw [a], b⟩

end Go.Proofs.Ytejhjjafmobmbaa
