/-
  The conditions of Vc are sound: what meets its condition meets it in the model's own run.
  No condition: every program, every function, every plan.
-/
import Derived.Test.YtlhbfdakceipkaaGreatDoorVc
namespace Go.Proofs.YtlhbfdakceipkaaGreatDoor
namespace Vc

theorem run_peek {α : Type} {P : Program} {s : Sem α} {a : α} (h : peek P s = some a) (w : World) : s.run P w = .ok a w := peek_run h w

section
variable {P : Program}

theorem under {t : TypeId} {d : TypeDesc} (h : P.underlying t = some d) (w : World) : (underlying t).run P w = .ok d w := by
  simp [underlying, h]

theorem sizeof {t : TypeId} {i : TypeInfo} (h : P.info? t = some i) (w : World) : (sizeOf t).run P w = .ok i.size w := by
  simp [sizeOf, typeInfo, h]

theorem zeroof {t : TypeId} {i : TypeInfo} {z : Value} (h : P.info? t = some i) (hz : i.zero = some z) (w : World) : (zeroValue t).run P w = .ok z w := by
  simp [zeroValue, typeInfo, h, hz]

def aggB : TypeDesc → Bool
  | .struct _ | .array .. => true
  | _ => false

theorem isagg {t : TypeId} {d : TypeDesc} (h : P.underlying t = some d) (w : World) : (isAgg t).run P w = .ok (aggB d) w := by
  simp only [isAgg, Sem.run_bind, under h, Result.andThen_ok]
  cases d <;> rfl

theorem load_ok {w : World} {p : Addr} {v : Value} (h : w.cell? p = some v) : (load p).run P w = .ok v w := by simp [h]

theorem loadCellsFrom_ok {w : World} {p : Addr} : ∀ (vs : List Value) (i : Nat) (acc : Array Value), CellsAt w p i vs → (loadCellsFrom p i vs.length acc).run P w = .ok (acc ++ vs.toArray) w
  | [], i, acc, _ => by simp [loadCellsFrom]
  | v :: vs, i, acc, h => by
    obtain ⟨h1, h2⟩ := h
    simp only [List.length_cons, loadCellsFrom, Sem.run_bind, load_ok h1, Result.andThen_ok]
    rw [loadCellsFrom_ok vs (i + 1) (acc.push v) h2]
    congr 1
    apply Array.ext'
    simp

theorem loadCells_ok {w : World} {p : Addr} (vs : List Value) (h : CellsAt w p 0 vs) : (loadCells p vs.length).run P w = .ok vs.toArray w := by
  have := loadCellsFrom_ok (P := P) vs 0 #[] h
  simpa [loadCells] using this

theorem Cs.vals_length : ∀ (cs : List Ck) (x : Cs cs), (Cs.vals cs x).length = cs.length
  | [], _ => rfl
  | c :: cs, x => by simp only [Cs.vals, List.length_cons, Cs.vals_length cs x.2]

theorem loadVar_ok {t : TypeId} {p : Addr} {w : World} {K : Value → World → Prop} (h : vcLoad P t p w K) : ∃ v, (loadVar t p).run P w = .ok v w ∧ K v w := by
  unfold vcLoad at h
  split at h
  case h_1 fs i hu hi =>
    split at h
    case h_1 cs hz =>
      split at h
      case h_1 hb =>
        obtain ⟨x, hx, hK⟩ := h.out
        refine ⟨_, ?_, hK⟩
        have hs := Nat.eq_of_beq_eq_true hb
        simp only [loadVar, Sem.run_bind, isagg hu, aggB, Result.andThen_ok, if_true, sizeof hi]
        rw [hs, ← Cs.vals_length _ x, loadCells_ok _ hx]
        rfl
      case h_2 => cases h
    case h_2 => cases h
  case h_2 hu hi =>
    obtain ⟨x, hn, hx, hK⟩ := h.out
    refine ⟨_, ?_, hK⟩
    simp only [loadVar, Sem.run_bind, isagg hu, aggB, Result.andThen_ok, if_true, sizeof hi]
    rw [← hn, loadCells_ok _ hx]
    rfl
  case h_3 d i hs ha hu hi =>
    split at h
    case h_1 c hk =>
      obtain ⟨x, hx, hK⟩ := h.out
      refine ⟨_, ?_, hK⟩
      have hf : aggB d = false := by
        cases d <;> first | rfl | exact (hs _ rfl).elim | exact (ha _ _ rfl).elim
      simp only [loadVar, Sem.run_bind, isagg hu, hf, Result.andThen_ok, Bool.false_eq_true, if_false]
      exact load_ok hx
    case h_2 => cases h
  case h_4 => cases h

/-! ### A value has one reading -/
theorem Ck.val_inj {c : Ck} {x y : c.C} (h : c.val x = c.val y) : x = y := by
  cases c <;> simp only [Ck.val] at h
  case slc =>
    obtain ⟨a, b, d⟩ := x; obtain ⟨a', b', d'⟩ := y
    injection h with h1 h2 h3
    simp only at h1 h2 h3
    subst h1; subst h2; subst h3; rfl
  case raw => exact h
  all_goals (injection h)

theorem Cs.vals_inj : ∀ {cs : List Ck} {x y : Cs cs}, Cs.vals cs x = Cs.vals cs y → x = y
  | [], _, _, _ => rfl
  | c :: cs, (x, xs), (y, ys), h => by
    simp only [Cs.vals, List.cons.injEq] at h
    rw [Ck.val_inj h.1, Cs.vals_inj h.2]

theorem Kd.val_inj {k : Kd} {x y : k.C} (h : k.val x = k.val y) : x = y := by
  cases k <;> simp only [Kd.val] at h
  case one c => exact Ck.val_inj h
  case agg cs => injection h with h; exact Cs.vals_inj (by simpa using h)
  case arr => injection h with h; simpa using h

theorem St.vals_inj : ∀ {ks : List Kd} {x y : St ks}, St.vals ks x = St.vals ks y → x = y
  | [], _, _, _ => rfl
  | k :: ks, (x, xs), (y, ys), h => by
    simp only [St.vals, List.cons.injEq] at h
    rw [Kd.val_inj h.1, St.vals_inj h.2]

/-! ### Stores -/
theorem store_ok {w : World} {p : Addr} {v : Value} (h1 : one1 v = true) (h2 : (w.cell? p).isSome = true) (h3 : w.frozen? p = false) : (store p v).run P w = .ok () (w.setCell p v) := by
  rw [run_store P w p v .plain (by cases v <;> first | rfl | exact h1)]
  cases hc : w.cell? p with
  | none => rw [hc] at h2; cases h2
  | some u => simp [h3]

theorem storeCells_ok {p : Addr} : ∀ (vs : List Value) (i : Nat) (w : World), Writes w p i vs → (storeCells p vs i).run P w = .ok () (setCells w p i vs)
  | [], i, w, _ => by simp [storeCells, setCells]
  | v :: vs, i, w, h => by
    obtain ⟨h1, h2, h3, h4⟩ := h
    simp only [storeCells, Sem.run_bind, store_ok h1 h2 h3, Result.andThen_ok, setCells]
    exact storeCells_ok vs (i + 1) _ h4

theorem fill_same {place : Nat → Option (Nat × Nat)} : ∀ {l l' : List (Nat × Value)} {cells : Array Value}, l.map (fun p => (p.1, p.2.cells)) = l'.map (fun p => (p.1, p.2.cells)) →
    Instr.fill place cells l = Instr.fill place cells l'
  | [], [], _, _ => rfl
  | [], _ :: _, _, h => by simp at h
  | _ :: _, [], _, h => by simp at h
  | (i, v) :: l, (i', v') :: l', cells, h => by
    simp only [List.map_cons, List.cons.injEq, Prod.mk.injEq] at h
    obtain ⟨⟨rfl, h2⟩, h3⟩ := h
    unfold Instr.fill
    rw [h2]
    cases place i with
    | none => rfl
    | some p =>
      simp only
      split
      · rfl
      · exact fill_same h3

theorem built_same {t : TypeId} {l l' : List (Nat × Value)} (h : l.map (fun p => (p.1, p.2.cells)) = l'.map (fun p => (p.1, p.2.cells))) : P.built t l = P.built t l' := by
  unfold Program.built
  simp only [fill_same h]

theorem vcParts_same {t : TypeId} : ∀ {l : List (Nat × Value)} {K : List (Nat × Value) → Prop}, vcParts P t l K → ∃ l', l.map (fun p => (p.1, p.2.cells)) = l'.map (fun p => (p.1, p.2.cells)) ∧ K l'
  | [], K, h => ⟨[], rfl, h⟩
  | p :: l, K, h => by
    unfold vcParts at h
    split at h
    · obtain ⟨h1, h⟩ := h.out
      obtain ⟨l', h2, h⟩ := vcParts_same h
      exact ⟨_, by simp only [List.map_cons, h2, h1]; rfl, h⟩
    · obtain ⟨l', h2, h⟩ := vcParts_same h
      exact ⟨_, by simp only [List.map_cons, h2], h⟩

theorem vcParts_ok {t : TypeId} {l : List (Nat × Value)} {K : Array Value → Prop}
    (h : vcParts P t l fun vs => match P.built t vs with | some cells => K cells | none => False) : ∃ cells, P.built t l = some cells ∧ K cells := by
  obtain ⟨l', h1, h⟩ := vcParts_same h
  rw [built_same h1]
  split at h
  · exact ⟨_, ‹_›, h⟩
  · cases h

/-! ### What an operation yields -/
def Yields (P : Program) (s : Sem Next) (w : World) (K : Value → World → Prop) : Prop :=
  (∃ v w', s.run P w = .ok (.value v) w' ∧ K v w') ∨ (∃ w', s.run P w = .ok .skip w' ∧ K undef w') ∨ (∃ f args, s.run P w = .ok (.enter f args) w ∧ Ret P f args w K)

/-- As it does, in the world that it got. -/
def YieldsS (P : Program) (s : Sem Next) (w : World) (K : Value → World → Prop) : Prop :=
  (∃ v, s.run P w = .ok (.value v) w ∧ K v w) ∨ (s.run P w = .ok .skip w ∧ K undef w)

/-- As it does, in whatever world. -/
def YieldsP (P : Program) (s : Sem Next) (w : World) (K : Value → World → Prop) : Prop := ∃ v, (∀ w', s.run P w' = .ok (.value v) w') ∧ K v w
theorem YieldsP.still {s : Sem Next} {w : World} {K : Value → World → Prop} (h : YieldsP P s w K) : YieldsS P s w K := let ⟨v, a, b⟩ := h; .inl ⟨v, a w, b⟩
theorem yvP {s : Sem Value} {w : World} {v : Value} {K : Value → World → Prop} (h : ∀ w', s.run P w' = .ok v w') (hK : K v w) : YieldsP P (do pure (.value (← s))) w K :=
  ⟨v, fun w' => by simp [h w'], hK⟩

theorem yv {s : Sem Value} {w w' : World} {v : Value} {K : Value → World → Prop} (h : s.run P w = .ok v w') (hK : K v w') : Yields P (do pure (.value (← s))) w K :=
  .inl ⟨v, w', by simp [h], hK⟩
theorem yvS {s : Sem Value} {w : World} {v : Value} {K : Value → World → Prop} (h : s.run P w = .ok v w) (hK : K v w) : YieldsS P (do pure (.value (← s))) w K :=
  .inl ⟨v, by simp [h], hK⟩
theorem yu {s : Sem Unit} {w w' : World} {K : Value → World → Prop} (h : s.run P w = .ok () w') (hK : K undef w') : Yields P (do s; pure .skip) w K :=
  .inr (.inl ⟨w', by simp [h], hK⟩)
theorem YieldsS.weak {s : Sem Next} {w : World} {K : Value → World → Prop} (h : YieldsS P s w K) : Yields P s w K :=
  h.elim (fun ⟨v, a, b⟩ => .inl ⟨v, w, a, b⟩) (fun ⟨a, b⟩ => .inr (.inl ⟨w, a, b⟩))

theorem ofPeek_all {s : Sem Value} {w : World} {K : Value → World → Prop} (h : ofPeek P s w K) : ∃ v, (∀ w', s.run P w' = .ok v w') ∧ K v w := by
  unfold ofPeek at h
  split at h
  · rename_i v hv; exact ⟨v, fun w' => run_peek hv w', h⟩
  · cases h

theorem ofPeek_ok {s : Sem Value} {w : World} {K : Value → World → Prop} (h : ofPeek P s w K) : ∃ v, s.run P w = .ok v w ∧ K v w := by
  unfold ofPeek at h
  split at h
  · rename_i v hv; exact ⟨v, run_peek hv w, h⟩
  · cases h

theorem optA_ok {q : Option Addr} {K : Addr → Prop} (h : optA q K) : ∃ a, q = some a ∧ K a := by
  cases q with
  | none => cases h
  | some a => exact ⟨a, rfl, h⟩

theorem ifB_ok {b : Bool} {A B : Prop} (h : ifB b A B) : (b = true → A) ∧ (b = false → B) := by
  cases b
  · exact ⟨fun h => (by cases h), fun _ => h⟩
  · exact ⟨fun _ => h, fun h => (by cases h)⟩

theorem optInt_ok {v : Option Value} {d : Int} {K : Int → Prop} (h : optInt v d K) : (v = none ∧ K d) ∨ ∃ k i, v = some (.int k i) ∧ K i := by
  unfold optInt at h
  split at h
  · exact .inl ⟨rfl, h⟩
  · exact .inr ⟨_, _, rfl, h⟩
  · cases h

theorem isRef_false {t : TypeId} (h : isRefTy P t = false) {d : TypeDesc} (hd : P.underlying t = some d) : (∀ m, d ≠ .interface m) ∧ aggB d = false := by
  unfold isRefTy at h
  rw [hd] at h
  cases d <;> simp_all [aggB]

theorem eqGuard_skip {op : BinOp} {t : TypeId} {x y : Operand} {a b : Value} (w : World) (h : (op matches .eql | .neq) = false) : (eqGuard op t x y a b).run P w = .ok () w := by
  unfold eqGuard
  cases op <;> simp_all

theorem eqGuard_plain {op : BinOp} {t : TypeId} {x y : Operand} {a b : Value} (w : World) (h1 : a ≠ .nilIface) (h2 : ∀ c, a ≠ .agg c) : (eqGuard op t x y a b).run P w = .ok () w := by
  unfold eqGuard
  cases a <;> first | exact absurd rfl h1 | exact absurd rfl (h2 _) | (cases op <;> rfl)

theorem binOp_int {op : BinOp} {t : TypeId} {k k' : IntKind} {a b : Int} (h : k = k') : (op = .quo → b ≠ 0 → ∀ w, (binOp op t (.int k a) (.int k' b)).run P w = .ok (.int k (k.wrap (a.tdiv b))) w) ∧
    (op = .rem → b ≠ 0 → ∀ w, (binOp op t (.int k a) (.int k' b)).run P w = .ok (.int k (a.tmod b)) w) := by
  subst h
  refine ⟨fun ho hb w => ?_, fun ho hb w => ?_⟩ <;> subst ho <;> simp [binOp, Op.intDiv, hb]

theorem binOp_shift {t : TypeId} {k k' : IntKind} {a b : Int} (hb : 0 ≤ b) (w : World) :
    (binOp .shl t (.int k a) (.int k' b)).run P w = .ok (.int k (k.wrap (a * 2 ^ (min b.toNat k.bits)))) w ∧
    (binOp .shr t (.int k a) (.int k' b)).run P w = .ok (.int k (a.fdiv (2 ^ (min b.toNat k.bits)))) w := by
  have hn : ¬ b < 0 := by omega
  exact ⟨by simp [binOp, Op.shift, hn], by simp [binOp, Op.shift, hn]⟩


theorem equal_nil {d : TypeDesc} {t : TypeId} (hd : P.underlying t = some d) (w : World) :
    (∀ e p, d = .pointer e → (Op.equal t (.pointer p) (.pointer none)).run P w = .ok p.isNone w) ∧
    (∀ e p l c l' c', d = .slice e → (Op.equal t (.slice p l c) (.slice none l' c')).run P w = .ok p.isNone w) ∧
    (∀ k e p, d = .map k e → (Op.equal t (.map p) (.map none)).run P w = .ok p.isNone w) := by
  refine ⟨fun e p h => ?_, fun e p l c l' c' h => ?_, fun k e p h => ?_⟩ <;> subst h <;> unfold Op.equal Op.maxDepth <;> unfold Op.equalIn <;>
    simp only [Sem.run_bind, under hd, Result.andThen_ok]
  · cases p <;> simp
  · cases p <;> simp
  · cases p <;> simp

theorem vcBin_ok {e : Env} {op : BinOp} {xt : TypeId} {x y : Operand} {w : World} {K : Value → World → Prop} (h : vcBin P e op xt x y w K) :
    ∃ v w', (do eqGuard op xt x y (e.eval x) (e.eval y); binOp op xt (e.eval x) (e.eval y) : Sem Value).run P w = .ok v w' ∧ K v w' ∧
      (isRefTy P xt = false → w' = w ∧ ∀ w2, (do eqGuard op xt x y (e.eval x) (e.eval y); binOp op xt (e.eval x) (e.eval y) : Sem Value).run P w2 = .ok v w2) := by
  unfold vcBin at h
  split at h
  · rename_i hr
    obtain ⟨b, w', hrun, hK⟩ := h.out
    exact ⟨_, w', hrun, hK, fun hf => by rw [hr] at hf; cases hf⟩
  · rename_i hr
    have pk : ∀ {s : Sem Value}, ofPeek P s w K → ∃ v w', s.run P w = .ok v w' ∧ K v w' ∧ (isRefTy P xt = false → w' = w ∧ ∀ w2, s.run P w2 = .ok v w2) := fun h =>
      let ⟨v, a, b⟩ := ofPeek_all h; ⟨v, w, a w, b, fun _ => ⟨rfl, a⟩⟩
    have al : ∀ {s : Sem Value} {v : Value}, (∀ w2, s.run P w2 = .ok v w2) → K v w → ∃ v w', s.run P w = .ok v w' ∧ K v w' ∧ (isRefTy P xt = false → w' = w ∧ ∀ w2, s.run P w2 = .ok v w2) := fun {s v} a b => ⟨v, w, a w, b, fun _ => ⟨rfl, a⟩⟩
    split at h
    case h_1 k a k' b ex ey =>
      rw [ex, ey]
      have g1 : ∀ w, (eqGuard op xt x y (.int k a) (.int k' b)).run P w = .ok () w := fun w => eqGuard_plain w (by simp) (by simp)
      split at h
      case h_1 hk =>
        have hk' : k = k' := of_decide_eq_true hk
        subst hk'
        split at h
        · obtain ⟨hb, hK⟩ := h.out; exact al (fun w2 => by simp only [Sem.run_bind, g1 w2, Result.andThen_ok]; exact (binOp_int rfl).1 rfl hb w2) hK
        · obtain ⟨hb, hK⟩ := h.out; exact al (fun w2 => by simp only [Sem.run_bind, g1 w2, Result.andThen_ok]; exact (binOp_int rfl).2 rfl hb w2) hK
        · obtain ⟨hb, hK⟩ := h.out; exact al (fun w2 => by simp only [Sem.run_bind, g1 w2, Result.andThen_ok]; exact (binOp_shift hb w2).1) hK
        · obtain ⟨hb, hK⟩ := h.out; exact al (fun w2 => by simp only [Sem.run_bind, g1 w2, Result.andThen_ok]; exact (binOp_shift hb w2).2) hK
        · exact pk h
      case h_2 hk =>
        split at h
        · obtain ⟨hb, hK⟩ := h.out; exact al (fun w2 => by simp only [Sem.run_bind, g1 w2, Result.andThen_ok]; exact (binOp_shift hb w2).1) hK
        · obtain ⟨hb, hK⟩ := h.out; exact al (fun w2 => by simp only [Sem.run_bind, g1 w2, Result.andThen_ok]; exact (binOp_shift hb w2).2) hK
        · cases h
    case h_2 a b ex ey =>
      rw [ex, ey]
      have g1 : ∀ w, (eqGuard op xt x y (.string a) (.string b)).run P w = .ok () w := fun w => eqGuard_plain w (by simp) (by simp)
      split at h
      · obtain ⟨hb, hK⟩ := h.out
        refine al (fun w2 => ?_) hK
        have hb' : ¬ ((a.size + b.size : Nat) : Int) > IntKind.i64.max := by omega
        simp only [Sem.run_bind, g1 w2, Result.andThen_ok, binOp, Op.stringOp]
        rw [if_neg hb']
        rfl
      · exact pk h
    case h_3 a b ex ey => rw [ex, ey]; exact pk h
    case h_4 p ex ey =>
      rw [ex, ey]
      have g1 : ∀ op w, (eqGuard op xt x y (.pointer p) (.pointer none)).run P w = .ok () w := fun op w => eqGuard_plain w (by simp) (by simp)
      split at h
      case h_1 hu => exact al (fun w2 => by simp [g1, binOp, (equal_nil hu w2).1 _ p rfl]) h
      case h_2 hu => exact al (fun w2 => by simp [g1, binOp, (equal_nil hu w2).1 _ p rfl]) h
      case h_3 => cases h
    case h_5 p l c l' c' ex ey =>
      rw [ex, ey]
      have g1 : ∀ op w, (eqGuard op xt x y (.slice p l c) (.slice none l' c')).run P w = .ok () w := fun op w => eqGuard_plain w (by simp) (by simp)
      split at h
      case h_1 hu => exact al (fun w2 => by simp [g1, binOp, (equal_nil hu w2).2.1 _ p l c l' c' rfl]) h
      case h_2 hu => exact al (fun w2 => by simp [g1, binOp, (equal_nil hu w2).2.1 _ p l c l' c' rfl]) h
      case h_3 => cases h
    case h_6 p ex ey =>
      rw [ex, ey]
      have g1 : ∀ op w, (eqGuard op xt x y (.map p) (.map none)).run P w = .ok () w := fun op w => eqGuard_plain w (by simp) (by simp)
      split at h
      case h_1 hu => exact al (fun w2 => by simp [g1, binOp, (equal_nil hu w2).2.2 _ _ p rfl]) h
      case h_2 hu => exact al (fun w2 => by simp [g1, binOp, (equal_nil hu w2).2.2 _ _ p rfl]) h
      case h_3 => cases h
    case h_7 => cases h

theorem evs_eq (e : Env) (xs : Array Operand) : (evs e xs).toArray = xs.map e.eval := by
  apply Array.ext'
  simp [evs]

theorem asIntOf_int (k : IntKind) (n : Int) (w : World) : (asIntOf (.int k n)).run P w = .ok (k, n) w := rfl

theorem bound_ok {k : IntKind} {i : Int} {y : Nat} {c : BoundsCode} (h0 : 0 ≤ i) (h1 : i ≤ y) (w : World) : (Instr.sliceBound (.int k i) y c).run P w = .ok i.toNat w := by
  simp only [Instr.sliceBound, Sem.run_bind, asIntOf_int, Result.andThen_ok, Sem.run_ite]
  rw [if_pos ⟨h0, h1⟩]
  rfl

theorem typeAssert_ok {x : Value} {xt t : TypeId} {d : TypeDesc} (hd : P.underlying t = some d) (hi : ∀ m, d ≠ .interface m) (w : World) :
    (∀ v ok, x = .iface t v → (Instr.typeAssert x xt t ok).run P w = .ok (if ok then .tuple #[v, .bool true] else v) w) ∧
    (∀ i z, P.info? t = some i → i.zero = some z → (x = .nilIface ∨ ∃ u v, x = .iface u v ∧ u ≠ t) → (Instr.typeAssert x xt t true).run P w = .ok (.tuple #[z, .bool false]) w) := by
  refine ⟨fun v ok h => ?_, fun i z h1 h2 h => ?_⟩
  · subst h
    unfold Instr.typeAssert
    simp only [Sem.run_bind, under hd, Result.andThen_ok]
    cases d <;> first | exact absurd rfl (hi _) | (simp only [if_true]; cases ok <;> rfl)
  · unfold Instr.typeAssert
    simp only [Sem.run_bind, under hd, Result.andThen_ok]
    rcases h with rfl | ⟨u, v, rfl, hu⟩
    · cases d <;> first | exact absurd rfl (hi _) | simp [zeroof h1 h2]
    · cases d <;> first | exact absurd rfl (hi _) | simp [zeroof h1 h2, hu]

theorem part_one {el : TypeId} {d : TypeDesc} {cs : Array Value} {i : Nat} {v : Value} (hd : P.underlying el = some d) (ha : aggB d = false) (hv : cs[i]? = some v) (w : World) : (part el cs i).run P w = .ok v w := by
  simp only [part, Sem.run_bind, isagg hd, ha, Result.andThen_ok, Bool.false_eq_true, if_false, hv]
  rfl

theorem callFunc_ok {f : FuncId} {args : List Value} {w : World} {K : Value → World → Prop} (h : vcCall P f args w K) :
    ∃ xs, (callFunc f args.toArray).run P w = .ok (.enter f xs) w ∧ Ret P f xs w K := by
  unfold vcCall at h
  split at h
  case h_1 g xs fn hp hf =>
    split at h
    case h_1 hb =>
      have hg := Nat.eq_of_beq_eq_true hb
      subst hg
      exact ⟨xs, run_peek hp w, h.out.mono fun e w' ⟨v, he, x, hv, hK⟩ => ⟨v, he, by rw [hv]; exact hK⟩⟩
    case h_2 => cases h
  case h_2 => cases h

theorem vcCall_mono {f : FuncId} {args : List Value} {w : World} {K K' : Value → World → Prop} (hk : ∀ v w', K v w' → K' v w') (h : vcCall P f args w K) : vcCall P f args w K' := by
  unfold vcCall at h ⊢
  split at h
  case h_1 g xs fn hp hf =>
    split at h
    case h_1 hb => exact ⟨h.out.mono fun e w' ⟨v, he, x, hv, hK⟩ => ⟨v, he, x, hv, hk _ _ hK⟩⟩
    case h_2 => cases h
  case h_2 => cases h

theorem nilCheck_ok {o : Oper} {e : Env} {x : Operand} {w : World} {K : Value → World → Prop} (ho : o.op = .nilCheck x) (h : vcOp P o e w K) : YieldsP P (execOp e.eval o) w K := by
  unfold vcOp at h
  simp only [ho] at h
  unfold nilV at h
  simp only [execOp, ho]
  split at h
  case h_1 q eq =>
    obtain ⟨p, rfl, hK⟩ := optA_ok h
    rw [eq]
    exact ⟨_, fun _ => rfl, hK⟩
  case h_2 f fi ca eq => rw [eq]; exact ⟨_, fun _ => rfl, h⟩
  case h_3 => cases h

theorem indexAddr_ok {o : Oper} {e : Env} {t : TypeId} {x i : Operand} {w : World} {K : Value → World → Prop} (ho : o.op = .indexAddr t x i) (h : vcOp P o e w K) : YieldsP P (execOp e.eval o) w K := by
  unfold vcOp at h
  simp only [ho] at h
  simp only [execOp, ho]
  split at h
  case h_1 el hu =>
    split at h
    case h_1 base len c k i inf ex ei hi =>
      obtain ⟨a, rfl, h0, h1, hK⟩ := h.out
      refine yvP (fun w => ?_) hK
      rw [ex, ei]
      simp only [Instr.indexAt, Sem.run_bind, asIntOf_int, under hu, Result.andThen_ok, Sem.run_pure, if_pos (And.intro h0 h1), sizeof hi]
    case h_2 => cases h
  case h_2 n el hu =>
    split at h
    case h_1 q k i inf ex ei hi =>
      obtain ⟨p, rfl, h⟩ := optA_ok h
      obtain ⟨h0, h1, hK⟩ := h.out
      refine yvP (fun w => ?_) hK
      rw [ex, ei]
      simp only [Instr.indexAt, Instr.sureAddr, Sem.run_bind, asIntOf_int, under hu, Result.andThen_ok, Sem.run_pure, if_pos (And.intro h0 h1), sizeof hi]
    case h_2 => cases h
  case h_3 => cases h

theorem index_ok {o : Oper} {e : Env} {t : TypeId} {x i : Operand} {w : World} {K : Value → World → Prop} (ho : o.op = .index t x i) (h : vcOp P o e w K) : YieldsP P (execOp e.eval o) w K := by
  unfold vcOp at h
  simp only [ho] at h
  simp only [execOp, ho]
  split at h
  case h_1 hu =>
    split at h
    case h_1 s k i ex ei =>
      obtain ⟨b, h0, h1, hK⟩ := h.out
      refine yvP (fun w => ?_) hK
      rw [ex, ei]
      simp only [Instr.index, Sem.run_bind, asIntOf_int, under hu, Result.andThen_ok, if_pos h0, h1]
      rfl
    case h_2 => cases h
  case h_2 n el hu =>
    split at h
    case h_1 cs k i inf c d ex ei hi hk hd =>
      split at h
      case h_1 hb hagg =>
        obtain ⟨y, h0, h1, hy, hK⟩ := h.out
        refine yvP (fun w => ?_) hK
        rw [ex, ei]
        have hs := Nat.eq_of_beq_eq_true hb
        have ha : aggB d = false := by cases d <;> first | rfl | cases hagg
        simp only [Instr.index, Sem.run_bind, asIntOf_int, under hu, Result.andThen_ok, if_pos (And.intro h0 h1), sizeof hi, hs, Nat.mul_one]
        exact part_one hd ha hy w
      case h_2 => cases h
    case h_2 => cases h
  case h_3 => cases h

theorem toNat_sub_int {a b : Int} (h0 : 0 ≤ b) (h : b ≤ a) : (a - b).toNat = a.toNat - b.toNat := by omega

theorem sub_slice {el : TypeId} {t : TypeId} {inf : TypeInfo} {a : Option Addr} {len cap : Nat} {lo hi mx : Option Value} {l h m : Int} (hu : P.underlying t = some (.slice el)) (hinf : P.info? el = some inf)
    (hlo : (lo = none ∧ l = 0) ∨ ∃ k, lo = some (.int k l)) (hhi : (hi = none ∧ mx = none ∧ h = len) ∨ ∃ k, hi = some (.int k h)) (hmx : (mx = none ∧ m = cap) ∨ ∃ k, mx = some (.int k m))
    (h0 : 0 ≤ l) (h1 : l ≤ h) (h2 : h ≤ m) (h3 : m ≤ cap) (w : World) :
    (Instr.slice t (.slice a len cap) lo hi mx).run P w = .ok (.slice (if m = l then a else a.map (·.add (l.toNat * inf.size))) (h - l).toNat (m - l).toNat) w := by
  have e1 : (if m = l then a else a.map (·.add (l.toNat * inf.size))) = (if m.toNat = l.toNat then a else a.map (·.add (l.toNat * inf.size))) := by
    by_cases hh : m = l
    · rw [if_pos hh, if_pos (by omega)]
    · rw [if_neg hh, if_neg (by omega)]
  have hM : 0 ≤ m := by omega
  have hH : 0 ≤ h := by omega
  have hml : ((m.toNat : Nat) : Int) = m := Int.toNat_of_nonneg hM
  have hhl : ((h.toNat : Nat) : Int) = h := Int.toNat_of_nonneg hH
  rw [e1, toNat_sub_int h0 h1, toNat_sub_int h0 (by omega)]
  simp only [Instr.slice, Sem.run_bind, under hu, Result.andThen_ok]
  have hb : (Instr.sliceBounds true len cap lo hi mx).run P w = .ok (l.toNat, h.toNat, m.toNat) w := by
    unfold Instr.sliceBounds
    rcases hmx with ⟨rfl, rfl⟩ | ⟨km, rfl⟩
    · rcases hhi with ⟨rfl, _, rfl⟩ | ⟨kh, rfl⟩
      · rcases hlo with ⟨rfl, rfl⟩ | ⟨kl, rfl⟩
        · simp
        · simp [bound_ok h0 h1]
      · have hb2 := fun c => bound_ok (P := P) (k := kh) (i := h) (y := cap) (c := c) hH h2 w
        rcases hlo with ⟨rfl, rfl⟩ | ⟨kl, rfl⟩
        · simp [hb2]
        · simp [hb2, bound_ok (P := P) (k := kl) (i := l) (y := h.toNat) h0 (by omega)]
    · have hb1 := fun c => bound_ok (P := P) (k := km) (i := m) (y := cap) (c := c) hM h3 w
      rcases hhi with ⟨_, hx, _⟩ | ⟨kh, rfl⟩
      · cases hx
      · have hb2 := fun c => bound_ok (P := P) (k := kh) (i := h) (y := m.toNat) (c := c) hH (by omega) w
        rcases hlo with ⟨rfl, rfl⟩ | ⟨kl, rfl⟩
        · simp [hb1, hb2]
        · simp [hb1, hb2, bound_ok (P := P) (k := kl) (i := l) (y := h.toNat) h0 (by omega)]
  simp only [hb, Result.andThen_ok, sizeof hinf, Sem.run_pure]

theorem sub_string {t : TypeId} {s : ByteArray} {lo hi : Option Value} {l h : Int} (hu : P.underlying t = some .string)
    (hlo : (lo = none ∧ l = 0) ∨ ∃ k, lo = some (.int k l)) (hhi : (hi = none ∧ h = s.size) ∨ ∃ k, hi = some (.int k h)) (h0 : 0 ≤ l) (h1 : l ≤ h) (h2 : h ≤ s.size) (w : World) :
    (Instr.slice t (.string s) lo hi none).run P w = .ok (.string (s.extract l.toNat h.toNat)) w := by
  have hH : 0 ≤ h := by omega
  have hhl : ((h.toNat : Nat) : Int) = h := Int.toNat_of_nonneg hH
  simp only [Instr.slice, Sem.run_bind, under hu, Result.andThen_ok, Option.isSome_none, Bool.false_eq_true, if_false]
  have hb : (Instr.sliceBounds false s.size s.size lo hi none).run P w = .ok (l.toNat, h.toNat, s.size) w := by
    unfold Instr.sliceBounds
    rcases hhi with ⟨rfl, rfl⟩ | ⟨kh, rfl⟩
    · rcases hlo with ⟨rfl, rfl⟩ | ⟨kl, rfl⟩
      · simp
      · simp [bound_ok h0 h1]
    · have hb2 := fun c => bound_ok (P := P) (k := kh) (i := h) (y := s.size) (c := c) hH h2 w
      rcases hlo with ⟨rfl, rfl⟩ | ⟨kl, rfl⟩
      · simp [hb2]
      · simp [hb2, bound_ok (P := P) (k := kl) (i := l) (y := h.toNat) h0 (by omega)]
  simp only [hb, Sem.run_pure, Result.andThen_ok]

theorem optInt_form {v : Option Value} {d : Int} {K : Int → Prop} (h : optInt v d K) : ∃ i, K i ∧ ((v = none ∧ i = d) ∨ ∃ k, v = some (.int k i)) := by
  rcases optInt_ok h with ⟨a, b⟩ | ⟨k, i, a, b⟩
  · exact ⟨d, b, .inl ⟨a, rfl⟩⟩
  · exact ⟨i, b, .inr ⟨k, a⟩⟩

theorem sliceAt_slice {t : TypeId} {d : TypeDesc} (hu : P.underlying t = some d) (hd : ∀ n e, d ≠ .array n e) {x : Value} {lo hi mx : Option Value} (w : World) :
    (Instr.sliceAt t x lo hi mx).run P w = (Instr.slice t x lo hi mx).run P w := by
  unfold Instr.sliceAt
  simp only [Sem.run_bind, under hu, Result.andThen_ok]

theorem slice_ok {o : Oper} {e : Env} {t : TypeId} {x : Operand} {lo hi mx : Option Operand} {w : World} {K : Value → World → Prop} (ho : o.op = .slice t x lo hi mx) (h : vcOp P o e w K) : YieldsP P (execOp e.eval o) w K := by
  unfold vcOp at h
  simp only [ho] at h
  simp only [execOp, ho]
  split at h
  case h_1 hu =>
    split at h
    case h_1 s ex =>
      obtain ⟨l, h, hl⟩ := optInt_form h
      obtain ⟨r, h, hr⟩ := optInt_form h
      obtain ⟨h0, h1, h2, hK⟩ := h.out
      refine yvP (fun w => ?_) hK
      rw [sliceAt_slice hu (by simp), ex]
      exact sub_string hu hl hr h0 h1 h2 w
    case h_2 => cases h
  case h_2 el hu =>
    split at h
    case h_1 a len cap inf ex hi' =>
      split at h
      case h_1 => cases h
      case h_2 hnn =>
        obtain ⟨l, h, hl⟩ := optInt_form h
        obtain ⟨r, h, hr⟩ := optInt_form h
        obtain ⟨m, h, hm⟩ := optInt_form h
        obtain ⟨h0, h1, h2, h3, hK⟩ := h.out
        refine yvP (fun w => ?_) hK
        rw [sliceAt_slice hu (by simp), ex]
        refine sub_slice hu hi' hl ?_ hm h0 h1 h2 h3 w
        rcases hr with ⟨hr, hr2⟩ | hr
        · refine .inl ⟨hr, ?_, hr2⟩
          cases hi with
          | some y => simp at hr
          | none =>
            cases mx with
            | none => rfl
            | some y => exact (hnn _ rfl rfl).elim
        · exact .inr hr
    case h_2 => cases h
  case h_3 => cases h


/-- Operations that do not look at the world. -/
theorem vcOp_pure {o : Oper} {e : Env} {w : World} {K : Value → World → Prop} (hs : pureOp P o.op = true) (h : vcOp P o e w K) : YieldsP P (execOp e.eval o) w K := by
  have hh := h
  unfold vcOp at h
  cases ho : o.op <;> simp only [ho, pureOp, Bool.false_eq_true] at h hs
  case move x => simp only [execOp, ho]; exact ⟨_, fun _ => rfl, h⟩
  case assign x => simp only [execOp, ho]; exact ⟨_, fun _ => rfl, h⟩
  case pick c a b =>
    simp only [execOp, ho]
    split at h
    case h_1 t ec =>
      rw [ec]
      obtain ⟨h1, h2⟩ := ifB_ok h
      cases t
      · exact ⟨_, fun _ => rfl, h2 rfl⟩
      · exact ⟨_, fun _ => rfl, h1 rfl⟩
    case h_2 => cases h
  case nilCheck x => exact nilCheck_ok ho hh
  case build t parts =>
    simp only [execOp, ho]
    obtain ⟨cells, hb, h⟩ := vcParts_ok h
    refine yvP (fun w' => run_build w' t _ cells ?_) h
    simpa using hb
  case binOp op t x y yt =>
    simp only [execOp, ho]
    obtain ⟨v, w', hr, hK, hw⟩ := vcBin_ok h
    obtain ⟨hw1, hw2⟩ := hw (by simpa using hs)
    subst hw1
    exact yvP hw2 hK
  case unOp op t x => simp only [execOp, ho]; obtain ⟨v, hr, hK⟩ := ofPeek_all h; exact yvP hr hK
  case fieldAddr s x f => simp only [execOp, ho]; obtain ⟨v, hr, hK⟩ := ofPeek_all h; exact yvP hr hK
  case field t x f => simp only [execOp, ho]; obtain ⟨v, hr, hK⟩ := ofPeek_all h; exact yvP hr hK
  case extract t i => simp only [execOp, ho]; obtain ⟨v, hr, hK⟩ := ofPeek_all h; obtain ⟨x, rfl, hK2⟩ := Kd.ex_spec hK; exact yvP hr hK2
  case makeInterface t x => simp only [execOp, ho]; obtain ⟨v, hr, hK⟩ := ofPeek_all h; exact yvP hr hK
  case makeFunc fn fi ca => simp only [execOp, ho]; exact ⟨_, fun _ => by simp [Instr.makeFunc, evs_eq], h⟩
  case indexAddr t x i => exact indexAddr_ok ho hh
  case index t x i => exact index_ok ho hh
  case slice t x lo hi mx => exact slice_ok ho hh
  case typeAssert x xt t ok =>
    simp only [execOp, ho]
    split at h
    case h_1 => cases h
    case h_2 d hi hu =>
      have hi' : ∀ m, d ≠ .interface m := fun m hm => hi m (by rw [hm])
      split at h
      case h_1 =>
        split at h
        case h_1 i hinf =>
          split at h
          case h_1 z hz =>
            rcases h.out with ⟨r, hx, hK⟩ | ⟨hx, hK⟩
            · exact yvP (fun w => (typeAssert_ok hu hi' w).1 _ true hx) hK
            · exact yvP (fun w => (typeAssert_ok hu hi' w).2 i z hinf hz hx) hK
          case h_2 => cases h
        case h_2 => cases h
      case h_2 =>
        rcases h.out with ⟨r, hx, hK⟩ | ⟨hx, hK⟩
        · exact yvP (fun w => (typeAssert_ok hu hi' w).1 _ false hx) hK
        · cases hK
    case h_3 => cases h
  case call c =>
    simp only [execOp, ho]
    have red : ∀ (b : Builtin), c.callee = .builtin b → ∀ (s : Sem Value) v, (∀ cs, builtin b c.argTypes o.type cs (c.args.map e.eval) = (do pure (.value (← s)))) → (∀ w', s.run P w' = .ok v w') → K v w →
        YieldsP P (do let d ← resolve e.eval c o.type; invoke d.target d.args) w K := fun b hc s v hb hr hK => by
      refine ⟨v, fun w' => ?_, hK⟩
      simp only [resolve, hc, Sem.run_bind, Sem.run_pure, Result.andThen_ok, invoke]
      rw [hb]
      simp [hr w']
    split at hs
    case h_1 hc =>
      simp only [hc] at h
      obtain ⟨v, hr, hK⟩ := ofPeek_all h
      refine red .cap hc _ v ?_ hr hK
      intro _; rw [evs_eq]; rfl
    case h_2 hc =>
      simp only [hc] at h
      obtain ⟨v, hr, hK⟩ := ofPeek_all h
      refine red .min hc _ v ?_ hr hK
      intro _; rw [evs_eq]; rfl
    case h_3 hc =>
      simp only [hc] at h
      obtain ⟨v, hr, hK⟩ := ofPeek_all h
      refine red .max hc _ v ?_ hr hK
      intro _; rw [evs_eq]; rfl
    case h_4 hc =>
      simp only [hc] at h
      split at h
      case h_1 m hl =>
        exfalso
        split at hs
        case h_1 t ht =>
          have h0 : c.argTypes[0]? = some t := by rw [← Array.getElem?_toList, ht]; rfl
          rw [h0] at h
          simp only [Option.bind_some] at h
          split at h
          · rename_i hu; simp [hu] at hs
          · exact h
        case h_2 => cases hs
      case h_2 l hl =>
        obtain ⟨v, hr, hK⟩ := ofPeek_all h
        refine red .len hc _ v ?_ hr hK
        intro _; rw [evs_eq]; rfl
    case h_5 => cases hs

/-- Operations that leave the world alone. -/
theorem vcOp_still {o : Oper} {e : Env} {w : World} {K : Value → World → Prop} (hs : stillOp P o.op = true) (h : vcOp P o e w K) : YieldsS P (execOp e.eval o) w K := by
  have hh := h
  unfold vcOp at h
  cases ho : o.op <;> simp only [ho, stillOp, Bool.false_eq_true] at h hs
  case move x => simp only [execOp, ho]; exact .inl ⟨_, rfl, h⟩
  case assign x => simp only [execOp, ho]; exact .inl ⟨_, rfl, h⟩
  case pick c a b =>
    simp only [execOp, ho]
    split at h
    case h_1 t ec =>
      rw [ec]
      obtain ⟨h1, h2⟩ := ifB_ok h
      cases t
      · exact .inl ⟨_, rfl, h2 rfl⟩
      · exact .inl ⟨_, rfl, h1 rfl⟩
    case h_2 => cases h
  case load t a =>
    simp only [execOp, ho]
    split at h
    case h_1 q ea =>
      obtain ⟨p, rfl, h⟩ := optA_ok h
      obtain ⟨v, hv, hK⟩ := loadVar_ok h
      refine yvS ?_ hK
      rw [ea]
      simp only [Instr.loadAt, Instr.sureAddr, Sem.run_bind, Sem.run_pure, Result.andThen_ok, hv]
    case h_2 => cases h
  case nilCheck x => exact (nilCheck_ok ho hh).still
  case build t parts =>
    simp only [execOp, ho]
    obtain ⟨cells, hb, h⟩ := vcParts_ok h
    refine yvS (run_build w t _ cells ?_) h
    simpa using hb
  case binOp op t x y yt =>
    simp only [execOp, ho]
    obtain ⟨v, w', hr, hK, hw⟩ := vcBin_ok h
    have := (hw (by simpa using hs)).1
    subst this
    exact yvS hr hK
  case unOp op t x => simp only [execOp, ho]; obtain ⟨v, hr, hK⟩ := ofPeek_ok h; exact yvS hr hK
  case fieldAddr s x f => simp only [execOp, ho]; obtain ⟨v, hr, hK⟩ := ofPeek_ok h; exact yvS hr hK
  case field t x f => simp only [execOp, ho]; obtain ⟨v, hr, hK⟩ := ofPeek_ok h; exact yvS hr hK
  case extract t i => simp only [execOp, ho]; obtain ⟨v, hr, hK⟩ := ofPeek_ok h; obtain ⟨x, rfl, hK2⟩ := Kd.ex_spec hK; exact yvS hr hK2
  case makeInterface t x => simp only [execOp, ho]; obtain ⟨v, hr, hK⟩ := ofPeek_ok h; exact yvS hr hK
  case makeFunc fn fi ca => simp only [execOp, ho]; exact .inl ⟨_, by simp [Instr.makeFunc, evs_eq], h⟩
  case indexAddr t x i => exact (indexAddr_ok ho hh).still
  case index t x i => exact (index_ok ho hh).still
  case slice t x lo hi mx => exact (slice_ok ho hh).still
  case typeAssert x xt t ok =>
    simp only [execOp, ho]
    split at h
    case h_1 => cases h
    case h_2 d hi hu =>
      have hi' : ∀ m, d ≠ .interface m := fun m hm => hi m (by rw [hm])
      split at h
      case h_1 =>
        split at h
        case h_1 i hinf =>
          split at h
          case h_1 z hz =>
            rcases h.out with ⟨r, hx, hK⟩ | ⟨hx, hK⟩
            · exact yvS ((typeAssert_ok hu hi' w).1 _ true hx) hK
            · exact yvS ((typeAssert_ok hu hi' w).2 i z hinf hz hx) hK
          case h_2 => cases h
        case h_2 => cases h
      case h_2 =>
        rcases h.out with ⟨r, hx, hK⟩ | ⟨hx, hK⟩
        · exact yvS ((typeAssert_ok hu hi' w).1 _ false hx) hK
        · cases hK
    case h_3 => cases h
  case call c =>
    simp only [execOp, ho]
    have red : ∀ (b : Builtin), c.callee = .builtin b → ∀ (s : Sem Value) v, (∀ cs, builtin b c.argTypes o.type cs (c.args.map e.eval) = (do pure (.value (← s)))) → s.run P w = .ok v w → K v w →
        YieldsS P (do let d ← resolve e.eval c o.type; invoke d.target d.args) w K := fun b hc s v hb hr hK => by
      refine .inl ⟨v, ?_, hK⟩
      simp only [resolve, hc, Sem.run_bind, Sem.run_pure, Result.andThen_ok, invoke]
      rw [hb]
      simp [hr]
    split at hs
    case h_1 hc =>
      simp only [hc] at h
      split at h
      case h_1 m hl =>
        have hm : c.args.map e.eval = #[.map m] := by rw [← evs_eq, hl]
        split at h
        case h_1 k el hu =>
          have hu2 : ∃ t, c.argTypes[0]? = some t ∧ P.underlying t = some (.map k el) := by
            cases ht : c.argTypes[0]? with
            | none => simp [ht] at hu
            | some t => exact ⟨t, rfl, by simpa [ht] using hu⟩
          obtain ⟨t, ht, hu3⟩ := hu2
          rcases h.out with ⟨rfl, hK⟩ | ⟨r, es, cl, rfl, hh, hK⟩
          · refine red .len hc (Builtin.len_ c.argTypes o.type #[.map none]) _ (fun _ => by rw [hm]; rfl) ?_ hK
            unfold Builtin.len_
            simp [ht, under hu3, goInt]
          · refine red .len hc (Builtin.len_ c.argTypes o.type #[.map (some r)]) _ (fun _ => by rw [hm]; rfl) ?_ hK
            unfold Builtin.len_
            simp [ht, under hu3, goInt, getObj, Sem.run, hh]
        case h_2 => cases h
      case h_2 l hl =>
        obtain ⟨v, hr, hK⟩ := ofPeek_ok h
        refine red .len hc _ v ?_ hr hK
        intro _; rw [evs_eq]; rfl
    case h_2 hc =>
      simp only [hc] at h
      obtain ⟨v, hr, hK⟩ := ofPeek_ok h
      refine red .cap hc _ v ?_ hr hK
      intro _; rw [evs_eq]; rfl
    case h_3 hc =>
      simp only [hc] at h
      obtain ⟨v, hr, hK⟩ := ofPeek_ok h
      refine red .min hc _ v ?_ hr hK
      intro _; rw [evs_eq]; rfl
    case h_4 hc =>
      simp only [hc] at h
      obtain ⟨v, hr, hK⟩ := ofPeek_ok h
      refine red .max hc _ v ?_ hr hK
      intro _; rw [evs_eq]; rfl
    case h_5 => cases hs

/-- Any operation. -/
theorem vcOp_run {o : Oper} {e : Env} {w : World} {K : Value → World → Prop} (h : vcOp P o e w K) : Yields P (execOp e.eval o) w K := by
  by_cases hs : stillOp P o.op = true
  · exact (vcOp_still hs h).weak
  have hh := h
  unfold vcOp at h
  cases ho : o.op <;> simp only [ho, stillOp, not_true, Bool.not_eq_true] at h hs
  case store t a x =>
    simp only [execOp, ho]
    split at h
    case h_1 q ea =>
      obtain ⟨p, rfl, h⟩ := optA_ok h
      split at h
      case h_1 i hinf =>
       split at h
       case h_1 =>
        split at h
        case h_1 hb =>
          have hsz : 1 = i.size := Nat.eq_of_beq_eq_true hb
          obtain ⟨h1, h⟩ := h.out
          obtain ⟨hw, hK⟩ := h.out
          refine yu ?_ hK
          rw [ea]
          have hr : (storeCells p (e.eval x).cells.toList 0).run P w = .ok () (setCells w p 0 [e.eval x]) := by rw [h1]; exact storeCells_ok _ 0 w hw
          have hz : (e.eval x).cells.size = i.size := by rw [h1, ← hsz]; rfl
          simp only [Instr.storeAt, Instr.sureAddr, storeVar, Sem.run_bind, Sem.run_pure, Result.andThen_ok, sizeof hinf, hz, ne_eq, not_true, if_false, hr]
        case h_2 => cases h
       case h_2 =>
        split at h
        case h_1 n el hu =>
          split at h
          case h_1 cs ex =>
            obtain ⟨hsz, h⟩ := h.out
            obtain ⟨hw, hK⟩ := h.out
            refine yu ?_ hK
            rw [ea, ex]
            have hsz' : (Value.agg cs).cells.size = i.size := by rw [← hsz]; exact Array.length_toList.symm
            have hr : (storeCells p (Value.agg cs).cells.toList 0).run P w = .ok () (setCells w p 0 cs.toList) := storeCells_ok _ 0 w hw
            simp only [Instr.storeAt, Instr.sureAddr, storeVar, Sem.run_bind, Sem.run_pure, Result.andThen_ok, sizeof hinf, hsz', ne_eq, not_true, if_false, hr]
          case h_2 => cases h
        case h_2 hu =>
          split at h
          case h_1 hb =>
            have hsz : (e.eval x).cells.size = i.size := Nat.eq_of_beq_eq_true hb
            have sv : ∀ w', (storeCells p (e.eval x).cells.toList 0).run P w = .ok () w' → K undef w' → Yields P (do Instr.storeAt t (e.eval a) (e.eval x); pure .skip) w K := fun w' hr hK => by
              refine yu ?_ hK
              rw [ea]
              simp only [Instr.storeAt, Instr.sureAddr, storeVar, Sem.run_bind, Sem.run_pure, Result.andThen_ok, sizeof hinf, hsz, ne_eq, not_true, if_false, hr]
            split at h
            case h_1 cs ex =>
              obtain ⟨hw, hK⟩ := h.out
              exact sv _ (by rw [ex]; exact storeCells_ok _ 0 w hw) hK
            case h_2 => cases h
            case h_3 hna hnt =>
              obtain ⟨h1, h2, h3, hK⟩ := h.out
              refine sv _ ?_ hK
              have hc : (e.eval x).cells.toList = [e.eval x] := by
                cases hx : e.eval x <;> first | rfl | exact (hna _ hx).elim
              rw [hc]
              simp only [storeCells, Sem.run_bind]
              have ha : p.add 0 = p := by simp [Addr.add]
              rw [ha, store_ok h1 h2 h3]
              rfl
          case h_2 => cases h
      case h_2 => cases h
    case h_2 => cases h
  case alloc t =>
    simp only [execOp, ho]
    split at h
    case h_1 i hi =>
      split at h
      case h_1 z hz =>
        refine yv ?_ h.out
        simp [Instr.alloc, zeroof hi hz, newVar, newRow, newObj, Sem.run]
      case h_2 => cases h
    case h_2 => cases h
  case box t x =>
    simp only [execOp, ho]
    split at h
    · obtain ⟨h1, h⟩ := h.out
      exact yv (by simp [Instr.box, newVar, newRow, newObj, Sem.run, h1]) h.out
    · exact yv (by simp [Instr.box, newVar, newRow, newObj, Sem.run]) h.out
  case binOp op t x y yt =>
    simp only [execOp, ho]
    obtain ⟨v, w', hr, hK, _⟩ := vcBin_ok h
    exact yv hr hK
  case makeMap t r =>
    cases r with
    | none =>
      simp only [execOp, ho]
      exact yv (by simp [Instr.makeMap, newObj, Sem.run]) h.out
    | some r => exact h.elim
  case convert src dst x =>
    simp only [execOp, ho]
    split at h
    · obtain ⟨v, w', hr, hK⟩ := h.out; exact yv hr hK
    · obtain ⟨v, w', hr, hK⟩ := h.out; exact yv hr hK
    · obtain ⟨v, w', hr, hK⟩ := h.out; exact yv hr hK
    · obtain ⟨v, hr, hK⟩ := ofPeek_ok h; exact yv hr hK
  case makeSlice t l c => simp only [execOp, ho]; obtain ⟨v, w', hr, hK⟩ := h.out; exact yv hr hK
  case buildSlice t n parts =>
    simp only [execOp, ho]
    obtain ⟨v, w', hr, hK⟩ := h.out
    refine yv ?_ hK
    have : (parts.toList.map fun (i, x) => (i, e.eval x)).toArray = parts.map fun (i, x) => (i, e.eval x) := by
      apply Array.ext'; simp
    rw [this] at hr
    exact hr
  case lookup t x i ok => simp only [execOp, ho]; obtain ⟨v, w', hr, hK⟩ := h.out; exact yv hr hK
  case mapUpdate t m k x => simp only [execOp, ho]; obtain ⟨w', hr, hK⟩ := h.out; exact yu hr hK
  case insert t m k x => simp only [execOp, ho]; obtain ⟨w', hr, hK⟩ := h.out; exact yu hr hK
  case range t x => simp only [execOp, ho]; obtain ⟨v, w', hr, hK⟩ := h.out; exact yv hr hK
  case next it s =>
    simp only [execOp, ho]
    split at h
    case h_1 =>
      split at h
      case h_1 q eit =>
        obtain ⟨r, s, pos, rfl, hr, hK⟩ := h.out
        rw [eit]
        by_cases hp : pos < s.size
        · rw [if_pos hp] at hK
          refine yv ?_ hK
          simp only [Instr.next, Sem.run_bind, getObj, Sem.run, hr, Result.andThen_ok, if_pos hp, setObj, Sem.run_pure]
          rfl
        · rw [if_neg hp] at hK
          refine yv (v := .tuple #[.bool false]) (w' := w) ?_ hK
          simp only [Instr.next, Sem.run_bind, getObj, Sem.run, hr, Result.andThen_ok, if_neg hp, Sem.run_pure]
      case h_2 => cases h
    case h_2 =>
      rcases h.out with ⟨k, v, w', hr, hK⟩ | ⟨w', hr, hK⟩
      · exact yv hr hK
      · exact yv hr hK
  case entry it => simp only [execOp, ho]; obtain ⟨v, w', hr, hK⟩ := h.out; exact yv hr hK
  case call c =>
    simp only [execOp, ho]
    have red : ∀ (b : Builtin), c.callee = .builtin b → ∀ (s : Sem Value) v w', (∀ cs, builtin b c.argTypes o.type cs (c.args.map e.eval) = (do pure (.value (← s)))) → s.run P w = .ok v w' → K v w' →
        Yields P (do let d ← resolve e.eval c o.type; invoke d.target d.args) w K := fun b hc s v w' hb hr hK => by
      refine .inl ⟨v, w', ?_, hK⟩
      simp only [resolve, hc, Sem.run_bind, Sem.run_pure, Result.andThen_ok, invoke]
      rw [hb]
      simp [hr]
    split at h
    case h_1 hc =>
      obtain ⟨v, w', hr, hK⟩ := h.out
      exact red .append hc _ _ w' (fun _ => by rw [evs_eq]; rfl) hr hK
    case h_2 hc =>
      obtain ⟨v, w', hr, hK⟩ := h.out
      exact red .copy hc _ _ w' (fun _ => by rw [evs_eq]; rfl) hr hK
    case h_3 hc =>
      obtain ⟨v, w', hr, hK⟩ := h.out
      exact red .delete hc _ _ w' (fun _ => by rw [evs_eq]; rfl) hr hK
    case h_4 hc => simp [hc] at hs
    case h_5 hc => simp [hc] at hs
    case h_6 hc => simp [hc] at hs
    case h_7 hc => simp [hc] at hs
    case h_8 x hc =>
      have go : ∀ {f fi ca}, e.eval x = .func (.func f) fi ca → vcCall P f (fi.toList ++ evs e c.args ++ ca.toList) w K → Yields P (do let d ← resolve e.eval c o.type; invoke d.target d.args) w K := fun {f fi ca} ex h => by
        obtain ⟨xs, hr, hK⟩ := callFunc_ok h
        refine .inr (.inr ⟨f, xs, ?_, hK⟩)
        have hargs : (fi.toList ++ evs e c.args ++ ca.toList).toArray = fi ++ c.args.map e.eval ++ ca := by
          rw [← evs_eq]; apply Array.ext'; simp
        rw [hargs] at hr
        simp only [resolve, hc, ex, Deferred.ofValue, Sem.run_bind, Sem.run_pure, Result.andThen_ok, invoke, hr]
      split at h
      case h_1 u =>
        unfold callV at h
        split at h
        case h_1 f fi ca ex => exact go ex (vcCall_mono (fun v w' hv => by obtain ⟨y, rfl, hy⟩ := Rk.ex_spec hv; exact hy) h)
        case h_2 => cases h
      case h_2 =>
        split at h
        case h_1 f fi ca ex => exact go ex h
        case h_2 => cases h
    case h_9 => cases h
  all_goals first | (exact absurd hs (by simp)) | (exact h.elim)

theorem op_wp {n : Nat} {o : Oper} {e : Env} {a : Act} {w : World} {K : Value → World → Prop} {next : Act → World → Prop} {Q : Exit → Act → World → Prop} (hr : Rep n e a) (h : vcOp P o e w K)
    (hK : ∀ v w', K v w' → next (a.put o.dst v) w') : o.wp P a w next Q := by
  unfold Oper.wp
  rw [hr.eval]
  rcases vcOp_run h with ⟨v, w', hrun, hk⟩ | ⟨w', hrun, hk⟩ | ⟨f, args, hrun, hk⟩
  · rw [hrun]; exact hK _ _ hk
  · rw [hrun]; exact hK _ _ hk
  · rw [hrun]
    exact Calls.mono hk fun e w' ⟨v, he, hv⟩ => by subst he; exact hK _ _ hv

theorem op_still {n : Nat} {o : Oper} {e : Env} {a : Act} {w : World} {K : Value → World → Prop} {next : Act → Prop} (hr : Rep n e a) (hs : stillOp P o.op = true) (h : vcOp P o e w K)
    (hK : ∀ v, K v w → next (a.put o.dst v)) : o.still P a w next := by
  unfold Oper.still
  rw [hr.eval]
  rcases vcOp_still hs h with ⟨v, hrun, hk⟩ | ⟨hrun, hk⟩
  · rw [hrun]; exact ⟨rfl, hK _ hk⟩
  · rw [hrun]; exact ⟨rfl, hK _ hk⟩

theorem Rep.yielded {n : Nat} {e : Env} {a : Act} (h : Rep n e a) (ops : Array Oper) (j : Nat) :
    Go.yielded ops a.tmps j = match (ops[j]?).bind (·.dst) with
      | none => none
      | some d => match e.get d with | .bool b => some b | _ => none := by
  unfold Go.yielded
  cases hd : (ops[j]?).bind (·.dst) with
  | none => simp
  | some d =>
    simp only [Option.bind_some]
    rw [← h.get d, Array.getD_eq_getD_getElem?]
    cases ht : a.tmps[d]? with
    | none => simp [undef]
    | some v => simp only [Option.getD_some]; cases v <;> rfl

theorem Rep.lit {n : Nat} {e : Env} {a : Act} (h : Rep n e a) {d : Nat} {v : Value} (hv : e.get d = v) : Rep n (e.put (some d) v) a :=
  ⟨h.size, h.defers, fun t => by rw [Env.get_put, h.get]; by_cases ht : t = d <;> simp [ht, hv]⟩

theorem get_put_dst (e : Env) (dst : Option Nat) (v : Value) {t : Nat} (h : t ∉ dst.toList) : (e.put dst v).get t = e.get t := by
  cases dst with
  | none => rfl
  | some d => rw [Env.get_put, if_neg (by simpa using h)]

theorem get_lit {e : Env} {d : Nat} {v : Value} (hv : e.get d = v) (t : Nat) : (e.put (some d) v).get t = e.get t := by
  rw [Env.get_put]; by_cases ht : t = d <;> simp [ht, hv]

def dstsL (l : List Oper) : List Nat := l.filterMap (·.dst)

theorem not_dst {o : Oper} {l : List Oper} {t : Nat} (h : t ∉ dstsL (o :: l)) : t ∉ o.dst.toList ∧ t ∉ dstsL l := by
  unfold dstsL at *
  cases hd : o.dst with
  | none => simp [hd] at h; exact ⟨by simp, by simpa using h⟩
  | some d =>
    simp [hd] at h
    exact ⟨by simpa using fun x => h.1 x, by simpa using h.2⟩

/-- One step of a region: the operation is carried out or passed over, and what follows goes on. -/
theorem step_cases {n : Nat} {ops : Array Oper} {o : Oper} {rest : List Oper} {e : Env} {a : Act} {w : World} {K : Env → World → Prop} (hr : Rep n e a) (h : vcOps P n ops (o :: rest) e w K) :
    (Region.wanted o (Go.yielded ops a.tmps) = true ∧ ∃ e1, Rep n e1 a ∧ (∀ t, e1.get t = e.get t) ∧ okDst n o.dst = true ∧ vcOp P o e1 w fun v w' => vcOps P n ops rest (e1.put o.dst v) w' K) ∨
    (Region.wanted o (Go.yielded ops a.tmps) = false ∧ ∃ e1, Rep n e1 a ∧ (∀ t, e1.get t = e.get t) ∧ okDst n o.dst = true ∧ vcOps P n ops rest (e1.put o.dst undef) w K) := by
  unfold vcOps at h
  split at h
  case h_1 => cases h
  case h_2 hd =>
    split at h
    case h_1 hg => exact .inl ⟨by simp [Region.wanted, hg], e, hr, fun _ => rfl, hd, h⟩
    case h_2 j want hg =>
      have hy := hr.yielded ops j
      split at h
      case h_1 => cases h
      case h_2 d hdst =>
        simp only [hdst] at hy
        split at h
        case h_1 b hb =>
          simp only [hb] at hy
          split at h
          all_goals
            obtain ⟨h1, h2⟩ := ifB_ok h
            cases b
            · first
                | exact .inr ⟨by simp [Region.wanted, hg, hy], _, hr.lit hb, get_lit hb, hd, h2 rfl⟩
                | exact .inl ⟨by simp [Region.wanted, hg, hy], _, hr.lit hb, get_lit hb, hd, h2 rfl⟩
            · first
                | exact .inr ⟨by simp [Region.wanted, hg, hy], _, hr.lit hb, get_lit hb, hd, h1 rfl⟩
                | exact .inl ⟨by simp [Region.wanted, hg, hy], _, hr.lit hb, get_lit hb, hd, h1 rfl⟩
        case h_2 hb =>
          simp only [hb] at hy
          exact .inr ⟨by simp [Region.wanted, hg, hy], e, hr, fun _ => rfl, hd, h⟩
        case h_3 => cases h

theorem vcOps_sound {n : Nat} {ops : Array Oper} {Q : Exit → Act → World → Prop} : ∀ (l : List Oper) (e : Env) (a : Act) (w : World) (K : Env → World → Prop), Rep n e a → vcOps P n ops l e w K →
    (∀ e' a' w', Rep n e' a' → (∀ t, t ∉ dstsL l → e'.get t = e.get t) → K e' w' → Q .normal a' w') → wpList P ops Q l a w
  | [], e, a, w, K, hr, h, hK => hK e a w hr (fun _ _ => rfl) h
  | o :: rest, e, a, w, K, hr, h, hK => by
    unfold wpList
    have go : ∀ e1 v w', Rep n e1 a → (∀ t, e1.get t = e.get t) → okDst n o.dst = true → vcOps P n ops rest (e1.put o.dst v) w' K → wpList P ops Q rest (a.put o.dst v) w' := fun e1 v w' hr1 he hd h =>
      vcOps_sound rest _ _ _ K (hr1.put o.dst hd v) h fun e' a' w' h1 h2 h3 => hK e' a' w' h1 (fun t ht => by
        obtain ⟨ht1, ht2⟩ := not_dst ht
        rw [h2 t ht2, get_put_dst _ _ _ ht1, he t]) h3
    rcases step_cases hr h with ⟨hw, e1, hr1, he, hd, h⟩ | ⟨hw, e1, hr1, he, hd, h⟩
    · rw [if_pos hw]
      exact .inl (op_wp hr1 h fun v w' h => go e1 v w' hr1 he hd h)
    · rw [if_neg (by rw [hw]; simp)]
      exact go e1 undef w hr1 he hd h

theorem vcOps_still {n : Nat} {ops : Array Oper} {Q : Act → Prop} (tl : List Oper) : ∀ (l : List Oper) (e : Env) (a : Act) (w : World) (K : Env → World → Prop), l.all (fun o => stillOp P o.op) = true → Rep n e a →
    vcOps P n ops (l ++ tl) e w K →
    (∀ e' a', Rep n e' a' → (∀ t, t ∉ dstsL l → e'.get t = e.get t) → vcOps P n ops tl e' w K → Q a') → wpStill P ops w Q l a
  | [], e, a, w, K, _, hr, h, hK => hK e a hr (fun _ _ => rfl) h
  | o :: rest, e, a, w, K, hs, hr, h, hK => by
    simp only [List.all_cons, Bool.and_eq_true] at hs
    unfold wpStill
    have go : ∀ e1 v, Rep n e1 a → (∀ t, e1.get t = e.get t) → okDst n o.dst = true → vcOps P n ops (rest ++ tl) (e1.put o.dst v) w K → wpStill P ops w Q rest (a.put o.dst v) := fun e1 v hr1 he hd h =>
      vcOps_still tl rest _ _ _ K hs.2 (hr1.put o.dst hd v) h fun e' a' h1 h2 h3 => hK e' a' h1 (fun t ht => by
        obtain ⟨ht1, ht2⟩ := not_dst ht
        rw [h2 t ht2, get_put_dst _ _ _ ht1, he t]) h3
    rcases step_cases hr h with ⟨hw, e1, hr1, he, hd, h⟩ | ⟨hw, e1, hr1, he, hd, h⟩
    · rw [if_pos hw]
      exact op_still hr1 hs.1 h fun v h => go e1 v hr1 he hd h
    · rw [if_neg (by rw [hw]; simp)]
      exact go e1 undef hr1 he hd h

theorem mem_iff (l : List Nat) (t : Nat) : mem l t = true ↔ t ∈ l := by
  induction l with
  | nil => simp [mem]
  | cons u l ih =>
    unfold mem
    cases hb : Nat.beq u t with
    | true => simp [Nat.eq_of_beq_eq_true hb]
    | false =>
      have hne : t ≠ u := fun h => by rw [h] at hb; simp at hb
      simp [ih, hne]

/-! ### A region in whatever order -/
section anyorder
variable {ops : Array Oper} {CL : Array Bool → World → Prop}

def Closed (ops : Array Oper) (listed : Array Bool) : Prop :=
  listed.size = ops.size ∧ ∀ j oj, ops[j]? = some oj → listed.getD j false = true → ∀ e ∈ oj.after, Region.binds .any e = true → listed.getD e.on false = true

theorem Closed.set {listed : Array Bool} (h : Closed ops listed) {i : Nat} (hi : i ∈ Region.ready .any ops listed) : Closed ops (listed.setIfInBounds i true) := by
  obtain ⟨_, oi, hoi, hall⟩ := mem_ready.1 hi
  refine ⟨by simp [h.1], fun j oj hj hl e he hb => ?_⟩
  by_cases hij : i = j
  · subst hij
    have : oj = oi := Option.some.inj (hj.symm.trans hoi)
    subst this
    exact getD_set_true (hall e he hb)
  · rw [getD_set_ne false hij] at hl
    exact getD_set_true (h.2 j oj hj hl e he hb)

/-- In this state the operation yields v, whenever it comes. -/
def Sure (P : Program) (ops : Array Oper) (CL : Array Bool → World → Prop) (o : Oper) (i : Nat) (v : Value) (a : Act) : Prop :=
  (Region.wanted o (Go.yielded ops a.tmps) = true ∧ ∀ listed w, Closed ops listed → i ∈ Region.ready .any ops listed → CL listed w →
    Yields P (execOp a.eval o) w fun u w' => u = v ∧ CL (listed.setIfInBounds i true) w') ∨
  (Region.wanted o (Go.yielded ops a.tmps) = false ∧ v = undef ∧ ∀ listed w, Closed ops listed → i ∈ Region.ready .any ops listed → CL listed w → CL (listed.setIfInBounds i true) w)

theorem Sure.of_same {o : Oper} {i : Nat} {v : Value} {a a' : Act} (h : Sure P ops CL o i v a) (he : execOp a'.eval o = execOp a.eval o) (hw : Region.wanted o (Go.yielded ops a'.tmps) = Region.wanted o (Go.yielded ops a.tmps)) :
    Sure P ops CL o i v a' := by
  unfold Sure at *
  rw [he, hw]
  exact h

def anyC (P : Program) (ops : Array Oper) (CL : Array Bool → World → Prop) (Q : Array Bool → Act → Prop) : Nat → Array Bool → Act → Prop
  | 0, listed, a => Region.ready .any ops listed = [] ∧ Q listed a
  | f + 1, listed, a => Region.ready .any ops listed ≠ [] ∧ ∀ i ∈ Region.ready .any ops listed, ∃ o v, ops[i]? = some o ∧ Sure P ops CL o i v a ∧ anyC P ops CL Q f (listed.setIfInBounds i true) (a.put o.dst v)

theorem anyC_sound {Q : Array Bool → Act → Prop} {Q' : Exit → Act → World → Prop} (hQ : ∀ listed a w, Q listed a → CL listed w → Q' .normal a w) : ∀ (f : Nat) (listed : Array Bool) (a : Act) (w : World),
    Closed ops listed → CL listed w → anyC P ops CL Q f listed a → wpAny P .any ops Q' f listed a w
  | 0, listed, a, w, _, hC, h => ⟨h.1, hQ _ _ _ h.2 hC⟩
  | f + 1, listed, a, w, hcl, hC, h => by
    refine ⟨fun h0 => absurd h0 h.1, fun i hi => ?_⟩
    obtain ⟨o, v, ho, hs, hn⟩ := h.2 i hi
    have rest : ∀ w', CL (listed.setIfInBounds i true) w' → wpAny P .any ops Q' f (listed.setIfInBounds i true) (a.put o.dst v) w' := fun w' hC' => anyC_sound hQ f _ _ w' (hcl.set hi) hC' hn
    unfold wpOp
    simp only [ho]
    rcases hs with ⟨hw, hy⟩ | ⟨hw, rfl, hy⟩
    · rw [if_pos hw]
      refine .inl ?_
      unfold Oper.wp
      rcases hy listed w hcl hi hC with ⟨u, w', hrun, rfl, hC'⟩ | ⟨w', hrun, rfl, hC'⟩ | ⟨g, args, hrun, hret⟩
      · rw [hrun]; exact rest w' hC'
      · rw [hrun]; exact rest w' hC'
      · rw [hrun]
        exact Calls.mono hret fun e w' ⟨u, he, hu, hC'⟩ => by subst he; subst hu; exact rest w' hC'
    · rw [if_neg (by rw [hw]; simp)]
      exact rest w (hy listed w hcl hi hC)

theorem anyC_mono {Q Q' : Array Bool → Act → Prop} (hq : ∀ l a, Q l a → Q' l a) : ∀ (f : Nat) (listed : Array Bool) (a : Act), anyC P ops CL Q f listed a → anyC P ops CL Q' f listed a
  | 0, _, _, h => ⟨h.1, hq _ _ h.2⟩
  | f + 1, _, _, h => ⟨h.1, fun i hi => let ⟨o, v, h1, h2, h3⟩ := h.2 i hi; ⟨o, v, h1, h2, anyC_mono hq f _ _ h3⟩⟩

theorem anyC_first {Q : Array Bool → Act → Prop} {i : Nat} {oi : Oper} {v : Value} (hi : ops[i]? = some oi) (hsel : ∀ (j : Nat) (o : Oper) cs b, ops[j]? = some o → o.op ≠ .select cs b) :
    ∀ (f : Nat) (listed : Array Bool) (a : Act),
      (∀ j oj, ops[j]? = some oj → j ≠ i → listed.getD j true = false → (∀ e ∈ oj.after, Region.binds .any e = true → e.on ≠ i) → oi.apart ops oj = true) →
      i ∈ Region.ready .any ops listed → Sure P ops CL oi i v a → anyC P ops CL Q f (listed.setIfInBounds i true) (a.put oi.dst v) → anyC P ops CL Q (f + 1) listed a := by
  intro f
  induction f with
  | zero =>
    intro listed a _ hr hy H
    refine ⟨fun h => (by rw [h] at hr; cases hr), fun j hj => ?_⟩
    by_cases hji : j = i
    · subst hji; exact ⟨oi, v, hi, hy, H⟩
    · have := ready_mono hj hji
      rw [H.1] at this
      cases this
  | succ f ih =>
    intro listed a hfree hr hy H
    refine ⟨fun h => (by rw [h] at hr; cases hr), fun j hj => ?_⟩
    by_cases hji : j = i
    · subst hji; exact ⟨oi, v, hi, hy, H⟩
    · obtain ⟨oj, u, hoj, hyj, Hj⟩ := H.2 j (ready_mono hj hji)
      obtain ⟨hjun, oj', hoj', hall⟩ := mem_ready.1 hj
      have : oj' = oj := Option.some.inj (hoj'.symm.trans hoj)
      subst this
      have hnot : ∀ e ∈ oj'.after, Region.binds .any e = true → e.on ≠ i := fun e he hb heq => by
        have h1 := hall e he hb
        have h0 := (mem_ready.1 hr).1
        rw [heq] at h1
        rcases Nat.lt_or_ge i listed.size with h' | h'
        · simp [h'] at h0 h1; rw [h0] at h1; cases h1
        · simp [Array.getElem?_eq_none h'] at h1
      have hap := hfree j oj' hoj hji hjun hnot
      obtain ⟨h1, h2, h3⟩ := Oper.apart_spec hap
      refine ⟨oj', u, hoj, hyj.of_same (execOp_put oj' (fun cs b => hsel j oj' cs b hoj) a oi.dst v h1).symm (wanted_put oj' a oi.dst v h1).symm, ?_⟩
      refine ih (listed.setIfInBounds j true) (a.put oj'.dst u) (fun k ok hk hki hun hno => ?_) (ready_mono hr (Ne.symm hji))
        (hy.of_same (execOp_put oi (fun cs b => hsel i oi cs b hi) a oj'.dst u h3) (wanted_put oi a oj'.dst u h3)) ?_
      · refine hfree k ok hk hki ?_ hno
        by_cases hjk : j = k
        · subst hjk; exact hjun
        · rw [getD_set_ne true hjk] at hun; exact hun
      · rw [Array.setIfInBounds_comm _ _ hji, ← Act.put_comm a v u h2]
        exact Hj

theorem anc_listed {listed : Array Bool} (hcl : Closed ops listed) : ∀ (f i : Nat), (∀ o, ops[i]? = some o → ∀ e ∈ o.after, Region.binds .any e = true → listed.getD e.on false = true) → ∀ j ∈ anc ops f i, listed.getD j false = true
  | 0, _, _, j, hj => by simp [anc] at hj
  | f + 1, i, hi, j, hj => by
    unfold anc at hj
    cases ho : ops[i]? with
    | none => simp [ho] at hj
    | some o =>
      simp only [ho, List.mem_flatMap] at hj
      obtain ⟨e, he, hj⟩ := hj
      cases hb : Region.binds .any e with
      | false => simp [hb] at hj
      | true =>
        have hl := hi o ho e (Array.mem_toList_iff.1 he) hb
        simp only [hb, List.mem_cons] at hj
        rcases hj with rfl | hj
        · exact hl
        · exact anc_listed hcl f e.on (fun o' ho' e' he' hb' => hcl.2 e.on o' ho' hl e' he' hb') j hj

def mask (loud : List (Nat × Rk)) (listed : Array Bool) : Nat → Bool := fun j => mem (loud.map (·.1)) j && listed.getD j false

theorem loudOf_mem {loud : List (Nat × Rk)} {k : Nat} : (loudOf loud k).isSome = mem (loud.map (·.1)) k := by
  induction loud with
  | nil => rfl
  | cons x l ih =>
    obtain ⟨j, r⟩ := x
    simp only [loudOf, List.map_cons, mem]
    cases hb : Nat.beq j k with
    | true => rfl
    | false => exact ih

theorem mask_loud {loud : List (Nat × Rk)} {listed : Array Bool} {i : Nat} (hm : mem (loud.map (·.1)) i = true) (hi : i < listed.size) : mask loud (listed.setIfInBounds i true) = upd (mask loud listed) i := by
  funext j
  unfold mask upd
  cases hb : Nat.beq j i with
  | true =>
    have := Nat.eq_of_beq_eq_true hb
    subst this
    simp [hm, hi]
  | false =>
    have hne : i ≠ j := fun e => by subst e; simp at hb
    simp only [getD_set_ne false hne]

theorem mask_pure {loud : List (Nat × Rk)} {listed : Array Bool} {i : Nat} (hm : mem (loud.map (·.1)) i = false) : mask loud (listed.setIfInBounds i true) = mask loud listed := by
  funext j
  unfold mask
  by_cases hij : i = j
  · subst hij; simp [hm]
  · rw [getD_set_ne false hij]

theorem ready_lt {listed : Array Bool} {i : Nat} (h : i ∈ Region.ready .any ops listed) : i < ops.size ∧ listed.getD i true = false := by
  obtain ⟨h1, o, h2, _⟩ := mem_ready.1 h
  exact ⟨(Array.getElem?_eq_some_iff.1 h2).1, h1⟩

theorem getD_tf {listed : Array Bool} {i : Nat} (h : listed.getD i true = false) : listed.getD i false = false := by
  rcases Nat.lt_or_ge i listed.size with h' | h'
  · simp [h'] at h ⊢; exact h
  · simp [Array.getElem?_eq_none h'] at h

/-- What the condition says of one operation. -/
theorem anyOne_ok {n : Nat} {loud : List (Nat × Rk)} {C : (Nat → Bool) → World → Prop} {o : Oper} {k : Nat} {e : Env} {a : Act} {w : World} {next : Value → Prop} (hr : Rep n e a)
    (hwt : Region.wanted o (Go.yielded ops a.tmps) = true) (h : vcAnyOne P ops loud C o k e w next) :
    ∃ v, Sure P ops (fun l w => C (mask loud l) w) o k v a ∧ next v := by
  unfold vcAnyOne at h
  have hm := loudOf_mem (loud := loud) (k := k)
  split at h
  case h_1 r hl =>
    rw [hl] at hm
    obtain ⟨x, hx, hn⟩ := h.out
    refine ⟨_, .inl ⟨hwt, fun listed w' hcl hi hC => ?_⟩, hn⟩
    obtain ⟨hlt, hun⟩ := ready_lt hi
    have hD : mask loud listed k = false := by unfold mask; rw [getD_tf hun]; simp
    have hpr : ∀ j, j ∈ priors ops loud k → mask loud listed j = true := fun j hj => by
      unfold priors at hj
      rw [List.mem_filter] at hj
      obtain ⟨_, oi, hoi, hall⟩ := mem_ready.1 hi
      have := anc_listed hcl ops.size k (fun o' ho' e' he' hb' => by
        have : o' = oi := Option.some.inj (ho'.symm.trans hoi)
        subst this
        exact hall e' he' hb') j ((mem_iff _ _).1 hj.2)
      unfold mask
      rw [this, (mem_iff _ _).2 hj.1]; rfl
    have hy := vcOp_run (hx (mask loud listed) w' hD hpr hC)
    rw [hr.eval]
    rw [← mask_loud hm.symm (by rw [hcl.1]; exact hlt)] at hy
    exact hy
  case h_2 hl =>
    rw [hl] at hm
    split at h
    case h_1 hp =>
      obtain ⟨v, hv, hn⟩ := vcOp_pure hp h
      refine ⟨v, .inl ⟨hwt, fun listed w' _ _ hC => .inl ⟨v, w', by rw [hr.eval]; exact hv w', rfl, ?_⟩⟩, hn⟩
      show C (mask loud (listed.setIfInBounds k true)) w'
      rw [mask_pure hm.symm]; exact hC
    case h_2 => cases h

theorem anyC_lex {n : Nat} {loud : List (Nat × Rk)} {C : (Nat → Bool) → World → Prop} {w : World} {K : Env → Prop} (hsel : Region.noSelect ops = true) :
    ∀ (l : List Oper) (k : Nat) (listed : Array Bool) (e : Env) (a : Act), (∀ j, l[j]? = ops[k + j]?) → listed.size = ops.size → (∀ j, j < k → listed.getD j false = true) → Region.lexFrom .any ops l.length k listed = true → Rep n e a →
      vcAny P n ops loud C w l k e K →
      anyC P ops (fun l w => C (mask loud l) w) (fun listed' a' => (∀ j, j < ops.size → listed'.getD j false = true) ∧ ∃ e', Rep n e' a' ∧ K e' ∧ ∀ t, t ∉ dstsL l → e'.get t = e.get t) l.length listed a
  | [], k, listed, e, a, hl, hsz, hfull, hB, hr, h => by
    have hk : ops.size ≤ k := by
      have h0 := hl 0
      simp at h0
      exact h0
    exact ⟨by simpa [Region.lexFrom] using hB, fun j hj => hfull j (by omega), e, hr, h, fun _ _ => rfl⟩
  | o :: l, k, listed, e, a, hl, hsz, hfull, hB, hr, h => by
    have h0 : ops[k]? = some o := by simpa using (hl 0).symm
    have hklt : k < ops.size := (Array.getElem?_eq_some_iff.1 h0).1
    simp only [List.length_cons, Region.lexFrom, Bool.and_eq_true] at hB
    obtain ⟨⟨hrd, hf⟩, hB'⟩ := hB
    have hrd' : k ∈ Region.ready .any ops listed := by simpa using hrd
    have fin : ∀ e1 v, Rep n e1 a → (∀ t, e1.get t = e.get t) → okDst n o.dst = true → Sure P ops (fun l w => C (mask loud l) w) o k v a → vcAny P n ops loud C w l (k + 1) (e1.put o.dst v) K →
        anyC P ops (fun l w => C (mask loud l) w) (fun listed' a' => (∀ j, j < ops.size → listed'.getD j false = true) ∧ ∃ e', Rep n e' a' ∧ K e' ∧ ∀ t, t ∉ dstsL (o :: l) → e'.get t = e.get t) (l.length + 1) listed a := fun e1 v hr1 he hd hs h => by
      refine anyC_first h0 (Region.noSelect_spec hsel) l.length listed a (Region.free_spec h0 hf) hrd' hs ?_
      have := anyC_lex hsel l (k + 1) (listed.setIfInBounds k true) (e1.put o.dst v) (a.put o.dst v) (fun j => by have := hl (j + 1); simpa [Nat.add_assoc, Nat.add_comm 1 j] using this) (by simp [hsz])
        (fun j hj => by
          by_cases hjk : k = j
          · subst hjk; simp [hsz, hklt]
          · rw [getD_set_ne false hjk]; exact hfull j (by omega)) hB' (hr1.put o.dst hd v) h
      refine anyC_mono ?_ _ _ _ this
      rintro listed' a' ⟨q1, e', q2, q3, q4⟩
      exact ⟨q1, e', q2, q3, fun t ht => by
        obtain ⟨ht1, ht2⟩ := not_dst ht
        rw [q4 t ht2, get_put_dst _ _ _ ht1, he t]⟩
    show anyC P ops _ _ (l.length + 1) listed a
    generalize anyC P ops (fun l w => C (mask loud l) w) (fun listed' a' => (∀ j, j < ops.size → listed'.getD j false = true) ∧ ∃ e', Rep n e' a' ∧ K e' ∧ ∀ t, t ∉ dstsL (o :: l) → e'.get t = e.get t) (l.length + 1) listed a = G at fin ⊢
    have one : ∀ e1, Rep n e1 a → (∀ t, e1.get t = e.get t) → okDst n o.dst = true → Region.wanted o (Go.yielded ops a.tmps) = true → vcAnyOne P ops loud C o k e1 w (fun v => vcAny P n ops loud C w l (k + 1) (e1.put o.dst v) K) → G := fun e1 hr1 he hd hw h => by
      obtain ⟨v, hs, hn⟩ := anyOne_ok hr1 hw h
      exact fin e1 v hr1 he hd hs hn
    have skip : ∀ e1, Rep n e1 a → (∀ t, e1.get t = e.get t) → okDst n o.dst = true → Region.wanted o (Go.yielded ops a.tmps) = false →
        (match loudOf loud k with | some _ => SkipK C k (vcAny P n ops loud C w l (k + 1) (e1.put o.dst undef) K) | none => vcAny P n ops loud C w l (k + 1) (e1.put o.dst undef) K) → G := fun e1 hr1 he hd hw h => by
      have hm := loudOf_mem (loud := loud) (k := k)
      split at h
      case h_1 r hlo =>
        rw [hlo] at hm
        refine fin e1 undef hr1 he hd (.inr ⟨hw, rfl, fun listed w' hcl hi hC => ?_⟩) h.out.2
        show C (mask loud (listed.setIfInBounds k true)) w'
        rw [mask_loud hm.symm (by rw [hcl.1]; exact (ready_lt hi).1)]
        exact h.out.1 _ _ hC
      case h_2 hlo =>
        rw [hlo] at hm
        refine fin e1 undef hr1 he hd (.inr ⟨hw, rfl, fun listed w' hcl hi hC => ?_⟩) h
        show C (mask loud (listed.setIfInBounds k true)) w'
        rw [mask_pure hm.symm]; exact hC
    unfold vcAny at h
    split at h
    case h_1 => cases h
    case h_2 hd =>
      split at h
      case h_1 hg => exact one e hr (fun _ => rfl) hd (by simp [Region.wanted, hg]) h
      case h_2 j want hg =>
        have hy := hr.yielded ops j
        split at h
        case h_1 => cases h
        case h_2 d hdst =>
          simp only [hdst] at hy
          split at h
          case h_1 b hb =>
            simp only [hb] at hy
            split at h
            all_goals
              obtain ⟨h1, h2⟩ := ifB_ok h
              cases b
              · first
                  | exact skip _ (hr.lit hb) (get_lit hb) hd (by simp [Region.wanted, hg, hy]) (h2 rfl)
                  | exact one _ (hr.lit hb) (get_lit hb) hd (by simp [Region.wanted, hg, hy]) (h2 rfl)
              · first
                  | exact skip _ (hr.lit hb) (get_lit hb) hd (by simp [Region.wanted, hg, hy]) (h1 rfl)
                  | exact one _ (hr.lit hb) (get_lit hb) hd (by simp [Region.wanted, hg, hy]) (h1 rfl)
          case h_2 hb =>
            simp only [hb] at hy
            exact skip e hr (fun _ => rfl) hd (by simp [Region.wanted, hg, hy]) h
          case h_3 => cases h

/-! ### A region whose reads may come whenever -/
theorem add_block (p : Addr) (i : Nat) : (p.add i).block = p.block := by unfold Addr.add; split <;> rfl
theorem cellsAt_kept {S : Nat → Prop} {w0 w : World} (h : Kept S w0 w) {p : Addr} (hp : S p.block) : ∀ (vs : List Value) (i : Nat), CellsAt w0 p i vs → CellsAt w p i vs
  | [], _, _ => trivial
  | _ :: vs, i, ⟨h1, h2⟩ => ⟨h _ _ (by rw [add_block]; exact hp) h1, cellsAt_kept h hp vs (i + 1) h2⟩

theorem loadVar_kept {S : Nat → Prop} {t : TypeId} {p : Addr} (hp : S p.block) {w0 : World} {K : Value → Prop} (h : vcLoad P t p w0 fun v _ => K v) : ∃ v, (∀ w, Kept S w0 w → (loadVar t p).run P w = .ok v w) ∧ K v := by
  unfold vcLoad at h
  split at h
  case h_1 fs i hu hi =>
    split at h
    case h_1 cs hz =>
      split at h
      case h_1 hb =>
        obtain ⟨x, hx, hK⟩ := h.out
        refine ⟨_, fun w hw => ?_, hK⟩
        have hs := Nat.eq_of_beq_eq_true hb
        simp only [loadVar, Sem.run_bind, isagg hu, aggB, Result.andThen_ok, if_true, sizeof hi]
        rw [hs, ← Cs.vals_length _ x, loadCells_ok _ (cellsAt_kept hw hp _ _ hx)]
        rfl
      case h_2 => cases h
    case h_2 => cases h
  case h_2 hu hi =>
    obtain ⟨x, hn, hx, hK⟩ := h.out
    refine ⟨_, fun w hw => ?_, hK⟩
    simp only [loadVar, Sem.run_bind, isagg hu, aggB, Result.andThen_ok, if_true, sizeof hi]
    rw [← hn, loadCells_ok _ (cellsAt_kept hw hp _ _ hx)]
    rfl
  case h_3 d i hs ha hu hi =>
    split at h
    case h_1 c hk =>
      obtain ⟨x, hx, hK⟩ := h.out
      refine ⟨_, fun w hw => ?_, hK⟩
      have hf : aggB d = false := by
        cases d <;> first | rfl | exact (hs _ rfl).elim | exact (ha _ _ rfl).elim
      simp only [loadVar, Sem.run_bind, isagg hu, hf, Result.andThen_ok, Bool.false_eq_true, if_false]
      exact load_ok (hw _ _ hp hx)
    case h_2 => cases h
  case h_4 => cases h

theorem vcSoft_ok {n : Nat} {o : Oper} {e : Env} {a : Act} {S : Nat → Prop} {w0 : World} {K : Value → Prop} (hr : Rep n e a) (h : vcSoft P o e S w0 K) : ∃ v, (∀ w, Kept S w0 w → (execOp a.eval o).run P w = .ok (.value v) w) ∧ K v := by
  rw [hr.eval]
  unfold vcSoft at h
  split at h
  case h_1 t x ho =>
    split at h
    case h_1 q ea =>
      obtain ⟨p, rfl, h⟩ := optA_ok h
      obtain ⟨v, hv, hK⟩ := loadVar_kept h.out.1 h.out.2
      refine ⟨v, fun w hw => ?_, hK⟩
      simp only [execOp, ho, ea, Instr.loadAt, Instr.sureAddr, Sem.run_bind, Sem.run_pure, Result.andThen_ok, hv w hw]
    case h_2 => cases h
  case h_2 =>
    split at h
    case h_1 hp =>
      obtain ⟨v, hv, hK⟩ := vcOp_pure hp h
      exact ⟨v, fun w _ => hv w, hK⟩
    case h_2 => cases h

theorem Yields.mono {s : Sem Next} {w : World} {K K' : Value → World → Prop} (h : Yields P s w K) (hk : ∀ v w', K v w' → K' v w') : Yields P s w K' := by
  rcases h with ⟨v, w', a, b⟩ | ⟨w', a, b⟩ | ⟨f, args, a, b⟩
  · exact .inl ⟨v, w', a, hk _ _ b⟩
  · exact .inr (.inl ⟨w', a, hk _ _ b⟩)
  · exact .inr (.inr ⟨f, args, a, Calls.mono b fun e w' ⟨v, he, hv⟩ => ⟨v, he, hk _ _ hv⟩⟩)

theorem Kept.refl (S : Nat → Prop) (w : World) : Kept S w w := fun _ _ _ h => h
theorem Kept.trans {S : Nat → Prop} {a b c : World} (h : Kept S a b) (k : Kept S b c) : Kept S a c := fun x v hs hx => k x v hs (h x v hs hx)

def wpK (P : Program) (ops : Array Oper) (S : Nat → Prop) (Q : Act → World → Prop) : Nat → Array Bool → Act → World → Prop
  | 0, listed, a, w => Region.ready .any ops listed = [] ∧ Q a w
  | f + 1, listed, a, w => Region.ready .any ops listed ≠ [] ∧ ∀ i ∈ Region.ready .any ops listed, ∃ o, ops[i]? = some o ∧ o.guard = none ∧
      Yields P (execOp a.eval o) w fun v w' => Kept S w w' ∧ wpK P ops S Q f (listed.setIfInBounds i true) (a.put o.dst v) w'

theorem wpK_any {S : Nat → Prop} {Q : Act → World → Prop} {Q' : Exit → Act → World → Prop} (hQ : ∀ a w, Q a w → Q' .normal a w) : ∀ (f : Nat) (listed : Array Bool) (a : Act) (w : World), wpK P ops S Q f listed a w → wpAny P .any ops Q' f listed a w
  | 0, listed, a, w, h => ⟨h.1, hQ _ _ h.2⟩
  | f + 1, listed, a, w, h => by
    refine ⟨fun h0 => absurd h0 h.1, fun i hi => ?_⟩
    obtain ⟨o, ho, hg, hy⟩ := h.2 i hi
    unfold wpOp
    simp only [ho]
    rw [if_pos (by simp [Region.wanted, hg])]
    refine .inl ?_
    unfold Oper.wp
    rcases hy with ⟨u, w', hrun, _, hn⟩ | ⟨w', hrun, _, hn⟩ | ⟨g, args, hrun, hret⟩
    · rw [hrun]; exact wpK_any hQ f _ _ _ hn
    · rw [hrun]; exact wpK_any hQ f _ _ _ hn
    · rw [hrun]
      exact Calls.mono hret fun e w' ⟨u, he, _, hn⟩ => by subst he; exact wpK_any hQ f _ _ _ hn

theorem wpK_mono {S : Nat → Prop} {Q Q' : Act → World → Prop} (hQ : ∀ a w, Q a w → Q' a w) : ∀ (f : Nat) (listed : Array Bool) (a : Act) (w : World), wpK P ops S Q f listed a w → wpK P ops S Q' f listed a w
  | 0, _, _, _, h => ⟨h.1, hQ _ _ h.2⟩
  | f + 1, _, _, _, h => ⟨h.1, fun i hi => let ⟨o, h1, h2, h3⟩ := h.2 i hi; ⟨o, h1, h2, h3.mono fun _ _ ⟨hk, hn⟩ => ⟨hk, wpK_mono hQ f _ _ _ hn⟩⟩⟩

theorem wpK_first {S : Nat → Prop} {Q : Act → World → Prop} {i : Nat} {oi : Oper} {v : Value} (hi : ops[i]? = some oi) (hg : oi.guard = none) (hsel : ∀ (j : Nat) (o : Oper) cs b, ops[j]? = some o → o.op ≠ .select cs b) :
    ∀ (f : Nat) (listed : Array Bool) (a : Act) (w : World),
      (∀ j oj, ops[j]? = some oj → j ≠ i → listed.getD j true = false → (∀ e ∈ oj.after, Region.binds .any e = true → e.on ≠ i) → oi.apart ops oj = true) →
      i ∈ Region.ready .any ops listed → (∀ W, Kept S w W → (execOp a.eval oi).run P W = .ok (.value v) W) → wpK P ops S Q f (listed.setIfInBounds i true) (a.put oi.dst v) w → wpK P ops S Q (f + 1) listed a w := by
  intro f
  induction f with
  | zero =>
    intro listed a w _ hr hy H
    refine ⟨fun h => (by rw [h] at hr; cases hr), fun j hj => ?_⟩
    by_cases hji : j = i
    · subst hji; exact ⟨oi, hi, hg, .inl ⟨v, w, hy w (Kept.refl S w), Kept.refl S w, H⟩⟩
    · have := ready_mono hj hji
      rw [H.1] at this
      cases this
  | succ f ih =>
    intro listed a w hfree hr hy H
    refine ⟨fun h => (by rw [h] at hr; cases hr), fun j hj => ?_⟩
    by_cases hji : j = i
    · subst hji; exact ⟨oi, hi, hg, .inl ⟨v, w, hy w (Kept.refl S w), Kept.refl S w, H⟩⟩
    · obtain ⟨oj, hoj, hgj, hyj⟩ := H.2 j (ready_mono hj hji)
      obtain ⟨hjun, oj', hoj', hall⟩ := mem_ready.1 hj
      have : oj' = oj := Option.some.inj (hoj'.symm.trans hoj)
      subst this
      have hnot : ∀ e ∈ oj'.after, Region.binds .any e = true → e.on ≠ i := fun e he hb heq => by
        have h1 := hall e he hb
        have h0 := (mem_ready.1 hr).1
        rw [heq] at h1
        rcases Nat.lt_or_ge i listed.size with h' | h'
        · simp [h'] at h0 h1; rw [h0] at h1; cases h1
        · simp [Array.getElem?_eq_none h'] at h1
      have hap := hfree j oj' hoj hji hjun hnot
      obtain ⟨h1, h2, h3⟩ := Oper.apart_spec hap
      rw [execOp_put oj' (fun cs b => hsel j oj' cs b hoj) a oi.dst v h1] at hyj
      refine ⟨oj', hoj, hgj, hyj.mono fun u w' ⟨hk', hn⟩ => ⟨hk', ?_⟩⟩
      refine ih (listed.setIfInBounds j true) (a.put oj'.dst u) w' (fun k ok hk hki hun hno => ?_) (ready_mono hr (Ne.symm hji))
        (fun W hW => by rw [execOp_put oi (fun cs b => hsel i oi cs b hi) a oj'.dst u h3]; exact hy W (hk'.trans hW)) ?_
      · refine hfree k ok hk hki ?_ hno
        by_cases hjk : j = k
        · subst hjk; exact hjun
        · rw [getD_set_ne true hjk] at hun; exact hun
      · rw [Array.setIfInBounds_comm _ _ hji, ← Act.put_comm a v u h2]
        exact hn

/-- What is left of a region meets its condition. -/
def HQ (n : Nat) (ops : Array Oper) (e : Env) (K : Env → World → Prop) : Act → World → Prop := fun a' w' => ∃ e', Rep n e' a' ∧ K e' w' ∧ ∀ t, t ∉ dstsL ops.toList → e'.get t = e.get t

theorem HQ.put {n : Nat} {ops : Array Oper} {e : Env} {K : Env → World → Prop} {i : Nat} {o : Oper} (ho : ops[i]? = some o) (v : Value) {a : Act} {w : World} (h : HQ n ops (e.put o.dst v) K a w) : HQ n ops e K a w := by
  obtain ⟨e2, q1, q2, q3⟩ := h
  refine ⟨e2, q1, q2, fun t ht => ?_⟩
  rw [q3 t ht, get_put_dst _ _ _ (fun hm => ht (by
    unfold dstsL
    refine List.mem_filterMap.2 ⟨o, ?_, by simpa using hm⟩
    exact Array.mem_toList_iff.2 (Array.mem_of_getElem? ho)))]

theorem vcHeld_sound {n : Nat} {S : Nat → Prop} {K : Env → World → Prop} (hsel : Region.noSelect ops = true) : ∀ (h : Hp),
    (∀ (k : Nat) (listed : Array Bool) (e : Env) (a : Act) (w : World), Rep n e a → vcHeld P n ops S h k [] listed e w K → wpK P ops S (HQ n ops e K) k listed a w) ∧
    ∀ (i : Nat) (h1 m : Hp), h = .pick i h1 m → ∀ (k : Nat) (seen : List Nat) (listed : Array Bool) (e : Env) (a : Act) (w : World), Rep n e a → vcHeld P n ops S h k seen listed e w K →
      ∃ k', k = k' + 1 ∧ Region.ready .any ops listed ≠ [] ∧ ∀ j ∈ Region.ready .any ops listed, j ∉ seen → ∃ o, ops[j]? = some o ∧ o.guard = none ∧
        Yields P (execOp a.eval o) w fun v w' => Kept S w w' ∧ wpK P ops S (HQ n ops e K) k' (listed.setIfInBounds j true) (a.put o.dst v) w' := by
  intro h
  induction h with
  | done =>
    refine ⟨fun k listed e a w hr h => ?_, fun i h1 m he => by cases he⟩
    unfold vcHeld at h
    split at h
    case h_1 hb =>
      simp only [Bool.and_eq_true] at hb
      have hk0 := Nat.eq_of_beq_eq_true hb.1
      subst hk0
      exact ⟨by simpa using hb.2, e, hr, h, fun _ _ => rfl⟩
    case h_2 => cases h
  | stop => exact ⟨fun k listed e a w hr h => (by unfold vcHeld at h; cases h), fun i h1 m he => by cases he⟩
  | soft i h' ih =>
    refine ⟨fun k listed e a w hr h => ?_, fun i h1 m he => by cases he⟩
    unfold vcHeld at h
    split at h
    case h_1 k o ho =>
      split at h
      case h_1 => cases h
      case h_2 hb =>
        simp only [Bool.and_eq_true, Option.isNone_iff_eq_none] at hb
        obtain ⟨⟨⟨hd, hg⟩, hc⟩, hf⟩ := hb
        obtain ⟨v, hv, hn⟩ := vcSoft_ok hr h
        exact wpK_first ho hg (Region.noSelect_spec hsel) k listed a w (Region.free_spec ho hf) (by simpa using hc) hv
          (wpK_mono (fun a w h => HQ.put ho v h) _ _ _ _ (ih.1 k _ _ _ w (hr.put o.dst hd v) hn))
    case h_2 => cases h
  | pick i h' m ih ihm =>
    have P2 : ∀ (k : Nat) (seen : List Nat) (listed : Array Bool) (e : Env) (a : Act) (w : World), Rep n e a → vcHeld P n ops S (.pick i h' m) k seen listed e w K →
        ∃ k', k = k' + 1 ∧ Region.ready .any ops listed ≠ [] ∧ ∀ j ∈ Region.ready .any ops listed, j ∉ seen → ∃ o, ops[j]? = some o ∧ o.guard = none ∧
          Yields P (execOp a.eval o) w fun v w' => Kept S w w' ∧ wpK P ops S (HQ n ops e K) k' (listed.setIfInBounds j true) (a.put o.dst v) w' := by
      intro k seen listed e a w hr h
      have one : ∀ (k : Nat) (o : Oper), ops[i]? = some o → okDst n o.dst = true → (vcOp P o e w fun v w' => KeepK S w w' (vcHeld P n ops S h' k [] (listed.setIfInBounds i true) (e.put o.dst v) w' K)) →
          Yields P (execOp a.eval o) w fun v w' => Kept S w w' ∧ wpK P ops S (HQ n ops e K) k (listed.setIfInBounds i true) (a.put o.dst v) w' := fun k o ho hd h => by
        rw [hr.eval]
        exact (vcOp_run h).mono fun v w' hh => ⟨hh.out.1, wpK_mono (fun a w h => HQ.put ho v h) _ _ _ _ (ih.1 k _ _ _ w' (hr.put o.dst hd v) hh.out.2)⟩
      cases m with
      | stop =>
        unfold vcHeld at h
        split at h
        case h_1 k o ho =>
          split at h
          case h_1 hb =>
            simp only [Bool.and_eq_true, Option.isNone_iff_eq_none, List.all_eq_true] at hb
            obtain ⟨⟨⟨hd, hg⟩, hc⟩, hall⟩ := hb
            have hin : i ∈ Region.ready .any ops listed := by simpa using hc
            refine ⟨k, rfl, fun h0 => (by rw [h0] at hin; cases hin), fun j hj hns => ?_⟩
            have hm := (mem_iff _ _).1 (hall j hj)
            rcases List.mem_cons.1 hm with rfl | hm
            · exact ⟨o, ho, hg, one k o ho hd h⟩
            · exact absurd hm hns
          case h_2 => cases h
        case h_2 => cases h
      | pick i2 h2 m2 =>
        unfold vcHeld at h
        split at h
        case h_1 k o ho =>
          split at h
          case h_1 => cases h
          case h_2 hb =>
            simp only [Bool.and_eq_true, Option.isNone_iff_eq_none] at hb
            obtain ⟨k', hk', hne, hall⟩ := ihm.2 i2 h2 m2 rfl (k + 1) (i :: seen) listed e a w hr h.out.2
            have : k' = k := by omega
            subst this
            refine ⟨k', rfl, hne, fun j hj hns => ?_⟩
            by_cases hji : j = i
            · subst hji; exact ⟨o, ho, hb.2, one k' o ho hb.1 h.out.1⟩
            · exact hall j hj (by simp [hji, hns])
        case h_2 => cases h
      | done => unfold vcHeld at h; cases h
      | soft i2 h2 => unfold vcHeld at h; cases h
    refine ⟨fun k listed e a w hr h => ?_, fun i1 h1 m1 he => ?_⟩
    · obtain ⟨k', rfl, hne, hall⟩ := P2 k [] listed e a w hr h
      exact ⟨hne, fun j hj => hall j hj (by simp)⟩
    · cases he
      exact P2
end anyorder

theorem look_strike (ds : List Nat) (l : List (Nat × Value)) (t : Nat) : look (strike ds l) t = if t ∈ ds then none else look l t := by
  induction l with
  | nil => simp [strike, look]
  | cons x l ih =>
    obtain ⟨u, v⟩ := x
    unfold strike
    cases hm : mem ds u with
    | true =>
      simp only []
      rw [ih, look_cons]
      by_cases h : t ∈ ds
      · simp [h]
      · have hne : t ≠ u := fun e => h (e ▸ (mem_iff ds u).1 hm)
        simp [h, hne]
    | false =>
      simp only []
      rw [look_cons, look_cons, ih]
      by_cases h : t = u
      · have hne : t ∉ ds := fun hh => by rw [h, ← mem_iff, hm] at hh; cases hh
        subst h
        simp [hne]
      · simp [h]

/-- The frame at a loop's head, or where ways meet: the named slots by their values, the others that were not written as they were. -/
theorem rep_head {n : Nat} {e : Env} {a : Act} {ds : List Nat} (hsz : a.tmps.size = n) (hdf : a.defers = []) (hkeep : ∀ t, t ∉ ds → a.tmps.getD t undef = e.get t) :
    ∀ (ks : List (Nat × Kd)) (s : St (ks.map (·.2))), ks.map (fun x => a.tmps.getD x.1 undef) = St.vals (ks.map (·.2)) s →
      Rep n ⟨bindS ks s (strike ds e.l), fun t => a.tmps.getD t undef⟩ a := by
  intro ks s hs
  refine ⟨hsz, hdf, fun t => ?_⟩
  have key : ∀ (ks : List (Nat × Kd)) (s : St (ks.map (·.2))), ks.map (fun x => a.tmps.getD x.1 undef) = St.vals (ks.map (·.2)) s →
      a.tmps.getD t undef = Env.get ⟨bindS ks s (strike ds e.l), fun t => a.tmps.getD t undef⟩ t := by
    intro ks
    induction ks with
    | nil =>
      intro s _
      show _ = (match look (strike ds e.l) t with | some v => v | none => a.tmps.getD t undef)
      rw [look_strike]
      by_cases h : t ∈ ds
      · simp [h]
      · simp only [h, if_false]
        have hk := hkeep t h
        unfold Env.get at hk
        cases hl : look e.l t with
        | none => simp
        | some v => rw [hl] at hk; simp [hk]
    | cons x ks ih =>
      obtain ⟨u, k⟩ := x
      intro s hs
      have hs' : a.tmps.getD u undef :: ks.map (fun x => a.tmps.getD x.1 undef) = k.val s.1 :: St.vals (ks.map (·.2)) s.2 := hs
      injection hs' with hs1 hs2
      have hi := ih s.2 hs2
      show _ = (match look ((u, k.val s.1) :: bindS ks s.2 (strike ds e.l)) t with | some v => v | none => a.tmps.getD t undef)
      rw [look_cons]
      by_cases h : t = u
      · subst h; simp only [if_true]; exact hs1
      · simp only [h, if_false]; exact hi
  exact key ks s hs

theorem slots_rep {n : Nat} {e : Env} {a : Act} (hr : Rep n e a) (ks : List (Nat × Kd)) : ks.map (fun x => a.tmps.getD x.1 undef) = slots e ks := by
  unfold slots
  exact List.map_congr_left fun x _ => hr.get x.1

/-- The condition of a piece of code is sound. -/
theorem vcCode_sound {n : Nat} (hm : P.follows .mixedOrders = true) : ∀ (c : Code) (p : Plan) (e : Env) (a : Act) (w : World) (Q : Exit → Env → World → Prop), Rep n e a → vcCode P n c p e w Q →
    c.wp P (fun x a' w' => ∃ e', Rep n e' a' ∧ Q x e' w' ∧ ∀ t, t ∉ dsts c → e'.get t = e.get t) a w := by
  intro c
  induction c with
  | skip => intro p e a w Q hr h; exact wp_skip ⟨e, hr, h, fun _ _ => rfl⟩
  | exit id => intro p e a w Q hr h; exact wp_exit ⟨e, hr, h, fun _ _ => rfl⟩
  | ret => intro p e a w Q hr h; exact wp_ret ⟨e, hr, h, fun _ _ => rfl⟩
  | region id ops draw =>
    intro p e a w Q hr h
    unfold vcCode at h
    split at h
    case h_1 =>
      refine wp_region ?_
      have hl := wpOps_eq_wpList (P := P) (ops := ops) (Q := fun x a' w' => ∃ e', Rep n e' a' ∧ Q x e' w' ∧ ∀ t, t ∉ dsts (.region id ops false) → e'.get t = e.get t) ops.toList 0 (by simp)
      rw [show List.range ops.size = List.range' 0 ops.toList.length by simp [List.range_eq_range']]
      rw [hl]
      exact vcOps_sound ops.toList e a w (Q .normal) hr h fun e' a' w' h1 h2 h3 => ⟨e', h1, h3, h2⟩
    case h_2 =>
      split at h
      case h_1 =>
        split at h
        case h_1 hb =>
          simp only [Bool.and_eq_true] at hb
          refine wp_region_still hm hb.1 ?_
          refine vcOps_still [] ops.toList e a _ (Q .normal) hb.2 ⟨hr.size, hr.defers, hr.get⟩ (by simpa using h.out) fun e' a' h1 h2 h3 => ⟨e', h1, h3, h2⟩
        case h_2 => cases h
      case h_2 k =>
        split at h
        case h_1 hb =>
          simp only [Bool.and_eq_true] at hb
          have hw := wp_region_still_tail (P := P) (id := id) (Q := fun x a' w' => ∃ e', Rep n e' a' ∧ Q x e' w' ∧ ∀ t, t ∉ dsts (.region id ops true) → e'.get t = e.get t) (a := a) (w := w) (l := ops.toList) k hm (by simpa using hb.1)
          have e1 : ops.toList.toArray = ops := by simp
          rw [e1] at hw
          refine hw ?_
          refine vcOps_still (ops.toList.drop k) (ops.toList.take k) e a _ (Q .normal) hb.2 hr (by rw [List.take_append_drop]; exact h.out) fun e' a' h1 h2 h3 => ?_
          refine vcOps_sound _ e' a' _ (Q .normal) h1 h3 fun e2 a2 w2 k1 k2 k3 => ⟨e2, k1, k3, fun t ht => ?_⟩
          have hin : ∀ l : List Oper, (∀ o ∈ l, o ∈ ops.toList) → t ∉ dstsL l := fun l hl hmem => ht (by
            unfold dstsL at hmem
            obtain ⟨o, ho, hd⟩ := List.mem_filterMap.1 hmem
            exact List.mem_filterMap.2 ⟨o, hl o ho, hd⟩)
          rw [k2 t (hin _ fun o ho => List.mem_of_mem_drop ho), h2 t (hin _ fun o ho => List.mem_of_mem_take ho)]
        case h_2 => cases h
      case h_3 loud =>
        split at h
        case h_1 hb =>
          simp only [Region.lexB, Bool.and_eq_true] at hb
          obtain ⟨hb, hbl⟩ := hb
          obtain ⟨C, hC, h⟩ := h.out
          have hL := anyC_lex hb.1 ops.toList 0 (Array.replicate ops.size false) e a (by simp) (by simp) (fun j hj => by omega) (by simpa using hb.2) hr h
          have hfalse : ∀ j, (Array.replicate ops.size false).getD j false = false := fun j => by
            rcases Nat.lt_or_ge j ops.size with h | h <;> simp [h]
          have hcl : Closed ops (Array.replicate ops.size false) := ⟨by simp, fun j oj _ hl => by rw [hfalse] at hl; cases hl⟩
          have hm0 : mask loud (Array.replicate ops.size false) = fun _ => false := by
            funext j
            unfold mask
            rw [hfalse, Bool.and_false]
          refine wp_region_any hm ?_
          refine (anyC_sound (CL := fun l w => C (mask loud l) w) ?_ ops.size _ a _ hcl (by rw [hm0]; exact hC) (by rw [show ops.size = ops.toList.length by simp]; exact hL))
          rintro listed' a' w' ⟨hfull, e', q1, q2, q3⟩ hC'
          refine ⟨e', q1, q2 w' ?_, q3⟩
          have : mask loud listed' = mem (loud.map (·.1)) := by
            funext j
            unfold mask
            rcases Nat.lt_or_ge j ops.size with hj | hj
            · rw [hfull j hj, Bool.and_true]
            · cases hmj : mem (loud.map (·.1)) j with
              | false => rfl
              | true =>
                have := List.all_eq_true.1 hbl j ((mem_iff _ _).1 hmj)
                simp [Nat.blt] at this
                omega
          rw [← this]; exact hC'
        case h_2 => cases h
      case h_4 hp =>
        split at h
        case h_1 hb =>
          refine wp_region_any hm ?_
          obtain ⟨S, h⟩ := h.out.out
          have hK := (vcHeld_sound hb hp).1 ops.size (Array.replicate ops.size false) e a _ hr h
          exact wpK_any (fun a' w' ⟨e', q1, q2, q3⟩ => ⟨e', q1, q2, q3⟩) _ _ _ _ hK
        case h_2 => cases h
      case h_5 => cases h
  | seq x y ihx ihy =>
    intro p e a w Q hr h
    have plain : ∀ px py, vcCode P n x px e w (thenQ (fun e w => vcCode P n y py e w Q) Q) → (Code.seq x y).wp P (fun x' a' w' => ∃ e', Rep n e' a' ∧ Q x' e' w' ∧ ∀ t, t ∉ dsts (.seq x y) → e'.get t = e.get t) a w := fun px py h => by
      refine wp_seq (wp_mono (ihx px e a w _ hr h) ?_)
      rintro ex a' w' ⟨e', hr', hq, hk⟩
      cases ex with
      | normal =>
        refine wp_mono (ihy py e' a' w' Q hr' hq) ?_
        rintro ex2 a2 w2 ⟨e2, hr2, hq2, hk2⟩
        exact ⟨e2, hr2, hq2, fun t ht => by simp only [dsts, List.mem_append, not_or] at ht; rw [hk2 t ht.2, hk t ht.1]⟩
      | exit i => exact ⟨e', hr', hq, fun t ht => by simp only [dsts, List.mem_append, not_or] at ht; exact hk t ht.1⟩
      | ret => exact ⟨e', hr', hq, fun t ht => by simp only [dsts, List.mem_append, not_or] at ht; exact hk t ht.1⟩
      | goto l => exact hq.elim
      | panic l => exact hq.elim
      | outgrown => exact hq.elim
    unfold vcCode at h
    split at h
    case h_1 px py => exact plain px py h
    case h_2 ks px py =>
      obtain ⟨J, h1, h2⟩ := h.out
      refine wp_seq (wp_mono (ihx px e a w _ hr h1) ?_)
      rintro ex a' w' ⟨e', hr', hq, hk⟩
      cases ex with
      | normal =>
        obtain ⟨s, hs, hJ⟩ := St.ex_spec hq
        have hrep : Rep n ⟨bindS ks s (strike (dsts x) e.l), fun t => a'.tmps.getD t undef⟩ a' :=
          rep_head hr'.size hr'.defers (fun t ht => by rw [hr'.get, hk t ht]) ks s (by rw [slots_rep hr', hs])
        refine wp_mono (ihy py _ a' w' Q hrep (h2 _ s w' hJ)) ?_
        rintro ex2 a2 w2 ⟨e2, hr2, hq2, hk2⟩
        refine ⟨e2, hr2, hq2, fun t ht => ?_⟩
        simp only [dsts, List.mem_append, not_or] at ht
        rw [hk2 t ht.2, ← hrep.get, hr'.get, hk t ht.1]
      | exit i => exact ⟨e', hr', hq, fun t ht => by simp only [dsts, List.mem_append, not_or] at ht; exact hk t ht.1⟩
      | ret => exact ⟨e', hr', hq, fun t ht => by simp only [dsts, List.mem_append, not_or] at ht; exact hk t ht.1⟩
      | goto l => exact hq.elim
      | panic l => exact hq.elim
      | outgrown => exact hq.elim
    case h_3 => exact plain .auto .auto h
  | cond c x y ihx ihy =>
    intro p e a w Q hr h
    unfold vcCode at h
    split at h
    case h_1 t hc =>
      have hc' : a.eval c = .bool t := by rw [hr.eval]; exact hc
      have go : ∀ px py, ifB t (vcCode P n x px e w Q) (vcCode P n y py e w Q) → (Code.cond c x y).wp P (fun x' a' w' => ∃ e', Rep n e' a' ∧ Q x' e' w' ∧ ∀ t, t ∉ dsts (.cond c x y) → e'.get t = e.get t) a w := fun px py h => by
        obtain ⟨h1, h2⟩ := ifB_ok h
        refine wp_cond_split hc' (fun ht => wp_mono (ihx px e a w Q hr (h1 ht)) ?_) (fun ht => wp_mono (ihy py e a w Q hr (h2 ht)) ?_)
        all_goals
          rintro ex2 a2 w2 ⟨e2, hr2, hq2, hk2⟩
          exact ⟨e2, hr2, hq2, fun t ht => by simp only [dsts, List.mem_append, not_or] at ht; first | exact hk2 t ht.1 | exact hk2 t ht.2⟩
      split at h
      · exact go _ _ h
      · exact go _ _ h
    case h_2 => cases h
  | block id c ih =>
    intro p e a w Q hr h
    have go : ∀ p, vcCode P n c p e w (blockQ id Q) → (Code.block id c).wp P (fun x' a' w' => ∃ e', Rep n e' a' ∧ Q x' e' w' ∧ ∀ t, t ∉ dsts (.block id c) → e'.get t = e.get t) a w := fun p h => by
      refine wp_block (wp_mono (ih p e a w _ hr h) ?_)
      rintro ex a' w' ⟨e', hr', hq, hk⟩
      cases ex with
      | normal => exact ⟨e', hr', hq, hk⟩
      | exit i =>
        unfold blockQ at hq
        by_cases hi : i = id
        · subst hi; simp only [Exit.inBlock, if_true]; simp at hq; exact ⟨e', hr', hq, hk⟩
        · have hb : Nat.beq i id = false := by
            cases hb : Nat.beq i id with
            | false => rfl
            | true => exact absurd (Nat.eq_of_beq_eq_true hb) hi
          simp only [hb] at hq
          simp only [Exit.inBlock, hi, if_false]; exact ⟨e', hr', hq, hk⟩
      | ret => exact ⟨e', hr', hq, hk⟩
      | goto l => exact hq.elim
      | panic l => exact hq.elim
      | outgrown => exact hq.elim
    unfold vcCode at h
    split at h
    · exact go _ h
    · exact go _ h
  | loop c ih =>
    intro p e a w Q hr h
    unfold vcCode at h
    split at h
    case h_1 ks p =>
      obtain ⟨s0, hs0, h⟩ := St.ex_spec h
      obtain ⟨I, μ, hI, hround⟩ := h.out
      refine wp_loop (fun a' w' => ∃ s, I s w' ∧ a'.tmps.size = n ∧ a'.defers = [] ∧ (∀ t, t ∉ dsts c → a'.tmps.getD t undef = e.get t) ∧ ks.map (fun x => a'.tmps.getD x.1 undef) = St.vals (ks.map (·.2)) s)
        (fun a' w' => @dite _ (∃ s : St (ks.map (·.2)), ks.map (fun x => a'.tmps.getD x.1 undef) = St.vals (ks.map (·.2)) s) (Classical.propDecidable _) (fun h => μ h.choose w') (fun _ => 0))
        ⟨s0, hI, hr.size, hr.defers, fun t _ => hr.get t, by rw [slots_rep hr, hs0]⟩ ?_
      rintro a' w' ⟨s, hI', hsz, hdf, hkp, hv⟩
      have hrep : Rep n ⟨bindS ks s (strike (dsts c) e.l), fun t => a'.tmps.getD t undef⟩ a' := rep_head hsz hdf hkp ks s hv
      refine wp_mono (ih p _ a' w' _ hrep (hround _ s w' hI')) ?_
      rintro ex a2 w2 ⟨e2, hr2, hq, hk⟩
      have hkk : ∀ t, t ∉ dsts (.loop c) → e2.get t = e.get t := fun t ht => by rw [hk t ht, ← hrep.get, hkp t ht]
      cases ex with
      | normal =>
        obtain ⟨s2, hs2, hI2, hlt⟩ := St.ex_spec hq
        have hv2 : ks.map (fun x => a2.tmps.getD x.1 undef) = St.vals (ks.map (·.2)) s2 := by rw [slots_rep hr2, hs2]
        refine ⟨⟨s2, hI2, hr2.size, hr2.defers, fun t ht => by rw [hr2.get, hkk t ht], hv2⟩, ?_⟩
        have e1 : ∃ s : St (ks.map (·.2)), ks.map (fun x => a'.tmps.getD x.1 undef) = St.vals (ks.map (·.2)) s := ⟨s, hv⟩
        have e2' : ∃ s : St (ks.map (·.2)), ks.map (fun x => a2.tmps.getD x.1 undef) = St.vals (ks.map (·.2)) s := ⟨s2, hv2⟩
        rw [dif_pos e1, dif_pos e2']
        have u1 : e1.choose = s := St.vals_inj (e1.choose_spec.symm.trans hv)
        have u2 : e2'.choose = s2 := St.vals_inj (e2'.choose_spec.symm.trans hv2)
        rw [u1, u2]
        exact hlt
      | exit i => exact ⟨e2, hr2, hq, hkk⟩
      | ret => exact ⟨e2, hr2, hq, hkk⟩
      | goto l => exact hq.elim
      | panic l => exact hq.elim
      | outgrown => exact hq.elim
    case h_2 => cases h
  | _ => intro p e a w Q hr h; exact h.elim

theorem argEnv_look : ∀ (vs : List Value) (i t : Nat), look (argEnv i vs) t = if i ≤ t then vs[t - i]? else none
  | [], i, t => by simp [argEnv, look]
  | v :: vs, i, t => by
    unfold argEnv
    rw [look_cons, argEnv_look vs (i + 1) t]
    by_cases h : t = i
    · subst h; simp
    · rw [if_neg h]
      by_cases h2 : i ≤ t
      · rw [if_pos (by omega), if_pos h2, show t - i = (t - (i + 1)) + 1 by omega, List.getElem?_cons_succ]
      · rw [if_neg (by omega), if_neg h2]

theorem rep_enter {n : Nat} {args : List Value} (h : args.length ≤ n) : Rep n ⟨argEnv 0 args, fun _ => undef⟩ { tmps := args.toArray ++ Array.replicate (n - args.toArray.size) undef, defers := [] } := by
  refine ⟨by simp; omega, rfl, fun t => ?_⟩
  show _ = (match look (argEnv 0 args) t with | some v => v | none => undef)
  rw [argEnv_look, if_pos (Nat.zero_le _), Nat.sub_zero, Array.getD_eq_getD_getElem?, Array.getElem?_append]
  by_cases ht : t < args.length
  · simp [ht]
  · simp only [List.size_toArray, ht, if_false]
    rw [List.getElem?_eq_none (by omega)]
    simp only [Array.getElem?_replicate]
    split <;> rfl

theorem vcResult_ok {n : Nat} {e : Env} {a : Act} {w : World} {r : ResultVar} {K : Value → Prop} (hr : Rep n e a) (h : vcResult P e w r K) :
    ∃ v, (match r with | .tmp t => (pure (a.tmps.getD t undef) : Sem Value) | .cell x t => do loadVar t (← asAddr (a.tmps.getD x undef))).run P w = .ok v w ∧ K v := by
  unfold vcResult at h
  split at h
  case h_1 t => exact ⟨_, by simp only [hr.get]; rfl, h⟩
  case h_2 x t =>
    split at h
    case h_1 q eq =>
      obtain ⟨p, rfl, h1⟩ := optA_ok h
      obtain ⟨v, hv, hK⟩ := loadVar_ok (K := fun v _ => K v) h1
      refine ⟨v, ?_, hK⟩
      simp only [hr.get, eq, asAddr, Sem.run_bind, Sem.run_pure, Result.andThen_ok, hv]
    case h_2 => cases h

theorem vcResults_ok {n : Nat} {e : Env} {a : Act} {w : World} (hr : Rep n e a) : ∀ {rs : List ResultVar} {K : List Value → Prop}, vcResults P e w rs K →
    ∃ vs, (rs.mapM (fun (r : ResultVar) => (match r with | .tmp t => (pure (a.tmps.getD t undef) : Sem Value) | .cell x t => do loadVar t (← asAddr (a.tmps.getD x undef)))) : Sem (List Value)).run P w = Result.ok vs w ∧ K vs
  | [], K, h => ⟨[], rfl, h⟩
  | r :: rs, K, h => by
    obtain ⟨v, hv, h⟩ := vcResult_ok hr h
    obtain ⟨vs, hvs, h⟩ := vcResults_ok hr h
    refine ⟨v :: vs, ?_, h⟩
    simp only [List.mapM_cons, Sem.run_bind, hv, Result.andThen_ok, hvs, Sem.run_pure]

/-- The condition of a function is sound. -/
theorem vcFunc_sound {f : FuncId} {fn : Func} {p : Plan} {args : List Value} {w : World} {K : Value → World → Prop} (hm : P.follows .mixedOrders = true) (hf : P.funcs[f]? = some fn)
    (h : vcFunc P fn p args w K) : Ret P f args.toArray w K := by
  unfold vcFunc at h
  split at h
  case h_1 => cases h
  case h_2 c hb =>
    split at h
    case h_1 => cases h
    case h_2 hle =>
      have hle' : args.length ≤ fn.ntmps := Nat.le_of_ble_eq_true hle
      refine calls_of_wp hf hb (wp_mono (vcCode_sound hm c p _ _ w _ (rep_enter hle') h) ?_)
      rintro ex a' w' ⟨e', hr, hq, _⟩
      have fin : vcResults P e' w' fn.results.toList (fun vs => K (oneOf vs) w') → a'.defers = [] ∧ ∃ v, (results fn a'.tmps).run P w' = .ok v w' ∧ ∃ u, Ending.returned v = .returned u ∧ K u w' := fun h => by
        obtain ⟨vs, hvs, hK⟩ := vcResults_ok hr h
        refine ⟨hr.defers, oneOf vs, ?_, _, rfl, hK⟩
        unfold results
        simp only [Array.mapM_eq_mapM_toList, Sem.run_bind, Sem.run_map, Sem.run_pure]
        have hvs' := congrArg (fun r => (Result.andThen r fun a w' => Result.ok a.toArray w').andThen fun (a : Array Value) w' => Result.ok (if h : a.size = 1 then a[0] else Value.tuple a) w') hvs
        refine hvs'.trans ?_
        simp only [Result.andThen_ok]
        congr 1
        match vs with
        | [] => rfl
        | [v] => rfl
        | v :: u :: l => rfl
      cases ex with
      | normal => exact fin hq
      | ret => exact fin hq
      | exit i => exact hq.elim
      | goto l => exact hq.elim
      | panic l => exact hq.elim
      | outgrown => exact hq.elim

end
end Vc
end Go.Proofs.YtlhbfdakceipkaaGreatDoor
