/-
  Chapter 7's statements: a name of a few; the example of the document; read.Term of any bytes.
  Conditions: none beyond those stated.
-/
import Derived.Test.YtlhbfdakceipkaaGreatDoorReadSpec2
import Derived.Test.YtlhbfdakceipkaaGreatDoorSameSpec
import Derived.Test.YtlhbfdakceipkaaGreatDoorWithinSpec
import Derived.Test.YtlhbfdakceipkaaGreatDoorVcAggs
import Derived.Test.YtlhbfdakceipkaaGreatDoorCWake7
import Derived.Laws.BytesString
set_option linter.unusedVariables false
set_option maxRecDepth 100000
namespace Go.Proofs.YtlhbfdakceipkaaGreatDoor
open Vc

theorem cat_few {a b : ByteArray} {K : Prop} (h : a.size + b.size ≤ 1000000) (k : K) : CatK a b K := ⟨by show ((a.size + b.size : Nat) : Int) ≤ 9223372036854775807; omega, k⟩
theorem elem_u8' : ElemOk Tryz.prog 38 5 1 (.int .u8 0) 1 := ⟨Tryz.underlying38, ⟨Tryz.t5, by kernel_rfl, rfl, rfl, rfl⟩, rfl, by decide⟩

theorem kname_spec (hd : List UInt8) (n of : Int) (h1 : 1 ≤ of) (h2 : of ≤ 26) (hl : hd.length ≤ 1000) (w : World) : Ret Tryz.prog 23 #[.string (str hd), .int .i64 n, .int .i64 of] w fun r w' =>
    r = .string (str (hd ++ [UInt8.ofNat (97 + (within n of).toNat)])) ∧ Fr none1 w w' := by
  refine c23 (str hd) n of w _ ?_
  refine CallK.of (within_spec n of w (by omega)) ?_
  rintro _ _ ⟨rfl, rfl⟩
  refine ⟨_, rfl, ?_⟩
  have hlo := within_lo n of
  have hhi := within_hi n h1
  have e : IntKind.u8.wrap (IntKind.i64.wrap (97 + within n of)) = ((UInt8.ofNat (97 + (within n of).toNat)).toNat : Int) := by
    rw [wI (by omega) (by omega), IntKind.wrap_u8, u8_of (by omega)]; omega
  rw [e]
  obtain ⟨v, w1, r1, hv, hl1, f1, _⟩ := one_ok (P := Tryz.prog) (w := w) elem_u8' (.int .u8 ((UInt8.ofNat (97 + (within n of).toNat)).toNat : Int)) rfl
  refine ⟨v, w1, r1, ?_⟩
  have hr := IsSl.rd hv
  cases hx : v.1 with
  | none => have := (hr.2.1 hx).1; omega
  | some a =>
    have hc := hr.2.2 a hx
    have r2 := run_convert_bytes_back w1 38 9 5 a v.2.2 [UInt8.ofNat (97 + (within n of).toNat)] Tryz.underlying38 Tryz.underlying5 Tryz.underlying9 (fun j hj => by
      have : j = 0 := by simpa using hj
      subst this
      exact hc.1)
    refine ⟨str [UInt8.ofNat (97 + (within n of).toNat)], w1, ?_, ?_⟩
    · rw [hl1]
      exact r2
    · refine cat_few (by rw [str_size, str_size]; simp; omega) ?_
      rw [str_app]
      exact ⟨rfl, f1⟩

theorem rtermB (s : ByteArray) (hl : s.size ≤ 1000000000000) (w : World) : Ret Tryz.prog 24 #[.string s] w fun r w' => r = .tuple #[(readT s.data.toList).1.v, .int .i64 (readT s.data.toList).2.1, .int .i64 (readT s.data.toList).2.2] ∧ Fr none1 w w' := by
  have := rterm_spec s.data.toList (by rw [ba_len]; exact hl) w
  rwa [str_of] at this
theorem robsB (s : ByteArray) (hl : s.size ≤ 1000000000000) (w : World) : Ret Tryz.prog 28 #[.string s] w fun r w' => r = .tuple #[(readO s.data.toList).1.v, .int .i64 (readO s.data.toList).2.1, .int .i64 (readO s.data.toList).2.2] ∧ Fr none1 w w' := by
  have := robs_spec s.data.toList (by rw [ba_len]; exact hl) w
  rwa [str_of] at this

theorem wakes7_read : readT [103, 105, 118, 101, 40, 32, 122, 101, 114, 111, 32, 41] = (.give .zero, 0, 0) := by rfl
theorem wakes7_spec (w : World) : Ret Tryz.prog 25 #[] w fun r w' => r = .bool true ∧ Fr none1 w w' := by
  refine c25 w _ ?_
  refine CallK.of (rterm_spec [103, 105, 118, 101, 40, 32, 122, 101, 114, 111, 32, 41] (by decide) w) ?_
  rintro _ w1 ⟨rfl, f1⟩
  rw [wakes7_read]
  refine ⟨(_, 0, 0, ()), rfl, ?_⟩
  refine TaK.hit (Tm.zero.v, ()) rfl (ns_skip (zs := [.nilIface]) (vs := [Tm.zero.v]) rfl rfl fun w2 f2 => ?_)
  exact ifB.t rfl ⟨rfl, f1.trans f2⟩

/-- A contract that was read is there. -/
theorem readT_there {bs : List UInt8} (h : (readT bs).2.2 = 0) : (readT bs).1 ≠ .none := fun t => by
  have := (readT_inv h).1
  rw [t] at this
  exact absurd this (by decide)
theorem tm_ifc (t : Tm) : ifcT t.v := by cases t <;> first | (exact .inl rfl) | (exact .inr ⟨_, _, rfl⟩)
theorem ob_ifc (o : Ob) : ifcT o.v := by cases o <;> first | (exact .inl rfl) | (exact .inr ⟨_, _, rfl⟩)
theorem nilT_tm (t : Tm) : nilT t.v = true ↔ t = .none := by cases t <;> simp [Tm.v, nilT]
theorem nilT_ob (o : Ob) : nilT o.v = true ↔ o = .none := by cases o <;> simp [Ob.v, nilT]

/-- Is a value of an interface not nil? -/
theorem nil_neq {t : TypeId} (ht : ∃ ms, Tryz.prog.underlying t = some (.interface ms)) (o : Operand) {v : Value} (hv : ifcT v) (w : World) :
    (do eqGuard .neq t o (.const .nilIface) v .nilIface; binOp .neq t v .nilIface : Sem Value).run Tryz.prog w = .ok (.bool (!nilT v)) w := by
  obtain ⟨ms, ht⟩ := ht
  rcases hv with rfl | ⟨u, x, rfl⟩
  · have h1 : (eqGuard .neq t o (.const .nilIface) .nilIface .nilIface).run Tryz.prog w = .ok () w := by
      unfold eqGuard
      simp
    rw [Sem.run_bind, h1, Result.andThen_ok]
    have h2 : (Op.equalIn (9999 + 1) t .nilIface .nilIface).run Tryz.prog w = .ok true w := by
      unfold Op.equalIn
      simp only [Sem.run_bind, under ht, Result.andThen_ok, Sem.run_pure]
    show (do pure (Value.bool (!(← Op.equalIn (9999 + 1) t .nilIface .nilIface))) : Sem Value).run Tryz.prog w = _
    rw [Sem.run_bind, h2]
    rfl
  · have h1 : (eqGuard .neq t o (.const .nilIface) (.iface u x) .nilIface).run Tryz.prog w = .ok () w := by
      unfold eqGuard
      rfl
    rw [Sem.run_bind, h1, Result.andThen_ok]
    have h2 : (Op.equalIn (9999 + 1) t (.iface u x) .nilIface).run Tryz.prog w = .ok false w := by
      unfold Op.equalIn
      simp only [Sem.run_bind, under ht, Result.andThen_ok, Sem.run_pure]
    show (do pure (Value.bool (!(← Op.equalIn (9999 + 1) t (.iface u x) .nilIface))) : Sem Value).run Tryz.prog w = _
    rw [Sem.run_bind, h2]
    rfl
theorem ifc_term : ∃ ms, Tryz.prog.underlying 28 = some (.interface ms) := ⟨_, Tryz.underlying28⟩
theorem ifc_obs : ∃ ms, Tryz.prog.underlying 65 = some (.interface ms) := ⟨_, Tryz.underlying65⟩

end Go.Proofs.YtlhbfdakceipkaaGreatDoor
