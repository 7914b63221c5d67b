/-
  The conditions of some functions, written by a program of this session, each tied to the translation by the kernel.
-/
import Derived.Test.YtlhbfdakceipkaaGreatDoorVcMem
import Derived.Test.YtlhbfdakceipkaaGreatDoorProg
import Derived.KernelRfl
namespace Go.Proofs.YtlhbfdakceipkaaGreatDoor
open Vc
set_option maxRecDepth 100000
set_option linter.unusedVariables false
/-- handfast/obs.kind -/
def C80 (p0 : Value) (w : World) (K : Value → World → Prop) : Prop :=
  TaK p0 80 (.agg [.int .i64]) (fun (x1 : Int × Unit) => K (.int .i64 1) w)
  (TaK p0 78 (.agg [.str]) (fun (x2 : ByteArray × Unit) => K (.int .i64 2) w)
  (TaK p0 86 (.agg [.raw, .raw]) (fun (x3 : Value × Value × Unit) => K (.int .i64 3) w)
  (TaK p0 85 (.agg [.raw]) (fun (x4 : Value × Unit) => K (.int .i64 4) w)
  (TaK p0 83 (.agg [.raw, .raw]) (fun (x5 : Value × Value × Unit) => K (.int .i64 5) w)
  (TaK p0 82 (.agg [.raw, .raw]) (fun (x6 : Value × Value × Unit) => K (.int .i64 6) w)
  (K (.int .i64 0) w))))))
def pl80 : Plan := .auto
theorem e80 (p0 : Value) (w : World) (K : Value → World → Prop) : vcFunc Tryz.prog Tryz.f80 pl80 [p0] w K = C80 p0 w K := by kernel_rfl
theorem c80 (p0 : Value) (w : World) (K : Value → World → Prop) (h : C80 p0 w K) : Ret Tryz.prog 80 #[p0] w K := by
  rw [← e80] at h
  exact vcFunc_sound (by kernel_rfl) Tryz.func80 h

/-- handfast/obs.Same -/
def C34 (p0 : Value) (p1 : Value) (w : World) (K : Value → World → Prop) : Prop :=
  CallK Tryz.prog 80 #[p0] w (.v (.one (.int .i64))) (fun (x1 : Int) w2 => ifB (x1 == 0)
  (K (.bool false) w2)
  (CallK Tryz.prog 80 #[p0] w2 (.v (.one (.int .i64))) (fun (x3 : Int) w4 => CallK Tryz.prog 80 #[p1] w4 (.v (.one (.int .i64))) (fun (x5 : Int) w6 => ifB (x3 != x5)
  (K (.bool false) w6)
  (TaK p0 80 (.agg [.int .i64]) (fun (x7 : Int × Unit) => NewK (.cells #[.int .i64 0] 80) w6 (fun g8 w9 => StsK (⟨g8, 0, none⟩ : Addr) [.int .i64 x7.1] w9 (fun w10 => DrewK w10 (fun w11 => LdsK [.int .i64] (⟨g8, 0, none⟩ : Addr) w11 (fun (x12 : Int × Unit) => TaK p1 80 (.agg [.int .i64]) (fun (x13 : Int × Unit) => RunK Tryz.prog (do eqGuard .eql 80 (.tmp 25) (.tmp 27) (.agg #[.int .i64 x12.1]) (.agg #[.int .i64 x13.1]); binOp .eql 80 (.agg #[.int .i64 x12.1]) (.agg #[.int .i64 x13.1])) w11 (.v (.one .bool)) (fun (x14 : Bool) w15 => K (.bool x14) w15)) False)))))
  (NewK (.cells #[.int .i64 0] 80) w6 (fun g16 w17 => StsK (⟨g16, 0, none⟩ : Addr) [.int .i64 0] w17 (fun w18 => TaK p0 78 (.agg [.str]) (fun (x19 : ByteArray × Unit) => NewK (.cells #[.string (⟨#[]⟩ : ByteArray)] 78) w18 (fun g20 w21 => StsK (⟨g20, 0, none⟩ : Addr) [.string x19.1] w21 (fun w22 => DrewK w22 (fun w23 => LdsK [.str] (⟨g20, 0, none⟩ : Addr) w23 (fun (x24 : ByteArray × Unit) => TaK p1 78 (.agg [.str]) (fun (x25 : ByteArray × Unit) => RunK Tryz.prog (do eqGuard .eql 78 (.tmp 35) (.tmp 37) (.agg #[.string x24.1]) (.agg #[.string x25.1]); binOp .eql 78 (.agg #[.string x24.1]) (.agg #[.string x25.1])) w23 (.v (.one .bool)) (fun (x26 : Bool) w27 => K (.bool x26) w27)) False)))))
  (NewK (.cells #[.string (⟨#[]⟩ : ByteArray)] 78) w18 (fun g28 w29 => StsK (⟨g28, 0, none⟩ : Addr) [.string (⟨#[]⟩ : ByteArray)] w29 (fun w30 => CallK Tryz.prog 82 #[p0] w30 (.v (.one .slc)) (fun (x31 : Option Addr × Nat × Nat) w32 => CallK Tryz.prog 82 #[p1] w32 (.v (.one .slc)) (fun (x33 : Option Addr × Nat × Nat) w34 => CallK Tryz.prog 81 #[.slice x31.1 x31.2.1 x31.2.2, .slice x33.1 x33.2.1 x33.2.2, .func (.func 34) #[] #[]] w34 (.v (.one .bool)) (fun (x35 : Bool) w36 => K (.bool x35) w36))))))))))))))
def pl34 : Plan := (.seq .auto (.seq .auto (.seq (.seq .auto (.seq .auto (.cond (.seq (.tail 3) .auto) .auto))) (.seq (.seq .auto (.seq .auto (.cond (.seq (.tail 3) .auto) .auto))) .auto))))
theorem e34 (p0 : Value) (p1 : Value) (w : World) (K : Value → World → Prop) : vcFunc Tryz.prog Tryz.f34 pl34 [p0, p1] w K = C34 p0 p1 w K := by kernel_rfl
theorem c34 (p0 : Value) (p1 : Value) (w : World) (K : Value → World → Prop) (h : C34 p0 p1 w K) : Ret Tryz.prog 34 #[p0, p1] w K := by
  rw [← e34] at h
  exact vcFunc_sound (by kernel_rfl) Tryz.func34 h

/-- handfast/term.Same -/
def C33 (p0 : Value) (p1 : Value) (w : World) (K : Value → World → Prop) : Prop :=
  CallK Tryz.prog 75 #[p0] w (.v (.one (.int .i64))) (fun (x1 : Int) w2 => ifB (x1 == 0)
  (K (.bool false) w2)
  (CallK Tryz.prog 75 #[p0] w2 (.v (.one (.int .i64))) (fun (x3 : Int) w4 => CallK Tryz.prog 75 #[p1] w4 (.v (.one (.int .i64))) (fun (x5 : Int) w6 => ifB (x3 != x5)
  (K (.bool false) w6)
  (CallK Tryz.prog 76 #[p0] w6 (.tup [.one .str, .one (.int .i64)]) (fun (x7 : ByteArray × Int × Unit) w8 => CallK Tryz.prog 76 #[p1] w8 (.tup [.one .str, .one (.int .i64)]) (fun (x9 : ByteArray × Int × Unit) w10 => ifB (!(x7.1.toList == x9.1.toList))
  (K (.bool false) w10)
  (ifB (x7.2.1 != x9.2.1)
  (K (.bool false) w10)
  (CallK Tryz.prog 77 #[p0] w10 (.tup [.one .raw, .one .bool]) (fun (x11 : Value × Bool × Unit) w12 => ifB x11.2.1
  (CallK Tryz.prog 77 #[p1] w12 (.tup [.one .raw, .one .bool]) (fun (x13 : Value × Bool × Unit) w14 => CallK Tryz.prog 34 #[x11.1, x13.1] w14 (.v (.one .bool)) (fun (x15 : Bool) w16 => ifB (!x15)
  (K (.bool false) w16)
  (CallK Tryz.prog 79 #[p0] w16 (.v (.one .slc)) (fun (x17 : Option Addr × Nat × Nat) w18 => CallK Tryz.prog 79 #[p1] w18 (.v (.one .slc)) (fun (x19 : Option Addr × Nat × Nat) w20 => CallK Tryz.prog 78 #[.slice x17.1 x17.2.1 x17.2.2, .slice x19.1 x19.2.1 x19.2.2, .func (.func 33) #[] #[]] w20 (.v (.one .bool)) (fun (x21 : Bool) w22 => K (.bool x21) w22)))))))
  (CallK Tryz.prog 79 #[p0] w12 (.v (.one .slc)) (fun (x23 : Option Addr × Nat × Nat) w24 => CallK Tryz.prog 79 #[p1] w24 (.v (.one .slc)) (fun (x25 : Option Addr × Nat × Nat) w26 => CallK Tryz.prog 78 #[.slice x23.1 x23.2.1 x23.2.2, .slice x25.1 x25.2.1 x25.2.2, .func (.func 33) #[] #[]] w26 (.v (.one .bool)) (fun (x27 : Bool) w28 => K (.bool x27) w28))))))))))))))
def pl33 : Plan := .auto
theorem e33 (p0 : Value) (p1 : Value) (w : World) (K : Value → World → Prop) : vcFunc Tryz.prog Tryz.f33 pl33 [p0, p1] w K = C33 p0 p1 w K := by kernel_rfl
theorem c33 (p0 : Value) (p1 : Value) (w : World) (K : Value → World → Prop) (h : C33 p0 p1 w K) : Ret Tryz.prog 33 #[p0, p1] w K := by
  rw [← e33] at h
  exact vcFunc_sound (by kernel_rfl) Tryz.func33 h

/-- slices.EqualFunc[[]handfast/api.Obs,[]handfast/api.Obs,handfast/api.Obs,handfast/api.Obs] -/
def C81 (p0 : Option Addr) (p0l p0c : Nat) (p1 : Option Addr) (p1l p1c : Nat) (p2 : Value) (w : World) (K : Value → World → Prop) : Prop :=
  ifB ((p0l : Int) != (p1l : Int))
  (K (.bool false) w)
  (LoopK (Int × Unit) (fun _ s1 w2 next3 => ifB (decide (s1.1 < (p0l : Int)))
  (IdxK p0 p0l s1.1 1 (fun a4 => LdK .raw a4 w2 (fun (x5 : Value) => IdxK p1 p1l s1.1 1 (fun a6 => LdK .raw a6 w2 (fun (x7 : Value) => callV Tryz.prog p2 [x5, x7] (.v (.one .bool)) w2 (fun (x8 : Bool) w9 => ifB (!x8)
  (K (.bool false) w9)
  (next3 (IntKind.i64.wrap (s1.1 + 1), ()) w9)))))))
  (K (.bool true) w2))
  (0, ()) w)
def pl81 : Plan := (.seq .auto (.seq .auto (.seq (.seq .auto (.block (.loop [(17, .one (.int .i64))] .auto))) .auto)))
theorem e81 (p0 : Option Addr) (p0l p0c : Nat) (p1 : Option Addr) (p1l p1c : Nat) (p2 : Value) (w : World) (K : Value → World → Prop) : vcFunc Tryz.prog Tryz.f81 pl81 [.slice p0 p0l p0c, .slice p1 p1l p1c, p2] w K = C81 p0 p0l p0c p1 p1l p1c p2 w K := by kernel_rfl
theorem c81 (p0 : Option Addr) (p0l p0c : Nat) (p1 : Option Addr) (p1l p1c : Nat) (p2 : Value) (w : World) (K : Value → World → Prop) (h : C81 p0 p0l p0c p1 p1l p1c p2 w K) : Ret Tryz.prog 81 #[.slice p0 p0l p0c, .slice p1 p1l p1c, p2] w K := by
  rw [← e81] at h
  exact vcFunc_sound (by kernel_rfl) Tryz.func81 h

/-- slices.EqualFunc[[]handfast/api.Term,[]handfast/api.Term,handfast/api.Term,handfast/api.Term] -/
def C78 (p0 : Option Addr) (p0l p0c : Nat) (p1 : Option Addr) (p1l p1c : Nat) (p2 : Value) (w : World) (K : Value → World → Prop) : Prop :=
  ifB ((p0l : Int) != (p1l : Int))
  (K (.bool false) w)
  (LoopK (Int × Unit) (fun _ s1 w2 next3 => ifB (decide (s1.1 < (p0l : Int)))
  (IdxK p0 p0l s1.1 1 (fun a4 => LdK .raw a4 w2 (fun (x5 : Value) => IdxK p1 p1l s1.1 1 (fun a6 => LdK .raw a6 w2 (fun (x7 : Value) => callV Tryz.prog p2 [x5, x7] (.v (.one .bool)) w2 (fun (x8 : Bool) w9 => ifB (!x8)
  (K (.bool false) w9)
  (next3 (IntKind.i64.wrap (s1.1 + 1), ()) w9)))))))
  (K (.bool true) w2))
  (0, ()) w)
def pl78 : Plan := (.seq .auto (.seq .auto (.seq (.seq .auto (.block (.loop [(17, .one (.int .i64))] .auto))) .auto)))
theorem e78 (p0 : Option Addr) (p0l p0c : Nat) (p1 : Option Addr) (p1l p1c : Nat) (p2 : Value) (w : World) (K : Value → World → Prop) : vcFunc Tryz.prog Tryz.f78 pl78 [.slice p0 p0l p0c, .slice p1 p1l p1c, p2] w K = C78 p0 p0l p0c p1 p1l p1c p2 w K := by kernel_rfl
theorem c78 (p0 : Option Addr) (p0l p0c : Nat) (p1 : Option Addr) (p1l p1c : Nat) (p2 : Value) (w : World) (K : Value → World → Prop) (h : C78 p0 p0l p0c p1 p1l p1c p2 w K) : Ret Tryz.prog 78 #[.slice p0 p0l p0c, .slice p1 p1l p1c, p2] w K := by
  rw [← e78] at h
  exact vcFunc_sound (by kernel_rfl) Tryz.func78 h

end Go.Proofs.YtlhbfdakceipkaaGreatDoor
