/-
  The conditions of some functions, written by a program of this session, each tied to the translation by the kernel.
-/
import Derived.Test.YtejhjjafmobmbaaVcMem
import Derived.Test.YtejhjjafmobmbaaProg
import Derived.KernelRfl
namespace Go.Proofs.Ytejhjjafmobmbaa
open Vc
set_option maxRecDepth 100000
set_option linter.unusedVariables false
/-- handfast/handfastlaw17.FileFuse -/
def C15 (p0 : Int) (p1 : Int) (w : World) (K : Value → World → Prop) : Prop :=
  CallK Try.prog 39 #[.int .i64 100] w (.v (.one .ptr)) (fun (x1 : Option Addr) w2 => ifB (Option.isNone x1)
  (K (.bool false) w2)
  (CallK Try.prog 23 #[.int .i64 p0, .int .i64 8] w2 (.v (.one (.int .i64))) (fun (x3 : Int) w4 => CallK Try.prog 23 #[.int .i64 p1, .int .i64 4] w4 (.v (.one (.int .i64))) (fun (x5 : Int) w6 => CallK Try.prog 52 #[.pointer x1, .int .i64 x3] w6 (.tup []) (fun (x7 : Unit) w8 => LoopK (Int × Unit) (fun _ s9 w10 next11 => ifB (decide (s9.1 < (IntKind.i64.wrap (x3 + x5))))
  (JoinK (Int × Unit) (fun J12 => NzK 3 (ifB ((s9.1.tmod 3) == 0)
  (RunK Try.prog (Instr.buildSlice 53 1 #[(0, .int .u8 (IntKind.u8.wrap s9.1))]) w10 (.v (.one .slc)) (fun (x15 : Option Addr × Nat × Nat) w16 => CallK Try.prog 41 #[.pointer x1, .slice x15.1 x15.2.1 x15.2.2] w16 (.v (.one (.int .i64))) (fun (x17 : Int) w18 => J12 (x17, ()) w18)))
  (ifB ((s9.1.tmod 3) == 1)
  (CallK Try.prog 42 #[.pointer x1] w10 (.v (.one (.int .i64))) (fun (x19 : Int) w20 => J12 (x19, ()) w20))
  (CallK Try.prog 53 #[.pointer x1, .int .i64 0] w10 (.v (.one (.int .i64))) (fun (x21 : Int) w22 => J12 (x21, ()) w22)))))
  (fun _ s13 w14 => JoinK (Int × Unit) (fun J23 => ifB (decide (s9.1 ≥ x3))
  (J23 (11, ()) w14)
  (J23 (0, ()) w14))
  (fun _ s24 w25 => ifB (s13.1 != s24.1)
  (K (.bool false) w25)
  (CallK Try.prog 48 #[.pointer x1] w25 (.v (.one .bool)) (fun (x26 : Bool) w27 => ifB (!(x26 == (decide (s9.1 ≥ x3))))
  (K (.bool false) w27)
  (RegK w27 (fun C28 => AnyK C28 1 [] (.v (.one (.int .i64))) (fun w30 k31 => CallK Try.prog 53 #[.pointer x1, .int .i64 (-1)] w30 (.v (.one (.int .i64))) (fun (x32 : Int) w33 => k31 (.int .i64 x32) w33))
  (fun (x29 : Int) => AnyK C28 3 [] (.v (.one .slc)) (fun w35 k36 => RunK Try.prog (Instr.makeSlice 53 (.int .i64 200) (.int .i64 200)) w35 (.v (.one .slc)) (fun (x37 : Option Addr × Nat × Nat) w38 => k36 (.slice x37.1 x37.2.1 x37.2.2) w38))
  (fun (x34 : Option Addr × Nat × Nat) => AnyK C28 4 [1, 3] (.v (.one (.int .i64))) (fun w40 k41 => CallK Try.prog 41 #[.pointer x1, .slice x34.1 x34.2.1 x34.2.2] w40 (.v (.one (.int .i64))) (fun (x42 : Int) w43 => k41 (.int .i64 x42) w43))
  (fun (x39 : Int) => (∀ w44, C28 (mem [1, 3, 4]) w44 → ifB (decide (s9.1 < x3))
  (ifB (x29 != 1)
  (K (.bool false) w44)
  (ifB (x39 != 10)
  (K (.bool false) w44)
  (ifB (decide (s9.1 ≥ x3))
  (ifB (x29 != 11)
  (K (.bool false) w44)
  (ifB (x39 != 11)
  (K (.bool false) w44)
  (next11 (IntKind.i64.wrap (s9.1 + 1), ()) w44)))
  (next11 (IntKind.i64.wrap (s9.1 + 1), ()) w44))))
  (ifB (decide (s9.1 ≥ x3))
  (ifB (x29 != 11)
  (K (.bool false) w44)
  (ifB (x39 != 11)
  (K (.bool false) w44)
  (next11 (IntKind.i64.wrap (s9.1 + 1), ()) w44)))
  (next11 (IntKind.i64.wrap (s9.1 + 1), ()) w44)))))))))))))
  (CallK Try.prog 43 #[.pointer x1, .int .i64 0, .int .u8 0] w10 (.tup []) (fun (x45 : Unit) w46 => CallK Try.prog 48 #[.pointer x1] w46 (.v (.one .bool)) (fun (x47 : Bool) w48 => ifB (!x47)
  (RunK Try.prog (Instr.buildSlice 53 1 #[(0, .int .u8 120)]) w48 (.v (.one .slc)) (fun (x49 : Option Addr × Nat × Nat) w50 => RunK Try.prog (convert 53 53 (.slice x49.1 x49.2.1 x49.2.2)) w50 (.v (.one .slc)) (fun (x51 : Option Addr × Nat × Nat) w52 => CallK Try.prog 41 #[.pointer x1, .slice x51.1 x51.2.1 x51.2.2] w52 (.v (.one (.int .i64))) (fun (x53 : Int) w54 => ifB (x53 == 0)
  (CallK Try.prog 42 #[.pointer x1] w54 (.v (.one (.int .i64))) (fun (x55 : Int) w56 => ifB (x55 == 0)
  (CallK Try.prog 47 #[.pointer x1] w56 (.v (.one (.int .i64))) (fun (x57 : Int) w58 => CallK Try.prog 46 #[.pointer x1] w58 (.v (.one .slc)) (fun (x59 : Option Addr × Nat × Nat) w60 => ifB (x57 == (x59.2.1 : Int))
  (CallK Try.prog 49 #[] w60 (.v (.one .bool)) (fun (x61 : Bool) w62 => K (.bool x61) w62))
  (K (.bool false) w60))))
  (K (.bool false) w56)))
  (K (.bool false) w54)))))
  (K (.bool false) w48)))))
  (0, ()) w8)))))
def pl15 : Plan := (.seq .auto (.seq .auto (.seq .auto (.seq .auto (.seq .auto (.seq (.seq .auto (.block (.loop [(6, .one (.int .i64))] (.seq .auto (.seq (.block (.seq .auto (.join [(7, .one (.int .i64))] .auto (.seq .auto (.join [(8, .one (.int .i64))] .auto (.seq .auto (.seq (.any [(1, .v (.one (.int .i64))), (3, .v (.one .slc)), (4, .v (.one (.int .i64)))]) .auto))))))) .auto))))) .auto))))))
theorem e15 (p0 : Int) (p1 : Int) (w : World) (K : Value → World → Prop) : vcFunc Try.prog Try.f15 pl15 [.int .i64 p0, .int .i64 p1] w K = C15 p0 p1 w K := by kernel_rfl
theorem c15 (p0 : Int) (p1 : Int) (w : World) (K : Value → World → Prop) (h : C15 p0 p1 w K) : Ret Try.prog 15 #[.int .i64 p0, .int .i64 p1] w K := by
  rw [← e15] at h
  exact vcFunc_sound (by kernel_rfl) Try.func15 h

end Go.Proofs.Ytejhjjafmobmbaa
