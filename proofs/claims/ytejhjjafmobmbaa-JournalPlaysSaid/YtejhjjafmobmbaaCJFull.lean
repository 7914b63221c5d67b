/-
  The conditions of some functions, written by a program of this session, each tied to the translation by the kernel.
-/
import Derived.Test.YtejhjjafmobmbaaVcMem
import Derived.Test.YtejhjjafmobmbaaProg
import Derived.KernelRfl
namespace Go.Proofs.Ytejhjjafmobmbaa
open Vc
set_option maxRecDepth 100000
set_option linter.unusedVariables false
/-- handfast/handfastlaw18.JournalFull -/
def C20 (p0 : Int) (p1 : Option Addr) (p1l p1c : Nat) (w : World) (K : Value → World → Prop) : Prop :=
  CallK Try.prog 23 #[.int .i64 p0, .int .i64 120] w (.v (.one (.int .i64))) (fun (x1 : Int) w2 => CallK Try.prog 39 #[.int .i64 x1] w2 (.v (.one .ptr)) (fun (x3 : Option Addr) w4 => ifB (Option.isNone x3)
  (K (.bool false) w4)
  (CallK Try.prog 65 #[.pointer x3] w4 (.tup [.one .ptr, .one (.int .i64)]) (fun (x5 : Option Addr × Int × Unit) w6 => ifB (x5.2.1 != 0)
  (K (.bool false) w6)
  (ifB (Option.isNone x5.1)
  (K (.bool false) w6)
  (LoopK (Int × Int × Int × Unit) (fun _ s7 w8 next9 => JoinK (Bool × Unit) (fun J10 => ifB (decide (s7.2.2.1 < (p1l : Int)))
  (J10 (decide (s7.2.2.1 < 12), ()) w8)
  (J10 (false, ()) w8))
  (fun _ s11 w12 => ifB s11.1
  (IdxK p1 p1l s7.2.2.1 1 (fun a13 => LdK (.int .i64) a13 w12 (fun (x14 : Int) => CallK Try.prog 23 #[.int .i64 x14, .int .i64 40] w12 (.v (.one (.int .i64))) (fun (x15 : Int) w16 => RunK Try.prog (Instr.makeSlice 53 (.int .i64 x15) (.int .i64 x15)) w16 (.v (.one .slc)) (fun (x17 : Option Addr × Nat × Nat) w18 => CallK Try.prog 66 #[.pointer x5.1, .slice x17.1 x17.2.1 x17.2.2] w18 (.v (.one (.int .i64))) (fun (x19 : Int) w20 => JoinK (Bool × Unit) (fun J21 => CallK Try.prog 69 #[.pointer x5.1] w20 (.v (.one .bool)) (fun (x24 : Bool) w25 => ifB x24
  (J21 (true, ()) w25)
  (ifB (!((decide ((IntKind.i64.wrap (x15 + 3)) ≤ s7.1)) == (x19 == 0)))
  (J21 (true, ()) w25)
  (ifB (!(decide ((IntKind.i64.wrap (x15 + 3)) ≤ s7.1)))
  (J21 ((x19 != 10), ()) w25)
  (J21 (false, ()) w25)))))
  (fun _ s22 w23 => ifB s22.1
  (K (.bool false) w23)
  (ifB (decide ((IntKind.i64.wrap (x15 + 3)) ≤ s7.1))
  (CallK Try.prog 68 #[.pointer x5.1] w23 (.v (.one .slc)) (fun (x26 : Option Addr × Nat × Nat) w27 => ifB ((x26.2.1 : Int) != (IntKind.i64.wrap (s7.2.1 + 1)))
  (K (.bool false) w27)
  (CallK Try.prog 70 #[.pointer x5.1, .int .i64 (IntKind.i64.wrap ((IntKind.i64.wrap ((IntKind.i64.wrap (s7.1 - x15)) - 3)) - 3))] w27 (.v (.one .bool)) (fun (x28 : Bool) w29 => ifB (!(x28 == (decide ((IntKind.i64.wrap ((IntKind.i64.wrap (s7.1 - x15)) - 3)) ≥ 3))))
  (K (.bool false) w29)
  (CallK Try.prog 70 #[.pointer x5.1, .int .i64 (IntKind.i64.wrap ((IntKind.i64.wrap ((IntKind.i64.wrap (s7.1 - x15)) - 3)) - 2))] w29 (.v (.one .bool)) (fun (x30 : Bool) w31 => ifB x30
  (K (.bool false) w31)
  (CallK Try.prog 46 #[.pointer x3] w31 (.v (.one .slc)) (fun (x32 : Option Addr × Nat × Nat) w33 => ifB ((x32.2.1 : Int) != (IntKind.i64.wrap (x1 - (IntKind.i64.wrap ((IntKind.i64.wrap (s7.1 - x15)) - 3)))))
  (K (.bool false) w33)
  (next9 (IntKind.i64.wrap ((IntKind.i64.wrap (s7.1 - x15)) - 3), IntKind.i64.wrap (s7.2.1 + 1), IntKind.i64.wrap (s7.2.2.1 + 1), ()) w33)))))))))
  (CallK Try.prog 68 #[.pointer x5.1] w23 (.v (.one .slc)) (fun (x34 : Option Addr × Nat × Nat) w35 => ifB ((x34.2.1 : Int) != s7.2.1)
  (K (.bool false) w35)
  (CallK Try.prog 70 #[.pointer x5.1, .int .i64 (IntKind.i64.wrap (s7.1 - 3))] w35 (.v (.one .bool)) (fun (x36 : Bool) w37 => ifB (!(x36 == (decide (s7.1 ≥ 3))))
  (K (.bool false) w37)
  (CallK Try.prog 70 #[.pointer x5.1, .int .i64 (IntKind.i64.wrap (s7.1 - 2))] w37 (.v (.one .bool)) (fun (x38 : Bool) w39 => ifB x38
  (K (.bool false) w39)
  (CallK Try.prog 46 #[.pointer x3] w39 (.v (.one .slc)) (fun (x40 : Option Addr × Nat × Nat) w41 => ifB ((x40.2.1 : Int) != (IntKind.i64.wrap (x1 - s7.1)))
  (K (.bool false) w41)
  (next9 (s7.1, s7.2.1, IntKind.i64.wrap (s7.2.2.1 + 1), ()) w41)))))))))))))))))
  (RunK Try.prog (Instr.makeSlice 53 (.int .i64 4001) (.int .i64 4001)) w12 (.v (.one .slc)) (fun (x42 : Option Addr × Nat × Nat) w43 => CallK Try.prog 66 #[.pointer x5.1, .slice x42.1 x42.2.1 x42.2.2] w43 (.v (.one (.int .i64))) (fun (x44 : Int) w45 => ifB (x44 == 5)
  (CallK Try.prog 70 #[.pointer x5.1, .int .i64 (-1)] w45 (.v (.one .bool)) (fun (x46 : Bool) w47 => ifB (!x46)
  (CallK Try.prog 64 #[] w47 (.v (.one .bool)) (fun (x48 : Bool) w49 => K (.bool x48) w49))
  (K (.bool false) w47)))
  (K (.bool false) w45))))))
  (x1, 0, 0, ()) w6))))))
def pl20 : Plan := (.seq .auto (.seq .auto (.seq .auto (.seq .auto (.seq .auto (.seq .auto (.seq .auto (.seq .auto (.seq (.seq .auto (.block (.loop [(8, .one (.int .i64)), (9, .one (.int .i64)), (10, .one (.int .i64))] (.seq (.join [(39, .one .bool)] .auto .auto) (.seq (.block (.seq .auto (.seq .auto (.seq .auto (.seq (.join [(70, .one .bool)] .auto .auto) .auto))))) .auto))))) .auto)))))))))
theorem e20 (p0 : Int) (p1 : Option Addr) (p1l p1c : Nat) (w : World) (K : Value → World → Prop) : vcFunc Try.prog Try.f20 pl20 [.int .i64 p0, .slice p1 p1l p1c] w K = C20 p0 p1 p1l p1c w K := by kernel_rfl
theorem c20 (p0 : Int) (p1 : Option Addr) (p1l p1c : Nat) (w : World) (K : Value → World → Prop) (h : C20 p0 p1 p1l p1c w K) : Ret Try.prog 20 #[.int .i64 p0, .slice p1 p1l p1c] w K := by
  rw [← e20] at h
  exact vcFunc_sound (by kernel_rfl) Try.func20 h

end Go.Proofs.Ytejhjjafmobmbaa
