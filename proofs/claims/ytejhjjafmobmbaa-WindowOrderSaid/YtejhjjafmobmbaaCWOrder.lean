/-
  The conditions of some functions, written by a program of this session, each tied to the translation by the kernel.
-/
import Derived.Test.YtejhjjafmobmbaaVcMem
import Derived.Test.YtejhjjafmobmbaaProg
import Derived.KernelRfl
namespace Go.Proofs.Ytejhjjafmobmbaa
open Vc
set_option maxRecDepth 100000
set_option linter.unusedVariables false
/-- handfast/handfastlaw20.WindowOrder -/
def C5 (p0 : Int) (p1 : Int) (w : World) (K : Value → World → Prop) : Prop :=
  CallK Try.prog 22 #[] w (.v (.one .ptr)) (fun (x1 : Option Addr) w2 => ifB (Option.isNone x1)
  (K (.bool false) w2)
  (CallK Try.prog 23 #[.int .i64 p0, .int .i64 1099511627776] w2 (.v (.one (.int .i64))) (fun (x3 : Int) w4 => CallK Try.prog 23 #[.int .i64 p1, .int .i64 1000] w4 (.v (.one (.int .i64))) (fun (x5 : Int) w6 => CallK Try.prog 24 #[.pointer x1, .int .i64 0, .int .i64 x3] w6 (.v (.one .bool)) (fun (x7 : Bool) w8 => ifB (!x7)
  (K (.bool false) w8)
  (CallK Try.prog 24 #[.pointer x1, .int .i64 0, .int .i64 (IntKind.i64.wrap (x3 + (IntKind.i64.wrap (1 + x5))))] w8 (.v (.one .bool)) (fun (x9 : Bool) w10 => ifB (!x9)
  (K (.bool false) w10)
  (LoopK (Int × Unit) (fun _ s11 w12 next13 => ifB (decide (s11.1 < 70))
  (ifB (decide ((IntKind.i64.wrap ((IntKind.i64.wrap (x3 + (IntKind.i64.wrap (1 + x5)))) - s11.1)) < 0))
  (CallK Try.prog 26 #[.pointer x1] w12 (.v (.one (.int .i64))) (fun (x14 : Int) w15 => ifB (x14 == (IntKind.i64.wrap (x3 + (IntKind.i64.wrap (1 + x5)))))
  (CallK Try.prog 27 #[] w15 (.v (.one .bool)) (fun (x16 : Bool) w17 => K (.bool x16) w17))
  (K (.bool false) w15)))
  (ifB (decide (s11.1 < 64))
  (CallK Try.prog 24 #[.pointer x1, .int .i64 0, .int .i64 (IntKind.i64.wrap ((IntKind.i64.wrap (x3 + (IntKind.i64.wrap (1 + x5)))) - s11.1))] w12 (.v (.one .bool)) (fun (x18 : Bool) w19 => ifB (!(x18 == ((IntKind.i64.wrap ((IntKind.i64.wrap (x3 + (IntKind.i64.wrap (1 + x5)))) - s11.1)) != x3)))
  (K (.bool false) w19)
  (CallK Try.prog 24 #[.pointer x1, .int .i64 0, .int .i64 (IntKind.i64.wrap ((IntKind.i64.wrap (x3 + (IntKind.i64.wrap (1 + x5)))) - s11.1))] w19 (.v (.one .bool)) (fun (x20 : Bool) w21 => ifB x20
  (K (.bool false) w21)
  (next13 (IntKind.i64.wrap (s11.1 + 1), ()) w21)))))
  (CallK Try.prog 24 #[.pointer x1, .int .i64 0, .int .i64 (IntKind.i64.wrap ((IntKind.i64.wrap (x3 + (IntKind.i64.wrap (1 + x5)))) - s11.1))] w12 (.v (.one .bool)) (fun (x22 : Bool) w23 => ifB (!(x22 == false))
  (K (.bool false) w23)
  (CallK Try.prog 24 #[.pointer x1, .int .i64 0, .int .i64 (IntKind.i64.wrap ((IntKind.i64.wrap (x3 + (IntKind.i64.wrap (1 + x5)))) - s11.1))] w23 (.v (.one .bool)) (fun (x24 : Bool) w25 => ifB x24
  (K (.bool false) w25)
  (next13 (IntKind.i64.wrap (s11.1 + 1), ()) w25)))))))
  (CallK Try.prog 26 #[.pointer x1] w12 (.v (.one (.int .i64))) (fun (x26 : Int) w27 => ifB (x26 == (IntKind.i64.wrap (x3 + (IntKind.i64.wrap (1 + x5)))))
  (CallK Try.prog 27 #[] w27 (.v (.one .bool)) (fun (x28 : Bool) w29 => K (.bool x28) w29))
  (K (.bool false) w27))))
  (1, ()) w10))))))))
def pl5 : Plan := (.seq .auto (.seq .auto (.seq .auto (.seq .auto (.seq .auto (.seq .auto (.seq (.seq .auto (.block (.loop [(6, .one (.int .i64))] .auto))) .auto)))))))
theorem e5 (p0 : Int) (p1 : Int) (w : World) (K : Value → World → Prop) : vcFunc Try.prog Try.f5 pl5 [.int .i64 p0, .int .i64 p1] w K = C5 p0 p1 w K := by kernel_rfl
theorem c5 (p0 : Int) (p1 : Int) (w : World) (K : Value → World → Prop) (h : C5 p0 p1 w K) : Ret Try.prog 5 #[.int .i64 p0, .int .i64 p1] w K := by
  rw [← e5] at h
  exact vcFunc_sound (by kernel_rfl) Try.func5 h

end Go.Proofs.Ytejhjjafmobmbaa
