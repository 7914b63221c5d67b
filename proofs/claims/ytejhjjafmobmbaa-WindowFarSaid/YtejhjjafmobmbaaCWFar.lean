/-
  The conditions of some functions, written by a program of this session, each tied to the translation by the kernel.
-/
import Derived.Test.YtejhjjafmobmbaaVcMem
import Derived.Test.YtejhjjafmobmbaaProg
import Derived.KernelRfl
namespace Go.Proofs.Ytejhjjafmobmbaa
open Vc
set_option maxRecDepth 100000
set_option linter.unusedVariables false
/-- handfast/handfastlaw20.WindowFar -/
def C6 (p0 : Int) (w : World) (K : Value → World → Prop) : Prop :=
  CallK Try.prog 22 #[] w (.v (.one .ptr)) (fun (x1 : Option Addr) w2 => ifB (Option.isNone x1)
  (K (.bool false) w2)
  (CallK Try.prog 24 #[.pointer x1, .int .i64 9223372036854775807, .int .i64 9223372036854775807] w2 (.v (.one .bool)) (fun (x3 : Bool) w4 => ifB (!x3)
  (K (.bool false) w4)
  (CallK Try.prog 24 #[.pointer x1, .int .i64 9223372036854775807, .int .i64 9223372036854775807] w4 (.v (.one .bool)) (fun (x5 : Bool) w6 => ifB x5
  (K (.bool false) w6)
  (LoopK (Int × Unit) (fun _ s7 w8 next9 => JoinK (Bool × Unit) (fun J10 => ifB (decide (s7.1 < 200))
  (J10 (decide (s7.1 < p0), ()) w8)
  (J10 (false, ()) w8))
  (fun _ s11 w12 => ifB s11.1
  (next9 (IntKind.i64.wrap (s7.1 * 2), ()) w12)
  (CallK Try.prog 24 #[.pointer x1, .int .i64 9223372036854775807, .int .i64 (IntKind.i64.wrap (9223372036854775807 - s7.1))] w12 (.v (.one .bool)) (fun (x13 : Bool) w14 => ifB (x13 == (decide (s7.1 < 64)))
  (CallK Try.prog 24 #[.pointer x1, .int .i64 9223372036854775807, .int .i64 (IntKind.i64.wrap (9223372036854775807 - s7.1))] w14 (.v (.one .bool)) (fun (x15 : Bool) w16 => ifB (!x15)
  (CallK Try.prog 24 #[.pointer x1, .int .i64 9223372036854775807, .int .i64 0] w16 (.v (.one .bool)) (fun (x17 : Bool) w18 => ifB (!x17)
  (CallK Try.prog 24 #[.pointer x1, .int .i64 9223372036854775806, .int .i64 9223372036854775807] w18 (.v (.one .bool)) (fun (x19 : Bool) w20 => ifB (!x19)
  (CallK Try.prog 26 #[.pointer x1] w20 (.v (.one (.int .i64))) (fun (x21 : Int) w22 => ifB (x21 == 9223372036854775807)
  (CallK Try.prog 25 #[.pointer x1] w22 (.v (.one (.int .i64))) (fun (x23 : Int) w24 => ifB (x23 == 9223372036854775807)
  (CallK Try.prog 27 #[] w24 (.v (.one .bool)) (fun (x25 : Bool) w26 => K (.bool x25) w26))
  (K (.bool false) w24)))
  (K (.bool false) w22)))
  (K (.bool false) w20)))
  (K (.bool false) w18)))
  (K (.bool false) w16)))
  (K (.bool false) w14)))))
  (1, ()) w6))))))
def pl6 : Plan := (.seq .auto (.seq .auto (.seq .auto (.seq .auto (.seq .auto (.seq (.block (.loop [(4, .one (.int .i64))] (.seq (.join [(22, .one .bool)] .auto .auto) .auto))) .auto))))))
theorem e6 (p0 : Int) (w : World) (K : Value → World → Prop) : vcFunc Try.prog Try.f6 pl6 [.int .i64 p0] w K = C6 p0 w K := by kernel_rfl
theorem c6 (p0 : Int) (w : World) (K : Value → World → Prop) (h : C6 p0 w K) : Ret Try.prog 6 #[.int .i64 p0] w K := by
  rw [← e6] at h
  exact vcFunc_sound (by kernel_rfl) Try.func6 h

end Go.Proofs.Ytejhjjafmobmbaa
