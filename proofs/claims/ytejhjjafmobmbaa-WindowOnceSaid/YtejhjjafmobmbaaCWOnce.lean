/-
  The conditions of some functions, written by a program of this session, each tied to the translation by the kernel.
-/
import Derived.Test.YtejhjjafmobmbaaVcMem
import Derived.Test.YtejhjjafmobmbaaProg
import Derived.KernelRfl
namespace Go.Proofs.Ytejhjjafmobmbaa
open Vc
set_option maxRecDepth 100000
set_option linter.unusedVariables false
/-- handfast/handfastlaw20.WindowOnce -/
def C4 (p0 : Option Addr) (p0l p0c : Nat) (w : World) (K : Value → World → Prop) : Prop :=
  CallK Try.prog 22 #[] w (.v (.one .ptr)) (fun (x1 : Option Addr) w2 => ifB (Option.isNone x1)
  (K (.bool false) w2)
  (NewK (.map #[] 0) w2 (fun g3 w4 => LoopK (Int × Int × Unit) (fun _ s5 w6 next7 => JoinK (Bool × Unit) (fun J8 => ifB (decide (s5.2.1 < (p0l : Int)))
  (J8 (decide (s5.2.1 < 80), ()) w6)
  (J8 (false, ()) w6))
  (fun _ s9 w10 => ifB s9.1
  (IdxK p0 p0l s5.2.1 1 (fun a11 => LdK (.int .i64) a11 w10 (fun (x12 : Int) => CallK Try.prog 23 #[.int .i64 x12, .int .i64 150] w10 (.v (.one (.int .i64))) (fun (x13 : Int) w14 => JoinK (Bool × Unit) (fun J15 => RunK Try.prog (Instr.lookup 25 (.map (some g3)) (.int .i64 x13) false) w14 (.v (.one .bool)) (fun (x18 : Bool) w19 => ifB (!x18)
  (J15 (decide (x13 > (IntKind.i64.wrap (s5.1 - 64))), ()) w19)
  (J15 (false, ()) w19)))
  (fun _ s16 w17 => CallK Try.prog 24 #[.pointer x1, .int .i64 3, .int .i64 x13] w17 (.v (.one .bool)) (fun (x20 : Bool) w21 => ifB (!(x20 == s16.1))
  (K (.bool false) w21)
  (ifB s16.1
  (RunU Try.prog (Instr.mapUpdate 25 (.map (some g3)) (.int .i64 x13) (.bool true)) w21 (fun w22 => CallK Try.prog 26 #[.pointer x1] w22 (.v (.one (.int .i64))) (fun (x23 : Int) w24 => ifB (x23 != (if x13 > s5.1 then x13 else s5.1))
  (K (.bool false) w24)
  (CallK Try.prog 24 #[.pointer x1, .int .i64 2, .int .i64 x13] w24 (.v (.one .bool)) (fun (x25 : Bool) w26 => ifB x25
  (K (.bool false) w26)
  (CallK Try.prog 24 #[.pointer x1, .int .i64 3, .int .i64 x13] w26 (.v (.one .bool)) (fun (x27 : Bool) w28 => ifB x27
  (K (.bool false) w28)
  (next7 ((if x13 > s5.1 then x13 else s5.1), IntKind.i64.wrap (s5.2.1 + 1), ()) w28))))))))
  (CallK Try.prog 26 #[.pointer x1] w21 (.v (.one (.int .i64))) (fun (x29 : Int) w30 => ifB (x29 != s5.1)
  (K (.bool false) w30)
  (CallK Try.prog 24 #[.pointer x1, .int .i64 2, .int .i64 x13] w30 (.v (.one .bool)) (fun (x31 : Bool) w32 => ifB x31
  (K (.bool false) w32)
  (CallK Try.prog 24 #[.pointer x1, .int .i64 3, .int .i64 x13] w32 (.v (.one .bool)) (fun (x33 : Bool) w34 => ifB x33
  (K (.bool false) w34)
  (next7 (s5.1, IntKind.i64.wrap (s5.2.1 + 1), ()) w34))))))))))))))
  (CallK Try.prog 24 #[.pointer x1, .int .i64 (-1), .int .i64 5] w10 (.v (.one .bool)) (fun (x35 : Bool) w36 => ifB (!x35)
  (CallK Try.prog 24 #[.pointer x1, .int .i64 3, .int .i64 (-1)] w36 (.v (.one .bool)) (fun (x37 : Bool) w38 => ifB (!x37)
  (CallK Try.prog 24 #[.pointer x1, .int .i64 4, .int .i64 0] w38 (.v (.one .bool)) (fun (x39 : Bool) w40 => ifB x39
  (CallK Try.prog 26 #[.pointer x1] w40 (.v (.one (.int .i64))) (fun (x41 : Int) w42 => ifB (x41 == 0)
  (CallK Try.prog 27 #[] w42 (.v (.one .bool)) (fun (x43 : Bool) w44 => K (.bool x43) w44))
  (K (.bool false) w42)))
  (K (.bool false) w40)))
  (K (.bool false) w38)))
  (K (.bool false) w36)))))
  ((-1), 0, ()) w4)))
def pl4 : Plan := (.seq .auto (.seq .auto (.seq .auto (.seq .auto (.seq .auto (.seq (.seq .auto (.block (.loop [(5, .one (.int .i64)), (6, .one (.int .i64))] (.seq (.join [(20, .one .bool)] .auto .auto) (.seq (.block (.seq .auto (.join [(8, .one .bool)] .auto .auto))) .auto))))) .auto))))))
theorem e4 (p0 : Option Addr) (p0l p0c : Nat) (w : World) (K : Value → World → Prop) : vcFunc Try.prog Try.f4 pl4 [.slice p0 p0l p0c] w K = C4 p0 p0l p0c w K := by kernel_rfl
theorem c4 (p0 : Option Addr) (p0l p0c : Nat) (w : World) (K : Value → World → Prop) (h : C4 p0 p0l p0c w K) : Ret Try.prog 4 #[.slice p0 p0l p0c] w K := by
  rw [← e4] at h
  exact vcFunc_sound (by kernel_rfl) Try.func4 h

end Go.Proofs.Ytejhjjafmobmbaa
