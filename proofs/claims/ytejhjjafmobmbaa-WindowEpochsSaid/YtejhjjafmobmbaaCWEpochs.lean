/-
  The conditions of some functions, written by a program of this session, each tied to the translation by the kernel.
-/
import Derived.Test.YtejhjjafmobmbaaVcMem
import Derived.Test.YtejhjjafmobmbaaProg
import Derived.KernelRfl
namespace Go.Proofs.Ytejhjjafmobmbaa
open Vc
set_option maxRecDepth 100000
set_option linter.unusedVariables false
/-- handfast/handfastlaw20.WindowEpochs -/
def C3 (p0 : Option Addr) (p0l p0c : Nat) (p1 : Option Addr) (p1l p1c : Nat) (w : World) (K : Value → World → Prop) : Prop :=
  CallK Try.prog 22 #[] w (.v (.one .ptr)) (fun (x1 : Option Addr) w2 => ifB (Option.isNone x1)
  (K (.bool false) w2)
  (NewK (.map #[] 0) w2 (fun g3 w4 => LoopK (Int × Int × Option Nat × Int × Unit) (fun _ s5 w6 next7 => ifB (decide (s5.2.2.2.1 < (p0l : Int)))
  (ifB (decide (s5.2.2.2.1 < (p1l : Int)))
  (ifB (decide (s5.2.2.2.1 < 40))
  (RegK w6 (fun C8 => IdxK p0 p0l s5.2.2.2.1 1 (fun a9 => AnyK C8 3 [] (.v (.one (.int .i64))) (fun w11 k12 => LdK (.int .i64) a9 w11 (fun (x13 : Int) => k12 (.int .i64 x13) w11))
  (fun (x10 : Int) => AnyK C8 4 [3] (.v (.one (.int .i64))) (fun w15 k16 => CallK Try.prog 23 #[.int .i64 x10, .int .i64 5] w15 (.v (.one (.int .i64))) (fun (x17 : Int) w18 => k16 (.int .i64 x17) w18))
  (fun (x14 : Int) => IdxK p1 p1l s5.2.2.2.1 1 (fun a19 => AnyK C8 8 [] (.v (.one (.int .i64))) (fun w21 k22 => LdK (.int .i64) a19 w21 (fun (x23 : Int) => k22 (.int .i64 x23) w21))
  (fun (x20 : Int) => AnyK C8 9 [3, 4, 8] (.v (.one (.int .i64))) (fun w25 k26 => CallK Try.prog 23 #[.int .i64 x20, .int .i64 90] w25 (.v (.one (.int .i64))) (fun (x27 : Int) w28 => k26 (.int .i64 x27) w28))
  (fun (x24 : Int) => (∀ w29, C8 (mem [3, 4, 8, 9]) w29 → JoinK (Bool × Unit) (fun J30 => ifB (decide (x14 > s5.1))
  (J30 (true, ()) w29)
  (ifB (x14 == s5.1)
  (RunK Try.prog (Instr.lookup 25 (.map s5.2.2.1) (.int .i64 x24) false) w29 (.v (.one .bool)) (fun (x33 : Bool) w34 => ifB (!x33)
  (J30 (decide (x24 > (IntKind.i64.wrap (s5.2.1 - 64))), ()) w34)
  (J30 (false, ()) w34)))
  (J30 (false, ()) w29)))
  (fun _ s31 w32 => CallK Try.prog 24 #[.pointer x1, .int .i64 x14, .int .i64 x24] w32 (.v (.one .bool)) (fun (x35 : Bool) w36 => ifB (!(x35 == s31.1))
  (K (.bool false) w36)
  (ifB (decide (x14 > s5.1))
  (NewK (.map #[] 0) w36 (fun g37 w38 => RunU Try.prog (Instr.mapUpdate 25 (.map (some g37)) (.int .i64 x24) (.bool true)) w38 (fun w39 => CallK Try.prog 25 #[.pointer x1] w39 (.v (.one (.int .i64))) (fun (x40 : Int) w41 => ifB (x40 != x14)
  (K (.bool false) w41)
  (CallK Try.prog 26 #[.pointer x1] w41 (.v (.one (.int .i64))) (fun (x42 : Int) w43 => ifB (x42 != x24)
  (K (.bool false) w43)
  (next7 (x14, x24, (some g37), IntKind.i64.wrap (s5.2.2.2.1 + 1), ()) w43)))))))
  (ifB s31.1
  (RunU Try.prog (Instr.mapUpdate 25 (.map s5.2.2.1) (.int .i64 x24) (.bool true)) w36 (fun w44 => CallK Try.prog 25 #[.pointer x1] w44 (.v (.one (.int .i64))) (fun (x45 : Int) w46 => ifB (x45 != s5.1)
  (K (.bool false) w46)
  (CallK Try.prog 26 #[.pointer x1] w46 (.v (.one (.int .i64))) (fun (x47 : Int) w48 => ifB (x47 != (if x24 > s5.2.1 then x24 else s5.2.1))
  (K (.bool false) w48)
  (next7 (s5.1, (if x24 > s5.2.1 then x24 else s5.2.1), s5.2.2.1, IntKind.i64.wrap (s5.2.2.2.1 + 1), ()) w48))))))
  (CallK Try.prog 25 #[.pointer x1] w36 (.v (.one (.int .i64))) (fun (x49 : Int) w50 => ifB (x49 != s5.1)
  (K (.bool false) w50)
  (CallK Try.prog 26 #[.pointer x1] w50 (.v (.one (.int .i64))) (fun (x51 : Int) w52 => ifB (x51 != s5.2.1)
  (K (.bool false) w52)
  (next7 (s5.1, s5.2.1, s5.2.2.1, IntKind.i64.wrap (s5.2.2.2.1 + 1), ()) w52))))))))))))))))))
  (CallK Try.prog 27 #[] w6 (.v (.one .bool)) (fun (x53 : Bool) w54 => K (.bool x53) w54)))
  (CallK Try.prog 27 #[] w6 (.v (.one .bool)) (fun (x55 : Bool) w56 => K (.bool x55) w56)))
  (CallK Try.prog 27 #[] w6 (.v (.one .bool)) (fun (x57 : Bool) w58 => K (.bool x57) w58)))
  ((-1), (-1), (some g3), 0, ()) w4)))
def pl3 : Plan := (.seq .auto (.seq .auto (.seq .auto (.seq .auto (.seq .auto (.seq (.seq .auto (.block (.loop [(6, .one (.int .i64)), (7, .one (.int .i64)), (8, .one .map), (9, .one (.int .i64))] (.seq .auto (.seq (.block (.seq (.any [(3, .v (.one (.int .i64))), (4, .v (.one (.int .i64))), (8, .v (.one (.int .i64))), (9, .v (.one (.int .i64)))]) (.join [(12, .one .bool)] .auto .auto))) .auto))))) .auto))))))
theorem e3 (p0 : Option Addr) (p0l p0c : Nat) (p1 : Option Addr) (p1l p1c : Nat) (w : World) (K : Value → World → Prop) : vcFunc Try.prog Try.f3 pl3 [.slice p0 p0l p0c, .slice p1 p1l p1c] w K = C3 p0 p0l p0c p1 p1l p1c w K := by kernel_rfl
theorem c3 (p0 : Option Addr) (p0l p0c : Nat) (p1 : Option Addr) (p1l p1c : Nat) (w : World) (K : Value → World → Prop) (h : C3 p0 p0l p0c p1 p1l p1c w K) : Ret Try.prog 3 #[.slice p0 p0l p0c, .slice p1 p1l p1c] w K := by
  rw [← e3] at h
  exact vcFunc_sound (by kernel_rfl) Try.func3 h

end Go.Proofs.Ytejhjjafmobmbaa
