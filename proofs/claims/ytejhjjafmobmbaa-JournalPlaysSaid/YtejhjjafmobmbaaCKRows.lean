/-
  The conditions of some functions, written by a program of this session, each tied to the translation by the kernel.
-/
import Derived.Test.YtejhjjafmobmbaaVcMem
import Derived.Test.YtejhjjafmobmbaaProg
import Derived.KernelRfl
namespace Go.Proofs.Ytejhjjafmobmbaa
open Vc
set_option maxRecDepth 100000
set_option linter.unusedVariables false
/-- handfast/handfastkeep.Rows[byte] -/
def C67 (p0 : Option Addr) (p0l p0c : Nat) (p1 : Option Addr) (p1l p1c : Nat) (w : World) (K : Value → World → Prop) : Prop :=
  ifB ((p0l : Int) != (p1l : Int))
  (K (.bool false) w)
  (LoopK (Int × Unit) (fun _ s1 w2 next3 => ifB (decide (s1.1 < (p0l : Int)))
  (DrewK w2 (fun w4 => IdxK p0 p0l s1.1 1 (fun a5 => LdK .slc a5 w4 (fun (x6 : Option Addr × Nat × Nat) => IdxK p1 p1l s1.1 1 (fun a7 => LdK .slc a7 w4 (fun (x8 : Option Addr × Nat × Nat) => CallK Try.prog 45 #[.slice x6.1 x6.2.1 x6.2.2, .slice x8.1 x8.2.1 x8.2.2] w4 (.v (.one .bool)) (fun (x9 : Bool) w10 => ifB (!x9)
  (K (.bool false) w10)
  (next3 (IntKind.i64.wrap (s1.1 + 1), ()) w10))))))))
  (K (.bool true) w2))
  (0, ()) w)
def pl67 : Plan := (.seq .auto (.seq .auto (.seq (.seq .auto (.block (.loop [(5, .one (.int .i64))] (.seq .auto (.seq (.block (.seq (.tail 8) .auto)) .auto))))) .auto)))
theorem e67 (p0 : Option Addr) (p0l p0c : Nat) (p1 : Option Addr) (p1l p1c : Nat) (w : World) (K : Value → World → Prop) : vcFunc Try.prog Try.f67 pl67 [.slice p0 p0l p0c, .slice p1 p1l p1c] w K = C67 p0 p0l p0c p1 p1l p1c w K := by kernel_rfl
theorem c67 (p0 : Option Addr) (p0l p0c : Nat) (p1 : Option Addr) (p1l p1c : Nat) (w : World) (K : Value → World → Prop) (h : C67 p0 p0l p0c p1 p1l p1c w K) : Ret Try.prog 67 #[.slice p0 p0l p0c, .slice p1 p1l p1c] w K := by
  rw [← e67] at h
  exact vcFunc_sound (by kernel_rfl) Try.func67 h

end Go.Proofs.Ytejhjjafmobmbaa
