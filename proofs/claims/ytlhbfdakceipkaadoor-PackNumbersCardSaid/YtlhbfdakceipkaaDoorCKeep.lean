/-
  The conditions of some functions, written by a program of this session, each tied to the translation by the kernel.
-/
import Derived.Test.YtlhbfdakceipkaaDoorVcMem
import Derived.Test.YtlhbfdakceipkaaDoorProg
import Derived.KernelRfl
namespace Go.Proofs.YtlhbfdakceipkaaDoor
open Vc
set_option maxRecDepth 100000
set_option linter.unusedVariables false
/-- handfast/handfastkeep.Same[byte] -/
def C7 (p0 : Option Addr) (p0l p0c : Nat) (p1 : Option Addr) (p1l p1c : Nat) (w : World) (K : Value → World → Prop) : Prop :=
  ifB ((p0l : Int) != (p1l : Int))
  (K (.bool false) w)
  (LoopK (Int × Unit) (fun _ s1 w2 next3 => ifB (decide (s1.1 < (p0l : Int)))
  (DrewK w2 (fun w4 => IdxK p0 p0l s1.1 1 (fun a5 => LdK (.int .u8) a5 w4 (fun (x6 : Int) => IdxK p1 p1l s1.1 1 (fun a7 => LdK (.int .u8) a7 w4 (fun (x8 : Int) => ifB (x6 != x8)
  (K (.bool false) w4)
  (next3 (IntKind.i64.wrap (s1.1 + 1), ()) w4)))))))
  (K (.bool true) w2))
  (0, ()) w)
def pl7 : Plan := (.seq .auto (.seq .auto (.seq (.seq .auto (.block (.loop [(5, .one (.int .i64))] (.seq .auto (.seq (.block (.seq .still .auto)) .auto))))) .auto)))
theorem e7 (p0 : Option Addr) (p0l p0c : Nat) (p1 : Option Addr) (p1l p1c : Nat) (w : World) (K : Value → World → Prop) : vcFunc Tryd.prog Tryd.f7 pl7 [.slice p0 p0l p0c, .slice p1 p1l p1c] w K = C7 p0 p0l p0c p1 p1l p1c w K := by kernel_rfl
theorem c7 (p0 : Option Addr) (p0l p0c : Nat) (p1 : Option Addr) (p1l p1c : Nat) (w : World) (K : Value → World → Prop) (h : C7 p0 p0l p0c p1 p1l p1c w K) : Ret Tryd.prog 7 #[.slice p0 p0l p0c, .slice p1 p1l p1c] w K := by
  rw [← e7] at h
  exact vcFunc_sound (by kernel_rfl) Tryd.func7 h

end Go.Proofs.YtlhbfdakceipkaaDoor
