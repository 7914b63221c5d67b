/-
  The conditions of some functions, written by a program of this session, each tied to the translation by the kernel.
-/
import Derived.Test.YtgkpehbjcaibgaaDoorVcMem
import Derived.Test.YtgkpehbjcaibgaaDoorProg
import Derived.KernelRfl
namespace Go.Proofs.YtgkpehbjcaibgaaDoor
open Vc
set_option maxRecDepth 100000
set_option linter.unusedVariables false
/-- handfast/handfastkeep.Within -/
def C10 (p0 : Int) (p1 : Int) (w : World) (K : Value → World → Prop) : Prop :=
  ifB (decide (p1 < 1))
  (K (.int .i64 0) w)
  (NzK p1 (ifB (decide ((p0.tmod p1) < 0))
  (K (.int .i64 (IntKind.i64.wrap ((p0.tmod p1) + p1))) w)
  (K (.int .i64 (p0.tmod p1)) w)))
def pl10 : Plan := .auto
theorem e10 (p0 : Int) (p1 : Int) (w : World) (K : Value → World → Prop) : vcFunc Tryd.prog Tryd.f10 pl10 [.int .i64 p0, .int .i64 p1] w K = C10 p0 p1 w K := by kernel_rfl
theorem c10 (p0 : Int) (p1 : Int) (w : World) (K : Value → World → Prop) (h : C10 p0 p1 w K) : Ret Tryd.prog 10 #[.int .i64 p0, .int .i64 p1] w K := by
  rw [← e10] at h
  exact vcFunc_sound (by kernel_rfl) Tryd.func10 h

end Go.Proofs.YtgkpehbjcaibgaaDoor
