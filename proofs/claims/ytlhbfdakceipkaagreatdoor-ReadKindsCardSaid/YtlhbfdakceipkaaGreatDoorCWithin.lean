/-
  The conditions of some functions, written by a program of this session, each tied to the translation by the kernel.
-/
import Derived.Test.YtlhbfdakceipkaaGreatDoorVcMem
import Derived.Test.YtlhbfdakceipkaaGreatDoorProg
import Derived.KernelRfl
namespace Go.Proofs.YtlhbfdakceipkaaGreatDoor
open Vc
set_option maxRecDepth 100000
set_option linter.unusedVariables false
/-- handfast/handfastkeep.Within -/
def C32 (p0 : Int) (p1 : Int) (w : World) (K : Value → World → Prop) : Prop :=
  ifB (decide (p1 < 1))
  (K (.int .i64 0) w)
  (NzK p1 (ifB (decide ((p0.tmod p1) < 0))
  (K (.int .i64 (IntKind.i64.wrap ((p0.tmod p1) + p1))) w)
  (K (.int .i64 (p0.tmod p1)) w)))
def pl32 : Plan := .auto
theorem e32 (p0 : Int) (p1 : Int) (w : World) (K : Value → World → Prop) : vcFunc Tryz.prog Tryz.f32 pl32 [.int .i64 p0, .int .i64 p1] w K = C32 p0 p1 w K := by kernel_rfl
theorem c32 (p0 : Int) (p1 : Int) (w : World) (K : Value → World → Prop) (h : C32 p0 p1 w K) : Ret Tryz.prog 32 #[.int .i64 p0, .int .i64 p1] w K := by
  rw [← e32] at h
  exact vcFunc_sound (by kernel_rfl) Tryz.func32 h

end Go.Proofs.YtlhbfdakceipkaaGreatDoor
