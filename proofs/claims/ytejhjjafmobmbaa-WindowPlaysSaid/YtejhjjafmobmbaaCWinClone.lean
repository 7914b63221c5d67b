/-
  The conditions of some functions, written by a program of this session, each tied to the translation by the kernel.
-/
import Derived.Test.YtejhjjafmobmbaaVcMem
import Derived.Test.YtejhjjafmobmbaaProg
import Derived.KernelRfl
namespace Go.Proofs.Ytejhjjafmobmbaa
open Vc
set_option maxRecDepth 100000
set_option linter.unusedVariables false
/-- (*handfast/window.Window).Clone -/
def C30 (p0 : Addr) (w : World) (K : Value → World → Prop) : Prop :=
  LdsK [.int .i64, .int .i64, .int .u64] p0 w (fun (x1 : Int × Int × Int × Unit) => NewK (.cells #[.int .i64 0, .int .i64 0, .int .u64 0] 99) w (fun g2 w3 => StsK (⟨g2, 0, none⟩ : Addr) [.int .i64 x1.1, .int .i64 x1.2.1, .int .u64 x1.2.2.1] w3 (fun w4 => K (.pointer (some (⟨g2, 0, none⟩ : Addr))) w4)))
def pl30 : Plan := .auto
theorem e30 (p0 : Addr) (w : World) (K : Value → World → Prop) : vcFunc Try.prog Try.f30 pl30 [.pointer (some p0)] w K = C30 p0 w K := by kernel_rfl
theorem c30 (p0 : Addr) (w : World) (K : Value → World → Prop) (h : C30 p0 w K) : Ret Try.prog 30 #[.pointer (some p0)] w K := by
  rw [← e30] at h
  exact vcFunc_sound (by kernel_rfl) Try.func30 h

end Go.Proofs.Ytejhjjafmobmbaa
