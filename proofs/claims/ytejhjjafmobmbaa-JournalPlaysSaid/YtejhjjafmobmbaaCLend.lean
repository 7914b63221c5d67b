/-
  The conditions of some functions, written by a program of this session, each tied to the translation by the kernel.
-/
import Derived.Test.YtejhjjafmobmbaaVcMem
import Derived.Test.YtejhjjafmobmbaaProg
import Derived.KernelRfl
namespace Go.Proofs.Ytejhjjafmobmbaa
open Vc
set_option maxRecDepth 100000
set_option linter.unusedVariables false
/-- handfast/handfastkeep.Lend -/
def C55 (p0 : Option Addr) (p0l p0c : Nat) (w : World) (K : Value → World → Prop) : Prop :=
  RunK Try.prog (Instr.makeSlice 53 (.int .i64 (p0l : Int)) (.int .i64 (IntKind.i64.wrap ((p0l : Int) + 3)))) w (.v (.one .slc)) (fun (x1 : Option Addr × Nat × Nat) w2 => RunK Try.prog (Builtin.copy_ #[53, 53] 3 #[.slice x1.1 x1.2.1 x1.2.2, .slice p0 p0l p0c]) w2 (.v (.one (.int .i64))) (fun (x3 : Int) w4 => SubK x1.1 x1.2.2 0 (IntKind.i64.wrap ((p0l : Int) + 3)) x1.2.2 1 (fun a5 l6 c7 => LoopK (Int × Unit) (fun _ s8 w9 next10 => ifB (decide (s8.1 < (l6 : Int)))
  (IdxK a5 l6 s8.1 1 (fun a11 => StK a11 (.int .u8 85) w9 (fun w12 => next10 (IntKind.i64.wrap (s8.1 + 1), ()) w12)))
  (K (.slice x1.1 x1.2.1 x1.2.2) w9))
  ((p0l : Int), ()) w4)))
def pl55 : Plan := (.seq .auto (.seq .auto (.seq .auto (.seq .auto (.seq (.seq .auto (.block (.loop [(5, .one (.int .i64))] .auto))) .auto)))))
theorem e55 (p0 : Option Addr) (p0l p0c : Nat) (w : World) (K : Value → World → Prop) : vcFunc Try.prog Try.f55 pl55 [.slice p0 p0l p0c] w K = C55 p0 p0l p0c w K := by kernel_rfl
theorem c55 (p0 : Option Addr) (p0l p0c : Nat) (w : World) (K : Value → World → Prop) (h : C55 p0 p0l p0c w K) : Ret Try.prog 55 #[.slice p0 p0l p0c] w K := by
  rw [← e55] at h
  exact vcFunc_sound (by kernel_rfl) Try.func55 h

/-- handfast/handfastkeep.Intact -/
def C57 (p0 : Option Addr) (p0l p0c : Nat) (p1 : Option Addr) (p1l p1c : Nat) (w : World) (K : Value → World → Prop) : Prop :=
  ifB ((p0l : Int) != (p1l : Int))
  (K (.bool false) w)
  (ifB ((p0c : Int) != (IntKind.i64.wrap ((p1l : Int) + 3)))
  (K (.bool false) w)
  (SubK p0 p0c 0 (IntKind.i64.wrap ((p1l : Int) + 3)) p0c 1 (fun a1 l2 c3 => LoopK (Int × Unit) (fun _ s4 w5 next6 => ifB (decide (s4.1 < (l2 : Int)))
  (DrewK w5 (fun w7 => ifB (decide (s4.1 < (p1l : Int)))
  (IdxK a1 l2 s4.1 1 (fun a8 => LdK (.int .u8) a8 w7 (fun (x9 : Int) => IdxK p1 p1l s4.1 1 (fun a10 => LdK (.int .u8) a10 w7 (fun (x11 : Int) => ifB (x9 != x11)
  (K (.bool false) w7)
  (ifB (decide (s4.1 ≥ (p1l : Int)))
  (IdxK a1 l2 s4.1 1 (fun a12 => LdK (.int .u8) a12 w7 (fun (x13 : Int) => ifB (x13 != 85)
  (K (.bool false) w7)
  (next6 (IntKind.i64.wrap (s4.1 + 1), ()) w7))))
  (next6 (IntKind.i64.wrap (s4.1 + 1), ()) w7)))))))
  (ifB (decide (s4.1 ≥ (p1l : Int)))
  (IdxK a1 l2 s4.1 1 (fun a14 => LdK (.int .u8) a14 w7 (fun (x15 : Int) => ifB (x15 != 85)
  (K (.bool false) w7)
  (next6 (IntKind.i64.wrap (s4.1 + 1), ()) w7))))
  (next6 (IntKind.i64.wrap (s4.1 + 1), ()) w7))))
  (K (.bool true) w5))
  (0, ()) w)))
def pl57 : Plan := (.seq .auto (.seq .auto (.seq .auto (.seq (.seq .auto (.block (.loop [(27, .one (.int .i64))] (.seq .auto (.seq .auto (.seq (.block (.seq .auto (.seq .still .auto))) .auto)))))) .auto))))
theorem e57 (p0 : Option Addr) (p0l p0c : Nat) (p1 : Option Addr) (p1l p1c : Nat) (w : World) (K : Value → World → Prop) : vcFunc Try.prog Try.f57 pl57 [.slice p0 p0l p0c, .slice p1 p1l p1c] w K = C57 p0 p0l p0c p1 p1l p1c w K := by kernel_rfl
theorem c57 (p0 : Option Addr) (p0l p0c : Nat) (p1 : Option Addr) (p1l p1c : Nat) (w : World) (K : Value → World → Prop) (h : C57 p0 p0l p0c p1 p1l p1c w K) : Ret Try.prog 57 #[.slice p0 p0l p0c, .slice p1 p1l p1c] w K := by
  rw [← e57] at h
  exact vcFunc_sound (by kernel_rfl) Try.func57 h

end Go.Proofs.Ytejhjjafmobmbaa
