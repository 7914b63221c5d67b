/-
  The conditions of some functions, written by a program of this session, each tied to the translation by the kernel.
-/
import Derived.Test.YtejhjjafmobmbaaVcMem
import Derived.Test.YtejhjjafmobmbaaProg
import Derived.KernelRfl
namespace Go.Proofs.Ytejhjjafmobmbaa
open Vc
set_option maxRecDepth 100000
set_option linter.unusedVariables false
/-- handfast/handfastkeep.Cut[byte] -/
def C40 (p0 : Option Addr) (p0l p0c : Nat) (p1 : Int) (w : World) (K : Value → World → Prop) : Prop :=
  SubK p0 p0c 0 (if p1 < (p0l : Int) then p1 else (p0l : Int)) p0c 1 (fun a1 l2 c3 => CallK Try.prog 44 #[.slice a1 l2 c3] w (.v (.one .slc)) (fun (x4 : Option Addr × Nat × Nat) w5 => K (.slice x4.1 x4.2.1 x4.2.2) w5))
def pl40 : Plan := .auto
theorem e40 (p0 : Option Addr) (p0l p0c : Nat) (p1 : Int) (w : World) (K : Value → World → Prop) : vcFunc Try.prog Try.f40 pl40 [.slice p0 p0l p0c, .int .i64 p1] w K = C40 p0 p0l p0c p1 w K := by kernel_rfl
theorem c40 (p0 : Option Addr) (p0l p0c : Nat) (p1 : Int) (w : World) (K : Value → World → Prop) (h : C40 p0 p0l p0c p1 w K) : Ret Try.prog 40 #[.slice p0 p0l p0c, .int .i64 p1] w K := by
  rw [← e40] at h
  exact vcFunc_sound (by kernel_rfl) Try.func40 h

/-- handfast/handfastkeep.Copy[byte] -/
def C44 (p0 : Option Addr) (p0l p0c : Nat) (w : World) (K : Value → World → Prop) : Prop :=
  RunK Try.prog (Builtin.append_ #[53, 53] 53 #[.slice none 0 0, .slice p0 p0l p0c]) w (.v (.one .slc)) (fun (x1 : Option Addr × Nat × Nat) w2 => K (.slice x1.1 x1.2.1 x1.2.2) w2)
def pl44 : Plan := .auto
theorem e44 (p0 : Option Addr) (p0l p0c : Nat) (w : World) (K : Value → World → Prop) : vcFunc Try.prog Try.f44 pl44 [.slice p0 p0l p0c] w K = C44 p0 p0l p0c w K := by kernel_rfl
theorem c44 (p0 : Option Addr) (p0l p0c : Nat) (w : World) (K : Value → World → Prop) (h : C44 p0 p0l p0c w K) : Ret Try.prog 44 #[.slice p0 p0l p0c] w K := by
  rw [← e44] at h
  exact vcFunc_sound (by kernel_rfl) Try.func44 h

/-- handfast/handfastkeep.Same[byte] -/
def C45 (p0 : Option Addr) (p0l p0c : Nat) (p1 : Option Addr) (p1l p1c : Nat) (w : World) (K : Value → World → Prop) : Prop :=
  ifB ((p0l : Int) != (p1l : Int))
  (K (.bool false) w)
  (LoopK (Int × Unit) (fun _ s1 w2 next3 => ifB (decide (s1.1 < (p0l : Int)))
  (DrewK w2 (fun w4 => IdxK p0 p0l s1.1 1 (fun a5 => LdK (.int .u8) a5 w4 (fun (x6 : Int) => IdxK p1 p1l s1.1 1 (fun a7 => LdK (.int .u8) a7 w4 (fun (x8 : Int) => ifB (x6 != x8)
  (K (.bool false) w4)
  (next3 (IntKind.i64.wrap (s1.1 + 1), ()) w4)))))))
  (K (.bool true) w2))
  (0, ()) w)
def pl45 : Plan := (.seq .auto (.seq .auto (.seq (.seq .auto (.block (.loop [(5, .one (.int .i64))] (.seq .auto (.seq (.block (.seq .still .auto)) .auto))))) .auto)))
theorem e45 (p0 : Option Addr) (p0l p0c : Nat) (p1 : Option Addr) (p1l p1c : Nat) (w : World) (K : Value → World → Prop) : vcFunc Try.prog Try.f45 pl45 [.slice p0 p0l p0c, .slice p1 p1l p1c] w K = C45 p0 p0l p0c p1 p1l p1c w K := by kernel_rfl
theorem c45 (p0 : Option Addr) (p0l p0c : Nat) (p1 : Option Addr) (p1l p1c : Nat) (w : World) (K : Value → World → Prop) (h : C45 p0 p0l p0c p1 p1l p1c w K) : Ret Try.prog 45 #[.slice p0 p0l p0c, .slice p1 p1l p1c] w K := by
  rw [← e45] at h
  exact vcFunc_sound (by kernel_rfl) Try.func45 h

/-- handfast/handfastkeep.Spoil -/
def C50 (p0 : Option Addr) (p0l p0c : Nat) (w : World) (K : Value → World → Prop) : Prop :=
  SubK p0 p0c 0 (p0c : Int) p0c 1 (fun a1 l2 c3 => LoopK (Int × Unit) (fun _ s4 w5 next6 => ifB (decide (s4.1 < (l2 : Int)))
  (IdxK a1 l2 s4.1 1 (fun a7 => LdK (.int .u8) a7 w5 (fun (x8 : Int) => IdxK a1 l2 s4.1 1 (fun a9 => StK a9 (.int .u8 (IntKind.u8.wrap ((BitVec.ofInt 8 x8 ^^^ BitVec.ofInt 8 119).toNat : Int))) w5 (fun w10 => next6 (IntKind.i64.wrap (s4.1 + 1), ()) w10)))))
  (K (.tuple #[]) w5))
  (0, ()) w)
def pl50 : Plan := (.seq .auto (.seq .auto (.block (.loop [(10, .one (.int .i64))] .auto))))
theorem e50 (p0 : Option Addr) (p0l p0c : Nat) (w : World) (K : Value → World → Prop) : vcFunc Try.prog Try.f50 pl50 [.slice p0 p0l p0c] w K = C50 p0 p0l p0c w K := by kernel_rfl
theorem c50 (p0 : Option Addr) (p0l p0c : Nat) (w : World) (K : Value → World → Prop) (h : C50 p0 p0l p0c w K) : Ret Try.prog 50 #[.slice p0 p0l p0c] w K := by
  rw [← e50] at h
  exact vcFunc_sound (by kernel_rfl) Try.func50 h

/-- handfast/handfastlaw17.wakes -/
def C49  (w : World) (K : Value → World → Prop) : Prop :=
  CallK Try.prog 39 #[.int .i64 10] w (.v (.one .ptr)) (fun (x1 : Option Addr) w2 => ifB (Option.isNone x1)
  (K (.bool false) w2)
  (RunK Try.prog (Instr.buildSlice 53 2 #[(0, .int .u8 97), (1, .int .u8 98)]) w2 (.v (.one .slc)) (fun (x3 : Option Addr × Nat × Nat) w4 => RunK Try.prog (convert 53 53 (.slice x3.1 x3.2.1 x3.2.2)) w4 (.v (.one .slc)) (fun (x5 : Option Addr × Nat × Nat) w6 => CallK Try.prog 41 #[.pointer x1, .slice x5.1 x5.2.1 x5.2.2] w6 (.v (.one (.int .i64))) (fun (x7 : Int) w8 => ifB (x7 != 0)
  (K (.bool false) w8)
  (CallK Try.prog 43 #[.pointer x1, .int .i64 0, .int .u8 0] w8 (.tup []) (fun (x9 : Unit) w10 => CallK Try.prog 46 #[.pointer x1] w10 (.v (.one .slc)) (fun (x11 : Option Addr × Nat × Nat) w12 => ifB ((x11.2.1 : Int) == 0)
  (RunK Try.prog (Instr.buildSlice 53 1 #[(0, .int .u8 99)]) w12 (.v (.one .slc)) (fun (x13 : Option Addr × Nat × Nat) w14 => RunK Try.prog (convert 53 53 (.slice x13.1 x13.2.1 x13.2.2)) w14 (.v (.one .slc)) (fun (x15 : Option Addr × Nat × Nat) w16 => CallK Try.prog 41 #[.pointer x1, .slice x15.1 x15.2.1 x15.2.2] w16 (.v (.one (.int .i64))) (fun (x17 : Int) w18 => ifB (x17 == 0)
  (CallK Try.prog 42 #[.pointer x1] w18 (.v (.one (.int .i64))) (fun (x19 : Int) w20 => ifB (x19 == 0)
  (CallK Try.prog 47 #[.pointer x1] w20 (.v (.one (.int .i64))) (fun (x21 : Int) w22 => K (.bool (x21 == 1)) w22))
  (K (.bool false) w20)))
  (K (.bool false) w18)))))
  (K (.bool false) w12)))))))))
def pl49 : Plan := .auto
theorem e49  (w : World) (K : Value → World → Prop) : vcFunc Try.prog Try.f49 pl49 [] w K = C49  w K := by kernel_rfl
theorem c49  (w : World) (K : Value → World → Prop) (h : C49  w K) : Ret Try.prog 49 #[] w K := by
  rw [← e49] at h
  exact vcFunc_sound (by kernel_rfl) Try.func49 h

end Go.Proofs.Ytejhjjafmobmbaa
