/-
  The conditions of some functions, written by a program of this session, each tied to the translation by the kernel.
-/
import Derived.Test.YtlhbfdakceipkaaDoorVcMem
import Derived.Test.YtlhbfdakceipkaaDoorProg
import Derived.KernelRfl
namespace Go.Proofs.YtlhbfdakceipkaaDoor
open Vc
set_option maxRecDepth 100000
set_option linter.unusedVariables false
/-- handfast/pack.Number -/
def C5 (p0 : Int) (w : World) (K : Value → World → Prop) : Prop :=
  RunK Tryd.prog (Instr.makeSlice 22 (.int .i64 8) (.int .i64 8)) w (.v (.one .slc)) (fun (x1 : Option Addr × Nat × Nat) w2 => LoopK (Int × Unit) (fun _ s3 w4 next5 => ifB (decide (s3.1 < (x1.2.1 : Int)))
  (NnK (IntKind.i64.wrap (56 - (IntKind.i64.wrap (8 * s3.1)))) (IdxK x1.1 x1.2.1 s3.1 1 (fun a6 => StK a6 (.int .u8 (IntKind.u8.wrap (Int.fdiv (IntKind.u64.wrap p0) (2 ^ (min (Int.toNat (IntKind.i64.wrap (56 - (IntKind.i64.wrap (8 * s3.1))))) 64))))) w4 (fun w7 => next5 (IntKind.i64.wrap (s3.1 + 1), ()) w7))))
  (K (.slice x1.1 x1.2.1 x1.2.2) w4))
  (0, ()) w2)
def pl5 : Plan := (.seq .auto (.seq .auto (.seq (.seq .auto (.block (.loop [(8, .one (.int .i64))] .auto))) .auto)))
theorem e5 (p0 : Int) (w : World) (K : Value → World → Prop) : vcFunc Tryd.prog Tryd.f5 pl5 [.int .i64 p0] w K = C5 p0 w K := by kernel_rfl
theorem c5 (p0 : Int) (w : World) (K : Value → World → Prop) (h : C5 p0 w K) : Ret Tryd.prog 5 #[.int .i64 p0] w K := by
  rw [← e5] at h
  exact vcFunc_sound (by kernel_rfl) Tryd.func5 h

/-- handfast/pack.TakeNumber -/
def C6 (p0 : Option Addr) (p0l p0c : Nat) (w : World) (K : Value → World → Prop) : Prop :=
  ifB ((p0l : Int) != 8)
  (K (.tuple #[.int .i64 0, .bool false]) w)
  (LoopK (Int × Int × Unit) (fun _ s1 w2 next3 => ifB (decide (s1.2.1 < (p0l : Int)))
  (IdxK p0 p0l s1.2.1 1 (fun a4 => LdK (.int .u8) a4 w2 (fun (x5 : Int) => NnK 8 (next3 (IntKind.u64.wrap ((BitVec.ofInt 64 (IntKind.u64.wrap (s1.1 * 2 ^ (min (Int.toNat 8) 64))) ||| BitVec.ofInt 64 (IntKind.u64.wrap x5)).toNat : Int), IntKind.i64.wrap (s1.2.1 + 1), ()) w2))))
  (K (.tuple #[.int .i64 (IntKind.i64.wrap s1.1), .bool true]) w2))
  (0, 0, ()) w)
def pl6 : Plan := (.seq .auto (.seq .auto (.seq .auto (.seq (.seq .auto (.block (.loop [(4, .one (.int .u64)), (12, .one (.int .i64))] .auto))) .auto))))
theorem e6 (p0 : Option Addr) (p0l p0c : Nat) (w : World) (K : Value → World → Prop) : vcFunc Tryd.prog Tryd.f6 pl6 [.slice p0 p0l p0c] w K = C6 p0 p0l p0c w K := by kernel_rfl
theorem c6 (p0 : Option Addr) (p0l p0c : Nat) (w : World) (K : Value → World → Prop) (h : C6 p0 p0l p0c w K) : Ret Tryd.prog 6 #[.slice p0 p0l p0c] w K := by
  rw [← e6] at h
  exact vcFunc_sound (by kernel_rfl) Tryd.func6 h

end Go.Proofs.YtlhbfdakceipkaaDoor
