/-
  The conditions of some functions, written by a program of this session, each tied to the translation by the kernel.
-/
import Derived.Test.YtlhbfdakceipkaaDoorVcMem
import Derived.Test.YtlhbfdakceipkaaDoorProg
import Derived.KernelRfl
namespace Go.Proofs.YtlhbfdakceipkaaDoor
open Vc
set_option maxRecDepth 100000
set_option linter.unusedVariables false
/-- handfast/handfastlaw12.PackNumbers -/
def C3 (p0 : Int) (p1 : Option Addr) (p1l p1c : Nat) (w : World) (K : Value → World → Prop) : Prop :=
  CallK Tryd.prog 5 #[.int .i64 p0] w (.v (.one .slc)) (fun (x1 : Option Addr × Nat × Nat) w2 => ifB ((x1.2.1 : Int) != 8)
  (K (.bool false) w2)
  (LoopK (Int × Int × Unit) (fun _ s3 w4 next5 => ifB (decide (s3.2.1 < 8))
  (IdxK x1.1 x1.2.1 s3.2.1 1 (fun a6 => LdK (.int .u8) a6 w4 (fun (x7 : Int) => next5 (IntKind.u64.wrap ((IntKind.u64.wrap (s3.1 * 256)) + (IntKind.u64.wrap x7)), IntKind.i64.wrap (s3.2.1 + 1), ()) w4)))
  (CallK Tryd.prog 6 #[.slice p1 p1l p1c] w4 (.tup [.one (.int .i64), .one .bool]) (fun (x8 : Int × Bool × Unit) w9 => ifB (s3.1 == (IntKind.u64.wrap p0))
  (ifB (x8.2.1 == ((p1l : Int) == 8))
  (ifB x8.2.1
  (ifB (!x8.2.1)
  (CallK Tryd.prog 8 #[] w9 (.v (.one .bool)) (fun (x10 : Bool) w11 => K (.bool x10) w11))
  (CallK Tryd.prog 5 #[.int .i64 x8.1] w9 (.v (.one .slc)) (fun (x12 : Option Addr × Nat × Nat) w13 => CallK Tryd.prog 7 #[.slice x12.1 x12.2.1 x12.2.2, .slice p1 p1l p1c] w13 (.v (.one .bool)) (fun (x14 : Bool) w15 => ifB x14
  (CallK Tryd.prog 8 #[] w15 (.v (.one .bool)) (fun (x16 : Bool) w17 => K (.bool x16) w17))
  (K (.bool false) w15)))))
  (ifB (x8.1 == 0)
  (ifB (!x8.2.1)
  (CallK Tryd.prog 8 #[] w9 (.v (.one .bool)) (fun (x18 : Bool) w19 => K (.bool x18) w19))
  (CallK Tryd.prog 5 #[.int .i64 x8.1] w9 (.v (.one .slc)) (fun (x20 : Option Addr × Nat × Nat) w21 => CallK Tryd.prog 7 #[.slice x20.1 x20.2.1 x20.2.2, .slice p1 p1l p1c] w21 (.v (.one .bool)) (fun (x22 : Bool) w23 => ifB x22
  (CallK Tryd.prog 8 #[] w23 (.v (.one .bool)) (fun (x24 : Bool) w25 => K (.bool x24) w25))
  (K (.bool false) w23)))))
  (K (.bool false) w9)))
  (K (.bool false) w9))
  (K (.bool false) w9))))
  (0, 0, ()) w2))
def pl3 : Plan := (.seq .auto (.seq .auto (.seq .auto (.seq .auto (.seq (.seq .auto (.block (.loop [(6, .one (.int .u64)), (7, .one (.int .i64))] .auto))) .auto)))))
theorem e3 (p0 : Int) (p1 : Option Addr) (p1l p1c : Nat) (w : World) (K : Value → World → Prop) : vcFunc Tryd.prog Tryd.f3 pl3 [.int .i64 p0, .slice p1 p1l p1c] w K = C3 p0 p1 p1l p1c w K := by kernel_rfl
theorem c3 (p0 : Int) (p1 : Option Addr) (p1l p1c : Nat) (w : World) (K : Value → World → Prop) (h : C3 p0 p1 p1l p1c w K) : Ret Tryd.prog 3 #[.int .i64 p0, .slice p1 p1l p1c] w K := by
  rw [← e3] at h
  exact vcFunc_sound (by kernel_rfl) Tryd.func3 h

end Go.Proofs.YtlhbfdakceipkaaDoor
