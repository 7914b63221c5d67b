/-
  The conditions of some functions, written by a program of this session, each tied to the translation by the kernel.
-/
import Derived.Test.YtejhjjafmobmbaaVcMem
import Derived.Test.YtejhjjafmobmbaaProg
import Derived.KernelRfl
namespace Go.Proofs.Ytejhjjafmobmbaa
open Vc
set_option maxRecDepth 100000
set_option linter.unusedVariables false
/-- handfast/handfastlaw17.FileQuota -/
def C14 (p0 : Int) (p1 : Int) (p2 : Int) (w : World) (K : Value → World → Prop) : Prop :=
  CallK Try.prog 39 #[.int .i64 p0] w (.v (.one .ptr)) (fun (x1 : Option Addr) w2 => ifB (Option.isNone x1)
  (K (.bool false) w2)
  (CallK Try.prog 23 #[.int .i64 p1, .int .i64 (IntKind.i64.wrap ((if 65536 < (if 0 > p0 then 0 else p0) then 65536 else (if 0 > p0 then 0 else p0)) + 1))] w2 (.v (.one (.int .i64))) (fun (x3 : Int) w4 => RunK Try.prog (Instr.makeSlice 53 (.int .i64 x3) (.int .i64 x3)) w4 (.v (.one .slc)) (fun (x5 : Option Addr × Nat × Nat) w6 => CallK Try.prog 41 #[.pointer x1, .slice x5.1 x5.2.1 x5.2.2] w6 (.v (.one (.int .i64))) (fun (x7 : Int) w8 => ifB (x7 != 0)
  (K (.bool false) w8)
  (RunK Try.prog (Instr.makeSlice 53 (.int .i64 (IntKind.i64.wrap ((IntKind.i64.wrap ((if 65536 < (if 0 > p0 then 0 else p0) then 65536 else (if 0 > p0 then 0 else p0)) - x3)) + 1))) (.int .i64 (IntKind.i64.wrap ((IntKind.i64.wrap ((if 65536 < (if 0 > p0 then 0 else p0) then 65536 else (if 0 > p0 then 0 else p0)) - x3)) + 1)))) w8 (.v (.one .slc)) (fun (x9 : Option Addr × Nat × Nat) w10 => CallK Try.prog 41 #[.pointer x1, .slice x9.1 x9.2.1 x9.2.2] w10 (.v (.one (.int .i64))) (fun (x11 : Int) w12 => ifB (x11 != 10)
  (K (.bool false) w12)
  (CallK Try.prog 46 #[.pointer x1] w12 (.v (.one .slc)) (fun (x13 : Option Addr × Nat × Nat) w14 => ifB ((x13.2.1 : Int) != x3)
  (K (.bool false) w14)
  (RunK Try.prog (Instr.makeSlice 53 (.int .i64 (IntKind.i64.wrap ((if 65536 < (if 0 > p0 then 0 else p0) then 65536 else (if 0 > p0 then 0 else p0)) - x3))) (.int .i64 (IntKind.i64.wrap ((if 65536 < (if 0 > p0 then 0 else p0) then 65536 else (if 0 > p0 then 0 else p0)) - x3)))) w14 (.v (.one .slc)) (fun (x15 : Option Addr × Nat × Nat) w16 => CallK Try.prog 41 #[.pointer x1, .slice x15.1 x15.2.1 x15.2.2] w16 (.v (.one (.int .i64))) (fun (x17 : Int) w18 => ifB (x17 != 0)
  (K (.bool false) w18)
  (RunK Try.prog (Instr.buildSlice 53 1 #[(0, .int .u8 1)]) w18 (.v (.one .slc)) (fun (x19 : Option Addr × Nat × Nat) w20 => CallK Try.prog 41 #[.pointer x1, .slice x19.1 x19.2.1 x19.2.2] w20 (.v (.one (.int .i64))) (fun (x21 : Int) w22 => ifB (x21 != 10)
  (K (.bool false) w22)
  (CallK Try.prog 23 #[.int .i64 p2, .int .i64 (IntKind.i64.wrap ((if 65536 < (if 0 > p0 then 0 else p0) then 65536 else (if 0 > p0 then 0 else p0)) + 1))] w22 (.v (.one (.int .i64))) (fun (x23 : Int) w24 => CallK Try.prog 47 #[.pointer x1] w24 (.v (.one (.int .i64))) (fun (x25 : Int) w26 => ifB (x25 == 0)
  (CallK Try.prog 53 #[.pointer x1, .int .i64 x23] w26 (.v (.one (.int .i64))) (fun (x27 : Int) w28 => ifB (x27 == 0)
  (CallK Try.prog 47 #[.pointer x1] w28 (.v (.one (.int .i64))) (fun (x29 : Int) w30 => ifB (x29 == x23)
  (CallK Try.prog 46 #[.pointer x1] w30 (.v (.one .slc)) (fun (x31 : Option Addr × Nat × Nat) w32 => ifB ((x31.2.1 : Int) == x23)
  (CallK Try.prog 53 #[.pointer x1, .int .i64 (IntKind.i64.wrap (x23 + 1))] w32 (.v (.one (.int .i64))) (fun (x33 : Int) w34 => ifB (x33 == 1)
  (RunK Try.prog (Instr.makeSlice 53 (.int .i64 (IntKind.i64.wrap ((if 65536 < (if 0 > p0 then 0 else p0) then 65536 else (if 0 > p0 then 0 else p0)) - x23))) (.int .i64 (IntKind.i64.wrap ((if 65536 < (if 0 > p0 then 0 else p0) then 65536 else (if 0 > p0 then 0 else p0)) - x23)))) w34 (.v (.one .slc)) (fun (x35 : Option Addr × Nat × Nat) w36 => CallK Try.prog 41 #[.pointer x1, .slice x35.1 x35.2.1 x35.2.2] w36 (.v (.one (.int .i64))) (fun (x37 : Int) w38 => ifB (x37 == 0)
  (CallK Try.prog 49 #[] w38 (.v (.one .bool)) (fun (x39 : Bool) w40 => K (.bool x39) w40))
  (K (.bool false) w38))))
  (K (.bool false) w34)))
  (K (.bool false) w32)))
  (K (.bool false) w30)))
  (K (.bool false) w28)))
  (K (.bool false) w26))))))))))))))))))))
def pl14 : Plan := .auto
theorem e14 (p0 : Int) (p1 : Int) (p2 : Int) (w : World) (K : Value → World → Prop) : vcFunc Try.prog Try.f14 pl14 [.int .i64 p0, .int .i64 p1, .int .i64 p2] w K = C14 p0 p1 p2 w K := by kernel_rfl
theorem c14 (p0 : Int) (p1 : Int) (p2 : Int) (w : World) (K : Value → World → Prop) (h : C14 p0 p1 p2 w K) : Ret Try.prog 14 #[.int .i64 p0, .int .i64 p1, .int .i64 p2] w K := by
  rw [← e14] at h
  exact vcFunc_sound (by kernel_rfl) Try.func14 h

end Go.Proofs.Ytejhjjafmobmbaa
