/-
  The conditions of some functions, written by a program of this session, each tied to the translation by the kernel.
-/
import Derived.Test.YtejhjjafmobmbaaVcMem
import Derived.Test.YtejhjjafmobmbaaProg
import Derived.KernelRfl
namespace Go.Proofs.Ytejhjjafmobmbaa
open Vc
set_option maxRecDepth 100000
set_option linter.unusedVariables false
/-- handfast/handfastlaw17.FileCuts -/
def C12 (p0 : Option Addr) (p0l p0c : Nat) (p1 : Option Addr) (p1l p1c : Nat) (p2 : Int) (p3 : Int) (w : World) (K : Value → World → Prop) : Prop :=
  CallK Try.prog 39 #[.int .i64 1000] w (.v (.one .ptr)) (fun (x1 : Option Addr) w2 => ifB (Option.isNone x1)
  (K (.bool false) w2)
  (CallK Try.prog 40 #[.slice p0 p0l p0c, .int .i64 60] w2 (.v (.one .slc)) (fun (x3 : Option Addr × Nat × Nat) w4 => CallK Try.prog 40 #[.slice p1 p1l p1c, .int .i64 60] w4 (.v (.one .slc)) (fun (x5 : Option Addr × Nat × Nat) w6 => CallK Try.prog 41 #[.pointer x1, .slice x3.1 x3.2.1 x3.2.2] w6 (.v (.one (.int .i64))) (fun (x7 : Int) w8 => ifB (x7 != 0)
  (K (.bool false) w8)
  (CallK Try.prog 42 #[.pointer x1] w8 (.v (.one (.int .i64))) (fun (x9 : Int) w10 => ifB (x9 != 0)
  (K (.bool false) w10)
  (CallK Try.prog 41 #[.pointer x1, .slice x5.1 x5.2.1 x5.2.2] w10 (.v (.one (.int .i64))) (fun (x11 : Int) w12 => ifB (x11 != 0)
  (K (.bool false) w12)
  (CallK Try.prog 43 #[.pointer x1, .int .i64 p2, .int .u8 p3] w12 (.tup []) (fun (x13 : Unit) w14 => RegK w14 (fun C15 => AnyK C15 1 [] (.v (.one .slc)) (fun w17 k18 => CallK Try.prog 44 #[.slice x3.1 x3.2.1 x3.2.2] w17 (.v (.one .slc)) (fun (x19 : Option Addr × Nat × Nat) w20 => k18 (.slice x19.1 x19.2.1 x19.2.2) w20))
  (fun (x16 : Option Addr × Nat × Nat) => SubK x5.1 x5.2.2 0 (if (x5.2.1 : Int) < (if 0 > p2 then 0 else p2) then (x5.2.1 : Int) else (if 0 > p2 then 0 else p2)) x5.2.2 1 (fun a21 l22 c23 => AnyK C15 5 [1] (.v (.one .slc)) (fun w25 k26 => RunK Try.prog (Builtin.append_ #[53, 53] 53 #[.slice x16.1 x16.2.1 x16.2.2, .slice a21 l22 c23]) w25 (.v (.one .slc)) (fun (x27 : Option Addr × Nat × Nat) w28 => k26 (.slice x27.1 x27.2.1 x27.2.2) w28))
  (fun (x24 : Option Addr × Nat × Nat) => (∀ w29, C15 (mem [1, 5]) w29 → ifB (decide ((if (x5.2.1 : Int) < (if 0 > p2 then 0 else p2) then (x5.2.1 : Int) else (if 0 > p2 then 0 else p2)) > 0))
  (IdxK x24.1 x24.2.1 (IntKind.i64.wrap ((x24.2.1 : Int) - 1)) 1 (fun a30 => LdK (.int .u8) a30 w29 (fun (x31 : Int) => IdxK x24.1 x24.2.1 (IntKind.i64.wrap ((x24.2.1 : Int) - 1)) 1 (fun a32 => StK a32 (.int .u8 (IntKind.u8.wrap ((BitVec.ofInt 8 x31 ^^^ BitVec.ofInt 8 p3).toNat : Int))) w29 (fun w33 => CallK Try.prog 46 #[.pointer x1] w33 (.v (.one .slc)) (fun (x34 : Option Addr × Nat × Nat) w35 => CallK Try.prog 45 #[.slice x34.1 x34.2.1 x34.2.2, .slice x24.1 x24.2.1 x24.2.2] w35 (.v (.one .bool)) (fun (x36 : Bool) w37 => ifB x36
  (CallK Try.prog 47 #[.pointer x1] w37 (.v (.one (.int .i64))) (fun (x38 : Int) w39 => ifB (x38 == (x24.2.1 : Int))
  (CallK Try.prog 48 #[.pointer x1] w39 (.v (.one .bool)) (fun (x40 : Bool) w41 => ifB (!x40)
  (CallK Try.prog 49 #[] w41 (.v (.one .bool)) (fun (x42 : Bool) w43 => K (.bool x42) w43))
  (K (.bool false) w41)))
  (K (.bool false) w39)))
  (K (.bool false) w37))))))))
  (CallK Try.prog 46 #[.pointer x1] w29 (.v (.one .slc)) (fun (x44 : Option Addr × Nat × Nat) w45 => CallK Try.prog 45 #[.slice x44.1 x44.2.1 x44.2.2, .slice x24.1 x24.2.1 x24.2.2] w45 (.v (.one .bool)) (fun (x46 : Bool) w47 => ifB x46
  (CallK Try.prog 47 #[.pointer x1] w47 (.v (.one (.int .i64))) (fun (x48 : Int) w49 => ifB (x48 == (x24.2.1 : Int))
  (CallK Try.prog 48 #[.pointer x1] w49 (.v (.one .bool)) (fun (x50 : Bool) w51 => ifB (!x50)
  (CallK Try.prog 49 #[] w51 (.v (.one .bool)) (fun (x52 : Bool) w53 => K (.bool x52) w53))
  (K (.bool false) w51)))
  (K (.bool false) w49)))
  (K (.bool false) w47))))))))))))))))))))
def pl12 : Plan := (.seq .auto (.seq .auto (.seq .auto (.seq .auto (.seq .auto (.seq .auto (.seq .auto (.seq (.any [(1, .v (.one .slc)), (5, .v (.one .slc))]) .auto))))))))
theorem e12 (p0 : Option Addr) (p0l p0c : Nat) (p1 : Option Addr) (p1l p1c : Nat) (p2 : Int) (p3 : Int) (w : World) (K : Value → World → Prop) : vcFunc Try.prog Try.f12 pl12 [.slice p0 p0l p0c, .slice p1 p1l p1c, .int .i64 p2, .int .u8 p3] w K = C12 p0 p0l p0c p1 p1l p1c p2 p3 w K := by kernel_rfl
theorem c12 (p0 : Option Addr) (p0l p0c : Nat) (p1 : Option Addr) (p1l p1c : Nat) (p2 : Int) (p3 : Int) (w : World) (K : Value → World → Prop) (h : C12 p0 p0l p0c p1 p1l p1c p2 p3 w K) : Ret Try.prog 12 #[.slice p0 p0l p0c, .slice p1 p1l p1c, .int .i64 p2, .int .u8 p3] w K := by
  rw [← e12] at h
  exact vcFunc_sound (by kernel_rfl) Try.func12 h

end Go.Proofs.Ytejhjjafmobmbaa
