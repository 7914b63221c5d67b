/-
  The conditions of some functions, written by a program of this session, each tied to the translation by the kernel.
-/
import Derived.Test.YtejhjjafmobmbaaVcMem
import Derived.Test.YtejhjjafmobmbaaProg
import Derived.KernelRfl
namespace Go.Proofs.Ytejhjjafmobmbaa
open Vc
set_option maxRecDepth 100000
set_option linter.unusedVariables false
/-- handfast/handfastlaw17.FileMemory -/
def C13 (p0 : Option Addr) (p0l p0c : Nat) (p1 : Option Addr) (p1l p1c : Nat) (w : World) (K : Value → World → Prop) : Prop :=
  CallK Try.prog 39 #[.int .i64 1000] w (.v (.one .ptr)) (fun (x1 : Option Addr) w2 => ifB (Option.isNone x1)
  (K (.bool false) w2)
  (CallK Try.prog 40 #[.slice p0 p0l p0c, .int .i64 100] w2 (.v (.one .slc)) (fun (x3 : Option Addr × Nat × Nat) w4 => CallK Try.prog 40 #[.slice p1 p1l p1c, .int .i64 100] w4 (.v (.one .slc)) (fun (x5 : Option Addr × Nat × Nat) w6 => CallK Try.prog 44 #[.slice x3.1 x3.2.1 x3.2.2] w6 (.v (.one .slc)) (fun (x7 : Option Addr × Nat × Nat) w8 => CallK Try.prog 41 #[.pointer x1, .slice x7.1 x7.2.1 x7.2.2] w8 (.v (.one (.int .i64))) (fun (x9 : Int) w10 => ifB (x9 != 0)
  (K (.bool false) w10)
  (CallK Try.prog 50 #[.slice x7.1 x7.2.1 x7.2.2] w10 (.tup []) (fun (x11 : Unit) w12 => CallK Try.prog 46 #[.pointer x1] w12 (.v (.one .slc)) (fun (x13 : Option Addr × Nat × Nat) w14 => CallK Try.prog 50 #[.slice x13.1 x13.2.1 x13.2.2] w14 (.tup []) (fun (x15 : Unit) w16 => CallK Try.prog 51 #[.pointer x1] w16 (.v (.one .ptr)) (fun (x17 : Option Addr) w18 => ifB (Option.isNone x17)
  (K (.bool false) w18)
  (CallK Try.prog 41 #[.pointer x17, .slice x5.1 x5.2.1 x5.2.2] w18 (.v (.one (.int .i64))) (fun (x19 : Int) w20 => ifB (x19 != 0)
  (K (.bool false) w20)
  (CallK Try.prog 42 #[.pointer x17] w20 (.v (.one (.int .i64))) (fun (x21 : Int) w22 => ifB (x21 != 0)
  (K (.bool false) w22)
  (CallK Try.prog 52 #[.pointer x17, .int .i64 0] w22 (.tup []) (fun (x23 : Unit) w24 => CallK Try.prog 42 #[.pointer x17] w24 (.v (.one (.int .i64))) (fun (x25 : Int) w26 => ifB (x25 != 11)
  (K (.bool false) w26)
  (CallK Try.prog 48 #[.pointer x17] w26 (.v (.one .bool)) (fun (x27 : Bool) w28 => ifB (!x27)
  (K (.bool false) w28)
  (CallK Try.prog 48 #[.pointer x1] w28 (.v (.one .bool)) (fun (x29 : Bool) w30 => ifB x29
  (K (.bool false) w30)
  (CallK Try.prog 47 #[.pointer x1] w30 (.v (.one (.int .i64))) (fun (x31 : Int) w32 => ifB (x31 != 0)
  (K (.bool false) w32)
  (CallK Try.prog 46 #[.pointer x1] w32 (.v (.one .slc)) (fun (x33 : Option Addr × Nat × Nat) w34 => CallK Try.prog 45 #[.slice x33.1 x33.2.1 x33.2.2, .slice x3.1 x3.2.1 x3.2.2] w34 (.v (.one .bool)) (fun (x35 : Bool) w36 => ifB x35
  (CallK Try.prog 46 #[.pointer x17] w36 (.v (.one .slc)) (fun (x37 : Option Addr × Nat × Nat) w38 => CallK Try.prog 44 #[.slice x3.1 x3.2.1 x3.2.2] w38 (.v (.one .slc)) (fun (x39 : Option Addr × Nat × Nat) w40 => RunK Try.prog (Builtin.append_ #[53, 53] 53 #[.slice x39.1 x39.2.1 x39.2.2, .slice x5.1 x5.2.1 x5.2.2]) w40 (.v (.one .slc)) (fun (x41 : Option Addr × Nat × Nat) w42 => CallK Try.prog 45 #[.slice x37.1 x37.2.1 x37.2.2, .slice x41.1 x41.2.1 x41.2.2] w42 (.v (.one .bool)) (fun (x43 : Bool) w44 => ifB x43
  (CallK Try.prog 49 #[] w44 (.v (.one .bool)) (fun (x45 : Bool) w46 => K (.bool x45) w46))
  (K (.bool false) w44))))))
  (K (.bool false) w36))))))))))))))))))))))))))))
def pl13 : Plan := .auto
theorem e13 (p0 : Option Addr) (p0l p0c : Nat) (p1 : Option Addr) (p1l p1c : Nat) (w : World) (K : Value → World → Prop) : vcFunc Try.prog Try.f13 pl13 [.slice p0 p0l p0c, .slice p1 p1l p1c] w K = C13 p0 p0l p0c p1 p1l p1c w K := by kernel_rfl
theorem c13 (p0 : Option Addr) (p0l p0c : Nat) (p1 : Option Addr) (p1l p1c : Nat) (w : World) (K : Value → World → Prop) (h : C13 p0 p0l p0c p1 p1l p1c w K) : Ret Try.prog 13 #[.slice p0 p0l p0c, .slice p1 p1l p1c] w K := by
  rw [← e13] at h
  exact vcFunc_sound (by kernel_rfl) Try.func13 h

end Go.Proofs.Ytejhjjafmobmbaa
