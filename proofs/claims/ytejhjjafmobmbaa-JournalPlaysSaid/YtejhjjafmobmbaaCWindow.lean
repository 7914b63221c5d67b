/-
  The conditions of some functions, written by a program of this session, each tied to the translation by the kernel.
-/
import Derived.Test.YtejhjjafmobmbaaVcMem
import Derived.Test.YtejhjjafmobmbaaProg
import Derived.KernelRfl
namespace Go.Proofs.Ytejhjjafmobmbaa
open Vc
set_option maxRecDepth 100000
set_option linter.unusedVariables false
/-- handfast/window.New -/
def C22  (w : World) (K : Value → World → Prop) : Prop :=
  NewK (.cells #[.int .i64 (-1), .int .i64 (-1), .int .u64 0] 99) w (fun g1 w2 => K (.pointer (some (⟨g1, 0, none⟩ : Addr))) w2)
def pl22 : Plan := .auto
theorem e22  (w : World) (K : Value → World → Prop) : vcFunc Try.prog Try.f22 pl22 [] w K = C22  w K := by kernel_rfl
theorem c22  (w : World) (K : Value → World → Prop) (h : C22  w K) : Ret Try.prog 22 #[] w K := by
  rw [← e22] at h
  exact vcFunc_sound (by kernel_rfl) Try.func22 h

/-- (*handfast/window.Window).Accept -/
def C24 (p0 : Addr) (p1 : Int) (p2 : Int) (w : World) (K : Value → World → Prop) : Prop :=
  ifB (decide (p1 < 0))
  (K (.bool false) w)
  (ifB (decide (p2 < 0))
  (K (.bool false) w)
  (LdK (.int .i64) (p0.add 0) w (fun (x1 : Int) => ifB (decide (p1 < x1))
  (K (.bool false) w)
  (LdK (.int .i64) (p0.add 0) w (fun (x2 : Int) => ifB (decide (p1 > x2))
  (StK (p0.add 0) (.int .i64 p1) w (fun w3 => StK (p0.add 1) (.int .i64 p2) w3 (fun w4 => StK (p0.add 2) (.int .u64 1) w4 (fun w5 => K (.bool true) w5))))
  (LdK (.int .i64) (p0.add 1) w (fun (x6 : Int) => ifB (decide (p2 > x6))
  (LdK (.int .i64) (p0.add 1) w (fun (x7 : Int) => StK (p0.add 1) (.int .i64 p2) w (fun w8 => ifB (decide ((IntKind.i64.wrap (p2 - x7)) ≥ 64))
  (StK (p0.add 2) (.int .u64 0) w8 (fun w9 => LdK (.int .u64) (p0.add 2) w9 (fun (x10 : Int) => NnK (if 63 < IntKind.i64.wrap (p2 - x7) then 63 else IntKind.i64.wrap (p2 - x7)) (StK (p0.add 2) (.int .u64 (IntKind.u64.wrap ((BitVec.ofInt 64 (IntKind.u64.wrap (x10 * 2 ^ (min (Int.toNat (if 63 < IntKind.i64.wrap (p2 - x7) then 63 else IntKind.i64.wrap (p2 - x7))) 64))) ||| BitVec.ofInt 64 1).toNat : Int))) w9 (fun w11 => K (.bool true) w11)))))
  (LdK (.int .u64) (p0.add 2) w8 (fun (x12 : Int) => NnK (if 63 < IntKind.i64.wrap (p2 - x7) then 63 else IntKind.i64.wrap (p2 - x7)) (StK (p0.add 2) (.int .u64 (IntKind.u64.wrap ((BitVec.ofInt 64 (IntKind.u64.wrap (x12 * 2 ^ (min (Int.toNat (if 63 < IntKind.i64.wrap (p2 - x7) then 63 else IntKind.i64.wrap (p2 - x7))) 64))) ||| BitVec.ofInt 64 1).toNat : Int))) w8 (fun w13 => K (.bool true) w13)))))))
  (LdK (.int .i64) (p0.add 1) w (fun (x14 : Int) => ifB (decide ((IntKind.i64.wrap (x14 - p2)) ≥ 64))
  (K (.bool false) w)
  (LdK (.int .u64) (p0.add 2) w (fun (x15 : Int) => NnK (IntKind.i64.wrap (x14 - p2)) (ifB ((IntKind.u64.wrap ((BitVec.ofInt 64 (Int.fdiv x15 (2 ^ (min (Int.toNat (IntKind.i64.wrap (x14 - p2))) 64))) &&& BitVec.ofInt 64 1).toNat : Int)) == 1)
  (K (.bool false) w)
  (DrewK w (fun w16 => LdK (.int .u64) (p0.add 2) w16 (fun (x17 : Int) => NnK (IntKind.i64.wrap (x14 - p2)) (StK (p0.add 2) (.int .u64 (IntKind.u64.wrap ((BitVec.ofInt 64 x17 ||| BitVec.ofInt 64 (IntKind.u64.wrap (1 * 2 ^ (min (Int.toNat (IntKind.i64.wrap (x14 - p2))) 64)))).toNat : Int))) w16 (fun w18 => K (.bool true) w18)))))))))))))))))
def pl24 : Plan := (.seq .auto (.seq .auto (.seq .auto (.seq .auto (.seq (.tail 10) .auto)))))
theorem e24 (p0 : Addr) (p1 : Int) (p2 : Int) (w : World) (K : Value → World → Prop) : vcFunc Try.prog Try.f24 pl24 [.pointer (some p0), .int .i64 p1, .int .i64 p2] w K = C24 p0 p1 p2 w K := by kernel_rfl
theorem c24 (p0 : Addr) (p1 : Int) (p2 : Int) (w : World) (K : Value → World → Prop) (h : C24 p0 p1 p2 w K) : Ret Try.prog 24 #[.pointer (some p0), .int .i64 p1, .int .i64 p2] w K := by
  rw [← e24] at h
  exact vcFunc_sound (by kernel_rfl) Try.func24 h

/-- (*handfast/window.Window).Epoch -/
def C25 (p0 : Addr) (w : World) (K : Value → World → Prop) : Prop :=
  LdK (.int .i64) (p0.add 0) w (fun (x1 : Int) => K (.int .i64 x1) w)
def pl25 : Plan := .auto
theorem e25 (p0 : Addr) (w : World) (K : Value → World → Prop) : vcFunc Try.prog Try.f25 pl25 [.pointer (some p0)] w K = C25 p0 w K := by kernel_rfl
theorem c25 (p0 : Addr) (w : World) (K : Value → World → Prop) (h : C25 p0 w K) : Ret Try.prog 25 #[.pointer (some p0)] w K := by
  rw [← e25] at h
  exact vcFunc_sound (by kernel_rfl) Try.func25 h

/-- (*handfast/window.Window).High -/
def C26 (p0 : Addr) (w : World) (K : Value → World → Prop) : Prop :=
  LdK (.int .i64) (p0.add 1) w (fun (x1 : Int) => K (.int .i64 x1) w)
def pl26 : Plan := .auto
theorem e26 (p0 : Addr) (w : World) (K : Value → World → Prop) : vcFunc Try.prog Try.f26 pl26 [.pointer (some p0)] w K = C26 p0 w K := by kernel_rfl
theorem c26 (p0 : Addr) (w : World) (K : Value → World → Prop) (h : C26 p0 w K) : Ret Try.prog 26 #[.pointer (some p0)] w K := by
  rw [← e26] at h
  exact vcFunc_sound (by kernel_rfl) Try.func26 h

/-- handfast/handfastkeep.Within -/
def C23 (p0 : Int) (p1 : Int) (w : World) (K : Value → World → Prop) : Prop :=
  ifB (decide (p1 < 1))
  (K (.int .i64 0) w)
  (NzK p1 (ifB (decide ((p0.tmod p1) < 0))
  (K (.int .i64 (IntKind.i64.wrap ((p0.tmod p1) + p1))) w)
  (K (.int .i64 (p0.tmod p1)) w)))
def pl23 : Plan := .auto
theorem e23 (p0 : Int) (p1 : Int) (w : World) (K : Value → World → Prop) : vcFunc Try.prog Try.f23 pl23 [.int .i64 p0, .int .i64 p1] w K = C23 p0 p1 w K := by kernel_rfl
theorem c23 (p0 : Int) (p1 : Int) (w : World) (K : Value → World → Prop) (h : C23 p0 p1 w K) : Ret Try.prog 23 #[.int .i64 p0, .int .i64 p1] w K := by
  rw [← e23] at h
  exact vcFunc_sound (by kernel_rfl) Try.func23 h

/-- handfast/handfastlaw20.wakes -/
def C27  (w : World) (K : Value → World → Prop) : Prop :=
  CallK Try.prog 22 #[] w (.v (.one .ptr)) (fun (x1 : Option Addr) w2 => ifB (!(Option.isNone x1))
  (CallK Try.prog 25 #[.pointer x1] w2 (.v (.one (.int .i64))) (fun (x3 : Int) w4 => ifB (x3 == (-1))
  (CallK Try.prog 26 #[.pointer x1] w4 (.v (.one (.int .i64))) (fun (x5 : Int) w6 => ifB (x5 == (-1))
  (CallK Try.prog 24 #[.pointer x1, .int .i64 1, .int .i64 5] w6 (.v (.one .bool)) (fun (x7 : Bool) w8 => ifB x7
  (CallK Try.prog 24 #[.pointer x1, .int .i64 1, .int .i64 5] w8 (.v (.one .bool)) (fun (x9 : Bool) w10 => K (.bool (!x9)) w10))
  (K (.bool false) w8)))
  (K (.bool false) w6)))
  (K (.bool false) w4)))
  (K (.bool false) w2))
def pl27 : Plan := .auto
theorem e27  (w : World) (K : Value → World → Prop) : vcFunc Try.prog Try.f27 pl27 [] w K = C27  w K := by kernel_rfl
theorem c27  (w : World) (K : Value → World → Prop) (h : C27  w K) : Ret Try.prog 27 #[] w K := by
  rw [← e27] at h
  exact vcFunc_sound (by kernel_rfl) Try.func27 h

end Go.Proofs.Ytejhjjafmobmbaa
