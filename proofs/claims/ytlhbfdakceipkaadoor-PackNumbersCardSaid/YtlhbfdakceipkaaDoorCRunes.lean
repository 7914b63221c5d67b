/-
  The conditions of some functions, written by a program of this session, each tied to the translation by the kernel.
-/
import Derived.Test.YtlhbfdakceipkaaDoorVcMem
import Derived.Test.YtlhbfdakceipkaaDoorProg
import Derived.KernelRfl
namespace Go.Proofs.YtlhbfdakceipkaaDoor
open Vc
set_option maxRecDepth 100000
set_option linter.unusedVariables false
/-- handfast/runes.digit -/
def C62 (p0 : Int) (w : World) (K : Value → World → Prop) : Prop :=
  ifB (decide (p0 ≥ 48))
  (K (.bool (decide (p0 ≤ 57))) w)
  (K (.bool false) w)
def pl62 : Plan := .auto
theorem e62 (p0 : Int) (w : World) (K : Value → World → Prop) : vcFunc Tryd.prog Tryd.f62 pl62 [.int .i32 p0] w K = C62 p0 w K := by kernel_rfl
theorem c62 (p0 : Int) (w : World) (K : Value → World → Prop) (h : C62 p0 w K) : Ret Tryd.prog 62 #[.int .i32 p0] w K := by
  rw [← e62] at h
  exact vcFunc_sound (by kernel_rfl) Tryd.func62 h

/-- handfast/runes.Letter -/
def C61 (p0 : Int) (w : World) (K : Value → World → Prop) : Prop :=
  ifB (decide (p0 ≥ 97))
  (ifB (decide (p0 ≤ 122))
  (K (.bool true) w)
  (CallK Tryd.prog 62 #[.int .i32 p0] w (.v (.one .bool)) (fun (x1 : Bool) w2 => ifB x1
  (K (.bool true) w2)
  (ifB (p0 == 95)
  (K (.bool true) w2)
  (ifB (decide (p0 ≥ 128))
  (K (.bool (p0 != 65533)) w2)
  (K (.bool false) w2))))))
  (CallK Tryd.prog 62 #[.int .i32 p0] w (.v (.one .bool)) (fun (x3 : Bool) w4 => ifB x3
  (K (.bool true) w4)
  (ifB (p0 == 95)
  (K (.bool true) w4)
  (ifB (decide (p0 ≥ 128))
  (K (.bool (p0 != 65533)) w4)
  (K (.bool false) w4)))))
def pl61 : Plan := .auto
theorem e61 (p0 : Int) (w : World) (K : Value → World → Prop) : vcFunc Tryd.prog Tryd.f61 pl61 [.int .i32 p0] w K = C61 p0 w K := by kernel_rfl
theorem c61 (p0 : Int) (w : World) (K : Value → World → Prop) (h : C61 p0 w K) : Ret Tryd.prog 61 #[.int .i32 p0] w K := by
  rw [← e61] at h
  exact vcFunc_sound (by kernel_rfl) Tryd.func61 h

/-- handfast/runes.Name -/
def C47 (p0 : ByteArray) (w : World) (K : Value → World → Prop) : Prop :=
  RunK Tryd.prog (Instr.range 9 (.string p0)) w (.v (.one .ptr)) (fun (x1 : Option Addr) w2 => LoopK (Int × Unit) (fun _ s3 w4 next5 => NextK x1 w4 (fun x6 x7 w8 => CallK Tryd.prog 61 #[.int .i32 x7] w8 (.v (.one .bool)) (fun (x9 : Bool) w10 => ifB (!x9)
  (K (.bool false) w10)
  (ifB ((IntKind.i64.wrap (s3.1 + 1)) == 1)
  (CallK Tryd.prog 62 #[.int .i32 x7] w10 (.v (.one .bool)) (fun (x11 : Bool) w12 => ifB x11
  (K (.bool false) w12)
  (ifB (decide ((IntKind.i64.wrap (s3.1 + 1)) > 12))
  (K (.bool false) w12)
  (next5 (IntKind.i64.wrap (s3.1 + 1), ()) w12))))
  (ifB (decide ((IntKind.i64.wrap (s3.1 + 1)) > 12))
  (K (.bool false) w10)
  (next5 (IntKind.i64.wrap (s3.1 + 1), ()) w10)))))
  (K (.bool (decide (s3.1 > 0))) w4))
  (0, ()) w2)
def pl47 : Plan := (.seq .auto (.seq .auto (.seq (.seq .auto (.block (.loop [(3, .one (.int .i64))] .auto))) .auto)))
theorem e47 (p0 : ByteArray) (w : World) (K : Value → World → Prop) : vcFunc Tryd.prog Tryd.f47 pl47 [.string p0] w K = C47 p0 w K := by kernel_rfl
theorem c47 (p0 : ByteArray) (w : World) (K : Value → World → Prop) (h : C47 p0 w K) : Ret Tryd.prog 47 #[.string p0] w K := by
  rw [← e47] at h
  exact vcFunc_sound (by kernel_rfl) Tryd.func47 h

/-- handfast/handfastkeep.Text -/
def C58 (p0 : ByteArray) (p1 : Int) (w : World) (K : Value → World → Prop) : Prop :=
  SubsK p0 0 (if p1 < (p0.size : Int) then p1 else (p0.size : Int)) (fun x1 => K (.string x1) w)
def pl58 : Plan := .auto
theorem e58 (p0 : ByteArray) (p1 : Int) (w : World) (K : Value → World → Prop) : vcFunc Tryd.prog Tryd.f58 pl58 [.string p0, .int .i64 p1] w K = C58 p0 p1 w K := by kernel_rfl
theorem c58 (p0 : ByteArray) (p1 : Int) (w : World) (K : Value → World → Prop) (h : C58 p0 p1 w K) : Ret Tryd.prog 58 #[.string p0, .int .i64 p1] w K := by
  rw [← e58] at h
  exact vcFunc_sound (by kernel_rfl) Tryd.func58 h

end Go.Proofs.YtlhbfdakceipkaaDoor
