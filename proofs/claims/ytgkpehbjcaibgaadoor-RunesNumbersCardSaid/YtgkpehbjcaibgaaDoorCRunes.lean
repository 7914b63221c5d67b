/-
  The conditions of some functions, written by a program of this session, each tied to the translation by the kernel.
-/
import Derived.Test.YtgkpehbjcaibgaaDoorVcMem
import Derived.Test.YtgkpehbjcaibgaaDoorProg
import Derived.KernelRfl
namespace Go.Proofs.YtgkpehbjcaibgaaDoor
open Vc
set_option maxRecDepth 100000
set_option linter.unusedVariables false
/-- handfast/runes.digit -/
def C26 (p0 : Int) (w : World) (K : Value → World → Prop) : Prop :=
  ifB (decide (p0 ≥ 48))
  (K (.bool (decide (p0 ≤ 57))) w)
  (K (.bool false) w)
def pl26 : Plan := .auto
theorem e26 (p0 : Int) (w : World) (K : Value → World → Prop) : vcFunc Tryd.prog Tryd.f26 pl26 [.int .i32 p0] w K = C26 p0 w K := by kernel_rfl
theorem c26 (p0 : Int) (w : World) (K : Value → World → Prop) (h : C26 p0 w K) : Ret Tryd.prog 26 #[.int .i32 p0] w K := by
  rw [← e26] at h
  exact vcFunc_sound (by kernel_rfl) Tryd.func26 h

/-- handfast/runes.Letter -/
def C16 (p0 : Int) (w : World) (K : Value → World → Prop) : Prop :=
  ifB (decide (p0 ≥ 97))
  (ifB (decide (p0 ≤ 122))
  (K (.bool true) w)
  (CallK Tryd.prog 26 #[.int .i32 p0] w (.v (.one .bool)) (fun (x1 : Bool) w2 => ifB x1
  (K (.bool true) w2)
  (ifB (p0 == 95)
  (K (.bool true) w2)
  (ifB (decide (p0 ≥ 128))
  (K (.bool (p0 != 65533)) w2)
  (K (.bool false) w2))))))
  (CallK Tryd.prog 26 #[.int .i32 p0] w (.v (.one .bool)) (fun (x3 : Bool) w4 => ifB x3
  (K (.bool true) w4)
  (ifB (p0 == 95)
  (K (.bool true) w4)
  (ifB (decide (p0 ≥ 128))
  (K (.bool (p0 != 65533)) w4)
  (K (.bool false) w4)))))
def pl16 : Plan := .auto
theorem e16 (p0 : Int) (w : World) (K : Value → World → Prop) : vcFunc Tryd.prog Tryd.f16 pl16 [.int .i32 p0] w K = C16 p0 w K := by kernel_rfl
theorem c16 (p0 : Int) (w : World) (K : Value → World → Prop) (h : C16 p0 w K) : Ret Tryd.prog 16 #[.int .i32 p0] w K := by
  rw [← e16] at h
  exact vcFunc_sound (by kernel_rfl) Tryd.func16 h

/-- handfast/runes.Name -/
def C18 (p0 : ByteArray) (w : World) (K : Value → World → Prop) : Prop :=
  RunK Tryd.prog (Instr.range 9 (.string p0)) w (.v (.one .ptr)) (fun (x1 : Option Addr) w2 => LoopK (Int × Unit) (fun _ s3 w4 next5 => NextK x1 w4 (fun x6 x7 w8 => CallK Tryd.prog 16 #[.int .i32 x7] w8 (.v (.one .bool)) (fun (x9 : Bool) w10 => ifB (!x9)
  (K (.bool false) w10)
  (ifB ((IntKind.i64.wrap (s3.1 + 1)) == 1)
  (CallK Tryd.prog 26 #[.int .i32 x7] w10 (.v (.one .bool)) (fun (x11 : Bool) w12 => ifB x11
  (K (.bool false) w12)
  (ifB (decide ((IntKind.i64.wrap (s3.1 + 1)) > 12))
  (K (.bool false) w12)
  (next5 (IntKind.i64.wrap (s3.1 + 1), ()) w12))))
  (ifB (decide ((IntKind.i64.wrap (s3.1 + 1)) > 12))
  (K (.bool false) w10)
  (next5 (IntKind.i64.wrap (s3.1 + 1), ()) w10)))))
  (K (.bool (decide (s3.1 > 0))) w4))
  (0, ()) w2)
def pl18 : Plan := (.seq .auto (.seq .auto (.seq (.seq .auto (.block (.loop [(3, .one (.int .i64))] .auto))) .auto)))
theorem e18 (p0 : ByteArray) (w : World) (K : Value → World → Prop) : vcFunc Tryd.prog Tryd.f18 pl18 [.string p0] w K = C18 p0 w K := by kernel_rfl
theorem c18 (p0 : ByteArray) (w : World) (K : Value → World → Prop) (h : C18 p0 w K) : Ret Tryd.prog 18 #[.string p0] w K := by
  rw [← e18] at h
  exact vcFunc_sound (by kernel_rfl) Tryd.func18 h

/-- handfast/runes.kind -/
def C28 (p0 : Int) (w : World) (K : Value → World → Prop) : Prop :=
  CallK Tryd.prog 16 #[.int .i32 p0] w (.v (.one .bool)) (fun (x1 : Bool) w2 => ifB x1
  (K (.int .u8 97) w2)
  (ifB (p0 == 45)
  (K (.int .u8 97) w2)
  (ifB (p0 == 40)
  (K (.int .u8 40) w2)
  (ifB (p0 == 41)
  (K (.int .u8 40) w2)
  (ifB (p0 == 44)
  (K (.int .u8 40) w2)
  (ifB (p0 == 32)
  (K (.int .u8 32) w2)
  (K (.int .u8 0) w2)))))))
def pl28 : Plan := .auto
theorem e28 (p0 : Int) (w : World) (K : Value → World → Prop) : vcFunc Tryd.prog Tryd.f28 pl28 [.int .i32 p0] w K = C28 p0 w K := by kernel_rfl
theorem c28 (p0 : Int) (w : World) (K : Value → World → Prop) (h : C28 p0 w K) : Ret Tryd.prog 28 #[.int .i32 p0] w K := by
  rw [← e28] at h
  exact vcFunc_sound (by kernel_rfl) Tryd.func28 h

/-- handfast/runes.Signs -/
def C20 (p0 : ByteArray) (w : World) (K : Value → World → Prop) : Prop :=
  RunK Tryd.prog (Instr.range 9 (.string p0)) w (.v (.one .ptr)) (fun (x1 : Option Addr) w2 => LoopK ((Option Addr × Nat × Nat) × Int × Bool × Unit) (fun _ s3 w4 next5 => NextK x1 w4 (fun x6 x7 w8 => CallK Tryd.prog 28 #[.int .i32 x7] w8 (.v (.one (.int .u8))) (fun (x9 : Int) w10 => ifB (x9 == 0)
  (K (.tuple #[.slice none 0 0, .int .i64 (IntKind.i64.wrap (s3.2.1 + 1))]) w10)
  (JoinK (Bool × Unit) (fun J11 => ifB (x9 == 97)
  (J11 (s3.2.2.1, ()) w10)
  (J11 (false, ()) w10))
  (fun _ s12 w13 => ifB s12.1
  (IdxK s3.1.1 s3.1.2.1 (IntKind.i64.wrap ((s3.1.2.1 : Int) - 1)) 2 (fun a14 => LdK .str (a14.add 0) w13 (fun (x15 : ByteArray) => CatK x15 (Utf8.encode x7) (IdxK s3.1.1 s3.1.2.1 (IntKind.i64.wrap ((s3.1.2.1 : Int) - 1)) 2 (fun a16 => StK (a16.add 0) (.string (x15 ++ (Utf8.encode x7))) w13 (fun w17 => next5 ((s3.1.1, s3.1.2.1, s3.1.2.2), IntKind.i64.wrap (s3.2.1 + 1), (x9 == 97), ()) w17))))))
  (ifB (x9 != 32)
  (RunK Tryd.prog (Instr.buildSlice 38 1 #[(0, .agg #[.string (Utf8.encode x7), .int .i64 (IntKind.i64.wrap (s3.2.1 + 1))])]) w13 (.v (.one .slc)) (fun (x18 : Option Addr × Nat × Nat) w19 => RunK Tryd.prog (Builtin.append_ #[38, 38] 38 #[.slice s3.1.1 s3.1.2.1 s3.1.2.2, .slice x18.1 x18.2.1 x18.2.2]) w19 (.v (.one .slc)) (fun (x20 : Option Addr × Nat × Nat) w21 => next5 ((x20.1, x20.2.1, x20.2.2), IntKind.i64.wrap (s3.2.1 + 1), (x9 == 97), ()) w21)))
  (next5 ((s3.1.1, s3.1.2.1, s3.1.2.2), IntKind.i64.wrap (s3.2.1 + 1), (x9 == 97), ()) w13))))))
  (K (.tuple #[.slice s3.1.1 s3.1.2.1 s3.1.2.2, .int .i64 0]) w4))
  ((none, 0, 0), 0, false, ()) w2)
def pl20 : Plan := (.seq .auto (.seq .auto (.seq (.seq .auto (.block (.loop [(2, .one .slc), (4, .one (.int .i64)), (5, .one .bool)] (.seq .auto (.seq .auto (.block (.seq .auto (.seq .auto (.seq .auto (.seq .auto (.seq (.block (.join [(21, .one .bool)] .auto .auto)) .auto))))))))))) .auto)))
theorem e20 (p0 : ByteArray) (w : World) (K : Value → World → Prop) : vcFunc Tryd.prog Tryd.f20 pl20 [.string p0] w K = C20 p0 w K := by kernel_rfl
theorem c20 (p0 : ByteArray) (w : World) (K : Value → World → Prop) (h : C20 p0 w K) : Ret Tryd.prog 20 #[.string p0] w K := by
  rw [← e20] at h
  exact vcFunc_sound (by kernel_rfl) Tryd.func20 h

/-- handfast/handfastkeep.Text -/
def C14 (p0 : ByteArray) (p1 : Int) (w : World) (K : Value → World → Prop) : Prop :=
  SubsK p0 0 (if p1 < (p0.size : Int) then p1 else (p0.size : Int)) (fun x1 => K (.string x1) w)
def pl14 : Plan := .auto
theorem e14 (p0 : ByteArray) (p1 : Int) (w : World) (K : Value → World → Prop) : vcFunc Tryd.prog Tryd.f14 pl14 [.string p0, .int .i64 p1] w K = C14 p0 p1 w K := by kernel_rfl
theorem c14 (p0 : ByteArray) (p1 : Int) (w : World) (K : Value → World → Prop) (h : C14 p0 p1 w K) : Ret Tryd.prog 14 #[.string p0, .int .i64 p1] w K := by
  rw [← e14] at h
  exact vcFunc_sound (by kernel_rfl) Tryd.func14 h

/-- handfast/handfastlaw01.wakes -/
def C13  (w : World) (K : Value → World → Prop) : Prop :=
  CallK Tryd.prog 20 #[.string (⟨#[111, 110, 101, 40, 32, 195, 169, 41]⟩ : ByteArray)] w (.tup [.one .slc, .one (.int .i64)]) (fun (x1 : (Option Addr × Nat × Nat) × Int × Unit) w2 => ifB (x1.2.1 == 0)
  (ifB ((x1.1.2.1 : Int) == 4)
  (IdxK x1.1.1 x1.1.2.1 2 2 (fun a3 => LdsK [.str, .int .i64] a3 w2 (fun (x4 : ByteArray × Int × Unit) => RunK Tryd.prog (do eqGuard .eql 46 (.tmp 17) (.tmp 18) (.agg #[.string x4.1, .int .i64 x4.2.1]) (.agg #[.string (⟨#[195, 169]⟩ : ByteArray), .int .i64 6]); binOp .eql 46 (.agg #[.string x4.1, .int .i64 x4.2.1]) (.agg #[.string (⟨#[195, 169]⟩ : ByteArray), .int .i64 6])) w2 (.v (.one .bool)) (fun (x5 : Bool) w6 => K (.bool x5) w6))))
  (K (.bool false) w2))
  (K (.bool false) w2))
def pl13 : Plan := .auto
theorem e13  (w : World) (K : Value → World → Prop) : vcFunc Tryd.prog Tryd.f13 pl13 [] w K = C13  w K := by kernel_rfl
theorem c13  (w : World) (K : Value → World → Prop) (h : C13  w K) : Ret Tryd.prog 13 #[] w K := by
  rw [← e13] at h
  exact vcFunc_sound (by kernel_rfl) Tryd.func13 h

end Go.Proofs.YtgkpehbjcaibgaaDoor
