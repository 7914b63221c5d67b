/-
  The conditions of some functions, written by a program of this session, each tied to the translation by the kernel.
-/
import Derived.Test.YtlhbfdakceipkaaGreatDoorVcMem
import Derived.Test.YtlhbfdakceipkaaGreatDoorProg
import Derived.KernelRfl
namespace Go.Proofs.YtlhbfdakceipkaaGreatDoor
open Vc
set_option maxRecDepth 100000
set_option linter.unusedVariables false
/-- handfast/runes.digit -/
def C171 (p0 : Int) (w : World) (K : Value → World → Prop) : Prop :=
  ifB (decide (p0 ≥ 48))
  (K (.bool (decide (p0 ≤ 57))) w)
  (K (.bool false) w)
def pl171 : Plan := .auto
theorem e171 (p0 : Int) (w : World) (K : Value → World → Prop) : vcFunc Tryz.prog Tryz.f171 pl171 [.int .i32 p0] w K = C171 p0 w K := by kernel_rfl
theorem c171 (p0 : Int) (w : World) (K : Value → World → Prop) (h : C171 p0 w K) : Ret Tryz.prog 171 #[.int .i32 p0] w K := by
  rw [← e171] at h
  exact vcFunc_sound (by kernel_rfl) Tryz.func171 h

/-- handfast/runes.Letter -/
def C170 (p0 : Int) (w : World) (K : Value → World → Prop) : Prop :=
  ifB (decide (p0 ≥ 97))
  (ifB (decide (p0 ≤ 122))
  (K (.bool true) w)
  (CallK Tryz.prog 171 #[.int .i32 p0] w (.v (.one .bool)) (fun (x1 : Bool) w2 => ifB x1
  (K (.bool true) w2)
  (ifB (p0 == 95)
  (K (.bool true) w2)
  (ifB (decide (p0 ≥ 128))
  (K (.bool (p0 != 65533)) w2)
  (K (.bool false) w2))))))
  (CallK Tryz.prog 171 #[.int .i32 p0] w (.v (.one .bool)) (fun (x3 : Bool) w4 => ifB x3
  (K (.bool true) w4)
  (ifB (p0 == 95)
  (K (.bool true) w4)
  (ifB (decide (p0 ≥ 128))
  (K (.bool (p0 != 65533)) w4)
  (K (.bool false) w4)))))
def pl170 : Plan := .auto
theorem e170 (p0 : Int) (w : World) (K : Value → World → Prop) : vcFunc Tryz.prog Tryz.f170 pl170 [.int .i32 p0] w K = C170 p0 w K := by kernel_rfl
theorem c170 (p0 : Int) (w : World) (K : Value → World → Prop) (h : C170 p0 w K) : Ret Tryz.prog 170 #[.int .i32 p0] w K := by
  rw [← e170] at h
  exact vcFunc_sound (by kernel_rfl) Tryz.func170 h

/-- handfast/runes.Name -/
def C145 (p0 : ByteArray) (w : World) (K : Value → World → Prop) : Prop :=
  RunK Tryz.prog (Instr.range 9 (.string p0)) w (.v (.one .ptr)) (fun (x1 : Option Addr) w2 => LoopK (Int × Unit) (fun _ s3 w4 next5 => NextK x1 w4 (fun x6 x7 w8 => CallK Tryz.prog 170 #[.int .i32 x7] w8 (.v (.one .bool)) (fun (x9 : Bool) w10 => ifB (!x9)
  (K (.bool false) w10)
  (ifB ((IntKind.i64.wrap (s3.1 + 1)) == 1)
  (CallK Tryz.prog 171 #[.int .i32 x7] w10 (.v (.one .bool)) (fun (x11 : Bool) w12 => ifB x11
  (K (.bool false) w12)
  (ifB (decide ((IntKind.i64.wrap (s3.1 + 1)) > 12))
  (K (.bool false) w12)
  (next5 (IntKind.i64.wrap (s3.1 + 1), ()) w12))))
  (ifB (decide ((IntKind.i64.wrap (s3.1 + 1)) > 12))
  (K (.bool false) w10)
  (next5 (IntKind.i64.wrap (s3.1 + 1), ()) w10)))))
  (K (.bool (decide (s3.1 > 0))) w4))
  (0, ()) w2)
def pl145 : Plan := (.seq .auto (.seq .auto (.seq (.seq .auto (.block (.loop [(3, .one (.int .i64))] .auto))) .auto)))
theorem e145 (p0 : ByteArray) (w : World) (K : Value → World → Prop) : vcFunc Tryz.prog Tryz.f145 pl145 [.string p0] w K = C145 p0 w K := by kernel_rfl
theorem c145 (p0 : ByteArray) (w : World) (K : Value → World → Prop) (h : C145 p0 w K) : Ret Tryz.prog 145 #[.string p0] w K := by
  rw [← e145] at h
  exact vcFunc_sound (by kernel_rfl) Tryz.func145 h

/-- handfast/runes.kind -/
def C152 (p0 : Int) (w : World) (K : Value → World → Prop) : Prop :=
  CallK Tryz.prog 170 #[.int .i32 p0] w (.v (.one .bool)) (fun (x1 : Bool) w2 => ifB x1
  (K (.int .u8 97) w2)
  (ifB (p0 == 45)
  (K (.int .u8 97) w2)
  (ifB (p0 == 40)
  (K (.int .u8 40) w2)
  (ifB (p0 == 41)
  (K (.int .u8 40) w2)
  (ifB (p0 == 44)
  (K (.int .u8 40) w2)
  (ifB (p0 == 32)
  (K (.int .u8 32) w2)
  (K (.int .u8 0) w2)))))))
def pl152 : Plan := .auto
theorem e152 (p0 : Int) (w : World) (K : Value → World → Prop) : vcFunc Tryz.prog Tryz.f152 pl152 [.int .i32 p0] w K = C152 p0 w K := by kernel_rfl
theorem c152 (p0 : Int) (w : World) (K : Value → World → Prop) (h : C152 p0 w K) : Ret Tryz.prog 152 #[.int .i32 p0] w K := by
  rw [← e152] at h
  exact vcFunc_sound (by kernel_rfl) Tryz.func152 h

/-- handfast/runes.Signs -/
def C106 (p0 : ByteArray) (w : World) (K : Value → World → Prop) : Prop :=
  RunK Tryz.prog (Instr.range 9 (.string p0)) w (.v (.one .ptr)) (fun (x1 : Option Addr) w2 => LoopK ((Option Addr × Nat × Nat) × Int × Bool × Unit) (fun _ s3 w4 next5 => NextK x1 w4 (fun x6 x7 w8 => CallK Tryz.prog 152 #[.int .i32 x7] w8 (.v (.one (.int .u8))) (fun (x9 : Int) w10 => ifB (x9 == 0)
  (K (.tuple #[.slice none 0 0, .int .i64 (IntKind.i64.wrap (s3.2.1 + 1))]) w10)
  (JoinK (Bool × Unit) (fun J11 => ifB (x9 == 97)
  (J11 (s3.2.2.1, ()) w10)
  (J11 (false, ()) w10))
  (fun _ s12 w13 => ifB s12.1
  (IdxK s3.1.1 s3.1.2.1 (IntKind.i64.wrap ((s3.1.2.1 : Int) - 1)) 2 (fun a14 => LdK .str (a14.add 0) w13 (fun (x15 : ByteArray) => CatK x15 (Utf8.encode x7) (IdxK s3.1.1 s3.1.2.1 (IntKind.i64.wrap ((s3.1.2.1 : Int) - 1)) 2 (fun a16 => StK (a16.add 0) (.string (x15 ++ (Utf8.encode x7))) w13 (fun w17 => next5 ((s3.1.1, s3.1.2.1, s3.1.2.2), IntKind.i64.wrap (s3.2.1 + 1), (x9 == 97), ()) w17))))))
  (ifB (x9 != 32)
  (RunK Tryz.prog (Instr.buildSlice 143 1 #[(0, .agg #[.string (Utf8.encode x7), .int .i64 (IntKind.i64.wrap (s3.2.1 + 1))])]) w13 (.v (.one .slc)) (fun (x18 : Option Addr × Nat × Nat) w19 => RunK Tryz.prog (Builtin.append_ #[143, 143] 143 #[.slice s3.1.1 s3.1.2.1 s3.1.2.2, .slice x18.1 x18.2.1 x18.2.2]) w19 (.v (.one .slc)) (fun (x20 : Option Addr × Nat × Nat) w21 => next5 ((x20.1, x20.2.1, x20.2.2), IntKind.i64.wrap (s3.2.1 + 1), (x9 == 97), ()) w21)))
  (next5 ((s3.1.1, s3.1.2.1, s3.1.2.2), IntKind.i64.wrap (s3.2.1 + 1), (x9 == 97), ()) w13))))))
  (K (.tuple #[.slice s3.1.1 s3.1.2.1 s3.1.2.2, .int .i64 0]) w4))
  ((none, 0, 0), 0, false, ()) w2)
def pl106 : Plan := (.seq .auto (.seq .auto (.seq (.seq .auto (.block (.loop [(2, .one .slc), (4, .one (.int .i64)), (5, .one .bool)] (.seq .auto (.seq .auto (.block (.seq .auto (.seq .auto (.seq .auto (.seq .auto (.seq (.block (.join [(21, .one .bool)] .auto .auto)) .auto))))))))))) .auto)))
theorem e106 (p0 : ByteArray) (w : World) (K : Value → World → Prop) : vcFunc Tryz.prog Tryz.f106 pl106 [.string p0] w K = C106 p0 w K := by kernel_rfl
theorem c106 (p0 : ByteArray) (w : World) (K : Value → World → Prop) (h : C106 p0 w K) : Ret Tryz.prog 106 #[.string p0] w K := by
  rw [← e106] at h
  exact vcFunc_sound (by kernel_rfl) Tryz.func106 h

/-- handfast/handfastkeep.Text -/
def C53 (p0 : ByteArray) (p1 : Int) (w : World) (K : Value → World → Prop) : Prop :=
  SubsK p0 0 (if p1 < (p0.size : Int) then p1 else (p0.size : Int)) (fun x1 => K (.string x1) w)
def pl53 : Plan := .auto
theorem e53 (p0 : ByteArray) (p1 : Int) (w : World) (K : Value → World → Prop) : vcFunc Tryz.prog Tryz.f53 pl53 [.string p0, .int .i64 p1] w K = C53 p0 p1 w K := by kernel_rfl
theorem c53 (p0 : ByteArray) (p1 : Int) (w : World) (K : Value → World → Prop) (h : C53 p0 p1 w K) : Ret Tryz.prog 53 #[.string p0, .int .i64 p1] w K := by
  rw [← e53] at h
  exact vcFunc_sound (by kernel_rfl) Tryz.func53 h

end Go.Proofs.YtlhbfdakceipkaaGreatDoor
