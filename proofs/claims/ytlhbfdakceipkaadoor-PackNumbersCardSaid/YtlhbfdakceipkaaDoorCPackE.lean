/-
  The conditions of some functions, written by a program of this session, each tied to the translation by the kernel.
-/
import Derived.Test.YtlhbfdakceipkaaDoorVcMem
import Derived.Test.YtlhbfdakceipkaaDoorProg
import Derived.KernelRfl
namespace Go.Proofs.YtlhbfdakceipkaaDoor
open Vc
set_option maxRecDepth 100000
set_option linter.unusedVariables false
/-- handfast/pack.Event -/
def C13 (p0 : Int × ByteArray × ByteArray × ByteArray × ByteArray × Int × Int × Value × Unit) (w : World) (K : Value → World → Prop) : Prop :=
  NewK (.cells #[.int .i64 p0.1, .string p0.2.1, .string p0.2.2.1, .string p0.2.2.2.1, .string p0.2.2.2.2.1, .int .i64 p0.2.2.2.2.2.1, .int .i64 p0.2.2.2.2.2.2.1, p0.2.2.2.2.2.2.2.1] 45) w (fun g1 w2 => LdsK [.int .i64, .str, .str, .str, .str, .int .i64, .int .i64, .raw] (⟨g1, 0, none⟩ : Addr) w2 (fun (x3 : Int × ByteArray × ByteArray × ByteArray × ByteArray × Int × Int × Value × Unit) => CallK Tryd.prog 21 #[.agg #[.int .i64 x3.1, .string x3.2.1, .string x3.2.2.1, .string x3.2.2.2.1, .string x3.2.2.2.2.1, .int .i64 x3.2.2.2.2.2.1, .int .i64 x3.2.2.2.2.2.2.1, x3.2.2.2.2.2.2.2.1]] w2 (.v (.one (.int .i64))) (fun (x4 : Int) w5 => ifB (x4 != 0)
  (K (.tuple #[.slice none 0 0, .int .i64 x4]) w5)
  (LdK (.int .i64) ((⟨g1, 0, none⟩ : Addr).add 0) w5 (fun (x6 : Int) => RunK Tryd.prog (Instr.buildSlice 22 1 #[(0, .int .u8 (IntKind.u8.wrap x6))]) w5 (.v (.one .slc)) (fun (x7 : Option Addr × Nat × Nat) w8 => LdK (.int .i64) ((⟨g1, 0, none⟩ : Addr).add 0) w8 (fun (x9 : Int) => CallK Tryd.prog 22 #[.int .i64 x9] w8 (.v (.one .slc)) (fun (x10 : Option Addr × Nat × Nat) w11 => LoopK ((Option Addr × Nat × Nat) × Int × Unit) (fun _ s12 w13 next14 => ifB (decide (s12.2.1 < (x10.2.1 : Int)))
  (IdxK x10.1 x10.2.1 s12.2.1 1 (fun a15 => LdK (.int .i32) a15 w13 (fun (x16 : Int) => LdsK [.int .i64, .str, .str, .str, .str, .int .i64, .int .i64, .raw] (⟨g1, 0, none⟩ : Addr) w13 (fun (x17 : Int × ByteArray × ByteArray × ByteArray × ByteArray × Int × Int × Value × Unit) => CallK Tryd.prog 23 #[.agg #[.int .i64 x17.1, .string x17.2.1, .string x17.2.2.1, .string x17.2.2.2.1, .string x17.2.2.2.2.1, .int .i64 x17.2.2.2.2.2.1, .int .i64 x17.2.2.2.2.2.2.1, x17.2.2.2.2.2.2.2.1], .int .i32 x16] w13 (.tup [.one .slc, .one (.int .i64)]) (fun (x18 : (Option Addr × Nat × Nat) × Int × Unit) w19 => ifB (x18.2.1 != 0)
  (K (.tuple #[.slice none 0 0, .int .i64 x18.2.1]) w19)
  (RunK Tryd.prog (Builtin.append_ #[22, 22] 22 #[.slice s12.1.1 s12.1.2.1 s12.1.2.2, .slice x18.1.1 x18.1.2.1 x18.1.2.2]) w19 (.v (.one .slc)) (fun (x20 : Option Addr × Nat × Nat) w21 => next14 ((x20.1, x20.2.1, x20.2.2), IntKind.i64.wrap (s12.2.1 + 1), ()) w21)))))))
  (K (.tuple #[.slice s12.1.1 s12.1.2.1 s12.1.2.2, .int .i64 0]) w13))
  ((x7.1, x7.2.1, x7.2.2), 0, ()) w11))))))))
def pl13 : Plan := (.seq .auto (.seq .auto (.seq .auto (.seq (.seq .auto (.block (.loop [(5, .one .slc), (23, .one (.int .i64))] .auto))) .auto))))
theorem e13 (p0 : Int × ByteArray × ByteArray × ByteArray × ByteArray × Int × Int × Value × Unit) (w : World) (K : Value → World → Prop) : vcFunc Tryd.prog Tryd.f13 pl13 [.agg #[.int .i64 p0.1, .string p0.2.1, .string p0.2.2.1, .string p0.2.2.2.1, .string p0.2.2.2.2.1, .int .i64 p0.2.2.2.2.2.1, .int .i64 p0.2.2.2.2.2.2.1, p0.2.2.2.2.2.2.2.1]] w K = C13 p0 w K := by kernel_rfl
theorem c13 (p0 : Int × ByteArray × ByteArray × ByteArray × ByteArray × Int × Int × Value × Unit) (w : World) (K : Value → World → Prop) (h : C13 p0 w K) : Ret Tryd.prog 13 #[.agg #[.int .i64 p0.1, .string p0.2.1, .string p0.2.2.1, .string p0.2.2.2.1, .string p0.2.2.2.2.1, .int .i64 p0.2.2.2.2.2.1, .int .i64 p0.2.2.2.2.2.2.1, p0.2.2.2.2.2.2.2.1]] w K := by
  rw [← e13] at h
  exact vcFunc_sound (by kernel_rfl) Tryd.func13 h

/-- handfast/pack.fields -/
def C22 (p0 : Int) (w : World) (K : Value → World → Prop) : Prop :=
  RunK Tryd.prog (Instr.range 9 (.string (⟨#[73, 78, 76, 67, 68, 86, 84]⟩ : ByteArray))) w (.v (.one .ptr)) (fun (x1 : Option Addr) w2 => LoopK ((Option Addr × Nat × Nat) × Unit) (fun _ s3 w4 next5 => NextK x1 w4 (fun x6 x7 w8 => CallK Tryd.prog 35 #[.int .i64 p0] w8 (.v (.one .str)) (fun (x9 : ByteArray) w10 => RunK Tryd.prog (Instr.range 9 (.string x9)) w10 (.v (.one .ptr)) (fun (x11 : Option Addr) w12 => LoopK ((Option Addr × Nat × Nat) × Unit) (fun _ s13 w14 next15 => NextK x11 w14 (fun x16 x17 w18 => ifB (x17 == x7)
  (RunK Tryd.prog (Instr.buildSlice 78 1 #[(0, .int .i32 x7)]) w18 (.v (.one .slc)) (fun (x19 : Option Addr × Nat × Nat) w20 => RunK Tryd.prog (Builtin.append_ #[78, 78] 78 #[.slice s13.1.1 s13.1.2.1 s13.1.2.2, .slice x19.1 x19.2.1 x19.2.2]) w20 (.v (.one .slc)) (fun (x21 : Option Addr × Nat × Nat) w22 => next15 ((x21.1, x21.2.1, x21.2.2), ()) w22)))
  (next15 ((s13.1.1, s13.1.2.1, s13.1.2.2), ()) w18))
  (next5 ((s13.1.1, s13.1.2.1, s13.1.2.2), ()) w14))
  ((s3.1.1, s3.1.2.1, s3.1.2.2), ()) w12)))
  (K (.slice s3.1.1 s3.1.2.1 s3.1.2.2) w4))
  ((none, 0, 0), ()) w2)
def pl22 : Plan := (.seq .auto (.seq .auto (.seq (.seq .auto (.block (.loop [(3, .one .slc)] (.seq .auto (.seq .auto (.block (.seq .auto (.seq .auto (.block (.loop [(3, .one .slc)] .auto)))))))))) .auto)))
theorem e22 (p0 : Int) (w : World) (K : Value → World → Prop) : vcFunc Tryd.prog Tryd.f22 pl22 [.int .i64 p0] w K = C22 p0 w K := by kernel_rfl
theorem c22 (p0 : Int) (w : World) (K : Value → World → Prop) (h : C22 p0 w K) : Ret Tryd.prog 22 #[.int .i64 p0] w K := by
  rw [← e22] at h
  exact vcFunc_sound (by kernel_rfl) Tryd.func22 h

/-- handfast/pack.field -/
def C23 (p0 : Int × ByteArray × ByteArray × ByteArray × ByteArray × Int × Int × Value × Unit) (p1 : Int) (w : World) (K : Value → World → Prop) : Prop :=
  NewK (.cells #[.int .i64 p0.1, .string p0.2.1, .string p0.2.2.1, .string p0.2.2.2.1, .string p0.2.2.2.2.1, .int .i64 p0.2.2.2.2.2.1, .int .i64 p0.2.2.2.2.2.2.1, p0.2.2.2.2.2.2.2.1] 45) w (fun g1 w2 => ifB (p1 == 68)
  (LdK (.int .i64) ((⟨g1, 0, none⟩ : Addr).add 5) w2 (fun (x3 : Int) => CallK Tryd.prog 5 #[.int .i64 x3] w2 (.v (.one .slc)) (fun (x4 : Option Addr × Nat × Nat) w5 => K (.tuple #[.slice x4.1 x4.2.1 x4.2.2, .int .i64 0]) w5)))
  (ifB (p1 == 86)
  (LdK (.int .i64) ((⟨g1, 0, none⟩ : Addr).add 6) w2 (fun (x6 : Int) => CallK Tryd.prog 5 #[.int .i64 x6] w2 (.v (.one .slc)) (fun (x7 : Option Addr × Nat × Nat) w8 => K (.tuple #[.slice x7.1 x7.2.1 x7.2.2, .int .i64 0]) w8)))
  (ifB (p1 == 84)
  (LdK .raw ((⟨g1, 0, none⟩ : Addr).add 7) w2 (fun (x9 : Value) => CallK Tryd.prog 12 #[x9] w2 (.tup [.one .str, .one (.int .i64)]) (fun (x10 : ByteArray × Int × Unit) w11 => NnK 8 (RunK Tryd.prog (Instr.buildSlice 22 2 #[(0, .int .u8 (IntKind.u8.wrap (Int.fdiv (x10.1.size : Int) (2 ^ (min (Int.toNat 8) 64))))), (1, .int .u8 (IntKind.u8.wrap (x10.1.size : Int)))]) w11 (.v (.one .slc)) (fun (x12 : Option Addr × Nat × Nat) w13 => RunK Tryd.prog (Builtin.append_ #[22, 9] 22 #[.slice x12.1 x12.2.1 x12.2.2, .string x10.1]) w13 (.v (.one .slc)) (fun (x14 : Option Addr × Nat × Nat) w15 => K (.tuple #[.slice x14.1 x14.2.1 x14.2.2, .int .i64 x10.2.1]) w15))))))
  (ifB (p1 == 73)
  (LdK .str ((⟨g1, 0, none⟩ : Addr).add 1) w2 (fun (x16 : ByteArray) => RunK Tryd.prog (Instr.buildSlice 22 1 #[(0, .int .u8 (IntKind.u8.wrap (x16.size : Int)))]) w2 (.v (.one .slc)) (fun (x17 : Option Addr × Nat × Nat) w18 => RunK Tryd.prog (Builtin.append_ #[22, 9] 22 #[.slice x17.1 x17.2.1 x17.2.2, .string x16]) w18 (.v (.one .slc)) (fun (x19 : Option Addr × Nat × Nat) w20 => K (.tuple #[.slice x19.1 x19.2.1 x19.2.2, .int .i64 0]) w20))))
  (ifB (p1 == 78)
  (LdK .str ((⟨g1, 0, none⟩ : Addr).add 2) w2 (fun (x21 : ByteArray) => RunK Tryd.prog (Instr.buildSlice 22 1 #[(0, .int .u8 (IntKind.u8.wrap (x21.size : Int)))]) w2 (.v (.one .slc)) (fun (x22 : Option Addr × Nat × Nat) w23 => RunK Tryd.prog (Builtin.append_ #[22, 9] 22 #[.slice x22.1 x22.2.1 x22.2.2, .string x21]) w23 (.v (.one .slc)) (fun (x24 : Option Addr × Nat × Nat) w25 => K (.tuple #[.slice x24.1 x24.2.1 x24.2.2, .int .i64 0]) w25))))
  (ifB (p1 == 76)
  (LdK .str ((⟨g1, 0, none⟩ : Addr).add 3) w2 (fun (x26 : ByteArray) => RunK Tryd.prog (Instr.buildSlice 22 1 #[(0, .int .u8 (IntKind.u8.wrap (x26.size : Int)))]) w2 (.v (.one .slc)) (fun (x27 : Option Addr × Nat × Nat) w28 => RunK Tryd.prog (Builtin.append_ #[22, 9] 22 #[.slice x27.1 x27.2.1 x27.2.2, .string x26]) w28 (.v (.one .slc)) (fun (x29 : Option Addr × Nat × Nat) w30 => K (.tuple #[.slice x29.1 x29.2.1 x29.2.2, .int .i64 0]) w30))))
  (ifB (p1 == 67)
  (LdK .str ((⟨g1, 0, none⟩ : Addr).add 4) w2 (fun (x31 : ByteArray) => RunK Tryd.prog (Instr.buildSlice 22 1 #[(0, .int .u8 (IntKind.u8.wrap (x31.size : Int)))]) w2 (.v (.one .slc)) (fun (x32 : Option Addr × Nat × Nat) w33 => RunK Tryd.prog (Builtin.append_ #[22, 9] 22 #[.slice x32.1 x32.2.1 x32.2.2, .string x31]) w33 (.v (.one .slc)) (fun (x34 : Option Addr × Nat × Nat) w35 => K (.tuple #[.slice x34.1 x34.2.1 x34.2.2, .int .i64 0]) w35))))
  (RunK Tryd.prog (Instr.buildSlice 22 1 #[(0, .int .u8 (IntKind.u8.wrap ((⟨#[]⟩ : ByteArray).size : Int)))]) w2 (.v (.one .slc)) (fun (x36 : Option Addr × Nat × Nat) w37 => RunK Tryd.prog (Builtin.append_ #[22, 9] 22 #[.slice x36.1 x36.2.1 x36.2.2, .string (⟨#[]⟩ : ByteArray)]) w37 (.v (.one .slc)) (fun (x38 : Option Addr × Nat × Nat) w39 => K (.tuple #[.slice x38.1 x38.2.1 x38.2.2, .int .i64 0]) w39))))))))))
def pl23 : Plan := .auto
theorem e23 (p0 : Int × ByteArray × ByteArray × ByteArray × ByteArray × Int × Int × Value × Unit) (p1 : Int) (w : World) (K : Value → World → Prop) : vcFunc Tryd.prog Tryd.f23 pl23 [.agg #[.int .i64 p0.1, .string p0.2.1, .string p0.2.2.1, .string p0.2.2.2.1, .string p0.2.2.2.2.1, .int .i64 p0.2.2.2.2.2.1, .int .i64 p0.2.2.2.2.2.2.1, p0.2.2.2.2.2.2.2.1], .int .i32 p1] w K = C23 p0 p1 w K := by kernel_rfl
theorem c23 (p0 : Int × ByteArray × ByteArray × ByteArray × ByteArray × Int × Int × Value × Unit) (p1 : Int) (w : World) (K : Value → World → Prop) (h : C23 p0 p1 w K) : Ret Tryd.prog 23 #[.agg #[.int .i64 p0.1, .string p0.2.1, .string p0.2.2.1, .string p0.2.2.2.1, .string p0.2.2.2.2.1, .int .i64 p0.2.2.2.2.2.1, .int .i64 p0.2.2.2.2.2.2.1, p0.2.2.2.2.2.2.2.1], .int .i32 p1] w K := by
  rw [← e23] at h
  exact vcFunc_sound (by kernel_rfl) Tryd.func23 h

/-- handfast/pack.Entry -/
def C14 (p0 : Int × ByteArray × ByteArray × ByteArray × ByteArray × Int × Int × Value × Bool × Unit) (w : World) (K : Value → World → Prop) : Prop :=
  NewK (.cells #[.int .i64 p0.1, .string p0.2.1, .string p0.2.2.1, .string p0.2.2.2.1, .string p0.2.2.2.2.1, .int .i64 p0.2.2.2.2.2.1, .int .i64 p0.2.2.2.2.2.2.1, p0.2.2.2.2.2.2.2.1, .bool p0.2.2.2.2.2.2.2.2.1] 53) w (fun g1 w2 => LdsK [.int .i64, .str, .str, .str, .str, .int .i64, .int .i64, .raw] ((⟨g1, 0, none⟩ : Addr).add 0) w2 (fun (x3 : Int × ByteArray × ByteArray × ByteArray × ByteArray × Int × Int × Value × Unit) => CallK Tryd.prog 13 #[.agg #[.int .i64 x3.1, .string x3.2.1, .string x3.2.2.1, .string x3.2.2.2.1, .string x3.2.2.2.2.1, .int .i64 x3.2.2.2.2.2.1, .int .i64 x3.2.2.2.2.2.2.1, x3.2.2.2.2.2.2.2.1]] w2 (.tup [.one .slc, .one (.int .i64)]) (fun (x4 : (Option Addr × Nat × Nat) × Int × Unit) w5 => ifB (x4.2.1 != 0)
  (K (.tuple #[.slice none 0 0, .int .i64 x4.2.1]) w5)
  (LdK .bool ((⟨g1, 0, none⟩ : Addr).add 8) w5 (fun (x6 : Bool) => ifB x6
  (RunK Tryd.prog (Instr.buildSlice 22 1 #[(0, .int .u8 1)]) w5 (.v (.one .slc)) (fun (x7 : Option Addr × Nat × Nat) w8 => RunK Tryd.prog (Builtin.append_ #[22, 22] 22 #[.slice x7.1 x7.2.1 x7.2.2, .slice x4.1.1 x4.1.2.1 x4.1.2.2]) w8 (.v (.one .slc)) (fun (x9 : Option Addr × Nat × Nat) w10 => K (.tuple #[.slice x9.1 x9.2.1 x9.2.2, .int .i64 0]) w10)))
  (RunK Tryd.prog (Instr.buildSlice 22 1 #[(0, .int .u8 0)]) w5 (.v (.one .slc)) (fun (x11 : Option Addr × Nat × Nat) w12 => RunK Tryd.prog (Builtin.append_ #[22, 22] 22 #[.slice x11.1 x11.2.1 x11.2.2, .slice x4.1.1 x4.1.2.1 x4.1.2.2]) w12 (.v (.one .slc)) (fun (x13 : Option Addr × Nat × Nat) w14 => K (.tuple #[.slice x13.1 x13.2.1 x13.2.2, .int .i64 0]) w14))))))))
def pl14 : Plan := .auto
theorem e14 (p0 : Int × ByteArray × ByteArray × ByteArray × ByteArray × Int × Int × Value × Bool × Unit) (w : World) (K : Value → World → Prop) : vcFunc Tryd.prog Tryd.f14 pl14 [.agg #[.int .i64 p0.1, .string p0.2.1, .string p0.2.2.1, .string p0.2.2.2.1, .string p0.2.2.2.2.1, .int .i64 p0.2.2.2.2.2.1, .int .i64 p0.2.2.2.2.2.2.1, p0.2.2.2.2.2.2.2.1, .bool p0.2.2.2.2.2.2.2.2.1]] w K = C14 p0 w K := by kernel_rfl
theorem c14 (p0 : Int × ByteArray × ByteArray × ByteArray × ByteArray × Int × Int × Value × Bool × Unit) (w : World) (K : Value → World → Prop) (h : C14 p0 w K) : Ret Tryd.prog 14 #[.agg #[.int .i64 p0.1, .string p0.2.1, .string p0.2.2.1, .string p0.2.2.2.1, .string p0.2.2.2.2.1, .int .i64 p0.2.2.2.2.2.1, .int .i64 p0.2.2.2.2.2.2.1, p0.2.2.2.2.2.2.2.1, .bool p0.2.2.2.2.2.2.2.2.1]] w K := by
  rw [← e14] at h
  exact vcFunc_sound (by kernel_rfl) Tryd.func14 h

/-- handfast/handfastlaw12.wakes -/
def C8  (w : World) (K : Value → World → Prop) : Prop :=
  CallK Tryd.prog 13 #[.agg #[.int .i64 1, .string (⟨#[]⟩ : ByteArray), .string (⟨#[]⟩ : ByteArray), .string (⟨#[]⟩ : ByteArray), .string (⟨#[]⟩ : ByteArray), .int .i64 0, .int .i64 0, .nilIface]] w (.tup [.one .slc, .one (.int .i64)]) (fun (x1 : (Option Addr × Nat × Nat) × Int × Unit) w2 => ifB (x1.2.1 == 0)
  (RunK Tryd.prog (Instr.buildSlice 22 1 #[(0, .int .u8 1)]) w2 (.v (.one .slc)) (fun (x3 : Option Addr × Nat × Nat) w4 => CallK Tryd.prog 7 #[.slice x1.1.1 x1.1.2.1 x1.1.2.2, .slice x3.1 x3.2.1 x3.2.2] w4 (.v (.one .bool)) (fun (x5 : Bool) w6 => K (.bool x5) w6)))
  (K (.bool false) w2))
def pl8 : Plan := .auto
theorem e8  (w : World) (K : Value → World → Prop) : vcFunc Tryd.prog Tryd.f8 pl8 [] w K = C8  w K := by kernel_rfl
theorem c8  (w : World) (K : Value → World → Prop) (h : C8  w K) : Ret Tryd.prog 8 #[] w K := by
  rw [← e8] at h
  exact vcFunc_sound (by kernel_rfl) Tryd.func8 h

end Go.Proofs.YtlhbfdakceipkaaDoor
