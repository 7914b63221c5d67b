/-
  The conditions of some functions, written by a program of this session, each tied to the translation by the kernel.
-/
import Derived.Test.YtgkpehbjcaibgaaDoorVcMem
import Derived.Test.YtgkpehbjcaibgaaDoorProg
import Derived.KernelRfl
namespace Go.Proofs.YtgkpehbjcaibgaaDoor
open Vc
set_option maxRecDepth 100000
set_option linter.unusedVariables false
/-- handfast/runes.Number -/
def C12 (p0 : ByteArray) (w : World) (K : Value → World → Prop) : Prop :=
  CallK Tryd.prog 23 #[.string p0, .string (⟨#[45]⟩ : ByteArray)] w (.v (.one .str)) (fun (x1 : ByteArray) w2 => JoinK (Bool × Unit) (fun J3 => ifB (x1.toList == (⟨#[]⟩ : ByteArray).toList)
  (J3 (true, ()) w2)
  (ifB (decide ((x1.size : Int) > 13))
  (J3 (true, ()) w2)
  (CallK Tryd.prog 24 #[.string x1, .string (⟨#[48, 49, 50, 51, 52, 53, 54, 55, 56, 57]⟩ : ByteArray)] w2 (.v (.one .str)) (fun (x6 : ByteArray) w7 => ifB (!(x6.toList == (⟨#[]⟩ : ByteArray).toList))
  (J3 (true, ()) w7)
  (StrK x1 0 (fun x8 => ifB (x8 == 48)
  (J3 ((!(p0.toList == (⟨#[48]⟩ : ByteArray).toList)), ()) w7)
  (J3 (false, ()) w7)))))))
  (fun _ s4 w5 => ifB s4.1
  (K (.tuple #[.int .i64 0, .bool false]) w5)
  (CallK Tryd.prog 25 #[.string p0] w5 (.tup [.one (.int .i64), .one .raw]) (fun (x9 : Int × Value × Unit) w10 => RunK Tryd.prog (do eqGuard .neq 57 (.tmp 35) (.const .nilIface) x9.2.1 .nilIface; binOp .neq 57 x9.2.1 .nilIface) w10 (.v (.one .bool)) (fun (x11 : Bool) w12 => ifB x11
  (K (.tuple #[.int .i64 0, .bool false]) w12)
  (ifB (decide (x9.1 < (-1000000000000)))
  (K (.tuple #[.int .i64 0, .bool false]) w12)
  (ifB (decide (x9.1 > 1000000000000))
  (K (.tuple #[.int .i64 0, .bool false]) w12)
  (K (.tuple #[.int .i64 x9.1, .bool true]) w12))))))))
def pl12 : Plan := (.seq .auto (.seq .auto (.seq (.join [(29, .one .bool)] .auto .auto) .auto)))
theorem e12 (p0 : ByteArray) (w : World) (K : Value → World → Prop) : vcFunc Tryd.prog Tryd.f12 pl12 [.string p0] w K = C12 p0 w K := by kernel_rfl
theorem c12 (p0 : ByteArray) (w : World) (K : Value → World → Prop) (h : C12 p0 w K) : Ret Tryd.prog 12 #[.string p0] w K := by
  rw [← e12] at h
  exact vcFunc_sound (by kernel_rfl) Tryd.func12 h

/-- handfast/handfastref01.Digits -/
def C11 (p0 : Int) (w : World) (K : Value → World → Prop) : Prop :=
  ifB (decide (p0 < 0))
  (NzK 10 (CallK Tryd.prog 11 #[.int .i64 (IntKind.i64.wrap (0 - (p0.tmod 10)))] w (.v (.one .str)) (fun (x1 : ByteArray) w2 => ifB (decide (p0 > (-10)))
  (CatK (⟨#[45]⟩ : ByteArray) x1 (K (.string ((⟨#[45]⟩ : ByteArray) ++ x1)) w2))
  (NzK 10 (CallK Tryd.prog 11 #[.int .i64 (IntKind.i64.wrap (p0.tdiv 10))] w2 (.v (.one .str)) (fun (x3 : ByteArray) w4 => CatK x3 x1 (K (.string (x3 ++ x1)) w4)))))))
  (ifB (decide (p0 < 10))
  (RunK Tryd.prog (Instr.buildSlice 22 1 #[(0, .int .u8 (IntKind.u8.wrap (IntKind.i64.wrap (48 + p0))))]) w (.v (.one .slc)) (fun (x5 : Option Addr × Nat × Nat) w6 => RunK Tryd.prog (convert 22 9 (.slice x5.1 x5.2.1 x5.2.2)) w6 (.v (.one .str)) (fun (x7 : ByteArray) w8 => K (.string x7) w8)))
  (RegK w (fun C9 => NzK 10 (AnyK C9 2 [] (.v (.one .str)) (fun w11 k12 => CallK Tryd.prog 11 #[.int .i64 (IntKind.i64.wrap (p0.tdiv 10))] w11 (.v (.one .str)) (fun (x13 : ByteArray) w14 => k12 (.string x13) w14))
  (fun (x10 : ByteArray) => NzK 10 (AnyK C9 6 [] (.v (.one (.int .u8))) (fun w16 k17 => k17 (.int .u8 (IntKind.u8.wrap (IntKind.i64.wrap (48 + (p0.tmod 10))))) w16)
  (fun (x15 : Int) => AnyK C9 7 [6] (.v (.one .slc)) (fun w19 k20 => RunK Tryd.prog (Instr.buildSlice 22 1 #[(0, .int .u8 x15)]) w19 (.v (.one .slc)) (fun (x21 : Option Addr × Nat × Nat) w22 => k20 (.slice x21.1 x21.2.1 x21.2.2) w22))
  (fun (x18 : Option Addr × Nat × Nat) => AnyK C9 8 [6, 7] (.v (.one .str)) (fun w24 k25 => RunK Tryd.prog (convert 22 9 (.slice x18.1 x18.2.1 x18.2.2)) w24 (.v (.one .str)) (fun (x26 : ByteArray) w27 => k25 (.string x26) w27))
  (fun (x23 : ByteArray) => CatK x10 x23 ((∀ w28, C9 (mem [2, 6, 7, 8]) w28 → K (.string (x10 ++ x23)) w28)))))))))))
def pl11 : Plan := (.seq .auto (.seq .auto (.seq .auto (.seq (.any [(2, .v (.one .str)), (6, .v (.one (.int .u8))), (7, .v (.one .slc)), (8, .v (.one .str))]) .auto))))
theorem e11 (p0 : Int) (w : World) (K : Value → World → Prop) : vcFunc Tryd.prog Tryd.f11 pl11 [.int .i64 p0] w K = C11 p0 w K := by kernel_rfl
theorem c11 (p0 : Int) (w : World) (K : Value → World → Prop) (h : C11 p0 w K) : Ret Tryd.prog 11 #[.int .i64 p0] w K := by
  rw [← e11] at h
  exact vcFunc_sound (by kernel_rfl) Tryd.func11 h

/-- handfast/handfastlaw01.RunesNumbers -/
def C4 (p0 : Int) (w : World) (K : Value → World → Prop) : Prop :=
  CallK Tryd.prog 10 #[.int .i64 p0, .int .i64 1000000000001] w (.v (.one (.int .i64))) (fun (x1 : Int) w2 => CallK Tryd.prog 11 #[.int .i64 x1] w2 (.v (.one .str)) (fun (x3 : ByteArray) w4 => CallK Tryd.prog 12 #[.string x3] w4 (.tup [.one (.int .i64), .one .bool]) (fun (x5 : Int × Bool × Unit) w6 => CatK (⟨#[45]⟩ : ByteArray) x3 (CallK Tryd.prog 12 #[.string ((⟨#[45]⟩ : ByteArray) ++ x3)] w6 (.tup [.one (.int .i64), .one .bool]) (fun (x7 : Int × Bool × Unit) w8 => CatK (⟨#[43]⟩ : ByteArray) x3 (CatK (⟨#[48]⟩ : ByteArray) x3 (CatK (⟨#[45, 45]⟩ : ByteArray) x3 (CatK x3 (⟨#[32]⟩ : ByteArray) (CatK (⟨#[32]⟩ : ByteArray) x3 (CatK x3 (⟨#[120]⟩ : ByteArray) (RunK Tryd.prog (Instr.buildSlice 33 13 #[(0, .string (⟨#[]⟩ : ByteArray)), (1, .string (⟨#[45]⟩ : ByteArray)), (2, .string ((⟨#[43]⟩ : ByteArray) ++ x3)), (3, .string ((⟨#[48]⟩ : ByteArray) ++ x3)), (4, .string ((⟨#[45, 45]⟩ : ByteArray) ++ x3)), (5, .string (x3 ++ (⟨#[32]⟩ : ByteArray))), (6, .string ((⟨#[32]⟩ : ByteArray) ++ x3)), (7, .string (x3 ++ (⟨#[120]⟩ : ByteArray))), (8, .string (⟨#[49, 48, 48, 48, 48, 48, 48, 48, 48, 48, 48, 48, 49]⟩ : ByteArray)), (9, .string (⟨#[45, 49, 48, 48, 48, 48, 48, 48, 48, 48, 48, 48, 48, 49]⟩ : ByteArray)), (10, .string (⟨#[57, 57, 57, 57, 57, 57, 57, 57, 57, 57, 57, 57, 57]⟩ : ByteArray)), (11, .string (⟨#[49, 48, 48, 48, 48, 48, 48, 48, 48, 48, 48, 48, 48, 48]⟩ : ByteArray)), (12, .string (⟨#[45, 48]⟩ : ByteArray))]) w8 (.v (.one .slc)) (fun (x9 : Option Addr × Nat × Nat) w10 => LoopK (Int × Unit) (fun _ s11 w12 next13 => ifB (decide (s11.1 < (x9.2.1 : Int)))
  (IdxK x9.1 x9.2.1 s11.1 1 (fun a14 => LdK .str a14 w12 (fun (x15 : ByteArray) => CallK Tryd.prog 12 #[.string x15] w12 (.tup [.one (.int .i64), .one .bool]) (fun (x16 : Int × Bool × Unit) w17 => ifB x16.2.1
  (K (.bool false) w17)
  (ifB (x16.1 != 0)
  (K (.bool false) w17)
  (next13 (IntKind.i64.wrap (s11.1 + 1), ()) w17))))))
  (ifB x5.2.1
  (ifB (x5.1 == x1)
  (ifB (x7.2.1 == (x1 != 0))
  (ifB (x7.1 == (IntKind.i64.wrap (0 - x1)))
  (CallK Tryd.prog 13 #[] w12 (.v (.one .bool)) (fun (x18 : Bool) w19 => K (.bool x18) w19))
  (K (.bool false) w12))
  (K (.bool false) w12))
  (K (.bool false) w12))
  (K (.bool false) w12)))
  (0, ()) w10))))))))))))
def pl4 : Plan := (.seq .auto (.seq .auto (.seq .auto (.seq .auto (.seq .auto (.seq (.seq .auto (.block (.loop [(41, .one (.int .i64))] .auto))) .auto))))))
theorem e4 (p0 : Int) (w : World) (K : Value → World → Prop) : vcFunc Tryd.prog Tryd.f4 pl4 [.int .i64 p0] w K = C4 p0 w K := by kernel_rfl
theorem c4 (p0 : Int) (w : World) (K : Value → World → Prop) (h : C4 p0 w K) : Ret Tryd.prog 4 #[.int .i64 p0] w K := by
  rw [← e4] at h
  exact vcFunc_sound (by kernel_rfl) Tryd.func4 h

end Go.Proofs.YtgkpehbjcaibgaaDoor
