/-
  The conditions of some functions, written by a program of this session, each tied to the translation by the kernel.
-/
import Derived.Test.YtlhbfdakceipkaaGreatDoorVcMem
import Derived.Test.YtlhbfdakceipkaaGreatDoorProg
import Derived.KernelRfl
namespace Go.Proofs.YtlhbfdakceipkaaGreatDoor
open Vc
set_option maxRecDepth 100000
set_option linter.unusedVariables false
/-- handfast/runes.Number -/
def C133 (p0 : ByteArray) (w : World) (K : Value → World → Prop) : Prop :=
  CallK Tryz.prog 160 #[.string p0, .string (⟨#[45]⟩ : ByteArray)] w (.v (.one .str)) (fun (x1 : ByteArray) w2 => JoinK (Bool × Unit) (fun J3 => ifB (x1.toList == (⟨#[]⟩ : ByteArray).toList)
  (J3 (true, ()) w2)
  (ifB (decide ((x1.size : Int) > 13))
  (J3 (true, ()) w2)
  (CallK Tryz.prog 161 #[.string x1, .string (⟨#[48, 49, 50, 51, 52, 53, 54, 55, 56, 57]⟩ : ByteArray)] w2 (.v (.one .str)) (fun (x6 : ByteArray) w7 => ifB (!(x6.toList == (⟨#[]⟩ : ByteArray).toList))
  (J3 (true, ()) w7)
  (StrK x1 0 (fun x8 => ifB (x8 == 48)
  (J3 ((!(p0.toList == (⟨#[48]⟩ : ByteArray).toList)), ()) w7)
  (J3 (false, ()) w7)))))))
  (fun _ s4 w5 => ifB s4.1
  (K (.tuple #[.int .i64 0, .bool false]) w5)
  (CallK Tryz.prog 162 #[.string p0] w5 (.tup [.one (.int .i64), .one .raw]) (fun (x9 : Int × Value × Unit) w10 => RunK Tryz.prog (do eqGuard .neq 275 (.tmp 35) (.const .nilIface) x9.2.1 .nilIface; binOp .neq 275 x9.2.1 .nilIface) w10 (.v (.one .bool)) (fun (x11 : Bool) w12 => ifB x11
  (K (.tuple #[.int .i64 0, .bool false]) w12)
  (ifB (decide (x9.1 < (-1000000000000)))
  (K (.tuple #[.int .i64 0, .bool false]) w12)
  (ifB (decide (x9.1 > 1000000000000))
  (K (.tuple #[.int .i64 0, .bool false]) w12)
  (K (.tuple #[.int .i64 x9.1, .bool true]) w12))))))))
def pl133 : Plan := (.seq .auto (.seq .auto (.seq (.join [(29, .one .bool)] .auto .auto) .auto)))
theorem e133 (p0 : ByteArray) (w : World) (K : Value → World → Prop) : vcFunc Tryz.prog Tryz.f133 pl133 [.string p0] w K = C133 p0 w K := by kernel_rfl
theorem c133 (p0 : ByteArray) (w : World) (K : Value → World → Prop) (h : C133 p0 w K) : Ret Tryz.prog 133 #[.string p0] w K := by
  rw [← e133] at h
  exact vcFunc_sound (by kernel_rfl) Tryz.func133 h

/-- handfast/handfastref01.Digits -/
def C98 (p0 : Int) (w : World) (K : Value → World → Prop) : Prop :=
  ifB (decide (p0 < 0))
  (NzK 10 (CallK Tryz.prog 98 #[.int .i64 (IntKind.i64.wrap (0 - (p0.tmod 10)))] w (.v (.one .str)) (fun (x1 : ByteArray) w2 => ifB (decide (p0 > (-10)))
  (CatK (⟨#[45]⟩ : ByteArray) x1 (K (.string ((⟨#[45]⟩ : ByteArray) ++ x1)) w2))
  (NzK 10 (CallK Tryz.prog 98 #[.int .i64 (IntKind.i64.wrap (p0.tdiv 10))] w2 (.v (.one .str)) (fun (x3 : ByteArray) w4 => CatK x3 x1 (K (.string (x3 ++ x1)) w4)))))))
  (ifB (decide (p0 < 10))
  (RunK Tryz.prog (Instr.buildSlice 38 1 #[(0, .int .u8 (IntKind.u8.wrap (IntKind.i64.wrap (48 + p0))))]) w (.v (.one .slc)) (fun (x5 : Option Addr × Nat × Nat) w6 => RunK Tryz.prog (convert 38 9 (.slice x5.1 x5.2.1 x5.2.2)) w6 (.v (.one .str)) (fun (x7 : ByteArray) w8 => K (.string x7) w8)))
  (RegK w (fun C9 => NzK 10 (AnyK C9 2 [] (.v (.one .str)) (fun w11 k12 => CallK Tryz.prog 98 #[.int .i64 (IntKind.i64.wrap (p0.tdiv 10))] w11 (.v (.one .str)) (fun (x13 : ByteArray) w14 => k12 (.string x13) w14))
  (fun (x10 : ByteArray) => NzK 10 (AnyK C9 6 [] (.v (.one (.int .u8))) (fun w16 k17 => k17 (.int .u8 (IntKind.u8.wrap (IntKind.i64.wrap (48 + (p0.tmod 10))))) w16)
  (fun (x15 : Int) => AnyK C9 7 [6] (.v (.one .slc)) (fun w19 k20 => RunK Tryz.prog (Instr.buildSlice 38 1 #[(0, .int .u8 x15)]) w19 (.v (.one .slc)) (fun (x21 : Option Addr × Nat × Nat) w22 => k20 (.slice x21.1 x21.2.1 x21.2.2) w22))
  (fun (x18 : Option Addr × Nat × Nat) => AnyK C9 8 [6, 7] (.v (.one .str)) (fun w24 k25 => RunK Tryz.prog (convert 38 9 (.slice x18.1 x18.2.1 x18.2.2)) w24 (.v (.one .str)) (fun (x26 : ByteArray) w27 => k25 (.string x26) w27))
  (fun (x23 : ByteArray) => CatK x10 x23 ((∀ w28, C9 (mem [2, 6, 7, 8]) w28 → K (.string (x10 ++ x23)) w28)))))))))))
def pl98 : Plan := (.seq .auto (.seq .auto (.seq .auto (.seq (.any [(2, .v (.one .str)), (6, .v (.one (.int .u8))), (7, .v (.one .slc)), (8, .v (.one .str))]) .auto))))
theorem e98 (p0 : Int) (w : World) (K : Value → World → Prop) : vcFunc Tryz.prog Tryz.f98 pl98 [.int .i64 p0] w K = C98 p0 w K := by kernel_rfl
theorem c98 (p0 : Int) (w : World) (K : Value → World → Prop) (h : C98 p0 w K) : Ret Tryz.prog 98 #[.int .i64 p0] w K := by
  rw [← e98] at h
  exact vcFunc_sound (by kernel_rfl) Tryz.func98 h

end Go.Proofs.YtlhbfdakceipkaaGreatDoor
