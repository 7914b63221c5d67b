/-
  The conditions of some functions, written by a program of this session, each tied to the translation by the kernel.
-/
import Derived.Test.YtlhbfdakceipkaaGreatDoorVcMem
import Derived.Test.YtlhbfdakceipkaaGreatDoorProg
import Derived.KernelRfl
namespace Go.Proofs.YtlhbfdakceipkaaGreatDoor
open Vc
set_option maxRecDepth 100000
set_option linter.unusedVariables false
/-- handfast/handfastkeep.Name -/
def C23 (p0 : ByteArray) (p1 : Int) (p2 : Int) (w : World) (K : Value → World → Prop) : Prop :=
  CallK Tryz.prog 32 #[.int .i64 p1, .int .i64 p2] w (.v (.one (.int .i64))) (fun (x1 : Int) w2 => RunK Tryz.prog (Instr.buildSlice 38 1 #[(0, .int .u8 (IntKind.u8.wrap (IntKind.i64.wrap (97 + x1))))]) w2 (.v (.one .slc)) (fun (x3 : Option Addr × Nat × Nat) w4 => RunK Tryz.prog (convert 38 9 (.slice x3.1 x3.2.1 x3.2.2)) w4 (.v (.one .str)) (fun (x5 : ByteArray) w6 => CatK p0 x5 (K (.string (p0 ++ x5)) w6))))
def pl23 : Plan := .auto
theorem e23 (p0 : ByteArray) (p1 : Int) (p2 : Int) (w : World) (K : Value → World → Prop) : vcFunc Tryz.prog Tryz.f23 pl23 [.string p0, .int .i64 p1, .int .i64 p2] w K = C23 p0 p1 p2 w K := by kernel_rfl
theorem c23 (p0 : ByteArray) (p1 : Int) (p2 : Int) (w : World) (K : Value → World → Prop) (h : C23 p0 p1 p2 w K) : Ret Tryz.prog 23 #[.string p0, .int .i64 p1, .int .i64 p2] w K := by
  rw [← e23] at h
  exact vcFunc_sound (by kernel_rfl) Tryz.func23 h

/-- handfast/handfastlaw07.wakes -/
def C25  (w : World) (K : Value → World → Prop) : Prop :=
  CallK Tryz.prog 24 #[.string (⟨#[103, 105, 118, 101, 40, 32, 122, 101, 114, 111, 32, 41]⟩ : ByteArray)] w (.tup [.one .raw, .one (.int .i64), .one (.int .i64)]) (fun (x1 : Value × Int × Int × Unit) w2 => TaK x1.1 89 (.agg [.raw]) (fun (x3 : Value × Unit) => NewK (.cells #[.nilIface] 89) w2 (fun g4 w5 => StsK (⟨g4, 0, none⟩ : Addr) [x3.1] w5 (fun w6 => ifB (x1.2.2.1 == 0)
  (K (.bool true) w6)
  (K (.bool false) w6))))
  (NewK (.cells #[.nilIface] 89) w2 (fun g7 w8 => StsK (⟨g7, 0, none⟩ : Addr) [.nilIface] w8 (fun w9 => ifB (x1.2.2.1 == 0)
  (K (.bool false) w9)
  (K (.bool false) w9)))))
def pl25 : Plan := .auto
theorem e25  (w : World) (K : Value → World → Prop) : vcFunc Tryz.prog Tryz.f25 pl25 [] w K = C25  w K := by kernel_rfl
theorem c25  (w : World) (K : Value → World → Prop) (h : C25  w K) : Ret Tryz.prog 25 #[] w K := by
  rw [← e25] at h
  exact vcFunc_sound (by kernel_rfl) Tryz.func25 h

/-- handfast/handfastlaw07.Text -/
def C26 (p0 : (Option Addr × Nat × Nat) × (Option Addr × Nat × Nat) × Unit) (p1 : Int) (p2 : Int) (p3 : ByteArray) (p4 : Bool) (w : World) (K : Value → World → Prop) : Prop :=
  NewK (.cells #[.slice p0.1.1 p0.1.2.1 p0.1.2.2, .slice p0.2.1.1 p0.2.1.2.1 p0.2.1.2.2] 25) w (fun g1 w2 => ifB p4
  (CallK Tryz.prog 53 #[.string p3, .int .i64 100] w2 (.v (.one .str)) (fun (x3 : ByteArray) w4 => K (.string x3) w4))
  (LdsK [.slc, .slc] (⟨g1, 0, none⟩ : Addr) w2 (fun (x5 : (Option Addr × Nat × Nat) × (Option Addr × Nat × Nat) × Unit) => CallK Tryz.prog 37 #[.agg #[.slice x5.1.1 x5.1.2.1 x5.1.2.2, .slice x5.2.1.1 x5.2.1.2.1 x5.2.1.2.2]] w2 (.v (.agg [.int .i64, .str, .int .i64, .slc])) (fun (x6 : Int × ByteArray × Int × (Option Addr × Nat × Nat) × Unit) w7 => CallK Tryz.prog 62 #[.agg #[.int .i64 x6.1, .string x6.2.1, .int .i64 x6.2.2.1, .slice x6.2.2.2.1.1 x6.2.2.2.1.2.1 x6.2.2.2.1.2.2], .bool false] w7 (.tup [.one .str, .one (.int .i64)]) (fun (x8 : ByteArray × Int × Unit) w9 => RunK Tryz.prog (Instr.buildSlice 23 16 #[(0, .string (⟨#[32]⟩ : ByteArray)), (1, .string (⟨#[40]⟩ : ByteArray)), (2, .string (⟨#[41]⟩ : ByteArray)), (3, .string (⟨#[44]⟩ : ByteArray)), (4, .string (⟨#[48]⟩ : ByteArray)), (5, .string (⟨#[45]⟩ : ByteArray)), (6, .string (⟨#[97]⟩ : ByteArray)), (7, .string (⟨#[122, 101, 114, 111]⟩ : ByteArray)), (8, .string (⟨#[111, 110, 101, 40]⟩ : ByteArray)), (9, .string (⟨#[102, 105, 120, 40, 120, 41]⟩ : ByteArray)), (10, .string (⟨#[195, 169]⟩ : ByteArray)), (11, .string (⟨#[255]⟩ : ByteArray)), (12, .string (⟨#[111, 114]⟩ : ByteArray)), (13, .string (⟨#[10]⟩ : ByteArray)), (14, .string (⟨#[97, 100, 100, 40, 49, 44, 50, 41]⟩ : ByteArray)), (15, .string (⟨#[119, 104, 101, 110, 40, 51, 44, 122, 101, 114, 111, 41]⟩ : ByteArray))]) w9 (.v (.one .slc)) (fun (x10 : Option Addr × Nat × Nat) w11 => CallK Tryz.prog 32 #[.int .i64 p2, .int .i64 (IntKind.i64.wrap ((x8.1.size : Int) + 1))] w11 (.v (.one (.int .i64))) (fun (x12 : Int) w13 => CallK Tryz.prog 32 #[.int .i64 p1, .int .i64 (IntKind.i64.wrap ((x10.2.1 : Int) + 14))] w13 (.v (.one (.int .i64))) (fun (x14 : Int) w15 => ifB (decide (x14 < (x10.2.1 : Int)))
  (DrewK w15 (fun w16 => SubsK x8.1 0 x12 (fun x17 => IdxK x10.1 x10.2.1 x14 1 (fun a18 => LdK .str a18 w16 (fun (x19 : ByteArray) => CatK x17 x19 (SubsK x8.1 x12 x8.1.size (fun x20 => CatK (x17 ++ x19) x20 (K (.string ((x17 ++ x19) ++ x20)) w16))))))))
  (ifB (decide (x14 < (IntKind.i64.wrap ((x10.2.1 : Int) + 5))))
  (ifB (decide (x12 < (x8.1.size : Int)))
  (DrewK w15 (fun w21 => SubsK x8.1 0 x12 (fun x22 => SubsK x8.1 (IntKind.i64.wrap (x12 + 1)) x8.1.size (fun x23 => CatK x22 x23 (K (.string (x22 ++ x23)) w21)))))
  (K (.string x8.1) w15))
  (K (.string x8.1) w15))))))))))
def pl26 : Plan := (.seq .auto (.seq .auto (.seq .auto (.seq .auto (.seq .auto (.seq (.seq .auto (.block (.seq .auto (.cond (.seq .still .auto) (.seq .auto (.cond (.seq .still .auto) .auto)))))) .auto))))))
theorem e26 (p0 : (Option Addr × Nat × Nat) × (Option Addr × Nat × Nat) × Unit) (p1 : Int) (p2 : Int) (p3 : ByteArray) (p4 : Bool) (w : World) (K : Value → World → Prop) : vcFunc Tryz.prog Tryz.f26 pl26 [.agg #[.slice p0.1.1 p0.1.2.1 p0.1.2.2, .slice p0.2.1.1 p0.2.1.2.1 p0.2.1.2.2], .int .i64 p1, .int .i64 p2, .string p3, .bool p4] w K = C26 p0 p1 p2 p3 p4 w K := by kernel_rfl
theorem c26 (p0 : (Option Addr × Nat × Nat) × (Option Addr × Nat × Nat) × Unit) (p1 : Int) (p2 : Int) (p3 : ByteArray) (p4 : Bool) (w : World) (K : Value → World → Prop) (h : C26 p0 p1 p2 p3 p4 w K) : Ret Tryz.prog 26 #[.agg #[.slice p0.1.1 p0.1.2.1 p0.1.2.2, .slice p0.2.1.1 p0.2.1.2.1 p0.2.1.2.2], .int .i64 p1, .int .i64 p2, .string p3, .bool p4] w K := by
  rw [← e26] at h
  exact vcFunc_sound (by kernel_rfl) Tryz.func26 h

end Go.Proofs.YtlhbfdakceipkaaGreatDoor
