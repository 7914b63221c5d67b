/-
  The conditions of some functions, written by a program of this session, each tied to the translation by the kernel.
-/
import Derived.Test.YtlhbfdakceipkaaGreatDoorVcMem
import Derived.Test.YtlhbfdakceipkaaGreatDoorProg
import Derived.KernelRfl
namespace Go.Proofs.YtlhbfdakceipkaaGreatDoor
open Vc
set_option maxRecDepth 100000
set_option linter.unusedVariables false
/-- (*handfast/read.reader).place -/
def C155 (p0 : Addr) (w : World) (K : Value → World → Prop) : Prop :=
  LdK .slc (p0.add 0) w (fun (x1 : Option Addr × Nat × Nat) => ifB (decide ((x1.2.1 : Int) > 0))
  (LdK .slc (p0.add 0) w (fun (x2 : Option Addr × Nat × Nat) => IdxK x2.1 x2.2.1 0 2 (fun a3 => LdK (.int .i64) (a3.add 1) w (fun (x4 : Int) => K (.int .i64 x4) w))))
  (LdK (.int .i64) (p0.add 1) w (fun (x5 : Int) => K (.int .i64 x5) w)))
def pl155 : Plan := .auto
theorem e155 (p0 : Addr) (w : World) (K : Value → World → Prop) : vcFunc Tryz.prog Tryz.f155 pl155 [.pointer (some p0)] w K = C155 p0 w K := by kernel_rfl
theorem c155 (p0 : Addr) (w : World) (K : Value → World → Prop) (h : C155 p0 w K) : Ret Tryz.prog 155 #[.pointer (some p0)] w K := by
  rw [← e155] at h
  exact vcFunc_sound (by kernel_rfl) Tryz.func155 h

/-- (*handfast/read.reader).fail -/
def C115 (p0 : Addr) (p1 : Int) (w : World) (K : Value → World → Prop) : Prop :=
  LdK (.int .i64) (p0.add 3) w (fun (x1 : Int) => ifB (x1 == 0)
  (CallK Tryz.prog 155 #[.pointer (some p0)] w (.v (.one (.int .i64))) (fun (x2 : Int) w3 => StK (p0.add 3) (.int .i64 p1) w3 (fun w4 => StK (p0.add 2) (.int .i64 x2) w4 (fun w5 => K (.tuple #[]) w5))))
  (K (.tuple #[]) w))
def pl115 : Plan := .auto
theorem e115 (p0 : Addr) (p1 : Int) (w : World) (K : Value → World → Prop) : vcFunc Tryz.prog Tryz.f115 pl115 [.pointer (some p0), .int .i64 p1] w K = C115 p0 p1 w K := by kernel_rfl
theorem c115 (p0 : Addr) (p1 : Int) (w : World) (K : Value → World → Prop) (h : C115 p0 p1 w K) : Ret Tryz.prog 115 #[.pointer (some p0), .int .i64 p1] w K := by
  rw [← e115] at h
  exact vcFunc_sound (by kernel_rfl) Tryz.func115 h

/-- (*handfast/read.reader).take -/
def C108 (p0 : Addr) (p1 : Value) (w : World) (K : Value → World → Prop) : Prop :=
  JoinK (Bool × Unit) (fun J1 => LdK (.int .i64) (p0.add 3) w (fun (x4 : Int) => ifB (x4 == 0)
  (LdK .slc (p0.add 0) w (fun (x5 : Option Addr × Nat × Nat) => ifB ((x5.2.1 : Int) == 0)
  (J1 (true, ()) w)
  (LdK .slc (p0.add 0) w (fun (x6 : Option Addr × Nat × Nat) => IdxK x6.1 x6.2.1 0 2 (fun a7 => LdK .str (a7.add 0) w (fun (x8 : ByteArray) => callV Tryz.prog p1 [.string x8] (.v (.one .bool)) w (fun (x9 : Bool) w10 => J1 ((!x9), ()) w10)))))))
  (J1 (false, ()) w)))
  (fun _ s2 w3 => ifB s2.1
  (CallK Tryz.prog 115 #[.pointer (some p0), .int .i64 2] w3 (.tup []) (fun (x11 : Unit) w12 => LdK (.int .i64) (p0.add 3) w12 (fun (x13 : Int) => ifB (x13 != 0)
  (K (.string (⟨#[]⟩ : ByteArray)) w12)
  (LdK .slc (p0.add 0) w12 (fun (x14 : Option Addr × Nat × Nat) => IdxK x14.1 x14.2.1 0 2 (fun a15 => LdK .str (a15.add 0) w12 (fun (x16 : ByteArray) => LdK .slc (p0.add 0) w12 (fun (x17 : Option Addr × Nat × Nat) => SubK x17.1 x17.2.2 1 x17.2.1 x17.2.2 2 (fun a18 l19 c20 => StK (p0.add 0) (.slice a18 l19 c20) w12 (fun w21 => K (.string x16) w21))))))))))
  (LdK (.int .i64) (p0.add 3) w3 (fun (x22 : Int) => ifB (x22 != 0)
  (K (.string (⟨#[]⟩ : ByteArray)) w3)
  (LdK .slc (p0.add 0) w3 (fun (x23 : Option Addr × Nat × Nat) => IdxK x23.1 x23.2.1 0 2 (fun a24 => LdK .str (a24.add 0) w3 (fun (x25 : ByteArray) => LdK .slc (p0.add 0) w3 (fun (x26 : Option Addr × Nat × Nat) => SubK x26.1 x26.2.2 1 x26.2.1 x26.2.2 2 (fun a27 l28 c29 => StK (p0.add 0) (.slice a27 l28 c29) w3 (fun w30 => K (.string x25) w30))))))))))
def pl108 : Plan := (.seq .auto (.seq (.join [(30, .one .bool)] .auto .auto) .auto))
theorem e108 (p0 : Addr) (p1 : Value) (w : World) (K : Value → World → Prop) : vcFunc Tryz.prog Tryz.f108 pl108 [.pointer (some p0), p1] w K = C108 p0 p1 w K := by kernel_rfl
theorem c108 (p0 : Addr) (p1 : Value) (w : World) (K : Value → World → Prop) (h : C108 p0 p1 w K) : Ret Tryz.prog 108 #[.pointer (some p0), p1] w K := by
  rw [← e108] at h
  exact vcFunc_sound (by kernel_rfl) Tryz.func108 h

/-- (*handfast/read.reader).must -/
def C110 (p0 : Addr) (p1 : ByteArray) (w : World) (K : Value → World → Prop) : Prop :=
  NewK (.cells #[.string p1] 9) w (fun g1 w2 => CallK Tryz.prog 108 #[.pointer (some p0), .func (.func 153) #[] #[.pointer (some (⟨g1, 0, none⟩ : Addr))]] w2 (.v (.one .str)) (fun (x3 : ByteArray) w4 => K (.tuple #[]) w4))
def pl110 : Plan := .auto
theorem e110 (p0 : Addr) (p1 : ByteArray) (w : World) (K : Value → World → Prop) : vcFunc Tryz.prog Tryz.f110 pl110 [.pointer (some p0), .string p1] w K = C110 p0 p1 w K := by kernel_rfl
theorem c110 (p0 : Addr) (p1 : ByteArray) (w : World) (K : Value → World → Prop) (h : C110 p0 p1 w K) : Ret Tryz.prog 110 #[.pointer (some p0), .string p1] w K := by
  rw [← e110] at h
  exact vcFunc_sound (by kernel_rfl) Tryz.func110 h

/-- (*handfast/read.reader).must$1 -/
def C153 (p0 : ByteArray) (c0 : Addr) (w : World) (K : Value → World → Prop) : Prop :=
  LdK .str c0 w (fun (x1 : ByteArray) => K (.bool (p0.toList == x1.toList)) w)
def pl153 : Plan := .auto
theorem e153 (p0 : ByteArray) (c0 : Addr) (w : World) (K : Value → World → Prop) : vcFunc Tryz.prog Tryz.f153 pl153 [.string p0, .pointer (some c0)] w K = C153 p0 c0 w K := by kernel_rfl
theorem c153 (p0 : ByteArray) (c0 : Addr) (w : World) (K : Value → World → Prop) (h : C153 p0 c0 w K) : Ret Tryz.prog 153 #[.string p0, .pointer (some c0)] w K := by
  rw [← e153] at h
  exact vcFunc_sound (by kernel_rfl) Tryz.func153 h

/-- (*handfast/read.reader).name -/
def C111 (p0 : Addr) (w : World) (K : Value → World → Prop) : Prop :=
  CallK Tryz.prog 108 #[.pointer (some p0), .func (.func 145) #[] #[]] w (.v (.one .str)) (fun (x1 : ByteArray) w2 => K (.string x1) w2)
def pl111 : Plan := .auto
theorem e111 (p0 : Addr) (w : World) (K : Value → World → Prop) : vcFunc Tryz.prog Tryz.f111 pl111 [.pointer (some p0)] w K = C111 p0 w K := by kernel_rfl
theorem c111 (p0 : Addr) (w : World) (K : Value → World → Prop) (h : C111 p0 w K) : Ret Tryz.prog 111 #[.pointer (some p0)] w K := by
  rw [← e111] at h
  exact vcFunc_sound (by kernel_rfl) Tryz.func111 h

/-- (*handfast/read.reader).deep -/
def C107 (p0 : Addr) (p1 : Int) (w : World) (K : Value → World → Prop) : Prop :=
  ifB (decide (p1 ≥ 12))
  (CallK Tryz.prog 115 #[.pointer (some p0), .int .i64 5] w (.tup []) (fun (x1 : Unit) w2 => LdK (.int .i64) (p0.add 3) w2 (fun (x3 : Int) => K (.bool (x3 != 0)) w2)))
  (LdK (.int .i64) (p0.add 3) w (fun (x4 : Int) => K (.bool (x4 != 0)) w))
def pl107 : Plan := .auto
theorem e107 (p0 : Addr) (p1 : Int) (w : World) (K : Value → World → Prop) : vcFunc Tryz.prog Tryz.f107 pl107 [.pointer (some p0), .int .i64 p1] w K = C107 p0 p1 w K := by kernel_rfl
theorem c107 (p0 : Addr) (p1 : Int) (w : World) (K : Value → World → Prop) (h : C107 p0 p1 w K) : Ret Tryz.prog 107 #[.pointer (some p0), .int .i64 p1] w K := by
  rw [← e107] at h
  exact vcFunc_sound (by kernel_rfl) Tryz.func107 h

/-- (*handfast/read.reader).pair -/
def C132 (p0 : Addr) (p1 : Int) (w : World) (K : Value → World → Prop) : Prop :=
  CallK Tryz.prog 110 #[.pointer (some p0), .string (⟨#[40]⟩ : ByteArray)] w (.tup []) (fun (x1 : Unit) w2 => CallK Tryz.prog 72 #[.pointer (some p0), .int .i64 p1] w2 (.v (.one .raw)) (fun (x3 : Value) w4 => CallK Tryz.prog 110 #[.pointer (some p0), .string (⟨#[44]⟩ : ByteArray)] w4 (.tup []) (fun (x5 : Unit) w6 => CallK Tryz.prog 72 #[.pointer (some p0), .int .i64 p1] w6 (.v (.one .raw)) (fun (x7 : Value) w8 => CallK Tryz.prog 110 #[.pointer (some p0), .string (⟨#[41]⟩ : ByteArray)] w8 (.tup []) (fun (x9 : Unit) w10 => K (.tuple #[x3, x7]) w10)))))
def pl132 : Plan := .auto
theorem e132 (p0 : Addr) (p1 : Int) (w : World) (K : Value → World → Prop) : vcFunc Tryz.prog Tryz.f132 pl132 [.pointer (some p0), .int .i64 p1] w K = C132 p0 p1 w K := by kernel_rfl
theorem c132 (p0 : Addr) (p1 : Int) (w : World) (K : Value → World → Prop) (h : C132 p0 p1 w K) : Ret Tryz.prog 132 #[.pointer (some p0), .int .i64 p1] w K := by
  rw [← e132] at h
  exact vcFunc_sound (by kernel_rfl) Tryz.func132 h

/-- (*handfast/read.reader).number -/
def C72 (p0 : Addr) (p1 : Int) (w : World) (K : Value → World → Prop) : Prop :=
  CallK Tryz.prog 107 #[.pointer (some p0), .int .i64 p1] w (.v (.one .bool)) (fun (x1 : Bool) w2 => ifB x1
  (K .nilIface w2)
  (CallK Tryz.prog 108 #[.pointer (some p0), .func (.func 131) #[] #[]] w2 (.v (.one .str)) (fun (x3 : ByteArray) w4 => ifB (x3.toList == (⟨#[]⟩ : ByteArray).toList)
  (K .nilIface w4)
  (ifB (x3.toList == (⟨#[102, 105, 120]⟩ : ByteArray).toList)
  (CallK Tryz.prog 110 #[.pointer (some p0), .string (⟨#[40]⟩ : ByteArray)] w4 (.tup []) (fun (x5 : Unit) w6 => CallK Tryz.prog 111 #[.pointer (some p0)] w6 (.v (.one .str)) (fun (x7 : ByteArray) w8 => NewK (.cells #[.string (⟨#[]⟩ : ByteArray)] 78) w8 (fun g9 w10 => StsK (⟨g9, 0, none⟩ : Addr) [.string x7] w10 (fun w11 => CallK Tryz.prog 110 #[.pointer (some p0), .string (⟨#[41]⟩ : ByteArray)] w11 (.tup []) (fun (x12 : Unit) w13 => LdsK [.str] (⟨g9, 0, none⟩ : Addr) w13 (fun (x14 : ByteArray × Unit) => K (.iface 78 (.agg #[.string x14.1])) w13)))))))
  (ifB (x3.toList == (⟨#[110, 101, 103]⟩ : ByteArray).toList)
  (CallK Tryz.prog 110 #[.pointer (some p0), .string (⟨#[40]⟩ : ByteArray)] w4 (.tup []) (fun (x15 : Unit) w16 => CallK Tryz.prog 72 #[.pointer (some p0), .int .i64 (IntKind.i64.wrap (p1 + 1))] w16 (.v (.one .raw)) (fun (x17 : Value) w18 => OneK x17 (NewK (.cells #[.nilIface] 85) w18 (fun g19 w20 => StsK (⟨g19, 0, none⟩ : Addr) [x17] w20 (fun w21 => CallK Tryz.prog 110 #[.pointer (some p0), .string (⟨#[41]⟩ : ByteArray)] w21 (.tup []) (fun (x22 : Unit) w23 => LdsK [.raw] (⟨g19, 0, none⟩ : Addr) w23 (fun (x24 : Value × Unit) => K (.iface 85 (.agg #[x24.1])) w23))))))))
  (ifB (x3.toList == (⟨#[97, 100, 100]⟩ : ByteArray).toList)
  (CallK Tryz.prog 132 #[.pointer (some p0), .int .i64 (IntKind.i64.wrap (p1 + 1))] w4 (.tup [.one .raw, .one .raw]) (fun (x25 : Value × Value × Unit) w26 => OneK x25.1 (OneK x25.2.1 (K (.iface 86 (.agg #[x25.1, x25.2.1])) w26))))
  (ifB (x3.toList == (⟨#[109, 117, 108]⟩ : ByteArray).toList)
  (CallK Tryz.prog 132 #[.pointer (some p0), .int .i64 (IntKind.i64.wrap (p1 + 1))] w4 (.tup [.one .raw, .one .raw]) (fun (x27 : Value × Value × Unit) w28 => OneK x27.1 (OneK x27.2.1 (K (.iface 83 (.agg #[x27.1, x27.2.1])) w28))))
  (ifB (x3.toList == (⟨#[109, 97, 120]⟩ : ByteArray).toList)
  (CallK Tryz.prog 132 #[.pointer (some p0), .int .i64 (IntKind.i64.wrap (p1 + 1))] w4 (.tup [.one .raw, .one .raw]) (fun (x29 : Value × Value × Unit) w30 => OneK x29.1 (OneK x29.2.1 (K (.iface 82 (.agg #[x29.1, x29.2.1])) w30))))
  (CallK Tryz.prog 133 #[.string x3] w4 (.tup [.one (.int .i64), .one .bool]) (fun (x31 : Int × Bool × Unit) w32 => K (.iface 80 (.agg #[.int .i64 x31.1])) w32))))))))))
def pl72 : Plan := .auto
theorem e72 (p0 : Addr) (p1 : Int) (w : World) (K : Value → World → Prop) : vcFunc Tryz.prog Tryz.f72 pl72 [.pointer (some p0), .int .i64 p1] w K = C72 p0 p1 w K := by kernel_rfl
theorem c72 (p0 : Addr) (p1 : Int) (w : World) (K : Value → World → Prop) (h : C72 p0 p1 w K) : Ret Tryz.prog 72 #[.pointer (some p0), .int .i64 p1] w K := by
  rw [← e72] at h
  exact vcFunc_sound (by kernel_rfl) Tryz.func72 h

/-- (*handfast/read.reader).day -/
def C114 (p0 : Addr) (w : World) (K : Value → World → Prop) : Prop :=
  CallK Tryz.prog 108 #[.pointer (some p0), .func (.func 154) #[] #[]] w (.v (.one .str)) (fun (x1 : ByteArray) w2 => CallK Tryz.prog 133 #[.string x1] w2 (.tup [.one (.int .i64), .one .bool]) (fun (x3 : Int × Bool × Unit) w4 => K (.int .i64 x3.1) w4))
def pl114 : Plan := .auto
theorem e114 (p0 : Addr) (w : World) (K : Value → World → Prop) : vcFunc Tryz.prog Tryz.f114 pl114 [.pointer (some p0)] w K = C114 p0 w K := by kernel_rfl
theorem c114 (p0 : Addr) (w : World) (K : Value → World → Prop) (h : C114 p0 w K) : Ret Tryz.prog 114 #[.pointer (some p0)] w K := by
  rw [← e114] at h
  exact vcFunc_sound (by kernel_rfl) Tryz.func114 h

/-- (*handfast/read.reader).day$1 -/
def C154 (p0 : ByteArray) (w : World) (K : Value → World → Prop) : Prop :=
  CallK Tryz.prog 133 #[.string p0] w (.tup [.one (.int .i64), .one .bool]) (fun (x1 : Int × Bool × Unit) w2 => ifB x1.2.1
  (ifB (decide (x1.1 ≥ 0))
  (K (.bool (decide (x1.1 ≤ 10000))) w2)
  (K (.bool false) w2))
  (K (.bool false) w2))
def pl154 : Plan := .auto
theorem e154 (p0 : ByteArray) (w : World) (K : Value → World → Prop) : vcFunc Tryz.prog Tryz.f154 pl154 [.string p0] w K = C154 p0 w K := by kernel_rfl
theorem c154 (p0 : ByteArray) (w : World) (K : Value → World → Prop) (h : C154 p0 w K) : Ret Tryz.prog 154 #[.string p0] w K := by
  rw [← e154] at h
  exact vcFunc_sound (by kernel_rfl) Tryz.func154 h

/-- (*handfast/read.reader).both -/
def C113 (p0 : Addr) (p1 : Int) (w : World) (K : Value → World → Prop) : Prop :=
  CallK Tryz.prog 64 #[.pointer (some p0), .int .i64 p1] w (.v (.one .raw)) (fun (x1 : Value) w2 => CallK Tryz.prog 110 #[.pointer (some p0), .string (⟨#[44]⟩ : ByteArray)] w2 (.tup []) (fun (x3 : Unit) w4 => CallK Tryz.prog 64 #[.pointer (some p0), .int .i64 p1] w4 (.v (.one .raw)) (fun (x5 : Value) w6 => CallK Tryz.prog 110 #[.pointer (some p0), .string (⟨#[41]⟩ : ByteArray)] w6 (.tup []) (fun (x7 : Unit) w8 => K (.tuple #[x1, x5]) w8))))
def pl113 : Plan := .auto
theorem e113 (p0 : Addr) (p1 : Int) (w : World) (K : Value → World → Prop) : vcFunc Tryz.prog Tryz.f113 pl113 [.pointer (some p0), .int .i64 p1] w K = C113 p0 p1 w K := by kernel_rfl
theorem c113 (p0 : Addr) (p1 : Int) (w : World) (K : Value → World → Prop) (h : C113 p0 p1 w K) : Ret Tryz.prog 113 #[.pointer (some p0), .int .i64 p1] w K := by
  rw [← e113] at h
  exact vcFunc_sound (by kernel_rfl) Tryz.func113 h

/-- (*handfast/read.reader).one -/
def C112 (p0 : Addr) (p1 : Int) (w : World) (K : Value → World → Prop) : Prop :=
  CallK Tryz.prog 64 #[.pointer (some p0), .int .i64 p1] w (.v (.one .raw)) (fun (x1 : Value) w2 => CallK Tryz.prog 110 #[.pointer (some p0), .string (⟨#[41]⟩ : ByteArray)] w2 (.tup []) (fun (x3 : Unit) w4 => K x1 w4))
def pl112 : Plan := .auto
theorem e112 (p0 : Addr) (p1 : Int) (w : World) (K : Value → World → Prop) : vcFunc Tryz.prog Tryz.f112 pl112 [.pointer (some p0), .int .i64 p1] w K = C112 p0 p1 w K := by kernel_rfl
theorem c112 (p0 : Addr) (p1 : Int) (w : World) (K : Value → World → Prop) (h : C112 p0 p1 w K) : Ret Tryz.prog 112 #[.pointer (some p0), .int .i64 p1] w K := by
  rw [← e112] at h
  exact vcFunc_sound (by kernel_rfl) Tryz.func112 h

/-- (*handfast/read.reader).contract -/
def C64 (p0 : Addr) (p1 : Int) (w : World) (K : Value → World → Prop) : Prop :=
  CallK Tryz.prog 107 #[.pointer (some p0), .int .i64 p1] w (.v (.one .bool)) (fun (x1 : Bool) w2 => ifB x1
  (K .nilIface w2)
  (CallK Tryz.prog 108 #[.pointer (some p0), .func (.func 109) #[] #[]] w2 (.v (.one .str)) (fun (x3 : ByteArray) w4 => ifB (x3.toList == (⟨#[]⟩ : ByteArray).toList)
  (K (.iface 76 (.agg #[])) w4)
  (ifB (x3.toList == (⟨#[122, 101, 114, 111]⟩ : ByteArray).toList)
  (K (.iface 76 (.agg #[])) w4)
  (CallK Tryz.prog 110 #[.pointer (some p0), .string (⟨#[40]⟩ : ByteArray)] w4 (.tup []) (fun (x5 : Unit) w6 => ifB (x3.toList == (⟨#[111, 110, 101]⟩ : ByteArray).toList)
  (CallK Tryz.prog 111 #[.pointer (some p0)] w6 (.v (.one .str)) (fun (x7 : ByteArray) w8 => NewK (.cells #[.string (⟨#[]⟩ : ByteArray)] 74) w8 (fun g9 w10 => StsK (⟨g9, 0, none⟩ : Addr) [.string x7] w10 (fun w11 => CallK Tryz.prog 110 #[.pointer (some p0), .string (⟨#[41]⟩ : ByteArray)] w11 (.tup []) (fun (x12 : Unit) w13 => LdsK [.str] (⟨g9, 0, none⟩ : Addr) w13 (fun (x14 : ByteArray × Unit) => K (.iface 74 (.agg #[.string x14.1])) w13))))))
  (ifB (x3.toList == (⟨#[103, 105, 118, 101]⟩ : ByteArray).toList)
  (CallK Tryz.prog 112 #[.pointer (some p0), .int .i64 (IntKind.i64.wrap (p1 + 1))] w6 (.v (.one .raw)) (fun (x15 : Value) w16 => OneK x15 (K (.iface 89 (.agg #[x15])) w16)))
  (ifB (x3.toList == (⟨#[97, 110, 100]⟩ : ByteArray).toList)
  (CallK Tryz.prog 113 #[.pointer (some p0), .int .i64 (IntKind.i64.wrap (p1 + 1))] w6 (.tup [.one .raw, .one .raw]) (fun (x17 : Value × Value × Unit) w18 => OneK x17.1 (OneK x17.2.1 (K (.iface 91 (.agg #[x17.1, x17.2.1])) w18))))
  (ifB (x3.toList == (⟨#[111, 114]⟩ : ByteArray).toList)
  (CallK Tryz.prog 111 #[.pointer (some p0)] w6 (.v (.one .str)) (fun (x19 : ByteArray) w20 => NewK (.cells #[.string (⟨#[]⟩ : ByteArray), .nilIface, .nilIface] 93) w20 (fun g21 w22 => StsK (⟨g21, 0, none⟩ : Addr) [.string x19, .nilIface, .nilIface] w22 (fun w23 => CallK Tryz.prog 110 #[.pointer (some p0), .string (⟨#[44]⟩ : ByteArray)] w23 (.tup []) (fun (x24 : Unit) w25 => CallK Tryz.prog 113 #[.pointer (some p0), .int .i64 (IntKind.i64.wrap (p1 + 1))] w25 (.tup [.one .raw, .one .raw]) (fun (x26 : Value × Value × Unit) w27 => OneK x26.1 (StsK ((⟨g21, 0, none⟩ : Addr).add 1) [x26.1] w27 (fun w28 => OneK x26.2.1 (StsK ((⟨g21, 0, none⟩ : Addr).add 2) [x26.2.1] w28 (fun w29 => LdsK [.str, .raw, .raw] (⟨g21, 0, none⟩ : Addr) w29 (fun (x30 : ByteArray × Value × Value × Unit) => K (.iface 93 (.agg #[.string x30.1, x30.2.1, x30.2.2.1])) w29)))))))))))
  (ifB (x3.toList == (⟨#[115, 99, 97, 108, 101]⟩ : ByteArray).toList)
  (CallK Tryz.prog 72 #[.pointer (some p0), .int .i64 (IntKind.i64.wrap (p1 + 1))] w6 (.v (.one .raw)) (fun (x31 : Value) w32 => OneK x31 (NewK (.cells #[.nilIface, .nilIface] 97) w32 (fun g33 w34 => StsK (⟨g33, 0, none⟩ : Addr) [x31, .nilIface] w34 (fun w35 => CallK Tryz.prog 110 #[.pointer (some p0), .string (⟨#[44]⟩ : ByteArray)] w35 (.tup []) (fun (x36 : Unit) w37 => CallK Tryz.prog 112 #[.pointer (some p0), .int .i64 (IntKind.i64.wrap (p1 + 1))] w37 (.v (.one .raw)) (fun (x38 : Value) w39 => OneK x38 (StsK ((⟨g33, 0, none⟩ : Addr).add 1) [x38] w39 (fun w40 => LdsK [.raw, .raw] (⟨g33, 0, none⟩ : Addr) w40 (fun (x41 : Value × Value × Unit) => K (.iface 97 (.agg #[x41.1, x41.2.1])) w40))))))))))
  (ifB (x3.toList == (⟨#[119, 104, 101, 110]⟩ : ByteArray).toList)
  (CallK Tryz.prog 114 #[.pointer (some p0)] w6 (.v (.one (.int .i64))) (fun (x42 : Int) w43 => NewK (.cells #[.int .i64 0, .nilIface] 95) w43 (fun g44 w45 => StsK (⟨g44, 0, none⟩ : Addr) [.int .i64 x42, .nilIface] w45 (fun w46 => CallK Tryz.prog 110 #[.pointer (some p0), .string (⟨#[44]⟩ : ByteArray)] w46 (.tup []) (fun (x47 : Unit) w48 => CallK Tryz.prog 112 #[.pointer (some p0), .int .i64 (IntKind.i64.wrap (p1 + 1))] w48 (.v (.one .raw)) (fun (x49 : Value) w50 => OneK x49 (StsK ((⟨g44, 0, none⟩ : Addr).add 1) [x49] w50 (fun w51 => LdsK [.int .i64, .raw] (⟨g44, 0, none⟩ : Addr) w51 (fun (x52 : Int × Value × Unit) => K (.iface 95 (.agg #[.int .i64 x52.1, x52.2.1])) w51)))))))))
  (CallK Tryz.prog 72 #[.pointer (some p0), .int .i64 (IntKind.i64.wrap (p1 + 1))] w6 (.v (.one .raw)) (fun (x53 : Value) w54 => OneK x53 (NewK (.cells #[.nilIface, .nilIface, .nilIface] 99) w54 (fun g55 w56 => StsK (⟨g55, 0, none⟩ : Addr) [x53, .nilIface, .nilIface] w56 (fun w57 => CallK Tryz.prog 110 #[.pointer (some p0), .string (⟨#[44]⟩ : ByteArray)] w57 (.tup []) (fun (x58 : Unit) w59 => CallK Tryz.prog 113 #[.pointer (some p0), .int .i64 (IntKind.i64.wrap (p1 + 1))] w59 (.tup [.one .raw, .one .raw]) (fun (x60 : Value × Value × Unit) w61 => OneK x60.1 (StsK ((⟨g55, 0, none⟩ : Addr).add 1) [x60.1] w61 (fun w62 => OneK x60.2.1 (StsK ((⟨g55, 0, none⟩ : Addr).add 2) [x60.2.1] w62 (fun w63 => LdsK [.raw, .raw, .raw] (⟨g55, 0, none⟩ : Addr) w63 (fun (x64 : Value × Value × Value × Unit) => K (.iface 99 (.agg #[x64.1, x64.2.1, x64.2.2.1])) w63)))))))))))))))))))))))
def pl64 : Plan := .auto
theorem e64 (p0 : Addr) (p1 : Int) (w : World) (K : Value → World → Prop) : vcFunc Tryz.prog Tryz.f64 pl64 [.pointer (some p0), .int .i64 p1] w K = C64 p0 p1 w K := by kernel_rfl
theorem c64 (p0 : Addr) (p1 : Int) (w : World) (K : Value → World → Prop) (h : C64 p0 p1 w K) : Ret Tryz.prog 64 #[.pointer (some p0), .int .i64 p1] w K := by
  rw [← e64] at h
  exact vcFunc_sound (by kernel_rfl) Tryz.func64 h

/-- (*handfast/read.reader).done -/
def C65 (p0 : Addr) (w : World) (K : Value → World → Prop) : Prop :=
  LdK .slc (p0.add 0) w (fun (x1 : Option Addr × Nat × Nat) => ifB (decide ((x1.2.1 : Int) > 0))
  (CallK Tryz.prog 115 #[.pointer (some p0), .int .i64 2] w (.tup []) (fun (x2 : Unit) w3 => K (.tuple #[]) w3))
  (K (.tuple #[]) w))
def pl65 : Plan := .auto
theorem e65 (p0 : Addr) (w : World) (K : Value → World → Prop) : vcFunc Tryz.prog Tryz.f65 pl65 [.pointer (some p0)] w K = C65 p0 w K := by kernel_rfl
theorem c65 (p0 : Addr) (w : World) (K : Value → World → Prop) (h : C65 p0 w K) : Ret Tryz.prog 65 #[.pointer (some p0)] w K := by
  rw [← e65] at h
  exact vcFunc_sound (by kernel_rfl) Tryz.func65 h

/-- handfast/read.word -/
def C131 (p0 : ByteArray) (w : World) (K : Value → World → Prop) : Prop :=
  CallK Tryz.prog 133 #[.string p0] w (.tup [.one (.int .i64), .one .bool]) (fun (x1 : Int × Bool × Unit) w2 => ifB x1.2.1
  (K (.bool true) w2)
  (ifB (p0.toList == (⟨#[102, 105, 120]⟩ : ByteArray).toList)
  (K (.bool true) w2)
  (ifB (p0.toList == (⟨#[97, 100, 100]⟩ : ByteArray).toList)
  (K (.bool true) w2)
  (ifB (p0.toList == (⟨#[110, 101, 103]⟩ : ByteArray).toList)
  (K (.bool true) w2)
  (ifB (p0.toList == (⟨#[109, 117, 108]⟩ : ByteArray).toList)
  (K (.bool true) w2)
  (K (.bool (p0.toList == (⟨#[109, 97, 120]⟩ : ByteArray).toList)) w2))))))
def pl131 : Plan := .auto
theorem e131 (p0 : ByteArray) (w : World) (K : Value → World → Prop) : vcFunc Tryz.prog Tryz.f131 pl131 [.string p0] w K = C131 p0 w K := by kernel_rfl
theorem c131 (p0 : ByteArray) (w : World) (K : Value → World → Prop) (h : C131 p0 w K) : Ret Tryz.prog 131 #[.string p0] w K := by
  rw [← e131] at h
  exact vcFunc_sound (by kernel_rfl) Tryz.func131 h

/-- handfast/read.begins -/
def C109 (p0 : ByteArray) (w : World) (K : Value → World → Prop) : Prop :=
  ifB (p0.toList == (⟨#[122, 101, 114, 111]⟩ : ByteArray).toList)
  (ifB (p0.toList == (⟨#[122, 101, 114, 111]⟩ : ByteArray).toList)
  (K (.bool true) w)
  (K (.bool false) w))
  (ifB (p0.toList == (⟨#[111, 110, 101]⟩ : ByteArray).toList)
  (ifB (p0.toList == (⟨#[111, 110, 101]⟩ : ByteArray).toList)
  (K (.bool true) w)
  (K (.bool false) w))
  (ifB (p0.toList == (⟨#[103, 105, 118, 101]⟩ : ByteArray).toList)
  (ifB (p0.toList == (⟨#[103, 105, 118, 101]⟩ : ByteArray).toList)
  (K (.bool true) w)
  (K (.bool false) w))
  (ifB (p0.toList == (⟨#[97, 110, 100]⟩ : ByteArray).toList)
  (ifB (p0.toList == (⟨#[97, 110, 100]⟩ : ByteArray).toList)
  (K (.bool true) w)
  (K (.bool false) w))
  (ifB (p0.toList == (⟨#[111, 114]⟩ : ByteArray).toList)
  (ifB (p0.toList == (⟨#[111, 114]⟩ : ByteArray).toList)
  (K (.bool true) w)
  (K (.bool false) w))
  (ifB (p0.toList == (⟨#[115, 99, 97, 108, 101]⟩ : ByteArray).toList)
  (ifB (p0.toList == (⟨#[115, 99, 97, 108, 101]⟩ : ByteArray).toList)
  (K (.bool true) w)
  (K (.bool false) w))
  (ifB (p0.toList == (⟨#[119, 104, 101, 110]⟩ : ByteArray).toList)
  (ifB (p0.toList == (⟨#[119, 104, 101, 110]⟩ : ByteArray).toList)
  (K (.bool true) w)
  (K (.bool false) w))
  (ifB (p0.toList == (⟨#[105, 102]⟩ : ByteArray).toList)
  (K (.bool true) w)
  (K (.bool false) w))))))))
def pl109 : Plan := .auto
theorem e109 (p0 : ByteArray) (w : World) (K : Value → World → Prop) : vcFunc Tryz.prog Tryz.f109 pl109 [.string p0] w K = C109 p0 w K := by kernel_rfl
theorem c109 (p0 : ByteArray) (w : World) (K : Value → World → Prop) (h : C109 p0 w K) : Ret Tryz.prog 109 #[.string p0] w K := by
  rw [← e109] at h
  exact vcFunc_sound (by kernel_rfl) Tryz.func109 h

/-- handfast/read.begin -/
def C63 (p0 : ByteArray) (w : World) (K : Value → World → Prop) : Prop :=
  CallK Tryz.prog 105 #[.string p0] w (.v (.one (.int .i64))) (fun (x1 : Int) w2 => NewK (.cells #[.slice none 0 0, .int .i64 (IntKind.i64.wrap (x1 + 1)), .int .i64 0, .int .i64 0] 145) w2 (fun g3 w4 => ifB (decide ((p0.size : Int) > 1000))
  (StK ((⟨g3, 0, none⟩ : Addr).add 3) (.int .i64 5) w4 (fun w5 => K (.pointer (some (⟨g3, 0, none⟩ : Addr))) w5))
  (CallK Tryz.prog 106 #[.string p0] w4 (.tup [.one .slc, .one (.int .i64)]) (fun (x6 : (Option Addr × Nat × Nat) × Int × Unit) w7 => ifB (decide (x6.2.1 > 0))
  (StK ((⟨g3, 0, none⟩ : Addr).add 3) (.int .i64 2) w7 (fun w8 => StK ((⟨g3, 0, none⟩ : Addr).add 2) (.int .i64 x6.2.1) w8 (fun w9 => StK ((⟨g3, 0, none⟩ : Addr).add 0) (.slice x6.1.1 x6.1.2.1 x6.1.2.2) w9 (fun w10 => K (.pointer (some (⟨g3, 0, none⟩ : Addr))) w10))))
  (StK ((⟨g3, 0, none⟩ : Addr).add 0) (.slice x6.1.1 x6.1.2.1 x6.1.2.2) w7 (fun w11 => K (.pointer (some (⟨g3, 0, none⟩ : Addr))) w11))))))
def pl63 : Plan := .auto
theorem e63 (p0 : ByteArray) (w : World) (K : Value → World → Prop) : vcFunc Tryz.prog Tryz.f63 pl63 [.string p0] w K = C63 p0 w K := by kernel_rfl
theorem c63 (p0 : ByteArray) (w : World) (K : Value → World → Prop) (h : C63 p0 w K) : Ret Tryz.prog 63 #[.string p0] w K := by
  rw [← e63] at h
  exact vcFunc_sound (by kernel_rfl) Tryz.func63 h

/-- handfast/read.Term -/
def C24 (p0 : ByteArray) (w : World) (K : Value → World → Prop) : Prop :=
  CallK Tryz.prog 63 #[.string p0] w (.v (.one .ptr)) (fun (x1 : Option Addr) w2 => CallK Tryz.prog 64 #[.pointer x1, .int .i64 0] w2 (.v (.one .raw)) (fun (x3 : Value) w4 => CallK Tryz.prog 65 #[.pointer x1] w4 (.tup []) (fun (x5 : Unit) w6 => optA x1 (fun a7 => LdK (.int .i64) (a7.add 3) w6 (fun (x8 : Int) => ifB (x8 == 0)
  (CallK Tryz.prog 66 #[x3] w6 (.v (.one (.int .i64))) (fun (x9 : Int) w10 => optA x1 (fun a11 => StK (a11.add 3) (.int .i64 x9) w10 (fun w12 => optA x1 (fun a13 => LdK (.int .i64) (a13.add 3) w12 (fun (x14 : Int) => ifB (x14 != 0)
  (DrewK w12 (fun w15 => optA x1 (fun a16 => LdK (.int .i64) (a16.add 2) w15 (fun (x17 : Int) => optA x1 (fun a18 => LdK (.int .i64) (a18.add 3) w15 (fun (x19 : Int) => K (.tuple #[.nilIface, .int .i64 x17, .int .i64 x19]) w15))))))
  (K (.tuple #[x3, .int .i64 0, .int .i64 0]) w12)))))))
  (optA x1 (fun a20 => LdK (.int .i64) (a20.add 3) w6 (fun (x21 : Int) => ifB (x21 != 0)
  (DrewK w6 (fun w22 => optA x1 (fun a23 => LdK (.int .i64) (a23.add 2) w22 (fun (x24 : Int) => optA x1 (fun a25 => LdK (.int .i64) (a25.add 3) w22 (fun (x26 : Int) => K (.tuple #[.nilIface, .int .i64 x24, .int .i64 x26]) w22))))))
  (K (.tuple #[x3, .int .i64 0, .int .i64 0]) w6)))))))))
def pl24 : Plan := (.seq .auto (.seq .auto (.seq .auto (.seq .auto (.seq .auto (.seq (.seq .auto (.cond (.seq .still .auto) .auto)) .auto))))))
theorem e24 (p0 : ByteArray) (w : World) (K : Value → World → Prop) : vcFunc Tryz.prog Tryz.f24 pl24 [.string p0] w K = C24 p0 w K := by kernel_rfl
theorem c24 (p0 : ByteArray) (w : World) (K : Value → World → Prop) (h : C24 p0 w K) : Ret Tryz.prog 24 #[.string p0] w K := by
  rw [← e24] at h
  exact vcFunc_sound (by kernel_rfl) Tryz.func24 h

/-- handfast/read.Obs -/
def C28 (p0 : ByteArray) (w : World) (K : Value → World → Prop) : Prop :=
  CallK Tryz.prog 63 #[.string p0] w (.v (.one .ptr)) (fun (x1 : Option Addr) w2 => CallK Tryz.prog 72 #[.pointer x1, .int .i64 0] w2 (.v (.one .raw)) (fun (x3 : Value) w4 => CallK Tryz.prog 65 #[.pointer x1] w4 (.tup []) (fun (x5 : Unit) w6 => optA x1 (fun a7 => LdK (.int .i64) (a7.add 3) w6 (fun (x8 : Int) => ifB (x8 == 0)
  (CallK Tryz.prog 73 #[x3] w6 (.v (.one (.int .i64))) (fun (x9 : Int) w10 => optA x1 (fun a11 => StK (a11.add 3) (.int .i64 x9) w10 (fun w12 => optA x1 (fun a13 => LdK (.int .i64) (a13.add 3) w12 (fun (x14 : Int) => ifB (x14 != 0)
  (DrewK w12 (fun w15 => optA x1 (fun a16 => LdK (.int .i64) (a16.add 2) w15 (fun (x17 : Int) => optA x1 (fun a18 => LdK (.int .i64) (a18.add 3) w15 (fun (x19 : Int) => K (.tuple #[.nilIface, .int .i64 x17, .int .i64 x19]) w15))))))
  (K (.tuple #[x3, .int .i64 0, .int .i64 0]) w12)))))))
  (optA x1 (fun a20 => LdK (.int .i64) (a20.add 3) w6 (fun (x21 : Int) => ifB (x21 != 0)
  (DrewK w6 (fun w22 => optA x1 (fun a23 => LdK (.int .i64) (a23.add 2) w22 (fun (x24 : Int) => optA x1 (fun a25 => LdK (.int .i64) (a25.add 3) w22 (fun (x26 : Int) => K (.tuple #[.nilIface, .int .i64 x24, .int .i64 x26]) w22))))))
  (K (.tuple #[x3, .int .i64 0, .int .i64 0]) w6)))))))))
def pl28 : Plan := (.seq .auto (.seq .auto (.seq .auto (.seq .auto (.seq .auto (.seq (.seq .auto (.cond (.seq .still .auto) .auto)) .auto))))))
theorem e28 (p0 : ByteArray) (w : World) (K : Value → World → Prop) : vcFunc Tryz.prog Tryz.f28 pl28 [.string p0] w K = C28 p0 w K := by kernel_rfl
theorem c28 (p0 : ByteArray) (w : World) (K : Value → World → Prop) (h : C28 p0 w K) : Ret Tryz.prog 28 #[.string p0] w K := by
  rw [← e28] at h
  exact vcFunc_sound (by kernel_rfl) Tryz.func28 h

end Go.Proofs.YtlhbfdakceipkaaGreatDoor
