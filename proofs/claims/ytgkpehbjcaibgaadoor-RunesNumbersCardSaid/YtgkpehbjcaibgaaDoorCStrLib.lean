/-
  The conditions of some functions, written by a program of this session, each tied to the translation by the kernel.
-/
import Derived.Test.YtgkpehbjcaibgaaDoorVcMem
import Derived.Test.YtgkpehbjcaibgaaDoorProg
import Derived.KernelRfl
namespace Go.Proofs.YtgkpehbjcaibgaaDoor
open Vc
set_option maxRecDepth 100000
set_option linter.unusedVariables false
/-- strings.TrimPrefix -/
def C23 (p0 : ByteArray) (p1 : ByteArray) (w : World) (K : Value → World → Prop) : Prop :=
  CallK Tryd.prog 32 #[.string p0, .string p1] w (.v (.one .str)) (fun (x1 : ByteArray) w2 => K (.string x1) w2)
def pl23 : Plan := .auto
theorem e23 (p0 : ByteArray) (p1 : ByteArray) (w : World) (K : Value → World → Prop) : vcFunc Tryd.prog Tryd.f23 pl23 [.string p0, .string p1] w K = C23 p0 p1 w K := by kernel_rfl
theorem c23 (p0 : ByteArray) (p1 : ByteArray) (w : World) (K : Value → World → Prop) (h : C23 p0 p1 w K) : Ret Tryd.prog 23 #[.string p0, .string p1] w K := by
  rw [← e23] at h
  exact vcFunc_sound (by kernel_rfl) Tryd.func23 h

/-- internal/stringslite.TrimPrefix -/
def C32 (p0 : ByteArray) (p1 : ByteArray) (w : World) (K : Value → World → Prop) : Prop :=
  CallK Tryd.prog 47 #[.string p0, .string p1] w (.v (.one .bool)) (fun (x1 : Bool) w2 => ifB x1
  (SubsK p0 (p1.size : Int) p0.size (fun x3 => K (.string x3) w2))
  (K (.string p0) w2))
def pl32 : Plan := .auto
theorem e32 (p0 : ByteArray) (p1 : ByteArray) (w : World) (K : Value → World → Prop) : vcFunc Tryd.prog Tryd.f32 pl32 [.string p0, .string p1] w K = C32 p0 p1 w K := by kernel_rfl
theorem c32 (p0 : ByteArray) (p1 : ByteArray) (w : World) (K : Value → World → Prop) (h : C32 p0 p1 w K) : Ret Tryd.prog 32 #[.string p0, .string p1] w K := by
  rw [← e32] at h
  exact vcFunc_sound (by kernel_rfl) Tryd.func32 h

/-- internal/stringslite.HasPrefix -/
def C47 (p0 : ByteArray) (p1 : ByteArray) (w : World) (K : Value → World → Prop) : Prop :=
  ifB (decide ((p0.size : Int) ≥ (p1.size : Int)))
  (SubsK p0 0 (p1.size : Int) (fun x1 => K (.bool (x1.toList == p1.toList)) w))
  (K (.bool false) w)
def pl47 : Plan := .auto
theorem e47 (p0 : ByteArray) (p1 : ByteArray) (w : World) (K : Value → World → Prop) : vcFunc Tryd.prog Tryd.f47 pl47 [.string p0, .string p1] w K = C47 p0 p1 w K := by kernel_rfl
theorem c47 (p0 : ByteArray) (p1 : ByteArray) (w : World) (K : Value → World → Prop) (h : C47 p0 p1 w K) : Ret Tryd.prog 47 #[.string p0, .string p1] w K := by
  rw [← e47] at h
  exact vcFunc_sound (by kernel_rfl) Tryd.func47 h

/-- strings.Trim -/
def C24 (p0 : ByteArray) (p1 : ByteArray) (w : World) (K : Value → World → Prop) : Prop :=
  ifB (p0.toList == (⟨#[]⟩ : ByteArray).toList)
  (K (.string p0) w)
  (ifB (p1.toList == (⟨#[]⟩ : ByteArray).toList)
  (K (.string p0) w)
  (JoinK (Bool × Unit) (fun J1 => ifB ((p1.size : Int) == 1)
  (StrK p1 0 (fun x4 => J1 (decide (x4 < 128), ()) w))
  (J1 (false, ()) w))
  (fun _ s2 w3 => ifB s2.1
  (RegK w3 (fun C5 => StrK p1 0 (fun x6 => AnyK C5 3 [] (.v (.one .str)) (fun w8 k9 => CallK Tryd.prog 34 #[.string p0, .int .u8 x6] w8 (.v (.one .str)) (fun (x10 : ByteArray) w11 => k9 (.string x10) w11))
  (fun (x7 : ByteArray) => StrK p1 0 (fun x12 => AnyK C5 6 [3] (.v (.one .str)) (fun w14 k15 => CallK Tryd.prog 33 #[.string x7, .int .u8 x12] w14 (.v (.one .str)) (fun (x16 : ByteArray) w17 => k15 (.string x16) w17))
  (fun (x13 : ByteArray) => (∀ w18, C5 (mem [3, 6]) w18 → K (.string x13) w18)))))))
  (CallK Tryd.prog 35 #[.string p1] w3 (.tup [.arr, .one .bool]) (fun (x19 : List Value × Bool × Unit) w20 => NewK (.cells #[.bool false, .bool false, .bool false, .bool false, .bool false, .bool false, .bool false, .bool false, .bool false, .bool false, .bool false, .bool false, .bool false, .bool false, .bool false, .bool false, .bool false, .bool false, .bool false, .bool false, .bool false, .bool false, .bool false, .bool false, .bool false, .bool false, .bool false, .bool false, .bool false, .bool false, .bool false, .bool false, .bool false, .bool false, .bool false, .bool false, .bool false, .bool false, .bool false, .bool false, .bool false, .bool false, .bool false, .bool false, .bool false, .bool false, .bool false, .bool false, .bool false, .bool false, .bool false, .bool false, .bool false, .bool false, .bool false, .bool false, .bool false, .bool false, .bool false, .bool false, .bool false, .bool false, .bool false, .bool false, .bool false, .bool false, .bool false, .bool false, .bool false, .bool false, .bool false, .bool false, .bool false, .bool false, .bool false, .bool false, .bool false, .bool false, .bool false, .bool false, .bool false, .bool false, .bool false, .bool false, .bool false, .bool false, .bool false, .bool false, .bool false, .bool false, .bool false, .bool false, .bool false, .bool false, .bool false, .bool false, .bool false, .bool false, .bool false, .bool false, .bool false, .bool false, .bool false, .bool false, .bool false, .bool false, .bool false, .bool false, .bool false, .bool false, .bool false, .bool false, .bool false, .bool false, .bool false, .bool false, .bool false, .bool false, .bool false, .bool false, .bool false, .bool false, .bool false, .bool false, .bool false, .bool false, .bool false, .bool false, .bool false, .bool false, .bool false, .bool false, .bool false, .bool false, .bool false, .bool false, .bool false, .bool false, .bool false, .bool false, .bool false, .bool false, .bool false, .bool false, .bool false, .bool false, .bool false, .bool false, .bool false, .bool false, .bool false, .bool false, .bool false, .bool false, .bool false, .bool false, .bool false, .bool false, .bool false, .bool false, .bool false, .bool false, .bool false, .bool false, .bool false, .bool false, .bool false, .bool false, .bool false, .bool false, .bool false, .bool false, .bool false, .bool false, .bool false, .bool false, .bool false, .bool false, .bool false, .bool false, .bool false, .bool false, .bool false, .bool false, .bool false, .bool false, .bool false, .bool false, .bool false, .bool false, .bool false, .bool false, .bool false, .bool false, .bool false, .bool false, .bool false, .bool false, .bool false, .bool false, .bool false, .bool false, .bool false, .bool false, .bool false, .bool false, .bool false, .bool false, .bool false, .bool false, .bool false, .bool false, .bool false, .bool false, .bool false, .bool false, .bool false, .bool false, .bool false, .bool false, .bool false, .bool false, .bool false, .bool false, .bool false, .bool false, .bool false, .bool false, .bool false, .bool false, .bool false, .bool false, .bool false, .bool false, .bool false, .bool false, .bool false, .bool false, .bool false, .bool false, .bool false, .bool false, .bool false, .bool false, .bool false, .bool false, .bool false, .bool false, .bool false, .bool false, .bool false, .bool false, .bool false, .bool false, .bool false, .bool false] 68) w20 (fun g21 w22 => AndK (x19.1.length = 256) (StsK (⟨g21, 0, none⟩ : Addr) x19.1 w22 (fun w23 => ifB x19.2.1
  (CallK Tryd.prog 37 #[.string p0, .pointer (some (⟨g21, 0, none⟩ : Addr))] w23 (.v (.one .str)) (fun (x24 : ByteArray) w25 => CallK Tryd.prog 36 #[.string x24, .pointer (some (⟨g21, 0, none⟩ : Addr))] w25 (.v (.one .str)) (fun (x26 : ByteArray) w27 => K (.string x26) w27)))
  (CallK Tryd.prog 39 #[.string p0, .string p1] w23 (.v (.one .str)) (fun (x28 : ByteArray) w29 => CallK Tryd.prog 38 #[.string x28, .string p1] w29 (.v (.one .str)) (fun (x30 : ByteArray) w31 => K (.string x30) w31)))))))))))
def pl24 : Plan := (.seq .auto (.seq .auto (.seq (.join [(21, .one .bool)] .auto (.cond (.seq (.any [(3, .v (.one .str)), (6, .v (.one .str))]) .auto) .auto)) .auto)))
theorem e24 (p0 : ByteArray) (p1 : ByteArray) (w : World) (K : Value → World → Prop) : vcFunc Tryd.prog Tryd.f24 pl24 [.string p0, .string p1] w K = C24 p0 p1 w K := by kernel_rfl
theorem c24 (p0 : ByteArray) (p1 : ByteArray) (w : World) (K : Value → World → Prop) (h : C24 p0 p1 w K) : Ret Tryd.prog 24 #[.string p0, .string p1] w K := by
  rw [← e24] at h
  exact vcFunc_sound (by kernel_rfl) Tryd.func24 h

/-- strings.makeASCIISet -/
def C35 (p0 : ByteArray) (w : World) (K : Value → World → Prop) : Prop :=
  NewK (.cells #[.bool false, .bool false, .bool false, .bool false, .bool false, .bool false, .bool false, .bool false, .bool false, .bool false, .bool false, .bool false, .bool false, .bool false, .bool false, .bool false, .bool false, .bool false, .bool false, .bool false, .bool false, .bool false, .bool false, .bool false, .bool false, .bool false, .bool false, .bool false, .bool false, .bool false, .bool false, .bool false, .bool false, .bool false, .bool false, .bool false, .bool false, .bool false, .bool false, .bool false, .bool false, .bool false, .bool false, .bool false, .bool false, .bool false, .bool false, .bool false, .bool false, .bool false, .bool false, .bool false, .bool false, .bool false, .bool false, .bool false, .bool false, .bool false, .bool false, .bool false, .bool false, .bool false, .bool false, .bool false, .bool false, .bool false, .bool false, .bool false, .bool false, .bool false, .bool false, .bool false, .bool false, .bool false, .bool false, .bool false, .bool false, .bool false, .bool false, .bool false, .bool false, .bool false, .bool false, .bool false, .bool false, .bool false, .bool false, .bool false, .bool false, .bool false, .bool false, .bool false, .bool false, .bool false, .bool false, .bool false, .bool false, .bool false, .bool false, .bool false, .bool false, .bool false, .bool false, .bool false, .bool false, .bool false, .bool false, .bool false, .bool false, .bool false, .bool false, .bool false, .bool false, .bool false, .bool false, .bool false, .bool false, .bool false, .bool false, .bool false, .bool false, .bool false, .bool false, .bool false, .bool false, .bool false, .bool false, .bool false, .bool false, .bool false, .bool false, .bool false, .bool false, .bool false, .bool false, .bool false, .bool false, .bool false, .bool false, .bool false, .bool false, .bool false, .bool false, .bool false, .bool false, .bool false, .bool false, .bool false, .bool false, .bool false, .bool false, .bool false, .bool false, .bool false, .bool false, .bool false, .bool false, .bool false, .bool false, .bool false, .bool false, .bool false, .bool false, .bool false, .bool false, .bool false, .bool false, .bool false, .bool false, .bool false, .bool false, .bool false, .bool false, .bool false, .bool false, .bool false, .bool false, .bool false, .bool false, .bool false, .bool false, .bool false, .bool false, .bool false, .bool false, .bool false, .bool false, .bool false, .bool false, .bool false, .bool false, .bool false, .bool false, .bool false, .bool false, .bool false, .bool false, .bool false, .bool false, .bool false, .bool false, .bool false, .bool false, .bool false, .bool false, .bool false, .bool false, .bool false, .bool false, .bool false, .bool false, .bool false, .bool false, .bool false, .bool false, .bool false, .bool false, .bool false, .bool false, .bool false, .bool false, .bool false, .bool false, .bool false, .bool false, .bool false, .bool false, .bool false, .bool false, .bool false, .bool false, .bool false, .bool false, .bool false, .bool false, .bool false, .bool false, .bool false, .bool false, .bool false, .bool false, .bool false, .bool false, .bool false, .bool false, .bool false, .bool false, .bool false, .bool false, .bool false, .bool false, .bool false, .bool false, .bool false, .bool false, .bool false] 68) w (fun g1 w2 => LoopK (Int × Unit) (fun _ s3 w4 next5 => ifB (decide (s3.1 < (p0.size : Int)))
  (StrK p0 s3.1 (fun x6 => ifB (decide (x6 ≥ 128))
  (LdaK 256 (⟨g1, 0, none⟩ : Addr) w4 (fun x7 => AndK (x7.length = 256) (StsK (⟨g1, 0, none⟩ : Addr) x7 w4 (fun w8 => LdaK 256 (⟨g1, 0, none⟩ : Addr) w8 (fun x9 => K (.tuple #[.agg x9.toArray, .bool false]) w8)))))
  (AixK (⟨g1, 0, none⟩ : Addr) 256 x6 1 (fun a10 => StK a10 (.bool true) w4 (fun w11 => next5 (IntKind.i64.wrap (s3.1 + 1), ()) w11)))))
  (LdaK 256 (⟨g1, 0, none⟩ : Addr) w4 (fun x12 => AndK (x12.length = 256) (StsK (⟨g1, 0, none⟩ : Addr) x12 w4 (fun w13 => LdaK 256 (⟨g1, 0, none⟩ : Addr) w13 (fun x14 => K (.tuple #[.agg x14.toArray, .bool true]) w13))))))
  (0, ()) w2)
def pl35 : Plan := (.seq .auto (.seq (.seq .auto (.block (.loop [(4, .one (.int .i64))] .auto))) .auto))
theorem e35 (p0 : ByteArray) (w : World) (K : Value → World → Prop) : vcFunc Tryd.prog Tryd.f35 pl35 [.string p0] w K = C35 p0 w K := by kernel_rfl
theorem c35 (p0 : ByteArray) (w : World) (K : Value → World → Prop) (h : C35 p0 w K) : Ret Tryd.prog 35 #[.string p0] w K := by
  rw [← e35] at h
  exact vcFunc_sound (by kernel_rfl) Tryd.func35 h

/-- strings.trimLeftASCII -/
def C36 (p0 : ByteArray) (p1 : Addr) (w : World) (K : Value → World → Prop) : Prop :=
  LoopK (ByteArray × Unit) (fun _ s1 w2 next3 => ifB (decide ((s1.1.size : Int) > 0))
  (StrK s1.1 0 (fun x4 => CallK Tryd.prog 48 #[.pointer (some p1), .int .u8 x4] w2 (.v (.one .bool)) (fun (x5 : Bool) w6 => ifB (!x5)
  (K (.string s1.1) w6)
  (SubsK s1.1 1 s1.1.size (fun x7 => next3 (x7, ()) w6)))))
  (K (.string s1.1) w2))
  (p0, ()) w
def pl36 : Plan := (.seq .auto (.seq (.block (.loop [(0, .one .str)] .auto)) .auto))
theorem e36 (p0 : ByteArray) (p1 : Addr) (w : World) (K : Value → World → Prop) : vcFunc Tryd.prog Tryd.f36 pl36 [.string p0, .pointer (some p1)] w K = C36 p0 p1 w K := by kernel_rfl
theorem c36 (p0 : ByteArray) (p1 : Addr) (w : World) (K : Value → World → Prop) (h : C36 p0 p1 w K) : Ret Tryd.prog 36 #[.string p0, .pointer (some p1)] w K := by
  rw [← e36] at h
  exact vcFunc_sound (by kernel_rfl) Tryd.func36 h

/-- strings.trimRightASCII -/
def C37 (p0 : ByteArray) (p1 : Addr) (w : World) (K : Value → World → Prop) : Prop :=
  LoopK (ByteArray × Unit) (fun _ s1 w2 next3 => ifB (decide ((s1.1.size : Int) > 0))
  (StrK s1.1 (IntKind.i64.wrap ((s1.1.size : Int) - 1)) (fun x4 => CallK Tryd.prog 48 #[.pointer (some p1), .int .u8 x4] w2 (.v (.one .bool)) (fun (x5 : Bool) w6 => ifB (!x5)
  (K (.string s1.1) w6)
  (SubsK s1.1 0 (IntKind.i64.wrap ((s1.1.size : Int) - 1)) (fun x7 => next3 (x7, ()) w6)))))
  (K (.string s1.1) w2))
  (p0, ()) w
def pl37 : Plan := (.seq .auto (.seq (.block (.loop [(0, .one .str)] .auto)) .auto))
theorem e37 (p0 : ByteArray) (p1 : Addr) (w : World) (K : Value → World → Prop) : vcFunc Tryd.prog Tryd.f37 pl37 [.string p0, .pointer (some p1)] w K = C37 p0 p1 w K := by kernel_rfl
theorem c37 (p0 : ByteArray) (p1 : Addr) (w : World) (K : Value → World → Prop) (h : C37 p0 p1 w K) : Ret Tryd.prog 37 #[.string p0, .pointer (some p1)] w K := by
  rw [← e37] at h
  exact vcFunc_sound (by kernel_rfl) Tryd.func37 h

/-- (*strings.asciiSet).contains -/
def C48 (p0 : Addr) (p1 : Int) (w : World) (K : Value → World → Prop) : Prop :=
  AixK p0 256 p1 1 (fun a1 => LdK .bool a1 w (fun (x2 : Bool) => K (.bool x2) w))
def pl48 : Plan := .auto
theorem e48 (p0 : Addr) (p1 : Int) (w : World) (K : Value → World → Prop) : vcFunc Tryd.prog Tryd.f48 pl48 [.pointer (some p0), .int .u8 p1] w K = C48 p0 p1 w K := by kernel_rfl
theorem c48 (p0 : Addr) (p1 : Int) (w : World) (K : Value → World → Prop) (h : C48 p0 p1 w K) : Ret Tryd.prog 48 #[.pointer (some p0), .int .u8 p1] w K := by
  rw [← e48] at h
  exact vcFunc_sound (by kernel_rfl) Tryd.func48 h

/-- strconv.Atoi -/
def C25 (p0 : ByteArray) (w : World) (K : Value → World → Prop) : Prop :=
  CallK Tryd.prog 40 #[.string p0] w (.tup [.one (.int .i64), .one .raw]) (fun (x1 : Int × Value × Unit) w2 => RunK Tryd.prog (do eqGuard .neq 57 (.tmp 11) (.const .nilIface) x1.2.1 .nilIface; binOp .neq 57 x1.2.1 .nilIface) w2 (.v (.one .bool)) (fun (x3 : Bool) w4 => ifB x3
  (CallK Tryd.prog 41 #[.string (⟨#[65, 116, 111, 105]⟩ : ByteArray), .string p0, .int .i64 0, .int .i64 0, x1.2.1] w4 (.v (.one .raw)) (fun (x5 : Value) w6 => K (.tuple #[.int .i64 x1.1, x5]) w6))
  (K (.tuple #[.int .i64 x1.1, .nilIface]) w4)))
def pl25 : Plan := .auto
theorem e25 (p0 : ByteArray) (w : World) (K : Value → World → Prop) : vcFunc Tryd.prog Tryd.f25 pl25 [.string p0] w K = C25 p0 w K := by kernel_rfl
theorem c25 (p0 : ByteArray) (w : World) (K : Value → World → Prop) (h : C25 p0 w K) : Ret Tryd.prog 25 #[.string p0] w K := by
  rw [← e25] at h
  exact vcFunc_sound (by kernel_rfl) Tryd.func25 h

/-- internal/strconv.Atoi -/
def C40 (p0 : ByteArray) (w : World) (K : Value → World → Prop) : Prop :=
  JoinK (Bool × Unit) (fun J1 => ifB (decide ((0 : Int) < (p0.size : Int)))
  (J1 (decide ((p0.size : Int) < 19), ()) w)
  (J1 (false, ()) w))
  (fun _ s2 w3 => ifB s2.1
  (JoinK (ByteArray × Unit) (fun J4 => JoinK (Bool × Unit) (fun J7 => StrK p0 0 (fun x10 => ifB (x10 == 45)
  (J7 (true, ()) w3)
  (StrK p0 0 (fun x11 => J7 ((x11 == 43), ()) w3))))
  (fun _ s8 w9 => ifB s8.1
  (SubsK p0 1 p0.size (fun x12 => ifB (decide ((x12.size : Int) < 1))
  (K (.tuple #[.int .i64 0, .iface 82 (.int .i64 2)]) w9)
  (J4 (x12, ()) w9)))
  (J4 (p0, ()) w9)))
  (fun _ s5 w6 => RunK Tryd.prog (convert 9 22 (.string s5.1)) w6 (.v (.one .slc)) (fun (x13 : Option Addr × Nat × Nat) w14 => LoopK (Int × Int × Unit) (fun _ s15 w16 next17 => ifB (decide (s15.2.1 < (x13.2.1 : Int)))
  (IdxK x13.1 x13.2.1 s15.2.1 1 (fun a18 => LdK (.int .u8) a18 w16 (fun (x19 : Int) => ifB (decide ((IntKind.u8.wrap (x19 - 48)) > 9))
  (K (.tuple #[.int .i64 0, .iface 82 (.int .i64 2)]) w16)
  (next17 (IntKind.i64.wrap ((IntKind.i64.wrap (s15.1 * 10)) + (IntKind.i64.wrap (IntKind.u8.wrap (x19 - 48)))), IntKind.i64.wrap (s15.2.1 + 1), ()) w16))))
  (StrK p0 0 (fun x20 => ifB (x20 == 45)
  (K (.tuple #[.int .i64 (IntKind.i64.wrap (0 - s15.1)), .nilIface]) w16)
  (K (.tuple #[.int .i64 s15.1, .nilIface]) w16))))
  (0, 0, ()) w14)))
  (CallK Tryd.prog 52 #[.string p0, .int .i64 10, .int .i64 0] w3 (.tup [.one (.int .i64), .one .raw]) (fun (x21 : Int × Value × Unit) w22 => K (.tuple #[.int .i64 x21.1, x21.2.1]) w22)))
def pl40 : Plan := (.seq .auto (.seq .auto (.seq (.join [(30, .one .bool)] .auto (.cond (.seq .auto (.join [(0, .one .str)] (.join [(39, .one .bool)] .auto .auto) (.seq .auto (.seq (.seq .auto (.block (.loop [(6, .one (.int .i64)), (49, .one (.int .i64))] .auto))) .auto)))) .auto)) .auto)))
theorem e40 (p0 : ByteArray) (w : World) (K : Value → World → Prop) : vcFunc Tryd.prog Tryd.f40 pl40 [.string p0] w K = C40 p0 w K := by kernel_rfl
theorem c40 (p0 : ByteArray) (w : World) (K : Value → World → Prop) (h : C40 p0 w K) : Ret Tryd.prog 40 #[.string p0] w K := by
  rw [← e40] at h
  exact vcFunc_sound (by kernel_rfl) Tryd.func40 h

end Go.Proofs.YtgkpehbjcaibgaaDoor
