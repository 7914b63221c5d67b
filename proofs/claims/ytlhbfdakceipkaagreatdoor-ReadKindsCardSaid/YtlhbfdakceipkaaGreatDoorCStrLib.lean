/-
  The conditions of some functions, written by a program of this session, each tied to the translation by the kernel.
-/
import Derived.Test.YtlhbfdakceipkaaGreatDoorVcMem
import Derived.Test.YtlhbfdakceipkaaGreatDoorProg
import Derived.KernelRfl
namespace Go.Proofs.YtlhbfdakceipkaaGreatDoor
open Vc
set_option maxRecDepth 100000
set_option linter.unusedVariables false
/-- strings.TrimPrefix -/
def C160 (p0 : ByteArray) (p1 : ByteArray) (w : World) (K : Value → World → Prop) : Prop :=
  CallK Tryz.prog 178 #[.string p0, .string p1] w (.v (.one .str)) (fun (x1 : ByteArray) w2 => K (.string x1) w2)
def pl160 : Plan := .auto
theorem e160 (p0 : ByteArray) (p1 : ByteArray) (w : World) (K : Value → World → Prop) : vcFunc Tryz.prog Tryz.f160 pl160 [.string p0, .string p1] w K = C160 p0 p1 w K := by kernel_rfl
theorem c160 (p0 : ByteArray) (p1 : ByteArray) (w : World) (K : Value → World → Prop) (h : C160 p0 p1 w K) : Ret Tryz.prog 160 #[.string p0, .string p1] w K := by
  rw [← e160] at h
  exact vcFunc_sound (by kernel_rfl) Tryz.func160 h

/-- internal/stringslite.TrimPrefix -/
def C178 (p0 : ByteArray) (p1 : ByteArray) (w : World) (K : Value → World → Prop) : Prop :=
  CallK Tryz.prog 197 #[.string p0, .string p1] w (.v (.one .bool)) (fun (x1 : Bool) w2 => ifB x1
  (SubsK p0 (p1.size : Int) p0.size (fun x3 => K (.string x3) w2))
  (K (.string p0) w2))
def pl178 : Plan := .auto
theorem e178 (p0 : ByteArray) (p1 : ByteArray) (w : World) (K : Value → World → Prop) : vcFunc Tryz.prog Tryz.f178 pl178 [.string p0, .string p1] w K = C178 p0 p1 w K := by kernel_rfl
theorem c178 (p0 : ByteArray) (p1 : ByteArray) (w : World) (K : Value → World → Prop) (h : C178 p0 p1 w K) : Ret Tryz.prog 178 #[.string p0, .string p1] w K := by
  rw [← e178] at h
  exact vcFunc_sound (by kernel_rfl) Tryz.func178 h

/-- internal/stringslite.HasPrefix -/
def C197 (p0 : ByteArray) (p1 : ByteArray) (w : World) (K : Value → World → Prop) : Prop :=
  ifB (decide ((p0.size : Int) ≥ (p1.size : Int)))
  (SubsK p0 0 (p1.size : Int) (fun x1 => K (.bool (x1.toList == p1.toList)) w))
  (K (.bool false) w)
def pl197 : Plan := .auto
theorem e197 (p0 : ByteArray) (p1 : ByteArray) (w : World) (K : Value → World → Prop) : vcFunc Tryz.prog Tryz.f197 pl197 [.string p0, .string p1] w K = C197 p0 p1 w K := by kernel_rfl
theorem c197 (p0 : ByteArray) (p1 : ByteArray) (w : World) (K : Value → World → Prop) (h : C197 p0 p1 w K) : Ret Tryz.prog 197 #[.string p0, .string p1] w K := by
  rw [← e197] at h
  exact vcFunc_sound (by kernel_rfl) Tryz.func197 h

/-- strings.Trim -/
def C161 (p0 : ByteArray) (p1 : ByteArray) (w : World) (K : Value → World → Prop) : Prop :=
  ifB (p0.toList == (⟨#[]⟩ : ByteArray).toList)
  (K (.string p0) w)
  (ifB (p1.toList == (⟨#[]⟩ : ByteArray).toList)
  (K (.string p0) w)
  (JoinK (Bool × Unit) (fun J1 => ifB ((p1.size : Int) == 1)
  (StrK p1 0 (fun x4 => J1 (decide (x4 < 128), ()) w))
  (J1 (false, ()) w))
  (fun _ s2 w3 => ifB s2.1
  (RegK w3 (fun C5 => StrK p1 0 (fun x6 => AnyK C5 3 [] (.v (.one .str)) (fun w8 k9 => CallK Tryz.prog 180 #[.string p0, .int .u8 x6] w8 (.v (.one .str)) (fun (x10 : ByteArray) w11 => k9 (.string x10) w11))
  (fun (x7 : ByteArray) => StrK p1 0 (fun x12 => AnyK C5 6 [3] (.v (.one .str)) (fun w14 k15 => CallK Tryz.prog 179 #[.string x7, .int .u8 x12] w14 (.v (.one .str)) (fun (x16 : ByteArray) w17 => k15 (.string x16) w17))
  (fun (x13 : ByteArray) => (∀ w18, C5 (mem [3, 6]) w18 → K (.string x13) w18)))))))
  (CallK Tryz.prog 181 #[.string p1] w3 (.tup [.arr, .one .bool]) (fun (x19 : List Value × Bool × Unit) w20 => NewK (.cells #[.bool false, .bool false, .bool false, .bool false, .bool false, .bool false, .bool false, .bool false, .bool false, .bool false, .bool false, .bool false, .bool false, .bool false, .bool false, .bool false, .bool false, .bool false, .bool false, .bool false, .bool false, .bool false, .bool false, .bool false, .bool false, .bool false, .bool false, .bool false, .bool false, .bool false, .bool false, .bool false, .bool false, .bool false, .bool false, .bool false, .bool false, .bool false, .bool false, .bool false, .bool false, .bool false, .bool false, .bool false, .bool false, .bool false, .bool false, .bool false, .bool false, .bool false, .bool false, .bool false, .bool false, .bool false, .bool false, .bool false, .bool false, .bool false, .bool false, .bool false, .bool false, .bool false, .bool false, .bool false, .bool false, .bool false, .bool false, .bool false, .bool false, .bool false, .bool false, .bool false, .bool false, .bool false, .bool false, .bool false, .bool false, .bool false, .bool false, .bool false, .bool false, .bool false, .bool false, .bool false, .bool false, .bool false, .bool false, .bool false, .bool false, .bool false, .bool false, .bool false, .bool false, .bool false, .bool false, .bool false, .bool false, .bool false, .bool false, .bool false, .bool false, .bool false, .bool false, .bool false, .bool false, .bool false, .bool false, .bool false, .bool false, .bool false, .bool false, .bool false, .bool false, .bool false, .bool false, .bool false, .bool false, .bool false, .bool false, .bool false, .bool false, .bool false, .bool false, .bool false, .bool false, .bool false, .bool false, .bool false, .bool false, .bool false, .bool false, .bool false, .bool false, .bool false, .bool false, .bool false, .bool false, .bool false, .bool false, .bool false, .bool false, .bool false, .bool false, .bool false, .bool false, .bool false, .bool false, .bool false, .bool false, .bool false, .bool false, .bool false, .bool false, .bool false, .bool false, .bool false, .bool false, .bool false, .bool false, .bool false, .bool false, .bool false, .bool false, .bool false, .bool false, .bool false, .bool false, .bool false, .bool false, .bool false, .bool false, .bool false, .bool false, .bool false, .bool false, .bool false, .bool false, .bool false, .bool false, .bool false, .bool false, .bool false, .bool false, .bool false, .bool false, .bool false, .bool false, .bool false, .bool false, .bool false, .bool false, .bool false, .bool false, .bool false, .bool false, .bool false, .bool false, .bool false, .bool false, .bool false, .bool false, .bool false, .bool false, .bool false, .bool false, .bool false, .bool false, .bool false, .bool false, .bool false, .bool false, .bool false, .bool false, .bool false, .bool false, .bool false, .bool false, .bool false, .bool false, .bool false, .bool false, .bool false, .bool false, .bool false, .bool false, .bool false, .bool false, .bool false, .bool false, .bool false, .bool false, .bool false, .bool false, .bool false, .bool false, .bool false, .bool false, .bool false, .bool false, .bool false, .bool false, .bool false, .bool false, .bool false, .bool false, .bool false, .bool false, .bool false, .bool false, .bool false, .bool false, .bool false, .bool false, .bool false, .bool false, .bool false] 295) w20 (fun g21 w22 => AndK (x19.1.length = 256) (StsK (⟨g21, 0, none⟩ : Addr) x19.1 w22 (fun w23 => ifB x19.2.1
  (CallK Tryz.prog 183 #[.string p0, .pointer (some (⟨g21, 0, none⟩ : Addr))] w23 (.v (.one .str)) (fun (x24 : ByteArray) w25 => CallK Tryz.prog 182 #[.string x24, .pointer (some (⟨g21, 0, none⟩ : Addr))] w25 (.v (.one .str)) (fun (x26 : ByteArray) w27 => K (.string x26) w27)))
  (CallK Tryz.prog 185 #[.string p0, .string p1] w23 (.v (.one .str)) (fun (x28 : ByteArray) w29 => CallK Tryz.prog 184 #[.string x28, .string p1] w29 (.v (.one .str)) (fun (x30 : ByteArray) w31 => K (.string x30) w31)))))))))))
def pl161 : Plan := (.seq .auto (.seq .auto (.seq (.join [(21, .one .bool)] .auto (.cond (.seq (.any [(3, .v (.one .str)), (6, .v (.one .str))]) .auto) .auto)) .auto)))
theorem e161 (p0 : ByteArray) (p1 : ByteArray) (w : World) (K : Value → World → Prop) : vcFunc Tryz.prog Tryz.f161 pl161 [.string p0, .string p1] w K = C161 p0 p1 w K := by kernel_rfl
theorem c161 (p0 : ByteArray) (p1 : ByteArray) (w : World) (K : Value → World → Prop) (h : C161 p0 p1 w K) : Ret Tryz.prog 161 #[.string p0, .string p1] w K := by
  rw [← e161] at h
  exact vcFunc_sound (by kernel_rfl) Tryz.func161 h

/-- strings.makeASCIISet -/
def C181 (p0 : ByteArray) (w : World) (K : Value → World → Prop) : Prop :=
  NewK (.cells #[.bool false, .bool false, .bool false, .bool false, .bool false, .bool false, .bool false, .bool false, .bool false, .bool false, .bool false, .bool false, .bool false, .bool false, .bool false, .bool false, .bool false, .bool false, .bool false, .bool false, .bool false, .bool false, .bool false, .bool false, .bool false, .bool false, .bool false, .bool false, .bool false, .bool false, .bool false, .bool false, .bool false, .bool false, .bool false, .bool false, .bool false, .bool false, .bool false, .bool false, .bool false, .bool false, .bool false, .bool false, .bool false, .bool false, .bool false, .bool false, .bool false, .bool false, .bool false, .bool false, .bool false, .bool false, .bool false, .bool false, .bool false, .bool false, .bool false, .bool false, .bool false, .bool false, .bool false, .bool false, .bool false, .bool false, .bool false, .bool false, .bool false, .bool false, .bool false, .bool false, .bool false, .bool false, .bool false, .bool false, .bool false, .bool false, .bool false, .bool false, .bool false, .bool false, .bool false, .bool false, .bool false, .bool false, .bool false, .bool false, .bool false, .bool false, .bool false, .bool false, .bool false, .bool false, .bool false, .bool false, .bool false, .bool false, .bool false, .bool false, .bool false, .bool false, .bool false, .bool false, .bool false, .bool false, .bool false, .bool false, .bool false, .bool false, .bool false, .bool false, .bool false, .bool false, .bool false, .bool false, .bool false, .bool false, .bool false, .bool false, .bool false, .bool false, .bool false, .bool false, .bool false, .bool false, .bool false, .bool false, .bool false, .bool false, .bool false, .bool false, .bool false, .bool false, .bool false, .bool false, .bool false, .bool false, .bool false, .bool false, .bool false, .bool false, .bool false, .bool false, .bool false, .bool false, .bool false, .bool false, .bool false, .bool false, .bool false, .bool false, .bool false, .bool false, .bool false, .bool false, .bool false, .bool false, .bool false, .bool false, .bool false, .bool false, .bool false, .bool false, .bool false, .bool false, .bool false, .bool false, .bool false, .bool false, .bool false, .bool false, .bool false, .bool false, .bool false, .bool false, .bool false, .bool false, .bool false, .bool false, .bool false, .bool false, .bool false, .bool false, .bool false, .bool false, .bool false, .bool false, .bool false, .bool false, .bool false, .bool false, .bool false, .bool false, .bool false, .bool false, .bool false, .bool false, .bool false, .bool false, .bool false, .bool false, .bool false, .bool false, .bool false, .bool false, .bool false, .bool false, .bool false, .bool false, .bool false, .bool false, .bool false, .bool false, .bool false, .bool false, .bool false, .bool false, .bool false, .bool false, .bool false, .bool false, .bool false, .bool false, .bool false, .bool false, .bool false, .bool false, .bool false, .bool false, .bool false, .bool false, .bool false, .bool false, .bool false, .bool false, .bool false, .bool false, .bool false, .bool false, .bool false, .bool false, .bool false, .bool false, .bool false, .bool false, .bool false, .bool false, .bool false, .bool false, .bool false, .bool false, .bool false, .bool false, .bool false, .bool false] 295) w (fun g1 w2 => LoopK (Int × Unit) (fun _ s3 w4 next5 => ifB (decide (s3.1 < (p0.size : Int)))
  (StrK p0 s3.1 (fun x6 => ifB (decide (x6 ≥ 128))
  (LdaK 256 (⟨g1, 0, none⟩ : Addr) w4 (fun x7 => AndK (x7.length = 256) (StsK (⟨g1, 0, none⟩ : Addr) x7 w4 (fun w8 => LdaK 256 (⟨g1, 0, none⟩ : Addr) w8 (fun x9 => K (.tuple #[.agg x9.toArray, .bool false]) w8)))))
  (AixK (⟨g1, 0, none⟩ : Addr) 256 x6 1 (fun a10 => StK a10 (.bool true) w4 (fun w11 => next5 (IntKind.i64.wrap (s3.1 + 1), ()) w11)))))
  (LdaK 256 (⟨g1, 0, none⟩ : Addr) w4 (fun x12 => AndK (x12.length = 256) (StsK (⟨g1, 0, none⟩ : Addr) x12 w4 (fun w13 => LdaK 256 (⟨g1, 0, none⟩ : Addr) w13 (fun x14 => K (.tuple #[.agg x14.toArray, .bool true]) w13))))))
  (0, ()) w2)
def pl181 : Plan := (.seq .auto (.seq (.seq .auto (.block (.loop [(4, .one (.int .i64))] .auto))) .auto))
theorem e181 (p0 : ByteArray) (w : World) (K : Value → World → Prop) : vcFunc Tryz.prog Tryz.f181 pl181 [.string p0] w K = C181 p0 w K := by kernel_rfl
theorem c181 (p0 : ByteArray) (w : World) (K : Value → World → Prop) (h : C181 p0 w K) : Ret Tryz.prog 181 #[.string p0] w K := by
  rw [← e181] at h
  exact vcFunc_sound (by kernel_rfl) Tryz.func181 h

/-- strings.trimLeftASCII -/
def C182 (p0 : ByteArray) (p1 : Addr) (w : World) (K : Value → World → Prop) : Prop :=
  LoopK (ByteArray × Unit) (fun _ s1 w2 next3 => ifB (decide ((s1.1.size : Int) > 0))
  (StrK s1.1 0 (fun x4 => CallK Tryz.prog 198 #[.pointer (some p1), .int .u8 x4] w2 (.v (.one .bool)) (fun (x5 : Bool) w6 => ifB (!x5)
  (K (.string s1.1) w6)
  (SubsK s1.1 1 s1.1.size (fun x7 => next3 (x7, ()) w6)))))
  (K (.string s1.1) w2))
  (p0, ()) w
def pl182 : Plan := (.seq .auto (.seq (.block (.loop [(0, .one .str)] .auto)) .auto))
theorem e182 (p0 : ByteArray) (p1 : Addr) (w : World) (K : Value → World → Prop) : vcFunc Tryz.prog Tryz.f182 pl182 [.string p0, .pointer (some p1)] w K = C182 p0 p1 w K := by kernel_rfl
theorem c182 (p0 : ByteArray) (p1 : Addr) (w : World) (K : Value → World → Prop) (h : C182 p0 p1 w K) : Ret Tryz.prog 182 #[.string p0, .pointer (some p1)] w K := by
  rw [← e182] at h
  exact vcFunc_sound (by kernel_rfl) Tryz.func182 h

/-- strings.trimRightASCII -/
def C183 (p0 : ByteArray) (p1 : Addr) (w : World) (K : Value → World → Prop) : Prop :=
  LoopK (ByteArray × Unit) (fun _ s1 w2 next3 => ifB (decide ((s1.1.size : Int) > 0))
  (StrK s1.1 (IntKind.i64.wrap ((s1.1.size : Int) - 1)) (fun x4 => CallK Tryz.prog 198 #[.pointer (some p1), .int .u8 x4] w2 (.v (.one .bool)) (fun (x5 : Bool) w6 => ifB (!x5)
  (K (.string s1.1) w6)
  (SubsK s1.1 0 (IntKind.i64.wrap ((s1.1.size : Int) - 1)) (fun x7 => next3 (x7, ()) w6)))))
  (K (.string s1.1) w2))
  (p0, ()) w
def pl183 : Plan := (.seq .auto (.seq (.block (.loop [(0, .one .str)] .auto)) .auto))
theorem e183 (p0 : ByteArray) (p1 : Addr) (w : World) (K : Value → World → Prop) : vcFunc Tryz.prog Tryz.f183 pl183 [.string p0, .pointer (some p1)] w K = C183 p0 p1 w K := by kernel_rfl
theorem c183 (p0 : ByteArray) (p1 : Addr) (w : World) (K : Value → World → Prop) (h : C183 p0 p1 w K) : Ret Tryz.prog 183 #[.string p0, .pointer (some p1)] w K := by
  rw [← e183] at h
  exact vcFunc_sound (by kernel_rfl) Tryz.func183 h

/-- (*strings.asciiSet).contains -/
def C198 (p0 : Addr) (p1 : Int) (w : World) (K : Value → World → Prop) : Prop :=
  AixK p0 256 p1 1 (fun a1 => LdK .bool a1 w (fun (x2 : Bool) => K (.bool x2) w))
def pl198 : Plan := .auto
theorem e198 (p0 : Addr) (p1 : Int) (w : World) (K : Value → World → Prop) : vcFunc Tryz.prog Tryz.f198 pl198 [.pointer (some p0), .int .u8 p1] w K = C198 p0 p1 w K := by kernel_rfl
theorem c198 (p0 : Addr) (p1 : Int) (w : World) (K : Value → World → Prop) (h : C198 p0 p1 w K) : Ret Tryz.prog 198 #[.pointer (some p0), .int .u8 p1] w K := by
  rw [← e198] at h
  exact vcFunc_sound (by kernel_rfl) Tryz.func198 h

/-- strconv.Atoi -/
def C162 (p0 : ByteArray) (w : World) (K : Value → World → Prop) : Prop :=
  CallK Tryz.prog 186 #[.string p0] w (.tup [.one (.int .i64), .one .raw]) (fun (x1 : Int × Value × Unit) w2 => RunK Tryz.prog (do eqGuard .neq 275 (.tmp 11) (.const .nilIface) x1.2.1 .nilIface; binOp .neq 275 x1.2.1 .nilIface) w2 (.v (.one .bool)) (fun (x3 : Bool) w4 => ifB x3
  (CallK Tryz.prog 187 #[.string (⟨#[65, 116, 111, 105]⟩ : ByteArray), .string p0, .int .i64 0, .int .i64 0, x1.2.1] w4 (.v (.one .raw)) (fun (x5 : Value) w6 => K (.tuple #[.int .i64 x1.1, x5]) w6))
  (K (.tuple #[.int .i64 x1.1, .nilIface]) w4)))
def pl162 : Plan := .auto
theorem e162 (p0 : ByteArray) (w : World) (K : Value → World → Prop) : vcFunc Tryz.prog Tryz.f162 pl162 [.string p0] w K = C162 p0 w K := by kernel_rfl
theorem c162 (p0 : ByteArray) (w : World) (K : Value → World → Prop) (h : C162 p0 w K) : Ret Tryz.prog 162 #[.string p0] w K := by
  rw [← e162] at h
  exact vcFunc_sound (by kernel_rfl) Tryz.func162 h

/-- internal/strconv.Atoi -/
def C186 (p0 : ByteArray) (w : World) (K : Value → World → Prop) : Prop :=
  JoinK (Bool × Unit) (fun J1 => ifB (decide ((0 : Int) < (p0.size : Int)))
  (J1 (decide ((p0.size : Int) < 19), ()) w)
  (J1 (false, ()) w))
  (fun _ s2 w3 => ifB s2.1
  (JoinK (ByteArray × Unit) (fun J4 => JoinK (Bool × Unit) (fun J7 => StrK p0 0 (fun x10 => ifB (x10 == 45)
  (J7 (true, ()) w3)
  (StrK p0 0 (fun x11 => J7 ((x11 == 43), ()) w3))))
  (fun _ s8 w9 => ifB s8.1
  (SubsK p0 1 p0.size (fun x12 => ifB (decide ((x12.size : Int) < 1))
  (K (.tuple #[.int .i64 0, .iface 319 (.int .i64 2)]) w9)
  (J4 (x12, ()) w9)))
  (J4 (p0, ()) w9)))
  (fun _ s5 w6 => RunK Tryz.prog (convert 9 38 (.string s5.1)) w6 (.v (.one .slc)) (fun (x13 : Option Addr × Nat × Nat) w14 => LoopK (Int × Int × Unit) (fun _ s15 w16 next17 => ifB (decide (s15.2.1 < (x13.2.1 : Int)))
  (IdxK x13.1 x13.2.1 s15.2.1 1 (fun a18 => LdK (.int .u8) a18 w16 (fun (x19 : Int) => ifB (decide ((IntKind.u8.wrap (x19 - 48)) > 9))
  (K (.tuple #[.int .i64 0, .iface 319 (.int .i64 2)]) w16)
  (next17 (IntKind.i64.wrap ((IntKind.i64.wrap (s15.1 * 10)) + (IntKind.i64.wrap (IntKind.u8.wrap (x19 - 48)))), IntKind.i64.wrap (s15.2.1 + 1), ()) w16))))
  (StrK p0 0 (fun x20 => ifB (x20 == 45)
  (K (.tuple #[.int .i64 (IntKind.i64.wrap (0 - s15.1)), .nilIface]) w16)
  (K (.tuple #[.int .i64 s15.1, .nilIface]) w16))))
  (0, 0, ()) w14)))
  (CallK Tryz.prog 202 #[.string p0, .int .i64 10, .int .i64 0] w3 (.tup [.one (.int .i64), .one .raw]) (fun (x21 : Int × Value × Unit) w22 => K (.tuple #[.int .i64 x21.1, x21.2.1]) w22)))
def pl186 : Plan := (.seq .auto (.seq .auto (.seq (.join [(30, .one .bool)] .auto (.cond (.seq .auto (.join [(0, .one .str)] (.join [(39, .one .bool)] .auto .auto) (.seq .auto (.seq (.seq .auto (.block (.loop [(6, .one (.int .i64)), (49, .one (.int .i64))] .auto))) .auto)))) .auto)) .auto)))
theorem e186 (p0 : ByteArray) (w : World) (K : Value → World → Prop) : vcFunc Tryz.prog Tryz.f186 pl186 [.string p0] w K = C186 p0 w K := by kernel_rfl
theorem c186 (p0 : ByteArray) (w : World) (K : Value → World → Prop) (h : C186 p0 w K) : Ret Tryz.prog 186 #[.string p0] w K := by
  rw [← e186] at h
  exact vcFunc_sound (by kernel_rfl) Tryz.func186 h

end Go.Proofs.YtlhbfdakceipkaaGreatDoor
