/-
  The conditions of some functions, written by a program of this session, each tied to the translation by the kernel.
-/
import Derived.Test.YtlhbfdakceipkaaGreatDoorVcMem
import Derived.Test.YtlhbfdakceipkaaGreatDoorProg
import Derived.KernelRfl
namespace Go.Proofs.YtlhbfdakceipkaaGreatDoor
open Vc
set_option maxRecDepth 100000
set_option linter.unusedVariables false
/-- handfast/event.Check -/
def C49 (p0 : Int × ByteArray × ByteArray × ByteArray × ByteArray × Int × Int × Value × Unit) (w : World) (K : Value → World → Prop) : Prop :=
  NewK (.cells #[.int .i64 p0.1, .string p0.2.1, .string p0.2.2.1, .string p0.2.2.2.1, .string p0.2.2.2.2.1, .int .i64 p0.2.2.2.2.2.1, .int .i64 p0.2.2.2.2.2.2.1, p0.2.2.2.2.2.2.2.1] 30) w (fun g1 w2 => LdK (.int .i64) ((⟨g1, 0, none⟩ : Addr).add 0) w2 (fun (x3 : Int) => CallK Tryz.prog 93 #[.int .i64 x3] w2 (.v (.one .str)) (fun (x4 : ByteArray) w5 => ifB (x4.toList == (⟨#[63]⟩ : ByteArray).toList)
  (K (.int .i64 1) w5)
  (LdsK [.int .i64, .str, .str, .str, .str, .int .i64, .int .i64, .raw] (⟨g1, 0, none⟩ : Addr) w5 (fun (x6 : Int × ByteArray × ByteArray × ByteArray × ByteArray × Int × Int × Value × Unit) => CallK Tryz.prog 94 #[.agg #[.int .i64 x6.1, .string x6.2.1, .string x6.2.2.1, .string x6.2.2.2.1, .string x6.2.2.2.2.1, .int .i64 x6.2.2.2.2.2.1, .int .i64 x6.2.2.2.2.2.2.1, x6.2.2.2.2.2.2.2.1]] w5 (.v (.one .bool)) (fun (x7 : Bool) w8 => ifB (!x7)
  (K (.int .i64 1) w8)
  (LdsK [.int .i64, .str, .str, .str, .str, .int .i64, .int .i64, .raw] (⟨g1, 0, none⟩ : Addr) w8 (fun (x9 : Int × ByteArray × ByteArray × ByteArray × ByteArray × Int × Int × Value × Unit) => CallK Tryz.prog 95 #[.agg #[.int .i64 x9.1, .string x9.2.1, .string x9.2.2.1, .string x9.2.2.2.1, .string x9.2.2.2.2.1, .int .i64 x9.2.2.2.2.2.1, .int .i64 x9.2.2.2.2.2.2.1, x9.2.2.2.2.2.2.2.1]] w8 (.v (.one .bool)) (fun (x10 : Bool) w11 => ifB (!x10)
  (K (.int .i64 1) w11)
  (LdK (.int .i64) ((⟨g1, 0, none⟩ : Addr).add 5) w11 (fun (x12 : Int) => ifB (decide (x12 < 0))
  (K (.int .i64 1) w11)
  (LdK (.int .i64) ((⟨g1, 0, none⟩ : Addr).add 5) w11 (fun (x13 : Int) => ifB (decide (x13 > 10000))
  (K (.int .i64 1) w11)
  (LdK (.int .i64) ((⟨g1, 0, none⟩ : Addr).add 6) w11 (fun (x14 : Int) => CallK Tryz.prog 96 #[.int .i64 x14] w11 (.v (.one .bool)) (fun (x15 : Bool) w16 => ifB (!x15)
  (K (.int .i64 1) w16)
  (JoinK (Bool × Unit) (fun J17 => LdK (.int .i64) ((⟨g1, 0, none⟩ : Addr).add 0) w16 (fun (x20 : Int) => ifB (x20 == 4)
  (LdK (.int .i64) ((⟨g1, 0, none⟩ : Addr).add 6) w16 (fun (x21 : Int) => ifB (x21 != 0)
  (LdK (.int .i64) ((⟨g1, 0, none⟩ : Addr).add 6) w16 (fun (x22 : Int) => J17 ((x22 != 1), ()) w16))
  (J17 (false, ()) w16)))
  (J17 (false, ()) w16)))
  (fun _ s18 w19 => ifB s18.1
  (K (.int .i64 1) w19)
  (LdK (.int .i64) ((⟨g1, 0, none⟩ : Addr).add 0) w19 (fun (x23 : Int) => ifB (x23 == 2)
  (LdK .raw ((⟨g1, 0, none⟩ : Addr).add 7) w19 (fun (x24 : Value) => CallK Tryz.prog 35 #[x24] w19 (.tup [.one .str, .one (.int .i64)]) (fun (x25 : ByteArray × Int × Unit) w26 => K (.int .i64 x25.2.1) w26)))
  (K (.int .i64 0) w19)))))))))))))))))))))
def pl49 : Plan := (.seq .auto (.seq (.block (.seq .auto (.cond .auto (.seq .auto (.cond .auto (.join [(35, .one .bool)] .auto .auto)))))) .auto))
theorem e49 (p0 : Int × ByteArray × ByteArray × ByteArray × ByteArray × Int × Int × Value × Unit) (w : World) (K : Value → World → Prop) : vcFunc Tryz.prog Tryz.f49 pl49 [.agg #[.int .i64 p0.1, .string p0.2.1, .string p0.2.2.1, .string p0.2.2.2.1, .string p0.2.2.2.2.1, .int .i64 p0.2.2.2.2.2.1, .int .i64 p0.2.2.2.2.2.2.1, p0.2.2.2.2.2.2.2.1]] w K = C49 p0 w K := by kernel_rfl
theorem c49 (p0 : Int × ByteArray × ByteArray × ByteArray × ByteArray × Int × Int × Value × Unit) (w : World) (K : Value → World → Prop) (h : C49 p0 w K) : Ret Tryz.prog 49 #[.agg #[.int .i64 p0.1, .string p0.2.1, .string p0.2.2.1, .string p0.2.2.2.1, .string p0.2.2.2.2.1, .int .i64 p0.2.2.2.2.2.1, .int .i64 p0.2.2.2.2.2.2.1, p0.2.2.2.2.2.2.2.1]] w K := by
  rw [← e49] at h
  exact vcFunc_sound (by kernel_rfl) Tryz.func49 h

/-- handfast/event.Fields -/
def C93 (p0 : Int) (w : World) (K : Value → World → Prop) : Prop :=
  ifB (p0 == 1)
  (K (.string (⟨#[]⟩ : ByteArray)) w)
  (ifB (p0 == 2)
  (K (.string (⟨#[73, 84]⟩ : ByteArray)) w)
  (ifB (p0 == 3)
  (K (.string (⟨#[78, 68, 86]⟩ : ByteArray)) w)
  (ifB (p0 == 4)
  (K (.string (⟨#[73, 76, 86]⟩ : ByteArray)) w)
  (ifB (p0 == 5)
  (K (.string (⟨#[68]⟩ : ByteArray)) w)
  (ifB (p0 == 6)
  (K (.string (⟨#[68, 67, 86]⟩ : ByteArray)) w)
  (K (.string (⟨#[63]⟩ : ByteArray)) w))))))
def pl93 : Plan := .auto
theorem e93 (p0 : Int) (w : World) (K : Value → World → Prop) : vcFunc Tryz.prog Tryz.f93 pl93 [.int .i64 p0] w K = C93 p0 w K := by kernel_rfl
theorem c93 (p0 : Int) (w : World) (K : Value → World → Prop) (h : C93 p0 w K) : Ret Tryz.prog 93 #[.int .i64 p0] w K := by
  rw [← e93] at h
  exact vcFunc_sound (by kernel_rfl) Tryz.func93 h

/-- handfast/event.only -/
def C94 (p0 : Int × ByteArray × ByteArray × ByteArray × ByteArray × Int × Int × Value × Unit) (w : World) (K : Value → World → Prop) : Prop :=
  NewK (.cells #[.int .i64 p0.1, .string p0.2.1, .string p0.2.2.1, .string p0.2.2.2.1, .string p0.2.2.2.2.1, .int .i64 p0.2.2.2.2.2.1, .int .i64 p0.2.2.2.2.2.2.1, p0.2.2.2.2.2.2.2.1] 30) w (fun g1 w2 => NewK (.map #[] 0) w2 (fun g3 w4 => LdK .str ((⟨g1, 0, none⟩ : Addr).add 1) w4 (fun (x5 : ByteArray) => RunU Tryz.prog (Instr.mapUpdate 262 (.map (some g3)) (.string (⟨#[73]⟩ : ByteArray)) (.string x5)) w4 (fun w6 => LdK .str ((⟨g1, 0, none⟩ : Addr).add 2) w6 (fun (x7 : ByteArray) => RunU Tryz.prog (Instr.mapUpdate 262 (.map (some g3)) (.string (⟨#[78]⟩ : ByteArray)) (.string x7)) w6 (fun w8 => LdK .str ((⟨g1, 0, none⟩ : Addr).add 3) w8 (fun (x9 : ByteArray) => RunU Tryz.prog (Instr.mapUpdate 262 (.map (some g3)) (.string (⟨#[76]⟩ : ByteArray)) (.string x9)) w8 (fun w10 => LdK .str ((⟨g1, 0, none⟩ : Addr).add 4) w10 (fun (x11 : ByteArray) => RunU Tryz.prog (Instr.mapUpdate 262 (.map (some g3)) (.string (⟨#[67]⟩ : ByteArray)) (.string x11)) w10 (fun w12 => RunK Tryz.prog (Instr.range 262 (.map (some g3))) w12 (.v (.one .ptr)) (fun (x13 : Option Addr) w14 => LoopK (Unit) (fun _ s15 w16 next17 => MnextK Tryz.prog (.pointer x13) 0 w16 (fun x18 x19 w20 => RunK Tryz.prog (Instr.entry (.pointer x13)) w20 (.tup [.one .raw, .one .raw]) (fun (x22 : Value × Value × Unit) w23 => Kd.ex (.one .str) x22.1 (fun (x24 : ByteArray) => Kd.ex (.one .str) x22.2.1 (fun (x25 : ByteArray) => ifB (!(x25.toList == (⟨#[]⟩ : ByteArray).toList))
  (LdK (.int .i64) ((⟨g1, 0, none⟩ : Addr).add 0) w23 (fun (x26 : Int) => CallK Tryz.prog 144 #[.int .i64 x26, .string x24] w23 (.v (.one .bool)) (fun (x27 : Bool) w28 => ifB (!x27)
  (K (.bool false) w28)
  (next17 (()) w28))))
  (next17 (()) w23)))))
  (fun w21 => LdK (.int .i64) ((⟨g1, 0, none⟩ : Addr).add 5) w21 (fun (x29 : Int) => ifB (x29 == 0)
  (LdK (.int .i64) ((⟨g1, 0, none⟩ : Addr).add 6) w21 (fun (x30 : Int) => ifB (x30 == 0)
  (LdK .raw ((⟨g1, 0, none⟩ : Addr).add 7) w21 (fun (x31 : Value) => RunK Tryz.prog (do eqGuard .eql 28 (.tmp 52) (.const .nilIface) x31 .nilIface; binOp .eql 28 x31 .nilIface) w21 (.v (.one .bool)) (fun (x32 : Bool) w33 => ifB x32
  (K (.bool true) w33)
  (LdK (.int .i64) ((⟨g1, 0, none⟩ : Addr).add 0) w33 (fun (x34 : Int) => CallK Tryz.prog 144 #[.int .i64 x34, .string (⟨#[84]⟩ : ByteArray)] w33 (.v (.one .bool)) (fun (x35 : Bool) w36 => K (.bool x35) w36))))))
  (LdK (.int .i64) ((⟨g1, 0, none⟩ : Addr).add 0) w21 (fun (x37 : Int) => CallK Tryz.prog 144 #[.int .i64 x37, .string (⟨#[86]⟩ : ByteArray)] w21 (.v (.one .bool)) (fun (x38 : Bool) w39 => ifB x38
  (LdK .raw ((⟨g1, 0, none⟩ : Addr).add 7) w39 (fun (x40 : Value) => RunK Tryz.prog (do eqGuard .eql 28 (.tmp 52) (.const .nilIface) x40 .nilIface; binOp .eql 28 x40 .nilIface) w39 (.v (.one .bool)) (fun (x41 : Bool) w42 => ifB x41
  (K (.bool true) w42)
  (LdK (.int .i64) ((⟨g1, 0, none⟩ : Addr).add 0) w42 (fun (x43 : Int) => CallK Tryz.prog 144 #[.int .i64 x43, .string (⟨#[84]⟩ : ByteArray)] w42 (.v (.one .bool)) (fun (x44 : Bool) w45 => K (.bool x44) w45))))))
  (K (.bool false) w39))))))
  (LdK (.int .i64) ((⟨g1, 0, none⟩ : Addr).add 0) w21 (fun (x46 : Int) => CallK Tryz.prog 144 #[.int .i64 x46, .string (⟨#[68]⟩ : ByteArray)] w21 (.v (.one .bool)) (fun (x47 : Bool) w48 => ifB x47
  (LdK (.int .i64) ((⟨g1, 0, none⟩ : Addr).add 6) w48 (fun (x49 : Int) => ifB (x49 == 0)
  (LdK .raw ((⟨g1, 0, none⟩ : Addr).add 7) w48 (fun (x50 : Value) => RunK Tryz.prog (do eqGuard .eql 28 (.tmp 52) (.const .nilIface) x50 .nilIface; binOp .eql 28 x50 .nilIface) w48 (.v (.one .bool)) (fun (x51 : Bool) w52 => ifB x51
  (K (.bool true) w52)
  (LdK (.int .i64) ((⟨g1, 0, none⟩ : Addr).add 0) w52 (fun (x53 : Int) => CallK Tryz.prog 144 #[.int .i64 x53, .string (⟨#[84]⟩ : ByteArray)] w52 (.v (.one .bool)) (fun (x54 : Bool) w55 => K (.bool x54) w55))))))
  (LdK (.int .i64) ((⟨g1, 0, none⟩ : Addr).add 0) w48 (fun (x56 : Int) => CallK Tryz.prog 144 #[.int .i64 x56, .string (⟨#[86]⟩ : ByteArray)] w48 (.v (.one .bool)) (fun (x57 : Bool) w58 => ifB x57
  (LdK .raw ((⟨g1, 0, none⟩ : Addr).add 7) w58 (fun (x59 : Value) => RunK Tryz.prog (do eqGuard .eql 28 (.tmp 52) (.const .nilIface) x59 .nilIface; binOp .eql 28 x59 .nilIface) w58 (.v (.one .bool)) (fun (x60 : Bool) w61 => ifB x60
  (K (.bool true) w61)
  (LdK (.int .i64) ((⟨g1, 0, none⟩ : Addr).add 0) w61 (fun (x62 : Int) => CallK Tryz.prog 144 #[.int .i64 x62, .string (⟨#[84]⟩ : ByteArray)] w61 (.v (.one .bool)) (fun (x63 : Bool) w64 => K (.bool x63) w64))))))
  (K (.bool false) w58))))))
  (K (.bool false) w48)))))))
  (()) w14)))))))))))
def pl94 : Plan := (.seq .auto (.seq .auto (.seq (.seq .auto (.block (.loop [] .auto))) .auto)))
theorem e94 (p0 : Int × ByteArray × ByteArray × ByteArray × ByteArray × Int × Int × Value × Unit) (w : World) (K : Value → World → Prop) : vcFunc Tryz.prog Tryz.f94 pl94 [.agg #[.int .i64 p0.1, .string p0.2.1, .string p0.2.2.1, .string p0.2.2.2.1, .string p0.2.2.2.2.1, .int .i64 p0.2.2.2.2.2.1, .int .i64 p0.2.2.2.2.2.2.1, p0.2.2.2.2.2.2.2.1]] w K = C94 p0 w K := by kernel_rfl
theorem c94 (p0 : Int × ByteArray × ByteArray × ByteArray × ByteArray × Int × Int × Value × Unit) (w : World) (K : Value → World → Prop) (h : C94 p0 w K) : Ret Tryz.prog 94 #[.agg #[.int .i64 p0.1, .string p0.2.1, .string p0.2.2.1, .string p0.2.2.2.1, .string p0.2.2.2.2.1, .int .i64 p0.2.2.2.2.2.1, .int .i64 p0.2.2.2.2.2.2.1, p0.2.2.2.2.2.2.2.1]] w K := by
  rw [← e94] at h
  exact vcFunc_sound (by kernel_rfl) Tryz.func94 h

/-- handfast/event.named -/
def C95 (p0 : Int × ByteArray × ByteArray × ByteArray × ByteArray × Int × Int × Value × Unit) (w : World) (K : Value → World → Prop) : Prop :=
  NewK (.cells #[.int .i64 p0.1, .string p0.2.1, .string p0.2.2.1, .string p0.2.2.2.1, .string p0.2.2.2.2.1, .int .i64 p0.2.2.2.2.2.1, .int .i64 p0.2.2.2.2.2.2.1, p0.2.2.2.2.2.2.2.1] 30) w (fun g1 w2 => NewK (.map #[] 0) w2 (fun g3 w4 => LdK .str ((⟨g1, 0, none⟩ : Addr).add 1) w4 (fun (x5 : ByteArray) => RunU Tryz.prog (Instr.mapUpdate 262 (.map (some g3)) (.string (⟨#[73]⟩ : ByteArray)) (.string x5)) w4 (fun w6 => LdK .str ((⟨g1, 0, none⟩ : Addr).add 2) w6 (fun (x7 : ByteArray) => RunU Tryz.prog (Instr.mapUpdate 262 (.map (some g3)) (.string (⟨#[78]⟩ : ByteArray)) (.string x7)) w6 (fun w8 => LdK .str ((⟨g1, 0, none⟩ : Addr).add 3) w8 (fun (x9 : ByteArray) => RunU Tryz.prog (Instr.mapUpdate 262 (.map (some g3)) (.string (⟨#[76]⟩ : ByteArray)) (.string x9)) w8 (fun w10 => LdK .str ((⟨g1, 0, none⟩ : Addr).add 4) w10 (fun (x11 : ByteArray) => RunU Tryz.prog (Instr.mapUpdate 262 (.map (some g3)) (.string (⟨#[67]⟩ : ByteArray)) (.string x11)) w10 (fun w12 => RunK Tryz.prog (Instr.range 262 (.map (some g3))) w12 (.v (.one .ptr)) (fun (x13 : Option Addr) w14 => LoopK (Unit) (fun _ s15 w16 next17 => MnextK Tryz.prog (.pointer x13) 0 w16 (fun x18 x19 w20 => RunK Tryz.prog (Instr.entry (.pointer x13)) w20 (.tup [.one .raw, .one .raw]) (fun (x22 : Value × Value × Unit) w23 => Kd.ex (.one .str) x22.1 (fun (x24 : ByteArray) => Kd.ex (.one .str) x22.2.1 (fun (x25 : ByteArray) => LdK (.int .i64) ((⟨g1, 0, none⟩ : Addr).add 0) w23 (fun (x26 : Int) => CallK Tryz.prog 144 #[.int .i64 x26, .string x24] w23 (.v (.one .bool)) (fun (x27 : Bool) w28 => ifB x27
  (CallK Tryz.prog 145 #[.string x25] w28 (.v (.one .bool)) (fun (x29 : Bool) w30 => ifB (!x29)
  (K (.bool false) w30)
  (next17 (()) w30)))
  (next17 (()) w28)))))))
  (fun w21 => K (.bool true) w21))
  (()) w14)))))))))))
def pl95 : Plan := (.seq .auto (.seq .auto (.seq (.seq .auto (.block (.loop [] .auto))) .auto)))
theorem e95 (p0 : Int × ByteArray × ByteArray × ByteArray × ByteArray × Int × Int × Value × Unit) (w : World) (K : Value → World → Prop) : vcFunc Tryz.prog Tryz.f95 pl95 [.agg #[.int .i64 p0.1, .string p0.2.1, .string p0.2.2.1, .string p0.2.2.2.1, .string p0.2.2.2.2.1, .int .i64 p0.2.2.2.2.2.1, .int .i64 p0.2.2.2.2.2.2.1, p0.2.2.2.2.2.2.2.1]] w K = C95 p0 w K := by kernel_rfl
theorem c95 (p0 : Int × ByteArray × ByteArray × ByteArray × ByteArray × Int × Int × Value × Unit) (w : World) (K : Value → World → Prop) (h : C95 p0 w K) : Ret Tryz.prog 95 #[.agg #[.int .i64 p0.1, .string p0.2.1, .string p0.2.2.1, .string p0.2.2.2.1, .string p0.2.2.2.2.1, .int .i64 p0.2.2.2.2.2.1, .int .i64 p0.2.2.2.2.2.2.1, p0.2.2.2.2.2.2.2.1]] w K := by
  rw [← e95] at h
  exact vcFunc_sound (by kernel_rfl) Tryz.func95 h

/-- handfast/event.has -/
def C144 (p0 : Int) (p1 : ByteArray) (w : World) (K : Value → World → Prop) : Prop :=
  CallK Tryz.prog 93 #[.int .i64 p0] w (.v (.one .str)) (fun (x1 : ByteArray) w2 => CallK Tryz.prog 169 #[.string x1, .string p1] w2 (.v (.one .bool)) (fun (x3 : Bool) w4 => K (.bool x3) w4))
def pl144 : Plan := .auto
theorem e144 (p0 : Int) (p1 : ByteArray) (w : World) (K : Value → World → Prop) : vcFunc Tryz.prog Tryz.f144 pl144 [.int .i64 p0, .string p1] w K = C144 p0 p1 w K := by kernel_rfl
theorem c144 (p0 : Int) (p1 : ByteArray) (w : World) (K : Value → World → Prop) (h : C144 p0 p1 w K) : Ret Tryz.prog 144 #[.int .i64 p0, .string p1] w K := by
  rw [← e144] at h
  exact vcFunc_sound (by kernel_rfl) Tryz.func144 h

/-- handfast/cents.Valid -/
def C96 (p0 : Int) (w : World) (K : Value → World → Prop) : Prop :=
  ifB (decide (p0 ≥ (-1000000000000)))
  (K (.bool (decide (p0 ≤ 1000000000000))) w)
  (K (.bool false) w)
def pl96 : Plan := .auto
theorem e96 (p0 : Int) (w : World) (K : Value → World → Prop) : vcFunc Tryz.prog Tryz.f96 pl96 [.int .i64 p0] w K = C96 p0 w K := by kernel_rfl
theorem c96 (p0 : Int) (w : World) (K : Value → World → Prop) (h : C96 p0 w K) : Ret Tryz.prog 96 #[.int .i64 p0] w K := by
  rw [← e96] at h
  exact vcFunc_sound (by kernel_rfl) Tryz.func96 h

end Go.Proofs.YtlhbfdakceipkaaGreatDoor
