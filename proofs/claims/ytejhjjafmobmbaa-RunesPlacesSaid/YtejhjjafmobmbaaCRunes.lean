/-
  The conditions of some functions, written by a program of this session, each tied to the translation by the kernel.
-/
import Derived.Test.YtejhjjafmobmbaaVcMem
import Derived.Test.YtejhjjafmobmbaaProg
import Derived.KernelRfl
namespace Go.Proofs.Ytejhjjafmobmbaa
open Vc
set_option maxRecDepth 100000
set_option linter.unusedVariables false
/-- handfast/runes.digit -/
def C76 (p0 : Int) (w : World) (K : Value → World → Prop) : Prop :=
  ifB (decide (p0 ≥ 48))
  (K (.bool (decide (p0 ≤ 57))) w)
  (K (.bool false) w)
def pl76 : Plan := .auto
theorem e76 (p0 : Int) (w : World) (K : Value → World → Prop) : vcFunc Try.prog Try.f76 pl76 [.int .i32 p0] w K = C76 p0 w K := by kernel_rfl
theorem c76 (p0 : Int) (w : World) (K : Value → World → Prop) (h : C76 p0 w K) : Ret Try.prog 76 #[.int .i32 p0] w K := by
  rw [← e76] at h
  exact vcFunc_sound (by kernel_rfl) Try.func76 h

/-- handfast/runes.Letter -/
def C74 (p0 : Int) (w : World) (K : Value → World → Prop) : Prop :=
  ifB (decide (p0 ≥ 97))
  (ifB (decide (p0 ≤ 122))
  (K (.bool true) w)
  (CallK Try.prog 76 #[.int .i32 p0] w (.v (.one .bool)) (fun (x1 : Bool) w2 => ifB x1
  (K (.bool true) w2)
  (ifB (p0 == 95)
  (K (.bool true) w2)
  (ifB (decide (p0 ≥ 128))
  (K (.bool (p0 != 65533)) w2)
  (K (.bool false) w2))))))
  (CallK Try.prog 76 #[.int .i32 p0] w (.v (.one .bool)) (fun (x3 : Bool) w4 => ifB x3
  (K (.bool true) w4)
  (ifB (p0 == 95)
  (K (.bool true) w4)
  (ifB (decide (p0 ≥ 128))
  (K (.bool (p0 != 65533)) w4)
  (K (.bool false) w4)))))
def pl74 : Plan := .auto
theorem e74 (p0 : Int) (w : World) (K : Value → World → Prop) : vcFunc Try.prog Try.f74 pl74 [.int .i32 p0] w K = C74 p0 w K := by kernel_rfl
theorem c74 (p0 : Int) (w : World) (K : Value → World → Prop) (h : C74 p0 w K) : Ret Try.prog 74 #[.int .i32 p0] w K := by
  rw [← e74] at h
  exact vcFunc_sound (by kernel_rfl) Try.func74 h

/-- handfast/runes.Name -/
def C38 (p0 : ByteArray) (w : World) (K : Value → World → Prop) : Prop :=
  RunK Try.prog (Instr.range 9 (.string p0)) w (.v (.one .ptr)) (fun (x1 : Option Addr) w2 => LoopK (Int × Unit) (fun _ s3 w4 next5 => NextK x1 w4 (fun x6 x7 w8 => CallK Try.prog 74 #[.int .i32 x7] w8 (.v (.one .bool)) (fun (x9 : Bool) w10 => ifB (!x9)
  (K (.bool false) w10)
  (ifB ((IntKind.i64.wrap (s3.1 + 1)) == 1)
  (CallK Try.prog 76 #[.int .i32 x7] w10 (.v (.one .bool)) (fun (x11 : Bool) w12 => ifB x11
  (K (.bool false) w12)
  (ifB (decide ((IntKind.i64.wrap (s3.1 + 1)) > 12))
  (K (.bool false) w12)
  (next5 (IntKind.i64.wrap (s3.1 + 1), ()) w12))))
  (ifB (decide ((IntKind.i64.wrap (s3.1 + 1)) > 12))
  (K (.bool false) w10)
  (next5 (IntKind.i64.wrap (s3.1 + 1), ()) w10)))))
  (K (.bool (decide (s3.1 > 0))) w4))
  (0, ()) w2)
def pl38 : Plan := (.seq .auto (.seq .auto (.seq (.seq .auto (.block (.loop [(3, .one (.int .i64))] .auto))) .auto)))
theorem e38 (p0 : ByteArray) (w : World) (K : Value → World → Prop) : vcFunc Try.prog Try.f38 pl38 [.string p0] w K = C38 p0 w K := by kernel_rfl
theorem c38 (p0 : ByteArray) (w : World) (K : Value → World → Prop) (h : C38 p0 w K) : Ret Try.prog 38 #[.string p0] w K := by
  rw [← e38] at h
  exact vcFunc_sound (by kernel_rfl) Try.func38 h

/-- handfast/runes.kind -/
def C75 (p0 : Int) (w : World) (K : Value → World → Prop) : Prop :=
  CallK Try.prog 74 #[.int .i32 p0] w (.v (.one .bool)) (fun (x1 : Bool) w2 => ifB x1
  (K (.int .u8 97) w2)
  (ifB (p0 == 45)
  (K (.int .u8 97) w2)
  (ifB (p0 == 40)
  (K (.int .u8 40) w2)
  (ifB (p0 == 41)
  (K (.int .u8 40) w2)
  (ifB (p0 == 44)
  (K (.int .u8 40) w2)
  (ifB (p0 == 32)
  (K (.int .u8 32) w2)
  (K (.int .u8 0) w2)))))))
def pl75 : Plan := .auto
theorem e75 (p0 : Int) (w : World) (K : Value → World → Prop) : vcFunc Try.prog Try.f75 pl75 [.int .i32 p0] w K = C75 p0 w K := by kernel_rfl
theorem c75 (p0 : Int) (w : World) (K : Value → World → Prop) (h : C75 p0 w K) : Ret Try.prog 75 #[.int .i32 p0] w K := by
  rw [← e75] at h
  exact vcFunc_sound (by kernel_rfl) Try.func75 h

/-- handfast/runes.Signs -/
def C34 (p0 : ByteArray) (w : World) (K : Value → World → Prop) : Prop :=
  RunK Try.prog (Instr.range 9 (.string p0)) w (.v (.one .ptr)) (fun (x1 : Option Addr) w2 => LoopK ((Option Addr × Nat × Nat) × Int × Bool × Unit) (fun _ s3 w4 next5 => NextK x1 w4 (fun x6 x7 w8 => CallK Try.prog 75 #[.int .i32 x7] w8 (.v (.one (.int .u8))) (fun (x9 : Int) w10 => ifB (x9 == 0)
  (K (.tuple #[.slice none 0 0, .int .i64 (IntKind.i64.wrap (s3.2.1 + 1))]) w10)
  (JoinK (Bool × Unit) (fun J11 => ifB (x9 == 97)
  (J11 (s3.2.2.1, ()) w10)
  (J11 (false, ()) w10))
  (fun _ s12 w13 => ifB s12.1
  (IdxK s3.1.1 s3.1.2.1 (IntKind.i64.wrap ((s3.1.2.1 : Int) - 1)) 2 (fun a14 => LdK .str (a14.add 0) w13 (fun (x15 : ByteArray) => CatK x15 (Utf8.encode x7) (IdxK s3.1.1 s3.1.2.1 (IntKind.i64.wrap ((s3.1.2.1 : Int) - 1)) 2 (fun a16 => StK (a16.add 0) (.string (x15 ++ (Utf8.encode x7))) w13 (fun w17 => next5 ((s3.1.1, s3.1.2.1, s3.1.2.2), IntKind.i64.wrap (s3.2.1 + 1), (x9 == 97), ()) w17))))))
  (ifB (x9 != 32)
  (RunK Try.prog (Instr.buildSlice 39 1 #[(0, .agg #[.string (Utf8.encode x7), .int .i64 (IntKind.i64.wrap (s3.2.1 + 1))])]) w13 (.v (.one .slc)) (fun (x18 : Option Addr × Nat × Nat) w19 => RunK Try.prog (Builtin.append_ #[39, 39] 39 #[.slice s3.1.1 s3.1.2.1 s3.1.2.2, .slice x18.1 x18.2.1 x18.2.2]) w19 (.v (.one .slc)) (fun (x20 : Option Addr × Nat × Nat) w21 => next5 ((x20.1, x20.2.1, x20.2.2), IntKind.i64.wrap (s3.2.1 + 1), (x9 == 97), ()) w21)))
  (next5 ((s3.1.1, s3.1.2.1, s3.1.2.2), IntKind.i64.wrap (s3.2.1 + 1), (x9 == 97), ()) w13))))))
  (K (.tuple #[.slice s3.1.1 s3.1.2.1 s3.1.2.2, .int .i64 0]) w4))
  ((none, 0, 0), 0, false, ()) w2)
def pl34 : Plan := (.seq .auto (.seq .auto (.seq (.seq .auto (.block (.loop [(2, .one .slc), (4, .one (.int .i64)), (5, .one .bool)] (.seq .auto (.seq .auto (.block (.seq .auto (.seq .auto (.seq .auto (.seq .auto (.seq (.block (.join [(21, .one .bool)] .auto .auto)) .auto))))))))))) .auto)))
theorem e34 (p0 : ByteArray) (w : World) (K : Value → World → Prop) : vcFunc Try.prog Try.f34 pl34 [.string p0] w K = C34 p0 w K := by kernel_rfl
theorem c34 (p0 : ByteArray) (w : World) (K : Value → World → Prop) (h : C34 p0 w K) : Ret Try.prog 34 #[.string p0] w K := by
  rw [← e34] at h
  exact vcFunc_sound (by kernel_rfl) Try.func34 h

/-- handfast/handfastkeep.Text -/
def C37 (p0 : ByteArray) (p1 : Int) (w : World) (K : Value → World → Prop) : Prop :=
  SubsK p0 0 (if p1 < (p0.size : Int) then p1 else (p0.size : Int)) (fun x1 => K (.string x1) w)
def pl37 : Plan := .auto
theorem e37 (p0 : ByteArray) (p1 : Int) (w : World) (K : Value → World → Prop) : vcFunc Try.prog Try.f37 pl37 [.string p0, .int .i64 p1] w K = C37 p0 p1 w K := by kernel_rfl
theorem c37 (p0 : ByteArray) (p1 : Int) (w : World) (K : Value → World → Prop) (h : C37 p0 p1 w K) : Ret Try.prog 37 #[.string p0, .int .i64 p1] w K := by
  rw [← e37] at h
  exact vcFunc_sound (by kernel_rfl) Try.func37 h

/-- handfast/handfastlaw01.wakes -/
def C36  (w : World) (K : Value → World → Prop) : Prop :=
  CallK Try.prog 34 #[.string (⟨#[111, 110, 101, 40, 32, 195, 169, 41]⟩ : ByteArray)] w (.tup [.one .slc, .one (.int .i64)]) (fun (x1 : (Option Addr × Nat × Nat) × Int × Unit) w2 => ifB (x1.2.1 == 0)
  (ifB ((x1.1.2.1 : Int) == 4)
  (IdxK x1.1.1 x1.1.2.1 2 2 (fun a3 => LdsK [.str, .int .i64] a3 w2 (fun (x4 : ByteArray × Int × Unit) => RunK Try.prog (do eqGuard .eql 42 (.tmp 17) (.tmp 18) (.agg #[.string x4.1, .int .i64 x4.2.1]) (.agg #[.string (⟨#[195, 169]⟩ : ByteArray), .int .i64 6]); binOp .eql 42 (.agg #[.string x4.1, .int .i64 x4.2.1]) (.agg #[.string (⟨#[195, 169]⟩ : ByteArray), .int .i64 6])) w2 (.v (.one .bool)) (fun (x5 : Bool) w6 => K (.bool x5) w6))))
  (K (.bool false) w2))
  (K (.bool false) w2))
def pl36 : Plan := .auto
theorem e36  (w : World) (K : Value → World → Prop) : vcFunc Try.prog Try.f36 pl36 [] w K = C36  w K := by kernel_rfl
theorem c36  (w : World) (K : Value → World → Prop) (h : C36  w K) : Ret Try.prog 36 #[] w K := by
  rw [← e36] at h
  exact vcFunc_sound (by kernel_rfl) Try.func36 h

/-- handfast/handfastlaw01.word -/
def C33 (p0 : ByteArray) (w : World) (K : Value → World → Prop) : Prop :=
  CallK Try.prog 37 #[.string p0, .int .i64 30] w (.v (.one .str)) (fun (x1 : ByteArray) w2 => RunK Try.prog (Instr.range 9 (.string x1)) w2 (.v (.one .ptr)) (fun (x3 : Option Addr) w4 => LoopK (ByteArray × Int × Unit) (fun _ s5 w6 next7 => NextK x3 w6 (fun x8 x9 w10 => CallK Try.prog 74 #[.int .i32 x9] w10 (.v (.one .bool)) (fun (x11 : Bool) w12 => ifB x11
  (ifB (decide (s5.2.1 < 8))
  (CatK s5.1 (Utf8.encode x9) (next7 ((s5.1 ++ (Utf8.encode x9)), IntKind.i64.wrap (s5.2.1 + 1), ()) w12))
  (next7 (s5.1, s5.2.1, ()) w12))
  (next7 (s5.1, s5.2.1, ()) w12)))
  (K (.string s5.1) w6))
  ((⟨#[119]⟩ : ByteArray), 0, ()) w4))
def pl33 : Plan := (.seq .auto (.seq .auto (.seq .auto (.seq (.seq .auto (.block (.loop [(3, .one .str), (4, .one (.int .i64))] .auto))) .auto))))
theorem e33 (p0 : ByteArray) (w : World) (K : Value → World → Prop) : vcFunc Try.prog Try.f33 pl33 [.string p0] w K = C33 p0 w K := by kernel_rfl
theorem c33 (p0 : ByteArray) (w : World) (K : Value → World → Prop) (h : C33 p0 w K) : Ret Try.prog 33 #[.string p0] w K := by
  rw [← e33] at h
  exact vcFunc_sound (by kernel_rfl) Try.func33 h

/-- handfast/handfastkeep.Same[handfast/runes.Sign] -/
def C35 (p0 : Option Addr) (p0l p0c : Nat) (p1 : Option Addr) (p1l p1c : Nat) (w : World) (K : Value → World → Prop) : Prop :=
  ifB ((p0l : Int) != (p1l : Int))
  (K (.bool false) w)
  (LoopK (Int × Unit) (fun _ s1 w2 next3 => ifB (decide (s1.1 < (p0l : Int)))
  (DrewK w2 (fun w4 => IdxK p0 p0l s1.1 2 (fun a5 => LdsK [.str, .int .i64] a5 w4 (fun (x6 : ByteArray × Int × Unit) => IdxK p1 p1l s1.1 2 (fun a7 => LdsK [.str, .int .i64] a7 w4 (fun (x8 : ByteArray × Int × Unit) => RunK Try.prog (do eqGuard .neq 42 (.tmp 20) (.tmp 24) (.agg #[.string x6.1, .int .i64 x6.2.1]) (.agg #[.string x8.1, .int .i64 x8.2.1]); binOp .neq 42 (.agg #[.string x6.1, .int .i64 x6.2.1]) (.agg #[.string x8.1, .int .i64 x8.2.1])) w4 (.v (.one .bool)) (fun (x9 : Bool) w10 => ifB x9
  (K (.bool false) w10)
  (next3 (IntKind.i64.wrap (s1.1 + 1), ()) w10))))))))
  (K (.bool true) w2))
  (0, ()) w)
def pl35 : Plan := (.seq .auto (.seq .auto (.seq (.seq .auto (.block (.loop [(5, .one (.int .i64))] (.seq .auto (.seq (.block (.seq (.tail 8) .auto)) .auto))))) .auto)))
theorem e35 (p0 : Option Addr) (p0l p0c : Nat) (p1 : Option Addr) (p1l p1c : Nat) (w : World) (K : Value → World → Prop) : vcFunc Try.prog Try.f35 pl35 [.slice p0 p0l p0c, .slice p1 p1l p1c] w K = C35 p0 p0l p0c p1 p1l p1c w K := by kernel_rfl
theorem c35 (p0 : Option Addr) (p0l p0c : Nat) (p1 : Option Addr) (p1l p1c : Nat) (w : World) (K : Value → World → Prop) (h : C35 p0 p0l p0c p1 p1l p1c w K) : Ret Try.prog 35 #[.slice p0 p0l p0c, .slice p1 p1l p1c] w K := by
  rw [← e35] at h
  exact vcFunc_sound (by kernel_rfl) Try.func35 h

end Go.Proofs.Ytejhjjafmobmbaa
