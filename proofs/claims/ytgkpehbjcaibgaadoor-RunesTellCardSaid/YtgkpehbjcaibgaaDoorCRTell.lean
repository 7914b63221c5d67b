/-
  The conditions of some functions, written by a program of this session, each tied to the translation by the kernel.
-/
import Derived.Test.YtgkpehbjcaibgaaDoorVcMem
import Derived.Test.YtgkpehbjcaibgaaDoorProg
import Derived.KernelRfl
namespace Go.Proofs.YtgkpehbjcaibgaaDoor
open Vc
set_option maxRecDepth 100000
set_option linter.unusedVariables false
/-- handfast/handfastref01.runes -/
def C27 (p0 : ByteArray) (w : World) (K : Value → World → Prop) : Prop :=
  RunK Tryd.prog (Instr.range 9 (.string p0)) w (.v (.one .ptr)) (fun (x1 : Option Addr) w2 => LoopK ((Option Addr × Nat × Nat) × Unit) (fun _ s3 w4 next5 => NextK x1 w4 (fun x6 x7 w8 => RunK Tryd.prog (Instr.buildSlice 60 1 #[(0, .int .i32 x7)]) w8 (.v (.one .slc)) (fun (x9 : Option Addr × Nat × Nat) w10 => RunK Tryd.prog (Builtin.append_ #[60, 60] 60 #[.slice s3.1.1 s3.1.2.1 s3.1.2.2, .slice x9.1 x9.2.1 x9.2.2]) w10 (.v (.one .slc)) (fun (x11 : Option Addr × Nat × Nat) w12 => next5 ((x11.1, x11.2.1, x11.2.2), ()) w12)))
  (K (.slice s3.1.1 s3.1.2.1 s3.1.2.2) w4))
  ((none, 0, 0), ()) w2)
def pl27 : Plan := (.seq .auto (.seq .auto (.seq (.seq .auto (.block (.loop [(3, .one .slc)] .auto))) .auto)))
theorem e27 (p0 : ByteArray) (w : World) (K : Value → World → Prop) : vcFunc Tryd.prog Tryd.f27 pl27 [.string p0] w K = C27 p0 w K := by kernel_rfl
theorem c27 (p0 : ByteArray) (w : World) (K : Value → World → Prop) (h : C27 p0 w K) : Ret Tryd.prog 27 #[.string p0] w K := by
  rw [← e27] at h
  exact vcFunc_sound (by kernel_rfl) Tryd.func27 h

/-- handfast/handfastref01.Number -/
def C15 (p0 : ByteArray) (w : World) (K : Value → World → Prop) : Prop :=
  JoinK (Bool × Unit) (fun J1 => ifB (decide ((p0.size : Int) > 0))
  (StrK p0 0 (fun x4 => J1 ((x4 == 45), ()) w))
  (J1 (false, ()) w))
  (fun _ s2 w3 => JoinK (ByteArray × Unit) (fun J5 => ifB s2.1
  (SubsK p0 1 p0.size (fun x8 => J5 (x8, ()) w3))
  (J5 (p0, ()) w3))
  (fun _ s6 w7 => JoinK (Bool × Unit) (fun J9 => ifB (decide ((s6.1.size : Int) < 1))
  (J9 (true, ()) w7)
  (ifB (decide ((s6.1.size : Int) > 13))
  (J9 (true, ()) w7)
  (StrK s6.1 0 (fun x12 => ifB (x12 == 48)
  (ifB (decide ((s6.1.size : Int) > 1))
  (J9 (true, ()) w7)
  (J9 (s2.1, ()) w7))
  (J9 (false, ()) w7)))))
  (fun _ s10 w11 => ifB s10.1
  (K (.tuple #[.int .i64 0, .bool false]) w11)
  (LoopK (Int × Int × Unit) (fun _ s13 w14 next15 => ifB (decide (s13.2.1 < (s6.1.size : Int)))
  (StrK s6.1 s13.2.1 (fun x16 => ifB (decide (x16 < 48))
  (K (.tuple #[.int .i64 0, .bool false]) w14)
  (StrK s6.1 s13.2.1 (fun x17 => ifB (decide (x17 > 57))
  (K (.tuple #[.int .i64 0, .bool false]) w14)
  (StrK s6.1 s13.2.1 (fun x18 => next15 (IntKind.i64.wrap ((IntKind.i64.wrap (10 * s13.1)) + (IntKind.i64.wrap (IntKind.u8.wrap (x18 - 48)))), IntKind.i64.wrap (s13.2.1 + 1), ()) w14))))))
  (ifB (decide (s13.1 > 1000000000000))
  (K (.tuple #[.int .i64 0, .bool false]) w14)
  (ifB s2.1
  (K (.tuple #[.int .i64 (IntKind.i64.wrap (0 - s13.1)), .bool true]) w14)
  (K (.tuple #[.int .i64 s13.1, .bool true]) w14))))
  (0, 0, ()) w11))))
def pl15 : Plan := (.seq .auto (.join [(4, .one .bool)] .auto (.join [(0, .one .str)] .auto (.seq (.join [(38, .one .bool)] .auto .auto) (.seq .auto (.seq (.seq .auto (.block (.loop [(5, .one (.int .i64)), (6, .one (.int .i64))] .auto))) .auto))))))
theorem e15 (p0 : ByteArray) (w : World) (K : Value → World → Prop) : vcFunc Tryd.prog Tryd.f15 pl15 [.string p0] w K = C15 p0 w K := by kernel_rfl
theorem c15 (p0 : ByteArray) (w : World) (K : Value → World → Prop) (h : C15 p0 w K) : Ret Tryd.prog 15 #[.string p0] w K := by
  rw [← e15] at h
  exact vcFunc_sound (by kernel_rfl) Tryd.func15 h

/-- handfast/handfastref01.Letter -/
def C17 (p0 : Int) (w : World) (K : Value → World → Prop) : Prop :=
  ifB (decide (p0 ≥ 97))
  (ifB (decide (p0 ≤ 122))
  (K (.bool true) w)
  (ifB (decide (p0 ≥ 48))
  (ifB (decide (p0 ≤ 57))
  (K (.bool true) w)
  (ifB (p0 == 95)
  (K (.bool true) w)
  (ifB (decide (p0 ≥ 128))
  (K (.bool (p0 != 65533)) w)
  (K (.bool false) w))))
  (ifB (p0 == 95)
  (K (.bool true) w)
  (ifB (decide (p0 ≥ 128))
  (K (.bool (p0 != 65533)) w)
  (K (.bool false) w)))))
  (ifB (decide (p0 ≥ 48))
  (ifB (decide (p0 ≤ 57))
  (K (.bool true) w)
  (ifB (p0 == 95)
  (K (.bool true) w)
  (ifB (decide (p0 ≥ 128))
  (K (.bool (p0 != 65533)) w)
  (K (.bool false) w))))
  (ifB (p0 == 95)
  (K (.bool true) w)
  (ifB (decide (p0 ≥ 128))
  (K (.bool (p0 != 65533)) w)
  (K (.bool false) w))))
def pl17 : Plan := .auto
theorem e17 (p0 : Int) (w : World) (K : Value → World → Prop) : vcFunc Tryd.prog Tryd.f17 pl17 [.int .i32 p0] w K = C17 p0 w K := by kernel_rfl
theorem c17 (p0 : Int) (w : World) (K : Value → World → Prop) (h : C17 p0 w K) : Ret Tryd.prog 17 #[.int .i32 p0] w K := by
  rw [← e17] at h
  exact vcFunc_sound (by kernel_rfl) Tryd.func17 h

/-- handfast/handfastref01.Name -/
def C19 (p0 : ByteArray) (w : World) (K : Value → World → Prop) : Prop :=
  CallK Tryd.prog 27 #[.string p0] w (.v (.one .slc)) (fun (x1 : Option Addr × Nat × Nat) w2 => LoopK (Int × Unit) (fun _ s3 w4 next5 => ifB (decide (s3.1 < (x1.2.1 : Int)))
  (IdxK x1.1 x1.2.1 s3.1 1 (fun a6 => LdK (.int .i32) a6 w4 (fun (x7 : Int) => CallK Tryd.prog 17 #[.int .i32 x7] w4 (.v (.one .bool)) (fun (x8 : Bool) w9 => ifB (!x8)
  (K (.bool false) w9)
  (ifB (s3.1 == 0)
  (IdxK x1.1 x1.2.1 s3.1 1 (fun a10 => LdK (.int .i32) a10 w9 (fun (x11 : Int) => ifB (decide (x11 ≥ 48))
  (IdxK x1.1 x1.2.1 s3.1 1 (fun a12 => LdK (.int .i32) a12 w9 (fun (x13 : Int) => ifB (decide (x13 ≤ 57))
  (K (.bool false) w9)
  (next5 (IntKind.i64.wrap (s3.1 + 1), ()) w9))))
  (next5 (IntKind.i64.wrap (s3.1 + 1), ()) w9))))
  (next5 (IntKind.i64.wrap (s3.1 + 1), ()) w9))))))
  (ifB (decide ((x1.2.1 : Int) ≥ 1))
  (K (.bool (decide ((x1.2.1 : Int) ≤ 12))) w4)
  (K (.bool false) w4)))
  (0, ()) w2)
def pl19 : Plan := (.seq .auto (.seq .auto (.seq (.seq .auto (.block (.loop [(9, .one (.int .i64))] .auto))) .auto)))
theorem e19 (p0 : ByteArray) (w : World) (K : Value → World → Prop) : vcFunc Tryd.prog Tryd.f19 pl19 [.string p0] w K = C19 p0 w K := by kernel_rfl
theorem c19 (p0 : ByteArray) (w : World) (K : Value → World → Prop) (h : C19 p0 w K) : Ret Tryd.prog 19 #[.string p0] w K := by
  rw [← e19] at h
  exact vcFunc_sound (by kernel_rfl) Tryd.func19 h

/-- handfast/handfastref01.Signs -/
def C21 (p0 : ByteArray) (w : World) (K : Value → World → Prop) : Prop :=
  CallK Tryd.prog 27 #[.string p0] w (.v (.one .slc)) (fun (x1 : Option Addr × Nat × Nat) w2 => RunK Tryd.prog (Instr.buildSlice 60 1 #[(0, .int .i32 32)]) w2 (.v (.one .slc)) (fun (x3 : Option Addr × Nat × Nat) w4 => RunK Tryd.prog (Builtin.append_ #[60, 60] 60 #[.slice x1.1 x1.2.1 x1.2.2, .slice x3.1 x3.2.1 x3.2.2]) w4 (.v (.one .slc)) (fun (x5 : Option Addr × Nat × Nat) w6 => LoopK ((Option Addr × Nat × Nat) × ByteArray × Int × Int × Unit) (fun _ s7 w8 next9 => ifB (decide (s7.2.2.2.1 < (x5.2.1 : Int)))
  (IdxK x5.1 x5.2.1 s7.2.2.2.1 1 (fun a10 => LdK (.int .i32) a10 w8 (fun (x11 : Int) => JoinK (Bool × Unit) (fun J12 => CallK Tryd.prog 17 #[.int .i32 x11] w8 (.v (.one .bool)) (fun (x15 : Bool) w16 => ifB x15
  (J12 (true, ()) w16)
  (J12 ((x11 == 45), ()) w16)))
  (fun _ s13 w14 => ifB s13.1
  (ifB (s7.2.1.toList == (⟨#[]⟩ : ByteArray).toList)
  (CatK s7.2.1 (Utf8.encode x11) (next9 ((s7.1.1, s7.1.2.1, s7.1.2.2), (s7.2.1 ++ (Utf8.encode x11)), IntKind.i64.wrap (s7.2.2.2.1 + 1), IntKind.i64.wrap (s7.2.2.2.1 + 1), ()) w14))
  (CatK s7.2.1 (Utf8.encode x11) (next9 ((s7.1.1, s7.1.2.1, s7.1.2.2), (s7.2.1 ++ (Utf8.encode x11)), s7.2.2.1, IntKind.i64.wrap (s7.2.2.2.1 + 1), ()) w14)))
  (JoinK ((Option Addr × Nat × Nat) × ByteArray × Unit) (fun J17 => ifB (!(s7.2.1.toList == (⟨#[]⟩ : ByteArray).toList))
  (RunK Tryd.prog (Instr.buildSlice 41 1 #[(0, .agg #[.string s7.2.1, .int .i64 s7.2.2.1])]) w14 (.v (.one .slc)) (fun (x20 : Option Addr × Nat × Nat) w21 => RunK Tryd.prog (Builtin.append_ #[41, 41] 41 #[.slice s7.1.1 s7.1.2.1 s7.1.2.2, .slice x20.1 x20.2.1 x20.2.2]) w21 (.v (.one .slc)) (fun (x22 : Option Addr × Nat × Nat) w23 => J17 ((x22.1, x22.2.1, x22.2.2), (⟨#[]⟩ : ByteArray), ()) w23)))
  (J17 ((s7.1.1, s7.1.2.1, s7.1.2.2), s7.2.1, ()) w14))
  (fun _ s18 w19 => ifB (x11 == 40)
  (ifB (x11 == 40)
  (RunK Tryd.prog (Instr.buildSlice 41 1 #[(0, .agg #[.string (Utf8.encode x11), .int .i64 (IntKind.i64.wrap (s7.2.2.2.1 + 1))])]) w19 (.v (.one .slc)) (fun (x24 : Option Addr × Nat × Nat) w25 => RunK Tryd.prog (Builtin.append_ #[41, 41] 41 #[.slice s18.1.1 s18.1.2.1 s18.1.2.2, .slice x24.1 x24.2.1 x24.2.2]) w25 (.v (.one .slc)) (fun (x26 : Option Addr × Nat × Nat) w27 => next9 ((x26.1, x26.2.1, x26.2.2), s18.2.1, s7.2.2.1, IntKind.i64.wrap (s7.2.2.2.1 + 1), ()) w27)))
  (ifB (x11 == 32)
  (next9 ((s18.1.1, s18.1.2.1, s18.1.2.2), s18.2.1, s7.2.2.1, IntKind.i64.wrap (s7.2.2.2.1 + 1), ()) w19)
  (K (.tuple #[.slice none 0 0, .int .i64 (IntKind.i64.wrap (s7.2.2.2.1 + 1))]) w19)))
  (ifB (x11 == 41)
  (ifB (x11 == 41)
  (RunK Tryd.prog (Instr.buildSlice 41 1 #[(0, .agg #[.string (Utf8.encode x11), .int .i64 (IntKind.i64.wrap (s7.2.2.2.1 + 1))])]) w19 (.v (.one .slc)) (fun (x28 : Option Addr × Nat × Nat) w29 => RunK Tryd.prog (Builtin.append_ #[41, 41] 41 #[.slice s18.1.1 s18.1.2.1 s18.1.2.2, .slice x28.1 x28.2.1 x28.2.2]) w29 (.v (.one .slc)) (fun (x30 : Option Addr × Nat × Nat) w31 => next9 ((x30.1, x30.2.1, x30.2.2), s18.2.1, s7.2.2.1, IntKind.i64.wrap (s7.2.2.2.1 + 1), ()) w31)))
  (ifB (x11 == 32)
  (next9 ((s18.1.1, s18.1.2.1, s18.1.2.2), s18.2.1, s7.2.2.1, IntKind.i64.wrap (s7.2.2.2.1 + 1), ()) w19)
  (K (.tuple #[.slice none 0 0, .int .i64 (IntKind.i64.wrap (s7.2.2.2.1 + 1))]) w19)))
  (ifB (x11 == 44)
  (RunK Tryd.prog (Instr.buildSlice 41 1 #[(0, .agg #[.string (Utf8.encode x11), .int .i64 (IntKind.i64.wrap (s7.2.2.2.1 + 1))])]) w19 (.v (.one .slc)) (fun (x32 : Option Addr × Nat × Nat) w33 => RunK Tryd.prog (Builtin.append_ #[41, 41] 41 #[.slice s18.1.1 s18.1.2.1 s18.1.2.2, .slice x32.1 x32.2.1 x32.2.2]) w33 (.v (.one .slc)) (fun (x34 : Option Addr × Nat × Nat) w35 => next9 ((x34.1, x34.2.1, x34.2.2), s18.2.1, s7.2.2.1, IntKind.i64.wrap (s7.2.2.2.1 + 1), ()) w35)))
  (ifB (x11 == 32)
  (next9 ((s18.1.1, s18.1.2.1, s18.1.2.2), s18.2.1, s7.2.2.1, IntKind.i64.wrap (s7.2.2.2.1 + 1), ()) w19)
  (K (.tuple #[.slice none 0 0, .int .i64 (IntKind.i64.wrap (s7.2.2.2.1 + 1))]) w19))))))))))
  (K (.tuple #[.slice s7.1.1 s7.1.2.1 s7.1.2.2, .int .i64 0]) w8))
  ((none, 0, 0), (⟨#[]⟩ : ByteArray), 0, 0, ()) w6)))
def pl21 : Plan := (.seq .auto (.seq .auto (.seq .auto (.seq .auto (.seq (.seq .auto (.block (.loop [(4, .one .slc), (5, .one .str), (6, .one (.int .i64)), (14, .one (.int .i64))] (.seq .auto (.seq .auto (.seq (.block (.seq .auto (.seq (.join [(24, .one .bool)] .auto .auto) (.join [(4, .one .slc), (5, .one .str)] .auto .auto)))) .auto)))))) .auto)))))
theorem e21 (p0 : ByteArray) (w : World) (K : Value → World → Prop) : vcFunc Tryd.prog Tryd.f21 pl21 [.string p0] w K = C21 p0 w K := by kernel_rfl
theorem c21 (p0 : ByteArray) (w : World) (K : Value → World → Prop) (h : C21 p0 w K) : Ret Tryd.prog 21 #[.string p0] w K := by
  rw [← e21] at h
  exact vcFunc_sound (by kernel_rfl) Tryd.func21 h

/-- handfast/handfastlaw01.RunesTell -/
def C5 (p0 : ByteArray) (p1 : ByteArray) (p2 : Int) (w : World) (K : Value → World → Prop) : Prop :=
  CallK Tryd.prog 14 #[.string p0, .int .i64 60] w (.v (.one .str)) (fun (x1 : ByteArray) w2 => CallK Tryd.prog 14 #[.string p1, .int .i64 20] w2 (.v (.one .str)) (fun (x3 : ByteArray) w4 => JoinK (Int × Unit) (fun J5 => NzK 3 (ifB ((p2.tmod 3) != 2)
  (CallK Tryd.prog 10 #[.int .i64 p2, .int .i64 768] w4 (.v (.one (.int .i64))) (fun (x8 : Int) w9 => J5 (IntKind.i32.wrap x8, ()) w9))
  (J5 (IntKind.i32.wrap p2, ()) w4)))
  (fun _ s6 w7 => CallK Tryd.prog 12 #[.string x3] w7 (.tup [.one (.int .i64), .one .bool]) (fun (x10 : Int × Bool × Unit) w11 => CallK Tryd.prog 15 #[.string x3] w11 (.tup [.one (.int .i64), .one .bool]) (fun (x12 : Int × Bool × Unit) w13 => CallK Tryd.prog 16 #[.int .i32 s6.1] w13 (.v (.one .bool)) (fun (x14 : Bool) w15 => CallK Tryd.prog 17 #[.int .i32 s6.1] w15 (.v (.one .bool)) (fun (x16 : Bool) w17 => ifB (!(x14 == x16))
  (K (.bool false) w17)
  (CallK Tryd.prog 18 #[.string x3] w17 (.v (.one .bool)) (fun (x18 : Bool) w19 => CallK Tryd.prog 19 #[.string x3] w19 (.v (.one .bool)) (fun (x20 : Bool) w21 => ifB (!(x18 == x20))
  (K (.bool false) w21)
  (ifB (x10.1 != x12.1)
  (K (.bool false) w21)
  (ifB (!(x10.2.1 == x12.2.1))
  (K (.bool false) w21)
  (CallK Tryd.prog 20 #[.string x1] w21 (.tup [.one .slc, .one (.int .i64)]) (fun (x22 : (Option Addr × Nat × Nat) × Int × Unit) w23 => CallK Tryd.prog 21 #[.string x1] w23 (.tup [.one .slc, .one (.int .i64)]) (fun (x24 : (Option Addr × Nat × Nat) × Int × Unit) w25 => ifB (x22.2.1 != x24.2.1)
  (K (.bool false) w25)
  (ifB ((x22.1.2.1 : Int) != (x24.1.2.1 : Int))
  (K (.bool false) w25)
  (LoopK (Int × Unit) (fun _ s26 w27 next28 => ifB (decide (s26.1 < (x22.1.2.1 : Int)))
  (DrewK w27 (fun w29 => IdxK x22.1.1 x22.1.2.1 s26.1 2 (fun a30 => LdsK [.str, .int .i64] a30 w29 (fun (x31 : ByteArray × Int × Unit) => IdxK x24.1.1 x24.1.2.1 s26.1 2 (fun a32 => LdsK [.str, .int .i64] a32 w29 (fun (x33 : ByteArray × Int × Unit) => RunK Tryd.prog (do eqGuard .neq 45 (.tmp 89) (.tmp 93) (.agg #[.string x31.1, .int .i64 x31.2.1]) (.agg #[.string x33.1, .int .i64 x33.2.1]); binOp .neq 45 (.agg #[.string x31.1, .int .i64 x31.2.1]) (.agg #[.string x33.1, .int .i64 x33.2.1])) w29 (.v (.one .bool)) (fun (x34 : Bool) w35 => ifB x34
  (K (.bool false) w35)
  (next28 (IntKind.i64.wrap (s26.1 + 1), ()) w35))))))))
  (CallK Tryd.prog 13 #[] w27 (.v (.one .bool)) (fun (x36 : Bool) w37 => K (.bool x36) w37)))
  (0, ()) w25)))))))))))))))))
def pl5 : Plan := (.seq .auto (.seq .auto (.seq .auto (.join [(7, .one (.int .i32))] .auto (.seq .auto (.seq .auto (.seq .auto (.seq .auto (.seq .auto (.seq .auto (.seq (.seq .auto (.block (.loop [(83, .one (.int .i64))] (.seq .auto (.seq .auto (.seq (.block (.seq .auto (.seq (.tail 8) .auto))) .auto)))))) .auto)))))))))))
theorem e5 (p0 : ByteArray) (p1 : ByteArray) (p2 : Int) (w : World) (K : Value → World → Prop) : vcFunc Tryd.prog Tryd.f5 pl5 [.string p0, .string p1, .int .i64 p2] w K = C5 p0 p1 p2 w K := by kernel_rfl
theorem c5 (p0 : ByteArray) (p1 : ByteArray) (p2 : Int) (w : World) (K : Value → World → Prop) (h : C5 p0 p1 p2 w K) : Ret Tryd.prog 5 #[.string p0, .string p1, .int .i64 p2] w K := by
  rw [← e5] at h
  exact vcFunc_sound (by kernel_rfl) Tryd.func5 h

end Go.Proofs.YtgkpehbjcaibgaaDoor
