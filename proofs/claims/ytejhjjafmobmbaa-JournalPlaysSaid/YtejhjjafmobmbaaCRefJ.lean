/-
  The conditions of some functions, written by a program of this session, each tied to the translation by the kernel.
-/
import Derived.Test.YtejhjjafmobmbaaVcMem
import Derived.Test.YtejhjjafmobmbaaProg
import Derived.KernelRfl
namespace Go.Proofs.Ytejhjjafmobmbaa
open Vc
set_option maxRecDepth 100000
set_option linter.unusedVariables false
/-- handfast/handfastref17.record -/
def C82 (p0 : Option Addr) (p0l p0c : Nat) (w : World) (K : Value → World → Prop) : Prop :=
  NnK 8 (RunK Try.prog (Instr.buildSlice 53 2 #[(0, .int .u8 (IntKind.u8.wrap (Int.fdiv (p0l : Int) (2 ^ (min (Int.toNat 8) 64))))), (1, .int .u8 (IntKind.u8.wrap (p0l : Int)))]) w (.v (.one .slc)) (fun (x1 : Option Addr × Nat × Nat) w2 => RunK Try.prog (Builtin.append_ #[53, 53] 53 #[.slice x1.1 x1.2.1 x1.2.2, .slice p0 p0l p0c]) w2 (.v (.one .slc)) (fun (x3 : Option Addr × Nat × Nat) w4 => LoopK (Int × Int × Unit) (fun _ s5 w6 next7 => ifB (decide (s5.2.1 < (x3.2.1 : Int)))
  (IdxK x3.1 x3.2.1 s5.2.1 1 (fun a8 => LdK (.int .u8) a8 w6 (fun (x9 : Int) => next7 (IntKind.u8.wrap ((BitVec.ofInt 8 s5.1 ^^^ BitVec.ofInt 8 x9).toNat : Int), IntKind.i64.wrap (s5.2.1 + 1), ()) w6)))
  (RunK Try.prog (Instr.buildSlice 53 1 #[(0, .int .u8 s5.1)]) w6 (.v (.one .slc)) (fun (x10 : Option Addr × Nat × Nat) w11 => RunK Try.prog (Builtin.append_ #[53, 53] 53 #[.slice x3.1 x3.2.1 x3.2.2, .slice x10.1 x10.2.1 x10.2.2]) w11 (.v (.one .slc)) (fun (x12 : Option Addr × Nat × Nat) w13 => K (.slice x12.1 x12.2.1 x12.2.2) w13))))
  (150, 0, ()) w4)))
def pl82 : Plan := (.seq .auto (.seq .auto (.seq .auto (.seq (.seq .auto (.block (.loop [(4, .one (.int .u8)), (19, .one (.int .i64))] .auto))) .auto))))
theorem e82 (p0 : Option Addr) (p0l p0c : Nat) (w : World) (K : Value → World → Prop) : vcFunc Try.prog Try.f82 pl82 [.slice p0 p0l p0c] w K = C82 p0 p0l p0c w K := by kernel_rfl
theorem c82 (p0 : Option Addr) (p0l p0c : Nat) (w : World) (K : Value → World → Prop) (h : C82 p0 p0l p0c w K) : Ret Try.prog 82 #[.slice p0 p0l p0c] w K := by
  rw [← e82] at h
  exact vcFunc_sound (by kernel_rfl) Try.func82 h

/-- handfast/handfastref17.OpenJournal -/
def C71 (p0 : Addr) (w : World) (K : Value → World → Prop) : Prop :=
  LdK .bool (p0.add 3) w (fun (x1 : Bool) => ifB x1
  (K (.tuple #[.pointer none, .int .i64 11]) w)
  (NewK (.cells #[.pointer (some p0), .slice none 0 0, .bool false] 95) w (fun g2 w3 => LoopK (Int × Unit) (fun _ s4 w5 next6 => LdK .slc (p0.add 0) w5 (fun (x7 : Option Addr × Nat × Nat) => ifB (decide ((IntKind.i64.wrap (s4.1 + 3)) ≤ (x7.2.1 : Int)))
  (RegK w5 (fun C8 => AnyK C8 3 [] (.v (.one .slc)) (fun w10 k11 => LdK .slc (p0.add 0) w10 (fun (x12 : Option Addr × Nat × Nat) => k11 (.slice x12.1 x12.2.1 x12.2.2) w10))
  (fun (x9 : Option Addr × Nat × Nat) => IdxK x9.1 x9.2.1 s4.1 1 (fun a13 => AnyK C8 6 [3] (.v (.one (.int .u8))) (fun w15 k16 => LdK (.int .u8) a13 w15 (fun (x17 : Int) => k16 (.int .u8 x17) w15))
  (fun (x14 : Int) => AnyK C8 7 [3, 6] (.v (.one (.int .i64))) (fun w19 k20 => k20 (.int .i64 (IntKind.i64.wrap x14)) w19)
  (fun (x18 : Int) => NnK 8 (AnyK C8 12 [] (.v (.one .slc)) (fun w22 k23 => LdK .slc (p0.add 0) w22 (fun (x24 : Option Addr × Nat × Nat) => k23 (.slice x24.1 x24.2.1 x24.2.2) w22))
  (fun (x21 : Option Addr × Nat × Nat) => IdxK x21.1 x21.2.1 (IntKind.i64.wrap (s4.1 + 1)) 1 (fun a25 => AnyK C8 16 [12] (.v (.one (.int .u8))) (fun w27 k28 => LdK (.int .u8) a25 w27 (fun (x29 : Int) => k28 (.int .u8 x29) w27))
  (fun (x26 : Int) => AnyK C8 17 [12, 16] (.v (.one (.int .i64))) (fun w31 k32 => k32 (.int .i64 (IntKind.i64.wrap x26)) w31)
  (fun (x30 : Int) => (∀ w33, C8 (mem [3, 6, 7, 12, 16, 17]) w33 → JoinK (Bool × Unit) (fun J34 => ifB (decide ((IntKind.i64.wrap ((BitVec.ofInt 64 (IntKind.i64.wrap (x18 * 2 ^ (min (Int.toNat 8) 64))) ||| BitVec.ofInt 64 x30).toNat : Int)) > 4000))
  (J34 (true, ()) w33)
  (LdK .slc (p0.add 0) w33 (fun (x37 : Option Addr × Nat × Nat) => J34 (decide ((IntKind.i64.wrap ((IntKind.i64.wrap (s4.1 + 3)) + (IntKind.i64.wrap ((BitVec.ofInt 64 (IntKind.i64.wrap (x18 * 2 ^ (min (Int.toNat 8) 64))) ||| BitVec.ofInt 64 x30).toNat : Int)))) > (x37.2.1 : Int)), ()) w33)))
  (fun _ s35 w36 => ifB s35.1
  (LdK .slc (p0.add 0) w36 (fun (x38 : Option Addr × Nat × Nat) => ifB (decide (s4.1 < (x38.2.1 : Int)))
  (CallK Try.prog 59 #[.pointer (some p0), .int .i64 s4.1] w36 (.v (.one (.int .i64))) (fun (x39 : Int) w40 => ifB (x39 != 0)
  (K (.tuple #[.pointer none, .int .i64 x39]) w40)
  (K (.tuple #[.pointer (some (⟨g2, 0, none⟩ : Addr)), .int .i64 0]) w40)))
  (K (.tuple #[.pointer (some (⟨g2, 0, none⟩ : Addr)), .int .i64 0]) w36)))
  (LdK .slc (p0.add 0) w36 (fun (x41 : Option Addr × Nat × Nat) => SubK x41.1 x41.2.2 (IntKind.i64.wrap (s4.1 + 2)) (IntKind.i64.wrap ((IntKind.i64.wrap (s4.1 + 2)) + (IntKind.i64.wrap ((BitVec.ofInt 64 (IntKind.i64.wrap (x18 * 2 ^ (min (Int.toNat 8) 64))) ||| BitVec.ofInt 64 x30).toNat : Int)))) x41.2.2 1 (fun a42 l43 c44 => RunK Try.prog (Builtin.append_ #[53, 53] 53 #[.slice none 0 0, .slice a42 l43 c44]) w36 (.v (.one .slc)) (fun (x45 : Option Addr × Nat × Nat) w46 => RegK w46 (fun C47 => AnyK C47 1 [] (.v (.one .slc)) (fun w49 k50 => CallK Try.prog 82 #[.slice x45.1 x45.2.1 x45.2.2] w49 (.v (.one .slc)) (fun (x51 : Option Addr × Nat × Nat) w52 => k50 (.slice x51.1 x51.2.1 x51.2.2) w52))
  (fun (x48 : Option Addr × Nat × Nat) => AnyK C47 2 [1] (.v (.one .str)) (fun w54 k55 => RunK Try.prog (convert 53 9 (.slice x48.1 x48.2.1 x48.2.2)) w54 (.v (.one .str)) (fun (x56 : ByteArray) w57 => k55 (.string x56) w57))
  (fun (x53 : ByteArray) => AnyK C47 6 [] (.v (.one .slc)) (fun w59 k60 => LdK .slc (p0.add 0) w59 (fun (x61 : Option Addr × Nat × Nat) => k60 (.slice x61.1 x61.2.1 x61.2.2) w59))
  (fun (x58 : Option Addr × Nat × Nat) => SubK x58.1 x58.2.2 s4.1 (IntKind.i64.wrap ((IntKind.i64.wrap (s4.1 + 3)) + (IntKind.i64.wrap ((BitVec.ofInt 64 (IntKind.i64.wrap (x18 * 2 ^ (min (Int.toNat 8) 64))) ||| BitVec.ofInt 64 x30).toNat : Int)))) x58.2.2 1 (fun a62 l63 c64 => AnyK C47 13 [6] (.v (.one .str)) (fun w66 k67 => RunK Try.prog (convert 53 9 (.slice a62 l63 c64)) w66 (.v (.one .str)) (fun (x68 : ByteArray) w69 => k67 (.string x68) w69))
  (fun (x65 : ByteArray) => (∀ w70, C47 (mem [1, 2, 6, 13]) w70 → ifB (!(x53.toList == x65.toList))
  (LdK .slc (p0.add 0) w70 (fun (x71 : Option Addr × Nat × Nat) => ifB (decide (s4.1 < (x71.2.1 : Int)))
  (CallK Try.prog 59 #[.pointer (some p0), .int .i64 s4.1] w70 (.v (.one (.int .i64))) (fun (x72 : Int) w73 => ifB (x72 != 0)
  (K (.tuple #[.pointer none, .int .i64 x72]) w73)
  (K (.tuple #[.pointer (some (⟨g2, 0, none⟩ : Addr)), .int .i64 0]) w73)))
  (K (.tuple #[.pointer (some (⟨g2, 0, none⟩ : Addr)), .int .i64 0]) w70)))
  (LdK .slc ((⟨g2, 0, none⟩ : Addr).add 1) w70 (fun (x74 : Option Addr × Nat × Nat) => RunK Try.prog (Instr.buildSlice 79 1 #[(0, .slice x45.1 x45.2.1 x45.2.2)]) w70 (.v (.one .slc)) (fun (x75 : Option Addr × Nat × Nat) w76 => RunK Try.prog (Builtin.append_ #[79, 79] 79 #[.slice x74.1 x74.2.1 x74.2.2, .slice x75.1 x75.2.1 x75.2.2]) w76 (.v (.one .slc)) (fun (x77 : Option Addr × Nat × Nat) w78 => StK ((⟨g2, 0, none⟩ : Addr).add 1) (.slice x77.1 x77.2.1 x77.2.2) w78 (fun w79 => next6 (IntKind.i64.wrap (s4.1 + (IntKind.i64.wrap (3 + (IntKind.i64.wrap ((BitVec.ofInt 64 (IntKind.i64.wrap (x18 * 2 ^ (min (Int.toNat 8) 64))) ||| BitVec.ofInt 64 x30).toNat : Int))))), ()) w79)))))))))))))))))))))))))))))
  (LdK .slc (p0.add 0) w5 (fun (x80 : Option Addr × Nat × Nat) => ifB (decide (s4.1 < (x80.2.1 : Int)))
  (CallK Try.prog 59 #[.pointer (some p0), .int .i64 s4.1] w5 (.v (.one (.int .i64))) (fun (x81 : Int) w82 => ifB (x81 != 0)
  (K (.tuple #[.pointer none, .int .i64 x81]) w82)
  (K (.tuple #[.pointer (some (⟨g2, 0, none⟩ : Addr)), .int .i64 0]) w82)))
  (K (.tuple #[.pointer (some (⟨g2, 0, none⟩ : Addr)), .int .i64 0]) w5)))))
  (0, ()) w3)))
def pl71 : Plan := (.seq .auto (.seq .auto (.seq .auto (.seq .auto (.seq (.block (.loop [(5, .one (.int .i64))] (.seq .auto (.block (.seq (.any [(3, .v (.one .slc)), (6, .v (.one (.int .u8))), (7, .v (.one (.int .i64))), (12, .v (.one .slc)), (16, .v (.one (.int .u8))), (17, .v (.one (.int .i64)))]) (.seq (.join [(56, .one .bool)] .auto .auto) (.seq .auto (.seq (.seq (.any [(1, .v (.one .slc)), (2, .v (.one .str)), (6, .v (.one .slc)), (13, .v (.one .str))]) .auto) .auto)))))))) .auto)))))
theorem e71 (p0 : Addr) (w : World) (K : Value → World → Prop) : vcFunc Try.prog Try.f71 pl71 [.pointer (some p0)] w K = C71 p0 w K := by kernel_rfl
theorem c71 (p0 : Addr) (w : World) (K : Value → World → Prop) (h : C71 p0 w K) : Ret Try.prog 71 #[.pointer (some p0)] w K := by
  rw [← e71] at h
  exact vcFunc_sound (by kernel_rfl) Try.func71 h

/-- (*handfast/handfastref17.Journal).Put -/
def C72 (p0 : Addr) (p1 : Option Addr) (p1l p1c : Nat) (w : World) (K : Value → World → Prop) : Prop :=
  LdK .bool (p0.add 2) w (fun (x1 : Bool) => ifB x1
  (StK (p0.add 2) (.bool true) w (fun w2 => K (.int .i64 11) w2))
  (LdK .ptr (p0.add 0) w (fun (x3 : Option Addr) => optA x3 (fun a4 => LdK .bool (a4.add 3) w (fun (x5 : Bool) => ifB x5
  (StK (p0.add 2) (.bool true) w (fun w6 => K (.int .i64 11) w6))
  (ifB (decide ((p1l : Int) > 4000))
  (K (.int .i64 5) w)
  (RegK w (fun C7 => AnyK C7 3 [] (.v (.one .ptr)) (fun w9 k10 => LdK .ptr (p0.add 0) w9 (fun (x11 : Option Addr) => k10 (.pointer x11) w9))
  (fun (x8 : Option Addr) => AnyK C7 5 [] (.v (.one .slc)) (fun w13 k14 => CallK Try.prog 82 #[.slice p1 p1l p1c] w13 (.v (.one .slc)) (fun (x15 : Option Addr × Nat × Nat) w16 => k14 (.slice x15.1 x15.2.1 x15.2.2) w16))
  (fun (x12 : Option Addr × Nat × Nat) => AnyK C7 6 [3, 5] (.v (.one (.int .i64))) (fun w18 k19 => CallK Try.prog 56 #[.pointer x8, .slice x12.1 x12.2.1 x12.2.2] w18 (.v (.one (.int .i64))) (fun (x20 : Int) w21 => k19 (.int .i64 x20) w21))
  (fun (x17 : Int) => (∀ w22, C7 (mem [3, 5, 6]) w22 → JoinK (Int × Unit) (fun J23 => ifB (x17 == 0)
  (LdK .ptr (p0.add 0) w22 (fun (x26 : Option Addr) => CallK Try.prog 58 #[.pointer x26] w22 (.v (.one (.int .i64))) (fun (x27 : Int) w28 => J23 (x27, ()) w28)))
  (J23 (x17, ()) w22))
  (fun _ s24 w25 => ifB (s24.1 == 11)
  (StK (p0.add 2) (.bool true) w25 (fun w29 => ifB (s24.1 == 0)
  (RegK w29 (fun C30 => AnyK C30 4 [] (.v (.one .slc)) (fun w32 k33 => LdK .slc (p0.add 1) w32 (fun (x34 : Option Addr × Nat × Nat) => k33 (.slice x34.1 x34.2.1 x34.2.2) w32))
  (fun (x31 : Option Addr × Nat × Nat) => AnyK C30 8 [] (.v (.one .slc)) (fun w36 k37 => LdK .slc (p0.add 1) w36 (fun (x38 : Option Addr × Nat × Nat) => k37 (.slice x38.1 x38.2.1 x38.2.2) w36))
  (fun (x35 : Option Addr × Nat × Nat) => AnyK C30 13 [] (.v (.one .slc)) (fun w40 k41 => LdK .slc (p0.add 1) w40 (fun (x42 : Option Addr × Nat × Nat) => k41 (.slice x42.1 x42.2.1 x42.2.2) w40))
  (fun (x39 : Option Addr × Nat × Nat) => SubK x31.1 x31.2.2 0 (x35.2.1 : Int) (x39.2.1 : Int) 1 (fun a43 l44 c45 => AnyK C30 17 [] (.v (.one .slc)) (fun w47 k48 => RunK Try.prog (Builtin.append_ #[53, 53] 53 #[.slice none 0 0, .slice p1 p1l p1c]) w47 (.v (.one .slc)) (fun (x49 : Option Addr × Nat × Nat) w50 => k48 (.slice x49.1 x49.2.1 x49.2.2) w50))
  (fun (x46 : Option Addr × Nat × Nat) => AnyK C30 18 [17] (.v (.one .slc)) (fun w52 k53 => RunK Try.prog (Instr.buildSlice 79 1 #[(0, .slice x46.1 x46.2.1 x46.2.2)]) w52 (.v (.one .slc)) (fun (x54 : Option Addr × Nat × Nat) w55 => k53 (.slice x54.1 x54.2.1 x54.2.2) w55))
  (fun (x51 : Option Addr × Nat × Nat) => AnyK C30 19 [4, 8, 13, 17, 18] (.v (.one .slc)) (fun w57 k58 => RunK Try.prog (Builtin.append_ #[79, 79] 79 #[.slice a43 l44 c45, .slice x51.1 x51.2.1 x51.2.2]) w57 (.v (.one .slc)) (fun (x59 : Option Addr × Nat × Nat) w60 => k58 (.slice x59.1 x59.2.1 x59.2.2) w60))
  (fun (x56 : Option Addr × Nat × Nat) => AnyK C30 22 [4, 8, 13, 17, 18, 19] (.tup []) (fun w62 k63 => StK (p0.add 1) (.slice x56.1 x56.2.1 x56.2.2) w62 (fun w64 => k63 undef w64))
  (fun (x61 : Unit) => (∀ w65, C30 (mem [4, 8, 13, 17, 18, 19, 22]) w65 → K (.int .i64 s24.1) w65)))))))))))
  (K (.int .i64 s24.1) w29)))
  (ifB (s24.1 == 0)
  (RegK w25 (fun C66 => AnyK C66 4 [] (.v (.one .slc)) (fun w68 k69 => LdK .slc (p0.add 1) w68 (fun (x70 : Option Addr × Nat × Nat) => k69 (.slice x70.1 x70.2.1 x70.2.2) w68))
  (fun (x67 : Option Addr × Nat × Nat) => AnyK C66 8 [] (.v (.one .slc)) (fun w72 k73 => LdK .slc (p0.add 1) w72 (fun (x74 : Option Addr × Nat × Nat) => k73 (.slice x74.1 x74.2.1 x74.2.2) w72))
  (fun (x71 : Option Addr × Nat × Nat) => AnyK C66 13 [] (.v (.one .slc)) (fun w76 k77 => LdK .slc (p0.add 1) w76 (fun (x78 : Option Addr × Nat × Nat) => k77 (.slice x78.1 x78.2.1 x78.2.2) w76))
  (fun (x75 : Option Addr × Nat × Nat) => SubK x67.1 x67.2.2 0 (x71.2.1 : Int) (x75.2.1 : Int) 1 (fun a79 l80 c81 => AnyK C66 17 [] (.v (.one .slc)) (fun w83 k84 => RunK Try.prog (Builtin.append_ #[53, 53] 53 #[.slice none 0 0, .slice p1 p1l p1c]) w83 (.v (.one .slc)) (fun (x85 : Option Addr × Nat × Nat) w86 => k84 (.slice x85.1 x85.2.1 x85.2.2) w86))
  (fun (x82 : Option Addr × Nat × Nat) => AnyK C66 18 [17] (.v (.one .slc)) (fun w88 k89 => RunK Try.prog (Instr.buildSlice 79 1 #[(0, .slice x82.1 x82.2.1 x82.2.2)]) w88 (.v (.one .slc)) (fun (x90 : Option Addr × Nat × Nat) w91 => k89 (.slice x90.1 x90.2.1 x90.2.2) w91))
  (fun (x87 : Option Addr × Nat × Nat) => AnyK C66 19 [4, 8, 13, 17, 18] (.v (.one .slc)) (fun w93 k94 => RunK Try.prog (Builtin.append_ #[79, 79] 79 #[.slice a79 l80 c81, .slice x87.1 x87.2.1 x87.2.2]) w93 (.v (.one .slc)) (fun (x95 : Option Addr × Nat × Nat) w96 => k94 (.slice x95.1 x95.2.1 x95.2.2) w96))
  (fun (x92 : Option Addr × Nat × Nat) => AnyK C66 22 [4, 8, 13, 17, 18, 19] (.tup []) (fun w98 k99 => StK (p0.add 1) (.slice x92.1 x92.2.1 x92.2.2) w98 (fun w100 => k99 undef w100))
  (fun (x97 : Unit) => (∀ w101, C66 (mem [4, 8, 13, 17, 18, 19, 22]) w101 → K (.int .i64 s24.1) w101)))))))))))
  (K (.int .i64 s24.1) w25)))))))))))))))
def pl72 : Plan := (.seq .auto (.seq .auto (.seq .auto (.seq (.any [(3, .v (.one .ptr)), (5, .v (.one .slc)), (6, .v (.one (.int .i64)))]) (.join [(5, .one (.int .i64))] .auto (.seq .auto (.seq (.seq .auto (.cond (.any [(4, .v (.one .slc)), (8, .v (.one .slc)), (13, .v (.one .slc)), (17, .v (.one .slc)), (18, .v (.one .slc)), (19, .v (.one .slc)), (22, .tup [])]) .auto)) .auto)))))))
theorem e72 (p0 : Addr) (p1 : Option Addr) (p1l p1c : Nat) (w : World) (K : Value → World → Prop) : vcFunc Try.prog Try.f72 pl72 [.pointer (some p0), .slice p1 p1l p1c] w K = C72 p0 p1 p1l p1c w K := by kernel_rfl
theorem c72 (p0 : Addr) (p1 : Option Addr) (p1l p1c : Nat) (w : World) (K : Value → World → Prop) (h : C72 p0 p1 p1l p1c w K) : Ret Try.prog 72 #[.pointer (some p0), .slice p1 p1l p1c] w K := by
  rw [← e72] at h
  exact vcFunc_sound (by kernel_rfl) Try.func72 h

/-- (*handfast/handfastref17.Journal).Room -/
def C73 (p0 : Addr) (p1 : Int) (w : World) (K : Value → World → Prop) : Prop :=
  DrewK w (fun w1 => ifB (decide (p1 ≥ 0))
  (ifB (decide (p1 ≤ 4000))
  (LdK .ptr (p0.add 0) w1 (fun (x2 : Option Addr) => optA x2 (fun a3 => LdK (.int .i64) (a3.add 2) w1 (fun (x4 : Int) => LdK .ptr (p0.add 0) w1 (fun (x5 : Option Addr) => optA x5 (fun a6 => LdK .slc (a6.add 0) w1 (fun (x7 : Option Addr × Nat × Nat) => K (.bool (decide ((IntKind.i64.wrap (p1 + 3)) ≤ (IntKind.i64.wrap (x4 - (x7.2.1 : Int)))))) w1)))))))
  (K (.bool false) w1))
  (K (.bool false) w1))
def pl73 : Plan := (.seq .auto (.seq .still .auto))
theorem e73 (p0 : Addr) (p1 : Int) (w : World) (K : Value → World → Prop) : vcFunc Try.prog Try.f73 pl73 [.pointer (some p0), .int .i64 p1] w K = C73 p0 p1 w K := by kernel_rfl
theorem c73 (p0 : Addr) (p1 : Int) (w : World) (K : Value → World → Prop) (h : C73 p0 p1 w K) : Ret Try.prog 73 #[.pointer (some p0), .int .i64 p1] w K := by
  rw [← e73] at h
  exact vcFunc_sound (by kernel_rfl) Try.func73 h

end Go.Proofs.Ytejhjjafmobmbaa
