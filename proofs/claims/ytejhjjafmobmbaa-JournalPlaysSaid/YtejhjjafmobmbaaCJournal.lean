/-
  The conditions of some functions, written by a program of this session, each tied to the translation by the kernel.
-/
import Derived.Test.YtejhjjafmobmbaaVcMem
import Derived.Test.YtejhjjafmobmbaaProg
import Derived.KernelRfl
namespace Go.Proofs.Ytejhjjafmobmbaa
open Vc
set_option maxRecDepth 100000
set_option linter.unusedVariables false
/-- handfast/journal.xor -/
def C83 (p0 : Option Addr) (p0l p0c : Nat) (w : World) (K : Value → World → Prop) : Prop :=
  LoopK (Int × Int × Unit) (fun _ s1 w2 next3 => ifB (decide (s1.2.1 < (p0l : Int)))
  (IdxK p0 p0l s1.2.1 1 (fun a4 => LdK (.int .u8) a4 w2 (fun (x5 : Int) => next3 (IntKind.u8.wrap ((BitVec.ofInt 8 s1.1 ^^^ BitVec.ofInt 8 x5).toNat : Int), IntKind.i64.wrap (s1.2.1 + 1), ()) w2)))
  (K (.int .u8 s1.1) w2))
  (150, 0, ()) w
def pl83 : Plan := (.seq .auto (.seq .auto (.seq (.seq .auto (.block (.loop [(3, .one (.int .u8)), (8, .one (.int .i64))] .auto))) .auto)))
theorem e83 (p0 : Option Addr) (p0l p0c : Nat) (w : World) (K : Value → World → Prop) : vcFunc Try.prog Try.f83 pl83 [.slice p0 p0l p0c] w K = C83 p0 p0l p0c w K := by kernel_rfl
theorem c83 (p0 : Option Addr) (p0l p0c : Nat) (w : World) (K : Value → World → Prop) (h : C83 p0 p0l p0c w K) : Ret Try.prog 83 #[.slice p0 p0l p0c] w K := by
  rw [← e83] at h
  exact vcFunc_sound (by kernel_rfl) Try.func83 h

/-- handfast/journal.pack -/
def C81 (p0 : Option Addr) (p0l p0c : Nat) (w : World) (K : Value → World → Prop) : Prop :=
  NnK 8 (RunK Try.prog (Instr.buildSlice 53 2 #[(0, .int .u8 (IntKind.u8.wrap (Int.fdiv (p0l : Int) (2 ^ (min (Int.toNat 8) 64))))), (1, .int .u8 (IntKind.u8.wrap (p0l : Int)))]) w (.v (.one .slc)) (fun (x1 : Option Addr × Nat × Nat) w2 => RunK Try.prog (Builtin.append_ #[53, 53] 53 #[.slice x1.1 x1.2.1 x1.2.2, .slice p0 p0l p0c]) w2 (.v (.one .slc)) (fun (x3 : Option Addr × Nat × Nat) w4 => CallK Try.prog 83 #[.slice x3.1 x3.2.1 x3.2.2] w4 (.v (.one (.int .u8))) (fun (x5 : Int) w6 => RunK Try.prog (Instr.buildSlice 53 1 #[(0, .int .u8 x5)]) w6 (.v (.one .slc)) (fun (x7 : Option Addr × Nat × Nat) w8 => RunK Try.prog (Builtin.append_ #[53, 53] 53 #[.slice x3.1 x3.2.1 x3.2.2, .slice x7.1 x7.2.1 x7.2.2]) w8 (.v (.one .slc)) (fun (x9 : Option Addr × Nat × Nat) w10 => K (.slice x9.1 x9.2.1 x9.2.2) w10))))))
def pl81 : Plan := .auto
theorem e81 (p0 : Option Addr) (p0l p0c : Nat) (w : World) (K : Value → World → Prop) : vcFunc Try.prog Try.f81 pl81 [.slice p0 p0l p0c] w K = C81 p0 p0l p0c w K := by kernel_rfl
theorem c81 (p0 : Option Addr) (p0l p0c : Nat) (w : World) (K : Value → World → Prop) (h : C81 p0 p0l p0c w K) : Ret Try.prog 81 #[.slice p0 p0l p0c] w K := by
  rw [← e81] at h
  exact vcFunc_sound (by kernel_rfl) Try.func81 h

/-- handfast/journal.first -/
def C80 (p0 : Option Addr) (p0l p0c : Nat) (w : World) (K : Value → World → Prop) : Prop :=
  ifB (decide ((p0l : Int) < 2))
  (K (.tuple #[.slice none 0 0, .slice p0 p0l p0c, .bool false]) w)
  (RegK w (fun C1 => IdxK p0 p0l 0 1 (fun a2 => AnyK C1 2 [] (.v (.one (.int .u8))) (fun w4 k5 => LdK (.int .u8) a2 w4 (fun (x6 : Int) => k5 (.int .u8 x6) w4))
  (fun (x3 : Int) => AnyK C1 3 [2] (.v (.one (.int .i64))) (fun w8 k9 => k9 (.int .i64 (IntKind.i64.wrap x3)) w8)
  (fun (x7 : Int) => NnK 8 (IdxK p0 p0l 1 1 (fun a10 => AnyK C1 7 [] (.v (.one (.int .u8))) (fun w12 k13 => LdK (.int .u8) a10 w12 (fun (x14 : Int) => k13 (.int .u8 x14) w12))
  (fun (x11 : Int) => AnyK C1 8 [7] (.v (.one (.int .i64))) (fun w16 k17 => k17 (.int .i64 (IntKind.i64.wrap x11)) w16)
  (fun (x15 : Int) => (∀ w18, C1 (mem [2, 3, 7, 8]) w18 → RegK w18 (fun C19 => ifB (decide ((IntKind.i64.wrap ((BitVec.ofInt 64 (IntKind.i64.wrap (x7 * 2 ^ (min (Int.toNat 8) 64))) ||| BitVec.ofInt 64 x15).toNat : Int)) > 4000))
  (SkipK C19 15 (SkipK C19 20 ((∀ w20, C19 (mem [15, 20]) w20 → K (.tuple #[.slice none 0 0, .slice p0 p0l p0c, .bool false]) w20))))
  (ifB (decide ((p0l : Int) < (IntKind.i64.wrap ((IntKind.i64.wrap (2 + (IntKind.i64.wrap ((BitVec.ofInt 64 (IntKind.i64.wrap (x7 * 2 ^ (min (Int.toNat 8) 64))) ||| BitVec.ofInt 64 x15).toNat : Int)))) + 1))))
  (SkipK C19 15 (SkipK C19 20 ((∀ w21, C19 (mem [15, 20]) w21 → K (.tuple #[.slice none 0 0, .slice p0 p0l p0c, .bool false]) w21))))
  (IdxK p0 p0l (IntKind.i64.wrap (2 + (IntKind.i64.wrap ((BitVec.ofInt 64 (IntKind.i64.wrap (x7 * 2 ^ (min (Int.toNat 8) 64))) ||| BitVec.ofInt 64 x15).toNat : Int)))) 1 (fun a22 => AnyK C19 15 [] (.v (.one (.int .u8))) (fun w24 k25 => LdK (.int .u8) a22 w24 (fun (x26 : Int) => k25 (.int .u8 x26) w24))
  (fun (x23 : Int) => SubK p0 p0c 0 (IntKind.i64.wrap (2 + (IntKind.i64.wrap ((BitVec.ofInt 64 (IntKind.i64.wrap (x7 * 2 ^ (min (Int.toNat 8) 64))) ||| BitVec.ofInt 64 x15).toNat : Int)))) p0c 1 (fun a27 l28 c29 => AnyK C19 20 [] (.v (.one (.int .u8))) (fun w31 k32 => CallK Try.prog 83 #[.slice a27 l28 c29] w31 (.v (.one (.int .u8))) (fun (x33 : Int) w34 => k32 (.int .u8 x33) w34))
  (fun (x30 : Int) => (∀ w35, C19 (mem [15, 20]) w35 → ifB (x23 != x30)
  (K (.tuple #[.slice none 0 0, .slice p0 p0l p0c, .bool false]) w35)
  (RegK w35 (fun C36 => SubK p0 p0c 2 (IntKind.i64.wrap (2 + (IntKind.i64.wrap ((BitVec.ofInt 64 (IntKind.i64.wrap (x7 * 2 ^ (min (Int.toNat 8) 64))) ||| BitVec.ofInt 64 x15).toNat : Int)))) p0c 1 (fun a37 l38 c39 => AnyK C36 4 [] (.v (.one .slc)) (fun w41 k42 => CallK Try.prog 78 #[.slice a37 l38 c39] w41 (.v (.one .slc)) (fun (x43 : Option Addr × Nat × Nat) w44 => k42 (.slice x43.1 x43.2.1 x43.2.2) w44))
  (fun (x40 : Option Addr × Nat × Nat) => SubK p0 p0c (IntKind.i64.wrap ((IntKind.i64.wrap (2 + (IntKind.i64.wrap ((BitVec.ofInt 64 (IntKind.i64.wrap (x7 * 2 ^ (min (Int.toNat 8) 64))) ||| BitVec.ofInt 64 x15).toNat : Int)))) + 1)) p0l p0c 1 (fun a45 l46 c47 => (∀ w48, C36 (mem [4]) w48 → K (.tuple #[.slice x40.1 x40.2.1 x40.2.2, .slice a45 l46 c47, .bool true]) w48))))))))))))))))))))))))
def pl80 : Plan := (.seq .auto (.seq .auto (.seq (.any [(2, .v (.one (.int .u8))), (3, .v (.one (.int .i64))), (7, .v (.one (.int .u8))), (8, .v (.one (.int .i64)))]) (.seq (.seq (.any [(15, .v (.one (.int .u8))), (20, .v (.one (.int .u8)))]) .auto) (.seq (.any [(4, .v (.one .slc))]) .auto)))))
theorem e80 (p0 : Option Addr) (p0l p0c : Nat) (w : World) (K : Value → World → Prop) : vcFunc Try.prog Try.f80 pl80 [.slice p0 p0l p0c] w K = C80 p0 p0l p0c w K := by kernel_rfl
theorem c80 (p0 : Option Addr) (p0l p0c : Nat) (w : World) (K : Value → World → Prop) (h : C80 p0 p0l p0c w K) : Ret Try.prog 80 #[.slice p0 p0l p0c] w K := by
  rw [← e80] at h
  exact vcFunc_sound (by kernel_rfl) Try.func80 h

/-- handfast/journal.Open -/
def C65 (p0 : Addr) (w : World) (K : Value → World → Prop) : Prop :=
  CallK Try.prog 48 #[.pointer (some p0)] w (.v (.one .bool)) (fun (x1 : Bool) w2 => ifB x1
  (K (.tuple #[.pointer none, .int .i64 11]) w2)
  (NewK (.cells #[.pointer (some p0), .slice none 0 0, .bool false] 105) w2 (fun g3 w4 => CallK Try.prog 46 #[.pointer (some p0)] w4 (.v (.one .slc)) (fun (x5 : Option Addr × Nat × Nat) w6 => LoopK ((Option Addr × Nat × Nat) × Unit) (fun _ s7 w8 next9 => CallK Try.prog 80 #[.slice s7.1.1 s7.1.2.1 s7.1.2.2] w8 (.tup [.one .slc, .one .slc, .one .bool]) (fun (x10 : (Option Addr × Nat × Nat) × (Option Addr × Nat × Nat) × Bool × Unit) w11 => ifB (!x10.2.2.1)
  (ifB (decide ((s7.1.2.1 : Int) > 0))
  (CallK Try.prog 53 #[.pointer (some p0), .int .i64 (IntKind.i64.wrap ((x5.2.1 : Int) - (s7.1.2.1 : Int)))] w11 (.v (.one (.int .i64))) (fun (x12 : Int) w13 => ifB (x12 != 0)
  (K (.tuple #[.pointer none, .int .i64 x12]) w13)
  (K (.tuple #[.pointer (some (⟨g3, 0, none⟩ : Addr)), .int .i64 0]) w13)))
  (K (.tuple #[.pointer (some (⟨g3, 0, none⟩ : Addr)), .int .i64 0]) w11))
  (LdK .slc ((⟨g3, 0, none⟩ : Addr).add 1) w11 (fun (x14 : Option Addr × Nat × Nat) => RunK Try.prog (Instr.buildSlice 79 1 #[(0, .slice x10.1.1 x10.1.2.1 x10.1.2.2)]) w11 (.v (.one .slc)) (fun (x15 : Option Addr × Nat × Nat) w16 => RunK Try.prog (Builtin.append_ #[79, 79] 79 #[.slice x14.1 x14.2.1 x14.2.2, .slice x15.1 x15.2.1 x15.2.2]) w16 (.v (.one .slc)) (fun (x17 : Option Addr × Nat × Nat) w18 => StK ((⟨g3, 0, none⟩ : Addr).add 1) (.slice x17.1 x17.2.1 x17.2.2) w18 (fun w19 => next9 ((x10.2.1.1, x10.2.1.2.1, x10.2.1.2.2), ()) w19)))))))
  ((x5.1, x5.2.1, x5.2.2), ()) w6))))
def pl65 : Plan := (.seq .auto (.seq .auto (.seq .auto (.seq .auto (.seq .auto (.seq (.block (.loop [(6, .one .slc)] .auto)) .auto))))))
theorem e65 (p0 : Addr) (w : World) (K : Value → World → Prop) : vcFunc Try.prog Try.f65 pl65 [.pointer (some p0)] w K = C65 p0 w K := by kernel_rfl
theorem c65 (p0 : Addr) (w : World) (K : Value → World → Prop) (h : C65 p0 w K) : Ret Try.prog 65 #[.pointer (some p0)] w K := by
  rw [← e65] at h
  exact vcFunc_sound (by kernel_rfl) Try.func65 h

/-- (*handfast/journal.Journal).Dead -/
def C69 (p0 : Addr) (w : World) (K : Value → World → Prop) : Prop :=
  LdK .bool (p0.add 2) w (fun (x1 : Bool) => K (.bool x1) w)
def pl69 : Plan := .auto
theorem e69 (p0 : Addr) (w : World) (K : Value → World → Prop) : vcFunc Try.prog Try.f69 pl69 [.pointer (some p0)] w K = C69 p0 w K := by kernel_rfl
theorem c69 (p0 : Addr) (w : World) (K : Value → World → Prop) (h : C69 p0 w K) : Ret Try.prog 69 #[.pointer (some p0)] w K := by
  rw [← e69] at h
  exact vcFunc_sound (by kernel_rfl) Try.func69 h

/-- (*handfast/journal.Journal).Room -/
def C70 (p0 : Addr) (p1 : Int) (w : World) (K : Value → World → Prop) : Prop :=
  ifB (decide (p1 < 0))
  (K (.bool false) w)
  (ifB (decide (p1 > 4000))
  (K (.bool false) w)
  (LdK .ptr (p0.add 0) w (fun (x1 : Option Addr) => CallK Try.prog 51 #[.pointer x1] w (.v (.one .ptr)) (fun (x2 : Option Addr) w3 => CallK Try.prog 46 #[.pointer x2] w3 (.v (.one .slc)) (fun (x4 : Option Addr × Nat × Nat) w5 => CallK Try.prog 43 #[.pointer x2, .int .i64 (x4.2.1 : Int), .int .u8 0] w5 (.tup []) (fun (x6 : Unit) w7 => RunK Try.prog (Instr.makeSlice 53 (.int .i64 (IntKind.i64.wrap ((IntKind.i64.wrap (2 + p1)) + 1))) (.int .i64 (IntKind.i64.wrap ((IntKind.i64.wrap (2 + p1)) + 1)))) w7 (.v (.one .slc)) (fun (x8 : Option Addr × Nat × Nat) w9 => CallK Try.prog 41 #[.pointer x2, .slice x8.1 x8.2.1 x8.2.2] w9 (.v (.one (.int .i64))) (fun (x10 : Int) w11 => K (.bool (x10 != 10)) w11))))))))
def pl70 : Plan := .auto
theorem e70 (p0 : Addr) (p1 : Int) (w : World) (K : Value → World → Prop) : vcFunc Try.prog Try.f70 pl70 [.pointer (some p0), .int .i64 p1] w K = C70 p0 p1 w K := by kernel_rfl
theorem c70 (p0 : Addr) (p1 : Int) (w : World) (K : Value → World → Prop) (h : C70 p0 p1 w K) : Ret Try.prog 70 #[.pointer (some p0), .int .i64 p1] w K := by
  rw [← e70] at h
  exact vcFunc_sound (by kernel_rfl) Try.func70 h

/-- (*handfast/journal.Journal).Put -/
def C66 (p0 : Addr) (p1 : Option Addr) (p1l p1c : Nat) (w : World) (K : Value → World → Prop) : Prop :=
  JoinK (Unit) (fun J1 => LdK .bool (p0.add 2) w (fun (x4 : Bool) => ifB x4
  (StK (p0.add 2) (.bool true) w (fun w5 => J1 (()) w5))
  (LdK .ptr (p0.add 0) w (fun (x6 : Option Addr) => CallK Try.prog 48 #[.pointer x6] w (.v (.one .bool)) (fun (x7 : Bool) w8 => StK (p0.add 2) (.bool x7) w8 (fun w9 => J1 (()) w9))))))
  (fun _ s2 w3 => LdK .bool (p0.add 2) w3 (fun (x10 : Bool) => ifB x10
  (K (.int .i64 11) w3)
  (ifB (decide ((p1l : Int) > 4000))
  (K (.int .i64 5) w3)
  (RegK w3 (fun C11 => AnyK C11 3 [] (.v (.one .ptr)) (fun w13 k14 => LdK .ptr (p0.add 0) w13 (fun (x15 : Option Addr) => k14 (.pointer x15) w13))
  (fun (x12 : Option Addr) => AnyK C11 5 [] (.v (.one .slc)) (fun w17 k18 => CallK Try.prog 81 #[.slice p1 p1l p1c] w17 (.v (.one .slc)) (fun (x19 : Option Addr × Nat × Nat) w20 => k18 (.slice x19.1 x19.2.1 x19.2.2) w20))
  (fun (x16 : Option Addr × Nat × Nat) => AnyK C11 6 [3, 5] (.v (.one (.int .i64))) (fun w22 k23 => CallK Try.prog 41 #[.pointer x12, .slice x16.1 x16.2.1 x16.2.2] w22 (.v (.one (.int .i64))) (fun (x24 : Int) w25 => k23 (.int .i64 x24) w25))
  (fun (x21 : Int) => (∀ w26, C11 (mem [3, 5, 6]) w26 → ifB (x21 == 0)
  (LdK .ptr (p0.add 0) w26 (fun (x27 : Option Addr) => CallK Try.prog 42 #[.pointer x27] w26 (.v (.one (.int .i64))) (fun (x28 : Int) w29 => ifB (x28 != 0)
  (StK (p0.add 2) (.bool (x28 == 11)) w29 (fun w30 => K (.int .i64 x28) w30))
  (RegK w29 (fun C31 => AnyK C31 4 [] (.v (.one .slc)) (fun w33 k34 => LdK .slc (p0.add 1) w33 (fun (x35 : Option Addr × Nat × Nat) => k34 (.slice x35.1 x35.2.1 x35.2.2) w33))
  (fun (x32 : Option Addr × Nat × Nat) => AnyK C31 6 [] (.v (.one .slc)) (fun w37 k38 => CallK Try.prog 78 #[.slice p1 p1l p1c] w37 (.v (.one .slc)) (fun (x39 : Option Addr × Nat × Nat) w40 => k38 (.slice x39.1 x39.2.1 x39.2.2) w40))
  (fun (x36 : Option Addr × Nat × Nat) => AnyK C31 7 [6] (.v (.one .slc)) (fun w42 k43 => RunK Try.prog (Instr.buildSlice 79 1 #[(0, .slice x36.1 x36.2.1 x36.2.2)]) w42 (.v (.one .slc)) (fun (x44 : Option Addr × Nat × Nat) w45 => k43 (.slice x44.1 x44.2.1 x44.2.2) w45))
  (fun (x41 : Option Addr × Nat × Nat) => AnyK C31 8 [4, 6, 7] (.v (.one .slc)) (fun w47 k48 => RunK Try.prog (Builtin.append_ #[79, 79] 79 #[.slice x32.1 x32.2.1 x32.2.2, .slice x41.1 x41.2.1 x41.2.2]) w47 (.v (.one .slc)) (fun (x49 : Option Addr × Nat × Nat) w50 => k48 (.slice x49.1 x49.2.1 x49.2.2) w50))
  (fun (x46 : Option Addr × Nat × Nat) => AnyK C31 11 [4, 6, 7, 8] (.tup []) (fun w52 k53 => StK (p0.add 1) (.slice x46.1 x46.2.1 x46.2.2) w52 (fun w54 => k53 undef w54))
  (fun (x51 : Unit) => (∀ w55, C31 (mem [4, 6, 7, 8, 11]) w55 → K (.int .i64 0) w55)))))))))))
  (ifB (x21 != 0)
  (StK (p0.add 2) (.bool (x21 == 11)) w26 (fun w56 => K (.int .i64 x21) w56))
  (RegK w26 (fun C57 => AnyK C57 4 [] (.v (.one .slc)) (fun w59 k60 => LdK .slc (p0.add 1) w59 (fun (x61 : Option Addr × Nat × Nat) => k60 (.slice x61.1 x61.2.1 x61.2.2) w59))
  (fun (x58 : Option Addr × Nat × Nat) => AnyK C57 6 [] (.v (.one .slc)) (fun w63 k64 => CallK Try.prog 78 #[.slice p1 p1l p1c] w63 (.v (.one .slc)) (fun (x65 : Option Addr × Nat × Nat) w66 => k64 (.slice x65.1 x65.2.1 x65.2.2) w66))
  (fun (x62 : Option Addr × Nat × Nat) => AnyK C57 7 [6] (.v (.one .slc)) (fun w68 k69 => RunK Try.prog (Instr.buildSlice 79 1 #[(0, .slice x62.1 x62.2.1 x62.2.2)]) w68 (.v (.one .slc)) (fun (x70 : Option Addr × Nat × Nat) w71 => k69 (.slice x70.1 x70.2.1 x70.2.2) w71))
  (fun (x67 : Option Addr × Nat × Nat) => AnyK C57 8 [4, 6, 7] (.v (.one .slc)) (fun w73 k74 => RunK Try.prog (Builtin.append_ #[79, 79] 79 #[.slice x58.1 x58.2.1 x58.2.2, .slice x67.1 x67.2.1 x67.2.2]) w73 (.v (.one .slc)) (fun (x75 : Option Addr × Nat × Nat) w76 => k74 (.slice x75.1 x75.2.1 x75.2.2) w76))
  (fun (x72 : Option Addr × Nat × Nat) => AnyK C57 11 [4, 6, 7, 8] (.tup []) (fun w78 k79 => StK (p0.add 1) (.slice x72.1 x72.2.1 x72.2.2) w78 (fun w80 => k79 undef w80))
  (fun (x77 : Unit) => (∀ w81, C57 (mem [4, 6, 7, 8, 11]) w81 → K (.int .i64 0) w81))))))))))))))))))
def pl66 : Plan := (.seq .auto (.join [] .auto (.seq .auto (.seq (.any [(3, .v (.one .ptr)), (5, .v (.one .slc)), (6, .v (.one (.int .i64)))]) (.seq .auto (.seq .auto (.seq (.any [(4, .v (.one .slc)), (6, .v (.one .slc)), (7, .v (.one .slc)), (8, .v (.one .slc)), (11, .tup [])]) .auto)))))))
theorem e66 (p0 : Addr) (p1 : Option Addr) (p1l p1c : Nat) (w : World) (K : Value → World → Prop) : vcFunc Try.prog Try.f66 pl66 [.pointer (some p0), .slice p1 p1l p1c] w K = C66 p0 p1 p1l p1c w K := by kernel_rfl
theorem c66 (p0 : Addr) (p1 : Option Addr) (p1l p1c : Nat) (w : World) (K : Value → World → Prop) (h : C66 p0 p1 p1l p1c w K) : Ret Try.prog 66 #[.pointer (some p0), .slice p1 p1l p1c] w K := by
  rw [← e66] at h
  exact vcFunc_sound (by kernel_rfl) Try.func66 h

/-- (*handfast/journal.Journal).Records -/
def C68 (p0 : Addr) (w : World) (K : Value → World → Prop) : Prop :=
  LdK .slc (p0.add 1) w (fun (x1 : Option Addr × Nat × Nat) => LoopK ((Option Addr × Nat × Nat) × Int × Unit) (fun _ s2 w3 next4 => ifB (decide (s2.2.1 < (x1.2.1 : Int)))
  (IdxK x1.1 x1.2.1 s2.2.1 1 (fun a5 => LdK .slc a5 w3 (fun (x6 : Option Addr × Nat × Nat) => CallK Try.prog 78 #[.slice x6.1 x6.2.1 x6.2.2] w3 (.v (.one .slc)) (fun (x7 : Option Addr × Nat × Nat) w8 => RunK Try.prog (Instr.buildSlice 79 1 #[(0, .slice x7.1 x7.2.1 x7.2.2)]) w8 (.v (.one .slc)) (fun (x9 : Option Addr × Nat × Nat) w10 => RunK Try.prog (Builtin.append_ #[79, 79] 79 #[.slice s2.1.1 s2.1.2.1 s2.1.2.2, .slice x9.1 x9.2.1 x9.2.2]) w10 (.v (.one .slc)) (fun (x11 : Option Addr × Nat × Nat) w12 => next4 ((x11.1, x11.2.1, x11.2.2), IntKind.i64.wrap (s2.2.1 + 1), ()) w12))))))
  (K (.slice s2.1.1 s2.1.2.1 s2.1.2.2) w3))
  ((none, 0, 0), 0, ()) w)
def pl68 : Plan := (.seq .auto (.seq .auto (.seq (.seq .auto (.block (.loop [(3, .one .slc), (11, .one (.int .i64))] .auto))) .auto)))
theorem e68 (p0 : Addr) (w : World) (K : Value → World → Prop) : vcFunc Try.prog Try.f68 pl68 [.pointer (some p0)] w K = C68 p0 w K := by kernel_rfl
theorem c68 (p0 : Addr) (w : World) (K : Value → World → Prop) (h : C68 p0 w K) : Ret Try.prog 68 #[.pointer (some p0)] w K := by
  rw [← e68] at h
  exact vcFunc_sound (by kernel_rfl) Try.func68 h

/-- handfast/handfastlaw18.wakes -/
def C64  (w : World) (K : Value → World → Prop) : Prop :=
  CallK Try.prog 39 #[.int .i64 100] w (.v (.one .ptr)) (fun (x1 : Option Addr) w2 => ifB (Option.isNone x1)
  (K (.bool false) w2)
  (CallK Try.prog 65 #[.pointer x1] w2 (.tup [.one .ptr, .one (.int .i64)]) (fun (x3 : Option Addr × Int × Unit) w4 => ifB (x3.2.1 == 0)
  (ifB (!(Option.isNone x3.1))
  (CallK Try.prog 68 #[.pointer x3.1] w4 (.v (.one .slc)) (fun (x5 : Option Addr × Nat × Nat) w6 => ifB ((x5.2.1 : Int) == 0)
  (RunK Try.prog (Instr.buildSlice 53 2 #[(0, .int .u8 97), (1, .int .u8 98)]) w6 (.v (.one .slc)) (fun (x7 : Option Addr × Nat × Nat) w8 => RunK Try.prog (convert 53 53 (.slice x7.1 x7.2.1 x7.2.2)) w8 (.v (.one .slc)) (fun (x9 : Option Addr × Nat × Nat) w10 => CallK Try.prog 66 #[.pointer x3.1, .slice x9.1 x9.2.1 x9.2.2] w10 (.v (.one (.int .i64))) (fun (x11 : Int) w12 => ifB (x11 == 0)
  (CallK Try.prog 68 #[.pointer x3.1] w12 (.v (.one .slc)) (fun (x13 : Option Addr × Nat × Nat) w14 => K (.bool ((x13.2.1 : Int) == 1)) w14))
  (K (.bool false) w12)))))
  (K (.bool false) w6)))
  (K (.bool false) w4))
  (K (.bool false) w4))))
def pl64 : Plan := .auto
theorem e64  (w : World) (K : Value → World → Prop) : vcFunc Try.prog Try.f64 pl64 [] w K = C64  w K := by kernel_rfl
theorem c64  (w : World) (K : Value → World → Prop) (h : C64  w K) : Ret Try.prog 64 #[] w K := by
  rw [← e64] at h
  exact vcFunc_sound (by kernel_rfl) Try.func64 h

end Go.Proofs.Ytejhjjafmobmbaa
