/-
  The conditions of some functions, written by a program of this session, each tied to the translation by the kernel.
-/
import Derived.Test.YtlhbfdakceipkaaGreatDoorVcMem
import Derived.Test.YtlhbfdakceipkaaGreatDoorProg
import Derived.KernelRfl
namespace Go.Proofs.YtlhbfdakceipkaaGreatDoor
open Vc
set_option maxRecDepth 100000
set_option linter.unusedVariables false
/-- handfast/term.Kids -/
def C79 (p0 : Value) (w : World) (K : Value → World → Prop) : Prop :=
  TaK p0 89 (.agg [.raw]) (fun (x1 : Value × Unit) => NewK (.cells #[.nilIface] 89) w (fun g2 w3 => StsK (⟨g2, 0, none⟩ : Addr) [x1.1] w3 (fun w4 => LdK .raw ((⟨g2, 0, none⟩ : Addr).add 0) w4 (fun (x5 : Value) => RunK Tryz.prog (Instr.buildSlice 167 1 #[(0, x5)]) w4 (.v (.one .slc)) (fun (x6 : Option Addr × Nat × Nat) w7 => K (.slice x6.1 x6.2.1 x6.2.2) w7)))))
  (NewK (.cells #[.nilIface] 89) w (fun g8 w9 => StsK (⟨g8, 0, none⟩ : Addr) [.nilIface] w9 (fun w10 => TaK p0 91 (.agg [.raw, .raw]) (fun (x11 : Value × Value × Unit) => NewK (.cells #[.nilIface, .nilIface] 91) w10 (fun g12 w13 => StsK (⟨g12, 0, none⟩ : Addr) [x11.1, x11.2.1] w13 (fun w14 => LdK .raw ((⟨g12, 0, none⟩ : Addr).add 0) w14 (fun (x15 : Value) => LdK .raw ((⟨g12, 0, none⟩ : Addr).add 1) w14 (fun (x16 : Value) => RunK Tryz.prog (Instr.buildSlice 167 2 #[(0, x15), (1, x16)]) w14 (.v (.one .slc)) (fun (x17 : Option Addr × Nat × Nat) w18 => K (.slice x17.1 x17.2.1 x17.2.2) w18))))))
  (NewK (.cells #[.nilIface, .nilIface] 91) w10 (fun g19 w20 => StsK (⟨g19, 0, none⟩ : Addr) [.nilIface, .nilIface] w20 (fun w21 => TaK p0 93 (.agg [.str, .raw, .raw]) (fun (x22 : ByteArray × Value × Value × Unit) => NewK (.cells #[.string (⟨#[]⟩ : ByteArray), .nilIface, .nilIface] 93) w21 (fun g23 w24 => StsK (⟨g23, 0, none⟩ : Addr) [.string x22.1, x22.2.1, x22.2.2.1] w24 (fun w25 => LdK .raw ((⟨g23, 0, none⟩ : Addr).add 1) w25 (fun (x26 : Value) => LdK .raw ((⟨g23, 0, none⟩ : Addr).add 2) w25 (fun (x27 : Value) => RunK Tryz.prog (Instr.buildSlice 167 2 #[(0, x26), (1, x27)]) w25 (.v (.one .slc)) (fun (x28 : Option Addr × Nat × Nat) w29 => K (.slice x28.1 x28.2.1 x28.2.2) w29))))))
  (NewK (.cells #[.string (⟨#[]⟩ : ByteArray), .nilIface, .nilIface] 93) w21 (fun g30 w31 => StsK (⟨g30, 0, none⟩ : Addr) [.string (⟨#[]⟩ : ByteArray), .nilIface, .nilIface] w31 (fun w32 => TaK p0 97 (.agg [.raw, .raw]) (fun (x33 : Value × Value × Unit) => NewK (.cells #[.nilIface, .nilIface] 97) w32 (fun g34 w35 => StsK (⟨g34, 0, none⟩ : Addr) [x33.1, x33.2.1] w35 (fun w36 => LdK .raw ((⟨g34, 0, none⟩ : Addr).add 1) w36 (fun (x37 : Value) => RunK Tryz.prog (Instr.buildSlice 167 1 #[(0, x37)]) w36 (.v (.one .slc)) (fun (x38 : Option Addr × Nat × Nat) w39 => K (.slice x38.1 x38.2.1 x38.2.2) w39)))))
  (NewK (.cells #[.nilIface, .nilIface] 97) w32 (fun g40 w41 => StsK (⟨g40, 0, none⟩ : Addr) [.nilIface, .nilIface] w41 (fun w42 => TaK p0 95 (.agg [.int .i64, .raw]) (fun (x43 : Int × Value × Unit) => NewK (.cells #[.int .i64 0, .nilIface] 95) w42 (fun g44 w45 => StsK (⟨g44, 0, none⟩ : Addr) [.int .i64 x43.1, x43.2.1] w45 (fun w46 => LdK .raw ((⟨g44, 0, none⟩ : Addr).add 1) w46 (fun (x47 : Value) => RunK Tryz.prog (Instr.buildSlice 167 1 #[(0, x47)]) w46 (.v (.one .slc)) (fun (x48 : Option Addr × Nat × Nat) w49 => K (.slice x48.1 x48.2.1 x48.2.2) w49)))))
  (NewK (.cells #[.int .i64 0, .nilIface] 95) w42 (fun g50 w51 => StsK (⟨g50, 0, none⟩ : Addr) [.int .i64 0, .nilIface] w51 (fun w52 => TaK p0 99 (.agg [.raw, .raw, .raw]) (fun (x53 : Value × Value × Value × Unit) => NewK (.cells #[.nilIface, .nilIface, .nilIface] 99) w52 (fun g54 w55 => StsK (⟨g54, 0, none⟩ : Addr) [x53.1, x53.2.1, x53.2.2.1] w55 (fun w56 => LdK .raw ((⟨g54, 0, none⟩ : Addr).add 1) w56 (fun (x57 : Value) => LdK .raw ((⟨g54, 0, none⟩ : Addr).add 2) w56 (fun (x58 : Value) => RunK Tryz.prog (Instr.buildSlice 167 2 #[(0, x57), (1, x58)]) w56 (.v (.one .slc)) (fun (x59 : Option Addr × Nat × Nat) w60 => K (.slice x59.1 x59.2.1 x59.2.2) w60))))))
  (NewK (.cells #[.nilIface, .nilIface, .nilIface] 99) w52 (fun g61 w62 => StsK (⟨g61, 0, none⟩ : Addr) [.nilIface, .nilIface, .nilIface] w62 (fun w63 => K (.slice none 0 0) w63))))))))))))))))))
def pl79 : Plan := .auto
theorem e79 (p0 : Value) (w : World) (K : Value → World → Prop) : vcFunc Tryz.prog Tryz.f79 pl79 [p0] w K = C79 p0 w K := by kernel_rfl
theorem c79 (p0 : Value) (w : World) (K : Value → World → Prop) (h : C79 p0 w K) : Ret Tryz.prog 79 #[p0] w K := by
  rw [← e79] at h
  exact vcFunc_sound (by kernel_rfl) Tryz.func79 h

/-- handfast/term.kind -/
def C75 (p0 : Value) (w : World) (K : Value → World → Prop) : Prop :=
  TaK p0 76 (.agg []) (fun (x1 : Unit) => K (.int .i64 1) w)
  (TaK p0 74 (.agg [.str]) (fun (x2 : ByteArray × Unit) => K (.int .i64 2) w)
  (TaK p0 89 (.agg [.raw]) (fun (x3 : Value × Unit) => K (.int .i64 3) w)
  (TaK p0 91 (.agg [.raw, .raw]) (fun (x4 : Value × Value × Unit) => K (.int .i64 4) w)
  (TaK p0 93 (.agg [.str, .raw, .raw]) (fun (x5 : ByteArray × Value × Value × Unit) => K (.int .i64 5) w)
  (TaK p0 97 (.agg [.raw, .raw]) (fun (x6 : Value × Value × Unit) => K (.int .i64 6) w)
  (TaK p0 95 (.agg [.int .i64, .raw]) (fun (x7 : Int × Value × Unit) => K (.int .i64 7) w)
  (TaK p0 99 (.agg [.raw, .raw, .raw]) (fun (x8 : Value × Value × Value × Unit) => K (.int .i64 8) w)
  (K (.int .i64 0) w))))))))
def pl75 : Plan := .auto
theorem e75 (p0 : Value) (w : World) (K : Value → World → Prop) : vcFunc Tryz.prog Tryz.f75 pl75 [p0] w K = C75 p0 w K := by kernel_rfl
theorem c75 (p0 : Value) (w : World) (K : Value → World → Prop) (h : C75 p0 w K) : Ret Tryz.prog 75 #[p0] w K := by
  rw [← e75] at h
  exact vcFunc_sound (by kernel_rfl) Tryz.func75 h

/-- handfast/term.own -/
def C76 (p0 : Value) (w : World) (K : Value → World → Prop) : Prop :=
  TaK p0 74 (.agg [.str]) (fun (x1 : ByteArray × Unit) => NewK (.cells #[.string (⟨#[]⟩ : ByteArray)] 74) w (fun g2 w3 => StsK (⟨g2, 0, none⟩ : Addr) [.string x1.1] w3 (fun w4 => LdK .str ((⟨g2, 0, none⟩ : Addr).add 0) w4 (fun (x5 : ByteArray) => K (.tuple #[.string x5, .int .i64 0]) w4))))
  (NewK (.cells #[.string (⟨#[]⟩ : ByteArray)] 74) w (fun g6 w7 => StsK (⟨g6, 0, none⟩ : Addr) [.string (⟨#[]⟩ : ByteArray)] w7 (fun w8 => TaK p0 93 (.agg [.str, .raw, .raw]) (fun (x9 : ByteArray × Value × Value × Unit) => NewK (.cells #[.string (⟨#[]⟩ : ByteArray), .nilIface, .nilIface] 93) w8 (fun g10 w11 => StsK (⟨g10, 0, none⟩ : Addr) [.string x9.1, x9.2.1, x9.2.2.1] w11 (fun w12 => LdK .str ((⟨g10, 0, none⟩ : Addr).add 0) w12 (fun (x13 : ByteArray) => K (.tuple #[.string x13, .int .i64 0]) w12))))
  (NewK (.cells #[.string (⟨#[]⟩ : ByteArray), .nilIface, .nilIface] 93) w8 (fun g14 w15 => StsK (⟨g14, 0, none⟩ : Addr) [.string (⟨#[]⟩ : ByteArray), .nilIface, .nilIface] w15 (fun w16 => TaK p0 95 (.agg [.int .i64, .raw]) (fun (x17 : Int × Value × Unit) => NewK (.cells #[.int .i64 0, .nilIface] 95) w16 (fun g18 w19 => StsK (⟨g18, 0, none⟩ : Addr) [.int .i64 x17.1, x17.2.1] w19 (fun w20 => DrewK w20 (fun w21 => LdK (.int .i64) ((⟨g18, 0, none⟩ : Addr).add 0) w21 (fun (x22 : Int) => K (.tuple #[.string (⟨#[]⟩ : ByteArray), .int .i64 x22]) w21)))))
  (NewK (.cells #[.int .i64 0, .nilIface] 95) w16 (fun g23 w24 => StsK (⟨g23, 0, none⟩ : Addr) [.int .i64 0, .nilIface] w24 (fun w25 => K (.tuple #[.string (⟨#[]⟩ : ByteArray), .int .i64 0]) w25)))))))))
def pl76 : Plan := (.seq .auto (.seq .auto (.seq .auto (.seq (.seq .auto (.seq .auto (.cond (.seq .still .auto) .auto))) .auto))))
theorem e76 (p0 : Value) (w : World) (K : Value → World → Prop) : vcFunc Tryz.prog Tryz.f76 pl76 [p0] w K = C76 p0 w K := by kernel_rfl
theorem c76 (p0 : Value) (w : World) (K : Value → World → Prop) (h : C76 p0 w K) : Ret Tryz.prog 76 #[p0] w K := by
  rw [← e76] at h
  exact vcFunc_sound (by kernel_rfl) Tryz.func76 h

/-- handfast/term.number -/
def C77 (p0 : Value) (w : World) (K : Value → World → Prop) : Prop :=
  TaK p0 97 (.agg [.raw, .raw]) (fun (x1 : Value × Value × Unit) => NewK (.cells #[.nilIface, .nilIface] 97) w (fun g2 w3 => StsK (⟨g2, 0, none⟩ : Addr) [x1.1, x1.2.1] w3 (fun w4 => LdK .raw ((⟨g2, 0, none⟩ : Addr).add 0) w4 (fun (x5 : Value) => K (.tuple #[x5, .bool true]) w4))))
  (NewK (.cells #[.nilIface, .nilIface] 97) w (fun g6 w7 => StsK (⟨g6, 0, none⟩ : Addr) [.nilIface, .nilIface] w7 (fun w8 => TaK p0 99 (.agg [.raw, .raw, .raw]) (fun (x9 : Value × Value × Value × Unit) => NewK (.cells #[.nilIface, .nilIface, .nilIface] 99) w8 (fun g10 w11 => StsK (⟨g10, 0, none⟩ : Addr) [x9.1, x9.2.1, x9.2.2.1] w11 (fun w12 => LdK .raw ((⟨g10, 0, none⟩ : Addr).add 0) w12 (fun (x13 : Value) => K (.tuple #[x13, .bool true]) w12))))
  (NewK (.cells #[.nilIface, .nilIface, .nilIface] 99) w8 (fun g14 w15 => StsK (⟨g14, 0, none⟩ : Addr) [.nilIface, .nilIface, .nilIface] w15 (fun w16 => K (.tuple #[.nilIface, .bool false]) w16))))))
def pl77 : Plan := .auto
theorem e77 (p0 : Value) (w : World) (K : Value → World → Prop) : vcFunc Tryz.prog Tryz.f77 pl77 [p0] w K = C77 p0 w K := by kernel_rfl
theorem c77 (p0 : Value) (w : World) (K : Value → World → Prop) (h : C77 p0 w K) : Ret Tryz.prog 77 #[p0] w K := by
  rw [← e77] at h
  exact vcFunc_sound (by kernel_rfl) Tryz.func77 h

/-- handfast/term.Size -/
def C117 (p0 : Value) (w : World) (K : Value → World → Prop) : Prop :=
  CallK Tryz.prog 75 #[p0] w (.v (.one (.int .i64))) (fun (x1 : Int) w2 => ifB (x1 == 0)
  (K (.tuple #[.int .i64 0, .int .i64 0]) w2)
  (JoinK (Int × Int × Unit) (fun J3 => CallK Tryz.prog 77 #[p0] w2 (.tup [.one .raw, .one .bool]) (fun (x6 : Value × Bool × Unit) w7 => ifB x6.2.1
  (CallK Tryz.prog 135 #[x6.1] w7 (.tup [.one (.int .i64), .one (.int .i64)]) (fun (x8 : Int × Int × Unit) w9 => J3 (x8.1, x8.2.1, ()) w9))
  (J3 (0, 0, ()) w7)))
  (fun _ s4 w5 => CallK Tryz.prog 79 #[p0] w5 (.v (.one .slc)) (fun (x10 : Option Addr × Nat × Nat) w11 => LoopK (Int × Int × Int × Unit) (fun _ s12 w13 next14 => ifB (decide (s12.2.2.1 < (x10.2.1 : Int)))
  (IdxK x10.1 x10.2.1 s12.2.2.1 1 (fun a15 => LdK .raw a15 w13 (fun (x16 : Value) => CallK Tryz.prog 117 #[x16] w13 (.tup [.one (.int .i64), .one (.int .i64)]) (fun (x17 : Int × Int × Unit) w18 => next14 (IntKind.i64.wrap (s12.1 + x17.1), (if x17.2.1 > s12.2.1 then x17.2.1 else s12.2.1), IntKind.i64.wrap (s12.2.2.1 + 1), ()) w18))))
  (K (.tuple #[.int .i64 (IntKind.i64.wrap (s12.1 + 1)), .int .i64 (IntKind.i64.wrap (s12.2.1 + 1))]) w13))
  (s4.1, s4.2.1, 0, ()) w11))))
def pl117 : Plan := (.seq .auto (.seq .auto (.join [(2, .one (.int .i64)), (3, .one (.int .i64))] .auto (.seq (.seq .auto (.block (.loop [(2, .one (.int .i64)), (3, .one (.int .i64)), (27, .one (.int .i64))] .auto))) .auto))))
theorem e117 (p0 : Value) (w : World) (K : Value → World → Prop) : vcFunc Tryz.prog Tryz.f117 pl117 [p0] w K = C117 p0 w K := by kernel_rfl
theorem c117 (p0 : Value) (w : World) (K : Value → World → Prop) (h : C117 p0 w K) : Ret Tryz.prog 117 #[p0] w K := by
  rw [← e117] at h
  exact vcFunc_sound (by kernel_rfl) Tryz.func117 h

/-- handfast/term.form -/
def C116 (p0 : Value) (w : World) (K : Value → World → Prop) : Prop :=
  CallK Tryz.prog 76 #[p0] w (.tup [.one .str, .one (.int .i64)]) (fun (x1 : ByteArray × Int × Unit) w2 => JoinK (Bool × Unit) (fun J3 => CallK Tryz.prog 75 #[p0] w2 (.v (.one (.int .i64))) (fun (x6 : Int) w7 => CallK Tryz.prog 75 #[.iface 74 (.agg #[.string (⟨#[]⟩ : ByteArray)])] w7 (.v (.one (.int .i64))) (fun (x8 : Int) w9 => ifB (x6 == x8)
  (J3 (true, ()) w9)
  (CallK Tryz.prog 75 #[p0] w9 (.v (.one (.int .i64))) (fun (x10 : Int) w11 => CallK Tryz.prog 75 #[.iface 93 (.agg #[.string (⟨#[]⟩ : ByteArray), .nilIface, .nilIface])] w11 (.v (.one (.int .i64))) (fun (x12 : Int) w13 => J3 ((x10 == x12), ()) w13))))))
  (fun _ s4 w5 => JoinK (Bool × Unit) (fun J14 => CallK Tryz.prog 75 #[p0] w5 (.v (.one (.int .i64))) (fun (x17 : Int) w18 => ifB (x17 == 0)
  (J14 (true, ()) w18)
  (ifB s4.1
  (CallK Tryz.prog 145 #[.string x1.1] w18 (.v (.one .bool)) (fun (x19 : Bool) w20 => ifB (!x19)
  (J14 (true, ()) w20)
  (ifB (decide (x1.2.1 < 0))
  (J14 (true, ()) w20)
  (J14 (decide (x1.2.1 > 10000), ()) w20))))
  (ifB (decide (x1.2.1 < 0))
  (J14 (true, ()) w18)
  (J14 (decide (x1.2.1 > 10000), ()) w18)))))
  (fun _ s15 w16 => ifB s15.1
  (K (.bool false) w16)
  (CallK Tryz.prog 77 #[p0] w16 (.tup [.one .raw, .one .bool]) (fun (x21 : Value × Bool × Unit) w22 => ifB x21.2.1
  (CallK Tryz.prog 73 #[x21.1] w22 (.v (.one (.int .i64))) (fun (x23 : Int) w24 => ifB (x23 == 2)
  (K (.bool false) w24)
  (CallK Tryz.prog 79 #[p0] w24 (.v (.one .slc)) (fun (x25 : Option Addr × Nat × Nat) w26 => CallK Tryz.prog 156 #[.slice x25.1 x25.2.1 x25.2.2, .func (.func 157) #[] #[]] w26 (.v (.one .bool)) (fun (x27 : Bool) w28 => K (.bool (!x27)) w28)))))
  (CallK Tryz.prog 79 #[p0] w22 (.v (.one .slc)) (fun (x29 : Option Addr × Nat × Nat) w30 => CallK Tryz.prog 156 #[.slice x29.1 x29.2.1 x29.2.2, .func (.func 157) #[] #[]] w30 (.v (.one .bool)) (fun (x31 : Bool) w32 => K (.bool (!x31)) w32))))))))
def pl116 : Plan := (.seq .auto (.seq .auto (.join [(5, .one .bool)] .auto (.seq (.join [(45, .one .bool)] .auto .auto) .auto))))
theorem e116 (p0 : Value) (w : World) (K : Value → World → Prop) : vcFunc Tryz.prog Tryz.f116 pl116 [p0] w K = C116 p0 w K := by kernel_rfl
theorem c116 (p0 : Value) (w : World) (K : Value → World → Prop) (h : C116 p0 w K) : Ret Tryz.prog 116 #[p0] w K := by
  rw [← e116] at h
  exact vcFunc_sound (by kernel_rfl) Tryz.func116 h

/-- handfast/term.form$1 -/
def C157 (p0 : Value) (w : World) (K : Value → World → Prop) : Prop :=
  CallK Tryz.prog 116 #[p0] w (.v (.one .bool)) (fun (x1 : Bool) w2 => K (.bool (!x1)) w2)
def pl157 : Plan := .auto
theorem e157 (p0 : Value) (w : World) (K : Value → World → Prop) : vcFunc Tryz.prog Tryz.f157 pl157 [p0] w K = C157 p0 w K := by kernel_rfl
theorem c157 (p0 : Value) (w : World) (K : Value → World → Prop) (h : C157 p0 w K) : Ret Tryz.prog 157 #[p0] w K := by
  rw [← e157] at h
  exact vcFunc_sound (by kernel_rfl) Tryz.func157 h

/-- handfast/term.Labels -/
def C118 (p0 : Value) (w : World) (K : Value → World → Prop) : Prop :=
  JoinK ((Option Addr × Nat × Nat) × Unit) (fun J1 => TaK p0 93 (.agg [.str, .raw, .raw]) (fun (x4 : ByteArray × Value × Value × Unit) => NewK (.cells #[.string (⟨#[]⟩ : ByteArray), .nilIface, .nilIface] 93) w (fun g5 w6 => StsK (⟨g5, 0, none⟩ : Addr) [.string x4.1, x4.2.1, x4.2.2.1] w6 (fun w7 => LdK .str ((⟨g5, 0, none⟩ : Addr).add 0) w7 (fun (x8 : ByteArray) => RunK Tryz.prog (Instr.buildSlice 23 1 #[(0, .string x8)]) w7 (.v (.one .slc)) (fun (x9 : Option Addr × Nat × Nat) w10 => RunK Tryz.prog (Builtin.append_ #[23, 23] 23 #[.slice none 0 0, .slice x9.1 x9.2.1 x9.2.2]) w10 (.v (.one .slc)) (fun (x11 : Option Addr × Nat × Nat) w12 => J1 ((x11.1, x11.2.1, x11.2.2), ()) w12))))))
  (NewK (.cells #[.string (⟨#[]⟩ : ByteArray), .nilIface, .nilIface] 93) w (fun g13 w14 => StsK (⟨g13, 0, none⟩ : Addr) [.string (⟨#[]⟩ : ByteArray), .nilIface, .nilIface] w14 (fun w15 => J1 ((none, 0, 0), ()) w15))))
  (fun _ s2 w3 => CallK Tryz.prog 79 #[p0] w3 (.v (.one .slc)) (fun (x16 : Option Addr × Nat × Nat) w17 => LoopK ((Option Addr × Nat × Nat) × Int × Unit) (fun _ s18 w19 next20 => ifB (decide (s18.2.1 < (x16.2.1 : Int)))
  (IdxK x16.1 x16.2.1 s18.2.1 1 (fun a21 => LdK .raw a21 w19 (fun (x22 : Value) => CallK Tryz.prog 118 #[x22] w19 (.v (.one .slc)) (fun (x23 : Option Addr × Nat × Nat) w24 => RunK Tryz.prog (Builtin.append_ #[23, 23] 23 #[.slice s18.1.1 s18.1.2.1 s18.1.2.2, .slice x23.1 x23.2.1 x23.2.2]) w24 (.v (.one .slc)) (fun (x25 : Option Addr × Nat × Nat) w26 => next20 ((x25.1, x25.2.1, x25.2.2), IntKind.i64.wrap (s18.2.1 + 1), ()) w26)))))
  (K (.slice s18.1.1 s18.1.2.1 s18.1.2.2) w19))
  ((s2.1.1, s2.1.2.1, s2.1.2.2), 0, ()) w17))
def pl118 : Plan := (.seq .auto (.seq .auto (.join [(3, .one .slc)] .auto (.seq (.seq .auto (.block (.loop [(3, .one .slc), (22, .one (.int .i64))] .auto))) .auto))))
theorem e118 (p0 : Value) (w : World) (K : Value → World → Prop) : vcFunc Tryz.prog Tryz.f118 pl118 [p0] w K = C118 p0 w K := by kernel_rfl
theorem c118 (p0 : Value) (w : World) (K : Value → World → Prop) (h : C118 p0 w K) : Ret Tryz.prog 118 #[p0] w K := by
  rw [← e118] at h
  exact vcFunc_sound (by kernel_rfl) Tryz.func118 h

/-- handfast/term.Check -/
def C66 (p0 : Value) (w : World) (K : Value → World → Prop) : Prop :=
  CallK Tryz.prog 116 #[p0] w (.v (.one .bool)) (fun (x1 : Bool) w2 => ifB (!x1)
  (K (.int .i64 2) w2)
  (CallK Tryz.prog 117 #[p0] w2 (.tup [.one (.int .i64), .one (.int .i64)]) (fun (x3 : Int × Int × Unit) w4 => ifB (decide (x3.1 > 60))
  (K (.int .i64 5) w4)
  (ifB (decide (x3.2.1 > 12))
  (K (.int .i64 5) w4)
  (CallK Tryz.prog 118 #[p0] w4 (.v (.one .slc)) (fun (x5 : Option Addr × Nat × Nat) w6 => LoopK (Int × Unit) (fun _ s7 w8 next9 => ifB (decide (s7.1 < (x5.2.1 : Int)))
  (IdxK x5.1 x5.2.1 s7.1 1 (fun a10 => LdK .str a10 w8 (fun (x11 : ByteArray) => SubK x5.1 x5.2.2 0 s7.1 x5.2.2 1 (fun a12 l13 c14 => CallK Tryz.prog 119 #[.slice a12 l13 c14, .string x11] w8 (.v (.one .bool)) (fun (x15 : Bool) w16 => ifB x15
  (K (.int .i64 4) w16)
  (next9 (IntKind.i64.wrap (s7.1 + 1), ()) w16))))))
  (K (.int .i64 0) w8))
  (0, ()) w6))))))
def pl66 : Plan := (.seq .auto (.seq .auto (.seq .auto (.seq .auto (.seq (.seq .auto (.block (.loop [(26, .one (.int .i64))] .auto))) .auto)))))
theorem e66 (p0 : Value) (w : World) (K : Value → World → Prop) : vcFunc Tryz.prog Tryz.f66 pl66 [p0] w K = C66 p0 w K := by kernel_rfl
theorem c66 (p0 : Value) (w : World) (K : Value → World → Prop) (h : C66 p0 w K) : Ret Tryz.prog 66 #[p0] w K := by
  rw [← e66] at h
  exact vcFunc_sound (by kernel_rfl) Tryz.func66 h

/-- slices.ContainsFunc[[]handfast/api.Term,handfast/api.Term] -/
def C156 (p0 : Option Addr) (p0l p0c : Nat) (p1 : Value) (w : World) (K : Value → World → Prop) : Prop :=
  CallK Tryz.prog 177 #[.slice p0 p0l p0c, p1] w (.v (.one (.int .i64))) (fun (x1 : Int) w2 => K (.bool (decide (x1 ≥ 0))) w2)
def pl156 : Plan := .auto
theorem e156 (p0 : Option Addr) (p0l p0c : Nat) (p1 : Value) (w : World) (K : Value → World → Prop) : vcFunc Tryz.prog Tryz.f156 pl156 [.slice p0 p0l p0c, p1] w K = C156 p0 p0l p0c p1 w K := by kernel_rfl
theorem c156 (p0 : Option Addr) (p0l p0c : Nat) (p1 : Value) (w : World) (K : Value → World → Prop) (h : C156 p0 p0l p0c p1 w K) : Ret Tryz.prog 156 #[.slice p0 p0l p0c, p1] w K := by
  rw [← e156] at h
  exact vcFunc_sound (by kernel_rfl) Tryz.func156 h

/-- slices.IndexFunc[[]handfast/api.Term,handfast/api.Term] -/
def C177 (p0 : Option Addr) (p0l p0c : Nat) (p1 : Value) (w : World) (K : Value → World → Prop) : Prop :=
  LoopK (Int × Unit) (fun _ s1 w2 next3 => ifB (decide (s1.1 < (p0l : Int)))
  (IdxK p0 p0l s1.1 1 (fun a4 => LdK .raw a4 w2 (fun (x5 : Value) => callV Tryz.prog p1 [x5] (.v (.one .bool)) w2 (fun (x6 : Bool) w7 => ifB x6
  (K (.int .i64 s1.1) w7)
  (next3 (IntKind.i64.wrap (s1.1 + 1), ()) w7)))))
  (K (.int .i64 (-1)) w2))
  (0, ()) w
def pl177 : Plan := (.seq .auto (.seq (.seq .auto (.block (.loop [(8, .one (.int .i64))] .auto))) .auto))
theorem e177 (p0 : Option Addr) (p0l p0c : Nat) (p1 : Value) (w : World) (K : Value → World → Prop) : vcFunc Tryz.prog Tryz.f177 pl177 [.slice p0 p0l p0c, p1] w K = C177 p0 p0l p0c p1 w K := by kernel_rfl
theorem c177 (p0 : Option Addr) (p0l p0c : Nat) (p1 : Value) (w : World) (K : Value → World → Prop) (h : C177 p0 p0l p0c p1 w K) : Ret Tryz.prog 177 #[.slice p0 p0l p0c, p1] w K := by
  rw [← e177] at h
  exact vcFunc_sound (by kernel_rfl) Tryz.func177 h

/-- slices.Contains[[]string,string] -/
def C119 (p0 : Option Addr) (p0l p0c : Nat) (p1 : ByteArray) (w : World) (K : Value → World → Prop) : Prop :=
  CallK Tryz.prog 158 #[.slice p0 p0l p0c, .string p1] w (.v (.one (.int .i64))) (fun (x1 : Int) w2 => K (.bool (decide (x1 ≥ 0))) w2)
def pl119 : Plan := .auto
theorem e119 (p0 : Option Addr) (p0l p0c : Nat) (p1 : ByteArray) (w : World) (K : Value → World → Prop) : vcFunc Tryz.prog Tryz.f119 pl119 [.slice p0 p0l p0c, .string p1] w K = C119 p0 p0l p0c p1 w K := by kernel_rfl
theorem c119 (p0 : Option Addr) (p0l p0c : Nat) (p1 : ByteArray) (w : World) (K : Value → World → Prop) (h : C119 p0 p0l p0c p1 w K) : Ret Tryz.prog 119 #[.slice p0 p0l p0c, .string p1] w K := by
  rw [← e119] at h
  exact vcFunc_sound (by kernel_rfl) Tryz.func119 h

/-- slices.Index[[]string,string] -/
def C158 (p0 : Option Addr) (p0l p0c : Nat) (p1 : ByteArray) (w : World) (K : Value → World → Prop) : Prop :=
  LoopK (Int × Unit) (fun _ s1 w2 next3 => ifB (decide (s1.1 < (p0l : Int)))
  (IdxK p0 p0l s1.1 1 (fun a4 => LdK .str a4 w2 (fun (x5 : ByteArray) => ifB (p1.toList == x5.toList)
  (K (.int .i64 s1.1) w2)
  (next3 (IntKind.i64.wrap (s1.1 + 1), ()) w2))))
  (K (.int .i64 (-1)) w2))
  (0, ()) w
def pl158 : Plan := (.seq .auto (.seq (.seq .auto (.block (.loop [(8, .one (.int .i64))] .auto))) .auto))
theorem e158 (p0 : Option Addr) (p0l p0c : Nat) (p1 : ByteArray) (w : World) (K : Value → World → Prop) : vcFunc Tryz.prog Tryz.f158 pl158 [.slice p0 p0l p0c, .string p1] w K = C158 p0 p0l p0c p1 w K := by kernel_rfl
theorem c158 (p0 : Option Addr) (p0l p0c : Nat) (p1 : ByteArray) (w : World) (K : Value → World → Prop) (h : C158 p0 p0l p0c p1 w K) : Ret Tryz.prog 158 #[.slice p0 p0l p0c, .string p1] w K := by
  rw [← e158] at h
  exact vcFunc_sound (by kernel_rfl) Tryz.func158 h

end Go.Proofs.YtlhbfdakceipkaaGreatDoor
