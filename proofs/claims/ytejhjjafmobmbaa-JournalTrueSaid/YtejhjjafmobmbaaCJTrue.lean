/-
  The conditions of some functions, written by a program of this session, each tied to the translation by the kernel.
-/
import Derived.Test.YtejhjjafmobmbaaVcMem
import Derived.Test.YtejhjjafmobmbaaProg
import Derived.KernelRfl
namespace Go.Proofs.Ytejhjjafmobmbaa
open Vc
set_option maxRecDepth 100000
set_option linter.unusedVariables false
/-- handfast/handfastlaw18.JournalTrue -/
def C19 (p0 : Option Addr) (p0l p0c : Nat) (p1 : Option Addr) (p1l p1c : Nat) (p2 : Option Addr) (p2l p2c : Nat) (p3 : Option Addr) (p3l p3c : Nat) (w : World) (K : Value → World → Prop) : Prop :=
  CallK Try.prog 39 #[.int .i64 4000] w (.v (.one .ptr)) (fun (x1 : Option Addr) w2 => ifB (Option.isNone x1)
  (K (.bool false) w2)
  (LoopK ((Option Addr × Nat × Nat) × Int × Int × Unit) (fun _ s3 w4 next5 => ifB (decide (s3.2.2.1 ≤ (p1l : Int)))
  (ifB (decide (s3.2.2.1 < 6))
  (CallK Try.prog 65 #[.pointer x1] w4 (.tup [.one .ptr, .one (.int .i64)]) (fun (x6 : Option Addr × Int × Unit) w7 => ifB (x6.2.1 != 0)
  (K (.bool false) w7)
  (ifB (Option.isNone x6.1)
  (K (.bool false) w7)
  (CallK Try.prog 68 #[.pointer x6.1] w7 (.v (.one .slc)) (fun (x8 : Option Addr × Nat × Nat) w9 => CallK Try.prog 67 #[.slice x8.1 x8.2.1 x8.2.2, .slice s3.1.1 s3.1.2.1 s3.1.2.2] w9 (.v (.one .bool)) (fun (x10 : Bool) w11 => ifB (!x10)
  (K (.bool false) w11)
  (JoinK (Unit) (fun J12 => ifB (decide (s3.2.2.1 < (p1l : Int)))
  (IdxK p1 p1l s3.2.2.1 1 (fun a15 => LdK (.int .i64) a15 w11 (fun (x16 : Int) => CallK Try.prog 23 #[.int .i64 x16, .int .i64 9] w11 (.v (.one (.int .i64))) (fun (x17 : Int) w18 => CallK Try.prog 52 #[.pointer x1, .int .i64 x17] w18 (.tup []) (fun (x19 : Unit) w20 => J12 (()) w20)))))
  (J12 (()) w11))
  (fun _ s13 w14 => JoinK ((Option Addr × Nat × Nat) × Int × Bool × Unit) (fun J21 => LoopK ((Option Addr × Nat × Nat) × Int × Bool × Unit) (fun _ s24 w25 next26 => JoinK (Bool × Unit) (fun J27 => ifB (decide (s24.2.1 < (p0l : Int)))
  (J27 (decide (s24.2.1 < 16), ()) w25)
  (J27 (false, ()) w25))
  (fun _ s28 w29 => ifB s28.1
  (IdxK p0 p0l s24.2.1 1 (fun a30 => LdK .slc a30 w29 (fun (x31 : Option Addr × Nat × Nat) => CallK Try.prog 40 #[.slice x31.1 x31.2.1 x31.2.2, .int .i64 60] w29 (.v (.one .slc)) (fun (x32 : Option Addr × Nat × Nat) w33 => CallK Try.prog 66 #[.pointer x6.1, .slice x32.1 x32.2.1 x32.2.2] w33 (.v (.one (.int .i64))) (fun (x34 : Int) w35 => ifB (x34 == 11)
  (J21 ((s24.1.1, s24.1.2.1, s24.1.2.2), s24.2.1, true, ()) w35)
  (ifB (x34 != 0)
  (K (.bool false) w35)
  (IdxK p0 p0l s24.2.1 1 (fun a36 => LdK .slc a36 w35 (fun (x37 : Option Addr × Nat × Nat) => CallK Try.prog 40 #[.slice x37.1 x37.2.1 x37.2.2, .int .i64 60] w35 (.v (.one .slc)) (fun (x38 : Option Addr × Nat × Nat) w39 => RunK Try.prog (Instr.buildSlice 79 1 #[(0, .slice x38.1 x38.2.1 x38.2.2)]) w39 (.v (.one .slc)) (fun (x40 : Option Addr × Nat × Nat) w41 => RunK Try.prog (Builtin.append_ #[79, 79] 79 #[.slice s24.1.1 s24.1.2.1 s24.1.2.2, .slice x40.1 x40.2.1 x40.2.2]) w41 (.v (.one .slc)) (fun (x42 : Option Addr × Nat × Nat) w43 => next26 ((x42.1, x42.2.1, x42.2.2), IntKind.i64.wrap (s24.2.1 + 1), s24.2.2.1, ()) w43))))))))))))
  (J21 ((s24.1.1, s24.1.2.1, s24.1.2.2), s24.2.1, s24.2.2.1, ()) w29)))
  ((s3.1.1, s3.1.2.1, s3.1.2.2), s3.2.1, false, ()) w14)
  (fun _ s22 w23 => JoinK (Int × Unit) (fun J44 => ifB (decide (s3.2.2.1 < (p2l : Int)))
  (IdxK p2 p2l s3.2.2.1 1 (fun a47 => LdK (.int .i64) a47 w23 (fun (x48 : Int) => J44 (x48, ()) w23)))
  (J44 (0, ()) w23))
  (fun _ s45 w46 => JoinK (Int × Unit) (fun J49 => ifB (decide (s3.2.2.1 < (p3l : Int)))
  (IdxK p3 p3l s3.2.2.1 1 (fun a52 => LdK (.int .u8) a52 w46 (fun (x53 : Int) => J49 (x53, ()) w46)))
  (J49 (0, ()) w46))
  (fun _ s50 w51 => CallK Try.prog 43 #[.pointer x1, .int .i64 s45.1, .int .u8 s50.1] w51 (.tup []) (fun (x54 : Unit) w55 => CallK Try.prog 65 #[.pointer x1] w55 (.tup [.one .ptr, .one (.int .i64)]) (fun (x56 : Option Addr × Int × Unit) w57 => ifB (x56.2.1 != 0)
  (K (.bool false) w57)
  (ifB (Option.isNone x56.1)
  (K (.bool false) w57)
  (CallK Try.prog 68 #[.pointer x56.1] w57 (.v (.one .slc)) (fun (x58 : Option Addr × Nat × Nat) w59 => ifB s22.2.2.1
  (ifB ((x58.2.1 : Int) == (IntKind.i64.wrap ((s22.1.2.1 : Int) + 1)))
  (IdxK p0 p0l s22.2.1 1 (fun a60 => LdK .slc a60 w59 (fun (x61 : Option Addr × Nat × Nat) => CallK Try.prog 40 #[.slice x61.1 x61.2.1 x61.2.2, .int .i64 60] w59 (.v (.one .slc)) (fun (x62 : Option Addr × Nat × Nat) w63 => RunK Try.prog (Instr.buildSlice 79 1 #[(0, .slice x62.1 x62.2.1 x62.2.2)]) w63 (.v (.one .slc)) (fun (x64 : Option Addr × Nat × Nat) w65 => RunK Try.prog (Builtin.append_ #[79, 79] 79 #[.slice s22.1.1 s22.1.2.1 s22.1.2.2, .slice x64.1 x64.2.1 x64.2.2]) w65 (.v (.one .slc)) (fun (x66 : Option Addr × Nat × Nat) w67 => CallK Try.prog 68 #[.pointer x56.1] w67 (.v (.one .slc)) (fun (x68 : Option Addr × Nat × Nat) w69 => CallK Try.prog 67 #[.slice x68.1 x68.2.1 x68.2.2, .slice x66.1 x66.2.1 x66.2.2] w69 (.v (.one .bool)) (fun (x70 : Bool) w71 => ifB (!x70)
  (K (.bool false) w71)
  (next5 ((x66.1, x66.2.1, x66.2.2), IntKind.i64.wrap (s22.2.1 + 1), IntKind.i64.wrap (s3.2.2.1 + 1), ()) w71)))))))))
  (CallK Try.prog 68 #[.pointer x56.1] w59 (.v (.one .slc)) (fun (x72 : Option Addr × Nat × Nat) w73 => CallK Try.prog 67 #[.slice x72.1 x72.2.1 x72.2.2, .slice s22.1.1 s22.1.2.1 s22.1.2.2] w73 (.v (.one .bool)) (fun (x74 : Bool) w75 => ifB (!x74)
  (K (.bool false) w75)
  (next5 ((s22.1.1, s22.1.2.1, s22.1.2.2), s22.2.1, IntKind.i64.wrap (s3.2.2.1 + 1), ()) w75)))))
  (CallK Try.prog 68 #[.pointer x56.1] w59 (.v (.one .slc)) (fun (x76 : Option Addr × Nat × Nat) w77 => CallK Try.prog 67 #[.slice x76.1 x76.2.1 x76.2.2, .slice s22.1.1 s22.1.2.1 s22.1.2.2] w77 (.v (.one .bool)) (fun (x78 : Bool) w79 => ifB (!x78)
  (K (.bool false) w79)
  (next5 ((s22.1.1, s22.1.2.1, s22.1.2.2), s22.2.1, IntKind.i64.wrap (s3.2.2.1 + 1), ()) w79))))))))))))))))))))
  (CallK Try.prog 64 #[] w4 (.v (.one .bool)) (fun (x80 : Bool) w81 => K (.bool x80) w81)))
  (CallK Try.prog 64 #[] w4 (.v (.one .bool)) (fun (x82 : Bool) w83 => K (.bool x82) w83)))
  ((none, 0, 0), 0, 0, ()) w2))
def pl19 : Plan := (.seq .auto (.seq .auto (.seq .auto (.seq .auto (.seq .auto (.seq (.seq .auto (.block (.loop [(10, .one .slc), (11, .one (.int .i64)), (12, .one (.int .i64))] (.seq .auto (.seq (.block (.seq .auto (.seq .auto (.join [] .auto (.seq .auto (.join [(10, .one .slc), (11, .one (.int .i64)), (15, .one .bool)] (.block (.loop [(10, .one .slc), (11, .one (.int .i64)), (15, .one .bool)] (.seq (.join [(70, .one .bool)] .auto .auto) .auto))) (.seq .auto (.join [(17, .one (.int .i64))] .auto (.join [(18, .one (.int .u8))] .auto .auto))))))))) .auto))))) .auto))))))
theorem e19 (p0 : Option Addr) (p0l p0c : Nat) (p1 : Option Addr) (p1l p1c : Nat) (p2 : Option Addr) (p2l p2c : Nat) (p3 : Option Addr) (p3l p3c : Nat) (w : World) (K : Value → World → Prop) : vcFunc Try.prog Try.f19 pl19 [.slice p0 p0l p0c, .slice p1 p1l p1c, .slice p2 p2l p2c, .slice p3 p3l p3c] w K = C19 p0 p0l p0c p1 p1l p1c p2 p2l p2c p3 p3l p3c w K := by kernel_rfl
theorem c19 (p0 : Option Addr) (p0l p0c : Nat) (p1 : Option Addr) (p1l p1c : Nat) (p2 : Option Addr) (p2l p2c : Nat) (p3 : Option Addr) (p3l p3c : Nat) (w : World) (K : Value → World → Prop) (h : C19 p0 p0l p0c p1 p1l p1c p2 p2l p2c p3 p3l p3c w K) : Ret Try.prog 19 #[.slice p0 p0l p0c, .slice p1 p1l p1c, .slice p2 p2l p2c, .slice p3 p3l p3c] w K := by
  rw [← e19] at h
  exact vcFunc_sound (by kernel_rfl) Try.func19 h

end Go.Proofs.Ytejhjjafmobmbaa
