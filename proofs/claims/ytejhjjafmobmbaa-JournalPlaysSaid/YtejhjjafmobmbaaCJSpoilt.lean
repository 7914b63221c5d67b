/-
  The conditions of some functions, written by a program of this session, each tied to the translation by the kernel.
-/
import Derived.Test.YtejhjjafmobmbaaVcMem
import Derived.Test.YtejhjjafmobmbaaProg
import Derived.KernelRfl
namespace Go.Proofs.Ytejhjjafmobmbaa
open Vc
set_option maxRecDepth 100000
set_option linter.unusedVariables false
/-- handfast/handfastlaw18.JournalSpoilt -/
def C17 (p0 : Option Addr) (p0l p0c : Nat) (p1 : Int) (p2 : Int) (w : World) (K : Value → World → Prop) : Prop :=
  CallK Try.prog 39 #[.int .i64 4000] w (.v (.one .ptr)) (fun (x1 : Option Addr) w2 => ifB (Option.isNone x1)
  (CallK Try.prog 64 #[] w2 (.v (.one .bool)) (fun (x3 : Bool) w4 => K (.bool x3) w4))
  (ifB (p2 == 0)
  (CallK Try.prog 64 #[] w2 (.v (.one .bool)) (fun (x5 : Bool) w6 => K (.bool x5) w6))
  (CallK Try.prog 65 #[.pointer x1] w2 (.tup [.one .ptr, .one (.int .i64)]) (fun (x7 : Option Addr × Int × Unit) w8 => ifB (x7.2.1 != 0)
  (K (.bool false) w8)
  (ifB (Option.isNone x7.1)
  (K (.bool false) w8)
  (LoopK ((Option Addr × Nat × Nat) × (Option Addr × Nat × Nat) × Int × Unit) (fun _ s9 w10 next11 => JoinK (Bool × Unit) (fun J12 => ifB (decide (s9.2.2.1 < (p0l : Int)))
  (J12 (decide (s9.2.2.1 < 8), ()) w10)
  (J12 (false, ()) w10))
  (fun _ s13 w14 => ifB s13.1
  (IdxK p0 p0l s9.2.2.1 1 (fun a15 => LdK .slc a15 w14 (fun (x16 : Option Addr × Nat × Nat) => CallK Try.prog 40 #[.slice x16.1 x16.2.1 x16.2.2, .int .i64 40] w14 (.v (.one .slc)) (fun (x17 : Option Addr × Nat × Nat) w18 => CallK Try.prog 66 #[.pointer x7.1, .slice x17.1 x17.2.1 x17.2.2] w18 (.v (.one (.int .i64))) (fun (x19 : Int) w20 => ifB (x19 != 0)
  (K (.bool false) w20)
  (RunK Try.prog (Instr.buildSlice 79 1 #[(0, .slice x17.1 x17.2.1 x17.2.2)]) w20 (.v (.one .slc)) (fun (x21 : Option Addr × Nat × Nat) w22 => RunK Try.prog (Builtin.append_ #[79, 79] 79 #[.slice s9.2.1.1 s9.2.1.2.1 s9.2.1.2.2, .slice x21.1 x21.2.1 x21.2.2]) w22 (.v (.one .slc)) (fun (x23 : Option Addr × Nat × Nat) w24 => CallK Try.prog 46 #[.pointer x1] w24 (.v (.one .slc)) (fun (x25 : Option Addr × Nat × Nat) w26 => RunK Try.prog (Instr.buildSlice 22 1 #[(0, .int .i64 (x25.2.1 : Int))]) w26 (.v (.one .slc)) (fun (x27 : Option Addr × Nat × Nat) w28 => RunK Try.prog (Builtin.append_ #[22, 22] 22 #[.slice s9.1.1 s9.1.2.1 s9.1.2.2, .slice x27.1 x27.2.1 x27.2.2]) w28 (.v (.one .slc)) (fun (x29 : Option Addr × Nat × Nat) w30 => next11 ((x29.1, x29.2.1, x29.2.2), (x23.1, x23.2.1, x23.2.2), IntKind.i64.wrap (s9.2.2.1 + 1), ()) w30)))))))))))
  (CallK Try.prog 46 #[.pointer x1] w14 (.v (.one .slc)) (fun (x31 : Option Addr × Nat × Nat) w32 => ifB ((x31.2.1 : Int) == 0)
  (CallK Try.prog 64 #[] w32 (.v (.one .bool)) (fun (x33 : Bool) w34 => K (.bool x33) w34))
  (CallK Try.prog 23 #[.int .i64 p1, .int .i64 (x31.2.1 : Int)] w32 (.v (.one (.int .i64))) (fun (x35 : Int) w36 => LoopK (Int × Unit) (fun _ s37 w38 next39 => JoinK (Bool × Unit) (fun J40 => ifB (decide (s37.1 < (s9.1.2.1 : Int)))
  (IdxK s9.1.1 s9.1.2.1 s37.1 1 (fun a43 => LdK (.int .i64) a43 w38 (fun (x44 : Int) => J40 (decide (x44 ≤ x35), ()) w38)))
  (J40 (false, ()) w38))
  (fun _ s41 w42 => ifB s41.1
  (next39 (IntKind.i64.wrap (s37.1 + 1), ()) w42)
  (JoinK (Int × Unit) (fun J45 => ifB (decide (s37.1 > 0))
  (IdxK s9.1.1 s9.1.2.1 (IntKind.i64.wrap (s37.1 - 1)) 1 (fun a48 => LdK (.int .i64) a48 w42 (fun (x49 : Int) => J45 (x49, ()) w42)))
  (J45 (0, ()) w42))
  (fun _ s46 w47 => ifB (decide (x35 < (IntKind.i64.wrap (s46.1 + 2))))
  (CallK Try.prog 64 #[] w47 (.v (.one .bool)) (fun (x50 : Bool) w51 => K (.bool x50) w51))
  (IdxK x31.1 x31.2.1 x35 1 (fun a52 => LdK (.int .u8) a52 w47 (fun (x53 : Int) => IdxK x31.1 x31.2.1 x35 1 (fun a54 => StK a54 (.int .u8 (IntKind.u8.wrap ((BitVec.ofInt 8 x53 ^^^ BitVec.ofInt 8 p2).toNat : Int))) w47 (fun w55 => CallK Try.prog 39 #[.int .i64 4000] w55 (.v (.one .ptr)) (fun (x56 : Option Addr) w57 => ifB (Option.isNone x56)
  (K (.bool false) w57)
  (CallK Try.prog 41 #[.pointer x56, .slice x31.1 x31.2.1 x31.2.2] w57 (.v (.one (.int .i64))) (fun (x58 : Int) w59 => ifB (x58 != 0)
  (K (.bool false) w59)
  (CallK Try.prog 65 #[.pointer x56] w59 (.tup [.one .ptr, .one (.int .i64)]) (fun (x60 : Option Addr × Int × Unit) w61 => RegK w61 (fun C62 => ifB (x60.2.1 != 0)
  (SkipK C62 8 (SkipK C62 12 (SkipK C62 17 ((∀ w63, C62 (mem [8, 12, 17]) w63 → K (.bool false) w63)))))
  (ifB (Option.isNone x60.1)
  (SkipK C62 8 (SkipK C62 12 (SkipK C62 17 ((∀ w64, C62 (mem [8, 12, 17]) w64 → K (.bool false) w64)))))
  (AnyK C62 8 [] (.v (.one .slc)) (fun w66 k67 => CallK Try.prog 68 #[.pointer x60.1] w66 (.v (.one .slc)) (fun (x68 : Option Addr × Nat × Nat) w69 => k67 (.slice x68.1 x68.2.1 x68.2.2) w69))
  (fun (x65 : Option Addr × Nat × Nat) => SubK s9.2.1.1 s9.2.1.2.2 0 s37.1 s9.2.1.2.2 1 (fun a70 l71 c72 => AnyK C62 12 [8] (.v (.one .bool)) (fun w74 k75 => CallK Try.prog 67 #[.slice x65.1 x65.2.1 x65.2.2, .slice a70 l71 c72] w74 (.v (.one .bool)) (fun (x76 : Bool) w77 => k75 (.bool x76) w77))
  (fun (x73 : Bool) => ifB (!x73)
  (SkipK C62 17 ((∀ w78, C62 (mem [8, 12, 17]) w78 → K (.bool false) w78)))
  (AnyK C62 17 [8, 12] (.v (.one .slc)) (fun w80 k81 => CallK Try.prog 46 #[.pointer x56] w80 (.v (.one .slc)) (fun (x82 : Option Addr × Nat × Nat) w83 => k81 (.slice x82.1 x82.2.1 x82.2.2) w83))
  (fun (x79 : Option Addr × Nat × Nat) => (∀ w84, C62 (mem [8, 12, 17]) w84 → ifB ((x79.2.1 : Int) != s46.1)
  (K (.bool false) w84)
  (RunK Try.prog (Instr.buildSlice 53 4 #[(0, .int .u8 109), (1, .int .u8 111), (2, .int .u8 114), (3, .int .u8 101)]) w84 (.v (.one .slc)) (fun (x85 : Option Addr × Nat × Nat) w86 => RunK Try.prog (convert 53 53 (.slice x85.1 x85.2.1 x85.2.2)) w86 (.v (.one .slc)) (fun (x87 : Option Addr × Nat × Nat) w88 => CallK Try.prog 66 #[.pointer x60.1, .slice x87.1 x87.2.1 x87.2.2] w88 (.v (.one (.int .i64))) (fun (x89 : Int) w90 => ifB (x89 == 0)
  (CallK Try.prog 68 #[.pointer x60.1] w90 (.v (.one .slc)) (fun (x91 : Option Addr × Nat × Nat) w92 => ifB ((x91.2.1 : Int) == (IntKind.i64.wrap (s37.1 + 1)))
  (CallK Try.prog 64 #[] w92 (.v (.one .bool)) (fun (x93 : Bool) w94 => K (.bool x93) w94))
  (K (.bool false) w92)))
  (K (.bool false) w90))))))))))))))))))))))))))))
  (0, ()) w36))))))
  ((none, 0, 0), (none, 0, 0), 0, ()) w8))))))
def pl17 : Plan := (.seq .auto (.seq .auto (.seq .auto (.seq .auto (.seq .auto (.seq .auto (.seq .auto (.seq (.seq .auto (.block (.loop [(10, .one .slc), (11, .one .slc), (12, .one (.int .i64))] (.seq (.join [(45, .one .bool)] .auto .auto) .auto)))) (.seq .auto (.seq .auto (.seq .auto (.seq .auto (.seq (.block (.loop [(15, .one (.int .i64))] (.seq (.join [(88, .one .bool)] .auto .auto) .auto))) (.seq .auto (.join [(16, .one (.int .i64))] .auto (.seq .auto (.seq .auto (.seq .auto (.seq .auto (.seq .auto (.seq (.seq (.any [(8, .v (.one .slc)), (12, .v (.one .bool)), (17, .v (.one .slc))]) .auto) .auto)))))))))))))))))))))
theorem e17 (p0 : Option Addr) (p0l p0c : Nat) (p1 : Int) (p2 : Int) (w : World) (K : Value → World → Prop) : vcFunc Try.prog Try.f17 pl17 [.slice p0 p0l p0c, .int .i64 p1, .int .u8 p2] w K = C17 p0 p0l p0c p1 p2 w K := by kernel_rfl
theorem c17 (p0 : Option Addr) (p0l p0c : Nat) (p1 : Int) (p2 : Int) (w : World) (K : Value → World → Prop) (h : C17 p0 p0l p0c p1 p2 w K) : Ret Try.prog 17 #[.slice p0 p0l p0c, .int .i64 p1, .int .u8 p2] w K := by
  rw [← e17] at h
  exact vcFunc_sound (by kernel_rfl) Try.func17 h

end Go.Proofs.Ytejhjjafmobmbaa
