/-
  The conditions of some functions, written by a program of this session, each tied to the translation by the kernel.
-/
import Derived.Test.YtejhjjafmobmbaaVcMem
import Derived.Test.YtejhjjafmobmbaaProg
import Derived.KernelRfl
namespace Go.Proofs.Ytejhjjafmobmbaa
open Vc
set_option maxRecDepth 100000
set_option linter.unusedVariables false
/-- handfast/handfastlaw01.RunesJoin -/
def C8 (p0 : Option Addr) (p0l p0c : Nat) (p1 : Option Addr) (p1l p1c : Nat) (w : World) (K : Value → World → Prop) : Prop :=
  LoopK (ByteArray × Int × (Option Addr × Nat × Nat) × Int × Unit) (fun _ s1 w2 next3 => JoinK (Bool × Unit) (fun J4 => ifB (decide (s1.2.2.2.1 < (p0l : Int)))
  (J4 (decide (s1.2.2.2.1 < 6), ()) w2)
  (J4 (false, ()) w2))
  (fun _ s5 w6 => ifB s5.1
  (JoinK (Int × Unit) (fun J7 => ifB (decide (s1.2.2.2.1 < (p1l : Int)))
  (IdxK p1 p1l s1.2.2.2.1 1 (fun a10 => LdK (.int .i64) a10 w6 (fun (x11 : Int) => CallK Try.prog 23 #[.int .i64 x11, .int .i64 4] w6 (.v (.one (.int .i64))) (fun (x12 : Int) w13 => J7 (x12, ()) w13))))
  (J7 (0, ()) w6))
  (fun _ s8 w9 => LoopK (ByteArray × Int × Int × Unit) (fun _ s14 w15 next16 => ifB (decide (s14.2.2.1 < s8.1))
  (CatK s14.1 (⟨#[32]⟩ : ByteArray) (next16 ((s14.1 ++ (⟨#[32]⟩ : ByteArray)), IntKind.i64.wrap (s14.2.1 + 1), IntKind.i64.wrap (s14.2.2.1 + 1), ()) w15))
  (IdxK p0 p0l s1.2.2.2.1 1 (fun a17 => LdK .str a17 w15 (fun (x18 : ByteArray) => CallK Try.prog 33 #[.string x18] w15 (.v (.one .str)) (fun (x19 : ByteArray) w20 => RunK Try.prog (Instr.buildSlice 39 1 #[(0, .agg #[.string x19, .int .i64 s14.2.1])]) w20 (.v (.one .slc)) (fun (x21 : Option Addr × Nat × Nat) w22 => RunK Try.prog (Builtin.append_ #[39, 39] 39 #[.slice s1.2.2.1.1 s1.2.2.1.2.1 s1.2.2.1.2.2, .slice x21.1 x21.2.1 x21.2.2]) w22 (.v (.one .slc)) (fun (x23 : Option Addr × Nat × Nat) w24 => CatK s14.1 x19 (RunK Try.prog (Instr.range 9 (.string x19)) w24 (.v (.one .ptr)) (fun (x25 : Option Addr) w26 => LoopK (Int × Unit) (fun _ s27 w28 next29 => NextK x25 w28 (fun x30 x31 w32 => next29 (IntKind.i64.wrap (s27.1 + 1), ()) w32)
  (NzK 3 (SubsK (⟨#[40, 41, 44]⟩ : ByteArray) (s8.1.tmod 3) ((⟨#[40, 41, 44]⟩ : ByteArray).size) (fun x33 => SubsK x33 0 1 (fun x34 => RunK Try.prog (Instr.buildSlice 39 1 #[(0, .agg #[.string x34, .int .i64 s27.1])]) w28 (.v (.one .slc)) (fun (x35 : Option Addr × Nat × Nat) w36 => RunK Try.prog (Builtin.append_ #[39, 39] 39 #[.slice x23.1 x23.2.1 x23.2.2, .slice x35.1 x35.2.1 x35.2.2]) w36 (.v (.one .slc)) (fun (x37 : Option Addr × Nat × Nat) w38 => CatK (s14.1 ++ x19) x34 (next3 (((s14.1 ++ x19) ++ x34), IntKind.i64.wrap (s27.1 + 1), (x37.1, x37.2.1, x37.2.2), IntKind.i64.wrap (s1.2.2.2.1 + 1), ()) w38))))))))
  (s14.2.1, ()) w26)))))))))
  (s1.1, s1.2.1, 0, ()) w9))
  (CatK s1.1 (⟨#[32, 32]⟩ : ByteArray) (CallK Try.prog 34 #[.string (s1.1 ++ (⟨#[32, 32]⟩ : ByteArray))] w6 (.tup [.one .slc, .one (.int .i64)]) (fun (x39 : (Option Addr × Nat × Nat) × Int × Unit) w40 => ifB (x39.2.1 == 0)
  (CallK Try.prog 35 #[.slice x39.1.1 x39.1.2.1 x39.1.2.2, .slice s1.2.2.1.1 s1.2.2.1.2.1 s1.2.2.1.2.2] w40 (.v (.one .bool)) (fun (x41 : Bool) w42 => ifB x41
  (CallK Try.prog 36 #[] w42 (.v (.one .bool)) (fun (x43 : Bool) w44 => K (.bool x43) w44))
  (K (.bool false) w42)))
  (K (.bool false) w40))))))
  ((⟨#[]⟩ : ByteArray), 1, (none, 0, 0), 0, ()) w
def pl8 : Plan := (.seq .auto (.seq .auto (.seq .auto (.seq .auto (.seq (.seq .auto (.block (.loop [(5, .one .str), (6, .one (.int .i64)), (7, .one .slc), (8, .one (.int .i64))] (.seq (.join [(22, .one .bool)] .auto .auto) (.seq (.block (.seq .auto (.join [(9, .one (.int .i64))] .auto (.seq (.seq .auto (.block (.loop [(5, .one .str), (6, .one (.int .i64)), (10, .one (.int .i64))] .auto))) (.seq .auto (.seq .auto (.seq .auto (.seq (.seq .auto (.block (.loop [(6, .one (.int .i64))] .auto))) .auto)))))))) .auto))))) .auto)))))
theorem e8 (p0 : Option Addr) (p0l p0c : Nat) (p1 : Option Addr) (p1l p1c : Nat) (w : World) (K : Value → World → Prop) : vcFunc Try.prog Try.f8 pl8 [.slice p0 p0l p0c, .slice p1 p1l p1c] w K = C8 p0 p0l p0c p1 p1l p1c w K := by kernel_rfl
theorem c8 (p0 : Option Addr) (p0l p0c : Nat) (p1 : Option Addr) (p1l p1c : Nat) (w : World) (K : Value → World → Prop) (h : C8 p0 p0l p0c p1 p1l p1c w K) : Ret Try.prog 8 #[.slice p0 p0l p0c, .slice p1 p1l p1c] w K := by
  rw [← e8] at h
  exact vcFunc_sound (by kernel_rfl) Try.func8 h

end Go.Proofs.Ytejhjjafmobmbaa
