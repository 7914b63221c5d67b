/-
  The conditions of some functions, written by a program of this session, each tied to the translation by the kernel.
-/
import Derived.Test.YtejhjjafmobmbaaVcMem
import Derived.Test.YtejhjjafmobmbaaProg
import Derived.KernelRfl
namespace Go.Proofs.Ytejhjjafmobmbaa
open Vc
set_option maxRecDepth 100000
set_option linter.unusedVariables false
/-- handfast/handfastlaw01.RunesBad -/
def C9 (p0 : ByteArray) (p1 : Int) (p2 : ByteArray) (w : World) (K : Value → World → Prop) : Prop :=
  CallK Try.prog 33 #[.string p0] w (.v (.one .str)) (fun (x1 : ByteArray) w2 => CatK (⟨#[230, 176, 180, 195, 169]⟩ : ByteArray) x1 (RunK Try.prog (Instr.range 9 (.string ((⟨#[230, 176, 180, 195, 169]⟩ : ByteArray) ++ x1))) w2 (.v (.one .ptr)) (fun (x3 : Option Addr) w4 => LoopK (Int × Unit) (fun _ s5 w6 next7 => NextK x3 w6 (fun x8 x9 w10 => next7 (IntKind.i64.wrap (s5.1 + 1), ()) w10)
  (RunK Try.prog (Instr.buildSlice 38 7 #[(0, .string (⟨#[65]⟩ : ByteArray)), (1, .string (⟨#[46]⟩ : ByteArray)), (2, .string (⟨#[9]⟩ : ByteArray)), (3, .string (⟨#[255]⟩ : ByteArray)), (4, .string (⟨#[43]⟩ : ByteArray)), (5, .string (⟨#[0]⟩ : ByteArray)), (6, .string (⟨#[39]⟩ : ByteArray))]) w6 (.v (.one .slc)) (fun (x11 : Option Addr × Nat × Nat) w12 => CallK Try.prog 23 #[.int .i64 p1, .int .i64 7] w12 (.v (.one (.int .i64))) (fun (x13 : Int) w14 => IdxK x11.1 x11.2.1 x13 1 (fun a15 => LdK .str a15 w14 (fun (x16 : ByteArray) => CatK ((⟨#[230, 176, 180, 195, 169]⟩ : ByteArray) ++ x1) x16 (CatK (((⟨#[230, 176, 180, 195, 169]⟩ : ByteArray) ++ x1) ++ x16) p2 (CallK Try.prog 34 #[.string ((((⟨#[230, 176, 180, 195, 169]⟩ : ByteArray) ++ x1) ++ x16) ++ p2)] w14 (.tup [.one .slc, .one (.int .i64)]) (fun (x17 : (Option Addr × Nat × Nat) × Int × Unit) w18 => CatK (⟨#[40]⟩ : ByteArray) ((⟨#[230, 176, 180, 195, 169]⟩ : ByteArray) ++ x1) (CatK ((⟨#[40]⟩ : ByteArray) ++ ((⟨#[230, 176, 180, 195, 169]⟩ : ByteArray) ++ x1)) (⟨#[41, 32]⟩ : ByteArray) (CatK (((⟨#[40]⟩ : ByteArray) ++ ((⟨#[230, 176, 180, 195, 169]⟩ : ByteArray) ++ x1)) ++ (⟨#[41, 32]⟩ : ByteArray)) x16 (CatK ((((⟨#[40]⟩ : ByteArray) ++ ((⟨#[230, 176, 180, 195, 169]⟩ : ByteArray) ++ x1)) ++ (⟨#[41, 32]⟩ : ByteArray)) ++ x16) p2 (CallK Try.prog 34 #[.string (((((⟨#[40]⟩ : ByteArray) ++ ((⟨#[230, 176, 180, 195, 169]⟩ : ByteArray) ++ x1)) ++ (⟨#[41, 32]⟩ : ByteArray)) ++ x16) ++ p2)] w18 (.tup [.one .slc, .one (.int .i64)]) (fun (x19 : (Option Addr × Nat × Nat) × Int × Unit) w20 => ifB ((x17.1.2.1 : Int) == 0)
  (ifB (x17.2.1 == (IntKind.i64.wrap (s5.1 + 1)))
  (ifB ((x19.1.2.1 : Int) == 0)
  (ifB (x19.2.1 == (IntKind.i64.wrap (s5.1 + 4)))
  (CallK Try.prog 36 #[] w20 (.v (.one .bool)) (fun (x21 : Bool) w22 => K (.bool x21) w22))
  (K (.bool false) w20))
  (K (.bool false) w20))
  (K (.bool false) w20))
  (K (.bool false) w20)))))))))))))))
  (0, ()) w4)))
def pl9 : Plan := (.seq .auto (.seq .auto (.seq .auto (.seq (.seq .auto (.block (.loop [(8, .one (.int .i64))] .auto))) .auto))))
theorem e9 (p0 : ByteArray) (p1 : Int) (p2 : ByteArray) (w : World) (K : Value → World → Prop) : vcFunc Try.prog Try.f9 pl9 [.string p0, .int .i64 p1, .string p2] w K = C9 p0 p1 p2 w K := by kernel_rfl
theorem c9 (p0 : ByteArray) (p1 : Int) (p2 : ByteArray) (w : World) (K : Value → World → Prop) (h : C9 p0 p1 p2 w K) : Ret Try.prog 9 #[.string p0, .int .i64 p1, .string p2] w K := by
  rw [← e9] at h
  exact vcFunc_sound (by kernel_rfl) Try.func9 h

end Go.Proofs.Ytejhjjafmobmbaa
