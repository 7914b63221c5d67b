/-
  The conditions of some functions, written by a program of this session, each tied to the translation by the kernel.
-/
import Derived.Test.YtejhjjafmobmbaaVcMem
import Derived.Test.YtejhjjafmobmbaaProg
import Derived.KernelRfl
namespace Go.Proofs.Ytejhjjafmobmbaa
open Vc
set_option maxRecDepth 100000
set_option linter.unusedVariables false
/-- handfast/handfastlaw01.RunesPlaces -/
def C10 (p0 : ByteArray) (w : World) (K : Value → World → Prop) : Prop :=
  CallK Try.prog 37 #[.string p0, .int .i64 80] w (.v (.one .str)) (fun (x1 : ByteArray) w2 => CallK Try.prog 34 #[.string x1] w2 (.tup [.one .slc, .one (.int .i64)]) (fun (x3 : (Option Addr × Nat × Nat) × Int × Unit) w4 => ifB (x3.2.1 != 0)
  (ifB ((x3.1.2.1 : Int) == 0)
  (ifB (decide (x3.2.1 ≥ 1))
  (CallK Try.prog 36 #[] w4 (.v (.one .bool)) (fun (x5 : Bool) w6 => K (.bool x5) w6))
  (K (.bool false) w4))
  (K (.bool false) w4))
  (LoopK (ByteArray × Int × Unit) (fun _ s7 w8 next9 => ifB (decide (s7.2.1 < (x3.1.2.1 : Int)))
  (DrewK w8 (fun w10 => IdxK x3.1.1 x3.1.2.1 s7.2.1 2 (fun a11 => LdK .str (a11.add 0) w10 (fun (x12 : ByteArray) => ifB (x12.toList == (⟨#[]⟩ : ByteArray).toList)
  (K (.bool false) w10)
  (ifB (decide (s7.2.1 > 0))
  (IdxK x3.1.1 x3.1.2.1 s7.2.1 2 (fun a13 => LdK (.int .i64) (a13.add 1) w10 (fun (x14 : Int) => IdxK x3.1.1 x3.1.2.1 (IntKind.i64.wrap (s7.2.1 - 1)) 2 (fun a15 => LdK (.int .i64) (a15.add 1) w10 (fun (x16 : Int) => ifB (decide (x14 ≤ x16))
  (K (.bool false) w10)
  (IdxK x3.1.1 x3.1.2.1 s7.2.1 2 (fun a17 => LdK .str (a17.add 0) w10 (fun (x18 : ByteArray) => CatK s7.1 x18 (next9 ((s7.1 ++ x18), IntKind.i64.wrap (s7.2.1 + 1), ()) w10)))))))))
  (IdxK x3.1.1 x3.1.2.1 s7.2.1 2 (fun a19 => LdK .str (a19.add 0) w10 (fun (x20 : ByteArray) => CatK s7.1 x20 (next9 ((s7.1 ++ x20), IntKind.i64.wrap (s7.2.1 + 1), ()) w10)))))))))
  (NewK (.map #[] 0) w8 (fun g21 w22 => RunK Try.prog (Instr.range 9 (.string x1)) w22 (.v (.one .ptr)) (fun (x23 : Option Addr) w24 => LoopK (ByteArray × Int × Unit) (fun _ s25 w26 next27 => NextK x23 w26 (fun x28 x29 w30 => RunU Try.prog (Instr.mapUpdate 49 (.map (some g21)) (.int .i64 (IntKind.i64.wrap (s25.2.1 + 1))) (.string (Utf8.encode x29))) w30 (fun w31 => ifB (x29 != 32)
  (CatK s25.1 (Utf8.encode x29) (next27 ((s25.1 ++ (Utf8.encode x29)), IntKind.i64.wrap (s25.2.1 + 1), ()) w31))
  (next27 (s25.1, IntKind.i64.wrap (s25.2.1 + 1), ()) w31)))
  (LoopK (Int × Unit) (fun _ s32 w33 next34 => ifB (decide (s32.1 < (x3.1.2.1 : Int)))
  (IdxK x3.1.1 x3.1.2.1 s32.1 2 (fun a35 => LdK .str (a35.add 0) w33 (fun (x36 : ByteArray) => RunK Try.prog (Instr.range 9 (.string x36)) w33 (.v (.one .ptr)) (fun (x37 : Option Addr) w38 => LoopK (Int × Unit) (fun _ s39 w40 next41 => NextK x37 w40 (fun x42 x43 w44 => IdxK x3.1.1 x3.1.2.1 s32.1 2 (fun a45 => LdK (.int .i64) (a45.add 1) w44 (fun (x46 : Int) => RunK Try.prog (Instr.lookup 49 (.map (some g21)) (.int .i64 (IntKind.i64.wrap (x46 + s39.1))) false) w44 (.v (.one .str)) (fun (x47 : ByteArray) w48 => ifB (!(x47.toList == (Utf8.encode x43).toList))
  (K (.bool false) w48)
  (next41 (IntKind.i64.wrap (s39.1 + 1), ()) w48)))))
  (next34 (IntKind.i64.wrap (s32.1 + 1), ()) w40))
  (0, ()) w38))))
  (ifB (s7.1.toList == s25.1.toList)
  (CallK Try.prog 36 #[] w33 (.v (.one .bool)) (fun (x49 : Bool) w50 => K (.bool x49) w50))
  (K (.bool false) w33)))
  (0, ()) w26))
  ((⟨#[]⟩ : ByteArray), 0, ()) w24))))
  ((⟨#[]⟩ : ByteArray), 0, ()) w4)))
def pl10 : Plan := (.seq .auto (.seq .auto (.seq .auto (.seq .auto (.seq .auto (.seq (.seq .auto (.block (.loop [(5, .one .str), (37, .one (.int .i64))] (.seq .auto (.seq .auto (.seq (.block (.seq .auto (.seq (.seq .still .auto) .auto))) .auto)))))) (.seq .auto (.seq .auto (.seq .auto (.seq (.seq .auto (.block (.loop [(7, .one .str), (8, .one (.int .i64))] .auto))) (.seq (.seq .auto (.block (.loop [(92, .one (.int .i64))] (.seq .auto (.seq .auto (.seq (.block (.seq .auto (.seq .auto (.seq .auto (.block (.loop [(13, .one (.int .i64))] .auto)))))) .auto)))))) .auto)))))))))))
theorem e10 (p0 : ByteArray) (w : World) (K : Value → World → Prop) : vcFunc Try.prog Try.f10 pl10 [.string p0] w K = C10 p0 w K := by kernel_rfl
theorem c10 (p0 : ByteArray) (w : World) (K : Value → World → Prop) (h : C10 p0 w K) : Ret Try.prog 10 #[.string p0] w K := by
  rw [← e10] at h
  exact vcFunc_sound (by kernel_rfl) Try.func10 h

end Go.Proofs.Ytejhjjafmobmbaa
