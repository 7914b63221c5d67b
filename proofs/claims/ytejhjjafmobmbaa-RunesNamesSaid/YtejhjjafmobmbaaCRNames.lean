/-
  The conditions of some functions, written by a program of this session, each tied to the translation by the kernel.
-/
import Derived.Test.YtejhjjafmobmbaaVcMem
import Derived.Test.YtejhjjafmobmbaaProg
import Derived.KernelRfl
namespace Go.Proofs.Ytejhjjafmobmbaa
open Vc
set_option maxRecDepth 100000
set_option linter.unusedVariables false
/-- handfast/handfastlaw01.RunesNames -/
def C11 (p0 : Int) (p1 : Int) (p2 : Int) (w : World) (K : Value → World → Prop) : Prop :=
  CallK Try.prog 23 #[.int .i64 p0, .int .i64 14] w (.v (.one (.int .i64))) (fun (x1 : Int) w2 => RunK Try.prog (Instr.makeSlice 51 (.int .i64 (IntKind.i64.wrap (1 + x1))) (.int .i64 (IntKind.i64.wrap (1 + x1)))) w2 (.v (.one .slc)) (fun (x3 : Option Addr × Nat × Nat) w4 => LoopK (Int × Unit) (fun _ s5 w6 next7 => ifB (decide (s5.1 < (x3.2.1 : Int)))
  (RunK Try.prog (Instr.buildSlice 51 6 #[(0, .int .i32 97), (1, .int .i32 95), (2, .int .i32 233), (3, .int .i32 27700), (4, .int .i32 128167), (5, .int .i32 122)]) w6 (.v (.one .slc)) (fun (x8 : Option Addr × Nat × Nat) w9 => NzK 6 (IdxK x8.1 x8.2.1 (s5.1.tmod 6) 1 (fun a10 => LdK (.int .i32) a10 w9 (fun (x11 : Int) => IdxK x3.1 x3.2.1 s5.1 1 (fun a12 => StK a12 (.int .i32 x11) w9 (fun w13 => next7 (IntKind.i64.wrap (s5.1 + 1), ()) w13)))))))
  (RunK Try.prog (convert 51 9 (.slice x3.1 x3.2.1 x3.2.2)) w6 (.v (.one .str)) (fun (x14 : ByteArray) w15 => CallK Try.prog 38 #[.string x14] w15 (.v (.one .bool)) (fun (x16 : Bool) w17 => ifB (!(x16 == (decide ((IntKind.i64.wrap (1 + x1)) ≤ 12))))
  (K (.bool false) w17)
  (CallK Try.prog 23 #[.int .i64 p1, .int .i64 (IntKind.i64.wrap (1 + x1))] w17 (.v (.one (.int .i64))) (fun (x18 : Int) w19 => RunK Try.prog (Instr.buildSlice 51 7 #[(0, .int .i32 65), (1, .int .i32 45), (2, .int .i32 32), (3, .int .i32 40), (4, .int .i32 65533), (5, .int .i32 127), (6, .int .i32 46)]) w19 (.v (.one .slc)) (fun (x20 : Option Addr × Nat × Nat) w21 => CallK Try.prog 23 #[.int .i64 p2, .int .i64 7] w21 (.v (.one (.int .i64))) (fun (x22 : Int) w23 => IdxK x20.1 x20.2.1 x22 1 (fun a24 => LdK (.int .i32) a24 w23 (fun (x25 : Int) => IdxK x3.1 x3.2.1 x18 1 (fun a26 => StK a26 (.int .i32 x25) w23 (fun w27 => RunK Try.prog (convert 51 9 (.slice x3.1 x3.2.1 x3.2.2)) w27 (.v (.one .str)) (fun (x28 : ByteArray) w29 => CallK Try.prog 38 #[.string x28] w29 (.v (.one .bool)) (fun (x30 : Bool) w31 => ifB x30
  (K (.bool false) w31)
  (IdxK x3.1 x3.2.1 x18 1 (fun a32 => StK a32 (.int .i32 55) w31 (fun w33 => RunK Try.prog (convert 51 9 (.slice x3.1 x3.2.1 x3.2.2)) w33 (.v (.one .str)) (fun (x34 : ByteArray) w35 => CallK Try.prog 38 #[.string x34] w35 (.v (.one .bool)) (fun (x36 : Bool) w37 => ifB (decide (x18 > 0))
  (ifB (x36 == (decide ((IntKind.i64.wrap (1 + x1)) ≤ 12)))
  (CallK Try.prog 38 #[.string (⟨#[]⟩ : ByteArray)] w37 (.v (.one .bool)) (fun (x38 : Bool) w39 => ifB (!x38)
  (CallK Try.prog 38 #[.string (⟨#[97, 255]⟩ : ByteArray)] w39 (.v (.one .bool)) (fun (x40 : Bool) w41 => ifB (!x40)
  (CallK Try.prog 36 #[] w41 (.v (.one .bool)) (fun (x42 : Bool) w43 => K (.bool x42) w43))
  (K (.bool false) w41)))
  (K (.bool false) w39)))
  (K (.bool false) w37))
  (ifB (x36 == false)
  (CallK Try.prog 38 #[.string (⟨#[]⟩ : ByteArray)] w37 (.v (.one .bool)) (fun (x44 : Bool) w45 => ifB (!x44)
  (CallK Try.prog 38 #[.string (⟨#[97, 255]⟩ : ByteArray)] w45 (.v (.one .bool)) (fun (x46 : Bool) w47 => ifB (!x46)
  (CallK Try.prog 36 #[] w47 (.v (.one .bool)) (fun (x48 : Bool) w49 => K (.bool x48) w49))
  (K (.bool false) w47)))
  (K (.bool false) w45)))
  (K (.bool false) w37)))))))))))))))))))))
  (0, ()) w4))
def pl11 : Plan := (.seq .auto (.seq .auto (.seq .auto (.seq (.seq .auto (.block (.loop [(16, .one (.int .i64))] .auto))) .auto))))
theorem e11 (p0 : Int) (p1 : Int) (p2 : Int) (w : World) (K : Value → World → Prop) : vcFunc Try.prog Try.f11 pl11 [.int .i64 p0, .int .i64 p1, .int .i64 p2] w K = C11 p0 p1 p2 w K := by kernel_rfl
theorem c11 (p0 : Int) (p1 : Int) (p2 : Int) (w : World) (K : Value → World → Prop) (h : C11 p0 p1 p2 w K) : Ret Try.prog 11 #[.int .i64 p0, .int .i64 p1, .int .i64 p2] w K := by
  rw [← e11] at h
  exact vcFunc_sound (by kernel_rfl) Try.func11 h

end Go.Proofs.Ytejhjjafmobmbaa
