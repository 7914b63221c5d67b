/-
  The conditions of some functions, written by a program of this session, each tied to the translation by the kernel.
-/
import Derived.Test.YtejhjjafmobmbaaVcMem
import Derived.Test.YtejhjjafmobmbaaProg
import Derived.KernelRfl
namespace Go.Proofs.Ytejhjjafmobmbaa
open Vc
set_option maxRecDepth 100000
set_option linter.unusedVariables false
/-- handfast/handfastlaw18.JournalForms -/
def C18 (p0 : Option Addr) (p0l p0c : Nat) (w : World) (K : Value → World → Prop) : Prop :=
  CallK Try.prog 39 #[.int .i64 4000] w (.v (.one .ptr)) (fun (x1 : Option Addr) w2 => ifB (Option.isNone x1)
  (K (.bool false) w2)
  (CallK Try.prog 65 #[.pointer x1] w2 (.tup [.one .ptr, .one (.int .i64)]) (fun (x3 : Option Addr × Int × Unit) w4 => ifB (x3.2.1 != 0)
  (K (.bool false) w4)
  (ifB (Option.isNone x3.1)
  (K (.bool false) w4)
  (LoopK (Int × Int × Unit) (fun _ s5 w6 next7 => ifB (decide (s5.2.1 < (p0l : Int)))
  (ifB (decide (s5.2.1 < 10))
  (IdxK p0 p0l s5.2.1 1 (fun a8 => LdK .slc a8 w6 (fun (x9 : Option Addr × Nat × Nat) => CallK Try.prog 40 #[.slice x9.1 x9.2.1 x9.2.2, .int .i64 80] w6 (.v (.one .slc)) (fun (x10 : Option Addr × Nat × Nat) w11 => CallK Try.prog 66 #[.pointer x3.1, .slice x10.1 x10.2.1 x10.2.2] w11 (.v (.one (.int .i64))) (fun (x12 : Int) w13 => ifB (x12 != 0)
  (K (.bool false) w13)
  (CallK Try.prog 46 #[.pointer x1] w13 (.v (.one .slc)) (fun (x14 : Option Addr × Nat × Nat) w15 => RegK w15 (fun C16 => ifB ((x14.2.1 : Int) != (IntKind.i64.wrap ((IntKind.i64.wrap (s5.1 + (x10.2.1 : Int))) + 3)))
  (SkipK C16 10 (SkipK C16 19 (SkipK C16 20 (SkipK C16 26 (SkipK C16 27 (SkipK C16 44 ((∀ w17, C16 (mem [10, 19, 20, 26, 27, 44]) w17 → K (.bool false) w17))))))))
  (AnyK C16 10 [] (.v (.one (.int .i64))) (fun w19 k20 => CallK Try.prog 47 #[.pointer x1] w19 (.v (.one (.int .i64))) (fun (x21 : Int) w22 => k20 (.int .i64 x21) w22))
  (fun (x18 : Int) => ifB (x18 != (x14.2.1 : Int))
  (SkipK C16 19 (SkipK C16 20 (SkipK C16 26 (SkipK C16 27 (SkipK C16 44 ((∀ w23, C16 (mem [10, 19, 20, 26, 27, 44]) w23 → K (.bool false) w23)))))))
  (IdxK x14.1 x14.2.1 s5.1 1 (fun a24 => AnyK C16 19 [10] (.v (.one (.int .u8))) (fun w26 k27 => LdK (.int .u8) a24 w26 (fun (x28 : Int) => k27 (.int .u8 x28) w26))
  (fun (x25 : Int) => AnyK C16 20 [10, 19] (.v (.one (.int .i64))) (fun w30 k31 => k31 (.int .i64 (IntKind.i64.wrap x25)) w30)
  (fun (x29 : Int) => IdxK x14.1 x14.2.1 (IntKind.i64.wrap (s5.1 + 1)) 1 (fun a32 => AnyK C16 26 [10] (.v (.one (.int .u8))) (fun w34 k35 => LdK (.int .u8) a32 w34 (fun (x36 : Int) => k35 (.int .u8 x36) w34))
  (fun (x33 : Int) => AnyK C16 27 [10, 26] (.v (.one (.int .i64))) (fun w38 k39 => k39 (.int .i64 (IntKind.i64.wrap x33)) w38)
  (fun (x37 : Int) => ifB ((IntKind.i64.wrap ((IntKind.i64.wrap (x29 * 256)) + x37)) != (x10.2.1 : Int))
  (SkipK C16 44 ((∀ w40, C16 (mem [10, 19, 20, 26, 27, 44]) w40 → K (.bool false) w40)))
  (SubK x14.1 x14.2.2 (IntKind.i64.wrap (s5.1 + 2)) (IntKind.i64.wrap ((IntKind.i64.wrap (s5.1 + 2)) + (x10.2.1 : Int))) x14.2.2 1 (fun a41 l42 c43 => AnyK C16 44 [10, 19, 20, 26, 27] (.v (.one .bool)) (fun w45 k46 => CallK Try.prog 45 #[.slice a41 l42 c43, .slice x10.1 x10.2.1 x10.2.2] w45 (.v (.one .bool)) (fun (x47 : Bool) w48 => k46 (.bool x47) w48))
  (fun (x44 : Bool) => (∀ w49, C16 (mem [10, 19, 20, 26, 27, 44]) w49 → ifB (!x44)
  (K (.bool false) w49)
  (SubK x14.1 x14.2.2 s5.1 x14.2.1 x14.2.2 1 (fun a50 l51 c52 => LoopK (Int × Int × Unit) (fun _ s53 w54 next55 => ifB (decide (s53.2.1 < (l51 : Int)))
  (IdxK a50 l51 s53.2.1 1 (fun a56 => LdK (.int .u8) a56 w54 (fun (x57 : Int) => next55 (IntKind.u8.wrap ((BitVec.ofInt 8 s53.1 ^^^ BitVec.ofInt 8 x57).toNat : Int), IntKind.i64.wrap (s53.2.1 + 1), ()) w54)))
  (ifB (s53.1 != 150)
  (K (.bool false) w54)
  (next7 ((x14.2.1 : Int), IntKind.i64.wrap (s5.2.1 + 1), ()) w54)))
  (0, 0, ()) w49)))))))))))))))))))))))
  (CallK Try.prog 64 #[] w6 (.v (.one .bool)) (fun (x58 : Bool) w59 => K (.bool x58) w59)))
  (CallK Try.prog 64 #[] w6 (.v (.one .bool)) (fun (x60 : Bool) w61 => K (.bool x60) w61)))
  (0, 0, ()) w4)))))
def pl18 : Plan := (.seq .auto (.seq .auto (.seq .auto (.seq .auto (.seq .auto (.seq .auto (.seq (.seq .auto (.block (.loop [(6, .one (.int .i64)), (7, .one (.int .i64))] (.seq .auto (.seq (.block (.seq .auto (.seq .auto (.seq .auto (.seq (.seq (.any [(10, .v (.one (.int .i64))), (19, .v (.one (.int .u8))), (20, .v (.one (.int .i64))), (26, .v (.one (.int .u8))), (27, .v (.one (.int .i64))), (44, .v (.one .bool))]) .auto) (.seq .auto (.seq (.seq .auto (.block (.loop [(10, .one (.int .u8)), (99, .one (.int .i64))] .auto))) .auto))))))) .auto))))) .auto)))))))
theorem e18 (p0 : Option Addr) (p0l p0c : Nat) (w : World) (K : Value → World → Prop) : vcFunc Try.prog Try.f18 pl18 [.slice p0 p0l p0c] w K = C18 p0 p0l p0c w K := by kernel_rfl
theorem c18 (p0 : Option Addr) (p0l p0c : Nat) (w : World) (K : Value → World → Prop) (h : C18 p0 p0l p0c w K) : Ret Try.prog 18 #[.slice p0 p0l p0c] w K := by
  rw [← e18] at h
  exact vcFunc_sound (by kernel_rfl) Try.func18 h

end Go.Proofs.Ytejhjjafmobmbaa
