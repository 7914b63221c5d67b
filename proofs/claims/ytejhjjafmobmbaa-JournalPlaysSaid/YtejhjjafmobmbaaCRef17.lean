/-
  The conditions of some functions, written by a program of this session, each tied to the translation by the kernel.
-/
import Derived.Test.YtejhjjafmobmbaaVcMem
import Derived.Test.YtejhjjafmobmbaaProg
import Derived.KernelRfl
namespace Go.Proofs.Ytejhjjafmobmbaa
open Vc
set_option maxRecDepth 100000
set_option linter.unusedVariables false
/-- handfast/handfastref17.NewFile -/
def C54 (p0 : Int) (w : World) (K : Value → World → Prop) : Prop :=
  NewK (.cells #[.slice none 0 0, .int .i64 0, .int .i64 (if 65536 < (if 0 > p0 then 0 else p0) then 65536 else (if 0 > p0 then 0 else p0)), .bool false, .bool false, .int .i64 0] 75) w (fun g1 w2 => K (.pointer (some (⟨g1, 0, none⟩ : Addr))) w2)
def pl54 : Plan := .auto
theorem e54 (p0 : Int) (w : World) (K : Value → World → Prop) : vcFunc Try.prog Try.f54 pl54 [.int .i64 p0] w K = C54 p0 w K := by kernel_rfl
theorem c54 (p0 : Int) (w : World) (K : Value → World → Prop) (h : C54 p0 w K) : Ret Try.prog 54 #[.int .i64 p0] w K := by
  rw [← e54] at h
  exact vcFunc_sound (by kernel_rfl) Try.func54 h

/-- (*handfast/handfastref17.File).stops -/
def C79 (p0 : Addr) (w : World) (K : Value → World → Prop) : Prop :=
  LdK .bool (p0.add 4) w (fun (x1 : Bool) => ifB x1
  (LdK (.int .i64) (p0.add 5) w (fun (x2 : Int) => ifB (x2 == 0)
  (StK (p0.add 3) (.bool true) w (fun w3 => K (.bool true) w3))
  (LdK (.int .i64) (p0.add 5) w (fun (x4 : Int) => StK (p0.add 5) (.int .i64 (IntKind.i64.wrap (x4 - 1))) w (fun w5 => K (.bool false) w5)))))
  (LdK (.int .i64) (p0.add 5) w (fun (x6 : Int) => StK (p0.add 5) (.int .i64 (IntKind.i64.wrap (x6 - 1))) w (fun w7 => K (.bool false) w7))))
def pl79 : Plan := .auto
theorem e79 (p0 : Addr) (w : World) (K : Value → World → Prop) : vcFunc Try.prog Try.f79 pl79 [.pointer (some p0)] w K = C79 p0 w K := by kernel_rfl
theorem c79 (p0 : Addr) (w : World) (K : Value → World → Prop) (h : C79 p0 w K) : Ret Try.prog 79 #[.pointer (some p0)] w K := by
  rw [← e79] at h
  exact vcFunc_sound (by kernel_rfl) Try.func79 h

/-- (*handfast/handfastref17.File).Append -/
def C56 (p0 : Addr) (p1 : Option Addr) (p1l p1c : Nat) (w : World) (K : Value → World → Prop) : Prop :=
  LdK .bool (p0.add 3) w (fun (x1 : Bool) => ifB x1
  (K (.int .i64 11) w)
  (DrewK w (fun w2 => LdK (.int .i64) (p0.add 2) w2 (fun (x3 : Int) => LdK .slc (p0.add 0) w2 (fun (x4 : Option Addr × Nat × Nat) => ifB (decide ((p1l : Int) > (IntKind.i64.wrap (x3 - (x4.2.1 : Int)))))
  (K (.int .i64 10) w2)
  (CallK Try.prog 79 #[.pointer (some p0)] w2 (.v (.one .bool)) (fun (x5 : Bool) w6 => ifB x5
  (K (.int .i64 11) w6)
  (RegK w6 (fun C7 => AnyK C7 4 [] (.v (.one .slc)) (fun w9 k10 => LdK .slc (p0.add 0) w9 (fun (x11 : Option Addr × Nat × Nat) => k10 (.slice x11.1 x11.2.1 x11.2.2) w9))
  (fun (x8 : Option Addr × Nat × Nat) => AnyK C7 8 [] (.v (.one .slc)) (fun w13 k14 => LdK .slc (p0.add 0) w13 (fun (x15 : Option Addr × Nat × Nat) => k14 (.slice x15.1 x15.2.1 x15.2.2) w13))
  (fun (x12 : Option Addr × Nat × Nat) => AnyK C7 13 [] (.v (.one .slc)) (fun w17 k18 => LdK .slc (p0.add 0) w17 (fun (x19 : Option Addr × Nat × Nat) => k18 (.slice x19.1 x19.2.1 x19.2.2) w17))
  (fun (x16 : Option Addr × Nat × Nat) => SubK x8.1 x8.2.2 0 (x12.2.1 : Int) (x16.2.1 : Int) 1 (fun a20 l21 c22 => AnyK C7 17 [4, 8, 13] (.v (.one .slc)) (fun w24 k25 => RunK Try.prog (Builtin.append_ #[53, 53] 53 #[.slice a20 l21 c22, .slice p1 p1l p1c]) w24 (.v (.one .slc)) (fun (x26 : Option Addr × Nat × Nat) w27 => k25 (.slice x26.1 x26.2.1 x26.2.2) w27))
  (fun (x23 : Option Addr × Nat × Nat) => AnyK C7 20 [4, 8, 13, 17] (.tup []) (fun w29 k30 => StK (p0.add 0) (.slice x23.1 x23.2.1 x23.2.2) w29 (fun w31 => k30 undef w31))
  (fun (x28 : Unit) => (∀ w32, C7 (mem [4, 8, 13, 17, 20]) w32 → K (.int .i64 0) w32))))))))))))))))
def pl56 : Plan := (.seq .auto (.seq (.block (.seq .auto (.cond .auto (.seq .still .auto)))) (.seq (.any [(4, .v (.one .slc)), (8, .v (.one .slc)), (13, .v (.one .slc)), (17, .v (.one .slc)), (20, .tup [])]) .auto)))
theorem e56 (p0 : Addr) (p1 : Option Addr) (p1l p1c : Nat) (w : World) (K : Value → World → Prop) : vcFunc Try.prog Try.f56 pl56 [.pointer (some p0), .slice p1 p1l p1c] w K = C56 p0 p1 p1l p1c w K := by kernel_rfl
theorem c56 (p0 : Addr) (p1 : Option Addr) (p1l p1c : Nat) (w : World) (K : Value → World → Prop) (h : C56 p0 p1 p1l p1c w K) : Ret Try.prog 56 #[.pointer (some p0), .slice p1 p1l p1c] w K := by
  rw [← e56] at h
  exact vcFunc_sound (by kernel_rfl) Try.func56 h

/-- (*handfast/handfastref17.File).Sync -/
def C58 (p0 : Addr) (w : World) (K : Value → World → Prop) : Prop :=
  LdK .bool (p0.add 3) w (fun (x1 : Bool) => ifB x1
  (K (.int .i64 11) w)
  (CallK Try.prog 79 #[.pointer (some p0)] w (.v (.one .bool)) (fun (x2 : Bool) w3 => ifB x2
  (K (.int .i64 11) w3)
  (LdK .slc (p0.add 0) w3 (fun (x4 : Option Addr × Nat × Nat) => StK (p0.add 1) (.int .i64 (x4.2.1 : Int)) w3 (fun w5 => K (.int .i64 0) w5))))))
def pl58 : Plan := .auto
theorem e58 (p0 : Addr) (w : World) (K : Value → World → Prop) : vcFunc Try.prog Try.f58 pl58 [.pointer (some p0)] w K = C58 p0 w K := by kernel_rfl
theorem c58 (p0 : Addr) (w : World) (K : Value → World → Prop) (h : C58 p0 w K) : Ret Try.prog 58 #[.pointer (some p0)] w K := by
  rw [← e58] at h
  exact vcFunc_sound (by kernel_rfl) Try.func58 h

/-- (*handfast/handfastref17.File).Cut -/
def C59 (p0 : Addr) (p1 : Int) (w : World) (K : Value → World → Prop) : Prop :=
  LdK .bool (p0.add 3) w (fun (x1 : Bool) => ifB x1
  (K (.int .i64 11) w)
  (ifB (decide (p1 < 0))
  (K (.int .i64 1) w)
  (LdK .slc (p0.add 0) w (fun (x2 : Option Addr × Nat × Nat) => ifB (decide (p1 > (x2.2.1 : Int)))
  (K (.int .i64 1) w)
  (CallK Try.prog 79 #[.pointer (some p0)] w (.v (.one .bool)) (fun (x3 : Bool) w4 => ifB x3
  (K (.int .i64 11) w4)
  (LdK .slc (p0.add 0) w4 (fun (x5 : Option Addr × Nat × Nat) => SubK x5.1 x5.2.2 0 p1 p1 1 (fun a6 l7 c8 => StK (p0.add 0) (.slice a6 l7 c8) w4 (fun w9 => StK (p0.add 1) (.int .i64 p1) w9 (fun w10 => K (.int .i64 0) w10)))))))))))
def pl59 : Plan := .auto
theorem e59 (p0 : Addr) (p1 : Int) (w : World) (K : Value → World → Prop) : vcFunc Try.prog Try.f59 pl59 [.pointer (some p0), .int .i64 p1] w K = C59 p0 p1 w K := by kernel_rfl
theorem c59 (p0 : Addr) (p1 : Int) (w : World) (K : Value → World → Prop) (h : C59 p0 p1 w K) : Ret Try.prog 59 #[.pointer (some p0), .int .i64 p1] w K := by
  rw [← e59] at h
  exact vcFunc_sound (by kernel_rfl) Try.func59 h

/-- (*handfast/handfastref17.File).Fuse -/
def C60 (p0 : Addr) (p1 : Int) (w : World) (K : Value → World → Prop) : Prop :=
  StK (p0.add 4) (.bool true) w (fun w1 => StK (p0.add 5) (.int .i64 (if 0 > p1 then 0 else p1)) w1 (fun w2 => K (.tuple #[]) w2))
def pl60 : Plan := .auto
theorem e60 (p0 : Addr) (p1 : Int) (w : World) (K : Value → World → Prop) : vcFunc Try.prog Try.f60 pl60 [.pointer (some p0), .int .i64 p1] w K = C60 p0 p1 w K := by kernel_rfl
theorem c60 (p0 : Addr) (p1 : Int) (w : World) (K : Value → World → Prop) (h : C60 p0 p1 w K) : Ret Try.prog 60 #[.pointer (some p0), .int .i64 p1] w K := by
  rw [← e60] at h
  exact vcFunc_sound (by kernel_rfl) Try.func60 h

/-- (*handfast/handfastref17.File).Crash -/
def C61 (p0 : Addr) (p1 : Int) (p2 : Int) (w : World) (K : Value → World → Prop) : Prop :=
  DrewK w (fun w1 => LdK (.int .i64) (p0.add 1) w1 (fun (x2 : Int) => LdK .slc (p0.add 0) w1 (fun (x3 : Option Addr × Nat × Nat) => LdK (.int .i64) (p0.add 1) w1 (fun (x4 : Int) => LdK .slc (p0.add 0) w1 (fun (x5 : Option Addr × Nat × Nat) => SubK x5.1 x5.2.2 0 (IntKind.i64.wrap (x2 + (if IntKind.i64.wrap ((x3.2.1 : Int) - x4) < (if 0 > p1 then 0 else p1) then IntKind.i64.wrap ((x3.2.1 : Int) - x4) else (if 0 > p1 then 0 else p1)))) x5.2.2 1 (fun a6 l7 c8 => RunK Try.prog (Builtin.append_ #[53, 53] 53 #[.slice none 0 0, .slice a6 l7 c8]) w1 (.v (.one .slc)) (fun (x9 : Option Addr × Nat × Nat) w10 => LdK (.int .i64) (p0.add 1) w10 (fun (x11 : Int) => ifB (decide ((IntKind.i64.wrap (x2 + (if IntKind.i64.wrap ((x3.2.1 : Int) - x4) < (if 0 > p1 then 0 else p1) then IntKind.i64.wrap ((x3.2.1 : Int) - x4) else (if 0 > p1 then 0 else p1)))) > x11))
  (IdxK x9.1 x9.2.1 (IntKind.i64.wrap ((IntKind.i64.wrap (x2 + (if IntKind.i64.wrap ((x3.2.1 : Int) - x4) < (if 0 > p1 then 0 else p1) then IntKind.i64.wrap ((x3.2.1 : Int) - x4) else (if 0 > p1 then 0 else p1)))) - 1)) 1 (fun a12 => LdK (.int .u8) a12 w10 (fun (x13 : Int) => IdxK x9.1 x9.2.1 (IntKind.i64.wrap ((IntKind.i64.wrap (x2 + (if IntKind.i64.wrap ((x3.2.1 : Int) - x4) < (if 0 > p1 then 0 else p1) then IntKind.i64.wrap ((x3.2.1 : Int) - x4) else (if 0 > p1 then 0 else p1)))) - 1)) 1 (fun a14 => StK a14 (.int .u8 (IntKind.u8.wrap ((BitVec.ofInt 8 x13 ^^^ BitVec.ofInt 8 p2).toNat : Int))) w10 (fun w15 => StK (p0.add 0) (.slice x9.1 x9.2.1 x9.2.2) w15 (fun w16 => StK (p0.add 1) (.int .i64 (IntKind.i64.wrap (x2 + (if IntKind.i64.wrap ((x3.2.1 : Int) - x4) < (if 0 > p1 then 0 else p1) then IntKind.i64.wrap ((x3.2.1 : Int) - x4) else (if 0 > p1 then 0 else p1))))) w16 (fun w17 => StK (p0.add 3) (.bool false) w17 (fun w18 => StK (p0.add 4) (.bool false) w18 (fun w19 => K (.tuple #[]) w19)))))))))
  (StK (p0.add 0) (.slice x9.1 x9.2.1 x9.2.2) w10 (fun w20 => StK (p0.add 1) (.int .i64 (IntKind.i64.wrap (x2 + (if IntKind.i64.wrap ((x3.2.1 : Int) - x4) < (if 0 > p1 then 0 else p1) then IntKind.i64.wrap ((x3.2.1 : Int) - x4) else (if 0 > p1 then 0 else p1))))) w20 (fun w21 => StK (p0.add 3) (.bool false) w21 (fun w22 => StK (p0.add 4) (.bool false) w22 (fun w23 => K (.tuple #[]) w23)))))))))))))
def pl61 : Plan := (.seq .still .auto)
theorem e61 (p0 : Addr) (p1 : Int) (p2 : Int) (w : World) (K : Value → World → Prop) : vcFunc Try.prog Try.f61 pl61 [.pointer (some p0), .int .i64 p1, .int .u8 p2] w K = C61 p0 p1 p2 w K := by kernel_rfl
theorem c61 (p0 : Addr) (p1 : Int) (p2 : Int) (w : World) (K : Value → World → Prop) (h : C61 p0 p1 p2 w K) : Ret Try.prog 61 #[.pointer (some p0), .int .i64 p1, .int .u8 p2] w K := by
  rw [← e61] at h
  exact vcFunc_sound (by kernel_rfl) Try.func61 h

/-- (*handfast/handfastref17.File).Copy -/
def C62 (p0 : Addr) (w : World) (K : Value → World → Prop) : Prop :=
  LdsK [.slc, .int .i64, .int .i64, .bool, .bool, .int .i64] p0 w (fun (x1 : (Option Addr × Nat × Nat) × Int × Int × Bool × Bool × Int × Unit) => NewK (.cells #[.slice none 0 0, .int .i64 0, .int .i64 0, .bool false, .bool false, .int .i64 0] 75) w (fun g2 w3 => StsK (⟨g2, 0, none⟩ : Addr) [.slice x1.1.1 x1.1.2.1 x1.1.2.2, .int .i64 x1.2.1, .int .i64 x1.2.2.1, .bool x1.2.2.2.1, .bool x1.2.2.2.2.1, .int .i64 x1.2.2.2.2.2.1] w3 (fun w4 => LdK .slc (p0.add 0) w4 (fun (x5 : Option Addr × Nat × Nat) => RunK Try.prog (Builtin.append_ #[53, 53] 53 #[.slice none 0 0, .slice x5.1 x5.2.1 x5.2.2]) w4 (.v (.one .slc)) (fun (x6 : Option Addr × Nat × Nat) w7 => StK ((⟨g2, 0, none⟩ : Addr).add 0) (.slice x6.1 x6.2.1 x6.2.2) w7 (fun w8 => K (.pointer (some (⟨g2, 0, none⟩ : Addr))) w8))))))
def pl62 : Plan := .auto
theorem e62 (p0 : Addr) (w : World) (K : Value → World → Prop) : vcFunc Try.prog Try.f62 pl62 [.pointer (some p0)] w K = C62 p0 w K := by kernel_rfl
theorem c62 (p0 : Addr) (w : World) (K : Value → World → Prop) (h : C62 p0 w K) : Ret Try.prog 62 #[.pointer (some p0)] w K := by
  rw [← e62] at h
  exact vcFunc_sound (by kernel_rfl) Try.func62 h

/-- handfast/handfastlaw17.Same -/
def C63 (p0 : Addr) (p1 : Addr) (w : World) (K : Value → World → Prop) : Prop :=
  RegK w (fun C1 => ifB (!(Option.isNone (some p0)))
  (AnyK C1 4 [] (.v (.one .slc)) (fun w3 k4 => CallK Try.prog 46 #[.pointer (some p0)] w3 (.v (.one .slc)) (fun (x5 : Option Addr × Nat × Nat) w6 => k4 (.slice x5.1 x5.2.1 x5.2.2) w6))
  (fun (x2 : Option Addr × Nat × Nat) => AnyK C1 8 [] (.v (.one .slc)) (fun w8 k9 => LdK .slc (p1.add 0) w8 (fun (x10 : Option Addr × Nat × Nat) => k9 (.slice x10.1 x10.2.1 x10.2.2) w8))
  (fun (x7 : Option Addr × Nat × Nat) => AnyK C1 9 [4, 8] (.v (.one .bool)) (fun w12 k13 => CallK Try.prog 45 #[.slice x2.1 x2.2.1 x2.2.2, .slice x7.1 x7.2.1 x7.2.2] w12 (.v (.one .bool)) (fun (x14 : Bool) w15 => k13 (.bool x14) w15))
  (fun (x11 : Bool) => ifB x11
  (AnyK C1 13 [4, 8, 9] (.v (.one (.int .i64))) (fun w17 k18 => CallK Try.prog 47 #[.pointer (some p0)] w17 (.v (.one (.int .i64))) (fun (x19 : Int) w20 => k18 (.int .i64 x19) w20))
  (fun (x16 : Int) => AnyK C1 17 [4, 8, 9] (.v (.one (.int .i64))) (fun w22 k23 => LdK (.int .i64) (p1.add 1) w22 (fun (x24 : Int) => k23 (.int .i64 x24) w22))
  (fun (x21 : Int) => ifB (x16 == x21)
  (AnyK C1 22 [4, 8, 9, 13, 17] (.v (.one .bool)) (fun w26 k27 => CallK Try.prog 48 #[.pointer (some p0)] w26 (.v (.one .bool)) (fun (x28 : Bool) w29 => k27 (.bool x28) w29))
  (fun (x25 : Bool) => AnyK C1 26 [4, 8, 9, 13, 17] (.v (.one .bool)) (fun w31 k32 => LdK .bool (p1.add 3) w31 (fun (x33 : Bool) => k32 (.bool x33) w31))
  (fun (x30 : Bool) => (∀ w34, C1 (mem [4, 8, 9, 13, 17, 22, 26]) w34 → K (.bool (x25 == x30)) w34))))
  (SkipK C1 22 (SkipK C1 26 ((∀ w35, C1 (mem [4, 8, 9, 13, 17, 22, 26]) w35 → K (.bool false) w35)))))))
  (SkipK C1 13 (SkipK C1 17 (SkipK C1 22 (SkipK C1 26 ((∀ w36, C1 (mem [4, 8, 9, 13, 17, 22, 26]) w36 → K (.bool false) w36))))))))))
  (SkipK C1 4 (SkipK C1 8 (SkipK C1 9 (SkipK C1 13 (SkipK C1 17 (SkipK C1 22 (SkipK C1 26 ((∀ w37, C1 (mem [4, 8, 9, 13, 17, 22, 26]) w37 → K (.bool false) w37))))))))))
def pl63 : Plan := (.seq .auto (.seq (.any [(4, .v (.one .slc)), (8, .v (.one .slc)), (9, .v (.one .bool)), (13, .v (.one (.int .i64))), (17, .v (.one (.int .i64))), (22, .v (.one .bool)), (26, .v (.one .bool))]) .auto))
theorem e63 (p0 : Addr) (p1 : Addr) (w : World) (K : Value → World → Prop) : vcFunc Try.prog Try.f63 pl63 [.pointer (some p0), .pointer (some p1)] w K = C63 p0 p1 w K := by kernel_rfl
theorem c63 (p0 : Addr) (p1 : Addr) (w : World) (K : Value → World → Prop) (h : C63 p0 p1 w K) : Ret Try.prog 63 #[.pointer (some p0), .pointer (some p1)] w K := by
  rw [← e63] at h
  exact vcFunc_sound (by kernel_rfl) Try.func63 h

end Go.Proofs.Ytejhjjafmobmbaa
