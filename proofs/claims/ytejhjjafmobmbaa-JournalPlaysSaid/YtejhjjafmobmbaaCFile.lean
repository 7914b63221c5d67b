/-
  The conditions of some functions, written by a program of this session, each tied to the translation by the kernel.
-/
import Derived.Test.YtejhjjafmobmbaaVcMem
import Derived.Test.YtejhjjafmobmbaaProg
import Derived.KernelRfl
namespace Go.Proofs.Ytejhjjafmobmbaa
open Vc
set_option maxRecDepth 100000
set_option linter.unusedVariables false
/-- handfast/file.New -/
def C39 (p0 : Int) (w : World) (K : Value → World → Prop) : Prop :=
  NewK (.cells #[.slice none 0 0, .int .i64 (if 65536 < (if 0 > p0 then 0 else p0) then 65536 else (if 0 > p0 then 0 else p0)), .int .i64 0, .bool false, .int .i64 0, .bool false] 103) w (fun g1 w2 => K (.pointer (some (⟨g1, 0, none⟩ : Addr))) w2)
def pl39 : Plan := .auto
theorem e39 (p0 : Int) (w : World) (K : Value → World → Prop) : vcFunc Try.prog Try.f39 pl39 [.int .i64 p0] w K = C39 p0 w K := by kernel_rfl
theorem c39 (p0 : Int) (w : World) (K : Value → World → Prop) (h : C39 p0 w K) : Ret Try.prog 39 #[.int .i64 p0] w K := by
  rw [← e39] at h
  exact vcFunc_sound (by kernel_rfl) Try.func39 h

/-- (*handfast/file.File).Bytes -/
def C46 (p0 : Addr) (w : World) (K : Value → World → Prop) : Prop :=
  LdK .slc (p0.add 0) w (fun (x1 : Option Addr × Nat × Nat) => CallK Try.prog 78 #[.slice x1.1 x1.2.1 x1.2.2] w (.v (.one .slc)) (fun (x2 : Option Addr × Nat × Nat) w3 => K (.slice x2.1 x2.2.1 x2.2.2) w3))
def pl46 : Plan := .auto
theorem e46 (p0 : Addr) (w : World) (K : Value → World → Prop) : vcFunc Try.prog Try.f46 pl46 [.pointer (some p0)] w K = C46 p0 w K := by kernel_rfl
theorem c46 (p0 : Addr) (w : World) (K : Value → World → Prop) (h : C46 p0 w K) : Ret Try.prog 46 #[.pointer (some p0)] w K := by
  rw [← e46] at h
  exact vcFunc_sound (by kernel_rfl) Try.func46 h

/-- (*handfast/file.File).Synced -/
def C47 (p0 : Addr) (w : World) (K : Value → World → Prop) : Prop :=
  LdK (.int .i64) (p0.add 2) w (fun (x1 : Int) => K (.int .i64 x1) w)
def pl47 : Plan := .auto
theorem e47 (p0 : Addr) (w : World) (K : Value → World → Prop) : vcFunc Try.prog Try.f47 pl47 [.pointer (some p0)] w K = C47 p0 w K := by kernel_rfl
theorem c47 (p0 : Addr) (w : World) (K : Value → World → Prop) (h : C47 p0 w K) : Ret Try.prog 47 #[.pointer (some p0)] w K := by
  rw [← e47] at h
  exact vcFunc_sound (by kernel_rfl) Try.func47 h

/-- (*handfast/file.File).Dead -/
def C48 (p0 : Addr) (w : World) (K : Value → World → Prop) : Prop :=
  LdK .bool (p0.add 5) w (fun (x1 : Bool) => K (.bool x1) w)
def pl48 : Plan := .auto
theorem e48 (p0 : Addr) (w : World) (K : Value → World → Prop) : vcFunc Try.prog Try.f48 pl48 [.pointer (some p0)] w K = C48 p0 w K := by kernel_rfl
theorem c48 (p0 : Addr) (w : World) (K : Value → World → Prop) (h : C48 p0 w K) : Ret Try.prog 48 #[.pointer (some p0)] w K := by
  rw [← e48] at h
  exact vcFunc_sound (by kernel_rfl) Try.func48 h

/-- (*handfast/file.File).step -/
def C77 (p0 : Addr) (w : World) (K : Value → World → Prop) : Prop :=
  LdK .bool (p0.add 3) w (fun (x1 : Bool) => ifB x1
  (LdK (.int .i64) (p0.add 4) w (fun (x2 : Int) => ifB (x2 == 0)
  (StK (p0.add 5) (.bool true) w (fun w3 => K (.bool false) w3))
  (LdK (.int .i64) (p0.add 4) w (fun (x4 : Int) => StK (p0.add 4) (.int .i64 (IntKind.i64.wrap (x4 - 1))) w (fun w5 => K (.bool true) w5)))))
  (LdK (.int .i64) (p0.add 4) w (fun (x6 : Int) => StK (p0.add 4) (.int .i64 (IntKind.i64.wrap (x6 - 1))) w (fun w7 => K (.bool true) w7))))
def pl77 : Plan := .auto
theorem e77 (p0 : Addr) (w : World) (K : Value → World → Prop) : vcFunc Try.prog Try.f77 pl77 [.pointer (some p0)] w K = C77 p0 w K := by kernel_rfl
theorem c77 (p0 : Addr) (w : World) (K : Value → World → Prop) (h : C77 p0 w K) : Ret Try.prog 77 #[.pointer (some p0)] w K := by
  rw [← e77] at h
  exact vcFunc_sound (by kernel_rfl) Try.func77 h

/-- (*handfast/file.File).Append -/
def C41 (p0 : Addr) (p1 : Option Addr) (p1l p1c : Nat) (w : World) (K : Value → World → Prop) : Prop :=
  LdK .bool (p0.add 5) w (fun (x1 : Bool) => ifB x1
  (K (.int .i64 11) w)
  (DrewK w (fun w2 => LdK (.int .i64) (p0.add 1) w2 (fun (x3 : Int) => LdK .slc (p0.add 0) w2 (fun (x4 : Option Addr × Nat × Nat) => ifB (decide ((p1l : Int) > (IntKind.i64.wrap (x3 - (x4.2.1 : Int)))))
  (K (.int .i64 10) w2)
  (CallK Try.prog 77 #[.pointer (some p0)] w2 (.v (.one .bool)) (fun (x5 : Bool) w6 => ifB (!x5)
  (K (.int .i64 11) w6)
  (LdK .slc (p0.add 0) w6 (fun (x7 : Option Addr × Nat × Nat) => CallK Try.prog 78 #[.slice x7.1 x7.2.1 x7.2.2] w6 (.v (.one .slc)) (fun (x8 : Option Addr × Nat × Nat) w9 => RunK Try.prog (Builtin.append_ #[53, 53] 53 #[.slice x8.1 x8.2.1 x8.2.2, .slice p1 p1l p1c]) w9 (.v (.one .slc)) (fun (x10 : Option Addr × Nat × Nat) w11 => StK (p0.add 0) (.slice x10.1 x10.2.1 x10.2.2) w11 (fun w12 => K (.int .i64 0) w12))))))))))))
def pl41 : Plan := (.seq .auto (.seq (.block (.seq .auto (.cond .auto (.seq .still .auto)))) .auto))
theorem e41 (p0 : Addr) (p1 : Option Addr) (p1l p1c : Nat) (w : World) (K : Value → World → Prop) : vcFunc Try.prog Try.f41 pl41 [.pointer (some p0), .slice p1 p1l p1c] w K = C41 p0 p1 p1l p1c w K := by kernel_rfl
theorem c41 (p0 : Addr) (p1 : Option Addr) (p1l p1c : Nat) (w : World) (K : Value → World → Prop) (h : C41 p0 p1 p1l p1c w K) : Ret Try.prog 41 #[.pointer (some p0), .slice p1 p1l p1c] w K := by
  rw [← e41] at h
  exact vcFunc_sound (by kernel_rfl) Try.func41 h

/-- (*handfast/file.File).Sync -/
def C42 (p0 : Addr) (w : World) (K : Value → World → Prop) : Prop :=
  LdK .bool (p0.add 5) w (fun (x1 : Bool) => ifB x1
  (K (.int .i64 11) w)
  (CallK Try.prog 77 #[.pointer (some p0)] w (.v (.one .bool)) (fun (x2 : Bool) w3 => ifB (!x2)
  (K (.int .i64 11) w3)
  (LdK .slc (p0.add 0) w3 (fun (x4 : Option Addr × Nat × Nat) => StK (p0.add 2) (.int .i64 (x4.2.1 : Int)) w3 (fun w5 => K (.int .i64 0) w5))))))
def pl42 : Plan := .auto
theorem e42 (p0 : Addr) (w : World) (K : Value → World → Prop) : vcFunc Try.prog Try.f42 pl42 [.pointer (some p0)] w K = C42 p0 w K := by kernel_rfl
theorem c42 (p0 : Addr) (w : World) (K : Value → World → Prop) (h : C42 p0 w K) : Ret Try.prog 42 #[.pointer (some p0)] w K := by
  rw [← e42] at h
  exact vcFunc_sound (by kernel_rfl) Try.func42 h

/-- (*handfast/file.File).Cut -/
def C53 (p0 : Addr) (p1 : Int) (w : World) (K : Value → World → Prop) : Prop :=
  LdK .bool (p0.add 5) w (fun (x1 : Bool) => ifB x1
  (K (.int .i64 11) w)
  (ifB (decide (p1 < 0))
  (K (.int .i64 1) w)
  (LdK .slc (p0.add 0) w (fun (x2 : Option Addr × Nat × Nat) => ifB (decide (p1 > (x2.2.1 : Int)))
  (K (.int .i64 1) w)
  (CallK Try.prog 77 #[.pointer (some p0)] w (.v (.one .bool)) (fun (x3 : Bool) w4 => ifB (!x3)
  (K (.int .i64 11) w4)
  (LdK .slc (p0.add 0) w4 (fun (x5 : Option Addr × Nat × Nat) => SubK x5.1 x5.2.2 0 p1 x5.2.2 1 (fun a6 l7 c8 => CallK Try.prog 78 #[.slice a6 l7 c8] w4 (.v (.one .slc)) (fun (x9 : Option Addr × Nat × Nat) w10 => StK (p0.add 0) (.slice x9.1 x9.2.1 x9.2.2) w10 (fun w11 => StK (p0.add 2) (.int .i64 p1) w11 (fun w12 => K (.int .i64 0) w12))))))))))))
def pl53 : Plan := .auto
theorem e53 (p0 : Addr) (p1 : Int) (w : World) (K : Value → World → Prop) : vcFunc Try.prog Try.f53 pl53 [.pointer (some p0), .int .i64 p1] w K = C53 p0 p1 w K := by kernel_rfl
theorem c53 (p0 : Addr) (p1 : Int) (w : World) (K : Value → World → Prop) (h : C53 p0 p1 w K) : Ret Try.prog 53 #[.pointer (some p0), .int .i64 p1] w K := by
  rw [← e53] at h
  exact vcFunc_sound (by kernel_rfl) Try.func53 h

/-- (*handfast/file.File).Fuse -/
def C52 (p0 : Addr) (p1 : Int) (w : World) (K : Value → World → Prop) : Prop :=
  StK (p0.add 3) (.bool true) w (fun w1 => StK (p0.add 4) (.int .i64 (if p1 > 0 then p1 else 0)) w1 (fun w2 => K (.tuple #[]) w2))
def pl52 : Plan := .auto
theorem e52 (p0 : Addr) (p1 : Int) (w : World) (K : Value → World → Prop) : vcFunc Try.prog Try.f52 pl52 [.pointer (some p0), .int .i64 p1] w K = C52 p0 p1 w K := by kernel_rfl
theorem c52 (p0 : Addr) (p1 : Int) (w : World) (K : Value → World → Prop) (h : C52 p0 p1 w K) : Ret Try.prog 52 #[.pointer (some p0), .int .i64 p1] w K := by
  rw [← e52] at h
  exact vcFunc_sound (by kernel_rfl) Try.func52 h

/-- (*handfast/file.File).Crash -/
def C43 (p0 : Addr) (p1 : Int) (p2 : Int) (w : World) (K : Value → World → Prop) : Prop :=
  DrewK w (fun w1 => LdK (.int .i64) (p0.add 2) w1 (fun (x2 : Int) => LdK .slc (p0.add 0) w1 (fun (x3 : Option Addr × Nat × Nat) => LdK (.int .i64) (p0.add 2) w1 (fun (x4 : Int) => LdK .slc (p0.add 0) w1 (fun (x5 : Option Addr × Nat × Nat) => SubK x5.1 x5.2.2 0 (IntKind.i64.wrap (x2 + (if IntKind.i64.wrap ((x3.2.1 : Int) - x4) < (if p1 > 0 then p1 else 0) then IntKind.i64.wrap ((x3.2.1 : Int) - x4) else (if p1 > 0 then p1 else 0)))) x5.2.2 1 (fun a6 l7 c8 => CallK Try.prog 78 #[.slice a6 l7 c8] w1 (.v (.one .slc)) (fun (x9 : Option Addr × Nat × Nat) w10 => LdK (.int .i64) (p0.add 2) w10 (fun (x11 : Int) => ifB (decide ((IntKind.i64.wrap (x2 + (if IntKind.i64.wrap ((x3.2.1 : Int) - x4) < (if p1 > 0 then p1 else 0) then IntKind.i64.wrap ((x3.2.1 : Int) - x4) else (if p1 > 0 then p1 else 0)))) > x11))
  (IdxK x9.1 x9.2.1 (IntKind.i64.wrap ((IntKind.i64.wrap (x2 + (if IntKind.i64.wrap ((x3.2.1 : Int) - x4) < (if p1 > 0 then p1 else 0) then IntKind.i64.wrap ((x3.2.1 : Int) - x4) else (if p1 > 0 then p1 else 0)))) - 1)) 1 (fun a12 => LdK (.int .u8) a12 w10 (fun (x13 : Int) => IdxK x9.1 x9.2.1 (IntKind.i64.wrap ((IntKind.i64.wrap (x2 + (if IntKind.i64.wrap ((x3.2.1 : Int) - x4) < (if p1 > 0 then p1 else 0) then IntKind.i64.wrap ((x3.2.1 : Int) - x4) else (if p1 > 0 then p1 else 0)))) - 1)) 1 (fun a14 => StK a14 (.int .u8 (IntKind.u8.wrap ((BitVec.ofInt 8 x13 ^^^ BitVec.ofInt 8 p2).toNat : Int))) w10 (fun w15 => StK (p0.add 0) (.slice x9.1 x9.2.1 x9.2.2) w15 (fun w16 => StK (p0.add 2) (.int .i64 (IntKind.i64.wrap (x2 + (if IntKind.i64.wrap ((x3.2.1 : Int) - x4) < (if p1 > 0 then p1 else 0) then IntKind.i64.wrap ((x3.2.1 : Int) - x4) else (if p1 > 0 then p1 else 0))))) w16 (fun w17 => StK (p0.add 5) (.bool false) w17 (fun w18 => StK (p0.add 3) (.bool false) w18 (fun w19 => StK (p0.add 4) (.int .i64 0) w19 (fun w20 => K (.tuple #[]) w20))))))))))
  (StK (p0.add 0) (.slice x9.1 x9.2.1 x9.2.2) w10 (fun w21 => StK (p0.add 2) (.int .i64 (IntKind.i64.wrap (x2 + (if IntKind.i64.wrap ((x3.2.1 : Int) - x4) < (if p1 > 0 then p1 else 0) then IntKind.i64.wrap ((x3.2.1 : Int) - x4) else (if p1 > 0 then p1 else 0))))) w21 (fun w22 => StK (p0.add 5) (.bool false) w22 (fun w23 => StK (p0.add 3) (.bool false) w23 (fun w24 => StK (p0.add 4) (.int .i64 0) w24 (fun w25 => K (.tuple #[]) w25))))))))))))))
def pl43 : Plan := (.seq .still .auto)
theorem e43 (p0 : Addr) (p1 : Int) (p2 : Int) (w : World) (K : Value → World → Prop) : vcFunc Try.prog Try.f43 pl43 [.pointer (some p0), .int .i64 p1, .int .u8 p2] w K = C43 p0 p1 p2 w K := by kernel_rfl
theorem c43 (p0 : Addr) (p1 : Int) (p2 : Int) (w : World) (K : Value → World → Prop) (h : C43 p0 p1 p2 w K) : Ret Try.prog 43 #[.pointer (some p0), .int .i64 p1, .int .u8 p2] w K := by
  rw [← e43] at h
  exact vcFunc_sound (by kernel_rfl) Try.func43 h

/-- (*handfast/file.File).Clone -/
def C51 (p0 : Addr) (w : World) (K : Value → World → Prop) : Prop :=
  LdsK [.slc, .int .i64, .int .i64, .bool, .int .i64, .bool] p0 w (fun (x1 : (Option Addr × Nat × Nat) × Int × Int × Bool × Int × Bool × Unit) => NewK (.cells #[.slice none 0 0, .int .i64 0, .int .i64 0, .bool false, .int .i64 0, .bool false] 103) w (fun g2 w3 => StsK (⟨g2, 0, none⟩ : Addr) [.slice x1.1.1 x1.1.2.1 x1.1.2.2, .int .i64 x1.2.1, .int .i64 x1.2.2.1, .bool x1.2.2.2.1, .int .i64 x1.2.2.2.2.1, .bool x1.2.2.2.2.2.1] w3 (fun w4 => LdK .slc (p0.add 0) w4 (fun (x5 : Option Addr × Nat × Nat) => CallK Try.prog 78 #[.slice x5.1 x5.2.1 x5.2.2] w4 (.v (.one .slc)) (fun (x6 : Option Addr × Nat × Nat) w7 => StK ((⟨g2, 0, none⟩ : Addr).add 0) (.slice x6.1 x6.2.1 x6.2.2) w7 (fun w8 => K (.pointer (some (⟨g2, 0, none⟩ : Addr))) w8))))))
def pl51 : Plan := .auto
theorem e51 (p0 : Addr) (w : World) (K : Value → World → Prop) : vcFunc Try.prog Try.f51 pl51 [.pointer (some p0)] w K = C51 p0 w K := by kernel_rfl
theorem c51 (p0 : Addr) (w : World) (K : Value → World → Prop) (h : C51 p0 w K) : Ret Try.prog 51 #[.pointer (some p0)] w K := by
  rw [← e51] at h
  exact vcFunc_sound (by kernel_rfl) Try.func51 h

/-- bytes.Clone -/
def C78 (p0 : Option Addr) (p0l p0c : Nat) (w : World) (K : Value → World → Prop) : Prop :=
  ifB (Option.isNone p0)
  (K (.slice none 0 0) w)
  (RunK Try.prog (Instr.buildSlice 53 0 #[]) w (.v (.one .slc)) (fun (x1 : Option Addr × Nat × Nat) w2 => RunK Try.prog (Builtin.append_ #[53, 53] 53 #[.slice x1.1 x1.2.1 x1.2.2, .slice p0 p0l p0c]) w2 (.v (.one .slc)) (fun (x3 : Option Addr × Nat × Nat) w4 => K (.slice x3.1 x3.2.1 x3.2.2) w4)))
def pl78 : Plan := .auto
theorem e78 (p0 : Option Addr) (p0l p0c : Nat) (w : World) (K : Value → World → Prop) : vcFunc Try.prog Try.f78 pl78 [.slice p0 p0l p0c] w K = C78 p0 p0l p0c w K := by kernel_rfl
theorem c78 (p0 : Option Addr) (p0l p0c : Nat) (w : World) (K : Value → World → Prop) (h : C78 p0 p0l p0c w K) : Ret Try.prog 78 #[.slice p0 p0l p0c] w K := by
  rw [← e78] at h
  exact vcFunc_sound (by kernel_rfl) Try.func78 h

end Go.Proofs.Ytejhjjafmobmbaa
