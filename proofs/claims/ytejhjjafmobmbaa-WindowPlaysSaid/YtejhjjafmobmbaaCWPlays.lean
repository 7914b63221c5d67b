/-
  The conditions of some functions, written by a program of this session, each tied to the translation by the kernel.
-/
import Derived.Test.YtejhjjafmobmbaaVcMem
import Derived.Test.YtejhjjafmobmbaaProg
import Derived.KernelRfl
namespace Go.Proofs.Ytejhjjafmobmbaa
open Vc
set_option maxRecDepth 100000
set_option linter.unusedVariables false
/-- handfast/handfastlaw20.WindowPlays -/
def C7 (p0 : Option Addr) (p0l p0c : Nat) (p1 : Option Addr) (p1l p1c : Nat) (w : World) (K : Value → World → Prop) : Prop :=
  CallK Try.prog 22 #[] w (.v (.one .ptr)) (fun (x1 : Option Addr) w2 => CallK Try.prog 28 #[] w2 (.v (.one .ptr)) (fun (x3 : Option Addr) w4 => ifB (Option.isNone x1)
  (K (.bool false) w4)
  (LoopK (Int × Unit) (fun _ s5 w6 next7 => ifB (decide (s5.1 < (p0l : Int)))
  (ifB (decide (s5.1 < 60))
  (JoinK (Int × Unit) (fun J8 => ifB (decide (s5.1 < (p1l : Int)))
  (IdxK p1 p1l s5.1 1 (fun a11 => LdK (.int .i64) a11 w6 (fun (x12 : Int) => CallK Try.prog 29 #[.int .i64 x12] w6 (.v (.one (.int .i64))) (fun (x13 : Int) w14 => J8 (x13, ()) w14))))
  (J8 (0, ()) w6))
  (fun _ s9 w10 => ifB (s5.1 == 20)
  (CallK Try.prog 30 #[.pointer x1] w10 (.v (.one .ptr)) (fun (x15 : Option Addr) w16 => ifB (Option.isNone x15)
  (K (.bool false) w16)
  (CallK Try.prog 26 #[.pointer x15] w16 (.v (.one (.int .i64))) (fun (x17 : Int) w18 => CallK Try.prog 26 #[.pointer x1] w18 (.v (.one (.int .i64))) (fun (x19 : Int) w20 => ifB (x17 != x19)
  (K (.bool false) w20)
  (CallK Try.prog 24 #[.pointer x15, .int .i64 1000, .int .i64 0] w20 (.v (.one .bool)) (fun (x21 : Bool) w22 => RegK w22 (fun C23 => IdxK p0 p0l s5.1 1 (fun a24 => AnyK C23 5 [] (.v (.one (.int .i64))) (fun w26 k27 => LdK (.int .i64) a24 w26 (fun (x28 : Int) => k27 (.int .i64 x28) w26))
  (fun (x25 : Int) => AnyK C23 6 [5] (.v (.one (.int .i64))) (fun w30 k31 => CallK Try.prog 31 #[.int .i64 x25] w30 (.v (.one (.int .i64))) (fun (x32 : Int) w33 => k31 (.int .i64 x32) w33))
  (fun (x29 : Int) => AnyK C23 7 [5, 6] (.v (.one .bool)) (fun w35 k36 => CallK Try.prog 24 #[.pointer x1, .int .i64 s9.1, .int .i64 x29] w35 (.v (.one .bool)) (fun (x37 : Bool) w38 => k36 (.bool x37) w38))
  (fun (x34 : Bool) => IdxK p0 p0l s5.1 1 (fun a39 => AnyK C23 13 [] (.v (.one (.int .i64))) (fun w41 k42 => LdK (.int .i64) a39 w41 (fun (x43 : Int) => k42 (.int .i64 x43) w41))
  (fun (x40 : Int) => AnyK C23 14 [5, 6, 7, 13] (.v (.one (.int .i64))) (fun w45 k46 => CallK Try.prog 31 #[.int .i64 x40] w45 (.v (.one (.int .i64))) (fun (x47 : Int) w48 => k46 (.int .i64 x47) w48))
  (fun (x44 : Int) => AnyK C23 15 [5, 6, 7, 13, 14] (.v (.one .bool)) (fun w50 k51 => CallK Try.prog 32 #[.pointer x3, .int .i64 s9.1, .int .i64 x44] w50 (.v (.one .bool)) (fun (x52 : Bool) w53 => k51 (.bool x52) w53))
  (fun (x49 : Bool) => ifB (!(x34 == x49))
  (SkipK C23 19 (SkipK C23 23 (SkipK C23 28 (SkipK C23 32 ((∀ w54, C23 (mem [5, 6, 7, 13, 14, 15, 19, 23, 28, 32]) w54 → K (.bool false) w54))))))
  (AnyK C23 19 [5, 6, 7, 13, 14, 15] (.v (.one (.int .i64))) (fun w56 k57 => CallK Try.prog 25 #[.pointer x1] w56 (.v (.one (.int .i64))) (fun (x58 : Int) w59 => k57 (.int .i64 x58) w59))
  (fun (x55 : Int) => optA x3 (fun a60 => AnyK C23 23 [5, 6, 7, 13, 14, 15] (.v (.one (.int .i64))) (fun w62 k63 => LdK (.int .i64) (a60.add 0) w62 (fun (x64 : Int) => k63 (.int .i64 x64) w62))
  (fun (x61 : Int) => ifB (x55 != x61)
  (SkipK C23 28 (SkipK C23 32 ((∀ w65, C23 (mem [5, 6, 7, 13, 14, 15, 19, 23, 28, 32]) w65 → K (.bool false) w65))))
  (AnyK C23 28 [5, 6, 7, 13, 14, 15, 19, 23] (.v (.one (.int .i64))) (fun w67 k68 => CallK Try.prog 26 #[.pointer x1] w67 (.v (.one (.int .i64))) (fun (x69 : Int) w70 => k68 (.int .i64 x69) w70))
  (fun (x66 : Int) => optA x3 (fun a71 => AnyK C23 32 [5, 6, 7, 13, 14, 15, 19, 23] (.v (.one (.int .i64))) (fun w73 k74 => LdK (.int .i64) (a71.add 1) w73 (fun (x75 : Int) => k74 (.int .i64 x75) w73))
  (fun (x72 : Int) => (∀ w76, C23 (mem [5, 6, 7, 13, 14, 15, 19, 23, 28, 32]) w76 → ifB (x66 != x72)
  (K (.bool false) w76)
  (next7 (IntKind.i64.wrap (s5.1 + 1), ()) w76))))))))))))))))))))))))))
  (RegK w10 (fun C77 => IdxK p0 p0l s5.1 1 (fun a78 => AnyK C77 5 [] (.v (.one (.int .i64))) (fun w80 k81 => LdK (.int .i64) a78 w80 (fun (x82 : Int) => k81 (.int .i64 x82) w80))
  (fun (x79 : Int) => AnyK C77 6 [5] (.v (.one (.int .i64))) (fun w84 k85 => CallK Try.prog 31 #[.int .i64 x79] w84 (.v (.one (.int .i64))) (fun (x86 : Int) w87 => k85 (.int .i64 x86) w87))
  (fun (x83 : Int) => AnyK C77 7 [5, 6] (.v (.one .bool)) (fun w89 k90 => CallK Try.prog 24 #[.pointer x1, .int .i64 s9.1, .int .i64 x83] w89 (.v (.one .bool)) (fun (x91 : Bool) w92 => k90 (.bool x91) w92))
  (fun (x88 : Bool) => IdxK p0 p0l s5.1 1 (fun a93 => AnyK C77 13 [] (.v (.one (.int .i64))) (fun w95 k96 => LdK (.int .i64) a93 w95 (fun (x97 : Int) => k96 (.int .i64 x97) w95))
  (fun (x94 : Int) => AnyK C77 14 [5, 6, 7, 13] (.v (.one (.int .i64))) (fun w99 k100 => CallK Try.prog 31 #[.int .i64 x94] w99 (.v (.one (.int .i64))) (fun (x101 : Int) w102 => k100 (.int .i64 x101) w102))
  (fun (x98 : Int) => AnyK C77 15 [5, 6, 7, 13, 14] (.v (.one .bool)) (fun w104 k105 => CallK Try.prog 32 #[.pointer x3, .int .i64 s9.1, .int .i64 x98] w104 (.v (.one .bool)) (fun (x106 : Bool) w107 => k105 (.bool x106) w107))
  (fun (x103 : Bool) => ifB (!(x88 == x103))
  (SkipK C77 19 (SkipK C77 23 (SkipK C77 28 (SkipK C77 32 ((∀ w108, C77 (mem [5, 6, 7, 13, 14, 15, 19, 23, 28, 32]) w108 → K (.bool false) w108))))))
  (AnyK C77 19 [5, 6, 7, 13, 14, 15] (.v (.one (.int .i64))) (fun w110 k111 => CallK Try.prog 25 #[.pointer x1] w110 (.v (.one (.int .i64))) (fun (x112 : Int) w113 => k111 (.int .i64 x112) w113))
  (fun (x109 : Int) => optA x3 (fun a114 => AnyK C77 23 [5, 6, 7, 13, 14, 15] (.v (.one (.int .i64))) (fun w116 k117 => LdK (.int .i64) (a114.add 0) w116 (fun (x118 : Int) => k117 (.int .i64 x118) w116))
  (fun (x115 : Int) => ifB (x109 != x115)
  (SkipK C77 28 (SkipK C77 32 ((∀ w119, C77 (mem [5, 6, 7, 13, 14, 15, 19, 23, 28, 32]) w119 → K (.bool false) w119))))
  (AnyK C77 28 [5, 6, 7, 13, 14, 15, 19, 23] (.v (.one (.int .i64))) (fun w121 k122 => CallK Try.prog 26 #[.pointer x1] w121 (.v (.one (.int .i64))) (fun (x123 : Int) w124 => k122 (.int .i64 x123) w124))
  (fun (x120 : Int) => optA x3 (fun a125 => AnyK C77 32 [5, 6, 7, 13, 14, 15, 19, 23] (.v (.one (.int .i64))) (fun w127 k128 => LdK (.int .i64) (a125.add 1) w127 (fun (x129 : Int) => k128 (.int .i64 x129) w127))
  (fun (x126 : Int) => (∀ w130, C77 (mem [5, 6, 7, 13, 14, 15, 19, 23, 28, 32]) w130 → ifB (x120 != x126)
  (K (.bool false) w130)
  (next7 (IntKind.i64.wrap (s5.1 + 1), ()) w130))))))))))))))))))))))
  (CallK Try.prog 27 #[] w6 (.v (.one .bool)) (fun (x131 : Bool) w132 => K (.bool x131) w132)))
  (CallK Try.prog 27 #[] w6 (.v (.one .bool)) (fun (x133 : Bool) w134 => K (.bool x133) w134)))
  (0, ()) w4)))
def pl7 : Plan := (.seq .auto (.seq .auto (.seq .auto (.seq (.seq .auto (.block (.loop [(7, .one (.int .i64))] (.seq .auto (.seq (.block (.seq .auto (.join [(8, .one (.int .i64))] .auto (.seq .auto (.seq (.any [(5, .v (.one (.int .i64))), (6, .v (.one (.int .i64))), (7, .v (.one .bool)), (13, .v (.one (.int .i64))), (14, .v (.one (.int .i64))), (15, .v (.one .bool)), (19, .v (.one (.int .i64))), (23, .v (.one (.int .i64))), (28, .v (.one (.int .i64))), (32, .v (.one (.int .i64)))]) .auto))))) .auto))))) .auto))))
theorem e7 (p0 : Option Addr) (p0l p0c : Nat) (p1 : Option Addr) (p1l p1c : Nat) (w : World) (K : Value → World → Prop) : vcFunc Try.prog Try.f7 pl7 [.slice p0 p0l p0c, .slice p1 p1l p1c] w K = C7 p0 p0l p0c p1 p1l p1c w K := by kernel_rfl
theorem c7 (p0 : Option Addr) (p0l p0c : Nat) (p1 : Option Addr) (p1l p1c : Nat) (w : World) (K : Value → World → Prop) (h : C7 p0 p0l p0c p1 p1l p1c w K) : Ret Try.prog 7 #[.slice p0 p0l p0c, .slice p1 p1l p1c] w K := by
  rw [← e7] at h
  exact vcFunc_sound (by kernel_rfl) Try.func7 h

/-- handfast/handfastlaw20.number -/
def C31 (p0 : Int) (w : World) (K : Value → World → Prop) : Prop :=
  NzK 29 (ifB ((p0.tmod 29) == 28)
  (K (.int .i64 p0) w)
  (CallK Try.prog 23 #[.int .i64 p0, .int .i64 150] w (.v (.one (.int .i64))) (fun (x1 : Int) w2 => K (.int .i64 x1) w2)))
def pl31 : Plan := .auto
theorem e31 (p0 : Int) (w : World) (K : Value → World → Prop) : vcFunc Try.prog Try.f31 pl31 [.int .i64 p0] w K = C31 p0 w K := by kernel_rfl
theorem c31 (p0 : Int) (w : World) (K : Value → World → Prop) (h : C31 p0 w K) : Ret Try.prog 31 #[.int .i64 p0] w K := by
  rw [← e31] at h
  exact vcFunc_sound (by kernel_rfl) Try.func31 h

/-- handfast/handfastlaw20.epoch -/
def C29 (p0 : Int) (w : World) (K : Value → World → Prop) : Prop :=
  NzK 23 (ifB ((p0.tmod 23) == 22)
  (K (.int .i64 p0) w)
  (NzK 150 (CallK Try.prog 23 #[.int .i64 (IntKind.i64.wrap (p0.tdiv 150)), .int .i64 4] w (.v (.one (.int .i64))) (fun (x1 : Int) w2 => K (.int .i64 x1) w2))))
def pl29 : Plan := .auto
theorem e29 (p0 : Int) (w : World) (K : Value → World → Prop) : vcFunc Try.prog Try.f29 pl29 [.int .i64 p0] w K = C29 p0 w K := by kernel_rfl
theorem c29 (p0 : Int) (w : World) (K : Value → World → Prop) (h : C29 p0 w K) : Ret Try.prog 29 #[.int .i64 p0] w K := by
  rw [← e29] at h
  exact vcFunc_sound (by kernel_rfl) Try.func29 h

/-- handfast/handfastref17.NewWindow -/
def C28  (w : World) (K : Value → World → Prop) : Prop :=
  NewK (.cells #[.int .i64 (-1), .int .i64 (-1), .slice none 0 0] 37) w (fun g1 w2 => K (.pointer (some (⟨g1, 0, none⟩ : Addr))) w2)
def pl28 : Plan := .auto
theorem e28  (w : World) (K : Value → World → Prop) : vcFunc Try.prog Try.f28 pl28 [] w K = C28  w K := by kernel_rfl
theorem c28  (w : World) (K : Value → World → Prop) (h : C28  w K) : Ret Try.prog 28 #[] w K := by
  rw [← e28] at h
  exact vcFunc_sound (by kernel_rfl) Try.func28 h

/-- (*handfast/handfastref17.Window).Accept -/
def C32 (p0 : Addr) (p1 : Int) (p2 : Int) (w : World) (K : Value → World → Prop) : Prop :=
  ifB (decide (p1 < 0))
  (K (.bool false) w)
  (ifB (decide (p2 < 0))
  (K (.bool false) w)
  (LdK (.int .i64) (p0.add 0) w (fun (x1 : Int) => ifB (decide (p1 < x1))
  (K (.bool false) w)
  (LdK (.int .i64) (p0.add 0) w (fun (x2 : Int) => ifB (decide (p1 > x2))
  (RunK Try.prog (Instr.buildSlice 22 1 #[(0, .int .i64 p2)]) w (.v (.one .slc)) (fun (x3 : Option Addr × Nat × Nat) w4 => StK (p0.add 0) (.int .i64 p1) w4 (fun w5 => StK (p0.add 1) (.int .i64 p2) w5 (fun w6 => StK (p0.add 2) (.slice x3.1 x3.2.1 x3.2.2) w6 (fun w7 => K (.bool true) w7)))))
  (LdK (.int .i64) (p0.add 1) w (fun (x8 : Int) => ifB (decide (p2 ≤ (IntKind.i64.wrap (x8 - 64))))
  (K (.bool false) w)
  (LdK .slc (p0.add 2) w (fun (x9 : Option Addr × Nat × Nat) => LoopK (Int × Unit) (fun _ s10 w11 next12 => ifB (decide (s10.1 < (x9.2.1 : Int)))
  (IdxK x9.1 x9.2.1 s10.1 1 (fun a13 => LdK (.int .i64) a13 w11 (fun (x14 : Int) => ifB (x14 == p2)
  (K (.bool false) w11)
  (next12 (IntKind.i64.wrap (s10.1 + 1), ()) w11))))
  (LdK (.int .i64) (p0.add 1) w11 (fun (x15 : Int) => StK (p0.add 1) (.int .i64 (if p2 > x15 then p2 else x15)) w11 (fun w16 => RunK Try.prog (Instr.buildSlice 22 1 #[(0, .int .i64 p2)]) w16 (.v (.one .slc)) (fun (x17 : Option Addr × Nat × Nat) w18 => LdK .slc (p0.add 2) w18 (fun (x19 : Option Addr × Nat × Nat) => LoopK ((Option Addr × Nat × Nat) × Int × Unit) (fun _ s20 w21 next22 => ifB (decide (s20.2.1 < (x19.2.1 : Int)))
  (IdxK x19.1 x19.2.1 s20.2.1 1 (fun a23 => LdK (.int .i64) a23 w21 (fun (x24 : Int) => LdK (.int .i64) (p0.add 1) w21 (fun (x25 : Int) => ifB (decide (x24 > (IntKind.i64.wrap (x25 - 64))))
  (RunK Try.prog (Instr.buildSlice 22 1 #[(0, .int .i64 x24)]) w21 (.v (.one .slc)) (fun (x26 : Option Addr × Nat × Nat) w27 => RunK Try.prog (Builtin.append_ #[22, 22] 22 #[.slice s20.1.1 s20.1.2.1 s20.1.2.2, .slice x26.1 x26.2.1 x26.2.2]) w27 (.v (.one .slc)) (fun (x28 : Option Addr × Nat × Nat) w29 => next22 ((x28.1, x28.2.1, x28.2.2), IntKind.i64.wrap (s20.2.1 + 1), ()) w29)))
  (next22 ((s20.1.1, s20.1.2.1, s20.1.2.2), IntKind.i64.wrap (s20.2.1 + 1), ()) w21)))))
  (StK (p0.add 2) (.slice s20.1.1 s20.1.2.1 s20.1.2.2) w21 (fun w30 => K (.bool true) w30)))
  ((x17.1, x17.2.1, x17.2.2), 0, ()) w18))))))
  (0, ()) w)))))))))
def pl32 : Plan := (.seq .auto (.seq .auto (.seq .auto (.seq .auto (.seq (.seq .auto (.block (.loop [(57, .one (.int .i64))] .auto))) (.seq .auto (.seq .auto (.seq (.seq .auto (.block (.loop [(9, .one .slc), (81, .one (.int .i64))] .auto))) .auto))))))))
theorem e32 (p0 : Addr) (p1 : Int) (p2 : Int) (w : World) (K : Value → World → Prop) : vcFunc Try.prog Try.f32 pl32 [.pointer (some p0), .int .i64 p1, .int .i64 p2] w K = C32 p0 p1 p2 w K := by kernel_rfl
theorem c32 (p0 : Addr) (p1 : Int) (p2 : Int) (w : World) (K : Value → World → Prop) (h : C32 p0 p1 p2 w K) : Ret Try.prog 32 #[.pointer (some p0), .int .i64 p1, .int .i64 p2] w K := by
  rw [← e32] at h
  exact vcFunc_sound (by kernel_rfl) Try.func32 h

end Go.Proofs.Ytejhjjafmobmbaa
