/-
  The conditions of some functions, written by a program of this session, each tied to the translation by the kernel.
-/
import Derived.Test.YtejhjjafmobmbaaVcMem
import Derived.Test.YtejhjjafmobmbaaProg
import Derived.KernelRfl
namespace Go.Proofs.Ytejhjjafmobmbaa
open Vc
set_option maxRecDepth 100000
set_option linter.unusedVariables false
/-- handfast/handfastlaw17.FilePlays -/
def C16 (p0 : Int) (p1 : Option Addr) (p1l p1c : Nat) (w : World) (K : Value → World → Prop) : Prop :=
  JoinK (Int × Unit) (fun J1 => NzK 9 (ifB ((p0.tmod 9) != 8)
  (CallK Try.prog 23 #[.int .i64 p0, .int .i64 60] w (.v (.one (.int .i64))) (fun (x4 : Int) w5 => J1 (x4, ()) w5))
  (J1 (p0, ()) w)))
  (fun _ s2 w3 => CallK Try.prog 39 #[.int .i64 s2.1] w3 (.v (.one .ptr)) (fun (x6 : Option Addr) w7 => CallK Try.prog 54 #[.int .i64 s2.1] w7 (.v (.one .ptr)) (fun (x8 : Option Addr) w9 => ifB (Option.isNone x6)
  (K (.bool false) w9)
  (LoopK (Option Addr × Option Addr × Int × Unit) (fun _ s10 w11 next12 => ifB (decide (s10.2.2.1 < (p1l : Int)))
  (ifB (decide (s10.2.2.1 < 20))
  (IdxK p1 p1l s10.2.2.1 3 (fun a13 => LdsK [.int .i64, .int .i64, .slc] a13 w11 (fun (x14 : Int × Int × (Option Addr × Nat × Nat) × Unit) => NewK (.cells #[.int .i64 0, .int .i64 0, .slice none 0 0] 73) w11 (fun g15 w16 => StsK (⟨g15, 0, none⟩ : Addr) [.int .i64 x14.1, .int .i64 x14.2.1, .slice x14.2.2.1.1 x14.2.2.1.2.1 x14.2.2.1.2.2] w16 (fun w17 => LdK (.int .i64) ((⟨g15, 0, none⟩ : Addr).add 0) w17 (fun (x18 : Int) => CallK Try.prog 23 #[.int .i64 x18, .int .i64 11] w17 (.v (.one (.int .i64))) (fun (x19 : Int) w20 => JoinK (Bool × Unit) (fun J21 => ifB (x19 == 0)
  (J21 ((x19 == 0), ()) w20)
  (ifB (x19 == 1)
  (J21 ((x19 == 1), ()) w20)
  (ifB (x19 == 2)
  (J21 ((x19 == 2), ()) w20)
  (J21 ((x19 == 3), ()) w20))))
  (fun _ s22 w23 => ifB s22.1
  (LdK .slc ((⟨g15, 0, none⟩ : Addr).add 2) w23 (fun (x24 : Option Addr × Nat × Nat) => CallK Try.prog 55 #[.slice x24.1 x24.2.1 x24.2.2] w23 (.v (.one .slc)) (fun (x25 : Option Addr × Nat × Nat) w26 => RegK w26 (fun C27 => AnyK C27 2 [] (.v (.one (.int .i64))) (fun w29 k30 => CallK Try.prog 41 #[.pointer s10.1, .slice x25.1 x25.2.1 x25.2.2] w29 (.v (.one (.int .i64))) (fun (x31 : Int) w32 => k30 (.int .i64 x31) w32))
  (fun (x28 : Int) => AnyK C27 5 [] (.v (.one .slc)) (fun w34 k35 => LdK .slc ((⟨g15, 0, none⟩ : Addr).add 2) w34 (fun (x36 : Option Addr × Nat × Nat) => k35 (.slice x36.1 x36.2.1 x36.2.2) w34))
  (fun (x33 : Option Addr × Nat × Nat) => AnyK C27 6 [2, 5] (.v (.one (.int .i64))) (fun w38 k39 => CallK Try.prog 56 #[.pointer s10.2.1, .slice x33.1 x33.2.1 x33.2.2] w38 (.v (.one (.int .i64))) (fun (x40 : Int) w41 => k39 (.int .i64 x40) w41))
  (fun (x37 : Int) => ifB (x28 != x37)
  (SkipK C27 11 (SkipK C27 12 ((∀ w42, C27 (mem [2, 5, 6, 11, 12]) w42 → K (.bool false) w42))))
  (AnyK C27 11 [2, 5, 6] (.v (.one .slc)) (fun w44 k45 => LdK .slc ((⟨g15, 0, none⟩ : Addr).add 2) w44 (fun (x46 : Option Addr × Nat × Nat) => k45 (.slice x46.1 x46.2.1 x46.2.2) w44))
  (fun (x43 : Option Addr × Nat × Nat) => AnyK C27 12 [2, 5, 6, 11] (.v (.one .bool)) (fun w48 k49 => CallK Try.prog 57 #[.slice x25.1 x25.2.1 x25.2.2, .slice x43.1 x43.2.1 x43.2.2] w48 (.v (.one .bool)) (fun (x50 : Bool) w51 => k49 (.bool x50) w51))
  (fun (x47 : Bool) => (∀ w52, C27 (mem [2, 5, 6, 11, 12]) w52 → ifB (!x47)
  (K (.bool false) w52)
  (CallK Try.prog 50 #[.slice x25.1 x25.2.1 x25.2.2] w52 (.tup []) (fun (x53 : Unit) w54 => CallK Try.prog 63 #[.pointer s10.1, .pointer s10.2.1] w54 (.v (.one .bool)) (fun (x55 : Bool) w56 => ifB (!x55)
  (K (.bool false) w56)
  (CallK Try.prog 46 #[.pointer s10.1] w56 (.v (.one .slc)) (fun (x57 : Option Addr × Nat × Nat) w58 => CallK Try.prog 50 #[.slice x57.1 x57.2.1 x57.2.2] w58 (.tup []) (fun (x59 : Unit) w60 => next12 (s10.1, s10.2.1, IntKind.i64.wrap (s10.2.2.1 + 1), ()) w60)))))))))))))))))
  (JoinK (Bool × Unit) (fun J61 => ifB (x19 == 4)
  (J61 ((x19 == 4), ()) w23)
  (J61 ((x19 == 5), ()) w23))
  (fun _ s62 w63 => ifB s62.1
  (CallK Try.prog 42 #[.pointer s10.1] w63 (.v (.one (.int .i64))) (fun (x64 : Int) w65 => CallK Try.prog 58 #[.pointer s10.2.1] w65 (.v (.one (.int .i64))) (fun (x66 : Int) w67 => ifB (x64 != x66)
  (K (.bool false) w67)
  (CallK Try.prog 63 #[.pointer s10.1, .pointer s10.2.1] w67 (.v (.one .bool)) (fun (x68 : Bool) w69 => ifB (!x68)
  (K (.bool false) w69)
  (CallK Try.prog 46 #[.pointer s10.1] w69 (.v (.one .slc)) (fun (x70 : Option Addr × Nat × Nat) w71 => CallK Try.prog 50 #[.slice x70.1 x70.2.1 x70.2.2] w71 (.tup []) (fun (x72 : Unit) w73 => next12 (s10.1, s10.2.1, IntKind.i64.wrap (s10.2.2.1 + 1), ()) w73))))))))
  (ifB (x19 == 6)
  (DrewK w63 (fun w74 => LdK (.int .i64) ((⟨g15, 0, none⟩ : Addr).add 1) w74 (fun (x75 : Int) => optA s10.2.1 (fun a76 => LdK .slc (a76.add 0) w74 (fun (x77 : Option Addr × Nat × Nat) => CallK Try.prog 23 #[.int .i64 x75, .int .i64 (IntKind.i64.wrap ((x77.2.1 : Int) + 3))] w74 (.v (.one (.int .i64))) (fun (x78 : Int) w79 => CallK Try.prog 53 #[.pointer s10.1, .int .i64 (IntKind.i64.wrap (x78 - 1))] w79 (.v (.one (.int .i64))) (fun (x80 : Int) w81 => CallK Try.prog 59 #[.pointer s10.2.1, .int .i64 (IntKind.i64.wrap (x78 - 1))] w81 (.v (.one (.int .i64))) (fun (x82 : Int) w83 => ifB (x80 != x82)
  (K (.bool false) w83)
  (CallK Try.prog 63 #[.pointer s10.1, .pointer s10.2.1] w83 (.v (.one .bool)) (fun (x84 : Bool) w85 => ifB (!x84)
  (K (.bool false) w85)
  (CallK Try.prog 46 #[.pointer s10.1] w85 (.v (.one .slc)) (fun (x86 : Option Addr × Nat × Nat) w87 => CallK Try.prog 50 #[.slice x86.1 x86.2.1 x86.2.2] w87 (.tup []) (fun (x88 : Unit) w89 => next12 (s10.1, s10.2.1, IntKind.i64.wrap (s10.2.2.1 + 1), ()) w89)))))))))))))
  (ifB (x19 == 7)
  (LdK (.int .i64) ((⟨g15, 0, none⟩ : Addr).add 1) w63 (fun (x90 : Int) => CallK Try.prog 23 #[.int .i64 x90, .int .i64 5] w63 (.v (.one (.int .i64))) (fun (x91 : Int) w92 => CallK Try.prog 52 #[.pointer s10.1, .int .i64 (IntKind.i64.wrap (x91 - 1))] w92 (.tup []) (fun (x93 : Unit) w94 => LdK (.int .i64) ((⟨g15, 0, none⟩ : Addr).add 1) w94 (fun (x95 : Int) => CallK Try.prog 23 #[.int .i64 x95, .int .i64 5] w94 (.v (.one (.int .i64))) (fun (x96 : Int) w97 => CallK Try.prog 60 #[.pointer s10.2.1, .int .i64 (IntKind.i64.wrap (x96 - 1))] w97 (.tup []) (fun (x98 : Unit) w99 => CallK Try.prog 63 #[.pointer s10.1, .pointer s10.2.1] w99 (.v (.one .bool)) (fun (x100 : Bool) w101 => ifB (!x100)
  (K (.bool false) w101)
  (CallK Try.prog 46 #[.pointer s10.1] w101 (.v (.one .slc)) (fun (x102 : Option Addr × Nat × Nat) w103 => CallK Try.prog 50 #[.slice x102.1 x102.2.1 x102.2.2] w103 (.tup []) (fun (x104 : Unit) w105 => next12 (s10.1, s10.2.1, IntKind.i64.wrap (s10.2.2.1 + 1), ()) w105)))))))))))
  (JoinK (Bool × Unit) (fun J106 => ifB (x19 == 8)
  (J106 ((x19 == 8), ()) w63)
  (J106 ((x19 == 9), ()) w63))
  (fun _ s107 w108 => ifB s107.1
  (LdK (.int .i64) ((⟨g15, 0, none⟩ : Addr).add 1) w108 (fun (x109 : Int) => LdK .slc ((⟨g15, 0, none⟩ : Addr).add 2) w108 (fun (x110 : Option Addr × Nat × Nat) => CallK Try.prog 43 #[.pointer s10.1, .int .i64 x109, .int .u8 (IntKind.u8.wrap (x110.2.1 : Int))] w108 (.tup []) (fun (x111 : Unit) w112 => LdK (.int .i64) ((⟨g15, 0, none⟩ : Addr).add 1) w112 (fun (x113 : Int) => LdK .slc ((⟨g15, 0, none⟩ : Addr).add 2) w112 (fun (x114 : Option Addr × Nat × Nat) => CallK Try.prog 61 #[.pointer s10.2.1, .int .i64 x113, .int .u8 (IntKind.u8.wrap (x114.2.1 : Int))] w112 (.tup []) (fun (x115 : Unit) w116 => CallK Try.prog 63 #[.pointer s10.1, .pointer s10.2.1] w116 (.v (.one .bool)) (fun (x117 : Bool) w118 => ifB (!x117)
  (K (.bool false) w118)
  (CallK Try.prog 46 #[.pointer s10.1] w118 (.v (.one .slc)) (fun (x119 : Option Addr × Nat × Nat) w120 => CallK Try.prog 50 #[.slice x119.1 x119.2.1 x119.2.2] w120 (.tup []) (fun (x121 : Unit) w122 => next12 (s10.1, s10.2.1, IntKind.i64.wrap (s10.2.2.1 + 1), ()) w122)))))))))))
  (CallK Try.prog 51 #[.pointer s10.1] w108 (.v (.one .ptr)) (fun (x123 : Option Addr) w124 => CallK Try.prog 62 #[.pointer s10.2.1] w124 (.v (.one .ptr)) (fun (x125 : Option Addr) w126 => CallK Try.prog 63 #[.pointer x123, .pointer x125] w126 (.v (.one .bool)) (fun (x127 : Bool) w128 => ifB (!x127)
  (K (.bool false) w128)
  (CallK Try.prog 46 #[.pointer x123] w128 (.v (.one .slc)) (fun (x129 : Option Addr × Nat × Nat) w130 => CallK Try.prog 50 #[.slice x129.1 x129.2.1 x129.2.2] w130 (.tup []) (fun (x131 : Unit) w132 => next12 (x123, x125, IntKind.i64.wrap (s10.2.2.1 + 1), ()) w132)))))))))))))))))))))
  (CallK Try.prog 63 #[.pointer s10.1, .pointer s10.2.1] w11 (.v (.one .bool)) (fun (x133 : Bool) w134 => ifB x133
  (CallK Try.prog 49 #[] w134 (.v (.one .bool)) (fun (x135 : Bool) w136 => K (.bool x135) w136))
  (K (.bool false) w134))))
  (CallK Try.prog 63 #[.pointer s10.1, .pointer s10.2.1] w11 (.v (.one .bool)) (fun (x137 : Bool) w138 => ifB x137
  (CallK Try.prog 49 #[] w138 (.v (.one .bool)) (fun (x139 : Bool) w140 => K (.bool x139) w140))
  (K (.bool false) w138))))
  (x6, x8, 0, ()) w9))))
def pl16 : Plan := (.seq .auto (.join [(0, .one (.int .i64))] .auto (.seq .auto (.seq .auto (.seq (.seq .auto (.block (.loop [(5, .one .ptr), (6, .one .ptr), (7, .one (.int .i64))] (.seq .auto (.seq (.block (.seq .auto (.seq (.seq .auto (.block (.join [(43, .one .bool)] .auto (.cond (.seq .auto (.seq (.seq (.any [(2, .v (.one (.int .i64))), (5, .v (.one .slc)), (6, .v (.one (.int .i64))), (11, .v (.one .slc)), (12, .v (.one .bool))]) .auto) .auto)) (.join [(68, .one .bool)] .auto (.cond .auto (.seq .auto (.cond (.seq (.tail 8) .auto) (.seq .auto (.cond .auto (.join [(109, .one .bool)] .auto .auto))))))))))) .auto))) .auto))))) .auto)))))
theorem e16 (p0 : Int) (p1 : Option Addr) (p1l p1c : Nat) (w : World) (K : Value → World → Prop) : vcFunc Try.prog Try.f16 pl16 [.int .i64 p0, .slice p1 p1l p1c] w K = C16 p0 p1 p1l p1c w K := by kernel_rfl
theorem c16 (p0 : Int) (p1 : Option Addr) (p1l p1c : Nat) (w : World) (K : Value → World → Prop) (h : C16 p0 p1 p1l p1c w K) : Ret Try.prog 16 #[.int .i64 p0, .slice p1 p1l p1c] w K := by
  rw [← e16] at h
  exact vcFunc_sound (by kernel_rfl) Try.func16 h

end Go.Proofs.Ytejhjjafmobmbaa
