/-
  Texts of this claim, put together: CRef04, RefTree, CWithin, WithinSpec, CDigG, DigSpec, CMakeG, MakeSpec, MakeSpec2, MakeSpec3, VcPlan, PlanSpec, CWriteG, WriteSpec.
  Conditions: those of each theorem.
-/
import Derived.Test.YtbadiokobooliaaGreatDoorM0
import Derived.Test.YtbadiokobooliaaGreatDoorM1
import Derived.ChangeSame
import Derived.ChangeSlices
import Derived.KernelRfl
import Derived.Laws.IdiomStrings
import Derived.Lib.ItoaNum
import Derived.SliceStrings
import Derived.Test.YtbadiokobooliaaGreatDoorProg
/-! ### CRef04 -/
namespace Go.Proofs.YtbadiokobooliaaGreatDoor
open Vc
set_option maxRecDepth 100000
set_option linter.unusedVariables false
/-- handfast/handfastref04.form -/
def C128 (p0 : Int × ByteArray × Int × (Option Addr × Nat × Nat) × Unit) (p1 : Bool) (w : World) (K : Value → World → Prop) : Prop :=
  NewK (.cells #[.int .i64 p0.1, .string p0.2.1, .int .i64 p0.2.2.1, .slice p0.2.2.2.1.1 p0.2.2.2.1.2.1 p0.2.2.2.1.2.2] 33) w (fun g1 w2 => JoinK (Unit) (fun J3 => LdK (.int .i64) ((⟨g1, 0, none⟩ : Addr).add 0) w2 (fun (x6 : Int) => JoinK (Bool × Unit) (fun J7 => ifB (x6 == 1)
  (J7 ((x6 == 1), ()) w2)
  (ifB (x6 == 3)
  (J7 ((x6 == 3), ()) w2)
  (ifB (x6 == 4)
  (J7 ((x6 == 4), ()) w2)
  (ifB (x6 == 14)
  (J7 ((x6 == 14), ()) w2)
  (ifB (x6 == 13)
  (J7 ((x6 == 13), ()) w2)
  (ifB (x6 == 15)
  (J7 ((x6 == 15), ()) w2)
  (ifB (x6 == 16)
  (J7 ((x6 == 16), ()) w2)
  (ifB (x6 == 6)
  (J7 ((x6 == 6), ()) w2)
  (J7 ((x6 == 8), ()) w2)))))))))
  (fun _ s8 w9 => ifB s8.1
  (J3 (()) w9)
  (JoinK (Bool × Unit) (fun J10 => ifB (x6 == 2)
  (J10 ((x6 == 2), ()) w9)
  (ifB (x6 == 5)
  (J10 ((x6 == 5), ()) w9)
  (J10 ((x6 == 12), ()) w9)))
  (fun _ s11 w12 => ifB s11.1
  (LdK .str ((⟨g1, 0, none⟩ : Addr).add 1) w12 (fun (x13 : ByteArray) => CallK Tryz.prog 127 #[.string x13] w12 (.v (.one .bool)) (fun (x14 : Bool) w15 => ifB (!x14)
  (K (.bool false) w15)
  (J3 (()) w15))))
  (ifB (x6 == 7)
  (LdK (.int .i64) ((⟨g1, 0, none⟩ : Addr).add 2) w12 (fun (x16 : Int) => ifB (decide (x16 < 0))
  (K (.bool false) w12)
  (LdK (.int .i64) ((⟨g1, 0, none⟩ : Addr).add 2) w12 (fun (x17 : Int) => ifB (decide (x17 > 10000))
  (K (.bool false) w12)
  (J3 (()) w12)))))
  (ifB (x6 == 11)
  (LdK (.int .i64) ((⟨g1, 0, none⟩ : Addr).add 2) w12 (fun (x18 : Int) => CallK Tryz.prog 95 #[.int .i64 x18] w12 (.v (.one .bool)) (fun (x19 : Bool) w20 => ifB (!x19)
  (K (.bool false) w20)
  (J3 (()) w20))))
  (K (.bool false) w12))))))))
  (fun _ s4 w5 => LdK (.int .i64) ((⟨g1, 0, none⟩ : Addr).add 0) w5 (fun (x21 : Int) => ifB (!((decide (x21 ≥ 11)) == p1))
  (K (.bool false) w5)
  (LdK .slc ((⟨g1, 0, none⟩ : Addr).add 3) w5 (fun (x22 : Option Addr × Nat × Nat) => LoopK (Int × Unit) (fun _ s23 w24 next25 => ifB (decide (s23.1 < (x22.2.1 : Int)))
  (DrewK w24 (fun w26 => LdK .slc ((⟨g1, 0, none⟩ : Addr).add 3) w26 (fun (x27 : Option Addr × Nat × Nat) => IdxK x27.1 x27.2.1 s23.1 4 (fun a28 => LdsK [.int .i64, .str, .int .i64, .slc] a28 w26 (fun (x29 : Int × ByteArray × Int × (Option Addr × Nat × Nat) × Unit) => ifB p1
  (CallK Tryz.prog 128 #[.agg #[.int .i64 x29.1, .string x29.2.1, .int .i64 x29.2.2.1, .slice x29.2.2.2.1.1 x29.2.2.2.1.2.1 x29.2.2.2.1.2.2], .bool true] w26 (.v (.one .bool)) (fun (x30 : Bool) w31 => ifB (!x30)
  (K (.bool false) w31)
  (next25 (IntKind.i64.wrap (s23.1 + 1), ()) w31)))
  (ifB (s23.1 == 0)
  (LdK (.int .i64) ((⟨g1, 0, none⟩ : Addr).add 0) w26 (fun (x32 : Int) => ifB (x32 == 6)
  (CallK Tryz.prog 128 #[.agg #[.int .i64 x29.1, .string x29.2.1, .int .i64 x29.2.2.1, .slice x29.2.2.2.1.1 x29.2.2.2.1.2.1 x29.2.2.2.1.2.2], .bool true] w26 (.v (.one .bool)) (fun (x33 : Bool) w34 => ifB (!x33)
  (K (.bool false) w34)
  (next25 (IntKind.i64.wrap (s23.1 + 1), ()) w34)))
  (LdK (.int .i64) ((⟨g1, 0, none⟩ : Addr).add 0) w26 (fun (x35 : Int) => CallK Tryz.prog 128 #[.agg #[.int .i64 x29.1, .string x29.2.1, .int .i64 x29.2.2.1, .slice x29.2.2.2.1.1 x29.2.2.2.1.2.1 x29.2.2.2.1.2.2], .bool (x35 == 8)] w26 (.v (.one .bool)) (fun (x36 : Bool) w37 => ifB (!x36)
  (K (.bool false) w37)
  (next25 (IntKind.i64.wrap (s23.1 + 1), ()) w37))))))
  (CallK Tryz.prog 128 #[.agg #[.int .i64 x29.1, .string x29.2.1, .int .i64 x29.2.2.1, .slice x29.2.2.2.1.1 x29.2.2.2.1.2.1 x29.2.2.2.1.2.2], .bool false] w26 (.v (.one .bool)) (fun (x38 : Bool) w39 => ifB (!x38)
  (K (.bool false) w39)
  (next25 (IntKind.i64.wrap (s23.1 + 1), ()) w39)))))))))
  (K (.bool true) w24))
  (0, ()) w5)))))
def pl128 : Plan := (.seq .auto (.join [] (.seq .auto (.block (.join [(8, .one .bool)] .auto (.cond .auto (.join [(18, .one .bool)] .auto .auto))))) (.seq .auto (.seq (.seq .auto (.block (.loop [(50, .one (.int .i64))] (.seq .auto (.seq .auto (.seq (.block (.seq .auto (.seq (.tail 20) .auto))) .auto)))))) .auto))))
theorem e128 (p0 : Int × ByteArray × Int × (Option Addr × Nat × Nat) × Unit) (p1 : Bool) (w : World) (K : Value → World → Prop) : vcFunc Tryz.prog Tryz.f128 pl128 [.agg #[.int .i64 p0.1, .string p0.2.1, .int .i64 p0.2.2.1, .slice p0.2.2.2.1.1 p0.2.2.2.1.2.1 p0.2.2.2.1.2.2], .bool p1] w K = C128 p0 p1 w K := by kernel_rfl
theorem c128 (p0 : Int × ByteArray × Int × (Option Addr × Nat × Nat) × Unit) (p1 : Bool) (w : World) (K : Value → World → Prop) (h : C128 p0 p1 w K) : Ret Tryz.prog 128 #[.agg #[.int .i64 p0.1, .string p0.2.1, .int .i64 p0.2.2.1, .slice p0.2.2.2.1.1 p0.2.2.2.1.2.1 p0.2.2.2.1.2.2], .bool p1] w K := by
  rw [← e128] at h
  exact vcFunc_sound (by kernel_rfl) Tryz.func128 h

/-- handfast/handfastref04.Size -/
def C129 (p0 : Int × ByteArray × Int × (Option Addr × Nat × Nat) × Unit) (w : World) (K : Value → World → Prop) : Prop :=
  NewK (.cells #[.int .i64 p0.1, .string p0.2.1, .int .i64 p0.2.2.1, .slice p0.2.2.2.1.1 p0.2.2.2.1.2.1 p0.2.2.2.1.2.2] 33) w (fun g1 w2 => LdK (.int .i64) ((⟨g1, 0, none⟩ : Addr).add 0) w2 (fun (x3 : Int) => ifB (x3 == 0)
  (K (.tuple #[.int .i64 0, .int .i64 0]) w2)
  (LdK .slc ((⟨g1, 0, none⟩ : Addr).add 3) w2 (fun (x4 : Option Addr × Nat × Nat) => LoopK (Int × Int × Int × Unit) (fun _ s5 w6 next7 => ifB (decide (s5.2.2.1 < (x4.2.1 : Int)))
  (LdK .slc ((⟨g1, 0, none⟩ : Addr).add 3) w6 (fun (x8 : Option Addr × Nat × Nat) => IdxK x8.1 x8.2.1 s5.2.2.1 4 (fun a9 => LdsK [.int .i64, .str, .int .i64, .slc] a9 w6 (fun (x10 : Int × ByteArray × Int × (Option Addr × Nat × Nat) × Unit) => CallK Tryz.prog 129 #[.agg #[.int .i64 x10.1, .string x10.2.1, .int .i64 x10.2.2.1, .slice x10.2.2.2.1.1 x10.2.2.2.1.2.1 x10.2.2.2.1.2.2]] w6 (.tup [.one (.int .i64), .one (.int .i64)]) (fun (x11 : Int × Int × Unit) w12 => next7 (IntKind.i64.wrap (s5.1 + x11.1), (if x11.2.1 > s5.2.1 then x11.2.1 else s5.2.1), IntKind.i64.wrap (s5.2.2.1 + 1), ()) w12)))))
  (K (.tuple #[.int .i64 s5.1, .int .i64 (IntKind.i64.wrap (s5.2.1 + 1))]) w6))
  (1, 0, 0, ()) w2))))
def pl129 : Plan := (.seq .auto (.seq .auto (.seq .auto (.seq (.seq .auto (.block (.loop [(4, .one (.int .i64)), (5, .one (.int .i64)), (15, .one (.int .i64))] .auto))) .auto))))
theorem e129 (p0 : Int × ByteArray × Int × (Option Addr × Nat × Nat) × Unit) (w : World) (K : Value → World → Prop) : vcFunc Tryz.prog Tryz.f129 pl129 [.agg #[.int .i64 p0.1, .string p0.2.1, .int .i64 p0.2.2.1, .slice p0.2.2.2.1.1 p0.2.2.2.1.2.1 p0.2.2.2.1.2.2]] w K = C129 p0 w K := by kernel_rfl
theorem c129 (p0 : Int × ByteArray × Int × (Option Addr × Nat × Nat) × Unit) (w : World) (K : Value → World → Prop) (h : C129 p0 w K) : Ret Tryz.prog 129 #[.agg #[.int .i64 p0.1, .string p0.2.1, .int .i64 p0.2.2.1, .slice p0.2.2.2.1.1 p0.2.2.2.1.2.1 p0.2.2.2.1.2.2]] w K := by
  rw [← e129] at h
  exact vcFunc_sound (by kernel_rfl) Tryz.func129 h

/-- handfast/handfastref04.labels -/
def C130 (p0 : Int × ByteArray × Int × (Option Addr × Nat × Nat) × Unit) (w : World) (K : Value → World → Prop) : Prop :=
  NewK (.cells #[.int .i64 p0.1, .string p0.2.1, .int .i64 p0.2.2.1, .slice p0.2.2.2.1.1 p0.2.2.2.1.2.1 p0.2.2.2.1.2.2] 33) w (fun g1 w2 => JoinK ((Option Addr × Nat × Nat) × Unit) (fun J3 => LdK (.int .i64) ((⟨g1, 0, none⟩ : Addr).add 0) w2 (fun (x6 : Int) => ifB (x6 == 5)
  (LdK .str ((⟨g1, 0, none⟩ : Addr).add 1) w2 (fun (x7 : ByteArray) => RunK Tryz.prog (Instr.buildSlice 23 1 #[(0, .string x7)]) w2 (.v (.one .slc)) (fun (x8 : Option Addr × Nat × Nat) w9 => RunK Tryz.prog (Builtin.append_ #[23, 23] 23 #[.slice none 0 0, .slice x8.1 x8.2.1 x8.2.2]) w9 (.v (.one .slc)) (fun (x10 : Option Addr × Nat × Nat) w11 => J3 ((x10.1, x10.2.1, x10.2.2), ()) w11))))
  (J3 ((none, 0, 0), ()) w2)))
  (fun _ s4 w5 => LdK .slc ((⟨g1, 0, none⟩ : Addr).add 3) w5 (fun (x12 : Option Addr × Nat × Nat) => LoopK ((Option Addr × Nat × Nat) × Int × Unit) (fun _ s13 w14 next15 => ifB (decide (s13.2.1 < (x12.2.1 : Int)))
  (LdK .slc ((⟨g1, 0, none⟩ : Addr).add 3) w14 (fun (x16 : Option Addr × Nat × Nat) => IdxK x16.1 x16.2.1 s13.2.1 4 (fun a17 => LdsK [.int .i64, .str, .int .i64, .slc] a17 w14 (fun (x18 : Int × ByteArray × Int × (Option Addr × Nat × Nat) × Unit) => CallK Tryz.prog 130 #[.agg #[.int .i64 x18.1, .string x18.2.1, .int .i64 x18.2.2.1, .slice x18.2.2.2.1.1 x18.2.2.2.1.2.1 x18.2.2.2.1.2.2]] w14 (.v (.one .slc)) (fun (x19 : Option Addr × Nat × Nat) w20 => RunK Tryz.prog (Builtin.append_ #[23, 23] 23 #[.slice s13.1.1 s13.1.2.1 s13.1.2.2, .slice x19.1 x19.2.1 x19.2.2]) w20 (.v (.one .slc)) (fun (x21 : Option Addr × Nat × Nat) w22 => next15 ((x21.1, x21.2.1, x21.2.2), IntKind.i64.wrap (s13.2.1 + 1), ()) w22))))))
  (K (.slice s13.1.1 s13.1.2.1 s13.1.2.2) w14))
  ((s4.1.1, s4.1.2.1, s4.1.2.2), 0, ()) w5)))
def pl130 : Plan := (.seq .auto (.seq .auto (.join [(3, .one .slc)] .auto (.seq (.seq .auto (.block (.loop [(3, .one .slc), (16, .one (.int .i64))] .auto))) .auto))))
theorem e130 (p0 : Int × ByteArray × Int × (Option Addr × Nat × Nat) × Unit) (w : World) (K : Value → World → Prop) : vcFunc Tryz.prog Tryz.f130 pl130 [.agg #[.int .i64 p0.1, .string p0.2.1, .int .i64 p0.2.2.1, .slice p0.2.2.2.1.1 p0.2.2.2.1.2.1 p0.2.2.2.1.2.2]] w K = C130 p0 w K := by kernel_rfl
theorem c130 (p0 : Int × ByteArray × Int × (Option Addr × Nat × Nat) × Unit) (w : World) (K : Value → World → Prop) (h : C130 p0 w K) : Ret Tryz.prog 130 #[.agg #[.int .i64 p0.1, .string p0.2.1, .int .i64 p0.2.2.1, .slice p0.2.2.2.1.1 p0.2.2.2.1.2.1 p0.2.2.2.1.2.2]] w K := by
  rw [← e130] at h
  exact vcFunc_sound (by kernel_rfl) Tryz.func130 h

/-- handfast/handfastref04.Check -/
def C96 (p0 : Int × ByteArray × Int × (Option Addr × Nat × Nat) × Unit) (p1 : Bool) (w : World) (K : Value → World → Prop) : Prop :=
  NewK (.cells #[.int .i64 p0.1, .string p0.2.1, .int .i64 p0.2.2.1, .slice p0.2.2.2.1.1 p0.2.2.2.1.2.1 p0.2.2.2.1.2.2] 33) w (fun g1 w2 => LdsK [.int .i64, .str, .int .i64, .slc] (⟨g1, 0, none⟩ : Addr) w2 (fun (x3 : Int × ByteArray × Int × (Option Addr × Nat × Nat) × Unit) => CallK Tryz.prog 128 #[.agg #[.int .i64 x3.1, .string x3.2.1, .int .i64 x3.2.2.1, .slice x3.2.2.2.1.1 x3.2.2.2.1.2.1 x3.2.2.2.1.2.2], .bool p1] w2 (.v (.one .bool)) (fun (x4 : Bool) w5 => ifB (!x4)
  (K (.int .i64 2) w5)
  (LdsK [.int .i64, .str, .int .i64, .slc] (⟨g1, 0, none⟩ : Addr) w5 (fun (x6 : Int × ByteArray × Int × (Option Addr × Nat × Nat) × Unit) => CallK Tryz.prog 129 #[.agg #[.int .i64 x6.1, .string x6.2.1, .int .i64 x6.2.2.1, .slice x6.2.2.2.1.1 x6.2.2.2.1.2.1 x6.2.2.2.1.2.2]] w5 (.tup [.one (.int .i64), .one (.int .i64)]) (fun (x7 : Int × Int × Unit) w8 => ifB (decide (x7.1 > 60))
  (K (.int .i64 5) w8)
  (ifB (decide (x7.2.1 > 12))
  (K (.int .i64 5) w8)
  (LdsK [.int .i64, .str, .int .i64, .slc] (⟨g1, 0, none⟩ : Addr) w8 (fun (x9 : Int × ByteArray × Int × (Option Addr × Nat × Nat) × Unit) => CallK Tryz.prog 130 #[.agg #[.int .i64 x9.1, .string x9.2.1, .int .i64 x9.2.2.1, .slice x9.2.2.2.1.1 x9.2.2.2.1.2.1 x9.2.2.2.1.2.2]] w8 (.v (.one .slc)) (fun (x10 : Option Addr × Nat × Nat) w11 => LoopK (Int × Unit) (fun _ s12 w13 next14 => ifB (decide (s12.1 < (x10.2.1 : Int)))
  (LoopK (Int × Unit) (fun _ s15 w16 next17 => ifB (decide (s15.1 < s12.1))
  (DrewK w16 (fun w18 => IdxK x10.1 x10.2.1 s12.1 1 (fun a19 => LdK .str a19 w18 (fun (x20 : ByteArray) => IdxK x10.1 x10.2.1 s15.1 1 (fun a21 => LdK .str a21 w18 (fun (x22 : ByteArray) => ifB (x20.toList == x22.toList)
  (K (.int .i64 4) w18)
  (next17 (IntKind.i64.wrap (s15.1 + 1), ()) w18)))))))
  (next14 (IntKind.i64.wrap (s12.1 + 1), ()) w16))
  (0, ()) w13)
  (K (.int .i64 0) w13))
  (0, ()) w11))))))))))
def pl96 : Plan := (.seq .auto (.seq .auto (.seq .auto (.seq .auto (.seq (.seq .auto (.block (.loop [(29, .one (.int .i64))] (.seq .auto (.seq .auto (.seq (.block (.seq .auto (.seq .auto (.block (.loop [(9, .one (.int .i64))] (.seq .auto (.seq (.block (.seq .still .auto)) .auto))))))) .auto)))))) .auto)))))
theorem e96 (p0 : Int × ByteArray × Int × (Option Addr × Nat × Nat) × Unit) (p1 : Bool) (w : World) (K : Value → World → Prop) : vcFunc Tryz.prog Tryz.f96 pl96 [.agg #[.int .i64 p0.1, .string p0.2.1, .int .i64 p0.2.2.1, .slice p0.2.2.2.1.1 p0.2.2.2.1.2.1 p0.2.2.2.1.2.2], .bool p1] w K = C96 p0 p1 w K := by kernel_rfl
theorem c96 (p0 : Int × ByteArray × Int × (Option Addr × Nat × Nat) × Unit) (p1 : Bool) (w : World) (K : Value → World → Prop) (h : C96 p0 p1 w K) : Ret Tryz.prog 96 #[.agg #[.int .i64 p0.1, .string p0.2.1, .int .i64 p0.2.2.1, .slice p0.2.2.2.1.1 p0.2.2.2.1.2.1 p0.2.2.2.1.2.2], .bool p1] w K := by
  rw [← e96] at h
  exact vcFunc_sound (by kernel_rfl) Tryz.func96 h

/-- handfast/handfastref04.word -/
def C131 (p0 : Int) (w : World) (K : Value → World → Prop) : Prop :=
  RunK Tryz.prog (Instr.buildSlice 23 17 #[(0, .string (⟨#[]⟩ : ByteArray)), (1, .string (⟨#[122, 101, 114, 111]⟩ : ByteArray)), (2, .string (⟨#[111, 110, 101]⟩ : ByteArray)), (3, .string (⟨#[103, 105, 118, 101]⟩ : ByteArray)), (4, .string (⟨#[97, 110, 100]⟩ : ByteArray)), (5, .string (⟨#[111, 114]⟩ : ByteArray)), (6, .string (⟨#[115, 99, 97, 108, 101]⟩ : ByteArray)), (7, .string (⟨#[119, 104, 101, 110]⟩ : ByteArray)), (8, .string (⟨#[105, 102]⟩ : ByteArray)), (9, .string (⟨#[]⟩ : ByteArray)), (10, .string (⟨#[]⟩ : ByteArray)), (11, .string (⟨#[]⟩ : ByteArray)), (12, .string (⟨#[102, 105, 120]⟩ : ByteArray)), (13, .string (⟨#[97, 100, 100]⟩ : ByteArray)), (14, .string (⟨#[110, 101, 103]⟩ : ByteArray)), (15, .string (⟨#[109, 117, 108]⟩ : ByteArray)), (16, .string (⟨#[109, 97, 120]⟩ : ByteArray))]) w (.v (.one .slc)) (fun (x1 : Option Addr × Nat × Nat) w2 => IdxK x1.1 x1.2.1 p0 1 (fun a3 => LdK .str a3 w2 (fun (x4 : ByteArray) => K (.string x4) w2)))
def pl131 : Plan := .auto
theorem e131 (p0 : Int) (w : World) (K : Value → World → Prop) : vcFunc Tryz.prog Tryz.f131 pl131 [.int .i64 p0] w K = C131 p0 w K := by kernel_rfl
theorem c131 (p0 : Int) (w : World) (K : Value → World → Prop) (h : C131 p0 w K) : Ret Tryz.prog 131 #[.int .i64 p0] w K := by
  rw [← e131] at h
  exact vcFunc_sound (by kernel_rfl) Tryz.func131 h

/-- handfast/handfastref04.text -/
def C97 (p0 : Int × ByteArray × Int × (Option Addr × Nat × Nat) × Unit) (w : World) (K : Value → World → Prop) : Prop :=
  NewK (.cells #[.int .i64 p0.1, .string p0.2.1, .int .i64 p0.2.2.1, .slice p0.2.2.2.1.1 p0.2.2.2.1.2.1 p0.2.2.2.1.2.2] 33) w (fun g1 w2 => LdK (.int .i64) ((⟨g1, 0, none⟩ : Addr).add 0) w2 (fun (x3 : Int) => ifB (x3 == 11)
  (LdK (.int .i64) ((⟨g1, 0, none⟩ : Addr).add 2) w2 (fun (x4 : Int) => CallK Tryz.prog 89 #[.int .i64 x4] w2 (.v (.one .str)) (fun (x5 : ByteArray) w6 => K (.string x5) w6)))
  (ifB (x3 == 1)
  (K (.string (⟨#[122, 101, 114, 111]⟩ : ByteArray)) w2)
  (LdK (.int .i64) ((⟨g1, 0, none⟩ : Addr).add 0) w2 (fun (x7 : Int) => CallK Tryz.prog 131 #[.int .i64 x7] w2 (.v (.one .str)) (fun (x8 : ByteArray) w9 => CatK x8 (⟨#[40]⟩ : ByteArray) (JoinK (ByteArray × ByteArray × Unit) (fun J10 => JoinK (Bool × Unit) (fun J13 => LdK (.int .i64) ((⟨g1, 0, none⟩ : Addr).add 0) w9 (fun (x16 : Int) => ifB (x16 == 2)
  (J13 (true, ()) w9)
  (LdK (.int .i64) ((⟨g1, 0, none⟩ : Addr).add 0) w9 (fun (x17 : Int) => ifB (x17 == 5)
  (J13 (true, ()) w9)
  (LdK (.int .i64) ((⟨g1, 0, none⟩ : Addr).add 0) w9 (fun (x18 : Int) => J13 ((x18 == 12), ()) w9))))))
  (fun _ s14 w15 => ifB s14.1
  (LdK .str ((⟨g1, 0, none⟩ : Addr).add 1) w15 (fun (x19 : ByteArray) => CatK (x8 ++ (⟨#[40]⟩ : ByteArray)) x19 (J10 (((x8 ++ (⟨#[40]⟩ : ByteArray)) ++ x19), (⟨#[44]⟩ : ByteArray), ()) w15)))
  (J10 ((x8 ++ (⟨#[40]⟩ : ByteArray)), (⟨#[]⟩ : ByteArray), ()) w15)))
  (fun _ s11 w12 => JoinK (ByteArray × ByteArray × Unit) (fun J20 => LdK (.int .i64) ((⟨g1, 0, none⟩ : Addr).add 0) w12 (fun (x23 : Int) => ifB (x23 == 7)
  (LdK (.int .i64) ((⟨g1, 0, none⟩ : Addr).add 2) w12 (fun (x24 : Int) => CallK Tryz.prog 89 #[.int .i64 x24] w12 (.v (.one .str)) (fun (x25 : ByteArray) w26 => CatK s11.1 x25 (J20 ((s11.1 ++ x25), (⟨#[44]⟩ : ByteArray), ()) w26))))
  (J20 (s11.1, s11.2.1, ()) w12)))
  (fun _ s21 w22 => LdK .slc ((⟨g1, 0, none⟩ : Addr).add 3) w22 (fun (x27 : Option Addr × Nat × Nat) => LoopK (ByteArray × ByteArray × Int × Unit) (fun _ s28 w29 next30 => ifB (decide (s28.2.2.1 < (x27.2.1 : Int)))
  (CatK s28.1 s28.2.1 (LdK .slc ((⟨g1, 0, none⟩ : Addr).add 3) w29 (fun (x31 : Option Addr × Nat × Nat) => IdxK x31.1 x31.2.1 s28.2.2.1 4 (fun a32 => LdsK [.int .i64, .str, .int .i64, .slc] a32 w29 (fun (x33 : Int × ByteArray × Int × (Option Addr × Nat × Nat) × Unit) => CallK Tryz.prog 97 #[.agg #[.int .i64 x33.1, .string x33.2.1, .int .i64 x33.2.2.1, .slice x33.2.2.2.1.1 x33.2.2.2.1.2.1 x33.2.2.2.1.2.2]] w29 (.v (.one .str)) (fun (x34 : ByteArray) w35 => CatK (s28.1 ++ s28.2.1) x34 (next30 (((s28.1 ++ s28.2.1) ++ x34), (⟨#[44]⟩ : ByteArray), IntKind.i64.wrap (s28.2.2.1 + 1), ()) w35)))))))
  (CatK s28.1 (⟨#[41]⟩ : ByteArray) (K (.string (s28.1 ++ (⟨#[41]⟩ : ByteArray))) w29)))
  (s21.1, s21.2.1, 0, ()) w22))))))))))
def pl97 : Plan := (.seq .auto (.seq .auto (.seq .auto (.seq .auto (.join [(3, .one .str), (4, .one .str)] (.join [(31, .one .bool)] .auto .auto) (.join [(3, .one .str), (4, .one .str)] .auto (.seq (.seq .auto (.block (.loop [(3, .one .str), (4, .one .str), (47, .one (.int .i64))] .auto))) .auto)))))))
theorem e97 (p0 : Int × ByteArray × Int × (Option Addr × Nat × Nat) × Unit) (w : World) (K : Value → World → Prop) : vcFunc Tryz.prog Tryz.f97 pl97 [.agg #[.int .i64 p0.1, .string p0.2.1, .int .i64 p0.2.2.1, .slice p0.2.2.2.1.1 p0.2.2.2.1.2.1 p0.2.2.2.1.2.2]] w K = C97 p0 w K := by kernel_rfl
theorem c97 (p0 : Int × ByteArray × Int × (Option Addr × Nat × Nat) × Unit) (w : World) (K : Value → World → Prop) (h : C97 p0 w K) : Ret Tryz.prog 97 #[.agg #[.int .i64 p0.1, .string p0.2.1, .int .i64 p0.2.2.1, .slice p0.2.2.2.1.1 p0.2.2.2.1.2.1 p0.2.2.2.1.2.2]] w K := by
  rw [← e97] at h
  exact vcFunc_sound (by kernel_rfl) Tryz.func97 h

/-- handfast/handfastref04.Write -/
def C58 (p0 : Int × ByteArray × Int × (Option Addr × Nat × Nat) × Unit) (p1 : Bool) (w : World) (K : Value → World → Prop) : Prop :=
  NewK (.cells #[.int .i64 p0.1, .string p0.2.1, .int .i64 p0.2.2.1, .slice p0.2.2.2.1.1 p0.2.2.2.1.2.1 p0.2.2.2.1.2.2] 33) w (fun g1 w2 => LdsK [.int .i64, .str, .int .i64, .slc] (⟨g1, 0, none⟩ : Addr) w2 (fun (x3 : Int × ByteArray × Int × (Option Addr × Nat × Nat) × Unit) => CallK Tryz.prog 96 #[.agg #[.int .i64 x3.1, .string x3.2.1, .int .i64 x3.2.2.1, .slice x3.2.2.2.1.1 x3.2.2.2.1.2.1 x3.2.2.2.1.2.2], .bool p1] w2 (.v (.one (.int .i64))) (fun (x4 : Int) w5 => ifB (x4 != 0)
  (K (.tuple #[.string (⟨#[]⟩ : ByteArray), .int .i64 x4]) w5)
  (LdsK [.int .i64, .str, .int .i64, .slc] (⟨g1, 0, none⟩ : Addr) w5 (fun (x6 : Int × ByteArray × Int × (Option Addr × Nat × Nat) × Unit) => CallK Tryz.prog 97 #[.agg #[.int .i64 x6.1, .string x6.2.1, .int .i64 x6.2.2.1, .slice x6.2.2.2.1.1 x6.2.2.2.1.2.1 x6.2.2.2.1.2.2]] w5 (.v (.one .str)) (fun (x7 : ByteArray) w8 => ifB (decide ((x7.size : Int) > 1000))
  (K (.tuple #[.string (⟨#[]⟩ : ByteArray), .int .i64 5]) w8)
  (K (.tuple #[.string x7, .int .i64 0]) w8)))))))
def pl58 : Plan := .auto
theorem e58 (p0 : Int × ByteArray × Int × (Option Addr × Nat × Nat) × Unit) (p1 : Bool) (w : World) (K : Value → World → Prop) : vcFunc Tryz.prog Tryz.f58 pl58 [.agg #[.int .i64 p0.1, .string p0.2.1, .int .i64 p0.2.2.1, .slice p0.2.2.2.1.1 p0.2.2.2.1.2.1 p0.2.2.2.1.2.2], .bool p1] w K = C58 p0 p1 w K := by kernel_rfl
theorem c58 (p0 : Int × ByteArray × Int × (Option Addr × Nat × Nat) × Unit) (p1 : Bool) (w : World) (K : Value → World → Prop) (h : C58 p0 p1 w K) : Ret Tryz.prog 58 #[.agg #[.int .i64 p0.1, .string p0.2.1, .int .i64 p0.2.2.1, .slice p0.2.2.2.1.1 p0.2.2.2.1.2.1 p0.2.2.2.1.2.2], .bool p1] w K := by
  rw [← e58] at h
  exact vcFunc_sound (by kernel_rfl) Tryz.func58 h

/-- handfast/handfastref04.Same -/
def C65 (p0 : Int × ByteArray × Int × (Option Addr × Nat × Nat) × Unit) (p1 : Int × ByteArray × Int × (Option Addr × Nat × Nat) × Unit) (w : World) (K : Value → World → Prop) : Prop :=
  NewK (.cells #[.int .i64 p0.1, .string p0.2.1, .int .i64 p0.2.2.1, .slice p0.2.2.2.1.1 p0.2.2.2.1.2.1 p0.2.2.2.1.2.2] 33) w (fun g1 w2 => NewK (.cells #[.int .i64 p1.1, .string p1.2.1, .int .i64 p1.2.2.1, .slice p1.2.2.2.1.1 p1.2.2.2.1.2.1 p1.2.2.2.1.2.2] 33) w2 (fun g3 w4 => LdK (.int .i64) ((⟨g1, 0, none⟩ : Addr).add 0) w4 (fun (x5 : Int) => ifB (x5 == 0)
  (K (.bool false) w4)
  (LdK (.int .i64) ((⟨g1, 0, none⟩ : Addr).add 0) w4 (fun (x6 : Int) => LdK (.int .i64) ((⟨g3, 0, none⟩ : Addr).add 0) w4 (fun (x7 : Int) => ifB (x6 != x7)
  (K (.bool false) w4)
  (LdK .str ((⟨g1, 0, none⟩ : Addr).add 1) w4 (fun (x8 : ByteArray) => LdK .str ((⟨g3, 0, none⟩ : Addr).add 1) w4 (fun (x9 : ByteArray) => ifB (!(x8.toList == x9.toList))
  (K (.bool false) w4)
  (LdK (.int .i64) ((⟨g1, 0, none⟩ : Addr).add 2) w4 (fun (x10 : Int) => LdK (.int .i64) ((⟨g3, 0, none⟩ : Addr).add 2) w4 (fun (x11 : Int) => ifB (x10 != x11)
  (K (.bool false) w4)
  (LdK .slc ((⟨g1, 0, none⟩ : Addr).add 3) w4 (fun (x12 : Option Addr × Nat × Nat) => LdK .slc ((⟨g3, 0, none⟩ : Addr).add 3) w4 (fun (x13 : Option Addr × Nat × Nat) => ifB ((x12.2.1 : Int) != (x13.2.1 : Int))
  (K (.bool false) w4)
  (LdK .slc ((⟨g1, 0, none⟩ : Addr).add 3) w4 (fun (x14 : Option Addr × Nat × Nat) => LoopK (Int × Unit) (fun _ s15 w16 next17 => ifB (decide (s15.1 < (x14.2.1 : Int)))
  (DrewK w16 (fun w18 => LdK .slc ((⟨g1, 0, none⟩ : Addr).add 3) w18 (fun (x19 : Option Addr × Nat × Nat) => IdxK x19.1 x19.2.1 s15.1 4 (fun a20 => LdsK [.int .i64, .str, .int .i64, .slc] a20 w18 (fun (x21 : Int × ByteArray × Int × (Option Addr × Nat × Nat) × Unit) => LdK .slc ((⟨g3, 0, none⟩ : Addr).add 3) w18 (fun (x22 : Option Addr × Nat × Nat) => IdxK x22.1 x22.2.1 s15.1 4 (fun a23 => LdsK [.int .i64, .str, .int .i64, .slc] a23 w18 (fun (x24 : Int × ByteArray × Int × (Option Addr × Nat × Nat) × Unit) => CallK Tryz.prog 65 #[.agg #[.int .i64 x21.1, .string x21.2.1, .int .i64 x21.2.2.1, .slice x21.2.2.2.1.1 x21.2.2.2.1.2.1 x21.2.2.2.1.2.2], .agg #[.int .i64 x24.1, .string x24.2.1, .int .i64 x24.2.2.1, .slice x24.2.2.2.1.1 x24.2.2.2.1.2.1 x24.2.2.2.1.2.2]] w18 (.v (.one .bool)) (fun (x25 : Bool) w26 => ifB (!x25)
  (K (.bool false) w26)
  (next17 (IntKind.i64.wrap (s15.1 + 1), ()) w26))))))))))
  (K (.bool true) w16))
  (0, ()) w4)))))))))))))))))
def pl65 : Plan := (.seq .auto (.seq .auto (.seq (.seq .auto (.block (.loop [(42, .one (.int .i64))] (.seq .auto (.seq .auto (.seq (.block (.seq .auto (.seq (.tail 10) .auto))) .auto)))))) .auto)))
theorem e65 (p0 : Int × ByteArray × Int × (Option Addr × Nat × Nat) × Unit) (p1 : Int × ByteArray × Int × (Option Addr × Nat × Nat) × Unit) (w : World) (K : Value → World → Prop) : vcFunc Tryz.prog Tryz.f65 pl65 [.agg #[.int .i64 p0.1, .string p0.2.1, .int .i64 p0.2.2.1, .slice p0.2.2.2.1.1 p0.2.2.2.1.2.1 p0.2.2.2.1.2.2], .agg #[.int .i64 p1.1, .string p1.2.1, .int .i64 p1.2.2.1, .slice p1.2.2.2.1.1 p1.2.2.2.1.2.1 p1.2.2.2.1.2.2]] w K = C65 p0 p1 w K := by kernel_rfl
theorem c65 (p0 : Int × ByteArray × Int × (Option Addr × Nat × Nat) × Unit) (p1 : Int × ByteArray × Int × (Option Addr × Nat × Nat) × Unit) (w : World) (K : Value → World → Prop) (h : C65 p0 p1 w K) : Ret Tryz.prog 65 #[.agg #[.int .i64 p0.1, .string p0.2.1, .int .i64 p0.2.2.1, .slice p0.2.2.2.1.1 p0.2.2.2.1.2.1 p0.2.2.2.1.2.2], .agg #[.int .i64 p1.1, .string p1.2.1, .int .i64 p1.2.2.1, .slice p1.2.2.2.1.1 p1.2.2.2.1.2.1 p1.2.2.2.1.2.2]] w K := by
  rw [← e65] at h
  exact vcFunc_sound (by kernel_rfl) Tryz.func65 h

/-- handfast/handfastplay.Plain -/
def C66 (p0 : Value) (w : World) (K : Value → World → Prop) : Prop :=
  NewK (.cells #[.int .i64 0, .string (⟨#[]⟩ : ByteArray), .int .i64 0, .slice none 0 0] 33) w (fun g1 w2 => TaK p0 192 (.agg []) (fun (x3 : Unit) => NewK (.cells #[] 192) w2 (fun g4 w5 => StsK (⟨g4, 0, none⟩ : Addr) [] w5 (fun w6 => StsK (⟨g1, 0, none⟩ : Addr) [.int .i64 1, .string (⟨#[]⟩ : ByteArray), .int .i64 0, .slice none 0 0] w6 (fun w7 => LdsK [.int .i64, .str, .int .i64, .slc] (⟨g1, 0, none⟩ : Addr) w7 (fun (x8 : Int × ByteArray × Int × (Option Addr × Nat × Nat) × Unit) => K (.agg #[.int .i64 x8.1, .string x8.2.1, .int .i64 x8.2.2.1, .slice x8.2.2.2.1.1 x8.2.2.2.1.2.1 x8.2.2.2.1.2.2]) w7)))))
  (TaK p0 168 (.agg [.str]) (fun (x9 : ByteArray × Unit) => NewK (.cells #[.string (⟨#[]⟩ : ByteArray)] 168) w2 (fun g10 w11 => StsK (⟨g10, 0, none⟩ : Addr) [.string x9.1] w11 (fun w12 => LdK .str ((⟨g10, 0, none⟩ : Addr).add 0) w12 (fun (x13 : ByteArray) => StsK (⟨g1, 0, none⟩ : Addr) [.int .i64 2, .string x13, .int .i64 0, .slice none 0 0] w12 (fun w14 => LdsK [.int .i64, .str, .int .i64, .slc] (⟨g1, 0, none⟩ : Addr) w14 (fun (x15 : Int × ByteArray × Int × (Option Addr × Nat × Nat) × Unit) => K (.agg #[.int .i64 x15.1, .string x15.2.1, .int .i64 x15.2.2.1, .slice x15.2.2.2.1.1 x15.2.2.2.1.2.1 x15.2.2.2.1.2.2]) w14))))))
  (TaK p0 194 (.agg [.raw]) (fun (x16 : Value × Unit) => NewK (.cells #[.nilIface] 194) w2 (fun g17 w18 => StsK (⟨g17, 0, none⟩ : Addr) [x16.1] w18 (fun w19 => LdK .raw ((⟨g17, 0, none⟩ : Addr).add 0) w19 (fun (x20 : Value) => CallK Tryz.prog 66 #[x20] w19 (.v (.agg [.int .i64, .str, .int .i64, .slc])) (fun (x21 : Int × ByteArray × Int × (Option Addr × Nat × Nat) × Unit) w22 => RunK Tryz.prog (Instr.buildSlice 31 1 #[(0, .agg #[.int .i64 x21.1, .string x21.2.1, .int .i64 x21.2.2.1, .slice x21.2.2.2.1.1 x21.2.2.2.1.2.1 x21.2.2.2.1.2.2])]) w22 (.v (.one .slc)) (fun (x23 : Option Addr × Nat × Nat) w24 => StsK (⟨g1, 0, none⟩ : Addr) [.int .i64 3, .string (⟨#[]⟩ : ByteArray), .int .i64 0, .slice x23.1 x23.2.1 x23.2.2] w24 (fun w25 => LdsK [.int .i64, .str, .int .i64, .slc] (⟨g1, 0, none⟩ : Addr) w25 (fun (x26 : Int × ByteArray × Int × (Option Addr × Nat × Nat) × Unit) => K (.agg #[.int .i64 x26.1, .string x26.2.1, .int .i64 x26.2.2.1, .slice x26.2.2.2.1.1 x26.2.2.2.1.2.1 x26.2.2.2.1.2.2]) w25))))))))
  (TaK p0 196 (.agg [.raw, .raw]) (fun (x27 : Value × Value × Unit) => NewK (.cells #[.nilIface, .nilIface] 196) w2 (fun g28 w29 => StsK (⟨g28, 0, none⟩ : Addr) [x27.1, x27.2.1] w29 (fun w30 => DrewK w30 (fun w31 => HoldK (fun S32 => InK S32 ((⟨g28, 0, none⟩ : Addr).add 0) (LdK .raw ((⟨g28, 0, none⟩ : Addr).add 0) w31 (fun (x33 : Value) => InK S32 ((⟨g28, 0, none⟩ : Addr).add 1) (LdK .raw ((⟨g28, 0, none⟩ : Addr).add 1) w31 (fun (x34 : Value) => CallK Tryz.prog 66 #[x33] w31 (.v (.agg [.int .i64, .str, .int .i64, .slc])) (fun (x35 : Int × ByteArray × Int × (Option Addr × Nat × Nat) × Unit) w36 => KeepK S32 w31 w36 (CallK Tryz.prog 66 #[x34] w36 (.v (.agg [.int .i64, .str, .int .i64, .slc])) (fun (x37 : Int × ByteArray × Int × (Option Addr × Nat × Nat) × Unit) w38 => KeepK S32 w36 w38 (CallK Tryz.prog 105 #[.int .i64 4, .agg #[.int .i64 x35.1, .string x35.2.1, .int .i64 x35.2.2.1, .slice x35.2.2.2.1.1 x35.2.2.2.1.2.1 x35.2.2.2.1.2.2], .agg #[.int .i64 x37.1, .string x37.2.1, .int .i64 x37.2.2.1, .slice x37.2.2.2.1.1 x37.2.2.2.1.2.1 x37.2.2.2.1.2.2]] w38 (.v (.agg [.int .i64, .str, .int .i64, .slc])) (fun (x39 : Int × ByteArray × Int × (Option Addr × Nat × Nat) × Unit) w40 => KeepK S32 w38 w40 (StsK (⟨g1, 0, none⟩ : Addr) [.int .i64 x39.1, .string x39.2.1, .int .i64 x39.2.2.1, .slice x39.2.2.2.1.1 x39.2.2.2.1.2.1 x39.2.2.2.1.2.2] w40 (fun w41 => KeepK S32 w40 w41 (LdsK [.int .i64, .str, .int .i64, .slc] (⟨g1, 0, none⟩ : Addr) w41 (fun (x42 : Int × ByteArray × Int × (Option Addr × Nat × Nat) × Unit) => K (.agg #[.int .i64 x42.1, .string x42.2.1, .int .i64 x42.2.2.1, .slice x42.2.2.2.1.1 x42.2.2.2.1.2.1 x42.2.2.2.1.2.2]) w41))))))))))))))))))
  (TaK p0 199 (.agg [.str, .raw, .raw]) (fun (x43 : ByteArray × Value × Value × Unit) => NewK (.cells #[.string (⟨#[]⟩ : ByteArray), .nilIface, .nilIface] 199) w2 (fun g44 w45 => StsK (⟨g44, 0, none⟩ : Addr) [.string x43.1, x43.2.1, x43.2.2.1] w45 (fun w46 => DrewK w46 (fun w47 => HoldK (fun S48 => InK S48 ((⟨g44, 0, none⟩ : Addr).add 1) (LdK .raw ((⟨g44, 0, none⟩ : Addr).add 1) w47 (fun (x49 : Value) => InK S48 ((⟨g44, 0, none⟩ : Addr).add 2) (LdK .raw ((⟨g44, 0, none⟩ : Addr).add 2) w47 (fun (x50 : Value) => AndK (CallK Tryz.prog 66 #[x49] w47 (.v (.agg [.int .i64, .str, .int .i64, .slc])) (fun (x51 : Int × ByteArray × Int × (Option Addr × Nat × Nat) × Unit) w52 => KeepK S48 w47 w52 (AndK (CallK Tryz.prog 66 #[x50] w52 (.v (.agg [.int .i64, .str, .int .i64, .slc])) (fun (x53 : Int × ByteArray × Int × (Option Addr × Nat × Nat) × Unit) w54 => KeepK S48 w52 w54 (AndK (CallK Tryz.prog 105 #[.int .i64 5, .agg #[.int .i64 x51.1, .string x51.2.1, .int .i64 x51.2.2.1, .slice x51.2.2.2.1.1 x51.2.2.2.1.2.1 x51.2.2.2.1.2.2], .agg #[.int .i64 x53.1, .string x53.2.1, .int .i64 x53.2.2.1, .slice x53.2.2.2.1.1 x53.2.2.2.1.2.1 x53.2.2.2.1.2.2]] w54 (.v (.agg [.int .i64, .str, .int .i64, .slc])) (fun (x55 : Int × ByteArray × Int × (Option Addr × Nat × Nat) × Unit) w56 => KeepK S48 w54 w56 (NewK (.cells #[.int .i64 0, .string (⟨#[]⟩ : ByteArray), .int .i64 0, .slice none 0 0] 33) w56 (fun g57 w58 => KeepK S48 w56 w58 (StsK (⟨g57, 0, none⟩ : Addr) [.int .i64 x55.1, .string x55.2.1, .int .i64 x55.2.2.1, .slice x55.2.2.2.1.1 x55.2.2.2.1.2.1 x55.2.2.2.1.2.2] w58 (fun w59 => KeepK S48 w58 w59 (LdK .str ((⟨g44, 0, none⟩ : Addr).add 0) w59 (fun (x60 : ByteArray) => StK ((⟨g57, 0, none⟩ : Addr).add 1) (.string x60) w59 (fun w61 => LdsK [.int .i64, .str, .int .i64, .slc] (⟨g57, 0, none⟩ : Addr) w61 (fun (x62 : Int × ByteArray × Int × (Option Addr × Nat × Nat) × Unit) => StsK (⟨g1, 0, none⟩ : Addr) [.int .i64 x62.1, .string x62.2.1, .int .i64 x62.2.2.1, .slice x62.2.2.2.1.1 x62.2.2.2.1.2.1 x62.2.2.2.1.2.2] w61 (fun w63 => LdsK [.int .i64, .str, .int .i64, .slc] (⟨g1, 0, none⟩ : Addr) w63 (fun (x64 : Int × ByteArray × Int × (Option Addr × Nat × Nat) × Unit) => K (.agg #[.int .i64 x64.1, .string x64.2.1, .int .i64 x64.2.2.1, .slice x64.2.2.2.1.1 x64.2.2.2.1.2.1 x64.2.2.2.1.2.2]) w63))))))))))))
  (NewK (.cells #[.int .i64 0, .string (⟨#[]⟩ : ByteArray), .int .i64 0, .slice none 0 0] 33) w54 (fun g65 w66 => KeepK S48 w54 w66 (CallK Tryz.prog 105 #[.int .i64 5, .agg #[.int .i64 x51.1, .string x51.2.1, .int .i64 x51.2.2.1, .slice x51.2.2.2.1.1 x51.2.2.2.1.2.1 x51.2.2.2.1.2.2], .agg #[.int .i64 x53.1, .string x53.2.1, .int .i64 x53.2.2.1, .slice x53.2.2.2.1.1 x53.2.2.2.1.2.1 x53.2.2.2.1.2.2]] w66 (.v (.agg [.int .i64, .str, .int .i64, .slc])) (fun (x67 : Int × ByteArray × Int × (Option Addr × Nat × Nat) × Unit) w68 => KeepK S48 w66 w68 (StsK (⟨g65, 0, none⟩ : Addr) [.int .i64 x67.1, .string x67.2.1, .int .i64 x67.2.2.1, .slice x67.2.2.2.1.1 x67.2.2.2.1.2.1 x67.2.2.2.1.2.2] w68 (fun w69 => KeepK S48 w68 w69 (LdK .str ((⟨g44, 0, none⟩ : Addr).add 0) w69 (fun (x70 : ByteArray) => StK ((⟨g65, 0, none⟩ : Addr).add 1) (.string x70) w69 (fun w71 => LdsK [.int .i64, .str, .int .i64, .slc] (⟨g65, 0, none⟩ : Addr) w71 (fun (x72 : Int × ByteArray × Int × (Option Addr × Nat × Nat) × Unit) => StsK (⟨g1, 0, none⟩ : Addr) [.int .i64 x72.1, .string x72.2.1, .int .i64 x72.2.2.1, .slice x72.2.2.2.1.1 x72.2.2.2.1.2.1 x72.2.2.2.1.2.2] w71 (fun w73 => LdsK [.int .i64, .str, .int .i64, .slc] (⟨g1, 0, none⟩ : Addr) w73 (fun (x74 : Int × ByteArray × Int × (Option Addr × Nat × Nat) × Unit) => K (.agg #[.int .i64 x74.1, .string x74.2.1, .int .i64 x74.2.2.1, .slice x74.2.2.2.1.1 x74.2.2.2.1.2.1 x74.2.2.2.1.2.2]) w73)))))))))))))))
  (NewK (.cells #[.int .i64 0, .string (⟨#[]⟩ : ByteArray), .int .i64 0, .slice none 0 0] 33) w52 (fun g75 w76 => KeepK S48 w52 w76 (CallK Tryz.prog 66 #[x50] w76 (.v (.agg [.int .i64, .str, .int .i64, .slc])) (fun (x77 : Int × ByteArray × Int × (Option Addr × Nat × Nat) × Unit) w78 => KeepK S48 w76 w78 (CallK Tryz.prog 105 #[.int .i64 5, .agg #[.int .i64 x51.1, .string x51.2.1, .int .i64 x51.2.2.1, .slice x51.2.2.2.1.1 x51.2.2.2.1.2.1 x51.2.2.2.1.2.2], .agg #[.int .i64 x77.1, .string x77.2.1, .int .i64 x77.2.2.1, .slice x77.2.2.2.1.1 x77.2.2.2.1.2.1 x77.2.2.2.1.2.2]] w78 (.v (.agg [.int .i64, .str, .int .i64, .slc])) (fun (x79 : Int × ByteArray × Int × (Option Addr × Nat × Nat) × Unit) w80 => KeepK S48 w78 w80 (StsK (⟨g75, 0, none⟩ : Addr) [.int .i64 x79.1, .string x79.2.1, .int .i64 x79.2.2.1, .slice x79.2.2.2.1.1 x79.2.2.2.1.2.1 x79.2.2.2.1.2.2] w80 (fun w81 => KeepK S48 w80 w81 (LdK .str ((⟨g44, 0, none⟩ : Addr).add 0) w81 (fun (x82 : ByteArray) => StK ((⟨g75, 0, none⟩ : Addr).add 1) (.string x82) w81 (fun w83 => LdsK [.int .i64, .str, .int .i64, .slc] (⟨g75, 0, none⟩ : Addr) w83 (fun (x84 : Int × ByteArray × Int × (Option Addr × Nat × Nat) × Unit) => StsK (⟨g1, 0, none⟩ : Addr) [.int .i64 x84.1, .string x84.2.1, .int .i64 x84.2.2.1, .slice x84.2.2.2.1.1 x84.2.2.2.1.2.1 x84.2.2.2.1.2.2] w83 (fun w85 => LdsK [.int .i64, .str, .int .i64, .slc] (⟨g1, 0, none⟩ : Addr) w85 (fun (x86 : Int × ByteArray × Int × (Option Addr × Nat × Nat) × Unit) => K (.agg #[.int .i64 x86.1, .string x86.2.1, .int .i64 x86.2.2.1, .slice x86.2.2.2.1.1 x86.2.2.2.1.2.1 x86.2.2.2.1.2.2]) w85)))))))))))))))))
  (NewK (.cells #[.int .i64 0, .string (⟨#[]⟩ : ByteArray), .int .i64 0, .slice none 0 0] 33) w47 (fun g87 w88 => KeepK S48 w47 w88 (CallK Tryz.prog 66 #[x49] w88 (.v (.agg [.int .i64, .str, .int .i64, .slc])) (fun (x89 : Int × ByteArray × Int × (Option Addr × Nat × Nat) × Unit) w90 => KeepK S48 w88 w90 (CallK Tryz.prog 66 #[x50] w90 (.v (.agg [.int .i64, .str, .int .i64, .slc])) (fun (x91 : Int × ByteArray × Int × (Option Addr × Nat × Nat) × Unit) w92 => KeepK S48 w90 w92 (CallK Tryz.prog 105 #[.int .i64 5, .agg #[.int .i64 x89.1, .string x89.2.1, .int .i64 x89.2.2.1, .slice x89.2.2.2.1.1 x89.2.2.2.1.2.1 x89.2.2.2.1.2.2], .agg #[.int .i64 x91.1, .string x91.2.1, .int .i64 x91.2.2.1, .slice x91.2.2.2.1.1 x91.2.2.2.1.2.1 x91.2.2.2.1.2.2]] w92 (.v (.agg [.int .i64, .str, .int .i64, .slc])) (fun (x93 : Int × ByteArray × Int × (Option Addr × Nat × Nat) × Unit) w94 => KeepK S48 w92 w94 (StsK (⟨g87, 0, none⟩ : Addr) [.int .i64 x93.1, .string x93.2.1, .int .i64 x93.2.2.1, .slice x93.2.2.2.1.1 x93.2.2.2.1.2.1 x93.2.2.2.1.2.2] w94 (fun w95 => KeepK S48 w94 w95 (LdK .str ((⟨g44, 0, none⟩ : Addr).add 0) w95 (fun (x96 : ByteArray) => StK ((⟨g87, 0, none⟩ : Addr).add 1) (.string x96) w95 (fun w97 => LdsK [.int .i64, .str, .int .i64, .slc] (⟨g87, 0, none⟩ : Addr) w97 (fun (x98 : Int × ByteArray × Int × (Option Addr × Nat × Nat) × Unit) => StsK (⟨g1, 0, none⟩ : Addr) [.int .i64 x98.1, .string x98.2.1, .int .i64 x98.2.2.1, .slice x98.2.2.2.1.1 x98.2.2.2.1.2.1 x98.2.2.2.1.2.2] w97 (fun w99 => LdsK [.int .i64, .str, .int .i64, .slc] (⟨g1, 0, none⟩ : Addr) w99 (fun (x100 : Int × ByteArray × Int × (Option Addr × Nat × Nat) × Unit) => K (.agg #[.int .i64 x100.1, .string x100.2.1, .int .i64 x100.2.2.1, .slice x100.2.2.2.1.1 x100.2.2.2.1.2.1 x100.2.2.2.1.2.2]) w99)))))))))))))))))))))))))
  (TaK p0 202 (.agg [.raw, .raw]) (fun (x101 : Value × Value × Unit) => NewK (.cells #[.nilIface, .nilIface] 202) w2 (fun g102 w103 => StsK (⟨g102, 0, none⟩ : Addr) [x101.1, x101.2.1] w103 (fun w104 => DrewK w104 (fun w105 => HoldK (fun S106 => InK S106 ((⟨g102, 0, none⟩ : Addr).add 0) (LdK .raw ((⟨g102, 0, none⟩ : Addr).add 0) w105 (fun (x107 : Value) => InK S106 ((⟨g102, 0, none⟩ : Addr).add 1) (LdK .raw ((⟨g102, 0, none⟩ : Addr).add 1) w105 (fun (x108 : Value) => CallK Tryz.prog 106 #[x107] w105 (.v (.agg [.int .i64, .str, .int .i64, .slc])) (fun (x109 : Int × ByteArray × Int × (Option Addr × Nat × Nat) × Unit) w110 => KeepK S106 w105 w110 (CallK Tryz.prog 66 #[x108] w110 (.v (.agg [.int .i64, .str, .int .i64, .slc])) (fun (x111 : Int × ByteArray × Int × (Option Addr × Nat × Nat) × Unit) w112 => KeepK S106 w110 w112 (CallK Tryz.prog 105 #[.int .i64 6, .agg #[.int .i64 x109.1, .string x109.2.1, .int .i64 x109.2.2.1, .slice x109.2.2.2.1.1 x109.2.2.2.1.2.1 x109.2.2.2.1.2.2], .agg #[.int .i64 x111.1, .string x111.2.1, .int .i64 x111.2.2.1, .slice x111.2.2.2.1.1 x111.2.2.2.1.2.1 x111.2.2.2.1.2.2]] w112 (.v (.agg [.int .i64, .str, .int .i64, .slc])) (fun (x113 : Int × ByteArray × Int × (Option Addr × Nat × Nat) × Unit) w114 => KeepK S106 w112 w114 (StsK (⟨g1, 0, none⟩ : Addr) [.int .i64 x113.1, .string x113.2.1, .int .i64 x113.2.2.1, .slice x113.2.2.2.1.1 x113.2.2.2.1.2.1 x113.2.2.2.1.2.2] w114 (fun w115 => KeepK S106 w114 w115 (LdsK [.int .i64, .str, .int .i64, .slc] (⟨g1, 0, none⟩ : Addr) w115 (fun (x116 : Int × ByteArray × Int × (Option Addr × Nat × Nat) × Unit) => K (.agg #[.int .i64 x116.1, .string x116.2.1, .int .i64 x116.2.2.1, .slice x116.2.2.2.1.1 x116.2.2.2.1.2.1 x116.2.2.2.1.2.2]) w115))))))))))))))))))
  (TaK p0 205 (.agg [.int .i64, .raw]) (fun (x117 : Int × Value × Unit) => NewK (.cells #[.int .i64 0, .nilIface] 205) w2 (fun g118 w119 => StsK (⟨g118, 0, none⟩ : Addr) [.int .i64 x117.1, x117.2.1] w119 (fun w120 => DrewK w120 (fun w121 => HoldK (fun S122 => InK S122 ((⟨g118, 0, none⟩ : Addr).add 0) (LdK (.int .i64) ((⟨g118, 0, none⟩ : Addr).add 0) w121 (fun (x123 : Int) => InK S122 ((⟨g118, 0, none⟩ : Addr).add 1) (LdK .raw ((⟨g118, 0, none⟩ : Addr).add 1) w121 (fun (x124 : Value) => CallK Tryz.prog 66 #[x124] w121 (.v (.agg [.int .i64, .str, .int .i64, .slc])) (fun (x125 : Int × ByteArray × Int × (Option Addr × Nat × Nat) × Unit) w126 => KeepK S122 w121 w126 (RunK Tryz.prog (Instr.buildSlice 31 1 #[(0, .agg #[.int .i64 x125.1, .string x125.2.1, .int .i64 x125.2.2.1, .slice x125.2.2.2.1.1 x125.2.2.2.1.2.1 x125.2.2.2.1.2.2])]) w126 (.v (.one .slc)) (fun (x127 : Option Addr × Nat × Nat) w128 => KeepK S122 w126 w128 (StsK (⟨g1, 0, none⟩ : Addr) [.int .i64 7, .string (⟨#[]⟩ : ByteArray), .int .i64 x123, .slice x127.1 x127.2.1 x127.2.2] w128 (fun w129 => KeepK S122 w128 w129 (LdsK [.int .i64, .str, .int .i64, .slc] (⟨g1, 0, none⟩ : Addr) w129 (fun (x130 : Int × ByteArray × Int × (Option Addr × Nat × Nat) × Unit) => K (.agg #[.int .i64 x130.1, .string x130.2.1, .int .i64 x130.2.2.1, .slice x130.2.2.2.1.1 x130.2.2.2.1.2.1 x130.2.2.2.1.2.2]) w129))))))))))))))))
  (TaK p0 207 (.agg [.raw, .raw, .raw]) (fun (x131 : Value × Value × Value × Unit) => NewK (.cells #[.nilIface, .nilIface, .nilIface] 207) w2 (fun g132 w133 => StsK (⟨g132, 0, none⟩ : Addr) [x131.1, x131.2.1, x131.2.2.1] w133 (fun w134 => DrewK w134 (fun w135 => HoldK (fun S136 => InK S136 ((⟨g132, 0, none⟩ : Addr).add 0) (LdK .raw ((⟨g132, 0, none⟩ : Addr).add 0) w135 (fun (x137 : Value) => InK S136 ((⟨g132, 0, none⟩ : Addr).add 1) (LdK .raw ((⟨g132, 0, none⟩ : Addr).add 1) w135 (fun (x138 : Value) => InK S136 ((⟨g132, 0, none⟩ : Addr).add 2) (LdK .raw ((⟨g132, 0, none⟩ : Addr).add 2) w135 (fun (x139 : Value) => CallK Tryz.prog 106 #[x137] w135 (.v (.agg [.int .i64, .str, .int .i64, .slc])) (fun (x140 : Int × ByteArray × Int × (Option Addr × Nat × Nat) × Unit) w141 => KeepK S136 w135 w141 (CallK Tryz.prog 66 #[x138] w141 (.v (.agg [.int .i64, .str, .int .i64, .slc])) (fun (x142 : Int × ByteArray × Int × (Option Addr × Nat × Nat) × Unit) w143 => KeepK S136 w141 w143 (CallK Tryz.prog 66 #[x139] w143 (.v (.agg [.int .i64, .str, .int .i64, .slc])) (fun (x144 : Int × ByteArray × Int × (Option Addr × Nat × Nat) × Unit) w145 => KeepK S136 w143 w145 (RunK Tryz.prog (Instr.buildSlice 31 3 #[(0, .agg #[.int .i64 x140.1, .string x140.2.1, .int .i64 x140.2.2.1, .slice x140.2.2.2.1.1 x140.2.2.2.1.2.1 x140.2.2.2.1.2.2]), (1, .agg #[.int .i64 x142.1, .string x142.2.1, .int .i64 x142.2.2.1, .slice x142.2.2.2.1.1 x142.2.2.2.1.2.1 x142.2.2.2.1.2.2]), (2, .agg #[.int .i64 x144.1, .string x144.2.1, .int .i64 x144.2.2.1, .slice x144.2.2.2.1.1 x144.2.2.2.1.2.1 x144.2.2.2.1.2.2])]) w145 (.v (.one .slc)) (fun (x146 : Option Addr × Nat × Nat) w147 => KeepK S136 w145 w147 (StsK (⟨g1, 0, none⟩ : Addr) [.int .i64 8, .string (⟨#[]⟩ : ByteArray), .int .i64 0, .slice x146.1 x146.2.1 x146.2.2] w147 (fun w148 => KeepK S136 w147 w148 (LdsK [.int .i64, .str, .int .i64, .slc] (⟨g1, 0, none⟩ : Addr) w148 (fun (x149 : Int × ByteArray × Int × (Option Addr × Nat × Nat) × Unit) => K (.agg #[.int .i64 x149.1, .string x149.2.1, .int .i64 x149.2.2.1, .slice x149.2.2.2.1.1 x149.2.2.2.1.2.1 x149.2.2.2.1.2.2]) w148))))))))))))))))))))))
  (StsK (⟨g1, 0, none⟩ : Addr) [.int .i64 0, .string (⟨#[]⟩ : ByteArray), .int .i64 0, .slice none 0 0] w2 (fun w150 => LdsK [.int .i64, .str, .int .i64, .slc] (⟨g1, 0, none⟩ : Addr) w150 (fun (x151 : Int × ByteArray × Int × (Option Addr × Nat × Nat) × Unit) => K (.agg #[.int .i64 x151.1, .string x151.2.1, .int .i64 x151.2.2.1, .slice x151.2.2.2.1.1 x151.2.2.2.1.2.1 x151.2.2.2.1.2.2]) w150)))))))))))
def pl66 : Plan := (.seq .auto (.seq (.seq .auto (.block (.seq .auto (.cond .auto (.seq .auto (.cond .auto (.seq .auto (.cond .auto (.seq .auto (.cond (.seq .auto (.seq (.held (.soft 0 (.soft 1 (.soft 3 (.soft 4 (.pick 2 (.pick 5 (.pick 6 (.pick 7 .done .stop) .stop) .stop) .stop)))))) .auto)) (.seq .auto (.cond (.seq .auto (.seq (.held (.soft 0 (.soft 1 (.soft 3 (.soft 4 (.pick 2 (.pick 5 (.pick 6 (.pick 7 (.pick 8 .done .stop) .stop) (.pick 7 (.pick 6 (.pick 8 .done .stop) .stop) .stop)) (.pick 7 (.pick 5 (.pick 6 (.pick 8 .done .stop) .stop) .stop) .stop)) (.pick 7 (.pick 2 (.pick 5 (.pick 6 (.pick 8 .done .stop) .stop) .stop) .stop) .stop))))))) .auto)) (.seq .auto (.cond (.seq .auto (.seq (.held (.soft 0 (.soft 1 (.soft 3 (.soft 4 (.pick 2 (.pick 5 (.pick 6 (.pick 7 .done .stop) .stop) .stop) .stop)))))) .auto)) (.seq .auto (.cond (.seq .auto (.seq (.held (.soft 0 (.soft 1 (.soft 2 (.soft 3 (.pick 4 (.pick 5 (.soft 6 (.pick 7 .done .stop)) .stop) .stop)))))) .auto)) (.seq .auto (.cond (.seq .auto (.seq (.held (.soft 0 (.soft 1 (.soft 3 (.soft 4 (.soft 6 (.soft 7 (.pick 2 (.pick 5 (.pick 8 (.pick 9 (.soft 10 (.pick 11 .done .stop)) .stop) .stop) .stop) .stop)))))))) .auto)) .auto)))))))))))))))))) .auto))
theorem e66 (p0 : Value) (w : World) (K : Value → World → Prop) : vcFunc Tryz.prog Tryz.f66 pl66 [p0] w K = C66 p0 w K := by kernel_rfl
theorem c66 (p0 : Value) (w : World) (K : Value → World → Prop) (h : C66 p0 w K) : Ret Tryz.prog 66 #[p0] w K := by
  rw [← e66] at h
  exact vcFunc_sound (by kernel_rfl) Tryz.func66 h

/-- handfast/handfastplay.PlainObs -/
def C106 (p0 : Value) (w : World) (K : Value → World → Prop) : Prop :=
  NewK (.cells #[.int .i64 0, .string (⟨#[]⟩ : ByteArray), .int .i64 0, .slice none 0 0] 33) w (fun g1 w2 => TaK p0 174 (.agg [.int .i64]) (fun (x3 : Int × Unit) => NewK (.cells #[.int .i64 0] 174) w2 (fun g4 w5 => StsK (⟨g4, 0, none⟩ : Addr) [.int .i64 x3.1] w5 (fun w6 => LdK (.int .i64) ((⟨g4, 0, none⟩ : Addr).add 0) w6 (fun (x7 : Int) => StsK (⟨g1, 0, none⟩ : Addr) [.int .i64 11, .string (⟨#[]⟩ : ByteArray), .int .i64 x7, .slice none 0 0] w6 (fun w8 => LdsK [.int .i64, .str, .int .i64, .slc] (⟨g1, 0, none⟩ : Addr) w8 (fun (x9 : Int × ByteArray × Int × (Option Addr × Nat × Nat) × Unit) => K (.agg #[.int .i64 x9.1, .string x9.2.1, .int .i64 x9.2.2.1, .slice x9.2.2.2.1.1 x9.2.2.2.1.2.1 x9.2.2.2.1.2.2]) w8))))))
  (TaK p0 251 (.agg [.str]) (fun (x10 : ByteArray × Unit) => NewK (.cells #[.string (⟨#[]⟩ : ByteArray)] 251) w2 (fun g11 w12 => StsK (⟨g11, 0, none⟩ : Addr) [.string x10.1] w12 (fun w13 => LdK .str ((⟨g11, 0, none⟩ : Addr).add 0) w13 (fun (x14 : ByteArray) => StsK (⟨g1, 0, none⟩ : Addr) [.int .i64 12, .string x14, .int .i64 0, .slice none 0 0] w13 (fun w15 => LdsK [.int .i64, .str, .int .i64, .slc] (⟨g1, 0, none⟩ : Addr) w15 (fun (x16 : Int × ByteArray × Int × (Option Addr × Nat × Nat) × Unit) => K (.agg #[.int .i64 x16.1, .string x16.2.1, .int .i64 x16.2.2.1, .slice x16.2.2.2.1.1 x16.2.2.2.1.2.1 x16.2.2.2.1.2.2]) w15))))))
  (TaK p0 253 (.agg [.raw, .raw]) (fun (x17 : Value × Value × Unit) => NewK (.cells #[.nilIface, .nilIface] 253) w2 (fun g18 w19 => StsK (⟨g18, 0, none⟩ : Addr) [x17.1, x17.2.1] w19 (fun w20 => DrewK w20 (fun w21 => HoldK (fun S22 => InK S22 ((⟨g18, 0, none⟩ : Addr).add 0) (LdK .raw ((⟨g18, 0, none⟩ : Addr).add 0) w21 (fun (x23 : Value) => InK S22 ((⟨g18, 0, none⟩ : Addr).add 1) (LdK .raw ((⟨g18, 0, none⟩ : Addr).add 1) w21 (fun (x24 : Value) => CallK Tryz.prog 106 #[x23] w21 (.v (.agg [.int .i64, .str, .int .i64, .slc])) (fun (x25 : Int × ByteArray × Int × (Option Addr × Nat × Nat) × Unit) w26 => KeepK S22 w21 w26 (CallK Tryz.prog 106 #[x24] w26 (.v (.agg [.int .i64, .str, .int .i64, .slc])) (fun (x27 : Int × ByteArray × Int × (Option Addr × Nat × Nat) × Unit) w28 => KeepK S22 w26 w28 (CallK Tryz.prog 105 #[.int .i64 13, .agg #[.int .i64 x25.1, .string x25.2.1, .int .i64 x25.2.2.1, .slice x25.2.2.2.1.1 x25.2.2.2.1.2.1 x25.2.2.2.1.2.2], .agg #[.int .i64 x27.1, .string x27.2.1, .int .i64 x27.2.2.1, .slice x27.2.2.2.1.1 x27.2.2.2.1.2.1 x27.2.2.2.1.2.2]] w28 (.v (.agg [.int .i64, .str, .int .i64, .slc])) (fun (x29 : Int × ByteArray × Int × (Option Addr × Nat × Nat) × Unit) w30 => KeepK S22 w28 w30 (StsK (⟨g1, 0, none⟩ : Addr) [.int .i64 x29.1, .string x29.2.1, .int .i64 x29.2.2.1, .slice x29.2.2.2.1.1 x29.2.2.2.1.2.1 x29.2.2.2.1.2.2] w30 (fun w31 => KeepK S22 w30 w31 (LdsK [.int .i64, .str, .int .i64, .slc] (⟨g1, 0, none⟩ : Addr) w31 (fun (x32 : Int × ByteArray × Int × (Option Addr × Nat × Nat) × Unit) => K (.agg #[.int .i64 x32.1, .string x32.2.1, .int .i64 x32.2.2.1, .slice x32.2.2.2.1.1 x32.2.2.2.1.2.1 x32.2.2.2.1.2.2]) w31))))))))))))))))))
  (TaK p0 255 (.agg [.raw]) (fun (x33 : Value × Unit) => NewK (.cells #[.nilIface] 255) w2 (fun g34 w35 => StsK (⟨g34, 0, none⟩ : Addr) [x33.1] w35 (fun w36 => LdK .raw ((⟨g34, 0, none⟩ : Addr).add 0) w36 (fun (x37 : Value) => CallK Tryz.prog 106 #[x37] w36 (.v (.agg [.int .i64, .str, .int .i64, .slc])) (fun (x38 : Int × ByteArray × Int × (Option Addr × Nat × Nat) × Unit) w39 => RunK Tryz.prog (Instr.buildSlice 31 1 #[(0, .agg #[.int .i64 x38.1, .string x38.2.1, .int .i64 x38.2.2.1, .slice x38.2.2.2.1.1 x38.2.2.2.1.2.1 x38.2.2.2.1.2.2])]) w39 (.v (.one .slc)) (fun (x40 : Option Addr × Nat × Nat) w41 => StsK (⟨g1, 0, none⟩ : Addr) [.int .i64 14, .string (⟨#[]⟩ : ByteArray), .int .i64 0, .slice x40.1 x40.2.1 x40.2.2] w41 (fun w42 => LdsK [.int .i64, .str, .int .i64, .slc] (⟨g1, 0, none⟩ : Addr) w42 (fun (x43 : Int × ByteArray × Int × (Option Addr × Nat × Nat) × Unit) => K (.agg #[.int .i64 x43.1, .string x43.2.1, .int .i64 x43.2.2.1, .slice x43.2.2.2.1.1 x43.2.2.2.1.2.1 x43.2.2.2.1.2.2]) w42))))))))
  (TaK p0 256 (.agg [.raw, .raw]) (fun (x44 : Value × Value × Unit) => NewK (.cells #[.nilIface, .nilIface] 256) w2 (fun g45 w46 => StsK (⟨g45, 0, none⟩ : Addr) [x44.1, x44.2.1] w46 (fun w47 => DrewK w47 (fun w48 => HoldK (fun S49 => InK S49 ((⟨g45, 0, none⟩ : Addr).add 0) (LdK .raw ((⟨g45, 0, none⟩ : Addr).add 0) w48 (fun (x50 : Value) => InK S49 ((⟨g45, 0, none⟩ : Addr).add 1) (LdK .raw ((⟨g45, 0, none⟩ : Addr).add 1) w48 (fun (x51 : Value) => CallK Tryz.prog 106 #[x50] w48 (.v (.agg [.int .i64, .str, .int .i64, .slc])) (fun (x52 : Int × ByteArray × Int × (Option Addr × Nat × Nat) × Unit) w53 => KeepK S49 w48 w53 (CallK Tryz.prog 106 #[x51] w53 (.v (.agg [.int .i64, .str, .int .i64, .slc])) (fun (x54 : Int × ByteArray × Int × (Option Addr × Nat × Nat) × Unit) w55 => KeepK S49 w53 w55 (CallK Tryz.prog 105 #[.int .i64 15, .agg #[.int .i64 x52.1, .string x52.2.1, .int .i64 x52.2.2.1, .slice x52.2.2.2.1.1 x52.2.2.2.1.2.1 x52.2.2.2.1.2.2], .agg #[.int .i64 x54.1, .string x54.2.1, .int .i64 x54.2.2.1, .slice x54.2.2.2.1.1 x54.2.2.2.1.2.1 x54.2.2.2.1.2.2]] w55 (.v (.agg [.int .i64, .str, .int .i64, .slc])) (fun (x56 : Int × ByteArray × Int × (Option Addr × Nat × Nat) × Unit) w57 => KeepK S49 w55 w57 (StsK (⟨g1, 0, none⟩ : Addr) [.int .i64 x56.1, .string x56.2.1, .int .i64 x56.2.2.1, .slice x56.2.2.2.1.1 x56.2.2.2.1.2.1 x56.2.2.2.1.2.2] w57 (fun w58 => KeepK S49 w57 w58 (LdsK [.int .i64, .str, .int .i64, .slc] (⟨g1, 0, none⟩ : Addr) w58 (fun (x59 : Int × ByteArray × Int × (Option Addr × Nat × Nat) × Unit) => K (.agg #[.int .i64 x59.1, .string x59.2.1, .int .i64 x59.2.2.1, .slice x59.2.2.2.1.1 x59.2.2.2.1.2.1 x59.2.2.2.1.2.2]) w58))))))))))))))))))
  (TaK p0 257 (.agg [.raw, .raw]) (fun (x60 : Value × Value × Unit) => NewK (.cells #[.nilIface, .nilIface] 257) w2 (fun g61 w62 => StsK (⟨g61, 0, none⟩ : Addr) [x60.1, x60.2.1] w62 (fun w63 => DrewK w63 (fun w64 => HoldK (fun S65 => InK S65 ((⟨g61, 0, none⟩ : Addr).add 0) (LdK .raw ((⟨g61, 0, none⟩ : Addr).add 0) w64 (fun (x66 : Value) => InK S65 ((⟨g61, 0, none⟩ : Addr).add 1) (LdK .raw ((⟨g61, 0, none⟩ : Addr).add 1) w64 (fun (x67 : Value) => CallK Tryz.prog 106 #[x66] w64 (.v (.agg [.int .i64, .str, .int .i64, .slc])) (fun (x68 : Int × ByteArray × Int × (Option Addr × Nat × Nat) × Unit) w69 => KeepK S65 w64 w69 (CallK Tryz.prog 106 #[x67] w69 (.v (.agg [.int .i64, .str, .int .i64, .slc])) (fun (x70 : Int × ByteArray × Int × (Option Addr × Nat × Nat) × Unit) w71 => KeepK S65 w69 w71 (CallK Tryz.prog 105 #[.int .i64 16, .agg #[.int .i64 x68.1, .string x68.2.1, .int .i64 x68.2.2.1, .slice x68.2.2.2.1.1 x68.2.2.2.1.2.1 x68.2.2.2.1.2.2], .agg #[.int .i64 x70.1, .string x70.2.1, .int .i64 x70.2.2.1, .slice x70.2.2.2.1.1 x70.2.2.2.1.2.1 x70.2.2.2.1.2.2]] w71 (.v (.agg [.int .i64, .str, .int .i64, .slc])) (fun (x72 : Int × ByteArray × Int × (Option Addr × Nat × Nat) × Unit) w73 => KeepK S65 w71 w73 (StsK (⟨g1, 0, none⟩ : Addr) [.int .i64 x72.1, .string x72.2.1, .int .i64 x72.2.2.1, .slice x72.2.2.2.1.1 x72.2.2.2.1.2.1 x72.2.2.2.1.2.2] w73 (fun w74 => KeepK S65 w73 w74 (LdsK [.int .i64, .str, .int .i64, .slc] (⟨g1, 0, none⟩ : Addr) w74 (fun (x75 : Int × ByteArray × Int × (Option Addr × Nat × Nat) × Unit) => K (.agg #[.int .i64 x75.1, .string x75.2.1, .int .i64 x75.2.2.1, .slice x75.2.2.2.1.1 x75.2.2.2.1.2.1 x75.2.2.2.1.2.2]) w74))))))))))))))))))
  (StsK (⟨g1, 0, none⟩ : Addr) [.int .i64 0, .string (⟨#[]⟩ : ByteArray), .int .i64 0, .slice none 0 0] w2 (fun w76 => LdsK [.int .i64, .str, .int .i64, .slc] (⟨g1, 0, none⟩ : Addr) w76 (fun (x77 : Int × ByteArray × Int × (Option Addr × Nat × Nat) × Unit) => K (.agg #[.int .i64 x77.1, .string x77.2.1, .int .i64 x77.2.2.1, .slice x77.2.2.2.1.1 x77.2.2.2.1.2.1 x77.2.2.2.1.2.2]) w76)))))))))
def pl106 : Plan := (.seq .auto (.seq (.seq .auto (.block (.seq .auto (.cond .auto (.seq .auto (.cond .auto (.seq .auto (.cond (.seq .auto (.seq (.held (.soft 0 (.soft 1 (.soft 3 (.soft 4 (.pick 2 (.pick 5 (.pick 6 (.pick 7 .done .stop) .stop) .stop) .stop)))))) .auto)) (.seq .auto (.cond .auto (.seq .auto (.cond (.seq .auto (.seq (.held (.soft 0 (.soft 1 (.soft 3 (.soft 4 (.pick 2 (.pick 5 (.pick 6 (.pick 7 .done .stop) .stop) .stop) .stop)))))) .auto)) (.seq .auto (.cond (.seq .auto (.seq (.held (.soft 0 (.soft 1 (.soft 3 (.soft 4 (.pick 2 (.pick 5 (.pick 6 (.pick 7 .done .stop) .stop) .stop) .stop)))))) .auto)) .auto)))))))))))))) .auto))
theorem e106 (p0 : Value) (w : World) (K : Value → World → Prop) : vcFunc Tryz.prog Tryz.f106 pl106 [p0] w K = C106 p0 w K := by kernel_rfl
theorem c106 (p0 : Value) (w : World) (K : Value → World → Prop) (h : C106 p0 w K) : Ret Tryz.prog 106 #[p0] w K := by
  rw [← e106] at h
  exact vcFunc_sound (by kernel_rfl) Tryz.func106 h

/-- handfast/handfastplay.two -/
def C105 (p0 : Int) (p1 : Int × ByteArray × Int × (Option Addr × Nat × Nat) × Unit) (p2 : Int × ByteArray × Int × (Option Addr × Nat × Nat) × Unit) (w : World) (K : Value → World → Prop) : Prop :=
  NewK (.cells #[.int .i64 p1.1, .string p1.2.1, .int .i64 p1.2.2.1, .slice p1.2.2.2.1.1 p1.2.2.2.1.2.1 p1.2.2.2.1.2.2] 33) w (fun g1 w2 => NewK (.cells #[.int .i64 p2.1, .string p2.2.1, .int .i64 p2.2.2.1, .slice p2.2.2.2.1.1 p2.2.2.2.1.2.1 p2.2.2.2.1.2.2] 33) w2 (fun g3 w4 => NewK (.cells #[.int .i64 0, .string (⟨#[]⟩ : ByteArray), .int .i64 0, .slice none 0 0] 33) w4 (fun g5 w6 => LdsK [.int .i64, .str, .int .i64, .slc] (⟨g1, 0, none⟩ : Addr) w6 (fun (x7 : Int × ByteArray × Int × (Option Addr × Nat × Nat) × Unit) => LdsK [.int .i64, .str, .int .i64, .slc] (⟨g3, 0, none⟩ : Addr) w6 (fun (x8 : Int × ByteArray × Int × (Option Addr × Nat × Nat) × Unit) => RunK Tryz.prog (Instr.buildSlice 31 2 #[(0, .agg #[.int .i64 x7.1, .string x7.2.1, .int .i64 x7.2.2.1, .slice x7.2.2.2.1.1 x7.2.2.2.1.2.1 x7.2.2.2.1.2.2]), (1, .agg #[.int .i64 x8.1, .string x8.2.1, .int .i64 x8.2.2.1, .slice x8.2.2.2.1.1 x8.2.2.2.1.2.1 x8.2.2.2.1.2.2])]) w6 (.v (.one .slc)) (fun (x9 : Option Addr × Nat × Nat) w10 => StsK (⟨g5, 0, none⟩ : Addr) [.int .i64 p0, .string (⟨#[]⟩ : ByteArray), .int .i64 0, .slice x9.1 x9.2.1 x9.2.2] w10 (fun w11 => LdsK [.int .i64, .str, .int .i64, .slc] (⟨g5, 0, none⟩ : Addr) w11 (fun (x12 : Int × ByteArray × Int × (Option Addr × Nat × Nat) × Unit) => K (.agg #[.int .i64 x12.1, .string x12.2.1, .int .i64 x12.2.2.1, .slice x12.2.2.2.1.1 x12.2.2.2.1.2.1 x12.2.2.2.1.2.2]) w11))))))))
def pl105 : Plan := .auto
theorem e105 (p0 : Int) (p1 : Int × ByteArray × Int × (Option Addr × Nat × Nat) × Unit) (p2 : Int × ByteArray × Int × (Option Addr × Nat × Nat) × Unit) (w : World) (K : Value → World → Prop) : vcFunc Tryz.prog Tryz.f105 pl105 [.int .i64 p0, .agg #[.int .i64 p1.1, .string p1.2.1, .int .i64 p1.2.2.1, .slice p1.2.2.2.1.1 p1.2.2.2.1.2.1 p1.2.2.2.1.2.2], .agg #[.int .i64 p2.1, .string p2.2.1, .int .i64 p2.2.2.1, .slice p2.2.2.2.1.1 p2.2.2.2.1.2.1 p2.2.2.2.1.2.2]] w K = C105 p0 p1 p2 w K := by kernel_rfl
theorem c105 (p0 : Int) (p1 : Int × ByteArray × Int × (Option Addr × Nat × Nat) × Unit) (p2 : Int × ByteArray × Int × (Option Addr × Nat × Nat) × Unit) (w : World) (K : Value → World → Prop) (h : C105 p0 p1 p2 w K) : Ret Tryz.prog 105 #[.int .i64 p0, .agg #[.int .i64 p1.1, .string p1.2.1, .int .i64 p1.2.2.1, .slice p1.2.2.2.1.1 p1.2.2.2.1.2.1 p1.2.2.2.1.2.2], .agg #[.int .i64 p2.1, .string p2.2.1, .int .i64 p2.2.2.1, .slice p2.2.2.2.1.1 p2.2.2.2.1.2.1 p2.2.2.2.1.2.2]] w K := by
  rw [← e105] at h
  exact vcFunc_sound (by kernel_rfl) Tryz.func105 h

end Go.Proofs.YtbadiokobooliaaGreatDoor

/-! ### RefTree -/
set_option linter.unusedVariables false
set_option maxRecDepth 100000
namespace Go.Proofs.YtbadiokobooliaaGreatDoor
open Vc

/-! ### Plain -/
def okK (k : Int) (s : List UInt8) (n : Int) : Bool :=
  if k = 1 ∨ k = 3 ∨ k = 4 ∨ k = 14 ∨ k = 13 ∨ k = 15 ∨ k = 16 ∨ k = 6 ∨ k = 8 then true
  else if k = 2 ∨ k = 5 ∨ k = 12 then nameL s
  else if k = 7 then decide (0 ≤ n) && decide (n ≤ 10000)
  else if k = 11 then validF n
  else false
mutual
def formR : Tr → Bool → Bool
  | .mk k s n ks, b => okK k s n && (decide (11 ≤ k) == b) && formRs ks b (k == 6 || k == 8)
def formRs : List Tr → Bool → Bool → Bool
  | [], _, _ => true
  | t :: ts, b, f => formR t (b || f) && formRs ts b false
end
mutual
def sizeR : Tr → Nat
  | .mk k _ _ ks => if k = 0 then 0 else sizeRs ks + 1
def sizeRs : List Tr → Nat
  | [] => 0
  | t :: ts => sizeR t + sizeRs ts
end
mutual
def depthR : Tr → Nat
  | .mk k _ _ ks => if k = 0 then 0 else depthRs ks + 1
def depthRs : List Tr → Nat
  | [] => 0
  | t :: ts => max (depthR t) (depthRs ts)
end
mutual
def labelsR : Tr → List (List UInt8)
  | .mk k s _ ks => (if k = 5 then [s] else []) ++ labelsRs ks
def labelsRs : List Tr → List (List UInt8)
  | [] => []
  | t :: ts => labelsR t ++ labelsRs ts
end
mutual
def cntR : Tr → Nat
  | .mk _ _ _ ks => cntRs ks + 1
def cntRs : List Tr → Nat
  | [] => 0
  | t :: ts => cntR t + cntRs ts
end
mutual
def shortR : Tr → Prop
  | .mk _ s _ ks => s.length ≤ 1000 ∧ shortRs ks
def shortRs : List Tr → Prop
  | [] => True
  | t :: ts => shortR t ∧ shortRs ts
end
def checkR (t : Tr) (b : Bool) : Int := if formR t b = false then 2 else if 60 < sizeR t then 5 else if 12 < depthR t then 5 else if (labelsR t).Nodup then 0 else 4

mutual
theorem sizeR_le : ∀ t : Tr, sizeR t ≤ cntR t
  | .mk k s n ks => by unfold sizeR cntR; have := sizeRs_le ks; split <;> omega
theorem sizeRs_le : ∀ ts : List Tr, sizeRs ts ≤ cntRs ts
  | [] => Nat.le_refl _
  | t :: ts => by unfold sizeRs cntRs; have := sizeR_le t; have := sizeRs_le ts; omega
end
mutual
theorem depthR_le : ∀ t : Tr, depthR t ≤ cntR t
  | .mk k s n ks => by unfold depthR cntR; have := depthRs_le ks; split <;> omega
theorem depthRs_le : ∀ ts : List Tr, depthRs ts ≤ cntRs ts
  | [] => Nat.le_refl _
  | t :: ts => by unfold depthRs cntRs; have := depthR_le t; have := depthRs_le ts; omega
end
mutual
theorem labelsR_le : ∀ t : Tr, (labelsR t).length ≤ cntR t
  | .mk k s n ks => by
    unfold labelsR cntR
    have := labelsRs_le ks
    rw [List.length_append]
    split <;> simp <;> omega
theorem labelsRs_le : ∀ ts : List Tr, (labelsRs ts).length ≤ cntRs ts
  | [] => Nat.le_refl _
  | t :: ts => by unfold labelsRs cntRs; have := labelsR_le t; have := labelsRs_le ts; rw [List.length_append]; omega
end
theorem cntR_pos (t : Tr) : 1 ≤ cntR t := by cases t; unfold cntR; omega
theorem cntRs_app : ∀ (a b : List Tr), cntRs (a ++ b) = cntRs a + cntRs b
  | [], b => by simp [cntRs]
  | t :: a, b => by simp only [List.cons_append, cntRs, cntRs_app a b]; omega
theorem cntRs_len : ∀ ts : List Tr, ts.length ≤ cntRs ts
  | [] => Nat.le_refl _
  | t :: ts => by unfold cntRs; have := cntR_pos t; have := cntRs_len ts; rw [List.length_cons]; omega
theorem cntRs_get {ts : List Tr} {i : Nat} {t : Tr} (h : ts[i]? = some t) : cntRs (ts.take i) + cntR t + cntRs (ts.drop (i + 1)) = cntRs ts := by
  have hi := (List.getElem?_eq_some_iff.1 h).1
  have e : ts = ts.take i ++ (t :: ts.drop (i + 1)) := by
    conv => lhs; rw [← List.take_append_drop i ts]
    rw [List.drop_eq_getElem_cons hi, (List.getElem?_eq_some_iff.1 h).2]
  conv => rhs; rw [e]
  rw [cntRs_app, show cntRs (t :: ts.drop (i + 1)) = cntR t + cntRs (ts.drop (i + 1)) from rfl]; omega
theorem shortRs_get : ∀ {ts : List Tr} {i : Nat} {t : Tr}, shortRs ts → ts[i]? = some t → shortR t
  | [], i, t, h, ht => by simp at ht
  | u :: us, 0, t, h, ht => by simp at ht; subst ht; exact h.1
  | u :: us, i + 1, t, h, ht => shortRs_get h.2 (by simpa using ht)
theorem sizeRs_app : ∀ (a b : List Tr), sizeRs (a ++ b) = sizeRs a + sizeRs b
  | [], b => by simp [sizeRs]
  | t :: a, b => by simp only [List.cons_append, sizeRs, sizeRs_app a b]; omega
theorem depthRs_app : ∀ (a b : List Tr), depthRs (a ++ b) = max (depthRs a) (depthRs b)
  | [], b => by simp [depthRs]
  | t :: a, b => by simp only [List.cons_append, depthRs, depthRs_app a b]; omega
theorem labelsRs_app : ∀ (a b : List Tr), labelsRs (a ++ b) = labelsRs a ++ labelsRs b
  | [], b => by simp [labelsRs]
  | t :: a, b => by simp only [List.cons_append, labelsRs, labelsRs_app a b, List.append_assoc]
theorem take_one {α : Type} {ts : List α} {i : Nat} {t : α} (h : ts[i]? = some t) : ts.take (i + 1) = ts.take i ++ [t] := by rw [List.take_add_one, h]; rfl
theorem drop_one {α : Type} {ts : List α} {i : Nat} {t : α} (h : ts[i]? = some t) : ts.drop i = t :: ts.drop (i + 1) := by
  have hi := (List.getElem?_eq_some_iff.1 h).1
  rw [List.drop_eq_getElem_cons hi, (List.getElem?_eq_some_iff.1 h).2]
theorem kid_lt {k : Int} {s : List UInt8} {n : Int} {ks : List Tr} {t : Tr} (h : t ∈ ks) : SizeOf.sizeOf t < SizeOf.sizeOf (Tr.mk k s n ks) := by
  have := List.sizeOf_lt_of_mem h
  simp only [Tr.mk.sizeOf_spec]; omega

/-! ### Contracts as trees -/
def shortO : Ob → Prop
  | .none => True
  | .const _ => True
  | .fix s => s.length ≤ 1000
  | .add l r | .mul l r | .max l r => shortO l ∧ shortO r
  | .neg o => shortO o
def shortT : Tm → Prop
  | .none => True
  | .zero => True
  | .one s => s.length ≤ 1000
  | .give t => shortT t
  | .and l r => shortT l ∧ shortT r
  | .or s l r => s.length ≤ 1000 ∧ shortT l ∧ shortT r
  | .scale o t => shortO o ∧ shortT t
  | .when _ t => shortT t
  | .cond o l r => shortO o ∧ shortT l ∧ shortT r
theorem cnt_trO (o : Ob) : cntR (trO o) ≤ 4 * nodesO o + 1 := by
  induction o <;> simp only [trO, cntR, cntRs, nodesO] <;> omega
theorem cnt_trT (t : Tm) : cntR (trT t) ≤ 4 * nodesT t + 1 := by
  induction t <;> simp only [trT, cntR, cntRs, nodesT] <;> (try have := cnt_trO) <;> first | omega | (rename_i o _ _; have := cnt_trO o; omega) | (rename_i o _ _ _ _; have := cnt_trO o; omega)
theorem short_trO (o : Ob) (h : shortO o) : shortR (trO o) := by
  induction o <;> simp_all [trO, shortR, shortRs, shortO]
theorem short_trT (t : Tm) (h : shortT t) : shortR (trT t) := by
  induction t <;> simp_all [trT, shortR, shortRs, shortT, short_trO]
theorem size_trO (o : Ob) : sizeR (trO o) = nodesO o := by
  induction o <;> simp_all [trO, sizeR, sizeRs, nodesO]
theorem size_trT (t : Tm) : sizeR (trT t) = nodesT t := by
  induction t <;> simp_all [trT, sizeR, sizeRs, nodesT, size_trO] <;> omega
theorem depth_trO (o : Ob) : depthR (trO o) = depthO o := by
  induction o <;> simp_all [trO, depthR, depthRs, depthO]
theorem depth_trT (t : Tm) : depthR (trT t) = depthT t := by
  induction t <;> simp_all [trT, depthR, depthRs, depthT, depth_trO] <;> omega
theorem labels_trO (o : Ob) : labelsR (trO o) = [] := by
  induction o <;> simp_all [trO, labelsR, labelsRs]
theorem labels_trT (t : Tm) : labelsR (trT t) = labelsT t := by
  induction t <;> simp_all [trT, labelsR, labelsRs, labelsT, labels_trO]
theorem form_trO (o : Ob) : formR (trO o) true = formO o := by
  induction o <;> simp_all [trO, formR, formRs, formO, okK]
theorem form_trT (t : Tm) : formR (trT t) false = formT t := by
  induction t <;> simp_all [trT, formR, formRs, formT, okK, form_trO]
theorem check_trT (t : Tm) : checkR (trT t) false = checkT t := by unfold checkR checkT; rw [form_trT, size_trT, depth_trT, labels_trT]
theorem check_trO (o : Ob) : checkR (trO o) true = checkO o := by unfold checkR checkO; rw [form_trO, size_trO, depth_trO, labels_trO]; simp

/-! ### What the functions do -/
theorem IsTr.kids {w : World} {S : Nat → Prop} {k : Int} {s : List UInt8} {n : Int} {ks : List Tr} {v : TV} (h : IsTr w S (.mk k s n ks) v) {i : Nat} {t : Tr} (ht : ks[i]? = some t) {K : TV → Prop} (hK : ∀ x, IsTr w S t x → K x) :
    IdxK v.2.2.2.1.1 v.2.2.2.1.2.1 (i : Int) 4 fun a => LdsK [.int .i64, .str, .int .i64, .slc] a w K := IdxK.out_ink (h.ld ht hK)

theorem rsize_spec : ∀ (t : Tr) (hn : cntR t ≤ 1000000) {w : World} {S : Nat → Prop} {v : TV} (h : IsTr w S t v), Ret Tryz.prog 129 #[tvA v] w fun r w' => r = .tuple #[.int .i64 (sizeR t : Int), .int .i64 (depthR t : Int)] ∧ Fr none1 w w'
  | .mk k s n ks, hn, w, S, v, h => by
    have ih : ∀ t ∈ ks, cntR t ≤ 1000000 → ∀ {w : World} {S : Nat → Prop} {v : TV}, IsTr w S t v → Ret Tryz.prog 129 #[tvA v] w fun r w' => r = .tuple #[.int .i64 (sizeR t : Int), .int .i64 (depthR t : Int)] ∧ Fr none1 w w' := fun t ht hn w S v h => rsize_spec t hn h
    refine c129 v w _ ?_
    unfold C129
    refine NewK.of fun g w1 hg hb f1 _ => LdK.fld hb (x := v.1) rfl ?_
    have h1 := h.keep0 f1
    rw [h.kind]
    unfold sizeR depthR
    unfold cntR at hn
    refine ifB.eq (fun hk => ?_) (fun hk => ?_)
    · subst hk; exact ⟨rfl, f1⟩
    rw [if_neg hk, if_neg hk]
    refine LdK.fld hb (x := v.2.2.2.1) rfl ?_
    have hl := h.len
    have hcl := cntRs_len ks
    refine LoopK.of (fun s w' => ∃ i : Nat, s.2.2.1 = i ∧ i ≤ ks.length ∧ s.1 = ((sizeRs (ks.take i) + 1 : Nat) : Int) ∧ s.2.1 = (depthRs (ks.take i) : Int) ∧ Fr none1 w1 w') (fun s _ => (ks.length - s.2.2.1).toNat)
      ⟨0, rfl, Nat.zero_le _, rfl, rfl, Fr.refl _ _⟩ ?_
    rintro _ ⟨a, b, i', _⟩ w3 ⟨i, hi, hil, ha, hb3, f3⟩
    dsimp only at hi ha hb3 ⊢
    subst hi ha hb3
    rw [hl]
    have hszb : sizeRs (ks.take i) ≤ cntRs ks := by
      have e := cntRs_app (ks.take i) (ks.drop i); rw [List.take_append_drop] at e; have := sizeRs_le (ks.take i); omega
    have hdb : depthRs (ks.take i) ≤ cntRs ks := by
      have e := cntRs_app (ks.take i) (ks.drop i); rw [List.take_append_drop] at e; have := depthRs_le (ks.take i); omega
    refine ifB.dec (fun hlt => ?_) (fun hge => ?_)
    · have hi2 : i < ks.length := by omega
      obtain ⟨t, ht⟩ : ∃ t, ks[i]? = some t := ⟨_, List.getElem?_eq_getElem hi2⟩
      have hcg := cntRs_get ht
      refine LdK.fld (f3.keep0 hb) (x := v.2.2.2.1) rfl ?_
      refine (h1.keep0 f3).kids ht fun x hx => ?_
      refine CallK.of (ih t (List.mem_of_getElem? ht) (by omega) hx) ?_
      rintro _ w4 ⟨rfl, f4⟩
      refine ⟨((sizeR t : Int), (depthR t : Int), ()), rfl, ?_⟩
      dsimp only
      have h5 := sizeR_le t
      have h6 := depthR_le t
      have h7 := sizeRs_le (ks.take i)
      refine ⟨⟨i + 1, by rw [wI (by omega) (by omega)]; omega, by omega, ?_, ?_, f3.trans f4⟩, by rw [wI (by omega) (by omega)]; omega⟩
      · rw [take_one ht, sizeRs_app, wI (by omega) (by omega)]
        simp only [sizeRs]; omega
      · rw [take_one ht, depthRs_app]
        simp only [depthRs]
        by_cases hm : depthRs (ks.take i) < depthR t
        · rw [if_pos (by omega)]; omega
        · rw [if_neg (by omega)]; omega
    · have : i = ks.length := by omega
      subst this
      rw [List.take_length] at hdb ⊢
      rw [wI (by omega) (by omega)]
      exact ⟨by simp, f1.trans f3⟩
termination_by t => SizeOf.sizeOf t
decreasing_by exact kid_lt ht

theorem rlabels_spec : ∀ (t : Tr) (hn : cntR t ≤ 1000000) {w : World} {S : Nat → Prop} {v : TV} (h : IsTr w S t v) (hS : ∀ k, S k → k < w.heap.size), Ret Tryz.prog 130 #[tvA v] w fun r w' => ∃ u : Sl, r = .slice u.1 u.2.1 u.2.2 ∧ IsSs w' u (labelsR t) ∧ Fr none1 w w' ∧ ∀ k, blkOf u k → w.heap.size ≤ k
  | .mk k s n ks, hn, w, S, v, h, hS => by
    have ih : ∀ t ∈ ks, cntR t ≤ 1000000 → ∀ {w : World} {S : Nat → Prop} {v : TV}, IsTr w S t v → (∀ k, S k → k < w.heap.size) → Ret Tryz.prog 130 #[tvA v] w fun r w' => ∃ u : Sl, r = .slice u.1 u.2.1 u.2.2 ∧ IsSs w' u (labelsR t) ∧ Fr none1 w w' ∧ ∀ k, blkOf u k → w.heap.size ≤ k :=
      fun t ht hn w S v h hS => rlabels_spec t hn h hS
    refine c130 v w _ ?_
    unfold C130
    refine NewK.of fun g w1 hg hb f1 hsz1 => ?_
    have h1 := h.keep0 f1
    unfold cntR at hn
    unfold labelsR
    refine JoinK.of (fun s' w' => IsSs w' s'.1 (if k = 5 then [s] else []) ∧ Fr none1 w1 w' ∧ ∀ k, blkOf s'.1 k → w1.heap.size ≤ k) ?_ ?_
    · refine LdK.fld hb (x := v.1) rfl ?_
      rw [h.kind]
      refine ifB.eq (fun hk => ?_) (fun hk => ?_)
      · refine LdK.fld hb (x := v.2.1) rfl ?_
        rw [h.name, if_pos hk]
        obtain ⟨u, w3, hr, hu, hul, f3, uf⟩ := one_ok (P := Tryz.prog) (w := w1) elem_str (sv s) rfl
        refine ⟨u, w3, hr, ?_⟩
        obtain ⟨x, w4, hr4, hx, f4, xf⟩ := ss_app (none_ss w3) (ys := [s]) hu.rd (by simp)
        refine ⟨x, w4, hr4, hx, f3.comp f4 (fun k _ t => (none_blk k t).elim), fun k hk => ?_⟩
        rcases xf k hk with t | t
        · exact (none_blk k t).elim
        · have := f3.size; omega
      · rw [if_neg hk]
        exact ⟨none_ss _, Fr.refl _ _, fun k t => (none_blk k t).elim⟩
    rintro _ ⟨s1, _⟩ w2 ⟨hs1, f2, sf⟩
    dsimp only at hs1 sf ⊢
    refine LdK.fld (f2.keep0 hb) (x := v.2.2.2.1) rfl ?_
    have hl := h.len
    have hcl := cntRs_len ks
    have h2 := h1.keep0 f2
    have hll := labelsRs_le ks
    refine LoopK.of (fun s' w' => ∃ i : Nat, s'.2.1 = i ∧ i ≤ ks.length ∧ IsSs w' s'.1 ((if k = 5 then [s] else []) ++ labelsRs (ks.take i)) ∧ Fr none1 w1 w' ∧ ∀ k, blkOf s'.1 k → w1.heap.size ≤ k) (fun s' _ => (ks.length - s'.2.1).toNat)
      ⟨0, rfl, Nat.zero_le _, by rw [List.take_zero]; simpa [labelsRs] using hs1, f2, sf⟩ ?_
    rintro _ ⟨u, i', _⟩ w3 ⟨i, hi, hil, hu, f3, uf⟩
    dsimp only at hi hu uf ⊢
    subst hi
    rw [hl]
    refine ifB.dec (fun hlt => ?_) (fun hge => ?_)
    · have hi2 : i < ks.length := by omega
      obtain ⟨t, ht⟩ : ∃ t, ks[i]? = some t := ⟨_, List.getElem?_eq_getElem hi2⟩
      have hcg := cntRs_get ht
      refine LdK.fld (f3.keep0 hb) (x := v.2.2.2.1) rfl ?_
      refine (h1.keep0 f3).kids ht fun x hx => ?_
      have hsz3 : w.heap.size ≤ w3.heap.size := (f1.trans f3).size
      refine CallK.of (ih t (List.mem_of_getElem? ht) (by omega) hx (fun k hk => by have := hS k hk; omega)) ?_
      rintro _ w4 ⟨y, rfl, hy, f4, yf⟩
      refine ⟨y, rfl, ?_⟩
      have hlb := labelsR_le t
      have hlt := labelsRs_le (ks.take i)
      obtain ⟨z, w5, hr5, hz, f5, zf⟩ := ss_app (hu.keep0 f4) (IsSl.rd hy) (by rw [List.length_append]; split <;> simp <;> omega)
      refine ⟨z, w5, hr5, ⟨i + 1, by rw [wI (by omega) (by omega)]; omega, by omega, ?_, ?_, ?_⟩, by rw [wI (by omega) (by omega)]; omega⟩
      · rw [take_one ht, labelsRs_app]
        simpa [labelsRs, List.append_assoc] using hz
      · exact (f3.trans f4).comp f5 (fun k hk t => by have := uf k t; have := hk; omega)
      · intro k hk
        rcases zf k hk with t | t
        · exact uf k t
        · have := (f3.trans f4).size; omega
    · have : i = ks.length := by omega
      subst this
      rw [List.take_length] at hu
      exact ⟨u, rfl, hu, f1.trans f3, fun k hk => by have := uf k hk; have := f1.size; omega⟩
termination_by t => SizeOf.sizeOf t
decreasing_by exact kid_lt ht

theorem nameL_eq (s : List UInt8) : nameF 0 (runesL s) = nameL s := rfl

theorem rform_spec : ∀ (t : Tr) (b : Bool) (hn : cntR t ≤ 1000000) (hsh : shortR t) {w : World} {S : Nat → Prop} {v : TV} (h : IsTr w S t v), Ret Tryz.prog 128 #[tvA v, .bool b] w fun r w' => r = .bool (formR t b) ∧ Fr none1 w w'
  | .mk k s n ks, b, hn, hsh, w, S, v, h => by
    have ih : ∀ t ∈ ks, cntR t ≤ 1000000 → shortR t → ∀ (b : Bool) {w : World} {S : Nat → Prop} {v : TV}, IsTr w S t v → Ret Tryz.prog 128 #[tvA v, .bool b] w fun r w' => r = .bool (formR t b) ∧ Fr none1 w w' :=
      fun t ht hn hsh b w S v h => rform_spec t b hn hsh h
    refine c128 v b w _ ?_
    unfold C128
    refine NewK.of fun g w1 hg hb f1 hsz1 => ?_
    have h1 := h.keep0 f1
    unfold cntR at hn
    unfold shortR at hsh
    unfold formR
    refine JoinK.of (fun _ w' => okK k s n = true ∧ Fr none1 w1 w') ?_ ?_
    · refine LdK.fld hb (x := v.1) rfl ?_
      rw [h.kind]
      have any9 : ∀ {J : Bool × Unit → World → Prop} , (J (decide (k = 1 ∨ k = 3 ∨ k = 4 ∨ k = 14 ∨ k = 13 ∨ k = 15 ∨ k = 16 ∨ k = 6 ∨ k = 8), ()) w1) → True := fun _ => trivial
      refine JoinK.of (fun s' w' => s'.1 = decide (k = 1 ∨ k = 3 ∨ k = 4 ∨ k = 14 ∨ k = 13 ∨ k = 15 ∨ k = 16 ∨ k = 6 ∨ k = 8) ∧ w1 = w') ?_ ?_
      · repeat' (refine ifB.eq (fun e => ⟨?_, rfl⟩) (fun _ => ?_))
        all_goals first | (subst e; rfl) | skip
        simp only [*, false_or]
        by_cases e : k = 8 <;> simp [e]
      rintro _ ⟨c, _⟩ _ ⟨hc, rfl⟩
      dsimp only at hc ⊢
      refine ifB.by (fun e => ?_) (fun e => ?_)
      · refine ⟨?_, Fr.refl _ _⟩
        unfold okK
        rw [if_pos (of_decide_eq_true (hc.symm.trans e))]
      have hk9 := of_decide_eq_false (hc.symm.trans e)
      have hok : okK k s n = if k = 2 ∨ k = 5 ∨ k = 12 then nameL s else if k = 7 then decide (0 ≤ n) && decide (n ≤ 10000) else if k = 11 then validF n else false := by unfold okK; rw [if_neg hk9]
      refine JoinK.of (fun s' w' => s'.1 = decide (k = 2 ∨ k = 5 ∨ k = 12) ∧ w1 = w') ?_ ?_
      · repeat' (refine ifB.eq (fun e => ⟨?_, rfl⟩) (fun _ => ?_))
        all_goals first | (subst e; rfl) | skip
        simp only [*, false_or]
        by_cases e : k = 12 <;> simp [e]
      rintro _ ⟨d, _⟩ _ ⟨hd, rfl⟩
      dsimp only at hd ⊢
      refine ifB.by (fun e => ?_) (fun e => ?_)
      · rw [if_pos (of_decide_eq_true (hd.symm.trans e))] at hok
        refine LdK.fld hb (x := v.2.1) rfl ?_
        rw [h.name]
        refine CallK.of (rname_spec s (by omega) w1) ?_
        rintro _ w2 ⟨rfl, f2⟩
        refine ⟨_, rfl, ifB.not (ifB.by (fun e => ?_) (fun e => ?_))⟩
        · exact ⟨by rw [hok]; exact e, f2⟩
        · refine ⟨?_, f1.trans f2⟩
          rw [hok, show nameL s = false from e]; rfl
      · rw [if_neg (of_decide_eq_false (hd.symm.trans e))] at hok
        refine ifB.eq (fun e7 => ?_) (fun e7 => ?_)
        · rw [if_pos e7] at hok
          refine LdK.fld hb (x := v.2.2.1) rfl ?_
          rw [h.num]
          refine ifB.dec (fun hlo => ?_) (fun hlo => LdK.fld hb (x := v.2.2.1) rfl ?_)
          · refine ⟨?_, f1⟩
            rw [hok, decide_eq_false (show ¬ 0 ≤ n by omega)]; rfl
          rw [h.num]
          refine ifB.dec (fun hhi => ?_) (fun hhi => ?_)
          · refine ⟨?_, f1⟩
            rw [hok, decide_eq_false (show ¬ n ≤ 10000 by omega), Bool.and_false]; rfl
          · exact ⟨by rw [hok, decide_eq_true (show 0 ≤ n by omega), decide_eq_true (show n ≤ 10000 by omega)]; rfl, Fr.refl _ _⟩
        · rw [if_neg e7] at hok
          refine ifB.eq (fun e11 => ?_) (fun e11 => ?_)
          · rw [if_pos e11] at hok
            refine LdK.fld hb (x := v.2.2.1) rfl ?_
            rw [h.num]
            refine CallK.of (rvalid_spec n w1) ?_
            rintro _ _ ⟨rfl, rfl⟩
            refine ⟨_, rfl, ifB.not (ifB.by (fun e => ?_) (fun e => ?_))⟩
            · exact ⟨by rw [hok]; exact e, Fr.refl _ _⟩
            · refine ⟨?_, f1⟩
              rw [hok, show validF n = false from e]; rfl
          · rw [if_neg e11] at hok
            exact ⟨by rw [hok]; rfl, f1⟩
    rintro _ _ w2 ⟨hok, f2⟩
    rw [hok]
    have hb2 := f2.keep0 hb
    have h2 := h1.keep0 f2
    refine LdK.fld hb2 (x := v.1) rfl ?_
    rw [h.kind]
    refine ifB.not (ifB.by (fun e => ?_) (fun e => ?_))
    · have e' : (decide (11 ≤ k) == b) = true := e
      rw [e']
      refine LdK.fld hb2 (x := v.2.2.2.1) rfl ?_
      have hl := h.len
      have hcl := cntRs_len ks
      refine LoopK.of (fun s' w' => ∃ i : Nat, s'.1 = i ∧ i ≤ ks.length ∧ formRs ks b (k == 6 || k == 8) = formRs (ks.drop i) b ((k == 6 || k == 8) && decide (i = 0)) ∧ Fr none1 w1 w') (fun s' _ => (ks.length - s'.1).toNat)
        ⟨0, rfl, Nat.zero_le _, by simp, f2⟩ ?_
      rintro _ ⟨i', _⟩ w3 ⟨i, hi, hil, hF, f3⟩
      dsimp only at hi ⊢
      subst hi
      rw [hl]
      refine ifB.dec (fun hlt => ?_) (fun hge => ?_)
      · have hi2 : i < ks.length := by omega
        obtain ⟨t, ht⟩ : ∃ t, ks[i]? = some t := ⟨_, List.getElem?_eq_getElem hi2⟩
        have hcg := cntRs_get ht
        have hsht := shortRs_get hsh.2 ht
        rw [drop_one ht] at hF
        rw [show formRs (t :: ks.drop (i + 1)) b ((k == 6 || k == 8) && decide (i = 0)) = (formR t (b || (k == 6 || k == 8) && decide (i = 0)) && formRs (ks.drop (i + 1)) b false) from rfl] at hF
        refine DrewK.of fun w4 _ f4 => LdK.fld ((f3.trans f4).keep0 hb) (x := v.2.2.2.1) rfl ?_
        refine (h1.keep0 (f3.trans f4)).kids ht fun x hx => ?_
        have last : ∀ (c : Bool), (b || (k == 6 || k == 8) && decide (i = 0)) = c → CallK Tryz.prog 128 #[tvA x, .bool c] w4 (.v (.one .bool)) (fun (x30 : Bool) w31 => ifB (!x30)
            ((Value.bool false) = .bool (true && true && formRs ks b (k == 6 || k == 8)) ∧ Fr none1 w w31)
            ((∃ j : Nat, IntKind.i64.wrap ((i : Int) + 1) = j ∧ j ≤ ks.length ∧ formRs ks b (k == 6 || k == 8) = formRs (ks.drop j) b ((k == 6 || k == 8) && decide (j = 0)) ∧ Fr none1 w1 w31) ∧ (ks.length - IntKind.i64.wrap ((i : Int) + 1)).toNat < (ks.length - (i : Int)).toNat)) := fun c hc => by
          refine CallK.of (ih t (List.mem_of_getElem? ht) (by omega) hsht c hx) ?_
          rintro _ w5 ⟨rfl, f5⟩
          rw [hc] at hF
          refine ⟨_, rfl, ifB.not (ifB.by (fun e => ?_) (fun e => ?_))⟩
          · rw [e, Bool.true_and] at hF
            refine ⟨⟨i + 1, by rw [wI (by omega) (by omega)]; omega, by omega, ?_, (f3.trans f4).trans f5⟩, by rw [wI (by omega) (by omega)]; omega⟩
            rw [hF, decide_eq_false (show ¬ i + 1 = 0 by omega), Bool.and_false]
          · rw [e, Bool.false_and] at hF
            exact ⟨by rw [hF]; rfl, f1.trans ((f3.trans f4).trans f5)⟩
        refine ifB.by (fun eb => last true (by rw [eb]; rfl)) (fun eb => ?_)
        refine ifB.eq (fun ei => ?_) (fun ei => ?_)
        · have ei : i = 0 := by omega
          refine LdK.fld ((f3.trans f4).keep0 hb) (x := v.1) rfl ?_
          rw [h.kind]
          refine ifB.eq (fun e6 => last true (by rw [eb, e6, ei]; rfl)) (fun e6 => ?_)
          refine LdK.fld ((f3.trans f4).keep0 hb) (x := v.1) rfl ?_
          rw [h.kind]
          exact last (k == 8) (by rw [eb, ei, show (k == 6) = false from beq_false_of_ne e6]; simp)
        · exact last false (by rw [eb, decide_eq_false (show ¬ i = 0 by omega)]; simp)
      · have : i = ks.length := by omega
        subst this
        rw [List.drop_length] at hF
        exact ⟨by rw [hF]; rfl, f1.trans f3⟩
    · have e' : (decide (11 ≤ k) == b) = false := e
      rw [e']
      exact ⟨rfl, f1.trans f2⟩
termination_by t => SizeOf.sizeOf t
decreasing_by exact kid_lt ht

/-- The labels up to i are unlike. -/
def unlike (l : List (List UInt8)) (i j : Nat) : Prop := ∀ b a : Nat, a < b → (b < i ∨ b = i ∧ a < j) → l[a]? ≠ l[b]?
theorem unlike_all {l : List (List UInt8)} (h : unlike l l.length 0) : l.Nodup := by
  unfold List.Nodup
  rw [List.pairwise_iff_getElem]
  intro i j hi hj hij e
  exact h j i hij (.inl hj) (by rw [List.getElem?_eq_getElem hi, List.getElem?_eq_getElem hj, e])
theorem nodup_ne {l : List (List UInt8)} (h : l.Nodup) {i j : Nat} (hij : i < j) (hj : j < l.length) : l[i]? ≠ l[j]? := by
  unfold List.Nodup at h
  rw [List.pairwise_iff_getElem] at h
  rw [List.getElem?_eq_getElem (show i < l.length by omega), List.getElem?_eq_getElem hj]
  intro e
  exact h i j (by omega) hj hij (Option.some.inj e)

theorem rcheck_spec (t : Tr) (b : Bool) (hn : cntR t ≤ 1000000) (hsh : shortR t) {w : World} {S : Nat → Prop} {v : TV} (h : IsTr w S t v) (hS : ∀ k, S k → k < w.heap.size) :
    Ret Tryz.prog 96 #[tvA v, .bool b] w fun r w' => r = .int .i64 (checkR t b) ∧ Fr none1 w w' := by
  refine c96 v b w _ ?_
  unfold C96
  refine NewK.of fun g w1 hg hb f1 hsz1 => LdsK.blk (x := v) hb ?_
  unfold checkR
  refine CallK.of (rform_spec t b hn hsh (h.keep0 f1)) ?_
  rintro _ w2 ⟨rfl, f2⟩
  have f12 := f1.trans f2
  refine ⟨_, rfl, ifB.not (ifB.by (fun e => ?_) (fun e => by rw [if_pos e]; exact ⟨rfl, f12⟩))⟩
  rw [if_neg (by rw [e]; decide)]
  refine LdsK.blk (x := v) (f2.keep0 hb) ?_
  refine CallK.of (rsize_spec t hn (h.keep0 f12)) ?_
  rintro _ w3 ⟨rfl, f3⟩
  have f13 := f12.trans f3
  refine ⟨((sizeR t : Int), (depthR t : Int), ()), rfl, ?_⟩
  dsimp only
  refine ifB.dec (fun h60 => ?_) (fun h60 => ?_)
  · rw [if_pos (by omega)]; exact ⟨rfl, f13⟩
  rw [if_neg (by omega)]
  refine ifB.dec (fun h12 => ?_) (fun h12 => ?_)
  · rw [if_pos (by omega)]; exact ⟨rfl, f13⟩
  rw [if_neg (by omega)]
  refine LdsK.blk (x := v) ((f2.trans f3).keep0 hb) ?_
  refine CallK.of (rlabels_spec t hn (h.keep0 f13) (fun k hk => by have := hS k hk; have := f13.size; omega)) ?_
  rintro _ w4 ⟨u, rfl, hu, f4, _⟩
  have f14 := f13.trans f4
  refine ⟨u, rfl, ?_⟩
  have hul := hu.len
  have hle := labelsR_le t
  have rd : ∀ {i : Nat} {w5 : World} {K : ByteArray → Prop}, i < (labelsR t).length → Fr none1 w4 w5 → K (str ((labelsR t).getD i [])) → IdxK u.1 (labelsR t).length (i : Int) 1 fun p => LdK .str p w5 K := fun {i w5 K} hi f5 k => by
    rw [← hul]
    refine (hu.keep0 f5).ld (i := i) (s := (labelsR t).getD i []) ?_ k
    rw [List.getD_eq_getElem?_getD, List.getElem?_eq_getElem hi]; rfl
  refine LoopK.of (fun s w' => ∃ i : Nat, s.1 = i ∧ i ≤ (labelsR t).length ∧ unlike (labelsR t) i 0 ∧ Fr none1 w4 w') (fun s _ => ((labelsR t).length - s.1).toNat)
    ⟨0, rfl, Nat.zero_le _, fun b a hab hb => by omega, Fr.refl _ _⟩ ?_
  rintro _ ⟨i', _⟩ w5 ⟨i, hi, hil, hun, f5⟩
  dsimp only at hi ⊢
  subst hi
  rw [hul]
  refine ifB.dec (fun hlt => ?_) (fun hge => ?_)
  · have hi2 : i < (labelsR t).length := by omega
    refine LoopK.of (fun s w' => ∃ j : Nat, s.1 = j ∧ j ≤ i ∧ unlike (labelsR t) i j ∧ Fr none1 w4 w') (fun s _ => (i - s.1).toNat)
      ⟨0, rfl, Nat.zero_le _, hun, f5⟩ ?_
    rintro _ ⟨j', _⟩ w6 ⟨j, hj, hjl, hun6, f6⟩
    dsimp only at hj ⊢
    subst hj
    refine ifB.dec (fun hlt2 => ?_) (fun hge2 => ?_)
    · have hj2 : j < i := by omega
      refine DrewK.of fun w7 _ f7 => ?_
      refine rd hi2 (f6.trans f7) ?_
      refine rd (i := j) (by omega) (f6.trans f7) ?_
      refine ifB.by (fun e => ?_) (fun e => ?_)
      · rw [str_beq] at e
        have e2 := of_decide_eq_true e
        refine ⟨?_, (f14.trans f6).trans f7⟩
        rw [if_neg]
        intro hnd
        refine nodup_ne hnd hj2 hi2 ?_
        rw [List.getD_eq_getElem?_getD, List.getD_eq_getElem?_getD, List.getElem?_eq_getElem hi2, List.getElem?_eq_getElem (show j < _ by omega)] at e2
        rw [List.getElem?_eq_getElem hi2, List.getElem?_eq_getElem (show j < _ by omega)]
        simp only [Option.getD_some] at e2
        rw [e2]
      · refine ⟨⟨j + 1, by rw [wI (by omega) (by omega)]; omega, by omega, ?_, f6.trans f7⟩, by rw [wI (by omega) (by omega)]; omega⟩
        intro b a hab hb
        by_cases hc : b = i ∧ a = j
        · obtain ⟨rfl, rfl⟩ := hc
          intro e2
          rw [str_beq, List.getD_eq_getElem?_getD, List.getD_eq_getElem?_getD, e2] at e
          simp at e
        · exact hun6 b a hab (by omega)
    · have : j = i := by omega
      subst this
      refine ⟨⟨j + 1, by rw [wI (by omega) (by omega)]; omega, by omega, fun b a hab hb => hun6 b a hab (by omega), f6⟩, by rw [wI (by omega) (by omega)]; omega⟩
  · have : i = (labelsR t).length := by omega
    subst this
    rw [if_pos (unlike_all hun)]
    exact ⟨rfl, f14.trans f5⟩

end Go.Proofs.YtbadiokobooliaaGreatDoor

/-! ### CWithin -/
namespace Go.Proofs.YtbadiokobooliaaGreatDoor
open Vc
set_option maxRecDepth 100000
set_option linter.unusedVariables false
/-- handfast/handfastkeep.Within -/
def C22 (p0 : Int) (p1 : Int) (w : World) (K : Value → World → Prop) : Prop :=
  ifB (decide (p1 < 1))
  (K (.int .i64 0) w)
  (NzK p1 (ifB (decide ((p0.tmod p1) < 0))
  (K (.int .i64 (IntKind.i64.wrap ((p0.tmod p1) + p1))) w)
  (K (.int .i64 (p0.tmod p1)) w)))
def pl22 : Plan := .auto
theorem e22 (p0 : Int) (p1 : Int) (w : World) (K : Value → World → Prop) : vcFunc Tryz.prog Tryz.f22 pl22 [.int .i64 p0, .int .i64 p1] w K = C22 p0 p1 w K := by kernel_rfl
theorem c22 (p0 : Int) (p1 : Int) (w : World) (K : Value → World → Prop) (h : C22 p0 p1 w K) : Ret Tryz.prog 22 #[.int .i64 p0, .int .i64 p1] w K := by
  rw [← e22] at h
  exact vcFunc_sound (by kernel_rfl) Tryz.func22 h

end Go.Proofs.YtbadiokobooliaaGreatDoor

/-! ### WithinSpec -/
set_option linter.unusedVariables false
namespace Go.Proofs.YtbadiokobooliaaGreatDoor
open Vc

def within (v n : Int) : Int := if n < 1 then 0 else v % n

theorem within_lo (v n : Int) : 0 ≤ within v n := by unfold within; split; omega; exact Int.emod_nonneg _ (by omega)
theorem within_hi (v : Int) {n : Int} (h : 1 ≤ n) : within v n < n := by unfold within; rw [if_neg (by omega)]; exact Int.emod_lt_of_pos _ (by omega)

theorem within_spec (v n : Int) (w : World) (hn : n ≤ 9223372036854775807) :
    Ret Tryz.prog 22 #[.int .i64 v, .int .i64 n] w fun r w' => r = .int .i64 (within v n) ∧ w = w' := by
  refine c22 v n w _ ?_
  unfold C22 within
  refine ifB.dec (fun h => ?_) (fun h => ⟨by omega, ?_⟩)
  · rw [if_pos h]; exact ⟨rfl, rfl⟩
  · rw [if_neg h]
    have e : v.tmod n = if 0 ≤ v ∨ n ∣ v then v % n else v % n - n := by
      rw [Int.tmod_eq_emod]
      split <;> omega
    have b0 := Int.emod_nonneg v (show n ≠ 0 by omega)
    have b1 := Int.emod_lt_of_pos v (show 0 < n by omega)
    refine ifB.dec (fun h2 => ⟨?_, rfl⟩) (fun h2 => ⟨?_, rfl⟩)
    · split at e
      · omega
      · rw [wI (by omega) (by omega)]; congr 1; omega
    · split at e
      · rw [e]
      · omega

end Go.Proofs.YtbadiokobooliaaGreatDoor

/-! ### CDigG -/
namespace Go.Proofs.YtbadiokobooliaaGreatDoor
open Vc
set_option maxRecDepth 100000
set_option linter.unusedVariables false
/-- handfast/handfastref01.Digits -/
def C89 (p0 : Int) (w : World) (K : Value → World → Prop) : Prop :=
  ifB (decide (p0 < 0))
  (NzK 10 (CallK Tryz.prog 89 #[.int .i64 (IntKind.i64.wrap (0 - (p0.tmod 10)))] w (.v (.one .str)) (fun (x1 : ByteArray) w2 => ifB (decide (p0 > (-10)))
  (CatK (⟨#[45]⟩ : ByteArray) x1 (K (.string ((⟨#[45]⟩ : ByteArray) ++ x1)) w2))
  (NzK 10 (CallK Tryz.prog 89 #[.int .i64 (IntKind.i64.wrap (p0.tdiv 10))] w2 (.v (.one .str)) (fun (x3 : ByteArray) w4 => CatK x3 x1 (K (.string (x3 ++ x1)) w4)))))))
  (ifB (decide (p0 < 10))
  (RunK Tryz.prog (Instr.buildSlice 38 1 #[(0, .int .u8 (IntKind.u8.wrap (IntKind.i64.wrap (48 + p0))))]) w (.v (.one .slc)) (fun (x5 : Option Addr × Nat × Nat) w6 => RunK Tryz.prog (convert 38 9 (.slice x5.1 x5.2.1 x5.2.2)) w6 (.v (.one .str)) (fun (x7 : ByteArray) w8 => K (.string x7) w8)))
  (DrewK w (fun w9 => HoldK (fun S10 => NzK 10 (NzK 10 (AndK (CallK Tryz.prog 89 #[.int .i64 (IntKind.i64.wrap (p0.tdiv 10))] w9 (.v (.one .str)) (fun (x11 : ByteArray) w12 => KeepK S10 w9 w12 (KeepK S10 w12 w12 (RunK Tryz.prog (Instr.buildSlice 38 1 #[(0, .int .u8 (IntKind.u8.wrap (IntKind.i64.wrap (48 + (p0.tmod 10)))))]) w12 (.v (.one .slc)) (fun (x13 : Option Addr × Nat × Nat) w14 => KeepK S10 w12 w14 (RunK Tryz.prog (convert 38 9 (.slice x13.1 x13.2.1 x13.2.2)) w14 (.v (.one .str)) (fun (x15 : ByteArray) w16 => KeepK S10 w14 w16 (CatK x11 x15 (K (.string (x11 ++ x15)) w16)))))))))
  (KeepK S10 w9 w9 (AndK (CallK Tryz.prog 89 #[.int .i64 (IntKind.i64.wrap (p0.tdiv 10))] w9 (.v (.one .str)) (fun (x17 : ByteArray) w18 => KeepK S10 w9 w18 (RunK Tryz.prog (Instr.buildSlice 38 1 #[(0, .int .u8 (IntKind.u8.wrap (IntKind.i64.wrap (48 + (p0.tmod 10)))))]) w18 (.v (.one .slc)) (fun (x19 : Option Addr × Nat × Nat) w20 => KeepK S10 w18 w20 (RunK Tryz.prog (convert 38 9 (.slice x19.1 x19.2.1 x19.2.2)) w20 (.v (.one .str)) (fun (x21 : ByteArray) w22 => KeepK S10 w20 w22 (CatK x17 x21 (K (.string (x17 ++ x21)) w22))))))))
  (RunK Tryz.prog (Instr.buildSlice 38 1 #[(0, .int .u8 (IntKind.u8.wrap (IntKind.i64.wrap (48 + (p0.tmod 10)))))]) w9 (.v (.one .slc)) (fun (x23 : Option Addr × Nat × Nat) w24 => KeepK S10 w9 w24 (AndK (CallK Tryz.prog 89 #[.int .i64 (IntKind.i64.wrap (p0.tdiv 10))] w24 (.v (.one .str)) (fun (x25 : ByteArray) w26 => KeepK S10 w24 w26 (RunK Tryz.prog (convert 38 9 (.slice x23.1 x23.2.1 x23.2.2)) w26 (.v (.one .str)) (fun (x27 : ByteArray) w28 => KeepK S10 w26 w28 (CatK x25 x27 (K (.string (x25 ++ x27)) w28))))))
  (RunK Tryz.prog (convert 38 9 (.slice x23.1 x23.2.1 x23.2.2)) w24 (.v (.one .str)) (fun (x29 : ByteArray) w30 => KeepK S10 w24 w30 (CallK Tryz.prog 89 #[.int .i64 (IntKind.i64.wrap (p0.tdiv 10))] w30 (.v (.one .str)) (fun (x31 : ByteArray) w32 => KeepK S10 w30 w32 (CatK x31 x29 (K (.string (x31 ++ x29)) w32)))))))))))))))))
def pl89 : Plan := (.seq .auto (.seq .auto (.seq .auto (.seq (.held (.soft 0 (.soft 1 (.soft 3 (.soft 4 (.soft 5 (.pick 2 (.pick 6 (.pick 7 (.pick 8 (.soft 9 (.soft 10 .done)) .stop) .stop) .stop) (.pick 6 (.pick 2 (.pick 7 (.pick 8 (.soft 9 (.soft 10 .done)) .stop) .stop) (.pick 7 (.pick 2 (.pick 8 (.soft 9 (.soft 10 .done)) .stop) (.pick 8 (.pick 2 (.soft 9 (.soft 10 .done)) .stop) .stop)) .stop)) .stop)))))))) .auto))))
theorem e89 (p0 : Int) (w : World) (K : Value → World → Prop) : vcFunc Tryz.prog Tryz.f89 pl89 [.int .i64 p0] w K = C89 p0 w K := by kernel_rfl
theorem c89 (p0 : Int) (w : World) (K : Value → World → Prop) (h : C89 p0 w K) : Ret Tryz.prog 89 #[.int .i64 p0] w K := by
  rw [← e89] at h
  exact vcFunc_sound (by kernel_rfl) Tryz.func89 h

end Go.Proofs.YtbadiokobooliaaGreatDoor

/-! ### DigSpec -/
set_option linter.unusedVariables false
set_option maxRecDepth 100000
namespace Go.Proofs.YtbadiokobooliaaGreatDoor
open Vc

def dig1 (n : Nat) : List UInt8 := [UInt8.ofNat (48 + n)]
theorem elem_u8 : ElemOk Tryz.prog 38 5 1 (.int .u8 0) 1 := ⟨Tryz.underlying38, ⟨Tryz.t5, by kernel_rfl, rfl, rfl, rfl⟩, rfl, by decide⟩

/-- One byte, as a slice, then as a text. -/
theorem dig1_slice (x : Int) (n : Nat) (hx : x = (n : Int)) (hn : n < 10) (w : World) : ∃ (v : Sl) (w' : World), (Instr.buildSlice 38 1 #[(0, .int .u8 (IntKind.u8.wrap (IntKind.i64.wrap (48 + x))))]).run Tryz.prog w = .ok (.slice v.1 v.2.1 v.2.2) w' ∧
    IsSl w' 5 1 v [.int .u8 ((UInt8.ofNat (48 + n)).toNat : Int)] ∧ v.2.1 = 1 ∧ Fr none1 w w' := by
  have e : IntKind.u8.wrap (IntKind.i64.wrap (48 + x)) = ((UInt8.ofNat (48 + n)).toNat : Int) := by
    rw [wI (by omega) (by omega), IntKind.wrap_u8, u8_of (by omega)]; omega
  rw [e]
  obtain ⟨v, w1, r1, hv, hl, f1, _⟩ := one_ok (P := Tryz.prog) (w := w) elem_u8 (.int .u8 ((UInt8.ofNat (48 + n)).toNat : Int)) rfl
  exact ⟨v, w1, r1, hv, hl, f1⟩
theorem dig1_text {v : Sl} {w : World} {n : Nat} (hv : IsSl w 5 1 v [.int .u8 ((UInt8.ofNat (48 + n)).toNat : Int)]) (hl : v.2.1 = 1) :
    (convert 38 9 (.slice v.1 v.2.1 v.2.2)).run Tryz.prog w = .ok (.string (str (dig1 n))) w := by
  have hr := IsSl.rd hv
  cases hx : v.1 with
  | none => have := (hr.2.1 hx).1; omega
  | some a =>
    have hc := hr.2.2 a hx
    rw [hl]
    exact run_convert_bytes_back w 38 9 5 a v.2.2 [UInt8.ofNat (48 + n)] Tryz.underlying38 Tryz.underlying5 Tryz.underlying9 (fun j hj => by
      have : j = 0 := by simpa using hj
      subst this
      exact hc.1)

theorem dec_lo {n : Nat} (h : n < 10) : Lib.decDigits n = dig1 n := by rw [Lib.decDigits, dif_pos h]; rfl
theorem dec_hi {n : Nat} (h : ¬ n < 10) : Lib.decDigits n = Lib.decDigits (n / 10) ++ dig1 (n % 10) := by rw [Lib.decDigits, dif_neg h]; rfl
theorem dec_len : ∀ (k u : Nat), u < 10 ^ (k + 1) → (Lib.decDigits u).length ≤ k + 1
  | 0, u, h => by rw [dec_lo (by omega)]; simp [dig1]
  | k + 1, u, h => by
    by_cases hu : u < 10
    · rw [dec_lo hu]; simp [dig1]
    · rw [dec_hi hu, List.length_append]
      have := dec_len k (u / 10) (by rw [Nat.pow_succ] at h; omega)
      simp only [dig1, List.length_singleton]; omega
theorem cat_small {a b : ByteArray} {K : Prop} (h : a.size + b.size ≤ 1000000) (k : K) : CatK a b K := ⟨by show ((a.size + b.size : Nat) : Int) ≤ 9223372036854775807; omega, k⟩

theorem digits_nat : ∀ n : Nat, n ≤ 9223372036854775807 → ∀ w, Ret Tryz.prog 89 #[.int .i64 (n : Int)] w fun r w' => r = .string (str (Lib.decDigits n)) ∧ Fr none1 w w' := by
  intro n
  induction n using Nat.strongRecOn with
  | _ n ih =>
    intro hn w
    refine c89 _ w _ ?_
    unfold C89
    refine ifB.no (by omega) ?_
    by_cases h : n < 10
    · refine ifB.yes (by omega) ?_
      rw [dec_lo h]
      obtain ⟨v, w1, r1, hv, hl, f1⟩ := dig1_slice (n : Int) n rfl h w
      exact ⟨v, w1, r1, _, w1, dig1_text hv hl, rfl, f1⟩
    · refine ifB.no (by omega) ?_
      have hq : IntKind.i64.wrap ((n : Int).tdiv 10) = ((n / 10 : Nat) : Int) := by
        rw [Int.tdiv_eq_ediv_of_nonneg (by omega), wI (by omega) (by omega)]; omega
      have hm : (n : Int).tmod 10 = ((n % 10 : Nat) : Int) := by rw [Int.tmod_eq_emod_of_nonneg (by omega)]; omega
      rw [hq, hm, dec_hi h, ← str_app]
      have ih' := ih (n / 10) (by omega) (by omega)
      have hc : ∀ {K : Prop}, K → CatK (str (Lib.decDigits (n / 10))) (str (dig1 (n % 10))) K := fun k => by
        refine cat_small ?_ k
        have := dec_len 18 (n / 10) (by omega)
        rw [str_size, str_size]; simp only [dig1, List.length_singleton]; omega
      refine DrewK.of fun w0 _ f0 => HoldK.all ⟨by omega, ⟨by omega, ⟨?_, KeepK.of (Fr.refl _ _) ⟨?_, ?_⟩⟩⟩⟩
      · refine CallK.of (ih' w0) ?_
        rintro _ w1 ⟨rfl, f1⟩
        refine ⟨_, rfl, KeepK.of f1 (KeepK.of (Fr.refl _ _) ?_)⟩
        obtain ⟨v, w2, r2, hv, hl, f2⟩ := dig1_slice ((n % 10 : Nat) : Int) (n % 10) rfl (by omega) w1
        exact ⟨v, w2, r2, KeepK.of f2 ⟨_, w2, dig1_text hv hl, KeepK.of (Fr.refl _ _) (hc ⟨rfl, (f0.trans f1).trans f2⟩)⟩⟩
      · refine CallK.of (ih' w0) ?_
        rintro _ w1 ⟨rfl, f1⟩
        refine ⟨_, rfl, KeepK.of f1 ?_⟩
        obtain ⟨v, w2, r2, hv, hl, f2⟩ := dig1_slice ((n % 10 : Nat) : Int) (n % 10) rfl (by omega) w1
        exact ⟨v, w2, r2, KeepK.of f2 ⟨_, w2, dig1_text hv hl, KeepK.of (Fr.refl _ _) (hc ⟨rfl, (f0.trans f1).trans f2⟩)⟩⟩
      · obtain ⟨v, w1, r1, hv, hl, f1⟩ := dig1_slice ((n % 10 : Nat) : Int) (n % 10) rfl (by omega) w0
        refine ⟨v, w1, r1, KeepK.of f1 ⟨?_, ?_⟩⟩
        · refine CallK.of (ih' w1) ?_
          rintro _ w2 ⟨rfl, f2⟩
          exact ⟨_, rfl, KeepK.of f2 ⟨_, w2, dig1_text (hv.keep0 f2) hl, KeepK.of (Fr.refl _ _) (hc ⟨rfl, (f0.trans f1).trans f2⟩)⟩⟩
        · refine ⟨_, w1, dig1_text hv hl, KeepK.of (Fr.refl _ _) ?_⟩
          refine CallK.of (ih' w1) ?_
          rintro _ w2 ⟨rfl, f2⟩
          exact ⟨_, rfl, KeepK.of f2 (hc ⟨rfl, (f0.trans f1).trans f2⟩)⟩

theorem digits_neg : ∀ n : Nat, 1 ≤ n → n ≤ 9223372036854775808 → ∀ w, Ret Tryz.prog 89 #[.int .i64 (-(n : Int))] w fun r w' => r = .string (str (45 :: Lib.decDigits n)) ∧ Fr none1 w w' := by
  intro n
  induction n using Nat.strongRecOn with
  | _ n ih =>
    intro h1 hn w
    refine c89 _ w _ ?_
    unfold C89
    refine ifB.yes (by omega) ⟨by omega, ?_⟩
    have hm : IntKind.i64.wrap (0 - (-(n : Int)).tmod 10) = ((n % 10 : Nat) : Int) := by
      rw [Int.neg_tmod, Int.tmod_eq_emod_of_nonneg (by omega), wI (by omega) (by omega)]; omega
    rw [hm]
    refine CallK.of (digits_nat (n % 10) (by omega) w) ?_
    rintro _ w1 ⟨rfl, f1⟩
    refine ⟨_, rfl, ?_⟩
    by_cases h : n < 10
    · refine ifB.yes (by omega) ?_
      have : n % 10 = n := by omega
      rw [this, dec_lo h]
      exact cat_small (by rw [str_size]; simp only [dig1, List.length_singleton]; decide) ⟨by show Value.string (str [45] ++ str (dig1 n)) = _; rw [str_app]; rfl, f1⟩
    · refine ifB.no (by omega) ⟨by omega, ?_⟩
      have hq : IntKind.i64.wrap ((-(n : Int)).tdiv 10) = -((n / 10 : Nat) : Int) := by
        rw [Int.neg_tdiv, Int.tdiv_eq_ediv_of_nonneg (by omega), wI (by omega) (by omega)]; omega
      rw [hq]
      refine CallK.of (ih (n / 10) (by omega) (by omega) (by omega) w1) ?_
      rintro _ w2 ⟨rfl, f2⟩
      refine ⟨_, rfl, ?_⟩
      rw [dec_lo (show n % 10 < 10 by omega), dec_hi h]
      refine cat_small ?_ ⟨by rw [str_app]; rfl, f1.trans f2⟩
      have := dec_len 18 (n / 10) (by omega)
      rw [str_size, str_size]; simp only [dig1, List.length_nil, List.length_cons]; omega

theorem digits_spec (n : Int) (h0 : -9223372036854775808 ≤ n) (h1 : n ≤ 9223372036854775807) (w : World) : Ret Tryz.prog 89 #[.int .i64 n] w fun r w' => r = .string (str (Lib.itoa n)) ∧ Fr none1 w w' := by
  unfold Lib.itoa
  by_cases h : n < 0
  · rw [if_pos h]
    have := digits_neg n.natAbs (by omega) (by omega) w
    rwa [show -(n.natAbs : Int) = n by omega] at this
  · rw [if_neg h]
    have := digits_nat n.toNat (by omega) w
    rwa [show (n.toNat : Int) = n by omega] at this

end Go.Proofs.YtbadiokobooliaaGreatDoor

/-! ### CMakeG -/
namespace Go.Proofs.YtbadiokobooliaaGreatDoor
open Vc
set_option maxRecDepth 100000
set_option linter.unusedVariables false
/-- (*handfast/handfastplay.maker).n -/
def C155 (p0 : Addr) (p1 : Int) (w : World) (K : Value → World → Prop) : Prop :=
  DrewK w (fun w1 => LdK (.int .i64) (p0.add 2) w1 (fun (x2 : Int) => LdK .slc ((p0.add 0).add 0) w1 (fun (x3 : Option Addr × Nat × Nat) => ifB (decide (x2 < (x3.2.1 : Int)))
  (DrewK w1 (fun w4 => LdK .slc ((p0.add 0).add 0) w4 (fun (x5 : Option Addr × Nat × Nat) => LdK (.int .i64) (p0.add 2) w4 (fun (x6 : Int) => IdxK x5.1 x5.2.1 x6 1 (fun a7 => LdK (.int .i64) a7 w4 (fun (x8 : Int) => LdK (.int .i64) (p0.add 2) w4 (fun (x9 : Int) => StK (p0.add 2) (.int .i64 (IntKind.i64.wrap (x9 + 1))) w4 (fun w10 => CallK Tryz.prog 22 #[.int .i64 x8, .int .i64 p1] w10 (.v (.one (.int .i64))) (fun (x11 : Int) w12 => K (.int .i64 x11) w12)))))))))
  (LdK (.int .i64) (p0.add 2) w1 (fun (x13 : Int) => StK (p0.add 2) (.int .i64 (IntKind.i64.wrap (x13 + 1))) w1 (fun w14 => CallK Tryz.prog 22 #[.int .i64 0, .int .i64 p1] w14 (.v (.one (.int .i64))) (fun (x15 : Int) w16 => K (.int .i64 x15) w16)))))))
def pl155 : Plan := (.seq .auto (.seq .auto (.seq (.seq .still (.cond .still .auto)) .auto)))
theorem e155 (p0 : Addr) (p1 : Int) (w : World) (K : Value → World → Prop) : vcFunc Tryz.prog Tryz.f155 pl155 [.pointer (some p0), .int .i64 p1] w K = C155 p0 p1 w K := by kernel_rfl
theorem c155 (p0 : Addr) (p1 : Int) (w : World) (K : Value → World → Prop) (h : C155 p0 p1 w K) : Ret Tryz.prog 155 #[.pointer (some p0), .int .i64 p1] w K := by
  rw [← e155] at h
  exact vcFunc_sound (by kernel_rfl) Tryz.func155 h

/-- (*handfast/handfastplay.maker).word -/
def C156 (p0 : Addr) (p1 : Option Addr) (p1l p1c : Nat) (w : World) (K : Value → World → Prop) : Prop :=
  CallK Tryz.prog 155 #[.pointer (some p0), .int .i64 (IntKind.i64.wrap ((p1l : Int) + 6))] w (.v (.one (.int .i64))) (fun (x1 : Int) w2 => JoinK (Bool × Unit) (fun J3 => ifB (decide (x1 ≥ (p1l : Int)))
  (LdK .slc ((p0.add 0).add 1) w2 (fun (x6 : Option Addr × Nat × Nat) => ifB (decide ((x6.2.1 : Int) > 0))
  (NzK 7 (J3 (((x1.tmod 7) == 0), ()) w2))
  (J3 (false, ()) w2)))
  (J3 (false, ()) w2))
  (fun _ s4 w5 => ifB s4.1
  (DrewK w5 (fun w7 => LdK .slc ((p0.add 0).add 1) w7 (fun (x8 : Option Addr × Nat × Nat) => LdK .slc ((p0.add 0).add 1) w7 (fun (x9 : Option Addr × Nat × Nat) => NzK (x9.2.1 : Int) (IdxK x8.1 x8.2.1 (x1.tmod (x9.2.1 : Int)) 1 (fun a10 => LdK .str a10 w7 (fun (x11 : ByteArray) => CallK Tryz.prog 49 #[.string x11, .int .i64 14] w7 (.v (.one .str)) (fun (x12 : ByteArray) w13 => K (.string x12) w13))))))))
  (NzK (p1l : Int) (IdxK p1 p1l (x1.tmod (p1l : Int)) 1 (fun a14 => LdK .str a14 w5 (fun (x15 : ByteArray) => K (.string x15) w5))))))
def pl156 : Plan := (.seq .auto (.seq .auto (.seq (.join [(28, .one .bool)] .auto (.cond (.seq (.tail 15) .auto) .auto)) .auto)))
theorem e156 (p0 : Addr) (p1 : Option Addr) (p1l p1c : Nat) (w : World) (K : Value → World → Prop) : vcFunc Tryz.prog Tryz.f156 pl156 [.pointer (some p0), .slice p1 p1l p1c] w K = C156 p0 p1 p1l p1c w K := by kernel_rfl
theorem c156 (p0 : Addr) (p1 : Option Addr) (p1l p1c : Nat) (w : World) (K : Value → World → Prop) (h : C156 p0 p1 p1l p1c w K) : Ret Tryz.prog 156 #[.pointer (some p0), .slice p1 p1l p1c] w K := by
  rw [← e156] at h
  exact vcFunc_sound (by kernel_rfl) Tryz.func156 h

/-- (*handfast/handfastplay.maker).obs -/
def C157 (p0 : Addr) (p1 : Int) (w : World) (K : Value → World → Prop) : Prop :=
  NewK (.cells #[.int .i64 0, .string (⟨#[]⟩ : ByteArray), .int .i64 0, .slice none 0 0] 33) w (fun g1 w2 => LdK (.int .i64) (p0.add 3) w2 (fun (x3 : Int) => StK (p0.add 3) (.int .i64 (IntKind.i64.wrap (x3 - 1))) w2 (fun w4 => CallK Tryz.prog 155 #[.pointer (some p0), .int .i64 9] w4 (.v (.one (.int .i64))) (fun (x5 : Int) w6 => JoinK (Int × Unit) (fun J7 => JoinK (Bool × Unit) (fun J10 => ifB (decide (p1 ≤ 0))
  (J10 (true, ()) w6)
  (LdK (.int .i64) (p0.add 3) w6 (fun (x13 : Int) => J10 (decide (x13 ≤ 0), ()) w6)))
  (fun _ s11 w12 => ifB s11.1
  (NzK 3 (J7 ((x5.tmod 3), ()) w12))
  (J7 (x5, ()) w12)))
  (fun _ s8 w9 => JoinK (Unit) (fun J14 => JoinK (Bool × Unit) (fun J17 => ifB (s8.1 == 0)
  (J17 ((s8.1 == 0), ()) w9)
  (J17 ((s8.1 == 1), ()) w9))
  (fun _ s18 w19 => ifB s18.1
  (RunK Tryz.prog (Instr.buildSlice 22 10 #[(0, .int .i64 0), (1, .int .i64 1), (2, .int .i64 (-1)), (3, .int .i64 2), (4, .int .i64 100), (5, .int .i64 (-7)), (6, .int .i64 1000000), (7, .int .i64 1000000000000), (8, .int .i64 (-1000000000000)), (9, .int .i64 3)]) w19 (.v (.one .slc)) (fun (x20 : Option Addr × Nat × Nat) w21 => CallK Tryz.prog 155 #[.pointer (some p0), .int .i64 10] w21 (.v (.one (.int .i64))) (fun (x22 : Int) w23 => IdxK x20.1 x20.2.1 x22 1 (fun a24 => LdK (.int .i64) a24 w23 (fun (x25 : Int) => StsK (⟨g1, 0, none⟩ : Addr) [.int .i64 11, .string (⟨#[]⟩ : ByteArray), .int .i64 x25, .slice none 0 0] w23 (fun w26 => LdsK [.int .i64, .str, .int .i64, .slc] (⟨g1, 0, none⟩ : Addr) w26 (fun (x27 : Int × ByteArray × Int × (Option Addr × Nat × Nat) × Unit) => K (.agg #[.int .i64 x27.1, .string x27.2.1, .int .i64 x27.2.2.1, .slice x27.2.2.2.1.1 x27.2.2.2.1.2.1 x27.2.2.2.1.2.2]) w26)))))))
  (ifB (s8.1 == 2)
  (ifB (s8.1 == 2)
  (RunK Tryz.prog (Instr.buildSlice 23 3 #[(0, .string (⟨#[108, 105, 98, 111, 114]⟩ : ByteArray)), (1, .string (⟨#[114, 97, 105, 110]⟩ : ByteArray)), (2, .string (⟨#[195, 182, 108]⟩ : ByteArray))]) w19 (.v (.one .slc)) (fun (x28 : Option Addr × Nat × Nat) w29 => CallK Tryz.prog 156 #[.pointer (some p0), .slice x28.1 x28.2.1 x28.2.2] w29 (.v (.one .str)) (fun (x30 : ByteArray) w31 => StsK (⟨g1, 0, none⟩ : Addr) [.int .i64 12, .string x30, .int .i64 0, .slice none 0 0] w31 (fun w32 => LdsK [.int .i64, .str, .int .i64, .slc] (⟨g1, 0, none⟩ : Addr) w32 (fun (x33 : Int × ByteArray × Int × (Option Addr × Nat × Nat) × Unit) => K (.agg #[.int .i64 x33.1, .string x33.2.1, .int .i64 x33.2.2.1, .slice x33.2.2.2.1.1 x33.2.2.2.1.2.1 x33.2.2.2.1.2.2]) w32)))))
  (ifB (s8.1 == 5)
  (CallK Tryz.prog 157 #[.pointer (some p0), .int .i64 (IntKind.i64.wrap (p1 - 1))] w19 (.v (.agg [.int .i64, .str, .int .i64, .slc])) (fun (x34 : Int × ByteArray × Int × (Option Addr × Nat × Nat) × Unit) w35 => RunK Tryz.prog (Instr.buildSlice 31 1 #[(0, .agg #[.int .i64 x34.1, .string x34.2.1, .int .i64 x34.2.2.1, .slice x34.2.2.2.1.1 x34.2.2.2.1.2.1 x34.2.2.2.1.2.2])]) w35 (.v (.one .slc)) (fun (x36 : Option Addr × Nat × Nat) w37 => StsK (⟨g1, 0, none⟩ : Addr) [.int .i64 14, .string (⟨#[]⟩ : ByteArray), .int .i64 0, .slice x36.1 x36.2.1 x36.2.2] w37 (fun w38 => LdsK [.int .i64, .str, .int .i64, .slc] (⟨g1, 0, none⟩ : Addr) w38 (fun (x39 : Int × ByteArray × Int × (Option Addr × Nat × Nat) × Unit) => K (.agg #[.int .i64 x39.1, .string x39.2.1, .int .i64 x39.2.2.1, .slice x39.2.2.2.1.1 x39.2.2.2.1.2.1 x39.2.2.2.1.2.2]) w38)))))
  (J14 (()) w19)))
  (ifB (s8.1 == 3)
  (ifB (s8.1 == 3)
  (RunK Tryz.prog (Instr.buildSlice 23 3 #[(0, .string (⟨#[108, 105, 98, 111, 114]⟩ : ByteArray)), (1, .string (⟨#[114, 97, 105, 110]⟩ : ByteArray)), (2, .string (⟨#[195, 182, 108]⟩ : ByteArray))]) w19 (.v (.one .slc)) (fun (x40 : Option Addr × Nat × Nat) w41 => CallK Tryz.prog 156 #[.pointer (some p0), .slice x40.1 x40.2.1 x40.2.2] w41 (.v (.one .str)) (fun (x42 : ByteArray) w43 => StsK (⟨g1, 0, none⟩ : Addr) [.int .i64 12, .string x42, .int .i64 0, .slice none 0 0] w43 (fun w44 => LdsK [.int .i64, .str, .int .i64, .slc] (⟨g1, 0, none⟩ : Addr) w44 (fun (x45 : Int × ByteArray × Int × (Option Addr × Nat × Nat) × Unit) => K (.agg #[.int .i64 x45.1, .string x45.2.1, .int .i64 x45.2.2.1, .slice x45.2.2.2.1.1 x45.2.2.2.1.2.1 x45.2.2.2.1.2.2]) w44)))))
  (ifB (s8.1 == 5)
  (CallK Tryz.prog 157 #[.pointer (some p0), .int .i64 (IntKind.i64.wrap (p1 - 1))] w19 (.v (.agg [.int .i64, .str, .int .i64, .slc])) (fun (x46 : Int × ByteArray × Int × (Option Addr × Nat × Nat) × Unit) w47 => RunK Tryz.prog (Instr.buildSlice 31 1 #[(0, .agg #[.int .i64 x46.1, .string x46.2.1, .int .i64 x46.2.2.1, .slice x46.2.2.2.1.1 x46.2.2.2.1.2.1 x46.2.2.2.1.2.2])]) w47 (.v (.one .slc)) (fun (x48 : Option Addr × Nat × Nat) w49 => StsK (⟨g1, 0, none⟩ : Addr) [.int .i64 14, .string (⟨#[]⟩ : ByteArray), .int .i64 0, .slice x48.1 x48.2.1 x48.2.2] w49 (fun w50 => LdsK [.int .i64, .str, .int .i64, .slc] (⟨g1, 0, none⟩ : Addr) w50 (fun (x51 : Int × ByteArray × Int × (Option Addr × Nat × Nat) × Unit) => K (.agg #[.int .i64 x51.1, .string x51.2.1, .int .i64 x51.2.2.1, .slice x51.2.2.2.1.1 x51.2.2.2.1.2.1 x51.2.2.2.1.2.2]) w50)))))
  (J14 (()) w19)))
  (ifB (s8.1 == 4)
  (RunK Tryz.prog (Instr.buildSlice 23 3 #[(0, .string (⟨#[108, 105, 98, 111, 114]⟩ : ByteArray)), (1, .string (⟨#[114, 97, 105, 110]⟩ : ByteArray)), (2, .string (⟨#[195, 182, 108]⟩ : ByteArray))]) w19 (.v (.one .slc)) (fun (x52 : Option Addr × Nat × Nat) w53 => CallK Tryz.prog 156 #[.pointer (some p0), .slice x52.1 x52.2.1 x52.2.2] w53 (.v (.one .str)) (fun (x54 : ByteArray) w55 => StsK (⟨g1, 0, none⟩ : Addr) [.int .i64 12, .string x54, .int .i64 0, .slice none 0 0] w55 (fun w56 => LdsK [.int .i64, .str, .int .i64, .slc] (⟨g1, 0, none⟩ : Addr) w56 (fun (x57 : Int × ByteArray × Int × (Option Addr × Nat × Nat) × Unit) => K (.agg #[.int .i64 x57.1, .string x57.2.1, .int .i64 x57.2.2.1, .slice x57.2.2.2.1.1 x57.2.2.2.1.2.1 x57.2.2.2.1.2.2]) w56)))))
  (ifB (s8.1 == 5)
  (CallK Tryz.prog 157 #[.pointer (some p0), .int .i64 (IntKind.i64.wrap (p1 - 1))] w19 (.v (.agg [.int .i64, .str, .int .i64, .slc])) (fun (x58 : Int × ByteArray × Int × (Option Addr × Nat × Nat) × Unit) w59 => RunK Tryz.prog (Instr.buildSlice 31 1 #[(0, .agg #[.int .i64 x58.1, .string x58.2.1, .int .i64 x58.2.2.1, .slice x58.2.2.2.1.1 x58.2.2.2.1.2.1 x58.2.2.2.1.2.2])]) w59 (.v (.one .slc)) (fun (x60 : Option Addr × Nat × Nat) w61 => StsK (⟨g1, 0, none⟩ : Addr) [.int .i64 14, .string (⟨#[]⟩ : ByteArray), .int .i64 0, .slice x60.1 x60.2.1 x60.2.2] w61 (fun w62 => LdsK [.int .i64, .str, .int .i64, .slc] (⟨g1, 0, none⟩ : Addr) w62 (fun (x63 : Int × ByteArray × Int × (Option Addr × Nat × Nat) × Unit) => K (.agg #[.int .i64 x63.1, .string x63.2.1, .int .i64 x63.2.2.1, .slice x63.2.2.2.1.1 x63.2.2.2.1.2.1 x63.2.2.2.1.2.2]) w62)))))
  (J14 (()) w19)))))))
  (fun _ s15 w16 => CallK Tryz.prog 157 #[.pointer (some p0), .int .i64 (IntKind.i64.wrap (p1 - 1))] w16 (.v (.agg [.int .i64, .str, .int .i64, .slc])) (fun (x64 : Int × ByteArray × Int × (Option Addr × Nat × Nat) × Unit) w65 => NewK (.cells #[.int .i64 0, .string (⟨#[]⟩ : ByteArray), .int .i64 0, .slice none 0 0] 33) w65 (fun g66 w67 => StsK (⟨g66, 0, none⟩ : Addr) [.int .i64 x64.1, .string x64.2.1, .int .i64 x64.2.2.1, .slice x64.2.2.2.1.1 x64.2.2.2.1.2.1 x64.2.2.2.1.2.2] w67 (fun w68 => DrewK w68 (fun w69 => HoldK (fun S70 => InK S70 (⟨g66, 0, none⟩ : Addr) (LdsK [.int .i64, .str, .int .i64, .slc] (⟨g66, 0, none⟩ : Addr) w69 (fun (x71 : Int × ByteArray × Int × (Option Addr × Nat × Nat) × Unit) => AndK (RunK Tryz.prog (Instr.buildSlice 22 3 #[(0, .int .i64 13), (1, .int .i64 15), (2, .int .i64 16)]) w69 (.v (.one .slc)) (fun (x72 : Option Addr × Nat × Nat) w73 => KeepK S70 w69 w73 (IdxK x72.1 x72.2.1 (IntKind.i64.wrap (s8.1 - 6)) 1 (fun a74 => InK S70 a74 (LdK (.int .i64) a74 w73 (fun (x75 : Int) => CallK Tryz.prog 157 #[.pointer (some p0), .int .i64 (IntKind.i64.wrap (p1 - 1))] w73 (.v (.agg [.int .i64, .str, .int .i64, .slc])) (fun (x76 : Int × ByteArray × Int × (Option Addr × Nat × Nat) × Unit) w77 => KeepK S70 w73 w77 (RunK Tryz.prog (Instr.buildSlice 31 2 #[(0, .agg #[.int .i64 x71.1, .string x71.2.1, .int .i64 x71.2.2.1, .slice x71.2.2.2.1.1 x71.2.2.2.1.2.1 x71.2.2.2.1.2.2]), (1, .agg #[.int .i64 x76.1, .string x76.2.1, .int .i64 x76.2.2.1, .slice x76.2.2.2.1.1 x76.2.2.2.1.2.1 x76.2.2.2.1.2.2])]) w77 (.v (.one .slc)) (fun (x78 : Option Addr × Nat × Nat) w79 => KeepK S70 w77 w79 (StsK (⟨g1, 0, none⟩ : Addr) [.int .i64 x75, .string (⟨#[]⟩ : ByteArray), .int .i64 0, .slice x78.1 x78.2.1 x78.2.2] w79 (fun w80 => KeepK S70 w79 w80 (LdsK [.int .i64, .str, .int .i64, .slc] (⟨g1, 0, none⟩ : Addr) w80 (fun (x81 : Int × ByteArray × Int × (Option Addr × Nat × Nat) × Unit) => K (.agg #[.int .i64 x81.1, .string x81.2.1, .int .i64 x81.2.2.1, .slice x81.2.2.2.1.1 x81.2.2.2.1.2.1 x81.2.2.2.1.2.2]) w80)))))))))))))
  (CallK Tryz.prog 157 #[.pointer (some p0), .int .i64 (IntKind.i64.wrap (p1 - 1))] w69 (.v (.agg [.int .i64, .str, .int .i64, .slc])) (fun (x82 : Int × ByteArray × Int × (Option Addr × Nat × Nat) × Unit) w83 => KeepK S70 w69 w83 (AndK (RunK Tryz.prog (Instr.buildSlice 22 3 #[(0, .int .i64 13), (1, .int .i64 15), (2, .int .i64 16)]) w83 (.v (.one .slc)) (fun (x84 : Option Addr × Nat × Nat) w85 => KeepK S70 w83 w85 (IdxK x84.1 x84.2.1 (IntKind.i64.wrap (s8.1 - 6)) 1 (fun a86 => InK S70 a86 (LdK (.int .i64) a86 w85 (fun (x87 : Int) => RunK Tryz.prog (Instr.buildSlice 31 2 #[(0, .agg #[.int .i64 x71.1, .string x71.2.1, .int .i64 x71.2.2.1, .slice x71.2.2.2.1.1 x71.2.2.2.1.2.1 x71.2.2.2.1.2.2]), (1, .agg #[.int .i64 x82.1, .string x82.2.1, .int .i64 x82.2.2.1, .slice x82.2.2.2.1.1 x82.2.2.2.1.2.1 x82.2.2.2.1.2.2])]) w85 (.v (.one .slc)) (fun (x88 : Option Addr × Nat × Nat) w89 => KeepK S70 w85 w89 (StsK (⟨g1, 0, none⟩ : Addr) [.int .i64 x87, .string (⟨#[]⟩ : ByteArray), .int .i64 0, .slice x88.1 x88.2.1 x88.2.2] w89 (fun w90 => KeepK S70 w89 w90 (LdsK [.int .i64, .str, .int .i64, .slc] (⟨g1, 0, none⟩ : Addr) w90 (fun (x91 : Int × ByteArray × Int × (Option Addr × Nat × Nat) × Unit) => K (.agg #[.int .i64 x91.1, .string x91.2.1, .int .i64 x91.2.2.1, .slice x91.2.2.2.1.1 x91.2.2.2.1.2.1 x91.2.2.2.1.2.2]) w90)))))))))))
  (RunK Tryz.prog (Instr.buildSlice 31 2 #[(0, .agg #[.int .i64 x71.1, .string x71.2.1, .int .i64 x71.2.2.1, .slice x71.2.2.2.1.1 x71.2.2.2.1.2.1 x71.2.2.2.1.2.2]), (1, .agg #[.int .i64 x82.1, .string x82.2.1, .int .i64 x82.2.2.1, .slice x82.2.2.2.1.1 x82.2.2.2.1.2.1 x82.2.2.2.1.2.2])]) w83 (.v (.one .slc)) (fun (x92 : Option Addr × Nat × Nat) w93 => KeepK S70 w83 w93 (RunK Tryz.prog (Instr.buildSlice 22 3 #[(0, .int .i64 13), (1, .int .i64 15), (2, .int .i64 16)]) w93 (.v (.one .slc)) (fun (x94 : Option Addr × Nat × Nat) w95 => KeepK S70 w93 w95 (IdxK x94.1 x94.2.1 (IntKind.i64.wrap (s8.1 - 6)) 1 (fun a96 => InK S70 a96 (LdK (.int .i64) a96 w95 (fun (x97 : Int) => StsK (⟨g1, 0, none⟩ : Addr) [.int .i64 x97, .string (⟨#[]⟩ : ByteArray), .int .i64 0, .slice x92.1 x92.2.1 x92.2.2] w95 (fun w98 => KeepK S70 w95 w98 (LdsK [.int .i64, .str, .int .i64, .slc] (⟨g1, 0, none⟩ : Addr) w98 (fun (x99 : Int × ByteArray × Int × (Option Addr × Nat × Nat) × Unit) => K (.agg #[.int .i64 x99.1, .string x99.2.1, .int .i64 x99.2.2.1, .slice x99.2.2.2.1.1 x99.2.2.2.1.2.1 x99.2.2.2.1.2.2]) w98)))))))))))))))))))))))))))
def pl157 : Plan := (.seq .auto (.seq .auto (.seq .auto (.join [(5, .one (.int .i64))] (.join [(24, .one .bool)] .auto .auto) (.join [] (.seq .auto (.block (.join [(28, .one .bool)] .auto .auto))) (.seq .auto (.seq (.held (.soft 1 (.soft 2 (.soft 5 (.soft 6 (.soft 7 (.soft 8 (.pick 0 (.soft 3 (.soft 4 (.pick 9 (.pick 10 (.soft 11 (.pick 12 .done .stop)) .stop) .stop))) (.pick 9 (.pick 0 (.soft 3 (.soft 4 (.pick 10 (.soft 11 (.pick 12 .done .stop)) .stop))) (.pick 10 (.pick 0 (.soft 3 (.soft 4 (.soft 11 (.pick 12 .done .stop)))) .stop) .stop)) .stop))))))))) .auto)))))))
theorem e157 (p0 : Addr) (p1 : Int) (w : World) (K : Value → World → Prop) : vcFunc Tryz.prog Tryz.f157 pl157 [.pointer (some p0), .int .i64 p1] w K = C157 p0 p1 w K := by kernel_rfl
theorem c157 (p0 : Addr) (p1 : Int) (w : World) (K : Value → World → Prop) (h : C157 p0 p1 w K) : Ret Tryz.prog 157 #[.pointer (some p0), .int .i64 p1] w K := by
  rw [← e157] at h
  exact vcFunc_sound (by kernel_rfl) Tryz.func157 h

/-- (*handfast/handfastplay.maker).term -/
def C121 (p0 : Addr) (p1 : Int) (w : World) (K : Value → World → Prop) : Prop :=
  NewK (.cells #[.int .i64 0, .string (⟨#[]⟩ : ByteArray), .int .i64 0, .slice none 0 0] 33) w (fun g1 w2 => LdK (.int .i64) (p0.add 3) w2 (fun (x3 : Int) => StK (p0.add 3) (.int .i64 (IntKind.i64.wrap (x3 - 1))) w2 (fun w4 => CallK Tryz.prog 155 #[.pointer (some p0), .int .i64 13] w4 (.v (.one (.int .i64))) (fun (x5 : Int) w6 => JoinK (Int × Unit) (fun J7 => JoinK (Bool × Unit) (fun J10 => ifB (decide (p1 ≤ 0))
  (J10 (true, ()) w6)
  (LdK (.int .i64) (p0.add 3) w6 (fun (x13 : Int) => J10 (decide (x13 ≤ 0), ()) w6)))
  (fun _ s11 w12 => ifB s11.1
  (NzK 3 (J7 ((x5.tmod 3), ()) w12))
  (J7 (x5, ()) w12)))
  (fun _ s8 w9 => NewK (.cells #[.int .i64 0, .string (⟨#[]⟩ : ByteArray), .int .i64 0, .slice none 0 0] 33) w9 (fun g14 w15 => StsK (⟨g14, 0, none⟩ : Addr) [.int .i64 0, .string (⟨#[]⟩ : ByteArray), .int .i64 0, .slice none 0 0] w15 (fun w16 => JoinK (Bool × Unit) (fun J17 => ifB (s8.1 == 0)
  (J17 ((s8.1 == 0), ()) w16)
  (J17 ((s8.1 == 1), ()) w16))
  (fun _ s18 w19 => ifB s18.1
  (RunK Tryz.prog (Instr.buildSlice 23 3 #[(0, .string (⟨#[117, 115, 100]⟩ : ByteArray)), (1, .string (⟨#[101, 117, 114]⟩ : ByteArray)), (2, .string (⟨#[103, 98, 112]⟩ : ByteArray))]) w19 (.v (.one .slc)) (fun (x20 : Option Addr × Nat × Nat) w21 => CallK Tryz.prog 156 #[.pointer (some p0), .slice x20.1 x20.2.1 x20.2.2] w21 (.v (.one .str)) (fun (x22 : ByteArray) w23 => StK ((⟨g14, 0, none⟩ : Addr).add 0) (.int .i64 2) w23 (fun w24 => StK ((⟨g14, 0, none⟩ : Addr).add 1) (.string x22) w24 (fun w25 => LdsK [.int .i64, .str, .int .i64, .slc] (⟨g14, 0, none⟩ : Addr) w25 (fun (x26 : Int × ByteArray × Int × (Option Addr × Nat × Nat) × Unit) => StsK (⟨g1, 0, none⟩ : Addr) [.int .i64 x26.1, .string x26.2.1, .int .i64 x26.2.2.1, .slice x26.2.2.2.1.1 x26.2.2.2.1.2.1 x26.2.2.2.1.2.2] w25 (fun w27 => LdsK [.int .i64, .str, .int .i64, .slc] (⟨g1, 0, none⟩ : Addr) w27 (fun (x28 : Int × ByteArray × Int × (Option Addr × Nat × Nat) × Unit) => K (.agg #[.int .i64 x28.1, .string x28.2.1, .int .i64 x28.2.2.1, .slice x28.2.2.2.1.1 x28.2.2.2.1.2.1 x28.2.2.2.1.2.2]) w27))))))))
  (ifB (s8.1 == 2)
  (StK ((⟨g14, 0, none⟩ : Addr).add 0) (.int .i64 1) w19 (fun w29 => LdsK [.int .i64, .str, .int .i64, .slc] (⟨g14, 0, none⟩ : Addr) w29 (fun (x30 : Int × ByteArray × Int × (Option Addr × Nat × Nat) × Unit) => StsK (⟨g1, 0, none⟩ : Addr) [.int .i64 x30.1, .string x30.2.1, .int .i64 x30.2.2.1, .slice x30.2.2.2.1.1 x30.2.2.2.1.2.1 x30.2.2.2.1.2.2] w29 (fun w31 => LdsK [.int .i64, .str, .int .i64, .slc] (⟨g1, 0, none⟩ : Addr) w31 (fun (x32 : Int × ByteArray × Int × (Option Addr × Nat × Nat) × Unit) => K (.agg #[.int .i64 x32.1, .string x32.2.1, .int .i64 x32.2.2.1, .slice x32.2.2.2.1.1 x32.2.2.2.1.2.1 x32.2.2.2.1.2.2]) w31)))))
  (JoinK (Bool × Unit) (fun J33 => ifB (s8.1 == 3)
  (J33 ((s8.1 == 3), ()) w19)
  (J33 ((s8.1 == 4), ()) w19))
  (fun _ s34 w35 => ifB s34.1
  (CallK Tryz.prog 121 #[.pointer (some p0), .int .i64 (IntKind.i64.wrap (p1 - 1))] w35 (.v (.agg [.int .i64, .str, .int .i64, .slc])) (fun (x36 : Int × ByteArray × Int × (Option Addr × Nat × Nat) × Unit) w37 => RunK Tryz.prog (Instr.buildSlice 31 1 #[(0, .agg #[.int .i64 x36.1, .string x36.2.1, .int .i64 x36.2.2.1, .slice x36.2.2.2.1.1 x36.2.2.2.1.2.1 x36.2.2.2.1.2.2])]) w37 (.v (.one .slc)) (fun (x38 : Option Addr × Nat × Nat) w39 => StK ((⟨g14, 0, none⟩ : Addr).add 0) (.int .i64 3) w39 (fun w40 => StK ((⟨g14, 0, none⟩ : Addr).add 3) (.slice x38.1 x38.2.1 x38.2.2) w40 (fun w41 => LdsK [.int .i64, .str, .int .i64, .slc] (⟨g14, 0, none⟩ : Addr) w41 (fun (x42 : Int × ByteArray × Int × (Option Addr × Nat × Nat) × Unit) => StsK (⟨g1, 0, none⟩ : Addr) [.int .i64 x42.1, .string x42.2.1, .int .i64 x42.2.2.1, .slice x42.2.2.2.1.1 x42.2.2.2.1.2.1 x42.2.2.2.1.2.2] w41 (fun w43 => LdsK [.int .i64, .str, .int .i64, .slc] (⟨g1, 0, none⟩ : Addr) w43 (fun (x44 : Int × ByteArray × Int × (Option Addr × Nat × Nat) × Unit) => K (.agg #[.int .i64 x44.1, .string x44.2.1, .int .i64 x44.2.2.1, .slice x44.2.2.2.1.1 x44.2.2.2.1.2.1 x44.2.2.2.1.2.2]) w43))))))))
  (JoinK (Bool × Unit) (fun J45 => ifB (s8.1 == 5)
  (J45 ((s8.1 == 5), ()) w35)
  (J45 ((s8.1 == 6), ()) w35))
  (fun _ s46 w47 => ifB s46.1
  (CallK Tryz.prog 121 #[.pointer (some p0), .int .i64 (IntKind.i64.wrap (p1 - 1))] w47 (.v (.agg [.int .i64, .str, .int .i64, .slc])) (fun (x48 : Int × ByteArray × Int × (Option Addr × Nat × Nat) × Unit) w49 => NewK (.cells #[.int .i64 0, .string (⟨#[]⟩ : ByteArray), .int .i64 0, .slice none 0 0] 33) w49 (fun g50 w51 => StsK (⟨g50, 0, none⟩ : Addr) [.int .i64 x48.1, .string x48.2.1, .int .i64 x48.2.2.1, .slice x48.2.2.2.1.1 x48.2.2.2.1.2.1 x48.2.2.2.1.2.2] w51 (fun w52 => DrewK w52 (fun w53 => HoldK (fun S54 => InK S54 (⟨g50, 0, none⟩ : Addr) (LdsK [.int .i64, .str, .int .i64, .slc] (⟨g50, 0, none⟩ : Addr) w53 (fun (x55 : Int × ByteArray × Int × (Option Addr × Nat × Nat) × Unit) => CallK Tryz.prog 121 #[.pointer (some p0), .int .i64 (IntKind.i64.wrap (p1 - 1))] w53 (.v (.agg [.int .i64, .str, .int .i64, .slc])) (fun (x56 : Int × ByteArray × Int × (Option Addr × Nat × Nat) × Unit) w57 => KeepK S54 w53 w57 (AndK (RunK Tryz.prog (Instr.buildSlice 31 2 #[(0, .agg #[.int .i64 x55.1, .string x55.2.1, .int .i64 x55.2.2.1, .slice x55.2.2.2.1.1 x55.2.2.2.1.2.1 x55.2.2.2.1.2.2]), (1, .agg #[.int .i64 x56.1, .string x56.2.1, .int .i64 x56.2.2.1, .slice x56.2.2.2.1.1 x56.2.2.2.1.2.1 x56.2.2.2.1.2.2])]) w57 (.v (.one .slc)) (fun (x58 : Option Addr × Nat × Nat) w59 => KeepK S54 w57 w59 (StK ((⟨g14, 0, none⟩ : Addr).add 0) (.int .i64 4) w59 (fun w60 => KeepK S54 w59 w60 (StK ((⟨g14, 0, none⟩ : Addr).add 3) (.slice x58.1 x58.2.1 x58.2.2) w60 (fun w61 => KeepK S54 w60 w61 (LdsK [.int .i64, .str, .int .i64, .slc] (⟨g14, 0, none⟩ : Addr) w61 (fun (x62 : Int × ByteArray × Int × (Option Addr × Nat × Nat) × Unit) => StsK (⟨g1, 0, none⟩ : Addr) [.int .i64 x62.1, .string x62.2.1, .int .i64 x62.2.2.1, .slice x62.2.2.2.1.1 x62.2.2.2.1.2.1 x62.2.2.2.1.2.2] w61 (fun w63 => LdsK [.int .i64, .str, .int .i64, .slc] (⟨g1, 0, none⟩ : Addr) w63 (fun (x64 : Int × ByteArray × Int × (Option Addr × Nat × Nat) × Unit) => K (.agg #[.int .i64 x64.1, .string x64.2.1, .int .i64 x64.2.2.1, .slice x64.2.2.2.1.1 x64.2.2.2.1.2.1 x64.2.2.2.1.2.2]) w63))))))))))
  (StK ((⟨g14, 0, none⟩ : Addr).add 0) (.int .i64 4) w57 (fun w65 => KeepK S54 w57 w65 (RunK Tryz.prog (Instr.buildSlice 31 2 #[(0, .agg #[.int .i64 x55.1, .string x55.2.1, .int .i64 x55.2.2.1, .slice x55.2.2.2.1.1 x55.2.2.2.1.2.1 x55.2.2.2.1.2.2]), (1, .agg #[.int .i64 x56.1, .string x56.2.1, .int .i64 x56.2.2.1, .slice x56.2.2.2.1.1 x56.2.2.2.1.2.1 x56.2.2.2.1.2.2])]) w65 (.v (.one .slc)) (fun (x66 : Option Addr × Nat × Nat) w67 => KeepK S54 w65 w67 (StK ((⟨g14, 0, none⟩ : Addr).add 3) (.slice x66.1 x66.2.1 x66.2.2) w67 (fun w68 => KeepK S54 w67 w68 (LdsK [.int .i64, .str, .int .i64, .slc] (⟨g14, 0, none⟩ : Addr) w68 (fun (x69 : Int × ByteArray × Int × (Option Addr × Nat × Nat) × Unit) => StsK (⟨g1, 0, none⟩ : Addr) [.int .i64 x69.1, .string x69.2.1, .int .i64 x69.2.2.1, .slice x69.2.2.2.1.1 x69.2.2.2.1.2.1 x69.2.2.2.1.2.2] w68 (fun w70 => LdsK [.int .i64, .str, .int .i64, .slc] (⟨g1, 0, none⟩ : Addr) w70 (fun (x71 : Int × ByteArray × Int × (Option Addr × Nat × Nat) × Unit) => K (.agg #[.int .i64 x71.1, .string x71.2.1, .int .i64 x71.2.2.1, .slice x71.2.2.2.1.1 x71.2.2.2.1.2.1 x71.2.2.2.1.2.2]) w70))))))))))))))))))))
  (JoinK (Bool × Unit) (fun J72 => ifB (s8.1 == 7)
  (J72 ((s8.1 == 7), ()) w47)
  (J72 ((s8.1 == 8), ()) w47))
  (fun _ s73 w74 => ifB s73.1
  (LdK (.int .i64) (p0.add 4) w74 (fun (x75 : Int) => StK (p0.add 4) (.int .i64 (IntKind.i64.wrap (x75 + 1))) w74 (fun w76 => LdK (.int .i64) (p0.add 4) w76 (fun (x77 : Int) => CallK Tryz.prog 89 #[.int .i64 x77] w76 (.v (.one .str)) (fun (x78 : ByteArray) w79 => CatK (⟨#[99, 104]⟩ : ByteArray) x78 (CallK Tryz.prog 155 #[.pointer (some p0), .int .i64 30] w79 (.v (.one (.int .i64))) (fun (x80 : Int) w81 => ifB (x80 == 29)
  (CallK Tryz.prog 121 #[.pointer (some p0), .int .i64 (IntKind.i64.wrap (p1 - 1))] w81 (.v (.agg [.int .i64, .str, .int .i64, .slc])) (fun (x82 : Int × ByteArray × Int × (Option Addr × Nat × Nat) × Unit) w83 => NewK (.cells #[.int .i64 0, .string (⟨#[]⟩ : ByteArray), .int .i64 0, .slice none 0 0] 33) w83 (fun g84 w85 => StsK (⟨g84, 0, none⟩ : Addr) [.int .i64 x82.1, .string x82.2.1, .int .i64 x82.2.2.1, .slice x82.2.2.2.1.1 x82.2.2.2.1.2.1 x82.2.2.2.1.2.2] w85 (fun w86 => DrewK w86 (fun w87 => HoldK (fun S88 => InK S88 (⟨g84, 0, none⟩ : Addr) (LdsK [.int .i64, .str, .int .i64, .slc] (⟨g84, 0, none⟩ : Addr) w87 (fun (x89 : Int × ByteArray × Int × (Option Addr × Nat × Nat) × Unit) => CallK Tryz.prog 121 #[.pointer (some p0), .int .i64 (IntKind.i64.wrap (p1 - 1))] w87 (.v (.agg [.int .i64, .str, .int .i64, .slc])) (fun (x90 : Int × ByteArray × Int × (Option Addr × Nat × Nat) × Unit) w91 => KeepK S88 w87 w91 (AndK (RunK Tryz.prog (Instr.buildSlice 31 2 #[(0, .agg #[.int .i64 x89.1, .string x89.2.1, .int .i64 x89.2.2.1, .slice x89.2.2.2.1.1 x89.2.2.2.1.2.1 x89.2.2.2.1.2.2]), (1, .agg #[.int .i64 x90.1, .string x90.2.1, .int .i64 x90.2.2.1, .slice x90.2.2.2.1.1 x90.2.2.2.1.2.1 x90.2.2.2.1.2.2])]) w91 (.v (.one .slc)) (fun (x92 : Option Addr × Nat × Nat) w93 => KeepK S88 w91 w93 (StK ((⟨g14, 0, none⟩ : Addr).add 0) (.int .i64 5) w93 (fun w94 => KeepK S88 w93 w94 (StK ((⟨g14, 0, none⟩ : Addr).add 1) (.string (⟨#[99, 104, 49]⟩ : ByteArray)) w94 (fun w95 => KeepK S88 w94 w95 (StK ((⟨g14, 0, none⟩ : Addr).add 3) (.slice x92.1 x92.2.1 x92.2.2) w95 (fun w96 => KeepK S88 w95 w96 (LdsK [.int .i64, .str, .int .i64, .slc] (⟨g14, 0, none⟩ : Addr) w96 (fun (x97 : Int × ByteArray × Int × (Option Addr × Nat × Nat) × Unit) => StsK (⟨g1, 0, none⟩ : Addr) [.int .i64 x97.1, .string x97.2.1, .int .i64 x97.2.2.1, .slice x97.2.2.2.1.1 x97.2.2.2.1.2.1 x97.2.2.2.1.2.2] w96 (fun w98 => LdsK [.int .i64, .str, .int .i64, .slc] (⟨g1, 0, none⟩ : Addr) w98 (fun (x99 : Int × ByteArray × Int × (Option Addr × Nat × Nat) × Unit) => K (.agg #[.int .i64 x99.1, .string x99.2.1, .int .i64 x99.2.2.1, .slice x99.2.2.2.1.1 x99.2.2.2.1.2.1 x99.2.2.2.1.2.2]) w98))))))))))))
  (StK ((⟨g14, 0, none⟩ : Addr).add 0) (.int .i64 5) w91 (fun w100 => KeepK S88 w91 w100 (AndK (RunK Tryz.prog (Instr.buildSlice 31 2 #[(0, .agg #[.int .i64 x89.1, .string x89.2.1, .int .i64 x89.2.2.1, .slice x89.2.2.2.1.1 x89.2.2.2.1.2.1 x89.2.2.2.1.2.2]), (1, .agg #[.int .i64 x90.1, .string x90.2.1, .int .i64 x90.2.2.1, .slice x90.2.2.2.1.1 x90.2.2.2.1.2.1 x90.2.2.2.1.2.2])]) w100 (.v (.one .slc)) (fun (x101 : Option Addr × Nat × Nat) w102 => KeepK S88 w100 w102 (StK ((⟨g14, 0, none⟩ : Addr).add 1) (.string (⟨#[99, 104, 49]⟩ : ByteArray)) w102 (fun w103 => KeepK S88 w102 w103 (StK ((⟨g14, 0, none⟩ : Addr).add 3) (.slice x101.1 x101.2.1 x101.2.2) w103 (fun w104 => KeepK S88 w103 w104 (LdsK [.int .i64, .str, .int .i64, .slc] (⟨g14, 0, none⟩ : Addr) w104 (fun (x105 : Int × ByteArray × Int × (Option Addr × Nat × Nat) × Unit) => StsK (⟨g1, 0, none⟩ : Addr) [.int .i64 x105.1, .string x105.2.1, .int .i64 x105.2.2.1, .slice x105.2.2.2.1.1 x105.2.2.2.1.2.1 x105.2.2.2.1.2.2] w104 (fun w106 => LdsK [.int .i64, .str, .int .i64, .slc] (⟨g1, 0, none⟩ : Addr) w106 (fun (x107 : Int × ByteArray × Int × (Option Addr × Nat × Nat) × Unit) => K (.agg #[.int .i64 x107.1, .string x107.2.1, .int .i64 x107.2.2.1, .slice x107.2.2.2.1.1 x107.2.2.2.1.2.1 x107.2.2.2.1.2.2]) w106))))))))))
  (StK ((⟨g14, 0, none⟩ : Addr).add 1) (.string (⟨#[99, 104, 49]⟩ : ByteArray)) w100 (fun w108 => KeepK S88 w100 w108 (RunK Tryz.prog (Instr.buildSlice 31 2 #[(0, .agg #[.int .i64 x89.1, .string x89.2.1, .int .i64 x89.2.2.1, .slice x89.2.2.2.1.1 x89.2.2.2.1.2.1 x89.2.2.2.1.2.2]), (1, .agg #[.int .i64 x90.1, .string x90.2.1, .int .i64 x90.2.2.1, .slice x90.2.2.2.1.1 x90.2.2.2.1.2.1 x90.2.2.2.1.2.2])]) w108 (.v (.one .slc)) (fun (x109 : Option Addr × Nat × Nat) w110 => KeepK S88 w108 w110 (StK ((⟨g14, 0, none⟩ : Addr).add 3) (.slice x109.1 x109.2.1 x109.2.2) w110 (fun w111 => KeepK S88 w110 w111 (LdsK [.int .i64, .str, .int .i64, .slc] (⟨g14, 0, none⟩ : Addr) w111 (fun (x112 : Int × ByteArray × Int × (Option Addr × Nat × Nat) × Unit) => StsK (⟨g1, 0, none⟩ : Addr) [.int .i64 x112.1, .string x112.2.1, .int .i64 x112.2.2.1, .slice x112.2.2.2.1.1 x112.2.2.2.1.2.1 x112.2.2.2.1.2.2] w111 (fun w113 => LdsK [.int .i64, .str, .int .i64, .slc] (⟨g1, 0, none⟩ : Addr) w113 (fun (x114 : Int × ByteArray × Int × (Option Addr × Nat × Nat) × Unit) => K (.agg #[.int .i64 x114.1, .string x114.2.1, .int .i64 x114.2.2.1, .slice x114.2.2.2.1.1 x114.2.2.2.1.2.1 x114.2.2.2.1.2.2]) w113)))))))))))))))))))))))
  (CallK Tryz.prog 121 #[.pointer (some p0), .int .i64 (IntKind.i64.wrap (p1 - 1))] w81 (.v (.agg [.int .i64, .str, .int .i64, .slc])) (fun (x115 : Int × ByteArray × Int × (Option Addr × Nat × Nat) × Unit) w116 => NewK (.cells #[.int .i64 0, .string (⟨#[]⟩ : ByteArray), .int .i64 0, .slice none 0 0] 33) w116 (fun g117 w118 => StsK (⟨g117, 0, none⟩ : Addr) [.int .i64 x115.1, .string x115.2.1, .int .i64 x115.2.2.1, .slice x115.2.2.2.1.1 x115.2.2.2.1.2.1 x115.2.2.2.1.2.2] w118 (fun w119 => DrewK w119 (fun w120 => HoldK (fun S121 => InK S121 (⟨g117, 0, none⟩ : Addr) (LdsK [.int .i64, .str, .int .i64, .slc] (⟨g117, 0, none⟩ : Addr) w120 (fun (x122 : Int × ByteArray × Int × (Option Addr × Nat × Nat) × Unit) => CallK Tryz.prog 121 #[.pointer (some p0), .int .i64 (IntKind.i64.wrap (p1 - 1))] w120 (.v (.agg [.int .i64, .str, .int .i64, .slc])) (fun (x123 : Int × ByteArray × Int × (Option Addr × Nat × Nat) × Unit) w124 => KeepK S121 w120 w124 (AndK (RunK Tryz.prog (Instr.buildSlice 31 2 #[(0, .agg #[.int .i64 x122.1, .string x122.2.1, .int .i64 x122.2.2.1, .slice x122.2.2.2.1.1 x122.2.2.2.1.2.1 x122.2.2.2.1.2.2]), (1, .agg #[.int .i64 x123.1, .string x123.2.1, .int .i64 x123.2.2.1, .slice x123.2.2.2.1.1 x123.2.2.2.1.2.1 x123.2.2.2.1.2.2])]) w124 (.v (.one .slc)) (fun (x125 : Option Addr × Nat × Nat) w126 => KeepK S121 w124 w126 (StK ((⟨g14, 0, none⟩ : Addr).add 0) (.int .i64 5) w126 (fun w127 => KeepK S121 w126 w127 (StK ((⟨g14, 0, none⟩ : Addr).add 1) (.string ((⟨#[99, 104]⟩ : ByteArray) ++ x78)) w127 (fun w128 => KeepK S121 w127 w128 (StK ((⟨g14, 0, none⟩ : Addr).add 3) (.slice x125.1 x125.2.1 x125.2.2) w128 (fun w129 => KeepK S121 w128 w129 (LdsK [.int .i64, .str, .int .i64, .slc] (⟨g14, 0, none⟩ : Addr) w129 (fun (x130 : Int × ByteArray × Int × (Option Addr × Nat × Nat) × Unit) => StsK (⟨g1, 0, none⟩ : Addr) [.int .i64 x130.1, .string x130.2.1, .int .i64 x130.2.2.1, .slice x130.2.2.2.1.1 x130.2.2.2.1.2.1 x130.2.2.2.1.2.2] w129 (fun w131 => LdsK [.int .i64, .str, .int .i64, .slc] (⟨g1, 0, none⟩ : Addr) w131 (fun (x132 : Int × ByteArray × Int × (Option Addr × Nat × Nat) × Unit) => K (.agg #[.int .i64 x132.1, .string x132.2.1, .int .i64 x132.2.2.1, .slice x132.2.2.2.1.1 x132.2.2.2.1.2.1 x132.2.2.2.1.2.2]) w131))))))))))))
  (StK ((⟨g14, 0, none⟩ : Addr).add 0) (.int .i64 5) w124 (fun w133 => KeepK S121 w124 w133 (AndK (RunK Tryz.prog (Instr.buildSlice 31 2 #[(0, .agg #[.int .i64 x122.1, .string x122.2.1, .int .i64 x122.2.2.1, .slice x122.2.2.2.1.1 x122.2.2.2.1.2.1 x122.2.2.2.1.2.2]), (1, .agg #[.int .i64 x123.1, .string x123.2.1, .int .i64 x123.2.2.1, .slice x123.2.2.2.1.1 x123.2.2.2.1.2.1 x123.2.2.2.1.2.2])]) w133 (.v (.one .slc)) (fun (x134 : Option Addr × Nat × Nat) w135 => KeepK S121 w133 w135 (StK ((⟨g14, 0, none⟩ : Addr).add 1) (.string ((⟨#[99, 104]⟩ : ByteArray) ++ x78)) w135 (fun w136 => KeepK S121 w135 w136 (StK ((⟨g14, 0, none⟩ : Addr).add 3) (.slice x134.1 x134.2.1 x134.2.2) w136 (fun w137 => KeepK S121 w136 w137 (LdsK [.int .i64, .str, .int .i64, .slc] (⟨g14, 0, none⟩ : Addr) w137 (fun (x138 : Int × ByteArray × Int × (Option Addr × Nat × Nat) × Unit) => StsK (⟨g1, 0, none⟩ : Addr) [.int .i64 x138.1, .string x138.2.1, .int .i64 x138.2.2.1, .slice x138.2.2.2.1.1 x138.2.2.2.1.2.1 x138.2.2.2.1.2.2] w137 (fun w139 => LdsK [.int .i64, .str, .int .i64, .slc] (⟨g1, 0, none⟩ : Addr) w139 (fun (x140 : Int × ByteArray × Int × (Option Addr × Nat × Nat) × Unit) => K (.agg #[.int .i64 x140.1, .string x140.2.1, .int .i64 x140.2.2.1, .slice x140.2.2.2.1.1 x140.2.2.2.1.2.1 x140.2.2.2.1.2.2]) w139))))))))))
  (StK ((⟨g14, 0, none⟩ : Addr).add 1) (.string ((⟨#[99, 104]⟩ : ByteArray) ++ x78)) w133 (fun w141 => KeepK S121 w133 w141 (RunK Tryz.prog (Instr.buildSlice 31 2 #[(0, .agg #[.int .i64 x122.1, .string x122.2.1, .int .i64 x122.2.2.1, .slice x122.2.2.2.1.1 x122.2.2.2.1.2.1 x122.2.2.2.1.2.2]), (1, .agg #[.int .i64 x123.1, .string x123.2.1, .int .i64 x123.2.2.1, .slice x123.2.2.2.1.1 x123.2.2.2.1.2.1 x123.2.2.2.1.2.2])]) w141 (.v (.one .slc)) (fun (x142 : Option Addr × Nat × Nat) w143 => KeepK S121 w141 w143 (StK ((⟨g14, 0, none⟩ : Addr).add 3) (.slice x142.1 x142.2.1 x142.2.2) w143 (fun w144 => KeepK S121 w143 w144 (LdsK [.int .i64, .str, .int .i64, .slc] (⟨g14, 0, none⟩ : Addr) w144 (fun (x145 : Int × ByteArray × Int × (Option Addr × Nat × Nat) × Unit) => StsK (⟨g1, 0, none⟩ : Addr) [.int .i64 x145.1, .string x145.2.1, .int .i64 x145.2.2.1, .slice x145.2.2.2.1.1 x145.2.2.2.1.2.1 x145.2.2.2.1.2.2] w144 (fun w146 => LdsK [.int .i64, .str, .int .i64, .slc] (⟨g1, 0, none⟩ : Addr) w146 (fun (x147 : Int × ByteArray × Int × (Option Addr × Nat × Nat) × Unit) => K (.agg #[.int .i64 x147.1, .string x147.2.1, .int .i64 x147.2.2.1, .slice x147.2.2.2.1.1 x147.2.2.2.1.2.1 x147.2.2.2.1.2.2]) w146))))))))))))))))))))))))))))))
  (JoinK (Bool × Unit) (fun J148 => ifB (s8.1 == 9)
  (J148 ((s8.1 == 9), ()) w74)
  (J148 ((s8.1 == 10), ()) w74))
  (fun _ s149 w150 => ifB s149.1
  (CallK Tryz.prog 157 #[.pointer (some p0), .int .i64 (if 2 < IntKind.i64.wrap (p1 - 1) then 2 else IntKind.i64.wrap (p1 - 1))] w150 (.v (.agg [.int .i64, .str, .int .i64, .slc])) (fun (x151 : Int × ByteArray × Int × (Option Addr × Nat × Nat) × Unit) w152 => NewK (.cells #[.int .i64 0, .string (⟨#[]⟩ : ByteArray), .int .i64 0, .slice none 0 0] 33) w152 (fun g153 w154 => StsK (⟨g153, 0, none⟩ : Addr) [.int .i64 x151.1, .string x151.2.1, .int .i64 x151.2.2.1, .slice x151.2.2.2.1.1 x151.2.2.2.1.2.1 x151.2.2.2.1.2.2] w154 (fun w155 => DrewK w155 (fun w156 => HoldK (fun S157 => InK S157 (⟨g153, 0, none⟩ : Addr) (LdsK [.int .i64, .str, .int .i64, .slc] (⟨g153, 0, none⟩ : Addr) w156 (fun (x158 : Int × ByteArray × Int × (Option Addr × Nat × Nat) × Unit) => CallK Tryz.prog 121 #[.pointer (some p0), .int .i64 (IntKind.i64.wrap (p1 - 1))] w156 (.v (.agg [.int .i64, .str, .int .i64, .slc])) (fun (x159 : Int × ByteArray × Int × (Option Addr × Nat × Nat) × Unit) w160 => KeepK S157 w156 w160 (AndK (RunK Tryz.prog (Instr.buildSlice 31 2 #[(0, .agg #[.int .i64 x158.1, .string x158.2.1, .int .i64 x158.2.2.1, .slice x158.2.2.2.1.1 x158.2.2.2.1.2.1 x158.2.2.2.1.2.2]), (1, .agg #[.int .i64 x159.1, .string x159.2.1, .int .i64 x159.2.2.1, .slice x159.2.2.2.1.1 x159.2.2.2.1.2.1 x159.2.2.2.1.2.2])]) w160 (.v (.one .slc)) (fun (x161 : Option Addr × Nat × Nat) w162 => KeepK S157 w160 w162 (StK ((⟨g14, 0, none⟩ : Addr).add 0) (.int .i64 6) w162 (fun w163 => KeepK S157 w162 w163 (StK ((⟨g14, 0, none⟩ : Addr).add 3) (.slice x161.1 x161.2.1 x161.2.2) w163 (fun w164 => KeepK S157 w163 w164 (LdsK [.int .i64, .str, .int .i64, .slc] (⟨g14, 0, none⟩ : Addr) w164 (fun (x165 : Int × ByteArray × Int × (Option Addr × Nat × Nat) × Unit) => StsK (⟨g1, 0, none⟩ : Addr) [.int .i64 x165.1, .string x165.2.1, .int .i64 x165.2.2.1, .slice x165.2.2.2.1.1 x165.2.2.2.1.2.1 x165.2.2.2.1.2.2] w164 (fun w166 => LdsK [.int .i64, .str, .int .i64, .slc] (⟨g1, 0, none⟩ : Addr) w166 (fun (x167 : Int × ByteArray × Int × (Option Addr × Nat × Nat) × Unit) => K (.agg #[.int .i64 x167.1, .string x167.2.1, .int .i64 x167.2.2.1, .slice x167.2.2.2.1.1 x167.2.2.2.1.2.1 x167.2.2.2.1.2.2]) w166))))))))))
  (StK ((⟨g14, 0, none⟩ : Addr).add 0) (.int .i64 6) w160 (fun w168 => KeepK S157 w160 w168 (RunK Tryz.prog (Instr.buildSlice 31 2 #[(0, .agg #[.int .i64 x158.1, .string x158.2.1, .int .i64 x158.2.2.1, .slice x158.2.2.2.1.1 x158.2.2.2.1.2.1 x158.2.2.2.1.2.2]), (1, .agg #[.int .i64 x159.1, .string x159.2.1, .int .i64 x159.2.2.1, .slice x159.2.2.2.1.1 x159.2.2.2.1.2.1 x159.2.2.2.1.2.2])]) w168 (.v (.one .slc)) (fun (x169 : Option Addr × Nat × Nat) w170 => KeepK S157 w168 w170 (StK ((⟨g14, 0, none⟩ : Addr).add 3) (.slice x169.1 x169.2.1 x169.2.2) w170 (fun w171 => KeepK S157 w170 w171 (LdsK [.int .i64, .str, .int .i64, .slc] (⟨g14, 0, none⟩ : Addr) w171 (fun (x172 : Int × ByteArray × Int × (Option Addr × Nat × Nat) × Unit) => StsK (⟨g1, 0, none⟩ : Addr) [.int .i64 x172.1, .string x172.2.1, .int .i64 x172.2.2.1, .slice x172.2.2.2.1.1 x172.2.2.2.1.2.1 x172.2.2.2.1.2.2] w171 (fun w173 => LdsK [.int .i64, .str, .int .i64, .slc] (⟨g1, 0, none⟩ : Addr) w173 (fun (x174 : Int × ByteArray × Int × (Option Addr × Nat × Nat) × Unit) => K (.agg #[.int .i64 x174.1, .string x174.2.1, .int .i64 x174.2.2.1, .slice x174.2.2.2.1.1 x174.2.2.2.1.2.1 x174.2.2.2.1.2.2]) w173))))))))))))))))))))
  (ifB (s8.1 == 11)
  (CallK Tryz.prog 155 #[.pointer (some p0), .int .i64 8] w150 (.v (.one (.int .i64))) (fun (x175 : Int) w176 => CallK Tryz.prog 121 #[.pointer (some p0), .int .i64 (IntKind.i64.wrap (p1 - 1))] w176 (.v (.agg [.int .i64, .str, .int .i64, .slc])) (fun (x177 : Int × ByteArray × Int × (Option Addr × Nat × Nat) × Unit) w178 => RunK Tryz.prog (Instr.buildSlice 31 1 #[(0, .agg #[.int .i64 x177.1, .string x177.2.1, .int .i64 x177.2.2.1, .slice x177.2.2.2.1.1 x177.2.2.2.1.2.1 x177.2.2.2.1.2.2])]) w178 (.v (.one .slc)) (fun (x179 : Option Addr × Nat × Nat) w180 => StK ((⟨g14, 0, none⟩ : Addr).add 0) (.int .i64 7) w180 (fun w181 => StK ((⟨g14, 0, none⟩ : Addr).add 2) (.int .i64 x175) w181 (fun w182 => StK ((⟨g14, 0, none⟩ : Addr).add 3) (.slice x179.1 x179.2.1 x179.2.2) w182 (fun w183 => LdsK [.int .i64, .str, .int .i64, .slc] (⟨g14, 0, none⟩ : Addr) w183 (fun (x184 : Int × ByteArray × Int × (Option Addr × Nat × Nat) × Unit) => StsK (⟨g1, 0, none⟩ : Addr) [.int .i64 x184.1, .string x184.2.1, .int .i64 x184.2.2.1, .slice x184.2.2.2.1.1 x184.2.2.2.1.2.1 x184.2.2.2.1.2.2] w183 (fun w185 => LdsK [.int .i64, .str, .int .i64, .slc] (⟨g1, 0, none⟩ : Addr) w185 (fun (x186 : Int × ByteArray × Int × (Option Addr × Nat × Nat) × Unit) => K (.agg #[.int .i64 x186.1, .string x186.2.1, .int .i64 x186.2.2.1, .slice x186.2.2.2.1.1 x186.2.2.2.1.2.1 x186.2.2.2.1.2.2]) w185))))))))))
  (CallK Tryz.prog 157 #[.pointer (some p0), .int .i64 (if 2 < IntKind.i64.wrap (p1 - 1) then 2 else IntKind.i64.wrap (p1 - 1))] w150 (.v (.agg [.int .i64, .str, .int .i64, .slc])) (fun (x187 : Int × ByteArray × Int × (Option Addr × Nat × Nat) × Unit) w188 => NewK (.cells #[.int .i64 0, .string (⟨#[]⟩ : ByteArray), .int .i64 0, .slice none 0 0] 33) w188 (fun g189 w190 => StsK (⟨g189, 0, none⟩ : Addr) [.int .i64 x187.1, .string x187.2.1, .int .i64 x187.2.2.1, .slice x187.2.2.2.1.1 x187.2.2.2.1.2.1 x187.2.2.2.1.2.2] w190 (fun w191 => CallK Tryz.prog 121 #[.pointer (some p0), .int .i64 (IntKind.i64.wrap (p1 - 1))] w191 (.v (.agg [.int .i64, .str, .int .i64, .slc])) (fun (x192 : Int × ByteArray × Int × (Option Addr × Nat × Nat) × Unit) w193 => NewK (.cells #[.int .i64 0, .string (⟨#[]⟩ : ByteArray), .int .i64 0, .slice none 0 0] 33) w193 (fun g194 w195 => StsK (⟨g194, 0, none⟩ : Addr) [.int .i64 x192.1, .string x192.2.1, .int .i64 x192.2.2.1, .slice x192.2.2.2.1.1 x192.2.2.2.1.2.1 x192.2.2.2.1.2.2] w195 (fun w196 => DrewK w196 (fun w197 => HoldK (fun S198 => InK S198 (⟨g189, 0, none⟩ : Addr) (LdsK [.int .i64, .str, .int .i64, .slc] (⟨g189, 0, none⟩ : Addr) w197 (fun (x199 : Int × ByteArray × Int × (Option Addr × Nat × Nat) × Unit) => InK S198 (⟨g194, 0, none⟩ : Addr) (LdsK [.int .i64, .str, .int .i64, .slc] (⟨g194, 0, none⟩ : Addr) w197 (fun (x200 : Int × ByteArray × Int × (Option Addr × Nat × Nat) × Unit) => CallK Tryz.prog 121 #[.pointer (some p0), .int .i64 (IntKind.i64.wrap (p1 - 1))] w197 (.v (.agg [.int .i64, .str, .int .i64, .slc])) (fun (x201 : Int × ByteArray × Int × (Option Addr × Nat × Nat) × Unit) w202 => KeepK S198 w197 w202 (AndK (RunK Tryz.prog (Instr.buildSlice 31 3 #[(0, .agg #[.int .i64 x199.1, .string x199.2.1, .int .i64 x199.2.2.1, .slice x199.2.2.2.1.1 x199.2.2.2.1.2.1 x199.2.2.2.1.2.2]), (1, .agg #[.int .i64 x200.1, .string x200.2.1, .int .i64 x200.2.2.1, .slice x200.2.2.2.1.1 x200.2.2.2.1.2.1 x200.2.2.2.1.2.2]), (2, .agg #[.int .i64 x201.1, .string x201.2.1, .int .i64 x201.2.2.1, .slice x201.2.2.2.1.1 x201.2.2.2.1.2.1 x201.2.2.2.1.2.2])]) w202 (.v (.one .slc)) (fun (x203 : Option Addr × Nat × Nat) w204 => KeepK S198 w202 w204 (StK ((⟨g14, 0, none⟩ : Addr).add 0) (.int .i64 8) w204 (fun w205 => KeepK S198 w204 w205 (StK ((⟨g14, 0, none⟩ : Addr).add 3) (.slice x203.1 x203.2.1 x203.2.2) w205 (fun w206 => KeepK S198 w205 w206 (LdsK [.int .i64, .str, .int .i64, .slc] (⟨g14, 0, none⟩ : Addr) w206 (fun (x207 : Int × ByteArray × Int × (Option Addr × Nat × Nat) × Unit) => StsK (⟨g1, 0, none⟩ : Addr) [.int .i64 x207.1, .string x207.2.1, .int .i64 x207.2.2.1, .slice x207.2.2.2.1.1 x207.2.2.2.1.2.1 x207.2.2.2.1.2.2] w206 (fun w208 => LdsK [.int .i64, .str, .int .i64, .slc] (⟨g1, 0, none⟩ : Addr) w208 (fun (x209 : Int × ByteArray × Int × (Option Addr × Nat × Nat) × Unit) => K (.agg #[.int .i64 x209.1, .string x209.2.1, .int .i64 x209.2.2.1, .slice x209.2.2.2.1.1 x209.2.2.2.1.2.1 x209.2.2.2.1.2.2]) w208))))))))))
  (StK ((⟨g14, 0, none⟩ : Addr).add 0) (.int .i64 8) w202 (fun w210 => KeepK S198 w202 w210 (RunK Tryz.prog (Instr.buildSlice 31 3 #[(0, .agg #[.int .i64 x199.1, .string x199.2.1, .int .i64 x199.2.2.1, .slice x199.2.2.2.1.1 x199.2.2.2.1.2.1 x199.2.2.2.1.2.2]), (1, .agg #[.int .i64 x200.1, .string x200.2.1, .int .i64 x200.2.2.1, .slice x200.2.2.2.1.1 x200.2.2.2.1.2.1 x200.2.2.2.1.2.2]), (2, .agg #[.int .i64 x201.1, .string x201.2.1, .int .i64 x201.2.2.1, .slice x201.2.2.2.1.1 x201.2.2.2.1.2.1 x201.2.2.2.1.2.2])]) w210 (.v (.one .slc)) (fun (x211 : Option Addr × Nat × Nat) w212 => KeepK S198 w210 w212 (StK ((⟨g14, 0, none⟩ : Addr).add 3) (.slice x211.1 x211.2.1 x211.2.2) w212 (fun w213 => KeepK S198 w212 w213 (LdsK [.int .i64, .str, .int .i64, .slc] (⟨g14, 0, none⟩ : Addr) w213 (fun (x214 : Int × ByteArray × Int × (Option Addr × Nat × Nat) × Unit) => StsK (⟨g1, 0, none⟩ : Addr) [.int .i64 x214.1, .string x214.2.1, .int .i64 x214.2.2.1, .slice x214.2.2.2.1.1 x214.2.2.2.1.2.1 x214.2.2.2.1.2.2] w213 (fun w215 => LdsK [.int .i64, .str, .int .i64, .slc] (⟨g1, 0, none⟩ : Addr) w215 (fun (x216 : Int × ByteArray × Int × (Option Addr × Nat × Nat) × Unit) => K (.agg #[.int .i64 x216.1, .string x216.2.1, .int .i64 x216.2.2.1, .slice x216.2.2.2.1.1 x216.2.2.2.1.2.1 x216.2.2.2.1.2.2]) w215)))))))))))))))))))))))))))))))))))))))))))
def pl121 : Plan := (.seq .auto (.seq .auto (.seq .auto (.join [(5, .one (.int .i64))] (.join [(31, .one .bool)] .auto .auto) (.seq .auto (.seq (.seq .auto (.block (.join [(54, .one .bool)] .auto (.cond .auto (.seq .auto (.cond .auto (.join [(65, .one .bool)] .auto (.cond .auto (.join [(75, .one .bool)] .auto (.cond (.seq .auto (.held (.soft 0 (.soft 1 (.soft 2 (.soft 3 (.soft 6 (.pick 4 (.pick 5 (.pick 7 (.soft 8 (.pick 9 .done .stop)) .stop) (.pick 7 (.pick 5 (.soft 8 (.pick 9 .done .stop)) .stop) .stop)) .stop)))))))) (.join [(90, .one .bool)] .auto (.cond (.seq .auto (.seq .auto (.seq .auto (.seq .auto (.held (.soft 0 (.soft 1 (.soft 2 (.soft 3 (.soft 4 (.soft 7 (.pick 5 (.pick 6 (.pick 8 (.soft 9 (.pick 10 (.soft 11 (.pick 12 .done .stop)) .stop)) .stop) (.pick 8 (.soft 9 (.pick 6 (.pick 10 (.soft 11 (.pick 12 .done .stop)) .stop) (.pick 10 (.pick 6 (.soft 11 (.pick 12 .done .stop)) .stop) .stop))) .stop)) .stop)))))))))))) (.join [(123, .one .bool)] .auto (.cond (.seq .auto (.held (.soft 0 (.soft 1 (.soft 2 (.soft 3 (.soft 6 (.pick 4 (.pick 5 (.pick 7 (.soft 8 (.pick 9 .done .stop)) .stop) (.pick 7 (.pick 5 (.soft 8 (.pick 9 .done .stop)) .stop) .stop)) .stop)))))))) (.seq .auto (.cond .auto (.seq .auto (.seq .auto (.held (.soft 0 (.soft 1 (.soft 2 (.soft 3 (.soft 4 (.soft 7 (.pick 5 (.pick 6 (.pick 8 (.soft 9 (.pick 10 .done .stop)) .stop) (.pick 8 (.pick 6 (.soft 9 (.pick 10 .done .stop)) .stop) .stop)) .stop)))))))))))))))))))))))))) .auto))))))
theorem e121 (p0 : Addr) (p1 : Int) (w : World) (K : Value → World → Prop) : vcFunc Tryz.prog Tryz.f121 pl121 [.pointer (some p0), .int .i64 p1] w K = C121 p0 p1 w K := by kernel_rfl
theorem c121 (p0 : Addr) (p1 : Int) (w : World) (K : Value → World → Prop) (h : C121 p0 p1 w K) : Ret Tryz.prog 121 #[.pointer (some p0), .int .i64 p1] w K := by
  rw [← e121] at h
  exact vcFunc_sound (by kernel_rfl) Tryz.func121 h

/-- handfast/handfastplay.Contract -/
def C87 (p0 : (Option Addr × Nat × Nat) × (Option Addr × Nat × Nat) × Unit) (w : World) (K : Value → World → Prop) : Prop :=
  NewK (.cells #[.slice p0.1.1 p0.1.2.1 p0.1.2.2, .slice p0.2.1.1 p0.2.1.2.1 p0.2.1.2.2] 25) w (fun g1 w2 => NewK (.cells #[.int .i64 0, .string (⟨#[]⟩ : ByteArray), .int .i64 0, .slice none 0 0] 33) w2 (fun g3 w4 => LdsK [.slc, .slc] (⟨g1, 0, none⟩ : Addr) w4 (fun (x5 : (Option Addr × Nat × Nat) × (Option Addr × Nat × Nat) × Unit) => NewK (.cells #[.slice x5.1.1 x5.1.2.1 x5.1.2.2, .slice x5.2.1.1 x5.2.1.2.1 x5.2.1.2.2, .int .i64 0, .int .i64 24, .int .i64 0] 227) w4 (fun g6 w7 => CallK Tryz.prog 121 #[.pointer (some (⟨g6, 0, none⟩ : Addr)), .int .i64 5] w7 (.v (.agg [.int .i64, .str, .int .i64, .slc])) (fun (x8 : Int × ByteArray × Int × (Option Addr × Nat × Nat) × Unit) w9 => StsK (⟨g3, 0, none⟩ : Addr) [.int .i64 x8.1, .string x8.2.1, .int .i64 x8.2.2.1, .slice x8.2.2.2.1.1 x8.2.2.2.1.2.1 x8.2.2.2.1.2.2] w9 (fun w10 => LdsK [.int .i64, .str, .int .i64, .slc] (⟨g3, 0, none⟩ : Addr) w10 (fun (x11 : Int × ByteArray × Int × (Option Addr × Nat × Nat) × Unit) => K (.agg #[.int .i64 x11.1, .string x11.2.1, .int .i64 x11.2.2.1, .slice x11.2.2.2.1.1 x11.2.2.2.1.2.1 x11.2.2.2.1.2.2]) w10)))))))
def pl87 : Plan := .auto
theorem e87 (p0 : (Option Addr × Nat × Nat) × (Option Addr × Nat × Nat) × Unit) (w : World) (K : Value → World → Prop) : vcFunc Tryz.prog Tryz.f87 pl87 [.agg #[.slice p0.1.1 p0.1.2.1 p0.1.2.2, .slice p0.2.1.1 p0.2.1.2.1 p0.2.1.2.2]] w K = C87 p0 w K := by kernel_rfl
theorem c87 (p0 : (Option Addr × Nat × Nat) × (Option Addr × Nat × Nat) × Unit) (w : World) (K : Value → World → Prop) (h : C87 p0 w K) : Ret Tryz.prog 87 #[.agg #[.slice p0.1.1 p0.1.2.1 p0.1.2.2, .slice p0.2.1.1 p0.2.1.2.1 p0.2.1.2.2]] w K := by
  rw [← e87] at h
  exact vcFunc_sound (by kernel_rfl) Tryz.func87 h

/-- handfast/handfastplay.Right -/
def C86 (p0 : (Option Addr × Nat × Nat) × (Option Addr × Nat × Nat) × Unit) (w : World) (K : Value → World → Prop) : Prop :=
  NewK (.cells #[.slice p0.1.1 p0.1.2.1 p0.1.2.2, .slice p0.2.1.1 p0.2.1.2.1 p0.2.1.2.2] 25) w (fun g1 w2 => NewK (.cells #[.int .i64 0, .string (⟨#[]⟩ : ByteArray), .int .i64 0, .slice none 0 0] 33) w2 (fun g3 w4 => LdsK [.slc, .slc] (⟨g1, 0, none⟩ : Addr) w4 (fun (x5 : (Option Addr × Nat × Nat) × (Option Addr × Nat × Nat) × Unit) => CallK Tryz.prog 87 #[.agg #[.slice x5.1.1 x5.1.2.1 x5.1.2.2, .slice x5.2.1.1 x5.2.1.2.1 x5.2.1.2.2]] w4 (.v (.agg [.int .i64, .str, .int .i64, .slc])) (fun (x6 : Int × ByteArray × Int × (Option Addr × Nat × Nat) × Unit) w7 => NewK (.cells #[.int .i64 0, .string (⟨#[]⟩ : ByteArray), .int .i64 0, .slice none 0 0] 33) w7 (fun g8 w9 => StsK (⟨g8, 0, none⟩ : Addr) [.int .i64 x6.1, .string x6.2.1, .int .i64 x6.2.2.1, .slice x6.2.2.2.1.1 x6.2.2.2.1.2.1 x6.2.2.2.1.2.2] w9 (fun w10 => LdsK [.int .i64, .str, .int .i64, .slc] (⟨g8, 0, none⟩ : Addr) w10 (fun (x11 : Int × ByteArray × Int × (Option Addr × Nat × Nat) × Unit) => CallK Tryz.prog 96 #[.agg #[.int .i64 x11.1, .string x11.2.1, .int .i64 x11.2.2.1, .slice x11.2.2.2.1.1 x11.2.2.2.1.2.1 x11.2.2.2.1.2.2], .bool false] w10 (.v (.one (.int .i64))) (fun (x12 : Int) w13 => ifB (x12 != 0)
  (StsK (⟨g3, 0, none⟩ : Addr) [.int .i64 2, .string (⟨#[117, 115, 100]⟩ : ByteArray), .int .i64 0, .slice none 0 0] w13 (fun w14 => LdsK [.int .i64, .str, .int .i64, .slc] (⟨g3, 0, none⟩ : Addr) w14 (fun (x15 : Int × ByteArray × Int × (Option Addr × Nat × Nat) × Unit) => K (.agg #[.int .i64 x15.1, .string x15.2.1, .int .i64 x15.2.2.1, .slice x15.2.2.2.1.1 x15.2.2.2.1.2.1 x15.2.2.2.1.2.2]) w14)))
  (LdsK [.int .i64, .str, .int .i64, .slc] (⟨g8, 0, none⟩ : Addr) w13 (fun (x16 : Int × ByteArray × Int × (Option Addr × Nat × Nat) × Unit) => StsK (⟨g3, 0, none⟩ : Addr) [.int .i64 x16.1, .string x16.2.1, .int .i64 x16.2.2.1, .slice x16.2.2.2.1.1 x16.2.2.2.1.2.1 x16.2.2.2.1.2.2] w13 (fun w17 => LdsK [.int .i64, .str, .int .i64, .slc] (⟨g3, 0, none⟩ : Addr) w17 (fun (x18 : Int × ByteArray × Int × (Option Addr × Nat × Nat) × Unit) => K (.agg #[.int .i64 x18.1, .string x18.2.1, .int .i64 x18.2.2.1, .slice x18.2.2.2.1.1 x18.2.2.2.1.2.1 x18.2.2.2.1.2.2]) w17))))))))))))
def pl86 : Plan := .auto
theorem e86 (p0 : (Option Addr × Nat × Nat) × (Option Addr × Nat × Nat) × Unit) (w : World) (K : Value → World → Prop) : vcFunc Tryz.prog Tryz.f86 pl86 [.agg #[.slice p0.1.1 p0.1.2.1 p0.1.2.2, .slice p0.2.1.1 p0.2.1.2.1 p0.2.1.2.2]] w K = C86 p0 w K := by kernel_rfl
theorem c86 (p0 : (Option Addr × Nat × Nat) × (Option Addr × Nat × Nat) × Unit) (w : World) (K : Value → World → Prop) (h : C86 p0 w K) : Ret Tryz.prog 86 #[.agg #[.slice p0.1.1 p0.1.2.1 p0.1.2.2, .slice p0.2.1.1 p0.2.1.2.1 p0.2.1.2.2]] w K := by
  rw [← e86] at h
  exact vcFunc_sound (by kernel_rfl) Tryz.func86 h

end Go.Proofs.YtbadiokobooliaaGreatDoor

/-! ### MakeSpec -/
set_option linter.unusedVariables false
set_option maxRecDepth 100000
namespace Go.Proofs.YtbadiokobooliaaGreatDoor
open Vc

theorem IsInts.keep {k : IntKind} {w w' : World} {v : Sl} {zs : List Int} (h : IsInts k w v.1 v.2.1 v.2.2 zs) {S : Nat → Prop} (f : Fr S w w') (hn : ∀ b, 0 < v.2.2 → blkOf v b → ¬ S b) : IsInts k w' v.1 v.2.1 v.2.2 zs := by
  rcases h with h | ⟨x, hx, hl, hc, hz, hcell, hw⟩
  · exact .inl h
  · exact .inr ⟨x, hx, hl, hc, hz, fun i hi => f.cell (hcell i hi) (by rw [show (x.add i).block = x.block by unfold Addr.add; split <;> rfl]; exact hn _ (by omega) ⟨x, hx, rfl⟩), hw⟩
theorem IsStrs.keep {w w' : World} {v : Sl} {zs : List ByteArray} (h : IsStrs w v.1 v.2.1 v.2.2 zs) {S : Nat → Prop} (f : Fr S w w') (hn : ∀ b, 0 < v.2.2 → blkOf v b → ¬ S b) : IsStrs w' v.1 v.2.1 v.2.2 zs := by
  rcases h with h | ⟨x, hx, hl, hc, hz, hcell, hw⟩
  · exact .inl h
  · exact .inr ⟨x, hx, hl, hc, hz, fun i hi => f.cell (hcell i hi) (by rw [show (x.add i).block = x.block by unfold Addr.add; split <;> rfl]; exact hn _ (by omega) ⟨x, hx, rfl⟩), hw⟩
theorem IsInts.blk {k : IntKind} {w : World} {v : Sl} {zs : List Int} (h : IsInts k w v.1 v.2.1 v.2.2 zs) {b : Nat} (hc : 0 < v.2.2) (hb : blkOf v b) : b < w.heap.size := by
  obtain ⟨a, ha, rfl⟩ := hb
  rcases h with ⟨h1, _, h3, _⟩ | ⟨x, hx, hl, hc', hz, hcell, hw⟩
  · omega
  · rw [ha] at hx; injection hx with hx; subst hx
    have := blk_of_cell (hcell 0 (by omega))
    rwa [show (a.add 0).block = a.block by unfold Addr.add; split <;> rfl] at this
theorem IsStrs.blk {w : World} {v : Sl} {zs : List ByteArray} (h : IsStrs w v.1 v.2.1 v.2.2 zs) {b : Nat} (hc : 0 < v.2.2) (hb : blkOf v b) : b < w.heap.size := by
  obtain ⟨a, ha, rfl⟩ := hb
  rcases h with ⟨h1, _, h3, _⟩ | ⟨x, hx, hl, hc', hz, hcell, hw⟩
  · omega
  · rw [ha] at hx; injection hx with hx; subst hx
    have := blk_of_cell (hcell 0 (by omega))
    rwa [show (a.add 0).block = a.block by unfold Addr.add; split <;> rfl] at this

/-- A maker in block b: its plan lies below m. -/
structure IsMk (w : World) (m b : Nat) (i : Int) : Prop where
  out : ∃ (sn sw : Sl) (l lb : Int) (ns : List Int) (ws : List ByteArray), w.heap[b]? = some (.cells #[.slice sn.1 sn.2.1 sn.2.2, .slice sw.1 sw.2.1 sw.2.2, .int .i64 i, .int .i64 l, .int .i64 lb] 227 (0, 0)) ∧
    IsInts .i64 w sn.1 sn.2.1 sn.2.2 ns ∧ IsStrs w sw.1 sw.2.1 sw.2.2 ws ∧ (∀ k, 0 < sn.2.2 → blkOf sn k → k < m ∧ k ≠ b) ∧ (∀ k, 0 < sw.2.2 → blkOf sw k → k < m ∧ k ≠ b)
  lt : b < m
  le : m ≤ w.heap.size

/-- Behind some steps of a maker. -/
structure At (w0 : World) (m b : Nat) (i0 : Int) (n : Nat) (w : World) (i : Int) : Prop where
  mker : IsMk w m b i
  lo : i0 ≤ i
  hi : i ≤ i0 + n
  fr : Fr (only b) w0 w
  le : m ≤ w0.heap.size

theorem IsMk.keep {w w' : World} {m b : Nat} {i : Int} (h : IsMk w m b i) {S : Nat → Prop} (f : Fr S w w') (hn : ∀ k, k < m → ¬ S k) : IsMk w' m b i := by
  obtain ⟨⟨sn, sw, l, lb, ns, ws, hb, h1, h2, h3, h4⟩, hlt, hle⟩ := h
  exact ⟨⟨sn, sw, l, lb, ns, ws, f.keep hb (hn _ hlt), IsInts.keep h1 f fun k hc hk => hn k (h3 k hc hk).1, IsStrs.keep h2 f fun k hc hk => hn k (h4 k hc hk).1, h3, h4⟩, hlt, by have := f.size; omega⟩
theorem At.keep {w0 w w' : World} {m b n : Nat} {i0 i : Int} (h : At w0 m b i0 n w i) {S : Nat → Prop} (f : Fr S w w') (hn : ∀ k, k < w0.heap.size → ¬ S k) : At w0 m b i0 n w' i :=
  ⟨h.mker.keep f (fun k hk => hn k (by have := h.le; omega)), h.lo, h.hi, h.fr.comp f (fun x hx t => (hn x hx t).elim), h.le⟩
theorem At.keep0 {w0 w w' : World} {m b n : Nat} {i0 i : Int} (h : At w0 m b i0 n w i) (f : Fr none1 w w') : At w0 m b i0 n w' i := h.keep f (fun _ _ t => t)
theorem At.size {w0 w : World} {m b n : Nat} {i0 i : Int} (h : At w0 m b i0 n w i) : w0.heap.size ≤ w.heap.size := h.fr.size
theorem At.more {w0 w : World} {m b n n' : Nat} {i0 i : Int} (h : At w0 m b i0 n w i) (hn : n ≤ n') : At w0 m b i0 n' w i := ⟨h.mker, h.lo, by have := h.hi; omega, h.fr, h.le⟩
theorem At.trans {w0 w w' : World} {m b n n' : Nat} {i0 i i' : Int} (h : At w0 m b i0 n w i) (h' : At w m b i n' w' i') : At w0 m b i0 (n + n') w' i' :=
  ⟨h'.mker, by have := h.lo; have := h'.lo; omega, by have := h.hi; have := h'.hi; omega, h.fr.trans h'.fr, h.le⟩
theorem At.start {w : World} {m b : Nat} {i : Int} (h : IsMk w m b i) : At w m b i 0 w i := ⟨h, Int.le_refl _, by omega, Fr.refl _ _, h.le⟩

theorem mn_spec {w : World} {m b : Nat} {i : Int} (h : IsMk w m b i) (hi : 0 ≤ i ∧ i ≤ 1000000000) (of : Int) (hof : of ≤ 9223372036854775807) :
    Ret Tryz.prog 155 #[.pointer (some ⟨b, 0, none⟩), .int .i64 of] w fun r w' => ∃ x : Int, r = .int .i64 x ∧ 0 ≤ x ∧ (1 ≤ of → x < of) ∧ At w m b i 1 w' (i + 1) := by
  refine c155 _ of w _ ?_
  unfold C155
  obtain ⟨⟨sn, sw, l, lb, ns, ws, hb, h1, h2, h3, h4⟩, hlt, hle⟩ := h
  refine DrewK.of fun w1 _ f1 => LdK.fld (f1.keep0 hb) (x := i) rfl (LdK.fld (f1.keep0 hb) (x := sn) rfl ?_)
  have fin : ∀ (v : Int) (w2 : World), Fr none1 w w2 → StK ((⟨b, 0, none⟩ : Addr).add 2) (.int .i64 (IntKind.i64.wrap (i + 1))) w2 (fun w10 => CallK Tryz.prog 22 #[.int .i64 v, .int .i64 of] w10 (.v (.one (.int .i64))) (fun (x11 : Int) w12 =>
      ∃ x : Int, (Value.int .i64 x11) = .int .i64 x ∧ 0 ≤ x ∧ (1 ≤ of → x < of) ∧ At w m b i 1 w12 (i + 1))) := fun v w2 f2 => by
    refine StK.fld (f2.keep0 hb) (by show 0 + 2 < 5; omega) rfl fun w3 hb3 f3 _ => ?_
    refine CallK.of (within_spec v of w3 hof) ?_
    rintro _ _ ⟨rfl, rfl⟩
    refine ⟨_, rfl, _, rfl, within_lo v of, fun h => within_hi v h, ?_⟩
    have f13 : Fr (only b) w w3 := Fr.of0 f2 f3
    rw [wI (by omega) (by omega)] at hb3
    exact ⟨⟨⟨sn, sw, l, lb, ns, ws, hb3, IsInts.keep h1 f13 fun k hc hk => (h3 k hc hk).2, IsStrs.keep h2 f13 fun k hc hk => (h4 k hc hk).2, h3, h4⟩, hlt, by have := f13.size; omega⟩, by omega, by omega, f13, hle⟩
  refine ifB.dec (fun hlt2 => ?_) (fun _ => LdK.fld (f1.keep0 hb) (x := i) rfl (fin 0 w1 f1))
  refine DrewK.of fun w2 _ f2 => LdK.fld ((f1.trans f2).keep0 hb) (x := sn) rfl (LdK.fld ((f1.trans f2).keep0 hb) (x := i) rfl ?_)
  refine IsInts.ld h1 (f1.trans f2) hi.1 hlt2 ?_
  exact LdK.fld ((f1.trans f2).keep0 hb) (x := i) rfl (fin _ w2 (f1.trans f2))

/-- A word out of some, or of the plan's: short. -/
theorem mword_spec {w : World} {m b : Nat} {i : Int} (h : IsMk w m b i) (hi : 0 ≤ i ∧ i ≤ 1000000000) {u : Sl} {l : List (List UInt8)} (hu : IsSs w u l) (hl : 1 ≤ l.length ∧ l.length ≤ 1000) (hs : ∀ s ∈ l, s.length ≤ 1000) (hub : ∀ k, blkOf u k → k ≠ b) :
    Ret Tryz.prog 156 #[.pointer (some ⟨b, 0, none⟩), .slice u.1 u.2.1 u.2.2] w fun r w' => ∃ s : List UInt8, r = .string (str s) ∧ s.length ≤ 1000 ∧ At w m b i 1 w' (i + 1) := by
  refine c156 _ u.1 u.2.1 u.2.2 w _ ?_
  unfold C156
  have hul := hu.len
  rw [hul, wI (by omega) (by omega)]
  refine CallK.of (mn_spec h hi ((l.length : Int) + 6) (by omega)) ?_
  rintro _ w1 ⟨x, rfl, hx0, hx1, a1⟩
  refine ⟨x, rfl, ?_⟩
  obtain ⟨⟨sn, sw, l', lb, ns, ws, hb, h1, h2, h3, h4⟩, hlt, hle⟩ := a1.mker
  refine JoinK.of (fun s w' => (s.1 = true → 0 < sw.2.1) ∧ w1 = w') ?_ ?_
  · refine ifB.dec (fun _ => LdK.fld hb (x := sw) rfl (ifB.dec (fun hp => ⟨by decide, fun _ => by omega, rfl⟩) (fun _ => ⟨(fun t => nomatch t), rfl⟩))) (fun _ => ⟨(fun t => nomatch t), rfl⟩)
  rintro _ ⟨c, _⟩ _ ⟨hc, rfl⟩
  dsimp only at hc ⊢
  refine ifB.by (fun e => ?_) (fun e => ?_)
  · have hpos := hc e
    refine DrewK.of fun w2 _ f2 => LdK.fld (f2.keep0 hb) (x := sw) rfl (LdK.fld (f2.keep0 hb) (x := sw) rfl ?_)
    refine ⟨by omega, ?_⟩
    have hm := Int.tmod_eq_emod_of_nonneg (b := (sw.2.1 : Int)) hx0
    refine IsStrs.ld h2 f2 (by rw [hm]; exact Int.emod_nonneg _ (by omega)) (by rw [hm]; exact Int.emod_lt_of_pos _ (by omega)) ?_
    rw [← str_of (ws.getD (x.tmod (sw.2.1 : Int)).toNat ByteArray.empty)]
    refine CallK.of (text1_spec _ 14 w2 (by omega)) ?_
    rintro _ _ ⟨rfl, rfl⟩
    refine ⟨_, rfl, _, rfl, ?_, a1.keep0 f2⟩
    rw [List.length_take]
    have : (14 : Int).toNat = 14 := rfl
    omega
  · refine ⟨by omega, ?_⟩
    have hm := Int.tmod_eq_emod_of_nonneg (b := (l.length : Int)) hx0
    have hm0 := Int.emod_nonneg x (b := (l.length : Int)) (by omega)
    have hm1 := Int.emod_lt_of_pos x (b := (l.length : Int)) (by omega)
    have hx2 : (x % (l.length : Int)).toNat < l.length := by omega
    have hu1 : IsSs w1 u l := IsSl.keep hu a1.fr fun k hk t => hub k hk t
    have := hu1.ld (i := (x % (l.length : Int)).toNat) (s := l.getD (x % (l.length : Int)).toNat []) (by rw [List.getD_eq_getElem?_getD, List.getElem?_eq_getElem hx2]; rfl)
      (K := fun x15 => ∃ s : List UInt8, (Value.string x15) = .string (str s) ∧ s.length ≤ 1000 ∧ At w m b i 1 w1 (i + 1)) ⟨_, rfl, by
        refine hs _ ?_
        rw [List.getD_eq_getElem?_getD, List.getElem?_eq_getElem hx2]; exact List.getElem_mem hx2, a1⟩
    rw [hul] at this
    rw [hm, show x % (l.length : Int) = (((x % (l.length : Int)).toNat : Nat) : Int) by omega]
    exact this

/-! ### The maker's other numbers -/
theorem wrap_rg (x : Int) : -9223372036854775808 ≤ IntKind.i64.wrap x ∧ IntKind.i64.wrap x ≤ 9223372036854775807 := by
  have e : IntKind.i64.wrap x = if x % 18446744073709551616 ≥ 9223372036854775808 then x % 18446744073709551616 - 18446744073709551616 else x % 18446744073709551616 := by
    unfold IntKind.wrap; simp [IntKind.signed, IntKind.bits]
  rw [e]; split <;> omega
theorem IsMk.left_rd {w : World} {m b : Nat} {i : Int} (h : IsMk w m b i) {K : Int → Prop} (k : ∀ x, K x) : LdK (.int .i64) ((⟨b, 0, none⟩ : Addr).add 3) w K := by
  obtain ⟨⟨sn, sw, l, lb, ns, ws, hb, h1, h2, h3, h4⟩, hlt, hle⟩ := h
  exact LdK.fld hb (x := l) rfl (k l)
theorem IsMk.left_st {w : World} {m b : Nat} {i : Int} (h : IsMk w m b i) (x : Int) {K : World → Prop} (k : ∀ w', At w m b i 0 w' i → K w') : StK ((⟨b, 0, none⟩ : Addr).add 3) (.int .i64 x) w K := by
  obtain ⟨⟨sn, sw, l, lb, ns, ws, hb, h1, h2, h3, h4⟩, hlt, hle⟩ := h
  refine StK.fld hb (by show 0 + 3 < 5; omega) rfl fun w3 hb3 f3 _ => k w3 ?_
  exact ⟨⟨⟨sn, sw, x, lb, ns, ws, hb3, IsInts.keep h1 f3 fun k hc hk => (h3 k hc hk).2, IsStrs.keep h2 f3 fun k hc hk => (h4 k hc hk).2, h3, h4⟩, hlt, by have := f3.size; omega⟩, Int.le_refl _, by omega, f3, hle⟩
theorem IsMk.label_ok {w : World} {m b : Nat} {i : Int} (h : IsMk w m b i) {K : Int → World → Prop} (k : ∀ x w', -9223372036854775808 ≤ x → x ≤ 9223372036854775807 → At w m b i 0 w' i → K x w') :
    LdK (.int .i64) ((⟨b, 0, none⟩ : Addr).add 4) w fun (x : Int) => StK ((⟨b, 0, none⟩ : Addr).add 4) (.int .i64 (IntKind.i64.wrap (x + 1))) w fun w2 => LdK (.int .i64) ((⟨b, 0, none⟩ : Addr).add 4) w2 fun (y : Int) => K y w2 := by
  obtain ⟨⟨sn, sw, l, lb, ns, ws, hb, h1, h2, h3, h4⟩, hlt, hle⟩ := h
  refine LdK.fld hb (x := lb) rfl ?_
  refine StK.fld hb (by show 0 + 4 < 5; omega) rfl fun w3 hb3 f3 _ => ?_
  refine LdK.fld hb3 (x := IntKind.i64.wrap (lb + 1)) rfl ?_
  have := wrap_rg (lb + 1)
  exact k _ w3 this.1 this.2 ⟨⟨⟨sn, sw, l, _, ns, ws, hb3, IsInts.keep h1 f3 fun k hc hk => (h3 k hc hk).2, IsStrs.keep h2 f3 fun k hc hk => (h4 k hc hk).2, h3, h4⟩, hlt, by have := f3.size; omega⟩, Int.le_refl _, by omega, f3, hle⟩

/-! ### Trees that were made -/
theorem elem_tr : ElemOk Tryz.prog 31 33 4 (.agg #[.int .i64 0, .string ⟨#[]⟩, .int .i64 0, .slice none 0 0]) 56 := ⟨Tryz.underlying31, ⟨Tryz.t33, by kernel_rfl, rfl, rfl, rfl⟩, rfl, by decide⟩
theorem elem_int : ElemOk Tryz.prog 22 3 1 (.int .i64 0) 8 := ⟨Tryz.underlying22, ⟨Tryz.t3, by kernel_rfl, rfl, rfl, rfl⟩, rfl, by decide⟩

/-- The blocks that came since w. -/
def since (w w' : World) : Nat → Prop := fun k => w.heap.size ≤ k ∧ k < w'.heap.size
/-- A tree that was made since w. -/
def Made (w w' : World) (t : Tr) (v : TV) : Prop := IsTr w' (since w w') t v
theorem Made.keep {w w1 w2 : World} {t : Tr} {v : TV} (h : Made w w1 t v) {S : Nat → Prop} (f : Fr S w1 w2) (hn : ∀ k, w.heap.size ≤ k → k < w1.heap.size → ¬ S k) : Made w w2 t v :=
  IsTr.mono (fun k hk => ⟨hk.1, by have := f.size; have := hk.2; omega⟩) t v (IsTr.keep f (fun k hk => hn k hk.1 hk.2) t v h)
theorem Made.keep0 {w w1 w2 : World} {t : Tr} {v : TV} (h : Made w w1 t v) (f : Fr none1 w1 w2) : Made w w2 t v := h.keep f (fun _ _ _ t => t)
theorem Made.older {w0 w w' : World} {t : Tr} {v : TV} (h : Made w w' t v) (hs : w0.heap.size ≤ w.heap.size) : Made w0 w' t v := IsTr.mono (fun k hk => ⟨by have := hk.1; omega, hk.2⟩) t v h
theorem leaf_made (w w' : World) (k : Int) (s : List UInt8) (n : Int) : Made w w' (.mk k s n []) (k, str s, n, (none, 0, 0), ()) := by
  unfold Made IsTr
  exact ⟨rfl, rfl, rfl, [], ⟨rfl, fun _ => ⟨rfl, rfl, rfl⟩, fun a ha => by cases ha⟩, rfl, fun b t => (none_blk b t).elim, by unfold IsTrs; rfl⟩
theorem node_made {w w' : World} {u : Sl} {vs : List TV} {ks : List Tr} (k : Int) (s : List UInt8) (n : Int) (hu : IsSl w' 33 4 u (vs.map tvL).flatten) (hl : u.2.1 = vs.length) (hub : ∀ k, blkOf u k → w.heap.size ≤ k) (h : IsTrs w' (since w w') ks vs) :
    Made w w' (.mk k s n ks) (k, str s, n, u, ()) := by
  unfold Made IsTr
  exact ⟨rfl, rfl, rfl, vs, hu.rd, hl.symm, fun b hb => ⟨hub b hb, hu.lt hb⟩, h⟩
theorem made1 {w w' : World} {t : Tr} {v : TV} (h : Made w w' t v) : IsTrs w' (since w w') [t] [v] := by
  unfold IsTrs; exact ⟨v, [], rfl, h, by unfold IsTrs; rfl⟩
theorem made2 {w w' : World} {t t2 : Tr} {v v2 : TV} (h : Made w w' t v) (h2 : Made w w' t2 v2) : IsTrs w' (since w w') [t, t2] [v, v2] := by
  unfold IsTrs; exact ⟨v, [v2], rfl, h, made1 h2⟩
theorem made3 {w w' : World} {t t2 t3 : Tr} {v v2 v3 : TV} (h : Made w w' t v) (h2 : Made w w' t2 v2) (h3 : Made w w' t3 v3) : IsTrs w' (since w w') [t, t2, t3] [v, v2, v3] := by
  unfold IsTrs; exact ⟨v, [v2, v3], rfl, h, made2 h2 h3⟩

theorem ob2 {kk : Int} (h : kk = 13 ∨ kk = 15 ∨ kk = 16) (l r : Ob) : ∃ o : Ob, trO o = .mk kk [] 0 [trO l, trO r] ∧ nodesO o = nodesO l + nodesO r + 1 ∧ (shortO l → shortO r → shortO o) := by
  rcases h with rfl | rfl | rfl
  · exact ⟨.add l r, rfl, rfl, fun a b => ⟨a, b⟩⟩
  · exact ⟨.mul l r, rfl, rfl, fun a b => ⟨a, b⟩⟩
  · exact ⟨.max l r, rfl, rfl, fun a b => ⟨a, b⟩⟩

/-- How many steps a number takes, a contract. -/
def coN : Nat → Nat
  | 0 => 4
  | d + 1 => 2 * coN d + 6

/-- A number was made. -/
def MO (w : World) (m b : Nat) (i : Int) (n : Nat) (v : TV) (w' : World) : Prop :=
  ∃ (o : Ob) (i' : Int), Made w w' (trO o) v ∧ nodesO o ≤ n ∧ shortO o ∧ At w m b i n w' i'

/-! ### A tree's struct in a block -/
abbrev TVK : List Ck := [.int .i64, .str, .int .i64, .slc]
def TB (w : World) (g : Nat) (v : TV) : Prop := w.heap[g]? = some (.cells (tvL v).toArray 33 (0, 0))
theorem TB.keep {w w' : World} {g : Nat} {v : TV} (h : TB w g v) {S : Nat → Prop} (f : Fr S w w') (hn : ¬ S g) : TB w' g v := f.keep h hn
theorem TB.keep0 {w w' : World} {g : Nat} {v : TV} (h : TB w g v) (f : Fr none1 w w') : TB w' g v := f.keep0 h
theorem TB.k {w : World} {g : Nat} {v : TV} (h : TB w g v) (x : Int) {K : World → Prop} (k : ∀ w', TB w' g (x, v.2) → Fr (only g) w w' → K w') : StK ((⟨g, 0, none⟩ : Addr).add 0) (.int .i64 x) w K :=
  StK.fld h (by show 0 + 0 < 4; omega) rfl fun w' hb f _ => k w' hb f
theorem TB.s {w : World} {g : Nat} {v : TV} (h : TB w g v) (x : ByteArray) {K : World → Prop} (k : ∀ w', TB w' g (v.1, x, v.2.2) → Fr (only g) w w' → K w') : StK ((⟨g, 0, none⟩ : Addr).add 1) (.string x) w K :=
  StK.fld h (by show 0 + 1 < 4; omega) rfl fun w' hb f _ => k w' hb f
theorem TB.n {w : World} {g : Nat} {v : TV} (h : TB w g v) (x : Int) {K : World → Prop} (k : ∀ w', TB w' g (v.1, v.2.1, x, v.2.2.2) → Fr (only g) w w' → K w') : StK ((⟨g, 0, none⟩ : Addr).add 2) (.int .i64 x) w K :=
  StK.fld h (by show 0 + 2 < 4; omega) rfl fun w' hb f _ => k w' hb f
theorem TB.u {w : World} {g : Nat} {v : TV} (h : TB w g v) (x : Sl) {K : World → Prop} (k : ∀ w', TB w' g (v.1, v.2.1, v.2.2.1, x, ()) → Fr (only g) w w' → K w') : StK ((⟨g, 0, none⟩ : Addr).add 3) (.slice x.1 x.2.1 x.2.2) w K :=
  StK.fld h (by show 0 + 3 < 4; omega) rfl fun w' hb f _ => k w' hb f
theorem TB.ld {w : World} {g : Nat} {v : TV} (h : TB w g v) {K : TV → Prop} (k : K v) : LdsK TVK ⟨g, 0, none⟩ w K := LdsK.blk (cks := TVK) (x := v) h k
theorem TB.new {w : World} {K : Nat → World → Prop} (k : ∀ g w1, w.heap.size = g → TB w1 g (0, str [], 0, (none, 0, 0), ()) → Fr none1 w w1 → w1.heap.size = g + 1 → K g w1) :
    NewK (.cells #[.int .i64 0, .string (⟨#[]⟩ : ByteArray), .int .i64 0, .slice none 0 0] 33) w K := NewK.of fun g w1 h1 h2 h3 h4 => k g w1 h1 h2 h3 h4
/-- A struct put into a new block. -/
theorem TB.put {w : World} (v : TV) {K : Nat → World → Prop} (k : ∀ g w1, w.heap.size = g → TB w1 g v → Fr none1 w w1 → K g w1) :
    NewK (.cells #[.int .i64 0, .string (⟨#[]⟩ : ByteArray), .int .i64 0, .slice none 0 0] 33) w fun g w1 => StsK ⟨g, 0, none⟩ (tvL v) w1 fun w2 => K g w2 :=
  ns_ok (zs := [.int .i64 0, .string (⟨#[]⟩ : ByteArray), .int .i64 0, .slice none 0 0]) (vs := tvL v) rfl rfl fun g w1 h1 h2 h3 => k g w1 h1 h2 h3

theorem tr_lit {w : World} (vs : List TV) (hl : vs.length ≤ 3) {K : Option Addr × Nat × Nat → World → Prop} (k : ∀ (u : Sl) w', IsSl w' 33 4 u (vs.map tvL).flatten → u.2.1 = vs.length → Fr none1 w w' → (∀ j, blkOf u j → w.heap.size ≤ j) → K u w') :
    RunK Tryz.prog (Instr.buildSlice 31 vs.length (((vs.map tvL).zipIdx.map fun (l, i) => (i, Value.agg l.toArray)).toArray)) w (.v (.one .slc)) fun (x : Option Addr × Nat × Nat) w' => K x w' := by
  obtain ⟨u, w', hr, hs, hul, f, hf⟩ := lits_ok (P := Tryz.prog) (w := w) elem_tr (vs.map tvL) (tvL_len vs) (by rw [List.length_map]; omega)
  rw [List.length_map] at hr hul
  exact ⟨u, w', hr, k u w' hs hul f hf⟩

/-- The struct that is told, through the result's own block g. -/
theorem fin_made {w wB wc : World} {m b g n' : Nat} {i i' : Int} {v0 v : TV} {t : Tr} (a : At w m b i n' wc i') (hg : w.heap.size ≤ g) (hgB : g < wB.heap.size) (hB : w.heap.size ≤ wB.heap.size) (tb : TB wc g v0) (hm : Made wB wc t v) {K : TV → World → Prop}
    (k : ∀ w2, At w m b i n' w2 i' → Made w w2 t v → K v w2) : StsK ⟨g, 0, none⟩ (tvL v) wc fun w2 => LdsK TVK ⟨g, 0, none⟩ w2 fun x => K x w2 :=
  StsK.blk (cs := tvL v0) (vs := tvL v) tb rfl rfl fun w2 hb2 f2 _ => LdsK.blk (cks := TVK) (x := v) hb2 (k w2 (a.keep f2 fun k hk t => by have : k = g := t; omega) ((hm.keep f2 fun k hk _ t => by have : k = g := t; omega).older hB))

/-- Numbers in a row. -/
theorem ints_lit {w : World} (ns : List Int) (hl : ns.length ≤ 100) {K : Option Addr × Nat × Nat → World → Prop} (k : ∀ (u : Sl) w', IsSl w' 3 1 u (ns.map (Value.int .i64)) → u.2.1 = ns.length → Fr none1 w w' → (∀ j, blkOf u j → w.heap.size ≤ j) → K u w') :
    RunK Tryz.prog (Instr.buildSlice 22 ns.length (((ns.map (Value.int .i64)).zipIdx.map fun (v, i) => (i, v)).toArray)) w (.v (.one .slc)) fun (x : Option Addr × Nat × Nat) w' => K x w' := by
  obtain ⟨u, w', hr, hs, hul, f, hf⟩ := lit_ok (P := Tryz.prog) (w := w) elem_int (ns.map (Value.int .i64)) (by intro v hv; obtain ⟨x, _, rfl⟩ := List.mem_map.1 hv; rfl) (by rw [List.length_map]; omega)
  rw [List.length_map] at hr hul
  exact ⟨u, w', hr, k u w' hs hul f hf⟩
theorem words_lit {w : World} (ss : List (List UInt8)) (hl : ss.length ≤ 100) {K : Option Addr × Nat × Nat → World → Prop} (k : ∀ (u : Sl) w', IsSs w' u ss → Fr none1 w w' → (∀ j, blkOf u j → w.heap.size ≤ j) → K u w') :
    RunK Tryz.prog (Instr.buildSlice 23 ss.length (((ss.map sv).zipIdx.map fun (v, i) => (i, v)).toArray)) w (.v (.one .slc)) fun (x : Option Addr × Nat × Nat) w' => K x w' := by
  obtain ⟨u, w', hr, hs, hul, f, hf⟩ := lit_ok (P := Tryz.prog) (w := w) elem_str (ss.map sv) (by intro v hv; obtain ⟨x, _, rfl⟩ := List.mem_map.1 hv; rfl) (by rw [List.length_map]; omega)
  rw [List.length_map] at hr
  exact ⟨u, w', hr, k u w' hs f hf⟩

theorem At.mkr {w : World} {m b n : Nat} {i i' : Int} {w' : World} (a : At w m b i n w' i') : IsMk w' m b i' := a.mker
theorem At.b_lt {w : World} {m b n : Nat} {i i' : Int} {w' : World} (a : At w m b i n w' i') : b < m ∧ m ≤ w.heap.size := ⟨a.mker.lt, a.le⟩

/-! ### Numbers -/
theorem mobs_spec : ∀ (d : Nat) {w : World} {m b : Nat} {i : Int} (h : IsMk w m b i) (p1 : Int) (hp : p1 ≤ d) (hp0 : -1000 ≤ p1) (hp2 : p1 ≤ 1000) (hi : 0 ≤ i) (hn : i + coN d ≤ 1000000000),
    Ret Tryz.prog 157 #[.pointer (some ⟨b, 0, none⟩), .int .i64 p1] w fun r w' => ∃ v : TV, r = tvA v ∧ MO w m b i (coN d) v w' := by
  intro d
  induction d using Nat.strongRecOn with
  | _ d IH =>
  intro w m b i h p1 hp hp0 hp2 hi hn
  refine c157 _ p1 w _ ?_
  unfold C157
  have hco : 4 ≤ coN d := by cases d <;> simp [coN]
  have hbm := h.lt
  have hmw := h.le
  refine TB.new fun g1 w1 hg1 tb1 f1 hs1 => ?_
  have a1 := (At.start h).keep0 f1
  refine a1.mkr.left_rd fun x3 => a1.mkr.left_st _ fun w2 a2' => ?_
  have a2 := a1.trans a2'
  have tb2 := tb1.keep a2'.fr (fun t => by have : g1 = b := t; omega)
  refine CallK.of (mn_spec a2.mkr (by omega) 9 (by omega)) ?_
  rintro _ w3 ⟨x5, rfl, hx0, hx9, a3'⟩
  refine ⟨x5, rfl, ?_⟩
  have a3 := a2.trans a3'
  have tb3 := tb2.keep a3'.fr (fun t => by have : g1 = b := t; omega)
  have hx9 := hx9 (by omega)
  refine JoinK.of (fun s w' => 0 ≤ s.1 ∧ s.1 < 9 ∧ (p1 ≤ 0 → s.1 < 3) ∧ w3 = w') ?_ ?_
  · refine JoinK.of (fun s w' => (p1 ≤ 0 → s.1 = true) ∧ w3 = w') ?_ ?_
    · exact ifB.dec (fun _ => ⟨fun _ => rfl, rfl⟩) (fun hp => a3.mkr.left_rd fun x => ⟨fun t => absurd t hp, rfl⟩)
    · rintro _ ⟨c, _⟩ _ ⟨hc, rfl⟩
      dsimp only at hc ⊢
      have hm3 := Int.tmod_eq_emod_of_nonneg (b := (3 : Int)) hx0
      refine ifB.by (fun e => ⟨by omega, ?_⟩) (fun e => ⟨hx0, hx9, fun t => (by rw [hc t] at e; cases e), rfl⟩)
      exact ⟨by omega, by omega, fun _ => by omega, rfl⟩
  rintro _ ⟨k, _⟩ _ ⟨hk0, hk9, hkp, rfl⟩
  dsimp only at hk0 hk9 hkp ⊢
  have hsz3 : w.heap.size ≤ w3.heap.size := a3.size
  have hg3 : g1 < w3.heap.size := lt_of_blk tb3
  have hgb : g1 ≠ b := by omega
  -- what a part is
  have ih : 0 < p1 → ∃ d', coN d = 2 * coN d' + 6 ∧ ∀ {w' : World} {i' : Int}, IsMk w' m b i' → 0 ≤ i' → i' + coN d' ≤ 1000000000 →
      Ret Tryz.prog 157 #[.pointer (some ⟨b, 0, none⟩), .int .i64 (IntKind.i64.wrap (p1 - 1))] w' fun r w'' => ∃ v : TV, r = tvA v ∧ MO w' m b i' (coN d') v w'' := fun hpos => by
    cases d with
    | zero => omega
    | succ d' =>
      refine ⟨d', rfl, fun hmk h0 h1 => ?_⟩
      rw [wI (by omega) (by omega)]
      exact IH d' (by omega) hmk (p1 - 1) (by omega) (by omega) (by omega) h0 h1
  -- a leaf
  have leafK : ∀ {wB wc : World} {n' : Nat} {i' : Int} {o : Ob} {v : TV}, At w m b i n' wc i' → n' ≤ 4 → TB wc g1 (0, str [], 0, (none, 0, 0), ()) → Made wc wc (trO o) v → nodesO o ≤ 1 → shortO o →
      StsK ⟨g1, 0, none⟩ (tvL v) wc fun w2 => LdsK TVK ⟨g1, 0, none⟩ w2 fun x => ∃ v : TV, tvA x = tvA v ∧ MO w m b i (coN d) v w2 := fun {wB wc n' i' o v} a hn' tb hm ho hs =>
    fin_made a (by omega) (lt_of_blk tb) a.size tb hm fun w2 a' hm' => ⟨v, rfl, o, i', hm', by omega, hs, a'.more (by omega)⟩
  have fixK : RunK Tryz.prog (Instr.buildSlice 23 3 #[(0, .string (⟨#[108, 105, 98, 111, 114]⟩ : ByteArray)), (1, .string (⟨#[114, 97, 105, 110]⟩ : ByteArray)), (2, .string (⟨#[195, 182, 108]⟩ : ByteArray))]) w3 (.v (.one .slc)) (fun (x40 : Option Addr × Nat × Nat) w41 =>
      CallK Tryz.prog 156 #[.pointer (some ⟨b, 0, none⟩), .slice x40.1 x40.2.1 x40.2.2] w41 (.v (.one .str)) (fun (x42 : ByteArray) w43 => StsK (⟨g1, 0, none⟩ : Addr) [.int .i64 12, .string x42, .int .i64 0, .slice none 0 0] w43 (fun w44 =>
        LdsK TVK (⟨g1, 0, none⟩ : Addr) w44 (fun x45 => ∃ v : TV, tvA x45 = tvA v ∧ MO w m b i (coN d) v w44)))) := by
    refine words_lit [[108, 105, 98, 111, 114], [114, 97, 105, 110], [195, 182, 108]] (by decide) fun u w4 hu f4 hf4 => ?_
    have a4 := a3.keep0 f4
    refine CallK.of (mword_spec a4.mkr (by omega) hu (by decide) (by decide) (fun k hk => by have := hf4 k hk; omega)) ?_
    rintro _ w5 ⟨s, rfl, hsl, a5'⟩
    refine ⟨_, rfl, ?_⟩
    exact leafK (wB := w5) (a4.trans a5') (by omega) ((tb3.keep0 f4).keep a5'.fr (fun t => hgb t)) (o := .fix s) (v := (12, str s, 0, (none, 0, 0), ())) (leaf_made _ _ 12 s 0) (Nat.le_refl _) hsl
  have negK : 3 ≤ k → CallK Tryz.prog 157 #[.pointer (some ⟨b, 0, none⟩), .int .i64 (IntKind.i64.wrap (p1 - 1))] w3 (.v (.agg TVK)) (fun (x46 : TV) w47 => RunK Tryz.prog (Instr.buildSlice 31 1 #[(0, tvA x46)]) w47 (.v (.one .slc)) (fun (x48 : Option Addr × Nat × Nat) w49 =>
      StsK (⟨g1, 0, none⟩ : Addr) [.int .i64 14, .string (⟨#[]⟩ : ByteArray), .int .i64 0, .slice x48.1 x48.2.1 x48.2.2] w49 (fun w50 => LdsK TVK (⟨g1, 0, none⟩ : Addr) w50 (fun x51 => ∃ v : TV, tvA x51 = tvA v ∧ MO w m b i (coN d) v w50)))) := fun hk => by
    obtain ⟨d', hd', ih⟩ := ih (by omega)
    refine CallK.of (ih a3.mkr (by have := a3.lo; omega) (by have := a3.hi; omega)) ?_
    rintro _ w4 ⟨x, rfl, o, i', hm, hno, hso, a4'⟩
    refine ⟨x, rfl, ?_⟩
    have a4 := a3.trans a4'
    refine tr_lit [x] (by show 1 ≤ 3; omega) fun u w5 hu hul f5 hf5 => ?_
    refine fin_made (wB := w3) (v := (14, str [], 0, u, ())) (t := trO (.neg o)) (a4.keep0 f5) (by omega) hg3 hsz3 ((tb3.keep a4'.fr (fun t => hgb t)).keep0 f5) (node_made 14 [] 0 hu hul (fun k hk => by have := hf5 k hk; have := a4'.size; omega) (made1 (hm.keep0 f5))) fun w6 a6 hm6 => ?_
    exact ⟨_, rfl, .neg o, i', hm6, by unfold nodesO; omega, hso, a6.more (by omega)⟩
  refine JoinK.of (fun _ w' => 6 ≤ k ∧ w3 = w') ?_ ?_
  · refine JoinK.of (fun s w' => (s.1 = true ↔ k = 0 ∨ k = 1) ∧ w3 = w') ?_ ?_
    · refine ifB.eq (fun e => ⟨by simp [e], rfl⟩) (fun e => ⟨by simp [e], rfl⟩)
    rintro _ ⟨c, _⟩ _ ⟨hc, rfl⟩
    dsimp only at hc ⊢
    refine ifB.by (fun e => ?_) (fun e => ?_)
    · refine ints_lit [0, 1, -1, 2, 100, -7, 1000000, 1000000000000, -1000000000000, 3] (by decide) fun u w4 hu hul f4 hf4 => ?_
      have a4 := a3.keep0 f4
      refine CallK.of (mn_spec a4.mkr (by omega) 10 (by omega)) ?_
      rintro _ w5 ⟨x, rfl, hx0', hx10, a5'⟩
      refine ⟨x, rfl, ?_⟩
      have hx10 := hx10 (by omega)
      have hu5 : IsSl w5 3 1 u _ := hu.keep a5'.fr (fun k hk t => by have : k = b := t; have := hf4 k hk; omega)
      have hxn : x.toNat < 10 := by omega
      refine IsSl.ld hu5 (c := .int .i64) (x := ([0, 1, -1, 2, 100, -7, 1000000, 1000000000000, -1000000000000, 3] : List Int).getD x.toNat 0) hx0' (by rw [hul]; show x < 10; omega) ?_ ?_
      · rw [List.getElem?_map, List.getD_eq_getElem?_getD, List.getElem?_eq_getElem (by show x.toNat < 10; omega)]; rfl
      · exact leafK (wB := w5) (a4.trans a5') (by omega) ((tb3.keep0 f4).keep a5'.fr (fun t => hgb t)) (o := .const _) (v := (11, str [], _, (none, 0, 0), ())) (leaf_made _ _ 11 [] _) (Nat.le_refl _) trivial
    · have hk2 : ¬ (k = 0 ∨ k = 1) := fun t => by rw [hc.2 t] at e; cases e
      refine ifB.eq (fun e2 => ?_) (fun e2 => ?_)
      · refine ifB.t (by simp [e2]) fixK
      refine ifB.eq (fun e3 => ifB.t (by simp [e3]) fixK) (fun e3 => ?_)
      refine ifB.eq (fun e4 => fixK) (fun e4 => ?_)
      refine ifB.eq (fun e5 => negK (by omega)) (fun e5 => ⟨by omega, rfl⟩)
  rintro _ _ _ ⟨hk6, rfl⟩
  obtain ⟨d', hd', ih⟩ := ih (by omega)
  refine CallK.of (ih a3.mkr (by have := a3.lo; omega) (by have := a3.hi; omega)) ?_
  rintro _ w4 ⟨x, rfl, o, i', hm, hno, hso, a4'⟩
  refine ⟨x, rfl, ?_⟩
  have a4 := a3.trans a4'
  refine TB.put x fun g2 w5 hg2 tbx f5 => ?_
  refine DrewK.of fun w6 _ f6 => HoldK.of (fun k => k ≠ b ∧ k ≠ g1) ?_
  have f56 := f5.trans f6
  have a6 := a4.keep0 f56
  have hsz4 := a4'.size
  have hg2b : g2 ≠ b ∧ g2 ≠ g1 := by omega
  refine ⟨hg2b, (tbx.keep0 f6).ld ?_⟩
  have tb6 := (tb3.keep a4'.fr (fun t => hgb t)).keep0 f56
  have hm6 := hm.keep0 f56
  have kk : ∀ (u : Sl) (w' : World), IsSl w' 3 1 u ([13, 15, 16].map (Value.int .i64)) → u.2.1 = 3 → ∀ {K : Int → Prop}, (∀ y, (y = 13 ∨ y = 15 ∨ y = 16) → K y) → (∀ j, blkOf u j → j ≠ b ∧ j ≠ g1) →
      IdxK u.1 u.2.1 (IntKind.i64.wrap (k - 6)) 1 fun a => InK (fun k => k ≠ b ∧ k ≠ g1) a (LdK (.int .i64) a w' K) := fun u w' hu hul K hK hj => by
    rw [wI (by omega) (by omega)]
    have h3 : k - 6 = 0 ∨ k - 6 = 1 ∨ k - 6 = 2 := by omega
    have base : IdxK u.1 u.2.1 (k - 6) 1 fun a => LdK (.int .i64) a w' K := by
      rcases h3 with e | e | e
      · exact IsSl.ld hu (c := .int .i64) (x := 13) (by omega) (by omega) (by rw [e]; rfl) (hK _ (by decide))
      · exact IsSl.ld hu (c := .int .i64) (x := 15) (by omega) (by omega) (by rw [e]; rfl) (hK _ (by decide))
      · exact IsSl.ld hu (c := .int .i64) (x := 16) (by omega) (by omega) (by rw [e]; rfl) (hK _ (by decide))
    obtain ⟨a, ha, h0, h1, hl⟩ := base.out
    refine ⟨a, ha, h0, h1, ⟨?_, hl⟩⟩
    have := hj a.block ⟨a, ha, rfl⟩
    rw [show (a.add ((k - 6).toNat * 1)).block = a.block by unfold Addr.add; split <;> rfl]
    exact this
  have notb : ∀ k, (fun k => k ≠ b ∧ k ≠ g1) k → ¬ only b k := fun k hk t => hk.1 t
  have notg : ∀ k, (fun k => k ≠ b ∧ k ≠ g1) k → ¬ only g1 k := fun k hk t => hk.2 t
  have fin2 : ∀ {w' w9 : World} {y : TV} {o2 : Ob} {i2 : Int} {n2 : Nat} {kd : Int} {u : Sl}, At w m b i n2 w9 i2 → n2 ≤ coN d → TB w9 g1 (0, str [], 0, (none, 0, 0), ()) → (kd = 13 ∨ kd = 15 ∨ kd = 16) → IsSl w9 33 4 u ([x, y].map tvL).flatten → u.2.1 = 2 →
      (∀ j, blkOf u j → w3.heap.size ≤ j) → Made w3 w9 (trO o) x → Made w3 w9 (trO o2) y → nodesO o2 ≤ coN d' → shortO o2 →
      StsK (⟨g1, 0, none⟩ : Addr) [.int .i64 kd, .string (⟨#[]⟩ : ByteArray), .int .i64 0, .slice u.1 u.2.1 u.2.2] w9 (fun w80 => KeepK (fun k => k ≠ b ∧ k ≠ g1) w9 w80 (LdsK TVK (⟨g1, 0, none⟩ : Addr) w80 (fun x81 => ∃ v : TV, tvA x81 = tvA v ∧ MO w m b i (coN d) v w80))) := fun {w' w9 y o2 i2 n2 kd u} a hn2 tb hkd hu hul huf hmx hmy hno2 hso2 => by
    obtain ⟨ob, e1, e2, e3⟩ := ob2 hkd o o2
    refine StsK.blk (cs := tvL _) (vs := tvL (kd, str [], 0, u, ())) tb rfl rfl fun w2 hb2 f2 _ => KeepK.on f2 notg ?_
    refine LdsK.blk (cks := TVK) (x := (kd, str [], 0, u, ())) hb2 ?_
    have hnode : Made w3 w9 (trO ob) (kd, str [], 0, u, ()) := by rw [e1]; exact node_made kd [] 0 hu hul huf (made2 hmx hmy)
    exact ⟨_, rfl, ob, i2, (hnode.keep f2 fun k hk _ t => by have : k = g1 := t; omega).older hsz3, by omega, e3 hso hso2, (a.keep f2 fun k hk t => by have : k = g1 := t; omega).more hn2⟩
  refine ⟨?_, ?_⟩
  · refine ints_lit [13, 15, 16] (by decide) fun u w7 hu hul f7 hf7 => KeepK.of f7 ?_
    have hub : ∀ j, blkOf u j → j ≠ b ∧ j ≠ g1 := fun j hj => by have := hf7 j hj; have := f56.size; omega
    refine kk u w7 hu hul (fun kd hkd => ?_) hub
    have a7 := a6.keep0 f7
    refine CallK.of (ih a7.mkr (by have := a7.lo; omega) (by have := a7.hi; omega)) ?_
    rintro _ w8 ⟨y, rfl, o2, i2, hm2, hno2, hso2, a8'⟩
    refine ⟨y, rfl, KeepK.on a8'.fr notb ?_⟩
    have a8 := a7.trans a8'
    refine tr_lit [x, y] (by show 2 ≤ 3; omega) fun v w9 hv hvl f9 hf9 => KeepK.of f9 ?_
    have hs7 := f56.size
    have hs8 := f7.size
    have hs9 := a8'.size
    exact fin2 (w' := w8) (a8.keep0 f9) (by omega) (((tb6.keep0 f7).keep a8'.fr (fun t => hgb t)).keep0 f9) hkd hv hvl (fun j hj => by have := hf9 j hj; omega) (((hm6.keep0 f7).keep a8'.fr (fun k hk _ t => by have : k = b := t; omega)).keep0 f9) ((hm2.keep0 f9).older (by omega)) hno2 hso2
  · refine CallK.of (ih a6.mkr (by have := a6.lo; omega) (by have := a6.hi; omega)) ?_
    rintro _ w8 ⟨y, rfl, o2, i2, hm2, hno2, hso2, a8'⟩
    refine ⟨y, rfl, KeepK.on a8'.fr notb ?_⟩
    have a8 := a6.trans a8'
    have hs7 := f56.size
    have hs9 := a8'.size
    have tb8 := tb6.keep a8'.fr (fun t => hgb t)
    have hm8 := hm6.keep a8'.fr (fun k hk _ t => by have : k = b := t; omega)
    refine ⟨?_, ?_⟩
    · refine ints_lit [13, 15, 16] (by decide) fun u w7 hu hul f7 hf7 => KeepK.of f7 ?_
      have hub : ∀ j, blkOf u j → j ≠ b ∧ j ≠ g1 := fun j hj => by have := hf7 j hj; omega
      refine kk u w7 hu hul (fun kd hkd => ?_) hub
      have hs10 := f7.size
      refine tr_lit [x, y] (by show 2 ≤ 3; omega) fun v w9 hv hvl f9 hf9 => KeepK.of f9 ?_
      exact fin2 (w' := w8) ((a8.keep0 f7).keep0 f9) (by omega) ((tb8.keep0 f7).keep0 f9) hkd hv hvl (fun j hj => by have := hf9 j hj; omega) ((hm8.keep0 f7).keep0 f9) (((hm2.keep0 f7).keep0 f9).older (by omega)) hno2 hso2
    · refine tr_lit [x, y] (by show 2 ≤ 3; omega) fun v w9 hv hvl f9 hf9 => KeepK.of f9 ?_
      refine ints_lit [13, 15, 16] (by decide) fun u w7 hu hul f7 hf7 => KeepK.of f7 ?_
      have hs10 := f9.size
      have hub : ∀ j, blkOf u j → j ≠ b ∧ j ≠ g1 := fun j hj => by have := hf7 j hj; omega
      refine kk u w7 hu hul (fun kd hkd => ?_) hub
      exact fin2 (w' := w8) ((a8.keep0 f9).keep0 f7) (by omega) ((tb8.keep0 f9).keep0 f7) hkd (hv.keep0 f7) hvl (fun j hj => by have := hf9 j hj; omega) ((hm8.keep0 f9).keep0 f7) (((hm2.keep0 f9).keep0 f7).older (by omega)) hno2 hso2

end Go.Proofs.YtbadiokobooliaaGreatDoor

/-! ### MakeSpec2 -/
set_option linter.unusedVariables false
set_option maxRecDepth 100000
namespace Go.Proofs.YtbadiokobooliaaGreatDoor
open Vc

/-- How many steps a contract takes. -/
def coT : Nat → Nat
  | 0 => 4
  | d + 1 => 2 * coT d + 50

/-- A contract was made. -/
def MT (w : World) (m b : Nat) (i : Int) (n : Nat) (v : TV) (w' : World) : Prop :=
  ∃ (t : Tm) (i' : Int), Made w w' (trT t) v ∧ nodesT t ≤ n ∧ shortT t ∧ At w m b i n w' i'

def MadeL (w w' : World) (ts : List Tr) (vs : List TV) : Prop := IsTrs w' (since w w') ts vs
theorem MadeL.keep {w w1 w2 : World} {t : List Tr} {v : List TV} (h : MadeL w w1 t v) {S : Nat → Prop} (f : Fr S w1 w2) (hn : ∀ k, w.heap.size ≤ k → k < w1.heap.size → ¬ S k) : MadeL w w2 t v :=
  IsTrs.mono (fun k hk => ⟨hk.1, by have := f.size; have := hk.2; omega⟩) t v (IsTrs.keep f (fun k hk => hn k hk.1 hk.2) t v h)
theorem MadeL.keep0 {w w1 w2 : World} {t : List Tr} {v : List TV} (h : MadeL w w1 t v) (f : Fr none1 w1 w2) : MadeL w w2 t v := h.keep f (fun _ _ _ t => t)

theorem itoa_short (x : Int) (h0 : -9223372036854775808 ≤ x) (h1 : x ≤ 9223372036854775807) : (Lib.itoa x).length ≤ 30 := by
  unfold Lib.itoa
  split
  · have := dec_len 20 x.natAbs (by omega)
    simp only [List.length_cons]; omega
  · have := dec_len 20 x.toNat (by omega)
    omega

/-- The contract's own blocks: its result g1, its struct g2; nothing of these is read while parts are made. -/
def outS (b g1 g2 : Nat) : Nat → Prop := fun k => k ≠ b ∧ k ≠ g1 ∧ k ≠ g2

structure Sit (w wB wc : World) (m b g1 g2 : Nat) (i : Int) (n : Nat) (i' : Int) (v : TV) : Prop where
  at_ : At w m b i n wc i'
  t1 : TB wc g1 (0, str [], 0, (none, 0, 0), ())
  t2 : TB wc g2 v
  wg1 : w.heap.size ≤ g1
  wg2 : w.heap.size ≤ g2
  ne : g1 ≠ g2
  Bg1 : g1 < wB.heap.size
  Bg2 : g2 < wB.heap.size
  B : wB.heap.size ≤ wc.heap.size

theorem Sit.keep0 {w wB wc wd : World} {m b g1 g2 n : Nat} {i i' : Int} {v : TV} (s : Sit w wB wc m b g1 g2 i n i' v) (f : Fr none1 wc wd) : Sit w wB wd m b g1 g2 i n i' v :=
  ⟨s.at_.keep0 f, s.t1.keep0 f, s.t2.keep0 f, s.wg1, s.wg2, s.ne, s.Bg1, s.Bg2, Nat.le_trans s.B f.size⟩
theorem Sit.b_ne {w wB wc : World} {m b g1 g2 n : Nat} {i i' : Int} {v : TV} (s : Sit w wB wc m b g1 g2 i n i' v) : b < w.heap.size ∧ g1 ≠ b ∧ g2 ≠ b := by
  have := s.at_.b_lt; have := s.wg1; have := s.wg2; omega
theorem Sit.go {w wB wc wd : World} {m b g1 g2 n n2 : Nat} {i i' i2 : Int} {v : TV} (s : Sit w wB wc m b g1 g2 i n i' v) (a : At wc m b i' n2 wd i2) : Sit w wB wd m b g1 g2 i (n + n2) i2 v :=
  ⟨s.at_.trans a, s.t1.keep a.fr (fun t => s.b_ne.2.1 t), s.t2.keep a.fr (fun t => s.b_ne.2.2 t), s.wg1, s.wg2, s.ne, s.Bg1, s.Bg2, Nat.le_trans s.B a.size⟩
/-- A write to the struct. -/
theorem Sit.set {w wB wc wd : World} {m b g1 g2 n : Nat} {i i' : Int} {v u : TV} (s : Sit w wB wc m b g1 g2 i n i' v) (f : Fr (only g2) wc wd) (t : TB wd g2 u) : Sit w wB wd m b g1 g2 i n i' u :=
  ⟨s.at_.keep f (fun k hk t => by have : k = g2 := t; have := s.wg2; omega), s.t1.keep f (fun t => s.ne t), t, s.wg1, s.wg2, s.ne, s.Bg1, s.Bg2, Nat.le_trans s.B f.size⟩
theorem MadeL.set {w wB wc wd : World} {m b g1 g2 n : Nat} {i i' : Int} {v : TV} (s : Sit w wB wc m b g1 g2 i n i' v) {ts : List Tr} {vs : List TV} (h : MadeL wB wc ts vs) (f : Fr (only g2) wc wd) : MadeL wB wd ts vs :=
  h.keep f fun k hk _ t => by have : k = g2 := t; have := s.Bg2; omega
theorem MadeL.go {w wB wc wd : World} {m b g1 g2 n n2 : Nat} {i i' i2 : Int} {v : TV} (s : Sit w wB wc m b g1 g2 i n i' v) (a : At wc m b i' n2 wd i2) {ts : List Tr} {vs : List TV} (h : MadeL wB wc ts vs) : MadeL wB wd ts vs :=
  h.keep a.fr fun k hk _ t => by have : k = b := t; have := s.b_ne; have := s.wg2; have := s.Bg2; omega
theorem out_b {b g1 g2 : Nat} : ∀ k, outS b g1 g2 k → ¬ only b k := fun k hk t => hk.1 t
theorem out_1 {b g1 g2 : Nat} : ∀ k, outS b g1 g2 k → ¬ only g1 k := fun k hk t => hk.2.1 t
theorem out_2 {b g1 g2 : Nat} : ∀ k, outS b g1 g2 k → ¬ only g2 k := fun k hk t => hk.2.2 t

/-- The struct is told. -/
theorem Sit.tell {w wB wc : World} {m b g1 g2 n N : Nat} {i i' : Int} {v : TV} (s : Sit w wB wc m b g1 g2 i n i' v) (hn : n ≤ N) (hB : w.heap.size ≤ wB.heap.size) {t : Tm} (hm : Made wB wc (trT t) v) (ht : nodesT t ≤ N) (hs : shortT t) :
    LdsK TVK ⟨g2, 0, none⟩ wc fun (x : TV) => StsK ⟨g1, 0, none⟩ (tvL x) wc fun w2 => LdsK TVK ⟨g1, 0, none⟩ w2 fun (y : TV) => ∃ v : TV, tvA y = tvA v ∧ MT w m b i N v w2 :=
  s.t2.ld (fin_made s.at_ s.wg1 s.Bg1 hB s.t1 hm fun w2 a' hm' => ⟨_, rfl, t, i', hm', ht, hs, a'.more hn⟩)

/-- The parts, in a new slice; then the struct; in two orders. -/
theorem Sit.parts {w wB wc : World} {m b g1 g2 n N : Nat} {i i' : Int} {kd : Int} {ts : List Tr} {vs : List TV} (s : Sit w wB wc m b g1 g2 i n i' (0, str [], 0, (none, 0, 0), ())) (hn : n ≤ N) (hB : w.heap.size ≤ wB.heap.size) (hl : vs.length ≤ 3) (hm : MadeL wB wc ts vs) {t : Tm} (he : trT t = .mk kd [] 0 ts) (ht : nodesT t ≤ N) (hs : shortT t) :
    AndK (RunK Tryz.prog (Instr.buildSlice 31 vs.length (((vs.map tvL).zipIdx.map fun (l, i) => (i, Value.agg l.toArray)).toArray)) wc (.v (.one .slc)) (fun (x58 : Option Addr × Nat × Nat) w59 => KeepK (outS b g1 g2) wc w59 (StK ((⟨g2, 0, none⟩ : Addr).add 0) (.int .i64 kd) w59 (fun w60 => KeepK (outS b g1 g2) w59 w60 (StK ((⟨g2, 0, none⟩ : Addr).add 3) (.slice x58.1 x58.2.1 x58.2.2) w60 (fun w61 => KeepK (outS b g1 g2) w60 w61
        (LdsK TVK ⟨g2, 0, none⟩ w61 fun (x : TV) => StsK ⟨g1, 0, none⟩ (tvL x) w61 fun w2 => LdsK TVK ⟨g1, 0, none⟩ w2 fun (y : TV) => ∃ v : TV, tvA y = tvA v ∧ MT w m b i N v w2)))))))
      (StK ((⟨g2, 0, none⟩ : Addr).add 0) (.int .i64 kd) wc (fun w65 => KeepK (outS b g1 g2) wc w65 (RunK Tryz.prog (Instr.buildSlice 31 vs.length (((vs.map tvL).zipIdx.map fun (l, i) => (i, Value.agg l.toArray)).toArray)) w65 (.v (.one .slc)) (fun (x66 : Option Addr × Nat × Nat) w67 => KeepK (outS b g1 g2) w65 w67 (StK ((⟨g2, 0, none⟩ : Addr).add 3) (.slice x66.1 x66.2.1 x66.2.2) w67 (fun w68 => KeepK (outS b g1 g2) w67 w68
        (LdsK TVK ⟨g2, 0, none⟩ w68 fun (x : TV) => StsK ⟨g1, 0, none⟩ (tvL x) w68 fun w2 => LdsK TVK ⟨g1, 0, none⟩ w2 fun (y : TV) => ∃ v : TV, tvA y = tvA v ∧ MT w m b i N v w2))))))) := by
  refine ⟨?_, ?_⟩
  · refine tr_lit vs hl fun u w1 hu hul f1 hf1 => KeepK.of f1 ?_
    have s1 := s.keep0 f1
    have m1 := hm.keep0 f1
    refine s1.t2.k kd fun w2 t2 f2 => KeepK.on f2 out_2 ?_
    have s2 := s1.set f2 t2
    have m2 := m1.set s1 f2
    refine s2.t2.u u fun w3 t3 f3 => KeepK.on f3 out_2 ?_
    have s3 := s2.set f3 t3
    have m3 := m2.set s2 f3
    refine s3.tell hn hB (t := t) (by rw [he]; exact node_made kd [] 0 ((hu.keep f2 fun k hk t => by have : k = g2 := t; have := hf1 k hk; have := s.B; have := s.Bg2; omega).keep f3 fun k hk t => by have : k = g2 := t; have := hf1 k hk; have := s.B; have := s.Bg2; omega) hul (fun k hk => by have := hf1 k hk; have := s.B; omega) m3) ht hs
  · refine s.t2.k kd fun w1 t1 f1 => KeepK.on f1 out_2 ?_
    have s1 := s.set f1 t1
    have m1 := hm.set s f1
    refine tr_lit vs hl fun u w2 hu hul f2 hf2 => KeepK.of f2 ?_
    have s2 := s1.keep0 f2
    have m2 := m1.keep0 f2
    refine s2.t2.u u fun w3 t3 f3 => KeepK.on f3 out_2 ?_
    have s3 := s2.set f3 t3
    have m3 := m2.set s2 f3
    refine s3.tell hn hB (t := t) (by rw [he]; exact node_made kd [] 0 (hu.keep f3 fun k hk t => by have : k = g2 := t; have := hf2 k hk; have := s1.B; have := s.Bg2; omega) hul (fun k hk => by have := hf2 k hk; have := s1.B; omega) m3) ht hs

/-- .. with a label; in three orders. -/
theorem Sit.labelled {w wB wc : World} {m b g1 g2 n N : Nat} {i i' : Int} {ts : List Tr} {vs : List TV} (s : Sit w wB wc m b g1 g2 i n i' (0, str [], 0, (none, 0, 0), ())) (hn : n ≤ N) (hB : w.heap.size ≤ wB.heap.size) (hl : vs.length ≤ 3) (hm : MadeL wB wc ts vs) (x : List UInt8) {t : Tm} (he : trT t = .mk 5 x 0 ts) (ht : nodesT t ≤ N) (hs : shortT t) :
    AndK (RunK Tryz.prog (Instr.buildSlice 31 vs.length (((vs.map tvL).zipIdx.map fun (l, i) => (i, Value.agg l.toArray)).toArray)) wc (.v (.one .slc)) (fun (x92 : Option Addr × Nat × Nat) w93 => KeepK (outS b g1 g2) wc w93 (StK ((⟨g2, 0, none⟩ : Addr).add 0) (.int .i64 5) w93 (fun w94 => KeepK (outS b g1 g2) w93 w94 (StK ((⟨g2, 0, none⟩ : Addr).add 1) (.string (str x)) w94 (fun w95 => KeepK (outS b g1 g2) w94 w95 (StK ((⟨g2, 0, none⟩ : Addr).add 3) (.slice x92.1 x92.2.1 x92.2.2) w95 (fun w96 => KeepK (outS b g1 g2) w95 w96
        (LdsK TVK ⟨g2, 0, none⟩ w96 fun (x : TV) => StsK ⟨g1, 0, none⟩ (tvL x) w96 fun w2 => LdsK TVK ⟨g1, 0, none⟩ w2 fun (y : TV) => ∃ v : TV, tvA y = tvA v ∧ MT w m b i N v w2)))))))))
      (StK ((⟨g2, 0, none⟩ : Addr).add 0) (.int .i64 5) wc (fun w100 => KeepK (outS b g1 g2) wc w100 (AndK (RunK Tryz.prog (Instr.buildSlice 31 vs.length (((vs.map tvL).zipIdx.map fun (l, i) => (i, Value.agg l.toArray)).toArray)) w100 (.v (.one .slc)) (fun (x101 : Option Addr × Nat × Nat) w102 => KeepK (outS b g1 g2) w100 w102 (StK ((⟨g2, 0, none⟩ : Addr).add 1) (.string (str x)) w102 (fun w103 => KeepK (outS b g1 g2) w102 w103 (StK ((⟨g2, 0, none⟩ : Addr).add 3) (.slice x101.1 x101.2.1 x101.2.2) w103 (fun w104 => KeepK (outS b g1 g2) w103 w104
        (LdsK TVK ⟨g2, 0, none⟩ w104 fun (x : TV) => StsK ⟨g1, 0, none⟩ (tvL x) w104 fun w2 => LdsK TVK ⟨g1, 0, none⟩ w2 fun (y : TV) => ∃ v : TV, tvA y = tvA v ∧ MT w m b i N v w2)))))))
       (StK ((⟨g2, 0, none⟩ : Addr).add 1) (.string (str x)) w100 (fun w108 => KeepK (outS b g1 g2) w100 w108 (RunK Tryz.prog (Instr.buildSlice 31 vs.length (((vs.map tvL).zipIdx.map fun (l, i) => (i, Value.agg l.toArray)).toArray)) w108 (.v (.one .slc)) (fun (x109 : Option Addr × Nat × Nat) w110 => KeepK (outS b g1 g2) w108 w110 (StK ((⟨g2, 0, none⟩ : Addr).add 3) (.slice x109.1 x109.2.1 x109.2.2) w110 (fun w111 => KeepK (outS b g1 g2) w110 w111
        (LdsK TVK ⟨g2, 0, none⟩ w111 fun (x : TV) => StsK ⟨g1, 0, none⟩ (tvL x) w111 fun w2 => LdsK TVK ⟨g1, 0, none⟩ w2 fun (y : TV) => ∃ v : TV, tvA y = tvA v ∧ MT w m b i N v w2)))))))))) := by
  refine ⟨?_, ?_⟩
  · refine tr_lit vs hl fun u w1 hu hul f1 hf1 => KeepK.of f1 ?_
    have s1 := s.keep0 f1
    have m1 := hm.keep0 f1
    have hk : ∀ k, blkOf u k → ¬ only g2 k := fun k hk t => by have : k = g2 := t; have := hf1 k hk; have := s.B; have := s.Bg2; omega
    refine s1.t2.k 5 fun w2 t2 f2 => KeepK.on f2 out_2 ?_
    have s2 := s1.set f2 t2
    have m2 := m1.set s1 f2
    refine s2.t2.s (str x) fun w3 t3 f3 => KeepK.on f3 out_2 ?_
    have s3 := s2.set f3 t3
    have m3 := m2.set s2 f3
    refine s3.t2.u u fun w4 t4 f4 => KeepK.on f4 out_2 ?_
    have s4 := s3.set f4 t4
    have m4 := m3.set s3 f4
    exact s4.tell hn hB (t := t) (by rw [he]; exact node_made 5 x 0 (((hu.keep f2 hk).keep f3 hk).keep f4 hk) hul (fun k hk => by have := hf1 k hk; have := s.B; omega) m4) ht hs
  · refine s.t2.k 5 fun w1 t1 f1 => KeepK.on f1 out_2 ?_
    have s1 := s.set f1 t1
    have m1 := hm.set s f1
    refine ⟨?_, ?_⟩
    · refine tr_lit vs hl fun u w2 hu hul f2 hf2 => KeepK.of f2 ?_
      have hk : ∀ k, blkOf u k → ¬ only g2 k := fun k hk t => by have : k = g2 := t; have := hf2 k hk; have := s1.B; have := s.Bg2; omega
      have s2 := s1.keep0 f2
      have m2 := m1.keep0 f2
      refine s2.t2.s (str x) fun w3 t3 f3 => KeepK.on f3 out_2 ?_
      have s3 := s2.set f3 t3
      have m3 := m2.set s2 f3
      refine s3.t2.u u fun w4 t4 f4 => KeepK.on f4 out_2 ?_
      have s4 := s3.set f4 t4
      have m4 := m3.set s3 f4
      exact s4.tell hn hB (t := t) (by rw [he]; exact node_made 5 x 0 ((hu.keep f3 hk).keep f4 hk) hul (fun k hk => by have := hf2 k hk; have := s1.B; omega) m4) ht hs
    · refine s1.t2.s (str x) fun w3 t3 f3 => KeepK.on f3 out_2 ?_
      have s3 := s1.set f3 t3
      have m3 := m1.set s1 f3
      refine tr_lit vs hl fun u w2 hu hul f2 hf2 => KeepK.of f2 ?_
      have hk : ∀ k, blkOf u k → ¬ only g2 k := fun k hk t => by have : k = g2 := t; have := hf2 k hk; have := s3.B; have := s.Bg2; omega
      have s2 := s3.keep0 f2
      have m2 := m3.keep0 f2
      refine s2.t2.u u fun w4 t4 f4 => KeepK.on f4 out_2 ?_
      have s4 := s2.set f4 t4
      have m4 := m2.set s2 f4
      exact s4.tell hn hB (t := t) (by rw [he]; exact node_made 5 x 0 (hu.keep f4 hk) hul (fun k hk => by have := hf2 k hk; have := s3.B; omega) m4) ht hs

end Go.Proofs.YtbadiokobooliaaGreatDoor

/-! ### MakeSpec3 -/
set_option linter.unusedVariables false
set_option maxRecDepth 100000
namespace Go.Proofs.YtbadiokobooliaaGreatDoor
open Vc

theorem coT_ge (d : Nat) : 4 ≤ coT d := by cases d <;> simp [coT]

theorem mterm_spec : ∀ (d : Nat) {w : World} {m b : Nat} {i : Int} (h : IsMk w m b i) (p1 : Int) (hp : p1 ≤ d) (hp0 : -1000 ≤ p1) (hp2 : p1 ≤ 1000) (hi : 0 ≤ i) (hn : i + coT d ≤ 1000000000),
    Ret Tryz.prog 121 #[.pointer (some ⟨b, 0, none⟩), .int .i64 p1] w fun r w' => ∃ v : TV, r = tvA v ∧ MT w m b i (coT d) v w' := by
  intro d
  induction d using Nat.strongRecOn with
  | _ d IH =>
  intro w m b i h p1 hp hp0 hp2 hi hn
  refine c121 _ p1 w _ ?_
  unfold C121
  have hco := coT_ge d
  have hbm := h.lt
  have hmw := h.le
  refine TB.new fun g1 w1 hg1 tb1 f1 hs1 => ?_
  have a1 := (At.start h).keep0 f1
  refine a1.mkr.left_rd fun x3 => a1.mkr.left_st _ fun w2 a2' => ?_
  have a2 := a1.trans a2'
  have tb2 := tb1.keep a2'.fr (fun t => by have : g1 = b := t; omega)
  refine CallK.of (mn_spec a2.mkr (by omega) 13 (by omega)) ?_
  rintro _ w3 ⟨x5, rfl, hx0, hx9, a3'⟩
  refine ⟨x5, rfl, ?_⟩
  have a3 := a2.trans a3'
  have tb3 := tb2.keep a3'.fr (fun t => by have : g1 = b := t; omega)
  have hx9 := hx9 (by omega)
  refine JoinK.of (fun s w' => 0 ≤ s.1 ∧ s.1 < 13 ∧ (p1 ≤ 0 → s.1 < 3) ∧ w3 = w') ?_ ?_
  · refine JoinK.of (fun s w' => (p1 ≤ 0 → s.1 = true) ∧ w3 = w') ?_ ?_
    · exact ifB.dec (fun _ => ⟨fun _ => rfl, rfl⟩) (fun hp => a3.mkr.left_rd fun x => ⟨fun t => absurd t hp, rfl⟩)
    · rintro _ ⟨c, _⟩ _ ⟨hc, rfl⟩
      dsimp only at hc ⊢
      have hm3 := Int.tmod_eq_emod_of_nonneg (b := (3 : Int)) hx0
      refine ifB.by (fun e => ⟨by omega, ?_⟩) (fun e => ⟨hx0, hx9, fun t => (by rw [hc t] at e; cases e), rfl⟩)
      exact ⟨by omega, by omega, fun _ => by omega, rfl⟩
  rintro _ ⟨k, _⟩ _ ⟨hk0, hk9, hkp, rfl⟩
  dsimp only at hk0 hk9 hkp ⊢
  have hsz3 : w.heap.size ≤ w3.heap.size := a3.size
  have hg3 : g1 < w3.heap.size := lt_of_blk tb3
  have hgb : g1 ≠ b := by omega
  refine TB.put (0, str [], 0, (none, 0, 0), ()) fun g2 w4 hg2 tb4 f4 => ?_
  have hsz4 := f4.size
  have hg24 : g2 < w4.heap.size := lt_of_blk tb4
  have S : Sit w w4 w4 m b g1 g2 i (0 + 0 + 1) (i + 1) (0, str [], 0, (none, 0, 0), ()) := ⟨a3.keep0 f4, tb3.keep0 f4, tb4, by omega, by omega, by omega, by omega, by omega, Nat.le_refl _⟩
  have hB : w.heap.size ≤ w4.heap.size := by omega
  clear tb1 tb2 tb3 tb4 a1 a2 a3 a2' a3' f1 hs1
  -- what a part is
  have ihT : 0 < p1 → ∃ d', coT d = 2 * coT d' + 50 ∧ ∀ {w' : World} {i' : Int}, IsMk w' m b i' → 0 ≤ i' → i' + coT d' ≤ 1000000000 →
      Ret Tryz.prog 121 #[.pointer (some ⟨b, 0, none⟩), .int .i64 (IntKind.i64.wrap (p1 - 1))] w' fun r w'' => ∃ v : TV, r = tvA v ∧ MT w' m b i' (coT d') v w'' := fun hpos => by
    cases d with
    | zero => omega
    | succ d' =>
      refine ⟨d', rfl, fun hmk h0 h1 => ?_⟩
      rw [wI (by omega) (by omega)]
      exact IH d' (by omega) hmk (p1 - 1) (by omega) (by omega) (by omega) h0 h1
  have ihO : 0 < p1 → ∀ {w' : World} {i' : Int}, IsMk w' m b i' → 0 ≤ i' → i' + 34 ≤ 1000000000 →
      Ret Tryz.prog 157 #[.pointer (some ⟨b, 0, none⟩), .int .i64 (if 2 < IntKind.i64.wrap (p1 - 1) then 2 else IntKind.i64.wrap (p1 - 1))] w' fun r w'' => ∃ v : TV, r = tvA v ∧ MO w' m b i' 34 v w'' := fun hpos {w' i'} hmk h0 h1 => by
    rw [wI (by omega) (by omega)]
    by_cases h2 : 2 < p1 - 1
    · rw [if_pos h2]
      exact mobs_spec 2 hmk 2 (by omega) (by omega) (by omega) h0 (by show i' + 34 ≤ _; omega)
    · rw [if_neg h2]
      exact mobs_spec 2 hmk (p1 - 1) (by omega) (by omega) (by omega) h0 (by show i' + 34 ≤ _; omega)
  refine JoinK.of (fun s w' => (s.1 = true ↔ k = 0 ∨ k = 1) ∧ w4 = w') ?_ ?_
  · exact ifB.eq (fun e => ⟨by simp [e], rfl⟩) (fun e => ⟨by simp [e], rfl⟩)
  rintro _ ⟨c, _⟩ _ ⟨hc, rfl⟩
  dsimp only at hc ⊢
  refine ifB.by (fun e => ?_) (fun e => ?_)
  · -- a currency
    refine words_lit [[117, 115, 100], [101, 117, 114], [103, 98, 112]] (by decide) fun u w5 hu f5 hf5 => ?_
    have S5 := S.keep0 f5
    refine CallK.of (mword_spec S5.at_.mkr (by omega) hu (by decide) (by decide) (fun k hk => by have := hf5 k hk; omega)) ?_
    rintro _ w6 ⟨s, rfl, hsl, a6⟩
    refine ⟨_, rfl, ?_⟩
    have S6 := S5.go a6
    refine S6.t2.k 2 fun w7 t7 f7 => ?_
    have S7 := S6.set f7 t7
    refine S7.t2.s (str s) fun w8 t8 f8 => ?_
    have S8 := S7.set f8 t8
    exact S8.tell (by omega) hB (t := .one s) (leaf_made _ _ 2 s 0) (by show 1 ≤ coT d; omega) hsl
  have hk01 : ¬ (k = 0 ∨ k = 1) := fun t => by rw [hc.2 t] at e; cases e
  clear hc e
  refine ifB.eq (fun e2 => ?_) (fun e2 => ?_)
  · refine S.t2.k 1 fun w7 t7 f7 => ?_
    exact (S.set f7 t7).tell (by omega) hB (t := .zero) (leaf_made _ _ 1 [] 0) (by show 1 ≤ coT d; omega) trivial
  have hpos : 0 < p1 := by
    refine Classical.byContradiction fun hno => ?_
    have := hkp (by omega); omega
  obtain ⟨d', hd', ihT⟩ := ihT hpos
  have ihO := @ihO hpos
  refine JoinK.of (fun s w' => (s.1 = true ↔ k = 3 ∨ k = 4) ∧ w4 = w') ?_ ?_
  · exact ifB.eq (fun e => ⟨by simp [e], rfl⟩) (fun e => ⟨by simp [e], rfl⟩)
  rintro _ ⟨c, _⟩ _ ⟨hc, rfl⟩
  dsimp only at hc ⊢
  refine ifB.by (fun e => ?_) (fun e => ?_)
  · -- give
    refine CallK.of (ihT S.at_.mkr (by omega) (by omega)) ?_
    rintro _ w5 ⟨x, rfl, t, i5, hm, hno, hso, a5⟩
    refine ⟨x, rfl, ?_⟩
    have S5 := S.go a5
    refine tr_lit [x] (by show 1 ≤ 3; omega) fun u w6 hu hul f6 hf6 => ?_
    have S6 := S5.keep0 f6
    have m6 : MadeL w4 w6 [trT t] [x] := made1 (hm.keep0 f6)
    have hk : ∀ k, blkOf u k → ¬ only g2 k := fun k hk t => by have : k = g2 := t; have := hf6 k hk; have := S5.B; omega
    refine S6.t2.k 3 fun w7 t7 f7 => ?_
    have S7 := S6.set f7 t7
    have m7 := m6.set S6 f7
    refine S7.t2.u u fun w8 t8 f8 => ?_
    have S8 := S7.set f8 t8
    have m8 := m7.set S7 f8
    exact S8.tell (by omega) hB (t := .give t) (node_made 3 [] 0 ((hu.keep f7 hk).keep f8 hk) hul (fun k hk => by have := hf6 k hk; have := S5.B; omega) m8) (by unfold nodesT; omega) hso
  have hk34 : ¬ (k = 3 ∨ k = 4) := fun t => by rw [hc.2 t] at e; cases e
  clear hc e
  refine JoinK.of (fun s w' => (s.1 = true ↔ k = 5 ∨ k = 6) ∧ w4 = w') ?_ ?_
  · exact ifB.eq (fun e => ⟨by simp [e], rfl⟩) (fun e => ⟨by simp [e], rfl⟩)
  rintro _ ⟨c, _⟩ _ ⟨hc, rfl⟩
  dsimp only at hc ⊢
  refine ifB.by (fun e => ?_) (fun e => ?_)
  · -- and
    refine CallK.of (ihT S.at_.mkr (by omega) (by omega)) ?_
    rintro _ w5 ⟨x, rfl, t, i5, hm, hno, hso, a5⟩
    refine ⟨x, rfl, ?_⟩
    have S5 := S.go a5
    have hB5 := S5.B
    refine TB.put x fun g3 w6 hg3' t6 f6 => ?_
    refine DrewK.of fun w7 _ f7 => HoldK.of (outS b g1 g2) ?_
    have f67 := f6.trans f7
    have S7 := S5.keep0 f67
    refine ⟨by show g3 ≠ b ∧ g3 ≠ g1 ∧ g3 ≠ g2; omega, (t6.keep0 f7).ld ?_⟩
    refine CallK.of (ihT S7.at_.mkr (by have := S7.at_.lo; omega) (by have := S7.at_.hi; omega)) ?_
    rintro _ w8 ⟨y, rfl, t2, i8, hm2, hno2, hso2, a8⟩
    refine ⟨y, rfl, KeepK.on a8.fr out_b ?_⟩
    have S8 := S7.go a8
    have m8 : MadeL w4 w8 [trT t, trT t2] [x, y] := made2 ((hm.keep0 f67).keep a8.fr fun k hk _ t => by have : k = b := t; omega) (hm2.older (by have := f67.size; omega))
    exact S8.parts (by omega) hB (by show 2 ≤ 3; omega) m8 (t := .and t t2) rfl (by unfold nodesT; omega) ⟨hso, hso2⟩
  have hk56 : ¬ (k = 5 ∨ k = 6) := fun t => by rw [hc.2 t] at e; cases e
  clear hc e
  refine JoinK.of (fun s w' => (s.1 = true ↔ k = 7 ∨ k = 8) ∧ w4 = w') ?_ ?_
  · exact ifB.eq (fun e => ⟨by simp [e], rfl⟩) (fun e => ⟨by simp [e], rfl⟩)
  rintro _ ⟨c, _⟩ _ ⟨hc, rfl⟩
  dsimp only at hc ⊢
  refine ifB.by (fun e => ?_) (fun e => ?_)
  · -- or
    refine S.at_.mkr.label_ok fun lb w5 hl0 hl1 a5 => ?_
    have S5 := S.go a5
    refine CallK.of (digits_spec lb hl0 hl1 w5) ?_
    rintro _ w6 ⟨rfl, f6⟩
    refine ⟨_, rfl, ?_⟩
    have S6 := S5.keep0 f6
    have hil := itoa_short lb hl0 hl1
    refine cat_small (by rw [str_size]; show 2 + (Lib.itoa lb).length ≤ _; omega) ?_
    have hcat : (⟨#[99, 104]⟩ : ByteArray) ++ str (Lib.itoa lb) = str ([99, 104] ++ Lib.itoa lb) := by rw [← str_app]; rfl
    rw [hcat]
    refine CallK.of (mn_spec S6.at_.mkr (by omega) 30 (by omega)) ?_
    rintro _ w7 ⟨x30, rfl, _, _, a7⟩
    refine ⟨x30, rfl, ?_⟩
    have S7 := S6.go a7
    have both : ∀ (nm : List UInt8), nm.length ≤ 1000 → CallK Tryz.prog 121 #[.pointer (some ⟨b, 0, none⟩), .int .i64 (IntKind.i64.wrap (p1 - 1))] w7 (.v (.agg TVK)) (fun (x82 : TV) w83 =>
        NewK (.cells #[.int .i64 0, .string (⟨#[]⟩ : ByteArray), .int .i64 0, .slice none 0 0] 33) w83 (fun g84 w85 => StsK ⟨g84, 0, none⟩ (tvL x82) w85 (fun w86 => DrewK w86 (fun w87 => HoldK (fun S88 => InK S88 ⟨g84, 0, none⟩ (LdsK TVK ⟨g84, 0, none⟩ w87 (fun (x89 : TV) =>
          CallK Tryz.prog 121 #[.pointer (some ⟨b, 0, none⟩), .int .i64 (IntKind.i64.wrap (p1 - 1))] w87 (.v (.agg TVK)) (fun (x90 : TV) w91 => KeepK S88 w87 w91
            (AndK (RunK Tryz.prog (Instr.buildSlice 31 2 #[(0, tvA x89), (1, tvA x90)]) w91 (.v (.one .slc)) (fun (x92 : Option Addr × Nat × Nat) w93 => KeepK S88 w91 w93 (StK ((⟨g2, 0, none⟩ : Addr).add 0) (.int .i64 5) w93 (fun w94 => KeepK S88 w93 w94 (StK ((⟨g2, 0, none⟩ : Addr).add 1) (.string (str nm)) w94 (fun w95 => KeepK S88 w94 w95 (StK ((⟨g2, 0, none⟩ : Addr).add 3) (.slice x92.1 x92.2.1 x92.2.2) w95 (fun w96 => KeepK S88 w95 w96
        (LdsK TVK ⟨g2, 0, none⟩ w96 fun (x : TV) => StsK ⟨g1, 0, none⟩ (tvL x) w96 fun w2 => LdsK TVK ⟨g1, 0, none⟩ w2 fun (y : TV) => ∃ v : TV, tvA y = tvA v ∧ MT w m b i (coT d) v w2)))))))))
      (StK ((⟨g2, 0, none⟩ : Addr).add 0) (.int .i64 5) w91 (fun w100 => KeepK S88 w91 w100 (AndK (RunK Tryz.prog (Instr.buildSlice 31 2 #[(0, tvA x89), (1, tvA x90)]) w100 (.v (.one .slc)) (fun (x101 : Option Addr × Nat × Nat) w102 => KeepK S88 w100 w102 (StK ((⟨g2, 0, none⟩ : Addr).add 1) (.string (str nm)) w102 (fun w103 => KeepK S88 w102 w103 (StK ((⟨g2, 0, none⟩ : Addr).add 3) (.slice x101.1 x101.2.1 x101.2.2) w103 (fun w104 => KeepK S88 w103 w104
        (LdsK TVK ⟨g2, 0, none⟩ w104 fun (x : TV) => StsK ⟨g1, 0, none⟩ (tvL x) w104 fun w2 => LdsK TVK ⟨g1, 0, none⟩ w2 fun (y : TV) => ∃ v : TV, tvA y = tvA v ∧ MT w m b i (coT d) v w2)))))))
       (StK ((⟨g2, 0, none⟩ : Addr).add 1) (.string (str nm)) w100 (fun w108 => KeepK S88 w100 w108 (RunK Tryz.prog (Instr.buildSlice 31 2 #[(0, tvA x89), (1, tvA x90)]) w108 (.v (.one .slc)) (fun (x109 : Option Addr × Nat × Nat) w110 => KeepK S88 w108 w110 (StK ((⟨g2, 0, none⟩ : Addr).add 3) (.slice x109.1 x109.2.1 x109.2.2) w110 (fun w111 => KeepK S88 w110 w111
        (LdsK TVK ⟨g2, 0, none⟩ w111 fun (x : TV) => StsK ⟨g1, 0, none⟩ (tvL x) w111 fun w2 => LdsK TVK ⟨g1, 0, none⟩ w2 fun (y : TV) => ∃ v : TV, tvA y = tvA v ∧ MT w m b i (coT d) v w2))))))))))))))))))) := fun nm hnm => by
      refine CallK.of (ihT S7.at_.mkr (by have := S7.at_.lo; omega) (by have := S7.at_.hi; omega)) ?_
      rintro _ w8 ⟨x, rfl, t, i8, hm, hno, hso, a8⟩
      refine ⟨x, rfl, ?_⟩
      have S8 := S7.go a8
      have hB7 := S7.B
      have hB8 := S8.B
      refine TB.put x fun g3 w9 hg3' t9 f9 => ?_
      refine DrewK.of fun w10 _ f10 => HoldK.of (outS b g1 g2) ?_
      have f910 := f9.trans f10
      have S10 := S8.keep0 f910
      refine ⟨by show g3 ≠ b ∧ g3 ≠ g1 ∧ g3 ≠ g2; omega, (t9.keep0 f10).ld ?_⟩
      refine CallK.of (ihT S10.at_.mkr (by have := S10.at_.lo; omega) (by have := S10.at_.hi; omega)) ?_
      rintro _ w11 ⟨y, rfl, t2, i11, hm2, hno2, hso2, a11⟩
      refine ⟨y, rfl, KeepK.on a11.fr out_b ?_⟩
      have S11 := S10.go a11
      have m11 : MadeL w4 w11 [trT t, trT t2] [x, y] := made2 (((hm.older hB7).keep0 f910).keep a11.fr fun k hk _ t => by have : k = b := t; omega) (hm2.older (by have := f910.size; omega))
      exact S11.labelled (by omega) hB (by show 2 ≤ 3; omega) m11 nm (t := .or nm t t2) rfl (by unfold nodesT; omega) ⟨hnm, hso, hso2⟩
    refine ifB.eq (fun _ => both [99, 104, 49] (by decide)) (fun _ => both ([99, 104] ++ Lib.itoa lb) (by simp; omega))
  have hk78 : ¬ (k = 7 ∨ k = 8) := fun t => by rw [hc.2 t] at e; cases e
  clear hc e
  refine JoinK.of (fun s w' => (s.1 = true ↔ k = 9 ∨ k = 10) ∧ w4 = w') ?_ ?_
  · exact ifB.eq (fun e => ⟨by simp [e], rfl⟩) (fun e => ⟨by simp [e], rfl⟩)
  rintro _ ⟨c, _⟩ _ ⟨hc, rfl⟩
  dsimp only at hc ⊢
  refine ifB.by (fun e => ?_) (fun e => ?_)
  · -- scale
    refine CallK.of (ihO S.at_.mkr (by omega) (by omega)) ?_
    rintro _ w5 ⟨x, rfl, o, i5, hm, hno, hso, a5⟩
    refine ⟨x, rfl, ?_⟩
    have S5 := S.go a5
    have hB5 := S5.B
    refine TB.put x fun g3 w6 hg3' t6 f6 => ?_
    refine DrewK.of fun w7 _ f7 => HoldK.of (outS b g1 g2) ?_
    have f67 := f6.trans f7
    have S7 := S5.keep0 f67
    refine ⟨by show g3 ≠ b ∧ g3 ≠ g1 ∧ g3 ≠ g2; omega, (t6.keep0 f7).ld ?_⟩
    refine CallK.of (ihT S7.at_.mkr (by have := S7.at_.lo; omega) (by have := S7.at_.hi; omega)) ?_
    rintro _ w8 ⟨y, rfl, t2, i8, hm2, hno2, hso2, a8⟩
    refine ⟨y, rfl, KeepK.on a8.fr out_b ?_⟩
    have S8 := S7.go a8
    have m8 : MadeL w4 w8 [trO o, trT t2] [x, y] := made2 ((hm.keep0 f67).keep a8.fr fun k hk _ t => by have : k = b := t; omega) (hm2.older (by have := f67.size; omega))
    exact S8.parts (by omega) hB (by show 2 ≤ 3; omega) m8 (t := .scale o t2) rfl (by unfold nodesT; omega) ⟨hso, hso2⟩
  clear hc e
  refine ifB.eq (fun e => ?_) (fun e => ?_)
  · -- when
    refine CallK.of (mn_spec S.at_.mkr (by omega) 8 (by omega)) ?_
    rintro _ w5 ⟨x8, rfl, hx80, hx88, a5⟩
    refine ⟨x8, rfl, ?_⟩
    have S5 := S.go a5
    have hB5 := S5.B
    refine CallK.of (ihT S5.at_.mkr (by have := S5.at_.lo; omega) (by have := S5.at_.hi; omega)) ?_
    rintro _ w6 ⟨x, rfl, t, i6, hm, hno, hso, a6⟩
    refine ⟨x, rfl, ?_⟩
    have S6 := S5.go a6
    refine tr_lit [x] (by show 1 ≤ 3; omega) fun u w7 hu hul f7 hf7 => ?_
    have S7 := S6.keep0 f7
    have m7 : MadeL w4 w7 [trT t] [x] := made1 ((hm.older hB5).keep0 f7)
    have hk : ∀ k, blkOf u k → ¬ only g2 k := fun k hk t => by have : k = g2 := t; have := hf7 k hk; have := S6.B; omega
    refine S7.t2.k 7 fun w8 t8 f8 => ?_
    have S8 := S7.set f8 t8
    have m8 := m7.set S7 f8
    refine S8.t2.n x8 fun w9 t9 f9 => ?_
    have S9 := S8.set f9 t9
    have m9 := m8.set S8 f9
    refine S9.t2.u u fun w10 t10 f10 => ?_
    have S10 := S9.set f10 t10
    have m10 := m9.set S9 f10
    exact S10.tell (by omega) hB (t := .when x8 t) (node_made 7 [] x8 (((hu.keep f8 hk).keep f9 hk).keep f10 hk) hul (fun k hk => by have := hf7 k hk; have := S6.B; omega) m10) (by unfold nodesT; omega) hso
  · -- if
    refine CallK.of (ihO S.at_.mkr (by omega) (by omega)) ?_
    rintro _ w5 ⟨x, rfl, o, i5, hm, hno, hso, a5⟩
    refine ⟨x, rfl, ?_⟩
    have S5 := S.go a5
    have hB5 := S5.B
    refine TB.put x fun g3 w6 hg3' t6 f6 => ?_
    have S6 := S5.keep0 f6
    have hB6 := S6.B
    refine CallK.of (ihT S6.at_.mkr (by have := S6.at_.lo; omega) (by have := S6.at_.hi; omega)) ?_
    rintro _ w7 ⟨y, rfl, t, i7, hm2, hno2, hso2, a7⟩
    refine ⟨y, rfl, ?_⟩
    have S7 := S6.go a7
    have hB7 := S7.B
    have hsz7 := a7.size
    refine TB.put y fun g4 w8 hg4 t8 f8 => ?_
    refine DrewK.of fun w9 _ f9 => HoldK.of (outS b g1 g2) ?_
    have f89 := f8.trans f9
    have S9 := S7.keep0 f89
    have hg3lt : g3 < w6.heap.size := lt_of_blk t6
    refine ⟨by show g3 ≠ b ∧ g3 ≠ g1 ∧ g3 ≠ g2; omega, ((t6.keep a7.fr (fun t => by have : g3 = b := t; omega)).keep0 f89).ld ?_⟩
    refine ⟨by show g4 ≠ b ∧ g4 ≠ g1 ∧ g4 ≠ g2; omega, (t8.keep0 f9).ld ?_⟩
    refine CallK.of (ihT S9.at_.mkr (by have := S9.at_.lo; omega) (by have := S9.at_.hi; omega)) ?_
    rintro _ w10 ⟨z, rfl, t2, i10, hm3, hno3, hso3, a10⟩
    refine ⟨z, rfl, KeepK.on a10.fr out_b ?_⟩
    have S10 := S9.go a10
    have hsz9 := f89.size
    have m10 : MadeL w4 w10 [trO o, trT t, trT t2] [x, y, z] := made3 ((((hm.keep0 f6).keep a7.fr fun k hk _ t => by have : k = b := t; omega).keep0 f89).keep a10.fr fun k hk _ t => by have : k = b := t; omega)
      (((hm2.older hB6).keep0 f89).keep a10.fr fun k hk _ t => by have : k = b := t; omega) (hm3.older (by omega))
    exact S10.parts (by omega) hB (by show 3 ≤ 3; omega) m10 (t := .cond o t t2) rfl (by unfold nodesT; omega) ⟨hso, hso2, hso3⟩

end Go.Proofs.YtbadiokobooliaaGreatDoor

/-! ### VcPlan -/
set_option linter.unusedVariables false
namespace Go.Proofs.YtbadiokobooliaaGreatDoor
namespace Vc
variable {P : Program}

abbrev PlV := (Option Addr × Nat × Nat) × (Option Addr × Nat × Nat) × Unit
def plA (p : PlV) : Value := .agg #[.slice p.1.1 p.1.2.1 p.1.2.2, .slice p.2.1.1 p.2.1.2.1 p.2.1.2.2]
/-- A plan that came in: its numbers, its words. -/
def IsPl (w : World) (p : PlV) : Prop := (∃ ns, IsInts .i64 w p.1.1 p.1.2.1 p.1.2.2 ns) ∧ ∃ ws, IsStrs w p.2.1.1 p.2.1.2.1 p.2.1.2.2 ws

theorem ints_of {H : Type} {enc : TypeId × Value → H} {w : World} {base : Nat} {held : Bool} {t e : TypeId} {fuel : Nat} {cs : List Value} {x : DataW H × List MemPlace} (ht : P.underlying t = some (.slice e)) (he : P.underlying e = some (.int .i64)) (hc : P.cellsOf e = 1)
    (h : DataW.trod enc P w base (fun _ => true) held fuel t cs = some x) : ∃ (u : Option Addr × Nat × Nat), cs = [.slice u.1 u.2.1 u.2.2] ∧ ∃ ns, IsInts .i64 w u.1 u.2.1 u.2.2 ns := by
  rcases Go.ChangeShapes.open_ints ht he hc h with ⟨hcs, _⟩ | ⟨a, l, c, zs, hcs, _, hl, hm, hz, _, hcell, hwz⟩
  · exact ⟨(none, 0, 0), hcs, [], .inl ⟨rfl, rfl, rfl, rfl⟩⟩
  · exact ⟨(some a, l, c), hcs, zs, .inr ⟨a, rfl, hl, hm, by simpa using hz, hcell, hwz⟩⟩
theorem strs_of {H : Type} {enc : TypeId × Value → H} {w : World} {base : Nat} {held : Bool} {t e : TypeId} {fuel : Nat} {cs : List Value} {x : DataW H × List MemPlace} (ht : P.underlying t = some (.slice e)) (he : P.underlying e = some .string) (hc : P.cellsOf e = 1)
    (h : DataW.trod enc P w base (fun _ => true) held fuel t cs = some x) : ∃ (u : Option Addr × Nat × Nat), cs = [.slice u.1 u.2.1 u.2.2] ∧ ∃ ws, IsStrs w u.1 u.2.1 u.2.2 ws := by
  rcases Go.ChangeShapes.open_strings ht he hc h with ⟨hcs, _⟩ | ⟨a, l, c, zs, hcs, _, hl, hm, hz, _, hcell, hwz⟩
  · exact ⟨(none, 0, 0), hcs, [], .inl ⟨rfl, rfl, rfl, rfl⟩⟩
  · exact ⟨(some a, l, c), hcs, zs, .inr ⟨a, rfl, hl, hm, by simpa using hz, hcell, hwz⟩⟩

theorem open_plan {H : Type} {enc : TypeId × Value → H} {w : World} {base : Nat} {held : Bool} {t t0 t1 e0 e1 : TypeId} {f0 f1 : Field} {fuel : Nat} {cs : List Value} {x : DataW H × List MemPlace}
    (ht : P.underlying t = some (.struct #[f0, f1])) (hf0 : f0.type = t0) (hf1 : f1.type = t1) (ho0 : f0.offset = 0) (ho1 : f1.offset = 1) (hc : P.cellsOf t = 2) (hc0 : P.cellsOf t0 = 1) (hc1 : P.cellsOf t1 = 1)
    (h0 : P.underlying t0 = some (.slice e0)) (h1 : P.underlying t1 = some (.slice e1)) (k0 : P.underlying e0 = some (.int .i64)) (k1 : P.underlying e1 = some .string) (d0 : P.cellsOf e0 = 1) (d1 : P.cellsOf e1 = 1)
    (h : DataW.trod enc P w base (fun _ => true) held fuel t cs = some x) : ∃ p : PlV, cs = [.slice p.1.1 p.1.2.1 p.1.2.2, .slice p.2.1.1 p.2.1.2.1 p.2.1.2.2] ∧ IsPl w p := by
  obtain ⟨y0, y1, n, _, hlen, g0, g1⟩ := Go.ChangeShapes.trod_struct2 ht h
  rw [hf0, ho0, hc0] at g0
  rw [hf1, ho1, hc1] at g1
  obtain ⟨u, hu, hi⟩ := ints_of h0 k0 d0 g0
  obtain ⟨v, hv, hs⟩ := strs_of h1 k1 d1 g1
  rw [hc] at hlen
  match cs, hlen with
  | [a, b], _ =>
    simp only [List.drop_zero, List.drop_succ_cons, List.take_succ_cons, List.take_zero, List.cons.injEq, and_true] at hu hv
    exact ⟨(u, v, ()), by rw [hu, hv], hi, hs⟩

end Vc
end Go.Proofs.YtbadiokobooliaaGreatDoor

/-! ### PlanSpec -/
set_option linter.unusedVariables false
set_option maxRecDepth 100000
namespace Go.Proofs.YtbadiokobooliaaGreatDoor
open Vc

theorem Vc.IsPl.keep0 {w w' : World} {p : PlV} (h : IsPl w p) (f : Fr none1 w w') : IsPl w' p := by
  obtain ⟨⟨ns, h1⟩, ws, h2⟩ := h
  exact ⟨⟨ns, IsInts.keep h1 f fun _ _ _ t => t⟩, ws, IsStrs.keep h2 f fun _ _ _ t => t⟩

/-- A new maker of a plan. -/
theorem maker_new {w : World} {p : PlV} (h : IsPl w p) (l : Int) {K : Nat → World → Prop} (k : ∀ g w', w.heap.size = g → IsMk w' (g + 1) g 0 → Fr none1 w w' → K g w') :
    NewK (.cells #[.slice p.1.1 p.1.2.1 p.1.2.2, .slice p.2.1.1 p.2.1.2.1 p.2.1.2.2, .int .i64 0, .int .i64 l, .int .i64 0] 227) w K :=
  NewK.of fun g w1 hg hb f hs => by
    obtain ⟨⟨ns, h1⟩, ws, h2⟩ := h
    refine k g w1 hg ⟨⟨p.1, p.2.1, l, 0, ns, ws, hb, IsInts.keep h1 f fun _ _ _ t => t, IsStrs.keep h2 f fun _ _ _ t => t, fun k hc hk => ?_, fun k hc hk => ?_⟩, by omega, by omega⟩ f
    · have := IsInts.blk h1 hc hk; omega
    · have := IsStrs.blk h2 hc hk; omega

theorem contract_spec {w : World} {p : PlV} (h : IsPl w p) : Ret Tryz.prog 87 #[plA p] w fun r w' => ∃ (v : TV) (t : Tm), r = tvA v ∧ Made w w' (trT t) v ∧ nodesT t ≤ 2000 ∧ shortT t ∧ Fr none1 w w' := by
  refine c87 p w _ ?_
  unfold C87
  refine NewK.of fun g1 w1 hg1 hb1 f1 _ => ?_
  refine TB.new fun g2 w2 hg2 t2 f2 hs2 => ?_
  refine LdsK.blk (cks := [.slc, .slc]) (x := p) (f2.keep0 hb1) ?_
  have f12 := f1.trans f2
  refine maker_new (h.keep0 f12) 24 fun g3 w3 hg3 hmk f3 => ?_
  refine CallK.of (mterm_spec 5 hmk 5 (by omega) (by omega) (by omega) (by omega) (by show (0 : Int) + ((1678 : Nat) : Int) ≤ _; omega)) ?_
  rintro _ w4 ⟨v, rfl, t, i4, hm, hn, hs, a4⟩
  refine ⟨v, rfl, ?_⟩
  have hz12 := f12.size
  have hz3 := f3.size
  have hn : nodesT t ≤ 1678 := hn
  have t4 := (t2.keep0 f3).keep a4.fr (fun t => by have : g2 = g3 := t; omega)
  have hg2lt : g2 < w3.heap.size := by have := lt_of_blk t2; omega
  refine StsK.blk (cs := tvL _) (vs := tvL v) t4 rfl rfl fun w5 hb5 f5 _ => LdsK.blk (cks := TVK) (x := v) hb5 ?_
  refine ⟨v, t, rfl, (hm.keep f5 fun k hk _ t => by have : k = g2 := t; omega).older (by omega), by omega, hs, ?_⟩
  have := f1.size
  exact ((f12.trans f3).fresh a4.fr (by omega)).fresh f5 (by omega)

/-- The contract of which all is known: usd. -/
theorem usd_right : checkT (.one [117, 115, 100]) = 0 := by decide +kernel

theorem right_spec {w : World} {p : PlV} (h : IsPl w p) : Ret Tryz.prog 86 #[plA p] w fun r w' => ∃ (v : TV) (t : Tm), r = tvA v ∧ Made w w' (trT t) v ∧ checkT t = 0 ∧ shortT t ∧ Fr none1 w w' := by
  refine c86 p w _ ?_
  unfold C86
  refine NewK.of fun g1 w1 hg1 hb1 f1 _ => ?_
  refine TB.new fun g2 w2 hg2 t2 f2 hs2 => ?_
  refine LdsK.blk (cks := [.slc, .slc]) (x := p) (f2.keep0 hb1) ?_
  have f12 := f1.trans f2
  have hz1 := f1.size
  refine CallK.of (contract_spec (h.keep0 f12)) ?_
  rintro _ w3 ⟨v, t, rfl, hm, hn, hs, f3⟩
  refine ⟨v, rfl, ?_⟩
  have hz3 := f3.size
  refine TB.put v fun g4 w4 hg4 t4 f4 => t4.ld ?_
  have hz4 := f4.size
  have hm4 := hm.keep0 f4
  have hcn := cnt_trT t
  refine CallK.of (rcheck_spec (trT t) false (by omega) (short_trT t hs) hm4 (fun k hk => hk.2)) ?_
  rintro _ w5 ⟨rfl, f5⟩
  refine ⟨_, rfl, ?_⟩
  have f35 := (f3.trans f4).trans f5
  have t25 := t2.keep0 f35
  have hg2lt : g2 < w2.heap.size := lt_of_blk t2
  rw [check_trT]
  have fin : ∀ {t : Tm} {v : TV}, Made w2 w5 (trT t) v → checkT t = 0 → shortT t → StsK ⟨g2, 0, none⟩ (tvL v) w5 fun w6 => LdsK TVK ⟨g2, 0, none⟩ w6 fun (x : TV) => ∃ (v : TV) (t : Tm), tvA x = tvA v ∧ Made w w6 (trT t) v ∧ checkT t = 0 ∧ shortT t ∧ Fr none1 w w6 := fun {t v} hm hc hs => by
    refine StsK.blk (cs := tvL _) (vs := tvL v) t25 rfl rfl fun w6 hb6 f6 _ => LdsK.blk (cks := TVK) (x := v) hb6 ?_
    exact ⟨v, t, rfl, (hm.keep f6 fun k hk _ t => by have : k = g2 := t; omega).older (by omega), hc, hs, (f12.trans f35).fresh f6 (by omega)⟩
  refine ifB.ne (fun hc => ?_) (fun hc => ?_)
  · exact fin (t := .one [117, 115, 100]) (v := (2, str [117, 115, 100], 0, (none, 0, 0), ())) (leaf_made _ _ 2 [117, 115, 100] 0) usd_right (by show (3 : Nat) ≤ 1000; omega)
  · exact (t4.keep0 f5).ld (fin (hm4.keep0 f5) hc hs)

end Go.Proofs.YtbadiokobooliaaGreatDoor

/-! ### CWriteG -/
namespace Go.Proofs.YtbadiokobooliaaGreatDoor
open Vc
set_option maxRecDepth 100000
set_option linter.unusedVariables false
/-- handfast/write.call -/
def C148 (p0 : ByteArray) (p1 : Option Addr) (p1l p1c : Nat) (w : World) (K : Value → World → Prop) : Prop :=
  CatK p0 (⟨#[40]⟩ : ByteArray) (CallK Tryz.prog 173 #[.slice p1 p1l p1c, .string (⟨#[44]⟩ : ByteArray)] w (.v (.one .str)) (fun (x1 : ByteArray) w2 => CatK (p0 ++ (⟨#[40]⟩ : ByteArray)) x1 (CatK ((p0 ++ (⟨#[40]⟩ : ByteArray)) ++ x1) (⟨#[41]⟩ : ByteArray) (K (.string (((p0 ++ (⟨#[40]⟩ : ByteArray)) ++ x1) ++ (⟨#[41]⟩ : ByteArray))) w2))))
def pl148 : Plan := .auto
theorem e148 (p0 : ByteArray) (p1 : Option Addr) (p1l p1c : Nat) (w : World) (K : Value → World → Prop) : vcFunc Tryz.prog Tryz.f148 pl148 [.string p0, .slice p1 p1l p1c] w K = C148 p0 p1 p1l p1c w K := by kernel_rfl
theorem c148 (p0 : ByteArray) (p1 : Option Addr) (p1l p1c : Nat) (w : World) (K : Value → World → Prop) (h : C148 p0 p1 p1l p1c w K) : Ret Tryz.prog 148 #[.string p0, .slice p1 p1l p1c] w K := by
  rw [← e148] at h
  exact vcFunc_sound (by kernel_rfl) Tryz.func148 h

/-- handfast/write.number -/
def C149 (p0 : Value) (w : World) (K : Value → World → Prop) : Prop :=
  TaK p0 174 (.agg [.int .i64]) (fun (x1 : Int × Unit) => NewK (.cells #[.int .i64 0] 174) w (fun g2 w3 => StsK (⟨g2, 0, none⟩ : Addr) [.int .i64 x1.1] w3 (fun w4 => LdK (.int .i64) ((⟨g2, 0, none⟩ : Addr).add 0) w4 (fun (x5 : Int) => CallK Tryz.prog 150 #[.int .i64 x5] w4 (.v (.one .str)) (fun (x6 : ByteArray) w7 => K (.string x6) w7)))))
  (TaK p0 251 (.agg [.str]) (fun (x8 : ByteArray × Unit) => NewK (.cells #[.string (⟨#[]⟩ : ByteArray)] 251) w (fun g9 w10 => StsK (⟨g9, 0, none⟩ : Addr) [.string x8.1] w10 (fun w11 => LdK .str ((⟨g9, 0, none⟩ : Addr).add 0) w11 (fun (x12 : ByteArray) => RunK Tryz.prog (Instr.buildSlice 23 1 #[(0, .string x12)]) w11 (.v (.one .slc)) (fun (x13 : Option Addr × Nat × Nat) w14 => CallK Tryz.prog 148 #[.string (⟨#[102, 105, 120]⟩ : ByteArray), .slice x13.1 x13.2.1 x13.2.2] w14 (.v (.one .str)) (fun (x15 : ByteArray) w16 => K (.string x15) w16))))))
  (TaK p0 253 (.agg [.raw, .raw]) (fun (x17 : Value × Value × Unit) => NewK (.cells #[.nilIface, .nilIface] 253) w (fun g18 w19 => StsK (⟨g18, 0, none⟩ : Addr) [x17.1, x17.2.1] w19 (fun w20 => DrewK w20 (fun w21 => HoldK (fun S22 => InK S22 ((⟨g18, 0, none⟩ : Addr).add 0) (LdK .raw ((⟨g18, 0, none⟩ : Addr).add 0) w21 (fun (x23 : Value) => InK S22 ((⟨g18, 0, none⟩ : Addr).add 1) (LdK .raw ((⟨g18, 0, none⟩ : Addr).add 1) w21 (fun (x24 : Value) => CallK Tryz.prog 149 #[x23] w21 (.v (.one .str)) (fun (x25 : ByteArray) w26 => KeepK S22 w21 w26 (CallK Tryz.prog 149 #[x24] w26 (.v (.one .str)) (fun (x27 : ByteArray) w28 => KeepK S22 w26 w28 (RunK Tryz.prog (Instr.buildSlice 23 2 #[(0, .string x25), (1, .string x27)]) w28 (.v (.one .slc)) (fun (x29 : Option Addr × Nat × Nat) w30 => KeepK S22 w28 w30 (CallK Tryz.prog 148 #[.string (⟨#[97, 100, 100]⟩ : ByteArray), .slice x29.1 x29.2.1 x29.2.2] w30 (.v (.one .str)) (fun (x31 : ByteArray) w32 => KeepK S22 w30 w32 (K (.string x31) w32)))))))))))))))))
  (TaK p0 255 (.agg [.raw]) (fun (x33 : Value × Unit) => NewK (.cells #[.nilIface] 255) w (fun g34 w35 => StsK (⟨g34, 0, none⟩ : Addr) [x33.1] w35 (fun w36 => LdK .raw ((⟨g34, 0, none⟩ : Addr).add 0) w36 (fun (x37 : Value) => CallK Tryz.prog 149 #[x37] w36 (.v (.one .str)) (fun (x38 : ByteArray) w39 => RunK Tryz.prog (Instr.buildSlice 23 1 #[(0, .string x38)]) w39 (.v (.one .slc)) (fun (x40 : Option Addr × Nat × Nat) w41 => CallK Tryz.prog 148 #[.string (⟨#[110, 101, 103]⟩ : ByteArray), .slice x40.1 x40.2.1 x40.2.2] w41 (.v (.one .str)) (fun (x42 : ByteArray) w43 => K (.string x42) w43)))))))
  (TaK p0 256 (.agg [.raw, .raw]) (fun (x44 : Value × Value × Unit) => NewK (.cells #[.nilIface, .nilIface] 256) w (fun g45 w46 => StsK (⟨g45, 0, none⟩ : Addr) [x44.1, x44.2.1] w46 (fun w47 => DrewK w47 (fun w48 => HoldK (fun S49 => InK S49 ((⟨g45, 0, none⟩ : Addr).add 0) (LdK .raw ((⟨g45, 0, none⟩ : Addr).add 0) w48 (fun (x50 : Value) => InK S49 ((⟨g45, 0, none⟩ : Addr).add 1) (LdK .raw ((⟨g45, 0, none⟩ : Addr).add 1) w48 (fun (x51 : Value) => CallK Tryz.prog 149 #[x50] w48 (.v (.one .str)) (fun (x52 : ByteArray) w53 => KeepK S49 w48 w53 (CallK Tryz.prog 149 #[x51] w53 (.v (.one .str)) (fun (x54 : ByteArray) w55 => KeepK S49 w53 w55 (RunK Tryz.prog (Instr.buildSlice 23 2 #[(0, .string x52), (1, .string x54)]) w55 (.v (.one .slc)) (fun (x56 : Option Addr × Nat × Nat) w57 => KeepK S49 w55 w57 (CallK Tryz.prog 148 #[.string (⟨#[109, 117, 108]⟩ : ByteArray), .slice x56.1 x56.2.1 x56.2.2] w57 (.v (.one .str)) (fun (x58 : ByteArray) w59 => KeepK S49 w57 w59 (K (.string x58) w59)))))))))))))))))
  (TaK p0 257 (.agg [.raw, .raw]) (fun (x60 : Value × Value × Unit) => NewK (.cells #[.nilIface, .nilIface] 257) w (fun g61 w62 => StsK (⟨g61, 0, none⟩ : Addr) [x60.1, x60.2.1] w62 (fun w63 => DrewK w63 (fun w64 => HoldK (fun S65 => InK S65 ((⟨g61, 0, none⟩ : Addr).add 0) (LdK .raw ((⟨g61, 0, none⟩ : Addr).add 0) w64 (fun (x66 : Value) => InK S65 ((⟨g61, 0, none⟩ : Addr).add 1) (LdK .raw ((⟨g61, 0, none⟩ : Addr).add 1) w64 (fun (x67 : Value) => CallK Tryz.prog 149 #[x66] w64 (.v (.one .str)) (fun (x68 : ByteArray) w69 => KeepK S65 w64 w69 (CallK Tryz.prog 149 #[x67] w69 (.v (.one .str)) (fun (x70 : ByteArray) w71 => KeepK S65 w69 w71 (RunK Tryz.prog (Instr.buildSlice 23 2 #[(0, .string x68), (1, .string x70)]) w71 (.v (.one .slc)) (fun (x72 : Option Addr × Nat × Nat) w73 => KeepK S65 w71 w73 (CallK Tryz.prog 148 #[.string (⟨#[109, 97, 120]⟩ : ByteArray), .slice x72.1 x72.2.1 x72.2.2] w73 (.v (.one .str)) (fun (x74 : ByteArray) w75 => KeepK S65 w73 w75 (K (.string x74) w75))))))))))))))))) False)))))
def pl149 : Plan := (.seq .auto (.seq (.seq .auto (.block (.seq .auto (.cond .auto (.seq .auto (.cond .auto (.seq .auto (.cond (.seq .auto (.seq (.held (.soft 0 (.soft 1 (.soft 3 (.soft 4 (.pick 2 (.pick 5 (.pick 6 (.pick 7 (.soft 8 .done) .stop) .stop) .stop) .stop)))))) .auto)) (.seq .auto (.cond .auto (.seq .auto (.cond (.seq .auto (.seq (.held (.soft 0 (.soft 1 (.soft 3 (.soft 4 (.pick 2 (.pick 5 (.pick 6 (.pick 7 (.soft 8 .done) .stop) .stop) .stop) .stop)))))) .auto)) .auto)))))))))))) (.seq .auto (.seq (.held (.soft 0 (.soft 1 (.soft 3 (.soft 4 (.pick 2 (.pick 5 (.pick 6 (.pick 7 (.soft 8 .done) .stop) .stop) .stop) .stop)))))) .auto))))
theorem e149 (p0 : Value) (w : World) (K : Value → World → Prop) : vcFunc Tryz.prog Tryz.f149 pl149 [p0] w K = C149 p0 w K := by kernel_rfl
theorem c149 (p0 : Value) (w : World) (K : Value → World → Prop) (h : C149 p0 w K) : Ret Tryz.prog 149 #[p0] w K := by
  rw [← e149] at h
  exact vcFunc_sound (by kernel_rfl) Tryz.func149 h

/-- handfast/write.contract -/
def C111 (p0 : Value) (w : World) (K : Value → World → Prop) : Prop :=
  TaK p0 192 (.agg []) (fun (x1 : Unit) => NewK (.cells #[] 192) w (fun g2 w3 => StsK (⟨g2, 0, none⟩ : Addr) [] w3 (fun w4 => K (.string (⟨#[122, 101, 114, 111]⟩ : ByteArray)) w4)))
  (TaK p0 168 (.agg [.str]) (fun (x5 : ByteArray × Unit) => NewK (.cells #[.string (⟨#[]⟩ : ByteArray)] 168) w (fun g6 w7 => StsK (⟨g6, 0, none⟩ : Addr) [.string x5.1] w7 (fun w8 => LdK .str ((⟨g6, 0, none⟩ : Addr).add 0) w8 (fun (x9 : ByteArray) => RunK Tryz.prog (Instr.buildSlice 23 1 #[(0, .string x9)]) w8 (.v (.one .slc)) (fun (x10 : Option Addr × Nat × Nat) w11 => CallK Tryz.prog 148 #[.string (⟨#[111, 110, 101]⟩ : ByteArray), .slice x10.1 x10.2.1 x10.2.2] w11 (.v (.one .str)) (fun (x12 : ByteArray) w13 => K (.string x12) w13))))))
  (TaK p0 194 (.agg [.raw]) (fun (x14 : Value × Unit) => NewK (.cells #[.nilIface] 194) w (fun g15 w16 => StsK (⟨g15, 0, none⟩ : Addr) [x14.1] w16 (fun w17 => LdK .raw ((⟨g15, 0, none⟩ : Addr).add 0) w17 (fun (x18 : Value) => CallK Tryz.prog 111 #[x18] w17 (.v (.one .str)) (fun (x19 : ByteArray) w20 => RunK Tryz.prog (Instr.buildSlice 23 1 #[(0, .string x19)]) w20 (.v (.one .slc)) (fun (x21 : Option Addr × Nat × Nat) w22 => CallK Tryz.prog 148 #[.string (⟨#[103, 105, 118, 101]⟩ : ByteArray), .slice x21.1 x21.2.1 x21.2.2] w22 (.v (.one .str)) (fun (x23 : ByteArray) w24 => K (.string x23) w24)))))))
  (TaK p0 196 (.agg [.raw, .raw]) (fun (x25 : Value × Value × Unit) => NewK (.cells #[.nilIface, .nilIface] 196) w (fun g26 w27 => StsK (⟨g26, 0, none⟩ : Addr) [x25.1, x25.2.1] w27 (fun w28 => DrewK w28 (fun w29 => HoldK (fun S30 => InK S30 ((⟨g26, 0, none⟩ : Addr).add 0) (LdK .raw ((⟨g26, 0, none⟩ : Addr).add 0) w29 (fun (x31 : Value) => InK S30 ((⟨g26, 0, none⟩ : Addr).add 1) (LdK .raw ((⟨g26, 0, none⟩ : Addr).add 1) w29 (fun (x32 : Value) => CallK Tryz.prog 111 #[x31] w29 (.v (.one .str)) (fun (x33 : ByteArray) w34 => KeepK S30 w29 w34 (CallK Tryz.prog 111 #[x32] w34 (.v (.one .str)) (fun (x35 : ByteArray) w36 => KeepK S30 w34 w36 (RunK Tryz.prog (Instr.buildSlice 23 2 #[(0, .string x33), (1, .string x35)]) w36 (.v (.one .slc)) (fun (x37 : Option Addr × Nat × Nat) w38 => KeepK S30 w36 w38 (CallK Tryz.prog 148 #[.string (⟨#[97, 110, 100]⟩ : ByteArray), .slice x37.1 x37.2.1 x37.2.2] w38 (.v (.one .str)) (fun (x39 : ByteArray) w40 => KeepK S30 w38 w40 (K (.string x39) w40)))))))))))))))))
  (TaK p0 199 (.agg [.str, .raw, .raw]) (fun (x41 : ByteArray × Value × Value × Unit) => NewK (.cells #[.string (⟨#[]⟩ : ByteArray), .nilIface, .nilIface] 199) w (fun g42 w43 => StsK (⟨g42, 0, none⟩ : Addr) [.string x41.1, x41.2.1, x41.2.2.1] w43 (fun w44 => DrewK w44 (fun w45 => HoldK (fun S46 => InK S46 ((⟨g42, 0, none⟩ : Addr).add 0) (LdK .str ((⟨g42, 0, none⟩ : Addr).add 0) w45 (fun (x47 : ByteArray) => InK S46 ((⟨g42, 0, none⟩ : Addr).add 1) (LdK .raw ((⟨g42, 0, none⟩ : Addr).add 1) w45 (fun (x48 : Value) => InK S46 ((⟨g42, 0, none⟩ : Addr).add 2) (LdK .raw ((⟨g42, 0, none⟩ : Addr).add 2) w45 (fun (x49 : Value) => CallK Tryz.prog 111 #[x48] w45 (.v (.one .str)) (fun (x50 : ByteArray) w51 => KeepK S46 w45 w51 (CallK Tryz.prog 111 #[x49] w51 (.v (.one .str)) (fun (x52 : ByteArray) w53 => KeepK S46 w51 w53 (RunK Tryz.prog (Instr.buildSlice 23 3 #[(0, .string x47), (1, .string x50), (2, .string x52)]) w53 (.v (.one .slc)) (fun (x54 : Option Addr × Nat × Nat) w55 => KeepK S46 w53 w55 (CallK Tryz.prog 148 #[.string (⟨#[111, 114]⟩ : ByteArray), .slice x54.1 x54.2.1 x54.2.2] w55 (.v (.one .str)) (fun (x56 : ByteArray) w57 => KeepK S46 w55 w57 (K (.string x56) w57)))))))))))))))))))
  (TaK p0 202 (.agg [.raw, .raw]) (fun (x58 : Value × Value × Unit) => NewK (.cells #[.nilIface, .nilIface] 202) w (fun g59 w60 => StsK (⟨g59, 0, none⟩ : Addr) [x58.1, x58.2.1] w60 (fun w61 => DrewK w61 (fun w62 => HoldK (fun S63 => InK S63 ((⟨g59, 0, none⟩ : Addr).add 0) (LdK .raw ((⟨g59, 0, none⟩ : Addr).add 0) w62 (fun (x64 : Value) => InK S63 ((⟨g59, 0, none⟩ : Addr).add 1) (LdK .raw ((⟨g59, 0, none⟩ : Addr).add 1) w62 (fun (x65 : Value) => CallK Tryz.prog 149 #[x64] w62 (.v (.one .str)) (fun (x66 : ByteArray) w67 => KeepK S63 w62 w67 (CallK Tryz.prog 111 #[x65] w67 (.v (.one .str)) (fun (x68 : ByteArray) w69 => KeepK S63 w67 w69 (RunK Tryz.prog (Instr.buildSlice 23 2 #[(0, .string x66), (1, .string x68)]) w69 (.v (.one .slc)) (fun (x70 : Option Addr × Nat × Nat) w71 => KeepK S63 w69 w71 (CallK Tryz.prog 148 #[.string (⟨#[115, 99, 97, 108, 101]⟩ : ByteArray), .slice x70.1 x70.2.1 x70.2.2] w71 (.v (.one .str)) (fun (x72 : ByteArray) w73 => KeepK S63 w71 w73 (K (.string x72) w73)))))))))))))))))
  (TaK p0 205 (.agg [.int .i64, .raw]) (fun (x74 : Int × Value × Unit) => NewK (.cells #[.int .i64 0, .nilIface] 205) w (fun g75 w76 => StsK (⟨g75, 0, none⟩ : Addr) [.int .i64 x74.1, x74.2.1] w76 (fun w77 => DrewK w77 (fun w78 => HoldK (fun S79 => InK S79 ((⟨g75, 0, none⟩ : Addr).add 0) (LdK (.int .i64) ((⟨g75, 0, none⟩ : Addr).add 0) w78 (fun (x80 : Int) => InK S79 ((⟨g75, 0, none⟩ : Addr).add 1) (LdK .raw ((⟨g75, 0, none⟩ : Addr).add 1) w78 (fun (x81 : Value) => CallK Tryz.prog 150 #[.int .i64 x80] w78 (.v (.one .str)) (fun (x82 : ByteArray) w83 => KeepK S79 w78 w83 (CallK Tryz.prog 111 #[x81] w83 (.v (.one .str)) (fun (x84 : ByteArray) w85 => KeepK S79 w83 w85 (RunK Tryz.prog (Instr.buildSlice 23 2 #[(0, .string x82), (1, .string x84)]) w85 (.v (.one .slc)) (fun (x86 : Option Addr × Nat × Nat) w87 => KeepK S79 w85 w87 (CallK Tryz.prog 148 #[.string (⟨#[119, 104, 101, 110]⟩ : ByteArray), .slice x86.1 x86.2.1 x86.2.2] w87 (.v (.one .str)) (fun (x88 : ByteArray) w89 => KeepK S79 w87 w89 (K (.string x88) w89)))))))))))))))))
  (TaK p0 207 (.agg [.raw, .raw, .raw]) (fun (x90 : Value × Value × Value × Unit) => NewK (.cells #[.nilIface, .nilIface, .nilIface] 207) w (fun g91 w92 => StsK (⟨g91, 0, none⟩ : Addr) [x90.1, x90.2.1, x90.2.2.1] w92 (fun w93 => DrewK w93 (fun w94 => HoldK (fun S95 => InK S95 ((⟨g91, 0, none⟩ : Addr).add 0) (LdK .raw ((⟨g91, 0, none⟩ : Addr).add 0) w94 (fun (x96 : Value) => InK S95 ((⟨g91, 0, none⟩ : Addr).add 1) (LdK .raw ((⟨g91, 0, none⟩ : Addr).add 1) w94 (fun (x97 : Value) => InK S95 ((⟨g91, 0, none⟩ : Addr).add 2) (LdK .raw ((⟨g91, 0, none⟩ : Addr).add 2) w94 (fun (x98 : Value) => CallK Tryz.prog 149 #[x96] w94 (.v (.one .str)) (fun (x99 : ByteArray) w100 => KeepK S95 w94 w100 (CallK Tryz.prog 111 #[x97] w100 (.v (.one .str)) (fun (x101 : ByteArray) w102 => KeepK S95 w100 w102 (CallK Tryz.prog 111 #[x98] w102 (.v (.one .str)) (fun (x103 : ByteArray) w104 => KeepK S95 w102 w104 (RunK Tryz.prog (Instr.buildSlice 23 3 #[(0, .string x99), (1, .string x101), (2, .string x103)]) w104 (.v (.one .slc)) (fun (x105 : Option Addr × Nat × Nat) w106 => KeepK S95 w104 w106 (CallK Tryz.prog 148 #[.string (⟨#[105, 102]⟩ : ByteArray), .slice x105.1 x105.2.1 x105.2.2] w106 (.v (.one .str)) (fun (x107 : ByteArray) w108 => KeepK S95 w106 w108 (K (.string x107) w108))))))))))))))))))))) False)))))))
def pl111 : Plan := (.seq .auto (.seq (.seq .auto (.block (.seq .auto (.cond .auto (.seq .auto (.cond .auto (.seq .auto (.cond .auto (.seq .auto (.cond (.seq .auto (.seq (.held (.soft 0 (.soft 1 (.soft 3 (.soft 4 (.pick 2 (.pick 5 (.pick 6 (.pick 7 (.soft 8 .done) .stop) .stop) .stop) .stop)))))) .auto)) (.seq .auto (.cond (.seq .auto (.seq (.held (.soft 0 (.soft 1 (.soft 2 (.soft 3 (.soft 5 (.soft 6 (.pick 4 (.pick 7 (.pick 8 (.pick 9 (.soft 10 .done) .stop) .stop) .stop) .stop)))))))) .auto)) (.seq .auto (.cond (.seq .auto (.seq (.held (.soft 0 (.soft 1 (.soft 3 (.soft 4 (.pick 2 (.pick 5 (.pick 6 (.pick 7 (.soft 8 .done) .stop) .stop) .stop) .stop)))))) .auto)) (.seq .auto (.cond (.seq .auto (.seq (.held (.soft 0 (.soft 1 (.soft 3 (.soft 4 (.pick 2 (.pick 5 (.pick 6 (.pick 7 (.soft 8 .done) .stop) .stop) .stop) .stop)))))) .auto)) .auto)))))))))))))))) (.seq .auto (.seq (.held (.soft 0 (.soft 1 (.soft 3 (.soft 4 (.soft 6 (.soft 7 (.pick 2 (.pick 5 (.pick 8 (.pick 9 (.pick 10 (.soft 11 .done) .stop) .stop) .stop) .stop) .stop)))))))) .auto))))
theorem e111 (p0 : Value) (w : World) (K : Value → World → Prop) : vcFunc Tryz.prog Tryz.f111 pl111 [p0] w K = C111 p0 w K := by kernel_rfl
theorem c111 (p0 : Value) (w : World) (K : Value → World → Prop) (h : C111 p0 w K) : Ret Tryz.prog 111 #[p0] w K := by
  rw [← e111] at h
  exact vcFunc_sound (by kernel_rfl) Tryz.func111 h

/-- handfast/write.told -/
def C110 (p0 : ByteArray) (w : World) (K : Value → World → Prop) : Prop :=
  ifB (decide ((p0.size : Int) > 1000))
  (K (.tuple #[.string (⟨#[]⟩ : ByteArray), .int .i64 5]) w)
  (K (.tuple #[.string p0, .int .i64 0]) w)
def pl110 : Plan := .auto
theorem e110 (p0 : ByteArray) (w : World) (K : Value → World → Prop) : vcFunc Tryz.prog Tryz.f110 pl110 [.string p0] w K = C110 p0 w K := by kernel_rfl
theorem c110 (p0 : ByteArray) (w : World) (K : Value → World → Prop) (h : C110 p0 w K) : Ret Tryz.prog 110 #[.string p0] w K := by
  rw [← e110] at h
  exact vcFunc_sound (by kernel_rfl) Tryz.func110 h

/-- handfast/write.Term -/
def C71 (p0 : Value) (w : World) (K : Value → World → Prop) : Prop :=
  CallK Tryz.prog 109 #[p0] w (.v (.one (.int .i64))) (fun (x1 : Int) w2 => ifB (x1 != 0)
  (K (.tuple #[.string (⟨#[]⟩ : ByteArray), .int .i64 x1]) w2)
  (CallK Tryz.prog 111 #[p0] w2 (.v (.one .str)) (fun (x3 : ByteArray) w4 => CallK Tryz.prog 110 #[.string x3] w4 (.tup [.one .str, .one (.int .i64)]) (fun (x5 : ByteArray × Int × Unit) w6 => K (.tuple #[.string x5.1, .int .i64 x5.2.1]) w6))))
def pl71 : Plan := .auto
theorem e71 (p0 : Value) (w : World) (K : Value → World → Prop) : vcFunc Tryz.prog Tryz.f71 pl71 [p0] w K = C71 p0 w K := by kernel_rfl
theorem c71 (p0 : Value) (w : World) (K : Value → World → Prop) (h : C71 p0 w K) : Ret Tryz.prog 71 #[p0] w K := by
  rw [← e71] at h
  exact vcFunc_sound (by kernel_rfl) Tryz.func71 h

end Go.Proofs.YtbadiokobooliaaGreatDoor

/-! ### WriteSpec -/
set_option linter.unusedVariables false
set_option maxRecDepth 100000
namespace Go.Proofs.YtbadiokobooliaaGreatDoor
open Vc

/-! ### In plain Lean -/
def callL (wd : List UInt8) (xs : List (List UInt8)) : List UInt8 := wd ++ [40] ++ Lib.join xs [44] ++ [41]
def numO : Ob → List UInt8
  | .none => []
  | .const n => Lib.itoa n
  | .fix s => callL [102, 105, 120] [s]
  | .add l r => callL [97, 100, 100] [numO l, numO r]
  | .neg o => callL [110, 101, 103] [numO o]
  | .mul l r => callL [109, 117, 108] [numO l, numO r]
  | .max l r => callL [109, 97, 120] [numO l, numO r]
def conT : Tm → List UInt8
  | .none => []
  | .zero => [122, 101, 114, 111]
  | .one s => callL [111, 110, 101] [s]
  | .give t => callL [103, 105, 118, 101] [conT t]
  | .and l r => callL [97, 110, 100] [conT l, conT r]
  | .or s l r => callL [111, 114] [s, conT l, conT r]
  | .scale o t => callL [115, 99, 97, 108, 101] [numO o, conT t]
  | .when d t => callL [119, 104, 101, 110] [Lib.itoa d, conT t]
  | .cond o l r => callL [105, 102] [numO o, conT l, conT r]
def writeT (t : Tm) : List UInt8 × Int := if checkT t ≠ 0 then ([], checkT t) else if 1000 < (conT t).length then ([], 5) else (conT t, 0)
def writeO (o : Ob) : List UInt8 × Int := if checkO o ≠ 0 then ([], checkO o) else if 1000 < (numO o).length then ([], 5) else (numO o, 0)

theorem join1 (a : List UInt8) : Lib.join [a] [44] = a := Lib.join_one _ _
theorem join2 (a b : List UInt8) : Lib.join [a, b] [44] = a ++ ([44] ++ b) := by rw [Lib.join_cons]; simp [Lib.joinTail]
theorem join3 (a b c : List UInt8) : Lib.join [a, b, c] [44] = a ++ ([44] ++ b ++ ([44] ++ c)) := by rw [Lib.join_cons]; simp [Lib.joinTail]
theorem call1_len (wd a : List UInt8) : (callL wd [a]).length = wd.length + a.length + 2 := by unfold callL; rw [join1]; simp; omega
theorem call2_len (wd a b : List UInt8) : (callL wd [a, b]).length = wd.length + a.length + b.length + 3 := by unfold callL; rw [join2]; simp; omega
theorem call3_len (wd a b c : List UInt8) : (callL wd [a, b, c]).length = wd.length + a.length + b.length + c.length + 4 := by unfold callL; rw [join3]; simp; omega

theorem decL_width4 (l : List UInt8) : (decL l).2 ≤ 4 := by
  simp only [decL, Utf8.decode]
  repeat' split
  all_goals simp
theorem runes_bytes : ∀ (n : Nat) (l : List UInt8), l.length ≤ n → l.length ≤ 4 * (runesL l).length
  | 0, l, h => by omega
  | n + 1, l, h => by
    by_cases hl : l = []
    · subst hl; simp
    · rw [runesL_step l hl, List.length_cons]
      have h1 := decL_width l
      have h4 := decL_width4 l
      have hd : (l.drop (decL l).2).length = l.length - (decL l).2 := List.length_drop
      have := runes_bytes n (l.drop (decL l).2) (by omega)
      omega
theorem nameF_len : ∀ (rs : List Int) (n : Nat), nameF n rs = true → rs = [] ∨ n + rs.length ≤ 12
  | [], _, _ => .inl rfl
  | r :: rs, n, h => by
    unfold nameF at h
    split at h
    · cases h
    split at h
    · cases h
    split at h
    · cases h
    rcases nameF_len rs (n + 1) h with rfl | t
    · simp; omega
    · simp only [List.length_cons]; omega
theorem nameL_len {s : List UInt8} (h : nameL s = true) : s.length ≤ 48 := by
  have hb := runes_bytes s.length s (Nat.le_refl _)
  rcases nameF_len _ _ h with t | t
  · rw [t, List.length_nil] at hb; omega
  · omega
theorem decDigits_len : ∀ (k u : Nat), u < 10 ^ (k + 1) → (Lib.decDigits u).length ≤ k + 1
  | 0, u, h => by rw [Lib.decDigits]; rw [dif_pos (by omega)]; simp
  | k + 1, u, h => by
    rw [Lib.decDigits]
    split
    · simp
    · rw [List.length_append]
      have := decDigits_len k (u / 10) (by rw [Nat.pow_succ] at h; omega)
      simp; omega
theorem itoa_len {n : Int} (h0 : -1000000000000 ≤ n) (h1 : n ≤ 1000000000000) : (Lib.itoa n).length ≤ 14 := by
  unfold Lib.itoa
  split
  · have := decDigits_len 12 n.natAbs (by omega)
    simp; omega
  · have := decDigits_len 12 n.toNat (by omega)
    omega
theorem validF_iff {n : Int} (h : validF n = true) : -1000000000000 ≤ n ∧ n ≤ 1000000000000 := by
  unfold validF at h
  simp only [Bool.and_eq_true, decide_eq_true_eq] at h
  exact h
theorem numO_len (o : Ob) (h : formO o = true) : (numO o).length ≤ 100 * nodesO o := by
  induction o with
  | none => cases h
  | const n => have := validF_iff h; have := itoa_len this.1 this.2; unfold numO nodesO; omega
  | fix s => have := nameL_len h; unfold numO nodesO; rw [call1_len]; simp; omega
  | neg o ih => have := ih h; unfold numO nodesO; rw [call1_len]; simp; omega
  | add l r a b => simp only [formO, Bool.and_eq_true] at h; have := a h.1; have := b h.2; unfold numO nodesO; rw [call2_len]; simp; omega
  | mul l r a b => simp only [formO, Bool.and_eq_true] at h; have := a h.1; have := b h.2; unfold numO nodesO; rw [call2_len]; simp; omega
  | max l r a b => simp only [formO, Bool.and_eq_true] at h; have := a h.1; have := b h.2; unfold numO nodesO; rw [call2_len]; simp; omega
theorem conT_len (t : Tm) (h : formT t = true) : (conT t).length ≤ 100 * nodesT t := by
  induction t with
  | none => cases h
  | zero => decide
  | one s => have := nameL_len h; unfold conT nodesT; rw [call1_len]; simp; omega
  | give t ih => have := ih h; unfold conT nodesT; rw [call1_len]; simp; omega
  | and l r a b => simp only [formT, Bool.and_eq_true] at h; have := a h.1; have := b h.2; unfold conT nodesT; rw [call2_len]; simp; omega
  | or s l r a b => simp only [formT, Bool.and_eq_true] at h; have := nameL_len h.1; have := a h.2.1; have := b h.2.2; unfold conT nodesT; rw [call3_len]; simp; omega
  | scale o t ih => simp only [formT, Bool.and_eq_true] at h; have := numO_len o h.1; have := ih h.2; unfold conT nodesT; rw [call2_len]; simp; omega
  | when d t ih => simp only [formT, Bool.and_eq_true, decide_eq_true_eq] at h; have := itoa_len (n := d) (by omega) (by omega); have := ih h.2; unfold conT nodesT; rw [call2_len]; simp; omega
  | cond o l r a b => simp only [formT, Bool.and_eq_true] at h; have := numO_len o h.1; have := a h.2.1; have := b h.2.2; unfold conT nodesT; rw [call3_len]; simp; omega

/-! ### What the functions do -/
/-- The table of powers of ten lies in the world. -/
def TabW (w : World) : Prop := Lib.TabIs Tryz.prog w "internal/strconv.uint64pow10" .u64 Lib.pow10Tab
theorem TabW.keep0 {w w' : World} (h : TabW w) (f : Fr none1 w w') : TabW w' := by
  unfold TabW Lib.TabIs World.var? at h ⊢
  cases hg : Tryz.prog.globalNamed "internal/strconv.uint64pow10" with
  | none => rw [hg] at h; cases h
  | some g =>
    rw [hg] at h
    simp only [Option.bind_some] at h ⊢
    split at h
    case h_1 cs T fr hb => rw [f.keep0 hb]; exact h
    case h_2 => cases h

theorem grow_fr (w : World) (k : Nat) (os : Array Obj) : Fr none1 w (Go.Sort.grow (w.drewN k) os) := by
  refine ⟨rfl, rfl, rfl, ?_, fun i hi _ => ?_⟩
  · show w.heap.size ≤ (w.heap ++ os).size
    rw [Array.size_append]; omega
  · show (w.heap ++ os)[i]? = _
    rw [Array.getElem?_append_left hi]

theorem itoa_spec (n : Int) (h0 : -9223372036854775808 ≤ n) (h1 : n ≤ 9223372036854775807) (w : World) (ht : TabW w) : Ret Tryz.prog 150 #[.int .i64 n] w fun r w' => r = .string (str (Lib.itoa n)) ∧ Fr none1 w w' := by
  refine (Tryz.strconv_Itoa n h0 h1 w ht).mono ?_
  rintro e w' ⟨rfl, k, os, rfl⟩
  exact ⟨_, rfl, rfl, grow_fr w k os⟩

theorem below_fr {w w' : World} (h : Go.RowKit.Below w.heap.size w w') : Fr none1 w w' := by
  obtain ⟨a, b, c, d, e⟩ := h
  exact ⟨a, b, c, d, fun k hk _ => e k hk⟩

theorem call_spec {w : World} {v : Sl} {xs : List (List UInt8)} (h : IsSs w v xs) (hne : xs ≠ []) (wd : List UInt8) (hl : (callL wd xs).length ≤ 10000000) :
    Ret Tryz.prog 148 #[.string (str wd), .slice v.1 v.2.1 v.2.2] w fun r w' => r = .string (str (callL wd xs)) ∧ Fr none1 w w' := by
  refine c148 (str wd) v.1 v.2.1 v.2.2 w _ ?_
  have hvl := h.len
  have hj : (callL wd xs).length = wd.length + 1 + (Lib.join xs [44]).length + 1 := by unfold callL; simp; omega
  rcases h with ⟨rfl, hnil⟩ | ⟨g, off, cs, hv, hb, hle, hcp, hn, he⟩
  · rw [List.map_eq_nil_iff] at hnil
    exact absurd hnil hne
  rw [Nat.mul_one] at hcp
  rw [List.length_map] at hn
  have hbt : (xs.map str).map (fun x : ByteArray => x.data.toList) = xs := by
    rw [List.map_map]
    conv => rhs; rw [← List.map_id xs]
    exact List.map_congr_left fun x _ => str_list x
  have hlj : xs.length ≤ (Lib.join xs [44]).length + 1 := by
    have h2 : ∀ l : List (List UInt8), l ≠ [] → l.length ≤ (Lib.join l [44]).length + 1 := by
      intro l hl
      cases l with
      | nil => exact absurd rfl hl
      | cons x r => rw [Lib.join_cons, List.length_append, Lib.joinTail_length]; simp; omega
    exact h2 xs hne
  have hJ := Tryz.strings_Join g off v.2.2 (xs.map str) (⟨#[44]⟩ : ByteArray) w (fun j x hx => by
      rw [cell_blk hb]
      rw [List.getElem?_map] at hx
      obtain ⟨y, hy, rfl⟩ := Option.map_eq_some_iff.1 hx
      have hj := (List.getElem?_eq_some_iff.1 hy).1
      rw [he j (by rw [List.length_map]; exact hj), List.getElem?_map, hy]
      rfl) (lt_of_blk hb) (by rw [List.length_map]; omega) (by rw [List.length_map]; omega) (by rw [hbt]; show (Lib.join xs [44]).length ≤ _; omega)
  rw [hbt, List.length_map] at hJ
  rw [hv]
  have sz : (str wd).size = wd.length := str_size wd
  have e40 : (⟨#[40]⟩ : ByteArray) = str [40] := rfl
  have e41 : (⟨#[41]⟩ : ByteArray) = str [41] := rfl
  unfold C148
  rw [e40, e41]
  have im : IntKind.i64.max = 9223372036854775807 := rfl
  refine ⟨by rw [sz, str_size, im]; simp; omega, ?_⟩
  rw [hvl]
  refine CallK.of (R := fun r w' => r = .string (str (Lib.join xs [44])) ∧ Fr none1 w w') (hJ.mono ?_) ?_
  · rintro e w' ⟨rfl, hB⟩
    exact ⟨_, rfl, rfl, below_fr hB⟩
  rintro _ w1 ⟨rfl, f1⟩
  refine ⟨_, rfl, ?_⟩
  rw [str_app]
  refine ⟨by rw [str_size, str_size, im]; simp; omega, ?_⟩
  rw [str_app]
  refine ⟨by rw [str_size, str_size, im]; simp; omega, ?_⟩
  rw [str_app]
  exact ⟨rfl, f1⟩

/-- Texts in a row, as a slice. -/
theorem texts_lit {w : World} (xs : List (List UInt8)) (hl : xs.length ≤ 100) {K : Option Addr × Nat × Nat → World → Prop} (k : ∀ (u : Sl) w', IsSs w' u xs → Fr none1 w w' → K u w') :
    RunK Tryz.prog (Instr.buildSlice 23 xs.length (((xs.map sv).zipIdx.map fun (v, i) => (i, v)).toArray)) w (.v (.one .slc)) (fun (x : Option Addr × Nat × Nat) w1 => K x w1) := by
  obtain ⟨x, w1, hr, hx, hxl, f1, hf⟩ := lit_ok (P := Tryz.prog) (w := w) elem_str (xs.map sv) (by intro v hv; obtain ⟨x, _, rfl⟩ := List.mem_map.1 hv; rfl) (by rw [List.length_map]; omega)
  rw [List.length_map] at hr
  exact ⟨x, w1, hr, k x w1 hx f1⟩

theorem wnumber_spec (o : Ob) (hf : formO o = true) (hn : nodesO o ≤ 10000) (w : World) (ht : TabW w) : Ret Tryz.prog 149 #[o.v] w fun r w' => r = .string (str (numO o)) ∧ Fr none1 w w' := by
  refine c149 o.v w _ ?_
  unfold C149
  have hL := numO_len o hf
  cases o with
  | none => cases hf
  | const n =>
    have hv := validF_iff hf
    refine TaK.hit (n, ()) rfl (ns_ok (zs := [.int .i64 0]) (vs := [.int .i64 n]) rfl rfl fun g w1 _ hb f1 => LdK.fld hb (x := n) rfl ?_)
    refine CallK.of (itoa_spec n (by omega) (by omega) w1 (ht.keep0 f1)) ?_
    rintro _ w2 ⟨rfl, f2⟩
    exact ⟨_, rfl, rfl, f1.trans f2⟩
  | fix s =>
    refine TaK.miss rfl (by decide) (TaK.hit (str s, ()) rfl (ns_ok (zs := [.string (⟨#[]⟩ : ByteArray)]) (vs := [.string (str s)]) rfl rfl fun g w1 _ hb f1 => LdK.fld hb (x := str s) rfl ?_))
    refine texts_lit (w := w1) [s] (by simp) fun u w2 hu f2 => ?_
    refine CallK.of (call_spec hu (by simp) [102, 105, 120] (by unfold numO nodesO at hL; omega)) ?_
    rintro _ w3 ⟨rfl, f3⟩
    exact ⟨_, rfl, rfl, (f1.trans f2).trans f3⟩
  | neg x =>
    have hnx : nodesO x ≤ 10000 := by unfold nodesO at hn; omega
    refine TaK.miss rfl (by decide) (TaK.miss rfl (by decide) (TaK.miss rfl (by decide) (TaK.hit (x.v, ()) rfl (ns_ok (zs := [.nilIface]) (vs := [x.v]) rfl (by simp [Ob.v_one]) fun g w1 _ hb f1 => LdK.fld (c := .raw) hb (x := x.v) rfl ?_))))
    refine CallK.of (wnumber_spec x hf hnx w1 (ht.keep0 f1)) ?_
    rintro _ w2 ⟨rfl, f2⟩
    refine ⟨_, rfl, ?_⟩
    refine texts_lit (w := w2) [numO x] (by simp) fun u w3 hu f3 => ?_
    refine CallK.of (call_spec hu (by simp) [110, 101, 103] (by unfold numO nodesO at hL; omega)) ?_
    rintro _ w4 ⟨rfl, f4⟩
    exact ⟨_, rfl, rfl, ((f1.trans f2).trans f3).trans f4⟩
  | add l r =>
    simp only [formO, Bool.and_eq_true] at hf
    have hnl : nodesO l ≤ 10000 := by unfold nodesO at hn; omega
    have hnr : nodesO r ≤ 10000 := by unfold nodesO at hn; omega
    refine TaK.miss rfl (by decide) (TaK.miss rfl (by decide) (TaK.hit (l.v, r.v, ()) rfl (ns_ok (zs := [.nilIface, .nilIface]) (vs := [l.v, r.v]) rfl (by simp [Ob.v_one]) fun g w1 _ hb f1 => ?_)))
    refine DrewK.of fun w2 _ f2 => HoldK.all ?_
    have hb2 := f2.keep0 hb
    refine InK.all (LdK.fld (c := .raw) hb2 (x := l.v) rfl (InK.all (LdK.fld (c := .raw) hb2 (x := r.v) rfl ?_)))
    refine CallK.of (wnumber_spec l hf.1 hnl w2 ((ht.keep0 f1).keep0 f2)) ?_
    rintro _ w3 ⟨rfl, f3⟩
    refine ⟨_, rfl, KeepK.of f3 ?_⟩
    refine CallK.of (wnumber_spec r hf.2 hnr w3 (((ht.keep0 f1).keep0 f2).keep0 f3)) ?_
    rintro _ w4 ⟨rfl, f4⟩
    refine ⟨_, rfl, KeepK.of f4 ?_⟩
    refine texts_lit (w := w4) [numO l, numO r] (by simp) fun u w5 hu f5 => KeepK.of f5 ?_
    refine CallK.of (call_spec hu (by simp) [97, 100, 100] (by unfold numO nodesO at hL; omega)) ?_
    rintro _ w6 ⟨rfl, f6⟩
    exact ⟨_, rfl, KeepK.of f6 ⟨rfl, (f1.trans f2).trans (((f3.trans f4).trans f5).trans f6)⟩⟩
  | mul l r =>
    simp only [formO, Bool.and_eq_true] at hf
    have hnl : nodesO l ≤ 10000 := by unfold nodesO at hn; omega
    have hnr : nodesO r ≤ 10000 := by unfold nodesO at hn; omega
    refine TaK.miss rfl (by decide) (TaK.miss rfl (by decide) (TaK.miss rfl (by decide) (TaK.miss rfl (by decide) (TaK.hit (l.v, r.v, ()) rfl (ns_ok (zs := [.nilIface, .nilIface]) (vs := [l.v, r.v]) rfl (by simp [Ob.v_one]) fun g w1 _ hb f1 => ?_)))))
    refine DrewK.of fun w2 _ f2 => HoldK.all ?_
    have hb2 := f2.keep0 hb
    refine InK.all (LdK.fld (c := .raw) hb2 (x := l.v) rfl (InK.all (LdK.fld (c := .raw) hb2 (x := r.v) rfl ?_)))
    refine CallK.of (wnumber_spec l hf.1 hnl w2 ((ht.keep0 f1).keep0 f2)) ?_
    rintro _ w3 ⟨rfl, f3⟩
    refine ⟨_, rfl, KeepK.of f3 ?_⟩
    refine CallK.of (wnumber_spec r hf.2 hnr w3 (((ht.keep0 f1).keep0 f2).keep0 f3)) ?_
    rintro _ w4 ⟨rfl, f4⟩
    refine ⟨_, rfl, KeepK.of f4 ?_⟩
    refine texts_lit (w := w4) [numO l, numO r] (by simp) fun u w5 hu f5 => KeepK.of f5 ?_
    refine CallK.of (call_spec hu (by simp) [109, 117, 108] (by unfold numO nodesO at hL; omega)) ?_
    rintro _ w6 ⟨rfl, f6⟩
    exact ⟨_, rfl, KeepK.of f6 ⟨rfl, (f1.trans f2).trans (((f3.trans f4).trans f5).trans f6)⟩⟩
  | max l r =>
    simp only [formO, Bool.and_eq_true] at hf
    have hnl : nodesO l ≤ 10000 := by unfold nodesO at hn; omega
    have hnr : nodesO r ≤ 10000 := by unfold nodesO at hn; omega
    refine TaK.miss rfl (by decide) (TaK.miss rfl (by decide) (TaK.miss rfl (by decide) (TaK.miss rfl (by decide) (TaK.miss rfl (by decide) (TaK.hit (l.v, r.v, ()) rfl (ns_ok (zs := [.nilIface, .nilIface]) (vs := [l.v, r.v]) rfl (by simp [Ob.v_one]) fun g w1 _ hb f1 => ?_))))))
    refine DrewK.of fun w2 _ f2 => HoldK.all ?_
    have hb2 := f2.keep0 hb
    refine InK.all (LdK.fld (c := .raw) hb2 (x := l.v) rfl (InK.all (LdK.fld (c := .raw) hb2 (x := r.v) rfl ?_)))
    refine CallK.of (wnumber_spec l hf.1 hnl w2 ((ht.keep0 f1).keep0 f2)) ?_
    rintro _ w3 ⟨rfl, f3⟩
    refine ⟨_, rfl, KeepK.of f3 ?_⟩
    refine CallK.of (wnumber_spec r hf.2 hnr w3 (((ht.keep0 f1).keep0 f2).keep0 f3)) ?_
    rintro _ w4 ⟨rfl, f4⟩
    refine ⟨_, rfl, KeepK.of f4 ?_⟩
    refine texts_lit (w := w4) [numO l, numO r] (by simp) fun u w5 hu f5 => KeepK.of f5 ?_
    refine CallK.of (call_spec hu (by simp) [109, 97, 120] (by unfold numO nodesO at hL; omega)) ?_
    rintro _ w6 ⟨rfl, f6⟩
    exact ⟨_, rfl, KeepK.of f6 ⟨rfl, (f1.trans f2).trans (((f3.trans f4).trans f5).trans f6)⟩⟩

theorem wcontract_spec (t : Tm) (hf : formT t = true) (hn : nodesT t ≤ 10000) (w : World) (ht : TabW w) : Ret Tryz.prog 111 #[t.v] w fun r w' => r = .string (str (conT t)) ∧ Fr none1 w w' := by
  refine c111 t.v w _ ?_
  unfold C111
  have hL := conT_len t hf
  cases t with
  | none => cases hf
  | zero => exact TaK.hit () rfl (ns_ok (zs := []) (vs := []) rfl rfl fun g w1 _ hb f1 => ⟨rfl, f1⟩)
  | one s =>
    refine TaK.miss rfl (by decide) (TaK.hit (str s, ()) rfl (ns_ok (zs := [.string (⟨#[]⟩ : ByteArray)]) (vs := [.string (str s)]) rfl rfl fun g w1 _ hb f1 => LdK.fld hb (x := str s) rfl ?_))
    refine texts_lit (w := w1) [s] (by simp) fun u w2 hu f2 => ?_
    refine CallK.of (call_spec hu (by simp) [111, 110, 101] (by unfold conT nodesT at hL; omega)) ?_
    rintro _ w3 ⟨rfl, f3⟩
    exact ⟨_, rfl, rfl, (f1.trans f2).trans f3⟩
  | give x =>
    have hnx : nodesT x ≤ 10000 := by unfold nodesT at hn; omega
    refine TaK.miss rfl (by decide) (TaK.miss rfl (by decide) (TaK.hit (x.v, ()) rfl (ns_ok (zs := [.nilIface]) (vs := [x.v]) rfl (by simp [Tm.v_one]) fun g w1 _ hb f1 => LdK.fld (c := .raw) hb (x := x.v) rfl ?_)))
    refine CallK.of (wcontract_spec x hf hnx w1 (ht.keep0 f1)) ?_
    rintro _ w2 ⟨rfl, f2⟩
    refine ⟨_, rfl, ?_⟩
    refine texts_lit (w := w2) [conT x] (by simp) fun u w3 hu f3 => ?_
    refine CallK.of (call_spec hu (by simp) [103, 105, 118, 101] (by unfold conT nodesT at hL; omega)) ?_
    rintro _ w4 ⟨rfl, f4⟩
    exact ⟨_, rfl, rfl, ((f1.trans f2).trans f3).trans f4⟩
  | and l r =>
    simp only [formT, Bool.and_eq_true] at hf
    have hnl : nodesT l ≤ 10000 := by unfold nodesT at hn; omega
    have hnr : nodesT r ≤ 10000 := by unfold nodesT at hn; omega
    refine TaK.miss rfl (by decide) (TaK.miss rfl (by decide) (TaK.miss rfl (by decide) (TaK.hit (l.v, r.v, ()) rfl (ns_ok (zs := [.nilIface, .nilIface]) (vs := [l.v, r.v]) rfl (by simp [Tm.v_one]) fun g w1 _ hb f1 => ?_))))
    refine DrewK.of fun w2 _ f2 => HoldK.all ?_
    have hb2 := f2.keep0 hb
    refine InK.all (LdK.fld (c := .raw) hb2 (x := l.v) rfl (InK.all (LdK.fld (c := .raw) hb2 (x := r.v) rfl ?_)))
    refine CallK.of (wcontract_spec l hf.1 hnl w2 ((ht.keep0 f1).keep0 f2)) ?_
    rintro _ w3 ⟨rfl, f3⟩
    refine ⟨_, rfl, KeepK.of f3 ?_⟩
    refine CallK.of (wcontract_spec r hf.2 hnr w3 (((ht.keep0 f1).keep0 f2).keep0 f3)) ?_
    rintro _ w4 ⟨rfl, f4⟩
    refine ⟨_, rfl, KeepK.of f4 ?_⟩
    refine texts_lit (w := w4) [conT l, conT r] (by simp) fun u w5 hu f5 => KeepK.of f5 ?_
    refine CallK.of (call_spec hu (by simp) [97, 110, 100] (by unfold conT nodesT at hL; omega)) ?_
    rintro _ w6 ⟨rfl, f6⟩
    exact ⟨_, rfl, KeepK.of f6 ⟨rfl, (f1.trans f2).trans (((f3.trans f4).trans f5).trans f6)⟩⟩
  | or s l r =>
    simp only [formT, Bool.and_eq_true] at hf
    have hnl : nodesT l ≤ 10000 := by unfold nodesT at hn; omega
    have hnr : nodesT r ≤ 10000 := by unfold nodesT at hn; omega
    refine TaK.miss rfl (by decide) (TaK.miss rfl (by decide) (TaK.miss rfl (by decide) (TaK.miss rfl (by decide) (TaK.hit (str s, l.v, r.v, ()) rfl (ns_ok (zs := [.string (⟨#[]⟩ : ByteArray), .nilIface, .nilIface]) (vs := [.string (str s), l.v, r.v]) rfl (by simp [Tm.v_one, one1_str]) fun g w1 _ hb f1 => ?_)))))
    refine DrewK.of fun w2 _ f2 => HoldK.all ?_
    have hb2 := f2.keep0 hb
    refine InK.all (LdK.fld hb2 (x := str s) rfl (InK.all (LdK.fld (c := .raw) hb2 (x := l.v) rfl (InK.all (LdK.fld (c := .raw) hb2 (x := r.v) rfl ?_)))))
    refine CallK.of (wcontract_spec l hf.2.1 hnl w2 ((ht.keep0 f1).keep0 f2)) ?_
    rintro _ w3 ⟨rfl, f3⟩
    refine ⟨_, rfl, KeepK.of f3 ?_⟩
    refine CallK.of (wcontract_spec r hf.2.2 hnr w3 (((ht.keep0 f1).keep0 f2).keep0 f3)) ?_
    rintro _ w4 ⟨rfl, f4⟩
    refine ⟨_, rfl, KeepK.of f4 ?_⟩
    refine texts_lit (w := w4) [s, conT l, conT r] (by simp) fun u w5 hu f5 => KeepK.of f5 ?_
    refine CallK.of (call_spec hu (by simp) [111, 114] (by unfold conT nodesT at hL; omega)) ?_
    rintro _ w6 ⟨rfl, f6⟩
    exact ⟨_, rfl, KeepK.of f6 ⟨rfl, (f1.trans f2).trans (((f3.trans f4).trans f5).trans f6)⟩⟩
  | scale o x =>
    simp only [formT, Bool.and_eq_true] at hf
    have hno : nodesO o ≤ 10000 := by unfold nodesT at hn; omega
    have hnx : nodesT x ≤ 10000 := by unfold nodesT at hn; omega
    refine TaK.miss rfl (by decide) (TaK.miss rfl (by decide) (TaK.miss rfl (by decide) (TaK.miss rfl (by decide) (TaK.miss rfl (by decide) (TaK.hit (o.v, x.v, ()) rfl (ns_ok (zs := [.nilIface, .nilIface]) (vs := [o.v, x.v]) rfl (by simp [Tm.v_one, Ob.v_one]) fun g w1 _ hb f1 => ?_))))))
    refine DrewK.of fun w2 _ f2 => HoldK.all ?_
    have hb2 := f2.keep0 hb
    refine InK.all (LdK.fld (c := .raw) hb2 (x := o.v) rfl (InK.all (LdK.fld (c := .raw) hb2 (x := x.v) rfl ?_)))
    refine CallK.of (wnumber_spec o hf.1 hno w2 ((ht.keep0 f1).keep0 f2)) ?_
    rintro _ w3 ⟨rfl, f3⟩
    refine ⟨_, rfl, KeepK.of f3 ?_⟩
    refine CallK.of (wcontract_spec x hf.2 hnx w3 (((ht.keep0 f1).keep0 f2).keep0 f3)) ?_
    rintro _ w4 ⟨rfl, f4⟩
    refine ⟨_, rfl, KeepK.of f4 ?_⟩
    refine texts_lit (w := w4) [numO o, conT x] (by simp) fun u w5 hu f5 => KeepK.of f5 ?_
    refine CallK.of (call_spec hu (by simp) [115, 99, 97, 108, 101] (by unfold conT nodesT at hL; omega)) ?_
    rintro _ w6 ⟨rfl, f6⟩
    exact ⟨_, rfl, KeepK.of f6 ⟨rfl, (f1.trans f2).trans (((f3.trans f4).trans f5).trans f6)⟩⟩
  | when d x =>
    simp only [formT, Bool.and_eq_true, decide_eq_true_eq] at hf
    have hnx : nodesT x ≤ 10000 := by unfold nodesT at hn; omega
    refine TaK.miss rfl (by decide) (TaK.miss rfl (by decide) (TaK.miss rfl (by decide) (TaK.miss rfl (by decide) (TaK.miss rfl (by decide) (TaK.miss rfl (by decide) (TaK.hit (d, x.v, ()) rfl (ns_ok (zs := [.int .i64 0, .nilIface]) (vs := [.int .i64 d, x.v]) rfl (by simp [Tm.v_one, one1_int]) fun g w1 _ hb f1 => ?_)))))))
    refine DrewK.of fun w2 _ f2 => HoldK.all ?_
    have hb2 := f2.keep0 hb
    refine InK.all (LdK.fld hb2 (x := d) rfl (InK.all (LdK.fld (c := .raw) hb2 (x := x.v) rfl ?_)))
    refine CallK.of (itoa_spec d (by omega) (by omega) w2 ((ht.keep0 f1).keep0 f2)) ?_
    rintro _ w3 ⟨rfl, f3⟩
    refine ⟨_, rfl, KeepK.of f3 ?_⟩
    refine CallK.of (wcontract_spec x hf.2 hnx w3 (((ht.keep0 f1).keep0 f2).keep0 f3)) ?_
    rintro _ w4 ⟨rfl, f4⟩
    refine ⟨_, rfl, KeepK.of f4 ?_⟩
    refine texts_lit (w := w4) [Lib.itoa d, conT x] (by simp) fun u w5 hu f5 => KeepK.of f5 ?_
    refine CallK.of (call_spec hu (by simp) [119, 104, 101, 110] (by unfold conT nodesT at hL; omega)) ?_
    rintro _ w6 ⟨rfl, f6⟩
    exact ⟨_, rfl, KeepK.of f6 ⟨rfl, (f1.trans f2).trans (((f3.trans f4).trans f5).trans f6)⟩⟩
  | cond o l r =>
    simp only [formT, Bool.and_eq_true] at hf
    have hno : nodesO o ≤ 10000 := by unfold nodesT at hn; omega
    have hnl : nodesT l ≤ 10000 := by unfold nodesT at hn; omega
    have hnr : nodesT r ≤ 10000 := by unfold nodesT at hn; omega
    refine TaK.miss rfl (by decide) (TaK.miss rfl (by decide) (TaK.miss rfl (by decide) (TaK.miss rfl (by decide) (TaK.miss rfl (by decide) (TaK.miss rfl (by decide) (TaK.miss rfl (by decide) (TaK.hit (o.v, l.v, r.v, ()) rfl (ns_ok (zs := [.nilIface, .nilIface, .nilIface]) (vs := [o.v, l.v, r.v]) rfl (by simp [Tm.v_one, Ob.v_one]) fun g w1 _ hb f1 => ?_))))))))
    refine DrewK.of fun w2 _ f2 => HoldK.all ?_
    have hb2 := f2.keep0 hb
    refine InK.all (LdK.fld (c := .raw) hb2 (x := o.v) rfl (InK.all (LdK.fld (c := .raw) hb2 (x := l.v) rfl (InK.all (LdK.fld (c := .raw) hb2 (x := r.v) rfl ?_)))))
    refine CallK.of (wnumber_spec o hf.1 hno w2 ((ht.keep0 f1).keep0 f2)) ?_
    rintro _ w3 ⟨rfl, f3⟩
    refine ⟨_, rfl, KeepK.of f3 ?_⟩
    refine CallK.of (wcontract_spec l hf.2.1 hnl w3 (((ht.keep0 f1).keep0 f2).keep0 f3)) ?_
    rintro _ w4 ⟨rfl, f4⟩
    refine ⟨_, rfl, KeepK.of f4 ?_⟩
    refine CallK.of (wcontract_spec r hf.2.2 hnr w4 ((((ht.keep0 f1).keep0 f2).keep0 f3).keep0 f4)) ?_
    rintro _ w5 ⟨rfl, f5⟩
    refine ⟨_, rfl, KeepK.of f5 ?_⟩
    refine texts_lit (w := w5) [numO o, conT l, conT r] (by simp) fun u w6 hu f6 => KeepK.of f6 ?_
    refine CallK.of (call_spec hu (by simp) [105, 102] (by unfold conT nodesT at hL; omega)) ?_
    rintro _ w7 ⟨rfl, f7⟩
    exact ⟨_, rfl, KeepK.of f7 ⟨rfl, (f1.trans f2).trans ((((f3.trans f4).trans f5).trans f6).trans f7)⟩⟩

theorem told_spec (s : List UInt8) (w : World) : Ret Tryz.prog 110 #[.string (str s)] w fun r w' => r = .tuple #[.string (str (if 1000 < s.length then [] else s)), .int .i64 (if 1000 < s.length then 5 else 0)] ∧ w = w' := by
  refine c110 (str s) w _ ?_
  unfold C110
  rw [str_size]
  refine ifB.dec (fun h => ?_) (fun h => ?_)
  · rw [if_pos (by omega), if_pos (by omega)]; exact ⟨rfl, rfl⟩
  · rw [if_neg (by omega), if_neg (by omega)]; exact ⟨rfl, rfl⟩

theorem checkT_form {t : Tm} (h : checkT t = 0) : formT t = true ∧ nodesT t ≤ 60 ∧ depthT t ≤ 12 := by
  unfold checkT at h
  repeat' split at h
  all_goals first | (exact absurd h (by decide)) | skip
  rename_i h1 h2 h3 _
  exact ⟨by simpa using h1, by omega, by omega⟩

theorem wterm_spec (t : Tm) (hn : nodesT t ≤ 1000000) (w : World) (ht : TabW w) : Ret Tryz.prog 71 #[t.v] w fun r w' => r = .tuple #[.string (str (writeT t).1), .int .i64 (writeT t).2] ∧ Fr none1 w w' := by
  refine c71 t.v w _ ?_
  refine CallK.of (tcheck_spec t hn w) ?_
  rintro _ w1 ⟨rfl, f1⟩
  unfold writeT
  refine ⟨_, rfl, ifB.ne (fun h => ?_) (fun h => ?_)⟩
  · rw [if_pos h]; exact ⟨rfl, f1⟩
  rw [if_neg (fun t => t h)]
  have hc := checkT_form h
  refine CallK.of (wcontract_spec t hc.1 (by omega) w1 (ht.keep0 f1)) ?_
  rintro _ w2 ⟨rfl, f2⟩
  refine ⟨_, rfl, ?_⟩
  have htd := told_spec (conT t) w2
  by_cases hl : 1000 < (conT t).length
  · rw [if_pos hl, if_pos hl] at htd
    rw [if_pos hl]
    refine CallK.of htd ?_
    rintro _ _ ⟨rfl, rfl⟩
    exact ⟨(str [], 5, ()), rfl, rfl, f1.trans f2⟩
  · rw [if_neg hl, if_neg hl] at htd
    rw [if_neg hl]
    refine CallK.of htd ?_
    rintro _ _ ⟨rfl, rfl⟩
    exact ⟨(str (conT t), 0, ()), rfl, rfl, f1.trans f2⟩

end Go.Proofs.YtbadiokobooliaaGreatDoor
