/-
  The conditions of some functions, written by a program of this session, each tied to the translation by the kernel.
-/
import Derived.Test.YtlhbfdakceipkaaGreatDoorVcMem
import Derived.Test.YtlhbfdakceipkaaGreatDoorProg
import Derived.KernelRfl
namespace Go.Proofs.YtlhbfdakceipkaaGreatDoor
open Vc
set_option maxRecDepth 100000
set_option linter.unusedVariables false
/-- handfast/obs.Kids -/
def C82 (p0 : Value) (w : World) (K : Value → World → Prop) : Prop :=
  TaK p0 86 (.agg [.raw, .raw]) (fun (x1 : Value × Value × Unit) => NewK (.cells #[.nilIface, .nilIface] 86) w (fun g2 w3 => StsK (⟨g2, 0, none⟩ : Addr) [x1.1, x1.2.1] w3 (fun w4 => LdK .raw ((⟨g2, 0, none⟩ : Addr).add 0) w4 (fun (x5 : Value) => LdK .raw ((⟨g2, 0, none⟩ : Addr).add 1) w4 (fun (x6 : Value) => RunK Tryz.prog (Instr.buildSlice 173 2 #[(0, x5), (1, x6)]) w4 (.v (.one .slc)) (fun (x7 : Option Addr × Nat × Nat) w8 => K (.slice x7.1 x7.2.1 x7.2.2) w8))))))
  (NewK (.cells #[.nilIface, .nilIface] 86) w (fun g9 w10 => StsK (⟨g9, 0, none⟩ : Addr) [.nilIface, .nilIface] w10 (fun w11 => TaK p0 83 (.agg [.raw, .raw]) (fun (x12 : Value × Value × Unit) => NewK (.cells #[.nilIface, .nilIface] 83) w11 (fun g13 w14 => StsK (⟨g13, 0, none⟩ : Addr) [x12.1, x12.2.1] w14 (fun w15 => LdK .raw ((⟨g13, 0, none⟩ : Addr).add 0) w15 (fun (x16 : Value) => LdK .raw ((⟨g13, 0, none⟩ : Addr).add 1) w15 (fun (x17 : Value) => RunK Tryz.prog (Instr.buildSlice 173 2 #[(0, x16), (1, x17)]) w15 (.v (.one .slc)) (fun (x18 : Option Addr × Nat × Nat) w19 => K (.slice x18.1 x18.2.1 x18.2.2) w19))))))
  (NewK (.cells #[.nilIface, .nilIface] 83) w11 (fun g20 w21 => StsK (⟨g20, 0, none⟩ : Addr) [.nilIface, .nilIface] w21 (fun w22 => TaK p0 82 (.agg [.raw, .raw]) (fun (x23 : Value × Value × Unit) => NewK (.cells #[.nilIface, .nilIface] 82) w22 (fun g24 w25 => StsK (⟨g24, 0, none⟩ : Addr) [x23.1, x23.2.1] w25 (fun w26 => LdK .raw ((⟨g24, 0, none⟩ : Addr).add 0) w26 (fun (x27 : Value) => LdK .raw ((⟨g24, 0, none⟩ : Addr).add 1) w26 (fun (x28 : Value) => RunK Tryz.prog (Instr.buildSlice 173 2 #[(0, x27), (1, x28)]) w26 (.v (.one .slc)) (fun (x29 : Option Addr × Nat × Nat) w30 => K (.slice x29.1 x29.2.1 x29.2.2) w30))))))
  (NewK (.cells #[.nilIface, .nilIface] 82) w22 (fun g31 w32 => StsK (⟨g31, 0, none⟩ : Addr) [.nilIface, .nilIface] w32 (fun w33 => TaK p0 85 (.agg [.raw]) (fun (x34 : Value × Unit) => NewK (.cells #[.nilIface] 85) w33 (fun g35 w36 => StsK (⟨g35, 0, none⟩ : Addr) [x34.1] w36 (fun w37 => LdK .raw ((⟨g35, 0, none⟩ : Addr).add 0) w37 (fun (x38 : Value) => RunK Tryz.prog (Instr.buildSlice 173 1 #[(0, x38)]) w37 (.v (.one .slc)) (fun (x39 : Option Addr × Nat × Nat) w40 => K (.slice x39.1 x39.2.1 x39.2.2) w40)))))
  (NewK (.cells #[.nilIface] 85) w33 (fun g41 w42 => StsK (⟨g41, 0, none⟩ : Addr) [.nilIface] w42 (fun w43 => K (.slice none 0 0) w43))))))))))))
def pl82 : Plan := .auto
theorem e82 (p0 : Value) (w : World) (K : Value → World → Prop) : vcFunc Tryz.prog Tryz.f82 pl82 [p0] w K = C82 p0 w K := by kernel_rfl
theorem c82 (p0 : Value) (w : World) (K : Value → World → Prop) (h : C82 p0 w K) : Ret Tryz.prog 82 #[p0] w K := by
  rw [← e82] at h
  exact vcFunc_sound (by kernel_rfl) Tryz.func82 h

/-- handfast/obs.leaf -/
def C163 (p0 : Value) (w : World) (K : Value → World → Prop) : Prop :=
  TaK p0 80 (.agg [.int .i64]) (fun (x1 : Int × Unit) => NewK (.cells #[.int .i64 0] 80) w (fun g2 w3 => StsK (⟨g2, 0, none⟩ : Addr) [.int .i64 x1.1] w3 (fun w4 => LdK (.int .i64) ((⟨g2, 0, none⟩ : Addr).add 0) w4 (fun (x5 : Int) => CallK Tryz.prog 96 #[.int .i64 x5] w4 (.v (.one .bool)) (fun (x6 : Bool) w7 => K (.tuple #[.bool true, .bool x6]) w7)))))
  (NewK (.cells #[.int .i64 0] 80) w (fun g8 w9 => StsK (⟨g8, 0, none⟩ : Addr) [.int .i64 0] w9 (fun w10 => TaK p0 78 (.agg [.str]) (fun (x11 : ByteArray × Unit) => NewK (.cells #[.string (⟨#[]⟩ : ByteArray)] 78) w10 (fun g12 w13 => StsK (⟨g12, 0, none⟩ : Addr) [.string x11.1] w13 (fun w14 => LdK .str ((⟨g12, 0, none⟩ : Addr).add 0) w14 (fun (x15 : ByteArray) => CallK Tryz.prog 145 #[.string x15] w14 (.v (.one .bool)) (fun (x16 : Bool) w17 => K (.tuple #[.bool true, .bool x16]) w17)))))
  (NewK (.cells #[.string (⟨#[]⟩ : ByteArray)] 78) w10 (fun g18 w19 => StsK (⟨g18, 0, none⟩ : Addr) [.string (⟨#[]⟩ : ByteArray)] w19 (fun w20 => K (.tuple #[.bool false, .bool false]) w20))))))
def pl163 : Plan := .auto
theorem e163 (p0 : Value) (w : World) (K : Value → World → Prop) : vcFunc Tryz.prog Tryz.f163 pl163 [p0] w K = C163 p0 w K := by kernel_rfl
theorem c163 (p0 : Value) (w : World) (K : Value → World → Prop) (h : C163 p0 w K) : Ret Tryz.prog 163 #[p0] w K := by
  rw [← e163] at h
  exact vcFunc_sound (by kernel_rfl) Tryz.func163 h

/-- handfast/obs.none -/
def C164 (p0 : Value) (w : World) (K : Value → World → Prop) : Prop :=
  CallK Tryz.prog 163 #[p0] w (.tup [.one .bool, .one .bool]) (fun (x1 : Bool × Bool × Unit) w2 => ifB (!x1.1)
  (CallK Tryz.prog 82 #[p0] w2 (.v (.one .slc)) (fun (x3 : Option Addr × Nat × Nat) w4 => K (.bool ((x3.2.1 : Int) == 0)) w4))
  (K (.bool false) w2))
def pl164 : Plan := .auto
theorem e164 (p0 : Value) (w : World) (K : Value → World → Prop) : vcFunc Tryz.prog Tryz.f164 pl164 [p0] w K = C164 p0 w K := by kernel_rfl
theorem c164 (p0 : Value) (w : World) (K : Value → World → Prop) (h : C164 p0 w K) : Ret Tryz.prog 164 #[p0] w K := by
  rw [← e164] at h
  exact vcFunc_sound (by kernel_rfl) Tryz.func164 h

/-- handfast/obs.Size -/
def C135 (p0 : Value) (w : World) (K : Value → World → Prop) : Prop :=
  CallK Tryz.prog 164 #[p0] w (.v (.one .bool)) (fun (x1 : Bool) w2 => ifB x1
  (K (.tuple #[.int .i64 0, .int .i64 0]) w2)
  (CallK Tryz.prog 82 #[p0] w2 (.v (.one .slc)) (fun (x3 : Option Addr × Nat × Nat) w4 => LoopK (Int × Int × Int × Unit) (fun _ s5 w6 next7 => ifB (decide (s5.2.2.1 < (x3.2.1 : Int)))
  (IdxK x3.1 x3.2.1 s5.2.2.1 1 (fun a8 => LdK .raw a8 w6 (fun (x9 : Value) => CallK Tryz.prog 135 #[x9] w6 (.tup [.one (.int .i64), .one (.int .i64)]) (fun (x10 : Int × Int × Unit) w11 => next7 (IntKind.i64.wrap (s5.1 + x10.1), (if x10.2.1 > s5.2.1 then x10.2.1 else s5.2.1), IntKind.i64.wrap (s5.2.2.1 + 1), ()) w11))))
  (K (.tuple #[.int .i64 (IntKind.i64.wrap (s5.1 + 1)), .int .i64 (IntKind.i64.wrap (s5.2.1 + 1))]) w6))
  (0, 0, 0, ()) w4)))
def pl135 : Plan := (.seq .auto (.seq .auto (.seq (.seq .auto (.block (.loop [(2, .one (.int .i64)), (3, .one (.int .i64)), (13, .one (.int .i64))] .auto))) .auto)))
theorem e135 (p0 : Value) (w : World) (K : Value → World → Prop) : vcFunc Tryz.prog Tryz.f135 pl135 [p0] w K = C135 p0 w K := by kernel_rfl
theorem c135 (p0 : Value) (w : World) (K : Value → World → Prop) (h : C135 p0 w K) : Ret Tryz.prog 135 #[p0] w K := by
  rw [← e135] at h
  exact vcFunc_sound (by kernel_rfl) Tryz.func135 h

/-- handfast/obs.form -/
def C134 (p0 : Value) (w : World) (K : Value → World → Prop) : Prop :=
  CallK Tryz.prog 163 #[p0] w (.tup [.one .bool, .one .bool]) (fun (x1 : Bool × Bool × Unit) w2 => ifB x1.1
  (K (.bool x1.2.1) w2)
  (CallK Tryz.prog 164 #[p0] w2 (.v (.one .bool)) (fun (x3 : Bool) w4 => ifB (!x3)
  (CallK Tryz.prog 82 #[p0] w4 (.v (.one .slc)) (fun (x5 : Option Addr × Nat × Nat) w6 => CallK Tryz.prog 165 #[.slice x5.1 x5.2.1 x5.2.2, .func (.func 166) #[] #[]] w6 (.v (.one .bool)) (fun (x7 : Bool) w8 => K (.bool (!x7)) w8)))
  (K (.bool false) w4))))
def pl134 : Plan := .auto
theorem e134 (p0 : Value) (w : World) (K : Value → World → Prop) : vcFunc Tryz.prog Tryz.f134 pl134 [p0] w K = C134 p0 w K := by kernel_rfl
theorem c134 (p0 : Value) (w : World) (K : Value → World → Prop) (h : C134 p0 w K) : Ret Tryz.prog 134 #[p0] w K := by
  rw [← e134] at h
  exact vcFunc_sound (by kernel_rfl) Tryz.func134 h

/-- handfast/obs.form$1 -/
def C166 (p0 : Value) (w : World) (K : Value → World → Prop) : Prop :=
  CallK Tryz.prog 134 #[p0] w (.v (.one .bool)) (fun (x1 : Bool) w2 => K (.bool (!x1)) w2)
def pl166 : Plan := .auto
theorem e166 (p0 : Value) (w : World) (K : Value → World → Prop) : vcFunc Tryz.prog Tryz.f166 pl166 [p0] w K = C166 p0 w K := by kernel_rfl
theorem c166 (p0 : Value) (w : World) (K : Value → World → Prop) (h : C166 p0 w K) : Ret Tryz.prog 166 #[p0] w K := by
  rw [← e166] at h
  exact vcFunc_sound (by kernel_rfl) Tryz.func166 h

/-- handfast/obs.Check -/
def C73 (p0 : Value) (w : World) (K : Value → World → Prop) : Prop :=
  CallK Tryz.prog 134 #[p0] w (.v (.one .bool)) (fun (x1 : Bool) w2 => ifB (!x1)
  (K (.int .i64 2) w2)
  (CallK Tryz.prog 135 #[p0] w2 (.tup [.one (.int .i64), .one (.int .i64)]) (fun (x3 : Int × Int × Unit) w4 => ifB (decide (x3.1 > 60))
  (K (.int .i64 5) w4)
  (ifB (decide (x3.2.1 > 12))
  (K (.int .i64 5) w4)
  (K (.int .i64 0) w4)))))
def pl73 : Plan := .auto
theorem e73 (p0 : Value) (w : World) (K : Value → World → Prop) : vcFunc Tryz.prog Tryz.f73 pl73 [p0] w K = C73 p0 w K := by kernel_rfl
theorem c73 (p0 : Value) (w : World) (K : Value → World → Prop) (h : C73 p0 w K) : Ret Tryz.prog 73 #[p0] w K := by
  rw [← e73] at h
  exact vcFunc_sound (by kernel_rfl) Tryz.func73 h

/-- slices.ContainsFunc[[]handfast/api.Obs,handfast/api.Obs] -/
def C165 (p0 : Option Addr) (p0l p0c : Nat) (p1 : Value) (w : World) (K : Value → World → Prop) : Prop :=
  CallK Tryz.prog 188 #[.slice p0 p0l p0c, p1] w (.v (.one (.int .i64))) (fun (x1 : Int) w2 => K (.bool (decide (x1 ≥ 0))) w2)
def pl165 : Plan := .auto
theorem e165 (p0 : Option Addr) (p0l p0c : Nat) (p1 : Value) (w : World) (K : Value → World → Prop) : vcFunc Tryz.prog Tryz.f165 pl165 [.slice p0 p0l p0c, p1] w K = C165 p0 p0l p0c p1 w K := by kernel_rfl
theorem c165 (p0 : Option Addr) (p0l p0c : Nat) (p1 : Value) (w : World) (K : Value → World → Prop) (h : C165 p0 p0l p0c p1 w K) : Ret Tryz.prog 165 #[.slice p0 p0l p0c, p1] w K := by
  rw [← e165] at h
  exact vcFunc_sound (by kernel_rfl) Tryz.func165 h

/-- slices.IndexFunc[[]handfast/api.Obs,handfast/api.Obs] -/
def C188 (p0 : Option Addr) (p0l p0c : Nat) (p1 : Value) (w : World) (K : Value → World → Prop) : Prop :=
  LoopK (Int × Unit) (fun _ s1 w2 next3 => ifB (decide (s1.1 < (p0l : Int)))
  (IdxK p0 p0l s1.1 1 (fun a4 => LdK .raw a4 w2 (fun (x5 : Value) => callV Tryz.prog p1 [x5] (.v (.one .bool)) w2 (fun (x6 : Bool) w7 => ifB x6
  (K (.int .i64 s1.1) w7)
  (next3 (IntKind.i64.wrap (s1.1 + 1), ()) w7)))))
  (K (.int .i64 (-1)) w2))
  (0, ()) w
def pl188 : Plan := (.seq .auto (.seq (.seq .auto (.block (.loop [(8, .one (.int .i64))] .auto))) .auto))
theorem e188 (p0 : Option Addr) (p0l p0c : Nat) (p1 : Value) (w : World) (K : Value → World → Prop) : vcFunc Tryz.prog Tryz.f188 pl188 [.slice p0 p0l p0c, p1] w K = C188 p0 p0l p0c p1 w K := by kernel_rfl
theorem c188 (p0 : Option Addr) (p0l p0c : Nat) (p1 : Value) (w : World) (K : Value → World → Prop) (h : C188 p0 p0l p0c p1 w K) : Ret Tryz.prog 188 #[.slice p0 p0l p0c, p1] w K := by
  rw [← e188] at h
  exact vcFunc_sound (by kernel_rfl) Tryz.func188 h

end Go.Proofs.YtlhbfdakceipkaaGreatDoor
