/-
  Texts of this claim, put together: CMakeG, MakeSpec, MakeSpec2, MakeSpec3, VcPlan, PlanSpec, RefWrite, CRef11P, RefEv, PlainSpec, CSome11, SomeSpec, CReadG.
  Conditions: those of each theorem.
-/
import Derived.Test.YtdphmcanlhcokaaGreatDoorM0
import Derived.Test.YtdphmcanlhcokaaGreatDoorM1
import Derived.Test.YtdphmcanlhcokaaGreatDoorM2
import Derived.ChangeSame
import Derived.ChangeSlices
import Derived.KernelRfl
import Derived.SliceStrings
import Derived.Test.YtdphmcanlhcokaaGreatDoorProg
namespace Go.Proofs.YtdphmcanlhcokaaGreatDoor
open Vc
set_option maxRecDepth 100000
set_option linter.unusedVariables false
def C141 (p0:Addr) (p1:Int) (w:World) (K:Value→World→Prop):Prop:=
 DrewK w (fun w1=>LdK (.int .i64) (p0.add 2) w1 (fun (x2:Int)=>LdK .slc ((p0.add 0).add 0) w1 (fun (x3:SlT)=>ifB (decide (x2<(x3.2.1:Int)))
 (DrewK w1 (fun w4=>LdK .slc ((p0.add 0).add 0) w4 (fun (x5:SlT)=>LdK (.int .i64) (p0.add 2) w4 (fun (x6:Int)=>IdxK x5.1 x5.2.1 x6 1 (fun a7=>LdK (.int .i64) a7 w4 (fun (x8:Int)=>LdK (.int .i64) (p0.add 2) w4 (fun (x9:Int)=>StK (p0.add 2) (.int .i64 (IntKind.i64.wrap (x9+1))) w4 (fun w10=>CallK Tryz.prog 14 #[.int .i64 x8,.int .i64 p1] w10 (.v (.one (.int .i64))) (fun (x11:Int) w12=>K (.int .i64 x11) w12)))))))))
 (LdK (.int .i64) (p0.add 2) w1 (fun (x13:Int)=>StK (p0.add 2) (.int .i64 (IntKind.i64.wrap (x13+1))) w1 (fun w14=>CallK Tryz.prog 14 #[.int .i64 0,.int .i64 p1] w14 (.v (.one (.int .i64))) (fun (x15:Int) w16=>K (.int .i64 x15) w16)))))))
def pl141:Plan:=(.seq .auto (.seq .auto (.seq (.seq .still (.cond .still .auto)) .auto)))
theorem c141 (p0:Addr) (p1:Int) (w:World) (K:Value→World→Prop) (h:C141 p0 p1 w K):Ret Tryz.prog 141 #[.pointer (some p0),.int .i64 p1] w K:=z0z (by kernel_rfl) Tryz.func141 (p:=pl141) (Eq.mpr (by kernel_rfl) h)
def C142 (p0:Addr) (p1:Option Addr) (p1l p1c:Nat) (w:World) (K:Value→World→Prop):Prop:=
 CallK Tryz.prog 141 #[.pointer (some p0),.int .i64 (IntKind.i64.wrap ((p1l:Int)+6))] w (.v (.one (.int .i64))) (fun (x1:Int) w2=>JoinK (Bool×Unit) (fun J3=>ifB (decide (x1 ≥ (p1l:Int)))
 (LdK .slc ((p0.add 0).add 1) w2 (fun (x6:SlT)=>ifB (decide ((x6.2.1:Int) > 0))
 (NzK 7 (J3 (((Int.tmod x1 7)==0),()) w2))
 (J3 (false,()) w2)))
 (J3 (false,()) w2))
 (fun _ s4 w5=>ifB s4.1
 (DrewK w5 (fun w7=>LdK .slc ((p0.add 0).add 1) w7 (fun (x8:SlT)=>LdK .slc ((p0.add 0).add 1) w7 (fun (x9:SlT)=>NzK (x9.2.1:Int) (IdxK x8.1 x8.2.1 (Int.tmod x1 (x9.2.1:Int)) 1 (fun a10=>LdK .str a10 w7 (fun (x11:ByteArray)=>CallK Tryz.prog 50 #[.string x11,.int .i64 14] w7 (.v (.one .str)) (fun (x12:ByteArray) w13=>K (.string x12) w13))))))))
 (NzK (p1l:Int) (IdxK p1 p1l (Int.tmod x1 (p1l:Int)) 1 (fun a14=>LdK .str a14 w5 (fun (x15:ByteArray)=>K (.string x15) w5))))))
def pl142:Plan:=(.seq .auto (.seq .auto (.seq (.join [(28,.one .bool)] .auto (.cond (.seq (.tail 15) .auto) .auto)) .auto)))
theorem c142 (p0:Addr) (p1:Option Addr) (p1l p1c:Nat) (w:World) (K:Value→World→Prop) (h:C142 p0 p1 p1l p1c w K):Ret Tryz.prog 142 #[.pointer (some p0),.slice p1 p1l p1c] w K:=z0z (by kernel_rfl) Tryz.func142 (p:=pl142) (Eq.mpr (by kernel_rfl) h)
def C143 (p0:Addr) (p1:Int) (w:World) (K:Value→World→Prop):Prop:=
 NewK (.cells #[.int .i64 0,.string (⟨#[]⟩:ByteArray),.int .i64 0,.slice none 0 0] 41) w (fun g1 w2=>LdK (.int .i64) (p0.add 3) w2 (fun (x3:Int)=>StK (p0.add 3) (.int .i64 (IntKind.i64.wrap (x3 - 1))) w2 (fun w4=>CallK Tryz.prog 141 #[.pointer (some p0),.int .i64 9] w4 (.v (.one (.int .i64))) (fun (x5:Int) w6=>JoinK (Int×Unit) (fun J7=>JoinK (Bool×Unit) (fun J10=>ifB (decide (p1≤0))
 (J10 (true,()) w6)
 (LdK (.int .i64) (p0.add 3) w6 (fun (x13:Int)=>J10 (decide (x13≤0),()) w6)))
 (fun _ s11 w12=>ifB s11.1
 (NzK 3 (J7 ((Int.tmod x5 3),()) w12))
 (J7 (x5,()) w12)))
 (fun _ s8 w9=>JoinK (Unit) (fun J14=>JoinK (Bool×Unit) (fun J17=>ifB (s8.1==0)
 (J17 ((s8.1==0),()) w9)
 (J17 ((s8.1==1),()) w9))
 (fun _ s18 w19=>ifB s18.1
 (RunK Tryz.prog (Instr.buildSlice 26 10 #[(0,.int .i64 0),(1,.int .i64 1),(2,.int .i64 (-1)),(3,.int .i64 2),(4,.int .i64 100),(5,.int .i64 (-7)),(6,.int .i64 1000000),(7,.int .i64 1000000000000),(8,.int .i64 (-1000000000000)),(9,.int .i64 3)]) w19 (.v (.one .slc)) (fun (x20:SlT) w21=>CallK Tryz.prog 141 #[.pointer (some p0),.int .i64 10] w21 (.v (.one (.int .i64))) (fun (x22:Int) w23=>IdxK x20.1 x20.2.1 x22 1 (fun a24=>LdK (.int .i64) a24 w23 (fun (x25:Int)=>StsK (ad g1) [.int .i64 11,.string (⟨#[]⟩:ByteArray),.int .i64 x25,.slice none 0 0] w23 (fun w26=>LdsK KZ3 (ad g1) w26 (fun (x27:YZ3)=>K (.agg (LZ3 x27).toArray) w26)))))))
 (ifB (s8.1==2)
 (ifB (s8.1==2)
 (RunK Tryz.prog (Instr.buildSlice 27 3 #[(0,.string (⟨#[108,105,98,111,114]⟩:ByteArray)),(1,.string (⟨#[114,97,105,110]⟩:ByteArray)),(2,.string (⟨#[195,182,108]⟩:ByteArray))]) w19 (.v (.one .slc)) (fun (x28:SlT) w29=>CallK Tryz.prog 142 #[.pointer (some p0),.slice x28.1 x28.2.1 x28.2.2] w29 (.v (.one .str)) (fun (x30:ByteArray) w31=>StsK (ad g1) [.int .i64 12,.string x30,.int .i64 0,.slice none 0 0] w31 (fun w32=>LdsK KZ3 (ad g1) w32 (fun (x33:YZ3)=>K (.agg (LZ3 x33).toArray) w32)))))
 (ifB (s8.1==5)
 (CallK Tryz.prog 143 #[.pointer (some p0),.int .i64 (IntKind.i64.wrap (p1 - 1))] w19 (.v (.agg KZ3)) (fun (x34:YZ3) w35=>RunK Tryz.prog (Instr.buildSlice 39 1 #[(0,.agg (LZ3 x34).toArray)]) w35 (.v (.one .slc)) (fun (x36:SlT) w37=>StsK (ad g1) [.int .i64 14,.string (⟨#[]⟩:ByteArray),.int .i64 0,.slice x36.1 x36.2.1 x36.2.2] w37 (fun w38=>LdsK KZ3 (ad g1) w38 (fun (x39:YZ3)=>K (.agg (LZ3 x39).toArray) w38)))))
 (J14 (()) w19)))
 (ifB (s8.1==3)
 (ifB (s8.1==3)
 (RunK Tryz.prog (Instr.buildSlice 27 3 #[(0,.string (⟨#[108,105,98,111,114]⟩:ByteArray)),(1,.string (⟨#[114,97,105,110]⟩:ByteArray)),(2,.string (⟨#[195,182,108]⟩:ByteArray))]) w19 (.v (.one .slc)) (fun (x40:SlT) w41=>CallK Tryz.prog 142 #[.pointer (some p0),.slice x40.1 x40.2.1 x40.2.2] w41 (.v (.one .str)) (fun (x42:ByteArray) w43=>StsK (ad g1) [.int .i64 12,.string x42,.int .i64 0,.slice none 0 0] w43 (fun w44=>LdsK KZ3 (ad g1) w44 (fun (x45:YZ3)=>K (.agg (LZ3 x45).toArray) w44)))))
 (ifB (s8.1==5)
 (CallK Tryz.prog 143 #[.pointer (some p0),.int .i64 (IntKind.i64.wrap (p1 - 1))] w19 (.v (.agg KZ3)) (fun (x46:YZ3) w47=>RunK Tryz.prog (Instr.buildSlice 39 1 #[(0,.agg (LZ3 x46).toArray)]) w47 (.v (.one .slc)) (fun (x48:SlT) w49=>StsK (ad g1) [.int .i64 14,.string (⟨#[]⟩:ByteArray),.int .i64 0,.slice x48.1 x48.2.1 x48.2.2] w49 (fun w50=>LdsK KZ3 (ad g1) w50 (fun (x51:YZ3)=>K (.agg (LZ3 x51).toArray) w50)))))
 (J14 (()) w19)))
 (ifB (s8.1==4)
 (RunK Tryz.prog (Instr.buildSlice 27 3 #[(0,.string (⟨#[108,105,98,111,114]⟩:ByteArray)),(1,.string (⟨#[114,97,105,110]⟩:ByteArray)),(2,.string (⟨#[195,182,108]⟩:ByteArray))]) w19 (.v (.one .slc)) (fun (x52:SlT) w53=>CallK Tryz.prog 142 #[.pointer (some p0),.slice x52.1 x52.2.1 x52.2.2] w53 (.v (.one .str)) (fun (x54:ByteArray) w55=>StsK (ad g1) [.int .i64 12,.string x54,.int .i64 0,.slice none 0 0] w55 (fun w56=>LdsK KZ3 (ad g1) w56 (fun (x57:YZ3)=>K (.agg (LZ3 x57).toArray) w56)))))
 (ifB (s8.1==5)
 (CallK Tryz.prog 143 #[.pointer (some p0),.int .i64 (IntKind.i64.wrap (p1 - 1))] w19 (.v (.agg KZ3)) (fun (x58:YZ3) w59=>RunK Tryz.prog (Instr.buildSlice 39 1 #[(0,.agg (LZ3 x58).toArray)]) w59 (.v (.one .slc)) (fun (x60:SlT) w61=>StsK (ad g1) [.int .i64 14,.string (⟨#[]⟩:ByteArray),.int .i64 0,.slice x60.1 x60.2.1 x60.2.2] w61 (fun w62=>LdsK KZ3 (ad g1) w62 (fun (x63:YZ3)=>K (.agg (LZ3 x63).toArray) w62)))))
 (J14 (()) w19)))))))
 (fun _ s15 w16=>CallK Tryz.prog 143 #[.pointer (some p0),.int .i64 (IntKind.i64.wrap (p1 - 1))] w16 (.v (.agg KZ3)) (fun (x64:YZ3) w65=>NewK (.cells #[.int .i64 0,.string (⟨#[]⟩:ByteArray),.int .i64 0,.slice none 0 0] 41) w65 (fun g66 w67=>StsK (ad g66) (LZ3 x64) w67 (fun w68=>DrewK w68 (fun w69=>HoldK (fun S70=>InK S70 (ad g66) (LdsK KZ3 (ad g66) w69 (fun (x71:YZ3)=>AndK (RunK Tryz.prog (Instr.buildSlice 26 3 #[(0,.int .i64 13),(1,.int .i64 15),(2,.int .i64 16)]) w69 (.v (.one .slc)) (fun (x72:SlT) w73=>KeepK S70 w69 w73 (IdxK x72.1 x72.2.1 (IntKind.i64.wrap (s8.1 - 6)) 1 (fun a74=>InK S70 a74 (LdK (.int .i64) a74 w73 (fun (x75:Int)=>CallK Tryz.prog 143 #[.pointer (some p0),.int .i64 (IntKind.i64.wrap (p1 - 1))] w73 (.v (.agg KZ3)) (fun (x76:YZ3) w77=>KeepK S70 w73 w77 (RunK Tryz.prog (Instr.buildSlice 39 2 #[(0,.agg (LZ3 x71).toArray),(1,.agg (LZ3 x76).toArray)]) w77 (.v (.one .slc)) (fun (x78:SlT) w79=>KeepK S70 w77 w79 (StsK (ad g1) [.int .i64 x75,.string (⟨#[]⟩:ByteArray),.int .i64 0,.slice x78.1 x78.2.1 x78.2.2] w79 (fun w80=>KeepK S70 w79 w80 (LdsK KZ3 (ad g1) w80 (fun (x81:YZ3)=>K (.agg (LZ3 x81).toArray) w80)))))))))))))
 (CallK Tryz.prog 143 #[.pointer (some p0),.int .i64 (IntKind.i64.wrap (p1 - 1))] w69 (.v (.agg KZ3)) (fun (x82:YZ3) w83=>KeepK S70 w69 w83 (AndK (RunK Tryz.prog (Instr.buildSlice 26 3 #[(0,.int .i64 13),(1,.int .i64 15),(2,.int .i64 16)]) w83 (.v (.one .slc)) (fun (x84:SlT) w85=>KeepK S70 w83 w85 (IdxK x84.1 x84.2.1 (IntKind.i64.wrap (s8.1 - 6)) 1 (fun a86=>InK S70 a86 (LdK (.int .i64) a86 w85 (fun (x87:Int)=>RunK Tryz.prog (Instr.buildSlice 39 2 #[(0,.agg (LZ3 x71).toArray),(1,.agg (LZ3 x82).toArray)]) w85 (.v (.one .slc)) (fun (x88:SlT) w89=>KeepK S70 w85 w89 (StsK (ad g1) [.int .i64 x87,.string (⟨#[]⟩:ByteArray),.int .i64 0,.slice x88.1 x88.2.1 x88.2.2] w89 (fun w90=>KeepK S70 w89 w90 (LdsK KZ3 (ad g1) w90 (fun (x91:YZ3)=>K (.agg (LZ3 x91).toArray) w90)))))))))))
 (RunK Tryz.prog (Instr.buildSlice 39 2 #[(0,.agg (LZ3 x71).toArray),(1,.agg (LZ3 x82).toArray)]) w83 (.v (.one .slc)) (fun (x92:SlT) w93=>KeepK S70 w83 w93 (RunK Tryz.prog (Instr.buildSlice 26 3 #[(0,.int .i64 13),(1,.int .i64 15),(2,.int .i64 16)]) w93 (.v (.one .slc)) (fun (x94:SlT) w95=>KeepK S70 w93 w95 (IdxK x94.1 x94.2.1 (IntKind.i64.wrap (s8.1 - 6)) 1 (fun a96=>InK S70 a96 (LdK (.int .i64) a96 w95 (fun (x97:Int)=>StsK (ad g1) [.int .i64 x97,.string (⟨#[]⟩:ByteArray),.int .i64 0,.slice x92.1 x92.2.1 x92.2.2] w95 (fun w98=>KeepK S70 w95 w98 (LdsK KZ3 (ad g1) w98 (fun (x99:YZ3)=>K (.agg (LZ3 x99).toArray) w98)))))))))))))))))))))))))))
def pl143:Plan:=(.seq .auto (.seq .auto (.seq .auto (.join [(5,.one (.int .i64))] (.join [(24,.one .bool)] .auto .auto) (.join [] (.seq .auto (.block (.join [(28,.one .bool)] .auto .auto))) (.seq .auto (.seq (.held (.soft 1 (.soft 2 (.soft 5 (.soft 6 (.soft 7 (.soft 8 (.pick 0 (.soft 3 (.soft 4 (.pick 9 (.pick 10 (.soft 11 (.pick 12 .done .stop)) .stop) .stop))) (.pick 9 (.pick 0 (.soft 3 (.soft 4 (.pick 10 (.soft 11 (.pick 12 .done .stop)) .stop))) (.pick 10 (.pick 0 (.soft 3 (.soft 4 (.soft 11 (.pick 12 .done .stop)))) .stop) .stop)) .stop))))))))) .auto)))))))
theorem c143 (p0:Addr) (p1:Int) (w:World) (K:Value→World→Prop) (h:C143 p0 p1 w K):Ret Tryz.prog 143 #[.pointer (some p0),.int .i64 p1] w K:=z0z (by kernel_rfl) Tryz.func143 (p:=pl143) (Eq.mpr (by kernel_rfl) h)
def C109 (p0:Addr) (p1:Int) (w:World) (K:Value→World→Prop):Prop:=
 NewK (.cells #[.int .i64 0,.string (⟨#[]⟩:ByteArray),.int .i64 0,.slice none 0 0] 41) w (fun g1 w2=>LdK (.int .i64) (p0.add 3) w2 (fun (x3:Int)=>StK (p0.add 3) (.int .i64 (IntKind.i64.wrap (x3 - 1))) w2 (fun w4=>CallK Tryz.prog 141 #[.pointer (some p0),.int .i64 13] w4 (.v (.one (.int .i64))) (fun (x5:Int) w6=>JoinK (Int×Unit) (fun J7=>JoinK (Bool×Unit) (fun J10=>ifB (decide (p1≤0))
 (J10 (true,()) w6)
 (LdK (.int .i64) (p0.add 3) w6 (fun (x13:Int)=>J10 (decide (x13≤0),()) w6)))
 (fun _ s11 w12=>ifB s11.1
 (NzK 3 (J7 ((Int.tmod x5 3),()) w12))
 (J7 (x5,()) w12)))
 (fun _ s8 w9=>NewK (.cells #[.int .i64 0,.string (⟨#[]⟩:ByteArray),.int .i64 0,.slice none 0 0] 41) w9 (fun g14 w15=>StsK (ad g14) [.int .i64 0,.string (⟨#[]⟩:ByteArray),.int .i64 0,.slice none 0 0] w15 (fun w16=>JoinK (Bool×Unit) (fun J17=>ifB (s8.1==0)
 (J17 ((s8.1==0),()) w16)
 (J17 ((s8.1==1),()) w16))
 (fun _ s18 w19=>ifB s18.1
 (RunK Tryz.prog (Instr.buildSlice 27 3 #[(0,.string (⟨#[117,115,100]⟩:ByteArray)),(1,.string (⟨#[101,117,114]⟩:ByteArray)),(2,.string (⟨#[103,98,112]⟩:ByteArray))]) w19 (.v (.one .slc)) (fun (x20:SlT) w21=>CallK Tryz.prog 142 #[.pointer (some p0),.slice x20.1 x20.2.1 x20.2.2] w21 (.v (.one .str)) (fun (x22:ByteArray) w23=>StK ((ad g14).add 0) (.int .i64 2) w23 (fun w24=>StK ((ad g14).add 1) (.string x22) w24 (fun w25=>LdsK KZ3 (ad g14) w25 (fun (x26:YZ3)=>StsK (ad g1) (LZ3 x26) w25 (fun w27=>LdsK KZ3 (ad g1) w27 (fun (x28:YZ3)=>K (.agg (LZ3 x28).toArray) w27))))))))
 (ifB (s8.1==2)
 (StK ((ad g14).add 0) (.int .i64 1) w19 (fun w29=>LdsK KZ3 (ad g14) w29 (fun (x30:YZ3)=>StsK (ad g1) (LZ3 x30) w29 (fun w31=>LdsK KZ3 (ad g1) w31 (fun (x32:YZ3)=>K (.agg (LZ3 x32).toArray) w31)))))
 (JoinK (Bool×Unit) (fun J33=>ifB (s8.1==3)
 (J33 ((s8.1==3),()) w19)
 (J33 ((s8.1==4),()) w19))
 (fun _ s34 w35=>ifB s34.1
 (CallK Tryz.prog 109 #[.pointer (some p0),.int .i64 (IntKind.i64.wrap (p1 - 1))] w35 (.v (.agg KZ3)) (fun (x36:YZ3) w37=>RunK Tryz.prog (Instr.buildSlice 39 1 #[(0,.agg (LZ3 x36).toArray)]) w37 (.v (.one .slc)) (fun (x38:SlT) w39=>StK ((ad g14).add 0) (.int .i64 3) w39 (fun w40=>StK ((ad g14).add 3) (.slice x38.1 x38.2.1 x38.2.2) w40 (fun w41=>LdsK KZ3 (ad g14) w41 (fun (x42:YZ3)=>StsK (ad g1) (LZ3 x42) w41 (fun w43=>LdsK KZ3 (ad g1) w43 (fun (x44:YZ3)=>K (.agg (LZ3 x44).toArray) w43))))))))
 (JoinK (Bool×Unit) (fun J45=>ifB (s8.1==5)
 (J45 ((s8.1==5),()) w35)
 (J45 ((s8.1==6),()) w35))
 (fun _ s46 w47=>ifB s46.1
 (CallK Tryz.prog 109 #[.pointer (some p0),.int .i64 (IntKind.i64.wrap (p1 - 1))] w47 (.v (.agg KZ3)) (fun (x48:YZ3) w49=>NewK (.cells #[.int .i64 0,.string (⟨#[]⟩:ByteArray),.int .i64 0,.slice none 0 0] 41) w49 (fun g50 w51=>StsK (ad g50) (LZ3 x48) w51 (fun w52=>DrewK w52 (fun w53=>HoldK (fun S54=>InK S54 (ad g50) (LdsK KZ3 (ad g50) w53 (fun (x55:YZ3)=>CallK Tryz.prog 109 #[.pointer (some p0),.int .i64 (IntKind.i64.wrap (p1 - 1))] w53 (.v (.agg KZ3)) (fun (x56:YZ3) w57=>KeepK S54 w53 w57 (AndK (RunK Tryz.prog (Instr.buildSlice 39 2 #[(0,.agg (LZ3 x55).toArray),(1,.agg (LZ3 x56).toArray)]) w57 (.v (.one .slc)) (fun (x58:SlT) w59=>KeepK S54 w57 w59 (StK ((ad g14).add 0) (.int .i64 4) w59 (fun w60=>KeepK S54 w59 w60 (StK ((ad g14).add 3) (.slice x58.1 x58.2.1 x58.2.2) w60 (fun w61=>KeepK S54 w60 w61 (LdsK KZ3 (ad g14) w61 (fun (x62:YZ3)=>StsK (ad g1) (LZ3 x62) w61 (fun w63=>LdsK KZ3 (ad g1) w63 (fun (x64:YZ3)=>K (.agg (LZ3 x64).toArray) w63))))))))))
 (StK ((ad g14).add 0) (.int .i64 4) w57 (fun w65=>KeepK S54 w57 w65 (RunK Tryz.prog (Instr.buildSlice 39 2 #[(0,.agg (LZ3 x55).toArray),(1,.agg (LZ3 x56).toArray)]) w65 (.v (.one .slc)) (fun (x66:SlT) w67=>KeepK S54 w65 w67 (StK ((ad g14).add 3) (.slice x66.1 x66.2.1 x66.2.2) w67 (fun w68=>KeepK S54 w67 w68 (LdsK KZ3 (ad g14) w68 (fun (x69:YZ3)=>StsK (ad g1) (LZ3 x69) w68 (fun w70=>LdsK KZ3 (ad g1) w70 (fun (x71:YZ3)=>K (.agg (LZ3 x71).toArray) w70))))))))))))))))))))
 (JoinK (Bool×Unit) (fun J72=>ifB (s8.1==7)
 (J72 ((s8.1==7),()) w47)
 (J72 ((s8.1==8),()) w47))
 (fun _ s73 w74=>ifB s73.1
 (LdK (.int .i64) (p0.add 4) w74 (fun (x75:Int)=>StK (p0.add 4) (.int .i64 (IntKind.i64.wrap (x75+1))) w74 (fun w76=>LdK (.int .i64) (p0.add 4) w76 (fun (x77:Int)=>CallK Tryz.prog 83 #[.int .i64 x77] w76 (.v (.one .str)) (fun (x78:ByteArray) w79=>CatK (⟨#[99,104]⟩:ByteArray) x78 (CallK Tryz.prog 141 #[.pointer (some p0),.int .i64 30] w79 (.v (.one (.int .i64))) (fun (x80:Int) w81=>ifB (x80==29)
 (CallK Tryz.prog 109 #[.pointer (some p0),.int .i64 (IntKind.i64.wrap (p1 - 1))] w81 (.v (.agg KZ3)) (fun (x82:YZ3) w83=>NewK (.cells #[.int .i64 0,.string (⟨#[]⟩:ByteArray),.int .i64 0,.slice none 0 0] 41) w83 (fun g84 w85=>StsK (ad g84) (LZ3 x82) w85 (fun w86=>DrewK w86 (fun w87=>HoldK (fun S88=>InK S88 (ad g84) (LdsK KZ3 (ad g84) w87 (fun (x89:YZ3)=>CallK Tryz.prog 109 #[.pointer (some p0),.int .i64 (IntKind.i64.wrap (p1 - 1))] w87 (.v (.agg KZ3)) (fun (x90:YZ3) w91=>KeepK S88 w87 w91 (AndK (RunK Tryz.prog (Instr.buildSlice 39 2 #[(0,.agg (LZ3 x89).toArray),(1,.agg (LZ3 x90).toArray)]) w91 (.v (.one .slc)) (fun (x92:SlT) w93=>KeepK S88 w91 w93 (StK ((ad g14).add 0) (.int .i64 5) w93 (fun w94=>KeepK S88 w93 w94 (StK ((ad g14).add 1) (.string (⟨#[99,104,49]⟩:ByteArray)) w94 (fun w95=>KeepK S88 w94 w95 (StK ((ad g14).add 3) (.slice x92.1 x92.2.1 x92.2.2) w95 (fun w96=>KeepK S88 w95 w96 (LdsK KZ3 (ad g14) w96 (fun (x97:YZ3)=>StsK (ad g1) (LZ3 x97) w96 (fun w98=>LdsK KZ3 (ad g1) w98 (fun (x99:YZ3)=>K (.agg (LZ3 x99).toArray) w98))))))))))))
 (StK ((ad g14).add 0) (.int .i64 5) w91 (fun w100=>KeepK S88 w91 w100 (AndK (RunK Tryz.prog (Instr.buildSlice 39 2 #[(0,.agg (LZ3 x89).toArray),(1,.agg (LZ3 x90).toArray)]) w100 (.v (.one .slc)) (fun (x101:SlT) w102=>KeepK S88 w100 w102 (StK ((ad g14).add 1) (.string (⟨#[99,104,49]⟩:ByteArray)) w102 (fun w103=>KeepK S88 w102 w103 (StK ((ad g14).add 3) (.slice x101.1 x101.2.1 x101.2.2) w103 (fun w104=>KeepK S88 w103 w104 (LdsK KZ3 (ad g14) w104 (fun (x105:YZ3)=>StsK (ad g1) (LZ3 x105) w104 (fun w106=>LdsK KZ3 (ad g1) w106 (fun (x107:YZ3)=>K (.agg (LZ3 x107).toArray) w106))))))))))
 (StK ((ad g14).add 1) (.string (⟨#[99,104,49]⟩:ByteArray)) w100 (fun w108=>KeepK S88 w100 w108 (RunK Tryz.prog (Instr.buildSlice 39 2 #[(0,.agg (LZ3 x89).toArray),(1,.agg (LZ3 x90).toArray)]) w108 (.v (.one .slc)) (fun (x109:SlT) w110=>KeepK S88 w108 w110 (StK ((ad g14).add 3) (.slice x109.1 x109.2.1 x109.2.2) w110 (fun w111=>KeepK S88 w110 w111 (LdsK KZ3 (ad g14) w111 (fun (x112:YZ3)=>StsK (ad g1) (LZ3 x112) w111 (fun w113=>LdsK KZ3 (ad g1) w113 (fun (x114:YZ3)=>K (.agg (LZ3 x114).toArray) w113)))))))))))))))))))))))
 (CallK Tryz.prog 109 #[.pointer (some p0),.int .i64 (IntKind.i64.wrap (p1 - 1))] w81 (.v (.agg KZ3)) (fun (x115:YZ3) w116=>NewK (.cells #[.int .i64 0,.string (⟨#[]⟩:ByteArray),.int .i64 0,.slice none 0 0] 41) w116 (fun g117 w118=>StsK (ad g117) (LZ3 x115) w118 (fun w119=>DrewK w119 (fun w120=>HoldK (fun S121=>InK S121 (ad g117) (LdsK KZ3 (ad g117) w120 (fun (x122:YZ3)=>CallK Tryz.prog 109 #[.pointer (some p0),.int .i64 (IntKind.i64.wrap (p1 - 1))] w120 (.v (.agg KZ3)) (fun (x123:YZ3) w124=>KeepK S121 w120 w124 (AndK (RunK Tryz.prog (Instr.buildSlice 39 2 #[(0,.agg (LZ3 x122).toArray),(1,.agg (LZ3 x123).toArray)]) w124 (.v (.one .slc)) (fun (x125:SlT) w126=>KeepK S121 w124 w126 (StK ((ad g14).add 0) (.int .i64 5) w126 (fun w127=>KeepK S121 w126 w127 (StK ((ad g14).add 1) (.string ((⟨#[99,104]⟩:ByteArray)++x78)) w127 (fun w128=>KeepK S121 w127 w128 (StK ((ad g14).add 3) (.slice x125.1 x125.2.1 x125.2.2) w128 (fun w129=>KeepK S121 w128 w129 (LdsK KZ3 (ad g14) w129 (fun (x130:YZ3)=>StsK (ad g1) (LZ3 x130) w129 (fun w131=>LdsK KZ3 (ad g1) w131 (fun (x132:YZ3)=>K (.agg (LZ3 x132).toArray) w131))))))))))))
 (StK ((ad g14).add 0) (.int .i64 5) w124 (fun w133=>KeepK S121 w124 w133 (AndK (RunK Tryz.prog (Instr.buildSlice 39 2 #[(0,.agg (LZ3 x122).toArray),(1,.agg (LZ3 x123).toArray)]) w133 (.v (.one .slc)) (fun (x134:SlT) w135=>KeepK S121 w133 w135 (StK ((ad g14).add 1) (.string ((⟨#[99,104]⟩:ByteArray)++x78)) w135 (fun w136=>KeepK S121 w135 w136 (StK ((ad g14).add 3) (.slice x134.1 x134.2.1 x134.2.2) w136 (fun w137=>KeepK S121 w136 w137 (LdsK KZ3 (ad g14) w137 (fun (x138:YZ3)=>StsK (ad g1) (LZ3 x138) w137 (fun w139=>LdsK KZ3 (ad g1) w139 (fun (x140:YZ3)=>K (.agg (LZ3 x140).toArray) w139))))))))))
 (StK ((ad g14).add 1) (.string ((⟨#[99,104]⟩:ByteArray)++x78)) w133 (fun w141=>KeepK S121 w133 w141 (RunK Tryz.prog (Instr.buildSlice 39 2 #[(0,.agg (LZ3 x122).toArray),(1,.agg (LZ3 x123).toArray)]) w141 (.v (.one .slc)) (fun (x142:SlT) w143=>KeepK S121 w141 w143 (StK ((ad g14).add 3) (.slice x142.1 x142.2.1 x142.2.2) w143 (fun w144=>KeepK S121 w143 w144 (LdsK KZ3 (ad g14) w144 (fun (x145:YZ3)=>StsK (ad g1) (LZ3 x145) w144 (fun w146=>LdsK KZ3 (ad g1) w146 (fun (x147:YZ3)=>K (.agg (LZ3 x147).toArray) w146))))))))))))))))))))))))))))))
 (JoinK (Bool×Unit) (fun J148=>ifB (s8.1==9)
 (J148 ((s8.1==9),()) w74)
 (J148 ((s8.1==10),()) w74))
 (fun _ s149 w150=>ifB s149.1
 (CallK Tryz.prog 143 #[.pointer (some p0),.int .i64 (if 2<IntKind.i64.wrap (p1 - 1) then 2 else IntKind.i64.wrap (p1 - 1))] w150 (.v (.agg KZ3)) (fun (x151:YZ3) w152=>NewK (.cells #[.int .i64 0,.string (⟨#[]⟩:ByteArray),.int .i64 0,.slice none 0 0] 41) w152 (fun g153 w154=>StsK (ad g153) (LZ3 x151) w154 (fun w155=>DrewK w155 (fun w156=>HoldK (fun S157=>InK S157 (ad g153) (LdsK KZ3 (ad g153) w156 (fun (x158:YZ3)=>CallK Tryz.prog 109 #[.pointer (some p0),.int .i64 (IntKind.i64.wrap (p1 - 1))] w156 (.v (.agg KZ3)) (fun (x159:YZ3) w160=>KeepK S157 w156 w160 (AndK (RunK Tryz.prog (Instr.buildSlice 39 2 #[(0,.agg (LZ3 x158).toArray),(1,.agg (LZ3 x159).toArray)]) w160 (.v (.one .slc)) (fun (x161:SlT) w162=>KeepK S157 w160 w162 (StK ((ad g14).add 0) (.int .i64 6) w162 (fun w163=>KeepK S157 w162 w163 (StK ((ad g14).add 3) (.slice x161.1 x161.2.1 x161.2.2) w163 (fun w164=>KeepK S157 w163 w164 (LdsK KZ3 (ad g14) w164 (fun (x165:YZ3)=>StsK (ad g1) (LZ3 x165) w164 (fun w166=>LdsK KZ3 (ad g1) w166 (fun (x167:YZ3)=>K (.agg (LZ3 x167).toArray) w166))))))))))
 (StK ((ad g14).add 0) (.int .i64 6) w160 (fun w168=>KeepK S157 w160 w168 (RunK Tryz.prog (Instr.buildSlice 39 2 #[(0,.agg (LZ3 x158).toArray),(1,.agg (LZ3 x159).toArray)]) w168 (.v (.one .slc)) (fun (x169:SlT) w170=>KeepK S157 w168 w170 (StK ((ad g14).add 3) (.slice x169.1 x169.2.1 x169.2.2) w170 (fun w171=>KeepK S157 w170 w171 (LdsK KZ3 (ad g14) w171 (fun (x172:YZ3)=>StsK (ad g1) (LZ3 x172) w171 (fun w173=>LdsK KZ3 (ad g1) w173 (fun (x174:YZ3)=>K (.agg (LZ3 x174).toArray) w173))))))))))))))))))))
 (ifB (s8.1==11)
 (CallK Tryz.prog 141 #[.pointer (some p0),.int .i64 8] w150 (.v (.one (.int .i64))) (fun (x175:Int) w176=>CallK Tryz.prog 109 #[.pointer (some p0),.int .i64 (IntKind.i64.wrap (p1 - 1))] w176 (.v (.agg KZ3)) (fun (x177:YZ3) w178=>RunK Tryz.prog (Instr.buildSlice 39 1 #[(0,.agg (LZ3 x177).toArray)]) w178 (.v (.one .slc)) (fun (x179:SlT) w180=>StK ((ad g14).add 0) (.int .i64 7) w180 (fun w181=>StK ((ad g14).add 2) (.int .i64 x175) w181 (fun w182=>StK ((ad g14).add 3) (.slice x179.1 x179.2.1 x179.2.2) w182 (fun w183=>LdsK KZ3 (ad g14) w183 (fun (x184:YZ3)=>StsK (ad g1) (LZ3 x184) w183 (fun w185=>LdsK KZ3 (ad g1) w185 (fun (x186:YZ3)=>K (.agg (LZ3 x186).toArray) w185))))))))))
 (CallK Tryz.prog 143 #[.pointer (some p0),.int .i64 (if 2<IntKind.i64.wrap (p1 - 1) then 2 else IntKind.i64.wrap (p1 - 1))] w150 (.v (.agg KZ3)) (fun (x187:YZ3) w188=>NewK (.cells #[.int .i64 0,.string (⟨#[]⟩:ByteArray),.int .i64 0,.slice none 0 0] 41) w188 (fun g189 w190=>StsK (ad g189) (LZ3 x187) w190 (fun w191=>CallK Tryz.prog 109 #[.pointer (some p0),.int .i64 (IntKind.i64.wrap (p1 - 1))] w191 (.v (.agg KZ3)) (fun (x192:YZ3) w193=>NewK (.cells #[.int .i64 0,.string (⟨#[]⟩:ByteArray),.int .i64 0,.slice none 0 0] 41) w193 (fun g194 w195=>StsK (ad g194) (LZ3 x192) w195 (fun w196=>DrewK w196 (fun w197=>HoldK (fun S198=>InK S198 (ad g189) (LdsK KZ3 (ad g189) w197 (fun (x199:YZ3)=>InK S198 (ad g194) (LdsK KZ3 (ad g194) w197 (fun (x200:YZ3)=>CallK Tryz.prog 109 #[.pointer (some p0),.int .i64 (IntKind.i64.wrap (p1 - 1))] w197 (.v (.agg KZ3)) (fun (x201:YZ3) w202=>KeepK S198 w197 w202 (AndK (RunK Tryz.prog (Instr.buildSlice 39 3 #[(0,.agg (LZ3 x199).toArray),(1,.agg (LZ3 x200).toArray),(2,.agg (LZ3 x201).toArray)]) w202 (.v (.one .slc)) (fun (x203:SlT) w204=>KeepK S198 w202 w204 (StK ((ad g14).add 0) (.int .i64 8) w204 (fun w205=>KeepK S198 w204 w205 (StK ((ad g14).add 3) (.slice x203.1 x203.2.1 x203.2.2) w205 (fun w206=>KeepK S198 w205 w206 (LdsK KZ3 (ad g14) w206 (fun (x207:YZ3)=>StsK (ad g1) (LZ3 x207) w206 (fun w208=>LdsK KZ3 (ad g1) w208 (fun (x209:YZ3)=>K (.agg (LZ3 x209).toArray) w208))))))))))
 (StK ((ad g14).add 0) (.int .i64 8) w202 (fun w210=>KeepK S198 w202 w210 (RunK Tryz.prog (Instr.buildSlice 39 3 #[(0,.agg (LZ3 x199).toArray),(1,.agg (LZ3 x200).toArray),(2,.agg (LZ3 x201).toArray)]) w210 (.v (.one .slc)) (fun (x211:SlT) w212=>KeepK S198 w210 w212 (StK ((ad g14).add 3) (.slice x211.1 x211.2.1 x211.2.2) w212 (fun w213=>KeepK S198 w212 w213 (LdsK KZ3 (ad g14) w213 (fun (x214:YZ3)=>StsK (ad g1) (LZ3 x214) w213 (fun w215=>LdsK KZ3 (ad g1) w215 (fun (x216:YZ3)=>K (.agg (LZ3 x216).toArray) w215)))))))))))))))))))))))))))))))))))))))))))
def pl109:Plan:=(.seq .auto (.seq .auto (.seq .auto (.join [(5,.one (.int .i64))] (.join [(31,.one .bool)] .auto .auto) (.seq .auto (.seq (.seq .auto (.block (.join [(54,.one .bool)] .auto (.cond .auto (.seq .auto (.cond .auto (.join [(65,.one .bool)] .auto (.cond .auto (.join [(75,.one .bool)] .auto (.cond (.seq .auto (.held (.soft 0 (.soft 1 (.soft 2 (.soft 3 (.soft 6 (.pick 4 (.pick 5 (.pick 7 (.soft 8 (.pick 9 .done .stop)) .stop) (.pick 7 (.pick 5 (.soft 8 (.pick 9 .done .stop)) .stop) .stop)) .stop)))))))) (.join [(90,.one .bool)] .auto (.cond (.seq .auto (.seq .auto (.seq .auto (.seq .auto (.held (.soft 0 (.soft 1 (.soft 2 (.soft 3 (.soft 4 (.soft 7 (.pick 5 (.pick 6 (.pick 8 (.soft 9 (.pick 10 (.soft 11 (.pick 12 .done .stop)) .stop)) .stop) (.pick 8 (.soft 9 (.pick 6 (.pick 10 (.soft 11 (.pick 12 .done .stop)) .stop) (.pick 10 (.pick 6 (.soft 11 (.pick 12 .done .stop)) .stop) .stop))) .stop)) .stop)))))))))))) (.join [(123,.one .bool)] .auto (.cond (.seq .auto (.held (.soft 0 (.soft 1 (.soft 2 (.soft 3 (.soft 6 (.pick 4 (.pick 5 (.pick 7 (.soft 8 (.pick 9 .done .stop)) .stop) (.pick 7 (.pick 5 (.soft 8 (.pick 9 .done .stop)) .stop) .stop)) .stop)))))))) (.seq .auto (.cond .auto (.seq .auto (.seq .auto (.held (.soft 0 (.soft 1 (.soft 2 (.soft 3 (.soft 4 (.soft 7 (.pick 5 (.pick 6 (.pick 8 (.soft 9 (.pick 10 .done .stop)) .stop) (.pick 8 (.pick 6 (.soft 9 (.pick 10 .done .stop)) .stop) .stop)) .stop)))))))))))))))))))))))))) .auto))))))
theorem c109 (p0:Addr) (p1:Int) (w:World) (K:Value→World→Prop) (h:C109 p0 p1 w K):Ret Tryz.prog 109 #[.pointer (some p0),.int .i64 p1] w K:=z0z (by kernel_rfl) Tryz.func109 (p:=pl109) (Eq.mpr (by kernel_rfl) h)
def C81 (p0:SlT×SlT×Unit) (w:World) (K:Value→World→Prop):Prop:=
 NewK (.cells #[.slice p0.1.1 p0.1.2.1 p0.1.2.2,.slice p0.2.1.1 p0.2.1.2.1 p0.2.1.2.2] 29) w (fun g1 w2=>NewK (.cells #[.int .i64 0,.string (⟨#[]⟩:ByteArray),.int .i64 0,.slice none 0 0] 41) w2 (fun g3 w4=>LdsK [.slc,.slc] (ad g1) w4 (fun (x5:SlT×SlT×Unit)=>NewK (.cells #[.slice x5.1.1 x5.1.2.1 x5.1.2.2,.slice x5.2.1.1 x5.2.1.2.1 x5.2.1.2.2,.int .i64 0,.int .i64 24,.int .i64 0] 220) w4 (fun g6 w7=>CallK Tryz.prog 109 #[.pointer (some (ad g6)),.int .i64 5] w7 (.v (.agg KZ3)) (fun (x8:YZ3) w9=>StsK (ad g3) (LZ3 x8) w9 (fun w10=>LdsK KZ3 (ad g3) w10 (fun (x11:YZ3)=>K (.agg (LZ3 x11).toArray) w10)))))))
def pl81:Plan:=.auto
theorem c81 (p0:SlT×SlT×Unit) (w:World) (K:Value→World→Prop) (h:C81 p0 w K):Ret Tryz.prog 81 #[.agg #[.slice p0.1.1 p0.1.2.1 p0.1.2.2,.slice p0.2.1.1 p0.2.1.2.1 p0.2.1.2.2]] w K:=z0z (by kernel_rfl) Tryz.func81 (p:=pl81) (Eq.mpr (by kernel_rfl) h)
def C80 (p0:SlT×SlT×Unit) (w:World) (K:Value→World→Prop):Prop:=
 NewK (.cells #[.slice p0.1.1 p0.1.2.1 p0.1.2.2,.slice p0.2.1.1 p0.2.1.2.1 p0.2.1.2.2] 29) w (fun g1 w2=>NewK (.cells #[.int .i64 0,.string (⟨#[]⟩:ByteArray),.int .i64 0,.slice none 0 0] 41) w2 (fun g3 w4=>LdsK [.slc,.slc] (ad g1) w4 (fun (x5:SlT×SlT×Unit)=>CallK Tryz.prog 81 #[.agg #[.slice x5.1.1 x5.1.2.1 x5.1.2.2,.slice x5.2.1.1 x5.2.1.2.1 x5.2.1.2.2]] w4 (.v (.agg KZ3)) (fun (x6:YZ3) w7=>NewK (.cells #[.int .i64 0,.string (⟨#[]⟩:ByteArray),.int .i64 0,.slice none 0 0] 41) w7 (fun g8 w9=>StsK (ad g8) (LZ3 x6) w9 (fun w10=>LdsK KZ3 (ad g8) w10 (fun (x11:YZ3)=>CallK Tryz.prog 89 #[.agg (LZ3 x11).toArray,.bool false] w10 (.v (.one (.int .i64))) (fun (x12:Int) w13=>ifB (x12 != 0)
 (StsK (ad g3) [.int .i64 2,.string (⟨#[117,115,100]⟩:ByteArray),.int .i64 0,.slice none 0 0] w13 (fun w14=>LdsK KZ3 (ad g3) w14 (fun (x15:YZ3)=>K (.agg (LZ3 x15).toArray) w14)))
 (LdsK KZ3 (ad g8) w13 (fun (x16:YZ3)=>StsK (ad g3) (LZ3 x16) w13 (fun w17=>LdsK KZ3 (ad g3) w17 (fun (x18:YZ3)=>K (.agg (LZ3 x18).toArray) w17))))))))))))
def pl80:Plan:=.auto
theorem c80 (p0:SlT×SlT×Unit) (w:World) (K:Value→World→Prop) (h:C80 p0 w K):Ret Tryz.prog 80 #[.agg #[.slice p0.1.1 p0.1.2.1 p0.1.2.2,.slice p0.2.1.1 p0.2.1.2.1 p0.2.1.2.2]] w K:=z0z (by kernel_rfl) Tryz.func80 (p:=pl80) (Eq.mpr (by kernel_rfl) h)
theorem IsInts.keep {k:IntKind} {w w':World} {v:Sl} {zs:List Int} (h:IsInts k w v.1 v.2.1 v.2.2 zs) {S:Nat→Prop} (f:Fr S w w') (hn:∀ b,0<v.2.2→blkOf v b→¬ S b):IsInts k w' v.1 v.2.1 v.2.2 zs:=by
 rcases h with h | ⟨x,hx,hl,hc,hz,hcell,hw⟩
 ·exact .inl h
 ·exact .inr ⟨x,hx,hl,hc,hz,fun i hi=>f.cell (hcell i hi) (by rw [show (x.add i).block=x.block by unfold Addr.add;split<;>rfl];exact hn _ (by omega) ⟨x,hx,rfl⟩),hw⟩
theorem IsStrs.keep {w w':World} {v:Sl} {zs:List ByteArray} (h:IsStrs w v.1 v.2.1 v.2.2 zs) {S:Nat→Prop} (f:Fr S w w') (hn:∀ b,0<v.2.2→blkOf v b→¬ S b):IsStrs w' v.1 v.2.1 v.2.2 zs:=by
 rcases h with h | ⟨x,hx,hl,hc,hz,hcell,hw⟩
 ·exact .inl h
 ·exact .inr ⟨x,hx,hl,hc,hz,fun i hi=>f.cell (hcell i hi) (by rw [show (x.add i).block=x.block by unfold Addr.add;split<;>rfl];exact hn _ (by omega) ⟨x,hx,rfl⟩),hw⟩
theorem IsInts.blk {k:IntKind} {w:World} {v:Sl} {zs:List Int} (h:IsInts k w v.1 v.2.1 v.2.2 zs) {b:Nat} (hc:0<v.2.2) (hb:blkOf v b):b<w.heap.size:=by
 obtain ⟨a,ha,rfl⟩:=hb
 rcases h with ⟨h1,_,h3,_⟩ | ⟨x,hx,hl,hc',hz,hcell,hw⟩
 ·omega
 ·rw [ha] at hx;injection hx with hx;subst hx
  have:=blk_of_cell (hcell 0 (by omega))
  rwa [show (a.add 0).block=a.block by unfold Addr.add;split<;>rfl] at this
theorem IsStrs.blk {w:World} {v:Sl} {zs:List ByteArray} (h:IsStrs w v.1 v.2.1 v.2.2 zs) {b:Nat} (hc:0<v.2.2) (hb:blkOf v b):b<w.heap.size:=by
 obtain ⟨a,ha,rfl⟩:=hb
 rcases h with ⟨h1,_,h3,_⟩ | ⟨x,hx,hl,hc',hz,hcell,hw⟩
 ·omega
 ·rw [ha] at hx;injection hx with hx;subst hx
  have:=blk_of_cell (hcell 0 (by omega))
  rwa [show (a.add 0).block=a.block by unfold Addr.add;split<;>rfl] at this
structure IsMk (w:World) (m b:Nat) (i:Int):Prop where
 out:∃ (sn sw:Sl) (l lb:Int) (ns:List Int) (ws:List ByteArray),w.heap[b]? = some (.cells #[.slice sn.1 sn.2.1 sn.2.2,.slice sw.1 sw.2.1 sw.2.2,.int .i64 i,.int .i64 l,.int .i64 lb] 220 (0,0)) ∧
  IsInts .i64 w sn.1 sn.2.1 sn.2.2 ns∧IsStrs w sw.1 sw.2.1 sw.2.2 ws∧(∀ k,0<sn.2.2→blkOf sn k→k<m∧k≠b)∧(∀ k,0<sw.2.2→blkOf sw k→k<m∧k≠b)
 lt:b<m
 le:m≤w.heap.size
structure At (w0:World) (m b:Nat) (i0:Int) (n:Nat) (w:World) (i:Int):Prop where
 mker:IsMk w m b i
 lo:i0≤i
 hi:i≤i0+n
 fr:Fr (only b) w0 w
 le:m≤w0.heap.size
theorem IsMk.keep {w w':World} {m b:Nat} {i:Int} (h:IsMk w m b i) {S:Nat→Prop} (f:Fr S w w') (hn:∀ k,k<m→¬ S k):IsMk w' m b i:=by
 obtain ⟨⟨sn,sw,l,lb,ns,ws,hb,h1,h2,h3,h4⟩,hlt,hle⟩:=h
 exact ⟨⟨sn,sw,l,lb,ns,ws,f.keep hb (hn _ hlt),IsInts.keep h1 f fun k hc hk=>hn k (h3 k hc hk).1,IsStrs.keep h2 f fun k hc hk=>hn k (h4 k hc hk).1,h3,h4⟩,hlt,by have:=f.size;omega⟩
theorem At.keep {w0 w w':World} {m b n:Nat} {i0 i:Int} (h:At w0 m b i0 n w i) {S:Nat→Prop} (f:Fr S w w') (hn:∀ k,k<w0.heap.size→¬ S k):At w0 m b i0 n w' i:=
 ⟨h.mker.keep f (fun k hk=>hn k (by have:=h.le;omega)),h.lo,h.hi,h.fr.comp f (fun x hx t=>(hn x hx t).elim),h.le⟩
theorem At.keep0 {w0 w w':World} {m b n:Nat} {i0 i:Int} (h:At w0 m b i0 n w i) (f:Fr none1 w w'):At w0 m b i0 n w' i:=h.keep f (fun _ _ t=>t)
theorem At.size {w0 w:World} {m b n:Nat} {i0 i:Int} (h:At w0 m b i0 n w i):w0.heap.size≤w.heap.size:=h.fr.size
theorem At.more {w0 w:World} {m b n n':Nat} {i0 i:Int} (h:At w0 m b i0 n w i) (hn:n≤n'):At w0 m b i0 n' w i:=⟨h.mker,h.lo,by have:=h.hi;omega,h.fr,h.le⟩
theorem At.trans {w0 w w':World} {m b n n':Nat} {i0 i i':Int} (h:At w0 m b i0 n w i) (h':At w m b i n' w' i'):At w0 m b i0 (n+n') w' i':=
 ⟨h'.mker,by have:=h.lo;have:=h'.lo;omega,by have:=h.hi;have:=h'.hi;omega,h.fr.trans h'.fr,h.le⟩
theorem At.start {w:World} {m b:Nat} {i:Int} (h:IsMk w m b i):At w m b i 0 w i:=⟨h,Int.le_refl _,by omega,Fr.refl _ _,h.le⟩
theorem mn_spec {w:World} {m b:Nat} {i:Int} (h:IsMk w m b i) (hi:0≤i∧i≤1000000000) (of:Int) (hof:of≤9223372036854775807) :
  Ret Tryz.prog 141 #[.pointer (some ⟨b,0,none⟩),.int .i64 of] w fun r w'=>∃ x:Int,r=.int .i64 x∧0≤x∧(1≤of→x<of)∧At w m b i 1 w' (i+1):=by
 refine c141 _ of w _ ?_
 unfold C141
 obtain ⟨⟨sn,sw,l,lb,ns,ws,hb,h1,h2,h3,h4⟩,hlt,hle⟩:=h
 refine DrewK.of fun w1 _ f1=>LdK.fld (f1.keep0 hb) (x:=i) rfl (LdK.fld (f1.keep0 hb) (x:=sn) rfl ?_)
 have fin:∀ (v:Int) (w2:World),Fr none1 w w2→StK ((⟨b,0,none⟩:Addr).add 2) (.int .i64 (IntKind.i64.wrap (i+1))) w2 (fun w10=>CallK Tryz.prog 14 #[.int .i64 v,.int .i64 of] w10 (.v (.one (.int .i64))) (fun (x11:Int) w12=>
   ∃ x:Int,(Value.int .i64 x11)=.int .i64 x∧0≤x∧(1≤of→x<of)∧At w m b i 1 w12 (i+1))):=fun v w2 f2=>by
  refine StK.fld (f2.keep0 hb) (by show 0+2<5;omega) rfl fun w3 hb3 f3 _=>?_
  refine CallK.of (z30z v of w3 hof) ?_
  rintro _ _ ⟨rfl,rfl⟩
  refine ⟨_,rfl,_,rfl,within_lo v of,fun h=>within_hi v h,?_⟩
  have f13:Fr (only b) w w3:=Fr.of0 f2 f3
  rw [wI (by omega) (by omega)] at hb3
  exact ⟨⟨⟨sn,sw,l,lb,ns,ws,hb3,IsInts.keep h1 f13 fun k hc hk=>(h3 k hc hk).2,IsStrs.keep h2 f13 fun k hc hk=>(h4 k hc hk).2,h3,h4⟩,hlt,by have:=f13.size;omega⟩,by omega,by omega,f13,hle⟩
 refine ifB.dec (fun hlt2=>?_) (fun _=>LdK.fld (f1.keep0 hb) (x:=i) rfl (fin 0 w1 f1))
 refine DrewK.of fun w2 _ f2=>LdK.fld ((f1.trans f2).keep0 hb) (x:=sn) rfl (LdK.fld ((f1.trans f2).keep0 hb) (x:=i) rfl ?_)
 refine IsInts.ld h1 (f1.trans f2) hi.1 hlt2 ?_
 exact LdK.fld ((f1.trans f2).keep0 hb) (x:=i) rfl (fin _ w2 (f1.trans f2))
theorem mword_spec {w:World} {m b:Nat} {i:Int} (h:IsMk w m b i) (hi:0≤i∧i≤1000000000) {u:Sl} {l:List (List UInt8)} (hu:IsSs w u l) (hl:1≤l.length∧l.length≤1000) (hs:∀ s∈l,s.length≤1000) (hub:∀ k,blkOf u k→k≠b) :
  Ret Tryz.prog 142 #[.pointer (some ⟨b,0,none⟩),.slice u.1 u.2.1 u.2.2] w fun r w'=>∃ s:List UInt8,r=.string (str s)∧s.length≤1000∧At w m b i 1 w' (i+1):=by
 refine c142 _ u.1 u.2.1 u.2.2 w _ ?_
 unfold C142
 have hul:=hu.len
 rw [hul,wI (by omega) (by omega)]
 refine CallK.of (mn_spec h hi ((l.length:Int)+6) (by omega)) ?_
 rintro _ w1 ⟨x,rfl,hx0,hx1,a1⟩
 refine ⟨x,rfl,?_⟩
 obtain ⟨⟨sn,sw,l',lb,ns,ws,hb,h1,h2,h3,h4⟩,hlt,hle⟩:=a1.mker
 refine JoinK.of (fun s w'=>(s.1=true→0<sw.2.1)∧w1=w') ?_ ?_
 ·refine ifB.dec (fun _=>LdK.fld hb (x:=sw) rfl (ifB.dec (fun hp=>⟨by decide,fun _=>by omega,rfl⟩) (fun _=>⟨(fun t=>nomatch t),rfl⟩))) (fun _=>⟨(fun t=>nomatch t),rfl⟩)
 rintro _ ⟨c,_⟩ _ ⟨hc,rfl⟩
 dsimp only at hc ⊢
 refine ifB.by (fun e=>?_) (fun e=>?_)
 ·have hpos:=hc e
  refine DrewK.of fun w2 _ f2=>LdK.fld (f2.keep0 hb) (x:=sw) rfl (LdK.fld (f2.keep0 hb) (x:=sw) rfl ?_)
  refine ⟨by omega,?_⟩
  have hm:=Int.tmod_eq_emod_of_nonneg (b:=(sw.2.1:Int)) hx0
  refine IsStrs.ld h2 f2 (by rw [hm];exact Int.emod_nonneg _ (by omega)) (by rw [hm];exact Int.emod_lt_of_pos _ (by omega)) ?_
  rw [← str_of (ws.getD (x.tmod (sw.2.1:Int)).toNat ByteArray.empty)]
  refine CallK.of (text1_spec _ 14 w2 (by omega)) ?_
  rintro _ _ ⟨rfl,rfl⟩
  refine ⟨_,rfl,_,rfl,?_,a1.keep0 f2⟩
  rw [List.length_take]
  have:(14:Int).toNat=14:=rfl
  omega
 ·refine ⟨by omega,?_⟩
  have hm:=Int.tmod_eq_emod_of_nonneg (b:=(l.length:Int)) hx0
  have hm0:=Int.emod_nonneg x (b:=(l.length:Int)) (by omega)
  have hm1:=Int.emod_lt_of_pos x (b:=(l.length:Int)) (by omega)
  have hx2:(x % (l.length:Int)).toNat<l.length:=by omega
  have hu1:IsSs w1 u l:=IsSl.keep hu a1.fr fun k hk t=>hub k hk t
  have:=hu1.ld (i:=(x % (l.length:Int)).toNat) (s:=l.getD (x % (l.length:Int)).toNat []) (by rw [List.getD_eq_getElem?_getD,List.getElem?_eq_getElem hx2];rfl)
   (K:=fun x15=>∃ s:List UInt8,(Value.string x15)=.string (str s)∧s.length≤1000∧At w m b i 1 w1 (i+1)) ⟨_,rfl,by
    refine hs _ ?_
    rw [List.getD_eq_getElem?_getD,List.getElem?_eq_getElem hx2];exact List.getElem_mem hx2,a1⟩
  rw [hul] at this
  rw [hm,show x % (l.length:Int)=(((x % (l.length:Int)).toNat:Nat):Int) by omega]
  exact this
theorem wrap_rg (x:Int):-9223372036854775808≤IntKind.i64.wrap x∧IntKind.i64.wrap x≤9223372036854775807:=by
 have e:IntKind.i64.wrap x=if x % 18446744073709551616 ≥ 9223372036854775808 then x % 18446744073709551616 - 18446744073709551616 else x % 18446744073709551616:=by
  unfold IntKind.wrap;simp [IntKind.signed,IntKind.bits]
 rw [e];split<;>omega
theorem IsMk.left_rd {w:World} {m b:Nat} {i:Int} (h:IsMk w m b i) {K:Int→Prop} (k:∀ x,K x):LdK (.int .i64) ((⟨b,0,none⟩:Addr).add 3) w K:=by
 obtain ⟨⟨sn,sw,l,lb,ns,ws,hb,h1,h2,h3,h4⟩,hlt,hle⟩:=h
 exact LdK.fld hb (x:=l) rfl (k l)
theorem IsMk.left_st {w:World} {m b:Nat} {i:Int} (h:IsMk w m b i) (x:Int) {K:World→Prop} (k:∀ w',At w m b i 0 w' i→K w'):StK ((⟨b,0,none⟩:Addr).add 3) (.int .i64 x) w K:=by
 obtain ⟨⟨sn,sw,l,lb,ns,ws,hb,h1,h2,h3,h4⟩,hlt,hle⟩:=h
 refine StK.fld hb (by show 0+3<5;omega) rfl fun w3 hb3 f3 _=>k w3 ?_
 exact ⟨⟨⟨sn,sw,x,lb,ns,ws,hb3,IsInts.keep h1 f3 fun k hc hk=>(h3 k hc hk).2,IsStrs.keep h2 f3 fun k hc hk=>(h4 k hc hk).2,h3,h4⟩,hlt,by have:=f3.size;omega⟩,Int.le_refl _,by omega,f3,hle⟩
theorem IsMk.label_ok {w:World} {m b:Nat} {i:Int} (h:IsMk w m b i) {K:Int→World→Prop} (k:∀ x w',-9223372036854775808≤x→x≤9223372036854775807→At w m b i 0 w' i→K x w') :
  LdK (.int .i64) ((⟨b,0,none⟩:Addr).add 4) w fun (x:Int)=>StK ((⟨b,0,none⟩:Addr).add 4) (.int .i64 (IntKind.i64.wrap (x+1))) w fun w2=>LdK (.int .i64) ((⟨b,0,none⟩:Addr).add 4) w2 fun (y:Int)=>K y w2:=by
 obtain ⟨⟨sn,sw,l,lb,ns,ws,hb,h1,h2,h3,h4⟩,hlt,hle⟩:=h
 refine LdK.fld hb (x:=lb) rfl ?_
 refine StK.fld hb (by show 0+4<5;omega) rfl fun w3 hb3 f3 _=>?_
 refine LdK.fld hb3 (x:=IntKind.i64.wrap (lb+1)) rfl ?_
 have:=wrap_rg (lb+1)
 exact k _ w3 this.1 this.2 ⟨⟨⟨sn,sw,l,_,ns,ws,hb3,IsInts.keep h1 f3 fun k hc hk=>(h3 k hc hk).2,IsStrs.keep h2 f3 fun k hc hk=>(h4 k hc hk).2,h3,h4⟩,hlt,by have:=f3.size;omega⟩,Int.le_refl _,by omega,f3,hle⟩
theorem elem_tr:ElemOk Tryz.prog 39 41 4 (.agg #[.int .i64 0,.string ⟨#[]⟩,.int .i64 0,.slice none 0 0]) 56:=⟨Tryz.underlying39,⟨Tryz.t41,by kernel_rfl,rfl,rfl,rfl⟩,rfl,by decide⟩
theorem elem_int:ElemOk Tryz.prog 26 3 1 (.int .i64 0) 8:=⟨Tryz.underlying26,⟨Tryz.t3,by kernel_rfl,rfl,rfl,rfl⟩,rfl,by decide⟩
def since (w w':World):Nat→Prop:=fun k=>w.heap.size≤k∧k<w'.heap.size
def Made (w w':World) (t:Tr) (v:TV):Prop:=IsTr w' (since w w') t v
theorem Made.keep {w w1 w2:World} {t:Tr} {v:TV} (h:Made w w1 t v) {S:Nat→Prop} (f:Fr S w1 w2) (hn:∀ k,w.heap.size≤k→k<w1.heap.size→¬ S k):Made w w2 t v:=
 IsTr.mono (fun k hk=>⟨hk.1,by have:=f.size;have:=hk.2;omega⟩) t v (IsTr.keep f (fun k hk=>hn k hk.1 hk.2) t v h)
theorem Made.keep0 {w w1 w2:World} {t:Tr} {v:TV} (h:Made w w1 t v) (f:Fr none1 w1 w2):Made w w2 t v:=h.keep f (fun _ _ _ t=>t)
theorem Made.older {w0 w w':World} {t:Tr} {v:TV} (h:Made w w' t v) (hs:w0.heap.size≤w.heap.size):Made w0 w' t v:=IsTr.mono (fun k hk=>⟨by have:=hk.1;omega,hk.2⟩) t v h
theorem z17z (w w':World) (k:Int) (s:List UInt8) (n:Int):Made w w' (.mk k s n []) (k,str s,n,(none,0,0),()):=by
 unfold Made IsTr
 exact ⟨rfl,rfl,rfl,[],⟨rfl,fun _=>⟨rfl,rfl,rfl⟩,fun a ha=>by cases ha⟩,rfl,fun b t=>(z39z b t).elim,by unfold IsTrs;rfl⟩
theorem z24z {w w':World} {u:Sl} {vs:List TV} {ks:List Tr} (k:Int) (s:List UInt8) (n:Int) (hu:IsSl w' 41 4 u (vs.map tvL).flatten) (hl:u.2.1=vs.length) (hub:∀ k,blkOf u k→w.heap.size≤k) (h:IsTrs w' (since w w') ks vs) :
  Made w w' (.mk k s n ks) (k,str s,n,u,()):=by
 unfold Made IsTr
 exact ⟨rfl,rfl,rfl,vs,hu.rd,hl.symm,fun b hb=>⟨hub b hb,hu.lt hb⟩,h⟩
theorem made1 {w w':World} {t:Tr} {v:TV} (h:Made w w' t v):IsTrs w' (since w w') [t] [v]:=by
 unfold IsTrs;exact ⟨v,[],rfl,h,by unfold IsTrs;rfl⟩
theorem made2 {w w':World} {t t2:Tr} {v v2:TV} (h:Made w w' t v) (h2:Made w w' t2 v2):IsTrs w' (since w w') [t,t2] [v,v2]:=by
 unfold IsTrs;exact ⟨v,[v2],rfl,h,made1 h2⟩
theorem made3 {w w':World} {t t2 t3:Tr} {v v2 v3:TV} (h:Made w w' t v) (h2:Made w w' t2 v2) (h3:Made w w' t3 v3):IsTrs w' (since w w') [t,t2,t3] [v,v2,v3]:=by
 unfold IsTrs;exact ⟨v,[v2,v3],rfl,h,made2 h2 h3⟩
theorem ob2 {kk:Int} (h:kk=13∨kk=15∨kk=16) (l r:Ob):∃ o:Ob,trO o=.mk kk [] 0 [trO l,trO r]∧nodesO o=nodesO l+nodesO r+1∧(shortO l→shortO r→shortO o):=by
 rcases h with rfl | rfl | rfl
 ·exact ⟨.add l r,rfl,rfl,fun a b=>⟨a,b⟩⟩
 ·exact ⟨.mul l r,rfl,rfl,fun a b=>⟨a,b⟩⟩
 ·exact ⟨.max l r,rfl,rfl,fun a b=>⟨a,b⟩⟩
def coN:Nat→Nat
 | 0=>4
 | d+1=>2 * coN d+6
def MO (w:World) (m b:Nat) (i:Int) (n:Nat) (v:TV) (w':World):Prop:=
 ∃ (o:Ob) (i':Int),Made w w' (trO o) v∧nodesO o≤n∧shortO o∧At w m b i n w' i'
abbrev TVK:List Ck:=[.int .i64,.str,.int .i64,.slc]
def TB (w:World) (g:Nat) (v:TV):Prop:=w.heap[g]? = some (.cells (tvL v).toArray 41 (0,0))
theorem TB.keep {w w':World} {g:Nat} {v:TV} (h:TB w g v) {S:Nat→Prop} (f:Fr S w w') (hn:¬ S g):TB w' g v:=f.keep h hn
theorem TB.keep0 {w w':World} {g:Nat} {v:TV} (h:TB w g v) (f:Fr none1 w w'):TB w' g v:=f.keep0 h
theorem TB.k {w:World} {g:Nat} {v:TV} (h:TB w g v) (x:Int) {K:World→Prop} (k:∀ w',TB w' g (x,v.2)→Fr (only g) w w'→K w'):StK ((⟨g,0,none⟩:Addr).add 0) (.int .i64 x) w K:=
 StK.fld h (by show 0+0<4;omega) rfl fun w' hb f _=>k w' hb f
theorem TB.s {w:World} {g:Nat} {v:TV} (h:TB w g v) (x:ByteArray) {K:World→Prop} (k:∀ w',TB w' g (v.1,x,v.2.2)→Fr (only g) w w'→K w'):StK ((⟨g,0,none⟩:Addr).add 1) (.string x) w K:=
 StK.fld h (by show 0+1<4;omega) rfl fun w' hb f _=>k w' hb f
theorem TB.n {w:World} {g:Nat} {v:TV} (h:TB w g v) (x:Int) {K:World→Prop} (k:∀ w',TB w' g (v.1,v.2.1,x,v.2.2.2)→Fr (only g) w w'→K w'):StK ((⟨g,0,none⟩:Addr).add 2) (.int .i64 x) w K:=
 StK.fld h (by show 0+2<4;omega) rfl fun w' hb f _=>k w' hb f
theorem TB.u {w:World} {g:Nat} {v:TV} (h:TB w g v) (x:Sl) {K:World→Prop} (k:∀ w',TB w' g (v.1,v.2.1,v.2.2.1,x,())→Fr (only g) w w'→K w'):StK ((⟨g,0,none⟩:Addr).add 3) (.slice x.1 x.2.1 x.2.2) w K:=
 StK.fld h (by show 0+3<4;omega) rfl fun w' hb f _=>k w' hb f
theorem TB.ld {w:World} {g:Nat} {v:TV} (h:TB w g v) {K:TV→Prop} (k:K v):LdsK TVK ⟨g,0,none⟩ w K:=LdsK.blk (cks:=TVK) (x:=v) h k
theorem TB.new {w:World} {K:Nat→World→Prop} (k:∀ g w1,w.heap.size=g→TB w1 g (0,str [],0,(none,0,0),())→Fr none1 w w1→w1.heap.size=g+1→K g w1) :
  NewK (.cells #[.int .i64 0,.string (⟨#[]⟩:ByteArray),.int .i64 0,.slice none 0 0] 41) w K:=NewK.of fun g w1 h1 h2 h3 h4=>k g w1 h1 h2 h3 h4
theorem TB.put {w:World} (v:TV) {K:Nat→World→Prop} (k:∀ g w1,w.heap.size=g→TB w1 g v→Fr none1 w w1→K g w1) :
  NewK (.cells #[.int .i64 0,.string (⟨#[]⟩:ByteArray),.int .i64 0,.slice none 0 0] 41) w fun g w1=>StsK ⟨g,0,none⟩ (tvL v) w1 fun w2=>K g w2:=
 ns_ok (zs:=[.int .i64 0,.string (⟨#[]⟩:ByteArray),.int .i64 0,.slice none 0 0]) (vs:=tvL v) rfl rfl fun g w1 h1 h2 h3=>k g w1 h1 h2 h3
theorem tr_lit {w:World} (vs:List TV) (hl:vs.length≤3) {K:Option Addr×Nat×Nat→World→Prop} (k:∀ (u:Sl) w',IsSl w' 41 4 u (vs.map tvL).flatten→u.2.1=vs.length→Fr none1 w w'→(∀ j,blkOf u j→w.heap.size≤j)→K u w') :
  RunK Tryz.prog (Instr.buildSlice 39 vs.length (((vs.map tvL).zipIdx.map fun (l,i)=>(i,Value.agg l.toArray)).toArray)) w (.v (.one .slc)) fun (x:Option Addr×Nat×Nat) w'=>K x w':=by
 obtain ⟨u,w',hr,hs,hul,f,hf⟩:=lits_ok (P:=Tryz.prog) (w:=w) elem_tr (vs.map tvL) (tvL_len vs) (by rw [List.length_map];omega)
 rw [List.length_map] at hr hul
 exact ⟨u,w',hr,k u w' hs hul f hf⟩
theorem fin_made {w wB wc:World} {m b g n':Nat} {i i':Int} {v0 v:TV} {t:Tr} (a:At w m b i n' wc i') (hg:w.heap.size≤g) (hgB:g<wB.heap.size) (hB:w.heap.size≤wB.heap.size) (tb:TB wc g v0) (hm:Made wB wc t v) {K:TV→World→Prop}
  (k:∀ w2,At w m b i n' w2 i'→Made w w2 t v→K v w2):StsK ⟨g,0,none⟩ (tvL v) wc fun w2=>LdsK TVK ⟨g,0,none⟩ w2 fun x=>K x w2:=
 StsK.blk (cs:=tvL v0) (vs:=tvL v) tb rfl rfl fun w2 hb2 f2 _=>LdsK.blk (cks:=TVK) (x:=v) hb2 (k w2 (a.keep f2 fun k hk t=>by have:k=g:=t;omega) ((hm.keep f2 fun k hk _ t=>by have:k=g:=t;omega).older hB))
theorem ints_lit {w:World} (ns:List Int) (hl:ns.length≤100) {K:Option Addr×Nat×Nat→World→Prop} (k:∀ (u:Sl) w',IsSl w' 3 1 u (ns.map (Value.int .i64))→u.2.1=ns.length→Fr none1 w w'→(∀ j,blkOf u j→w.heap.size≤j)→K u w') :
  RunK Tryz.prog (Instr.buildSlice 26 ns.length (((ns.map (Value.int .i64)).zipIdx.map fun (v,i)=>(i,v)).toArray)) w (.v (.one .slc)) fun (x:Option Addr×Nat×Nat) w'=>K x w':=by
 obtain ⟨u,w',hr,hs,hul,f,hf⟩:=lit_ok (P:=Tryz.prog) (w:=w) elem_int (ns.map (Value.int .i64)) (by intro v hv;obtain ⟨x,_,rfl⟩:=List.mem_map.1 hv;rfl) (by rw [List.length_map];omega)
 rw [List.length_map] at hr hul
 exact ⟨u,w',hr,k u w' hs hul f hf⟩
theorem words_lit {w:World} (ss:List (List UInt8)) (hl:ss.length≤100) {K:Option Addr×Nat×Nat→World→Prop} (k:∀ (u:Sl) w',IsSs w' u ss→Fr none1 w w'→(∀ j,blkOf u j→w.heap.size≤j)→K u w') :
  RunK Tryz.prog (Instr.buildSlice 27 ss.length (((ss.map sv).zipIdx.map fun (v,i)=>(i,v)).toArray)) w (.v (.one .slc)) fun (x:Option Addr×Nat×Nat) w'=>K x w':=by
 obtain ⟨u,w',hr,hs,hul,f,hf⟩:=lit_ok (P:=Tryz.prog) (w:=w) elem_str (ss.map sv) (by intro v hv;obtain ⟨x,_,rfl⟩:=List.mem_map.1 hv;rfl) (by rw [List.length_map];omega)
 rw [List.length_map] at hr
 exact ⟨u,w',hr,k u w' hs f hf⟩
theorem At.mkr {w:World} {m b n:Nat} {i i':Int} {w':World} (a:At w m b i n w' i'):IsMk w' m b i':=a.mker
theorem At.b_lt {w:World} {m b n:Nat} {i i':Int} {w':World} (a:At w m b i n w' i'):b<m∧m≤w.heap.size:=⟨a.mker.lt,a.le⟩
theorem mobs_spec:∀ (d:Nat) {w:World} {m b:Nat} {i:Int} (h:IsMk w m b i) (p1:Int) (hp:p1≤d) (hp0:-1000≤p1) (hp2:p1≤1000) (hi:0≤i) (hn:i+coN d≤1000000000),
  Ret Tryz.prog 143 #[.pointer (some ⟨b,0,none⟩),.int .i64 p1] w fun r w'=>∃ v:TV,r=tvA v∧MO w m b i (coN d) v w':=by
 intro d
 induction d using Nat.strongRecOn with
 | _ d IH=>
 intro w m b i h p1 hp hp0 hp2 hi hn
 refine c143 _ p1 w _ ?_
 unfold C143
 have hco:4≤coN d:=by cases d<;>simp [coN]
 have hbm:=h.lt
 have hmw:=h.le
 refine TB.new fun g1 w1 hg1 tb1 f1 hs1=>?_
 have a1:=(At.start h).keep0 f1
 refine a1.mkr.left_rd fun x3=>a1.mkr.left_st _ fun w2 a2'=>?_
 have a2:=a1.trans a2'
 have tb2:=tb1.keep a2'.fr (fun t=>by have:g1=b:=t;omega)
 refine CallK.of (mn_spec a2.mkr (by omega) 9 (by omega)) ?_
 rintro _ w3 ⟨x5,rfl,hx0,hx9,a3'⟩
 refine ⟨x5,rfl,?_⟩
 have a3:=a2.trans a3'
 have tb3:=tb2.keep a3'.fr (fun t=>by have:g1=b:=t;omega)
 have hx9:=hx9 (by omega)
 refine JoinK.of (fun s w'=>0≤s.1∧s.1<9∧(p1≤0→s.1<3)∧w3=w') ?_ ?_
 ·refine JoinK.of (fun s w'=>(p1≤0→s.1=true)∧w3=w') ?_ ?_
  ·exact ifB.dec (fun _=>⟨fun _=>rfl,rfl⟩) (fun hp=>a3.mkr.left_rd fun x=>⟨fun t=>absurd t hp,rfl⟩)
  ·rintro _ ⟨c,_⟩ _ ⟨hc,rfl⟩
   dsimp only at hc ⊢
   have hm3:=Int.tmod_eq_emod_of_nonneg (b:=(3:Int)) hx0
   refine ifB.by (fun e=>⟨by omega,?_⟩) (fun e=>⟨hx0,hx9,fun t=>(by rw [hc t] at e;cases e),rfl⟩)
   exact ⟨by omega,by omega,fun _=>by omega,rfl⟩
 rintro _ ⟨k,_⟩ _ ⟨hk0,hk9,hkp,rfl⟩
 dsimp only at hk0 hk9 hkp ⊢
 have hsz3:w.heap.size≤w3.heap.size:=a3.size
 have hg3:g1<w3.heap.size:=z3z tb3
 have hgb:g1≠b:=by omega
 -- what a part is
 have ih:0<p1→∃ d',coN d=2 * coN d'+6∧∀ {w':World} {i':Int},IsMk w' m b i'→0≤i'→i'+coN d'≤1000000000 →
   Ret Tryz.prog 143 #[.pointer (some ⟨b,0,none⟩),.int .i64 (IntKind.i64.wrap (p1 - 1))] w' fun r w''=>∃ v:TV,r=tvA v∧MO w' m b i' (coN d') v w'':=fun hpos=>by
  cases d with
  | zero=>omega
  | succ d'=>
   refine ⟨d',rfl,fun hmk h0 h1=>?_⟩
   rw [wI (by omega) (by omega)]
   exact IH d' (by omega) hmk (p1 - 1) (by omega) (by omega) (by omega) h0 h1
 -- a leaf
 have leafK:∀ {wB wc:World} {n':Nat} {i':Int} {o:Ob} {v:TV},At w m b i n' wc i'→n'≤4→TB wc g1 (0,str [],0,(none,0,0),())→Made wc wc (trO o) v→nodesO o≤1→shortO o →
   StsK ⟨g1,0,none⟩ (tvL v) wc fun w2=>LdsK TVK ⟨g1,0,none⟩ w2 fun x=>∃ v:TV,tvA x=tvA v∧MO w m b i (coN d) v w2:=fun {wB wc n' i' o v} a hn' tb hm ho hs=>
  fin_made a (by omega) (z3z tb) a.size tb hm fun w2 a' hm'=>⟨v,rfl,o,i',hm',by omega,hs,a'.more (by omega)⟩
 have fixK:RunK Tryz.prog (Instr.buildSlice 27 3 #[(0,.string (⟨#[108,105,98,111,114]⟩:ByteArray)),(1,.string (⟨#[114,97,105,110]⟩:ByteArray)),(2,.string (⟨#[195,182,108]⟩:ByteArray))]) w3 (.v (.one .slc)) (fun (x40:Option Addr×Nat×Nat) w41=>
   CallK Tryz.prog 142 #[.pointer (some ⟨b,0,none⟩),.slice x40.1 x40.2.1 x40.2.2] w41 (.v (.one .str)) (fun (x42:ByteArray) w43=>StsK (⟨g1,0,none⟩:Addr) [.int .i64 12,.string x42,.int .i64 0,.slice none 0 0] w43 (fun w44=>
    LdsK TVK (⟨g1,0,none⟩:Addr) w44 (fun x45=>∃ v:TV,tvA x45=tvA v∧MO w m b i (coN d) v w44)))):=by
  refine words_lit [[108,105,98,111,114],[114,97,105,110],[195,182,108]] (by decide) fun u w4 hu f4 hf4=>?_
  have a4:=a3.keep0 f4
  refine CallK.of (mword_spec a4.mkr (by omega) hu (by decide) (by decide) (fun k hk=>by have:=hf4 k hk;omega)) ?_
  rintro _ w5 ⟨s,rfl,hsl,a5'⟩
  refine ⟨_,rfl,?_⟩
  exact leafK (wB:=w5) (a4.trans a5') (by omega) ((tb3.keep0 f4).keep a5'.fr (fun t=>hgb t)) (o:=.fix s) (v:=(12,str s,0,(none,0,0),())) (z17z _ _ 12 s 0) (Nat.le_refl _) hsl
 have negK:3≤k→CallK Tryz.prog 143 #[.pointer (some ⟨b,0,none⟩),.int .i64 (IntKind.i64.wrap (p1 - 1))] w3 (.v (.agg TVK)) (fun (x46:TV) w47=>RunK Tryz.prog (Instr.buildSlice 39 1 #[(0,tvA x46)]) w47 (.v (.one .slc)) (fun (x48:Option Addr×Nat×Nat) w49=>
   StsK (⟨g1,0,none⟩:Addr) [.int .i64 14,.string (⟨#[]⟩:ByteArray),.int .i64 0,.slice x48.1 x48.2.1 x48.2.2] w49 (fun w50=>LdsK TVK (⟨g1,0,none⟩:Addr) w50 (fun x51=>∃ v:TV,tvA x51=tvA v∧MO w m b i (coN d) v w50)))):=fun hk=>by
  obtain ⟨d',hd',ih⟩:=ih (by omega)
  refine CallK.of (ih a3.mkr (by have:=a3.lo;omega) (by have:=a3.hi;omega)) ?_
  rintro _ w4 ⟨x,rfl,o,i',hm,hno,hso,a4'⟩
  refine ⟨x,rfl,?_⟩
  have a4:=a3.trans a4'
  refine tr_lit [x] (by show 1≤3;omega) fun u w5 hu hul f5 hf5=>?_
  refine fin_made (wB:=w3) (v:=(14,str [],0,u,())) (t:=trO (.neg o)) (a4.keep0 f5) (by omega) hg3 hsz3 ((tb3.keep a4'.fr (fun t=>hgb t)).keep0 f5) (z24z 14 [] 0 hu hul (fun k hk=>by have:=hf5 k hk;have:=a4'.size;omega) (made1 (hm.keep0 f5))) fun w6 a6 hm6=>?_
  exact ⟨_,rfl,.neg o,i',hm6,by unfold nodesO;omega,hso,a6.more (by omega)⟩
 refine JoinK.of (fun _ w'=>6≤k∧w3=w') ?_ ?_
 ·refine JoinK.of (fun s w'=>(s.1=true↔k=0∨k=1)∧w3=w') ?_ ?_
  ·refine ifB.eq (fun e=>⟨by simp [e],rfl⟩) (fun e=>⟨by simp [e],rfl⟩)
  rintro _ ⟨c,_⟩ _ ⟨hc,rfl⟩
  dsimp only at hc ⊢
  refine ifB.by (fun e=>?_) (fun e=>?_)
  ·refine ints_lit [0,1,-1,2,100,-7,1000000,1000000000000,-1000000000000,3] (by decide) fun u w4 hu hul f4 hf4=>?_
   have a4:=a3.keep0 f4
   refine CallK.of (mn_spec a4.mkr (by omega) 10 (by omega)) ?_
   rintro _ w5 ⟨x,rfl,hx0',hx10,a5'⟩
   refine ⟨x,rfl,?_⟩
   have hx10:=hx10 (by omega)
   have hu5:IsSl w5 3 1 u _:=hu.keep a5'.fr (fun k hk t=>by have:k=b:=t;have:=hf4 k hk;omega)
   have hxn:x.toNat<10:=by omega
   refine IsSl.ld hu5 (c:=.int .i64) (x:=([0,1,-1,2,100,-7,1000000,1000000000000,-1000000000000,3]:List Int).getD x.toNat 0) hx0' (by rw [hul];show x<10;omega) ?_ ?_
   ·rw [List.getElem?_map,List.getD_eq_getElem?_getD,List.getElem?_eq_getElem (by show x.toNat<10;omega)];rfl
   ·exact leafK (wB:=w5) (a4.trans a5') (by omega) ((tb3.keep0 f4).keep a5'.fr (fun t=>hgb t)) (o:=.const _) (v:=(11,str [],_,(none,0,0),())) (z17z _ _ 11 [] _) (Nat.le_refl _) trivial
  ·have hk2:¬ (k=0∨k=1):=fun t=>by rw [hc.2 t] at e;cases e
   refine ifB.eq (fun e2=>?_) (fun e2=>?_)
   ·refine ifB.t (by simp [e2]) fixK
   refine ifB.eq (fun e3=>ifB.t (by simp [e3]) fixK) (fun e3=>?_)
   refine ifB.eq (fun e4=>fixK) (fun e4=>?_)
   refine ifB.eq (fun e5=>negK (by omega)) (fun e5=>⟨by omega,rfl⟩)
 rintro _ _ _ ⟨hk6,rfl⟩
 obtain ⟨d',hd',ih⟩:=ih (by omega)
 refine CallK.of (ih a3.mkr (by have:=a3.lo;omega) (by have:=a3.hi;omega)) ?_
 rintro _ w4 ⟨x,rfl,o,i',hm,hno,hso,a4'⟩
 refine ⟨x,rfl,?_⟩
 have a4:=a3.trans a4'
 refine TB.put x fun g2 w5 hg2 tbx f5=>?_
 refine DrewK.of fun w6 _ f6=>HoldK.of (fun k=>k≠b∧k≠g1) ?_
 have f56:=f5.trans f6
 have a6:=a4.keep0 f56
 have hsz4:=a4'.size
 have hg2b:g2≠b∧g2≠g1:=by omega
 refine ⟨hg2b,(tbx.keep0 f6).ld ?_⟩
 have tb6:=(tb3.keep a4'.fr (fun t=>hgb t)).keep0 f56
 have hm6:=hm.keep0 f56
 have kk:∀ (u:Sl) (w':World),IsSl w' 3 1 u ([13,15,16].map (Value.int .i64))→u.2.1=3→∀ {K:Int→Prop},(∀ y,(y=13∨y=15∨y=16)→K y)→(∀ j,blkOf u j→j≠b∧j≠g1) →
   IdxK u.1 u.2.1 (IntKind.i64.wrap (k - 6)) 1 fun a=>InK (fun k=>k≠b∧k≠g1) a (LdK (.int .i64) a w' K):=fun u w' hu hul K hK hj=>by
  rw [wI (by omega) (by omega)]
  have h3:k - 6=0∨k - 6=1∨k - 6=2:=by omega
  have base:IdxK u.1 u.2.1 (k - 6) 1 fun a=>LdK (.int .i64) a w' K:=by
   rcases h3 with e | e | e
   ·exact IsSl.ld hu (c:=.int .i64) (x:=13) (by omega) (by omega) (by rw [e];rfl) (hK _ (by decide))
   ·exact IsSl.ld hu (c:=.int .i64) (x:=15) (by omega) (by omega) (by rw [e];rfl) (hK _ (by decide))
   ·exact IsSl.ld hu (c:=.int .i64) (x:=16) (by omega) (by omega) (by rw [e];rfl) (hK _ (by decide))
  obtain ⟨a,ha,h0,h1,hl⟩:=base.out
  refine ⟨a,ha,h0,h1,⟨?_,hl⟩⟩
  have:=hj a.block ⟨a,ha,rfl⟩
  rw [show (a.add ((k - 6).toNat * 1)).block=a.block by unfold Addr.add;split<;>rfl]
  exact this
 have notb:∀ k,(fun k=>k≠b∧k≠g1) k→¬ only b k:=fun k hk t=>hk.1 t
 have notg:∀ k,(fun k=>k≠b∧k≠g1) k→¬ only g1 k:=fun k hk t=>hk.2 t
 have fin2:∀ {w' w9:World} {y:TV} {o2:Ob} {i2:Int} {n2:Nat} {kd:Int} {u:Sl},At w m b i n2 w9 i2→n2≤coN d→TB w9 g1 (0,str [],0,(none,0,0),())→(kd=13∨kd=15∨kd=16)→IsSl w9 41 4 u ([x,y].map tvL).flatten→u.2.1=2 →
   (∀ j,blkOf u j→w3.heap.size≤j)→Made w3 w9 (trO o) x→Made w3 w9 (trO o2) y→nodesO o2≤coN d'→shortO o2 →
   StsK (⟨g1,0,none⟩:Addr) [.int .i64 kd,.string (⟨#[]⟩:ByteArray),.int .i64 0,.slice u.1 u.2.1 u.2.2] w9 (fun w80=>KeepK (fun k=>k≠b∧k≠g1) w9 w80 (LdsK TVK (⟨g1,0,none⟩:Addr) w80 (fun x81=>∃ v:TV,tvA x81=tvA v∧MO w m b i (coN d) v w80))):=fun {w' w9 y o2 i2 n2 kd u} a hn2 tb hkd hu hul huf hmx hmy hno2 hso2=>by
  obtain ⟨ob,e1,e2,e3⟩:=ob2 hkd o o2
  refine StsK.blk (cs:=tvL _) (vs:=tvL (kd,str [],0,u,())) tb rfl rfl fun w2 hb2 f2 _=>KeepK.on f2 notg ?_
  refine LdsK.blk (cks:=TVK) (x:=(kd,str [],0,u,())) hb2 ?_
  have hnode:Made w3 w9 (trO ob) (kd,str [],0,u,()):=by rw [e1];exact z24z kd [] 0 hu hul huf (made2 hmx hmy)
  exact ⟨_,rfl,ob,i2,(hnode.keep f2 fun k hk _ t=>by have:k=g1:=t;omega).older hsz3,by omega,e3 hso hso2,(a.keep f2 fun k hk t=>by have:k=g1:=t;omega).more hn2⟩
 refine ⟨?_,?_⟩
 ·refine ints_lit [13,15,16] (by decide) fun u w7 hu hul f7 hf7=>KeepK.of f7 ?_
  have hub:∀ j,blkOf u j→j≠b∧j≠g1:=fun j hj=>by have:=hf7 j hj;have:=f56.size;omega
  refine kk u w7 hu hul (fun kd hkd=>?_) hub
  have a7:=a6.keep0 f7
  refine CallK.of (ih a7.mkr (by have:=a7.lo;omega) (by have:=a7.hi;omega)) ?_
  rintro _ w8 ⟨y,rfl,o2,i2,hm2,hno2,hso2,a8'⟩
  refine ⟨y,rfl,KeepK.on a8'.fr notb ?_⟩
  have a8:=a7.trans a8'
  refine tr_lit [x,y] (by show 2≤3;omega) fun v w9 hv hvl f9 hf9=>KeepK.of f9 ?_
  have hs7:=f56.size
  have hs8:=f7.size
  have hs9:=a8'.size
  exact fin2 (w':=w8) (a8.keep0 f9) (by omega) (((tb6.keep0 f7).keep a8'.fr (fun t=>hgb t)).keep0 f9) hkd hv hvl (fun j hj=>by have:=hf9 j hj;omega) (((hm6.keep0 f7).keep a8'.fr (fun k hk _ t=>by have:k=b:=t;omega)).keep0 f9) ((hm2.keep0 f9).older (by omega)) hno2 hso2
 ·refine CallK.of (ih a6.mkr (by have:=a6.lo;omega) (by have:=a6.hi;omega)) ?_
  rintro _ w8 ⟨y,rfl,o2,i2,hm2,hno2,hso2,a8'⟩
  refine ⟨y,rfl,KeepK.on a8'.fr notb ?_⟩
  have a8:=a6.trans a8'
  have hs7:=f56.size
  have hs9:=a8'.size
  have tb8:=tb6.keep a8'.fr (fun t=>hgb t)
  have hm8:=hm6.keep a8'.fr (fun k hk _ t=>by have:k=b:=t;omega)
  refine ⟨?_,?_⟩
  ·refine ints_lit [13,15,16] (by decide) fun u w7 hu hul f7 hf7=>KeepK.of f7 ?_
   have hub:∀ j,blkOf u j→j≠b∧j≠g1:=fun j hj=>by have:=hf7 j hj;omega
   refine kk u w7 hu hul (fun kd hkd=>?_) hub
   have hs10:=f7.size
   refine tr_lit [x,y] (by show 2≤3;omega) fun v w9 hv hvl f9 hf9=>KeepK.of f9 ?_
   exact fin2 (w':=w8) ((a8.keep0 f7).keep0 f9) (by omega) ((tb8.keep0 f7).keep0 f9) hkd hv hvl (fun j hj=>by have:=hf9 j hj;omega) ((hm8.keep0 f7).keep0 f9) (((hm2.keep0 f7).keep0 f9).older (by omega)) hno2 hso2
  ·refine tr_lit [x,y] (by show 2≤3;omega) fun v w9 hv hvl f9 hf9=>KeepK.of f9 ?_
   refine ints_lit [13,15,16] (by decide) fun u w7 hu hul f7 hf7=>KeepK.of f7 ?_
   have hs10:=f9.size
   have hub:∀ j,blkOf u j→j≠b∧j≠g1:=fun j hj=>by have:=hf7 j hj;omega
   refine kk u w7 hu hul (fun kd hkd=>?_) hub
   exact fin2 (w':=w8) ((a8.keep0 f9).keep0 f7) (by omega) ((tb8.keep0 f9).keep0 f7) hkd (hv.keep0 f7) hvl (fun j hj=>by have:=hf9 j hj;omega) ((hm8.keep0 f9).keep0 f7) (((hm2.keep0 f9).keep0 f7).older (by omega)) hno2 hso2
def coT:Nat→Nat
 | 0=>4
 | d+1=>2 * coT d+50
def MT (w:World) (m b:Nat) (i:Int) (n:Nat) (v:TV) (w':World):Prop:=
 ∃ (t:Tm) (i':Int),Made w w' (trT t) v∧nodesT t≤n∧shortT t∧At w m b i n w' i'
def MadeL (w w':World) (ts:List Tr) (vs:List TV):Prop:=IsTrs w' (since w w') ts vs
theorem MadeL.keep {w w1 w2:World} {t:List Tr} {v:List TV} (h:MadeL w w1 t v) {S:Nat→Prop} (f:Fr S w1 w2) (hn:∀ k,w.heap.size≤k→k<w1.heap.size→¬ S k):MadeL w w2 t v:=
 IsTrs.mono (fun k hk=>⟨hk.1,by have:=f.size;have:=hk.2;omega⟩) t v (IsTrs.keep f (fun k hk=>hn k hk.1 hk.2) t v h)
theorem MadeL.keep0 {w w1 w2:World} {t:List Tr} {v:List TV} (h:MadeL w w1 t v) (f:Fr none1 w1 w2):MadeL w w2 t v:=h.keep f (fun _ _ _ t=>t)
theorem itoa_short (x:Int) (h0:-9223372036854775808≤x) (h1:x≤9223372036854775807):(Lib.itoa x).length≤30:=by
 unfold Lib.itoa
 split
 ·have:=dec_len 20 x.natAbs (by omega)
  simp only [List.length_cons];omega
 ·have:=dec_len 20 x.toNat (by omega)
  omega
def outS (b g1 g2:Nat):Nat→Prop:=fun k=>k≠b∧k≠g1∧k≠g2
structure Sit (w wB wc:World) (m b g1 g2:Nat) (i:Int) (n:Nat) (i':Int) (v:TV):Prop where
 at_:At w m b i n wc i'
 t1:TB wc g1 (0,str [],0,(none,0,0),())
 t2:TB wc g2 v
 wg1:w.heap.size≤g1
 wg2:w.heap.size≤g2
 ne:g1≠g2
 Bg1:g1<wB.heap.size
 Bg2:g2<wB.heap.size
 B:wB.heap.size≤wc.heap.size
theorem Sit.keep0 {w wB wc wd:World} {m b g1 g2 n:Nat} {i i':Int} {v:TV} (s:Sit w wB wc m b g1 g2 i n i' v) (f:Fr none1 wc wd):Sit w wB wd m b g1 g2 i n i' v:=
 ⟨s.at_.keep0 f,s.t1.keep0 f,s.t2.keep0 f,s.wg1,s.wg2,s.ne,s.Bg1,s.Bg2,Nat.le_trans s.B f.size⟩
theorem Sit.b_ne {w wB wc:World} {m b g1 g2 n:Nat} {i i':Int} {v:TV} (s:Sit w wB wc m b g1 g2 i n i' v):b<w.heap.size∧g1≠b∧g2≠b:=by
 have:=s.at_.b_lt;have:=s.wg1;have:=s.wg2;omega
theorem Sit.go {w wB wc wd:World} {m b g1 g2 n n2:Nat} {i i' i2:Int} {v:TV} (s:Sit w wB wc m b g1 g2 i n i' v) (a:At wc m b i' n2 wd i2):Sit w wB wd m b g1 g2 i (n+n2) i2 v:=
 ⟨s.at_.trans a,s.t1.keep a.fr (fun t=>s.b_ne.2.1 t),s.t2.keep a.fr (fun t=>s.b_ne.2.2 t),s.wg1,s.wg2,s.ne,s.Bg1,s.Bg2,Nat.le_trans s.B a.size⟩
theorem Sit.set {w wB wc wd:World} {m b g1 g2 n:Nat} {i i':Int} {v u:TV} (s:Sit w wB wc m b g1 g2 i n i' v) (f:Fr (only g2) wc wd) (t:TB wd g2 u):Sit w wB wd m b g1 g2 i n i' u:=
 ⟨s.at_.keep f (fun k hk t=>by have:k=g2:=t;have:=s.wg2;omega),s.t1.keep f (fun t=>s.ne t),t,s.wg1,s.wg2,s.ne,s.Bg1,s.Bg2,Nat.le_trans s.B f.size⟩
theorem MadeL.set {w wB wc wd:World} {m b g1 g2 n:Nat} {i i':Int} {v:TV} (s:Sit w wB wc m b g1 g2 i n i' v) {ts:List Tr} {vs:List TV} (h:MadeL wB wc ts vs) (f:Fr (only g2) wc wd):MadeL wB wd ts vs:=
 h.keep f fun k hk _ t=>by have:k=g2:=t;have:=s.Bg2;omega
theorem out_b {b g1 g2:Nat}:∀ k,outS b g1 g2 k→¬ only b k:=fun k hk t=>hk.1 t
theorem out_2 {b g1 g2:Nat}:∀ k,outS b g1 g2 k→¬ only g2 k:=fun k hk t=>hk.2.2 t
theorem Sit.tell {w wB wc:World} {m b g1 g2 n N:Nat} {i i':Int} {v:TV} (s:Sit w wB wc m b g1 g2 i n i' v) (hn:n≤N) (hB:w.heap.size≤wB.heap.size) {t:Tm} (hm:Made wB wc (trT t) v) (ht:nodesT t≤N) (hs:shortT t) :
  LdsK TVK ⟨g2,0,none⟩ wc fun (x:TV)=>StsK ⟨g1,0,none⟩ (tvL x) wc fun w2=>LdsK TVK ⟨g1,0,none⟩ w2 fun (y:TV)=>∃ v:TV,tvA y=tvA v∧MT w m b i N v w2:=
 s.t2.ld (fin_made s.at_ s.wg1 s.Bg1 hB s.t1 hm fun w2 a' hm'=>⟨_,rfl,t,i',hm',ht,hs,a'.more hn⟩)
theorem Sit.parts {w wB wc:World} {m b g1 g2 n N:Nat} {i i':Int} {kd:Int} {ts:List Tr} {vs:List TV} (s:Sit w wB wc m b g1 g2 i n i' (0,str [],0,(none,0,0),())) (hn:n≤N) (hB:w.heap.size≤wB.heap.size) (hl:vs.length≤3) (hm:MadeL wB wc ts vs) {t:Tm} (he:trT t=.mk kd [] 0 ts) (ht:nodesT t≤N) (hs:shortT t) :
  AndK (RunK Tryz.prog (Instr.buildSlice 39 vs.length (((vs.map tvL).zipIdx.map fun (l,i)=>(i,Value.agg l.toArray)).toArray)) wc (.v (.one .slc)) (fun (x58:Option Addr×Nat×Nat) w59=>KeepK (outS b g1 g2) wc w59 (StK ((⟨g2,0,none⟩:Addr).add 0) (.int .i64 kd) w59 (fun w60=>KeepK (outS b g1 g2) w59 w60 (StK ((⟨g2,0,none⟩:Addr).add 3) (.slice x58.1 x58.2.1 x58.2.2) w60 (fun w61=>KeepK (outS b g1 g2) w60 w61
    (LdsK TVK ⟨g2,0,none⟩ w61 fun (x:TV)=>StsK ⟨g1,0,none⟩ (tvL x) w61 fun w2=>LdsK TVK ⟨g1,0,none⟩ w2 fun (y:TV)=>∃ v:TV,tvA y=tvA v∧MT w m b i N v w2)))))))
   (StK ((⟨g2,0,none⟩:Addr).add 0) (.int .i64 kd) wc (fun w65=>KeepK (outS b g1 g2) wc w65 (RunK Tryz.prog (Instr.buildSlice 39 vs.length (((vs.map tvL).zipIdx.map fun (l,i)=>(i,Value.agg l.toArray)).toArray)) w65 (.v (.one .slc)) (fun (x66:Option Addr×Nat×Nat) w67=>KeepK (outS b g1 g2) w65 w67 (StK ((⟨g2,0,none⟩:Addr).add 3) (.slice x66.1 x66.2.1 x66.2.2) w67 (fun w68=>KeepK (outS b g1 g2) w67 w68
    (LdsK TVK ⟨g2,0,none⟩ w68 fun (x:TV)=>StsK ⟨g1,0,none⟩ (tvL x) w68 fun w2=>LdsK TVK ⟨g1,0,none⟩ w2 fun (y:TV)=>∃ v:TV,tvA y=tvA v∧MT w m b i N v w2))))))):=by
 refine ⟨?_,?_⟩
 ·refine tr_lit vs hl fun u w1 hu hul f1 hf1=>KeepK.of f1 ?_
  have s1:=s.keep0 f1
  have m1:=hm.keep0 f1
  refine s1.t2.k kd fun w2 t2 f2=>KeepK.on f2 out_2 ?_
  have s2:=s1.set f2 t2
  have m2:=m1.set s1 f2
  refine s2.t2.u u fun w3 t3 f3=>KeepK.on f3 out_2 ?_
  have s3:=s2.set f3 t3
  have m3:=m2.set s2 f3
  refine s3.tell hn hB (t:=t) (by rw [he];exact z24z kd [] 0 ((hu.keep f2 fun k hk t=>by have:k=g2:=t;have:=hf1 k hk;have:=s.B;have:=s.Bg2;omega).keep f3 fun k hk t=>by have:k=g2:=t;have:=hf1 k hk;have:=s.B;have:=s.Bg2;omega) hul (fun k hk=>by have:=hf1 k hk;have:=s.B;omega) m3) ht hs
 ·refine s.t2.k kd fun w1 t1 f1=>KeepK.on f1 out_2 ?_
  have s1:=s.set f1 t1
  have m1:=hm.set s f1
  refine tr_lit vs hl fun u w2 hu hul f2 hf2=>KeepK.of f2 ?_
  have s2:=s1.keep0 f2
  have m2:=m1.keep0 f2
  refine s2.t2.u u fun w3 t3 f3=>KeepK.on f3 out_2 ?_
  have s3:=s2.set f3 t3
  have m3:=m2.set s2 f3
  refine s3.tell hn hB (t:=t) (by rw [he];exact z24z kd [] 0 (hu.keep f3 fun k hk t=>by have:k=g2:=t;have:=hf2 k hk;have:=s1.B;have:=s.Bg2;omega) hul (fun k hk=>by have:=hf2 k hk;have:=s1.B;omega) m3) ht hs
theorem Sit.labelled {w wB wc:World} {m b g1 g2 n N:Nat} {i i':Int} {ts:List Tr} {vs:List TV} (s:Sit w wB wc m b g1 g2 i n i' (0,str [],0,(none,0,0),())) (hn:n≤N) (hB:w.heap.size≤wB.heap.size) (hl:vs.length≤3) (hm:MadeL wB wc ts vs) (x:List UInt8) {t:Tm} (he:trT t=.mk 5 x 0 ts) (ht:nodesT t≤N) (hs:shortT t) :
    AndK (RunK Tryz.prog (Instr.buildSlice 39 vs.length (((vs.map tvL).zipIdx.map fun (l,i)=>(i,Value.agg l.toArray)).toArray)) wc (.v (.one .slc)) (fun (x92:Option Addr×Nat×Nat) w93=>KeepK (outS b g1 g2) wc w93 (StK ((⟨g2,0,none⟩:Addr).add 0) (.int .i64 5) w93 (fun w94=>KeepK (outS b g1 g2) w93 w94 (StK ((⟨g2,0,none⟩:Addr).add 1) (.string (str x)) w94 (fun w95=>KeepK (outS b g1 g2) w94 w95 (StK ((⟨g2,0,none⟩:Addr).add 3) (.slice x92.1 x92.2.1 x92.2.2) w95 (fun w96=>KeepK (outS b g1 g2) w95 w96
        (LdsK TVK ⟨g2,0,none⟩ w96 fun (x:TV)=>StsK ⟨g1,0,none⟩ (tvL x) w96 fun w2=>LdsK TVK ⟨g1,0,none⟩ w2 fun (y:TV)=>∃ v:TV,tvA y=tvA v∧MT w m b i N v w2)))))))))
      (StK ((⟨g2,0,none⟩:Addr).add 0) (.int .i64 5) wc (fun w100=>KeepK (outS b g1 g2) wc w100 (AndK (RunK Tryz.prog (Instr.buildSlice 39 vs.length (((vs.map tvL).zipIdx.map fun (l,i)=>(i,Value.agg l.toArray)).toArray)) w100 (.v (.one .slc)) (fun (x101:Option Addr×Nat×Nat) w102=>KeepK (outS b g1 g2) w100 w102 (StK ((⟨g2,0,none⟩:Addr).add 1) (.string (str x)) w102 (fun w103=>KeepK (outS b g1 g2) w102 w103 (StK ((⟨g2,0,none⟩:Addr).add 3) (.slice x101.1 x101.2.1 x101.2.2) w103 (fun w104=>KeepK (outS b g1 g2) w103 w104
        (LdsK TVK ⟨g2,0,none⟩ w104 fun (x:TV)=>StsK ⟨g1,0,none⟩ (tvL x) w104 fun w2=>LdsK TVK ⟨g1,0,none⟩ w2 fun (y:TV)=>∃ v:TV,tvA y=tvA v∧MT w m b i N v w2)))))))
       (StK ((⟨g2,0,none⟩:Addr).add 1) (.string (str x)) w100 (fun w108=>KeepK (outS b g1 g2) w100 w108 (RunK Tryz.prog (Instr.buildSlice 39 vs.length (((vs.map tvL).zipIdx.map fun (l,i)=>(i,Value.agg l.toArray)).toArray)) w108 (.v (.one .slc)) (fun (x109:Option Addr×Nat×Nat) w110=>KeepK (outS b g1 g2) w108 w110 (StK ((⟨g2,0,none⟩:Addr).add 3) (.slice x109.1 x109.2.1 x109.2.2) w110 (fun w111=>KeepK (outS b g1 g2) w110 w111
        (LdsK TVK ⟨g2,0,none⟩ w111 fun (x:TV)=>StsK ⟨g1,0,none⟩ (tvL x) w111 fun w2=>LdsK TVK ⟨g1,0,none⟩ w2 fun (y:TV)=>∃ v:TV,tvA y=tvA v∧MT w m b i N v w2)))))))))):=by
  refine ⟨?_,?_⟩
  · refine tr_lit vs hl fun u w1 hu hul f1 hf1=>KeepK.of f1 ?_
    have s1:=s.keep0 f1
    have m1:=hm.keep0 f1
    have hk:∀ k,blkOf u k→¬ only g2 k:=fun k hk t=>by have:k=g2:=t;have:=hf1 k hk;have:=s.B;have:=s.Bg2;omega
    refine s1.t2.k 5 fun w2 t2 f2=>KeepK.on f2 out_2 ?_
    have s2:=s1.set f2 t2
    have m2:=m1.set s1 f2
    refine s2.t2.s (str x) fun w3 t3 f3=>KeepK.on f3 out_2 ?_
    have s3:=s2.set f3 t3
    have m3:=m2.set s2 f3
    refine s3.t2.u u fun w4 t4 f4=>KeepK.on f4 out_2 ?_
    have s4:=s3.set f4 t4
    have m4:=m3.set s3 f4
    exact s4.tell hn hB (t:=t) (by rw [he];exact z24z 5 x 0 (((hu.keep f2 hk).keep f3 hk).keep f4 hk) hul (fun k hk=>by have:=hf1 k hk;have:=s.B;omega) m4) ht hs
  · refine s.t2.k 5 fun w1 t1 f1=>KeepK.on f1 out_2 ?_
    have s1:=s.set f1 t1
    have m1:=hm.set s f1
    refine ⟨?_,?_⟩
    · refine tr_lit vs hl fun u w2 hu hul f2 hf2=>KeepK.of f2 ?_
      have hk:∀ k,blkOf u k→¬ only g2 k:=fun k hk t=>by have:k=g2:=t;have:=hf2 k hk;have:=s1.B;have:=s.Bg2;omega
      have s2:=s1.keep0 f2
      have m2:=m1.keep0 f2
      refine s2.t2.s (str x) fun w3 t3 f3=>KeepK.on f3 out_2 ?_
      have s3:=s2.set f3 t3
      have m3:=m2.set s2 f3
      refine s3.t2.u u fun w4 t4 f4=>KeepK.on f4 out_2 ?_
      have s4:=s3.set f4 t4
      have m4:=m3.set s3 f4
      exact s4.tell hn hB (t:=t) (by rw [he];exact z24z 5 x 0 ((hu.keep f3 hk).keep f4 hk) hul (fun k hk=>by have:=hf2 k hk;have:=s1.B;omega) m4) ht hs
    · refine s1.t2.s (str x) fun w3 t3 f3=>KeepK.on f3 out_2 ?_
      have s3:=s1.set f3 t3
      have m3:=m1.set s1 f3
      refine tr_lit vs hl fun u w2 hu hul f2 hf2=>KeepK.of f2 ?_
      have hk:∀ k,blkOf u k→¬ only g2 k:=fun k hk t=>by have:k=g2:=t;have:=hf2 k hk;have:=s3.B;have:=s.Bg2;omega
      have s2:=s3.keep0 f2
      have m2:=m3.keep0 f2
      refine s2.t2.u u fun w4 t4 f4=>KeepK.on f4 out_2 ?_
      have s4:=s2.set f4 t4
      have m4:=m2.set s2 f4
      exact s4.tell hn hB (t:=t) (by rw [he];exact z24z 5 x 0 (hu.keep f4 hk) hul (fun k hk=>by have:=hf2 k hk;have:=s3.B;omega) m4) ht hs
theorem coT_ge (d:Nat):4≤coT d:=by cases d<;>simp [coT]
theorem mterm_spec:∀ (d:Nat) {w:World} {m b:Nat} {i:Int} (h:IsMk w m b i) (p1:Int) (hp:p1≤d) (hp0:-1000≤p1) (hp2:p1≤1000) (hi:0≤i) (hn:i+coT d≤1000000000),
    Ret Tryz.prog 109 #[.pointer (some ⟨b,0,none⟩),.int .i64 p1] w fun r w'=>∃ v:TV,r=tvA v∧MT w m b i (coT d) v w':=by
  intro d
  induction d using Nat.strongRecOn with
  | _ d IH=>
  intro w m b i h p1 hp hp0 hp2 hi hn
  refine c109 _ p1 w _ ?_
  unfold C109
  have hco:=coT_ge d
  have hbm:=h.lt
  have hmw:=h.le
  refine TB.new fun g1 w1 hg1 tb1 f1 hs1=>?_
  have a1:=(At.start h).keep0 f1
  refine a1.mkr.left_rd fun x3=>a1.mkr.left_st _ fun w2 a2'=>?_
  have a2:=a1.trans a2'
  have tb2:=tb1.keep a2'.fr (fun t=>by have:g1=b:=t;omega)
  refine CallK.of (mn_spec a2.mkr (by omega) 13 (by omega)) ?_
  rintro _ w3 ⟨x5,rfl,hx0,hx9,a3'⟩
  refine ⟨x5,rfl,?_⟩
  have a3:=a2.trans a3'
  have tb3:=tb2.keep a3'.fr (fun t=>by have:g1=b:=t;omega)
  have hx9:=hx9 (by omega)
  refine JoinK.of (fun s w'=>0≤s.1∧s.1<13∧(p1≤0→s.1<3)∧w3=w') ?_ ?_
  · refine JoinK.of (fun s w'=>(p1≤0→s.1=true)∧w3=w') ?_ ?_
    · exact ifB.dec (fun _=>⟨fun _=>rfl,rfl⟩) (fun hp=>a3.mkr.left_rd fun x=>⟨fun t=>absurd t hp,rfl⟩)
    · rintro _ ⟨c,_⟩ _ ⟨hc,rfl⟩
      dsimp only at hc ⊢
      have hm3:=Int.tmod_eq_emod_of_nonneg (b:=(3:Int)) hx0
      refine ifB.by (fun e=>⟨by omega,?_⟩) (fun e=>⟨hx0,hx9,fun t=>(by rw [hc t] at e;cases e),rfl⟩)
      exact ⟨by omega,by omega,fun _=>by omega,rfl⟩
  rintro _ ⟨k,_⟩ _ ⟨hk0,hk9,hkp,rfl⟩
  dsimp only at hk0 hk9 hkp ⊢
  have hsz3:w.heap.size≤w3.heap.size:=a3.size
  have hg3:g1<w3.heap.size:=z3z tb3
  have hgb:g1≠b:=by omega
  refine TB.put (0,str [],0,(none,0,0),()) fun g2 w4 hg2 tb4 f4=>?_
  have hsz4:=f4.size
  have hg24:g2<w4.heap.size:=z3z tb4
  have S:Sit w w4 w4 m b g1 g2 i (0+0+1) (i+1) (0,str [],0,(none,0,0),()):=⟨a3.keep0 f4,tb3.keep0 f4,tb4,by omega,by omega,by omega,by omega,by omega,Nat.le_refl _⟩
  have hB:w.heap.size≤w4.heap.size:=by omega
  clear tb1 tb2 tb3 tb4 a1 a2 a3 a2' a3' f1 hs1
  -- what a part is
  have ihT:0<p1→∃ d',coT d=2 * coT d'+50∧∀ {w':World} {i':Int},IsMk w' m b i'→0≤i'→i'+coT d'≤1000000000 →
      Ret Tryz.prog 109 #[.pointer (some ⟨b,0,none⟩),.int .i64 (IntKind.i64.wrap (p1 - 1))] w' fun r w''=>∃ v:TV,r=tvA v∧MT w' m b i' (coT d') v w'':=fun hpos=>by
    cases d with
    | zero=>omega
    | succ d'=>
      refine ⟨d',rfl,fun hmk h0 h1=>?_⟩
      rw [wI (by omega) (by omega)]
      exact IH d' (by omega) hmk (p1 - 1) (by omega) (by omega) (by omega) h0 h1
  have ihO:0<p1→∀ {w':World} {i':Int},IsMk w' m b i'→0≤i'→i'+34≤1000000000 →
      Ret Tryz.prog 143 #[.pointer (some ⟨b,0,none⟩),.int .i64 (if 2<IntKind.i64.wrap (p1 - 1) then 2 else IntKind.i64.wrap (p1 - 1))] w' fun r w''=>∃ v:TV,r=tvA v∧MO w' m b i' 34 v w'':=fun hpos {w' i'} hmk h0 h1=>by
    rw [wI (by omega) (by omega)]
    by_cases h2:2<p1 - 1
    · rw [if_pos h2]
      exact mobs_spec 2 hmk 2 (by omega) (by omega) (by omega) h0 (by show i'+34≤_;omega)
    · rw [if_neg h2]
      exact mobs_spec 2 hmk (p1 - 1) (by omega) (by omega) (by omega) h0 (by show i'+34≤_;omega)
  refine JoinK.of (fun s w'=>(s.1=true↔k=0∨k=1)∧w4=w') ?_ ?_
  · exact ifB.eq (fun e=>⟨by simp [e],rfl⟩) (fun e=>⟨by simp [e],rfl⟩)
  rintro _ ⟨c,_⟩ _ ⟨hc,rfl⟩
  dsimp only at hc ⊢
  refine ifB.by (fun e=>?_) (fun e=>?_)
  · -- a currency
    refine words_lit [[117,115,100],[101,117,114],[103,98,112]] (by decide) fun u w5 hu f5 hf5=>?_
    have S5:=S.keep0 f5
    refine CallK.of (mword_spec S5.at_.mkr (by omega) hu (by decide) (by decide) (fun k hk=>by have:=hf5 k hk;omega)) ?_
    rintro _ w6 ⟨s,rfl,hsl,a6⟩
    refine ⟨_,rfl,?_⟩
    have S6:=S5.go a6
    refine S6.t2.k 2 fun w7 t7 f7=>?_
    have S7:=S6.set f7 t7
    refine S7.t2.s (str s) fun w8 t8 f8=>?_
    have S8:=S7.set f8 t8
    exact S8.tell (by omega) hB (t:=.one s) (z17z _ _ 2 s 0) (by show 1≤coT d;omega) hsl
  have hk01:¬ (k=0∨k=1):=fun t=>by rw [hc.2 t] at e;cases e
  clear hc e
  refine ifB.eq (fun e2=>?_) (fun e2=>?_)
  · refine S.t2.k 1 fun w7 t7 f7=>?_
    exact (S.set f7 t7).tell (by omega) hB (t:=.zero) (z17z _ _ 1 [] 0) (by show 1≤coT d;omega) trivial
  have hpos:0<p1:=by
    refine Classical.byContradiction fun hno=>?_
    have:=hkp (by omega);omega
  obtain ⟨d',hd',ihT⟩:=ihT hpos
  have ihO:=@ihO hpos
  refine JoinK.of (fun s w'=>(s.1=true↔k=3∨k=4)∧w4=w') ?_ ?_
  · exact ifB.eq (fun e=>⟨by simp [e],rfl⟩) (fun e=>⟨by simp [e],rfl⟩)
  rintro _ ⟨c,_⟩ _ ⟨hc,rfl⟩
  dsimp only at hc ⊢
  refine ifB.by (fun e=>?_) (fun e=>?_)
  · -- give
    refine CallK.of (ihT S.at_.mkr (by omega) (by omega)) ?_
    rintro _ w5 ⟨x,rfl,t,i5,hm,hno,hso,a5⟩
    refine ⟨x,rfl,?_⟩
    have S5:=S.go a5
    refine tr_lit [x] (by show 1≤3;omega) fun u w6 hu hul f6 hf6=>?_
    have S6:=S5.keep0 f6
    have m6:MadeL w4 w6 [trT t] [x]:=made1 (hm.keep0 f6)
    have hk:∀ k,blkOf u k→¬ only g2 k:=fun k hk t=>by have:k=g2:=t;have:=hf6 k hk;have:=S5.B;omega
    refine S6.t2.k 3 fun w7 t7 f7=>?_
    have S7:=S6.set f7 t7
    have m7:=m6.set S6 f7
    refine S7.t2.u u fun w8 t8 f8=>?_
    have S8:=S7.set f8 t8
    have m8:=m7.set S7 f8
    exact S8.tell (by omega) hB (t:=.give t) (z24z 3 [] 0 ((hu.keep f7 hk).keep f8 hk) hul (fun k hk=>by have:=hf6 k hk;have:=S5.B;omega) m8) (by unfold nodesT;omega) hso
  have hk34:¬ (k=3∨k=4):=fun t=>by rw [hc.2 t] at e;cases e
  clear hc e
  refine JoinK.of (fun s w'=>(s.1=true↔k=5∨k=6)∧w4=w') ?_ ?_
  · exact ifB.eq (fun e=>⟨by simp [e],rfl⟩) (fun e=>⟨by simp [e],rfl⟩)
  rintro _ ⟨c,_⟩ _ ⟨hc,rfl⟩
  dsimp only at hc ⊢
  refine ifB.by (fun e=>?_) (fun e=>?_)
  · -- and
    refine CallK.of (ihT S.at_.mkr (by omega) (by omega)) ?_
    rintro _ w5 ⟨x,rfl,t,i5,hm,hno,hso,a5⟩
    refine ⟨x,rfl,?_⟩
    have S5:=S.go a5
    have hB5:=S5.B
    refine TB.put x fun g3 w6 hg3' t6 f6=>?_
    refine DrewK.of fun w7 _ f7=>HoldK.of (outS b g1 g2) ?_
    have f67:=f6.trans f7
    have S7:=S5.keep0 f67
    refine ⟨by show g3≠b∧g3≠g1∧g3≠g2;omega,(t6.keep0 f7).ld ?_⟩
    refine CallK.of (ihT S7.at_.mkr (by have:=S7.at_.lo;omega) (by have:=S7.at_.hi;omega)) ?_
    rintro _ w8 ⟨y,rfl,t2,i8,hm2,hno2,hso2,a8⟩
    refine ⟨y,rfl,KeepK.on a8.fr out_b ?_⟩
    have S8:=S7.go a8
    have m8:MadeL w4 w8 [trT t,trT t2] [x,y]:=made2 ((hm.keep0 f67).keep a8.fr fun k hk _ t=>by have:k=b:=t;omega) (hm2.older (by have:=f67.size;omega))
    exact S8.parts (by omega) hB (by show 2≤3;omega) m8 (t:=.and t t2) rfl (by unfold nodesT;omega) ⟨hso,hso2⟩
  have hk56:¬ (k=5∨k=6):=fun t=>by rw [hc.2 t] at e;cases e
  clear hc e
  refine JoinK.of (fun s w'=>(s.1=true↔k=7∨k=8)∧w4=w') ?_ ?_
  · exact ifB.eq (fun e=>⟨by simp [e],rfl⟩) (fun e=>⟨by simp [e],rfl⟩)
  rintro _ ⟨c,_⟩ _ ⟨hc,rfl⟩
  dsimp only at hc ⊢
  refine ifB.by (fun e=>?_) (fun e=>?_)
  · -- or
    refine S.at_.mkr.label_ok fun lb w5 hl0 hl1 a5=>?_
    have S5:=S.go a5
    refine CallK.of (digits_spec lb hl0 hl1 w5) ?_
    rintro _ w6 ⟨rfl,f6⟩
    refine ⟨_,rfl,?_⟩
    have S6:=S5.keep0 f6
    have hil:=itoa_short lb hl0 hl1
    refine cat_small (by rw [z1z];show 2+(Lib.itoa lb).length≤_;omega) ?_
    have hcat:(⟨#[99,104]⟩:ByteArray)++str (Lib.itoa lb)=str ([99,104]++Lib.itoa lb):=by rw [← str_app];rfl
    rw [hcat]
    refine CallK.of (mn_spec S6.at_.mkr (by omega) 30 (by omega)) ?_
    rintro _ w7 ⟨x30,rfl,_,_,a7⟩
    refine ⟨x30,rfl,?_⟩
    have S7:=S6.go a7
    have both:∀ (nm:List UInt8),nm.length≤1000→CallK Tryz.prog 109 #[.pointer (some ⟨b,0,none⟩),.int .i64 (IntKind.i64.wrap (p1 - 1))] w7 (.v (.agg TVK)) (fun (x82:TV) w83=>
        NewK (.cells #[.int .i64 0,.string (⟨#[]⟩:ByteArray),.int .i64 0,.slice none 0 0] 41) w83 (fun g84 w85=>StsK ⟨g84,0,none⟩ (tvL x82) w85 (fun w86=>DrewK w86 (fun w87=>HoldK (fun S88=>InK S88 ⟨g84,0,none⟩ (LdsK TVK ⟨g84,0,none⟩ w87 (fun (x89:TV)=>
          CallK Tryz.prog 109 #[.pointer (some ⟨b,0,none⟩),.int .i64 (IntKind.i64.wrap (p1 - 1))] w87 (.v (.agg TVK)) (fun (x90:TV) w91=>KeepK S88 w87 w91
            (AndK (RunK Tryz.prog (Instr.buildSlice 39 2 #[(0,tvA x89),(1,tvA x90)]) w91 (.v (.one .slc)) (fun (x92:Option Addr×Nat×Nat) w93=>KeepK S88 w91 w93 (StK ((⟨g2,0,none⟩:Addr).add 0) (.int .i64 5) w93 (fun w94=>KeepK S88 w93 w94 (StK ((⟨g2,0,none⟩:Addr).add 1) (.string (str nm)) w94 (fun w95=>KeepK S88 w94 w95 (StK ((⟨g2,0,none⟩:Addr).add 3) (.slice x92.1 x92.2.1 x92.2.2) w95 (fun w96=>KeepK S88 w95 w96
        (LdsK TVK ⟨g2,0,none⟩ w96 fun (x:TV)=>StsK ⟨g1,0,none⟩ (tvL x) w96 fun w2=>LdsK TVK ⟨g1,0,none⟩ w2 fun (y:TV)=>∃ v:TV,tvA y=tvA v∧MT w m b i (coT d) v w2)))))))))
      (StK ((⟨g2,0,none⟩:Addr).add 0) (.int .i64 5) w91 (fun w100=>KeepK S88 w91 w100 (AndK (RunK Tryz.prog (Instr.buildSlice 39 2 #[(0,tvA x89),(1,tvA x90)]) w100 (.v (.one .slc)) (fun (x101:Option Addr×Nat×Nat) w102=>KeepK S88 w100 w102 (StK ((⟨g2,0,none⟩:Addr).add 1) (.string (str nm)) w102 (fun w103=>KeepK S88 w102 w103 (StK ((⟨g2,0,none⟩:Addr).add 3) (.slice x101.1 x101.2.1 x101.2.2) w103 (fun w104=>KeepK S88 w103 w104
        (LdsK TVK ⟨g2,0,none⟩ w104 fun (x:TV)=>StsK ⟨g1,0,none⟩ (tvL x) w104 fun w2=>LdsK TVK ⟨g1,0,none⟩ w2 fun (y:TV)=>∃ v:TV,tvA y=tvA v∧MT w m b i (coT d) v w2)))))))
       (StK ((⟨g2,0,none⟩:Addr).add 1) (.string (str nm)) w100 (fun w108=>KeepK S88 w100 w108 (RunK Tryz.prog (Instr.buildSlice 39 2 #[(0,tvA x89),(1,tvA x90)]) w108 (.v (.one .slc)) (fun (x109:Option Addr×Nat×Nat) w110=>KeepK S88 w108 w110 (StK ((⟨g2,0,none⟩:Addr).add 3) (.slice x109.1 x109.2.1 x109.2.2) w110 (fun w111=>KeepK S88 w110 w111
        (LdsK TVK ⟨g2,0,none⟩ w111 fun (x:TV)=>StsK ⟨g1,0,none⟩ (tvL x) w111 fun w2=>LdsK TVK ⟨g1,0,none⟩ w2 fun (y:TV)=>∃ v:TV,tvA y=tvA v∧MT w m b i (coT d) v w2))))))))))))))))))):=fun nm hnm=>by
      refine CallK.of (ihT S7.at_.mkr (by have:=S7.at_.lo;omega) (by have:=S7.at_.hi;omega)) ?_
      rintro _ w8 ⟨x,rfl,t,i8,hm,hno,hso,a8⟩
      refine ⟨x,rfl,?_⟩
      have S8:=S7.go a8
      have hB7:=S7.B
      have hB8:=S8.B
      refine TB.put x fun g3 w9 hg3' t9 f9=>?_
      refine DrewK.of fun w10 _ f10=>HoldK.of (outS b g1 g2) ?_
      have f910:=f9.trans f10
      have S10:=S8.keep0 f910
      refine ⟨by show g3≠b∧g3≠g1∧g3≠g2;omega,(t9.keep0 f10).ld ?_⟩
      refine CallK.of (ihT S10.at_.mkr (by have:=S10.at_.lo;omega) (by have:=S10.at_.hi;omega)) ?_
      rintro _ w11 ⟨y,rfl,t2,i11,hm2,hno2,hso2,a11⟩
      refine ⟨y,rfl,KeepK.on a11.fr out_b ?_⟩
      have S11:=S10.go a11
      have m11:MadeL w4 w11 [trT t,trT t2] [x,y]:=made2 (((hm.older hB7).keep0 f910).keep a11.fr fun k hk _ t=>by have:k=b:=t;omega) (hm2.older (by have:=f910.size;omega))
      exact S11.labelled (by omega) hB (by show 2≤3;omega) m11 nm (t:=.or nm t t2) rfl (by unfold nodesT;omega) ⟨hnm,hso,hso2⟩
    refine ifB.eq (fun _=>both [99,104,49] (by decide)) (fun _=>both ([99,104]++Lib.itoa lb) (by simp;omega))
  have hk78:¬ (k=7∨k=8):=fun t=>by rw [hc.2 t] at e;cases e
  clear hc e
  refine JoinK.of (fun s w'=>(s.1=true↔k=9∨k=10)∧w4=w') ?_ ?_
  · exact ifB.eq (fun e=>⟨by simp [e],rfl⟩) (fun e=>⟨by simp [e],rfl⟩)
  rintro _ ⟨c,_⟩ _ ⟨hc,rfl⟩
  dsimp only at hc ⊢
  refine ifB.by (fun e=>?_) (fun e=>?_)
  · -- scale
    refine CallK.of (ihO S.at_.mkr (by omega) (by omega)) ?_
    rintro _ w5 ⟨x,rfl,o,i5,hm,hno,hso,a5⟩
    refine ⟨x,rfl,?_⟩
    have S5:=S.go a5
    have hB5:=S5.B
    refine TB.put x fun g3 w6 hg3' t6 f6=>?_
    refine DrewK.of fun w7 _ f7=>HoldK.of (outS b g1 g2) ?_
    have f67:=f6.trans f7
    have S7:=S5.keep0 f67
    refine ⟨by show g3≠b∧g3≠g1∧g3≠g2;omega,(t6.keep0 f7).ld ?_⟩
    refine CallK.of (ihT S7.at_.mkr (by have:=S7.at_.lo;omega) (by have:=S7.at_.hi;omega)) ?_
    rintro _ w8 ⟨y,rfl,t2,i8,hm2,hno2,hso2,a8⟩
    refine ⟨y,rfl,KeepK.on a8.fr out_b ?_⟩
    have S8:=S7.go a8
    have m8:MadeL w4 w8 [trO o,trT t2] [x,y]:=made2 ((hm.keep0 f67).keep a8.fr fun k hk _ t=>by have:k=b:=t;omega) (hm2.older (by have:=f67.size;omega))
    exact S8.parts (by omega) hB (by show 2≤3;omega) m8 (t:=.scale o t2) rfl (by unfold nodesT;omega) ⟨hso,hso2⟩
  clear hc e
  refine ifB.eq (fun e=>?_) (fun e=>?_)
  · -- when
    refine CallK.of (mn_spec S.at_.mkr (by omega) 8 (by omega)) ?_
    rintro _ w5 ⟨x8,rfl,hx80,hx88,a5⟩
    refine ⟨x8,rfl,?_⟩
    have S5:=S.go a5
    have hB5:=S5.B
    refine CallK.of (ihT S5.at_.mkr (by have:=S5.at_.lo;omega) (by have:=S5.at_.hi;omega)) ?_
    rintro _ w6 ⟨x,rfl,t,i6,hm,hno,hso,a6⟩
    refine ⟨x,rfl,?_⟩
    have S6:=S5.go a6
    refine tr_lit [x] (by show 1≤3;omega) fun u w7 hu hul f7 hf7=>?_
    have S7:=S6.keep0 f7
    have m7:MadeL w4 w7 [trT t] [x]:=made1 ((hm.older hB5).keep0 f7)
    have hk:∀ k,blkOf u k→¬ only g2 k:=fun k hk t=>by have:k=g2:=t;have:=hf7 k hk;have:=S6.B;omega
    refine S7.t2.k 7 fun w8 t8 f8=>?_
    have S8:=S7.set f8 t8
    have m8:=m7.set S7 f8
    refine S8.t2.n x8 fun w9 t9 f9=>?_
    have S9:=S8.set f9 t9
    have m9:=m8.set S8 f9
    refine S9.t2.u u fun w10 t10 f10=>?_
    have S10:=S9.set f10 t10
    have m10:=m9.set S9 f10
    exact S10.tell (by omega) hB (t:=.when x8 t) (z24z 7 [] x8 (((hu.keep f8 hk).keep f9 hk).keep f10 hk) hul (fun k hk=>by have:=hf7 k hk;have:=S6.B;omega) m10) (by unfold nodesT;omega) hso
  · -- if
    refine CallK.of (ihO S.at_.mkr (by omega) (by omega)) ?_
    rintro _ w5 ⟨x,rfl,o,i5,hm,hno,hso,a5⟩
    refine ⟨x,rfl,?_⟩
    have S5:=S.go a5
    have hB5:=S5.B
    refine TB.put x fun g3 w6 hg3' t6 f6=>?_
    have S6:=S5.keep0 f6
    have hB6:=S6.B
    refine CallK.of (ihT S6.at_.mkr (by have:=S6.at_.lo;omega) (by have:=S6.at_.hi;omega)) ?_
    rintro _ w7 ⟨y,rfl,t,i7,hm2,hno2,hso2,a7⟩
    refine ⟨y,rfl,?_⟩
    have S7:=S6.go a7
    have hB7:=S7.B
    have hsz7:=a7.size
    refine TB.put y fun g4 w8 hg4 t8 f8=>?_
    refine DrewK.of fun w9 _ f9=>HoldK.of (outS b g1 g2) ?_
    have f89:=f8.trans f9
    have S9:=S7.keep0 f89
    have hg3lt:g3<w6.heap.size:=z3z t6
    refine ⟨by show g3≠b∧g3≠g1∧g3≠g2;omega,((t6.keep a7.fr (fun t=>by have:g3=b:=t;omega)).keep0 f89).ld ?_⟩
    refine ⟨by show g4≠b∧g4≠g1∧g4≠g2;omega,(t8.keep0 f9).ld ?_⟩
    refine CallK.of (ihT S9.at_.mkr (by have:=S9.at_.lo;omega) (by have:=S9.at_.hi;omega)) ?_
    rintro _ w10 ⟨z,rfl,t2,i10,hm3,hno3,hso3,a10⟩
    refine ⟨z,rfl,KeepK.on a10.fr out_b ?_⟩
    have S10:=S9.go a10
    have hsz9:=f89.size
    have m10:MadeL w4 w10 [trO o,trT t,trT t2] [x,y,z]:=made3 ((((hm.keep0 f6).keep a7.fr fun k hk _ t=>by have:k=b:=t;omega).keep0 f89).keep a10.fr fun k hk _ t=>by have:k=b:=t;omega)
      (((hm2.older hB6).keep0 f89).keep a10.fr fun k hk _ t=>by have:k=b:=t;omega) (hm3.older (by omega))
    exact S10.parts (by omega) hB (by show 3≤3;omega) m10 (t:=.cond o t t2) rfl (by unfold nodesT;omega) ⟨hso,hso2,hso3⟩
namespace Vc
variable {P:Program}
abbrev PlV:=(Option Addr×Nat×Nat)×(Option Addr×Nat×Nat)×Unit
def plA (p:PlV):Value:=.agg #[.slice p.1.1 p.1.2.1 p.1.2.2,.slice p.2.1.1 p.2.1.2.1 p.2.1.2.2]
def IsPl (w:World) (p:PlV):Prop:=(∃ ns,IsInts .i64 w p.1.1 p.1.2.1 p.1.2.2 ns)∧∃ ws,IsStrs w p.2.1.1 p.2.1.2.1 p.2.1.2.2 ws
theorem ints_of {H:Type} {enc:TypeId×Value→H} {w:World} {base:Nat} {held:Bool} {t e:TypeId} {fuel:Nat} {cs:List Value} {x:DataW H×List MemPlace} (ht:P.underlying t=some (.slice e)) (he:P.underlying e=some (.int .i64)) (hc:P.cellsOf e=1)
  (h:DataW.trod enc P w base (fun _=>true) held fuel t cs=some x):∃ (u:Option Addr×Nat×Nat),cs=[.slice u.1 u.2.1 u.2.2]∧∃ ns,IsInts .i64 w u.1 u.2.1 u.2.2 ns:=by
 rcases Go.ChangeShapes.open_ints ht he hc h with ⟨hcs,_⟩ | ⟨a,l,c,zs,hcs,_,hl,hm,hz,_,hcell,hwz⟩
 ·exact ⟨(none,0,0),hcs,[],.inl ⟨rfl,rfl,rfl,rfl⟩⟩
 ·exact ⟨(some a,l,c),hcs,zs,.inr ⟨a,rfl,hl,hm,by simpa using hz,hcell,hwz⟩⟩
theorem strs_of {H:Type} {enc:TypeId×Value→H} {w:World} {base:Nat} {held:Bool} {t e:TypeId} {fuel:Nat} {cs:List Value} {x:DataW H×List MemPlace} (ht:P.underlying t=some (.slice e)) (he:P.underlying e=some .string) (hc:P.cellsOf e=1)
  (h:DataW.trod enc P w base (fun _=>true) held fuel t cs=some x):∃ (u:Option Addr×Nat×Nat),cs=[.slice u.1 u.2.1 u.2.2]∧∃ ws,IsStrs w u.1 u.2.1 u.2.2 ws:=by
 rcases Go.ChangeShapes.open_strings ht he hc h with ⟨hcs,_⟩ | ⟨a,l,c,zs,hcs,_,hl,hm,hz,_,hcell,hwz⟩
 ·exact ⟨(none,0,0),hcs,[],.inl ⟨rfl,rfl,rfl,rfl⟩⟩
 ·exact ⟨(some a,l,c),hcs,zs,.inr ⟨a,rfl,hl,hm,by simpa using hz,hcell,hwz⟩⟩
theorem open_plan {H:Type} {enc:TypeId×Value→H} {w:World} {base:Nat} {held:Bool} {t t0 t1 e0 e1:TypeId} {f0 f1:Field} {fuel:Nat} {cs:List Value} {x:DataW H×List MemPlace}
  (ht:P.underlying t=some (.struct #[f0,f1])) (hf0:f0.type=t0) (hf1:f1.type=t1) (ho0:f0.offset=0) (ho1:f1.offset=1) (hc:P.cellsOf t=2) (hc0:P.cellsOf t0=1) (hc1:P.cellsOf t1=1)
  (h0:P.underlying t0=some (.slice e0)) (h1:P.underlying t1=some (.slice e1)) (k0:P.underlying e0=some (.int .i64)) (k1:P.underlying e1=some .string) (d0:P.cellsOf e0=1) (d1:P.cellsOf e1=1)
  (h:DataW.trod enc P w base (fun _=>true) held fuel t cs=some x):∃ p:PlV,cs=[.slice p.1.1 p.1.2.1 p.1.2.2,.slice p.2.1.1 p.2.1.2.1 p.2.1.2.2]∧IsPl w p:=by
 obtain ⟨y0,y1,n,_,hlen,g0,g1⟩:=Go.ChangeShapes.trod_struct2 ht h
 rw [hf0,ho0,hc0] at g0
 rw [hf1,ho1,hc1] at g1
 obtain ⟨u,hu,hi⟩:=ints_of h0 k0 d0 g0
 obtain ⟨v,hv,hs⟩:=strs_of h1 k1 d1 g1
 rw [hc] at hlen
 match cs,hlen with
 | [a,b],_=>
  simp only [List.drop_zero,List.drop_succ_cons,List.take_succ_cons,List.take_zero,List.cons.injEq,and_true] at hu hv
  exact ⟨(u,v,()),by rw [hu,hv],hi,hs⟩
end Vc
theorem Vc.IsPl.keep0 {w w':World} {p:PlV} (h:IsPl w p) (f:Fr none1 w w'):IsPl w' p:=by
 obtain ⟨⟨ns,h1⟩,ws,h2⟩:=h
 exact ⟨⟨ns,IsInts.keep h1 f fun _ _ _ t=>t⟩,ws,IsStrs.keep h2 f fun _ _ _ t=>t⟩
theorem maker_new {w:World} {p:PlV} (h:IsPl w p) (l:Int) {K:Nat→World→Prop} (k:∀ g w',w.heap.size=g→IsMk w' (g+1) g 0→Fr none1 w w'→K g w') :
  NewK (.cells #[.slice p.1.1 p.1.2.1 p.1.2.2,.slice p.2.1.1 p.2.1.2.1 p.2.1.2.2,.int .i64 0,.int .i64 l,.int .i64 0] 220) w K:=
 NewK.of fun g w1 hg hb f hs=>by
  obtain ⟨⟨ns,h1⟩,ws,h2⟩:=h
  refine k g w1 hg ⟨⟨p.1,p.2.1,l,0,ns,ws,hb,IsInts.keep h1 f fun _ _ _ t=>t,IsStrs.keep h2 f fun _ _ _ t=>t,fun k hc hk=>?_,fun k hc hk=>?_⟩,by omega,by omega⟩ f
  ·have:=IsInts.blk h1 hc hk;omega
  ·have:=IsStrs.blk h2 hc hk;omega
theorem contract_spec {w:World} {p:PlV} (h:IsPl w p):Ret Tryz.prog 81 #[plA p] w fun r w'=>∃ (v:TV) (t:Tm),r=tvA v∧Made w w' (trT t) v∧nodesT t≤2000∧shortT t∧Fr none1 w w':=by
 refine c81 p w _ ?_
 unfold C81
 refine NewK.of fun g1 w1 hg1 hb1 f1 _=>?_
 refine TB.new fun g2 w2 hg2 t2 f2 hs2=>?_
 refine LdsK.blk (cks:=[.slc,.slc]) (x:=p) (f2.keep0 hb1) ?_
 have f12:=f1.trans f2
 refine maker_new (h.keep0 f12) 24 fun g3 w3 hg3 hmk f3=>?_
 refine CallK.of (mterm_spec 5 hmk 5 (by omega) (by omega) (by omega) (by omega) (by show (0:Int)+((1678:Nat):Int)≤_;omega)) ?_
 rintro _ w4 ⟨v,rfl,t,i4,hm,hn,hs,a4⟩
 refine ⟨v,rfl,?_⟩
 have hz12:=f12.size
 have hz3:=f3.size
 have hn:nodesT t≤1678:=hn
 have t4:=(t2.keep0 f3).keep a4.fr (fun t=>by have:g2=g3:=t;omega)
 have hg2lt:g2<w3.heap.size:=by have:=z3z t2;omega
 refine StsK.blk (cs:=tvL _) (vs:=tvL v) t4 rfl rfl fun w5 hb5 f5 _=>LdsK.blk (cks:=TVK) (x:=v) hb5 ?_
 refine ⟨v,t,rfl,(hm.keep f5 fun k hk _ t=>by have:k=g2:=t;omega).older (by omega),by omega,hs,?_⟩
 have:=f1.size
 exact ((f12.trans f3).fresh a4.fr (by omega)).fresh f5 (by omega)
theorem usd_right:checkT (.one [117,115,100])=0:=by decide +kernel
theorem right_spec {w:World} {p:PlV} (h:IsPl w p):Ret Tryz.prog 80 #[plA p] w fun r w'=>∃ (v:TV) (t:Tm),r=tvA v∧Made w w' (trT t) v∧checkT t=0∧shortT t∧Fr none1 w w':=by
 refine c80 p w _ ?_
 unfold C80
 refine NewK.of fun g1 w1 hg1 hb1 f1 _=>?_
 refine TB.new fun g2 w2 hg2 t2 f2 hs2=>?_
 refine LdsK.blk (cks:=[.slc,.slc]) (x:=p) (f2.keep0 hb1) ?_
 have f12:=f1.trans f2
 have hz1:=f1.size
 refine CallK.of (contract_spec (h.keep0 f12)) ?_
 rintro _ w3 ⟨v,t,rfl,hm,hn,hs,f3⟩
 refine ⟨v,rfl,?_⟩
 have hz3:=f3.size
 refine TB.put v fun g4 w4 hg4 t4 f4=>t4.ld ?_
 have hz4:=f4.size
 have hm4:=hm.keep0 f4
 have hcn:=cnt_trT t
 refine CallK.of (rcheck_spec (trT t) false (by omega) (short_trT t hs) hm4 (fun k hk=>hk.2)) ?_
 rintro _ w5 ⟨rfl,f5⟩
 refine ⟨_,rfl,?_⟩
 have f35:=(f3.trans f4).trans f5
 have t25:=t2.keep0 f35
 have hg2lt:g2<w2.heap.size:=z3z t2
 rw [check_trT]
 have fin:∀ {t:Tm} {v:TV},Made w2 w5 (trT t) v→checkT t=0→shortT t→StsK ⟨g2,0,none⟩ (tvL v) w5 fun w6=>LdsK TVK ⟨g2,0,none⟩ w6 fun (x:TV)=>∃ (v:TV) (t:Tm),tvA x=tvA v∧Made w w6 (trT t) v∧checkT t=0∧shortT t∧Fr none1 w w6:=fun {t v} hm hc hs=>by
  refine StsK.blk (cs:=tvL _) (vs:=tvL v) t25 rfl rfl fun w6 hb6 f6 _=>LdsK.blk (cks:=TVK) (x:=v) hb6 ?_
  exact ⟨v,t,rfl,(hm.keep f6 fun k hk _ t=>by have:k=g2:=t;omega).older (by omega),hc,hs,(f12.trans f35).fresh f6 (by omega)⟩
 refine ifB.ne (fun hc=>?_) (fun hc=>?_)
 ·exact fin (t:=.one [117,115,100]) (v:=(2,str [117,115,100],0,(none,0,0),())) (z17z _ _ 2 [117,115,100] 0) usd_right (by show (3:Nat)≤1000;omega)
 ·exact (t4.keep0 f5).ld (fin (hm4.keep0 f5) hc hs)
def wordTab:List (List UInt8):=[[],[122,101,114,111],[111,110,101],[103,105,118,101],[97,110,100],[111,114],[115,99,97,108,101],[119,104,101,110],[105,102],[],[],[],[102,105,120],[97,100,100],[110,101,103],[109,117,108],[109,97,120]]
def wordL (k:Int):List UInt8:=wordTab.getD k.toNat []
def headR (k:Int) (s:List UInt8) (n:Int):List UInt8:=wordL k++[40]++((if k=2∨k=5∨k=12 then s else [])++(if k=7 then Lib.itoa n else []))
def sepR (k:Int):List UInt8:=if k=2∨k=5∨k=12∨k=7 then [44] else []
mutual
def textR:Tr→List UInt8
 | .mk k s n ks=>if k=11 then Lib.itoa n else if k=1 then [122,101,114,111] else textRs (headR k s n) (sepR k) ks++[41]
def textRs:List UInt8→List UInt8→List Tr→List UInt8
 | acc,_,[]=>acc
 | acc,sep,t::ts=>textRs (acc++sep++textR t) [44] ts
end
mutual
def lenR:Tr→Nat
 | .mk _ s _ ks=>50+s.length+lenRs ks
def lenRs:List Tr→Nat
 | []=>0
 | t::ts=>lenR t+1+lenRs ts
end
theorem lenRs_app:∀ (a b:List Tr),lenRs (a++b)=lenRs a+lenRs b
 | [],b=>by simp [lenRs]
 | t::a,b=>by simp only [List.cons_append,lenRs,lenRs_app a b];omega
theorem lenRs_len:∀ ts:List Tr,ts.length≤lenRs ts
 | []=>Nat.le_refl _
 | t::ts=>by unfold lenRs;have:=lenRs_len ts;rw [List.length_cons];omega
theorem textRs_app:∀ (a b:List Tr) (acc sep:List UInt8),textRs acc sep (a++b)=textRs (textRs acc sep a) (if a=[] then sep else [44]) b
 | [],b,acc,sep=>by simp [textRs]
 | t::a,b,acc,sep=>by
  rw [List.cons_append,textRs,textRs,textRs_app a b,if_neg (List.cons_ne_nil t a),ite_self]
theorem sepR_len (k:Int):(sepR k).length≤1:=by unfold sepR;split<;>simp
theorem wordL_len (k:Int):(wordL k).length≤5:=by
 unfold wordL
 have:∀ x∈wordTab,x.length≤5:=by decide
 rw [List.getD_eq_getElem?_getD]
 cases h:wordTab[k.toNat]? with
 | none=>simp
 | some x=>exact this x (List.mem_of_getElem? h)
theorem itoa_le (n:Int) (h0:-9223372036854775808≤n) (h1:n≤9223372036854775807):(Lib.itoa n).length≤30:=itoa_short n h0 h1
theorem okK_n {k n:Int} {s:List UInt8} (h:okK k s n=true):((k=11∨k=7)→-1000000000000≤n∧n≤1000000000000)∧1≤k∧k≤16:=by
 unfold okK at h
 repeat' split at h
 ·rename_i h1;exact ⟨fun t=>by omega,by omega,by omega⟩
 ·rename_i h1 h2;exact ⟨fun t=>by omega,by omega,by omega⟩
 ·rename_i h1 h2 h3
  simp only [Bool.and_eq_true,decide_eq_true_eq] at h
  exact ⟨fun _=>by omega,by omega,by omega⟩
 ·rename_i h1 h2 h3 h4
  have:=validF_iff h
  exact ⟨fun _=>this,by omega,by omega⟩
 ·cases h
theorem head_len {k n:Int} {s:List UInt8} (h:okK k s n=true):(headR k s n).length≤s.length+40:=by
 have h1:=wordL_len k
 have h2:=(okK_n h).1
 unfold headR
 simp only [List.length_append,List.length_cons,List.length_nil]
 split
 ·rename_i hk
  rw [if_neg (by omega),List.length_nil];omega
 ·split
  ·rename_i h7
   have:=itoa_le n (by have:=h2 (.inr h7);omega) (by have:=h2 (.inr h7);omega)
   simp only [List.length_nil];omega
  ·simp only [List.length_nil];omega
theorem formRs_get:∀ {ts:List Tr} {b f:Bool} {i:Nat} {t:Tr},formRs ts b f=true→ts[i]? = some t→∃ b',formR t b'=true
 | [],b,f,i,t,h,ht=>by simp at ht
 | u::us,b,f,0,t,h,ht=>by
  unfold formRs at h
  simp only [Bool.and_eq_true] at h
  simp at ht;subst ht
  exact ⟨_,h.1⟩
 | u::us,b,f,i+1,t,h,ht=>by
  unfold formRs at h
  simp only [Bool.and_eq_true] at h
  exact formRs_get h.2 (by simpa using ht)
mutual
theorem textR_len:∀ (t:Tr) (b:Bool),formR t b=true→(textR t).length≤lenR t
 | .mk k s n ks,b,h=>by
  unfold formR at h
  simp only [Bool.and_eq_true] at h
  have hk:=okK_n h.1.1
  unfold textR lenR
  split
  ·have:=itoa_le n (by omega) (by omega);omega
  split
  ·simp;omega
  ·have h1:=head_len h.1.1
   have h2:=textRs_len ks _ _ (headR k s n) (sepR k) h.2 (sepR_len k)
   rw [List.length_append,List.length_singleton];omega
theorem textRs_len:∀ (ts:List Tr) (b f:Bool) (acc sep:List UInt8),formRs ts b f=true→sep.length≤1→(textRs acc sep ts).length≤acc.length+lenRs ts
 | [],b,f,acc,sep,h,hs=>by unfold textRs lenRs;omega
 | t::ts,b,f,acc,sep,h,hs=>by
  unfold formRs at h
  simp only [Bool.and_eq_true] at h
  have h1:=textR_len t _ h.1
  have h2:=textRs_len ts b false (acc++sep++textR t) [44] h.2 (Nat.le_refl _)
  unfold textRs lenRs
  rw [List.length_append,List.length_append] at h2
  omega
end
theorem len_trO (o:Ob) (h:shortO o):lenR (trO o)≤1060 * (3 * nodesO o+1):=by
 induction o<;>simp_all [trO,lenR,lenRs,nodesO,shortO]<;>omega
theorem len_trT (t:Tm) (h:shortT t):lenR (trT t)≤1060 * (3 * nodesT t+1):=by
 induction t with
 | none=>simp [trT,lenR,lenRs,nodesT]
 | zero=>simp [trT,lenR,lenRs,nodesT]
 | one s=>simp [trT,lenR,lenRs,nodesT,shortT] at h ⊢;omega
 | give t i=>have:=i h;simp [trT,lenR,lenRs,nodesT] at this ⊢;omega
 | and l r i j=>have:=i h.1;have:=j h.2;simp [trT,lenR,lenRs,nodesT] at *;omega
 | or s l r i j=>have:=i h.2.1;have:=j h.2.2;have:=h.1;simp [trT,lenR,lenRs,nodesT] at *;omega
 | scale o t i=>have:=i h.2;have:=len_trO o h.1;simp [trT,lenR,lenRs,nodesT] at *;omega
 | when d t i=>have:=i h;simp [trT,lenR,lenRs,nodesT] at *;omega
 | cond o l r i j=>have:=i h.2.1;have:=j h.2.2;have:=len_trO o h.1;simp [trT,lenR,lenRs,nodesT] at *;omega
theorem text_trO:∀ (o:Ob),formO o=true→textR (trO o)=numO o:=by
 intro o h
 induction o with
 | none=>cases h
 | const n=>rfl
 | fix s=>simp [trO,textR,textRs,headR,numO,callL,join1,wordL,wordTab]
 | add l r i j=>simp only [formO,Bool.and_eq_true] at h;simp [trO,textR,textRs,headR,sepR,numO,callL,join2,wordL,wordTab,i h.1,j h.2]
 | neg o i=>simp [trO,textR,textRs,headR,sepR,numO,callL,join1,wordL,wordTab,i h]
 | mul l r i j=>simp only [formO,Bool.and_eq_true] at h;simp [trO,textR,textRs,headR,sepR,numO,callL,join2,wordL,wordTab,i h.1,j h.2]
 | max l r i j=>simp only [formO,Bool.and_eq_true] at h;simp [trO,textR,textRs,headR,sepR,numO,callL,join2,wordL,wordTab,i h.1,j h.2]
theorem text_trT:∀ (t:Tm),formT t=true→textR (trT t)=conT t:=by
 intro t h
 induction t with
 | none=>cases h
 | zero=>rfl
 | one s=>simp [trT,textR,textRs,headR,conT,callL,join1,wordL,wordTab]
 | give t i=>simp [trT,textR,textRs,headR,sepR,conT,callL,join1,wordL,wordTab,i h]
 | and l r i j=>simp only [formT,Bool.and_eq_true] at h;simp [trT,textR,textRs,headR,sepR,conT,callL,join2,wordL,wordTab,i h.1,j h.2]
 | or s l r i j=>simp only [formT,Bool.and_eq_true] at h;simp [trT,textR,textRs,headR,sepR,conT,callL,join3,wordL,wordTab,i h.2.1,j h.2.2]
 | scale o t i=>simp only [formT,Bool.and_eq_true] at h;simp [trT,textR,textRs,headR,sepR,conT,callL,join2,wordL,wordTab,text_trO o h.1,i h.2]
 | when d t i=>simp only [formT,Bool.and_eq_true] at h;simp [trT,textR,textRs,headR,sepR,conT,callL,join2,wordL,wordTab,i h.2]
 | cond o l r i j=>simp only [formT,Bool.and_eq_true] at h;simp [trT,textR,textRs,headR,sepR,conT,callL,join3,wordL,wordTab,text_trO o h.1,i h.2.1,j h.2.2]
def writeR (t:Tr) (b:Bool):List UInt8×Int:=if checkR t b≠0 then ([],checkR t b) else if 1000<(textR t).length then ([],5) else (textR t,0)
theorem writeR_trT (t:Tm):writeR (trT t) false=writeT t:=by
 unfold writeR writeT
 rw [check_trT]
 split
 ·rfl
 rename_i h
 rw [text_trT t (checkT_form (by simpa using h)).1]
theorem cat_huge {a b:ByteArray} {K:Prop} (h:a.size+b.size≤1000000000) (k:K):CatK a b K:=⟨by show ((a.size+b.size:Nat):Int)≤9223372036854775807;omega,k⟩
theorem rword_tab (k:Int) (h0:0≤k) (h1:k≤16) (w:World):Ret Tryz.prog 121 #[.int .i64 k] w fun r w'=>r=.string (str (wordL k))∧Fr none1 w w':=by
 refine c121 k w _ ?_
 refine words_lit wordTab (by decide) fun u w1 hu f1 _=>?_
 have hul:=hu.len
 have hk:k.toNat<wordTab.length:=by show k.toNat<17;omega
 have:=hu.ld (i:=k.toNat) (s:=wordL k) (by unfold wordL;rw [List.getD_eq_getElem?_getD,List.getElem?_eq_getElem hk];rfl) (K:=fun x=>Value.string x=.string (str (wordL k))∧Fr none1 w w1) ⟨rfl,f1⟩
 rw [show k=((k.toNat:Nat):Int) by omega]
 exact this
theorem rtext_spec:∀ (t:Tr) (b:Bool) (hf:formR t b=true) (hl:lenR t≤100000000) {w:World} {S:Nat→Prop} {v:TV} (h:IsTr w S t v),Ret Tryz.prog 90 #[tvA v] w fun r w'=>r=.string (str (textR t))∧Fr none1 w w'
 | .mk k s n ks,b,hf,hl,w,S,v,h=>by
  have ih:∀ t∈ks,∀ b,formR t b=true→lenR t≤100000000→∀ {w:World} {S:Nat→Prop} {v:TV},IsTr w S t v→Ret Tryz.prog 90 #[tvA v] w fun r w'=>r=.string (str (textR t))∧Fr none1 w w':=fun t ht b hf hl w S v h=>rtext_spec t b hf hl h
  refine c90 v w _ ?_
  unfold C90
  unfold formR at hf
  simp only [Bool.and_eq_true] at hf
  have hk:=okK_n hf.1.1
  have hhl:=head_len hf.1.1
  refine NewK.of fun g w1 hg hb f1 _=>LdK.fld hb (x:=v.1) rfl ?_
  have h1:=h.keep0 f1
  rw [h.kind]
  unfold textR
  refine ifB.eq (fun e=>?_) (fun e=>?_)
  ·rw [if_pos e]
   refine LdK.fld hb (x:=v.2.2.1) rfl ?_
   rw [h.num]
   refine CallK.of (digits_spec n (by omega) (by omega) w1) ?_
   rintro _ w2 ⟨rfl,f2⟩
   exact ⟨_,rfl,rfl,f1.trans f2⟩
  rw [if_neg e]
  refine ifB.eq (fun e2=>?_) (fun e2=>?_)
  ·rw [if_pos e2];exact ⟨rfl,f1⟩
  rw [if_neg e2]
  refine LdK.fld hb (x:=v.1) rfl ?_
  rw [h.kind]
  refine CallK.of (rword_tab k (by omega) (by omega) w1) ?_
  rintro _ w2 ⟨rfl,f2⟩
  refine ⟨_,rfl,?_⟩
  have hwl:=wordL_len k
  unfold lenR at hl
  refine cat_huge (by rw [z1z];show (wordL k).length+1≤_;omega) ?_
  have hcat:str (wordL k)++(⟨#[40]⟩:ByteArray)=str (wordL k++[40]):=by rw [← str_app];rfl
  rw [hcat]
  have hb2:=f2.keep0 hb
  have f12:=f1.trans f2
  have hkind:=h.kind
  refine JoinK.of (fun s' w'=>s'.1=str (wordL k++[40]++(if k=2∨k=5∨k=12 then s else []))∧s'.2.1=str (if k=2∨k=5∨k=12 then [44] else [])∧w2=w') ?_ ?_
  ·refine JoinK.of (fun c w'=>(c.1=true↔k=2∨k=5∨k=12)∧w2=w') ?_ ?_
   ·refine LdK.fld hb2 (x:=v.1) rfl ?_
    rw [hkind]
    refine ifB.eq (fun e=>⟨by simp [e],rfl⟩) (fun e=>LdK.fld hb2 (x:=v.1) rfl ?_)
    rw [hkind]
    refine ifB.eq (fun e=>⟨by simp [e],rfl⟩) (fun e2=>LdK.fld hb2 (x:=v.1) rfl ?_)
    rw [hkind]
    exact ⟨by simp [e,e2],rfl⟩
   rintro _ ⟨c,_⟩ _ ⟨hc,rfl⟩
   dsimp only at hc ⊢
   refine ifB.by (fun e=>?_) (fun e=>?_)
   ·refine LdK.fld hb2 (x:=v.2.1) rfl ?_
    rw [h.name]
    refine cat_huge (by rw [z1z,z1z,List.length_append];show (wordL k).length+1+s.length≤_;omega) ?_
    rw [if_pos (hc.1 e),if_pos (hc.1 e),str_app]
    exact ⟨rfl,rfl,rfl⟩
   ·have hn:¬ (k=2∨k=5∨k=12):=fun t=>by rw [hc.2 t] at e;cases e
    rw [if_neg hn,if_neg hn,List.append_nil]
    exact ⟨rfl,rfl,rfl⟩
  rintro _ ⟨s1,sep1,_⟩ _ ⟨hs1,hsep1,rfl⟩
  dsimp only at hs1 hsep1 ⊢
  subst hs1 hsep1
  refine JoinK.of (fun s' w'=>s'.1=str (headR k s n)∧s'.2.1=str (sepR k)∧Fr none1 w w'∧Fr none1 w1 w') ?_ ?_
  ·refine LdK.fld hb2 (x:=v.1) rfl ?_
   rw [hkind]
   refine ifB.eq (fun e7=>?_) (fun e7=>?_)
   ·refine LdK.fld hb2 (x:=v.2.2.1) rfl ?_
    rw [h.num]
    refine CallK.of (digits_spec n (by omega) (by omega) w2) ?_
    rintro _ w3 ⟨rfl,f3⟩
    refine ⟨_,rfl,?_⟩
    have hil:=itoa_le n (by omega) (by omega)
    have hn:¬ (k=2∨k=5∨k=12):=by omega
    rw [if_neg hn,List.append_nil]
    refine cat_huge (by rw [z1z,z1z,List.length_append];show (wordL k).length+1+_≤_;omega) ?_
    unfold headR sepR
    rw [if_neg hn,if_pos e7,if_pos (.inr (.inr (.inr e7))),List.nil_append,str_app]
    exact ⟨rfl,rfl,f12.trans f3,f2.trans f3⟩
   ·unfold headR sepR
    rw [if_neg e7,List.append_nil]
    refine ⟨rfl,?_,f12,f2⟩
    by_cases hn:k=2∨k=5∨k=12
    ·rw [if_pos hn,if_pos hn,if_pos (show k=2∨k=5∨k=12∨k=7 by omega)]
    ·rw [if_neg hn,if_neg hn,if_neg (show ¬ (k=2∨k=5∨k=12∨k=7) by omega)]
  rintro _ ⟨s2,sep2,_⟩ w3 ⟨hs2,hsep2,f3,g3⟩
  dsimp only at hs2 hsep2 ⊢
  subst hs2 hsep2
  refine LdK.fld (g3.keep0 hb) (x:=v.2.2.2.1) rfl ?_
  have hvl:=h.len
  have hkl:=lenRs_len ks
  refine LoopK.of (fun s' w'=>∃ i:Nat,s'.2.2.1=i∧i≤ks.length∧s'.1=str (textRs (headR k s n) (sepR k) (ks.take i))∧s'.2.1=str (if ks.take i=[] then sepR k else [44])∧Fr none1 w w'∧Fr none1 w1 w') (fun s' _=>(ks.length - s'.2.2.1).toNat)
   ⟨0,rfl,Nat.zero_le _,rfl,rfl,f3,g3⟩ ?_
  rintro _ ⟨acc,sep,i',_⟩ w4 ⟨i,hi,hil,hacc,hsep,f4,g4⟩
  dsimp only at hi hacc hsep ⊢
  subst hi hacc hsep
  have hlk:=lenRs_app (ks.take i) (ks.drop i)
  rw [List.take_append_drop] at hlk
  have hft:formRs (ks.take i) b (k==6||k==8)=true:=by
   have key:∀ (ts:List Tr) (n:Nat) (b f:Bool),formRs ts b f=true→formRs (ts.take n) b f=true:=by
    intro ts
    induction ts with
    | nil=>intro n b f _;simp [formRs]
    | cons t ts ih=>
     intro n b f h
     cases n with
     | zero=>simp [formRs]
     | succ n=>
      unfold formRs at h
      simp only [Bool.and_eq_true] at h
      rw [List.take_succ_cons]
      unfold formRs
      rw [h.1,ih n b false h.2];rfl
   exact key ks i _ _ hf.2
  have htl:=textRs_len (ks.take i) b _ (headR k s n) (sepR k) hft (sepR_len k)
  have hsl:(if ks.take i=[] then sepR k else [44]).length≤1:=by split;exact sepR_len k;simp
  rw [hvl]
  refine ifB.dec (fun hlt=>?_) (fun hge=>?_)
  ·have hi2:i<ks.length:=by omega
   obtain ⟨t,ht⟩:∃ t,ks[i]? = some t:=⟨_,List.getElem?_eq_getElem hi2⟩
   obtain ⟨b',hb'⟩:=formRs_get hf.2 ht
   have hlt2:lenR t+1≤lenRs (ks.drop i):=by rw [drop_one ht];unfold lenRs;omega
   have htl2:=textR_len t b' hb'
   refine cat_huge (by rw [z1z,z1z];omega) ?_
   refine LdK.fld (g4.keep0 hb) (x:=v.2.2.2.1) rfl ?_
   refine (h1.keep0 g4).kids ht fun x hx=>?_
   refine CallK.of (ih t (List.mem_of_getElem? ht) b' hb' (by omega) hx) ?_
   rintro _ w5 ⟨rfl,f5⟩
   refine ⟨_,rfl,?_⟩
   rw [str_app]
   refine cat_huge (by rw [z1z,z1z,List.length_append];omega) ?_
   refine ⟨⟨i+1,by rw [wI (by omega) (by omega)];omega,by omega,?_,?_,f4.trans f5,g4.trans f5⟩,by rw [wI (by omega) (by omega)];omega⟩
   ·rw [take_one ht,textRs_app,str_app]
    simp only [textRs]
   ·rw [take_one ht,if_neg (by simp)];rfl
  ·have:i=ks.length:=by omega
   subst this
   rw [List.take_length] at htl ⊢
   refine cat_huge (by rw [z1z];show _+1≤_;omega) ?_
   exact ⟨by rw [← str_app];rfl,f4⟩
termination_by t=>SizeOf.sizeOf t
decreasing_by exact kid_lt ht
theorem rwrite_spec (t:Tr) (b:Bool) (hn:cntR t≤1000000) (hsh:shortR t) (hl:lenR t≤100000000) {w:World} {S:Nat→Prop} {v:TV} (h:IsTr w S t v) (hS:∀ k,S k→k<w.heap.size) :
  Ret Tryz.prog 56 #[tvA v,.bool b] w fun r w'=>r=.tuple #[.string (str (writeR t b).1),.int .i64 (writeR t b).2]∧Fr none1 w w':=by
 refine c56 v b w _ ?_
 unfold C56
 refine NewK.of fun g w1 hg hb f1 _=>?_
 have tb:TB w1 g v:=hb
 refine tb.ld ?_
 have h1:=h.keep0 f1
 refine CallK.of (rcheck_spec t b hn hsh h1 (fun k hk=>by have:=hS k hk;have:=f1.size;omega)) ?_
 rintro _ w2 ⟨rfl,f2⟩
 refine ⟨_,rfl,?_⟩
 unfold writeR
 refine ifB.ne (fun e=>?_) (fun e=>?_)
 ·rw [if_pos e];exact ⟨rfl,f1.trans f2⟩
 rw [if_neg (fun t=>t e)]
 have hf:formR t b=true:=by
  unfold checkR at e
  split at e
  ·exact absurd e (by decide)
  ·rename_i hf;cases hq:formR t b
   ·exact absurd hq hf
   ·rfl
 refine (tb.keep0 f2).ld ?_
 refine CallK.of (rtext_spec t b hf hl (h1.keep0 f2)) ?_
 rintro _ w3 ⟨rfl,f3⟩
 refine ⟨_,rfl,?_⟩
 rw [z1z]
 refine ifB.dec (fun hx=>?_) (fun hx=>?_)
 ·rw [if_pos (by omega)];exact ⟨rfl,(f1.trans f2).trans f3⟩
 ·rw [if_neg (by omega)];exact ⟨rfl,(f1.trans f2).trans f3⟩
def C52 (p0:Int) (w:World) (K:Value→World→Prop):Prop:=
 ifB (p0==1)
 (K (.string (⟨#[]⟩:ByteArray)) w)
 (ifB (p0==2)
 (K (.string (⟨#[73,84]⟩:ByteArray)) w)
 (ifB (p0==3)
 (K (.string (⟨#[78,68,86]⟩:ByteArray)) w)
 (ifB (p0==4)
 (K (.string (⟨#[73,76,86]⟩:ByteArray)) w)
 (ifB (p0==5)
 (K (.string (⟨#[68]⟩:ByteArray)) w)
 (ifB (p0==6)
 (K (.string (⟨#[68,67,86]⟩:ByteArray)) w)
 (K (.string (⟨#[63]⟩:ByteArray)) w))))))
def pl52:Plan:=.auto
theorem c52 (p0:Int) (w:World) (K:Value→World→Prop) (h:C52 p0 w K):Ret Tryz.prog 52 #[.int .i64 p0] w K:=z0z (by kernel_rfl) Tryz.func52 (p:=pl52) (Eq.mpr (by kernel_rfl) h)
def C54 (p0:ByteArray) (p1:Int) (w:World) (K:Value→World→Prop):Prop:=
 LoopK (Int×Unit) (fun _ s1 w2 next3=>ifB (decide (s1.1<(p0.size:Int)))
 (StrK p0 s1.1 (fun x4=>ifB (x4==p1)
 (K (.bool true) w2)
 (next3 (IntKind.i64.wrap (s1.1+1),()) w2)))
 (K (.bool false) w2))
 (0,()) w
def pl54:Plan:=(.seq .auto (.seq (.seq .auto (.block (.loop [(5,.one (.int .i64))] .auto))) .auto))
theorem c54 (p0:ByteArray) (p1:Int) (w:World) (K:Value→World→Prop) (h:C54 p0 p1 w K):Ret Tryz.prog 54 #[.string p0,.int .u8 p1] w K:=z0z (by kernel_rfl) Tryz.func54 (p:=pl54) (Eq.mpr (by kernel_rfl) h)
def C53 (p0:ByteArray) (p1:Bool) (w:World) (K:Value→World→Prop):Prop:=
 ifB p1
 (CallK Tryz.prog 88 #[.string p0] w (.v (.one .bool)) (fun (x1:Bool) w2=>ifB x1
 (K (.bool true) w2)
 (ifB (!p1)
 (K (.bool (p0.toList==(⟨#[]⟩:ByteArray).toList)) w2)
 (K (.bool false) w2))))
 (ifB (!p1)
 (K (.bool (p0.toList==(⟨#[]⟩:ByteArray).toList)) w)
 (K (.bool false) w))
def pl53:Plan:=.auto
theorem c53 (p0:ByteArray) (p1:Bool) (w:World) (K:Value→World→Prop) (h:C53 p0 p1 w K):Ret Tryz.prog 53 #[.string p0,.bool p1] w K:=z0z (by kernel_rfl) Tryz.func53 (p:=pl53) (Eq.mpr (by kernel_rfl) h)
def C29 (p0:YZ16) (p1:Bool) (w:World) (K:Value→World→Prop):Prop:=
 NewK (.cells ((LZ16 p0).toArray) 43) w (fun g1 w2=>LdK (.int .i64) ((ad g1).add 0) w2 (fun (x3:Int)=>CallK Tryz.prog 52 #[.int .i64 x3] w2 (.v (.one .str)) (fun (x4:ByteArray) w5=>DrewK w5 (fun w6=>HoldK (fun S7=>ifB (x4.toList==(⟨#[63]⟩:ByteArray).toList)
 (K (.int .i64 1) w6)
 (InK S7 ((ad g1).add 1) (LdK .str ((ad g1).add 1) w6 (fun (x8:ByteArray)=>CallK Tryz.prog 54 #[.string x4,.int .u8 73] w6 (.v (.one .bool)) (fun (x9:Bool) w10=>KeepK S7 w6 w10 (CallK Tryz.prog 53 #[.string x8,.bool x9] w10 (.v (.one .bool)) (fun (x11:Bool) w12=>KeepK S7 w10 w12 (ifB (!x11)
 (K (.int .i64 1) w12)
 (InK S7 ((ad g1).add 2) (LdK .str ((ad g1).add 2) w12 (fun (x13:ByteArray)=>CallK Tryz.prog 54 #[.string x4,.int .u8 78] w12 (.v (.one .bool)) (fun (x14:Bool) w15=>KeepK S7 w12 w15 (CallK Tryz.prog 53 #[.string x13,.bool x14] w15 (.v (.one .bool)) (fun (x16:Bool) w17=>KeepK S7 w15 w17 (ifB (!x16)
 (K (.int .i64 1) w17)
 (InK S7 ((ad g1).add 3) (LdK .str ((ad g1).add 3) w17 (fun (x18:ByteArray)=>CallK Tryz.prog 54 #[.string x4,.int .u8 76] w17 (.v (.one .bool)) (fun (x19:Bool) w20=>KeepK S7 w17 w20 (CallK Tryz.prog 53 #[.string x18,.bool x19] w20 (.v (.one .bool)) (fun (x21:Bool) w22=>KeepK S7 w20 w22 (ifB (!x21)
 (K (.int .i64 1) w22)
 (InK S7 ((ad g1).add 4) (LdK .str ((ad g1).add 4) w22 (fun (x23:ByteArray)=>CallK Tryz.prog 54 #[.string x4,.int .u8 67] w22 (.v (.one .bool)) (fun (x24:Bool) w25=>KeepK S7 w22 w25 (CallK Tryz.prog 53 #[.string x23,.bool x24] w25 (.v (.one .bool)) (fun (x26:Bool) w27=>KeepK S7 w25 w27 (ifB (!x26)
 (K (.int .i64 1) w27)
 (JoinK (Bool×Unit) (fun J28=>CallK Tryz.prog 54 #[.string x4,.int .u8 68] w27 (.v (.one .bool)) (fun (x31:Bool) w32=>ifB x31
 (LdK (.int .i64) ((ad g1).add 5) w32 (fun (x33:Int)=>ifB (decide (x33<0))
 (J28 (true,()) w32)
 (LdK (.int .i64) ((ad g1).add 5) w32 (fun (x34:Int)=>ifB (decide (x34 > 10000))
 (J28 (true,()) w32)
 (CallK Tryz.prog 54 #[.string x4,.int .u8 68] w32 (.v (.one .bool)) (fun (x35:Bool) w36=>ifB (!x35)
 (LdK (.int .i64) ((ad g1).add 5) w36 (fun (x37:Int)=>ifB (x37 != 0)
 (J28 (true,()) w36)
 (CallK Tryz.prog 54 #[.string x4,.int .u8 86] w36 (.v (.one .bool)) (fun (x38:Bool) w39=>ifB x38
 (LdK (.int .i64) ((ad g1).add 6) w39 (fun (x40:Int)=>CallK Tryz.prog 55 #[.int .i64 x40] w39 (.v (.one .bool)) (fun (x41:Bool) w42=>ifB (!x41)
 (J28 (true,()) w42)
 (CallK Tryz.prog 54 #[.string x4,.int .u8 86] w42 (.v (.one .bool)) (fun (x43:Bool) w44=>ifB (!x43)
 (LdK (.int .i64) ((ad g1).add 6) w44 (fun (x45:Int)=>J28 ((x45 != 0),()) w44))
 (J28 (false,()) w44))))))
 (CallK Tryz.prog 54 #[.string x4,.int .u8 86] w39 (.v (.one .bool)) (fun (x46:Bool) w47=>ifB (!x46)
 (LdK (.int .i64) ((ad g1).add 6) w47 (fun (x48:Int)=>J28 ((x48 != 0),()) w47))
 (J28 (false,()) w47)))))))
 (CallK Tryz.prog 54 #[.string x4,.int .u8 86] w36 (.v (.one .bool)) (fun (x49:Bool) w50=>ifB x49
 (LdK (.int .i64) ((ad g1).add 6) w50 (fun (x51:Int)=>CallK Tryz.prog 55 #[.int .i64 x51] w50 (.v (.one .bool)) (fun (x52:Bool) w53=>ifB (!x52)
 (J28 (true,()) w53)
 (CallK Tryz.prog 54 #[.string x4,.int .u8 86] w53 (.v (.one .bool)) (fun (x54:Bool) w55=>ifB (!x54)
 (LdK (.int .i64) ((ad g1).add 6) w55 (fun (x56:Int)=>J28 ((x56 != 0),()) w55))
 (J28 (false,()) w55))))))
 (CallK Tryz.prog 54 #[.string x4,.int .u8 86] w50 (.v (.one .bool)) (fun (x57:Bool) w58=>ifB (!x57)
 (LdK (.int .i64) ((ad g1).add 6) w58 (fun (x59:Int)=>J28 ((x59 != 0),()) w58))
 (J28 (false,()) w58)))))))))))
 (CallK Tryz.prog 54 #[.string x4,.int .u8 68] w32 (.v (.one .bool)) (fun (x60:Bool) w61=>ifB (!x60)
 (LdK (.int .i64) ((ad g1).add 5) w61 (fun (x62:Int)=>ifB (x62 != 0)
 (J28 (true,()) w61)
 (CallK Tryz.prog 54 #[.string x4,.int .u8 86] w61 (.v (.one .bool)) (fun (x63:Bool) w64=>ifB x63
 (LdK (.int .i64) ((ad g1).add 6) w64 (fun (x65:Int)=>CallK Tryz.prog 55 #[.int .i64 x65] w64 (.v (.one .bool)) (fun (x66:Bool) w67=>ifB (!x66)
 (J28 (true,()) w67)
 (CallK Tryz.prog 54 #[.string x4,.int .u8 86] w67 (.v (.one .bool)) (fun (x68:Bool) w69=>ifB (!x68)
 (LdK (.int .i64) ((ad g1).add 6) w69 (fun (x70:Int)=>J28 ((x70 != 0),()) w69))
 (J28 (false,()) w69))))))
 (CallK Tryz.prog 54 #[.string x4,.int .u8 86] w64 (.v (.one .bool)) (fun (x71:Bool) w72=>ifB (!x71)
 (LdK (.int .i64) ((ad g1).add 6) w72 (fun (x73:Int)=>J28 ((x73 != 0),()) w72))
 (J28 (false,()) w72)))))))
 (CallK Tryz.prog 54 #[.string x4,.int .u8 86] w61 (.v (.one .bool)) (fun (x74:Bool) w75=>ifB x74
 (LdK (.int .i64) ((ad g1).add 6) w75 (fun (x76:Int)=>CallK Tryz.prog 55 #[.int .i64 x76] w75 (.v (.one .bool)) (fun (x77:Bool) w78=>ifB (!x77)
 (J28 (true,()) w78)
 (CallK Tryz.prog 54 #[.string x4,.int .u8 86] w78 (.v (.one .bool)) (fun (x79:Bool) w80=>ifB (!x79)
 (LdK (.int .i64) ((ad g1).add 6) w80 (fun (x81:Int)=>J28 ((x81 != 0),()) w80))
 (J28 (false,()) w80))))))
 (CallK Tryz.prog 54 #[.string x4,.int .u8 86] w75 (.v (.one .bool)) (fun (x82:Bool) w83=>ifB (!x82)
 (LdK (.int .i64) ((ad g1).add 6) w83 (fun (x84:Int)=>J28 ((x84 != 0),()) w83))
 (J28 (false,()) w83)))))))))
 (fun _ s29 w30=>ifB s29.1
 (K (.int .i64 1) w30)
 (JoinK (Bool×Unit) (fun J85=>CallK Tryz.prog 54 #[.string x4,.int .u8 84] w30 (.v (.one .bool)) (fun (x88:Bool) w89=>ifB (!x88)
 (LdK (.int .i64) (((ad g1).add 7).add 0) w89 (fun (x90:Int)=>ifB (x90 != 0)
 (J85 (true,()) w89)
 (ifB p1
 (J85 (true,()) w89)
 (LdK (.int .i64) ((ad g1).add 0) w89 (fun (x91:Int)=>ifB (x91==4)
 (LdK (.int .i64) ((ad g1).add 6) w89 (fun (x92:Int)=>ifB (decide (x92<0))
 (J85 (true,()) w89)
 (LdK (.int .i64) ((ad g1).add 6) w89 (fun (x93:Int)=>J85 (decide (x93 > 1),()) w89))))
 (J85 (false,()) w89))))))
 (LdK (.int .i64) ((ad g1).add 0) w89 (fun (x94:Int)=>ifB (x94==4)
 (LdK (.int .i64) ((ad g1).add 6) w89 (fun (x95:Int)=>ifB (decide (x95<0))
 (J85 (true,()) w89)
 (LdK (.int .i64) ((ad g1).add 6) w89 (fun (x96:Int)=>J85 (decide (x96 > 1),()) w89))))
 (J85 (false,()) w89)))))
 (fun _ s86 w87=>ifB s86.1
 (K (.int .i64 1) w87)
 (LdK (.int .i64) ((ad g1).add 0) w87 (fun (x97:Int)=>ifB (x97==2)
 (LdsK KZ3 ((ad g1).add 7) w87 (fun (x98:YZ3)=>CallK Tryz.prog 56 #[.agg (LZ3 x98).toArray,.bool false] w87 (.tup [.one .str,.one (.int .i64)]) (fun (x99:ByteArray×Int×Unit) w100=>K (.int .i64 x99.2.1) w100)))
 (K (.int .i64 0) w87))))))))))))))))))))))))))))))))))))))))
def pl29:Plan:=(.seq .auto (.seq .auto (.seq (.seq (.held (.soft 0 (.soft 1 (.soft 2 (.soft 3 (.soft 4 (.soft 5 (.pick 6 (.pick 7 (.soft 8 (.soft 9 (.soft 10 (.soft 11 (.soft 12 (.soft 13 (.pick 14 (.pick 15 (.soft 16 (.soft 17 (.soft 18 (.soft 19 (.soft 20 (.soft 21 (.pick 22 (.pick 23 (.soft 24 (.soft 25 (.soft 26 (.soft 27 (.soft 28 (.soft 29 (.pick 30 (.pick 31 (.soft 32 (.soft 33 .done)) .stop) .stop))))))) .stop) .stop))))))) .stop) .stop))))))) .stop) .stop)))))))) .auto) (.seq (.join [(86,.one .bool)] .auto .auto) (.seq (.join [(113,.one .bool)] .auto .auto) .auto)))))
theorem c29 (p0:YZ16) (p1:Bool) (w:World) (K:Value→World→Prop) (h:C29 p0 p1 w K):Ret Tryz.prog 29 #[.agg (LZ16 p0).toArray,.bool p1] w K:=z0z (by kernel_rfl) Tryz.func29 (p:=pl29) (Eq.mpr (by kernel_rfl) h)
def C35 (p0:Int) (w:World) (K:Value→World→Prop):Prop:=
 LoopK (SlT×Int×Unit) (fun _ s1 w2 next3=>ifB (decide (s1.2.1 ≥ 0))
 (NnK (IntKind.u64.wrap (IntKind.i64.wrap (8 * s1.2.1))) (RunK Tryz.prog (Instr.buildSlice 22 1 #[(0,.int .u8 (IntKind.u8.wrap (Int.fdiv (IntKind.u64.wrap p0) (2 ^ (min (Int.toNat (IntKind.u64.wrap (IntKind.i64.wrap (8 * s1.2.1)))) 64)))))]) w2 (.v (.one .slc)) (fun (x4:SlT) w5=>RunK Tryz.prog (Builtin.append_ #[22,22] 22 #[.slice s1.1.1 s1.1.2.1 s1.1.2.2,.slice x4.1 x4.2.1 x4.2.2]) w5 (.v (.one .slc)) (fun (x6:SlT) w7=>next3 ((x6.1,x6.2.1,x6.2.2),IntKind.i64.wrap (s1.2.1 - 1),()) w7))))
 (K (.slice s1.1.1 s1.1.2.1 s1.1.2.2) w2))
 ((none,0,0),7,()) w
def pl35:Plan:=(.seq .auto (.seq .auto (.seq (.seq .auto (.block (.loop [(3,.one .slc),(4,.one (.int .i64))] .auto))) .auto)))
theorem c35 (p0:Int) (w:World) (K:Value→World→Prop) (h:C35 p0 w K):Ret Tryz.prog 35 #[.int .i64 p0] w K:=z0z (by kernel_rfl) Tryz.func35 (p:=pl35) (Eq.mpr (by kernel_rfl) h)
def C65 (p0:ByteArray) (w:World) (K:Value→World→Prop):Prop:=
 RunK Tryz.prog (Instr.buildSlice 22 1 #[(0,.int .u8 (IntKind.u8.wrap (p0.size:Int)))]) w (.v (.one .slc)) (fun (x1:SlT) w2=>RunK Tryz.prog (Builtin.append_ #[22,9] 22 #[.slice x1.1 x1.2.1 x1.2.2,.string p0]) w2 (.v (.one .slc)) (fun (x3:SlT) w4=>K (.slice x3.1 x3.2.1 x3.2.2) w4))
def pl65:Plan:=.auto
theorem c65 (p0:ByteArray) (w:World) (K:Value→World→Prop) (h:C65 p0 w K):Ret Tryz.prog 65 #[.string p0] w K:=z0z (by kernel_rfl) Tryz.func65 (p:=pl65) (Eq.mpr (by kernel_rfl) h)
def C36 (p0:YZ16) (w:World) (K:Value→World→Prop):Prop:=
 NewK (.cells ((LZ16 p0).toArray) 43) w (fun g1 w2=>LdsK KZ16 (ad g1) w2 (fun (x3:YZ16)=>CallK Tryz.prog 29 #[.agg (LZ16 x3).toArray,.bool false] w2 (.v (.one (.int .i64))) (fun (x4:Int) w5=>ifB (x4 != 0)
 (K (.tuple #[.slice none 0 0,.int .i64 x4]) w5)
 (LdK (.int .i64) ((ad g1).add 0) w5 (fun (x6:Int)=>RunK Tryz.prog (Instr.buildSlice 22 1 #[(0,.int .u8 (IntKind.u8.wrap x6))]) w5 (.v (.one .slc)) (fun (x7:SlT) w8=>RunK Tryz.prog (Instr.buildSlice 22 7 #[(0,.int .u8 73),(1,.int .u8 78),(2,.int .u8 76),(3,.int .u8 67),(4,.int .u8 68),(5,.int .u8 86),(6,.int .u8 84)]) w8 (.v (.one .slc)) (fun (x9:SlT) w10=>RunK Tryz.prog (convert 22 22 (.slice x9.1 x9.2.1 x9.2.2)) w10 (.v (.one .slc)) (fun (x11:SlT) w12=>LoopK (SlT×Int×Unit) (fun _ s13 w14 next15=>ifB (decide (s13.2.1<(x11.2.1:Int)))
 (IdxK x11.1 x11.2.1 s13.2.1 1 (fun a16=>LdK (.int .u8) a16 w14 (fun (x17:Int)=>LdK (.int .i64) ((ad g1).add 0) w14 (fun (x18:Int)=>CallK Tryz.prog 52 #[.int .i64 x18] w14 (.v (.one .str)) (fun (x19:ByteArray) w20=>CallK Tryz.prog 54 #[.string x19,.int .u8 x17] w20 (.v (.one .bool)) (fun (x21:Bool) w22=>ifB (!x21)
 (next15 ((s13.1.1,s13.1.2.1,s13.1.2.2),IntKind.i64.wrap (s13.2.1+1),()) w22)
 (ifB (x17==73)
 (LdK .str ((ad g1).add 1) w22 (fun (x23:ByteArray)=>CallK Tryz.prog 65 #[.string x23] w22 (.v (.one .slc)) (fun (x24:SlT) w25=>RunK Tryz.prog (Builtin.append_ #[22,22] 22 #[.slice s13.1.1 s13.1.2.1 s13.1.2.2,.slice x24.1 x24.2.1 x24.2.2]) w25 (.v (.one .slc)) (fun (x26:SlT) w27=>next15 ((x26.1,x26.2.1,x26.2.2),IntKind.i64.wrap (s13.2.1+1),()) w27))))
 (ifB (x17==78)
 (LdK .str ((ad g1).add 2) w22 (fun (x28:ByteArray)=>CallK Tryz.prog 65 #[.string x28] w22 (.v (.one .slc)) (fun (x29:SlT) w30=>RunK Tryz.prog (Builtin.append_ #[22,22] 22 #[.slice s13.1.1 s13.1.2.1 s13.1.2.2,.slice x29.1 x29.2.1 x29.2.2]) w30 (.v (.one .slc)) (fun (x31:SlT) w32=>next15 ((x31.1,x31.2.1,x31.2.2),IntKind.i64.wrap (s13.2.1+1),()) w32))))
 (ifB (x17==76)
 (LdK .str ((ad g1).add 3) w22 (fun (x33:ByteArray)=>CallK Tryz.prog 65 #[.string x33] w22 (.v (.one .slc)) (fun (x34:SlT) w35=>RunK Tryz.prog (Builtin.append_ #[22,22] 22 #[.slice s13.1.1 s13.1.2.1 s13.1.2.2,.slice x34.1 x34.2.1 x34.2.2]) w35 (.v (.one .slc)) (fun (x36:SlT) w37=>next15 ((x36.1,x36.2.1,x36.2.2),IntKind.i64.wrap (s13.2.1+1),()) w37))))
 (ifB (x17==67)
 (LdK .str ((ad g1).add 4) w22 (fun (x38:ByteArray)=>CallK Tryz.prog 65 #[.string x38] w22 (.v (.one .slc)) (fun (x39:SlT) w40=>RunK Tryz.prog (Builtin.append_ #[22,22] 22 #[.slice s13.1.1 s13.1.2.1 s13.1.2.2,.slice x39.1 x39.2.1 x39.2.2]) w40 (.v (.one .slc)) (fun (x41:SlT) w42=>next15 ((x41.1,x41.2.1,x41.2.2),IntKind.i64.wrap (s13.2.1+1),()) w42))))
 (ifB (x17==68)
 (LdK (.int .i64) ((ad g1).add 5) w22 (fun (x43:Int)=>CallK Tryz.prog 35 #[.int .i64 x43] w22 (.v (.one .slc)) (fun (x44:SlT) w45=>RunK Tryz.prog (Builtin.append_ #[22,22] 22 #[.slice s13.1.1 s13.1.2.1 s13.1.2.2,.slice x44.1 x44.2.1 x44.2.2]) w45 (.v (.one .slc)) (fun (x46:SlT) w47=>next15 ((x46.1,x46.2.1,x46.2.2),IntKind.i64.wrap (s13.2.1+1),()) w47))))
 (ifB (x17==86)
 (LdK (.int .i64) ((ad g1).add 6) w22 (fun (x48:Int)=>CallK Tryz.prog 35 #[.int .i64 x48] w22 (.v (.one .slc)) (fun (x49:SlT) w50=>RunK Tryz.prog (Builtin.append_ #[22,22] 22 #[.slice s13.1.1 s13.1.2.1 s13.1.2.2,.slice x49.1 x49.2.1 x49.2.2]) w50 (.v (.one .slc)) (fun (x51:SlT) w52=>next15 ((x51.1,x51.2.1,x51.2.2),IntKind.i64.wrap (s13.2.1+1),()) w52))))
 (LdsK KZ3 ((ad g1).add 7) w22 (fun (x53:YZ3)=>CallK Tryz.prog 56 #[.agg (LZ3 x53).toArray,.bool false] w22 (.tup [.one .str,.one (.int .i64)]) (fun (x54:ByteArray×Int×Unit) w55=>ifB (x54.2.1 != 0)
 (K (.tuple #[.slice none 0 0,.int .i64 x54.2.1]) w55)
 (NnK 8 (RunK Tryz.prog (Instr.buildSlice 22 2 #[(0,.int .u8 (IntKind.u8.wrap (Int.fdiv (x54.1.size:Int) (2 ^ (min (Int.toNat 8) 64))))),(1,.int .u8 (IntKind.u8.wrap (x54.1.size:Int)))]) w55 (.v (.one .slc)) (fun (x56:SlT) w57=>RunK Tryz.prog (Builtin.append_ #[22,22] 22 #[.slice s13.1.1 s13.1.2.1 s13.1.2.2,.slice x56.1 x56.2.1 x56.2.2]) w57 (.v (.one .slc)) (fun (x58:SlT) w59=>RunK Tryz.prog (Builtin.append_ #[22,9] 22 #[.slice x58.1 x58.2.1 x58.2.2,.string x54.1]) w59 (.v (.one .slc)) (fun (x60:SlT) w61=>next15 ((x60.1,x60.2.1,x60.2.2),IntKind.i64.wrap (s13.2.1+1),()) w61))))))))))))))))))))
 (K (.tuple #[.slice s13.1.1 s13.1.2.1 s13.1.2.2,.int .i64 0]) w14))
 ((x7.1,x7.2.1,x7.2.2),0,()) w12))))))))
def pl36:Plan:=(.seq .auto (.seq .auto (.seq .auto (.seq (.seq .auto (.block (.loop [(5,.one .slc),(22,.one (.int .i64))] .auto))) .auto))))
theorem c36 (p0:YZ16) (w:World) (K:Value→World→Prop) (h:C36 p0 w K):Ret Tryz.prog 36 #[.agg (LZ16 p0).toArray] w K:=z0z (by kernel_rfl) Tryz.func36 (p:=pl36) (Eq.mpr (by kernel_rfl) h)
abbrev EvR:=Int×ByteArray×ByteArray×ByteArray×ByteArray×Int×Int×Int×ByteArray×Int×(Option Addr×Nat×Nat)×Unit
def evR (e:EvT) (v:TV):EvR:=(e.1,e.2.1,e.2.2.1,e.2.2.2.1,e.2.2.2.2.1,e.2.2.2.2.2.1,e.2.2.2.2.2.2.1,v.1,v.2.1,v.2.2.1,v.2.2.2.1,())
def evRL (x:EvR):List Value:=[.int .i64 x.1,.string x.2.1,.string x.2.2.1,.string x.2.2.2.1,.string x.2.2.2.2.1,.int .i64 x.2.2.2.2.2.1,.int .i64 x.2.2.2.2.2.2.1,.int .i64 x.2.2.2.2.2.2.2.1,.string x.2.2.2.2.2.2.2.2.1,.int .i64 x.2.2.2.2.2.2.2.2.2.1,.slice x.2.2.2.2.2.2.2.2.2.2.1.1 x.2.2.2.2.2.2.2.2.2.2.1.2.1 x.2.2.2.2.2.2.2.2.2.2.1.2.2]
def evRA (x:EvR):Value:=.agg #[.int .i64 x.1,.string x.2.1,.string x.2.2.1,.string x.2.2.2.1,.string x.2.2.2.2.1,.int .i64 x.2.2.2.2.2.1,.int .i64 x.2.2.2.2.2.2.1,.int .i64 x.2.2.2.2.2.2.2.1,.string x.2.2.2.2.2.2.2.2.1,.int .i64 x.2.2.2.2.2.2.2.2.2.1,.slice x.2.2.2.2.2.2.2.2.2.2.1.1 x.2.2.2.2.2.2.2.2.2.2.1.2.1 x.2.2.2.2.2.2.2.2.2.2.1.2.2]
def textF (s:ByteArray) (named:Bool):Bool:=if named=true then nameB s else emptyB s
def badN (e:EvT):Bool:=(hasF e.1 68&&(decide (e.2.2.2.2.2.1<0)||decide (e.2.2.2.2.2.1 > 10000)))||((!hasF e.1 68&&(e.2.2.2.2.2.1 != 0))||((hasF e.1 86&&!validF e.2.2.2.2.2.2.1)||(!hasF e.1 86&&(e.2.2.2.2.2.2.1 != 0))))
def badT (e:EvT):Bool:=(!hasF e.1 84&&!nilT e.2.2.2.2.2.2.2.1)||((e.1==4)&&(decide (e.2.2.2.2.2.2.1<0)||decide (e.2.2.2.2.2.2.1 > 1)))
theorem text_two (s:ByteArray) (h:Bool):((emptyB s||h)&&(!h||nameB s))=textF s h:=by
 cases h<;>simp [textF]
theorem checkF_one {e:EvT} (tr:Int) (h:onlyF e=false∨namedF e=false∨e.2.2.2.2.2.1<0∨e.2.2.2.2.2.1 > 10000∨validF e.2.2.2.2.2.2.1=false∨(e.1=4∧e.2.2.2.2.2.2.1≠0∧e.2.2.2.2.2.2.1≠1)):checkF e tr=1:=by
 unfold checkF
 by_cases c0:fieldsF e.1=[63]
 ·rw [if_pos c0]
 rw [if_neg c0]
 by_cases c1:onlyF e=false
 ·rw [if_pos c1]
 rw [if_neg c1]
 by_cases c2:namedF e=false
 ·rw [if_pos c2]
 rw [if_neg c2]
 by_cases c3:e.2.2.2.2.2.1<0
 ·rw [if_pos c3]
 rw [if_neg c3]
 by_cases c4:e.2.2.2.2.2.1 > 10000
 ·rw [if_pos c4]
 rw [if_neg c4]
 by_cases c5:validF e.2.2.2.2.2.2.1=false
 ·rw [if_pos c5]
 rw [if_neg c5]
 by_cases c6:e.1=4∧e.2.2.2.2.2.2.1≠0∧e.2.2.2.2.2.2.1≠1
 ·rw [if_pos c6]
 ·exfalso
  rcases h with h | h | h | h | h | h
  ·exact c1 h
  ·exact c2 h
  ·exact c3 h
  ·exact c4 h
  ·exact c5 h
  ·exact c6 h
theorem text_bad {s:ByteArray} {h:Bool} (t:textF s h=false):(emptyB s||h)=false∨(!h||nameB s)=false:=by
 rw [← text_two] at t
 cases hx:(emptyB s||h)
 ·exact .inl rfl
 ·rw [hx,Bool.true_and] at t;exact .inr t
theorem text_good {s:ByteArray} {h:Bool} (t:textF s h=true):(emptyB s||h)=true∧(!h||nameB s)=true:=by
 rw [← text_two,Bool.and_eq_true] at t;exact t
theorem only_no {e:EvT} (h:(emptyB e.2.1||hasF e.1 73)=false∨(emptyB e.2.2.1||hasF e.1 78)=false∨(emptyB e.2.2.2.1||hasF e.1 76)=false∨(emptyB e.2.2.2.2.1||hasF e.1 67)=false∨(e.2.2.2.2.2.1==0||hasF e.1 68)=false∨(e.2.2.2.2.2.2.1==0||hasF e.1 86)=false∨(nilT e.2.2.2.2.2.2.2.1||hasF e.1 84)=false):onlyF e=false:=by
 unfold onlyF
 rcases h with h | h | h | h | h | h | h<;>simp [h]
theorem named_no {e:EvT} (h:(!hasF e.1 73||nameB e.2.1)=false∨(!hasF e.1 78||nameB e.2.2.1)=false∨(!hasF e.1 76||nameB e.2.2.2.1)=false∨(!hasF e.1 67||nameB e.2.2.2.2.1)=false):namedF e=false:=by
 unfold namedF
 rcases h with h | h | h | h<;>simp [h]
theorem badN_one {e:EvT} (h:badN e=true) (tr:Int):checkF e tr=1:=by
 unfold badN at h
 simp only [Bool.or_eq_true,Bool.and_eq_true,decide_eq_true_eq,Bool.not_eq_true',bne_iff_ne] at h
 refine checkF_one tr ?_
 rcases h with ⟨_,h | h⟩ | ⟨h1,h2⟩ | ⟨_,h⟩ | ⟨h1,h2⟩
 ·exact .inr (.inr (.inl h))
 ·exact .inr (.inr (.inr (.inl h)))
 ·exact .inl (only_no (.inr (.inr (.inr (.inr (.inl (by rw [h1,beq_false_of_ne h2];rfl)))))))
 ·exact .inr (.inr (.inr (.inr (.inl h))))
 ·exact .inl (only_no (.inr (.inr (.inr (.inr (.inr (.inl (by rw [h1,beq_false_of_ne h2];rfl))))))))
theorem badT_one {e:EvT} (h:badT e=true) (tr:Int):checkF e tr=1:=by
 unfold badT at h
 simp only [Bool.or_eq_true,Bool.and_eq_true,decide_eq_true_eq,Bool.not_eq_true',beq_iff_eq] at h
 refine checkF_one tr ?_
 rcases h with ⟨h1,h2⟩ | ⟨h1,h2⟩
 ·exact .inl (only_no (.inr (.inr (.inr (.inr (.inr (.inr (by rw [h1,h2];rfl))))))))
 ·exact .inr (.inr (.inr (.inr (.inr ⟨h1,by omega,by omega⟩))))
theorem text_one {e:EvT} (tr:Int) (h:textF e.2.1 (hasF e.1 73)=false∨textF e.2.2.1 (hasF e.1 78)=false∨textF e.2.2.2.1 (hasF e.1 76)=false∨textF e.2.2.2.2.1 (hasF e.1 67)=false):checkF e tr=1:=by
 refine checkF_one tr ?_
 rcases h with h | h | h | h<;>rcases text_bad h with h | h
 ·exact .inl (only_no (.inl h))
 ·exact .inr (.inl (named_no (.inl h)))
 ·exact .inl (only_no (.inr (.inl h)))
 ·exact .inr (.inl (named_no (.inr (.inl h))))
 ·exact .inl (only_no (.inr (.inr (.inl h))))
 ·exact .inr (.inl (named_no (.inr (.inr (.inl h)))))
 ·exact .inl (only_no (.inr (.inr (.inr (.inl h)))))
 ·exact .inr (.inl (named_no (.inr (.inr (.inr h)))))
theorem check_good {e:EvT} (tr:Int) (hf:fieldsF e.1≠[63]) (h1:textF e.2.1 (hasF e.1 73)=true) (h2:textF e.2.2.1 (hasF e.1 78)=true) (h3:textF e.2.2.2.1 (hasF e.1 76)=true) (h4:textF e.2.2.2.2.1 (hasF e.1 67)=true) (hN:badN e=false) (hT:badT e=false):checkF e tr=if e.1=2 then tr else 0:=by
 have v0:validF 0=true:=by decide
 have t1:=text_good h1;have t2:=text_good h2;have t3:=text_good h3;have t4:=text_good h4
 unfold badN at hN
 unfold badT at hT
 simp only [Bool.or_eq_false_iff,Bool.and_eq_false_iff,decide_eq_false_iff_not,Bool.not_eq_false',bne_eq_false_iff_eq,beq_eq_false_iff_ne] at hN hT
 obtain ⟨n1,n2,n3,n4⟩:=hN
 obtain ⟨q1,q2⟩:=hT
 have d0:(e.2.2.2.2.2.1==0||hasF e.1 68)=true:=by rcases n2 with h | h;rw [h];simp;rw [h];rfl
 have d1:¬ e.2.2.2.2.2.1<0∧¬ e.2.2.2.2.2.1 > 10000:=by
  rcases n1 with h | h
  ·rcases n2 with h' | h'
   ·rw [h] at h';cases h'
   ·rw [h'];decide
  ·exact h
 have d2:(e.2.2.2.2.2.2.1==0||hasF e.1 86)=true:=by rcases n4 with h | h;rw [h];simp;rw [h];rfl
 have d3:validF e.2.2.2.2.2.2.1=true:=by
  rcases n3 with h | h
  ·rcases n4 with h' | h'
   ·rw [h] at h';cases h'
   ·rw [h'];exact v0
  ·exact h
 have d4:(nilT e.2.2.2.2.2.2.2.1||hasF e.1 84)=true:=by rcases q1 with h | h<;>rw [h]<;>simp
 have o:onlyF e=true:=by unfold onlyF;rw [t1.1,t2.1,t3.1,t4.1,d0,d2,d4];rfl
 have n:namedF e=true:=by unfold namedF;rw [t1.2,t2.2,t3.2,t4.2];rfl
 unfold checkF
 rw [if_neg hf,if_neg (by rw [o];decide),if_neg (by rw [n];decide),if_neg d1.1,if_neg d1.2,if_neg (by rw [d3];decide),if_neg (fun t=>?_)]
 rcases q2 with h | h
 ·exact h t.1
 ·exact t.2.2 (by have:=t.2.1;omega)
theorem strk_at {a:List UInt8} {i:Int} (h0:0≤i) (h1:i<a.length) {K:Int→Prop} (k:K ((a.getD i.toNat 0).toNat:Int)):StrK (str a) i K:=by
 refine ⟨a.getD i.toNat 0,h0,?_,k⟩
 have hlt:i.toNat<(str a).size:=by rw [z1z];omega
 rw [getElem?_pos (str a) i.toNat hlt,List.getD_eq_getElem?_getD,List.getElem?_eq_getElem (by omega)]
 rfl
theorem fields11_spec (k:Int) (w:World):Ret Tryz.prog 52 #[.int .i64 k] w fun r w'=>r=.string (str (fieldsF k))∧w=w':=by
 refine c52 k w _ ?_
 unfold C52 fieldsF
 refine ifB.eq (fun h=>by rw [if_pos h];exact ⟨rfl,rfl⟩) (fun h=>?_)
 rw [if_neg h]
 refine ifB.eq (fun h=>by rw [if_pos h];exact ⟨rfl,rfl⟩) (fun h=>?_)
 rw [if_neg h]
 refine ifB.eq (fun h=>by rw [if_pos h];exact ⟨rfl,rfl⟩) (fun h=>?_)
 rw [if_neg h]
 refine ifB.eq (fun h=>by rw [if_pos h];exact ⟨rfl,rfl⟩) (fun h=>?_)
 rw [if_neg h]
 refine ifB.eq (fun h=>by rw [if_pos h];exact ⟨rfl,rfl⟩) (fun h=>?_)
 rw [if_neg h]
 refine ifB.eq (fun h=>by rw [if_pos h];exact ⟨rfl,rfl⟩) (fun h=>?_)
 rw [if_neg h]
 exact ⟨rfl,rfl⟩
theorem drop_contains {l:List UInt8} {c:UInt8} {i:Nat} (h:i<l.length):(l.drop i).contains c=((l.getD i 0==c)||(l.drop (i+1)).contains c):=by
 rw [List.drop_eq_getElem_cons h,List.contains_cons,List.getD_eq_getElem?_getD,List.getElem?_eq_getElem h]
 show (c==l[i]||_)=((l[i]==c)||_)
 rw [Bool.beq_comm]
theorem has11_spec (l:List UInt8) (hl:l.length≤1000) (c:UInt8) (w:World):Ret Tryz.prog 54 #[.string (str l),.int .u8 (c.toNat:Int)] w fun r w'=>r=.bool (l.contains c)∧w=w':=by
 refine c54 _ _ w _ ?_
 unfold C54
 rw [z1z]
 refine LoopK.of (fun s w'=>∃ i:Nat,s.1=i∧i≤l.length∧l.contains c=(l.drop i).contains c∧w=w') (fun s _=>l.length - s.1.toNat) ⟨0,rfl,by omega,rfl,rfl⟩ ?_
 rintro _ ⟨i,_⟩ _ ⟨n,rfl,hn,hc,rfl⟩
 dsimp only
 refine ifB.dec (fun hlt=>?_) (fun hge=>?_)
 ·have hlt':n<l.length:=by omega
  rw [drop_contains hlt'] at hc
  refine strk_at (by omega) (by omega) ?_
  rw [Int.toNat_natCast]
  refine ifB.eq (fun e=>?_) (fun e=>?_)
  ·have:l.getD n 0=c:=UInt8.toNat_inj.1 (by omega)
   exact ⟨by rw [hc,this];simp,rfl⟩
  ·have:l.getD n 0≠c:=fun t=>e (by rw [t])
   rw [beq_false_of_ne this,Bool.false_or] at hc
   rw [wI (x:=(n:Int)+1) (by omega) (by omega)]
   exact ⟨⟨n+1,rfl,by omega,hc,rfl⟩,by omega⟩
 ·rw [List.drop_eq_nil_of_le (by omega)] at hc
  exact ⟨by rw [hc];rfl,rfl⟩
theorem fieldsF_len (k:Int):(fieldsF k).length≤3:=by
 unfold fieldsF
 repeat' split
 all_goals simp
theorem hasK (k:Int) (c:UInt8) (w:World) {K:Bool→World→Prop} (h:K (hasF k c) w):CallK Tryz.prog 54 #[.string (str (fieldsF k)),.int .u8 (c.toNat:Int)] w (.v (.one .bool)) (fun (x:Bool) w'=>K x w'):=by
 have:=fieldsF_len k
 refine CallK.of (has11_spec (fieldsF k) (by omega) c w) ?_
 rintro _ _ ⟨rfl,rfl⟩
 exact ⟨_,rfl,h⟩
theorem text11_spec (s:ByteArray) (hs:s.size≤1000000) (named:Bool) (w:World):Ret Tryz.prog 53 #[.string s,.bool named] w fun r w'=>r=.bool (textF s named)∧Fr none1 w w':=by
 obtain ⟨l,rfl⟩:∃ l,s=str l:=⟨s.data.toList,(str_of s).symm⟩
 rw [z1z] at hs
 refine c53 _ named w _ ?_
 unfold C53 textF
 refine ifB.by (fun h=>?_) (fun h=>?_)
 ·rw [if_pos h]
  refine CallK.of (rname_spec l hs w) ?_
  rintro _ w1 ⟨rfl,f1⟩
  have hn:nameB (str l)=nameF 0 (runesL l):=by unfold nameB;rw [z5z]
  refine ⟨_,rfl,ifB.by (fun e=>⟨by rw [hn,e],f1⟩) (fun e=>?_)⟩
  subst h
  exact ifB.f rfl ⟨by rw [hn,e],f1⟩
 ·subst h
  exact ifB.t rfl ⟨rfl,Fr.refl _ _⟩
theorem textK (s:ByteArray) (hs:s.size≤1000000) (named:Bool) (w:World) {K:Bool→World→Prop} (h:∀ w',Fr none1 w w'→K (textF s named) w'):CallK Tryz.prog 53 #[.string s,.bool named] w (.v (.one .bool)) (fun (x:Bool) w'=>K x w'):=by
 refine CallK.of (text11_spec s hs named w) ?_
 rintro _ w1 ⟨rfl,f1⟩
 exact ⟨_,rfl,h w1 f1⟩
theorem check11_spec (e:EvT) (t:Tm) (he:e.2.2.2.2.2.2.2.1=t.v) (hz:smallE e) (hn:nodesT t≤30000) (hsh:shortT t) {w:World} {S:Nat→Prop} {v:TV} (h:IsTr w S (trT t) v) (hS:∀ k,S k→k<w.heap.size) :
  Ret Tryz.prog 29 #[evRA (evR e v),.bool false] w fun r w'=>r=.int .i64 (checkF e (writeT t).2)∧Fr none1 w w':=by
 refine c29 (evR e v) false w _ ?_
 unfold C29
 refine NewK.of fun g w1 hg hb f1 _=>?_
 refine LdK.fld hb (x:=e.1) rfl ?_
 refine CallK.of (fields11_spec e.1 w1) ?_
 rintro _ _ ⟨rfl,rfl⟩
 refine ⟨_,rfl,?_⟩
 have e63:(⟨#[63]⟩:ByteArray)=str [63]:=rfl
 have q63:((str (fieldsF e.1)).toList==(⟨#[63]⟩:ByteArray).toList)=decide (fieldsF e.1=[63]):=by rw [e63,str_beq]
 rw [q63]
 refine DrewK.of fun w2 _ f2=>HoldK.all ?_
 refine ifB.dec (fun h63=>⟨by unfold checkF;rw [if_pos h63],f1.trans f2⟩) (fun h63=>?_)
 refine InK.all (LdK.fld (f2.keep0 hb) (x:=e.2.1) rfl ?_)
 refine hasK e.1 73 w2 (KeepK.of (Fr.refl _ _) ?_)
 refine textK _ hz.1 _ w2 fun w3 f3=>KeepK.of f3 ?_
 have f23:=f2.trans f3
 refine ifB.not (ifB.by (fun h1=>?_) (fun h1=>⟨by rw [text_one _ (.inl h1)],f1.trans f23⟩))
 refine InK.all (LdK.fld (f23.keep0 hb) (x:=e.2.2.1) rfl ?_)
 refine hasK e.1 78 w3 (KeepK.of (Fr.refl _ _) ?_)
 refine textK _ hz.2.1 _ w3 fun w4 f4=>KeepK.of f4 ?_
 have f24:=f23.trans f4
 refine ifB.not (ifB.by (fun h2=>?_) (fun h2=>⟨by rw [text_one _ (.inr (.inl h2))],f1.trans f24⟩))
 refine InK.all (LdK.fld (f24.keep0 hb) (x:=e.2.2.2.1) rfl ?_)
 refine hasK e.1 76 w4 (KeepK.of (Fr.refl _ _) ?_)
 refine textK _ hz.2.2.1 _ w4 fun w5 f5=>KeepK.of f5 ?_
 have f25:=f24.trans f5
 refine ifB.not (ifB.by (fun h3=>?_) (fun h3=>⟨by rw [text_one _ (.inr (.inr (.inl h3)))],f1.trans f25⟩))
 refine InK.all (LdK.fld (f25.keep0 hb) (x:=e.2.2.2.2.1) rfl ?_)
 refine hasK e.1 67 w5 (KeepK.of (Fr.refl _ _) ?_)
 refine textK _ hz.2.2.2 _ w5 fun w6 f6=>KeepK.of f6 ?_
 have f26:=f25.trans f6
 refine ifB.not (ifB.by (fun h4=>?_) (fun h4=>⟨by rw [text_one _ (.inr (.inr (.inr h4)))],f1.trans f26⟩))
 have hb6:=f26.keep0 hb
 have f16:=f1.trans f26
 have valK:∀ {K:Bool→World→Prop},K (validF e.2.2.2.2.2.2.1) w6→CallK Tryz.prog 55 #[.int .i64 e.2.2.2.2.2.2.1] w6 (.v (.one .bool)) (fun (x:Bool) w'=>K x w'):=fun {K} k=>by
  refine CallK.of (rvalid_spec _ w6) ?_
  rintro _ _ ⟨rfl,rfl⟩
  exact ⟨_,rfl,k⟩
 refine JoinK.of (fun c w'=>c.1=badN e∧w6=w') ?_ ?_
 ·unfold badN
  repeat' first
   | (refine hasK e.1 68 w6 ?_)
   | (refine hasK e.1 86 w6 ?_)
   | (refine LdK.fld hb6 (x:=e.2.2.2.2.2.1) rfl ?_)
   | (refine LdK.fld hb6 (x:=e.2.2.2.2.2.2.1) rfl ?_)
   | (refine valK ?_)
   | (refine ifB.by (fun _=>?_) (fun _=>?_))
   | (refine And.intro ?_ rfl)
   | fail
  all_goals (simp_all [evR]<;>omega)
 rintro _ ⟨c,_⟩ _ ⟨hc,rfl⟩
 dsimp only at hc ⊢
 rw [hc]
 refine ifB.by (fun hN=>⟨by rw [badN_one hN],f16⟩) (fun hN=>?_)
 have hkind:(v.1=0)=(nilT t.v=true):=by
  cases t<;>(have:=h.kind;simp only [trT] at h;have hk:=h.kind;rw [hk];simp [Tm.v,nilT])
 have hK:∀ {K:Int→Prop},K v.1→LdK (.int .i64) (((⟨g,0,none⟩:Addr).add 7).add 0) w6 K:=fun {K} k=>by
  rw [z2z,z2z]
  exact LdK.cell (x:=v.1) (by rw [z27z hb6];rfl) k
 refine JoinK.of (fun c w'=>c.1=badT e∧w6=w') ?_ ?_
 ·unfold badT
  rw [he]
  repeat' first
   | (refine hasK e.1 84 w6 ?_)
   | (refine hK ?_)
   | (refine LdK.fld hb6 (x:=e.1) rfl ?_)
   | (refine LdK.fld hb6 (x:=e.2.2.2.2.2.2.1) rfl ?_)
   | (refine ifB.f rfl ?_)
   | (refine ifB.by (fun _=>?_) (fun _=>?_))
   | (refine And.intro ?_ rfl)
   | fail
  all_goals (simp_all<;>omega)
 rintro _ ⟨c,_⟩ _ ⟨hc,rfl⟩
 dsimp only at hc ⊢
 rw [hc]
 refine ifB.by (fun hT=>⟨by rw [badT_one hT],f16⟩) (fun hT=>?_)
 rw [check_good _ h63 h1 h2 h3 h4 hN hT]
 refine LdK.fld hb6 (x:=e.1) rfl (ifB.eq (fun h22=>?_) (fun h22=>⟨by rw [if_neg h22],f16⟩))
 rw [if_pos h22]
 have tv:∀ {K:TV→Prop},K v→LdsK TVK ((⟨g,0,none⟩:Addr).add 7) w6 K:=fun {K} k=>⟨v,z10z (m:=7) _ 0 (z12z hb6 (Cs.vals TVK v) 7 fun j hj=>(by
  match j,hj with
  | 0,_=>rfl
  | 1,_=>rfl
  | 2,_=>rfl
  | 3,_=>rfl
  | j+4,h=>exact absurd h (by show ¬ j+4<4;omega))),k⟩
 refine tv ?_
 have hc:=cnt_trT t
 have hl:=len_trT t hsh
 refine CallK.of (rwrite_spec (trT t) false (by omega) (short_trT t hsh) (by omega) (h.keep0 f16) (fun k hk=>by have:=hS k hk;have:=f16.size;omega)) ?_
 rintro _ w7 ⟨rfl,f7⟩
 rw [writeR_trT]
 exact ⟨(str (writeT t).1,(writeT t).2,()),rfl,rfl,f16.trans f7⟩
theorem two_gen (k:Int) {w:World} {S:Nat→Prop} {t u:Tr} {a b:TV} (ha:IsTr w S t a) (hb:IsTr w S u b) (hS:∀ j,S j→j<w.heap.size):Ret Tryz.prog 114 #[.int .i64 k,tvA a,tvA b] w fun r w'=>∃ v:Sl,r=tvA (k,str [],0,v,())∧IsTr w' (fun j=>S j∨since w w' j) (.mk k [] 0 [t,u]) (k,str [],0,v,())∧Fr none1 w w':=by
 refine c114 k a b w _ ?_
 unfold C114
 refine NewK.of fun g1 w1 hg1 hb1 f1 hs1=>NewK.of fun g2 w2 hg2 hb2 f2 hs2=>TB.new fun g3 w3 hg3 t3 f3 hs3=>?_
 have t1:TB w3 g1 a:=(f2.trans f3).keep0 hb1
 have t2:TB w3 g2 b:=f3.keep0 hb2
 have f13:=(f1.trans f2).trans f3
 refine t1.ld (t2.ld ?_)
 refine tr_lit [a,b] (by show 2≤3;omega) fun u' w4 hu hul f4 hf4=>?_
 have f14:=f13.trans f4
 have hsz:=f13.size
 refine StsK.blk (cs:=tvL (0,str [],0,(none,0,0),())) (vs:=tvL (k,str [],0,u',())) (t3.keep0 f4) rfl rfl fun w5 hb5 f5 _=>LdsK.blk (cks:=TVK) (x:=(k,str [],0,u',())) hb5 ?_
 refine ⟨u',rfl,?_,f14.fresh f5 (by omega)⟩
 have hM1:IsTr w4 (fun j=>(S j∨since w w4 j)∧j≠g3) (.mk k [] 0 [t,u]) (k,str [],0,u',()):=by
  unfold IsTr
  refine ⟨rfl,rfl,rfl,[a,b],hu.rd,hul.symm,fun j hj=>⟨.inr ⟨by have:=hf4 j hj;omega,hu.lt hj⟩,by have:=hf4 j hj;have:=z3z t3;omega⟩,?_⟩
  have hkk:IsTrs w4 S [t,u] [a,b]:=by
   unfold IsTrs;exact ⟨a,[b],rfl,IsTr.keep0 ha f14,by unfold IsTrs;exact ⟨b,[],rfl,IsTr.keep0 hb f14,by unfold IsTrs;rfl⟩⟩
  exact IsTrs.mono (fun j hj=>⟨.inl hj,by have:=hS j hj;have:=f1.size;have:=f2.size;omega⟩) _ _ hkk
 exact IsTr.mono (fun j hj=>hj.1.elim .inl fun h=>.inr ⟨h.1,Nat.lt_of_lt_of_le h.2 f5.size⟩) _ _ (IsTr.keep f5 (fun j hj t=>hj.2 t) _ _ hM1)
theorem two_spec (k:Int) {w0 w:World} {t u:Tr} {a b:TV} (ha:Made w0 w t a) (hb:Made w0 w u b) (h0:w0.heap.size≤w.heap.size):Ret Tryz.prog 114 #[.int .i64 k,tvA a,tvA b] w fun r w'=>∃ v:Sl,r=tvA (k,str [],0,v,())∧Made w0 w' (.mk k [] 0 [t,u]) (k,str [],0,v,())∧Fr none1 w w':=by
 refine (two_gen k ha hb (fun j hj=>hj.2)).mono fun r w' ⟨v,e,m,f⟩=>⟨v,e,?_,f⟩
 exact IsTr.mono (fun j hj=>hj.elim (fun h=>⟨h.1,Nat.lt_of_lt_of_le h.2 f.size⟩) fun h=>⟨Nat.le_trans h0 h.1,h.2⟩) _ _ m
theorem or_tell {w w1 wc:World} {g1 g gd:Nat} {v0:TV} {S:Nat→Prop} {t u:Tr} {v:Sl} {s:List UInt8} {l r:Value} {T:TypeId} (f:Fr none1 w wc) (hg:w.heap.size≤g1) (hg1:g1<w1.heap.size) (hB:w.heap.size≤w1.heap.size) (hgg:w1.heap.size≤g) (hgc:g<wc.heap.size)
  (tb:TB wc g1 v0) (tg:TB wc g (5,str [],0,v,())) (hb:wc.heap[gd]? = some (.cells #[.string (str s),l,r] T (0,0))) (hm:IsTr wc S (.mk 5 [] 0 [t,u]) (5,str [],0,v,())) (hS:∀ j,S j→w1.heap.size≤j∧j<wc.heap.size∧j≠g) {K:TV→World→Prop}
  (hK:∀ v w2,Fr none1 w w2→Made w w2 (.mk 5 s 0 [t,u]) v→K v w2) :
  LdK .str ((⟨gd,0,none⟩:Addr).add 0) wc (fun (x60:ByteArray)=>StK ((⟨g,0,none⟩:Addr).add 1) (.string x60) wc (fun w61=>LdsK TVK ⟨g,0,none⟩ w61 (fun (x62:TV)=>StsK ⟨g1,0,none⟩ (tvL x62) w61 (fun w63=>LdsK TVK ⟨g1,0,none⟩ w63 (fun (x64:TV)=>K x64 w63))))):=by
 refine LdK.fld hb (x:=str s) rfl (tg.s (str s) fun w2 t2 f2=>t2.ld ?_)
 have hm2:IsTr w2 S (.mk 5 s 0 [t,u]) (5,str s,0,v,()):=by
  have h:=IsTr.keep f2 (fun j hj t=>(hS j hj).2.2 t) _ _ hm
  unfold IsTr at h ⊢
  exact ⟨rfl,rfl,rfl,h.2.2.2⟩
 have tb2:=tb.keep f2 (fun t=>by have:g1=g:=t;omega)
 refine StsK.blk (cs:=tvL v0) (vs:=tvL (5,str s,0,v,())) tb2 rfl rfl fun w3 hb3 f3 _=>?_
 refine LdsK.blk (cks:=TVK) (x:=(5,str s,0,v,())) hb3 (hK _ _ ((f.fresh f2 (by omega)).fresh f3 hg) ?_)
 have:=f2.size;have:=f3.size
 exact IsTr.mono (fun j hj=>⟨by have:=(hS j hj).1;omega,by have:=(hS j hj).2.1;omega⟩) _ _ (IsTr.keep f3 (fun j hj t=>by have:j=g1:=t;have:=(hS j hj).1;omega) _ _ hm2)
theorem two_tell (k:Int) {w w1 wc:World} {g1:Nat} {v0 a b:TV} {t u:Tr} (f:Fr none1 w wc) (hg:w.heap.size≤g1) (hg1:g1<w1.heap.size) (hB:w.heap.size≤w1.heap.size) (hc:w1.heap.size≤wc.heap.size) (tb:TB wc g1 v0) (ha:Made w1 wc t a) (hb:Made w1 wc u b) {K:TV→World→Prop}
  (hK:∀ v w2,Fr none1 w w2→Made w w2 (.mk k [] 0 [t,u]) v→K v w2):CallK Tryz.prog 114 #[.int .i64 k,tvA a,tvA b] wc (.v (.agg TVK)) (fun (x29:TV) w30=>KeepK (fun j=>j≠g1) wc w30 (StsK ⟨g1,0,none⟩ (tvL x29) w30 (fun w31=>KeepK (fun j=>j≠g1) w30 w31 (LdsK TVK ⟨g1,0,none⟩ w31 (fun (x32:TV)=>K x32 w31))))):=by
 refine CallK.of (two_spec k ha hb hc) ?_
 rintro _ w2 ⟨v,rfl,mv,f2⟩
 refine ⟨_,rfl,KeepK.of f2 ?_⟩
 refine StsK.blk (cs:=tvL v0) (vs:=tvL (k,str [],0,v,())) (tb.keep0 f2) rfl rfl fun w3 hb3 f3 _=>KeepK.on f3 (fun j hj t=>hj t) ?_
 exact LdsK.blk (cks:=TVK) (x:=(k,str [],0,v,())) hb3 (hK _ _ ((f.trans f2).fresh f3 hg) ((mv.keep f3 fun k hk _ t=>by have:k=g1:=t;omega).older hB))
theorem lit_tell (k n:Int) {w w1 wc:World} {g1:Nat} {v0:TV} {ts:List Tr} {vs:List TV} (f:Fr none1 w wc) (hg:w.heap.size≤g1) (hg1:g1<w1.heap.size) (hB:w.heap.size≤w1.heap.size) (hc:w1.heap.size≤wc.heap.size) (tb:TB wc g1 v0) (hl:vs.length≤3) (hm:IsTrs wc (since w1 wc) ts vs) {K:TV→World→Prop}
  (hK:∀ v w2,Fr none1 w w2→Made w w2 (.mk k [] n ts) v→K v w2) :
  RunK Tryz.prog (Instr.buildSlice 39 vs.length (((vs.map tvL).zipIdx.map fun (l,i)=>(i,Value.agg l.toArray)).toArray)) wc (.v (.one .slc)) (fun (x:Option Addr×Nat×Nat) w2=>KeepK (fun j=>j≠g1) wc w2 (StsK ⟨g1,0,none⟩ [.int .i64 k,.string (⟨#[]⟩:ByteArray),.int .i64 n,.slice x.1 x.2.1 x.2.2] w2 (fun w31=>KeepK (fun j=>j≠g1) w2 w31 (LdsK TVK ⟨g1,0,none⟩ w31 (fun (x32:TV)=>K x32 w31))))):=by
 refine tr_lit vs hl fun u w2 hu hul f2 hf2=>KeepK.of f2 ?_
 refine StsK.blk (cs:=tvL v0) (vs:=tvL (k,str [],n,u,())) (tb.keep0 f2) rfl rfl fun w3 hb3 f3 _=>KeepK.on f3 (fun j hj t=>hj t) ?_
 refine LdsK.blk (cks:=TVK) (x:=(k,str [],n,u,())) hb3 (hK _ _ ((f.trans f2).fresh f3 hg) ?_)
 have hM:Made w1 w2 (.mk k [] n ts) (k,str [],n,u,()):=z24z k [] n hu hul (fun k hk=>by have:=hf2 k hk;omega) (IsTrs.mono (fun j hj=>⟨hj.1,by have:=hj.2;have:=f2.size;omega⟩) _ _ (IsTrs.keep0 hm f2))
 exact (hM.keep f3 fun k hk _ t=>by have:k=g1:=t;omega).older hB
theorem lit_tell0 (k n:Int) {w w1 wc:World} {g1:Nat} {v0:TV} {ts:List Tr} {vs:List TV} (f:Fr none1 w wc) (hg:w.heap.size≤g1) (hg1:g1<w1.heap.size) (hB:w.heap.size≤w1.heap.size) (hc:w1.heap.size≤wc.heap.size) (tb:TB wc g1 v0) (hl:vs.length≤3) (hm:IsTrs wc (since w1 wc) ts vs) {K:TV→World→Prop}
  (hK:∀ v w2,Fr none1 w w2→Made w w2 (.mk k [] n ts) v→K v w2) :
  RunK Tryz.prog (Instr.buildSlice 39 vs.length (((vs.map tvL).zipIdx.map fun (l,i)=>(i,Value.agg l.toArray)).toArray)) wc (.v (.one .slc)) (fun (x:Option Addr×Nat×Nat) w2=>StsK ⟨g1,0,none⟩ [.int .i64 k,.string (⟨#[]⟩:ByteArray),.int .i64 n,.slice x.1 x.2.1 x.2.2] w2 (fun w31=>LdsK TVK ⟨g1,0,none⟩ w31 (fun (x32:TV)=>K x32 w31))):=by
 refine tr_lit vs hl fun u w2 hu hul f2 hf2=>?_
 refine StsK.blk (cs:=tvL v0) (vs:=tvL (k,str [],n,u,())) (tb.keep0 f2) rfl rfl fun w3 hb3 f3 _=>?_
 refine LdsK.blk (cks:=TVK) (x:=(k,str [],n,u,())) hb3 (hK _ _ ((f.trans f2).fresh f3 hg) ?_)
 have hM:Made w1 w2 (.mk k [] n ts) (k,str [],n,u,()):=z24z k [] n hu hul (fun k hk=>by have:=hf2 k hk;omega) (IsTrs.mono (fun j hj=>⟨hj.1,by have:=hj.2;have:=f2.size;omega⟩) _ _ (IsTrs.keep0 hm f2))
 exact (hM.keep f3 fun k hk _ t=>by have:k=g1:=t;omega).older hB
theorem leaf_tell {w wc:World} {g:Nat} {v0:TV} (f:Fr none1 w wc) (hg:w.heap.size≤g) (tb:TB wc g v0) (k:Int) (s:List UInt8) (n:Int) {K:TV→World→Prop}
  (hk:∀ v w2,Fr none1 w w2→Made w w2 (.mk k s n []) v→K v w2):StsK ⟨g,0,none⟩ (tvL (k,str s,n,(none,0,0),())) wc fun w2=>LdsK TVK ⟨g,0,none⟩ w2 fun x=>K x w2:=
 StsK.blk (cs:=tvL v0) (vs:=tvL (k,str s,n,(none,0,0),())) tb rfl rfl fun w2 hb2 f2 _=>LdsK.blk (cks:=TVK) (x:=(k,str s,n,(none,0,0),())) hb2 (hk _ w2 (f.fresh f2 hg) (z17z _ _ k s n))
theorem plainO_spec (o:Ob) (w:World):Ret Tryz.prog 115 #[o.v] w fun r w'=>∃ v:TV,r=tvA v∧Made w w' (trO o) v∧Fr none1 w w':=by
 induction o generalizing w with
 | none=>
  refine c115 _ w _ ?_
  unfold C115
  refine TB.new fun g1 w1 hg1 t1 f1 hs1=>?_
  refine TaK.nil rfl (TaK.nil rfl (TaK.nil rfl (TaK.nil rfl (TaK.nil rfl (TaK.nil rfl ?_)))))
  exact leaf_tell f1 (by omega) t1 0 [] 0 fun v w2 f2 m2=>⟨v,rfl,m2,f2⟩
 | const n=>
  refine c115 _ w _ ?_
  unfold C115
  refine TB.new fun g1 w1 hg1 t1 f1 hs1=>?_
  refine TaK.hit (n,()) rfl (ns_ok (zs:=[.int .i64 0]) (vs:=[.int .i64 n]) rfl rfl fun g w2 _ hb f2=>LdK.fld hb (x:=n) rfl ?_)
  exact leaf_tell (f1.trans f2) (by omega) (t1.keep0 f2) 11 [] n fun v w2 f2 m2=>⟨v,rfl,m2,f2⟩
 | fix s=>
  refine c115 _ w _ ?_
  unfold C115
  refine TB.new fun g1 w1 hg1 t1 f1 hs1=>?_
  refine TaK.miss rfl (by decide) (TaK.hit (str s,()) rfl (ns_ok (zs:=[.string (⟨#[]⟩:ByteArray)]) (vs:=[.string (str s)]) rfl rfl fun g w2 _ hb f2=>LdK.fld hb (x:=str s) rfl ?_))
  exact leaf_tell (f1.trans f2) (by omega) (t1.keep0 f2) 12 s 0 fun v w2 f2 m2=>⟨v,rfl,m2,f2⟩
 | neg x i=>
  refine c115 _ w _ ?_
  unfold C115
  refine TB.new fun g1 w1 hg1 t1 f1 hs1=>?_
  refine TaK.miss rfl (by decide) (TaK.miss rfl (by decide) (TaK.miss rfl (by decide) (TaK.hit (x.v,()) rfl (ns_ok (zs:=[.nilIface]) (vs:=[x.v]) rfl (by simp [Ob.v_one]) fun g w2 hg hb f2=>LdK.fld (c:=.raw) hb (x:=x.v) rfl ?_))))
  refine CallK.of (i w2) ?_
  rintro _ w3 ⟨a,rfl,ma,f3⟩
  refine ⟨a,rfl,?_⟩
  have hsz:=f2.size;have hsz3:=f3.size
  exact lit_tell0 14 0 (w1:=w1) (vs:=[a]) ((f1.trans f2).trans f3) (by omega) (by omega) (by omega) (by omega) ((t1.keep0 f2).keep0 f3) (by show 1≤3;omega) (made1 (ma.older hsz)) fun v w2 f2 m2=>⟨v,rfl,m2,f2⟩
 | add l r i j=>
  refine c115 _ w _ ?_
  unfold C115
  refine TB.new fun g1 w1 hg1 t1 f1 hs1=>?_
  refine TaK.miss rfl (by decide) (TaK.miss rfl (by decide) (TaK.hit (l.v,r.v,()) rfl (ns_ok (zs:=[.nilIface,.nilIface]) (vs:=[l.v,r.v]) rfl (by simp [Ob.v_one]) fun g w2 hg hb f2=>?_)))
  refine DrewK.of fun w3 _ f3=>HoldK.of (fun j=>j≠g1) ?_
  have hb3:=f3.keep0 hb
  have hs2:=f2.size;have hs3:=f3.size
  have hne:g≠g1:=by omega
  refine ⟨by rw [z2z];exact hne,LdK.fld (c:=.raw) hb3 (x:=l.v) rfl ⟨by rw [z2z];exact hne,LdK.fld (c:=.raw) hb3 (x:=r.v) rfl ?_⟩⟩
  refine CallK.of (i w3) ?_
  rintro _ w4 ⟨a,rfl,ma,f4⟩
  refine ⟨a,rfl,KeepK.of f4 ?_⟩
  refine CallK.of (j w4) ?_
  rintro _ w5 ⟨b,rfl,mb,f5⟩
  refine ⟨b,rfl,KeepK.of f5 ?_⟩
  have hs4:=f4.size;have hs5:=f5.size
  exact two_tell 13 (w1:=w1) ((((f1.trans f2).trans f3).trans f4).trans f5) (by omega) (by omega) (by omega) (by omega) ((((t1.keep0 f2).keep0 f3).keep0 f4).keep0 f5) ((ma.older (by omega)).keep0 f5) (mb.older (by omega)) fun v w2 f2 m2=>⟨v,rfl,m2,f2⟩
 | mul l r i j=>
  refine c115 _ w _ ?_
  unfold C115
  refine TB.new fun g1 w1 hg1 t1 f1 hs1=>?_
  refine TaK.miss rfl (by decide) (TaK.miss rfl (by decide) (TaK.miss rfl (by decide) (TaK.miss rfl (by decide) (TaK.hit (l.v,r.v,()) rfl (ns_ok (zs:=[.nilIface,.nilIface]) (vs:=[l.v,r.v]) rfl (by simp [Ob.v_one]) fun g w2 hg hb f2=>?_)))))
  refine DrewK.of fun w3 _ f3=>HoldK.of (fun j=>j≠g1) ?_
  have hb3:=f3.keep0 hb
  have hs2:=f2.size;have hs3:=f3.size
  have hne:g≠g1:=by omega
  refine ⟨by rw [z2z];exact hne,LdK.fld (c:=.raw) hb3 (x:=l.v) rfl ⟨by rw [z2z];exact hne,LdK.fld (c:=.raw) hb3 (x:=r.v) rfl ?_⟩⟩
  refine CallK.of (i w3) ?_
  rintro _ w4 ⟨a,rfl,ma,f4⟩
  refine ⟨a,rfl,KeepK.of f4 ?_⟩
  refine CallK.of (j w4) ?_
  rintro _ w5 ⟨b,rfl,mb,f5⟩
  refine ⟨b,rfl,KeepK.of f5 ?_⟩
  have hs4:=f4.size;have hs5:=f5.size
  exact two_tell 15 (w1:=w1) ((((f1.trans f2).trans f3).trans f4).trans f5) (by omega) (by omega) (by omega) (by omega) ((((t1.keep0 f2).keep0 f3).keep0 f4).keep0 f5) ((ma.older (by omega)).keep0 f5) (mb.older (by omega)) fun v w2 f2 m2=>⟨v,rfl,m2,f2⟩
 | max l r i j=>
  refine c115 _ w _ ?_
  unfold C115
  refine TB.new fun g1 w1 hg1 t1 f1 hs1=>?_
  refine TaK.miss rfl (by decide) (TaK.miss rfl (by decide) (TaK.miss rfl (by decide) (TaK.miss rfl (by decide) (TaK.miss rfl (by decide) (TaK.hit (l.v,r.v,()) rfl (ns_ok (zs:=[.nilIface,.nilIface]) (vs:=[l.v,r.v]) rfl (by simp [Ob.v_one]) fun g w2 hg hb f2=>?_))))))
  refine DrewK.of fun w3 _ f3=>HoldK.of (fun j=>j≠g1) ?_
  have hb3:=f3.keep0 hb
  have hs2:=f2.size;have hs3:=f3.size
  have hne:g≠g1:=by omega
  refine ⟨by rw [z2z];exact hne,LdK.fld (c:=.raw) hb3 (x:=l.v) rfl ⟨by rw [z2z];exact hne,LdK.fld (c:=.raw) hb3 (x:=r.v) rfl ?_⟩⟩
  refine CallK.of (i w3) ?_
  rintro _ w4 ⟨a,rfl,ma,f4⟩
  refine ⟨a,rfl,KeepK.of f4 ?_⟩
  refine CallK.of (j w4) ?_
  rintro _ w5 ⟨b,rfl,mb,f5⟩
  refine ⟨b,rfl,KeepK.of f5 ?_⟩
  have hs4:=f4.size;have hs5:=f5.size
  exact two_tell 16 (w1:=w1) ((((f1.trans f2).trans f3).trans f4).trans f5) (by omega) (by omega) (by omega) (by omega) ((((t1.keep0 f2).keep0 f3).keep0 f4).keep0 f5) ((ma.older (by omega)).keep0 f5) (mb.older (by omega)) fun v w2 f2 m2=>⟨v,rfl,m2,f2⟩
theorem plainT_spec (t:Tm) (w:World):Ret Tryz.prog 87 #[t.v] w fun r w'=>∃ v:TV,r=tvA v∧Made w w' (trT t) v∧Fr none1 w w':=by
 induction t generalizing w with
 | none=>
  refine c87 _ w _ ?_
  unfold C87
  refine TB.new fun g1 w1 hg1 t1 f1 hs1=>?_
  refine TaK.nil rfl (TaK.nil rfl (TaK.nil rfl (TaK.nil rfl (TaK.nil rfl (TaK.nil rfl (TaK.nil rfl (TaK.nil rfl (?_))))))))
  exact leaf_tell f1 (by omega) t1 0 [] 0 fun v w2 f2 m2=>⟨v,rfl,m2,f2⟩
 | zero=>
  refine c87 _ w _ ?_
  unfold C87
  refine TB.new fun g1 w1 hg1 t1 f1 hs1=>?_
  refine TaK.hit () rfl (ns_ok (zs:=[]) (vs:=[]) rfl rfl fun g w2 _ hb f2=>?_)
  exact leaf_tell (f1.trans f2) (by omega) (t1.keep0 f2) 1 [] 0 fun v w2 f2 m2=>⟨v,rfl,m2,f2⟩
 | one s=>
  refine c87 _ w _ ?_
  unfold C87
  refine TB.new fun g1 w1 hg1 t1 f1 hs1=>?_
  refine TaK.miss rfl (by decide) (TaK.hit (str s,()) rfl (ns_ok (zs:=[.string (⟨#[]⟩:ByteArray)]) (vs:=[.string (str s)]) rfl rfl fun g w2 _ hb f2=>LdK.fld hb (x:=str s) rfl ?_))
  exact leaf_tell (f1.trans f2) (by omega) (t1.keep0 f2) 2 s 0 fun v w2 f2 m2=>⟨v,rfl,m2,f2⟩
 | give x i=>
  refine c87 _ w _ ?_
  unfold C87
  refine TB.new fun g1 w1 hg1 t1 f1 hs1=>?_
  refine TaK.miss rfl (by decide) (TaK.miss rfl (by decide) (TaK.hit (x.v,()) rfl (ns_ok (zs:=[.nilIface]) (vs:=[x.v]) rfl (by simp [Tm.v_one]) fun g w2 hg hb f2=>LdK.fld (c:=.raw) hb (x:=x.v) rfl ?_)))
  refine CallK.of (i w2) ?_
  rintro _ w3 ⟨a,rfl,ma,f3⟩
  refine ⟨a,rfl,?_⟩
  have hsz:=f2.size;have hsz3:=f3.size
  exact lit_tell0 3 0 (w1:=w1) (vs:=[a]) ((f1.trans f2).trans f3) (by omega) (by omega) (by omega) (by omega) ((t1.keep0 f2).keep0 f3) (by show 1≤3;omega) (made1 (ma.older hsz)) fun v w2 f2 m2=>⟨v,rfl,m2,f2⟩
 | and l r i j=>
  refine c87 _ w _ ?_
  unfold C87
  refine TB.new fun g1 w1 hg1 t1 f1 hs1=>?_
  refine TaK.miss rfl (by decide) (TaK.miss rfl (by decide) (TaK.miss rfl (by decide) (TaK.hit (l.v,r.v,()) rfl (ns_ok (zs:=[.nilIface,.nilIface]) (vs:=[l.v,r.v]) rfl (by simp [Ob.v_one,Tm.v_one]) fun g w2 hg hb f2=>?_))))
  refine DrewK.of fun w3 _ f3=>HoldK.of (fun j=>j≠g1) ?_
  have hb3:=f3.keep0 hb
  have hs2:=f2.size;have hs3:=f3.size
  have hne:g≠g1:=by omega
  refine ⟨by rw [z2z];exact hne,LdK.fld (c:=.raw) hb3 (x:=l.v) rfl ⟨by rw [z2z];exact hne,LdK.fld (c:=.raw) hb3 (x:=r.v) rfl ?_⟩⟩
  refine CallK.of (i w3) ?_
  rintro _ w4 ⟨a,rfl,ma,f4⟩
  refine ⟨a,rfl,KeepK.of f4 ?_⟩
  refine CallK.of (j w4) ?_
  rintro _ w5 ⟨b,rfl,mb,f5⟩
  refine ⟨b,rfl,KeepK.of f5 ?_⟩
  have hs4:=f4.size;have hs5:=f5.size
  exact two_tell 4 (w1:=w1) ((((f1.trans f2).trans f3).trans f4).trans f5) (by omega) (by omega) (by omega) (by omega) ((((t1.keep0 f2).keep0 f3).keep0 f4).keep0 f5) ((ma.older (by omega)).keep0 f5) (mb.older (by omega)) fun v w2 f2 m2=>⟨v,rfl,m2,f2⟩
 | scale o x j=>
  refine c87 _ w _ ?_
  unfold C87
  refine TB.new fun g1 w1 hg1 t1 f1 hs1=>?_
  refine TaK.miss rfl (by decide) (TaK.miss rfl (by decide) (TaK.miss rfl (by decide) (TaK.miss rfl (by decide) (TaK.miss rfl (by decide) (TaK.hit (o.v,x.v,()) rfl (ns_ok (zs:=[.nilIface,.nilIface]) (vs:=[o.v,x.v]) rfl (by simp [Ob.v_one,Tm.v_one]) fun g w2 hg hb f2=>?_))))))
  refine DrewK.of fun w3 _ f3=>HoldK.of (fun j=>j≠g1) ?_
  have hb3:=f3.keep0 hb
  have hs2:=f2.size;have hs3:=f3.size
  have hne:g≠g1:=by omega
  refine ⟨by rw [z2z];exact hne,LdK.fld (c:=.raw) hb3 (x:=o.v) rfl ⟨by rw [z2z];exact hne,LdK.fld (c:=.raw) hb3 (x:=x.v) rfl ?_⟩⟩
  refine CallK.of (plainO_spec o w3) ?_
  rintro _ w4 ⟨a,rfl,ma,f4⟩
  refine ⟨a,rfl,KeepK.of f4 ?_⟩
  refine CallK.of (j w4) ?_
  rintro _ w5 ⟨b,rfl,mb,f5⟩
  refine ⟨b,rfl,KeepK.of f5 ?_⟩
  have hs4:=f4.size;have hs5:=f5.size
  exact two_tell 6 (w1:=w1) ((((f1.trans f2).trans f3).trans f4).trans f5) (by omega) (by omega) (by omega) (by omega) ((((t1.keep0 f2).keep0 f3).keep0 f4).keep0 f5) ((ma.older (by omega)).keep0 f5) (mb.older (by omega)) fun v w2 f2 m2=>⟨v,rfl,m2,f2⟩
 | «when» d x j=>
  refine c87 _ w _ ?_
  unfold C87
  refine TB.new fun g1 w1 hg1 t1 f1 hs1=>?_
  refine TaK.miss rfl (by decide) (TaK.miss rfl (by decide) (TaK.miss rfl (by decide) (TaK.miss rfl (by decide) (TaK.miss rfl (by decide) (TaK.miss rfl (by decide) (TaK.hit (d,x.v,()) rfl (ns_ok (zs:=[.int .i64 0,.nilIface]) (vs:=[.int .i64 d,x.v]) rfl (by show (one1 (.int .i64 d)&&(one1 x.v&&true))=true;rw [Tm.v_one];rfl) fun g w2 hg hb f2=>?_)))))))
  refine DrewK.of fun w3 _ f3=>HoldK.of (fun j=>j≠g1) ?_
  have hb3:=f3.keep0 hb
  have hs2:=f2.size;have hs3:=f3.size
  have hne:g≠g1:=by omega
  refine ⟨by rw [z2z];exact hne,LdK.fld hb3 (x:=d) rfl ⟨by rw [z2z];exact hne,LdK.fld (c:=.raw) hb3 (x:=x.v) rfl ?_⟩⟩
  refine CallK.of (j w3) ?_
  rintro _ w4 ⟨a,rfl,ma,f4⟩
  refine ⟨a,rfl,KeepK.of f4 ?_⟩
  have hs4:=f4.size
  exact lit_tell 7 d (w1:=w1) (vs:=[a]) (((f1.trans f2).trans f3).trans f4) (by omega) (by omega) (by omega) (by omega) (((t1.keep0 f2).keep0 f3).keep0 f4) (by show 1≤3;omega) (made1 (ma.older (by omega))) fun v w2 f2 m2=>⟨v,rfl,m2,f2⟩
 | cond o l r i j=>
  refine c87 _ w _ ?_
  unfold C87
  refine TB.new fun g1 w1 hg1 t1 f1 hs1=>?_
  refine TaK.miss rfl (by decide) (TaK.miss rfl (by decide) (TaK.miss rfl (by decide) (TaK.miss rfl (by decide) (TaK.miss rfl (by decide) (TaK.miss rfl (by decide) (TaK.miss rfl (by decide) (TaK.hit (o.v,l.v,r.v,()) rfl (ns_ok (zs:=[.nilIface,.nilIface,.nilIface]) (vs:=[o.v,l.v,r.v]) rfl (by simp [Ob.v_one,Tm.v_one]) fun g w2 hg hb f2=>?_))))))))
  refine DrewK.of fun w3 _ f3=>HoldK.of (fun j=>j≠g1) ?_
  have hb3:=f3.keep0 hb
  have hs2:=f2.size;have hs3:=f3.size
  have hne:g≠g1:=by omega
  refine ⟨by rw [z2z];exact hne,LdK.fld (c:=.raw) hb3 (x:=o.v) rfl ⟨by rw [z2z];exact hne,LdK.fld (c:=.raw) hb3 (x:=l.v) rfl ⟨by rw [z2z];exact hne,LdK.fld (c:=.raw) hb3 (x:=r.v) rfl ?_⟩⟩⟩
  refine CallK.of (plainO_spec o w3) ?_
  rintro _ w4 ⟨a,rfl,ma,f4⟩
  refine ⟨a,rfl,KeepK.of f4 ?_⟩
  refine CallK.of (i w4) ?_
  rintro _ w5 ⟨b,rfl,mb,f5⟩
  refine ⟨b,rfl,KeepK.of f5 ?_⟩
  refine CallK.of (j w5) ?_
  rintro _ w6 ⟨c,rfl,mc,f6⟩
  refine ⟨c,rfl,KeepK.of f6 ?_⟩
  have hs4:=f4.size;have hs5:=f5.size;have hs6:=f6.size
  exact lit_tell 8 0 (w1:=w1) (vs:=[a,b,c]) (((((f1.trans f2).trans f3).trans f4).trans f5).trans f6) (by omega) (by omega) (by omega) (by omega) (((((t1.keep0 f2).keep0 f3).keep0 f4).keep0 f5).keep0 f6) (by show 3≤3;omega) (made3 (((ma.older (by omega)).keep0 f5).keep0 f6) ((mb.older (by omega)).keep0 f6) (mc.older (by omega))) fun v w2 f2 m2=>⟨v,rfl,m2,f2⟩
 | or s l r i j=>
  refine c87 _ w _ ?_
  unfold C87
  refine TB.new fun g1 w1 hg1 t1 f1 hs1=>?_
  refine TaK.miss rfl (by decide) (TaK.miss rfl (by decide) (TaK.miss rfl (by decide) (TaK.miss rfl (by decide) (TaK.hit (str s,l.v,r.v,()) rfl (ns_ok (zs:=[.string (⟨#[]⟩:ByteArray),.nilIface,.nilIface]) (vs:=[.string (str s),l.v,r.v]) rfl (by show (one1 (.string (str s))&&(one1 l.v&&(one1 r.v&&true)))=true;rw [Tm.v_one,Tm.v_one];rfl) fun g w2 hg hb f2=>?_)))))
  refine DrewK.of fun w3 _ f3=>HoldK.of (fun j=>j<w3.heap.size) ?_
  have hb3:=f3.keep0 hb
  have hs2:=f2.size;have hs3:=f3.size
  have hg3:=z3z hb3
  have t3:=(t1.keep0 f2).keep0 f3
  have f13:=(f1.trans f2).trans f3
  refine ⟨by rw [z2z];exact hg3,LdK.fld (c:=.raw) hb3 (x:=l.v) rfl ⟨by rw [z2z];exact hg3,LdK.fld (c:=.raw) hb3 (x:=r.v) rfl ?_⟩⟩
  have put:∀ {wa wb:World} {gg:Nat},w3.heap.size≤gg→Fr (only gg) wa wb→∀ K:Prop,K→KeepK (fun j=>j<w3.heap.size) wa wb K:=fun hgg f K k=>KeepK.on f (fun j hj t=>by have:j=_:=t;omega) k
  have wide:∀ {wx wy wz:World} {t:Tr} {v:TV} {gg:Nat},Made wx wy t v→Fr none1 wy wz→w1.heap.size≤wx.heap.size→(gg<wx.heap.size∨wy.heap.size≤gg)→IsTr wz (fun j=>w1.heap.size≤j∧j<wz.heap.size∧j≠gg) t v:=fun {wx wy wz t v gg} m f h1 h2=>
   IsTr.mono (fun j hj=>⟨by have:=hj.1;omega,Nat.lt_of_lt_of_le hj.2 f.size,by have:=hj.1;have:=hj.2;omega⟩) _ _ (IsTr.keep0 m f)
  have ending:∀ {wx:World} {g5:Nat} {v:Sl},Fr none1 w3 wx→w3.heap.size≤g5→g5<wx.heap.size→TB wx g5 (0,str [],0,(none,0,0),())→IsTr wx (fun j=>w1.heap.size≤j∧j<wx.heap.size∧j≠g5) (.mk 5 [] 0 [trT l,trT r]) (5,str [],0,v,()) →
    StsK ⟨g5,0,none⟩ (tvL (5,str [],0,v,())) wx (fun w8=>KeepK (fun j=>j<w3.heap.size) wx w8 (LdK .str ((⟨g,0,none⟩:Addr).add 0) w8 (fun (x60:ByteArray)=>StK ((⟨g5,0,none⟩:Addr).add 1) (.string x60) w8 (fun w61=>LdsK TVK ⟨g5,0,none⟩ w61 (fun (x62:TV)=>StsK ⟨g1,0,none⟩ (tvL x62) w61 (fun w63=>LdsK TVK ⟨g1,0,none⟩ w63 (fun (x64:TV)=>
     ∃ v:TV,tvA x64=tvA v∧Made w w63 (trT (.or s l r)) v∧Fr none1 w w63))))))):=fun {wx g5 v} fa h1 h2 t5 mv=>by
   have sx:=fa.size
   refine StsK.blk (cs:=tvL (0,str [],0,(none,0,0),())) (vs:=tvL (5,str [],0,v,())) t5 rfl rfl fun w8 hb8 f8 _=>put (gg:=g5) (by omega) f8 _ ?_
   have s8:=f8.size
   exact or_tell (w1:=w1) ((f13.trans fa).fresh f8 (by omega)) (by omega) (by omega) (by omega) (by omega) (by omega) ((t3.keep0 fa).keep f8 (fun t=>by have:g1=g5:=t;omega)) hb8 (f8.keep (fa.keep0 hb3) (fun t=>by have:g=g5:=t;omega))
    (IsTr.keep f8 (fun j hj t=>hj.2.2 t) _ _ mv) (fun j hj=>⟨hj.1,by have:=hj.2.1;omega,hj.2.2⟩) fun v w2 f2 m2=>⟨v,rfl,m2,f2⟩
  -- the two parts joined behind the struct's block
  have joined:∀ {wx:World} {g5:Nat} {a b:TV},Fr none1 w3 wx→w3.heap.size≤g5→g5<wx.heap.size→TB wx g5 (0,str [],0,(none,0,0),())→IsTr wx (fun j=>w1.heap.size≤j∧j<wx.heap.size∧j≠g5) (trT l) a→IsTr wx (fun j=>w1.heap.size≤j∧j<wx.heap.size∧j≠g5) (trT r) b →
    CallK Tryz.prog 114 #[.int .i64 5,tvA a,tvA b] wx (.v (.agg TVK)) (fun (x55:TV) w7=>KeepK (fun j=>j<w3.heap.size) wx w7 (StsK ⟨g5,0,none⟩ (tvL x55) w7 (fun w8=>KeepK (fun j=>j<w3.heap.size) w7 w8 (LdK .str ((⟨g,0,none⟩:Addr).add 0) w8 (fun (x60:ByteArray)=>StK ((⟨g5,0,none⟩:Addr).add 1) (.string x60) w8 (fun w61=>LdsK TVK ⟨g5,0,none⟩ w61 (fun (x62:TV)=>StsK ⟨g1,0,none⟩ (tvL x62) w61 (fun w63=>LdsK TVK ⟨g1,0,none⟩ w63 (fun (x64:TV)=>
     ∃ v:TV,tvA x64=tvA v∧Made w w63 (trT (.or s l r)) v∧Fr none1 w w63))))))))):=fun {wx g5 a b} fa h1 h2 t5 ma mb=>by
   refine CallK.of (two_gen 5 ma mb (fun j hj=>hj.2.1)) ?_
   rintro _ w7 ⟨v,rfl,mv,f7⟩
   have s7:=f7.size
   have sx:=fa.size
   refine ⟨_,rfl,KeepK.of f7 (ending (fa.trans f7) h1 (by omega) (t5.keep0 f7) ?_)⟩
   exact IsTr.mono (fun j hj=>hj.elim (fun h=>⟨h.1,by have:=h.2.1;omega,h.2.2⟩) fun h=>⟨by have:=h.1;omega,h.2,by have:=h.1;omega⟩) _ _ mv
  refine ⟨?_,?_⟩
  ·refine CallK.of (i w3) ?_
   rintro _ w4 ⟨a,rfl,ma,f4⟩
   have s4:=f4.size
   refine ⟨a,rfl,KeepK.of f4 ⟨?_,?_⟩⟩
   ·refine CallK.of (j w4) ?_
    rintro _ w5 ⟨b,rfl,mb,f5⟩
    have s5:=f5.size
    refine ⟨b,rfl,KeepK.of f5 ⟨?_,?_⟩⟩
    ·refine CallK.of (two_gen 5 (S:=fun j=>w1.heap.size≤j∧j<w5.heap.size) (IsTr.mono (fun j hj=>⟨hj.1,hj.2.1⟩) _ _ (wide (gg:=0) ma f5 (by omega) (.inl (by omega)))) (IsTr.mono (fun j hj=>⟨hj.1,hj.2.1⟩) _ _ (wide (gg:=0) mb (Fr.refl _ _) (by omega) (.inl (by omega)))) (fun j hj=>hj.2)) ?_
     rintro _ w6 ⟨v,rfl,mv,f6⟩
     have s6:=f6.size
     refine ⟨_,rfl,KeepK.of f6 ?_⟩
     refine TB.new fun g5 w7 hg5 t57 f7 hs7=>KeepK.of f7 ?_
     have s7:=f7.size
     exact ending (((f4.trans f5).trans f6).trans f7) (by omega) (by omega) t57 (IsTr.mono (fun j hj=>hj.elim (fun h=>⟨h.1,by have:=h.2;omega,by have:=h.2;omega⟩) fun h=>⟨by have:=h.1;omega,by have:=h.2;omega,by have:=h.2;omega⟩) _ _ (IsTr.keep0 mv f7))
    ·refine TB.new fun g5 w6 hg5 t5 f6 hs6=>KeepK.of f6 ?_
     have s6:=f6.size
     exact joined ((f4.trans f5).trans f6) (by omega) (by omega) t5 (wide ma (f5.trans f6) (by omega) (.inr (by omega))) (wide mb f6 (by omega) (.inr (by omega)))
   ·refine TB.new fun g5 w5 hg5 t5 f5 hs5=>KeepK.of f5 ?_
    have s5:=f5.size
    refine CallK.of (j w5) ?_
    rintro _ w6 ⟨b,rfl,mb,f6⟩
    have s6:=f6.size
    refine ⟨b,rfl,KeepK.of f6 ?_⟩
    exact joined ((f4.trans f5).trans f6) (by omega) (by omega) (t5.keep0 f6) (wide ma (f5.trans f6) (by omega) (.inr (by omega))) (wide mb (Fr.refl _ _) (by omega) (.inl (by omega)))
  ·refine TB.new fun g5 w4 hg5 t5 f4 hs4=>KeepK.of f4 ?_
   have s4:=f4.size
   refine CallK.of (i w4) ?_
   rintro _ w5 ⟨a,rfl,ma,f5⟩
   have s5:=f5.size
   refine ⟨a,rfl,KeepK.of f5 ?_⟩
   refine CallK.of (j w5) ?_
   rintro _ w6 ⟨b,rfl,mb,f6⟩
   have s6:=f6.size
   refine ⟨b,rfl,KeepK.of f6 ?_⟩
   exact joined ((f4.trans f5).trans f6) (by omega) (by omega) ((t5.keep0 f5).keep0 f6) (wide ma f6 (by omega) (.inl (by omega))) (wide mb (Fr.refl _ _) (by omega) (.inl (by omega)))
def C25 (p0:YZ13) (p1:Int) (p2:Int) (p3:ByteArray) (p4:Int) (w:World) (K:Value→World→Prop):Prop:=
 NewK (.cells ((LZ13 p0).toArray) 31) w (fun g1 w2=>NewK (.cells #[.int .i64 0,.string (⟨#[]⟩:ByteArray),.string (⟨#[]⟩:ByteArray),.string (⟨#[]⟩:ByteArray),.string (⟨#[]⟩:ByteArray),.int .i64 0,.int .i64 0,.nilIface] 36) w2 (fun g3 w4=>NewK (.cells #[.int .i64 0,.string (⟨#[]⟩:ByteArray),.string (⟨#[]⟩:ByteArray),.string (⟨#[]⟩:ByteArray),.string (⟨#[]⟩:ByteArray),.int .i64 0,.int .i64 0,.int .i64 0,.string (⟨#[]⟩:ByteArray),.int .i64 0,.slice none 0 0] 43) w4 (fun g5 w6=>LdsK KZ13 (ad g1) w6 (fun (x7:YZ13)=>CallK Tryz.prog 49 #[.pointer none,.agg (LZ13 x7).toArray,.int .i64 3] w6 (.v (.agg KZ16)) (fun (x8:YZ16) w9=>NewK (.cells #[.int .i64 0,.string (⟨#[]⟩:ByteArray),.string (⟨#[]⟩:ByteArray),.string (⟨#[]⟩:ByteArray),.string (⟨#[]⟩:ByteArray),.int .i64 0,.int .i64 0,.int .i64 0,.string (⟨#[]⟩:ByteArray),.int .i64 0,.slice none 0 0] 43) w9 (fun g10 w11=>StsK (ad g10) (LZ16 x8) w11 (fun w12=>JoinK (Unit) (fun J13=>CallK Tryz.prog 14 #[.int .i64 p1,.int .i64 20] w12 (.v (.one (.int .i64))) (fun (x16:Int) w17=>ifB (x16==0)
 (CallK Tryz.prog 14 #[.int .i64 p2,.int .i64 9] w17 (.v (.one (.int .i64))) (fun (x18:Int) w19=>StK ((ad g10).add 0) (.int .i64 x18) w19 (fun w20=>J13 (()) w20)))
 (ifB (x16==1)
 (CallK Tryz.prog 50 #[.string p3,.int .i64 16] w17 (.v (.one .str)) (fun (x21:ByteArray) w22=>StK ((ad g10).add 1) (.string x21) w22 (fun w23=>J13 (()) w23)))
 (ifB (x16==2)
 (CallK Tryz.prog 50 #[.string p3,.int .i64 16] w17 (.v (.one .str)) (fun (x24:ByteArray) w25=>StK ((ad g10).add 2) (.string x24) w25 (fun w26=>J13 (()) w26)))
 (ifB (x16==3)
 (CallK Tryz.prog 50 #[.string p3,.int .i64 16] w17 (.v (.one .str)) (fun (x27:ByteArray) w28=>StK ((ad g10).add 3) (.string x27) w28 (fun w29=>J13 (()) w29)))
 (ifB (x16==4)
 (CallK Tryz.prog 50 #[.string p3,.int .i64 16] w17 (.v (.one .str)) (fun (x30:ByteArray) w31=>StK ((ad g10).add 4) (.string x30) w31 (fun w32=>J13 (()) w32)))
 (ifB (x16==5)
 (StK ((ad g10).add 5) (.int .i64 p2) w17 (fun w33=>J13 (()) w33))
 (ifB (x16==6)
 (StK ((ad g10).add 6) (.int .i64 p2) w17 (fun w34=>J13 (()) w34))
 (J13 (()) w17)))))))))
 (fun _ s14 w15=>LdsK KZ16 (ad g10) w15 (fun (x35:YZ16)=>CallK Tryz.prog 44 #[.agg (LZ16 x35).toArray] w15 (.v (.agg KZ14)) (fun (x36:YZ14) w37=>NewK (.cells #[.int .i64 0,.string (⟨#[]⟩:ByteArray),.string (⟨#[]⟩:ByteArray),.string (⟨#[]⟩:ByteArray),.string (⟨#[]⟩:ByteArray),.int .i64 0,.int .i64 0,.nilIface] 36) w37 (fun g38 w39=>StsK (ad g38) (LZ14 x36) w39 (fun w40=>NzK 11 (ifB ((Int.tmod p4 11)==10)
 (NzK 11 (CallK Tryz.prog 26 #[.int .i64 (IntKind.i64.wrap (Int.tdiv p4 11))] w40 (.v (.one .raw)) (fun (x41:Value) w42=>OneK x41 (StsK ((ad g38).add 7) [x41] w42 (fun w43=>LdK .raw ((ad g38).add 7) w43 (fun (x44:Value)=>RunK Tryz.prog (do eqGuard .neq 34 (.tmp 63) (.const .nilIface) x44 .nilIface;binOp .neq 34 x44 .nilIface) w43 (.v (.one .bool)) (fun (x45:Bool) w46=>DrewK w46 (fun w47=>HoldK (fun S48=>InK S48 (ad g38) (LdsK KZ14 (ad g38) w47 (fun (x49:YZ14)=>InK S48 (ad g38) (LdsK KZ14 (ad g38) w47 (fun (x50:YZ14)=>CallK Tryz.prog 51 #[.agg (LZ14 x50).toArray] w47 (.v (.agg KZ16)) (fun (x51:YZ16) w52=>KeepK S48 w47 w52 (StsK (ad g3) (LZ14 x49) w52 (fun w53=>KeepK S48 w52 w53 (StsK (ad g5) (LZ16 x51) w53 (fun w54=>KeepK S48 w53 w54 (LdsK KZ14 (ad g3) w54 (fun (x55:YZ14)=>LdsK KZ16 (ad g5) w54 (fun (x56:YZ16)=>K (.tuple #[.agg (LZ14 x55).toArray,.agg (LZ16 x56).toArray,.bool x45]) w54)))))))))))))))))))))
 (DrewK w40 (fun w57=>HoldK (fun S58=>InK S58 (ad g38) (LdsK KZ14 (ad g38) w57 (fun (x59:YZ14)=>InK S58 (ad g38) (LdsK KZ14 (ad g38) w57 (fun (x60:YZ14)=>CallK Tryz.prog 51 #[.agg (LZ14 x60).toArray] w57 (.v (.agg KZ16)) (fun (x61:YZ16) w62=>KeepK S58 w57 w62 (StsK (ad g3) (LZ14 x59) w62 (fun w63=>KeepK S58 w62 w63 (StsK (ad g5) (LZ16 x61) w63 (fun w64=>KeepK S58 w63 w64 (LdsK KZ14 (ad g3) w64 (fun (x65:YZ14)=>LdsK KZ16 (ad g5) w64 (fun (x66:YZ16)=>K (.tuple #[.agg (LZ14 x65).toArray,.agg (LZ16 x66).toArray,.bool false]) w64))))))))))))))))))))))))))))
def pl25:Plan:=(.seq .auto (.seq .auto (.join [] .auto (.seq .auto (.seq .auto (.seq .auto (.seq (.held (.soft 0 (.soft 1 (.soft 3 (.pick 2 (.pick 4 (.pick 5 (.soft 6 .done) .stop) .stop) .stop))))) .auto)))))))
theorem c25 (p0:YZ13) (p1:Int) (p2:Int) (p3:ByteArray) (p4:Int) (w:World) (K:Value→World→Prop) (h:C25 p0 p1 p2 p3 p4 w K):Ret Tryz.prog 25 #[.agg (LZ13 p0).toArray,.int .i64 p1,.int .i64 p2,.string p3,.int .i64 p4] w K:=z0z (by kernel_rfl) Tryz.func25 (p:=pl25) (Eq.mpr (by kernel_rfl) h)
def C49 (p0:Option Addr) (p1:YZ13) (p2:Int) (w:World) (K:Value→World→Prop):Prop:=
 NewK (.cells ((LZ13 p1).toArray) 31) w (fun g1 w2=>NewK (.cells #[.int .i64 0,.string (⟨#[]⟩:ByteArray),.string (⟨#[]⟩:ByteArray),.string (⟨#[]⟩:ByteArray),.string (⟨#[]⟩:ByteArray),.int .i64 0,.int .i64 0,.int .i64 0,.string (⟨#[]⟩:ByteArray),.int .i64 0,.slice none 0 0] 43) w2 (fun g3 w4=>NewK (.cells #[.int .i64 0,.string (⟨#[]⟩:ByteArray),.string (⟨#[]⟩:ByteArray),.string (⟨#[]⟩:ByteArray),.string (⟨#[]⟩:ByteArray),.int .i64 0,.int .i64 0,.int .i64 0,.string (⟨#[]⟩:ByteArray),.int .i64 0,.slice none 0 0] 43) w4 (fun g5 w6=>StsK (ad g5) [.int .i64 0,.string (⟨#[]⟩:ByteArray),.string (⟨#[]⟩:ByteArray),.string (⟨#[]⟩:ByteArray),.string (⟨#[]⟩:ByteArray),.int .i64 0,.int .i64 0,.int .i64 0,.string (⟨#[]⟩:ByteArray),.int .i64 0,.slice none 0 0] w6 (fun w7=>LdK (.int .i64) ((ad g1).add 1) w7 (fun (x8:Int)=>CallK Tryz.prog 79 #[.string (⟨#[116]⟩:ByteArray),.int .i64 x8,.int .i64 5] w7 (.v (.one .str)) (fun (x9:ByteArray) w10=>JoinK (ByteArray×Unit) (fun J11=>LdK (.int .i64) ((ad g1).add 1) w10 (fun (x14:Int)=>NzK 19 (ifB ((Int.tmod x14 19)==18)
 (LdK .str ((ad g1).add 5) w10 (fun (x15:ByteArray)=>CallK Tryz.prog 50 #[.string x15,.int .i64 14] w10 (.v (.one .str)) (fun (x16:ByteArray) w17=>J11 (x16,()) w17)))
 (J11 (x9,()) w10))))
 (fun _ s12 w13=>LdK (.int .i64) ((ad g1).add 0) w13 (fun (x18:Int)=>CallK Tryz.prog 14 #[.int .i64 x18,.int .i64 20] w13 (.v (.one (.int .i64))) (fun (x19:Int) w20=>ifB (x19==0)
 (StK ((ad g5).add 0) (.int .i64 1) w20 (fun w21=>LdsK KZ16 (ad g5) w21 (fun (x22:YZ16)=>StsK (ad g3) (LZ16 x22) w21 (fun w23=>LdsK KZ16 (ad g3) w23 (fun (x24:YZ16)=>K (.agg (LZ16 x24).toArray) w23)))))
 (ifB (decide (x19<7))
 (LdsK [.slc,.slc] ((ad g1).add 6) w20 (fun (x25:SlT×SlT×Unit)=>CallK Tryz.prog 80 #[.agg #[.slice x25.1.1 x25.1.2.1 x25.1.2.2,.slice x25.2.1.1 x25.2.1.2.1 x25.2.1.2.2]] w20 (.v (.agg KZ3)) (fun (x26:YZ3) w27=>StK ((ad g5).add 0) (.int .i64 2) w27 (fun w28=>StK ((ad g5).add 1) (.string s12.1) w28 (fun w29=>StsK ((ad g5).add 7) (LZ3 x26) w29 (fun w30=>LdK (.int .i64) ((ad g1).add 2) w30 (fun (x31:Int)=>NzK 17 (ifB ((Int.tmod x31 17)==16)
 (LdsK [.slc,.slc] ((ad g1).add 6) w30 (fun (x32:SlT×SlT×Unit)=>CallK Tryz.prog 81 #[.agg #[.slice x32.1.1 x32.1.2.1 x32.1.2.2,.slice x32.2.1.1 x32.2.1.2.1 x32.2.1.2.2]] w30 (.v (.agg KZ3)) (fun (x33:YZ3) w34=>StsK ((ad g5).add 7) (LZ3 x33) w34 (fun w35=>LdsK KZ16 (ad g5) w35 (fun (x36:YZ16)=>StsK (ad g3) (LZ16 x36) w35 (fun w37=>LdsK KZ16 (ad g3) w37 (fun (x38:YZ16)=>K (.agg (LZ16 x38).toArray) w37)))))))
 (LdsK KZ16 (ad g5) w30 (fun (x39:YZ16)=>StsK (ad g3) (LZ16 x39) w30 (fun w40=>LdsK KZ16 (ad g3) w40 (fun (x41:YZ16)=>K (.agg (LZ16 x41).toArray) w40))))))))))))
 (ifB (decide (x19<11))
 (JoinK (Unit) (fun J42=>DrewK w20 (fun w45=>HoldK (fun S46=>InK S46 ((ad g1).add 1) (LdK (.int .i64) ((ad g1).add 1) w45 (fun (x47:Int)=>InK S46 ((ad g1).add 3) (LdK (.int .i64) ((ad g1).add 3) w45 (fun (x48:Int)=>InK S46 ((ad g1).add 4) (LdK (.int .i64) ((ad g1).add 4) w45 (fun (x49:Int)=>AndK (RunK Tryz.prog (Instr.buildSlice 27 3 #[(0,.string (⟨#[108,105,98,111,114]⟩:ByteArray)),(1,.string (⟨#[114,97,105,110]⟩:ByteArray)),(2,.string (⟨#[195,182,108]⟩:ByteArray))]) w45 (.v (.one .slc)) (fun (x50:SlT) w51=>KeepK S46 w45 w51 (CallK Tryz.prog 14 #[.int .i64 x47,.int .i64 3] w51 (.v (.one (.int .i64))) (fun (x52:Int) w53=>KeepK S46 w51 w53 (IdxK x50.1 x50.2.1 x52 1 (fun a54=>InK S46 a54 (LdK .str a54 w53 (fun (x55:ByteArray)=>CallK Tryz.prog 14 #[.int .i64 x48,.int .i64 (IntKind.i64.wrap (p2+2))] w53 (.v (.one (.int .i64))) (fun (x56:Int) w57=>KeepK S46 w53 w57 (CallK Tryz.prog 14 #[.int .i64 x49,.int .i64 30] w57 (.v (.one (.int .i64))) (fun (x58:Int) w59=>KeepK S46 w57 w59 (StK ((ad g5).add 0) (.int .i64 3) w59 (fun w60=>KeepK S46 w59 w60 (StK ((ad g5).add 2) (.string x55) w60 (fun w61=>KeepK S46 w60 w61 (StK ((ad g5).add 5) (.int .i64 x56) w61 (fun w62=>KeepK S46 w61 w62 (StK ((ad g5).add 6) (.int .i64 (IntKind.i64.wrap (x58 - 10))) w62 (fun w63=>KeepK S46 w62 w63 (J42 (()) w63))))))))))))))))))))
 (CallK Tryz.prog 14 #[.int .i64 x47,.int .i64 3] w45 (.v (.one (.int .i64))) (fun (x64:Int) w65=>KeepK S46 w45 w65 (AndK (RunK Tryz.prog (Instr.buildSlice 27 3 #[(0,.string (⟨#[108,105,98,111,114]⟩:ByteArray)),(1,.string (⟨#[114,97,105,110]⟩:ByteArray)),(2,.string (⟨#[195,182,108]⟩:ByteArray))]) w65 (.v (.one .slc)) (fun (x66:SlT) w67=>KeepK S46 w65 w67 (IdxK x66.1 x66.2.1 x64 1 (fun a68=>InK S46 a68 (LdK .str a68 w67 (fun (x69:ByteArray)=>CallK Tryz.prog 14 #[.int .i64 x48,.int .i64 (IntKind.i64.wrap (p2+2))] w67 (.v (.one (.int .i64))) (fun (x70:Int) w71=>KeepK S46 w67 w71 (CallK Tryz.prog 14 #[.int .i64 x49,.int .i64 30] w71 (.v (.one (.int .i64))) (fun (x72:Int) w73=>KeepK S46 w71 w73 (StK ((ad g5).add 0) (.int .i64 3) w73 (fun w74=>KeepK S46 w73 w74 (StK ((ad g5).add 2) (.string x69) w74 (fun w75=>KeepK S46 w74 w75 (StK ((ad g5).add 5) (.int .i64 x70) w75 (fun w76=>KeepK S46 w75 w76 (StK ((ad g5).add 6) (.int .i64 (IntKind.i64.wrap (x72 - 10))) w76 (fun w77=>KeepK S46 w76 w77 (J42 (()) w77))))))))))))))))))
 (CallK Tryz.prog 14 #[.int .i64 x48,.int .i64 (IntKind.i64.wrap (p2+2))] w65 (.v (.one (.int .i64))) (fun (x78:Int) w79=>KeepK S46 w65 w79 (AndK (RunK Tryz.prog (Instr.buildSlice 27 3 #[(0,.string (⟨#[108,105,98,111,114]⟩:ByteArray)),(1,.string (⟨#[114,97,105,110]⟩:ByteArray)),(2,.string (⟨#[195,182,108]⟩:ByteArray))]) w79 (.v (.one .slc)) (fun (x80:SlT) w81=>KeepK S46 w79 w81 (IdxK x80.1 x80.2.1 x64 1 (fun a82=>InK S46 a82 (LdK .str a82 w81 (fun (x83:ByteArray)=>CallK Tryz.prog 14 #[.int .i64 x49,.int .i64 30] w81 (.v (.one (.int .i64))) (fun (x84:Int) w85=>KeepK S46 w81 w85 (StK ((ad g5).add 0) (.int .i64 3) w85 (fun w86=>KeepK S46 w85 w86 (StK ((ad g5).add 2) (.string x83) w86 (fun w87=>KeepK S46 w86 w87 (StK ((ad g5).add 5) (.int .i64 x78) w87 (fun w88=>KeepK S46 w87 w88 (StK ((ad g5).add 6) (.int .i64 (IntKind.i64.wrap (x84 - 10))) w88 (fun w89=>KeepK S46 w88 w89 (J42 (()) w89))))))))))))))))
 (CallK Tryz.prog 14 #[.int .i64 x49,.int .i64 30] w79 (.v (.one (.int .i64))) (fun (x90:Int) w91=>KeepK S46 w79 w91 (AndK (RunK Tryz.prog (Instr.buildSlice 27 3 #[(0,.string (⟨#[108,105,98,111,114]⟩:ByteArray)),(1,.string (⟨#[114,97,105,110]⟩:ByteArray)),(2,.string (⟨#[195,182,108]⟩:ByteArray))]) w91 (.v (.one .slc)) (fun (x92:SlT) w93=>KeepK S46 w91 w93 (IdxK x92.1 x92.2.1 x64 1 (fun a94=>InK S46 a94 (LdK .str a94 w93 (fun (x95:ByteArray)=>StK ((ad g5).add 0) (.int .i64 3) w93 (fun w96=>KeepK S46 w93 w96 (StK ((ad g5).add 2) (.string x95) w96 (fun w97=>KeepK S46 w96 w97 (StK ((ad g5).add 5) (.int .i64 x78) w97 (fun w98=>KeepK S46 w97 w98 (StK ((ad g5).add 6) (.int .i64 (IntKind.i64.wrap (x90 - 10))) w98 (fun w99=>KeepK S46 w98 w99 (J42 (()) w99))))))))))))))
 (StK ((ad g5).add 0) (.int .i64 3) w91 (fun w100=>KeepK S46 w91 w100 (RunK Tryz.prog (Instr.buildSlice 27 3 #[(0,.string (⟨#[108,105,98,111,114]⟩:ByteArray)),(1,.string (⟨#[114,97,105,110]⟩:ByteArray)),(2,.string (⟨#[195,182,108]⟩:ByteArray))]) w100 (.v (.one .slc)) (fun (x101:SlT) w102=>KeepK S46 w100 w102 (IdxK x101.1 x101.2.1 x64 1 (fun a103=>InK S46 a103 (LdK .str a103 w102 (fun (x104:ByteArray)=>StK ((ad g5).add 2) (.string x104) w102 (fun w105=>KeepK S46 w102 w105 (StK ((ad g5).add 5) (.int .i64 x78) w105 (fun w106=>KeepK S46 w105 w106 (StK ((ad g5).add 6) (.int .i64 (IntKind.i64.wrap (x90 - 10))) w106 (fun w107=>KeepK S46 w106 w107 (J42 (()) w107))))))))))))))))))))))))))))))))
 (fun _ s43 w44=>LdK (.int .i64) ((ad g1).add 2) w44 (fun (x108:Int)=>NzK 5 (ifB ((Int.tmod x108 5)==0)
 (ifB (!(Option.isNone p0))
 (CallK Tryz.prog 82 #[.pointer p0] w44 (.v (.one .slc)) (fun (x109:SlT) w110=>LoopK (Int×Unit) (fun _ s111 w112 next113=>ifB (decide (s111.1<(x109.2.1:Int)))
 (IdxK x109.1 x109.2.1 s111.1 5 (fun a114=>LdsK KZ8 a114 w112 (fun (x115:YZ8)=>NewK (.cells #[.bool false,.string (⟨#[]⟩:ByteArray),.string (⟨#[]⟩:ByteArray),.int .i64 0,.int .i64 0] 145) w112 (fun g116 w117=>StsK (ad g116) (LZ8 x115) w117 (fun w118=>DrewK w118 (fun w119=>LdK .bool ((ad g116).add 0) w119 (fun (x120:Bool)=>ifB (!x120)
 (LdK (.int .i64) ((ad g116).add 3) w119 (fun (x121:Int)=>optA p0 (fun a122=>LdK (.int .i64) (a122.add 0) w119 (fun (x123:Int)=>ifB (decide (x121≤x123))
 (DrewK w119 (fun w124=>HoldK (fun S125=>InK S125 ((ad g116).add 1) (LdK .str ((ad g116).add 1) w124 (fun (x126:ByteArray)=>InK S125 ((ad g116).add 3) (LdK (.int .i64) ((ad g116).add 3) w124 (fun (x127:Int)=>StK ((ad g5).add 2) (.string x126) w124 (fun w128=>KeepK S125 w124 w128 (StK ((ad g5).add 5) (.int .i64 x127) w128 (fun w129=>KeepK S125 w128 w129 (next113 (IntKind.i64.wrap (s111.1+1),()) w129)))))))))))
 (next113 (IntKind.i64.wrap (s111.1+1),()) w119)))))
 (next113 (IntKind.i64.wrap (s111.1+1),()) w119))))))))
 (LdK (.int .i64) ((ad g1).add 2) w112 (fun (x130:Int)=>NzK 13 (ifB ((Int.tmod x130 13)==12)
 (LdK (.int .i64) ((ad g1).add 4) w112 (fun (x131:Int)=>StK ((ad g5).add 6) (.int .i64 x131) w112 (fun w132=>LdsK KZ16 (ad g5) w132 (fun (x133:YZ16)=>StsK (ad g3) (LZ16 x133) w132 (fun w134=>LdsK KZ16 (ad g3) w134 (fun (x135:YZ16)=>K (.agg (LZ16 x135).toArray) w134))))))
 (LdsK KZ16 (ad g5) w112 (fun (x136:YZ16)=>StsK (ad g3) (LZ16 x136) w112 (fun w137=>LdsK KZ16 (ad g3) w137 (fun (x138:YZ16)=>K (.agg (LZ16 x138).toArray) w137))))))))
 (0,()) w110))
 (LdK (.int .i64) ((ad g1).add 2) w44 (fun (x139:Int)=>NzK 13 (ifB ((Int.tmod x139 13)==12)
 (LdK (.int .i64) ((ad g1).add 4) w44 (fun (x140:Int)=>StK ((ad g5).add 6) (.int .i64 x140) w44 (fun w141=>LdsK KZ16 (ad g5) w141 (fun (x142:YZ16)=>StsK (ad g3) (LZ16 x142) w141 (fun w143=>LdsK KZ16 (ad g3) w143 (fun (x144:YZ16)=>K (.agg (LZ16 x144).toArray) w143))))))
 (LdsK KZ16 (ad g5) w44 (fun (x145:YZ16)=>StsK (ad g3) (LZ16 x145) w44 (fun w146=>LdsK KZ16 (ad g3) w146 (fun (x147:YZ16)=>K (.agg (LZ16 x147).toArray) w146))))))))
 (LdK (.int .i64) ((ad g1).add 2) w44 (fun (x148:Int)=>NzK 13 (ifB ((Int.tmod x148 13)==12)
 (LdK (.int .i64) ((ad g1).add 4) w44 (fun (x149:Int)=>StK ((ad g5).add 6) (.int .i64 x149) w44 (fun w150=>LdsK KZ16 (ad g5) w150 (fun (x151:YZ16)=>StsK (ad g3) (LZ16 x151) w150 (fun w152=>LdsK KZ16 (ad g3) w152 (fun (x153:YZ16)=>K (.agg (LZ16 x153).toArray) w152))))))
 (LdsK KZ16 (ad g5) w44 (fun (x154:YZ16)=>StsK (ad g3) (LZ16 x154) w44 (fun w155=>LdsK KZ16 (ad g3) w155 (fun (x156:YZ16)=>K (.agg (LZ16 x156).toArray) w155)))))))))))
 (ifB (decide (x19<14))
 (DrewK w20 (fun w157=>HoldK (fun S158=>InK S158 ((ad g1).add 2) (LdK (.int .i64) ((ad g1).add 2) w157 (fun (x159:Int)=>InK S158 ((ad g1).add 4) (LdK (.int .i64) ((ad g1).add 4) w157 (fun (x160:Int)=>CallK Tryz.prog 14 #[.int .i64 x159,.int .i64 3] w157 (.v (.one (.int .i64))) (fun (x161:Int) w162=>KeepK S158 w157 w162 (CallK Tryz.prog 83 #[.int .i64 (IntKind.i64.wrap (1+x161))] w162 (.v (.one .str)) (fun (x163:ByteArray) w164=>KeepK S158 w162 w164 (CatK (⟨#[99,104]⟩:ByteArray) x163 (CallK Tryz.prog 14 #[.int .i64 x160,.int .i64 2] w164 (.v (.one (.int .i64))) (fun (x165:Int) w166=>KeepK S158 w164 w166 (StK ((ad g5).add 0) (.int .i64 4) w166 (fun w167=>KeepK S158 w166 w167 (StK ((ad g5).add 1) (.string s12.1) w167 (fun w168=>KeepK S158 w167 w168 (StK ((ad g5).add 3) (.string ((⟨#[99,104]⟩:ByteArray)++x163)) w168 (fun w169=>KeepK S158 w168 w169 (StK ((ad g5).add 6) (.int .i64 x165) w169 (fun w170=>KeepK S158 w169 w170 (LdK (.int .i64) ((ad g1).add 2) w170 (fun (x171:Int)=>NzK 3 (ifB ((Int.tmod x171 3)==0)
 (ifB (!(Option.isNone p0))
 (optA p0 (fun a172=>LdK .slc (a172.add 1) w170 (fun (x173:SlT)=>LoopK (Int×Unit) (fun _ s174 w175 next176=>ifB (decide (s174.1<(x173.2.1:Int)))
 (IdxK x173.1 x173.2.1 s174.1 6 (fun a177=>LdsK KZ12 a177 w175 (fun (x178:YZ12)=>NewK (.cells #[.string (⟨#[]⟩:ByteArray),.int .i64 0,.int .i64 0,.string (⟨#[]⟩:ByteArray),.int .i64 0,.slice none 0 0] 152) w175 (fun g179 w180=>StsK (ad g179) (LZ12 x178) w180 (fun w181=>DrewK w181 (fun w182=>HoldK (fun S183=>InK S183 ((ad g179).add 0) (LdK .str ((ad g179).add 0) w182 (fun (x184:ByteArray)=>InK S183 ((ad g179).add 2) (LdsK KZ3 ((ad g179).add 2) w182 (fun (x185:YZ3)=>InK S183 ((ad g179).add 1) (LdK (.int .i64) ((ad g179).add 1) w182 (fun (x186:Int)=>optA p0 (fun a187=>InK S183 (a187.add 2) (LdK .ptr (a187.add 2) w182 (fun (x188:Option Addr)=>CallK Tryz.prog 84 #[.string x184,.agg (LZ3 x185).toArray,.int .i64 x186,.pointer x188] w182 (.tup [.one .slc,.one .slc,.one (.int .i64)]) (fun (x189:SlT×SlT×Int×Unit) w190=>KeepK S183 w182 w190 (LoopK (Int×Unit) (fun _ s191 w192 next193=>ifB (decide (s191.1<(x189.2.1.2.1:Int)))
 (IdxK x189.2.1.1 x189.2.1.2.1 s191.1 5 (fun a194=>LdsK KZ8 a194 w192 (fun (x195:YZ8)=>NewK (.cells #[.bool false,.string (⟨#[]⟩:ByteArray),.string (⟨#[]⟩:ByteArray),.int .i64 0,.int .i64 0] 145) w192 (fun g196 w197=>StsK (ad g196) (LZ8 x195) w197 (fun w198=>LdK .bool ((ad g196).add 0) w198 (fun (x199:Bool)=>ifB x199
 (DrewK w198 (fun w200=>HoldK (fun S201=>InK S201 ((ad g179).add 0) (LdK .str ((ad g179).add 0) w200 (fun (x202:ByteArray)=>InK S201 ((ad g196).add 2) (LdK .str ((ad g196).add 2) w200 (fun (x203:ByteArray)=>StK ((ad g5).add 1) (.string x202) w200 (fun w204=>KeepK S201 w200 w204 (StK ((ad g5).add 3) (.string x203) w204 (fun w205=>KeepK S201 w204 w205 (next193 (IntKind.i64.wrap (s191.1+1),()) w205)))))))))))
 (next193 (IntKind.i64.wrap (s191.1+1),()) w198)))))))
 (next176 (IntKind.i64.wrap (s174.1+1),()) w192))
 (0,()) w190))))))))))))))))))
 (LdsK KZ16 (ad g5) w175 (fun (x206:YZ16)=>StsK (ad g3) (LZ16 x206) w175 (fun w207=>LdsK KZ16 (ad g3) w207 (fun (x208:YZ16)=>K (.agg (LZ16 x208).toArray) w207)))))
 (0,()) w170)))
 (LdsK KZ16 (ad g5) w170 (fun (x209:YZ16)=>StsK (ad g3) (LZ16 x209) w170 (fun w210=>LdsK KZ16 (ad g3) w210 (fun (x211:YZ16)=>K (.agg (LZ16 x211).toArray) w210)))))
 (LdsK KZ16 (ad g5) w170 (fun (x212:YZ16)=>StsK (ad g3) (LZ16 x212) w170 (fun w213=>LdsK KZ16 (ad g3) w213 (fun (x214:YZ16)=>K (.agg (LZ16 x214).toArray) w213))))))))))))))))))))))))))))
 (ifB (decide (x19<17))
 (LdK (.int .i64) ((ad g1).add 3) w20 (fun (x215:Int)=>CallK Tryz.prog 14 #[.int .i64 x215,.int .i64 4] w20 (.v (.one (.int .i64))) (fun (x216:Int) w217=>StK ((ad g5).add 0) (.int .i64 5) w217 (fun w218=>StK ((ad g5).add 5) (.int .i64 (IntKind.i64.wrap (x216+p2))) w218 (fun w219=>LdsK KZ16 (ad g5) w219 (fun (x220:YZ16)=>StsK (ad g3) (LZ16 x220) w219 (fun w221=>LdsK KZ16 (ad g3) w221 (fun (x222:YZ16)=>K (.agg (LZ16 x222).toArray) w221))))))))
 (ifB (decide (x19<19))
 (JoinK (Unit) (fun J223=>DrewK w20 (fun w226=>HoldK (fun S227=>InK S227 ((ad g1).add 3) (LdK (.int .i64) ((ad g1).add 3) w226 (fun (x228:Int)=>InK S227 ((ad g1).add 1) (LdK (.int .i64) ((ad g1).add 1) w226 (fun (x229:Int)=>AndK (CallK Tryz.prog 14 #[.int .i64 x228,.int .i64 (IntKind.i64.wrap (p2+2))] w226 (.v (.one (.int .i64))) (fun (x230:Int) w231=>KeepK S227 w226 w231 (AndK (RunK Tryz.prog (Instr.buildSlice 27 3 #[(0,.string (⟨#[117,115,100]⟩:ByteArray)),(1,.string (⟨#[101,117,114]⟩:ByteArray)),(2,.string (⟨#[103,98,112]⟩:ByteArray))]) w231 (.v (.one .slc)) (fun (x232:SlT) w233=>KeepK S227 w231 w233 (CallK Tryz.prog 14 #[.int .i64 x229,.int .i64 3] w233 (.v (.one (.int .i64))) (fun (x234:Int) w235=>KeepK S227 w233 w235 (IdxK x232.1 x232.2.1 x234 1 (fun a236=>InK S227 a236 (LdK .str a236 w235 (fun (x237:ByteArray)=>StK ((ad g5).add 0) (.int .i64 6) w235 (fun w238=>KeepK S227 w235 w238 (StK ((ad g5).add 5) (.int .i64 x230) w238 (fun w239=>KeepK S227 w238 w239 (StK ((ad g5).add 4) (.string x237) w239 (fun w240=>KeepK S227 w239 w240 (J223 (()) w240))))))))))))))
 (CallK Tryz.prog 14 #[.int .i64 x229,.int .i64 3] w231 (.v (.one (.int .i64))) (fun (x241:Int) w242=>KeepK S227 w231 w242 (AndK (RunK Tryz.prog (Instr.buildSlice 27 3 #[(0,.string (⟨#[117,115,100]⟩:ByteArray)),(1,.string (⟨#[101,117,114]⟩:ByteArray)),(2,.string (⟨#[103,98,112]⟩:ByteArray))]) w242 (.v (.one .slc)) (fun (x243:SlT) w244=>KeepK S227 w242 w244 (IdxK x243.1 x243.2.1 x241 1 (fun a245=>InK S227 a245 (LdK .str a245 w244 (fun (x246:ByteArray)=>StK ((ad g5).add 0) (.int .i64 6) w244 (fun w247=>KeepK S227 w244 w247 (StK ((ad g5).add 5) (.int .i64 x230) w247 (fun w248=>KeepK S227 w247 w248 (StK ((ad g5).add 4) (.string x246) w248 (fun w249=>KeepK S227 w248 w249 (J223 (()) w249))))))))))))
 (StK ((ad g5).add 0) (.int .i64 6) w242 (fun w250=>KeepK S227 w242 w250 (AndK (RunK Tryz.prog (Instr.buildSlice 27 3 #[(0,.string (⟨#[117,115,100]⟩:ByteArray)),(1,.string (⟨#[101,117,114]⟩:ByteArray)),(2,.string (⟨#[103,98,112]⟩:ByteArray))]) w250 (.v (.one .slc)) (fun (x251:SlT) w252=>KeepK S227 w250 w252 (IdxK x251.1 x251.2.1 x241 1 (fun a253=>InK S227 a253 (LdK .str a253 w252 (fun (x254:ByteArray)=>StK ((ad g5).add 5) (.int .i64 x230) w252 (fun w255=>KeepK S227 w252 w255 (StK ((ad g5).add 4) (.string x254) w255 (fun w256=>KeepK S227 w255 w256 (J223 (()) w256))))))))))
 (StK ((ad g5).add 5) (.int .i64 x230) w250 (fun w257=>KeepK S227 w250 w257 (RunK Tryz.prog (Instr.buildSlice 27 3 #[(0,.string (⟨#[117,115,100]⟩:ByteArray)),(1,.string (⟨#[101,117,114]⟩:ByteArray)),(2,.string (⟨#[103,98,112]⟩:ByteArray))]) w257 (.v (.one .slc)) (fun (x258:SlT) w259=>KeepK S227 w257 w259 (IdxK x258.1 x258.2.1 x241 1 (fun a260=>InK S227 a260 (LdK .str a260 w259 (fun (x261:ByteArray)=>StK ((ad g5).add 4) (.string x261) w259 (fun w262=>KeepK S227 w259 w262 (J223 (()) w262)))))))))))))))))))
 (RunK Tryz.prog (Instr.buildSlice 27 3 #[(0,.string (⟨#[117,115,100]⟩:ByteArray)),(1,.string (⟨#[101,117,114]⟩:ByteArray)),(2,.string (⟨#[103,98,112]⟩:ByteArray))]) w226 (.v (.one .slc)) (fun (x263:SlT) w264=>KeepK S227 w226 w264 (CallK Tryz.prog 14 #[.int .i64 x228,.int .i64 (IntKind.i64.wrap (p2+2))] w264 (.v (.one (.int .i64))) (fun (x265:Int) w266=>KeepK S227 w264 w266 (CallK Tryz.prog 14 #[.int .i64 x229,.int .i64 3] w266 (.v (.one (.int .i64))) (fun (x267:Int) w268=>KeepK S227 w266 w268 (IdxK x263.1 x263.2.1 x267 1 (fun a269=>InK S227 a269 (LdK .str a269 w268 (fun (x270:ByteArray)=>StK ((ad g5).add 0) (.int .i64 6) w268 (fun w271=>KeepK S227 w268 w271 (StK ((ad g5).add 5) (.int .i64 x265) w271 (fun w272=>KeepK S227 w271 w272 (StK ((ad g5).add 4) (.string x270) w272 (fun w273=>KeepK S227 w272 w273 (J223 (()) w273)))))))))))))))))))))))
 (fun _ s224 w225=>ifB (!(Option.isNone p0))
 (CallK Tryz.prog 85 #[.pointer p0] w225 (.v (.one .slc)) (fun (x274:SlT) w275=>LoopK (Int×Unit) (fun _ s276 w277 next278=>ifB (decide (s276.1<(x274.2.1:Int)))
 (IdxK x274.1 x274.2.1 s276.1 4 (fun a279=>LdsK KZ2 a279 w277 (fun (x280:YZ2)=>NewK (.cells #[.int .i64 0,.string (⟨#[]⟩:ByteArray),.int .i64 0,.int .i64 0] 159) w277 (fun g281 w282=>StsK (ad g281) (LZ2 x280) w282 (fun w283=>LdK (.int .i64) ((ad g1).add 2) w283 (fun (x284:Int)=>CallK Tryz.prog 14 #[.int .i64 x284,.int .i64 4] w283 (.v (.one (.int .i64))) (fun (x285:Int) w286=>ifB (decide (s276.1≤x285))
 (LdK (.int .i64) ((ad g281).add 2) w286 (fun (x287:Int)=>LdK (.int .i64) ((ad g281).add 3) w286 (fun (x288:Int)=>ifB (x287 != x288)
 (DrewK w286 (fun w289=>HoldK (fun S290=>InK S290 ((ad g281).add 0) (LdK (.int .i64) ((ad g281).add 0) w289 (fun (x291:Int)=>InK S290 ((ad g281).add 1) (LdK .str ((ad g281).add 1) w289 (fun (x292:ByteArray)=>StK ((ad g5).add 5) (.int .i64 x291) w289 (fun w293=>KeepK S290 w289 w293 (StK ((ad g5).add 4) (.string x292) w293 (fun w294=>KeepK S290 w293 w294 (next278 (IntKind.i64.wrap (s276.1+1),()) w294)))))))))))
 (next278 (IntKind.i64.wrap (s276.1+1),()) w286))))
 (next278 (IntKind.i64.wrap (s276.1+1),()) w286))))))))
 (LdK (.int .i64) ((ad g5).add 5) w277 (fun (x295:Int)=>LdK .str ((ad g5).add 4) w277 (fun (x296:ByteArray)=>CallK Tryz.prog 86 #[.pointer p0,.int .i64 x295,.string x296] w277 (.v (.one (.int .i64))) (fun (x297:Int) w298=>StK ((ad g5).add 6) (.int .i64 x297) w298 (fun w299=>LdK (.int .i64) ((ad g1).add 2) w299 (fun (x300:Int)=>NzK 7 (ifB ((Int.tmod x300 7)==6)
 (LdK (.int .i64) ((ad g1).add 4) w299 (fun (x301:Int)=>StK ((ad g5).add 6) (.int .i64 x301) w299 (fun w302=>LdsK KZ16 (ad g5) w302 (fun (x303:YZ16)=>StsK (ad g3) (LZ16 x303) w302 (fun w304=>LdsK KZ16 (ad g3) w304 (fun (x305:YZ16)=>K (.agg (LZ16 x305).toArray) w304))))))
 (LdsK KZ16 (ad g5) w299 (fun (x306:YZ16)=>StsK (ad g3) (LZ16 x306) w299 (fun w307=>LdsK KZ16 (ad g3) w307 (fun (x308:YZ16)=>K (.agg (LZ16 x308).toArray) w307))))))))))))
 (0,()) w275))
 (LdK (.int .i64) ((ad g1).add 2) w225 (fun (x309:Int)=>NzK 7 (ifB ((Int.tmod x309 7)==6)
 (LdK (.int .i64) ((ad g1).add 4) w225 (fun (x310:Int)=>StK ((ad g5).add 6) (.int .i64 x310) w225 (fun w311=>LdsK KZ16 (ad g5) w311 (fun (x312:YZ16)=>StsK (ad g3) (LZ16 x312) w311 (fun w313=>LdsK KZ16 (ad g3) w313 (fun (x314:YZ16)=>K (.agg (LZ16 x314).toArray) w313))))))
 (LdsK KZ16 (ad g5) w225 (fun (x315:YZ16)=>StsK (ad g3) (LZ16 x315) w225 (fun w316=>LdsK KZ16 (ad g3) w316 (fun (x317:YZ16)=>K (.agg (LZ16 x317).toArray) w316)))))))))
 (DrewK w20 (fun w318=>HoldK (fun S319=>InK S319 ((ad g1).add 1) (LdK (.int .i64) ((ad g1).add 1) w318 (fun (x320:Int)=>InK S319 ((ad g1).add 5) (LdK .str ((ad g1).add 5) w318 (fun (x321:ByteArray)=>InK S319 ((ad g1).add 3) (LdK (.int .i64) ((ad g1).add 3) w318 (fun (x322:Int)=>InK S319 ((ad g1).add 4) (LdK (.int .i64) ((ad g1).add 4) w318 (fun (x323:Int)=>CallK Tryz.prog 14 #[.int .i64 x320,.int .i64 9] w318 (.v (.one (.int .i64))) (fun (x324:Int) w325=>KeepK S319 w318 w325 (CallK Tryz.prog 50 #[.string x321,.int .i64 5] w325 (.v (.one .str)) (fun (x326:ByteArray) w327=>KeepK S319 w325 w327 (StsK (ad g5) [.int .i64 x324,.string x326,.string (⟨#[]⟩:ByteArray),.string (⟨#[]⟩:ByteArray),.string (⟨#[]⟩:ByteArray),.int .i64 x322,.int .i64 x323,.int .i64 0,.string (⟨#[]⟩:ByteArray),.int .i64 0,.slice none 0 0] w327 (fun w328=>KeepK S319 w327 w328 (LdsK KZ16 (ad g5) w328 (fun (x329:YZ16)=>StsK (ad g3) (LZ16 x329) w328 (fun w330=>LdsK KZ16 (ad g3) w330 (fun (x331:YZ16)=>K (.agg (LZ16 x331).toArray) w330))))))))))))))))))))))))))))))))))
def pl49:Plan:=(.seq .auto (.seq .auto (.seq .auto (.join [(8,.one .str)] .auto (.seq (.seq .auto (.block (.seq .auto (.cond .auto (.seq .auto (.cond .auto (.seq .auto (.cond (.join [] (.held (.soft 1 (.soft 2 (.soft 6 (.soft 7 (.soft 8 (.soft 9 (.soft 11 (.soft 12 (.soft 15 (.pick 0 (.pick 3 (.soft 4 (.soft 5 (.pick 10 (.pick 13 (.soft 14 (.pick 16 (.soft 17 (.pick 18 (.soft 19 (.pick 20 (.soft 21 (.pick 22 .done .stop)) .stop)) .stop)) .stop)) .stop) .stop))) .stop) (.pick 3 (.pick 0 (.soft 4 (.soft 5 (.pick 10 (.pick 13 (.soft 14 (.pick 16 (.soft 17 (.pick 18 (.soft 19 (.pick 20 (.soft 21 (.pick 22 .done .stop)) .stop)) .stop)) .stop)) .stop) .stop))) (.pick 10 (.pick 0 (.soft 4 (.soft 5 (.pick 13 (.soft 14 (.pick 16 (.soft 17 (.pick 18 (.soft 19 (.pick 20 (.soft 21 (.pick 22 .done .stop)) .stop)) .stop)) .stop)) .stop))) (.pick 13 (.soft 14 (.pick 0 (.soft 4 (.soft 5 (.pick 16 (.soft 17 (.pick 18 (.soft 19 (.pick 20 (.soft 21 (.pick 22 .done .stop)) .stop)) .stop)) .stop))) (.pick 16 (.pick 0 (.soft 4 (.soft 5 (.soft 17 (.pick 18 (.soft 19 (.pick 20 (.soft 21 (.pick 22 .done .stop)) .stop)) .stop)))) .stop) .stop))) .stop)) .stop)) .stop)))))))))))) (.seq (.seq .auto (.cond (.seq .auto (.block (.loop [(101,.one (.int .i64))] (.seq .auto (.seq .auto (.seq (.block (.seq .auto (.seq .still (.cond (.held (.soft 0 (.soft 1 (.soft 2 (.soft 3 (.soft 4 (.pick 5 (.soft 6 (.pick 7 .done .stop)) .stop))))))) .auto)))) .auto)))))) .auto)) .auto)) (.seq .auto (.cond (.seq (.held (.soft 0 (.soft 1 (.soft 2 (.soft 7 (.soft 8 (.soft 10 (.pick 3 (.soft 4 (.pick 5 (.soft 6 (.pick 9 (.pick 11 (.soft 12 (.pick 13 (.soft 14 (.pick 15 (.soft 16 (.pick 17 .done .stop)) .stop)) .stop)) .stop) .stop)) .stop)) .stop)))))))) (.seq .auto (.cond (.seq .auto (.block (.loop [(161,.one (.int .i64))] (.seq .auto (.seq .auto (.seq (.block (.seq .auto (.seq (.held (.soft 0 (.soft 1 (.soft 2 (.soft 3 (.soft 4 (.soft 5 (.soft 6 (.soft 7 (.soft 8 (.soft 9 (.pick 10 (.soft 11 (.soft 12 (.soft 13 (.soft 14 (.soft 15 (.soft 16 (.soft 17 .done))))))) .stop)))))))))))) (.seq .auto (.block (.loop [(182,.one (.int .i64))] (.seq .auto (.seq .auto (.seq (.block (.seq .auto (.seq .auto (.cond (.held (.soft 0 (.soft 1 (.soft 2 (.soft 3 (.soft 4 (.pick 5 (.soft 6 (.pick 7 .done .stop)) .stop))))))) .auto)))) .auto))))))))) .auto)))))) .auto))) (.seq .auto (.cond .auto (.seq .auto (.cond (.join [] (.held (.soft 0 (.soft 1 (.soft 2 (.soft 3 (.soft 6 (.soft 7 (.soft 11 (.pick 4 (.pick 5 (.pick 8 (.soft 9 (.soft 10 (.pick 12 (.soft 13 (.pick 14 (.soft 15 (.pick 16 .done .stop)) .stop)) .stop))) .stop) (.pick 8 (.pick 5 (.soft 9 (.soft 10 (.pick 12 (.soft 13 (.pick 14 (.soft 15 (.pick 16 .done .stop)) .stop)) .stop))) (.pick 12 (.soft 13 (.pick 5 (.soft 9 (.soft 10 (.pick 14 (.soft 15 (.pick 16 .done .stop)) .stop))) (.pick 14 (.pick 5 (.soft 9 (.soft 10 (.soft 15 (.pick 16 .done .stop)))) .stop) .stop))) .stop)) .stop)) (.pick 5 (.pick 4 (.pick 8 (.soft 9 (.soft 10 (.pick 12 (.soft 13 (.pick 14 (.soft 15 (.pick 16 .done .stop)) .stop)) .stop))) .stop) .stop) .stop)))))))))) (.seq (.seq .auto (.cond (.seq (.seq .auto (.block (.loop [(228,.one (.int .i64))] (.seq .auto (.seq .auto (.seq (.block (.seq .auto (.seq .auto (.cond (.held (.soft 0 (.soft 1 (.soft 2 (.soft 3 (.soft 4 (.pick 5 (.soft 6 (.pick 7 .done .stop)) .stop))))))) .auto)))) .auto)))))) .auto) .auto)) .auto)) (.held (.soft 0 (.soft 1 (.soft 3 (.soft 4 (.soft 6 (.soft 7 (.soft 8 (.soft 9 (.pick 2 (.pick 5 (.soft 10 (.pick 11 .done .stop)) .stop) .stop)))))))))))))))))))))))) .auto)))))
theorem c49 (p0:Option Addr) (p1:YZ13) (p2:Int) (w:World) (K:Value→World→Prop) (h:C49 p0 p1 p2 w K):Ret Tryz.prog 49 #[.pointer p0,.agg (LZ13 p1).toArray,.int .i64 p2] w K:=z0z (by kernel_rfl) Tryz.func49 (p:=pl49) (Eq.mpr (by kernel_rfl) h)
def C44 (p0:YZ16) (w:World) (K:Value→World→Prop):Prop:=
 NewK (.cells ((LZ16 p0).toArray) 43) w (fun g1 w2=>NewK (.cells #[.int .i64 0,.string (⟨#[]⟩:ByteArray),.string (⟨#[]⟩:ByteArray),.string (⟨#[]⟩:ByteArray),.string (⟨#[]⟩:ByteArray),.int .i64 0,.int .i64 0,.nilIface] 36) w2 (fun g3 w4=>DrewK w4 (fun w5=>HoldK (fun S6=>InK S6 ((ad g1).add 0) (LdK (.int .i64) ((ad g1).add 0) w5 (fun (x7:Int)=>InK S6 ((ad g1).add 1) (LdK .str ((ad g1).add 1) w5 (fun (x8:ByteArray)=>InK S6 ((ad g1).add 2) (LdK .str ((ad g1).add 2) w5 (fun (x9:ByteArray)=>InK S6 ((ad g1).add 3) (LdK .str ((ad g1).add 3) w5 (fun (x10:ByteArray)=>InK S6 ((ad g1).add 4) (LdK .str ((ad g1).add 4) w5 (fun (x11:ByteArray)=>InK S6 ((ad g1).add 5) (LdK (.int .i64) ((ad g1).add 5) w5 (fun (x12:Int)=>InK S6 ((ad g1).add 6) (LdK (.int .i64) ((ad g1).add 6) w5 (fun (x13:Int)=>InK S6 ((ad g1).add 7) (LdsK KZ3 ((ad g1).add 7) w5 (fun (x14:YZ3)=>CallK Tryz.prog 71 #[.agg (LZ3 x14).toArray] w5 (.v (.one .raw)) (fun (x15:Value) w16=>KeepK S6 w5 w16 (OneK x15 (StsK (ad g3) [.int .i64 x7,.string x8,.string x9,.string x10,.string x11,.int .i64 x12,.int .i64 x13,x15] w16 (fun w17=>KeepK S6 w16 w17 (LdsK KZ14 (ad g3) w17 (fun (x18:YZ14)=>K (.agg (LZ14 x18).toArray) w17))))))))))))))))))))))))))
def pl44:Plan:=(.seq .auto (.seq (.held (.soft 0 (.soft 1 (.soft 2 (.soft 3 (.soft 4 (.soft 5 (.soft 6 (.soft 7 (.soft 8 (.soft 9 (.soft 10 (.soft 11 (.soft 12 (.soft 13 (.soft 14 (.soft 15 (.pick 16 (.soft 17 (.pick 18 .done .stop)) .stop)))))))))))))))))) .auto))
theorem c44 (p0:YZ16) (w:World) (K:Value→World→Prop) (h:C44 p0 w K):Ret Tryz.prog 44 #[.agg (LZ16 p0).toArray] w K:=z0z (by kernel_rfl) Tryz.func44 (p:=pl44) (Eq.mpr (by kernel_rfl) h)
def C51 (p0:YZ14) (w:World) (K:Value→World→Prop):Prop:=
 NewK (.cells ((LZ14 p0).toArray) 36) w (fun g1 w2=>NewK (.cells #[.int .i64 0,.string (⟨#[]⟩:ByteArray),.string (⟨#[]⟩:ByteArray),.string (⟨#[]⟩:ByteArray),.string (⟨#[]⟩:ByteArray),.int .i64 0,.int .i64 0,.int .i64 0,.string (⟨#[]⟩:ByteArray),.int .i64 0,.slice none 0 0] 43) w2 (fun g3 w4=>DrewK w4 (fun w5=>HoldK (fun S6=>InK S6 ((ad g1).add 0) (LdK (.int .i64) ((ad g1).add 0) w5 (fun (x7:Int)=>InK S6 ((ad g1).add 1) (LdK .str ((ad g1).add 1) w5 (fun (x8:ByteArray)=>InK S6 ((ad g1).add 2) (LdK .str ((ad g1).add 2) w5 (fun (x9:ByteArray)=>InK S6 ((ad g1).add 3) (LdK .str ((ad g1).add 3) w5 (fun (x10:ByteArray)=>InK S6 ((ad g1).add 4) (LdK .str ((ad g1).add 4) w5 (fun (x11:ByteArray)=>InK S6 ((ad g1).add 5) (LdK (.int .i64) ((ad g1).add 5) w5 (fun (x12:Int)=>InK S6 ((ad g1).add 6) (LdK (.int .i64) ((ad g1).add 6) w5 (fun (x13:Int)=>InK S6 ((ad g1).add 7) (LdK .raw ((ad g1).add 7) w5 (fun (x14:Value)=>CallK Tryz.prog 87 #[x14] w5 (.v (.agg KZ3)) (fun (x15:YZ3) w16=>KeepK S6 w5 w16 (StsK (ad g3) [.int .i64 x7,.string x8,.string x9,.string x10,.string x11,.int .i64 x12,.int .i64 x13,.int .i64 x15.1,.string x15.2.1,.int .i64 x15.2.2.1,.slice x15.2.2.2.1.1 x15.2.2.2.1.2.1 x15.2.2.2.1.2.2] w16 (fun w17=>KeepK S6 w16 w17 (LdsK KZ16 (ad g3) w17 (fun (x18:YZ16)=>K (.agg (LZ16 x18).toArray) w17)))))))))))))))))))))))))
def pl51:Plan:=(.seq .auto (.seq (.held (.soft 0 (.soft 1 (.soft 2 (.soft 3 (.soft 4 (.soft 5 (.soft 6 (.soft 7 (.soft 8 (.soft 9 (.soft 10 (.soft 11 (.soft 12 (.soft 13 (.soft 14 (.soft 15 (.pick 16 (.soft 17 (.pick 18 .done .stop)) .stop)))))))))))))))))) .auto))
theorem c51 (p0:YZ14) (w:World) (K:Value→World→Prop) (h:C51 p0 w K):Ret Tryz.prog 51 #[.agg (LZ14 p0).toArray] w K:=z0z (by kernel_rfl) Tryz.func51 (p:=pl51) (Eq.mpr (by kernel_rfl) h)
abbrev EK:List Ck:=[.int .i64,.str,.str,.str,.str,.int .i64,.int .i64,.raw]
abbrev ERK:List Ck:=[.int .i64,.str,.str,.str,.str,.int .i64,.int .i64,.int .i64,.str,.int .i64,.slc]
def evL (e:EvT):List Value:=[.int .i64 e.1,.string e.2.1,.string e.2.2.1,.string e.2.2.2.1,.string e.2.2.2.2.1,.int .i64 e.2.2.2.2.2.1,.int .i64 e.2.2.2.2.2.2.1,e.2.2.2.2.2.2.2.1]
theorem evL_one {e:EvT} (h:one1 e.2.2.2.2.2.2.2.1=true):(evL e).all one1=true:=by
 show (one1 (.int .i64 _)&&(one1 (.string _)&&(one1 (.string _)&&(one1 (.string _)&&(one1 (.string _)&&(one1 (.int .i64 _)&&(one1 (.int .i64 _)&&(one1 e.2.2.2.2.2.2.2.1&&true))))))))=true
 rw [h];rfl
theorem tv_at {w:World} {g:Nat} {x:EvR} {T:TypeId} (hb:w.heap[g]? = some (.cells (evRL x).toArray T (0,0))) {K:TV→Prop} (k:K (x.2.2.2.2.2.2.2.1,x.2.2.2.2.2.2.2.2.1,x.2.2.2.2.2.2.2.2.2.1,x.2.2.2.2.2.2.2.2.2.2.1,())):LdsK TVK ((⟨g,0,none⟩:Addr).add 7) w K:=
 ⟨(x.2.2.2.2.2.2.2.1,x.2.2.2.2.2.2.2.2.1,x.2.2.2.2.2.2.2.2.2.1,x.2.2.2.2.2.2.2.2.2.2.1,()),z10z (m:=7) _ 0 (z12z hb _ 7 fun j hj=>(by
  match j,hj with
  | 0,_=>rfl
  | 1,_=>rfl
  | 2,_=>rfl
  | 3,_=>rfl
  | j+4,h=>exact absurd h (by show ¬ j+4<4;omega))),k⟩
theorem back_spec (e:EvT) (t:Tm) (he:e.2.2.2.2.2.2.2.1=t.v) {w:World} {S:Nat→Prop} {v:TV} (h:IsTr w S (trT t) v) :
  Ret Tryz.prog 44 #[evRA (evR e v)] w fun r w'=>r=evA e∧Fr none1 w w':=by
 refine c44 (evR e v) w _ ?_
 unfold C44
 refine NewK.of fun g w1 hg hb f1 hs1=>NewK.of fun g3 w2 hg3 hb3 f2 hs2=>?_
 have hb2:=f2.keep0 hb
 refine DrewK.of fun w3 _ f3=>HoldK.of (fun k=>k≠g3) ?_
 have hb3':=f3.keep0 hb2
 have hn:g≠g3:=by omega
 refine ⟨by rw [z2z];exact hn,LdK.fld hb3' (x:=e.1) rfl ?_⟩
 refine ⟨by rw [z2z];exact hn,LdK.fld hb3' (x:=e.2.1) rfl ?_⟩
 refine ⟨by rw [z2z];exact hn,LdK.fld hb3' (x:=e.2.2.1) rfl ?_⟩
 refine ⟨by rw [z2z];exact hn,LdK.fld hb3' (x:=e.2.2.2.1) rfl ?_⟩
 refine ⟨by rw [z2z];exact hn,LdK.fld hb3' (x:=e.2.2.2.2.1) rfl ?_⟩
 refine ⟨by rw [z2z];exact hn,LdK.fld hb3' (x:=e.2.2.2.2.2.1) rfl ?_⟩
 refine ⟨by rw [z2z];exact hn,LdK.fld hb3' (x:=e.2.2.2.2.2.2.1) rfl ?_⟩
 refine ⟨by rw [z2z];exact hn,tv_at (x:=evR e v) hb3' ?_⟩
 have f13:=(f1.trans f2).trans f3
 refine CallK.of (z26z t (h.keep0 f13)) ?_
 rintro _ w4 ⟨rfl,f4⟩
 refine ⟨_,rfl,KeepK.of f4 ⟨Tm.cell1 t,?_⟩⟩
 refine StsK.blk (cs:=[.int .i64 0,.string (⟨#[]⟩:ByteArray),.string (⟨#[]⟩:ByteArray),.string (⟨#[]⟩:ByteArray),.string (⟨#[]⟩:ByteArray),.int .i64 0,.int .i64 0,.nilIface]) (vs:=[.int .i64 e.1,.string e.2.1,.string e.2.2.1,.string e.2.2.2.1,.string e.2.2.2.2.1,.int .i64 e.2.2.2.2.2.1,.int .i64 e.2.2.2.2.2.2.1,t.v]) ((f3.trans f4).keep0 hb3) rfl (by
  have:=evL_one (e:=e) (by rw [he];exact Tm.v_one t)
  unfold evL at this;rw [he] at this;exact this) fun w5 hb5 f5 _=>KeepK.on f5 (fun k hk t=>hk t) ?_
 rw [← he] at hb5
 exact LdsK.blk (cks:=EK) (x:=e) hb5 ⟨rfl,(f13.trans f4).fresh f5 (by have:=f1.size;omega)⟩
theorem event_of_spec (e:EvT) (t:Tm) (he:e.2.2.2.2.2.2.2.1=t.v) (w:World) :
  Ret Tryz.prog 51 #[evA e] w fun r w'=>∃ v:TV,r=evRA (evR e v)∧Made w w' (trT t) v∧Fr none1 w w':=by
 refine c51 e w _ ?_
 unfold C51
 refine NewK.of fun g w1 hg hb f1 hs1=>NewK.of fun g3 w2 hg3 hb3 f2 hs2=>?_
 have hb2:=f2.keep0 hb
 refine DrewK.of fun w3 _ f3=>HoldK.of (fun k=>k≠g3) ?_
 have hb3':=f3.keep0 hb2
 have hn:g≠g3:=by omega
 refine ⟨by rw [z2z];exact hn,LdK.fld hb3' (x:=e.1) rfl ?_⟩
 refine ⟨by rw [z2z];exact hn,LdK.fld hb3' (x:=e.2.1) rfl ?_⟩
 refine ⟨by rw [z2z];exact hn,LdK.fld hb3' (x:=e.2.2.1) rfl ?_⟩
 refine ⟨by rw [z2z];exact hn,LdK.fld hb3' (x:=e.2.2.2.1) rfl ?_⟩
 refine ⟨by rw [z2z];exact hn,LdK.fld hb3' (x:=e.2.2.2.2.1) rfl ?_⟩
 refine ⟨by rw [z2z];exact hn,LdK.fld hb3' (x:=e.2.2.2.2.2.1) rfl ?_⟩
 refine ⟨by rw [z2z];exact hn,LdK.fld hb3' (x:=e.2.2.2.2.2.2.1) rfl ?_⟩
 refine ⟨by rw [z2z];exact hn,LdK.fld (c:=.raw) hb3' (x:=e.2.2.2.2.2.2.2.1) rfl ?_⟩
 have f13:=(f1.trans f2).trans f3
 rw [he]
 refine CallK.of (plainT_spec t w3) ?_
 rintro _ w4 ⟨v,rfl,mv,f4⟩
 refine ⟨v,rfl,KeepK.of f4 ?_⟩
 have s3:=f3.size
 have s13:=f13.size
 refine StsK.blk (cs:=evRL (0,(⟨#[]⟩:ByteArray),(⟨#[]⟩:ByteArray),(⟨#[]⟩:ByteArray),(⟨#[]⟩:ByteArray),0,0,0,(⟨#[]⟩:ByteArray),0,(none,0,0),())) (vs:=evRL (evR e v)) ((f3.trans f4).keep0 hb3) rfl rfl fun w5 hb5 f5 _=>KeepK.on f5 (fun k hk t=>hk t) ?_
 refine LdsK.blk (cks:=ERK) (x:=evR e v) hb5 ⟨v,rfl,?_,(f13.trans f4).fresh f5 (by have:=f1.size;omega)⟩
 exact (mv.keep f5 fun k hk _ t=>by have:k=g3:=t;omega).older s13
def C215 (p0:Addr) (w:World) (K:Value→World→Prop):Prop:=
 LdK .slc (p0.add 0) w (fun (x1:SlT)=>ifB (decide ((x1.2.1:Int) > 0))
 (LdK .slc (p0.add 0) w (fun (x2:SlT)=>IdxK x2.1 x2.2.1 0 2 (fun a3=>LdK (.int .i64) (a3.add 1) w (fun (x4:Int)=>K (.int .i64 x4) w))))
 (LdK (.int .i64) (p0.add 1) w (fun (x5:Int)=>K (.int .i64 x5) w)))
def pl215:Plan:=.auto
theorem c215 (p0:Addr) (w:World) (K:Value→World→Prop) (h:C215 p0 w K):Ret Tryz.prog 215 #[.pointer (some p0)] w K:=z0z (by kernel_rfl) Tryz.func215 (p:=pl215) (Eq.mpr (by kernel_rfl) h)
def C198 (p0:Addr) (p1:Int) (w:World) (K:Value→World→Prop):Prop:=
 LdK (.int .i64) (p0.add 3) w (fun (x1:Int)=>ifB (x1==0)
 (CallK Tryz.prog 215 #[.pointer (some p0)] w (.v (.one (.int .i64))) (fun (x2:Int) w3=>StK (p0.add 3) (.int .i64 p1) w3 (fun w4=>StK (p0.add 2) (.int .i64 x2) w4 (fun w5=>K (.tuple #[]) w5))))
 (K (.tuple #[]) w))
def pl198:Plan:=.auto
theorem c198 (p0:Addr) (p1:Int) (w:World) (K:Value→World→Prop) (h:C198 p0 p1 w K):Ret Tryz.prog 198 #[.pointer (some p0),.int .i64 p1] w K:=z0z (by kernel_rfl) Tryz.func198 (p:=pl198) (Eq.mpr (by kernel_rfl) h)
def C190 (p0:Addr) (p1:Value) (w:World) (K:Value→World→Prop):Prop:=
 JoinK (Bool×Unit) (fun J1=>LdK (.int .i64) (p0.add 3) w (fun (x4:Int)=>ifB (x4==0)
 (LdK .slc (p0.add 0) w (fun (x5:SlT)=>ifB ((x5.2.1:Int)==0)
 (J1 (true,()) w)
 (LdK .slc (p0.add 0) w (fun (x6:SlT)=>IdxK x6.1 x6.2.1 0 2 (fun a7=>LdK .str (a7.add 0) w (fun (x8:ByteArray)=>callV Tryz.prog p1 [.string x8] (.v (.one .bool)) w (fun (x9:Bool) w10=>J1 ((!x9),()) w10)))))))
 (J1 (false,()) w)))
 (fun _ s2 w3=>ifB s2.1
 (CallK Tryz.prog 198 #[.pointer (some p0),.int .i64 2] w3 (.tup []) (fun (x11:Unit) w12=>LdK (.int .i64) (p0.add 3) w12 (fun (x13:Int)=>ifB (x13 != 0)
 (K (.string (⟨#[]⟩:ByteArray)) w12)
 (LdK .slc (p0.add 0) w12 (fun (x14:SlT)=>IdxK x14.1 x14.2.1 0 2 (fun a15=>LdK .str (a15.add 0) w12 (fun (x16:ByteArray)=>LdK .slc (p0.add 0) w12 (fun (x17:SlT)=>SubK x17.1 x17.2.2 1 x17.2.1 x17.2.2 2 (fun a18 l19 c20=>StK (p0.add 0) (.slice a18 l19 c20) w12 (fun w21=>K (.string x16) w21))))))))))
 (LdK (.int .i64) (p0.add 3) w3 (fun (x22:Int)=>ifB (x22 != 0)
 (K (.string (⟨#[]⟩:ByteArray)) w3)
 (LdK .slc (p0.add 0) w3 (fun (x23:SlT)=>IdxK x23.1 x23.2.1 0 2 (fun a24=>LdK .str (a24.add 0) w3 (fun (x25:ByteArray)=>LdK .slc (p0.add 0) w3 (fun (x26:SlT)=>SubK x26.1 x26.2.2 1 x26.2.1 x26.2.2 2 (fun a27 l28 c29=>StK (p0.add 0) (.slice a27 l28 c29) w3 (fun w30=>K (.string x25) w30))))))))))
def pl190:Plan:=(.seq .auto (.seq (.join [(30,.one .bool)] .auto .auto) .auto))
theorem c190 (p0:Addr) (p1:Value) (w:World) (K:Value→World→Prop) (h:C190 p0 p1 w K):Ret Tryz.prog 190 #[.pointer (some p0),p1] w K:=z0z (by kernel_rfl) Tryz.func190 (p:=pl190) (Eq.mpr (by kernel_rfl) h)
def C192 (p0:Addr) (p1:ByteArray) (w:World) (K:Value→World→Prop):Prop:=
 NewK (.cells #[.string p1] 9) w (fun g1 w2=>CallK Tryz.prog 190 #[.pointer (some p0),.func (.func 210) #[] #[.pointer (some (ad g1))]] w2 (.v (.one .str)) (fun (x3:ByteArray) w4=>K (.tuple #[]) w4))
def pl192:Plan:=.auto
theorem c192 (p0:Addr) (p1:ByteArray) (w:World) (K:Value→World→Prop) (h:C192 p0 p1 w K):Ret Tryz.prog 192 #[.pointer (some p0),.string p1] w K:=z0z (by kernel_rfl) Tryz.func192 (p:=pl192) (Eq.mpr (by kernel_rfl) h)
def C210 (p0:ByteArray) (c0:Addr) (w:World) (K:Value→World→Prop):Prop:=
 LdK .str c0 w (fun (x1:ByteArray)=>K (.bool (p0.toList==x1.toList)) w)
def pl210:Plan:=.auto
theorem c210 (p0:ByteArray) (c0:Addr) (w:World) (K:Value→World→Prop) (h:C210 p0 c0 w K):Ret Tryz.prog 210 #[.string p0,.pointer (some c0)] w K:=z0z (by kernel_rfl) Tryz.func210 (p:=pl210) (Eq.mpr (by kernel_rfl) h)
def C193 (p0:Addr) (w:World) (K:Value→World→Prop):Prop:=
 CallK Tryz.prog 190 #[.pointer (some p0),.func (.func 94) #[] #[]] w (.v (.one .str)) (fun (x1:ByteArray) w2=>K (.string x1) w2)
def pl193:Plan:=.auto
theorem c193 (p0:Addr) (w:World) (K:Value→World→Prop) (h:C193 p0 w K):Ret Tryz.prog 193 #[.pointer (some p0)] w K:=z0z (by kernel_rfl) Tryz.func193 (p:=pl193) (Eq.mpr (by kernel_rfl) h)
def C189 (p0:Addr) (p1:Int) (w:World) (K:Value→World→Prop):Prop:=
 ifB (decide (p1 ≥ 12))
 (CallK Tryz.prog 198 #[.pointer (some p0),.int .i64 5] w (.tup []) (fun (x1:Unit) w2=>LdK (.int .i64) (p0.add 3) w2 (fun (x3:Int)=>K (.bool (x3 != 0)) w2)))
 (LdK (.int .i64) (p0.add 3) w (fun (x4:Int)=>K (.bool (x4 != 0)) w))
def pl189:Plan:=.auto
theorem c189 (p0:Addr) (p1:Int) (w:World) (K:Value→World→Prop) (h:C189 p0 p1 w K):Ret Tryz.prog 189 #[.pointer (some p0),.int .i64 p1] w K:=z0z (by kernel_rfl) Tryz.func189 (p:=pl189) (Eq.mpr (by kernel_rfl) h)
def C212 (p0:Addr) (p1:Int) (w:World) (K:Value→World→Prop):Prop:=
 CallK Tryz.prog 192 #[.pointer (some p0),.string (⟨#[40]⟩:ByteArray)] w (.tup []) (fun (x1:Unit) w2=>CallK Tryz.prog 196 #[.pointer (some p0),.int .i64 p1] w2 (.v (.one .raw)) (fun (x3:Value) w4=>CallK Tryz.prog 192 #[.pointer (some p0),.string (⟨#[44]⟩:ByteArray)] w4 (.tup []) (fun (x5:Unit) w6=>CallK Tryz.prog 196 #[.pointer (some p0),.int .i64 p1] w6 (.v (.one .raw)) (fun (x7:Value) w8=>CallK Tryz.prog 192 #[.pointer (some p0),.string (⟨#[41]⟩:ByteArray)] w8 (.tup []) (fun (x9:Unit) w10=>K (.tuple #[x3,x7]) w10)))))
def pl212:Plan:=.auto
theorem c212 (p0:Addr) (p1:Int) (w:World) (K:Value→World→Prop) (h:C212 p0 p1 w K):Ret Tryz.prog 212 #[.pointer (some p0),.int .i64 p1] w K:=z0z (by kernel_rfl) Tryz.func212 (p:=pl212) (Eq.mpr (by kernel_rfl) h)
def C196 (p0:Addr) (p1:Int) (w:World) (K:Value→World→Prop):Prop:=
 CallK Tryz.prog 189 #[.pointer (some p0),.int .i64 p1] w (.v (.one .bool)) (fun (x1:Bool) w2=>ifB x1
 (K .nilIface w2)
 (CallK Tryz.prog 190 #[.pointer (some p0),.func (.func 211) #[] #[]] w2 (.v (.one .str)) (fun (x3:ByteArray) w4=>ifB (x3.toList==(⟨#[]⟩:ByteArray).toList)
 (K .nilIface w4)
 (ifB (x3.toList==(⟨#[102,105,120]⟩:ByteArray).toList)
 (CallK Tryz.prog 192 #[.pointer (some p0),.string (⟨#[40]⟩:ByteArray)] w4 (.tup []) (fun (x5:Unit) w6=>CallK Tryz.prog 193 #[.pointer (some p0)] w6 (.v (.one .str)) (fun (x7:ByteArray) w8=>NewK (.cells #[.string (⟨#[]⟩:ByteArray)] 210) w8 (fun g9 w10=>StsK (ad g9) [.string x7] w10 (fun w11=>CallK Tryz.prog 192 #[.pointer (some p0),.string (⟨#[41]⟩:ByteArray)] w11 (.tup []) (fun (x12:Unit) w13=>LdsK [.str] (ad g9) w13 (fun (x14:ByteArray×Unit)=>K (.iface 210 (.agg #[.string x14.1])) w13)))))))
 (ifB (x3.toList==(⟨#[110,101,103]⟩:ByteArray).toList)
 (CallK Tryz.prog 192 #[.pointer (some p0),.string (⟨#[40]⟩:ByteArray)] w4 (.tup []) (fun (x15:Unit) w16=>CallK Tryz.prog 196 #[.pointer (some p0),.int .i64 (IntKind.i64.wrap (p1+1))] w16 (.v (.one .raw)) (fun (x17:Value) w18=>OneK x17 (NewK (.cells #[.nilIface] 254) w18 (fun g19 w20=>StsK (ad g19) [x17] w20 (fun w21=>CallK Tryz.prog 192 #[.pointer (some p0),.string (⟨#[41]⟩:ByteArray)] w21 (.tup []) (fun (x22:Unit) w23=>LdsK [.raw] (ad g19) w23 (fun (x24:Value×Unit)=>K (.iface 254 (.agg #[x24.1])) w23))))))))
 (ifB (x3.toList==(⟨#[97,100,100]⟩:ByteArray).toList)
 (CallK Tryz.prog 212 #[.pointer (some p0),.int .i64 (IntKind.i64.wrap (p1+1))] w4 (.tup [.one .raw,.one .raw]) (fun (x25:Value×Value×Unit) w26=>OneK x25.1 (OneK x25.2.1 (K (.iface 252 (.agg #[x25.1,x25.2.1])) w26))))
 (ifB (x3.toList==(⟨#[109,117,108]⟩:ByteArray).toList)
 (CallK Tryz.prog 212 #[.pointer (some p0),.int .i64 (IntKind.i64.wrap (p1+1))] w4 (.tup [.one .raw,.one .raw]) (fun (x27:Value×Value×Unit) w28=>OneK x27.1 (OneK x27.2.1 (K (.iface 255 (.agg #[x27.1,x27.2.1])) w28))))
 (ifB (x3.toList==(⟨#[109,97,120]⟩:ByteArray).toList)
 (CallK Tryz.prog 212 #[.pointer (some p0),.int .i64 (IntKind.i64.wrap (p1+1))] w4 (.tup [.one .raw,.one .raw]) (fun (x29:Value×Value×Unit) w30=>OneK x29.1 (OneK x29.2.1 (K (.iface 256 (.agg #[x29.1,x29.2.1])) w30))))
 (CallK Tryz.prog 213 #[.string x3] w4 (.tup [.one (.int .i64),.one .bool]) (fun (x31:Int×Bool×Unit) w32=>K (.iface 108 (.agg #[.int .i64 x31.1])) w32))))))))))
def pl196:Plan:=.auto
theorem c196 (p0:Addr) (p1:Int) (w:World) (K:Value→World→Prop) (h:C196 p0 p1 w K):Ret Tryz.prog 196 #[.pointer (some p0),.int .i64 p1] w K:=z0z (by kernel_rfl) Tryz.func196 (p:=pl196) (Eq.mpr (by kernel_rfl) h)
def C197 (p0:Addr) (w:World) (K:Value→World→Prop):Prop:=
 CallK Tryz.prog 190 #[.pointer (some p0),.func (.func 214) #[] #[]] w (.v (.one .str)) (fun (x1:ByteArray) w2=>CallK Tryz.prog 213 #[.string x1] w2 (.tup [.one (.int .i64),.one .bool]) (fun (x3:Int×Bool×Unit) w4=>K (.int .i64 x3.1) w4))
def pl197:Plan:=.auto
theorem c197 (p0:Addr) (w:World) (K:Value→World→Prop) (h:C197 p0 w K):Ret Tryz.prog 197 #[.pointer (some p0)] w K:=z0z (by kernel_rfl) Tryz.func197 (p:=pl197) (Eq.mpr (by kernel_rfl) h)
def C214 (p0:ByteArray) (w:World) (K:Value→World→Prop):Prop:=
 CallK Tryz.prog 213 #[.string p0] w (.tup [.one (.int .i64),.one .bool]) (fun (x1:Int×Bool×Unit) w2=>ifB x1.2.1
 (ifB (decide (x1.1 ≥ 0))
 (K (.bool (decide (x1.1≤10000))) w2)
 (K (.bool false) w2))
 (K (.bool false) w2))
def pl214:Plan:=.auto
theorem c214 (p0:ByteArray) (w:World) (K:Value→World→Prop) (h:C214 p0 w K):Ret Tryz.prog 214 #[.string p0] w K:=z0z (by kernel_rfl) Tryz.func214 (p:=pl214) (Eq.mpr (by kernel_rfl) h)
def C195 (p0:Addr) (p1:Int) (w:World) (K:Value→World→Prop):Prop:=
 CallK Tryz.prog 171 #[.pointer (some p0),.int .i64 p1] w (.v (.one .raw)) (fun (x1:Value) w2=>CallK Tryz.prog 192 #[.pointer (some p0),.string (⟨#[44]⟩:ByteArray)] w2 (.tup []) (fun (x3:Unit) w4=>CallK Tryz.prog 171 #[.pointer (some p0),.int .i64 p1] w4 (.v (.one .raw)) (fun (x5:Value) w6=>CallK Tryz.prog 192 #[.pointer (some p0),.string (⟨#[41]⟩:ByteArray)] w6 (.tup []) (fun (x7:Unit) w8=>K (.tuple #[x1,x5]) w8))))
def pl195:Plan:=.auto
theorem c195 (p0:Addr) (p1:Int) (w:World) (K:Value→World→Prop) (h:C195 p0 p1 w K):Ret Tryz.prog 195 #[.pointer (some p0),.int .i64 p1] w K:=z0z (by kernel_rfl) Tryz.func195 (p:=pl195) (Eq.mpr (by kernel_rfl) h)
def C194 (p0:Addr) (p1:Int) (w:World) (K:Value→World→Prop):Prop:=
 CallK Tryz.prog 171 #[.pointer (some p0),.int .i64 p1] w (.v (.one .raw)) (fun (x1:Value) w2=>CallK Tryz.prog 192 #[.pointer (some p0),.string (⟨#[41]⟩:ByteArray)] w2 (.tup []) (fun (x3:Unit) w4=>K x1 w4))
def pl194:Plan:=.auto
theorem c194 (p0:Addr) (p1:Int) (w:World) (K:Value→World→Prop) (h:C194 p0 p1 w K):Ret Tryz.prog 194 #[.pointer (some p0),.int .i64 p1] w K:=z0z (by kernel_rfl) Tryz.func194 (p:=pl194) (Eq.mpr (by kernel_rfl) h)
def C171 (p0:Addr) (p1:Int) (w:World) (K:Value→World→Prop):Prop:=
 CallK Tryz.prog 189 #[.pointer (some p0),.int .i64 p1] w (.v (.one .bool)) (fun (x1:Bool) w2=>ifB x1
 (K .nilIface w2)
 (CallK Tryz.prog 190 #[.pointer (some p0),.func (.func 191) #[] #[]] w2 (.v (.one .str)) (fun (x3:ByteArray) w4=>ifB (x3.toList==(⟨#[]⟩:ByteArray).toList)
 (K (.iface 188 (.agg #[])) w4)
 (ifB (x3.toList==(⟨#[122,101,114,111]⟩:ByteArray).toList)
 (K (.iface 188 (.agg #[])) w4)
 (CallK Tryz.prog 192 #[.pointer (some p0),.string (⟨#[40]⟩:ByteArray)] w4 (.tup []) (fun (x5:Unit) w6=>ifB (x3.toList==(⟨#[111,110,101]⟩:ByteArray).toList)
 (CallK Tryz.prog 193 #[.pointer (some p0)] w6 (.v (.one .str)) (fun (x7:ByteArray) w8=>NewK (.cells #[.string (⟨#[]⟩:ByteArray)] 102) w8 (fun g9 w10=>StsK (ad g9) [.string x7] w10 (fun w11=>CallK Tryz.prog 192 #[.pointer (some p0),.string (⟨#[41]⟩:ByteArray)] w11 (.tup []) (fun (x12:Unit) w13=>LdsK [.str] (ad g9) w13 (fun (x14:ByteArray×Unit)=>K (.iface 102 (.agg #[.string x14.1])) w13))))))
 (ifB (x3.toList==(⟨#[103,105,118,101]⟩:ByteArray).toList)
 (CallK Tryz.prog 194 #[.pointer (some p0),.int .i64 (IntKind.i64.wrap (p1+1))] w6 (.v (.one .raw)) (fun (x15:Value) w16=>OneK x15 (K (.iface 190 (.agg #[x15])) w16)))
 (ifB (x3.toList==(⟨#[97,110,100]⟩:ByteArray).toList)
 (CallK Tryz.prog 195 #[.pointer (some p0),.int .i64 (IntKind.i64.wrap (p1+1))] w6 (.tup [.one .raw,.one .raw]) (fun (x17:Value×Value×Unit) w18=>OneK x17.1 (OneK x17.2.1 (K (.iface 192 (.agg #[x17.1,x17.2.1])) w18))))
 (ifB (x3.toList==(⟨#[111,114]⟩:ByteArray).toList)
 (CallK Tryz.prog 193 #[.pointer (some p0)] w6 (.v (.one .str)) (fun (x19:ByteArray) w20=>NewK (.cells #[.string (⟨#[]⟩:ByteArray),.nilIface,.nilIface] 194) w20 (fun g21 w22=>StsK (ad g21) [.string x19,.nilIface,.nilIface] w22 (fun w23=>CallK Tryz.prog 192 #[.pointer (some p0),.string (⟨#[44]⟩:ByteArray)] w23 (.tup []) (fun (x24:Unit) w25=>CallK Tryz.prog 195 #[.pointer (some p0),.int .i64 (IntKind.i64.wrap (p1+1))] w25 (.tup [.one .raw,.one .raw]) (fun (x26:Value×Value×Unit) w27=>OneK x26.1 (StsK ((ad g21).add 1) [x26.1] w27 (fun w28=>OneK x26.2.1 (StsK ((ad g21).add 2) [x26.2.1] w28 (fun w29=>LdsK [.str,.raw,.raw] (ad g21) w29 (fun (x30:ByteArray×Value×Value×Unit)=>K (.iface 194 (.agg #[.string x30.1,x30.2.1,x30.2.2.1])) w29)))))))))))
 (ifB (x3.toList==(⟨#[115,99,97,108,101]⟩:ByteArray).toList)
 (CallK Tryz.prog 196 #[.pointer (some p0),.int .i64 (IntKind.i64.wrap (p1+1))] w6 (.v (.one .raw)) (fun (x31:Value) w32=>OneK x31 (NewK (.cells #[.nilIface,.nilIface] 197) w32 (fun g33 w34=>StsK (ad g33) [x31,.nilIface] w34 (fun w35=>CallK Tryz.prog 192 #[.pointer (some p0),.string (⟨#[44]⟩:ByteArray)] w35 (.tup []) (fun (x36:Unit) w37=>CallK Tryz.prog 194 #[.pointer (some p0),.int .i64 (IntKind.i64.wrap (p1+1))] w37 (.v (.one .raw)) (fun (x38:Value) w39=>OneK x38 (StsK ((ad g33).add 1) [x38] w39 (fun w40=>LdsK [.raw,.raw] (ad g33) w40 (fun (x41:Value×Value×Unit)=>K (.iface 197 (.agg #[x41.1,x41.2.1])) w40))))))))))
 (ifB (x3.toList==(⟨#[119,104,101,110]⟩:ByteArray).toList)
 (CallK Tryz.prog 197 #[.pointer (some p0)] w6 (.v (.one (.int .i64))) (fun (x42:Int) w43=>NewK (.cells #[.int .i64 0,.nilIface] 199) w43 (fun g44 w45=>StsK (ad g44) [.int .i64 x42,.nilIface] w45 (fun w46=>CallK Tryz.prog 192 #[.pointer (some p0),.string (⟨#[44]⟩:ByteArray)] w46 (.tup []) (fun (x47:Unit) w48=>CallK Tryz.prog 194 #[.pointer (some p0),.int .i64 (IntKind.i64.wrap (p1+1))] w48 (.v (.one .raw)) (fun (x49:Value) w50=>OneK x49 (StsK ((ad g44).add 1) [x49] w50 (fun w51=>LdsK [.int .i64,.raw] (ad g44) w51 (fun (x52:Int×Value×Unit)=>K (.iface 199 (.agg #[.int .i64 x52.1,x52.2.1])) w51)))))))))
 (CallK Tryz.prog 196 #[.pointer (some p0),.int .i64 (IntKind.i64.wrap (p1+1))] w6 (.v (.one .raw)) (fun (x53:Value) w54=>OneK x53 (NewK (.cells #[.nilIface,.nilIface,.nilIface] 201) w54 (fun g55 w56=>StsK (ad g55) [x53,.nilIface,.nilIface] w56 (fun w57=>CallK Tryz.prog 192 #[.pointer (some p0),.string (⟨#[44]⟩:ByteArray)] w57 (.tup []) (fun (x58:Unit) w59=>CallK Tryz.prog 195 #[.pointer (some p0),.int .i64 (IntKind.i64.wrap (p1+1))] w59 (.tup [.one .raw,.one .raw]) (fun (x60:Value×Value×Unit) w61=>OneK x60.1 (StsK ((ad g55).add 1) [x60.1] w61 (fun w62=>OneK x60.2.1 (StsK ((ad g55).add 2) [x60.2.1] w62 (fun w63=>LdsK [.raw,.raw,.raw] (ad g55) w63 (fun (x64:Value×Value×Value×Unit)=>K (.iface 201 (.agg #[x64.1,x64.2.1,x64.2.2.1])) w63)))))))))))))))))))))))
def pl171:Plan:=.auto
theorem c171 (p0:Addr) (p1:Int) (w:World) (K:Value→World→Prop) (h:C171 p0 p1 w K):Ret Tryz.prog 171 #[.pointer (some p0),.int .i64 p1] w K:=z0z (by kernel_rfl) Tryz.func171 (p:=pl171) (Eq.mpr (by kernel_rfl) h)
def C172 (p0:Addr) (w:World) (K:Value→World→Prop):Prop:=
 LdK .slc (p0.add 0) w (fun (x1:SlT)=>ifB (decide ((x1.2.1:Int) > 0))
 (CallK Tryz.prog 198 #[.pointer (some p0),.int .i64 2] w (.tup []) (fun (x2:Unit) w3=>K (.tuple #[]) w3))
 (K (.tuple #[]) w))
def pl172:Plan:=.auto
theorem c172 (p0:Addr) (w:World) (K:Value→World→Prop) (h:C172 p0 w K):Ret Tryz.prog 172 #[.pointer (some p0)] w K:=z0z (by kernel_rfl) Tryz.func172 (p:=pl172) (Eq.mpr (by kernel_rfl) h)
def C211 (p0:ByteArray) (w:World) (K:Value→World→Prop):Prop:=
 CallK Tryz.prog 213 #[.string p0] w (.tup [.one (.int .i64),.one .bool]) (fun (x1:Int×Bool×Unit) w2=>ifB x1.2.1
 (K (.bool true) w2)
 (ifB (p0.toList==(⟨#[102,105,120]⟩:ByteArray).toList)
 (K (.bool true) w2)
 (ifB (p0.toList==(⟨#[97,100,100]⟩:ByteArray).toList)
 (K (.bool true) w2)
 (ifB (p0.toList==(⟨#[110,101,103]⟩:ByteArray).toList)
 (K (.bool true) w2)
 (ifB (p0.toList==(⟨#[109,117,108]⟩:ByteArray).toList)
 (K (.bool true) w2)
 (K (.bool (p0.toList==(⟨#[109,97,120]⟩:ByteArray).toList)) w2))))))
def pl211:Plan:=.auto
theorem c211 (p0:ByteArray) (w:World) (K:Value→World→Prop) (h:C211 p0 w K):Ret Tryz.prog 211 #[.string p0] w K:=z0z (by kernel_rfl) Tryz.func211 (p:=pl211) (Eq.mpr (by kernel_rfl) h)
def C191 (p0:ByteArray) (w:World) (K:Value→World→Prop):Prop:=
 ifB (p0.toList==(⟨#[122,101,114,111]⟩:ByteArray).toList)
 (ifB (p0.toList==(⟨#[122,101,114,111]⟩:ByteArray).toList)
 (K (.bool true) w)
 (K (.bool false) w))
 (ifB (p0.toList==(⟨#[111,110,101]⟩:ByteArray).toList)
 (ifB (p0.toList==(⟨#[111,110,101]⟩:ByteArray).toList)
 (K (.bool true) w)
 (K (.bool false) w))
 (ifB (p0.toList==(⟨#[103,105,118,101]⟩:ByteArray).toList)
 (ifB (p0.toList==(⟨#[103,105,118,101]⟩:ByteArray).toList)
 (K (.bool true) w)
 (K (.bool false) w))
 (ifB (p0.toList==(⟨#[97,110,100]⟩:ByteArray).toList)
 (ifB (p0.toList==(⟨#[97,110,100]⟩:ByteArray).toList)
 (K (.bool true) w)
 (K (.bool false) w))
 (ifB (p0.toList==(⟨#[111,114]⟩:ByteArray).toList)
 (ifB (p0.toList==(⟨#[111,114]⟩:ByteArray).toList)
 (K (.bool true) w)
 (K (.bool false) w))
 (ifB (p0.toList==(⟨#[115,99,97,108,101]⟩:ByteArray).toList)
 (ifB (p0.toList==(⟨#[115,99,97,108,101]⟩:ByteArray).toList)
 (K (.bool true) w)
 (K (.bool false) w))
 (ifB (p0.toList==(⟨#[119,104,101,110]⟩:ByteArray).toList)
 (ifB (p0.toList==(⟨#[119,104,101,110]⟩:ByteArray).toList)
 (K (.bool true) w)
 (K (.bool false) w))
 (ifB (p0.toList==(⟨#[105,102]⟩:ByteArray).toList)
 (K (.bool true) w)
 (K (.bool false) w))))))))
def pl191:Plan:=.auto
theorem c191 (p0:ByteArray) (w:World) (K:Value→World→Prop) (h:C191 p0 w K):Ret Tryz.prog 191 #[.string p0] w K:=z0z (by kernel_rfl) Tryz.func191 (p:=pl191) (Eq.mpr (by kernel_rfl) h)
def C170 (p0:ByteArray) (w:World) (K:Value→World→Prop):Prop:=
 CallK Tryz.prog 187 #[.string p0] w (.v (.one (.int .i64))) (fun (x1:Int) w2=>NewK (.cells #[.slice none 0 0,.int .i64 (IntKind.i64.wrap (x1+1)),.int .i64 0,.int .i64 0] 303) w2 (fun g3 w4=>ifB (decide ((p0.size:Int) > 1000))
 (StK ((ad g3).add 3) (.int .i64 5) w4 (fun w5=>K (.pointer (some (ad g3))) w5))
 (CallK Tryz.prog 188 #[.string p0] w4 (.tup [.one .slc,.one (.int .i64)]) (fun (x6:SlT×Int×Unit) w7=>ifB (decide (x6.2.1 > 0))
 (StK ((ad g3).add 3) (.int .i64 2) w7 (fun w8=>StK ((ad g3).add 2) (.int .i64 x6.2.1) w8 (fun w9=>StK ((ad g3).add 0) (.slice x6.1.1 x6.1.2.1 x6.1.2.2) w9 (fun w10=>K (.pointer (some (ad g3))) w10))))
 (StK ((ad g3).add 0) (.slice x6.1.1 x6.1.2.1 x6.1.2.2) w7 (fun w11=>K (.pointer (some (ad g3))) w11))))))
def pl170:Plan:=.auto
theorem c170 (p0:ByteArray) (w:World) (K:Value→World→Prop) (h:C170 p0 w K):Ret Tryz.prog 170 #[.string p0] w K:=z0z (by kernel_rfl) Tryz.func170 (p:=pl170) (Eq.mpr (by kernel_rfl) h)
def C157 (p0:ByteArray) (w:World) (K:Value→World→Prop):Prop:=
 CallK Tryz.prog 170 #[.string p0] w (.v (.one .ptr)) (fun (x1:Option Addr) w2=>CallK Tryz.prog 171 #[.pointer x1,.int .i64 0] w2 (.v (.one .raw)) (fun (x3:Value) w4=>CallK Tryz.prog 172 #[.pointer x1] w4 (.tup []) (fun (x5:Unit) w6=>optA x1 (fun a7=>LdK (.int .i64) (a7.add 3) w6 (fun (x8:Int)=>ifB (x8==0)
 (CallK Tryz.prog 95 #[x3] w6 (.v (.one (.int .i64))) (fun (x9:Int) w10=>optA x1 (fun a11=>StK (a11.add 3) (.int .i64 x9) w10 (fun w12=>optA x1 (fun a13=>LdK (.int .i64) (a13.add 3) w12 (fun (x14:Int)=>ifB (x14 != 0)
 (DrewK w12 (fun w15=>optA x1 (fun a16=>LdK (.int .i64) (a16.add 2) w15 (fun (x17:Int)=>optA x1 (fun a18=>LdK (.int .i64) (a18.add 3) w15 (fun (x19:Int)=>K (.tuple #[.nilIface,.int .i64 x17,.int .i64 x19]) w15))))))
 (K (.tuple #[x3,.int .i64 0,.int .i64 0]) w12)))))))
 (optA x1 (fun a20=>LdK (.int .i64) (a20.add 3) w6 (fun (x21:Int)=>ifB (x21 != 0)
 (DrewK w6 (fun w22=>optA x1 (fun a23=>LdK (.int .i64) (a23.add 2) w22 (fun (x24:Int)=>optA x1 (fun a25=>LdK (.int .i64) (a25.add 3) w22 (fun (x26:Int)=>K (.tuple #[.nilIface,.int .i64 x24,.int .i64 x26]) w22))))))
 (K (.tuple #[x3,.int .i64 0,.int .i64 0]) w6)))))))))
def pl157:Plan:=(.seq .auto (.seq .auto (.seq .auto (.seq .auto (.seq .auto (.seq (.seq .auto (.cond (.seq .still .auto) .auto)) .auto))))))
theorem c157 (p0:ByteArray) (w:World) (K:Value→World→Prop) (h:C157 p0 w K):Ret Tryz.prog 157 #[.string p0] w K:=z0z (by kernel_rfl) Tryz.func157 (p:=pl157) (Eq.mpr (by kernel_rfl) h)
end Go.Proofs.YtdphmcanlhcokaaGreatDoor
