/-
  Texts of this claim, put together: CAgreeG, AgreeSpec, AgreeSpec2, AgreeSpec3, AgreeSpec4, AgreeSpec5, AgreeSpec6, AgreeSpec7, AgreeSpec8, AgreeSpec9, AgreeSpecA, NodeMem, CNodeG, NodeSpec, NodeSpec2.
  Conditions: those of each theorem.
-/
import Derived.Test.YtmkehncgjnhhcaaGreatDoorQND22x0
import Derived.Test.YtmkehncgjnhhcaaGreatDoorQND22x4
import Derived.Test.YtmkehncgjnhhcaaGreatDoorQND22x5
import Derived.KernelRfl
import Derived.Test.YtmkehncgjnhhcaaGreatDoorProg
namespace Go.Proofs.YtmkehncgjnhhcaaGreatDoor
open Vc
set_option maxRecDepth 100000
set_option linter.unusedVariables false
def C40 (p0:List Value)(p1:Int)(w:World)(K:Value->World->Prop):Prop:=
 ak (.cells p0.toArray 24) w (fun g1 w2=>aa (p1 != 0)
 (aD w2 (fun w3=>aV (fun S4=>av S4 (ad g1) (eK 16 (ad g1) w3 (fun x5=>av S4 (ad g1) (eK 16 (ad g1) w3 (fun x6=>ab Tryz.prog 89 #[.agg x6.toArray] w3 (.v (.one .ptr)) (fun(x7:Option Addr) w8=>ai S4 w3 w8 (ab Tryz.prog 90 #[] w8 (.v (.one .ptr)) (fun(x9:Option Addr) aG=>ai S4 w8 aG (uv [.int .u8,.int .u8,.int .u8,.int .u8,.int .u8,.int .u8,.int .u8,.int .u8,.int .u8,.int .u8,.int .u8,.int .u8,.int .u8,.int .u8,.int .u8,.int .u8] x5 (fun(aX:Int×Int×Int×Int×Int×Int×Int×Int×Int×Int×Int×Int×Int×Int×Int×Int×Unit)=>ak (.cells #[.int .u8 aX.1,.int .u8 aX.2.1,.int .u8 aX.2.2.1,.int .u8 aX.2.2.2.1,.int .u8 aX.2.2.2.2.1,.int .u8 aX.2.2.2.2.2.1,.int .u8 aX.2.2.2.2.2.2.1,.int .u8 aX.2.2.2.2.2.2.2.1,.int .u8 aX.2.2.2.2.2.2.2.2.1,.int .u8 aX.2.2.2.2.2.2.2.2.2.1,.int .u8 aX.2.2.2.2.2.2.2.2.2.2.1,.int .u8 aX.2.2.2.2.2.2.2.2.2.2.2.1,.int .u8 aX.2.2.2.2.2.2.2.2.2.2.2.2.1,.int .u8 aX.2.2.2.2.2.2.2.2.2.2.2.2.2.1,.int .u8 aX.2.2.2.2.2.2.2.2.2.2.2.2.2.2.1,.int .u8 aX.2.2.2.2.2.2.2.2.2.2.2.2.2.2.2.1,.int .i64 1,.pointer x7,.pointer x9,.int .i64 0,.string (⟨#[]⟩:ByteArray),.string (⟨#[]⟩:ByteArray),.string (⟨#[]⟩:ByteArray),.string (⟨#[]⟩:ByteArray),.int .i64 0,.int .i64 0,.nilIface,.bool false,.int .i64 0,.string (⟨#[]⟩:ByteArray),.string (⟨#[]⟩:ByteArray),.string (⟨#[]⟩:ByteArray),.string (⟨#[]⟩:ByteArray),.int .i64 0,.int .i64 0,.nilIface,.bool false,.bool false,.bool false,.int .i64 0] 138) aG (fun g12 aY=>ai S4 aG aY (K (.pointer (some (ad g12))) aY))))))))))))))
 (aD w2 (fun bo=>aV (fun nM=>av nM (ad g1) (eK 16 (ad g1) bo (fun aS=>av nM (ad g1) (eK 16 (ad g1) bo (fun ba=>ab Tryz.prog 89 #[.agg ba.toArray] bo (.v (.one .ptr)) (fun(bB:Option Addr) bu=>ai nM bo bu (ab Tryz.prog 90 #[] bu (.v (.one .ptr)) (fun(cG:Option Addr) bw=>ai nM bu bw (uv [.int .u8,.int .u8,.int .u8,.int .u8,.int .u8,.int .u8,.int .u8,.int .u8,.int .u8,.int .u8,.int .u8,.int .u8,.int .u8,.int .u8,.int .u8,.int .u8] aS (fun(bU:Int×Int×Int×Int×Int×Int×Int×Int×Int×Int×Int×Int×Int×Int×Int×Int×Unit)=>ak (.cells #[.int .u8 bU.1,.int .u8 bU.2.1,.int .u8 bU.2.2.1,.int .u8 bU.2.2.2.1,.int .u8 bU.2.2.2.2.1,.int .u8 bU.2.2.2.2.2.1,.int .u8 bU.2.2.2.2.2.2.1,.int .u8 bU.2.2.2.2.2.2.2.1,.int .u8 bU.2.2.2.2.2.2.2.2.1,.int .u8 bU.2.2.2.2.2.2.2.2.2.1,.int .u8 bU.2.2.2.2.2.2.2.2.2.2.1,.int .u8 bU.2.2.2.2.2.2.2.2.2.2.2.1,.int .u8 bU.2.2.2.2.2.2.2.2.2.2.2.2.1,.int .u8 bU.2.2.2.2.2.2.2.2.2.2.2.2.2.1,.int .u8 bU.2.2.2.2.2.2.2.2.2.2.2.2.2.2.1,.int .u8 bU.2.2.2.2.2.2.2.2.2.2.2.2.2.2.2.1,.int .i64 p1,.pointer bB,.pointer cG,.int .i64 0,.string (⟨#[]⟩:ByteArray),.string (⟨#[]⟩:ByteArray),.string (⟨#[]⟩:ByteArray),.string (⟨#[]⟩:ByteArray),.int .i64 0,.int .i64 0,.nilIface,.bool false,.int .i64 0,.string (⟨#[]⟩:ByteArray),.string (⟨#[]⟩:ByteArray),.string (⟨#[]⟩:ByteArray),.string (⟨#[]⟩:ByteArray),.int .i64 0,.int .i64 0,.nilIface,.bool false,.bool false,.bool false,.int .i64 0] 138) bw (fun g23 cg=>ai nM bw cg (K (.pointer (some (ad g23))) cg)))))))))))))))
def pl40:aB:=(.seq .auto (.seq .auto (.seq (.held (.soft 0 (.soft 1 (.soft 2 (.pick 3 (.pick 4 (.soft 5 (.pick 6 (.soft 7 .done) .stop)) .stop) .stop))))) .auto)))
theorem c40 (p0:List Value)(p1:Int)(w:World)(K:Value->World->Prop)(h:C40 p0 p1 w K):Ret Tryz.prog 40 #[.agg p0.toArray,.int .i64 p1] w K:=aC (by kernel_rfl) Tryz.func40 (p:=pl40) (Eq.mpr (by kernel_rfl) h)
def C100 (p0:Int)(w:World)(K:Value->World->Prop):Prop:=
 ur 2 (aa ((Int.tmod p0 2)==0)
 (K (.int .i64 0) w)
 (K (.int .i64 1) w))
def pl100:aB:=.auto
theorem c100 (p0:Int)(w:World)(K:Value->World->Prop)(h:C100 p0 w K):Ret Tryz.prog 100 #[.int .i64 p0] w K:=aC (by kernel_rfl) Tryz.func100 (p:=pl100) (Eq.mpr (by kernel_rfl) h)
def C68 (p0:Addr)(w:World)(K:Value->World->Prop):Prop:=
 aq R6 p0 w (fun(x1:KM)=>ak (.cells #[.int .u8 0,.int .u8 0,.int .u8 0,.int .u8 0,.int .u8 0,.int .u8 0,.int .u8 0,.int .u8 0,.int .u8 0,.int .u8 0,.int .u8 0,.int .u8 0,.int .u8 0,.int .u8 0,.int .u8 0,.int .u8 0,.int .i64 0,.pointer none,.pointer none,.int .i64 0,.string (⟨#[]⟩:ByteArray),.string (⟨#[]⟩:ByteArray),.string (⟨#[]⟩:ByteArray),.string (⟨#[]⟩:ByteArray),.int .i64 0,.int .i64 0,.nilIface,.bool false,.int .i64 0,.string (⟨#[]⟩:ByteArray),.string (⟨#[]⟩:ByteArray),.string (⟨#[]⟩:ByteArray),.string (⟨#[]⟩:ByteArray),.int .i64 0,.int .i64 0,.nilIface,.bool false,.bool false,.bool false,.int .i64 0] 138) w (fun g2 w3=>ar (ad g2) (R7 x1) w3 (fun w4=>aD w4 (fun w5=>aV (fun S6=>av S6 (p0.add 17) (ae .ptr (p0.add 17) w5 (fun(x7:Option Addr)=>av S6 (p0.add 18) (ae .ptr (p0.add 18) w5 (fun(x8:Option Addr)=>ab Tryz.prog 69 #[.pointer x7] w5 (.v (.one .ptr)) (fun(x9:Option Addr) aG=>ai S6 w5 aG (ab Tryz.prog 83 #[.pointer x8] aG (.v (.one .ptr)) (fun(aX:Option Addr) aL=>ai S6 aG aL (az ((ad g2).add 17) (.pointer x9) aL (fun aY=>ai S6 aL aY (az ((ad g2).add 18) (.pointer aX) aY (fun bo=>ai S6 aY bo (K (.pointer (some (ad g2))) bo)))))))))))))))))
def pl68:aB:=(.seq .auto (.seq .auto (.seq (.held (.soft 0 (.soft 1 (.soft 2 (.soft 3 (.soft 5 (.soft 6 (.soft 7 (.soft 8 (.pick 4 (.pick 9 (.soft 10 (.pick 11 (.soft 12 (.pick 13 .done .stop)) .stop)) .stop) .stop)))))))))) .auto)))
theorem c68 (p0:Addr)(w:World)(K:Value->World->Prop)(h:C68 p0 w K):Ret Tryz.prog 68 #[.pointer (some p0)] w K:=aC (by kernel_rfl) Tryz.func68 (p:=pl68) (Eq.mpr (by kernel_rfl) h)
def C29 (p0:Addr)(w:World)(K:Value->World->Prop):Prop:=
 ak (.cells #[.int .i64 0,.string (⟨#[]⟩:ByteArray),.string (⟨#[]⟩:ByteArray),.string (⟨#[]⟩:ByteArray),.string (⟨#[]⟩:ByteArray),.int .i64 0,.int .i64 0,.nilIface] 36) w (fun g1 w2=>aD w2 (fun w3=>aV (fun S4=>av S4 ((p0.add 28).add 0) (aq dK ((p0.add 28).add 0) w3 (fun(x5:bE)=>av S4 ((p0.add 28).add 8) (ae .bool ((p0.add 28).add 8) w3 (fun(x6:Bool)=>ar (ad g1) (bT x5) w3 (fun w7=>ai S4 w3 w7 (aq dK (ad g1) w7 (fun(x8:bE)=>K (.tuple #[.agg (bT x8).toArray,.bool x6]) w7))))))))))
def pl29:aB:=(.seq .auto (.seq (.held (.soft 0 (.soft 1 (.soft 2 (.soft 3 (.soft 4 (.soft 5 (.soft 6 (.soft 7 (.soft 8 (.soft 9 (.pick 10 (.soft 11 .done) .stop)))))))))))) .auto))
theorem c29 (p0:Addr)(w:World)(K:Value->World->Prop)(h:C29 p0 w K):Ret Tryz.prog 29 #[.pointer (some p0)] w K:=aC (by kernel_rfl) Tryz.func29 (p:=pl29) (Eq.mpr (by kernel_rfl) h)
def C26 (p0:Addr)(w:World)(K:Value->World->Prop):Prop:=
 ae .ptr (p0.add 17) w (fun(x1:Option Addr)=>ab Tryz.prog 69 #[.pointer x1] w (.v (.one .ptr)) (fun(x2:Option Addr) w3=>K (.pointer x2) w3))
def pl26:aB:=.auto
theorem c26 (p0:Addr)(w:World)(K:Value->World->Prop)(h:C26 p0 w K):Ret Tryz.prog 26 #[.pointer (some p0)] w K:=aC (by kernel_rfl) Tryz.func26 (p:=pl26) (Eq.mpr (by kernel_rfl) h)
def C97 (p0:Addr)(w:World)(K:Value->World->Prop):Prop:=
 ae .ptr (p0.add 17) w (fun(x1:Option Addr)=>ab Tryz.prog 27 #[.pointer x1] w (.v (.one (.int .i64))) (fun(x2:Int) w3=>K (.bool (decide (x2 >= 64))) w3))
def pl97:aB:=.auto
theorem c97 (p0:Addr)(w:World)(K:Value->World->Prop)(h:C97 p0 w K):Ret Tryz.prog 97 #[.pointer (some p0)] w K:=aC (by kernel_rfl) Tryz.func97 (p:=pl97) (Eq.mpr (by kernel_rfl) h)
def C45 (p0:Addr)(p1:bE)(w:World)(K:Value->World->Prop):Prop:=
 ak (.cells ((bT p1).toArray) 36) w (fun g1 w2=>ae .bool (p0.add 38) w2 (fun(x3:Bool)=>aa x3
 (K (.int .i64 13) w2)
 (cy (Bool×Unit) (fun J4=>ae .bool ((p0.add 19).add 8) w2 (fun(x7:Bool)=>aa x7
 (J4 (true,()) w2)
 (ae .bool ((p0.add 28).add 8) w2 (fun(x8:Bool)=>aa x8
 (ae (.int .i64) (((p0.add 28).add 0).add 0) w2 (fun(x9:Int)=>J4 ((x9 != 1),()) w2))
 (J4 (false,()) w2)))))
 (fun _ s5 w6=>aa s5.1
 (K (.int .i64 9) w6)
 (ab Tryz.prog 97 #[.pointer (some p0)] w6 (.v (.one .bool)) (fun(aQ:Bool) aO=>aa aQ
 (K (.int .i64 5) aO)
 (aD aO (fun aL=>ae .ptr (p0.add 18) aL (fun(bz:Option Addr)=>aq dK (ad g1) aL (fun(bg:bE)=>ae (.int .i64) (p0.add 16) aL (fun(bn:Int)=>ab Tryz.prog 98 #[.pointer bz,.agg (bT bg).toArray,.int .i64 bn] aL (.v (.one (.int .i64))) (fun(aS:Int) cj=>aa (aS != 0)
 (K (.int .i64 aS) cj)
 (aq dK (ad g1) cj (fun(bB:bE)=>ar (p0.add 19) [.int .i64 bB.1,.string bB.2.1,.string bB.2.2.1,.string bB.2.2.2.1,.string bB.2.2.2.2.1,.int .i64 bB.2.2.2.2.2.1,.int .i64 bB.2.2.2.2.2.2.1,bB.2.2.2.2.2.2.2.1,.bool true] cj (fun bu=>K (.int .i64 0) bu)))))))))))))))
def pl45:aB:=(.seq .auto (.seq (.block (.seq .auto (.cond .auto (.join [(11,.one .bool)] .auto .auto)))) (.seq (.seq (.tail 9) .auto) .auto)))
theorem c45 (p0:Addr)(p1:bE)(w:World)(K:Value->World->Prop)(h:C45 p0 p1 w K):Ret Tryz.prog 45 #[.pointer (some p0),.agg (bT p1).toArray] w K:=aC (by kernel_rfl) Tryz.func45 (p:=pl45) (Eq.mpr (by kernel_rfl) h)
def C101 (p0:Addr)(p1:Int)(w:World)(K:Value->World->Prop):Prop:=
 ak (.cells #[.int .i64 0,.int .i64 0,.int .i64 0,.int .i64 0,.int .i64 0,.int .u64 0,.bool false,.int .i64 0,.string (⟨#[]⟩:ByteArray),.string (⟨#[]⟩:ByteArray),.string (⟨#[]⟩:ByteArray),.string (⟨#[]⟩:ByteArray),.int .i64 0,.int .i64 0,.nilIface] 42) w (fun g1 w2=>aD w2 (fun w3=>aV (fun S4=>av S4 (p0.add 17) (ae .ptr (p0.add 17) w3 (fun(x5:Option Addr)=>av S4 (p0.add 17) (ae .ptr (p0.add 17) w3 (fun(x6:Option Addr)=>ab Tryz.prog 27 #[.pointer x5] w3 (.v (.one (.int .i64))) (fun(x7:Int) w8=>ai S4 w3 w8 (ab Tryz.prog 32 #[.pointer x6] w8 (.v (.one (.int .u64))) (fun(x9:Int) aG=>ai S4 w8 aG (ar (ad g1) [.int .i64 0,.int .i64 0,.int .i64 0,.int .i64 p1,.int .i64 x7,.int .u64 x9,.bool false,.int .i64 0,.string (⟨#[]⟩:ByteArray),.string (⟨#[]⟩:ByteArray),.string (⟨#[]⟩:ByteArray),.string (⟨#[]⟩:ByteArray),.int .i64 0,.int .i64 0,.nilIface] aG (fun aO=>ai S4 aG aO (aq fP (ad g1) aO (fun(bx:dr)=>K (.agg (dx bx).toArray) aO))))))))))))))
def pl101:aB:=(.seq .auto (.seq (.held (.soft 0 (.soft 1 (.soft 2 (.soft 3 (.soft 4 (.soft 6 (.soft 7 (.soft 8 (.soft 9 (.pick 5 (.pick 10 (.soft 11 (.pick 12 .done .stop)) .stop) .stop))))))))))) .auto))
theorem c101 (p0:Addr)(p1:Int)(w:World)(K:Value->World->Prop)(h:C101 p0 p1 w K):Ret Tryz.prog 101 #[.pointer (some p0),.int .i64 p1] w K:=aC (by kernel_rfl) Tryz.func101 (p:=pl101) (Eq.mpr (by kernel_rfl) h)
def C102 (p0:Addr)(p1:bE)(w:World)(K:Value->World->Prop):Prop:=
 ak (.cells ((bT p1).toArray) 36) w (fun g1 w2=>ab Tryz.prog 101 #[.pointer (some p0),.int .i64 1] w2 (.v (.agg fP)) (fun(x3:dr) w4=>ak (.cells #[.int .i64 0,.int .i64 0,.int .i64 0,.int .i64 0,.int .i64 0,.int .u64 0,.bool false,.int .i64 0,.string (⟨#[]⟩:ByteArray),.string (⟨#[]⟩:ByteArray),.string (⟨#[]⟩:ByteArray),.string (⟨#[]⟩:ByteArray),.int .i64 0,.int .i64 0,.nilIface] 42) w4 (fun g5 w6=>ar (ad g5) (dx x3) w6 (fun w7=>aq dK (ad g1) w7 (fun(x8:bE)=>ar ((ad g5).add 7) (bT x8) w7 (fun w9=>aq fP (ad g5) w9 (fun(aQ:dr)=>aA Tryz.prog (Instr.buildSlice 111 1 #[(0,.agg (dx aQ).toArray)]) w9 (.v (.one .aj)) (fun(aX:an) aL=>K (.slice aX.1 aX.2.1 aX.2.2) aL))))))))
def pl102:aB:=.auto
theorem c102 (p0:Addr)(p1:bE)(w:World)(K:Value->World->Prop)(h:C102 p0 p1 w K):Ret Tryz.prog 102 #[.pointer (some p0),.agg (bT p1).toArray] w K:=aC (by kernel_rfl) Tryz.func102 (p:=pl102) (Eq.mpr (by kernel_rfl) h)
def C103 (p0:Addr)(p1:bE)(w:World)(K:Value->World->Prop):Prop:=
 ak (.cells ((bT p1).toArray) 36) w (fun g1 w2=>ak (.cells #[.bool false,.bool false,.int .i64 0,.string (⟨#[]⟩:ByteArray),.string (⟨#[]⟩:ByteArray),.string (⟨#[]⟩:ByteArray),.string (⟨#[]⟩:ByteArray),.int .i64 0,.int .i64 0,.nilIface,.bool false,.int .i64 0,.string (⟨#[]⟩:ByteArray),.string (⟨#[]⟩:ByteArray),.string (⟨#[]⟩:ByteArray),.string (⟨#[]⟩:ByteArray),.int .i64 0,.int .i64 0,.nilIface,.bool false,.bool false,.bool false,.bool false,.slice none 0 0] 113) w2 (fun g3 w4=>aD w4 (fun w5=>ae .ptr (p0.add 18) w5 (fun(x6:Option Addr)=>aq dK (ad g1) w5 (fun(x7:bE)=>ae (.int .i64) (p0.add 16) w5 (fun(x8:Int)=>ab Tryz.prog 98 #[.pointer x6,.agg (bT x7).toArray,.int .i64 x8] w5 (.v (.one (.int .i64))) (fun(x9:Int) aG=>aa (x9 != 0)
 (ar (ad g3) [.bool false,.bool false,.int .i64 0,.string (⟨#[]⟩:ByteArray),.string (⟨#[]⟩:ByteArray),.string (⟨#[]⟩:ByteArray),.string (⟨#[]⟩:ByteArray),.int .i64 0,.int .i64 0,.nilIface,.bool false,.int .i64 0,.string (⟨#[]⟩:ByteArray),.string (⟨#[]⟩:ByteArray),.string (⟨#[]⟩:ByteArray),.string (⟨#[]⟩:ByteArray),.int .i64 0,.int .i64 0,.nilIface,.bool true,.bool false,.bool false,.bool false,.slice none 0 0] aG (fun aO=>aq cR (ad g3) aO (fun(bx:cz)=>K (.agg (cF bx).toArray) aO)))
 (aD aG (fun aY=>aV (fun uc=>av uc (ad g1) (aq dK (ad g1) aY (fun(bn:bE)=>av uc (ad g1) (aq dK (ad g1) aY (fun(aS:bE)=>ab Tryz.prog 102 #[.pointer (some p0),.agg (bT aS).toArray] aY (.v (.one .aj)) (fun(ba:an) bt=>ai uc aY bt (ar (ad g3) [.bool false,.bool true,.int .i64 0,.string (⟨#[]⟩:ByteArray),.string (⟨#[]⟩:ByteArray),.string (⟨#[]⟩:ByteArray),.string (⟨#[]⟩:ByteArray),.int .i64 0,.int .i64 0,.nilIface,.bool false,.int .i64 bn.1,.string bn.2.1,.string bn.2.2.1,.string bn.2.2.2.1,.string bn.2.2.2.2.1,.int .i64 bn.2.2.2.2.2.1,.int .i64 bn.2.2.2.2.2.2.1,bn.2.2.2.2.2.2.2.1,.bool false,.bool false,.bool false,.bool false,.slice ba.1 ba.2.1 ba.2.2] bt (fun bu=>ai uc bt bu (aq cR (ad g3) bu (fun(cG:cz)=>K (.agg (cF cG).toArray) bu)))))))))))))))))))
def pl103:aB:=(.seq .auto (.seq (.seq (.tail 9) .auto) (.seq (.held (.soft 0 (.soft 1 (.soft 2 (.pick 3 (.soft 4 (.pick 5 .done .stop)) .stop))))) .auto)))
theorem c103 (p0:Addr)(p1:bE)(w:World)(K:Value->World->Prop)(h:C103 p0 p1 w K):Ret Tryz.prog 103 #[.pointer (some p0),.agg (bT p1).toArray] w K:=aC (by kernel_rfl) Tryz.func103 (p:=pl103) (Eq.mpr (by kernel_rfl) h)
def C47 (p0:Addr)(w:World)(K:Value->World->Prop):Prop:=
 ak (.cells #[.bool false,.bool false,.int .i64 0,.string (⟨#[]⟩:ByteArray),.string (⟨#[]⟩:ByteArray),.string (⟨#[]⟩:ByteArray),.string (⟨#[]⟩:ByteArray),.int .i64 0,.int .i64 0,.nilIface,.bool false,.int .i64 0,.string (⟨#[]⟩:ByteArray),.string (⟨#[]⟩:ByteArray),.string (⟨#[]⟩:ByteArray),.string (⟨#[]⟩:ByteArray),.int .i64 0,.int .i64 0,.nilIface,.bool false,.bool false,.bool false,.bool false,.slice none 0 0] 113) w (fun g1 w2=>aD w2 (fun w3=>aV (fun S4=>av S4 (p0.add 17) (ae .ptr (p0.add 17) w3 (fun(x5:Option Addr)=>av S4 (p0.add 16) (ae (.int .i64) (p0.add 16) w3 (fun(x6:Int)=>ab Tryz.prog 27 #[.pointer x5] w3 (.v (.one (.int .i64))) (fun(x7:Int) w8=>ai S4 w3 w8 (ab Tryz.prog 100 #[.int .i64 x7] w8 (.v (.one (.int .i64))) (fun(x9:Int) aG=>ai S4 w8 aG (ae .bool (p0.add 38) aG (fun(aX:Bool)=>aa aX
 (ab Tryz.prog 101 #[.pointer (some p0),.int .i64 4] aG (.v (.agg fP)) (fun(bx:dr) aY=>ak (.cells #[.int .i64 0,.int .i64 0,.int .i64 0,.int .i64 0,.int .i64 0,.int .u64 0,.bool false,.int .i64 0,.string (⟨#[]⟩:ByteArray),.string (⟨#[]⟩:ByteArray),.string (⟨#[]⟩:ByteArray),.string (⟨#[]⟩:ByteArray),.int .i64 0,.int .i64 0,.nilIface] 42) aY (fun g14 bM=>ar (ad g14) (dx bx) bM (fun bj=>az ((ad g14).add 6) (.bool true) bj (fun cj=>aq fP (ad g14) cj (fun(bB:dr)=>aA Tryz.prog (Instr.buildSlice 111 1 #[(0,.agg (dx bB).toArray)]) cj (.v (.one .aj)) (fun(br:an) bh=>ar (ad g1) [.bool false,.bool false,.int .i64 0,.string (⟨#[]⟩:ByteArray),.string (⟨#[]⟩:ByteArray),.string (⟨#[]⟩:ByteArray),.string (⟨#[]⟩:ByteArray),.int .i64 0,.int .i64 0,.nilIface,.bool false,.int .i64 0,.string (⟨#[]⟩:ByteArray),.string (⟨#[]⟩:ByteArray),.string (⟨#[]⟩:ByteArray),.string (⟨#[]⟩:ByteArray),.int .i64 0,.int .i64 0,.nilIface,.bool false,.bool false,.bool false,.bool false,.slice br.1 br.2.1 br.2.2] bh (fun bw=>aq cR (ad g1) bw (fun(bU:cz)=>K (.agg (cF bU).toArray) bw)))))))))
 (ab Tryz.prog 97 #[.pointer (some p0)] aG (.v (.one .bool)) (fun(cv:Bool) cg=>aa cv
 (ar (ad g1) [.bool false,.bool false,.int .i64 0,.string (⟨#[]⟩:ByteArray),.string (⟨#[]⟩:ByteArray),.string (⟨#[]⟩:ByteArray),.string (⟨#[]⟩:ByteArray),.int .i64 0,.int .i64 0,.nilIface,.bool false,.int .i64 0,.string (⟨#[]⟩:ByteArray),.string (⟨#[]⟩:ByteArray),.string (⟨#[]⟩:ByteArray),.string (⟨#[]⟩:ByteArray),.int .i64 0,.int .i64 0,.nilIface,.bool false,.bool false,.bool false,.bool false,.slice none 0 0] cg (fun di=>aq cR (ad g1) di (fun(dc:cz)=>K (.agg (cF dc).toArray) di)))
 (ae .bool ((p0.add 28).add 8) cg (fun(cA:Bool)=>aa cA
 (aq dK ((p0.add 28).add 0) cg (fun(eR:bE)=>ab Tryz.prog 102 #[.pointer (some p0),.agg (bT eR).toArray] cg (.v (.one .aj)) (fun(cB:an) bS=>ar (ad g1) [.bool false,.bool false,.int .i64 0,.string (⟨#[]⟩:ByteArray),.string (⟨#[]⟩:ByteArray),.string (⟨#[]⟩:ByteArray),.string (⟨#[]⟩:ByteArray),.int .i64 0,.int .i64 0,.nilIface,.bool false,.int .i64 0,.string (⟨#[]⟩:ByteArray),.string (⟨#[]⟩:ByteArray),.string (⟨#[]⟩:ByteArray),.string (⟨#[]⟩:ByteArray),.int .i64 0,.int .i64 0,.nilIface,.bool false,.bool false,.bool false,.bool false,.slice cB.1 cB.2.1 cB.2.2] bS (fun fo=>aq cR (ad g1) fo (fun(df:cz)=>K (.agg (cF df).toArray) fo)))))
 (cy (Bool×Unit) (fun ub=>aa (x9==x6)
 (ae .bool ((p0.add 19).add 8) cg (fun(eg:Bool)=>ub (eg,()) cg))
 (ub (false,()) cg))
 (fun _ Dc dL=>aa Dc.1
 (aq dK ((p0.add 19).add 0) dL (fun(gP:bE)=>ab Tryz.prog 103 #[.pointer (some p0),.agg (bT gP).toArray] dL (.v (.agg cR)) (fun(dF:cz) dO=>ar (ad g1) (cF dF) dO (fun dP=>aq cR (ad g1) dP (fun(eM:cz)=>K (.agg (cF eM).toArray) dP)))))
 (cy (Bool×Unit) (fun rA=>aa (x9==x6)
 (ae .bool (p0.add 37) dL (fun(gX:Bool)=>rA (gX,()) dL))
 (rA (false,()) dL))
 (fun _ yh gd=>aa yh.1
 (ab Tryz.prog 103 #[.pointer (some p0),.agg #[.int .i64 1,.string (⟨#[]⟩:ByteArray),.string (⟨#[]⟩:ByteArray),.string (⟨#[]⟩:ByteArray),.string (⟨#[]⟩:ByteArray),.int .i64 0,.int .i64 0,.nilIface]] gd (.v (.agg cR)) (fun(kx:cz) gI=>ar (ad g1) (cF kx) gI (fun gF=>aq cR (ad g1) gF (fun(fD:cz)=>K (.agg (cF fD).toArray) gF))))
 (aa (!(x9==x6))
 (ae .bool ((p0.add 19).add 8) gd (fun(iL:Bool)=>aa iL
 (ab Tryz.prog 101 #[.pointer (some p0),.int .i64 3] gd (.v (.agg fP)) (fun(jx:dr) fh=>aA Tryz.prog (Instr.buildSlice 111 1 #[(0,.agg (dx jx).toArray)]) fh (.v (.one .aj)) (fun(fY:an) gW=>ar (ad g1) [.bool false,.bool false,.int .i64 0,.string (⟨#[]⟩:ByteArray),.string (⟨#[]⟩:ByteArray),.string (⟨#[]⟩:ByteArray),.string (⟨#[]⟩:ByteArray),.int .i64 0,.int .i64 0,.nilIface,.bool false,.int .i64 0,.string (⟨#[]⟩:ByteArray),.string (⟨#[]⟩:ByteArray),.string (⟨#[]⟩:ByteArray),.string (⟨#[]⟩:ByteArray),.int .i64 0,.int .i64 0,.nilIface,.bool false,.bool false,.bool false,.bool false,.slice fY.1 fY.2.1 fY.2.2] gW (fun gQ=>aq cR (ad g1) gQ (fun(j8:cz)=>K (.agg (cF j8).toArray) gQ)))))
 (ar (ad g1) [.bool false,.bool false,.int .i64 0,.string (⟨#[]⟩:ByteArray),.string (⟨#[]⟩:ByteArray),.string (⟨#[]⟩:ByteArray),.string (⟨#[]⟩:ByteArray),.int .i64 0,.int .i64 0,.nilIface,.bool false,.int .i64 0,.string (⟨#[]⟩:ByteArray),.string (⟨#[]⟩:ByteArray),.string (⟨#[]⟩:ByteArray),.string (⟨#[]⟩:ByteArray),.int .i64 0,.int .i64 0,.nilIface,.bool false,.bool false,.bool false,.bool false,.slice none 0 0] gd (fun om=>aq cR (ad g1) om (fun(oh:cz)=>K (.agg (cF oh).toArray) om)))))
 (ar (ad g1) [.bool false,.bool false,.int .i64 0,.string (⟨#[]⟩:ByteArray),.string (⟨#[]⟩:ByteArray),.string (⟨#[]⟩:ByteArray),.string (⟨#[]⟩:ByteArray),.int .i64 0,.int .i64 0,.nilIface,.bool false,.int .i64 0,.string (⟨#[]⟩:ByteArray),.string (⟨#[]⟩:ByteArray),.string (⟨#[]⟩:ByteArray),.string (⟨#[]⟩:ByteArray),.int .i64 0,.int .i64 0,.nilIface,.bool false,.bool false,.bool false,.bool false,.slice none 0 0] gd (fun lV=>aq cR (ad g1) lV (fun(oc:cz)=>K (.agg (cF oc).toArray) lV))))))))))))))))))))))))
def pl47:aB:=(.seq .auto (.seq (.held (.soft 0 (.soft 1 (.soft 2 (.soft 3 (.soft 6 (.soft 7 (.soft 8 (.soft 9 (.pick 4 (.pick 5 (.soft 10 (.soft 11 .done)) .stop) .stop)))))))))) (.seq (.block (.seq .auto (.cond .auto (.seq .auto (.cond .auto (.seq .auto (.cond .auto (.join [(45,.one .bool)] .auto (.cond .auto (.join [(61,.one .bool)] .auto .auto)))))))))) .auto)))
theorem c47 (p0:Addr)(w:World)(K:Value->World->Prop)(h:C47 p0 w K):Ret Tryz.prog 47 #[.pointer (some p0)] w K:=aC (by kernel_rfl) Tryz.func47 (p:=pl47) (Eq.mpr (by kernel_rfl) h)
def C157 (p0:Addr)(p1:Int)(p2:Int)(w:World)(K:Value->World->Prop):Prop:=
 ae .ptr (p0.add 17) w (fun(x1:Option Addr)=>ab Tryz.prog 31 #[.pointer x1,.int .i64 p1] w (.aN [.one (.int .u64),.one .bool]) (fun(x2:Int×Bool×Unit) w3=>aa x2.2.1
 (aa (x2.1 != p2)
 (K (.bool true) w3)
 (ae .ptr (p0.add 17) w3 (fun(x4:Option Addr)=>ab Tryz.prog 27 #[.pointer x4] w3 (.v (.one (.int .i64))) (fun(x5:Int) w6=>K (.bool (decide (p1 > (IntKind.i64.wrap (x5+1))))) w6))))
 (ae .ptr (p0.add 17) w3 (fun(x7:Option Addr)=>ab Tryz.prog 27 #[.pointer x7] w3 (.v (.one (.int .i64))) (fun(x8:Int) w9=>K (.bool (decide (p1 > (IntKind.i64.wrap (x8+1))))) w9)))))
def pl157:aB:=.auto
theorem c157 (p0:Addr)(p1:Int)(p2:Int)(w:World)(K:Value->World->Prop)(h:C157 p0 p1 p2 w K):Ret Tryz.prog 157 #[.pointer (some p0),.int .i64 p1,.int .u64 p2] w K:=aC (by kernel_rfl) Tryz.func157 (p:=pl157) (Eq.mpr (by kernel_rfl) h)
def C112 (p0:Addr)(p1:dr)(w:World)(K:Value->World->Prop):Prop:=
 ak (.cells ((dx p1).toArray) 42) w (fun g1 w2=>ak (.cells #[.bool false,.bool false,.int .i64 0,.string (⟨#[]⟩:ByteArray),.string (⟨#[]⟩:ByteArray),.string (⟨#[]⟩:ByteArray),.string (⟨#[]⟩:ByteArray),.int .i64 0,.int .i64 0,.nilIface,.bool false,.int .i64 0,.string (⟨#[]⟩:ByteArray),.string (⟨#[]⟩:ByteArray),.string (⟨#[]⟩:ByteArray),.string (⟨#[]⟩:ByteArray),.int .i64 0,.int .i64 0,.nilIface,.bool false,.bool false,.bool false,.bool false,.slice none 0 0] 113) w2 (fun g3 w4=>ak (.cells #[.bool false,.bool false,.int .i64 0,.string (⟨#[]⟩:ByteArray),.string (⟨#[]⟩:ByteArray),.string (⟨#[]⟩:ByteArray),.string (⟨#[]⟩:ByteArray),.int .i64 0,.int .i64 0,.nilIface,.bool false,.int .i64 0,.string (⟨#[]⟩:ByteArray),.string (⟨#[]⟩:ByteArray),.string (⟨#[]⟩:ByteArray),.string (⟨#[]⟩:ByteArray),.int .i64 0,.int .i64 0,.nilIface,.bool false,.bool false,.bool false,.bool false,.slice none 0 0] 113) w4 (fun g5 w6=>ar (ad g5) [.bool false,.bool false,.int .i64 0,.string (⟨#[]⟩:ByteArray),.string (⟨#[]⟩:ByteArray),.string (⟨#[]⟩:ByteArray),.string (⟨#[]⟩:ByteArray),.int .i64 0,.int .i64 0,.nilIface,.bool false,.int .i64 0,.string (⟨#[]⟩:ByteArray),.string (⟨#[]⟩:ByteArray),.string (⟨#[]⟩:ByteArray),.string (⟨#[]⟩:ByteArray),.int .i64 0,.int .i64 0,.nilIface,.bool false,.bool false,.bool false,.bool false,.slice none 0 0] w6 (fun w7=>ae (.int .i64) ((ad g1).add 4) w7 (fun(x8:Int)=>ae (.int .u64) ((ad g1).add 5) w7 (fun(x9:Int)=>ab Tryz.prog 157 #[.pointer (some p0),.int .i64 x8,.int .u64 x9] w7 (.v (.one .bool)) (fun(aQ:Bool) aO=>aa aQ
 (az ((ad g5).add 21) (.bool true) aO (fun aL=>ae .bool ((ad g1).add 6) aL (fun(bz:Bool)=>aa bz
 (ab Tryz.prog 101 #[.pointer (some p0),.int .i64 4] aL (.v (.agg fP)) (fun(bg:dr) bM=>aA Tryz.prog (Instr.buildSlice 111 1 #[(0,.agg (dx bg).toArray)]) bM (.v (.one .aj)) (fun(aS:an) cj=>az ((ad g5).add 23) (.slice aS.1 aS.2.1 aS.2.2) cj (fun bt=>aq cR (ad g5) bt (fun(br:cz)=>ar (ad g3) (cF br) bt (fun bh=>aq cR (ad g3) bh (fun(bY:cz)=>K (.agg (cF bY).toArray) bh)))))))
 (aq cR (ad g5) aL (fun(bU:cz)=>ar (ad g3) (cF bU) aL (fun cL=>aq cR (ad g3) cL (fun(cm:cz)=>K (.agg (cF cm).toArray) cL)))))))
 (aD aO (fun di=>aV (fun Jm=>av Jm ((ad g1).add 4) (ae (.int .i64) ((ad g1).add 4) di (fun(cA:Int)=>av Jm (p0.add 17) (ae .ptr (p0.add 17) di (fun(eR:Option Addr)=>ab Tryz.prog 27 #[.pointer eR] di (.v (.one (.int .i64))) (fun(cB:Int) bS=>ai Jm di bS (aa (cA==cB)
 (ae .bool (p0.add 38) bS (fun(bZ:Bool)=>az ((ad g5).add 22) (.bool bZ) bS (fun cU=>ae .bool ((ad g1).add 6) cU (fun(dA:Bool)=>aa dA
 (ab Tryz.prog 101 #[.pointer (some p0),.int .i64 4] cU (.v (.agg fP)) (fun(dh:dr) dL=>aA Tryz.prog (Instr.buildSlice 111 1 #[(0,.agg (dx dh).toArray)]) dL (.v (.one .aj)) (fun(eg:an) dz=>az ((ad g5).add 23) (.slice eg.1 eg.2.1 eg.2.2) dz (fun ic=>aq cR (ad g5) ic (fun(fk:cz)=>ar (ad g3) (cF fk) ic (fun dP=>aq cR (ad g3) dP (fun(eM:cz)=>K (.agg (cF eM).toArray) dP)))))))
 (aq cR (ad g5) cU (fun(iA:cz)=>ar (ad g3) (cF iA) cU (fun jQ=>aq cR (ad g3) jQ (fun(iY:cz)=>K (.agg (cF iY).toArray) jQ))))))))
 (ae .bool ((ad g1).add 6) bS (fun(gX:Bool)=>aa gX
 (ab Tryz.prog 101 #[.pointer (some p0),.int .i64 4] bS (.v (.agg fP)) (fun(kx:dr) gI=>aA Tryz.prog (Instr.buildSlice 111 1 #[(0,.agg (dx kx).toArray)]) gI (.v (.one .aj)) (fun(fS:an) tu=>az ((ad g5).add 23) (.slice fS.1 fS.2.1 fS.2.2) tu (fun mG=>aq cR (ad g5) mG (fun(jx:cz)=>ar (ad g3) (cF jx) mG (fun fh=>aq cR (ad g3) fh (fun(fY:cz)=>K (.agg (cF fY).toArray) fh)))))))
 (aq cR (ad g5) bS (fun(rP:cz)=>ar (ad g3) (cF rP) bS (fun gQ=>aq cR (ad g3) gQ (fun(j8:cz)=>K (.agg (cF j8).toArray) gQ))))))))))))))))))))))
def pl112:aB:=(.seq .auto (.seq .auto (.seq (.block (.seq .auto (.cond .auto (.seq (.held (.soft 0 (.soft 1 (.soft 2 (.soft 3 (.soft 4 (.soft 5 (.pick 6 (.soft 7 (.soft 8 .done)) .stop)))))))) .auto)))) .auto)))
theorem c112 (p0:Addr)(p1:dr)(w:World)(K:Value->World->Prop)(h:C112 p0 p1 w K):Ret Tryz.prog 112 #[.pointer (some p0),.agg (dx p1).toArray] w K:=aC (by kernel_rfl) Tryz.func112 (p:=pl112) (Eq.mpr (by kernel_rfl) h)
def C113 (p0:Addr)(p1:dr)(w:World)(K:Value->World->Prop):Prop:=
 ak (.cells ((dx p1).toArray) 42) w (fun g1 w2=>ak (.cells #[.bool false,.bool false,.int .i64 0,.string (⟨#[]⟩:ByteArray),.string (⟨#[]⟩:ByteArray),.string (⟨#[]⟩:ByteArray),.string (⟨#[]⟩:ByteArray),.int .i64 0,.int .i64 0,.nilIface,.bool false,.int .i64 0,.string (⟨#[]⟩:ByteArray),.string (⟨#[]⟩:ByteArray),.string (⟨#[]⟩:ByteArray),.string (⟨#[]⟩:ByteArray),.int .i64 0,.int .i64 0,.nilIface,.bool false,.bool false,.bool false,.bool false,.slice none 0 0] 113) w2 (fun g3 w4=>ae (.int .i64) ((ad g1).add 4) w4 (fun(x5:Int)=>ae (.int .u64) ((ad g1).add 5) w4 (fun(x6:Int)=>ab Tryz.prog 157 #[.pointer (some p0),.int .i64 x5,.int .u64 x6] w4 (.v (.one .bool)) (fun(x7:Bool) w8=>aa x7
 (ar (ad g3) [.bool false,.bool false,.int .i64 0,.string (⟨#[]⟩:ByteArray),.string (⟨#[]⟩:ByteArray),.string (⟨#[]⟩:ByteArray),.string (⟨#[]⟩:ByteArray),.int .i64 0,.int .i64 0,.nilIface,.bool false,.int .i64 0,.string (⟨#[]⟩:ByteArray),.string (⟨#[]⟩:ByteArray),.string (⟨#[]⟩:ByteArray),.string (⟨#[]⟩:ByteArray),.int .i64 0,.int .i64 0,.nilIface,.bool false,.bool false,.bool true,.bool false,.slice none 0 0] w8 (fun w9=>aq cR (ad g3) w9 (fun(aQ:cz)=>K (.agg (cF aQ).toArray) w9)))
 (aD w8 (fun aO=>aV (fun nR=>av nR ((ad g1).add 4) (ae (.int .i64) ((ad g1).add 4) aO (fun(bz:Int)=>av nR (p0.add 17) (ae .ptr (p0.add 17) aO (fun(bg:Option Addr)=>ab Tryz.prog 27 #[.pointer bg] aO (.v (.one (.int .i64))) (fun(bn:Int) bj=>ai nR aO bj (aa (bz==bn)
 (av nR ((ad g1).add 4) (ae (.int .i64) ((ad g1).add 4) bj (fun(ba:Int)=>av nR (p0.add 16) (ae (.int .i64) (p0.add 16) bj (fun(bB:Int)=>ab Tryz.prog 100 #[.int .i64 ba] bj (.v (.one (.int .i64))) (fun(br:Int) bh=>ai nR bj bh (ar (ad g3) [.bool false,.bool false,.int .i64 0,.string (⟨#[]⟩:ByteArray),.string (⟨#[]⟩:ByteArray),.string (⟨#[]⟩:ByteArray),.string (⟨#[]⟩:ByteArray),.int .i64 0,.int .i64 0,.nilIface,.bool false,.int .i64 0,.string (⟨#[]⟩:ByteArray),.string (⟨#[]⟩:ByteArray),.string (⟨#[]⟩:ByteArray),.string (⟨#[]⟩:ByteArray),.int .i64 0,.int .i64 0,.nilIface,.bool false,.bool (br==bB),.bool false,.bool false,.slice none 0 0] bh (fun bw=>ai nR bh bw (aq cR (ad g3) bw (fun(bU:cz)=>K (.agg (cF bU).toArray) bw))))))))))
 (ar (ad g3) [.bool false,.bool false,.int .i64 0,.string (⟨#[]⟩:ByteArray),.string (⟨#[]⟩:ByteArray),.string (⟨#[]⟩:ByteArray),.string (⟨#[]⟩:ByteArray),.int .i64 0,.int .i64 0,.nilIface,.bool false,.int .i64 0,.string (⟨#[]⟩:ByteArray),.string (⟨#[]⟩:ByteArray),.string (⟨#[]⟩:ByteArray),.string (⟨#[]⟩:ByteArray),.int .i64 0,.int .i64 0,.nilIface,.bool false,.bool false,.bool false,.bool false,.slice none 0 0] bj (fun cL=>ai nR bj cL (aq cR (ad g3) cL (fun(cm:cz)=>K (.agg (cF cm).toArray) cL))))))))))))))))))
def pl113:aB:=(.seq .auto (.seq .auto (.seq (.held (.soft 0 (.soft 1 (.soft 2 (.soft 3 (.soft 4 (.soft 5 (.pick 6 (.soft 7 (.soft 8 (.soft 9 (.soft 10 (.soft 12 (.soft 13 (.soft 14 (.soft 15 (.pick 11 (.soft 16 (.soft 17 (.soft 18 (.pick 19 .done .stop)))) .stop))))))))) .stop)))))))) .auto)))
theorem c113 (p0:Addr)(p1:dr)(w:World)(K:Value->World->Prop)(h:C113 p0 p1 w K):Ret Tryz.prog 113 #[.pointer (some p0),.agg (dx p1).toArray] w K:=aC (by kernel_rfl) Tryz.func113 (p:=pl113) (Eq.mpr (by kernel_rfl) h)
def C158 (p0:Addr)(p1:Int)(w:World)(K:Value->World->Prop):Prop:=
 ae .ptr (p0.add 17) w (fun(x1:Option Addr)=>ab Tryz.prog 31 #[.pointer x1,.int .i64 (IntKind.i64.wrap (p1+1))] w (.aN [.one (.int .u64),.one .bool]) (fun(x2:Int×Bool×Unit) w3=>ae .ptr (p0.add 17) w3 (fun(x4:Option Addr)=>ab Tryz.prog 200 #[.pointer x4] w3 (.v (.one .aj)) (fun(x5:an) w6=>bQ x5.1 x5.2.1 p1 9 (fun a7=>ae .bool (a7.add 8) w6 (fun(x8:Bool)=>aA Tryz.prog (Instr.buildSlice 111 1 #[(0,.agg #[.int .i64 0,.int .i64 0,.int .i64 0,.int .i64 2,.int .i64 p1,.int .u64 x2.1,.bool x8,.int .i64 0,.string (⟨#[]⟩:ByteArray),.string (⟨#[]⟩:ByteArray),.string (⟨#[]⟩:ByteArray),.string (⟨#[]⟩:ByteArray),.int .i64 0,.int .i64 0,.nilIface])]) w6 (.v (.one .aj)) (fun(x9:an) aG=>K (.slice x9.1 x9.2.1 x9.2.2) aG)))))))
def pl158:aB:=.auto
theorem c158 (p0:Addr)(p1:Int)(w:World)(K:Value->World->Prop)(h:C158 p0 p1 w K):Ret Tryz.prog 158 #[.pointer (some p0),.int .i64 p1] w K:=aC (by kernel_rfl) Tryz.func158 (p:=pl158) (Eq.mpr (by kernel_rfl) h)
def C114 (p0:Addr)(p1:dr)(w:World)(K:Value->World->Prop):Prop:=
 ak (.cells ((dx p1).toArray) 42) w (fun g1 w2=>ak (.cells #[.bool false,.bool false,.int .i64 0,.string (⟨#[]⟩:ByteArray),.string (⟨#[]⟩:ByteArray),.string (⟨#[]⟩:ByteArray),.string (⟨#[]⟩:ByteArray),.int .i64 0,.int .i64 0,.nilIface,.bool false,.int .i64 0,.string (⟨#[]⟩:ByteArray),.string (⟨#[]⟩:ByteArray),.string (⟨#[]⟩:ByteArray),.string (⟨#[]⟩:ByteArray),.int .i64 0,.int .i64 0,.nilIface,.bool false,.bool false,.bool false,.bool false,.slice none 0 0] 113) w2 (fun g3 w4=>aD w4 (fun w5=>aV (fun S6=>av S6 ((ad g1).add 4) (ae (.int .i64) ((ad g1).add 4) w5 (fun(x7:Int)=>av S6 (p0.add 16) (ae (.int .i64) (p0.add 16) w5 (fun(x8:Int)=>ab Tryz.prog 100 #[.int .i64 x7] w5 (.v (.one (.int .i64))) (fun(x9:Int) aG=>ai S6 w5 aG (aa (x9==x8)
 (ar (ad g3) [.bool false,.bool false,.int .i64 0,.string (⟨#[]⟩:ByteArray),.string (⟨#[]⟩:ByteArray),.string (⟨#[]⟩:ByteArray),.string (⟨#[]⟩:ByteArray),.int .i64 0,.int .i64 0,.nilIface,.bool false,.int .i64 0,.string (⟨#[]⟩:ByteArray),.string (⟨#[]⟩:ByteArray),.string (⟨#[]⟩:ByteArray),.string (⟨#[]⟩:ByteArray),.int .i64 0,.int .i64 0,.nilIface,.bool false,.bool false,.bool true,.bool false,.slice none 0 0] aG (fun aO=>aq cR (ad g3) aO (fun(bx:cz)=>K (.agg (cF bx).toArray) aO)))
 (av S6 ((ad g1).add 4) (ae (.int .i64) ((ad g1).add 4) aG (fun(bz:Int)=>av S6 ((ad g1).add 5) (ae (.int .u64) ((ad g1).add 5) aG (fun(bg:Int)=>ab Tryz.prog 157 #[.pointer (some p0),.int .i64 bz,.int .u64 bg] aG (.v (.one .bool)) (fun(bn:Bool) bj=>ai S6 aG bj (aa bn
 (ar (ad g3) [.bool false,.bool false,.int .i64 0,.string (⟨#[]⟩:ByteArray),.string (⟨#[]⟩:ByteArray),.string (⟨#[]⟩:ByteArray),.string (⟨#[]⟩:ByteArray),.int .i64 0,.int .i64 0,.nilIface,.bool false,.int .i64 0,.string (⟨#[]⟩:ByteArray),.string (⟨#[]⟩:ByteArray),.string (⟨#[]⟩:ByteArray),.string (⟨#[]⟩:ByteArray),.int .i64 0,.int .i64 0,.nilIface,.bool false,.bool false,.bool true,.bool false,.slice none 0 0] bj (fun cj=>aq cR (ad g3) cj (fun(bB:cz)=>K (.agg (cF bB).toArray) cj)))
 (aD bj (fun bu=>aV (fun Jn=>av Jn ((ad g1).add 4) (ae (.int .i64) ((ad g1).add 4) bu (fun(bY:Int)=>av Jn (p0.add 17) (ae .ptr (p0.add 17) bu (fun(bU:Option Addr)=>ab Tryz.prog 27 #[.pointer bU] bu (.v (.one (.int .i64))) (fun(cv:Int) cg=>ai Jn bu cg (aa (decide (bY<cv))
 (ae (.int .i64) ((ad g1).add 4) cg (fun(bD:Int)=>ab Tryz.prog 158 #[.pointer (some p0),.int .i64 bD] cg (.v (.one .aj)) (fun(dc:an) eN=>ar (ad g3) [.bool false,.bool false,.int .i64 0,.string (⟨#[]⟩:ByteArray),.string (⟨#[]⟩:ByteArray),.string (⟨#[]⟩:ByteArray),.string (⟨#[]⟩:ByteArray),.int .i64 0,.int .i64 0,.nilIface,.bool false,.int .i64 0,.string (⟨#[]⟩:ByteArray),.string (⟨#[]⟩:ByteArray),.string (⟨#[]⟩:ByteArray),.string (⟨#[]⟩:ByteArray),.int .i64 0,.int .i64 0,.nilIface,.bool false,.bool false,.bool false,.bool false,.slice dc.1 dc.2.1 dc.2.2] eN (fun bV=>aq cR (ad g3) bV (fun(cB:cz)=>K (.agg (cF cB).toArray) bV)))))
 (aD cg (fun bS=>aV (fun DM=>av DM ((ad g1).add 4) (ae (.int .i64) ((ad g1).add 4) bS (fun(df:Int)=>av DM (p0.add 17) (ae .ptr (p0.add 17) bS (fun(dA:Option Addr)=>ab Tryz.prog 27 #[.pointer dA] bS (.v (.one (.int .i64))) (fun(dh:Int) dL=>ai DM bS dL (aa (decide (df > dh))
 (ar (ad g3) [.bool false,.bool false,.int .i64 0,.string (⟨#[]⟩:ByteArray),.string (⟨#[]⟩:ByteArray),.string (⟨#[]⟩:ByteArray),.string (⟨#[]⟩:ByteArray),.int .i64 0,.int .i64 0,.nilIface,.bool false,.int .i64 0,.string (⟨#[]⟩:ByteArray),.string (⟨#[]⟩:ByteArray),.string (⟨#[]⟩:ByteArray),.string (⟨#[]⟩:ByteArray),.int .i64 0,.int .i64 0,.nilIface,.bool false,.bool false,.bool false,.bool false,.slice none 0 0] dL (fun dd=>aq cR (ad g3) dd (fun(gP:cz)=>K (.agg (cF gP).toArray) dd)))
 (ab Tryz.prog 97 #[.pointer (some p0)] dL (.v (.one .bool)) (fun(dF:Bool) dO=>ai DM dL dO (aa dF
 (ar (ad g3) [.bool false,.bool false,.int .i64 0,.string (⟨#[]⟩:ByteArray),.string (⟨#[]⟩:ByteArray),.string (⟨#[]⟩:ByteArray),.string (⟨#[]⟩:ByteArray),.int .i64 0,.int .i64 0,.nilIface,.bool false,.int .i64 0,.string (⟨#[]⟩:ByteArray),.string (⟨#[]⟩:ByteArray),.string (⟨#[]⟩:ByteArray),.string (⟨#[]⟩:ByteArray),.int .i64 0,.int .i64 0,.nilIface,.bool false,.bool false,.bool false,.bool false,.slice none 0 0] dO (fun dP=>aq cR (ad g3) dP (fun(eM:cz)=>K (.agg (cF eM).toArray) dP)))
 (cy (Option Addr×Unit) (fun rA=>aD dO (fun gr=>aV (fun iN=>av iN ((ad g1).add 7) (aq dK ((ad g1).add 7) gr (fun(dG:bE)=>av iN (p0.add 18) (ae .ptr (p0.add 18) gr (fun(fS:Option Addr)=>av iN ((ad g1).add 7) (aq dK ((ad g1).add 7) gr (fun(fD:bE)=>av iN (p0.add 16) (ae (.int .i64) (p0.add 16) gr (fun(iL:Int)=>kO (ab Tryz.prog 98 #[.pointer fS,.agg (bT fD).toArray,.int .i64 (IntKind.i64.wrap (1 - iL))] gr (.v (.one (.int .i64))) (fun(jx:Int) fh=>ai iN gr fh (aa (jx != 0)
 (ak (.cells #[.int .i64 0,.string (⟨#[]⟩:ByteArray),.string (⟨#[]⟩:ByteArray),.string (⟨#[]⟩:ByteArray),.string (⟨#[]⟩:ByteArray),.int .i64 0,.int .i64 0,.nilIface,.bool false] 110) fh (fun P8 gW=>ai iN fh gW (ar (ad P8) [.int .i64 dG.1,.string dG.2.1,.string dG.2.2.1,.string dG.2.2.2.1,.string dG.2.2.2.2.1,.int .i64 dG.2.2.2.2.2.1,.int .i64 dG.2.2.2.2.2.2.1,dG.2.2.2.2.2.2.2.1,.bool true] gW (fun gQ=>ai iN gW gQ (rA ((some (ad P8)),()) gQ)))))
 (av iN (p0.add 39) (ae (.int .i64) (p0.add 39) fh (fun(j8:Int)=>av iN (((ad g1).add 7).add 0) (ae (.int .i64) (((ad g1).add 7).add 0) fh (fun(nj:Int)=>jJ nj (ak (.cells #[.int .i64 0,.string (⟨#[]⟩:ByteArray),.string (⟨#[]⟩:ByteArray),.string (⟨#[]⟩:ByteArray),.string (⟨#[]⟩:ByteArray),.int .i64 0,.int .i64 0,.nilIface,.bool false] 110) fh (fun P9 lV=>ai iN fh lV (ar (ad P9) [.int .i64 dG.1,.string dG.2.1,.string dG.2.2.1,.string dG.2.2.2.1,.string dG.2.2.2.2.1,.int .i64 dG.2.2.2.2.2.1,.int .i64 dG.2.2.2.2.2.2.1,dG.2.2.2.2.2.2.2.1,.bool ((IntKind.i64.wrap ((BitVec.ofInt 64 (Int.fdiv j8 (2 ^ (min (Int.toNat nj) 64))) &&& BitVec.ofInt 64 1).toNat:Int))==1)] lV (fun tv=>ai iN lV tv (rA ((some (ad P9)),()) tv)))))))))))))
 (ak (.cells #[.int .i64 0,.string (⟨#[]⟩:ByteArray),.string (⟨#[]⟩:ByteArray),.string (⟨#[]⟩:ByteArray),.string (⟨#[]⟩:ByteArray),.int .i64 0,.int .i64 0,.nilIface,.bool false] 110) gr (fun o0 jA=>ai iN gr jA (ab Tryz.prog 98 #[.pointer fS,.agg (bT fD).toArray,.int .i64 (IntKind.i64.wrap (1 - iL))] jA (.v (.one (.int .i64))) (fun(nk:Int) jy=>ai iN jA jy (aa (nk != 0)
 (ar (ad o0) [.int .i64 dG.1,.string dG.2.1,.string dG.2.2.1,.string dG.2.2.2.1,.string dG.2.2.2.2.1,.int .i64 dG.2.2.2.2.2.1,.int .i64 dG.2.2.2.2.2.2.1,dG.2.2.2.2.2.2.2.1,.bool true] jy (fun AS=>ai iN jy AS (rA ((some (ad o0)),()) AS)))
 (av iN (p0.add 39) (ae (.int .i64) (p0.add 39) jy (fun(tA:Int)=>av iN (((ad g1).add 7).add 0) (ae (.int .i64) (((ad g1).add 7).add 0) jy (fun(o6:Int)=>jJ o6 (ar (ad o0) [.int .i64 dG.1,.string dG.2.1,.string dG.2.2.1,.string dG.2.2.2.1,.string dG.2.2.2.2.1,.int .i64 dG.2.2.2.2.2.1,.int .i64 dG.2.2.2.2.2.2.1,dG.2.2.2.2.2.2.2.1,.bool ((IntKind.i64.wrap ((BitVec.ofInt 64 (Int.fdiv tA (2 ^ (min (Int.toNat o6) 64))) &&& BitVec.ofInt 64 1).toNat:Int))==1)] jy (fun tV=>ai iN jy tV (rA ((some (ad o0)),()) tV))))))))))))))))))))))))
 (fun _ yh gd=>aD gd (fun oo=>aV (fun A6=>av A6 (p0.add 0) (eK 16 (p0.add 0) oo (fun AW=>av A6 (p0.add 17) (ae .ptr (p0.add 17) oo (fun(qa:Option Addr)=>jI yh.1 (fun Qa=>av A6 Qa (aq lS Qa oo (fun(xj:iI)=>ab Tryz.prog 32 #[.pointer qa] oo (.v (.one (.int .u64))) (fun(sG:Int) qW=>ai A6 oo qW (ab Tryz.prog 159 #[.agg AW.toArray,.int .u64 sG,.agg (iX xj).toArray] qW (.aN [.one (.int .u64),.one (.int .i64)]) (fun(vF:Int×Int×Unit) mE=>ai A6 qW mE (aa (vF.2.1 != 0)
 (ar (ad g3) [.bool false,.bool false,.int .i64 0,.string (⟨#[]⟩:ByteArray),.string (⟨#[]⟩:ByteArray),.string (⟨#[]⟩:ByteArray),.string (⟨#[]⟩:ByteArray),.int .i64 0,.int .i64 0,.nilIface,.bool false,.int .i64 0,.string (⟨#[]⟩:ByteArray),.string (⟨#[]⟩:ByteArray),.string (⟨#[]⟩:ByteArray),.string (⟨#[]⟩:ByteArray),.int .i64 0,.int .i64 0,.nilIface,.bool false,.bool false,.bool false,.bool false,.slice none 0 0] mE (fun Qb=>aq cR (ad g3) Qb (fun(FM:cz)=>K (.agg (cF FM).toArray) Qb)))
 (jI yh.1 (fun a81=>aq lS a81 mE (fun(qc:iI)=>ae (.int .i64) ((ad g1).add 4) mE (fun(AX:Int)=>jI yh.1 (fun a84=>ae .bool (a84.add 8) mE (fun(AY:Bool)=>aA Tryz.prog (Instr.buildSlice 111 1 #[(0,.agg #[.int .i64 0,.int .i64 0,.int .i64 0,.int .i64 2,.int .i64 AX,.int .u64 vF.1,.bool AY,.int .i64 0,.string (⟨#[]⟩:ByteArray),.string (⟨#[]⟩:ByteArray),.string (⟨#[]⟩:ByteArray),.string (⟨#[]⟩:ByteArray),.int .i64 0,.int .i64 0,.nilIface])]) mE (.v (.one .aj)) (fun(vd:an) zB=>ar (ad g3) [.bool true,.bool false,.int .i64 qc.1,.string qc.2.1,.string qc.2.2.1,.string qc.2.2.2.1,.string qc.2.2.2.2.1,.int .i64 qc.2.2.2.2.2.1,.int .i64 qc.2.2.2.2.2.2.1,qc.2.2.2.2.2.2.2.1,.bool qc.2.2.2.2.2.2.2.2.1,.int .i64 0,.string (⟨#[]⟩:ByteArray),.string (⟨#[]⟩:ByteArray),.string (⟨#[]⟩:ByteArray),.string (⟨#[]⟩:ByteArray),.int .i64 0,.int .i64 0,.nilIface,.bool false,.bool false,.bool false,.bool false,.slice vd.1 vd.2.1 vd.2.2] zB (fun Dz=>aq cR (ad g3) Dz (fun(AZ:cz)=>K (.agg (cF AZ).toArray) Dz))))))))))))))))))))))))))))))))))))))))))))))))))))))))))))))
def pl114:aB:=(.seq .auto (.seq (.block (.seq (.held (.soft 0 (.soft 1 (.soft 3 (.soft 4 (.soft 5 (.soft 6 (.pick 2 (.soft 7 (.soft 8 (.soft 9 (.soft 10 (.soft 11 (.soft 12 (.soft 13 (.pick 14 (.soft 15 (.soft 16 .done)) .stop)))))))) .stop)))))))) (.cond .auto (.seq (.held (.soft 0 (.soft 1 (.soft 2 (.soft 3 (.soft 4 (.soft 5 (.pick 6 (.soft 7 (.soft 8 .done)) .stop)))))))) (.cond .auto (.seq (.held (.soft 0 (.soft 1 (.soft 2 (.soft 3 (.soft 4 (.soft 5 (.pick 6 (.soft 7 (.soft 8 (.soft 9 (.pick 10 (.soft 11 (.soft 12 .done)) .stop)))) .stop)))))))) .auto)))))) (.join [(5,.one .ptr)] (.held (.soft 0 (.soft 1 (.soft 2 (.soft 3 (.soft 4 (.soft 5 (.soft 6 (.soft 7 (.soft 8 (.soft 9 (.soft 10 (.soft 11 (.soft 12 (.pick 13 (.soft 14 (.soft 15 (.soft 16 (.soft 17 (.soft 18 (.soft 19 (.soft 20 (.soft 21 (.soft 22 (.soft 23 (.soft 24 (.soft 25 (.soft 26 (.soft 27 (.pick 28 (.pick 29 .done .stop) .stop))))))))))))))) (.pick 28 (.pick 13 (.soft 14 (.soft 15 (.soft 16 (.soft 17 (.soft 18 (.soft 19 (.soft 20 (.soft 21 (.soft 22 (.soft 23 (.soft 24 (.soft 25 (.soft 26 (.soft 27 (.pick 29 .done .stop))))))))))))))) .stop) .stop)))))))))))))))) (.seq (.held (.soft 0 (.soft 1 (.soft 2 (.soft 3 (.soft 4 (.soft 5 (.soft 6 (.soft 7 (.soft 9 (.pick 8 (.pick 10 (.soft 11 (.soft 12 (.soft 13 (.soft 14 (.soft 15 .done))))) .stop) .stop))))))))))) .auto))))
theorem c114 (p0:Addr)(p1:dr)(w:World)(K:Value->World->Prop)(h:C114 p0 p1 w K):Ret Tryz.prog 114 #[.pointer (some p0),.agg (dx p1).toArray] w K:=aC (by kernel_rfl) Tryz.func114 (p:=pl114) (Eq.mpr (by kernel_rfl) h)
def C115 (p0:Addr)(p1:dr)(w:World)(K:Value->World->Prop):Prop:=
 ak (.cells ((dx p1).toArray) 42) w (fun g1 w2=>ak (.cells #[.bool false,.bool false,.int .i64 0,.string (⟨#[]⟩:ByteArray),.string (⟨#[]⟩:ByteArray),.string (⟨#[]⟩:ByteArray),.string (⟨#[]⟩:ByteArray),.int .i64 0,.int .i64 0,.nilIface,.bool false,.int .i64 0,.string (⟨#[]⟩:ByteArray),.string (⟨#[]⟩:ByteArray),.string (⟨#[]⟩:ByteArray),.string (⟨#[]⟩:ByteArray),.int .i64 0,.int .i64 0,.nilIface,.bool false,.bool false,.bool false,.bool false,.slice none 0 0] 113) w2 (fun g3 w4=>ae .ptr (p0.add 17) w4 (fun(x5:Option Addr)=>ab Tryz.prog 27 #[.pointer x5] w4 (.v (.one (.int .i64))) (fun(x6:Int) w7=>aD w7 (fun w8=>aV (fun S9=>av S9 (p0.add 17) (ae .ptr (p0.add 17) w8 (fun(aQ:Option Addr)=>av S9 ((ad g1).add 4) (ae (.int .i64) ((ad g1).add 4) w8 (fun(aX:Int)=>ab Tryz.prog 31 #[.pointer aQ,.int .i64 (IntKind.i64.wrap (aX+1))] w8 (.aN [.one (.int .u64),.one .bool]) (fun(bx:Int×Bool×Unit) aY=>ai S9 w8 aY (aD aY (fun bo=>aV (fun nM=>av nM ((ad g1).add 4) (ae (.int .i64) ((ad g1).add 4) bo (fun(aS:Int)=>av nM (p0.add 16) (ae (.int .i64) (p0.add 16) bo (fun(ba:Int)=>ab Tryz.prog 100 #[.int .i64 aS] bo (.v (.one (.int .i64))) (fun(bB:Int) bu=>ai nM bo bu (aa (bB != ba)
 (ar (ad g3) [.bool false,.bool false,.int .i64 0,.string (⟨#[]⟩:ByteArray),.string (⟨#[]⟩:ByteArray),.string (⟨#[]⟩:ByteArray),.string (⟨#[]⟩:ByteArray),.int .i64 0,.int .i64 0,.nilIface,.bool false,.int .i64 0,.string (⟨#[]⟩:ByteArray),.string (⟨#[]⟩:ByteArray),.string (⟨#[]⟩:ByteArray),.string (⟨#[]⟩:ByteArray),.int .i64 0,.int .i64 0,.nilIface,.bool false,.bool false,.bool true,.bool false,.slice none 0 0] bu (fun bh=>aq cR (ad g3) bh (fun(bY:cz)=>K (.agg (cF bY).toArray) bh)))
 (av nM ((ad g1).add 4) (ae (.int .i64) ((ad g1).add 4) bu (fun(bU:Int)=>aa (decide (bU > x6))
 (ar (ad g3) [.bool false,.bool false,.int .i64 0,.string (⟨#[]⟩:ByteArray),.string (⟨#[]⟩:ByteArray),.string (⟨#[]⟩:ByteArray),.string (⟨#[]⟩:ByteArray),.int .i64 0,.int .i64 0,.nilIface,.bool false,.int .i64 0,.string (⟨#[]⟩:ByteArray),.string (⟨#[]⟩:ByteArray),.string (⟨#[]⟩:ByteArray),.string (⟨#[]⟩:ByteArray),.int .i64 0,.int .i64 0,.nilIface,.bool false,.bool false,.bool true,.bool false,.slice none 0 0] bu (fun cL=>aq cR (ad g3) cL (fun(cm:cz)=>K (.agg (cF cm).toArray) cL)))
 (ae (.int .i64) ((ad g1).add 4) bu (fun(bD:Int)=>aa (decide (bD<x6))
 (ae (.int .u64) ((ad g1).add 5) bu (fun(dc:Int)=>ar (ad g3) [.bool false,.bool false,.int .i64 0,.string (⟨#[]⟩:ByteArray),.string (⟨#[]⟩:ByteArray),.string (⟨#[]⟩:ByteArray),.string (⟨#[]⟩:ByteArray),.int .i64 0,.int .i64 0,.nilIface,.bool false,.int .i64 0,.string (⟨#[]⟩:ByteArray),.string (⟨#[]⟩:ByteArray),.string (⟨#[]⟩:ByteArray),.string (⟨#[]⟩:ByteArray),.int .i64 0,.int .i64 0,.nilIface,.bool false,.bool false,.bool (bx.1 != dc),.bool false,.slice none 0 0] bu (fun eN=>aq cR (ad g3) eN (fun(eR:cz)=>K (.agg (cF eR).toArray) eN))))
 (ae .bool ((p0.add 28).add 8) bu (fun(cB:Bool)=>aa (!cB)
 (ar (ad g3) [.bool false,.bool false,.int .i64 0,.string (⟨#[]⟩:ByteArray),.string (⟨#[]⟩:ByteArray),.string (⟨#[]⟩:ByteArray),.string (⟨#[]⟩:ByteArray),.int .i64 0,.int .i64 0,.nilIface,.bool false,.int .i64 0,.string (⟨#[]⟩:ByteArray),.string (⟨#[]⟩:ByteArray),.string (⟨#[]⟩:ByteArray),.string (⟨#[]⟩:ByteArray),.int .i64 0,.int .i64 0,.nilIface,.bool false,.bool false,.bool true,.bool false,.slice none 0 0] bu (fun bS=>aq cR (ad g3) bS (fun(bZ:cz)=>K (.agg (cF bZ).toArray) bS)))
 (aD bu (fun cU=>aV (fun DN=>av DN ((p0.add 28).add 0) (aq dK ((p0.add 28).add 0) cU (fun(dh:bE)=>av DN ((ad g1).add 6) (ae .bool ((ad g1).add 6) cU (fun(dv:Bool)=>ak (.cells #[.int .i64 0,.string (⟨#[]⟩:ByteArray),.string (⟨#[]⟩:ByteArray),.string (⟨#[]⟩:ByteArray),.string (⟨#[]⟩:ByteArray),.int .i64 0,.int .i64 0,.nilIface,.bool false] 110) cU (fun DO dz=>ai DN cU dz (ar (ad DO) [.int .i64 dh.1,.string dh.2.1,.string dh.2.2.1,.string dh.2.2.2.1,.string dh.2.2.2.2.1,.int .i64 dh.2.2.2.2.2.1,.int .i64 dh.2.2.2.2.2.2.1,dh.2.2.2.2.2.2.2.1,.bool dv] dz (fun ic=>ai DN dz ic (aD ic (fun dO=>aV (fun A7=>av A7 (p0.add 0) (eK 16 (p0.add 0) dO (fun eM=>av A7 (p0.add 17) (ae .ptr (p0.add 17) dO (fun(iA:Option Addr)=>av A7 (ad DO) (aq lS (ad DO) dO (fun(jw:iI)=>ab Tryz.prog 32 #[.pointer iA] dO (.v (.one (.int .u64))) (fun(iY:Int) gr=>ai A7 dO gr (ab Tryz.prog 159 #[.agg eM.toArray,.int .u64 iY,.agg (iX jw).toArray] gr (.aN [.one (.int .u64),.one (.int .i64)]) (fun(kx:Int×Int×Unit) gI=>ai A7 gr gI (aa (kx.2.1 != 0)
 (ar (ad g3) [.bool false,.bool false,.int .i64 0,.string (⟨#[]⟩:ByteArray),.string (⟨#[]⟩:ByteArray),.string (⟨#[]⟩:ByteArray),.string (⟨#[]⟩:ByteArray),.int .i64 0,.int .i64 0,.nilIface,.bool false,.int .i64 0,.string (⟨#[]⟩:ByteArray),.string (⟨#[]⟩:ByteArray),.string (⟨#[]⟩:ByteArray),.string (⟨#[]⟩:ByteArray),.int .i64 0,.int .i64 0,.nilIface,.bool false,.bool false,.bool true,.bool false,.slice none 0 0] gI (fun gF=>aq cR (ad g3) gF (fun(fD:cz)=>K (.agg (cF fD).toArray) gF)))
 (ae (.int .u64) ((ad g1).add 5) gI (fun(iL:Int)=>aa (kx.1 != iL)
 (ar (ad g3) [.bool false,.bool false,.int .i64 0,.string (⟨#[]⟩:ByteArray),.string (⟨#[]⟩:ByteArray),.string (⟨#[]⟩:ByteArray),.string (⟨#[]⟩:ByteArray),.int .i64 0,.int .i64 0,.nilIface,.bool false,.int .i64 0,.string (⟨#[]⟩:ByteArray),.string (⟨#[]⟩:ByteArray),.string (⟨#[]⟩:ByteArray),.string (⟨#[]⟩:ByteArray),.int .i64 0,.int .i64 0,.nilIface,.bool false,.bool false,.bool true,.bool false,.slice none 0 0] gI (fun kB=>aq cR (ad g3) kB (fun(qU:cz)=>K (.agg (cF qU).toArray) kB)))
 (aq lS (ad DO) gI (fun(fY:iI)=>ar (ad g3) [.bool true,.bool false,.int .i64 fY.1,.string fY.2.1,.string fY.2.2.1,.string fY.2.2.2.1,.string fY.2.2.2.2.1,.int .i64 fY.2.2.2.2.2.1,.int .i64 fY.2.2.2.2.2.2.1,fY.2.2.2.2.2.2.2.1,.bool fY.2.2.2.2.2.2.2.2.1,.int .i64 0,.string (⟨#[]⟩:ByteArray),.string (⟨#[]⟩:ByteArray),.string (⟨#[]⟩:ByteArray),.string (⟨#[]⟩:ByteArray),.int .i64 0,.int .i64 0,.nilIface,.bool false,.bool false,.bool false,.bool false,.slice none 0 0] gI (fun gW=>aq cR (ad g3) gW (fun(qx:cz)=>K (.agg (cF qx).toArray) gW))))))))))))))))))))))))))))))))))))))))))))))))))))))))
def pl115:aB:=(.seq .auto (.seq .auto (.seq (.held (.soft 0 (.soft 1 (.soft 2 (.soft 3 (.soft 4 (.soft 5 (.soft 6 (.pick 7 (.soft 8 (.soft 9 (.soft 10 (.soft 11 (.soft 12 .done))))) .stop))))))))) (.seq (.block (.seq (.held (.soft 0 (.soft 1 (.soft 3 (.soft 4 (.soft 5 (.soft 6 (.pick 2 (.soft 7 (.soft 8 (.soft 9 (.soft 10 (.soft 11 (.soft 12 (.soft 13 (.soft 14 .done)))))))) .stop)))))))) .auto)) (.seq (.held (.soft 0 (.soft 1 (.soft 2 (.soft 3 (.soft 4 (.soft 5 (.soft 6 (.soft 7 (.pick 8 (.pick 9 .done .stop) .stop)))))))))) (.seq (.seq (.held (.soft 0 (.soft 1 (.soft 2 (.soft 3 (.soft 4 (.soft 5 (.soft 6 (.soft 7 (.soft 9 (.pick 8 (.pick 10 (.soft 11 (.soft 12 (.soft 13 (.soft 14 (.soft 15 .done))))) .stop) .stop))))))))))) .auto) .auto))))))
theorem c115 (p0:Addr)(p1:dr)(w:World)(K:Value->World->Prop)(h:C115 p0 p1 w K):Ret Tryz.prog 115 #[.pointer (some p0),.agg (dx p1).toArray] w K:=aC (by kernel_rfl) Tryz.func115 (p:=pl115) (Eq.mpr (by kernel_rfl) h)
def C56 (p0:Addr)(p1:dr)(w:World)(K:Value->World->Prop):Prop:=
 ak (.cells ((dx p1).toArray) 42) w (fun g1 w2=>ak (.cells #[.bool false,.bool false,.int .i64 0,.string (⟨#[]⟩:ByteArray),.string (⟨#[]⟩:ByteArray),.string (⟨#[]⟩:ByteArray),.string (⟨#[]⟩:ByteArray),.int .i64 0,.int .i64 0,.nilIface,.bool false,.int .i64 0,.string (⟨#[]⟩:ByteArray),.string (⟨#[]⟩:ByteArray),.string (⟨#[]⟩:ByteArray),.string (⟨#[]⟩:ByteArray),.int .i64 0,.int .i64 0,.nilIface,.bool false,.bool false,.bool false,.bool false,.slice none 0 0] 113) w2 (fun g3 w4=>aD w4 (fun w5=>aV (fun S6=>av S6 (ad g1) (aq fP (ad g1) w5 (fun(x7:dr)=>ab Tryz.prog 109 #[.agg (dx x7).toArray] w5 (.v (.one (.int .i64))) (fun(x8:Int) w9=>ai S6 w5 w9 (aa (x8 != 0)
 (ar (ad g3) [.bool false,.bool false,.int .i64 0,.string (⟨#[]⟩:ByteArray),.string (⟨#[]⟩:ByteArray),.string (⟨#[]⟩:ByteArray),.string (⟨#[]⟩:ByteArray),.int .i64 0,.int .i64 0,.nilIface,.bool false,.int .i64 0,.string (⟨#[]⟩:ByteArray),.string (⟨#[]⟩:ByteArray),.string (⟨#[]⟩:ByteArray),.string (⟨#[]⟩:ByteArray),.int .i64 0,.int .i64 0,.nilIface,.bool false,.bool false,.bool false,.bool false,.slice none 0 0] w9 (fun aG=>aq cR (ad g3) aG (fun(aX:cz)=>K (.agg (cF aX).toArray) aG)))
 (av S6 ((ad g1).add 0) (ae (.int .i64) ((ad g1).add 0) w9 (fun(bx:Int)=>av S6 (p0.add 16) (ae (.int .i64) (p0.add 16) w9 (fun(bz:Int)=>aa (bx==bz)
 (ar (ad g3) [.bool false,.bool false,.int .i64 0,.string (⟨#[]⟩:ByteArray),.string (⟨#[]⟩:ByteArray),.string (⟨#[]⟩:ByteArray),.string (⟨#[]⟩:ByteArray),.int .i64 0,.int .i64 0,.nilIface,.bool false,.int .i64 0,.string (⟨#[]⟩:ByteArray),.string (⟨#[]⟩:ByteArray),.string (⟨#[]⟩:ByteArray),.string (⟨#[]⟩:ByteArray),.int .i64 0,.int .i64 0,.nilIface,.bool false,.bool false,.bool false,.bool false,.slice none 0 0] w9 (fun bo=>aq cR (ad g3) bo (fun(bn:cz)=>K (.agg (cF bn).toArray) bo)))
 (ae (.int .i64) ((ad g1).add 3) w9 (fun(aS:Int)=>aa (aS==4)
 (aq fP (ad g1) w9 (fun(ba:dr)=>ab Tryz.prog 112 #[.pointer (some p0),.agg (dx ba).toArray] w9 (.v (.agg cR)) (fun(bB:cz) bu=>ar (ad g3) (cF bB) bu (fun bh=>aq cR (ad g3) bh (fun(bY:cz)=>K (.agg (cF bY).toArray) bh)))))
 (ae .bool (p0.add 38) w9 (fun(bU:Bool)=>aa bU
 (ar (ad g3) [.bool false,.bool false,.int .i64 0,.string (⟨#[]⟩:ByteArray),.string (⟨#[]⟩:ByteArray),.string (⟨#[]⟩:ByteArray),.string (⟨#[]⟩:ByteArray),.int .i64 0,.int .i64 0,.nilIface,.bool false,.int .i64 0,.string (⟨#[]⟩:ByteArray),.string (⟨#[]⟩:ByteArray),.string (⟨#[]⟩:ByteArray),.string (⟨#[]⟩:ByteArray),.int .i64 0,.int .i64 0,.nilIface,.bool false,.bool false,.bool false,.bool false,.slice none 0 0] w9 (fun cL=>aq cR (ad g3) cL (fun(cm:cz)=>K (.agg (cF cm).toArray) cL)))
 (ae (.int .i64) ((ad g1).add 3) w9 (fun(bD:Int)=>aa (bD==3)
 (aq fP (ad g1) w9 (fun(dc:dr)=>ab Tryz.prog 113 #[.pointer (some p0),.agg (dx dc).toArray] w9 (.v (.agg cR)) (fun(cA:cz) bV=>ar (ad g3) (cF cA) bV (fun eD=>aq cR (ad g3) eD (fun(eB:cz)=>K (.agg (cF eB).toArray) eD)))))
 (ae (.int .i64) ((ad g1).add 3) w9 (fun(bZ:Int)=>aa (bZ==1)
 (aq fP (ad g1) w9 (fun(df:dr)=>ab Tryz.prog 114 #[.pointer (some p0),.agg (dx df).toArray] w9 (.v (.agg cR)) (fun(dA:cz) gJ=>ar (ad g3) (cF dA) gJ (fun dL=>aq cR (ad g3) dL (fun(eg:cz)=>K (.agg (cF eg).toArray) dL)))))
 (aq fP (ad g1) w9 (fun(gP:dr)=>ab Tryz.prog 115 #[.pointer (some p0),.agg (dx gP).toArray] w9 (.v (.agg cR)) (fun(dF:cz) dO=>ar (ad g3) (cF dF) dO (fun dP=>aq cR (ad g3) dP (fun(eM:cz)=>K (.agg (cF eM).toArray) dP))))))))))))))))))))))))))
def pl56:aB:=(.seq .auto (.seq (.block (.seq (.held (.soft 0 (.pick 1 (.soft 2 (.soft 3 (.soft 4 (.soft 5 (.soft 6 (.soft 7 (.soft 8 (.soft 9 (.soft 10 (.soft 11 (.soft 12 .done))))))))))) .stop))) .auto)) .auto))
theorem c56 (p0:Addr)(p1:dr)(w:World)(K:Value->World->Prop)(h:C56 p0 p1 w K):Ret Tryz.prog 56 #[.pointer (some p0),.agg (dx p1).toArray] w K:=aC (by kernel_rfl) Tryz.func56 (p:=pl56) (Eq.mpr (by kernel_rfl) h)
def C148 (p0:Addr)(p1:iI)(w:World)(K:Value->World->Prop):Prop:=
 ak (.cells ((iX p1).toArray) 110) w (fun g1 w2=>aD w2 (fun w3=>aV (fun S4=>av S4 (p0.add 17) (ae .ptr (p0.add 17) w3 (fun(x5:Option Addr)=>av S4 (p0.add 18) (ae .ptr (p0.add 18) w3 (fun(x6:Option Addr)=>ab Tryz.prog 69 #[.pointer x5] w3 (.v (.one .ptr)) (fun(x7:Option Addr) w8=>ai S4 w3 w8 (ab Tryz.prog 83 #[.pointer x6] w8 (.v (.one .ptr)) (fun(x9:Option Addr) aG=>ai S4 w8 aG (ab Tryz.prog 27 #[.pointer x7] aG (.v (.one (.int .i64))) (fun(aX:Int) aL=>ab Tryz.prog 100 #[.int .i64 aX] aL (.v (.one (.int .i64))) (fun(bz:Int) bo=>aq lS (ad g1) bo (fun(bn:iI)=>ab Tryz.prog 189 #[.pointer x7,.agg (iX bn).toArray] bo (.v (.one (.int .i64))) (fun(aS:Int) cj=>aa (aS != 0)
 (K (.int .i64 aS) cj)
 (ae .bool ((ad g1).add 8) cj (fun(bB:Bool)=>aa (!bB)
 (aq dK ((ad g1).add 0) cj (fun(br:bE)=>ab Tryz.prog 190 #[.pointer x9,.agg (bT br).toArray,.int .i64 bz] cj (.v (.one (.int .i64))) (fun(cG:Int) bw=>aa (cG != 0)
 (K (.int .i64 cG) bw)
 (az (p0.add 17) (.pointer x7) bw (fun bJ=>az (p0.add 18) (.pointer x9) bJ (fun cL=>ar (p0.add 28) [.int .i64 0,.string (⟨#[]⟩:ByteArray),.string (⟨#[]⟩:ByteArray),.string (⟨#[]⟩:ByteArray),.string (⟨#[]⟩:ByteArray),.int .i64 0,.int .i64 0,.nilIface,.bool false] cL (fun cg=>az (p0.add 37) (.bool false) cg (fun di=>K (.int .i64 0) di))))))))
 (az (p0.add 17) (.pointer x7) cj (fun cn=>az (p0.add 18) (.pointer x9) cn (fun eN=>ar (p0.add 28) [.int .i64 0,.string (⟨#[]⟩:ByteArray),.string (⟨#[]⟩:ByteArray),.string (⟨#[]⟩:ByteArray),.string (⟨#[]⟩:ByteArray),.int .i64 0,.int .i64 0,.nilIface,.bool false] eN (fun bV=>az (p0.add 37) (.bool false) bV (fun eD=>K (.int .i64 0) eD))))))))))))))))))))))
def pl148:aB:=(.seq .auto (.seq (.held (.soft 0 (.soft 1 (.soft 2 (.soft 3 (.soft 5 (.soft 6 (.soft 7 (.soft 8 (.pick 4 (.pick 9 (.soft 10 (.soft 11 .done)) .stop) .stop)))))))))) .auto))
theorem c148 (p0:Addr)(p1:iI)(w:World)(K:Value->World->Prop)(h:C148 p0 p1 w K):Ret Tryz.prog 148 #[.pointer (some p0),.agg (iX p1).toArray] w K:=aC (by kernel_rfl) Tryz.func148 (p:=pl148) (Eq.mpr (by kernel_rfl) h)
def C92 (p0:Addr)(p1:cz)(w:World)(K:Value->World->Prop):Prop:=
 ak (.cells ((cF p1).toArray) 113) w (fun g1 w2=>cy (Unit) (fun J3=>ae .bool ((ad g1).add 0) w2 (fun(x6:Bool)=>aa x6
 (aq lS ((ad g1).add 2) w2 (fun(x7:iI)=>ab Tryz.prog 148 #[.pointer (some p0),.agg (iX x7).toArray] w2 (.v (.one (.int .i64))) (fun(x8:Int) w9=>aa (x8 != 0)
 (K (.int .i64 x8) w9)
 (J3 (()) w9))))
 (J3 (()) w2)))
 (fun _ s4 w5=>cy (Unit) (fun vQ=>ae .bool ((ad g1).add 1) w5 (fun(bz:Bool)=>aa bz
 (aq dK ((ad g1).add 11) w5 (fun(bg:bE)=>ar (p0.add 28) [.int .i64 bg.1,.string bg.2.1,.string bg.2.2.1,.string bg.2.2.2.1,.string bg.2.2.2.2.1,.int .i64 bg.2.2.2.2.2.1,.int .i64 bg.2.2.2.2.2.2.1,bg.2.2.2.2.2.2.2.1,.bool true] w5 (fun bM=>aD bM (fun bj=>ae .bool ((ad g1).add 19) bj (fun(ba:Bool)=>aa ba
 (az ((ad g1).add 19) (.bool true) bj (fun bt=>vQ (()) bt))
 (ae .bool ((p0.add 19).add 8) bj (fun(br:Bool)=>aa br
 (aq dK ((p0.add 19).add 0) bj (fun(cG:bE)=>aq dK ((ad g1).add 11) bj (fun(bY:bE)=>ab Tryz.prog 149 #[.agg (bT cG).toArray,.agg (bT bY).toArray] bj (.v (.one .bool)) (fun(bU:Bool) cL=>az ((ad g1).add 19) (.bool bU) cL (fun cg=>vQ (()) cg)))))
 (az ((ad g1).add 19) (.bool false) bj (fun di=>vQ (()) di)))))))))
 (vQ (()) w5)))
 (fun _ AV aL=>ae .bool ((ad g1).add 19) aL (fun(dc:Bool)=>aa dc
 (ar (p0.add 19) [.int .i64 0,.string (⟨#[]⟩:ByteArray),.string (⟨#[]⟩:ByteArray),.string (⟨#[]⟩:ByteArray),.string (⟨#[]⟩:ByteArray),.int .i64 0,.int .i64 0,.nilIface,.bool false] aL (fun eN=>cy (Unit) (fun A8=>ae .bool (p0.add 37) eN (fun(bZ:Bool)=>aa bZ
 (az (p0.add 37) (.bool true) eN (fun cU=>A8 (()) cU))
 (ae .bool ((ad g1).add 20) eN (fun(dA:Bool)=>az (p0.add 37) (.bool dA) eN (fun gJ=>A8 (()) gJ)))))
 (fun _ s29 bS=>ae .bool (p0.add 38) bS (fun(dv:Bool)=>aa dv
 (ae .bool ((ad g1).add 22) bS (fun(eg:Bool)=>az (p0.add 38) (.bool (!eg)) bS (fun dz=>K (.int .i64 0) dz)))
 (ae .bool ((ad g1).add 21) bS (fun(dF:Bool)=>aa dF
 (ae .bool ((ad g1).add 22) bS (fun(fk:Bool)=>az (p0.add 38) (.bool (!fk)) bS (fun dP=>K (.int .i64 0) dP)))
 (az (p0.add 38) (.bool false) bS (fun kA=>K (.int .i64 0) kA))))))))
 (cy (Unit) (fun rA=>ae .bool (p0.add 37) aL (fun(gX:Bool)=>aa gX
 (az (p0.add 37) (.bool true) aL (fun iy=>rA (()) iy))
 (ae .bool ((ad g1).add 20) aL (fun(dG:Bool)=>az (p0.add 37) (.bool dG) aL (fun gF=>rA (()) gF)))))
 (fun _ yh gd=>ae .bool (p0.add 38) gd (fun(fD:Bool)=>aa fD
 (ae .bool ((ad g1).add 22) gd (fun(iL:Bool)=>az (p0.add 38) (.bool (!iL)) gd (fun kB=>K (.int .i64 0) kB)))
 (ae .bool ((ad g1).add 21) gd (fun(qU:Bool)=>aa qU
 (ae .bool ((ad g1).add 22) gd (fun(fY:Bool)=>az (p0.add 38) (.bool (!fY)) gd (fun gW=>K (.int .i64 0) gW)))
 (az (p0.add 38) (.bool false) gd (fun gQ=>K (.int .i64 0) gQ)))))))))))
def pl92:aB:=(.seq .auto (.join [] .auto (.join [] (.seq .auto (.cond (.seq .auto (.tail 16)) .auto)) (.seq .auto (.join [] .auto .auto)))))
theorem c92 (p0:Addr)(p1:cz)(w:World)(K:Value->World->Prop)(h:C92 p0 p1 w K):Ret Tryz.prog 92 #[.pointer (some p0),.agg (cF p1).toArray] w K:=aC (by kernel_rfl) Tryz.func92 (p:=pl92) (Eq.mpr (by kernel_rfl) h)
namespace Vc
def putAt:Array Value->Nat->List Value->Array Value
 | cs,_,[]=>cs
 | cs,n,v::vs=>putAt (cs.setIfInBounds n v) (n+1) vs
def rB:List Value->Nat->List Value->List Value
 | l,_,[]=>l
 | l,n,v::vs=>rB (l.set n v) (n+1) vs
theorem Jo:∀ (vs l pre:List Value) (n:Nat),putAt (pre++l).toArray (pre.length+n) vs=(pre++rB l n vs).toArray
 | [],l,pre,n=>rfl
 | v::vs,l,pre,n=>by
  have e:(pre++l).toArray.setIfInBounds (pre.length+n) v=(pre++l.set n v).toArray:=by
   apply Array.ext';rw[Array.toList_setIfInBounds];simp[List.set_append_right]
  rw[putAt,e,rB,<- Jo vs (l.set n v) pre (n+1)];rfl
theorem aaY (l vs:List Value)(n:Nat):putAt l.toArray n vs=(rB l n vs).toArray:=by
 have:=Jo vs l [] n;simpa using this
theorem setCells_at {b off:Nat}{T:TypeId}:∀ (vs:List Value) (w:World) (i:Nat) (cs:Array Value),w.heap[b]? = some (.cells cs T (0,0))->off+i+vs.length<=cs.size->vs.all bK=true ->
  pF w ⟨b,off,none⟩ i vs/\(setCells w ⟨b,off,none⟩ i vs).heap[b]? = some (.cells (putAt cs (off+i) vs) T (0,0))/\Fr (only b) w (setCells w ⟨b,off,none⟩ i vs)/\(setCells w ⟨b,off,none⟩ i vs).heap.size=w.heap.size
 | [],w,i,cs,hb,hl,_=>⟨trivial,hb,Fr.refl _ _,rfl⟩
 | v::vs,w,i,cs,hb,hl,h1=>by
  simp only[List.all_cons,Bool.and_eq_true] at h1;simp only[List.length_cons] at hl;have hs:=heap_setCell_same (i:=off+i) (v:=v) hb;obtain⟨a1,a2,a3,a4⟩:=setCells_at (off:=off) vs (w.setCell ⟨b,off+i,none⟩ v) (i+1) (cs.setIfInBounds (off+i) v) hs (by rw[Array.size_setIfInBounds];omega) h1.2;unfold pF setCells;rw[dT];exact⟨⟨h1.1,by rw[pM hb,Array.getElem?_eq_getElem (show off+i<cs.size by omega)];rfl,yL hb,a1⟩,a2,(yK w b _ v).trans a3,by rw[a4];simp[World.setCell]⟩
theorem ar.at {b off:Nat}{vs:List Value}{w:World}{K:World->Prop}{cs:Array Value}{T:TypeId}(hb:w.heap[b]? = some (.cells cs T (0,0)))(hl:off+vs.length<=cs.size)(h1:vs.all bK=true)
  (h:∀ w1,w1.heap[b]? = some (.cells (putAt cs off vs) T (0,0))->Fr (only b) w w1->w1.heap.size=w.heap.size->K w1):ar ⟨b,off,none⟩ vs w K:=by
 obtain⟨a1,a2,a3,a4⟩:=setCells_at vs w 0 cs hb (by omega) h1;exact⟨a1,h _ a2 a3 a4⟩
end Vc
def iE (p:PeerM)(c l:Nat):List Value:=
 [.int .i64 p.side,.pointer (some ⟨c,0,none⟩),.pointer (some ⟨l,0,none⟩)]++(gV p.off.1.e++([.bool p.off.2]++(gV p.aW.1.e++[.bool p.aW.2,.bool p.wanted,.bool p.bG,.int .i64 p.refused])))
theorem qD (p:PeerM)(c l:Nat):(iE p c l).length=24:=rfl
structure ly (w:World)(F:Nat->Prop)(b:Nat)(p:PeerM)(c l:Nat)(Fc Fl:Nat->Prop):Prop where
 aE:w.heap[b]? = some (.cells (cV p.kb++iE p c l).toArray 138 (0,0))
 ch:jG w Fc c p.kb p.es p.hs
 ld:et w Fl l p.cq
 cf:∀ k,Fc k->F k/\k≠b
 lf:∀ k,Fl k->F k/\k≠b
 mem:F b
def db (w:World)(F:Nat->Prop)(b:Nat)(p:PeerM):Prop:=∃ c l Fc Fl,ly w F b p c l Fc Fl
theorem ly.ag {w w':World}{F T:Nat->Prop}{b:Nat}{p:PeerM}{c l:Nat}{Fc Fl:Nat->Prop}(h:ly w F b p c l Fc Fl)(f:Fr T w w')(hT:∀ k,F k->¬ T k):ly w' F b p c l Fc Fl:=
 ⟨f.ag h.aE (hT b h.mem),h.ch.ag f fun k hk=>hT k (h.cf k hk).1,h.ld.ag f fun k hk=>hT k (h.lf k hk).1,h.cf,h.lf,h.mem⟩
theorem ly.af {w w':World}{F:Nat->Prop}{b:Nat}{p:PeerM}{c l:Nat}{Fc Fl:Nat->Prop}(h:ly w F b p c l Fc Fl)(f:Fr none1 w w'):ly w' F b p c l Fc Fl:=h.ag f fun _ _ t=>t
theorem db.ag {w w':World}{F T:Nat->Prop}{b:Nat}{p:PeerM}(h:db w F b p)(f:Fr T w w')(hT:∀ k,F k->¬ T k):db w' F b p:=by
 obtain⟨c,l,Fc,Fl,h⟩:=h;exact⟨c,l,Fc,Fl,h.ag f hT⟩
theorem db.af {w w':World}{F:Nat->Prop}{b:Nat}{p:PeerM}(h:db w F b p)(f:Fr none1 w w'):db w' F b p:=h.ag f fun _ _ t=>t
theorem db.mono {w:World}{F G:Nat->Prop}{b:Nat}{p:PeerM}(h:db w F b p)(hG:∀ k,F k->G k):db w G b p:=by
 obtain⟨c,l,Fc,Fl,h⟩:=h;exact⟨c,l,Fc,Fl,h.aE,h.ch,h.ld,fun k hk=>⟨hG k (h.cf k hk).1,(h.cf k hk).2⟩,fun k hk=>⟨hG k (h.lf k hk).1,(h.lf k hk).2⟩,hG b h.mem⟩
theorem Jp {kb:List UInt8}(hk:kb.length=16){t:List Value}(i:Nat):(cV kb++t).toArray[16+i]? = t[i]? := by
 have:=kK (kb:=kb);rw[List.getElem?_toArray,List.getElem?_append_right (by omega),this,hk]
 congr 1;omega
theorem ly.cc {w:World}{F:Nat->Prop}{b:Nat}{p:PeerM}{c l:Nat}{Fc Fl:Nat->Prop}(h:ly w F b p c l Fc Fl)(hk:p.kb.length=16)(i:Nat){ck:Ck}{x:ck.C}(hx:(iE p c l)[i]? = some (ck.val x)){K:ck.C->Prop}(k:K x):ae ck ⟨b,16+i,none⟩ w K:=
 ae.of h.aE (by rw[Jp hk];exact hx) k
theorem ly.sA {w:World}{F:Nat->Prop}{b:Nat}{p:PeerM}{c l:Nat}{Fc Fl:Nat->Prop}(h:ly w F b p c l Fc Fl)(hk:p.kb.length=16)(i:Nat){cks:List Ck}(x:Cs cks)(hx:∀ j,j<(Cs.vals cks x).length->(iE p c l)[i+j]? = (Cs.vals cks x)[j]?){K:Cs cks->Prop}(k:K x):aq cks ⟨b,16+i,none⟩ w K:=
 ⟨x,uH h.aE _ _ 0 fun j hj=>by rw[Nat.add_zero,Nat.add_assoc,Jp hk];exact hx j hj,k⟩
theorem ly.key {w:World}{F:Nat->Prop}{b:Nat}{p:PeerM}{c l:Nat}{Fc Fl:Nat->Prop}(h:ly w F b p c l Fc Fl)(hk:p.kb.length=16){K:List Value->Prop}(k:K (cV p.kb)):eK 16 ((⟨b,0,none⟩:Addr).add 0) w K:=by
 refine⟨cV p.kb,by rw[kK,hk],?_,k⟩;rw[dT];refine nY h.aE _ 0 fun j hj=>?_;rw[List.getElem?_toArray,Nat.zero_add,List.getElem?_append_left hj]
theorem A9 (n:Int)(h0:0<=n)(w:World):Ret Tryz.prog 100 #[.int .i64 n] w fun r w'=>r=.int .i64 (PeerM.owner n)/\w=w':=by
 refine c100 n w _ ?_;refine⟨by decide,?_⟩;unfold PeerM.owner;have:Int.tmod n 2=n % 2:=Int.tmod_eq_emod_of_nonneg h0;rw[this];exact aa.eq (fun h=>by rw[if_pos h];exact⟨rfl,rfl⟩) (fun h=>by rw[if_neg h];exact⟨rfl,rfl⟩)
theorem Jq {w:World}{F:Nat->Prop}{b:Nat}{p:PeerM}(h:db w F b p)(hk:p.kb.length=16):Ret Tryz.prog 97 #[.pointer (some ⟨b,0,none⟩)] w fun r w'=>r=.bool p.full/\w=w':=by
 obtain⟨c,l,Fc,Fl,h⟩:=h;refine c97 _ w _ ?_;refine h.cc hk 1 (ck:=.ptr) (x:=some ⟨c,0,none⟩) rfl ?_;refine ab.of (pD hk h.ch) ?_;rintro _ _ ⟨rfl,rfl⟩;refine⟨_,rfl,?_,rfl⟩;unfold PeerM.full
 congr 1
 by_cases h:64<=p.es.length
 ·rw[decide_eq_true h,decide_eq_true (by omega)]
 ·rw[decide_eq_false h,decide_eq_false (by omega)]
def nT (fs:List ct):List Value:=(fs.map fun f=>dI f.f).flatten
theorem yi (f:ct):nT [f]=dI f.f:=by unfold nT;simp
theorem yj:iw Tryz.prog 111 42 15 (.agg #[.int .i64 0,.int .i64 0,.int .i64 0,.int .i64 0,.int .i64 0,.int .u64 0,.bool false,.int .i64 0,.string ⟨#[]⟩,.string ⟨#[]⟩,.string ⟨#[]⟩,.string ⟨#[]⟩,.int .i64 0,.int .i64 0,.nilIface]) 160:=⟨Tryz.underlying111,⟨Tryz.t42,by kernel_rfl,rfl,rfl,rfl⟩,rfl,by decide⟩
theorem Qc (f:ct):(dI f.f).all bK=true:=Hn (Tm.bW _)
theorem Ba (m:aT):(gV m.e).all bK=true:=by
 show(_&&(_&&(_&&(_&&(_&&(_&&(_&&(bK m.t.v&&true))))))))=true;rw[Tm.bW];rfl
theorem DP {w:World}{F:Nat->Prop}{b:Nat}{p:PeerM}(h:db w F b p)(ho:cX p)(kind:Int):Ret Tryz.prog 101 #[.pointer (some ⟨b,0,none⟩),.int .i64 kind] w fun r w'=>r=lH (p.eT kind false bb).f/\Fr none1 w w':=by
 obtain⟨c,l,Fc,Fl,h⟩:=h;have hk:=ho.kb;have kX:=ho.num;refine c101 _ kind w _ ?_;unfold C101;refine ak.of fun g1 w1 dp au f1 _=>aD.of fun w2 _ f2=>aV.of (fun k=>k=b) ?_;have f12:=f1.trans f2;have h2:=h.af f12;have bl:=bL h.aE;refine⟨rfl,h2.cc hk 1 (ck:=.ptr) (x:=some ⟨c,0,none⟩) rfl ⟨rfl,h2.cc hk 1 (ck:=.ptr) (x:=some ⟨c,0,none⟩) rfl ?_⟩⟩;refine ab.of (pD hk h2.ch) ?_;rintro _ _ ⟨rfl,rfl⟩;refine⟨_,rfl,ai.of (Fr.refl _ _) ?_⟩;refine ab.of (DD hk h2.ch ho.hs (by omega)) ?_;rintro _ w3 ⟨rfl,f3⟩;refine⟨_,rfl,ai.of f3 ?_⟩;refine ar.aE ((f2.trans f3).af au) rfl rfl fun w4 dy f4 _=>ai.on f4 (fun k hk q=>by have:k=g1:=q;have:k=b:=hk;omega) ?_;exact aq.aE (cks:=FK) (x:=(p.eT kind false bb).f) dy ⟨rfl,(f12.trans f3).fresh f4 (by omega)⟩
theorem Qd {w:World}{F:Nat->Prop}{b:Nat}{p:PeerM}(h:db w F b p)(ho:cX p)(m:aT):Ret Tryz.prog 102 #[.pointer (some ⟨b,0,none⟩),ix m.e] w fun r w'=>∃ s:Sl,r=.slice s.1 s.2.1 s.2.2/\aF w' 42 15 s (nT [p.eT 1 false m])/\Fr none1 w w'/\∀ k,aw s k->w.heap.size<=k:=by
 refine c102 _ m.e w _ ?_;unfold C102;refine ak.of fun g1 w1 dp au f1 _=>?_;refine ab.of (DP (h.af f1) ho 1) ?_;rintro _ w2 ⟨rfl,f2⟩;refine⟨(p.eT 1 false bb).f,rfl,?_⟩;have f12:=f1.trans f2;refine ak.of fun g5 w3 xD cY f3 _=>ar.aE cY rfl rfl fun w4 dy f4 s4=>?_;have ay:g1≠g5:=by have:=bL au;have:=f2.size;omega
 have e4:lv w4 g1 m:=f4.ag (f3.af (f2.af au)) ay;refine aq.aE (cks:=iu) (x:=m.e) e4 ?_;refine ar.at (off:=7) dy (by show 7+8<=15;decide) (Ba m) fun w5 xE f5 s5=>?_;have e:rB (dI (p.eT 1 false bb).f) 7 (gV m.e)=dI (p.eT 1 false m).f:=rfl;have cY:w5.heap[g5]? = some (.cells (dI (p.eT 1 false m).f).toArray 42 (0,0)):=by rw[<- e,<- aaY];exact xE
 refine aq.aE (cks:=FK) (x:=(p.eT 1 false m).f) cY ?_;obtain⟨s,w6,hr,hs,_,f6,sf⟩:=mR (P:=Tryz.prog) (w:=w5) yj (dI (p.eT 1 false m).f) rfl (by decide);have s1:=f12.size;exact⟨s,w6,hr,s,rfl,by rw[yi];exact hs,(((f12.trans f3).fresh f4 (by omega)).fresh f5 (by show w.heap.size<=g5;omega)).trans f6,fun k hk=>by have:=sf k hk;have:=f3.size;omega⟩
abbrev dY:List Ck:=[.bool,.bool,.int .i64,.str,.str,.str,.str,.int .i64,.int .i64,.raw,.bool,.int .i64,.str,.str,.str,.str,.int .i64,.int .i64,.raw,.bool,.bool,.bool,.bool,.aj]
def mg (a:bX)(s:Sl):Cs dY:=
 (a.da,a.cQ,a.bm.1.e.1,a.bm.1.e.2.1,a.bm.1.e.2.2.1,a.bm.1.e.2.2.2.1,a.bm.1.e.2.2.2.2.1,a.bm.1.e.2.2.2.2.2.1,a.bm.1.e.2.2.2.2.2.2.1,a.bm.1.e.2.2.2.2.2.2.2.1,a.bm.2,a.bN.e.1,a.bN.e.2.1,a.bN.e.2.2.1,a.bN.e.2.2.2.1,a.bN.e.2.2.2.2.1,a.bN.e.2.2.2.2.2.1,a.bN.e.2.2.2.2.2.2.1,a.bN.e.2.2.2.2.2.2.2.1,a.drop,a.wanted,a.bG,a.calm,s,())
def fO (a:bX)(s:Sl):List Value:=Cs.vals dY (mg a s)
def lM (B:Nat)(w:World)(r:Value)(a:bX):Prop:=∃ s:Sl,r=.agg (fO a s).toArray/\aF w 42 15 s (nT a.bO)/\∀ k,aw s k->B<=k
theorem qE {w:World}{a:bX}(h:a.bO=[]):aF w 42 15 (none,0,0) (nT a.bO):=by rw[h];exact .inl ⟨rfl,rfl⟩
theorem aaZ {w:World}{F:Nat->Prop}{b:Nat}{p:PeerM}(h:db w F b p)(ho:cX p)(m:aT)(hm:aK m.t<=1000000)(ht:TabW w):Ret Tryz.prog 103 #[.pointer (some ⟨b,0,none⟩),ix m.e] w fun r w'=>lM w.heap.size w' r (p.kJ m)/\Fr none1 w w':=by
 have hR:=h;obtain⟨c,l,Fc,Fl,h⟩:=h;have hk:=ho.kb;refine c103 _ m.e w _ ?_;unfold C103 PeerM.kJ;refine ak.of fun g1 w1 dp au f1 _=>ak.of fun g3 w2 qk aR f2 _=>aD.of fun w3 _ f3=>?_;have f13:=(f1.trans f2).trans f3;have h3:=h.af f13;have e3:lv w3 g1 m:=(f2.trans f3).af au;refine h3.cc hk 2 (ck:=.ptr) (x:=some ⟨l,0,none⟩) rfl (aq.aE (cks:=iu) (x:=m.e) e3 (h3.cc hk 0 (ck:=.int .i64) (x:=p.side) rfl ?_));refine ab.of (DL h3.ld ho.cq m hm (ht.af f13) p.side) ?_;rintro _ w4 ⟨rfl,f4⟩;have f14:=f13.trans f4;have mW:w.heap.size<=g3:=by have:=f1.size;omega
 refine⟨_,rfl,aa.ne (fun ay=>?_) (fun he=>?_)⟩
 ·rw[if_pos ay]
  refine ar.aE ((f3.trans f4).af aR) rfl rfl fun w5 cY f5 _=>?_;exact aq.aE (cks:=dY) (x:=mg { bH with drop:=true } (none,0,0)) cY ⟨⟨(none,0,0),rfl,qE rfl,fun k t=>(kz k t).elim⟩,f14.fresh f5 mW⟩
 rw[if_neg (fun t=>t he)];refine aD.of fun w5 _ f5=>aV.of (fun k=>k=g1) ?_;have e5:=(e3.af f4).af f5;refine⟨rfl,aq.aE (cks:=iu) (x:=m.e) e5 ⟨rfl,aq.aE (cks:=iu) (x:=m.e) e5 ?_⟩⟩;have f15:=f14.trans f5;refine ab.of (Qd (hR.af f15) ho m) ?_;rintro _ w6 ⟨s,rfl,hs,f6,sf⟩;refine⟨s,rfl,ai.of f6 ?_⟩;refine ar.aE (((f3.trans f4).trans (f5.trans f6)).af aR) rfl (by
  show(_&&(_&&(_&&(_&&(_&&(_&&(_&&(_&&(_&&(_&&(_&&(_&&(_&&(_&&(_&&(_&&(_&&(_&&(bK m.t.v&&(_&&(_&&(_&&(_&&(_&&true))))))))))))))))))))))))=true;rw[Tm.bW];rfl) fun w7 gC f7 s7=>ai.on f7 (fun k hk q=>by have:k=g3:=q;have:k=g1:=hk;have:=bL au;omega) ?_
 refine aq.aE (cks:=dY) (x:=mg { bH with cQ:=true,bN:=m,bO:=[p.eT 1 false m] } s) gC ⟨⟨s,rfl,hs.ag f7 fun k hk q=>?_,fun k hk=>by have:=sf k hk;have:=f15.size;omega⟩,(f15.trans f6).fresh f7 mW⟩
 have:=sf k hk;have:k=g3:=q;have:=bL ((f3.trans (f4.trans f5)).af aR);omega
theorem Jr {w:World}{F:Nat->Prop}{b:Nat}{p:PeerM}(h:db w F b p)(ho:cX p)(n head:Int):Ret Tryz.prog 157 #[.pointer (some ⟨b,0,none⟩),.int .i64 n,.int .u64 head] w fun r w'=>r=.bool (p.qp n head)/\w=w':=by
 obtain⟨c,l,Fc,Fl,h⟩:=h;have hk:=ho.kb;have kX:=ho.num;refine c157 _ n head w _ ?_;unfold C157;refine h.cc hk 1 (ck:=.ptr) (x:=some ⟨c,0,none⟩) rfl ?_;refine ab.of (PV hk h.ch n) ?_;rintro _ _ ⟨rfl,rfl⟩;have e:p.at_ n=((if n<0\/(p.hs.length:Int)<=n then 0 else p.hs.getD n.toNat 0),!decide (n<0\/(p.hs.length:Int)<=n)):=by
  unfold PeerM.at_;split
  ·rename_i h;rw[decide_eq_true h];rfl
  ·rename_i h;rw[decide_eq_false h];rfl
 refine⟨((if n<0\/(p.hs.length:Int)<=n then 0 else p.hs.getD n.toNat 0),!decide (n<0\/(p.hs.length:Int)<=n),()),rfl,?_⟩;unfold PeerM.qp;rw[e];generalize(if n<0\/(p.hs.length:Int)<=n then 0 else p.hs.getD n.toNat 0)=A;generalize(!decide (n<0\/(p.hs.length:Int)<=n))=B;have len:∀ {K:Bool->World->Prop},K (decide (p.len+1<n)) w->ae .ptr ((⟨b,0,none⟩:Addr).add 17) w (fun(x7:Option Addr)=>ab Tryz.prog 27 #[.pointer x7] w (.v (.one (.int .i64))) (fun(x8:Int) w9=>K (decide (n > IntKind.wrap .i64 (x8+1))) w9)):=by
  intro K k;refine h.cc hk 1 (ck:=.ptr) (x:=some ⟨c,0,none⟩) rfl ?_;refine ab.of (pD hk h.ch) ?_;rintro _ _ ⟨rfl,rfl⟩;refine⟨_,rfl,?_⟩;rw[wI (by omega) (by omega)];exact k
 refine aa.by (fun hB=>aa.ne (fun ay=>?_) (fun he=>?_)) (fun hB=>?_)
 ·have hB:B=true:=hB
  have ay:A≠head:=ay;rw[hB,show(A != head)=true by simpa using ay];exact⟨rfl,rfl⟩
 ·have hB:B=true:=hB
  have he:A=head:=he;refine len (K:=fun x w'=>(Value.bool x=Value.bool (B&&A != head||decide (p.len+1<n))/\w=w')) ?_;rw[hB,show(A != head)=false by simpa using he];exact⟨rfl,rfl⟩
 ·have hB:B=false:=hB
  refine len (K:=fun x w'=>(Value.bool x=Value.bool (B&&A != head||decide (p.len+1<n))/\w=w')) ?_;rw[hB];exact⟨rfl,rfl⟩
theorem Qe (a:bX)(s:Sl):(fO a s).all bK=true:=by
 show(_&&(_&&(_&&(_&&(_&&(_&&(_&&(_&&(_&&(bK a.bm.1.t.v&&(_&&(_&&(_&&(_&&(_&&(_&&(_&&(_&&(bK a.bN.t.v&&(_&&(_&&(_&&(_&&(_&&true))))))))))))))))))))))))=true;rw[Tm.bW,Tm.bW];rfl
theorem mh {w wx:World}{g3:Nat}{cs:List Value}(hb:wx.heap[g3]? = some (.cells cs.toArray 113 (0,0)))(hl:cs.length=24)(hg:w.heap.size<=g3)(f:Fr none1 w wx)(a:bX)(s:Sl)(hs:aF wx 42 15 s (nT a.bO))(hd:∀ k,aw s k->k≠g3)(hB:∀ k,aw s k->w.heap.size<=k){A:bX}(e:A=a):
  ar ⟨g3,0,none⟩ (fO a s) wx fun w1=>aq dY ⟨g3,0,none⟩ w1 fun x=>(lM w.heap.size w1 (.agg (Cs.vals dY x).toArray) A/\Fr none1 w w1):=by
 subst e;refine ar.aE hb (by rw[hl];rfl) (Qe A s) fun w1 au f1 _=>aq.aE (cks:=dY) (x:=mg A s) au ⟨⟨s,rfl,hs.ag f1 fun k hk q=>hd k hk q,hB⟩,f.fresh f1 hg⟩
theorem Qf {w wx:World}{g3:Nat}{cs:List Value}{S:Nat->Prop}(hS:¬ S g3)(hb:wx.heap[g3]? = some (.cells cs.toArray 113 (0,0)))(hl:cs.length=24)(hg:w.heap.size<=g3)(f:Fr none1 w wx)(a:bX)(s:Sl)(hs:aF wx 42 15 s (nT a.bO))(hd:∀ k,aw s k->k≠g3)(hB:∀ k,aw s k->w.heap.size<=k){A:bX}(e:A=a):
  ar ⟨g3,0,none⟩ (fO a s) wx fun w1=>ai S wx w1 (aq dY ⟨g3,0,none⟩ w1 fun x=>(lM w.heap.size w1 (.agg (Cs.vals dY x).toArray) A/\Fr none1 w w1)):=by
 subst e;refine ar.aE hb (by rw[hl];rfl) (Qe A s) fun w1 au f1 _=>ai.on f1 (fun k hk q=>hS (by have:k=g3:=q;rw[<- this];exact hk)) (aq.aE (cks:=dY) (x:=mg A s) au ⟨⟨s,rfl,hs.ag f1 fun k hk q=>hd k hk q,hB⟩,f.fresh f1 hg⟩)
theorem rC {B:Nat}:∀ k,aw (none,0,0) k->B<=k:=fun k t=>(kz k t).elim
theorem rD {g:Nat}:∀ k,aw (none,0,0) k->k≠g:=fun k t=>(kz k t).elim
def oJ (w:World)(g:Nat)(f:ct):Prop:=w.heap[g]? = some (.cells (dI f.f).toArray 42 (0,0))
theorem oJ.af {w w':World}{g:Nat}{f:ct}(h:oJ w g f)(q:Fr none1 w w'):oJ w' g f:=q.af h
theorem aa0 {w:World}{F:Nat->Prop}{b:Nat}{p:PeerM}(h:db w F b p)(ho:cX p)(f:ct):Ret Tryz.prog 113 #[.pointer (some ⟨b,0,none⟩),lH f.f] w fun r w'=>lM w.heap.size w' r (p.want f)/\Fr none1 w w':=by
 have hR:=h;obtain⟨c,l,Fc,Fl,h⟩:=h;have hk:=ho.kb;refine c113 _ f.f w _ ?_;unfold C113;refine ak.of fun g1 w1 dp au f1 _=>ak.of fun g3 w2 qk aR f2 _=>?_;have f12:=f1.trans f2;have a2:oJ w2 g1 f:=f2.af au;have mW:w.heap.size<=g3:=by have:=f1.size;omega
 refine ae.ah a2 (x:=f.2.2.2.2.1) rfl (ae.ah a2 (x:=f.2.2.2.2.2.1) rfl ?_);refine ab.of (Jr (hR.af f12) ho _ _) ?_;rintro _ _ ⟨rfl,rfl⟩;refine⟨_,rfl,aa.by (fun hs=>?_) (fun hs=>?_)⟩
 ·exact mh aR rfl mW f12 { bH with bG:=true } (none,0,0) (qE rfl) rD rC (by unfold PeerM.want;rw[if_pos hs])
 have e0:p.want f={ bH with wanted:=f.2.2.2.2.1==p.len&&PeerM.owner f.2.2.2.2.1==p.side }:=by unfold PeerM.want;rw[if_neg (by rw[hs];simp)]
 refine aD.of fun w3 _ f3=>aV.of (fun k=>k=g1\/k=b) ?_;have f13:=f12.trans f3;have a3:=a2.af f3;have h3:=h.af f13;have hS:¬ (g3=g1\/g3=b):=by have:=bL au;have:=bL h.aE;omega
 refine⟨.inl rfl,ae.ah a3 (x:=f.2.2.2.2.1) rfl ⟨.inr rfl,h3.cc hk 1 (ck:=.ptr) (x:=some ⟨c,0,none⟩) rfl ?_⟩⟩;refine ab.of (pD hk h3.ch) ?_;rintro _ _ ⟨rfl,rfl⟩;refine⟨_,rfl,ai.of (Fr.refl _ _) (aa.eq (fun he=>?_) (fun he=>?_))⟩
 ·have he:f.2.2.2.2.1=p.len:=he
  refine⟨.inl rfl,ae.ah a3 (x:=f.2.2.2.2.1) rfl ⟨.inr rfl,h3.cc hk 0 (ck:=.int .i64) (x:=p.side) rfl ?_⟩⟩;refine ab.of (A9 f.2.2.2.2.1 (by rw[he];unfold PeerM.len;omega) w3) ?_;rintro _ _ ⟨rfl,rfl⟩;refine⟨_,rfl,ai.of (Fr.refl _ _) ?_⟩;exact Qf hS (f3.af aR) rfl mW f13 { bH with wanted:=PeerM.owner f.2.2.2.2.1==p.side } (none,0,0) (qE rfl) rD rC (by rw[e0,he];simp)
 ·have he:f.2.2.2.2.1≠p.len:=he
  exact Qf hS (f3.af aR) rfl mW f13 bH (none,0,0) (qE rfl) rD rC (by rw[e0,show(f.2.2.2.2.1==p.len)=false by simpa using he];rfl)
theorem aa1 {w:World}{v:Sl}{vs:List (List Value)}{s:Nat}(h:du w s v vs.flatten)(qM:0<s)(hs:∀ l∈vs,l.length=s){i:Nat}{l:List Value}(hx:vs[i]? = some l){K:Addr->Prop}
  (k:∀ a:Addr,(∀ {j:Nat} {c:Ck} {y:c.C} {M:c.C->Prop},l[j]? = some (c.val y)->M y->ae c (a.add j) w M)->K a):bQ v.1 v.2.1 (i:Int) s K:=by
 have hl:=x0 hs;rw[h.1] at hl;have hl:=Nat.eq_of_mul_eq_mul_right qM hl;have hi:=(List.getElem?_eq_some_iff.1 hx).1;cases hv:v.1 with
 | none=>have:=(h.2.1 hv).1;omega
 | some p=>
  refine⟨p,rfl,by omega,by omega,?_⟩;rw[Int.toNat_natCast];refine k _ fun{j c y M} hj hm=>⟨y,?_,hm⟩;have hc:=zV (i * s) _ 0 (h.2.2 p hv);rw[Nat.zero_add,GI vs i hs] at hc;have hc:=wD _ 0 j (c.val y) (xA (m:=i * s) _ 0 hc) ?_
  ·rw[Nat.zero_add] at hc;exact hc
  ·obtain⟨h1,h2⟩:=List.getElem?_eq_some_iff.1 hx
   rw[List.drop_eq_getElem_cons h1,h2,List.flatten_cons,List.getElem?_append_left (List.getElem?_eq_some_iff.1 hj).1];exact hj
theorem aa2 (es:List fw):∀ l∈es.map jq,l.length=9:=by intro l hl;obtain⟨x,_,rfl⟩:=List.mem_map.1 hl;rfl
theorem aa3 {p:PeerM}(n:Int):p.at_ n=((if n<0\/(p.hs.length:Int)<=n then 0 else p.hs.getD n.toNat 0),!decide (n<0\/(p.hs.length:Int)<=n)):=by
 unfold PeerM.at_;split
 ·rename_i h;rw[decide_eq_true h];rfl
 ·rename_i h;rw[decide_eq_false h];rfl
theorem Qg {w:World}{F:Nat->Prop}{c:Nat}{p:PeerM}(hk:p.kb.length=16)(h:jG w F c p.kb p.es p.hs)(n:Int):Ret Tryz.prog 31 #[.pointer (some ⟨c,0,none⟩),.int .i64 n] w fun r w'=>r=.tuple #[.int .u64 (p.at_ n).1,.bool (p.at_ n).2]/\w=w':=by
 rw[aa3];exact PV hk h n
theorem aa4 {w:World}{F:Nat->Prop}{b:Nat}{p:PeerM}(h:db w F b p)(ho:cX p)(n:Int)(h0:0<=n)(h1:n<p.len):Ret Tryz.prog 158 #[.pointer (some ⟨b,0,none⟩),.int .i64 n] w fun r w'=>∃ s:Sl,r=.slice s.1 s.2.1 s.2.2 /\
  aF w' 42 15 s (nT [PeerM.fr 2 n (p.at_ (n+1)).1 (p.es.getD n.toNat (bb,false)).2 bb])/\Fr none1 w w'/\∀ k,aw s k->w.heap.size<=k:=by
 obtain⟨c,l,Fc,Fl,h⟩:=h;have hk:=ho.kb;have kX:=ho.num;unfold PeerM.len at h1;refine c158 _ n w _ ?_;unfold C158;refine h.cc hk 1 (ck:=.ptr) (x:=some ⟨c,0,none⟩) rfl ?_;rw[wI (by omega) (by omega)];refine ab.of (Qg hk h.ch (n+1)) ?_;rintro _ _ ⟨rfl,rfl⟩;refine⟨((p.at_ (n+1)).1,(p.at_ (n+1)).2,()),rfl,?_⟩;refine h.cc hk 1 (ck:=.ptr) (x:=some ⟨c,0,none⟩) rfl ?_;refine ab.of (aaC hk h.ch (by omega)) ?_;rintro _ w1 ⟨u,rfl,hu,f1,uf⟩;refine⟨u,rfl,?_⟩;obtain⟨i,rfl⟩:∃ i:Nat,n=i:=⟨n.toNat,by omega⟩;have hi:i<p.es.length:=by omega
 obtain⟨x,hx⟩:∃ x,p.es[i]? = some x:=⟨_,List.getElem?_eq_getElem hi⟩;refine aa1 (vs:=p.es.map jq) hu.rd (by decide) (aa2 _) (by rw[List.getElem?_map,hx];rfl) fun a ha=>ha (j:=8) (y:=x.2) rfl ?_;obtain⟨s,w2,hr,hs,_,f2,sf⟩:=mR (P:=Tryz.prog) (w:=w1) yj (dI (PeerM.fr 2 i (p.at_ (i+1)).1 x.2 bb).f) rfl (by decide);refine⟨s,w2,hr,s,rfl,?_,f1.trans f2,fun k hk=>by have:=sf k hk;have:=f1.size;omega⟩;rw[yi,Int.toNat_natCast,List.getD_eq_getElem?_getD,hx];exact hs
theorem aa5 {w:World}{F:Nat->Prop}{b:Nat}{p:PeerM}(h:db w F b p)(ho:cX p)(ht:TabW w):Ret Tryz.prog 47 #[.pointer (some ⟨b,0,none⟩)] w fun r w'=>lM w.heap.size w' r p.tick/\Fr none1 w w':=by
 have hR:=h;obtain⟨c,l,Fc,Fl,h⟩:=h;have hk:=ho.kb;have kX:=ho.num;refine c47 _ w _ ?_;unfold C47;refine ak.of fun g1 w1 dp au f1 _=>aD.of fun w2 _ f2=>aV.all ?_;have f12:=f1.trans f2;have aI:=f2.af au;have h2:=h.af f12;have uj:w.heap.size<=g1:=by omega
 refine av.all (h2.cc hk 1 (ck:=.ptr) (x:=some ⟨c,0,none⟩) rfl (av.all (h2.cc hk 0 (ck:=.int .i64) (x:=p.side) rfl ?_)));refine ab.of (pD hk h2.ch) ?_;rintro _ _ ⟨rfl,rfl⟩;refine⟨_,rfl,ai.of (Fr.refl _ _) ?_⟩;refine ab.of (A9 (p.es.length:Int) (by omega) w2) ?_;rintro _ _ ⟨rfl,rfl⟩;refine⟨_,rfl,?_⟩
 try refine ai.of (Fr.refl _ _) ?_
 have fresh:∀ {wx wy:World} {s:Sl},Fr none1 w2 wx->(∀ k,aw s k->wx.heap.size<=k)->∀ k,aw s k->k≠g1:=fun f sf k hk=>by have:=sf k hk;have:=bL aI;have:=f.size;omega
 refine h2.cc hk 22 (ck:=.bool) (x:=p.bG) rfl (aa.by (fun hq=>?_) (fun hq=>?_))
 ·refine ab.of (DP (hR.af f12) ho 4) ?_
  rintro _ w3 ⟨rfl,f3⟩;refine⟨(p.eT 4 false bb).f,rfl,?_⟩;refine ak.of fun g5 w4 xD cY f4 _=>ar.aE cY rfl rfl fun w5 cY f5 s5=>?_;have cY:w5.heap[g5]? = some (.cells (dI (p.eT 4 false bb).f).toArray 42 (0,0)):=cY;refine az.ah cY (by show 0+6<15;decide) rfl fun w6 fq f6 s6=>?_;have fq:w6.heap[g5]? = some (.cells (dI (p.eT 4 true bb).f).toArray 42 (0,0)):=fq;refine aq.aE (cks:=FK) (x:=(p.eT 4 true bb).f) fq ?_;obtain⟨s,w7,hr,hs,_,f7,sf⟩:=mR (P:=Tryz.prog) (w:=w6) yj (dI (p.eT 4 true bb).f) rfl (by decide);refine⟨s,w7,hr,?_⟩;have l2:=bL aI;have z3:=f3.size;have f26:Fr none1 w2 w6:=((f3.trans f4).fresh f5 (by omega)).fresh f6 (by omega);exact mh ((f26.trans f7).af aI) rfl uj ((f12.trans f26).trans f7) { bH with bO:=[p.eT 4 true bb] } s (by rw[yi];exact hs) (fun k hk=>by have:=sf k hk;have:=f26.size;omega) (fun k hk=>by have:=sf k hk;have:=f26.size;have:=f12.size;omega) (by unfold PeerM.tick;rw[if_pos hq])
 have q1:¬ p.bG=true:=by rw[hq];simp
 refine ab.of (Jq (hR.af f12) hk) ?_;rintro _ _ ⟨rfl,rfl⟩;refine⟨_,rfl,aa.by (fun hf=>?_) (fun hf=>?_)⟩
 ·exact mh aI rfl uj f12 bH (none,0,0) (qE rfl) rD rC (by unfold PeerM.tick;rw[if_neg q1,if_pos hf])
 have q2:¬ p.full=true:=by rw[hf];simp
 refine h2.cc hk 20 (ck:=.bool) (x:=p.aW.2) rfl (aa.by (fun hp=>?_) (fun hp=>?_))
 ·refine h2.sA hk 12 (cks:=iu) p.aW.1.e (fun j hj=>?_) ?_
  ·match j,hj with
   | 0,_=>rfl
   | 1,_=>rfl
   | 2,_=>rfl
   | 3,_=>rfl
   | 4,_=>rfl
   | 5,_=>rfl
   | 6,_=>rfl
   | 7,_=>rfl
  refine ab.of (Qd (hR.af f12) ho p.aW.1) ?_;rintro _ w3 ⟨s,rfl,hs,f3,sf⟩;refine⟨s,rfl,?_⟩;exact mh (f3.af aI) rfl uj (f12.trans f3) { bH with bO:=[p.eT 1 false p.aW.1] } s hs (fun k hk=>by have:=sf k hk;have:=bL aI;omega) (fun k hk=>by have:=sf k hk;have:=f12.size;omega) (by unfold PeerM.tick;rw[if_neg q1,if_neg q2,if_pos hp])
 have q3:¬ p.aW.2=true:=by have hp:p.aW.2=false:=hp;rw[hp];simp
 have e0:p.tick=if PeerM.owner p.len=p.side/\p.off.2=true then p.kJ p.off.1 else if PeerM.owner p.len=p.side/\p.wanted=true then p.kJ vD else if PeerM.owner p.len≠p.side/\p.off.2=true then{ bH with bO:=[p.eT 3 false bb] } else bH:=by
  conv=>lhs;unfold PeerM.tick
  rw[if_neg q1,if_neg q2,if_neg q3]
 have hlen:PeerM.owner (p.es.length:Int)=PeerM.owner p.len:=rfl;rw[hlen];generalize PeerM.owner p.len=O at *
 -- a acQ, told through the cell
 have Qh:∀ (m:aT),aK m.t<=1000000->p.tick=p.kJ m->ab Tryz.prog 103 #[.pointer (some ⟨b,0,none⟩),ix m.e] w2 (.v (.agg dY)) fun(x:Cs dY) w3=>ar ⟨g1,0,none⟩ (Cs.vals dY x) w3 fun w4=>aq dY ⟨g1,0,none⟩ w4 fun(y:Cs dY)=>(lM w.heap.size w4 (.agg (Cs.vals dY y).toArray) p.tick/\Fr none1 w w4):=by
  intro m hm e;refine ab.of (aaZ (hR.af f12) ho m hm (ht.af f12)) ?_;rintro _ w3 ⟨⟨s,rfl,hs,sf⟩,f3⟩;refine⟨mg (p.kJ m) s,rfl,?_⟩;exact mh (f3.af aI) rfl uj (f12.trans f3) (p.kJ m) s hs (fun k hk q=>by have:=sf k hk;have:=bL aI;omega) (fun k hk=>by have:=sf k hk;have:=f12.size;omega) e
 refine cy.of (fun st w'=>st.1=decide (O=p.side/\p.off.2=true)/\w2=w') ?_ ?_
 ·refine aa.eq (fun hO=>h2.cc hk 11 (ck:=.bool) (x:=p.off.2) rfl ⟨?_,rfl⟩) (fun hO=>⟨?_,rfl⟩)
  ·have hO:O=p.side:=hO
   simp[hO]
  ·have hO:O≠p.side:=hO
   simp[hO]
 rintro _ ⟨st,_⟩ _ ⟨dD,rfl⟩;dsimp only at dD ⊢;subst dD;refine aa.dec (fun h1=>?_) (fun h1=>?_)
 ·refine h2.sA hk 3 (cks:=iu) p.off.1.e (fun j hj=>?_) ?_
  ·match j,hj with
   | 0,_=>rfl
   | 1,_=>rfl
   | 2,_=>rfl
   | 3,_=>rfl
   | 4,_=>rfl
   | 5,_=>rfl
   | 6,_=>rfl
   | 7,_=>rfl
  exact Qh p.off.1 ho.off.2.2.2.2 (by rw[e0,if_pos h1])
 refine cy.of (fun st w'=>st.1=decide (O=p.side/\p.wanted=true)/\w2=w') ?_ ?_
 ·refine aa.eq (fun hO=>h2.cc hk 21 (ck:=.bool) (x:=p.wanted) rfl ⟨?_,rfl⟩) (fun hO=>⟨?_,rfl⟩)
  ·have hO:O=p.side:=hO
   simp[hO]
  ·have hO:O≠p.side:=hO
   simp[hO]
 rintro _ ⟨st,_⟩ _ ⟨dD,rfl⟩;dsimp only at dD ⊢;subst dD;refine aa.dec (fun h3=>?_) (fun h3=>?_)
 ·exact Qh vD (by decide) (by rw[e0,if_neg h1,if_pos h3])
 refine aa.not (aa.eq (fun hO=>?_) (fun hO=>?_))
 ·have hO:O=p.side:=hO
  exact mh aI rfl uj f12 bH (none,0,0) (qE rfl) rD rC (by rw[e0,if_neg h1,if_neg h3,if_neg (fun t=>t.1 hO)])
 have hO:O≠p.side:=hO;refine h2.cc hk 11 (ck:=.bool) (x:=p.off.2) rfl (aa.by (fun hw=>?_) (fun hw=>?_))
 ·have hw:p.off.2=true:=hw
  refine ab.of (DP (hR.af f12) ho 3) ?_;rintro _ w3 ⟨rfl,f3⟩;refine⟨(p.eT 3 false bb).f,rfl,?_⟩;obtain⟨s,w4,hr,hs,_,f4,sf⟩:=mR (P:=Tryz.prog) (w:=w3) yj (dI (p.eT 3 false bb).f) rfl (by decide);refine⟨s,w4,hr,?_⟩;exact mh ((f3.trans f4).af aI) rfl uj ((f12.trans f3).trans f4) { bH with bO:=[p.eT 3 false bb] } s (by rw[yi];exact hs) (fun k hk=>by have:=sf k hk;have:=bL aI;have:=f3.size;omega) (fun k hk=>by have:=sf k hk;have:=f12.size;have:=f3.size;omega) (by rw[e0,if_neg h1,if_neg h3,if_pos ⟨hO,hw⟩])
 ·have hw:p.off.2=false:=hw
  exact mh aI rfl uj f12 bH (none,0,0) (qE rfl) rD rC (by rw[e0,if_neg h1,if_neg h3,if_neg (fun t=>by rw[hw] at t;exact absurd t.2 (by simp))])
theorem DQ (a:bX)(s:Sl)(n:Nat)(v:Value):(fO a s).toArray.setIfInBounds n v=((fO a s).set n v).toArray:=by simp
theorem pE (a:bX)(s:Sl):fO a s=[.bool a.da,.bool a.cQ,.int .i64 a.bm.1.1,.string (str a.bm.1.2.1),.string (str a.bm.1.2.2.1),.string (str a.bm.1.2.2.2.1),.string (str a.bm.1.2.2.2.2.1),.int .i64 a.bm.1.2.2.2.2.2.1,.int .i64 a.bm.1.2.2.2.2.2.2.1,a.bm.1.2.2.2.2.2.2.2.v,.bool a.bm.2,.int .i64 a.bN.1,.string (str a.bN.2.1),.string (str a.bN.2.2.1),.string (str a.bN.2.2.2.1),.string (str a.bN.2.2.2.2.1),.int .i64 a.bN.2.2.2.2.2.1,.int .i64 a.bN.2.2.2.2.2.2.1,a.bN.2.2.2.2.2.2.2.v,.bool a.drop,.bool a.wanted,.bool a.bG,.bool a.calm,.slice s.1 s.2.1 s.2.2]:=rfl
theorem aa6 (a:bX)(s:Sl)(v:Bool):(fO a s).set 21 (.bool v)=fO { a with bG:=v } s:=by rw[pE,pE];rfl
theorem aa7 (a:bX)(s:Sl)(v:Bool):(fO a s).set 22 (.bool v)=fO { a with calm:=v } s:=by rw[pE,pE];rfl
theorem aa8 (a:bX)(s t:Sl):(fO a s).set 23 (.slice t.1 t.2.1 t.2.2)=fO a t:=by rw[pE,pE];rfl
theorem aa9 (a:bX)(s:Sl)(x:List ct):fO { a with bO:=x } s=fO a s:=rfl
theorem DR (a:bX)(s:Sl):(fO a s).toArray.size=24:=rfl
theorem aba {w:World}{F:Nat->Prop}{b:Nat}{p:PeerM}(h:db w F b p)(ho:cX p)(f:ct):Ret Tryz.prog 112 #[.pointer (some ⟨b,0,none⟩),lH f.f] w fun r w'=>lM w.heap.size w' r (p.lI f)/\Fr none1 w w':=by
 have hR:=h;obtain⟨c,l,Fc,Fl,h⟩:=h;have hk:=ho.kb;refine c112 _ f.f w _ ?_;unfold C112;refine ak.of fun g1 w1 dp au f1 _=>ak.of fun g3 w2 qk aR f2 _=>ak.of fun g5 w3 xD cY f3 _=>ar.aE cY rfl rfl fun w4 cY f4 s4=>?_;have z1:=f1.size;have z3:=f3.size;have l1:=bL au;have l3:=bL aR;have n13:g1≠g3:=by omega
 have Js:g1≠g5:=by omega
 have DS:g3≠g5:=by omega
 have f14:Fr none1 w w4:=((f1.trans f2).trans f3).fresh f4 (by omega);have a4:oJ w4 g1 f:=f4.ag (f3.af (f2.af au)) Js;have Jt:=f4.ag (f3.af aR) DS;have Ju:w4.heap[g5]? = some (.cells (fO bH (none,0,0)).toArray 113 (0,0)):=cY;have l5:=bL Ju
 -- the end: DT is said
 have fin:∀ {wx:World} (A:bX),A.bO=[]->Fr none1 w wx->oJ wx g1 f->wx.heap[g3]? = w4.heap[g3]? -> w4.heap.size<=wx.heap.size->wx.heap[g5]? = some (.cells (fO A (none,0,0)).toArray 113 (0,0))->p.lI f={ A with bO:=if f.2.2.2.2.2.2.1=true then[p.eT 4 false bb] else[] } ->
   ae .bool ((⟨g1,0,none⟩:Addr).add 6) wx (fun(bz:Bool)=>aa bz
    (ab Tryz.prog 101 #[.pointer (some ⟨b,0,none⟩),.int .i64 4] wx (.v (.agg FK)) (fun(bg:Cs FK) bM=>aA Tryz.prog (Instr.buildSlice 111 1 #[(0,.agg (Cs.vals FK bg).toArray)]) bM (.v (.one .aj)) (fun(aS:Option Addr×Nat×Nat) cj=>
     az ((⟨g5,0,none⟩:Addr).add 23) (.slice aS.1 aS.2.1 aS.2.2) cj (fun bt=>aq dY ⟨g5,0,none⟩ bt (fun(br:Cs dY)=>ar ⟨g3,0,none⟩ (Cs.vals dY br) bt (fun bh=>aq dY ⟨g3,0,none⟩ bh (fun(bY:Cs dY)=>(lM w.heap.size bh (.agg (Cs.vals dY bY).toArray) (p.lI f)/\Fr none1 w bh))))))))
    (aq dY ⟨g5,0,none⟩ wx (fun(bU:Cs dY)=>ar ⟨g3,0,none⟩ (Cs.vals dY bU) wx (fun cL=>aq dY ⟨g3,0,none⟩ cL (fun(cm:Cs dY)=>(lM w.heap.size cL (.agg (Cs.vals dY cm).toArray) (p.lI f)/\Fr none1 w cL)))))):=by
  intro wx A hA fx ax Jv zx Jw e;rw[Jt] at Jv;refine ae.ah ax (x:=f.2.2.2.2.2.2.1) rfl (aa.by (fun hf=>?_) (fun hf=>?_))
  ·have hf:f.2.2.2.2.2.2.1=true:=hf
   rw[if_pos hf] at e;refine ab.of (DP (hR.af fx) ho 4) ?_;rintro _ wy ⟨rfl,fy⟩;refine⟨(p.eT 4 false bb).f,rfl,?_⟩;obtain⟨s,wz,hr,hs,_,fz,sf⟩:=mR (P:=Tryz.prog) (w:=wy) yj (dI (p.eT 4 false bb).f) rfl (by decide);refine⟨s,wz,hr,?_⟩;have Jx:=fy.trans fz;have zy:=fy.size;have lx:=bL Jw;refine az.ah (Jx.af Jw) (by rw[DR];decide) rfl fun wa DU fa sa=>?_;rw[Nat.zero_add,DQ,aa8,<- aa9 A s [p.eT 4 false bb]] at DU;refine aq.aE (cks:=dY) (x:=mg { A with bO:=[p.eT 4 false bb] } s) DU ?_
   have g5n:∀ k,aw s k->k≠g5:=fun k hk=>by have:=sf k hk;omega
   exact mh (fa.ag (Jx.af Jv) DS) rfl (by omega) ((fx.trans Jx).fresh fa (by omega)) { A with bO:=[p.eT 4 false bb] } s (by rw[yi];exact hs.ag fa fun k hk q=>g5n k hk q) (fun k hk=>by have:=sf k hk;omega) (fun k hk=>by have:=sf k hk;have:=fx.size;omega) e
  ·have hf:f.2.2.2.2.2.2.1=false:=hf
   rw[if_neg (by rw[hf];simp)] at e;refine aq.aE (cks:=dY) (x:=mg A (none,0,0)) Jw ?_;exact mh Jv rfl (by omega) fx A (none,0,0) (qE hA) rD rC (by rw[e];cases A;simp only at hA;subst hA;rfl)
 have e0:p.lI f={ bH with bG:=p.qp f.2.2.2.2.1 f.2.2.2.2.2.1,calm:=!p.qp f.2.2.2.2.1 f.2.2.2.2.2.1&&(f.2.2.2.2.1==p.len&&p.bG),bO:=if f.2.2.2.2.2.2.1=true then[p.eT 4 false bb] else[] }:=rfl
 refine ae.ah a4 (x:=f.2.2.2.2.1) rfl (ae.ah a4 (x:=f.2.2.2.2.2.1) rfl ?_);refine ab.of (Jr (hR.af f14) ho _ _) ?_;rintro _ _ ⟨rfl,rfl⟩;generalize p.qp f.2.2.2.2.1 f.2.2.2.2.2.1=S at *;refine⟨S,rfl,aa.by (fun hs=>?_) (fun hs=>?_)⟩
 ·have hs:S=true:=hs
  subst hs;refine az.ah Ju (by rw[DR];decide) rfl fun w5 xE f5 s5=>?_;rw[Nat.zero_add,DQ,aa6] at xE;exact fin { bH with bG:=true } rfl (f14.fresh f5 (by omega)) (f5.ag a4 Js) (f5.block g3 (by have:=bL Jt;omega) DS) (by omega) xE (by rw[e0];rfl)
 have hs:S=false:=hs;subst hs;refine aD.of fun w5 rz f5=>aV.all ?_;have f15:=f14.trans f5;have h5:=h.af f15;have a5:=a4.af f5;have Qi:=f5.af Ju;have z5:w5.heap.size=w4.heap.size:=by rw[rz]
 refine av.all (ae.ah a5 (x:=f.2.2.2.2.1) rfl (av.all (h5.cc hk 1 (ck:=.ptr) (x:=some ⟨c,0,none⟩) rfl ?_)));refine ab.of (pD hk h5.ch) ?_;rintro _ _ ⟨rfl,rfl⟩;refine⟨_,rfl,?_⟩
 try refine ai.of (Fr.refl _ _) ?_
 refine aa.eq (fun he=>?_) (fun he=>?_)
 ·have he:f.2.2.2.2.1=p.len:=he
  refine h5.cc hk 22 (ck:=.bool) (x:=p.bG) rfl ?_;refine az.ah Qi (by rw[DR];decide) rfl fun w6 fq f6 s6=>?_;rw[Nat.zero_add,DQ,aa7] at fq;exact fin { bH with calm:=p.bG } rfl (f15.fresh f6 (by omega)) (f6.ag a5 Js) (by rw[f6.block g3 (by have:=bL Jt;omega) DS,rz]) (by omega) fq (by rw[e0,he];simp[bH])
 ·have he:f.2.2.2.2.1≠p.len:=he
  exact fin bH rfl f15 a5 (by rw[rz]) (by omega) Qi (by rw[e0,show(f.2.2.2.2.1==p.len)=false by simpa using he];rfl)
theorem abb {w:World}{F:Nat->Prop}{b:Nat}{p:PeerM}(h:db w F b p)(ho:cX p)(ht:TabW w)(f:ct)(h0:0<=f.2.2.2.2.1)(h9:f.2.2.2.2.1<=1000000000000000):Ret Tryz.prog 115 #[.pointer (some ⟨b,0,none⟩),lH f.f] w fun r w'=>lM w.heap.size w' r (p.pq f)/\Fr none1 w w':=by
 have hR:=h;obtain⟨c,l,Fc,Fl,h⟩:=h;have hk:=ho.kb;have kX:=ho.num;refine c115 _ f.f w _ ?_;unfold C115;refine ak.of fun g1 w1 dp au f1 _=>ak.of fun g3 w2 qk aR f2 _=>?_;have f12:=f1.trans f2;have h2:=h.af f12;have a2:oJ w2 g1 f:=f2.af au;have bl:=bL h.aE;have l1:=bL au;have l3:=bL aR;have mW:w.heap.size<=g3:=by have:=f1.size;omega
 refine h2.cc hk 1 (ck:=.ptr) (x:=some ⟨c,0,none⟩) rfl ?_;refine ab.of (pD hk h2.ch) ?_;rintro _ _ ⟨rfl,rfl⟩;refine⟨_,rfl,aD.of fun w3 _ f3=>aV.all ?_⟩;have f13:=f12.trans f3;have h3:=h2.af f3;have a3:=a2.af f3;refine av.all (h3.cc hk 1 (ck:=.ptr) (x:=some ⟨c,0,none⟩) rfl (av.all (ae.ah a3 (x:=f.2.2.2.2.1) rfl ?_)));rw[wI (x:=f.2.2.2.2.1+1) (by omega) (by omega)];refine ab.of (Qg hk h3.ch (f.2.2.2.2.1+1)) ?_;rintro _ _ ⟨rfl,rfl⟩;refine⟨((p.at_ (f.2.2.2.2.1+1)).1,(p.at_ (f.2.2.2.2.1+1)).2,()),rfl,?_⟩
 try refine ai.of (Fr.refl _ _) ?_
 refine aD.of fun w4 _ f4=>aV.all ?_;have f14:=f13.trans f4;have h4:=h3.af f4;have a4:=a3.af f4;have b4:=(f3.trans f4).af aR;refine av.all (ae.ah a4 (x:=f.2.2.2.2.1) rfl (av.all (h4.cc hk 0 (ck:=.int .i64) (x:=p.side) rfl ?_)));refine ab.of (A9 f.2.2.2.2.1 h0 w4) ?_;rintro _ _ ⟨rfl,rfl⟩;refine⟨_,rfl,?_⟩
 try refine ai.of (Fr.refl _ _) ?_
 have bG:∀ {wx:World} (A:bX),A.bO=[]->Fr none1 w wx->wx.heap[g3]? = w4.heap[g3]? -> p.pq f=A->ar ⟨g3,0,none⟩ (fO A (none,0,0)) wx fun w1=>aq dY ⟨g3,0,none⟩ w1 fun x=>(lM w.heap.size w1 (.agg (Cs.vals dY x).toArray) (p.pq f)/\Fr none1 w w1):=
  fun A hA fx hb e=>mh (by rw[hb];exact b4) rfl mW fx A (none,0,0) (qE hA) rD rC e
 refine aa.ne (fun ay=>?_) (fun he=>?_)
 ·have ay:PeerM.owner f.2.2.2.2.1≠p.side:=ay
  exact bG { bH with bG:=true } rfl f14 rfl (by unfold PeerM.pq;rw[if_pos (.inl ay)])
 have he:PeerM.owner f.2.2.2.2.1=p.side:=he;refine av.all (ae.ah a4 (x:=f.2.2.2.2.1) rfl (aa.dec (fun oy=>?_) (fun oy=>?_)))
 ·exact bG { bH with bG:=true } rfl f14 rfl (by unfold PeerM.pq;rw[if_pos (.inr (show(p.es.length:Int)<f.2.2.2.2.1 from oy))])
 have c1:¬ (PeerM.owner f.2.2.2.2.1≠p.side\/p.len<f.2.2.2.2.1):=fun t=>t.elim (fun q=>q he) (fun q=>oy q);refine ae.ah a4 (x:=f.2.2.2.2.1) rfl (aa.dec (fun aU=>?_) (fun aU=>?_))
 ·have aU:f.2.2.2.2.1<p.len:=aU
  refine ae.ah a4 (x:=f.2.2.2.2.2.1) rfl ?_;exact bG { bH with bG:=(p.at_ (f.2.2.2.2.1+1)).1 != f.2.2.2.2.2.1 } rfl f14 rfl (by unfold PeerM.pq;rw[if_neg c1,if_pos aU])
 have c2:¬ f.2.2.2.2.1<p.len:=aU;refine h4.cc hk 20 (ck:=.bool) (x:=p.aW.2) rfl (aa.not (aa.by (fun hp=>?_) (fun hp=>?_)))
 rotate_left
 ·have hp:p.aW.2=false:=hp
  exact bG { bH with bG:=true } rfl f14 rfl (by unfold PeerM.pq;rw[if_neg c1,if_neg c2,if_pos hp])
 have c3:¬ p.aW.2=false:=by have hp:p.aW.2=true:=hp;rw[hp];simp
 refine aD.of fun w5 rz f5=>aV.of (fun k=>k=b\/k=g1) ?_;have f15:=f14.trans f5;have h5:=h4.af f5;have a5:=a4.af f5;refine⟨.inl rfl,h5.sA hk 12 (cks:=iu) p.aW.1.e (fun j hj=>?_) ⟨.inr rfl,ae.ah a5 (x:=f.2.2.2.2.2.2.1) rfl ?_⟩⟩
 ·match j,hj with
  | 0,_=>rfl
  | 1,_=>rfl
  | 2,_=>rfl
  | 3,_=>rfl
  | 4,_=>rfl
  | 5,_=>rfl
  | 6,_=>rfl
  | 7,_=>rfl
 refine ak.of fun g6 w6 Ig fq f6 _=>ai.of f6 ?_;have z5:=f15.size;have z2:=f12.size;have z25:=((f3.trans f4).trans f5).size;refine ar.aE (vs:=jq (p.aW.1,f.2.2.2.2.2.2.1)) fq rfl (by
  show(_&&(_&&(_&&(_&&(_&&(_&&(_&&(bK p.aW.1.t.v&&(_&&true)))))))))=true;rw[Tm.bW];rfl) fun w7 gC f7 s7=>ai.on f7 (fun k hk q=>by have:k=g6:=q;rcases hk with rfl | rfl<;>omega) ?_
 have f57:Fr none1 w5 w7:=f6.fresh f7 (by omega);refine aD.of fun w8 hw8 f8=>aV.all ?_;have f58:=f57.trans f8;have f18:=f15.trans f58;have h8:=h5.af f58;have a8:=a5.af f58;have b8:=f8.af gC;refine av.all (h8.key hk (av.all (h8.cc hk 1 (ck:=.ptr) (x:=some ⟨c,0,none⟩) rfl (av.all (aq.aE (cks:=nF) (x:=lh p.aW.1.e f.2.2.2.2.2.2.1) b8 ?_)))));refine ab.of (DD hk h8.ch ho.hs (by omega)) ?_;rintro _ w9 ⟨rfl,f9⟩;refine⟨_,rfl,ai.of f9 ?_⟩;have Bb:=ho.vI;refine ab.of (Jd (x:=(p.aW.1,f.2.2.2.2.2.2.1)) hk Bb.1 Bb.2 ho.aW (ht.af (f18.trans f9))) ?_;rintro _ aG ⟨rfl,f10⟩;have sP:=(f18.trans f9).trans f10;have qo:aG.heap[g3]? = w4.heap[g3]? := by rw[b4];exact((f5.trans f58).trans (f9.trans f10)).af b4
 have pY:=(a8.af f9).af f10;have e0:p.pq f=if(fX p.kb p.head (p.aW.1,f.2.2.2.2.2.2.1)).2≠0\/(fX p.kb p.head (p.aW.1,f.2.2.2.2.2.2.1)).1≠f.2.2.2.2.2.1 then{ bH with bG:=true } else{ bH with da:=true,bm:=(p.aW.1,f.2.2.2.2.2.2.1) }:=by
  conv=>lhs;unfold PeerM.pq
  rw[if_neg c1,if_neg c2,if_neg c3]
 generalize fX p.kb p.head (p.aW.1,f.2.2.2.2.2.2.1)=N at *;refine⟨(N.1,N.2,()),rfl,?_⟩
 try refine ai.of f10 ?_
 refine aa.ne (fun ay=>?_) (fun kn=>?_)
 ·have ay:N.2≠0:=ay
  exact bG { bH with bG:=true } rfl sP qo (by rw[e0,if_pos (.inl ay)])
 have kn:N.2=0:=kn;refine ae.ah pY (x:=f.2.2.2.2.2.1) rfl (aa.ne (fun ay=>?_) (fun Jy=>?_))
 ·have ay:N.1≠f.2.2.2.2.2.1:=ay
  exact bG { bH with bG:=true } rfl sP qo (by rw[e0,if_pos (.inr ay)])
 have Jy:N.1=f.2.2.2.2.2.1:=Jy;refine aq.aE (cks:=nF) (x:=lh p.aW.1.e f.2.2.2.2.2.2.1) ((f9.trans f10).af b8) ?_;exact bG { bH with da:=true,bm:=(p.aW.1,f.2.2.2.2.2.2.1) } rfl sP qo (by rw[e0,if_neg (fun t=>t.elim (fun q=>q kn) (fun q=>q Jy))])
theorem oJ.ev {w:World}{g:Nat}{f:ct}(h:oJ w g f){K:Cs iu->Prop}(k:K f.m.e):aq iu ((⟨g,0,none⟩:Addr).add 7) w K:=by
 rw[dT];refine⟨f.m.e,uH h _ _ 0 fun j hj=>?_,k⟩
 match j,hj with
 | 0,_=>rfl
 | 1,_=>rfl
 | 2,_=>rfl
 | 3,_=>rfl
 | 4,_=>rfl
 | 5,_=>rfl
 | 6,_=>rfl
 | 7,_=>rfl
theorem oJ.kind {w:World}{g:Nat}{f:ct}(h:oJ w g f){K:Int->Prop}(k:K f.m.kind):ae (.int .i64) (((⟨g,0,none⟩:Addr).add 7).add 0) w K:=by
 rw[dT,dT];exact ae.of h (x:=f.m.kind) rfl k
theorem Qj (r k:Int)(h0:0<=k)(h1:k<=64):(IntKind.i64.wrap ((BitVec.ofInt 64 (Int.fdiv r (2 ^ (min (Int.toNat k) 64))) &&& BitVec.ofInt 64 1).toNat:Int)==1)=((r / 2 ^ k.toNat) % 2==1):=by
 rw[show min (Int.toNat k) 64=k.toNat by omega,Int.fdiv_eq_ediv_of_nonneg _ (Int.le_of_lt (Int.pow_pos (by decide)))];generalize r / 2 ^ k.toNat=a;have e1:(BitVec.ofInt 64 1).toNat=1:=rfl;rw[BitVec.toNat_and,e1,Nat.and_one_is_mod,BitVec.toNat_ofInt];have e2:(a % ((2 ^ 64:Nat):Int)).toNat % 2=(a % 2).toNat:=by omega
 rw[e2];have:0<=a % 2/\a % 2<2:=by omega
 rw[wI (by omega) (by omega)];rw[Bool.eq_iff_iff];simp only[beq_iff_eq];omega
theorem DV (x:fw):(jq x).all bK=true:=by
 show(_&&(_&&(_&&(_&&(_&&(_&&(_&&(bK x.1.t.v&&(_&&true)))))))))=true;rw[Tm.bW];rfl
theorem abc {w:World}{F:Nat->Prop}{b:Nat}{p:PeerM}(h:db w F b p)(ho:cX p)(ht:TabW w)(f:ct)(hm:dH f.m)(h0:0<=f.2.2.2.2.1)(jv:0<=f.m.kind)(q7:f.m.kind<=64):
  Ret Tryz.prog 114 #[.pointer (some ⟨b,0,none⟩),lH f.f] w fun r w'=>lM w.heap.size w' r (p.oB f)/\Fr none1 w w':=by
 have hR:=h;obtain⟨c,l,Fc,Fl,h⟩:=h;have hk:=ho.kb;have kX:=ho.num;refine c114 _ f.f w _ ?_;unfold C114;refine ak.of fun g1 w1 dp au f1 _=>ak.of fun g3 w2 qk aR f2 _=>aD.of fun w4 _ DW=>aV.all ?_;have f14:=(f1.trans f2).trans DW;have h4:=h.af f14;have a4:oJ w4 g1 f:=(f2.trans DW).af au;have b4:=DW.af aR;have bl:=bL h.aE;have l1:=bL au;have l3:=bL aR;have z1:=f1.size;have mW:w.heap.size<=g3:=by omega
 have bG:∀ {wx:World} (A:bX),A.bO=[]->Fr none1 w wx->wx.heap[g3]? = w4.heap[g3]? -> p.oB f=A->ar ⟨g3,0,none⟩ (fO A (none,0,0)) wx fun w1=>aq dY ⟨g3,0,none⟩ w1 fun x=>(lM w.heap.size w1 (.agg (Cs.vals dY x).toArray) (p.oB f)/\Fr none1 w w1):=
  fun A hA fx hb e=>mh (by rw[hb];exact b4) rfl mW fx A (none,0,0) (qE hA) rD rC e
 refine av.all (ae.ah a4 (x:=f.2.2.2.2.1) rfl (av.all (h4.cc hk 0 (ck:=.int .i64) (x:=p.side) rfl ?_)));refine ab.of (A9 f.2.2.2.2.1 h0 w4) ?_;rintro _ _ ⟨rfl,rfl⟩;refine⟨_,rfl,ai.of (Fr.refl _ _) (aa.eq (fun he=>?_) (fun he=>?_))⟩
 ·have he:PeerM.owner f.2.2.2.2.1=p.side:=he
  exact bG { bH with bG:=true } rfl f14 rfl (by unfold PeerM.oB;rw[if_pos (.inl he)])
 have he:PeerM.owner f.2.2.2.2.1≠p.side:=he;refine av.all (ae.ah a4 (x:=f.2.2.2.2.1) rfl (av.all (ae.ah a4 (x:=f.2.2.2.2.2.1) rfl ?_)));refine ab.of (Jr (hR.af f14) ho _ _) ?_;rintro _ _ ⟨rfl,rfl⟩;refine⟨_,rfl,?_⟩
 try refine ai.of (Fr.refl _ _) ?_
 refine aa.by (fun hs=>?_) (fun hs=>?_)
 ·exact bG { bH with bG:=true } rfl f14 rfl (by unfold PeerM.oB;rw[if_pos (.inr hs)])
 have c1:¬ (PeerM.owner f.2.2.2.2.1=p.side\/p.qp f.2.2.2.2.1 f.2.2.2.2.2.1=true):=fun t=>t.elim (fun q=>he q) (fun q=>by have hs:p.qp f.2.2.2.2.1 f.2.2.2.2.2.1=false:=hs;rw[hs] at q;cases q);refine aD.of fun w5 rz f5=>aV.all ?_;have f15:=f14.trans f5;have h5:=h4.af f5;have a5:=a4.af f5;refine av.all (ae.ah a5 (x:=f.2.2.2.2.1) rfl (av.all (h5.cc hk 1 (ck:=.ptr) (x:=some ⟨c,0,none⟩) rfl ?_)));refine ab.of (pD hk h5.ch) ?_;rintro _ _ ⟨rfl,rfl⟩;refine⟨_,rfl,?_⟩
 try refine ai.of (Fr.refl _ _) ?_
 have Bc:∀ {wx:World},Fr none1 w4 wx->wx.heap[g3]? = w4.heap[g3]? := fun fx=>by rw[b4];exact fx.af b4
 have z4:=f14.size;have z24:=DW.size;refine aa.dec (fun aU=>?_) (fun aU=>?_)
 ·have aU:f.2.2.2.2.1<p.len:=aU
  refine ae.ah a5 (x:=f.2.2.2.2.1) rfl ?_;refine ab.of (aa4 (hR.af f15) ho f.2.2.2.2.1 h0 aU) ?_;rintro _ w6 ⟨s,rfl,M8,f6,sf⟩;refine⟨s,rfl,?_⟩;have z5:=f5.size;exact mh (by rw[Bc (f5.trans f6)];exact b4) rfl mW (f15.trans f6) { bH with bO:=[PeerM.fr 2 f.2.2.2.2.1 (p.at_ (f.2.2.2.2.1+1)).1 (p.es.getD f.2.2.2.2.1.toNat (bb,false)).2 bb] } s M8 (fun k hk=>by have:=sf k hk;omega) (fun k hk=>by have:=sf k hk;omega) (by unfold PeerM.oB;rw[if_neg c1,if_pos aU])
 have c2:¬ f.2.2.2.2.1<p.len:=aU;refine aD.of fun w6 hw6 f6=>aV.all ?_;have f46:=f5.trans f6;have f16:=f14.trans f46;have h6:=h5.af f6;have a6:=a5.af f6;refine av.all (ae.ah a6 (x:=f.2.2.2.2.1) rfl (av.all (h6.cc hk 1 (ck:=.ptr) (x:=some ⟨c,0,none⟩) rfl ?_)));refine ab.of (pD hk h6.ch) ?_;rintro _ _ ⟨rfl,rfl⟩;refine⟨_,rfl,?_⟩
 try refine ai.of (Fr.refl _ _) ?_
 refine aa.dec (fun oy=>?_) (fun oy=>?_)
 ·have oy:p.len<f.2.2.2.2.1:=oy
  exact bG bH rfl f16 (Bc f46) (by unfold PeerM.oB;rw[if_neg c1,if_neg c2,if_pos (.inl oy)])
 have oy:¬ p.len<f.2.2.2.2.1:=oy;refine ab.of (Jq (hR.af f16) hk) ?_;rintro _ _ ⟨rfl,rfl⟩;refine⟨_,rfl,?_⟩
 try refine ai.of (Fr.refl _ _) ?_
 refine aa.by (fun hf=>?_) (fun hf=>?_)
 ·exact bG bH rfl f16 (Bc f46) (by unfold PeerM.oB;rw[if_neg c1,if_neg c2,if_pos (.inr hf)])
 have c3:¬ (p.len<f.2.2.2.2.1\/p.full=true):=fun t=>t.elim oy (fun q=>by have hf:p.full=false:=hf;rw[hf] at q;cases q);have e0:p.oB f=if(fX p.kb p.head (f.m,p.gM f.m)).2≠0 then bH else{ bH with da:=true,bm:=(f.m,p.gM f.m),bO:=[PeerM.fr 2 f.2.2.2.2.1 (fX p.kb p.head (f.m,p.gM f.m)).1 (p.gM f.m) bb] }:=by
  conv=>lhs;unfold PeerM.oB
  rw[if_neg c1,if_neg c2,if_neg c3]
 have z6:=f46.size;refine cy.of (fun st w'=>∃ g:Nat,st.1=some ⟨g,0,none⟩/\w'.heap[g]? = some (.cells (jq (f.m,p.gM f.m)).toArray 110 (0,0))/\Fr none1 w6 w'/\w6.heap.size<=g) ?_ ?_
 ·refine aD.of fun w7 hw7 f7=>aV.of (fun k=>k=b\/k=g1) ?_
  have f17:=f16.trans f7;have h7:=h6.af f7;have a7:=a6.af f7;have z7:=f7.size;have acR:=ho.side;have Qk:IntKind.i64.wrap (1 - p.side)=1 - p.side:=wI (by omega) (by omega);refine⟨.inr rfl,a7.ev ⟨.inl rfl,h7.cc hk 2 (ck:=.ptr) (x:=some ⟨l,0,none⟩) rfl ⟨.inr rfl,a7.ev ⟨.inl rfl,h7.cc hk 0 (ck:=.int .i64) (x:=p.side) rfl ⟨?a,?b⟩⟩⟩⟩⟩
  case' a=>
   rw[Qk];refine ab.of (DL h7.ld ho.cq f.m hm.2.2.2.2 (ht.af f17) (1 - p.side)) ?_;rintro _ w8 ⟨rfl,f8⟩;have z8:=f8.size;have h8:=h7.af f8;have a8:=a7.af f8;refine⟨_,rfl,ai.of f8 (aa.ne (fun ay=>?_) (fun he=>?_))⟩
   ·have ay:jU p.cq f.m (1 - p.side)≠0:=ay
    have er:p.gM f.m=true:=by unfold PeerM.gM;rw[show(jU p.cq f.m (1 - p.side) != 0)=true by simpa using ay];rfl
    refine ak.of fun g w9 hg lG f9 _=>ai.of f9 (ar.aE (vs:=jq (f.m,true)) lG rfl (DV _) fun aG lK f10 sD=>ai.on f10 (fun k hk q=>by have:k=g:=q;rcases hk with rfl | rfl<;>omega) ?_)
    exact⟨g,rfl,by rw[er];exact lK,((f7.trans f8).trans f9).fresh f10 (by omega),by omega⟩
   ·have he:jU p.cq f.m (1 - p.side)=0:=he
    have er:p.gM f.m=((p.refused / 2 ^ f.m.kind.toNat) % 2==1):=by unfold PeerM.gM;rw[he];rfl
    refine⟨.inl rfl,h8.cc hk 23 (ck:=.int .i64) (x:=p.refused) rfl ⟨.inr rfl,a8.kind ⟨jv,?_⟩⟩⟩;rw[Qj _ _ jv q7,<- er];refine ak.of fun g w9 hg lG f9 _=>ai.of f9 (ar.aE (vs:=jq (f.m,p.gM f.m)) lG rfl (DV _) fun aG lK f10 sD=>ai.on f10 (fun k hk q=>by have:k=g:=q;rcases hk with rfl | rfl<;>omega) ?_)
    exact⟨g,rfl,lK,((f7.trans f8).trans f9).fresh f10 (by omega),by omega⟩
  case' b=>
   rw[Qk];refine ak.of fun g w8 hg jB f8 _=>ai.of f8 ?_;refine ab.of (DL (h7.af f8).ld ho.cq f.m hm.2.2.2.2 (ht.af (f17.trans f8)) (1 - p.side)) ?_;rintro _ w9 ⟨rfl,f9⟩;have h9:=(h7.af f8).af f9;have a9:=(a7.af f8).af f9;refine⟨_,rfl,ai.of f9 (aa.ne (fun ay=>?_) (fun he=>?_))⟩
   ·have ay:jU p.cq f.m (1 - p.side)≠0:=ay
    have er:p.gM f.m=true:=by unfold PeerM.gM;rw[show(jU p.cq f.m (1 - p.side) != 0)=true by simpa using ay];rfl
    refine ar.aE (vs:=jq (f.m,true)) (f9.af jB) rfl (DV _) fun aG lK f10 sD=>ai.on f10 (fun k hk q=>by have:k=g:=q;rcases hk with rfl | rfl<;>omega) ?_
    exact⟨g,rfl,by rw[er];exact lK,((f7.trans f8).trans f9).fresh f10 (by omega),by omega⟩
   ·have he:jU p.cq f.m (1 - p.side)=0:=he
    have er:p.gM f.m=((p.refused / 2 ^ f.m.kind.toNat) % 2==1):=by unfold PeerM.gM;rw[he];rfl
    refine⟨.inl rfl,h9.cc hk 23 (ck:=.int .i64) (x:=p.refused) rfl ⟨.inr rfl,a9.kind ⟨jv,?_⟩⟩⟩;rw[Qj _ _ jv q7,<- er];refine ar.aE (vs:=jq (f.m,p.gM f.m)) (f9.af jB) rfl (DV _) fun aG lK f10 sD=>ai.on f10 (fun k hk q=>by have:k=g:=q;rcases hk with rfl | rfl<;>omega) ?_
    exact⟨g,rfl,lK,((f7.trans f8).trans f9).fresh f10 (by omega),by omega⟩
 rintro _ ⟨st,_⟩ w7 ⟨g,dD,hbg,f7,gl⟩;dsimp only at dD ⊢;subst dD;refine aD.of fun w8 hw8 f8=>aV.all ?_;have f68:=f7.trans f8;have f18:=f16.trans f68;have h8:=h6.af f68;have a8:=a6.af f68;have b8:=f8.af hbg;refine av.all (h8.key hk (av.all (h8.cc hk 1 (ck:=.ptr) (x:=some ⟨c,0,none⟩) rfl (av.all (aq.aE (cks:=nF) (x:=lh f.m.e (p.gM f.m)) b8 ?_)))));refine ab.of (DD hk h8.ch ho.hs (by omega)) ?_;rintro _ w9 ⟨rfl,f9⟩;refine⟨_,rfl,ai.of f9 ?_⟩;have Bb:=ho.vI;refine ab.of (Jd (x:=(f.m,p.gM f.m)) hk Bb.1 Bb.2 hm (ht.af (f18.trans f9))) ?_;rintro _ aG ⟨rfl,f10⟩;have sP:=(f18.trans f9).trans f10;have Jz:Fr none1 w4 aG:=((f46.trans f68).trans f9).trans f10;have pY:=(a8.af f9).af f10;have qo:=(f9.trans f10).af b8;generalize fX p.kb p.head (f.m,p.gM f.m)=N at *;refine⟨(N.1,N.2,()),rfl,?_⟩
 try refine ai.of f10 ?_
 refine aa.ne (fun ay=>?_) (fun kn=>?_)
 ·have ay:N.2≠0:=ay
  exact bG bH rfl sP (Bc Jz) (by rw[e0,if_pos ay])
 have kn:N.2=0:=kn;refine aq.aE (cks:=nF) (x:=lh f.m.e (p.gM f.m)) qo (ae.ah pY (x:=f.2.2.2.2.1) rfl (ae.ah qo (x:=p.gM f.m) rfl ?_));obtain⟨s,aO,hr,abd,_,f11,sf⟩:=mR (P:=Tryz.prog) (w:=aG) yj (dI (PeerM.fr 2 f.2.2.2.2.1 N.1 (p.gM f.m) bb).f) rfl (by decide);refine⟨s,aO,hr,?_⟩;have z10:=Jz.size;exact mh (by rw[Bc (Jz.trans f11)];exact b4) rfl mW (sP.trans f11) { bH with da:=true,bm:=(f.m,p.gM f.m),bO:=[PeerM.fr 2 f.2.2.2.2.1 N.1 (p.gM f.m) bb] } s (by rw[yi];exact abd) (fun k hk=>by have:=sf k hk;omega) (fun k hk=>by have:=sf k hk;omega) (by rw[e0,if_neg (fun t=>t kn)])
theorem abe {f:ct}(h:po f=0):0<=f.2.2.2.2.1/\f.2.2.2.2.1<=2147483647:=by
 unfold po kH at h;split at h
 ·cases h
 ·rename_i hh
  have hh:nG f.f=true:=by simpa using hh
  unfold nG at hh;simp only[Bool.and_eq_true] at hh;have:=hh.2.2.2;unfold iC at this;simp only[Bool.and_eq_true,decide_eq_true_eq] at this;exact this
theorem abf {f:ct}(h:po f=0)(hk:f.2.2.2.1=1):0<=f.m.kind/\f.m.kind<=64:=by
 unfold po kH at h;split at h
 ·cases h
 split at h
 ·cases h
 rw[if_pos (show f.f.2.2.2.1=1 from hk)] at h;unfold mA at h;split at h
 ·cases h
 rename_i hf;have hf:fZ f.m.kind≠[63]:=hf;unfold fZ at hf
 by_cases h1:f.m.kind=1
 ·omega
 by_cases h2:f.m.kind=2
 ·omega
 by_cases h3:f.m.kind=3
 ·omega
 by_cases h4:f.m.kind=4
 ·omega
 by_cases h5:f.m.kind=5
 ·omega
 by_cases h6:f.m.kind=6
 ·omega
 rw[if_neg h1,if_neg h2,if_neg h3,if_neg h4,if_neg h5,if_neg h6] at hf;exact absurd rfl hf
theorem abg {w:World}{F:Nat->Prop}{b:Nat}{p:PeerM}(h:db w F b p)(ho:cX p)(ht:TabW w)(f:ct)(hm:dH f.m):
  Ret Tryz.prog 56 #[.pointer (some ⟨b,0,none⟩),lH f.f] w fun r w'=>lM w.heap.size w' r (p.take f)/\Fr none1 w w':=by
 have hR:=h;obtain⟨c,l,Fc,Fl,h⟩:=h;have hk:=ho.kb;refine c56 _ f.f w _ ?_;unfold C56;refine ak.of fun g1 w1 dp au f1 _=>ak.of fun g3 w2 qk aR f2 _=>aD.of fun w3 _ f3=>aV.all ?_;have f13:=(f1.trans f2).trans f3;have a3:oJ w3 g1 f:=(f2.trans f3).af au;have b3:=f3.af aR;have l3:=bL b3;have z1:=f1.size;have z13:=f13.size;have mW:w.heap.size<=g3:=by omega
 refine av.all (aq.aE (cks:=FK) (x:=f.f) a3 ?_);refine ab.of (YW f hm.2.2.2.2 w3 (ht.af f13)) ?_;rintro _ w4 ⟨rfl,f4⟩;have f14:=f13.trans f4;have h4:=h.af f14;have a4:=a3.af f4;have b4:=f4.af b3;have z4:=f4.size;have bG:∀ (A:bX),A.bO=[]->p.take f=A->ar ⟨g3,0,none⟩ (fO A (none,0,0)) w4 fun w1=>aq dY ⟨g3,0,none⟩ w1 fun x=>(lM w.heap.size w1 (.agg (Cs.vals dY x).toArray) (p.take f)/\Fr none1 w w1):=
  fun A hA e=>mh b4 rfl mW f14 A (none,0,0) (qE hA) rD rC e
 have bO:∀ {fn:FuncId} (A:bX),Ret Tryz.prog fn #[.pointer (some ⟨b,0,none⟩),lH f.f] w4 (fun r w'=>lM w4.heap.size w' r A/\Fr none1 w4 w')->p.take f=A ->
   aq FK ⟨g1,0,none⟩ w4 fun(ba:Cs FK)=>ab Tryz.prog fn #[.pointer (some ⟨b,0,none⟩),.agg (Cs.vals FK ba).toArray] w4 (.v (.agg dY)) fun(bB:Cs dY) bu=>ar ⟨g3,0,none⟩ (Cs.vals dY bB) bu fun w1=>aq dY ⟨g3,0,none⟩ w1 fun x=>(lM w.heap.size w1 (.agg (Cs.vals dY x).toArray) (p.take f)/\Fr none1 w w1):=by
  intro fn A hr e;refine aq.aE (cks:=FK) (x:=f.f) a4 (ab.of hr ?_);rintro _ w5 ⟨⟨s,rfl,hs,sf⟩,f5⟩;exact⟨mg A s,rfl,mh (f5.af b4) rfl mW (f14.trans f5) A s hs (fun k hk=>by have:=sf k hk;omega) (fun k hk=>by have:=sf k hk;omega) e⟩
 refine⟨_,rfl,?_⟩
 try refine ai.of f4 ?_
 refine aa.ne (fun ay=>?_) (fun he=>?_)
 ·have ay:po f≠0:=ay
  exact bG bH rfl (by unfold PeerM.take;rw[if_pos (.inl ay)])
 have he:po f=0:=he;refine av.all (ae.ah a4 (x:=f.1) rfl (av.all (h4.cc hk 0 (ck:=.int .i64) (x:=p.side) rfl (aa.eq (fun hs=>?_) (fun hs=>?_)))))
 ·have hs:f.1=p.side:=hs
  exact bG bH rfl (by unfold PeerM.take;rw[if_pos (.inr hs)])
 have hs:f.1≠p.side:=hs;have c1:¬ (po f≠0\/f.1=p.side):=fun t=>t.elim (fun q=>q he) hs;have jh:=abe he;refine ae.ah a4 (x:=f.2.2.2.1) rfl (aa.eq (fun h1=>?_) (fun h1=>?_))
 ·have h1:f.2.2.2.1=4:=h1
  exact bO (p.lI f) (aba (hR.af f14) ho f) (by unfold PeerM.take;rw[if_neg c1,if_pos h1])
 have h1:f.2.2.2.1≠4:=h1;refine h4.cc hk 22 (ck:=.bool) (x:=p.bG) rfl (aa.by (fun hq=>?_) (fun hq=>?_))
 ·have hq:p.bG=true:=hq
  exact bG bH rfl (by unfold PeerM.take;rw[if_neg c1,if_neg h1,if_pos hq])
 have c3:¬ p.bG=true:=by have hq:p.bG=false:=hq;rw[hq];simp
 refine ae.ah a4 (x:=f.2.2.2.1) rfl (aa.eq (fun h2=>?_) (fun h2=>?_))
 ·have h2:f.2.2.2.1=3:=h2
  exact bO (p.want f) (aa0 (hR.af f14) ho f) (by unfold PeerM.take;rw[if_neg c1,if_neg h1,if_neg c3,if_pos h2])
 have h2:f.2.2.2.1≠3:=h2;refine ae.ah a4 (x:=f.2.2.2.1) rfl (aa.eq (fun h3=>?_) (fun h3=>?_))
 ·have h3:f.2.2.2.1=1:=h3
  have Ql:=abf he h3;exact bO (p.oB f) (abc (hR.af f14) ho (ht.af f14) f hm jh.1 Ql.1 Ql.2) (by unfold PeerM.take;rw[if_neg c1,if_neg h1,if_neg c3,if_neg h2,if_pos h3])
 have h3:f.2.2.2.1≠1:=h3;exact bO (p.pq f) (abb (hR.af f14) ho (ht.af f14) f jh.1 (by omega)) (by unfold PeerM.take;rw[if_neg c1,if_neg h1,if_neg c3,if_neg h2,if_neg h3])
theorem rE (p:PeerM)(c l:Nat):iE p c l=[.int .i64 p.side,.pointer (some ⟨c,0,none⟩),.pointer (some ⟨l,0,none⟩),.int .i64 p.off.1.1,.string (str p.off.1.2.1),.string (str p.off.1.2.2.1),.string (str p.off.1.2.2.2.1),.string (str p.off.1.2.2.2.2.1),.int .i64 p.off.1.2.2.2.2.2.1,.int .i64 p.off.1.2.2.2.2.2.2.1,p.off.1.2.2.2.2.2.2.2.v,.bool p.off.2,.int .i64 p.aW.1.1,.string (str p.aW.1.2.1),.string (str p.aW.1.2.2.1),.string (str p.aW.1.2.2.2.1),.string (str p.aW.1.2.2.2.2.1),.int .i64 p.aW.1.2.2.2.2.2.1,.int .i64 p.aW.1.2.2.2.2.2.2.1,p.aW.1.2.2.2.2.2.2.2.v,.bool p.aW.2,.bool p.wanted,.bool p.bG,.int .i64 p.refused]:=rfl
theorem rF {w:World}{b:Nat}{kb:List UInt8}(hk:kb.length=16){t:List Value}{T:TypeId}(hb:w.heap[b]? = some (.cells (cV kb++t).toArray T (0,0)))(i:Nat)(hi:i<t.length){v:Value}(h1:bK v=true){K:World->Prop}
  (k:∀ w1,w1.heap[b]? = some (.cells (cV kb++t.set i v).toArray T (0,0))->Fr (only b) w w1->w1.heap.size=w.heap.size->K w1):az ⟨b,16+i,none⟩ v w K:=by
 have hl:=kK (kb:=kb);refine az.of hb (by simp[hl,hk];omega) h1 fun w1 au f1 s1=>k w1 ?_ f1 s1;rw[au]
 congr 2
 apply Array.ext';rw[Array.toList_setIfInBounds];show(cV kb++t).set (16+i) v=_;rw[List.set_append_right _ _ (by omega),hl,hk]
 congr 2;omega
theorem DX {w:World}{b:Nat}{kb:List UInt8}(hk:kb.length=16){t:List Value}{T:TypeId}(hb:w.heap[b]? = some (.cells (cV kb++t).toArray T (0,0)))(i:Nat){vs:List Value}(hi:i+vs.length<=t.length)(h1:vs.all bK=true){K:World->Prop}
  (k:∀ w1,w1.heap[b]? = some (.cells (cV kb++rB t i vs).toArray T (0,0))->Fr (only b) w w1->w1.heap.size=w.heap.size->K w1):ar ⟨b,16+i,none⟩ vs w K:=by
 have hl:=kK (kb:=kb);refine ar.at hb (by simp[hl,hk];omega) h1 fun w1 au f1 s1=>k w1 ?_ f1 s1;rw[au];have:=Jo vs t (cV kb) i;rw[hl,hk] at this;rw[this]
theorem abh (p:PeerM)(c l c' l':Nat)(es:List fw)(hs:List Int)(cq:cH):((rB (((iE p c l).set 1 (.pointer (some ⟨c',0,none⟩))).set 2 (.pointer (some ⟨l',0,none⟩))) 12 [.int .i64 0,.string (⟨#[]⟩:ByteArray),.string (⟨#[]⟩:ByteArray),.string (⟨#[]⟩:ByteArray),.string (⟨#[]⟩:ByteArray),.int .i64 0,.int .i64 0,.nilIface,.bool false]).set 21 (.bool false))=iE { p with es:=es,hs:=hs,cq:=cq,aW:=(bb,false),wanted:=false } c' l':=by
 rw[rE,rE];rfl
theorem abi {w:World}{F:Nat->Prop}{b:Nat}{p:PeerM}(h:db w F b p)(hF:∀ k,F k->k<w.heap.size)(ho:cX p)(ht:TabW w)(x:fw)(hx:dH x.1):
  Ret Tryz.prog 148 #[.pointer (some ⟨b,0,none⟩),.agg (jq x).toArray] w fun r w'=>r=.int .i64 (p.entry x).2/\db w' (fun k=>F k\/cE w w' k) b (p.entry x).1/\Fr (only b) w w':=by
 have hR:=h;obtain⟨c,l,Fc,Fl,h⟩:=h;have hk:=ho.kb;have kX:=ho.num;have hhs:=ho.hs;have hld:=ho.cq.num;refine c148 _ (lh x.1.e x.2) w _ ?_;unfold C148;refine ak.of fun g1 w1 dp au f1 _=>aD.of fun w2 _ f2=>aV.all ?_;have f12:=f1.trans f2;have h2:=h.af f12;have bl:=bL h.aE;refine av.all (h2.cc hk 1 (ck:=.ptr) (x:=some ⟨c,0,none⟩) rfl (av.all (h2.cc hk 2 (ck:=.ptr) (x:=some ⟨l,0,none⟩) rfl ?_)));refine ab.of (Jc hk h2.ch (by omega) (by omega)) ?_;rintro _ w3 ⟨c',rfl,qL,f3⟩;refine⟨some ⟨c',0,none⟩,rfl,ai.of f3 ?_⟩;have h3:=h2.af f3;refine ab.of (DH h3.ld (by omega)) ?_;rintro _ w4 ⟨l',rfl,vm,f4⟩;refine⟨some ⟨l',0,none⟩,rfl,?_⟩
 try refine ai.of f4 ?_
 have DY:=qL.af f4;refine ab.of (pD hk DY) ?_;rintro _ _ ⟨rfl,rfl⟩;refine⟨_,rfl,?_⟩;refine ab.of (A9 (p.es.length:Int) (by omega) w4) ?_;rintro _ _ ⟨rfl,rfl⟩;refine⟨_,rfl,?_⟩;have f14:=(f12.trans f3).trans f4;have z1:=f12.size;have z3:=f3.size;have z4:=f4.size;have Qm:w4.heap[g1]? = some (.cells (jq x).toArray 110 (0,0)):=((f2.trans f3).trans f4).af au;refine aq.aE (cks:=nF) (x:=lh x.1.e x.2) Qm ?_;refine ab.of (aaX hk DY (fun k hk=>by have:=hk.2;omega) hhs (by omega) ho.lI hx (ht.af f14)) ?_;have eA:ui p.kb p.es p.hs x=if 64<=p.es.length then 5 else(fX p.kb p.head x).2:=rfl;have e0:p.entry x=if 64<=p.es.length then(p,5) else if(fX p.kb p.head x).2≠0 then(p,(fX p.kb p.head x).2) else
   if x.2=false/\(iQ p.cq x.1 (PeerM.owner p.len)).2≠0 then(p,(iQ p.cq x.1 (PeerM.owner p.len)).2) else
   ({ p with es:=p.es++[x],hs:=p.hs++[(fX p.kb p.head x).1],cq:=if x.2=true then p.cq else(iQ p.cq x.1 (PeerM.owner p.len)).1,aW:=(bb,false),wanted:=false },0):=rfl
 rintro _ w5 ⟨rfl,yk,f5⟩;have qS:=qL.mem;have abj:ui p.kb p.es p.hs x=0->jG w5 (fun k=>(w2.heap.size<=k/\k<w3.heap.size)\/cE w4 w5 k) c' p.kb (p.es++[x]) (p.hs++[(fX p.kb p.head x).1]):=yk;have z5:=f5.size;have f15:Fr none1 w w5:=f14.comp f5 fun k hk q=>by have:k=c':=q;have:=qS.1;omega
 have same:∀ {w':World},Fr none1 w w'->db w' (fun k=>F k\/cE w w' k) b p/\Fr (only b) w w':=fun f=>⟨(hR.af f).mono fun k hk=>.inl hk,f.mono fun _ _ t=>t.elim⟩;refine⟨_,rfl,aa.ne (fun ay=>?_) (fun he=>?_)⟩
 ·have ay:ui p.kb p.es p.hs x≠0:=ay
  have e:p.entry x=(p,ui p.kb p.es p.hs x):=by
   rw[e0,eA];rw[eA] at ay;split
   ·rfl
   ·rename_i Jl
    rw[if_neg Jl] at ay;rw[if_pos ay]
  rw[e];exact⟨rfl,same f15⟩
 have he:ui p.kb p.es p.hs x=0:=he;have yk:=abj he;rw[eA] at he;have Qn:¬ 64<=p.es.length:=fun t=>by rw[if_pos t] at he;cases he
 rw[if_neg Qn] at he;rw[if_neg Qn,if_neg (fun t=>t he)] at e0;have g1c:g1≠c':=by have:=qS.1;have:=bL (f2.af au);omega
 have Am:=f5.ag Qm g1c;have DZ:=vm.ag f5 fun k hk q=>by have:k=c':=q;have:=qS.2;have:=hk.1;omega
 have h5:=h.af f15
 -- the end, alike in both
 have fin:∀ {wx:World} (cq:cH) {Fx Gx:Nat->Prop},Fr none1 w wx->jG wx Fx c' p.kb (p.es++[x]) (p.hs++[(fX p.kb p.head x).1])->et wx Gx l' cq->(∀ k,Fx k->cE w wx k)->(∀ k,Gx k->cE w wx k) ->
   p.entry x=({ p with es:=p.es++[x],hs:=p.hs++[(fX p.kb p.head x).1],cq:=cq,aW:=(bb,false),wanted:=false },0) ->
   az ((⟨b,0,none⟩:Addr).add 17) (.pointer (some ⟨c',0,none⟩)) wx fun bJ=>az ((⟨b,0,none⟩:Addr).add 18) (.pointer (some ⟨l',0,none⟩)) bJ fun cL=>ar ((⟨b,0,none⟩:Addr).add 28) [.int .i64 0,.string (⟨#[]⟩:ByteArray),.string (⟨#[]⟩:ByteArray),.string (⟨#[]⟩:ByteArray),.string (⟨#[]⟩:ByteArray),.int .i64 0,.int .i64 0,.nilIface,.bool false] cL fun cg=>az ((⟨b,0,none⟩:Addr).add 37) (.bool false) cg fun di=>
    (Value.int .i64 0=.int .i64 (p.entry x).2/\db di (fun k=>F k\/cE w di k) b (p.entry x).1/\Fr (only b) w di):=by
  intro wx cq Fx Gx fx hcx hlx Qo Qp e;have hx:=h.af fx;rw[e];refine rF hk hx.aE 1 (by rw[qD];decide) rfl fun wa ha fa sa=>?_;refine rF hk ha 2 (by simp[qD]) rfl fun wb hb fb sb=>?_;refine DX hk hb 12 (by simp[qD]) rfl fun wc hc fc sc=>?_;refine rF hk hc 21 (by simp[rB,qD]) rfl fun wd hd fd sd=>?_;rw[abh p c l c' l' (p.es++[x]) (p.hs++[(fX p.kb p.head x).1]) cq] at hd;have ff:=((fa.trans fb).trans fc).trans fd;have zx:=fx.size;refine⟨rfl,⟨c',l',Fx,Gx,hd,hcx.ag ff (fun k hk q=>by have:=(Qo k hk).1;have:k=b:=q;omega),hlx.ag ff (fun k hk q=>by have:=(Qp k hk).1;have:k=b:=q;omega),fun k hk=>?_,fun k hk=>?_,.inl h.mem⟩,fx.eL ff⟩
  ·have q:=Qo k hk;exact⟨.inr ⟨q.1,by have:=q.2;omega⟩,by have:=q.1;omega⟩
  ·have q:=Qp k hk;exact⟨.inr ⟨q.1,by have:=q.2;omega⟩,by have:=q.1;omega⟩
 refine ae.ah Am (x:=x.2) rfl (aa.not (aa.by (fun hr=>?_) (fun hr=>?_)))
 ·have hr:x.2=true:=hr
  rw[if_neg (by rw[hr];simp),if_pos hr] at e0;exact fin p.cq f15 yk DZ (fun k hk=>by rcases hk with q | q<;>exact⟨by have:=q.1;omega,by have:=q.2;omega⟩) (fun k hk=>⟨by have:=hk.1;omega,by have:=hk.2;omega⟩) e0
 have hr:x.2=false:=hr;have xK:∀ {K:Cs iu->Prop},K x.1.e->aq iu ((⟨g1,0,none⟩:Addr).add 0) w5 K:=fun k=>by
  rw[dT];refine⟨x.1.e,nY Am _ 0 fun j hj=>?_,k⟩
  match j,hj with
  | 0,_=>rfl
  | 1,_=>rfl
  | 2,_=>rfl
  | 3,_=>rfl
  | 4,_=>rfl
  | 5,_=>rfl
  | 6,_=>rfl
  | 7,_=>rfl
 refine xK ?_;refine ab.of (aaU DZ (fun k hk=>by have:=hk.2;omega) ho.cq x.1 hx.2.2.2.2 (ht.af f15) (PeerM.owner p.len)) ?_;rintro _ w6 ⟨rfl,hl6,f6⟩;have hlm:=vm.mem;have z6:=f6.size;have f16:Fr none1 w w6:=f15.comp f6 fun k hk q=>by have:k=l':=q;have:=hlm.1;omega
 refine⟨_,rfl,aa.ne (fun ay=>?_) (fun kn=>?_)⟩
 ·have ay:(iQ p.cq x.1 (PeerM.owner p.len)).2≠0:=ay
  rw[if_pos ⟨hr,ay⟩] at e0;rw[e0];exact⟨rfl,same f16⟩
 have kn:(iQ p.cq x.1 (PeerM.owner p.len)).2=0:=kn;rw[if_neg (fun t=>t.2 kn),if_neg (by rw[hr];simp)] at e0;exact fin _ f16 (yk.ag f6 fun k hk q=>by have:k=l':=q;have:=hlm.1;have:=hlm.2;rcases hk with t | t<;>(have:=t.1;have:=t.2;omega)) hl6 (fun k hk=>by rcases hk with q | q<;>exact⟨by have:=q.1;omega,by have:=q.2;omega⟩) (fun k hk=>by rcases hk with q | q<;>exact⟨by have:=q.1;omega,by have:=q.2;omega⟩) e0
theorem Qq (p:PeerM)(c l:Nat)(m:aT)(d:Bool):rB (iE p c l) 3 [.int .i64 m.e.1,.string m.e.2.1,.string m.e.2.2.1,.string m.e.2.2.2.1,.string m.e.2.2.2.2.1,.int .i64 m.e.2.2.2.2.2.1,.int .i64 m.e.2.2.2.2.2.2.1,m.e.2.2.2.2.2.2.2.1,.bool d]=iE { p with off:=(m,d) } c l:=by
 rw[rE,rE];rfl
theorem abk (p:PeerM)(c l:Nat)(m:aT)(d:Bool):rB (iE p c l) 12 [.int .i64 m.e.1,.string m.e.2.1,.string m.e.2.2.1,.string m.e.2.2.2.1,.string m.e.2.2.2.2.1,.int .i64 m.e.2.2.2.2.2.1,.int .i64 m.e.2.2.2.2.2.2.1,m.e.2.2.2.2.2.2.2.1,.bool d]=iE { p with aW:=(m,d) } c l:=by
 rw[rE,rE];rfl
theorem abl (p:PeerM)(c l:Nat)(d:Bool):(iE p c l).set 21 (.bool d)=iE { p with wanted:=d } c l:=by rw[rE,rE];rfl
theorem abm (p:PeerM)(c l:Nat)(d:Bool):(iE p c l).set 22 (.bool d)=iE { p with bG:=d } c l:=by rw[rE,rE];rfl
theorem Qr (m:aT)(d:Bool):[Value.int .i64 m.e.1,.string m.e.2.1,.string m.e.2.2.1,.string m.e.2.2.2.1,.string m.e.2.2.2.2.1,.int .i64 m.e.2.2.2.2.2.1,.int .i64 m.e.2.2.2.2.2.2.1,m.e.2.2.2.2.2.2.2.1,.bool d].all bK=true:=by
 show(_&&(_&&(_&&(_&&(_&&(_&&(_&&(bK m.t.v&&(_&&true)))))))))=true;rw[Tm.bW];rfl
theorem ly.put {w w':World}{F:Nat->Prop}{b:Nat}{p q:PeerM}{c l:Nat}{Fc Fl:Nat->Prop}(h:ly w F b p c l Fc Fl)(f:Fr (only b) w w')(hb:w'.heap[b]? = some (.cells (cV q.kb++iE q c l).toArray 138 (0,0)))(e1:q.kb=p.kb)(e2:q.es=p.es)(e3:q.hs=p.hs)(e4:q.cq=p.cq):ly w' F b q c l Fc Fl:=
 ⟨hb,by rw[e1,e2,e3];exact h.ch.ag f fun k hk q=>(h.cf k hk).2 q,by rw[e4];exact h.ld.ag f fun k hk q=>(h.lf k hk).2 q,h.cf,h.lf,h.mem⟩
theorem abn {w:World}{F:Nat->Prop}{b:Nat}{p:PeerM}(h:db w F b p)(ho:cX p)(ht:TabW w)(m:aT)(hm:aK m.t<=1000000):
  Ret Tryz.prog 45 #[.pointer (some ⟨b,0,none⟩),ix m.e] w fun r w'=>r=.int .i64 (p.offer m).2/\db w' F b (p.offer m).1/\Fr (only b) w w':=by
 have hR:=h;obtain⟨c,l,Fc,Fl,h⟩:=h;have hk:=ho.kb;refine c45 _ m.e w _ ?_;unfold C45;refine ak.of fun g1 w1 dp au f1 _=>?_;have e1:lv w1 g1 m:=au;have h1:=h.af f1;have same:∀ {w':World},Fr none1 w w'->db w' F b p/\Fr (only b) w w':=fun f=>⟨hR.af f,f.mono fun _ _ t=>t.elim⟩;refine h1.cc hk 22 (ck:=.bool) (x:=p.bG) rfl (aa.by (fun hq=>?_) (fun hq=>?_))
 ·have hq:p.bG=true:=hq
  have e:p.offer m=(p,13):=by unfold PeerM.offer;rw[if_pos hq]
  rw[e];exact⟨rfl,same f1⟩
 have q1:¬ p.bG=true:=by have hq:p.bG=false:=hq;rw[hq];simp
 refine cy.of (fun st w'=>st.1=decide (p.off.2=true\/(p.aW.2=true/\p.aW.1.kind≠1))/\w1=w') ?_ ?_
 ·refine h1.cc hk 11 (ck:=.bool) (x:=p.off.2) rfl (aa.by (fun hq=>⟨?_,rfl⟩) (fun hq=>?_))
  ·have hq:p.off.2=true:=hq
   rw[decide_eq_true (.inl hq)]
  have hq:p.off.2=false:=hq;refine h1.cc hk 20 (ck:=.bool) (x:=p.aW.2) rfl (aa.by (fun hp=>h1.cc hk 12 (ck:=.int .i64) (x:=p.aW.1.kind) rfl ⟨?_,rfl⟩) (fun hp=>⟨?_,rfl⟩))
  ·have hp:p.aW.2=true:=hp
   dsimp only
   by_cases h1:p.aW.1.kind=1
   ·rw[decide_eq_false (by rw[hq];simp[h1])];simpa using h1
   ·rw[decide_eq_true (.inr ⟨hp,h1⟩)];simpa using h1
  ·have hp:p.aW.2=false:=hp
   rw[decide_eq_false (by rw[hq,hp];simp)]
 rintro _ ⟨st,_⟩ _ ⟨dD,rfl⟩;dsimp only at dD ⊢;subst dD;refine aa.dec (fun hb=>?_) (fun hb=>?_)
 ·have e:p.offer m=(p,9):=by unfold PeerM.offer;rw[if_neg q1,if_pos hb]
  rw[e];exact⟨rfl,same f1⟩
 refine ab.of (Jq (hR.af f1) hk) ?_;rintro _ _ ⟨rfl,rfl⟩;refine⟨_,rfl,aa.by (fun hf=>?_) (fun hf=>?_)⟩
 ·have e:p.offer m=(p,5):=by unfold PeerM.offer;rw[if_neg q1,if_neg hb,if_pos hf]
  rw[e];exact⟨rfl,same f1⟩
 have q3:¬ p.full=true:=by have hf:p.full=false:=hf;rw[hf];simp
 refine aD.of fun w2 _ f2=>?_;have f12:=f1.trans f2;have h2:=h1.af f2;have e2:=e1.af f2;refine h2.cc hk 2 (ck:=.ptr) (x:=some ⟨l,0,none⟩) rfl (aq.aE (cks:=iu) (x:=m.e) e2 (h2.cc hk 0 (ck:=.int .i64) (x:=p.side) rfl ?_));refine ab.of (DL h2.ld ho.cq m hm (ht.af f12) p.side) ?_;rintro _ w3 ⟨rfl,f3⟩;have f13:=f12.trans f3;have h3:=h2.af f3;refine⟨_,rfl,aa.ne (fun ay=>?_) (fun he=>?_)⟩
 ·have e:p.offer m=(p,jU p.cq m p.side):=by unfold PeerM.offer;rw[if_neg q1,if_neg hb,if_neg q3,if_pos ay]
  rw[e];exact⟨rfl,same f13⟩
 have e:p.offer m=({ p with off:=(m,true) },0):=by unfold PeerM.offer;rw[if_neg q1,if_neg hb,if_neg q3,if_neg (fun t=>t he)]
 rw[e];refine aq.aE (cks:=iu) (x:=m.e) (e2.af f3) ?_;refine DX hk h3.aE 3 (by rw[qD];show 3+9<=24;decide) (Qr m true) fun w4 dy f4 s4=>?_;rw[Qq p c l m true] at dy;exact⟨rfl,⟨c,l,Fc,Fl,h3.put (q:={ p with off:=(m,true) }) f4 dy rfl rfl rfl rfl⟩,f13.eL f4⟩
def iV (w:World)(g:Nat)(a:bX)(s:Sl):Prop:=w.heap[g]? = some (.cells (fO a s).toArray 113 (0,0))
theorem iV.bm {w:World}{g:Nat}{a:bX}{s:Sl}(h:iV w g a s){K:Cs nF->Prop}(k:K (lh a.bm.1.e a.bm.2)):aq nF ((⟨g,0,none⟩:Addr).add 2) w K:=by
 rw[dT];refine⟨lh a.bm.1.e a.bm.2,uH h _ _ 0 fun j hj=>?_,k⟩;rw[pE]
 match j,hj with
 | 0,_=>rfl
 | 1,_=>rfl
 | 2,_=>rfl
 | 3,_=>rfl
 | 4,_=>rfl
 | 5,_=>rfl
 | 6,_=>rfl
 | 7,_=>rfl
 | 8,_=>rfl
theorem iV.bN {w:World}{g:Nat}{a:bX}{s:Sl}(h:iV w g a s){K:Cs iu->Prop}(k:K a.bN.e):aq iu ((⟨g,0,none⟩:Addr).add 11) w K:=by
 rw[dT];refine⟨a.bN.e,uH h _ _ 0 fun j hj=>?_,k⟩;rw[pE]
 match j,hj with
 | 0,_=>rfl
 | 1,_=>rfl
 | 2,_=>rfl
 | 3,_=>rfl
 | 4,_=>rfl
 | 5,_=>rfl
 | 6,_=>rfl
 | 7,_=>rfl
theorem iV.ld {w:World}{g:Nat}{a:bX}{s:Sl}(h:iV w g a s)(i:Nat){ck:Ck}{x:ck.C}(hx:(fO a s)[i]? = some (ck.val x)){K:ck.C->Prop}(k:K x):ae ck ((⟨g,0,none⟩:Addr).add i) w K:=
 ae.ah h (by rw[Nat.zero_add,List.getElem?_toArray];exact hx) k
theorem abo (a:bX)(s:Sl)(v:Bool):(fO a s).set 19 (.bool v)=fO { a with drop:=v } s:=by rw[pE,pE];rfl
theorem vU (a:bX)(s:Sl):(fO a s)[0]? = some (.bool a.da)/\(fO a s)[1]? = some (.bool a.cQ)/\(fO a s)[19]? = some (.bool a.drop)/\(fO a s)[20]? = some (.bool a.wanted)/\(fO a s)[21]? = some (.bool a.bG)/\(fO a s)[22]? = some (.bool a.calm):=by
 rw[pE];exact⟨rfl,rfl,rfl,rfl,rfl,rfl⟩
theorem iV.drop {w:World}{g:Nat}{a:bX}{s:Sl}(h:iV w g a s)(v:Bool){K:World->Prop}(k:∀ w1,iV w1 g { a with drop:=v } s->Fr (only g) w w1->w1.heap.size=w.heap.size->K w1):az ((⟨g,0,none⟩:Addr).add 19) (.bool v) w K:=by
 refine az.ah h (by rw[DR];decide) rfl fun w1 au f1 s1=>k w1 ?_ f1 s1;rw[Nat.zero_add,DQ,abo] at au;exact au
theorem JA {w:World}{F:Nat->Prop}{b:Nat}{p:PeerM}(h:db w F b p)(hF:∀ k,F k->k<w.heap.size)(ho:cX p)(ht:TabW w)(a:bX)(s:Sl)(he:dH a.bm.1):
  Ret Tryz.prog 92 #[.pointer (some ⟨b,0,none⟩),.agg (fO a s).toArray] w fun r w'=>r=.int .i64 (p.bR a).2/\db w' (fun k=>F k\/cE w w' k) b (p.bR a).1/\Fr (only b) w w':=by
 have hk:=ho.kb;refine c92 _ (mg a s) w _ ?_;unfold C92;refine ak.of fun g1 w1 dp au f1 _=>?_;have a1:iV w1 g1 a s:=au;have l1:=bL au;have bF:F b:=by obtain⟨c,l,Fc,Fl,h⟩:=h;exact h.mem
 have bl:=hF b bF;have z1:=f1.size;have ay:g1≠b:=by omega
 have lift:∀ {wx wy:World} {q:PeerM},db wx (fun k=>F k\/cE w wx k) b q->wx.heap.size<=wy.heap.size->db wx (fun k=>F k\/cE w wy k) b q:=fun hq hz=>hq.mono fun k hk=>hk.imp_right fun t=>⟨t.1,by have:=t.2;omega⟩;refine cy.of (fun _ w'=>∃ q:PeerM,(∀ a':bX,a'.da=a.da->True)/\p.bR a=(q.ended a,0)/\q.kb=p.kb/\db w' (fun k=>F k\/cE w1 w' k) b q/\iV w' g1 a s/\Fr (only b) w w') ?_ ?_
 ·refine a1.ld 0 (ck:=.bool) (x:=a.da) (vU a s).1 (aa.by (fun hE=>?_) (fun hE=>?_))
  ·have hE:a.da=true:=hE
   refine a1.bm ?_;refine ab.of (abi (h.af f1) (fun k hk=>by have:=hF k hk;omega) ho (ht.af f1) a.bm he) ?_;rintro _ w2 ⟨rfl,h2,f2⟩;have z2:=f2.size;have Ci:db w2 (fun k=>F k\/cE w w2 k) b (p.entry a.bm).1:=h2.mono fun k hk=>hk.imp_right fun t=>⟨by have:=t.1;omega,t.2⟩;refine⟨_,rfl,aa.ne (fun hn=>?_) (fun hz=>?_)⟩
   ·have hn:(p.entry a.bm).2≠0:=hn
    have e:p.bR a=(p,(p.entry a.bm).2):=by unfold PeerM.bR;rw[if_pos hE,if_pos hn]
    have e2:(p.entry a.bm).1=p:=by
     unfold PeerM.entry at hn ⊢;split
     ·rfl
     ·rename_i q1
      rw[if_neg q1] at hn;split
      ·rfl
      ·rename_i q2
       rw[if_neg q2] at hn;split
       ·rfl
       ·rename_i q3
        rw[if_neg q3] at hn;exact absurd rfl hn
    rw[e];rw[e2] at Ci;exact⟨rfl,Ci,f1.eL f2⟩
   ·have hz:(p.entry a.bm).2=0:=hz
    have e:p.bR a=((p.entry a.bm).1.ended a,0):=by unfold PeerM.bR;rw[if_pos hE,if_neg (fun t=>t hz)]
    refine⟨(p.entry a.bm).1,fun _ _=>trivial,e,?_,h2,f2.ag a1 ay,f1.eL f2⟩;unfold PeerM.entry
    repeat' split
    all_goals rfl
  ·have hE:a.da=false:=hE
   refine⟨p,fun _ _=>trivial,?_,rfl,(h.af f1).mono fun k hk=>.inl hk,a1,f1.mono fun _ _ t=>t.elim⟩;unfold PeerM.bR;rw[if_neg (by rw[hE];simp)]
 rintro _ _ w2 ⟨q,_,eC,ekb,h2,a2,f12⟩;rw[eC];have hk:q.kb.length=16:=by rw[ekb];exact hk
 have z12:=f12.size;refine cy.of (fun _ w'=>db w' (fun k=>F k\/cE w1 w' k) b (q.lq a)/\iV w' g1 { a with drop:=q.pv a } s/\Fr (only b) w w') ?_ ?_
 ·refine a2.ld 1 (ck:=.bool) (x:=a.cQ) (vU a s).2.1 (aa.by (fun hP=>?_) (fun hP=>?_))
  ·have hP:a.cQ=true:=hP
   have ep:q.lq a={ q with aW:=(a.bN,true) }:=by unfold PeerM.lq;rw[if_pos hP]
   have ed:q.pv a=(a.drop||(q.off.2&&tP q.off.1 a.bN)):=by unfold PeerM.pv;rw[hP];rfl
   refine a2.bN ?_;obtain⟨c,l,Fc,Fl,h2⟩:=h2;refine DX hk h2.aE 12 (by rw[qD];show 12+9<=24;decide) (Qr a.bN true) fun w3 aR f3 s3=>?_;rw[abk q c l a.bN true] at aR;have h3:=h2.put (q:={ q with aW:=(a.bN,true) }) f3 aR rfl rfl rfl rfl
   have a3:iV w3 g1 a s:=f3.ag a2 ay;refine aD.of fun w4 _ f4=>?_;have h4:=h3.af f4;have a4:iV w4 g1 a s:=f4.af a3;have f14:Fr (only b) w w4:=(f12.trans f3).dq f4;have z4:=f4.size;have fin:∀ {w5 w6:World} (v:Bool),Fr none1 w4 w5->iV w6 g1 { a with drop:=v } s->Fr (only g1) w5 w6->w6.heap.size=w5.heap.size->q.pv a=v->(db w6 (fun k=>F k\/cE w1 w6 k) b (q.lq a)/\iV w6 g1 { a with drop:=q.pv a } s/\Fr (only b) w w6):=by
    intro w5 w6 v f5 a6 f6 s6 e;have z5:=f5.size;have ht:∀ k,(F k\/cE w1 w2 k)->¬ (only g1) k:=fun k hk t=>by
     have:k=g1:=t
     rcases hk with hk | hk
     ·have:=hF k hk;omega
     ·have:=hk.1;omega
    rw[ep,e];refine⟨?_,a6,?_⟩
    ·have h6:=(h4.af f5).ag f6 ht
     exact(show db w6 _ b _ from⟨c,l,Fc,Fl,h6⟩).mono fun k hk=>hk.imp_right fun t=>⟨t.1,by have:=t.2;have:=f3.size;omega⟩
    ·exact(f14.dq f5).comp f6 fun k hk t=>by have:k=g1:=t;omega
   refine a4.ld 19 (ck:=.bool) (x:=a.drop) (vU a s).2.2.1 (aa.by (fun hd=>?_) (fun hd=>?_))
   ·have hd:a.drop=true:=hd
    exact a4.drop true fun w5 a5 f5 s5=>fin true (Fr.refl _ _) a5 f5 s5 (by rw[ed,hd];rfl)
   have hd:a.drop=false:=hd;refine h4.cc hk 11 (ck:=.bool) (x:=q.off.2) rfl (aa.by (fun mX=>?_) (fun mX=>?_))
   ·have mX:q.off.2=true:=mX
    refine h4.sA hk 3 (cks:=iu) q.off.1.e (fun j hj=>?_) (a4.bN ?_)
    ·match j,hj with
     | 0,_=>rfl
     | 1,_=>rfl
     | 2,_=>rfl
     | 3,_=>rfl
     | 4,_=>rfl
     | 5,_=>rfl
     | 6,_=>rfl
     | 7,_=>rfl
    refine ab.of (WV q.off.1 a.bN w4) ?_;rintro _ w5 ⟨rfl,f5⟩;refine⟨_,rfl,?_⟩;exact(show iV w5 g1 a s from f5.af a4).drop _ fun w6 a6 f6 s6=>fin _ f5 a6 f6 s6 (by rw[ed,hd,mX];rfl)
   ·have mX:q.off.2=false:=mX
    exact a4.drop false fun w5 a5 f5 s5=>fin false (Fr.refl _ _) a5 f5 s5 (by rw[ed,hd,mX];rfl)
  ·have hP:a.cQ=false:=hP
   have ep:q.lq a=q:=by unfold PeerM.lq;rw[if_neg (by rw[hP];simp)]
   have ed:q.pv a=a.drop:=by unfold PeerM.pv;rw[hP];simp
   rw[ep,ed];exact⟨h2,a2,f12⟩
 rintro _ _ w3 ⟨h3,a3,f13⟩;have Bd:(q.lq a).kb.length=16:=by
  have:(q.lq a).kb=q.kb:=by unfold PeerM.lq;split<;>rfl
  rw[this];exact hk
 have yl:(q.lq a).off=q.off/\(q.lq a).wanted=q.wanted/\(q.lq a).bG=q.bG:=by unfold PeerM.lq;split<;>exact⟨rfl,rfl,rfl⟩
 have eE:q.ended a={ q.lq a with off:=if q.pv a=true then(bb,false) else q.off,wanted:=q.wanted||a.wanted,bG:=(q.bG||a.bG)&&!a.calm }:=rfl
 generalize q.lq a=P at *;generalize q.pv a=D at *
 -- the end, alike in both
 have tail:∀ {wx:World} (O:aT×Bool),O=(if D=true then(bb,false) else q.off)->db wx (fun k=>F k\/cE w1 wx k) b { P with off:=O }->iV wx g1 { a with drop:=D } s->Fr (only b) w wx ->
   cy (Unit) (fun A8=>ae .bool ((⟨b,0,none⟩:Addr).add 37) wx (fun(bZ:Bool)=>aa bZ
    (az ((⟨b,0,none⟩:Addr).add 37) (.bool true) wx (fun cU=>A8 (()) cU))
    (ae .bool ((⟨g1,0,none⟩:Addr).add 20) wx (fun(dA:Bool)=>az ((⟨b,0,none⟩:Addr).add 37) (.bool dA) wx (fun gJ=>A8 (()) gJ)))))
   (fun _ s29 bS=>ae .bool ((⟨b,0,none⟩:Addr).add 38) bS (fun(dv:Bool)=>aa dv
    (ae .bool ((⟨g1,0,none⟩:Addr).add 22) bS (fun(eg:Bool)=>az ((⟨b,0,none⟩:Addr).add 38) (.bool (!eg)) bS (fun dz=>(Value.int .i64 0=.int .i64 (q.ended a,(0:Int)).2/\db dz (fun k=>F k\/cE w dz k) b (q.ended a,(0:Int)).1/\Fr (only b) w dz))))
    (ae .bool ((⟨g1,0,none⟩:Addr).add 21) bS (fun(dF:Bool)=>aa dF
     (ae .bool ((⟨g1,0,none⟩:Addr).add 22) bS (fun(fk:Bool)=>az ((⟨b,0,none⟩:Addr).add 38) (.bool (!fk)) bS (fun dP=>(Value.int .i64 0=.int .i64 (q.ended a,(0:Int)).2/\db dP (fun k=>F k\/cE w dP k) b (q.ended a,(0:Int)).1/\Fr (only b) w dP))))
     (az ((⟨b,0,none⟩:Addr).add 38) (.bool false) bS (fun kA=>(Value.int .i64 0=.int .i64 (q.ended a,(0:Int)).2/\db kA (fun k=>F k\/cE w kA k) b (q.ended a,(0:Int)).1/\Fr (only b) w kA))))))):=by
  intro wx O eO hx ax fx;rw[<- eO] at eE;obtain⟨c,l,Fc,Fl,hx⟩:=hx;refine cy.of (fun _ w'=>ly w' (fun k=>F k\/cE w1 wx k) b { P with off:=O,wanted:=q.wanted||a.wanted } c l Fc Fl/\iV w' g1 { a with drop:=D } s/\Fr (only b) w w'/\wx.heap.size<=w'.heap.size) ?_ ?_
  ·have put:∀ (v:Bool),v=(q.wanted||a.wanted)->az ((⟨b,0,none⟩:Addr).add 37) (.bool v) wx (fun w'=>ly w' (fun k=>F k\/cE w1 wx k) b { P with off:=O,wanted:=q.wanted||a.wanted } c l Fc Fl/\iV w' g1 { a with drop:=D } s/\Fr (only b) w w'/\wx.heap.size<=w'.heap.size):=by
    intro v ev;refine rF (kb:=P.kb) Bd hx.aE 21 (by rw[qD];decide) rfl fun w4 dy f4 s4=>?_;rw[abl { P with off:=O } c l v,ev] at dy
    exact⟨hx.put (q:={ P with off:=O,wanted:=q.wanted||a.wanted }) f4 dy rfl rfl rfl rfl,f4.ag ax ay,fx.trans f4,by omega⟩
   refine hx.cc Bd 21 (ck:=.bool) (x:=P.wanted) rfl (aa.by (fun hw=>?_) (fun hw=>?_))
   ·exact put true (by rw[<- yl.2.1];have hw:P.wanted=true:=hw;rw[hw];rfl)
   ·exact ax.ld 20 (ck:=.bool) (x:=a.wanted) (vU _ s).2.2.2.1 (put a.wanted (by rw[<- yl.2.1];have hw:P.wanted=false:=hw;rw[hw];rfl))
  rintro _ _ w4 ⟨h4,a4,f14,z4⟩;have put:∀ (v:Bool),v=((q.bG||a.bG)&&!a.calm)->az ((⟨b,0,none⟩:Addr).add 38) (.bool v) w4 (fun w'=>(Value.int .i64 0=.int .i64 (q.ended a,(0:Int)).2/\db w' (fun k=>F k\/cE w w' k) b (q.ended a,(0:Int)).1/\Fr (only b) w w')):=by
   intro v ev;refine rF (kb:=P.kb) Bd h4.aE 22 (by rw[qD];decide) rfl fun w5 cY f5 s5=>?_;rw[abm { P with off:=O,wanted:=q.wanted||a.wanted } c l v,ev] at cY
   have h5:=h4.put (q:={ P with off:=O,wanted:=q.wanted||a.wanted,bG:=(q.bG||a.bG)&&!a.calm }) f5 cY rfl rfl rfl rfl
   refine⟨rfl,?_,f14.trans f5⟩;show db w5 _ b (q.ended a);rw[eE];exact(show db w5 _ b _ from⟨c,l,Fc,Fl,h5⟩).mono fun k hk=>hk.imp_right fun t=>⟨by have:=t.1;omega,by have:=t.2;omega⟩
  have ym:=vU { a with drop:=D } s
  refine h4.cc Bd 22 (ck:=.bool) (x:=P.bG) rfl (aa.by (fun hq=>?_) (fun hq=>?_))
  ·have hq:P.bG=true:=hq
   exact a4.ld 22 (ck:=.bool) (x:=a.calm) ym.2.2.2.2.2 (put (!a.calm) (by rw[<- yl.2.2,hq];rfl))
  have hq:P.bG=false:=hq;refine a4.ld 21 (ck:=.bool) (x:=a.bG) ym.2.2.2.2.1 (aa.by (fun hu=>?_) (fun hu=>?_))
  ·have hu:a.bG=true:=hu
   exact a4.ld 22 (ck:=.bool) (x:=a.calm) ym.2.2.2.2.2 (put (!a.calm) (by rw[<- yl.2.2,hq,hu];rfl))
  ·have hu:a.bG=false:=hu
   exact put false (by rw[<- yl.2.2,hq,hu];rfl)
 refine a3.ld 19 (ck:=.bool) (x:=D) (vU _ s).2.2.1 (aa.by (fun hD=>?_) (fun hD=>?_))
 ·have hD:D=true:=hD
  obtain⟨c,l,Fc,Fl,h3⟩:=h3;refine DX (kb:=P.kb) Bd h3.aE 3 (by rw[qD];show 3+9<=24;decide) rfl fun w4 dy f4 s4=>?_;have e9:=Qq P c l bb false;rw[show[Value.int .i64 bb.e.1,.string bb.e.2.1,.string bb.e.2.2.1,.string bb.e.2.2.2.1,.string bb.e.2.2.2.2.1,.int .i64 bb.e.2.2.2.2.2.1,.int .i64 bb.e.2.2.2.2.2.2.1,bb.e.2.2.2.2.2.2.2.1,.bool false]=[.int .i64 0,.string (⟨#[]⟩:ByteArray),.string (⟨#[]⟩:ByteArray),.string (⟨#[]⟩:ByteArray),.string (⟨#[]⟩:ByteArray),.int .i64 0,.int .i64 0,.nilIface,.bool false] from rfl] at e9;rw[e9] at dy;have h4:=h3.put (q:={ P with off:=(bb,false) }) f4 dy rfl rfl rfl rfl
  refine tail (bb,false) (by rw[if_pos hD]) ((show db w4 _ b _ from⟨c,l,Fc,Fl,h4⟩).mono fun k hk=>hk.imp_right fun t=>⟨t.1,by have:=t.2;omega⟩) (f4.ag a3 ay) (f13.trans f4)
 ·have hD:D=false:=hD
  refine tail q.off (by rw[hD];rfl) ?_ a3 f13;have:({ P with off:=q.off }:PeerM)=P:=by rw[<- yl.1]
  rw[this];exact h3
theorem Qs {w:World}{F:Nat->Prop}{b:Nat}{p:PeerM}(h:db w F b p)(ho:cX p):Ret Tryz.prog 26 #[.pointer (some ⟨b,0,none⟩)] w fun r w'=>∃ c,r=.pointer (some ⟨c,0,none⟩)/\jG w' (cE w w') c p.kb p.es p.hs/\Fr none1 w w':=by
 obtain⟨c,l,Fc,Fl,h⟩:=h;have hk:=ho.kb;have:=ho.num;have:=ho.hs;refine c26 _ w _ ?_;refine h.cc hk 1 (ck:=.ptr) (x:=some ⟨c,0,none⟩) rfl ?_;refine ab.of (Jc hk h.ch (by omega) (by omega)) ?_;rintro _ w1 ⟨c',rfl,hc,f1⟩;exact⟨some ⟨c',0,none⟩,rfl,c',rfl,hc,f1⟩
theorem abp {kb:List UInt8}(hk:kb.length=16)(side:Int)(w:World):Ret Tryz.prog 40 #[.agg (cV kb).toArray,.int .i64 side] w fun r w'=>∃ b,r=.pointer (some ⟨b,0,none⟩)/\db w' (cE w w') b (mK kb side)/\Fr none1 w w':=by
 refine c40 (cV kb) side w _ ?_;unfold C40;refine ak.of fun g1 w1 dp au f1 _=>?_;have body:∀ (n:Int),n=(mK kb side).side->∀ (w2:World),Fr none1 w1 w2->∀ {w3 w4 w5:World} {c l:Nat},jG w3 (fun k=>w2.heap.size<=k/\k<w3.heap.size) c kb [] [0]->Fr none1 w2 w3->et w4 (cE w3 w4) l xz->Fr none1 w3 w4->Fr none1 w4 w5->w4.heap.size<w5.heap.size ->
   w5.heap[w4.heap.size]? = some (.cells (cV kb++iE (mK kb side) c l).toArray 138 (0,0))->db w5 (cE w w5) w4.heap.size (mK kb side)/\Fr none1 w w5:=by
  intro n hn w2 f2 w3 w4 w5 c l hc f3 hl f4 f5 z5 hb;have z1:=f1.size;have z2:=f2.size;have z3:=f3.size;have z4:=f4.size;exact⟨⟨c,l,_,_,hb,(hc.af f4).af f5,hl.af f5,fun k hk=>⟨⟨by have:=hk.1;omega,by have:=hk.2;omega⟩,by have:=hk.2;omega⟩,fun k hk=>⟨⟨by have:=hk.1;omega,by have:=hk.2;omega⟩,by have:=hk.2;omega⟩,⟨by omega,z5⟩⟩,(((f1.trans f2).trans f3).trans f4).trans f5⟩
 refine aa.ne (fun hs=>?_) (fun hs=>?_)
 all_goals
  refine aD.of fun w2 _ f2=>aV.all (av.all (eK.of (f2.af au) (by rw[kK,hk]) (av.all (eK.of (f2.af au) (by rw[kK,hk]) ?_))));refine ab.of (aaB hk w2) ?_;rintro _ w3 ⟨c,rfl,hc,f3⟩;refine⟨some ⟨c,0,none⟩,rfl,ai.of f3 ?_⟩;refine ab.of (aaE w3) ?_;rintro _ w4 ⟨l,rfl,hl,f4⟩;refine⟨some ⟨l,0,none⟩,rfl,?_⟩
  try refine ai.of f4 ?_
  refine DC hk fun y hy=>ak.of fun g w5 hg hb f5 Ad=>?_
  try refine ai.of f5 ?_
  refine⟨g,rfl,?_⟩;subst hg
 ·have e:(mK kb side).side=1:=by unfold mK;rw[if_neg hs]
  refine body 1 e.symm w2 f2 hc f3 hl f4 f5 (by omega) ?_;have hb:w5.heap[w4.heap.size]? = some (.cells (Cs.vals nQ y++([Value.int .i64 1,.pointer (some ⟨c,0,none⟩),.pointer (some ⟨l,0,none⟩)]++(gV bb.e++([Value.bool false]++(gV bb.e++[Value.bool false,.bool false,.bool false,.int .i64 0]))))).toArray 138 (0,0)):=hb;rw[hy] at hb;rw[hb];unfold iE;rw[e];rfl
 ·have hs:side=0:=hs
  have e:(mK kb side).side=side:=by unfold mK;rw[if_pos hs,hs]
  refine body side e.symm w2 f2 hc f3 hl f4 f5 (by omega) ?_;have hb:w5.heap[w4.heap.size]? = some (.cells (Cs.vals nQ y++([Value.int .i64 side,.pointer (some ⟨c,0,none⟩),.pointer (some ⟨l,0,none⟩)]++(gV bb.e++([Value.bool false]++(gV bb.e++[Value.bool false,.bool false,.bool false,.int .i64 0]))))).toArray 138 (0,0)):=hb;rw[hy] at hb;rw[hb];unfold iE;rw[e];rfl
def eG (N:Nat)(w:World):Prop:=∃ w0,TabW w0/\w0.heap.size=N/\Fr none1 w0 w
theorem eG.lN {N:Nat}{w:World}(h:eG N w):TabW w:=by obtain⟨w0,t,_,f⟩:=h;exact t.af f
theorem eG.of {w:World}(h:TabW w):eG w.heap.size w:=⟨w,h,rfl,Fr.refl _ _⟩
theorem eG.ag {N:Nat}{w w':World}(h:eG N w){T:Nat->Prop}(f:Fr T w w')(hT:∀ k,T k->N<=k):eG N w':=by
 obtain⟨w0,t,e,f0⟩:=h;exact⟨w0,t,e,f0.comp f fun k hk q=>by have:=hT k q;omega⟩
theorem eG.af {N:Nat}{w w':World}(h:eG N w)(f:Fr none1 w w'):eG N w':=h.ag f fun _ t=>t.elim
theorem eG.le {N:Nat}{w:World}(h:eG N w):N<=w.heap.size:=by obtain⟨w0,_,e,f⟩:=h;have:=f.size;omega
theorem eG.fr {N:Nat}{w w':World}(h:eG N w):∃ w0,w0.heap.size=N/\Fr none1 w0 w:=by obtain⟨w0,_,e,f⟩:=h;exact⟨w0,e,f⟩
def vV (n:NodeM)(j pb wb:Nat):List Value:=[.int .i64 n.side,.pointer (some ⟨j,0,none⟩),.pointer (some ⟨pb,0,none⟩),.pointer (some ⟨wb,0,none⟩),.int .i64 n.aZ,.int .i64 n.number]
structure fB (N:Nat)(w:World)(F:Nat->Prop)(b:Nat)(n:NodeM)(fb fg j pb wb:Nat)(S Fp:Nat->Prop):Prop where
 aE:w.heap[b]? = some (.cells (cV n.kb++vV n j pb wb).toArray 104 (0,0))
 jr:iD w S j fb fg n.j.fs n.j.d n.j.rs
 pr:db w Fp pb n.p
 wr:oC w wb n.w.e n.w.h n.w.s
 own:F b/\F wb/\F j/\(∀ k,S k->F k)/\(∀ k,Fp k->F k)
 apart:b≠wb/\b≠j/\wb≠j/\¬ S b/\¬ S wb/\¬ Fp b/\¬ Fp wb/\¬ Fp j/\(∀ k,S k->¬ Fp k)
 file:¬ F fb/\¬ F fg
 lt:∀ k,F k->k<w.heap.size
 lo:∀ k,F k->N<=k
 uk:N<=fb
def gY (N:Nat)(w:World)(F:Nat->Prop)(b:Nat)(n:NodeM)(fb fg:Nat):Prop:=∃ j pb wb S Fp,fB N w F b n fb fg j pb wb S Fp
def sQ (F:Nat->Prop)(fb:Nat):Nat->Prop:=fun k=>F k\/k=fb
theorem fB.ag {N:Nat}{w w':World}{F T:Nat->Prop}{b:Nat}{n:NodeM}{fb fg j pb wb:Nat}{S Fp:Nat->Prop}(h:fB N w F b n fb fg j pb wb S Fp)(f:Fr T w w')(hT:∀ k,F k->¬ T k)(hb:¬ T fb)(hg:¬ T fg):fB N w' F b n fb fg j pb wb S Fp:=
 ⟨f.ag h.aE (hT b h.own.1),h.jr.ag f (hT j h.own.2.2.1) hb hg (fun k hk=>hT k (h.own.2.2.2.1 k hk)),h.pr.ag f (fun k hk=>hT k (h.own.2.2.2.2 k hk)),h.wr.ag f (hT wb h.own.2.1),h.own,h.apart,h.file,fun k hk=>Nat.lt_of_lt_of_le (h.lt k hk) f.size,h.lo,h.uk⟩
theorem fB.af {N:Nat}{w w':World}{F:Nat->Prop}{b:Nat}{n:NodeM}{fb fg j pb wb:Nat}{S Fp:Nat->Prop}(h:fB N w F b n fb fg j pb wb S Fp)(f:Fr none1 w w'):fB N w' F b n fb fg j pb wb S Fp:=h.ag f (fun _ _ t=>t) (fun t=>t) (fun t=>t)
theorem gY.ag {N:Nat}{w w':World}{F T:Nat->Prop}{b:Nat}{n:NodeM}{fb fg:Nat}(h:gY N w F b n fb fg)(f:Fr T w w')(hT:∀ k,F k->¬ T k)(hb:¬ T fb)(hg:¬ T fg):gY N w' F b n fb fg:=by
 obtain⟨j,pb,wb,S,Fp,h⟩:=h;exact⟨j,pb,wb,S,Fp,h.ag f hT hb hg⟩
theorem gY.af {N:Nat}{w w':World}{F:Nat->Prop}{b:Nat}{n:NodeM}{fb fg:Nat}(h:gY N w F b n fb fg)(f:Fr none1 w w'):gY N w' F b n fb fg:=h.ag f (fun _ _ t=>t) (fun t=>t) (fun t=>t)
theorem gY.lt {N:Nat}{w:World}{F:Nat->Prop}{b:Nat}{n:NodeM}{fb fg:Nat}(h:gY N w F b n fb fg):(∀ k,F k->k<w.heap.size)/\fb<w.heap.size/\fg<w.heap.size/\F b/\¬ F fb/\¬ F fg:=by
 obtain⟨j,pb,wb,S,Fp,h⟩:=h;exact⟨h.lt,h.jr.file.lt,h.jr.file.qq,h.own.1,h.file.1,h.file.2⟩
theorem gY.lo {N:Nat}{w:World}{F:Nat->Prop}{b:Nat}{n:NodeM}{fb fg:Nat}(h:gY N w F b n fb fg):(∀ k,F k->N<=k)/\N<=fb:=by
 obtain⟨j,pb,wb,S,Fp,h⟩:=h;exact⟨h.lo,h.uk⟩
theorem gY.file {N:Nat}{w:World}{F:Nat->Prop}{b:Nat}{n:NodeM}{fb fg:Nat}(h:gY N w F b n fb fg):gN w fb fg n.j.fs:=by
 obtain⟨j,pb,wb,S,Fp,h⟩:=h;exact h.jr.file
theorem fB.cc {N:Nat}{w:World}{F:Nat->Prop}{b:Nat}{n:NodeM}{fb fg j pb wb:Nat}{S Fp:Nat->Prop}(h:fB N w F b n fb fg j pb wb S Fp)(hk:n.kb.length=16)(i:Nat){ck:Ck}{x:ck.C}(hx:(vV n j pb wb)[i]? = some (ck.val x)){K:ck.C->Prop}(k:K x):ae ck ⟨b,16+i,none⟩ w K:=
 ae.of h.aE (by rw[Jp hk];exact hx) k
theorem fB.key {N:Nat}{w:World}{F:Nat->Prop}{b:Nat}{n:NodeM}{fb fg j pb wb:Nat}{S Fp:Nat->Prop}(h:fB N w F b n fb fg j pb wb S Fp)(hk:n.kb.length=16){K:List Value->Prop}(k:K (cV n.kb)):eK 16 ((⟨b,0,none⟩:Addr).add 0) w K:=by
 refine⟨cV n.kb,by rw[kK,hk],?_,k⟩;rw[dT];refine nY h.aE _ 0 fun j hj=>?_;rw[List.getElem?_toArray,Nat.zero_add,List.getElem?_append_left hj]
structure dS (N:Nat)(w:World)(F:Nat->Prop)(b:Nat)(n':NodeM)(fb fg:Nat)(w':World)(F':Nat->Prop)(dZ:Nat):Prop where
 r:gY N w' F' b n' fb dZ
 sub:∀ k,F' k->F k\/cE w w' k
 g:dZ=fb\/dZ=fg\/cE w w' dZ
 f:Fr (sQ F fb) w w'
theorem dS.refl {N:Nat}{w:World}{F:Nat->Prop}{b:Nat}{n:NodeM}{fb fg:Nat}(h:gY N w F b n fb fg):dS N w F b n fb fg w F fg:=⟨h,fun _ t=>.inl t,.inr (.inl rfl),Fr.refl _ _⟩
theorem dS.dq {N:Nat}{w w1 w2:World}{F F':Nat->Prop}{b:Nat}{n':NodeM}{fb fg dZ:Nat}(h:dS N w F b n' fb fg w1 F' dZ)(f:Fr none1 w1 w2):dS N w F b n' fb fg w2 F' dZ:=
 ⟨h.r.af f,fun k hk=>(h.sub k hk).imp_right fun t=>⟨t.1,Nat.lt_of_lt_of_le t.2 f.size⟩,h.g.imp_right fun t=>t.imp_right fun t=>⟨t.1,Nat.lt_of_lt_of_le t.2 f.size⟩,h.f.dq f⟩
theorem dS.eL {N:Nat}{w w1 w2:World}{F F':Nat->Prop}{b:Nat}{n':NodeM}{fb fg dZ:Nat}(f:Fr none1 w w1)(h:dS N w1 F b n' fb fg w2 F' dZ):dS N w F b n' fb fg w2 F' dZ:=
 ⟨h.r,fun k hk=>(h.sub k hk).imp_right fun t=>⟨Nat.le_trans f.size t.1,t.2⟩,h.g.imp_right fun t=>t.imp_right fun t=>⟨Nat.le_trans f.size t.1,t.2⟩,f.eL h.f⟩
theorem dS.trans {N:Nat}{w w1 w2:World}{F F1 F2:Nat->Prop}{b:Nat}{n1 n2:NodeM}{fb fg g1 g2:Nat}(h:dS N w F b n1 fb fg w1 F1 g1)(k:dS N w1 F1 b n2 fb g1 w2 F2 g2):dS N w F b n2 fb fg w2 F2 g2:=by
 have z1:=h.f.size;have z2:=k.f.size;refine⟨k.r,fun i hi=>?_,?_,h.f.comp k.f fun i hi t=>?_⟩
 ·rcases k.sub i hi with t | t
  ·exact(h.sub i t).imp_right fun t=>⟨t.1,by have:=t.2;omega⟩
  ·exact .inr ⟨by have:=t.1;omega,t.2⟩
 ·rcases k.g with t | t | t
  ·exact .inl t
  ·rw[t];exact h.g.imp_right fun t=>t.imp_right fun t=>⟨t.1,by have:=t.2;omega⟩
  ·exact .inr (.inr ⟨by have:=t.1;omega,t.2⟩)
 ·rcases t with t | t
  ·rcases h.sub i t with t | t
   ·exact .inl t
   ·have:=t.1;omega
  ·exact .inr t
theorem dS.lN {N:Nat}{w w':World}{F F':Nat->Prop}{b:Nat}{n n':NodeM}{fb fg dZ:Nat}(h0:gY N w F b n fb fg)(h:dS N w F b n' fb fg w' F' dZ)(t:eG N w):eG N w':=
 t.ag h.f fun k hk=>by
  obtain⟨a,b⟩:=h0.lo
  rcases hk with t | t
  ·exact a k t
  ·omega
theorem fB.JB {N:Nat}{w w':World}{F:Nat->Prop}{b:Nat}{n:NodeM}{fb fg j pb wb:Nat}{S Fp:Nat->Prop}(h:fB N w F b n fb fg j pb wb S Fp){J:jY}(t:HT w S j fb fg J.fs J.d J.rs w'):
  ∃ F' dZ S',fB N w' F' b { n with j:=J } fb dZ j pb wb S' Fp/\dS N w F b { n with j:=J } fb fg w' F' dZ:=by
 obtain⟨f,S',g',nH,qw,hj⟩:=t;obtain⟨o1,o2,o3,o4,o5⟩:=h.own;obtain⟨a1,a2,a3,a4,a5,a6,a7,a8,a9⟩:=h.apart;have zb:=h.lt b o1;have zw:=h.lt wb o2;have zj:=h.lt j o3;have zf:=h.jr.file.lt;have zg:=h.jr.file.qq;have z:=f.size;have hl:=h.jr.slt;have tin:∀ k,tW S j fb k->sQ F fb k:=fun k hk=>by
  rcases hk with t | t | t
  ·rw[t];exact .inl o3
  ·exact .inr t
  ·exact .inl (o4 k t)
 have vj:∀ k,S' k->k<w'.heap.size:=hj.slt;have sub:∀ k,(F k\/S' k)->F k\/cE w w' k:=fun k hk=>by
  rcases hk with t | t
  ·exact .inl t
  ·rcases nH k t with q | q
   ·exact .inl (o4 k q)
   ·exact .inr ⟨q,vj k t⟩
 have AA:g'=fb\/g'=fg\/cE w w' g':=qw.imp_right fun t=>t.imp_right fun t=>⟨t,hj.file.qq⟩;have main:fB N w' (fun k=>F k\/S' k) b { n with j:=J } fb g' j pb wb S' Fp:=by
  refine⟨f.ag h.aE ?_,hj,h.pr.ag f ?_,h.wr.ag f ?_,⟨.inl o1,.inl o2,.inl o3,fun k hk=>.inr hk,fun k hk=>.inl (o5 k hk)⟩,?_,?_,?_,?_,h.uk⟩
  ·rintro(t | t | t)
   ·exact a2 t
   ·rw[t] at o1;exact h.file.1 o1
   ·exact a4 t
  ·intro k hk
   rintro(t | t | t)
   ·rw[t] at hk;exact a8 hk
   ·rw[t] at hk;exact h.file.1 (o5 _ hk)
   ·exact a9 k t hk
  ·rintro(t | t | t)
   ·exact a3 t
   ·rw[t] at o2;exact h.file.1 o2
   ·exact a5 t
  ·refine⟨a1,a2,a3,fun t=>?_,fun t=>?_,a6,a7,a8,fun k hk q=>?_⟩
   ·rcases nH b t with q | q
    ·exact a4 q
    ·omega
   ·rcases nH wb t with q | q
    ·exact a5 q
    ·omega
   ·rcases nH k hk with r | r
    ·exact a9 k r q
    ·have:=h.lt k (o5 k q);omega
  ·refine⟨fun t=>?_,fun t=>?_⟩
   ·rcases t with t | t
    ·exact h.file.1 t
    ·exact(hj.off fb t).2.1 rfl
   ·rcases t with t | t
    ·rcases qw with q | q | q
     ·rw[q] at t;exact h.file.1 t
     ·rw[q] at t;exact h.file.2 t
     ·have:=h.lt g' t;omega
    ·exact(hj.off g' t).2.2 rfl
  ·intro k hk
   rcases hk with t | t
   ·have:=h.lt k t;omega
   ·exact vj k t
  ·intro k hk
   rcases sub k hk with t | t
   ·exact h.lo k t
   ·have:=t.1;have:=h.uk;omega
 exact⟨_,g',S',main,⟨_,_,_,_,_,main⟩,sub,AA,f.mono fun k _ t=>tin k t⟩
theorem gY.xN {N:Nat}{w w':World}{F:Nat->Prop}{b:Nat}{n:NodeM}{fb fg:Nat}(h:gY N w F b n fb fg){s':bI}(t:jW w fb fg s' w'):
  ∃ F' dZ,dS N w F b { n with j:={ n.j with fs:=s' } } fb fg w' F' dZ:=by
 obtain⟨j,pb,wb,S,Fp,h⟩:=h;obtain⟨g',qw,hj⟩:=h.jr.xN t;have hto:HT w S j fb fg s' n.j.d n.j.rs w':=⟨t.1.mono fun k _ q=>.inr (.inl q),S,g',fun k hk=>.inl hk,qw,hj⟩;obtain⟨F',dZ,S',_,h2⟩:=h.JB (J:={ n.j with fs:=s' }) hto
 exact⟨F',dZ,h2⟩
theorem fB.D0 {N:Nat}{w w':World}{F:Nat->Prop}{b:Nat}{n:NodeM}{fb fg j pb wb:Nat}{S Fp:Nat->Prop}(h:fB N w F b n fb fg j pb wb S Fp){p:PeerM}(hp:db w' (fun k=>Fp k\/cE w w' k) pb p)(f:Fr (only pb) w w'):
  ∃ F',fB N w' F' b { n with p:=p } fb fg j pb wb S (fun k=>Fp k\/cE w w' k)/\dS N w F b { n with p:=p } fb fg w' F' fg:=by
 obtain⟨o1,o2,o3,o4,o5⟩:=h.own;obtain⟨a1,a2,a3,a4,a5,a6,a7,a8,a9⟩:=h.apart;have mJ:Fp pb:=by obtain⟨c,l,Fc,Fl,q⟩:=h.pr;exact q.mem
 have zb:=h.lt b o1;have zw:=h.lt wb o2;have zj:=h.lt j o3;have zf:=h.jr.file.lt;have zg:=h.jr.file.qq;have z:=f.size;have main:fB N w' (fun k=>F k\/cE w w' k) b { n with p:=p } fb fg j pb wb S (fun k=>Fp k\/cE w w' k):=by
  refine⟨f.ag h.aE ?_,h.jr.ag f ?_ ?_ ?_ ?_,hp,h.wr.ag f ?_,⟨.inl o1,.inl o2,.inl o3,fun k hk=>.inl (o4 k hk),fun k hk=>hk.imp_left (o5 k)⟩,?_,?_,?_,?_,h.uk⟩
  ·intro t;have t:b=pb:=t;rw[<- t] at mJ;exact a6 mJ
  ·intro t;have t:j=pb:=t;rw[<- t] at mJ;exact a8 mJ
  ·intro t;have t:fb=pb:=t;rw[<- t] at mJ;exact h.file.1 (o5 _ mJ)
  ·intro t;have t:fg=pb:=t;rw[<- t] at mJ;exact h.file.2 (o5 _ mJ)
  ·intro k hk t;have t:k=pb:=t;rw[t] at hk;exact a9 _ hk mJ
  ·intro t;have t:wb=pb:=t;rw[<- t] at mJ;exact a7 mJ
  ·refine⟨a1,a2,a3,a4,a5,fun t=>?_,fun t=>?_,fun t=>?_,fun k hk t=>?_⟩
   ·rcases t with t | t
    ·exact a6 t
    ·have:=t.1;omega
   ·rcases t with t | t
    ·exact a7 t
    ·have:=t.1;omega
   ·rcases t with t | t
    ·exact a8 t
    ·have:=t.1;omega
   ·rcases t with t | t
    ·exact a9 k hk t
    ·have:=t.1;have:=h.lt k (o4 k hk);omega
  ·refine⟨fun t=>?_,fun t=>?_⟩
   ·rcases t with t | t
    ·exact h.file.1 t
    ·have:=t.1;omega
   ·rcases t with t | t
    ·exact h.file.2 t
    ·have:=t.1;omega
  ·intro k hk
   rcases hk with t | t
   ·have:=h.lt k t;omega
   ·exact t.2
  ·intro k hk
   rcases hk with t | t
   ·exact h.lo k t
   ·have:=t.1;have:=h.uk;omega
 exact⟨_,main,⟨_,_,_,_,_,main⟩,fun k hk=>hk,.inr (.inl rfl),f.mono fun k _ t=>.inl (by have t:k=pb:=t;rw[t];exact o5 _ mJ)⟩
theorem fB.wto {N:Nat}{w w':World}{F:Nat->Prop}{b:Nat}{n:NodeM}{fb fg j pb wb:Nat}{S Fp:Nat->Prop}(h:fB N w F b n fb fg j pb wb S Fp){W:sH}(hp:oC w' wb W.e W.h W.s)(f:Fr (only wb) w w'):
  fB N w' F b { n with w:=W } fb fg j pb wb S Fp/\dS N w F b { n with w:=W } fb fg w' F fg:=by
 obtain⟨o1,o2,o3,o4,o5⟩:=h.own;obtain⟨a1,a2,a3,a4,a5,a6,a7,a8,a9⟩:=h.apart;have main:fB N w' F b { n with w:=W } fb fg j pb wb S Fp:=by
  refine⟨f.ag h.aE (fun t=>a1 t),h.jr.ag f (fun t=>a3 (Eq.symm t)) ?_ ?_ ?_,h.pr.ag f ?_,hp,h.own,h.apart,h.file,fun k hk=>Nat.lt_of_lt_of_le (h.lt k hk) f.size,h.lo,h.uk⟩
  ·intro t;have t:fb=wb:=t;rw[<- t] at o2;exact h.file.1 o2
  ·intro t;have t:fg=wb:=t;rw[<- t] at o2;exact h.file.2 o2
  ·intro k hk t;have t:k=wb:=t;rw[t] at hk;exact a5 hk
  ·intro k hk t;have t:k=wb:=t;rw[t] at hk;exact a7 hk
 exact⟨main,⟨_,_,_,_,_,main⟩,fun k hk=>.inl hk,.inr (.inl rfl),f.mono fun k _ t=>.inl (by have t:k=wb:=t;rw[t];exact o2)⟩
theorem fB.cell {N:Nat}{w w':World}{F:Nat->Prop}{b:Nat}{n n':NodeM}{fb fg j pb wb:Nat}{S Fp:Nat->Prop}(h:fB N w F b n fb fg j pb wb S Fp)(f:Fr (only b) w w')(hb:w'.heap[b]? = some (.cells (cV n'.kb++vV n' j pb wb).toArray 104 (0,0)))(e1:n'.j=n.j)(e2:n'.p=n.p)(e3:n'.w=n.w):
  fB N w' F b n' fb fg j pb wb S Fp/\dS N w F b n' fb fg w' F fg:=by
 obtain⟨o1,o2,o3,o4,o5⟩:=h.own;obtain⟨a1,a2,a3,a4,a5,a6,a7,a8,a9⟩:=h.apart;have main:fB N w' F b n' fb fg j pb wb S Fp:=by
  refine⟨hb,?_,?_,?_,h.own,h.apart,h.file,fun k hk=>Nat.lt_of_lt_of_le (h.lt k hk) f.size,h.lo,h.uk⟩
  ·rw[e1]
   refine h.jr.ag f (fun t=>a2 (Eq.symm t)) ?_ ?_ ?_
   ·intro t;have t:fb=b:=t;rw[<- t] at o1;exact h.file.1 o1
   ·intro t;have t:fg=b:=t;rw[<- t] at o1;exact h.file.2 o1
   ·intro k hk t;have t:k=b:=t;rw[t] at hk;exact a4 hk
  ·rw[e2]
   refine h.pr.ag f fun k hk t=>?_;have t:k=b:=t;rw[t] at hk;exact a6 hk
  ·rw[e3]
   exact h.wr.ag f (fun t=>a1 (Eq.symm t))
 exact⟨main,⟨_,_,_,_,_,main⟩,fun k hk=>.inl hk,.inr (.inl rfl),f.mono fun k _ t=>.inl (by have t:k=b:=t;rw[t];exact o1)⟩
def C10 (p0:Addr)(p1:List Value)(p2:Int)(w:World)(K:Value->World->Prop):Prop:=
 ak (.cells p1.toArray 24) w (fun g1 w2=>cy (Bool×Unit) (fun J3=>aa (p2 != 0)
 (J3 ((p2 != 1),()) w2)
 (J3 (false,()) w2))
 (fun _ s4 w5=>aa s4.1
 (K (.tuple #[.pointer none,.int .i64 1]) w5)
 (ab Tryz.prog 39 #[.pointer (some p0)] w5 (.aN [.one .ptr,.one (.int .i64)]) (fun(x6:Option Addr×Int×Unit) w7=>aa (x6.2.1 != 0)
 (K (.tuple #[.pointer none,.int .i64 x6.2.1]) w7)
 (aD w7 (fun w8=>aV (fun S9=>av S9 (ad g1) (eK 16 (ad g1) w8 (fun aQ=>av S9 (ad g1) (eK 16 (ad g1) w8 (fun aX=>ab Tryz.prog 40 #[.agg aX.toArray,.int .i64 p2] w8 (.v (.one .ptr)) (fun(bx:Option Addr) aY=>ai S9 w8 aY (ab Tryz.prog 41 #[] aY (.v (.one .ptr)) (fun(bg:Option Addr) bM=>ai S9 aY bM (uv [.int .u8,.int .u8,.int .u8,.int .u8,.int .u8,.int .u8,.int .u8,.int .u8,.int .u8,.int .u8,.int .u8,.int .u8,.int .u8,.int .u8,.int .u8,.int .u8] aQ (fun(aS:Int×Int×Int×Int×Int×Int×Int×Int×Int×Int×Int×Int×Int×Int×Int×Int×Unit)=>ak (.cells #[.int .u8 aS.1,.int .u8 aS.2.1,.int .u8 aS.2.2.1,.int .u8 aS.2.2.2.1,.int .u8 aS.2.2.2.2.1,.int .u8 aS.2.2.2.2.2.1,.int .u8 aS.2.2.2.2.2.2.1,.int .u8 aS.2.2.2.2.2.2.2.1,.int .u8 aS.2.2.2.2.2.2.2.2.1,.int .u8 aS.2.2.2.2.2.2.2.2.2.1,.int .u8 aS.2.2.2.2.2.2.2.2.2.2.1,.int .u8 aS.2.2.2.2.2.2.2.2.2.2.2.1,.int .u8 aS.2.2.2.2.2.2.2.2.2.2.2.2.1,.int .u8 aS.2.2.2.2.2.2.2.2.2.2.2.2.2.1,.int .u8 aS.2.2.2.2.2.2.2.2.2.2.2.2.2.2.1,.int .u8 aS.2.2.2.2.2.2.2.2.2.2.2.2.2.2.2.1,.int .i64 p2,.pointer x6.1,.pointer bx,.pointer bg,.int .i64 0,.int .i64 0] 104) bM (fun g17 bt=>ai S9 bM bt (ab Tryz.prog 42 #[.pointer x6.1] bt (.v (.one .aj)) (fun(br:an) bh=>bC (Int×Unit) (fun _ JC bJ abq=>aa (decide (JC.1<(br.2.1:Int)))
 (bQ br.1 br.2.1 JC.1 1 (fun a24=>ae .aj a24 bJ (fun(bD:an)=>ab Tryz.prog 43 #[.pointer (some (ad g17)),.slice bD.1 bD.2.1 bD.2.2] bJ (.v (.one .bool)) (fun(dc:Bool) eN=>aa (!dc)
 (K (.tuple #[.pointer none,.int .i64 12]) eN)
 (abq (IntKind.i64.wrap (JC.1+1),()) eN)))))
 (aA Tryz.prog (Instr.buildSlice 22 1 #[(0,.int .u8 1)]) bJ (.v (.one .aj)) (fun(eR:an) eD=>ab Tryz.prog 44 #[.pointer x6.1,.slice eR.1 eR.2.1 eR.2.2] eD (.v (.one (.int .i64))) (fun(eB:Int) fo=>aa (eB != 0)
 (K (.tuple #[.pointer none,.int .i64 eB]) fo)
 (ae (.int .i64) ((ad g17).add 20) fo (fun(df:Int)=>az ((ad g17).add 20) (.int .i64 (IntKind.i64.wrap (df+1))) fo (fun dE=>K (.tuple #[.pointer (some (ad g17)),.int .i64 0]) dE)))))))
 (0,()) bh)))))))))))))))))))
def pl10:aB:=(.seq .auto (.seq (.join [(19,.one .bool)] .auto .auto) (.seq .auto (.seq .auto (.seq (.held (.soft 0 (.soft 1 (.soft 2 (.soft 3 (.soft 4 (.pick 5 (.pick 6 (.soft 7 (.pick 8 (.soft 9 .done) .stop)) .stop) .stop))))))) (.seq (.seq .auto (.block (.loop [(40,.one (.int .i64))] .auto))) .auto))))))
theorem c10 (p0:Addr)(p1:List Value)(p2:Int)(w:World)(K:Value->World->Prop)(h:C10 p0 p1 p2 w K):Ret Tryz.prog 10 #[.pointer (some p0),.agg p1.toArray,.int .i64 p2] w K:=aC (by kernel_rfl) Tryz.func10 (p:=pl10) (Eq.mpr (by kernel_rfl) h)
def C43 (p0:Addr)(p1:Option Addr)(cw cN:Nat)(w:World)(K:Value->World->Prop):Prop:=
 aa ((cw:Int)==0)
 (K (.bool false) w)
 (bQ p1 cw 0 1 (fun a1=>ae (.int .u8) a1 w (fun(x2:Int)=>aa (x2==1)
 (ae (.int .i64) (p0.add 20) w (fun(x3:Int)=>az (p0.add 20) (.int .i64 (IntKind.i64.wrap (x3+1))) w (fun w4=>K (.bool ((cw:Int)==1)) w4)))
 (aa (x2==2)
 (eX p1 cN 1 cw cN 1 (fun a5 l6 c7=>ab Tryz.prog 91 #[.slice a5 l6 c7] w (.aN [.agg lS,.one (.int .i64)]) (fun(x8:iI×Int×Unit) w9=>ak (.cells #[.int .i64 0,.string (⟨#[]⟩:ByteArray),.string (⟨#[]⟩:ByteArray),.string (⟨#[]⟩:ByteArray),.string (⟨#[]⟩:ByteArray),.int .i64 0,.int .i64 0,.nilIface,.bool false] 110) w9 (fun g10 aO=>ar (ad g10) [.int .i64 x8.1.1,.string x8.1.2.1,.string x8.1.2.2.1,.string x8.1.2.2.2.1,.string x8.1.2.2.2.2.1,.int .i64 x8.1.2.2.2.2.2.1,.int .i64 x8.1.2.2.2.2.2.2.1,x8.1.2.2.2.2.2.2.2.1,.bool x8.1.2.2.2.2.2.2.2.2.1] aO (fun aL=>aD aL (fun aY=>aa (x8.2.1==0)
 (ae .ptr (p0.add 18) aY (fun(bg:Option Addr)=>aq lS (ad g10) aY (fun(bn:iI)=>ab Tryz.prog 92 #[.pointer bg,.agg #[.bool true,.bool false,.int .i64 bn.1,.string bn.2.1,.string bn.2.2.1,.string bn.2.2.2.1,.string bn.2.2.2.2.1,.int .i64 bn.2.2.2.2.2.1,.int .i64 bn.2.2.2.2.2.2.1,bn.2.2.2.2.2.2.2.1,.bool bn.2.2.2.2.2.2.2.2.1,.int .i64 0,.string (⟨#[]⟩:ByteArray),.string (⟨#[]⟩:ByteArray),.string (⟨#[]⟩:ByteArray),.string (⟨#[]⟩:ByteArray),.int .i64 0,.int .i64 0,.nilIface,.bool false,.bool false,.bool false,.bool false,.slice none 0 0]] aY (.v (.one (.int .i64))) (fun(aS:Int) cj=>K (.bool (aS==0)) cj))))
 (K (.bool false) aY)))))))
 (aa (x2==3)
 (eX p1 cN 1 cw cN 1 (fun vh GN c20=>ab Tryz.prog 93 #[.slice vh GN c20] w (.aN [.agg dK,.one (.int .i64)]) (fun(bY:bE×Int×Unit) bJ=>ak (.cells #[.int .i64 0,.string (⟨#[]⟩:ByteArray),.string (⟨#[]⟩:ByteArray),.string (⟨#[]⟩:ByteArray),.string (⟨#[]⟩:ByteArray),.int .i64 0,.int .i64 0,.nilIface] 36) bJ (fun g23 cg=>ar (ad g23) [.int .i64 bY.1.1,.string bY.1.2.1,.string bY.1.2.2.1,.string bY.1.2.2.2.1,.string bY.1.2.2.2.2.1,.int .i64 bY.1.2.2.2.2.2.1,.int .i64 bY.1.2.2.2.2.2.2.1,bY.1.2.2.2.2.2.2.2.1] cg (fun di=>aD di (fun cn=>aV (fun D1=>av D1 (p0.add 18) (ae .ptr (p0.add 18) cn (fun(eR:Option Addr)=>av D1 (p0.add 16) (ae (.int .i64) (p0.add 16) cn (fun(cB:Int)=>ab Tryz.prog 26 #[.pointer eR] cn (.v (.one .ptr)) (fun(eB:Option Addr) fo=>ai D1 cn fo (ab Tryz.prog 27 #[.pointer eB] fo (.v (.one (.int .i64))) (fun(df:Int) dE=>ai D1 fo dE (ur 2 (aD dE (fun gJ=>aa (bY.2.1==0)
 (aa ((Int.tmod df 2)==cB)
 (ae .ptr (p0.add 18) gJ (fun(dv:Option Addr)=>aq dK (ad g23) gJ (fun(eg:bE)=>ab Tryz.prog 92 #[.pointer dv,.agg #[.bool false,.bool true,.int .i64 0,.string (⟨#[]⟩:ByteArray),.string (⟨#[]⟩:ByteArray),.string (⟨#[]⟩:ByteArray),.string (⟨#[]⟩:ByteArray),.int .i64 0,.int .i64 0,.nilIface,.bool false,.int .i64 eg.1,.string eg.2.1,.string eg.2.2.1,.string eg.2.2.2.1,.string eg.2.2.2.2.1,.int .i64 eg.2.2.2.2.2.1,.int .i64 eg.2.2.2.2.2.2.1,eg.2.2.2.2.2.2.2.1,.bool false,.bool false,.bool false,.bool false,.slice none 0 0]] gJ (.v (.one (.int .i64))) (fun(gP:Int) ic=>K (.bool (gP==0)) ic))))
 (K (.bool false) gJ))
 (K (.bool false) gJ))))))))))))))))))
 (K (.bool false) w))))))
def pl43:aB:=(.seq .auto (.seq .auto (.seq (.seq .auto (.block (.seq .auto (.cond .auto (.seq .auto (.cond (.seq .auto (.seq (.tail 9) .auto)) (.seq .auto (.cond (.seq .auto (.seq (.held (.soft 0 (.soft 1 (.soft 2 (.soft 3 (.soft 7 (.soft 8 (.soft 9 (.soft 10 (.pick 4 (.pick 5 (.soft 6 (.soft 11 (.soft 12 .done))) .stop) .stop)))))))))) (.seq (.tail 12) .auto))) .auto)))))))) .auto)))
theorem c43 (p0:Addr)(p1:Option Addr)(cw cN:Nat)(w:World)(K:Value->World->Prop)(h:C43 p0 p1 cw cN w K):Ret Tryz.prog 43 #[.pointer (some p0),.slice p1 cw cN] w K:=aC (by kernel_rfl) Tryz.func43 (p:=pl43) (Eq.mpr (by kernel_rfl) h)
def C25 (p0:Addr)(w:World)(K:Value->World->Prop):Prop:=
 ae .ptr (p0.add 18) w (fun(x1:Option Addr)=>ab Tryz.prog 68 #[.pointer x1] w (.v (.one .ptr)) (fun(x2:Option Addr) w3=>K (.pointer x2) w3))
def pl25:aB:=.auto
theorem c25 (p0:Addr)(w:World)(K:Value->World->Prop)(h:C25 p0 w K):Ret Tryz.prog 25 #[.pointer (some p0)] w K:=aC (by kernel_rfl) Tryz.func25 (p:=pl25) (Eq.mpr (by kernel_rfl) h)
def C11 (p0:Addr)(w:World)(K:Value->World->Prop):Prop:=
 ae (.int .i64) (p0.add 20) w (fun(x1:Int)=>K (.int .i64 x1) w)
def pl11:aB:=.auto
theorem c11 (p0:Addr)(w:World)(K:Value->World->Prop)(h:C11 p0 w K):Ret Tryz.prog 11 #[.pointer (some p0)] w K:=aC (by kernel_rfl) Tryz.func11 (p:=pl11) (Eq.mpr (by kernel_rfl) h)
def C23 (p0:Addr)(w:World)(K:Value->World->Prop):Prop:=
 ae .ptr (p0.add 17) w (fun(x1:Option Addr)=>ab Tryz.prog 67 #[.pointer x1] w (.v (.one .bool)) (fun(x2:Bool) w3=>K (.bool x2) w3))
def pl23:aB:=.auto
theorem c23 (p0:Addr)(w:World)(K:Value->World->Prop)(h:C23 p0 w K):Ret Tryz.prog 23 #[.pointer (some p0)] w K:=aC (by kernel_rfl) Tryz.func23 (p:=pl23) (Eq.mpr (by kernel_rfl) h)
def C12 (p0:Addr)(p1:bE)(w:World)(K:Value->World->Prop):Prop:=
 ak (.cells ((bT p1).toArray) 36) w (fun g1 w2=>ab Tryz.prog 23 #[.pointer (some p0)] w2 (.v (.one .bool)) (fun(x3:Bool) w4=>aa x3
 (K (.int .i64 11) w4)
 (aD w4 (fun w5=>ae .ptr (p0.add 18) w5 (fun(x6:Option Addr)=>aq dK (ad g1) w5 (fun(x7:bE)=>ab Tryz.prog 45 #[.pointer x6,.agg (bT x7).toArray] w5 (.v (.one (.int .i64))) (fun(x8:Int) w9=>K (.int .i64 x8) w9)))))))
def pl12:aB:=(.seq .auto (.seq .auto (.seq (.tail 5) .auto)))
theorem c12 (p0:Addr)(p1:bE)(w:World)(K:Value->World->Prop)(h:C12 p0 p1 w K):Ret Tryz.prog 12 #[.pointer (some p0),.agg (bT p1).toArray] w K:=aC (by kernel_rfl) Tryz.func12 (p:=pl12) (Eq.mpr (by kernel_rfl) h)
def C99 (p0:Addr)(p1:cz)(w:World)(K:Value->World->Prop):Prop:=
 ak (.cells ((cF p1).toArray) 113) w (fun g1 w2=>ae .bool ((ad g1).add 0) w2 (fun(x3:Bool)=>aa x3
 (aq lS ((ad g1).add 2) w2 (fun(x4:iI)=>ab Tryz.prog 153 #[.agg (iX x4).toArray] w2 (.aN [.one .aj,.one (.int .i64)]) (fun(x5:an×Int×Unit) w6=>aa (x5.2.1 != 0)
 (K (.int .i64 x5.2.1) w6)
 (aD w6 (fun w7=>aV (fun S8=>av S8 (p0.add 17) (ae .ptr (p0.add 17) w7 (fun(x9:Option Addr)=>aA Tryz.prog (Instr.buildSlice 22 1 #[(0,.int .u8 2)]) w7 (.v (.one .aj)) (fun(aQ:an) aO=>ai S8 w7 aO (aA Tryz.prog (Builtin.append_ #[22,22] 22 #[.slice aQ.1 aQ.2.1 aQ.2.2,.slice x5.1.1 x5.1.2.1 x5.1.2.2]) aO (.v (.one .aj)) (fun(bx:an) aY=>ai S8 aO aY (ab Tryz.prog 44 #[.pointer x9,.slice bx.1 bx.2.1 bx.2.2] aY (.v (.one (.int .i64))) (fun(bg:Int) bM=>ai S8 aY bM (K (.int .i64 bg) bM))))))))))))))
 (ae .bool ((ad g1).add 1) w2 (fun(aS:Bool)=>aa aS
 (aq dK ((ad g1).add 11) w2 (fun(ba:bE)=>ab Tryz.prog 33 #[.agg (bT ba).toArray] w2 (.aN [.one .aj,.one (.int .i64)]) (fun(bB:an×Int×Unit) bu=>aa (bB.2.1 != 0)
 (K (.int .i64 bB.2.1) bu)
 (aD bu (fun bh=>aV (fun mI=>av mI (p0.add 17) (ae .ptr (p0.add 17) bh (fun(bU:Option Addr)=>aA Tryz.prog (Instr.buildSlice 22 1 #[(0,.int .u8 3)]) bh (.v (.one .aj)) (fun(cv:an) cg=>ai mI bh cg (aA Tryz.prog (Builtin.append_ #[22,22] 22 #[.slice cv.1 cv.2.1 cv.2.2,.slice bB.1.1 bB.1.2.1 bB.1.2.2]) cg (.v (.one .aj)) (fun(bD:an) cn=>ai mI cg cn (ab Tryz.prog 44 #[.pointer bU,.slice bD.1 bD.2.1 bD.2.2] cn (.v (.one (.int .i64))) (fun(cA:Int) bV=>ai mI cn bV (K (.int .i64 cA) bV))))))))))))))
 (K (.int .i64 0) w2)))))
def pl99:aB:=(.seq .auto (.seq .auto (.seq .auto (.seq .auto (.seq .auto (.seq .auto (.seq (.held (.soft 0 (.soft 1 (.soft 2 (.soft 3 (.soft 4 (.soft 6 (.pick 5 (.pick 7 (.pick 8 (.soft 9 .done) .stop) .stop) .stop)))))))) .auto)))))))
theorem c99 (p0:Addr)(p1:cz)(w:World)(K:Value->World->Prop)(h:C99 p0 p1 w K):Ret Tryz.prog 99 #[.pointer (some p0),.agg (cF p1).toArray] w K:=aC (by kernel_rfl) Tryz.func99 (p:=pl99) (Eq.mpr (by kernel_rfl) h)
def C46 (p0:Addr)(p1:cz)(w:World)(K:Value->World->Prop):Prop:=
 ak (.cells ((cF p1).toArray) 113) w (fun g1 w2=>aq cR (ad g1) w2 (fun(x3:cz)=>ab Tryz.prog 99 #[.pointer (some p0),.agg (cF x3).toArray] w2 (.v (.one (.int .i64))) (fun(x4:Int) w5=>aa (x4 != 0)
 (K (.tuple #[.slice none 0 0,.int .i64 x4]) w5)
 (aD w5 (fun w6=>ae .ptr (p0.add 18) w6 (fun(x7:Option Addr)=>aq cR (ad g1) w6 (fun(x8:cz)=>ab Tryz.prog 92 #[.pointer x7,.agg (cF x8).toArray] w6 (.v (.one (.int .i64))) (fun(x9:Int) aG=>aa (x9 != 0)
 (K (.tuple #[.slice none 0 0,.int .i64 x9]) aG)
 (ae .aj ((ad g1).add 23) aG (fun(aX:an)=>bC (an×Int×Unit) (fun _ fQ aY za=>aa (decide (fQ.2.1<(aX.2.1:Int)))
 (bQ aX.1 aX.2.1 fQ.2.1 15 (fun uU=>aq fP uU aY (fun(aS:dr)=>ak (.cells #[.int .i64 0,.int .i64 0,.int .i64 0,.int .i64 0,.int .i64 0,.int .u64 0,.bool false,.int .i64 0,.string (⟨#[]⟩:ByteArray),.string (⟨#[]⟩:ByteArray),.string (⟨#[]⟩:ByteArray),.string (⟨#[]⟩:ByteArray),.int .i64 0,.int .i64 0,.nilIface] 42) aY (fun g17 bt=>ar (ad g17) (dx aS) bt (fun bu=>aD bu (fun bh=>aV (fun mI=>av mI (p0.add 16) (ae (.int .i64) (p0.add 16) bh (fun(bU:Int)=>av mI (p0.add 20) (ae (.int .i64) (p0.add 20) bh (fun(cv:Int)=>av mI (p0.add 21) (ae (.int .i64) (p0.add 21) bh (fun(cm:Int)=>az ((ad g17).add 0) (.int .i64 bU) bh (fun di=>ai mI bh di (az ((ad g17).add 1) (.int .i64 cv) di (fun cn=>ai mI di cn (az ((ad g17).add 2) (.int .i64 cm) cn (fun eN=>ai mI cn eN (aD eN (fun bV=>aV (fun JD=>av JD (p0.add 0) (eK 16 (p0.add 0) bV (fun eB=>av JD (ad g17) (aq fP (ad g17) bV (fun(bZ:dr)=>ab Tryz.prog 24 #[.agg eB.toArray,.agg (dx bZ).toArray] bV (.aN [.one .aj,.one (.int .i64)]) (fun(df:an×Int×Unit) dE=>ai JD bV dE (aa (df.2.1 != 0)
 (K (.tuple #[.slice none 0 0,.int .i64 df.2.1]) dE)
 (aA Tryz.prog (Instr.buildSlice 37 1 #[(0,.slice df.1.1 df.1.2.1 df.1.2.2)]) dE (.v (.one .aj)) (fun(dh:an) dL=>aA Tryz.prog (Builtin.append_ #[37,37] 37 #[.slice fQ.1.1 fQ.1.2.1 fQ.1.2.2,.slice dh.1 dh.2.1 dh.2.2]) dL (.v (.one .aj)) (fun(eg:an) dz=>ae (.int .i64) (p0.add 21) dz (fun(dF:Int)=>az (p0.add 21) (.int .i64 (IntKind.i64.wrap (dF+1))) dz (fun dO=>za ((eg.1,eg.2.1,eg.2.2),IntKind.i64.wrap (fQ.2.1+1),()) dO))))))))))))))))))))))))))))))))
 (K (.tuple #[.slice fQ.1.1 fQ.1.2.1 fQ.1.2.2,.int .i64 0]) aY))
 ((none,0,0),0,()) aG))))))))))
def pl46:aB:=(.seq .auto (.seq .auto (.seq (.seq (.tail 5) .auto) (.seq .auto (.seq (.seq .auto (.block (.loop [(8,.one .aj),(31,.one (.int .i64))] (.seq .auto (.seq .auto (.seq (.block (.seq .auto (.seq (.held (.soft 0 (.soft 1 (.soft 2 (.soft 3 (.soft 4 (.soft 5 (.soft 6 (.soft 7 (.soft 8 (.soft 9 (.soft 10 (.soft 11 (.soft 12 (.pick 13 (.soft 14 (.pick 15 (.soft 16 (.pick 17 .done .stop)) .stop)) .stop))))))))))))))) (.seq (.held (.soft 0 (.soft 1 (.soft 2 (.soft 3 (.soft 4 (.pick 5 (.soft 6 (.soft 7 (.soft 8 (.soft 9 (.soft 10 .done))))) .stop))))))) .auto)))) .auto)))))) .auto)))))
theorem c46 (p0:Addr)(p1:cz)(w:World)(K:Value->World->Prop)(h:C46 p0 p1 w K):Ret Tryz.prog 46 #[.pointer (some p0),.agg (cF p1).toArray] w K:=aC (by kernel_rfl) Tryz.func46 (p:=pl46) (Eq.mpr (by kernel_rfl) h)
def C13 (p0:Addr)(w:World)(K:Value->World->Prop):Prop:=
 ab Tryz.prog 23 #[.pointer (some p0)] w (.v (.one .bool)) (fun(x1:Bool) w2=>aa x1
 (K (.tuple #[.slice none 0 0,.int .i64 11]) w2)
 (ae .ptr (p0.add 18) w2 (fun(x3:Option Addr)=>ab Tryz.prog 47 #[.pointer x3] w2 (.v (.agg cR)) (fun(x4:cz) w5=>ab Tryz.prog 46 #[.pointer (some p0),.agg (cF x4).toArray] w5 (.aN [.one .aj,.one (.int .i64)]) (fun(x6:an×Int×Unit) w7=>K (.tuple #[.slice x6.1.1 x6.1.2.1 x6.1.2.2,.int .i64 x6.2.1]) w7)))))
def pl13:aB:=.auto
theorem c13 (p0:Addr)(w:World)(K:Value->World->Prop)(h:C13 p0 w K):Ret Tryz.prog 13 #[.pointer (some p0)] w K:=aC (by kernel_rfl) Tryz.func13 (p:=pl13) (Eq.mpr (by kernel_rfl) h)
def C18 (p0:Addr)(p1:Option Addr)(cw cN:Nat)(w:World)(K:Value->World->Prop):Prop:=
 ab Tryz.prog 23 #[.pointer (some p0)] w (.v (.one .bool)) (fun(x1:Bool) w2=>aa x1
 (K (.tuple #[.slice none 0 0,.int .i64 11]) w2)
 (eK 16 (p0.add 0) w2 (fun x3=>ab Tryz.prog 14 #[.agg x3.toArray,.slice p1 cw cN] w2 (.aN [.agg fP,.one (.int .i64)]) (fun(x4:dr×Int×Unit) w5=>ak (.cells #[.int .i64 0,.int .i64 0,.int .i64 0,.int .i64 0,.int .i64 0,.int .u64 0,.bool false,.int .i64 0,.string (⟨#[]⟩:ByteArray),.string (⟨#[]⟩:ByteArray),.string (⟨#[]⟩:ByteArray),.string (⟨#[]⟩:ByteArray),.int .i64 0,.int .i64 0,.nilIface] 42) w5 (fun g6 w7=>ar (ad g6) [.int .i64 x4.1.1,.int .i64 x4.1.2.1,.int .i64 x4.1.2.2.1,.int .i64 x4.1.2.2.2.1,.int .i64 x4.1.2.2.2.2.1,.int .u64 x4.1.2.2.2.2.2.1,.bool x4.1.2.2.2.2.2.2.1,.int .i64 x4.1.2.2.2.2.2.2.2.1,.string x4.1.2.2.2.2.2.2.2.2.1,.string x4.1.2.2.2.2.2.2.2.2.2.1,.string x4.1.2.2.2.2.2.2.2.2.2.2.1,.string x4.1.2.2.2.2.2.2.2.2.2.2.2.1,.int .i64 x4.1.2.2.2.2.2.2.2.2.2.2.2.2.1,.int .i64 x4.1.2.2.2.2.2.2.2.2.2.2.2.2.2.1,x4.1.2.2.2.2.2.2.2.2.2.2.2.2.2.2.1] w7 (fun w8=>aa (x4.2.1 != 0)
 (K (.tuple #[.slice none 0 0,.int .i64 x4.2.1]) w8)
 (aD w8 (fun w9=>ae (.int .i64) ((ad g6).add 0) w9 (fun(aQ:Int)=>ae (.int .i64) (p0.add 16) w9 (fun(aX:Int)=>aa (aQ==aX)
 (K (.tuple #[.slice none 0 0,.int .i64 8]) w9)
 (aD w9 (fun aL=>ae .ptr (p0.add 19) aL (fun(bz:Option Addr)=>ae (.int .i64) ((ad g6).add 1) aL (fun(bg:Int)=>ae (.int .i64) ((ad g6).add 2) aL (fun(bn:Int)=>ab Tryz.prog 55 #[.pointer bz,.int .i64 bg,.int .i64 bn] aL (.v (.one .bool)) (fun(aS:Bool) cj=>aa (!aS)
 (K (.tuple #[.slice none 0 0,.int .i64 4]) cj)
 (aD cj (fun bt=>aV (fun Qt=>av Qt (p0.add 18) (ae .ptr (p0.add 18) bt (fun(cG:Option Addr)=>av Qt (ad g6) (aq fP (ad g6) bt (fun(bY:dr)=>ab Tryz.prog 56 #[.pointer cG,.agg (dx bY).toArray] bt (.v (.agg cR)) (fun(bU:cz) cL=>ab Tryz.prog 46 #[.pointer (some p0),.agg (cF bU).toArray] cL (.aN [.one .aj,.one (.int .i64)]) (fun(cm:an×Int×Unit) di=>K (.tuple #[.slice cm.1.1 cm.1.2.1 cm.1.2.2,.int .i64 cm.2.1]) di)))))))))))))))))))))))))
def pl18:aB:=(.seq .auto (.seq .auto (.seq .auto (.seq (.block (.seq .auto (.cond .auto (.seq .still (.cond .auto (.seq (.tail 8) .auto)))))) (.seq (.held (.soft 0 (.soft 1 (.soft 2 (.soft 3 (.soft 4 (.soft 5 (.last 6 (.last 7 (.soft 8 (.soft 9 (.soft 10 (.soft 11 .done))))))))))))) .auto)))))
theorem c18 (p0:Addr)(p1:Option Addr)(cw cN:Nat)(w:World)(K:Value->World->Prop)(h:C18 p0 p1 cw cN w K):Ret Tryz.prog 18 #[.pointer (some p0),.slice p1 cw cN] w K:=aC (by kernel_rfl) Tryz.func18 (p:=pl18) (Eq.mpr (by kernel_rfl) h)
def C16  (w:World) (K:Value->World->Prop):Prop:=
 ab Tryz.prog 8 #[.int .i64 500] w (.v (.one .ptr)) (fun(x1:Option Addr) w2=>aa (Option.isNone x1)
 (K (.bool false) w2)
 (ab Tryz.prog 10 #[.pointer x1,.agg #[.int .u8 1,.int .u8 0,.int .u8 0,.int .u8 0,.int .u8 0,.int .u8 0,.int .u8 0,.int .u8 0,.int .u8 0,.int .u8 0,.int .u8 0,.int .u8 0,.int .u8 0,.int .u8 0,.int .u8 0,.int .u8 0],.int .i64 0] w2 (.aN [.one .ptr,.one (.int .i64)]) (fun(x3:Option Addr×Int×Unit) w4=>aa (x3.2.1 != 0)
 (K (.bool false) w4)
 (aa (Option.isNone x3.1)
 (K (.bool false) w4)
 (ab Tryz.prog 11 #[.pointer x3.1] w4 (.v (.one (.int .i64))) (fun(x5:Int) w6=>aa (x5 != 1)
 (K (.bool false) w6)
 (ab Tryz.prog 12 #[.pointer x3.1,.agg #[.int .i64 5,.string (⟨#[]⟩:ByteArray),.string (⟨#[]⟩:ByteArray),.string (⟨#[]⟩:ByteArray),.string (⟨#[]⟩:ByteArray),.int .i64 1,.int .i64 0,.nilIface]] w6 (.v (.one (.int .i64))) (fun(x7:Int) w8=>aa (x7 != 0)
 (K (.bool false) w8)
 (ab Tryz.prog 13 #[.pointer x3.1] w8 (.aN [.one .aj,.one (.int .i64)]) (fun(x9:an×Int×Unit) aG=>aa (x9.2.1==0)
 (K (.bool ((x9.1.2.1:Int)==1)) aG)
 (K (.bool false) aG)))))))))))
def pl16:aB:=.auto
theorem c16  (w:World) (K:Value->World->Prop) (h:C16  w K):Ret Tryz.prog 16 #[] w K:=aC (by kernel_rfl) Tryz.func16 (p:=pl16) (Eq.mpr (by kernel_rfl) h)
theorem Be {N:Nat}{w:World}{F:Nat->Prop}{b:Nat}{n:NodeM}{fb fg:Nat}(h:gY N w F b n fb fg)(hk:n.kb.length=16):Ret Tryz.prog 23 #[.pointer (some ⟨b,0,none⟩)] w fun r w'=>r=.bool n.dead/\w=w':=by
 obtain⟨j,pb,wb,S,Fp,h⟩:=h;refine c23 _ w _ ?_;refine h.cc hk 1 (ck:=.ptr) (x:=some ⟨j,0,none⟩) rfl ?_;refine ab.of (XU h.jr) ?_;rintro _ _ ⟨rfl,rfl⟩;exact⟨_,rfl,rfl,rfl⟩
theorem Qu {N:Nat}{w:World}{F:Nat->Prop}{b:Nat}{n:NodeM}{fb fg:Nat}(h:gY N w F b n fb fg)(hk:n.kb.length=16):Ret Tryz.prog 11 #[.pointer (some ⟨b,0,none⟩)] w fun r w'=>r=.int .i64 n.aZ/\w=w':=by
 obtain⟨j,pb,wb,S,Fp,h⟩:=h;refine c11 _ w _ ?_;exact h.cc hk 4 (ck:=.int .i64) (x:=n.aZ) rfl ⟨rfl,rfl⟩
theorem JE {N:Nat}{w:World}{F:Nat->Prop}{b:Nat}{n:NodeM}{fb fg:Nat}(h:gY N w F b n fb fg)(hk:n.kb.length=16)(ho:cX n.p)(ht:eG N w)(m:aT)(hm:aK m.t<=1000000):
  Ret Tryz.prog 12 #[.pointer (some ⟨b,0,none⟩),ix m.e] w fun r w'=>r=.int .i64 (n.offer m).2/\∃ F',dS N w F b (n.offer m).1 fb fg w' F' fg:=by
 have hR:=h;obtain⟨j,pb,wb,S,Fp,h⟩:=h;refine c12 _ m.e w _ ?_;unfold C12;refine ak.of fun g1 w1 dp au f1 _=>?_;have e1:lv w1 g1 m:=au;refine ab.of (Be (hR.af f1) hk) ?_;rintro _ _ ⟨rfl,rfl⟩;refine⟨_,rfl,aa.by (fun hd=>?_) (fun hd=>?_)⟩
 ·have hd:n.dead=true:=hd
  have e:n.offer m=(n,11):=by unfold NodeM.offer;rw[if_pos hd]
  rw[e];exact⟨rfl,F,(dS.refl hR).dq f1⟩
 have hd:n.dead=false:=hd;have e:n.offer m=({ n with p:=(n.p.offer m).1 },(n.p.offer m).2):=by unfold NodeM.offer;rw[if_neg (by rw[hd];simp)]
 rw[e];refine aD.of fun w2 _ f2=>?_;have f12:=f1.trans f2;have h2:=h.af f12;refine h2.cc hk 2 (ck:=.ptr) (x:=some ⟨pb,0,none⟩) rfl (aq.aE (cks:=iu) (x:=m.e) (e1.af f2) ?_);refine ab.of (abn h2.pr ho (ht.lN.af f12) m hm) ?_;rintro _ w3 ⟨rfl,p3,f3⟩;obtain⟨F',_,t⟩:=h2.D0 (p:=(n.p.offer m).1) (p3.mono fun k hk=>.inl hk) f3;exact⟨_,rfl,rfl,F',t.eL f12⟩
theorem Qv (n:NodeM)(j pb wb:Nat)(v:Int):(vV n j pb wb).set 4 (.int .i64 v)=vV { n with aZ:=v } j pb wb:=rfl
theorem abr (n:NodeM)(j pb wb:Nat)(v:Int):(vV n j pb wb).set 5 (.int .i64 v)=vV { n with number:=v } j pb wb:=rfl
theorem abt (n:NodeM)(r:List UInt8):n.record (1::r)=({ n with aZ:=n.aZ+1 },r.isEmpty):=rfl
theorem abu (n:NodeM)(r:List UInt8):n.record (2::r)=if(iR false r).2≠0 then(n,false) else({ n with p:=(n.p.bR { bH with da:=true,bm:=(iR false r).1 }).1 },(n.p.bR { bH with da:=true,bm:=(iR false r).1 }).2==0):=rfl
theorem abv (n:NodeM)(r:List UInt8):n.record (3::r)=if(fV false r).2≠0 then(n,false) else if n.p.len % 2≠n.side then(n,false) else({ n with p:=(n.p.bR { bH with cQ:=true,bN:=(fV false r).1 }).1 },true):=rfl
theorem abw (n:NodeM){c:UInt8}(r:List UInt8)(h1:c≠1)(h2:c≠2)(h3:c≠3):n.record (c::r)=(n,false):=by
 unfold NodeM.record;dsimp only;rw[if_neg h1,if_neg h2,if_neg h3]
theorem abx (p:PeerM)(a:bX)(h:a.da=false):(p.bR a).2=0:=by unfold PeerM.bR;rw[if_neg (by rw[h];simp)]
theorem aby {N:Nat}{w:World}{F:Nat->Prop}{b:Nat}{n:NodeM}{fb fg j pb wb:Nat}{S Fp:Nat->Prop}(h:fB N w F b n fb fg j pb wb S Fp)(hk:n.kb.length=16)(ho:cX n.p)(hs:n.side=0\/n.side=1)(he:0<=n.aZ/\n.aZ<=1000000000)(ht:eG N w){v:Sl}{bs:List UInt8}(hv:bd w v bs)(hc:v.2.1<=v.2.2)(Xc:bs.length<=100000000):
  Ret Tryz.prog 43 #[.pointer (some ⟨b,0,none⟩),.slice v.1 v.2.1 v.2.2] w fun r w'=>r=.bool (n.record bs).2/\∃ F' yn,fB N w' F' b (n.record bs).1 fb fg j pb wb S yn/\dS N w F b (n.record bs).1 fb fg w' F' fg:=by
 have hR:gY N w F b n fb fg:=⟨_,_,_,_,_,h⟩;have BM:n.p.kb.length=16:=ho.kb;have hl:=hv.len;refine c43 _ v.1 v.2.1 v.2.2 w _ ?_;unfold C43;cases bs with
 | nil=>
  refine aa.t (by rw[hl];rfl) ?_;exact⟨rfl,F,Fp,h,dS.refl hR⟩
 | cons c r=>
  have hl:v.2.1=r.length+1:=by rw[hl];rfl
  refine aa.f (by rw[hl];rw[beq_eq_false_iff_ne];omega) ?_;refine bd.at hv (Int.le_refl _) (by omega) ?_;rw[show(c::r).getD (Int.toNat 0) 0=c by rfl];have JF:∀ k:UInt8,((c.toNat:Int)=(k.toNat:Int))->c=k:=fun k t=>UInt8.toNat_inj.1 (by omega)
  -- DT stands behind the first byte
  have rest:∀ {K:Option Addr->Nat->Nat->Prop},(∀ u:Sl,bd w u r->u.2.1<=u.2.2->K u.1 u.2.1 u.2.2)->eX v.1 v.2.2 1 v.2.1 v.2.2 1 K:=by
   intro K k;refine bd.jV hv (by omega) (by omega) (Int.le_refl _) hc fun u hu rh dk mH=>?_;refine k u ?_ rh;have e2:((c::r).drop (1:Int).toNat).take ((v.2.1:Int) - 1).toNat=r:=by
    rw[show(1:Int).toNat=1 by rfl];exact List.take_of_length_le (by rw[List.drop_succ_cons,List.drop_zero];omega)
   rw[e2] at hu;exact hu
  refine aa.eq (fun h1=>?_) (fun h1=>?_)
  ·obtain rfl:=JF 1 h1
   rw[abt];refine h.cc hk 4 (ck:=.int .i64) (x:=n.aZ) rfl ?_;have ew:IntKind.i64.wrap (n.aZ+1)=n.aZ+1:=wI (by omega) (by omega);rw[ew];refine rF hk h.aE 4 (by show 4<6;decide) rfl fun w1 au f1 s1=>?_;rw[Qv] at au;obtain⟨h1,t1⟩:=h.cell (n':={ n with aZ:=n.aZ+1 }) f1 au rfl rfl rfl
   refine⟨?_,F,Fp,h1,t1⟩;rw[hl]
   congr 1
   cases r with
   | nil=>rfl
   | cons x y=>simp only[List.length_cons,List.isEmpty_cons];rw[beq_eq_false_iff_ne];omega
  have n1:c≠1:=fun t=>h1 (by rw[t];rfl);refine aa.eq (fun h2=>?_) (fun h2=>?_)
  ·obtain rfl:=JF 2 h2
   rw[abu];refine rest fun u hu rh=>?_;refine ab.of (V4 hu rh ht.lN) ?_;rintro _ w1 ⟨rfl,f1⟩;refine⟨(lh (iR false r).1.1.e (iR false r).1.2,(iR false r).2,()),rfl,?_⟩;have ql:=OQ r;generalize iR false r=P at *;refine ak.of fun g2 w2 mF aI f2 _=>?_;have aI:w2.heap[g2]? = some (.cells (qn bb.e false).toArray 110 (0,0)):=aI;refine ar.aE (vs:=qn P.1.1.e P.1.2) aI rfl (Hc _ (Tm.bW _)) fun w3 aR f3 _=>aD.of fun w4 _ f4=>?_;have Bf:w1.heap.size<=g2:=by omega
   have f14:Fr none1 w w4:=(f1.trans (f2.fresh f3 Bf)).trans f4;have h4:=h.af f14;refine aa.eq (fun hz=>?_) (fun hz=>?_)
   ·have hz:P.2=0:=hz
    rw[if_neg (fun t=>t hz)];refine h4.cc hk 2 (ck:=.ptr) (x:=some ⟨pb,0,none⟩) rfl (aq.aE (cks:=nF) (x:=lh P.1.1.e P.1.2) (f4.af aR) ?_);refine ab.of (JA h4.pr (fun k hk=>h4.lt k (h4.own.2.2.2.2 k hk)) ho (ht.lN.af f14) { bH with da:=true,bm:=P.1 } (none,0,0) ql) ?_
    rintro _ w5 ⟨rfl,p5,f5⟩;obtain⟨F',h5,t5⟩:=h4.D0 p5 f5;refine⟨_,rfl,rfl,F',_,h5,t5.eL f14⟩
   ·have hz:P.2≠0:=hz
    rw[if_pos hz];exact⟨rfl,F,Fp,h4,(dS.refl hR).dq f14⟩
  have n2:c≠2:=fun t=>h2 (by rw[t];rfl);refine aa.eq (fun h3=>?_) (fun h3=>?_)
  ·obtain rfl:=JF 3 h3
   rw[abv];refine rest fun u hu rh=>?_;refine ab.of (G7 hu rh ht.lN) ?_;rintro _ w1 ⟨rfl,f1⟩;refine⟨((fV false r).1.e,(fV false r).2,()),rfl,?_⟩;have ql:=Ih r;generalize fV false r=P at *;refine ak.of fun g2 w2 mF aI f2 _=>?_;have aI:w2.heap[g2]? = some (.cells (gV bb.e).toArray 36 (0,0)):=aI;refine ar.aE (vs:=gV P.1.e) aI rfl (Ba _) fun w3 aR f3 _=>aD.of fun w4 _ f4=>aV.all ?_;have Bf:w1.heap.size<=g2:=by omega
   have f14:Fr none1 w w4:=(f1.trans (f2.fresh f3 Bf)).trans f4;have h4:=h.af f14;refine av.all (h4.cc hk 2 (ck:=.ptr) (x:=some ⟨pb,0,none⟩) rfl (av.all (h4.cc hk 0 (ck:=.int .i64) (x:=n.side) rfl ?_)));refine ab.of (Qs h4.pr ho) ?_;rintro _ w5 ⟨c5,rfl,yk,f5⟩;refine⟨_,rfl,ai.of f5 ?_⟩;refine ab.of (pD BM yk) ?_;rintro _ _ ⟨rfl,rfl⟩;refine⟨_,rfl,ai.of (Fr.refl _ _) ⟨by decide,aD.of fun w6 _ f6=>?_⟩⟩;have f16:=(f14.trans f5).trans f6;have h6:=h.af f16;have stay:(Value.bool false=.bool (n,false).2/\∃ F' yn,fB N w6 F' b (n,false).1 fb fg j pb wb S yn/\dS N w F b (n,false).1 fb fg w6 F' fg):=⟨rfl,F,Fp,h6,(dS.refl hR).dq f16⟩;have em:Int.tmod ((n.p.es.length:Nat):Int) 2=n.p.len % 2:=Int.tmod_eq_emod_of_nonneg (by omega);refine aa.eq (fun hz=>?_) (fun hz=>?_)
   ·have hz:P.2=0:=hz
    rw[if_neg (fun t=>t hz)];refine aa.eq (fun mX=>?_) (fun mX=>?_)
    ·have mX:n.p.len % 2=n.side:=by rw[<- em];exact mX
     rw[if_neg (fun t=>t mX)];refine h6.cc hk 2 (ck:=.ptr) (x:=some ⟨pb,0,none⟩) rfl (aq.aE (cks:=iu) (x:=P.1.e) ((f5.trans f6).af (f4.af aR)) ?_);refine ab.of (JA h6.pr (fun k hk=>h6.lt k (h6.own.2.2.2.2 k hk)) ho (ht.lN.af f16) { bH with cQ:=true,bN:=P.1 } (none,0,0) dN) ?_
     rintro _ w7 ⟨rfl,p7,f7⟩;obtain⟨F',h7,t7⟩:=h6.D0 p7 f7;refine⟨_,rfl,?_,F',_,h7,t7.eL f16⟩;rw[abx _ _ rfl];rfl
    ·have mX:n.p.len % 2≠n.side:=by rw[<- em];exact mX
     rw[if_pos mX];exact stay
   ·have hz:P.2≠0:=hz
    rw[if_pos hz];exact stay
  have n3:c≠3:=fun t=>h3 (by rw[t];rfl);rw[abw n r n1 n2 n3];exact⟨rfl,F,Fp,h,dS.refl hR⟩
theorem abz (x:fw)(h:dH x.1):(gD x).1.length<=10000001:=by
 have:=Nl x.1 h;unfold dw at this;unfold gD tK;split
 ·simp
 ·simp only[List.length_cons];omega
theorem abA {N:Nat}{w:World}{F:Nat->Prop}{b:Nat}{n:NodeM}{fb fg:Nat}(h:gY N w F b n fb fg)(hk:n.kb.length=16)(hj:n.j.rs.length<=1000000)(ht:eG N w)(a:bX)(s:Sl)(he:dH a.bm.1)(hp:dH a.bN):
  Ret Tryz.prog 99 #[.pointer (some ⟨b,0,none⟩),.agg (fO a s).toArray] w fun r w'=>r=.int .i64 (n.ag a).2/\∃ F' dZ,dS N w F b (n.ag a).1 fb fg w' F' dZ:=by
 have hR:=h;obtain⟨j,pb,wb,S,Fp,h⟩:=h;refine c99 _ (mg a s) w _ ?_;unfold C99;refine ak.of fun g1 w1 dp au f1 _=>?_;have a1:iV w1 g1 a s:=au;have ym:=vU a s;have h1:=h.af f1
 -- a record put
 have put:∀ (c:UInt8) (bs:List UInt8) (v:Sl) (w2:World) {fn:Sl->World->(Int->World->Prop)->Prop},Fr none1 w w2->cd w2 v bs->bs.length<=10000001->n.ag a=({ n with j:=(n.j.put (c::bs)).1 },(n.j.put (c::bs)).2) ->
   aD w2 (fun w7=>aV (fun S8=>av S8 ((⟨b,0,none⟩:Addr).add 17) (ae .ptr ((⟨b,0,none⟩:Addr).add 17) w7 (fun(x9:Option Addr)=>aA Tryz.prog (Instr.buildSlice 22 1 #[(0,bc c)]) w7 (.v (.one .aj)) (fun(aQ:Option Addr×Nat×Nat) aO=>ai S8 w7 aO (aA Tryz.prog (Builtin.append_ #[22,22] 22 #[.slice aQ.1 aQ.2.1 aQ.2.2,.slice v.1 v.2.1 v.2.2]) aO (.v (.one .aj)) (fun(bx:Option Addr×Nat×Nat) aY=>ai S8 aO aY (ab Tryz.prog 44 #[.pointer x9,.slice bx.1 bx.2.1 bx.2.2] aY (.v (.one (.int .i64))) (fun(bg:Int) bM=>ai S8 aY bM ((Value.int .i64 bg=.int .i64 (n.ag a).2/\∃ F' dZ,dS N w F b (n.ag a).1 fb fg bM F' dZ))))))))))):=by
  intro c bs v w2 _ f2 hv hl e;refine aD.of fun w7 _ f7=>aV.of (fun k=>k=b) ?_;have f27:=f2.trans f7;have h7:=h.af f27;refine⟨rfl,h7.cc hk 1 (ck:=.ptr) (x:=some ⟨j,0,none⟩) rfl ?_⟩;refine Aj c fun u w8 hu f8 mH=>ai.of f8 ?_;obtain⟨y,w9,r9,hy,f9,CX⟩:=rO hu (((hv.af f7).af f8).rd) (by simp;omega);have z27:=f27.size;have zb:=h.lt b h.own.1;have zj:=h.lt j h.own.2.2.1;have zf:=h.jr.file.lt;have z8:=f8.size;have yb:∀ k,aw y k->w7.heap.size<=k:=fun k hk=>by
   rcases CX k hk with t | t
   ·exact mH k t
   ·omega
  have f9':Fr none1 w7 w9:=f8.comp f9 fun k hk t=>by have:=mH k t;omega
  refine⟨y,w9,r9,ai.on f9 (fun k hk t=>by have hk:k=b:=hk;have:=mH k t;omega) ?_⟩;have f29:=f27.trans f9';have h9:=h.af f29;have jh:=h.jr.slt;refine ab.of (N8 h9.jr hy.rd (fun k hk=>?_) hj) ?_
  ·have:=yb k hk
   exact⟨aF.lt hy hk,by omega,by omega,fun t=>by have:=jh k t;omega⟩
  rintro _ aG ⟨rfl,t10⟩;obtain⟨F',dZ,S',oF,yo⟩:=h9.JB (J:=(n.j.put (c::bs)).1) t10;have f10:=t10.1;refine⟨_,rfl,ai.on f10 (fun k hk t=>?_) ?_⟩
  ·have hk:k=b:=hk
   obtain⟨a1,a2,a3,a4,a5,a6,a7,a8,a9⟩:=h.apart
   rcases t with t | t | t
   ·exact a2 (by rw[<- hk];exact t)
   ·rw[<- t,hk] at zf
    exact h.file.1 (by rw[<- t,hk];exact h.own.1)
   ·exact a4 (by rw[<- hk];exact t)
  ·rw[e]
   exact⟨rfl,F',dZ,yo.eL f29⟩
 refine a1.ld 0 (ck:=.bool) (x:=a.da) ym.1 (aa.by (fun hE=>?_) (fun hE=>?_))
 ·have hE:a.da=true:=hE
  have eb:NodeM.eF a=(2::(gD a.bm).1,(gD a.bm).2):=by unfold NodeM.eF;rw[if_pos hE]
  refine a1.bm ?_;have hw:=tF a.bm.1.t;refine ab.of (MN a.bm.1.e a.bm.2 (vr _) he.e (bp a.bm.1.t).1 (by omega) (bp a.bm.1.t).2 w1 (fun _ w2 f2=>CP a.bm.1.t he.2.2.2.2 (ht.lN.af f1) w2 f2)) ?_;rintro _ w2 ⟨v,rfl,hv,f2,vb⟩;refine⟨(v,(gD a.bm).2,()),rfl,aa.ne (fun ay=>?_) (fun hz=>?_)⟩
  ·have ay:(gD a.bm).2≠0:=ay
   have e:n.ag a=(n,(gD a.bm).2):=by unfold NodeM.ag;rw[if_neg (by rw[hE];simp),eb,if_pos ay]
   rw[e];exact⟨rfl,F,fg,(dS.refl hR).dq (f1.trans f2)⟩
  ·have hz:(gD a.bm).2=0:=hz
   have e:n.ag a=({ n with j:=(n.j.put (2::(gD a.bm).1)).1 },(n.j.put (2::(gD a.bm).1)).2):=by unfold NodeM.ag;rw[if_neg (by rw[hE];simp),eb,if_neg (fun t=>t hz)]
   exact put 2 (gD a.bm).1 v w2 (fn:=fun _ _ _=>True) (f1.trans f2) hv (abz _ he) e
 have hE:a.da=false:=hE;refine a1.ld 1 (ck:=.bool) (x:=a.cQ) ym.2.1 (aa.by (fun hP=>?_) (fun hP=>?_))
 ·have hP:a.cQ=true:=hP
  have eb:NodeM.eF a=(3::(dw a.bN).1,(dw a.bN).2):=by unfold NodeM.eF;rw[if_neg (by rw[hE];simp)]
  refine a1.bN ?_;refine ab.of (Nk a.bN hp w1 (ht.lN.af f1)) ?_;rintro _ w2 ⟨v,rfl,hv,f2,vb⟩;refine⟨(v,(dw a.bN).2,()),rfl,aa.ne (fun ay=>?_) (fun hz=>?_)⟩
  ·have ay:(dw a.bN).2≠0:=ay
   have e:n.ag a=(n,(dw a.bN).2):=by unfold NodeM.ag;rw[if_neg (by rw[hP];simp),eb,if_pos ay]
   rw[e];exact⟨rfl,F,fg,(dS.refl hR).dq (f1.trans f2)⟩
  ·have hz:(dw a.bN).2=0:=hz
   have e:n.ag a=({ n with j:=(n.j.put (3::(dw a.bN).1)).1 },(n.j.put (3::(dw a.bN).1)).2):=by unfold NodeM.ag;rw[if_neg (by rw[hP];simp),eb,if_neg (fun t=>t hz)]
   exact put 3 (dw a.bN).1 v w2 (fn:=fun _ _ _=>True) (f1.trans f2) hv (by have:=Nl a.bN hp;omega) e
 ·have hP:a.cQ=false:=hP
  have e:n.ag a=(n,0):=by unfold NodeM.ag;rw[if_pos ⟨hE,hP⟩]
  rw[e];exact⟨rfl,F,fg,(dS.refl hR).dq f1⟩
theorem abB {p:PeerM}{a:bX}(h:(p.bR a).2≠0):(p.bR a).1=p:=by
 unfold PeerM.bR at h ⊢;split at h
 ·rename_i t
  rw[if_pos t];split at h
  ·rename_i q;rw[if_pos q]
  ·exact absurd rfl h
 ·exact absurd rfl h
theorem abC {kb bs:List UInt8}(h:(eZ kb bs).2=0):(eZ kb bs).1.2.1<=9223372036854775807/\(eZ kb bs).1.2.2.1<=9223372036854775807:=by
 unfold eZ at h ⊢;split
 ·exact⟨by decide,by decide⟩
 split
 ·exact⟨by decide,by decide⟩
 split
 ·exact⟨by decide,by decide⟩
 split
 ·exact⟨by decide,by decide⟩
 ·rename_i h1 h2 h3 h4
  have hb:ll (il (iS bs))=((ll (il (iS bs))).1,0):=Prod.ext rfl (Classical.not_not.1 fun t=>h4 (.inl t));obtain⟨_,c2,c3,_⟩:=CS (HA hb).1;have c2:(il (iS bs)).2.1<=2147483647:=c2.2;have c3:(il (iS bs)).2.2.1<=2147483647:=c3.2;exact⟨by dsimp only;omega,by dsimp only;omega⟩
def oK (done:List (List UInt8))(r:List (List UInt8)×Int×Int):List (List UInt8)×Int×Int:=if r.2.2≠0 then([],r.2.1,r.2.2) else(done++r.1,r.2.1,0)
theorem Qw (kb:List UInt8)(side aZ:Int)(f:ct)(l:List ct)(n:Int):NodeM.jZ kb side aZ (f::l) n=if(kI kb (side,aZ,n,f.2.2.2)).2≠0 then([],n,(kI kb (side,aZ,n,f.2.2.2)).2) else oK [(kI kb (side,aZ,n,f.2.2.2)).1] (NodeM.jZ kb side aZ l (n+1)):=rfl
theorem abD (r:List (List UInt8)×Int×Int)(h:r.2.2≠0->r.1=[]):oK [] r=r:=by
 obtain⟨a,b,c⟩:=r;unfold oK;dsimp only at h ⊢
 by_cases hc:c≠0
 ·rw[if_pos hc,h hc]
 ·rw[if_neg hc]
  have:c=0:=Classical.not_not.1 hc;rw[this];rfl
theorem abE (kb:List UInt8)(side aZ:Int):∀ (l:List ct) (n:Int),(NodeM.jZ kb side aZ l n).2.2≠0->(NodeM.jZ kb side aZ l n).1=[]
 | [],n,h=>rfl
 | f::l,n,h=>by
  rw[Qw] at h ⊢;split at h
  ·rename_i t;rw[if_pos t]
  ·rename_i t
   rw[if_neg t];unfold oK at h ⊢;split at h
   ·rename_i q;rw[if_pos q]
   ·exact absurd rfl h
theorem abF (a b:List (List UInt8))(r:List (List UInt8)×Int×Int):oK a (oK b r)=oK (a++b) r:=by
 unfold oK
 by_cases h:r.2.2≠0
 ·rw[if_pos h,if_pos (by exact h),if_pos h]
 ·rw[if_neg h,if_neg (by simp),if_neg h,List.append_assoc]
theorem abG (l:List ct):nT l=((l.map fun f=>dI f.f)).flatten:=rfl
theorem abH (l:List ct):∀ x∈l.map (fun f=>dI f.f),x.length=15:=by
 intro x hx;obtain⟨f,_,rfl⟩:=List.mem_map.1 hx;rfl
structure kL (N:Nat)(w:World)(F:Nat->Prop)(b:Nat)(n':NodeM)(fb fg:Nat)(l:List (List UInt8))(v:Sl)(w':World):Prop where
 out:∃ F' dZ S',dS N w F b n' fb fg w' F' dZ/\ja w' S' v l/\(∀ k,S' k->w.heap.size<=k/\¬ F' k/\k≠fb/\k≠dZ)
theorem kL.none {N:Nat}{w:World}{F:Nat->Prop}{b:Nat}{n':NodeM}{fb fg:Nat}{w':World}{F':Nat->Prop}{dZ:Nat}(h:dS N w F b n' fb fg w' F' dZ):kL N w F b n' fb fg [] (Option.none,0,0) w':=
 ⟨F',dZ,fun _=>False,h,As _ _ (fun k t=>t.elim),fun k t=>t.elim⟩
theorem kL.eL {N:Nat}{w w1:World}{F:Nat->Prop}{b:Nat}{n':NodeM}{fb fg:Nat}{l:List (List UInt8)}{v:Sl}{w':World}(f:Fr none1 w w1)(h:kL N w1 F b n' fb fg l v w'):kL N w F b n' fb fg l v w':=by
 obtain⟨F',dZ,S',a,b,c⟩:=h.out;exact⟨F',dZ,S',a.eL f,b,fun k hk=>⟨Nat.le_trans f.size (c k hk).1,(c k hk).2⟩⟩
theorem kL.of {N:Nat}{w w1:World}{F F1:Nat->Prop}{b:Nat}{n1 n':NodeM}{fb fg g1:Nat}{l:List (List UInt8)}{v:Sl}{w':World}(t:dS N w F b n1 fb fg w1 F1 g1)(h:kL N w1 F1 b n' fb g1 l v w'):kL N w F b n' fb fg l v w':=by
 obtain⟨F',dZ,S',a,b,c⟩:=h.out;exact⟨F',dZ,S',t.trans a,b,fun k hk=>⟨Nat.le_trans t.f.size (c k hk).1,(c k hk).2⟩⟩
theorem Qx {N:Nat}{w:World}{F:Nat->Prop}{b:Nat}{n:NodeM}{fb fg:Nat}(h:gY N w F b n fb fg)(hk:n.kb.length=16)(ho:cX n.p)(hj:n.j.rs.length<=1000000)(hn:0<=n.number/\n.number<=1000000000)(ht:eG N w)(a:bX)(s:Sl)(ha:nK a)
  (hs:aF w 42 15 s (nT a.bO)) (xX:∀ k,aw s k->¬ F k/\k≠fb) :
  Ret Tryz.prog 46 #[.pointer (some ⟨b,0,none⟩),.agg (fO a s).toArray] w fun r w'=>∃ v:Sl,r=.tuple #[.slice v.1 v.2.1 v.2.2,.int .i64 (n.act a).2.2]/\kL N w F b (n.act a).1 fb fg (n.act a).2.1 v w':=by
 obtain⟨aU,Bg,Qy,JG,_,_⟩:=h.lt;have kX:=ha.num;refine c46 _ (mg a s) w _ ?_;unfold C46;refine ak.of fun g1 w1 dp au f1 _=>?_;have a1:iV w1 g1 a s:=au;refine aq.aE (cks:=dY) (x:=mg a s) au ?_;refine ab.of (abA (h.af f1) hk hj (ht.af f1) a s ha.bm ha.bN) ?_;rintro _ w2 ⟨rfl,F2,sR,Bh⟩;have t2:=Bh.eL f1;obtain⟨k1,k2,k3,k4,k5,k6⟩:=Ds (n:=n) a;refine⟨_,rfl,aa.ne (fun ay=>?_) (fun hz=>?_)⟩
 ·have ay:(n.ag a).2≠0:=ay
  have e:n.act a=((n.ag a).1,[],(n.ag a).2):=by unfold NodeM.act;rw[if_pos ay]
  rw[e];exact⟨(none,0,0),rfl,kL.none t2⟩
 have hz:(n.ag a).2=0:=hz;have Qz:∀ k,w.heap.size<=k->¬ sQ F fb k:=fun k hk t=>by
  rcases t with t | t
  ·have:=aU k t;omega
  ·omega
 have QA:∀ k,aw s k->¬ sQ F fb k:=fun k hk t=>t.elim (xX k hk).1 (xX k hk).2;have abI:∀ k,aw s k->k<w.heap.size:=fun k hk=>aF.lt hs hk
 -- blocks of the act, and of DT is to be said, stay
 have a2:iV w2 g1 a s:=Bh.f.ag a1 (Qz g1 (by omega));have gw:aF w2 42 15 s (nT a.bO):=(hs.af f1).ag Bh.f QA;have uF:eG N w2:=t2.lN h ht;refine aD.of fun w3 _ f3=>?_;have a3:iV w3 g1 a s:=f3.af a2;have t3:=t2.dq f3;obtain⟨j,pb,wb,S,Fp,h3⟩:=t3.r;have vW:(n.ag a).1.kb.length=16:=by rw[k2];exact hk
 refine h3.cc vW 2 (ck:=.ptr) (x:=some ⟨pb,0,none⟩) rfl (aq.aE (cks:=dY) (x:=mg a s) a3 ?_);refine ab.of (JA h3.pr (fun k hk=>h3.lt k (h3.own.2.2.2.2 k hk)) (by rw[k1];exact ho) (uF.af f3).lN a s ha.bm) ?_;rw[k1];rintro _ w4 ⟨rfl,p4,f4⟩;obtain⟨F4,h4,t34⟩:=h3.D0 p4 f4;have t4:=t3.trans t34;have D2:∀ k,k<w3.heap.size->¬ F2 k->¬ F4 k:=fun k hk hn t=>by
  rcases t34.sub k t with t | t
  ·exact hn t
  ·have:=t.1;omega
 have QB:∀ k,k<w1.heap.size->¬ sQ F fb k->¬ F2 k:=fun k hk hn t=>by
  rcases Bh.sub k t with t | t
  ·exact hn (.inl t)
  ·have:=t.1;omega
 have z1:=f1.size;have z2:=Bh.f.size;have z3:=f3.size;have z4:=f4.size;have l1:=bL au;have nF4:∀ k,k<w1.heap.size->¬ sQ F fb k->¬ F4 k:=fun k hk hn=>D2 k (by omega) (QB k hk hn);have QC:∀ k,k<w1.heap.size->¬ sQ F fb k->¬ sQ F2 fb k:=fun k hk hn t=>t.elim (QB k hk hn) (fun q=>hn (.inr q));have a4:iV w4 g1 a s:=t34.f.ag a3 (QC g1 l1 (Qz g1 (by omega)));have sC:aF w4 42 15 s (nT a.bO):=(gw.af f3).ag t34.f fun k hk=>QC k (by have:=abI k hk;omega) (QA k hk);refine⟨_,rfl,aa.ne (fun ay=>?_) (fun JH=>?_)⟩
 ·have ay:(n.p.bR a).2≠0:=ay
  have e:n.act a=((n.ag a).1,[],(n.p.bR a).2):=by unfold NodeM.act;rw[if_neg (fun t=>t hz),k1,if_pos ay]
  have e2:({ (n.ag a).1 with p:=(n.p.bR a).1 }:NodeM)=(n.ag a).1:=by rw[abB ay,<- k1]
  rw[e2] at t4;rw[e];exact⟨(none,0,0),rfl,kL.none t4⟩
 have JH:(n.p.bR a).2=0:=JH;have abJ:n.act a=({ (n.ag a).1 with p:=(n.p.bR a).1,number:=(NodeM.jZ n.kb n.side n.aZ a.bO n.number).2.1 },(NodeM.jZ n.kb n.side n.aZ a.bO n.number).1,(NodeM.jZ n.kb n.side n.aZ a.bO n.number).2.2):=by
  unfold NodeM.act;rw[if_neg (fun t=>t hz),k1,if_neg (fun t=>t JH)]
 rw[abJ];refine a4.ld 23 (ck:=.aj) (x:=s) (by rw[pE];rfl) ?_
 -- the node behind so many acS
 let nd:Int->NodeM:=fun m=>{ (n.ag a).1 with p:=(n.p.bR a).1,number:=m }
 have hnd:∀ m,(nd m).kb.length=16:=fun m=>by show(n.ag a).1.kb.length=16;exact vW
 have jh:=hs.rd.1;have xp:s.2.1=a.bO.length:=by
  have e:(nT a.bO).length=15 * a.bO.length:=by
   unfold nT
   induction a.bO with
   | nil=>rfl
   | cons x l ih=>rw[List.map_cons,List.flatten_cons,List.length_append,ih,List.length_cons];show 15+_=_;omega
  omega
 have MZ:fB N w4 F4 b (nd n.number) fb sR j pb wb S (fun k=>Fp k\/cE w3 w4 k):=by rw[<- k5];exact h4
 refine bC.of (fun q w'=>∃ (i:Nat) (m:Int) (done:List (List UInt8)) (S':Nat->Prop),q.2.1=(i:Int)/\i<=a.bO.length/\m=n.number+i/\ja w' S' q.1 done/\(∀ k,S' k->w4.heap.size<=k)/\fB N w' F4 b (nd m) fb sR j pb wb S (fun k=>Fp k\/cE w3 w4 k) /\
   NodeM.jZ n.kb n.side n.aZ a.bO n.number=oK done (NodeM.jZ n.kb n.side n.aZ (a.bO.drop i) m)/\done.length<=i/\Fr (only b) w4 w') (fun q _=>(a.bO.length - q.2.1).toNat)
  ⟨0,n.number,[],fun _=>False,rfl,Nat.zero_le _,by simp,As _ _ (fun k t=>t.elim),fun k t=>t.elim,MZ,(abD _ (abE _ _ _ _ _)).symm,Nat.le_refl _,Fr.refl _ _⟩ ?_
 rintro _ ⟨q,i',_⟩ w5 ⟨i,m,done,S',Bi,jf,hm,rm,nH,h5,sS,ot,f5⟩;dsimp only at Bi rm;subst Bi;have z5:=f5.size;have QD:∀ {w':World},Fr (only b) w4 w'->Fr (sQ F4 fb) w4 w':=fun f=>f.mono fun k _ t=>.inl (by have t:k=b:=t;rw[t];exact h4.own.1)
 -- DT is given back
 have fin:∀ {w':World} {m':Int} {l:List (List UInt8)} {v:Sl} {S2:Nat->Prop},fB N w' F4 b (nd m') fb sR j pb wb S (fun k=>Fp k\/cE w3 w4 k)->Fr (only b) w4 w'->ja w' S2 v l->(∀ k,S2 k->w4.heap.size<=k)->kL N w F b (nd m') fb fg l v w':=by
  intro w' m' l v S2 hI f hr rl;refine⟨F4,sR,S2,t4.trans ⟨⟨_,_,_,_,_,hI⟩,fun k hk=>.inl hk,.inr (.inl rfl),QD f⟩,hr,fun k hk=>?_⟩;have:=rl k hk;have:=h4.jr.file.lt;have:=h4.jr.file.qq;exact⟨by omega,fun t=>by have:=h4.lt k t;omega,by omega,by omega⟩
 refine aa.dec (fun JI=>?_) (fun eu=>?_)
 rotate_left
 ·have eu:¬ (i:Int)<(s.2.1:Int):=eu
  have hi:i=a.bO.length:=by omega
  rw[hi,List.drop_length] at sS;have e:oK done (NodeM.jZ n.kb n.side n.aZ [] m)=(done,m,0):=by unfold oK;rw[if_neg (by intro t;exact t rfl)];simp[NodeM.jZ]
  rw[e] at sS;rw[sS];exact⟨q,rfl,fin h5 f5 rm nH⟩
 have JI:(i:Int)<(s.2.1:Int):=JI;have hi:i<a.bO.length:=by omega
 obtain⟨f,hf⟩:∃ f,a.bO[i]? = some f:=⟨_,List.getElem?_eq_getElem hi⟩;have A4:a.bO.drop i=f::a.bO.drop (i+1):=by
  obtain⟨aU,he⟩:=List.getElem?_eq_some_iff.1 hf;rw[List.drop_eq_getElem_cons aU,he]
 rw[A4,Qw] at sS;have sK:=ha.bO f (List.mem_of_getElem? hf);obtain⟨p,hp⟩:∃ p,s.1=some p:=by
  cases hp:s.1 with
  | none=>have:=(hs.rd.2.1 hp).1;omega
  | some p=>exact⟨p,rfl⟩
 have nb:∀ k,aw s k->¬ (only b) k:=fun k hk t=>by have t:k=b:=t;rw[t] at hk;exact(xX b hk).1 JG
 have Ad:=sC.ag f5 nb;rw[abG] at Ad;refine⟨p,hp,(show(0:Int)<=(i:Int) by omega),(show(i:Int)<(s.2.1:Int) from JI),?_⟩;rw[Int.toNat_natCast];refine du.sA Ad.rd (abH _) (cks:=FK) (x:=f.f) (by rw[List.getElem?_map,hf];rfl) (by omega) ?_ hp;refine ak.of fun g6 w6 Ig fq f6 _=>ar.aE fq rfl (Qc f) fun w7 gC f7 s7=>aD.of fun w8 _ f8=>aV.of (fun k=>k=b) ?_;have zb:=h5.lt b h5.own.1;have f58:Fr none1 w5 w8:=(f6.fresh f7 (by omega)).dq f8;have h8:=h5.af f58;have b8:w8.heap[g6]? = some (.cells (dI f.f).toArray 42 (0,0)):=f8.af gC;have yp:∀ k,k=b->¬ (only g6) k:=fun k hk t=>by have t:k=g6:=t;omega
 refine⟨rfl,h8.cc (hnd m) 0 (ck:=.int .i64) (x:=n.side) (by show some (Value.int .i64 (n.ag a).1.side)=some (Value.int .i64 n.side);rw[k3]) ⟨rfl,h8.cc (hnd m) 4 (ck:=.int .i64) (x:=n.aZ) (by show some (Value.int .i64 (n.ag a).1.aZ)=some (Value.int .i64 n.aZ);rw[k4]) ⟨rfl,h8.cc (hnd m) 5 (ck:=.int .i64) (x:=m) rfl ?_⟩⟩⟩;refine az.ah b8 (by show _<15;decide) rfl fun w9 lG f9 s9=>ai.on f9 yp ?_;refine az.ah lG (by simp[dI]) rfl fun aG lK f10 sD=>ai.on f10 yp ?_;refine az.ah lK (by simp[dI]) rfl fun aO qm f11 AV=>ai.on f11 yp ?_;have qm:aO.heap[g6]? = some (.cells (dI (ct.f (n.side,n.aZ,m,f.2.2.2))).toArray 42 (0,0)):=qm;refine aD.of fun aL _ f12=>aV.all ?_;have Bj:Fr none1 w5 aL:=(((f58.fresh f9 (by omega)).fresh f10 (by omega)).fresh f11 (by omega)).dq f12;have QE:=h5.af Bj;refine av.all (QE.key (hnd m) (av.all (aq.aE (cks:=FK) (x:=ct.f (n.side,n.aZ,m,f.2.2.2)) (f12.af qm) ?_)));have abK:eG N aL:=((t4.trans ⟨⟨_,_,_,_,_,h5⟩,fun k hk=>.inl hk,.inr (.inl rfl),QD f5⟩:dS N w F b (nd m) fb fg w5 F4 sR).lN h ht).af Bj;refine ab.of (YV (nd m).kb (hnd m) (n.side,n.aZ,m,f.2.2.2) sK.1.e sK.1.2.2.2.2 sK.2 aL abK.lN) ?_;rw[show(nd m).kb=n.kb from k2];generalize kI n.kb (n.side,n.aZ,m,f.2.2.2)=Z at *;rintro _ aY ⟨v,rfl,hv,f13⟩;refine⟨(v,Z.2,()),rfl,ai.of f13 (aa.ne (fun ay=>?_) (fun JJ=>?_))⟩
 ·have ay:Z.2≠0:=ay
  rw[if_pos ay] at sS;have e:oK done ([],m,Z.2)=([],m,Z.2):=by unfold oK;rw[if_pos ay]
  rw[e] at sS;rw[sS];exact⟨(none,0,0),rfl,fin (QE.af f13) ((f5.dq Bj).dq f13) (As _ (fun _=>False) (fun k t=>t.elim)) (fun k t=>t.elim)⟩
 have JJ:Z.2=0:=JJ;rw[if_neg (fun t=>t JJ),abF] at sS;have D3:Fr none1 w5 aY:=Bj.trans f13;have abL:=rm.af D3;have JK:∀ k,aw v k->aL.heap.size<=k:=hv.lo;have zc:=Bj.size;have zc':=D3.size;have Ac:=rm.lt;obtain⟨y,bo,r,bM,r14,f14,r15,f15,S2,rl,abM⟩:=abL.snoc hv.is.rd hv.is.cap (fun k hk=>⟨aF.lt hv.is hk,fun t=>by have:=Ac k t;have:=JK k hk;omega⟩) (by omega);refine⟨y,bo,r14,r,bM,r15,?_⟩;have f5d:Fr none1 w5 bM\/True:=.inr trivial;have qv:∀ k,aw q k->¬ (only b) k/\¬ F4 k/\k≠fb/\k≠sR:=fun k hk=>by
  have h1:=nH k (rm.own k hk);have:=h4.lt b h4.own.1;have:=h4.jr.file.lt;have:=h4.jr.file.qq;exact⟨fun t=>by have t:k=b:=t;omega,fun t=>by have:=h4.lt k t;omega,by omega,by omega⟩
 have JL:fB N bM F4 b (nd m) fb sR j pb wb S (fun k=>Fp k\/cE w3 w4 k):=(h5.af D3).ag f15 (fun k hk t=>(qv k t).2.1 hk) (fun t=>(qv fb t).2.2.1 rfl) (fun t=>(qv sR t).2.2.2 rfl);have f45:Fr (only b) w4 bM:=by
  refine(f5.dq D3).comp f15 fun k hk t=>?_;have:=nH k (rm.own k t);omega
 refine JL.cc (hnd m) 5 (ck:=.int .i64) (x:=m) rfl ?_;have hwm:IntKind.i64.wrap (m+1)=m+1:=wI (by omega) (by omega);rw[hwm];refine rF (hnd m) JL.aE 5 (by show 5<6;decide) rfl fun bj CM f16 Wv=>?_;rw[abr] at CM;obtain⟨D4,_⟩:=JL.cell (n':=nd (m+1)) f16 CM rfl rfl rfl;refine⟨⟨i+1,m+1,done++[Z.1],S2,?_,by omega,by omega,abM.ag f16 (fun k hk t=>?_),fun k hk=>?_,D4,sS,by simp;omega,f45.trans f16⟩,?_⟩
 ·dsimp only;rw[wI (by omega) (by omega)];omega
 ·have t:k=b:=t
  have:=h4.lt b h4.own.1
  rcases rl k hk with q | q | q
  ·have:=nH k q;omega
  ·have:=JK k q;omega
  ·omega
 ·rcases rl k hk with q | q | q
  ·exact nH k q
  ·have:=JK k q;omega
  ·omega
 ·dsimp only;rw[wI (by omega) (by omega)];omega
theorem JM {N:Nat}{w:World}{F:Nat->Prop}{b:Nat}{n:NodeM}{fb fg:Nat}(h:gY N w F b n fb fg)(hk:n.kb.length=16)(ho:cX n.p)(hj:n.j.rs.length<=1000000)(hn:0<=n.number/\n.number<=1000000000)(ht:eG N w):
  Ret Tryz.prog 13 #[.pointer (some ⟨b,0,none⟩)] w fun r w'=>∃ v:Sl,r=.tuple #[.slice v.1 v.2.1 v.2.2,.int .i64 n.tick.2.2]/\kL N w F b n.tick.1 fb fg n.tick.2.1 v w':=by
 obtain⟨aU,Bg,Qy,JG,_,_⟩:=h.lt;refine c13 _ w _ ?_;unfold C13;refine ab.of (Be h hk) ?_;rintro _ _ ⟨rfl,rfl⟩;refine⟨_,rfl,aa.by (fun hd=>?_) (fun hd=>?_)⟩
 ·have hd:n.dead=true:=hd
  have e:n.tick=(n,[],11):=by unfold NodeM.tick;rw[if_pos hd]
  rw[e];exact⟨(none,0,0),rfl,kL.none (dS.refl h)⟩
 have hd:n.dead=false:=hd;have e:n.tick=n.act n.p.tick:=by unfold NodeM.tick;rw[if_neg (by rw[hd];simp)]
 rw[e];have h':=h;obtain⟨j,pb,wb,S,Fp,h'⟩:=h';refine h'.cc hk 2 (ck:=.ptr) (x:=some ⟨pb,0,none⟩) rfl ?_;refine ab.of (aa5 h'.pr ho ht.lN) ?_;rintro _ w1 ⟨⟨s,rfl,hs,sf⟩,f1⟩;refine⟨mg n.p.tick s,rfl,?_⟩;refine ab.of (Qx (h.af f1) hk ho hj hn (ht.af f1) n.p.tick s ho.tick hs fun k hk=>?_) ?_
 ·have:=sf k hk
  exact⟨fun t=>by have:=aU k t;omega,by omega⟩
 rintro _ w2 ⟨v,rfl,h2⟩;exact⟨(v,(n.act n.p.tick).2.2,()),rfl,v,rfl,h2.eL f1⟩
theorem abN {N:Nat}{w:World}{F:Nat->Prop}{b:Nat}{n:NodeM}{fb fg:Nat}(h:gY N w F b n fb fg)(hk:n.kb.length=16)(ho:cX n.p)(hj:n.j.rs.length<=1000000)(hn:0<=n.number/\n.number<=1000000000)(ht:eG N w){u:Sl}{bs:List UInt8}(hu:bd w u bs)(hc:u.2.1<=u.2.2)(hl:bs.length<=140737488355300):
  Ret Tryz.prog 18 #[.pointer (some ⟨b,0,none⟩),.slice u.1 u.2.1 u.2.2] w fun r w'=>∃ v:Sl,r=.tuple #[.slice v.1 v.2.1 v.2.2,.int .i64 (n.take bs).2.2]/\kL N w F b (n.take bs).1 fb fg (n.take bs).2.1 v w':=by
 obtain⟨aU,Bg,Qy,JG,_,_⟩:=h.lt;refine c18 _ u.1 u.2.1 u.2.2 w _ ?_;unfold C18;refine ab.of (Be h hk) ?_;rintro _ _ ⟨rfl,rfl⟩;refine⟨_,rfl,aa.by (fun hd=>?_) (fun hd=>?_)⟩
 ·have hd:n.dead=true:=hd
  have e:n.take bs=(n,[],11):=by unfold NodeM.take;rw[if_pos hd]
  rw[e];exact⟨(none,0,0),rfl,kL.none (dS.refl h)⟩
 have hd:n.dead=false:=hd;have hR:=h;obtain⟨j,pb,wb,S,Fp,h⟩:=h;refine h.key hk ?_;refine ab.of (YX n.kb hk hu hc hl ht.lN) ?_;rintro _ w1 ⟨rfl,f1⟩;have ql:=Y1 n.kb bs;have abO:n.take bs=if(eZ n.kb bs).2≠0 then(n,[],(eZ n.kb bs).2) else if(eZ n.kb bs).1.1=n.side then(n,[],8) else if n.w.acc (eZ n.kb bs).1.2.1 (eZ n.kb bs).1.2.2.1=false then(n,[],4) else
   ({ n with w:=n.w.accept (eZ n.kb bs).1.2.1 (eZ n.kb bs).1.2.2.1 }:NodeM).act (n.p.take (eZ n.kb bs).1):=by
  conv=>lhs;unfold NodeM.take
  rw[if_neg (by rw[hd];simp)]
 have QF:(eZ n.kb bs).2=0->(eZ n.kb bs).1.2.1<=9223372036854775807/\(eZ n.kb bs).1.2.2.1<=9223372036854775807:=abC;rw[abO];generalize eZ n.kb bs=O at *;refine⟨(O.1.f,O.2,()),rfl,?_⟩;refine ak.of fun g2 w2 mF aI f2 _=>ar.aE (vs:=dI O.1.f) aI rfl (Qc O.1) fun w3 aR f3 s3=>?_;have Bf:w.heap.size<=g2:=by have:=f1.size;omega
 have f13:Fr none1 w w3:=(f1.trans f2).fresh f3 Bf;refine aa.ne (fun ay=>?_) (fun hz=>?_)
 ·have ay:O.2≠0:=ay
  rw[if_pos ay];exact⟨(none,0,0),rfl,kL.none ((dS.refl hR).dq f13)⟩
 have hz:O.2=0:=hz;rw[if_neg (fun t=>t hz)];refine aD.of fun w4 _ f4=>?_;have f14:=f13.trans f4;have dy:=f4.af aR;have h4:=h.af f14;refine ae.ah dy (x:=O.1.1) rfl (h4.cc hk 0 (ck:=.int .i64) (x:=n.side) rfl (aa.eq (fun hs=>?_) (fun hs=>?_)))
 ·have hs:O.1.1=n.side:=hs
  rw[if_pos hs];exact⟨(none,0,0),rfl,kL.none ((dS.refl hR).dq f14)⟩
 have hs:O.1.1≠n.side:=hs;rw[if_neg hs];refine aD.of fun w5 _ f5=>?_;have f15:=f14.trans f5;have cY:=f5.af dy;have h5:=h.af f15;refine h5.cc hk 3 (ck:=.ptr) (x:=some ⟨wb,0,none⟩) rfl (ae.ah cY (x:=O.1.2.1) rfl (ae.ah cY (x:=O.1.2.2.1) rfl ?_));refine ab.of (Xn _ _ h5.wr (QF hz).1 (QF hz).2) ?_;rintro _ w6 ⟨rfl,f6,wr6⟩;obtain⟨h6,t6⟩:=h5.wto (W:=n.w.accept O.1.2.1 O.1.2.2.1) wr6 f6;have z15:=f15.size;have nwb:g2≠wb:=fun t=>by have:=h.lt wb h.own.2.1;omega
 have fq:=f6.ag cY nwb;have acT:n.w.acc O.1.2.1 O.1.2.2.1=jF n.w.e n.w.h n.w.s O.1.2.1 O.1.2.2.1:=rfl;refine⟨_,rfl,aa.not (aa.by (fun hA=>?_) (fun hA=>?_))⟩
 rotate_left
 ·have hA:n.w.acc O.1.2.1 O.1.2.2.1=false:=hA
  rw[if_pos hA];have en:({ n with w:=n.w.accept O.1.2.1 O.1.2.2.1 }:NodeM)=n:=by
   have:n.w.accept O.1.2.1 O.1.2.2.1=n.w:=by
    unfold sH.accept;rw[hA];unfold tS rk tT;simp
   rw[this]
  rw[en] at t6;exact⟨(none,0,0),rfl,kL.none (t6.eL f15)⟩
 have hA:n.w.acc O.1.2.1 O.1.2.2.1=true:=hA;rw[if_neg (by rw[hA];simp)];refine aD.of fun w7 _ f7=>aV.all ?_;have h7:=h6.af f7;have t7:=(t6.eL f15).dq f7;refine av.all (h7.cc hk 2 (ck:=.ptr) (x:=some ⟨pb,0,none⟩) rfl (av.all (aq.aE (cks:=FK) (x:=O.1.f) (f7.af fq) ?_)));have Fv:=t7.lN hR ht;refine ab.of (abg h7.pr ho Fv.lN O.1 ql) ?_;rintro _ w8 ⟨⟨s,rfl,hs8,sf⟩,f8⟩;refine⟨mg (n.p.take O.1) s,rfl,?_⟩;have z8:=f8.size;refine ab.of (Qx (n:={ n with w:=n.w.accept O.1.2.1 O.1.2.2.1 }) ((t7.dq f8).r) hk ho hj hn (Fv.af f8) (n.p.take O.1) s (ho.take ql) hs8 fun k hk=>?_) ?_
 ·have:=sf k hk
  have:=h7.jr.file.lt;exact⟨fun t=>by have:=h7.lt k t;omega,by omega⟩
 rintro _ w9 ⟨v,rfl,h9⟩;exact⟨(v,_,()),rfl,v,rfl,(h9.of (t7.dq f8))⟩
end Go.Proofs.YtmkehncgjnhhcaaGreatDoor
