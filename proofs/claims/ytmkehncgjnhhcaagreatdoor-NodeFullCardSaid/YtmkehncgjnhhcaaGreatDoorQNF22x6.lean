/-
  Texts of this claim, put together: CAgreeG, AgreeSpec, AgreeSpec2, AgreeSpec3, AgreeSpec4, AgreeSpec5, AgreeSpec6, AgreeSpec7, AgreeSpec8, AgreeSpec9, AgreeSpecA, NodeMem, CNodeG, NodeSpec, NodeSpec2.
  Conditions: those of each theorem.
-/
import Derived.Test.YtmkehncgjnhhcaaGreatDoorQNF22x0
import Derived.Test.YtmkehncgjnhhcaaGreatDoorQNF22x4
import Derived.Test.YtmkehncgjnhhcaaGreatDoorQNF22x5
import Derived.KernelRfl
import Derived.Test.YtmkehncgjnhhcaaGreatDoorProg
namespace Go.Proofs.YtmkehncgjnhhcaaGreatDoor
open Vc
set_option maxRecDepth 100000
set_option linter.unusedVariables false
def C40 (p0:List Value)(p1:Int)(w:World)(K:Value->World->Prop):Prop:=
 ak (.cells p0.toArray 24) w (fun g1 w2=>aa (p1 != 0)
 (aD w2 (fun w3=>aV (fun S4=>av S4 (ad g1) (eI 16 (ad g1) w3 (fun x5=>av S4 (ad g1) (eI 16 (ad g1) w3 (fun x6=>ab Tryz.prog 89 #[.agg x6.toArray] w3 (.v (.one .ptr)) (fun(x7:Option Addr) w8=>ai S4 w3 w8 (ab Tryz.prog 90 #[] w8 (.v (.one .ptr)) (fun(x9:Option Addr) aG=>ai S4 w8 aG (uj [.int .u8,.int .u8,.int .u8,.int .u8,.int .u8,.int .u8,.int .u8,.int .u8,.int .u8,.int .u8,.int .u8,.int .u8,.int .u8,.int .u8,.int .u8,.int .u8] x5 (fun(ba:Int×Int×Int×Int×Int×Int×Int×Int×Int×Int×Int×Int×Int×Int×Int×Int×Unit)=>ak (.cells #[.int .u8 ba.1,.int .u8 ba.2.1,.int .u8 ba.2.2.1,.int .u8 ba.2.2.2.1,.int .u8 ba.2.2.2.2.1,.int .u8 ba.2.2.2.2.2.1,.int .u8 ba.2.2.2.2.2.2.1,.int .u8 ba.2.2.2.2.2.2.2.1,.int .u8 ba.2.2.2.2.2.2.2.2.1,.int .u8 ba.2.2.2.2.2.2.2.2.2.1,.int .u8 ba.2.2.2.2.2.2.2.2.2.2.1,.int .u8 ba.2.2.2.2.2.2.2.2.2.2.2.1,.int .u8 ba.2.2.2.2.2.2.2.2.2.2.2.2.1,.int .u8 ba.2.2.2.2.2.2.2.2.2.2.2.2.2.1,.int .u8 ba.2.2.2.2.2.2.2.2.2.2.2.2.2.2.1,.int .u8 ba.2.2.2.2.2.2.2.2.2.2.2.2.2.2.2.1,.int .i64 1,.pointer x7,.pointer x9,.int .i64 0,.string (⟨#[]⟩:ByteArray),.string (⟨#[]⟩:ByteArray),.string (⟨#[]⟩:ByteArray),.string (⟨#[]⟩:ByteArray),.int .i64 0,.int .i64 0,.nilIface,.bool false,.int .i64 0,.string (⟨#[]⟩:ByteArray),.string (⟨#[]⟩:ByteArray),.string (⟨#[]⟩:ByteArray),.string (⟨#[]⟩:ByteArray),.int .i64 0,.int .i64 0,.nilIface,.bool false,.bool false,.bool false,.int .i64 0] 138) aG (fun g12 aW=>ai S4 aG aW (K (.pointer (some (ad g12))) aW))))))))))))))
 (aD w2 (fun bm=>aV (fun nD=>av nD (ad g1) (eI 16 (ad g1) bm (fun aQ=>av nD (ad g1) (eI 16 (ad g1) bm (fun aX=>ab Tryz.prog 89 #[.agg aX.toArray] bm (.v (.one .ptr)) (fun(br:Option Addr) bx=>ai nD bm bx (ab Tryz.prog 90 #[] bx (.v (.one .ptr)) (fun(cw:Option Addr) bB=>ai nD bx bB (uj [.int .u8,.int .u8,.int .u8,.int .u8,.int .u8,.int .u8,.int .u8,.int .u8,.int .u8,.int .u8,.int .u8,.int .u8,.int .u8,.int .u8,.int .u8,.int .u8] aQ (fun(bR:Int×Int×Int×Int×Int×Int×Int×Int×Int×Int×Int×Int×Int×Int×Int×Int×Unit)=>ak (.cells #[.int .u8 bR.1,.int .u8 bR.2.1,.int .u8 bR.2.2.1,.int .u8 bR.2.2.2.1,.int .u8 bR.2.2.2.2.1,.int .u8 bR.2.2.2.2.2.1,.int .u8 bR.2.2.2.2.2.2.1,.int .u8 bR.2.2.2.2.2.2.2.1,.int .u8 bR.2.2.2.2.2.2.2.2.1,.int .u8 bR.2.2.2.2.2.2.2.2.2.1,.int .u8 bR.2.2.2.2.2.2.2.2.2.2.1,.int .u8 bR.2.2.2.2.2.2.2.2.2.2.2.1,.int .u8 bR.2.2.2.2.2.2.2.2.2.2.2.2.1,.int .u8 bR.2.2.2.2.2.2.2.2.2.2.2.2.2.1,.int .u8 bR.2.2.2.2.2.2.2.2.2.2.2.2.2.2.1,.int .u8 bR.2.2.2.2.2.2.2.2.2.2.2.2.2.2.2.1,.int .i64 p1,.pointer br,.pointer cw,.int .i64 0,.string (⟨#[]⟩:ByteArray),.string (⟨#[]⟩:ByteArray),.string (⟨#[]⟩:ByteArray),.string (⟨#[]⟩:ByteArray),.int .i64 0,.int .i64 0,.nilIface,.bool false,.int .i64 0,.string (⟨#[]⟩:ByteArray),.string (⟨#[]⟩:ByteArray),.string (⟨#[]⟩:ByteArray),.string (⟨#[]⟩:ByteArray),.int .i64 0,.int .i64 0,.nilIface,.bool false,.bool false,.bool false,.int .i64 0] 138) bB (fun g23 cm=>ai nD bB cm (K (.pointer (some (ad g23))) cm)))))))))))))))
def pl40:aB:=(.seq .auto (.seq .auto (.seq (.held (.soft 0 (.soft 1 (.soft 2 (.pick 3 (.pick 4 (.soft 5 (.pick 6 (.soft 7 .done) .stop)) .stop) .stop))))) .auto)))
theorem c40 (p0:List Value)(p1:Int)(w:World)(K:Value->World->Prop)(h:C40 p0 p1 w K):Ret Tryz.prog 40 #[.agg p0.toArray,.int .i64 p1] w K:=aC (by kernel_rfl) Tryz.func40 (p:=pl40) (Eq.mpr (by kernel_rfl) h)
def C100 (p0:Int)(w:World)(K:Value->World->Prop):Prop:=
 uh 2 (aa ((Int.tmod p0 2)==0)
 (K (.int .i64 0) w)
 (K (.int .i64 1) w))
def pl100:aB:=.auto
theorem c100 (p0:Int)(w:World)(K:Value->World->Prop)(h:C100 p0 w K):Ret Tryz.prog 100 #[.int .i64 p0] w K:=aC (by kernel_rfl) Tryz.func100 (p:=pl100) (Eq.mpr (by kernel_rfl) h)
def C68 (p0:Addr)(w:World)(K:Value->World->Prop):Prop:=
 aq RC p0 w (fun(x1:Kk)=>ak (.cells #[.int .u8 0,.int .u8 0,.int .u8 0,.int .u8 0,.int .u8 0,.int .u8 0,.int .u8 0,.int .u8 0,.int .u8 0,.int .u8 0,.int .u8 0,.int .u8 0,.int .u8 0,.int .u8 0,.int .u8 0,.int .u8 0,.int .i64 0,.pointer none,.pointer none,.int .i64 0,.string (⟨#[]⟩:ByteArray),.string (⟨#[]⟩:ByteArray),.string (⟨#[]⟩:ByteArray),.string (⟨#[]⟩:ByteArray),.int .i64 0,.int .i64 0,.nilIface,.bool false,.int .i64 0,.string (⟨#[]⟩:ByteArray),.string (⟨#[]⟩:ByteArray),.string (⟨#[]⟩:ByteArray),.string (⟨#[]⟩:ByteArray),.int .i64 0,.int .i64 0,.nilIface,.bool false,.bool false,.bool false,.int .i64 0] 138) w (fun g2 w3=>ar (ad g2) (RD x1) w3 (fun w4=>aD w4 (fun w5=>aV (fun S6=>av S6 (p0.add 17) (ae .ptr (p0.add 17) w5 (fun(x7:Option Addr)=>av S6 (p0.add 18) (ae .ptr (p0.add 18) w5 (fun(x8:Option Addr)=>ab Tryz.prog 69 #[.pointer x7] w5 (.v (.one .ptr)) (fun(x9:Option Addr) aG=>ai S6 w5 aG (ab Tryz.prog 83 #[.pointer x8] aG (.v (.one .ptr)) (fun(ba:Option Addr) aM=>ai S6 aG aM (aA ((ad g2).add 17) (.pointer x9) aM (fun aW=>ai S6 aM aW (aA ((ad g2).add 18) (.pointer ba) aW (fun bm=>ai S6 aW bm (K (.pointer (some (ad g2))) bm)))))))))))))))))
def pl68:aB:=(.seq .auto (.seq .auto (.seq (.held (.soft 0 (.soft 1 (.soft 2 (.soft 3 (.soft 5 (.soft 6 (.soft 7 (.soft 8 (.pick 4 (.pick 9 (.soft 10 (.pick 11 (.soft 12 (.pick 13 .done .stop)) .stop)) .stop) .stop)))))))))) .auto)))
theorem c68 (p0:Addr)(w:World)(K:Value->World->Prop)(h:C68 p0 w K):Ret Tryz.prog 68 #[.pointer (some p0)] w K:=aC (by kernel_rfl) Tryz.func68 (p:=pl68) (Eq.mpr (by kernel_rfl) h)
def C29 (p0:Addr)(w:World)(K:Value->World->Prop):Prop:=
 ak (.cells #[.int .i64 0,.string (⟨#[]⟩:ByteArray),.string (⟨#[]⟩:ByteArray),.string (⟨#[]⟩:ByteArray),.string (⟨#[]⟩:ByteArray),.int .i64 0,.int .i64 0,.nilIface] 36) w (fun g1 w2=>aD w2 (fun w3=>aV (fun S4=>av S4 ((p0.add 28).add 0) (aq dt ((p0.add 28).add 0) w3 (fun(x5:bE)=>av S4 ((p0.add 28).add 8) (ae .bool ((p0.add 28).add 8) w3 (fun(x6:Bool)=>ar (ad g1) (bP x5) w3 (fun w7=>ai S4 w3 w7 (aq dt (ad g1) w7 (fun(x8:bE)=>K (.tuple #[.agg (bP x8).toArray,.bool x6]) w7))))))))))
def pl29:aB:=(.seq .auto (.seq (.held (.soft 0 (.soft 1 (.soft 2 (.soft 3 (.soft 4 (.soft 5 (.soft 6 (.soft 7 (.soft 8 (.soft 9 (.pick 10 (.soft 11 .done) .stop)))))))))))) .auto))
theorem c29 (p0:Addr)(w:World)(K:Value->World->Prop)(h:C29 p0 w K):Ret Tryz.prog 29 #[.pointer (some p0)] w K:=aC (by kernel_rfl) Tryz.func29 (p:=pl29) (Eq.mpr (by kernel_rfl) h)
def C28 (p0:Addr)(w:World)(K:Value->World->Prop):Prop:=
 ak (.cells #[.int .i64 0,.string (⟨#[]⟩:ByteArray),.string (⟨#[]⟩:ByteArray),.string (⟨#[]⟩:ByteArray),.string (⟨#[]⟩:ByteArray),.int .i64 0,.int .i64 0,.nilIface] 36) w (fun g1 w2=>aD w2 (fun w3=>aV (fun S4=>av S4 ((p0.add 19).add 0) (aq dt ((p0.add 19).add 0) w3 (fun(x5:bE)=>av S4 ((p0.add 19).add 8) (ae .bool ((p0.add 19).add 8) w3 (fun(x6:Bool)=>ar (ad g1) (bP x5) w3 (fun w7=>ai S4 w3 w7 (aq dt (ad g1) w7 (fun(x8:bE)=>K (.tuple #[.agg (bP x8).toArray,.bool x6]) w7))))))))))
def pl28:aB:=(.seq .auto (.seq (.held (.soft 0 (.soft 1 (.soft 2 (.soft 3 (.soft 4 (.soft 5 (.soft 6 (.soft 7 (.soft 8 (.soft 9 (.pick 10 (.soft 11 .done) .stop)))))))))))) .auto))
theorem c28 (p0:Addr)(w:World)(K:Value->World->Prop)(h:C28 p0 w K):Ret Tryz.prog 28 #[.pointer (some p0)] w K:=aC (by kernel_rfl) Tryz.func28 (p:=pl28) (Eq.mpr (by kernel_rfl) h)
def C26 (p0:Addr)(w:World)(K:Value->World->Prop):Prop:=
 ae .ptr (p0.add 17) w (fun(x1:Option Addr)=>ab Tryz.prog 69 #[.pointer x1] w (.v (.one .ptr)) (fun(x2:Option Addr) w3=>K (.pointer x2) w3))
def pl26:aB:=.auto
theorem c26 (p0:Addr)(w:World)(K:Value->World->Prop)(h:C26 p0 w K):Ret Tryz.prog 26 #[.pointer (some p0)] w K:=aC (by kernel_rfl) Tryz.func26 (p:=pl26) (Eq.mpr (by kernel_rfl) h)
def C97 (p0:Addr)(w:World)(K:Value->World->Prop):Prop:=
 ae .ptr (p0.add 17) w (fun(x1:Option Addr)=>ab Tryz.prog 27 #[.pointer x1] w (.v (.one (.int .i64))) (fun(x2:Int) w3=>K (.bool (decide (x2 >= 64))) w3))
def pl97:aB:=.auto
theorem c97 (p0:Addr)(w:World)(K:Value->World->Prop)(h:C97 p0 w K):Ret Tryz.prog 97 #[.pointer (some p0)] w K:=aC (by kernel_rfl) Tryz.func97 (p:=pl97) (Eq.mpr (by kernel_rfl) h)
def C45 (p0:Addr)(p1:bE)(w:World)(K:Value->World->Prop):Prop:=
 ak (.cells ((bP p1).toArray) 36) w (fun g1 w2=>ae .bool (p0.add 38) w2 (fun(x3:Bool)=>aa x3
 (K (.int .i64 13) w2)
 (cq (Bool×Unit) (fun J4=>ae .bool ((p0.add 19).add 8) w2 (fun(x7:Bool)=>aa x7
 (J4 (true,()) w2)
 (ae .bool ((p0.add 28).add 8) w2 (fun(x8:Bool)=>aa x8
 (ae (.int .i64) (((p0.add 28).add 0).add 0) w2 (fun(x9:Int)=>J4 ((x9 != 1),()) w2))
 (J4 (false,()) w2)))))
 (fun _ s5 w6=>aa s5.1
 (K (.int .i64 9) w6)
 (ab Tryz.prog 97 #[.pointer (some p0)] w6 (.v (.one .bool)) (fun(aR:Bool) aO=>aa aR
 (K (.int .i64 5) aO)
 (aD aO (fun aM=>ae .ptr (p0.add 18) aM (fun(bD:Option Addr)=>aq dt (ad g1) aM (fun(bd:bE)=>ae (.int .i64) (p0.add 16) aM (fun(bj:Int)=>ab Tryz.prog 98 #[.pointer bD,.agg (bP bd).toArray,.int .i64 bj] aM (.v (.one (.int .i64))) (fun(aQ:Int) b9=>aa (aQ != 0)
 (K (.int .i64 aQ) b9)
 (aq dt (ad g1) b9 (fun(br:bE)=>ar (p0.add 19) [.int .i64 br.1,.string br.2.1,.string br.2.2.1,.string br.2.2.2.1,.string br.2.2.2.2.1,.int .i64 br.2.2.2.2.2.1,.int .i64 br.2.2.2.2.2.2.1,br.2.2.2.2.2.2.2.1,.bool true] b9 (fun bx=>K (.int .i64 0) bx)))))))))))))))
def pl45:aB:=(.seq .auto (.seq (.block (.seq .auto (.cond .auto (.join [(11,.one .bool)] .auto .auto)))) (.seq (.seq (.tail 9) .auto) .auto)))
theorem c45 (p0:Addr)(p1:bE)(w:World)(K:Value->World->Prop)(h:C45 p0 p1 w K):Ret Tryz.prog 45 #[.pointer (some p0),.agg (bP p1).toArray] w K:=aC (by kernel_rfl) Tryz.func45 (p:=pl45) (Eq.mpr (by kernel_rfl) h)
def C101 (p0:Addr)(p1:Int)(w:World)(K:Value->World->Prop):Prop:=
 ak (.cells #[.int .i64 0,.int .i64 0,.int .i64 0,.int .i64 0,.int .i64 0,.int .u64 0,.bool false,.int .i64 0,.string (⟨#[]⟩:ByteArray),.string (⟨#[]⟩:ByteArray),.string (⟨#[]⟩:ByteArray),.string (⟨#[]⟩:ByteArray),.int .i64 0,.int .i64 0,.nilIface] 42) w (fun g1 w2=>aD w2 (fun w3=>aV (fun S4=>av S4 (p0.add 17) (ae .ptr (p0.add 17) w3 (fun(x5:Option Addr)=>av S4 (p0.add 17) (ae .ptr (p0.add 17) w3 (fun(x6:Option Addr)=>ab Tryz.prog 27 #[.pointer x5] w3 (.v (.one (.int .i64))) (fun(x7:Int) w8=>ai S4 w3 w8 (ab Tryz.prog 32 #[.pointer x6] w8 (.v (.one (.int .u64))) (fun(x9:Int) aG=>ai S4 w8 aG (ar (ad g1) [.int .i64 0,.int .i64 0,.int .i64 0,.int .i64 p1,.int .i64 x7,.int .u64 x9,.bool false,.int .i64 0,.string (⟨#[]⟩:ByteArray),.string (⟨#[]⟩:ByteArray),.string (⟨#[]⟩:ByteArray),.string (⟨#[]⟩:ByteArray),.int .i64 0,.int .i64 0,.nilIface] aG (fun aO=>ai S4 aG aO (aq fK (ad g1) aO (fun(bt:di)=>K (.agg (dv bt).toArray) aO))))))))))))))
def pl101:aB:=(.seq .auto (.seq (.held (.soft 0 (.soft 1 (.soft 2 (.soft 3 (.soft 4 (.soft 6 (.soft 7 (.soft 8 (.soft 9 (.pick 5 (.pick 10 (.soft 11 (.pick 12 .done .stop)) .stop) .stop))))))))))) .auto))
theorem c101 (p0:Addr)(p1:Int)(w:World)(K:Value->World->Prop)(h:C101 p0 p1 w K):Ret Tryz.prog 101 #[.pointer (some p0),.int .i64 p1] w K:=aC (by kernel_rfl) Tryz.func101 (p:=pl101) (Eq.mpr (by kernel_rfl) h)
def C102 (p0:Addr)(p1:bE)(w:World)(K:Value->World->Prop):Prop:=
 ak (.cells ((bP p1).toArray) 36) w (fun g1 w2=>ab Tryz.prog 101 #[.pointer (some p0),.int .i64 1] w2 (.v (.agg fK)) (fun(x3:di) w4=>ak (.cells #[.int .i64 0,.int .i64 0,.int .i64 0,.int .i64 0,.int .i64 0,.int .u64 0,.bool false,.int .i64 0,.string (⟨#[]⟩:ByteArray),.string (⟨#[]⟩:ByteArray),.string (⟨#[]⟩:ByteArray),.string (⟨#[]⟩:ByteArray),.int .i64 0,.int .i64 0,.nilIface] 42) w4 (fun g5 w6=>ar (ad g5) (dv x3) w6 (fun w7=>aq dt (ad g1) w7 (fun(x8:bE)=>ar ((ad g5).add 7) (bP x8) w7 (fun w9=>aq fK (ad g5) w9 (fun(aR:di)=>az Tryz.prog (Instr.buildSlice 111 1 #[(0,.agg (dv aR).toArray)]) w9 (.v (.one .aj)) (fun(ba:an) aM=>K (.slice ba.1 ba.2.1 ba.2.2) aM))))))))
def pl102:aB:=.auto
theorem c102 (p0:Addr)(p1:bE)(w:World)(K:Value->World->Prop)(h:C102 p0 p1 w K):Ret Tryz.prog 102 #[.pointer (some p0),.agg (bP p1).toArray] w K:=aC (by kernel_rfl) Tryz.func102 (p:=pl102) (Eq.mpr (by kernel_rfl) h)
def C103 (p0:Addr)(p1:bE)(w:World)(K:Value->World->Prop):Prop:=
 ak (.cells ((bP p1).toArray) 36) w (fun g1 w2=>ak (.cells #[.bool false,.bool false,.int .i64 0,.string (⟨#[]⟩:ByteArray),.string (⟨#[]⟩:ByteArray),.string (⟨#[]⟩:ByteArray),.string (⟨#[]⟩:ByteArray),.int .i64 0,.int .i64 0,.nilIface,.bool false,.int .i64 0,.string (⟨#[]⟩:ByteArray),.string (⟨#[]⟩:ByteArray),.string (⟨#[]⟩:ByteArray),.string (⟨#[]⟩:ByteArray),.int .i64 0,.int .i64 0,.nilIface,.bool false,.bool false,.bool false,.bool false,.slice none 0 0] 113) w2 (fun g3 w4=>aD w4 (fun w5=>ae .ptr (p0.add 18) w5 (fun(x6:Option Addr)=>aq dt (ad g1) w5 (fun(x7:bE)=>ae (.int .i64) (p0.add 16) w5 (fun(x8:Int)=>ab Tryz.prog 98 #[.pointer x6,.agg (bP x7).toArray,.int .i64 x8] w5 (.v (.one (.int .i64))) (fun(x9:Int) aG=>aa (x9 != 0)
 (ar (ad g3) [.bool false,.bool false,.int .i64 0,.string (⟨#[]⟩:ByteArray),.string (⟨#[]⟩:ByteArray),.string (⟨#[]⟩:ByteArray),.string (⟨#[]⟩:ByteArray),.int .i64 0,.int .i64 0,.nilIface,.bool false,.int .i64 0,.string (⟨#[]⟩:ByteArray),.string (⟨#[]⟩:ByteArray),.string (⟨#[]⟩:ByteArray),.string (⟨#[]⟩:ByteArray),.int .i64 0,.int .i64 0,.nilIface,.bool true,.bool false,.bool false,.bool false,.slice none 0 0] aG (fun aO=>aq cP (ad g3) aO (fun(bt:cy)=>K (.agg (cD bt).toArray) aO)))
 (aD aG (fun aW=>aV (fun tX=>av tX (ad g1) (aq dt (ad g1) aW (fun(bj:bE)=>av tX (ad g1) (aq dt (ad g1) aW (fun(aQ:bE)=>ab Tryz.prog 102 #[.pointer (some p0),.agg (bP aQ).toArray] aW (.v (.one .aj)) (fun(aX:an) bz=>ai tX aW bz (ar (ad g3) [.bool false,.bool true,.int .i64 0,.string (⟨#[]⟩:ByteArray),.string (⟨#[]⟩:ByteArray),.string (⟨#[]⟩:ByteArray),.string (⟨#[]⟩:ByteArray),.int .i64 0,.int .i64 0,.nilIface,.bool false,.int .i64 bj.1,.string bj.2.1,.string bj.2.2.1,.string bj.2.2.2.1,.string bj.2.2.2.2.1,.int .i64 bj.2.2.2.2.2.1,.int .i64 bj.2.2.2.2.2.2.1,bj.2.2.2.2.2.2.2.1,.bool false,.bool false,.bool false,.bool false,.slice aX.1 aX.2.1 aX.2.2] bz (fun bx=>ai tX bz bx (aq cP (ad g3) bx (fun(cw:cy)=>K (.agg (cD cw).toArray) bx)))))))))))))))))))
def pl103:aB:=(.seq .auto (.seq (.seq (.tail 9) .auto) (.seq (.held (.soft 0 (.soft 1 (.soft 2 (.pick 3 (.soft 4 (.pick 5 .done .stop)) .stop))))) .auto)))
theorem c103 (p0:Addr)(p1:bE)(w:World)(K:Value->World->Prop)(h:C103 p0 p1 w K):Ret Tryz.prog 103 #[.pointer (some p0),.agg (bP p1).toArray] w K:=aC (by kernel_rfl) Tryz.func103 (p:=pl103) (Eq.mpr (by kernel_rfl) h)
def C47 (p0:Addr)(w:World)(K:Value->World->Prop):Prop:=
 ak (.cells #[.bool false,.bool false,.int .i64 0,.string (⟨#[]⟩:ByteArray),.string (⟨#[]⟩:ByteArray),.string (⟨#[]⟩:ByteArray),.string (⟨#[]⟩:ByteArray),.int .i64 0,.int .i64 0,.nilIface,.bool false,.int .i64 0,.string (⟨#[]⟩:ByteArray),.string (⟨#[]⟩:ByteArray),.string (⟨#[]⟩:ByteArray),.string (⟨#[]⟩:ByteArray),.int .i64 0,.int .i64 0,.nilIface,.bool false,.bool false,.bool false,.bool false,.slice none 0 0] 113) w (fun g1 w2=>aD w2 (fun w3=>aV (fun S4=>av S4 (p0.add 17) (ae .ptr (p0.add 17) w3 (fun(x5:Option Addr)=>av S4 (p0.add 16) (ae (.int .i64) (p0.add 16) w3 (fun(x6:Int)=>ab Tryz.prog 27 #[.pointer x5] w3 (.v (.one (.int .i64))) (fun(x7:Int) w8=>ai S4 w3 w8 (ab Tryz.prog 100 #[.int .i64 x7] w8 (.v (.one (.int .i64))) (fun(x9:Int) aG=>ai S4 w8 aG (ae .bool (p0.add 38) aG (fun(ba:Bool)=>aa ba
 (ab Tryz.prog 101 #[.pointer (some p0),.int .i64 4] aG (.v (.agg fK)) (fun(bt:di) aW=>ak (.cells #[.int .i64 0,.int .i64 0,.int .i64 0,.int .i64 0,.int .i64 0,.int .u64 0,.bool false,.int .i64 0,.string (⟨#[]⟩:ByteArray),.string (⟨#[]⟩:ByteArray),.string (⟨#[]⟩:ByteArray),.string (⟨#[]⟩:ByteArray),.int .i64 0,.int .i64 0,.nilIface] 42) aW (fun g14 bL=>ar (ad g14) (dv bt) bL (fun bn=>aA ((ad g14).add 6) (.bool true) bn (fun b9=>aq fK (ad g14) b9 (fun(br:di)=>az Tryz.prog (Instr.buildSlice 111 1 #[(0,.agg (dv br).toArray)]) b9 (.v (.one .aj)) (fun(bu:an) bo=>ar (ad g1) [.bool false,.bool false,.int .i64 0,.string (⟨#[]⟩:ByteArray),.string (⟨#[]⟩:ByteArray),.string (⟨#[]⟩:ByteArray),.string (⟨#[]⟩:ByteArray),.int .i64 0,.int .i64 0,.nilIface,.bool false,.int .i64 0,.string (⟨#[]⟩:ByteArray),.string (⟨#[]⟩:ByteArray),.string (⟨#[]⟩:ByteArray),.string (⟨#[]⟩:ByteArray),.int .i64 0,.int .i64 0,.nilIface,.bool false,.bool false,.bool false,.bool false,.slice bu.1 bu.2.1 bu.2.2] bo (fun bB=>aq cP (ad g1) bB (fun(bR:cy)=>K (.agg (cD bR).toArray) bB)))))))))
 (ab Tryz.prog 97 #[.pointer (some p0)] aG (.v (.one .bool)) (fun(cr:Bool) cm=>aa cr
 (ar (ad g1) [.bool false,.bool false,.int .i64 0,.string (⟨#[]⟩:ByteArray),.string (⟨#[]⟩:ByteArray),.string (⟨#[]⟩:ByteArray),.string (⟨#[]⟩:ByteArray),.int .i64 0,.int .i64 0,.nilIface,.bool false,.int .i64 0,.string (⟨#[]⟩:ByteArray),.string (⟨#[]⟩:ByteArray),.string (⟨#[]⟩:ByteArray),.string (⟨#[]⟩:ByteArray),.int .i64 0,.int .i64 0,.nilIface,.bool false,.bool false,.bool false,.bool false,.slice none 0 0] cm (fun dk=>aq cP (ad g1) dk (fun(cZ:cy)=>K (.agg (cD cZ).toArray) dk)))
 (ae .bool ((p0.add 28).add 8) cm (fun(cz:Bool)=>aa cz
 (aq dt ((p0.add 28).add 0) cm (fun(eN:bE)=>ab Tryz.prog 102 #[.pointer (some p0),.agg (bP eN).toArray] cm (.v (.one .aj)) (fun(cx:an) bO=>ar (ad g1) [.bool false,.bool false,.int .i64 0,.string (⟨#[]⟩:ByteArray),.string (⟨#[]⟩:ByteArray),.string (⟨#[]⟩:ByteArray),.string (⟨#[]⟩:ByteArray),.int .i64 0,.int .i64 0,.nilIface,.bool false,.int .i64 0,.string (⟨#[]⟩:ByteArray),.string (⟨#[]⟩:ByteArray),.string (⟨#[]⟩:ByteArray),.string (⟨#[]⟩:ByteArray),.int .i64 0,.int .i64 0,.nilIface,.bool false,.bool false,.bool false,.bool false,.slice cx.1 cx.2.1 cx.2.2] bO (fun fh=>aq cP (ad g1) fh (fun(dK:cy)=>K (.agg (cD dK).toArray) fh)))))
 (cq (Bool×Unit) (fun tW=>aa (x9==x6)
 (ae .bool ((p0.add 19).add 8) cm (fun(eF:Bool)=>tW (eF,()) cm))
 (tW (false,()) cm))
 (fun _ CP dX=>aa CP.1
 (aq dt ((p0.add 19).add 0) dX (fun(gn:bE)=>ab Tryz.prog 103 #[.pointer (some p0),.agg (bP gn).toArray] dX (.v (.agg cP)) (fun(dF:cy) eh=>ar (ad g1) (cD dF) eh (fun dD=>aq cP (ad g1) dD (fun(ek:cy)=>K (.agg (cD ek).toArray) dD)))))
 (cq (Bool×Unit) (fun rr=>aa (x9==x6)
 (ae .bool (p0.add 37) dX (fun(gQ:Bool)=>rr (gQ,()) dX))
 (rr (false,()) dX))
 (fun _ sN fw=>aa sN.1
 (ab Tryz.prog 103 #[.pointer (some p0),.agg #[.int .i64 1,.string (⟨#[]⟩:ByteArray),.string (⟨#[]⟩:ByteArray),.string (⟨#[]⟩:ByteArray),.string (⟨#[]⟩:ByteArray),.int .i64 0,.int .i64 0,.nilIface]] fw (.v (.agg cP)) (fun(jW:cy) gd=>ar (ad g1) (cD jW) gd (fun gB=>aq cP (ad g1) gB (fun(fu:cy)=>K (.agg (cD fu).toArray) gB))))
 (aa (!(x9==x6))
 (ae .bool ((p0.add 19).add 8) fw (fun(gW:Bool)=>aa gW
 (ab Tryz.prog 101 #[.pointer (some p0),.int .i64 3] fw (.v (.agg fK)) (fun(js:di) gC=>az Tryz.prog (Instr.buildSlice 111 1 #[(0,.agg (dv js).toArray)]) gC (.v (.one .aj)) (fun(gq:an) iu=>ar (ad g1) [.bool false,.bool false,.int .i64 0,.string (⟨#[]⟩:ByteArray),.string (⟨#[]⟩:ByteArray),.string (⟨#[]⟩:ByteArray),.string (⟨#[]⟩:ByteArray),.int .i64 0,.int .i64 0,.nilIface,.bool false,.int .i64 0,.string (⟨#[]⟩:ByteArray),.string (⟨#[]⟩:ByteArray),.string (⟨#[]⟩:ByteArray),.string (⟨#[]⟩:ByteArray),.int .i64 0,.int .i64 0,.nilIface,.bool false,.bool false,.bool false,.bool false,.slice gq.1 gq.2.1 gq.2.2] iu (fun gr=>aq cP (ad g1) gr (fun(kO:cy)=>K (.agg (cD kO).toArray) gr)))))
 (ar (ad g1) [.bool false,.bool false,.int .i64 0,.string (⟨#[]⟩:ByteArray),.string (⟨#[]⟩:ByteArray),.string (⟨#[]⟩:ByteArray),.string (⟨#[]⟩:ByteArray),.int .i64 0,.int .i64 0,.nilIface,.bool false,.int .i64 0,.string (⟨#[]⟩:ByteArray),.string (⟨#[]⟩:ByteArray),.string (⟨#[]⟩:ByteArray),.string (⟨#[]⟩:ByteArray),.int .i64 0,.int .i64 0,.nilIface,.bool false,.bool false,.bool false,.bool false,.slice none 0 0] fw (fun mv=>aq cP (ad g1) mv (fun(nX:cy)=>K (.agg (cD nX).toArray) mv)))))
 (ar (ad g1) [.bool false,.bool false,.int .i64 0,.string (⟨#[]⟩:ByteArray),.string (⟨#[]⟩:ByteArray),.string (⟨#[]⟩:ByteArray),.string (⟨#[]⟩:ByteArray),.int .i64 0,.int .i64 0,.nilIface,.bool false,.int .i64 0,.string (⟨#[]⟩:ByteArray),.string (⟨#[]⟩:ByteArray),.string (⟨#[]⟩:ByteArray),.string (⟨#[]⟩:ByteArray),.int .i64 0,.int .i64 0,.nilIface,.bool false,.bool false,.bool false,.bool false,.slice none 0 0] fw (fun lL=>aq cP (ad g1) lL (fun(nT:cy)=>K (.agg (cD nT).toArray) lL))))))))))))))))))))))))
def pl47:aB:=(.seq .auto (.seq (.held (.soft 0 (.soft 1 (.soft 2 (.soft 3 (.soft 6 (.soft 7 (.soft 8 (.soft 9 (.pick 4 (.pick 5 (.soft 10 (.soft 11 .done)) .stop) .stop)))))))))) (.seq (.block (.seq .auto (.cond .auto (.seq .auto (.cond .auto (.seq .auto (.cond .auto (.join [(45,.one .bool)] .auto (.cond .auto (.join [(61,.one .bool)] .auto .auto)))))))))) .auto)))
theorem c47 (p0:Addr)(w:World)(K:Value->World->Prop)(h:C47 p0 w K):Ret Tryz.prog 47 #[.pointer (some p0)] w K:=aC (by kernel_rfl) Tryz.func47 (p:=pl47) (Eq.mpr (by kernel_rfl) h)
def C157 (p0:Addr)(p1:Int)(p2:Int)(w:World)(K:Value->World->Prop):Prop:=
 ae .ptr (p0.add 17) w (fun(x1:Option Addr)=>ab Tryz.prog 31 #[.pointer x1,.int .i64 p1] w (.aN [.one (.int .u64),.one .bool]) (fun(x2:Int×Bool×Unit) w3=>aa x2.2.1
 (aa (x2.1 != p2)
 (K (.bool true) w3)
 (ae .ptr (p0.add 17) w3 (fun(x4:Option Addr)=>ab Tryz.prog 27 #[.pointer x4] w3 (.v (.one (.int .i64))) (fun(x5:Int) w6=>K (.bool (decide (p1 > (IntKind.i64.wrap (x5+1))))) w6))))
 (ae .ptr (p0.add 17) w3 (fun(x7:Option Addr)=>ab Tryz.prog 27 #[.pointer x7] w3 (.v (.one (.int .i64))) (fun(x8:Int) w9=>K (.bool (decide (p1 > (IntKind.i64.wrap (x8+1))))) w9)))))
def pl157:aB:=.auto
theorem c157 (p0:Addr)(p1:Int)(p2:Int)(w:World)(K:Value->World->Prop)(h:C157 p0 p1 p2 w K):Ret Tryz.prog 157 #[.pointer (some p0),.int .i64 p1,.int .u64 p2] w K:=aC (by kernel_rfl) Tryz.func157 (p:=pl157) (Eq.mpr (by kernel_rfl) h)
def C112 (p0:Addr)(p1:di)(w:World)(K:Value->World->Prop):Prop:=
 ak (.cells ((dv p1).toArray) 42) w (fun g1 w2=>ak (.cells #[.bool false,.bool false,.int .i64 0,.string (⟨#[]⟩:ByteArray),.string (⟨#[]⟩:ByteArray),.string (⟨#[]⟩:ByteArray),.string (⟨#[]⟩:ByteArray),.int .i64 0,.int .i64 0,.nilIface,.bool false,.int .i64 0,.string (⟨#[]⟩:ByteArray),.string (⟨#[]⟩:ByteArray),.string (⟨#[]⟩:ByteArray),.string (⟨#[]⟩:ByteArray),.int .i64 0,.int .i64 0,.nilIface,.bool false,.bool false,.bool false,.bool false,.slice none 0 0] 113) w2 (fun g3 w4=>ak (.cells #[.bool false,.bool false,.int .i64 0,.string (⟨#[]⟩:ByteArray),.string (⟨#[]⟩:ByteArray),.string (⟨#[]⟩:ByteArray),.string (⟨#[]⟩:ByteArray),.int .i64 0,.int .i64 0,.nilIface,.bool false,.int .i64 0,.string (⟨#[]⟩:ByteArray),.string (⟨#[]⟩:ByteArray),.string (⟨#[]⟩:ByteArray),.string (⟨#[]⟩:ByteArray),.int .i64 0,.int .i64 0,.nilIface,.bool false,.bool false,.bool false,.bool false,.slice none 0 0] 113) w4 (fun g5 w6=>ar (ad g5) [.bool false,.bool false,.int .i64 0,.string (⟨#[]⟩:ByteArray),.string (⟨#[]⟩:ByteArray),.string (⟨#[]⟩:ByteArray),.string (⟨#[]⟩:ByteArray),.int .i64 0,.int .i64 0,.nilIface,.bool false,.int .i64 0,.string (⟨#[]⟩:ByteArray),.string (⟨#[]⟩:ByteArray),.string (⟨#[]⟩:ByteArray),.string (⟨#[]⟩:ByteArray),.int .i64 0,.int .i64 0,.nilIface,.bool false,.bool false,.bool false,.bool false,.slice none 0 0] w6 (fun w7=>ae (.int .i64) ((ad g1).add 4) w7 (fun(x8:Int)=>ae (.int .u64) ((ad g1).add 5) w7 (fun(x9:Int)=>ab Tryz.prog 157 #[.pointer (some p0),.int .i64 x8,.int .u64 x9] w7 (.v (.one .bool)) (fun(aR:Bool) aO=>aa aR
 (aA ((ad g5).add 21) (.bool true) aO (fun aM=>ae .bool ((ad g1).add 6) aM (fun(bD:Bool)=>aa bD
 (ab Tryz.prog 101 #[.pointer (some p0),.int .i64 4] aM (.v (.agg fK)) (fun(bd:di) bL=>az Tryz.prog (Instr.buildSlice 111 1 #[(0,.agg (dv bd).toArray)]) bL (.v (.one .aj)) (fun(aQ:an) b9=>aA ((ad g5).add 23) (.slice aQ.1 aQ.2.1 aQ.2.2) b9 (fun bz=>aq cP (ad g5) bz (fun(bu:cy)=>ar (ad g3) (cD bu) bz (fun bo=>aq cP (ad g3) bo (fun(bT:cy)=>K (.agg (cD bT).toArray) bo)))))))
 (aq cP (ad g5) aM (fun(bR:cy)=>ar (ad g3) (cD bR) aM (fun cV=>aq cP (ad g3) cV (fun(cj:cy)=>K (.agg (cD cj).toArray) cV)))))))
 (aD aO (fun dk=>aV (fun IS=>av IS ((ad g1).add 4) (ae (.int .i64) ((ad g1).add 4) dk (fun(cz:Int)=>av IS (p0.add 17) (ae .ptr (p0.add 17) dk (fun(eN:Option Addr)=>ab Tryz.prog 27 #[.pointer eN] dk (.v (.one (.int .i64))) (fun(cx:Int) bO=>ai IS dk bO (aa (cz==cx)
 (ae .bool (p0.add 38) bO (fun(bZ:Bool)=>aA ((ad g5).add 22) (.bool bZ) bO (fun cL=>ae .bool ((ad g1).add 6) cL (fun(dp:Bool)=>aa dp
 (ab Tryz.prog 101 #[.pointer (some p0),.int .i64 4] cL (.v (.agg fK)) (fun(dj:di) dX=>az Tryz.prog (Instr.buildSlice 111 1 #[(0,.agg (dv dj).toArray)]) dX (.v (.one .aj)) (fun(eF:an) dG=>aA ((ad g5).add 23) (.slice eF.1 eF.2.1 eF.2.2) dG (fun gu=>aq cP (ad g5) gu (fun(eP:cy)=>ar (ad g3) (cD eP) gu (fun dD=>aq cP (ad g3) dD (fun(ek:cy)=>K (.agg (cD ek).toArray) dD)))))))
 (aq cP (ad g5) cL (fun(iQ:cy)=>ar (ad g3) (cD iQ) cL (fun kq=>aq cP (ad g3) kq (fun(jq:cy)=>K (.agg (cD jq).toArray) kq))))))))
 (ae .bool ((ad g1).add 6) bO (fun(gQ:Bool)=>aa gQ
 (ab Tryz.prog 101 #[.pointer (some p0),.int .i64 4] bO (.v (.agg fK)) (fun(jW:di) gd=>az Tryz.prog (Instr.buildSlice 111 1 #[(0,.agg (dv jW).toArray)]) gd (.v (.one .aj)) (fun(gY:an) tn=>aA ((ad g5).add 23) (.slice gY.1 gY.2.1 gY.2.2) tn (fun mA=>aq cP (ad g5) mA (fun(js:cy)=>ar (ad g3) (cD js) mA (fun gC=>aq cP (ad g3) gC (fun(gq:cy)=>K (.agg (cD gq).toArray) gC)))))))
 (aq cP (ad g5) bO (fun(kg:cy)=>ar (ad g3) (cD kg) bO (fun gr=>aq cP (ad g3) gr (fun(kO:cy)=>K (.agg (cD kO).toArray) gr))))))))))))))))))))))
def pl112:aB:=(.seq .auto (.seq .auto (.seq (.block (.seq .auto (.cond .auto (.seq (.held (.soft 0 (.soft 1 (.soft 2 (.soft 3 (.soft 4 (.soft 5 (.pick 6 (.soft 7 (.soft 8 .done)) .stop)))))))) .auto)))) .auto)))
theorem c112 (p0:Addr)(p1:di)(w:World)(K:Value->World->Prop)(h:C112 p0 p1 w K):Ret Tryz.prog 112 #[.pointer (some p0),.agg (dv p1).toArray] w K:=aC (by kernel_rfl) Tryz.func112 (p:=pl112) (Eq.mpr (by kernel_rfl) h)
def C113 (p0:Addr)(p1:di)(w:World)(K:Value->World->Prop):Prop:=
 ak (.cells ((dv p1).toArray) 42) w (fun g1 w2=>ak (.cells #[.bool false,.bool false,.int .i64 0,.string (⟨#[]⟩:ByteArray),.string (⟨#[]⟩:ByteArray),.string (⟨#[]⟩:ByteArray),.string (⟨#[]⟩:ByteArray),.int .i64 0,.int .i64 0,.nilIface,.bool false,.int .i64 0,.string (⟨#[]⟩:ByteArray),.string (⟨#[]⟩:ByteArray),.string (⟨#[]⟩:ByteArray),.string (⟨#[]⟩:ByteArray),.int .i64 0,.int .i64 0,.nilIface,.bool false,.bool false,.bool false,.bool false,.slice none 0 0] 113) w2 (fun g3 w4=>ae (.int .i64) ((ad g1).add 4) w4 (fun(x5:Int)=>ae (.int .u64) ((ad g1).add 5) w4 (fun(x6:Int)=>ab Tryz.prog 157 #[.pointer (some p0),.int .i64 x5,.int .u64 x6] w4 (.v (.one .bool)) (fun(x7:Bool) w8=>aa x7
 (ar (ad g3) [.bool false,.bool false,.int .i64 0,.string (⟨#[]⟩:ByteArray),.string (⟨#[]⟩:ByteArray),.string (⟨#[]⟩:ByteArray),.string (⟨#[]⟩:ByteArray),.int .i64 0,.int .i64 0,.nilIface,.bool false,.int .i64 0,.string (⟨#[]⟩:ByteArray),.string (⟨#[]⟩:ByteArray),.string (⟨#[]⟩:ByteArray),.string (⟨#[]⟩:ByteArray),.int .i64 0,.int .i64 0,.nilIface,.bool false,.bool false,.bool true,.bool false,.slice none 0 0] w8 (fun w9=>aq cP (ad g3) w9 (fun(aR:cy)=>K (.agg (cD aR).toArray) w9)))
 (aD w8 (fun aO=>aV (fun nI=>av nI ((ad g1).add 4) (ae (.int .i64) ((ad g1).add 4) aO (fun(bD:Int)=>av nI (p0.add 17) (ae .ptr (p0.add 17) aO (fun(bd:Option Addr)=>ab Tryz.prog 27 #[.pointer bd] aO (.v (.one (.int .i64))) (fun(bj:Int) bn=>ai nI aO bn (aa (bD==bj)
 (av nI ((ad g1).add 4) (ae (.int .i64) ((ad g1).add 4) bn (fun(aX:Int)=>av nI (p0.add 16) (ae (.int .i64) (p0.add 16) bn (fun(br:Int)=>ab Tryz.prog 100 #[.int .i64 aX] bn (.v (.one (.int .i64))) (fun(bu:Int) bo=>ai nI bn bo (ar (ad g3) [.bool false,.bool false,.int .i64 0,.string (⟨#[]⟩:ByteArray),.string (⟨#[]⟩:ByteArray),.string (⟨#[]⟩:ByteArray),.string (⟨#[]⟩:ByteArray),.int .i64 0,.int .i64 0,.nilIface,.bool false,.int .i64 0,.string (⟨#[]⟩:ByteArray),.string (⟨#[]⟩:ByteArray),.string (⟨#[]⟩:ByteArray),.string (⟨#[]⟩:ByteArray),.int .i64 0,.int .i64 0,.nilIface,.bool false,.bool (bu==br),.bool false,.bool false,.slice none 0 0] bo (fun bB=>ai nI bo bB (aq cP (ad g3) bB (fun(bR:cy)=>K (.agg (cD bR).toArray) bB))))))))))
 (ar (ad g3) [.bool false,.bool false,.int .i64 0,.string (⟨#[]⟩:ByteArray),.string (⟨#[]⟩:ByteArray),.string (⟨#[]⟩:ByteArray),.string (⟨#[]⟩:ByteArray),.int .i64 0,.int .i64 0,.nilIface,.bool false,.int .i64 0,.string (⟨#[]⟩:ByteArray),.string (⟨#[]⟩:ByteArray),.string (⟨#[]⟩:ByteArray),.string (⟨#[]⟩:ByteArray),.int .i64 0,.int .i64 0,.nilIface,.bool false,.bool false,.bool false,.bool false,.slice none 0 0] bn (fun cV=>ai nI bn cV (aq cP (ad g3) cV (fun(cj:cy)=>K (.agg (cD cj).toArray) cV))))))))))))))))))
def pl113:aB:=(.seq .auto (.seq .auto (.seq (.held (.soft 0 (.soft 1 (.soft 2 (.soft 3 (.soft 4 (.soft 5 (.pick 6 (.soft 7 (.soft 8 (.soft 9 (.soft 10 (.soft 12 (.soft 13 (.soft 14 (.soft 15 (.pick 11 (.soft 16 (.soft 17 (.soft 18 (.pick 19 .done .stop)))) .stop))))))))) .stop)))))))) .auto)))
theorem c113 (p0:Addr)(p1:di)(w:World)(K:Value->World->Prop)(h:C113 p0 p1 w K):Ret Tryz.prog 113 #[.pointer (some p0),.agg (dv p1).toArray] w K:=aC (by kernel_rfl) Tryz.func113 (p:=pl113) (Eq.mpr (by kernel_rfl) h)
def C158 (p0:Addr)(p1:Int)(w:World)(K:Value->World->Prop):Prop:=
 ae .ptr (p0.add 17) w (fun(x1:Option Addr)=>ab Tryz.prog 31 #[.pointer x1,.int .i64 (IntKind.i64.wrap (p1+1))] w (.aN [.one (.int .u64),.one .bool]) (fun(x2:Int×Bool×Unit) w3=>ae .ptr (p0.add 17) w3 (fun(x4:Option Addr)=>ab Tryz.prog 200 #[.pointer x4] w3 (.v (.one .aj)) (fun(x5:an) w6=>bK x5.1 x5.2.1 p1 9 (fun a7=>ae .bool (a7.add 8) w6 (fun(x8:Bool)=>az Tryz.prog (Instr.buildSlice 111 1 #[(0,.agg #[.int .i64 0,.int .i64 0,.int .i64 0,.int .i64 2,.int .i64 p1,.int .u64 x2.1,.bool x8,.int .i64 0,.string (⟨#[]⟩:ByteArray),.string (⟨#[]⟩:ByteArray),.string (⟨#[]⟩:ByteArray),.string (⟨#[]⟩:ByteArray),.int .i64 0,.int .i64 0,.nilIface])]) w6 (.v (.one .aj)) (fun(x9:an) aG=>K (.slice x9.1 x9.2.1 x9.2.2) aG)))))))
def pl158:aB:=.auto
theorem c158 (p0:Addr)(p1:Int)(w:World)(K:Value->World->Prop)(h:C158 p0 p1 w K):Ret Tryz.prog 158 #[.pointer (some p0),.int .i64 p1] w K:=aC (by kernel_rfl) Tryz.func158 (p:=pl158) (Eq.mpr (by kernel_rfl) h)
def C114 (p0:Addr)(p1:di)(w:World)(K:Value->World->Prop):Prop:=
 ak (.cells ((dv p1).toArray) 42) w (fun g1 w2=>ak (.cells #[.bool false,.bool false,.int .i64 0,.string (⟨#[]⟩:ByteArray),.string (⟨#[]⟩:ByteArray),.string (⟨#[]⟩:ByteArray),.string (⟨#[]⟩:ByteArray),.int .i64 0,.int .i64 0,.nilIface,.bool false,.int .i64 0,.string (⟨#[]⟩:ByteArray),.string (⟨#[]⟩:ByteArray),.string (⟨#[]⟩:ByteArray),.string (⟨#[]⟩:ByteArray),.int .i64 0,.int .i64 0,.nilIface,.bool false,.bool false,.bool false,.bool false,.slice none 0 0] 113) w2 (fun g3 w4=>aD w4 (fun w5=>aV (fun S6=>av S6 ((ad g1).add 4) (ae (.int .i64) ((ad g1).add 4) w5 (fun(x7:Int)=>av S6 (p0.add 16) (ae (.int .i64) (p0.add 16) w5 (fun(x8:Int)=>ab Tryz.prog 100 #[.int .i64 x7] w5 (.v (.one (.int .i64))) (fun(x9:Int) aG=>ai S6 w5 aG (aa (x9==x8)
 (ar (ad g3) [.bool false,.bool false,.int .i64 0,.string (⟨#[]⟩:ByteArray),.string (⟨#[]⟩:ByteArray),.string (⟨#[]⟩:ByteArray),.string (⟨#[]⟩:ByteArray),.int .i64 0,.int .i64 0,.nilIface,.bool false,.int .i64 0,.string (⟨#[]⟩:ByteArray),.string (⟨#[]⟩:ByteArray),.string (⟨#[]⟩:ByteArray),.string (⟨#[]⟩:ByteArray),.int .i64 0,.int .i64 0,.nilIface,.bool false,.bool false,.bool true,.bool false,.slice none 0 0] aG (fun aO=>aq cP (ad g3) aO (fun(bt:cy)=>K (.agg (cD bt).toArray) aO)))
 (av S6 ((ad g1).add 4) (ae (.int .i64) ((ad g1).add 4) aG (fun(bD:Int)=>av S6 ((ad g1).add 5) (ae (.int .u64) ((ad g1).add 5) aG (fun(bd:Int)=>ab Tryz.prog 157 #[.pointer (some p0),.int .i64 bD,.int .u64 bd] aG (.v (.one .bool)) (fun(bj:Bool) bn=>ai S6 aG bn (aa bj
 (ar (ad g3) [.bool false,.bool false,.int .i64 0,.string (⟨#[]⟩:ByteArray),.string (⟨#[]⟩:ByteArray),.string (⟨#[]⟩:ByteArray),.string (⟨#[]⟩:ByteArray),.int .i64 0,.int .i64 0,.nilIface,.bool false,.int .i64 0,.string (⟨#[]⟩:ByteArray),.string (⟨#[]⟩:ByteArray),.string (⟨#[]⟩:ByteArray),.string (⟨#[]⟩:ByteArray),.int .i64 0,.int .i64 0,.nilIface,.bool false,.bool false,.bool true,.bool false,.slice none 0 0] bn (fun b9=>aq cP (ad g3) b9 (fun(br:cy)=>K (.agg (cD br).toArray) b9)))
 (aD bn (fun bx=>aV (fun IT=>av IT ((ad g1).add 4) (ae (.int .i64) ((ad g1).add 4) bx (fun(bT:Int)=>av IT (p0.add 17) (ae .ptr (p0.add 17) bx (fun(bR:Option Addr)=>ab Tryz.prog 27 #[.pointer bR] bx (.v (.one (.int .i64))) (fun(cr:Int) cm=>ai IT bx cm (aa (decide (bT<cr))
 (ae (.int .i64) ((ad g1).add 4) cm (fun(bC:Int)=>ab Tryz.prog 158 #[.pointer (some p0),.int .i64 bC] cm (.v (.one .aj)) (fun(cZ:an) eJ=>ar (ad g3) [.bool false,.bool false,.int .i64 0,.string (⟨#[]⟩:ByteArray),.string (⟨#[]⟩:ByteArray),.string (⟨#[]⟩:ByteArray),.string (⟨#[]⟩:ByteArray),.int .i64 0,.int .i64 0,.nilIface,.bool false,.int .i64 0,.string (⟨#[]⟩:ByteArray),.string (⟨#[]⟩:ByteArray),.string (⟨#[]⟩:ByteArray),.string (⟨#[]⟩:ByteArray),.int .i64 0,.int .i64 0,.nilIface,.bool false,.bool false,.bool false,.bool false,.slice cZ.1 cZ.2.1 cZ.2.2] eJ (fun bS=>aq cP (ad g3) bS (fun(cx:cy)=>K (.agg (cD cx).toArray) bS)))))
 (aD cm (fun bO=>aV (fun Dn=>av Dn ((ad g1).add 4) (ae (.int .i64) ((ad g1).add 4) bO (fun(dK:Int)=>av Dn (p0.add 17) (ae .ptr (p0.add 17) bO (fun(dp:Option Addr)=>ab Tryz.prog 27 #[.pointer dp] bO (.v (.one (.int .i64))) (fun(dj:Int) dX=>ai Dn bO dX (aa (decide (dK > dj))
 (ar (ad g3) [.bool false,.bool false,.int .i64 0,.string (⟨#[]⟩:ByteArray),.string (⟨#[]⟩:ByteArray),.string (⟨#[]⟩:ByteArray),.string (⟨#[]⟩:ByteArray),.int .i64 0,.int .i64 0,.nilIface,.bool false,.int .i64 0,.string (⟨#[]⟩:ByteArray),.string (⟨#[]⟩:ByteArray),.string (⟨#[]⟩:ByteArray),.string (⟨#[]⟩:ByteArray),.int .i64 0,.int .i64 0,.nilIface,.bool false,.bool false,.bool false,.bool false,.slice none 0 0] dX (fun cQ=>aq cP (ad g3) cQ (fun(gn:cy)=>K (.agg (cD gn).toArray) cQ)))
 (ab Tryz.prog 97 #[.pointer (some p0)] dX (.v (.one .bool)) (fun(dF:Bool) eh=>ai Dn dX eh (aa dF
 (ar (ad g3) [.bool false,.bool false,.int .i64 0,.string (⟨#[]⟩:ByteArray),.string (⟨#[]⟩:ByteArray),.string (⟨#[]⟩:ByteArray),.string (⟨#[]⟩:ByteArray),.int .i64 0,.int .i64 0,.nilIface,.bool false,.int .i64 0,.string (⟨#[]⟩:ByteArray),.string (⟨#[]⟩:ByteArray),.string (⟨#[]⟩:ByteArray),.string (⟨#[]⟩:ByteArray),.int .i64 0,.int .i64 0,.nilIface,.bool false,.bool false,.bool false,.bool false,.slice none 0 0] eh (fun dD=>aq cP (ad g3) dD (fun(ek:cy)=>K (.agg (cD ek).toArray) dD)))
 (cq (Option Addr×Unit) (fun rr=>aD eh (fun gK=>aV (fun iD=>av iD ((ad g1).add 7) (aq dt ((ad g1).add 7) gK (fun(dA:bE)=>av iD (p0.add 18) (ae .ptr (p0.add 18) gK (fun(gY:Option Addr)=>av iD ((ad g1).add 7) (aq dt ((ad g1).add 7) gK (fun(fu:bE)=>av iD (p0.add 16) (ae (.int .i64) (p0.add 16) gK (fun(gW:Int)=>kG (ab Tryz.prog 98 #[.pointer gY,.agg (bP fu).toArray,.int .i64 (IntKind.i64.wrap (1 - gW))] gK (.v (.one (.int .i64))) (fun(js:Int) gC=>ai iD gK gC (aa (js != 0)
 (ak (.cells #[.int .i64 0,.string (⟨#[]⟩:ByteArray),.string (⟨#[]⟩:ByteArray),.string (⟨#[]⟩:ByteArray),.string (⟨#[]⟩:ByteArray),.int .i64 0,.int .i64 0,.nilIface,.bool false] 110) gC (fun PC iu=>ai iD gC iu (ar (ad PC) [.int .i64 dA.1,.string dA.2.1,.string dA.2.2.1,.string dA.2.2.2.1,.string dA.2.2.2.2.1,.int .i64 dA.2.2.2.2.2.1,.int .i64 dA.2.2.2.2.2.2.1,dA.2.2.2.2.2.2.2.1,.bool true] iu (fun gr=>ai iD iu gr (rr ((some (ad PC)),()) gr)))))
 (av iD (p0.add 39) (ae (.int .i64) (p0.add 39) gC (fun(kO:Int)=>av iD (((ad g1).add 7).add 0) (ae (.int .i64) (((ad g1).add 7).add 0) gC (fun(oM:Int)=>jC oM (ak (.cells #[.int .i64 0,.string (⟨#[]⟩:ByteArray),.string (⟨#[]⟩:ByteArray),.string (⟨#[]⟩:ByteArray),.string (⟨#[]⟩:ByteArray),.int .i64 0,.int .i64 0,.nilIface,.bool false] 110) gC (fun PD lL=>ai iD gC lL (ar (ad PD) [.int .i64 dA.1,.string dA.2.1,.string dA.2.2.1,.string dA.2.2.2.1,.string dA.2.2.2.2.1,.int .i64 dA.2.2.2.2.2.1,.int .i64 dA.2.2.2.2.2.2.1,dA.2.2.2.2.2.2.2.1,.bool ((IntKind.i64.wrap ((BitVec.ofInt 64 (Int.fdiv kO (2 ^ (min (Int.toNat oM) 64))) &&& BitVec.ofInt 64 1).toNat:Int))==1)] lL (fun qP=>ai iD lL qP (rr ((some (ad PD)),()) qP)))))))))))))
 (ak (.cells #[.int .i64 0,.string (⟨#[]⟩:ByteArray),.string (⟨#[]⟩:ByteArray),.string (⟨#[]⟩:ByteArray),.string (⟨#[]⟩:ByteArray),.int .i64 0,.int .i64 0,.nilIface,.bool false] 110) gK (fun na iP=>ai iD gK iP (ab Tryz.prog 98 #[.pointer gY,.agg (bP fu).toArray,.int .i64 (IntKind.i64.wrap (1 - gW))] iP (.v (.one (.int .i64))) (fun(mW:Int) jt=>ai iD iP jt (aa (mW != 0)
 (ar (ad na) [.int .i64 dA.1,.string dA.2.1,.string dA.2.2.1,.string dA.2.2.2.1,.string dA.2.2.2.2.1,.int .i64 dA.2.2.2.2.2.1,.int .i64 dA.2.2.2.2.2.2.1,dA.2.2.2.2.2.2.2.1,.bool true] jt (fun vK=>ai iD jt vK (rr ((some (ad na)),()) vK)))
 (av iD (p0.add 39) (ae (.int .i64) (p0.add 39) jt (fun(qS:Int)=>av iD (((ad g1).add 7).add 0) (ae (.int .i64) (((ad g1).add 7).add 0) jt (fun(oS:Int)=>jC oS (ar (ad na) [.int .i64 dA.1,.string dA.2.1,.string dA.2.2.1,.string dA.2.2.2.1,.string dA.2.2.2.2.1,.int .i64 dA.2.2.2.2.2.1,.int .i64 dA.2.2.2.2.2.2.1,dA.2.2.2.2.2.2.2.1,.bool ((IntKind.i64.wrap ((BitVec.ofInt 64 (Int.fdiv qS (2 ^ (min (Int.toNat oS) 64))) &&& BitVec.ofInt 64 1).toNat:Int))==1)] jt (fun tP=>ai iD jt tP (rr ((some (ad na)),()) tP))))))))))))))))))))))))
 (fun _ sN fw=>aD fw (fun lM=>aV (fun AP=>av AP (p0.add 0) (eI 16 (p0.add 0) lM (fun AF=>av AP (p0.add 17) (ae .ptr (p0.add 17) lM (fun(pV:Option Addr)=>jB sN.1 (fun PE=>av AP PE (aq lI PE lM (fun(xc:iA)=>ab Tryz.prog 32 #[.pointer pV] lM (.v (.one (.int .u64))) (fun(sx:Int) qU=>ai AP lM qU (ab Tryz.prog 159 #[.agg AF.toArray,.int .u64 sx,.agg (iO xc).toArray] qU (.aN [.one (.int .u64),.one (.int .i64)]) (fun(vy:Int×Int×Unit) my=>ai AP qU my (aa (vy.2.1 != 0)
 (ar (ad g3) [.bool false,.bool false,.int .i64 0,.string (⟨#[]⟩:ByteArray),.string (⟨#[]⟩:ByteArray),.string (⟨#[]⟩:ByteArray),.string (⟨#[]⟩:ByteArray),.int .i64 0,.int .i64 0,.nilIface,.bool false,.int .i64 0,.string (⟨#[]⟩:ByteArray),.string (⟨#[]⟩:ByteArray),.string (⟨#[]⟩:ByteArray),.string (⟨#[]⟩:ByteArray),.int .i64 0,.int .i64 0,.nilIface,.bool false,.bool false,.bool false,.bool false,.slice none 0 0] my (fun PF=>aq cP (ad g3) PF (fun(Fe:cy)=>K (.agg (cD Fe).toArray) PF)))
 (jB sN.1 (fun a81=>aq lI a81 my (fun(pW:iA)=>ae (.int .i64) ((ad g1).add 4) my (fun(AG:Int)=>jB sN.1 (fun a84=>ae .bool (a84.add 8) my (fun(AH:Bool)=>az Tryz.prog (Instr.buildSlice 111 1 #[(0,.agg #[.int .i64 0,.int .i64 0,.int .i64 0,.int .i64 2,.int .i64 AG,.int .u64 vy.1,.bool AH,.int .i64 0,.string (⟨#[]⟩:ByteArray),.string (⟨#[]⟩:ByteArray),.string (⟨#[]⟩:ByteArray),.string (⟨#[]⟩:ByteArray),.int .i64 0,.int .i64 0,.nilIface])]) my (.v (.one .aj)) (fun(u6:an) zo=>ar (ad g3) [.bool true,.bool false,.int .i64 pW.1,.string pW.2.1,.string pW.2.2.1,.string pW.2.2.2.1,.string pW.2.2.2.2.1,.int .i64 pW.2.2.2.2.2.1,.int .i64 pW.2.2.2.2.2.2.1,pW.2.2.2.2.2.2.2.1,.bool pW.2.2.2.2.2.2.2.2.1,.int .i64 0,.string (⟨#[]⟩:ByteArray),.string (⟨#[]⟩:ByteArray),.string (⟨#[]⟩:ByteArray),.string (⟨#[]⟩:ByteArray),.int .i64 0,.int .i64 0,.nilIface,.bool false,.bool false,.bool false,.bool false,.slice u6.1 u6.2.1 u6.2.2] zo (fun Da=>aq cP (ad g3) Da (fun(AI:cy)=>K (.agg (cD AI).toArray) Da))))))))))))))))))))))))))))))))))))))))))))))))))))))))))))))
def pl114:aB:=(.seq .auto (.seq (.block (.seq (.held (.soft 0 (.soft 1 (.soft 3 (.soft 4 (.soft 5 (.soft 6 (.pick 2 (.soft 7 (.soft 8 (.soft 9 (.soft 10 (.soft 11 (.soft 12 (.soft 13 (.pick 14 (.soft 15 (.soft 16 .done)) .stop)))))))) .stop)))))))) (.cond .auto (.seq (.held (.soft 0 (.soft 1 (.soft 2 (.soft 3 (.soft 4 (.soft 5 (.pick 6 (.soft 7 (.soft 8 .done)) .stop)))))))) (.cond .auto (.seq (.held (.soft 0 (.soft 1 (.soft 2 (.soft 3 (.soft 4 (.soft 5 (.pick 6 (.soft 7 (.soft 8 (.soft 9 (.pick 10 (.soft 11 (.soft 12 .done)) .stop)))) .stop)))))))) .auto)))))) (.join [(5,.one .ptr)] (.held (.soft 0 (.soft 1 (.soft 2 (.soft 3 (.soft 4 (.soft 5 (.soft 6 (.soft 7 (.soft 8 (.soft 9 (.soft 10 (.soft 11 (.soft 12 (.pick 13 (.soft 14 (.soft 15 (.soft 16 (.soft 17 (.soft 18 (.soft 19 (.soft 20 (.soft 21 (.soft 22 (.soft 23 (.soft 24 (.soft 25 (.soft 26 (.soft 27 (.pick 28 (.pick 29 .done .stop) .stop))))))))))))))) (.pick 28 (.pick 13 (.soft 14 (.soft 15 (.soft 16 (.soft 17 (.soft 18 (.soft 19 (.soft 20 (.soft 21 (.soft 22 (.soft 23 (.soft 24 (.soft 25 (.soft 26 (.soft 27 (.pick 29 .done .stop))))))))))))))) .stop) .stop)))))))))))))))) (.seq (.held (.soft 0 (.soft 1 (.soft 2 (.soft 3 (.soft 4 (.soft 5 (.soft 6 (.soft 7 (.soft 9 (.pick 8 (.pick 10 (.soft 11 (.soft 12 (.soft 13 (.soft 14 (.soft 15 .done))))) .stop) .stop))))))))))) .auto))))
theorem c114 (p0:Addr)(p1:di)(w:World)(K:Value->World->Prop)(h:C114 p0 p1 w K):Ret Tryz.prog 114 #[.pointer (some p0),.agg (dv p1).toArray] w K:=aC (by kernel_rfl) Tryz.func114 (p:=pl114) (Eq.mpr (by kernel_rfl) h)
def C115 (p0:Addr)(p1:di)(w:World)(K:Value->World->Prop):Prop:=
 ak (.cells ((dv p1).toArray) 42) w (fun g1 w2=>ak (.cells #[.bool false,.bool false,.int .i64 0,.string (⟨#[]⟩:ByteArray),.string (⟨#[]⟩:ByteArray),.string (⟨#[]⟩:ByteArray),.string (⟨#[]⟩:ByteArray),.int .i64 0,.int .i64 0,.nilIface,.bool false,.int .i64 0,.string (⟨#[]⟩:ByteArray),.string (⟨#[]⟩:ByteArray),.string (⟨#[]⟩:ByteArray),.string (⟨#[]⟩:ByteArray),.int .i64 0,.int .i64 0,.nilIface,.bool false,.bool false,.bool false,.bool false,.slice none 0 0] 113) w2 (fun g3 w4=>ae .ptr (p0.add 17) w4 (fun(x5:Option Addr)=>ab Tryz.prog 27 #[.pointer x5] w4 (.v (.one (.int .i64))) (fun(x6:Int) w7=>aD w7 (fun w8=>aV (fun S9=>av S9 (p0.add 17) (ae .ptr (p0.add 17) w8 (fun(aR:Option Addr)=>av S9 ((ad g1).add 4) (ae (.int .i64) ((ad g1).add 4) w8 (fun(ba:Int)=>ab Tryz.prog 31 #[.pointer aR,.int .i64 (IntKind.i64.wrap (ba+1))] w8 (.aN [.one (.int .u64),.one .bool]) (fun(bt:Int×Bool×Unit) aW=>ai S9 w8 aW (aD aW (fun bm=>aV (fun nD=>av nD ((ad g1).add 4) (ae (.int .i64) ((ad g1).add 4) bm (fun(aQ:Int)=>av nD (p0.add 16) (ae (.int .i64) (p0.add 16) bm (fun(aX:Int)=>ab Tryz.prog 100 #[.int .i64 aQ] bm (.v (.one (.int .i64))) (fun(br:Int) bx=>ai nD bm bx (aa (br != aX)
 (ar (ad g3) [.bool false,.bool false,.int .i64 0,.string (⟨#[]⟩:ByteArray),.string (⟨#[]⟩:ByteArray),.string (⟨#[]⟩:ByteArray),.string (⟨#[]⟩:ByteArray),.int .i64 0,.int .i64 0,.nilIface,.bool false,.int .i64 0,.string (⟨#[]⟩:ByteArray),.string (⟨#[]⟩:ByteArray),.string (⟨#[]⟩:ByteArray),.string (⟨#[]⟩:ByteArray),.int .i64 0,.int .i64 0,.nilIface,.bool false,.bool false,.bool true,.bool false,.slice none 0 0] bx (fun bo=>aq cP (ad g3) bo (fun(bT:cy)=>K (.agg (cD bT).toArray) bo)))
 (av nD ((ad g1).add 4) (ae (.int .i64) ((ad g1).add 4) bx (fun(bR:Int)=>aa (decide (bR > x6))
 (ar (ad g3) [.bool false,.bool false,.int .i64 0,.string (⟨#[]⟩:ByteArray),.string (⟨#[]⟩:ByteArray),.string (⟨#[]⟩:ByteArray),.string (⟨#[]⟩:ByteArray),.int .i64 0,.int .i64 0,.nilIface,.bool false,.int .i64 0,.string (⟨#[]⟩:ByteArray),.string (⟨#[]⟩:ByteArray),.string (⟨#[]⟩:ByteArray),.string (⟨#[]⟩:ByteArray),.int .i64 0,.int .i64 0,.nilIface,.bool false,.bool false,.bool true,.bool false,.slice none 0 0] bx (fun cV=>aq cP (ad g3) cV (fun(cj:cy)=>K (.agg (cD cj).toArray) cV)))
 (ae (.int .i64) ((ad g1).add 4) bx (fun(bC:Int)=>aa (decide (bC<x6))
 (ae (.int .u64) ((ad g1).add 5) bx (fun(cZ:Int)=>ar (ad g3) [.bool false,.bool false,.int .i64 0,.string (⟨#[]⟩:ByteArray),.string (⟨#[]⟩:ByteArray),.string (⟨#[]⟩:ByteArray),.string (⟨#[]⟩:ByteArray),.int .i64 0,.int .i64 0,.nilIface,.bool false,.int .i64 0,.string (⟨#[]⟩:ByteArray),.string (⟨#[]⟩:ByteArray),.string (⟨#[]⟩:ByteArray),.string (⟨#[]⟩:ByteArray),.int .i64 0,.int .i64 0,.nilIface,.bool false,.bool false,.bool (bt.1 != cZ),.bool false,.slice none 0 0] bx (fun eJ=>aq cP (ad g3) eJ (fun(eN:cy)=>K (.agg (cD eN).toArray) eJ))))
 (ae .bool ((p0.add 28).add 8) bx (fun(cx:Bool)=>aa (!cx)
 (ar (ad g3) [.bool false,.bool false,.int .i64 0,.string (⟨#[]⟩:ByteArray),.string (⟨#[]⟩:ByteArray),.string (⟨#[]⟩:ByteArray),.string (⟨#[]⟩:ByteArray),.int .i64 0,.int .i64 0,.nilIface,.bool false,.int .i64 0,.string (⟨#[]⟩:ByteArray),.string (⟨#[]⟩:ByteArray),.string (⟨#[]⟩:ByteArray),.string (⟨#[]⟩:ByteArray),.int .i64 0,.int .i64 0,.nilIface,.bool false,.bool false,.bool true,.bool false,.slice none 0 0] bx (fun bO=>aq cP (ad g3) bO (fun(bZ:cy)=>K (.agg (cD bZ).toArray) bO)))
 (aD bx (fun cL=>aV (fun Dp=>av Dp ((p0.add 28).add 0) (aq dt ((p0.add 28).add 0) cL (fun(dj:bE)=>av Dp ((ad g1).add 6) (ae .bool ((ad g1).add 6) cL (fun(de:Bool)=>ak (.cells #[.int .i64 0,.string (⟨#[]⟩:ByteArray),.string (⟨#[]⟩:ByteArray),.string (⟨#[]⟩:ByteArray),.string (⟨#[]⟩:ByteArray),.int .i64 0,.int .i64 0,.nilIface,.bool false] 110) cL (fun Dq dG=>ai Dp cL dG (ar (ad Dq) [.int .i64 dj.1,.string dj.2.1,.string dj.2.2.1,.string dj.2.2.2.1,.string dj.2.2.2.2.1,.int .i64 dj.2.2.2.2.2.1,.int .i64 dj.2.2.2.2.2.2.1,dj.2.2.2.2.2.2.2.1,.bool de] dG (fun gu=>ai Dp dG gu (aD gu (fun eh=>aV (fun AQ=>av AQ (p0.add 0) (eI 16 (p0.add 0) eh (fun ek=>av AQ (p0.add 17) (ae .ptr (p0.add 17) eh (fun(iQ:Option Addr)=>av AQ (ad Dq) (aq lI (ad Dq) eh (fun(jo:iA)=>ab Tryz.prog 32 #[.pointer iQ] eh (.v (.one (.int .u64))) (fun(jq:Int) gK=>ai AQ eh gK (ab Tryz.prog 159 #[.agg ek.toArray,.int .u64 jq,.agg (iO jo).toArray] gK (.aN [.one (.int .u64),.one (.int .i64)]) (fun(jW:Int×Int×Unit) gd=>ai AQ gK gd (aa (jW.2.1 != 0)
 (ar (ad g3) [.bool false,.bool false,.int .i64 0,.string (⟨#[]⟩:ByteArray),.string (⟨#[]⟩:ByteArray),.string (⟨#[]⟩:ByteArray),.string (⟨#[]⟩:ByteArray),.int .i64 0,.int .i64 0,.nilIface,.bool false,.int .i64 0,.string (⟨#[]⟩:ByteArray),.string (⟨#[]⟩:ByteArray),.string (⟨#[]⟩:ByteArray),.string (⟨#[]⟩:ByteArray),.int .i64 0,.int .i64 0,.nilIface,.bool false,.bool false,.bool true,.bool false,.slice none 0 0] gd (fun gB=>aq cP (ad g3) gB (fun(fu:cy)=>K (.agg (cD fu).toArray) gB)))
 (ae (.int .u64) ((ad g1).add 5) gd (fun(gW:Int)=>aa (jW.1 != gW)
 (ar (ad g3) [.bool false,.bool false,.int .i64 0,.string (⟨#[]⟩:ByteArray),.string (⟨#[]⟩:ByteArray),.string (⟨#[]⟩:ByteArray),.string (⟨#[]⟩:ByteArray),.int .i64 0,.int .i64 0,.nilIface,.bool false,.int .i64 0,.string (⟨#[]⟩:ByteArray),.string (⟨#[]⟩:ByteArray),.string (⟨#[]⟩:ByteArray),.string (⟨#[]⟩:ByteArray),.int .i64 0,.int .i64 0,.nilIface,.bool false,.bool false,.bool true,.bool false,.slice none 0 0] gd (fun jZ=>aq cP (ad g3) jZ (fun(mu:cy)=>K (.agg (cD mu).toArray) jZ)))
 (aq lI (ad Dq) gd (fun(gq:iA)=>ar (ad g3) [.bool true,.bool false,.int .i64 gq.1,.string gq.2.1,.string gq.2.2.1,.string gq.2.2.2.1,.string gq.2.2.2.2.1,.int .i64 gq.2.2.2.2.2.1,.int .i64 gq.2.2.2.2.2.2.1,gq.2.2.2.2.2.2.2.1,.bool gq.2.2.2.2.2.2.2.2.1,.int .i64 0,.string (⟨#[]⟩:ByteArray),.string (⟨#[]⟩:ByteArray),.string (⟨#[]⟩:ByteArray),.string (⟨#[]⟩:ByteArray),.int .i64 0,.int .i64 0,.nilIface,.bool false,.bool false,.bool false,.bool false,.slice none 0 0] gd (fun iu=>aq cP (ad g3) iu (fun(sI:cy)=>K (.agg (cD sI).toArray) iu))))))))))))))))))))))))))))))))))))))))))))))))))))))))
def pl115:aB:=(.seq .auto (.seq .auto (.seq (.held (.soft 0 (.soft 1 (.soft 2 (.soft 3 (.soft 4 (.soft 5 (.soft 6 (.pick 7 (.soft 8 (.soft 9 (.soft 10 (.soft 11 (.soft 12 .done))))) .stop))))))))) (.seq (.block (.seq (.held (.soft 0 (.soft 1 (.soft 3 (.soft 4 (.soft 5 (.soft 6 (.pick 2 (.soft 7 (.soft 8 (.soft 9 (.soft 10 (.soft 11 (.soft 12 (.soft 13 (.soft 14 .done)))))))) .stop)))))))) .auto)) (.seq (.held (.soft 0 (.soft 1 (.soft 2 (.soft 3 (.soft 4 (.soft 5 (.soft 6 (.soft 7 (.pick 8 (.pick 9 .done .stop) .stop)))))))))) (.seq (.seq (.held (.soft 0 (.soft 1 (.soft 2 (.soft 3 (.soft 4 (.soft 5 (.soft 6 (.soft 7 (.soft 9 (.pick 8 (.pick 10 (.soft 11 (.soft 12 (.soft 13 (.soft 14 (.soft 15 .done))))) .stop) .stop))))))))))) .auto) .auto))))))
theorem c115 (p0:Addr)(p1:di)(w:World)(K:Value->World->Prop)(h:C115 p0 p1 w K):Ret Tryz.prog 115 #[.pointer (some p0),.agg (dv p1).toArray] w K:=aC (by kernel_rfl) Tryz.func115 (p:=pl115) (Eq.mpr (by kernel_rfl) h)
def C56 (p0:Addr)(p1:di)(w:World)(K:Value->World->Prop):Prop:=
 ak (.cells ((dv p1).toArray) 42) w (fun g1 w2=>ak (.cells #[.bool false,.bool false,.int .i64 0,.string (⟨#[]⟩:ByteArray),.string (⟨#[]⟩:ByteArray),.string (⟨#[]⟩:ByteArray),.string (⟨#[]⟩:ByteArray),.int .i64 0,.int .i64 0,.nilIface,.bool false,.int .i64 0,.string (⟨#[]⟩:ByteArray),.string (⟨#[]⟩:ByteArray),.string (⟨#[]⟩:ByteArray),.string (⟨#[]⟩:ByteArray),.int .i64 0,.int .i64 0,.nilIface,.bool false,.bool false,.bool false,.bool false,.slice none 0 0] 113) w2 (fun g3 w4=>aD w4 (fun w5=>aV (fun S6=>av S6 (ad g1) (aq fK (ad g1) w5 (fun(x7:di)=>ab Tryz.prog 109 #[.agg (dv x7).toArray] w5 (.v (.one (.int .i64))) (fun(x8:Int) w9=>ai S6 w5 w9 (aa (x8 != 0)
 (ar (ad g3) [.bool false,.bool false,.int .i64 0,.string (⟨#[]⟩:ByteArray),.string (⟨#[]⟩:ByteArray),.string (⟨#[]⟩:ByteArray),.string (⟨#[]⟩:ByteArray),.int .i64 0,.int .i64 0,.nilIface,.bool false,.int .i64 0,.string (⟨#[]⟩:ByteArray),.string (⟨#[]⟩:ByteArray),.string (⟨#[]⟩:ByteArray),.string (⟨#[]⟩:ByteArray),.int .i64 0,.int .i64 0,.nilIface,.bool false,.bool false,.bool false,.bool false,.slice none 0 0] w9 (fun aG=>aq cP (ad g3) aG (fun(ba:cy)=>K (.agg (cD ba).toArray) aG)))
 (av S6 ((ad g1).add 0) (ae (.int .i64) ((ad g1).add 0) w9 (fun(bt:Int)=>av S6 (p0.add 16) (ae (.int .i64) (p0.add 16) w9 (fun(bD:Int)=>aa (bt==bD)
 (ar (ad g3) [.bool false,.bool false,.int .i64 0,.string (⟨#[]⟩:ByteArray),.string (⟨#[]⟩:ByteArray),.string (⟨#[]⟩:ByteArray),.string (⟨#[]⟩:ByteArray),.int .i64 0,.int .i64 0,.nilIface,.bool false,.int .i64 0,.string (⟨#[]⟩:ByteArray),.string (⟨#[]⟩:ByteArray),.string (⟨#[]⟩:ByteArray),.string (⟨#[]⟩:ByteArray),.int .i64 0,.int .i64 0,.nilIface,.bool false,.bool false,.bool false,.bool false,.slice none 0 0] w9 (fun bm=>aq cP (ad g3) bm (fun(bj:cy)=>K (.agg (cD bj).toArray) bm)))
 (ae (.int .i64) ((ad g1).add 3) w9 (fun(aQ:Int)=>aa (aQ==4)
 (aq fK (ad g1) w9 (fun(aX:di)=>ab Tryz.prog 112 #[.pointer (some p0),.agg (dv aX).toArray] w9 (.v (.agg cP)) (fun(br:cy) bx=>ar (ad g3) (cD br) bx (fun bo=>aq cP (ad g3) bo (fun(bT:cy)=>K (.agg (cD bT).toArray) bo)))))
 (ae .bool (p0.add 38) w9 (fun(bR:Bool)=>aa bR
 (ar (ad g3) [.bool false,.bool false,.int .i64 0,.string (⟨#[]⟩:ByteArray),.string (⟨#[]⟩:ByteArray),.string (⟨#[]⟩:ByteArray),.string (⟨#[]⟩:ByteArray),.int .i64 0,.int .i64 0,.nilIface,.bool false,.int .i64 0,.string (⟨#[]⟩:ByteArray),.string (⟨#[]⟩:ByteArray),.string (⟨#[]⟩:ByteArray),.string (⟨#[]⟩:ByteArray),.int .i64 0,.int .i64 0,.nilIface,.bool false,.bool false,.bool false,.bool false,.slice none 0 0] w9 (fun cV=>aq cP (ad g3) cV (fun(cj:cy)=>K (.agg (cD cj).toArray) cV)))
 (ae (.int .i64) ((ad g1).add 3) w9 (fun(bC:Int)=>aa (bC==3)
 (aq fK (ad g1) w9 (fun(cZ:di)=>ab Tryz.prog 113 #[.pointer (some p0),.agg (dv cZ).toArray] w9 (.v (.agg cP)) (fun(cz:cy) bS=>ar (ad g3) (cD cz) bS (fun et=>aq cP (ad g3) et (fun(eg:cy)=>K (.agg (cD eg).toArray) et)))))
 (ae (.int .i64) ((ad g1).add 3) w9 (fun(bZ:Int)=>aa (bZ==1)
 (aq fK (ad g1) w9 (fun(dK:di)=>ab Tryz.prog 114 #[.pointer (some p0),.agg (dv dK).toArray] w9 (.v (.agg cP)) (fun(dp:cy) gh=>ar (ad g3) (cD dp) gh (fun dX=>aq cP (ad g3) dX (fun(eF:cy)=>K (.agg (cD eF).toArray) dX)))))
 (aq fK (ad g1) w9 (fun(gn:di)=>ab Tryz.prog 115 #[.pointer (some p0),.agg (dv gn).toArray] w9 (.v (.agg cP)) (fun(dF:cy) eh=>ar (ad g3) (cD dF) eh (fun dD=>aq cP (ad g3) dD (fun(ek:cy)=>K (.agg (cD ek).toArray) dD))))))))))))))))))))))))))
def pl56:aB:=(.seq .auto (.seq (.block (.seq (.held (.soft 0 (.pick 1 (.soft 2 (.soft 3 (.soft 4 (.soft 5 (.soft 6 (.soft 7 (.soft 8 (.soft 9 (.soft 10 (.soft 11 (.soft 12 .done))))))))))) .stop))) .auto)) .auto))
theorem c56 (p0:Addr)(p1:di)(w:World)(K:Value->World->Prop)(h:C56 p0 p1 w K):Ret Tryz.prog 56 #[.pointer (some p0),.agg (dv p1).toArray] w K:=aC (by kernel_rfl) Tryz.func56 (p:=pl56) (Eq.mpr (by kernel_rfl) h)
def C148 (p0:Addr)(p1:iA)(w:World)(K:Value->World->Prop):Prop:=
 ak (.cells ((iO p1).toArray) 110) w (fun g1 w2=>aD w2 (fun w3=>aV (fun S4=>av S4 (p0.add 17) (ae .ptr (p0.add 17) w3 (fun(x5:Option Addr)=>av S4 (p0.add 18) (ae .ptr (p0.add 18) w3 (fun(x6:Option Addr)=>ab Tryz.prog 69 #[.pointer x5] w3 (.v (.one .ptr)) (fun(x7:Option Addr) w8=>ai S4 w3 w8 (ab Tryz.prog 83 #[.pointer x6] w8 (.v (.one .ptr)) (fun(x9:Option Addr) aG=>ai S4 w8 aG (ab Tryz.prog 27 #[.pointer x7] aG (.v (.one (.int .i64))) (fun(ba:Int) aM=>ab Tryz.prog 100 #[.int .i64 ba] aM (.v (.one (.int .i64))) (fun(bD:Int) bm=>aq lI (ad g1) bm (fun(bj:iA)=>ab Tryz.prog 189 #[.pointer x7,.agg (iO bj).toArray] bm (.v (.one (.int .i64))) (fun(aQ:Int) b9=>aa (aQ != 0)
 (K (.int .i64 aQ) b9)
 (ae .bool ((ad g1).add 8) b9 (fun(br:Bool)=>aa (!br)
 (aq dt ((ad g1).add 0) b9 (fun(bu:bE)=>ab Tryz.prog 190 #[.pointer x9,.agg (bP bu).toArray,.int .i64 bD] b9 (.v (.one (.int .i64))) (fun(cw:Int) bB=>aa (cw != 0)
 (K (.int .i64 cw) bB)
 (aA (p0.add 17) (.pointer x7) bB (fun bN=>aA (p0.add 18) (.pointer x9) bN (fun cV=>ar (p0.add 28) [.int .i64 0,.string (⟨#[]⟩:ByteArray),.string (⟨#[]⟩:ByteArray),.string (⟨#[]⟩:ByteArray),.string (⟨#[]⟩:ByteArray),.int .i64 0,.int .i64 0,.nilIface,.bool false] cV (fun cm=>aA (p0.add 37) (.bool false) cm (fun dk=>K (.int .i64 0) dk))))))))
 (aA (p0.add 17) (.pointer x7) b9 (fun ct=>aA (p0.add 18) (.pointer x9) ct (fun eJ=>ar (p0.add 28) [.int .i64 0,.string (⟨#[]⟩:ByteArray),.string (⟨#[]⟩:ByteArray),.string (⟨#[]⟩:ByteArray),.string (⟨#[]⟩:ByteArray),.int .i64 0,.int .i64 0,.nilIface,.bool false] eJ (fun bS=>aA (p0.add 37) (.bool false) bS (fun et=>K (.int .i64 0) et))))))))))))))))))))))
def pl148:aB:=(.seq .auto (.seq (.held (.soft 0 (.soft 1 (.soft 2 (.soft 3 (.soft 5 (.soft 6 (.soft 7 (.soft 8 (.pick 4 (.pick 9 (.soft 10 (.soft 11 .done)) .stop) .stop)))))))))) .auto))
theorem c148 (p0:Addr)(p1:iA)(w:World)(K:Value->World->Prop)(h:C148 p0 p1 w K):Ret Tryz.prog 148 #[.pointer (some p0),.agg (iO p1).toArray] w K:=aC (by kernel_rfl) Tryz.func148 (p:=pl148) (Eq.mpr (by kernel_rfl) h)
def C92 (p0:Addr)(p1:cy)(w:World)(K:Value->World->Prop):Prop:=
 ak (.cells ((cD p1).toArray) 113) w (fun g1 w2=>cq (Unit) (fun J3=>ae .bool ((ad g1).add 0) w2 (fun(x6:Bool)=>aa x6
 (aq lI ((ad g1).add 2) w2 (fun(x7:iA)=>ab Tryz.prog 148 #[.pointer (some p0),.agg (iO x7).toArray] w2 (.v (.one (.int .i64))) (fun(x8:Int) w9=>aa (x8 != 0)
 (K (.int .i64 x8) w9)
 (J3 (()) w9))))
 (J3 (()) w2)))
 (fun _ s4 w5=>cq (Unit) (fun vL=>ae .bool ((ad g1).add 1) w5 (fun(bD:Bool)=>aa bD
 (aq dt ((ad g1).add 11) w5 (fun(bd:bE)=>ar (p0.add 28) [.int .i64 bd.1,.string bd.2.1,.string bd.2.2.1,.string bd.2.2.2.1,.string bd.2.2.2.2.1,.int .i64 bd.2.2.2.2.2.1,.int .i64 bd.2.2.2.2.2.2.1,bd.2.2.2.2.2.2.2.1,.bool true] w5 (fun bL=>aD bL (fun bn=>ae .bool ((ad g1).add 19) bn (fun(aX:Bool)=>aa aX
 (aA ((ad g1).add 19) (.bool true) bn (fun bz=>vL (()) bz))
 (ae .bool ((p0.add 19).add 8) bn (fun(bu:Bool)=>aa bu
 (aq dt ((p0.add 19).add 0) bn (fun(cw:bE)=>aq dt ((ad g1).add 11) bn (fun(bT:bE)=>ab Tryz.prog 149 #[.agg (bP cw).toArray,.agg (bP bT).toArray] bn (.v (.one .bool)) (fun(bR:Bool) cV=>aA ((ad g1).add 19) (.bool bR) cV (fun cm=>vL (()) cm)))))
 (aA ((ad g1).add 19) (.bool false) bn (fun dk=>vL (()) dk)))))))))
 (vL (()) w5)))
 (fun _ xW aM=>ae .bool ((ad g1).add 19) aM (fun(cZ:Bool)=>aa cZ
 (ar (p0.add 19) [.int .i64 0,.string (⟨#[]⟩:ByteArray),.string (⟨#[]⟩:ByteArray),.string (⟨#[]⟩:ByteArray),.string (⟨#[]⟩:ByteArray),.int .i64 0,.int .i64 0,.nilIface,.bool false] aM (fun eJ=>cq (Unit) (fun AR=>ae .bool (p0.add 37) eJ (fun(bZ:Bool)=>aa bZ
 (aA (p0.add 37) (.bool true) eJ (fun cL=>AR (()) cL))
 (ae .bool ((ad g1).add 20) eJ (fun(dp:Bool)=>aA (p0.add 37) (.bool dp) eJ (fun gh=>AR (()) gh)))))
 (fun _ s29 bO=>ae .bool (p0.add 38) bO (fun(de:Bool)=>aa de
 (ae .bool ((ad g1).add 22) bO (fun(eF:Bool)=>aA (p0.add 38) (.bool (!eF)) bO (fun dG=>K (.int .i64 0) dG)))
 (ae .bool ((ad g1).add 21) bO (fun(dF:Bool)=>aa dF
 (ae .bool ((ad g1).add 22) bO (fun(eP:Bool)=>aA (p0.add 38) (.bool (!eP)) bO (fun dD=>K (.int .i64 0) dD)))
 (aA (p0.add 38) (.bool false) bO (fun ll=>K (.int .i64 0) ll))))))))
 (cq (Unit) (fun rr=>ae .bool (p0.add 37) aM (fun(gQ:Bool)=>aa gQ
 (aA (p0.add 37) (.bool true) aM (fun iq=>rr (()) iq))
 (ae .bool ((ad g1).add 20) aM (fun(dA:Bool)=>aA (p0.add 37) (.bool dA) aM (fun gB=>rr (()) gB)))))
 (fun _ sN fw=>ae .bool (p0.add 38) fw (fun(fu:Bool)=>aa fu
 (ae .bool ((ad g1).add 22) fw (fun(gW:Bool)=>aA (p0.add 38) (.bool (!gW)) fw (fun jZ=>K (.int .i64 0) jZ)))
 (ae .bool ((ad g1).add 21) fw (fun(mu:Bool)=>aa mu
 (ae .bool ((ad g1).add 22) fw (fun(gq:Bool)=>aA (p0.add 38) (.bool (!gq)) fw (fun iu=>K (.int .i64 0) iu)))
 (aA (p0.add 38) (.bool false) fw (fun gr=>K (.int .i64 0) gr)))))))))))
def pl92:aB:=(.seq .auto (.join [] .auto (.join [] (.seq .auto (.cond (.seq .auto (.tail 16)) .auto)) (.seq .auto (.join [] .auto .auto)))))
theorem c92 (p0:Addr)(p1:cy)(w:World)(K:Value->World->Prop)(h:C92 p0 p1 w K):Ret Tryz.prog 92 #[.pointer (some p0),.agg (cD p1).toArray] w K:=aC (by kernel_rfl) Tryz.func92 (p:=pl92) (Eq.mpr (by kernel_rfl) h)
namespace Vc
def putAt:Array Value->Nat->List Value->Array Value
 | cs,_,[]=>cs
 | cs,n,v::vs=>putAt (cs.setIfInBounds n v) (n+1) vs
def rv:List Value->Nat->List Value->List Value
 | l,_,[]=>l
 | l,n,v::vs=>rv (l.set n v) (n+1) vs
theorem IU:∀ (vs l pre:List Value) (n:Nat),putAt (pre++l).toArray (pre.length+n) vs=(pre++rv l n vs).toArray
 | [],l,pre,n=>rfl
 | v::vs,l,pre,n=>by
  have e:(pre++l).toArray.setIfInBounds (pre.length+n) v=(pre++l.set n v).toArray:=by
   apply Array.ext';rw[Array.toList_setIfInBounds];simp[List.set_append_right]
  rw[putAt,e,rv,<- IU vs (l.set n v) pre (n+1)];rfl
theorem aaz (l vs:List Value)(n:Nat):putAt l.toArray n vs=(rv l n vs).toArray:=by
 have:=IU vs l [] n;simpa using this
theorem setCells_at {b off:Nat}{T:TypeId}:∀ (vs:List Value) (w:World) (i:Nat) (cs:Array Value),w.heap[b]? = some (.cells cs T (0,0))->off+i+vs.length<=cs.size->vs.all bI=true ->
  pw w ⟨b,off,none⟩ i vs/\(setCells w ⟨b,off,none⟩ i vs).heap[b]? = some (.cells (putAt cs (off+i) vs) T (0,0))/\Fr (only b) w (setCells w ⟨b,off,none⟩ i vs)/\(setCells w ⟨b,off,none⟩ i vs).heap.size=w.heap.size
 | [],w,i,cs,hb,hl,_=>⟨trivial,hb,Fr.refl _ _,rfl⟩
 | v::vs,w,i,cs,hb,hl,h1=>by
  simp only[List.all_cons,Bool.and_eq_true] at h1;simp only[List.length_cons] at hl;have hs:=heap_setCell_same (i:=off+i) (v:=v) hb;obtain⟨a1,a2,a3,a4⟩:=setCells_at (off:=off) vs (w.setCell ⟨b,off+i,none⟩ v) (i+1) (cs.setIfInBounds (off+i) v) hs (by rw[Array.size_setIfInBounds];omega) h1.2;unfold pw setCells;rw[dP];exact⟨⟨h1.1,by rw[pF hb,Array.getElem?_eq_getElem (show off+i<cs.size by omega)];rfl,yH hb,a1⟩,a2,(yG w b _ v).trans a3,by rw[a4];simp[World.setCell]⟩
theorem ar.at {b off:Nat}{vs:List Value}{w:World}{K:World->Prop}{cs:Array Value}{T:TypeId}(hb:w.heap[b]? = some (.cells cs T (0,0)))(hl:off+vs.length<=cs.size)(h1:vs.all bI=true)
  (h:∀ w1,w1.heap[b]? = some (.cells (putAt cs off vs) T (0,0))->Fr (only b) w w1->w1.heap.size=w.heap.size->K w1):ar ⟨b,off,none⟩ vs w K:=by
 obtain⟨a1,a2,a3,a4⟩:=setCells_at vs w 0 cs hb (by omega) h1;exact⟨a1,h _ a2 a3 a4⟩
end Vc
def ix (p:PeerM)(c l:Nat):List Value:=
 [.int .i64 p.side,.pointer (some ⟨c,0,none⟩),.pointer (some ⟨l,0,none⟩)]++(gz p.off.1.e++([.bool p.off.2]++(gz p.aY.1.e++[.bool p.aY.2,.bool p.wanted,.bool p.bG,.int .i64 p.refused])))
theorem qy (p:PeerM)(c l:Nat):(ix p c l).length=24:=rfl
structure lg (w:World)(F:Nat->Prop)(b:Nat)(p:PeerM)(c l:Nat)(Fc Fl:Nat->Prop):Prop where
 aE:w.heap[b]? = some (.cells (cT p.kb++ix p c l).toArray 138 (0,0))
 ch:jz w Fc c p.kb p.es p.hs
 ld:dZ w Fl l p.cd
 cf:∀ k,Fc k->F k/\k≠b
 lf:∀ k,Fl k->F k/\k≠b
 mem:F b
def cU (w:World)(F:Nat->Prop)(b:Nat)(p:PeerM):Prop:=∃ c l Fc Fl,lg w F b p c l Fc Fl
theorem lg.ag {w w':World}{F T:Nat->Prop}{b:Nat}{p:PeerM}{c l:Nat}{Fc Fl:Nat->Prop}(h:lg w F b p c l Fc Fl)(f:Fr T w w')(hT:∀ k,F k->¬ T k):lg w' F b p c l Fc Fl:=
 ⟨f.ag h.aE (hT b h.mem),h.ch.ag f fun k U=>hT k (h.cf k U).1,h.ld.ag f fun k U=>hT k (h.lf k U).1,h.cf,h.lf,h.mem⟩
theorem lg.af {w w':World}{F:Nat->Prop}{b:Nat}{p:PeerM}{c l:Nat}{Fc Fl:Nat->Prop}(h:lg w F b p c l Fc Fl)(f:Fr none1 w w'):lg w' F b p c l Fc Fl:=h.ag f fun _ _ t=>t
theorem cU.ag {w w':World}{F T:Nat->Prop}{b:Nat}{p:PeerM}(h:cU w F b p)(f:Fr T w w')(hT:∀ k,F k->¬ T k):cU w' F b p:=by
 obtain⟨c,l,Fc,Fl,h⟩:=h;exact⟨c,l,Fc,Fl,h.ag f hT⟩
theorem cU.af {w w':World}{F:Nat->Prop}{b:Nat}{p:PeerM}(h:cU w F b p)(f:Fr none1 w w'):cU w' F b p:=h.ag f fun _ _ t=>t
theorem cU.mono {w:World}{F G:Nat->Prop}{b:Nat}{p:PeerM}(h:cU w F b p)(hG:∀ k,F k->G k):cU w G b p:=by
 obtain⟨c,l,Fc,Fl,h⟩:=h;exact⟨c,l,Fc,Fl,h.aE,h.ch,h.ld,fun k U=>⟨hG k (h.cf k U).1,(h.cf k U).2⟩,fun k U=>⟨hG k (h.lf k U).1,(h.lf k U).2⟩,hG b h.mem⟩
theorem IV {kb:List UInt8}(U:kb.length=16){t:List Value}(i:Nat):(cT kb++t).toArray[16+i]? = t[i]? := by
 have:=kD (kb:=kb);rw[List.getElem?_toArray,List.getElem?_append_right (by omega),this,U]
 congr 1;omega
theorem lg.bX {w:World}{F:Nat->Prop}{b:Nat}{p:PeerM}{c l:Nat}{Fc Fl:Nat->Prop}(h:lg w F b p c l Fc Fl)(U:p.kb.length=16)(i:Nat){ck:Ck}{x:ck.C}(hx:(ix p c l)[i]? = some (ck.val x)){K:ck.C->Prop}(k:K x):ae ck ⟨b,16+i,none⟩ w K:=
 ae.of h.aE (by rw[IV U];exact hx) k
theorem lg.q8 {w:World}{F:Nat->Prop}{b:Nat}{p:PeerM}{c l:Nat}{Fc Fl:Nat->Prop}(h:lg w F b p c l Fc Fl)(U:p.kb.length=16)(i:Nat){cks:List Ck}(x:Cs cks)(hx:∀ j,j<(Cs.vals cks x).length->(ix p c l)[i+j]? = (Cs.vals cks x)[j]?){K:Cs cks->Prop}(k:K x):aq cks ⟨b,16+i,none⟩ w K:=
 ⟨x,uB h.aE _ _ 0 fun j hj=>by rw[Nat.add_zero,Nat.add_assoc,IV U];exact hx j hj,k⟩
theorem lg.key {w:World}{F:Nat->Prop}{b:Nat}{p:PeerM}{c l:Nat}{Fc Fl:Nat->Prop}(h:lg w F b p c l Fc Fl)(U:p.kb.length=16){K:List Value->Prop}(k:K (cT p.kb)):eI 16 ((⟨b,0,none⟩:Addr).add 0) w K:=by
 refine⟨cT p.kb,by rw[kD,U],?_,k⟩;rw[dP];refine nP h.aE _ 0 fun j hj=>?_;rw[List.getElem?_toArray,Nat.zero_add,List.getElem?_append_left hj]
theorem AS (n:Int)(h0:0<=n)(w:World):Ret Tryz.prog 100 #[.int .i64 n] w fun r w'=>r=.int .i64 (PeerM.owner n)/\w=w':=by
 refine c100 n w _ ?_;refine⟨by decide,?_⟩;unfold PeerM.owner;have:Int.tmod n 2=n % 2:=Int.tmod_eq_emod_of_nonneg h0;rw[this];exact aa.eq (fun h=>by rw[if_pos h];exact⟨rfl,rfl⟩) (fun h=>by rw[if_neg h];exact⟨rfl,rfl⟩)
theorem IW {w:World}{F:Nat->Prop}{b:Nat}{p:PeerM}(h:cU w F b p)(U:p.kb.length=16):Ret Tryz.prog 97 #[.pointer (some ⟨b,0,none⟩)] w fun r w'=>r=.bool p.full/\w=w':=by
 obtain⟨c,l,Fc,Fl,h⟩:=h;refine c97 _ w _ ?_;refine h.bX U 1 (ck:=.ptr) (x:=some ⟨c,0,none⟩) rfl ?_;refine ab.of (oz U h.ch) ?_;rintro _ _ ⟨rfl,rfl⟩;refine⟨_,rfl,?_,rfl⟩;unfold PeerM.full
 congr 1
 by_cases h:64<=p.es.length
 ·rw[decide_eq_true h,decide_eq_true (by omega)]
 ·rw[decide_eq_false h,decide_eq_false (by omega)]
def nK (fs:List cc):List Value:=(fs.map fun f=>dC f.f).flatten
theorem yd (f:cc):nK [f]=dC f.f:=by unfold nK;simp
theorem ye:il Tryz.prog 111 42 15 (.agg #[.int .i64 0,.int .i64 0,.int .i64 0,.int .i64 0,.int .i64 0,.int .u64 0,.bool false,.int .i64 0,.string ⟨#[]⟩,.string ⟨#[]⟩,.string ⟨#[]⟩,.string ⟨#[]⟩,.int .i64 0,.int .i64 0,.nilIface]) 160:=⟨Tryz.underlying111,⟨Tryz.t42,by kernel_rfl,rfl,rfl,rfl⟩,rfl,by decide⟩
theorem PG (f:cc):(dC f.f).all bI=true:=GU (Tm.bU _)
theorem vP (m:aT):(gz m.e).all bI=true:=by
 show(_&&(_&&(_&&(_&&(_&&(_&&(_&&(bI m.t.v&&true))))))))=true;rw[Tm.bU];rfl
theorem Dr {w:World}{F:Nat->Prop}{b:Nat}{p:PeerM}(h:cU w F b p)(ho:cO p)(kind:Int):Ret Tryz.prog 101 #[.pointer (some ⟨b,0,none⟩),.int .i64 kind] w fun r w'=>r=ly (p.eS kind false bb).f/\Fr none1 w w':=by
 obtain⟨c,l,Fc,Fl,h⟩:=h;have U:=ho.kb;have mi:=ho.num;refine c101 _ kind w _ ?_;unfold C101;refine ak.of fun g1 w1 df au f1 _=>aD.of fun w2 _ f2=>aV.of (fun k=>k=b) ?_;have f12:=f1.trans f2;have h2:=h.af f12;have bl:=bQ h.aE;refine⟨rfl,h2.bX U 1 (ck:=.ptr) (x:=some ⟨c,0,none⟩) rfl ⟨rfl,h2.bX U 1 (ck:=.ptr) (x:=some ⟨c,0,none⟩) rfl ?_⟩⟩;refine ab.of (oz U h2.ch) ?_;rintro _ _ ⟨rfl,rfl⟩;refine⟨_,rfl,ai.of (Fr.refl _ _) ?_⟩;refine ab.of (De U h2.ch ho.hs (by omega)) ?_;rintro _ w3 ⟨rfl,f3⟩;refine⟨_,rfl,ai.of f3 ?_⟩;refine ar.aE ((f2.trans f3).af au) rfl rfl fun w4 dw f4 _=>ai.on f4 (fun k U q=>by have:k=g1:=q;have:k=b:=U;omega) ?_;exact aq.aE (cks:=FK) (x:=(p.eS kind false bb).f) dw ⟨rfl,(f12.trans f3).fresh f4 (by omega)⟩
theorem PH {w:World}{F:Nat->Prop}{b:Nat}{p:PeerM}(h:cU w F b p)(ho:cO p)(m:aT):Ret Tryz.prog 102 #[.pointer (some ⟨b,0,none⟩),gX m.e] w fun r w'=>∃ s:Sl,r=.slice s.1 s.2.1 s.2.2/\aF w' 42 15 s (nK [p.eS 1 false m])/\Fr none1 w w'/\∀ k,aw s k->w.heap.size<=k:=by
 refine c102 _ m.e w _ ?_;unfold C102;refine ak.of fun g1 w1 df au f1 _=>?_;refine ab.of (Dr (h.af f1) ho 1) ?_;rintro _ w2 ⟨rfl,f2⟩;refine⟨(p.eS 1 false bb).f,rfl,?_⟩;have f12:=f1.trans f2;refine ak.of fun g5 w3 xy cW f3 _=>ar.aE cW rfl rfl fun w4 dw f4 s4=>?_;have ay:g1≠g5:=by have:=bQ au;have:=f2.size;omega
 have e4:la w4 g1 m:=f4.ag (f3.af (f2.af au)) ay;refine aq.aE (cks:=gH) (x:=m.e) e4 ?_;refine ar.at (off:=7) dw (by show 7+8<=15;decide) (vP m) fun w5 xz f5 s5=>?_;have e:rv (dC (p.eS 1 false bb).f) 7 (gz m.e)=dC (p.eS 1 false m).f:=rfl;have cW:w5.heap[g5]? = some (.cells (dC (p.eS 1 false m).f).toArray 42 (0,0)):=by rw[<- e,<- aaz];exact xz
 refine aq.aE (cks:=FK) (x:=(p.eS 1 false m).f) cW ?_;obtain⟨s,w6,hr,hs,_,f6,sf⟩:=mI (P:=Tryz.prog) (w:=w5) ye (dC (p.eS 1 false m).f) rfl (by decide);have s1:=f12.size;exact⟨s,w6,hr,s,rfl,by rw[yd];exact hs,(((f12.trans f3).fresh f4 (by omega)).fresh f5 (by show w.heap.size<=g5;omega)).trans f6,fun k U=>by have:=sf k U;have:=f3.size;omega⟩
abbrev dW:List Ck:=[.bool,.bool,.int .i64,.str,.str,.str,.str,.int .i64,.int .i64,.raw,.bool,.int .i64,.str,.str,.str,.str,.int .i64,.int .i64,.raw,.bool,.bool,.bool,.bool,.aj]
def lW (a:bV)(s:Sl):Cs dW:=
 (a.dc,a.cY,a.bh.1.e.1,a.bh.1.e.2.1,a.bh.1.e.2.2.1,a.bh.1.e.2.2.2.1,a.bh.1.e.2.2.2.2.1,a.bh.1.e.2.2.2.2.2.1,a.bh.1.e.2.2.2.2.2.2.1,a.bh.1.e.2.2.2.2.2.2.2.1,a.bh.2,a.bM.e.1,a.bM.e.2.1,a.bM.e.2.2.1,a.bM.e.2.2.2.1,a.bM.e.2.2.2.2.1,a.bM.e.2.2.2.2.2.1,a.bM.e.2.2.2.2.2.2.1,a.bM.e.2.2.2.2.2.2.2.1,a.drop,a.wanted,a.bG,a.calm,s,())
def fJ (a:bV)(s:Sl):List Value:=Cs.vals dW (lW a s)
def lD (B:Nat)(w:World)(r:Value)(a:bV):Prop:=∃ s:Sl,r=.agg (fJ a s).toArray/\aF w 42 15 s (nK a.bJ)/\∀ k,aw s k->B<=k
theorem qz {w:World}{a:bV}(h:a.bJ=[]):aF w 42 15 (none,0,0) (nK a.bJ):=by rw[h];exact .inl ⟨rfl,rfl⟩
theorem aaA {w:World}{F:Nat->Prop}{b:Nat}{p:PeerM}(h:cU w F b p)(ho:cO p)(m:aT)(hm:aJ m.t<=1000000)(ht:TabW w):Ret Tryz.prog 103 #[.pointer (some ⟨b,0,none⟩),gX m.e] w fun r w'=>lD w.heap.size w' r (p.kC m)/\Fr none1 w w':=by
 have hR:=h;obtain⟨c,l,Fc,Fl,h⟩:=h;have U:=ho.kb;refine c103 _ m.e w _ ?_;unfold C103 PeerM.kC;refine ak.of fun g1 w1 df au f1 _=>ak.of fun g3 w2 qe aU f2 _=>aD.of fun w3 _ f3=>?_;have f13:=(f1.trans f2).trans f3;have h3:=h.af f13;have e3:la w3 g1 m:=(f2.trans f3).af au;refine h3.bX U 2 (ck:=.ptr) (x:=some ⟨l,0,none⟩) rfl (aq.aE (cks:=gH) (x:=m.e) e3 (h3.bX U 0 (ck:=.int .i64) (x:=p.side) rfl ?_));refine ab.of (Dm h3.ld ho.cd m hm (ht.af f13) p.side) ?_;rintro _ w4 ⟨rfl,f4⟩;have f14:=f13.trans f4;have mN:w.heap.size<=g3:=by have:=f1.size;omega
 refine⟨_,rfl,aa.ne (fun ay=>?_) (fun he=>?_)⟩
 ·rw[if_pos ay]
  refine ar.aE ((f3.trans f4).af aU) rfl rfl fun w5 cW f5 _=>?_;exact aq.aE (cks:=dW) (x:=lW { bH with drop:=true } (none,0,0)) cW ⟨⟨(none,0,0),rfl,qz rfl,fun k t=>(ko k t).elim⟩,f14.fresh f5 mN⟩
 rw[if_neg (fun t=>t he)];refine aD.of fun w5 _ f5=>aV.of (fun k=>k=g1) ?_;have e5:=(e3.af f4).af f5;refine⟨rfl,aq.aE (cks:=gH) (x:=m.e) e5 ⟨rfl,aq.aE (cks:=gH) (x:=m.e) e5 ?_⟩⟩;have f15:=f14.trans f5;refine ab.of (PH (hR.af f15) ho m) ?_;rintro _ w6 ⟨s,rfl,hs,f6,sf⟩;refine⟨s,rfl,ai.of f6 ?_⟩;refine ar.aE (((f3.trans f4).trans (f5.trans f6)).af aU) rfl (by
  show(_&&(_&&(_&&(_&&(_&&(_&&(_&&(_&&(_&&(_&&(_&&(_&&(_&&(_&&(_&&(_&&(_&&(_&&(bI m.t.v&&(_&&(_&&(_&&(_&&(_&&true))))))))))))))))))))))))=true;rw[Tm.bU];rfl) fun w7 gP f7 s7=>ai.on f7 (fun k U q=>by have:k=g3:=q;have:k=g1:=U;have:=bQ au;omega) ?_
 refine aq.aE (cks:=dW) (x:=lW { bH with cY:=true,bM:=m,bJ:=[p.eS 1 false m] } s) gP ⟨⟨s,rfl,hs.ag f7 fun k U q=>?_,fun k U=>by have:=sf k U;have:=f15.size;omega⟩,(f15.trans f6).fresh f7 mN⟩
 have:=sf k U;have:k=g3:=q;have:=bQ ((f3.trans (f4.trans f5)).af aU);omega
theorem IX {w:World}{F:Nat->Prop}{b:Nat}{p:PeerM}(h:cU w F b p)(ho:cO p)(n head:Int):Ret Tryz.prog 157 #[.pointer (some ⟨b,0,none⟩),.int .i64 n,.int .u64 head] w fun r w'=>r=.bool (p.qj n head)/\w=w':=by
 obtain⟨c,l,Fc,Fl,h⟩:=h;have U:=ho.kb;have mi:=ho.num;refine c157 _ n head w _ ?_;unfold C157;refine h.bX U 1 (ck:=.ptr) (x:=some ⟨c,0,none⟩) rfl ?_;refine ab.of (Po U h.ch n) ?_;rintro _ _ ⟨rfl,rfl⟩;have e:p.at_ n=((if n<0\/(p.hs.length:Int)<=n then 0 else p.hs.getD n.toNat 0),!decide (n<0\/(p.hs.length:Int)<=n)):=by
  unfold PeerM.at_;split
  ·rename_i h;rw[decide_eq_true h];rfl
  ·rename_i h;rw[decide_eq_false h];rfl
 refine⟨((if n<0\/(p.hs.length:Int)<=n then 0 else p.hs.getD n.toNat 0),!decide (n<0\/(p.hs.length:Int)<=n),()),rfl,?_⟩;unfold PeerM.qj;rw[e];generalize(if n<0\/(p.hs.length:Int)<=n then 0 else p.hs.getD n.toNat 0)=A;generalize(!decide (n<0\/(p.hs.length:Int)<=n))=B;have len:∀ {K:Bool->World->Prop},K (decide (p.len+1<n)) w->ae .ptr ((⟨b,0,none⟩:Addr).add 17) w (fun(x7:Option Addr)=>ab Tryz.prog 27 #[.pointer x7] w (.v (.one (.int .i64))) (fun(x8:Int) w9=>K (decide (n > IntKind.wrap .i64 (x8+1))) w9)):=by
  intro K k;refine h.bX U 1 (ck:=.ptr) (x:=some ⟨c,0,none⟩) rfl ?_;refine ab.of (oz U h.ch) ?_;rintro _ _ ⟨rfl,rfl⟩;refine⟨_,rfl,?_⟩;rw[wI (by omega) (by omega)];exact k
 refine aa.by (fun hB=>aa.ne (fun ay=>?_) (fun he=>?_)) (fun hB=>?_)
 ·have hB:B=true:=hB
  have ay:A≠head:=ay;rw[hB,show(A != head)=true by simpa using ay];exact⟨rfl,rfl⟩
 ·have hB:B=true:=hB
  have he:A=head:=he;refine len (K:=fun x w'=>(Value.bool x=Value.bool (B&&A != head||decide (p.len+1<n))/\w=w')) ?_;rw[hB,show(A != head)=false by simpa using he];exact⟨rfl,rfl⟩
 ·have hB:B=false:=hB
  refine len (K:=fun x w'=>(Value.bool x=Value.bool (B&&A != head||decide (p.len+1<n))/\w=w')) ?_;rw[hB];exact⟨rfl,rfl⟩
theorem PI (a:bV)(s:Sl):(fJ a s).all bI=true:=by
 show(_&&(_&&(_&&(_&&(_&&(_&&(_&&(_&&(_&&(bI a.bh.1.t.v&&(_&&(_&&(_&&(_&&(_&&(_&&(_&&(_&&(bI a.bM.t.v&&(_&&(_&&(_&&(_&&(_&&true))))))))))))))))))))))))=true;rw[Tm.bU,Tm.bU];rfl
theorem lX {w wx:World}{g3:Nat}{cs:List Value}(hb:wx.heap[g3]? = some (.cells cs.toArray 113 (0,0)))(hl:cs.length=24)(hg:w.heap.size<=g3)(f:Fr none1 w wx)(a:bV)(s:Sl)(hs:aF wx 42 15 s (nK a.bJ))(hd:∀ k,aw s k->k≠g3)(hB:∀ k,aw s k->w.heap.size<=k){A:bV}(e:A=a):
  ar ⟨g3,0,none⟩ (fJ a s) wx fun w1=>aq dW ⟨g3,0,none⟩ w1 fun x=>(lD w.heap.size w1 (.agg (Cs.vals dW x).toArray) A/\Fr none1 w w1):=by
 subst e;refine ar.aE hb (by rw[hl];rfl) (PI A s) fun w1 au f1 _=>aq.aE (cks:=dW) (x:=lW A s) au ⟨⟨s,rfl,hs.ag f1 fun k U q=>hd k U q,hB⟩,f.fresh f1 hg⟩
theorem PJ {w wx:World}{g3:Nat}{cs:List Value}{S:Nat->Prop}(hS:¬ S g3)(hb:wx.heap[g3]? = some (.cells cs.toArray 113 (0,0)))(hl:cs.length=24)(hg:w.heap.size<=g3)(f:Fr none1 w wx)(a:bV)(s:Sl)(hs:aF wx 42 15 s (nK a.bJ))(hd:∀ k,aw s k->k≠g3)(hB:∀ k,aw s k->w.heap.size<=k){A:bV}(e:A=a):
  ar ⟨g3,0,none⟩ (fJ a s) wx fun w1=>ai S wx w1 (aq dW ⟨g3,0,none⟩ w1 fun x=>(lD w.heap.size w1 (.agg (Cs.vals dW x).toArray) A/\Fr none1 w w1)):=by
 subst e;refine ar.aE hb (by rw[hl];rfl) (PI A s) fun w1 au f1 _=>ai.on f1 (fun k U q=>hS (by have:k=g3:=q;rw[<- this];exact U)) (aq.aE (cks:=dW) (x:=lW A s) au ⟨⟨s,rfl,hs.ag f1 fun k U q=>hd k U q,hB⟩,f.fresh f1 hg⟩)
theorem ry {B:Nat}:∀ k,aw (none,0,0) k->B<=k:=fun k t=>(ko k t).elim
theorem rz {g:Nat}:∀ k,aw (none,0,0) k->k≠g:=fun k t=>(ko k t).elim
def oA (w:World)(g:Nat)(f:cc):Prop:=w.heap[g]? = some (.cells (dC f.f).toArray 42 (0,0))
theorem oA.af {w w':World}{g:Nat}{f:cc}(h:oA w g f)(q:Fr none1 w w'):oA w' g f:=q.af h
theorem aaB {w:World}{F:Nat->Prop}{b:Nat}{p:PeerM}(h:cU w F b p)(ho:cO p)(f:cc):Ret Tryz.prog 113 #[.pointer (some ⟨b,0,none⟩),ly f.f] w fun r w'=>lD w.heap.size w' r (p.want f)/\Fr none1 w w':=by
 have hR:=h;obtain⟨c,l,Fc,Fl,h⟩:=h;have U:=ho.kb;refine c113 _ f.f w _ ?_;unfold C113;refine ak.of fun g1 w1 df au f1 _=>ak.of fun g3 w2 qe aU f2 _=>?_;have f12:=f1.trans f2;have a2:oA w2 g1 f:=f2.af au;have mN:w.heap.size<=g3:=by have:=f1.size;omega
 refine ae.ah a2 (x:=f.2.2.2.2.1) rfl (ae.ah a2 (x:=f.2.2.2.2.2.1) rfl ?_);refine ab.of (IX (hR.af f12) ho _ _) ?_;rintro _ _ ⟨rfl,rfl⟩;refine⟨_,rfl,aa.by (fun hs=>?_) (fun hs=>?_)⟩
 ·exact lX aU rfl mN f12 { bH with bG:=true } (none,0,0) (qz rfl) rz ry (by unfold PeerM.want;rw[if_pos hs])
 have e0:p.want f={ bH with wanted:=f.2.2.2.2.1==p.len&&PeerM.owner f.2.2.2.2.1==p.side }:=by unfold PeerM.want;rw[if_neg (by rw[hs];simp)]
 refine aD.of fun w3 _ f3=>aV.of (fun k=>k=g1\/k=b) ?_;have f13:=f12.trans f3;have a3:=a2.af f3;have h3:=h.af f13;have hS:¬ (g3=g1\/g3=b):=by have:=bQ au;have:=bQ h.aE;omega
 refine⟨.inl rfl,ae.ah a3 (x:=f.2.2.2.2.1) rfl ⟨.inr rfl,h3.bX U 1 (ck:=.ptr) (x:=some ⟨c,0,none⟩) rfl ?_⟩⟩;refine ab.of (oz U h3.ch) ?_;rintro _ _ ⟨rfl,rfl⟩;refine⟨_,rfl,ai.of (Fr.refl _ _) (aa.eq (fun he=>?_) (fun he=>?_))⟩
 ·have he:f.2.2.2.2.1=p.len:=he
  refine⟨.inl rfl,ae.ah a3 (x:=f.2.2.2.2.1) rfl ⟨.inr rfl,h3.bX U 0 (ck:=.int .i64) (x:=p.side) rfl ?_⟩⟩;refine ab.of (AS f.2.2.2.2.1 (by rw[he];unfold PeerM.len;omega) w3) ?_;rintro _ _ ⟨rfl,rfl⟩;refine⟨_,rfl,ai.of (Fr.refl _ _) ?_⟩;exact PJ hS (f3.af aU) rfl mN f13 { bH with wanted:=PeerM.owner f.2.2.2.2.1==p.side } (none,0,0) (qz rfl) rz ry (by rw[e0,he];simp)
 ·have he:f.2.2.2.2.1≠p.len:=he
  exact PJ hS (f3.af aU) rfl mN f13 bH (none,0,0) (qz rfl) rz ry (by rw[e0,show(f.2.2.2.2.1==p.len)=false by simpa using he];rfl)
theorem aaC {w:World}{v:Sl}{vs:List (List Value)}{s:Nat}(h:dr w s v vs.flatten)(qI:0<s)(hs:∀ l∈vs,l.length=s){i:Nat}{l:List Value}(hx:vs[i]? = some l){K:Addr->Prop}
  (k:∀ a:Addr,(∀ {j:Nat} {c:Ck} {y:c.C} {M:c.C->Prop},l[j]? = some (c.val y)->M y->ae c (a.add j) w M)->K a):bK v.1 v.2.1 (i:Int) s K:=by
 have hl:=xX hs;rw[h.1] at hl;have hl:=Nat.eq_of_mul_eq_mul_right qI hl;have hi:=(List.getElem?_eq_some_iff.1 hx).1;cases hv:v.1 with
 | none=>have:=(h.2.1 hv).1;omega
 | some p=>
  refine⟨p,rfl,by omega,by omega,?_⟩;rw[Int.toNat_natCast];refine k _ fun{j c y M} hj hm=>⟨y,?_,hm⟩;have hc:=zM (i * s) _ 0 (h.2.2 p hv);rw[Nat.zero_add,Ge vs i hs] at hc;have hc:=wm _ 0 j (c.val y) (xv (m:=i * s) _ 0 hc) ?_
  ·rw[Nat.zero_add] at hc;exact hc
  ·obtain⟨h1,h2⟩:=List.getElem?_eq_some_iff.1 hx
   rw[List.drop_eq_getElem_cons h1,h2,List.flatten_cons,List.getElem?_append_left (List.getElem?_eq_some_iff.1 hj).1];exact hj
theorem aaD (es:List eW):∀ l∈es.map ji,l.length=9:=by intro l hl;obtain⟨x,_,rfl⟩:=List.mem_map.1 hl;rfl
theorem aaE {p:PeerM}(n:Int):p.at_ n=((if n<0\/(p.hs.length:Int)<=n then 0 else p.hs.getD n.toNat 0),!decide (n<0\/(p.hs.length:Int)<=n)):=by
 unfold PeerM.at_;split
 ·rename_i h;rw[decide_eq_true h];rfl
 ·rename_i h;rw[decide_eq_false h];rfl
theorem PK {w:World}{F:Nat->Prop}{c:Nat}{p:PeerM}(U:p.kb.length=16)(h:jz w F c p.kb p.es p.hs)(n:Int):Ret Tryz.prog 31 #[.pointer (some ⟨c,0,none⟩),.int .i64 n] w fun r w'=>r=.tuple #[.int .u64 (p.at_ n).1,.bool (p.at_ n).2]/\w=w':=by
 rw[aaE];exact Po U h n
theorem aaF {w:World}{F:Nat->Prop}{b:Nat}{p:PeerM}(h:cU w F b p)(ho:cO p)(n:Int)(h0:0<=n)(h1:n<p.len):Ret Tryz.prog 158 #[.pointer (some ⟨b,0,none⟩),.int .i64 n] w fun r w'=>∃ s:Sl,r=.slice s.1 s.2.1 s.2.2 /\
  aF w' 42 15 s (nK [PeerM.fr 2 n (p.at_ (n+1)).1 (p.es.getD n.toNat (bb,false)).2 bb])/\Fr none1 w w'/\∀ k,aw s k->w.heap.size<=k:=by
 obtain⟨c,l,Fc,Fl,h⟩:=h;have U:=ho.kb;have mi:=ho.num;unfold PeerM.len at h1;refine c158 _ n w _ ?_;unfold C158;refine h.bX U 1 (ck:=.ptr) (x:=some ⟨c,0,none⟩) rfl ?_;rw[wI (by omega) (by omega)];refine ab.of (PK U h.ch (n+1)) ?_;rintro _ _ ⟨rfl,rfl⟩;refine⟨((p.at_ (n+1)).1,(p.at_ (n+1)).2,()),rfl,?_⟩;refine h.bX U 1 (ck:=.ptr) (x:=some ⟨c,0,none⟩) rfl ?_;refine ab.of (aad U h.ch (by omega)) ?_;rintro _ w1 ⟨u,rfl,hu,f1,uf⟩;refine⟨u,rfl,?_⟩;obtain⟨i,rfl⟩:∃ i:Nat,n=i:=⟨n.toNat,by omega⟩;have hi:i<p.es.length:=by omega
 obtain⟨x,hx⟩:∃ x,p.es[i]? = some x:=⟨_,List.getElem?_eq_getElem hi⟩;refine aaC (vs:=p.es.map ji) hu.rd (by decide) (aaD _) (by rw[List.getElem?_map,hx];rfl) fun a ha=>ha (j:=8) (y:=x.2) rfl ?_;obtain⟨s,w2,hr,hs,_,f2,sf⟩:=mI (P:=Tryz.prog) (w:=w1) ye (dC (PeerM.fr 2 i (p.at_ (i+1)).1 x.2 bb).f) rfl (by decide);refine⟨s,w2,hr,s,rfl,?_,f1.trans f2,fun k U=>by have:=sf k U;have:=f1.size;omega⟩;rw[yd,Int.toNat_natCast,List.getD_eq_getElem?_getD,hx];exact hs
theorem aaG {w:World}{F:Nat->Prop}{b:Nat}{p:PeerM}(h:cU w F b p)(ho:cO p)(ht:TabW w):Ret Tryz.prog 47 #[.pointer (some ⟨b,0,none⟩)] w fun r w'=>lD w.heap.size w' r p.tick/\Fr none1 w w':=by
 have hR:=h;obtain⟨c,l,Fc,Fl,h⟩:=h;have U:=ho.kb;have mi:=ho.num;refine c47 _ w _ ?_;unfold C47;refine ak.of fun g1 w1 df au f1 _=>aD.of fun w2 _ f2=>aV.all ?_;have f12:=f1.trans f2;have aK:=f2.af au;have h2:=h.af f12;have ud:w.heap.size<=g1:=by omega
 refine av.all (h2.bX U 1 (ck:=.ptr) (x:=some ⟨c,0,none⟩) rfl (av.all (h2.bX U 0 (ck:=.int .i64) (x:=p.side) rfl ?_)));refine ab.of (oz U h2.ch) ?_;rintro _ _ ⟨rfl,rfl⟩;refine⟨_,rfl,ai.of (Fr.refl _ _) ?_⟩;refine ab.of (AS (p.es.length:Int) (by omega) w2) ?_;rintro _ _ ⟨rfl,rfl⟩;refine⟨_,rfl,?_⟩
 try refine ai.of (Fr.refl _ _) ?_
 have fresh:∀ {wx wy:World} {s:Sl},Fr none1 w2 wx->(∀ k,aw s k->wx.heap.size<=k)->∀ k,aw s k->k≠g1:=fun f sf k U=>by have:=sf k U;have:=bQ aK;have:=f.size;omega
 refine h2.bX U 22 (ck:=.bool) (x:=p.bG) rfl (aa.by (fun hq=>?_) (fun hq=>?_))
 ·refine ab.of (Dr (hR.af f12) ho 4) ?_
  rintro _ w3 ⟨rfl,f3⟩;refine⟨(p.eS 4 false bb).f,rfl,?_⟩;refine ak.of fun g5 w4 xy cW f4 _=>ar.aE cW rfl rfl fun w5 cW f5 s5=>?_;have cW:w5.heap[g5]? = some (.cells (dC (p.eS 4 false bb).f).toArray 42 (0,0)):=cW;refine aA.ah cW (by show 0+6<15;decide) rfl fun w6 fI f6 s6=>?_;have fI:w6.heap[g5]? = some (.cells (dC (p.eS 4 true bb).f).toArray 42 (0,0)):=fI;refine aq.aE (cks:=FK) (x:=(p.eS 4 true bb).f) fI ?_;obtain⟨s,w7,hr,hs,_,f7,sf⟩:=mI (P:=Tryz.prog) (w:=w6) ye (dC (p.eS 4 true bb).f) rfl (by decide);refine⟨s,w7,hr,?_⟩;have l2:=bQ aK;have z3:=f3.size;have f26:Fr none1 w2 w6:=((f3.trans f4).fresh f5 (by omega)).fresh f6 (by omega);exact lX ((f26.trans f7).af aK) rfl ud ((f12.trans f26).trans f7) { bH with bJ:=[p.eS 4 true bb] } s (by rw[yd];exact hs) (fun k U=>by have:=sf k U;have:=f26.size;omega) (fun k U=>by have:=sf k U;have:=f26.size;have:=f12.size;omega) (by unfold PeerM.tick;rw[if_pos hq])
 have q1:¬ p.bG=true:=by rw[hq];simp
 refine ab.of (IW (hR.af f12) U) ?_;rintro _ _ ⟨rfl,rfl⟩;refine⟨_,rfl,aa.by (fun hf=>?_) (fun hf=>?_)⟩
 ·exact lX aK rfl ud f12 bH (none,0,0) (qz rfl) rz ry (by unfold PeerM.tick;rw[if_neg q1,if_pos hf])
 have q2:¬ p.full=true:=by rw[hf];simp
 refine h2.bX U 20 (ck:=.bool) (x:=p.aY.2) rfl (aa.by (fun hp=>?_) (fun hp=>?_))
 ·refine h2.q8 U 12 (cks:=gH) p.aY.1.e (fun j hj=>?_) ?_
  ·match j,hj with
   | 0,_=>rfl
   | 1,_=>rfl
   | 2,_=>rfl
   | 3,_=>rfl
   | 4,_=>rfl
   | 5,_=>rfl
   | 6,_=>rfl
   | 7,_=>rfl
  refine ab.of (PH (hR.af f12) ho p.aY.1) ?_;rintro _ w3 ⟨s,rfl,hs,f3,sf⟩;refine⟨s,rfl,?_⟩;exact lX (f3.af aK) rfl ud (f12.trans f3) { bH with bJ:=[p.eS 1 false p.aY.1] } s hs (fun k U=>by have:=sf k U;have:=bQ aK;omega) (fun k U=>by have:=sf k U;have:=f12.size;omega) (by unfold PeerM.tick;rw[if_neg q1,if_neg q2,if_pos hp])
 have q3:¬ p.aY.2=true:=by have hp:p.aY.2=false:=hp;rw[hp];simp
 have e0:p.tick=if PeerM.owner p.len=p.side/\p.off.2=true then p.kC p.off.1 else if PeerM.owner p.len=p.side/\p.wanted=true then p.kC xH else if PeerM.owner p.len≠p.side/\p.off.2=true then{ bH with bJ:=[p.eS 3 false bb] } else bH:=by
  conv=>lhs;unfold PeerM.tick
  rw[if_neg q1,if_neg q2,if_neg q3]
 have hlen:PeerM.owner (p.es.length:Int)=PeerM.owner p.len:=rfl;rw[hlen];generalize PeerM.owner p.len=O at *
 -- a acq, told through the cell
 have PL:∀ (m:aT),aJ m.t<=1000000->p.tick=p.kC m->ab Tryz.prog 103 #[.pointer (some ⟨b,0,none⟩),gX m.e] w2 (.v (.agg dW)) fun(x:Cs dW) w3=>ar ⟨g1,0,none⟩ (Cs.vals dW x) w3 fun w4=>aq dW ⟨g1,0,none⟩ w4 fun(y:Cs dW)=>(lD w.heap.size w4 (.agg (Cs.vals dW y).toArray) p.tick/\Fr none1 w w4):=by
  intro m hm e;refine ab.of (aaA (hR.af f12) ho m hm (ht.af f12)) ?_;rintro _ w3 ⟨⟨s,rfl,hs,sf⟩,f3⟩;refine⟨lW (p.kC m) s,rfl,?_⟩;exact lX (f3.af aK) rfl ud (f12.trans f3) (p.kC m) s hs (fun k U q=>by have:=sf k U;have:=bQ aK;omega) (fun k U=>by have:=sf k U;have:=f12.size;omega) e
 refine cq.of (fun st w'=>st.1=decide (O=p.side/\p.off.2=true)/\w2=w') ?_ ?_
 ·refine aa.eq (fun hO=>h2.bX U 11 (ck:=.bool) (x:=p.off.2) rfl ⟨?_,rfl⟩) (fun hO=>⟨?_,rfl⟩)
  ·have hO:O=p.side:=hO
   simp[hO]
  ·have hO:O≠p.side:=hO
   simp[hO]
 rintro _ ⟨st,_⟩ _ ⟨dz,rfl⟩;dsimp only at dz ⊢;subst dz;refine aa.dec (fun h1=>?_) (fun h1=>?_)
 ·refine h2.q8 U 3 (cks:=gH) p.off.1.e (fun j hj=>?_) ?_
  ·match j,hj with
   | 0,_=>rfl
   | 1,_=>rfl
   | 2,_=>rfl
   | 3,_=>rfl
   | 4,_=>rfl
   | 5,_=>rfl
   | 6,_=>rfl
   | 7,_=>rfl
  exact PL p.off.1 ho.off.2.2.2.2 (by rw[e0,if_pos h1])
 refine cq.of (fun st w'=>st.1=decide (O=p.side/\p.wanted=true)/\w2=w') ?_ ?_
 ·refine aa.eq (fun hO=>h2.bX U 21 (ck:=.bool) (x:=p.wanted) rfl ⟨?_,rfl⟩) (fun hO=>⟨?_,rfl⟩)
  ·have hO:O=p.side:=hO
   simp[hO]
  ·have hO:O≠p.side:=hO
   simp[hO]
 rintro _ ⟨st,_⟩ _ ⟨dz,rfl⟩;dsimp only at dz ⊢;subst dz;refine aa.dec (fun h3=>?_) (fun h3=>?_)
 ·exact PL xH (by decide) (by rw[e0,if_neg h1,if_pos h3])
 refine aa.not (aa.eq (fun hO=>?_) (fun hO=>?_))
 ·have hO:O=p.side:=hO
  exact lX aK rfl ud f12 bH (none,0,0) (qz rfl) rz ry (by rw[e0,if_neg h1,if_neg h3,if_neg (fun t=>t.1 hO)])
 have hO:O≠p.side:=hO;refine h2.bX U 11 (ck:=.bool) (x:=p.off.2) rfl (aa.by (fun hw=>?_) (fun hw=>?_))
 ·have hw:p.off.2=true:=hw
  refine ab.of (Dr (hR.af f12) ho 3) ?_;rintro _ w3 ⟨rfl,f3⟩;refine⟨(p.eS 3 false bb).f,rfl,?_⟩;obtain⟨s,w4,hr,hs,_,f4,sf⟩:=mI (P:=Tryz.prog) (w:=w3) ye (dC (p.eS 3 false bb).f) rfl (by decide);refine⟨s,w4,hr,?_⟩;exact lX ((f3.trans f4).af aK) rfl ud ((f12.trans f3).trans f4) { bH with bJ:=[p.eS 3 false bb] } s (by rw[yd];exact hs) (fun k U=>by have:=sf k U;have:=bQ aK;have:=f3.size;omega) (fun k U=>by have:=sf k U;have:=f12.size;have:=f3.size;omega) (by rw[e0,if_neg h1,if_neg h3,if_pos ⟨hO,hw⟩])
 ·have hw:p.off.2=false:=hw
  exact lX aK rfl ud f12 bH (none,0,0) (qz rfl) rz ry (by rw[e0,if_neg h1,if_neg h3,if_neg (fun t=>by rw[hw] at t;exact absurd t.2 (by simp))])
theorem Ds (a:bV)(s:Sl)(n:Nat)(v:Value):(fJ a s).toArray.setIfInBounds n v=((fJ a s).set n v).toArray:=by simp
theorem pq (a:bV)(s:Sl):fJ a s=[.bool a.dc,.bool a.cY,.int .i64 a.bh.1.1,.string (str a.bh.1.2.1),.string (str a.bh.1.2.2.1),.string (str a.bh.1.2.2.2.1),.string (str a.bh.1.2.2.2.2.1),.int .i64 a.bh.1.2.2.2.2.2.1,.int .i64 a.bh.1.2.2.2.2.2.2.1,a.bh.1.2.2.2.2.2.2.2.v,.bool a.bh.2,.int .i64 a.bM.1,.string (str a.bM.2.1),.string (str a.bM.2.2.1),.string (str a.bM.2.2.2.1),.string (str a.bM.2.2.2.2.1),.int .i64 a.bM.2.2.2.2.2.1,.int .i64 a.bM.2.2.2.2.2.2.1,a.bM.2.2.2.2.2.2.2.v,.bool a.drop,.bool a.wanted,.bool a.bG,.bool a.calm,.slice s.1 s.2.1 s.2.2]:=rfl
theorem aaH (a:bV)(s:Sl)(v:Bool):(fJ a s).set 21 (.bool v)=fJ { a with bG:=v } s:=by rw[pq,pq];rfl
theorem aaI (a:bV)(s:Sl)(v:Bool):(fJ a s).set 22 (.bool v)=fJ { a with calm:=v } s:=by rw[pq,pq];rfl
theorem aaJ (a:bV)(s t:Sl):(fJ a s).set 23 (.slice t.1 t.2.1 t.2.2)=fJ a t:=by rw[pq,pq];rfl
theorem aaK (a:bV)(s:Sl)(x:List cc):fJ { a with bJ:=x } s=fJ a s:=rfl
theorem Dt (a:bV)(s:Sl):(fJ a s).toArray.size=24:=rfl
theorem aaL {w:World}{F:Nat->Prop}{b:Nat}{p:PeerM}(h:cU w F b p)(ho:cO p)(f:cc):Ret Tryz.prog 112 #[.pointer (some ⟨b,0,none⟩),ly f.f] w fun r w'=>lD w.heap.size w' r (p.lz f)/\Fr none1 w w':=by
 have hR:=h;obtain⟨c,l,Fc,Fl,h⟩:=h;have U:=ho.kb;refine c112 _ f.f w _ ?_;unfold C112;refine ak.of fun g1 w1 df au f1 _=>ak.of fun g3 w2 qe aU f2 _=>ak.of fun g5 w3 xy cW f3 _=>ar.aE cW rfl rfl fun w4 cW f4 s4=>?_;have z1:=f1.size;have z3:=f3.size;have l1:=bQ au;have l3:=bQ aU;have n13:g1≠g3:=by omega
 have IY:g1≠g5:=by omega
 have Du:g3≠g5:=by omega
 have f14:Fr none1 w w4:=((f1.trans f2).trans f3).fresh f4 (by omega);have a4:oA w4 g1 f:=f4.ag (f3.af (f2.af au)) IY;have IZ:=f4.ag (f3.af aU) Du;have I0:w4.heap[g5]? = some (.cells (fJ bH (none,0,0)).toArray 113 (0,0)):=cW;have l5:=bQ I0
 -- the end: Dv is said
 have fin:∀ {wx:World} (A:bV),A.bJ=[]->Fr none1 w wx->oA wx g1 f->wx.heap[g3]? = w4.heap[g3]? -> w4.heap.size<=wx.heap.size->wx.heap[g5]? = some (.cells (fJ A (none,0,0)).toArray 113 (0,0))->p.lz f={ A with bJ:=if f.2.2.2.2.2.2.1=true then[p.eS 4 false bb] else[] } ->
   ae .bool ((⟨g1,0,none⟩:Addr).add 6) wx (fun(bD:Bool)=>aa bD
    (ab Tryz.prog 101 #[.pointer (some ⟨b,0,none⟩),.int .i64 4] wx (.v (.agg FK)) (fun(bd:Cs FK) bL=>az Tryz.prog (Instr.buildSlice 111 1 #[(0,.agg (Cs.vals FK bd).toArray)]) bL (.v (.one .aj)) (fun(aQ:Option Addr×Nat×Nat) b9=>
     aA ((⟨g5,0,none⟩:Addr).add 23) (.slice aQ.1 aQ.2.1 aQ.2.2) b9 (fun bz=>aq dW ⟨g5,0,none⟩ bz (fun(bu:Cs dW)=>ar ⟨g3,0,none⟩ (Cs.vals dW bu) bz (fun bo=>aq dW ⟨g3,0,none⟩ bo (fun(bT:Cs dW)=>(lD w.heap.size bo (.agg (Cs.vals dW bT).toArray) (p.lz f)/\Fr none1 w bo))))))))
    (aq dW ⟨g5,0,none⟩ wx (fun(bR:Cs dW)=>ar ⟨g3,0,none⟩ (Cs.vals dW bR) wx (fun cV=>aq dW ⟨g3,0,none⟩ cV (fun(cj:Cs dW)=>(lD w.heap.size cV (.agg (Cs.vals dW cj).toArray) (p.lz f)/\Fr none1 w cV)))))):=by
  intro wx A hA fx ax I1 zx I2 e;rw[IZ] at I1;refine ae.ah ax (x:=f.2.2.2.2.2.2.1) rfl (aa.by (fun hf=>?_) (fun hf=>?_))
  ·have hf:f.2.2.2.2.2.2.1=true:=hf
   rw[if_pos hf] at e;refine ab.of (Dr (hR.af fx) ho 4) ?_;rintro _ wy ⟨rfl,fy⟩;refine⟨(p.eS 4 false bb).f,rfl,?_⟩;obtain⟨s,wz,hr,hs,_,fz,sf⟩:=mI (P:=Tryz.prog) (w:=wy) ye (dC (p.eS 4 false bb).f) rfl (by decide);refine⟨s,wz,hr,?_⟩;have I3:=fy.trans fz;have zy:=fy.size;have lx:=bQ I2;refine aA.ah (I3.af I2) (by rw[Dt];decide) rfl fun wa Dw fa sa=>?_;rw[Nat.zero_add,Ds,aaJ,<- aaK A s [p.eS 4 false bb]] at Dw;refine aq.aE (cks:=dW) (x:=lW { A with bJ:=[p.eS 4 false bb] } s) Dw ?_
   have g5n:∀ k,aw s k->k≠g5:=fun k U=>by have:=sf k U;omega
   exact lX (fa.ag (I3.af I1) Du) rfl (by omega) ((fx.trans I3).fresh fa (by omega)) { A with bJ:=[p.eS 4 false bb] } s (by rw[yd];exact hs.ag fa fun k U q=>g5n k U q) (fun k U=>by have:=sf k U;omega) (fun k U=>by have:=sf k U;have:=fx.size;omega) e
  ·have hf:f.2.2.2.2.2.2.1=false:=hf
   rw[if_neg (by rw[hf];simp)] at e;refine aq.aE (cks:=dW) (x:=lW A (none,0,0)) I2 ?_;exact lX I1 rfl (by omega) fx A (none,0,0) (qz hA) rz ry (by rw[e];cases A;simp only at hA;subst hA;rfl)
 have e0:p.lz f={ bH with bG:=p.qj f.2.2.2.2.1 f.2.2.2.2.2.1,calm:=!p.qj f.2.2.2.2.1 f.2.2.2.2.2.1&&(f.2.2.2.2.1==p.len&&p.bG),bJ:=if f.2.2.2.2.2.2.1=true then[p.eS 4 false bb] else[] }:=rfl
 refine ae.ah a4 (x:=f.2.2.2.2.1) rfl (ae.ah a4 (x:=f.2.2.2.2.2.1) rfl ?_);refine ab.of (IX (hR.af f14) ho _ _) ?_;rintro _ _ ⟨rfl,rfl⟩;generalize p.qj f.2.2.2.2.1 f.2.2.2.2.2.1=S at *;refine⟨S,rfl,aa.by (fun hs=>?_) (fun hs=>?_)⟩
 ·have hs:S=true:=hs
  subst hs;refine aA.ah I0 (by rw[Dt];decide) rfl fun w5 xz f5 s5=>?_;rw[Nat.zero_add,Ds,aaH] at xz;exact fin { bH with bG:=true } rfl (f14.fresh f5 (by omega)) (f5.ag a4 IY) (f5.block g3 (by have:=bQ IZ;omega) Du) (by omega) xz (by rw[e0];rfl)
 have hs:S=false:=hs;subst hs;refine aD.of fun w5 rq f5=>aV.all ?_;have f15:=f14.trans f5;have h5:=h.af f15;have a5:=a4.af f5;have PM:=f5.af I0;have z5:w5.heap.size=w4.heap.size:=by rw[rq]
 refine av.all (ae.ah a5 (x:=f.2.2.2.2.1) rfl (av.all (h5.bX U 1 (ck:=.ptr) (x:=some ⟨c,0,none⟩) rfl ?_)));refine ab.of (oz U h5.ch) ?_;rintro _ _ ⟨rfl,rfl⟩;refine⟨_,rfl,?_⟩
 try refine ai.of (Fr.refl _ _) ?_
 refine aa.eq (fun he=>?_) (fun he=>?_)
 ·have he:f.2.2.2.2.1=p.len:=he
  refine h5.bX U 22 (ck:=.bool) (x:=p.bG) rfl ?_;refine aA.ah PM (by rw[Dt];decide) rfl fun w6 fI f6 s6=>?_;rw[Nat.zero_add,Ds,aaI] at fI;exact fin { bH with calm:=p.bG } rfl (f15.fresh f6 (by omega)) (f6.ag a5 IY) (by rw[f6.block g3 (by have:=bQ IZ;omega) Du,rq]) (by omega) fI (by rw[e0,he];simp[bH])
 ·have he:f.2.2.2.2.1≠p.len:=he
  exact fin bH rfl f15 a5 (by rw[rq]) (by omega) PM (by rw[e0,show(f.2.2.2.2.1==p.len)=false by simpa using he];rfl)
theorem aaM {w:World}{F:Nat->Prop}{b:Nat}{p:PeerM}(h:cU w F b p)(ho:cO p)(ht:TabW w)(f:cc)(h0:0<=f.2.2.2.2.1)(h9:f.2.2.2.2.1<=1000000000000000):Ret Tryz.prog 115 #[.pointer (some ⟨b,0,none⟩),ly f.f] w fun r w'=>lD w.heap.size w' r (p.om f)/\Fr none1 w w':=by
 have hR:=h;obtain⟨c,l,Fc,Fl,h⟩:=h;have U:=ho.kb;have mi:=ho.num;refine c115 _ f.f w _ ?_;unfold C115;refine ak.of fun g1 w1 df au f1 _=>ak.of fun g3 w2 qe aU f2 _=>?_;have f12:=f1.trans f2;have h2:=h.af f12;have a2:oA w2 g1 f:=f2.af au;have bl:=bQ h.aE;have l1:=bQ au;have l3:=bQ aU;have mN:w.heap.size<=g3:=by have:=f1.size;omega
 refine h2.bX U 1 (ck:=.ptr) (x:=some ⟨c,0,none⟩) rfl ?_;refine ab.of (oz U h2.ch) ?_;rintro _ _ ⟨rfl,rfl⟩;refine⟨_,rfl,aD.of fun w3 _ f3=>aV.all ?_⟩;have f13:=f12.trans f3;have h3:=h2.af f3;have a3:=a2.af f3;refine av.all (h3.bX U 1 (ck:=.ptr) (x:=some ⟨c,0,none⟩) rfl (av.all (ae.ah a3 (x:=f.2.2.2.2.1) rfl ?_)));rw[wI (x:=f.2.2.2.2.1+1) (by omega) (by omega)];refine ab.of (PK U h3.ch (f.2.2.2.2.1+1)) ?_;rintro _ _ ⟨rfl,rfl⟩;refine⟨((p.at_ (f.2.2.2.2.1+1)).1,(p.at_ (f.2.2.2.2.1+1)).2,()),rfl,?_⟩
 try refine ai.of (Fr.refl _ _) ?_
 refine aD.of fun w4 _ f4=>aV.all ?_;have f14:=f13.trans f4;have h4:=h3.af f4;have a4:=a3.af f4;have b4:=(f3.trans f4).af aU;refine av.all (ae.ah a4 (x:=f.2.2.2.2.1) rfl (av.all (h4.bX U 0 (ck:=.int .i64) (x:=p.side) rfl ?_)));refine ab.of (AS f.2.2.2.2.1 h0 w4) ?_;rintro _ _ ⟨rfl,rfl⟩;refine⟨_,rfl,?_⟩
 try refine ai.of (Fr.refl _ _) ?_
 have bG:∀ {wx:World} (A:bV),A.bJ=[]->Fr none1 w wx->wx.heap[g3]? = w4.heap[g3]? -> p.om f=A->ar ⟨g3,0,none⟩ (fJ A (none,0,0)) wx fun w1=>aq dW ⟨g3,0,none⟩ w1 fun x=>(lD w.heap.size w1 (.agg (Cs.vals dW x).toArray) (p.om f)/\Fr none1 w w1):=
  fun A hA fx hb e=>lX (by rw[hb];exact b4) rfl mN fx A (none,0,0) (qz hA) rz ry e
 refine aa.ne (fun ay=>?_) (fun he=>?_)
 ·have ay:PeerM.owner f.2.2.2.2.1≠p.side:=ay
  exact bG { bH with bG:=true } rfl f14 rfl (by unfold PeerM.om;rw[if_pos (.inl ay)])
 have he:PeerM.owner f.2.2.2.2.1=p.side:=he;refine av.all (ae.ah a4 (x:=f.2.2.2.2.1) rfl (aa.dec (fun oe=>?_) (fun oe=>?_)))
 ·exact bG { bH with bG:=true } rfl f14 rfl (by unfold PeerM.om;rw[if_pos (.inr (show(p.es.length:Int)<f.2.2.2.2.1 from oe))])
 have c1:¬ (PeerM.owner f.2.2.2.2.1≠p.side\/p.len<f.2.2.2.2.1):=fun t=>t.elim (fun q=>q he) (fun q=>oe q);refine ae.ah a4 (x:=f.2.2.2.2.1) rfl (aa.dec (fun aS=>?_) (fun aS=>?_))
 ·have aS:f.2.2.2.2.1<p.len:=aS
  refine ae.ah a4 (x:=f.2.2.2.2.2.1) rfl ?_;exact bG { bH with bG:=(p.at_ (f.2.2.2.2.1+1)).1 != f.2.2.2.2.2.1 } rfl f14 rfl (by unfold PeerM.om;rw[if_neg c1,if_pos aS])
 have c2:¬ f.2.2.2.2.1<p.len:=aS;refine h4.bX U 20 (ck:=.bool) (x:=p.aY.2) rfl (aa.not (aa.by (fun hp=>?_) (fun hp=>?_)))
 rotate_left
 ·have hp:p.aY.2=false:=hp
  exact bG { bH with bG:=true } rfl f14 rfl (by unfold PeerM.om;rw[if_neg c1,if_neg c2,if_pos hp])
 have c3:¬ p.aY.2=false:=by have hp:p.aY.2=true:=hp;rw[hp];simp
 refine aD.of fun w5 rq f5=>aV.of (fun k=>k=b\/k=g1) ?_;have f15:=f14.trans f5;have h5:=h4.af f5;have a5:=a4.af f5;refine⟨.inl rfl,h5.q8 U 12 (cks:=gH) p.aY.1.e (fun j hj=>?_) ⟨.inr rfl,ae.ah a5 (x:=f.2.2.2.2.2.2.1) rfl ?_⟩⟩
 ·match j,hj with
  | 0,_=>rfl
  | 1,_=>rfl
  | 2,_=>rfl
  | 3,_=>rfl
  | 4,_=>rfl
  | 5,_=>rfl
  | 6,_=>rfl
  | 7,_=>rfl
 refine ak.of fun g6 w6 HJ fI f6 _=>ai.of f6 ?_;have z5:=f15.size;have z2:=f12.size;have z25:=((f3.trans f4).trans f5).size;refine ar.aE (vs:=ji (p.aY.1,f.2.2.2.2.2.2.1)) fI rfl (by
  show(_&&(_&&(_&&(_&&(_&&(_&&(_&&(bI p.aY.1.t.v&&(_&&true)))))))))=true;rw[Tm.bU];rfl) fun w7 gP f7 s7=>ai.on f7 (fun k U q=>by have:k=g6:=q;rcases U with rfl | rfl<;>omega) ?_
 have f57:Fr none1 w5 w7:=f6.fresh f7 (by omega);refine aD.of fun w8 hw8 f8=>aV.all ?_;have f58:=f57.trans f8;have f18:=f15.trans f58;have h8:=h5.af f58;have a8:=a5.af f58;have b8:=f8.af gP;refine av.all (h8.key U (av.all (h8.bX U 1 (ck:=.ptr) (x:=some ⟨c,0,none⟩) rfl (av.all (aq.aE (cks:=nv) (x:=kU p.aY.1.e f.2.2.2.2.2.2.1) b8 ?_)))));refine ab.of (De U h8.ch ho.hs (by omega)) ?_;rintro _ w9 ⟨rfl,f9⟩;refine⟨_,rfl,ai.of f9 ?_⟩;have AT:=ho.vB;refine ab.of (IH (x:=(p.aY.1,f.2.2.2.2.2.2.1)) U AT.1 AT.2 ho.aY (ht.af (f18.trans f9))) ?_;rintro _ aG ⟨rfl,f10⟩;have sM:=(f18.trans f9).trans f10;have su:aG.heap[g3]? = w4.heap[g3]? := by rw[b4];exact((f5.trans f58).trans (f9.trans f10)).af b4
 have pQ:=(a8.af f9).af f10;have e0:p.om f=if(fm p.kb p.head (p.aY.1,f.2.2.2.2.2.2.1)).2≠0\/(fm p.kb p.head (p.aY.1,f.2.2.2.2.2.2.1)).1≠f.2.2.2.2.2.1 then{ bH with bG:=true } else{ bH with dc:=true,bh:=(p.aY.1,f.2.2.2.2.2.2.1) }:=by
  conv=>lhs;unfold PeerM.om
  rw[if_neg c1,if_neg c2,if_neg c3]
 generalize fm p.kb p.head (p.aY.1,f.2.2.2.2.2.2.1)=N at *;refine⟨(N.1,N.2,()),rfl,?_⟩
 try refine ai.of f10 ?_
 refine aa.ne (fun ay=>?_) (fun j6=>?_)
 ·have ay:N.2≠0:=ay
  exact bG { bH with bG:=true } rfl sM su (by rw[e0,if_pos (.inl ay)])
 have j6:N.2=0:=j6;refine ae.ah pQ (x:=f.2.2.2.2.2.1) rfl (aa.ne (fun ay=>?_) (fun I4=>?_))
 ·have ay:N.1≠f.2.2.2.2.2.1:=ay
  exact bG { bH with bG:=true } rfl sM su (by rw[e0,if_pos (.inr ay)])
 have I4:N.1=f.2.2.2.2.2.1:=I4;refine aq.aE (cks:=nv) (x:=kU p.aY.1.e f.2.2.2.2.2.2.1) ((f9.trans f10).af b8) ?_;exact bG { bH with dc:=true,bh:=(p.aY.1,f.2.2.2.2.2.2.1) } rfl sM su (by rw[e0,if_neg (fun t=>t.elim (fun q=>q j6) (fun q=>q I4))])
theorem oA.ev {w:World}{g:Nat}{f:cc}(h:oA w g f){K:Cs gH->Prop}(k:K f.m.e):aq gH ((⟨g,0,none⟩:Addr).add 7) w K:=by
 rw[dP];refine⟨f.m.e,uB h _ _ 0 fun j hj=>?_,k⟩
 match j,hj with
 | 0,_=>rfl
 | 1,_=>rfl
 | 2,_=>rfl
 | 3,_=>rfl
 | 4,_=>rfl
 | 5,_=>rfl
 | 6,_=>rfl
 | 7,_=>rfl
theorem oA.kind {w:World}{g:Nat}{f:cc}(h:oA w g f){K:Int->Prop}(k:K f.m.kind):ae (.int .i64) (((⟨g,0,none⟩:Addr).add 7).add 0) w K:=by
 rw[dP,dP];exact ae.of h (x:=f.m.kind) rfl k
theorem PN (r k:Int)(h0:0<=k)(h1:k<=64):(IntKind.i64.wrap ((BitVec.ofInt 64 (Int.fdiv r (2 ^ (min (Int.toNat k) 64))) &&& BitVec.ofInt 64 1).toNat:Int)==1)=((r / 2 ^ k.toNat) % 2==1):=by
 rw[show min (Int.toNat k) 64=k.toNat by omega,Int.fdiv_eq_ediv_of_nonneg _ (Int.le_of_lt (Int.pow_pos (by decide)))];generalize r / 2 ^ k.toNat=a;have e1:(BitVec.ofInt 64 1).toNat=1:=rfl;rw[BitVec.toNat_and,e1,Nat.and_one_is_mod,BitVec.toNat_ofInt];have e2:(a % ((2 ^ 64:Nat):Int)).toNat % 2=(a % 2).toNat:=by omega
 rw[e2];have:0<=a % 2/\a % 2<2:=by omega
 rw[wI (by omega) (by omega)];rw[Bool.eq_iff_iff];simp only[beq_iff_eq];omega
theorem Dx (x:eW):(ji x).all bI=true:=by
 show(_&&(_&&(_&&(_&&(_&&(_&&(_&&(bI x.1.t.v&&(_&&true)))))))))=true;rw[Tm.bU];rfl
theorem aaN {w:World}{F:Nat->Prop}{b:Nat}{p:PeerM}(h:cU w F b p)(ho:cO p)(ht:TabW w)(f:cc)(hm:dB f.m)(h0:0<=f.2.2.2.2.1)(j9:0<=f.m.kind)(rX:f.m.kind<=64):
  Ret Tryz.prog 114 #[.pointer (some ⟨b,0,none⟩),ly f.f] w fun r w'=>lD w.heap.size w' r (p.lR f)/\Fr none1 w w':=by
 have hR:=h;obtain⟨c,l,Fc,Fl,h⟩:=h;have U:=ho.kb;have mi:=ho.num;refine c114 _ f.f w _ ?_;unfold C114;refine ak.of fun g1 w1 df au f1 _=>ak.of fun g3 w2 qe aU f2 _=>aD.of fun w4 _ Dy=>aV.all ?_;have f14:=(f1.trans f2).trans Dy;have h4:=h.af f14;have a4:oA w4 g1 f:=(f2.trans Dy).af au;have b4:=Dy.af aU;have bl:=bQ h.aE;have l1:=bQ au;have l3:=bQ aU;have z1:=f1.size;have mN:w.heap.size<=g3:=by omega
 have bG:∀ {wx:World} (A:bV),A.bJ=[]->Fr none1 w wx->wx.heap[g3]? = w4.heap[g3]? -> p.lR f=A->ar ⟨g3,0,none⟩ (fJ A (none,0,0)) wx fun w1=>aq dW ⟨g3,0,none⟩ w1 fun x=>(lD w.heap.size w1 (.agg (Cs.vals dW x).toArray) (p.lR f)/\Fr none1 w w1):=
  fun A hA fx hb e=>lX (by rw[hb];exact b4) rfl mN fx A (none,0,0) (qz hA) rz ry e
 refine av.all (ae.ah a4 (x:=f.2.2.2.2.1) rfl (av.all (h4.bX U 0 (ck:=.int .i64) (x:=p.side) rfl ?_)));refine ab.of (AS f.2.2.2.2.1 h0 w4) ?_;rintro _ _ ⟨rfl,rfl⟩;refine⟨_,rfl,ai.of (Fr.refl _ _) (aa.eq (fun he=>?_) (fun he=>?_))⟩
 ·have he:PeerM.owner f.2.2.2.2.1=p.side:=he
  exact bG { bH with bG:=true } rfl f14 rfl (by unfold PeerM.lR;rw[if_pos (.inl he)])
 have he:PeerM.owner f.2.2.2.2.1≠p.side:=he;refine av.all (ae.ah a4 (x:=f.2.2.2.2.1) rfl (av.all (ae.ah a4 (x:=f.2.2.2.2.2.1) rfl ?_)));refine ab.of (IX (hR.af f14) ho _ _) ?_;rintro _ _ ⟨rfl,rfl⟩;refine⟨_,rfl,?_⟩
 try refine ai.of (Fr.refl _ _) ?_
 refine aa.by (fun hs=>?_) (fun hs=>?_)
 ·exact bG { bH with bG:=true } rfl f14 rfl (by unfold PeerM.lR;rw[if_pos (.inr hs)])
 have c1:¬ (PeerM.owner f.2.2.2.2.1=p.side\/p.qj f.2.2.2.2.1 f.2.2.2.2.2.1=true):=fun t=>t.elim (fun q=>he q) (fun q=>by have hs:p.qj f.2.2.2.2.1 f.2.2.2.2.2.1=false:=hs;rw[hs] at q;cases q);refine aD.of fun w5 rq f5=>aV.all ?_;have f15:=f14.trans f5;have h5:=h4.af f5;have a5:=a4.af f5;refine av.all (ae.ah a5 (x:=f.2.2.2.2.1) rfl (av.all (h5.bX U 1 (ck:=.ptr) (x:=some ⟨c,0,none⟩) rfl ?_)));refine ab.of (oz U h5.ch) ?_;rintro _ _ ⟨rfl,rfl⟩;refine⟨_,rfl,?_⟩
 try refine ai.of (Fr.refl _ _) ?_
 have AU:∀ {wx:World},Fr none1 w4 wx->wx.heap[g3]? = w4.heap[g3]? := fun fx=>by rw[b4];exact fx.af b4
 have z4:=f14.size;have z24:=Dy.size;refine aa.dec (fun aS=>?_) (fun aS=>?_)
 ·have aS:f.2.2.2.2.1<p.len:=aS
  refine ae.ah a5 (x:=f.2.2.2.2.1) rfl ?_;refine ab.of (aaF (hR.af f15) ho f.2.2.2.2.1 h0 aS) ?_;rintro _ w6 ⟨s,rfl,MF,f6,sf⟩;refine⟨s,rfl,?_⟩;have z5:=f5.size;exact lX (by rw[AU (f5.trans f6)];exact b4) rfl mN (f15.trans f6) { bH with bJ:=[PeerM.fr 2 f.2.2.2.2.1 (p.at_ (f.2.2.2.2.1+1)).1 (p.es.getD f.2.2.2.2.1.toNat (bb,false)).2 bb] } s MF (fun k U=>by have:=sf k U;omega) (fun k U=>by have:=sf k U;omega) (by unfold PeerM.lR;rw[if_neg c1,if_pos aS])
 have c2:¬ f.2.2.2.2.1<p.len:=aS;refine aD.of fun w6 hw6 f6=>aV.all ?_;have f46:=f5.trans f6;have f16:=f14.trans f46;have h6:=h5.af f6;have a6:=a5.af f6;refine av.all (ae.ah a6 (x:=f.2.2.2.2.1) rfl (av.all (h6.bX U 1 (ck:=.ptr) (x:=some ⟨c,0,none⟩) rfl ?_)));refine ab.of (oz U h6.ch) ?_;rintro _ _ ⟨rfl,rfl⟩;refine⟨_,rfl,?_⟩
 try refine ai.of (Fr.refl _ _) ?_
 refine aa.dec (fun oe=>?_) (fun oe=>?_)
 ·have oe:p.len<f.2.2.2.2.1:=oe
  exact bG bH rfl f16 (AU f46) (by unfold PeerM.lR;rw[if_neg c1,if_neg c2,if_pos (.inl oe)])
 have oe:¬ p.len<f.2.2.2.2.1:=oe;refine ab.of (IW (hR.af f16) U) ?_;rintro _ _ ⟨rfl,rfl⟩;refine⟨_,rfl,?_⟩
 try refine ai.of (Fr.refl _ _) ?_
 refine aa.by (fun hf=>?_) (fun hf=>?_)
 ·exact bG bH rfl f16 (AU f46) (by unfold PeerM.lR;rw[if_neg c1,if_neg c2,if_pos (.inr hf)])
 have c3:¬ (p.len<f.2.2.2.2.1\/p.full=true):=fun t=>t.elim oe (fun q=>by have hf:p.full=false:=hf;rw[hf] at q;cases q);have e0:p.lR f=if(fm p.kb p.head (f.m,p.fX f.m)).2≠0 then bH else{ bH with dc:=true,bh:=(f.m,p.fX f.m),bJ:=[PeerM.fr 2 f.2.2.2.2.1 (fm p.kb p.head (f.m,p.fX f.m)).1 (p.fX f.m) bb] }:=by
  conv=>lhs;unfold PeerM.lR
  rw[if_neg c1,if_neg c2,if_neg c3]
 have z6:=f46.size;refine cq.of (fun st w'=>∃ g:Nat,st.1=some ⟨g,0,none⟩/\w'.heap[g]? = some (.cells (ji (f.m,p.fX f.m)).toArray 110 (0,0))/\Fr none1 w6 w'/\w6.heap.size<=g) ?_ ?_
 ·refine aD.of fun w7 hw7 f7=>aV.of (fun k=>k=b\/k=g1) ?_
  have f17:=f16.trans f7;have h7:=h6.af f7;have a7:=a6.af f7;have z7:=f7.size;have AV:=ho.side;have PO:IntKind.i64.wrap (1 - p.side)=1 - p.side:=wI (by omega) (by omega);refine⟨.inr rfl,a7.ev ⟨.inl rfl,h7.bX U 2 (ck:=.ptr) (x:=some ⟨l,0,none⟩) rfl ⟨.inr rfl,a7.ev ⟨.inl rfl,h7.bX U 0 (ck:=.int .i64) (x:=p.side) rfl ⟨?a,?b⟩⟩⟩⟩⟩
  case' a=>
   rw[PO];refine ab.of (Dm h7.ld ho.cd f.m hm.2.2.2.2 (ht.af f17) (1 - p.side)) ?_;rintro _ w8 ⟨rfl,f8⟩;have z8:=f8.size;have h8:=h7.af f8;have a8:=a7.af f8;refine⟨_,rfl,ai.of f8 (aa.ne (fun ay=>?_) (fun he=>?_))⟩
   ·have ay:jf p.cd f.m (1 - p.side)≠0:=ay
    have er:p.fX f.m=true:=by unfold PeerM.fX;rw[show(jf p.cd f.m (1 - p.side) != 0)=true by simpa using ay];rfl
    refine ak.of fun g w9 hg mB f9 _=>ai.of f9 (ar.aE (vs:=ji (f.m,true)) mB rfl (Dx _) fun aG nC f10 sr=>ai.on f10 (fun k U q=>by have:k=g:=q;rcases U with rfl | rfl<;>omega) ?_)
    exact⟨g,rfl,by rw[er];exact nC,((f7.trans f8).trans f9).fresh f10 (by omega),by omega⟩
   ·have he:jf p.cd f.m (1 - p.side)=0:=he
    have er:p.fX f.m=((p.refused / 2 ^ f.m.kind.toNat) % 2==1):=by unfold PeerM.fX;rw[he];rfl
    refine⟨.inl rfl,h8.bX U 23 (ck:=.int .i64) (x:=p.refused) rfl ⟨.inr rfl,a8.kind ⟨j9,?_⟩⟩⟩;rw[PN _ _ j9 rX,<- er];refine ak.of fun g w9 hg mB f9 _=>ai.of f9 (ar.aE (vs:=ji (f.m,p.fX f.m)) mB rfl (Dx _) fun aG nC f10 sr=>ai.on f10 (fun k U q=>by have:k=g:=q;rcases U with rfl | rfl<;>omega) ?_)
    exact⟨g,rfl,nC,((f7.trans f8).trans f9).fresh f10 (by omega),by omega⟩
  case' b=>
   rw[PO];refine ak.of fun g w8 hg j2 f8 _=>ai.of f8 ?_;refine ab.of (Dm (h7.af f8).ld ho.cd f.m hm.2.2.2.2 (ht.af (f17.trans f8)) (1 - p.side)) ?_;rintro _ w9 ⟨rfl,f9⟩;have h9:=(h7.af f8).af f9;have a9:=(a7.af f8).af f9;refine⟨_,rfl,ai.of f9 (aa.ne (fun ay=>?_) (fun he=>?_))⟩
   ·have ay:jf p.cd f.m (1 - p.side)≠0:=ay
    have er:p.fX f.m=true:=by unfold PeerM.fX;rw[show(jf p.cd f.m (1 - p.side) != 0)=true by simpa using ay];rfl
    refine ar.aE (vs:=ji (f.m,true)) (f9.af j2) rfl (Dx _) fun aG nC f10 sr=>ai.on f10 (fun k U q=>by have:k=g:=q;rcases U with rfl | rfl<;>omega) ?_
    exact⟨g,rfl,by rw[er];exact nC,((f7.trans f8).trans f9).fresh f10 (by omega),by omega⟩
   ·have he:jf p.cd f.m (1 - p.side)=0:=he
    have er:p.fX f.m=((p.refused / 2 ^ f.m.kind.toNat) % 2==1):=by unfold PeerM.fX;rw[he];rfl
    refine⟨.inl rfl,h9.bX U 23 (ck:=.int .i64) (x:=p.refused) rfl ⟨.inr rfl,a9.kind ⟨j9,?_⟩⟩⟩;rw[PN _ _ j9 rX,<- er];refine ar.aE (vs:=ji (f.m,p.fX f.m)) (f9.af j2) rfl (Dx _) fun aG nC f10 sr=>ai.on f10 (fun k U q=>by have:k=g:=q;rcases U with rfl | rfl<;>omega) ?_
    exact⟨g,rfl,nC,((f7.trans f8).trans f9).fresh f10 (by omega),by omega⟩
 rintro _ ⟨st,_⟩ w7 ⟨g,dz,hbg,f7,gl⟩;dsimp only at dz ⊢;subst dz;refine aD.of fun w8 hw8 f8=>aV.all ?_;have f68:=f7.trans f8;have f18:=f16.trans f68;have h8:=h6.af f68;have a8:=a6.af f68;have b8:=f8.af hbg;refine av.all (h8.key U (av.all (h8.bX U 1 (ck:=.ptr) (x:=some ⟨c,0,none⟩) rfl (av.all (aq.aE (cks:=nv) (x:=kU f.m.e (p.fX f.m)) b8 ?_)))));refine ab.of (De U h8.ch ho.hs (by omega)) ?_;rintro _ w9 ⟨rfl,f9⟩;refine⟨_,rfl,ai.of f9 ?_⟩;have AT:=ho.vB;refine ab.of (IH (x:=(f.m,p.fX f.m)) U AT.1 AT.2 hm (ht.af (f18.trans f9))) ?_;rintro _ aG ⟨rfl,f10⟩;have sM:=(f18.trans f9).trans f10;have I5:Fr none1 w4 aG:=((f46.trans f68).trans f9).trans f10;have pQ:=(a8.af f9).af f10;have su:=(f9.trans f10).af b8;generalize fm p.kb p.head (f.m,p.fX f.m)=N at *;refine⟨(N.1,N.2,()),rfl,?_⟩
 try refine ai.of f10 ?_
 refine aa.ne (fun ay=>?_) (fun j6=>?_)
 ·have ay:N.2≠0:=ay
  exact bG bH rfl sM (AU I5) (by rw[e0,if_pos ay])
 have j6:N.2=0:=j6;refine aq.aE (cks:=nv) (x:=kU f.m.e (p.fX f.m)) su (ae.ah pQ (x:=f.2.2.2.2.1) rfl (ae.ah su (x:=p.fX f.m) rfl ?_));obtain⟨s,aO,hr,aaO,_,f11,sf⟩:=mI (P:=Tryz.prog) (w:=aG) ye (dC (PeerM.fr 2 f.2.2.2.2.1 N.1 (p.fX f.m) bb).f) rfl (by decide);refine⟨s,aO,hr,?_⟩;have PQ:=I5.size;exact lX (by rw[AU (I5.trans f11)];exact b4) rfl mN (sM.trans f11) { bH with dc:=true,bh:=(f.m,p.fX f.m),bJ:=[PeerM.fr 2 f.2.2.2.2.1 N.1 (p.fX f.m) bb] } s (by rw[yd];exact aaO) (fun k U=>by have:=sf k U;omega) (fun k U=>by have:=sf k U;omega) (by rw[e0,if_neg (fun t=>t j6)])
theorem aaP {f:cc}(h:ny f=0):0<=f.2.2.2.2.1/\f.2.2.2.2.1<=2147483647:=by
 unfold ny kB at h;split at h
 ·cases h
 ·rename_i hh
  have hh:nx f.f=true:=by simpa using hh
  unfold nx at hh;simp only[Bool.and_eq_true] at hh;have:=hh.2.2.2;unfold iS at this;simp only[Bool.and_eq_true,decide_eq_true_eq] at this;exact this
theorem aaQ {f:cc}(h:ny f=0)(U:f.2.2.2.1=1):0<=f.m.kind/\f.m.kind<=64:=by
 unfold ny kB at h;split at h
 ·cases h
 split at h
 ·cases h
 rw[if_pos (show f.f.2.2.2.1=1 from U)] at h;unfold mm at h;split at h
 ·cases h
 rename_i hf;have hf:fS f.m.kind≠[63]:=hf;unfold fS at hf
 by_cases h1:f.m.kind=1
 ·omega
 by_cases h2:f.m.kind=2
 ·omega
 by_cases h3:f.m.kind=3
 ·omega
 by_cases h4:f.m.kind=4
 ·omega
 by_cases h5:f.m.kind=5
 ·omega
 by_cases h6:f.m.kind=6
 ·omega
 rw[if_neg h1,if_neg h2,if_neg h3,if_neg h4,if_neg h5,if_neg h6] at hf;exact absurd rfl hf
theorem aaR {w:World}{F:Nat->Prop}{b:Nat}{p:PeerM}(h:cU w F b p)(ho:cO p)(ht:TabW w)(f:cc)(hm:dB f.m):
  Ret Tryz.prog 56 #[.pointer (some ⟨b,0,none⟩),ly f.f] w fun r w'=>lD w.heap.size w' r (p.take f)/\Fr none1 w w':=by
 have hR:=h;obtain⟨c,l,Fc,Fl,h⟩:=h;have U:=ho.kb;refine c56 _ f.f w _ ?_;unfold C56;refine ak.of fun g1 w1 df au f1 _=>ak.of fun g3 w2 qe aU f2 _=>aD.of fun w3 _ f3=>aV.all ?_;have f13:=(f1.trans f2).trans f3;have a3:oA w3 g1 f:=(f2.trans f3).af au;have b3:=f3.af aU;have l3:=bQ b3;have z1:=f1.size;have z13:=f13.size;have mN:w.heap.size<=g3:=by omega
 refine av.all (aq.aE (cks:=FK) (x:=f.f) a3 ?_);refine ab.of (Yv f hm.2.2.2.2 w3 (ht.af f13)) ?_;rintro _ w4 ⟨rfl,f4⟩;have f14:=f13.trans f4;have h4:=h.af f14;have a4:=a3.af f4;have b4:=f4.af b3;have z4:=f4.size;have bG:∀ (A:bV),A.bJ=[]->p.take f=A->ar ⟨g3,0,none⟩ (fJ A (none,0,0)) w4 fun w1=>aq dW ⟨g3,0,none⟩ w1 fun x=>(lD w.heap.size w1 (.agg (Cs.vals dW x).toArray) (p.take f)/\Fr none1 w w1):=
  fun A hA e=>lX b4 rfl mN f14 A (none,0,0) (qz hA) rz ry e
 have bJ:∀ {fn:FuncId} (A:bV),Ret Tryz.prog fn #[.pointer (some ⟨b,0,none⟩),ly f.f] w4 (fun r w'=>lD w4.heap.size w' r A/\Fr none1 w4 w')->p.take f=A ->
   aq FK ⟨g1,0,none⟩ w4 fun(aX:Cs FK)=>ab Tryz.prog fn #[.pointer (some ⟨b,0,none⟩),.agg (Cs.vals FK aX).toArray] w4 (.v (.agg dW)) fun(br:Cs dW) bx=>ar ⟨g3,0,none⟩ (Cs.vals dW br) bx fun w1=>aq dW ⟨g3,0,none⟩ w1 fun x=>(lD w.heap.size w1 (.agg (Cs.vals dW x).toArray) (p.take f)/\Fr none1 w w1):=by
  intro fn A hr e;refine aq.aE (cks:=FK) (x:=f.f) a4 (ab.of hr ?_);rintro _ w5 ⟨⟨s,rfl,hs,sf⟩,f5⟩;exact⟨lW A s,rfl,lX (f5.af b4) rfl mN (f14.trans f5) A s hs (fun k U=>by have:=sf k U;omega) (fun k U=>by have:=sf k U;omega) e⟩
 refine⟨_,rfl,?_⟩
 try refine ai.of f4 ?_
 refine aa.ne (fun ay=>?_) (fun he=>?_)
 ·have ay:ny f≠0:=ay
  exact bG bH rfl (by unfold PeerM.take;rw[if_pos (.inl ay)])
 have he:ny f=0:=he;refine av.all (ae.ah a4 (x:=f.1) rfl (av.all (h4.bX U 0 (ck:=.int .i64) (x:=p.side) rfl (aa.eq (fun hs=>?_) (fun hs=>?_)))))
 ·have hs:f.1=p.side:=hs
  exact bG bH rfl (by unfold PeerM.take;rw[if_pos (.inr hs)])
 have hs:f.1≠p.side:=hs;have c1:¬ (ny f≠0\/f.1=p.side):=fun t=>t.elim (fun q=>q he) hs;have jK:=aaP he;refine ae.ah a4 (x:=f.2.2.2.1) rfl (aa.eq (fun h1=>?_) (fun h1=>?_))
 ·have h1:f.2.2.2.1=4:=h1
  exact bJ (p.lz f) (aaL (hR.af f14) ho f) (by unfold PeerM.take;rw[if_neg c1,if_pos h1])
 have h1:f.2.2.2.1≠4:=h1;refine h4.bX U 22 (ck:=.bool) (x:=p.bG) rfl (aa.by (fun hq=>?_) (fun hq=>?_))
 ·have hq:p.bG=true:=hq
  exact bG bH rfl (by unfold PeerM.take;rw[if_neg c1,if_neg h1,if_pos hq])
 have c3:¬ p.bG=true:=by have hq:p.bG=false:=hq;rw[hq];simp
 refine ae.ah a4 (x:=f.2.2.2.1) rfl (aa.eq (fun h2=>?_) (fun h2=>?_))
 ·have h2:f.2.2.2.1=3:=h2
  exact bJ (p.want f) (aaB (hR.af f14) ho f) (by unfold PeerM.take;rw[if_neg c1,if_neg h1,if_neg c3,if_pos h2])
 have h2:f.2.2.2.1≠3:=h2;refine ae.ah a4 (x:=f.2.2.2.1) rfl (aa.eq (fun h3=>?_) (fun h3=>?_))
 ·have h3:f.2.2.2.1=1:=h3
  have PR:=aaQ he h3;exact bJ (p.lR f) (aaN (hR.af f14) ho (ht.af f14) f hm jK.1 PR.1 PR.2) (by unfold PeerM.take;rw[if_neg c1,if_neg h1,if_neg c3,if_neg h2,if_pos h3])
 have h3:f.2.2.2.1≠1:=h3;exact bJ (p.om f) (aaM (hR.af f14) ho (ht.af f14) f jK.1 (by omega)) (by unfold PeerM.take;rw[if_neg c1,if_neg h1,if_neg c3,if_neg h2,if_neg h3])
theorem rA (p:PeerM)(c l:Nat):ix p c l=[.int .i64 p.side,.pointer (some ⟨c,0,none⟩),.pointer (some ⟨l,0,none⟩),.int .i64 p.off.1.1,.string (str p.off.1.2.1),.string (str p.off.1.2.2.1),.string (str p.off.1.2.2.2.1),.string (str p.off.1.2.2.2.2.1),.int .i64 p.off.1.2.2.2.2.2.1,.int .i64 p.off.1.2.2.2.2.2.2.1,p.off.1.2.2.2.2.2.2.2.v,.bool p.off.2,.int .i64 p.aY.1.1,.string (str p.aY.1.2.1),.string (str p.aY.1.2.2.1),.string (str p.aY.1.2.2.2.1),.string (str p.aY.1.2.2.2.2.1),.int .i64 p.aY.1.2.2.2.2.2.1,.int .i64 p.aY.1.2.2.2.2.2.2.1,p.aY.1.2.2.2.2.2.2.2.v,.bool p.aY.2,.bool p.wanted,.bool p.bG,.int .i64 p.refused]:=rfl
theorem rB {w:World}{b:Nat}{kb:List UInt8}(U:kb.length=16){t:List Value}{T:TypeId}(hb:w.heap[b]? = some (.cells (cT kb++t).toArray T (0,0)))(i:Nat)(hi:i<t.length){v:Value}(h1:bI v=true){K:World->Prop}
  (k:∀ w1,w1.heap[b]? = some (.cells (cT kb++t.set i v).toArray T (0,0))->Fr (only b) w w1->w1.heap.size=w.heap.size->K w1):aA ⟨b,16+i,none⟩ v w K:=by
 have hl:=kD (kb:=kb);refine aA.of hb (by simp[hl,U];omega) h1 fun w1 au f1 s1=>k w1 ?_ f1 s1;rw[au]
 congr 2
 apply Array.ext';rw[Array.toList_setIfInBounds];show(cT kb++t).set (16+i) v=_;rw[List.set_append_right _ _ (by omega),hl,U]
 congr 2;omega
theorem Dz {w:World}{b:Nat}{kb:List UInt8}(U:kb.length=16){t:List Value}{T:TypeId}(hb:w.heap[b]? = some (.cells (cT kb++t).toArray T (0,0)))(i:Nat){vs:List Value}(hi:i+vs.length<=t.length)(h1:vs.all bI=true){K:World->Prop}
  (k:∀ w1,w1.heap[b]? = some (.cells (cT kb++rv t i vs).toArray T (0,0))->Fr (only b) w w1->w1.heap.size=w.heap.size->K w1):ar ⟨b,16+i,none⟩ vs w K:=by
 have hl:=kD (kb:=kb);refine ar.at hb (by simp[hl,U];omega) h1 fun w1 au f1 s1=>k w1 ?_ f1 s1;rw[au];have:=IU vs t (cT kb) i;rw[hl,U] at this;rw[this]
theorem aaS (p:PeerM)(c l c' l':Nat)(es:List eW)(hs:List Int)(cd:cG):((rv (((ix p c l).set 1 (.pointer (some ⟨c',0,none⟩))).set 2 (.pointer (some ⟨l',0,none⟩))) 12 [.int .i64 0,.string (⟨#[]⟩:ByteArray),.string (⟨#[]⟩:ByteArray),.string (⟨#[]⟩:ByteArray),.string (⟨#[]⟩:ByteArray),.int .i64 0,.int .i64 0,.nilIface,.bool false]).set 21 (.bool false))=ix { p with es:=es,hs:=hs,cd:=cd,aY:=(bb,false),wanted:=false } c' l':=by
 rw[rA,rA];rfl
theorem aaT {w:World}{F:Nat->Prop}{b:Nat}{p:PeerM}(h:cU w F b p)(hF:∀ k,F k->k<w.heap.size)(ho:cO p)(ht:TabW w)(x:eW)(hx:dB x.1):
  Ret Tryz.prog 148 #[.pointer (some ⟨b,0,none⟩),.agg (ji x).toArray] w fun r w'=>r=.int .i64 (p.entry x).2/\cU w' (fun k=>F k\/cC w w' k) b (p.entry x).1/\Fr (only b) w w':=by
 have hR:=h;obtain⟨c,l,Fc,Fl,h⟩:=h;have U:=ho.kb;have mi:=ho.num;have hhs:=ho.hs;have hld:=ho.cd.num;refine c148 _ (kU x.1.e x.2) w _ ?_;unfold C148;refine ak.of fun g1 w1 df au f1 _=>aD.of fun w2 _ f2=>aV.all ?_;have f12:=f1.trans f2;have h2:=h.af f12;have bl:=bQ h.aE;refine av.all (h2.bX U 1 (ck:=.ptr) (x:=some ⟨c,0,none⟩) rfl (av.all (h2.bX U 2 (ck:=.ptr) (x:=some ⟨l,0,none⟩) rfl ?_)));refine ab.of (IG U h2.ch (by omega) (by omega)) ?_;rintro _ w3 ⟨c',rfl,qH,f3⟩;refine⟨some ⟨c',0,none⟩,rfl,ai.of f3 ?_⟩;have h3:=h2.af f3;refine ab.of (Di h3.ld (by omega)) ?_;rintro _ w4 ⟨l',rfl,vh,f4⟩;refine⟨some ⟨l',0,none⟩,rfl,?_⟩
 try refine ai.of f4 ?_
 have DA:=qH.af f4;refine ab.of (oz U DA) ?_;rintro _ _ ⟨rfl,rfl⟩;refine⟨_,rfl,?_⟩;refine ab.of (AS (p.es.length:Int) (by omega) w4) ?_;rintro _ _ ⟨rfl,rfl⟩;refine⟨_,rfl,?_⟩;have f14:=(f12.trans f3).trans f4;have z1:=f12.size;have z3:=f3.size;have z4:=f4.size;have PS:w4.heap[g1]? = some (.cells (ji x).toArray 110 (0,0)):=((f2.trans f3).trans f4).af au;refine aq.aE (cks:=nv) (x:=kU x.1.e x.2) PS ?_;refine ab.of (aay U DA (fun k U=>by have:=U.2;omega) hhs (by omega) ho.lz hx (ht.af f14)) ?_;have eA:uc p.kb p.es p.hs x=if 64<=p.es.length then 5 else(fm p.kb p.head x).2:=rfl;have e0:p.entry x=if 64<=p.es.length then(p,5) else if(fm p.kb p.head x).2≠0 then(p,(fm p.kb p.head x).2) else
   if x.2=false/\(iG p.cd x.1 (PeerM.owner p.len)).2≠0 then(p,(iG p.cd x.1 (PeerM.owner p.len)).2) else
   ({ p with es:=p.es++[x],hs:=p.hs++[(fm p.kb p.head x).1],cd:=if x.2=true then p.cd else(iG p.cd x.1 (PeerM.owner p.len)).1,aY:=(bb,false),wanted:=false },0):=rfl
 rintro _ w5 ⟨rfl,yg,f5⟩;have qO:=qH.mem;have aaU:uc p.kb p.es p.hs x=0->jz w5 (fun k=>(w2.heap.size<=k/\k<w3.heap.size)\/cC w4 w5 k) c' p.kb (p.es++[x]) (p.hs++[(fm p.kb p.head x).1]):=yg;have z5:=f5.size;have f15:Fr none1 w w5:=f14.comp f5 fun k U q=>by have:k=c':=q;have:=qO.1;omega
 have same:∀ {w':World},Fr none1 w w'->cU w' (fun k=>F k\/cC w w' k) b p/\Fr (only b) w w':=fun f=>⟨(hR.af f).mono fun k U=>.inl U,f.mono fun _ _ t=>t.elim⟩;refine⟨_,rfl,aa.ne (fun ay=>?_) (fun he=>?_)⟩
 ·have ay:uc p.kb p.es p.hs x≠0:=ay
  have e:p.entry x=(p,uc p.kb p.es p.hs x):=by
   rw[e0,eA];rw[eA] at ay;split
   ·rfl
   ·rename_i Ap
    rw[if_neg Ap] at ay;rw[if_pos ay]
  rw[e];exact⟨rfl,same f15⟩
 have he:uc p.kb p.es p.hs x=0:=he;have yg:=aaU he;rw[eA] at he;have PT:¬ 64<=p.es.length:=fun t=>by rw[if_pos t] at he;cases he
 rw[if_neg PT] at he;rw[if_neg PT,if_neg (fun t=>t he)] at e0;have g1c:g1≠c':=by have:=qO.1;have:=bQ (f2.af au);omega
 have Ad:=f5.ag PS g1c;have DB:=vh.ag f5 fun k U q=>by have:k=c':=q;have:=qO.2;have:=U.1;omega
 have h5:=h.af f15
 -- the end, alike in both
 have fin:∀ {wx:World} (cd:cG) {Fx Gx:Nat->Prop},Fr none1 w wx->jz wx Fx c' p.kb (p.es++[x]) (p.hs++[(fm p.kb p.head x).1])->dZ wx Gx l' cd->(∀ k,Fx k->cC w wx k)->(∀ k,Gx k->cC w wx k) ->
   p.entry x=({ p with es:=p.es++[x],hs:=p.hs++[(fm p.kb p.head x).1],cd:=cd,aY:=(bb,false),wanted:=false },0) ->
   aA ((⟨b,0,none⟩:Addr).add 17) (.pointer (some ⟨c',0,none⟩)) wx fun bN=>aA ((⟨b,0,none⟩:Addr).add 18) (.pointer (some ⟨l',0,none⟩)) bN fun cV=>ar ((⟨b,0,none⟩:Addr).add 28) [.int .i64 0,.string (⟨#[]⟩:ByteArray),.string (⟨#[]⟩:ByteArray),.string (⟨#[]⟩:ByteArray),.string (⟨#[]⟩:ByteArray),.int .i64 0,.int .i64 0,.nilIface,.bool false] cV fun cm=>aA ((⟨b,0,none⟩:Addr).add 37) (.bool false) cm fun dk=>
    (Value.int .i64 0=.int .i64 (p.entry x).2/\cU dk (fun k=>F k\/cC w dk k) b (p.entry x).1/\Fr (only b) w dk):=by
  intro wx cd Fx Gx fx hcx hlx PU PV e;have hx:=h.af fx;rw[e];refine rB U hx.aE 1 (by rw[qy];decide) rfl fun wa ha fa sa=>?_;refine rB U ha 2 (by simp[qy]) rfl fun wb hb fb sb=>?_;refine Dz U hb 12 (by simp[qy]) rfl fun wc hc fc sc=>?_;refine rB U hc 21 (by simp[rv,qy]) rfl fun wd hd fd sd=>?_;rw[aaS p c l c' l' (p.es++[x]) (p.hs++[(fm p.kb p.head x).1]) cd] at hd;have ff:=((fa.trans fb).trans fc).trans fd;have zx:=fx.size;refine⟨rfl,⟨c',l',Fx,Gx,hd,hcx.ag ff (fun k U q=>by have:=(PU k U).1;have:k=b:=q;omega),hlx.ag ff (fun k U q=>by have:=(PV k U).1;have:k=b:=q;omega),fun k U=>?_,fun k U=>?_,.inl h.mem⟩,fx.eL ff⟩
  ·have q:=PU k U;exact⟨.inr ⟨q.1,by have:=q.2;omega⟩,by have:=q.1;omega⟩
  ·have q:=PV k U;exact⟨.inr ⟨q.1,by have:=q.2;omega⟩,by have:=q.1;omega⟩
 refine ae.ah Ad (x:=x.2) rfl (aa.not (aa.by (fun hr=>?_) (fun hr=>?_)))
 ·have hr:x.2=true:=hr
  rw[if_neg (by rw[hr];simp),if_pos hr] at e0;exact fin p.cd f15 yg DB (fun k U=>by rcases U with q | q<;>exact⟨by have:=q.1;omega,by have:=q.2;omega⟩) (fun k U=>⟨by have:=U.1;omega,by have:=U.2;omega⟩) e0
 have hr:x.2=false:=hr;have xF:∀ {K:Cs gH->Prop},K x.1.e->aq gH ((⟨g1,0,none⟩:Addr).add 0) w5 K:=fun k=>by
  rw[dP];refine⟨x.1.e,nP Ad _ 0 fun j hj=>?_,k⟩
  match j,hj with
  | 0,_=>rfl
  | 1,_=>rfl
  | 2,_=>rfl
  | 3,_=>rfl
  | 4,_=>rfl
  | 5,_=>rfl
  | 6,_=>rfl
  | 7,_=>rfl
 refine xF ?_;refine ab.of (aav DB (fun k U=>by have:=U.2;omega) ho.cd x.1 hx.2.2.2.2 (ht.af f15) (PeerM.owner p.len)) ?_;rintro _ w6 ⟨rfl,hl6,f6⟩;have hlm:=vh.mem;have z6:=f6.size;have f16:Fr none1 w w6:=f15.comp f6 fun k U q=>by have:k=l':=q;have:=hlm.1;omega
 refine⟨_,rfl,aa.ne (fun ay=>?_) (fun j6=>?_)⟩
 ·have ay:(iG p.cd x.1 (PeerM.owner p.len)).2≠0:=ay
  rw[if_pos ⟨hr,ay⟩] at e0;rw[e0];exact⟨rfl,same f16⟩
 have j6:(iG p.cd x.1 (PeerM.owner p.len)).2=0:=j6;rw[if_neg (fun t=>t.2 j6),if_neg (by rw[hr];simp)] at e0;exact fin _ f16 (yg.ag f6 fun k U q=>by have:k=l':=q;have:=hlm.1;have:=hlm.2;rcases U with t | t<;>(have:=t.1;have:=t.2;omega)) hl6 (fun k U=>by rcases U with q | q<;>exact⟨by have:=q.1;omega,by have:=q.2;omega⟩) (fun k U=>by rcases U with q | q<;>exact⟨by have:=q.1;omega,by have:=q.2;omega⟩) e0
theorem PW (p:PeerM)(c l:Nat)(m:aT)(d:Bool):rv (ix p c l) 3 [.int .i64 m.e.1,.string m.e.2.1,.string m.e.2.2.1,.string m.e.2.2.2.1,.string m.e.2.2.2.2.1,.int .i64 m.e.2.2.2.2.2.1,.int .i64 m.e.2.2.2.2.2.2.1,m.e.2.2.2.2.2.2.2.1,.bool d]=ix { p with off:=(m,d) } c l:=by
 rw[rA,rA];rfl
theorem aaV (p:PeerM)(c l:Nat)(m:aT)(d:Bool):rv (ix p c l) 12 [.int .i64 m.e.1,.string m.e.2.1,.string m.e.2.2.1,.string m.e.2.2.2.1,.string m.e.2.2.2.2.1,.int .i64 m.e.2.2.2.2.2.1,.int .i64 m.e.2.2.2.2.2.2.1,m.e.2.2.2.2.2.2.2.1,.bool d]=ix { p with aY:=(m,d) } c l:=by
 rw[rA,rA];rfl
theorem aaW (p:PeerM)(c l:Nat)(d:Bool):(ix p c l).set 21 (.bool d)=ix { p with wanted:=d } c l:=by rw[rA,rA];rfl
theorem aaX (p:PeerM)(c l:Nat)(d:Bool):(ix p c l).set 22 (.bool d)=ix { p with bG:=d } c l:=by rw[rA,rA];rfl
theorem PX (m:aT)(d:Bool):[Value.int .i64 m.e.1,.string m.e.2.1,.string m.e.2.2.1,.string m.e.2.2.2.1,.string m.e.2.2.2.2.1,.int .i64 m.e.2.2.2.2.2.1,.int .i64 m.e.2.2.2.2.2.2.1,m.e.2.2.2.2.2.2.2.1,.bool d].all bI=true:=by
 show(_&&(_&&(_&&(_&&(_&&(_&&(_&&(bI m.t.v&&(_&&true)))))))))=true;rw[Tm.bU];rfl
theorem lg.put {w w':World}{F:Nat->Prop}{b:Nat}{p q:PeerM}{c l:Nat}{Fc Fl:Nat->Prop}(h:lg w F b p c l Fc Fl)(f:Fr (only b) w w')(hb:w'.heap[b]? = some (.cells (cT q.kb++ix q c l).toArray 138 (0,0)))(e1:q.kb=p.kb)(e2:q.es=p.es)(e3:q.hs=p.hs)(e4:q.cd=p.cd):lg w' F b q c l Fc Fl:=
 ⟨hb,by rw[e1,e2,e3];exact h.ch.ag f fun k U q=>(h.cf k U).2 q,by rw[e4];exact h.ld.ag f fun k U q=>(h.lf k U).2 q,h.cf,h.lf,h.mem⟩
theorem aaY {w:World}{F:Nat->Prop}{b:Nat}{p:PeerM}(h:cU w F b p)(ho:cO p)(ht:TabW w)(m:aT)(hm:aJ m.t<=1000000):
  Ret Tryz.prog 45 #[.pointer (some ⟨b,0,none⟩),gX m.e] w fun r w'=>r=.int .i64 (p.offer m).2/\cU w' F b (p.offer m).1/\Fr (only b) w w':=by
 have hR:=h;obtain⟨c,l,Fc,Fl,h⟩:=h;have U:=ho.kb;refine c45 _ m.e w _ ?_;unfold C45;refine ak.of fun g1 w1 df au f1 _=>?_;have e1:la w1 g1 m:=au;have h1:=h.af f1;have same:∀ {w':World},Fr none1 w w'->cU w' F b p/\Fr (only b) w w':=fun f=>⟨hR.af f,f.mono fun _ _ t=>t.elim⟩;refine h1.bX U 22 (ck:=.bool) (x:=p.bG) rfl (aa.by (fun hq=>?_) (fun hq=>?_))
 ·have hq:p.bG=true:=hq
  have e:p.offer m=(p,13):=by unfold PeerM.offer;rw[if_pos hq]
  rw[e];exact⟨rfl,same f1⟩
 have q1:¬ p.bG=true:=by have hq:p.bG=false:=hq;rw[hq];simp
 refine cq.of (fun st w'=>st.1=decide (p.off.2=true\/(p.aY.2=true/\p.aY.1.kind≠1))/\w1=w') ?_ ?_
 ·refine h1.bX U 11 (ck:=.bool) (x:=p.off.2) rfl (aa.by (fun hq=>⟨?_,rfl⟩) (fun hq=>?_))
  ·have hq:p.off.2=true:=hq
   rw[decide_eq_true (.inl hq)]
  have hq:p.off.2=false:=hq;refine h1.bX U 20 (ck:=.bool) (x:=p.aY.2) rfl (aa.by (fun hp=>h1.bX U 12 (ck:=.int .i64) (x:=p.aY.1.kind) rfl ⟨?_,rfl⟩) (fun hp=>⟨?_,rfl⟩))
  ·have hp:p.aY.2=true:=hp
   dsimp only
   by_cases h1:p.aY.1.kind=1
   ·rw[decide_eq_false (by rw[hq];simp[h1])];simpa using h1
   ·rw[decide_eq_true (.inr ⟨hp,h1⟩)];simpa using h1
  ·have hp:p.aY.2=false:=hp
   rw[decide_eq_false (by rw[hq,hp];simp)]
 rintro _ ⟨st,_⟩ _ ⟨dz,rfl⟩;dsimp only at dz ⊢;subst dz;refine aa.dec (fun hb=>?_) (fun hb=>?_)
 ·have e:p.offer m=(p,9):=by unfold PeerM.offer;rw[if_neg q1,if_pos hb]
  rw[e];exact⟨rfl,same f1⟩
 refine ab.of (IW (hR.af f1) U) ?_;rintro _ _ ⟨rfl,rfl⟩;refine⟨_,rfl,aa.by (fun hf=>?_) (fun hf=>?_)⟩
 ·have e:p.offer m=(p,5):=by unfold PeerM.offer;rw[if_neg q1,if_neg hb,if_pos hf]
  rw[e];exact⟨rfl,same f1⟩
 have q3:¬ p.full=true:=by have hf:p.full=false:=hf;rw[hf];simp
 refine aD.of fun w2 _ f2=>?_;have f12:=f1.trans f2;have h2:=h1.af f2;have e2:=e1.af f2;refine h2.bX U 2 (ck:=.ptr) (x:=some ⟨l,0,none⟩) rfl (aq.aE (cks:=gH) (x:=m.e) e2 (h2.bX U 0 (ck:=.int .i64) (x:=p.side) rfl ?_));refine ab.of (Dm h2.ld ho.cd m hm (ht.af f12) p.side) ?_;rintro _ w3 ⟨rfl,f3⟩;have f13:=f12.trans f3;have h3:=h2.af f3;refine⟨_,rfl,aa.ne (fun ay=>?_) (fun he=>?_)⟩
 ·have e:p.offer m=(p,jf p.cd m p.side):=by unfold PeerM.offer;rw[if_neg q1,if_neg hb,if_neg q3,if_pos ay]
  rw[e];exact⟨rfl,same f13⟩
 have e:p.offer m=({ p with off:=(m,true) },0):=by unfold PeerM.offer;rw[if_neg q1,if_neg hb,if_neg q3,if_neg (fun t=>t he)]
 rw[e];refine aq.aE (cks:=gH) (x:=m.e) (e2.af f3) ?_;refine Dz U h3.aE 3 (by rw[qy];show 3+9<=24;decide) (PX m true) fun w4 dw f4 s4=>?_;rw[PW p c l m true] at dw;exact⟨rfl,⟨c,l,Fc,Fl,h3.put (q:={ p with off:=(m,true) }) f4 dw rfl rfl rfl rfl⟩,f13.eL f4⟩
def iL (w:World)(g:Nat)(a:bV)(s:Sl):Prop:=w.heap[g]? = some (.cells (fJ a s).toArray 113 (0,0))
theorem iL.bh {w:World}{g:Nat}{a:bV}{s:Sl}(h:iL w g a s){K:Cs nv->Prop}(k:K (kU a.bh.1.e a.bh.2)):aq nv ((⟨g,0,none⟩:Addr).add 2) w K:=by
 rw[dP];refine⟨kU a.bh.1.e a.bh.2,uB h _ _ 0 fun j hj=>?_,k⟩;rw[pq]
 match j,hj with
 | 0,_=>rfl
 | 1,_=>rfl
 | 2,_=>rfl
 | 3,_=>rfl
 | 4,_=>rfl
 | 5,_=>rfl
 | 6,_=>rfl
 | 7,_=>rfl
 | 8,_=>rfl
theorem iL.bM {w:World}{g:Nat}{a:bV}{s:Sl}(h:iL w g a s){K:Cs gH->Prop}(k:K a.bM.e):aq gH ((⟨g,0,none⟩:Addr).add 11) w K:=by
 rw[dP];refine⟨a.bM.e,uB h _ _ 0 fun j hj=>?_,k⟩;rw[pq]
 match j,hj with
 | 0,_=>rfl
 | 1,_=>rfl
 | 2,_=>rfl
 | 3,_=>rfl
 | 4,_=>rfl
 | 5,_=>rfl
 | 6,_=>rfl
 | 7,_=>rfl
theorem iL.ld {w:World}{g:Nat}{a:bV}{s:Sl}(h:iL w g a s)(i:Nat){ck:Ck}{x:ck.C}(hx:(fJ a s)[i]? = some (ck.val x)){K:ck.C->Prop}(k:K x):ae ck ((⟨g,0,none⟩:Addr).add i) w K:=
 ae.ah h (by rw[Nat.zero_add,List.getElem?_toArray];exact hx) k
theorem aaZ (a:bV)(s:Sl)(v:Bool):(fJ a s).set 19 (.bool v)=fJ { a with drop:=v } s:=by rw[pq,pq];rfl
theorem vQ (a:bV)(s:Sl):(fJ a s)[0]? = some (.bool a.dc)/\(fJ a s)[1]? = some (.bool a.cY)/\(fJ a s)[19]? = some (.bool a.drop)/\(fJ a s)[20]? = some (.bool a.wanted)/\(fJ a s)[21]? = some (.bool a.bG)/\(fJ a s)[22]? = some (.bool a.calm):=by
 rw[pq];exact⟨rfl,rfl,rfl,rfl,rfl,rfl⟩
theorem iL.drop {w:World}{g:Nat}{a:bV}{s:Sl}(h:iL w g a s)(v:Bool){K:World->Prop}(k:∀ w1,iL w1 g { a with drop:=v } s->Fr (only g) w w1->w1.heap.size=w.heap.size->K w1):aA ((⟨g,0,none⟩:Addr).add 19) (.bool v) w K:=by
 refine aA.ah h (by rw[Dt];decide) rfl fun w1 au f1 s1=>k w1 ?_ f1 s1;rw[Nat.zero_add,Ds,aaZ] at au;exact au
theorem I6 {w:World}{F:Nat->Prop}{b:Nat}{p:PeerM}(h:cU w F b p)(hF:∀ k,F k->k<w.heap.size)(ho:cO p)(ht:TabW w)(a:bV)(s:Sl)(he:dB a.bh.1):
  Ret Tryz.prog 92 #[.pointer (some ⟨b,0,none⟩),.agg (fJ a s).toArray] w fun r w'=>r=.int .i64 (p.bW a).2/\cU w' (fun k=>F k\/cC w w' k) b (p.bW a).1/\Fr (only b) w w':=by
 have U:=ho.kb;refine c92 _ (lW a s) w _ ?_;unfold C92;refine ak.of fun g1 w1 df au f1 _=>?_;have a1:iL w1 g1 a s:=au;have l1:=bQ au;have bF:F b:=by obtain⟨c,l,Fc,Fl,h⟩:=h;exact h.mem
 have bl:=hF b bF;have z1:=f1.size;have ay:g1≠b:=by omega
 have lift:∀ {wx wy:World} {q:PeerM},cU wx (fun k=>F k\/cC w wx k) b q->wx.heap.size<=wy.heap.size->cU wx (fun k=>F k\/cC w wy k) b q:=fun hq hz=>hq.mono fun k U=>U.imp_right fun t=>⟨t.1,by have:=t.2;omega⟩;refine cq.of (fun _ w'=>∃ q:PeerM,(∀ a':bV,a'.dc=a.dc->True)/\p.bW a=(q.ended a,0)/\q.kb=p.kb/\cU w' (fun k=>F k\/cC w1 w' k) b q/\iL w' g1 a s/\Fr (only b) w w') ?_ ?_
 ·refine a1.ld 0 (ck:=.bool) (x:=a.dc) (vQ a s).1 (aa.by (fun hE=>?_) (fun hE=>?_))
  ·have hE:a.dc=true:=hE
   refine a1.bh ?_;refine ab.of (aaT (h.af f1) (fun k U=>by have:=hF k U;omega) ho (ht.af f1) a.bh he) ?_;rintro _ w2 ⟨rfl,h2,f2⟩;have z2:=f2.size;have BZ:cU w2 (fun k=>F k\/cC w w2 k) b (p.entry a.bh).1:=h2.mono fun k U=>U.imp_right fun t=>⟨by have:=t.1;omega,t.2⟩;refine⟨_,rfl,aa.ne (fun hn=>?_) (fun hz=>?_)⟩
   ·have hn:(p.entry a.bh).2≠0:=hn
    have e:p.bW a=(p,(p.entry a.bh).2):=by unfold PeerM.bW;rw[if_pos hE,if_pos hn]
    have e2:(p.entry a.bh).1=p:=by
     unfold PeerM.entry at hn ⊢;split
     ·rfl
     ·rename_i q1
      rw[if_neg q1] at hn;split
      ·rfl
      ·rename_i q2
       rw[if_neg q2] at hn;split
       ·rfl
       ·rename_i q3
        rw[if_neg q3] at hn;exact absurd rfl hn
    rw[e];rw[e2] at BZ;exact⟨rfl,BZ,f1.eL f2⟩
   ·have hz:(p.entry a.bh).2=0:=hz
    have e:p.bW a=((p.entry a.bh).1.ended a,0):=by unfold PeerM.bW;rw[if_pos hE,if_neg (fun t=>t hz)]
    refine⟨(p.entry a.bh).1,fun _ _=>trivial,e,?_,h2,f2.ag a1 ay,f1.eL f2⟩;unfold PeerM.entry
    repeat' split
    all_goals rfl
  ·have hE:a.dc=false:=hE
   refine⟨p,fun _ _=>trivial,?_,rfl,(h.af f1).mono fun k U=>.inl U,a1,f1.mono fun _ _ t=>t.elim⟩;unfold PeerM.bW;rw[if_neg (by rw[hE];simp)]
 rintro _ _ w2 ⟨q,_,eC,ekb,h2,a2,f12⟩;rw[eC];have U:q.kb.length=16:=by rw[ekb];exact U
 have z12:=f12.size;refine cq.of (fun _ w'=>cU w' (fun k=>F k\/cC w1 w' k) b (q.kY a)/\iL w' g1 { a with drop:=q.o9 a } s/\Fr (only b) w w') ?_ ?_
 ·refine a2.ld 1 (ck:=.bool) (x:=a.cY) (vQ a s).2.1 (aa.by (fun hP=>?_) (fun hP=>?_))
  ·have hP:a.cY=true:=hP
   have ep:q.kY a={ q with aY:=(a.bM,true) }:=by unfold PeerM.kY;rw[if_pos hP]
   have ed:q.o9 a=(a.drop||(q.off.2&&tJ q.off.1 a.bM)):=by unfold PeerM.o9;rw[hP];rfl
   refine a2.bM ?_;obtain⟨c,l,Fc,Fl,h2⟩:=h2;refine Dz U h2.aE 12 (by rw[qy];show 12+9<=24;decide) (PX a.bM true) fun w3 aU f3 s3=>?_;rw[aaV q c l a.bM true] at aU;have h3:=h2.put (q:={ q with aY:=(a.bM,true) }) f3 aU rfl rfl rfl rfl
   have a3:iL w3 g1 a s:=f3.ag a2 ay;refine aD.of fun w4 _ f4=>?_;have h4:=h3.af f4;have a4:iL w4 g1 a s:=f4.af a3;have f14:Fr (only b) w w4:=(f12.trans f3).dh f4;have z4:=f4.size;have fin:∀ {w5 w6:World} (v:Bool),Fr none1 w4 w5->iL w6 g1 { a with drop:=v } s->Fr (only g1) w5 w6->w6.heap.size=w5.heap.size->q.o9 a=v->(cU w6 (fun k=>F k\/cC w1 w6 k) b (q.kY a)/\iL w6 g1 { a with drop:=q.o9 a } s/\Fr (only b) w w6):=by
    intro w5 w6 v f5 a6 f6 s6 e;have z5:=f5.size;have ht:∀ k,(F k\/cC w1 w2 k)->¬ (only g1) k:=fun k U t=>by
     have:k=g1:=t
     rcases U with U | U
     ·have:=hF k U;omega
     ·have:=U.1;omega
    rw[ep,e];refine⟨?_,a6,?_⟩
    ·have h6:=(h4.af f5).ag f6 ht
     exact(show cU w6 _ b _ from⟨c,l,Fc,Fl,h6⟩).mono fun k U=>U.imp_right fun t=>⟨t.1,by have:=t.2;have:=f3.size;omega⟩
    ·exact(f14.dh f5).comp f6 fun k U t=>by have:k=g1:=t;omega
   refine a4.ld 19 (ck:=.bool) (x:=a.drop) (vQ a s).2.2.1 (aa.by (fun hd=>?_) (fun hd=>?_))
   ·have hd:a.drop=true:=hd
    exact a4.drop true fun w5 a5 f5 s5=>fin true (Fr.refl _ _) a5 f5 s5 (by rw[ed,hd];rfl)
   have hd:a.drop=false:=hd;refine h4.bX U 11 (ck:=.bool) (x:=q.off.2) rfl (aa.by (fun mO=>?_) (fun mO=>?_))
   ·have mO:q.off.2=true:=mO
    refine h4.q8 U 3 (cks:=gH) q.off.1.e (fun j hj=>?_) (a4.bM ?_)
    ·match j,hj with
     | 0,_=>rfl
     | 1,_=>rfl
     | 2,_=>rfl
     | 3,_=>rfl
     | 4,_=>rfl
     | 5,_=>rfl
     | 6,_=>rfl
     | 7,_=>rfl
    refine ab.of (Wx q.off.1 a.bM w4) ?_;rintro _ w5 ⟨rfl,f5⟩;refine⟨_,rfl,?_⟩;exact(show iL w5 g1 a s from f5.af a4).drop _ fun w6 a6 f6 s6=>fin _ f5 a6 f6 s6 (by rw[ed,hd,mO];rfl)
   ·have mO:q.off.2=false:=mO
    exact a4.drop false fun w5 a5 f5 s5=>fin false (Fr.refl _ _) a5 f5 s5 (by rw[ed,hd,mO];rfl)
  ·have hP:a.cY=false:=hP
   have ep:q.kY a=q:=by unfold PeerM.kY;rw[if_neg (by rw[hP];simp)]
   have ed:q.o9 a=a.drop:=by unfold PeerM.o9;rw[hP];simp
   rw[ep,ed];exact⟨h2,a2,f12⟩
 rintro _ _ w3 ⟨h3,a3,f13⟩;have AW:(q.kY a).kb.length=16:=by
  have:(q.kY a).kb=q.kb:=by unfold PeerM.kY;split<;>rfl
  rw[this];exact U
 have yh:(q.kY a).off=q.off/\(q.kY a).wanted=q.wanted/\(q.kY a).bG=q.bG:=by unfold PeerM.kY;split<;>exact⟨rfl,rfl,rfl⟩
 have eE:q.ended a={ q.kY a with off:=if q.o9 a=true then(bb,false) else q.off,wanted:=q.wanted||a.wanted,bG:=(q.bG||a.bG)&&!a.calm }:=rfl
 generalize q.kY a=P at *;generalize q.o9 a=D at *
 -- the end, alike in both
 have tail:∀ {wx:World} (O:aT×Bool),O=(if D=true then(bb,false) else q.off)->cU wx (fun k=>F k\/cC w1 wx k) b { P with off:=O }->iL wx g1 { a with drop:=D } s->Fr (only b) w wx ->
   cq (Unit) (fun AR=>ae .bool ((⟨b,0,none⟩:Addr).add 37) wx (fun(bZ:Bool)=>aa bZ
    (aA ((⟨b,0,none⟩:Addr).add 37) (.bool true) wx (fun cL=>AR (()) cL))
    (ae .bool ((⟨g1,0,none⟩:Addr).add 20) wx (fun(dp:Bool)=>aA ((⟨b,0,none⟩:Addr).add 37) (.bool dp) wx (fun gh=>AR (()) gh)))))
   (fun _ s29 bO=>ae .bool ((⟨b,0,none⟩:Addr).add 38) bO (fun(de:Bool)=>aa de
    (ae .bool ((⟨g1,0,none⟩:Addr).add 22) bO (fun(eF:Bool)=>aA ((⟨b,0,none⟩:Addr).add 38) (.bool (!eF)) bO (fun dG=>(Value.int .i64 0=.int .i64 (q.ended a,(0:Int)).2/\cU dG (fun k=>F k\/cC w dG k) b (q.ended a,(0:Int)).1/\Fr (only b) w dG))))
    (ae .bool ((⟨g1,0,none⟩:Addr).add 21) bO (fun(dF:Bool)=>aa dF
     (ae .bool ((⟨g1,0,none⟩:Addr).add 22) bO (fun(eP:Bool)=>aA ((⟨b,0,none⟩:Addr).add 38) (.bool (!eP)) bO (fun dD=>(Value.int .i64 0=.int .i64 (q.ended a,(0:Int)).2/\cU dD (fun k=>F k\/cC w dD k) b (q.ended a,(0:Int)).1/\Fr (only b) w dD))))
     (aA ((⟨b,0,none⟩:Addr).add 38) (.bool false) bO (fun ll=>(Value.int .i64 0=.int .i64 (q.ended a,(0:Int)).2/\cU ll (fun k=>F k\/cC w ll k) b (q.ended a,(0:Int)).1/\Fr (only b) w ll))))))):=by
  intro wx O eO hx ax fx;rw[<- eO] at eE;obtain⟨c,l,Fc,Fl,hx⟩:=hx;refine cq.of (fun _ w'=>lg w' (fun k=>F k\/cC w1 wx k) b { P with off:=O,wanted:=q.wanted||a.wanted } c l Fc Fl/\iL w' g1 { a with drop:=D } s/\Fr (only b) w w'/\wx.heap.size<=w'.heap.size) ?_ ?_
  ·have put:∀ (v:Bool),v=(q.wanted||a.wanted)->aA ((⟨b,0,none⟩:Addr).add 37) (.bool v) wx (fun w'=>lg w' (fun k=>F k\/cC w1 wx k) b { P with off:=O,wanted:=q.wanted||a.wanted } c l Fc Fl/\iL w' g1 { a with drop:=D } s/\Fr (only b) w w'/\wx.heap.size<=w'.heap.size):=by
    intro v ev;refine rB (kb:=P.kb) AW hx.aE 21 (by rw[qy];decide) rfl fun w4 dw f4 s4=>?_;rw[aaW { P with off:=O } c l v,ev] at dw
    exact⟨hx.put (q:={ P with off:=O,wanted:=q.wanted||a.wanted }) f4 dw rfl rfl rfl rfl,f4.ag ax ay,fx.trans f4,by omega⟩
   refine hx.bX AW 21 (ck:=.bool) (x:=P.wanted) rfl (aa.by (fun hw=>?_) (fun hw=>?_))
   ·exact put true (by rw[<- yh.2.1];have hw:P.wanted=true:=hw;rw[hw];rfl)
   ·exact ax.ld 20 (ck:=.bool) (x:=a.wanted) (vQ _ s).2.2.2.1 (put a.wanted (by rw[<- yh.2.1];have hw:P.wanted=false:=hw;rw[hw];rfl))
  rintro _ _ w4 ⟨h4,a4,f14,z4⟩;have put:∀ (v:Bool),v=((q.bG||a.bG)&&!a.calm)->aA ((⟨b,0,none⟩:Addr).add 38) (.bool v) w4 (fun w'=>(Value.int .i64 0=.int .i64 (q.ended a,(0:Int)).2/\cU w' (fun k=>F k\/cC w w' k) b (q.ended a,(0:Int)).1/\Fr (only b) w w')):=by
   intro v ev;refine rB (kb:=P.kb) AW h4.aE 22 (by rw[qy];decide) rfl fun w5 cW f5 s5=>?_;rw[aaX { P with off:=O,wanted:=q.wanted||a.wanted } c l v,ev] at cW
   have h5:=h4.put (q:={ P with off:=O,wanted:=q.wanted||a.wanted,bG:=(q.bG||a.bG)&&!a.calm }) f5 cW rfl rfl rfl rfl
   refine⟨rfl,?_,f14.trans f5⟩;show cU w5 _ b (q.ended a);rw[eE];exact(show cU w5 _ b _ from⟨c,l,Fc,Fl,h5⟩).mono fun k U=>U.imp_right fun t=>⟨by have:=t.1;omega,by have:=t.2;omega⟩
  have yi:=vQ { a with drop:=D } s
  refine h4.bX AW 22 (ck:=.bool) (x:=P.bG) rfl (aa.by (fun hq=>?_) (fun hq=>?_))
  ·have hq:P.bG=true:=hq
   exact a4.ld 22 (ck:=.bool) (x:=a.calm) yi.2.2.2.2.2 (put (!a.calm) (by rw[<- yh.2.2,hq];rfl))
  have hq:P.bG=false:=hq;refine a4.ld 21 (ck:=.bool) (x:=a.bG) yi.2.2.2.2.1 (aa.by (fun hu=>?_) (fun hu=>?_))
  ·have hu:a.bG=true:=hu
   exact a4.ld 22 (ck:=.bool) (x:=a.calm) yi.2.2.2.2.2 (put (!a.calm) (by rw[<- yh.2.2,hq,hu];rfl))
  ·have hu:a.bG=false:=hu
   exact put false (by rw[<- yh.2.2,hq,hu];rfl)
 refine a3.ld 19 (ck:=.bool) (x:=D) (vQ _ s).2.2.1 (aa.by (fun hD=>?_) (fun hD=>?_))
 ·have hD:D=true:=hD
  obtain⟨c,l,Fc,Fl,h3⟩:=h3;refine Dz (kb:=P.kb) AW h3.aE 3 (by rw[qy];show 3+9<=24;decide) rfl fun w4 dw f4 s4=>?_;have e9:=PW P c l bb false;rw[show[Value.int .i64 bb.e.1,.string bb.e.2.1,.string bb.e.2.2.1,.string bb.e.2.2.2.1,.string bb.e.2.2.2.2.1,.int .i64 bb.e.2.2.2.2.2.1,.int .i64 bb.e.2.2.2.2.2.2.1,bb.e.2.2.2.2.2.2.2.1,.bool false]=[.int .i64 0,.string (⟨#[]⟩:ByteArray),.string (⟨#[]⟩:ByteArray),.string (⟨#[]⟩:ByteArray),.string (⟨#[]⟩:ByteArray),.int .i64 0,.int .i64 0,.nilIface,.bool false] from rfl] at e9;rw[e9] at dw;have h4:=h3.put (q:={ P with off:=(bb,false) }) f4 dw rfl rfl rfl rfl
  refine tail (bb,false) (by rw[if_pos hD]) ((show cU w4 _ b _ from⟨c,l,Fc,Fl,h4⟩).mono fun k U=>U.imp_right fun t=>⟨t.1,by have:=t.2;omega⟩) (f4.ag a3 ay) (f13.trans f4)
 ·have hD:D=false:=hD
  refine tail q.off (by rw[hD];rfl) ?_ a3 f13;have:({ P with off:=q.off }:PeerM)=P:=by rw[<- yh.1]
  rw[this];exact h3
theorem I7 {w:World}{F:Nat->Prop}{b:Nat}{p:PeerM}(h:cU w F b p)(ho:cO p):Ret Tryz.prog 26 #[.pointer (some ⟨b,0,none⟩)] w fun r w'=>∃ c,r=.pointer (some ⟨c,0,none⟩)/\jz w' (cC w w') c p.kb p.es p.hs/\Fr none1 w w':=by
 obtain⟨c,l,Fc,Fl,h⟩:=h;have U:=ho.kb;have:=ho.num;have:=ho.hs;refine c26 _ w _ ?_;refine h.bX U 1 (ck:=.ptr) (x:=some ⟨c,0,none⟩) rfl ?_;refine ab.of (IG U h.ch (by omega) (by omega)) ?_;rintro _ w1 ⟨c',rfl,hc,f1⟩;exact⟨some ⟨c',0,none⟩,rfl,c',rfl,hc,f1⟩
theorem aa0 {kb:List UInt8}(U:kb.length=16)(side:Int)(w:World):Ret Tryz.prog 40 #[.agg (cT kb).toArray,.int .i64 side] w fun r w'=>∃ b,r=.pointer (some ⟨b,0,none⟩)/\cU w' (cC w w') b (mE kb side)/\Fr none1 w w':=by
 refine c40 (cT kb) side w _ ?_;unfold C40;refine ak.of fun g1 w1 df au f1 _=>?_;have body:∀ (n:Int),n=(mE kb side).side->∀ (w2:World),Fr none1 w1 w2->∀ {w3 w4 w5:World} {c l:Nat},jz w3 (fun k=>w2.heap.size<=k/\k<w3.heap.size) c kb [] [0]->Fr none1 w2 w3->dZ w4 (cC w3 w4) l xu->Fr none1 w3 w4->Fr none1 w4 w5->w4.heap.size<w5.heap.size ->
   w5.heap[w4.heap.size]? = some (.cells (cT kb++ix (mE kb side) c l).toArray 138 (0,0))->cU w5 (cC w w5) w4.heap.size (mE kb side)/\Fr none1 w w5:=by
  intro n hn w2 f2 w3 w4 w5 c l hc f3 hl f4 f5 z5 hb;have z1:=f1.size;have z2:=f2.size;have z3:=f3.size;have z4:=f4.size;exact⟨⟨c,l,_,_,hb,(hc.af f4).af f5,hl.af f5,fun k U=>⟨⟨by have:=U.1;omega,by have:=U.2;omega⟩,by have:=U.2;omega⟩,fun k U=>⟨⟨by have:=U.1;omega,by have:=U.2;omega⟩,by have:=U.2;omega⟩,⟨by omega,z5⟩⟩,(((f1.trans f2).trans f3).trans f4).trans f5⟩
 refine aa.ne (fun hs=>?_) (fun hs=>?_)
 all_goals
  refine aD.of fun w2 _ f2=>aV.all (av.all (eI.of (f2.af au) (by rw[kD,U]) (av.all (eI.of (f2.af au) (by rw[kD,U]) ?_))));refine ab.of (aac U w2) ?_;rintro _ w3 ⟨c,rfl,hc,f3⟩;refine⟨some ⟨c,0,none⟩,rfl,ai.of f3 ?_⟩;refine ab.of (aaf w3) ?_;rintro _ w4 ⟨l,rfl,hl,f4⟩;refine⟨some ⟨l,0,none⟩,rfl,?_⟩
  try refine ai.of f4 ?_
  refine Dd U fun y hy=>ak.of fun g w5 hg hb f5 zU=>?_
  try refine ai.of f5 ?_
  refine⟨g,rfl,?_⟩;subst hg
 ·have e:(mE kb side).side=1:=by unfold mE;rw[if_neg hs]
  refine body 1 e.symm w2 f2 hc f3 hl f4 f5 (by omega) ?_;have hb:w5.heap[w4.heap.size]? = some (.cells (Cs.vals nH y++([Value.int .i64 1,.pointer (some ⟨c,0,none⟩),.pointer (some ⟨l,0,none⟩)]++(gz bb.e++([Value.bool false]++(gz bb.e++[Value.bool false,.bool false,.bool false,.int .i64 0]))))).toArray 138 (0,0)):=hb;rw[hy] at hb;rw[hb];unfold ix;rw[e];rfl
 ·have hs:side=0:=hs
  have e:(mE kb side).side=side:=by unfold mE;rw[if_pos hs,hs]
  refine body side e.symm w2 f2 hc f3 hl f4 f5 (by omega) ?_;have hb:w5.heap[w4.heap.size]? = some (.cells (Cs.vals nH y++([Value.int .i64 side,.pointer (some ⟨c,0,none⟩),.pointer (some ⟨l,0,none⟩)]++(gz bb.e++([Value.bool false]++(gz bb.e++[Value.bool false,.bool false,.bool false,.int .i64 0]))))).toArray 138 (0,0)):=hb;rw[hy] at hb;rw[hb];unfold ix;rw[e];rfl
def gI (N:Nat)(w:World):Prop:=∃ w0,TabW w0/\w0.heap.size=N/\Fr none1 w0 w
theorem gI.j7 {N:Nat}{w:World}(h:gI N w):TabW w:=by obtain⟨w0,t,_,f⟩:=h;exact t.af f
theorem gI.of {w:World}(h:TabW w):gI w.heap.size w:=⟨w,h,rfl,Fr.refl _ _⟩
theorem gI.ag {N:Nat}{w w':World}(h:gI N w){T:Nat->Prop}(f:Fr T w w')(hT:∀ k,T k->N<=k):gI N w':=by
 obtain⟨w0,t,e,f0⟩:=h;exact⟨w0,t,e,f0.comp f fun k U q=>by have:=hT k q;omega⟩
theorem gI.af {N:Nat}{w w':World}(h:gI N w)(f:Fr none1 w w'):gI N w':=h.ag f fun _ t=>t.elim
theorem gI.le {N:Nat}{w:World}(h:gI N w):N<=w.heap.size:=by obtain⟨w0,_,e,f⟩:=h;have:=f.size;omega
theorem gI.fr {N:Nat}{w w':World}(h:gI N w):∃ w0,w0.heap.size=N/\Fr none1 w0 w:=by obtain⟨w0,_,e,f⟩:=h;exact⟨w0,e,f⟩
def vR (n:NodeM)(j pb wb:Nat):List Value:=[.int .i64 n.side,.pointer (some ⟨j,0,none⟩),.pointer (some ⟨pb,0,none⟩),.pointer (some ⟨wb,0,none⟩),.int .i64 n.bg,.int .i64 n.number]
structure fq (N:Nat)(w:World)(F:Nat->Prop)(b:Nat)(n:NodeM)(fb fg j pb wb:Nat)(S Fp:Nat->Prop):Prop where
 aE:w.heap[b]? = some (.cells (cT n.kb++vR n j pb wb).toArray 104 (0,0))
 jr:iK w S j fb fg n.j.fs n.j.d n.j.rs
 pr:cU w Fp pb n.p
 wr:oq w wb n.w.e n.w.h n.w.s
 own:F b/\F wb/\F j/\(∀ k,S k->F k)/\(∀ k,Fp k->F k)
 apart:b≠wb/\b≠j/\wb≠j/\¬ S b/\¬ S wb/\¬ Fp b/\¬ Fp wb/\¬ Fp j/\(∀ k,S k->¬ Fp k)
 file:¬ F fb/\¬ F fg
 lt:∀ k,F k->k<w.heap.size
 lo:∀ k,F k->N<=k
 ue:N<=fb
def ij (N:Nat)(w:World)(F:Nat->Prop)(b:Nat)(n:NodeM)(fb fg:Nat):Prop:=∃ j pb wb S Fp,fq N w F b n fb fg j pb wb S Fp
def qA (F:Nat->Prop)(fb:Nat):Nat->Prop:=fun k=>F k\/k=fb
theorem fq.ag {N:Nat}{w w':World}{F T:Nat->Prop}{b:Nat}{n:NodeM}{fb fg j pb wb:Nat}{S Fp:Nat->Prop}(h:fq N w F b n fb fg j pb wb S Fp)(f:Fr T w w')(hT:∀ k,F k->¬ T k)(hb:¬ T fb)(hg:¬ T fg):fq N w' F b n fb fg j pb wb S Fp:=
 ⟨f.ag h.aE (hT b h.own.1),h.jr.ag f (hT j h.own.2.2.1) hb hg (fun k U=>hT k (h.own.2.2.2.1 k U)),h.pr.ag f (fun k U=>hT k (h.own.2.2.2.2 k U)),h.wr.ag f (hT wb h.own.2.1),h.own,h.apart,h.file,fun k U=>Nat.lt_of_lt_of_le (h.lt k U) f.size,h.lo,h.ue⟩
theorem fq.af {N:Nat}{w w':World}{F:Nat->Prop}{b:Nat}{n:NodeM}{fb fg j pb wb:Nat}{S Fp:Nat->Prop}(h:fq N w F b n fb fg j pb wb S Fp)(f:Fr none1 w w'):fq N w' F b n fb fg j pb wb S Fp:=h.ag f (fun _ _ t=>t) (fun t=>t) (fun t=>t)
theorem ij.ag {N:Nat}{w w':World}{F T:Nat->Prop}{b:Nat}{n:NodeM}{fb fg:Nat}(h:ij N w F b n fb fg)(f:Fr T w w')(hT:∀ k,F k->¬ T k)(hb:¬ T fb)(hg:¬ T fg):ij N w' F b n fb fg:=by
 obtain⟨j,pb,wb,S,Fp,h⟩:=h;exact⟨j,pb,wb,S,Fp,h.ag f hT hb hg⟩
theorem ij.af {N:Nat}{w w':World}{F:Nat->Prop}{b:Nat}{n:NodeM}{fb fg:Nat}(h:ij N w F b n fb fg)(f:Fr none1 w w'):ij N w' F b n fb fg:=h.ag f (fun _ _ t=>t) (fun t=>t) (fun t=>t)
theorem ij.lt {N:Nat}{w:World}{F:Nat->Prop}{b:Nat}{n:NodeM}{fb fg:Nat}(h:ij N w F b n fb fg):(∀ k,F k->k<w.heap.size)/\fb<w.heap.size/\fg<w.heap.size/\F b/\¬ F fb/\¬ F fg:=by
 obtain⟨j,pb,wb,S,Fp,h⟩:=h;exact⟨h.lt,h.jr.file.lt,h.jr.file.pc,h.own.1,h.file.1,h.file.2⟩
theorem ij.lo {N:Nat}{w:World}{F:Nat->Prop}{b:Nat}{n:NodeM}{fb fg:Nat}(h:ij N w F b n fb fg):(∀ k,F k->N<=k)/\N<=fb:=by
 obtain⟨j,pb,wb,S,Fp,h⟩:=h;exact⟨h.lo,h.ue⟩
theorem ij.file {N:Nat}{w:World}{F:Nat->Prop}{b:Nat}{n:NodeM}{fb fg:Nat}(h:ij N w F b n fb fg):ie w fb fg n.j.fs:=by
 obtain⟨j,pb,wb,S,Fp,h⟩:=h;exact h.jr.file
theorem fq.bX {N:Nat}{w:World}{F:Nat->Prop}{b:Nat}{n:NodeM}{fb fg j pb wb:Nat}{S Fp:Nat->Prop}(h:fq N w F b n fb fg j pb wb S Fp)(U:n.kb.length=16)(i:Nat){ck:Ck}{x:ck.C}(hx:(vR n j pb wb)[i]? = some (ck.val x)){K:ck.C->Prop}(k:K x):ae ck ⟨b,16+i,none⟩ w K:=
 ae.of h.aE (by rw[IV U];exact hx) k
theorem fq.key {N:Nat}{w:World}{F:Nat->Prop}{b:Nat}{n:NodeM}{fb fg j pb wb:Nat}{S Fp:Nat->Prop}(h:fq N w F b n fb fg j pb wb S Fp)(U:n.kb.length=16){K:List Value->Prop}(k:K (cT n.kb)):eI 16 ((⟨b,0,none⟩:Addr).add 0) w K:=by
 refine⟨cT n.kb,by rw[kD,U],?_,k⟩;rw[dP];refine nP h.aE _ 0 fun j hj=>?_;rw[List.getElem?_toArray,Nat.zero_add,List.getElem?_append_left hj]
structure ez (N:Nat)(w:World)(F:Nat->Prop)(b:Nat)(n':NodeM)(fb fg:Nat)(w':World)(F':Nat->Prop)(eB:Nat):Prop where
 r:ij N w' F' b n' fb eB
 sub:∀ k,F' k->F k\/cC w w' k
 g:eB=fb\/eB=fg\/cC w w' eB
 f:Fr (qA F fb) w w'
theorem ez.refl {N:Nat}{w:World}{F:Nat->Prop}{b:Nat}{n:NodeM}{fb fg:Nat}(h:ij N w F b n fb fg):ez N w F b n fb fg w F fg:=⟨h,fun _ t=>.inl t,.inr (.inl rfl),Fr.refl _ _⟩
theorem ez.dh {N:Nat}{w w1 w2:World}{F F':Nat->Prop}{b:Nat}{n':NodeM}{fb fg eB:Nat}(h:ez N w F b n' fb fg w1 F' eB)(f:Fr none1 w1 w2):ez N w F b n' fb fg w2 F' eB:=
 ⟨h.r.af f,fun k U=>(h.sub k U).imp_right fun t=>⟨t.1,Nat.lt_of_lt_of_le t.2 f.size⟩,h.g.imp_right fun t=>t.imp_right fun t=>⟨t.1,Nat.lt_of_lt_of_le t.2 f.size⟩,h.f.dh f⟩
theorem ez.eL {N:Nat}{w w1 w2:World}{F F':Nat->Prop}{b:Nat}{n':NodeM}{fb fg eB:Nat}(f:Fr none1 w w1)(h:ez N w1 F b n' fb fg w2 F' eB):ez N w F b n' fb fg w2 F' eB:=
 ⟨h.r,fun k U=>(h.sub k U).imp_right fun t=>⟨Nat.le_trans f.size t.1,t.2⟩,h.g.imp_right fun t=>t.imp_right fun t=>⟨Nat.le_trans f.size t.1,t.2⟩,f.eL h.f⟩
theorem ez.trans {N:Nat}{w w1 w2:World}{F F1 F2:Nat->Prop}{b:Nat}{n1 n2:NodeM}{fb fg g1 g2:Nat}(h:ez N w F b n1 fb fg w1 F1 g1)(k:ez N w1 F1 b n2 fb g1 w2 F2 g2):ez N w F b n2 fb fg w2 F2 g2:=by
 have z1:=h.f.size;have z2:=k.f.size;refine⟨k.r,fun i hi=>?_,?_,h.f.comp k.f fun i hi t=>?_⟩
 ·rcases k.sub i hi with t | t
  ·exact(h.sub i t).imp_right fun t=>⟨t.1,by have:=t.2;omega⟩
  ·exact .inr ⟨by have:=t.1;omega,t.2⟩
 ·rcases k.g with t | t | t
  ·exact .inl t
  ·rw[t];exact h.g.imp_right fun t=>t.imp_right fun t=>⟨t.1,by have:=t.2;omega⟩
  ·exact .inr (.inr ⟨by have:=t.1;omega,t.2⟩)
 ·rcases t with t | t
  ·rcases h.sub i t with t | t
   ·exact .inl t
   ·have:=t.1;omega
  ·exact .inr t
theorem ez.j7 {N:Nat}{w w':World}{F F':Nat->Prop}{b:Nat}{n n':NodeM}{fb fg eB:Nat}(h0:ij N w F b n fb fg)(h:ez N w F b n' fb fg w' F' eB)(t:gI N w):gI N w':=
 t.ag h.f fun k U=>by
  obtain⟨a,b⟩:=h0.lo
  rcases U with t | t
  ·exact a k t
  ·omega
theorem fq.PY {N:Nat}{w w':World}{F:Nat->Prop}{b:Nat}{n:NodeM}{fb fg j pb wb:Nat}{S Fp:Nat->Prop}(h:fq N w F b n fb fg j pb wb S Fp){J:jO}(t:NH w S j fb fg J.fs J.d J.rs w'):
  ∃ F' eB S',fq N w' F' b { n with j:=J } fb eB j pb wb S' Fp/\ez N w F b { n with j:=J } fb fg w' F' eB:=by
 obtain⟨f,S',g',nA,sA,hj⟩:=t;obtain⟨o1,o2,o3,o4,o5⟩:=h.own;obtain⟨a1,a2,a3,a4,a5,a6,a7,a8,a9⟩:=h.apart;have zb:=h.lt b o1;have zw:=h.lt wb o2;have zj:=h.lt j o3;have zf:=h.jr.file.lt;have zg:=h.jr.file.pc;have z:=f.size;have hl:=h.jr.slt;have tin:∀ k,tR S j fb k->qA F fb k:=fun k U=>by
  rcases U with t | t | t
  ·rw[t];exact .inl o3
  ·exact .inr t
  ·exact .inl (o4 k t)
 have vd:∀ k,S' k->k<w'.heap.size:=hj.slt;have sub:∀ k,(F k\/S' k)->F k\/cC w w' k:=fun k U=>by
  rcases U with t | t
  ·exact .inl t
  ·rcases nA k t with q | q
   ·exact .inl (o4 k q)
   ·exact .inr ⟨q,vd k t⟩
 have Al:g'=fb\/g'=fg\/cC w w' g':=sA.imp_right fun t=>t.imp_right fun t=>⟨t,hj.file.pc⟩;have main:fq N w' (fun k=>F k\/S' k) b { n with j:=J } fb g' j pb wb S' Fp:=by
  refine⟨f.ag h.aE ?_,hj,h.pr.ag f ?_,h.wr.ag f ?_,⟨.inl o1,.inl o2,.inl o3,fun k U=>.inr U,fun k U=>.inl (o5 k U)⟩,?_,?_,?_,?_,h.ue⟩
  ·rintro(t | t | t)
   ·exact a2 t
   ·rw[t] at o1;exact h.file.1 o1
   ·exact a4 t
  ·intro k U
   rintro(t | t | t)
   ·rw[t] at U;exact a8 U
   ·rw[t] at U;exact h.file.1 (o5 _ U)
   ·exact a9 k t U
  ·rintro(t | t | t)
   ·exact a3 t
   ·rw[t] at o2;exact h.file.1 o2
   ·exact a5 t
  ·refine⟨a1,a2,a3,fun t=>?_,fun t=>?_,a6,a7,a8,fun k U q=>?_⟩
   ·rcases nA b t with q | q
    ·exact a4 q
    ·omega
   ·rcases nA wb t with q | q
    ·exact a5 q
    ·omega
   ·rcases nA k U with r | r
    ·exact a9 k r q
    ·have:=h.lt k (o5 k q);omega
  ·refine⟨fun t=>?_,fun t=>?_⟩
   ·rcases t with t | t
    ·exact h.file.1 t
    ·exact(hj.off fb t).2.1 rfl
   ·rcases t with t | t
    ·rcases sA with q | q | q
     ·rw[q] at t;exact h.file.1 t
     ·rw[q] at t;exact h.file.2 t
     ·have:=h.lt g' t;omega
    ·exact(hj.off g' t).2.2 rfl
  ·intro k U
   rcases U with t | t
   ·have:=h.lt k t;omega
   ·exact vd k t
  ·intro k U
   rcases sub k U with t | t
   ·exact h.lo k t
   ·have:=t.1;have:=h.ue;omega
 exact⟨_,g',S',main,⟨_,_,_,_,_,main⟩,sub,Al,f.mono fun k _ t=>tin k t⟩
theorem fq.DC {N:Nat}{w w':World}{F:Nat->Prop}{b:Nat}{n:NodeM}{fb fg j pb wb:Nat}{S Fp:Nat->Prop}(h:fq N w F b n fb fg j pb wb S Fp){p:PeerM}(hp:cU w' (fun k=>Fp k\/cC w w' k) pb p)(f:Fr (only pb) w w'):
  ∃ F',fq N w' F' b { n with p:=p } fb fg j pb wb S (fun k=>Fp k\/cC w w' k)/\ez N w F b { n with p:=p } fb fg w' F' fg:=by
 obtain⟨o1,o2,o3,o4,o5⟩:=h.own;obtain⟨a1,a2,a3,a4,a5,a6,a7,a8,a9⟩:=h.apart;have mD:Fp pb:=by obtain⟨c,l,Fc,Fl,q⟩:=h.pr;exact q.mem
 have zb:=h.lt b o1;have zw:=h.lt wb o2;have zj:=h.lt j o3;have zf:=h.jr.file.lt;have zg:=h.jr.file.pc;have z:=f.size;have main:fq N w' (fun k=>F k\/cC w w' k) b { n with p:=p } fb fg j pb wb S (fun k=>Fp k\/cC w w' k):=by
  refine⟨f.ag h.aE ?_,h.jr.ag f ?_ ?_ ?_ ?_,hp,h.wr.ag f ?_,⟨.inl o1,.inl o2,.inl o3,fun k U=>.inl (o4 k U),fun k U=>U.imp_left (o5 k)⟩,?_,?_,?_,?_,h.ue⟩
  ·intro t;have t:b=pb:=t;rw[<- t] at mD;exact a6 mD
  ·intro t;have t:j=pb:=t;rw[<- t] at mD;exact a8 mD
  ·intro t;have t:fb=pb:=t;rw[<- t] at mD;exact h.file.1 (o5 _ mD)
  ·intro t;have t:fg=pb:=t;rw[<- t] at mD;exact h.file.2 (o5 _ mD)
  ·intro k U t;have t:k=pb:=t;rw[t] at U;exact a9 _ U mD
  ·intro t;have t:wb=pb:=t;rw[<- t] at mD;exact a7 mD
  ·refine⟨a1,a2,a3,a4,a5,fun t=>?_,fun t=>?_,fun t=>?_,fun k U t=>?_⟩
   ·rcases t with t | t
    ·exact a6 t
    ·have:=t.1;omega
   ·rcases t with t | t
    ·exact a7 t
    ·have:=t.1;omega
   ·rcases t with t | t
    ·exact a8 t
    ·have:=t.1;omega
   ·rcases t with t | t
    ·exact a9 k U t
    ·have:=t.1;have:=h.lt k (o4 k U);omega
  ·refine⟨fun t=>?_,fun t=>?_⟩
   ·rcases t with t | t
    ·exact h.file.1 t
    ·have:=t.1;omega
   ·rcases t with t | t
    ·exact h.file.2 t
    ·have:=t.1;omega
  ·intro k U
   rcases U with t | t
   ·have:=h.lt k t;omega
   ·exact t.2
  ·intro k U
   rcases U with t | t
   ·exact h.lo k t
   ·have:=t.1;have:=h.ue;omega
 exact⟨_,main,⟨_,_,_,_,_,main⟩,fun k U=>U,.inr (.inl rfl),f.mono fun k _ t=>.inl (by have t:k=pb:=t;rw[t];exact o5 _ mD)⟩
theorem fq.wto {N:Nat}{w w':World}{F:Nat->Prop}{b:Nat}{n:NodeM}{fb fg j pb wb:Nat}{S Fp:Nat->Prop}(h:fq N w F b n fb fg j pb wb S Fp){W:rk}(hp:oq w' wb W.e W.h W.s)(f:Fr (only wb) w w'):
  fq N w' F b { n with w:=W } fb fg j pb wb S Fp/\ez N w F b { n with w:=W } fb fg w' F fg:=by
 obtain⟨o1,o2,o3,o4,o5⟩:=h.own;obtain⟨a1,a2,a3,a4,a5,a6,a7,a8,a9⟩:=h.apart;have main:fq N w' F b { n with w:=W } fb fg j pb wb S Fp:=by
  refine⟨f.ag h.aE (fun t=>a1 t),h.jr.ag f (fun t=>a3 (Eq.symm t)) ?_ ?_ ?_,h.pr.ag f ?_,hp,h.own,h.apart,h.file,fun k U=>Nat.lt_of_lt_of_le (h.lt k U) f.size,h.lo,h.ue⟩
  ·intro t;have t:fb=wb:=t;rw[<- t] at o2;exact h.file.1 o2
  ·intro t;have t:fg=wb:=t;rw[<- t] at o2;exact h.file.2 o2
  ·intro k U t;have t:k=wb:=t;rw[t] at U;exact a5 U
  ·intro k U t;have t:k=wb:=t;rw[t] at U;exact a7 U
 exact⟨main,⟨_,_,_,_,_,main⟩,fun k U=>.inl U,.inr (.inl rfl),f.mono fun k _ t=>.inl (by have t:k=wb:=t;rw[t];exact o2)⟩
theorem fq.cell {N:Nat}{w w':World}{F:Nat->Prop}{b:Nat}{n n':NodeM}{fb fg j pb wb:Nat}{S Fp:Nat->Prop}(h:fq N w F b n fb fg j pb wb S Fp)(f:Fr (only b) w w')(hb:w'.heap[b]? = some (.cells (cT n'.kb++vR n' j pb wb).toArray 104 (0,0)))(e1:n'.j=n.j)(e2:n'.p=n.p)(e3:n'.w=n.w):
  fq N w' F b n' fb fg j pb wb S Fp/\ez N w F b n' fb fg w' F fg:=by
 obtain⟨o1,o2,o3,o4,o5⟩:=h.own;obtain⟨a1,a2,a3,a4,a5,a6,a7,a8,a9⟩:=h.apart;have main:fq N w' F b n' fb fg j pb wb S Fp:=by
  refine⟨hb,?_,?_,?_,h.own,h.apart,h.file,fun k U=>Nat.lt_of_lt_of_le (h.lt k U) f.size,h.lo,h.ue⟩
  ·rw[e1]
   refine h.jr.ag f (fun t=>a2 (Eq.symm t)) ?_ ?_ ?_
   ·intro t;have t:fb=b:=t;rw[<- t] at o1;exact h.file.1 o1
   ·intro t;have t:fg=b:=t;rw[<- t] at o1;exact h.file.2 o1
   ·intro k U t;have t:k=b:=t;rw[t] at U;exact a4 U
  ·rw[e2]
   refine h.pr.ag f fun k U t=>?_;have t:k=b:=t;rw[t] at U;exact a6 U
  ·rw[e3]
   exact h.wr.ag f (fun t=>a1 (Eq.symm t))
 exact⟨main,⟨_,_,_,_,_,main⟩,fun k U=>.inl U,.inr (.inl rfl),f.mono fun k _ t=>.inl (by have t:k=b:=t;rw[t];exact o1)⟩
def C10 (p0:Addr)(p1:List Value)(p2:Int)(w:World)(K:Value->World->Prop):Prop:=
 ak (.cells p1.toArray 24) w (fun g1 w2=>cq (Bool×Unit) (fun J3=>aa (p2 != 0)
 (J3 ((p2 != 1),()) w2)
 (J3 (false,()) w2))
 (fun _ s4 w5=>aa s4.1
 (K (.tuple #[.pointer none,.int .i64 1]) w5)
 (ab Tryz.prog 39 #[.pointer (some p0)] w5 (.aN [.one .ptr,.one (.int .i64)]) (fun(x6:Option Addr×Int×Unit) w7=>aa (x6.2.1 != 0)
 (K (.tuple #[.pointer none,.int .i64 x6.2.1]) w7)
 (aD w7 (fun w8=>aV (fun S9=>av S9 (ad g1) (eI 16 (ad g1) w8 (fun aR=>av S9 (ad g1) (eI 16 (ad g1) w8 (fun ba=>ab Tryz.prog 40 #[.agg ba.toArray,.int .i64 p2] w8 (.v (.one .ptr)) (fun(bt:Option Addr) aW=>ai S9 w8 aW (ab Tryz.prog 41 #[] aW (.v (.one .ptr)) (fun(bd:Option Addr) bL=>ai S9 aW bL (uj [.int .u8,.int .u8,.int .u8,.int .u8,.int .u8,.int .u8,.int .u8,.int .u8,.int .u8,.int .u8,.int .u8,.int .u8,.int .u8,.int .u8,.int .u8,.int .u8] aR (fun(aQ:Int×Int×Int×Int×Int×Int×Int×Int×Int×Int×Int×Int×Int×Int×Int×Int×Unit)=>ak (.cells #[.int .u8 aQ.1,.int .u8 aQ.2.1,.int .u8 aQ.2.2.1,.int .u8 aQ.2.2.2.1,.int .u8 aQ.2.2.2.2.1,.int .u8 aQ.2.2.2.2.2.1,.int .u8 aQ.2.2.2.2.2.2.1,.int .u8 aQ.2.2.2.2.2.2.2.1,.int .u8 aQ.2.2.2.2.2.2.2.2.1,.int .u8 aQ.2.2.2.2.2.2.2.2.2.1,.int .u8 aQ.2.2.2.2.2.2.2.2.2.2.1,.int .u8 aQ.2.2.2.2.2.2.2.2.2.2.2.1,.int .u8 aQ.2.2.2.2.2.2.2.2.2.2.2.2.1,.int .u8 aQ.2.2.2.2.2.2.2.2.2.2.2.2.2.1,.int .u8 aQ.2.2.2.2.2.2.2.2.2.2.2.2.2.2.1,.int .u8 aQ.2.2.2.2.2.2.2.2.2.2.2.2.2.2.2.1,.int .i64 p2,.pointer x6.1,.pointer bt,.pointer bd,.int .i64 0,.int .i64 0] 104) bL (fun g17 bz=>ai S9 bL bz (ab Tryz.prog 42 #[.pointer x6.1] bz (.v (.one .aj)) (fun(bu:an) bo=>bw (Int×Unit) (fun _ I8 bN aa1=>aa (decide (I8.1<(bu.2.1:Int)))
 (bK bu.1 bu.2.1 I8.1 1 (fun a24=>ae .aj a24 bN (fun(bC:an)=>ab Tryz.prog 43 #[.pointer (some (ad g17)),.slice bC.1 bC.2.1 bC.2.2] bN (.v (.one .bool)) (fun(cZ:Bool) eJ=>aa (!cZ)
 (K (.tuple #[.pointer none,.int .i64 12]) eJ)
 (aa1 (IntKind.i64.wrap (I8.1+1),()) eJ)))))
 (az Tryz.prog (Instr.buildSlice 22 1 #[(0,.int .u8 1)]) bN (.v (.one .aj)) (fun(eN:an) et=>ab Tryz.prog 44 #[.pointer x6.1,.slice eN.1 eN.2.1 eN.2.2] et (.v (.one (.int .i64))) (fun(eg:Int) fh=>aa (eg != 0)
 (K (.tuple #[.pointer none,.int .i64 eg]) fh)
 (ae (.int .i64) ((ad g17).add 20) fh (fun(dK:Int)=>aA ((ad g17).add 20) (.int .i64 (IntKind.i64.wrap (dK+1))) fh (fun dS=>K (.tuple #[.pointer (some (ad g17)),.int .i64 0]) dS)))))))
 (0,()) bo)))))))))))))))))))
def pl10:aB:=(.seq .auto (.seq (.join [(19,.one .bool)] .auto .auto) (.seq .auto (.seq .auto (.seq (.held (.soft 0 (.soft 1 (.soft 2 (.soft 3 (.soft 4 (.pick 5 (.pick 6 (.soft 7 (.pick 8 (.soft 9 .done) .stop)) .stop) .stop))))))) (.seq (.seq .auto (.block (.loop [(40,.one (.int .i64))] .auto))) .auto))))))
theorem c10 (p0:Addr)(p1:List Value)(p2:Int)(w:World)(K:Value->World->Prop)(h:C10 p0 p1 p2 w K):Ret Tryz.prog 10 #[.pointer (some p0),.agg p1.toArray,.int .i64 p2] w K:=aC (by kernel_rfl) Tryz.func10 (p:=pl10) (Eq.mpr (by kernel_rfl) h)
def C43 (p0:Addr)(p1:Option Addr)(bY cE:Nat)(w:World)(K:Value->World->Prop):Prop:=
 aa ((bY:Int)==0)
 (K (.bool false) w)
 (bK p1 bY 0 1 (fun a1=>ae (.int .u8) a1 w (fun(x2:Int)=>aa (x2==1)
 (ae (.int .i64) (p0.add 20) w (fun(x3:Int)=>aA (p0.add 20) (.int .i64 (IntKind.i64.wrap (x3+1))) w (fun w4=>K (.bool ((bY:Int)==1)) w4)))
 (aa (x2==2)
 (eX p1 cE 1 bY cE 1 (fun a5 l6 c7=>ab Tryz.prog 91 #[.slice a5 l6 c7] w (.aN [.agg lI,.one (.int .i64)]) (fun(x8:iA×Int×Unit) w9=>ak (.cells #[.int .i64 0,.string (⟨#[]⟩:ByteArray),.string (⟨#[]⟩:ByteArray),.string (⟨#[]⟩:ByteArray),.string (⟨#[]⟩:ByteArray),.int .i64 0,.int .i64 0,.nilIface,.bool false] 110) w9 (fun g10 aO=>ar (ad g10) [.int .i64 x8.1.1,.string x8.1.2.1,.string x8.1.2.2.1,.string x8.1.2.2.2.1,.string x8.1.2.2.2.2.1,.int .i64 x8.1.2.2.2.2.2.1,.int .i64 x8.1.2.2.2.2.2.2.1,x8.1.2.2.2.2.2.2.2.1,.bool x8.1.2.2.2.2.2.2.2.2.1] aO (fun aM=>aD aM (fun aW=>aa (x8.2.1==0)
 (ae .ptr (p0.add 18) aW (fun(bd:Option Addr)=>aq lI (ad g10) aW (fun(bj:iA)=>ab Tryz.prog 92 #[.pointer bd,.agg #[.bool true,.bool false,.int .i64 bj.1,.string bj.2.1,.string bj.2.2.1,.string bj.2.2.2.1,.string bj.2.2.2.2.1,.int .i64 bj.2.2.2.2.2.1,.int .i64 bj.2.2.2.2.2.2.1,bj.2.2.2.2.2.2.2.1,.bool bj.2.2.2.2.2.2.2.2.1,.int .i64 0,.string (⟨#[]⟩:ByteArray),.string (⟨#[]⟩:ByteArray),.string (⟨#[]⟩:ByteArray),.string (⟨#[]⟩:ByteArray),.int .i64 0,.int .i64 0,.nilIface,.bool false,.bool false,.bool false,.bool false,.slice none 0 0]] aW (.v (.one (.int .i64))) (fun(aQ:Int) b9=>K (.bool (aQ==0)) b9))))
 (K (.bool false) aW)))))))
 (aa (x2==3)
 (eX p1 cE 1 bY cE 1 (fun va Gj c20=>ab Tryz.prog 93 #[.slice va Gj c20] w (.aN [.agg dt,.one (.int .i64)]) (fun(bT:bE×Int×Unit) bN=>ak (.cells #[.int .i64 0,.string (⟨#[]⟩:ByteArray),.string (⟨#[]⟩:ByteArray),.string (⟨#[]⟩:ByteArray),.string (⟨#[]⟩:ByteArray),.int .i64 0,.int .i64 0,.nilIface] 36) bN (fun g23 cm=>ar (ad g23) [.int .i64 bT.1.1,.string bT.1.2.1,.string bT.1.2.2.1,.string bT.1.2.2.2.1,.string bT.1.2.2.2.2.1,.int .i64 bT.1.2.2.2.2.2.1,.int .i64 bT.1.2.2.2.2.2.2.1,bT.1.2.2.2.2.2.2.2.1] cm (fun dk=>aD dk (fun ct=>aV (fun DD=>av DD (p0.add 18) (ae .ptr (p0.add 18) ct (fun(eN:Option Addr)=>av DD (p0.add 16) (ae (.int .i64) (p0.add 16) ct (fun(cx:Int)=>ab Tryz.prog 26 #[.pointer eN] ct (.v (.one .ptr)) (fun(eg:Option Addr) fh=>ai DD ct fh (ab Tryz.prog 27 #[.pointer eg] fh (.v (.one (.int .i64))) (fun(dK:Int) dS=>ai DD fh dS (uh 2 (aD dS (fun gh=>aa (bT.2.1==0)
 (aa ((Int.tmod dK 2)==cx)
 (ae .ptr (p0.add 18) gh (fun(de:Option Addr)=>aq dt (ad g23) gh (fun(eF:bE)=>ab Tryz.prog 92 #[.pointer de,.agg #[.bool false,.bool true,.int .i64 0,.string (⟨#[]⟩:ByteArray),.string (⟨#[]⟩:ByteArray),.string (⟨#[]⟩:ByteArray),.string (⟨#[]⟩:ByteArray),.int .i64 0,.int .i64 0,.nilIface,.bool false,.int .i64 eF.1,.string eF.2.1,.string eF.2.2.1,.string eF.2.2.2.1,.string eF.2.2.2.2.1,.int .i64 eF.2.2.2.2.2.1,.int .i64 eF.2.2.2.2.2.2.1,eF.2.2.2.2.2.2.2.1,.bool false,.bool false,.bool false,.bool false,.slice none 0 0]] gh (.v (.one (.int .i64))) (fun(gn:Int) gu=>K (.bool (gn==0)) gu))))
 (K (.bool false) gh))
 (K (.bool false) gh))))))))))))))))))
 (K (.bool false) w))))))
def pl43:aB:=(.seq .auto (.seq .auto (.seq (.seq .auto (.block (.seq .auto (.cond .auto (.seq .auto (.cond (.seq .auto (.seq (.tail 9) .auto)) (.seq .auto (.cond (.seq .auto (.seq (.held (.soft 0 (.soft 1 (.soft 2 (.soft 3 (.soft 7 (.soft 8 (.soft 9 (.soft 10 (.pick 4 (.pick 5 (.soft 6 (.soft 11 (.soft 12 .done))) .stop) .stop)))))))))) (.seq (.tail 12) .auto))) .auto)))))))) .auto)))
theorem c43 (p0:Addr)(p1:Option Addr)(bY cE:Nat)(w:World)(K:Value->World->Prop)(h:C43 p0 p1 bY cE w K):Ret Tryz.prog 43 #[.pointer (some p0),.slice p1 bY cE] w K:=aC (by kernel_rfl) Tryz.func43 (p:=pl43) (Eq.mpr (by kernel_rfl) h)
def C25 (p0:Addr)(w:World)(K:Value->World->Prop):Prop:=
 ae .ptr (p0.add 18) w (fun(x1:Option Addr)=>ab Tryz.prog 68 #[.pointer x1] w (.v (.one .ptr)) (fun(x2:Option Addr) w3=>K (.pointer x2) w3))
def pl25:aB:=.auto
theorem c25 (p0:Addr)(w:World)(K:Value->World->Prop)(h:C25 p0 w K):Ret Tryz.prog 25 #[.pointer (some p0)] w K:=aC (by kernel_rfl) Tryz.func25 (p:=pl25) (Eq.mpr (by kernel_rfl) h)
def C11 (p0:Addr)(w:World)(K:Value->World->Prop):Prop:=
 ae (.int .i64) (p0.add 20) w (fun(x1:Int)=>K (.int .i64 x1) w)
def pl11:aB:=.auto
theorem c11 (p0:Addr)(w:World)(K:Value->World->Prop)(h:C11 p0 w K):Ret Tryz.prog 11 #[.pointer (some p0)] w K:=aC (by kernel_rfl) Tryz.func11 (p:=pl11) (Eq.mpr (by kernel_rfl) h)
def C23 (p0:Addr)(w:World)(K:Value->World->Prop):Prop:=
 ae .ptr (p0.add 17) w (fun(x1:Option Addr)=>ab Tryz.prog 67 #[.pointer x1] w (.v (.one .bool)) (fun(x2:Bool) w3=>K (.bool x2) w3))
def pl23:aB:=.auto
theorem c23 (p0:Addr)(w:World)(K:Value->World->Prop)(h:C23 p0 w K):Ret Tryz.prog 23 #[.pointer (some p0)] w K:=aC (by kernel_rfl) Tryz.func23 (p:=pl23) (Eq.mpr (by kernel_rfl) h)
def C12 (p0:Addr)(p1:bE)(w:World)(K:Value->World->Prop):Prop:=
 ak (.cells ((bP p1).toArray) 36) w (fun g1 w2=>ab Tryz.prog 23 #[.pointer (some p0)] w2 (.v (.one .bool)) (fun(x3:Bool) w4=>aa x3
 (K (.int .i64 11) w4)
 (aD w4 (fun w5=>ae .ptr (p0.add 18) w5 (fun(x6:Option Addr)=>aq dt (ad g1) w5 (fun(x7:bE)=>ab Tryz.prog 45 #[.pointer x6,.agg (bP x7).toArray] w5 (.v (.one (.int .i64))) (fun(x8:Int) w9=>K (.int .i64 x8) w9)))))))
def pl12:aB:=(.seq .auto (.seq .auto (.seq (.tail 5) .auto)))
theorem c12 (p0:Addr)(p1:bE)(w:World)(K:Value->World->Prop)(h:C12 p0 p1 w K):Ret Tryz.prog 12 #[.pointer (some p0),.agg (bP p1).toArray] w K:=aC (by kernel_rfl) Tryz.func12 (p:=pl12) (Eq.mpr (by kernel_rfl) h)
def C99 (p0:Addr)(p1:cy)(w:World)(K:Value->World->Prop):Prop:=
 ak (.cells ((cD p1).toArray) 113) w (fun g1 w2=>ae .bool ((ad g1).add 0) w2 (fun(x3:Bool)=>aa x3
 (aq lI ((ad g1).add 2) w2 (fun(x4:iA)=>ab Tryz.prog 153 #[.agg (iO x4).toArray] w2 (.aN [.one .aj,.one (.int .i64)]) (fun(x5:an×Int×Unit) w6=>aa (x5.2.1 != 0)
 (K (.int .i64 x5.2.1) w6)
 (aD w6 (fun w7=>aV (fun S8=>av S8 (p0.add 17) (ae .ptr (p0.add 17) w7 (fun(x9:Option Addr)=>az Tryz.prog (Instr.buildSlice 22 1 #[(0,.int .u8 2)]) w7 (.v (.one .aj)) (fun(aR:an) aO=>ai S8 w7 aO (az Tryz.prog (Builtin.append_ #[22,22] 22 #[.slice aR.1 aR.2.1 aR.2.2,.slice x5.1.1 x5.1.2.1 x5.1.2.2]) aO (.v (.one .aj)) (fun(bt:an) aW=>ai S8 aO aW (ab Tryz.prog 44 #[.pointer x9,.slice bt.1 bt.2.1 bt.2.2] aW (.v (.one (.int .i64))) (fun(bd:Int) bL=>ai S8 aW bL (K (.int .i64 bd) bL))))))))))))))
 (ae .bool ((ad g1).add 1) w2 (fun(aQ:Bool)=>aa aQ
 (aq dt ((ad g1).add 11) w2 (fun(aX:bE)=>ab Tryz.prog 33 #[.agg (bP aX).toArray] w2 (.aN [.one .aj,.one (.int .i64)]) (fun(br:an×Int×Unit) bx=>aa (br.2.1 != 0)
 (K (.int .i64 br.2.1) bx)
 (aD bx (fun bo=>aV (fun mC=>av mC (p0.add 17) (ae .ptr (p0.add 17) bo (fun(bR:Option Addr)=>az Tryz.prog (Instr.buildSlice 22 1 #[(0,.int .u8 3)]) bo (.v (.one .aj)) (fun(cr:an) cm=>ai mC bo cm (az Tryz.prog (Builtin.append_ #[22,22] 22 #[.slice cr.1 cr.2.1 cr.2.2,.slice br.1.1 br.1.2.1 br.1.2.2]) cm (.v (.one .aj)) (fun(bC:an) ct=>ai mC cm ct (ab Tryz.prog 44 #[.pointer bR,.slice bC.1 bC.2.1 bC.2.2] ct (.v (.one (.int .i64))) (fun(cz:Int) bS=>ai mC ct bS (K (.int .i64 cz) bS))))))))))))))
 (K (.int .i64 0) w2)))))
def pl99:aB:=(.seq .auto (.seq .auto (.seq .auto (.seq .auto (.seq .auto (.seq .auto (.seq (.held (.soft 0 (.soft 1 (.soft 2 (.soft 3 (.soft 4 (.soft 6 (.pick 5 (.pick 7 (.pick 8 (.soft 9 .done) .stop) .stop) .stop)))))))) .auto)))))))
theorem c99 (p0:Addr)(p1:cy)(w:World)(K:Value->World->Prop)(h:C99 p0 p1 w K):Ret Tryz.prog 99 #[.pointer (some p0),.agg (cD p1).toArray] w K:=aC (by kernel_rfl) Tryz.func99 (p:=pl99) (Eq.mpr (by kernel_rfl) h)
def C46 (p0:Addr)(p1:cy)(w:World)(K:Value->World->Prop):Prop:=
 ak (.cells ((cD p1).toArray) 113) w (fun g1 w2=>aq cP (ad g1) w2 (fun(x3:cy)=>ab Tryz.prog 99 #[.pointer (some p0),.agg (cD x3).toArray] w2 (.v (.one (.int .i64))) (fun(x4:Int) w5=>aa (x4 != 0)
 (K (.tuple #[.slice none 0 0,.int .i64 x4]) w5)
 (aD w5 (fun w6=>ae .ptr (p0.add 18) w6 (fun(x7:Option Addr)=>aq cP (ad g1) w6 (fun(x8:cy)=>ab Tryz.prog 92 #[.pointer x7,.agg (cD x8).toArray] w6 (.v (.one (.int .i64))) (fun(x9:Int) aG=>aa (x9 != 0)
 (K (.tuple #[.slice none 0 0,.int .i64 x9]) aG)
 (ae .aj ((ad g1).add 23) aG (fun(ba:an)=>bw (an×Int×Unit) (fun _ fL aW yV=>aa (decide (fL.2.1<(ba.2.1:Int)))
 (bK ba.1 ba.2.1 fL.2.1 15 (fun uO=>aq fK uO aW (fun(aQ:di)=>ak (.cells #[.int .i64 0,.int .i64 0,.int .i64 0,.int .i64 0,.int .i64 0,.int .u64 0,.bool false,.int .i64 0,.string (⟨#[]⟩:ByteArray),.string (⟨#[]⟩:ByteArray),.string (⟨#[]⟩:ByteArray),.string (⟨#[]⟩:ByteArray),.int .i64 0,.int .i64 0,.nilIface] 42) aW (fun g17 bz=>ar (ad g17) (dv aQ) bz (fun bx=>aD bx (fun bo=>aV (fun mC=>av mC (p0.add 16) (ae (.int .i64) (p0.add 16) bo (fun(bR:Int)=>av mC (p0.add 20) (ae (.int .i64) (p0.add 20) bo (fun(cr:Int)=>av mC (p0.add 21) (ae (.int .i64) (p0.add 21) bo (fun(cj:Int)=>aA ((ad g17).add 0) (.int .i64 bR) bo (fun dk=>ai mC bo dk (aA ((ad g17).add 1) (.int .i64 cr) dk (fun ct=>ai mC dk ct (aA ((ad g17).add 2) (.int .i64 cj) ct (fun eJ=>ai mC ct eJ (aD eJ (fun bS=>aV (fun I9=>av I9 (p0.add 0) (eI 16 (p0.add 0) bS (fun eg=>av I9 (ad g17) (aq fK (ad g17) bS (fun(bZ:di)=>ab Tryz.prog 24 #[.agg eg.toArray,.agg (dv bZ).toArray] bS (.aN [.one .aj,.one (.int .i64)]) (fun(dK:an×Int×Unit) dS=>ai I9 bS dS (aa (dK.2.1 != 0)
 (K (.tuple #[.slice none 0 0,.int .i64 dK.2.1]) dS)
 (az Tryz.prog (Instr.buildSlice 37 1 #[(0,.slice dK.1.1 dK.1.2.1 dK.1.2.2)]) dS (.v (.one .aj)) (fun(dj:an) dX=>az Tryz.prog (Builtin.append_ #[37,37] 37 #[.slice fL.1.1 fL.1.2.1 fL.1.2.2,.slice dj.1 dj.2.1 dj.2.2]) dX (.v (.one .aj)) (fun(eF:an) dG=>ae (.int .i64) (p0.add 21) dG (fun(dF:Int)=>aA (p0.add 21) (.int .i64 (IntKind.i64.wrap (dF+1))) dG (fun eh=>yV ((eF.1,eF.2.1,eF.2.2),IntKind.i64.wrap (fL.2.1+1),()) eh))))))))))))))))))))))))))))))))
 (K (.tuple #[.slice fL.1.1 fL.1.2.1 fL.1.2.2,.int .i64 0]) aW))
 ((none,0,0),0,()) aG))))))))))
def pl46:aB:=(.seq .auto (.seq .auto (.seq (.seq (.tail 5) .auto) (.seq .auto (.seq (.seq .auto (.block (.loop [(8,.one .aj),(31,.one (.int .i64))] (.seq .auto (.seq .auto (.seq (.block (.seq .auto (.seq (.held (.soft 0 (.soft 1 (.soft 2 (.soft 3 (.soft 4 (.soft 5 (.soft 6 (.soft 7 (.soft 8 (.soft 9 (.soft 10 (.soft 11 (.soft 12 (.pick 13 (.soft 14 (.pick 15 (.soft 16 (.pick 17 .done .stop)) .stop)) .stop))))))))))))))) (.seq (.held (.soft 0 (.soft 1 (.soft 2 (.soft 3 (.soft 4 (.pick 5 (.soft 6 (.soft 7 (.soft 8 (.soft 9 (.soft 10 .done))))) .stop))))))) .auto)))) .auto)))))) .auto)))))
theorem c46 (p0:Addr)(p1:cy)(w:World)(K:Value->World->Prop)(h:C46 p0 p1 w K):Ret Tryz.prog 46 #[.pointer (some p0),.agg (cD p1).toArray] w K:=aC (by kernel_rfl) Tryz.func46 (p:=pl46) (Eq.mpr (by kernel_rfl) h)
def C13 (p0:Addr)(w:World)(K:Value->World->Prop):Prop:=
 ab Tryz.prog 23 #[.pointer (some p0)] w (.v (.one .bool)) (fun(x1:Bool) w2=>aa x1
 (K (.tuple #[.slice none 0 0,.int .i64 11]) w2)
 (ae .ptr (p0.add 18) w2 (fun(x3:Option Addr)=>ab Tryz.prog 47 #[.pointer x3] w2 (.v (.agg cP)) (fun(x4:cy) w5=>ab Tryz.prog 46 #[.pointer (some p0),.agg (cD x4).toArray] w5 (.aN [.one .aj,.one (.int .i64)]) (fun(x6:an×Int×Unit) w7=>K (.tuple #[.slice x6.1.1 x6.1.2.1 x6.1.2.2,.int .i64 x6.2.1]) w7)))))
def pl13:aB:=.auto
theorem c13 (p0:Addr)(w:World)(K:Value->World->Prop)(h:C13 p0 w K):Ret Tryz.prog 13 #[.pointer (some p0)] w K:=aC (by kernel_rfl) Tryz.func13 (p:=pl13) (Eq.mpr (by kernel_rfl) h)
def C18 (p0:Addr)(p1:Option Addr)(bY cE:Nat)(w:World)(K:Value->World->Prop):Prop:=
 ab Tryz.prog 23 #[.pointer (some p0)] w (.v (.one .bool)) (fun(x1:Bool) w2=>aa x1
 (K (.tuple #[.slice none 0 0,.int .i64 11]) w2)
 (eI 16 (p0.add 0) w2 (fun x3=>ab Tryz.prog 14 #[.agg x3.toArray,.slice p1 bY cE] w2 (.aN [.agg fK,.one (.int .i64)]) (fun(x4:di×Int×Unit) w5=>ak (.cells #[.int .i64 0,.int .i64 0,.int .i64 0,.int .i64 0,.int .i64 0,.int .u64 0,.bool false,.int .i64 0,.string (⟨#[]⟩:ByteArray),.string (⟨#[]⟩:ByteArray),.string (⟨#[]⟩:ByteArray),.string (⟨#[]⟩:ByteArray),.int .i64 0,.int .i64 0,.nilIface] 42) w5 (fun g6 w7=>ar (ad g6) [.int .i64 x4.1.1,.int .i64 x4.1.2.1,.int .i64 x4.1.2.2.1,.int .i64 x4.1.2.2.2.1,.int .i64 x4.1.2.2.2.2.1,.int .u64 x4.1.2.2.2.2.2.1,.bool x4.1.2.2.2.2.2.2.1,.int .i64 x4.1.2.2.2.2.2.2.2.1,.string x4.1.2.2.2.2.2.2.2.2.1,.string x4.1.2.2.2.2.2.2.2.2.2.1,.string x4.1.2.2.2.2.2.2.2.2.2.2.1,.string x4.1.2.2.2.2.2.2.2.2.2.2.2.1,.int .i64 x4.1.2.2.2.2.2.2.2.2.2.2.2.2.1,.int .i64 x4.1.2.2.2.2.2.2.2.2.2.2.2.2.2.1,x4.1.2.2.2.2.2.2.2.2.2.2.2.2.2.2.1] w7 (fun w8=>aa (x4.2.1 != 0)
 (K (.tuple #[.slice none 0 0,.int .i64 x4.2.1]) w8)
 (aD w8 (fun w9=>ae (.int .i64) ((ad g6).add 0) w9 (fun(aR:Int)=>ae (.int .i64) (p0.add 16) w9 (fun(ba:Int)=>aa (aR==ba)
 (K (.tuple #[.slice none 0 0,.int .i64 8]) w9)
 (aD w9 (fun aM=>ae .ptr (p0.add 19) aM (fun(bD:Option Addr)=>ae (.int .i64) ((ad g6).add 1) aM (fun(bd:Int)=>ae (.int .i64) ((ad g6).add 2) aM (fun(bj:Int)=>ab Tryz.prog 55 #[.pointer bD,.int .i64 bd,.int .i64 bj] aM (.v (.one .bool)) (fun(aQ:Bool) b9=>aa (!aQ)
 (K (.tuple #[.slice none 0 0,.int .i64 4]) b9)
 (aD b9 (fun bz=>aV (fun PZ=>av PZ (p0.add 18) (ae .ptr (p0.add 18) bz (fun(cw:Option Addr)=>av PZ (ad g6) (aq fK (ad g6) bz (fun(bT:di)=>ab Tryz.prog 56 #[.pointer cw,.agg (dv bT).toArray] bz (.v (.agg cP)) (fun(bR:cy) cV=>ab Tryz.prog 46 #[.pointer (some p0),.agg (cD bR).toArray] cV (.aN [.one .aj,.one (.int .i64)]) (fun(cj:an×Int×Unit) dk=>K (.tuple #[.slice cj.1.1 cj.1.2.1 cj.1.2.2,.int .i64 cj.2.1]) dk)))))))))))))))))))))))))
def pl18:aB:=(.seq .auto (.seq .auto (.seq .auto (.seq (.block (.seq .auto (.cond .auto (.seq .still (.cond .auto (.seq (.tail 8) .auto)))))) (.seq (.held (.soft 0 (.soft 1 (.soft 2 (.soft 3 (.soft 4 (.soft 5 (.last 6 (.last 7 (.soft 8 (.soft 9 (.soft 10 (.soft 11 .done))))))))))))) .auto)))))
theorem c18 (p0:Addr)(p1:Option Addr)(bY cE:Nat)(w:World)(K:Value->World->Prop)(h:C18 p0 p1 bY cE w K):Ret Tryz.prog 18 #[.pointer (some p0),.slice p1 bY cE] w K:=aC (by kernel_rfl) Tryz.func18 (p:=pl18) (Eq.mpr (by kernel_rfl) h)
def C16  (w:World) (K:Value->World->Prop):Prop:=
 ab Tryz.prog 8 #[.int .i64 500] w (.v (.one .ptr)) (fun(x1:Option Addr) w2=>aa (Option.isNone x1)
 (K (.bool false) w2)
 (ab Tryz.prog 10 #[.pointer x1,.agg #[.int .u8 1,.int .u8 0,.int .u8 0,.int .u8 0,.int .u8 0,.int .u8 0,.int .u8 0,.int .u8 0,.int .u8 0,.int .u8 0,.int .u8 0,.int .u8 0,.int .u8 0,.int .u8 0,.int .u8 0,.int .u8 0],.int .i64 0] w2 (.aN [.one .ptr,.one (.int .i64)]) (fun(x3:Option Addr×Int×Unit) w4=>aa (x3.2.1 != 0)
 (K (.bool false) w4)
 (aa (Option.isNone x3.1)
 (K (.bool false) w4)
 (ab Tryz.prog 11 #[.pointer x3.1] w4 (.v (.one (.int .i64))) (fun(x5:Int) w6=>aa (x5 != 1)
 (K (.bool false) w6)
 (ab Tryz.prog 12 #[.pointer x3.1,.agg #[.int .i64 5,.string (⟨#[]⟩:ByteArray),.string (⟨#[]⟩:ByteArray),.string (⟨#[]⟩:ByteArray),.string (⟨#[]⟩:ByteArray),.int .i64 1,.int .i64 0,.nilIface]] w6 (.v (.one (.int .i64))) (fun(x7:Int) w8=>aa (x7 != 0)
 (K (.bool false) w8)
 (ab Tryz.prog 13 #[.pointer x3.1] w8 (.aN [.one .aj,.one (.int .i64)]) (fun(x9:an×Int×Unit) aG=>aa (x9.2.1==0)
 (K (.bool ((x9.1.2.1:Int)==1)) aG)
 (K (.bool false) aG)))))))))))
def pl16:aB:=.auto
theorem c16  (w:World) (K:Value->World->Prop) (h:C16  w K):Ret Tryz.prog 16 #[] w K:=aC (by kernel_rfl) Tryz.func16 (p:=pl16) (Eq.mpr (by kernel_rfl) h)
theorem AX {N:Nat}{w:World}{F:Nat->Prop}{b:Nat}{n:NodeM}{fb fg:Nat}(h:ij N w F b n fb fg)(U:n.kb.length=16):Ret Tryz.prog 23 #[.pointer (some ⟨b,0,none⟩)] w fun r w'=>r=.bool n.dead/\w=w':=by
 obtain⟨j,pb,wb,S,Fp,h⟩:=h;refine c23 _ w _ ?_;refine h.bX U 1 (ck:=.ptr) (x:=some ⟨j,0,none⟩) rfl ?_;refine ab.of (Xx h.jr) ?_;rintro _ _ ⟨rfl,rfl⟩;exact⟨_,rfl,rfl,rfl⟩
theorem aa2 {N:Nat}{w:World}{F:Nat->Prop}{b:Nat}{n:NodeM}{fb fg:Nat}(h:ij N w F b n fb fg)(U:n.kb.length=16):Ret Tryz.prog 11 #[.pointer (some ⟨b,0,none⟩)] w fun r w'=>r=.int .i64 n.bg/\w=w':=by
 obtain⟨j,pb,wb,S,Fp,h⟩:=h;refine c11 _ w _ ?_;exact h.bX U 4 (ck:=.int .i64) (x:=n.bg) rfl ⟨rfl,rfl⟩
theorem P0 {N:Nat}{w:World}{F:Nat->Prop}{b:Nat}{n:NodeM}{fb fg:Nat}(h:ij N w F b n fb fg)(U:n.kb.length=16)(ho:cO n.p)(ht:gI N w)(m:aT)(hm:aJ m.t<=1000000):
  Ret Tryz.prog 12 #[.pointer (some ⟨b,0,none⟩),gX m.e] w fun r w'=>r=.int .i64 (n.offer m).2/\∃ F',ez N w F b (n.offer m).1 fb fg w' F' fg:=by
 have hR:=h;obtain⟨j,pb,wb,S,Fp,h⟩:=h;refine c12 _ m.e w _ ?_;unfold C12;refine ak.of fun g1 w1 df au f1 _=>?_;have e1:la w1 g1 m:=au;refine ab.of (AX (hR.af f1) U) ?_;rintro _ _ ⟨rfl,rfl⟩;refine⟨_,rfl,aa.by (fun hd=>?_) (fun hd=>?_)⟩
 ·have hd:n.dead=true:=hd
  have e:n.offer m=(n,11):=by unfold NodeM.offer;rw[if_pos hd]
  rw[e];exact⟨rfl,F,(ez.refl hR).dh f1⟩
 have hd:n.dead=false:=hd;have e:n.offer m=({ n with p:=(n.p.offer m).1 },(n.p.offer m).2):=by unfold NodeM.offer;rw[if_neg (by rw[hd];simp)]
 rw[e];refine aD.of fun w2 _ f2=>?_;have f12:=f1.trans f2;have h2:=h.af f12;refine h2.bX U 2 (ck:=.ptr) (x:=some ⟨pb,0,none⟩) rfl (aq.aE (cks:=gH) (x:=m.e) (e1.af f2) ?_);refine ab.of (aaY h2.pr ho (ht.j7.af f12) m hm) ?_;rintro _ w3 ⟨rfl,p3,f3⟩;obtain⟨F',_,t⟩:=h2.DC (p:=(n.p.offer m).1) (p3.mono fun k U=>.inl U) f3;exact⟨_,rfl,rfl,F',t.eL f12⟩
theorem P1 (n:NodeM)(j pb wb:Nat)(v:Int):(vR n j pb wb).set 4 (.int .i64 v)=vR { n with bg:=v } j pb wb:=rfl
theorem aa3 (n:NodeM)(j pb wb:Nat)(v:Int):(vR n j pb wb).set 5 (.int .i64 v)=vR { n with number:=v } j pb wb:=rfl
theorem aa4 (n:NodeM)(r:List UInt8):n.record (1::r)=({ n with bg:=n.bg+1 },r.isEmpty):=rfl
theorem aa5 (n:NodeM)(r:List UInt8):n.record (2::r)=if(iH false r).2≠0 then(n,false) else({ n with p:=(n.p.bW { bH with dc:=true,bh:=(iH false r).1 }).1 },(n.p.bW { bH with dc:=true,bh:=(iH false r).1 }).2==0):=rfl
theorem aa6 (n:NodeM)(r:List UInt8):n.record (3::r)=if(fQ false r).2≠0 then(n,false) else if n.p.len % 2≠n.side then(n,false) else({ n with p:=(n.p.bW { bH with cY:=true,bM:=(fQ false r).1 }).1 },true):=rfl
theorem aa7 (n:NodeM){c:UInt8}(r:List UInt8)(h1:c≠1)(h2:c≠2)(h3:c≠3):n.record (c::r)=(n,false):=by
 unfold NodeM.record;dsimp only;rw[if_neg h1,if_neg h2,if_neg h3]
theorem aa8 (p:PeerM)(a:bV)(h:a.dc=false):(p.bW a).2=0:=by unfold PeerM.bW;rw[if_neg (by rw[h];simp)]
theorem aa9 {N:Nat}{w:World}{F:Nat->Prop}{b:Nat}{n:NodeM}{fb fg j pb wb:Nat}{S Fp:Nat->Prop}(h:fq N w F b n fb fg j pb wb S Fp)(U:n.kb.length=16)(ho:cO n.p)(hs:n.side=0\/n.side=1)(he:0<=n.bg/\n.bg<=1000000000)(ht:gI N w){v:Sl}{bs:List UInt8}(hv:aZ w v bs)(hc:v.2.1<=v.2.2)(hbs:bs.length<=100000000):
  Ret Tryz.prog 43 #[.pointer (some ⟨b,0,none⟩),.slice v.1 v.2.1 v.2.2] w fun r w'=>r=.bool (n.record bs).2/\∃ F' yj,fq N w' F' b (n.record bs).1 fb fg j pb wb S yj/\ez N w F b (n.record bs).1 fb fg w' F' fg:=by
 have hR:ij N w F b n fb fg:=⟨_,_,_,_,_,h⟩;have td:n.p.kb.length=16:=ho.kb;have hl:=hv.len;refine c43 _ v.1 v.2.1 v.2.2 w _ ?_;unfold C43;cases bs with
 | nil=>
  refine aa.t (by rw[hl];rfl) ?_;exact⟨rfl,F,Fp,h,ez.refl hR⟩
 | cons c r=>
  have hl:v.2.1=r.length+1:=by rw[hl];rfl
  refine aa.f (by rw[hl];rw[beq_eq_false_iff_ne];omega) ?_;refine aZ.at hv (Int.le_refl _) (by omega) ?_;rw[show(c::r).getD (Int.toNat 0) 0=c by rfl];have Ja:∀ k:UInt8,((c.toNat:Int)=(k.toNat:Int))->c=k:=fun k t=>UInt8.toNat_inj.1 (by omega)
  -- Dv stands behind the first byte
  have rest:∀ {K:Option Addr->Nat->Nat->Prop},(∀ u:Sl,aZ w u r->u.2.1<=u.2.2->K u.1 u.2.1 u.2.2)->eX v.1 v.2.2 1 v.2.1 v.2.2 1 K:=by
   intro K k;refine aZ.jM hv (by omega) (by omega) (Int.le_refl _) hc fun u hu rb dm qd=>?_;refine k u ?_ rb;have e2:((c::r).drop (1:Int).toNat).take ((v.2.1:Int) - 1).toNat=r:=by
    rw[show(1:Int).toNat=1 by rfl];exact List.take_of_length_le (by rw[List.drop_succ_cons,List.drop_zero];omega)
   rw[e2] at hu;exact hu
  refine aa.eq (fun h1=>?_) (fun h1=>?_)
  ·obtain rfl:=Ja 1 h1
   rw[aa4];refine h.bX U 4 (ck:=.int .i64) (x:=n.bg) rfl ?_;have ew:IntKind.i64.wrap (n.bg+1)=n.bg+1:=wI (by omega) (by omega);rw[ew];refine rB U h.aE 4 (by show 4<6;decide) rfl fun w1 au f1 s1=>?_;rw[P1] at au;obtain⟨h1,t1⟩:=h.cell (n':={ n with bg:=n.bg+1 }) f1 au rfl rfl rfl
   refine⟨?_,F,Fp,h1,t1⟩;rw[hl]
   congr 1
   cases r with
   | nil=>rfl
   | cons x y=>simp only[List.length_cons,List.isEmpty_cons];rw[beq_eq_false_iff_ne];omega
  have n1:c≠1:=fun t=>h1 (by rw[t];rfl);refine aa.eq (fun h2=>?_) (fun h2=>?_)
  ·obtain rfl:=Ja 2 h2
   rw[aa5];refine rest fun u hu rb=>?_;refine ab.of (VF hu rb ht.j7) ?_;rintro _ w1 ⟨rfl,f1⟩;refine⟨(kU (iH false r).1.1.e (iH false r).1.2,(iH false r).2,()),rfl,?_⟩;have qg:=Of r;generalize iH false r=P at *;refine ak.of fun g2 w2 mz aK f2 _=>?_;have aK:w2.heap[g2]? = some (.cells (qh bb.e false).toArray 110 (0,0)):=aK;refine ar.aE (vs:=qh P.1.1.e P.1.2) aK rfl (GJ _ (Tm.bU _)) fun w3 aU f3 _=>aD.of fun w4 _ f4=>?_;have AY:w1.heap.size<=g2:=by omega
   have f14:Fr none1 w w4:=(f1.trans (f2.fresh f3 AY)).trans f4;have h4:=h.af f14;refine aa.eq (fun hz=>?_) (fun hz=>?_)
   ·have hz:P.2=0:=hz
    rw[if_neg (fun t=>t hz)];refine h4.bX U 2 (ck:=.ptr) (x:=some ⟨pb,0,none⟩) rfl (aq.aE (cks:=nv) (x:=kU P.1.1.e P.1.2) (f4.af aU) ?_);refine ab.of (I6 h4.pr (fun k U=>h4.lt k (h4.own.2.2.2.2 k U)) ho (ht.j7.af f14) { bH with dc:=true,bh:=P.1 } (none,0,0) qg) ?_
    rintro _ w5 ⟨rfl,p5,f5⟩;obtain⟨F',h5,t5⟩:=h4.DC p5 f5;refine⟨_,rfl,rfl,F',_,h5,t5.eL f14⟩
   ·have hz:P.2≠0:=hz
    rw[if_pos hz];exact⟨rfl,F,Fp,h4,(ez.refl hR).dh f14⟩
  have n2:c≠2:=fun t=>h2 (by rw[t];rfl);refine aa.eq (fun h3=>?_) (fun h3=>?_)
  ·obtain rfl:=Ja 3 h3
   rw[aa6];refine rest fun u hu rb=>?_;refine ab.of (GD hu rb ht.j7) ?_;rintro _ w1 ⟨rfl,f1⟩;refine⟨((fQ false r).1.e,(fQ false r).2,()),rfl,?_⟩;have qg:=HM r;generalize fQ false r=P at *;refine ak.of fun g2 w2 mz aK f2 _=>?_;have aK:w2.heap[g2]? = some (.cells (gz bb.e).toArray 36 (0,0)):=aK;refine ar.aE (vs:=gz P.1.e) aK rfl (vP _) fun w3 aU f3 _=>aD.of fun w4 _ f4=>aV.all ?_;have AY:w1.heap.size<=g2:=by omega
   have f14:Fr none1 w w4:=(f1.trans (f2.fresh f3 AY)).trans f4;have h4:=h.af f14;refine av.all (h4.bX U 2 (ck:=.ptr) (x:=some ⟨pb,0,none⟩) rfl (av.all (h4.bX U 0 (ck:=.int .i64) (x:=n.side) rfl ?_)));refine ab.of (I7 h4.pr ho) ?_;rintro _ w5 ⟨c5,rfl,yg,f5⟩;refine⟨_,rfl,ai.of f5 ?_⟩;refine ab.of (oz td yg) ?_;rintro _ _ ⟨rfl,rfl⟩;refine⟨_,rfl,ai.of (Fr.refl _ _) ⟨by decide,aD.of fun w6 _ f6=>?_⟩⟩;have f16:=(f14.trans f5).trans f6;have h6:=h.af f16;have stay:(Value.bool false=.bool (n,false).2/\∃ F' yj,fq N w6 F' b (n,false).1 fb fg j pb wb S yj/\ez N w F b (n,false).1 fb fg w6 F' fg):=⟨rfl,F,Fp,h6,(ez.refl hR).dh f16⟩;have em:Int.tmod ((n.p.es.length:Nat):Int) 2=n.p.len % 2:=Int.tmod_eq_emod_of_nonneg (by omega);refine aa.eq (fun hz=>?_) (fun hz=>?_)
   ·have hz:P.2=0:=hz
    rw[if_neg (fun t=>t hz)];refine aa.eq (fun mO=>?_) (fun mO=>?_)
    ·have mO:n.p.len % 2=n.side:=by rw[<- em];exact mO
     rw[if_neg (fun t=>t mO)];refine h6.bX U 2 (ck:=.ptr) (x:=some ⟨pb,0,none⟩) rfl (aq.aE (cks:=gH) (x:=P.1.e) ((f5.trans f6).af (f4.af aU)) ?_);refine ab.of (I6 h6.pr (fun k U=>h6.lt k (h6.own.2.2.2.2 k U)) ho (ht.j7.af f16) { bH with cY:=true,bM:=P.1 } (none,0,0) dJ) ?_
     rintro _ w7 ⟨rfl,p7,f7⟩;obtain⟨F',h7,t7⟩:=h6.DC p7 f7;refine⟨_,rfl,?_,F',_,h7,t7.eL f16⟩;rw[aa8 _ _ rfl];rfl
    ·have mO:n.p.len % 2≠n.side:=by rw[<- em];exact mO
     rw[if_pos mO];exact stay
   ·have hz:P.2≠0:=hz
    rw[if_pos hz];exact stay
  have n3:c≠3:=fun t=>h3 (by rw[t];rfl);rw[aa7 n r n1 n2 n3];exact⟨rfl,F,Fp,h,ez.refl hR⟩
theorem aba (x:eW)(h:dB x.1):(gj x).1.length<=10000001:=by
 have:=MR x.1 h;unfold du at this;unfold gj tE;split
 ·simp
 ·simp only[List.length_cons];omega
theorem abb {N:Nat}{w:World}{F:Nat->Prop}{b:Nat}{n:NodeM}{fb fg:Nat}(h:ij N w F b n fb fg)(U:n.kb.length=16)(hj:n.j.rs.length<=1000000)(ht:gI N w)(a:bV)(s:Sl)(he:dB a.bh.1)(hp:dB a.bM):
  Ret Tryz.prog 99 #[.pointer (some ⟨b,0,none⟩),.agg (fJ a s).toArray] w fun r w'=>r=.int .i64 (n.ag a).2/\∃ F' eB,ez N w F b (n.ag a).1 fb fg w' F' eB:=by
 have hR:=h;obtain⟨j,pb,wb,S,Fp,h⟩:=h;refine c99 _ (lW a s) w _ ?_;unfold C99;refine ak.of fun g1 w1 df au f1 _=>?_;have a1:iL w1 g1 a s:=au;have yi:=vQ a s;have h1:=h.af f1
 -- a record put
 have put:∀ (c:UInt8) (bs:List UInt8) (v:Sl) (w2:World) {fn:Sl->World->(Int->World->Prop)->Prop},Fr none1 w w2->cg w2 v bs->bs.length<=10000001->n.ag a=({ n with j:=(n.j.put (c::bs)).1 },(n.j.put (c::bs)).2) ->
   aD w2 (fun w7=>aV (fun S8=>av S8 ((⟨b,0,none⟩:Addr).add 17) (ae .ptr ((⟨b,0,none⟩:Addr).add 17) w7 (fun(x9:Option Addr)=>az Tryz.prog (Instr.buildSlice 22 1 #[(0,bc c)]) w7 (.v (.one .aj)) (fun(aR:Option Addr×Nat×Nat) aO=>ai S8 w7 aO (az Tryz.prog (Builtin.append_ #[22,22] 22 #[.slice aR.1 aR.2.1 aR.2.2,.slice v.1 v.2.1 v.2.2]) aO (.v (.one .aj)) (fun(bt:Option Addr×Nat×Nat) aW=>ai S8 aO aW (ab Tryz.prog 44 #[.pointer x9,.slice bt.1 bt.2.1 bt.2.2] aW (.v (.one (.int .i64))) (fun(bd:Int) bL=>ai S8 aW bL ((Value.int .i64 bd=.int .i64 (n.ag a).2/\∃ F' eB,ez N w F b (n.ag a).1 fb fg bL F' eB))))))))))):=by
  intro c bs v w2 _ f2 hv hl e;refine aD.of fun w7 _ f7=>aV.of (fun k=>k=b) ?_;have f27:=f2.trans f7;have h7:=h.af f27;refine⟨rfl,h7.bX U 1 (ck:=.ptr) (x:=some ⟨j,0,none⟩) rfl ?_⟩;refine Ab c fun u w8 hu f8 qd=>ai.of f8 ?_;obtain⟨y,w9,r9,hy,f9,CE⟩:=rK hu (((hv.af f7).af f8).rd) (by simp;omega);have z27:=f27.size;have zb:=h.lt b h.own.1;have zj:=h.lt j h.own.2.2.1;have zf:=h.jr.file.lt;have z8:=f8.size;have yb:∀ k,aw y k->w7.heap.size<=k:=fun k U=>by
   rcases CE k U with t | t
   ·exact qd k t
   ·omega
  have f9':Fr none1 w7 w9:=f8.comp f9 fun k U t=>by have:=qd k t;omega
  refine⟨y,w9,r9,ai.on f9 (fun k U t=>by have U:k=b:=U;have:=qd k t;omega) ?_⟩;have f29:=f27.trans f9';have h9:=h.af f29;have jK:=h.jr.slt;refine ab.of (NI h9.jr hy.rd (fun k U=>?_) hj) ?_
  ·have:=yb k U
   exact⟨aF.lt hy U,by omega,by omega,fun t=>by have:=jK k t;omega⟩
  rintro _ aG ⟨rfl,t10⟩;obtain⟨F',eB,S',ou,yk⟩:=h9.PY (J:=(n.j.put (c::bs)).1) t10;have f10:=t10.1;refine⟨_,rfl,ai.on f10 (fun k U t=>?_) ?_⟩
  ·have U:k=b:=U
   obtain⟨a1,a2,a3,a4,a5,a6,a7,a8,a9⟩:=h.apart
   rcases t with t | t | t
   ·exact a2 (by rw[<- U];exact t)
   ·rw[<- t,U] at zf
    exact h.file.1 (by rw[<- t,U];exact h.own.1)
   ·exact a4 (by rw[<- U];exact t)
  ·rw[e]
   exact⟨rfl,F',eB,yk.eL f29⟩
 refine a1.ld 0 (ck:=.bool) (x:=a.dc) yi.1 (aa.by (fun hE=>?_) (fun hE=>?_))
 ·have hE:a.dc=true:=hE
  have eb:NodeM.dI a=(2::(gj a.bh).1,(gj a.bh).2):=by unfold NodeM.dI;rw[if_pos hE]
  refine a1.bh ?_;have hw:=tz a.bh.1.t;refine ab.of (Ml a.bh.1.e a.bh.2 (vm _) he.e (bp a.bh.1.t).1 (by omega) (bp a.bh.1.t).2 w1 (fun _ w2 f2=>Cu a.bh.1.t he.2.2.2.2 (ht.j7.af f1) w2 f2)) ?_;rintro _ w2 ⟨v,rfl,hv,f2,vb⟩;refine⟨(v,(gj a.bh).2,()),rfl,aa.ne (fun ay=>?_) (fun hz=>?_)⟩
  ·have ay:(gj a.bh).2≠0:=ay
   have e:n.ag a=(n,(gj a.bh).2):=by unfold NodeM.ag;rw[if_neg (by rw[hE];simp),eb,if_pos ay]
   rw[e];exact⟨rfl,F,fg,(ez.refl hR).dh (f1.trans f2)⟩
  ·have hz:(gj a.bh).2=0:=hz
   have e:n.ag a=({ n with j:=(n.j.put (2::(gj a.bh).1)).1 },(n.j.put (2::(gj a.bh).1)).2):=by unfold NodeM.ag;rw[if_neg (by rw[hE];simp),eb,if_neg (fun t=>t hz)]
   exact put 2 (gj a.bh).1 v w2 (fn:=fun _ _ _=>True) (f1.trans f2) hv (aba _ he) e
 have hE:a.dc=false:=hE;refine a1.ld 1 (ck:=.bool) (x:=a.cY) yi.2.1 (aa.by (fun hP=>?_) (fun hP=>?_))
 ·have hP:a.cY=true:=hP
  have eb:NodeM.dI a=(3::(du a.bM).1,(du a.bM).2):=by unfold NodeM.dI;rw[if_neg (by rw[hE];simp)]
  refine a1.bM ?_;refine ab.of (MQ a.bM hp w1 (ht.j7.af f1)) ?_;rintro _ w2 ⟨v,rfl,hv,f2,vb⟩;refine⟨(v,(du a.bM).2,()),rfl,aa.ne (fun ay=>?_) (fun hz=>?_)⟩
  ·have ay:(du a.bM).2≠0:=ay
   have e:n.ag a=(n,(du a.bM).2):=by unfold NodeM.ag;rw[if_neg (by rw[hP];simp),eb,if_pos ay]
   rw[e];exact⟨rfl,F,fg,(ez.refl hR).dh (f1.trans f2)⟩
  ·have hz:(du a.bM).2=0:=hz
   have e:n.ag a=({ n with j:=(n.j.put (3::(du a.bM).1)).1 },(n.j.put (3::(du a.bM).1)).2):=by unfold NodeM.ag;rw[if_neg (by rw[hP];simp),eb,if_neg (fun t=>t hz)]
   exact put 3 (du a.bM).1 v w2 (fn:=fun _ _ _=>True) (f1.trans f2) hv (by have:=MR a.bM hp;omega) e
 ·have hP:a.cY=false:=hP
  have e:n.ag a=(n,0):=by unfold NodeM.ag;rw[if_pos ⟨hE,hP⟩]
  rw[e];exact⟨rfl,F,fg,(ez.refl hR).dh f1⟩
theorem abc {p:PeerM}{a:bV}(h:(p.bW a).2≠0):(p.bW a).1=p:=by
 unfold PeerM.bW at h ⊢;split at h
 ·rename_i t
  rw[if_pos t];split at h
  ·rename_i q;rw[if_pos q]
  ·exact absurd rfl h
 ·exact absurd rfl h
theorem abd {kb bs:List UInt8}(h:(eR kb bs).2=0):(eR kb bs).1.2.1<=9223372036854775807/\(eR kb bs).1.2.2.1<=9223372036854775807:=by
 unfold eR at h ⊢;split
 ·exact⟨by decide,by decide⟩
 split
 ·exact⟨by decide,by decide⟩
 split
 ·exact⟨by decide,by decide⟩
 split
 ·exact⟨by decide,by decide⟩
 ·rename_i h1 h2 h3 h4
  have hb:kW (ic (iI bs))=((kW (ic (iI bs))).1,0):=Prod.ext rfl (Classical.not_not.1 fun t=>h4 (.inl t));obtain⟨_,c2,c3,_⟩:=Cx (G2 hb).1;have c2:(ic (iI bs)).2.1<=2147483647:=c2.2;have c3:(ic (iI bs)).2.2.1<=2147483647:=c3.2;exact⟨by dsimp only;omega,by dsimp only;omega⟩
def oB (done:List (List UInt8))(r:List (List UInt8)×Int×Int):List (List UInt8)×Int×Int:=if r.2.2≠0 then([],r.2.1,r.2.2) else(done++r.1,r.2.1,0)
theorem P3 (kb:List UInt8)(side bg:Int)(f:cc)(l:List cc)(n:Int):NodeM.jP kb side bg (f::l) n=if(ib kb (side,bg,n,f.2.2.2)).2≠0 then([],n,(ib kb (side,bg,n,f.2.2.2)).2) else oB [(ib kb (side,bg,n,f.2.2.2)).1] (NodeM.jP kb side bg l (n+1)):=rfl
theorem abe (r:List (List UInt8)×Int×Int)(h:r.2.2≠0->r.1=[]):oB [] r=r:=by
 obtain⟨a,b,c⟩:=r;unfold oB;dsimp only at h ⊢
 by_cases hc:c≠0
 ·rw[if_pos hc,h hc]
 ·rw[if_neg hc]
  have:c=0:=Classical.not_not.1 hc;rw[this];rfl
theorem abf (kb:List UInt8)(side bg:Int):∀ (l:List cc) (n:Int),(NodeM.jP kb side bg l n).2.2≠0->(NodeM.jP kb side bg l n).1=[]
 | [],n,h=>rfl
 | f::l,n,h=>by
  rw[P3] at h ⊢;split at h
  ·rename_i t;rw[if_pos t]
  ·rename_i t
   rw[if_neg t];unfold oB at h ⊢;split at h
   ·rename_i q;rw[if_pos q]
   ·exact absurd rfl h
theorem abg (a b:List (List UInt8))(r:List (List UInt8)×Int×Int):oB a (oB b r)=oB (a++b) r:=by
 unfold oB
 by_cases h:r.2.2≠0
 ·rw[if_pos h,if_pos (by exact h),if_pos h]
 ·rw[if_neg h,if_neg (by simp),if_neg h,List.append_assoc]
theorem abh (l:List cc):nK l=((l.map fun f=>dC f.f)).flatten:=rfl
theorem abi (l:List cc):∀ x∈l.map (fun f=>dC f.f),x.length=15:=by
 intro x hx;obtain⟨f,_,rfl⟩:=List.mem_map.1 hx;rfl
structure kE (N:Nat)(w:World)(F:Nat->Prop)(b:Nat)(n':NodeM)(fb fg:Nat)(l:List (List UInt8))(v:Sl)(w':World):Prop where
 out:∃ F' eB S',ez N w F b n' fb fg w' F' eB/\iU w' S' v l/\(∀ k,S' k->w.heap.size<=k/\¬ F' k/\k≠fb/\k≠eB)
theorem kE.none {N:Nat}{w:World}{F:Nat->Prop}{b:Nat}{n':NodeM}{fb fg:Nat}{w':World}{F':Nat->Prop}{eB:Nat}(h:ez N w F b n' fb fg w' F' eB):kE N w F b n' fb fg [] (Option.none,0,0) w':=
 ⟨F',eB,fun _=>False,h,Ag _ _ (fun k t=>t.elim),fun k t=>t.elim⟩
theorem kE.eL {N:Nat}{w w1:World}{F:Nat->Prop}{b:Nat}{n':NodeM}{fb fg:Nat}{l:List (List UInt8)}{v:Sl}{w':World}(f:Fr none1 w w1)(h:kE N w1 F b n' fb fg l v w'):kE N w F b n' fb fg l v w':=by
 obtain⟨F',eB,S',a,b,c⟩:=h.out;exact⟨F',eB,S',a.eL f,b,fun k U=>⟨Nat.le_trans f.size (c k U).1,(c k U).2⟩⟩
theorem kE.of {N:Nat}{w w1:World}{F F1:Nat->Prop}{b:Nat}{n1 n':NodeM}{fb fg g1:Nat}{l:List (List UInt8)}{v:Sl}{w':World}(t:ez N w F b n1 fb fg w1 F1 g1)(h:kE N w1 F1 b n' fb g1 l v w'):kE N w F b n' fb fg l v w':=by
 obtain⟨F',eB,S',a,b,c⟩:=h.out;exact⟨F',eB,S',t.trans a,b,fun k U=>⟨Nat.le_trans t.f.size (c k U).1,(c k U).2⟩⟩
theorem P4 {N:Nat}{w:World}{F:Nat->Prop}{b:Nat}{n:NodeM}{fb fg:Nat}(h:ij N w F b n fb fg)(U:n.kb.length=16)(ho:cO n.p)(hj:n.j.rs.length<=1000000)(hn:0<=n.number/\n.number<=1000000000)(ht:gI N w)(a:bV)(s:Sl)(ha:qq a)
  (hs:aF w 42 15 s (nK a.bJ)) (xT:∀ k,aw s k->¬ F k/\k≠fb) :
  Ret Tryz.prog 46 #[.pointer (some ⟨b,0,none⟩),.agg (fJ a s).toArray] w fun r w'=>∃ v:Sl,r=.tuple #[.slice v.1 v.2.1 v.2.2,.int .i64 (n.act a).2.2]/\kE N w F b (n.act a).1 fb fg (n.act a).2.1 v w':=by
 obtain⟨aS,AZ,P5,Jb,_,_⟩:=h.lt;have mi:=ha.num;refine c46 _ (lW a s) w _ ?_;unfold C46;refine ak.of fun g1 w1 df au f1 _=>?_;have a1:iL w1 g1 a s:=au;refine aq.aE (cks:=dW) (x:=lW a s) au ?_;refine ab.of (abb (h.af f1) U hj (ht.af f1) a s ha.bh ha.bM) ?_;rintro _ w2 ⟨rfl,F2,sO,A0⟩;have t2:=A0.eL f1;obtain⟨k1,k2,k3,k4,k5,k6⟩:=HV (n:=n) a;refine⟨_,rfl,aa.ne (fun ay=>?_) (fun hz=>?_)⟩
 ·have ay:(n.ag a).2≠0:=ay
  have e:n.act a=((n.ag a).1,[],(n.ag a).2):=by unfold NodeM.act;rw[if_pos ay]
  rw[e];exact⟨(none,0,0),rfl,kE.none t2⟩
 have hz:(n.ag a).2=0:=hz;have P6:∀ k,w.heap.size<=k->¬ qA F fb k:=fun k U t=>by
  rcases t with t | t
  ·have:=aS k t;omega
  ·omega
 have P7:∀ k,aw s k->¬ qA F fb k:=fun k U t=>t.elim (xT k U).1 (xT k U).2;have abj:∀ k,aw s k->k<w.heap.size:=fun k U=>aF.lt hs U
 -- blocks of the act, and of Dv is to be said, stay
 have a2:iL w2 g1 a s:=A0.f.ag a1 (P6 g1 (by omega));have gk:aF w2 42 15 s (nK a.bJ):=(hs.af f1).ag A0.f P7;have uz:gI N w2:=t2.j7 h ht;refine aD.of fun w3 _ f3=>?_;have a3:iL w3 g1 a s:=f3.af a2;have t3:=t2.dh f3;obtain⟨j,pb,wb,S,Fp,h3⟩:=t3.r;have P8:(n.ag a).1.kb.length=16:=by rw[k2];exact U
 refine h3.bX P8 2 (ck:=.ptr) (x:=some ⟨pb,0,none⟩) rfl (aq.aE (cks:=dW) (x:=lW a s) a3 ?_);refine ab.of (I6 h3.pr (fun k U=>h3.lt k (h3.own.2.2.2.2 k U)) (by rw[k1];exact ho) (uz.af f3).j7 a s ha.bh) ?_;rw[k1];rintro _ w4 ⟨rfl,p4,f4⟩;obtain⟨F4,h4,t34⟩:=h3.DC p4 f4;have t4:=t3.trans t34;have g1F:∀ k,k<w3.heap.size->¬ F2 k->¬ F4 k:=fun k U hn t=>by
  rcases t34.sub k t with t | t
  ·exact hn t
  ·have:=t.1;omega
 have P9:∀ k,k<w1.heap.size->¬ qA F fb k->¬ F2 k:=fun k U hn t=>by
  rcases A0.sub k t with t | t
  ·exact hn (.inl t)
  ·have:=t.1;omega
 have z1:=f1.size;have z2:=A0.f.size;have z3:=f3.size;have z4:=f4.size;have l1:=bQ au;have nF4:∀ k,k<w1.heap.size->¬ qA F fb k->¬ F4 k:=fun k U hn=>g1F k (by omega) (P9 k U hn);have Qa:∀ k,k<w1.heap.size->¬ qA F fb k->¬ qA F2 fb k:=fun k U hn t=>t.elim (P9 k U hn) (fun q=>hn (.inr q));have a4:iL w4 g1 a s:=t34.f.ag a3 (Qa g1 l1 (P6 g1 (by omega)));have sq:aF w4 42 15 s (nK a.bJ):=(gk.af f3).ag t34.f fun k U=>Qa k (by have:=abj k U;omega) (P7 k U);refine⟨_,rfl,aa.ne (fun ay=>?_) (fun Jc=>?_)⟩
 ·have ay:(n.p.bW a).2≠0:=ay
  have e:n.act a=((n.ag a).1,[],(n.p.bW a).2):=by unfold NodeM.act;rw[if_neg (fun t=>t hz),k1,if_pos ay]
  have e2:({ (n.ag a).1 with p:=(n.p.bW a).1 }:NodeM)=(n.ag a).1:=by rw[abc ay,<- k1]
  rw[e2] at t4;rw[e];exact⟨(none,0,0),rfl,kE.none t4⟩
 have Jc:(n.p.bW a).2=0:=Jc;have abk:n.act a=({ (n.ag a).1 with p:=(n.p.bW a).1,number:=(NodeM.jP n.kb n.side n.bg a.bJ n.number).2.1 },(NodeM.jP n.kb n.side n.bg a.bJ n.number).1,(NodeM.jP n.kb n.side n.bg a.bJ n.number).2.2):=by
  unfold NodeM.act;rw[if_neg (fun t=>t hz),k1,if_neg (fun t=>t Jc)]
 rw[abk];refine a4.ld 23 (ck:=.aj) (x:=s) (by rw[pq];rfl) ?_
 -- the node behind so many acr
 let nd:Int->NodeM:=fun m=>{ (n.ag a).1 with p:=(n.p.bW a).1,number:=m }
 have hnd:∀ m,(nd m).kb.length=16:=fun m=>by show(n.ag a).1.kb.length=16;exact P8
 have jK:=hs.rd.1;have xk:s.2.1=a.bJ.length:=by
  have e:(nK a.bJ).length=15 * a.bJ.length:=by
   unfold nK
   induction a.bJ with
   | nil=>rfl
   | cons x l ih=>rw[List.map_cons,List.flatten_cons,List.length_append,ih,List.length_cons];show 15+_=_;omega
  omega
 have Mx:fq N w4 F4 b (nd n.number) fb sO j pb wb S (fun k=>Fp k\/cC w3 w4 k):=by rw[<- k5];exact h4
 refine bw.of (fun q w'=>∃ (i:Nat) (m:Int) (done:List (List UInt8)) (S':Nat->Prop),q.2.1=(i:Int)/\i<=a.bJ.length/\m=n.number+i/\iU w' S' q.1 done/\(∀ k,S' k->w4.heap.size<=k)/\fq N w' F4 b (nd m) fb sO j pb wb S (fun k=>Fp k\/cC w3 w4 k) /\
   NodeM.jP n.kb n.side n.bg a.bJ n.number=oB done (NodeM.jP n.kb n.side n.bg (a.bJ.drop i) m)/\done.length<=i/\Fr (only b) w4 w') (fun q _=>(a.bJ.length - q.2.1).toNat)
  ⟨0,n.number,[],fun _=>False,rfl,Nat.zero_le _,by simp,Ag _ _ (fun k t=>t.elim),fun k t=>t.elim,Mx,(abe _ (abf _ _ _ _ _)).symm,Nat.le_refl _,Fr.refl _ _⟩ ?_
 rintro _ ⟨q,i',_⟩ w5 ⟨i,m,done,S',A1,ja,hm,rj,nA,h5,sP,nZ,f5⟩;dsimp only at A1 rj;subst A1;have z5:=f5.size;have Qb:∀ {w':World},Fr (only b) w4 w'->Fr (qA F4 fb) w4 w':=fun f=>f.mono fun k _ t=>.inl (by have t:k=b:=t;rw[t];exact h4.own.1)
 -- Dv is given back
 have fin:∀ {w':World} {m':Int} {l:List (List UInt8)} {v:Sl} {S2:Nat->Prop},fq N w' F4 b (nd m') fb sO j pb wb S (fun k=>Fp k\/cC w3 w4 k)->Fr (only b) w4 w'->iU w' S2 v l->(∀ k,S2 k->w4.heap.size<=k)->kE N w F b (nd m') fb fg l v w':=by
  intro w' m' l v S2 hI f hr ri;refine⟨F4,sO,S2,t4.trans ⟨⟨_,_,_,_,_,hI⟩,fun k U=>.inl U,.inr (.inl rfl),Qb f⟩,hr,fun k U=>?_⟩;have:=ri k U;have:=h4.jr.file.lt;have:=h4.jr.file.pc;exact⟨by omega,fun t=>by have:=h4.lt k t;omega,by omega,by omega⟩
 refine aa.dec (fun Jd=>?_) (fun dQ=>?_)
 rotate_left
 ·have dQ:¬ (i:Int)<(s.2.1:Int):=dQ
  have hi:i=a.bJ.length:=by omega
  rw[hi,List.drop_length] at sP;have e:oB done (NodeM.jP n.kb n.side n.bg [] m)=(done,m,0):=by unfold oB;rw[if_neg (by intro t;exact t rfl)];simp[NodeM.jP]
  rw[e] at sP;rw[sP];exact⟨q,rfl,fin h5 f5 rj nA⟩
 have Jd:(i:Int)<(s.2.1:Int):=Jd;have hi:i<a.bJ.length:=by omega
 obtain⟨f,hf⟩:∃ f,a.bJ[i]? = some f:=⟨_,List.getElem?_eq_getElem hi⟩;have AN:a.bJ.drop i=f::a.bJ.drop (i+1):=by
  obtain⟨aS,he⟩:=List.getElem?_eq_some_iff.1 hf;rw[List.drop_eq_getElem_cons aS,he]
 rw[AN,P3] at sP;have sF:=ha.bJ f (List.mem_of_getElem? hf);obtain⟨p,hp⟩:∃ p,s.1=some p:=by
  cases hp:s.1 with
  | none=>have:=(hs.rd.2.1 hp).1;omega
  | some p=>exact⟨p,rfl⟩
 have nb:∀ k,aw s k->¬ (only b) k:=fun k U t=>by have t:k=b:=t;rw[t] at U;exact(xT b U).1 Jb
 have zU:=sq.ag f5 nb;rw[abh] at zU;refine⟨p,hp,(show(0:Int)<=(i:Int) by omega),(show(i:Int)<(s.2.1:Int) from Jd),?_⟩;rw[Int.toNat_natCast];refine dr.q8 zU.rd (abi _) (cks:=FK) (x:=f.f) (by rw[List.getElem?_map,hf];rfl) (by omega) ?_ hp;refine ak.of fun g6 w6 HJ fI f6 _=>ar.aE fI rfl (PG f) fun w7 gP f7 s7=>aD.of fun w8 _ f8=>aV.of (fun k=>k=b) ?_;have zb:=h5.lt b h5.own.1;have f58:Fr none1 w5 w8:=(f6.fresh f7 (by omega)).dh f8;have h8:=h5.af f58;have b8:w8.heap[g6]? = some (.cells (dC f.f).toArray 42 (0,0)):=f8.af gP;have yl:∀ k,k=b->¬ (only g6) k:=fun k U t=>by have t:k=g6:=t;omega
 refine⟨rfl,h8.bX (hnd m) 0 (ck:=.int .i64) (x:=n.side) (by show some (Value.int .i64 (n.ag a).1.side)=some (Value.int .i64 n.side);rw[k3]) ⟨rfl,h8.bX (hnd m) 4 (ck:=.int .i64) (x:=n.bg) (by show some (Value.int .i64 (n.ag a).1.bg)=some (Value.int .i64 n.bg);rw[k4]) ⟨rfl,h8.bX (hnd m) 5 (ck:=.int .i64) (x:=m) rfl ?_⟩⟩⟩;refine aA.ah b8 (by show _<15;decide) rfl fun w9 mB f9 s9=>ai.on f9 yl ?_;refine aA.ah mB (by simp[dC]) rfl fun aG nC f10 sr=>ai.on f10 yl ?_;refine aA.ah nC (by simp[dC]) rfl fun aO o7 f11 xW=>ai.on f11 yl ?_;have o7:aO.heap[g6]? = some (.cells (dC (cc.f (n.side,n.bg,m,f.2.2.2))).toArray 42 (0,0)):=o7;refine aD.of fun aM _ f12=>aV.all ?_;have A2:Fr none1 w5 aM:=(((f58.fresh f9 (by omega)).fresh f10 (by omega)).fresh f11 (by omega)).dh f12;have Qc:=h5.af A2;refine av.all (Qc.key (hnd m) (av.all (aq.aE (cks:=FK) (x:=cc.f (n.side,n.bg,m,f.2.2.2)) (f12.af o7) ?_)));have abl:gI N aM:=((t4.trans ⟨⟨_,_,_,_,_,h5⟩,fun k U=>.inl U,.inr (.inl rfl),Qb f5⟩:ez N w F b (nd m) fb fg w5 F4 sO).j7 h ht).af A2;refine ab.of (N9 (nd m).kb (hnd m) (n.side,n.bg,m,f.2.2.2) sF.1.e sF.1.2.2.2.2 sF.2 aM abl.j7) ?_;rw[show(nd m).kb=n.kb from k2];generalize ib n.kb (n.side,n.bg,m,f.2.2.2)=Z at *;rintro _ aW ⟨v,rfl,hv,f13⟩;refine⟨(v,Z.2,()),rfl,ai.of f13 (aa.ne (fun ay=>?_) (fun Je=>?_))⟩
 ·have ay:Z.2≠0:=ay
  rw[if_pos ay] at sP;have e:oB done ([],m,Z.2)=([],m,Z.2):=by unfold oB;rw[if_pos ay]
  rw[e] at sP;rw[sP];exact⟨(none,0,0),rfl,fin (Qc.af f13) ((f5.dh A2).dh f13) (Ag _ (fun _=>False) (fun k t=>t.elim)) (fun k t=>t.elim)⟩
 have Je:Z.2=0:=Je;rw[if_neg (fun t=>t Je),abg] at sP;have DE:Fr none1 w5 aW:=A2.trans f13;have abm:=rj.af DE;have Jf:∀ k,aw v k->aM.heap.size<=k:=hv.lo;have zc:=A2.size;have zc':=DE.size;have zT:=rj.lt;obtain⟨y,bm,r,bL,r14,f14,r15,f15,S2,ri,abn⟩:=abm.snoc hv.is.rd hv.is.cap (fun k U=>⟨aF.lt hv.is U,fun t=>by have:=zT k t;have:=Jf k U;omega⟩) (by omega);refine⟨y,bm,r14,r,bL,r15,?_⟩;have f5d:Fr none1 w5 bL\/True:=.inr trivial;have qp:∀ k,aw q k->¬ (only b) k/\¬ F4 k/\k≠fb/\k≠sO:=fun k U=>by
  have h1:=nA k (rj.own k U);have:=h4.lt b h4.own.1;have:=h4.jr.file.lt;have:=h4.jr.file.pc;exact⟨fun t=>by have t:k=b:=t;omega,fun t=>by have:=h4.lt k t;omega,by omega,by omega⟩
 have Jg:fq N bL F4 b (nd m) fb sO j pb wb S (fun k=>Fp k\/cC w3 w4 k):=(h5.af DE).ag f15 (fun k U t=>(qp k t).2.1 U) (fun t=>(qp fb t).2.2.1 rfl) (fun t=>(qp sO t).2.2.2 rfl);have f45:Fr (only b) w4 bL:=by
  refine(f5.dh DE).comp f15 fun k U t=>?_;have:=nA k (rj.own k t);omega
 refine Jg.bX (hnd m) 5 (ck:=.int .i64) (x:=m) rfl ?_;have hwm:IntKind.i64.wrap (m+1)=m+1:=wI (by omega) (by omega);rw[hwm];refine rB (hnd m) Jg.aE 5 (by show 5<6;decide) rfl fun bn Cp f16 Wa=>?_;rw[aa3] at Cp;obtain⟨DF,_⟩:=Jg.cell (n':=nd (m+1)) f16 Cp rfl rfl rfl;refine⟨⟨i+1,m+1,done++[Z.1],S2,?_,by omega,by omega,abn.ag f16 (fun k U t=>?_),fun k U=>?_,DF,sP,by simp;omega,f45.trans f16⟩,?_⟩
 ·dsimp only;rw[wI (by omega) (by omega)];omega
 ·have t:k=b:=t
  have:=h4.lt b h4.own.1
  rcases ri k U with q | q | q
  ·have:=nA k q;omega
  ·have:=Jf k q;omega
  ·omega
 ·rcases ri k U with q | q | q
  ·exact nA k q
  ·have:=Jf k q;omega
  ·omega
 ·dsimp only;rw[wI (by omega) (by omega)];omega
theorem Qd {N:Nat}{w:World}{F:Nat->Prop}{b:Nat}{n:NodeM}{fb fg:Nat}(h:ij N w F b n fb fg)(U:n.kb.length=16)(ho:cO n.p)(hj:n.j.rs.length<=1000000)(hn:0<=n.number/\n.number<=1000000000)(ht:gI N w):
  Ret Tryz.prog 13 #[.pointer (some ⟨b,0,none⟩)] w fun r w'=>∃ v:Sl,r=.tuple #[.slice v.1 v.2.1 v.2.2,.int .i64 n.tick.2.2]/\kE N w F b n.tick.1 fb fg n.tick.2.1 v w':=by
 obtain⟨aS,AZ,P5,Jb,_,_⟩:=h.lt;refine c13 _ w _ ?_;unfold C13;refine ab.of (AX h U) ?_;rintro _ _ ⟨rfl,rfl⟩;refine⟨_,rfl,aa.by (fun hd=>?_) (fun hd=>?_)⟩
 ·have hd:n.dead=true:=hd
  have e:n.tick=(n,[],11):=by unfold NodeM.tick;rw[if_pos hd]
  rw[e];exact⟨(none,0,0),rfl,kE.none (ez.refl h)⟩
 have hd:n.dead=false:=hd;have e:n.tick=n.act n.p.tick:=by unfold NodeM.tick;rw[if_neg (by rw[hd];simp)]
 rw[e];have h':=h;obtain⟨j,pb,wb,S,Fp,h'⟩:=h';refine h'.bX U 2 (ck:=.ptr) (x:=some ⟨pb,0,none⟩) rfl ?_;refine ab.of (aaG h'.pr ho ht.j7) ?_;rintro _ w1 ⟨⟨s,rfl,hs,sf⟩,f1⟩;refine⟨lW n.p.tick s,rfl,?_⟩;refine ab.of (P4 (h.af f1) U ho hj hn (ht.af f1) n.p.tick s ho.tick hs fun k U=>?_) ?_
 ·have:=sf k U
  exact⟨fun t=>by have:=aS k t;omega,by omega⟩
 rintro _ w2 ⟨v,rfl,h2⟩;exact⟨(v,(n.act n.p.tick).2.2,()),rfl,v,rfl,h2.eL f1⟩
theorem abo {N:Nat}{w:World}{F:Nat->Prop}{b:Nat}{n:NodeM}{fb fg:Nat}(h:ij N w F b n fb fg)(U:n.kb.length=16)(ho:cO n.p)(hj:n.j.rs.length<=1000000)(hn:0<=n.number/\n.number<=1000000000)(ht:gI N w){u:Sl}{bs:List UInt8}(hu:aZ w u bs)(hc:u.2.1<=u.2.2)(hl:bs.length<=140737488355300):
  Ret Tryz.prog 18 #[.pointer (some ⟨b,0,none⟩),.slice u.1 u.2.1 u.2.2] w fun r w'=>∃ v:Sl,r=.tuple #[.slice v.1 v.2.1 v.2.2,.int .i64 (n.take bs).2.2]/\kE N w F b (n.take bs).1 fb fg (n.take bs).2.1 v w':=by
 obtain⟨aS,AZ,P5,Jb,_,_⟩:=h.lt;refine c18 _ u.1 u.2.1 u.2.2 w _ ?_;unfold C18;refine ab.of (AX h U) ?_;rintro _ _ ⟨rfl,rfl⟩;refine⟨_,rfl,aa.by (fun hd=>?_) (fun hd=>?_)⟩
 ·have hd:n.dead=true:=hd
  have e:n.take bs=(n,[],11):=by unfold NodeM.take;rw[if_pos hd]
  rw[e];exact⟨(none,0,0),rfl,kE.none (ez.refl h)⟩
 have hd:n.dead=false:=hd;have hR:=h;obtain⟨j,pb,wb,S,Fp,h⟩:=h;refine h.key U ?_;refine ab.of (Yw n.kb U hu hc hl ht.j7) ?_;rintro _ w1 ⟨rfl,f1⟩;have qg:=Og n.kb bs;have abp:n.take bs=if(eR n.kb bs).2≠0 then(n,[],(eR n.kb bs).2) else if(eR n.kb bs).1.1=n.side then(n,[],8) else if n.w.acc (eR n.kb bs).1.2.1 (eR n.kb bs).1.2.2.1=false then(n,[],4) else
   ({ n with w:=n.w.accept (eR n.kb bs).1.2.1 (eR n.kb bs).1.2.2.1 }:NodeM).act (n.p.take (eR n.kb bs).1):=by
  conv=>lhs;unfold NodeM.take
  rw[if_neg (by rw[hd];simp)]
 have Qe:(eR n.kb bs).2=0->(eR n.kb bs).1.2.1<=9223372036854775807/\(eR n.kb bs).1.2.2.1<=9223372036854775807:=abd;rw[abp];generalize eR n.kb bs=O at *;refine⟨(O.1.f,O.2,()),rfl,?_⟩;refine ak.of fun g2 w2 mz aK f2 _=>ar.aE (vs:=dC O.1.f) aK rfl (PG O.1) fun w3 aU f3 s3=>?_;have AY:w.heap.size<=g2:=by have:=f1.size;omega
 have f13:Fr none1 w w3:=(f1.trans f2).fresh f3 AY;refine aa.ne (fun ay=>?_) (fun hz=>?_)
 ·have ay:O.2≠0:=ay
  rw[if_pos ay];exact⟨(none,0,0),rfl,kE.none ((ez.refl hR).dh f13)⟩
 have hz:O.2=0:=hz;rw[if_neg (fun t=>t hz)];refine aD.of fun w4 _ f4=>?_;have f14:=f13.trans f4;have dw:=f4.af aU;have h4:=h.af f14;refine ae.ah dw (x:=O.1.1) rfl (h4.bX U 0 (ck:=.int .i64) (x:=n.side) rfl (aa.eq (fun hs=>?_) (fun hs=>?_)))
 ·have hs:O.1.1=n.side:=hs
  rw[if_pos hs];exact⟨(none,0,0),rfl,kE.none ((ez.refl hR).dh f14)⟩
 have hs:O.1.1≠n.side:=hs;rw[if_neg hs];refine aD.of fun w5 _ f5=>?_;have f15:=f14.trans f5;have cW:=f5.af dw;have h5:=h.af f15;refine h5.bX U 3 (ck:=.ptr) (x:=some ⟨wb,0,none⟩) rfl (ae.ah cW (x:=O.1.2.1) rfl (ae.ah cW (x:=O.1.2.2.1) rfl ?_));refine ab.of (WV _ _ h5.wr (Qe hz).1 (Qe hz).2) ?_;rintro _ w6 ⟨rfl,f6,wr6⟩;obtain⟨h6,t6⟩:=h5.wto (W:=n.w.accept O.1.2.1 O.1.2.2.1) wr6 f6;have z15:=f15.size;have nwb:g2≠wb:=fun t=>by have:=h.lt wb h.own.2.1;omega
 have fI:=f6.ag cW nwb;have acs:n.w.acc O.1.2.1 O.1.2.2.1=jg n.w.e n.w.h n.w.s O.1.2.1 O.1.2.2.1:=rfl;refine⟨_,rfl,aa.not (aa.by (fun hA=>?_) (fun hA=>?_))⟩
 rotate_left
 ·have hA:n.w.acc O.1.2.1 O.1.2.2.1=false:=hA
  rw[if_pos hA];have en:({ n with w:=n.w.accept O.1.2.1 O.1.2.2.1 }:NodeM)=n:=by
   have:n.w.accept O.1.2.1 O.1.2.2.1=n.w:=by
    unfold rk.accept;rw[hA];unfold tL rh tM;simp
   rw[this]
  rw[en] at t6;exact⟨(none,0,0),rfl,kE.none (t6.eL f15)⟩
 have hA:n.w.acc O.1.2.1 O.1.2.2.1=true:=hA;rw[if_neg (by rw[hA];simp)];refine aD.of fun w7 _ f7=>aV.all ?_;have h7:=h6.af f7;have t7:=(t6.eL f15).dh f7;refine av.all (h7.bX U 2 (ck:=.ptr) (x:=some ⟨pb,0,none⟩) rfl (av.all (aq.aE (cks:=FK) (x:=O.1.f) (f7.af fI) ?_)));have EY:=t7.j7 hR ht;refine ab.of (aaR h7.pr ho EY.j7 O.1 qg) ?_;rintro _ w8 ⟨⟨s,rfl,hs8,sf⟩,f8⟩;refine⟨lW (n.p.take O.1) s,rfl,?_⟩;have z8:=f8.size;refine ab.of (P4 (n:={ n with w:=n.w.accept O.1.2.1 O.1.2.2.1 }) ((t7.dh f8).r) U ho hj hn (EY.af f8) (n.p.take O.1) s (ho.take qg) hs8 fun k U=>?_) ?_
 ·have:=sf k U
  have:=h7.jr.file.lt;exact⟨fun t=>by have:=h7.lt k t;omega,by omega⟩
 rintro _ w9 ⟨v,rfl,h9⟩;exact⟨(v,_,()),rfl,v,rfl,(h9.of (t7.dh f8))⟩
end Go.Proofs.YtmkehncgjnhhcaaGreatDoor
