/-
  Texts of this claim, put together: CCashG, CashSpec, CCloneG, CChainG, ChainSpec, CLedG, LedSpec, LedSpec2, LedSpec3, ChainAdd.
  Conditions: those of each theorem.
-/
import Derived.Test.YtmkehncgjnhhcaaGreatDoorQND22x0
import Derived.Test.YtmkehncgjnhhcaaGreatDoorQND22x2
import Derived.Test.YtmkehncgjnhhcaaGreatDoorQND22x3
import Derived.Test.YtmkehncgjnhhcaaGreatDoorQND22x4
import Derived.KernelRfl
import Derived.Test.YtmkehncgjnhhcaaGreatDoorProg
namespace Go.Proofs.YtmkehncgjnhhcaaGreatDoor
open Vc
set_option maxRecDepth 100000
set_option linter.unusedVariables false
def C323 (p0:Addr)(p1:Int)(p2:Option Addr)(AU IE:Nat)(w:World)(K:Value->World->Prop):Prop:=
 bC (Int×Unit) (fun _ s1 w2 gO=>aa (decide (s1.1<(AU:Int)))
 (bQ p2 AU s1.1 1 (fun a4=>ae .str a4 w2 (fun(x5:ByteArray)=>ak (.cells #[.bool false,.string (⟨#[]⟩:ByteArray),.string (⟨#[]⟩:ByteArray),.int .i64 0,.int .i64 0] 154) w2 (fun g6 w7=>ar (ad g6) [.bool false,.string x5,.string (⟨#[]⟩:ByteArray),.int .i64 p1,.int .i64 0] w7 (fun w8=>aD w8 (fun w9=>ae .aj (p0.add 3) w9 (fun(aQ:an)=>aq wL (ad g6) w9 (fun(aX:oa)=>ab Tryz.prog 340 #[.slice aQ.1 aQ.2.1 aQ.2.2,.agg (nf aX).toArray] w9 (.v (.one .bool)) (fun(bx:Bool) aY=>aa (!bx)
 (aD aY (fun bo=>aV (fun nM=>av nM (p0.add 3) (ae .aj (p0.add 3) bo (fun(aS:an)=>av nM (ad g6) (aq wL (ad g6) bo (fun(ba:oa)=>aA Tryz.prog (Instr.buildSlice 151 1 #[(0,.agg (nf ba).toArray)]) bo (.v (.one .aj)) (fun(bB:an) bu=>ai nM bo bu (aA Tryz.prog (Builtin.append_ #[151,151] 151 #[.slice aS.1 aS.2.1 aS.2.2,.slice bB.1 bB.2.1 bB.2.2]) bu (.v (.one .aj)) (fun(cG:an) bw=>az (p0.add 3) (.slice cG.1 cG.2.1 cG.2.2) bw (fun bJ=>gO (IntKind.i64.wrap (s1.1+1),()) bJ)))))))))))
 (gO (IntKind.i64.wrap (s1.1+1),()) aY))))))))))
 (K (.tuple #[]) w2))
 (0,()) w
def pl323:aB:=(.seq .auto (.block (.loop [(11,.one (.int .i64))] (.seq .auto (.seq .auto (.seq (.block (.seq .auto (.seq .auto (.seq (.tail 5) (.cond (.held (.soft 0 (.soft 1 (.soft 2 (.soft 3 (.soft 4 (.soft 5 (.pick 6 (.last 7 (.soft 8 (.soft 9 (.last 10 .done)))) .stop)))))))) .auto))))) .auto))))))
theorem c323 (p0:Addr)(p1:Int)(p2:Option Addr)(AU IE:Nat)(w:World)(K:Value->World->Prop)(h:C323 p0 p1 p2 AU IE w K):Ret Tryz.prog 323 #[.pointer (some p0),.int .i64 p1,.slice p2 AU IE] w K:=aC (by kernel_rfl) Tryz.func323 (p:=pl323) (Eq.mpr (by kernel_rfl) h)
def C306 (p0:Addr)(p1:Value)(p2:Int)(w:World)(K:Value->World->Prop):Prop:=
 ae .ptr (p0.add 1) w (fun(x1:Option Addr)=>ab Tryz.prog 322 #[p1,.int .i64 p2,.pointer x1] w (.aN [.one (.int .i64),.one .bool,.one (.int .i64)]) (fun(x2:Int×Bool×Int×Unit) w3=>aa (x2.2.2.1==0)
 (aa (!x2.2.1)
 (ae .ptr (p0.add 1) w3 (fun(x4:Option Addr)=>ab Tryz.prog 324 #[p1,.int .i64 p2,.pointer x4] w3 (.v (.one .aj)) (fun(x5:an) w6=>ab Tryz.prog 323 #[.pointer (some p0),.int .i64 p2,.slice x5.1 x5.2.1 x5.2.2] w6 (.aN []) (fun(x7:Unit) w8=>K (.tuple #[.int .i64 x2.1,.bool x2.2.1,.int .i64 x2.2.2.1]) w8))))
 (K (.tuple #[.int .i64 x2.1,.bool x2.2.1,.int .i64 x2.2.2.1]) w3))
 (K (.tuple #[.int .i64 x2.1,.bool x2.2.1,.int .i64 x2.2.2.1]) w3)))
def pl306:aB:=.auto
theorem c306 (p0:Addr)(p1:Value)(p2:Int)(w:World)(K:Value->World->Prop)(h:C306 p0 p1 p2 w K):Ret Tryz.prog 306 #[.pointer (some p0),p1,.int .i64 p2] w K:=aC (by kernel_rfl) Tryz.func306 (p:=pl306) (Eq.mpr (by kernel_rfl) h)
def C282 (p0:Addr)(p1:Value)(p2:Value)(p3:Int)(p4:Int)(w:World)(K:Value->World->Prop):Prop:=
 ab Tryz.prog 258 #[.pointer (some p0),p1,.int .i64 p3,.int .i64 p4] w (.v (.one (.int .i64))) (fun(x1:Int) w2=>aa (x1 != 0)
 (K (.int .i64 x1) w2)
 (ab Tryz.prog 258 #[.pointer (some p0),p2,.int .i64 p3,.int .i64 p4] w2 (.v (.one (.int .i64))) (fun(x3:Int) w4=>K (.int .i64 x3) w4)))
def pl282:aB:=.auto
theorem c282 (p0:Addr)(p1:Value)(p2:Value)(p3:Int)(p4:Int)(w:World)(K:Value->World->Prop)(h:C282 p0 p1 p2 p3 p4 w K):Ret Tryz.prog 282 #[.pointer (some p0),p1,p2,.int .i64 p3,.int .i64 p4] w K:=aC (by kernel_rfl) Tryz.func282 (p:=pl282) (Eq.mpr (by kernel_rfl) h)
def C283 (p0:Addr)(p1:Value×Value×Unit)(p2:Int)(p3:Int)(w:World)(K:Value->World->Prop):Prop:=
 ak (.cells #[p1.1,p1.2.1] 245) w (fun g1 w2=>ae .raw ((ad g1).add 0) w2 (fun(x3:Value)=>ab Tryz.prog 306 #[.pointer (some p0),x3,.int .i64 p2] w2 (.aN [.one (.int .i64),.one .bool,.one (.int .i64)]) (fun(x4:Int×Bool×Int×Unit) w5=>aa (x4.2.2.1 != 0)
 (K (.int .i64 x4.2.2.1) w5)
 (aa (!x4.2.1)
 (K (.int .i64 x4.2.2.1) w5)
 (ab Tryz.prog 307 #[.int .i64 p3,.int .i64 x4.1] w5 (.aN [.one (.int .i64),.one .bool]) (fun(x6:Int×Bool×Unit) w7=>aa (!x6.2.1)
 (K (.int .i64 6) w7)
 (aa (x6.1==0)
 (K (.int .i64 0) w7)
 (ae .raw ((ad g1).add 1) w7 (fun(x8:Value)=>ab Tryz.prog 258 #[.pointer (some p0),x8,.int .i64 p2,.int .i64 x6.1] w7 (.v (.one (.int .i64))) (fun(x9:Int) aG=>K (.int .i64 x9) aG))))))))))
def pl283:aB:=.auto
theorem c283 (p0:Addr)(p1:Value×Value×Unit)(p2:Int)(p3:Int)(w:World)(K:Value->World->Prop)(h:C283 p0 p1 p2 p3 w K):Ret Tryz.prog 283 #[.pointer (some p0),.agg #[p1.1,p1.2.1],.int .i64 p2,.int .i64 p3] w K:=aC (by kernel_rfl) Tryz.func283 (p:=pl283) (Eq.mpr (by kernel_rfl) h)
def C284 (p0:Addr)(p1:Value×Value×Value×Unit)(p2:Int)(p3:Int)(w:World)(K:Value->World->Prop):Prop:=
 ak (.cells #[p1.1,p1.2.1,p1.2.2.1] 249) w (fun g1 w2=>ae .raw ((ad g1).add 0) w2 (fun(x3:Value)=>ab Tryz.prog 306 #[.pointer (some p0),x3,.int .i64 p2] w2 (.aN [.one (.int .i64),.one .bool,.one (.int .i64)]) (fun(x4:Int×Bool×Int×Unit) w5=>aa (x4.2.2.1 != 0)
 (K (.int .i64 x4.2.2.1) w5)
 (aa (!x4.2.1)
 (K (.int .i64 x4.2.2.1) w5)
 (aa (decide (x4.1 > 0))
 (ae .raw ((ad g1).add 1) w5 (fun(x6:Value)=>ab Tryz.prog 258 #[.pointer (some p0),x6,.int .i64 p2,.int .i64 p3] w5 (.v (.one (.int .i64))) (fun(x7:Int) w8=>K (.int .i64 x7) w8)))
 (ae .raw ((ad g1).add 2) w5 (fun(x9:Value)=>ab Tryz.prog 258 #[.pointer (some p0),x9,.int .i64 p2,.int .i64 p3] w5 (.v (.one (.int .i64))) (fun(aQ:Int) aO=>K (.int .i64 aQ) aO))))))))
def pl284:aB:=.auto
theorem c284 (p0:Addr)(p1:Value×Value×Value×Unit)(p2:Int)(p3:Int)(w:World)(K:Value->World->Prop)(h:C284 p0 p1 p2 p3 w K):Ret Tryz.prog 284 #[.pointer (some p0),.agg #[p1.1,p1.2.1,p1.2.2.1],.int .i64 p2,.int .i64 p3] w K:=aC (by kernel_rfl) Tryz.func284 (p:=pl284) (Eq.mpr (by kernel_rfl) h)
def C285 (p0:Addr)(p1:ByteArray×Value×Value×Unit)(p2:Int)(p3:Int)(w:World)(K:Value->World->Prop):Prop:=
 ak (.cells #[.string p1.1,p1.2.1,p1.2.2.1] 241) w (fun g1 w2=>aD w2 (fun w3=>aV (fun S4=>av S4 (p0.add 1) (ae .ptr (p0.add 1) w3 (fun(x5:Option Addr)=>av S4 (p0.add 0) (ae .str (p0.add 0) w3 (fun(x6:ByteArray)=>av S4 ((ad g1).add 0) (ae .str ((ad g1).add 0) w3 (fun(x7:ByteArray)=>ab Tryz.prog 308 #[.pointer x5,.string x6,.string x7] w3 (.aN [.one (.int .i64),.one (.int .i64),.one .bool]) (fun(x8:Int×Int×Bool×Unit) w9=>cy (Bool×Unit) (fun vQ=>aa (!x8.2.2.1)
 (vQ (decide (p3 > 0),()) w9)
 (vQ (false,()) w9))
 (fun _ AV aL=>aa AV.1
 (aD aL (fun aY=>aV (fun uc=>av uc (p0.add 3) (ae .aj (p0.add 3) aY (fun(bn:an)=>av uc ((ad g1).add 0) (ae .str ((ad g1).add 0) aY (fun(aS:ByteArray)=>aA Tryz.prog (Instr.buildSlice 151 1 #[(0,.agg #[.bool true,.string (⟨#[]⟩:ByteArray),.string aS,.int .i64 p2,.int .i64 0])]) aY (.v (.one .aj)) (fun(ba:an) bt=>ai uc aY bt (aA Tryz.prog (Builtin.append_ #[151,151] 151 #[.slice bn.1 bn.2.1 bn.2.2,.slice ba.1 ba.2.1 ba.2.2]) bt (.v (.one .aj)) (fun(br:an) bh=>az (p0.add 3) (.slice br.1 br.2.1 br.2.2) bh (fun bw=>K (.int .i64 0) bw)))))))))))
 (aa (!x8.2.2.1)
 (aD aL (fun bJ=>aV (fun IF=>av IF (p0.add 3) (ae .aj (p0.add 3) bJ (fun(cm:an)=>av IF ((ad g1).add 0) (ae .str ((ad g1).add 0) bJ (fun(bD:ByteArray)=>aA Tryz.prog (Instr.buildSlice 151 1 #[(0,.agg #[.bool true,.string (⟨#[]⟩:ByteArray),.string bD,.int .i64 p2,.int .i64 1])]) bJ (.v (.one .aj)) (fun(dc:an) eN=>ai IF bJ eN (aA Tryz.prog (Builtin.append_ #[151,151] 151 #[.slice cm.1 cm.2.1 cm.2.2,.slice dc.1 dc.2.1 dc.2.2]) eN (.v (.one .aj)) (fun(eR:an) eD=>az (p0.add 3) (.slice eR.1 eR.2.1 eR.2.2) eD (fun bS=>K (.int .i64 0) bS)))))))))))
 (aa (x8.1==0)
 (ae .raw ((ad g1).add 1) aL (fun(bZ:Value)=>ab Tryz.prog 258 #[.pointer (some p0),bZ,.int .i64 (if x8.2.1 > p2 then x8.2.1 else p2),.int .i64 p3] aL (.v (.one (.int .i64))) (fun(df:Int) dE=>K (.int .i64 df) dE)))
 (ae .raw ((ad g1).add 2) aL (fun(dh:Value)=>ab Tryz.prog 258 #[.pointer (some p0),dh,.int .i64 (if x8.2.1 > p2 then x8.2.1 else p2),.int .i64 p3] aL (.v (.one (.int .i64))) (fun(dv:Int) dd=>K (.int .i64 dv) dd))))))))))))))))
def pl285:aB:=(.seq .auto (.seq (.held (.soft 0 (.soft 1 (.soft 2 (.soft 3 (.soft 4 (.soft 5 (.soft 6 (.soft 7 (.soft 8 (.soft 9 (.last 10 (.soft 11 (.soft 12 (.soft 13 (.soft 14 (.soft 15 (.soft 16 (.soft 17 .done))))))))))))))))))) (.seq (.block (.join [(27,.one .bool)] .auto (.cond (.seq (.held (.soft 0 (.soft 1 (.soft 2 (.soft 3 (.soft 4 (.soft 5 (.soft 6 (.soft 7 (.soft 8 (.pick 9 (.last 10 (.soft 11 (.soft 12 (.last 13 .done)))) .stop))))))))))) .auto) (.seq .auto (.cond (.seq (.held (.soft 0 (.soft 1 (.soft 2 (.soft 3 (.soft 4 (.soft 5 (.soft 6 (.soft 7 (.soft 8 (.pick 9 (.last 10 (.soft 11 (.soft 12 (.last 13 .done)))) .stop))))))))))) .auto) .auto))))) .auto)))
theorem c285 (p0:Addr)(p1:ByteArray×Value×Value×Unit)(p2:Int)(p3:Int)(w:World)(K:Value->World->Prop)(h:C285 p0 p1 p2 p3 w K):Ret Tryz.prog 285 #[.pointer (some p0),.agg #[.string p1.1,p1.2.1,p1.2.2.1],.int .i64 p2,.int .i64 p3] w K:=aC (by kernel_rfl) Tryz.func285 (p:=pl285) (Eq.mpr (by kernel_rfl) h)
def C258 (p0:Addr)(p1:Value)(p2:Int)(p3:Int)(w:World)(K:Value->World->Prop):Prop:=
 ao p1 216 (.agg [.str]) (fun(x1:ByteArray×Unit)=>ak (.cells #[.string (⟨#[]⟩:ByteArray)] 216) w (fun g2 w3=>ar (ad g2) [.string x1.1] w3 (fun w4=>aD w4 (fun w5=>aV (fun S6=>av S6 (p0.add 2) (ae .aj (p0.add 2) w5 (fun(x7:an)=>av S6 ((ad g2).add 0) (ae .str ((ad g2).add 0) w5 (fun(x8:ByteArray)=>aA Tryz.prog (Instr.buildSlice 163 1 #[(0,.agg #[.int .i64 p2,.string x8,.int .i64 p3])]) w5 (.v (.one .aj)) (fun(x9:an) aG=>ai S6 w5 aG (aA Tryz.prog (Builtin.append_ #[163,163] 163 #[.slice x7.1 x7.2.1 x7.2.2,.slice x9.1 x9.2.1 x9.2.2]) aG (.v (.one .aj)) (fun(aX:an) aL=>az (p0.add 2) (.slice aX.1 aX.2.1 aX.2.2) aL (fun aY=>K (.int .i64 0) aY)))))))))))))
 (ao p1 237 (.agg [.raw]) (fun(bg:Value×Unit)=>ak (.cells #[.nilIface] 237) w (fun g15 bj=>ar (ad g15) [bg.1] bj (fun cj=>ae .raw ((ad g15).add 0) cj (fun(bB:Value)=>ab Tryz.prog 258 #[.pointer (some p0),bB,.int .i64 p2,.int .i64 (IntKind.i64.wrap (0 - p3))] cj (.v (.one (.int .i64))) (fun(br:Int) bh=>K (.int .i64 br) bh)))))
 (ao p1 239 (.agg [.raw,.raw]) (fun(bY:Value×Value×Unit)=>ak (.cells #[.nilIface,.nilIface] 239) w (fun g22 cL=>ar (ad g22) [bY.1,bY.2.1] cL (fun cg=>ae .raw ((ad g22).add 0) cg (fun(bD:Value)=>ae .raw ((ad g22).add 1) cg (fun(dc:Value)=>ab Tryz.prog 282 #[.pointer (some p0),bD,dc,.int .i64 p2,.int .i64 p3] cg (.v (.one (.int .i64))) (fun(cA:Int) bV=>K (.int .i64 cA) bV))))))
 (ao p1 247 (.agg [.int .i64,.raw]) (fun(cB:Int×Value×Unit)=>ak (.cells #[.int .i64 0,.nilIface] 247) w (fun rU fo=>ar (ad rU) [.int .i64 cB.1,cB.2.1] fo (fun cU=>ae .raw ((ad rU).add 1) cU (fun(dA:Value)=>ae (.int .i64) ((ad rU).add 0) cU (fun(dh:Int)=>ab Tryz.prog 258 #[.pointer (some p0),dA,.int .i64 (if dh > p2 then dh else p2),.int .i64 p3] cU (.v (.one (.int .i64))) (fun(dv:Int) dd=>K (.int .i64 dv) dd))))))
 (ao p1 245 (.agg [.raw,.raw]) (fun(gP:Value×Value×Unit)=>ak (.cells #[.nilIface,.nilIface] 245) w (fun PF dO=>ar (ad PF) [gP.1,gP.2.1] dO (fun dP=>aq [.raw,.raw] (ad PF) dP (fun(eM:Value×Value×Unit)=>ab Tryz.prog 283 #[.pointer (some p0),.agg #[eM.1,eM.2.1],.int .i64 p2,.int .i64 p3] dP (.v (.one (.int .i64))) (fun(iA:Int) jQ=>K (.int .i64 iA) jQ)))))
 (ao p1 249 (.agg [.raw,.raw,.raw]) (fun(iY:Value×Value×Value×Unit)=>ak (.cells #[.nilIface,.nilIface,.nilIface] 249) w (fun tz iy=>ar (ad tz) [iY.1,iY.2.1,iY.2.2.1] iy (fun gI=>aq [.raw,.raw,.raw] (ad tz) gI (fun(fS:Value×Value×Value×Unit)=>ab Tryz.prog 284 #[.pointer (some p0),.agg #[fS.1,fS.2.1,fS.2.2.1],.int .i64 p2,.int .i64 p3] gI (.v (.one (.int .i64))) (fun(fD:Int) mG=>K (.int .i64 fD) mG)))))
 (ao p1 241 (.agg [.str,.raw,.raw]) (fun(jx:ByteArray×Value×Value×Unit)=>ak (.cells #[.string (⟨#[]⟩:ByteArray),.nilIface,.nilIface] 241) w (fun xY p8=>ar (ad xY) [.string jx.1,jx.2.1,jx.2.2.1] p8 (fun gW=>aq [.str,.raw,.raw] (ad xY) gW (fun(qx:ByteArray×Value×Value×Unit)=>ab Tryz.prog 285 #[.pointer (some p0),.agg #[.string qx.1,qx.2.1,qx.2.2.1],.int .i64 p2,.int .i64 p3] gW (.v (.one (.int .i64))) (fun(j8:Int) om=>K (.int .i64 j8) om)))))
 (K (.int .i64 0) w)))))))
def pl258:aB:=(.seq .auto (.seq (.seq .auto (.block (.seq .auto (.cond (.seq .auto (.held (.soft 0 (.soft 1 (.soft 2 (.soft 3 (.soft 4 (.soft 5 (.soft 6 (.soft 7 (.soft 8 (.soft 9 (.pick 10 (.last 11 (.soft 12 (.soft 13 (.last 14 .done)))) .stop))))))))))))) .auto)))) .auto))
theorem c258 (p0:Addr)(p1:Value)(p2:Int)(p3:Int)(w:World)(K:Value->World->Prop)(h:C258 p0 p1 p2 p3 w K):Ret Tryz.prog 258 #[.pointer (some p0),p1,.int .i64 p2,.int .i64 p3] w K:=aC (by kernel_rfl) Tryz.func258 (p:=pl258) (Eq.mpr (by kernel_rfl) h)
def C233 (p0:ByteArray)(p1:Value)(p2:Int)(p3:Addr)(w:World)(K:Value->World->Prop):Prop:=
 ab Tryz.prog 170 #[p1] w (.v (.one (.int .i64))) (fun(x1:Int) w2=>aa (x1 != 0)
 (K (.tuple #[.slice none 0 0,.slice none 0 0,.int .i64 1]) w2)
 (aa (decide (p2<0))
 (K (.tuple #[.slice none 0 0,.slice none 0 0,.int .i64 1]) w2)
 (aa (decide (p2 > 10000))
 (K (.tuple #[.slice none 0 0,.slice none 0 0,.int .i64 1]) w2)
 (ak (.cells #[.string p0,.pointer (some p3),.slice none 0 0,.slice none 0 0] 413) w2 (fun g3 w4=>ab Tryz.prog 258 #[.pointer (some (ad g3)),p1,.int .i64 p2,.int .i64 1] w4 (.v (.one (.int .i64))) (fun(x5:Int) w6=>aa (x5 != 0)
 (K (.tuple #[.slice none 0 0,.slice none 0 0,.int .i64 x5]) w6)
 (aD w6 (fun w7=>ae .aj ((ad g3).add 2) w7 (fun(x8:an)=>ae .aj ((ad g3).add 3) w7 (fun(x9:an)=>K (.tuple #[.slice x8.1 x8.2.1 x8.2.2,.slice x9.1 x9.2.1 x9.2.2,.int .i64 0]) w7))))))))))
def pl233:aB:=(.seq .auto (.seq .auto (.seq .auto (.seq .auto (.seq .still .auto)))))
theorem c233 (p0:ByteArray)(p1:Value)(p2:Int)(p3:Addr)(w:World)(K:Value->World->Prop)(h:C233 p0 p1 p2 p3 w K):Ret Tryz.prog 233 #[.string p0,p1,.int .i64 p2,.pointer (some p3)] w K:=aC (by kernel_rfl) Tryz.func233 (p:=pl233) (Eq.mpr (by kernel_rfl) h)
def C340 (p0:Option Addr)(aJ aP:Nat)(p1:oa)(w:World)(K:Value->World->Prop):Prop:=
 ak (.cells ((nf p1).toArray) 154) w (fun g1 w2=>aq wL (ad g1) w2 (fun(x3:oa)=>ab Tryz.prog 358 #[.slice p0 aJ aP,.agg (nf x3).toArray] w2 (.v (.one (.int .i64))) (fun(x4:Int) w5=>K (.bool (decide (x4 >= 0))) w5)))
def pl340:aB:=.auto
theorem c340 (p0:Option Addr)(aJ aP:Nat)(p1:oa)(w:World)(K:Value->World->Prop)(h:C340 p0 aJ aP p1 w K):Ret Tryz.prog 340 #[.slice p0 aJ aP,.agg (nf p1).toArray] w K:=aC (by kernel_rfl) Tryz.func340 (p:=pl340) (Eq.mpr (by kernel_rfl) h)
def C358 (p0:Option Addr)(aJ aP:Nat)(p1:oa)(w:World)(K:Value->World->Prop):Prop:=
 ak (.cells ((nf p1).toArray) 154) w (fun g1 w2=>bC (Int×Unit) (fun _ s3 w4 kV=>aa (decide (s3.1<(aJ:Int)))
 (aD w4 (fun w6=>aq wL (ad g1) w6 (fun(x7:oa)=>bQ p0 aJ s3.1 5 (fun a8=>aq wL a8 w6 (fun(x9:oa)=>aA Tryz.prog (do eqGuard .eql 154 (.tmp 11) (.tmp 15) (.agg (nf x7).toArray) (.agg (nf x9).toArray);binOp .eql 154 (.agg (nf x7).toArray) (.agg (nf x9).toArray)) w6 (.v (.one .bool)) (fun(aQ:Bool) aO=>aa aQ
 (K (.int .i64 s3.1) aO)
 (kV (IntKind.i64.wrap (s3.1+1),()) aO)))))))
 (K (.int .i64 (-1)) w4))
 (0,()) w2)
def pl358:aB:=(.seq .auto (.seq (.seq .auto (.block (.loop [(8,.one (.int .i64))] (.seq .auto (.seq .auto (.seq (.block (.seq .auto (.seq (.tail 5) .auto))) .auto)))))) .auto))
theorem c358 (p0:Option Addr)(aJ aP:Nat)(p1:oa)(w:World)(K:Value->World->Prop)(h:C358 p0 aJ aP p1 w K):Ret Tryz.prog 358 #[.slice p0 aJ aP,.agg (nf p1).toArray] w K:=aC (by kernel_rfl) Tryz.func358 (p:=pl358) (Eq.mpr (by kernel_rfl) h)
theorem x0 {α:Type}{s:Nat}:∀ {vs:List (List α)},(∀ l∈vs,l.length=s)->vs.flatten.length=vs.length * s
 | [],_=>by simp
 | l::vs,h=>by
  rw[List.flatten_cons,List.length_append,h l (by simp),x0 (fun x hx=>h x (by simp[hx])),List.length_cons,Nat.succ_mul];omega
theorem ya {w:World}{v:Sl}{vs:List (List Value)}{s:Nat}(h:du w s v vs.flatten)(qM:0<s)(hs:∀ l∈vs,l.length=s){cks:List Ck}{x:Cs cks}{i:Nat}(hx:vs[i]? = some (Cs.vals cks x)){K:Cs cks->Prop}(k:K x):
  bQ v.1 v.2.1 (i:Int) s fun a=>aq cks a w K:=by
 have hl:=x0 hs;rw[h.1] at hl;have hl:=Nat.eq_of_mul_eq_mul_right qM hl;have hi:=(List.getElem?_eq_some_iff.1 hx).1;cases hv:v.1 with
 | none=>have:=(h.2.1 hv).1;omega
 | some p=>exact⟨p,rfl,by omega,by omega,by rw[Int.toNat_natCast];exact h.sA hs hx (by omega) k hv⟩
theorem mR {P:Program}{w:World}{t E s bytes:Nat}{z:Value}(he:iw P t E s z bytes)(vs:List Value)(hl:vs.length=s)(hs:s<=2 ^ 24):
  ∃ (y:Sl) (w':World),(Instr.buildSlice t 1 #[(0,.agg vs.toArray)]).run P w=.ok (.slice y.1 y.2.1 y.2.2) w'/\aF w' E s y vs/\y.2.1=1/\Fr none1 w w'/\(∀ k,aw y k->w.heap.size<=k):=by
 obtain⟨y,w',a,b,c,d⟩:=MT (w:=w) he [vs] (by simpa using hl) (by simpa using hs);rw[List.flatten_cons,List.flatten_nil,List.append_nil] at b;exact⟨y,w',a,b,c,d⟩
abbrev ud:List Ck:=[.bool,.str,.str,.int .i64,.int .i64]
abbrev PG:List Ck:=[.int .i64,.str,.int .i64]
abbrev qy (x:gB):Cs ud:=(x.1,str x.2.1,str x.2.2.1,x.2.2.2.1,x.2.2.2.2,())
abbrev flV (x:lC):Cs PG:=(x.1,str x.2.1,x.2.2,())
def mS (x:gB):List Value:=[.bool x.1,.string (str x.2.1),.string (str x.2.2.1),.int .i64 x.2.2.2.1,.int .i64 x.2.2.2.2]
def ue (x:lC):List Value:=[.int .i64 x.1,.string (str x.2.1),.int .i64 x.2.2]
def j0 (l:List gB):List Value:=(l.map mS).flatten
def lL (l:List lC):List Value:=(l.map ue).flatten
theorem Dw (l:List gB):∀ x∈l.map mS,x.length=5:=by intro x hx;obtain⟨y,_,rfl⟩:=List.mem_map.1 hx;rfl
theorem PH (l:List lC):∀ x∈l.map ue,x.length=3:=by intro x hx;obtain⟨y,_,rfl⟩:=List.mem_map.1 hx;rfl
theorem yc (l:List gB):(j0 l).length=l.length * 5:=by unfold j0;rw[x0 (Dw l),List.length_map]
theorem Dx (l:List lC):(lL l).length=l.length * 3:=by unfold lL;rw[x0 (PH l),List.length_map]
theorem aab (l:List gB)(x:gB):j0 (l++[x])=j0 l++mS x:=by unfold j0;simp
theorem aac (l:List lC)(x:lC):lL (l++[x])=lL l++ue x:=by unfold lL;simp
theorem aad (l m:List gB):j0 (l++m)=j0 l++j0 m:=by unfold j0;simp
theorem aae (l m:List lC):lL (l++m)=lL l++lL m:=by unfold lL;simp
theorem PI (x:gB):∀ v∈mS x,bK v=true:=by intro v hv;simp[mS] at hv;rcases hv with rfl | rfl | rfl | rfl | rfl<;>rfl
theorem PJ (x:lC):∀ v∈ue x,bK v=true:=by intro v hv;simp[ue] at hv;rcases hv with rfl | rfl | rfl<;>rfl
theorem aaf (l:List gB):∀ v∈j0 l,bK v=true:=by intro v hv;unfold j0 at hv;obtain⟨x,hx,hv⟩:=List.mem_flatten.1 hv;obtain⟨y,_,rfl⟩:=List.mem_map.1 hx;exact PI y v hv
theorem aag (l:List lC):∀ v∈lL l,bK v=true:=by intro v hv;unfold lL at hv;obtain⟨x,hx,hv⟩:=List.mem_flatten.1 hv;obtain⟨y,_,rfl⟩:=List.mem_map.1 hx;exact PJ y v hv
theorem IG:iw Tryz.prog 151 154 5 (.agg #[.bool false,.string ⟨#[]⟩,.string ⟨#[]⟩,.int .i64 0,.int .i64 0]) 56:=⟨Tryz.underlying151,⟨Tryz.t154,by kernel_rfl,rfl,rfl,rfl⟩,rfl,by decide⟩
theorem IH:iw Tryz.prog 163 219 3 (.agg #[.int .i64 0,.string ⟨#[]⟩,.int .i64 0]) 32:=⟨Tryz.underlying163,⟨Tryz.t219,by kernel_rfl,rfl,rfl,rfl⟩,rfl,by decide⟩
def yd (x:gB):List Pv:=[.b x.1,.s x.2.1,.s x.2.2.1,.i x.2.2.2.1,.i x.2.2.2.2]
theorem aah {x y:gB}(h:yd x=yd y):x=y:=by
 obtain⟨a,b,c,d,e⟩:=x;obtain⟨a',b',c',d',e'⟩:=y;simp only[yd,List.cons.injEq,Pv.b.injEq,Pv.s.injEq,Pv.i.injEq,and_true] at h;obtain⟨rfl,rfl,rfl,rfl,rfl⟩:=h;rfl
theorem PK (a:gB):vN Tryz.prog 154 (yd a):=by
 have hf:∃ fs,Tryz.prog.underlying 154=some (.struct fs)/\Tryz.prog.fieldsOf 154=fs:=by
  unfold Program.fieldsOf;rw[Tryz.underlying154];exact⟨_,rfl,rfl⟩
 refine⟨by obtain⟨fs,h1,h2⟩:=hf;rw[h1,h2],by kernel_rfl,by kernel_rfl,?_⟩;unfold Program.fieldsOf;rw[Tryz.underlying154];exact⟨by decide,rfl,Tryz.underlying4,by decide,rfl,Tryz.underlying9,by decide,rfl,Tryz.underlying9,by decide,rfl,Tryz.underlying3,by decide,rfl,Tryz.underlying3,trivial⟩
theorem aai {w:World}{v:Sl}{l:List gB}(h:du w 5 v (j0 l))(hl:l.length<=100000000)(y:gB):
  Ret Tryz.prog 358 #[.slice v.1 v.2.1 v.2.2,.agg (mS y).toArray] w fun r w'=>(∃ i:Int,r=.int .i64 i/\decide (i >= 0)=decide (y∈l))/\Fr none1 w w':=by
 have hlen:v.2.1=l.length:=by have:=h.1;rw[yc] at this;omega
 refine c358 v.1 v.2.1 v.2.2 (qy y) w _ ?_;refine ak.of fun g w1 hg hb f1 _=>?_;refine bC.of (fun st w'=>∃ i:Nat,st.1=i/\i<=l.length/\y ∉ l.take i/\Fr none1 w1 w') (fun st _=>(v.2.1 - st.1).toNat) ⟨0,rfl,Nat.zero_le _,by simp,Fr.refl _ _⟩ ?_;rintro _ ⟨i',_⟩ w2 ⟨i,hi,jf,hZ,f2⟩;dsimp only at hi ⊢;subst hi;refine aa.dec (fun aU=>?_) (fun eu=>?_)
 ·have fI:i<l.length:=by omega
  obtain⟨x,hx⟩:∃ x,l[i]? = some x:=⟨_,List.getElem?_eq_getElem fI⟩;refine aD.of fun w3 _ f3=>aq.aE (cks:=ud) (x:=qy y) (f3.af (f2.af hb)) ?_;have h3:=((h.af f1).af f2).af f3;refine ya (cks:=ud) (x:=qy x) h3 (by decide) (Dw l) (by rw[List.getElem?_map,hx];rfl) ?_;have he:=ZG (PK y) (PK x) (.tmp 11) (.tmp 15) w3;refine⟨decide (yd y=yd x),w3,he,aa.dec (fun he=>?_) (fun ay=>?_)⟩
  ·have:=aah he
   subst this;refine⟨⟨(i:Int),rfl,?_⟩,(f1.trans f2).trans f3⟩;rw[decide_eq_true (by omega),decide_eq_true (List.mem_of_getElem? hx)]
  ·refine⟨⟨i+1,by rw[wI (by omega) (by omega)];omega,by omega,?_,f2.trans f3⟩,by rw[wI (by omega) (by omega)];omega⟩
   rw[List.take_add_one,hx];simp only[Option.toList_some,List.mem_append,List.mem_singleton];rintro(t | t)
   ·exact hZ t
   ·exact ay (by rw[t])
 ·refine⟨⟨-1,rfl,?_⟩,f1.trans f2⟩
  rw[List.take_of_length_le (by omega)] at hZ;rw[decide_eq_false hZ];rfl
theorem aaj {w:World}{v:Sl}{l:List gB}(h:du w 5 v (j0 l))(hl:l.length<=100000000)(y:gB):
  Ret Tryz.prog 340 #[.slice v.1 v.2.1 v.2.2,.agg (mS y).toArray] w fun r w'=>r=.bool (decide (y∈l))/\Fr none1 w w':=by
 refine c340 v.1 v.2.1 v.2.2 (qy y) w _ ?_;refine ak.of fun g w1 hg hb f1 _=>aq.aE (cks:=ud) (x:=qy y) hb ?_;refine ab.of (aai (h.af f1) hl y) ?_;rintro _ w2 ⟨⟨i,rfl,hi⟩,f2⟩;exact⟨i,rfl,by rw[hi],f1.trans f2⟩
structure nN (w:World)(B g b:Nat)(F:Nat->Prop)(id:List UInt8)(m:de)(x:iP)(fl wl:Sl):Prop where
 aE:w.heap[g]? = some (.cells #[.string (str id),.pointer (some ⟨b,0,none⟩),.slice fl.1 fl.2.1 fl.2.2,.slice wl.1 wl.2.1 wl.2.2] 413 (0,0))
 ye:aF w 219 3 fl (lL x.1)
 waits:aF w 154 5 wl (j0 x.2)
 oH:∀ k,aw fl k->B<=k/\k≠g
 lu:∀ k,aw wl k->B<=k/\k≠g/\¬ aw fl k
 wr:ir w F b m
 low:∀ k,F k->k<B
 mem:B<=g
theorem nN.af {w w':World}{B g b:Nat}{F:Nat->Prop}{id:List UInt8}{m:de}{x:iP}{fl wl:Sl}(h:nN w B g b F id m x fl wl)(f:Fr none1 w w'):nN w' B g b F id m x fl wl:=
 ⟨f.af h.aE,h.ye.af f,h.waits.af f,h.oH,h.lu,h.wr.af f,h.low,h.mem⟩
def mT (w:World)(B g b:Nat)(F:Nat->Prop)(id:List UInt8)(m:de)(x:iP):Prop:=∃ fl wl,nN w B g b F id m x fl wl
theorem mT.af {w w':World}{B g b:Nat}{F:Nat->Prop}{id:List UInt8}{m:de}{x:iP}(h:mT w B g b F id m x)(f:Fr none1 w w'):mT w' B g b F id m x:=by
 obtain⟨fl,wl,h⟩:=h;exact⟨fl,wl,h.af f⟩
def sM (B:Nat):Nat->Prop:=fun k=>B<=k
theorem Vc.Fr.oI {B:Nat}{w w':World}(f:Fr none1 w w'):Fr (sM B) w w':=f.mono fun _ _ t=>t.elim
def pB (g:Nat)(wl:Sl):Nat->Prop:=fun k=>k=g\/aw wl k
theorem nN.pB {w:World}{B g b:Nat}{F:Nat->Prop}{id:List UInt8}{m:de}{x:iP}{fl wl:Sl}(h:nN w B g b F id m x fl wl){k:Nat}(q:pB g wl k):B<=k/\k<w.heap.size:=by
 rcases q with rfl | q
 ·exact⟨h.mem,bL h.aE⟩
 ·exact⟨(h.lu k q).1,aF.lt h.waits q⟩
theorem II {w:World}{B g b:Nat}{F:Nat->Prop}{id:List UInt8}{m:de}{x:iP}{fl wl:Sl}(h:nN w B g b F id m x fl wl)(y:gB)(hl:x.2.length<=10000000){S:Nat->Prop}{K:World->Prop}
  (k:∀ w' yg,nN w' B g b F id m (x.1,x.2++[y]) fl yg->(∀ k,aw yg k->aw wl k\/w.heap.size<=k)->Fr (pB g wl) w w'->K w') :
  aA Tryz.prog (Instr.buildSlice 151 1 #[(0,.agg (mS y).toArray)]) w (.v (.one .aj)) fun(u:Option Addr×Nat×Nat) w1=>ai S w w1 (aA Tryz.prog (Builtin.append_ #[151,151] 151 #[.slice wl.1 wl.2.1 wl.2.2,.slice u.1 u.2.1 u.2.2]) w1 (.v (.one .aj)) fun(v:Option Addr×Nat×Nat) w2=>
   az ((⟨g,0,none⟩:Addr).add 3) (.slice v.1 v.2.1 v.2.2) w2 fun w3=>K w3):=by
 obtain⟨u,w1,hr,hu,dk,f1,uf⟩:=mR (P:=Tryz.prog) (w:=w) IG (mS y) rfl (by decide);refine⟨u,w1,hr,ai.of f1 ?_⟩;have nO:=h.waits.len;rw[yc] at nO;obtain⟨v,w2,gq,hv,cO,f2,vf⟩:=gE IG 151 (h.waits.af f1) hu.rd (PI y) (by rw[dk];omega);refine⟨v,w2,gq,?_⟩;have vp:¬ aw wl g:=fun q=>(h.lu g q).2.1 rfl;have aI:=f2.ag (f1.af h.aE) vp;refine az.ah aI (show 3<4 by decide) rfl fun w3 aR f3 _=>?_;have gl:=bL h.aE;have s1:=f1.size;have s2:=f2.size;have iM:∀ k,aw v k->aw wl k\/w.heap.size<=k:=fun k hk=>(vf k hk).imp_right fun q=>Nat.le_trans s1 q;have vR:∀ k,aw v k->B<=k/\k≠g/\¬ aw fl k:=fun k hk=>by
  rcases iM k hk with q | q
  ·exact h.lu k q
  ·exact⟨by have:=h.mem;omega,by omega,fun t=>by have:=aF.lt h.ye t;omega⟩
 refine k w3 v ⟨aR,((h.ye.af f1).ag f2 fun k hk q=>(h.lu k q).2.2 hk).ag f3 (fun k hk q=>(h.oH k hk).2 q),?_,h.oH,vR,((h.wr.af f1).ag f2 fun k hk q=>by have:=h.low k hk;have:=(h.lu k q).1;omega).ag f3 (fun k hk q=>by have:=h.low k hk;have:=h.mem;have:k=g:=q;omega),h.low,h.mem⟩ iM ?_
 ·dsimp only
  rw[aab];exact hv.ag f3 fun k hk q=>(vR k hk).2.1 q
 ·refine((f1.mono fun _ _ t=>t.elim).comp f2 fun k _ q=>.inr q).comp f3 fun k _ q=>.inl q
theorem aak {w:World}{B g b:Nat}{F:Nat->Prop}{id:List UInt8}{m:de}{x:iP}{fl wl:Sl}(h:nN w B g b F id m x fl wl)(y:lC)(hl:x.1.length<=10000000){S:Nat->Prop}{K:World->Prop}
  (k:∀ w' fl',nN w' B g b F id m (x.1++[y],x.2) fl' wl->Fr (sM B) w w'->K w') :
  aA Tryz.prog (Instr.buildSlice 163 1 #[(0,.agg (ue y).toArray)]) w (.v (.one .aj)) fun(u:Option Addr×Nat×Nat) w1=>ai S w w1 (aA Tryz.prog (Builtin.append_ #[163,163] 163 #[.slice fl.1 fl.2.1 fl.2.2,.slice u.1 u.2.1 u.2.2]) w1 (.v (.one .aj)) fun(v:Option Addr×Nat×Nat) w2=>
   az ((⟨g,0,none⟩:Addr).add 2) (.slice v.1 v.2.1 v.2.2) w2 fun w3=>K w3):=by
 obtain⟨u,w1,hr,hu,dk,f1,uf⟩:=mR (P:=Tryz.prog) (w:=w) IH (ue y) rfl (by decide);refine⟨u,w1,hr,ai.of f1 ?_⟩;have nO:=h.ye.len;rw[Dx] at nO;obtain⟨v,w2,gq,hv,cO,f2,vf⟩:=gE IH 163 (h.ye.af f1) hu.rd (PJ y) (by rw[dk];omega);refine⟨v,w2,gq,?_⟩;have vp:¬ aw fl g:=fun q=>(h.oH g q).2 rfl;have aI:=f2.ag (f1.af h.aE) vp;refine az.ah aI (show 2<4 by decide) rfl fun w3 aR f3 _=>?_;have gl:=bL h.aE;have s1:=f1.size;have s2:=f2.size;have vR:∀ k,aw v k->B<=k/\k≠g/\¬ aw wl k:=fun k hk=>by
  rcases vf k hk with q | q
  ·exact⟨(h.oH k q).1,(h.oH k q).2,fun t=>(h.lu k t).2.2 q⟩
  ·exact⟨by have:=h.mem;omega,by omega,fun t=>by have:=aF.lt h.waits t;omega⟩
 refine k w3 v ⟨aR,?_,((h.waits.af f1).ag f2 fun k hk q=>(h.lu k hk).2.2 q).ag f3 (fun k hk q=>(h.lu k hk).2.1 q),fun k hk=>⟨(vR k hk).1,(vR k hk).2.1⟩,fun k hk=>⟨(h.lu k hk).1,(h.lu k hk).2.1,fun t=>(vR k t).2.2 hk⟩,((h.wr.af f1).ag f2 fun k hk q=>by have:=h.low k hk;have:=(h.oH k q).1;omega).ag f3 (fun k hk q=>by have:=h.low k hk;have:=h.mem;have:k=g:=q;omega),h.low,h.mem⟩ ?_
 ·dsimp only
  rw[aac];exact hv.ag f3 fun k hk q=>(vR k hk).2.1 q
 ·refine((f1.mono fun _ _ t=>t.elim).comp f2 fun k _ q=>(h.oH k q).1).comp f3 fun k _ q=>by have:k=g:=q;rw[this];exact h.mem
theorem aal {w:World}{B g b:Nat}{F:Nat->Prop}{id:List UInt8}{m:de}{x:iP}{fl wl:Sl}(h:nN w B g b F id m x fl wl)(d:Int){v:Sl}{l:List (List UInt8)}(hv:gH w v l)(PL:∀ k,aw v k->k≠g/\¬ aw wl k)(hl:x.2.length+l.length<=1000000):
  Ret Tryz.prog 323 #[.pointer (some ⟨g,0,none⟩),.int .i64 d,.slice v.1 v.2.1 v.2.2] w fun r w'=>r=.tuple #[]/\mT w' B g b F id m (x.1,lD d l x.2)/\Fr (pB g wl) w w':=by
 refine c323 _ d v.1 v.2.1 v.2.2 w _ ?_;have hlen:=hv.len;refine bC.of (fun st w'=>∃ (i:Nat) (yg:Sl),st.1=i/\i<=l.length/\nN w' B g b F id m (x.1,lD d (l.take i) x.2) fl yg/\(∀ k,aw v k->¬ aw yg k)/\gH w' v l/\Fr (pB g wl) w w'/\(∀ k,aw yg k->aw wl k\/w.heap.size<=k)) (fun st _=>(v.2.1 - st.1).toNat)
  ⟨0,wl,rfl,Nat.zero_le _,h,fun k hk=>(PL k hk).2,hv,Fr.refl _ _,fun k hk=>.inl hk⟩ ?_
 rintro _ ⟨i',_⟩ w1 ⟨i,IJ,hi,jf,h1,Dv,tD,f1,IK⟩;dsimp only at hi ⊢;subst hi;refine aa.dec (fun aU=>?_) (fun eu=>?_)
 rotate_left
 ·rw[List.take_of_length_le (by omega)] at h1
  exact⟨rfl,⟨_,_,h1⟩,f1⟩
 have fI:i<l.length:=by omega
 obtain⟨s,hs⟩:∃ s,l[i]? = some s:=⟨_,List.getElem?_eq_getElem fI⟩;have jS:lD d (l.take (i+1)) x.2=if(false,s,[],d,0)∈lD d (l.take i) x.2 then lD d (l.take i) x.2 else lD d (l.take i) x.2++[(false,s,[],d,0)]:=AT _ _ _ hs _;have Fj:(lD d (l.take i) x.2).length<=x.2.length+l.length:=by
  obtain⟨new,e,hn⟩:=AD d (l.take i) x.2;rw[e,List.length_append];rw[List.length_take] at hn;omega
 generalize lD d (l.take i) x.2=ws at *;refine tD.ld hs ?_;refine cM (zs:=[.bool false,.string (⟨#[]⟩:ByteArray),.string (⟨#[]⟩:ByteArray),.int .i64 0,.int .i64 0]) (vs:=mS (false,s,[],d,0)) rfl rfl fun g6 w2 Ig fq f2=>?_;refine aD.of fun w3 _ f3=>?_;have f23:=f2.trans f3;have h3:=h1.af f23;refine ae.ah h3.aE (x:=IJ) rfl (aq.aE (cks:=ud) (x:=qy (false,s,[],d,0)) (f3.af fq) ?_);refine ab.of (aaj (aF.rd h3.waits) (by dsimp only;omega) (false,s,[],d,0)) ?_;rintro _ w4 ⟨rfl,f4⟩;have f24:=f23.trans f4;have h4:=h3.af f4;refine⟨_,rfl,aa.not (aa.dec (fun hm=>?_) (fun hm=>?_))⟩
 ·rw[if_pos hm] at jS
  exact⟨⟨i+1,IJ,by rw[wI (by omega) (by omega)];omega,by omega,by rw[jS];exact h4,Dv,tD.af f24,f1.dq f24,IK⟩,by rw[wI (by omega) (by omega)];omega⟩
 rw[if_neg hm] at jS;refine aD.of fun w5 _ f5=>aV.of (fun k=>k=g\/k=g6) ?_;have f25:=f24.trans f5;have h5:=h4.af f5;refine⟨by rw[dT];exact .inl rfl,ae.ah h5.aE (x:=IJ) rfl ⟨.inr rfl,aq.aE (cks:=ud) (x:=qy (false,s,[],d,0)) ((f4.trans f5).af (f3.af fq)) ?_⟩⟩;refine II h5 (false,s,[],d,0) (by dsimp only;omega) fun w6 wl6 h6 PM f6=>?_;refine⟨⟨i+1,wl6,by rw[wI (by omega) (by omega)];omega,by omega,by rw[jS];exact h6,fun k hk q=>?_,?_,(f1.dq f25).comp f6 fun k aU q=>?_,fun k hk=>?_⟩,by rw[wI (by omega) (by omega)];omega⟩
 ·rcases PM k q with t | t
  ·exact Dv k hk t
  ·have:=aF.lt (tD.af f25) hk;omega
 ·refine aF.ag (tD.af f25) f6 fun k hk q=>?_
  rcases q with rfl | q
  ·exact(PL _ hk).1 rfl
  ·exact Dv k hk q
 ·rcases q with rfl | q
  ·exact .inl rfl
  ·rcases IK k q with t | t
   ·exact .inr t
   ·omega
 ·rcases PM k hk with t | t
  ·exact IK k t
  ·have:=f1.size;have:=f25.size;exact .inr (by omega)
theorem PN (d:Int)(o:Ob)(hn:bA o<=1000000){w:World}{B g b:Nat}{F:Nat->Prop}{id:List UInt8}{m:de}{x:iP}{fl wl:Sl}(h:nN w B g b F id m x fl wl)(hl:x.2.length+bA o<=1000000):
  Ret Tryz.prog 306 #[.pointer (some ⟨g,0,none⟩),o.v,.int .i64 d] w fun r w'=>r=.tuple #[.int .i64 (fp m d o).1,.bool (fp m d o).2.1,.int .i64 (fp m d o).2.2] /\
   mT w' B g b F id m (if(fp m d o).2.2=0/\(fp m d o).2.1=false then(x.1,lD d (nB m d o) x.2) else x)/\Fr (pB g wl) w w':=by
 refine c306 _ o.v d w _ ?_;refine ae.ah h.aE (x:=some ⟨b,0,none⟩) rfl ?_;refine ab.of (Z2 d o hn h.wr) ?_;rintro _ w1 ⟨rfl,f1⟩;have ay:=H8 m d o;generalize fp m d o=X;refine⟨(X.1,X.2.1,X.2.2,()),rfl,?_⟩;have h1:=h.af f1;refine aa.eq (fun he=>aa.not (aa.by (fun hk=>?_) (fun hk=>?_))) (fun he=>?_)
 ·have hk:X.2.1=true:=hk
  rw[if_neg (by rw[hk];simp)];exact⟨rfl,⟨_,_,h1⟩,f1.mono fun _ _ t=>t.elim⟩
 ·have hk:X.2.1=false:=hk
  have he:X.2.2=0:=he;rw[if_pos ⟨he,hk⟩];refine ae.ah h1.aE (x:=some ⟨b,0,none⟩) rfl ?_;refine ab.of (aaa d o hn h1.wr) ?_;rintro _ w2 ⟨v,rfl,hv,f2,vf⟩;refine⟨v,rfl,?_⟩;have h2:=h1.af f2;refine ab.of (aal h2 d hv (fun k hk=>⟨fun e=>?_,fun q=>?_⟩) (by omega)) ?_
  ·have:=vf k hk;have:=bL h1.aE;omega
  ·have:=vf k hk;have:=aF.lt h1.waits q;omega
  rintro _ w3 ⟨rfl,h3,f3⟩;exact⟨(),rfl,rfl,h3,(f1.trans f2).eL f3⟩
 ·have he:¬ X.2.2=0:=he
  rw[if_neg (fun t=>he t.1)];exact⟨rfl,⟨_,_,h1⟩,f1.mono fun _ _ t=>t.elim⟩
def ug (id:List UInt8)(m:de)(t:Tm):Prop:=
 ∀ {w:World} {B g b:Nat} {F:Nat->Prop} {x:iP} (d k:Int),mT w B g b F id m x->cI k=true->aK t<=100000->x.1.length+aK t<=1000000->x.2.length+aK t<=1000000 ->
  Ret Tryz.prog 258 #[.pointer (some ⟨g,0,none⟩),t.v,.int .i64 d,.int .i64 k] w fun r w'=>r=.int .i64 (cD id m t d k x).2/\mT w' B g b F id m (cD id m t d k x).1/\Fr (sM B) w w'
theorem aam {id:List UInt8}{m:de}{l r:Tm}(hl:ug id m l)(hr:ug id m r){w:World}{B g b:Nat}{F:Nat->Prop}{x:iP}(d k:Int)(h:mT w B g b F id m x)(hk:cI k=true)(hn:aK l+aK r<=100000)
  (h1:x.1.length+(aK l+aK r)<=1000000) (h2:x.2.length+(aK l+aK r)<=1000000) :
  Ret Tryz.prog 282 #[.pointer (some ⟨g,0,none⟩),l.v,r.v,.int .i64 d,.int .i64 k] w fun r' w'=>r'=.int .i64 (cD id m (.and l r) d k x).2/\mT w' B g b F id m (cD id m (.and l r) d k x).1/\Fr (sM B) w w':=by
 refine c282 _ l.v r.v d k w _ ?_;unfold C282;refine ab.of (hl d k h hk (by omega) (by omega) (by omega)) ?_;obtain⟨fs,ws,e1,e2,e3,_⟩:=OB id m l d k x;have e:cD id m (.and l r) d k x=if(cD id m l d k x).2≠0 then cD id m l d k x else cD id m r d k (cD id m l d k x).1:=by conv=>lhs;unfold cD
 rw[e];clear e;have l1:(cD id m l d k x).1.1.length<=x.1.length+aK l:=by rw[e1];simp;omega
 have l2:(cD id m l d k x).1.2.length<=x.2.length+aK l:=by rw[e1];simp;omega
 clear e1;generalize cD id m l d k x=X at *;rintro _ w1 ⟨rfl,h3,f1⟩;refine⟨X.2,rfl,aa.ne (fun ay=>?_) (fun he=>?_)⟩
 ·rw[if_pos ay];exact⟨rfl,h3,f1⟩
 rw[if_neg (fun t=>t he)];refine ab.of (hr d k h3 hk (by omega) (by omega) (by omega)) ?_;rintro _ w2 ⟨rfl,h4,f2⟩;exact⟨_,rfl,rfl,h4,f1.trans f2⟩
theorem aan {id:List UInt8}{m:de}(o:Ob){t:Tm}(ht:ug id m t){w:World}{B g b:Nat}{F:Nat->Prop}{x:iP}(d k:Int)(h:mT w B g b F id m x)(hn:bA o+aK t<=100000)
  (h1:x.1.length+(bA o+aK t)<=1000000) (h2:x.2.length+(bA o+aK t)<=1000000) :
  Ret Tryz.prog 283 #[.pointer (some ⟨g,0,none⟩),.agg #[o.v,t.v],.int .i64 d,.int .i64 k] w fun r' w'=>r'=.int .i64 (cD id m (.scale o t) d k x).2/\mT w' B g b F id m (cD id m (.scale o t) d k x).1/\Fr (sM B) w w':=by
 refine c283 _ (o.v,t.v,()) d k w _ ?_;unfold C283;refine ak.of fun g1 w1 dp au f1 _=>ae.ah (c:=.raw) au (x:=o.v) rfl ?_;obtain⟨fl,wl,h⟩:=h;refine ab.of (PN d o (by omega) (h.af f1) (by omega)) ?_;have e:cD id m (.scale o t) d k x=if(fp m d o).2.2≠0 then(x,(fp m d o).2.2) else if(fp m d o).2.1=false then((x.1,lD d (nB m d o) x.2),0) else if(la k (fp m d o).1).2=false then(x,6) else if(la k (fp m d o).1).1=0 then(x,0) else cD id m t d (la k (fp m d o).1).1 x:=by conv=>lhs;unfold cD
 rw[e];clear e;generalize fp m d o=X;rintro _ w2 ⟨rfl,h3,f2⟩;have f12:Fr (sM B) w w2:=f1.oI.comp f2 fun k _ q=>((h.af f1).pB q).1;have aI:=f2.ag au (fun q=>by have:=(h.pB q).2;omega);refine⟨(X.1,X.2.1,X.2.2,()),rfl,aa.ne (fun ay=>?_) (fun he=>?_)⟩
 ·have ay:X.2.2≠0:=ay
  rw[if_neg (fun t=>ay t.1)] at h3;rw[if_pos ay];exact⟨rfl,h3,f12⟩
 have he:X.2.2=0:=he;rw[if_neg (fun t=>t he)];refine aa.not (aa.by (fun hq=>?_) (fun hq=>?_))
 rotate_left
 ·have hq:X.2.1=false:=hq
  rw[if_pos ⟨he,hq⟩] at h3;rw[if_pos hq];exact⟨by rw[he],h3,f12⟩
 have hq:X.2.1=true:=hq;rw[if_neg (by rw[hq];simp)] at h3;rw[if_neg (by rw[hq];simp)];refine ab.of (PA k X.1 w2) ?_;rintro _ _ ⟨rfl,rfl⟩;have hmv:=Oy (a:=k) (b:=X.1);generalize la k X.1=Y at *;refine⟨(Y.1,Y.2,()),rfl,aa.not (aa.by (fun hy=>?_) (fun hy=>?_))⟩
 rotate_left
 ·have hy:Y.2=false:=hy
  rw[if_pos hy];exact⟨rfl,h3,f12⟩
 have hy:Y.2=true:=hy;rw[if_neg (by rw[hy];simp)];refine aa.eq (fun hz=>?_) (fun hz=>?_)
 ·have hz:Y.1=0:=hz
  rw[if_pos hz];exact⟨rfl,h3,f12⟩
 have hz:¬ Y.1=0:=hz;rw[if_neg hz];refine ae.ah (c:=.raw) aI (x:=t.v) rfl ?_;refine ab.of (ht d Y.1 h3 (by have:=hmv hy;rw[this.2.2.2];exact this.2.2.1) (by omega) (by omega) (by omega)) ?_;rintro _ w3 ⟨rfl,h4,f3⟩;exact⟨_,rfl,rfl,h4,f12.trans f3⟩
theorem aao {id:List UInt8}{m:de}(o:Ob){l r:Tm}(hl:ug id m l)(hr:ug id m r){w:World}{B g b:Nat}{F:Nat->Prop}{x:iP}(d k:Int)(h:mT w B g b F id m x)(hk:cI k=true)(hn:bA o+aK l+aK r<=100000)
  (h1:x.1.length+(bA o+aK l+aK r)<=1000000) (h2:x.2.length+(bA o+aK l+aK r)<=1000000) :
  Ret Tryz.prog 284 #[.pointer (some ⟨g,0,none⟩),.agg #[o.v,l.v,r.v],.int .i64 d,.int .i64 k] w fun r' w'=>r'=.int .i64 (cD id m (.cond o l r) d k x).2/\mT w' B g b F id m (cD id m (.cond o l r) d k x).1/\Fr (sM B) w w':=by
 refine c284 _ (o.v,l.v,r.v,()) d k w _ ?_;unfold C284;refine ak.of fun g1 w1 dp au f1 _=>ae.ah (c:=.raw) au (x:=o.v) rfl ?_;obtain⟨fl,wl,h⟩:=h;refine ab.of (PN d o (by omega) (h.af f1) (by omega)) ?_;have e:cD id m (.cond o l r) d k x=if(fp m d o).2.2≠0 then(x,(fp m d o).2.2) else if(fp m d o).2.1=false then((x.1,lD d (nB m d o) x.2),0) else if 0<(fp m d o).1 then cD id m l d k x else cD id m r d k x:=by conv=>lhs;unfold cD
 rw[e];clear e;generalize fp m d o=X;rintro _ w2 ⟨rfl,h3,f2⟩;have f12:Fr (sM B) w w2:=f1.oI.comp f2 fun k _ q=>((h.af f1).pB q).1;have aI:=f2.ag au (fun q=>by have:=(h.pB q).2;omega);refine⟨(X.1,X.2.1,X.2.2,()),rfl,aa.ne (fun ay=>?_) (fun he=>?_)⟩
 ·have ay:X.2.2≠0:=ay
  rw[if_neg (fun t=>ay t.1)] at h3;rw[if_pos ay];exact⟨rfl,h3,f12⟩
 have he:X.2.2=0:=he;rw[if_neg (fun t=>t he)];refine aa.not (aa.by (fun hq=>?_) (fun hq=>?_))
 rotate_left
 ·have hq:X.2.1=false:=hq
  rw[if_pos ⟨he,hq⟩] at h3;rw[if_pos hq];exact⟨by rw[he],h3,f12⟩
 have hq:X.2.1=true:=hq;rw[if_neg (by rw[hq];simp)] at h3;rw[if_neg (by rw[hq];simp)];refine aa.dec (fun hz=>?_) (fun hz=>?_)
 ·rw[if_pos (by exact hz)]
  refine ae.ah (c:=.raw) aI (x:=l.v) rfl ?_;refine ab.of (hl d k h3 hk (by omega) (by omega) (by omega)) ?_;rintro _ w3 ⟨rfl,h4,f3⟩;exact⟨_,rfl,rfl,h4,f12.trans f3⟩
 ·rw[if_neg (by exact hz)]
  refine ae.ah (c:=.raw) aI (x:=r.v) rfl ?_;refine ab.of (hr d k h3 hk (by omega) (by omega) (by omega)) ?_;rintro _ w3 ⟨rfl,h4,f3⟩;exact⟨_,rfl,rfl,h4,f12.trans f3⟩
theorem IL (a b:Int):(if b > a then b else a)=max a b:=by
 rw[Int.max_def];split<;>split<;>omega
theorem aap {id:List UInt8}{m:de}(s:List UInt8){l r:Tm}(hl:ug id m l)(hr:ug id m r){w:World}{B g b:Nat}{F:Nat->Prop}{x:iP}(d k:Int)(h:mT w B g b F id m x)(hk:cI k=true)(hn:aK l+aK r<=100000)
  (h1:x.1.length+(aK l+aK r)<=1000000) (h2:x.2.length+(aK l+aK r)<=1000000) :
  Ret Tryz.prog 285 #[.pointer (some ⟨g,0,none⟩),.agg #[.string (str s),l.v,r.v],.int .i64 d,.int .i64 k] w fun r' w'=>r'=.int .i64 (cD id m (.or s l r) d k x).2/\mT w' B g b F id m (cD id m (.or s l r) d k x).1/\Fr (sM B) w w':=by
 refine c285 _ (str s,l.v,r.v,()) d k w _ ?_;unfold C285;obtain⟨fl,wl,h⟩:=h;refine ak.of fun g1 w1 dp au f1 _=>aD.of fun w2 _ f2=>aV.all ?_;have f12:=f1.trans f2;have hh:=h.af f12;refine av.all (ae.ah hh.aE (x:=some ⟨b,0,none⟩) rfl (av.all (ae.ah hh.aE (x:=str id) rfl (av.all (ae.ah (f2.af au) (x:=str s) rfl ?_)))));refine ab.of (ZQ hh.wr id s) ?_;have e:cD id m (.or s l r) d k x=match bq (id,s) m.ch with
  | none=>((x.1,x.2++[(true,[],s,d,if 0<k then 0 else 1)]),0)
  | some (p,since)=>if p=0 then cD id m l (max d since) k x else cD id m r (max d since) k x:=rfl
 rw[e];clear e;rintro _ w3 ⟨rfl,f3⟩;have f13:=f12.trans f3;have h3:=hh.af f3;refine⟨(((bq (id,s) m.ch).getD (0,0)).1,((bq (id,s) m.ch).getD (0,0)).2,(bq (id,s) m.ch).isSome,()),rfl,?_⟩;have aR:=(f2.trans f3).af au;refine cy.of (fun st w'=>st.1=(!(bq (id,s) m.ch).isSome&&decide (0<k))/\w3=w') ?_ ?_
 ·refine aa.not (aa.by (fun hs=>?_) (fun hs=>?_))
  ·have hs:(bq (id,s) m.ch).isSome=true:=hs
   rw[hs];exact⟨rfl,rfl⟩
  ·have hs:(bq (id,s) m.ch).isSome=false:=hs
   rw[hs];exact⟨rfl,rfl⟩
 rintro _ ⟨st,_⟩ _ ⟨dD,rfl⟩;dsimp only at dD ⊢;subst dD;cases hc:bq (id,s) m.ch with
 | none=>
  dsimp only[Option.isSome,Option.getD];refine aa.by (fun jv=>?_) (fun jv=>?_)
  ·have jv:0<k:=by simpa using jv
   rw[if_pos jv];refine aD.of fun w4 _ f4=>aV.all ?_;have h4:=h3.af f4;refine av.all (ae.ah h4.aE (x:=wl) rfl (av.all (ae.ah (f4.af aR) (x:=str s) rfl ?_)));refine II h4 (true,[],s,d,0) (by omega) fun w5 wl5 h5 _ f5=>?_;exact⟨rfl,⟨_,_,h5⟩,(f13.trans f4).oI.comp f5 fun k _ q=>(h4.pB q).1⟩
  ·have jv:¬ 0<k:=by simpa using jv
   rw[if_neg jv];refine aa.t rfl ?_;refine aD.of fun w4 _ f4=>aV.all ?_;have h4:=h3.af f4;refine av.all (ae.ah h4.aE (x:=wl) rfl (av.all (ae.ah (f4.af aR) (x:=str s) rfl ?_)));refine II h4 (true,[],s,d,1) (by omega) fun w5 wl5 h5 _ f5=>?_;exact⟨rfl,⟨_,_,h5⟩,(f13.trans f4).oI.comp f5 fun k _ q=>(h4.pB q).1⟩
 | some p=>
  obtain⟨p,since⟩:=p;dsimp only[Option.isSome,Option.getD];refine aa.f rfl (aa.f rfl (aa.eq (fun hp=>?_) (fun hp=>?_)))
  ·have hp:p=0:=hp
   rw[if_pos hp];refine ae.ah (c:=.raw) aR (x:=l.v) rfl ?_;rw[IL];refine ab.of (hl (max d since) k ⟨_,_,h3⟩ hk (by omega) (by omega) (by omega)) ?_;rintro _ w4 ⟨rfl,h4,f4⟩;exact⟨_,rfl,rfl,h4,f13.oI.trans f4⟩
  ·have hp:¬ p=0:=hp
   rw[if_neg hp];refine ae.ah (c:=.raw) aR (x:=r.v) rfl ?_;rw[IL];refine ab.of (hr (max d since) k ⟨_,_,h3⟩ hk (by omega) (by omega) (by omega)) ?_;rintro _ w4 ⟨rfl,h4,f4⟩;exact⟨_,rfl,rfl,h4,f13.oI.trans f4⟩
theorem aaq (id:List UInt8)(m:de):∀ t:Tm,ug id m t:=by
 intro t
 induction t with
 | none=>
  intro w B g b F x d k h hk hn h1 h2;refine c258 _ _ d k w _ ?_;exact ao.nil rfl (ao.nil rfl (ao.nil rfl (ao.nil rfl (ao.nil rfl (ao.nil rfl (ao.nil rfl ⟨rfl,h,Fr.refl _ _⟩))))))
 | zero=>
  intro w B g b F x d k h hk hn h1 h2;refine c258 _ _ d k w _ ?_;exact ao.aM rfl (by decide) (ao.aM rfl (by decide) (ao.aM rfl (by decide) (ao.aM rfl (by decide) (ao.aM rfl (by decide) (ao.aM rfl (by decide) (ao.aM rfl (by decide) (⟨rfl,h,Fr.refl _ _⟩)))))))
 | one s=>
  intro w B g b F x d k h hk hn h1 h2;refine c258 _ _ d k w _ ?_;obtain⟨fl,wl,h⟩:=h;refine ao.hit (str s,()) rfl (cM (zs:=[.string (⟨#[]⟩:ByteArray)]) (vs:=[.string (str s)]) rfl rfl fun g1 w1 dp au f1=>aD.of fun w2 _ f2=>aV.all ?_);have h3:=(h.af f1).af f2;refine av.all (ae.ah h3.aE (x:=fl) rfl (av.all (ae.ah (f2.af au) (x:=str s) rfl ?_)));refine aak h3 (d,s,k) (by unfold aK at h1;omega) fun w3 fl3 h4 f4=>?_;exact⟨rfl,⟨_,_,h4⟩,(f1.trans f2).oI.trans f4⟩
 | gG t ih=>
  intro w B g b F x d k h hk hn h1 h2;unfold aK at hn h1 h2;refine c258 _ _ d k w _ ?_;refine ao.aM rfl (by decide) (ao.hit (t.v,()) rfl (cM (zs:=[.nilIface]) (vs:=[t.v]) rfl (by simp[Ob.bW,Tm.bW,oY,pX]) fun g1 w1 dp au f1=>?_));refine ae.ah (c:=.raw) au (x:=t.v) rfl ?_;have fG:=Oz hk;rw[rn] at hk;rw[wI (x:=0 - k) (by omega) (by omega),Int.zero_sub];refine ab.of (ih d (-k) (h.af f1) fG (by omega) (by omega) (by omega)) ?_;rintro _ w2 ⟨rfl,h2,f2⟩;exact⟨_,rfl,rfl,h2,f1.oI.trans f2⟩
 | and l r hl hr=>
  intro w B g b F x d k h hk hn h1 h2;unfold aK at hn h1 h2;refine c258 _ _ d k w _ ?_;refine ao.aM rfl (by decide) (ao.aM rfl (by decide) (ao.hit (l.v,r.v,()) rfl (cM (zs:=[.nilIface,.nilIface]) (vs:=[l.v,r.v]) rfl (by simp[Ob.bW,Tm.bW,oY,pX]) fun g1 w1 dp au f1=>?_)));refine ae.ah (c:=.raw) au (x:=l.v) rfl (ae.ah (c:=.raw) au (x:=r.v) rfl ?_);refine ab.of (aam hl hr d k (h.af f1) hk (by omega) (by omega) (by omega)) ?_;rintro _ w2 ⟨rfl,h2,f2⟩;exact⟨_,rfl,rfl,h2,f1.oI.trans f2⟩
 | when n t ih=>
  intro w B g b F x d k h hk hn h1 h2;unfold aK at hn h1 h2;refine c258 _ _ d k w _ ?_;refine ao.aM rfl (by decide) (ao.aM rfl (by decide) (ao.aM rfl (by decide) (ao.hit (n,t.v,()) rfl (cM (zs:=[.int .i64 0,.nilIface]) (vs:=[.int .i64 n,t.v]) rfl (by simp[Ob.bW,Tm.bW,oY,pX]) fun g1 w1 dp au f1=>?_))));refine ae.ah (c:=.raw) au (x:=t.v) rfl (ae.ah au (x:=n) rfl ?_);rw[IL];refine ab.of (ih (max d n) k (h.af f1) hk (by omega) (by omega) (by omega)) ?_;rintro _ w2 ⟨rfl,h2,f2⟩;exact⟨_,rfl,rfl,h2,f1.oI.trans f2⟩
 | scale o t ih=>
  intro w B g b F x d k h hk hn h1 h2;unfold aK at hn h1 h2;refine c258 _ _ d k w _ ?_;refine ao.aM rfl (by decide) (ao.aM rfl (by decide) (ao.aM rfl (by decide) (ao.aM rfl (by decide) (ao.hit (o.v,t.v,()) rfl (cM (zs:=[.nilIface,.nilIface]) (vs:=[o.v,t.v]) rfl (by simp[Ob.bW,Tm.bW,oY,pX]) fun g1 w1 dp au f1=>?_)))));refine aq.aE (cks:=[.raw,.raw]) (x:=(o.v,t.v,())) au ?_;refine ab.of (aan o ih d k (h.af f1) (by omega) (by omega) (by omega)) ?_;rintro _ w2 ⟨rfl,h2,f2⟩;exact⟨_,rfl,rfl,h2,f1.oI.trans f2⟩
 | cond o l r hl hr=>
  intro w B g b F x d k h hk hn h1 h2;unfold aK at hn h1 h2;refine c258 _ _ d k w _ ?_;refine ao.aM rfl (by decide) (ao.aM rfl (by decide) (ao.aM rfl (by decide) (ao.aM rfl (by decide) (ao.aM rfl (by decide) (ao.hit (o.v,l.v,r.v,()) rfl (cM (zs:=[.nilIface,.nilIface,.nilIface]) (vs:=[o.v,l.v,r.v]) rfl (by simp[Ob.bW,Tm.bW,oY,pX]) fun g1 w1 dp au f1=>?_))))));refine aq.aE (cks:=[.raw,.raw,.raw]) (x:=(o.v,l.v,r.v,())) au ?_;refine ab.of (aao o hl hr d k (h.af f1) hk (by omega) (by omega) (by omega)) ?_;rintro _ w2 ⟨rfl,h2,f2⟩;exact⟨_,rfl,rfl,h2,f1.oI.trans f2⟩
 | or s l r hl hr=>
  intro w B g b F x d k h hk hn h1 h2;unfold aK at hn h1 h2;refine c258 _ _ d k w _ ?_;refine ao.aM rfl (by decide) (ao.aM rfl (by decide) (ao.aM rfl (by decide) (ao.aM rfl (by decide) (ao.aM rfl (by decide) (ao.aM rfl (by decide) (ao.hit (str s,l.v,r.v,()) rfl (cM (zs:=[.string (⟨#[]⟩:ByteArray),.nilIface,.nilIface]) (vs:=[.string (str s),l.v,r.v]) rfl (by simp[Ob.bW,Tm.bW,oY,pX]) fun g1 w1 dp au f1=>?_)))))));refine aq.aE (cks:=[.str,.raw,.raw]) (x:=(str s,l.v,r.v,())) au ?_;refine ab.of (aap s hl hr d k (h.af f1) hk (by omega) (by omega) (by omega)) ?_;rintro _ w2 ⟨rfl,h2,f2⟩;exact⟨_,rfl,rfl,h2,f1.oI.trans f2⟩
theorem Dy (id:List UInt8)(t:Tm)(d:Int)(hn:aK t<=1000000){w:World}{F:Nat->Prop}{b:Nat}{m:de}(h:ir w F b m)(hF:∀ k,F k->k<w.heap.size):
  Ret Tryz.prog 233 #[.string (str id),t.v,.int .i64 d,.pointer (some ⟨b,0,none⟩)] w fun r w'=>∃ fl wl:Sl,r=.tuple #[.slice fl.1 fl.2.1 fl.2.2,.slice wl.1 wl.2.1 wl.2.2,.int .i64 (fN id t d m).2] /\
   aF w' 219 3 fl (lL (fN id t d m).1.1)/\aF w' 154 5 wl (j0 (fN id t d m).1.2)/\Fr none1 w w'/\(∀ k,aw fl k->w.heap.size<=k)/\(∀ k,aw wl k->w.heap.size<=k):=by
 refine c233 (str id) t.v d _ w _ ?_;unfold C233 fN;have nil:∀ (n:Int) {w':World},Fr none1 w w'->∃ fl wl:Sl,(Value.tuple #[.slice none 0 0,.slice none 0 0,.int .i64 n])=.tuple #[.slice fl.1 fl.2.1 fl.2.2,.slice wl.1 wl.2.1 wl.2.2,.int .i64 n] /\
   aF w' 219 3 fl (lL [])/\aF w' 154 5 wl (j0 [])/\Fr none1 w w'/\(∀ k,aw fl k->w.heap.size<=k)/\(∀ k,aw wl k->w.heap.size<=k):=fun n w' f=>⟨(none,0,0),(none,0,0),rfl,.inl ⟨rfl,rfl⟩,.inl ⟨rfl,rfl⟩,f,fun k t=>(kz k t).elim,fun k t=>(kz k t).elim⟩
 refine ab.of (FH t hn w) ?_;rintro _ w1 ⟨rfl,f1⟩;refine⟨_,rfl,aa.ne (fun ay=>?_) (fun he=>?_)⟩
 ·rw[if_pos (.inl ay)];exact nil 1 f1
 have he:jR t=0:=he;have hn:aK t<=60:=(H9 he).2.1;refine aa.dec (fun hd=>?_) (fun hd=>?_)
 ·rw[if_pos (.inr (.inl hd))];exact nil 1 f1
 refine aa.dec (fun BO=>?_) (fun BO=>?_)
 ·rw[if_pos (.inr (.inr BO))];exact nil 1 f1
 rw[if_neg (by rw[he];simp;omega)];refine ak.of fun g w2 hg aI f2 gw=>?_;have f12:=f1.trans f2;have hw:nN w2 w.heap.size g b F id m ([],[]) (none,0,0) (none,0,0):=⟨aI,.inl ⟨rfl,rfl⟩,.inl ⟨rfl,rfl⟩,fun k t=>(kz k t).elim,fun k t=>(kz k t).elim,h.af f12,hF,by have:=f1.size;omega⟩;refine ab.of (aaq id m t d 1 ⟨_,_,hw⟩ rfl (by omega) (by simp;omega) (by simp;omega)) ?_;generalize cD id m t d 1 ([],[])=X;rintro _ w3 ⟨rfl,h3,f3⟩;have f13:Fr none1 w w3:=f12.comp f3 fun k hk q=>by have:w.heap.size<=k:=q;omega
 refine⟨X.2,rfl,aa.ne (fun ay=>?_) (fun kn=>?_)⟩
 ·rw[if_pos ay];exact nil _ f13
 have kn:X.2=0:=kn;rw[if_neg (fun t=>t kn)];obtain⟨fl,wl,h3⟩:=h3;refine aD.of fun w4 _ f4=>?_;have h4:=h3.af f4;refine ae.ah h4.aE (x:=fl) rfl (ae.ah h4.aE (x:=wl) rfl ?_);exact⟨fl,wl,rfl,h4.ye,h4.waits,f13.trans f4,fun k hk=>(h4.oH k hk).1,fun k hk=>(h4.lu k hk).1⟩
def C126 (p0:Option Addr)(aJ aP:Nat)(w:World)(K:Value->World->Prop):Prop:=
 aa (Option.isNone p0)
 (K (.slice none 0 0) w)
 (aA Tryz.prog (Instr.buildSlice 139 0 #[]) w (.v (.one .aj)) (fun(x1:an) w2=>aA Tryz.prog (Builtin.append_ #[139,139] 139 #[.slice x1.1 x1.2.1 x1.2.2,.slice p0 aJ aP]) w2 (.v (.one .aj)) (fun(x3:an) w4=>K (.slice x3.1 x3.2.1 x3.2.2) w4)))
def pl126:aB:=.auto
theorem c126 (p0:Option Addr)(aJ aP:Nat)(w:World)(K:Value->World->Prop)(h:C126 p0 aJ aP w K):Ret Tryz.prog 126 #[.slice p0 aJ aP] w K:=aC (by kernel_rfl) Tryz.func126 (p:=pl126) (Eq.mpr (by kernel_rfl) h)
def C127 (p0:Option Addr)(aJ aP:Nat)(w:World)(K:Value->World->Prop):Prop:=
 aa (Option.isNone p0)
 (K (.slice none 0 0) w)
 (aA Tryz.prog (Instr.buildSlice 140 0 #[]) w (.v (.one .aj)) (fun(x1:an) w2=>aA Tryz.prog (Builtin.append_ #[140,140] 140 #[.slice x1.1 x1.2.1 x1.2.2,.slice p0 aJ aP]) w2 (.v (.one .aj)) (fun(x3:an) w4=>K (.slice x3.1 x3.2.1 x3.2.2) w4)))
def pl127:aB:=.auto
theorem c127 (p0:Option Addr)(aJ aP:Nat)(w:World)(K:Value->World->Prop)(h:C127 p0 aJ aP w K):Ret Tryz.prog 127 #[.slice p0 aJ aP] w K:=aC (by kernel_rfl) Tryz.func127 (p:=pl127) (Eq.mpr (by kernel_rfl) h)
def C140 (p0:Option Addr)(aJ aP:Nat)(w:World)(K:Value->World->Prop):Prop:=
 aa (Option.isNone p0)
 (K (.slice none 0 0) w)
 (aA Tryz.prog (Instr.buildSlice 171 0 #[]) w (.v (.one .aj)) (fun(x1:an) w2=>aA Tryz.prog (Builtin.append_ #[171,171] 171 #[.slice x1.1 x1.2.1 x1.2.2,.slice p0 aJ aP]) w2 (.v (.one .aj)) (fun(x3:an) w4=>K (.slice x3.1 x3.2.1 x3.2.2) w4)))
def pl140:aB:=.auto
theorem c140 (p0:Option Addr)(aJ aP:Nat)(w:World)(K:Value->World->Prop)(h:C140 p0 aJ aP w K):Ret Tryz.prog 140 #[.slice p0 aJ aP] w K:=aC (by kernel_rfl) Tryz.func140 (p:=pl140) (Eq.mpr (by kernel_rfl) h)
def C89 (p0:List Value)(w:World)(K:Value->World->Prop):Prop:=
 ak (.cells p0.toArray 24) w (fun g1 w2=>eK 16 (ad g1) w2 (fun x3=>aA Tryz.prog (Instr.buildSlice 140 1 #[(0,.int .u64 0)]) w2 (.v (.one .aj)) (fun(x4:an) w5=>uv [.int .u8,.int .u8,.int .u8,.int .u8,.int .u8,.int .u8,.int .u8,.int .u8,.int .u8,.int .u8,.int .u8,.int .u8,.int .u8,.int .u8,.int .u8,.int .u8] x3 (fun(x6:Int×Int×Int×Int×Int×Int×Int×Int×Int×Int×Int×Int×Int×Int×Int×Int×Unit)=>ak (.cells #[.int .u8 x6.1,.int .u8 x6.2.1,.int .u8 x6.2.2.1,.int .u8 x6.2.2.2.1,.int .u8 x6.2.2.2.2.1,.int .u8 x6.2.2.2.2.2.1,.int .u8 x6.2.2.2.2.2.2.1,.int .u8 x6.2.2.2.2.2.2.2.1,.int .u8 x6.2.2.2.2.2.2.2.2.1,.int .u8 x6.2.2.2.2.2.2.2.2.2.1,.int .u8 x6.2.2.2.2.2.2.2.2.2.2.1,.int .u8 x6.2.2.2.2.2.2.2.2.2.2.2.1,.int .u8 x6.2.2.2.2.2.2.2.2.2.2.2.2.1,.int .u8 x6.2.2.2.2.2.2.2.2.2.2.2.2.2.1,.int .u8 x6.2.2.2.2.2.2.2.2.2.2.2.2.2.2.1,.int .u8 x6.2.2.2.2.2.2.2.2.2.2.2.2.2.2.2.1,.slice none 0 0,.slice x4.1 x4.2.1 x4.2.2] 142) w5 (fun g7 w8=>K (.pointer (some (ad g7))) w8)))))
def pl89:aB:=.auto
theorem c89 (p0:List Value)(w:World)(K:Value->World->Prop)(h:C89 p0 w K):Ret Tryz.prog 89 #[.agg p0.toArray] w K:=aC (by kernel_rfl) Tryz.func89 (p:=pl89) (Eq.mpr (by kernel_rfl) h)
def C159 (p0:List Value)(p1:Int)(p2:iI)(w:World)(K:Value->World->Prop):Prop:=
 ak (.cells p0.toArray 24) w (fun g1 w2=>ak (.cells ((iX p2).toArray) 110) w2 (fun g3 w4=>aq lS (ad g3) w4 (fun(x5:iI)=>ab Tryz.prog 153 #[.agg (iX x5).toArray] w4 (.aN [.one .aj,.one (.int .i64)]) (fun(x6:an×Int×Unit) w7=>aa (x6.2.1 != 0)
 (K (.tuple #[.int .u64 0,.int .i64 x6.2.1]) w7)
 (aD w7 (fun w8=>aV (fun S9=>av S9 (ad g1) (eK 16 (ad g1) w8 (fun aQ=>ab Tryz.prog 49 #[.int .u64 p1] w8 (.v (.one .aj)) (fun(aX:an) aL=>ai S9 w8 aL (aA Tryz.prog (Builtin.append_ #[22,22] 22 #[.slice aX.1 aX.2.1 aX.2.2,.slice x6.1.1 x6.1.2.1 x6.1.2.2]) aL (.v (.one .aj)) (fun(bz:an) bo=>ai S9 aL bo (ab Tryz.prog 50 #[.agg aQ.toArray,.slice bz.1 bz.2.1 bz.2.2] bo (.v (.one (.int .u64))) (fun(bn:Int) bj=>ai S9 bo bj (K (.tuple #[.int .u64 bn,.int .i64 0]) bj)))))))))))))))
def pl159:aB:=(.seq .auto (.seq .auto (.seq .auto (.seq (.held (.soft 0 (.soft 1 (.soft 3 (.pick 2 (.pick 4 (.pick 5 (.soft 6 (.soft 7 .done)) .stop) .stop) .stop))))) .auto))))
theorem c159 (p0:List Value)(p1:Int)(p2:iI)(w:World)(K:Value->World->Prop)(h:C159 p0 p1 p2 w K):Ret Tryz.prog 159 #[.agg p0.toArray,.int .u64 p1,.agg (iX p2).toArray] w K:=aC (by kernel_rfl) Tryz.func159 (p:=pl159) (Eq.mpr (by kernel_rfl) h)
def C189 (p0:Addr)(p1:iI)(w:World)(K:Value->World->Prop):Prop:=
 ak (.cells ((iX p1).toArray) 110) w (fun g1 w2=>ae .aj (p0.add 16) w2 (fun(x3:an)=>aa (decide ((x3.2.1:Int) >= 64))
 (K (.int .i64 5) w2)
 (aD w2 (fun w4=>aV (fun S5=>av S5 (p0.add 0) (eK 16 (p0.add 0) w4 (fun x6=>av S5 (ad g1) (aq lS (ad g1) w4 (fun(x7:iI)=>ab Tryz.prog 32 #[.pointer (some p0)] w4 (.v (.one (.int .u64))) (fun(x8:Int) w9=>ai S5 w4 w9 (ab Tryz.prog 159 #[.agg x6.toArray,.int .u64 x8,.agg (iX x7).toArray] w9 (.aN [.one (.int .u64),.one (.int .i64)]) (fun(aQ:Int×Int×Unit) aO=>aa (aQ.2.1 != 0)
 (K (.int .i64 aQ.2.1) aO)
 (aD aO (fun aL=>aV (fun eW=>av eW (p0.add 16) (ae .aj (p0.add 16) aL (fun(bg:an)=>av eW (ad g1) (aq lS (ad g1) aL (fun(bn:iI)=>av eW (p0.add 17) (ae .aj (p0.add 17) aL (fun(aS:an)=>kO (ab Tryz.prog 126 #[.slice bg.1 bg.2.1 bg.2.2] aL (.v (.one .aj)) (fun(ba:an) bt=>ai eW aL bt (kO (aA Tryz.prog (Instr.buildSlice 139 1 #[(0,.agg (iX bn).toArray)]) bt (.v (.one .aj)) (fun(br:an) bh=>ai eW bt bh (kO (aA Tryz.prog (Builtin.append_ #[139,139] 139 #[.slice ba.1 ba.2.1 ba.2.2,.slice br.1 br.2.1 br.2.2]) bh (.v (.one .aj)) (fun(bY:an) bJ=>ai eW bh bJ (kO (ab Tryz.prog 127 #[.slice aS.1 aS.2.1 aS.2.2] bJ (.v (.one .aj)) (fun(cv:an) cg=>ai eW bJ cg (aA Tryz.prog (Instr.buildSlice 140 1 #[(0,.int .u64 aQ.1)]) cg (.v (.one .aj)) (fun(bD:an) cn=>ai eW cg cn (aA Tryz.prog (Builtin.append_ #[140,140] 140 #[.slice cv.1 cv.2.1 cv.2.2,.slice bD.1 bD.2.1 bD.2.2]) cn (.v (.one .aj)) (fun(cA:an) bV=>az (p0.add 16) (.slice bY.1 bY.2.1 bY.2.2) bV (fun eD=>az (p0.add 17) (.slice cA.1 cA.2.1 cA.2.2) eD (fun bS=>K (.int .i64 0) bS))))))))
 (aA Tryz.prog (Instr.buildSlice 140 1 #[(0,.int .u64 aQ.1)]) bJ (.v (.one .aj)) (fun(bZ:an) cU=>ai eW bJ cU (ab Tryz.prog 127 #[.slice aS.1 aS.2.1 aS.2.2] cU (.v (.one .aj)) (fun(dA:an) gJ=>aA Tryz.prog (Builtin.append_ #[140,140] 140 #[.slice dA.1 dA.2.1 dA.2.2,.slice bZ.1 bZ.2.1 bZ.2.2]) gJ (.v (.one .aj)) (fun(dv:an) dd=>az (p0.add 16) (.slice bY.1 bY.2.1 bY.2.2) dd (fun dz=>az (p0.add 17) (.slice dv.1 dv.2.1 dv.2.2) dz (fun ic=>K (.int .i64 0) ic))))))))))
 (aA Tryz.prog (Instr.buildSlice 140 1 #[(0,.int .u64 aQ.1)]) bh (.v (.one .aj)) (fun(fk:an) dP=>ai eW bh dP (aA Tryz.prog (Builtin.append_ #[139,139] 139 #[.slice ba.1 ba.2.1 ba.2.2,.slice br.1 br.2.1 br.2.2]) dP (.v (.one .aj)) (fun(eM:an) gx=>ai eW dP gx (ab Tryz.prog 127 #[.slice aS.1 aS.2.1 aS.2.2] gx (.v (.one .aj)) (fun(jw:an) gd=>aA Tryz.prog (Builtin.append_ #[140,140] 140 #[.slice jw.1 jw.2.1 jw.2.2,.slice fk.1 fk.2.1 fk.2.2]) gd (.v (.one .aj)) (fun(gX:an) iy=>az (p0.add 16) (.slice eM.1 eM.2.1 eM.2.2) iy (fun gI=>az (p0.add 17) (.slice gX.1 gX.2.1 gX.2.2) gI (fun gF=>K (.int .i64 0) gF))))))))))))
 (aA Tryz.prog (Instr.buildSlice 140 1 #[(0,.int .u64 aQ.1)]) bt (.v (.one .aj)) (fun(fD:an) mG=>ai eW bt mG (aA Tryz.prog (Instr.buildSlice 139 1 #[(0,.agg (iX bn).toArray)]) mG (.v (.one .aj)) (fun(jx:an) fh=>ai eW mG fh (aA Tryz.prog (Builtin.append_ #[139,139] 139 #[.slice ba.1 ba.2.1 ba.2.2,.slice jx.1 jx.2.1 jx.2.2]) fh (.v (.one .aj)) (fun(fY:an) gW=>ai eW fh gW (ab Tryz.prog 127 #[.slice aS.1 aS.2.1 aS.2.2] gW (.v (.one .aj)) (fun(qx:an) rV=>aA Tryz.prog (Builtin.append_ #[140,140] 140 #[.slice qx.1 qx.2.1 qx.2.2,.slice fD.1 fD.2.1 fD.2.2]) rV (.v (.one .aj)) (fun(nj:an) qQ=>az (p0.add 16) (.slice fY.1 fY.2.1 fY.2.2) qQ (fun lV=>az (p0.add 17) (.slice nj.1 nj.2.1 nj.2.2) lV (fun tv=>K (.int .i64 0) tv))))))))))))))
 (kO (aA Tryz.prog (Instr.buildSlice 139 1 #[(0,.agg (iX bn).toArray)]) aL (.v (.one .aj)) (fun(l8:an) jA=>ai eW aL jA (kO (ab Tryz.prog 126 #[.slice bg.1 bg.2.1 bg.2.2] jA (.v (.one .aj)) (fun(nk:an) jy=>ai eW jA jy (kO (aA Tryz.prog (Builtin.append_ #[139,139] 139 #[.slice nk.1 nk.2.1 nk.2.2,.slice l8.1 l8.2.1 l8.2.2]) jy (.v (.one .aj)) (fun(o7:an) vE=>ai eW jy vE (kO (ab Tryz.prog 127 #[.slice aS.1 aS.2.1 aS.2.2] vE (.v (.one .aj)) (fun(o6:an) tV=>ai eW vE tV (aA Tryz.prog (Instr.buildSlice 140 1 #[(0,.int .u64 aQ.1)]) tV (.v (.one .aj)) (fun(IM:an) PO=>ai eW tV PO (aA Tryz.prog (Builtin.append_ #[140,140] 140 #[.slice o6.1 o6.2.1 o6.2.2,.slice IM.1 IM.2.1 IM.2.2]) PO (.v (.one .aj)) (fun(AW:an) w72=>az (p0.add 16) (.slice o7.1 o7.2.1 o7.2.2) w72 (fun qV=>az (p0.add 17) (.slice AW.1 AW.2.1 AW.2.2) qV (fun w74=>K (.int .i64 0) w74))))))))
 (aA Tryz.prog (Instr.buildSlice 140 1 #[(0,.int .u64 aQ.1)]) vE (.v (.one .aj)) (fun(sG:an) qW=>ai eW vE qW (ab Tryz.prog 127 #[.slice aS.1 aS.2.1 aS.2.2] qW (.v (.one .aj)) (fun(vF:an) mE=>aA Tryz.prog (Builtin.append_ #[140,140] 140 #[.slice vF.1 vF.2.1 vF.2.2,.slice sG.1 sG.2.1 sG.2.2]) mE (.v (.one .aj)) (fun(IN:an) HP=>az (p0.add 16) (.slice o7.1 o7.2.1 o7.2.2) HP (fun CY=>az (p0.add 17) (.slice IN.1 IN.2.1 IN.2.2) CY (fun w82=>K (.int .i64 0) w82))))))))))
 (aA Tryz.prog (Instr.buildSlice 140 1 #[(0,.int .u64 aQ.1)]) jy (.v (.one .aj)) (fun(AX:an) IP=>ai eW jy IP (aA Tryz.prog (Builtin.append_ #[139,139] 139 #[.slice nk.1 nk.2.1 nk.2.2,.slice l8.1 l8.2.1 l8.2.2]) IP (.v (.one .aj)) (fun(AY:an) PQ=>ai eW IP PQ (ab Tryz.prog 127 #[.slice aS.1 aS.2.1 aS.2.2] PQ (.v (.one .aj)) (fun(IQ:an) Dz=>aA Tryz.prog (Builtin.append_ #[140,140] 140 #[.slice IQ.1 IQ.2.1 IQ.2.2,.slice AX.1 AX.2.1 AX.2.2]) Dz (.v (.one .aj)) (fun(AZ:an) w90=>az (p0.add 16) (.slice AY.1 AY.2.1 AY.2.2) w90 (fun w91=>az (p0.add 17) (.slice AZ.1 AZ.2.1 AZ.2.2) w91 (fun FQ=>K (.int .i64 0) FQ))))))))))))
 (aA Tryz.prog (Instr.buildSlice 140 1 #[(0,.int .u64 aQ.1)]) jA (.v (.one .aj)) (fun(IS:an) se=>ai eW jA se (ab Tryz.prog 126 #[.slice bg.1 bg.2.1 bg.2.2] se (.v (.one .aj)) (fun(IT:an) IU=>ai eW se IU (aA Tryz.prog (Builtin.append_ #[139,139] 139 #[.slice IT.1 IT.2.1 IT.2.2,.slice l8.1 l8.2.1 l8.2.2]) IU (.v (.one .aj)) (fun(zC:an) PR=>ai eW IU PR (ab Tryz.prog 127 #[.slice aS.1 aS.2.1 aS.2.2] PR (.v (.one .aj)) (fun(zD:an) zE=>aA Tryz.prog (Builtin.append_ #[140,140] 140 #[.slice zD.1 zD.2.1 zD.2.2,.slice IS.1 IS.2.1 IS.2.2]) zE (.v (.one .aj)) (fun(zF:an) zG=>az (p0.add 16) (.slice zC.1 zC.2.1 zC.2.2) zG (fun aar=>az (p0.add 17) (.slice zF.1 zF.2.1 zF.2.2) aar (fun zH=>K (.int .i64 0) zH))))))))))))))
 (aA Tryz.prog (Instr.buildSlice 140 1 #[(0,.int .u64 aQ.1)]) aL (.v (.one .aj)) (fun(qX:an) sg=>ai eW aL sg (kO (ab Tryz.prog 126 #[.slice bg.1 bg.2.1 bg.2.2] sg (.v (.one .aj)) (fun(zI:an) xn=>ai eW sg xn (aA Tryz.prog (Instr.buildSlice 139 1 #[(0,.agg (iX bn).toArray)]) xn (.v (.one .aj)) (fun(IV:an) IW=>ai eW xn IW (aA Tryz.prog (Builtin.append_ #[139,139] 139 #[.slice zI.1 zI.2.1 zI.2.2,.slice IV.1 IV.2.1 IV.2.2]) IW (.v (.one .aj)) (fun(IX:an) PS=>ai eW IW PS (ab Tryz.prog 127 #[.slice aS.1 aS.2.1 aS.2.2] PS (.v (.one .aj)) (fun(IY:an) aas=>aA Tryz.prog (Builtin.append_ #[140,140] 140 #[.slice IY.1 IY.2.1 IY.2.2,.slice qX.1 qX.2.1 qX.2.2]) aas (.v (.one .aj)) (fun(IZ:an) aat=>az (p0.add 16) (.slice IX.1 IX.2.1 IX.2.2) aat (fun aau=>az (p0.add 17) (.slice IZ.1 IZ.2.1 IZ.2.2) aau (fun aav=>K (.int .i64 0) aav)))))))))))
 (aA Tryz.prog (Instr.buildSlice 139 1 #[(0,.agg (iX bn).toArray)]) sg (.v (.one .aj)) (fun(I0:an) I1=>ai eW sg I1 (ab Tryz.prog 126 #[.slice bg.1 bg.2.1 bg.2.2] I1 (.v (.one .aj)) (fun(I2:an) I3=>ai eW I1 I3 (aA Tryz.prog (Builtin.append_ #[139,139] 139 #[.slice I2.1 I2.2.1 I2.2.2,.slice I0.1 I0.2.1 I0.2.2]) I3 (.v (.one .aj)) (fun(I4:an) PT=>ai eW I3 PT (ab Tryz.prog 127 #[.slice aS.1 aS.2.1 aS.2.2] PT (.v (.one .aj)) (fun(I5:an) aaw=>aA Tryz.prog (Builtin.append_ #[140,140] 140 #[.slice I5.1 I5.2.1 I5.2.2,.slice qX.1 qX.2.1 qX.2.2]) aaw (.v (.one .aj)) (fun(I6:an) aax=>az (p0.add 16) (.slice I4.1 I4.2.1 I4.2.2) aax (fun aay=>az (p0.add 17) (.slice I6.1 I6.2.1 I6.2.2) aay (fun aaz=>K (.int .i64 0) aaz))))))))))))))))))))))))))))))))))))
def pl189:aB:=(.seq .auto (.seq .auto (.seq (.held (.soft 0 (.soft 1 (.soft 2 (.soft 3 (.soft 4 (.soft 6 (.pick 5 (.last 7 (.soft 8 (.soft 9 (.soft 10 (.soft 11 (.soft 12 .done)))))) .stop)))))))) (.seq .auto (.seq (.held (.soft 0 (.soft 1 (.soft 2 (.soft 3 (.soft 4 (.soft 5 (.soft 7 (.soft 10 (.soft 11 (.soft 12 (.soft 13 (.soft 15 (.pick 6 (.pick 8 (.pick 9 (.pick 14 (.pick 16 (.last 17 (.soft 18 (.soft 19 (.last 20 (.soft 21 (.soft 22 (.last 23 .done))))))) .stop) (.pick 16 (.last 14 (.last 17 (.soft 18 (.soft 19 (.last 20 (.soft 21 (.soft 22 (.last 23 .done)))))))) .stop)) (.pick 16 (.pick 9 (.last 14 (.last 17 (.soft 18 (.soft 19 (.last 20 (.soft 21 (.soft 22 (.last 23 .done)))))))) .stop) .stop)) (.pick 16 (.pick 8 (.pick 9 (.last 14 (.last 17 (.soft 18 (.soft 19 (.last 20 (.soft 21 (.soft 22 (.last 23 .done)))))))) .stop) .stop) .stop)) (.pick 8 (.pick 6 (.pick 9 (.pick 14 (.pick 16 (.last 17 (.soft 18 (.soft 19 (.last 20 (.soft 21 (.soft 22 (.last 23 .done))))))) .stop) (.pick 16 (.last 14 (.last 17 (.soft 18 (.soft 19 (.last 20 (.soft 21 (.soft 22 (.last 23 .done)))))))) .stop)) (.pick 16 (.pick 9 (.last 14 (.last 17 (.soft 18 (.soft 19 (.last 20 (.soft 21 (.soft 22 (.last 23 .done)))))))) .stop) .stop)) (.pick 16 (.pick 6 (.pick 9 (.last 14 (.last 17 (.soft 18 (.soft 19 (.last 20 (.soft 21 (.soft 22 (.last 23 .done)))))))) .stop) .stop) .stop)) (.pick 16 (.pick 6 (.pick 8 (.pick 9 (.last 14 (.last 17 (.soft 18 (.soft 19 (.last 20 (.soft 21 (.soft 22 (.last 23 .done)))))))) .stop) .stop) (.pick 8 (.pick 6 (.pick 9 (.last 14 (.last 17 (.soft 18 (.soft 19 (.last 20 (.soft 21 (.soft 22 (.last 23 .done)))))))) .stop) .stop) .stop)) .stop)))))))))))))))) .auto)))))
theorem c189 (p0:Addr)(p1:iI)(w:World)(K:Value->World->Prop)(h:C189 p0 p1 w K):Ret Tryz.prog 189 #[.pointer (some p0),.agg (iX p1).toArray] w K:=aC (by kernel_rfl) Tryz.func189 (p:=pl189) (Eq.mpr (by kernel_rfl) h)
def C27 (p0:Addr)(w:World)(K:Value->World->Prop):Prop:=
 ae .aj (p0.add 16) w (fun(x1:an)=>K (.int .i64 (x1.2.1:Int)) w)
def pl27:aB:=.auto
theorem c27 (p0:Addr)(w:World)(K:Value->World->Prop)(h:C27 p0 w K):Ret Tryz.prog 27 #[.pointer (some p0)] w K:=aC (by kernel_rfl) Tryz.func27 (p:=pl27) (Eq.mpr (by kernel_rfl) h)
def C32 (p0:Addr)(w:World)(K:Value->World->Prop):Prop:=
 aD w (fun w1=>ae .aj (p0.add 17) w1 (fun(x2:an)=>ae .aj (p0.add 17) w1 (fun(x3:an)=>bQ x2.1 x2.2.1 (IntKind.i64.wrap ((x3.2.1:Int) - 1)) 1 (fun a4=>ae (.int .u64) a4 w1 (fun(x5:Int)=>K (.int .u64 x5) w1)))))
def pl32:aB:=(.seq .auto (.seq .still .auto))
theorem c32 (p0:Addr)(w:World)(K:Value->World->Prop)(h:C32 p0 w K):Ret Tryz.prog 32 #[.pointer (some p0)] w K:=aC (by kernel_rfl) Tryz.func32 (p:=pl32) (Eq.mpr (by kernel_rfl) h)
def C31 (p0:Addr)(p1:Int)(w:World)(K:Value->World->Prop):Prop:=
 aa (decide (p1<0))
 (K (.tuple #[.int .u64 0,.bool false]) w)
 (ae .aj (p0.add 17) w (fun(x1:an)=>aa (decide (p1 >= (x1.2.1:Int)))
 (K (.tuple #[.int .u64 0,.bool false]) w)
 (ae .aj (p0.add 17) w (fun(x2:an)=>bQ x2.1 x2.2.1 p1 1 (fun a3=>ae (.int .u64) a3 w (fun(x4:Int)=>K (.tuple #[.int .u64 x4,.bool true]) w))))))
def pl31:aB:=.auto
theorem c31 (p0:Addr)(p1:Int)(w:World)(K:Value->World->Prop)(h:C31 p0 p1 w K):Ret Tryz.prog 31 #[.pointer (some p0),.int .i64 p1] w K:=aC (by kernel_rfl) Tryz.func31 (p:=pl31) (Eq.mpr (by kernel_rfl) h)
def C200 (p0:Addr)(w:World)(K:Value->World->Prop):Prop:=
 ae .aj (p0.add 16) w (fun(x1:an)=>ab Tryz.prog 126 #[.slice x1.1 x1.2.1 x1.2.2] w (.v (.one .aj)) (fun(x2:an) w3=>K (.slice x2.1 x2.2.1 x2.2.2) w3))
def pl200:aB:=.auto
theorem c200 (p0:Addr)(w:World)(K:Value->World->Prop)(h:C200 p0 w K):Ret Tryz.prog 200 #[.pointer (some p0)] w K:=aC (by kernel_rfl) Tryz.func200 (p:=pl200) (Eq.mpr (by kernel_rfl) h)
def C69 (p0:Addr)(w:World)(K:Value->World->Prop):Prop:=
 aD w (fun w1=>aV (fun S2=>av S2 (p0.add 0) (eK 16 (p0.add 0) w1 (fun x3=>av S2 (p0.add 16) (ae .aj (p0.add 16) w1 (fun(x4:an)=>av S2 (p0.add 17) (ae .aj (p0.add 17) w1 (fun(x5:an)=>ab Tryz.prog 126 #[.slice x4.1 x4.2.1 x4.2.2] w1 (.v (.one .aj)) (fun(x6:an) w7=>ai S2 w1 w7 (ab Tryz.prog 127 #[.slice x5.1 x5.2.1 x5.2.2] w7 (.v (.one .aj)) (fun(x8:an) w9=>ai S2 w7 w9 (uv [.int .u8,.int .u8,.int .u8,.int .u8,.int .u8,.int .u8,.int .u8,.int .u8,.int .u8,.int .u8,.int .u8,.int .u8,.int .u8,.int .u8,.int .u8,.int .u8] x3 (fun(aQ:Int×Int×Int×Int×Int×Int×Int×Int×Int×Int×Int×Int×Int×Int×Int×Int×Unit)=>ak (.cells #[.int .u8 aQ.1,.int .u8 aQ.2.1,.int .u8 aQ.2.2.1,.int .u8 aQ.2.2.2.1,.int .u8 aQ.2.2.2.2.1,.int .u8 aQ.2.2.2.2.2.1,.int .u8 aQ.2.2.2.2.2.2.1,.int .u8 aQ.2.2.2.2.2.2.2.1,.int .u8 aQ.2.2.2.2.2.2.2.2.1,.int .u8 aQ.2.2.2.2.2.2.2.2.2.1,.int .u8 aQ.2.2.2.2.2.2.2.2.2.2.1,.int .u8 aQ.2.2.2.2.2.2.2.2.2.2.2.1,.int .u8 aQ.2.2.2.2.2.2.2.2.2.2.2.2.1,.int .u8 aQ.2.2.2.2.2.2.2.2.2.2.2.2.2.1,.int .u8 aQ.2.2.2.2.2.2.2.2.2.2.2.2.2.2.1,.int .u8 aQ.2.2.2.2.2.2.2.2.2.2.2.2.2.2.2.1,.slice x6.1 x6.2.1 x6.2.2,.slice x8.1 x8.2.1 x8.2.2] 142) w9 (fun g11 aL=>ai S2 w9 aL (K (.pointer (some (ad g11))) aL)))))))))))))))
def pl69:aB:=(.seq .auto (.seq (.held (.soft 0 (.soft 1 (.soft 2 (.soft 3 (.soft 4 (.soft 5 (.soft 6 (.soft 7 (.soft 9 (.soft 10 (.soft 11 (.soft 12 (.pick 8 (.pick 13 (.soft 14 (.pick 15 (.soft 16 .done) .stop)) .stop) .stop)))))))))))))) .auto))
theorem c69 (p0:Addr)(w:World)(K:Value->World->Prop)(h:C69 p0 w K):Ret Tryz.prog 69 #[.pointer (some p0)] w K:=aC (by kernel_rfl) Tryz.func69 (p:=pl69) (Eq.mpr (by kernel_rfl) h)
theorem I7 (w:World)(E s:Nat):aF w E s (none,0,0) []:=.inl ⟨rfl,rfl⟩
theorem I8 {t E s bytes:Nat}{z:Value}(he:iw Tryz.prog t E s z bytes){w:World}{v:Sl}{xs:List Value}(h:du w s v xs)(h1:∀ x∈xs,bK x=true)(hb:(2 * v.2.1+192) * bytes<=2 ^ 48){K:Value->World->Prop}
  (k:∀ (u:Sl) w',aF w' E s u xs->Fr none1 w w'->(∀ k,aw u k->w.heap.size<=k)->K (.slice u.1 u.2.1 u.2.2) w') :
  aa (Option.isNone v.1) (K (.slice none 0 0) w) (aA Tryz.prog (Instr.buildSlice t 0 #[]) w (.v (.one .aj)) (fun(x:Option Addr×Nat×Nat) w2=>aA Tryz.prog (Builtin.append_ #[t,t] t #[.slice x.1 x.2.1 x.2.2,.slice v.1 v.2.1 v.2.2]) w2 (.v (.one .aj)) (fun(y:Option Addr×Nat×Nat) w4=>K (.slice y.1 y.2.1 y.2.2) w4))):=by
 refine aa.by (fun hn=>?_) (fun hn=>?_)
 ·have hv:v.1=none:=by simpa using hn
  have:=(h.2.1 hv).2.2;subst this;exact k (none,0,0) w (I7 _ _ _) (Fr.refl _ _) fun k ⟨a,ha,_⟩=>by cases ha
 ·obtain⟨x,w2,hr,hx,kW,f2,xf⟩:=MT (P:=Tryz.prog) (w:=w) he [] (by simp) (by simp)
  refine⟨x,w2,hr,?_⟩;obtain⟨y,w4,zt,hy,iH,f4,yf⟩:=gE (P:=Tryz.prog) he t hx (h.af f2) h1 (by rw[kW];simpa using hb);refine⟨y,w4,zt,k y w4 (by simpa using hy) (f2.comp f4 fun j hj q=>by have:=xf j q;omega) fun j hj=>?_⟩
  rcases yf j hj with q | q
  ·exact xf j q
  ·exact Nat.le_trans f2.size q
theorem nP:iw Tryz.prog 139 110 9 (.agg #[.int .i64 0,.string ⟨#[]⟩,.string ⟨#[]⟩,.string ⟨#[]⟩,.string ⟨#[]⟩,.int .i64 0,.int .i64 0,.nilIface,.bool false]) 112:=⟨Tryz.underlying139,⟨Tryz.t110,by kernel_rfl,rfl,rfl,rfl⟩,rfl,by decide⟩
theorem j1:iw Tryz.prog 140 40 1 (.int .u64 0) 8:=⟨Tryz.underlying140,⟨Tryz.t40,by kernel_rfl,rfl,rfl,rfl⟩,rfl,by decide⟩
theorem DA:iw Tryz.prog 171 262 3 (.agg #[.string ⟨#[]⟩,.int .i64 0,.nilIface]) 40:=⟨Tryz.underlying171,⟨Tryz.t262,by kernel_rfl,rfl,rfl,rfl⟩,rfl,by decide⟩
def DB (w:World)(E s:Nat)(xs:List Value)(r:Value)(w':World):Prop:=∃ u:Sl,r=.slice u.1 u.2.1 u.2.2/\aF w' E s u xs/\Fr none1 w w'/\∀ k,aw u k->w.heap.size<=k
theorem vS {w:World}{v:Sl}{xs:List Value}(h:du w 9 v xs)(h1:∀ x∈xs,bK x=true)(hb:v.2.1<=1000000):Ret Tryz.prog 126 #[.slice v.1 v.2.1 v.2.2] w (DB w 110 9 xs):=by
 refine c126 v.1 v.2.1 v.2.2 w _ ?_;exact I8 nP h h1 (by omega) fun u w' hu f uf=>⟨u,rfl,hu,f,uf⟩
theorem qz {w:World}{v:Sl}{xs:List Value}(h:du w 1 v xs)(h1:∀ x∈xs,bK x=true)(hb:v.2.1<=1000000):Ret Tryz.prog 127 #[.slice v.1 v.2.1 v.2.2] w (DB w 40 1 xs):=by
 refine c127 v.1 v.2.1 v.2.2 w _ ?_;exact I8 j1 h h1 (by omega) fun u w' hu f uf=>⟨u,rfl,hu,f,uf⟩
theorem I9 {w:World}{v:Sl}{xs:List Value}(h:du w 3 v xs)(h1:∀ x∈xs,bK x=true)(hb:v.2.1<=1000000):Ret Tryz.prog 140 #[.slice v.1 v.2.1 v.2.2] w (DB w 262 3 xs):=by
 refine c140 v.1 v.2.1 v.2.2 w _ ?_;exact I8 DA h h1 (by omega) fun u w' hu f uf=>⟨u,rfl,hu,f,uf⟩
abbrev nQ:List Ck:=[.int .u8,.int .u8,.int .u8,.int .u8,.int .u8,.int .u8,.int .u8,.int .u8,.int .u8,.int .u8,.int .u8,.int .u8,.int .u8,.int .u8,.int .u8,.int .u8]
theorem Ja:∀ (n:Nat) (kb:List UInt8),kb.length=n->∃ y:Cs (List.replicate n (.int .u8)),kb.map bc=Cs.vals (List.replicate n (.int .u8)) y
 | 0,[],_=>⟨(),rfl⟩
 | n+1,b::kb,h=>by
  obtain⟨y,hy⟩:=Ja n kb (by simpa using h);exact⟨((b.toNat:Int),y),by rw[List.map_cons,hy];rfl⟩
theorem DC {kb:List UInt8}(hk:kb.length=16){K:Cs nQ->Prop}(k:∀ y:Cs nQ,Cs.vals nQ y=cV kb->K y):uv nQ (cV kb) K:=by
 obtain⟨y,hy⟩:=Ja 16 kb hk;exact⟨y,hy,k y hy.symm⟩
def Jb (n:Int):Value:=.int .u64 n
def jq (x:fw):List Value:=qn x.1.e x.2
theorem aaA (x:fw):(jq x).length=9:=rfl
theorem sN (x:fw):∀ v∈jq x,bK v=true:=by
 have:=Hc (e:=x.1.e) x.2 (Tm.bW x.1.t);exact fun v hv=>List.all_eq_true.1 this v hv
def rv (es:List fw):List Value:=(es.map jq).flatten
theorem pC (es:List fw):(rv es).length=es.length * 9:=by
 induction es with
 | nil=>rfl
 | cons x es ih=>
  unfold rv at *;rw[List.map_cons,List.flatten_cons,List.length_append,ih,aaA,List.length_cons];omega
theorem vT (es:List fw):∀ v∈rv es,bK v=true:=by
 intro v hv;unfold rv at hv;rw[List.mem_flatten] at hv;obtain⟨l,hl,hv⟩:=hv;obtain⟨x,_,rfl⟩:=List.mem_map.1 hl;exact sN x v hv
theorem qA (hs:List Int):∀ v∈hs.map Jb,bK v=true:=by intro v hv;obtain⟨x,_,rfl⟩:=List.mem_map.1 hv;rfl
def mU (kb:List UInt8)(l hd:Sl):List Value:=cV kb++[.slice l.1 l.2.1 l.2.2,.slice hd.1 hd.2.1 hd.2.2]
structure jG (w:World)(F:Nat->Prop)(c:Nat)(kb:List UInt8)(es:List fw)(hs:List Int):Prop where
 out:∃ l hd:Sl,w.heap[c]? = some (.cells (mU kb l hd).toArray 142 (0,0))/\aF w 110 9 l (rv es)/\aF w 40 1 hd (hs.map Jb)/\(∀ k,aw l k->F k/\k≠c)/\(∀ k,aw hd k->F k/\k≠c)
 mem:F c
theorem jG.ag {w w':World}{F T:Nat->Prop}{c:Nat}{kb:List UInt8}{es:List fw}{hs:List Int}(h:jG w F c kb es hs)(f:Fr T w w')(hT:∀ k,F k->¬ T k):jG w' F c kb es hs:=by
 obtain⟨⟨l,hd,h1,h2,h3,h4,h5⟩,hm⟩:=h;exact⟨⟨l,hd,f.ag h1 (hT c hm),h2.ag f (fun k hk=>hT k (h4 k hk).1),h3.ag f (fun k hk=>hT k (h5 k hk).1),h4,h5⟩,hm⟩
theorem jG.af {w w':World}{F:Nat->Prop}{c:Nat}{kb:List UInt8}{es:List fw}{hs:List Int}(h:jG w F c kb es hs)(f:Fr none1 w w'):jG w' F c kb es hs:=h.ag f fun _ _ t=>t
theorem kK {kb:List UInt8}:(cV kb).length=kb.length:=by unfold cV;simp
theorem qB {kb:List UInt8}(hk:kb.length=16)(l hd:Sl):(mU kb l hd).toArray[16]? = some (.slice l.1 l.2.1 l.2.2)/\(mU kb l hd).toArray[17]? = some (.slice hd.1 hd.2.1 hd.2.2):=by
 unfold mU;have:=kK (kb:=kb)
 constructor
 ·rw[List.getElem?_toArray,List.getElem?_append_right (by omega),this,hk];rfl
 ·rw[List.getElem?_toArray,List.getElem?_append_right (by omega),this,hk];rfl
theorem PU {w:World}{c:Nat}{kb:List UInt8}(hk:kb.length=16){l hd:Sl}{T:TypeId}{fr:Nat×Nat}(h:w.heap[c]? = some (.cells (mU kb l hd).toArray T fr)){K:List Value->Prop}(k:K (cV kb)):eK 16 ((⟨c,0,none⟩:Addr).add 0) w K:=by
 refine⟨cV kb,by rw[kK,hk],?_,k⟩;rw[dT];refine nY h _ 0 fun j hj=>?_;unfold mU;rw[List.getElem?_toArray,Nat.zero_add,List.getElem?_append_left hj]
theorem aaB {kb:List UInt8}(hk:kb.length=16)(w:World):Ret Tryz.prog 89 #[.agg (cV kb).toArray] w fun r w'=>∃ c,r=.pointer (some ⟨c,0,none⟩)/\jG w' (fun k=>w.heap.size<=k/\k<w'.heap.size) c kb [] [0]/\Fr none1 w w':=by
 refine c89 (cV kb) w _ ?_;unfold C89;refine ak.of fun g1 w1 dp au f1 kq=>eK.of au (by rw[kK,hk]) ?_;obtain⟨x,w2,hr,hx,kW,f2,xf⟩:=lR (P:=Tryz.prog) (w:=w1) j1 (.int .u64 0) rfl;refine⟨x,w2,hr,DC hk fun y hy=>ak.of fun g w3 hg hb f3 pj=>?_⟩;have hb:w3.heap[g]? = some (.cells (Cs.vals nQ y++[Value.slice none 0 0,Value.slice x.1 x.2.1 x.2.2]).toArray 142 (0,0)):=hb;rw[hy] at hb;have s1:=f1.size;have s2:=f2.size;refine⟨g,rfl,⟨⟨(none,0,0),x,hb,I7 _ _ _,hx.af f3,fun k ⟨a,ha,_⟩=>(by cases ha),fun k fG=>?_⟩,?_⟩,(f1.trans f2).trans f3⟩
 ·have:=xf k fG;have:=aF.lt hx fG;omega
 ·omega
theorem pD {w:World}{F:Nat->Prop}{c:Nat}{kb:List UInt8}{es:List fw}{hs:List Int}(hk:kb.length=16)(h:jG w F c kb es hs):Ret Tryz.prog 27 #[.pointer (some ⟨c,0,none⟩)] w fun r w'=>r=.int .i64 (es.length:Int)/\w=w':=by
 obtain⟨⟨l,hd,h1,h2,h3,h4,h5⟩,hm⟩:=h;refine c27 _ w _ ?_;have:=h2.len;rw[pC] at this;exact ae.ah h1 (x:=l) (by rw[Nat.zero_add];exact(qB hk l hd).1) ⟨by rw[show l.2.1=es.length by omega],rfl⟩
theorem DD {w:World}{F:Nat->Prop}{c:Nat}{kb:List UInt8}{es:List fw}{hs:List Int}(hk:kb.length=16)(h:jG w F c kb es hs)(hl:hs.length=es.length+1)(qO:es.length<=1000):Ret Tryz.prog 32 #[.pointer (some ⟨c,0,none⟩)] w fun r w'=>r=.int .u64 (hs.getD es.length 0)/\Fr none1 w w':=by
 obtain⟨⟨l,hd,h1,h2,h3,h4,h5⟩,hm⟩:=h;refine c32 _ w _ ?_;unfold C32;refine aD.of fun w1 _ f1=>?_;have wq:=h3.len;rw[List.length_map,Nat.mul_one] at wq;have aU:=bL h1;refine ae.ah (f1.af h1) (x:=hd) (by rw[Nat.zero_add];exact(qB hk l hd).2) (ae.ah (f1.af h1) (x:=hd) (by rw[Nat.zero_add];exact(qB hk l hd).2) ?_);rw[wI (x:=(hd.2.1:Int) - 1) (by omega) (by omega)];refine aF.ld (h3.af f1) (c:=.int .u64) (by omega) (by omega) (x:=hs.getD es.length 0) ?_ ⟨rfl,f1⟩;rw[show((hd.2.1:Int) - 1).toNat=es.length by omega,List.getElem?_map,List.getElem?_eq_getElem (by omega),List.getD_eq_getElem?_getD,List.getElem?_eq_getElem (by omega)];rfl
theorem PV {w:World}{F:Nat->Prop}{c:Nat}{kb:List UInt8}{es:List fw}{hs:List Int}(hk:kb.length=16)(h:jG w F c kb es hs)(n:Int):Ret Tryz.prog 31 #[.pointer (some ⟨c,0,none⟩),.int .i64 n] w fun r w'=>
  r=.tuple #[.int .u64 (if n<0\/(hs.length:Int)<=n then 0 else hs.getD n.toNat 0),.bool (!decide (n<0\/(hs.length:Int)<=n))]/\w=w':=by
 obtain⟨⟨l,hd,h1,h2,h3,h4,h5⟩,hm⟩:=h;refine c31 _ n w _ ?_;unfold C31;have wq:=h3.len;rw[List.length_map,Nat.mul_one] at wq;refine aa.dec (fun q=>?_) (fun q=>?_)
 ·rw[if_pos (.inl q),decide_eq_true (.inl q)];exact⟨rfl,rfl⟩
 refine ae.ah h1 (x:=hd) (by rw[Nat.zero_add];exact(qB hk l hd).2) (aa.dec (fun q2=>?_) (fun q2=>?_))
 ·have e:n<0\/(hs.length:Int)<=n:=.inr (by omega)
  rw[if_pos e,decide_eq_true e];exact⟨rfl,rfl⟩
 ·have e:¬ (n<0\/(hs.length:Int)<=n):=by omega
  rw[if_neg e,decide_eq_false e];refine ae.ah h1 (x:=hd) (by rw[Nat.zero_add];exact(qB hk l hd).2) (aF.ld h3 (c:=.int .u64) (by omega) (by omega) (x:=hs.getD n.toNat 0) ?_ ⟨rfl,rfl⟩);rw[List.getElem?_map,List.getElem?_eq_getElem (by omega),List.getD_eq_getElem?_getD,List.getElem?_eq_getElem (by omega)];rfl
theorem aaC {w:World}{F:Nat->Prop}{c:Nat}{kb:List UInt8}{es:List fw}{hs:List Int}(hk:kb.length=16)(h:jG w F c kb es hs)(hl:es.length<=1000):Ret Tryz.prog 200 #[.pointer (some ⟨c,0,none⟩)] w (DB w 110 9 (rv es)):=by
 obtain⟨⟨l,hd,h1,h2,h3,h4,h5⟩,hm⟩:=h;refine c200 _ w _ ?_;have:=h2.len;rw[pC] at this;refine ae.ah h1 (x:=l) (by rw[Nat.zero_add];exact(qB hk l hd).1) ?_;refine ab.of (vS h2.rd (vT es) (by omega)) ?_;rintro _ w1 ⟨u,rfl,hu,f,uf⟩;exact⟨u,rfl,u,rfl,hu,f,uf⟩
theorem Jc {w:World}{F:Nat->Prop}{c:Nat}{kb:List UInt8}{es:List fw}{hs:List Int}(hk:kb.length=16)(h:jG w F c kb es hs)(hl:es.length<=1000)(qO:hs.length<=1000):
  Ret Tryz.prog 69 #[.pointer (some ⟨c,0,none⟩)] w fun r w'=>∃ d,r=.pointer (some ⟨d,0,none⟩)/\jG w' (fun k=>w.heap.size<=k/\k<w'.heap.size) d kb es hs/\Fr none1 w w':=by
 obtain⟨⟨l,hd,h1,h2,h3,h4,h5⟩,hm⟩:=h;refine c69 _ w _ ?_;unfold C69;have e2:=h2.len;rw[pC] at e2;have e3:=h3.len;rw[List.length_map,Nat.mul_one] at e3;refine aD.of fun w1 _ f1=>aV.all ?_;have lr:=f1.af h1;refine av.all (PU hk lr (av.all (ae.ah lr (x:=l) (by rw[Nat.zero_add];exact(qB hk l hd).1) (av.all (ae.ah lr (x:=hd) (by rw[Nat.zero_add];exact(qB hk l hd).2) ?_)))));refine ab.of (vS (h2.af f1).rd (vT es) (by omega)) ?_;rintro _ w2 ⟨u,rfl,hu,f2,uf⟩;refine⟨u,rfl,ai.of f2 ?_⟩;refine ab.of (qz ((h3.af f1).af f2).rd (qA hs) (by omega)) ?_;rintro _ w3 ⟨v,rfl,hv,f3,vf⟩;refine⟨v,rfl,ai.of f3 ?_⟩;refine DC hk fun y hy=>ak.of fun g w4 hg hb f4 sC=>ai.of f4 ?_;have hb:w4.heap[g]? = some (.cells (Cs.vals nQ y++[Value.slice u.1 u.2.1 u.2.2,Value.slice v.1 v.2.1 v.2.2]).toArray 142 (0,0)):=hb;rw[hy] at hb;have s1:=f1.size;have s2:=f2.size;have s3:=f3.size;refine⟨g,rfl,⟨⟨u,v,hb,(hu.af f3).af f4,hv.af f4,fun k fG=>?_,fun k fG=>?_⟩,?_⟩,((f1.trans f2).trans f3).trans f4⟩
 ·have:=uf k fG;have:=aF.lt hu fG;omega
 ·have:=vf k fG;have:=aF.lt hv fG;omega
 ·omega
theorem Jd {kb:List UInt8}(hk:kb.length=16){h:Int}(h0:0<=h)(h1:h<18446744073709551616){x:fw}(hx:dH x.1){w:World}(ht:TabW w):
  Ret Tryz.prog 159 #[.agg (cV kb).toArray,.int .u64 h,.agg (jq x).toArray] w fun r w'=>r=.tuple #[.int .u64 (fX kb h x).1,.int .i64 (fX kb h x).2]/\Fr none1 w w':=by
 refine c159 (cV kb) h (lh x.1.e x.2) w _ ?_;unfold C159;refine ak.of fun g1 w1 dp au f1 kq=>ak.of fun g3 w3 qk aR f3 pj=>?_;refine aq.aE (cks:=nF) (x:=lh x.1.e x.2) aR ?_;have f13:=f1.trans f3;have hz:=hx.e;have kc:=tF x.1.t;refine ab.of (MN x.1.e x.2 (vr x.1.t) hz (bp x.1.t).1 (by omega) (bp x.1.t).2 w3 (fun _ wa fa=>Cc x.1.t hx.2.2.2.2 wa (ht.af (f13.trans fa)))) ?_;rintro _ w4 ⟨b,rfl,hb,f4,bf⟩;refine⟨(b,(gD x).2,()),rfl,?_⟩;have hb:cd w4 b (gD x).1:=hb;unfold fX;refine aa.ne (fun ay=>?_) (fun he=>?_)
 ·rw[if_pos ay];exact⟨rfl,f13.trans f4⟩
 rw[if_neg (fun t=>t he)];refine aD.of fun w5 _ f5=>aV.of (fun k=>k=g1) ⟨rfl,?_⟩;have f35:=f4.trans f5;refine eK.of (f35.af (f3.af au)) (by rw[kK,hk]) ?_;have lA:(gD x).1.length<=100000000:=by
  have oA:=zU x.1.e hz (bp x.1.t).1 (by omega) (bp x.1.t).2;have oA:(dw x.1).1.length<=_:=oA;unfold gD tK;split
  ·simp
  ·simp only[List.length_cons]
   have:(je x.1.e (bp x.1.t).1 (bp x.1.t).2).1.length<=_:=oA;omega
 refine ab.of (Nx h h0 h1 w5) ?_;rintro _ w6 ⟨u,rfl,hu,f6,uf⟩;refine⟨u,rfl,ai.of f6 ?_⟩;have s1:=f1.size;have s3:=f3.size;have s35:=f35.size;refine VZ hu ((hb.af f5).af f6) (by rw[qi];omega) fun v w7 hv f7 _=>ai.on f7 (fun k hk q=>by have:=uf k q;omega) ?_;refine ab.of (Hi hk hv.rd hv.cap (by rw[List.length_append,qi];omega)) ?_;rintro _ w8 ⟨rfl,f8⟩;have f57:Fr none1 w5 w7:=f6.comp f7 fun k hk q=>by have:=uf k q;omega
 exact⟨_,rfl,ai.of f8 ⟨rfl,((f13.trans f35).trans f57).trans f8⟩⟩
def C90  (w:World) (K:Value->World->Prop):Prop:=
 ab Tryz.prog 147 #[] w (.v (.one .ptr)) (fun(x1:Option Addr) w2=>ak (.map #[] 0) w2 (fun g3 w4=>ak (.cells #[.int .i64 0,.slice none 0 0,.pointer x1,.map (some g3)] 175) w4 (fun g5 w6=>K (.pointer (some (ad g5))) w6)))
def pl90:aB:=.auto
theorem c90  (w:World) (K:Value->World->Prop) (h:C90  w K):Ret Tryz.prog 90 #[] w K:=aC (by kernel_rfl) Tryz.func90 (p:=pl90) (Eq.mpr (by kernel_rfl) h)
def C83 (p0:Addr)(w:World)(K:Value->World->Prop):Prop:=
 aD w (fun w1=>aV (fun S2=>av S2 (p0.add 0) (ae (.int .i64) (p0.add 0) w1 (fun(x3:Int)=>av S2 (p0.add 1) (ae .aj (p0.add 1) w1 (fun(x4:an)=>av S2 (p0.add 2) (ae .ptr (p0.add 2) w1 (fun(x5:Option Addr)=>av S2 (p0.add 3) (ae .map (p0.add 3) w1 (fun(x6:Option Nat)=>ab Tryz.prog 140 #[.slice x4.1 x4.2.1 x4.2.2] w1 (.v (.one .aj)) (fun(x7:an) w8=>ai S2 w1 w8 (ab Tryz.prog 141 #[.pointer x5] w8 (.v (.one .ptr)) (fun(x9:Option Addr) aG=>ai S2 w8 aG (ab Tryz.prog 142 #[.map x6] aG (.v (.one .map)) (fun(aX:Option Nat) aL=>ai S2 aG aL (ak (.cells #[.int .i64 x3,.slice x7.1 x7.2.1 x7.2.2,.pointer x9,.map aX] 175) aL (fun g13 bo=>ai S2 aL bo (K (.pointer (some (ad g13))) bo))))))))))))))))))
def pl83:aB:=(.seq .auto (.seq (.held (.soft 0 (.soft 1 (.soft 2 (.soft 3 (.soft 4 (.soft 5 (.soft 6 (.soft 7 (.soft 9 (.soft 10 (.soft 11 (.soft 12 (.soft 14 (.soft 15 (.soft 16 (.soft 17 (.pick 8 (.pick 13 (.pick 18 (.soft 19 (.pick 20 (.soft 21 .done) .stop)) .stop) .stop) .stop)))))))))))))))))) .auto))
theorem c83 (p0:Addr)(w:World)(K:Value->World->Prop)(h:C83 p0 w K):Ret Tryz.prog 83 #[.pointer (some p0)] w K:=aC (by kernel_rfl) Tryz.func83 (p:=pl83) (Eq.mpr (by kernel_rfl) h)
def C235 (p0:Addr)(w:World)(K:Value->World->Prop):Prop:=
 ae .aj (p0.add 1) w (fun(x1:an)=>bC (an×an×Int×Unit) (fun _ s2 w3 HR=>aa (decide (s2.2.2.1<(x1.2.1:Int)))
 (bQ x1.1 x1.2.1 s2.2.2.1 3 (fun a5=>aq [.str,.int .i64,.raw] a5 w3 (fun(x6:ByteArray×Int×Value×Unit)=>ak (.cells #[.string (⟨#[]⟩:ByteArray),.int .i64 0,.nilIface] 262) w3 (fun g7 w8=>ar (ad g7) [.string x6.1,.int .i64 x6.2.1,x6.2.2.1] w8 (fun w9=>aD w9 (fun aG=>aV (fun A0=>av A0 ((ad g7).add 0) (ae .str ((ad g7).add 0) aG (fun(bx:ByteArray)=>av A0 ((ad g7).add 2) (ae .raw ((ad g7).add 2) aG (fun(bz:Value)=>av A0 ((ad g7).add 1) (ae (.int .i64) ((ad g7).add 1) aG (fun(bg:Int)=>av A0 (p0.add 2) (ae .ptr (p0.add 2) aG (fun(bn:Option Addr)=>ab Tryz.prog 233 #[.string bx,bz,.int .i64 bg,.pointer bn] aG (.aN [.one .aj,.one .aj,.one (.int .i64)]) (fun(aS:an×an×Int×Unit) cj=>ai A0 aG cj (aa (aS.2.2.1 != 0)
 (K (.tuple #[.slice none 0 0,.slice none 0 0,.int .i64 aS.2.2.1]) cj)
 (aA Tryz.prog (Builtin.append_ #[163,163] 163 #[.slice s2.1.1 s2.1.2.1 s2.1.2.2,.slice aS.1.1 aS.1.2.1 aS.1.2.2]) cj (.v (.one .aj)) (fun(bB:an) bu=>aA Tryz.prog (Builtin.append_ #[151,151] 151 #[.slice s2.2.1.1 s2.2.1.2.1 s2.2.1.2.2,.slice aS.2.1.1 aS.2.1.2.1 aS.2.1.2.2]) bu (.v (.one .aj)) (fun(cG:an) bw=>HR ((bB.1,bB.2.1,bB.2.2),(cG.1,cG.2.1,cG.2.2),IntKind.i64.wrap (s2.2.2.1+1),()) bw))))))))))))))))))))
 (K (.tuple #[.slice s2.1.1 s2.1.2.1 s2.1.2.2,.slice s2.2.1.1 s2.2.1.2.1 s2.2.1.2.2,.int .i64 0]) w3))
 ((none,0,0),(none,0,0),0,()) w)
def pl235:aB:=(.seq .auto (.seq .auto (.seq .auto (.seq (.seq .auto (.block (.loop [(5,.one .aj),(6,.one .aj),(17,.one (.int .i64))] (.seq .auto (.seq .auto (.seq (.block (.seq .auto (.seq (.held (.soft 0 (.soft 1 (.soft 2 (.soft 3 (.soft 4 (.soft 5 (.soft 6 (.soft 7 (.soft 8 (.soft 9 (.pick 10 (.soft 11 (.soft 12 (.soft 13 (.soft 14 (.soft 15 (.soft 16 (.soft 17 .done))))))) .stop)))))))))))) .auto))) .auto)))))) .auto))))
theorem c235 (p0:Addr)(w:World)(K:Value->World->Prop)(h:C235 p0 w K):Ret Tryz.prog 235 #[.pointer (some p0)] w K:=aC (by kernel_rfl) Tryz.func235 (p:=pl235) (Eq.mpr (by kernel_rfl) h)
def C261 (p0:Addr)(w:World)(K:Value->World->Prop):Prop:=
 ab Tryz.prog 235 #[.pointer (some p0)] w (.aN [.one .aj,.one .aj,.one (.int .i64)]) (fun(x1:an×an×Int×Unit) w2=>K (.slice x1.1.1 x1.1.2.1 x1.1.2.2) w2)
def pl261:aB:=.auto
theorem c261 (p0:Addr)(w:World)(K:Value->World->Prop)(h:C261 p0 w K):Ret Tryz.prog 261 #[.pointer (some p0)] w K:=aC (by kernel_rfl) Tryz.func261 (p:=pl261) (Eq.mpr (by kernel_rfl) h)
def C260 (p0:Addr)(p1:Int)(p2:ByteArray)(w:World)(K:Value->World->Prop):Prop:=
 ae .map (p0.add 3) w (fun(x1:Option Nat)=>aA Tryz.prog (Instr.lookup 173 (.map x1) (.agg #[.int .i64 p1,.string p2]) false) w (.v (.one (.int .i64))) (fun(x2:Int) w3=>K (.int .i64 x2) w3))
def pl260:aB:=.auto
theorem c260 (p0:Addr)(p1:Int)(p2:ByteArray)(w:World)(K:Value->World->Prop)(h:C260 p0 p1 p2 w K):Ret Tryz.prog 260 #[.pointer (some p0),.int .i64 p1,.string p2] w K:=aC (by kernel_rfl) Tryz.func260 (p:=pl260) (Eq.mpr (by kernel_rfl) h)
def C241 (p0:Addr)(p1:Int)(p2:ByteArray)(w:World)(K:Value->World->Prop):Prop:=
 ab Tryz.prog 260 #[.pointer (some p0),.int .i64 p1,.string p2] w (.v (.one (.int .i64))) (fun(x1:Int) w2=>ab Tryz.prog 261 #[.pointer (some p0)] w2 (.v (.one .aj)) (fun(x3:an) w4=>bC (Int×Int×Unit) (fun _ s5 w6 tt=>aa (decide (s5.2.1<(x3.2.1:Int)))
 (bQ x3.1 x3.2.1 s5.2.1 3 (fun a8=>aq [.int .i64,.str,.int .i64] a8 w6 (fun(x9:Int×ByteArray×Int×Unit)=>ak (.cells #[.int .i64 0,.string (⟨#[]⟩:ByteArray),.int .i64 0] 219) w6 (fun g10 aO=>ar (ad g10) [.int .i64 x9.1,.string x9.2.1,.int .i64 x9.2.2.1] aO (fun aL=>ae (.int .i64) ((ad g10).add 0) aL (fun(bz:Int)=>aa (bz==p1)
 (ae .str ((ad g10).add 1) aL (fun(bg:ByteArray)=>aa (bg.toList==p2.toList)
 (ae (.int .i64) ((ad g10).add 2) aL (fun(bn:Int)=>tt (IntKind.i64.wrap (s5.1+bn),IntKind.i64.wrap (s5.2.1+1),()) aL))
 (tt (s5.1,IntKind.i64.wrap (s5.2.1+1),()) aL)))
 (tt (s5.1,IntKind.i64.wrap (s5.2.1+1),()) aL)))))))
 (K (.int .i64 s5.1) w6))
 (IntKind.i64.wrap (0 - x1),0,()) w4))
def pl241:aB:=(.seq .auto (.seq .auto (.seq (.seq .auto (.block (.loop [(7,.one (.int .i64)),(18,.one (.int .i64))] .auto))) .auto)))
theorem c241 (p0:Addr)(p1:Int)(p2:ByteArray)(w:World)(K:Value->World->Prop)(h:C241 p0 p1 p2 w K):Ret Tryz.prog 241 #[.pointer (some p0),.int .i64 p1,.string p2] w K:=aC (by kernel_rfl) Tryz.func241 (p:=pl241) (Eq.mpr (by kernel_rfl) h)
def C195 (p0:Addr)(p1:bE)(w:World)(K:Value->World->Prop):Prop:=
 ak (.cells ((bT p1).toArray) 36) w (fun g1 w2=>ae .aj (p0.add 1) w2 (fun(x3:an)=>ab Tryz.prog 231 #[.slice x3.1 x3.2.1 x3.2.2,.func (.func 232) #[] #[.pointer (some (ad g1))]] w2 (.v (.one .bool)) (fun(x4:Bool) w5=>aa x4
 (K (.int .i64 4) w5)
 (ae .aj (p0.add 1) w5 (fun(x6:an)=>aa (decide ((x6.2.1:Int) >= 8))
 (K (.int .i64 5) w5)
 (aD w5 (fun w7=>aV (fun S8=>av S8 ((ad g1).add 1) (ae .str ((ad g1).add 1) w7 (fun(x9:ByteArray)=>av S8 ((ad g1).add 7) (ae .raw ((ad g1).add 7) w7 (fun(aQ:Value)=>av S8 (p0.add 0) (ae (.int .i64) (p0.add 0) w7 (fun(aX:Int)=>av S8 (p0.add 2) (ae .ptr (p0.add 2) w7 (fun(bx:Option Addr)=>ab Tryz.prog 233 #[.string x9,aQ,.int .i64 aX,.pointer bx] w7 (.aN [.one .aj,.one .aj,.one (.int .i64)]) (fun(bz:an×an×Int×Unit) bo=>aa (bz.2.2.1 != 0)
 (K (.int .i64 bz.2.2.1) bo)
 (aD bo (fun bM=>aV (fun uh=>av uh (p0.add 1) (ae .aj (p0.add 1) bM (fun(ba:an)=>av uh ((ad g1).add 1) (ae .str ((ad g1).add 1) bM (fun(bB:ByteArray)=>av uh (p0.add 0) (ae (.int .i64) (p0.add 0) bM (fun(br:Int)=>av uh ((ad g1).add 7) (ae .raw ((ad g1).add 7) bM (fun(cG:Value)=>jb cG (kO (ab Tryz.prog 140 #[.slice ba.1 ba.2.1 ba.2.2] bM (.v (.one .aj)) (fun(bY:an) bJ=>ai uh bM bJ (aA Tryz.prog (Instr.buildSlice 171 1 #[(0,.agg #[.string bB,.int .i64 br,cG])]) bJ (.v (.one .aj)) (fun(cv:an) cg=>ai uh bJ cg (aA Tryz.prog (Builtin.append_ #[171,171] 171 #[.slice bY.1 bY.2.1 bY.2.2,.slice cv.1 cv.2.1 cv.2.2]) cg (.v (.one .aj)) (fun(bD:an) cn=>az (p0.add 1) (.slice bD.1 bD.2.1 bD.2.2) cn (fun eN=>K (.int .i64 0) eN)))))))
 (aA Tryz.prog (Instr.buildSlice 171 1 #[(0,.agg #[.string bB,.int .i64 br,cG])]) bM (.v (.one .aj)) (fun(eR:an) eD=>ai uh bM eD (ab Tryz.prog 140 #[.slice ba.1 ba.2.1 ba.2.2] eD (.v (.one .aj)) (fun(eB:an) fo=>ai uh eD fo (aA Tryz.prog (Builtin.append_ #[171,171] 171 #[.slice eB.1 eB.2.1 eB.2.2,.slice eR.1 eR.2.1 eR.2.2]) fo (.v (.one .aj)) (fun(df:an) dE=>az (p0.add 1) (.slice df.1 df.2.1 df.2.2) dE (fun gJ=>K (.int .i64 0) gJ))))))))))))))))))))))))))))))))))))
def pl195:aB:=(.seq .auto (.seq .auto (.seq (.seq (.held (.soft 0 (.soft 1 (.soft 2 (.soft 3 (.soft 4 (.soft 5 (.soft 6 (.soft 7 (.soft 8 (.soft 9 (.soft 10 (.soft 11 (.last 12 (.soft 13 (.soft 14 (.soft 15 (.soft 16 (.soft 17 (.soft 18 (.soft 19 .done))))))))))))))))))))) .auto) (.seq (.held (.soft 0 (.soft 1 (.soft 2 (.soft 3 (.soft 4 (.soft 6 (.soft 7 (.soft 8 (.soft 9 (.soft 10 (.soft 11 (.soft 12 (.soft 13 (.soft 14 (.pick 5 (.pick 15 (.last 16 (.soft 17 (.soft 18 (.last 19 .done)))) .stop) (.pick 15 (.pick 5 (.last 16 (.soft 17 (.soft 18 (.last 19 .done)))) .stop) .stop))))))))))))))))) .auto))))
theorem c195 (p0:Addr)(p1:bE)(w:World)(K:Value->World->Prop)(h:C195 p0 p1 w K):Ret Tryz.prog 195 #[.pointer (some p0),.agg (bT p1).toArray] w K:=aC (by kernel_rfl) Tryz.func195 (p:=pl195) (Eq.mpr (by kernel_rfl) h)
def C232 (p0:ByteArray×Int×Value×Unit)(c0:Addr)(w:World)(K:Value->World->Prop):Prop:=
 ak (.cells #[.string p0.1,.int .i64 p0.2.1,p0.2.2.1] 262) w (fun g1 w2=>ae .str ((ad g1).add 0) w2 (fun(x3:ByteArray)=>ae .str (c0.add 1) w2 (fun(x4:ByteArray)=>K (.bool (x3.toList==x4.toList)) w2)))
def pl232:aB:=.auto
theorem c232 (p0:ByteArray×Int×Value×Unit)(c0:Addr)(w:World)(K:Value->World->Prop)(h:C232 p0 c0 w K):Ret Tryz.prog 232 #[.agg #[.string p0.1,.int .i64 p0.2.1,p0.2.2.1],.pointer (some c0)] w K:=aC (by kernel_rfl) Tryz.func232 (p:=pl232) (Eq.mpr (by kernel_rfl) h)
def C196 (p0:Addr)(p1:bE)(w:World)(K:Value->World->Prop):Prop:=
 ak (.cells ((bT p1).toArray) 36) w (fun g1 w2=>aD w2 (fun w3=>ae (.int .i64) ((ad g1).add 5) w3 (fun(x4:Int)=>ae (.int .i64) (p0.add 0) w3 (fun(x5:Int)=>aa (decide (x4 > x5))
 (K (.int .i64 7) w3)
 (aD w3 (fun w6=>ae .ptr (p0.add 2) w6 (fun(x7:Option Addr)=>ae .str ((ad g1).add 2) w6 (fun(x8:ByteArray)=>ae (.int .i64) ((ad g1).add 5) w6 (fun(x9:Int)=>ae (.int .i64) ((ad g1).add 6) w6 (fun(aQ:Int)=>ab Tryz.prog 234 #[.pointer x7,.string x8,.int .i64 x9,.int .i64 aQ] w6 (.v (.one (.int .i64))) (fun(aX:Int) aL=>aa (aX != 0)
 (K (.int .i64 aX) aL)
 (ab Tryz.prog 235 #[.pointer (some p0)] aL (.aN [.one .aj,.one .aj,.one (.int .i64)]) (fun(bz:an×an×Int×Unit) bo=>K (.int .i64 bz.2.2.1) bo)))))))))))))
def pl196:aB:=(.seq .auto (.seq (.seq .still .auto) (.seq (.seq (.tail 10) .auto) .auto)))
theorem c196 (p0:Addr)(p1:bE)(w:World)(K:Value->World->Prop)(h:C196 p0 p1 w K):Ret Tryz.prog 196 #[.pointer (some p0),.agg (bT p1).toArray] w K:=aC (by kernel_rfl) Tryz.func196 (p:=pl196) (Eq.mpr (by kernel_rfl) h)
def C197 (p0:Addr)(p1:bE)(p2:Int)(w:World)(K:Value->World->Prop):Prop:=
 ak (.cells ((bT p1).toArray) 36) w (fun g1 w2=>ae .aj (p0.add 1) w2 (fun(x3:an)=>ab Tryz.prog 236 #[.slice x3.1 x3.2.1 x3.2.2,.func (.func 237) #[] #[.pointer (some (ad g1))]] w2 (.v (.one (.int .i64))) (fun(x4:Int) w5=>aa (decide (x4<0))
 (K (.int .i64 3) w5)
 (ae .aj (p0.add 1) w5 (fun(x6:an)=>bQ x6.1 x6.2.1 x4 3 (fun a7=>aq [.str,.int .i64,.raw] a7 w5 (fun(x8:ByteArray×Int×Value×Unit)=>ak (.cells #[.string (⟨#[]⟩:ByteArray),.int .i64 0,.nilIface] 262) w5 (fun g9 aG=>ar (ad g9) [.string x8.1,.int .i64 x8.2.1,x8.2.2.1] aG (fun aO=>aD aO (fun aL=>aV (fun eW=>av eW ((ad g9).add 0) (ae .str ((ad g9).add 0) aL (fun(bg:ByteArray)=>av eW ((ad g9).add 2) (ae .raw ((ad g9).add 2) aL (fun(bn:Value)=>av eW ((ad g9).add 1) (ae (.int .i64) ((ad g9).add 1) aL (fun(aS:Int)=>av eW (p0.add 2) (ae .ptr (p0.add 2) aL (fun(ba:Option Addr)=>ab Tryz.prog 233 #[.string bg,bn,.int .i64 aS,.pointer ba] aL (.aN [.one .aj,.one .aj,.one (.int .i64)]) (fun(bB:an×an×Int×Unit) bu=>ai eW aL bu (ab Tryz.prog 238 #[.slice bB.2.1.1 bB.2.1.2.1 bB.2.1.2.2,.func (.func 239) #[] #[.pointer (some (ad g1))]] bu (.v (.one (.int .i64))) (fun(cG:Int) bw=>aa (decide (cG<0))
 (K (.int .i64 3) bw)
 (aD bw (fun bJ=>bQ bB.2.1.1 bB.2.1.2.1 cG 5 (fun a23=>ae (.int .i64) (a23.add 3) bJ (fun(cm:Int)=>ae (.int .i64) (p0.add 0) bJ (fun(bD:Int)=>aa (decide (cm > bD))
 (K (.int .i64 7) bJ)
 (bQ bB.2.1.1 bB.2.1.2.1 cG 5 (fun Hl=>ae (.int .i64) (Hl.add 4) bJ (fun(cA:Int)=>aa (cA != p2)
 (K (.int .i64 8) bJ)
 (aD bJ (fun bV=>ae .ptr (p0.add 2) bV (fun(cB:Option Addr)=>ae .str ((ad g1).add 1) bV (fun(eB:ByteArray)=>ae .str ((ad g1).add 3) bV (fun(bZ:ByteArray)=>ae (.int .i64) ((ad g1).add 6) bV (fun(df:Int)=>ae (.int .i64) (p0.add 0) bV (fun(dA:Int)=>ab Tryz.prog 240 #[.pointer cB,.string eB,.string bZ,.int .i64 df,.int .i64 dA] bV (.v (.one (.int .i64))) (fun(dh:Int) dL=>aa (dh != 0)
 (K (.int .i64 dh) dL)
 (aD dL (fun dd=>aV (fun A1=>av A1 ((ad g9).add 0) (ae .str ((ad g9).add 0) dd (fun(dF:ByteArray)=>av A1 ((ad g9).add 2) (ae .raw ((ad g9).add 2) dd (fun(fk:Value)=>av A1 ((ad g9).add 1) (ae (.int .i64) ((ad g9).add 1) dd (fun(iK:Int)=>av A1 (p0.add 2) (ae .ptr (p0.add 2) dd (fun(eM:Option Addr)=>ab Tryz.prog 233 #[.string dF,fk,.int .i64 iK,.pointer eM] dd (.aN [.one .aj,.one .aj,.one (.int .i64)]) (fun(iA:an×an×Int×Unit) jQ=>ai A1 dd jQ (K (.int .i64 iA.2.2.1) jQ)))))))))))))))))))))))))))))))))))))))))))))))))))
def pl197:aB:=(.seq .auto (.seq .auto (.seq .auto (.seq .auto (.seq (.held (.soft 0 (.soft 1 (.soft 2 (.soft 3 (.soft 4 (.soft 5 (.soft 6 (.soft 7 (.soft 8 (.soft 9 (.pick 10 (.soft 11 (.soft 12 (.soft 13 (.soft 14 (.soft 15 (.soft 16 (.soft 17 .done))))))) .stop)))))))))))) (.seq .auto (.seq (.block (.seq .auto (.cond .auto (.seq .still .auto)))) (.seq (.seq (.tail 14) .auto) (.seq (.held (.soft 0 (.soft 1 (.soft 2 (.soft 3 (.soft 4 (.soft 5 (.soft 6 (.soft 7 (.soft 8 (.soft 9 (.pick 10 (.soft 11 (.soft 12 (.soft 13 (.soft 14 (.soft 15 (.soft 16 (.soft 17 .done))))))) .stop)))))))))))) .auto)))))))))
theorem c197 (p0:Addr)(p1:bE)(p2:Int)(w:World)(K:Value->World->Prop)(h:C197 p0 p1 p2 w K):Ret Tryz.prog 197 #[.pointer (some p0),.agg (bT p1).toArray,.int .i64 p2] w K:=aC (by kernel_rfl) Tryz.func197 (p:=pl197) (Eq.mpr (by kernel_rfl) h)
def C237 (p0:ByteArray×Int×Value×Unit)(c0:Addr)(w:World)(K:Value->World->Prop):Prop:=
 ak (.cells #[.string p0.1,.int .i64 p0.2.1,p0.2.2.1] 262) w (fun g1 w2=>ae .str ((ad g1).add 0) w2 (fun(x3:ByteArray)=>ae .str (c0.add 1) w2 (fun(x4:ByteArray)=>K (.bool (x3.toList==x4.toList)) w2)))
def pl237:aB:=.auto
theorem c237 (p0:ByteArray×Int×Value×Unit)(c0:Addr)(w:World)(K:Value->World->Prop)(h:C237 p0 c0 w K):Ret Tryz.prog 237 #[.agg #[.string p0.1,.int .i64 p0.2.1,p0.2.2.1],.pointer (some c0)] w K:=aC (by kernel_rfl) Tryz.func237 (p:=pl237) (Eq.mpr (by kernel_rfl) h)
def C239 (p0:oa)(c0:Addr)(w:World)(K:Value->World->Prop):Prop:=
 ak (.cells ((nf p0).toArray) 154) w (fun g1 w2=>ae .bool ((ad g1).add 0) w2 (fun(x3:Bool)=>aa x3
 (ae .str ((ad g1).add 2) w2 (fun(x4:ByteArray)=>ae .str (c0.add 3) w2 (fun(x5:ByteArray)=>K (.bool (x4.toList==x5.toList)) w2)))
 (K (.bool false) w2)))
def pl239:aB:=.auto
theorem c239 (p0:oa)(c0:Addr)(w:World)(K:Value->World->Prop)(h:C239 p0 c0 w K):Ret Tryz.prog 239 #[.agg (nf p0).toArray,.pointer (some c0)] w K:=aC (by kernel_rfl) Tryz.func239 (p:=pl239) (Eq.mpr (by kernel_rfl) h)
def C198 (p0:Addr)(p1:bE)(w:World)(K:Value->World->Prop):Prop:=
 ak (.cells ((bT p1).toArray) 36) w (fun g1 w2=>ae (.int .i64) ((ad g1).add 5) w2 (fun(x3:Int)=>ae .str ((ad g1).add 4) w2 (fun(x4:ByteArray)=>ab Tryz.prog 241 #[.pointer (some p0),.int .i64 x3,.string x4] w2 (.v (.one (.int .i64))) (fun(x5:Int) w6=>aD w6 (fun w7=>ae (.int .i64) ((ad g1).add 5) w7 (fun(x8:Int)=>ae (.int .i64) (p0.add 0) w7 (fun(x9:Int)=>aa (decide (x8 > x9))
 (K (.int .i64 7) w7)
 (aa (x5==0)
 (K (.int .i64 3) w7)
 (ae (.int .i64) ((ad g1).add 6) w7 (fun(aQ:Int)=>aa (x5 != aQ)
 (K (.int .i64 1) w7)
 (aD w7 (fun aO=>aV (fun nR=>av nR (p0.add 3) (ae .map (p0.add 3) aO (fun(bz:Option Nat)=>av nR ((ad g1).add 5) (ae (.int .i64) ((ad g1).add 5) aO (fun(bg:Int)=>av nR ((ad g1).add 4) (ae .str ((ad g1).add 4) aO (fun(bn:ByteArray)=>kO (aA Tryz.prog (Instr.lookup 173 (.map bz) (.agg #[.int .i64 bg,.string bn]) false) aO (.v (.one (.int .i64))) (fun(aS:Int) cj=>ai nR aO cj (aA Tryz.prog (Instr.mapEntry 173 (.map bz) (.agg #[.int .i64 bg,.string bn])) cj (.aN [.one (.int .i64),.one (.int .i64)]) (fun(bB:Int×Int×Unit) bu=>js Tryz.prog (Instr.entryStore 173 (.map bz) (.int .i64 bB.2.1) (.int .i64 (IntKind.i64.wrap (aS+x5)))) bu (fun bh=>K (.int .i64 0) bh)))))
 (aA Tryz.prog (Instr.mapEntry 173 (.map bz) (.agg #[.int .i64 bg,.string bn])) aO (.aN [.one (.int .i64),.one (.int .i64)]) (fun(bY:Int×Int×Unit) bJ=>ai nR aO bJ (aA Tryz.prog (Instr.lookup 173 (.map bz) (.agg #[.int .i64 bg,.string bn]) false) bJ (.v (.one (.int .i64))) (fun(cv:Int) cg=>js Tryz.prog (Instr.entryStore 173 (.map bz) (.int .i64 bY.2.1) (.int .i64 (IntKind.i64.wrap (cv+x5)))) cg (fun di=>K (.int .i64 0) di))))))))))))))))))))))))
def pl198:aB:=(.seq .auto (.seq .auto (.seq (.block (.seq .still .auto)) (.seq (.held (.soft 0 (.soft 1 (.soft 2 (.soft 3 (.soft 4 (.soft 5 (.soft 6 (.soft 7 (.soft 8 (.soft 10 (.pick 9 (.soft 11 (.last 12 (.soft 13 (.last 14 .done)))) (.pick 12 (.soft 13 (.last 9 (.soft 11 (.last 14 .done)))) .stop))))))))))))) .auto))))
theorem c198 (p0:Addr)(p1:bE)(w:World)(K:Value->World->Prop)(h:C198 p0 p1 w K):Ret Tryz.prog 198 #[.pointer (some p0),.agg (bT p1).toArray] w K:=aC (by kernel_rfl) Tryz.func198 (p:=pl198) (Eq.mpr (by kernel_rfl) h)
def C152 (p0:Addr)(p1:bE)(p2:Int)(w:World)(K:Value->World->Prop):Prop:=
 ak (.cells ((bT p1).toArray) 36) w (fun g1 w2=>cy (Bool×Unit) (fun J3=>aa (p2 != 0)
 (J3 ((p2 != 1),()) w2)
 (J3 (false,()) w2))
 (fun _ s4 w5=>aa s4.1
 (K (.int .i64 1) w5)
 (aq dK (ad g1) w5 (fun(x6:bE)=>ab Tryz.prog 70 #[.agg (bT x6).toArray] w5 (.v (.one (.int .i64))) (fun(x7:Int) w8=>aa (x7 != 0)
 (K (.int .i64 x7) w8)
 (ae (.int .i64) ((ad g1).add 0) w8 (fun(x9:Int)=>aa (x9==2)
 (aq dK (ad g1) w8 (fun(aQ:bE)=>ab Tryz.prog 195 #[.pointer (some p0),.agg (bT aQ).toArray] w8 (.v (.one (.int .i64))) (fun(aX:Int) aL=>K (.int .i64 aX) aL)))
 (aa (x9==3)
 (aq dK (ad g1) w8 (fun(bz:bE)=>ab Tryz.prog 196 #[.pointer (some p0),.agg (bT bz).toArray] w8 (.v (.one (.int .i64))) (fun(bg:Int) bM=>K (.int .i64 bg) bM)))
 (aa (x9==4)
 (aq dK (ad g1) w8 (fun(aS:bE)=>ab Tryz.prog 197 #[.pointer (some p0),.agg (bT aS).toArray,.int .i64 p2] w8 (.v (.one (.int .i64))) (fun(ba:Int) bt=>K (.int .i64 ba) bt)))
 (aa (x9==6)
 (aq dK (ad g1) w8 (fun(br:bE)=>ab Tryz.prog 198 #[.pointer (some p0),.agg (bT br).toArray] w8 (.v (.one (.int .i64))) (fun(cG:Int) bw=>K (.int .i64 cG) bw)))
 (aa (x9==5)
 (aD w8 (fun bJ=>ae (.int .i64) ((ad g1).add 5) bJ (fun(cv:Int)=>ae (.int .i64) (p0.add 0) bJ (fun(cm:Int)=>aa (decide (cv<=cm))
 (K (.int .i64 7) bJ)
 (ae (.int .i64) ((ad g1).add 5) bJ (fun(bD:Int)=>az (p0.add 0) (.int .i64 bD) bJ (fun cn=>K (.int .i64 0) cn)))))))
 (K (.int .i64 0) w8))))))))))))
def pl152:aB:=(.seq .auto (.seq (.join [(13,.one .bool)] .auto .auto) (.seq .auto (.seq (.seq .auto (.block (.seq .auto (.cond .auto (.seq .auto (.cond .auto (.seq .auto (.cond .auto (.seq .auto (.cond .auto (.seq .auto (.cond (.seq (.seq .still .auto) .auto) .auto)))))))))))) .auto))))
theorem c152 (p0:Addr)(p1:bE)(p2:Int)(w:World)(K:Value->World->Prop)(h:C152 p0 p1 p2 w K):Ret Tryz.prog 152 #[.pointer (some p0),.agg (bT p1).toArray,.int .i64 p2] w K:=aC (by kernel_rfl) Tryz.func152 (p:=pl152) (Eq.mpr (by kernel_rfl) h)
def C98 (p0:Addr)(p1:bE)(p2:Int)(w:World)(K:Value->World->Prop):Prop:=
 ak (.cells ((bT p1).toArray) 36) w (fun g1 w2=>aD w2 (fun w3=>aV (fun S4=>av S4 (ad g1) (aq dK (ad g1) w3 (fun(x5:bE)=>ab Tryz.prog 83 #[.pointer (some p0)] w3 (.v (.one .ptr)) (fun(x6:Option Addr) w7=>ai S4 w3 w7 (ab Tryz.prog 152 #[.pointer x6,.agg (bT x5).toArray,.int .i64 p2] w7 (.v (.one (.int .i64))) (fun(x8:Int) w9=>ai S4 w7 w9 (K (.int .i64 x8) w9)))))))))
def pl98:aB:=(.seq .auto (.seq (.held (.soft 0 (.soft 2 (.soft 3 (.pick 1 (.pick 4 (.soft 5 .done) .stop) .stop))))) .auto))
theorem c98 (p0:Addr)(p1:bE)(p2:Int)(w:World)(K:Value->World->Prop)(h:C98 p0 p1 p2 w K):Ret Tryz.prog 98 #[.pointer (some p0),.agg (bT p1).toArray,.int .i64 p2] w K:=aC (by kernel_rfl) Tryz.func98 (p:=pl98) (Eq.mpr (by kernel_rfl) h)
def C190 (p0:Addr)(p1:bE)(p2:Int)(w:World)(K:Value->World->Prop):Prop:=
 ak (.cells ((bT p1).toArray) 36) w (fun g1 w2=>ab Tryz.prog 83 #[.pointer (some p0)] w2 (.v (.one .ptr)) (fun(x3:Option Addr) w4=>aq dK (ad g1) w4 (fun(x5:bE)=>ab Tryz.prog 152 #[.pointer x3,.agg (bT x5).toArray,.int .i64 p2] w4 (.v (.one (.int .i64))) (fun(x6:Int) w7=>aa (x6==0)
 (jI x3 (fun a8=>aq R4 a8 w7 (fun(x9:KL)=>ar p0 (R5 x9) w7 (fun aG=>K (.int .i64 x6) aG))))
 (K (.int .i64 x6) w7)))))
def pl190:aB:=.auto
theorem c190 (p0:Addr)(p1:bE)(p2:Int)(w:World)(K:Value->World->Prop)(h:C190 p0 p1 p2 w K):Ret Tryz.prog 190 #[.pointer (some p0),.agg (bT p1).toArray,.int .i64 p2] w K:=aC (by kernel_rfl) Tryz.func190 (p:=pl190) (Eq.mpr (by kernel_rfl) h)
def C231 (p0:Option Addr)(aJ aP:Nat)(p1:Value)(w:World)(K:Value->World->Prop):Prop:=
 ab Tryz.prog 236 #[.slice p0 aJ aP,p1] w (.v (.one (.int .i64))) (fun(x1:Int) w2=>K (.bool (decide (x1 >= 0))) w2)
def pl231:aB:=.auto
theorem c231 (p0:Option Addr)(aJ aP:Nat)(p1:Value)(w:World)(K:Value->World->Prop)(h:C231 p0 aJ aP p1 w K):Ret Tryz.prog 231 #[.slice p0 aJ aP,p1] w K:=aC (by kernel_rfl) Tryz.func231 (p:=pl231) (Eq.mpr (by kernel_rfl) h)
def C236 (p0:Option Addr)(aJ aP:Nat)(p1:Value)(w:World)(K:Value->World->Prop):Prop:=
 bC (Int×Unit) (fun _ s1 w2 gO=>aa (decide (s1.1<(aJ:Int)))
 (bQ p0 aJ s1.1 3 (fun a4=>aq [.str,.int .i64,.raw] a4 w2 (fun(x5:ByteArray×Int×Value×Unit)=>kQ Tryz.prog p1 [.agg #[.string x5.1,.int .i64 x5.2.1,x5.2.2.1]] (.v (.one .bool)) w2 (fun(x6:Bool) w7=>aa x6
 (K (.int .i64 s1.1) w7)
 (gO (IntKind.i64.wrap (s1.1+1),()) w7)))))
 (K (.int .i64 (-1)) w2))
 (0,()) w
def pl236:aB:=(.seq .auto (.seq (.seq .auto (.block (.loop [(8,.one (.int .i64))] .auto))) .auto))
theorem c236 (p0:Option Addr)(aJ aP:Nat)(p1:Value)(w:World)(K:Value->World->Prop)(h:C236 p0 aJ aP p1 w K):Ret Tryz.prog 236 #[.slice p0 aJ aP,p1] w K:=aC (by kernel_rfl) Tryz.func236 (p:=pl236) (Eq.mpr (by kernel_rfl) h)
def C238 (p0:Option Addr)(aJ aP:Nat)(p1:Value)(w:World)(K:Value->World->Prop):Prop:=
 bC (Int×Unit) (fun _ s1 w2 gO=>aa (decide (s1.1<(aJ:Int)))
 (bQ p0 aJ s1.1 5 (fun a4=>aq wL a4 w2 (fun(x5:oa)=>kQ Tryz.prog p1 [.agg (nf x5).toArray] (.v (.one .bool)) w2 (fun(x6:Bool) w7=>aa x6
 (K (.int .i64 s1.1) w7)
 (gO (IntKind.i64.wrap (s1.1+1),()) w7)))))
 (K (.int .i64 (-1)) w2))
 (0,()) w
def pl238:aB:=(.seq .auto (.seq (.seq .auto (.block (.loop [(8,.one (.int .i64))] .auto))) .auto))
theorem c238 (p0:Option Addr)(aJ aP:Nat)(p1:Value)(w:World)(K:Value->World->Prop)(h:C238 p0 aJ aP p1 w K):Ret Tryz.prog 238 #[.slice p0 aJ aP,p1] w K:=aC (by kernel_rfl) Tryz.func238 (p:=pl238) (Eq.mpr (by kernel_rfl) h)
abbrev DE:List Ck:=[.str,.int .i64,.raw]
abbrev A2 (d:ke):Cs DE:=(str d.1,d.2.1,d.2.2.v,())
def mV (d:ke):List Value:=[.string (str d.1),.int .i64 d.2.1,d.2.2.v]
def ry (l:List ke):List Value:=(l.map mV).flatten
theorem DF (l:List ke):∀ x∈l.map mV,x.length=3:=by intro x hx;obtain⟨y,_,rfl⟩:=List.mem_map.1 hx;rfl
theorem A3 (l:List ke):(ry l).length=l.length * 3:=by unfold ry;rw[x0 (DF l),List.length_map]
theorem aaD (l:List ke)(x:ke):ry (l++[x])=ry l++mV x:=by unfold ry;simp
theorem PW (x:ke):∀ v∈mV x,bK v=true:=by intro v hv;simp[mV] at hv;rcases hv with rfl | rfl | rfl<;>first | rfl | exact Tm.bW _
theorem Je (l:List ke):∀ v∈ry l,bK v=true:=by intro v hv;unfold ry at hv;obtain⟨x,hx,hv⟩:=List.mem_flatten.1 hv;obtain⟨y,_,rfl⟩:=List.mem_map.1 hx;exact PW y v hv
def DG (k:Int×List UInt8):List Pv:=[.i k.1,.s k.2]
theorem Jf:ua Tryz.prog 266 DG where
 ty a:=by
  have hf:∃ fs,Tryz.prog.underlying 266=some (.struct fs)/\Tryz.prog.fieldsOf 266=fs:=by
   unfold Program.fieldsOf;rw[Tryz.underlying266];exact⟨_,rfl,rfl⟩
  refine⟨by obtain⟨fs,h1,h2⟩:=hf;rw[h1,h2],by kernel_rfl,by kernel_rfl,?_⟩;unfold Program.fieldsOf;rw[Tryz.underlying266];exact⟨by decide,rfl,Tryz.underlying3,by decide,rfl,Tryz.underlying9,trivial⟩
 inj a b h:=by
  injection h with h1 h2;injection h2 with h2 _;injection h1 with h1;injection h2 with h2
  exact Prod.ext h1 h2
structure qC (w:World)(F:Nat->Prop)(g:Nat)(l:cH)(dl:Sl)(b p:Nat)(G:Nat->Prop):Prop where
 aE:w.heap[g]? = some (.cells #[.int .i64 l.day,.slice dl.1 dl.2.1 dl.2.2,.pointer (some ⟨b,0,none⟩),.map (some p)] 175 (0,0))
 cP:aF w 262 3 dl (ry l.cP)
 wr:ir w G b l.w
 gj:gm DG sL w p l.gj
 nS:∀ k,aw dl k->F k/\k≠g/\k≠p/\¬ G k
 gf:∀ k,G k->F k/\k≠g/\k≠p
 pf:F p/\p≠g
 mem:F g
def et (w:World)(F:Nat->Prop)(g:Nat)(l:cH):Prop:=∃ dl b p G,qC w F g l dl b p G
theorem qC.ag {w w':World}{F T:Nat->Prop}{g:Nat}{l:cH}{dl:Sl}{b p:Nat}{G:Nat->Prop}(h:qC w F g l dl b p G)(f:Fr T w w')(hT:∀ k,F k->¬ T k):qC w' F g l dl b p G:=
 ⟨f.ag h.aE (hT g h.mem),h.cP.ag f fun k hk=>hT k (h.nS k hk).1,h.wr.ag f fun k hk=>hT k (h.gf k hk).1,h.gj.ag f (hT p h.pf.1),h.nS,h.gf,h.pf,h.mem⟩
theorem qC.af {w w':World}{F:Nat->Prop}{g:Nat}{l:cH}{dl:Sl}{b p:Nat}{G:Nat->Prop}(h:qC w F g l dl b p G)(f:Fr none1 w w'):qC w' F g l dl b p G:=h.ag f fun _ _ t=>t
theorem et.ag {w w':World}{F T:Nat->Prop}{g:Nat}{l:cH}(h:et w F g l)(f:Fr T w w')(hT:∀ k,F k->¬ T k):et w' F g l:=by
 obtain⟨dl,b,p,G,h⟩:=h;exact⟨dl,b,p,G,h.ag f hT⟩
theorem et.af {w w':World}{F:Nat->Prop}{g:Nat}{l:cH}(h:et w F g l)(f:Fr none1 w w'):et w' F g l:=h.ag f fun _ _ t=>t
theorem et.mono {w:World}{F F':Nat->Prop}{g:Nat}{l:cH}(h:et w F g l)(hF:∀ k,F k->F' k):et w F' g l:=by
 obtain⟨dl,b,p,G,h⟩:=h;exact⟨dl,b,p,G,h.aE,h.cP,h.wr,h.gj,fun k hk=>⟨hF k (h.nS k hk).1,(h.nS k hk).2⟩,fun k hk=>⟨hF k (h.gf k hk).1,(h.gf k hk).2⟩,⟨hF p h.pf.1,h.pf.2⟩,hF g h.mem⟩
theorem et.mem {w:World}{F:Nat->Prop}{g:Nat}{l:cH}(h:et w F g l):F g:=by
 obtain⟨dl,b,p,G,h⟩:=h;exact qC.mem h
def cE (w w':World):Nat->Prop:=fun k=>w.heap.size<=k/\k<w'.heap.size
theorem aaE (w:World):Ret Tryz.prog 90 #[] w fun r w'=>∃ g,r=.pointer (some ⟨g,0,none⟩)/\et w' (cE w w') g xz/\Fr none1 w w':=by
 refine c90 w _ ?_;unfold C90;refine ab.of (ZP w) ?_;rintro _ w1 ⟨b,rfl,hw,f1⟩;refine⟨some ⟨b,0,none⟩,rfl,ak.of fun p w2 hp aI f2 gw=>ak.of fun g w3 hg aR f3 pj=>?_⟩;have s1:=f1.size;refine⟨g,rfl,⟨(none,0,0),b,p,_,aR,I7 _ _ _,hw.af (f2.trans f3),(gm.new aI).af f3,fun k t=>(kz k t).elim,fun k hk=>?_,?_,?_⟩,(f1.trans f2).trans f3⟩
 ·exact⟨⟨hk.1,by omega⟩,by omega,by omega⟩
 ·exact⟨⟨by omega,by omega⟩,by omega⟩
 ·exact⟨by omega,by omega⟩
theorem DH {w:World}{F:Nat->Prop}{g:Nat}{l:cH}(h:et w F g l)(hl:l.cP.length<=100):Ret Tryz.prog 83 #[.pointer (some ⟨g,0,none⟩)] w fun r w'=>∃ c,r=.pointer (some ⟨c,0,none⟩)/\et w' (cE w w') c l/\Fr none1 w w':=by
 obtain⟨dl,b,p,G,h⟩:=h;refine c83 _ w _ ?_;unfold C83;refine aD.of fun w1 _ f1=>aV.all ?_;have h1:=h.af f1;refine av.all (ae.ah h1.aE (x:=l.day) rfl (av.all (ae.ah h1.aE (x:=dl) rfl (av.all (ae.ah h1.aE (x:=some ⟨b,0,none⟩) rfl (av.all (ae.ah h1.aE (x:=some p) rfl ?_)))))));have ot:=h1.cP.len;rw[A3] at ot;refine ab.of (I9 h1.cP.rd (Je _) (by omega)) ?_;rintro _ w2 ⟨u,rfl,hu,f2,uf⟩;refine⟨u,rfl,ai.of f2 ?_⟩;have h2:=h1.af f2;refine ab.of (ZR h2.wr) ?_;rintro _ w3 ⟨c,rfl,hc,f3⟩;refine⟨some ⟨c,0,none⟩,rfl,ai.of f3 ?_⟩;have h3:=h2.af f3;obtain⟨es,cl,hb,he⟩:=h3.gj;have mc:Ret Tryz.prog 142 #[.map (some p)] w3 fun r w'=>r=.map (some w3.heap.size)/\w'=w3.alloc (.map es cl):=Calls.mono (Tryz.SK p es cl w3 hb) fun e w' ⟨a,b⟩=>⟨_,a,rfl,b⟩;refine ab.of mc ?_;clear mc;rintro _ w4 ⟨rfl,rfl⟩;have f4:Fr none1 w3 (w3.alloc (.map es cl)):=mu w3 _;have n4:=IA w3 (.map es cl);have s4:=IB w3 (.map es cl);generalize w3.alloc (.map es cl)=w4 at *;refine⟨some w3.heap.size,rfl,ai.of f4 (ak.of fun q w5 hq cY f5 Ad=>ai.of f5 ?_)⟩;have s1:=f1.size;have s2:=f2.size;have s3:=f3.size;refine⟨q,rfl,⟨u,c,w3.heap.size,_,cY,((hu.af f3).af f4).af f5,hc.af (f4.trans f5),⟨es,cl,f5.af n4,he⟩,fun k hk=>?_,fun k hk=>?_,?_,?_⟩,(((f1.trans f2).trans f3).trans f4).trans f5⟩
 ·have:=uf k hk
  have:=aF.lt hu hk;exact⟨⟨by omega,by omega⟩,by omega,by omega,fun t=>by have:=t.1;omega⟩
 ·exact⟨⟨by have:=hk.1;omega,by have:=hk.2;omega⟩,by have:=hk.2;omega,by have:=hk.2;omega⟩
 ·exact⟨⟨by omega,by omega⟩,by omega⟩
 ·exact⟨by omega,by omega⟩
theorem PX {w:World}{F:Nat->Prop}{g:Nat}{l:cH}(h:et w F g l)(hF:∀ k,F k->k<w.heap.size)(hl:l.cP.length<=100)(hn:∀ d∈l.cP,aK d.2.2<=1000000):
  Ret Tryz.prog 235 #[.pointer (some ⟨g,0,none⟩)] w fun r w'=>∃ fl wl:Sl,r=.tuple #[.slice fl.1 fl.2.1 fl.2.2,.slice wl.1 wl.2.1 wl.2.2,.int .i64 l.all.2] /\
   aF w' 219 3 fl (lL l.all.1.1)/\aF w' 154 5 wl (j0 l.all.1.2)/\Fr none1 w w':=by
 obtain⟨dl,b,p,G,h⟩:=h;refine c235 _ w _ ?_;unfold C235;refine ae.ah h.aE (x:=dl) rfl ?_;have ot:=h.cP.len;rw[A3] at ot;have ot:dl.2.1=l.cP.length:=by omega
 refine bC.of (fun s w'=>∃ (i:Nat) (x:iP),s.2.2.1=i/\i<=l.cP.length/\ow l.w l.cP ([],[])=ow l.w (l.cP.drop i) x/\x.1.length<=60 * i/\x.2.length<=60 * i/\aF w' 219 3 s.1 (lL x.1)/\aF w' 154 5 s.2.1 (j0 x.2)/\Fr none1 w w' /\
   (∀ k,aw s.1 k->w.heap.size<=k)/\(∀ k,aw s.2.1 k->w.heap.size<=k/\¬ aw s.1 k)) (fun s _=>(dl.2.1 - s.2.2.1).toNat)
  ⟨0,([],[]),rfl,Nat.zero_le _,rfl,by simp,by simp,.inl ⟨rfl,rfl⟩,.inl ⟨rfl,rfl⟩,Fr.refl _ _,fun k t=>(kz k t).elim,fun k t=>(kz k t).elim⟩ ?_
 rintro _ ⟨fl,wl,i',_⟩ w1 ⟨i,x,hi,jf,hx,l1,l2,jP,nO,f1,oH,lu⟩;dsimp only at hi jP nO oH lu ⊢;subst hi;refine aa.dec (fun aU=>?_) (fun eu=>?_)
 rotate_left
 ·have:i=l.cP.length:=by omega
  subst this;rw[List.drop_length] at hx;have e:l.all=(x,0):=hx;rw[e];exact⟨fl,wl,rfl,jP,nO,f1⟩
 have fI:i<l.cP.length:=by omega
 obtain⟨d,hd⟩:∃ d,l.cP[i]? = some d:=⟨_,List.getElem?_eq_getElem fI⟩;have xT:=List.mem_of_getElem? hd;have A4:l.cP.drop i=d::l.cP.drop (i+1):=by
  obtain⟨h1,h2⟩:=List.getElem?_eq_some_iff.1 hd;rw[List.drop_eq_getElem_cons h1,h2]
 rw[A4,ow] at hx;have h1:=h.af f1;refine ya (cks:=DE) (x:=A2 d) h1.cP.rd (by decide) (DF _) (by rw[List.getElem?_map,hd];rfl) ?_;refine cM (zs:=[.string (⟨#[]⟩:ByteArray),.int .i64 0,.nilIface]) (vs:=mV d) rfl (by simp[mV,oY,pX,Tm.bW]) fun g7 w2 hg7 gC f2=>?_;refine aD.of fun w3 _ f3=>aV.all ?_;have f13:=(f1.trans f2).trans f3;have h3:=(h1.af f2).af f3;have Jg:=f3.af gC;refine av.all (ae.ah Jg (x:=str d.1) rfl (av.all (ae.ah (c:=.raw) Jg (x:=d.2.2.v) rfl (av.all (ae.ah Jg (x:=d.2.1) rfl (av.all (ae.ah h3.aE (x:=some ⟨b,0,none⟩) rfl ?_)))))));refine ab.of (Dy d.1 d.2.2 d.2.1 (hn d xT) h3.wr (fun k hk=>by have:=hF k (h.gf k hk).1;have:=f13.size;omega)) ?_;obtain⟨c1,c2,_⟩:=Ia d.1 d.2.2 d.2.1 l.w;generalize fN d.1 d.2.2 d.2.1 l.w=X at *;rintro _ w4 ⟨f',w',rfl,PY,xM,f4,ff',wf'⟩;refine⟨(f',w',X.2,()),rfl,ai.of f4 (aa.ne (fun ay=>?_) (fun he=>?_))⟩
 ·have ay:X.2≠0:=ay
  rw[if_pos ay] at hx;have e:l.all=(([],[]),X.2):=hx;rw[e];exact⟨(none,0,0),(none,0,0),rfl,.inl ⟨rfl,rfl⟩,.inl ⟨rfl,rfl⟩,f13.trans f4⟩
 have he:X.2=0:=he;rw[if_neg (fun t=>t he)] at hx;have f24:=(f2.trans f3).trans f4;have e1:=jP.len;rw[Dx] at e1;have e2:=PY.len;rw[Dx] at e2;have e3:=nO.len;rw[yc] at e3;have e4:=xM.len;rw[yc] at e4;obtain⟨u,w5,FG,hu,_,f5,uf⟩:=gE IH 163 (jP.af f24) PY.rd (aag _) (by omega);refine⟨u,w5,FG,?_⟩;have s3:=f13.size;have s4:=f4.size;have s5:=f5.size;have n5:Fr none1 w w5:=(f13.trans f4).comp f5 fun k hk q=>by have:=oH k q;omega
 have rz:du w5 5 w' (j0 X.1.2):=xM.rd.ag f5 fun k hk q=>by have:=aF.lt (jP.af (f2.trans f3)) q;have:=wf' k hk;omega
 obtain⟨v,w6,pW,hv,_,f6,vf⟩:=gE IG 151 ((nO.af f24).ag f5 fun k hk q=>(lu k hk).2 q) rz (aaf _) (by omega);refine⟨v,w6,pW,?_⟩;have dk:∀ k,aw u k->w.heap.size<=k:=fun k hk=>by
  rcases uf k hk with q | q
  ·exact oH k q
  ·omega
 have wu:∀ k,aw wl k->¬ aw u k:=fun k hk q=>by
  rcases uf k q with t | t
  ·exact(lu k hk).2 t
  ·have:=aF.lt (nO.af f24) hk;omega
 refine⟨⟨i+1,(x.1++X.1.1,x.2++X.1.2),by rw[wI (by omega) (by omega)];omega,by omega,hx,by simp only[List.length_append];omega,by simp only[List.length_append];omega,?_,?_,n5.comp f6 fun k hk q=>by have:=(lu k q).1;omega,dk,fun k hk=>?_⟩,by rw[wI (by omega) (by omega)];omega⟩
 ·rw[aae];exact hu.ag f6 fun k hk q=>wu k q hk
 ·rw[aad];exact hv
 ·rcases vf k hk with q | q
  ·exact⟨(lu k q).1,wu k q⟩
  ·exact⟨by omega,fun t=>by have:=aF.lt hu t;omega⟩
theorem aaF {w:World}{F:Nat->Prop}{g:Nat}{l:cH}(h:et w F g l)(hF:∀ k,F k->k<w.heap.size)(hl:l.cP.length<=100)(hn:∀ d∈l.cP,aK d.2.2<=1000000):
  Ret Tryz.prog 261 #[.pointer (some ⟨g,0,none⟩)] w fun r w'=>∃ fl:Sl,r=.slice fl.1 fl.2.1 fl.2.2/\aF w' 219 3 fl (lL l.all.1.1)/\Fr none1 w w':=by
 refine c261 _ w _ ?_;refine ab.of (PX h hF hl hn) ?_;rintro _ w1 ⟨fl,wl,rfl,jP,nO,f1⟩;exact⟨(fl,wl,l.all.2,()),rfl,fl,rfl,jP,f1⟩
theorem Jh {w:World}{g:Nat}{l:List ((Int×List UInt8)×Int)}(h:gm DG sL w g l)(d:Int)(c:List UInt8){K:Int->World->Prop}(k:K ((bq (d,c) l).getD 0) w):
  aA Tryz.prog (Instr.lookup 173 (.map (some g)) (.agg #[.int .i64 d,.string (str c)]) false) w (.v (.one (.int .i64))) K:=by
 have:=Iy (z:=.int .i64 0) Jf Tryz.underlying173 (by kernel_rfl) h (d,c) false;refine⟨(bq (d,c) l).getD 0,w,this.trans ?_,k⟩;cases bq (d,c) l<;>rfl
theorem aaG {w:World}{F:Nat->Prop}{g:Nat}{l:cH}(h:et w F g l)(d:Int)(c:List UInt8):Ret Tryz.prog 260 #[.pointer (some ⟨g,0,none⟩),.int .i64 d,.string (str c)] w fun r w'=>r=.int .i64 (l.kf d c)/\w=w':=by
 obtain⟨dl,b,p,G,h⟩:=h;refine c260 _ d (str c) w _ ?_;exact ae.ah h.aE (x:=some p) rfl (Jh h.gj d c ⟨rfl,rfl⟩)
theorem aaH (d:Int)(c:List UInt8)(n:Int)(fs:List lC)(i:Nat){f:lC}(h:fs[i]? = some f):kF d c n (fs.take (i+1))=if f.1=d/\f.2.1=c then kF d c n (fs.take i)+f.2.2 else kF d c n (fs.take i):=AT _ _ _ h _
theorem DI {l:cH}(h:mO l):∀ d∈l.cP,aK d.2.2<=1000000:=fun d hd=>by have:=(H9 (OC (h.ok d hd)).1).2.1;omega
theorem aaI {w:World}{F:Nat->Prop}{g:Nat}{l:cH}(h:et w F g l)(hF:∀ k,F k->k<w.heap.size)(ho:mO l)(d:Int)(c:List UInt8):Ret Tryz.prog 241 #[.pointer (some ⟨g,0,none⟩),.int .i64 d,.string (str c)] w fun r w'=>r=.int .i64 (l.ox d c)/\Fr none1 w w':=by
 refine c241 _ d (str c) w _ ?_;have kX:=ho.num;obtain⟨a1,a2,a3⟩:=Ib ho;obtain⟨p1,p2⟩:=Ie ho d c;refine ab.of (aaG h d c) ?_;rintro _ _ ⟨rfl,rfl⟩;refine⟨_,rfl,?_⟩;refine ab.of (aaF h hF (by omega) (DI ho)) ?_;rintro _ w1 ⟨fl,rfl,jP,f1⟩;refine⟨fl,rfl,?_⟩;unfold cH.ox;generalize l.all.1.1=fs at *;have FI:=jP.len;rw[Dx] at FI;have FI:fl.2.1=fs.length:=by omega
 have PZ:∀ i,-980000000000000<=kF d c (-l.kf d c) (fs.take i)/\kF d c (-l.kf d c) (fs.take i)<=980000000000000:=fun i=>by
  have:=De d c (fs.take i) (-l.kf d c) (fun f hf=>a3 f (List.mem_of_mem_take hf));rw[List.length_take] at this;omega
 refine bC.of (fun s w'=>∃ i:Nat,s.2.1=i/\i<=fs.length/\s.1=kF d c (-l.kf d c) (fs.take i)/\Fr none1 w1 w') (fun s _=>(fl.2.1 - s.2.1).toNat)
  ⟨0,rfl,Nat.zero_le _,by rw[wI (by omega) (by omega),Int.zero_sub];rfl,Fr.refl _ _⟩ ?_
 rintro _ ⟨n,i',_⟩ w2 ⟨i,hi,jf,hs,f2⟩;dsimp only at hi hs ⊢;subst hi;subst hs;refine aa.dec (fun aU=>?_) (fun eu=>?_)
 rotate_left
 ·have:i=fs.length:=by omega
  subst this;rw[List.take_length];exact⟨rfl,f1.trans f2⟩
 have fI:i<fs.length:=by omega
 obtain⟨f,hf⟩:∃ f,fs[i]? = some f:=⟨_,List.getElem?_eq_getElem fI⟩;have jS:=aaH d c (-l.kf d c) fs i hf;have r1:=PZ i;have r2:=PZ (i+1);refine ya (cks:=PG) (x:=flV f) (jP.af f2).rd (by decide) (PH _) (by rw[List.getElem?_map,hf];rfl) ?_;refine cM (zs:=[.int .i64 0,.string (⟨#[]⟩:ByteArray),.int .i64 0]) (vs:=ue f) rfl rfl fun g7 w3 hg7 gC f3=>?_;have step:∀ n:Int,n=kF d c (-l.kf d c) (fs.take (i+1))->((∃ Ji:Nat,IntKind.wrap .i64 (↑i+1)=(Ji:Int)/\Ji<=fs.length/\n=kF d c (-l.kf d c) (fs.take Ji)/\Fr none1 w1 w3)/\((fl.2.1:Int) - IntKind.wrap .i64 (↑i+1)).toNat<((fl.2.1:Int) - ↑i).toNat):=fun n hn=>
  ⟨⟨i+1,by rw[wI (by omega) (by omega)];omega,by omega,hn,f2.trans f3⟩,by rw[wI (by omega) (by omega)];omega⟩
 refine ae.ah gC (x:=f.1) rfl (aa.eq (fun h1=>ae.ah gC (x:=str f.2.1) rfl ?_) (fun h1=>step _ ?_))
 ·rw[jc]
  refine aa.dec (fun h2=>ae.ah gC (x:=f.2.2) rfl (step _ ?_)) (fun h2=>step _ ?_)
  ·rw[if_pos ⟨h1,h2⟩] at jS
   rw[jS,wI (by omega) (by omega)]
  ·rw[if_neg (fun t=>h2 t.2)] at jS
   exact jS.symm
 ·rw[if_neg (fun t=>h1 t.1)] at jS
  exact jS.symm
theorem P0 {α:Type}(q:α->Bool){l:List α}{i:Nat}{d:α}(h1:(l.take i).find? q=none)(h2:l[i]? = some d)(h3:q d=false):(l.take (i+1)).find? q=none:=by
 rw[List.take_add_one,h2,List.find?_append,h1];simp[h3]
theorem P1 {α:Type}(q:α->Bool){l:List α}{i:Nat}{d:α}(h1:(l.take i).find? q=none)(h2:l[i]? = some d)(h3:q d=true):l.find? q=some d:=by
 obtain⟨h4,h5⟩:=List.getElem?_eq_some_iff.1 h2
 conv=>lhs;rw[<- List.take_append_drop i l]
 rw[List.find?_append,h1,List.drop_eq_getElem_cons h4,h5];simp[h3]
theorem P3 (q:ke->Bool)(v:Value){w:World}{dl:Sl}{l:List ke}(h:du w 3 dl (ry l))(hl:l.length<=1000)
  (hv:∀ (d:ke) (w1:World),Fr none1 w w1->∀ (K:Bool->World->Prop),(∀ w2,Fr none1 w1 w2->K (q d) w2)->kQ Tryz.prog v [.agg (mV d).toArray] (.v (.one .bool)) w1 K) :
  Ret Tryz.prog 236 #[.slice dl.1 dl.2.1 dl.2.2,v] w fun r w'=>(∃ i:Int,r=.int .i64 i/\((i=-1/\l.find? q=none)\/∃ (n:Nat) (d:ke),i=n/\l[n]? = some d/\l.find? q=some d))/\Fr none1 w w':=by
 have hlen:dl.2.1=l.length:=by have:=h.1;rw[A3] at this;omega
 refine c236 dl.1 dl.2.1 dl.2.2 v w _ ?_;refine bC.of (fun st w'=>∃ i:Nat,st.1=i/\i<=l.length/\(l.take i).find? q=none/\Fr none1 w w') (fun st _=>(dl.2.1 - st.1).toNat) ⟨0,rfl,Nat.zero_le _,rfl,Fr.refl _ _⟩ ?_;rintro _ ⟨i',_⟩ w1 ⟨i,hi,jf,hZ,f1⟩;dsimp only at hi ⊢;subst hi;refine aa.dec (fun aU=>?_) (fun eu=>?_)
 ·have fI:i<l.length:=by omega
  obtain⟨x,hx⟩:∃ x,l[i]? = some x:=⟨_,List.getElem?_eq_getElem fI⟩;refine ya (cks:=DE) (x:=A2 x) (h.af f1) (by decide) (DF _) (by rw[List.getElem?_map,hx];rfl) ?_;refine hv x w1 f1 _ fun w2 f2=>aa.by (fun hq=>?_) (fun hq=>?_)
  ·exact⟨⟨(i:Int),rfl,.inr ⟨i,x,rfl,hx,P1 q hZ hx hq⟩⟩,f1.trans f2⟩
  ·exact⟨⟨i+1,by rw[wI (by omega) (by omega)];omega,by omega,P0 q hZ hx hq,f1.trans f2⟩,by rw[wI (by omega) (by omega)];omega⟩
 ·rw[List.take_of_length_le (by omega)] at hZ
  exact⟨⟨-1,rfl,.inl ⟨rfl,hZ⟩⟩,f1⟩
theorem aaJ (q:gB->Bool)(v:Value){w:World}{dl:Sl}{l:List gB}(h:du w 5 dl (j0 l))(hl:l.length<=1000)
  (hv:∀ (d:gB) (w1:World),Fr none1 w w1->∀ (K:Bool->World->Prop),(∀ w2,Fr none1 w1 w2->K (q d) w2)->kQ Tryz.prog v [.agg (mS d).toArray] (.v (.one .bool)) w1 K) :
  Ret Tryz.prog 238 #[.slice dl.1 dl.2.1 dl.2.2,v] w fun r w'=>(∃ i:Int,r=.int .i64 i/\((i=-1/\l.find? q=none)\/∃ (n:Nat) (d:gB),i=n/\l[n]? = some d/\l.find? q=some d))/\Fr none1 w w':=by
 have hlen:dl.2.1=l.length:=by have:=h.1;rw[yc] at this;omega
 refine c238 dl.1 dl.2.1 dl.2.2 v w _ ?_;refine bC.of (fun st w'=>∃ i:Nat,st.1=i/\i<=l.length/\(l.take i).find? q=none/\Fr none1 w w') (fun st _=>(dl.2.1 - st.1).toNat) ⟨0,rfl,Nat.zero_le _,rfl,Fr.refl _ _⟩ ?_;rintro _ ⟨i',_⟩ w1 ⟨i,hi,jf,hZ,f1⟩;dsimp only at hi ⊢;subst hi;refine aa.dec (fun aU=>?_) (fun eu=>?_)
 ·have fI:i<l.length:=by omega
  obtain⟨x,hx⟩:∃ x,l[i]? = some x:=⟨_,List.getElem?_eq_getElem fI⟩;refine ya (cks:=ud) (x:=qy x) (h.af f1) (by decide) (Dw _) (by rw[List.getElem?_map,hx];rfl) ?_;refine hv x w1 f1 _ fun w2 f2=>aa.by (fun hq=>?_) (fun hq=>?_)
  ·exact⟨⟨(i:Int),rfl,.inr ⟨i,x,rfl,hx,P1 q hZ hx hq⟩⟩,f1.trans f2⟩
  ·exact⟨⟨i+1,by rw[wI (by omega) (by omega)];omega,by omega,P0 q hZ hx hq,f1.trans f2⟩,by rw[wI (by omega) (by omega)];omega⟩
 ·rw[List.take_of_length_le (by omega)] at hZ
  exact⟨⟨-1,rfl,.inl ⟨rfl,hZ⟩⟩,f1⟩
def lv (w:World)(g1:Nat)(m:aT):Prop:=w.heap[g1]? = some (.cells (gV m.e).toArray 36 (0,0))
theorem lv.af {w w':World}{g1:Nat}{m:aT}(h:lv w g1 m)(f:Fr none1 w w'):lv w' g1 m:=f.af h
def sO (m:aT):ke->Bool:=fun d=>d.1==m.id
def Jj (m:aT):gB->Bool:=fun x=>x.1&&x.2.2.1==m.label
theorem aaK {w:World}{g1:Nat}{m:aT}(h:lv w g1 m)(d:ke):Ret Tryz.prog 232 #[.agg (mV d).toArray,.pointer (some ⟨g1,0,none⟩)] w fun r w'=>r=.bool (sO m d)/\Fr none1 w w':=by
 refine c232 (A2 d) _ w _ ?_;refine ak.of fun g w1 hg hb f1 _=>ae.ah hb (x:=str d.1) rfl (ae.ah (h.af f1) (x:=str m.id) rfl ⟨?_,f1⟩);rw[jc];unfold sO;congr 1;rw[Bool.eq_iff_iff];simp
theorem aaL {w:World}{g1:Nat}{m:aT}(h:lv w g1 m)(d:ke):Ret Tryz.prog 237 #[.agg (mV d).toArray,.pointer (some ⟨g1,0,none⟩)] w fun r w'=>r=.bool (sO m d)/\Fr none1 w w':=by
 refine c237 (A2 d) _ w _ ?_;refine ak.of fun g w1 hg hb f1 _=>ae.ah hb (x:=str d.1) rfl (ae.ah (h.af f1) (x:=str m.id) rfl ⟨?_,f1⟩);rw[jc];unfold sO;congr 1;rw[Bool.eq_iff_iff];simp
theorem aaM {w:World}{g1:Nat}{m:aT}(h:lv w g1 m)(d:gB):Ret Tryz.prog 239 #[.agg (mS d).toArray,.pointer (some ⟨g1,0,none⟩)] w fun r w'=>r=.bool (Jj m d)/\Fr none1 w w':=by
 refine c239 (qy d) _ w _ ?_;unfold Jj;refine ak.of fun g w1 hg hb f1 _=>ae.ah hb (x:=d.1) rfl (aa.by (fun hd=>ae.ah hb (x:=str d.2.2.1) rfl (ae.ah (h.af f1) (x:=str m.label) rfl ⟨?_,f1⟩)) (fun hd=>⟨by rw[hd];rfl,f1⟩));rw[jc,hd];congr 1;rw[Bool.eq_iff_iff];simp
theorem aaN {w:World}{F:Nat->Prop}{g:Nat}{l:cH}(h:et w F g l)(hF:∀ k,F k->k<w.heap.size)(hl:l.cP.length<=100)(m:aT)(hm:aK m.t<=1000000):
  Ret Tryz.prog 195 #[.pointer (some ⟨g,0,none⟩),ix m.e] w fun r w'=>r=.int .i64 (tI l m).2/\et w' (fun k=>F k\/cE w w' k) g (tI l m).1/\Fr F w w':=by
 obtain⟨dl,b,p,G,h⟩:=h;refine c195 _ m.e w _ ?_;unfold C195 tI;refine ak.of fun g1 w1 dp au f1 _=>?_;have e1:lv w1 g1 m:=au;have h1:=h.af f1;have ot:=h.cP.len;rw[A3] at ot;have ot:dl.2.1=l.cP.length:=by omega
 have no:∀ {w':World},Fr none1 w w'->et w' (fun k=>F k\/cE w w' k) g l/\Fr F w w':=fun f=>⟨(show et _ F g l from⟨dl,b,p,G,h.af f⟩).mono fun k hk=>.inl hk,f.mono fun _ _ t=>t.elim⟩;refine ae.ah h1.aE (x:=dl) rfl ?_;have hc:Ret Tryz.prog 231 #[.slice dl.1 dl.2.1 dl.2.2,.func (.func 232) #[] #[.pointer (some ⟨g1,0,none⟩)]] w1 fun r w'=>r=.bool (l.cP.any (sO m))/\Fr none1 w1 w':=by
  refine c231 dl.1 dl.2.1 dl.2.2 _ w1 _ ?_;refine ab.of (P3 (sO m) _ h1.cP.rd (by omega) fun d w2 f2 K k=>?_) ?_
  ·refine mm (by kernel_rfl) Tryz.func232 (by kernel_rfl) ((aaK (e1.af f2) d).mono ?_)
   rintro _ w3 ⟨rfl,f3⟩;exact⟨_,rfl,k w3 f3⟩
  rintro _ w2 ⟨⟨i,rfl,hi⟩,f2⟩;refine⟨i,rfl,?_,f2⟩;rw[show l.cP.any (sO m)=(l.cP.find? (sO m)).isSome by rw[Bool.eq_iff_iff];simp]
  rcases hi with⟨rfl,hn⟩ | ⟨n,d,rfl,hd,hn⟩
  ·rw[hn];rfl
  ·rw[hn,decide_eq_true (by omega)];rfl
 refine ab.of hc ?_;clear hc;rintro _ w2 ⟨rfl,f2⟩;have f12:=f1.trans f2;have h2:=h1.af f2;refine⟨_,rfl,aa.by (fun ha=>?_) (fun ha=>?_)⟩
 ·have ha:l.cP.any (fun d=>d.1==m.id)=true:=ha
  rw[if_pos ha];exact⟨rfl,no f12⟩
 have ha:l.cP.any (fun d=>d.1==m.id)=false:=ha;rw[if_neg (by rw[ha];simp)];refine ae.ah h2.aE (x:=dl) rfl (aa.dec (fun h8=>?_) (fun h8=>?_))
 ·rw[if_pos (by omega)];exact⟨rfl,no f12⟩
 rw[if_neg (by omega)];refine aD.of fun w3 _ f3=>aV.all ?_;have f13:=f12.trans f3;have h3:=h2.af f3;have e3:=(e1.af f2).af f3;refine av.all (ae.ah e3 (x:=str m.id) rfl (av.all (ae.ah (c:=.raw) e3 (x:=m.t.v) rfl (av.all (ae.ah h3.aE (x:=l.day) rfl (av.all (ae.ah h3.aE (x:=some ⟨b,0,none⟩) rfl ?_)))))));refine ab.of (Dy m.id m.t l.day hm h3.wr (fun k hk=>by have:=hF k (h.gf k hk).1;have:=f13.size;omega)) ?_;rintro _ w4 ⟨fl,wl,rfl,_,_,f4,_,_⟩;have f14:=f13.trans f4;have h4:=h3.af f4;refine⟨(fl,wl,(fN m.id m.t l.day l.w).2,()),rfl,aa.ne (fun ay=>?_) (fun he=>?_)⟩
 ·rw[if_pos ay];exact⟨rfl,no f14⟩
 rw[if_neg (fun t=>t he)];refine aD.of fun w5 _ f5=>aV.all ?_;have f15:=f14.trans f5;have h5:=h4.af f5;have e5:=(e3.af f4).af f5
 -- the end, alike in both acP
 have fin:∀ {w6:World} {u y:Sl},Fr none1 w5 w6->aF w6 262 3 u (ry l.cP)->aF w6 262 3 y (mV (m.id,l.day,m.t))->y.2.1=1->(∀ k,aw u k->w5.heap.size<=k) ->
   aA Tryz.prog (Builtin.append_ #[171,171] 171 #[.slice u.1 u.2.1 u.2.2,.slice y.1 y.2.1 y.2.2]) w6 (.v (.one .aj)) fun(v:Option Addr×Nat×Nat) w7=>az ((⟨g,0,none⟩:Addr).add 1) (.slice v.1 v.2.1 v.2.2) w7 fun w8=>(Value.int .i64 0=.int .i64 0/\et w8 (fun k=>F k\/cE w w8 k) g { l with cP:=l.cP++[(m.id,l.day,m.t)] }/\Fr F w w8):=by
  intro w6 u y f6 hu hy CU uf;have dk:=hu.len;rw[A3] at dk;obtain⟨v,w7,pV,hv,_,f7,vf⟩:=gE DA 171 hu hy.rd (PW _) (by omega);refine⟨v,w7,pV,?_⟩;have s5:=f15.size;have s6:=f6.size;have s7:=f7.size;have gl:=hF g h.mem;have vw:∀ k,F k->¬ aw u k:=fun k hk q=>by have:=uf k q;have:=hF k hk;omega
  have h7:=(h5.af f6).ag f7 vw;refine az.ah h7.aE (show 1<4 by decide) rfl fun w8 jB f8 s8=>⟨rfl,⟨v,b,p,G,jB,?_,h7.wr.ag f8 (fun k hk q=>(h.gf k hk).2.1 q),h7.gj.ag f8 (fun q=>h.pf.2 q),fun k hk=>?_,fun k hk=>⟨.inl (h.gf k hk).1,(h.gf k hk).2⟩,⟨.inl h.pf.1,h.pf.2⟩,.inl h.mem⟩,?_⟩
  ·dsimp only
   rw[aaD];refine hv.ag f8 fun k hk q=>?_;have:k=g:=q
   rcases vf k hk with t | t
   ·have:=uf k t;omega
   ·omega
  ·have hk5:w.heap.size<=k/\k<w7.heap.size:=by
    refine⟨?_,aF.lt hv hk⟩
    rcases vf k hk with t | t
    ·have:=uf k t;omega
    ·omega
   refine⟨.inr ⟨hk5.1,by omega⟩,by omega,fun e=>by have:=hF p h.pf.1;omega,fun t=>by have:=hF k (h.gf k t).1;omega⟩
  ·refine(((f15.trans f6).mono fun _ _ t=>t.elim).comp f7 fun k hk q=>by have:=uf k q;omega).comp f8 fun k _ q=>by have:k=g:=q;rw[this];exact h.mem
 refine av.all (ae.ah h5.aE (x:=dl) rfl (av.all (ae.ah e5 (x:=str m.id) rfl (av.all (ae.ah h5.aE (x:=l.day) rfl (av.all (ae.ah (c:=.raw) e5 (x:=m.t.v) rfl ⟨m.t.fR,⟨?a,?b⟩⟩)))))))
 case' a=>
  refine ab.of (I9 h5.cP.rd (Je _) (by omega)) ?_;rintro _ w6 ⟨u,rfl,hu,f6,uf⟩;refine⟨u,rfl,ai.of f6 ?_⟩;obtain⟨y,w7,pV,hy,iH,f7,yf⟩:=mR (P:=Tryz.prog) (w:=w6) DA (mV (m.id,l.day,m.t)) rfl (by decide);exact⟨y,w7,pV,ai.of f7 (fin (f6.trans f7) (hu.af f7) hy iH uf)⟩
 case' b=>
  obtain⟨y,w6,pW,hy,iH,f6,yf⟩:=mR (P:=Tryz.prog) (w:=w5) DA (mV (m.id,l.day,m.t)) rfl (by decide);refine⟨y,w6,pW,ai.of f6 ?_⟩;have h6:=h5.af f6;refine ab.of (I9 h6.cP.rd (Je _) (by omega)) ?_;rintro _ w7 ⟨u,rfl,hu,f7,uf⟩;exact⟨u,rfl,ai.of f7 (fin (f6.trans f7) hu (hy.af f7) iH fun k hk=>by have:=uf k hk;have:=f6.size;omega)⟩
theorem aaO {w:World}{v:Sl}{l:List gB}(h:du w 5 v (j0 l)){i:Nat}{x:gB}(hx:l[i]? = some x){K:Addr->Prop}(k:∀ a:Addr,(∀ {j:Nat} {c:Ck} {y:c.C} {M:c.C->Prop},(mS x)[j]? = some (c.val y)->M y->ae c (a.add j) w M)->K a):bQ v.1 v.2.1 (i:Int) 5 K:=by
 have hlen:v.2.1=l.length:=by have:=h.1;rw[yc] at this;omega
 have hi:=(List.getElem?_eq_some_iff.1 hx).1;cases hv:v.1 with
 | none=>have:=(h.2.1 hv).1;omega
 | some p=>
  refine⟨p,rfl,by omega,by omega,?_⟩;rw[Int.toNat_natCast];have hl:aq ud (p.add (i * 5)) w (fun y=>qy x=y):=h.sA (vs:=l.map mS) (Dw l) (x:=qy x) (by rw[List.getElem?_map,hx];rfl) (by omega) rfl hv;obtain⟨y,hc,hy⟩:=hl;subst hy;refine k _ fun{j c y M} hj hm=>?_;refine⟨y,?_,hm⟩;have:=wD _ 0 j _ hc hj;rwa[Nat.zero_add] at this
theorem qC.world {w w':World}{F:Nat->Prop}{g:Nat}{l:cH}{dl:Sl}{b p:Nat}{G:Nat->Prop}(h:qC w F g l dl b p G)(f:Fr G w w'){m:de}(hw:ir w' G b m):qC w' F g { l with w:=m } dl b p G:=
 ⟨f.ag h.aE fun q=>(h.gf g q).2.1 rfl,h.cP.ag f fun k hk q=>(h.nS k hk).2.2.2 q,hw,h.gj.ag f fun q=>(h.gf p q).2.2 rfl,h.nS,h.gf,h.pf,h.mem⟩
theorem aaP {w:World}{F:Nat->Prop}{g:Nat}{l:cH}(h:et w F g l)(hF:∀ k,F k->k<w.heap.size)(ho:mO l)(m:aT):
  Ret Tryz.prog 196 #[.pointer (some ⟨g,0,none⟩),ix m.e] w fun r w'=>r=.int .i64 (sx l m).2/\((sx l m).2=0->et w' F g (sx l m).1)/\Fr F w w':=by
 obtain⟨dl,b,p,G,h⟩:=h;have kX:=ho.num;refine c196 _ m.e w _ ?_;unfold C196 sx;refine ak.of fun g1 w1 dp au f1 _=>aD.of fun w2 _ f2=>?_;have e2:lv w2 g1 m:=f2.af au;have f12:=f1.trans f2;have h2:=h.af f12;have no:∀ {w':World} {n:Int},Fr none1 w w'->(n=0->et w' F g l)/\Fr F w w':=fun f=>⟨fun _=>⟨dl,b,p,G,h.af f⟩,f.mono fun _ _ t=>t.elim⟩;refine ae.ah e2 (x:=m.day) rfl (ae.ah h2.aE (x:=l.day) rfl (aa.dec (fun hd=>?_) (fun hd=>?_)))
 ·rw[if_pos (by omega)];exact⟨rfl,no f12⟩
 rw[if_neg (by omega)];refine aD.of fun w3 _ f3=>?_;have e3:=e2.af f3;have f13:=f12.trans f3;have h3:=h2.af f3;refine ae.ah h3.aE (x:=some ⟨b,0,none⟩) rfl (ae.ah e3 (x:=str m.name) rfl (ae.ah e3 (x:=m.day) rfl (ae.ah e3 (x:=m.val) rfl ?_)));have s3:=f13.size;refine ab.of (ZS h3.wr (fun k hk=>by have:=hF k (h.gf k hk).1;omega) m.name m.day m.val) ?_;rintro _ w4 ⟨rfl,hw4,f4⟩;have h4:=h3.world f4 hw4;have f14:Fr F w w4:=(f13.mono fun _ _ t=>t.elim).comp f4 fun k _ q=>(h.gf k q).1;refine⟨_,rfl,aa.ne (fun ay=>?_) (fun he=>?_)⟩
 ·rw[if_pos ay];exact⟨rfl,fun h=>absurd h ay,f14⟩
 rw[if_neg (fun t=>t he)];refine ab.of (PX ⟨dl,b,p,G,h4⟩ (fun k hk=>by have:=hF k hk;have:=f14.size;omega) (by dsimp only;omega) (fun d hd=>DI ho d hd)) ?_;rintro _ w5 ⟨fl,wl,rfl,_,_,f5⟩;refine⟨(fl,wl,_,()),rfl,?_⟩;have h5:=h4.af f5;split
 ·rename_i ay;exact⟨rfl,fun h=>absurd h ay,f14.dq f5⟩
 ·rename_i he;exact⟨congrArg (fun n=>Value.int .i64 n) (Classical.not_not.1 he),fun _=>⟨dl,b,p,G,h5⟩,f14.dq f5⟩
theorem aaQ {w:World}{F:Nat->Prop}{g:Nat}{l:cH}(h:et w F g l)(hF:∀ k,F k->k<w.heap.size)(ho:mO l)(m:aT)(eP:Int):
  Ret Tryz.prog 197 #[.pointer (some ⟨g,0,none⟩),ix m.e,.int .i64 eP] w fun r w'=>r=.int .i64 (sy l m eP).2/\((sy l m eP).2=0->et w' F g (sy l m eP).1)/\Fr F w w':=by
 obtain⟨dl,b,p,G,h⟩:=h;have kX:=ho.num;refine c197 _ m.e eP w _ ?_;unfold C197 sy;refine ak.of fun g1 w1 dp au f1 _=>?_;have e1:lv w1 g1 m:=au;have h1:=h.af f1;have no:∀ {w':World} {n:Int},Fr none1 w w'->(n=0->et w' F g l)/\Fr F w w':=fun f=>⟨fun _=>⟨dl,b,p,G,h.af f⟩,f.mono fun _ _ t=>t.elim⟩;refine ae.ah h1.aE (x:=dl) rfl ?_;refine ab.of (P3 (sO m) _ h1.cP.rd (by omega) fun d w2 f2 K k=>?_) ?_
 ·refine mm (by kernel_rfl) Tryz.func237 (by kernel_rfl) ((aaL (e1.af f2) d).mono ?_)
  rintro _ w3 ⟨rfl,f3⟩;exact⟨_,rfl,k w3 f3⟩
 rintro _ w2 ⟨⟨i,rfl,hi⟩,f2⟩;have f12:=f1.trans f2;have h2:=h1.af f2;refine⟨i,rfl,?_⟩
 rcases hi with⟨rfl,hn⟩ | ⟨n,d,rfl,hd,hn⟩
 ·have hn:l.cP.find? (fun d=>d.1==m.id)=none:=hn
  rw[hn];exact aa.yes (by decide) ⟨rfl,no f12⟩
 have hn:l.cP.find? (fun d=>d.1==m.id)=some d:=hn;rw[hn];dsimp only;have xT:=List.mem_of_getElem? hd;refine aa.no (by omega) ?_;refine ae.ah h2.aE (x:=dl) rfl (ya (cks:=DE) (x:=A2 d) h2.cP.rd (by decide) (DF _) (by rw[List.getElem?_map,hd];rfl) ?_);refine cM (zs:=[.string (⟨#[]⟩:ByteArray),.int .i64 0,.nilIface]) (vs:=mV d) rfl (by simp[mV,oY,pX,Tm.bW]) fun g9 w3 Pw lG f3=>?_;refine aD.of fun w4 _ f4=>aV.all ?_;have f14:=(f12.trans f3).trans f4;have h4:=(h2.af f3).af f4;have DJ:=f4.af lG;refine av.all (ae.ah DJ (x:=str d.1) rfl (av.all (ae.ah (c:=.raw) DJ (x:=d.2.2.v) rfl (av.all (ae.ah DJ (x:=d.2.1) rfl (av.all (ae.ah h4.aE (x:=some ⟨b,0,none⟩) rfl ?_)))))));have vw:∀ {w':World},Fr none1 w w'->∀ k,G k->k<w'.heap.size:=fun f k hk=>by have:=hF k (h.gf k hk).1;have:=f.size;omega
 refine ab.of (Dy d.1 d.2.2 d.2.1 (DI ho d xT) h4.wr (vw f14)) ?_;have ql:=(Ia d.1 d.2.2 d.2.1 l.w).2.1;rintro _ w5 ⟨fl,wl,rfl,_,nO,f5,_,_⟩;have f15:=f14.trans f5;have h5:=h4.af f5;have e5:lv w5 g1 m:=(((e1.af f2).af f3).af f4).af f5;refine⟨(fl,wl,(fN d.1 d.2.2 d.2.1 l.w).2,()),rfl,ai.of f5 ?_⟩;refine ab.of (aaJ (Jj m) _ nO.rd (by omega) fun x w6 f6 K k=>?_) ?_
 ·refine mm (by kernel_rfl) Tryz.func239 (by kernel_rfl) ((aaM (e5.af f6) x).mono ?_)
  rintro _ w7 ⟨rfl,f7⟩;exact⟨_,rfl,k w7 f7⟩
 rintro _ w6 ⟨⟨i,rfl,hi⟩,f6⟩;have f16:=f15.trans f6;have h6:=h5.af f6;refine⟨i,rfl,?_⟩
 rcases hi with⟨rfl,kU⟩ | ⟨n2,x,rfl,hx,kU⟩
 ·have kU:(fN d.1 d.2.2 d.2.1 l.w).1.2.find? (fun x=>x.1&&x.2.2.1==m.label)=none:=kU
  rw[kU];exact aa.yes (by decide) ⟨rfl,no f16⟩
 have kU:(fN d.1 d.2.2 d.2.1 l.w).1.2.find? (fun x=>x.1&&x.2.2.1==m.label)=some x:=kU;rw[kU];dsimp only;refine aa.no (by omega) ?_;refine aD.of fun w7 _ f7=>?_;have f17:=f16.trans f7;have h7:=h6.af f7;have wl7:=((nO.af f6).af f7).rd;have P4:∀ {K:Addr->Prop},(∀ a,(∀ {j:Nat} {c:Ck} {y:c.C} {M:c.C->Prop},(mS x)[j]? = some (c.val y)->M y->ae c (a.add j) w7 M)->K a)->bQ wl.1 wl.2.1 (n2:Int) 5 K:=fun k=>aaO wl7 hx k;refine P4 fun a ha=>ha (j:=3) (y:=x.2.2.2.1) rfl (ae.ah h7.aE (x:=l.day) rfl (aa.dec (fun hd=>?_) (fun hd=>?_)))
 ·rw[if_pos (by omega)];exact⟨rfl,no f17⟩
 rw[if_neg (by omega)];refine P4 fun a ha=>ha (j:=4) (y:=x.2.2.2.2) rfl (aa.ne (fun ay=>?_) (fun he=>?_))
 ·have ay:x.2.2.2.2≠eP:=ay
  rw[if_pos ay];exact⟨rfl,no f17⟩
 have he:x.2.2.2.2=eP:=he;rw[if_neg (fun t=>t he)];refine aD.of fun w8 _ f8=>?_;have f18:=f17.trans f8;have h8:=h7.af f8;have e8:=((e5.af f6).af f7).af f8;refine ae.ah h8.aE (x:=some ⟨b,0,none⟩) rfl (ae.ah e8 (x:=str m.id) rfl (ae.ah e8 (x:=str m.label) rfl (ae.ah e8 (x:=m.val) rfl (ae.ah h8.aE (x:=l.day) rfl ?_))));refine ab.of (ZT h8.wr m.id m.label m.val l.day) ?_;rintro _ w9 ⟨rfl,hw9,f9⟩;have h9:=h8.world f9 hw9;have f19:Fr F w w9:=(f18.mono fun _ _ t=>t.elim).comp f9 fun k _ q=>(h.gf k q).1;refine⟨_,rfl,aa.ne (fun ay=>?_) (fun he=>?_)⟩
 ·have ay:(lE l.w m.id m.label m.val l.day).2≠0:=ay
  rw[if_pos ay];exact⟨rfl,fun h=>absurd h ay,f19⟩
 have he:(lE l.w m.id m.label m.val l.day).2=0:=he;rw[if_neg (fun t=>t he)];refine aD.of fun aG _ f10=>aV.all ?_;have oF:=h9.af f10;have g1w:¬ G g9:=fun q=>by have:=hF g9 (h.gf g9 q).1;have:=f12.size;omega
 have Jk:=f10.af (f9.ag ((((f5.trans f6).trans f7).trans f8).af DJ) g1w);refine av.all (ae.ah Jk (x:=str d.1) rfl (av.all (ae.ah (c:=.raw) Jk (x:=d.2.2.v) rfl (av.all (ae.ah Jk (x:=d.2.1) rfl (av.all (ae.ah oF.aE (x:=some ⟨b,0,none⟩) rfl ?_)))))));refine ab.of (Dy d.1 d.2.2 d.2.1 (DI ho d xT) oF.wr (fun k hk=>by have:=hF k (h.gf k hk).1;have:=f19.size;have:=f10.size;omega)) ?_;rintro _ aO ⟨fl2,wl2,rfl,_,_,f11,_,_⟩;refine⟨(fl2,wl2,_,()),rfl,ai.of f11 ?_⟩;have lr:=oF.af f11;have sP:=(f19.dq f10).dq f11;dsimp only;split
 ·rename_i ay;exact⟨rfl,fun h=>absurd h ay,sP⟩
 ·rename_i he;exact⟨congrArg (fun n=>Value.int .i64 n) (Classical.not_not.1 he),fun _=>⟨dl,b,p,G,lr⟩,sP⟩
abbrev iu:List Ck:=[.int .i64,.str,.str,.str,.str,.int .i64,.int .i64,.raw]
theorem aaR (m:aT)(hm:aK m.t<=1000000){w:World}(ht:TabW w):Ret Tryz.prog 70 #[ix m.e] w fun r w'=>r=.int .i64 (jm m)/\Fr none1 w w':=
 Fg m.e (vr m.t) (bp m.t).2 w fun _ wa fa=>(Cc m.t hm wa (ht.af fa)).mono fun r w' ⟨h,f⟩=>⟨⟨_,h⟩,f⟩
theorem aaS {l:cH}(ho:mO l)(d:Int)(c:List UInt8):-980000000000000<=l.ox d c/\l.ox d c<=980000000000000:=by
 obtain⟨a1,a2,a3⟩:=Ib ho;obtain⟨p1,p2⟩:=Ie ho d c;have:=De d c l.all.1.1 (-l.kf d c) a3;unfold cH.ox;omega
theorem aaT {w:World}{F:Nat->Prop}{g:Nat}{l:cH}(h:et w F g l)(hF:∀ k,F k->k<w.heap.size)(ho:mO l)(m:aT):
  Ret Tryz.prog 198 #[.pointer (some ⟨g,0,none⟩),ix m.e] w fun r w'=>r=.int .i64 (tJ l m).2/\et w' F g (tJ l m).1/\Fr F w w':=by
 have h0:=h;obtain⟨dl,b,p,G,h⟩:=h;refine c198 _ m.e w _ ?_;unfold C198 tJ;refine ak.of fun g1 w1 dp au f1 _=>?_;have e1:lv w1 g1 m:=au;have no:∀ {w':World},Fr none1 w w'->et w' F g l/\Fr F w w':=fun f=>⟨⟨dl,b,p,G,h.af f⟩,f.mono fun _ _ t=>t.elim⟩;refine ae.ah e1 (x:=m.day) rfl (ae.ah e1 (x:=str m.cur) rfl ?_);refine ab.of (aaI (h0.af f1) (fun k hk=>by have:=hF k hk;have:=f1.size;omega) ho m.day m.cur) ?_;rintro _ w2 ⟨rfl,f2⟩;obtain⟨r1,r2⟩:=aaS ho m.day m.cur;obtain⟨p1,p2⟩:=Ie ho m.day m.cur;refine⟨_,rfl,aD.of fun w3 _ f3=>?_⟩;have f13:=(f1.trans f2).trans f3;have h3:=h.af f13;have e3:=(e1.af f2).af f3;refine ae.ah e3 (x:=m.day) rfl (ae.ah h3.aE (x:=l.day) rfl (aa.dec (fun hd=>?_) (fun hd=>?_)))
 ·rw[if_pos (by omega)];exact⟨rfl,no f13⟩
 rw[if_neg (by omega)];refine aa.eq (fun hz=>?_) (fun hz=>?_)
 ·rw[if_pos hz];exact⟨rfl,no f13⟩
 rw[if_neg hz];refine ae.ah e3 (x:=m.val) rfl (aa.ne (fun hv=>?_) (fun hv=>?_))
 ·rw[if_pos hv];exact⟨rfl,no f13⟩
 rw[if_neg (fun t=>t hv)];refine aD.of fun w4 _ f4=>aV.of (fun k=>k=g\/k=g1) ?_;have f14:=f13.trans f4;have h4:=h3.af f4;have e4:=e3.af f4;have gp:¬ (only p) g:=fun q=>h.pf.2 (Eq.symm q);have g1p:g1≠p:=fun q=>by have:=hF p h.pf.1;omega
 have fin:∀ {w6 w7:World},Fr (only p) w4 w6->Fr (only p) w6 w7->gm DG sL w7 p (jT (m.day,m.cur) (l.kf m.day m.cur+l.ox m.day m.cur) l.gj) ->
   (Value.int .i64 0=.int .i64 0/\et w7 F g { l with gj:=jT (m.day,m.cur) (l.kf m.day m.cur+l.ox m.day m.cur) l.gj }/\Fr F w w7):=fun{w6 w7} f6 f7 hm=>
  ⟨rfl,⟨dl,b,p,G,(f6.trans f7).ag h4.aE gp,h4.cP.ag (f6.trans f7) (fun k hk q=>(h.nS k hk).2.2.1 q),h4.wr.ag (f6.trans f7) (fun k hk q=>(h.gf k hk).2.2 q),hm,h.nS,h.gf,h.pf,h.mem⟩,(f14.mono fun _ _ t=>t.elim).comp (f6.trans f7) fun k _ q=>by have:k=p:=q;rw[this];exact h.pf.1⟩
 have ag:∀ {w':World} {K:Prop},Fr (only p) w4 w'->K->ai (fun k=>k=g\/k=g1) w4 w' K:=fun f k=>ai.on f (fun k hk q=>by have:k=p:=q;rcases hk with rfl | rfl;exact h.pf.2 this.symm;exact g1p this) k
 refine⟨by rw[dT];exact .inl rfl,ae.ah h4.aE (x:=some p) rfl ⟨by rw[dT];exact .inr rfl,ae.ah e4 (x:=m.day) rfl ⟨by rw[dT];exact .inr rfl,ae.ah e4 (x:=str m.cur) rfl ⟨?a,?b⟩⟩⟩⟩
 case' a=>
  refine Jh h4.gj m.day m.cur (ag (Fr.refl _ _) ?_);obtain⟨w6,n,l2,pW,f6,_,P5,_,dD⟩:=Po (ev:=sL) (z:=0) Jf Tryz.underlying173 (by kernel_rfl) h4.gj (m.day,m.cur);refine⟨((bq (m.day,m.cur) l.gj).getD 0,n,()),w6,pW,?_⟩;have e:(bq (m.day,m.cur) l.gj).getD 0=l.kf m.day m.cur:=rfl;rw[e,wI (by omega) (by omega)];obtain⟨w7,pV,f7,_,AR⟩:=dD (l.kf m.day m.cur+l.ox m.day m.cur);exact⟨w7,pV,fin f6 f7 AR⟩
 case' b=>
  obtain⟨w6,n,l2,pW,f6,_,P5,mF,dD⟩:=Po (ev:=sL) (z:=0) Jf Tryz.underlying173 (by kernel_rfl) h4.gj (m.day,m.cur);refine⟨((bq (m.day,m.cur) l.gj).getD 0,n,()),w6,pW,ag f6 ?_⟩;refine Jh P5 m.day m.cur ?_;rw[mF];have e:(bq (m.day,m.cur) l.gj).getD 0=l.kf m.day m.cur:=rfl;rw[e,wI (by omega) (by omega)];obtain⟨w7,pV,f7,_,AR⟩:=dD (l.kf m.day m.cur+l.ox m.day m.cur);exact⟨w7,pV,fin f6 f7 AR⟩
theorem P6 {w:World}{F:Nat->Prop}{g:Nat}{l:cH}(h:et w F g l)(hF:∀ k,F k->k<w.heap.size)(ho:mO l)(m:aT)(hm:aK m.t<=1000000)(ht:TabW w)(eP:Int):
  Ret Tryz.prog 152 #[.pointer (some ⟨g,0,none⟩),ix m.e,.int .i64 eP] w fun r w'=>r=.int .i64 (iQ l m eP).2/\((iQ l m eP).2=0->et w' (fun k=>F k\/cE w w' k) g (iQ l m eP).1)/\Fr F w w':=by
 have kX:=ho.num;refine c152 _ m.e eP w _ ?_;unfold C152 iQ;refine ak.of fun g1 w1 dp au f1 _=>?_;have e1:lv w1 g1 m:=au;have bad:∀ {w':World} {n:Int} {X:cH},n≠0->Fr none1 w w'->(n=0->et w' (fun k=>F k\/cE w w' k) g X)/\Fr F w w':=fun hn f=>⟨fun h=>absurd h hn,f.mono fun _ _ t=>t.elim⟩;refine cy.of (fun s w'=>s.1=decide (eP≠0/\eP≠1)/\w1=w') ?_ ?_
 ·refine aa.ne (fun ay=>⟨?_,rfl⟩) (fun he=>⟨?_,rfl⟩)
  ·by_cases h1:eP=1
   ·subst h1;rfl
   ·rw[decide_eq_true ⟨ay,h1⟩];simpa using h1
  ·rw[decide_eq_false (fun t=>t.1 he)]
 rintro _ ⟨s,_⟩ _ ⟨hs,rfl⟩;dsimp only at hs ⊢;subst hs;refine aa.dec (fun hb=>?_) (fun hb=>?_)
 ·rw[if_pos hb];exact⟨rfl,bad (show(1:Int)≠0 by decide) f1⟩
 rw[if_neg hb];refine aq.aE (cks:=iu) (x:=m.e) e1 ?_;refine ab.of (aaR m hm (ht.af f1)) ?_;rintro _ w2 ⟨rfl,f2⟩;have f12:=f1.trans f2;have e2:=e1.af f2;refine⟨_,rfl,aa.ne (fun ay=>?_) (fun he=>?_)⟩
 ·have ay:jm m≠0:=ay
  rw[if_pos ay];exact⟨rfl,bad ay f12⟩
 rw[if_neg (fun t=>t he)];have h2:=h.af f12;have DK:∀ k,F k->k<w2.heap.size:=fun k hk=>by have:=hF k hk;have:=f12.size;omega
 have fQ:=f12.size;have fF:∀ {w':World},Fr F w2 w'->Fr F w w':=fun f=>f12.eL f;refine ae.ah e2 (x:=m.kind) rfl (aa.eq (fun hk=>?_) (fun hk=>?_))
 ·rw[if_pos hk]
  refine aq.aE (cks:=iu) (x:=m.e) e2 (ab.of (aaN h2 DK (by omega) m hm) ?_);rintro _ w3 ⟨rfl,h3,f3⟩;exact⟨_,rfl,rfl,fun _=>h3.mono fun k hk=>hk.imp_right fun q=>⟨by have:=q.1;omega,q.2⟩,fF f3⟩
 have hk:m.kind≠2:=hk;rw[if_neg hk];refine aa.eq (fun hk=>?_) (fun hk=>?_)
 ·rw[if_pos hk]
  refine aq.aE (cks:=iu) (x:=m.e) e2 (ab.of (aaP h2 DK ho m) ?_);rintro _ w3 ⟨rfl,h3,f3⟩;exact⟨_,rfl,rfl,fun q=>(h3 q).mono fun k hk=>.inl hk,fF f3⟩
 have hk:m.kind≠3:=hk;rw[if_neg hk];refine aa.eq (fun hk=>?_) (fun hk=>?_)
 ·rw[if_pos hk]
  refine aq.aE (cks:=iu) (x:=m.e) e2 (ab.of (aaQ h2 DK ho m eP) ?_);rintro _ w3 ⟨rfl,h3,f3⟩;exact⟨_,rfl,rfl,fun q=>(h3 q).mono fun k hk=>.inl hk,fF f3⟩
 have hk:m.kind≠4:=hk;rw[if_neg hk];refine aa.eq (fun hk=>?_) (fun hk=>?_)
 ·rw[if_pos hk]
  refine aq.aE (cks:=iu) (x:=m.e) e2 (ab.of (aaT h2 DK ho m) ?_);rintro _ w3 ⟨rfl,h3,f3⟩;exact⟨_,rfl,rfl,fun q=>h3.mono fun k hk=>.inl hk,fF f3⟩
 have hk:m.kind≠6:=hk;rw[if_neg hk];refine aa.eq (fun hk=>?_) (fun hk=>?_)
 ·rw[if_pos hk]
  refine aD.of fun w3 _ f3=>?_;have f13:=f12.trans f3;obtain⟨dl,b,p,G,h⟩:=h;have h3:=h.af f13;have e3:=e2.af f3;refine ae.ah e3 (x:=m.day) rfl (ae.ah h3.aE (x:=l.day) rfl (aa.dec (fun hd=>?_) (fun hd=>?_)))
  ·rw[if_pos hd];exact⟨rfl,bad (show(7:Int)≠0 by decide) f13⟩
  rw[if_neg hd];refine ae.ah e3 (x:=m.day) rfl (az.ah h3.aE (show 0<4 by decide) rfl fun w4 dy f4 s4=>⟨rfl,fun _=>⟨dl,b,p,G,dy,h3.cP.ag f4 (fun k hk q=>(h.nS k hk).2.1 q),h3.wr.ag f4 (fun k hk q=>(h.gf k hk).2.1 q),h3.gj.ag f4 (fun q=>h.pf.2 q),fun k hk=>⟨.inl (h.nS k hk).1,(h.nS k hk).2⟩,fun k hk=>⟨.inl (h.gf k hk).1,(h.gf k hk).2⟩,⟨.inl h.pf.1,h.pf.2⟩,.inl h.mem⟩,?_⟩);exact(f13.mono fun _ _ t=>t.elim).comp f4 fun k _ q=>by have:k=g:=q;rw[this];exact h.mem
 have hk:m.kind≠5:=hk;rw[if_neg hk];exact⟨rfl,fun _=>h2.mono fun k hk=>.inl hk,f12.mono fun _ _ t=>t.elim⟩
theorem DL {w:World}{F:Nat->Prop}{g:Nat}{l:cH}(h:et w F g l)(ho:mO l)(m:aT)(hm:aK m.t<=1000000)(ht:TabW w)(eP:Int):
  Ret Tryz.prog 98 #[.pointer (some ⟨g,0,none⟩),ix m.e,.int .i64 eP] w fun r w'=>r=.int .i64 (jU l m eP)/\Fr none1 w w':=by
 have kX:=ho.num;refine c98 _ m.e eP w _ ?_;unfold C98 jU;refine ak.of fun g1 w1 dp au f1 _=>aD.of fun w2 _ f2=>aV.of (fun k=>k=g1) ?_;have e2:lv w2 g1 m:=f2.af au;have f12:=f1.trans f2;refine⟨rfl,aq.aE (cks:=iu) (x:=m.e) e2 ?_⟩;refine ab.of (DH (h.af f12) (by omega)) ?_;rintro _ w3 ⟨c,rfl,hc,f3⟩;refine⟨some ⟨c,0,none⟩,rfl,ai.of f3 ?_⟩;refine ab.of (P6 hc (fun k hk=>hk.2) ho m hm (ht.af (f12.trans f3)) eP) ?_;rintro _ w4 ⟨rfl,_,f4⟩;exact⟨_,rfl,ai.on f4 (fun k hk q=>by have:=q.1;have:=f2.size;have:=bL au;omega) ⟨rfl,(f12.trans f3).comp f4 fun k hk q=>by have:=q.1;have:=f12.size;omega⟩⟩
theorem aaU {w:World}{F:Nat->Prop}{g:Nat}{l:cH}(h:et w F g l)(hF:∀ k,F k->k<w.heap.size)(ho:mO l)(m:aT)(hm:aK m.t<=1000000)(ht:TabW w)(eP:Int):
  Ret Tryz.prog 190 #[.pointer (some ⟨g,0,none⟩),ix m.e,.int .i64 eP] w fun r w'=>r=.int .i64 (iQ l m eP).2/\et w' (fun k=>F k\/cE w w' k) g (iQ l m eP).1/\Fr (only g) w w':=by
 have kX:=ho.num;refine c190 _ m.e eP w _ ?_;unfold C190;refine ak.of fun g1 w1 dp au f1 _=>?_;have e1:lv w1 g1 m:=au;refine ab.of (DH (h.af f1) (by omega)) ?_;rintro _ w2 ⟨c,rfl,hc,f2⟩;have f12:=f1.trans f2;refine⟨some ⟨c,0,none⟩,rfl,aq.aE (cks:=iu) (x:=m.e) (e1.af f2) ?_⟩;refine ab.of (P6 hc (fun k hk=>hk.2) ho m hm (ht.af f12) eP) ?_;rintro _ w3 ⟨rfl,h3,f3⟩;have s1:=f1.size;have s2:=f2.size;have s3:=f3.size;have f13:Fr none1 w w3:=f12.comp f3 fun k hk q=>by have:=q.1;omega
 refine⟨_,rfl,aa.eq (fun he=>?_) (fun he=>?_)⟩
 ·have he:(iQ l m eP).2=0:=he
  have h3:=h3 he;generalize(iQ l m eP).1=l2 at *;obtain⟨dl,b,p,G,h3⟩:=h3;obtain⟨dl0,b0,p0,G0,h⟩:=h;have gl:=hF g h.mem;have nw:∀ k,(cE w1 w2 k\/cE w2 w3 k)->w.heap.size<=k/\k<w3.heap.size:=fun k hk=>by rcases hk with q | q<;>exact⟨by have:=q.1;omega,by have:=q.2;omega⟩
  refine aq.aE (cks:=[.int .i64,.aj,.ptr,.map]) (x:=(l2.day,dl,some ⟨b,0,none⟩,some p,())) h3.aE ?_;refine ar.aE (f13.af h.aE) rfl rfl fun w4 dy f4 s4=>?_;refine⟨rfl,⟨dl,b,p,G,dy,h3.cP.ag f4 (fun k hk q=>?_),h3.wr.ag f4 (fun k hk q=>?_),h3.gj.ag f4 (fun q=>?_),fun k hk=>?_,fun k hk=>?_,?_,.inl h.mem⟩,f13.eL f4⟩
  ·have:=nw k (h3.nS k hk).1;have:k=g:=q;omega
  ·have:=nw k (h3.gf k hk).1;have:k=g:=q;omega
  ·have:=nw p h3.pf.1;have:p=g:=q;omega
  ·have q:=nw k (h3.nS k hk).1
   exact⟨.inr ⟨q.1,by omega⟩,by omega,(h3.nS k hk).2.2⟩
  ·have q:=nw k (h3.gf k hk).1
   exact⟨.inr ⟨q.1,by omega⟩,by omega,(h3.gf k hk).2.2⟩
  ·have q:=nw p h3.pf.1
   exact⟨.inr ⟨q.1,by omega⟩,by omega⟩
 ·have he:(iQ l m eP).2≠0:=he
  rw[UQ he];exact⟨rfl,(h.af f13).mono fun k hk=>.inl hk,f13.mono fun _ _ t=>t.elim⟩
theorem aaV {kb:List UInt8}(hk:kb.length=16)(l hd z:Sl):(mU kb l hd).toArray.setIfInBounds 16 (.slice z.1 z.2.1 z.2.2)=(mU kb z hd).toArray:=by
 apply Array.ext';unfold mU;have:=kK (kb:=kb);rw[Array.toList_setIfInBounds,List.set_append_right _ _ (by omega)];simp[this,hk]
theorem aaW {kb:List UInt8}(hk:kb.length=16)(l hd z:Sl):(mU kb l hd).toArray.setIfInBounds 17 (.slice z.1 z.2.1 z.2.2)=(mU kb l z).toArray:=by
 apply Array.ext';unfold mU;have:=kK (kb:=kb);rw[Array.toList_setIfInBounds,List.set_append_right _ _ (by omega)];simp[this,hk]
theorem P7 {kb:List UInt8}(hk:kb.length=16)(l hd:Sl):(mU kb l hd).toArray.size=18:=by
 unfold mU;have:=kK (kb:=kb);simp[this,hk]
def ui (kb:List UInt8)(es:List fw)(hs:List Int)(x:fw):Int:=if 64<=es.length then 5 else(fX kb (hs.getD es.length 0) x).2
theorem aaX {w:World}{F:Nat->Prop}{c:Nat}{kb:List UInt8}{es:List fw}{hs:List Int}(hk:kb.length=16)(h:jG w F c kb es hs)(hF:∀ k,F k->k<w.heap.size)(hl:hs.length=es.length+1)(qO:es.length<=1000)(hr:∀ n∈hs,0<=n/\n<18446744073709551616)
  {x:fw} (hx:dH x.1) (ht:TabW w) :
  Ret Tryz.prog 189 #[.pointer (some ⟨c,0,none⟩),.agg (jq x).toArray] w fun r w'=>r=.int .i64 (ui kb es hs x)/\(ui kb es hs x=0->jG w' (fun k=>F k\/cE w w' k) c kb (es++[x]) (hs++[(fX kb (hs.getD es.length 0) x).1]))/\Fr (only c) w w':=by
 have hR:=h;obtain⟨⟨l,hd,h1,h2,h3,h4,h5⟩,hm⟩:=h;refine c189 _ (lh x.1.e x.2) w _ ?_;unfold C189 ui;refine ak.of fun g1 wa dp au fa _=>?_;have e2:=h2.len;rw[pC] at e2;have bad:∀ {w':World} {n:Int} {P:Prop},n≠0->Fr none1 w w'->(n=0->P)/\Fr (only c) w w':=fun hn f=>⟨fun t=>absurd t hn,f.mono fun _ _ t=>t.elim⟩;refine ae.ah (fa.af h1) (x:=l) (by rw[Nat.zero_add];exact(qB hk l hd).1) (aa.dec (fun Jl=>?_) (fun Jl=>?_))
 ·rw[if_pos (by omega)];exact⟨rfl,bad (by decide) fa⟩
 rw[if_neg (by omega)];refine aD.of fun wb _ fb=>aV.all ?_;have A5:=fa.trans fb;refine av.all (PU hk (A5.af h1) (av.all (aq.aE (cks:=nF) (x:=lh x.1.e x.2) (fb.af au) ?_)));refine ab.of (DD hk (hR.af A5) hl qO) ?_;have hh:0<=hs.getD es.length 0/\hs.getD es.length 0<18446744073709551616:=by
  rw[List.getD_eq_getElem?_getD,List.getElem?_eq_getElem (show es.length<hs.length by omega)];exact hr _ (List.getElem_mem _)
 generalize hs.getD es.length 0=zN at *;rintro _ wc ⟨rfl,fc⟩;refine⟨_,rfl,ai.of fc ?_⟩;refine ab.of (Jd hk hh.1 hh.2 hx (ht.af (A5.trans fc))) ?_;rintro _ wd ⟨rfl,fd⟩;generalize fX kb zN x=N at *;obtain⟨n,e⟩:=N;refine⟨(n,e,()),rfl,aa.ne (fun ay=>⟨rfl,bad ay ((A5.trans fc).trans fd)⟩) (fun he=>?_)⟩;have he:e=0:=he;subst he;refine aD.of fun w0 _ fe=>aV.of (fun k=>k<w0.heap.size) ?_;have f0:Fr none1 w w0:=((A5.trans fc).trans fd).trans fe;have hc:=f0.af h1;have HL:=h2.af f0;have HH:=h3.af f0;have z0:=f0.size;have eH:=bL hc;have sr:=((fc.trans fd).trans fe).af (fb.af au);have l0:=bL sr;have BL:∀ k,aw l k->k<w0.heap.size:=fun k hk=>aF.lt HL hk;have BH:∀ k,aw hd k->k<w0.heap.size:=fun k hk=>aF.lt HH hk;have e3:=h3.len;rw[List.length_map,Nat.mul_one] at e3;refine⟨by rw[dT];exact eH,ae.ah hc (x:=l) (by rw[Nat.zero_add];exact(qB hk l hd).1) ⟨l0,aq.aE (cks:=nF) (x:=lh x.1.e x.2) sr ⟨by rw[dT];exact eH,ae.ah hc (x:=hd) (by rw[Nat.zero_add];exact(qB hk l hd).2) ?_⟩⟩⟩;have fin:∀ {w9:World} {z q:Sl},Fr none1 w0 w9->w9.heap[c]? = some (.cells (mU kb l hd).toArray 142 (0,0))->aF w9 110 9 z (rv es++jq x)->aF w9 40 1 q (hs.map Jb++[.int .u64 n])->(∀ k,aw z k->w0.heap.size<=k)->(∀ k,aw q k->w0.heap.size<=k) ->
   az ((⟨c,0,none⟩:Addr).add 16) (.slice z.1 z.2.1 z.2.2) w9 fun aG=>az ((⟨c,0,none⟩:Addr).add 17) (.slice q.1 q.2.1 q.2.2) aG fun aO=>(Value.int .i64 0=.int .i64 0/\((0:Int)=0->jG aO (fun k=>F k\/cE w aO k) c kb (es++[x]) (hs++[n]))/\Fr (only c) w aO):=by
  intro w9 z q f9 hc9 hz hq zb qb;refine az.ah hc9 (by rw[P7 hk];decide) rfl fun aG lK f10 sD=>?_;rw[Nat.zero_add,aaV hk] at lK;refine az.ah lK (by rw[P7 hk];decide) rfl fun aO qm f11 AV=>?_;rw[Nat.zero_add,aaW hk] at qm;have ff:=f10.trans f11;have s9:=f9.size;refine⟨rfl,fun _=>⟨⟨z,q,qm,?_,?_,fun k fG=>?_,fun k fG=>?_⟩,.inl hm⟩,(f0.trans f9).eL ff⟩
  ·have:rv (es++[x])=rv es++jq x:=by unfold rv;simp
   rw[this];exact hz.ag ff fun k fG t=>by have:=zb k fG;have:k=c:=t;omega
  ·rw[List.map_append]
   exact hq.ag ff fun k fG t=>by have:=qb k fG;have:k=c:=t;omega
  ·have:=zb k fG;have:=aF.lt hz fG;exact⟨.inr ⟨by omega,by omega⟩,by omega⟩
  ·have:=qb k fG;have:=aF.lt hq fG;exact⟨.inr ⟨by omega,by omega⟩,by omega⟩
 have FT:=Fr.refl none1 w0;refine⟨?_,?_⟩
 ·skip
  refine ab.of (vS HL.rd (vT _) (by omega)) ?_;rintro _ w1 ⟨u,rfl,Hu,f,xf⟩;refine⟨u,rfl,?_⟩;have s1:=f.size
  try refine ai.of f ?_
  have Bu:∀ k,aw u k->w0.heap.size<=k/\k<w1.heap.size:=fun k hk=>⟨xf k hk,aF.lt Hu hk⟩;have FT:=FT.trans f;have hc:=f.af hc;have HL:=HL.af f;have HH:=HH.af f;refine⟨?_,?_⟩
  ·skip
   obtain⟨y,w2,hr,Hy,iH,f,xf⟩:=mR (P:=Tryz.prog) (w:=w1) nP (jq x) rfl (by decide);refine⟨y,w2,hr,?_⟩;have s2:=f.size
   try refine ai.of f ?_
   have By:∀ k,aw y k->w1.heap.size<=k/\k<w2.heap.size:=fun k hk=>⟨xf k hk,aF.lt Hy hk⟩;have FT:=FT.trans f;have hc:=f.af hc;have HL:=HL.af f;have HH:=HH.af f;have Hu:=Hu.af f;refine⟨?_,?_⟩
   ·skip
    have dk:=Hu.len;rw[pC] at dk;obtain⟨z,w3,hr,Hz,_,f,xf⟩:=gE nP 139 Hu Hy.rd (sN x) (by omega);refine⟨z,w3,hr,?_⟩;have s3:=f.size
    try refine ai.on f (fun k hk t=>by have hk:k<w0.heap.size:=hk;have:=Bu k t;omega) ?_
    have Bz:∀ k,aw z k->(w0.heap.size<=k/\k<w1.heap.size)\/(w2.heap.size<=k/\k<w3.heap.size):=fun k hk=>(xf k hk).elim (fun t=>.inl (Bu k t)) (fun t=>.inr ⟨t,aF.lt Hz hk⟩);have FT:=FT.comp f fun k hk t=>by have:=Bu k t;omega
    have hc:=f.ag hc fun t=>by have:=Bu c t;omega
    have HL:=HL.ag f fun k hk t=>by have:=BL k hk;have:=Bu k t;omega
    have HH:=HH.ag f fun k hk t=>by have:=BH k hk;have:=Bu k t;omega
    refine⟨?_,?_⟩
    ·skip
     refine ab.of (qz HH.rd (qA _) (by omega)) ?_;rintro _ w4 ⟨v,rfl,Hv,f,xf⟩;refine⟨v,rfl,?_⟩;have s4:=f.size
     try refine ai.of f ?_
     have Bv:∀ k,aw v k->w3.heap.size<=k/\k<w4.heap.size:=fun k hk=>⟨xf k hk,aF.lt Hv hk⟩;have FT:=FT.trans f;have hc:=f.af hc;have HL:=HL.af f;have HH:=HH.af f;have Hz:=Hz.af f;obtain⟨p,w5,hr,Hp,oA,f,xf⟩:=lR (P:=Tryz.prog) (w:=w4) j1 (.int .u64 n) rfl;refine⟨p,w5,hr,?_⟩;have s5:=f.size
     try refine ai.of f ?_
     have Bp:∀ k,aw p k->w4.heap.size<=k/\k<w5.heap.size:=fun k hk=>⟨xf k hk,aF.lt Hp hk⟩;have FT:=FT.trans f;have hc:=f.af hc;have HL:=HL.af f;have HH:=HH.af f;have Hz:=Hz.af f;have Hv:=Hv.af f;have cO:=Hv.len;rw[List.length_map,Nat.mul_one] at cO;obtain⟨q,w6,hr,Hq,_,f,xf⟩:=gE j1 140 Hv Hp.rd (by intro t ht;simp at ht;subst ht;rfl) (by omega);refine⟨q,w6,hr,?_⟩;have s6:=f.size
     try refine ai.on f (fun k hk t=>by have hk:k<w0.heap.size:=hk;have:=Bv k t;omega) ?_
     have Bq:∀ k,aw q k->(w3.heap.size<=k/\k<w4.heap.size)\/(w5.heap.size<=k/\k<w6.heap.size):=fun k hk=>(xf k hk).elim (fun t=>.inl (Bv k t)) (fun t=>.inr ⟨t,aF.lt Hq hk⟩);have FT:=FT.comp f fun k hk t=>by have:=Bv k t;omega
     have hc:=f.ag hc fun t=>by have:=Bv c t;omega
     have HL:=HL.ag f fun k hk t=>by have:=BL k hk;have:=Bv k t;omega
     have HH:=HH.ag f fun k hk t=>by have:=BH k hk;have:=Bv k t;omega
     have Hz:=Hz.ag f fun k hk t=>by have:=Bz k hk;have:=Bv k t;omega
     exact fin FT hc Hz Hq (fun k hk=>by have:=Bz k hk;omega) (fun k hk=>by have:=Bq k hk;omega)
    ·skip
     obtain⟨p,w4,hr,Hp,oA,f,xf⟩:=lR (P:=Tryz.prog) (w:=w3) j1 (.int .u64 n) rfl;refine⟨p,w4,hr,?_⟩;have s4:=f.size
     try refine ai.of f ?_
     have Bp:∀ k,aw p k->w3.heap.size<=k/\k<w4.heap.size:=fun k hk=>⟨xf k hk,aF.lt Hp hk⟩;have FT:=FT.trans f;have hc:=f.af hc;have HL:=HL.af f;have HH:=HH.af f;have Hz:=Hz.af f;refine ab.of (qz HH.rd (qA _) (by omega)) ?_;rintro _ w5 ⟨v,rfl,Hv,f,xf⟩;refine⟨v,rfl,?_⟩;have s5:=f.size
     try refine ai.of f ?_
     have Bv:∀ k,aw v k->w4.heap.size<=k/\k<w5.heap.size:=fun k hk=>⟨xf k hk,aF.lt Hv hk⟩;have FT:=FT.trans f;have hc:=f.af hc;have HL:=HL.af f;have HH:=HH.af f;have Hz:=Hz.af f;have Hp:=Hp.af f;have cO:=Hv.len;rw[List.length_map,Nat.mul_one] at cO;obtain⟨q,w6,hr,Hq,_,f,xf⟩:=gE j1 140 Hv Hp.rd (by intro t ht;simp at ht;subst ht;rfl) (by omega);refine⟨q,w6,hr,?_⟩;have s6:=f.size
     try refine ai.on f (fun k hk t=>by have hk:k<w0.heap.size:=hk;have:=Bv k t;omega) ?_
     have Bq:∀ k,aw q k->(w4.heap.size<=k/\k<w5.heap.size)\/(w5.heap.size<=k/\k<w6.heap.size):=fun k hk=>(xf k hk).elim (fun t=>.inl (Bv k t)) (fun t=>.inr ⟨t,aF.lt Hq hk⟩);have FT:=FT.comp f fun k hk t=>by have:=Bv k t;omega
     have hc:=f.ag hc fun t=>by have:=Bv c t;omega
     have HL:=HL.ag f fun k hk t=>by have:=BL k hk;have:=Bv k t;omega
     have HH:=HH.ag f fun k hk t=>by have:=BH k hk;have:=Bv k t;omega
     have Hz:=Hz.ag f fun k hk t=>by have:=Bz k hk;have:=Bv k t;omega
     exact fin FT hc Hz Hq (fun k hk=>by have:=Bz k hk;omega) (fun k hk=>by have:=Bq k hk;omega)
   ·skip
    obtain⟨p,w3,hr,Hp,oA,f,xf⟩:=lR (P:=Tryz.prog) (w:=w2) j1 (.int .u64 n) rfl;refine⟨p,w3,hr,?_⟩;have s3:=f.size
    try refine ai.of f ?_
    have Bp:∀ k,aw p k->w2.heap.size<=k/\k<w3.heap.size:=fun k hk=>⟨xf k hk,aF.lt Hp hk⟩;have FT:=FT.trans f;have hc:=f.af hc;have HL:=HL.af f;have HH:=HH.af f;have Hu:=Hu.af f;have Hy:=Hy.af f;have dk:=Hu.len;rw[pC] at dk;obtain⟨z,w4,hr,Hz,_,f,xf⟩:=gE nP 139 Hu Hy.rd (sN x) (by omega);refine⟨z,w4,hr,?_⟩;have s4:=f.size
    try refine ai.on f (fun k hk t=>by have hk:k<w0.heap.size:=hk;have:=Bu k t;omega) ?_
    have Bz:∀ k,aw z k->(w0.heap.size<=k/\k<w1.heap.size)\/(w3.heap.size<=k/\k<w4.heap.size):=fun k hk=>(xf k hk).elim (fun t=>.inl (Bu k t)) (fun t=>.inr ⟨t,aF.lt Hz hk⟩);have FT:=FT.comp f fun k hk t=>by have:=Bu k t;omega
    have hc:=f.ag hc fun t=>by have:=Bu c t;omega
    have HL:=HL.ag f fun k hk t=>by have:=BL k hk;have:=Bu k t;omega
    have HH:=HH.ag f fun k hk t=>by have:=BH k hk;have:=Bu k t;omega
    have Hp:=Hp.ag f fun k hk t=>by have:=Bp k hk;have:=Bu k t;omega
    refine ab.of (qz HH.rd (qA _) (by omega)) ?_;rintro _ w5 ⟨v,rfl,Hv,f,xf⟩;refine⟨v,rfl,?_⟩;have s5:=f.size
    try refine ai.of f ?_
    have Bv:∀ k,aw v k->w4.heap.size<=k/\k<w5.heap.size:=fun k hk=>⟨xf k hk,aF.lt Hv hk⟩;have FT:=FT.trans f;have hc:=f.af hc;have HL:=HL.af f;have HH:=HH.af f;have Hp:=Hp.af f;have Hz:=Hz.af f;have cO:=Hv.len;rw[List.length_map,Nat.mul_one] at cO;obtain⟨q,w6,hr,Hq,_,f,xf⟩:=gE j1 140 Hv Hp.rd (by intro t ht;simp at ht;subst ht;rfl) (by omega);refine⟨q,w6,hr,?_⟩;have s6:=f.size
    try refine ai.on f (fun k hk t=>by have hk:k<w0.heap.size:=hk;have:=Bv k t;omega) ?_
    have Bq:∀ k,aw q k->(w4.heap.size<=k/\k<w5.heap.size)\/(w5.heap.size<=k/\k<w6.heap.size):=fun k hk=>(xf k hk).elim (fun t=>.inl (Bv k t)) (fun t=>.inr ⟨t,aF.lt Hq hk⟩);have FT:=FT.comp f fun k hk t=>by have:=Bv k t;omega
    have hc:=f.ag hc fun t=>by have:=Bv c t;omega
    have HL:=HL.ag f fun k hk t=>by have:=BL k hk;have:=Bv k t;omega
    have HH:=HH.ag f fun k hk t=>by have:=BH k hk;have:=Bv k t;omega
    have Hz:=Hz.ag f fun k hk t=>by have:=Bz k hk;have:=Bv k t;omega
    exact fin FT hc Hz Hq (fun k hk=>by have:=Bz k hk;omega) (fun k hk=>by have:=Bq k hk;omega)
  ·skip
   obtain⟨p,w2,hr,Hp,oA,f,xf⟩:=lR (P:=Tryz.prog) (w:=w1) j1 (.int .u64 n) rfl;refine⟨p,w2,hr,?_⟩;have s2:=f.size
   try refine ai.of f ?_
   have Bp:∀ k,aw p k->w1.heap.size<=k/\k<w2.heap.size:=fun k hk=>⟨xf k hk,aF.lt Hp hk⟩;have FT:=FT.trans f;have hc:=f.af hc;have HL:=HL.af f;have HH:=HH.af f;have Hu:=Hu.af f;obtain⟨y,w3,hr,Hy,iH,f,xf⟩:=mR (P:=Tryz.prog) (w:=w2) nP (jq x) rfl (by decide);refine⟨y,w3,hr,?_⟩;have s3:=f.size
   try refine ai.of f ?_
   have By:∀ k,aw y k->w2.heap.size<=k/\k<w3.heap.size:=fun k hk=>⟨xf k hk,aF.lt Hy hk⟩;have FT:=FT.trans f;have hc:=f.af hc;have HL:=HL.af f;have HH:=HH.af f;have Hu:=Hu.af f;have Hp:=Hp.af f;have dk:=Hu.len;rw[pC] at dk;obtain⟨z,w4,hr,Hz,_,f,xf⟩:=gE nP 139 Hu Hy.rd (sN x) (by omega);refine⟨z,w4,hr,?_⟩;have s4:=f.size
   try refine ai.on f (fun k hk t=>by have hk:k<w0.heap.size:=hk;have:=Bu k t;omega) ?_
   have Bz:∀ k,aw z k->(w0.heap.size<=k/\k<w1.heap.size)\/(w3.heap.size<=k/\k<w4.heap.size):=fun k hk=>(xf k hk).elim (fun t=>.inl (Bu k t)) (fun t=>.inr ⟨t,aF.lt Hz hk⟩);have FT:=FT.comp f fun k hk t=>by have:=Bu k t;omega
   have hc:=f.ag hc fun t=>by have:=Bu c t;omega
   have HL:=HL.ag f fun k hk t=>by have:=BL k hk;have:=Bu k t;omega
   have HH:=HH.ag f fun k hk t=>by have:=BH k hk;have:=Bu k t;omega
   have Hp:=Hp.ag f fun k hk t=>by have:=Bp k hk;have:=Bu k t;omega
   refine ab.of (qz HH.rd (qA _) (by omega)) ?_;rintro _ w5 ⟨v,rfl,Hv,f,xf⟩;refine⟨v,rfl,?_⟩;have s5:=f.size
   try refine ai.of f ?_
   have Bv:∀ k,aw v k->w4.heap.size<=k/\k<w5.heap.size:=fun k hk=>⟨xf k hk,aF.lt Hv hk⟩;have FT:=FT.trans f;have hc:=f.af hc;have HL:=HL.af f;have HH:=HH.af f;have Hp:=Hp.af f;have Hz:=Hz.af f;have cO:=Hv.len;rw[List.length_map,Nat.mul_one] at cO;obtain⟨q,w6,hr,Hq,_,f,xf⟩:=gE j1 140 Hv Hp.rd (by intro t ht;simp at ht;subst ht;rfl) (by omega);refine⟨q,w6,hr,?_⟩;have s6:=f.size
   try refine ai.on f (fun k hk t=>by have hk:k<w0.heap.size:=hk;have:=Bv k t;omega) ?_
   have Bq:∀ k,aw q k->(w4.heap.size<=k/\k<w5.heap.size)\/(w5.heap.size<=k/\k<w6.heap.size):=fun k hk=>(xf k hk).elim (fun t=>.inl (Bv k t)) (fun t=>.inr ⟨t,aF.lt Hq hk⟩);have FT:=FT.comp f fun k hk t=>by have:=Bv k t;omega
   have hc:=f.ag hc fun t=>by have:=Bv c t;omega
   have HL:=HL.ag f fun k hk t=>by have:=BL k hk;have:=Bv k t;omega
   have HH:=HH.ag f fun k hk t=>by have:=BH k hk;have:=Bv k t;omega
   have Hz:=Hz.ag f fun k hk t=>by have:=Bz k hk;have:=Bv k t;omega
   exact fin FT hc Hz Hq (fun k hk=>by have:=Bz k hk;omega) (fun k hk=>by have:=Bq k hk;omega)
 ·skip
  refine⟨?_,?_⟩
  ·skip
   obtain⟨y,w1,hr,Hy,iH,f,xf⟩:=mR (P:=Tryz.prog) (w:=w0) nP (jq x) rfl (by decide);refine⟨y,w1,hr,?_⟩;have s1:=f.size
   try refine ai.of f ?_
   have By:∀ k,aw y k->w0.heap.size<=k/\k<w1.heap.size:=fun k hk=>⟨xf k hk,aF.lt Hy hk⟩;have FT:=FT.trans f;have hc:=f.af hc;have HL:=HL.af f;have HH:=HH.af f;refine⟨?_,?_⟩
   ·skip
    refine ab.of (vS HL.rd (vT _) (by omega)) ?_;rintro _ w2 ⟨u,rfl,Hu,f,xf⟩;refine⟨u,rfl,?_⟩;have s2:=f.size
    try refine ai.of f ?_
    have Bu:∀ k,aw u k->w1.heap.size<=k/\k<w2.heap.size:=fun k hk=>⟨xf k hk,aF.lt Hu hk⟩;have FT:=FT.trans f;have hc:=f.af hc;have HL:=HL.af f;have HH:=HH.af f;have Hy:=Hy.af f;refine⟨?_,?_⟩
    ·skip
     have dk:=Hu.len;rw[pC] at dk;obtain⟨z,w3,hr,Hz,_,f,xf⟩:=gE nP 139 Hu Hy.rd (sN x) (by omega);refine⟨z,w3,hr,?_⟩;have s3:=f.size
     try refine ai.on f (fun k hk t=>by have hk:k<w0.heap.size:=hk;have:=Bu k t;omega) ?_
     have Bz:∀ k,aw z k->(w1.heap.size<=k/\k<w2.heap.size)\/(w2.heap.size<=k/\k<w3.heap.size):=fun k hk=>(xf k hk).elim (fun t=>.inl (Bu k t)) (fun t=>.inr ⟨t,aF.lt Hz hk⟩);have FT:=FT.comp f fun k hk t=>by have:=Bu k t;omega
     have hc:=f.ag hc fun t=>by have:=Bu c t;omega
     have HL:=HL.ag f fun k hk t=>by have:=BL k hk;have:=Bu k t;omega
     have HH:=HH.ag f fun k hk t=>by have:=BH k hk;have:=Bu k t;omega
     refine⟨?_,?_⟩
     ·skip
      refine ab.of (qz HH.rd (qA _) (by omega)) ?_;rintro _ w4 ⟨v,rfl,Hv,f,xf⟩;refine⟨v,rfl,?_⟩;have s4:=f.size
      try refine ai.of f ?_
      have Bv:∀ k,aw v k->w3.heap.size<=k/\k<w4.heap.size:=fun k hk=>⟨xf k hk,aF.lt Hv hk⟩;have FT:=FT.trans f;have hc:=f.af hc;have HL:=HL.af f;have HH:=HH.af f;have Hz:=Hz.af f;obtain⟨p,w5,hr,Hp,oA,f,xf⟩:=lR (P:=Tryz.prog) (w:=w4) j1 (.int .u64 n) rfl;refine⟨p,w5,hr,?_⟩;have s5:=f.size
      try refine ai.of f ?_
      have Bp:∀ k,aw p k->w4.heap.size<=k/\k<w5.heap.size:=fun k hk=>⟨xf k hk,aF.lt Hp hk⟩;have FT:=FT.trans f;have hc:=f.af hc;have HL:=HL.af f;have HH:=HH.af f;have Hz:=Hz.af f;have Hv:=Hv.af f;have cO:=Hv.len;rw[List.length_map,Nat.mul_one] at cO;obtain⟨q,w6,hr,Hq,_,f,xf⟩:=gE j1 140 Hv Hp.rd (by intro t ht;simp at ht;subst ht;rfl) (by omega);refine⟨q,w6,hr,?_⟩;have s6:=f.size
      try refine ai.on f (fun k hk t=>by have hk:k<w0.heap.size:=hk;have:=Bv k t;omega) ?_
      have Bq:∀ k,aw q k->(w3.heap.size<=k/\k<w4.heap.size)\/(w5.heap.size<=k/\k<w6.heap.size):=fun k hk=>(xf k hk).elim (fun t=>.inl (Bv k t)) (fun t=>.inr ⟨t,aF.lt Hq hk⟩);have FT:=FT.comp f fun k hk t=>by have:=Bv k t;omega
      have hc:=f.ag hc fun t=>by have:=Bv c t;omega
      have HL:=HL.ag f fun k hk t=>by have:=BL k hk;have:=Bv k t;omega
      have HH:=HH.ag f fun k hk t=>by have:=BH k hk;have:=Bv k t;omega
      have Hz:=Hz.ag f fun k hk t=>by have:=Bz k hk;have:=Bv k t;omega
      exact fin FT hc Hz Hq (fun k hk=>by have:=Bz k hk;omega) (fun k hk=>by have:=Bq k hk;omega)
     ·skip
      obtain⟨p,w4,hr,Hp,oA,f,xf⟩:=lR (P:=Tryz.prog) (w:=w3) j1 (.int .u64 n) rfl;refine⟨p,w4,hr,?_⟩;have s4:=f.size
      try refine ai.of f ?_
      have Bp:∀ k,aw p k->w3.heap.size<=k/\k<w4.heap.size:=fun k hk=>⟨xf k hk,aF.lt Hp hk⟩;have FT:=FT.trans f;have hc:=f.af hc;have HL:=HL.af f;have HH:=HH.af f;have Hz:=Hz.af f;refine ab.of (qz HH.rd (qA _) (by omega)) ?_;rintro _ w5 ⟨v,rfl,Hv,f,xf⟩;refine⟨v,rfl,?_⟩;have s5:=f.size
      try refine ai.of f ?_
      have Bv:∀ k,aw v k->w4.heap.size<=k/\k<w5.heap.size:=fun k hk=>⟨xf k hk,aF.lt Hv hk⟩;have FT:=FT.trans f;have hc:=f.af hc;have HL:=HL.af f;have HH:=HH.af f;have Hz:=Hz.af f;have Hp:=Hp.af f;have cO:=Hv.len;rw[List.length_map,Nat.mul_one] at cO;obtain⟨q,w6,hr,Hq,_,f,xf⟩:=gE j1 140 Hv Hp.rd (by intro t ht;simp at ht;subst ht;rfl) (by omega);refine⟨q,w6,hr,?_⟩;have s6:=f.size
      try refine ai.on f (fun k hk t=>by have hk:k<w0.heap.size:=hk;have:=Bv k t;omega) ?_
      have Bq:∀ k,aw q k->(w4.heap.size<=k/\k<w5.heap.size)\/(w5.heap.size<=k/\k<w6.heap.size):=fun k hk=>(xf k hk).elim (fun t=>.inl (Bv k t)) (fun t=>.inr ⟨t,aF.lt Hq hk⟩);have FT:=FT.comp f fun k hk t=>by have:=Bv k t;omega
      have hc:=f.ag hc fun t=>by have:=Bv c t;omega
      have HL:=HL.ag f fun k hk t=>by have:=BL k hk;have:=Bv k t;omega
      have HH:=HH.ag f fun k hk t=>by have:=BH k hk;have:=Bv k t;omega
      have Hz:=Hz.ag f fun k hk t=>by have:=Bz k hk;have:=Bv k t;omega
      exact fin FT hc Hz Hq (fun k hk=>by have:=Bz k hk;omega) (fun k hk=>by have:=Bq k hk;omega)
    ·skip
     obtain⟨p,w3,hr,Hp,oA,f,xf⟩:=lR (P:=Tryz.prog) (w:=w2) j1 (.int .u64 n) rfl;refine⟨p,w3,hr,?_⟩;have s3:=f.size
     try refine ai.of f ?_
     have Bp:∀ k,aw p k->w2.heap.size<=k/\k<w3.heap.size:=fun k hk=>⟨xf k hk,aF.lt Hp hk⟩;have FT:=FT.trans f;have hc:=f.af hc;have HL:=HL.af f;have HH:=HH.af f;have Hy:=Hy.af f;have Hu:=Hu.af f;have dk:=Hu.len;rw[pC] at dk;obtain⟨z,w4,hr,Hz,_,f,xf⟩:=gE nP 139 Hu Hy.rd (sN x) (by omega);refine⟨z,w4,hr,?_⟩;have s4:=f.size
     try refine ai.on f (fun k hk t=>by have hk:k<w0.heap.size:=hk;have:=Bu k t;omega) ?_
     have Bz:∀ k,aw z k->(w1.heap.size<=k/\k<w2.heap.size)\/(w3.heap.size<=k/\k<w4.heap.size):=fun k hk=>(xf k hk).elim (fun t=>.inl (Bu k t)) (fun t=>.inr ⟨t,aF.lt Hz hk⟩);have FT:=FT.comp f fun k hk t=>by have:=Bu k t;omega
     have hc:=f.ag hc fun t=>by have:=Bu c t;omega
     have HL:=HL.ag f fun k hk t=>by have:=BL k hk;have:=Bu k t;omega
     have HH:=HH.ag f fun k hk t=>by have:=BH k hk;have:=Bu k t;omega
     have Hp:=Hp.ag f fun k hk t=>by have:=Bp k hk;have:=Bu k t;omega
     refine ab.of (qz HH.rd (qA _) (by omega)) ?_;rintro _ w5 ⟨v,rfl,Hv,f,xf⟩;refine⟨v,rfl,?_⟩;have s5:=f.size
     try refine ai.of f ?_
     have Bv:∀ k,aw v k->w4.heap.size<=k/\k<w5.heap.size:=fun k hk=>⟨xf k hk,aF.lt Hv hk⟩;have FT:=FT.trans f;have hc:=f.af hc;have HL:=HL.af f;have HH:=HH.af f;have Hp:=Hp.af f;have Hz:=Hz.af f;have cO:=Hv.len;rw[List.length_map,Nat.mul_one] at cO;obtain⟨q,w6,hr,Hq,_,f,xf⟩:=gE j1 140 Hv Hp.rd (by intro t ht;simp at ht;subst ht;rfl) (by omega);refine⟨q,w6,hr,?_⟩;have s6:=f.size
     try refine ai.on f (fun k hk t=>by have hk:k<w0.heap.size:=hk;have:=Bv k t;omega) ?_
     have Bq:∀ k,aw q k->(w4.heap.size<=k/\k<w5.heap.size)\/(w5.heap.size<=k/\k<w6.heap.size):=fun k hk=>(xf k hk).elim (fun t=>.inl (Bv k t)) (fun t=>.inr ⟨t,aF.lt Hq hk⟩);have FT:=FT.comp f fun k hk t=>by have:=Bv k t;omega
     have hc:=f.ag hc fun t=>by have:=Bv c t;omega
     have HL:=HL.ag f fun k hk t=>by have:=BL k hk;have:=Bv k t;omega
     have HH:=HH.ag f fun k hk t=>by have:=BH k hk;have:=Bv k t;omega
     have Hz:=Hz.ag f fun k hk t=>by have:=Bz k hk;have:=Bv k t;omega
     exact fin FT hc Hz Hq (fun k hk=>by have:=Bz k hk;omega) (fun k hk=>by have:=Bq k hk;omega)
   ·skip
    obtain⟨p,w2,hr,Hp,oA,f,xf⟩:=lR (P:=Tryz.prog) (w:=w1) j1 (.int .u64 n) rfl;refine⟨p,w2,hr,?_⟩;have s2:=f.size
    try refine ai.of f ?_
    have Bp:∀ k,aw p k->w1.heap.size<=k/\k<w2.heap.size:=fun k hk=>⟨xf k hk,aF.lt Hp hk⟩;have FT:=FT.trans f;have hc:=f.af hc;have HL:=HL.af f;have HH:=HH.af f;have Hy:=Hy.af f;refine ab.of (vS HL.rd (vT _) (by omega)) ?_;rintro _ w3 ⟨u,rfl,Hu,f,xf⟩;refine⟨u,rfl,?_⟩;have s3:=f.size
    try refine ai.of f ?_
    have Bu:∀ k,aw u k->w2.heap.size<=k/\k<w3.heap.size:=fun k hk=>⟨xf k hk,aF.lt Hu hk⟩;have FT:=FT.trans f;have hc:=f.af hc;have HL:=HL.af f;have HH:=HH.af f;have Hy:=Hy.af f;have Hp:=Hp.af f;have dk:=Hu.len;rw[pC] at dk;obtain⟨z,w4,hr,Hz,_,f,xf⟩:=gE nP 139 Hu Hy.rd (sN x) (by omega);refine⟨z,w4,hr,?_⟩;have s4:=f.size
    try refine ai.on f (fun k hk t=>by have hk:k<w0.heap.size:=hk;have:=Bu k t;omega) ?_
    have Bz:∀ k,aw z k->(w2.heap.size<=k/\k<w3.heap.size)\/(w3.heap.size<=k/\k<w4.heap.size):=fun k hk=>(xf k hk).elim (fun t=>.inl (Bu k t)) (fun t=>.inr ⟨t,aF.lt Hz hk⟩);have FT:=FT.comp f fun k hk t=>by have:=Bu k t;omega
    have hc:=f.ag hc fun t=>by have:=Bu c t;omega
    have HL:=HL.ag f fun k hk t=>by have:=BL k hk;have:=Bu k t;omega
    have HH:=HH.ag f fun k hk t=>by have:=BH k hk;have:=Bu k t;omega
    have Hp:=Hp.ag f fun k hk t=>by have:=Bp k hk;have:=Bu k t;omega
    refine ab.of (qz HH.rd (qA _) (by omega)) ?_;rintro _ w5 ⟨v,rfl,Hv,f,xf⟩;refine⟨v,rfl,?_⟩;have s5:=f.size
    try refine ai.of f ?_
    have Bv:∀ k,aw v k->w4.heap.size<=k/\k<w5.heap.size:=fun k hk=>⟨xf k hk,aF.lt Hv hk⟩;have FT:=FT.trans f;have hc:=f.af hc;have HL:=HL.af f;have HH:=HH.af f;have Hp:=Hp.af f;have Hz:=Hz.af f;have cO:=Hv.len;rw[List.length_map,Nat.mul_one] at cO;obtain⟨q,w6,hr,Hq,_,f,xf⟩:=gE j1 140 Hv Hp.rd (by intro t ht;simp at ht;subst ht;rfl) (by omega);refine⟨q,w6,hr,?_⟩;have s6:=f.size
    try refine ai.on f (fun k hk t=>by have hk:k<w0.heap.size:=hk;have:=Bv k t;omega) ?_
    have Bq:∀ k,aw q k->(w4.heap.size<=k/\k<w5.heap.size)\/(w5.heap.size<=k/\k<w6.heap.size):=fun k hk=>(xf k hk).elim (fun t=>.inl (Bv k t)) (fun t=>.inr ⟨t,aF.lt Hq hk⟩);have FT:=FT.comp f fun k hk t=>by have:=Bv k t;omega
    have hc:=f.ag hc fun t=>by have:=Bv c t;omega
    have HL:=HL.ag f fun k hk t=>by have:=BL k hk;have:=Bv k t;omega
    have HH:=HH.ag f fun k hk t=>by have:=BH k hk;have:=Bv k t;omega
    have Hz:=Hz.ag f fun k hk t=>by have:=Bz k hk;have:=Bv k t;omega
    exact fin FT hc Hz Hq (fun k hk=>by have:=Bz k hk;omega) (fun k hk=>by have:=Bq k hk;omega)
  ·skip
   obtain⟨p,w1,hr,Hp,oA,f,xf⟩:=lR (P:=Tryz.prog) (w:=w0) j1 (.int .u64 n) rfl;refine⟨p,w1,hr,?_⟩;have s1:=f.size
   try refine ai.of f ?_
   have Bp:∀ k,aw p k->w0.heap.size<=k/\k<w1.heap.size:=fun k hk=>⟨xf k hk,aF.lt Hp hk⟩;have FT:=FT.trans f;have hc:=f.af hc;have HL:=HL.af f;have HH:=HH.af f;refine⟨?_,?_⟩
   ·skip
    refine ab.of (vS HL.rd (vT _) (by omega)) ?_;rintro _ w2 ⟨u,rfl,Hu,f,xf⟩;refine⟨u,rfl,?_⟩;have s2:=f.size
    try refine ai.of f ?_
    have Bu:∀ k,aw u k->w1.heap.size<=k/\k<w2.heap.size:=fun k hk=>⟨xf k hk,aF.lt Hu hk⟩;have FT:=FT.trans f;have hc:=f.af hc;have HL:=HL.af f;have HH:=HH.af f;have Hp:=Hp.af f;obtain⟨y,w3,hr,Hy,iH,f,xf⟩:=mR (P:=Tryz.prog) (w:=w2) nP (jq x) rfl (by decide);refine⟨y,w3,hr,?_⟩;have s3:=f.size
    try refine ai.of f ?_
    have By:∀ k,aw y k->w2.heap.size<=k/\k<w3.heap.size:=fun k hk=>⟨xf k hk,aF.lt Hy hk⟩;have FT:=FT.trans f;have hc:=f.af hc;have HL:=HL.af f;have HH:=HH.af f;have Hp:=Hp.af f;have Hu:=Hu.af f;have dk:=Hu.len;rw[pC] at dk;obtain⟨z,w4,hr,Hz,_,f,xf⟩:=gE nP 139 Hu Hy.rd (sN x) (by omega);refine⟨z,w4,hr,?_⟩;have s4:=f.size
    try refine ai.on f (fun k hk t=>by have hk:k<w0.heap.size:=hk;have:=Bu k t;omega) ?_
    have Bz:∀ k,aw z k->(w1.heap.size<=k/\k<w2.heap.size)\/(w3.heap.size<=k/\k<w4.heap.size):=fun k hk=>(xf k hk).elim (fun t=>.inl (Bu k t)) (fun t=>.inr ⟨t,aF.lt Hz hk⟩);have FT:=FT.comp f fun k hk t=>by have:=Bu k t;omega
    have hc:=f.ag hc fun t=>by have:=Bu c t;omega
    have HL:=HL.ag f fun k hk t=>by have:=BL k hk;have:=Bu k t;omega
    have HH:=HH.ag f fun k hk t=>by have:=BH k hk;have:=Bu k t;omega
    have Hp:=Hp.ag f fun k hk t=>by have:=Bp k hk;have:=Bu k t;omega
    refine ab.of (qz HH.rd (qA _) (by omega)) ?_;rintro _ w5 ⟨v,rfl,Hv,f,xf⟩;refine⟨v,rfl,?_⟩;have s5:=f.size
    try refine ai.of f ?_
    have Bv:∀ k,aw v k->w4.heap.size<=k/\k<w5.heap.size:=fun k hk=>⟨xf k hk,aF.lt Hv hk⟩;have FT:=FT.trans f;have hc:=f.af hc;have HL:=HL.af f;have HH:=HH.af f;have Hp:=Hp.af f;have Hz:=Hz.af f;have cO:=Hv.len;rw[List.length_map,Nat.mul_one] at cO;obtain⟨q,w6,hr,Hq,_,f,xf⟩:=gE j1 140 Hv Hp.rd (by intro t ht;simp at ht;subst ht;rfl) (by omega);refine⟨q,w6,hr,?_⟩;have s6:=f.size
    try refine ai.on f (fun k hk t=>by have hk:k<w0.heap.size:=hk;have:=Bv k t;omega) ?_
    have Bq:∀ k,aw q k->(w4.heap.size<=k/\k<w5.heap.size)\/(w5.heap.size<=k/\k<w6.heap.size):=fun k hk=>(xf k hk).elim (fun t=>.inl (Bv k t)) (fun t=>.inr ⟨t,aF.lt Hq hk⟩);have FT:=FT.comp f fun k hk t=>by have:=Bv k t;omega
    have hc:=f.ag hc fun t=>by have:=Bv c t;omega
    have HL:=HL.ag f fun k hk t=>by have:=BL k hk;have:=Bv k t;omega
    have HH:=HH.ag f fun k hk t=>by have:=BH k hk;have:=Bv k t;omega
    have Hz:=Hz.ag f fun k hk t=>by have:=Bz k hk;have:=Bv k t;omega
    exact fin FT hc Hz Hq (fun k hk=>by have:=Bz k hk;omega) (fun k hk=>by have:=Bq k hk;omega)
   ·skip
    obtain⟨y,w2,hr,Hy,iH,f,xf⟩:=mR (P:=Tryz.prog) (w:=w1) nP (jq x) rfl (by decide);refine⟨y,w2,hr,?_⟩;have s2:=f.size
    try refine ai.of f ?_
    have By:∀ k,aw y k->w1.heap.size<=k/\k<w2.heap.size:=fun k hk=>⟨xf k hk,aF.lt Hy hk⟩;have FT:=FT.trans f;have hc:=f.af hc;have HL:=HL.af f;have HH:=HH.af f;have Hp:=Hp.af f;refine ab.of (vS HL.rd (vT _) (by omega)) ?_;rintro _ w3 ⟨u,rfl,Hu,f,xf⟩;refine⟨u,rfl,?_⟩;have s3:=f.size
    try refine ai.of f ?_
    have Bu:∀ k,aw u k->w2.heap.size<=k/\k<w3.heap.size:=fun k hk=>⟨xf k hk,aF.lt Hu hk⟩;have FT:=FT.trans f;have hc:=f.af hc;have HL:=HL.af f;have HH:=HH.af f;have Hp:=Hp.af f;have Hy:=Hy.af f;have dk:=Hu.len;rw[pC] at dk;obtain⟨z,w4,hr,Hz,_,f,xf⟩:=gE nP 139 Hu Hy.rd (sN x) (by omega);refine⟨z,w4,hr,?_⟩;have s4:=f.size
    try refine ai.on f (fun k hk t=>by have hk:k<w0.heap.size:=hk;have:=Bu k t;omega) ?_
    have Bz:∀ k,aw z k->(w2.heap.size<=k/\k<w3.heap.size)\/(w3.heap.size<=k/\k<w4.heap.size):=fun k hk=>(xf k hk).elim (fun t=>.inl (Bu k t)) (fun t=>.inr ⟨t,aF.lt Hz hk⟩);have FT:=FT.comp f fun k hk t=>by have:=Bu k t;omega
    have hc:=f.ag hc fun t=>by have:=Bu c t;omega
    have HL:=HL.ag f fun k hk t=>by have:=BL k hk;have:=Bu k t;omega
    have HH:=HH.ag f fun k hk t=>by have:=BH k hk;have:=Bu k t;omega
    have Hp:=Hp.ag f fun k hk t=>by have:=Bp k hk;have:=Bu k t;omega
    refine ab.of (qz HH.rd (qA _) (by omega)) ?_;rintro _ w5 ⟨v,rfl,Hv,f,xf⟩;refine⟨v,rfl,?_⟩;have s5:=f.size
    try refine ai.of f ?_
    have Bv:∀ k,aw v k->w4.heap.size<=k/\k<w5.heap.size:=fun k hk=>⟨xf k hk,aF.lt Hv hk⟩;have FT:=FT.trans f;have hc:=f.af hc;have HL:=HL.af f;have HH:=HH.af f;have Hp:=Hp.af f;have Hz:=Hz.af f;have cO:=Hv.len;rw[List.length_map,Nat.mul_one] at cO;obtain⟨q,w6,hr,Hq,_,f,xf⟩:=gE j1 140 Hv Hp.rd (by intro t ht;simp at ht;subst ht;rfl) (by omega);refine⟨q,w6,hr,?_⟩;have s6:=f.size
    try refine ai.on f (fun k hk t=>by have hk:k<w0.heap.size:=hk;have:=Bv k t;omega) ?_
    have Bq:∀ k,aw q k->(w4.heap.size<=k/\k<w5.heap.size)\/(w5.heap.size<=k/\k<w6.heap.size):=fun k hk=>(xf k hk).elim (fun t=>.inl (Bv k t)) (fun t=>.inr ⟨t,aF.lt Hq hk⟩);have FT:=FT.comp f fun k hk t=>by have:=Bv k t;omega
    have hc:=f.ag hc fun t=>by have:=Bv c t;omega
    have HL:=HL.ag f fun k hk t=>by have:=BL k hk;have:=Bv k t;omega
    have HH:=HH.ag f fun k hk t=>by have:=BH k hk;have:=Bv k t;omega
    have Hz:=Hz.ag f fun k hk t=>by have:=Bz k hk;have:=Bv k t;omega
    exact fin FT hc Hz Hq (fun k hk=>by have:=Bz k hk;omega) (fun k hk=>by have:=Bq k hk;omega)
end Go.Proofs.YtmkehncgjnhhcaaGreatDoor
