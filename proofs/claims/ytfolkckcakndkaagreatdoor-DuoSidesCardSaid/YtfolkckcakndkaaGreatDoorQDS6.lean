/-
  Texts of this claim, put together.
  Conditions: those of each theorem.
-/
import Derived.Test.YtfolkckcakndkaaGreatDoorQDS0
import Derived.Test.YtfolkckcakndkaaGreatDoorQDS4
import Derived.Test.YtfolkckcakndkaaGreatDoorQDS5
import Derived.KernelRfl
import Derived.Test.YtfolkckcakndkaaGreatDoorProg
namespace Go.Proofs.YtfolkckcakndkaaGreatDoor
open Vc
set_option maxRecDepth 100000
set_option maxHeartbeats 2000000
set_option maxRecDepth 100000
set_option linter.unusedVariables false
variable {w w':ah}{b g N fb fg c g1 j:Nat}{F S A:bz}{p q:PeerM}{kb bs x:ai}{d:DuoM}{l:fE}{E:Int}{a:cE}{T:TypeId}
def C99  (w:ah) (K:aP):Prop:=
 ak 141 #[] w gH (λ(x1:aS) w2=>aC (.map #[] 0) w2 (λ g3 w4=>aC (.cells #[aa 0,.slice none 0 0,.pointer x1,.map (some g3)] 110) w4 (λ g5 w6=>K (.pointer (some (ad g5))) w6)))
def pl99:aN:=.auto
theorem c99 (w K)(h:C99  w K):au 99 #[] w K:=aQ Tryz.func99 (p:=pl99) aA h
def C45 (p0:Addr)(w:ah)(K:aP):Prop:=
 aU w (λ w1=>bL (λ S2=>aJ S2 (p0.add 0) (af (.int .i64) (p0.add 0) w1 (λ(x3:Int)=>aJ S2 (p0.add 1) (af .bE (p0.add 1) w1 (λ(x4:aB)=>aJ S2 (p0.add 2) (af .ptr (p0.add 2) w1 (λ(x5:aS)=>aJ S2 (p0.add 3) (af .map (p0.add 3) w1 (λ(x6:Option Nat)=>ak 59 #[aO x4] w1 aM (λ(x7:aB) w8=>az S2 w1 w8 (ak 61 #[.pointer x5] w8 gH (λ(x9:aS) aX=>az S2 w8 aX (ak 77 #[.map x6] aX (.v (.one .map)) (λ(bQ:Option Nat) br=>az S2 aX br (aC (.cells #[aa x3,aO x7,.pointer x9,.map bQ] 110) br (λ g13 bY=>az S2 br bY (K (.pointer (some (ad g13))) bY))))))))))))))))))
def pl45:aN:=(.seq .auto (.seq (.held (.soft 0 (.soft 1 (.soft 2 (.soft 3 (.soft 4 (.soft 5 (.soft 6 (.soft 7 (.soft 9 (.soft 10 (.soft 11 (.soft 12 (.soft 14 (.soft 15 (.soft 16 (.soft 17 (.pick 8 (.pick 13 (.pick 18 (.soft 19 (.pick 20 (.soft 21 .done) .stop)) .stop) .stop) .stop)))))))))))))))))) .auto))
theorem c45 (p0 w K)(h:C45 p0 w K):au 45 #[aI p0] w K:=aQ Tryz.func45 (p:=pl45) aA h
def C60 (p0:Addr)(w:ah)(K:aP):Prop:=
 af .bE (p0.add 1) w (λ(x1:aB)=>cp (aB×aB×Int×Unit) (λ _ s2 w3 NA=>ae (decide (s2.2.2.1<(x1.2.1:Int)))
 (cz x1.1 x1.2.1 s2.2.2.1 3 (λ a5=>aF [.str,.int .i64,.raw] a5 w3 (λ(x6:ay×Int×av×Unit)=>aC (.cells #[aj,aa 0,.nilIface] 142) w3 (λ g7 w8=>aG (ad g7) [.string x6.1,aa x6.2.1,x6.2.2.1] w8 (λ w9=>aU w9 (λ aX=>bL (λ Gv=>aJ Gv ((ad g7).add 0) (af .str ((ad g7).add 0) aX (λ(cn:ay)=>aJ Gv ((ad g7).add 2) (af .raw ((ad g7).add 2) aX (λ(cA:av)=>aJ Gv ((ad g7).add 1) (af (.int .i64) ((ad g7).add 1) aX (λ(cj:Int)=>aJ Gv (p0.add 2) (af .ptr (p0.add 2) aX (λ(cm:aS)=>ak 87 #[.string cn,cA,aa cj,.pointer cm] aX (.bR [.one .bE,.one .bE,.one (.int .i64)]) (λ(bP:aB×aB×Int×Unit) da=>az Gv aX da (ae (bP.2.2.1 != 0)
 (K (.tuple #[.slice none 0 0,.slice none 0 0,aa bP.2.2.1]) da)
 (aT (Builtin.append_ #[72,72] 72 #[.slice s2.1.1 s2.1.2.1 s2.1.2.2,.slice bP.1.1 bP.1.2.1 bP.1.2.2]) da aM (λ(cF:aB) ct=>aT (Builtin.append_ #[119,119] 119 #[.slice s2.2.1.1 s2.2.1.2.1 s2.2.1.2.2,.slice bP.2.1.1 bP.2.1.2.1 bP.2.1.2.2]) ct aM (λ(dE:aB) cr=>NA ((cF.1,cF.2.1,cF.2.2),(dE.1,dE.2.1,dE.2.2),IntKind.i64.wrap (s2.2.2.1+1),()) cr))))))))))))))))))))
 (K (.tuple #[.slice s2.1.1 s2.1.2.1 s2.1.2.2,.slice s2.2.1.1 s2.2.1.2.1 s2.2.1.2.2,aa 0]) w3))
 ((none,0,0),(none,0,0),0,()) w)
def pl60:aN:=(.seq .auto (.seq .auto (.seq .auto (.seq (.seq .auto (.block (.loop [(5,.one .bE),(6,.one .bE),(17,.one (.int .i64))] (.seq .auto (.seq .auto (.seq (.block (.seq .auto (.seq (.held (.soft 0 (.soft 1 (.soft 2 (.soft 3 (.soft 4 (.soft 5 (.soft 6 (.soft 7 (.soft 8 (.soft 9 (.pick 10 (.soft 11 (.soft 12 (.soft 13 (.soft 14 (.soft 15 (.soft 16 (.soft 17 .done))))))) .stop)))))))))))) .auto))) .auto)))))) .auto))))
theorem c60 (p0 w K)(h:C60 p0 w K):au 60 #[aI p0] w K:=aQ Tryz.func60 (p:=pl60) aA h
def C29 (p0:Addr)(w:ah)(K:aP):Prop:=
 ak 60 #[aI p0] w (.bR [.one .bE,.one .bE,.one (.int .i64)]) (λ(x1:aB×aB×Int×Unit) w2=>K (.slice x1.1.1 x1.1.2.1 x1.1.2.2) w2)
def pl29:aN:=.auto
theorem c29 (p0 w K)(h:C29 p0 w K):au 29 #[aI p0] w K:=aQ Tryz.func29 (p:=pl29) aA h
def C243 (p0:Addr)(p1:Int)(p2:ay)(w:ah)(K:aP):Prop:=
 af .map (p0.add 3) w (λ(x1:Option Nat)=>aT (Instr.lookup 108 (.map x1) (.agg #[aa p1,.string p2]) false) w bN (λ(x2:Int) w3=>K (aa x2) w3))
def pl243:aN:=.auto
theorem c243 (p0 p1 p2 w K)(h:C243 p0 p1 p2 w K):au 243 #[aI p0,aa p1,.string p2] w K:=aQ Tryz.func243 (p:=pl243) aA h
def C221 (p0:Addr)(p1:Int)(p2:ay)(w:ah)(K:aP):Prop:=
 ak 243 #[aI p0,aa p1,.string p2] w bN (λ(x1:Int) w2=>ak 29 #[aI p0] w2 aM (λ(x3:aB) w4=>cp (Int×Int×Unit) (λ _ s5 w6 xW=>ae (decide (s5.2.1<(x3.2.1:Int)))
 (cz x3.1 x3.2.1 s5.2.1 3 (λ a8=>aF [.int .i64,.str,.int .i64] a8 w6 (λ(x9:Int×ay×Int×Unit)=>aC (.cells #[aa 0,aj,aa 0] 203) w6 (λ g10 bt=>aG (ad g10) [aa x9.1,.string x9.2.1,aa x9.2.2.1] bt (λ br=>af (.int .i64) ((ad g10).add 0) br (λ(cA:Int)=>ae (cA==p1)
 (af .str ((ad g10).add 1) br (λ(cj:ay)=>ae (cj.toList==p2.toList)
 (af (.int .i64) ((ad g10).add 2) br (λ(cm:Int)=>xW (IntKind.i64.wrap (s5.1+cm),IntKind.i64.wrap (s5.2.1+1),()) br))
 (xW (s5.1,IntKind.i64.wrap (s5.2.1+1),()) br)))
 (xW (s5.1,IntKind.i64.wrap (s5.2.1+1),()) br)))))))
 (K (aa s5.1) w6))
 (IntKind.i64.wrap (0 - x1),0,()) w4))
def pl221:aN:=(.seq .auto (.seq .auto (.seq (.seq .auto (.block (.loop [(7,.one (.int .i64)),(18,.one (.int .i64))] .auto))) .auto)))
theorem c221 (p0 p1 p2 w K)(h:C221 p0 p1 p2 w K):au 221 #[aI p0,aa p1,.string p2] w K:=aQ Tryz.func221 (p:=pl221) aA h
def C185 (p0:Addr)(p1:di)(w:ah)(K:aP):Prop:=
 aC (.cells ((cO p1).toArray) 34) w (λ g1 w2=>af .bE (p0.add 1) w2 (λ(x3:aB)=>ak 213 #[aO x3,.func (.func 214) #[] #[.pointer (some (ad g1))]] w2 bK (λ(x4:Bool) w5=>ae x4
 (K (aa 4) w5)
 (af .bE (p0.add 1) w5 (λ(x6:aB)=>ae (decide ((x6.2.1:Int) >= 8))
 (K (aa 5) w5)
 (aU w5 (λ w7=>bL (λ S8=>aJ S8 ((ad g1).add 1) (af .str ((ad g1).add 1) w7 (λ(x9:ay)=>aJ S8 ((ad g1).add 7) (af .raw ((ad g1).add 7) w7 (λ(bG:av)=>aJ S8 (p0.add 0) (af (.int .i64) (p0.add 0) w7 (λ(bQ:Int)=>aJ S8 (p0.add 2) (af .ptr (p0.add 2) w7 (λ(cn:aS)=>ak 87 #[.string x9,bG,aa bQ,.pointer cn] w7 (.bR [.one .bE,.one .bE,.one (.int .i64)]) (λ(cA:aB×aB×Int×Unit) bY=>ae (cA.2.2.1 != 0)
 (K (aa cA.2.2.1) bY)
 (aU bY (λ cB=>bL (λ yT=>aJ yT (p0.add 1) (af .bE (p0.add 1) cB (λ(bZ:aB)=>aJ yT ((ad g1).add 1) (af .str ((ad g1).add 1) cB (λ(cF:ay)=>aJ yT (p0.add 0) (af (.int .i64) (p0.add 0) cB (λ(cJ:Int)=>aJ yT ((ad g1).add 7) (af .raw ((ad g1).add 7) cB (λ(dE:av)=>lu dE (nE (ak 59 #[aO bZ] cB aM (λ(du:aB) cH=>az yT cB cH (aT (Instr.buildSlice 70 1 #[(0,.agg #[.string cF,aa cJ,dE])]) cH aM (λ(eB:aB) cZ=>az yT cH cZ (aT (Builtin.append_ #[70,70] 70 #[aO du,aO eB]) cZ aM (λ(cR:aB) de=>aK (p0.add 1) (aO cR) de (λ gD=>K (aa 0) gD)))))))
 (aT (Instr.buildSlice 70 1 #[(0,.agg #[.string cF,aa cJ,dE])]) cB aM (λ(ji:aB) gr=>az yT cB gr (ak 59 #[aO bZ] gr aM (λ(gB:aB) gZ=>az yT gr gZ (aT (Builtin.append_ #[70,70] 70 #[aO gB,aO ji]) gZ aM (λ(gx:aB) fT=>aK (p0.add 1) (aO gx) fT (λ jc=>K (aa 0) jc))))))))))))))))))))))))))))))))))))
def pl185:aN:=(.seq .auto (.seq .auto (.seq (.seq (.held (.soft 0 (.soft 1 (.soft 2 (.soft 3 (.soft 4 (.soft 5 (.soft 6 (.soft 7 (.soft 8 (.soft 9 (.soft 10 (.soft 11 (.last 12 (.soft 13 (.soft 14 (.soft 15 (.soft 16 (.soft 17 (.soft 18 (.soft 19 .done))))))))))))))))))))) .auto) (.seq (.held (.soft 0 (.soft 1 (.soft 2 (.soft 3 (.soft 4 (.soft 6 (.soft 7 (.soft 8 (.soft 9 (.soft 10 (.soft 11 (.soft 12 (.soft 13 (.soft 14 (.pick 5 (.pick 15 (.last 16 (.soft 17 (.soft 18 (.last 19 .done)))) .stop) (.pick 15 (.pick 5 (.last 16 (.soft 17 (.soft 18 (.last 19 .done)))) .stop) .stop))))))))))))))))) .auto))))
theorem c185 (p0 p1 w K)(h:C185 p0 p1 w K):au 185 #[aI p0,.agg (cO p1).toArray] w K:=aQ Tryz.func185 (p:=pl185) aA h
def C214 (p0:ay×Int×av×Unit)(c0:Addr)(w:ah)(K:aP):Prop:=
 aC (.cells #[.string p0.1,aa p0.2.1,p0.2.2.1] 142) w (λ g1 w2=>af .str ((ad g1).add 0) w2 (λ(x3:ay)=>af .str (c0.add 1) w2 (λ(x4:ay)=>K (.bool (x3.toList==x4.toList)) w2)))
def pl214:aN:=.auto
theorem c214 (p0 c0 w K)(h:C214 p0 c0 w K):au 214 #[.agg #[.string p0.1,aa p0.2.1,p0.2.2.1],aI c0] w K:=aQ Tryz.func214 (p:=pl214) aA h
def C186 (p0:Addr)(p1:di)(w:ah)(K:aP):Prop:=
 aC (.cells ((cO p1).toArray) 34) w (λ g1 w2=>aU w2 (λ w3=>af (.int .i64) ((ad g1).add 5) w3 (λ(x4:Int)=>af (.int .i64) (p0.add 0) w3 (λ(x5:Int)=>ae (decide (x4 > x5))
 (K (aa 7) w3)
 (aU w3 (λ w6=>af .ptr (p0.add 2) w6 (λ(x7:aS)=>af .str ((ad g1).add 2) w6 (λ(x8:ay)=>af (.int .i64) ((ad g1).add 5) w6 (λ(x9:Int)=>af (.int .i64) ((ad g1).add 6) w6 (λ(bG:Int)=>ak 215 #[.pointer x7,.string x8,aa x9,aa bG] w6 bN (λ(bQ:Int) br=>ae (bQ != 0)
 (K (aa bQ) br)
 (ak 60 #[aI p0] br (.bR [.one .bE,.one .bE,.one (.int .i64)]) (λ(cA:aB×aB×Int×Unit) bY=>K (aa cA.2.2.1) bY)))))))))))))
def pl186:aN:=(.seq .auto (.seq (.seq .still .auto) (.seq (.seq (.tail 10) .auto) .auto)))
theorem c186 (p0 p1 w K)(h:C186 p0 p1 w K):au 186 #[aI p0,.agg (cO p1).toArray] w K:=aQ Tryz.func186 (p:=pl186) aA h
def C187 (p0:Addr)(p1:di)(p2:Int)(w:ah)(K:aP):Prop:=
 aC (.cells ((cO p1).toArray) 34) w (λ g1 w2=>af .bE (p0.add 1) w2 (λ(x3:aB)=>ak 216 #[aO x3,.func (.func 217) #[] #[.pointer (some (ad g1))]] w2 bN (λ(x4:Int) w5=>ae (decide (x4<0))
 (K (aa 3) w5)
 (af .bE (p0.add 1) w5 (λ(x6:aB)=>cz x6.1 x6.2.1 x4 3 (λ a7=>aF [.str,.int .i64,.raw] a7 w5 (λ(x8:ay×Int×av×Unit)=>aC (.cells #[aj,aa 0,.nilIface] 142) w5 (λ g9 aX=>aG (ad g9) [.string x8.1,aa x8.2.1,x8.2.2.1] aX (λ bt=>aU bt (λ br=>bL (λ gP=>aJ gP ((ad g9).add 0) (af .str ((ad g9).add 0) br (λ(cj:ay)=>aJ gP ((ad g9).add 2) (af .raw ((ad g9).add 2) br (λ(cm:av)=>aJ gP ((ad g9).add 1) (af (.int .i64) ((ad g9).add 1) br (λ(bP:Int)=>aJ gP (p0.add 2) (af .ptr (p0.add 2) br (λ(bZ:aS)=>ak 87 #[.string cj,cm,aa bP,.pointer bZ] br (.bR [.one .bE,.one .bE,.one (.int .i64)]) (λ(cF:aB×aB×Int×Unit) ct=>az gP br ct (ak 218 #[.slice cF.2.1.1 cF.2.1.2.1 cF.2.1.2.2,.func (.func 219) #[] #[.pointer (some (ad g1))]] ct bN (λ(dE:Int) cr=>ae (decide (dE<0))
 (K (aa 3) cr)
 (aU cr (λ cH=>cz cF.2.1.1 cF.2.1.2.1 dE 5 (λ a23=>af (.int .i64) (a23.add 3) cH (λ(dr:Int)=>af (.int .i64) (p0.add 0) cH (λ(cR:Int)=>ae (decide (dr > cR))
 (K (aa 7) cH)
 (cz cF.2.1.1 cF.2.1.2.1 dE 5 (λ a26=>af (.int .i64) (a26.add 4) cH (λ(eD:Int)=>ae (eD != p2)
 (K (aa 8) cH)
 (aU cH (λ cS=>af .ptr (p0.add 2) cS (λ(eQ:aS)=>af .str ((ad g1).add 1) cS (λ(gB:ay)=>af .str ((ad g1).add 3) cS (λ(dt:ay)=>af (.int .i64) ((ad g1).add 6) cS (λ(gx:Int)=>af (.int .i64) (p0.add 0) cS (λ(fk:Int)=>ak 220 #[.pointer eQ,.string gB,.string dt,aa gx,aa fk] cS bN (λ(fD:Int) gh=>ae (fD != 0)
 (K (aa fD) gh)
 (aU gh (λ dW=>bL (λ Gw=>aJ Gw ((ad g9).add 0) (af .str ((ad g9).add 0) dW (λ(gn:ay)=>aJ Gw ((ad g9).add 2) (af .raw ((ad g9).add 2) dW (λ(iT:av)=>aJ Gw ((ad g9).add 1) (af (.int .i64) ((ad g9).add 1) dW (λ(mi:Int)=>aJ Gw (p0.add 2) (af .ptr (p0.add 2) dW (λ(gC:aS)=>ak 87 #[.string gn,iT,aa mi,.pointer gC] dW (.bR [.one .bE,.one .bE,.one (.int .i64)]) (λ(kY:aB×aB×Int×Unit) nv=>az Gw dW nv (K (aa kY.2.2.1) nv)))))))))))))))))))))))))))))))))))))))))))))))))))
def pl187:aN:=(.seq .auto (.seq .auto (.seq .auto (.seq .auto (.seq (.held (.soft 0 (.soft 1 (.soft 2 (.soft 3 (.soft 4 (.soft 5 (.soft 6 (.soft 7 (.soft 8 (.soft 9 (.pick 10 (.soft 11 (.soft 12 (.soft 13 (.soft 14 (.soft 15 (.soft 16 (.soft 17 .done))))))) .stop)))))))))))) (.seq .auto (.seq (.block (.seq .auto (.cond .auto (.seq .still .auto)))) (.seq (.seq (.tail 14) .auto) (.seq (.held (.soft 0 (.soft 1 (.soft 2 (.soft 3 (.soft 4 (.soft 5 (.soft 6 (.soft 7 (.soft 8 (.soft 9 (.pick 10 (.soft 11 (.soft 12 (.soft 13 (.soft 14 (.soft 15 (.soft 16 (.soft 17 .done))))))) .stop)))))))))))) .auto)))))))))
theorem c187 (p0 p1 p2 w K)(h:C187 p0 p1 p2 w K):au 187 #[aI p0,.agg (cO p1).toArray,aa p2] w K:=aQ Tryz.func187 (p:=pl187) aA h
def C217 (p0:ay×Int×av×Unit)(c0:Addr)(w:ah)(K:aP):Prop:=
 aC (.cells #[.string p0.1,aa p0.2.1,p0.2.2.1] 142) w (λ g1 w2=>af .str ((ad g1).add 0) w2 (λ(x3:ay)=>af .str (c0.add 1) w2 (λ(x4:ay)=>K (.bool (x3.toList==x4.toList)) w2)))
def pl217:aN:=.auto
theorem c217 (p0 c0 w K)(h:C217 p0 c0 w K):au 217 #[.agg #[.string p0.1,aa p0.2.1,p0.2.2.1],aI c0] w K:=aQ Tryz.func217 (p:=pl217) aA h
def C219 (p0:uP)(c0:Addr)(w:ah)(K:aP):Prop:=
 aC (.cells ((qv p0).toArray) 122) w (λ g1 w2=>af .bool ((ad g1).add 0) w2 (λ(x3:Bool)=>ae x3
 (af .str ((ad g1).add 2) w2 (λ(x4:ay)=>af .str (c0.add 3) w2 (λ(x5:ay)=>K (.bool (x4.toList==x5.toList)) w2)))
 (K (.bool false) w2)))
def pl219:aN:=.auto
theorem c219 (p0 c0 w K)(h:C219 p0 c0 w K):au 219 #[.agg (qv p0).toArray,aI c0] w K:=aQ Tryz.func219 (p:=pl219) aA h
def C188 (p0:Addr)(p1:di)(w:ah)(K:aP):Prop:=
 aC (.cells ((cO p1).toArray) 34) w (λ g1 w2=>af (.int .i64) ((ad g1).add 5) w2 (λ(x3:Int)=>af .str ((ad g1).add 4) w2 (λ(x4:ay)=>ak 221 #[aI p0,aa x3,.string x4] w2 bN (λ(x5:Int) w6=>aU w6 (λ w7=>af (.int .i64) ((ad g1).add 5) w7 (λ(x8:Int)=>af (.int .i64) (p0.add 0) w7 (λ(x9:Int)=>ae (decide (x8 > x9))
 (K (aa 7) w7)
 (ae (x5==0)
 (K (aa 3) w7)
 (af (.int .i64) ((ad g1).add 6) w7 (λ(bG:Int)=>ae (x5 != bG)
 (K (aa 1) w7)
 (aU w7 (λ bt=>bL (λ rb=>aJ rb (p0.add 3) (af .map (p0.add 3) bt (λ(cA:Option Nat)=>aJ rb ((ad g1).add 5) (af (.int .i64) ((ad g1).add 5) bt (λ(cj:Int)=>aJ rb ((ad g1).add 4) (af .str ((ad g1).add 4) bt (λ(cm:ay)=>nE (aT (Instr.lookup 108 (.map cA) (.agg #[aa cj,.string cm]) false) bt bN (λ(bP:Int) da=>az rb bt da (aT (Instr.mapEntry 108 (.map cA) (.agg #[aa cj,.string cm])) da (.bR [.one (.int .i64),.one (.int .i64)]) (λ(cF:Int×Int×Unit) ct=>lL Tryz.prog (Instr.entryStore 108 (.map cA) (aa cF.2.1) (aa (IntKind.i64.wrap (bP+x5)))) ct (λ bW=>K (aa 0) bW)))))
 (aT (Instr.mapEntry 108 (.map cA) (.agg #[aa cj,.string cm])) bt (.bR [.one (.int .i64),.one (.int .i64)]) (λ(du:Int×Int×Unit) cH=>az rb bt cH (aT (Instr.lookup 108 (.map cA) (.agg #[aa cj,.string cm]) false) cH bN (λ(eB:Int) cZ=>lL Tryz.prog (Instr.entryStore 108 (.map cA) (aa du.2.1) (aa (IntKind.i64.wrap (eB+x5)))) cZ (λ eJ=>K (aa 0) eJ))))))))))))))))))))))))
def pl188:aN:=(.seq .auto (.seq .auto (.seq (.block (.seq .still .auto)) (.seq (.held (.soft 0 (.soft 1 (.soft 2 (.soft 3 (.soft 4 (.soft 5 (.soft 6 (.soft 7 (.soft 8 (.soft 10 (.pick 9 (.soft 11 (.last 12 (.soft 13 (.last 14 .done)))) (.pick 12 (.soft 13 (.last 9 (.soft 11 (.last 14 .done)))) .stop))))))))))))) .auto))))
theorem c188 (p0 p1 w K)(h:C188 p0 p1 w K):au 188 #[aI p0,.agg (cO p1).toArray] w K:=aQ Tryz.func188 (p:=pl188) aA h
def C148 (p0:Addr)(p1:di)(p2:Int)(w:ah)(K:aP):Prop:=
 aC (.cells ((cO p1).toArray) 34) w (λ g1 w2=>dc (Bool×Unit) (λ J3=>ae (p2 != 0)
 (J3 ((p2 != 1),()) w2)
 (J3 (false,()) w2))
 (λ _ s4 w5=>ae s4.1
 (K (aa 1) w5)
 (aF fO (ad g1) w5 (λ(x6:di)=>ak 171 #[.agg (cO x6).toArray] w5 bN (λ(x7:Int) w8=>ae (x7 != 0)
 (K (aa x7) w8)
 (af (.int .i64) ((ad g1).add 0) w8 (λ(x9:Int)=>ae (x9==2)
 (aF fO (ad g1) w8 (λ(bG:di)=>ak 185 #[aI p0,.agg (cO bG).toArray] w8 bN (λ(bQ:Int) br=>K (aa bQ) br)))
 (ae (x9==3)
 (aF fO (ad g1) w8 (λ(cA:di)=>ak 186 #[aI p0,.agg (cO cA).toArray] w8 bN (λ(cj:Int) cB=>K (aa cj) cB)))
 (ae (x9==4)
 (aF fO (ad g1) w8 (λ(bP:di)=>ak 187 #[aI p0,.agg (cO bP).toArray,aa p2] w8 bN (λ(bZ:Int) b9=>K (aa bZ) b9)))
 (ae (x9==6)
 (aF fO (ad g1) w8 (λ(cJ:di)=>ak 188 #[aI p0,.agg (cO cJ).toArray] w8 bN (λ(dE:Int) cr=>K (aa dE) cr)))
 (ae (x9==5)
 (aU w8 (λ cH=>af (.int .i64) ((ad g1).add 5) cH (λ(eB:Int)=>af (.int .i64) (p0.add 0) cH (λ(dr:Int)=>ae (decide (eB<=dr))
 (K (aa 7) cH)
 (af (.int .i64) ((ad g1).add 5) cH (λ(cR:Int)=>aK (p0.add 0) (aa cR) cH (λ de=>K (aa 0) de)))))))
 (K (aa 0) w8))))))))))))
def pl148:aN:=(.seq .auto (.seq (.join [(13,.one .bool)] .auto .auto) (.seq .auto (.seq (.seq .auto (.block (.seq .auto (.cond .auto (.seq .auto (.cond .auto (.seq .auto (.cond .auto (.seq .auto (.cond .auto (.seq .auto (.cond (.seq (.seq .still .auto) .auto) .auto)))))))))))) .auto))))
theorem c148 (p0 p1 p2 w K)(h:C148 p0 p1 p2 w K):au 148 #[aI p0,.agg (cO p1).toArray,aa p2] w K:=aQ Tryz.func148 (p:=pl148) aA h
def C107 (p0:Addr)(p1:di)(p2:Int)(w:ah)(K:aP):Prop:=
 aC (.cells ((cO p1).toArray) 34) w (λ g1 w2=>aU w2 (λ w3=>bL (λ S4=>aJ S4 (ad g1) (aF fO (ad g1) w3 (λ(x5:di)=>ak 45 #[aI p0] w3 gH (λ(x6:aS) w7=>az S4 w3 w7 (ak 148 #[.pointer x6,.agg (cO x5).toArray,aa p2] w7 bN (λ(x8:Int) w9=>az S4 w7 w9 (K (aa x8) w9)))))))))
def pl107:aN:=(.seq .auto (.seq (.held (.soft 0 (.soft 2 (.soft 3 (.pick 1 (.pick 4 (.soft 5 .done) .stop) .stop))))) .auto))
theorem c107 (p0 p1 p2 w K)(h:C107 p0 p1 p2 w K):au 107 #[aI p0,.agg (cO p1).toArray,aa p2] w K:=aQ Tryz.func107 (p:=pl107) aA h
def C178 (p0:Addr)(p1:di)(p2:Int)(w:ah)(K:aP):Prop:=
 aC (.cells ((cO p1).toArray) 34) w (λ g1 w2=>ak 45 #[aI p0] w2 gH (λ(x3:aS) w4=>aF fO (ad g1) w4 (λ(x5:di)=>ak 148 #[.pointer x3,.agg (cO x5).toArray,aa p2] w4 bN (λ(x6:Int) w7=>ae (x6==0)
 (ie x3 (λ a8=>aF YU a8 w7 (λ(x9:QD)=>aG p0 (YV x9) w7 (λ aX=>K (aa x6) aX))))
 (K (aa x6) w7)))))
def pl178:aN:=.auto
theorem c178 (p0 p1 p2 w K)(h:C178 p0 p1 p2 w K):au 178 #[aI p0,.agg (cO p1).toArray,aa p2] w K:=aQ Tryz.func178 (p:=pl178) aA h
def C213 (p0:aS)(bh bC:Nat)(p1:av)(w:ah)(K:aP):Prop:=
 ak 216 #[.slice p0 bh bC,p1] w bN (λ(x1:Int) w2=>K (.bool (decide (x1 >= 0))) w2)
def pl213:aN:=.auto
theorem c213 (p0 bh bC p1 w K)(h:C213 p0 bh bC p1 w K):au 213 #[.slice p0 bh bC,p1] w K:=aQ Tryz.func213 (p:=pl213) aA h
def C216 (p0:aS)(bh bC:Nat)(p1:av)(w:ah)(K:aP):Prop:=
 cp (Int×Unit) (λ _ s1 w2 jh=>ae (decide (s1.1<(bh:Int)))
 (cz p0 bh s1.1 3 (λ a4=>aF [.str,.int .i64,.raw] a4 w2 (λ(x5:ay×Int×av×Unit)=>nH Tryz.prog p1 [.agg #[.string x5.1,aa x5.2.1,x5.2.2.1]] bK w2 (λ(x6:Bool) w7=>ae x6
 (K (aa s1.1) w7)
 (jh (IntKind.i64.wrap (s1.1+1),()) w7)))))
 (K (aa (-1)) w2))
 (0,()) w
def pl216:aN:=(.seq .auto (.seq (.seq .auto (.block (.loop [(8,.one (.int .i64))] .auto))) .auto))
theorem c216 (p0 bh bC p1 w K)(h:C216 p0 bh bC p1 w K):au 216 #[.slice p0 bh bC,p1] w K:=aQ Tryz.func216 (p:=pl216) aA h
def C218 (p0:aS)(bh bC:Nat)(p1:av)(w:ah)(K:aP):Prop:=
 cp (Int×Unit) (λ _ s1 w2 jh=>ae (decide (s1.1<(bh:Int)))
 (cz p0 bh s1.1 5 (λ a4=>aF BR a4 w2 (λ(x5:uP)=>nH Tryz.prog p1 [.agg (qv x5).toArray] bK w2 (λ(x6:Bool) w7=>ae x6
 (K (aa s1.1) w7)
 (jh (IntKind.i64.wrap (s1.1+1),()) w7)))))
 (K (aa (-1)) w2))
 (0,()) w
def pl218:aN:=(.seq .auto (.seq (.seq .auto (.block (.loop [(8,.one (.int .i64))] .auto))) .auto))
theorem c218 (p0 bh bC p1 w K)(h:C218 p0 bh bC p1 w K):au 218 #[.slice p0 bh bC,p1] w K:=aQ Tryz.func218 (p:=pl218) aA h
abbrev JL:List Ck:=[.str,.int .i64,.raw]
abbrev Gy (d:mP):Cs JL:=(str d.1,d.2.1,d.2.2.v,())
def qn (d:mP):List av:=[.string (str d.1),aa d.2.1,d.2.2.v]
def vA (l:List mP):List av:=(l.map qn).flatten
theorem JM (l:List mP):∀ x∈l.map qn,x.length=3:=by intro x hx;obtain⟨y,_,rfl⟩:=kF.1 hx;rfl
theorem Gz (l:List mP):(vA l).length=l.length * 3:=by unfold vA;rw[Dy (JM l),eI]
theorem agf (l:List mP)(x:mP):vA (l++[x])=vA l++qn x:=by unfold vA;simp
theorem WH (x:mP):∀ v∈qn x,cG v=true:=by intro v hv;simp[qn] at hv;rcases hv with rfl | rfl | rfl<;>first | rfl | exact Tm.cU _
theorem O7 (l:List mP):∀ v∈vA l,cG v=true:=by intro v hv;unfold vA at hv;obtain⟨x,hx,hv⟩:=List.mem_flatten.1 hv;obtain⟨y,_,rfl⟩:=kF.1 hx;exact WH y v hv
def JN (k:Int×ai):List Pv:=[.i k.1,.s k.2]
theorem O8:yN Tryz.prog 173 JN where
 ty a:=by
  have hf:∃ fs,Tryz.prog.underlying 173=some (.struct fs)/\Tryz.prog.fieldsOf 173=fs:=by
   unfold Program.fieldsOf;rw[Tryz.underlying173];exact⟨_,rfl,rfl⟩
  refine⟨by obtain⟨fs,h1,h2⟩:=hf;rw[h1,h2],by kernel_rfl,by kernel_rfl,?_⟩;unfold Program.fieldsOf;rw[Tryz.underlying173];exact⟨by decide,rfl,Tryz.underlying3,by decide,rfl,Tryz.underlying9,trivial⟩
 inj a b h:=by
  injection h with h1 h2;injection h2 with h2 _;injection h1 with h1;injection h2 with h2
  exact Prod.ext h1 h2
structure uC (w:ah)(F:bz)(g:Nat)(l:fE)(dl:Sl)(b p:Nat)(G:bz):Prop where
 aR:w.heap[g]? = some (.cells #[aa l.day,.slice dl.1 dl.2.1 dl.2.2,aZ b,.map (some p)] 110 (0,0))
 dT:aV w 142 3 dl (vA l.dT)
 wr:j9 w G b l.w
 iW:iY JN xn w p l.iW
 rf:∀ k,aH dl k->F k/\k≠g/\k≠p/\¬ G k
 gf:∀ k,G k->F k/\k≠g/\k≠p
 pf:F p/\p≠g
 mem:F g
def gj (w:ah)(F:bz)(g:Nat)(l:fE):Prop:=∃ dl b p G,uC w F g l dl b p G
theorem uC.ao {T:bz}{dl:Sl}{p:Nat}{G:bz}(h:uC w F g l dl b p G)(f:Fr T w w')(hT:∀ k,F k->¬ T k):uC w' F g l dl b p G:=
 ⟨f.ao h.aR (hT g h.mem),h.dT.ao f λ k hk=>hT k (h.rf k hk).1,h.wr.ao f λ k hk=>hT k (h.gf k hk).1,h.iW.ao f (hT p h.pf.1),h.rf,h.gf,h.pf,h.mem⟩
theorem uC.ag {dl:Sl}{p:Nat}{G:bz}(h:uC w F g l dl b p G)(f:Fr none1 w w'):uC w' F g l dl b p G:=h.ao f λ _ _ t=>t
theorem gj.ao {T:bz}(h:gj w F g l)(f:Fr T w w')(hT:∀ k,F k->¬ T k):gj w' F g l:=by
 obtain⟨dl,b,p,G,h⟩:=h;exact⟨dl,b,p,G,h.ao f hT⟩
theorem gj.ag (h:gj w F g l)(f:Fr none1 w w'):gj w' F g l:=h.ao f λ _ _ t=>t
theorem gj.mono {F':bz}(h:gj w F g l)(hF:∀ k,F k->F' k):gj w F' g l:=by
 obtain⟨dl,b,p,G,h⟩:=h;exact⟨dl,b,p,G,h.aR,h.dT,h.wr,h.iW,λ k hk=>⟨hF k (h.rf k hk).1,(h.rf k hk).2⟩,λ k hk=>⟨hF k (h.gf k hk).1,(h.gf k hk).2⟩,⟨hF p h.pf.1,h.pf.2⟩,hF g h.mem⟩
theorem gj.mem (h:gj w F g l):F g:=by
 obtain⟨dl,b,p,G,h⟩:=h;exact uC.mem h
def cD (w w':ah):bz:=λ k=>w.heap.size<=k/\k<w'.heap.size
theorem agh (w:ah):au 99 #[] w λ r w'=>∃ g,r=aZ g/\gj w' (cD w w') g Au/\Fr none1 w w':=by
 refine c99 w _ ?_;unfold C99;refine an.of (afm w) ?_;rintro _ w1 ⟨b,rfl,hw,f1⟩;refine⟨some ⟨b,0,none⟩,rfl,aC.of λ p w2 hp ba f2 iQ=>aC.of λ g w3 hg bJ f3 sX=>?_⟩;have s1:=f1.size;refine⟨g,rfl,⟨(none,0,0),b,p,_,bJ,O0 _ _ _,hw.ag (f2.trans f3),(iY.new ba).ag f3,λ k t=>(nt k t).elim,λ k hk=>?_,?_,?_⟩,(f1.trans f2).trans f3⟩
 ·exact⟨⟨hk.1,by omega⟩,by omega,by omega⟩
 ·exact⟨⟨by omega,by omega⟩,by omega⟩
 ·exact⟨by omega,by omega⟩
theorem JO (h:gj w F g l)(hl:l.dT.length<=100):au 45 #[aZ g] w λ r w'=>∃ c,r=aZ c/\gj w' (cD w w') c l/\Fr none1 w w':=by
 obtain⟨dl,b,p,G,h⟩:=h;refine c45 _ w _ ?_;unfold C45;refine aU.of λ w1 _ f1=>bL.all ?_;have h1:=h.ag f1;refine aJ.all (af.aw h1.aR (x:=l.day) rfl (aJ.all (af.aw h1.aR (x:=dl) rfl (aJ.all (af.aw h1.aR (x:=some ⟨b,0,none⟩) rfl (aJ.all (af.aw h1.aR (x:=some p) rfl ?_)))))));have rI:=h1.dT.len;rw[Gz] at rI;refine an.of (O2 h1.dT.rd (O7 _) ab) ?_;rintro _ w2 ⟨u,rfl,hu,f2,uf⟩;refine⟨u,rfl,az.of f2 ?_⟩;have h2:=h1.ag f2;refine an.of (afo h2.wr) ?_;rintro _ w3 ⟨c,rfl,hc,f3⟩;refine⟨some ⟨c,0,none⟩,rfl,az.of f3 ?_⟩;have h3:=h2.ag f3;obtain⟨es,cl,hb,he⟩:=h3.iW;have mc:au 77 #[.map (some p)] w3 λ r w'=>r=.map (some w3.heap.size)/\w'=w3.alloc (.map es cl):=Calls.mono (Tryz.Zy p es cl w3 hb) λ e w' ⟨a,b⟩=>⟨_,a,rfl,b⟩;refine an.of mc ?_;clear mc;rintro _ w4 ⟨rfl,rfl⟩;have f4:Fr none1 w3 (w3.alloc (.map es cl)):=pG w3 _;have n4:=OG w3 (.map es cl);have s4:=OH w3 (.map es cl);generalize w3.alloc (.map es cl)=w4 at *;refine⟨some w3.heap.size,rfl,az.of f4 (aC.of λ q w5 hq dN f5 Fe=>az.of f5 ?_)⟩;have s1:=f1.size;have s2:=f2.size;have s3:=f3.size;refine⟨q,rfl,⟨u,c,w3.heap.size,_,dN,((hu.ag f3).ag f4).ag f5,hc.ag (f4.trans f5),⟨es,cl,f5.ag n4,he⟩,λ k hk=>?_,λ k hk=>?_,?_,?_⟩,(((f1.trans f2).trans f3).trans f4).trans f5⟩
 ·have:=uf k hk
  have:=aV.lt hu hk;exact⟨⟨by omega,by omega⟩,by omega,by omega,λ t=>by have:=t.1;omega⟩
 ·exact⟨⟨by have:=hk.1;omega,by have:=hk.2;omega⟩,by have:=hk.2;omega,by have:=hk.2;omega⟩
 ·exact⟨⟨by omega,by omega⟩,by omega⟩
 ·exact⟨by omega,by omega⟩
theorem WI (h:gj w F g l)(hF:∀ k,F k->k<w.heap.size)(hl:l.dT.length<=100)(hn:∀ d∈l.dT,bj d.2.2<=1000000):
  au 60 #[aZ g] w λ r w'=>∃ fl wl:Sl,r=.tuple #[.slice fl.1 fl.2.1 fl.2.2,.slice wl.1 wl.2.1 wl.2.2,aa l.all.2] /\
   aV w' 203 3 fl (oO l.all.1.1)/\aV w' 122 5 wl (mE l.all.1.2)/\Fr none1 w w':=by
 obtain⟨dl,b,p,G,h⟩:=h;refine c60 _ w _ ?_;unfold C60;refine af.aw h.aR (x:=dl) rfl ?_;have rI:=h.dT.len;rw[Gz] at rI;have rI:dl.2.1=l.dT.length:=ab;refine cp.of (λ s w'=>∃ (i:Nat) (x:kL),s.2.2.1=i/\i<=l.dT.length/\rK l.w l.dT ([],[])=rK l.w (l.dT.drop i) x/\x.1.length<=60 * i/\x.2.length<=60 * i/\aV w' 203 3 s.1 (oO x.1)/\aV w' 122 5 s.2.1 (mE x.2)/\Fr none1 w w' /\
   (∀ k,aH s.1 k->w.heap.size<=k)/\(∀ k,aH s.2.1 k->w.heap.size<=k/\¬ aH s.1 k)) (λ s _=>(dl.2.1 - s.2.2.1).toNat)
  ⟨0,([],[]),rfl,fj _,rfl,by simp,by simp,.inl ⟨rfl,rfl⟩,.inl ⟨rfl,rfl⟩,Fr.refl _ _,λ k t=>(nt k t).elim,λ k t=>(nt k t).elim⟩ ?_
 rintro _ ⟨fl,wl,i',_⟩ w1 ⟨i,x,hi,jV,hx,l1,l2,mq,q9,f1,sh,ou⟩;dsimp only at hi mq q9 sh ou ⊢;subst hi;refine ae.dec (λ bI=>?_) (λ gk=>?_)
 rotate_left
 ·have:i=l.dT.length:=ab
  subst this;rw[List.drop_length] at hx;have e:l.all=(x,0):=hx;rw[e];exact⟨fl,wl,rfl,mq,q9,f1⟩
 have ir:i<l.dT.length:=ab;obtain⟨d,hd⟩:∃ d,l.dT[i]? = some d:=⟨_,cV ir⟩;have C4:=mI hd;have GA:l.dT.drop i=d::l.dT.drop (i+1):=by
  obtain⟨h1,h2⟩:=nj.1 hd;rw[zD h1,h2]
 rw[GA,rK] at hx;have h1:=h.ag f1;refine Dz (cks:=JL) (x:=Gy d) h1.dT.rd ar (JM _) (by rw[ig,hd];rfl) ?_;refine dO (zs:=[aj,aa 0,.nilIface]) (vs:=qn d) rfl (by simp[qn,sK,tT,Tm.cU]) λ g7 w2 hg7 gL f2=>?_;refine aU.of λ w3 _ f3=>bL.all ?_;have f13:=(f1.trans f2).trans f3;have h3:=(h1.ag f2).ag f3;have O9:=f3.ag gL;refine aJ.all (af.aw O9 (x:=str d.1) rfl (aJ.all (af.aw (c:=.raw) O9 (x:=d.2.2.v) rfl (aJ.all (af.aw O9 (x:=d.2.1) rfl (aJ.all (af.aw h3.aR (x:=some ⟨b,0,none⟩) rfl ?_)))))));refine an.of (JG d.1 d.2.2 d.2.1 (hn d C4) h3.wr (λ k hk=>by have:=hF k (h.gf k hk).1;have:=f13.size;omega)) ?_;obtain⟨c1,c2,_⟩:=NR d.1 d.2.2 d.2.1 l.w;generalize iy d.1 d.2.2 d.2.1 l.w=X at *;rintro _ w4 ⟨f',w',rfl,yJ,CT,f4,ff',wf'⟩;refine⟨(f',w',X.2,()),rfl,az.of f4 (ae.ne (λ aL=>?_) (λ he=>?_))⟩
 ·have aL:X.2≠0:=aL
  rw[if_pos aL] at hx;have e:l.all=(([],[]),X.2):=hx;rw[e];exact⟨(none,0,0),(none,0,0),rfl,.inl ⟨rfl,rfl⟩,.inl ⟨rfl,rfl⟩,f13.trans f4⟩
 have he:X.2=0:=he;rw[if_neg (λ t=>t he)] at hx;have f24:=(f2.trans f3).trans f4;have e1:=mq.len;rw[JF] at e1;have e2:=yJ.len;rw[JF] at e2;have e3:=q9.len;rw[DA] at e3;have e4:=CT.len;rw[DA] at e4;obtain⟨u,w5,LM,hu,_,f5,uf⟩:=jf OM 72 (mq.ag f24) yJ.rd (afJ _) ab;refine⟨u,w5,LM,?_⟩;have s3:=f13.size;have s4:=f4.size;have s5:=f5.size;have n5:Fr none1 w w5:=(f13.trans f4).comp f5 λ k hk q=>by have:=sh k q;omega
 have vB:eW w5 5 w' (mE X.1.2):=CT.rd.ao f5 λ k hk q=>by have:=aV.lt (mq.ag (f2.trans f3)) q;have:=wf' k hk;omega
 obtain⟨v,w6,tS,hv,_,f6,vf⟩:=jf OL 119 ((q9.ag f24).ao f5 λ k hk q=>(ou k hk).2 q) vB (afI _) ab;refine⟨v,w6,tS,?_⟩;have dP:∀ k,aH u k->w.heap.size<=k:=λ k hk=>by
  rcases uf k hk with q | q
  ·exact sh k q
  ·omega
 have wu:∀ k,aH wl k->¬ aH u k:=λ k hk q=>by
  rcases uf k q with t | t
  ·exact(ou k hk).2 t
  ·have:=aV.lt (q9.ag f24) hk;omega
 refine⟨⟨i+1,(x.1++X.1.1,x.2++X.1.2),by rw[wI ab ab];omega,by omega,hx,by simp only[bU];omega,by simp only[bU];omega,?_,?_,n5.comp f6 λ k hk q=>by have:=(ou k q).1;omega,dP,λ k hk=>?_⟩,by rw[wI ab ab];omega⟩
 ·rw[afH];exact hu.ao f6 λ k hk q=>wu k q hk
 ·rw[afG];exact hv
 ·rcases vf k hk with q | q
  ·exact⟨(ou k q).1,wu k q⟩
  ·exact⟨by omega,λ t=>by have:=aV.lt hu t;omega⟩
theorem agi (h:gj w F g l)(hF:∀ k,F k->k<w.heap.size)(hl:l.dT.length<=100)(hn:∀ d∈l.dT,bj d.2.2<=1000000):
  au 29 #[aZ g] w λ r w'=>∃ fl:Sl,r=.slice fl.1 fl.2.1 fl.2.2/\aV w' 203 3 fl (oO l.all.1.1)/\Fr none1 w w':=by
 refine c29 _ w _ ?_;refine an.of (WI h hF hl hn) ?_;rintro _ w1 ⟨fl,wl,rfl,mq,q9,f1⟩;exact⟨(fl,wl,l.all.2,()),rfl,fl,rfl,mq,f1⟩
theorem Pa {l:List ((Int×ai)×Int)}(h:iY JN xn w g l)(d:Int)(c:ai){K:Int->ah->Prop}(k:K ((cg (d,c) l).getD 0) w):
  aT (Instr.lookup 108 (.map (some g)) (.agg #[aa d,.string (str c)]) false) w bN K:=by
 have:=OE (z:=aa 0) O8 Tryz.underlying108 aA h (d,c) false;refine⟨(cg (d,c) l).getD 0,w,this.trans ?_,k⟩;cases cg (d,c) l<;>rfl
theorem agj (h:gj w F g l)(d:Int)(c:ai):au 243 #[aZ g,aa d,.string (str c)] w λ r w'=>r=aa (l.mQ d c)/\w=w':=by
 obtain⟨dl,b,p,G,h⟩:=h;refine c243 _ d (str c) w _ ?_;exact af.aw h.aR (x:=some p) rfl (Pa h.iW d c ⟨rfl,rfl⟩)
theorem agk (d:Int)(c:ai)(n:Int)(fs:List oD)(i:Nat){f:oD}(h:fs[i]? = some f):nA d c n (fs.take (i+1))=if f.1=d/\f.2.1=c then nA d c n (fs.take i)+f.2.2 else nA d c n (fs.take i):=Gs _ _ _ h _
theorem JP (h:p8 l):∀ d∈l.dT,bj d.2.2<=1000000:=λ d hd=>by have:=(NQ (UF (h.ok d hd)).1).2.1;omega
theorem agl (h:gj w F g l)(hF:∀ k,F k->k<w.heap.size)(ho:p8 l)(d:Int)(c:ai):au 221 #[aZ g,aa d,.string (str c)] w λ r w'=>r=aa (l.rL d c)/\Fr none1 w w':=by
 refine c221 _ d (str c) w _ ?_;have nk:=ho.num;obtain⟨a1,a2,a3⟩:=NS ho;obtain⟨p1,p2⟩:=NU ho d c;refine an.of (agj h d c) ?_;rintro _ _ ⟨rfl,rfl⟩;refine⟨_,rfl,?_⟩;refine an.of (agi h hF ab (JP ho)) ?_;rintro _ w1 ⟨fl,rfl,mq,f1⟩;refine⟨fl,rfl,?_⟩;unfold fE.rL;generalize l.all.1.1=fs at *;have LO:=mq.len;rw[JF] at LO;have LO:fl.2.1=fs.length:=ab;have vw:∀ i,-980000000000000<=nA d c (-l.mQ d c) (fs.take i)/\nA d c (-l.mQ d c) (fs.take i)<=980000000000000:=λ i=>by
  have:=I6 d c (fs.take i) (-l.mQ d c) (λ f hf=>a3 f (List.mem_of_mem_take hf));rw[ga] at this;omega
 refine cp.of (λ s w'=>∃ i:Nat,s.2.1=i/\i<=fs.length/\s.1=nA d c (-l.mQ d c) (fs.take i)/\Fr none1 w1 w') (λ s _=>(fl.2.1 - s.2.1).toNat)
  ⟨0,rfl,fj _,by rw[wI ab ab,Int.zero_sub];rfl,Fr.refl _ _⟩ ?_
 rintro _ ⟨n,i',_⟩ w2 ⟨i,hi,jV,hs,f2⟩;dsimp only at hi hs ⊢;subst hi;subst hs;refine ae.dec (λ bI=>?_) (λ gk=>?_)
 rotate_left
 ·have:i=fs.length:=ab
  subst this;rw[qx];exact⟨rfl,f1.trans f2⟩
 have ir:i<fs.length:=ab;obtain⟨f,hf⟩:∃ f,fs[i]? = some f:=⟨_,cV ir⟩;have mv:=agk d c (-l.mQ d c) fs i hf;have r1:=vw i;have r2:=vw (i+1);refine Dz (cks:=Wr) (x:=flV f) (mq.ag f2).rd ar (Ws _) (by rw[ig,hf];rfl) ?_;refine dO (zs:=[aa 0,aj,aa 0]) (vs:=yR f) rfl rfl λ g7 w3 hg7 gL f3=>?_;have step:∀ n:Int,n=nA d c (-l.mQ d c) (fs.take (i+1))->((∃ Pb:Nat,IntKind.wrap .i64 (↑i+1)=(Pb:Int)/\Pb<=fs.length/\n=nA d c (-l.mQ d c) (fs.take Pb)/\Fr none1 w1 w3)/\((fl.2.1:Int) - IntKind.wrap .i64 (↑i+1)).toNat<((fl.2.1:Int) - ↑i).toNat):=λ n hn=>
  ⟨⟨i+1,by rw[wI ab ab];omega,by omega,hn,f2.trans f3⟩,by rw[wI ab ab];omega⟩
 refine af.aw gL (x:=f.1) rfl (ae.eq (λ h1=>af.aw gL (x:=str f.2.1) rfl ?_) (λ h1=>step _ ?_))
 ·rw[ly]
  refine ae.dec (λ h2=>af.aw gL (x:=f.2.2) rfl (step _ ?_)) (λ h2=>step _ ?_)
  ·rw[if_pos ⟨h1,h2⟩] at mv
   rw[mv,wI ab ab]
  ·rw[if_neg (λ t=>h2 t.2)] at mv
   exact mv.symm
 ·rw[if_neg (λ t=>h1 t.1)] at mv
  exact mv.symm
theorem WJ {α:Type}(q:α->Bool){l:List α}{i:Nat}{d:α}(h1:(l.take i).find? q=none)(h2:l[i]? = some d)(h3:q d=false):(l.take (i+1)).find? q=none:=by
 rw[oz,h2,List.find?_append,h1];simp[h3]
theorem WK {α:Type}(q:α->Bool){l:List α}{i:Nat}{d:α}(h1:(l.take i).find? q=none)(h2:l[i]? = some d)(h3:q d=true):l.find? q=some d:=by
 obtain⟨h4,h5⟩:=nj.1 h2
 conv=>lhs;rw[<- Ef i l]
 rw[List.find?_append,h1,zD h4,h5];simp[h3]
theorem WL (q:mP->Bool)(v:av){w:ah}{dl:Sl}{l:List mP}(h:eW w 3 dl (vA l))(hl:l.length<=1000)
  (hv:∀ (d:mP) (w1:ah),Fr none1 w w1->∀ (K:Bool->ah->Prop),(∀ w2,Fr none1 w1 w2->K (q d) w2)->nH Tryz.prog v [.agg (qn d).toArray] bK w1 K) :
  au 216 #[.slice dl.1 dl.2.1 dl.2.2,v] w λ r w'=>(∃ i:Int,r=aa i/\((i=-1/\l.find? q=none)\/∃ (n:Nat) (d:mP),i=n/\l[n]? = some d/\l.find? q=some d))/\Fr none1 w w':=by
 have hlen:dl.2.1=l.length:=by have:=h.1;rw[Gz] at this;omega
 refine c216 dl.1 dl.2.1 dl.2.2 v w _ ?_;refine cp.of (λ st w'=>∃ i:Nat,st.1=i/\i<=l.length/\(l.take i).find? q=none/\Fr none1 w w') (λ st _=>(dl.2.1 - st.1).toNat) ⟨0,rfl,fj _,rfl,Fr.refl _ _⟩ ?_;rintro _ ⟨i',_⟩ w1 ⟨i,hi,jV,jQ,f1⟩;dsimp only at hi ⊢;subst hi;refine ae.dec (λ bI=>?_) (λ gk=>?_)
 ·have ir:i<l.length:=ab
  obtain⟨x,hx⟩:∃ x,l[i]? = some x:=⟨_,cV ir⟩;refine Dz (cks:=JL) (x:=Gy x) (h.ag f1) ar (JM _) (by rw[ig,hx];rfl) ?_;refine hv x w1 f1 _ λ w2 f2=>ae.by (λ hq=>?_) (λ hq=>?_)
  ·exact⟨⟨(i:Int),rfl,.inr ⟨i,x,rfl,hx,WK q jQ hx hq⟩⟩,f1.trans f2⟩
  ·exact⟨⟨i+1,by rw[wI ab ab];omega,by omega,WJ q jQ hx hq,f1.trans f2⟩,by rw[wI ab ab];omega⟩
 ·rw[gV ab] at jQ
  exact⟨⟨-1,rfl,.inl ⟨rfl,jQ⟩⟩,f1⟩
theorem agm (q:jn->Bool)(v:av){w:ah}{dl:Sl}{l:List jn}(h:eW w 5 dl (mE l))(hl:l.length<=1000)
  (hv:∀ (d:jn) (w1:ah),Fr none1 w w1->∀ (K:Bool->ah->Prop),(∀ w2,Fr none1 w1 w2->K (q d) w2)->nH Tryz.prog v [.agg (qj d).toArray] bK w1 K) :
  au 218 #[.slice dl.1 dl.2.1 dl.2.2,v] w λ r w'=>(∃ i:Int,r=aa i/\((i=-1/\l.find? q=none)\/∃ (n:Nat) (d:jn),i=n/\l[n]? = some d/\l.find? q=some d))/\Fr none1 w w':=by
 have hlen:dl.2.1=l.length:=by have:=h.1;rw[DA] at this;omega
 refine c218 dl.1 dl.2.1 dl.2.2 v w _ ?_;refine cp.of (λ st w'=>∃ i:Nat,st.1=i/\i<=l.length/\(l.take i).find? q=none/\Fr none1 w w') (λ st _=>(dl.2.1 - st.1).toNat) ⟨0,rfl,fj _,rfl,Fr.refl _ _⟩ ?_;rintro _ ⟨i',_⟩ w1 ⟨i,hi,jV,jQ,f1⟩;dsimp only at hi ⊢;subst hi;refine ae.dec (λ bI=>?_) (λ gk=>?_)
 ·have ir:i<l.length:=ab
  obtain⟨x,hx⟩:∃ x,l[i]? = some x:=⟨_,cV ir⟩;refine Dz (cks:=yQ) (x:=uy x) (h.ag f1) ar (JE _) (by rw[ig,hx];rfl) ?_;refine hv x w1 f1 _ λ w2 f2=>ae.by (λ hq=>?_) (λ hq=>?_)
  ·exact⟨⟨(i:Int),rfl,.inr ⟨i,x,rfl,hx,WK q jQ hx hq⟩⟩,f1.trans f2⟩
  ·exact⟨⟨i+1,by rw[wI ab ab];omega,by omega,WJ q jQ hx hq,f1.trans f2⟩,by rw[wI ab ab];omega⟩
 ·rw[gV ab] at jQ
  exact⟨⟨-1,rfl,.inl ⟨rfl,jQ⟩⟩,f1⟩
def nC (w:ah)(g1:Nat)(m:bu):Prop:=w.heap[g1]? = some (.cells (kj m.e).toArray 34 (0,0))
theorem nC.ag {m:bu}(h:nC w g1 m)(f:Fr none1 w w'):nC w' g1 m:=f.ag h
def xr (m:bu):mP->Bool:=λ d=>d.1==m.id
def Pc (m:bu):jn->Bool:=λ x=>x.1&&x.2.2.1==m.label
theorem agn {m:bu}(h:nC w g1 m)(d:mP):au 214 #[.agg (qn d).toArray,aZ g1] w λ r w'=>r=.bool (xr m d)/\Fr none1 w w':=by
 refine c214 (Gy d) _ w _ ?_;refine aC.of λ g w1 hg hb f1 _=>af.aw hb (x:=str d.1) rfl (af.aw (h.ag f1) (x:=str m.id) rfl ⟨?_,f1⟩);rw[ly];unfold xr;congr 1;rw[xL];simp
theorem ago {m:bu}(h:nC w g1 m)(d:mP):au 217 #[.agg (qn d).toArray,aZ g1] w λ r w'=>r=.bool (xr m d)/\Fr none1 w w':=by
 refine c217 (Gy d) _ w _ ?_;refine aC.of λ g w1 hg hb f1 _=>af.aw hb (x:=str d.1) rfl (af.aw (h.ag f1) (x:=str m.id) rfl ⟨?_,f1⟩);rw[ly];unfold xr;congr 1;rw[xL];simp
theorem agp {m:bu}(h:nC w g1 m)(d:jn):au 219 #[.agg (qj d).toArray,aZ g1] w λ r w'=>r=.bool (Pc m d)/\Fr none1 w w':=by
 refine c219 (uy d) _ w _ ?_;unfold Pc;refine aC.of λ g w1 hg hb f1 _=>af.aw hb (x:=d.1) rfl (ae.by (λ hd=>af.aw hb (x:=str d.2.2.1) rfl (af.aw (h.ag f1) (x:=str m.label) rfl ⟨?_,f1⟩)) (λ hd=>⟨by rw[hd];rfl,f1⟩));rw[ly,hd];congr 1;rw[xL];simp
theorem agq (h:gj w F g l)(hF:∀ k,F k->k<w.heap.size)(hl:l.dT.length<=100)(m:bu)(hm:bj m.t<=1000000):
  au 185 #[aZ g,ke m.e] w λ r w'=>r=aa (ym l m).2/\gj w' (λ k=>F k\/cD w w' k) g (ym l m).1/\Fr F w w':=by
 obtain⟨dl,b,p,G,h⟩:=h;refine c185 _ m.e w _ ?_;unfold C185 ym;refine aC.of λ g1 w1 eG aE f1 _=>?_;have e1:nC w1 g1 m:=aE;have h1:=h.ag f1;have rI:=h.dT.len;rw[Gz] at rI;have rI:dl.2.1=l.dT.length:=ab;have no:∀ {w':ah},Fr none1 w w'->gj w' (λ k=>F k\/cD w w' k) g l/\Fr F w w':=λ f=>⟨(show gj _ F g l from⟨dl,b,p,G,h.ag f⟩).mono λ k hk=>.inl hk,f.mono λ _ _ t=>t.elim⟩;refine af.aw h1.aR (x:=dl) rfl ?_;have hc:au 213 #[.slice dl.1 dl.2.1 dl.2.2,.func (.func 214) #[] #[aZ g1]] w1 λ r w'=>r=.bool (l.dT.any (xr m))/\Fr none1 w1 w':=by
  refine c213 dl.1 dl.2.1 dl.2.2 _ w1 _ ?_;refine an.of (WL (xr m) _ h1.dT.rd ab λ d w2 f2 K k=>?_) ?_
  ·refine pC aA Tryz.func214 aA ((agn (e1.ag f2) d).mono ?_)
   rintro _ w3 ⟨rfl,f3⟩;exact⟨_,rfl,k w3 f3⟩
  rintro _ w2 ⟨⟨i,rfl,hi⟩,f2⟩;refine⟨i,rfl,?_,f2⟩;rw[show l.dT.any (xr m)=(l.dT.find? (xr m)).isSome by rw[xL];simp]
  rcases hi with⟨rfl,hn⟩ | ⟨n,d,rfl,hd,hn⟩
  ·rw[hn];rfl
  ·rw[hn,decide_eq_true ab];rfl
 refine an.of hc ?_;clear hc;rintro _ w2 ⟨rfl,f2⟩;have f12:=f1.trans f2;have h2:=h1.ag f2;refine⟨_,rfl,ae.by (λ ha=>?_) (λ ha=>?_)⟩
 ·have ha:l.dT.any (λ d=>d.1==m.id)=true:=ha
  rw[if_pos ha];exact⟨rfl,no f12⟩
 have ha:l.dT.any (λ d=>d.1==m.id)=false:=ha;rw[if_neg (by rw[ha];simp)];refine af.aw h2.aR (x:=dl) rfl (ae.dec (λ h8=>?_) (λ h8=>?_))
 ·rw[if_pos ab];exact⟨rfl,no f12⟩
 rw[if_neg ab];refine aU.of λ w3 _ f3=>bL.all ?_;have f13:=f12.trans f3;have h3:=h2.ag f3;have e3:=(e1.ag f2).ag f3;refine aJ.all (af.aw e3 (x:=str m.id) rfl (aJ.all (af.aw (c:=.raw) e3 (x:=m.t.v) rfl (aJ.all (af.aw h3.aR (x:=l.day) rfl (aJ.all (af.aw h3.aR (x:=some ⟨b,0,none⟩) rfl ?_)))))));refine an.of (JG m.id m.t l.day hm h3.wr (λ k hk=>by have:=hF k (h.gf k hk).1;have:=f13.size;omega)) ?_;rintro _ w4 ⟨fl,wl,rfl,_,_,f4,_,_⟩;have f14:=f13.trans f4;have h4:=h3.ag f4;refine⟨(fl,wl,(iy m.id m.t l.day l.w).2,()),rfl,ae.ne (λ aL=>?_) (λ he=>?_)⟩
 ·rw[if_pos aL];exact⟨rfl,no f14⟩
 rw[if_neg (λ t=>t he)];refine aU.of λ w5 _ f5=>bL.all ?_;have f15:=f14.trans f5;have h5:=h4.ag f5;have e5:=(e3.ag f4).ag f5
 -- the end, alike in both aiF
 have fin:∀ {w6:ah} {u y:Sl},Fr none1 w5 w6->aV w6 142 3 u (vA l.dT)->aV w6 142 3 y (qn (m.id,l.day,m.t))->y.2.1=1->(∀ k,aH u k->w5.heap.size<=k) ->
   aT (Builtin.append_ #[70,70] 70 #[.slice u.1 u.2.1 u.2.2,.slice y.1 y.2.1 y.2.2]) w6 aM λ(v:aS×Nat×Nat) w7=>aK ((⟨g,0,none⟩:Addr).add 1) (.slice v.1 v.2.1 v.2.2) w7 λ w8=>(Value.int .i64 0=aa 0/\gj w8 (λ k=>F k\/cD w w8 k) g { l with dT:=l.dT++[(m.id,l.day,m.t)] }/\Fr F w w8):=by
  intro w6 u y f6 hu hy IS uf;have dP:=hu.len;rw[Gz] at dP;obtain⟨v,w7,tR,hv,_,f7,vf⟩:=jf JI 70 hu hy.rd (WH _) ab;refine⟨v,w7,tR,?_⟩;have s5:=f15.size;have s6:=f6.size;have s7:=f7.size;have gl:=hF g h.mem;have AD:∀ k,F k->¬ aH u k:=λ k hk q=>by have:=uf k q;have:=hF k hk;omega
  have h7:=(h5.ag f6).ao f7 AD;refine aK.aw h7.aR (show 1<4 by decide) rfl λ w8 lU f8 s8=>⟨rfl,⟨v,b,p,G,lU,?_,h7.wr.ao f8 (λ k hk q=>(h.gf k hk).2.1 q),h7.iW.ao f8 (λ q=>h.pf.2 q),λ k hk=>?_,λ k hk=>⟨.inl (h.gf k hk).1,(h.gf k hk).2⟩,⟨.inl h.pf.1,h.pf.2⟩,.inl h.mem⟩,?_⟩
  ·dsimp only
   rw[agf];refine hv.ao f8 λ k hk q=>?_;have:k=g:=q
   rcases vf k hk with t | t
   ·have:=uf k t;omega
   ·omega
  ·have hk5:w.heap.size<=k/\k<w7.heap.size:=by
    refine⟨?_,aV.lt hv hk⟩
    rcases vf k hk with t | t
    ·have:=uf k t;omega
    ·omega
   refine⟨.inr ⟨hk5.1,by omega⟩,by omega,λ e=>by have:=hF p h.pf.1;omega,λ t=>by have:=hF k (h.gf k t).1;omega⟩
  ·refine(((f15.trans f6).mono λ _ _ t=>t.elim).comp f7 λ k hk q=>by have:=uf k q;omega).comp f8 λ k _ q=>by have:k=g:=q;rw[this];exact h.mem
 refine aJ.all (af.aw h5.aR (x:=dl) rfl (aJ.all (af.aw e5 (x:=str m.id) rfl (aJ.all (af.aw h5.aR (x:=l.day) rfl (aJ.all (af.aw (c:=.raw) e5 (x:=m.t.v) rfl ⟨m.t.iK,⟨?a,?b⟩⟩)))))))
 case' a=>
  refine an.of (O2 h5.dT.rd (O7 _) ab) ?_;rintro _ w6 ⟨u,rfl,hu,f6,uf⟩;refine⟨u,rfl,az.of f6 ?_⟩;obtain⟨y,w7,tR,hy,gG,f7,yf⟩:=po (P:=Tryz.prog) (w:=w6) JI (qn (m.id,l.day,m.t)) rfl ar;exact⟨y,w7,tR,az.of f7 (fin (f6.trans f7) (hu.ag f7) hy gG uf)⟩
 case' b=>
  obtain⟨y,w6,tS,hy,gG,f6,yf⟩:=po (P:=Tryz.prog) (w:=w5) JI (qn (m.id,l.day,m.t)) rfl ar;refine⟨y,w6,tS,az.of f6 ?_⟩;have h6:=h5.ag f6;refine an.of (O2 h6.dT.rd (O7 _) ab) ?_;rintro _ w7 ⟨u,rfl,hu,f7,uf⟩;exact⟨u,rfl,az.of f7 (fin (f6.trans f7) hu (hy.ag f7) gG λ k hk=>by have:=uf k hk;have:=f6.size;omega)⟩
theorem agr {v:Sl}{l:List jn}(h:eW w 5 v (mE l)){i:Nat}{x:jn}(hx:l[i]? = some x){K:Addr->Prop}(k:∀ a:Addr,(∀ {j:Nat} {c:Ck} {y:c.C} {M:c.C->Prop},(qj x)[j]? = some (c.val y)->M y->af c (a.add j) w M)->K a):cz v.1 v.2.1 (i:Int) 5 K:=by
 have hlen:v.2.1=l.length:=by have:=h.1;rw[DA] at this;omega
 have hi:=(nj.1 hx).1;cases hv:v.1 with
 | none=>have:=(h.2.1 hv).1;omega
 | some p=>
  refine⟨p,rfl,by omega,by omega,?_⟩;rw[iH];have hl:aF yQ (p.add (i * 5)) w (λ y=>uy x=y):=h.yp (vs:=l.map qj) (JE l) (x:=uy x) (by rw[ig,hx];rfl) ab rfl hv;obtain⟨y,hc,hy⟩:=hl;subst hy;refine k _ λ{j c y M} hj hm=>?_;refine⟨y,?_,hm⟩;have:=BK _ 0 j _ hc hj;rwa[eP] at this
theorem uC.world {dl:Sl}{p:Nat}{G:bz}(h:uC w F g l dl b p G)(f:Fr G w w'){m:eH}(hw:j9 w' G b m):uC w' F g { l with w:=m } dl b p G:=
 ⟨f.ao h.aR λ q=>(h.gf g q).2.1 rfl,h.dT.ao f λ k hk q=>(h.rf k hk).2.2.2 q,hw,h.iW.ao f λ q=>(h.gf p q).2.2 rfl,h.rf,h.gf,h.pf,h.mem⟩
theorem ags (h:gj w F g l)(hF:∀ k,F k->k<w.heap.size)(ho:p8 l)(m:bu):
  au 186 #[aZ g,ke m.e] w λ r w'=>r=aa (wO l m).2/\((wO l m).2=0->gj w' F g (wO l m).1)/\Fr F w w':=by
 obtain⟨dl,b,p,G,h⟩:=h;have nk:=ho.num;refine c186 _ m.e w _ ?_;unfold C186 wO;refine aC.of λ g1 w1 eG aE f1 _=>aU.of λ w2 _ f2=>?_;have e2:nC w2 g1 m:=f2.ag aE;have f12:=f1.trans f2;have h2:=h.ag f12;have no:∀ {w':ah} {n:Int},Fr none1 w w'->(n=0->gj w' F g l)/\Fr F w w':=λ f=>⟨λ _=>⟨dl,b,p,G,h.ag f⟩,f.mono λ _ _ t=>t.elim⟩;refine af.aw e2 (x:=m.day) rfl (af.aw h2.aR (x:=l.day) rfl (ae.dec (λ hd=>?_) (λ hd=>?_)))
 ·rw[if_pos ab];exact⟨rfl,no f12⟩
 rw[if_neg ab];refine aU.of λ w3 _ f3=>?_;have e3:=e2.ag f3;have f13:=f12.trans f3;have h3:=h2.ag f3;refine af.aw h3.aR (x:=some ⟨b,0,none⟩) rfl (af.aw e3 (x:=str m.name) rfl (af.aw e3 (x:=m.day) rfl (af.aw e3 (x:=m.val) rfl ?_)));have s3:=f13.size;refine an.of (afp h3.wr (λ k hk=>by have:=hF k (h.gf k hk).1;omega) m.name m.day m.val) ?_;rintro _ w4 ⟨rfl,hw4,f4⟩;have h4:=h3.world f4 hw4;have f14:Fr F w w4:=(f13.mono λ _ _ t=>t.elim).comp f4 λ k _ q=>(h.gf k q).1;refine⟨_,rfl,ae.ne (λ aL=>?_) (λ he=>?_)⟩
 ·rw[if_pos aL];exact⟨rfl,λ h=>absurd h aL,f14⟩
 rw[if_neg (λ t=>t he)];refine an.of (WI ⟨dl,b,p,G,h4⟩ (λ k hk=>by have:=hF k hk;have:=f14.size;omega) (by dsimp only;omega) (λ d hd=>JP ho d hd)) ?_;rintro _ w5 ⟨fl,wl,rfl,_,_,f5⟩;refine⟨(fl,wl,_,()),rfl,?_⟩;have h5:=h4.ag f5;split
 ·rename_i aL;exact⟨rfl,λ h=>absurd h aL,f14.et f5⟩
 ·rename_i he;exact⟨congrArg (λ n=>Value.int .i64 n) (iG.1 he),λ _=>⟨dl,b,p,G,h5⟩,f14.et f5⟩
theorem agt (h:gj w F g l)(hF:∀ k,F k->k<w.heap.size)(ho:p8 l)(m:bu)(gE:Int):
  au 187 #[aZ g,ke m.e,aa gE] w λ r w'=>r=aa (wP l m gE).2/\((wP l m gE).2=0->gj w' F g (wP l m gE).1)/\Fr F w w':=by
 obtain⟨dl,b,p,G,h⟩:=h;have nk:=ho.num;refine c187 _ m.e gE w _ ?_;unfold C187 wP;refine aC.of λ g1 w1 eG aE f1 _=>?_;have e1:nC w1 g1 m:=aE;have h1:=h.ag f1;have no:∀ {w':ah} {n:Int},Fr none1 w w'->(n=0->gj w' F g l)/\Fr F w w':=λ f=>⟨λ _=>⟨dl,b,p,G,h.ag f⟩,f.mono λ _ _ t=>t.elim⟩;refine af.aw h1.aR (x:=dl) rfl ?_;refine an.of (WL (xr m) _ h1.dT.rd ab λ d w2 f2 K k=>?_) ?_
 ·refine pC aA Tryz.func217 aA ((ago (e1.ag f2) d).mono ?_)
  rintro _ w3 ⟨rfl,f3⟩;exact⟨_,rfl,k w3 f3⟩
 rintro _ w2 ⟨⟨i,rfl,hi⟩,f2⟩;have f12:=f1.trans f2;have h2:=h1.ag f2;refine⟨i,rfl,?_⟩
 rcases hi with⟨rfl,hn⟩ | ⟨n,d,rfl,hd,hn⟩
 ·have hn:l.dT.find? (λ d=>d.1==m.id)=none:=hn
  rw[hn];exact ae.yes ar ⟨rfl,no f12⟩
 have hn:l.dT.find? (λ d=>d.1==m.id)=some d:=hn;rw[hn];dsimp only;have C4:=mI hd;refine ae.no ab ?_;refine af.aw h2.aR (x:=dl) rfl (Dz (cks:=JL) (x:=Gy d) h2.dT.rd ar (JM _) (by rw[ig,hd];rfl) ?_);refine dO (zs:=[aj,aa 0,.nilIface]) (vs:=qn d) rfl (by simp[qn,sK,tT,Tm.cU]) λ g9 w3 Wh oG f3=>?_;refine aU.of λ w4 _ f4=>bL.all ?_;have f14:=(f12.trans f3).trans f4;have h4:=(h2.ag f3).ag f4;have JQ:=f4.ag oG;refine aJ.all (af.aw JQ (x:=str d.1) rfl (aJ.all (af.aw (c:=.raw) JQ (x:=d.2.2.v) rfl (aJ.all (af.aw JQ (x:=d.2.1) rfl (aJ.all (af.aw h4.aR (x:=some ⟨b,0,none⟩) rfl ?_)))))));have AD:∀ {w':ah},Fr none1 w w'->∀ k,G k->k<w'.heap.size:=λ f k hk=>by have:=hF k (h.gf k hk).1;have:=f.size;omega
 refine an.of (JG d.1 d.2.2 d.2.1 (JP ho d C4) h4.wr (AD f14)) ?_;have rO:=(NR d.1 d.2.2 d.2.1 l.w).2.1;rintro _ w5 ⟨fl,wl,rfl,_,q9,f5,_,_⟩;have f15:=f14.trans f5;have h5:=h4.ag f5;have e5:nC w5 g1 m:=(((e1.ag f2).ag f3).ag f4).ag f5;refine⟨(fl,wl,(iy d.1 d.2.2 d.2.1 l.w).2,()),rfl,az.of f5 ?_⟩;refine an.of (agm (Pc m) _ q9.rd ab λ x w6 f6 K k=>?_) ?_
 ·refine pC aA Tryz.func219 aA ((agp (e5.ag f6) x).mono ?_)
  rintro _ w7 ⟨rfl,f7⟩;exact⟨_,rfl,k w7 f7⟩
 rintro _ w6 ⟨⟨i,rfl,hi⟩,f6⟩;have f16:=f15.trans f6;have h6:=h5.ag f6;refine⟨i,rfl,?_⟩
 rcases hi with⟨rfl,nO⟩ | ⟨n2,x,rfl,hx,nO⟩
 ·have nO:(iy d.1 d.2.2 d.2.1 l.w).1.2.find? (λ x=>x.1&&x.2.2.1==m.label)=none:=nO
  rw[nO];exact ae.yes ar ⟨rfl,no f16⟩
 have nO:(iy d.1 d.2.2 d.2.1 l.w).1.2.find? (λ x=>x.1&&x.2.2.1==m.label)=some x:=nO;rw[nO];dsimp only;refine ae.no ab ?_;refine aU.of λ w7 _ f7=>?_;have f17:=f16.trans f7;have h7:=h6.ag f7;have wl7:=((q9.ag f6).ag f7).rd;have WM:∀ {K:Addr->Prop},(∀ a,(∀ {j:Nat} {c:Ck} {y:c.C} {M:c.C->Prop},(qj x)[j]? = some (c.val y)->M y->af c (a.add j) w7 M)->K a)->cz wl.1 wl.2.1 (n2:Int) 5 K:=λ k=>agr wl7 hx k;refine WM λ a ha=>ha (j:=3) (y:=x.2.2.2.1) rfl (af.aw h7.aR (x:=l.day) rfl (ae.dec (λ hd=>?_) (λ hd=>?_)))
 ·rw[if_pos ab];exact⟨rfl,no f17⟩
 rw[if_neg ab];refine WM λ a ha=>ha (j:=4) (y:=x.2.2.2.2) rfl (ae.ne (λ aL=>?_) (λ he=>?_))
 ·have aL:x.2.2.2.2≠gE:=aL
  rw[if_pos aL];exact⟨rfl,no f17⟩
 have he:x.2.2.2.2=gE:=he;rw[if_neg (λ t=>t he)];refine aU.of λ w8 _ f8=>?_;have f18:=f17.trans f8;have h8:=h7.ag f8;have e8:=((e5.ag f6).ag f7).ag f8;refine af.aw h8.aR (x:=some ⟨b,0,none⟩) rfl (af.aw e8 (x:=str m.id) rfl (af.aw e8 (x:=str m.label) rfl (af.aw e8 (x:=m.val) rfl (af.aw h8.aR (x:=l.day) rfl ?_))));refine an.of (afq h8.wr m.id m.label m.val l.day) ?_;rintro _ w9 ⟨rfl,hw9,f9⟩;have h9:=h8.world f9 hw9;have f19:Fr F w w9:=(f18.mono λ _ _ t=>t.elim).comp f9 λ k _ q=>(h.gf k q).1;refine⟨_,rfl,ae.ne (λ aL=>?_) (λ he=>?_)⟩
 ·have aL:(oF l.w m.id m.label m.val l.day).2≠0:=aL
  rw[if_pos aL];exact⟨rfl,λ h=>absurd h aL,f19⟩
 have he:(oF l.w m.id m.label m.val l.day).2=0:=he;rw[if_neg (λ t=>t he)];refine aU.of λ aX _ f10=>bL.all ?_;have oL:=h9.ag f10;have g1w:¬ G g9:=λ q=>by have:=hF g9 (h.gf g9 q).1;have:=f12.size;omega
 have Pd:=f10.ag (f9.ao ((((f5.trans f6).trans f7).trans f8).ag JQ) g1w);refine aJ.all (af.aw Pd (x:=str d.1) rfl (aJ.all (af.aw (c:=.raw) Pd (x:=d.2.2.v) rfl (aJ.all (af.aw Pd (x:=d.2.1) rfl (aJ.all (af.aw oL.aR (x:=some ⟨b,0,none⟩) rfl ?_)))))));refine an.of (JG d.1 d.2.2 d.2.1 (JP ho d C4) oL.wr (λ k hk=>by have:=hF k (h.gf k hk).1;have:=f19.size;have:=f10.size;omega)) ?_;rintro _ bt ⟨fl2,wl2,rfl,_,_,f11,_,_⟩;refine⟨(fl2,wl2,_,()),rfl,az.of f11 ?_⟩;have rS:=oL.ag f11;have xu:=(f19.et f10).et f11;dsimp only;split
 ·rename_i aL;exact⟨rfl,λ h=>absurd h aL,xu⟩
 ·rename_i he;exact⟨congrArg (λ n=>Value.int .i64 n) (iG.1 he),λ _=>⟨dl,b,p,G,rS⟩,xu⟩
abbrev ky:List Ck:=[.int .i64,.str,.str,.str,.str,.int .i64,.int .i64,.raw]
theorem agu (m:bu)(hm:bj m.t<=1000000){w:ah}(ht:TabW w):au 171 #[ke m.e] w λ r w'=>r=aa (ik m)/\Fr none1 w w':=
 Lr m.e (Az m.t) (bT m.t).2 w λ _ wa fa=>(H0 m.t hm wa (ht.ag fa)).mono λ r w' ⟨h,f⟩=>⟨⟨_,h⟩,f⟩
theorem agv (ho:p8 l)(d:Int)(c:ai):-980000000000000<=l.rL d c/\l.rL d c<=980000000000000:=by
 obtain⟨a1,a2,a3⟩:=NS ho;obtain⟨p1,p2⟩:=NU ho d c;have:=I6 d c l.all.1.1 (-l.mQ d c) a3;unfold fE.rL;omega
theorem agw (h:gj w F g l)(hF:∀ k,F k->k<w.heap.size)(ho:p8 l)(m:bu):
  au 188 #[aZ g,ke m.e] w λ r w'=>r=aa (yn l m).2/\gj w' F g (yn l m).1/\Fr F w w':=by
 have h0:=h;obtain⟨dl,b,p,G,h⟩:=h;refine c188 _ m.e w _ ?_;unfold C188 yn;refine aC.of λ g1 w1 eG aE f1 _=>?_;have e1:nC w1 g1 m:=aE;have no:∀ {w':ah},Fr none1 w w'->gj w' F g l/\Fr F w w':=λ f=>⟨⟨dl,b,p,G,h.ag f⟩,f.mono λ _ _ t=>t.elim⟩;refine af.aw e1 (x:=m.day) rfl (af.aw e1 (x:=str m.cur) rfl ?_);refine an.of (agl (h0.ag f1) (λ k hk=>by have:=hF k hk;have:=f1.size;omega) ho m.day m.cur) ?_;rintro _ w2 ⟨rfl,f2⟩;obtain⟨r1,r2⟩:=agv ho m.day m.cur;obtain⟨p1,p2⟩:=NU ho m.day m.cur;refine⟨_,rfl,aU.of λ w3 _ f3=>?_⟩;have f13:=(f1.trans f2).trans f3;have h3:=h.ag f13;have e3:=(e1.ag f2).ag f3;refine af.aw e3 (x:=m.day) rfl (af.aw h3.aR (x:=l.day) rfl (ae.dec (λ hd=>?_) (λ hd=>?_)))
 ·rw[if_pos ab];exact⟨rfl,no f13⟩
 rw[if_neg ab];refine ae.eq (λ hz=>?_) (λ hz=>?_)
 ·rw[if_pos hz];exact⟨rfl,no f13⟩
 rw[if_neg hz];refine af.aw e3 (x:=m.val) rfl (ae.ne (λ hv=>?_) (λ hv=>?_))
 ·rw[if_pos hv];exact⟨rfl,no f13⟩
 rw[if_neg (λ t=>t hv)];refine aU.of λ w4 _ f4=>bL.of (λ k=>k=g\/k=g1) ?_;have f14:=f13.trans f4;have h4:=h3.ag f4;have e4:=e3.ag f4;have gp:¬ (only p) g:=λ q=>h.pf.2 (Eq.symm q);have g1p:g1≠p:=λ q=>by have:=hF p h.pf.1;omega
 have fin:∀ {w6 w7:ah},Fr (only p) w4 w6->Fr (only p) w6 w7->iY JN xn w7 p (mw (m.day,m.cur) (l.mQ m.day m.cur+l.rL m.day m.cur) l.iW) ->
   (Value.int .i64 0=aa 0/\gj w7 F g { l with iW:=mw (m.day,m.cur) (l.mQ m.day m.cur+l.rL m.day m.cur) l.iW }/\Fr F w w7):=λ{w6 w7} f6 f7 hm=>
  ⟨rfl,⟨dl,b,p,G,(f6.trans f7).ao h4.aR gp,h4.dT.ao (f6.trans f7) (λ k hk q=>(h.rf k hk).2.2.1 q),h4.wr.ao (f6.trans f7) (λ k hk q=>(h.gf k hk).2.2 q),hm,h.rf,h.gf,h.pf,h.mem⟩,(f14.mono λ _ _ t=>t.elim).comp (f6.trans f7) λ k _ q=>by have:k=p:=q;rw[this];exact h.pf.1⟩
 have ao:∀ {w':ah} {K:Prop},Fr (only p) w4 w'->K->az (λ k=>k=g\/k=g1) w4 w' K:=λ f k=>az.on f (λ k hk q=>by have:k=p:=q;rcases hk with rfl | rfl;exact h.pf.2 this.symm;exact g1p this) k
 refine⟨by rw[eN];exact .inl rfl,af.aw h4.aR (x:=some p) rfl ⟨by rw[eN];exact .inr rfl,af.aw e4 (x:=m.day) rfl ⟨by rw[eN];exact .inr rfl,af.aw e4 (x:=str m.cur) rfl ⟨?a,?b⟩⟩⟩⟩
 case' a=>
  refine Pa h4.iW m.day m.cur (ao (Fr.refl _ _) ?_);obtain⟨w6,n,l2,tS,f6,_,WN,_,dH⟩:=Wa (ev:=xn) (z:=0) O8 Tryz.underlying108 aA h4.iW (m.day,m.cur);refine⟨((cg (m.day,m.cur) l.iW).getD 0,n,()),w6,tS,?_⟩;have e:(cg (m.day,m.cur) l.iW).getD 0=l.mQ m.day m.cur:=rfl;rw[e,wI ab ab];obtain⟨w7,tR,f7,_,Gq⟩:=dH (l.mQ m.day m.cur+l.rL m.day m.cur);exact⟨w7,tR,fin f6 f7 Gq⟩
 case' b=>
  obtain⟨w6,n,l2,tS,f6,_,WN,qI,dH⟩:=Wa (ev:=xn) (z:=0) O8 Tryz.underlying108 aA h4.iW (m.day,m.cur);refine⟨((cg (m.day,m.cur) l.iW).getD 0,n,()),w6,tS,ao f6 ?_⟩;refine Pa WN m.day m.cur ?_;rw[qI];have e:(cg (m.day,m.cur) l.iW).getD 0=l.mQ m.day m.cur:=rfl;rw[e,wI ab ab];obtain⟨w7,tR,f7,_,Gq⟩:=dH (l.mQ m.day m.cur+l.rL m.day m.cur);exact⟨w7,tR,fin f6 f7 Gq⟩
theorem WO (h:gj w F g l)(hF:∀ k,F k->k<w.heap.size)(ho:p8 l)(m:bu)(hm:bj m.t<=1000000)(ht:TabW w)(gE:Int):
  au 148 #[aZ g,ke m.e,aa gE] w λ r w'=>r=aa (jo l m gE).2/\((jo l m gE).2=0->gj w' (λ k=>F k\/cD w w' k) g (jo l m gE).1)/\Fr F w w':=by
 have nk:=ho.num;refine c148 _ m.e gE w _ ?_;unfold C148 jo;refine aC.of λ g1 w1 eG aE f1 _=>?_;have e1:nC w1 g1 m:=aE;have bad:∀ {w':ah} {n:Int} {X:fE},n≠0->Fr none1 w w'->(n=0->gj w' (λ k=>F k\/cD w w' k) g X)/\Fr F w w':=λ hn f=>⟨λ h=>absurd h hn,f.mono λ _ _ t=>t.elim⟩;refine dc.of (λ s w'=>s.1=decide (gE≠0/\gE≠1)/\w1=w') ?_ ?_
 ·refine ae.ne (λ aL=>⟨?_,rfl⟩) (λ he=>⟨?_,rfl⟩)
  ·by_cases h1:gE=1
   ·subst h1;rfl
   ·rw[decide_eq_true ⟨aL,h1⟩];simpa using h1
  ·rw[decide_eq_false (λ t=>t.1 he)]
 rintro _ ⟨s,_⟩ _ ⟨hs,rfl⟩;dsimp only at hs ⊢;subst hs;refine ae.dec (λ hb=>?_) (λ hb=>?_)
 ·rw[if_pos hb];exact⟨rfl,bad (show(1:Int)≠0 by decide) f1⟩
 rw[if_neg hb];refine aF.aR (cks:=ky) (x:=m.e) e1 ?_;refine an.of (agu m hm (ht.ag f1)) ?_;rintro _ w2 ⟨rfl,f2⟩;have f12:=f1.trans f2;have e2:=e1.ag f2;refine⟨_,rfl,ae.ne (λ aL=>?_) (λ he=>?_)⟩
 ·have aL:ik m≠0:=aL
  rw[if_pos aL];exact⟨rfl,bad aL f12⟩
 rw[if_neg (λ t=>t he)];have h2:=h.ag f12;have JR:∀ k,F k->k<w2.heap.size:=λ k hk=>by have:=hF k hk;have:=f12.size;omega
 have gd:=f12.size;have fF:∀ {w':ah},Fr F w2 w'->Fr F w w':=λ f=>f12.fN f;refine af.aw e2 (x:=m.kind) rfl (ae.eq (λ hk=>?_) (λ hk=>?_))
 ·rw[if_pos hk]
  refine aF.aR (cks:=ky) (x:=m.e) e2 (an.of (agq h2 JR ab m hm) ?_);rintro _ w3 ⟨rfl,h3,f3⟩;exact⟨_,rfl,rfl,λ _=>h3.mono λ k hk=>hk.imp_right λ q=>⟨by have:=q.1;omega,q.2⟩,fF f3⟩
 have hk:m.kind≠2:=hk;rw[if_neg hk];refine ae.eq (λ hk=>?_) (λ hk=>?_)
 ·rw[if_pos hk]
  refine aF.aR (cks:=ky) (x:=m.e) e2 (an.of (ags h2 JR ho m) ?_);rintro _ w3 ⟨rfl,h3,f3⟩;exact⟨_,rfl,rfl,λ q=>(h3 q).mono λ k hk=>.inl hk,fF f3⟩
 have hk:m.kind≠3:=hk;rw[if_neg hk];refine ae.eq (λ hk=>?_) (λ hk=>?_)
 ·rw[if_pos hk]
  refine aF.aR (cks:=ky) (x:=m.e) e2 (an.of (agt h2 JR ho m gE) ?_);rintro _ w3 ⟨rfl,h3,f3⟩;exact⟨_,rfl,rfl,λ q=>(h3 q).mono λ k hk=>.inl hk,fF f3⟩
 have hk:m.kind≠4:=hk;rw[if_neg hk];refine ae.eq (λ hk=>?_) (λ hk=>?_)
 ·rw[if_pos hk]
  refine aF.aR (cks:=ky) (x:=m.e) e2 (an.of (agw h2 JR ho m) ?_);rintro _ w3 ⟨rfl,h3,f3⟩;exact⟨_,rfl,rfl,λ q=>h3.mono λ k hk=>.inl hk,fF f3⟩
 have hk:m.kind≠6:=hk;rw[if_neg hk];refine ae.eq (λ hk=>?_) (λ hk=>?_)
 ·rw[if_pos hk]
  refine aU.of λ w3 _ f3=>?_;have f13:=f12.trans f3;obtain⟨dl,b,p,G,h⟩:=h;have h3:=h.ag f13;have e3:=e2.ag f3;refine af.aw e3 (x:=m.day) rfl (af.aw h3.aR (x:=l.day) rfl (ae.dec (λ hd=>?_) (λ hd=>?_)))
  ·rw[if_pos hd];exact⟨rfl,bad (show(7:Int)≠0 by decide) f13⟩
  rw[if_neg hd];refine af.aw e3 (x:=m.day) rfl (aK.aw h3.aR (show 0<4 by decide) rfl λ w4 df f4 s4=>⟨rfl,λ _=>⟨dl,b,p,G,df,h3.dT.ao f4 (λ k hk q=>(h.rf k hk).2.1 q),h3.wr.ao f4 (λ k hk q=>(h.gf k hk).2.1 q),h3.iW.ao f4 (λ q=>h.pf.2 q),λ k hk=>⟨.inl (h.rf k hk).1,(h.rf k hk).2⟩,λ k hk=>⟨.inl (h.gf k hk).1,(h.gf k hk).2⟩,⟨.inl h.pf.1,h.pf.2⟩,.inl h.mem⟩,?_⟩);exact(f13.mono λ _ _ t=>t.elim).comp f4 λ k _ q=>by have:k=g:=q;rw[this];exact h.mem
 have hk:m.kind≠5:=hk;rw[if_neg hk];exact⟨rfl,λ _=>h2.mono λ k hk=>.inl hk,f12.mono λ _ _ t=>t.elim⟩
theorem JS (h:gj w F g l)(ho:p8 l)(m:bu)(hm:bj m.t<=1000000)(ht:TabW w)(gE:Int):
  au 107 #[aZ g,ke m.e,aa gE] w λ r w'=>r=aa (gT l m gE)/\Fr none1 w w':=by
 have nk:=ho.num;refine c107 _ m.e gE w _ ?_;unfold C107 gT;refine aC.of λ g1 w1 eG aE f1 _=>aU.of λ w2 _ f2=>bL.of (λ k=>k=g1) ?_;have e2:nC w2 g1 m:=f2.ag aE;have f12:=f1.trans f2;refine⟨rfl,aF.aR (cks:=ky) (x:=m.e) e2 ?_⟩;refine an.of (JO (h.ag f12) ab) ?_;rintro _ w3 ⟨c,rfl,hc,f3⟩;refine⟨some ⟨c,0,none⟩,rfl,az.of f3 ?_⟩;refine an.of (WO hc (λ k hk=>hk.2) ho m hm (ht.ag (f12.trans f3)) gE) ?_;rintro _ w4 ⟨rfl,_,f4⟩;exact⟨_,rfl,az.on f4 (λ k hk q=>by have:=q.1;have:=f2.size;have:=cQ aE;omega) ⟨rfl,(f12.trans f3).comp f4 λ k hk q=>by have:=q.1;have:=f12.size;omega⟩⟩
theorem agx (h:gj w F g l)(hF:∀ k,F k->k<w.heap.size)(ho:p8 l)(m:bu)(hm:bj m.t<=1000000)(ht:TabW w)(gE:Int):
  au 178 #[aZ g,ke m.e,aa gE] w λ r w'=>r=aa (jo l m gE).2/\gj w' (λ k=>F k\/cD w w' k) g (jo l m gE).1/\Fr (only g) w w':=by
 have nk:=ho.num;refine c178 _ m.e gE w _ ?_;unfold C178;refine aC.of λ g1 w1 eG aE f1 _=>?_;have e1:nC w1 g1 m:=aE;refine an.of (JO (h.ag f1) ab) ?_;rintro _ w2 ⟨c,rfl,hc,f2⟩;have f12:=f1.trans f2;refine⟨some ⟨c,0,none⟩,rfl,aF.aR (cks:=ky) (x:=m.e) (e1.ag f2) ?_⟩;refine an.of (WO hc (λ k hk=>hk.2) ho m hm (ht.ag f12) gE) ?_;rintro _ w3 ⟨rfl,h3,f3⟩;have s1:=f1.size;have s2:=f2.size;have s3:=f3.size;have f13:Fr none1 w w3:=f12.comp f3 λ k hk q=>by have:=q.1;omega
 refine⟨_,rfl,ae.eq (λ he=>?_) (λ he=>?_)⟩
 ·have he:(jo l m gE).2=0:=he
  have h3:=h3 he;generalize(jo l m gE).1=l2 at *;obtain⟨dl,b,p,G,h3⟩:=h3;obtain⟨dl0,b0,p0,G0,h⟩:=h;have gl:=hF g h.mem;have nw:∀ k,(cD w1 w2 k\/cD w2 w3 k)->w.heap.size<=k/\k<w3.heap.size:=λ k hk=>by rcases hk with q | q<;>exact⟨by have:=q.1;omega,by have:=q.2;omega⟩
  refine aF.aR (cks:=[.int .i64,.bE,.ptr,.map]) (x:=(l2.day,dl,some ⟨b,0,none⟩,some p,())) h3.aR ?_;refine aG.aR (f13.ag h.aR) rfl rfl λ w4 df f4 s4=>?_;refine⟨rfl,⟨dl,b,p,G,df,h3.dT.ao f4 (λ k hk q=>?_),h3.wr.ao f4 (λ k hk q=>?_),h3.iW.ao f4 (λ q=>?_),λ k hk=>?_,λ k hk=>?_,?_,.inl h.mem⟩,f13.fN f4⟩
  ·have:=nw k (h3.rf k hk).1;have:k=g:=q;omega
  ·have:=nw k (h3.gf k hk).1;have:k=g:=q;omega
  ·have:=nw p h3.pf.1;have:p=g:=q;omega
  ·have q:=nw k (h3.rf k hk).1
   exact⟨.inr ⟨q.1,by omega⟩,by omega,(h3.rf k hk).2.2⟩
  ·have q:=nw k (h3.gf k hk).1
   exact⟨.inr ⟨q.1,by omega⟩,by omega,(h3.gf k hk).2.2⟩
  ·have q:=nw p h3.pf.1
   exact⟨.inr ⟨q.1,by omega⟩,by omega⟩
 ·have he:(jo l m gE).2≠0:=he
  rw[abc he];exact⟨rfl,(h.ag f13).mono λ k hk=>.inl hk,f13.mono λ _ _ t=>t.elim⟩
theorem agy (hk:kb.length=16)(l hd z:Sl):(qm kb l hd).toArray.setIfInBounds 16 (.slice z.1 z.2.1 z.2.2)=(qm kb z hd).toArray:=by
 apply Array.ext';unfold qm;have:=l0 (kb:=kb);rw[Eb,Ee _ _ ab];simp[this,hk]
theorem agz (hk:kb.length=16)(l hd z:Sl):(qm kb l hd).toArray.setIfInBounds 17 (.slice z.1 z.2.1 z.2.2)=(qm kb l z).toArray:=by
 apply Array.ext';unfold qm;have:=l0 (kb:=kb);rw[Eb,Ee _ _ ab];simp[this,hk]
theorem WQ (hk:kb.length=16)(l hd:Sl):(qm kb l hd).toArray.size=18:=by
 unfold qm;have:=l0 (kb:=kb);simp[this,hk]
def yU (kb:ai)(es:List dS)(hs:List Int)(x:dS):Int:=if 64<=es.length then 5 else(dF kb (hs.getD es.length 0) x).2
theorem agA {es:List dS}{hs:List Int}(hk:kb.length=16)(h:lZ w F c kb es hs)(hF:∀ k,F k->k<w.heap.size)(hl:hs.length=es.length+1)(uO:es.length<=1000)(hr:∀ n∈hs,0<=n/\n<18446744073709551616)
  {x:dS} (hx:eT x.1) (ht:TabW w) :
  au 177 #[aZ c,.agg (lK x).toArray] w λ r w'=>r=aa (yU kb es hs x)/\(yU kb es hs x=0->lZ w' (λ k=>F k\/cD w w' k) c kb (es++[x]) (hs++[(dF kb (hs.getD es.length 0) x).1]))/\Fr (only c) w w':=by
 have hR:=h;obtain⟨⟨l,hd,h1,h2,h3,h4,h5⟩,hm⟩:=h;refine c177 _ (od x.1.e x.2) w _ ?_;unfold C177 yU;refine aC.of λ g1 wa eG aE fa _=>?_;have e2:=h2.len;rw[tt] at e2;have bad:∀ {w':ah} {n:Int} {P:Prop},n≠0->Fr none1 w w'->(n=0->P)/\Fr (only c) w w':=λ hn f=>⟨λ t=>absurd t hn,f.mono λ _ _ t=>t.elim⟩;refine af.aw (fa.ag h1) (x:=l) (by rw[eP];exact(uB hk l hd).1) (ae.dec (λ FH=>?_) (λ FH=>?_))
 ·rw[if_pos ab];exact⟨rfl,bad ar fa⟩
 rw[if_neg ab];refine aU.of λ wb _ fb=>bL.all ?_;have GB:=fa.trans fb;refine aJ.all (WE hk (GB.ag h1) (aJ.all (aF.aR (cks:=qQ) (x:=od x.1.e x.2) (fb.ag aE) ?_)));refine an.of (JK hk (hR.ag GB) hl uO) ?_;have hh:0<=hs.getD es.length 0/\hs.getD es.length 0<18446744073709551616:=by
  rw[dB,cV (show es.length<hs.length by omega)];exact hr _ (nQ _)
 generalize hs.getD es.length 0=Ap at *;rintro _ wc ⟨rfl,fc⟩;refine⟨_,rfl,az.of fc ?_⟩;refine an.of (O6 hk hh.1 hh.2 hx (ht.ag (GB.trans fc))) ?_;rintro _ wd ⟨rfl,fd⟩;generalize dF kb Ap x=N at *;obtain⟨n,e⟩:=N;refine⟨(n,e,()),rfl,ae.ne (λ aL=>⟨rfl,bad aL ((GB.trans fc).trans fd)⟩) (λ he=>?_)⟩;have he:e=0:=he;subst he;refine aU.of λ w0 _ fe=>bL.of (λ k=>k<w0.heap.size) ?_;have f0:Fr none1 w w0:=((GB.trans fc).trans fd).trans fe;have hc:=f0.ag h1;have HL:=h2.ag f0;have HH:=h3.ag f0;have z0:=f0.size;have gw:=cQ hc;have wL:=((fc.trans fd).trans fe).ag (fb.ag aE);have o9:=cQ wL;have BL:∀ k,aH l k->k<w0.heap.size:=λ k hk=>aV.lt HL hk;have BH:∀ k,aH hd k->k<w0.heap.size:=λ k hk=>aV.lt HH hk;have e3:=h3.len;rw[eI,jg] at e3;refine⟨by rw[eN];exact gw,af.aw hc (x:=l) (by rw[eP];exact(uB hk l hd).1) ⟨o9,aF.aR (cks:=qQ) (x:=od x.1.e x.2) wL ⟨by rw[eN];exact gw,af.aw hc (x:=hd) (by rw[eP];exact(uB hk l hd).2) ?_⟩⟩⟩;have fin:∀ {w9:ah} {z q:Sl},Fr none1 w0 w9->w9.heap[c]? = some (.cells (qm kb l hd).toArray 113 (0,0))->aV w9 68 9 z (vz es++lK x)->aV w9 42 1 q (hs.map O4++[.int .u64 n])->(∀ k,aH z k->w0.heap.size<=k)->(∀ k,aH q k->w0.heap.size<=k) ->
   aK ((⟨c,0,none⟩:Addr).add 16) (.slice z.1 z.2.1 z.2.2) w9 λ aX=>aK ((⟨c,0,none⟩:Addr).add 17) (.slice q.1 q.2.1 q.2.2) aX λ bt=>(Value.int .i64 0=aa 0/\((0:Int)=0->lZ bt (λ k=>F k\/cD w bt k) c kb (es++[x]) (hs++[n]))/\Fr (only c) w bt):=by
  intro w9 z q f9 hc9 hz hq zb qb;refine aK.aw hc9 (by rw[WQ hk];decide) rfl λ aX oK f10 wT=>?_;rw[eP,agy hk] at oK;refine aK.aw oK (by rw[WQ hk];decide) rfl λ bt ud f11 Gt=>?_;rw[eP,agz hk] at ud;have ff:=f10.trans f11;have s9:=f9.size;refine⟨rfl,λ _=>⟨⟨z,q,ud,?_,?_,λ k ja=>?_,λ k ja=>?_⟩,.inl hm⟩,(f0.trans f9).fN ff⟩
  ·have:vz (es++[x])=vz es++lK x:=by unfold vz;simp
   rw[this];exact hz.ao ff λ k ja t=>by have:=zb k ja;have:k=c:=t;omega
  ·rw[jG]
   exact hq.ao ff λ k ja t=>by have:=qb k ja;have:k=c:=t;omega
  ·have:=zb k ja;have:=aV.lt hz ja;exact⟨.inr ⟨by omega,by omega⟩,by omega⟩
  ·have:=qb k ja;have:=aV.lt hq ja;exact⟨.inr ⟨by omega,by omega⟩,by omega⟩
 have FT:=Fr.refl none1 w0;refine⟨?_,?_⟩
 ·skip
  refine an.of (Bi HL.rd (Bj _) ab) ?_;rintro _ w1 ⟨u,rfl,Hu,f,xf⟩;refine⟨u,rfl,?_⟩;have s1:=f.size
  try refine az.of f ?_
  have Bu:∀ k,aH u k->w0.heap.size<=k/\k<w1.heap.size:=λ k hk=>⟨xf k hk,aV.lt Hu hk⟩;have FT:=FT.trans f;have hc:=f.ag hc;have HL:=HL.ag f;have HH:=HH.ag f;refine⟨?_,?_⟩
  ·skip
   obtain⟨y,w2,hr,Hy,gG,f,xf⟩:=po (P:=Tryz.prog) (w:=w1) ra (lK x) rfl ar;refine⟨y,w2,hr,?_⟩;have s2:=f.size
   try refine az.of f ?_
   have By:∀ k,aH y k->w1.heap.size<=k/\k<w2.heap.size:=λ k hk=>⟨xf k hk,aV.lt Hy hk⟩;have FT:=FT.trans f;have hc:=f.ag hc;have HL:=HL.ag f;have HH:=HH.ag f;have Hu:=Hu.ag f;refine⟨?_,?_⟩
   ·skip
    have dP:=Hu.len;rw[tt] at dP;obtain⟨z,w3,hr,Hz,_,f,xf⟩:=jf ra 65 Hu Hy.rd (xq x) ab;refine⟨z,w3,hr,?_⟩;have s3:=f.size
    try refine az.on f (λ k hk t=>by have hk:k<w0.heap.size:=hk;have:=Bu k t;omega) ?_
    have Bz:∀ k,aH z k->(w0.heap.size<=k/\k<w1.heap.size)\/(w2.heap.size<=k/\k<w3.heap.size):=λ k hk=>(xf k hk).elim (λ t=>.inl (Bu k t)) (λ t=>.inr ⟨t,aV.lt Hz hk⟩);have FT:=FT.comp f λ k hk t=>by have:=Bu k t;omega
    have hc:=f.ao hc λ t=>by have:=Bu c t;omega
    have HL:=HL.ao f λ k hk t=>by have:=BL k hk;have:=Bu k t;omega
    have HH:=HH.ao f λ k hk t=>by have:=BH k hk;have:=Bu k t;omega
    refine⟨?_,?_⟩
    ·skip
     refine an.of (uz HH.rd (uA _) ab) ?_;rintro _ w4 ⟨v,rfl,Hv,f,xf⟩;refine⟨v,rfl,?_⟩;have s4:=f.size
     try refine az.of f ?_
     have Bv:∀ k,aH v k->w3.heap.size<=k/\k<w4.heap.size:=λ k hk=>⟨xf k hk,aV.lt Hv hk⟩;have FT:=FT.trans f;have hc:=f.ag hc;have HL:=HL.ag f;have HH:=HH.ag f;have Hz:=Hz.ag f;obtain⟨p,w5,hr,Hp,rP,f,xf⟩:=oT (P:=Tryz.prog) (w:=w4) mF (.int .u64 n) rfl;refine⟨p,w5,hr,?_⟩;have s5:=f.size
     try refine az.of f ?_
     have Bp:∀ k,aH p k->w4.heap.size<=k/\k<w5.heap.size:=λ k hk=>⟨xf k hk,aV.lt Hp hk⟩;have FT:=FT.trans f;have hc:=f.ag hc;have HL:=HL.ag f;have HH:=HH.ag f;have Hz:=Hz.ag f;have Hv:=Hv.ag f;have dD:=Hv.len;rw[eI,jg] at dD;obtain⟨q,w6,hr,Hq,_,f,xf⟩:=jf mF 111 Hv Hp.rd (by intro t ht;simp at ht;subst ht;rfl) ab;refine⟨q,w6,hr,?_⟩;have s6:=f.size
     try refine az.on f (λ k hk t=>by have hk:k<w0.heap.size:=hk;have:=Bv k t;omega) ?_
     have Bq:∀ k,aH q k->(w3.heap.size<=k/\k<w4.heap.size)\/(w5.heap.size<=k/\k<w6.heap.size):=λ k hk=>(xf k hk).elim (λ t=>.inl (Bv k t)) (λ t=>.inr ⟨t,aV.lt Hq hk⟩);have FT:=FT.comp f λ k hk t=>by have:=Bv k t;omega
     have hc:=f.ao hc λ t=>by have:=Bv c t;omega
     have HL:=HL.ao f λ k hk t=>by have:=BL k hk;have:=Bv k t;omega
     have HH:=HH.ao f λ k hk t=>by have:=BH k hk;have:=Bv k t;omega
     have Hz:=Hz.ao f λ k hk t=>by have:=Bz k hk;have:=Bv k t;omega
     exact fin FT hc Hz Hq (λ k hk=>by have:=Bz k hk;omega) (λ k hk=>by have:=Bq k hk;omega)
    ·skip
     obtain⟨p,w4,hr,Hp,rP,f,xf⟩:=oT (P:=Tryz.prog) (w:=w3) mF (.int .u64 n) rfl;refine⟨p,w4,hr,?_⟩;have s4:=f.size
     try refine az.of f ?_
     have Bp:∀ k,aH p k->w3.heap.size<=k/\k<w4.heap.size:=λ k hk=>⟨xf k hk,aV.lt Hp hk⟩;have FT:=FT.trans f;have hc:=f.ag hc;have HL:=HL.ag f;have HH:=HH.ag f;have Hz:=Hz.ag f;refine an.of (uz HH.rd (uA _) ab) ?_;rintro _ w5 ⟨v,rfl,Hv,f,xf⟩;refine⟨v,rfl,?_⟩;have s5:=f.size
     try refine az.of f ?_
     have Bv:∀ k,aH v k->w4.heap.size<=k/\k<w5.heap.size:=λ k hk=>⟨xf k hk,aV.lt Hv hk⟩;have FT:=FT.trans f;have hc:=f.ag hc;have HL:=HL.ag f;have HH:=HH.ag f;have Hz:=Hz.ag f;have Hp:=Hp.ag f;have dD:=Hv.len;rw[eI,jg] at dD;obtain⟨q,w6,hr,Hq,_,f,xf⟩:=jf mF 111 Hv Hp.rd (by intro t ht;simp at ht;subst ht;rfl) ab;refine⟨q,w6,hr,?_⟩;have s6:=f.size
     try refine az.on f (λ k hk t=>by have hk:k<w0.heap.size:=hk;have:=Bv k t;omega) ?_
     have Bq:∀ k,aH q k->(w4.heap.size<=k/\k<w5.heap.size)\/(w5.heap.size<=k/\k<w6.heap.size):=λ k hk=>(xf k hk).elim (λ t=>.inl (Bv k t)) (λ t=>.inr ⟨t,aV.lt Hq hk⟩);have FT:=FT.comp f λ k hk t=>by have:=Bv k t;omega
     have hc:=f.ao hc λ t=>by have:=Bv c t;omega
     have HL:=HL.ao f λ k hk t=>by have:=BL k hk;have:=Bv k t;omega
     have HH:=HH.ao f λ k hk t=>by have:=BH k hk;have:=Bv k t;omega
     have Hz:=Hz.ao f λ k hk t=>by have:=Bz k hk;have:=Bv k t;omega
     exact fin FT hc Hz Hq (λ k hk=>by have:=Bz k hk;omega) (λ k hk=>by have:=Bq k hk;omega)
   ·skip
    obtain⟨p,w3,hr,Hp,rP,f,xf⟩:=oT (P:=Tryz.prog) (w:=w2) mF (.int .u64 n) rfl;refine⟨p,w3,hr,?_⟩;have s3:=f.size
    try refine az.of f ?_
    have Bp:∀ k,aH p k->w2.heap.size<=k/\k<w3.heap.size:=λ k hk=>⟨xf k hk,aV.lt Hp hk⟩;have FT:=FT.trans f;have hc:=f.ag hc;have HL:=HL.ag f;have HH:=HH.ag f;have Hu:=Hu.ag f;have Hy:=Hy.ag f;have dP:=Hu.len;rw[tt] at dP;obtain⟨z,w4,hr,Hz,_,f,xf⟩:=jf ra 65 Hu Hy.rd (xq x) ab;refine⟨z,w4,hr,?_⟩;have s4:=f.size
    try refine az.on f (λ k hk t=>by have hk:k<w0.heap.size:=hk;have:=Bu k t;omega) ?_
    have Bz:∀ k,aH z k->(w0.heap.size<=k/\k<w1.heap.size)\/(w3.heap.size<=k/\k<w4.heap.size):=λ k hk=>(xf k hk).elim (λ t=>.inl (Bu k t)) (λ t=>.inr ⟨t,aV.lt Hz hk⟩);have FT:=FT.comp f λ k hk t=>by have:=Bu k t;omega
    have hc:=f.ao hc λ t=>by have:=Bu c t;omega
    have HL:=HL.ao f λ k hk t=>by have:=BL k hk;have:=Bu k t;omega
    have HH:=HH.ao f λ k hk t=>by have:=BH k hk;have:=Bu k t;omega
    have Hp:=Hp.ao f λ k hk t=>by have:=Bp k hk;have:=Bu k t;omega
    refine an.of (uz HH.rd (uA _) ab) ?_;rintro _ w5 ⟨v,rfl,Hv,f,xf⟩;refine⟨v,rfl,?_⟩;have s5:=f.size
    try refine az.of f ?_
    have Bv:∀ k,aH v k->w4.heap.size<=k/\k<w5.heap.size:=λ k hk=>⟨xf k hk,aV.lt Hv hk⟩;have FT:=FT.trans f;have hc:=f.ag hc;have HL:=HL.ag f;have HH:=HH.ag f;have Hp:=Hp.ag f;have Hz:=Hz.ag f;have dD:=Hv.len;rw[eI,jg] at dD;obtain⟨q,w6,hr,Hq,_,f,xf⟩:=jf mF 111 Hv Hp.rd (by intro t ht;simp at ht;subst ht;rfl) ab;refine⟨q,w6,hr,?_⟩;have s6:=f.size
    try refine az.on f (λ k hk t=>by have hk:k<w0.heap.size:=hk;have:=Bv k t;omega) ?_
    have Bq:∀ k,aH q k->(w4.heap.size<=k/\k<w5.heap.size)\/(w5.heap.size<=k/\k<w6.heap.size):=λ k hk=>(xf k hk).elim (λ t=>.inl (Bv k t)) (λ t=>.inr ⟨t,aV.lt Hq hk⟩);have FT:=FT.comp f λ k hk t=>by have:=Bv k t;omega
    have hc:=f.ao hc λ t=>by have:=Bv c t;omega
    have HL:=HL.ao f λ k hk t=>by have:=BL k hk;have:=Bv k t;omega
    have HH:=HH.ao f λ k hk t=>by have:=BH k hk;have:=Bv k t;omega
    have Hz:=Hz.ao f λ k hk t=>by have:=Bz k hk;have:=Bv k t;omega
    exact fin FT hc Hz Hq (λ k hk=>by have:=Bz k hk;omega) (λ k hk=>by have:=Bq k hk;omega)
  ·skip
   obtain⟨p,w2,hr,Hp,rP,f,xf⟩:=oT (P:=Tryz.prog) (w:=w1) mF (.int .u64 n) rfl;refine⟨p,w2,hr,?_⟩;have s2:=f.size
   try refine az.of f ?_
   have Bp:∀ k,aH p k->w1.heap.size<=k/\k<w2.heap.size:=λ k hk=>⟨xf k hk,aV.lt Hp hk⟩;have FT:=FT.trans f;have hc:=f.ag hc;have HL:=HL.ag f;have HH:=HH.ag f;have Hu:=Hu.ag f;obtain⟨y,w3,hr,Hy,gG,f,xf⟩:=po (P:=Tryz.prog) (w:=w2) ra (lK x) rfl ar;refine⟨y,w3,hr,?_⟩;have s3:=f.size
   try refine az.of f ?_
   have By:∀ k,aH y k->w2.heap.size<=k/\k<w3.heap.size:=λ k hk=>⟨xf k hk,aV.lt Hy hk⟩;have FT:=FT.trans f;have hc:=f.ag hc;have HL:=HL.ag f;have HH:=HH.ag f;have Hu:=Hu.ag f;have Hp:=Hp.ag f;have dP:=Hu.len;rw[tt] at dP;obtain⟨z,w4,hr,Hz,_,f,xf⟩:=jf ra 65 Hu Hy.rd (xq x) ab;refine⟨z,w4,hr,?_⟩;have s4:=f.size
   try refine az.on f (λ k hk t=>by have hk:k<w0.heap.size:=hk;have:=Bu k t;omega) ?_
   have Bz:∀ k,aH z k->(w0.heap.size<=k/\k<w1.heap.size)\/(w3.heap.size<=k/\k<w4.heap.size):=λ k hk=>(xf k hk).elim (λ t=>.inl (Bu k t)) (λ t=>.inr ⟨t,aV.lt Hz hk⟩);have FT:=FT.comp f λ k hk t=>by have:=Bu k t;omega
   have hc:=f.ao hc λ t=>by have:=Bu c t;omega
   have HL:=HL.ao f λ k hk t=>by have:=BL k hk;have:=Bu k t;omega
   have HH:=HH.ao f λ k hk t=>by have:=BH k hk;have:=Bu k t;omega
   have Hp:=Hp.ao f λ k hk t=>by have:=Bp k hk;have:=Bu k t;omega
   refine an.of (uz HH.rd (uA _) ab) ?_;rintro _ w5 ⟨v,rfl,Hv,f,xf⟩;refine⟨v,rfl,?_⟩;have s5:=f.size
   try refine az.of f ?_
   have Bv:∀ k,aH v k->w4.heap.size<=k/\k<w5.heap.size:=λ k hk=>⟨xf k hk,aV.lt Hv hk⟩;have FT:=FT.trans f;have hc:=f.ag hc;have HL:=HL.ag f;have HH:=HH.ag f;have Hp:=Hp.ag f;have Hz:=Hz.ag f;have dD:=Hv.len;rw[eI,jg] at dD;obtain⟨q,w6,hr,Hq,_,f,xf⟩:=jf mF 111 Hv Hp.rd (by intro t ht;simp at ht;subst ht;rfl) ab;refine⟨q,w6,hr,?_⟩;have s6:=f.size
   try refine az.on f (λ k hk t=>by have hk:k<w0.heap.size:=hk;have:=Bv k t;omega) ?_
   have Bq:∀ k,aH q k->(w4.heap.size<=k/\k<w5.heap.size)\/(w5.heap.size<=k/\k<w6.heap.size):=λ k hk=>(xf k hk).elim (λ t=>.inl (Bv k t)) (λ t=>.inr ⟨t,aV.lt Hq hk⟩);have FT:=FT.comp f λ k hk t=>by have:=Bv k t;omega
   have hc:=f.ao hc λ t=>by have:=Bv c t;omega
   have HL:=HL.ao f λ k hk t=>by have:=BL k hk;have:=Bv k t;omega
   have HH:=HH.ao f λ k hk t=>by have:=BH k hk;have:=Bv k t;omega
   have Hz:=Hz.ao f λ k hk t=>by have:=Bz k hk;have:=Bv k t;omega
   exact fin FT hc Hz Hq (λ k hk=>by have:=Bz k hk;omega) (λ k hk=>by have:=Bq k hk;omega)
 ·skip
  refine⟨?_,?_⟩
  ·skip
   obtain⟨y,w1,hr,Hy,gG,f,xf⟩:=po (P:=Tryz.prog) (w:=w0) ra (lK x) rfl ar;refine⟨y,w1,hr,?_⟩;have s1:=f.size
   try refine az.of f ?_
   have By:∀ k,aH y k->w0.heap.size<=k/\k<w1.heap.size:=λ k hk=>⟨xf k hk,aV.lt Hy hk⟩;have FT:=FT.trans f;have hc:=f.ag hc;have HL:=HL.ag f;have HH:=HH.ag f;refine⟨?_,?_⟩
   ·skip
    refine an.of (Bi HL.rd (Bj _) ab) ?_;rintro _ w2 ⟨u,rfl,Hu,f,xf⟩;refine⟨u,rfl,?_⟩;have s2:=f.size
    try refine az.of f ?_
    have Bu:∀ k,aH u k->w1.heap.size<=k/\k<w2.heap.size:=λ k hk=>⟨xf k hk,aV.lt Hu hk⟩;have FT:=FT.trans f;have hc:=f.ag hc;have HL:=HL.ag f;have HH:=HH.ag f;have Hy:=Hy.ag f;refine⟨?_,?_⟩
    ·skip
     have dP:=Hu.len;rw[tt] at dP;obtain⟨z,w3,hr,Hz,_,f,xf⟩:=jf ra 65 Hu Hy.rd (xq x) ab;refine⟨z,w3,hr,?_⟩;have s3:=f.size
     try refine az.on f (λ k hk t=>by have hk:k<w0.heap.size:=hk;have:=Bu k t;omega) ?_
     have Bz:∀ k,aH z k->(w1.heap.size<=k/\k<w2.heap.size)\/(w2.heap.size<=k/\k<w3.heap.size):=λ k hk=>(xf k hk).elim (λ t=>.inl (Bu k t)) (λ t=>.inr ⟨t,aV.lt Hz hk⟩);have FT:=FT.comp f λ k hk t=>by have:=Bu k t;omega
     have hc:=f.ao hc λ t=>by have:=Bu c t;omega
     have HL:=HL.ao f λ k hk t=>by have:=BL k hk;have:=Bu k t;omega
     have HH:=HH.ao f λ k hk t=>by have:=BH k hk;have:=Bu k t;omega
     refine⟨?_,?_⟩
     ·skip
      refine an.of (uz HH.rd (uA _) ab) ?_;rintro _ w4 ⟨v,rfl,Hv,f,xf⟩;refine⟨v,rfl,?_⟩;have s4:=f.size
      try refine az.of f ?_
      have Bv:∀ k,aH v k->w3.heap.size<=k/\k<w4.heap.size:=λ k hk=>⟨xf k hk,aV.lt Hv hk⟩;have FT:=FT.trans f;have hc:=f.ag hc;have HL:=HL.ag f;have HH:=HH.ag f;have Hz:=Hz.ag f;obtain⟨p,w5,hr,Hp,rP,f,xf⟩:=oT (P:=Tryz.prog) (w:=w4) mF (.int .u64 n) rfl;refine⟨p,w5,hr,?_⟩;have s5:=f.size
      try refine az.of f ?_
      have Bp:∀ k,aH p k->w4.heap.size<=k/\k<w5.heap.size:=λ k hk=>⟨xf k hk,aV.lt Hp hk⟩;have FT:=FT.trans f;have hc:=f.ag hc;have HL:=HL.ag f;have HH:=HH.ag f;have Hz:=Hz.ag f;have Hv:=Hv.ag f;have dD:=Hv.len;rw[eI,jg] at dD;obtain⟨q,w6,hr,Hq,_,f,xf⟩:=jf mF 111 Hv Hp.rd (by intro t ht;simp at ht;subst ht;rfl) ab;refine⟨q,w6,hr,?_⟩;have s6:=f.size
      try refine az.on f (λ k hk t=>by have hk:k<w0.heap.size:=hk;have:=Bv k t;omega) ?_
      have Bq:∀ k,aH q k->(w3.heap.size<=k/\k<w4.heap.size)\/(w5.heap.size<=k/\k<w6.heap.size):=λ k hk=>(xf k hk).elim (λ t=>.inl (Bv k t)) (λ t=>.inr ⟨t,aV.lt Hq hk⟩);have FT:=FT.comp f λ k hk t=>by have:=Bv k t;omega
      have hc:=f.ao hc λ t=>by have:=Bv c t;omega
      have HL:=HL.ao f λ k hk t=>by have:=BL k hk;have:=Bv k t;omega
      have HH:=HH.ao f λ k hk t=>by have:=BH k hk;have:=Bv k t;omega
      have Hz:=Hz.ao f λ k hk t=>by have:=Bz k hk;have:=Bv k t;omega
      exact fin FT hc Hz Hq (λ k hk=>by have:=Bz k hk;omega) (λ k hk=>by have:=Bq k hk;omega)
     ·skip
      obtain⟨p,w4,hr,Hp,rP,f,xf⟩:=oT (P:=Tryz.prog) (w:=w3) mF (.int .u64 n) rfl;refine⟨p,w4,hr,?_⟩;have s4:=f.size
      try refine az.of f ?_
      have Bp:∀ k,aH p k->w3.heap.size<=k/\k<w4.heap.size:=λ k hk=>⟨xf k hk,aV.lt Hp hk⟩;have FT:=FT.trans f;have hc:=f.ag hc;have HL:=HL.ag f;have HH:=HH.ag f;have Hz:=Hz.ag f;refine an.of (uz HH.rd (uA _) ab) ?_;rintro _ w5 ⟨v,rfl,Hv,f,xf⟩;refine⟨v,rfl,?_⟩;have s5:=f.size
      try refine az.of f ?_
      have Bv:∀ k,aH v k->w4.heap.size<=k/\k<w5.heap.size:=λ k hk=>⟨xf k hk,aV.lt Hv hk⟩;have FT:=FT.trans f;have hc:=f.ag hc;have HL:=HL.ag f;have HH:=HH.ag f;have Hz:=Hz.ag f;have Hp:=Hp.ag f;have dD:=Hv.len;rw[eI,jg] at dD;obtain⟨q,w6,hr,Hq,_,f,xf⟩:=jf mF 111 Hv Hp.rd (by intro t ht;simp at ht;subst ht;rfl) ab;refine⟨q,w6,hr,?_⟩;have s6:=f.size
      try refine az.on f (λ k hk t=>by have hk:k<w0.heap.size:=hk;have:=Bv k t;omega) ?_
      have Bq:∀ k,aH q k->(w4.heap.size<=k/\k<w5.heap.size)\/(w5.heap.size<=k/\k<w6.heap.size):=λ k hk=>(xf k hk).elim (λ t=>.inl (Bv k t)) (λ t=>.inr ⟨t,aV.lt Hq hk⟩);have FT:=FT.comp f λ k hk t=>by have:=Bv k t;omega
      have hc:=f.ao hc λ t=>by have:=Bv c t;omega
      have HL:=HL.ao f λ k hk t=>by have:=BL k hk;have:=Bv k t;omega
      have HH:=HH.ao f λ k hk t=>by have:=BH k hk;have:=Bv k t;omega
      have Hz:=Hz.ao f λ k hk t=>by have:=Bz k hk;have:=Bv k t;omega
      exact fin FT hc Hz Hq (λ k hk=>by have:=Bz k hk;omega) (λ k hk=>by have:=Bq k hk;omega)
    ·skip
     obtain⟨p,w3,hr,Hp,rP,f,xf⟩:=oT (P:=Tryz.prog) (w:=w2) mF (.int .u64 n) rfl;refine⟨p,w3,hr,?_⟩;have s3:=f.size
     try refine az.of f ?_
     have Bp:∀ k,aH p k->w2.heap.size<=k/\k<w3.heap.size:=λ k hk=>⟨xf k hk,aV.lt Hp hk⟩;have FT:=FT.trans f;have hc:=f.ag hc;have HL:=HL.ag f;have HH:=HH.ag f;have Hy:=Hy.ag f;have Hu:=Hu.ag f;have dP:=Hu.len;rw[tt] at dP;obtain⟨z,w4,hr,Hz,_,f,xf⟩:=jf ra 65 Hu Hy.rd (xq x) ab;refine⟨z,w4,hr,?_⟩;have s4:=f.size
     try refine az.on f (λ k hk t=>by have hk:k<w0.heap.size:=hk;have:=Bu k t;omega) ?_
     have Bz:∀ k,aH z k->(w1.heap.size<=k/\k<w2.heap.size)\/(w3.heap.size<=k/\k<w4.heap.size):=λ k hk=>(xf k hk).elim (λ t=>.inl (Bu k t)) (λ t=>.inr ⟨t,aV.lt Hz hk⟩);have FT:=FT.comp f λ k hk t=>by have:=Bu k t;omega
     have hc:=f.ao hc λ t=>by have:=Bu c t;omega
     have HL:=HL.ao f λ k hk t=>by have:=BL k hk;have:=Bu k t;omega
     have HH:=HH.ao f λ k hk t=>by have:=BH k hk;have:=Bu k t;omega
     have Hp:=Hp.ao f λ k hk t=>by have:=Bp k hk;have:=Bu k t;omega
     refine an.of (uz HH.rd (uA _) ab) ?_;rintro _ w5 ⟨v,rfl,Hv,f,xf⟩;refine⟨v,rfl,?_⟩;have s5:=f.size
     try refine az.of f ?_
     have Bv:∀ k,aH v k->w4.heap.size<=k/\k<w5.heap.size:=λ k hk=>⟨xf k hk,aV.lt Hv hk⟩;have FT:=FT.trans f;have hc:=f.ag hc;have HL:=HL.ag f;have HH:=HH.ag f;have Hp:=Hp.ag f;have Hz:=Hz.ag f;have dD:=Hv.len;rw[eI,jg] at dD;obtain⟨q,w6,hr,Hq,_,f,xf⟩:=jf mF 111 Hv Hp.rd (by intro t ht;simp at ht;subst ht;rfl) ab;refine⟨q,w6,hr,?_⟩;have s6:=f.size
     try refine az.on f (λ k hk t=>by have hk:k<w0.heap.size:=hk;have:=Bv k t;omega) ?_
     have Bq:∀ k,aH q k->(w4.heap.size<=k/\k<w5.heap.size)\/(w5.heap.size<=k/\k<w6.heap.size):=λ k hk=>(xf k hk).elim (λ t=>.inl (Bv k t)) (λ t=>.inr ⟨t,aV.lt Hq hk⟩);have FT:=FT.comp f λ k hk t=>by have:=Bv k t;omega
     have hc:=f.ao hc λ t=>by have:=Bv c t;omega
     have HL:=HL.ao f λ k hk t=>by have:=BL k hk;have:=Bv k t;omega
     have HH:=HH.ao f λ k hk t=>by have:=BH k hk;have:=Bv k t;omega
     have Hz:=Hz.ao f λ k hk t=>by have:=Bz k hk;have:=Bv k t;omega
     exact fin FT hc Hz Hq (λ k hk=>by have:=Bz k hk;omega) (λ k hk=>by have:=Bq k hk;omega)
   ·skip
    obtain⟨p,w2,hr,Hp,rP,f,xf⟩:=oT (P:=Tryz.prog) (w:=w1) mF (.int .u64 n) rfl;refine⟨p,w2,hr,?_⟩;have s2:=f.size
    try refine az.of f ?_
    have Bp:∀ k,aH p k->w1.heap.size<=k/\k<w2.heap.size:=λ k hk=>⟨xf k hk,aV.lt Hp hk⟩;have FT:=FT.trans f;have hc:=f.ag hc;have HL:=HL.ag f;have HH:=HH.ag f;have Hy:=Hy.ag f;refine an.of (Bi HL.rd (Bj _) ab) ?_;rintro _ w3 ⟨u,rfl,Hu,f,xf⟩;refine⟨u,rfl,?_⟩;have s3:=f.size
    try refine az.of f ?_
    have Bu:∀ k,aH u k->w2.heap.size<=k/\k<w3.heap.size:=λ k hk=>⟨xf k hk,aV.lt Hu hk⟩;have FT:=FT.trans f;have hc:=f.ag hc;have HL:=HL.ag f;have HH:=HH.ag f;have Hy:=Hy.ag f;have Hp:=Hp.ag f;have dP:=Hu.len;rw[tt] at dP;obtain⟨z,w4,hr,Hz,_,f,xf⟩:=jf ra 65 Hu Hy.rd (xq x) ab;refine⟨z,w4,hr,?_⟩;have s4:=f.size
    try refine az.on f (λ k hk t=>by have hk:k<w0.heap.size:=hk;have:=Bu k t;omega) ?_
    have Bz:∀ k,aH z k->(w2.heap.size<=k/\k<w3.heap.size)\/(w3.heap.size<=k/\k<w4.heap.size):=λ k hk=>(xf k hk).elim (λ t=>.inl (Bu k t)) (λ t=>.inr ⟨t,aV.lt Hz hk⟩);have FT:=FT.comp f λ k hk t=>by have:=Bu k t;omega
    have hc:=f.ao hc λ t=>by have:=Bu c t;omega
    have HL:=HL.ao f λ k hk t=>by have:=BL k hk;have:=Bu k t;omega
    have HH:=HH.ao f λ k hk t=>by have:=BH k hk;have:=Bu k t;omega
    have Hp:=Hp.ao f λ k hk t=>by have:=Bp k hk;have:=Bu k t;omega
    refine an.of (uz HH.rd (uA _) ab) ?_;rintro _ w5 ⟨v,rfl,Hv,f,xf⟩;refine⟨v,rfl,?_⟩;have s5:=f.size
    try refine az.of f ?_
    have Bv:∀ k,aH v k->w4.heap.size<=k/\k<w5.heap.size:=λ k hk=>⟨xf k hk,aV.lt Hv hk⟩;have FT:=FT.trans f;have hc:=f.ag hc;have HL:=HL.ag f;have HH:=HH.ag f;have Hp:=Hp.ag f;have Hz:=Hz.ag f;have dD:=Hv.len;rw[eI,jg] at dD;obtain⟨q,w6,hr,Hq,_,f,xf⟩:=jf mF 111 Hv Hp.rd (by intro t ht;simp at ht;subst ht;rfl) ab;refine⟨q,w6,hr,?_⟩;have s6:=f.size
    try refine az.on f (λ k hk t=>by have hk:k<w0.heap.size:=hk;have:=Bv k t;omega) ?_
    have Bq:∀ k,aH q k->(w4.heap.size<=k/\k<w5.heap.size)\/(w5.heap.size<=k/\k<w6.heap.size):=λ k hk=>(xf k hk).elim (λ t=>.inl (Bv k t)) (λ t=>.inr ⟨t,aV.lt Hq hk⟩);have FT:=FT.comp f λ k hk t=>by have:=Bv k t;omega
    have hc:=f.ao hc λ t=>by have:=Bv c t;omega
    have HL:=HL.ao f λ k hk t=>by have:=BL k hk;have:=Bv k t;omega
    have HH:=HH.ao f λ k hk t=>by have:=BH k hk;have:=Bv k t;omega
    have Hz:=Hz.ao f λ k hk t=>by have:=Bz k hk;have:=Bv k t;omega
    exact fin FT hc Hz Hq (λ k hk=>by have:=Bz k hk;omega) (λ k hk=>by have:=Bq k hk;omega)
  ·skip
   obtain⟨p,w1,hr,Hp,rP,f,xf⟩:=oT (P:=Tryz.prog) (w:=w0) mF (.int .u64 n) rfl;refine⟨p,w1,hr,?_⟩;have s1:=f.size
   try refine az.of f ?_
   have Bp:∀ k,aH p k->w0.heap.size<=k/\k<w1.heap.size:=λ k hk=>⟨xf k hk,aV.lt Hp hk⟩;have FT:=FT.trans f;have hc:=f.ag hc;have HL:=HL.ag f;have HH:=HH.ag f;refine⟨?_,?_⟩
   ·skip
    refine an.of (Bi HL.rd (Bj _) ab) ?_;rintro _ w2 ⟨u,rfl,Hu,f,xf⟩;refine⟨u,rfl,?_⟩;have s2:=f.size
    try refine az.of f ?_
    have Bu:∀ k,aH u k->w1.heap.size<=k/\k<w2.heap.size:=λ k hk=>⟨xf k hk,aV.lt Hu hk⟩;have FT:=FT.trans f;have hc:=f.ag hc;have HL:=HL.ag f;have HH:=HH.ag f;have Hp:=Hp.ag f;obtain⟨y,w3,hr,Hy,gG,f,xf⟩:=po (P:=Tryz.prog) (w:=w2) ra (lK x) rfl ar;refine⟨y,w3,hr,?_⟩;have s3:=f.size
    try refine az.of f ?_
    have By:∀ k,aH y k->w2.heap.size<=k/\k<w3.heap.size:=λ k hk=>⟨xf k hk,aV.lt Hy hk⟩;have FT:=FT.trans f;have hc:=f.ag hc;have HL:=HL.ag f;have HH:=HH.ag f;have Hp:=Hp.ag f;have Hu:=Hu.ag f;have dP:=Hu.len;rw[tt] at dP;obtain⟨z,w4,hr,Hz,_,f,xf⟩:=jf ra 65 Hu Hy.rd (xq x) ab;refine⟨z,w4,hr,?_⟩;have s4:=f.size
    try refine az.on f (λ k hk t=>by have hk:k<w0.heap.size:=hk;have:=Bu k t;omega) ?_
    have Bz:∀ k,aH z k->(w1.heap.size<=k/\k<w2.heap.size)\/(w3.heap.size<=k/\k<w4.heap.size):=λ k hk=>(xf k hk).elim (λ t=>.inl (Bu k t)) (λ t=>.inr ⟨t,aV.lt Hz hk⟩);have FT:=FT.comp f λ k hk t=>by have:=Bu k t;omega
    have hc:=f.ao hc λ t=>by have:=Bu c t;omega
    have HL:=HL.ao f λ k hk t=>by have:=BL k hk;have:=Bu k t;omega
    have HH:=HH.ao f λ k hk t=>by have:=BH k hk;have:=Bu k t;omega
    have Hp:=Hp.ao f λ k hk t=>by have:=Bp k hk;have:=Bu k t;omega
    refine an.of (uz HH.rd (uA _) ab) ?_;rintro _ w5 ⟨v,rfl,Hv,f,xf⟩;refine⟨v,rfl,?_⟩;have s5:=f.size
    try refine az.of f ?_
    have Bv:∀ k,aH v k->w4.heap.size<=k/\k<w5.heap.size:=λ k hk=>⟨xf k hk,aV.lt Hv hk⟩;have FT:=FT.trans f;have hc:=f.ag hc;have HL:=HL.ag f;have HH:=HH.ag f;have Hp:=Hp.ag f;have Hz:=Hz.ag f;have dD:=Hv.len;rw[eI,jg] at dD;obtain⟨q,w6,hr,Hq,_,f,xf⟩:=jf mF 111 Hv Hp.rd (by intro t ht;simp at ht;subst ht;rfl) ab;refine⟨q,w6,hr,?_⟩;have s6:=f.size
    try refine az.on f (λ k hk t=>by have hk:k<w0.heap.size:=hk;have:=Bv k t;omega) ?_
    have Bq:∀ k,aH q k->(w4.heap.size<=k/\k<w5.heap.size)\/(w5.heap.size<=k/\k<w6.heap.size):=λ k hk=>(xf k hk).elim (λ t=>.inl (Bv k t)) (λ t=>.inr ⟨t,aV.lt Hq hk⟩);have FT:=FT.comp f λ k hk t=>by have:=Bv k t;omega
    have hc:=f.ao hc λ t=>by have:=Bv c t;omega
    have HL:=HL.ao f λ k hk t=>by have:=BL k hk;have:=Bv k t;omega
    have HH:=HH.ao f λ k hk t=>by have:=BH k hk;have:=Bv k t;omega
    have Hz:=Hz.ao f λ k hk t=>by have:=Bz k hk;have:=Bv k t;omega
    exact fin FT hc Hz Hq (λ k hk=>by have:=Bz k hk;omega) (λ k hk=>by have:=Bq k hk;omega)
   ·skip
    obtain⟨y,w2,hr,Hy,gG,f,xf⟩:=po (P:=Tryz.prog) (w:=w1) ra (lK x) rfl ar;refine⟨y,w2,hr,?_⟩;have s2:=f.size
    try refine az.of f ?_
    have By:∀ k,aH y k->w1.heap.size<=k/\k<w2.heap.size:=λ k hk=>⟨xf k hk,aV.lt Hy hk⟩;have FT:=FT.trans f;have hc:=f.ag hc;have HL:=HL.ag f;have HH:=HH.ag f;have Hp:=Hp.ag f;refine an.of (Bi HL.rd (Bj _) ab) ?_;rintro _ w3 ⟨u,rfl,Hu,f,xf⟩;refine⟨u,rfl,?_⟩;have s3:=f.size
    try refine az.of f ?_
    have Bu:∀ k,aH u k->w2.heap.size<=k/\k<w3.heap.size:=λ k hk=>⟨xf k hk,aV.lt Hu hk⟩;have FT:=FT.trans f;have hc:=f.ag hc;have HL:=HL.ag f;have HH:=HH.ag f;have Hp:=Hp.ag f;have Hy:=Hy.ag f;have dP:=Hu.len;rw[tt] at dP;obtain⟨z,w4,hr,Hz,_,f,xf⟩:=jf ra 65 Hu Hy.rd (xq x) ab;refine⟨z,w4,hr,?_⟩;have s4:=f.size
    try refine az.on f (λ k hk t=>by have hk:k<w0.heap.size:=hk;have:=Bu k t;omega) ?_
    have Bz:∀ k,aH z k->(w2.heap.size<=k/\k<w3.heap.size)\/(w3.heap.size<=k/\k<w4.heap.size):=λ k hk=>(xf k hk).elim (λ t=>.inl (Bu k t)) (λ t=>.inr ⟨t,aV.lt Hz hk⟩);have FT:=FT.comp f λ k hk t=>by have:=Bu k t;omega
    have hc:=f.ao hc λ t=>by have:=Bu c t;omega
    have HL:=HL.ao f λ k hk t=>by have:=BL k hk;have:=Bu k t;omega
    have HH:=HH.ao f λ k hk t=>by have:=BH k hk;have:=Bu k t;omega
    have Hp:=Hp.ao f λ k hk t=>by have:=Bp k hk;have:=Bu k t;omega
    refine an.of (uz HH.rd (uA _) ab) ?_;rintro _ w5 ⟨v,rfl,Hv,f,xf⟩;refine⟨v,rfl,?_⟩;have s5:=f.size
    try refine az.of f ?_
    have Bv:∀ k,aH v k->w4.heap.size<=k/\k<w5.heap.size:=λ k hk=>⟨xf k hk,aV.lt Hv hk⟩;have FT:=FT.trans f;have hc:=f.ag hc;have HL:=HL.ag f;have HH:=HH.ag f;have Hp:=Hp.ag f;have Hz:=Hz.ag f;have dD:=Hv.len;rw[eI,jg] at dD;obtain⟨q,w6,hr,Hq,_,f,xf⟩:=jf mF 111 Hv Hp.rd (by intro t ht;simp at ht;subst ht;rfl) ab;refine⟨q,w6,hr,?_⟩;have s6:=f.size
    try refine az.on f (λ k hk t=>by have hk:k<w0.heap.size:=hk;have:=Bv k t;omega) ?_
    have Bq:∀ k,aH q k->(w4.heap.size<=k/\k<w5.heap.size)\/(w5.heap.size<=k/\k<w6.heap.size):=λ k hk=>(xf k hk).elim (λ t=>.inl (Bv k t)) (λ t=>.inr ⟨t,aV.lt Hq hk⟩);have FT:=FT.comp f λ k hk t=>by have:=Bv k t;omega
    have hc:=f.ao hc λ t=>by have:=Bv c t;omega
    have HL:=HL.ao f λ k hk t=>by have:=BL k hk;have:=Bv k t;omega
    have HH:=HH.ao f λ k hk t=>by have:=BH k hk;have:=Bv k t;omega
    have Hz:=Hz.ao f λ k hk t=>by have:=Bz k hk;have:=Bv k t;omega
    exact fin FT hc Hz Hq (λ k hk=>by have:=Bz k hk;omega) (λ k hk=>by have:=Bq k hk;omega)
def C68 (p0:List av)(p1:Int)(w:ah)(K:aP):Prop:=
 aC (.cells p0.toArray 25) w (λ g1 w2=>ae (p1 != 0)
 (aU w2 (λ w3=>bL (λ S4=>aJ S4 (ad g1) (fL 16 (ad g1) w3 (λ x5=>aJ S4 (ad g1) (fL 16 (ad g1) w3 (λ x6=>ak 98 #[.agg x6.toArray] w3 gH (λ(x7:aS) w8=>az S4 w3 w8 (ak 99 #[] w8 gH (λ(x9:aS) aX=>az S4 w8 aX (xz [.int .u8,.int .u8,.int .u8,.int .u8,.int .u8,.int .u8,.int .u8,.int .u8,.int .u8,.int .u8,.int .u8,.int .u8,.int .u8,.int .u8,.int .u8,.int .u8] x5 (λ(bQ:Int×Int×Int×Int×Int×Int×Int×Int×Int×Int×Int×Int×Int×Int×Int×Int×Unit)=>aC (.cells #[.int .u8 bQ.1,.int .u8 bQ.2.1,.int .u8 bQ.2.2.1,.int .u8 bQ.2.2.2.1,.int .u8 bQ.2.2.2.2.1,.int .u8 bQ.2.2.2.2.2.1,.int .u8 bQ.2.2.2.2.2.2.1,.int .u8 bQ.2.2.2.2.2.2.2.1,.int .u8 bQ.2.2.2.2.2.2.2.2.1,.int .u8 bQ.2.2.2.2.2.2.2.2.2.1,.int .u8 bQ.2.2.2.2.2.2.2.2.2.2.1,.int .u8 bQ.2.2.2.2.2.2.2.2.2.2.2.1,.int .u8 bQ.2.2.2.2.2.2.2.2.2.2.2.2.1,.int .u8 bQ.2.2.2.2.2.2.2.2.2.2.2.2.2.1,.int .u8 bQ.2.2.2.2.2.2.2.2.2.2.2.2.2.2.1,.int .u8 bQ.2.2.2.2.2.2.2.2.2.2.2.2.2.2.2.1,aa 1,.pointer x7,.pointer x9,aa 0,aj,aj,aj,aj,aa 0,aa 0,.nilIface,.bool false,aa 0,aj,aj,aj,aj,aa 0,aa 0,.nilIface,.bool false,.bool false,.bool false,aa 0] 107) aX (λ g12 bM=>az S4 aX bM (K (.pointer (some (ad g12))) bM))))))))))))))
 (aU w2 (λ bY=>bL (λ q7=>aJ q7 (ad g1) (fL 16 (ad g1) bY (λ bP=>aJ q7 (ad g1) (fL 16 (ad g1) bY (λ bZ=>ak 98 #[.agg bZ.toArray] bY gH (λ(cF:aS) ct=>az q7 bY ct (ak 99 #[] ct gH (λ(dE:aS) cr=>az q7 ct cr (xz [.int .u8,.int .u8,.int .u8,.int .u8,.int .u8,.int .u8,.int .u8,.int .u8,.int .u8,.int .u8,.int .u8,.int .u8,.int .u8,.int .u8,.int .u8,.int .u8] bP (λ(cW:Int×Int×Int×Int×Int×Int×Int×Int×Int×Int×Int×Int×Int×Int×Int×Int×Unit)=>aC (.cells #[.int .u8 cW.1,.int .u8 cW.2.1,.int .u8 cW.2.2.1,.int .u8 cW.2.2.2.1,.int .u8 cW.2.2.2.2.1,.int .u8 cW.2.2.2.2.2.1,.int .u8 cW.2.2.2.2.2.2.1,.int .u8 cW.2.2.2.2.2.2.2.1,.int .u8 cW.2.2.2.2.2.2.2.2.1,.int .u8 cW.2.2.2.2.2.2.2.2.2.1,.int .u8 cW.2.2.2.2.2.2.2.2.2.2.1,.int .u8 cW.2.2.2.2.2.2.2.2.2.2.2.1,.int .u8 cW.2.2.2.2.2.2.2.2.2.2.2.2.1,.int .u8 cW.2.2.2.2.2.2.2.2.2.2.2.2.2.1,.int .u8 cW.2.2.2.2.2.2.2.2.2.2.2.2.2.2.1,.int .u8 cW.2.2.2.2.2.2.2.2.2.2.2.2.2.2.2.1,aa p1,.pointer cF,.pointer dE,aa 0,aj,aj,aj,aj,aa 0,aa 0,.nilIface,.bool false,aa 0,aj,aj,aj,aj,aa 0,aa 0,.nilIface,.bool false,.bool false,.bool false,aa 0] 107) cr (λ g23 cZ=>az q7 cr cZ (K (.pointer (some (ad g23))) cZ)))))))))))))))
def pl68:aN:=(.seq .auto (.seq .auto (.seq (.held (.soft 0 (.soft 1 (.soft 2 (.pick 3 (.pick 4 (.soft 5 (.pick 6 (.soft 7 .done) .stop)) .stop) .stop))))) .auto)))
theorem c68 (p0 p1 w K)(h:C68 p0 p1 w K):au 68 #[.agg p0.toArray,aa p1] w K:=aQ Tryz.func68 (p:=pl68) aA h
def C110 (p0:Int)(w:ah)(K:aP):Prop:=
 y9 2 (ae ((Int.tmod p0 2)==0)
 (K (aa 0) w)
 (K (aa 1) w))
def pl110:aN:=.auto
theorem c110 (p0 w K)(h:C110 p0 w K):au 110 #[aa p0] w K:=aQ Tryz.func110 (p:=pl110) aA h
def C76 (p0:Addr)(w:ah)(K:aP):Prop:=
 aF YW p0 w (λ(x1:QE)=>aC (.cells #[.int .u8 0,.int .u8 0,.int .u8 0,.int .u8 0,.int .u8 0,.int .u8 0,.int .u8 0,.int .u8 0,.int .u8 0,.int .u8 0,.int .u8 0,.int .u8 0,.int .u8 0,.int .u8 0,.int .u8 0,.int .u8 0,aa 0,.pointer none,.pointer none,aa 0,aj,aj,aj,aj,aa 0,aa 0,.nilIface,.bool false,aa 0,aj,aj,aj,aj,aa 0,aa 0,.nilIface,.bool false,.bool false,.bool false,aa 0] 107) w (λ g2 w3=>aG (ad g2) (YX x1) w3 (λ w4=>aU w4 (λ w5=>bL (λ S6=>aJ S6 (p0.add 17) (af .ptr (p0.add 17) w5 (λ(x7:aS)=>aJ S6 (p0.add 18) (af .ptr (p0.add 18) w5 (λ(x8:aS)=>ak 46 #[.pointer x7] w5 gH (λ(x9:aS) aX=>az S6 w5 aX (ak 45 #[.pointer x8] aX gH (λ(bQ:aS) br=>az S6 aX br (aK ((ad g2).add 17) (.pointer x9) br (λ bM=>az S6 br bM (aK ((ad g2).add 18) (.pointer bQ) bM (λ bY=>az S6 bM bY (K (.pointer (some (ad g2))) bY)))))))))))))))))
def pl76:aN:=(.seq .auto (.seq .auto (.seq (.held (.soft 0 (.soft 1 (.soft 2 (.soft 3 (.soft 5 (.soft 6 (.soft 7 (.soft 8 (.pick 4 (.pick 9 (.soft 10 (.pick 11 (.soft 12 (.pick 13 .done .stop)) .stop)) .stop) .stop)))))))))) .auto)))
theorem c76 (p0 w K)(h:C76 p0 w K):au 76 #[aI p0] w K:=aQ Tryz.func76 (p:=pl76) aA h
def C17 (p0:Addr)(w:ah)(K:aP):Prop:=
 af .ptr (p0.add 17) w (λ(x1:aS)=>ak 46 #[.pointer x1] w gH (λ(x2:aS) w3=>K (.pointer x2) w3))
def pl17:aN:=.auto
theorem c17 (p0 w K)(h:C17 p0 w K):au 17 #[aI p0] w K:=aQ Tryz.func17 (p:=pl17) aA h
def C106 (p0:Addr)(w:ah)(K:aP):Prop:=
 af .ptr (p0.add 17) w (λ(x1:aS)=>ak 20 #[.pointer x1] w bN (λ(x2:Int) w3=>K (.bool (decide (x2 >= 64))) w3))
def pl106:aN:=.auto
theorem c106 (p0 w K)(h:C106 p0 w K):au 106 #[aI p0] w K:=aQ Tryz.func106 (p:=pl106) aA h
def C73 (p0:Addr)(p1:di)(w:ah)(K:aP):Prop:=
 aC (.cells ((cO p1).toArray) 34) w (λ g1 w2=>af .bool (p0.add 38) w2 (λ(x3:Bool)=>ae x3
 (K (aa 13) w2)
 (dc (Bool×Unit) (λ J4=>af .bool ((p0.add 19).add 8) w2 (λ(x7:Bool)=>ae x7
 (J4 (true,()) w2)
 (af .bool ((p0.add 28).add 8) w2 (λ(x8:Bool)=>ae x8
 (af (.int .i64) (((p0.add 28).add 0).add 0) w2 (λ(x9:Int)=>J4 ((x9 != 1),()) w2))
 (J4 (false,()) w2)))))
 (λ _ s5 w6=>ae s5.1
 (K (aa 9) w6)
 (ak 106 #[aI p0] w6 bK (λ(bG:Bool) bt=>ae bG
 (K (aa 5) bt)
 (aU bt (λ br=>af .ptr (p0.add 18) br (λ(cA:aS)=>aF fO (ad g1) br (λ(cj:di)=>af (.int .i64) (p0.add 16) br (λ(cm:Int)=>ak 107 #[.pointer cA,.agg (cO cj).toArray,aa cm] br bN (λ(bP:Int) da=>ae (bP != 0)
 (K (aa bP) da)
 (aF fO (ad g1) da (λ(cF:di)=>aG (p0.add 19) [aa cF.1,.string cF.2.1,.string cF.2.2.1,.string cF.2.2.2.1,.string cF.2.2.2.2.1,aa cF.2.2.2.2.2.1,aa cF.2.2.2.2.2.2.1,cF.2.2.2.2.2.2.2.1,.bool true] da (λ ct=>K (aa 0) ct)))))))))))))))
def pl73:aN:=(.seq .auto (.seq (.block (.seq .auto (.cond .auto (.join [(11,.one .bool)] .auto .auto)))) (.seq (.seq (.tail 9) .auto) .auto)))
theorem c73 (p0 p1 w K)(h:C73 p0 p1 w K):au 73 #[aI p0,.agg (cO p1).toArray] w K:=aQ Tryz.func73 (p:=pl73) aA h
def C111 (p0:Addr)(p1:Int)(w:ah)(K:aP):Prop:=
 aC (.cells #[aa 0,aa 0,aa 0,aa 0,aa 0,.int .u64 0,.bool false,aa 0,aj,aj,aj,aj,aa 0,aa 0,.nilIface] 214) w (λ g1 w2=>aU w2 (λ w3=>bL (λ S4=>aJ S4 (p0.add 17) (af .ptr (p0.add 17) w3 (λ(x5:aS)=>aJ S4 (p0.add 17) (af .ptr (p0.add 17) w3 (λ(x6:aS)=>ak 20 #[.pointer x5] w3 bN (λ(x7:Int) w8=>az S4 w3 w8 (ak 18 #[.pointer x6] w8 nh (λ(x9:Int) aX=>az S4 w8 aX (aG (ad g1) [aa 0,aa 0,aa 0,aa p1,aa x7,.int .u64 x9,.bool false,aa 0,aj,aj,aj,aj,aa 0,aa 0,.nilIface] aX (λ bt=>az S4 aX bt (aF iE (ad g1) bt (λ(cn:fY)=>K (.agg (eZ cn).toArray) bt))))))))))))))
def pl111:aN:=(.seq .auto (.seq (.held (.soft 0 (.soft 1 (.soft 2 (.soft 3 (.soft 4 (.soft 6 (.soft 7 (.soft 8 (.soft 9 (.pick 5 (.pick 10 (.soft 11 (.pick 12 .done .stop)) .stop) .stop))))))))))) .auto))
theorem c111 (p0 p1 w K)(h:C111 p0 p1 w K):au 111 #[aI p0,aa p1] w K:=aQ Tryz.func111 (p:=pl111) aA h
def C112 (p0:Addr)(p1:di)(w:ah)(K:aP):Prop:=
 aC (.cells ((cO p1).toArray) 34) w (λ g1 w2=>ak 111 #[aI p0,aa 1] w2 (.v (.agg iE)) (λ(x3:fY) w4=>aC (.cells #[aa 0,aa 0,aa 0,aa 0,aa 0,.int .u64 0,.bool false,aa 0,aj,aj,aj,aj,aa 0,aa 0,.nilIface] 214) w4 (λ g5 w6=>aG (ad g5) (eZ x3) w6 (λ w7=>aF fO (ad g1) w7 (λ(x8:di)=>aG ((ad g5).add 7) (cO x8) w7 (λ w9=>aF iE (ad g5) w9 (λ(bG:fY)=>aT (Instr.buildSlice 167 1 #[(0,.agg (eZ bG).toArray)]) w9 aM (λ(bQ:aB) br=>K (aO bQ) br))))))))
def pl112:aN:=.auto
theorem c112 (p0 p1 w K)(h:C112 p0 p1 w K):au 112 #[aI p0,.agg (cO p1).toArray] w K:=aQ Tryz.func112 (p:=pl112) aA h
def C113 (p0:Addr)(p1:di)(w:ah)(K:aP):Prop:=
 aC (.cells ((cO p1).toArray) 34) w (λ g1 w2=>aC (.cells #[.bool false,.bool false,aa 0,aj,aj,aj,aj,aa 0,aa 0,.nilIface,.bool false,aa 0,aj,aj,aj,aj,aa 0,aa 0,.nilIface,.bool false,.bool false,.bool false,.bool false,.slice none 0 0] 169) w2 (λ g3 w4=>aU w4 (λ w5=>af .ptr (p0.add 18) w5 (λ(x6:aS)=>aF fO (ad g1) w5 (λ(x7:di)=>af (.int .i64) (p0.add 16) w5 (λ(x8:Int)=>ak 107 #[.pointer x6,.agg (cO x7).toArray,aa x8] w5 bN (λ(x9:Int) aX=>ae (x9 != 0)
 (aG (ad g3) [.bool false,.bool false,aa 0,aj,aj,aj,aj,aa 0,aa 0,.nilIface,.bool false,aa 0,aj,aj,aj,aj,aa 0,aa 0,.nilIface,.bool true,.bool false,.bool false,.bool false,.slice none 0 0] aX (λ bt=>aF dU (ad g3) bt (λ(cn:dC)=>K (.agg (dx cn).toArray) bt)))
 (aU aX (λ bM=>bL (λ yP=>aJ yP (ad g1) (aF fO (ad g1) bM (λ(cm:di)=>aJ yP (ad g1) (aF fO (ad g1) bM (λ(bP:di)=>ak 112 #[aI p0,.agg (cO bP).toArray] bM aM (λ(bZ:aB) b9=>az yP bM b9 (aG (ad g3) [.bool false,.bool true,aa 0,aj,aj,aj,aj,aa 0,aa 0,.nilIface,.bool false,aa cm.1,.string cm.2.1,.string cm.2.2.1,.string cm.2.2.2.1,.string cm.2.2.2.2.1,aa cm.2.2.2.2.2.1,aa cm.2.2.2.2.2.2.1,cm.2.2.2.2.2.2.2.1,.bool false,.bool false,.bool false,.bool false,aO bZ] b9 (λ ct=>az yP b9 ct (aF dU (ad g3) ct (λ(dE:dC)=>K (.agg (dx dE).toArray) ct)))))))))))))))))))
def pl113:aN:=(.seq .auto (.seq (.seq (.tail 9) .auto) (.seq (.held (.soft 0 (.soft 1 (.soft 2 (.pick 3 (.soft 4 (.pick 5 .done .stop)) .stop))))) .auto)))
theorem c113 (p0 p1 w K)(h:C113 p0 p1 w K):au 113 #[aI p0,.agg (cO p1).toArray] w K:=aQ Tryz.func113 (p:=pl113) aA h
def C75 (p0:Addr)(w:ah)(K:aP):Prop:=
 aC (.cells #[.bool false,.bool false,aa 0,aj,aj,aj,aj,aa 0,aa 0,.nilIface,.bool false,aa 0,aj,aj,aj,aj,aa 0,aa 0,.nilIface,.bool false,.bool false,.bool false,.bool false,.slice none 0 0] 169) w (λ g1 w2=>aU w2 (λ w3=>bL (λ S4=>aJ S4 (p0.add 17) (af .ptr (p0.add 17) w3 (λ(x5:aS)=>aJ S4 (p0.add 16) (af (.int .i64) (p0.add 16) w3 (λ(x6:Int)=>ak 20 #[.pointer x5] w3 bN (λ(x7:Int) w8=>az S4 w3 w8 (ak 110 #[aa x7] w8 bN (λ(x9:Int) aX=>az S4 w8 aX (af .bool (p0.add 38) aX (λ(bQ:Bool)=>ae bQ
 (ak 111 #[aI p0,aa 4] aX (.v (.agg iE)) (λ(cn:fY) bM=>aC (.cells #[aa 0,aa 0,aa 0,aa 0,aa 0,.int .u64 0,.bool false,aa 0,aj,aj,aj,aj,aa 0,aa 0,.nilIface] 214) bM (λ g14 cB=>aG (ad g14) (eZ cn) cB (λ bV=>aK ((ad g14).add 6) (.bool true) bV (λ da=>aF iE (ad g14) da (λ(cF:fY)=>aT (Instr.buildSlice 167 1 #[(0,.agg (eZ cF).toArray)]) da aM (λ(cJ:aB) bW=>aG (ad g1) [.bool false,.bool false,aa 0,aj,aj,aj,aj,aa 0,aa 0,.nilIface,.bool false,aa 0,aj,aj,aj,aj,aa 0,aa 0,.nilIface,.bool false,.bool false,.bool false,.bool false,aO cJ] bW (λ cr=>aF dU (ad g1) cr (λ(cW:dC)=>K (.agg (dx cW).toArray) cr)))))))))
 (ak 106 #[aI p0] aX bK (λ(eB:Bool) cZ=>ae eB
 (aG (ad g1) [.bool false,.bool false,aa 0,aj,aj,aj,aj,aa 0,aa 0,.nilIface,.bool false,aa 0,aj,aj,aj,aj,aa 0,aa 0,.nilIface,.bool false,.bool false,.bool false,.bool false,.slice none 0 0] cZ (λ eJ=>aF dU (ad g1) eJ (λ(eX:dC)=>K (.agg (dx eX).toArray) eJ)))
 (af .bool ((p0.add 28).add 8) cZ (λ(eD:Bool)=>ae eD
 (aF fO ((p0.add 28).add 0) cZ (λ(ji:di)=>ak 112 #[aI p0,.agg (cO ji).toArray] cZ aM (λ(eQ:aB) cN=>aG (ad g1) [.bool false,.bool false,aa 0,aj,aj,aj,aj,aa 0,aa 0,.nilIface,.bool false,aa 0,aj,aj,aj,aj,aa 0,aa 0,.nilIface,.bool false,.bool false,.bool false,.bool false,aO eQ] cN (λ gZ=>aF dU (ad g1) gZ (λ(gx:dC)=>K (.agg (dx gx).toArray) gZ)))))
 (dc (Bool×Unit) (λ yO=>ae (x9==x6)
 (af .bool ((p0.add 19).add 8) cZ (λ(gW:Bool)=>yO (gW,()) cZ))
 (yO (false,()) cZ))
 (λ _ I4 gh=>ae I4.1
 (aF fO ((p0.add 19).add 0) gh (λ(ka:di)=>ak 113 #[aI p0,.agg (cO ka).toArray] gh (.v (.agg dU)) (λ(gn:dC) gq=>aG (ad g1) (dx gn) gq (λ fw=>aF dU (ad g1) fw (λ(gC:dC)=>K (.agg (dx gC).toArray) fw)))))
 (dc (Bool×Unit) (λ vC=>ae (x9==x6)
 (af .bool (p0.add 37) gh (λ(kZ:Bool)=>vC (kZ,()) gh))
 (vC (false,()) gh))
 (λ _ DE ij=>ae DE.1
 (ak 113 #[aI p0,.agg #[aa 1,aj,aj,aj,aj,aa 0,aa 0,.nilIface]] ij (.v (.agg dU)) (λ(nq:dC) jb=>aG (ad g1) (dx nq) jb (λ jv=>aF dU (ad g1) jv (λ(iJ:dC)=>K (.agg (dx iJ).toArray) jv))))
 (ae (!(x9==x6))
 (af .bool ((p0.add 19).add 8) ij (λ(jU:Bool)=>ae jU
 (ak 111 #[aI p0,aa 3] ij (.v (.agg iE)) (λ(nV:fY) jx=>aT (Instr.buildSlice 167 1 #[(0,.agg (eZ nV).toArray)]) jx aM (λ(kc:aB) kn=>aG (ad g1) [.bool false,.bool false,aa 0,aj,aj,aj,aj,aa 0,aa 0,.nilIface,.bool false,aa 0,aj,aj,aj,aj,aa 0,aa 0,.nilIface,.bool false,.bool false,.bool false,.bool false,aO kc] kn (λ jI=>aF dU (ad g1) jI (λ(oX:dC)=>K (.agg (dx oX).toArray) jI)))))
 (aG (ad g1) [.bool false,.bool false,aa 0,aj,aj,aj,aj,aa 0,aa 0,.nilIface,.bool false,aa 0,aj,aj,aj,aj,aa 0,aa 0,.nilIface,.bool false,.bool false,.bool false,.bool false,.slice none 0 0] ij (λ rE=>aF dU (ad g1) rE (λ(rC:dC)=>K (.agg (dx rC).toArray) rE)))))
 (aG (ad g1) [.bool false,.bool false,aa 0,aj,aj,aj,aj,aa 0,aa 0,.nilIface,.bool false,aa 0,aj,aj,aj,aj,aa 0,aa 0,.nilIface,.bool false,.bool false,.bool false,.bool false,.slice none 0 0] ij (λ oZ=>aF dU (ad g1) oZ (λ(ry:dC)=>K (.agg (dx ry).toArray) oZ))))))))))))))))))))))))
def pl75:aN:=(.seq .auto (.seq (.held (.soft 0 (.soft 1 (.soft 2 (.soft 3 (.soft 6 (.soft 7 (.soft 8 (.soft 9 (.pick 4 (.pick 5 (.soft 10 (.soft 11 .done)) .stop) .stop)))))))))) (.seq (.block (.seq .auto (.cond .auto (.seq .auto (.cond .auto (.seq .auto (.cond .auto (.join [(45,.one .bool)] .auto (.cond .auto (.join [(61,.one .bool)] .auto .auto)))))))))) .auto)))
theorem c75 (p0 w K)(h:C75 p0 w K):au 75 #[aI p0] w K:=aQ Tryz.func75 (p:=pl75) aA h
def C173 (p0:Addr)(p1:Int)(p2:Int)(w:ah)(K:aP):Prop:=
 af .ptr (p0.add 17) w (λ(x1:aS)=>ak 176 #[.pointer x1,aa p1] w (.bR [.one (.int .u64),.one .bool]) (λ(x2:Int×Bool×Unit) w3=>ae x2.2.1
 (ae (x2.1 != p2)
 (K (.bool true) w3)
 (af .ptr (p0.add 17) w3 (λ(x4:aS)=>ak 20 #[.pointer x4] w3 bN (λ(x5:Int) w6=>K (.bool (decide (p1 > (IntKind.i64.wrap (x5+1))))) w6))))
 (af .ptr (p0.add 17) w3 (λ(x7:aS)=>ak 20 #[.pointer x7] w3 bN (λ(x8:Int) w9=>K (.bool (decide (p1 > (IntKind.i64.wrap (x8+1))))) w9)))))
def pl173:aN:=.auto
theorem c173 (p0 p1 p2 w K)(h:C173 p0 p1 p2 w K):au 173 #[aI p0,aa p1,.int .u64 p2] w K:=aQ Tryz.func173 (p:=pl173) aA h
def C135 (p0:Addr)(p1:fY)(w:ah)(K:aP):Prop:=
 aC (.cells ((eZ p1).toArray) 214) w (λ g1 w2=>aC (.cells #[.bool false,.bool false,aa 0,aj,aj,aj,aj,aa 0,aa 0,.nilIface,.bool false,aa 0,aj,aj,aj,aj,aa 0,aa 0,.nilIface,.bool false,.bool false,.bool false,.bool false,.slice none 0 0] 169) w2 (λ g3 w4=>aC (.cells #[.bool false,.bool false,aa 0,aj,aj,aj,aj,aa 0,aa 0,.nilIface,.bool false,aa 0,aj,aj,aj,aj,aa 0,aa 0,.nilIface,.bool false,.bool false,.bool false,.bool false,.slice none 0 0] 169) w4 (λ g5 w6=>aG (ad g5) [.bool false,.bool false,aa 0,aj,aj,aj,aj,aa 0,aa 0,.nilIface,.bool false,aa 0,aj,aj,aj,aj,aa 0,aa 0,.nilIface,.bool false,.bool false,.bool false,.bool false,.slice none 0 0] w6 (λ w7=>af (.int .i64) ((ad g1).add 4) w7 (λ(x8:Int)=>af (.int .u64) ((ad g1).add 5) w7 (λ(x9:Int)=>ak 173 #[aI p0,aa x8,.int .u64 x9] w7 bK (λ(bG:Bool) bt=>ae bG
 (aK ((ad g5).add 21) (.bool true) bt (λ br=>af .bool ((ad g1).add 6) br (λ(cA:Bool)=>ae cA
 (ak 111 #[aI p0,aa 4] br (.v (.agg iE)) (λ(cj:fY) cB=>aT (Instr.buildSlice 167 1 #[(0,.agg (eZ cj).toArray)]) cB aM (λ(bP:aB) da=>aK ((ad g5).add 23) (aO bP) da (λ b9=>aF dU (ad g5) b9 (λ(cJ:dC)=>aG (ad g3) (dx cJ) b9 (λ bW=>aF dU (ad g3) bW (λ(du:dC)=>K (.agg (dx du).toArray) bW)))))))
 (aF dU (ad g5) br (λ(cW:dC)=>aG (ad g3) (dx cW) br (λ dM=>aF dU (ad g3) dM (λ(dr:dC)=>K (.agg (dx dr).toArray) dM)))))))
 (aU bt (λ eJ=>bL (λ Pe=>aJ Pe ((ad g1).add 4) (af (.int .i64) ((ad g1).add 4) eJ (λ(eD:Int)=>aJ Pe (p0.add 17) (af .ptr (p0.add 17) eJ (λ(ji:aS)=>ak 20 #[.pointer ji] eJ bN (λ(eQ:Int) cN=>az Pe eJ cN (ae (eD==eQ)
 (af .bool (p0.add 38) cN (λ(dt:Bool)=>aK ((ad g5).add 22) (.bool dt) cN (λ dQ=>af .bool ((ad g1).add 6) dQ (λ(fk:Bool)=>ae fk
 (ak 111 #[aI p0,aa 4] dQ (.v (.agg iE)) (λ(fD:fY) gh=>aT (Instr.buildSlice 167 1 #[(0,.agg (eZ fD).toArray)]) gh aM (λ(gW:aB) fI=>aK ((ad g5).add 23) (aO gW) fI (λ jj=>aF dU (ad g5) jj (λ(iT:dC)=>aG (ad g3) (dx iT) jj (λ fw=>aF dU (ad g3) fw (λ(gC:dC)=>K (.agg (dx gC).toArray) fw)))))))
 (aF dU (ad g5) dQ (λ(kY:dC)=>aG (ad g3) (dx kY) dQ (λ nv=>aF dU (ad g3) nv (λ(lP:dC)=>K (.agg (dx lP).toArray) nv))))))))
 (af .bool ((ad g1).add 6) cN (λ(kZ:Bool)=>ae kZ
 (ak 111 #[aI p0,aa 4] cN (.v (.agg iE)) (λ(nq:fY) jb=>aT (Instr.buildSlice 167 1 #[(0,.agg (eZ nq).toArray)]) jb aM (λ(mr:aB) wi=>aK ((ad g5).add 23) (aO mr) wi (λ pT=>aF dU (ad g5) pT (λ(nV:dC)=>aG (ad g3) (dx nV) pT (λ jx=>aF dU (ad g3) jx (λ(kc:dC)=>K (.agg (dx kc).toArray) jx)))))))
 (aF dU (ad g5) cN (λ(zP:dC)=>aG (ad g3) (dx zP) cN (λ jI=>aF dU (ad g3) jI (λ(oX:dC)=>K (.agg (dx oX).toArray) jI))))))))))))))))))))))
def pl135:aN:=(.seq .auto (.seq .auto (.seq (.block (.seq .auto (.cond .auto (.seq (.held (.soft 0 (.soft 1 (.soft 2 (.soft 3 (.soft 4 (.soft 5 (.pick 6 (.soft 7 (.soft 8 .done)) .stop)))))))) .auto)))) .auto)))
theorem c135 (p0 p1 w K)(h:C135 p0 p1 w K):au 135 #[aI p0,.agg (eZ p1).toArray] w K:=aQ Tryz.func135 (p:=pl135) aA h
def C136 (p0:Addr)(p1:fY)(w:ah)(K:aP):Prop:=
 aC (.cells ((eZ p1).toArray) 214) w (λ g1 w2=>aC (.cells #[.bool false,.bool false,aa 0,aj,aj,aj,aj,aa 0,aa 0,.nilIface,.bool false,aa 0,aj,aj,aj,aj,aa 0,aa 0,.nilIface,.bool false,.bool false,.bool false,.bool false,.slice none 0 0] 169) w2 (λ g3 w4=>af (.int .i64) ((ad g1).add 4) w4 (λ(x5:Int)=>af (.int .u64) ((ad g1).add 5) w4 (λ(x6:Int)=>ak 173 #[aI p0,aa x5,.int .u64 x6] w4 bK (λ(x7:Bool) w8=>ae x7
 (aG (ad g3) [.bool false,.bool false,aa 0,aj,aj,aj,aj,aa 0,aa 0,.nilIface,.bool false,aa 0,aj,aj,aj,aj,aa 0,aa 0,.nilIface,.bool false,.bool false,.bool true,.bool false,.slice none 0 0] w8 (λ w9=>aF dU (ad g3) w9 (λ(bG:dC)=>K (.agg (dx bG).toArray) w9)))
 (aU w8 (λ bt=>bL (λ rb=>aJ rb ((ad g1).add 4) (af (.int .i64) ((ad g1).add 4) bt (λ(cA:Int)=>aJ rb (p0.add 17) (af .ptr (p0.add 17) bt (λ(cj:aS)=>ak 20 #[.pointer cj] bt bN (λ(cm:Int) bV=>az rb bt bV (ae (cA==cm)
 (aJ rb ((ad g1).add 4) (af (.int .i64) ((ad g1).add 4) bV (λ(bZ:Int)=>aJ rb (p0.add 16) (af (.int .i64) (p0.add 16) bV (λ(cF:Int)=>ak 110 #[aa bZ] bV bN (λ(cJ:Int) bW=>az rb bV bW (aG (ad g3) [.bool false,.bool false,aa 0,aj,aj,aj,aj,aa 0,aa 0,.nilIface,.bool false,aa 0,aj,aj,aj,aj,aa 0,aa 0,.nilIface,.bool false,.bool (cJ==cF),.bool false,.bool false,.slice none 0 0] bW (λ cr=>az rb bW cr (aF dU (ad g3) cr (λ(cW:dC)=>K (.agg (dx cW).toArray) cr))))))))))
 (aG (ad g3) [.bool false,.bool false,aa 0,aj,aj,aj,aj,aa 0,aa 0,.nilIface,.bool false,aa 0,aj,aj,aj,aj,aa 0,aa 0,.nilIface,.bool false,.bool false,.bool false,.bool false,.slice none 0 0] bV (λ dM=>az rb bV dM (aF dU (ad g3) dM (λ(dr:dC)=>K (.agg (dx dr).toArray) dM))))))))))))))))))
def pl136:aN:=(.seq .auto (.seq .auto (.seq (.held (.soft 0 (.soft 1 (.soft 2 (.soft 3 (.soft 4 (.soft 5 (.pick 6 (.soft 7 (.soft 8 (.soft 9 (.soft 10 (.soft 12 (.soft 13 (.soft 14 (.soft 15 (.pick 11 (.soft 16 (.soft 17 (.soft 18 (.pick 19 .done .stop)))) .stop))))))))) .stop)))))))) .auto)))
theorem c136 (p0 p1 w K)(h:C136 p0 p1 w K):au 136 #[aI p0,.agg (eZ p1).toArray] w K:=aQ Tryz.func136 (p:=pl136) aA h
def C174 (p0:Addr)(p1:Int)(w:ah)(K:aP):Prop:=
 af .ptr (p0.add 17) w (λ(x1:aS)=>ak 176 #[.pointer x1,aa (IntKind.i64.wrap (p1+1))] w (.bR [.one (.int .u64),.one .bool]) (λ(x2:Int×Bool×Unit) w3=>af .ptr (p0.add 17) w3 (λ(x4:aS)=>ak 27 #[.pointer x4] w3 aM (λ(x5:aB) w6=>cz x5.1 x5.2.1 p1 9 (λ a7=>af .bool (a7.add 8) w6 (λ(x8:Bool)=>aT (Instr.buildSlice 167 1 #[(0,.agg #[aa 0,aa 0,aa 0,aa 2,aa p1,.int .u64 x2.1,.bool x8,aa 0,aj,aj,aj,aj,aa 0,aa 0,.nilIface])]) w6 aM (λ(x9:aB) aX=>K (aO x9) aX)))))))
def pl174:aN:=.auto
theorem c174 (p0 p1 w K)(h:C174 p0 p1 w K):au 174 #[aI p0,aa p1] w K:=aQ Tryz.func174 (p:=pl174) aA h
def C137 (p0:Addr)(p1:fY)(w:ah)(K:aP):Prop:=
 aC (.cells ((eZ p1).toArray) 214) w (λ g1 w2=>aC (.cells #[.bool false,.bool false,aa 0,aj,aj,aj,aj,aa 0,aa 0,.nilIface,.bool false,aa 0,aj,aj,aj,aj,aa 0,aa 0,.nilIface,.bool false,.bool false,.bool false,.bool false,.slice none 0 0] 169) w2 (λ g3 w4=>aU w4 (λ w5=>bL (λ S6=>aJ S6 ((ad g1).add 4) (af (.int .i64) ((ad g1).add 4) w5 (λ(x7:Int)=>aJ S6 (p0.add 16) (af (.int .i64) (p0.add 16) w5 (λ(x8:Int)=>ak 110 #[aa x7] w5 bN (λ(x9:Int) aX=>az S6 w5 aX (ae (x9==x8)
 (aG (ad g3) [.bool false,.bool false,aa 0,aj,aj,aj,aj,aa 0,aa 0,.nilIface,.bool false,aa 0,aj,aj,aj,aj,aa 0,aa 0,.nilIface,.bool false,.bool false,.bool true,.bool false,.slice none 0 0] aX (λ bt=>aF dU (ad g3) bt (λ(cn:dC)=>K (.agg (dx cn).toArray) bt)))
 (aJ S6 ((ad g1).add 4) (af (.int .i64) ((ad g1).add 4) aX (λ(cA:Int)=>aJ S6 ((ad g1).add 5) (af (.int .u64) ((ad g1).add 5) aX (λ(cj:Int)=>ak 173 #[aI p0,aa cA,.int .u64 cj] aX bK (λ(cm:Bool) bV=>az S6 aX bV (ae cm
 (aG (ad g3) [.bool false,.bool false,aa 0,aj,aj,aj,aj,aa 0,aa 0,.nilIface,.bool false,aa 0,aj,aj,aj,aj,aa 0,aa 0,.nilIface,.bool false,.bool false,.bool true,.bool false,.slice none 0 0] bV (λ da=>aF dU (ad g3) da (λ(cF:dC)=>K (.agg (dx cF).toArray) da)))
 (aU bV (λ ct=>bL (λ Pf=>aJ Pf ((ad g1).add 4) (af (.int .i64) ((ad g1).add 4) ct (λ(du:Int)=>aJ Pf (p0.add 17) (af .ptr (p0.add 17) ct (λ(cW:aS)=>ak 20 #[.pointer cW] ct bN (λ(eB:Int) cZ=>az Pf ct cZ (ae (decide (du<eB))
 (af (.int .i64) ((ad g1).add 4) cZ (λ(cR:Int)=>ak 174 #[aI p0,aa cR] cZ aM (λ(eX:aB) gD=>aG (ad g3) [.bool false,.bool false,aa 0,aj,aj,aj,aj,aa 0,aa 0,.nilIface,.bool false,aa 0,aj,aj,aj,aj,aa 0,aa 0,.nilIface,.bool false,.bool false,.bool false,.bool false,aO eX] gD (λ cS=>aF dU (ad g3) cS (λ(eQ:dC)=>K (.agg (dx eQ).toArray) cS)))))
 (aU cZ (λ cN=>bL (λ JT=>aJ JT ((ad g1).add 4) (af (.int .i64) ((ad g1).add 4) cN (λ(gx:Int)=>aJ JT (p0.add 17) (af .ptr (p0.add 17) cN (λ(fk:aS)=>ak 20 #[.pointer fk] cN bN (λ(fD:Int) gh=>az JT cN gh (ae (decide (gx > fD))
 (aG (ad g3) [.bool false,.bool false,aa 0,aj,aj,aj,aj,aa 0,aa 0,.nilIface,.bool false,aa 0,aj,aj,aj,aj,aa 0,aa 0,.nilIface,.bool false,.bool false,.bool false,.bool false,.slice none 0 0] gh (λ dW=>aF dU (ad g3) dW (λ(ka:dC)=>K (.agg (dx ka).toArray) dW)))
 (ak 106 #[aI p0] gh bK (λ(gn:Bool) gq=>az JT gh gq (ae gn
 (aG (ad g3) [.bool false,.bool false,aa 0,aj,aj,aj,aj,aa 0,aa 0,.nilIface,.bool false,aa 0,aj,aj,aj,aj,aa 0,aa 0,.nilIface,.bool false,.bool false,.bool false,.bool false,.slice none 0 0] gq (λ fw=>aF dU (ad g3) fw (λ(gC:dC)=>K (.agg (dx gC).toArray) fw)))
 (dc (aS×Unit) (λ vC=>aU gq (λ jH=>bL (λ kJ=>aJ kJ ((ad g1).add 7) (aF fO ((ad g1).add 7) jH (λ(fu:di)=>aJ kJ (p0.add 18) (af .ptr (p0.add 18) jH (λ(mr:aS)=>aJ kJ ((ad g1).add 7) (aF fO ((ad g1).add 7) jH (λ(iJ:di)=>aJ kJ (p0.add 16) (af (.int .i64) (p0.add 16) jH (λ(jU:Int)=>nE (ak 107 #[.pointer mr,.agg (cO iJ).toArray,aa (IntKind.i64.wrap (1 - jU))] jH bN (λ(nV:Int) jx=>az kJ jH jx (ae (nV != 0)
 (aC (.cells #[aa 0,aj,aj,aj,aj,aa 0,aa 0,.nilIface,.bool false] 68) jx (λ WR kn=>az kJ jx kn (aG (ad WR) [aa fu.1,.string fu.2.1,.string fu.2.2.1,.string fu.2.2.2.1,.string fu.2.2.2.2.1,aa fu.2.2.2.2.2.1,aa fu.2.2.2.2.2.2.1,fu.2.2.2.2.2.2.2.1,.bool true] kn (λ jI=>az kJ kn jI (vC ((some (ad WR)),()) jI)))))
 (aJ kJ (p0.add 39) (af (.int .i64) (p0.add 39) jx (λ(oX:Int)=>aJ kJ (((ad g1).add 7).add 0) (af (.int .i64) (((ad g1).add 7).add 0) jx (λ(uU:Int)=>mb uU (aC (.cells #[aa 0,aj,aj,aj,aj,aa 0,aa 0,.nilIface,.bool false] 68) jx (λ WS oZ=>az kJ jx oZ (aG (ad WS) [aa fu.1,.string fu.2.1,.string fu.2.2.1,.string fu.2.2.2.1,.string fu.2.2.2.2.1,aa fu.2.2.2.2.2.1,aa fu.2.2.2.2.2.2.1,fu.2.2.2.2.2.2.2.1,.bool ((IntKind.i64.wrap ((BitVec.ofInt 64 (Int.fdiv oX (2 ^ (min (Int.toNat uU) 64))) &&& BitVec.ofInt 64 1).toNat:Int))==1)] oZ (λ xX=>az kJ oZ xX (vC ((some (ad WS)),()) xX)))))))))))))
 (aC (.cells #[aa 0,aj,aj,aj,aj,aa 0,aa 0,.nilIface,.bool false] 68) jH (λ sM lT=>az kJ jH lT (ak 107 #[.pointer mr,.agg (cO iJ).toArray,aa (IntKind.i64.wrap (1 - jU))] lT bN (λ(uV:Int) lQ=>az kJ lT lQ (ae (uV != 0)
 (aG (ad sM) [aa fu.1,.string fu.2.1,.string fu.2.2.1,.string fu.2.2.2.1,.string fu.2.2.2.2.1,aa fu.2.2.2.2.2.1,aa fu.2.2.2.2.2.2.1,fu.2.2.2.2.2.2.2.1,.bool true] lQ (λ Gr=>az kJ lQ Gr (vC ((some (ad sM)),()) Gr)))
 (aJ kJ (p0.add 39) (af (.int .i64) (p0.add 39) lQ (λ(x0:Int)=>aJ kJ (((ad g1).add 7).add 0) (af (.int .i64) (((ad g1).add 7).add 0) lQ (λ(uZ:Int)=>mb uZ (aG (ad sM) [aa fu.1,.string fu.2.1,.string fu.2.2.1,.string fu.2.2.2.1,.string fu.2.2.2.2.1,aa fu.2.2.2.2.2.1,aa fu.2.2.2.2.2.2.1,fu.2.2.2.2.2.2.2.1,.bool ((IntKind.i64.wrap ((BitVec.ofInt 64 (Int.fdiv x0 (2 ^ (min (Int.toNat uZ) 64))) &&& BitVec.ofInt 64 1).toNat:Int))==1)] lQ (λ yB=>az kJ lQ yB (vC ((some (ad sM)),()) yB))))))))))))))))))))))))
 (λ _ DE ij=>aU ij (λ rF=>bL (λ GC=>aJ GC (p0.add 0) (fL 16 (p0.add 0) rF (λ OR=>aJ GC (p0.add 17) (af .ptr (p0.add 17) rF (λ(wA:aS)=>ie DE.1 (λ WU=>aJ GC WU (aF oU WU rF (λ(Cm:mf)=>ak 18 #[.pointer wA] rF nh (λ(AL:Int) u6=>az GC rF u6 (ak 175 #[.agg OR.toArray,.int .u64 AL,.agg (kV Cm).toArray] u6 (.bR [.one (.int .u64),.one (.int .i64)]) (λ(Fv:Int×Int×Unit) pR=>az GC u6 pR (ae (Fv.2.1 != 0)
 (aG (ad g3) [.bool false,.bool false,aa 0,aj,aj,aj,aj,aa 0,aa 0,.nilIface,.bool false,aa 0,aj,aj,aj,aj,aa 0,aa 0,.nilIface,.bool false,.bool false,.bool false,.bool false,.slice none 0 0] pR (λ WV=>aF dU (ad g3) WV (λ(LR:dC)=>K (.agg (dx LR).toArray) WV)))
 (ie DE.1 (λ a81=>aF oU a81 pR (λ(tW:mf)=>af (.int .i64) ((ad g1).add 4) pR (λ(OS:Int)=>ie DE.1 (λ a84=>af .bool (a84.add 8) pR (λ(OU:Bool)=>aT (Instr.buildSlice 167 1 #[(0,.agg #[aa 0,aa 0,aa 0,aa 2,aa OS,.int .u64 Fv.1,.bool OU,aa 0,aj,aj,aj,aj,aa 0,aa 0,.nilIface])]) pR aM (λ(LV:aB) EL=>aG (ad g3) [.bool true,.bool false,aa tW.1,.string tW.2.1,.string tW.2.2.1,.string tW.2.2.2.1,.string tW.2.2.2.2.1,aa tW.2.2.2.2.2.1,aa tW.2.2.2.2.2.2.1,tW.2.2.2.2.2.2.2.1,.bool tW.2.2.2.2.2.2.2.2.1,aa 0,aj,aj,aj,aj,aa 0,aa 0,.nilIface,.bool false,.bool false,.bool false,.bool false,aO LV] EL (λ JH=>aF dU (ad g3) JH (λ(OV:dC)=>K (.agg (dx OV).toArray) JH))))))))))))))))))))))))))))))))))))))))))))))))))))))))))))))
def pl137:aN:=(.seq .auto (.seq (.block (.seq (.held (.soft 0 (.soft 1 (.soft 3 (.soft 4 (.soft 5 (.soft 6 (.pick 2 (.soft 7 (.soft 8 (.soft 9 (.soft 10 (.soft 11 (.soft 12 (.soft 13 (.pick 14 (.soft 15 (.soft 16 .done)) .stop)))))))) .stop)))))))) (.cond .auto (.seq (.held (.soft 0 (.soft 1 (.soft 2 (.soft 3 (.soft 4 (.soft 5 (.pick 6 (.soft 7 (.soft 8 .done)) .stop)))))))) (.cond .auto (.seq (.held (.soft 0 (.soft 1 (.soft 2 (.soft 3 (.soft 4 (.soft 5 (.pick 6 (.soft 7 (.soft 8 (.soft 9 (.pick 10 (.soft 11 (.soft 12 .done)) .stop)))) .stop)))))))) .auto)))))) (.join [(5,.one .ptr)] (.held (.soft 0 (.soft 1 (.soft 2 (.soft 3 (.soft 4 (.soft 5 (.soft 6 (.soft 7 (.soft 8 (.soft 9 (.soft 10 (.soft 11 (.soft 12 (.pick 13 (.soft 14 (.soft 15 (.soft 16 (.soft 17 (.soft 18 (.soft 19 (.soft 20 (.soft 21 (.soft 22 (.soft 23 (.soft 24 (.soft 25 (.soft 26 (.soft 27 (.pick 28 (.pick 29 .done .stop) .stop))))))))))))))) (.pick 28 (.pick 13 (.soft 14 (.soft 15 (.soft 16 (.soft 17 (.soft 18 (.soft 19 (.soft 20 (.soft 21 (.soft 22 (.soft 23 (.soft 24 (.soft 25 (.soft 26 (.soft 27 (.pick 29 .done .stop))))))))))))))) .stop) .stop)))))))))))))))) (.seq (.held (.soft 0 (.soft 1 (.soft 2 (.soft 3 (.soft 4 (.soft 5 (.soft 6 (.soft 7 (.soft 9 (.pick 8 (.pick 10 (.soft 11 (.soft 12 (.soft 13 (.soft 14 (.soft 15 .done))))) .stop) .stop))))))))))) .auto))))
theorem c137 (p0 p1 w K)(h:C137 p0 p1 w K):au 137 #[aI p0,.agg (eZ p1).toArray] w K:=aQ Tryz.func137 (p:=pl137) aA h
def C138 (p0:Addr)(p1:fY)(w:ah)(K:aP):Prop:=
 aC (.cells ((eZ p1).toArray) 214) w (λ g1 w2=>aC (.cells #[.bool false,.bool false,aa 0,aj,aj,aj,aj,aa 0,aa 0,.nilIface,.bool false,aa 0,aj,aj,aj,aj,aa 0,aa 0,.nilIface,.bool false,.bool false,.bool false,.bool false,.slice none 0 0] 169) w2 (λ g3 w4=>af .ptr (p0.add 17) w4 (λ(x5:aS)=>ak 20 #[.pointer x5] w4 bN (λ(x6:Int) w7=>aU w7 (λ w8=>bL (λ S9=>aJ S9 (p0.add 17) (af .ptr (p0.add 17) w8 (λ(bG:aS)=>aJ S9 ((ad g1).add 4) (af (.int .i64) ((ad g1).add 4) w8 (λ(bQ:Int)=>ak 176 #[.pointer bG,aa (IntKind.i64.wrap (bQ+1))] w8 (.bR [.one (.int .u64),.one .bool]) (λ(cn:Int×Bool×Unit) bM=>az S9 w8 bM (aU bM (λ bY=>bL (λ q7=>aJ q7 ((ad g1).add 4) (af (.int .i64) ((ad g1).add 4) bY (λ(bP:Int)=>aJ q7 (p0.add 16) (af (.int .i64) (p0.add 16) bY (λ(bZ:Int)=>ak 110 #[aa bP] bY bN (λ(cF:Int) ct=>az q7 bY ct (ae (cF != bZ)
 (aG (ad g3) [.bool false,.bool false,aa 0,aj,aj,aj,aj,aa 0,aa 0,.nilIface,.bool false,aa 0,aj,aj,aj,aj,aa 0,aa 0,.nilIface,.bool false,.bool false,.bool true,.bool false,.slice none 0 0] ct (λ bW=>aF dU (ad g3) bW (λ(du:dC)=>K (.agg (dx du).toArray) bW)))
 (aJ q7 ((ad g1).add 4) (af (.int .i64) ((ad g1).add 4) ct (λ(cW:Int)=>ae (decide (cW > x6))
 (aG (ad g3) [.bool false,.bool false,aa 0,aj,aj,aj,aj,aa 0,aa 0,.nilIface,.bool false,aa 0,aj,aj,aj,aj,aa 0,aa 0,.nilIface,.bool false,.bool false,.bool true,.bool false,.slice none 0 0] ct (λ dM=>aF dU (ad g3) dM (λ(dr:dC)=>K (.agg (dx dr).toArray) dM)))
 (af (.int .i64) ((ad g1).add 4) ct (λ(cR:Int)=>ae (decide (cR<x6))
 (af (.int .u64) ((ad g1).add 5) ct (λ(eX:Int)=>aG (ad g3) [.bool false,.bool false,aa 0,aj,aj,aj,aj,aa 0,aa 0,.nilIface,.bool false,aa 0,aj,aj,aj,aj,aa 0,aa 0,.nilIface,.bool false,.bool false,.bool (cn.1 != eX),.bool false,.slice none 0 0] ct (λ gD=>aF dU (ad g3) gD (λ(ji:dC)=>K (.agg (dx ji).toArray) gD))))
 (af .bool ((p0.add 28).add 8) ct (λ(eQ:Bool)=>ae (!eQ)
 (aG (ad g3) [.bool false,.bool false,aa 0,aj,aj,aj,aj,aa 0,aa 0,.nilIface,.bool false,aa 0,aj,aj,aj,aj,aa 0,aa 0,.nilIface,.bool false,.bool false,.bool true,.bool false,.slice none 0 0] ct (λ cN=>aF dU (ad g3) cN (λ(dt:dC)=>K (.agg (dx dt).toArray) cN)))
 (aU ct (λ dQ=>bL (λ JU=>aJ JU ((p0.add 28).add 0) (aF fO ((p0.add 28).add 0) dQ (λ(fD:di)=>aJ JU ((ad g1).add 6) (af .bool ((ad g1).add 6) dQ (λ(eY:Bool)=>aC (.cells #[aa 0,aj,aj,aj,aj,aa 0,aa 0,.nilIface,.bool false] 68) dQ (λ JV fI=>az JU dQ fI (aG (ad JV) [aa fD.1,.string fD.2.1,.string fD.2.2.1,.string fD.2.2.2.1,.string fD.2.2.2.2.1,aa fD.2.2.2.2.2.1,aa fD.2.2.2.2.2.2.1,fD.2.2.2.2.2.2.2.1,.bool eY] fI (λ jj=>az JU fI jj (aU jj (λ gq=>bL (λ GD=>aJ GD (p0.add 0) (fL 16 (p0.add 0) gq (λ gC=>aJ GD (p0.add 17) (af .ptr (p0.add 17) gq (λ(kY:aS)=>aJ GD (ad JV) (aF oU (ad JV) gq (λ(mL:mf)=>ak 18 #[.pointer kY] gq nh (λ(lP:Int) jH=>az GD gq jH (ak 175 #[.agg gC.toArray,.int .u64 lP,.agg (kV mL).toArray] jH (.bR [.one (.int .u64),.one (.int .i64)]) (λ(nq:Int×Int×Unit) jb=>az GD jH jb (ae (nq.2.1 != 0)
 (aG (ad g3) [.bool false,.bool false,aa 0,aj,aj,aj,aj,aa 0,aa 0,.nilIface,.bool false,aa 0,aj,aj,aj,aj,aa 0,aa 0,.nilIface,.bool false,.bool false,.bool true,.bool false,.slice none 0 0] jb (λ jv=>aF dU (ad g3) jv (λ(iJ:dC)=>K (.agg (dx iJ).toArray) jv)))
 (af (.int .u64) ((ad g1).add 5) jb (λ(jU:Int)=>ae (nq.1 != jU)
 (aG (ad g3) [.bool false,.bool false,aa 0,aj,aj,aj,aj,aa 0,aa 0,.nilIface,.bool false,aa 0,aj,aj,aj,aj,aa 0,aa 0,.nilIface,.bool false,.bool false,.bool true,.bool false,.slice none 0 0] jb (λ mO=>aF dU (ad g3) mO (λ(sO:dC)=>K (.agg (dx sO).toArray) mO)))
 (aF oU (ad JV) jb (λ(kc:mf)=>aG (ad g3) [.bool true,.bool false,aa kc.1,.string kc.2.1,.string kc.2.2.1,.string kc.2.2.2.1,.string kc.2.2.2.2.1,aa kc.2.2.2.2.2.1,aa kc.2.2.2.2.2.2.1,kc.2.2.2.2.2.2.2.1,.bool kc.2.2.2.2.2.2.2.2.1,aa 0,aj,aj,aj,aj,aa 0,aa 0,.nilIface,.bool false,.bool false,.bool false,.bool false,.slice none 0 0] jb (λ kn=>aF dU (ad g3) kn (λ(Bg:dC)=>K (.agg (dx Bg).toArray) kn))))))))))))))))))))))))))))))))))))))))))))))))))))))))
def pl138:aN:=(.seq .auto (.seq .auto (.seq (.held (.soft 0 (.soft 1 (.soft 2 (.soft 3 (.soft 4 (.soft 5 (.soft 6 (.pick 7 (.soft 8 (.soft 9 (.soft 10 (.soft 11 (.soft 12 .done))))) .stop))))))))) (.seq (.block (.seq (.held (.soft 0 (.soft 1 (.soft 3 (.soft 4 (.soft 5 (.soft 6 (.pick 2 (.soft 7 (.soft 8 (.soft 9 (.soft 10 (.soft 11 (.soft 12 (.soft 13 (.soft 14 .done)))))))) .stop)))))))) .auto)) (.seq (.held (.soft 0 (.soft 1 (.soft 2 (.soft 3 (.soft 4 (.soft 5 (.soft 6 (.soft 7 (.pick 8 (.pick 9 .done .stop) .stop)))))))))) (.seq (.seq (.held (.soft 0 (.soft 1 (.soft 2 (.soft 3 (.soft 4 (.soft 5 (.soft 6 (.soft 7 (.soft 9 (.pick 8 (.pick 10 (.soft 11 (.soft 12 (.soft 13 (.soft 14 (.soft 15 .done))))) .stop) .stop))))))))))) .auto) .auto))))))
theorem c138 (p0 p1 w K)(h:C138 p0 p1 w K):au 138 #[aI p0,.agg (eZ p1).toArray] w K:=aQ Tryz.func138 (p:=pl138) aA h
def C92 (p0:Addr)(p1:fY)(w:ah)(K:aP):Prop:=
 aC (.cells ((eZ p1).toArray) 214) w (λ g1 w2=>aC (.cells #[.bool false,.bool false,aa 0,aj,aj,aj,aj,aa 0,aa 0,.nilIface,.bool false,aa 0,aj,aj,aj,aj,aa 0,aa 0,.nilIface,.bool false,.bool false,.bool false,.bool false,.slice none 0 0] 169) w2 (λ g3 w4=>aU w4 (λ w5=>bL (λ S6=>aJ S6 (ad g1) (aF iE (ad g1) w5 (λ(x7:fY)=>ak 134 #[.agg (eZ x7).toArray] w5 bN (λ(x8:Int) w9=>az S6 w5 w9 (ae (x8 != 0)
 (aG (ad g3) [.bool false,.bool false,aa 0,aj,aj,aj,aj,aa 0,aa 0,.nilIface,.bool false,aa 0,aj,aj,aj,aj,aa 0,aa 0,.nilIface,.bool false,.bool false,.bool false,.bool false,.slice none 0 0] w9 (λ aX=>aF dU (ad g3) aX (λ(bQ:dC)=>K (.agg (dx bQ).toArray) aX)))
 (aJ S6 ((ad g1).add 0) (af (.int .i64) ((ad g1).add 0) w9 (λ(cn:Int)=>aJ S6 (p0.add 16) (af (.int .i64) (p0.add 16) w9 (λ(cA:Int)=>ae (cn==cA)
 (aG (ad g3) [.bool false,.bool false,aa 0,aj,aj,aj,aj,aa 0,aa 0,.nilIface,.bool false,aa 0,aj,aj,aj,aj,aa 0,aa 0,.nilIface,.bool false,.bool false,.bool false,.bool false,.slice none 0 0] w9 (λ bY=>aF dU (ad g3) bY (λ(cm:dC)=>K (.agg (dx cm).toArray) bY)))
 (af (.int .i64) ((ad g1).add 3) w9 (λ(bP:Int)=>ae (bP==4)
 (aF iE (ad g1) w9 (λ(bZ:fY)=>ak 135 #[aI p0,.agg (eZ bZ).toArray] w9 (.v (.agg dU)) (λ(cF:dC) ct=>aG (ad g3) (dx cF) ct (λ bW=>aF dU (ad g3) bW (λ(du:dC)=>K (.agg (dx du).toArray) bW)))))
 (af .bool (p0.add 38) w9 (λ(cW:Bool)=>ae cW
 (aG (ad g3) [.bool false,.bool false,aa 0,aj,aj,aj,aj,aa 0,aa 0,.nilIface,.bool false,aa 0,aj,aj,aj,aj,aa 0,aa 0,.nilIface,.bool false,.bool false,.bool false,.bool false,.slice none 0 0] w9 (λ dM=>aF dU (ad g3) dM (λ(dr:dC)=>K (.agg (dx dr).toArray) dM)))
 (af (.int .i64) ((ad g1).add 3) w9 (λ(cR:Int)=>ae (cR==3)
 (aF iE (ad g1) w9 (λ(eX:fY)=>ak 136 #[aI p0,.agg (eZ eX).toArray] w9 (.v (.agg dU)) (λ(eD:dC) cS=>aG (ad g3) (dx eD) cS (λ gr=>aF dU (ad g3) gr (λ(gB:dC)=>K (.agg (dx gB).toArray) gr)))))
 (af (.int .i64) ((ad g1).add 3) w9 (λ(dt:Int)=>ae (dt==1)
 (aF iE (ad g1) w9 (λ(gx:fY)=>ak 137 #[aI p0,.agg (eZ gx).toArray] w9 (.v (.agg dU)) (λ(fk:dC) jc=>aG (ad g3) (dx fk) jc (λ gh=>aF dU (ad g3) gh (λ(gW:dC)=>K (.agg (dx gW).toArray) gh)))))
 (aF iE (ad g1) w9 (λ(ka:fY)=>ak 138 #[aI p0,.agg (eZ ka).toArray] w9 (.v (.agg dU)) (λ(gn:dC) gq=>aG (ad g3) (dx gn) gq (λ fw=>aF dU (ad g3) fw (λ(gC:dC)=>K (.agg (dx gC).toArray) fw))))))))))))))))))))))))))
def pl92:aN:=(.seq .auto (.seq (.block (.seq (.held (.soft 0 (.pick 1 (.soft 2 (.soft 3 (.soft 4 (.soft 5 (.soft 6 (.soft 7 (.soft 8 (.soft 9 (.soft 10 (.soft 11 (.soft 12 .done))))))))))) .stop))) .auto)) .auto))
theorem c92 (p0 p1 w K)(h:C92 p0 p1 w K):au 92 #[aI p0,.agg (eZ p1).toArray] w K:=aQ Tryz.func92 (p:=pl92) aA h
def C142 (p0:Addr)(p1:mf)(w:ah)(K:aP):Prop:=
 aC (.cells ((kV p1).toArray) 68) w (λ g1 w2=>aU w2 (λ w3=>bL (λ S4=>aJ S4 (p0.add 17) (af .ptr (p0.add 17) w3 (λ(x5:aS)=>aJ S4 (p0.add 18) (af .ptr (p0.add 18) w3 (λ(x6:aS)=>ak 46 #[.pointer x5] w3 gH (λ(x7:aS) w8=>az S4 w3 w8 (ak 45 #[.pointer x6] w8 gH (λ(x9:aS) aX=>az S4 w8 aX (ak 20 #[.pointer x7] aX bN (λ(bQ:Int) br=>ak 110 #[aa bQ] br bN (λ(cA:Int) bY=>aF oU (ad g1) bY (λ(cm:mf)=>ak 177 #[.pointer x7,.agg (kV cm).toArray] bY bN (λ(bP:Int) da=>ae (bP != 0)
 (K (aa bP) da)
 (af .bool ((ad g1).add 8) da (λ(cF:Bool)=>ae (!cF)
 (aF fO ((ad g1).add 0) da (λ(cJ:di)=>ak 178 #[.pointer x9,.agg (cO cJ).toArray,aa cA] da bN (λ(dE:Int) cr=>ae (dE != 0)
 (K (aa dE) cr)
 (aK (p0.add 17) (.pointer x7) cr (λ cH=>aK (p0.add 18) (.pointer x9) cH (λ dM=>aG (p0.add 28) [aa 0,aj,aj,aj,aj,aa 0,aa 0,.nilIface,.bool false] dM (λ cZ=>aK (p0.add 37) (.bool false) cZ (λ eJ=>K (aa 0) eJ))))))))
 (aK (p0.add 17) (.pointer x7) da (λ de=>aK (p0.add 18) (.pointer x9) de (λ gD=>aG (p0.add 28) [aa 0,aj,aj,aj,aj,aa 0,aa 0,.nilIface,.bool false] gD (λ cS=>aK (p0.add 37) (.bool false) cS (λ gr=>K (aa 0) gr))))))))))))))))))))))
def pl142:aN:=(.seq .auto (.seq (.held (.soft 0 (.soft 1 (.soft 2 (.soft 3 (.soft 5 (.soft 6 (.soft 7 (.soft 8 (.pick 4 (.pick 9 (.soft 10 (.soft 11 .done)) .stop) .stop)))))))))) .auto))
theorem c142 (p0 p1 w K)(h:C142 p0 p1 w K):au 142 #[aI p0,.agg (kV p1).toArray] w K:=aQ Tryz.func142 (p:=pl142) aA h
def C101 (p0:Addr)(p1:dC)(w:ah)(K:aP):Prop:=
 aC (.cells ((dx p1).toArray) 169) w (λ g1 w2=>dc (Unit) (λ J3=>af .bool ((ad g1).add 0) w2 (λ(x6:Bool)=>ae x6
 (aF oU ((ad g1).add 2) w2 (λ(x7:mf)=>ak 142 #[aI p0,.agg (kV x7).toArray] w2 bN (λ(x8:Int) w9=>ae (x8 != 0)
 (K (aa x8) w9)
 (J3 (()) w9))))
 (J3 (()) w2)))
 (λ _ s4 w5=>dc (Unit) (λ Bf=>af .bool ((ad g1).add 1) w5 (λ(cA:Bool)=>ae cA
 (aF fO ((ad g1).add 11) w5 (λ(cj:di)=>aG (p0.add 28) [aa cj.1,.string cj.2.1,.string cj.2.2.1,.string cj.2.2.2.1,.string cj.2.2.2.2.1,aa cj.2.2.2.2.2.1,aa cj.2.2.2.2.2.2.1,cj.2.2.2.2.2.2.2.1,.bool true] w5 (λ cB=>aU cB (λ bV=>af .bool ((ad g1).add 19) bV (λ(bZ:Bool)=>ae bZ
 (aK ((ad g1).add 19) (.bool true) bV (λ b9=>Bf (()) b9))
 (af .bool ((p0.add 19).add 8) bV (λ(cJ:Bool)=>ae cJ
 (aF fO ((p0.add 19).add 0) bV (λ(dE:di)=>aF fO ((ad g1).add 11) bV (λ(du:di)=>ak 143 #[.agg (cO dE).toArray,.agg (cO du).toArray] bV bK (λ(cW:Bool) dM=>aK ((ad g1).add 19) (.bool cW) dM (λ cZ=>Bf (()) cZ)))))
 (aK ((ad g1).add 19) (.bool false) bV (λ eJ=>Bf (()) eJ)))))))))
 (Bf (()) w5)))
 (λ _ Gt br=>af .bool ((ad g1).add 19) br (λ(eX:Bool)=>ae eX
 (aG (p0.add 19) [aa 0,aj,aj,aj,aj,aa 0,aa 0,.nilIface,.bool false] br (λ gD=>dc (Unit) (λ GF=>af .bool (p0.add 37) gD (λ(dt:Bool)=>ae dt
 (aK (p0.add 37) (.bool true) gD (λ dQ=>GF (()) dQ))
 (af .bool ((ad g1).add 20) gD (λ(fk:Bool)=>aK (p0.add 37) (.bool fk) gD (λ jc=>GF (()) jc)))))
 (λ _ s29 cN=>af .bool (p0.add 38) cN (λ(eY:Bool)=>ae eY
 (af .bool ((ad g1).add 22) cN (λ(gW:Bool)=>aK (p0.add 38) (.bool (!gW)) cN (λ fI=>K (aa 0) fI)))
 (af .bool ((ad g1).add 21) cN (λ(gn:Bool)=>ae gn
 (af .bool ((ad g1).add 22) cN (λ(iT:Bool)=>aK (p0.add 38) (.bool (!iT)) cN (λ fw=>K (aa 0) fw)))
 (aK (p0.add 38) (.bool false) cN (λ oB=>K (aa 0) oB))))))))
 (dc (Unit) (λ vC=>af .bool (p0.add 37) br (λ(kZ:Bool)=>ae kZ
 (aK (p0.add 37) (.bool true) br (λ kf=>vC (()) kf))
 (af .bool ((ad g1).add 20) br (λ(fu:Bool)=>aK (p0.add 37) (.bool fu) br (λ jv=>vC (()) jv)))))
 (λ _ DE ij=>af .bool (p0.add 38) ij (λ(iJ:Bool)=>ae iJ
 (af .bool ((ad g1).add 22) ij (λ(jU:Bool)=>aK (p0.add 38) (.bool (!jU)) ij (λ mO=>K (aa 0) mO)))
 (af .bool ((ad g1).add 21) ij (λ(sO:Bool)=>ae sO
 (af .bool ((ad g1).add 22) ij (λ(kc:Bool)=>aK (p0.add 38) (.bool (!kc)) ij (λ kn=>K (aa 0) kn)))
 (aK (p0.add 38) (.bool false) ij (λ jI=>K (aa 0) jI)))))))))))
def pl101:aN:=(.seq .auto (.join [] .auto (.join [] (.seq .auto (.cond (.seq .auto (.tail 16)) .auto)) (.seq .auto (.join [] .auto .auto)))))
theorem c101 (p0 p1 w K)(h:C101 p0 p1 w K):au 101 #[aI p0,.agg (dx p1).toArray] w K:=aQ Tryz.func101 (p:=pl101) aA h
namespace Vc
def putAt:Array av->Nat->List av->Array av
 | cs,_,[]=>cs
 | cs,n,v::vs=>putAt (cs.setIfInBounds n v) (n+1) vs
def vD:List av->Nat->List av->List av
 | l,_,[]=>l
 | l,n,v::vs=>vD (l.set n v) (n+1) vs
theorem Pg:∀ (vs l pre:List av) (n:Nat),putAt (pre++l).toArray (pre.length+n) vs=(pre++vD l n vs).toArray
 | [],l,pre,n=>rfl
 | v::vs,l,pre,n=>by
  have e:(pre++l).toArray.setIfInBounds (pre.length+n) v=(pre++l.set n v).toArray:=by
   apply Array.ext';rw[Eb];simp[Ee]
  rw[putAt,e,vD,<- Pg vs (l.set n v) pre (n+1)];rfl
theorem agB (l vs:List av)(n:Nat):putAt l.toArray n vs=(vD l n vs).toArray:=by
 have:=Pg vs l [] n;simpa using this
theorem setCells_at {off:Nat}:∀ (vs:List av) (w:ah) (i:Nat) (cs:Array av),w.heap[b]? = some (.cells cs T (0,0))->off+i+vs.length<=cs.size->vs.all cG=true ->
  tz w ⟨b,off,none⟩ i vs/\(setCells w ⟨b,off,none⟩ i vs).heap[b]? = some (.cells (putAt cs (off+i) vs) T (0,0))/\Fr (only b) w (setCells w ⟨b,off,none⟩ i vs)/\(setCells w ⟨b,off,none⟩ i vs).heap.size=w.heap.size
 | [],w,i,cs,hb,hl,_=>⟨trivial,hb,Fr.refl _ _,rfl⟩
 | v::vs,w,i,cs,hb,hl,h1=>by
  simp only[List.all_cons,dp] at h1;simp only[cY] at hl;have hs:=heap_setCell_same (i:=off+i) (v:=v) hb;obtain⟨a1,a2,a3,a4⟩:=setCells_at (off:=off) vs (w.setCell ⟨b,off+i,none⟩ v) (i+1) (cs.setIfInBounds (off+i) v) hs (by rw[Array.size_setIfInBounds];omega) h1.2;unfold tz setCells;rw[eN];exact⟨⟨h1.1,by rw[rr hb,Array.getElem?_eq_getElem (show off+i<cs.size by omega)];rfl,D5 hb,a1⟩,a2,(D4 w b _ v).trans a3,by rw[a4];simp[World.setCell]⟩
theorem aG.at {off:Nat}{vs:List av}{K:ah->Prop}{cs:Array av}(hb:w.heap[b]? = some (.cells cs T (0,0)))(hl:off+vs.length<=cs.size)(h1:vs.all cG=true)
  (h:∀ w1,w1.heap[b]? = some (.cells (putAt cs off vs) T (0,0))->Fr (only b) w w1->w1.heap.size=w.heap.size->K w1):aG ⟨b,off,none⟩ vs w K:=by
 obtain⟨a1,a2,a3,a4⟩:=setCells_at vs w 0 cs hb ab h1;exact⟨a1,h _ a2 a3 a4⟩
end Vc
def kz (p:PeerM)(c l:Nat):List av:=
 [aa p.side,aZ c,aZ l]++(kj p.off.1.e++([.bool p.off.2]++(kj p.aW.1.e++[.bool p.aW.2,.bool p.wanted,.bool p.bD,aa p.refused])))
theorem tv (p:PeerM)(c l:Nat):(kz p c l).length=24:=rfl
structure ov (w:ah)(F:bz)(b:Nat)(p:PeerM)(c l:Nat)(Fc Fl:bz):Prop where
 aR:w.heap[b]? = some (.cells (dh p.kb++kz p c l).toArray 107 (0,0))
 ch:lZ w Fc c p.kb p.es p.hs
 ld:gj w Fl l p.bX
 cf:∀ k,Fc k->F k/\k≠b
 lf:∀ k,Fl k->F k/\k≠b
 mem:F b
def eh (w:ah)(F:bz)(b:Nat)(p:PeerM):Prop:=∃ c l Fc Fl,ov w F b p c l Fc Fl
theorem ov.ao {T:bz}{l:Nat}{Fc Fl:bz}(h:ov w F b p c l Fc Fl)(f:Fr T w w')(hT:∀ k,F k->¬ T k):ov w' F b p c l Fc Fl:=
 ⟨f.ao h.aR (hT b h.mem),h.ch.ao f λ k hk=>hT k (h.cf k hk).1,h.ld.ao f λ k hk=>hT k (h.lf k hk).1,h.cf,h.lf,h.mem⟩
theorem ov.ag {l:Nat}{Fc Fl:bz}(h:ov w F b p c l Fc Fl)(f:Fr none1 w w'):ov w' F b p c l Fc Fl:=h.ao f λ _ _ t=>t
theorem eh.ao {T:bz}(h:eh w F b p)(f:Fr T w w')(hT:∀ k,F k->¬ T k):eh w' F b p:=by
 obtain⟨c,l,Fc,Fl,h⟩:=h;exact⟨c,l,Fc,Fl,h.ao f hT⟩
theorem eh.ag (h:eh w F b p)(f:Fr none1 w w'):eh w' F b p:=h.ao f λ _ _ t=>t
theorem eh.mono {G:bz}(h:eh w F b p)(hG:∀ k,F k->G k):eh w G b p:=by
 obtain⟨c,l,Fc,Fl,h⟩:=h;exact⟨c,l,Fc,Fl,h.aR,h.ch,h.ld,λ k hk=>⟨hG k (h.cf k hk).1,(h.cf k hk).2⟩,λ k hk=>⟨hG k (h.lf k hk).1,(h.lf k hk).2⟩,hG b h.mem⟩
theorem yV (hk:kb.length=16){t:List av}(i:Nat):(dh kb++t).toArray[16+i]? = t[i]? := by
 have:=l0 (kb:=kb);rw[pJ,qw ab,this,hk]
 congr 1;omega
theorem ov.db {l:Nat}{Fc Fl:bz}(h:ov w F b p c l Fc Fl)(hk:p.kb.length=16)(i:Nat){ck:Ck}{x:ck.C}(hx:(kz p c l)[i]? = some (ck.val x)){K:ck.C->Prop}(k:K x):af ck ⟨b,16+i,none⟩ w K:=
 af.of h.aR (by rw[yV hk];exact hx) k
theorem ov.yp {l:Nat}{Fc Fl:bz}(h:ov w F b p c l Fc Fl)(hk:p.kb.length=16)(i:Nat){cks:List Ck}(x:Cs cks)(hx:∀ j,j<(Cs.vals cks x).length->(kz p c l)[i+j]? = (Cs.vals cks x)[j]?){K:Cs cks->Prop}(k:K x):aF cks ⟨b,16+i,none⟩ w K:=
 ⟨x,zt h.aR _ _ 0 λ j hj=>by rw[tJ,Nat.add_assoc,yV hk];exact hx j hj,k⟩
theorem ov.key {l:Nat}{Fc Fl:bz}(h:ov w F b p c l Fc Fl)(hk:p.kb.length=16){K:List av->Prop}(k:K (dh p.kb)):fL 16 ((⟨b,0,none⟩:Addr).add 0) w K:=by
 refine⟨dh p.kb,by rw[l0,hk],?_,k⟩;rw[eN];refine qt h.aR _ 0 λ j hj=>?_;rw[pJ,eP,oV hj]
theorem GH (n:Int)(h0:0<=n)(w:ah):au 110 #[aa n] w λ r w'=>r=aa (PeerM.owner n)/\w=w':=by
 refine c110 n w _ ?_;refine⟨by decide,?_⟩;unfold PeerM.owner;have:Int.tmod n 2=n % 2:=Int.tmod_eq_emod_of_nonneg h0;rw[this];exact ae.eq (λ h=>by rw[if_pos h];exact⟨rfl,rfl⟩) (λ h=>by rw[if_neg h];exact⟨rfl,rfl⟩)
theorem Ph (h:eh w F b p)(hk:p.kb.length=16):au 106 #[aZ b] w λ r w'=>r=.bool p.full/\w=w':=by
 obtain⟨c,l,Fc,Fl,h⟩:=h;refine c106 _ w _ ?_;refine h.db hk 1 (ck:=.ptr) (x:=some ⟨c,0,none⟩) rfl ?_;refine an.of (tu hk h.ch) ?_;rintro _ _ ⟨rfl,rfl⟩;refine⟨_,rfl,?_,rfl⟩;unfold PeerM.full
 congr 1
 by_cases h:64<=p.es.length
 ·rw[decide_eq_true h,decide_eq_true ab]
 ·rw[decide_eq_false h,decide_eq_false ab]
def rh (fs:List bS):List av:=(fs.map λ f=>fB f.f).flatten
theorem DF (f:bS):rh [f]=fB f.f:=by unfold rh;simp
theorem DG:jR Tryz.prog 167 214 15 (.agg #[aa 0,aa 0,aa 0,aa 0,aa 0,.int .u64 0,.bool false,aa 0,.string ⟨#[]⟩,.string ⟨#[]⟩,.string ⟨#[]⟩,.string ⟨#[]⟩,aa 0,aa 0,.nilIface]) 160:=⟨Tryz.underlying167,⟨Tryz.t214,by kernel_rfl,rfl,rfl,rfl⟩,rfl,by decide⟩
theorem WW (f:bS):(fB f.f).all cG=true:=Nf (Tm.cU _)
theorem Pj (m:bu):(kj m.e).all cG=true:=by
 show(_&&(_&&(_&&(_&&(_&&(_&&(_&&(cG m.t.v&&true))))))))=true;rw[Tm.cU];rfl
theorem JW (h:eh w F b p)(ho:cX p)(kind:Int):au 111 #[aZ b,aa kind] w λ r w'=>r=oH (p.fG kind false bH).f/\Fr none1 w w':=by
 obtain⟨c,l,Fc,Fl,h⟩:=h;have hk:=ho.kb;have nk:=ho.num;refine c111 _ kind w _ ?_;unfold C111;refine aC.of λ g1 w1 eG aE f1 _=>aU.of λ w2 _ f2=>bL.of (λ k=>k=b) ?_;have f12:=f1.trans f2;have h2:=h.ag f12;have bl:=cQ h.aR;refine⟨rfl,h2.db hk 1 (ck:=.ptr) (x:=some ⟨c,0,none⟩) rfl ⟨rfl,h2.db hk 1 (ck:=.ptr) (x:=some ⟨c,0,none⟩) rfl ?_⟩⟩;refine an.of (tu hk h2.ch) ?_;rintro _ _ ⟨rfl,rfl⟩;refine⟨_,rfl,az.of (Fr.refl _ _) ?_⟩;refine an.of (JK hk h2.ch ho.hs ab) ?_;rintro _ w3 ⟨rfl,f3⟩;refine⟨_,rfl,az.of f3 ?_⟩;refine aG.aR ((f2.trans f3).ag aE) rfl rfl λ w4 df f4 _=>az.on f4 (λ k hk q=>by have:k=g1:=q;have:k=b:=hk;omega) ?_;exact aF.aR (cks:=FK) (x:=(p.fG kind false bH).f) df ⟨rfl,(f12.trans f3).fresh f4 ab⟩
theorem WX (h:eh w F b p)(ho:cX p)(m:bu):au 112 #[aZ b,ke m.e] w λ r w'=>∃ s:Sl,r=.slice s.1 s.2.1 s.2.2/\aV w' 214 15 s (rh [p.fG 1 false m])/\Fr none1 w w'/\∀ k,aH s k->w.heap.size<=k:=by
 refine c112 _ m.e w _ ?_;unfold C112;refine aC.of λ g1 w1 eG aE f1 _=>?_;refine an.of (JW (h.ag f1) ho 1) ?_;rintro _ w2 ⟨rfl,f2⟩;refine⟨(p.fG 1 false bH).f,rfl,?_⟩;have f12:=f1.trans f2;refine aC.of λ g5 w3 CF dN f3 _=>aG.aR dN rfl rfl λ w4 df f4 s4=>?_;have aL:g1≠g5:=by have:=cQ aE;have:=f2.size;omega
 have e4:nC w4 g1 m:=f4.ao (f3.ag (f2.ag aE)) aL;refine aF.aR (cks:=ky) (x:=m.e) e4 ?_;refine aG.at (off:=7) df (by show 7+8<=15;decide) (Pj m) λ w5 CG f5 s5=>?_;have e:vD (fB (p.fG 1 false bH).f) 7 (kj m.e)=fB (p.fG 1 false m).f:=rfl;have dN:w5.heap[g5]? = some (.cells (fB (p.fG 1 false m).f).toArray 214 (0,0)):=by rw[<- e,<- agB];exact CG
 refine aF.aR (cks:=FK) (x:=(p.fG 1 false m).f) dN ?_;obtain⟨s,w6,hr,hs,_,f6,sf⟩:=po (P:=Tryz.prog) (w:=w5) DG (fB (p.fG 1 false m).f) rfl ar;have s1:=f12.size;exact⟨s,w6,hr,s,rfl,by rw[DF];exact hs,(((f12.trans f3).fresh f4 ab).fresh f5 (by show w.heap.size<=g5;omega)).trans f6,λ k hk=>by have:=sf k hk;have:=f3.size;omega⟩
abbrev fX:List Ck:=[.bool,.bool,.int .i64,.str,.str,.str,.str,.int .i64,.int .i64,.raw,.bool,.int .i64,.str,.str,.str,.str,.int .i64,.int .i64,.raw,.bool,.bool,.bool,.bool,.bE]
def pq (a:cE)(s:Sl):Cs fX:=
 (a.cP,a.dz,a.bB.1.e.1,a.bB.1.e.2.1,a.bB.1.e.2.2.1,a.bB.1.e.2.2.2.1,a.bB.1.e.2.2.2.2.1,a.bB.1.e.2.2.2.2.2.1,a.bB.1.e.2.2.2.2.2.2.1,a.bB.1.e.2.2.2.2.2.2.2.1,a.bB.2,a.cI.e.1,a.cI.e.2.1,a.cI.e.2.2.1,a.cI.e.2.2.2.1,a.cI.e.2.2.2.2.1,a.cI.e.2.2.2.2.2.1,a.cI.e.2.2.2.2.2.2.1,a.cI.e.2.2.2.2.2.2.2.1,a.drop,a.wanted,a.bD,a.calm,s,())
def iB (a:cE)(s:Sl):List av:=Cs.vals fX (pq a s)
def oP (B:Nat)(w:ah)(r:av)(a:cE):Prop:=∃ s:Sl,r=.agg (iB a s).toArray/\aV w 214 15 s (rh a.bg)/\∀ k,aH s k->B<=k
theorem uD (h:a.bg=[]):aV w 214 15 (none,0,0) (rh a.bg):=by rw[h];exact .inl ⟨rfl,rfl⟩
theorem agC (h:eh w F b p)(ho:cX p)(m:bu)(hm:bj m.t<=1000000)(ht:TabW w):au 113 #[aZ b,ke m.e] w λ r w'=>oP w.heap.size w' r (p.fH m)/\Fr none1 w w':=by
 have hR:=h;obtain⟨c,l,Fc,Fl,h⟩:=h;have hk:=ho.kb;refine c113 _ m.e w _ ?_;unfold C113 PeerM.fH;refine aC.of λ g1 w1 eG aE f1 _=>aC.of λ g3 w2 pV bJ f2 _=>aU.of λ w3 _ f3=>?_;have f13:=(f1.trans f2).trans f3;have h3:=h.ag f13;have e3:nC w3 g1 m:=(f2.trans f3).ag aE;refine h3.db hk 2 (ck:=.ptr) (x:=some ⟨l,0,none⟩) rfl (aF.aR (cks:=ky) (x:=m.e) e3 (h3.db hk 0 (ck:=.int .i64) (x:=p.side) rfl ?_));refine an.of (JS h3.ld ho.bX m hm (ht.ag f13) p.side) ?_;rintro _ w4 ⟨rfl,f4⟩;have f14:=f13.trans f4;have qo:w.heap.size<=g3:=by have:=f1.size;omega
 refine⟨_,rfl,ae.ne (λ aL=>?_) (λ he=>?_)⟩
 ·rw[if_pos aL]
  refine aG.aR ((f3.trans f4).ag bJ) rfl rfl λ w5 dN f5 _=>?_;exact aF.aR (cks:=fX) (x:=pq { bq with drop:=true } (none,0,0)) dN ⟨⟨(none,0,0),rfl,uD rfl,λ k t=>(nt k t).elim⟩,f14.fresh f5 qo⟩
 rw[if_neg (λ t=>t he)];refine aU.of λ w5 _ f5=>bL.of (λ k=>k=g1) ?_;have e5:=(e3.ag f4).ag f5;refine⟨rfl,aF.aR (cks:=ky) (x:=m.e) e5 ⟨rfl,aF.aR (cks:=ky) (x:=m.e) e5 ?_⟩⟩;have f15:=f14.trans f5;refine an.of (WX (hR.ag f15) ho m) ?_;rintro _ w6 ⟨s,rfl,hs,f6,sf⟩;refine⟨s,rfl,az.of f6 ?_⟩;refine aG.aR (((f3.trans f4).trans (f5.trans f6)).ag bJ) rfl (by
  show(_&&(_&&(_&&(_&&(_&&(_&&(_&&(_&&(_&&(_&&(_&&(_&&(_&&(_&&(_&&(_&&(_&&(_&&(cG m.t.v&&(_&&(_&&(_&&(_&&(_&&true))))))))))))))))))))))))=true;rw[Tm.cU];rfl) λ w7 gL f7 s7=>az.on f7 (λ k hk q=>by have:k=g3:=q;have:k=g1:=hk;have:=cQ aE;omega) ?_
 refine aF.aR (cks:=fX) (x:=pq { bq with dz:=true,cI:=m,bg:=[p.fG 1 false m] } s) gL ⟨⟨s,rfl,hs.ao f7 λ k hk q=>?_,λ k hk=>by have:=sf k hk;have:=f15.size;omega⟩,(f15.trans f6).fresh f7 qo⟩
 have:=sf k hk;have:k=g3:=q;have:=cQ ((f3.trans (f4.trans f5)).ag bJ);omega
theorem Pk (h:eh w F b p)(ho:cX p)(n head:Int):au 173 #[aZ b,aa n,.int .u64 head] w λ r w'=>r=.bool (p.kN n head)/\w=w':=by
 obtain⟨c,l,Fc,Fl,h⟩:=h;have hk:=ho.kb;have nk:=ho.num;refine c173 _ n head w _ ?_;unfold C173;refine h.db hk 1 (ck:=.ptr) (x:=some ⟨c,0,none⟩) rfl ?_;refine an.of (WG hk h.ch n) ?_;rintro _ _ ⟨rfl,rfl⟩;have e:p.at_ n=((if n<0\/(p.hs.length:Int)<=n then 0 else p.hs.getD n.toNat 0),!decide (n<0\/(p.hs.length:Int)<=n)):=by
  unfold PeerM.at_;split
  ·rename_i h;rw[decide_eq_true h];rfl
  ·rename_i h;rw[decide_eq_false h];rfl
 refine⟨((if n<0\/(p.hs.length:Int)<=n then 0 else p.hs.getD n.toNat 0),!decide (n<0\/(p.hs.length:Int)<=n),()),rfl,?_⟩;unfold PeerM.kN;rw[e];generalize(if n<0\/(p.hs.length:Int)<=n then 0 else p.hs.getD n.toNat 0)=A;generalize(!decide (n<0\/(p.hs.length:Int)<=n))=B;have len:∀ {K:Bool->ah->Prop},K (decide (p.len+1<n)) w->af .ptr ((⟨b,0,none⟩:Addr).add 17) w (λ(x7:aS)=>ak 20 #[.pointer x7] w bN (λ(x8:Int) w9=>K (decide (n > IntKind.wrap .i64 (x8+1))) w9)):=by
  intro K k;refine h.db hk 1 (ck:=.ptr) (x:=some ⟨c,0,none⟩) rfl ?_;refine an.of (tu hk h.ch) ?_;rintro _ _ ⟨rfl,rfl⟩;refine⟨_,rfl,?_⟩;rw[wI ab ab];exact k
 refine ae.by (λ hB=>ae.ne (λ aL=>?_) (λ he=>?_)) (λ hB=>?_)
 ·have hB:B=true:=hB
  have aL:A≠head:=aL;rw[hB,show(A != head)=true by simpa using aL];exact⟨rfl,rfl⟩
 ·have hB:B=true:=hB
  have he:A=head:=he;refine len (K:=λ x w'=>(Value.bool x=Value.bool (B&&A != head||decide (p.len+1<n))/\w=w')) ?_;rw[hB,show(A != head)=false by simpa using he];exact⟨rfl,rfl⟩
 ·have hB:B=false:=hB
  refine len (K:=λ x w'=>(Value.bool x=Value.bool (B&&A != head||decide (p.len+1<n))/\w=w')) ?_;rw[hB];exact⟨rfl,rfl⟩
theorem WY (a:cE)(s:Sl):(iB a s).all cG=true:=by
 show(_&&(_&&(_&&(_&&(_&&(_&&(_&&(_&&(_&&(cG a.bB.1.t.v&&(_&&(_&&(_&&(_&&(_&&(_&&(_&&(_&&(cG a.cI.t.v&&(_&&(_&&(_&&(_&&(_&&true))))))))))))))))))))))))=true;rw[Tm.cU,Tm.cU];rfl
theorem pv {wx:ah}{g3:Nat}{cs:List av}(hb:wx.heap[g3]? = some (.cells cs.toArray 169 (0,0)))(hl:cs.length=24)(hg:w.heap.size<=g3)(f:Fr none1 w wx)(a:cE)(s:Sl)(hs:aV wx 214 15 s (rh a.bg))(hd:∀ k,aH s k->k≠g3)(hB:∀ k,aH s k->w.heap.size<=k){A:cE}(e:A=a):
  aG ⟨g3,0,none⟩ (iB a s) wx λ w1=>aF fX ⟨g3,0,none⟩ w1 λ x=>(oP w.heap.size w1 (.agg (Cs.vals fX x).toArray) A/\Fr none1 w w1):=by
 subst e;refine aG.aR hb (by rw[hl];rfl) (WY A s) λ w1 aE f1 _=>aF.aR (cks:=fX) (x:=pq A s) aE ⟨⟨s,rfl,hs.ao f1 λ k hk q=>hd k hk q,hB⟩,f.fresh f1 hg⟩
theorem WZ {wx:ah}{g3:Nat}{cs:List av}(hS:¬ S g3)(hb:wx.heap[g3]? = some (.cells cs.toArray 169 (0,0)))(hl:cs.length=24)(hg:w.heap.size<=g3)(f:Fr none1 w wx)(a:cE)(s:Sl)(hs:aV wx 214 15 s (rh a.bg))(hd:∀ k,aH s k->k≠g3)(hB:∀ k,aH s k->w.heap.size<=k){A:cE}(e:A=a):
  aG ⟨g3,0,none⟩ (iB a s) wx λ w1=>az S wx w1 (aF fX ⟨g3,0,none⟩ w1 λ x=>(oP w.heap.size w1 (.agg (Cs.vals fX x).toArray) A/\Fr none1 w w1)):=by
 subst e;refine aG.aR hb (by rw[hl];rfl) (WY A s) λ w1 aE f1 _=>az.on f1 (λ k hk q=>hS (by have:k=g3:=q;rw[<- this];exact hk)) (aF.aR (cks:=fX) (x:=pq A s) aE ⟨⟨s,rfl,hs.ao f1 λ k hk q=>hd k hk q,hB⟩,f.fresh f1 hg⟩)
theorem vE {B:Nat}:∀ k,aH (none,0,0) k->B<=k:=λ k t=>(nt k t).elim
theorem vF:∀ k,aH (none,0,0) k->k≠g:=λ k t=>(nt k t).elim
def sj (w:ah)(g:Nat)(f:bS):Prop:=w.heap[g]? = some (.cells (fB f.f).toArray 214 (0,0))
theorem sj.ag {f:bS}(h:sj w g f)(q:Fr none1 w w'):sj w' g f:=q.ag h
theorem agD (h:eh w F b p)(ho:cX p)(f:bS):au 136 #[aZ b,oH f.f] w λ r w'=>oP w.heap.size w' r (p.want f)/\Fr none1 w w':=by
 have hR:=h;obtain⟨c,l,Fc,Fl,h⟩:=h;have hk:=ho.kb;refine c136 _ f.f w _ ?_;unfold C136;refine aC.of λ g1 w1 eG aE f1 _=>aC.of λ g3 w2 pV bJ f2 _=>?_;have f12:=f1.trans f2;have a2:sj w2 g1 f:=f2.ag aE;have qo:w.heap.size<=g3:=by have:=f1.size;omega
 refine af.aw a2 (x:=f.2.2.2.2.1) rfl (af.aw a2 (x:=f.2.2.2.2.2.1) rfl ?_);refine an.of (Pk (hR.ag f12) ho _ _) ?_;rintro _ _ ⟨rfl,rfl⟩;refine⟨_,rfl,ae.by (λ hs=>?_) (λ hs=>?_)⟩
 ·exact pv bJ rfl qo f12 { bq with bD:=true } (none,0,0) (uD rfl) vF vE (by unfold PeerM.want;rw[if_pos hs])
 have e0:p.want f={ bq with wanted:=f.2.2.2.2.1==p.len&&PeerM.owner f.2.2.2.2.1==p.side }:=by unfold PeerM.want;rw[if_neg (by rw[hs];simp)]
 refine aU.of λ w3 _ f3=>bL.of (λ k=>k=g1\/k=b) ?_;have f13:=f12.trans f3;have a3:=a2.ag f3;have h3:=h.ag f13;have hS:¬ (g3=g1\/g3=b):=by have:=cQ aE;have:=cQ h.aR;omega
 refine⟨.inl rfl,af.aw a3 (x:=f.2.2.2.2.1) rfl ⟨.inr rfl,h3.db hk 1 (ck:=.ptr) (x:=some ⟨c,0,none⟩) rfl ?_⟩⟩;refine an.of (tu hk h3.ch) ?_;rintro _ _ ⟨rfl,rfl⟩;refine⟨_,rfl,az.of (Fr.refl _ _) (ae.eq (λ he=>?_) (λ he=>?_))⟩
 ·have he:f.2.2.2.2.1=p.len:=he
  refine⟨.inl rfl,af.aw a3 (x:=f.2.2.2.2.1) rfl ⟨.inr rfl,h3.db hk 0 (ck:=.int .i64) (x:=p.side) rfl ?_⟩⟩;refine an.of (GH f.2.2.2.2.1 (by rw[he];unfold PeerM.len;omega) w3) ?_;rintro _ _ ⟨rfl,rfl⟩;refine⟨_,rfl,az.of (Fr.refl _ _) ?_⟩;exact WZ hS (f3.ag bJ) rfl qo f13 { bq with wanted:=PeerM.owner f.2.2.2.2.1==p.side } (none,0,0) (uD rfl) vF vE (by rw[e0,he];simp)
 ·have he:f.2.2.2.2.1≠p.len:=he
  exact WZ hS (f3.ag bJ) rfl qo f13 bq (none,0,0) (uD rfl) vF vE (by rw[e0,show(f.2.2.2.2.1==p.len)=false by simpa using he];rfl)
theorem agE {v:Sl}{vs:List (List av)}{s:Nat}(h:eW w s v vs.flatten)(uM:0<s)(hs:∀ l∈vs,l.length=s){i:Nat}{l:List av}(hx:vs[i]? = some l){K:Addr->Prop}
  (k:∀ a:Addr,(∀ {j:Nat} {c:Ck} {y:c.C} {M:c.C->Prop},l[j]? = some (c.val y)->M y->af c (a.add j) w M)->K a):cz v.1 v.2.1 (i:Int) s K:=by
 have hl:=Dy hs;rw[h.1] at hl;have hl:=Nat.eq_of_mul_eq_mul_right uM hl;have hi:=(nj.1 hx).1;cases hv:v.1 with
 | none=>have:=(h.2.1 hv).1;omega
 | some p=>
  refine⟨p,rfl,by omega,by omega,?_⟩;rw[iH];refine k _ λ{j c y M} hj hm=>⟨y,?_,hm⟩;have hc:=E4 (i * s) _ 0 (h.2.2 p hv);rw[eP,MF vs i hs] at hc;have hc:=BK _ 0 j (c.val y) (CA (m:=i * s) _ 0 hc) ?_
  ·rw[eP] at hc;exact hc
  ·obtain⟨h1,h2⟩:=nj.1 hx
   rw[zD h1,h2,vV,oV (nj.1 hj).1];exact hj
theorem agF (es:List dS):∀ l∈es.map lK,l.length=9:=by intro l hl;obtain⟨x,_,rfl⟩:=kF.1 hl;rfl
theorem agG (n:Int):p.at_ n=((if n<0\/(p.hs.length:Int)<=n then 0 else p.hs.getD n.toNat 0),!decide (n<0\/(p.hs.length:Int)<=n)):=by
 unfold PeerM.at_;split
 ·rename_i h;rw[decide_eq_true h];rfl
 ·rename_i h;rw[decide_eq_false h];rfl
theorem W4 (hk:p.kb.length=16)(h:lZ w F c p.kb p.es p.hs)(n:Int):au 176 #[aZ c,aa n] w λ r w'=>r=.tuple #[.int .u64 (p.at_ n).1,.bool (p.at_ n).2]/\w=w':=by
 rw[agG];exact WG hk h n
theorem agH (h:eh w F b p)(ho:cX p)(n:Int)(h0:0<=n)(h1:n<p.len):au 174 #[aZ b,aa n] w λ r w'=>∃ s:Sl,r=.slice s.1 s.2.1 s.2.2 /\
  aV w' 214 15 s (rh [PeerM.fr 2 n (p.at_ (n+1)).1 (p.es.getD n.toNat (bH,false)).2 bH])/\Fr none1 w w'/\∀ k,aH s k->w.heap.size<=k:=by
 obtain⟨c,l,Fc,Fl,h⟩:=h;have hk:=ho.kb;have nk:=ho.num;unfold PeerM.len at h1;refine c174 _ n w _ ?_;unfold C174;refine h.db hk 1 (ck:=.ptr) (x:=some ⟨c,0,none⟩) rfl ?_;rw[wI ab ab];refine an.of (W4 hk h.ch (n+1)) ?_;rintro _ _ ⟨rfl,rfl⟩;refine⟨((p.at_ (n+1)).1,(p.at_ (n+1)).2,()),rfl,?_⟩;refine h.db hk 1 (ck:=.ptr) (x:=some ⟨c,0,none⟩) rfl ?_;refine an.of (age hk h.ch ab) ?_;rintro _ w1 ⟨u,rfl,hu,f1,uf⟩;refine⟨u,rfl,?_⟩;obtain⟨i,rfl⟩:∃ i:Nat,n=i:=⟨n.toNat,by omega⟩;have hi:i<p.es.length:=ab;obtain⟨x,hx⟩:∃ x,p.es[i]? = some x:=⟨_,cV hi⟩;refine agE (vs:=p.es.map lK) hu.rd ar (agF _) (by rw[ig,hx];rfl) λ a ha=>ha (j:=8) (y:=x.2) rfl ?_;obtain⟨s,w2,hr,hs,_,f2,sf⟩:=po (P:=Tryz.prog) (w:=w1) DG (fB (PeerM.fr 2 i (p.at_ (i+1)).1 x.2 bH).f) rfl ar;refine⟨s,w2,hr,s,rfl,?_,f1.trans f2,λ k hk=>by have:=sf k hk;have:=f1.size;omega⟩;rw[DF,iH,dB,hx];exact hs
theorem agI (h:eh w F b p)(ho:cX p)(ht:TabW w):au 75 #[aZ b] w λ r w'=>oP w.heap.size w' r p.tick/\Fr none1 w w':=by
 have hR:=h;obtain⟨c,l,Fc,Fl,h⟩:=h;have hk:=ho.kb;have nk:=ho.num;refine c75 _ w _ ?_;unfold C75;refine aC.of λ g1 w1 eG aE f1 _=>aU.of λ w2 _ f2=>bL.all ?_;have f12:=f1.trans f2;have ba:=f2.ag aE;have h2:=h.ag f12;have yW:w.heap.size<=g1:=ab;refine aJ.all (h2.db hk 1 (ck:=.ptr) (x:=some ⟨c,0,none⟩) rfl (aJ.all (h2.db hk 0 (ck:=.int .i64) (x:=p.side) rfl ?_)));refine an.of (tu hk h2.ch) ?_;rintro _ _ ⟨rfl,rfl⟩;refine⟨_,rfl,az.of (Fr.refl _ _) ?_⟩;refine an.of (GH (p.es.length:Int) ab w2) ?_;rintro _ _ ⟨rfl,rfl⟩;refine⟨_,rfl,?_⟩
 try refine az.of (Fr.refl _ _) ?_
 have fresh:∀ {wx wy:ah} {s:Sl},Fr none1 w2 wx->(∀ k,aH s k->wx.heap.size<=k)->∀ k,aH s k->k≠g1:=λ f sf k hk=>by have:=sf k hk;have:=cQ ba;have:=f.size;omega
 refine h2.db hk 22 (ck:=.bool) (x:=p.bD) rfl (ae.by (λ hq=>?_) (λ hq=>?_))
 ·refine an.of (JW (hR.ag f12) ho 4) ?_
  rintro _ w3 ⟨rfl,f3⟩;refine⟨(p.fG 4 false bH).f,rfl,?_⟩;refine aC.of λ g5 w4 CF dN f4 _=>aG.aR dN rfl rfl λ w5 dN f5 s5=>?_;have dN:w5.heap[g5]? = some (.cells (fB (p.fG 4 false bH).f).toArray 214 (0,0)):=dN;refine aK.aw dN (by show 0+6<15;decide) rfl λ w6 gM f6 s6=>?_;have gM:w6.heap[g5]? = some (.cells (fB (p.fG 4 true bH).f).toArray 214 (0,0)):=gM;refine aF.aR (cks:=FK) (x:=(p.fG 4 true bH).f) gM ?_;obtain⟨s,w7,hr,hs,_,f7,sf⟩:=po (P:=Tryz.prog) (w:=w6) DG (fB (p.fG 4 true bH).f) rfl ar;refine⟨s,w7,hr,?_⟩;have l2:=cQ ba;have z3:=f3.size;have f26:Fr none1 w2 w6:=((f3.trans f4).fresh f5 ab).fresh f6 ab;exact pv ((f26.trans f7).ag ba) rfl yW ((f12.trans f26).trans f7) { bq with bg:=[p.fG 4 true bH] } s (by rw[DF];exact hs) (λ k hk=>by have:=sf k hk;have:=f26.size;omega) (λ k hk=>by have:=sf k hk;have:=f26.size;have:=f12.size;omega) (by unfold PeerM.tick;rw[if_pos hq])
 have q1:¬ p.bD=true:=by rw[hq];simp
 refine an.of (Ph (hR.ag f12) hk) ?_;rintro _ _ ⟨rfl,rfl⟩;refine⟨_,rfl,ae.by (λ hf=>?_) (λ hf=>?_)⟩
 ·exact pv ba rfl yW f12 bq (none,0,0) (uD rfl) vF vE (by unfold PeerM.tick;rw[if_neg q1,if_pos hf])
 have q2:¬ p.full=true:=by rw[hf];simp
 refine h2.db hk 20 (ck:=.bool) (x:=p.aW.2) rfl (ae.by (λ hp=>?_) (λ hp=>?_))
 ·refine h2.yp hk 12 (cks:=ky) p.aW.1.e (λ j hj=>?_) ?_
  ·match j,hj with
   | 0,_=>rfl
   | 1,_=>rfl
   | 2,_=>rfl
   | 3,_=>rfl
   | 4,_=>rfl
   | 5,_=>rfl
   | 6,_=>rfl
   | 7,_=>rfl
  refine an.of (WX (hR.ag f12) ho p.aW.1) ?_;rintro _ w3 ⟨s,rfl,hs,f3,sf⟩;refine⟨s,rfl,?_⟩;exact pv (f3.ag ba) rfl yW (f12.trans f3) { bq with bg:=[p.fG 1 false p.aW.1] } s hs (λ k hk=>by have:=sf k hk;have:=cQ ba;omega) (λ k hk=>by have:=sf k hk;have:=f12.size;omega) (by unfold PeerM.tick;rw[if_neg q1,if_neg q2,if_pos hp])
 have q3:¬ p.aW.2=true:=by have hp:p.aW.2=false:=hp;rw[hp];simp
 have e0:p.tick=if PeerM.owner p.len=p.side/\p.off.2=true then p.fH p.off.1 else if PeerM.owner p.len=p.side/\p.wanted=true then p.fH nB else if PeerM.owner p.len≠p.side/\p.off.2=true then{ bq with bg:=[p.fG 3 false bH] } else bq:=by
  conv=>lhs;unfold PeerM.tick
  rw[if_neg q1,if_neg q2,if_neg q3]
 have hlen:PeerM.owner (p.es.length:Int)=PeerM.owner p.len:=rfl;rw[hlen];generalize PeerM.owner p.len=O at *
 -- a aiG, told through the cell
 have W5:∀ (m:bu),bj m.t<=1000000->p.tick=p.fH m->ak 113 #[aZ b,ke m.e] w2 (.v (.agg fX)) λ(x:Cs fX) w3=>aG ⟨g1,0,none⟩ (Cs.vals fX x) w3 λ w4=>aF fX ⟨g1,0,none⟩ w4 λ(y:Cs fX)=>(oP w.heap.size w4 (.agg (Cs.vals fX y).toArray) p.tick/\Fr none1 w w4):=by
  intro m hm e;refine an.of (agC (hR.ag f12) ho m hm (ht.ag f12)) ?_;rintro _ w3 ⟨⟨s,rfl,hs,sf⟩,f3⟩;refine⟨pq (p.fH m) s,rfl,?_⟩;exact pv (f3.ag ba) rfl yW (f12.trans f3) (p.fH m) s hs (λ k hk q=>by have:=sf k hk;have:=cQ ba;omega) (λ k hk=>by have:=sf k hk;have:=f12.size;omega) e
 refine dc.of (λ st w'=>st.1=decide (O=p.side/\p.off.2=true)/\w2=w') ?_ ?_
 ·refine ae.eq (λ hO=>h2.db hk 11 (ck:=.bool) (x:=p.off.2) rfl ⟨?_,rfl⟩) (λ hO=>⟨?_,rfl⟩)
  ·have hO:O=p.side:=hO
   simp[hO]
  ·have hO:O≠p.side:=hO
   simp[hO]
 rintro _ ⟨st,_⟩ _ ⟨dH,rfl⟩;dsimp only at dH ⊢;subst dH;refine ae.dec (λ h1=>?_) (λ h1=>?_)
 ·refine h2.yp hk 3 (cks:=ky) p.off.1.e (λ j hj=>?_) ?_
  ·match j,hj with
   | 0,_=>rfl
   | 1,_=>rfl
   | 2,_=>rfl
   | 3,_=>rfl
   | 4,_=>rfl
   | 5,_=>rfl
   | 6,_=>rfl
   | 7,_=>rfl
  exact W5 p.off.1 ho.off.2.2.2.2 (by rw[e0,if_pos h1])
 refine dc.of (λ st w'=>st.1=decide (O=p.side/\p.wanted=true)/\w2=w') ?_ ?_
 ·refine ae.eq (λ hO=>h2.db hk 21 (ck:=.bool) (x:=p.wanted) rfl ⟨?_,rfl⟩) (λ hO=>⟨?_,rfl⟩)
  ·have hO:O=p.side:=hO
   simp[hO]
  ·have hO:O≠p.side:=hO
   simp[hO]
 rintro _ ⟨st,_⟩ _ ⟨dH,rfl⟩;dsimp only at dH ⊢;subst dH;refine ae.dec (λ h3=>?_) (λ h3=>?_)
 ·exact W5 nB ar (by rw[e0,if_neg h1,if_pos h3])
 refine ae.not (ae.eq (λ hO=>?_) (λ hO=>?_))
 ·have hO:O=p.side:=hO
  exact pv ba rfl yW f12 bq (none,0,0) (uD rfl) vF vE (by rw[e0,if_neg h1,if_neg h3,if_neg (λ t=>t.1 hO)])
 have hO:O≠p.side:=hO;refine h2.db hk 11 (ck:=.bool) (x:=p.off.2) rfl (ae.by (λ hw=>?_) (λ hw=>?_))
 ·have hw:p.off.2=true:=hw
  refine an.of (JW (hR.ag f12) ho 3) ?_;rintro _ w3 ⟨rfl,f3⟩;refine⟨(p.fG 3 false bH).f,rfl,?_⟩;obtain⟨s,w4,hr,hs,_,f4,sf⟩:=po (P:=Tryz.prog) (w:=w3) DG (fB (p.fG 3 false bH).f) rfl ar;refine⟨s,w4,hr,?_⟩;exact pv ((f3.trans f4).ag ba) rfl yW ((f12.trans f3).trans f4) { bq with bg:=[p.fG 3 false bH] } s (by rw[DF];exact hs) (λ k hk=>by have:=sf k hk;have:=cQ ba;have:=f3.size;omega) (λ k hk=>by have:=sf k hk;have:=f12.size;have:=f3.size;omega) (by rw[e0,if_neg h1,if_neg h3,if_pos ⟨hO,hw⟩])
 ·have hw:p.off.2=false:=hw
  exact pv ba rfl yW f12 bq (none,0,0) (uD rfl) vF vE (by rw[e0,if_neg h1,if_neg h3,if_neg (λ t=>by rw[hw] at t;exact absurd t.2 bm)])
theorem JX (a:cE)(s:Sl)(n:Nat)(v:av):(iB a s).toArray.setIfInBounds n v=((iB a s).set n v).toArray:=by simp
theorem tw (a:cE)(s:Sl):iB a s=[.bool a.cP,.bool a.dz,aa a.bB.1.1,.string (str a.bB.1.2.1),.string (str a.bB.1.2.2.1),.string (str a.bB.1.2.2.2.1),.string (str a.bB.1.2.2.2.2.1),aa a.bB.1.2.2.2.2.2.1,aa a.bB.1.2.2.2.2.2.2.1,a.bB.1.2.2.2.2.2.2.2.v,.bool a.bB.2,aa a.cI.1,.string (str a.cI.2.1),.string (str a.cI.2.2.1),.string (str a.cI.2.2.2.1),.string (str a.cI.2.2.2.2.1),aa a.cI.2.2.2.2.2.1,aa a.cI.2.2.2.2.2.2.1,a.cI.2.2.2.2.2.2.2.v,.bool a.drop,.bool a.wanted,.bool a.bD,.bool a.calm,.slice s.1 s.2.1 s.2.2]:=rfl
theorem agJ (a:cE)(s:Sl)(v:Bool):(iB a s).set 21 (.bool v)=iB { a with bD:=v } s:=by rw[tw,tw];rfl
theorem agK (a:cE)(s:Sl)(v:Bool):(iB a s).set 22 (.bool v)=iB { a with calm:=v } s:=by rw[tw,tw];rfl
theorem agL (a:cE)(s t:Sl):(iB a s).set 23 (.slice t.1 t.2.1 t.2.2)=iB a t:=by rw[tw,tw];rfl
theorem agM (a:cE)(s:Sl)(x:List bS):iB { a with bg:=x } s=iB a s:=rfl
theorem JY (a:cE)(s:Sl):(iB a s).toArray.size=24:=rfl
theorem agN (h:eh w F b p)(ho:cX p)(f:bS):au 135 #[aZ b,oH f.f] w λ r w'=>oP w.heap.size w' r (p.lH f)/\Fr none1 w w':=by
 have hR:=h;obtain⟨c,l,Fc,Fl,h⟩:=h;have hk:=ho.kb;refine c135 _ f.f w _ ?_;unfold C135;refine aC.of λ g1 w1 eG aE f1 _=>aC.of λ g3 w2 pV bJ f2 _=>aC.of λ g5 w3 CF dN f3 _=>aG.aR dN rfl rfl λ w4 dN f4 s4=>?_;have z1:=f1.size;have z3:=f3.size;have l1:=cQ aE;have l3:=cQ bJ;have Vz:g1≠g3:=ab;have Pl:g1≠g5:=ab;have n35:g3≠g5:=ab;have f14:Fr none1 w w4:=((f1.trans f2).trans f3).fresh f4 ab;have a4:sj w4 g1 f:=f4.ao (f3.ag (f2.ag aE)) Pl;have Pm:=f4.ao (f3.ag bJ) n35;have Pn:w4.heap[g5]? = some (.cells (iB bq (none,0,0)).toArray 169 (0,0)):=dN;have l5:=cQ Pn
 -- the end: JZ is said
 have fin:∀ {wx:ah} (A:cE),A.bg=[]->Fr none1 w wx->sj wx g1 f->wx.heap[g3]? = w4.heap[g3]? -> w4.heap.size<=wx.heap.size->wx.heap[g5]? = some (.cells (iB A (none,0,0)).toArray 169 (0,0))->p.lH f={ A with bg:=if f.2.2.2.2.2.2.1=true then[p.fG 4 false bH] else[] } ->
   af .bool ((⟨g1,0,none⟩:Addr).add 6) wx (λ(cA:Bool)=>ae cA
    (ak 111 #[aZ b,aa 4] wx (.v (.agg FK)) (λ(cj:Cs FK) cB=>aT (Instr.buildSlice 167 1 #[(0,.agg (Cs.vals FK cj).toArray)]) cB aM (λ(bP:aS×Nat×Nat) da=>
     aK ((⟨g5,0,none⟩:Addr).add 23) (.slice bP.1 bP.2.1 bP.2.2) da (λ b9=>aF fX ⟨g5,0,none⟩ b9 (λ(cJ:Cs fX)=>aG ⟨g3,0,none⟩ (Cs.vals fX cJ) b9 (λ bW=>aF fX ⟨g3,0,none⟩ bW (λ(du:Cs fX)=>(oP w.heap.size bW (.agg (Cs.vals fX du).toArray) (p.lH f)/\Fr none1 w bW))))))))
    (aF fX ⟨g5,0,none⟩ wx (λ(cW:Cs fX)=>aG ⟨g3,0,none⟩ (Cs.vals fX cW) wx (λ dM=>aF fX ⟨g3,0,none⟩ dM (λ(dr:Cs fX)=>(oP w.heap.size dM (.agg (Cs.vals fX dr).toArray) (p.lH f)/\Fr none1 w dM)))))):=by
  intro wx A hA fx ax Po zx Pp e;rw[Pm] at Po;refine af.aw ax (x:=f.2.2.2.2.2.2.1) rfl (ae.by (λ hf=>?_) (λ hf=>?_))
  ·have hf:f.2.2.2.2.2.2.1=true:=hf
   rw[if_pos hf] at e;refine an.of (JW (hR.ag fx) ho 4) ?_;rintro _ wy ⟨rfl,fy⟩;refine⟨(p.fG 4 false bH).f,rfl,?_⟩;obtain⟨s,wz,hr,hs,_,fz,sf⟩:=po (P:=Tryz.prog) (w:=wy) DG (fB (p.fG 4 false bH).f) rfl ar;refine⟨s,wz,hr,?_⟩;have Pq:=fy.trans fz;have zy:=fy.size;have lx:=cQ Pp;refine aK.aw (Pq.ag Pp) (by rw[JY];decide) rfl λ wa W6 fa sa=>?_;rw[eP,JX,agL,<- agM A s [p.fG 4 false bH]] at W6;refine aF.aR (cks:=fX) (x:=pq { A with bg:=[p.fG 4 false bH] } s) W6 ?_
   have g5n:∀ k,aH s k->k≠g5:=λ k hk=>by have:=sf k hk;omega
   exact pv (fa.ao (Pq.ag Po) n35) rfl ab ((fx.trans Pq).fresh fa ab) { A with bg:=[p.fG 4 false bH] } s (by rw[DF];exact hs.ao fa λ k hk q=>g5n k hk q) (λ k hk=>by have:=sf k hk;omega) (λ k hk=>by have:=sf k hk;have:=fx.size;omega) e
  ·have hf:f.2.2.2.2.2.2.1=false:=hf
   rw[if_neg (by rw[hf];simp)] at e;refine aF.aR (cks:=fX) (x:=pq A (none,0,0)) Pp ?_;exact pv Po rfl ab fx A (none,0,0) (uD hA) vF vE (by rw[e];cases A;simp only at hA;subst hA;rfl)
 have e0:p.lH f={ bq with bD:=p.kN f.2.2.2.2.1 f.2.2.2.2.2.1,calm:=!p.kN f.2.2.2.2.1 f.2.2.2.2.2.1&&(f.2.2.2.2.1==p.len&&p.bD),bg:=if f.2.2.2.2.2.2.1=true then[p.fG 4 false bH] else[] }:=rfl
 refine af.aw a4 (x:=f.2.2.2.2.1) rfl (af.aw a4 (x:=f.2.2.2.2.2.1) rfl ?_);refine an.of (Pk (hR.ag f14) ho _ _) ?_;rintro _ _ ⟨rfl,rfl⟩;generalize p.kN f.2.2.2.2.1 f.2.2.2.2.2.1=S at *;refine⟨S,rfl,ae.by (λ hs=>?_) (λ hs=>?_)⟩
 ·have hs:S=true:=hs
  subst hs;refine aK.aw Pn (by rw[JY];decide) rfl λ w5 CG f5 s5=>?_;rw[eP,JX,agJ] at CG;exact fin { bq with bD:=true } rfl (f14.fresh f5 ab) (f5.ao a4 Pl) (f5.block g3 (by have:=cQ Pm;omega) n35) ab CG (by rw[e0];rfl)
 have hs:S=false:=hs;subst hs;refine aU.of λ w5 vB f5=>bL.all ?_;have f15:=f14.trans f5;have h5:=h.ag f15;have a5:=a4.ag f5;have W7:=f5.ag Pn;have z5:w5.heap.size=w4.heap.size:=by rw[vB]
 refine aJ.all (af.aw a5 (x:=f.2.2.2.2.1) rfl (aJ.all (h5.db hk 1 (ck:=.ptr) (x:=some ⟨c,0,none⟩) rfl ?_)));refine an.of (tu hk h5.ch) ?_;rintro _ _ ⟨rfl,rfl⟩;refine⟨_,rfl,?_⟩
 try refine az.of (Fr.refl _ _) ?_
 refine ae.eq (λ he=>?_) (λ he=>?_)
 ·have he:f.2.2.2.2.1=p.len:=he
  refine h5.db hk 22 (ck:=.bool) (x:=p.bD) rfl ?_;refine aK.aw W7 (by rw[JY];decide) rfl λ w6 gM f6 s6=>?_;rw[eP,JX,agK] at gM;exact fin { bq with calm:=p.bD } rfl (f15.fresh f6 ab) (f6.ao a5 Pl) (by rw[f6.block g3 (by have:=cQ Pm;omega) n35,vB]) ab gM (by rw[e0,he];simp[bq])
 ·have he:f.2.2.2.2.1≠p.len:=he
  exact fin bq rfl f15 a5 (by rw[vB]) ab W7 (by rw[e0,show(f.2.2.2.2.1==p.len)=false by simpa using he];rfl)
theorem agO (h:eh w F b p)(ho:cX p)(ht:TabW w)(f:bS)(h0:0<=f.2.2.2.2.1)(h9:f.2.2.2.2.1<=1000000000000000):au 138 #[aZ b,oH f.f] w λ r w'=>oP w.heap.size w' r (p.mS f)/\Fr none1 w w':=by
 have hR:=h;obtain⟨c,l,Fc,Fl,h⟩:=h;have hk:=ho.kb;have nk:=ho.num;refine c138 _ f.f w _ ?_;unfold C138;refine aC.of λ g1 w1 eG aE f1 _=>aC.of λ g3 w2 pV bJ f2 _=>?_;have f12:=f1.trans f2;have h2:=h.ag f12;have a2:sj w2 g1 f:=f2.ag aE;have bl:=cQ h.aR;have l1:=cQ aE;have l3:=cQ bJ;have qo:w.heap.size<=g3:=by have:=f1.size;omega
 refine h2.db hk 1 (ck:=.ptr) (x:=some ⟨c,0,none⟩) rfl ?_;refine an.of (tu hk h2.ch) ?_;rintro _ _ ⟨rfl,rfl⟩;refine⟨_,rfl,aU.of λ w3 _ f3=>bL.all ?_⟩;have f13:=f12.trans f3;have h3:=h2.ag f3;have a3:=a2.ag f3;refine aJ.all (h3.db hk 1 (ck:=.ptr) (x:=some ⟨c,0,none⟩) rfl (aJ.all (af.aw a3 (x:=f.2.2.2.2.1) rfl ?_)));rw[wI (x:=f.2.2.2.2.1+1) ab ab];refine an.of (W4 hk h3.ch (f.2.2.2.2.1+1)) ?_;rintro _ _ ⟨rfl,rfl⟩;refine⟨((p.at_ (f.2.2.2.2.1+1)).1,(p.at_ (f.2.2.2.2.1+1)).2,()),rfl,?_⟩
 try refine az.of (Fr.refl _ _) ?_
 refine aU.of λ w4 _ f4=>bL.all ?_;have f14:=f13.trans f4;have h4:=h3.ag f4;have a4:=a3.ag f4;have b4:=(f3.trans f4).ag bJ;refine aJ.all (af.aw a4 (x:=f.2.2.2.2.1) rfl (aJ.all (h4.db hk 0 (ck:=.int .i64) (x:=p.side) rfl ?_)));refine an.of (GH f.2.2.2.2.1 h0 w4) ?_;rintro _ _ ⟨rfl,rfl⟩;refine⟨_,rfl,?_⟩
 try refine az.of (Fr.refl _ _) ?_
 have bD:∀ {wx:ah} (A:cE),A.bg=[]->Fr none1 w wx->wx.heap[g3]? = w4.heap[g3]? -> p.mS f=A->aG ⟨g3,0,none⟩ (iB A (none,0,0)) wx λ w1=>aF fX ⟨g3,0,none⟩ w1 λ x=>(oP w.heap.size w1 (.agg (Cs.vals fX x).toArray) (p.mS f)/\Fr none1 w w1):=
  λ A hA fx hb e=>pv (by rw[hb];exact b4) rfl qo fx A (none,0,0) (uD hA) vF vE e
 refine ae.ne (λ aL=>?_) (λ he=>?_)
 ·have aL:PeerM.owner f.2.2.2.2.1≠p.side:=aL
  exact bD { bq with bD:=true } rfl f14 rfl (by unfold PeerM.mS;rw[if_pos (.inl aL)])
 have he:PeerM.owner f.2.2.2.2.1=p.side:=he;refine aJ.all (af.aw a4 (x:=f.2.2.2.2.1) rfl (ae.dec (λ rM=>?_) (λ rM=>?_)))
 ·exact bD { bq with bD:=true } rfl f14 rfl (by unfold PeerM.mS;rw[if_pos (.inr (show(p.es.length:Int)<f.2.2.2.2.1 from rM))])
 have c1:¬ (PeerM.owner f.2.2.2.2.1≠p.side\/p.len<f.2.2.2.2.1):=λ t=>t.elim (λ q=>q he) (λ q=>rM q);refine af.aw a4 (x:=f.2.2.2.2.1) rfl (ae.dec (λ bI=>?_) (λ bI=>?_))
 ·have bI:f.2.2.2.2.1<p.len:=bI
  refine af.aw a4 (x:=f.2.2.2.2.2.1) rfl ?_;exact bD { bq with bD:=(p.at_ (f.2.2.2.2.1+1)).1 != f.2.2.2.2.2.1 } rfl f14 rfl (by unfold PeerM.mS;rw[if_neg c1,if_pos bI])
 have c2:¬ f.2.2.2.2.1<p.len:=bI;refine h4.db hk 20 (ck:=.bool) (x:=p.aW.2) rfl (ae.not (ae.by (λ hp=>?_) (λ hp=>?_)))
 rotate_left
 ·have hp:p.aW.2=false:=hp
  exact bD { bq with bD:=true } rfl f14 rfl (by unfold PeerM.mS;rw[if_neg c1,if_neg c2,if_pos hp])
 have c3:¬ p.aW.2=false:=by have hp:p.aW.2=true:=hp;rw[hp];simp
 refine aU.of λ w5 vB f5=>bL.of (λ k=>k=b\/k=g1) ?_;have f15:=f14.trans f5;have h5:=h4.ag f5;have a5:=a4.ag f5;refine⟨.inl rfl,h5.yp hk 12 (cks:=ky) p.aW.1.e (λ j hj=>?_) ⟨.inr rfl,af.aw a5 (x:=f.2.2.2.2.2.2.1) rfl ?_⟩⟩
 ·match j,hj with
  | 0,_=>rfl
  | 1,_=>rfl
  | 2,_=>rfl
  | 3,_=>rfl
  | 4,_=>rfl
  | 5,_=>rfl
  | 6,_=>rfl
  | 7,_=>rfl
 refine aC.of λ g6 w6 NV gM f6 _=>az.of f6 ?_;have z5:=f15.size;have z2:=f12.size;have z25:=((f3.trans f4).trans f5).size;refine aG.aR (vs:=lK (p.aW.1,f.2.2.2.2.2.2.1)) gM rfl (by
  show(_&&(_&&(_&&(_&&(_&&(_&&(_&&(cG p.aW.1.t.v&&(_&&true)))))))))=true;rw[Tm.cU];rfl) λ w7 gL f7 s7=>az.on f7 (λ k hk q=>by have:k=g6:=q;rcases hk with rfl | rfl<;>omega) ?_
 have f57:Fr none1 w5 w7:=f6.fresh f7 ab;refine aU.of λ w8 hw8 f8=>bL.all ?_;have f58:=f57.trans f8;have f18:=f15.trans f58;have h8:=h5.ag f58;have a8:=a5.ag f58;have b8:=f8.ag gL;refine aJ.all (h8.key hk (aJ.all (h8.db hk 1 (ck:=.ptr) (x:=some ⟨c,0,none⟩) rfl (aJ.all (aF.aR (cks:=qQ) (x:=od p.aW.1.e f.2.2.2.2.2.2.1) b8 ?_)))));refine an.of (JK hk h8.ch ho.hs ab) ?_;rintro _ w9 ⟨rfl,f9⟩;refine⟨_,rfl,az.of f9 ?_⟩;have xk:=ho.AP;refine an.of (O6 (x:=(p.aW.1,f.2.2.2.2.2.2.1)) hk xk.1 xk.2 ho.aW (ht.ag (f18.trans f9))) ?_;rintro _ aX ⟨rfl,f10⟩;have xu:=(f18.trans f9).trans f10;have wW:aX.heap[g3]? = w4.heap[g3]? := by rw[b4];exact((f5.trans f58).trans (f9.trans f10)).ag b4
 have tU:=(a8.ag f9).ag f10;have e0:p.mS f=if(dF p.kb p.head (p.aW.1,f.2.2.2.2.2.2.1)).2≠0\/(dF p.kb p.head (p.aW.1,f.2.2.2.2.2.2.1)).1≠f.2.2.2.2.2.1 then{ bq with bD:=true } else{ bq with cP:=true,bB:=(p.aW.1,f.2.2.2.2.2.2.1) }:=by
  conv=>lhs;unfold PeerM.mS
  rw[if_neg c1,if_neg c2,if_neg c3]
 generalize dF p.kb p.head (p.aW.1,f.2.2.2.2.2.2.1)=N at *;refine⟨(N.1,N.2,()),rfl,?_⟩
 try refine az.of f10 ?_
 refine ae.ne (λ aL=>?_) (λ mW=>?_)
 ·have aL:N.2≠0:=aL
  exact bD { bq with bD:=true } rfl xu wW (by rw[e0,if_pos (.inl aL)])
 have mW:N.2=0:=mW;refine af.aw tU (x:=f.2.2.2.2.2.1) rfl (ae.ne (λ aL=>?_) (λ Pr=>?_))
 ·have aL:N.1≠f.2.2.2.2.2.1:=aL
  exact bD { bq with bD:=true } rfl xu wW (by rw[e0,if_pos (.inr aL)])
 have Pr:N.1=f.2.2.2.2.2.1:=Pr;refine aF.aR (cks:=qQ) (x:=od p.aW.1.e f.2.2.2.2.2.2.1) ((f9.trans f10).ag b8) ?_;exact bD { bq with cP:=true,bB:=(p.aW.1,f.2.2.2.2.2.2.1) } rfl xu wW (by rw[e0,if_neg (λ t=>t.elim (λ q=>q mW) (λ q=>q Pr))])
theorem sj.ev {f:bS}(h:sj w g f){K:Cs ky->Prop}(k:K f.m.e):aF ky ((⟨g,0,none⟩:Addr).add 7) w K:=by
 rw[eN];refine⟨f.m.e,zt h _ _ 0 λ j hj=>?_,k⟩
 match j,hj with
 | 0,_=>rfl
 | 1,_=>rfl
 | 2,_=>rfl
 | 3,_=>rfl
 | 4,_=>rfl
 | 5,_=>rfl
 | 6,_=>rfl
 | 7,_=>rfl
theorem sj.kind {f:bS}(h:sj w g f){K:Int->Prop}(k:K f.m.kind):af (.int .i64) (((⟨g,0,none⟩:Addr).add 7).add 0) w K:=by
 rw[eN,eN];exact af.of h (x:=f.m.kind) rfl k
theorem W8 (r k:Int)(h0:0<=k)(h1:k<=64):(IntKind.i64.wrap ((BitVec.ofInt 64 (Int.fdiv r (2 ^ (min (Int.toNat k) 64))) &&& BitVec.ofInt 64 1).toNat:Int)==1)=((r / 2 ^ k.toNat) % 2==1):=by
 rw[show min (Int.toNat k) 64=k.toNat by omega,Int.fdiv_eq_ediv_of_nonneg _ (Int.le_of_lt (Int.pow_pos ar))];generalize r / 2 ^ k.toNat=a;have e1:(BitVec.ofInt 64 1).toNat=1:=rfl;rw[BitVec.toNat_and,e1,Nat.and_one_is_mod,BitVec.toNat_ofInt];have e2:(a % ((2 ^ 64:Nat):Int)).toNat % 2=(a % 2).toNat:=ab;rw[e2];have:0<=a % 2/\a % 2<2:=ab;rw[wI ab ab];rw[xL];simp only[beq_iff_eq];omega
theorem J0 (x:dS):(lK x).all cG=true:=by
 show(_&&(_&&(_&&(_&&(_&&(_&&(_&&(cG x.1.t.v&&(_&&true)))))))))=true;rw[Tm.cU];rfl
theorem agP (h:eh w F b p)(ho:cX p)(ht:TabW w)(f:bS)(hm:eT f.m)(h0:0<=f.2.2.2.2.1)(mG:0<=f.m.kind)(o0:f.m.kind<=64):
  au 137 #[aZ b,oH f.f] w λ r w'=>oP w.heap.size w' r (p.la f)/\Fr none1 w w':=by
 have hR:=h;obtain⟨c,l,Fc,Fl,h⟩:=h;have hk:=ho.kb;have nk:=ho.num;refine c137 _ f.f w _ ?_;unfold C137;refine aC.of λ g1 w1 eG aE f1 _=>aC.of λ g3 w2 pV bJ f2 _=>aU.of λ w4 _ J6=>bL.all ?_;have f14:=(f1.trans f2).trans J6;have h4:=h.ag f14;have a4:sj w4 g1 f:=(f2.trans J6).ag aE;have b4:=J6.ag bJ;have bl:=cQ h.aR;have l1:=cQ aE;have l3:=cQ bJ;have z1:=f1.size;have qo:w.heap.size<=g3:=ab;have bD:∀ {wx:ah} (A:cE),A.bg=[]->Fr none1 w wx->wx.heap[g3]? = w4.heap[g3]? -> p.la f=A->aG ⟨g3,0,none⟩ (iB A (none,0,0)) wx λ w1=>aF fX ⟨g3,0,none⟩ w1 λ x=>(oP w.heap.size w1 (.agg (Cs.vals fX x).toArray) (p.la f)/\Fr none1 w w1):=
  λ A hA fx hb e=>pv (by rw[hb];exact b4) rfl qo fx A (none,0,0) (uD hA) vF vE e
 refine aJ.all (af.aw a4 (x:=f.2.2.2.2.1) rfl (aJ.all (h4.db hk 0 (ck:=.int .i64) (x:=p.side) rfl ?_)));refine an.of (GH f.2.2.2.2.1 h0 w4) ?_;rintro _ _ ⟨rfl,rfl⟩;refine⟨_,rfl,az.of (Fr.refl _ _) (ae.eq (λ he=>?_) (λ he=>?_))⟩
 ·have he:PeerM.owner f.2.2.2.2.1=p.side:=he
  exact bD { bq with bD:=true } rfl f14 rfl (by unfold PeerM.la;rw[if_pos (.inl he)])
 have he:PeerM.owner f.2.2.2.2.1≠p.side:=he;refine aJ.all (af.aw a4 (x:=f.2.2.2.2.1) rfl (aJ.all (af.aw a4 (x:=f.2.2.2.2.2.1) rfl ?_)));refine an.of (Pk (hR.ag f14) ho _ _) ?_;rintro _ _ ⟨rfl,rfl⟩;refine⟨_,rfl,?_⟩
 try refine az.of (Fr.refl _ _) ?_
 refine ae.by (λ hs=>?_) (λ hs=>?_)
 ·exact bD { bq with bD:=true } rfl f14 rfl (by unfold PeerM.la;rw[if_pos (.inr hs)])
 have c1:¬ (PeerM.owner f.2.2.2.2.1=p.side\/p.kN f.2.2.2.2.1 f.2.2.2.2.2.1=true):=λ t=>t.elim (λ q=>he q) (λ q=>by have hs:p.kN f.2.2.2.2.1 f.2.2.2.2.2.1=false:=hs;rw[hs] at q;cases q);refine aU.of λ w5 vB f5=>bL.all ?_;have f15:=f14.trans f5;have h5:=h4.ag f5;have a5:=a4.ag f5;refine aJ.all (af.aw a5 (x:=f.2.2.2.2.1) rfl (aJ.all (h5.db hk 1 (ck:=.ptr) (x:=some ⟨c,0,none⟩) rfl ?_)));refine an.of (tu hk h5.ch) ?_;rintro _ _ ⟨rfl,rfl⟩;refine⟨_,rfl,?_⟩
 try refine az.of (Fr.refl _ _) ?_
 have GI:∀ {wx:ah},Fr none1 w4 wx->wx.heap[g3]? = w4.heap[g3]? := λ fx=>by rw[b4];exact fx.ag b4
 have z4:=f14.size;have z24:=J6.size;refine ae.dec (λ bI=>?_) (λ bI=>?_)
 ·have bI:f.2.2.2.2.1<p.len:=bI
  refine af.aw a5 (x:=f.2.2.2.2.1) rfl ?_;refine an.of (agH (hR.ag f15) ho f.2.2.2.2.1 h0 bI) ?_;rintro _ w6 ⟨s,rfl,Tg,f6,sf⟩;refine⟨s,rfl,?_⟩;have z5:=f5.size;exact pv (by rw[GI (f5.trans f6)];exact b4) rfl qo (f15.trans f6) { bq with bg:=[PeerM.fr 2 f.2.2.2.2.1 (p.at_ (f.2.2.2.2.1+1)).1 (p.es.getD f.2.2.2.2.1.toNat (bH,false)).2 bH] } s Tg (λ k hk=>by have:=sf k hk;omega) (λ k hk=>by have:=sf k hk;omega) (by unfold PeerM.la;rw[if_neg c1,if_pos bI])
 have c2:¬ f.2.2.2.2.1<p.len:=bI;refine aU.of λ w6 hw6 f6=>bL.all ?_;have f46:=f5.trans f6;have f16:=f14.trans f46;have h6:=h5.ag f6;have a6:=a5.ag f6;refine aJ.all (af.aw a6 (x:=f.2.2.2.2.1) rfl (aJ.all (h6.db hk 1 (ck:=.ptr) (x:=some ⟨c,0,none⟩) rfl ?_)));refine an.of (tu hk h6.ch) ?_;rintro _ _ ⟨rfl,rfl⟩;refine⟨_,rfl,?_⟩
 try refine az.of (Fr.refl _ _) ?_
 refine ae.dec (λ rM=>?_) (λ rM=>?_)
 ·have rM:p.len<f.2.2.2.2.1:=rM
  exact bD bq rfl f16 (GI f46) (by unfold PeerM.la;rw[if_neg c1,if_neg c2,if_pos (.inl rM)])
 have rM:¬ p.len<f.2.2.2.2.1:=rM;refine an.of (Ph (hR.ag f16) hk) ?_;rintro _ _ ⟨rfl,rfl⟩;refine⟨_,rfl,?_⟩
 try refine az.of (Fr.refl _ _) ?_
 refine ae.by (λ hf=>?_) (λ hf=>?_)
 ·exact bD bq rfl f16 (GI f46) (by unfold PeerM.la;rw[if_neg c1,if_neg c2,if_pos (.inr hf)])
 have c3:¬ (p.len<f.2.2.2.2.1\/p.full=true):=λ t=>t.elim rM (λ q=>by have hf:p.full=false:=hf;rw[hf] at q;cases q);have e0:p.la f=if(dF p.kb p.head (f.m,p.cu f.m)).2≠0 then bq else{ bq with cP:=true,bB:=(f.m,p.cu f.m),bg:=[PeerM.fr 2 f.2.2.2.2.1 (dF p.kb p.head (f.m,p.cu f.m)).1 (p.cu f.m) bH] }:=by
  conv=>lhs;unfold PeerM.la
  rw[if_neg c1,if_neg c2,if_neg c3]
 have z6:=f46.size;refine dc.of (λ st w'=>∃ g:Nat,st.1=some ⟨g,0,none⟩/\w'.heap[g]? = some (.cells (lK (f.m,p.cu f.m)).toArray 68 (0,0))/\Fr none1 w6 w'/\w6.heap.size<=g) ?_ ?_
 ·refine aU.of λ w7 hw7 f7=>bL.of (λ k=>k=b\/k=g1) ?_
  have f17:=f16.trans f7;have h7:=h6.ag f7;have a7:=a6.ag f7;have z7:=f7.size;have aiH:=ho.side;have W9:IntKind.i64.wrap (1 - p.side)=1 - p.side:=wI ab ab;refine⟨.inr rfl,a7.ev ⟨.inl rfl,h7.db hk 2 (ck:=.ptr) (x:=some ⟨l,0,none⟩) rfl ⟨.inr rfl,a7.ev ⟨.inl rfl,h7.db hk 0 (ck:=.int .i64) (x:=p.side) rfl ⟨?a,?b⟩⟩⟩⟩⟩
  case' a=>
   rw[W9];refine an.of (JS h7.ld ho.bX f.m hm.2.2.2.2 (ht.ag f17) (1 - p.side)) ?_;rintro _ w8 ⟨rfl,f8⟩;have z8:=f8.size;have h8:=h7.ag f8;have a8:=a7.ag f8;refine⟨_,rfl,az.of f8 (ae.ne (λ aL=>?_) (λ he=>?_))⟩
   ·have aL:gT p.bX f.m (1 - p.side)≠0:=aL
    have er:p.cu f.m=true:=by unfold PeerM.cu;rw[show(gT p.bX f.m (1 - p.side) != 0)=true by simpa using aL];rfl
    refine aC.of λ g w9 hg oG f9 _=>az.of f9 (aG.aR (vs:=lK (f.m,true)) oG rfl (J0 _) λ aX oK f10 wT=>az.on f10 (λ k hk q=>by have:k=g:=q;rcases hk with rfl | rfl<;>omega) ?_)
    exact⟨g,rfl,by rw[er];exact oK,((f7.trans f8).trans f9).fresh f10 ab,by omega⟩
   ·have he:gT p.bX f.m (1 - p.side)=0:=he
    have er:p.cu f.m=((p.refused / 2 ^ f.m.kind.toNat) % 2==1):=by unfold PeerM.cu;rw[he];rfl
    refine⟨.inl rfl,h8.db hk 23 (ck:=.int .i64) (x:=p.refused) rfl ⟨.inr rfl,a8.kind ⟨mG,?_⟩⟩⟩;rw[W8 _ _ mG o0,<- er];refine aC.of λ g w9 hg oG f9 _=>az.of f9 (aG.aR (vs:=lK (f.m,p.cu f.m)) oG rfl (J0 _) λ aX oK f10 wT=>az.on f10 (λ k hk q=>by have:k=g:=q;rcases hk with rfl | rfl<;>omega) ?_)
    exact⟨g,rfl,oK,((f7.trans f8).trans f9).fresh f10 ab,by omega⟩
  case' b=>
   rw[W9];refine aC.of λ g w8 hg lU f8 _=>az.of f8 ?_;refine an.of (JS (h7.ag f8).ld ho.bX f.m hm.2.2.2.2 (ht.ag (f17.trans f8)) (1 - p.side)) ?_;rintro _ w9 ⟨rfl,f9⟩;have h9:=(h7.ag f8).ag f9;have a9:=(a7.ag f8).ag f9;refine⟨_,rfl,az.of f9 (ae.ne (λ aL=>?_) (λ he=>?_))⟩
   ·have aL:gT p.bX f.m (1 - p.side)≠0:=aL
    have er:p.cu f.m=true:=by unfold PeerM.cu;rw[show(gT p.bX f.m (1 - p.side) != 0)=true by simpa using aL];rfl
    refine aG.aR (vs:=lK (f.m,true)) (f9.ag lU) rfl (J0 _) λ aX oK f10 wT=>az.on f10 (λ k hk q=>by have:k=g:=q;rcases hk with rfl | rfl<;>omega) ?_
    exact⟨g,rfl,by rw[er];exact oK,((f7.trans f8).trans f9).fresh f10 ab,by omega⟩
   ·have he:gT p.bX f.m (1 - p.side)=0:=he
    have er:p.cu f.m=((p.refused / 2 ^ f.m.kind.toNat) % 2==1):=by unfold PeerM.cu;rw[he];rfl
    refine⟨.inl rfl,h9.db hk 23 (ck:=.int .i64) (x:=p.refused) rfl ⟨.inr rfl,a9.kind ⟨mG,?_⟩⟩⟩;rw[W8 _ _ mG o0,<- er];refine aG.aR (vs:=lK (f.m,p.cu f.m)) (f9.ag lU) rfl (J0 _) λ aX oK f10 wT=>az.on f10 (λ k hk q=>by have:k=g:=q;rcases hk with rfl | rfl<;>omega) ?_
    exact⟨g,rfl,oK,((f7.trans f8).trans f9).fresh f10 ab,by omega⟩
 rintro _ ⟨st,_⟩ w7 ⟨g,dH,hbg,f7,gl⟩;dsimp only at dH ⊢;subst dH;refine aU.of λ w8 hw8 f8=>bL.all ?_;have f68:=f7.trans f8;have f18:=f16.trans f68;have h8:=h6.ag f68;have a8:=a6.ag f68;have b8:=f8.ag hbg;refine aJ.all (h8.key hk (aJ.all (h8.db hk 1 (ck:=.ptr) (x:=some ⟨c,0,none⟩) rfl (aJ.all (aF.aR (cks:=qQ) (x:=od f.m.e (p.cu f.m)) b8 ?_)))));refine an.of (JK hk h8.ch ho.hs ab) ?_;rintro _ w9 ⟨rfl,f9⟩;refine⟨_,rfl,az.of f9 ?_⟩;have xk:=ho.AP;refine an.of (O6 (x:=(f.m,p.cu f.m)) hk xk.1 xk.2 hm (ht.ag (f18.trans f9))) ?_;rintro _ aX ⟨rfl,f10⟩;have xu:=(f18.trans f9).trans f10;have Ps:Fr none1 w4 aX:=((f46.trans f68).trans f9).trans f10;have tU:=(a8.ag f9).ag f10;have wW:=(f9.trans f10).ag b8;generalize dF p.kb p.head (f.m,p.cu f.m)=N at *;refine⟨(N.1,N.2,()),rfl,?_⟩
 try refine az.of f10 ?_
 refine ae.ne (λ aL=>?_) (λ mW=>?_)
 ·have aL:N.2≠0:=aL
  exact bD bq rfl xu (GI Ps) (by rw[e0,if_pos aL])
 have mW:N.2=0:=mW;refine aF.aR (cks:=qQ) (x:=od f.m.e (p.cu f.m)) wW (af.aw tU (x:=f.2.2.2.2.1) rfl (af.aw wW (x:=p.cu f.m) rfl ?_));obtain⟨s,bt,hr,agQ,_,f11,sf⟩:=po (P:=Tryz.prog) (w:=aX) DG (fB (PeerM.fr 2 f.2.2.2.2.1 N.1 (p.cu f.m) bH).f) rfl ar;refine⟨s,bt,hr,?_⟩;have z10:=Ps.size;exact pv (by rw[GI (Ps.trans f11)];exact b4) rfl qo (xu.trans f11) { bq with cP:=true,bB:=(f.m,p.cu f.m),bg:=[PeerM.fr 2 f.2.2.2.2.1 N.1 (p.cu f.m) bH] } s (by rw[DF];exact agQ) (λ k hk=>by have:=sf k hk;omega) (λ k hk=>by have:=sf k hk;omega) (by rw[e0,if_neg (λ t=>t mW)])
theorem agR {f:bS}(h:pY f=0):0<=f.2.2.2.2.1/\f.2.2.2.2.1<=2147483647:=by
 unfold pY mz at h;split at h
 ·cases h
 ·rename_i hh
  have hh:qR f.f=true:=by simpa using hh
  unfold qR at hh;simp only[dp] at hh;have:=hh.2.2.2;unfold gF at this;simp only[dp,decide_eq_true_eq] at this;exact this
theorem agS {f:bS}(h:pY f=0)(hk:f.2.2.2.1=1):0<=f.m.kind/\f.m.kind<=64:=by
 unfold pY mz at h;split at h
 ·cases h
 split at h
 ·cases h
 rw[if_pos (show f.f.2.2.2.1=1 from hk)] at h;unfold pN at h;split at h
 ·cases h
 rename_i hf;have hf:iS f.m.kind≠[63]:=hf;unfold iS at hf
 by_cases h1:f.m.kind=1
 ·omega
 by_cases h2:f.m.kind=2
 ·omega
 by_cases h3:f.m.kind=3
 ·omega
 by_cases h4:f.m.kind=4
 ·omega
 by_cases h5:f.m.kind=5
 ·omega
 by_cases h6:f.m.kind=6
 ·omega
 rw[if_neg h1,if_neg h2,if_neg h3,if_neg h4,if_neg h5,if_neg h6] at hf;exact absurd rfl hf
theorem agT (h:eh w F b p)(ho:cX p)(ht:TabW w)(f:bS)(hm:eT f.m):
  au 92 #[aZ b,oH f.f] w λ r w'=>oP w.heap.size w' r (p.take f)/\Fr none1 w w':=by
 have hR:=h;obtain⟨c,l,Fc,Fl,h⟩:=h;have hk:=ho.kb;refine c92 _ f.f w _ ?_;unfold C92;refine aC.of λ g1 w1 eG aE f1 _=>aC.of λ g3 w2 pV bJ f2 _=>aU.of λ w3 _ f3=>bL.all ?_;have f13:=(f1.trans f2).trans f3;have a3:sj w3 g1 f:=(f2.trans f3).ag aE;have b3:=f3.ag bJ;have l3:=cQ b3;have z1:=f1.size;have z13:=f13.size;have qo:w.heap.size<=g3:=ab;refine aJ.all (aF.aR (cks:=FK) (x:=f.f) a3 ?_);refine an.of (adS f hm.2.2.2.2 w3 (ht.ag f13)) ?_;rintro _ w4 ⟨rfl,f4⟩;have f14:=f13.trans f4;have h4:=h.ag f14;have a4:=a3.ag f4;have b4:=f4.ag b3;have z4:=f4.size;have bD:∀ (A:cE),A.bg=[]->p.take f=A->aG ⟨g3,0,none⟩ (iB A (none,0,0)) w4 λ w1=>aF fX ⟨g3,0,none⟩ w1 λ x=>(oP w.heap.size w1 (.agg (Cs.vals fX x).toArray) (p.take f)/\Fr none1 w w1):=
  λ A hA e=>pv b4 rfl qo f14 A (none,0,0) (uD hA) vF vE e
 have bg:∀ {fn:FuncId} (A:cE),au fn #[aZ b,oH f.f] w4 (λ r w'=>oP w4.heap.size w' r A/\Fr none1 w4 w')->p.take f=A ->
   aF FK ⟨g1,0,none⟩ w4 λ(bZ:Cs FK)=>ak fn #[aZ b,.agg (Cs.vals FK bZ).toArray] w4 (.v (.agg fX)) λ(cF:Cs fX) ct=>aG ⟨g3,0,none⟩ (Cs.vals fX cF) ct λ w1=>aF fX ⟨g3,0,none⟩ w1 λ x=>(oP w.heap.size w1 (.agg (Cs.vals fX x).toArray) (p.take f)/\Fr none1 w w1):=by
  intro fn A hr e;refine aF.aR (cks:=FK) (x:=f.f) a4 (an.of hr ?_);rintro _ w5 ⟨⟨s,rfl,hs,sf⟩,f5⟩;exact⟨pq A s,rfl,pv (f5.ag b4) rfl qo (f14.trans f5) A s hs (λ k hk=>by have:=sf k hk;omega) (λ k hk=>by have:=sf k hk;omega) e⟩
 refine⟨_,rfl,?_⟩
 try refine az.of f4 ?_
 refine ae.ne (λ aL=>?_) (λ he=>?_)
 ·have aL:pY f≠0:=aL
  exact bD bq rfl (by unfold PeerM.take;rw[if_pos (.inl aL)])
 have he:pY f=0:=he;refine aJ.all (af.aw a4 (x:=f.1) rfl (aJ.all (h4.db hk 0 (ck:=.int .i64) (x:=p.side) rfl (ae.eq (λ hs=>?_) (λ hs=>?_)))))
 ·have hs:f.1=p.side:=hs
  exact bD bq rfl (by unfold PeerM.take;rw[if_pos (.inr hs)])
 have hs:f.1≠p.side:=hs;have c1:¬ (pY f≠0\/f.1=p.side):=λ t=>t.elim (λ q=>q he) hs;have jW:=agR he;refine af.aw a4 (x:=f.2.2.2.1) rfl (ae.eq (λ h1=>?_) (λ h1=>?_))
 ·have h1:f.2.2.2.1=4:=h1
  exact bg (p.lH f) (agN (hR.ag f14) ho f) (by unfold PeerM.take;rw[if_neg c1,if_pos h1])
 have h1:f.2.2.2.1≠4:=h1;refine h4.db hk 22 (ck:=.bool) (x:=p.bD) rfl (ae.by (λ hq=>?_) (λ hq=>?_))
 ·have hq:p.bD=true:=hq
  exact bD bq rfl (by unfold PeerM.take;rw[if_neg c1,if_neg h1,if_pos hq])
 have c3:¬ p.bD=true:=by have hq:p.bD=false:=hq;rw[hq];simp
 refine af.aw a4 (x:=f.2.2.2.1) rfl (ae.eq (λ h2=>?_) (λ h2=>?_))
 ·have h2:f.2.2.2.1=3:=h2
  exact bg (p.want f) (agD (hR.ag f14) ho f) (by unfold PeerM.take;rw[if_neg c1,if_neg h1,if_neg c3,if_pos h2])
 have h2:f.2.2.2.1≠3:=h2;refine af.aw a4 (x:=f.2.2.2.1) rfl (ae.eq (λ h3=>?_) (λ h3=>?_))
 ·have h3:f.2.2.2.1=1:=h3
  have FU:=agS he h3;exact bg (p.la f) (agP (hR.ag f14) ho (ht.ag f14) f hm jW.1 FU.1 FU.2) (by unfold PeerM.take;rw[if_neg c1,if_neg h1,if_neg c3,if_neg h2,if_pos h3])
 have h3:f.2.2.2.1≠1:=h3;exact bg (p.mS f) (agO (hR.ag f14) ho (ht.ag f14) f jW.1 ab) (by unfold PeerM.take;rw[if_neg c1,if_neg h1,if_neg c3,if_neg h2,if_neg h3])
end Go.Proofs.YtfolkckcakndkaaGreatDoor
