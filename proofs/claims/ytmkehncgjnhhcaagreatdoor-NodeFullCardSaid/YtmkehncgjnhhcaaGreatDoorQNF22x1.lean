/-
  Texts of this claim, put together: CEventG, Shelf, EventSpec, RuneSl, CPackE, PackSpec, TermV, CObsG, ObsSpec, CTermG, TermSpec, CWriteG, WriteSpec, RuneSpec, CStrLib, CNumG.
  Conditions: those of each theorem.
-/
import Derived.Test.YtmkehncgjnhhcaaGreatDoorQNF22x0
import Derived.KernelRfl
import Derived.Laws.StructEq
import Derived.Shelf.Bytes.SlEqualAll
import Derived.Shelf.Bytes.Small
import Derived.Shelf.LaysM
import Derived.Shelf.SlMaps.Clone
import Derived.Shelf.Small.Strs
import Derived.Shelf.Small.Utf8
import Derived.Shelf.Strconv.Itoa0
import Derived.Shelf.Strconv.Itoa1
import Derived.Shelf.Strconv.Itoa2
import Derived.Shelf.Strconv.Itoa3
import Derived.Shelf.Strings.AsciiSet
import Derived.Shelf.Strings.Builder1
import Derived.Shelf.Strings.Builder2
import Derived.Shelf.Strings.OnBuilder
import Derived.Shelf.Strings.Runes
import Derived.Shelf.Strings.Search1
import Derived.Shelf.Strings.Search2
import Derived.Shelf.Strings.Search3
import Derived.Shelf.Strings.Shaped
import Derived.Shelf.Unicode.DecodeSlow
import Derived.Shelf.Utf8.RuneCount
import Derived.Test.YtmkehncgjnhhcaaGreatDoorProg
namespace Go.Proofs.YtmkehncgjnhhcaaGreatDoor
open Vc
set_option maxRecDepth 100000
set_option linter.unusedVariables false
def C70 (p0:bE)(w:World)(K:Value->World->Prop):Prop:=
 ak (.cells ((bP p0).toArray) 36) w (fun g1 w2=>ae (.int .i64) ((ad g1).add 0) w2 (fun(x3:Int)=>ab Tryz.prog 128 #[.int .i64 x3] w2 (.v (.one .str)) (fun(x4:ByteArray) w5=>aa (x4.toList==(⟨#[63]⟩:ByteArray).toList)
 (K (.int .i64 1) w5)
 (aq dt (ad g1) w5 (fun(x6:bE)=>ab Tryz.prog 129 #[.agg (bP x6).toArray] w5 (.v (.one .bool)) (fun(x7:Bool) w8=>aa (!x7)
 (K (.int .i64 1) w8)
 (aq dt (ad g1) w8 (fun(x9:bE)=>ab Tryz.prog 130 #[.agg (bP x9).toArray] w8 (.v (.one .bool)) (fun(aR:Bool) aO=>aa (!aR)
 (K (.int .i64 1) aO)
 (ae (.int .i64) ((ad g1).add 5) aO (fun(bt:Int)=>aa (decide (bt<0))
 (K (.int .i64 1) aO)
 (ae (.int .i64) ((ad g1).add 5) aO (fun(bD:Int)=>aa (decide (bD > 10000))
 (K (.int .i64 1) aO)
 (ae (.int .i64) ((ad g1).add 6) aO (fun(bd:Int)=>ab Tryz.prog 131 #[.int .i64 bd] aO (.v (.one .bool)) (fun(bj:Bool) bn=>aa (!bj)
 (K (.int .i64 1) bn)
 (cq (Bool×Unit) (fun EE=>ae (.int .i64) ((ad g1).add 0) bn (fun(cw:Int)=>aa (cw==4)
 (ae (.int .i64) ((ad g1).add 6) bn (fun(bT:Int)=>aa (bT != 0)
 (ae (.int .i64) ((ad g1).add 6) bn (fun(bR:Int)=>EE ((bR != 1),()) bn))
 (EE (false,()) bn)))
 (EE (false,()) bn)))
 (fun _ oL bx=>aa oL.1
 (K (.int .i64 1) bx)
 (ae (.int .i64) ((ad g1).add 0) bx (fun(cr:Int)=>aa (cr==2)
 (ae .raw ((ad g1).add 7) bx (fun(cj:Value)=>ab Tryz.prog 132 #[cj] bx (.aN [.one .str,.one (.int .i64)]) (fun(bC:ByteArray×Int×Unit) ct=>K (.int .i64 bC.2.1) ct)))
 (K (.int .i64 0) bx)))))))))))))))))))))
def pl70:aB:=(.seq .auto (.seq (.block (.seq .auto (.cond .auto (.seq .auto (.cond .auto (.join [(35,.one .bool)] .auto .auto)))))) .auto))
theorem c70 (p0:bE)(w:World)(K:Value->World->Prop)(h:C70 p0 w K):Ret Tryz.prog 70 #[.agg (bP p0).toArray] w K:=aC (by kernel_rfl) Tryz.func70 (p:=pl70) (Eq.mpr (by kernel_rfl) h)
def C128 (p0:Int)(w:World)(K:Value->World->Prop):Prop:=
 aa (p0==1)
 (K (.string (⟨#[]⟩:ByteArray)) w)
 (aa (p0==2)
 (K (.string (⟨#[73,84]⟩:ByteArray)) w)
 (aa (p0==3)
 (K (.string (⟨#[78,68,86]⟩:ByteArray)) w)
 (aa (p0==4)
 (K (.string (⟨#[73,76,86]⟩:ByteArray)) w)
 (aa (p0==5)
 (K (.string (⟨#[68]⟩:ByteArray)) w)
 (aa (p0==6)
 (K (.string (⟨#[68,67,86]⟩:ByteArray)) w)
 (K (.string (⟨#[63]⟩:ByteArray)) w))))))
def pl128:aB:=.auto
theorem c128 (p0:Int)(w:World)(K:Value->World->Prop)(h:C128 p0 w K):Ret Tryz.prog 128 #[.int .i64 p0] w K:=aC (by kernel_rfl) Tryz.func128 (p:=pl128) (Eq.mpr (by kernel_rfl) h)
def C129 (p0:bE)(w:World)(K:Value->World->Prop):Prop:=
 ak (.cells ((bP p0).toArray) 36) w (fun g1 w2=>ak (.map #[] 0) w2 (fun g3 w4=>ae .str ((ad g1).add 1) w4 (fun(x5:ByteArray)=>jm Tryz.prog (Instr.mapUpdate 293 (.map (some g3)) (.string (⟨#[73]⟩:ByteArray)) (.string x5)) w4 (fun w6=>ae .str ((ad g1).add 2) w6 (fun(x7:ByteArray)=>jm Tryz.prog (Instr.mapUpdate 293 (.map (some g3)) (.string (⟨#[78]⟩:ByteArray)) (.string x7)) w6 (fun w8=>ae .str ((ad g1).add 3) w8 (fun(x9:ByteArray)=>jm Tryz.prog (Instr.mapUpdate 293 (.map (some g3)) (.string (⟨#[76]⟩:ByteArray)) (.string x9)) w8 (fun aG=>ae .str ((ad g1).add 4) aG (fun(ba:ByteArray)=>jm Tryz.prog (Instr.mapUpdate 293 (.map (some g3)) (.string (⟨#[67]⟩:ByteArray)) (.string ba)) aG (fun aM=>az Tryz.prog (Instr.range 293 (.map (some g3))) aM (.v (.one .ptr)) (fun(bD:Option Addr) bm=>bw (Unit) (fun _ nS bn uL=>A6 Tryz.prog (.pointer bD) 0 bn (fun br bu bo=>az Tryz.prog (Instr.entry (.pointer bD)) bo (.aN [.one .raw,.one .raw]) (fun(bR:Value×Value×Unit) cV=>Kd.ex (.one .str) bR.1 (fun(cj:ByteArray)=>Kd.ex (.one .str) bR.2.1 (fun(bC:ByteArray)=>aa (!(bC.toList==(⟨#[]⟩:ByteArray).toList))
 (ae (.int .i64) ((ad g1).add 0) cV (fun(cZ:Int)=>ab Tryz.prog 168 #[.int .i64 cZ,.string cj] cV (.v (.one .bool)) (fun(cz:Bool) bS=>aa (!cz)
 (K (.bool false) bS)
 (uL (()) bS))))
 (uL (()) cV)))))
 (fun bB=>ae (.int .i64) ((ad g1).add 5) bB (fun(cx:Int)=>aa (cx==0)
 (ae (.int .i64) ((ad g1).add 6) bB (fun(eg:Int)=>aa (eg==0)
 (ae .raw ((ad g1).add 7) bB (fun(bZ:Value)=>az Tryz.prog (do eqGuard .eql 34 (.tmp 52) (.const .nilIface) bZ .nilIface;binOp .eql 34 bZ .nilIface) bB (.v (.one .bool)) (fun(dK:Bool) dS=>aa dK
 (K (.bool true) dS)
 (ae (.int .i64) ((ad g1).add 0) dS (fun(dj:Int)=>ab Tryz.prog 168 #[.int .i64 dj,.string (⟨#[84]⟩:ByteArray)] dS (.v (.one .bool)) (fun(de:Bool) cQ=>K (.bool de) cQ))))))
 (ae (.int .i64) ((ad g1).add 0) bB (fun(gn:Int)=>ab Tryz.prog 168 #[.int .i64 gn,.string (⟨#[86]⟩:ByteArray)] bB (.v (.one .bool)) (fun(dF:Bool) eh=>aa dF
 (ae .raw ((ad g1).add 7) eh (fun(iX:Value)=>az Tryz.prog (do eqGuard .eql 34 (.tmp 52) (.const .nilIface) iX .nilIface;binOp .eql 34 iX .nilIface) eh (.v (.one .bool)) (fun(ek:Bool) fM=>aa ek
 (K (.bool true) fM)
 (ae (.int .i64) ((ad g1).add 0) fM (fun(jo:Int)=>ab Tryz.prog 168 #[.int .i64 jo,.string (⟨#[84]⟩:ByteArray)] fM (.v (.one .bool)) (fun(jq:Bool) gK=>K (.bool jq) gK))))))
 (K (.bool false) eh))))))
 (ae (.int .i64) ((ad g1).add 0) bB (fun(jW:Int)=>ab Tryz.prog 168 #[.int .i64 jW,.string (⟨#[68]⟩:ByteArray)] bB (.v (.one .bool)) (fun(dA:Bool) gB=>aa dA
 (ae (.int .i64) ((ad g1).add 6) gB (fun(fu:Int)=>aa (fu==0)
 (ae .raw ((ad g1).add 7) gB (fun(gW:Value)=>az Tryz.prog (do eqGuard .eql 34 (.tmp 52) (.const .nilIface) gW .nilIface;binOp .eql 34 gW .nilIface) gB (.v (.one .bool)) (fun(js:Bool) gC=>aa js
 (K (.bool true) gC)
 (ae (.int .i64) ((ad g1).add 0) gC (fun(gq:Int)=>ab Tryz.prog 168 #[.int .i64 gq,.string (⟨#[84]⟩:ByteArray)] gC (.v (.one .bool)) (fun(kg:Bool) gr=>K (.bool kg) gr))))))
 (ae (.int .i64) ((ad g1).add 0) gB (fun(kO:Int)=>ab Tryz.prog 168 #[.int .i64 kO,.string (⟨#[86]⟩:ByteArray)] gB (.v (.one .bool)) (fun(oM:Bool) qM=>aa oM
 (ae .raw ((ad g1).add 7) qM (fun(kj:Value)=>az Tryz.prog (do eqGuard .eql 34 (.tmp 52) (.const .nilIface) kj .nilIface;binOp .eql 34 kj .nilIface) qM (.v (.one .bool)) (fun(nT:Bool) uM=>aa nT
 (K (.bool true) uM)
 (ae (.int .i64) ((ad g1).add 0) uM (fun(yS:Int)=>ab Tryz.prog 168 #[.int .i64 yS,.string (⟨#[84]⟩:ByteArray)] uM (.v (.one .bool)) (fun(mW:Bool) jt=>K (.bool mW) jt))))))
 (K (.bool false) qM))))))
 (K (.bool false) gB)))))))
 (()) bm)))))))))))
def pl129:aB:=(.seq .auto (.seq .auto (.seq (.seq .auto (.block (.loop [] .auto))) .auto)))
theorem c129 (p0:bE)(w:World)(K:Value->World->Prop)(h:C129 p0 w K):Ret Tryz.prog 129 #[.agg (bP p0).toArray] w K:=aC (by kernel_rfl) Tryz.func129 (p:=pl129) (Eq.mpr (by kernel_rfl) h)
def C130 (p0:bE)(w:World)(K:Value->World->Prop):Prop:=
 ak (.cells ((bP p0).toArray) 36) w (fun g1 w2=>ak (.map #[] 0) w2 (fun g3 w4=>ae .str ((ad g1).add 1) w4 (fun(x5:ByteArray)=>jm Tryz.prog (Instr.mapUpdate 293 (.map (some g3)) (.string (⟨#[73]⟩:ByteArray)) (.string x5)) w4 (fun w6=>ae .str ((ad g1).add 2) w6 (fun(x7:ByteArray)=>jm Tryz.prog (Instr.mapUpdate 293 (.map (some g3)) (.string (⟨#[78]⟩:ByteArray)) (.string x7)) w6 (fun w8=>ae .str ((ad g1).add 3) w8 (fun(x9:ByteArray)=>jm Tryz.prog (Instr.mapUpdate 293 (.map (some g3)) (.string (⟨#[76]⟩:ByteArray)) (.string x9)) w8 (fun aG=>ae .str ((ad g1).add 4) aG (fun(ba:ByteArray)=>jm Tryz.prog (Instr.mapUpdate 293 (.map (some g3)) (.string (⟨#[67]⟩:ByteArray)) (.string ba)) aG (fun aM=>az Tryz.prog (Instr.range 293 (.map (some g3))) aM (.v (.one .ptr)) (fun(bD:Option Addr) bm=>bw (Unit) (fun _ nS bn uL=>A6 Tryz.prog (.pointer bD) 0 bn (fun br bu bo=>az Tryz.prog (Instr.entry (.pointer bD)) bo (.aN [.one .raw,.one .raw]) (fun(bR:Value×Value×Unit) cV=>Kd.ex (.one .str) bR.1 (fun(cj:ByteArray)=>Kd.ex (.one .str) bR.2.1 (fun(bC:ByteArray)=>ae (.int .i64) ((ad g1).add 0) cV (fun(cZ:Int)=>ab Tryz.prog 168 #[.int .i64 cZ,.string cj] cV (.v (.one .bool)) (fun(cz:Bool) bS=>aa cz
 (ab Tryz.prog 169 #[.string bC] bS (.v (.one .bool)) (fun(cx:Bool) bO=>aa (!cx)
 (K (.bool false) bO)
 (uL (()) bO)))
 (uL (()) bS)))))))
 (fun bB=>K (.bool true) bB))
 (()) bm)))))))))))
def pl130:aB:=(.seq .auto (.seq .auto (.seq (.seq .auto (.block (.loop [] .auto))) .auto)))
theorem c130 (p0:bE)(w:World)(K:Value->World->Prop)(h:C130 p0 w K):Ret Tryz.prog 130 #[.agg (bP p0).toArray] w K:=aC (by kernel_rfl) Tryz.func130 (p:=pl130) (Eq.mpr (by kernel_rfl) h)
def C168 (p0:Int)(p1:ByteArray)(w:World)(K:Value->World->Prop):Prop:=
 ab Tryz.prog 128 #[.int .i64 p0] w (.v (.one .str)) (fun(x1:ByteArray) w2=>ab Tryz.prog 211 #[.string x1,.string p1] w2 (.v (.one .bool)) (fun(x3:Bool) w4=>K (.bool x3) w4))
def pl168:aB:=.auto
theorem c168 (p0:Int)(p1:ByteArray)(w:World)(K:Value->World->Prop)(h:C168 p0 p1 w K):Ret Tryz.prog 168 #[.int .i64 p0,.string p1] w K:=aC (by kernel_rfl) Tryz.func168 (p:=pl168) (Eq.mpr (by kernel_rfl) h)
def C131 (p0:Int)(w:World)(K:Value->World->Prop):Prop:=
 aa (decide (p0 >= (-1000000000000)))
 (K (.bool (decide (p0<=1000000000000))) w)
 (K (.bool false) w)
def pl131:aB:=.auto
theorem c131 (p0:Int)(w:World)(K:Value->World->Prop)(h:C131 p0 w K):Ret Tryz.prog 131 #[.int .i64 p0] w K:=aC (by kernel_rfl) Tryz.func131 (p:=pl131) (Eq.mpr (by kernel_rfl) h)
open Go.Shelf
def Tryz.KI:Go.Shelf.Ren:=⟨fun | 156=>249 | 165=>266 | 166=>267 | 169=>268 | 240=>293 | 241=>294 | 276=>312 | 277=>313 | n=>n,fun | 31=>51 | 9=>9 | 3=>3 | 4=>4 | 0=>0 | 20=>20 | 72=>420 | 76=>423 | 70=>418 | 37=>22 | 75=>422 | 127=>444 | 164=>459 | 5=>5 | 80=>344 | n=>n,fun | n=>n⟩
theorem Tryz.R4:Go.Proofs.Lays.n156 Tryz.prog Tryz.KI:={
 mixed:=by kernel_rfl
 f156:=Tryz.func249.trans (congrArg some (by kernel_rfl))
 f165:=Tryz.func266.trans (congrArg some (by kernel_rfl))
 f166:=Tryz.func267.trans (congrArg some (by kernel_rfl))
 f169:=Tryz.func268.trans (congrArg some (by kernel_rfl))
 f240:=Tryz.func293.trans (congrArg some (by kernel_rfl))
 f241:=Tryz.func294.trans (congrArg some (by kernel_rfl))
 f276:=Tryz.func312.trans (congrArg some (by kernel_rfl))
 f277:=Tryz.func313.trans (congrArg some (by kernel_rfl))
 t0:=Tryz.underlying0
 a0:=Tryz.isAgg0
 z0:=Tryz.sizeOf0
 v0:=Tryz.zeroValue0
 t3:=Tryz.underlying3
 a3:=Tryz.isAgg3
 z3:=Tryz.sizeOf3
 v3:=Tryz.zeroValue3
 t4:=Tryz.underlying4
 a4:=Tryz.isAgg4
 z4:=Tryz.sizeOf4
 v4:=Tryz.zeroValue4
 t9:=Tryz.underlying9
 a9:=Tryz.isAgg9
 z9:=Tryz.sizeOf9
 v9:=Tryz.zeroValue9
 t20:=Tryz.underlying20
 a20:=Tryz.isAgg20
 z20:=Tryz.sizeOf20
 v20:=Tryz.zeroValue20
 t31:=Tryz.underlying51
 a31:=Tryz.isAgg51
 z31:=Tryz.sizeOf51
 v31:=Tryz.zeroValue51
 t37:=Tryz.underlying22
 a37:=Tryz.isAgg22
 z37:=Tryz.sizeOf22
 v37:=Tryz.zeroValue22
 t70:=Tryz.underlying418
 a70:=Tryz.isAgg418
 z70:=Tryz.sizeOf418
 v70:=Tryz.zeroValue418
 t72:=Tryz.underlying420
 a72:=Tryz.isAgg420
 z72:=Tryz.sizeOf420
 v72:=Tryz.zeroValue420
 t75:=Tryz.underlying422
 a75:=Tryz.isAgg422
 z75:=Tryz.sizeOf422
 v75:=Tryz.zeroValue422
 t76:=Tryz.underlying423
 a76:=Tryz.isAgg423
 z76:=Tryz.sizeOf423
 v76:=Tryz.zeroValue423
 t127:=Tryz.underlying444
 a127:=Tryz.isAgg444
 z127:=Tryz.sizeOf444
 v127:=Tryz.zeroValue444
 t164:=Tryz.underlying459
 a164:=Tryz.isAgg459
 z164:=Tryz.sizeOf459
 v164:=Tryz.zeroValue459 }
theorem Tryz.R6:Builder.Extra Tryz.prog Tryz.KI:={
 sizeBuilder:=by kernel_rfl
 liesBuilder:=by kernel_rfl
 t5:=Tryz.underlying5
 a5:=Tryz.isAgg5
 z5:=Tryz.sizeOf5
 v5:=Tryz.zeroValue5
 infoByte:=by kernel_rfl
 cellsByte:=by kernel_rfl
 sizeByte:=by kernel_rfl
 neB5:=by decide }
open Go.RowKit in
theorem Tryz.strings_Join (bk o c:Nat)(xs:List ByteArray)(sep:ByteArray)(w:World)(uG:∀ (j:Nat) x,xs[j]? = some x->w.cell? ⟨bk,o+j,none⟩=some (.string x))(wv:bk<w.heap.size)(hN:xs.length<=140737488355328)(wC:xs.length<=c)(hlen:(Lib.join (xs.map (·.data.toList)) sep.data.toList).length<=140737488355328):
  Calls Tryz.prog 249 #[.slice (some ⟨bk,o,none⟩) xs.length c,.string sep] w fun e w'=>e=.returned (.string ⟨(Lib.join (xs.map (·.data.toList)) sep.data.toList).toArray⟩)/\Below w.heap.size w w':=Any.strings_Join Tryz.R4 Tryz.R6 bk o c xs sep w uG wv hN wC hlen
def Tryz.R8:Go.Shelf.Ren:=⟨fun | 195=>270 | n=>n,fun | 9=>9 | 3=>3 | 0=>0 | 4=>4 | n=>n,fun | n=>n⟩
theorem Tryz.Sa:Go.Proofs.Lays.n195 Tryz.prog Tryz.R8:={
 mixed:=by kernel_rfl
 f195:=Tryz.func270.trans (congrArg some (by kernel_rfl))
 t0:=Tryz.underlying0
 a0:=Tryz.isAgg0
 z0:=Tryz.sizeOf0
 v0:=Tryz.zeroValue0
 t3:=Tryz.underlying3
 a3:=Tryz.isAgg3
 z3:=Tryz.sizeOf3
 v3:=Tryz.zeroValue3
 t4:=Tryz.underlying4
 a4:=Tryz.isAgg4
 z4:=Tryz.sizeOf4
 v4:=Tryz.zeroValue4
 t9:=Tryz.underlying9
 a9:=Tryz.isAgg9
 z9:=Tryz.sizeOf9
 v9:=Tryz.zeroValue9 }
open Go.RowKit in
theorem Tryz.utf8_RuneCountInString (s:ByteArray)(w:World)(hs:s.size<9223372036854775807):
  Calls Tryz.prog 270 #[.string s] w fun e w'=>e=.returned (.int .i64 (Lib.runeCount s))/\∃ pos,w'=w.iter s pos:=Any.utf8_RuneCountInString Tryz.Sa s w hs
def Tryz.Sb:Go.Shelf.Ren:=⟨fun | 171=>220 | 243=>250 | 246=>269 | 283=>295 | 284=>296 | 285=>297 | 286=>298 | 129=>315 | 317=>314 | 318=>316 | 319=>317 | 320=>318 | 337=>327 | 338=>328 | n=>n,fun | 3=>3 | 9=>9 | 2=>2 | 4=>4 | 171=>445 | 0=>0 | 53=>40 | 37=>22 | 5=>5 | 173=>448 | 212=>461 | 51=>455 | 20=>20 | 213=>462 | 46=>125 | 232=>484 | 233=>485 | n=>n,fun | 17=>1 | 18=>2 | 19=>3 | n=>n⟩
theorem Tryz.Sc:Go.Proofs.LaysM.n171 Tryz.prog Tryz.Sb:={
 mixed:=by kernel_rfl
 f129:=Tryz.func315.trans (congrArg some (by kernel_rfl))
 f171:=Tryz.func220.trans (congrArg some (by kernel_rfl))
 f243:=Tryz.func250.trans (congrArg some (by kernel_rfl))
 f246:=Tryz.func269.trans (congrArg some (by kernel_rfl))
 f283:=Tryz.func295.trans (congrArg some (by kernel_rfl))
 f284:=Tryz.func296.trans (congrArg some (by kernel_rfl))
 f285:=Tryz.func297.trans (congrArg some (by kernel_rfl))
 f286:=Tryz.func298.trans (congrArg some (by kernel_rfl))
 f317:=Tryz.func314.trans (congrArg some (by kernel_rfl))
 f318:=Tryz.func316.trans (congrArg some (by kernel_rfl))
 f319:=Tryz.func317.trans (congrArg some (by kernel_rfl))
 f320:=Tryz.func318.trans (congrArg some (by kernel_rfl))
 f337:=Tryz.func327.trans (congrArg some (by kernel_rfl))
 f338:=Tryz.func328.trans (congrArg some (by kernel_rfl))
 t0:=Tryz.underlying0
 a0:=Tryz.isAgg0
 z0:=Tryz.sizeOf0
 v0:=Tryz.zeroValue0
 t2:=Tryz.underlying2
 a2:=Tryz.isAgg2
 z2:=Tryz.sizeOf2
 v2:=Tryz.zeroValue2
 t3:=Tryz.underlying3
 a3:=Tryz.isAgg3
 z3:=Tryz.sizeOf3
 v3:=Tryz.zeroValue3
 t4:=Tryz.underlying4
 a4:=Tryz.isAgg4
 z4:=Tryz.sizeOf4
 v4:=Tryz.zeroValue4
 t5:=Tryz.underlying5
 a5:=Tryz.isAgg5
 z5:=Tryz.sizeOf5
 v5:=Tryz.zeroValue5
 t9:=Tryz.underlying9
 a9:=Tryz.isAgg9
 z9:=Tryz.sizeOf9
 v9:=Tryz.zeroValue9
 t20:=Tryz.underlying20
 a20:=Tryz.isAgg20
 z20:=Tryz.sizeOf20
 v20:=Tryz.zeroValue20
 t37:=Tryz.underlying22
 a37:=Tryz.isAgg22
 z37:=Tryz.sizeOf22
 v37:=Tryz.zeroValue22
 t46:=Tryz.underlying125
 a46:=Tryz.isAgg125
 z46:=Tryz.sizeOf125
 v46:=Tryz.zeroValue125
 t51:=Tryz.underlying455
 a51:=Tryz.isAgg455
 z51:=Tryz.sizeOf455
 v51:=Tryz.zeroValue455
 t53:=Tryz.underlying40
 a53:=Tryz.isAgg40
 z53:=Tryz.sizeOf40
 v53:=Tryz.zeroValue40
 t171:=Tryz.underlying445
 a171:=Tryz.isAgg445
 z171:=Tryz.sizeOf445
 v171:=Tryz.zeroValue445
 t173:=Tryz.underlying448
 a173:=Tryz.isAgg448
 z173:=Tryz.sizeOf448
 v173:=Tryz.zeroValue448
 t212:=Tryz.underlying461
 a212:=Tryz.isAgg461
 z212:=Tryz.sizeOf461
 v212:=Tryz.zeroValue461
 t213:=Tryz.underlying462
 a213:=Tryz.isAgg462
 z213:=Tryz.sizeOf462
 t232:=Tryz.underlying484
 a232:=Tryz.isAgg484
 z232:=Tryz.sizeOf484
 v232:=Tryz.zeroValue484
 t233:=Tryz.underlying485
 a233:=Tryz.isAgg485
 z233:=Tryz.sizeOf485
 v233:=Tryz.zeroValue485
 g17:=by kernel_rfl
 g18:=by kernel_rfl
 g19:=by kernel_rfl
 i0:=by kernel_rfl
 i2:=by kernel_rfl
 i3:=by kernel_rfl
 i4:=by kernel_rfl
 i5:=by kernel_rfl
 i9:=by kernel_rfl
 i20:=by kernel_rfl
 i37:=by kernel_rfl
 i46:=by kernel_rfl
 i51:=by kernel_rfl
 i53:=by kernel_rfl
 i171:=by kernel_rfl
 i173:=by kernel_rfl
 i212:=by kernel_rfl
 i232:=by kernel_rfl
 i233:=by kernel_rfl
 m17:=by kernel_rfl
 m18:=by kernel_rfl
 m19:=by kernel_rfl }
open Go.RowKit Go.Sort Go.Lib in
theorem Tryz.strconv_Itoa (n : Int)(h0 : -9223372036854775808 <= n)(h1 : n <= 9223372036854775807)(w : World)(htab : Lib.TabIs Tryz.prog w "internal/strconv.uint64pow10" .u64 Lib.pow10Tab):
  Calls Tryz.prog 220 #[.int .i64 n] w fun e w'=>e=.returned (.string ⟨(Lib.itoa n).toArray⟩)/\∃ k os,w'=grow (w.drewN k) os:=Any.strconv_Itoa Tryz.Sc n h0 h1 w htab
open Go.RowKit Go.Sort Go.Lib in
def Tryz.Sd:Go.Shelf.Ren:=⟨fun | 144=>211 | 143=>243 | 219=>262 | 217=>286 | 225=>287 | 224=>288 | 267=>289 | 266=>309 | 314=>310 | n=>n,fun | 9=>9 | 4=>4 | 3=>3 | 5=>5 | 46=>125 | 146=>456 | 51=>455 | n=>n,fun | 1=>0 | n=>n⟩
theorem Tryz.Se:Go.Proofs.Lays.n144 Tryz.prog Tryz.Sd:={
 mixed:=by kernel_rfl
 f143:=Tryz.func243.trans (congrArg some (by kernel_rfl))
 f144:=Tryz.func211.trans (congrArg some (by kernel_rfl))
 f217:=Tryz.func286.trans (congrArg some (by kernel_rfl))
 f219:=Tryz.func262.trans (congrArg some (by kernel_rfl))
 f224:=Tryz.func288.trans (congrArg some (by kernel_rfl))
 f225:=Tryz.func287.trans (congrArg some (by kernel_rfl))
 f266:=Tryz.func309.trans (congrArg some (by kernel_rfl))
 f267:=Tryz.func289.trans (congrArg some (by kernel_rfl))
 f314:=Tryz.func310.trans (congrArg some (by kernel_rfl))
 t3:=Tryz.underlying3
 a3:=Tryz.isAgg3
 z3:=Tryz.sizeOf3
 v3:=Tryz.zeroValue3
 t4:=Tryz.underlying4
 a4:=Tryz.isAgg4
 z4:=Tryz.sizeOf4
 v4:=Tryz.zeroValue4
 t5:=Tryz.underlying5
 a5:=Tryz.isAgg5
 z5:=Tryz.sizeOf5
 v5:=Tryz.zeroValue5
 t9:=Tryz.underlying9
 a9:=Tryz.isAgg9
 z9:=Tryz.sizeOf9
 v9:=Tryz.zeroValue9
 t46:=Tryz.underlying125
 a46:=Tryz.isAgg125
 z46:=Tryz.sizeOf125
 v46:=Tryz.zeroValue125
 t51:=Tryz.underlying455
 a51:=Tryz.isAgg455
 z51:=Tryz.sizeOf455
 v51:=Tryz.zeroValue455
 t146:=Tryz.underlying456
 a146:=Tryz.isAgg456
 z146:=Tryz.sizeOf456
 v146:=Tryz.zeroValue456
 g1:=by kernel_rfl }
open Go.RowKit Go.Lib in
theorem Tryz.strings_Contains_one (s:ByteArray)(c:UInt8)(w:World):
  Calls Tryz.prog 211 #[.string s,.string ⟨#[c]⟩] w fun e w'=>e=.returned (.bool (decide (0<=Lib.indexByte s.data.toList c)))/\w'=w:=Any.strings_Contains_one Tryz.Se s c w
def Tryz.Sf:Go.Shelf.Ren:=⟨fun | 115=>53 | n=>n,fun | 37=>22 | 4=>4 | 9=>9 | 5=>5 | n=>n,fun | n=>n⟩
theorem Tryz.Sg:Go.Proofs.Lays.n115 Tryz.prog Tryz.Sf:={
 mixed:=by kernel_rfl
 f115:=Tryz.func53.trans (congrArg some (by kernel_rfl))
 t4:=Tryz.underlying4
 a4:=Tryz.isAgg4
 z4:=Tryz.sizeOf4
 v4:=Tryz.zeroValue4
 t9:=Tryz.underlying9
 a9:=Tryz.isAgg9
 z9:=Tryz.sizeOf9
 v9:=Tryz.zeroValue9
 t37:=Tryz.underlying22
 a37:=Tryz.isAgg22
 z37:=Tryz.sizeOf22
 v37:=Tryz.zeroValue22 }
theorem Tryz.bytes_Equal (v1 v2:Value)(xs ys:List Int)(w:World)(h1:(convert 22 9 v1).run Tryz.prog w=.ok (.string (strOfNums xs)) w)(h2:(convert 22 9 v2).run Tryz.prog w=.ok (.string (strOfNums ys)) w):
  Calls Tryz.prog 53 #[v1,v2] w fun e w'=>e=.returned (.bool (Lib.bytesOf xs==Lib.bytesOf ys))/\w'=w:=Any.bytes_Equal Tryz.Sg v1 v2 xs ys w h1 h2
def Tryz.Sh:Go.Shelf.Ren:=⟨fun | 5=>142 | 7=>186 | n=>n,fun | 23=>173 | 25=>266 | 3=>3 | 4=>4 | 20=>20 | n=>n,fun | n=>n⟩
theorem Tryz.Si:Go.Proofs.SlLaysW.n5 Tryz.prog Tryz.Sh:={
 mixed:=by kernel_rfl
 f5:=⟨Tryz.f142.name,by decide,Tryz.func142.trans (congrArg some (by kernel_rfl))⟩
 f7:=Tryz.func186.trans (congrArg some (by kernel_rfl))
 t4:=Tryz.underlying4
 a4:=Tryz.isAgg4
 z4:=Tryz.sizeOf4
 v4:=Tryz.zeroValue4
 t20:=Tryz.underlying20
 a20:=Tryz.isAgg20
 z20:=Tryz.sizeOf20
 v20:=Tryz.zeroValue20
 t23:=Tryz.underlying173
 a23:=Tryz.isAgg173
 z23:=Tryz.sizeOf173
 v23:=Tryz.zeroValue173 }
theorem Tryz.Sj (b:Nat)(es:Array MapEntry)(clock:Nat)(w:World)(hb:w.heap[b]? = some (.map es clock)):
  Calls Tryz.prog 142 #[.map (some b)] w fun e w'=>e=.returned (.map (some w.heap.size))/\w'=w.alloc (.map es clock):=AnyW.maps_Clone Tryz.Si b es clock w hb
def Tryz.Sk:Go.Shelf.Ren:=⟨fun | 5=>184 | 7=>186 | n=>n,fun | 23=>321 | 25=>324 | 3=>3 | 4=>4 | 20=>20 | n=>n,fun | n=>n⟩
theorem Tryz.Sm:Go.Proofs.SlLaysW.n5 Tryz.prog Tryz.Sk:={
 mixed:=by kernel_rfl
 f5:=⟨Tryz.f184.name,by decide,Tryz.func184.trans (congrArg some (by kernel_rfl))⟩
 f7:=Tryz.func186.trans (congrArg some (by kernel_rfl))
 t4:=Tryz.underlying4
 a4:=Tryz.isAgg4
 z4:=Tryz.sizeOf4
 v4:=Tryz.zeroValue4
 t20:=Tryz.underlying20
 a20:=Tryz.isAgg20
 z20:=Tryz.sizeOf20
 v20:=Tryz.zeroValue20
 t23:=Tryz.underlying321
 a23:=Tryz.isAgg321
 z23:=Tryz.sizeOf321
 v23:=Tryz.zeroValue321 }
theorem Tryz.Sn (b:Nat)(es:Array MapEntry)(clock:Nat)(w:World)(hb:w.heap[b]? = some (.map es clock)):
  Calls Tryz.prog 184 #[.map (some b)] w fun e w'=>e=.returned (.map (some w.heap.size))/\w'=w.alloc (.map es clock):=AnyW.maps_Clone Tryz.Sm b es clock w hb
def Tryz.So:Go.Shelf.Ren:=⟨fun | 5=>185 | 7=>186 | n=>n,fun | 23=>325 | 25=>330 | 3=>332 | 4=>4 | 20=>20 | n=>n,fun | n=>n⟩
theorem Tryz.Sp:Go.Proofs.SlLaysW.n5 Tryz.prog Tryz.So:={
 mixed:=by kernel_rfl
 f5:=⟨Tryz.f185.name,by decide,Tryz.func185.trans (congrArg some (by kernel_rfl))⟩
 f7:=Tryz.func186.trans (congrArg some (by kernel_rfl))
 t4:=Tryz.underlying4
 a4:=Tryz.isAgg4
 z4:=Tryz.sizeOf4
 v4:=Tryz.zeroValue4
 t20:=Tryz.underlying20
 a20:=Tryz.isAgg20
 z20:=Tryz.sizeOf20
 v20:=Tryz.zeroValue20
 t23:=Tryz.underlying325
 a23:=Tryz.isAgg325
 z23:=Tryz.sizeOf325
 v23:=Tryz.zeroValue325 }
theorem Tryz.Sq (b:Nat)(es:Array MapEntry)(clock:Nat)(w:World)(hb:w.heap[b]? = some (.map es clock)):
  Calls Tryz.prog 185 #[.map (some b)] w fun e w'=>e=.returned (.map (some w.heap.size))/\w'=w.alloc (.map es clock):=AnyW.maps_Clone Tryz.Sp b es clock w hb
abbrev dT:=Int×ByteArray×ByteArray×ByteArray×ByteArray×Int×Int×Value×Unit
def gX (e:dT):Value:=.agg #[.int .i64 e.1,.string e.2.1,.string e.2.2.1,.string e.2.2.2.1,.string e.2.2.2.2.1,.int .i64 e.2.2.2.2.2.1,.int .i64 e.2.2.2.2.2.2.1,e.2.2.2.2.2.2.2.1]
def fS (k:Int):List UInt8:=
 if k=1 then[] else if k=2 then[73,84] else if k=3 then[78,68,86] else if k=4 then[73,76,86] else if k=5 then[68] else if k=6 then[68,67,86] else[63]
def cR (k:Int)(c:UInt8):Bool:=(fS k).contains c
def pJ (s:ByteArray):Bool:=kf 0 (cJ s.data.toList)
def cH (n:Int):Bool:=decide (-1000000000000<=n)&&decide (n<=1000000000000)
def gL:Value->Bool
 | .nilIface=>true
 | _=>false
def pK (v:Value):Prop:=v=.nilIface\/∃ t u,v=.iface t u
def iY (s:ByteArray):Bool:=s.toList==(⟨#[]⟩:ByteArray).toList
def mX (e:dT):Bool:=
 (iY e.2.1||cR e.1 73)&&(iY e.2.2.1||cR e.1 78)&&(iY e.2.2.2.1||cR e.1 76)&&(iY e.2.2.2.2.1||cR e.1 67) &&
 ((e.2.2.2.2.2.1==0||cR e.1 68)&&(e.2.2.2.2.2.2.1==0||cR e.1 86)&&(gL e.2.2.2.2.2.2.2.1||cR e.1 84))
def oN (e:dT):Bool:=
 (!cR e.1 73||pJ e.2.1)&&(!cR e.1 78||pJ e.2.2.1)&&(!cR e.1 76||pJ e.2.2.2.1)&&(!cR e.1 67||pJ e.2.2.2.2.1)
def mm (e:dT)(tr:Int):Int:=
 if fS e.1=[63] then 1 else if mX e=false then 1 else if oN e=false then 1 else
 if e.2.2.2.2.2.1<0 then 1 else if e.2.2.2.2.2.1 > 10000 then 1 else if cH e.2.2.2.2.2.2.1=false then 1 else
 if e.1=4/\e.2.2.2.2.2.2.1≠0/\e.2.2.2.2.2.2.1≠1 then 1 else if e.1=2 then tr else 0
theorem EF (k:Int)(w:World):Ret Tryz.prog 128 #[.int .i64 k] w fun r w'=>r=.string (str (fS k))/\w=w':=by
 refine c128 k w _ ?_;unfold fS;refine aa.eq (fun h=>?_) (fun h=>?_)
 ·rw[if_pos h];exact⟨rfl,rfl⟩
 rw[if_neg h];refine aa.eq (fun h=>?_) (fun h=>?_)
 ·rw[if_pos h];exact⟨rfl,rfl⟩
 rw[if_neg h];refine aa.eq (fun h=>?_) (fun h=>?_)
 ·rw[if_pos h];exact⟨rfl,rfl⟩
 rw[if_neg h];refine aa.eq (fun h=>?_) (fun h=>?_)
 ·rw[if_pos h];exact⟨rfl,rfl⟩
 rw[if_neg h];refine aa.eq (fun h=>?_) (fun h=>?_)
 ·rw[if_pos h];exact⟨rfl,rfl⟩
 rw[if_neg h];refine aa.eq (fun h=>?_) (fun h=>?_)
 ·rw[if_pos h];exact⟨rfl,rfl⟩
 rw[if_neg h];exact⟨rfl,rfl⟩
theorem rL (n:Int)(w:World):Ret Tryz.prog 131 #[.int .i64 n] w fun r w'=>r=.bool (cH n)/\w=w':=by
 refine c131 n w _ ?_;unfold cH;refine aa.dec (fun h=>?_) (fun h=>?_)
 ·rw[decide_eq_true (p:=-1000000000000<=n) (by omega)];exact⟨rfl,rfl⟩
 ·rw[decide_eq_false (p:=-1000000000000<=n) (by omega)];exact⟨rfl,rfl⟩
theorem KJ:∀ (l:List UInt8) (c:UInt8),decide (0<=Lib.indexByte l c)=l.contains c
 | [],c=>by simp[Lib.indexByte]
 | b::l,c=>by
  have ih:=KJ l c;have hg:=Lib.indexByte_ge l c;unfold Lib.indexByte;rw[List.contains_cons,<- ih]
  by_cases h:b=c
  ·subst h;simp
  ·have h1:(b==c)=false:=by simpa using h
   have h2:(c==b)=false:=by simpa using fun t=>h t.symm
   rw[h1,h2,Bool.false_or];simp only[Bool.false_eq_true,if_false]
   by_cases hm:Lib.indexByte l c=-1
   ·rw[hm];simp
   ·rw[if_neg (by simpa using hm)]
    exact decide_eq_decide.2 (by omega)
theorem Sr (l:List UInt8)(c:UInt8)(w:World):Ret Tryz.prog 211 #[.string (str l),.string (str [c])] w fun r w'=>r=.bool (l.contains c)/\w=w':=by
 refine(Tryz.strings_Contains_one (str l) c w).mono ?_;rintro e w' ⟨rfl,rfl⟩;refine⟨_,rfl,?_,rfl⟩;rw[ke,KJ]
theorem yT (k:Int)(c:UInt8)(w:World):Ret Tryz.prog 168 #[.int .i64 k,.string (str [c])] w fun r w'=>r=.bool (cR k c)/\w=w':=by
 refine c168 k _ w _ ?_;refine ab.of (EF k w) ?_;rintro _ _ ⟨rfl,rfl⟩;refine⟨_,rfl,?_⟩;refine ab.of (Sr _ c w) ?_;rintro _ _ ⟨rfl,rfl⟩;exact⟨_,rfl,rfl,rfl⟩
theorem nil_eq {t:TypeId}(ht:∃ ms,Tryz.prog.underlying t=some (.interface ms))(o:Operand){v:Value}(hv:pK v)(w:World):
  (do eqGuard .eql t o (.const .nilIface) v .nilIface;binOp .eql t v .nilIface:Sem Value).run Tryz.prog w=.ok (.bool (gL v)) w:=by
 obtain⟨ms,ht⟩:=ht
 rcases hv with rfl | ⟨u,x,rfl⟩
 ·have h1:(eqGuard .eql t o (.const .nilIface) .nilIface .nilIface).run Tryz.prog w=.ok () w:=by
   unfold eqGuard;simp
  rw[Sem.run_bind,h1,Result.andThen_ok];have h2:(Op.equalIn (9999+1) t .nilIface .nilIface).run Tryz.prog w=.ok true w:=by
   unfold Op.equalIn;simp only[Sem.run_bind,under ht,Result.andThen_ok,Sem.run_pure]
  show(do pure (Value.bool (<- Op.equalIn (9999+1) t .nilIface .nilIface)):Sem Value).run Tryz.prog w=_
  rw[Sem.run_bind,h2];rfl
 ·have h1:(eqGuard .eql t o (.const .nilIface) (.iface u x) .nilIface).run Tryz.prog w=.ok () w:=by
   unfold eqGuard;rfl
  rw[Sem.run_bind,h1,Result.andThen_ok];have h2:(Op.equalIn (9999+1) t (.iface u x) .nilIface).run Tryz.prog w=.ok false w:=by
   unfold Op.equalIn;simp only[Sem.run_bind,under ht,Result.andThen_ok,Sem.run_pure]
  show(do pure (Value.bool (<- Op.equalIn (9999+1) t (.iface u x) .nilIface)):Sem Value).run Tryz.prog w=_
  rw[Sem.run_bind,h2];rfl
def jG (e:dT):Array MapEntry:=#[⟨.string (str [73]),.string e.2.1,0⟩,⟨.string (str [78]),.string e.2.2.1,1⟩,⟨.string (str [76]),.string e.2.2.2.1,2⟩,⟨.string (str [67]),.string e.2.2.2.2.1,3⟩]
def BB (e:dT):Obj:=.cells #[.int .i64 e.1,.string e.2.1,.string e.2.2.1,.string e.2.2.2.1,.string e.2.2.2.2.1,.int .i64 e.2.2.2.2.2.1,.int .i64 e.2.2.2.2.2.2.1,e.2.2.2.2.2.2.2.1] 36 (0,0)
theorem EG {a b:List UInt8}(h:a≠b):str a≠str b:=fun t=>h (str_inj t)
theorem KK {w:World}{b:Nat}{e:dT}(hb:w.heap[b]? = some (BB e)){K:Option Addr->World->Prop}
  (h:∀ m r w1,w.heap.size<=m->w.heap.size<=r->r≠m->mj w1 r m (jG e) 4 #[]->Fr none1 w w1->w1.heap[b]? = some (BB e)->K (some ⟨r,0,none⟩) w1) :
  ak (.map #[] 0) w (fun g3 w4=>ae .str ((⟨b,0,none⟩:Addr).add 1) w4 (fun(x5:ByteArray)=>jm Tryz.prog (Instr.mapUpdate 293 (.map (some g3)) (.string (⟨#[73]⟩:ByteArray)) (.string x5)) w4 (fun w6=>ae .str ((⟨b,0,none⟩:Addr).add 2) w6 (fun(x7:ByteArray)=>jm Tryz.prog (Instr.mapUpdate 293 (.map (some g3)) (.string (⟨#[78]⟩:ByteArray)) (.string x7)) w6 (fun w8=>ae .str ((⟨b,0,none⟩:Addr).add 3) w8 (fun(x9:ByteArray)=>jm Tryz.prog (Instr.mapUpdate 293 (.map (some g3)) (.string (⟨#[76]⟩:ByteArray)) (.string x9)) w8 (fun aG=>ae .str ((⟨b,0,none⟩:Addr).add 4) aG (fun(ba:ByteArray)=>jm Tryz.prog (Instr.mapUpdate 293 (.map (some g3)) (.string (⟨#[67]⟩:ByteArray)) (.string ba)) aG (fun aM=>az Tryz.prog (Instr.range 293 (.map (some g3))) aM (.v (.one .ptr)) (fun(bD:Option Addr) bm=>K bD bm)))))))))):=by
 have e73:(⟨#[73]⟩:ByteArray)=str [73]:=rfl;have e78:(⟨#[78]⟩:ByteArray)=str [78]:=rfl;have e76:(⟨#[76]⟩:ByteArray)=str [76]:=rfl;have e67:(⟨#[67]⟩:ByteArray)=str [67]:=rfl;rw[e73,e78,e76,e67];have tm:=Tryz.underlying293;have ts:=Tryz.underlying9;have hlb:=bQ hb;refine ak.of fun g w1 hg KL f1 ka=>?_;have b1:=f1.af hb;have jX:b≠g:=by omega
 refine ae.ah b1 rfl ?_;refine Bw KL _ _ tm ts (by simp) fun w2 Ss f2 _=>?_;have b2:=f2.jD b1 jX;refine ae.ah b2 rfl ?_;refine Bw Ss _ _ tm ts (by
  intro x hx;simp at hx;subst hx;exact⟨_,rfl,EG (by decide)⟩) fun w3 Su f3 _=>?_
 have b3:=f3.jD b2 jX;refine ae.ah b3 rfl ?_;refine Bw Su _ _ tm ts (by
  intro x hx;simp at hx;rcases hx with rfl | rfl<;>exact⟨_,rfl,EG (by decide)⟩) fun w4 Sw f4 _=>?_
 have b4:=f4.jD b3 jX;refine ae.ah b4 rfl ?_;refine Bw Sw _ _ tm ts (by
  intro x hx;simp at hx;rcases hx with rfl | rfl | rfl<;>exact⟨_,rfl,EG (by decide)⟩) fun w5 EH f5 _=>?_
 have b5:=f5.jD b4 jX;have f15:Fr none1 w w5:=(((f1.fresh f2 (by omega)).fresh f3 (by omega)).fresh f4 (by omega)).fresh f5 (by omega);have KM:w5.heap[g]? = some (.map (jG e) 4):=EH;refine RP tm KM (by
  intro x hx;simp[jG] at hx;rcases hx with rfl | rfl | rfl | rfl<;>simp) (by simp[jG]) fun r w6 hr hM f6=>?_
 have:=bQ KM;have:=f15.size;exact h g r w6 (by omega) (by omega) (by omega) hM (f15.dh f6) (f6.af b5)
theorem KN {e:dT}{seen:Array Nat}{eV:ByteArray->ByteArray->Bool}(hall:∀ x∈(jG e).toList,seen.contains x.born=true->∀ a b,x.key=.string a->x.val=.string b->eV a b=true)
  (hs:∀ x∈(jG e).toList,seen.contains x.born=true):(eV (str [73]) e.2.1&&eV (str [78]) e.2.2.1&&eV (str [76]) e.2.2.2.1&&eV (str [67]) e.2.2.2.2.1)=true:=by
 have g:=fun x hx=>hall x hx (hs x hx);rw[g ⟨.string (str [73]),.string e.2.1,0⟩ (by simp[jG]) _ _ rfl rfl,g ⟨.string (str [78]),.string e.2.2.1,1⟩ (by simp[jG]) _ _ rfl rfl,
  g ⟨.string (str [76]),.string e.2.2.2.1,2⟩ (by simp[jG]) _ _ rfl rfl,g ⟨.string (str [67]),.string e.2.2.2.2.1,3⟩ (by simp[jG]) _ _ rfl rfl]
 rfl
theorem KO {e:dT}{eV:ByteArray->ByteArray->Bool}{x:MapEntry}{a b:ByteArray}(hx:x∈(jG e).toList)(ha:x.key=.string a)(hb:x.val=.string b)(hg:eV a b=false):
  (eV (str [73]) e.2.1&&eV (str [78]) e.2.2.1&&eV (str [76]) e.2.2.2.1&&eV (str [67]) e.2.2.2.2.1)=false:=by
 simp[jG] at hx
 rcases hx with rfl | rfl | rfl | rfl<;>(injection ha with ha;injection hb with hb;subst ha;subst hb;rw[hg];simp)
theorem KP {e:dT}{x:MapEntry}(hx:x∈(jG e).toList):∃ c b,x.key=.string (str [c])/\x.val=.string b:=by
 simp[jG] at hx
 rcases hx with rfl | rfl | rfl | rfl<;>exact⟨_,_,rfl,rfl⟩
def BC (a:ByteArray):UInt8:=a.data.toList.getD 0 0
theorem wN (c:UInt8):BC (str [c])=c:=by unfold BC;rw[ke];rfl
def Seen (e:dT)(eV:ByteArray->ByteArray->Bool)(seen:Array Nat):Prop:=∀ x∈(jG e).toList,seen.contains x.born=true->∀ a b,x.key=.string a->x.val=.string b->eV a b=true
theorem Sx (e:dT):∀ x∈(jG e).toList,∀ y∈(jG e).toList,x.born=y.born->x=y:=by
 intro x hx y hy h;simp[jG] at hx hy
 rcases hx with rfl | rfl | rfl | rfl<;>rcases hy with rfl | rfl | rfl | rfl<;>first | rfl | (simp at h)
theorem Seen.push {e:dT}{eV:ByteArray->ByteArray->Bool}{seen:Array Nat}(h:Seen e eV seen){x:MapEntry}(hx:x∈(jG e).toList){a b:ByteArray}(ha:x.key=.string a)(hb:x.val=.string b)(hg:eV a b=true):Seen e eV (seen.push x.born):=by
 intro y hy hc a' b' yU gJ;rw[contains_push] at hc;cases hs:seen.contains y.born with
 | true=>exact h y hy hs a' b' yU gJ
 | false=>
  rw[hs,Bool.false_or] at hc;have:=Sx e y hy x hx (by simpa using hc);subst this;rw[ha] at yU;rw[hb] at gJ;injection yU with yU;injection gJ with gJ
  subst yU;subst gJ;exact hg
theorem Seen.none (e:dT)(eV:ByteArray->ByteArray->Bool):Seen e eV #[]:=fun x hx h=>by simp at h
theorem Sy (e:dT)(w:World):Ret Tryz.prog 130 #[gX e] w fun r w'=>r=.bool (oN e)/\Fr none1 w w':=by
 refine c130 e w _ ?_;unfold C130;refine ak.of fun b w1 hb au f1 _=>?_;refine KK (e:=e) au fun m r w2 hm hr yN hM f2 aK=>?_;obtain⟨eV,rM⟩:∃ eV:ByteArray->ByteArray->Bool,eV=fun a s=>!cR e.1 (BC a)||pJ s:=⟨_,rfl⟩;have hN:oN e=(eV (str [73]) e.2.1&&eV (str [78]) e.2.2.1&&eV (str [76]) e.2.2.2.1&&eV (str [67]) e.2.2.2.2.1):=by
  rw[rM];unfold oN;simp only[wN]
 refine bw.of (fun _ w'=>∃ seen,mj w' r m (jG e) 4 seen/\Seen e eV seen/\Fr (only r) w2 w'/\w'.heap[b]? = some (BB e)) (fun _ w'=>wK w' r m) ⟨#[],hM,Seen.none e eV,Fr.refl _ _,aK⟩ ?_;rintro _ _ w3 ⟨seen,EI,hS,f3,aU⟩;have fin:∀ w',Fr (only r) w2 w'->Fr none1 w w':=fun w' f=>(f1.dh f2).fresh f (by have:=f1.size;omega);refine Kt EI yN (fun x hx hc w4 uN f4 aS EJ=>?_) (fun hall=>?_)
 ·refine EJ ?_
  obtain⟨c,s,U,hv⟩:=KP hx;dsimp only;rw[U,hv];have dw:=f4.jD aU (by have:=bQ au;have:=f2.size;omega);refine ae.ah dw rfl ?_;refine ab.of (yT e.1 c w4) ?_;rintro _ _ ⟨rfl,rfl⟩;refine⟨_,rfl,?_⟩;refine aa.by (fun h=>?_) (fun h=>?_)
  ·refine ab.of (by have:=uK s.data.toList w4;rw[Kv] at this;exact this) ?_
   rintro _ w5 ⟨rfl,f5⟩;refine⟨_,rfl,aa.not (aa.by (fun hn=>?_) (fun hn=>?_))⟩
   ·refine⟨⟨_,uN.af f5,hS.push hx U hv ?_,(f3.trans f4).dh f5,f5.af dw⟩,?_⟩
    ·rw[rM];dsimp only;unfold pJ;rw[hn];simp
    ·rw[(uN.af f5).left,<- uN.left];exact aS
   ·refine⟨?_,(fin _ (f3.trans f4)).trans f5⟩
    rw[hN,KO hx U hv];rw[rM];dsimp only;rw[wN,h];unfold pJ;rw[hn];rfl
  ·refine⟨⟨_,uN,hS.push hx U hv ?_,f3.trans f4,dw⟩,aS⟩
   rw[rM];dsimp only;rw[wN,h];rfl
 ·refine⟨?_,fin _ f3⟩
  rw[hN,KN hS hall]
theorem Sz (e:dT)(hT:pK e.2.2.2.2.2.2.2.1)(w:World):Ret Tryz.prog 129 #[gX e] w fun r w'=>r=.bool (mX e)/\Fr none1 w w':=by
 refine c129 e w _ ?_;unfold C129;refine ak.of fun b w1 hb au f1 _=>?_;refine KK (e:=e) au fun m r w2 hm hr yN hM f2 aK=>?_;obtain⟨eV,rM⟩:∃ eV:ByteArray->ByteArray->Bool,eV=fun a s=>iY s||cR e.1 (BC a):=⟨_,rfl⟩;have hN:mX e=((eV (str [73]) e.2.1&&eV (str [78]) e.2.2.1&&eV (str [76]) e.2.2.2.1&&eV (str [67]) e.2.2.2.2.1) &&
   ((e.2.2.2.2.2.1==0||cR e.1 68)&&(e.2.2.2.2.2.2.1==0||cR e.1 86)&&(gL e.2.2.2.2.2.2.2.1||cR e.1 84))):=by
  rw[rM];unfold mX;simp only[wN]
 refine bw.of (fun _ w'=>∃ seen,mj w' r m (jG e) 4 seen/\Seen e eV seen/\Fr (only r) w2 w'/\w'.heap[b]? = some (BB e)) (fun _ w'=>wK w' r m) ⟨#[],hM,Seen.none e eV,Fr.refl _ _,aK⟩ ?_;rintro _ _ w3 ⟨seen,EI,hS,f3,aU⟩;have fin:∀ w',Fr (only r) w2 w'->Fr none1 w w':=fun w' f=>(f1.dh f2).fresh f (by have:=f1.size;omega);refine Kt EI yN (fun x hx hc w4 uN f4 aS EJ=>?_) (fun hall=>?_)
 ·refine EJ ?_
  obtain⟨c,s,U,hv⟩:=KP hx;dsimp only;rw[U,hv];have dw:=f4.jD aU (by have:=bQ au;have:=f2.size;omega);refine aa.by (fun hs=>?_) (fun hs=>?_)
  ·have EL:iY s=false:=by unfold iY;simpa using hs
   refine ae.ah dw rfl ?_;refine ab.of (yT e.1 c w4) ?_;rintro _ _ ⟨rfl,rfl⟩;refine⟨_,rfl,aa.not (aa.by (fun h=>?_) (fun h=>?_))⟩
   ·refine⟨⟨_,uN,hS.push hx U hv ?_,f3.trans f4,dw⟩,aS⟩
    rw[rM];dsimp only;rw[wN,h];simp
   ·refine⟨?_,fin _ (f3.trans f4)⟩
    rw[hN,KO hx U hv (by rw[rM];dsimp only;rw[wN,h,EL];rfl)];rfl
  ·have EL:iY s=true:=by unfold iY;simpa using hs
   refine⟨⟨_,uN,hS.push hx U hv ?_,f3.trans f4,dw⟩,aS⟩;rw[rM];dsimp only;rw[EL];rfl
 ·have hg:=KN hS hall
  rw[hN,hg,Bool.true_and];have fr:=fin _ f3;have KQ:∀ (d v:Bool),d=true->v=true->ae .raw ((⟨b,0,none⟩:Addr).add 7) w3 (fun(bZ:Value)=>az Tryz.prog (do eqGuard .eql 34 (.tmp 34) (.const .nilIface) bZ .nilIface;binOp .eql 34 bZ .nilIface) w3 (.v (.one .bool)) (fun(dK:Bool) dS=>aa dK
    ((.bool true:Value)=.bool (d&&v&&(gL e.2.2.2.2.2.2.2.1||cR e.1 84))/\Fr none1 w dS)
    (ae (.int .i64) ((⟨b,0,none⟩:Addr).add 0) dS (fun(dj:Int)=>ab Tryz.prog 168 #[.int .i64 dj,.string (⟨#[84]⟩:ByteArray)] dS (.v (.one .bool)) (fun(de:Bool) cQ=>(.bool de:Value)=.bool (d&&v&&(gL e.2.2.2.2.2.2.2.1||cR e.1 84))/\Fr none1 w cQ))))):=by
   rintro d v rfl rfl;refine ae.ah aU (x:=e.2.2.2.2.2.2.2.1) rfl ?_;refine⟨gL e.2.2.2.2.2.2.2.1,w3,nil_eq ⟨_,Tryz.underlying34⟩ _ hT w3,?_⟩;refine aa.by (fun h=>?_) (fun h=>?_)
   ·rw[h];exact⟨rfl,fr⟩
   ·refine ae.ah aU rfl ?_
    refine ab.of (yT e.1 84 w3) ?_;rintro _ _ ⟨rfl,rfl⟩;rw[h];exact⟨_,rfl,by simp,fr⟩
  have hval:∀ d:Bool,d=true->ae (.int .i64) ((⟨b,0,none⟩:Addr).add 6) w3 (fun(eg:Int)=>aa (eg==0)
    (ae .raw ((⟨b,0,none⟩:Addr).add 7) w3 (fun(bZ:Value)=>az Tryz.prog (do eqGuard .eql 34 (.tmp 34) (.const .nilIface) bZ .nilIface;binOp .eql 34 bZ .nilIface) w3 (.v (.one .bool)) (fun(dK:Bool) dS=>aa dK
     ((.bool true:Value)=.bool (d&&(e.2.2.2.2.2.2.1==0||cR e.1 86)&&(gL e.2.2.2.2.2.2.2.1||cR e.1 84))/\Fr none1 w dS)
     (ae (.int .i64) ((⟨b,0,none⟩:Addr).add 0) dS (fun(dj:Int)=>ab Tryz.prog 168 #[.int .i64 dj,.string (⟨#[84]⟩:ByteArray)] dS (.v (.one .bool)) (fun(de:Bool) cQ=>(.bool de:Value)=.bool (d&&(e.2.2.2.2.2.2.1==0||cR e.1 86)&&(gL e.2.2.2.2.2.2.2.1||cR e.1 84))/\Fr none1 w cQ))))))
    (ae (.int .i64) ((⟨b,0,none⟩:Addr).add 0) w3 (fun(gn:Int)=>ab Tryz.prog 168 #[.int .i64 gn,.string (⟨#[86]⟩:ByteArray)] w3 (.v (.one .bool)) (fun(dF:Bool) eh=>aa dF
     (ae .raw ((⟨b,0,none⟩:Addr).add 7) eh (fun(iX:Value)=>az Tryz.prog (do eqGuard .eql 34 (.tmp 34) (.const .nilIface) iX .nilIface;binOp .eql 34 iX .nilIface) eh (.v (.one .bool)) (fun(ek:Bool) fM=>aa ek
      ((.bool true:Value)=.bool (d&&(e.2.2.2.2.2.2.1==0||cR e.1 86)&&(gL e.2.2.2.2.2.2.2.1||cR e.1 84))/\Fr none1 w fM)
      (ae (.int .i64) ((⟨b,0,none⟩:Addr).add 0) fM (fun(jo:Int)=>ab Tryz.prog 168 #[.int .i64 jo,.string (⟨#[84]⟩:ByteArray)] fM (.v (.one .bool)) (fun(jq:Bool) gK=>(.bool jq:Value)=.bool (d&&(e.2.2.2.2.2.2.1==0||cR e.1 86)&&(gL e.2.2.2.2.2.2.2.1||cR e.1 84))/\Fr none1 w gK))))))
     ((.bool false:Value)=.bool (d&&(e.2.2.2.2.2.2.1==0||cR e.1 86)&&(gL e.2.2.2.2.2.2.2.1||cR e.1 84))/\Fr none1 w eh))))):=by
   rintro d rfl;refine ae.ah aU rfl ?_;refine aa.by (fun h=>?_) (fun h=>?_)
   ·exact KQ true _ rfl (by rw[h];rfl)
   ·refine ae.ah aU rfl ?_
    refine ab.of (yT e.1 86 w3) ?_;rintro _ _ ⟨rfl,rfl⟩;refine⟨_,rfl,aa.by (fun h2=>?_) (fun h2=>?_)⟩
    ·exact KQ true _ rfl (by rw[h2];simp)
    ·refine⟨?_,fr⟩
     rw[h,h2];rfl
  refine ae.ah aU rfl ?_;refine aa.by (fun h=>?_) (fun h=>?_)
  ·exact hval _ (by rw[h];rfl)
  ·refine ae.ah aU rfl ?_
   refine ab.of (yT e.1 68 w3) ?_;rintro _ _ ⟨rfl,rfl⟩;refine⟨_,rfl,aa.by (fun h2=>?_) (fun h2=>?_)⟩
   ·exact hval _ (by rw[h2];simp)
   ·refine⟨?_,fr⟩
    rw[h,h2];rfl
theorem EM (e:dT)(hT:pK e.2.2.2.2.2.2.2.1)(tr:Int)(w:World)
  (ht:e.1=2->∀ w1,Fr none1 w w1->Ret Tryz.prog 132 #[e.2.2.2.2.2.2.2.1] w1 fun r w'=>(∃ s,r=.tuple #[.string s,.int .i64 tr])/\Fr none1 w1 w') :
  Ret Tryz.prog 70 #[gX e] w fun r w'=>r=.int .i64 (mm e tr)/\Fr none1 w w':=by
 refine c70 e w _ ?_;unfold C70;refine ak.of fun b w1 hb au f1 _=>?_;refine ae.ah au rfl ?_;refine ab.of (EF e.1 w1) ?_;rintro _ _ ⟨rfl,rfl⟩;refine⟨_,rfl,?_⟩;unfold mm;have e63:(⟨#[63]⟩:ByteArray)=str [63]:=rfl;have SA:((str (fS e.1)).toList==(⟨#[63]⟩:ByteArray).toList)=decide (fS e.1=[63]):=by rw[e63,iW]
 rw[SA];refine aa.dec (fun h=>?_) (fun h=>?_)
 ·rw[if_pos h];exact⟨rfl,f1⟩
 rw[if_neg h];refine aq.aE (x:=e) au ?_;refine ab.of (Sz e hT w1) ?_;rintro _ w2 ⟨rfl,f2⟩;refine⟨_,rfl,aa.not (aa.by (fun ho=>?_) (fun ho=>?_))⟩
 case refine_2=>rw[if_pos ho];exact⟨rfl,f1.trans f2⟩
 rw[if_neg (by simp[ho])];have aK:=f2.af au;refine aq.aE (x:=e) aK ?_;refine ab.of (Sy e w2) ?_;rintro _ w3 ⟨rfl,f3⟩;have f13:=(f1.trans f2).trans f3;refine⟨_,rfl,aa.not (aa.by (fun hn=>?_) (fun hn=>?_))⟩
 case refine_2=>rw[if_pos hn];exact⟨rfl,f13⟩
 rw[if_neg (by simp[hn])];have aU:=f3.af aK;refine ae.ah aU (x:=e.2.2.2.2.2.1) rfl ?_;refine aa.dec (fun h=>?_) (fun h=>?_)
 ·rw[if_pos h];exact⟨rfl,f13⟩
 rw[if_neg h];refine ae.ah aU (x:=e.2.2.2.2.2.1) rfl ?_;refine aa.dec (fun h=>?_) (fun h=>?_)
 ·rw[if_pos h];exact⟨rfl,f13⟩
 rw[if_neg h];refine ae.ah aU (x:=e.2.2.2.2.2.2.1) rfl ?_;refine ab.of (rL e.2.2.2.2.2.2.1 w3) ?_;rintro _ _ ⟨rfl,rfl⟩;refine⟨_,rfl,aa.not (aa.by (fun hv=>?_) (fun hv=>?_))⟩
 case refine_2=>rw[if_pos hv];exact⟨rfl,f13⟩
 rw[if_neg (by simp[hv])];refine cq.of (fun s w'=>s.1=decide (e.1=4/\e.2.2.2.2.2.2.1≠0/\e.2.2.2.2.2.2.1≠1)/\w3=w') ?_ ?_
 ·refine ae.ah aU (x:=e.1) rfl ?_
  refine aa.eq (fun h4=>?_) (fun h4=>?_)
  ·refine ae.ah aU (x:=e.2.2.2.2.2.2.1) rfl ?_
   refine aa.ne (fun h0=>?_) (fun h0=>?_)
   ·refine ae.ah aU (x:=e.2.2.2.2.2.2.1) rfl ⟨?_,rfl⟩
    dsimp only
    by_cases h1:e.2.2.2.2.2.2.1=1
    ·rw[decide_eq_false (fun t=>t.2.2 h1),h1];rfl
    ·rw[decide_eq_true ⟨h4,h0,h1⟩];simpa using h1
   ·exact⟨by dsimp only;rw[decide_eq_false (fun t=>t.2.1 h0)],rfl⟩
  ·exact⟨by dsimp only;rw[decide_eq_false (fun t=>h4 t.1)],rfl⟩
 ·rintro _ ⟨s,_⟩ _ ⟨hs,rfl⟩
  dsimp only at hs ⊢;rw[hs];refine aa.dec (fun h=>?_) (fun h=>?_)
  ·rw[if_pos h];exact⟨rfl,f13⟩
  rw[if_neg h];refine ae.ah aU (x:=e.1) rfl ?_;refine aa.eq (fun h2=>?_) (fun h2=>?_)
  ·rw[if_pos h2]
   refine ae.ah aU (x:=e.2.2.2.2.2.2.2.1) rfl ?_;refine ab.of (ht h2 w3 f13) ?_;rintro _ w4 ⟨⟨s',rfl⟩,f4⟩;exact⟨(s',tr,()),rfl,rfl,f13.trans f4⟩
  ·rw[if_neg h2];exact⟨rfl,f13⟩
theorem SB:il Tryz.prog 143 21 1 (.int .i32 0) 4:=⟨Tryz.underlying143,⟨Tryz.t21,by kernel_rfl,rfl,rfl,rfl⟩,rfl,by decide⟩
def kP (w:World)(v:Sl)(rs:List Int):Prop:=aF w 21 1 v (rs.map (Value.int .i32))
theorem kP.ef {w:World}{v:Sl}{rs:List Int}(h:kP w v rs):(convert 143 9 (.slice v.1 v.2.1 v.2.2)).run Tryz.prog w=.ok (.string (str (ef rs))) w:=by
 have hr:=aF.rd h;have hl:=aF.len h;rw[List.length_map,Nat.mul_one] at hl;obtain⟨h1,h2,h3⟩:=hr;cases hv:v.1 with
 | none=>
  have:=(h2 hv).2.2;have:rs=[]:=by simpa using this
  subst this;exact run_convert_runes_nil w _ _ _ _ _ Tryz.underlying143 Tryz.underlying21 Tryz.underlying9
 | some a=>
  have hc:=h3 a hv;rw[run_convert_runes w _ _ _ a v.2.1 v.2.2 rs (by omega) Tryz.underlying143 Tryz.underlying21 Tryz.underlying9 (fun j hj=>?_),List.take_of_length_le (by omega),R2];have:=wm _ 0 j (.int .i32 (rs.getD j 0)) hc (by rw[List.getElem?_map,List.getD_eq_getElem?_getD,List.getElem?_eq_getElem hj];rfl);rwa[Nat.zero_add] at this
theorem SC {w:World}{v:Sl}{rs:List Int}(h:kP w v rs)(c:Int)(hl:rs.length<=1000000){K:Sl->World->Prop}
  (hK:∀ y w',kP w' y (rs++[c])->Fr (aw v) w w'->(∀ k,aw y k->aw v k\/w.heap.size<=k)->K y w') :
  az Tryz.prog (Instr.buildSlice 143 1 #[(0,.int .i32 c)]) w (.v (.one .aj)) fun(y:Option Addr×Nat×Nat) w'=>
   az Tryz.prog (Builtin.append_ #[143,143] 143 #[.slice v.1 v.2.1 v.2.2,.slice y.1 y.2.1 y.2.2]) w' (.v (.one .aj)) fun(u:Option Addr×Nat×Nat) nN=>K u nN:=by
 have cM:=aF.len h;rw[List.length_map,Nat.mul_one] at cM;refine Eo SB 143 h (.int .i32 c) rfl rfl (by omega) fun y w' hy _ f yf=>hK y w' ?_ f yf;unfold kP;rw[List.map_append];exact hy
theorem kP.ld {w:World}{v:Sl}{rs:List Int}(h:kP w v rs){i:Int}(h0:0<=i)(h1:i<v.2.1){K:Int->Prop}(k:K (rs.getD i.toNat 0)):bK v.1 v.2.1 i 1 fun p=>ae (.int .i32) p w K:=by
 have hl:=aF.len h;rw[List.length_map,Nat.mul_one] at hl;refine aF.ld h h0 h1 (x:=rs.getD i.toNat 0) ?_ k;rw[List.getElem?_map,List.getD_eq_getElem?_getD,List.getElem?_eq_getElem (by omega)];rfl
theorem kP.len {w:World}{v:Sl}{rs:List Int}(h:kP w v rs):v.2.1=rs.length:=by
 have hl:=aF.len h;rw[List.length_map,Nat.mul_one] at hl;exact hl.symm
def C33 (p0:bE)(w:World)(K:Value->World->Prop):Prop:=
 ak (.cells ((bP p0).toArray) 36) w (fun g1 w2=>aq dt (ad g1) w2 (fun(x3:bE)=>ab Tryz.prog 70 #[.agg (bP x3).toArray] w2 (.v (.one (.int .i64))) (fun(x4:Int) w5=>aa (x4 != 0)
 (K (.tuple #[.slice none 0 0,.int .i64 x4]) w5)
 (ae (.int .i64) ((ad g1).add 0) w5 (fun(x6:Int)=>az Tryz.prog (Instr.buildSlice 22 1 #[(0,.int .u8 (IntKind.u8.wrap x6))]) w5 (.v (.one .aj)) (fun(x7:an) w8=>ae (.int .i64) ((ad g1).add 0) w8 (fun(x9:Int)=>ab Tryz.prog 71 #[.int .i64 x9] w8 (.v (.one .aj)) (fun(aR:an) aO=>bw (an×Int×Unit) (fun _ fL aW yV=>aa (decide (fL.2.1<(aR.2.1:Int)))
 (bK aR.1 aR.2.1 fL.2.1 1 (fun uO=>ae (.int .i32) uO aW (fun(aQ:Int)=>aq dt (ad g1) aW (fun(aX:bE)=>ab Tryz.prog 72 #[.agg (bP aX).toArray,.int .i32 aQ] aW (.aN [.one .aj,.one (.int .i64)]) (fun(br:an×Int×Unit) bx=>aa (br.2.1 != 0)
 (K (.tuple #[.slice none 0 0,.int .i64 br.2.1]) bx)
 (az Tryz.prog (Builtin.append_ #[22,22] 22 #[.slice fL.1.1 fL.1.2.1 fL.1.2.2,.slice br.1.1 br.1.2.1 br.1.2.2]) bx (.v (.one .aj)) (fun(cw:an) bB=>yV ((cw.1,cw.2.1,cw.2.2),IntKind.i64.wrap (fL.2.1+1),()) bB)))))))
 (K (.tuple #[.slice fL.1.1 fL.1.2.1 fL.1.2.2,.int .i64 0]) aW))
 ((x7.1,x7.2.1,x7.2.2),0,()) aO))))))))
def pl33:aB:=(.seq .auto (.seq .auto (.seq .auto (.seq (.seq .auto (.block (.loop [(5,.one .aj),(23,.one (.int .i64))] .auto))) .auto))))
theorem c33 (p0:bE)(w:World)(K:Value->World->Prop)(h:C33 p0 w K):Ret Tryz.prog 33 #[.agg (bP p0).toArray] w K:=aC (by kernel_rfl) Tryz.func33 (p:=pl33) (Eq.mpr (by kernel_rfl) h)
def C71 (p0:Int)(w:World)(K:Value->World->Prop):Prop:=
 az Tryz.prog (Instr.range 9 (.string (⟨#[73,78,76,67,68,86,84]⟩:ByteArray))) w (.v (.one .ptr)) (fun(x1:Option Addr) w2=>bw (an×Unit) (fun _ s3 w4 kM=>vW x1 w4 (fun x6 x7 w8=>ab Tryz.prog 128 #[.int .i64 p0] w8 (.v (.one .str)) (fun(x9:ByteArray) aG=>az Tryz.prog (Instr.range 9 (.string x9)) aG (.v (.one .ptr)) (fun(ba:Option Addr) aM=>bw (an×Unit) (fun _ ju bm BD=>vW ba bm (fun aQ aX bz=>aa (aX==x7)
 (az Tryz.prog (Instr.buildSlice 143 1 #[(0,.int .i32 x7)]) bz (.v (.one .aj)) (fun(bu:an) bo=>az Tryz.prog (Builtin.append_ #[143,143] 143 #[.slice ju.1.1 ju.1.2.1 ju.1.2.2,.slice bu.1 bu.2.1 bu.2.2]) bo (.v (.one .aj)) (fun(bT:an) bN=>BD ((bT.1,bT.2.1,bT.2.2),()) bN)))
 (BD ((ju.1.1,ju.1.2.1,ju.1.2.2),()) bz))
 (kM ((ju.1.1,ju.1.2.1,ju.1.2.2),()) bm))
 ((s3.1.1,s3.1.2.1,s3.1.2.2),()) aM)))
 (K (.slice s3.1.1 s3.1.2.1 s3.1.2.2) w4))
 ((none,0,0),()) w2)
def pl71:aB:=(.seq .auto (.seq .auto (.seq (.seq .auto (.block (.loop [(3,.one .aj)] (.seq .auto (.seq .auto (.block (.seq .auto (.seq .auto (.block (.loop [(3,.one .aj)] .auto)))))))))) .auto)))
theorem c71 (p0:Int)(w:World)(K:Value->World->Prop)(h:C71 p0 w K):Ret Tryz.prog 71 #[.int .i64 p0] w K:=aC (by kernel_rfl) Tryz.func71 (p:=pl71) (Eq.mpr (by kernel_rfl) h)
def C72 (p0:bE)(p1:Int)(w:World)(K:Value->World->Prop):Prop:=
 ak (.cells ((bP p0).toArray) 36) w (fun g1 w2=>aa (p1==68)
 (ae (.int .i64) ((ad g1).add 5) w2 (fun(x3:Int)=>ab Tryz.prog 110 #[.int .i64 x3] w2 (.v (.one .aj)) (fun(x4:an) w5=>K (.tuple #[.slice x4.1 x4.2.1 x4.2.2,.int .i64 0]) w5)))
 (aa (p1==86)
 (ae (.int .i64) ((ad g1).add 6) w2 (fun(x6:Int)=>ab Tryz.prog 110 #[.int .i64 x6] w2 (.v (.one .aj)) (fun(x7:an) w8=>K (.tuple #[.slice x7.1 x7.2.1 x7.2.2,.int .i64 0]) w8)))
 (aa (p1==84)
 (ae .raw ((ad g1).add 7) w2 (fun(x9:Value)=>ab Tryz.prog 132 #[x9] w2 (.aN [.one .str,.one (.int .i64)]) (fun(aR:ByteArray×Int×Unit) aO=>jC 8 (az Tryz.prog (Instr.buildSlice 22 2 #[(0,.int .u8 (IntKind.u8.wrap (Int.fdiv (aR.1.size:Int) (2 ^ (min (Int.toNat 8) 64))))),(1,.int .u8 (IntKind.u8.wrap (aR.1.size:Int)))]) aO (.v (.one .aj)) (fun(bt:an) aW=>az Tryz.prog (Builtin.append_ #[22,9] 22 #[.slice bt.1 bt.2.1 bt.2.2,.string aR.1]) aW (.v (.one .aj)) (fun(bd:an) bL=>K (.tuple #[.slice bd.1 bd.2.1 bd.2.2,.int .i64 aR.2.1]) bL))))))
 (aa (p1==73)
 (ae .str ((ad g1).add 1) w2 (fun(aQ:ByteArray)=>az Tryz.prog (Instr.buildSlice 22 1 #[(0,.int .u8 (IntKind.u8.wrap (aQ.size:Int)))]) w2 (.v (.one .aj)) (fun(aX:an) bz=>az Tryz.prog (Builtin.append_ #[22,9] 22 #[.slice aX.1 aX.2.1 aX.2.2,.string aQ]) bz (.v (.one .aj)) (fun(bu:an) bo=>K (.tuple #[.slice bu.1 bu.2.1 bu.2.2,.int .i64 0]) bo))))
 (aa (p1==78)
 (ae .str ((ad g1).add 2) w2 (fun(bT:ByteArray)=>az Tryz.prog (Instr.buildSlice 22 1 #[(0,.int .u8 (IntKind.u8.wrap (bT.size:Int)))]) w2 (.v (.one .aj)) (fun(bR:an) cV=>az Tryz.prog (Builtin.append_ #[22,9] 22 #[.slice bR.1 bR.2.1 bR.2.2,.string bT]) cV (.v (.one .aj)) (fun(cj:an) dk=>K (.tuple #[.slice cj.1 cj.2.1 cj.2.2,.int .i64 0]) dk))))
 (aa (p1==76)
 (ae .str ((ad g1).add 3) w2 (fun(cZ:ByteArray)=>az Tryz.prog (Instr.buildSlice 22 1 #[(0,.int .u8 (IntKind.u8.wrap (cZ.size:Int)))]) w2 (.v (.one .aj)) (fun(cz:an) bS=>az Tryz.prog (Builtin.append_ #[22,9] 22 #[.slice cz.1 cz.2.1 cz.2.2,.string cZ]) bS (.v (.one .aj)) (fun(cx:an) bO=>K (.tuple #[.slice cx.1 cx.2.1 cx.2.2,.int .i64 0]) bO))))
 (aa (p1==67)
 (ae .str ((ad g1).add 4) w2 (fun(bZ:ByteArray)=>az Tryz.prog (Instr.buildSlice 22 1 #[(0,.int .u8 (IntKind.u8.wrap (bZ.size:Int)))]) w2 (.v (.one .aj)) (fun(dK:an) dS=>az Tryz.prog (Builtin.append_ #[22,9] 22 #[.slice dK.1 dK.2.1 dK.2.2,.string bZ]) dS (.v (.one .aj)) (fun(dj:an) dX=>K (.tuple #[.slice dj.1 dj.2.1 dj.2.2,.int .i64 0]) dX))))
 (az Tryz.prog (Instr.buildSlice 22 1 #[(0,.int .u8 (IntKind.u8.wrap ((⟨#[]⟩:ByteArray).size:Int)))]) w2 (.v (.one .aj)) (fun(eF:an) dG=>az Tryz.prog (Builtin.append_ #[22,9] 22 #[.slice eF.1 eF.2.1 eF.2.2,.string (⟨#[]⟩:ByteArray)]) dG (.v (.one .aj)) (fun(dF:an) eh=>K (.tuple #[.slice dF.1 dF.2.1 dF.2.2,.int .i64 0]) eh))))))))))
def pl72:aB:=.auto
theorem c72 (p0:bE)(p1:Int)(w:World)(K:Value->World->Prop)(h:C72 p0 p1 w K):Ret Tryz.prog 72 #[.agg (bP p0).toArray,.int .i32 p1] w K:=aC (by kernel_rfl) Tryz.func72 (p:=pl72) (Eq.mpr (by kernel_rfl) h)
def C153 (p0:iA)(w:World)(K:Value->World->Prop):Prop:=
 ak (.cells ((iO p0).toArray) 110) w (fun g1 w2=>aq dt ((ad g1).add 0) w2 (fun(x3:bE)=>ab Tryz.prog 33 #[.agg (bP x3).toArray] w2 (.aN [.one .aj,.one (.int .i64)]) (fun(x4:an×Int×Unit) w5=>aa (x4.2.1 != 0)
 (K (.tuple #[.slice none 0 0,.int .i64 x4.2.1]) w5)
 (ae .bool ((ad g1).add 8) w5 (fun(x6:Bool)=>aa x6
 (az Tryz.prog (Instr.buildSlice 22 1 #[(0,.int .u8 1)]) w5 (.v (.one .aj)) (fun(x7:an) w8=>az Tryz.prog (Builtin.append_ #[22,22] 22 #[.slice x7.1 x7.2.1 x7.2.2,.slice x4.1.1 x4.1.2.1 x4.1.2.2]) w8 (.v (.one .aj)) (fun(x9:an) aG=>K (.tuple #[.slice x9.1 x9.2.1 x9.2.2,.int .i64 0]) aG)))
 (az Tryz.prog (Instr.buildSlice 22 1 #[(0,.int .u8 0)]) w5 (.v (.one .aj)) (fun(ba:an) aM=>az Tryz.prog (Builtin.append_ #[22,22] 22 #[.slice ba.1 ba.2.1 ba.2.2,.slice x4.1.1 x4.1.2.1 x4.1.2.2]) aM (.v (.one .aj)) (fun(bD:an) bm=>K (.tuple #[.slice bD.1 bD.2.1 bD.2.2,.int .i64 0]) bm))))))))
def pl153:aB:=.auto
theorem c153 (p0:iA)(w:World)(K:Value->World->Prop)(h:C153 p0 w K):Ret Tryz.prog 153 #[.agg (iO p0).toArray] w K:=aC (by kernel_rfl) Tryz.func153 (p:=pl153) (Eq.mpr (by kernel_rfl) h)
def dU (b:UInt8):Int:=(b.toNat:Int)
def pL:List UInt8:=[73,78,76,67,68,86,84]
def eM (k:Int):List UInt8:=pL.filter (cR k)
def kn (s:List UInt8):List UInt8:=UInt8.ofNat (s.length % 256)::s
def tg (e:dT)(c:UInt8):ByteArray:=if c=73 then e.2.1 else if c=78 then e.2.2.1 else if c=76 then e.2.2.2.1 else if c=67 then e.2.2.2.2.1 else(⟨#[]⟩:ByteArray)
def eY (e:dT)(ts:List UInt8)(c:UInt8):List UInt8:=
 if c=68 then cu e.2.2.2.2.2.1 else if c=86 then cu e.2.2.2.2.2.2.1 else if c=84 then UInt8.ofNat (ts.length / 256 % 256)::UInt8.ofNat (ts.length % 256)::ts else kn (tg e c).data.toList
def iZ (e:dT)(ts:List UInt8)(tr:Int):List UInt8×Int:=
 if mm e tr≠0 then([],mm e tr) else(UInt8.ofNat (e.1 % 256).toNat::(eM e.1).flatMap (eY e ts),0)
def pM (e:dT):Prop:=e.2.1.size<=1000000/\e.2.2.1.size<=1000000/\e.2.2.2.1.size<=1000000/\e.2.2.2.2.1.size<=1000000
theorem SD:cJ pL=pL.map dU:=by decide +kernel
theorem SE (k:Int):cJ (fS k)=(fS k).map dU:=by
 unfold fS
 repeat' split
 all_goals decide +kernel
theorem SF (k:Int)(c:UInt8):((fS k).map dU).filter (·==dU c)=if cR k c then[dU c] else[]:=by
 have h:∀ l:List UInt8,l.Nodup->(l.map dU).filter (·==dU c)=if l.contains c then[dU c] else[]:=by
  intro l hn
  induction l with
  | nil=>rfl
  | cons a l ih=>
   rw[List.nodup_cons] at hn;have ih:=ih hn.2;rw[List.map_cons,List.filter_cons]
   by_cases ha:a=c
   ·subst ha
    have:l.contains a=false:=by simpa using hn.1
    rw[ih,this];simp
   ·have h1:(dU a==dU c)=false:=by
     simp only[beq_eq_false_iff_ne];unfold dU;intro t;exact ha (UInt8.toNat_inj.1 (by omega))
    rw[h1,ih];have h2:(c==a)=false:=by simpa using fun t=>ha t.symm
    simp only[List.contains_cons,h2,Bool.false_or];rfl
 exact h _ (by unfold fS;(repeat' split);all_goals decide)
theorem KR (k:Int)(w:World):Ret Tryz.prog 71 #[.int .i64 k] w fun r w'=>∃ v:Sl,r=.slice v.1 v.2.1 v.2.2/\kP w' v ((eM k).map dU)/\Fr none1 w w'/\∀ k,aw v k->w.heap.size<=k:=by
 refine c71 k w _ ?_;unfold C71;have eo:(⟨#[73,78,76,67,68,86,84]⟩:ByteArray)=str pL:=rfl;rw[eo];refine BA pL fun r w1 hr hit f1=>?_;rw[SD] at hit;have s1:=f1.size;refine bw.of (fun s w'=>∃ acc rest:List UInt8,acc++rest.filter (cR k)=eM k/\rest.length<=7/\acc.length+rest.length<=7/\kP w' s.1 (acc.map dU)/\(∀ k,aw s.1 k->w.heap.size<=k/\k≠r)/\jE w' r (rest.map dU)/\Fr none1 w w')
  (fun _ w'=>mV w' r) ⟨[],pL,rfl,by decide,by decide,.inl ⟨rfl,rfl⟩,(fun k ⟨a,ha,_⟩=>by cases ha),hit,f1⟩ ?_
 rintro _ ⟨v,_⟩ w2 ⟨acc,rest,heq,pN,BE,hv,iC,qL,f2⟩;dsimp only at hv iC ⊢;have rlt:=qL.lt;refine Bx qL (fun c lJ pos w3 hc jV pH f3=>?_) (fun jF=>?_)
 ·cases rest with
  | nil=>cases hc
  | cons d rest=>
   rw[List.map_cons] at hc;injection hc with hc qH
   subst hc qH;have pI:Fr none1 w w3:=f2.fresh f3 (by omega);have qN:kP w3 v (acc.map dU):=aF.ag hv f3 (fun k U t=>(iC k U).2 t);refine ab.of (EF k w3) ?_;rintro _ _ ⟨rfl,rfl⟩;refine⟨_,rfl,?_⟩;refine BA (fS k) fun q w4 hq th f4=>?_;rw[SE] at th;have r3:=pH.lt;have yW:Fr none1 w w4:=pI.trans f4;have sw3:=pI.size;simp only[List.length_cons] at pN BE;rw[List.filter_cons] at heq;refine bw.of (fun s w'=>∃ uP tj:List UInt8,uP.map dU++(tj.map dU).filter (·==dU d)=acc.map dU++(if cR k d then[dU d] else[])/\kP w' s.1 (uP.map dU)/\(∀ k,aw s.1 k->w.heap.size<=k/\k≠r/\k≠q)/\jE w' q (tj.map dU) /\
     jE w' r (rest.map dU)/\Fr none1 w w') (fun _ w'=>mV w' q)
    ⟨acc,fS k,by rw[SF],aF.af qN f4,(fun k U=>⟨(iC k U).1,(iC k U).2,by have:=aF.lt qN U;omega⟩),th,pH.af f4,yW⟩ ?_
   rintro _ ⟨v2,_⟩ w5 ⟨uP,tj,mn,jH,oO,EN,yX,f5⟩;dsimp only at jH oO ⊢;have qlt:=EN.lt;refine Bx EN (fun x abW abX w6 hx abY wO f6=>?_) (fun SG=>?_)
   ·cases tj with
    | nil=>cases hx
    | cons y tj=>
     rw[List.map_cons] at hx;injection hx with hx uQ
     subst hx uQ;have EO:Fr none1 w w6:=f5.fresh f6 (by omega);have KS:kP w6 v2 (uP.map dU):=aF.ag jH f6 (fun k U t=>(oO k U).2.2 t);have pO:=yX.ag f6 (fun t=>by have:r=q:=t;omega);have l6:mV w6 q<mV w5 q:=by rw[wO.left,EN.left];simp
     rw[List.map_cons,List.filter_cons] at mn;have EP:uP.length<=acc.length+1:=by
      have:=congrArg List.length mn;rw[List.length_append,List.length_append,List.length_map,List.length_map] at this;have h3:(if cR k d then[dU d] else[]).length<=1:=by split<;>simp
      omega
     refine aa.by (fun he=>?_) (fun ay=>?_)
     ·rw[he,if_pos rfl] at mn
      have SH:dU y=dU d:=by simpa using he
      refine SC KS (dU d) (by rw[List.length_map];omega) fun u w7 hu f7 uf=>?_;have abZ:=wO.lt;have ab0:=pO.lt;refine⟨⟨uP++[d],tj,?_,by rw[List.map_append];exact hu,fun k U=>?_,wO.ag f7 (fun t=>(oO q t).2.2 rfl),pO.ag f7 (fun t=>(oO r t).2.1 rfl),EO.comp f7 (fun k U t=>by have:=(oO k t).1;omega)⟩,?_⟩
      ·rw[<- mn,SH];simp
      ·rcases uf k U with t | t
       ·exact oO k t
       ·have:=EO.size;exact⟨by omega,by omega,by omega⟩
      ·rw[(wO.ag f7 (fun t=>(oO q t).2.2 rfl)).left,<- wO.left];exact l6
     ·rw[if_neg (by rw[ay];simp)] at mn
      exact⟨⟨uP,tj,mn,KS,oO,wO,pO,EO⟩,l6⟩
   ·have:tj=[]:=by simpa using SG
    subst this;rw[List.map_nil,List.filter_nil,List.append_nil] at mn
    by_cases hh:cR k d=true
    ·rw[hh] at heq mn
     simp only[if_true] at heq mn;refine⟨⟨acc++[d],rest,by rw[<- heq];simp,by omega,by simp;omega,?_,fun k U=>⟨(oO k U).1,(oO k U).2.1⟩,yX,f5⟩,by rw[yX.left,qL.left];simp⟩;rw[List.map_append];rw[mn] at jH;exact jH
    ·have SI:cR k d=false:=by simpa using hh
     rw[SI] at heq mn;simp only[Bool.false_eq_true,if_false,List.append_nil] at heq mn;refine⟨⟨acc,rest,heq,by omega,by omega,?_,fun k U=>⟨(oO k U).1,(oO k U).2.1⟩,yX,f5⟩,by rw[yX.left,qL.left];simp⟩;rw[mn] at jH;exact jH
 ·have:rest=[]:=by simpa using jF
  subst this;rw[List.filter_nil,List.append_nil] at heq;exact⟨v,rfl,by rw[<- heq];exact hv,f2,fun k U=>(iC k U).1⟩
theorem KT {w:World}(hd:List UInt8)(h0:hd.length<=100)(s:ByteArray)(hs:s.size<=1000000){K:Sl->World->Prop}(k:∀ u w',cg w' u (hd++s.data.toList)->Fr none1 w w'->(∀ k,aw u k->w.heap.size<=k)->K u w'):
  az Tryz.prog (Instr.buildSlice 22 hd.length (((hd.map bc).zipIdx.map fun(v,i)=>(i,v)).toArray)) w (.v (.one .aj)) (fun(x:Option Addr×Nat×Nat) w1=>az Tryz.prog (Builtin.append_ #[22,9] 22 #[.slice x.1 x.2.1 x.2.2,.string s]) w1 (.v (.one .aj)) (fun(y:Option Addr×Nat×Nat) w2=>K y w2)):=by
 obtain⟨x,w1,hr,hx,kN,f1,hf⟩:=rJ (P:=Tryz.prog) (w:=w) mR (hd.map bc) (by intro v hv;obtain⟨x,_,rfl⟩:=List.mem_map.1 hv;rfl) (by simp;omega);rw[List.length_map] at hr kN;refine⟨x,w1,hr,?_⟩;obtain⟨u,w2,gb,hu,_,f2,uf⟩:=Rw mR 22 Tryz.underlying9 hx s (by rw[kN];omega);refine⟨u,w2,gb,k u w2 ?_ (f1.comp f2 fun k U t=>by have:=hf k t;omega) fun k U=>?_⟩
 ·unfold cg
  rw[List.map_append];exact hu
 ·rcases uf k U with t | t
  ·exact hf k t
  ·exact Nat.le_trans f1.size t
theorem ER (n:Nat):Value.int .u8 (IntKind.u8.wrap (n:Int))=bc (UInt8.ofNat (n % 256)):=by
 unfold bc;rw[Eu,oK (Nat.mod_lt _ (by decide))]
theorem SJ (e:dT)(hz:pM e)(c:UInt8)(ts:List UInt8)(jY:ts.length<=1000000)(tr:Int)(w:World)
  (ht:c=84->∀ w1,Fr none1 w w1->Ret Tryz.prog 132 #[e.2.2.2.2.2.2.2.1] w1 fun r w'=>r=.tuple #[.string (str ts),.int .i64 tr]/\Fr none1 w1 w') :
  Ret Tryz.prog 72 #[gX e,.int .i32 (dU c)] w fun r w'=>∃ v:Sl,r=.tuple #[.slice v.1 v.2.1 v.2.2,.int .i64 (if c=84 then tr else 0)]/\cg w' v (eY e ts c)/\Fr none1 w w'/\∀ k,aw v k->w.heap.size<=k:=by
 refine c72 e (dU c) w _ ?_;unfold C72;refine ak.of fun b w1 hb au f1 ab1=>?_;have s1:=f1.size;have ay:∀ {d:UInt8},c≠d->(dU c==dU d)=false:=fun{d} h=>by
  simp only[beq_eq_false_iff_ne];unfold dU;intro t;exact h (UInt8.toNat_inj.1 (by omega))
 have num:∀ (n:Int),(eY e ts c=cu n)->c≠84->ab Tryz.prog 110 #[.int .i64 n] w1 (.v (.one .aj)) (fun(x4:Option Addr×Nat×Nat) w5=>
   ∃ v:Sl,(.tuple #[.slice x4.1 x4.2.1 x4.2.2,.int .i64 0]:Value)=.tuple #[.slice v.1 v.2.1 v.2.2,.int .i64 (if c=84 then tr else 0)]/\cg w5 v (eY e ts c)/\Fr none1 w w5/\∀ k,aw v k->w.heap.size<=k):=fun n hn hc=>by
  refine ab.of (Ko n w1) ?_;rintro _ w2 ⟨u,rfl,hu,f2,uf⟩;exact⟨u,rfl,u,by rw[if_neg hc],by rw[hn];exact hu,f1.trans f2,fun k U=>Nat.le_trans s1 (uf k U)⟩
 have ef:∀ (s:ByteArray),s.size<=1000000->eY e ts c=kn s.data.toList->c≠84->az Tryz.prog (Instr.buildSlice 22 1 #[(0,.int .u8 (IntKind.u8.wrap (s.size:Int)))]) w1 (.v (.one .aj)) (fun(aX:Option Addr×Nat×Nat) bz=>az Tryz.prog (Builtin.append_ #[22,9] 22 #[.slice aX.1 aX.2.1 aX.2.2,.string s]) bz (.v (.one .aj)) (fun(bu:Option Addr×Nat×Nat) bo=>
   ∃ v:Sl,(.tuple #[.slice bu.1 bu.2.1 bu.2.2,.int .i64 0]:Value)=.tuple #[.slice v.1 v.2.1 v.2.2,.int .i64 (if c=84 then tr else 0)]/\cg bo v (eY e ts c)/\Fr none1 w bo/\∀ k,aw v k->w.heap.size<=k)):=fun s hs hf hc=>by
  rw[ER];refine KT (w:=w1) [UInt8.ofNat (s.size % 256)] (by simp) s hs fun u w2 hu f2 uf=>?_;refine⟨u,by rw[if_neg hc],?_,f1.trans f2,fun k U=>Nat.le_trans s1 (uf k U)⟩;rw[hf];unfold kn;rw[yP];exact hu
 by_cases uR:c=68
 ·refine aa.t (by rw[uR];rfl) ?_
  exact ae.ah au (x:=e.2.2.2.2.2.1) rfl (num _ (by unfold eY;rw[if_pos uR]) (by rw[uR];decide))
 refine aa.f (ay uR) ?_
 by_cases wP:c=86
 ·refine aa.t (by rw[wP];rfl) ?_
  exact ae.ah au (x:=e.2.2.2.2.2.2.1) rfl (num _ (by unfold eY;rw[if_neg uR,if_pos wP]) (by rw[wP];decide))
 refine aa.f (ay wP) ?_
 by_cases mY:c=84
 ·refine aa.t (by rw[mY];rfl) ?_
  refine ae.ah au (x:=e.2.2.2.2.2.2.2.1) rfl ?_;refine ab.of (ht mY w1 f1) ?_;rintro _ w2 ⟨rfl,f2⟩;refine⟨(str ts,tr,()),rfl,⟨by omega,?_⟩⟩;dsimp only;have es:((str ts).size:Int)=(ts.length:Int):=by rw[dR]
  rw[es,show Int.toNat 8=8 from rfl,Br ts.length 8 (by omega),ER,ER];refine KT (w:=w2) [UInt8.ofNat (ts.length / 2 ^ 8 % 256),UInt8.ofNat (ts.length % 256)] (by simp) (str ts) (by rw[dR];exact jY) fun u w3 hu f3 uf=>?_;refine⟨u,by rw[if_pos mY],?_,(f1.trans f2).trans f3,fun k U=>Nat.le_trans (f1.trans f2).size (uf k U)⟩;unfold eY;rw[if_neg uR,if_neg wP,if_pos mY];rw[ke] at hu;exact hu
 refine aa.f (ay mY) ?_;have hF:∀ s,tg e c=s->eY e ts c=kn s.data.toList:=fun s hs=>by unfold eY;rw[if_neg uR,if_neg wP,if_neg mY,hs]
 by_cases uS:c=73
 ·refine aa.t (by rw[uS];rfl) ?_
  exact ae.ah au (x:=e.2.1) rfl (ef _ hz.1 (hF _ (by unfold tg;rw[if_pos uS])) mY)
 refine aa.f (ay uS) ?_
 by_cases wQ:c=78
 ·refine aa.t (by rw[wQ];rfl) ?_
  exact ae.ah au (x:=e.2.2.1) rfl (ef _ hz.2.1 (hF _ (by unfold tg;rw[if_neg uS,if_pos wQ])) mY)
 refine aa.f (ay wQ) ?_
 by_cases yY:c=76
 ·refine aa.t (by rw[yY];rfl) ?_
  exact ae.ah au (x:=e.2.2.2.1) rfl (ef _ hz.2.2.1 (hF _ (by unfold tg;rw[if_neg uS,if_neg wQ,if_pos yY])) mY)
 refine aa.f (ay yY) ?_
 by_cases BF:c=67
 ·refine aa.t (by rw[BF];rfl) ?_
  exact ae.ah au (x:=e.2.2.2.2.1) rfl (ef _ hz.2.2.2 (hF _ (by unfold tg;rw[if_neg uS,if_neg wQ,if_neg yY,if_pos BF])) mY)
 refine aa.f (ay BF) ?_;exact ef _ (by decide) (hF _ (by unfold tg;rw[if_neg uS,if_neg wQ,if_neg yY,if_neg BF])) mY
theorem ES (e:dT)(hz:pM e)(ts:List UInt8)(jY:ts.length<=1000000)(c:UInt8):(eY e ts c).length<=1000010:=by
 obtain⟨z1,z2,z3,z4⟩:=hz;unfold eY;split
 ·rw[iB];omega
 split
 ·rw[iB];omega
 split
 ·simp only[List.length_cons];omega
 unfold kn tg;have hs:∀ s:ByteArray,s.data.toList.length=s.size:=yP;simp only[List.length_cons,hs]
 repeat' split
 all_goals first | omega | (show(0:Nat)+1<=_;omega)
theorem ET (e:dT)(hT:pK e.2.2.2.2.2.2.2.1)(hz:pM e)(ts:List UInt8)(jY:ts.length<=1000000)(tr:Int)(w:World)
  (ht:e.1=2->∀ w1,Fr none1 w w1->Ret Tryz.prog 132 #[e.2.2.2.2.2.2.2.1] w1 fun r w'=>r=.tuple #[.string (str ts),.int .i64 tr]/\Fr none1 w1 w') :
  Ret Tryz.prog 33 #[gX e] w fun r w'=>∃ v:Sl,r=.tuple #[.slice v.1 v.2.1 v.2.2,.int .i64 (iZ e ts tr).2]/\cg w' v (iZ e ts tr).1/\Fr none1 w w'/\∀ k,aw v k->w.heap.size<=k:=by
 refine c33 e w _ ?_;unfold C33;refine ak.of fun b w1 hb au f1 _=>?_;refine aq.aE (x:=e) au ?_;refine ab.of (EM e hT tr w1 (fun h2 w' f=>(ht h2 w' (f1.trans f)).mono fun r nN ⟨h,f⟩=>⟨⟨_,h⟩,f⟩)) ?_;rintro _ w2 ⟨rfl,f2⟩;have f12:=f1.trans f2;have aK:=f2.af au;refine⟨_,rfl,?_⟩;unfold iZ;refine aa.ne (fun ay=>?_) (fun heq=>?_)
 ·rw[if_pos ay]
  exact⟨(none,0,0),rfl,.inl ⟨rfl,rfl⟩,f12,fun k ⟨a,ha,_⟩=>by cases ha⟩
 rw[if_neg (fun t=>t heq)];refine ae.ah aK (x:=e.1) rfl ?_;have SK:Value.int .u8 (IntKind.u8.wrap e.1)=bc (UInt8.ofNat (e.1 % 256).toNat):=by
  unfold bc;rw[oK (by omega)]
  congr 1
  simp[IntKind.wrap,IntKind.signed,IntKind.bits];omega
 rw[SK];obtain⟨x,w3,EU,hx,kN,f3,xf⟩:=rJ (P:=Tryz.prog) (w:=w2) mR [bc (UInt8.ofNat (e.1 % 256).toNat)] (by simp[bc,Value.cells]) (by simp);refine⟨x,w3,EU,?_⟩;have aU:=f3.af aK;have yL:cg w3 x [UInt8.ofNat (e.1 % 256).toNat]:=hx;refine ae.ah aU (x:=e.1) rfl ?_;refine ab.of (KR e.1 w3) ?_;rintro _ w4 ⟨fv,rfl,yZ,f4,ff⟩;refine⟨fv,rfl,?_⟩;have dw:=f4.af aU;have fL:=f12.size;have f14:=(f12.trans f3).trans f4;have jI:=yZ.len;rw[List.length_map] at jI;have BE:(eM e.1).length<=7:=by unfold eM;exact Nat.le_trans (List.length_filter_le _ _) (by decide)
 have mY:∀ c∈eM e.1,c=84->e.1=2:=fun c hc h=>by
  subst h;have:=(List.mem_filter.1 hc).2;unfold cR fS at this
  by_cases h2:e.1=2
  ·exact h2
  ·rw[if_neg h2] at this
   repeat' split at this
   all_goals exact absurd this (by decide)
 have SL:e.1=2->tr=0:=fun h2=>by
  unfold mm at heq;rw[h2] at heq
  repeat' split at heq
  all_goals first | exact heq | (exact absurd heq (by decide)) | (rename_i hx;exact absurd rfl hx)
 refine bw.of (fun s w'=>∃ i:Nat,s.2.1=i/\i<=(eM e.1).length/\cg w' s.1 (UInt8.ofNat (e.1 % 256).toNat::((eM e.1).take i).flatMap (eY e ts))/\(∀ k,aw s.1 k->w2.heap.size<=k/\(¬ aw fv k))/\kP w' fv ((eM e.1).map dU)/\Fr none1 w2 w')
  (fun s _=>(fv.2.1 - s.2.1).toNat) ⟨0,rfl,Nat.zero_le _,by simpa using cg.af yL f4,fun k U=>⟨xf k U,fun t=>by have:=ff k t;have:=aF.lt hx U;omega⟩,yZ,f3.trans f4⟩ ?_
 rintro _ ⟨v,i',_⟩ w5 ⟨i,hi,ja,hv,iC,EV,f5⟩;dsimp only at hi hv iC ⊢;subst hi;refine aa.dec (fun aS=>?_) (fun dQ=>?_)
 ·have EW:i<(eM e.1).length:=by omega
  refine kP.ld EV (by omega) aS ?_;obtain⟨c,hc⟩:∃ c,(eM e.1)[i]? = some c:=⟨_,List.getElem?_eq_getElem EW⟩;have qO:c∈eM e.1:=List.mem_of_getElem? hc;have EX:((eM e.1).map dU).getD (Int.toNat (i:Int)) 0=dU c:=by
   rw[Int.toNat_natCast,List.getD_eq_getElem?_getD,List.getElem?_map,hc];rfl
  rw[EX];have cW:=f5.af (f2.af au);refine aq.aE (x:=e) cW ?_;have SM:(if c=84 then tr else 0)=0:=by
   by_cases h:c=84
   ·rw[if_pos h];exact SL (mY c qO h)
   ·rw[if_neg h]
  have KU:=SJ e hz c ts jY tr w5 (fun h w' f=>ht (mY c qO h) w' ((f12.trans f5).trans f));rw[SM] at KU;refine ab.of KU ?_;rintro _ w6 ⟨u,rfl,hu,f6,uf⟩;refine⟨(u,0,()),rfl,?_⟩;refine aa.f rfl ?_;have hlen:((eM e.1).take i).flatMap (eY e ts)=((eM e.1).take i).flatMap (eY e ts):=rfl;have hbound:∀ l:List UInt8,(l.flatMap (eY e ts)).length<=l.length * 1000010:=by
   intro l
   induction l with
   | nil=>simp
   | cons a l ih=>rw[List.flatMap_cons,List.length_append,List.length_cons];have:=ES e hz ts jY a;omega
  have ab2:=hbound ((eM e.1).take i);have ab3:=ES e hz ts jY c;have EY:((eM e.1).take i).length<=7:=by rw[List.length_take];omega
  obtain⟨y,w7,pN,hy,f7,yf⟩:=rK (cg.af hv f6) hu.rd (by simp only[List.length_cons];omega);have SN:=fun k (U:aw fv k)=>aF.lt EV U;refine⟨y,w7,pN,⟨i+1,by rw[wI (by omega) (by omega)];omega,by omega,?_,fun k U=>?_,aF.ag (aF.af EV f6) f7 (fun k U t=>(iC k t).2 U),(f5.trans f6).comp f7 (fun k U t=>by have:=(iC k t).1;omega)⟩,by rw[wI (by omega) (by omega)];omega⟩
  ·rw[List.take_add_one,hc,List.flatMap_append]
   simpa using hy
  ·rcases yf k U with t | t
   ·exact iC k t
   ·have:=f5.size
    have:=f6.size;exact⟨by omega,fun q=>by have:=SN k q;omega⟩
 ·rw[List.take_of_length_le (by omega)] at hv
  exact⟨v,rfl,hv,f12.trans f5,fun k U=>by have:=(iC k U).1;omega⟩
inductive Ob where
 | none
 | const (n:Int)
 | fix (s:List UInt8)
 | add (l r:Ob)
 | neg (o:Ob)
 | mul (l r:Ob)
 | max (l r:Ob)
inductive Tm where
 | none
 | zero
 | one (s:List UInt8)
 | gD (t:Tm)
 | and (l r:Tm)
 | or (s:List UInt8) (l r:Tm)
 | scale (o:Ob) (t:Tm)
 | when (d:Int) (t:Tm)
 | cond (o:Ob) (l r:Tm)
def Ob.v:Ob->Value
 | .none=>.nilIface
 | .const n=>.iface 222 (.agg #[.int .i64 n])
 | .fix s=>.iface 300 (.agg #[.string (str s)])
 | .add l r=>.iface 302 (.agg #[l.v,r.v])
 | .neg o=>.iface 304 (.agg #[o.v])
 | .mul l r=>.iface 305 (.agg #[l.v,r.v])
 | .max l r=>.iface 306 (.agg #[l.v,r.v])
def Tm.v:Tm->Value
 | .none=>.nilIface
 | .zero=>.iface 235 (.agg #[])
 | .one s=>.iface 216 (.agg #[.string (str s)])
 | .gD t=>.iface 237 (.agg #[t.v])
 | .and l r=>.iface 239 (.agg #[l.v,r.v])
 | .or s l r=>.iface 241 (.agg #[.string (str s),l.v,r.v])
 | .scale o t=>.iface 245 (.agg #[o.v,t.v])
 | .when d t=>.iface 247 (.agg #[.int .i64 d,t.v])
 | .cond o l r=>.iface 249 (.agg #[o.v,l.v,r.v])
theorem oP (s:ByteArray):bI (.string s)=true:=rfl
theorem pP (k:IntKind)(n:Int):bI (.int k n)=true:=rfl
theorem Ob.bU (o:Ob):bI o.v=true:=by cases o<;>rfl
theorem Tm.bU (t:Tm):bI t.v=true:=by cases t<;>rfl
theorem Ob.fN (o:Ob):o.v.cells=#[o.v]:=by cases o<;>rfl
theorem Tm.fN (t:Tm):t.v.cells=#[t.v]:=by cases t<;>rfl
def cS:Ob->List Ob
 | .add l r | .mul l r | .max l r=>[l,r]
 | .neg o=>[o]
 | _=>[]
def db:Tm->List Tm
 | .gD t | .scale _ t | .when _ t=>[t]
 | .and l r | .or _ l r | .cond _ l r=>[l,r]
 | _=>[]
theorem BG {o k:Ob}(h:k∈cS o):SizeOf.sizeOf k<SizeOf.sizeOf o:=by
 cases o<;>simp[cS] at h
 all_goals first | (rcases h with rfl | rfl<;>simp<;>omega) | (subst h;simp)
theorem BI {t k:Tm}(h:k∈db t):SizeOf.sizeOf k<SizeOf.sizeOf t:=by
 cases t<;>simp[db] at h
 all_goals first | (rcases h with rfl | rfl<;>simp<;>omega) | (subst h;simp;done) | (subst h;simp;omega)
theorem BJ (o:Ob):(cS o).length<=2:=by cases o<;>simp[cS]
theorem BK (t:Tm):(db t).length<=2:=by cases t<;>simp[db]
namespace Vc
theorem ao.hit {x:Value}{t:TypeId}{k:Kd}{yes:k.C->Prop}{no:Prop}(r:k.C)(h:x=.iface t (k.val r))(hy:yes r):ao x t k yes no:=⟨.inl ⟨r,h,hy⟩⟩
theorem ao.aL {x:Value}{t u:TypeId}{v:Value}{k:Kd}{yes:k.C->Prop}{no:Prop}(h:x=.iface u v)(hu:u≠t)(hn:no):ao x t k yes no:=⟨.inr ⟨.inr ⟨u,v,h,hu⟩,hn⟩⟩
theorem ao.nil {x:Value}{t:TypeId}{k:Kd}{yes:k.C->Prop}{no:Prop}(h:x=.nilIface)(hn:no):ao x t k yes no:=⟨.inr ⟨.inl h,hn⟩⟩
theorem cK {w:World}{T:TypeId}{zs vs:List Value}{K:Nat->World->Prop}(hl:zs.length=vs.length)(h1:vs.all bI=true)
  (h:∀ g w4,w.heap.size=g->w4.heap[g]? = some (.cells vs.toArray T (0,0))->Fr none1 w w4->K g w4):ak (.cells zs.toArray T) w fun g w3=>ar ⟨g,0,none⟩ vs w3 fun w4=>K g w4:=
 ak.of fun g w1 hg hb f1 hs=>ar.aE hb hl h1 fun w2 aK f2 _=>h g w2 hg aK (f1.fresh f2 (by omega))
theorem mq {w:World}{T:TypeId}{zs vs:List Value}{K:World->Prop}(hl:zs.length=vs.length)(h1:vs.all bI=true)
  (h:∀ w4,Fr none1 w w4->K w4):ak (.cells zs.toArray T) w fun g w3=>ar ⟨g,0,none⟩ vs w3 fun w4=>K w4:=
 cK hl h1 fun _ w4 _ _ f=>h w4 f
theorem BM {P:Program}{w:World}{T t E i bytes:Nat}{z a:Value}{zs vs:List Value}{K:Option Addr×Nat×Nat->World->Prop}(he:il P t E 1 z bytes)(hl:zs.length=vs.length)(h1:vs.all bI=true)(ha:vs[i]? = some a)(hc:a.cells=#[a])
  (h:∀ (u:Sl) w',aF w' E 1 u [a]->u.2.1=1->Fr none1 w w'->(∀ k,aw u k->w.heap.size<=k)->K u w') :
  ak (.cells zs.toArray T) w fun g w3=>ar ⟨g,0,none⟩ vs w3 fun w4=>ae .raw ((⟨g,0,none⟩:Addr).add i) w4 fun(x:Value)=>az P (Instr.buildSlice t 1 #[(0,x)]) w4 (.v (.one .aj)) fun(u:Option Addr×Nat×Nat) w5=>K u w5:=by
 refine cK hl h1 fun g w4 hg hb f=>?_;refine ae.ah (c:=.raw) hb (x:=a) (by rw[List.getElem?_toArray,Nat.zero_add];exact ha) ?_;obtain⟨u,w5,hr,hu,dm,f5,uf⟩:=lH (w:=w4) he a hc;exact⟨u,w5,hr,h u w5 hu dm (f.trans f5) fun k U=>Nat.le_trans f.size (uf k U)⟩
theorem BN {P:Program}{w:World}{T t E i j bytes:Nat}{z a b:Value}{zs vs:List Value}{K:Option Addr×Nat×Nat->World->Prop}(he:il P t E 1 z bytes)(hl:zs.length=vs.length)(h1:vs.all bI=true)(ha:vs[i]? = some a)(hb:vs[j]? = some b)(hca:a.cells=#[a])(BO:b.cells=#[b])
  (h:∀ (u:Sl) w',aF w' E 1 u [a,b]->u.2.1=2->Fr none1 w w'->(∀ k,aw u k->w.heap.size<=k)->K u w') :
  ak (.cells zs.toArray T) w fun g w3=>ar ⟨g,0,none⟩ vs w3 fun w4=>ae .raw ((⟨g,0,none⟩:Addr).add i) w4 fun(x:Value)=>ae .raw ((⟨g,0,none⟩:Addr).add j) w4 fun(y:Value)=>az P (Instr.buildSlice t 2 #[(0,x),(1,y)]) w4 (.v (.one .aj)) fun(u:Option Addr×Nat×Nat) w5=>K u w5:=by
 refine cK hl h1 fun g w4 hg wv f=>?_;refine ae.ah (c:=.raw) wv (x:=a) (by rw[List.getElem?_toArray,Nat.zero_add];exact ha) ?_;refine ae.ah (c:=.raw) wv (x:=b) (by rw[List.getElem?_toArray,Nat.zero_add];exact hb) ?_;obtain⟨u,w5,hr,hu,dm,f5,uf⟩:=rJ (w:=w4) he [a,b] (by intro v hv;simp at hv;rcases hv with rfl | rfl<;>assumption) (by simp)
 exact⟨u,w5,hr,h u w5 hu dm (f.trans f5) fun k U=>Nat.le_trans f.size (uf k U)⟩
end Vc
theorem KV:il Tryz.prog 401 242 1 .nilIface 16:=⟨Tryz.underlying401,⟨Tryz.t242,by kernel_rfl,rfl,rfl,rfl⟩,rfl,by decide⟩
theorem wR:il Tryz.prog 370 34 1 .nilIface 16:=⟨Tryz.underlying370,⟨Tryz.t34,by kernel_rfl,rfl,rfl,rfl⟩,rfl,by decide⟩
theorem wS:il Tryz.prog 51 9 1 (.string ⟨#[]⟩) 16:=⟨Tryz.underlying51,⟨Tryz.t9,by kernel_rfl,rfl,rfl,rfl⟩,rfl,by decide⟩
def lK (w:World)(v:Sl)(l:List Ob):Prop:=aF w 242 1 v (l.map Ob.v)
def mZ (w:World)(v:Sl)(l:List Tm):Prop:=aF w 34 1 v (l.map Tm.v)
theorem lK.af {w w':World}{v:Sl}{l:List Ob}(h:lK w v l)(f:Fr none1 w w'):lK w' v l:=aF.af h f
theorem mZ.af {w w':World}{v:Sl}{l:List Tm}(h:mZ w v l)(f:Fr none1 w w'):mZ w' v l:=aF.af h f
theorem lK.len {w:World}{v:Sl}{l:List Ob}(h:lK w v l):v.2.1=l.length:=by have:=aF.len h;rw[List.length_map,Nat.mul_one] at this;exact this.symm
theorem mZ.len {w:World}{v:Sl}{l:List Tm}(h:mZ w v l):v.2.1=l.length:=by have:=aF.len h;rw[List.length_map,Nat.mul_one] at this;exact this.symm
theorem lK.ld {w:World}{v:Sl}{l:List Ob}(h:lK w v l){i:Nat}{o:Ob}(ho:l[i]? = some o){K:Value->Prop}(k:K o.v):bK v.1 v.2.1 (i:Int) 1 fun p=>ae .raw p w K:=by
 have hi:=(List.getElem?_eq_some_iff.1 ho).1;have hl:=h.len;refine aF.ld h (by omega) (by omega) (c:=.raw) (x:=o.v) ?_ k;rw[Int.toNat_natCast,List.getElem?_map,ho];rfl
theorem mZ.ld {w:World}{v:Sl}{l:List Tm}(h:mZ w v l){i:Nat}{o:Tm}(ho:l[i]? = some o){K:Value->Prop}(k:K o.v):bK v.1 v.2.1 (i:Int) 1 fun p=>ae .raw p w K:=by
 have hi:=(List.getElem?_eq_some_iff.1 ho).1;have hl:=h.len;refine aF.ld h (by omega) (by omega) (c:=.raw) (x:=o.v) ?_ k;rw[Int.toNat_natCast,List.getElem?_map,ho];rfl
theorem EZ (w:World):lK w (none,0,0) []:=.inl ⟨rfl,rfl⟩
theorem SO (w:World):mZ w (none,0,0) []:=.inl ⟨rfl,rfl⟩
theorem ko:∀ k,¬ aw (none,0,0) k:=fun k ⟨a,ha,_⟩=>by cases ha
def C254 (p0:Value)(w:World)(K:Value->World->Prop):Prop:=
 ao p0 302 (.agg [.raw,.raw]) (fun(x1:Value×Value×Unit)=>ak (.cells #[.nilIface,.nilIface] 302) w (fun g2 w3=>ar (ad g2) [x1.1,x1.2.1] w3 (fun w4=>ae .raw ((ad g2).add 0) w4 (fun(x5:Value)=>ae .raw ((ad g2).add 1) w4 (fun(x6:Value)=>az Tryz.prog (Instr.buildSlice 401 2 #[(0,x5),(1,x6)]) w4 (.v (.one .aj)) (fun(x7:an) w8=>K (.slice x7.1 x7.2.1 x7.2.2) w8))))))
 (ak (.cells #[.nilIface,.nilIface] 302) w (fun g9 aG=>ar (ad g9) [.nilIface,.nilIface] aG (fun aO=>ao p0 305 (.agg [.raw,.raw]) (fun(bt:Value×Value×Unit)=>ak (.cells #[.nilIface,.nilIface] 305) aO (fun g13 bm=>ar (ad g13) [bt.1,bt.2.1] bm (fun bL=>ae .raw ((ad g13).add 0) bL (fun(aQ:Value)=>ae .raw ((ad g13).add 1) bL (fun(aX:Value)=>az Tryz.prog (Instr.buildSlice 401 2 #[(0,aQ),(1,aX)]) bL (.v (.one .aj)) (fun(br:an) bx=>K (.slice br.1 br.2.1 br.2.2) bx))))))
 (ak (.cells #[.nilIface,.nilIface] 305) aO (fun g20 bB=>ar (ad g20) [.nilIface,.nilIface] bB (fun bN=>ao p0 306 (.agg [.raw,.raw]) (fun(cr:Value×Value×Unit)=>ak (.cells #[.nilIface,.nilIface] 306) bN (fun g24 dk=>ar (ad g24) [cr.1,cr.2.1] dk (fun ct=>ae .raw ((ad g24).add 0) ct (fun(cz:Value)=>ae .raw ((ad g24).add 1) ct (fun(eN:Value)=>az Tryz.prog (Instr.buildSlice 401 2 #[(0,cz),(1,eN)]) ct (.v (.one .aj)) (fun(cx:an) bO=>K (.slice cx.1 cx.2.1 cx.2.2) bO))))))
 (ak (.cells #[.nilIface,.nilIface] 306) bN (fun SP cL=>ar (ad SP) [.nilIface,.nilIface] cL (fun dS=>ao p0 304 (.agg [.raw]) (fun(dj:Value×Unit)=>ak (.cells #[.nilIface] 304) dS (fun KW cQ=>ar (ad KW) [dj.1] cQ (fun dG=>ae .raw ((ad KW).add 0) dG (fun(dF:Value)=>az Tryz.prog (Instr.buildSlice 401 1 #[(0,dF)]) dG (.v (.one .aj)) (fun(eP:an) dD=>K (.slice eP.1 eP.2.1 eP.2.2) dD)))))
 (ak (.cells #[.nilIface] 304) dS (fun SQ fM=>ar (ad SQ) [.nilIface] fM (fun kq=>K (.slice none 0 0) kq))))))))))))
def pl254:aB:=.auto
theorem c254 (p0:Value)(w:World)(K:Value->World->Prop)(h:C254 p0 w K):Ret Tryz.prog 254 #[p0] w K:=aC (by kernel_rfl) Tryz.func254 (p:=pl254) (Eq.mpr (by kernel_rfl) h)
def C290 (p0:Value)(w:World)(K:Value->World->Prop):Prop:=
 ao p0 222 (.agg [.int .i64]) (fun(x1:Int×Unit)=>ak (.cells #[.int .i64 0] 222) w (fun g2 w3=>ar (ad g2) [.int .i64 x1.1] w3 (fun w4=>ae (.int .i64) ((ad g2).add 0) w4 (fun(x5:Int)=>ab Tryz.prog 131 #[.int .i64 x5] w4 (.v (.one .bool)) (fun(x6:Bool) w7=>K (.tuple #[.bool true,.bool x6]) w7)))))
 (ak (.cells #[.int .i64 0] 222) w (fun g8 w9=>ar (ad g8) [.int .i64 0] w9 (fun aG=>ao p0 300 (.agg [.str]) (fun(ba:ByteArray×Unit)=>ak (.cells #[.string (⟨#[]⟩:ByteArray)] 300) aG (fun g12 aW=>ar (ad g12) [.string ba.1] aW (fun bm=>ae .str ((ad g12).add 0) bm (fun(bj:ByteArray)=>ab Tryz.prog 169 #[.string bj] bm (.v (.one .bool)) (fun(aQ:Bool) b9=>K (.tuple #[.bool true,.bool aQ]) b9)))))
 (ak (.cells #[.string (⟨#[]⟩:ByteArray)] 300) aG (fun g18 bx=>ar (ad g18) [.string (⟨#[]⟩:ByteArray)] bx (fun bo=>K (.tuple #[.bool false,.bool false]) bo))))))
def pl290:aB:=.auto
theorem c290 (p0:Value)(w:World)(K:Value->World->Prop)(h:C290 p0 w K):Ret Tryz.prog 290 #[p0] w K:=aC (by kernel_rfl) Tryz.func290 (p:=pl290) (Eq.mpr (by kernel_rfl) h)
def C265 (p0:Value)(w:World)(K:Value->World->Prop):Prop:=
 ab Tryz.prog 290 #[p0] w (.aN [.one .bool,.one .bool]) (fun(x1:Bool×Bool×Unit) w2=>aa (!x1.1)
 (ab Tryz.prog 254 #[p0] w2 (.v (.one .aj)) (fun(x3:an) w4=>K (.bool ((x3.2.1:Int)==0)) w4))
 (K (.bool false) w2))
def pl265:aB:=.auto
theorem c265 (p0:Value)(w:World)(K:Value->World->Prop)(h:C265 p0 w K):Ret Tryz.prog 265 #[p0] w K:=aC (by kernel_rfl) Tryz.func265 (p:=pl265) (Eq.mpr (by kernel_rfl) h)
def C247 (p0:Value)(w:World)(K:Value->World->Prop):Prop:=
 ab Tryz.prog 265 #[p0] w (.v (.one .bool)) (fun(x1:Bool) w2=>aa x1
 (K (.tuple #[.int .i64 0,.int .i64 0]) w2)
 (ab Tryz.prog 254 #[p0] w2 (.v (.one .aj)) (fun(x3:an) w4=>bw (Int×Int×Int×Unit) (fun _ s5 w6 tk=>aa (decide (s5.2.2.1<(x3.2.1:Int)))
 (bK x3.1 x3.2.1 s5.2.2.1 1 (fun a8=>ae .raw a8 w6 (fun(x9:Value)=>ab Tryz.prog 247 #[x9] w6 (.aN [.one (.int .i64),.one (.int .i64)]) (fun(aR:Int×Int×Unit) aO=>tk (IntKind.i64.wrap (s5.1+aR.1),(if aR.2.1 > s5.2.1 then aR.2.1 else s5.2.1),IntKind.i64.wrap (s5.2.2.1+1),()) aO))))
 (K (.tuple #[.int .i64 (IntKind.i64.wrap (s5.1+1)),.int .i64 (IntKind.i64.wrap (s5.2.1+1))]) w6))
 (0,0,0,()) w4)))
def pl247:aB:=(.seq .auto (.seq .auto (.seq (.seq .auto (.block (.loop [(2,.one (.int .i64)),(3,.one (.int .i64)),(13,.one (.int .i64))] .auto))) .auto)))
theorem c247 (p0:Value)(w:World)(K:Value->World->Prop)(h:C247 p0 w K):Ret Tryz.prog 247 #[p0] w K:=aC (by kernel_rfl) Tryz.func247 (p:=pl247) (Eq.mpr (by kernel_rfl) h)
def C263 (p0:Value)(w:World)(K:Value->World->Prop):Prop:=
 ab Tryz.prog 290 #[p0] w (.aN [.one .bool,.one .bool]) (fun(x1:Bool×Bool×Unit) w2=>aa x1.1
 (K (.bool x1.2.1) w2)
 (ab Tryz.prog 265 #[p0] w2 (.v (.one .bool)) (fun(x3:Bool) w4=>aa (!x3)
 (ab Tryz.prog 254 #[p0] w4 (.v (.one .aj)) (fun(x5:an) w6=>ab Tryz.prog 291 #[.slice x5.1 x5.2.1 x5.2.2,.func (.func 292) #[] #[]] w6 (.v (.one .bool)) (fun(x7:Bool) w8=>K (.bool (!x7)) w8)))
 (K (.bool false) w4))))
def pl263:aB:=.auto
theorem c263 (p0:Value)(w:World)(K:Value->World->Prop)(h:C263 p0 w K):Ret Tryz.prog 263 #[p0] w K:=aC (by kernel_rfl) Tryz.func263 (p:=pl263) (Eq.mpr (by kernel_rfl) h)
def C292 (p0:Value)(w:World)(K:Value->World->Prop):Prop:=
 ab Tryz.prog 263 #[p0] w (.v (.one .bool)) (fun(x1:Bool) w2=>K (.bool (!x1)) w2)
def pl292:aB:=.auto
theorem c292 (p0:Value)(w:World)(K:Value->World->Prop)(h:C292 p0 w K):Ret Tryz.prog 292 #[p0] w K:=aC (by kernel_rfl) Tryz.func292 (p:=pl292) (Eq.mpr (by kernel_rfl) h)
def C244 (p0:Value)(w:World)(K:Value->World->Prop):Prop:=
 ab Tryz.prog 263 #[p0] w (.v (.one .bool)) (fun(x1:Bool) w2=>aa (!x1)
 (K (.int .i64 2) w2)
 (ab Tryz.prog 247 #[p0] w2 (.aN [.one (.int .i64),.one (.int .i64)]) (fun(x3:Int×Int×Unit) w4=>aa (decide (x3.1 > 60))
 (K (.int .i64 5) w4)
 (aa (decide (x3.2.1 > 12))
 (K (.int .i64 5) w4)
 (K (.int .i64 0) w4)))))
def pl244:aB:=.auto
theorem c244 (p0:Value)(w:World)(K:Value->World->Prop)(h:C244 p0 w K):Ret Tryz.prog 244 #[p0] w K:=aC (by kernel_rfl) Tryz.func244 (p:=pl244) (Eq.mpr (by kernel_rfl) h)
def C291 (p0:Option Addr)(aH aP:Nat)(p1:Value)(w:World)(K:Value->World->Prop):Prop:=
 ab Tryz.prog 311 #[.slice p0 aH aP,p1] w (.v (.one (.int .i64))) (fun(x1:Int) w2=>K (.bool (decide (x1 >= 0))) w2)
def pl291:aB:=.auto
theorem c291 (p0:Option Addr)(aH aP:Nat)(p1:Value)(w:World)(K:Value->World->Prop)(h:C291 p0 aH aP p1 w K):Ret Tryz.prog 291 #[.slice p0 aH aP,p1] w K:=aC (by kernel_rfl) Tryz.func291 (p:=pl291) (Eq.mpr (by kernel_rfl) h)
def C311 (p0:Option Addr)(aH aP:Nat)(p1:Value)(w:World)(K:Value->World->Prop):Prop:=
 bw (Int×Unit) (fun _ s1 w2 gm=>aa (decide (s1.1<(aH:Int)))
 (bK p0 aH s1.1 1 (fun a4=>ae .raw a4 w2 (fun(x5:Value)=>kI Tryz.prog p1 [x5] (.v (.one .bool)) w2 (fun(x6:Bool) w7=>aa x6
 (K (.int .i64 s1.1) w7)
 (gm (IntKind.i64.wrap (s1.1+1),()) w7)))))
 (K (.int .i64 (-1)) w2))
 (0,()) w
def pl311:aB:=(.seq .auto (.seq (.seq .auto (.block (.loop [(8,.one (.int .i64))] .auto))) .auto))
theorem c311 (p0:Option Addr)(aH aP:Nat)(p1:Value)(w:World)(K:Value->World->Prop)(h:C311 p0 aH aP p1 w K):Ret Tryz.prog 311 #[.slice p0 aH aP,p1] w K:=aC (by kernel_rfl) Tryz.func311 (p:=pl311) (Eq.mpr (by kernel_rfl) h)
def eZ (s:List UInt8):Bool:=kf 0 (cJ s)
def oQ:Ob->Bool×Bool
 | .const n=>(true,cH n)
 | .fix s=>(true,eZ s)
 | _=>(false,false)
def cX:Ob->Bool
 | .none=>false
 | .const n=>cH n
 | .fix s=>eZ s
 | .add l r | .mul l r | .max l r=>cX l&&cX r
 | .neg o=>cX o
def bA:Ob->Nat
 | .none=>0
 | .const _ | .fix _=>1
 | .add l r | .mul l r | .max l r=>bA l+bA r+1
 | .neg o=>bA o+1
def dn:Ob->Nat
 | .none=>0
 | .const _ | .fix _=>1
 | .add l r | .mul l r | .max l r=>max (dn l) (dn r)+1
 | .neg o=>dn o+1
def nU:Ob->Bool
 | .none=>true
 | _=>false
def uT (o:Ob):Int:=if cX o=false then 2 else if 60<bA o then 5 else if 12<dn o then 5 else 0
theorem BP (o:Ob):dn o<=bA o:=by
 induction o with
 | none=>exact Nat.le_refl _
 | const=>exact Nat.le_refl _
 | fix=>exact Nat.le_refl _
 | neg o ih=>unfold dn bA;omega
 | add l r a b=>unfold dn bA;omega
 | mul l r a b=>unfold dn bA;omega
 | max l r a b=>unfold dn bA;omega
def jv (l:List Nat):Nat:=l.foldl (·+·) 0
def uU (l:List Nat):Nat:=l.foldl max 0
theorem KX (o:Ob)(h:nU o=false):bA o=jv ((cS o).map bA)+1:=by cases o<;>simp[nU,bA,cS,jv] at h ⊢
theorem SR (o:Ob)(h:nU o=false):dn o=uU ((cS o).map dn)+1:=by cases o<;>simp[nU,dn,cS,uU] at h ⊢
theorem SS (o:Ob)(h:(oQ o).1=false):cX o=(!nU o&&!((cS o).any fun k=>!cX k)):=by cases o<;>simp[oQ,nU,cX,cS] at h ⊢
theorem SU (o:Ob)(h:(oQ o).1=false):((cS o).length==0)=nU o:=by cases o<;>simp[oQ,nU,cS] at h ⊢
theorem KY (o:Ob)(h:(oQ o).1=true):nU o=false/\cX o=(oQ o).2:=by cases o<;>simp[oQ,nU,cX] at h ⊢
theorem uV (l:List Nat)(n:Nat):jv (l++[n])=jv l+n:=by unfold jv;rw[List.foldl_append];rfl
theorem SV (l:List Nat)(n:Nat):uU (l++[n])=max (uU l) n:=by unfold uU;rw[List.foldl_append];rfl
theorem SW (l:List Nat):∀ n,l.foldl (·+·) n=n+jv l:=by
 unfold jv
 induction l with
 | nil=>intro n;rfl
 | cons a l ih=>intro n;rw[List.foldl_cons,List.foldl_cons,ih,ih (0+a)];omega
theorem wT (l:List Nat)(i:Nat):jv (l.take i)<=jv l:=by
 have:jv l=jv (l.take i)+jv (l.drop i):=by
  conv=>lhs;rw[<- List.take_append_drop i l]
  unfold jv;rw[List.foldl_append];exact SW _ _
 omega
theorem rN {α β:Type}(l:List α)(g:α->β)(i:Nat){x:α}(h:l[i]? = some x):(l.take (i+1)).map g=(l.take i).map g++[g x]:=by
 rw[List.take_add_one,h,List.map_append];rfl
theorem wU (o:Ob)(w:World):Ret Tryz.prog 254 #[o.v] w fun r w'=>∃ u:Sl,r=.slice u.1 u.2.1 u.2.2/\lK w' u (cS o)/\Fr none1 w w':=by
 refine c254 o.v w _ ?_;unfold C254;have two:∀ (l r:Ob) (w0:World) (T:TypeId),Fr none1 w w0->cS o=[l,r]->ak (.cells #[.nilIface,.nilIface] T) w0 (fun g2 w3=>ar (⟨g2,0,none⟩:Addr) [l.v,r.v] w3 (fun w4=>ae .raw ((⟨g2,0,none⟩:Addr).add 0) w4 (fun(x5:Value)=>ae .raw ((⟨g2,0,none⟩:Addr).add 1) w4 (fun(x6:Value)=>
   az Tryz.prog (Instr.buildSlice 401 2 #[(0,x5),(1,x6)]) w4 (.v (.one .aj)) (fun(x7:Option Addr×Nat×Nat) w8=>∃ u:Sl,(Value.slice x7.1 x7.2.1 x7.2.2)=.slice u.1 u.2.1 u.2.2/\lK w8 u (cS o)/\Fr none1 w w8))))):=fun l r w0 T f0 U=>
  BN (zs:=[.nilIface,.nilIface]) (vs:=[l.v,r.v]) KV rfl (by simp[Ob.bU]) rfl rfl l.fN r.fN fun u w' hu _ f _=>⟨u,rfl,by rw[U];exact hu,f0.trans f⟩
 have mr:∀ {w0:World} {T:TypeId} {K:World->Prop},Fr none1 w w0->(∀ w4,Fr none1 w w4->K w4)->ak (.cells #[.nilIface,.nilIface] T) w0 (fun g w3=>ar ⟨g,0,none⟩ [.nilIface,.nilIface] w3 fun w4=>K w4):=fun f0 h=>
  mq (zs:=[.nilIface,.nilIface]) rfl rfl fun w4 f=>h w4 (f0.trans f)
 have E0:∀ {w0:World} {T:TypeId} {K:World->Prop},Fr none1 w w0->(∀ w4,Fr none1 w w4->K w4)->ak (.cells #[.nilIface] T) w0 (fun g w3=>ar ⟨g,0,none⟩ [.nilIface] w3 fun w4=>K w4):=fun f0 h=>
  mq (zs:=[.nilIface]) rfl rfl fun w4 f=>h w4 (f0.trans f)
 have f0:=Fr.refl none1 w;cases o with
 | none=>
  refine ao.nil rfl (mr f0 fun w1 f1=>ao.nil rfl (mr f1 fun w2 f2=>ao.nil rfl (mr f2 fun w3 f3=>ao.nil rfl (E0 f3 fun w4 f4=>⟨_,rfl,EZ _,f4⟩))))
 | const n=>
  refine ao.aL rfl (by decide) (mr f0 fun w1 f1=>ao.aL rfl (by decide) (mr f1 fun w2 f2=>ao.aL rfl (by decide) (mr f2 fun w3 f3=>ao.aL rfl (by decide) (E0 f3 fun w4 f4=>⟨_,rfl,EZ _,f4⟩))))
 | fix s=>
  refine ao.aL rfl (by decide) (mr f0 fun w1 f1=>ao.aL rfl (by decide) (mr f1 fun w2 f2=>ao.aL rfl (by decide) (mr f2 fun w3 f3=>ao.aL rfl (by decide) (E0 f3 fun w4 f4=>⟨_,rfl,EZ _,f4⟩))))
 | add l r=>exact ao.hit (l.v,r.v,()) rfl (two l r w _ f0 rfl)
 | mul l r=>exact ao.aL rfl (by decide) (mr f0 fun w1 f1=>ao.hit (l.v,r.v,()) rfl (two l r w1 _ f1 rfl))
 | max l r=>exact ao.aL rfl (by decide) (mr f0 fun w1 f1=>ao.aL rfl (by decide) (mr f1 fun w2 f2=>ao.hit (l.v,r.v,()) rfl (two l r w2 _ f2 rfl)))
 | neg x=>
  refine ao.aL rfl (by decide) (mr f0 fun w1 f1=>ao.aL rfl (by decide) (mr f1 fun w2 f2=>ao.aL rfl (by decide) (mr f2 fun w3 f3=>ao.hit (x.v,()) rfl ?_)));exact BM (zs:=[.nilIface]) (vs:=[x.v]) KV rfl (by simp[Ob.bU]) rfl x.fN fun u w' hu _ f _=>⟨u,rfl,hu,f3.trans f⟩
theorem KZ (o:Ob)(w:World):Ret Tryz.prog 290 #[o.v] w fun r w'=>r=.tuple #[.bool (oQ o).1,.bool (oQ o).2]/\Fr none1 w w':=by
 refine c290 o.v w _ ?_;unfold C290;have wV:∀ {K:World->Prop},(∀ w4,Fr none1 w w4->K w4)->ak (.cells #[.int .i64 0] 222) w (fun g w3=>ar ⟨g,0,none⟩ [.int .i64 0] w3 fun w4=>K w4):=fun h=>mq (zs:=[.int .i64 0]) rfl rfl fun w4 f=>h w4 f;have y7:∀ {w0:World} {K:World->Prop},Fr none1 w w0->(∀ w4,Fr none1 w w4->K w4)->ak (.cells #[.string (⟨#[]⟩:ByteArray)] 300) w0 (fun g w3=>ar ⟨g,0,none⟩ [.string (⟨#[]⟩:ByteArray)] w3 fun w4=>K w4):=fun f0 h=>mq (zs:=[.string (⟨#[]⟩:ByteArray)]) rfl rfl fun w4 f=>h w4 (f0.trans f);cases o with
 | none=>exact ao.nil rfl (wV fun w1 f1=>ao.nil rfl (y7 f1 fun w2 f2=>⟨rfl,f2⟩))
 | const n=>
  refine ao.hit (n,()) rfl (cK (zs:=[.int .i64 0]) (vs:=[.int .i64 n]) rfl rfl fun g w1 _ hb f1=>ae.ah hb (x:=n) rfl ?_);refine ab.of (rL n w1) ?_;rintro _ _ ⟨rfl,rfl⟩;exact⟨_,rfl,rfl,f1⟩
 | fix s=>
  refine ao.aL rfl (by decide) (wV fun w1 f1=>ao.hit (str s,()) rfl (cK (zs:=[.string (⟨#[]⟩:ByteArray)]) (vs:=[.string (str s)]) rfl rfl fun g w2 _ hb f2=>ae.ah hb (x:=str s) rfl ?_));refine ab.of (uK s w2) ?_;rintro _ w3 ⟨rfl,f3⟩;exact⟨_,rfl,rfl,(f1.trans f2).trans f3⟩
 | add l r=>exact ao.aL rfl (by decide) (wV fun w1 f1=>ao.aL rfl (by decide) (y7 f1 fun w2 f2=>⟨rfl,f2⟩))
 | mul l r=>exact ao.aL rfl (by decide) (wV fun w1 f1=>ao.aL rfl (by decide) (y7 f1 fun w2 f2=>⟨rfl,f2⟩))
 | max l r=>exact ao.aL rfl (by decide) (wV fun w1 f1=>ao.aL rfl (by decide) (y7 f1 fun w2 f2=>⟨rfl,f2⟩))
 | neg x=>exact ao.aL rfl (by decide) (wV fun w1 f1=>ao.aL rfl (by decide) (y7 f1 fun w2 f2=>⟨rfl,f2⟩))
theorem K0 (o:Ob)(w:World):Ret Tryz.prog 265 #[o.v] w fun r w'=>r=.bool (nU o)/\Fr none1 w w':=by
 refine c265 o.v w _ ?_;refine ab.of (KZ o w) ?_;rintro _ w1 ⟨rfl,f1⟩;refine⟨(_,_,()),rfl,aa.not (aa.by (fun h=>?_) (fun h=>?_))⟩
 ·rw[(KY o h).1];exact⟨rfl,f1⟩
 ·refine ab.of (wU o w1) ?_
  rintro _ w2 ⟨u,rfl,hu,f2⟩;refine⟨u,rfl,?_,f1.trans f2⟩;rw[hu.len,<- SU o h]
  congr 1
  cases U:(cS o).length<;>rfl
theorem E1 (o:Ob)(hn:bA o<=1000000)(w:World):Ret Tryz.prog 247 #[o.v] w fun r w'=>r=.tuple #[.int .i64 (bA o:Int),.int .i64 (dn o:Int)]/\Fr none1 w w':=by
 refine c247 o.v w _ ?_;have ih:∀ k∈cS o,bA k<=1000000->∀ w,Ret Tryz.prog 247 #[k.v] w fun r w'=>r=.tuple #[.int .i64 (bA k:Int),.int .i64 (dn k:Int)]/\Fr none1 w w':=fun k U hn w=>E1 k hn w;refine ab.of (K0 o w) ?_;rintro _ w1 ⟨rfl,f1⟩;refine⟨_,rfl,aa.by (fun h=>?_) (fun h=>?_)⟩
 ·cases o<;>first | (exact⟨rfl,f1⟩) | (exact absurd h (by simp[nU]))
 refine ab.of (wU o w1) ?_;rintro _ w2 ⟨u,rfl,hu,f2⟩;refine⟨u,rfl,?_⟩;have hN:=KX o h;have hD:=SR o h;have dm:=hu.len;have y8:=BJ o;refine bw.of (fun s w'=>∃ i:Nat,s.2.2.1=i/\i<=(cS o).length/\s.1=(jv (((cS o).take i).map bA):Int)/\s.2.1=(uU (((cS o).take i).map dn):Int)/\Fr none1 w w'/\lK w' u (cS o)) (fun s _=>(2 - s.2.2.1).toNat)
  ⟨0,rfl,Nat.zero_le _,rfl,rfl,f1.trans f2,hu⟩ ?_
 rintro _ ⟨a,b,i',_⟩ w3 ⟨i,hi,ja,ha,hb,f3,kL⟩;dsimp only at hi ha hb ⊢;subst hi ha hb;have hle:jv (((cS o).take i).map bA)<=bA o:=by
  rw[hN,List.map_take];have:=wT ((cS o).map bA) i;omega
 refine aa.dec (fun aS=>?_) (fun dQ=>?_)
 ·have fB:i<(cS o).length:=by omega
  obtain⟨k,U⟩:∃ k,(cS o)[i]? = some k:=⟨_,List.getElem?_eq_getElem fB⟩;have nV:=List.mem_of_getElem? U;have nW:jv (((cS o).take (i+1)).map bA)<=bA o:=by
   rw[hN,List.map_take];have:=wT ((cS o).map bA) (i+1);omega
  rw[rN _ _ _ U,uV] at nW;refine kL.ld U ?_;refine ab.of (ih k nV (by omega) w3) ?_;rintro _ w4 ⟨rfl,f4⟩;refine⟨((bA k:Int),(dn k:Int),()),rfl,?_⟩;dsimp only;have SX:=BP k;refine⟨⟨i+1,by rw[wI (by omega) (by omega)];omega,by omega,?_,?_,f3.trans f4,kL.af f4⟩,by rw[wI (by omega) (by omega)];omega⟩
  ·rw[rN _ _ _ U,uV,wI (by omega) (by omega)]
   omega
  ·rw[rN _ _ _ U,SV]
   by_cases hm:uU (((cS o).take i).map dn)<dn k
   ·rw[if_pos (by omega)];omega
   ·rw[if_neg (by omega)];omega
 ·have:i=(cS o).length:=by omega
  subst this;rw[List.take_length];rw[List.take_length] at hle;have hd:=BP o;rw[hN];rw[hD] at hd ⊢;rw[wI (by omega) (by omega),wI (by omega) (by omega)];exact⟨by simp,f3⟩
termination_by SizeOf.sizeOf o
decreasing_by exact BG U
theorem K1 (o:Ob)(w:World):Ret Tryz.prog 263 #[o.v] w fun r w'=>r=.bool (cX o)/\Fr none1 w w':=by
 refine c263 o.v w _ ?_;have ih:∀ k∈cS o,∀ w,Ret Tryz.prog 263 #[k.v] w fun r w'=>r=.bool (cX k)/\Fr none1 w w':=fun k U w=>K1 k w;refine ab.of (KZ o w) ?_;rintro _ w1 ⟨rfl,f1⟩;refine⟨(_,_,()),rfl,aa.by (fun h=>?_) (fun h=>?_)⟩
 ·rw[(KY o h).2];exact⟨rfl,f1⟩
 rw[SS o h];refine ab.of (K0 o w1) ?_;rintro _ w2 ⟨rfl,f2⟩;refine⟨_,rfl,aa.not (aa.by (fun hn=>?_) (fun hn=>?_))⟩
 ·rw[hn];exact⟨rfl,f1.trans f2⟩
 rw[hn];refine ab.of (wU o w2) ?_;rintro _ w3 ⟨u,rfl,hu,f3⟩;refine⟨u,rfl,?_⟩;have dm:=hu.len;have y8:=BJ o
 -- is there one ab4 is not?
 have hc:Ret Tryz.prog 291 #[.slice u.1 u.2.1 u.2.2,.func (.func 292) #[] #[]] w3 fun r w'=>r=.bool ((cS o).any fun k=>!cX k)/\Fr none1 w3 w':=by
  refine c291 u.1 u.2.1 u.2.2 _ w3 _ ?_;have hx:Ret Tryz.prog 311 #[.slice u.1 u.2.1 u.2.2,.func (.func 292) #[] #[]] w3 fun r w'=>(∃ i:Int,r=.int .i64 i/\decide (i >= 0)=(cS o).any fun k=>!cX k)/\Fr none1 w3 w':=by
   refine c311 u.1 u.2.1 u.2.2 _ w3 _ ?_;refine bw.of (fun s w'=>∃ i:Nat,s.1=i/\i<=(cS o).length/\((cS o).take i).any (fun k=>!cX k)=false/\Fr none1 w3 w'/\lK w' u (cS o)) (fun s _=>(2 - s.1).toNat) ⟨0,rfl,Nat.zero_le _,rfl,Fr.refl _ _,hu⟩ ?_;rintro _ ⟨i',_⟩ w4 ⟨i,hi,ja,hall,f4,wW⟩;dsimp only at hi ⊢;subst hi;refine aa.dec (fun aS=>?_) (fun dQ=>?_)
   ·have fB:i<(cS o).length:=by omega
    obtain⟨k,U⟩:∃ k,(cS o)[i]? = some k:=⟨_,List.getElem?_eq_getElem fB⟩;refine wW.ld U ?_;have nV:=List.mem_of_getElem? U;have wX:Ret Tryz.prog 292 #[k.v] w4 fun r w'=>r=.bool (!cX k)/\Fr none1 w4 w':=by
     refine c292 k.v w4 _ ?_;refine ab.of (ih k nV w4) ?_;rintro _ w5 ⟨rfl,f5⟩;exact⟨_,rfl,rfl,f5⟩
    refine l0 (by kernel_rfl) Tryz.func292 (by kernel_rfl) (wX.mono ?_);rintro _ w5 ⟨rfl,f5⟩;refine⟨_,rfl,aa.by (fun hb=>?_) (fun hb=>?_)⟩
    ·refine⟨⟨(i:Int),rfl,?_⟩,f4.trans f5⟩
     rw[decide_eq_true (by omega),eq_comm,List.any_eq_true];exact⟨k,nV,hb⟩
    ·refine⟨⟨i+1,by rw[wI (by omega) (by omega)];omega,by omega,?_,f4.trans f5,wW.af f5⟩,by rw[wI (by omega) (by omega)];omega⟩
     rw[List.take_add_one,U,List.any_append,hall];simpa using hb
   ·refine⟨⟨-1,rfl,?_⟩,f4⟩
    rw[List.take_of_length_le (by omega)] at hall;rw[hall];rfl
  refine ab.of hx ?_;rintro _ w4 ⟨⟨i,rfl,hi⟩,f4⟩;exact⟨_,rfl,by rw[hi],f4⟩
 refine ab.of hc ?_;rintro _ w4 ⟨rfl,f4⟩;exact⟨_,rfl,by simp,((f1.trans f2).trans f3).trans f4⟩
termination_by SizeOf.sizeOf o
decreasing_by exact BG U
theorem E3 (o:Ob)(hn:bA o<=1000000)(w:World):Ret Tryz.prog 244 #[o.v] w fun r w'=>r=.int .i64 (uT o)/\Fr none1 w w':=by
 refine c244 o.v w _ ?_;refine ab.of (K1 o w) ?_;rintro _ w1 ⟨rfl,f1⟩;unfold uT;refine⟨_,rfl,aa.not (aa.by (fun h=>?_) (fun h=>?_))⟩
 case refine_2=>rw[if_pos h];exact⟨rfl,f1⟩
 rw[if_neg (by simp[h])];refine ab.of (E1 o hn w1) ?_;rintro _ w2 ⟨rfl,f2⟩;refine⟨((bA o:Int),(dn o:Int),()),rfl,?_⟩;dsimp only;refine aa.dec (fun h=>?_) (fun h=>?_)
 ·rw[if_pos (by omega)];exact⟨rfl,f1.trans f2⟩
 rw[if_neg (by omega)];refine aa.dec (fun h=>?_) (fun h=>?_)
 ·rw[if_pos (by omega)];exact⟨rfl,f1.trans f2⟩
 rw[if_neg (by omega)];exact⟨rfl,f1.trans f2⟩
def C229 (p0:Value)(w:World)(K:Value->World->Prop):Prop:=
 ao p0 237 (.agg [.raw]) (fun(x1:Value×Unit)=>ak (.cells #[.nilIface] 237) w (fun g2 w3=>ar (ad g2) [x1.1] w3 (fun w4=>ae .raw ((ad g2).add 0) w4 (fun(x5:Value)=>az Tryz.prog (Instr.buildSlice 370 1 #[(0,x5)]) w4 (.v (.one .aj)) (fun(x6:an) w7=>K (.slice x6.1 x6.2.1 x6.2.2) w7)))))
 (ak (.cells #[.nilIface] 237) w (fun g8 w9=>ar (ad g8) [.nilIface] w9 (fun aG=>ao p0 239 (.agg [.raw,.raw]) (fun(ba:Value×Value×Unit)=>ak (.cells #[.nilIface,.nilIface] 239) aG (fun g12 aW=>ar (ad g12) [ba.1,ba.2.1] aW (fun bm=>ae .raw ((ad g12).add 0) bm (fun(bj:Value)=>ae .raw ((ad g12).add 1) bm (fun(aQ:Value)=>az Tryz.prog (Instr.buildSlice 370 2 #[(0,bj),(1,aQ)]) bm (.v (.one .aj)) (fun(aX:an) bz=>K (.slice aX.1 aX.2.1 aX.2.2) bz))))))
 (ak (.cells #[.nilIface,.nilIface] 239) aG (fun g19 bo=>ar (ad g19) [.nilIface,.nilIface] bo (fun bB=>ao p0 241 (.agg [.str,.raw,.raw]) (fun(bR:ByteArray×Value×Value×Unit)=>ak (.cells #[.string (⟨#[]⟩:ByteArray),.nilIface,.nilIface] 241) bB (fun g23 cm=>ar (ad g23) [.string bR.1,bR.2.1,bR.2.2.1] cm (fun dk=>ae .raw ((ad g23).add 1) dk (fun(cZ:Value)=>ae .raw ((ad g23).add 2) dk (fun(cz:Value)=>az Tryz.prog (Instr.buildSlice 370 2 #[(0,cZ),(1,cz)]) dk (.v (.one .aj)) (fun(eN:an) et=>K (.slice eN.1 eN.2.1 eN.2.2) et))))))
 (ak (.cells #[.string (⟨#[]⟩:ByteArray),.nilIface,.nilIface] 241) bB (fun rO fh=>ar (ad rO) [.string (⟨#[]⟩:ByteArray),.nilIface,.nilIface] fh (fun cL=>ao p0 245 (.agg [.raw,.raw]) (fun(dp:Value×Value×Unit)=>ak (.cells #[.nilIface,.nilIface] 245) cL (fun uW dX=>ar (ad uW) [dp.1,dp.2.1] dX (fun cQ=>ae .raw ((ad uW).add 1) cQ (fun(gn:Value)=>az Tryz.prog (Instr.buildSlice 370 1 #[(0,gn)]) cQ (.v (.one .aj)) (fun(dF:an) eh=>K (.slice dF.1 dF.2.1 dF.2.2) eh)))))
 (ak (.cells #[.nilIface,.nilIface] 245) cL (fun y9 ll=>ar (ad y9) [.nilIface,.nilIface] ll (fun fM=>ao p0 247 (.agg [.int .i64,.raw]) (fun(jo:Int×Value×Unit)=>ak (.cells #[.int .i64 0,.nilIface] 247) fM (fun wY gK=>ar (ad wY) [.int .i64 jo.1,jo.2.1] gK (fun iq=>ae .raw ((ad wY).add 1) iq (fun(dA:Value)=>az Tryz.prog (Instr.buildSlice 370 1 #[(0,dA)]) iq (.v (.one .aj)) (fun(gY:an) tn=>K (.slice gY.1 gY.2.1 gY.2.2) tn)))))
 (ak (.cells #[.int .i64 0,.nilIface] 247) fM (fun SY jZ=>ar (ad SY) [.int .i64 0,.nilIface] jZ (fun gC=>ao p0 249 (.agg [.raw,.raw,.raw]) (fun(gq:Value×Value×Value×Unit)=>ak (.cells #[.nilIface,.nilIface,.nilIface] 249) gC (fun E4 gr=>ar (ad E4) [gq.1,gq.2.1,gq.2.2.1] gr (fun rP=>ae .raw ((ad E4).add 1) rP (fun(oM:Value)=>ae .raw ((ad E4).add 2) rP (fun(nX:Value)=>az Tryz.prog (Instr.buildSlice 370 2 #[(0,oM),(1,nX)]) rP (.v (.one .aj)) (fun(kj:an) qP=>K (.slice kj.1 kj.2.1 kj.2.2) qP))))))
 (ak (.cells #[.nilIface,.nilIface,.nilIface] 249) gC (fun na iP=>ar (ad na) [.nilIface,.nilIface,.nilIface] iP (fun oR=>K (.slice none 0 0) oR))))))))))))))))))
def pl229:aB:=.auto
theorem c229 (p0:Value)(w:World)(K:Value->World->Prop)(h:C229 p0 w K):Ret Tryz.prog 229 #[p0] w K:=aC (by kernel_rfl) Tryz.func229 (p:=pl229) (Eq.mpr (by kernel_rfl) h)
def C224 (p0:Value)(w:World)(K:Value->World->Prop):Prop:=
 ao p0 235 (.agg []) (fun(x1:Unit)=>K (.int .i64 1) w)
 (ao p0 216 (.agg [.str]) (fun(x2:ByteArray×Unit)=>K (.int .i64 2) w)
 (ao p0 237 (.agg [.raw]) (fun(x3:Value×Unit)=>K (.int .i64 3) w)
 (ao p0 239 (.agg [.raw,.raw]) (fun(x4:Value×Value×Unit)=>K (.int .i64 4) w)
 (ao p0 241 (.agg [.str,.raw,.raw]) (fun(x5:ByteArray×Value×Value×Unit)=>K (.int .i64 5) w)
 (ao p0 245 (.agg [.raw,.raw]) (fun(x6:Value×Value×Unit)=>K (.int .i64 6) w)
 (ao p0 247 (.agg [.int .i64,.raw]) (fun(x7:Int×Value×Unit)=>K (.int .i64 7) w)
 (ao p0 249 (.agg [.raw,.raw,.raw]) (fun(x8:Value×Value×Value×Unit)=>K (.int .i64 8) w)
 (K (.int .i64 0) w))))))))
def pl224:aB:=.auto
theorem c224 (p0:Value)(w:World)(K:Value->World->Prop)(h:C224 p0 w K):Ret Tryz.prog 224 #[p0] w K:=aC (by kernel_rfl) Tryz.func224 (p:=pl224) (Eq.mpr (by kernel_rfl) h)
def C225 (p0:Value)(w:World)(K:Value->World->Prop):Prop:=
 ao p0 216 (.agg [.str]) (fun(x1:ByteArray×Unit)=>ak (.cells #[.string (⟨#[]⟩:ByteArray)] 216) w (fun g2 w3=>ar (ad g2) [.string x1.1] w3 (fun w4=>ae .str ((ad g2).add 0) w4 (fun(x5:ByteArray)=>K (.tuple #[.string x5,.int .i64 0]) w4))))
 (ak (.cells #[.string (⟨#[]⟩:ByteArray)] 216) w (fun g6 w7=>ar (ad g6) [.string (⟨#[]⟩:ByteArray)] w7 (fun w8=>ao p0 241 (.agg [.str,.raw,.raw]) (fun(x9:ByteArray×Value×Value×Unit)=>ak (.cells #[.string (⟨#[]⟩:ByteArray),.nilIface,.nilIface] 241) w8 (fun g10 aO=>ar (ad g10) [.string x9.1,x9.2.1,x9.2.2.1] aO (fun aM=>ae .str ((ad g10).add 0) aM (fun(bD:ByteArray)=>K (.tuple #[.string bD,.int .i64 0]) aM))))
 (ak (.cells #[.string (⟨#[]⟩:ByteArray),.nilIface,.nilIface] 241) w8 (fun g14 bL=>ar (ad g14) [.string (⟨#[]⟩:ByteArray),.nilIface,.nilIface] bL (fun bn=>ao p0 247 (.agg [.int .i64,.raw]) (fun(aX:Int×Value×Unit)=>ak (.cells #[.int .i64 0,.nilIface] 247) bn (fun g18 bx=>ar (ad g18) [.int .i64 aX.1,aX.2.1] bx (fun bo=>aD bo (fun bB=>ae (.int .i64) ((ad g18).add 0) bB (fun(bR:Int)=>K (.tuple #[.string (⟨#[]⟩:ByteArray),.int .i64 bR]) bB)))))
 (ak (.cells #[.int .i64 0,.nilIface] 247) bn (fun g23 cm=>ar (ad g23) [.int .i64 0,.nilIface] cm (fun dk=>K (.tuple #[.string (⟨#[]⟩:ByteArray),.int .i64 0]) dk)))))))))
def pl225:aB:=(.seq .auto (.seq .auto (.seq .auto (.seq (.seq .auto (.seq .auto (.cond (.seq .still .auto) .auto))) .auto))))
theorem c225 (p0:Value)(w:World)(K:Value->World->Prop)(h:C225 p0 w K):Ret Tryz.prog 225 #[p0] w K:=aC (by kernel_rfl) Tryz.func225 (p:=pl225) (Eq.mpr (by kernel_rfl) h)
def C226 (p0:Value)(w:World)(K:Value->World->Prop):Prop:=
 ao p0 245 (.agg [.raw,.raw]) (fun(x1:Value×Value×Unit)=>ak (.cells #[.nilIface,.nilIface] 245) w (fun g2 w3=>ar (ad g2) [x1.1,x1.2.1] w3 (fun w4=>ae .raw ((ad g2).add 0) w4 (fun(x5:Value)=>K (.tuple #[x5,.bool true]) w4))))
 (ak (.cells #[.nilIface,.nilIface] 245) w (fun g6 w7=>ar (ad g6) [.nilIface,.nilIface] w7 (fun w8=>ao p0 249 (.agg [.raw,.raw,.raw]) (fun(x9:Value×Value×Value×Unit)=>ak (.cells #[.nilIface,.nilIface,.nilIface] 249) w8 (fun g10 aO=>ar (ad g10) [x9.1,x9.2.1,x9.2.2.1] aO (fun aM=>ae .raw ((ad g10).add 0) aM (fun(bD:Value)=>K (.tuple #[bD,.bool true]) aM))))
 (ak (.cells #[.nilIface,.nilIface,.nilIface] 249) w8 (fun g14 bL=>ar (ad g14) [.nilIface,.nilIface,.nilIface] bL (fun bn=>K (.tuple #[.nilIface,.bool false]) bn))))))
def pl226:aB:=.auto
theorem c226 (p0:Value)(w:World)(K:Value->World->Prop)(h:C226 p0 w K):Ret Tryz.prog 226 #[p0] w K:=aC (by kernel_rfl) Tryz.func226 (p:=pl226) (Eq.mpr (by kernel_rfl) h)
def C215 (p0:Value)(w:World)(K:Value->World->Prop):Prop:=
 ab Tryz.prog 224 #[p0] w (.v (.one (.int .i64))) (fun(x1:Int) w2=>aa (x1==0)
 (K (.tuple #[.int .i64 0,.int .i64 0]) w2)
 (cq (Int×Int×Unit) (fun J3=>ab Tryz.prog 226 #[p0] w2 (.aN [.one .raw,.one .bool]) (fun(x6:Value×Bool×Unit) w7=>aa x6.2.1
 (ab Tryz.prog 247 #[x6.1] w7 (.aN [.one (.int .i64),.one (.int .i64)]) (fun(x8:Int×Int×Unit) w9=>J3 (x8.1,x8.2.1,()) w9))
 (J3 (0,0,()) w7)))
 (fun _ s4 w5=>ab Tryz.prog 229 #[p0] w5 (.v (.one .aj)) (fun(aR:an) aO=>bw (Int×Int×Int×Unit) (fun _ fL aW yV=>aa (decide (fL.2.2.1<(aR.2.1:Int)))
 (bK aR.1 aR.2.1 fL.2.2.1 1 (fun uO=>ae .raw uO aW (fun(aQ:Value)=>ab Tryz.prog 215 #[aQ] aW (.aN [.one (.int .i64),.one (.int .i64)]) (fun(aX:Int×Int×Unit) bz=>yV (IntKind.i64.wrap (fL.1+aX.1),(if aX.2.1 > fL.2.1 then aX.2.1 else fL.2.1),IntKind.i64.wrap (fL.2.2.1+1),()) bz))))
 (K (.tuple #[.int .i64 (IntKind.i64.wrap (fL.1+1)),.int .i64 (IntKind.i64.wrap (fL.2.1+1))]) aW))
 (s4.1,s4.2.1,0,()) aO))))
def pl215:aB:=(.seq .auto (.seq .auto (.join [(2,.one (.int .i64)),(3,.one (.int .i64))] .auto (.seq (.seq .auto (.block (.loop [(2,.one (.int .i64)),(3,.one (.int .i64)),(27,.one (.int .i64))] .auto))) .auto))))
theorem c215 (p0:Value)(w:World)(K:Value->World->Prop)(h:C215 p0 w K):Ret Tryz.prog 215 #[p0] w K:=aC (by kernel_rfl) Tryz.func215 (p:=pl215) (Eq.mpr (by kernel_rfl) h)
def C214 (p0:Value)(w:World)(K:Value->World->Prop):Prop:=
 ab Tryz.prog 225 #[p0] w (.aN [.one .str,.one (.int .i64)]) (fun(x1:ByteArray×Int×Unit) w2=>cq (Bool×Unit) (fun J3=>ab Tryz.prog 224 #[p0] w2 (.v (.one (.int .i64))) (fun(x6:Int) w7=>ab Tryz.prog 224 #[.iface 216 (.agg #[.string (⟨#[]⟩:ByteArray)])] w7 (.v (.one (.int .i64))) (fun(x8:Int) w9=>aa (x6==x8)
 (J3 (true,()) w9)
 (ab Tryz.prog 224 #[p0] w9 (.v (.one (.int .i64))) (fun(aR:Int) aO=>ab Tryz.prog 224 #[.iface 241 (.agg #[.string (⟨#[]⟩:ByteArray),.nilIface,.nilIface])] aO (.v (.one (.int .i64))) (fun(bt:Int) aW=>J3 ((aR==bt),()) aW))))))
 (fun _ s4 w5=>cq (Bool×Unit) (fun wZ=>ab Tryz.prog 224 #[p0] w5 (.v (.one (.int .i64))) (fun(aX:Int) bz=>aa (aX==0)
 (wZ (true,()) bz)
 (aa s4.1
 (ab Tryz.prog 169 #[.string x1.1] bz (.v (.one .bool)) (fun(bu:Bool) bo=>aa (!bu)
 (wZ (true,()) bo)
 (aa (decide (x1.2.1<0))
 (wZ (true,()) bo)
 (wZ (decide (x1.2.1 > 10000),()) bo))))
 (aa (decide (x1.2.1<0))
 (wZ (true,()) bz)
 (wZ (decide (x1.2.1 > 10000),()) bz)))))
 (fun _ nS bn=>aa nS.1
 (K (.bool false) bn)
 (ab Tryz.prog 226 #[p0] bn (.aN [.one .raw,.one .bool]) (fun(bT:Value×Bool×Unit) bN=>aa bT.2.1
 (ab Tryz.prog 244 #[bT.1] bN (.v (.one (.int .i64))) (fun(cr:Int) cm=>aa (cr==2)
 (K (.bool false) cm)
 (ab Tryz.prog 229 #[p0] cm (.v (.one .aj)) (fun(bC:an) ct=>ab Tryz.prog 245 #[.slice bC.1 bC.2.1 bC.2.2,.func (.func 246) #[] #[]] ct (.v (.one .bool)) (fun(cz:Bool) bS=>K (.bool (!cz)) bS)))))
 (ab Tryz.prog 229 #[p0] bN (.v (.one .aj)) (fun(cx:an) bO=>ab Tryz.prog 245 #[.slice cx.1 cx.2.1 cx.2.2,.func (.func 246) #[] #[]] bO (.v (.one .bool)) (fun(bZ:Bool) cL=>K (.bool (!bZ)) cL))))))))
def pl214:aB:=(.seq .auto (.seq .auto (.join [(5,.one .bool)] .auto (.seq (.join [(45,.one .bool)] .auto .auto) .auto))))
theorem c214 (p0:Value)(w:World)(K:Value->World->Prop)(h:C214 p0 w K):Ret Tryz.prog 214 #[p0] w K:=aC (by kernel_rfl) Tryz.func214 (p:=pl214) (Eq.mpr (by kernel_rfl) h)
def C246 (p0:Value)(w:World)(K:Value->World->Prop):Prop:=
 ab Tryz.prog 214 #[p0] w (.v (.one .bool)) (fun(x1:Bool) w2=>K (.bool (!x1)) w2)
def pl246:aB:=.auto
theorem c246 (p0:Value)(w:World)(K:Value->World->Prop)(h:C246 p0 w K):Ret Tryz.prog 246 #[p0] w K:=aC (by kernel_rfl) Tryz.func246 (p:=pl246) (Eq.mpr (by kernel_rfl) h)
def C216 (p0:Value)(w:World)(K:Value->World->Prop):Prop:=
 cq (an×Unit) (fun J1=>ao p0 241 (.agg [.str,.raw,.raw]) (fun(x4:ByteArray×Value×Value×Unit)=>ak (.cells #[.string (⟨#[]⟩:ByteArray),.nilIface,.nilIface] 241) w (fun g5 w6=>ar (ad g5) [.string x4.1,x4.2.1,x4.2.2.1] w6 (fun w7=>ae .str ((ad g5).add 0) w7 (fun(x8:ByteArray)=>az Tryz.prog (Instr.buildSlice 51 1 #[(0,.string x8)]) w7 (.v (.one .aj)) (fun(x9:an) aG=>az Tryz.prog (Builtin.append_ #[51,51] 51 #[.slice none 0 0,.slice x9.1 x9.2.1 x9.2.2]) aG (.v (.one .aj)) (fun(ba:an) aM=>J1 ((ba.1,ba.2.1,ba.2.2),()) aM))))))
 (ak (.cells #[.string (⟨#[]⟩:ByteArray),.nilIface,.nilIface] 241) w (fun g13 bm=>ar (ad g13) [.string (⟨#[]⟩:ByteArray),.nilIface,.nilIface] bm (fun bL=>J1 ((none,0,0),()) bL))))
 (fun _ s2 w3=>ab Tryz.prog 229 #[p0] w3 (.v (.one .aj)) (fun(aQ:an) b9=>bw (an×Int×Unit) (fun _ oL bx S0=>aa (decide (oL.2.1<(aQ.2.1:Int)))
 (bK aQ.1 aQ.2.1 oL.2.1 1 (fun a21=>ae .raw a21 bx (fun(bR:Value)=>ab Tryz.prog 216 #[bR] bx (.v (.one .aj)) (fun(cr:an) cm=>az Tryz.prog (Builtin.append_ #[51,51] 51 #[.slice oL.1.1 oL.1.2.1 oL.1.2.2,.slice cr.1 cr.2.1 cr.2.2]) cm (.v (.one .aj)) (fun(bC:an) ct=>S0 ((bC.1,bC.2.1,bC.2.2),IntKind.i64.wrap (oL.2.1+1),()) ct)))))
 (K (.slice oL.1.1 oL.1.2.1 oL.1.2.2) bx))
 ((s2.1.1,s2.1.2.1,s2.1.2.2),0,()) b9))
def pl216:aB:=(.seq .auto (.seq .auto (.join [(3,.one .aj)] .auto (.seq (.seq .auto (.block (.loop [(3,.one .aj),(22,.one (.int .i64))] .auto))) .auto))))
theorem c216 (p0:Value)(w:World)(K:Value->World->Prop)(h:C216 p0 w K):Ret Tryz.prog 216 #[p0] w K:=aC (by kernel_rfl) Tryz.func216 (p:=pl216) (Eq.mpr (by kernel_rfl) h)
def C170 (p0:Value)(w:World)(K:Value->World->Prop):Prop:=
 ab Tryz.prog 214 #[p0] w (.v (.one .bool)) (fun(x1:Bool) w2=>aa (!x1)
 (K (.int .i64 2) w2)
 (ab Tryz.prog 215 #[p0] w2 (.aN [.one (.int .i64),.one (.int .i64)]) (fun(x3:Int×Int×Unit) w4=>aa (decide (x3.1 > 60))
 (K (.int .i64 5) w4)
 (aa (decide (x3.2.1 > 12))
 (K (.int .i64 5) w4)
 (ab Tryz.prog 216 #[p0] w4 (.v (.one .aj)) (fun(x5:an) w6=>bw (Int×Unit) (fun _ s7 w8 E5=>aa (decide (s7.1<(x5.2.1:Int)))
 (bK x5.1 x5.2.1 s7.1 1 (fun pQ=>ae .str pQ w8 (fun(ba:ByteArray)=>eX x5.1 x5.2.2 0 s7.1 x5.2.2 1 (fun a12 S1 c14=>ab Tryz.prog 217 #[.slice a12 S1 c14,.string ba] w8 (.v (.one .bool)) (fun(bj:Bool) bn=>aa bj
 (K (.int .i64 4) bn)
 (E5 (IntKind.i64.wrap (s7.1+1),()) bn))))))
 (K (.int .i64 0) w8))
 (0,()) w6))))))
def pl170:aB:=(.seq .auto (.seq .auto (.seq .auto (.seq .auto (.seq (.seq .auto (.block (.loop [(26,.one (.int .i64))] .auto))) .auto)))))
theorem c170 (p0:Value)(w:World)(K:Value->World->Prop)(h:C170 p0 w K):Ret Tryz.prog 170 #[p0] w K:=aC (by kernel_rfl) Tryz.func170 (p:=pl170) (Eq.mpr (by kernel_rfl) h)
def C245 (p0:Option Addr)(aH aP:Nat)(p1:Value)(w:World)(K:Value->World->Prop):Prop:=
 ab Tryz.prog 264 #[.slice p0 aH aP,p1] w (.v (.one (.int .i64))) (fun(x1:Int) w2=>K (.bool (decide (x1 >= 0))) w2)
def pl245:aB:=.auto
theorem c245 (p0:Option Addr)(aH aP:Nat)(p1:Value)(w:World)(K:Value->World->Prop)(h:C245 p0 aH aP p1 w K):Ret Tryz.prog 245 #[.slice p0 aH aP,p1] w K:=aC (by kernel_rfl) Tryz.func245 (p:=pl245) (Eq.mpr (by kernel_rfl) h)
def C264 (p0:Option Addr)(aH aP:Nat)(p1:Value)(w:World)(K:Value->World->Prop):Prop:=
 bw (Int×Unit) (fun _ s1 w2 gm=>aa (decide (s1.1<(aH:Int)))
 (bK p0 aH s1.1 1 (fun a4=>ae .raw a4 w2 (fun(x5:Value)=>kI Tryz.prog p1 [x5] (.v (.one .bool)) w2 (fun(x6:Bool) w7=>aa x6
 (K (.int .i64 s1.1) w7)
 (gm (IntKind.i64.wrap (s1.1+1),()) w7)))))
 (K (.int .i64 (-1)) w2))
 (0,()) w
def pl264:aB:=(.seq .auto (.seq (.seq .auto (.block (.loop [(8,.one (.int .i64))] .auto))) .auto))
theorem c264 (p0:Option Addr)(aH aP:Nat)(p1:Value)(w:World)(K:Value->World->Prop)(h:C264 p0 aH aP p1 w K):Ret Tryz.prog 264 #[.slice p0 aH aP,p1] w K:=aC (by kernel_rfl) Tryz.func264 (p:=pl264) (Eq.mpr (by kernel_rfl) h)
def C217 (p0:Option Addr)(aH aP:Nat)(p1:ByteArray)(w:World)(K:Value->World->Prop):Prop:=
 ab Tryz.prog 248 #[.slice p0 aH aP,.string p1] w (.v (.one (.int .i64))) (fun(x1:Int) w2=>K (.bool (decide (x1 >= 0))) w2)
def pl217:aB:=.auto
theorem c217 (p0:Option Addr)(aH aP:Nat)(p1:ByteArray)(w:World)(K:Value->World->Prop)(h:C217 p0 aH aP p1 w K):Ret Tryz.prog 217 #[.slice p0 aH aP,.string p1] w K:=aC (by kernel_rfl) Tryz.func217 (p:=pl217) (Eq.mpr (by kernel_rfl) h)
def C248 (p0:Option Addr)(aH aP:Nat)(p1:ByteArray)(w:World)(K:Value->World->Prop):Prop:=
 bw (Int×Unit) (fun _ s1 w2 gm=>aa (decide (s1.1<(aH:Int)))
 (bK p0 aH s1.1 1 (fun a4=>ae .str a4 w2 (fun(x5:ByteArray)=>aa (p1.toList==x5.toList)
 (K (.int .i64 s1.1) w2)
 (gm (IntKind.i64.wrap (s1.1+1),()) w2))))
 (K (.int .i64 (-1)) w2))
 (0,()) w
def pl248:aB:=(.seq .auto (.seq (.seq .auto (.block (.loop [(8,.one (.int .i64))] .auto))) .auto))
theorem c248 (p0:Option Addr)(aH aP:Nat)(p1:ByteArray)(w:World)(K:Value->World->Prop)(h:C248 p0 aH aP p1 w K):Ret Tryz.prog 248 #[.slice p0 aH aP,.string p1] w K:=aC (by kernel_rfl) Tryz.func248 (p:=pl248) (Eq.mpr (by kernel_rfl) h)
def jb:Tm->Int
 | .none=>0
 | .zero=>1
 | .one _=>2
 | .gD _=>3
 | .and _ _=>4
 | .or _ _ _=>5
 | .scale _ _=>6
 | .when _ _=>7
 | .cond _ _ _=>8
def ir:Tm->List UInt8×Int
 | .one s=>(s,0)
 | .or s _ _=>(s,0)
 | .when d _=>([],d)
 | _=>([],0)
def fC:Tm->Ob×Bool
 | .scale o _=>(o,true)
 | .cond o _ _=>(o,true)
 | _=>(.none,false)
def cI:Tm->Bool
 | .none=>false
 | .zero=>true
 | .one s=>eZ s
 | .gD t=>cI t
 | .and l r=>cI l&&cI r
 | .or s l r=>eZ s&&(cI l&&cI r)
 | .scale o t=>cX o&&cI t
 | .when d t=>decide (0<=d)&&decide (d<=10000)&&cI t
 | .cond o l r=>cX o&&(cI l&&cI r)
def aJ:Tm->Nat
 | .none=>0
 | .zero=>1
 | .one _=>1
 | .gD t=>aJ t+1
 | .and l r=>aJ l+aJ r+1
 | .or _ l r=>aJ l+aJ r+1
 | .scale o t=>bA o+aJ t+1
 | .when _ t=>aJ t+1
 | .cond o l r=>bA o+aJ l+aJ r+1
def cA:Tm->Nat
 | .none=>0
 | .zero=>1
 | .one _=>1
 | .gD t=>cA t+1
 | .and l r=>max (cA l) (cA r)+1
 | .or _ l r=>max (cA l) (cA r)+1
 | .scale o t=>max (dn o) (cA t)+1
 | .when _ t=>cA t+1
 | .cond o l r=>max (max (dn o) (cA l)) (cA r)+1
def fO:Tm->List (List UInt8)
 | .none=>[]
 | .zero=>[]
 | .one _=>[]
 | .gD t=>fO t
 | .and l r=>fO l++fO r
 | .or s l r=>s::(fO l++fO r)
 | .scale _ t=>fO t
 | .when _ t=>fO t
 | .cond _ l r=>fO l++fO r
def jJ (t:Tm):Int:=if cI t=false then 2 else if 60<aJ t then 5 else if 12<cA t then 5 else if(fO t).Nodup then 0 else 4
def rQ (t:Tm):Nat:=bA (fC t).1
def uX (t:Tm):Nat:=dn (fC t).1
def uY:Tm->List (List UInt8)
 | .or s _ _=>[s]
 | _=>[]
theorem E6 (t:Tm):(jb t=0)↔t=.none:=by cases t<;>simp[jb]
theorem E7 (t:Tm)(h:t≠.none):aJ t=rQ t+jv ((db t).map aJ)+1:=by cases t<;>simp[aJ,db,jv,rQ,fC,bA] at h ⊢<;>omega
theorem Ta (t:Tm)(h:t≠.none):cA t=((db t).map cA).foldl max (uX t)+1:=by
 cases t<;>simp only[cA,db,uX,fC,dn,List.map_cons,List.map_nil,List.foldl_cons,List.foldl_nil] at h ⊢
 all_goals first | omega | exact absurd rfl h
theorem Tb (t:Tm):fO t=uY t++(db t).flatMap fO:=by cases t<;>simp[fO,db,uY]
theorem K2 (t:Tm):cA t<=aJ t:=by
 induction t with
 | none=>exact Nat.le_refl _
 | zero=>exact Nat.le_refl _
 | one=>exact Nat.le_refl _
 | gD t ih=>unfold cA aJ;omega
 | when d t ih=>unfold cA aJ;omega
 | and l r a b=>unfold cA aJ;omega
 | or s l r a b=>unfold cA aJ;omega
 | scale o t ih=>unfold cA aJ;have:=BP o;omega
 | cond o l r a b=>unfold cA aJ;have:=BP o;omega
theorem K3 (t:Tm):(fO t).length<=aJ t:=by
 induction t with
 | none=>exact Nat.zero_le _
 | zero=>exact Nat.zero_le _
 | one=>exact Nat.zero_le _
 | gD t ih=>unfold fO aJ;omega
 | when d t ih=>unfold fO aJ;omega
 | and l r a b=>unfold fO aJ;rw[List.length_append];omega
 | or s l r a b=>unfold fO aJ;rw[List.length_cons,List.length_append];omega
 | scale o t ih=>unfold fO aJ;omega
 | cond o l r a b=>unfold fO aJ;rw[List.length_append];omega
def qQ (t:Tm):Bool:=!(decide (jb t=0))&&(!(decide (jb t=2\/jb t=5))||eZ (ir t).1)&&(decide (0<=(ir t).2)&&decide ((ir t).2<=10000))
theorem Tc (t:Tm):cI t=(qQ t&&(!(fC t).2||cX (fC t).1)&&!((db t).any fun k=>!cI k)):=by
 cases t<;>simp[cI,qQ,jb,ir,fC,db,Bool.and_assoc]
 all_goals rfl
theorem rR (t:Tm)(w:World):Ret Tryz.prog 224 #[t.v] w fun r w'=>r=.int .i64 (jb t)/\w=w':=by
 refine c224 t.v w _ ?_;unfold C224;cases t with
 | none=>exact ao.nil rfl (ao.nil rfl (ao.nil rfl (ao.nil rfl (ao.nil rfl (ao.nil rfl (ao.nil rfl (ao.nil rfl ⟨rfl,rfl⟩)))))))
 | zero=>exact ao.hit () rfl ⟨rfl,rfl⟩
 | one s=>exact ao.aL rfl (by decide) (ao.hit (str s,()) rfl ⟨rfl,rfl⟩)
 | gD t=>exact ao.aL rfl (by decide) (ao.aL rfl (by decide) (ao.hit (t.v,()) rfl ⟨rfl,rfl⟩))
 | and l r=>exact ao.aL rfl (by decide) (ao.aL rfl (by decide) (ao.aL rfl (by decide) (ao.hit (l.v,r.v,()) rfl ⟨rfl,rfl⟩)))
 | or s l r=>exact ao.aL rfl (by decide) (ao.aL rfl (by decide) (ao.aL rfl (by decide) (ao.aL rfl (by decide) (ao.hit (str s,l.v,r.v,()) rfl ⟨rfl,rfl⟩))))
 | scale o t=>exact ao.aL rfl (by decide) (ao.aL rfl (by decide) (ao.aL rfl (by decide) (ao.aL rfl (by decide) (ao.aL rfl (by decide) (ao.hit (o.v,t.v,()) rfl ⟨rfl,rfl⟩)))))
 | when d t=>exact ao.aL rfl (by decide) (ao.aL rfl (by decide) (ao.aL rfl (by decide) (ao.aL rfl (by decide) (ao.aL rfl (by decide) (ao.aL rfl (by decide) (ao.hit (d,t.v,()) rfl ⟨rfl,rfl⟩))))))
 | cond o l r=>exact ao.aL rfl (by decide) (ao.aL rfl (by decide) (ao.aL rfl (by decide) (ao.aL rfl (by decide) (ao.aL rfl (by decide) (ao.aL rfl (by decide) (ao.aL rfl (by decide) (ao.hit (o.v,l.v,r.v,()) rfl ⟨rfl,rfl⟩)))))))
def rS (v:Value)(t:TypeId):Prop:=v=.nilIface\/∃ u x,v=.iface u x/\u≠t
theorem rS.ta {v:Value}{t:TypeId}{k:Kd}{yes:k.C->Prop}{no:Prop}(h:rS v t)(hn:no):ao v t k yes no:=⟨.inr ⟨h,hn⟩⟩
theorem Tm.Td {t:Tm}(h:∀ s,t≠.one s):rS t.v 216:=by cases t<;>first | exact .inl rfl | exact .inr ⟨_,_,rfl,by decide⟩ | exact absurd rfl (h _)
theorem Tm.not_or {t:Tm}(h:∀ s l r,t≠.or s l r):rS t.v 241:=by cases t<;>first | exact .inl rfl | exact .inr ⟨_,_,rfl,by decide⟩ | exact absurd rfl (h _ _ _)
theorem Tm.K4 {t:Tm}(h:∀ d u,t≠.when d u):rS t.v 247:=by cases t<;>first | exact .inl rfl | exact .inr ⟨_,_,rfl,by decide⟩ | exact absurd rfl (h _ _)
theorem Tm.K5 {t:Tm}(h:∀ o u,t≠.scale o u):rS t.v 245:=by cases t<;>first | exact .inl rfl | exact .inr ⟨_,_,rfl,by decide⟩ | exact absurd rfl (h _ _)
theorem Tm.K6 {t:Tm}(h:∀ o l r,t≠.cond o l r):rS t.v 249:=by cases t<;>first | exact .inl rfl | exact .inr ⟨_,_,rfl,by decide⟩ | exact absurd rfl (h _ _ _)
theorem Tm.Te {t:Tm}(h:∀ u,t≠.gD u):rS t.v 237:=by cases t<;>first | exact .inl rfl | exact .inr ⟨_,_,rfl,by decide⟩ | exact absurd rfl (h _)
theorem Tm.not_and {t:Tm}(h:∀ l r,t≠.and l r):rS t.v 239:=by cases t<;>first | exact .inl rfl | exact .inr ⟨_,_,rfl,by decide⟩ | exact absurd rfl (h _ _)
theorem pR {w w0:World}{T:TypeId}{zs:List Value}{K:World->Prop}(f0:Fr none1 w w0)(h1:zs.all bI=true)(h:∀ w4,Fr none1 w w4->K w4):ak (.cells zs.toArray T) w0 (fun g w3=>ar ⟨g,0,none⟩ zs w3 fun w4=>K w4):=
 mq rfl h1 fun w4 f=>h w4 (f0.trans f)
theorem E8 (t:Tm)(w:World):Ret Tryz.prog 225 #[t.v] w fun r w'=>r=.tuple #[.string (str (ir t).1),.int .i64 (ir t).2]/\Fr none1 w w':=by
 refine c225 t.v w _ ?_;unfold C225;have f0:=Fr.refl none1 w;have z1:∀ {K:World->Prop},(∀ w4,Fr none1 w w4->K w4)->ak (.cells #[.string (⟨#[]⟩:ByteArray)] 216) w (fun g w3=>ar ⟨g,0,none⟩ [.string (⟨#[]⟩:ByteArray)] w3 fun w4=>K w4):=fun h=>pR (zs:=[.string (⟨#[]⟩:ByteArray)]) f0 rfl h;have z2:∀ {w0:World} {K:World->Prop},Fr none1 w w0->(∀ w4,Fr none1 w w4->K w4)->ak (.cells #[.string (⟨#[]⟩:ByteArray),.nilIface,.nilIface] 241) w0 (fun g w3=>ar ⟨g,0,none⟩ [.string (⟨#[]⟩:ByteArray),.nilIface,.nilIface] w3 fun w4=>K w4):=fun f h=>pR (zs:=[.string (⟨#[]⟩:ByteArray),.nilIface,.nilIface]) f rfl h;have z3:∀ {w0:World} {K:World->Prop},Fr none1 w w0->(∀ w4,Fr none1 w w4->K w4)->ak (.cells #[.int .i64 0,.nilIface] 247) w0 (fun g w3=>ar ⟨g,0,none⟩ [.int .i64 0,.nilIface] w3 fun w4=>K w4):=fun f h=>pR (zs:=[.int .i64 0,.nilIface]) f rfl h;have rest:((∀ s,t≠.one s)/\(∀ s l r,t≠.or s l r)/\∀ d u,t≠.when d u)->ir t=([],0):=by rintro⟨a,b,c⟩;cases t<;>first | rfl | exact absurd rfl (a _) | exact absurd rfl (b _ _ _) | exact absurd rfl (c _ _)
 by_cases h1:∃ s,t=.one s
 ·obtain⟨s,rfl⟩:=h1
  exact ao.hit (str s,()) rfl (cK (zs:=[.string (⟨#[]⟩:ByteArray)]) (vs:=[.string (str s)]) rfl rfl fun g w1 _ hb f1=>ae.ah hb (x:=str s) rfl ⟨rfl,f1⟩)
 have h1:∀ s,t≠.one s:=fun s e=>h1 ⟨s,e⟩;refine(Tm.Td h1).ta (z1 fun w1 f1=>?_)
 by_cases h2:∃ s l r,t=.or s l r
 ·obtain⟨s,l,r,rfl⟩:=h2
  exact ao.hit (str s,l.v,r.v,()) rfl (cK (zs:=[.string (⟨#[]⟩:ByteArray),.nilIface,.nilIface]) (vs:=[.string (str s),l.v,r.v]) rfl (by simp[Tm.bU,oP]) fun g w2 _ hb f2=>ae.ah hb (x:=str s) rfl ⟨rfl,f1.trans f2⟩)
 have h2:∀ s l r,t≠.or s l r:=fun s l r e=>h2 ⟨s,l,r,e⟩;refine(Tm.not_or h2).ta (z2 f1 fun w2 f2=>?_)
 by_cases h3:∃ d u,t=.when d u
 ·obtain⟨d,u,rfl⟩:=h3
  refine ao.hit (d,u.v,()) rfl (cK (zs:=[.int .i64 0,.nilIface]) (vs:=[.int .i64 d,u.v]) rfl (by simp[Tm.bU,pP]) fun g w3 _ hb f3=>?_);refine aD.of fun w4 hh f4=>?_;exact ae.ah (f4.af hb) (x:=d) rfl ⟨rfl,(f2.trans f3).trans f4⟩
 have h3:∀ d u,t≠.when d u:=fun d u e=>h3 ⟨d,u,e⟩;refine(Tm.K4 h3).ta (z3 f2 fun w3 f3=>?_);rw[rest ⟨h1,h2,h3⟩];exact⟨rfl,f3⟩
theorem BQ (t:Tm)(w:World):Ret Tryz.prog 226 #[t.v] w fun r w'=>r=.tuple #[(fC t).1.v,.bool (fC t).2]/\Fr none1 w w':=by
 refine c226 t.v w _ ?_;unfold C226;have f0:=Fr.refl none1 w;have z1:∀ {K:World->Prop},(∀ w4,Fr none1 w w4->K w4)->ak (.cells #[.nilIface,.nilIface] 245) w (fun g w3=>ar ⟨g,0,none⟩ [.nilIface,.nilIface] w3 fun w4=>K w4):=fun h=>pR (zs:=[.nilIface,.nilIface]) f0 rfl h;have z2:∀ {w0:World} {K:World->Prop},Fr none1 w w0->(∀ w4,Fr none1 w w4->K w4)->ak (.cells #[.nilIface,.nilIface,.nilIface] 249) w0 (fun g w3=>ar ⟨g,0,none⟩ [.nilIface,.nilIface,.nilIface] w3 fun w4=>K w4):=fun f h=>pR (zs:=[.nilIface,.nilIface,.nilIface]) f rfl h;have rest:((∀ o u,t≠.scale o u)/\∀ o l r,t≠.cond o l r)->fC t=(.none,false):=by rintro⟨a,b⟩;cases t<;>first | rfl | exact absurd rfl (a _ _) | exact absurd rfl (b _ _ _)
 by_cases h1:∃ o u,t=.scale o u
 ·obtain⟨o,u,rfl⟩:=h1
  exact ao.hit (o.v,u.v,()) rfl (cK (zs:=[.nilIface,.nilIface]) (vs:=[o.v,u.v]) rfl (by simp[Tm.bU,Ob.bU]) fun g w1 _ hb f1=>ae.ah (c:=.raw) hb (x:=o.v) rfl ⟨rfl,f1⟩)
 have h1:∀ o u,t≠.scale o u:=fun o u e=>h1 ⟨o,u,e⟩;refine(Tm.K5 h1).ta (z1 fun w1 f1=>?_)
 by_cases h2:∃ o l r,t=.cond o l r
 ·obtain⟨o,l,r,rfl⟩:=h2
  exact ao.hit (o.v,l.v,r.v,()) rfl (cK (zs:=[.nilIface,.nilIface,.nilIface]) (vs:=[o.v,l.v,r.v]) rfl (by simp[Tm.bU,Ob.bU]) fun g w2 _ hb f2=>ae.ah (c:=.raw) hb (x:=o.v) rfl ⟨rfl,f1.trans f2⟩)
 have h2:∀ o l r,t≠.cond o l r:=fun o l r e=>h2 ⟨o,l,r,e⟩;refine(Tm.K6 h2).ta (z2 f1 fun w2 f2=>?_);rw[rest ⟨h1,h2⟩];exact⟨rfl,f2⟩
theorem za (t:Tm)(w:World):Ret Tryz.prog 229 #[t.v] w fun r w'=>∃ u:Sl,r=.slice u.1 u.2.1 u.2.2/\mZ w' u (db t)/\Fr none1 w w'/\∀ k,aw u k->w.heap.size<=k:=by
 refine c229 t.v w _ ?_;unfold C229;have f0:=Fr.refl none1 w;have zn:∀ {w0:World} {T:TypeId} {K:World->Prop},Fr none1 w w0->(∀ w4,Fr none1 w w4->K w4)->ak (.cells #[.nilIface] T) w0 (fun g w3=>ar ⟨g,0,none⟩ [.nilIface] w3 fun w4=>K w4):=fun f h=>pR (zs:=[.nilIface]) f rfl h;have K7:∀ {w0:World} {T:TypeId} {K:World->Prop},Fr none1 w w0->(∀ w4,Fr none1 w w4->K w4)->ak (.cells #[.nilIface,.nilIface] T) w0 (fun g w3=>ar ⟨g,0,none⟩ [.nilIface,.nilIface] w3 fun w4=>K w4):=fun f h=>pR (zs:=[.nilIface,.nilIface]) f rfl h;have Tf:∀ {w0:World} {T:TypeId} {K:World->Prop},Fr none1 w w0->(∀ w4,Fr none1 w w4->K w4)->ak (.cells #[.string (⟨#[]⟩:ByteArray),.nilIface,.nilIface] T) w0 (fun g w3=>ar ⟨g,0,none⟩ [.string (⟨#[]⟩:ByteArray),.nilIface,.nilIface] w3 fun w4=>K w4):=fun f h=>pR (zs:=[.string (⟨#[]⟩:ByteArray),.nilIface,.nilIface]) f rfl h;have Tg:∀ {w0:World} {T:TypeId} {K:World->Prop},Fr none1 w w0->(∀ w4,Fr none1 w w4->K w4)->ak (.cells #[.int .i64 0,.nilIface] T) w0 (fun g w3=>ar ⟨g,0,none⟩ [.int .i64 0,.nilIface] w3 fun w4=>K w4):=fun f h=>pR (zs:=[.int .i64 0,.nilIface]) f rfl h;have Th:∀ {w0:World} {T:TypeId} {K:World->Prop},Fr none1 w w0->(∀ w4,Fr none1 w w4->K w4)->ak (.cells #[.nilIface,.nilIface,.nilIface] T) w0 (fun g w3=>ar ⟨g,0,none⟩ [.nilIface,.nilIface,.nilIface] w3 fun w4=>K w4):=fun f h=>pR (zs:=[.nilIface,.nilIface,.nilIface]) f rfl h;have rest:(∀ u,t≠.gD u)->(∀ l r,t≠.and l r)->(∀ s l r,t≠.or s l r)->(∀ o u,t≠.scale o u)->(∀ d u,t≠.when d u)->(∀ o l r,t≠.cond o l r)->db t=[]:=by
  intro a b c d e f;cases t<;>first | rfl | exact absurd rfl (a _) | exact absurd rfl (b _ _) | exact absurd rfl (c _ _ _) | exact absurd rfl (d _ _) | exact absurd rfl (e _ _) | exact absurd rfl (f _ _ _)
 by_cases h1:∃ u,t=.gD u
 ·obtain⟨u,rfl⟩:=h1
  exact ao.hit (u.v,()) rfl (BM (zs:=[.nilIface]) (vs:=[u.v]) wR rfl (by simp[Tm.bU]) rfl u.fN fun x w' hx _ f xf=>⟨x,rfl,hx,f,xf⟩)
 have h1:∀ u,t≠.gD u:=fun u e=>h1 ⟨u,e⟩;refine(Tm.Te h1).ta (zn f0 fun w1 f1=>?_)
 by_cases h2:∃ l r,t=.and l r
 ·obtain⟨l,r,rfl⟩:=h2
  exact ao.hit (l.v,r.v,()) rfl (BN (zs:=[.nilIface,.nilIface]) (vs:=[l.v,r.v]) wR rfl (by simp[Tm.bU]) rfl rfl l.fN r.fN fun x w' hx _ f xf=>⟨x,rfl,hx,f1.trans f,fun k U=>Nat.le_trans f1.size (xf k U)⟩)
 have h2:∀ l r,t≠.and l r:=fun l r e=>h2 ⟨l,r,e⟩;refine(Tm.not_and h2).ta (K7 f1 fun w2 f2=>?_)
 by_cases h3:∃ s l r,t=.or s l r
 ·obtain⟨s,l,r,rfl⟩:=h3
  exact ao.hit (str s,l.v,r.v,()) rfl (BN (zs:=[.string (⟨#[]⟩:ByteArray),.nilIface,.nilIface]) (vs:=[.string (str s),l.v,r.v]) wR rfl (by simp[Tm.bU,oP]) rfl rfl l.fN r.fN fun x w' hx _ f xf=>⟨x,rfl,hx,f2.trans f,fun k U=>Nat.le_trans f2.size (xf k U)⟩)
 have h3:∀ s l r,t≠.or s l r:=fun s l r e=>h3 ⟨s,l,r,e⟩;refine(Tm.not_or h3).ta (Tf f2 fun w3 f3=>?_)
 by_cases h4:∃ o u,t=.scale o u
 ·obtain⟨o,u,rfl⟩:=h4
  exact ao.hit (o.v,u.v,()) rfl (BM (zs:=[.nilIface,.nilIface]) (vs:=[o.v,u.v]) wR rfl (by simp[Tm.bU,Ob.bU]) rfl u.fN fun x w' hx _ f xf=>⟨x,rfl,hx,f3.trans f,fun k U=>Nat.le_trans f3.size (xf k U)⟩)
 have h4:∀ o u,t≠.scale o u:=fun o u e=>h4 ⟨o,u,e⟩;refine(Tm.K5 h4).ta (K7 f3 fun w4 f4=>?_)
 by_cases h5:∃ d u,t=.when d u
 ·obtain⟨d,u,rfl⟩:=h5
  exact ao.hit (d,u.v,()) rfl (BM (zs:=[.int .i64 0,.nilIface]) (vs:=[.int .i64 d,u.v]) wR rfl (by simp[Tm.bU,pP]) rfl u.fN fun x w' hx _ f xf=>⟨x,rfl,hx,f4.trans f,fun k U=>Nat.le_trans f4.size (xf k U)⟩)
 have h5:∀ d u,t≠.when d u:=fun d u e=>h5 ⟨d,u,e⟩;refine(Tm.K4 h5).ta (Tg f4 fun w5 f5=>?_)
 by_cases h6:∃ o l r,t=.cond o l r
 ·obtain⟨o,l,r,rfl⟩:=h6
  exact ao.hit (o.v,l.v,r.v,()) rfl (BN (zs:=[.nilIface,.nilIface,.nilIface]) (vs:=[o.v,l.v,r.v]) wR rfl (by simp[Tm.bU,Ob.bU]) rfl rfl l.fN r.fN fun x w' hx _ f xf=>⟨x,rfl,hx,f5.trans f,fun k U=>Nat.le_trans f5.size (xf k U)⟩)
 have h6:∀ o l r,t≠.cond o l r:=fun o l r e=>h6 ⟨o,l,r,e⟩;refine(Tm.K6 h6).ta (Th f5 fun w6 f6=>?_);rw[rest h1 h2 h3 h4 h5 h6];exact⟨_,rfl,SO _,f6,fun k t=>(ko k t).elim⟩
theorem Ti (l:List Nat)(b n:Nat):(l++[n]).foldl max b=max (l.foldl max b) n:=by rw[List.foldl_append];rfl
theorem K8 (t:Tm)(hn:aJ t<=1000000)(w:World):Ret Tryz.prog 215 #[t.v] w fun r w'=>r=.tuple #[.int .i64 (aJ t:Int),.int .i64 (cA t:Int)]/\Fr none1 w w':=by
 refine c215 t.v w _ ?_;have ih:∀ k∈db t,aJ k<=1000000->∀ w,Ret Tryz.prog 215 #[k.v] w fun r w'=>r=.tuple #[.int .i64 (aJ k:Int),.int .i64 (cA k:Int)]/\Fr none1 w w':=fun k U hn w=>K8 k hn w;refine ab.of (rR t w) ?_;rintro _ _ ⟨rfl,rfl⟩;refine⟨_,rfl,aa.eq (fun h=>?_) (fun h=>?_)⟩
 ·rw[E6] at h
  subst h;exact⟨rfl,Fr.refl _ _⟩
 rw[Ne,E6] at h;have hN:=E7 t h;have hD:=Ta t h;refine cq.of (fun s w'=>s=((rQ t:Int),(uX t:Int),())/\Fr none1 w w') ?_ ?_
 ·refine ab.of (BQ t w) ?_
  rintro _ w1 ⟨rfl,f1⟩;refine⟨((fC t).1.v,(fC t).2,()),rfl,aa.by (fun hb=>?_) (fun hb=>?_)⟩
  ·refine ab.of (E1 (fC t).1 (by unfold rQ at hN;omega) w1) ?_
   rintro _ w2 ⟨rfl,f2⟩;exact⟨((rQ t:Int),(uX t:Int),()),rfl,rfl,f1.trans f2⟩
  ·refine⟨?_,f1⟩
   have:fC t=(.none,false):=by cases t<;>first | rfl | exact absurd hb (by simp[fC])
   unfold rQ uX;rw[this];rfl
 rintro _ s w1 ⟨rfl,f1⟩;dsimp only;refine ab.of (za t w1) ?_;rintro _ w2 ⟨u,rfl,hu,f2,uf⟩;refine⟨u,rfl,?_⟩;have dm:=hu.len;have y8:=BK t;refine bw.of (fun s w'=>∃ i:Nat,s.2.2.1=i/\i<=(db t).length/\s.1=((rQ t+jv (((db t).take i).map aJ):Nat):Int)/\s.2.1=((((db t).take i).map cA).foldl max (uX t):Nat)/\Fr none1 w w'/\mZ w' u (db t)) (fun s _=>(2 - s.2.2.1).toNat)
  ⟨0,rfl,Nat.zero_le _,rfl,rfl,f1.trans f2,hu⟩ ?_
 rintro _ ⟨a,b,i',_⟩ w3 ⟨i,hi,ja,ha,hb,f3,kL⟩;dsimp only at hi ha hb ⊢;subst hi ha hb;have hle:∀ i,jv (((db t).take i).map aJ)+rQ t<=aJ t:=fun i=>by
  rw[hN,List.map_take];have:=wT ((db t).map aJ) i;omega
 have Tj:=hle i;refine aa.dec (fun aS=>?_) (fun dQ=>?_)
 ·have fB:i<(db t).length:=by omega
  obtain⟨k,U⟩:∃ k,(db t)[i]? = some k:=⟨_,List.getElem?_eq_getElem fB⟩;have nV:=List.mem_of_getElem? U;have nW:=hle (i+1);rw[rN _ _ _ U,uV] at nW;refine kL.ld U ?_;refine ab.of (ih k nV (by omega) w3) ?_;rintro _ w4 ⟨rfl,f4⟩;refine⟨((aJ k:Int),(cA k:Int),()),rfl,?_⟩;dsimp only;have SX:=K2 k;refine⟨⟨i+1,by rw[wI (by omega) (by omega)];omega,by omega,?_,?_,f3.trans f4,kL.af f4⟩,by rw[wI (by omega) (by omega)];omega⟩
  ·rw[rN _ _ _ U,uV,wI (by omega) (by omega)]
   omega
  ·rw[rN _ _ _ U,Ti]
   by_cases hm:(((db t).take i).map cA).foldl max (uX t)<cA k
   ·rw[if_pos (by omega)];omega
   ·rw[if_neg (by omega)];omega
 ·have:i=(db t).length:=by omega
  subst this;rw[List.take_length];rw[List.take_length] at Tj;have hd:=K2 t;rw[hN];rw[hD] at hd ⊢;rw[wI (by omega) (by omega),wI (by omega) (by omega)];exact⟨by simp,f3⟩
termination_by SizeOf.sizeOf t
decreasing_by exact BI U
theorem K9 (t:Tm)(hn:aJ t<=1000000)(w:World):Ret Tryz.prog 214 #[t.v] w fun r w'=>r=.bool (cI t)/\Fr none1 w w':=by
 refine c214 t.v w _ ?_;unfold C214;have ih:∀ k∈db t,aJ k<=1000000->∀ w,Ret Tryz.prog 214 #[k.v] w fun r w'=>r=.bool (cI k)/\Fr none1 w w':=fun k U hn w=>K9 k hn w;have Tk:∀ w,Ret Tryz.prog 224 #[.iface 216 (.agg #[.string (⟨#[]⟩:ByteArray)])] w fun r w'=>r=.int .i64 2/\w=w':=fun w=>rR (.one []) w;have Tl:∀ w,Ret Tryz.prog 224 #[.iface 241 (.agg #[.string (⟨#[]⟩:ByteArray),.nilIface,.nilIface])] w fun r w'=>r=.int .i64 5/\w=w':=fun w=>rR (.or [] .none .none) w;refine ab.of (E8 t w) ?_;rintro _ w1 ⟨rfl,f1⟩;refine⟨(str (ir t).1,(ir t).2,()),rfl,?_⟩;dsimp only;refine cq.of (fun s w'=>s.1=decide (jb t=2\/jb t=5)/\w1=w') ?_ ?_
 ·refine ab.of (rR t w1) ?_
  rintro _ _ ⟨rfl,rfl⟩;refine⟨_,rfl,?_⟩;refine ab.of (Tk w1) ?_;rintro _ _ ⟨rfl,rfl⟩;refine⟨_,rfl,aa.eq (fun h=>⟨by rw[decide_eq_true (.inl h)],rfl⟩) (fun h=>?_)⟩;refine ab.of (rR t w1) ?_;rintro _ _ ⟨rfl,rfl⟩;refine⟨_,rfl,?_⟩;refine ab.of (Tl w1) ?_;rintro _ _ ⟨rfl,rfl⟩;refine⟨_,rfl,?_,rfl⟩;dsimp only
  by_cases h5:jb t=5
  ·rw[decide_eq_true (.inr h5),h5];rfl
  ·rw[decide_eq_false (by rintro(h' | h')<;>contradiction)];simpa using h5
 rintro _ ⟨s,_⟩ _ ⟨hs,rfl⟩;dsimp only at hs ⊢;subst hs;have ab5:∀ w2,Fr none1 w w2->(aa (decide ((ir t).2<0)) True True->True):=fun _ _ _=>trivial;refine cq.of (fun s w'=>s.1=!qQ t/\Fr none1 w w') ?_ ?_
 ·refine ab.of (rR t w1) ?_
  rintro _ _ ⟨rfl,rfl⟩;have days:∀ w2,Fr none1 w w2->jb t≠0->(decide (jb t=2\/jb t=5)=true->eZ (ir t).1=true)->aa (decide ((ir t).2<0)) (true=(!qQ t)/\Fr none1 w w2) (decide ((ir t).2 > 10000)=(!qQ t)/\Fr none1 w w2):=fun w2 f2 h0 jU=>by
   have e:qQ t=(decide (0<=(ir t).2)&&decide ((ir t).2<=10000)):=by
    unfold qQ;rw[decide_eq_false h0];cases hd:decide (jb t=2\/jb t=5) with
    | true=>rw[jU hd];rfl
    | false=>rfl
   rw[e];refine aa.dec (fun h=>⟨?_,f2⟩) (fun h=>⟨?_,f2⟩)
   ·rw[decide_eq_false (p:=0<=(ir t).2) (by omega)];rfl
   ·rw[decide_eq_true (p:=0<=(ir t).2) (by omega),Bool.true_and]
    by_cases h2:(ir t).2<=10000
    ·rw[decide_eq_true h2,decide_eq_false (by omega)];rfl
    ·rw[decide_eq_false h2,decide_eq_true (by omega)];rfl
  refine⟨_,rfl,aa.eq (fun h=>⟨?_,f1⟩) (fun h=>?_)⟩
  ·dsimp only;unfold qQ;rw[decide_eq_true h];rfl
  refine aa.by (fun kc=>?_) (fun kc=>?_)
  ·refine ab.of (uK (ir t).1 w1) ?_
   rintro _ w2 ⟨rfl,f2⟩;refine⟨_,rfl,aa.not (aa.by (fun jU=>?_) (fun jU=>?_))⟩
   ·exact days w2 (f1.trans f2) h fun _=>jU
   ·refine⟨?_,f1.trans f2⟩
    dsimp only;unfold qQ eZ;rw[kc,jU];simp
  ·exact days w1 f1 h fun e=>by rw[kc] at e;cases e
 rintro _ ⟨s,_⟩ w2 ⟨hs,f2⟩;dsimp only at hs ⊢;subst hs;rw[Tc t];refine aa.not (aa.by (fun ho=>?_) (fun ho=>?_))
 case refine_2=>rw[ho];exact⟨rfl,f2⟩
 rw[ho,Bool.true_and];have hnd:t≠.none:=fun e=>by rw[e] at ho;exact absurd ho (by simp[qQ,jb])
 have hN:=E7 t hnd;have kids:∀ w3,Fr none1 w w3->ab Tryz.prog 229 #[t.v] w3 (.v (.one .aj)) (fun(bC:Option Addr×Nat×Nat) ct=>ab Tryz.prog 245 #[.slice bC.1 bC.2.1 bC.2.2,.func (.func 246) #[] #[]] ct (.v (.one .bool)) (fun(cz:Bool) bS=>
   (.bool (!cz):Value)=.bool (true&&!((db t).any fun k=>!cI k))/\Fr none1 w bS)):=fun w3 f3=>by
  refine ab.of (za t w3) ?_;rintro _ w4 ⟨u,rfl,hu,f4,_⟩;refine⟨u,rfl,?_⟩;have dm:=hu.len;have y8:=BK t;have hc:Ret Tryz.prog 245 #[.slice u.1 u.2.1 u.2.2,.func (.func 246) #[] #[]] w4 fun r w'=>r=.bool ((db t).any fun k=>!cI k)/\Fr none1 w4 w':=by
   refine c245 u.1 u.2.1 u.2.2 _ w4 _ ?_;have hx:Ret Tryz.prog 264 #[.slice u.1 u.2.1 u.2.2,.func (.func 246) #[] #[]] w4 fun r w'=>(∃ i:Int,r=.int .i64 i/\decide (i >= 0)=(db t).any fun k=>!cI k)/\Fr none1 w4 w':=by
    refine c264 u.1 u.2.1 u.2.2 _ w4 _ ?_;refine bw.of (fun s w'=>∃ i:Nat,s.1=i/\i<=(db t).length/\((db t).take i).any (fun k=>!cI k)=false/\Fr none1 w4 w'/\mZ w' u (db t)) (fun s _=>(2 - s.1).toNat) ⟨0,rfl,Nat.zero_le _,rfl,Fr.refl _ _,hu⟩ ?_;rintro _ ⟨i',_⟩ w5 ⟨i,hi,ja,hall,f5,qR⟩;dsimp only at hi ⊢;subst hi;refine aa.dec (fun aS=>?_) (fun dQ=>?_)
    ·have fB:i<(db t).length:=by omega
     obtain⟨k,U⟩:∃ k,(db t)[i]? = some k:=⟨_,List.getElem?_eq_getElem fB⟩;refine qR.ld U ?_;have nV:=List.mem_of_getElem? U;have nW:aJ k<=1000000:=by
      have:=wT ((db t).map aJ) (i+1);rw[<- List.map_take,rN _ _ _ U,uV] at this;omega
     have wX:Ret Tryz.prog 246 #[k.v] w5 fun r w'=>r=.bool (!cI k)/\Fr none1 w5 w':=by
      refine c246 k.v w5 _ ?_;refine ab.of (ih k nV nW w5) ?_;rintro _ w6 ⟨rfl,f6⟩;exact⟨_,rfl,rfl,f6⟩
     refine l0 (by kernel_rfl) Tryz.func246 (by kernel_rfl) (wX.mono ?_);rintro _ w6 ⟨rfl,f6⟩;refine⟨_,rfl,aa.by (fun hb=>?_) (fun hb=>?_)⟩
     ·refine⟨⟨(i:Int),rfl,?_⟩,f5.trans f6⟩
      rw[decide_eq_true (by omega),eq_comm,List.any_eq_true];exact⟨k,nV,hb⟩
     ·refine⟨⟨i+1,by rw[wI (by omega) (by omega)];omega,by omega,?_,f5.trans f6,qR.af f6⟩,by rw[wI (by omega) (by omega)];omega⟩
      rw[List.take_add_one,U,List.any_append,hall];simpa using hb
    ·refine⟨⟨-1,rfl,?_⟩,f5⟩
     rw[List.take_of_length_le (by omega)] at hall;rw[hall];rfl
   refine ab.of hx ?_;rintro _ w5 ⟨⟨i,rfl,hi⟩,f5⟩;exact⟨_,rfl,by rw[hi],f5⟩
  refine ab.of hc ?_;rintro _ w5 ⟨rfl,f5⟩;exact⟨_,rfl,by rw[Bool.true_and],(f3.trans f4).trans f5⟩
 refine ab.of (BQ t w2) ?_;rintro _ w3 ⟨rfl,f3⟩;refine⟨((fC t).1.v,(fC t).2,()),rfl,aa.by (fun hb=>?_) (fun hb=>?_)⟩
 ·dsimp only at hb ⊢
  rw[hb];refine ab.of (E3 (fC t).1 (by unfold rQ at hN;omega) w3) ?_;rintro _ w4 ⟨rfl,f4⟩;have La:(uT (fC t).1=2)↔cX (fC t).1=false:=by
   unfold uT
   constructor
   ·intro h
    by_cases hf:cX (fC t).1=false
    ·exact hf
    ·rw[if_neg hf] at h
     repeat' split at h
     all_goals omega
   ·intro h;rw[if_pos h]
  refine⟨_,rfl,aa.eq (fun h=>?_) (fun h=>?_)⟩
  ·rw[La.1 h];exact⟨by simp,(f2.trans f3).trans f4⟩
  ·have:cX (fC t).1=true:=by
    cases hf:cX (fC t).1 with
    | true=>rfl
    | false=>exact absurd (La.2 hf) h
   rw[this];exact kids w4 ((f2.trans f3).trans f4)
 ·dsimp only at hb ⊢
  rw[hb];exact kids w3 (f2.trans f3)
termination_by SizeOf.sizeOf t
decreasing_by exact BI U
def sv (s:List UInt8):Value:=.string (str s)
def gE (w:World)(v:Sl)(l:List (List UInt8)):Prop:=aF w 9 1 v (l.map sv)
theorem gE.af {w w':World}{v:Sl}{l:List (List UInt8)}(h:gE w v l)(f:Fr none1 w w'):gE w' v l:=aF.af h f
theorem gE.len {w:World}{v:Sl}{l:List (List UInt8)}(h:gE w v l):v.2.1=l.length:=by have:=aF.len h;rw[List.length_map,Nat.mul_one] at this;exact this.symm
theorem gE.ld {w:World}{v:Sl}{l:List (List UInt8)}(h:gE w v l){i:Nat}{s:List UInt8}(ho:l[i]? = some s){K:ByteArray->Prop}(k:K (str s)):bK v.1 v.2.1 (i:Int) 1 fun p=>ae .str p w K:=by
 have hi:=(List.getElem?_eq_some_iff.1 ho).1;have hl:=h.len;refine aF.ld h (by omega) (by omega) (c:=.str) (x:=str s) ?_ k;rw[Int.toNat_natCast,List.getElem?_map,ho];rfl
theorem zd (w:World):gE w (none,0,0) []:=.inl ⟨rfl,rfl⟩
theorem Tn (l:List (List UInt8)):∀ v∈l.map sv,bI v=true:=by intro v hv;obtain⟨s,_,rfl⟩:=List.mem_map.1 hv;rfl
theorem Lb {w:World}{x y:Sl}{xs ys:List (List UInt8)}(hx:gE w x xs)(hy:dr w 1 y (ys.map sv))(hl:xs.length+ys.length<=100000000):
  ∃ (v:Sl) (w':World),(Builtin.append_ #[51,51] 51 #[.slice x.1 x.2.1 x.2.2,.slice y.1 y.2.1 y.2.2]).run Tryz.prog w=.ok (.slice v.1 v.2.1 v.2.2) w'/\gE w' v (xs++ys)/\Fr (aw x) w w'/\(∀ k,aw v k->aw x k\/w.heap.size<=k):=by
 have e1:=hx.len;have e2:y.2.1=ys.length:=by have:=hy.1;rw[List.length_map,Nat.mul_one] at this;exact this.symm
 obtain⟨v,w',a,b,_,c,d⟩:=gA (P:=Tryz.prog) (s:=1) (xs:=xs.map sv) (ys:=ys.map sv) wS 51 hx hy (Tn ys) (by rw[e1,e2];omega);exact⟨v,w',a,by unfold gE;rw[List.map_append];exact b,c,d⟩
theorem Lc (t:Tm)(hn:aJ t<=1000000)(w:World):Ret Tryz.prog 216 #[t.v] w fun r w'=>∃ u:Sl,r=.slice u.1 u.2.1 u.2.2/\gE w' u (fO t)/\Fr none1 w w'/\∀ k,aw u k->w.heap.size<=k:=by
 refine c216 t.v w _ ?_;have ih:∀ k∈db t,aJ k<=1000000->∀ w,Ret Tryz.prog 216 #[k.v] w fun r w'=>∃ u:Sl,r=.slice u.1 u.2.1 u.2.2/\gE w' u (fO k)/\Fr none1 w w'/\∀ k,aw u k->w.heap.size<=k:=fun k U hn w=>Lc k hn w;have f0:=Fr.refl none1 w;refine cq.of (fun s w'=>gE w' s.1 (uY t)/\Fr none1 w w'/\∀ k,aw s.1 k->w.heap.size<=k) ?_ ?_
 ·by_cases h2:∃ s l r,t=.or s l r
  ·obtain⟨s,l,r,rfl⟩:=h2
   refine ao.hit (str s,l.v,r.v,()) rfl (cK (zs:=[.string (⟨#[]⟩:ByteArray),.nilIface,.nilIface]) (vs:=[.string (str s),l.v,r.v]) rfl (by simp[Tm.bU,oP]) fun g w2 _ hb f2=>ae.ah hb (x:=str s) rfl ?_);obtain⟨u,w3,hr,hu,dm,f3,uf⟩:=lH (P:=Tryz.prog) (w:=w2) wS (sv s) rfl;refine⟨u,w3,hr,?_⟩;obtain⟨x,w4,zh,hx,f4,xf⟩:=Lb (zd w3) (ys:=[s]) hu.rd (by simp);refine⟨x,w4,zh,hx,(f2.trans f3).comp f4 (fun k _ t=>(ko k t).elim),fun k U=>?_⟩
   rcases xf k U with t | t
   ·exact(ko k t).elim
   ·have:=(f2.trans f3).size;omega
  ·have h2:∀ s l r,t≠.or s l r:=fun s l r e=>h2 ⟨s,l,r,e⟩
   refine(Tm.not_or h2).ta (pR (zs:=[.string (⟨#[]⟩:ByteArray),.nilIface,.nilIface]) f0 rfl fun w1 f1=>⟨?_,f1,fun k t=>(ko k t).elim⟩);have:uY t=[]:=by cases t<;>first | rfl | exact absurd rfl (h2 _ _ _)
   rw[this];exact zd _
 rintro _ ⟨s,_⟩ w1 ⟨hs,f1,sf⟩;dsimp only at hs sf ⊢;refine ab.of (za t w1) ?_;rintro _ w2 ⟨u,rfl,hu,f2,uf⟩;refine⟨u,rfl,?_⟩;have dm:=hu.len;have y8:=BK t;have hL:=Tb t;have hlen:=K3 t;have To:∀ i,(uY t++((db t).take i).flatMap fO).length<=aJ t:=fun i=>by
  have:(fO t).length=(uY t++((db t).take i).flatMap fO).length+(((db t).drop i).flatMap fO).length:=by
   rw[hL]
   conv=>lhs;rw[<- List.take_append_drop i (db t)]
   rw[List.flatMap_append];simp only[List.length_append];omega
  omega
 have ab6:∀ k,aw u k->k<w2.heap.size:=fun k U=>aF.lt hu U;refine bw.of (fun s w'=>∃ i:Nat,s.2.1=i/\i<=(db t).length/\gE w' s.1 (uY t++((db t).take i).flatMap fO)/\Fr none1 w w'/\mZ w' u (db t)/\(∀ k,aw s.1 k->w.heap.size<=k/\¬ aw u k)) (fun s _=>(2 - s.2.1).toNat)
  ⟨0,rfl,Nat.zero_le _,by simpa using hs.af f2,f1.trans f2,hu,fun k U=>⟨sf k U,fun t=>by have:=uf k t;have:=aF.lt hs U;omega⟩⟩ ?_
 rintro _ ⟨v,i',_⟩ w3 ⟨i,hi,ja,hv,f3,kL,vf⟩;dsimp only at hi hv vf ⊢;subst hi;refine aa.dec (fun aS=>?_) (fun dQ=>?_)
 ·have fB:i<(db t).length:=by omega
  obtain⟨k,U⟩:∃ k,(db t)[i]? = some k:=⟨_,List.getElem?_eq_getElem fB⟩;have nV:=List.mem_of_getElem? U;have hb:=To (i+1);rw[List.take_add_one,U] at hb;simp only[Option.toList_some,List.flatMap_append,List.flatMap_cons,List.flatMap_nil,List.append_nil,List.length_append] at hb;refine kL.ld U ?_;have nW:aJ k<=1000000:=by
   have hnd:t≠.none:=fun e=>by rw[e] at fB;exact absurd fB (by simp[db])
   have hN:=E7 t hnd;have:=wT ((db t).map aJ) (i+1);rw[<- List.map_take,rN _ _ _ U,uV] at this;omega
  refine ab.of (ih k nV nW w3) ?_;rintro _ w4 ⟨x,rfl,hx,f4,xf⟩;refine⟨x,rfl,?_⟩;obtain⟨y,w5,E9,hy,f5,yf⟩:=Lb (hv.af f4) (aF.rd hx) (by rw[List.length_append];omega);have ult:=fun k (U:aw u k)=>aF.lt kL U;refine⟨y,w5,E9,⟨i+1,by rw[wI (by omega) (by omega)];omega,by omega,?_,(f3.trans f4).comp f5 (fun k _ t=>by have:=(vf k t).1;omega),aF.ag (kL.af f4) f5 (fun k U t=>(vf k t).2 U),fun k U=>?_⟩,by rw[wI (by omega) (by omega)];omega⟩
  ·rw[List.take_add_one,U]
   simp only[Option.toList_some,List.flatMap_append,List.flatMap_cons,List.flatMap_nil,List.append_nil];rw[<- List.append_assoc];exact hy
  ·rcases yf k U with t | t
   ·exact vf k t
   ·have:=(f3.trans f4).size
    have:=f4.size;exact⟨by omega,fun q=>by have:=ult k q;omega⟩
 ·have:i=(db t).length:=by omega
  subst this;rw[List.take_length,<- hL] at hv;exact⟨v,rfl,hv,f3,fun k U=>(vf k U).1⟩
termination_by SizeOf.sizeOf t
decreasing_by exact BI U
theorem Ld {w:World}{v:Sl}{l:List (List UInt8)}(h:dr w 1 v (l.map sv))(hl:l.length<=100000000)(s:List UInt8):
  Ret Tryz.prog 217 #[.slice v.1 v.2.1 v.2.2,.string (str s)] w fun r w'=>r=.bool (decide (s∈l))/\w=w':=by
 have hlen:v.2.1=l.length:=by have:=h.1;rw[List.length_map,Nat.mul_one] at this;exact this.symm
 refine c217 v.1 v.2.1 v.2.2 (str s) w _ ?_;have hx:Ret Tryz.prog 248 #[.slice v.1 v.2.1 v.2.2,.string (str s)] w fun r w'=>(∃ i:Int,r=.int .i64 i/\decide (i >= 0)=decide (s∈l))/\w=w':=by
  refine c248 v.1 v.2.1 v.2.2 (str s) w _ ?_;refine bw.of (fun st w'=>∃ i:Nat,st.1=i/\i<=l.length/\s ∉ l.take i/\w=w') (fun st _=>(v.2.1 - st.1).toNat) ⟨0,rfl,Nat.zero_le _,by simp,rfl⟩ ?_;rintro _ ⟨i',_⟩ _ ⟨i,hi,ja,gS,rfl⟩;dsimp only at hi ⊢;subst hi;refine aa.dec (fun aS=>?_) (fun dQ=>?_)
  ·have fB:i<l.length:=by omega
   obtain⟨x,hx⟩:∃ x,l[i]? = some x:=⟨_,List.getElem?_eq_getElem fB⟩;refine dr.ld h (by omega) aS (c:=.str) (x:=str x) (by rw[Int.toNat_natCast,List.getElem?_map,hx];rfl) ?_;rw[iW];refine aa.dec (fun he=>?_) (fun ay=>?_)
   ·subst he
    refine⟨⟨(i:Int),rfl,?_⟩,rfl⟩;rw[decide_eq_true (by omega),decide_eq_true (List.mem_of_getElem? hx)]
   ·refine⟨⟨i+1,by rw[wI (by omega) (by omega)];omega,by omega,?_,rfl⟩,by rw[wI (by omega) (by omega)];omega⟩
    rw[List.take_add_one,hx];simp only[Option.toList_some,List.mem_append,List.mem_singleton];rintro(t | t)
    ·exact gS t
    ·exact ay t
  ·refine⟨⟨-1,rfl,?_⟩,rfl⟩
   rw[List.take_of_length_le (by omega)] at gS;rw[decide_eq_false gS];rfl
 refine ab.of hx ?_;rintro _ _ ⟨⟨i,rfl,hi⟩,rfl⟩;exact⟨i,rfl,by rw[hi],rfl⟩
theorem Le {α:Type}(l:List α):(∀ j x,l[j]? = some x->x ∉ l.take j)↔l.Nodup:=by
 unfold List.Nodup;rw[List.pairwise_iff_getElem]
 constructor
 ·intro h i j hi hj lh heq
  refine h j l[j] (List.getElem?_eq_getElem hj) ?_;rw[List.mem_take_iff_getElem];exact⟨i,by omega,heq⟩
 ·intro h j x hx hm
  obtain⟨hj,rfl⟩:=List.getElem?_eq_some_iff.1 hx;rw[List.mem_take_iff_getElem] at hm;obtain⟨i,hi,heq⟩:=hm;exact h i j (by omega) hj (by omega) heq
theorem Fa (t:Tm)(hn:aJ t<=1000000)(w:World):Ret Tryz.prog 170 #[t.v] w fun r w'=>r=.int .i64 (jJ t)/\Fr none1 w w':=by
 refine c170 t.v w _ ?_;refine ab.of (K9 t hn w) ?_;rintro _ w1 ⟨rfl,f1⟩;unfold jJ;refine⟨_,rfl,aa.not (aa.by (fun h=>?_) (fun h=>?_))⟩
 case refine_2=>rw[if_pos h];exact⟨rfl,f1⟩
 rw[if_neg (by simp[h])];refine ab.of (K8 t hn w1) ?_;rintro _ w2 ⟨rfl,f2⟩;refine⟨((aJ t:Int),(cA t:Int),()),rfl,?_⟩;dsimp only;refine aa.dec (fun h=>?_) (fun h=>?_)
 ·rw[if_pos (by omega)];exact⟨rfl,f1.trans f2⟩
 rw[if_neg (by omega)];refine aa.dec (fun h=>?_) (fun h=>?_)
 ·rw[if_pos (by omega)];exact⟨rfl,f1.trans f2⟩
 rw[if_neg (by omega)];refine ab.of (Lc t hn w2) ?_;rintro _ w3 ⟨u,rfl,hu,f3,_⟩;refine⟨u,rfl,?_⟩;have dm:=hu.len;have Fb:=K3 t;have wC:u.2.1<=u.2.2:=by
  rcases hu with⟨rfl,_⟩ | ⟨g,off,cs,_,_,hle,_⟩
  ·exact Nat.le_refl _
  ·exact hle
 have fr:=(f1.trans f2).trans f3;refine bw.of (fun s w'=>∃ i:Nat,s.1=i/\i<=(fO t).length/\(∀ j x,j<i->(fO t)[j]? = some x->x ∉ (fO t).take j)/\w3=w') (fun s _=>(u.2.1 - s.1).toNat) ⟨0,rfl,Nat.zero_le _,fun j x hj=>absurd hj (by omega),rfl⟩ ?_;rintro _ ⟨i',_⟩ _ ⟨i,hi,ja,hall,rfl⟩;dsimp only at hi ⊢;subst hi;refine aa.dec (fun aS=>?_) (fun dQ=>?_)
 ·have fB:i<(fO t).length:=by omega
  obtain⟨x,hx⟩:∃ x,(fO t)[i]? = some x:=⟨_,List.getElem?_eq_getElem fB⟩;refine hu.ld hx ?_;refine dr.sub (aF.rd hu) (by omega) (by omega) wC fun hs=>?_;rw[Int.toNat_natCast] at hs ⊢;rw[<- List.map_take] at hs;refine ab.of (Ld hs (by rw[List.length_take];omega) x) ?_;rintro _ _ ⟨rfl,rfl⟩;refine⟨_,rfl,aa.dec (fun hm=>?_) (fun hm=>?_)⟩
  ·rw[if_neg (fun hd=>(Le _).2 hd i x hx hm)]
   exact⟨rfl,fr⟩
  ·refine⟨⟨i+1,by rw[wI (by omega) (by omega)];omega,by omega,fun j y hj hy=>?_,rfl⟩,by rw[wI (by omega) (by omega)];omega⟩
   by_cases iN:j<i
   ·exact hall j y iN hy
   ·have:j=i:=by omega
    subst this;rw[hx] at hy;injection hy with hy;subst hy
    exact hm
 ·rw[if_pos ((Le _).1 fun j x hx=>hall j x (by have:=(List.getElem?_eq_some_iff.1 hx).1;omega) hx)]
  exact⟨rfl,fr⟩
def C218 (p0:ByteArray)(p1:Option Addr)(bY cE:Nat)(w:World)(K:Value->World->Prop):Prop:=
 vV p0 (⟨#[40]⟩:ByteArray) (ab Tryz.prog 249 #[.slice p1 bY cE,.string (⟨#[44]⟩:ByteArray)] w (.v (.one .str)) (fun(x1:ByteArray) w2=>vV (p0++(⟨#[40]⟩:ByteArray)) x1 (vV ((p0++(⟨#[40]⟩:ByteArray))++x1) (⟨#[41]⟩:ByteArray) (K (.string (((p0++(⟨#[40]⟩:ByteArray))++x1)++(⟨#[41]⟩:ByteArray))) w2))))
def pl218:aB:=.auto
theorem c218 (p0:ByteArray)(p1:Option Addr)(bY cE:Nat)(w:World)(K:Value->World->Prop)(h:C218 p0 p1 bY cE w K):Ret Tryz.prog 218 #[.string p0,.slice p1 bY cE] w K:=aC (by kernel_rfl) Tryz.func218 (p:=pl218) (Eq.mpr (by kernel_rfl) h)
def C219 (p0:Value)(w:World)(K:Value->World->Prop):Prop:=
 ao p0 222 (.agg [.int .i64]) (fun(x1:Int×Unit)=>ak (.cells #[.int .i64 0] 222) w (fun g2 w3=>ar (ad g2) [.int .i64 x1.1] w3 (fun w4=>ae (.int .i64) ((ad g2).add 0) w4 (fun(x5:Int)=>ab Tryz.prog 220 #[.int .i64 x5] w4 (.v (.one .str)) (fun(x6:ByteArray) w7=>K (.string x6) w7)))))
 (ao p0 300 (.agg [.str]) (fun(x8:ByteArray×Unit)=>ak (.cells #[.string (⟨#[]⟩:ByteArray)] 300) w (fun g9 aG=>ar (ad g9) [.string x8.1] aG (fun aO=>ae .str ((ad g9).add 0) aO (fun(bt:ByteArray)=>az Tryz.prog (Instr.buildSlice 51 1 #[(0,.string bt)]) aO (.v (.one .aj)) (fun(bD:an) bm=>ab Tryz.prog 218 #[.string (⟨#[102,105,120]⟩:ByteArray),.slice bD.1 bD.2.1 bD.2.2] bm (.v (.one .str)) (fun(bj:ByteArray) bn=>K (.string bj) bn))))))
 (ao p0 302 (.agg [.raw,.raw]) (fun(aX:Value×Value×Unit)=>ak (.cells #[.nilIface,.nilIface] 302) w (fun g18 bx=>ar (ad g18) [aX.1,aX.2.1] bx (fun bo=>aD bo (fun bB=>aV (fun nf=>av nf ((ad g18).add 0) (ae .raw ((ad g18).add 0) bB (fun(cr:Value)=>av nf ((ad g18).add 1) (ae .raw ((ad g18).add 1) bB (fun(cj:Value)=>ab Tryz.prog 219 #[cr] bB (.v (.one .str)) (fun(bC:ByteArray) ct=>ai nf bB ct (ab Tryz.prog 219 #[cj] ct (.v (.one .str)) (fun(cz:ByteArray) bS=>ai nf ct bS (az Tryz.prog (Instr.buildSlice 51 2 #[(0,.string bC),(1,.string cz)]) bS (.v (.one .aj)) (fun(cx:an) bO=>ai nf bS bO (ab Tryz.prog 218 #[.string (⟨#[97,100,100]⟩:ByteArray),.slice cx.1 cx.2.1 cx.2.2] bO (.v (.one .str)) (fun(bZ:ByteArray) cL=>ai nf bO cL (K (.string bZ) cL)))))))))))))))))
 (ao p0 304 (.agg [.raw]) (fun(dp:Value×Unit)=>ak (.cells #[.nilIface] 304) w (fun uW dX=>ar (ad uW) [dp.1] dX (fun cQ=>ae .raw ((ad uW).add 0) cQ (fun(gn:Value)=>ab Tryz.prog 219 #[gn] cQ (.v (.one .str)) (fun(dF:ByteArray) eh=>az Tryz.prog (Instr.buildSlice 51 1 #[(0,.string dF)]) eh (.v (.one .aj)) (fun(iX:an) ll=>ab Tryz.prog 218 #[.string (⟨#[110,101,103]⟩:ByteArray),.slice iX.1 iX.2.1 iX.2.2] ll (.v (.one .str)) (fun(iQ:ByteArray) kq=>K (.string iQ) kq)))))))
 (ao p0 305 (.agg [.raw,.raw]) (fun(jq:Value×Value×Unit)=>ak (.cells #[.nilIface,.nilIface] 305) w (fun tq iq=>ar (ad tq) [jq.1,jq.2.1] iq (fun gd=>aD gd (fun gB=>aV (fun xa=>av xa ((ad tq).add 0) (ae .raw ((ad tq).add 0) gB (fun(gW:Value)=>av xa ((ad tq).add 1) (ae .raw ((ad tq).add 1) gB (fun(js:Value)=>ab Tryz.prog 219 #[gW] gB (.v (.one .str)) (fun(mu:ByteArray) ng=>ai xa gB ng (ab Tryz.prog 219 #[js] ng (.v (.one .str)) (fun(kg:ByteArray) gr=>ai xa ng gr (az Tryz.prog (Instr.buildSlice 51 2 #[(0,.string mu),(1,.string kg)]) gr (.v (.one .aj)) (fun(kO:an) mv=>ai xa gr mv (ab Tryz.prog 218 #[.string (⟨#[109,117,108]⟩:ByteArray),.slice kO.1 kO.2.1 kO.2.2] mv (.v (.one .str)) (fun(nX:ByteArray) lL=>ai xa mv lL (K (.string nX) lL)))))))))))))))))
 (ao p0 306 (.agg [.raw,.raw]) (fun(nT:Value×Value×Unit)=>ak (.cells #[.nilIface,.nilIface] 306) w (fun na iP=>ar (ad na) [nT.1,nT.2.1] iP (fun oR=>aD oR (fun jt=>aV (fun xb=>av xb ((ad na).add 0) (ae .raw ((ad na).add 0) jt (fun(qS:Value)=>av xb ((ad na).add 1) (ae .raw ((ad na).add 1) jt (fun(oS:Value)=>ab Tryz.prog 219 #[qS] jt (.v (.one .str)) (fun(zi:ByteArray) lM=>ai xb jt lM (ab Tryz.prog 219 #[oS] lM (.v (.one .str)) (fun(pT:ByteArray) pU=>ai xb lM pU (az Tryz.prog (Instr.buildSlice 51 2 #[(0,.string zi),(1,.string pT)]) pU (.v (.one .aj)) (fun(pV:an) qT=>ai xb pU qT (ab Tryz.prog 218 #[.string (⟨#[109,97,120]⟩:ByteArray),.slice pV.1 pV.2.1 pV.2.2] qT (.v (.one .str)) (fun(xc:ByteArray) Lf=>ai xb qT Lf (K (.string xc) Lf))))))))))))))))) False)))))
def pl219:aB:=(.seq .auto (.seq (.seq .auto (.block (.seq .auto (.cond .auto (.seq .auto (.cond .auto (.seq .auto (.cond (.seq .auto (.seq (.held (.soft 0 (.soft 1 (.soft 3 (.soft 4 (.pick 2 (.pick 5 (.pick 6 (.pick 7 (.soft 8 .done) .stop) .stop) .stop) .stop)))))) .auto)) (.seq .auto (.cond .auto (.seq .auto (.cond (.seq .auto (.seq (.held (.soft 0 (.soft 1 (.soft 3 (.soft 4 (.pick 2 (.pick 5 (.pick 6 (.pick 7 (.soft 8 .done) .stop) .stop) .stop) .stop)))))) .auto)) .auto)))))))))))) (.seq .auto (.seq (.held (.soft 0 (.soft 1 (.soft 3 (.soft 4 (.pick 2 (.pick 5 (.pick 6 (.pick 7 (.soft 8 .done) .stop) .stop) .stop) .stop)))))) .auto))))
theorem c219 (p0:Value)(w:World)(K:Value->World->Prop)(h:C219 p0 w K):Ret Tryz.prog 219 #[p0] w K:=aC (by kernel_rfl) Tryz.func219 (p:=pl219) (Eq.mpr (by kernel_rfl) h)
def C172 (p0:Value)(w:World)(K:Value->World->Prop):Prop:=
 ao p0 235 (.agg []) (fun(x1:Unit)=>ak (.cells #[] 235) w (fun g2 w3=>ar (ad g2) [] w3 (fun w4=>K (.string (⟨#[122,101,114,111]⟩:ByteArray)) w4)))
 (ao p0 216 (.agg [.str]) (fun(x5:ByteArray×Unit)=>ak (.cells #[.string (⟨#[]⟩:ByteArray)] 216) w (fun g6 w7=>ar (ad g6) [.string x5.1] w7 (fun w8=>ae .str ((ad g6).add 0) w8 (fun(x9:ByteArray)=>az Tryz.prog (Instr.buildSlice 51 1 #[(0,.string x9)]) w8 (.v (.one .aj)) (fun(aR:an) aO=>ab Tryz.prog 218 #[.string (⟨#[111,110,101]⟩:ByteArray),.slice aR.1 aR.2.1 aR.2.2] aO (.v (.one .str)) (fun(bt:ByteArray) aW=>K (.string bt) aW))))))
 (ao p0 237 (.agg [.raw]) (fun(bd:Value×Unit)=>ak (.cells #[.nilIface] 237) w (fun g15 bn=>ar (ad g15) [bd.1] bn (fun b9=>ae .raw ((ad g15).add 0) b9 (fun(br:Value)=>ab Tryz.prog 172 #[br] b9 (.v (.one .str)) (fun(bu:ByteArray) bo=>az Tryz.prog (Instr.buildSlice 51 1 #[(0,.string bu)]) bo (.v (.one .aj)) (fun(bT:an) bN=>ab Tryz.prog 218 #[.string (⟨#[103,105,118,101]⟩:ByteArray),.slice bT.1 bT.2.1 bT.2.2] bN (.v (.one .str)) (fun(cr:ByteArray) cm=>K (.string cr) cm)))))))
 (ao p0 239 (.agg [.raw,.raw]) (fun(bC:Value×Value×Unit)=>ak (.cells #[.nilIface,.nilIface] 239) w (fun zk eJ=>ar (ad zk) [bC.1,bC.2.1] eJ (fun bS=>aD bS (fun et=>aV (fun xd=>av xd ((ad zk).add 0) (ae .raw ((ad zk).add 0) et (fun(bZ:Value)=>av xd ((ad zk).add 1) (ae .raw ((ad zk).add 1) et (fun(dK:Value)=>ab Tryz.prog 172 #[bZ] et (.v (.one .str)) (fun(dp:ByteArray) gh=>ai xd et gh (ab Tryz.prog 172 #[dK] gh (.v (.one .str)) (fun(de:ByteArray) cQ=>ai xd gh cQ (az Tryz.prog (Instr.buildSlice 51 2 #[(0,.string dp),(1,.string de)]) cQ (.v (.one .aj)) (fun(gn:an) gu=>ai xd cQ gu (ab Tryz.prog 218 #[.string (⟨#[97,110,100]⟩:ByteArray),.slice gn.1 gn.2.1 gn.2.2] gu (.v (.one .str)) (fun(eP:ByteArray) dD=>ai xd gu dD (K (.string eP) dD)))))))))))))))))
 (ao p0 241 (.agg [.str,.raw,.raw]) (fun(ek:ByteArray×Value×Value×Unit)=>ak (.cells #[.string (⟨#[]⟩:ByteArray),.nilIface,.nilIface] 241) w (fun uZ kq=>ar (ad uZ) [.string ek.1,ek.2.1,ek.2.2.1] kq (fun fw=>aD fw (fun gK=>aV (fun iD=>av iD ((ad uZ).add 0) (ae .str ((ad uZ).add 0) gK (fun(dA:ByteArray)=>av iD ((ad uZ).add 1) (ae .raw ((ad uZ).add 1) gK (fun(gY:Value)=>av iD ((ad uZ).add 2) (ae .raw ((ad uZ).add 2) gK (fun(fu:Value)=>ab Tryz.prog 172 #[gY] gK (.v (.one .str)) (fun(gW:ByteArray) jZ=>ai iD gK jZ (ab Tryz.prog 172 #[fu] jZ (.v (.one .str)) (fun(mu:ByteArray) ng=>ai iD jZ ng (az Tryz.prog (Instr.buildSlice 51 3 #[(0,.string dA),(1,.string gW),(2,.string mu)]) ng (.v (.one .aj)) (fun(kg:an) gr=>ai iD ng gr (ab Tryz.prog 218 #[.string (⟨#[111,114]⟩:ByteArray),.slice kg.1 kg.2.1 kg.2.2] gr (.v (.one .str)) (fun(kO:ByteArray) mv=>ai iD gr mv (K (.string kO) mv)))))))))))))))))))
 (ao p0 245 (.agg [.raw,.raw]) (fun(nX:Value×Value×Unit)=>ak (.cells #[.nilIface,.nilIface] 245) w (fun zl qP=>ar (ad zl) [nX.1,nX.2.1] qP (fun uM=>aD uM (fun iP=>aV (fun xe=>av xe ((ad zl).add 0) (ae .raw ((ad zl).add 0) iP (fun(u0:Value)=>av xe ((ad zl).add 1) (ae .raw ((ad zl).add 1) iP (fun(oT:Value)=>ab Tryz.prog 219 #[u0] iP (.v (.one .str)) (fun(qS:ByteArray) xg=>ai xe iP xg (ab Tryz.prog 172 #[oT] xg (.v (.one .str)) (fun(zi:ByteArray) lM=>ai xe xg lM (az Tryz.prog (Instr.buildSlice 51 2 #[(0,.string qS),(1,.string zi)]) lM (.v (.one .aj)) (fun(pT:an) pU=>ai xe lM pU (ab Tryz.prog 218 #[.string (⟨#[115,99,97,108,101]⟩:ByteArray),.slice pT.1 pT.2.1 pT.2.2] pU (.v (.one .str)) (fun(pV:ByteArray) qT=>ai xe pU qT (K (.string pV) qT)))))))))))))))))
 (ao p0 247 (.agg [.int .i64,.raw]) (fun(xc:Int×Value×Unit)=>ak (.cells #[.int .i64 0,.nilIface] 247) w (fun zm qU=>ar (ad zm) [.int .i64 xc.1,xc.2.1] qU (fun Tp=>aD Tp (fun my=>aV (fun xh=>av xh ((ad zm).add 0) (ae (.int .i64) ((ad zm).add 0) my (fun(Fe:Int)=>av xh ((ad zm).add 1) (ae .raw ((ad zm).add 1) my (fun(Tq:Value)=>ab Tryz.prog 220 #[.int .i64 Fe] my (.v (.one .str)) (fun(pW:ByteArray) Ff=>ai xh my Ff (ab Tryz.prog 172 #[Tq] Ff (.v (.one .str)) (fun(Ts:ByteArray) Fg=>ai xh Ff Fg (az Tryz.prog (Instr.buildSlice 51 2 #[(0,.string pW),(1,.string Ts)]) Fg (.v (.one .aj)) (fun(u6:an) zo=>ai xh Fg zo (ab Tryz.prog 218 #[.string (⟨#[119,104,101,110]⟩:ByteArray),.slice u6.1 u6.2.1 u6.2.2] zo (.v (.one .str)) (fun(Tt:ByteArray) Lg=>ai xh zo Lg (K (.string Tt) Lg)))))))))))))))))
 (ao p0 249 (.agg [.raw,.raw,.raw]) (fun(Fh:Value×Value×Value×Unit)=>ak (.cells #[.nilIface,.nilIface,.nilIface] 249) w (fun u7 Fi=>ar (ad u7) [Fh.1,Fh.2.1,Fh.2.2.1] Fi (fun Tu=>aD Tu (fun rT=>aV (fun tt=>av tt ((ad u7).add 0) (ae .raw ((ad u7).add 0) rT (fun(Tv:Value)=>av tt ((ad u7).add 1) (ae .raw ((ad u7).add 1) rT (fun(zp:Value)=>av tt ((ad u7).add 2) (ae .raw ((ad u7).add 2) rT (fun(Tw:Value)=>ab Tryz.prog 219 #[Tv] rT (.v (.one .str)) (fun(zq:ByteArray) zr=>ai tt rT zr (ab Tryz.prog 172 #[zp] zr (.v (.one .str)) (fun(zt:ByteArray) zu=>ai tt zr zu (ab Tryz.prog 172 #[Tw] zu (.v (.one .str)) (fun(Tx:ByteArray) zv=>ai tt zu zv (az Tryz.prog (Instr.buildSlice 51 3 #[(0,.string zq),(1,.string zt),(2,.string Tx)]) zv (.v (.one .aj)) (fun(qV:an) rU=>ai tt zv rU (ab Tryz.prog 218 #[.string (⟨#[105,102]⟩:ByteArray),.slice qV.1 qV.2.1 qV.2.2] rU (.v (.one .str)) (fun(zz:ByteArray) xi=>ai tt rU xi (K (.string zz) xi))))))))))))))))))))) False)))))))
def pl172:aB:=(.seq .auto (.seq (.seq .auto (.block (.seq .auto (.cond .auto (.seq .auto (.cond .auto (.seq .auto (.cond .auto (.seq .auto (.cond (.seq .auto (.seq (.held (.soft 0 (.soft 1 (.soft 3 (.soft 4 (.pick 2 (.pick 5 (.pick 6 (.pick 7 (.soft 8 .done) .stop) .stop) .stop) .stop)))))) .auto)) (.seq .auto (.cond (.seq .auto (.seq (.held (.soft 0 (.soft 1 (.soft 2 (.soft 3 (.soft 5 (.soft 6 (.pick 4 (.pick 7 (.pick 8 (.pick 9 (.soft 10 .done) .stop) .stop) .stop) .stop)))))))) .auto)) (.seq .auto (.cond (.seq .auto (.seq (.held (.soft 0 (.soft 1 (.soft 3 (.soft 4 (.pick 2 (.pick 5 (.pick 6 (.pick 7 (.soft 8 .done) .stop) .stop) .stop) .stop)))))) .auto)) (.seq .auto (.cond (.seq .auto (.seq (.held (.soft 0 (.soft 1 (.soft 3 (.soft 4 (.pick 2 (.pick 5 (.pick 6 (.pick 7 (.soft 8 .done) .stop) .stop) .stop) .stop)))))) .auto)) .auto)))))))))))))))) (.seq .auto (.seq (.held (.soft 0 (.soft 1 (.soft 3 (.soft 4 (.soft 6 (.soft 7 (.pick 2 (.pick 5 (.pick 8 (.pick 9 (.pick 10 (.soft 11 .done) .stop) .stop) .stop) .stop) .stop)))))))) .auto))))
theorem c172 (p0:Value)(w:World)(K:Value->World->Prop)(h:C172 p0 w K):Ret Tryz.prog 172 #[p0] w K:=aC (by kernel_rfl) Tryz.func172 (p:=pl172) (Eq.mpr (by kernel_rfl) h)
def C171 (p0:ByteArray)(w:World)(K:Value->World->Prop):Prop:=
 aa (decide ((p0.size:Int) > 1000))
 (K (.tuple #[.string (⟨#[]⟩:ByteArray),.int .i64 5]) w)
 (K (.tuple #[.string p0,.int .i64 0]) w)
def pl171:aB:=.auto
theorem c171 (p0:ByteArray)(w:World)(K:Value->World->Prop)(h:C171 p0 w K):Ret Tryz.prog 171 #[.string p0] w K:=aC (by kernel_rfl) Tryz.func171 (p:=pl171) (Eq.mpr (by kernel_rfl) h)
def C132 (p0:Value)(w:World)(K:Value->World->Prop):Prop:=
 ab Tryz.prog 170 #[p0] w (.v (.one (.int .i64))) (fun(x1:Int) w2=>aa (x1 != 0)
 (K (.tuple #[.string (⟨#[]⟩:ByteArray),.int .i64 x1]) w2)
 (ab Tryz.prog 172 #[p0] w2 (.v (.one .str)) (fun(x3:ByteArray) w4=>ab Tryz.prog 171 #[.string x3] w4 (.aN [.one .str,.one (.int .i64)]) (fun(x5:ByteArray×Int×Unit) w6=>K (.tuple #[.string x5.1,.int .i64 x5.2.1]) w6))))
def pl132:aB:=.auto
theorem c132 (p0:Value)(w:World)(K:Value->World->Prop)(h:C132 p0 w K):Ret Tryz.prog 132 #[p0] w K:=aC (by kernel_rfl) Tryz.func132 (p:=pl132) (Eq.mpr (by kernel_rfl) h)
def gM (wd:List UInt8)(xs:List (List UInt8)):List UInt8:=wd++[40]++Lib.join xs [44]++[41]
def fT:Ob->List UInt8
 | .none=>[]
 | .const n=>Lib.itoa n
 | .fix s=>gM [102,105,120] [s]
 | .add l r=>gM [97,100,100] [fT l,fT r]
 | .neg o=>gM [110,101,103] [fT o]
 | .mul l r=>gM [109,117,108] [fT l,fT r]
 | .max l r=>gM [109,97,120] [fT l,fT r]
def dY:Tm->List UInt8
 | .none=>[]
 | .zero=>[122,101,114,111]
 | .one s=>gM [111,110,101] [s]
 | .gD t=>gM [103,105,118,101] [dY t]
 | .and l r=>gM [97,110,100] [dY l,dY r]
 | .or s l r=>gM [111,114] [s,dY l,dY r]
 | .scale o t=>gM [115,99,97,108,101] [fT o,dY t]
 | .when d t=>gM [119,104,101,110] [Lib.itoa d,dY t]
 | .cond o l r=>gM [105,102] [fT o,dY l,dY r]
def bp (t:Tm):List UInt8×Int:=if jJ t≠0 then([],jJ t) else if 1000<(dY t).length then([],5) else(dY t,0)
theorem Lh (a:List UInt8):Lib.join [a] [44]=a:=Lib.join_one _ _
theorem Li (a b:List UInt8):Lib.join [a,b] [44]=a++([44]++b):=by rw[Lib.join_cons];simp[Lib.joinTail]
theorem Lj (a b c:List UInt8):Lib.join [a,b,c] [44]=a++([44]++b++([44]++c)):=by rw[Lib.join_cons];simp[Lib.joinTail]
theorem BR (wd a:List UInt8):(gM wd [a]).length=wd.length+a.length+2:=by unfold gM;rw[Lh];simp;omega
theorem xj (wd a b:List UInt8):(gM wd [a,b]).length=wd.length+a.length+b.length+3:=by unfold gM;rw[Li];simp;omega
theorem Lk (wd a b c:List UInt8):(gM wd [a,b,c]).length=wd.length+a.length+b.length+c.length+4:=by unfold gM;rw[Lj];simp;omega
theorem Ty (l:List UInt8):(gV l).2<=4:=by
 simp only[gV,Utf8.decode]
 repeat' split
 all_goals simp
theorem Fj:∀ (n:Nat) (l:List UInt8),l.length<=n->l.length<=4 * (cJ l).length
 | 0,l,h=>by omega
 | n+1,l,h=>by
  by_cases hl:l=[]
  ·subst hl;simp
  ·rw[yQ l hl,List.length_cons]
   have h1:=wL l;have h4:=Ty l;have hd:(l.drop (gV l).2).length=l.length - (gV l).2:=List.length_drop;have:=Fj n (l.drop (gV l).2) (by omega);omega
theorem Fk:∀ (rs:List Int) (n:Nat),kf n rs=true->rs=[]\/n+rs.length<=12
 | [],_,_=>.inl rfl
 | r::rs,n,h=>by
  unfold kf at h;split at h
  ·cases h
  split at h
  ·cases h
  split at h
  ·cases h
  rcases Fk rs (n+1) h with rfl | t
  ·simp;omega
  ·simp only[List.length_cons];omega
theorem BS {s:List UInt8}(h:eZ s=true):s.length<=48:=by
 have hb:=Fj s.length s (Nat.le_refl _)
 rcases Fk _ _ h with t | t
 ·rw[t,List.length_nil] at hb;omega
 ·omega
theorem Fm:∀ (k u:Nat),u<10 ^ (k+1)->(Lib.decDigits u).length<=k+1
 | 0,u,h=>by rw[Lib.decDigits];rw[dif_pos (by omega)];simp
 | k+1,u,h=>by
  rw[Lib.decDigits];split
  ·simp
  ·rw[List.length_append]
   have:=Fm k (u / 10) (by rw[Nat.pow_succ] at h;omega);simp;omega
theorem Ll {n:Int}(h0:-1000000000000<=n)(h1:n<=1000000000000):(Lib.itoa n).length<=14:=by
 unfold Lib.itoa;split
 ·have:=Fm 12 n.natAbs (by omega)
  simp;omega
 ·have:=Fm 12 n.toNat (by omega)
  omega
theorem Fo {n:Int}(h:cH n=true):-1000000000000<=n/\n<=1000000000000:=by
 unfold cH at h;simp only[Bool.and_eq_true,decide_eq_true_eq] at h;exact h
theorem Fq (o:Ob)(h:cX o=true):(fT o).length<=100 * bA o:=by
 induction o with
 | none=>cases h
 | const n=>have:=Fo h;have:=Ll this.1 this.2;unfold fT bA;omega
 | fix s=>have:=BS h;unfold fT bA;rw[BR];simp;omega
 | neg o ih=>have:=ih h;unfold fT bA;rw[BR];simp;omega
 | add l r a b=>simp only[cX,Bool.and_eq_true] at h;have:=a h.1;have:=b h.2;unfold fT bA;rw[xj];simp;omega
 | mul l r a b=>simp only[cX,Bool.and_eq_true] at h;have:=a h.1;have:=b h.2;unfold fT bA;rw[xj];simp;omega
 | max l r a b=>simp only[cX,Bool.and_eq_true] at h;have:=a h.1;have:=b h.2;unfold fT bA;rw[xj];simp;omega
theorem Tz (t:Tm)(h:cI t=true):(dY t).length<=100 * aJ t:=by
 induction t with
 | none=>cases h
 | zero=>decide
 | one s=>have:=BS h;unfold dY aJ;rw[BR];simp;omega
 | gD t ih=>have:=ih h;unfold dY aJ;rw[BR];simp;omega
 | and l r a b=>simp only[cI,Bool.and_eq_true] at h;have:=a h.1;have:=b h.2;unfold dY aJ;rw[xj];simp;omega
 | or s l r a b=>simp only[cI,Bool.and_eq_true] at h;have:=BS h.1;have:=a h.2.1;have:=b h.2.2;unfold dY aJ;rw[Lk];simp;omega
 | scale o t ih=>simp only[cI,Bool.and_eq_true] at h;have:=Fq o h.1;have:=ih h.2;unfold dY aJ;rw[xj];simp;omega
 | when d t ih=>simp only[cI,Bool.and_eq_true,decide_eq_true_eq] at h;have:=Ll (n:=d) (by omega) (by omega);have:=ih h.2;unfold dY aJ;rw[xj];simp;omega
 | cond o l r a b=>simp only[cI,Bool.and_eq_true] at h;have:=Fq o h.1;have:=a h.2.1;have:=b h.2.2;unfold dY aJ;rw[Lk];simp;omega
def TabW (w : World): Prop := Lib.TabIs Tryz.prog w "internal/strconv.uint64pow10" .u64 Lib.pow10Tab
theorem TabW.af {w w':World}(h:TabW w)(f:Fr none1 w w'):TabW w':=by
 unfold TabW Lib.TabIs World.var? at h ⊢;cases hg : Tryz.prog.globalNamed "internal/strconv.uint64pow10" with
 | none=>rw[hg] at h;cases h
 | some g=>
  rw[hg] at h;simp only[Option.bind_some] at h ⊢;split at h
  case h_1 cs T fr hb=>rw[f.af hb];exact h
  case h_2=>cases h
theorem TA (w:World)(k:Nat)(os:Array Obj):Fr none1 w (Go.Sort.grow (w.drewN k) os):=by
 refine⟨rfl,rfl,rfl,?_,fun i hi _=>?_⟩
 ·show w.heap.size<=(w.heap++os).size
  rw[Array.size_append];omega
 ·show(w.heap++os)[i]? = _
  rw[Array.getElem?_append_left hi]
theorem Lm (n:Int)(h0:-9223372036854775808<=n)(h1:n<=9223372036854775807)(w:World)(ht:TabW w):Ret Tryz.prog 220 #[.int .i64 n] w fun r w'=>r=.string (str (Lib.itoa n))/\Fr none1 w w':=by
 refine(Tryz.strconv_Itoa n h0 h1 w ht).mono ?_;rintro e w' ⟨rfl,k,os,rfl⟩;exact⟨_,rfl,rfl,TA w k os⟩
theorem TC {w w':World}(h:Go.RowKit.Below w.heap.size w w'):Fr none1 w w':=by
 obtain⟨a,b,c,d,e⟩:=h;exact⟨a,b,c,d,fun k U _=>e k U⟩
theorem oU {w:World}{v:Sl}{xs:List (List UInt8)}(h:gE w v xs)(ay:xs≠[])(wd:List UInt8)(hl:(gM wd xs).length<=10000000):
  Ret Tryz.prog 218 #[.string (str wd),.slice v.1 v.2.1 v.2.2] w fun r w'=>r=.string (str (gM wd xs))/\Fr none1 w w':=by
 refine c218 (str wd) v.1 v.2.1 v.2.2 w _ ?_;have cM:=h.len;have hj:(gM wd xs).length=wd.length+1+(Lib.join xs [44]).length+1:=by unfold gM;simp;omega
 rcases h with⟨rfl,jF⟩ | ⟨g,off,cs,hv,hb,hle,wA,hn,he⟩
 ·rw[List.map_eq_nil_iff] at jF
  exact absurd jF ay
 rw[Nat.mul_one] at wA;rw[List.length_map] at hn;have Ln:(xs.map str).map (fun x:ByteArray=>x.data.toList)=xs:=by
  rw[List.map_map]
  conv=>rhs;rw[<- List.map_id xs]
  exact List.map_congr_left fun x _=>ke x
 have hlj:xs.length<=(Lib.join xs [44]).length+1:=by
  have h2:∀ l:List (List UInt8),l≠[]->l.length<=(Lib.join l [44]).length+1:=by
   intro l hl;cases l with
   | nil=>exact absurd rfl hl
   | cons x r=>rw[Lib.join_cons,List.length_append,Lib.joinTail_length];simp;omega
  exact h2 xs ay
 have hJ:=Tryz.strings_Join g off v.2.2 (xs.map str) (⟨#[44]⟩:ByteArray) w (fun j x hx=>by
   rw[pF hb];rw[List.getElem?_map] at hx;obtain⟨y,hy,rfl⟩:=Option.map_eq_some_iff.1 hx;have hj:=(List.getElem?_eq_some_iff.1 hy).1;rw[he j (by rw[List.length_map];exact hj),List.getElem?_map,hy];rfl) (bQ hb) (by rw[List.length_map];omega) (by rw[List.length_map];omega) (by rw[Ln];show(Lib.join xs [44]).length<=_;omega)
 rw[Ln,List.length_map] at hJ;rw[hv];have sz:(str wd).size=wd.length:=dR wd;have e40:(⟨#[40]⟩:ByteArray)=str [40]:=rfl;have e41:(⟨#[41]⟩:ByteArray)=str [41]:=rfl;unfold C218;rw[e40,e41];have im:IntKind.i64.max=9223372036854775807:=rfl;refine⟨by rw[sz,dR,im];simp;omega,?_⟩;rw[cM];refine ab.of (R:=fun r w'=>r=.string (str (Lib.join xs [44]))/\Fr none1 w w') (hJ.mono ?_) ?_
 ·rintro e w' ⟨rfl,hB⟩
  exact⟨_,rfl,rfl,TC hB⟩
 rintro _ w1 ⟨rfl,f1⟩;refine⟨_,rfl,?_⟩;rw[yO];refine⟨by rw[dR,dR,im];simp;omega,?_⟩;rw[yO];refine⟨by rw[dR,dR,im];simp;omega,?_⟩;rw[yO];exact⟨rfl,f1⟩
theorem oV {w:World}(xs:List (List UInt8))(hl:xs.length<=100){K:Option Addr×Nat×Nat->World->Prop}(k:∀ (u:Sl) w',gE w' u xs->Fr none1 w w'->K u w'):
  az Tryz.prog (Instr.buildSlice 51 xs.length (((xs.map sv).zipIdx.map fun(v,i)=>(i,v)).toArray)) w (.v (.one .aj)) (fun(x:Option Addr×Nat×Nat) w1=>K x w1):=by
 obtain⟨x,w1,hr,hx,kN,f1,hf⟩:=rJ (P:=Tryz.prog) (w:=w) wS (xs.map sv) (by intro v hv;obtain⟨x,_,rfl⟩:=List.mem_map.1 hv;rfl) (by rw[List.length_map];omega);rw[List.length_map] at hr;exact⟨x,w1,hr,k x w1 hx f1⟩
theorem rV (o:Ob)(hf:cX o=true)(hn:bA o<=10000)(w:World)(ht:TabW w):Ret Tryz.prog 219 #[o.v] w fun r w'=>r=.string (str (fT o))/\Fr none1 w w':=by
 refine c219 o.v w _ ?_;unfold C219;have hL:=Fq o hf;cases o with
 | none=>cases hf
 | const n=>
  have hv:=Fo hf;refine ao.hit (n,()) rfl (cK (zs:=[.int .i64 0]) (vs:=[.int .i64 n]) rfl rfl fun g w1 _ hb f1=>ae.ah hb (x:=n) rfl ?_);refine ab.of (Lm n (by omega) (by omega) w1 (ht.af f1)) ?_;rintro _ w2 ⟨rfl,f2⟩;exact⟨_,rfl,rfl,f1.trans f2⟩
 | fix s=>
  refine ao.aL rfl (by decide) (ao.hit (str s,()) rfl (cK (zs:=[.string (⟨#[]⟩:ByteArray)]) (vs:=[.string (str s)]) rfl rfl fun g w1 _ hb f1=>ae.ah hb (x:=str s) rfl ?_));refine oV (w:=w1) [s] (by simp) fun u w2 hu f2=>?_;refine ab.of (oU hu (by simp) [102,105,120] (by unfold fT bA at hL;omega)) ?_;rintro _ w3 ⟨rfl,f3⟩;exact⟨_,rfl,rfl,(f1.trans f2).trans f3⟩
 | neg x=>
  have ku:bA x<=10000:=by unfold bA at hn;omega
  refine ao.aL rfl (by decide) (ao.aL rfl (by decide) (ao.aL rfl (by decide) (ao.hit (x.v,()) rfl (cK (zs:=[.nilIface]) (vs:=[x.v]) rfl (by simp[Ob.bU]) fun g w1 _ hb f1=>ae.ah (c:=.raw) hb (x:=x.v) rfl ?_))));refine ab.of (rV x hf ku w1 (ht.af f1)) ?_;rintro _ w2 ⟨rfl,f2⟩;refine⟨_,rfl,?_⟩;refine oV (w:=w2) [fT x] (by simp) fun u w3 hu f3=>?_;refine ab.of (oU hu (by simp) [110,101,103] (by unfold fT bA at hL;omega)) ?_;rintro _ w4 ⟨rfl,f4⟩;exact⟨_,rfl,rfl,((f1.trans f2).trans f3).trans f4⟩
 | add l r=>
  simp only[cX,Bool.and_eq_true] at hf;have nY:bA l<=10000:=by unfold bA at hn;omega
  have pX:bA r<=10000:=by unfold bA at hn;omega
  refine ao.aL rfl (by decide) (ao.aL rfl (by decide) (ao.hit (l.v,r.v,()) rfl (cK (zs:=[.nilIface,.nilIface]) (vs:=[l.v,r.v]) rfl (by simp[Ob.bU]) fun g w1 _ hb f1=>?_)));refine aD.of fun w2 _ f2=>aV.all ?_;have aK:=f2.af hb;refine av.all (ae.ah (c:=.raw) aK (x:=l.v) rfl (av.all (ae.ah (c:=.raw) aK (x:=r.v) rfl ?_)));refine ab.of (rV l hf.1 nY w2 ((ht.af f1).af f2)) ?_;rintro _ w3 ⟨rfl,f3⟩;refine⟨_,rfl,ai.of f3 ?_⟩;refine ab.of (rV r hf.2 pX w3 (((ht.af f1).af f2).af f3)) ?_;rintro _ w4 ⟨rfl,f4⟩;refine⟨_,rfl,ai.of f4 ?_⟩;refine oV (w:=w4) [fT l,fT r] (by simp) fun u w5 hu f5=>ai.of f5 ?_;refine ab.of (oU hu (by simp) [97,100,100] (by unfold fT bA at hL;omega)) ?_;rintro _ w6 ⟨rfl,f6⟩;exact⟨_,rfl,ai.of f6 ⟨rfl,(f1.trans f2).trans (((f3.trans f4).trans f5).trans f6)⟩⟩
 | mul l r=>
  simp only[cX,Bool.and_eq_true] at hf;have nY:bA l<=10000:=by unfold bA at hn;omega
  have pX:bA r<=10000:=by unfold bA at hn;omega
  refine ao.aL rfl (by decide) (ao.aL rfl (by decide) (ao.aL rfl (by decide) (ao.aL rfl (by decide) (ao.hit (l.v,r.v,()) rfl (cK (zs:=[.nilIface,.nilIface]) (vs:=[l.v,r.v]) rfl (by simp[Ob.bU]) fun g w1 _ hb f1=>?_)))));refine aD.of fun w2 _ f2=>aV.all ?_;have aK:=f2.af hb;refine av.all (ae.ah (c:=.raw) aK (x:=l.v) rfl (av.all (ae.ah (c:=.raw) aK (x:=r.v) rfl ?_)));refine ab.of (rV l hf.1 nY w2 ((ht.af f1).af f2)) ?_;rintro _ w3 ⟨rfl,f3⟩;refine⟨_,rfl,ai.of f3 ?_⟩;refine ab.of (rV r hf.2 pX w3 (((ht.af f1).af f2).af f3)) ?_;rintro _ w4 ⟨rfl,f4⟩;refine⟨_,rfl,ai.of f4 ?_⟩;refine oV (w:=w4) [fT l,fT r] (by simp) fun u w5 hu f5=>ai.of f5 ?_;refine ab.of (oU hu (by simp) [109,117,108] (by unfold fT bA at hL;omega)) ?_;rintro _ w6 ⟨rfl,f6⟩;exact⟨_,rfl,ai.of f6 ⟨rfl,(f1.trans f2).trans (((f3.trans f4).trans f5).trans f6)⟩⟩
 | max l r=>
  simp only[cX,Bool.and_eq_true] at hf;have nY:bA l<=10000:=by unfold bA at hn;omega
  have pX:bA r<=10000:=by unfold bA at hn;omega
  refine ao.aL rfl (by decide) (ao.aL rfl (by decide) (ao.aL rfl (by decide) (ao.aL rfl (by decide) (ao.aL rfl (by decide) (ao.hit (l.v,r.v,()) rfl (cK (zs:=[.nilIface,.nilIface]) (vs:=[l.v,r.v]) rfl (by simp[Ob.bU]) fun g w1 _ hb f1=>?_))))));refine aD.of fun w2 _ f2=>aV.all ?_;have aK:=f2.af hb;refine av.all (ae.ah (c:=.raw) aK (x:=l.v) rfl (av.all (ae.ah (c:=.raw) aK (x:=r.v) rfl ?_)));refine ab.of (rV l hf.1 nY w2 ((ht.af f1).af f2)) ?_;rintro _ w3 ⟨rfl,f3⟩;refine⟨_,rfl,ai.of f3 ?_⟩;refine ab.of (rV r hf.2 pX w3 (((ht.af f1).af f2).af f3)) ?_;rintro _ w4 ⟨rfl,f4⟩;refine⟨_,rfl,ai.of f4 ?_⟩;refine oV (w:=w4) [fT l,fT r] (by simp) fun u w5 hu f5=>ai.of f5 ?_;refine ab.of (oU hu (by simp) [109,97,120] (by unfold fT bA at hL;omega)) ?_;rintro _ w6 ⟨rfl,f6⟩;exact⟨_,rfl,ai.of f6 ⟨rfl,(f1.trans f2).trans (((f3.trans f4).trans f5).trans f6)⟩⟩
theorem qW (t:Tm)(hf:cI t=true)(hn:aJ t<=10000)(w:World)(ht:TabW w):Ret Tryz.prog 172 #[t.v] w fun r w'=>r=.string (str (dY t))/\Fr none1 w w':=by
 refine c172 t.v w _ ?_;unfold C172;have hL:=Tz t hf;cases t with
 | none=>cases hf
 | zero=>exact ao.hit () rfl (cK (zs:=[]) (vs:=[]) rfl rfl fun g w1 _ hb f1=>⟨rfl,f1⟩)
 | one s=>
  refine ao.aL rfl (by decide) (ao.hit (str s,()) rfl (cK (zs:=[.string (⟨#[]⟩:ByteArray)]) (vs:=[.string (str s)]) rfl rfl fun g w1 _ hb f1=>ae.ah hb (x:=str s) rfl ?_));refine oV (w:=w1) [s] (by simp) fun u w2 hu f2=>?_;refine ab.of (oU hu (by simp) [111,110,101] (by unfold dY aJ at hL;omega)) ?_;rintro _ w3 ⟨rfl,f3⟩;exact⟨_,rfl,rfl,(f1.trans f2).trans f3⟩
 | gD x=>
  have ku:aJ x<=10000:=by unfold aJ at hn;omega
  refine ao.aL rfl (by decide) (ao.aL rfl (by decide) (ao.hit (x.v,()) rfl (cK (zs:=[.nilIface]) (vs:=[x.v]) rfl (by simp[Tm.bU]) fun g w1 _ hb f1=>ae.ah (c:=.raw) hb (x:=x.v) rfl ?_)));refine ab.of (qW x hf ku w1 (ht.af f1)) ?_;rintro _ w2 ⟨rfl,f2⟩;refine⟨_,rfl,?_⟩;refine oV (w:=w2) [dY x] (by simp) fun u w3 hu f3=>?_;refine ab.of (oU hu (by simp) [103,105,118,101] (by unfold dY aJ at hL;omega)) ?_;rintro _ w4 ⟨rfl,f4⟩;exact⟨_,rfl,rfl,((f1.trans f2).trans f3).trans f4⟩
 | and l r=>
  simp only[cI,Bool.and_eq_true] at hf;have nY:aJ l<=10000:=by unfold aJ at hn;omega
  have pX:aJ r<=10000:=by unfold aJ at hn;omega
  refine ao.aL rfl (by decide) (ao.aL rfl (by decide) (ao.aL rfl (by decide) (ao.hit (l.v,r.v,()) rfl (cK (zs:=[.nilIface,.nilIface]) (vs:=[l.v,r.v]) rfl (by simp[Tm.bU]) fun g w1 _ hb f1=>?_))));refine aD.of fun w2 _ f2=>aV.all ?_;have aK:=f2.af hb;refine av.all (ae.ah (c:=.raw) aK (x:=l.v) rfl (av.all (ae.ah (c:=.raw) aK (x:=r.v) rfl ?_)));refine ab.of (qW l hf.1 nY w2 ((ht.af f1).af f2)) ?_;rintro _ w3 ⟨rfl,f3⟩;refine⟨_,rfl,ai.of f3 ?_⟩;refine ab.of (qW r hf.2 pX w3 (((ht.af f1).af f2).af f3)) ?_;rintro _ w4 ⟨rfl,f4⟩;refine⟨_,rfl,ai.of f4 ?_⟩;refine oV (w:=w4) [dY l,dY r] (by simp) fun u w5 hu f5=>ai.of f5 ?_;refine ab.of (oU hu (by simp) [97,110,100] (by unfold dY aJ at hL;omega)) ?_;rintro _ w6 ⟨rfl,f6⟩;exact⟨_,rfl,ai.of f6 ⟨rfl,(f1.trans f2).trans (((f3.trans f4).trans f5).trans f6)⟩⟩
 | or s l r=>
  simp only[cI,Bool.and_eq_true] at hf;have nY:aJ l<=10000:=by unfold aJ at hn;omega
  have pX:aJ r<=10000:=by unfold aJ at hn;omega
  refine ao.aL rfl (by decide) (ao.aL rfl (by decide) (ao.aL rfl (by decide) (ao.aL rfl (by decide) (ao.hit (str s,l.v,r.v,()) rfl (cK (zs:=[.string (⟨#[]⟩:ByteArray),.nilIface,.nilIface]) (vs:=[.string (str s),l.v,r.v]) rfl (by simp[Tm.bU,oP]) fun g w1 _ hb f1=>?_)))));refine aD.of fun w2 _ f2=>aV.all ?_;have aK:=f2.af hb;refine av.all (ae.ah aK (x:=str s) rfl (av.all (ae.ah (c:=.raw) aK (x:=l.v) rfl (av.all (ae.ah (c:=.raw) aK (x:=r.v) rfl ?_)))));refine ab.of (qW l hf.2.1 nY w2 ((ht.af f1).af f2)) ?_;rintro _ w3 ⟨rfl,f3⟩;refine⟨_,rfl,ai.of f3 ?_⟩;refine ab.of (qW r hf.2.2 pX w3 (((ht.af f1).af f2).af f3)) ?_;rintro _ w4 ⟨rfl,f4⟩;refine⟨_,rfl,ai.of f4 ?_⟩;refine oV (w:=w4) [s,dY l,dY r] (by simp) fun u w5 hu f5=>ai.of f5 ?_;refine ab.of (oU hu (by simp) [111,114] (by unfold dY aJ at hL;omega)) ?_;rintro _ w6 ⟨rfl,f6⟩;exact⟨_,rfl,ai.of f6 ⟨rfl,(f1.trans f2).trans (((f3.trans f4).trans f5).trans f6)⟩⟩
 | scale o x=>
  simp only[cI,Bool.and_eq_true] at hf;have gS:bA o<=10000:=by unfold aJ at hn;omega
  have ku:aJ x<=10000:=by unfold aJ at hn;omega
  refine ao.aL rfl (by decide) (ao.aL rfl (by decide) (ao.aL rfl (by decide) (ao.aL rfl (by decide) (ao.aL rfl (by decide) (ao.hit (o.v,x.v,()) rfl (cK (zs:=[.nilIface,.nilIface]) (vs:=[o.v,x.v]) rfl (by simp[Tm.bU,Ob.bU]) fun g w1 _ hb f1=>?_))))));refine aD.of fun w2 _ f2=>aV.all ?_;have aK:=f2.af hb;refine av.all (ae.ah (c:=.raw) aK (x:=o.v) rfl (av.all (ae.ah (c:=.raw) aK (x:=x.v) rfl ?_)));refine ab.of (rV o hf.1 gS w2 ((ht.af f1).af f2)) ?_;rintro _ w3 ⟨rfl,f3⟩;refine⟨_,rfl,ai.of f3 ?_⟩;refine ab.of (qW x hf.2 ku w3 (((ht.af f1).af f2).af f3)) ?_;rintro _ w4 ⟨rfl,f4⟩;refine⟨_,rfl,ai.of f4 ?_⟩;refine oV (w:=w4) [fT o,dY x] (by simp) fun u w5 hu f5=>ai.of f5 ?_;refine ab.of (oU hu (by simp) [115,99,97,108,101] (by unfold dY aJ at hL;omega)) ?_;rintro _ w6 ⟨rfl,f6⟩;exact⟨_,rfl,ai.of f6 ⟨rfl,(f1.trans f2).trans (((f3.trans f4).trans f5).trans f6)⟩⟩
 | when d x=>
  simp only[cI,Bool.and_eq_true,decide_eq_true_eq] at hf;have ku:aJ x<=10000:=by unfold aJ at hn;omega
  refine ao.aL rfl (by decide) (ao.aL rfl (by decide) (ao.aL rfl (by decide) (ao.aL rfl (by decide) (ao.aL rfl (by decide) (ao.aL rfl (by decide) (ao.hit (d,x.v,()) rfl (cK (zs:=[.int .i64 0,.nilIface]) (vs:=[.int .i64 d,x.v]) rfl (by simp[Tm.bU,pP]) fun g w1 _ hb f1=>?_)))))));refine aD.of fun w2 _ f2=>aV.all ?_;have aK:=f2.af hb;refine av.all (ae.ah aK (x:=d) rfl (av.all (ae.ah (c:=.raw) aK (x:=x.v) rfl ?_)));refine ab.of (Lm d (by omega) (by omega) w2 ((ht.af f1).af f2)) ?_;rintro _ w3 ⟨rfl,f3⟩;refine⟨_,rfl,ai.of f3 ?_⟩;refine ab.of (qW x hf.2 ku w3 (((ht.af f1).af f2).af f3)) ?_;rintro _ w4 ⟨rfl,f4⟩;refine⟨_,rfl,ai.of f4 ?_⟩;refine oV (w:=w4) [Lib.itoa d,dY x] (by simp) fun u w5 hu f5=>ai.of f5 ?_;refine ab.of (oU hu (by simp) [119,104,101,110] (by unfold dY aJ at hL;omega)) ?_;rintro _ w6 ⟨rfl,f6⟩;exact⟨_,rfl,ai.of f6 ⟨rfl,(f1.trans f2).trans (((f3.trans f4).trans f5).trans f6)⟩⟩
 | cond o l r=>
  simp only[cI,Bool.and_eq_true] at hf;have gS:bA o<=10000:=by unfold aJ at hn;omega
  have nY:aJ l<=10000:=by unfold aJ at hn;omega
  have pX:aJ r<=10000:=by unfold aJ at hn;omega
  refine ao.aL rfl (by decide) (ao.aL rfl (by decide) (ao.aL rfl (by decide) (ao.aL rfl (by decide) (ao.aL rfl (by decide) (ao.aL rfl (by decide) (ao.aL rfl (by decide) (ao.hit (o.v,l.v,r.v,()) rfl (cK (zs:=[.nilIface,.nilIface,.nilIface]) (vs:=[o.v,l.v,r.v]) rfl (by simp[Tm.bU,Ob.bU]) fun g w1 _ hb f1=>?_))))))));refine aD.of fun w2 _ f2=>aV.all ?_;have aK:=f2.af hb;refine av.all (ae.ah (c:=.raw) aK (x:=o.v) rfl (av.all (ae.ah (c:=.raw) aK (x:=l.v) rfl (av.all (ae.ah (c:=.raw) aK (x:=r.v) rfl ?_)))));refine ab.of (rV o hf.1 gS w2 ((ht.af f1).af f2)) ?_;rintro _ w3 ⟨rfl,f3⟩;refine⟨_,rfl,ai.of f3 ?_⟩;refine ab.of (qW l hf.2.1 nY w3 (((ht.af f1).af f2).af f3)) ?_;rintro _ w4 ⟨rfl,f4⟩;refine⟨_,rfl,ai.of f4 ?_⟩;refine ab.of (qW r hf.2.2 pX w4 ((((ht.af f1).af f2).af f3).af f4)) ?_;rintro _ w5 ⟨rfl,f5⟩;refine⟨_,rfl,ai.of f5 ?_⟩;refine oV (w:=w5) [fT o,dY l,dY r] (by simp) fun u w6 hu f6=>ai.of f6 ?_;refine ab.of (oU hu (by simp) [105,102] (by unfold dY aJ at hL;omega)) ?_;rintro _ w7 ⟨rfl,f7⟩;exact⟨_,rfl,ai.of f7 ⟨rfl,(f1.trans f2).trans ((((f3.trans f4).trans f5).trans f6).trans f7)⟩⟩
theorem TD (s:List UInt8)(w:World):Ret Tryz.prog 171 #[.string (str s)] w fun r w'=>r=.tuple #[.string (str (if 1000<s.length then[] else s)),.int .i64 (if 1000<s.length then 5 else 0)]/\w=w':=by
 refine c171 (str s) w _ ?_;unfold C171;rw[dR];refine aa.dec (fun h=>?_) (fun h=>?_)
 ·rw[if_pos (by omega),if_pos (by omega)];exact⟨rfl,rfl⟩
 ·rw[if_neg (by omega),if_neg (by omega)];exact⟨rfl,rfl⟩
theorem Fs {t:Tm}(h:jJ t=0):cI t=true/\aJ t<=60/\cA t<=12:=by
 unfold jJ at h
 repeat' split at h
 all_goals first | (exact absurd h (by decide)) | skip
 rename_i h1 h2 h3 _;exact⟨by simpa using h1,by omega,by omega⟩
theorem BT (t:Tm)(hn:aJ t<=1000000)(w:World)(ht:TabW w):Ret Tryz.prog 132 #[t.v] w fun r w'=>r=.tuple #[.string (str (bp t).1),.int .i64 (bp t).2]/\Fr none1 w w':=by
 refine c132 t.v w _ ?_;refine ab.of (Fa t hn w) ?_;rintro _ w1 ⟨rfl,f1⟩;unfold bp;refine⟨_,rfl,aa.ne (fun h=>?_) (fun h=>?_)⟩
 ·rw[if_pos h];exact⟨rfl,f1⟩
 rw[if_neg (fun t=>t h)];have hc:=Fs h;refine ab.of (qW t hc.1 (by omega) w1 (ht.af f1)) ?_;rintro _ w2 ⟨rfl,f2⟩;refine⟨_,rfl,?_⟩;have BU:=TD (dY t) w2
 by_cases hl:1000<(dY t).length
 ·rw[if_pos hl,if_pos hl] at BU
  rw[if_pos hl];refine ab.of BU ?_;rintro _ _ ⟨rfl,rfl⟩;exact⟨(str [],5,()),rfl,rfl,f1.trans f2⟩
 ·rw[if_neg hl,if_neg hl] at BU
  rw[if_neg hl];refine ab.of BU ?_;rintro _ _ ⟨rfl,rfl⟩;exact⟨(str (dY t),0,()),rfl,rfl,f1.trans f2⟩
def kd (r:Int):Int:=if isLet r then 97 else if r=45 then 97 else if r=40 then 40 else if r=41 then 40 else if r=44 then 40 else if r=32 then 32 else 0
theorem TE (r:Int)(w:World):Ret Tryz.prog 299 #[.int .i32 r] w fun v w'=>v=.int .u8 (kd r)/\w=w':=by
 refine c299 r w _ ?_;refine ab.of (KG r w) ?_;rintro _ _ ⟨rfl,rfl⟩;refine⟨_,rfl,?_⟩;unfold kd;refine aa.by (fun h1=>?_) (fun h1=>?_)
 ·rw[if_pos h1];exact⟨rfl,rfl⟩
 rw[if_neg (by simp[h1])];refine aa.eq (fun h=>?_) (fun h=>?_)
 ·rw[if_pos h];exact⟨rfl,rfl⟩
 rw[if_neg h];refine aa.eq (fun h=>?_) (fun h=>?_)
 ·rw[if_pos h];exact⟨rfl,rfl⟩
 rw[if_neg h];refine aa.eq (fun h=>?_) (fun h=>?_)
 ·rw[if_pos h];exact⟨rfl,rfl⟩
 rw[if_neg h];refine aa.eq (fun h=>?_) (fun h=>?_)
 ·rw[if_pos h];exact⟨rfl,rfl⟩
 rw[if_neg h];refine aa.eq (fun h=>?_) (fun h=>?_)
 ·rw[if_pos h];exact⟨rfl,rfl⟩
 rw[if_neg h];exact⟨rfl,rfl⟩
abbrev dH:=List UInt8×Int
def nh (l:List dH):List Value:=l.flatMap fun x=>[.string (str x.1),.int .i64 x.2]
theorem u9 (l:List dH):(nh l).length=l.length * 2:=by
 induction l with
 | nil=>rfl
 | cons x l ih=>unfold nh at *;rw[List.flatMap_cons,List.length_append,ih];simp;omega
theorem Ft (a b:List dH):nh (a++b)=nh a++nh b:=by unfold nh;rw[List.flatMap_append]
theorem Lo:∀ (l:List dH) (i:Nat) (x:dH),l[i]? = some x->(nh l)[i * 2]? = some (.string (str x.1))/\(nh l)[i * 2+1]? = some (.int .i64 x.2)
 | [],i,x,h=>by simp at h
 | y::l,0,x,h=>by
  simp at h;subst h;exact⟨rfl,rfl⟩
 | y::l,i+1,x,h=>by
  have:=Lo l i x (by simpa using h);rw[show(i+1) * 2=i * 2+2 by omega,show i * 2+2+1=i * 2+1+2 by omega];exact this
theorem Lp:il Tryz.prog 408 451 2 (.agg #[.string ByteArray.empty,.int .i64 0]) 24:=⟨Tryz.underlying408,⟨Tryz.t451,by kernel_rfl,rfl,rfl,rfl⟩,rfl,by decide⟩
structure ni (w:World)(v:Sl)(l:List dH):Prop where
 sl:aF w 451 2 v (nh l)
 len:v.2.1=l.length
theorem ni.ag {w w':World}{v:Sl}{l:List dH}(h:ni w v l){S:Nat->Prop}(f:Fr S w w')(hn:∀ k,aw v k->¬ S k):ni w' v l:=⟨h.sl.ag f hn,h.len⟩
theorem Fu (w:World):ni w (none,0,0) []:=⟨.inl ⟨rfl,rfl⟩,rfl⟩
theorem TF {w:World}{v:Sl}{l:List dH}(h:ni w v l)(x:List UInt8)(at_:Int)(hl:l.length<=10000000){K:Sl->World->Prop}
  (hK:∀ y w',ni w' y (l++[(x,at_)])->Fr (aw v) w w'->(∀ k,aw y k->aw v k\/w.heap.size<=k)->K y w') :
  az Tryz.prog (Instr.buildSlice 408 1 #[(0,.agg #[.string (str x),.int .i64 at_])]) w (.v (.one .aj)) fun(y:Option Addr×Nat×Nat) w'=>
   az Tryz.prog (Builtin.append_ #[408,408] 408 #[.slice v.1 v.2.1 v.2.2,.slice y.1 y.2.1 y.2.2]) w' (.v (.one .aj)) fun(u:Option Addr×Nat×Nat) nN=>K u nN:=by
 obtain⟨y,w1,r1,hy,gT,f1,yf⟩:=En (w:=w) Lp 1 #[(0,.agg #[.string (str x),.int .i64 at_])] #[.string (str x),.int .i64 at_] (by omega) (by
  simp[Instr.fill,Value.cells];refine Array.ext (by simp) fun i h1 h2=>?_;have:i=0\/i=1:=by simp at h2;omega
  rcases this with t | t<;>subst t<;>simp) rfl
 refine⟨y,w1,r1,?_⟩;have cM:=h.len;obtain⟨z,w2,r2,hz,hzl,f2,zf⟩:=gA Lp 408 (h.sl.af f1) hy.rd (by intro v hv;simp at hv;rcases hv with rfl | rfl<;>rfl) (by rw[gT,cM];omega)
 refine⟨z,w2,r2,hK z w2 ⟨?_,?_⟩ (f1.eL f2) fun k U=>?_⟩
 ·rw[Ft];exact hz
 ·rw[hzl,gT,cM,List.length_append];rfl
 ·rcases zf k U with t | t
  ·exact .inl t
  ·exact .inr (Nat.le_trans f1.size t)
theorem BV {w:World}{v:Sl}{l:List dH}(h:ni w v l){i:Int}(h0:0<=i)(h1:i<v.2.1){x:dH}(hx:l[i.toNat]? = some x){K:Addr->Prop}
  (hK:∀ a:Addr,(∀ (K:ByteArray->Prop),K (str x.1)->ae .str (a.add 0) w K)->(∀ (K:Int->Prop),K x.2->ae (.int .i64) (a.add 1) w K)->(∀ (K:ByteArray×Int×Unit->Prop),K (str x.1,x.2,())->aq [.str,.int .i64] a w K)->K a):bK v.1 v.2.1 i 2 K:=by
 obtain⟨hs,hl⟩:=h;obtain⟨c1,c2⟩:=Lo l i.toNat x hx
 rcases hs with⟨rfl,jF⟩ | ⟨g,off,cs,hv,hb,hle,hc,hn,he⟩
 ·dsimp only at h1;omega
 ·refine⟨_,hv,h0,h1,?_⟩
  rw[dP];have hlen:=u9 l;have hi:i.toNat<l.length:=by omega
  have e0:w.cell? (⟨g,off+i.toNat * 2,none⟩:Addr)=some (.string (str x.1)):=by
   rw[pF hb,he _ (by omega)];exact c1
  have e1:w.cell? (⟨g,off+i.toNat * 2+1,none⟩:Addr)=some (.int .i64 x.2):=by
   rw[pF hb,show off+i.toNat * 2+1=off+(i.toNat * 2+1) by omega,he _ (by omega)];exact c2
  have a0:((⟨g,off+i.toNat * 2,none⟩:Addr).add 0)=⟨g,off+i.toNat * 2,none⟩:=by rw[dP];rfl
  have a1:((⟨g,off+i.toNat * 2,none⟩:Addr).add 1)=⟨g,off+i.toNat * 2+1,none⟩:=by rw[dP]
  refine hK _ (fun K k=>ae.cell (by rw[a0];exact e0) k) (fun K k=>ae.cell (by rw[a1];exact e1) k) (fun K k=>⟨_,⟨by rw[a0];exact e0,by rw[a1];exact e1,trivial⟩,k⟩)
def qX (l:List dH)(x:List UInt8):List dH:=l.dropLast++[((l.getLastD ([],0)).1++x,(l.getLastD ([],0)).2)]
theorem Lq (l:List dH)(h:l≠[]):∃ a y,l=a++[y]:=⟨l.dropLast,l.getLast h,(List.dropLast_concat_getLast h).symm⟩
theorem Fv (a:List dH)(y:dH)(x:List UInt8):qX (a++[y]) x=a++[(y.1++x,y.2)]:=by
 unfold qX;simp
theorem TG {w:World}{v:Sl}{a:List dH}{y:dH}(h:ni w v (a++[y]))(x:List UInt8){i:Int}(hi:i=(v.2.1:Int) - 1)(hsz:y.1.length+x.length<=1000000000000){K:World->Prop}
  (hK:∀ w',ni w' v (a++[(y.1++x,y.2)])->Fr (aw v) w w'->K w') :
  bK v.1 v.2.1 i 2 (fun p=>ae .str (p.add 0) w fun t=>vV t (Utf8.encode 0 |> fun _=>str x) (bK v.1 v.2.1 i 2 fun q=>aA (q.add 0) (.string (t++str x)) w K)):=by
 have hl:=h.len;rw[List.length_append,List.length_singleton] at hl;refine BV h (x:=y) (by omega) (by omega) (by rw[show i.toNat=a.length by omega];simp) fun p h0 h1 h2=>?_;refine h0 _ ?_;refine⟨by rw[dR,dR];show((y.1.length+x.length:Nat):Int)<=9223372036854775807;omega,?_⟩;rw[yO];obtain⟨hs,_⟩:=h
 rcases hs with⟨rfl,jF⟩ | ⟨g,off,cs,hv,hb,hle,hc,hn,he⟩
 ·dsimp only at hl;omega
 ·refine⟨_,hv,by omega,by omega,?_⟩
  rw[dP,dP];have hlen:=u9 (a++[y]);have BW:=u9 a;rw[List.length_append,List.length_singleton] at hlen;have hit:i.toNat=a.length:=by omega
  refine aA.of hb (by omega) rfl fun w1 au f1 ka=>hK w1 ⟨.inr ⟨g,off,_,hv,au,hle,by simpa using hc,?_,fun j hj=>?_⟩,by rw[List.length_append,List.length_singleton];omega⟩ (f1.mono fun k _ U=>⟨_,hv,U⟩)
  ·rw[u9,List.length_append,List.length_singleton];omega
  ·rw[u9,List.length_append,List.length_singleton] at hj
   rw[hit,Array.getElem?_setIfInBounds,Ft];have BX:=he j (by omega);rw[Ft] at BX
   by_cases Lr:j<(nh a).length
   ·rw[if_neg (by omega),BX,List.getElem?_append_left Lr,List.getElem?_append_left Lr]
   ·rw[List.getElem?_append_right (by omega)] at BX ⊢
    by_cases h0:j - (nh a).length=0
    ·rw[if_pos (by omega),if_pos (by omega),h0];rfl
    ·rw[if_neg (by omega),BX]
     have:j - (nh a).length=1:=by omega
     rw[this];rfl
def eQ (acc:List dH)(at_:Int)(run:Bool):List Int->List dH×Int
 | []=>(acc,0)
 | r::rs=>if kd r=0 then([],at_+1) else if kd r=97/\run=true then eQ (qX acc (enc r)) (at_+1) true rs else
   if kd r≠32 then eQ (acc++[(enc r,at_+1)]) (at_+1) (kd r==97) rs else eQ acc (at_+1) false rs
def reads (rs:List Int):Nat:=(rs.takeWhile fun r=>kd r != 0).length
theorem TI (bs:List UInt8)(w:World)(hb:reads (cJ bs)<=1000000):Ret Tryz.prog 271 #[.string (str bs)] w fun v w'=>
  ∃ sl:Sl,v=.tuple #[.slice sl.1 sl.2.1 sl.2.2,.int .i64 (eQ [] 0 false (cJ bs)).2]/\ni w' sl (eQ [] 0 false (cJ bs)).1/\Fr none1 w w'/\∀ k,aw sl k->w.heap.size<=k:=by
 refine c271 _ w _ ?_;refine BA bs fun r w1 hr hit f1=>?_;have F0:Fr (only r) w1 w1:=Fr.refl _ _;have s1:=f1.size;refine bw.of (fun s w'=>∃ (acc:List dH) (rest:List Int),0<=s.2.1/\s.2.1+reads rest<=1000000/\ni w' s.1 acc/\(∀ k,aw s.1 k->w.heap.size<k)/\(s.2.2.1=true->acc≠[])/\acc.length<=s.2.1/\(∀ y∈acc,(y.1.length:Int)<=4 * s.2.1)/\jE w' r rest/\Fr none1 w w'/\eQ acc s.2.1 s.2.2.1 rest=eQ [] 0 false (cJ bs)) (fun _ w'=>mV w' r)
  ⟨[],_,Int.le_refl _,by dsimp only;omega,Fu _,(fun k ⟨a,ha,_⟩=>by cases ha),(fun t=>by cases t),by simp,(fun y hy=>by simp at hy),hit,f1,rfl⟩ ?_
 rintro _ ⟨v,at_,run,_⟩ w2 ⟨acc,rest,h0,Ec,hv,iC,ik,BW,zA,qL,f2,heq⟩;dsimp only at h0 Ec hv iC ik BW zA heq ⊢;refine Bx qL (fun c lJ pos w3 hc jV pH f3=>?_) (fun jF=>?_)
 ·subst hc
  have pI:Fr none1 w w3:=f2.fresh f3 (by omega);have qN:=hv.ag f3 (fun k U t=>by have:=iC k U;have:k=r:=t;omega);refine ab.of (TE c w3) ?_;rintro _ _ ⟨rfl,rfl⟩;refine⟨_,rfl,?_⟩;have ml:∀ w4,jE w4 r lJ->mV w4 r<mV w2 r:=fun w4 h4=>by rw[h4.left,qL.left];simp
  have TJ:eQ acc at_ run (c::lJ)=if kd c=0 then([],at_+1) else if kd c=97/\run=true then eQ (qX acc (enc c)) (at_+1) true lJ else
   if kd c≠32 then eQ (acc++[(enc c,at_+1)]) (at_+1) (kd c==97) lJ else eQ acc (at_+1) false lJ:=rfl
  rw[TJ] at heq;have e1:IntKind.i64.wrap (at_+1)=at_+1:=wI (by omega) (by omega);rw[e1];refine aa.eq (fun j9=>?_) (fun j9=>?_)
  ·rw[if_pos j9] at heq
   rw[<- heq];exact⟨(none,0,0),rfl,Fu _,pI,fun k ⟨a,ha,_⟩=>by cases ha⟩
  rw[if_neg j9] at heq;have yC:at_+1+reads lJ<=1000000:=by
   have:reads (c::lJ)=reads lJ+1:=by
    unfold reads;rw[List.takeWhile_cons_of_pos (by simpa using j9)];rfl
   omega
  have Bo:=KC c;refine cq.of (fun b w'=>w3=w'/\b.1=(decide (kd c=97)&&run)) ?_ ?_
  ·refine aa.eq (fun h=>?_) (fun h=>?_)
   ·exact⟨rfl,by rw[decide_eq_true h,Bool.true_and]⟩
   ·exact⟨rfl,by rw[decide_eq_false h,Bool.false_and]⟩
  rintro _ ⟨b,_⟩ _ ⟨rfl,Ls⟩;dsimp only at Ls ⊢;subst Ls;refine aa.by (fun Fw=>?_) (fun Fw=>?_)
  ·have Fy:kd c=97/\run=true:=by simpa using Fw
   obtain⟨ha,zB⟩:=Fy;rw[if_pos ⟨ha,zB⟩] at heq;obtain⟨a,y,rfl⟩:=Lq acc (ik zB);rw[Fv] at heq;have cM:=hv.len;rw[List.length_append,List.length_singleton] at cM;have hy4:=zA y (by simp);rw[wI (x:=(v.2.1:Int) - 1) (by omega) (by simp at BW;omega)];rw[EC];refine TG qN (enc c) rfl (by omega) fun w4 TK f4=>?_;have FA:∀ k,aw v k->k≠r:=fun k U=>by have:=iC k U;omega
   have th:=pH.ag f4 (fun t=>FA r t rfl);refine⟨⟨_,lJ,by omega,yC,TK,iC,fun _=>by simp,by simp at BW ⊢;omega,fun z hz=>?_,th,pI.comp f4 (fun k U t=>by have:=iC k t;omega),?_⟩,ml w4 th⟩
   ·rcases List.mem_append.1 hz with hz | hz
    ·have:=zA z (by simp[hz]);omega
    ·simp at hz;subst hz
     simp only[List.length_append];omega
   ·rw[ha];exact heq
  ·have Fy:¬ (kd c=97/\run=true):=by simpa using Fw
   rw[if_neg Fy] at heq;refine aa.ne (fun zC=>?_) (fun zC=>?_)
   ·rw[if_pos zC] at heq
    rw[EC];refine TF qN (enc c) (at_+1) (by omega) fun u w4 hu f4 uf=>?_;have FA:∀ k,aw v k->k≠r:=fun k U=>by have:=iC k U;omega
    have th:=pH.ag f4 (fun t=>FA r t rfl);have s3:=pH.lt;refine⟨⟨_,lJ,by omega,yC,hu,fun k U=>?_,fun _=>by simp,by simp;omega,fun z hz=>?_,th,pI.comp f4 (fun k U t=>by have:=iC k t;omega),heq⟩,ml w4 th⟩
    ·rcases uf k U with t | t
     ·exact iC k t
     ·omega
    ·rcases List.mem_append.1 hz with hz | hz
     ·have:=zA z hz;omega
     ·simp at hz;subst hz
      dsimp only;omega
   ·rw[if_neg (by simp[zC])] at heq
    refine⟨⟨acc,lJ,by omega,yC,qN,iC,fun t=>?_,by omega,fun z hz=>?_,pH,pI,?_⟩,ml w3 pH⟩
    ·rw[zC] at t;simp at t
    ·have:=zA z hz;omega
    ·rw[zC];exact heq
 ·subst jF
  rw[<- heq];exact⟨v,rfl,hv,f2,fun k U=>by have:=iC k U;omega⟩
def C319 (p0:ByteArray)(p1:ByteArray)(w:World)(K:Value->World->Prop):Prop:=
 ab Tryz.prog 329 #[.string p0,.string p1] w (.v (.one .str)) (fun(x1:ByteArray) w2=>K (.string x1) w2)
def pl319:aB:=.auto
theorem c319 (p0:ByteArray)(p1:ByteArray)(w:World)(K:Value->World->Prop)(h:C319 p0 p1 w K):Ret Tryz.prog 319 #[.string p0,.string p1] w K:=aC (by kernel_rfl) Tryz.func319 (p:=pl319) (Eq.mpr (by kernel_rfl) h)
def C329 (p0:ByteArray)(p1:ByteArray)(w:World)(K:Value->World->Prop):Prop:=
 ab Tryz.prog 343 #[.string p0,.string p1] w (.v (.one .bool)) (fun(x1:Bool) w2=>aa x1
 (ug p0 (p1.size:Int) p0.size (fun x3=>K (.string x3) w2))
 (K (.string p0) w2))
def pl329:aB:=.auto
theorem c329 (p0:ByteArray)(p1:ByteArray)(w:World)(K:Value->World->Prop)(h:C329 p0 p1 w K):Ret Tryz.prog 329 #[.string p0,.string p1] w K:=aC (by kernel_rfl) Tryz.func329 (p:=pl329) (Eq.mpr (by kernel_rfl) h)
def C343 (p0:ByteArray)(p1:ByteArray)(w:World)(K:Value->World->Prop):Prop:=
 aa (decide ((p0.size:Int) >= (p1.size:Int)))
 (ug p0 0 (p1.size:Int) (fun x1=>K (.bool (x1.toList==p1.toList)) w))
 (K (.bool false) w)
def pl343:aB:=.auto
theorem c343 (p0:ByteArray)(p1:ByteArray)(w:World)(K:Value->World->Prop)(h:C343 p0 p1 w K):Ret Tryz.prog 343 #[.string p0,.string p1] w K:=aC (by kernel_rfl) Tryz.func343 (p:=pl343) (Eq.mpr (by kernel_rfl) h)
def C320 (p0:ByteArray)(p1:ByteArray)(w:World)(K:Value->World->Prop):Prop:=
 aa (p0.toList==(⟨#[]⟩:ByteArray).toList)
 (K (.string p0) w)
 (aa (p1.toList==(⟨#[]⟩:ByteArray).toList)
 (K (.string p0) w)
 (cq (Bool×Unit) (fun J1=>aa ((p1.size:Int)==1)
 (oD p1 0 (fun x4=>J1 (decide (x4<128),()) w))
 (J1 (false,()) w))
 (fun _ s2 w3=>aa s2.1
 (oE w3 (fun C5=>oD p1 0 (fun x6=>fZ C5 3 [] (.v (.one .str)) (fun w8 k9=>ab Tryz.prog 331 #[.string p0,.int .u8 x6] w8 (.v (.one .str)) (fun(aR:ByteArray) aO=>k9 (.string aR) aO))
 (fun(x7:ByteArray)=>oD p1 0 (fun bt=>fZ C5 6 [3] (.v (.one .str)) (fun bm TL=>ab Tryz.prog 330 #[.string x7,.int .u8 bt] bm (.v (.one .str)) (fun(aQ:ByteArray) b9=>TL (.string aQ) b9))
 (fun(bD:ByteArray)=>(∀ bz,C5 (mem [3,6]) bz->K (.string bD) bz)))))))
 (ab Tryz.prog 332 #[.string p1] w3 (.aN [.arr,.one .bool]) (fun(bu:List Value×Bool×Unit) bo=>ak (.cells #[.bool false,.bool false,.bool false,.bool false,.bool false,.bool false,.bool false,.bool false,.bool false,.bool false,.bool false,.bool false,.bool false,.bool false,.bool false,.bool false,.bool false,.bool false,.bool false,.bool false,.bool false,.bool false,.bool false,.bool false,.bool false,.bool false,.bool false,.bool false,.bool false,.bool false,.bool false,.bool false,.bool false,.bool false,.bool false,.bool false,.bool false,.bool false,.bool false,.bool false,.bool false,.bool false,.bool false,.bool false,.bool false,.bool false,.bool false,.bool false,.bool false,.bool false,.bool false,.bool false,.bool false,.bool false,.bool false,.bool false,.bool false,.bool false,.bool false,.bool false,.bool false,.bool false,.bool false,.bool false,.bool false,.bool false,.bool false,.bool false,.bool false,.bool false,.bool false,.bool false,.bool false,.bool false,.bool false,.bool false,.bool false,.bool false,.bool false,.bool false,.bool false,.bool false,.bool false,.bool false,.bool false,.bool false,.bool false,.bool false,.bool false,.bool false,.bool false,.bool false,.bool false,.bool false,.bool false,.bool false,.bool false,.bool false,.bool false,.bool false,.bool false,.bool false,.bool false,.bool false,.bool false,.bool false,.bool false,.bool false,.bool false,.bool false,.bool false,.bool false,.bool false,.bool false,.bool false,.bool false,.bool false,.bool false,.bool false,.bool false,.bool false,.bool false,.bool false,.bool false,.bool false,.bool false,.bool false,.bool false,.bool false,.bool false,.bool false,.bool false,.bool false,.bool false,.bool false,.bool false,.bool false,.bool false,.bool false,.bool false,.bool false,.bool false,.bool false,.bool false,.bool false,.bool false,.bool false,.bool false,.bool false,.bool false,.bool false,.bool false,.bool false,.bool false,.bool false,.bool false,.bool false,.bool false,.bool false,.bool false,.bool false,.bool false,.bool false,.bool false,.bool false,.bool false,.bool false,.bool false,.bool false,.bool false,.bool false,.bool false,.bool false,.bool false,.bool false,.bool false,.bool false,.bool false,.bool false,.bool false,.bool false,.bool false,.bool false,.bool false,.bool false,.bool false,.bool false,.bool false,.bool false,.bool false,.bool false,.bool false,.bool false,.bool false,.bool false,.bool false,.bool false,.bool false,.bool false,.bool false,.bool false,.bool false,.bool false,.bool false,.bool false,.bool false,.bool false,.bool false,.bool false,.bool false,.bool false,.bool false,.bool false,.bool false,.bool false,.bool false,.bool false,.bool false,.bool false,.bool false,.bool false,.bool false,.bool false,.bool false,.bool false,.bool false,.bool false,.bool false,.bool false,.bool false,.bool false,.bool false,.bool false,.bool false,.bool false,.bool false,.bool false,.bool false,.bool false,.bool false,.bool false,.bool false,.bool false,.bool false,.bool false,.bool false,.bool false,.bool false,.bool false,.bool false,.bool false,.bool false,.bool false,.bool false,.bool false,.bool false] 472) bo (fun g21 bN=>kG (bu.1.length=256) (ar (ad g21) bu.1 bN (fun cV=>aa bu.2.1
 (ab Tryz.prog 334 #[.string p0,.pointer (some (ad g21))] cV (.v (.one .str)) (fun(cj:ByteArray) dk=>ab Tryz.prog 333 #[.string cj,.pointer (some (ad g21))] dk (.v (.one .str)) (fun(cZ:ByteArray) eJ=>K (.string cZ) eJ)))
 (ab Tryz.prog 336 #[.string p0,.string p1] cV (.v (.one .str)) (fun(eN:ByteArray) et=>ab Tryz.prog 335 #[.string eN,.string p1] et (.v (.one .str)) (fun(eg:ByteArray) fh=>K (.string eg) fh)))))))))))
def pl320:aB:=(.seq .auto (.seq .auto (.seq (.join [(21,.one .bool)] .auto (.cond (.seq (.any [(3,.v (.one .str)),(6,.v (.one .str))]) .auto) .auto)) .auto)))
theorem c320 (p0:ByteArray)(p1:ByteArray)(w:World)(K:Value->World->Prop)(h:C320 p0 p1 w K):Ret Tryz.prog 320 #[.string p0,.string p1] w K:=aC (by kernel_rfl) Tryz.func320 (p:=pl320) (Eq.mpr (by kernel_rfl) h)
def C332 (p0:ByteArray)(w:World)(K:Value->World->Prop):Prop:=
 ak (.cells #[.bool false,.bool false,.bool false,.bool false,.bool false,.bool false,.bool false,.bool false,.bool false,.bool false,.bool false,.bool false,.bool false,.bool false,.bool false,.bool false,.bool false,.bool false,.bool false,.bool false,.bool false,.bool false,.bool false,.bool false,.bool false,.bool false,.bool false,.bool false,.bool false,.bool false,.bool false,.bool false,.bool false,.bool false,.bool false,.bool false,.bool false,.bool false,.bool false,.bool false,.bool false,.bool false,.bool false,.bool false,.bool false,.bool false,.bool false,.bool false,.bool false,.bool false,.bool false,.bool false,.bool false,.bool false,.bool false,.bool false,.bool false,.bool false,.bool false,.bool false,.bool false,.bool false,.bool false,.bool false,.bool false,.bool false,.bool false,.bool false,.bool false,.bool false,.bool false,.bool false,.bool false,.bool false,.bool false,.bool false,.bool false,.bool false,.bool false,.bool false,.bool false,.bool false,.bool false,.bool false,.bool false,.bool false,.bool false,.bool false,.bool false,.bool false,.bool false,.bool false,.bool false,.bool false,.bool false,.bool false,.bool false,.bool false,.bool false,.bool false,.bool false,.bool false,.bool false,.bool false,.bool false,.bool false,.bool false,.bool false,.bool false,.bool false,.bool false,.bool false,.bool false,.bool false,.bool false,.bool false,.bool false,.bool false,.bool false,.bool false,.bool false,.bool false,.bool false,.bool false,.bool false,.bool false,.bool false,.bool false,.bool false,.bool false,.bool false,.bool false,.bool false,.bool false,.bool false,.bool false,.bool false,.bool false,.bool false,.bool false,.bool false,.bool false,.bool false,.bool false,.bool false,.bool false,.bool false,.bool false,.bool false,.bool false,.bool false,.bool false,.bool false,.bool false,.bool false,.bool false,.bool false,.bool false,.bool false,.bool false,.bool false,.bool false,.bool false,.bool false,.bool false,.bool false,.bool false,.bool false,.bool false,.bool false,.bool false,.bool false,.bool false,.bool false,.bool false,.bool false,.bool false,.bool false,.bool false,.bool false,.bool false,.bool false,.bool false,.bool false,.bool false,.bool false,.bool false,.bool false,.bool false,.bool false,.bool false,.bool false,.bool false,.bool false,.bool false,.bool false,.bool false,.bool false,.bool false,.bool false,.bool false,.bool false,.bool false,.bool false,.bool false,.bool false,.bool false,.bool false,.bool false,.bool false,.bool false,.bool false,.bool false,.bool false,.bool false,.bool false,.bool false,.bool false,.bool false,.bool false,.bool false,.bool false,.bool false,.bool false,.bool false,.bool false,.bool false,.bool false,.bool false,.bool false,.bool false,.bool false,.bool false,.bool false,.bool false,.bool false,.bool false,.bool false,.bool false,.bool false,.bool false,.bool false,.bool false,.bool false,.bool false,.bool false,.bool false,.bool false,.bool false,.bool false,.bool false,.bool false,.bool false,.bool false,.bool false,.bool false] 472) w (fun g1 w2=>bw (Int×Unit) (fun _ s3 w4 kM=>aa (decide (s3.1<(p0.size:Int)))
 (oD p0 s3.1 (fun x6=>aa (decide (x6 >= 128))
 (eI 256 (ad g1) w4 (fun x7=>kG (x7.length=256) (ar (ad g1) x7 w4 (fun w8=>eI 256 (ad g1) w8 (fun x9=>K (.tuple #[.agg x9.toArray,.bool false]) w8)))))
 (DO (ad g1) 256 x6 1 (fun pQ=>aA pQ (.bool true) w4 (fun aO=>kM (IntKind.i64.wrap (s3.1+1),()) aO)))))
 (eI 256 (ad g1) w4 (fun bt=>kG (bt.length=256) (ar (ad g1) bt w4 (fun aW=>eI 256 (ad g1) aW (fun bd=>K (.tuple #[.agg bd.toArray,.bool true]) aW))))))
 (0,()) w2)
def pl332:aB:=(.seq .auto (.seq (.seq .auto (.block (.loop [(4,.one (.int .i64))] .auto))) .auto))
theorem c332 (p0:ByteArray)(w:World)(K:Value->World->Prop)(h:C332 p0 w K):Ret Tryz.prog 332 #[.string p0] w K:=aC (by kernel_rfl) Tryz.func332 (p:=pl332) (Eq.mpr (by kernel_rfl) h)
def C333 (p0:ByteArray)(p1:Addr)(w:World)(K:Value->World->Prop):Prop:=
 bw (ByteArray×Unit) (fun _ s1 w2 gm=>aa (decide ((s1.1.size:Int) > 0))
 (oD s1.1 0 (fun x4=>ab Tryz.prog 344 #[.pointer (some p1),.int .u8 x4] w2 (.v (.one .bool)) (fun(x5:Bool) w6=>aa (!x5)
 (K (.string s1.1) w6)
 (ug s1.1 1 s1.1.size (fun x7=>gm (x7,()) w6)))))
 (K (.string s1.1) w2))
 (p0,()) w
def pl333:aB:=(.seq .auto (.seq (.block (.loop [(0,.one .str)] .auto)) .auto))
theorem c333 (p0:ByteArray)(p1:Addr)(w:World)(K:Value->World->Prop)(h:C333 p0 p1 w K):Ret Tryz.prog 333 #[.string p0,.pointer (some p1)] w K:=aC (by kernel_rfl) Tryz.func333 (p:=pl333) (Eq.mpr (by kernel_rfl) h)
def C334 (p0:ByteArray)(p1:Addr)(w:World)(K:Value->World->Prop):Prop:=
 bw (ByteArray×Unit) (fun _ s1 w2 gm=>aa (decide ((s1.1.size:Int) > 0))
 (oD s1.1 (IntKind.i64.wrap ((s1.1.size:Int) - 1)) (fun x4=>ab Tryz.prog 344 #[.pointer (some p1),.int .u8 x4] w2 (.v (.one .bool)) (fun(x5:Bool) w6=>aa (!x5)
 (K (.string s1.1) w6)
 (ug s1.1 0 (IntKind.i64.wrap ((s1.1.size:Int) - 1)) (fun x7=>gm (x7,()) w6)))))
 (K (.string s1.1) w2))
 (p0,()) w
def pl334:aB:=(.seq .auto (.seq (.block (.loop [(0,.one .str)] .auto)) .auto))
theorem c334 (p0:ByteArray)(p1:Addr)(w:World)(K:Value->World->Prop)(h:C334 p0 p1 w K):Ret Tryz.prog 334 #[.string p0,.pointer (some p1)] w K:=aC (by kernel_rfl) Tryz.func334 (p:=pl334) (Eq.mpr (by kernel_rfl) h)
def C344 (p0:Addr)(p1:Int)(w:World)(K:Value->World->Prop):Prop:=
 DO p0 256 p1 1 (fun a1=>ae .bool a1 w (fun(x2:Bool)=>K (.bool x2) w))
def pl344:aB:=.auto
theorem c344 (p0:Addr)(p1:Int)(w:World)(K:Value->World->Prop)(h:C344 p0 p1 w K):Ret Tryz.prog 344 #[.pointer (some p0),.int .u8 p1] w K:=aC (by kernel_rfl) Tryz.func344 (p:=pl344) (Eq.mpr (by kernel_rfl) h)
def C321 (p0:ByteArray)(w:World)(K:Value->World->Prop):Prop:=
 ab Tryz.prog 337 #[.string p0] w (.aN [.one (.int .i64),.one .raw]) (fun(x1:Int×Value×Unit) w2=>az Tryz.prog (do eqGuard .neq 422 (.tmp 11) (.const .nilIface) x1.2.1 .nilIface;binOp .neq 422 x1.2.1 .nilIface) w2 (.v (.one .bool)) (fun(x3:Bool) w4=>aa x3
 (ab Tryz.prog 338 #[.string (⟨#[65,116,111,105]⟩:ByteArray),.string p0,.int .i64 0,.int .i64 0,x1.2.1] w4 (.v (.one .raw)) (fun(x5:Value) w6=>K (.tuple #[.int .i64 x1.1,x5]) w6))
 (K (.tuple #[.int .i64 x1.1,.nilIface]) w4)))
def pl321:aB:=.auto
theorem c321 (p0:ByteArray)(w:World)(K:Value->World->Prop)(h:C321 p0 w K):Ret Tryz.prog 321 #[.string p0] w K:=aC (by kernel_rfl) Tryz.func321 (p:=pl321) (Eq.mpr (by kernel_rfl) h)
def C337 (p0:ByteArray)(w:World)(K:Value->World->Prop):Prop:=
 cq (Bool×Unit) (fun J1=>aa (decide ((0:Int)<(p0.size:Int)))
 (J1 (decide ((p0.size:Int)<19),()) w)
 (J1 (false,()) w))
 (fun _ s2 w3=>aa s2.1
 (cq (ByteArray×Unit) (fun J4=>cq (Bool×Unit) (fun J7=>oD p0 0 (fun aR=>aa (aR==45)
 (J7 (true,()) w3)
 (oD p0 0 (fun ba=>J7 ((ba==43),()) w3))))
 (fun _ s8 w9=>aa s8.1
 (ug p0 1 p0.size (fun bt=>aa (decide ((bt.size:Int)<1))
 (K (.tuple #[.int .i64 0,.iface 490 (.int .i64 2)]) w9)
 (J4 (bt,()) w9)))
 (J4 (p0,()) w9)))
 (fun _ s5 w6=>az Tryz.prog (convert 9 22 (.string s5.1)) w6 (.v (.one .aj)) (fun(bD:an) bm=>bw (Int×Int×Unit) (fun _ nS bn uL=>aa (decide (nS.2.1<(bD.2.1:Int)))
 (bK bD.1 bD.2.1 nS.2.1 1 (fun va=>ae (.int .u8) va bn (fun(bu:Int)=>aa (decide ((IntKind.u8.wrap (bu - 48)) > 9))
 (K (.tuple #[.int .i64 0,.iface 490 (.int .i64 2)]) bn)
 (uL (IntKind.i64.wrap ((IntKind.i64.wrap (nS.1 * 10))+(IntKind.i64.wrap (IntKind.u8.wrap (bu - 48)))),IntKind.i64.wrap (nS.2.1+1),()) bn))))
 (oD p0 0 (fun cw=>aa (cw==45)
 (K (.tuple #[.int .i64 (IntKind.i64.wrap (0 - nS.1)),.nilIface]) bn)
 (K (.tuple #[.int .i64 nS.1,.nilIface]) bn))))
 (0,0,()) bm)))
 (ab Tryz.prog 348 #[.string p0,.int .i64 10,.int .i64 0] w3 (.aN [.one (.int .i64),.one .raw]) (fun(bT:Int×Value×Unit) bN=>K (.tuple #[.int .i64 bT.1,bT.2.1]) bN)))
def pl337:aB:=(.seq .auto (.seq .auto (.seq (.join [(30,.one .bool)] .auto (.cond (.seq .auto (.join [(0,.one .str)] (.join [(39,.one .bool)] .auto .auto) (.seq .auto (.seq (.seq .auto (.block (.loop [(6,.one (.int .i64)),(49,.one (.int .i64))] .auto))) .auto)))) .auto)) .auto)))
theorem c337 (p0:ByteArray)(w:World)(K:Value->World->Prop)(h:C337 p0 w K):Ret Tryz.prog 337 #[.string p0] w K:=aC (by kernel_rfl) Tryz.func337 (p:=pl337) (Eq.mpr (by kernel_rfl) h)
def C303 (p0:ByteArray)(w:World)(K:Value->World->Prop):Prop:=
 ab Tryz.prog 319 #[.string p0,.string (⟨#[45]⟩:ByteArray)] w (.v (.one .str)) (fun(x1:ByteArray) w2=>cq (Bool×Unit) (fun J3=>aa (x1.toList==(⟨#[]⟩:ByteArray).toList)
 (J3 (true,()) w2)
 (aa (decide ((x1.size:Int) > 13))
 (J3 (true,()) w2)
 (ab Tryz.prog 320 #[.string x1,.string (⟨#[48,49,50,51,52,53,54,55,56,57]⟩:ByteArray)] w2 (.v (.one .str)) (fun(x6:ByteArray) w7=>aa (!(x6.toList==(⟨#[]⟩:ByteArray).toList))
 (J3 (true,()) w7)
 (oD x1 0 (fun x8=>aa (x8==48)
 (J3 ((!(p0.toList==(⟨#[48]⟩:ByteArray).toList)),()) w7)
 (J3 (false,()) w7)))))))
 (fun _ s4 w5=>aa s4.1
 (K (.tuple #[.int .i64 0,.bool false]) w5)
 (ab Tryz.prog 321 #[.string p0] w5 (.aN [.one (.int .i64),.one .raw]) (fun(x9:Int×Value×Unit) aG=>az Tryz.prog (do eqGuard .neq 422 (.tmp 35) (.const .nilIface) x9.2.1 .nilIface;binOp .neq 422 x9.2.1 .nilIface) aG (.v (.one .bool)) (fun(ba:Bool) aM=>aa ba
 (K (.tuple #[.int .i64 0,.bool false]) aM)
 (aa (decide (x9.1<(-1000000000000)))
 (K (.tuple #[.int .i64 0,.bool false]) aM)
 (aa (decide (x9.1 > 1000000000000))
 (K (.tuple #[.int .i64 0,.bool false]) aM)
 (K (.tuple #[.int .i64 x9.1,.bool true]) aM))))))))
def pl303:aB:=(.seq .auto (.seq .auto (.seq (.join [(29,.one .bool)] .auto .auto) .auto)))
theorem c303 (p0:ByteArray)(w:World)(K:Value->World->Prop)(h:C303 p0 w K):Ret Tryz.prog 303 #[.string p0] w K:=aC (by kernel_rfl) Tryz.func303 (p:=pl303) (Eq.mpr (by kernel_rfl) h)
end Go.Proofs.YtmkehncgjnhhcaaGreatDoor
