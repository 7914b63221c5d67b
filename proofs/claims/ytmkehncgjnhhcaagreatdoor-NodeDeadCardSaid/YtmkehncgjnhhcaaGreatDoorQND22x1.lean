/-
  Texts of this claim, put together: CEventG, Shelf, EventSpec, RuneSl, CPackE, PackSpec, TermV, CObsG, ObsSpec, CTermG, TermSpec, CWriteG, WriteSpec, RuneSpec, CStrLib, CNumG.
  Conditions: those of each theorem.
-/
import Derived.Test.YtmkehncgjnhhcaaGreatDoorQND22x0
import Derived.KernelRfl
import Derived.Laws.StructEq
import Derived.Shelf.Bytes.SlEqualAll
import Derived.Shelf.Bytes.Small
import Derived.Shelf.LaysM
import Derived.Shelf.SlMaps.Clone
import Derived.Shelf.Small.Strs
import Derived.Shelf.Small.Utf8
import Derived.Shelf.Strconv.Itoa0
import Derived.Shelf.Strconv.Itoa1
import Derived.Shelf.Strconv.Itoa2
import Derived.Shelf.Strconv.Itoa3
import Derived.Shelf.Strings.AsciiSet
import Derived.Shelf.Strings.Builder1
import Derived.Shelf.Strings.Builder2
import Derived.Shelf.Strings.OnBuilder
import Derived.Shelf.Strings.Runes
import Derived.Shelf.Strings.Search1
import Derived.Shelf.Strings.Search2
import Derived.Shelf.Strings.Search3
import Derived.Shelf.Strings.Shaped
import Derived.Shelf.Unicode.DecodeSlow
import Derived.Shelf.Utf8.RuneCount
import Derived.Test.YtmkehncgjnhhcaaGreatDoorProg
namespace Go.Proofs.YtmkehncgjnhhcaaGreatDoor
open Vc
set_option maxRecDepth 100000
set_option linter.unusedVariables false
def C70 (p0:bE)(w:World)(K:Value->World->Prop):Prop:=
 ak (.cells ((bT p0).toArray) 36) w (fun g1 w2=>ae (.int .i64) ((ad g1).add 0) w2 (fun(x3:Int)=>ab Tryz.prog 128 #[.int .i64 x3] w2 (.v (.one .str)) (fun(x4:ByteArray) w5=>aa (x4.toList==(⟨#[63]⟩:ByteArray).toList)
 (K (.int .i64 1) w5)
 (aq dK (ad g1) w5 (fun(x6:bE)=>ab Tryz.prog 129 #[.agg (bT x6).toArray] w5 (.v (.one .bool)) (fun(x7:Bool) w8=>aa (!x7)
 (K (.int .i64 1) w8)
 (aq dK (ad g1) w8 (fun(x9:bE)=>ab Tryz.prog 130 #[.agg (bT x9).toArray] w8 (.v (.one .bool)) (fun(aQ:Bool) aO=>aa (!aQ)
 (K (.int .i64 1) aO)
 (ae (.int .i64) ((ad g1).add 5) aO (fun(bx:Int)=>aa (decide (bx<0))
 (K (.int .i64 1) aO)
 (ae (.int .i64) ((ad g1).add 5) aO (fun(bz:Int)=>aa (decide (bz > 10000))
 (K (.int .i64 1) aO)
 (ae (.int .i64) ((ad g1).add 6) aO (fun(bg:Int)=>ab Tryz.prog 131 #[.int .i64 bg] aO (.v (.one .bool)) (fun(bn:Bool) bj=>aa (!bn)
 (K (.int .i64 1) bj)
 (cy (Bool×Unit) (fun E5=>ae (.int .i64) ((ad g1).add 0) bj (fun(cG:Int)=>aa (cG==4)
 (ae (.int .i64) ((ad g1).add 6) bj (fun(bY:Int)=>aa (bY != 0)
 (ae (.int .i64) ((ad g1).add 6) bj (fun(bU:Int)=>E5 ((bU != 1),()) bj))
 (E5 (false,()) bj)))
 (E5 (false,()) bj)))
 (fun _ oV bu=>aa oV.1
 (K (.int .i64 1) bu)
 (ae (.int .i64) ((ad g1).add 0) bu (fun(cv:Int)=>aa (cv==2)
 (ae .raw ((ad g1).add 7) bu (fun(cm:Value)=>ab Tryz.prog 132 #[cm] bu (.aN [.one .str,.one (.int .i64)]) (fun(bD:ByteArray×Int×Unit) cn=>K (.int .i64 bD.2.1) cn)))
 (K (.int .i64 0) bu)))))))))))))))))))))
def pl70:aB:=(.seq .auto (.seq (.block (.seq .auto (.cond .auto (.seq .auto (.cond .auto (.join [(35,.one .bool)] .auto .auto)))))) .auto))
theorem c70 (p0:bE)(w:World)(K:Value->World->Prop)(h:C70 p0 w K):Ret Tryz.prog 70 #[.agg (bT p0).toArray] w K:=aC (by kernel_rfl) Tryz.func70 (p:=pl70) (Eq.mpr (by kernel_rfl) h)
def C128 (p0:Int)(w:World)(K:Value->World->Prop):Prop:=
 aa (p0==1)
 (K (.string (⟨#[]⟩:ByteArray)) w)
 (aa (p0==2)
 (K (.string (⟨#[73,84]⟩:ByteArray)) w)
 (aa (p0==3)
 (K (.string (⟨#[78,68,86]⟩:ByteArray)) w)
 (aa (p0==4)
 (K (.string (⟨#[73,76,86]⟩:ByteArray)) w)
 (aa (p0==5)
 (K (.string (⟨#[68]⟩:ByteArray)) w)
 (aa (p0==6)
 (K (.string (⟨#[68,67,86]⟩:ByteArray)) w)
 (K (.string (⟨#[63]⟩:ByteArray)) w))))))
def pl128:aB:=.auto
theorem c128 (p0:Int)(w:World)(K:Value->World->Prop)(h:C128 p0 w K):Ret Tryz.prog 128 #[.int .i64 p0] w K:=aC (by kernel_rfl) Tryz.func128 (p:=pl128) (Eq.mpr (by kernel_rfl) h)
def C129 (p0:bE)(w:World)(K:Value->World->Prop):Prop:=
 ak (.cells ((bT p0).toArray) 36) w (fun g1 w2=>ak (.map #[] 0) w2 (fun g3 w4=>ae .str ((ad g1).add 1) w4 (fun(x5:ByteArray)=>js Tryz.prog (Instr.mapUpdate 293 (.map (some g3)) (.string (⟨#[73]⟩:ByteArray)) (.string x5)) w4 (fun w6=>ae .str ((ad g1).add 2) w6 (fun(x7:ByteArray)=>js Tryz.prog (Instr.mapUpdate 293 (.map (some g3)) (.string (⟨#[78]⟩:ByteArray)) (.string x7)) w6 (fun w8=>ae .str ((ad g1).add 3) w8 (fun(x9:ByteArray)=>js Tryz.prog (Instr.mapUpdate 293 (.map (some g3)) (.string (⟨#[76]⟩:ByteArray)) (.string x9)) w8 (fun aG=>ae .str ((ad g1).add 4) aG (fun(aX:ByteArray)=>js Tryz.prog (Instr.mapUpdate 293 (.map (some g3)) (.string (⟨#[67]⟩:ByteArray)) (.string aX)) aG (fun aL=>aA Tryz.prog (Instr.range 293 (.map (some g3))) aL (.v (.one .ptr)) (fun(bz:Option Addr) bo=>bC (Unit) (fun _ ob bj uR=>Br Tryz.prog (.pointer bz) 0 bj (fun bB br bh=>aA Tryz.prog (Instr.entry (.pointer bz)) bh (.aN [.one .raw,.one .raw]) (fun(bU:Value×Value×Unit) cL=>Kd.ex (.one .str) bU.1 (fun(cm:ByteArray)=>Kd.ex (.one .str) bU.2.1 (fun(bD:ByteArray)=>aa (!(bD.toList==(⟨#[]⟩:ByteArray).toList))
 (ae (.int .i64) ((ad g1).add 0) cL (fun(dc:Int)=>ab Tryz.prog 168 #[.int .i64 dc,.string cm] cL (.v (.one .bool)) (fun(cA:Bool) bV=>aa (!cA)
 (K (.bool false) bV)
 (uR (()) bV))))
 (uR (()) cL)))))
 (fun bw=>ae (.int .i64) ((ad g1).add 5) bw (fun(cB:Int)=>aa (cB==0)
 (ae (.int .i64) ((ad g1).add 6) bw (fun(eB:Int)=>aa (eB==0)
 (ae .raw ((ad g1).add 7) bw (fun(bZ:Value)=>aA Tryz.prog (do eqGuard .eql 34 (.tmp 52) (.const .nilIface) bZ .nilIface;binOp .eql 34 bZ .nilIface) bw (.v (.one .bool)) (fun(df:Bool) dE=>aa df
 (K (.bool true) dE)
 (ae (.int .i64) ((ad g1).add 0) dE (fun(dh:Int)=>ab Tryz.prog 168 #[.int .i64 dh,.string (⟨#[84]⟩:ByteArray)] dE (.v (.one .bool)) (fun(dv:Bool) dd=>K (.bool dv) dd))))))
 (ae (.int .i64) ((ad g1).add 0) bw (fun(gP:Int)=>ab Tryz.prog 168 #[.int .i64 gP,.string (⟨#[86]⟩:ByteArray)] bw (.v (.one .bool)) (fun(dF:Bool) dO=>aa dF
 (ae .raw ((ad g1).add 7) dO (fun(iK:Value)=>aA Tryz.prog (do eqGuard .eql 34 (.tmp 52) (.const .nilIface) iK .nilIface;binOp .eql 34 iK .nilIface) dO (.v (.one .bool)) (fun(eM:Bool) gx=>aa eM
 (K (.bool true) gx)
 (ae (.int .i64) ((ad g1).add 0) gx (fun(jw:Int)=>ab Tryz.prog 168 #[.int .i64 jw,.string (⟨#[84]⟩:ByteArray)] gx (.v (.one .bool)) (fun(iY:Bool) gr=>K (.bool iY) gr))))))
 (K (.bool false) dO))))))
 (ae (.int .i64) ((ad g1).add 0) bw (fun(kx:Int)=>ab Tryz.prog 168 #[.int .i64 kx,.string (⟨#[68]⟩:ByteArray)] bw (.v (.one .bool)) (fun(dG:Bool) gF=>aa dG
 (ae (.int .i64) ((ad g1).add 6) gF (fun(fD:Int)=>aa (fD==0)
 (ae .raw ((ad g1).add 7) gF (fun(iL:Value)=>aA Tryz.prog (do eqGuard .eql 34 (.tmp 52) (.const .nilIface) iL .nilIface;binOp .eql 34 iL .nilIface) gF (.v (.one .bool)) (fun(jx:Bool) fh=>aa jx
 (K (.bool true) fh)
 (ae (.int .i64) ((ad g1).add 0) fh (fun(fY:Int)=>ab Tryz.prog 168 #[.int .i64 fY,.string (⟨#[84]⟩:ByteArray)] fh (.v (.one .bool)) (fun(rP:Bool) gQ=>K (.bool rP) gQ))))))
 (ae (.int .i64) ((ad g1).add 0) gF (fun(j8:Int)=>ab Tryz.prog 168 #[.int .i64 j8,.string (⟨#[86]⟩:ByteArray)] gF (.v (.one .bool)) (fun(nj:Bool) qQ=>aa nj
 (ae .raw ((ad g1).add 7) qQ (fun(rQ:Value)=>aA Tryz.prog (do eqGuard .eql 34 (.tmp 52) (.const .nilIface) rQ .nilIface;binOp .eql 34 rQ .nilIface) qQ (.v (.one .bool)) (fun(oc:Bool) uS=>aa oc
 (K (.bool true) uS)
 (ae (.int .i64) ((ad g1).add 0) uS (fun(yX:Int)=>ab Tryz.prog 168 #[.int .i64 yX,.string (⟨#[84]⟩:ByteArray)] uS (.v (.one .bool)) (fun(nk:Bool) jy=>K (.bool nk) jy))))))
 (K (.bool false) qQ))))))
 (K (.bool false) gF)))))))
 (()) bo)))))))))))
def pl129:aB:=(.seq .auto (.seq .auto (.seq (.seq .auto (.block (.loop [] .auto))) .auto)))
theorem c129 (p0:bE)(w:World)(K:Value->World->Prop)(h:C129 p0 w K):Ret Tryz.prog 129 #[.agg (bT p0).toArray] w K:=aC (by kernel_rfl) Tryz.func129 (p:=pl129) (Eq.mpr (by kernel_rfl) h)
def C130 (p0:bE)(w:World)(K:Value->World->Prop):Prop:=
 ak (.cells ((bT p0).toArray) 36) w (fun g1 w2=>ak (.map #[] 0) w2 (fun g3 w4=>ae .str ((ad g1).add 1) w4 (fun(x5:ByteArray)=>js Tryz.prog (Instr.mapUpdate 293 (.map (some g3)) (.string (⟨#[73]⟩:ByteArray)) (.string x5)) w4 (fun w6=>ae .str ((ad g1).add 2) w6 (fun(x7:ByteArray)=>js Tryz.prog (Instr.mapUpdate 293 (.map (some g3)) (.string (⟨#[78]⟩:ByteArray)) (.string x7)) w6 (fun w8=>ae .str ((ad g1).add 3) w8 (fun(x9:ByteArray)=>js Tryz.prog (Instr.mapUpdate 293 (.map (some g3)) (.string (⟨#[76]⟩:ByteArray)) (.string x9)) w8 (fun aG=>ae .str ((ad g1).add 4) aG (fun(aX:ByteArray)=>js Tryz.prog (Instr.mapUpdate 293 (.map (some g3)) (.string (⟨#[67]⟩:ByteArray)) (.string aX)) aG (fun aL=>aA Tryz.prog (Instr.range 293 (.map (some g3))) aL (.v (.one .ptr)) (fun(bz:Option Addr) bo=>bC (Unit) (fun _ ob bj uR=>Br Tryz.prog (.pointer bz) 0 bj (fun bB br bh=>aA Tryz.prog (Instr.entry (.pointer bz)) bh (.aN [.one .raw,.one .raw]) (fun(bU:Value×Value×Unit) cL=>Kd.ex (.one .str) bU.1 (fun(cm:ByteArray)=>Kd.ex (.one .str) bU.2.1 (fun(bD:ByteArray)=>ae (.int .i64) ((ad g1).add 0) cL (fun(dc:Int)=>ab Tryz.prog 168 #[.int .i64 dc,.string cm] cL (.v (.one .bool)) (fun(cA:Bool) bV=>aa cA
 (ab Tryz.prog 169 #[.string bD] bV (.v (.one .bool)) (fun(cB:Bool) bS=>aa (!cB)
 (K (.bool false) bS)
 (uR (()) bS)))
 (uR (()) bV)))))))
 (fun bw=>K (.bool true) bw))
 (()) bo)))))))))))
def pl130:aB:=(.seq .auto (.seq .auto (.seq (.seq .auto (.block (.loop [] .auto))) .auto)))
theorem c130 (p0:bE)(w:World)(K:Value->World->Prop)(h:C130 p0 w K):Ret Tryz.prog 130 #[.agg (bT p0).toArray] w K:=aC (by kernel_rfl) Tryz.func130 (p:=pl130) (Eq.mpr (by kernel_rfl) h)
def C168 (p0:Int)(p1:ByteArray)(w:World)(K:Value->World->Prop):Prop:=
 ab Tryz.prog 128 #[.int .i64 p0] w (.v (.one .str)) (fun(x1:ByteArray) w2=>ab Tryz.prog 211 #[.string x1,.string p1] w2 (.v (.one .bool)) (fun(x3:Bool) w4=>K (.bool x3) w4))
def pl168:aB:=.auto
theorem c168 (p0:Int)(p1:ByteArray)(w:World)(K:Value->World->Prop)(h:C168 p0 p1 w K):Ret Tryz.prog 168 #[.int .i64 p0,.string p1] w K:=aC (by kernel_rfl) Tryz.func168 (p:=pl168) (Eq.mpr (by kernel_rfl) h)
def C131 (p0:Int)(w:World)(K:Value->World->Prop):Prop:=
 aa (decide (p0 >= (-1000000000000)))
 (K (.bool (decide (p0<=1000000000000))) w)
 (K (.bool false) w)
def pl131:aB:=.auto
theorem c131 (p0:Int)(w:World)(K:Value->World->Prop)(h:C131 p0 w K):Ret Tryz.prog 131 #[.int .i64 p0] w K:=aC (by kernel_rfl) Tryz.func131 (p:=pl131) (Eq.mpr (by kernel_rfl) h)
open Go.Shelf
def Tryz.La:Go.Shelf.Ren:=⟨fun | 156=>249 | 165=>266 | 166=>267 | 169=>268 | 240=>293 | 241=>294 | 276=>312 | 277=>313 | n=>n,fun | 31=>51 | 9=>9 | 3=>3 | 4=>4 | 0=>0 | 20=>20 | 72=>420 | 76=>423 | 70=>418 | 37=>22 | 75=>422 | 127=>444 | 164=>459 | 5=>5 | 80=>344 | n=>n,fun | n=>n⟩
theorem Tryz.Sy:Go.Proofs.Lays.n156 Tryz.prog Tryz.La:={
 mixed:=by kernel_rfl
 f156:=Tryz.func249.trans (congrArg some (by kernel_rfl))
 f165:=Tryz.func266.trans (congrArg some (by kernel_rfl))
 f166:=Tryz.func267.trans (congrArg some (by kernel_rfl))
 f169:=Tryz.func268.trans (congrArg some (by kernel_rfl))
 f240:=Tryz.func293.trans (congrArg some (by kernel_rfl))
 f241:=Tryz.func294.trans (congrArg some (by kernel_rfl))
 f276:=Tryz.func312.trans (congrArg some (by kernel_rfl))
 f277:=Tryz.func313.trans (congrArg some (by kernel_rfl))
 t0:=Tryz.underlying0
 a0:=Tryz.isAgg0
 z0:=Tryz.sizeOf0
 v0:=Tryz.zeroValue0
 t3:=Tryz.underlying3
 a3:=Tryz.isAgg3
 z3:=Tryz.sizeOf3
 v3:=Tryz.zeroValue3
 t4:=Tryz.underlying4
 a4:=Tryz.isAgg4
 z4:=Tryz.sizeOf4
 v4:=Tryz.zeroValue4
 t9:=Tryz.underlying9
 a9:=Tryz.isAgg9
 z9:=Tryz.sizeOf9
 v9:=Tryz.zeroValue9
 t20:=Tryz.underlying20
 a20:=Tryz.isAgg20
 z20:=Tryz.sizeOf20
 v20:=Tryz.zeroValue20
 t31:=Tryz.underlying51
 a31:=Tryz.isAgg51
 z31:=Tryz.sizeOf51
 v31:=Tryz.zeroValue51
 t37:=Tryz.underlying22
 a37:=Tryz.isAgg22
 z37:=Tryz.sizeOf22
 v37:=Tryz.zeroValue22
 t70:=Tryz.underlying418
 a70:=Tryz.isAgg418
 z70:=Tryz.sizeOf418
 v70:=Tryz.zeroValue418
 t72:=Tryz.underlying420
 a72:=Tryz.isAgg420
 z72:=Tryz.sizeOf420
 v72:=Tryz.zeroValue420
 t75:=Tryz.underlying422
 a75:=Tryz.isAgg422
 z75:=Tryz.sizeOf422
 v75:=Tryz.zeroValue422
 t76:=Tryz.underlying423
 a76:=Tryz.isAgg423
 z76:=Tryz.sizeOf423
 v76:=Tryz.zeroValue423
 t127:=Tryz.underlying444
 a127:=Tryz.isAgg444
 z127:=Tryz.sizeOf444
 v127:=Tryz.zeroValue444
 t164:=Tryz.underlying459
 a164:=Tryz.isAgg459
 z164:=Tryz.sizeOf459
 v164:=Tryz.zeroValue459 }
theorem Tryz.Sz:Builder.Extra Tryz.prog Tryz.La:={
 sizeBuilder:=by kernel_rfl
 liesBuilder:=by kernel_rfl
 t5:=Tryz.underlying5
 a5:=Tryz.isAgg5
 z5:=Tryz.sizeOf5
 v5:=Tryz.zeroValue5
 infoByte:=by kernel_rfl
 cellsByte:=by kernel_rfl
 sizeByte:=by kernel_rfl
 neB5:=by decide }
open Go.RowKit in
theorem Tryz.strings_Join (bk o c:Nat)(xs:List ByteArray)(sep:ByteArray)(w:World)(uM:∀ (j:Nat) x,xs[j]? = some x->w.cell? ⟨bk,o+j,none⟩=some (.string x))(wG:bk<w.heap.size)(hN:xs.length<=140737488355328)(wJ:xs.length<=c)(hlen:(Lib.join (xs.map (·.data.toList)) sep.data.toList).length<=140737488355328):
  Calls Tryz.prog 249 #[.slice (some ⟨bk,o,none⟩) xs.length c,.string sep] w fun e w'=>e=.returned (.string ⟨(Lib.join (xs.map (·.data.toList)) sep.data.toList).toArray⟩)/\Below w.heap.size w w':=Any.strings_Join Tryz.Sy Tryz.Sz bk o c xs sep w uM wG hN wJ hlen
def Tryz.SA:Go.Shelf.Ren:=⟨fun | 195=>270 | n=>n,fun | 9=>9 | 3=>3 | 0=>0 | 4=>4 | n=>n,fun | n=>n⟩
theorem Tryz.SB:Go.Proofs.Lays.n195 Tryz.prog Tryz.SA:={
 mixed:=by kernel_rfl
 f195:=Tryz.func270.trans (congrArg some (by kernel_rfl))
 t0:=Tryz.underlying0
 a0:=Tryz.isAgg0
 z0:=Tryz.sizeOf0
 v0:=Tryz.zeroValue0
 t3:=Tryz.underlying3
 a3:=Tryz.isAgg3
 z3:=Tryz.sizeOf3
 v3:=Tryz.zeroValue3
 t4:=Tryz.underlying4
 a4:=Tryz.isAgg4
 z4:=Tryz.sizeOf4
 v4:=Tryz.zeroValue4
 t9:=Tryz.underlying9
 a9:=Tryz.isAgg9
 z9:=Tryz.sizeOf9
 v9:=Tryz.zeroValue9 }
open Go.RowKit in
theorem Tryz.utf8_RuneCountInString (s:ByteArray)(w:World)(hs:s.size<9223372036854775807):
  Calls Tryz.prog 270 #[.string s] w fun e w'=>e=.returned (.int .i64 (Lib.runeCount s))/\∃ pos,w'=w.iter s pos:=Any.utf8_RuneCountInString Tryz.SB s w hs
def Tryz.SC:Go.Shelf.Ren:=⟨fun | 171=>220 | 243=>250 | 246=>269 | 283=>295 | 284=>296 | 285=>297 | 286=>298 | 129=>315 | 317=>314 | 318=>316 | 319=>317 | 320=>318 | 337=>327 | 338=>328 | n=>n,fun | 3=>3 | 9=>9 | 2=>2 | 4=>4 | 171=>445 | 0=>0 | 53=>40 | 37=>22 | 5=>5 | 173=>448 | 212=>461 | 51=>455 | 20=>20 | 213=>462 | 46=>125 | 232=>484 | 233=>485 | n=>n,fun | 17=>1 | 18=>2 | 19=>3 | n=>n⟩
theorem Tryz.SD:Go.Proofs.LaysM.n171 Tryz.prog Tryz.SC:={
 mixed:=by kernel_rfl
 f129:=Tryz.func315.trans (congrArg some (by kernel_rfl))
 f171:=Tryz.func220.trans (congrArg some (by kernel_rfl))
 f243:=Tryz.func250.trans (congrArg some (by kernel_rfl))
 f246:=Tryz.func269.trans (congrArg some (by kernel_rfl))
 f283:=Tryz.func295.trans (congrArg some (by kernel_rfl))
 f284:=Tryz.func296.trans (congrArg some (by kernel_rfl))
 f285:=Tryz.func297.trans (congrArg some (by kernel_rfl))
 f286:=Tryz.func298.trans (congrArg some (by kernel_rfl))
 f317:=Tryz.func314.trans (congrArg some (by kernel_rfl))
 f318:=Tryz.func316.trans (congrArg some (by kernel_rfl))
 f319:=Tryz.func317.trans (congrArg some (by kernel_rfl))
 f320:=Tryz.func318.trans (congrArg some (by kernel_rfl))
 f337:=Tryz.func327.trans (congrArg some (by kernel_rfl))
 f338:=Tryz.func328.trans (congrArg some (by kernel_rfl))
 t0:=Tryz.underlying0
 a0:=Tryz.isAgg0
 z0:=Tryz.sizeOf0
 v0:=Tryz.zeroValue0
 t2:=Tryz.underlying2
 a2:=Tryz.isAgg2
 z2:=Tryz.sizeOf2
 v2:=Tryz.zeroValue2
 t3:=Tryz.underlying3
 a3:=Tryz.isAgg3
 z3:=Tryz.sizeOf3
 v3:=Tryz.zeroValue3
 t4:=Tryz.underlying4
 a4:=Tryz.isAgg4
 z4:=Tryz.sizeOf4
 v4:=Tryz.zeroValue4
 t5:=Tryz.underlying5
 a5:=Tryz.isAgg5
 z5:=Tryz.sizeOf5
 v5:=Tryz.zeroValue5
 t9:=Tryz.underlying9
 a9:=Tryz.isAgg9
 z9:=Tryz.sizeOf9
 v9:=Tryz.zeroValue9
 t20:=Tryz.underlying20
 a20:=Tryz.isAgg20
 z20:=Tryz.sizeOf20
 v20:=Tryz.zeroValue20
 t37:=Tryz.underlying22
 a37:=Tryz.isAgg22
 z37:=Tryz.sizeOf22
 v37:=Tryz.zeroValue22
 t46:=Tryz.underlying125
 a46:=Tryz.isAgg125
 z46:=Tryz.sizeOf125
 v46:=Tryz.zeroValue125
 t51:=Tryz.underlying455
 a51:=Tryz.isAgg455
 z51:=Tryz.sizeOf455
 v51:=Tryz.zeroValue455
 t53:=Tryz.underlying40
 a53:=Tryz.isAgg40
 z53:=Tryz.sizeOf40
 v53:=Tryz.zeroValue40
 t171:=Tryz.underlying445
 a171:=Tryz.isAgg445
 z171:=Tryz.sizeOf445
 v171:=Tryz.zeroValue445
 t173:=Tryz.underlying448
 a173:=Tryz.isAgg448
 z173:=Tryz.sizeOf448
 v173:=Tryz.zeroValue448
 t212:=Tryz.underlying461
 a212:=Tryz.isAgg461
 z212:=Tryz.sizeOf461
 v212:=Tryz.zeroValue461
 t213:=Tryz.underlying462
 a213:=Tryz.isAgg462
 z213:=Tryz.sizeOf462
 t232:=Tryz.underlying484
 a232:=Tryz.isAgg484
 z232:=Tryz.sizeOf484
 v232:=Tryz.zeroValue484
 t233:=Tryz.underlying485
 a233:=Tryz.isAgg485
 z233:=Tryz.sizeOf485
 v233:=Tryz.zeroValue485
 g17:=by kernel_rfl
 g18:=by kernel_rfl
 g19:=by kernel_rfl
 i0:=by kernel_rfl
 i2:=by kernel_rfl
 i3:=by kernel_rfl
 i4:=by kernel_rfl
 i5:=by kernel_rfl
 i9:=by kernel_rfl
 i20:=by kernel_rfl
 i37:=by kernel_rfl
 i46:=by kernel_rfl
 i51:=by kernel_rfl
 i53:=by kernel_rfl
 i171:=by kernel_rfl
 i173:=by kernel_rfl
 i212:=by kernel_rfl
 i232:=by kernel_rfl
 i233:=by kernel_rfl
 m17:=by kernel_rfl
 m18:=by kernel_rfl
 m19:=by kernel_rfl }
open Go.RowKit Go.Sort Go.Lib in
theorem Tryz.strconv_Itoa (n : Int)(h0 : -9223372036854775808 <= n)(h1 : n <= 9223372036854775807)(w : World)(htab : Lib.TabIs Tryz.prog w "internal/strconv.uint64pow10" .u64 Lib.pow10Tab):
  Calls Tryz.prog 220 #[.int .i64 n] w fun e w'=>e=.returned (.string ⟨(Lib.itoa n).toArray⟩)/\∃ k os,w'=grow (w.drewN k) os:=Any.strconv_Itoa Tryz.SD n h0 h1 w htab
open Go.RowKit Go.Sort Go.Lib in
def Tryz.SE:Go.Shelf.Ren:=⟨fun | 144=>211 | 143=>243 | 219=>262 | 217=>286 | 225=>287 | 224=>288 | 267=>289 | 266=>309 | 314=>310 | n=>n,fun | 9=>9 | 4=>4 | 3=>3 | 5=>5 | 46=>125 | 146=>456 | 51=>455 | n=>n,fun | 1=>0 | n=>n⟩
theorem Tryz.SF:Go.Proofs.Lays.n144 Tryz.prog Tryz.SE:={
 mixed:=by kernel_rfl
 f143:=Tryz.func243.trans (congrArg some (by kernel_rfl))
 f144:=Tryz.func211.trans (congrArg some (by kernel_rfl))
 f217:=Tryz.func286.trans (congrArg some (by kernel_rfl))
 f219:=Tryz.func262.trans (congrArg some (by kernel_rfl))
 f224:=Tryz.func288.trans (congrArg some (by kernel_rfl))
 f225:=Tryz.func287.trans (congrArg some (by kernel_rfl))
 f266:=Tryz.func309.trans (congrArg some (by kernel_rfl))
 f267:=Tryz.func289.trans (congrArg some (by kernel_rfl))
 f314:=Tryz.func310.trans (congrArg some (by kernel_rfl))
 t3:=Tryz.underlying3
 a3:=Tryz.isAgg3
 z3:=Tryz.sizeOf3
 v3:=Tryz.zeroValue3
 t4:=Tryz.underlying4
 a4:=Tryz.isAgg4
 z4:=Tryz.sizeOf4
 v4:=Tryz.zeroValue4
 t5:=Tryz.underlying5
 a5:=Tryz.isAgg5
 z5:=Tryz.sizeOf5
 v5:=Tryz.zeroValue5
 t9:=Tryz.underlying9
 a9:=Tryz.isAgg9
 z9:=Tryz.sizeOf9
 v9:=Tryz.zeroValue9
 t46:=Tryz.underlying125
 a46:=Tryz.isAgg125
 z46:=Tryz.sizeOf125
 v46:=Tryz.zeroValue125
 t51:=Tryz.underlying455
 a51:=Tryz.isAgg455
 z51:=Tryz.sizeOf455
 v51:=Tryz.zeroValue455
 t146:=Tryz.underlying456
 a146:=Tryz.isAgg456
 z146:=Tryz.sizeOf456
 v146:=Tryz.zeroValue456
 g1:=by kernel_rfl }
open Go.RowKit Go.Lib in
theorem Tryz.strings_Contains_one (s:ByteArray)(c:UInt8)(w:World):
  Calls Tryz.prog 211 #[.string s,.string ⟨#[c]⟩] w fun e w'=>e=.returned (.bool (decide (0<=Lib.indexByte s.data.toList c)))/\w'=w:=Any.strings_Contains_one Tryz.SF s c w
def Tryz.SG:Go.Shelf.Ren:=⟨fun | 115=>53 | n=>n,fun | 37=>22 | 4=>4 | 9=>9 | 5=>5 | n=>n,fun | n=>n⟩
theorem Tryz.SH:Go.Proofs.Lays.n115 Tryz.prog Tryz.SG:={
 mixed:=by kernel_rfl
 f115:=Tryz.func53.trans (congrArg some (by kernel_rfl))
 t4:=Tryz.underlying4
 a4:=Tryz.isAgg4
 z4:=Tryz.sizeOf4
 v4:=Tryz.zeroValue4
 t9:=Tryz.underlying9
 a9:=Tryz.isAgg9
 z9:=Tryz.sizeOf9
 v9:=Tryz.zeroValue9
 t37:=Tryz.underlying22
 a37:=Tryz.isAgg22
 z37:=Tryz.sizeOf22
 v37:=Tryz.zeroValue22 }
theorem Tryz.bytes_Equal (v1 v2:Value)(xs ys:List Int)(w:World)(h1:(convert 22 9 v1).run Tryz.prog w=.ok (.string (strOfNums xs)) w)(h2:(convert 22 9 v2).run Tryz.prog w=.ok (.string (strOfNums ys)) w):
  Calls Tryz.prog 53 #[v1,v2] w fun e w'=>e=.returned (.bool (Lib.bytesOf xs==Lib.bytesOf ys))/\w'=w:=Any.bytes_Equal Tryz.SH v1 v2 xs ys w h1 h2
def Tryz.SI:Go.Shelf.Ren:=⟨fun | 5=>142 | 7=>186 | n=>n,fun | 23=>173 | 25=>266 | 3=>3 | 4=>4 | 20=>20 | n=>n,fun | n=>n⟩
theorem Tryz.SJ:Go.Proofs.SlLaysW.n5 Tryz.prog Tryz.SI:={
 mixed:=by kernel_rfl
 f5:=⟨Tryz.f142.name,by decide,Tryz.func142.trans (congrArg some (by kernel_rfl))⟩
 f7:=Tryz.func186.trans (congrArg some (by kernel_rfl))
 t4:=Tryz.underlying4
 a4:=Tryz.isAgg4
 z4:=Tryz.sizeOf4
 v4:=Tryz.zeroValue4
 t20:=Tryz.underlying20
 a20:=Tryz.isAgg20
 z20:=Tryz.sizeOf20
 v20:=Tryz.zeroValue20
 t23:=Tryz.underlying173
 a23:=Tryz.isAgg173
 z23:=Tryz.sizeOf173
 v23:=Tryz.zeroValue173 }
theorem Tryz.SK (b:Nat)(es:Array MapEntry)(clock:Nat)(w:World)(hb:w.heap[b]? = some (.map es clock)):
  Calls Tryz.prog 142 #[.map (some b)] w fun e w'=>e=.returned (.map (some w.heap.size))/\w'=w.alloc (.map es clock):=AnyW.maps_Clone Tryz.SJ b es clock w hb
def Tryz.SL:Go.Shelf.Ren:=⟨fun | 5=>184 | 7=>186 | n=>n,fun | 23=>321 | 25=>324 | 3=>3 | 4=>4 | 20=>20 | n=>n,fun | n=>n⟩
theorem Tryz.SM:Go.Proofs.SlLaysW.n5 Tryz.prog Tryz.SL:={
 mixed:=by kernel_rfl
 f5:=⟨Tryz.f184.name,by decide,Tryz.func184.trans (congrArg some (by kernel_rfl))⟩
 f7:=Tryz.func186.trans (congrArg some (by kernel_rfl))
 t4:=Tryz.underlying4
 a4:=Tryz.isAgg4
 z4:=Tryz.sizeOf4
 v4:=Tryz.zeroValue4
 t20:=Tryz.underlying20
 a20:=Tryz.isAgg20
 z20:=Tryz.sizeOf20
 v20:=Tryz.zeroValue20
 t23:=Tryz.underlying321
 a23:=Tryz.isAgg321
 z23:=Tryz.sizeOf321
 v23:=Tryz.zeroValue321 }
theorem Tryz.SN (b:Nat)(es:Array MapEntry)(clock:Nat)(w:World)(hb:w.heap[b]? = some (.map es clock)):
  Calls Tryz.prog 184 #[.map (some b)] w fun e w'=>e=.returned (.map (some w.heap.size))/\w'=w.alloc (.map es clock):=AnyW.maps_Clone Tryz.SM b es clock w hb
def Tryz.SO:Go.Shelf.Ren:=⟨fun | 5=>185 | 7=>186 | n=>n,fun | 23=>325 | 25=>330 | 3=>332 | 4=>4 | 20=>20 | n=>n,fun | n=>n⟩
theorem Tryz.SP:Go.Proofs.SlLaysW.n5 Tryz.prog Tryz.SO:={
 mixed:=by kernel_rfl
 f5:=⟨Tryz.f185.name,by decide,Tryz.func185.trans (congrArg some (by kernel_rfl))⟩
 f7:=Tryz.func186.trans (congrArg some (by kernel_rfl))
 t4:=Tryz.underlying4
 a4:=Tryz.isAgg4
 z4:=Tryz.sizeOf4
 v4:=Tryz.zeroValue4
 t20:=Tryz.underlying20
 a20:=Tryz.isAgg20
 z20:=Tryz.sizeOf20
 v20:=Tryz.zeroValue20
 t23:=Tryz.underlying325
 a23:=Tryz.isAgg325
 z23:=Tryz.sizeOf325
 v23:=Tryz.zeroValue325 }
theorem Tryz.SQ (b:Nat)(es:Array MapEntry)(clock:Nat)(w:World)(hb:w.heap[b]? = some (.map es clock)):
  Calls Tryz.prog 185 #[.map (some b)] w fun e w'=>e=.returned (.map (some w.heap.size))/\w'=w.alloc (.map es clock):=AnyW.maps_Clone Tryz.SP b es clock w hb
abbrev dV:=Int×ByteArray×ByteArray×ByteArray×ByteArray×Int×Int×Value×Unit
def ix (e:dV):Value:=.agg #[.int .i64 e.1,.string e.2.1,.string e.2.2.1,.string e.2.2.2.1,.string e.2.2.2.2.1,.int .i64 e.2.2.2.2.2.1,.int .i64 e.2.2.2.2.2.2.1,e.2.2.2.2.2.2.2.1]
def fZ (k:Int):List UInt8:=
 if k=1 then[] else if k=2 then[73,84] else if k=3 then[78,68,86] else if k=4 then[73,76,86] else if k=5 then[68] else if k=6 then[68,67,86] else[63]
def cS (k:Int)(c:UInt8):Bool:=(fZ k).contains c
def pQ (s:ByteArray):Bool:=kv 0 (cK s.data.toList)
def cI (n:Int):Bool:=decide (-1000000000000<=n)&&decide (n<=1000000000000)
def gR:Value->Bool
 | .nilIface=>true
 | _=>false
def pR (v:Value):Prop:=v=.nilIface\/∃ t u,v=.iface t u
def jd (s:ByteArray):Bool:=s.toList==(⟨#[]⟩:ByteArray).toList
def nn (e:dV):Bool:=
 (jd e.2.1||cS e.1 73)&&(jd e.2.2.1||cS e.1 78)&&(jd e.2.2.2.1||cS e.1 76)&&(jd e.2.2.2.2.1||cS e.1 67) &&
 ((e.2.2.2.2.2.1==0||cS e.1 68)&&(e.2.2.2.2.2.2.1==0||cS e.1 86)&&(gR e.2.2.2.2.2.2.2.1||cS e.1 84))
def oW (e:dV):Bool:=
 (!cS e.1 73||pQ e.2.1)&&(!cS e.1 78||pQ e.2.2.1)&&(!cS e.1 76||pQ e.2.2.2.1)&&(!cS e.1 67||pQ e.2.2.2.2.1)
def mA (e:dV)(tr:Int):Int:=
 if fZ e.1=[63] then 1 else if nn e=false then 1 else if oW e=false then 1 else
 if e.2.2.2.2.2.1<0 then 1 else if e.2.2.2.2.2.1 > 10000 then 1 else if cI e.2.2.2.2.2.2.1=false then 1 else
 if e.1=4/\e.2.2.2.2.2.2.1≠0/\e.2.2.2.2.2.2.1≠1 then 1 else if e.1=2 then tr else 0
theorem E6 (k:Int)(w:World):Ret Tryz.prog 128 #[.int .i64 k] w fun r w'=>r=.string (str (fZ k))/\w=w':=by
 refine c128 k w _ ?_;unfold fZ;refine aa.eq (fun h=>?_) (fun h=>?_)
 ·rw[if_pos h];exact⟨rfl,rfl⟩
 rw[if_neg h];refine aa.eq (fun h=>?_) (fun h=>?_)
 ·rw[if_pos h];exact⟨rfl,rfl⟩
 rw[if_neg h];refine aa.eq (fun h=>?_) (fun h=>?_)
 ·rw[if_pos h];exact⟨rfl,rfl⟩
 rw[if_neg h];refine aa.eq (fun h=>?_) (fun h=>?_)
 ·rw[if_pos h];exact⟨rfl,rfl⟩
 rw[if_neg h];refine aa.eq (fun h=>?_) (fun h=>?_)
 ·rw[if_pos h];exact⟨rfl,rfl⟩
 rw[if_neg h];refine aa.eq (fun h=>?_) (fun h=>?_)
 ·rw[if_pos h];exact⟨rfl,rfl⟩
 rw[if_neg h];exact⟨rfl,rfl⟩
theorem rR (n:Int)(w:World):Ret Tryz.prog 131 #[.int .i64 n] w fun r w'=>r=.bool (cI n)/\w=w':=by
 refine c131 n w _ ?_;unfold cI;refine aa.dec (fun h=>?_) (fun h=>?_)
 ·rw[decide_eq_true (p:=-1000000000000<=n) (by omega)];exact⟨rfl,rfl⟩
 ·rw[decide_eq_false (p:=-1000000000000<=n) (by omega)];exact⟨rfl,rfl⟩
theorem Lb:∀ (l:List UInt8) (c:UInt8),decide (0<=Lib.indexByte l c)=l.contains c
 | [],c=>by simp[Lib.indexByte]
 | b::l,c=>by
  have ih:=Lb l c;have hg:=Lib.indexByte_ge l c;unfold Lib.indexByte;rw[List.contains_cons,<- ih]
  by_cases h:b=c
  ·subst h;simp
  ·have h1:(b==c)=false:=by simpa using h
   have h2:(c==b)=false:=by simpa using fun t=>h t.symm
   rw[h1,h2,Bool.false_or];simp only[Bool.false_eq_true,if_false]
   by_cases hm:Lib.indexByte l c=-1
   ·rw[hm];simp
   ·rw[if_neg (by simpa using hm)]
    exact decide_eq_decide.2 (by omega)
theorem SR (l:List UInt8)(c:UInt8)(w:World):Ret Tryz.prog 211 #[.string (str l),.string (str [c])] w fun r w'=>r=.bool (l.contains c)/\w=w':=by
 refine(Tryz.strings_Contains_one (str l) c w).mono ?_;rintro e w' ⟨rfl,rfl⟩;refine⟨_,rfl,?_,rfl⟩;rw[ku,Lb]
theorem yY (k:Int)(c:UInt8)(w:World):Ret Tryz.prog 168 #[.int .i64 k,.string (str [c])] w fun r w'=>r=.bool (cS k c)/\w=w':=by
 refine c168 k _ w _ ?_;refine ab.of (E6 k w) ?_;rintro _ _ ⟨rfl,rfl⟩;refine⟨_,rfl,?_⟩;refine ab.of (SR _ c w) ?_;rintro _ _ ⟨rfl,rfl⟩;exact⟨_,rfl,rfl,rfl⟩
theorem nil_eq {t:TypeId}(ht:∃ ms,Tryz.prog.underlying t=some (.interface ms))(o:Operand){v:Value}(hv:pR v)(w:World):
  (do eqGuard .eql t o (.const .nilIface) v .nilIface;binOp .eql t v .nilIface:Sem Value).run Tryz.prog w=.ok (.bool (gR v)) w:=by
 obtain⟨ms,ht⟩:=ht
 rcases hv with rfl | ⟨u,x,rfl⟩
 ·have h1:(eqGuard .eql t o (.const .nilIface) .nilIface .nilIface).run Tryz.prog w=.ok () w:=by
   unfold eqGuard;simp
  rw[Sem.run_bind,h1,Result.andThen_ok];have h2:(Op.equalIn (9999+1) t .nilIface .nilIface).run Tryz.prog w=.ok true w:=by
   unfold Op.equalIn;simp only[Sem.run_bind,under ht,Result.andThen_ok,Sem.run_pure]
  show(do pure (Value.bool (<- Op.equalIn (9999+1) t .nilIface .nilIface)):Sem Value).run Tryz.prog w=_
  rw[Sem.run_bind,h2];rfl
 ·have h1:(eqGuard .eql t o (.const .nilIface) (.iface u x) .nilIface).run Tryz.prog w=.ok () w:=by
   unfold eqGuard;rfl
  rw[Sem.run_bind,h1,Result.andThen_ok];have h2:(Op.equalIn (9999+1) t (.iface u x) .nilIface).run Tryz.prog w=.ok false w:=by
   unfold Op.equalIn;simp only[Sem.run_bind,under ht,Result.andThen_ok,Sem.run_pure]
  show(do pure (Value.bool (<- Op.equalIn (9999+1) t (.iface u x) .nilIface)):Sem Value).run Tryz.prog w=_
  rw[Sem.run_bind,h2];rfl
def jN (e:dV):Array MapEntry:=#[⟨.string (str [73]),.string e.2.1,0⟩,⟨.string (str [78]),.string e.2.2.1,1⟩,⟨.string (str [76]),.string e.2.2.2.1,2⟩,⟨.string (str [67]),.string e.2.2.2.2.1,3⟩]
def BW (e:dV):Obj:=.cells #[.int .i64 e.1,.string e.2.1,.string e.2.2.1,.string e.2.2.2.1,.string e.2.2.2.2.1,.int .i64 e.2.2.2.2.2.1,.int .i64 e.2.2.2.2.2.2.1,e.2.2.2.2.2.2.2.1] 36 (0,0)
theorem E7 {a b:List UInt8}(h:a≠b):str a≠str b:=fun t=>h (str_inj t)
theorem Lc {w:World}{b:Nat}{e:dV}(hb:w.heap[b]? = some (BW e)){K:Option Addr->World->Prop}
  (h:∀ m r w1,w.heap.size<=m->w.heap.size<=r->r≠m->mz w1 r m (jN e) 4 #[]->Fr none1 w w1->w1.heap[b]? = some (BW e)->K (some ⟨r,0,none⟩) w1) :
  ak (.map #[] 0) w (fun g3 w4=>ae .str ((⟨b,0,none⟩:Addr).add 1) w4 (fun(x5:ByteArray)=>js Tryz.prog (Instr.mapUpdate 293 (.map (some g3)) (.string (⟨#[73]⟩:ByteArray)) (.string x5)) w4 (fun w6=>ae .str ((⟨b,0,none⟩:Addr).add 2) w6 (fun(x7:ByteArray)=>js Tryz.prog (Instr.mapUpdate 293 (.map (some g3)) (.string (⟨#[78]⟩:ByteArray)) (.string x7)) w6 (fun w8=>ae .str ((⟨b,0,none⟩:Addr).add 3) w8 (fun(x9:ByteArray)=>js Tryz.prog (Instr.mapUpdate 293 (.map (some g3)) (.string (⟨#[76]⟩:ByteArray)) (.string x9)) w8 (fun aG=>ae .str ((⟨b,0,none⟩:Addr).add 4) aG (fun(aX:ByteArray)=>js Tryz.prog (Instr.mapUpdate 293 (.map (some g3)) (.string (⟨#[67]⟩:ByteArray)) (.string aX)) aG (fun aL=>aA Tryz.prog (Instr.range 293 (.map (some g3))) aL (.v (.one .ptr)) (fun(bz:Option Addr) bo=>K bz bo)))))))))):=by
 have e73:(⟨#[73]⟩:ByteArray)=str [73]:=rfl;have e78:(⟨#[78]⟩:ByteArray)=str [78]:=rfl;have e76:(⟨#[76]⟩:ByteArray)=str [76]:=rfl;have e67:(⟨#[67]⟩:ByteArray)=str [67]:=rfl;rw[e73,e78,e76,e67];have tm:=Tryz.underlying293;have ts:=Tryz.underlying9;have hlb:=bL hb;refine ak.of fun g w1 hg yZ f1 kq=>?_;have b1:=f1.af hb;have j9:b≠g:=by omega
 refine ae.ah b1 rfl ?_;refine BT yZ _ _ tm ts (by simp) fun w2 Ld f2 _=>?_;have b2:=f2.jK b1 j9;refine ae.ah b2 rfl ?_;refine BT Ld _ _ tm ts (by
  intro x hx;simp at hx;subst hx;exact⟨_,rfl,E7 (by decide)⟩) fun w3 SS f3 _=>?_
 have b3:=f3.jK b2 j9;refine ae.ah b3 rfl ?_;refine BT SS _ _ tm ts (by
  intro x hx;simp at hx;rcases hx with rfl | rfl<;>exact⟨_,rfl,E7 (by decide)⟩) fun w4 SU f4 _=>?_
 have b4:=f4.jK b3 j9;refine ae.ah b4 rfl ?_;refine BT SU _ _ tm ts (by
  intro x hx;simp at hx;rcases hx with rfl | rfl | rfl<;>exact⟨_,rfl,E7 (by decide)⟩) fun w5 E8 f5 _=>?_
 have b5:=f5.jK b4 j9;have f15:Fr none1 w w5:=(((f1.fresh f2 (by omega)).fresh f3 (by omega)).fresh f4 (by omega)).fresh f5 (by omega);have Le:w5.heap[g]? = some (.map (jN e) 4):=E8;refine Sh tm Le (by
  intro x hx;simp[jN] at hx;rcases hx with rfl | rfl | rfl | rfl<;>simp) (by simp[jN]) fun r w6 hr hM f6=>?_
 have:=bL Le;have:=f15.size;exact h g r w6 (by omega) (by omega) (by omega) hM (f15.dq f6) (f6.af b5)
theorem Lf {e:dV}{seen:Array Nat}{eY:ByteArray->ByteArray->Bool}(hall:∀ x∈(jN e).toList,seen.contains x.born=true->∀ a b,x.key=.string a->x.val=.string b->eY a b=true)
  (hs:∀ x∈(jN e).toList,seen.contains x.born=true):(eY (str [73]) e.2.1&&eY (str [78]) e.2.2.1&&eY (str [76]) e.2.2.2.1&&eY (str [67]) e.2.2.2.2.1)=true:=by
 have g:=fun x hx=>hall x hx (hs x hx);rw[g ⟨.string (str [73]),.string e.2.1,0⟩ (by simp[jN]) _ _ rfl rfl,g ⟨.string (str [78]),.string e.2.2.1,1⟩ (by simp[jN]) _ _ rfl rfl,
  g ⟨.string (str [76]),.string e.2.2.2.1,2⟩ (by simp[jN]) _ _ rfl rfl,g ⟨.string (str [67]),.string e.2.2.2.2.1,3⟩ (by simp[jN]) _ _ rfl rfl]
 rfl
theorem Lg {e:dV}{eY:ByteArray->ByteArray->Bool}{x:MapEntry}{a b:ByteArray}(hx:x∈(jN e).toList)(ha:x.key=.string a)(hb:x.val=.string b)(hg:eY a b=false):
  (eY (str [73]) e.2.1&&eY (str [78]) e.2.2.1&&eY (str [76]) e.2.2.2.1&&eY (str [67]) e.2.2.2.2.1)=false:=by
 simp[jN] at hx
 rcases hx with rfl | rfl | rfl | rfl<;>(injection ha with ha;injection hb with hb;subst ha;subst hb;rw[hg];simp)
theorem Lh {e:dV}{x:MapEntry}(hx:x∈(jN e).toList):∃ c b,x.key=.string (str [c])/\x.val=.string b:=by
 simp[jN] at hx
 rcases hx with rfl | rfl | rfl | rfl<;>exact⟨_,_,rfl,rfl⟩
def BX (a:ByteArray):UInt8:=a.data.toList.getD 0 0
theorem wT (c:UInt8):BX (str [c])=c:=by unfold BX;rw[ku];rfl
def Seen (e:dV)(eY:ByteArray->ByteArray->Bool)(seen:Array Nat):Prop:=∀ x∈(jN e).toList,seen.contains x.born=true->∀ a b,x.key=.string a->x.val=.string b->eY a b=true
theorem SV (e:dV):∀ x∈(jN e).toList,∀ y∈(jN e).toList,x.born=y.born->x=y:=by
 intro x hx y hy h;simp[jN] at hx hy
 rcases hx with rfl | rfl | rfl | rfl<;>rcases hy with rfl | rfl | rfl | rfl<;>first | rfl | (simp at h)
theorem Seen.push {e:dV}{eY:ByteArray->ByteArray->Bool}{seen:Array Nat}(h:Seen e eY seen){x:MapEntry}(hx:x∈(jN e).toList){a b:ByteArray}(ha:x.key=.string a)(hb:x.val=.string b)(hg:eY a b=true):Seen e eY (seen.push x.born):=by
 intro y hy hc a' b' y7 gv;rw[contains_push] at hc;cases hs:seen.contains y.born with
 | true=>exact h y hy hs a' b' y7 gv
 | false=>
  rw[hs,Bool.false_or] at hc;have:=SV e y hy x hx (by simpa using hc);subst this;rw[ha] at y7;rw[hb] at gv;injection y7 with y7;injection gv with gv
  subst y7;subst gv;exact hg
theorem Seen.none (e:dV)(eY:ByteArray->ByteArray->Bool):Seen e eY #[]:=fun x hx h=>by simp at h
theorem SW (e:dV)(w:World):Ret Tryz.prog 130 #[ix e] w fun r w'=>r=.bool (oW e)/\Fr none1 w w':=by
 refine c130 e w _ ?_;unfold C130;refine ak.of fun b w1 hb au f1 _=>?_;refine Lc (e:=e) au fun m r w2 hm hr yR hM f2 aI=>?_;obtain⟨eY,rS⟩:∃ eY:ByteArray->ByteArray->Bool,eY=fun a s=>!cS e.1 (BX a)||pQ s:=⟨_,rfl⟩;have hN:oW e=(eY (str [73]) e.2.1&&eY (str [78]) e.2.2.1&&eY (str [76]) e.2.2.2.1&&eY (str [67]) e.2.2.2.2.1):=by
  rw[rS];unfold oW;simp only[wT]
 refine bC.of (fun _ w'=>∃ seen,mz w' r m (jN e) 4 seen/\Seen e eY seen/\Fr (only r) w2 w'/\w'.heap[b]? = some (BW e)) (fun _ w'=>wQ w' r m) ⟨#[],hM,Seen.none e eY,Fr.refl _ _,aI⟩ ?_;rintro _ _ w3 ⟨seen,E9,hS,f3,aR⟩;have fin:∀ w',Fr (only r) w2 w'->Fr none1 w w':=fun w' f=>(f1.dq f2).fresh f (by have:=f1.size;omega);refine KV E9 yR (fun x hx hc w4 uT f4 aU Fe=>?_) (fun hall=>?_)
 ·refine Fe ?_
  obtain⟨c,s,hk,hv⟩:=Lh hx;dsimp only;rw[hk,hv];have dy:=f4.jK aR (by have:=bL au;have:=f2.size;omega);refine ae.ah dy rfl ?_;refine ab.of (yY e.1 c w4) ?_;rintro _ _ ⟨rfl,rfl⟩;refine⟨_,rfl,?_⟩;refine aa.by (fun h=>?_) (fun h=>?_)
  ·refine ab.of (by have:=uQ s.data.toList w4;rw[KX] at this;exact this) ?_
   rintro _ w5 ⟨rfl,f5⟩;refine⟨_,rfl,aa.not (aa.by (fun hn=>?_) (fun hn=>?_))⟩
   ·refine⟨⟨_,uT.af f5,hS.push hx hk hv ?_,(f3.trans f4).dq f5,f5.af dy⟩,?_⟩
    ·rw[rS];dsimp only;unfold pQ;rw[hn];simp
    ·rw[(uT.af f5).left,<- uT.left];exact aU
   ·refine⟨?_,(fin _ (f3.trans f4)).trans f5⟩
    rw[hN,Lg hx hk hv];rw[rS];dsimp only;rw[wT,h];unfold pQ;rw[hn];rfl
  ·refine⟨⟨_,uT,hS.push hx hk hv ?_,f3.trans f4,dy⟩,aU⟩
   rw[rS];dsimp only;rw[wT,h];rfl
 ·refine⟨?_,fin _ f3⟩
  rw[hN,Lf hS hall]
theorem SX (e:dV)(hT:pR e.2.2.2.2.2.2.2.1)(w:World):Ret Tryz.prog 129 #[ix e] w fun r w'=>r=.bool (nn e)/\Fr none1 w w':=by
 refine c129 e w _ ?_;unfold C129;refine ak.of fun b w1 hb au f1 _=>?_;refine Lc (e:=e) au fun m r w2 hm hr yR hM f2 aI=>?_;obtain⟨eY,rS⟩:∃ eY:ByteArray->ByteArray->Bool,eY=fun a s=>jd s||cS e.1 (BX a):=⟨_,rfl⟩;have hN:nn e=((eY (str [73]) e.2.1&&eY (str [78]) e.2.2.1&&eY (str [76]) e.2.2.2.1&&eY (str [67]) e.2.2.2.2.1) &&
   ((e.2.2.2.2.2.1==0||cS e.1 68)&&(e.2.2.2.2.2.2.1==0||cS e.1 86)&&(gR e.2.2.2.2.2.2.2.1||cS e.1 84))):=by
  rw[rS];unfold nn;simp only[wT]
 refine bC.of (fun _ w'=>∃ seen,mz w' r m (jN e) 4 seen/\Seen e eY seen/\Fr (only r) w2 w'/\w'.heap[b]? = some (BW e)) (fun _ w'=>wQ w' r m) ⟨#[],hM,Seen.none e eY,Fr.refl _ _,aI⟩ ?_;rintro _ _ w3 ⟨seen,E9,hS,f3,aR⟩;have fin:∀ w',Fr (only r) w2 w'->Fr none1 w w':=fun w' f=>(f1.dq f2).fresh f (by have:=f1.size;omega);refine KV E9 yR (fun x hx hc w4 uT f4 aU Fe=>?_) (fun hall=>?_)
 ·refine Fe ?_
  obtain⟨c,s,hk,hv⟩:=Lh hx;dsimp only;rw[hk,hv];have dy:=f4.jK aR (by have:=bL au;have:=f2.size;omega);refine aa.by (fun hs=>?_) (fun hs=>?_)
  ·have Ff:jd s=false:=by unfold jd;simpa using hs
   refine ae.ah dy rfl ?_;refine ab.of (yY e.1 c w4) ?_;rintro _ _ ⟨rfl,rfl⟩;refine⟨_,rfl,aa.not (aa.by (fun h=>?_) (fun h=>?_))⟩
   ·refine⟨⟨_,uT,hS.push hx hk hv ?_,f3.trans f4,dy⟩,aU⟩
    rw[rS];dsimp only;rw[wT,h];simp
   ·refine⟨?_,fin _ (f3.trans f4)⟩
    rw[hN,Lg hx hk hv (by rw[rS];dsimp only;rw[wT,h,Ff];rfl)];rfl
  ·have Ff:jd s=true:=by unfold jd;simpa using hs
   refine⟨⟨_,uT,hS.push hx hk hv ?_,f3.trans f4,dy⟩,aU⟩;rw[rS];dsimp only;rw[Ff];rfl
 ·have hg:=Lf hS hall
  rw[hN,hg,Bool.true_and];have fr:=fin _ f3;have Li:∀ (d v:Bool),d=true->v=true->ae .raw ((⟨b,0,none⟩:Addr).add 7) w3 (fun(bZ:Value)=>aA Tryz.prog (do eqGuard .eql 34 (.tmp 34) (.const .nilIface) bZ .nilIface;binOp .eql 34 bZ .nilIface) w3 (.v (.one .bool)) (fun(df:Bool) dE=>aa df
    ((.bool true:Value)=.bool (d&&v&&(gR e.2.2.2.2.2.2.2.1||cS e.1 84))/\Fr none1 w dE)
    (ae (.int .i64) ((⟨b,0,none⟩:Addr).add 0) dE (fun(dh:Int)=>ab Tryz.prog 168 #[.int .i64 dh,.string (⟨#[84]⟩:ByteArray)] dE (.v (.one .bool)) (fun(dv:Bool) dd=>(.bool dv:Value)=.bool (d&&v&&(gR e.2.2.2.2.2.2.2.1||cS e.1 84))/\Fr none1 w dd))))):=by
   rintro d v rfl rfl;refine ae.ah aR (x:=e.2.2.2.2.2.2.2.1) rfl ?_;refine⟨gR e.2.2.2.2.2.2.2.1,w3,nil_eq ⟨_,Tryz.underlying34⟩ _ hT w3,?_⟩;refine aa.by (fun h=>?_) (fun h=>?_)
   ·rw[h];exact⟨rfl,fr⟩
   ·refine ae.ah aR rfl ?_
    refine ab.of (yY e.1 84 w3) ?_;rintro _ _ ⟨rfl,rfl⟩;rw[h];exact⟨_,rfl,by simp,fr⟩
  have hval:∀ d:Bool,d=true->ae (.int .i64) ((⟨b,0,none⟩:Addr).add 6) w3 (fun(eB:Int)=>aa (eB==0)
    (ae .raw ((⟨b,0,none⟩:Addr).add 7) w3 (fun(bZ:Value)=>aA Tryz.prog (do eqGuard .eql 34 (.tmp 34) (.const .nilIface) bZ .nilIface;binOp .eql 34 bZ .nilIface) w3 (.v (.one .bool)) (fun(df:Bool) dE=>aa df
     ((.bool true:Value)=.bool (d&&(e.2.2.2.2.2.2.1==0||cS e.1 86)&&(gR e.2.2.2.2.2.2.2.1||cS e.1 84))/\Fr none1 w dE)
     (ae (.int .i64) ((⟨b,0,none⟩:Addr).add 0) dE (fun(dh:Int)=>ab Tryz.prog 168 #[.int .i64 dh,.string (⟨#[84]⟩:ByteArray)] dE (.v (.one .bool)) (fun(dv:Bool) dd=>(.bool dv:Value)=.bool (d&&(e.2.2.2.2.2.2.1==0||cS e.1 86)&&(gR e.2.2.2.2.2.2.2.1||cS e.1 84))/\Fr none1 w dd))))))
    (ae (.int .i64) ((⟨b,0,none⟩:Addr).add 0) w3 (fun(gP:Int)=>ab Tryz.prog 168 #[.int .i64 gP,.string (⟨#[86]⟩:ByteArray)] w3 (.v (.one .bool)) (fun(dF:Bool) dO=>aa dF
     (ae .raw ((⟨b,0,none⟩:Addr).add 7) dO (fun(iK:Value)=>aA Tryz.prog (do eqGuard .eql 34 (.tmp 34) (.const .nilIface) iK .nilIface;binOp .eql 34 iK .nilIface) dO (.v (.one .bool)) (fun(eM:Bool) gx=>aa eM
      ((.bool true:Value)=.bool (d&&(e.2.2.2.2.2.2.1==0||cS e.1 86)&&(gR e.2.2.2.2.2.2.2.1||cS e.1 84))/\Fr none1 w gx)
      (ae (.int .i64) ((⟨b,0,none⟩:Addr).add 0) gx (fun(jw:Int)=>ab Tryz.prog 168 #[.int .i64 jw,.string (⟨#[84]⟩:ByteArray)] gx (.v (.one .bool)) (fun(iY:Bool) gr=>(.bool iY:Value)=.bool (d&&(e.2.2.2.2.2.2.1==0||cS e.1 86)&&(gR e.2.2.2.2.2.2.2.1||cS e.1 84))/\Fr none1 w gr))))))
     ((.bool false:Value)=.bool (d&&(e.2.2.2.2.2.2.1==0||cS e.1 86)&&(gR e.2.2.2.2.2.2.2.1||cS e.1 84))/\Fr none1 w dO))))):=by
   rintro d rfl;refine ae.ah aR rfl ?_;refine aa.by (fun h=>?_) (fun h=>?_)
   ·exact Li true _ rfl (by rw[h];rfl)
   ·refine ae.ah aR rfl ?_
    refine ab.of (yY e.1 86 w3) ?_;rintro _ _ ⟨rfl,rfl⟩;refine⟨_,rfl,aa.by (fun h2=>?_) (fun h2=>?_)⟩
    ·exact Li true _ rfl (by rw[h2];simp)
    ·refine⟨?_,fr⟩
     rw[h,h2];rfl
  refine ae.ah aR rfl ?_;refine aa.by (fun h=>?_) (fun h=>?_)
  ·exact hval _ (by rw[h];rfl)
  ·refine ae.ah aR rfl ?_
   refine ab.of (yY e.1 68 w3) ?_;rintro _ _ ⟨rfl,rfl⟩;refine⟨_,rfl,aa.by (fun h2=>?_) (fun h2=>?_)⟩
   ·exact hval _ (by rw[h2];simp)
   ·refine⟨?_,fr⟩
    rw[h,h2];rfl
theorem Fg (e:dV)(hT:pR e.2.2.2.2.2.2.2.1)(tr:Int)(w:World)
  (ht:e.1=2->∀ w1,Fr none1 w w1->Ret Tryz.prog 132 #[e.2.2.2.2.2.2.2.1] w1 fun r w'=>(∃ s,r=.tuple #[.string s,.int .i64 tr])/\Fr none1 w1 w') :
  Ret Tryz.prog 70 #[ix e] w fun r w'=>r=.int .i64 (mA e tr)/\Fr none1 w w':=by
 refine c70 e w _ ?_;unfold C70;refine ak.of fun b w1 hb au f1 _=>?_;refine ae.ah au rfl ?_;refine ab.of (E6 e.1 w1) ?_;rintro _ _ ⟨rfl,rfl⟩;refine⟨_,rfl,?_⟩;unfold mA;have e63:(⟨#[63]⟩:ByteArray)=str [63]:=rfl;have SY:((str (fZ e.1)).toList==(⟨#[63]⟩:ByteArray).toList)=decide (fZ e.1=[63]):=by rw[e63,jc]
 rw[SY];refine aa.dec (fun h=>?_) (fun h=>?_)
 ·rw[if_pos h];exact⟨rfl,f1⟩
 rw[if_neg h];refine aq.aE (x:=e) au ?_;refine ab.of (SX e hT w1) ?_;rintro _ w2 ⟨rfl,f2⟩;refine⟨_,rfl,aa.not (aa.by (fun ho=>?_) (fun ho=>?_))⟩
 case refine_2=>rw[if_pos ho];exact⟨rfl,f1.trans f2⟩
 rw[if_neg (by simp[ho])];have aI:=f2.af au;refine aq.aE (x:=e) aI ?_;refine ab.of (SW e w2) ?_;rintro _ w3 ⟨rfl,f3⟩;have f13:=(f1.trans f2).trans f3;refine⟨_,rfl,aa.not (aa.by (fun hn=>?_) (fun hn=>?_))⟩
 case refine_2=>rw[if_pos hn];exact⟨rfl,f13⟩
 rw[if_neg (by simp[hn])];have aR:=f3.af aI;refine ae.ah aR (x:=e.2.2.2.2.2.1) rfl ?_;refine aa.dec (fun h=>?_) (fun h=>?_)
 ·rw[if_pos h];exact⟨rfl,f13⟩
 rw[if_neg h];refine ae.ah aR (x:=e.2.2.2.2.2.1) rfl ?_;refine aa.dec (fun h=>?_) (fun h=>?_)
 ·rw[if_pos h];exact⟨rfl,f13⟩
 rw[if_neg h];refine ae.ah aR (x:=e.2.2.2.2.2.2.1) rfl ?_;refine ab.of (rR e.2.2.2.2.2.2.1 w3) ?_;rintro _ _ ⟨rfl,rfl⟩;refine⟨_,rfl,aa.not (aa.by (fun hv=>?_) (fun hv=>?_))⟩
 case refine_2=>rw[if_pos hv];exact⟨rfl,f13⟩
 rw[if_neg (by simp[hv])];refine cy.of (fun s w'=>s.1=decide (e.1=4/\e.2.2.2.2.2.2.1≠0/\e.2.2.2.2.2.2.1≠1)/\w3=w') ?_ ?_
 ·refine ae.ah aR (x:=e.1) rfl ?_
  refine aa.eq (fun h4=>?_) (fun h4=>?_)
  ·refine ae.ah aR (x:=e.2.2.2.2.2.2.1) rfl ?_
   refine aa.ne (fun h0=>?_) (fun h0=>?_)
   ·refine ae.ah aR (x:=e.2.2.2.2.2.2.1) rfl ⟨?_,rfl⟩
    dsimp only
    by_cases h1:e.2.2.2.2.2.2.1=1
    ·rw[decide_eq_false (fun t=>t.2.2 h1),h1];rfl
    ·rw[decide_eq_true ⟨h4,h0,h1⟩];simpa using h1
   ·exact⟨by dsimp only;rw[decide_eq_false (fun t=>t.2.1 h0)],rfl⟩
  ·exact⟨by dsimp only;rw[decide_eq_false (fun t=>h4 t.1)],rfl⟩
 ·rintro _ ⟨s,_⟩ _ ⟨hs,rfl⟩
  dsimp only at hs ⊢;rw[hs];refine aa.dec (fun h=>?_) (fun h=>?_)
  ·rw[if_pos h];exact⟨rfl,f13⟩
  rw[if_neg h];refine ae.ah aR (x:=e.1) rfl ?_;refine aa.eq (fun h2=>?_) (fun h2=>?_)
  ·rw[if_pos h2]
   refine ae.ah aR (x:=e.2.2.2.2.2.2.2.1) rfl ?_;refine ab.of (ht h2 w3 f13) ?_;rintro _ w4 ⟨⟨s',rfl⟩,f4⟩;exact⟨(s',tr,()),rfl,rfl,f13.trans f4⟩
  ·rw[if_neg h2];exact⟨rfl,f13⟩
theorem S0:iw Tryz.prog 143 21 1 (.int .i32 0) 4:=⟨Tryz.underlying143,⟨Tryz.t21,by kernel_rfl,rfl,rfl,rfl⟩,rfl,by decide⟩
def kY (w:World)(v:Sl)(rs:List Int):Prop:=aF w 21 1 v (rs.map (Value.int .i32))
theorem kY.ez {w:World}{v:Sl}{rs:List Int}(h:kY w v rs):(convert 143 9 (.slice v.1 v.2.1 v.2.2)).run Tryz.prog w=.ok (.string (str (ez rs))) w:=by
 have hr:=aF.rd h;have hl:=aF.len h;rw[List.length_map,Nat.mul_one] at hl;obtain⟨h1,h2,h3⟩:=hr;cases hv:v.1 with
 | none=>
  have:=(h2 hv).2.2;have:rs=[]:=by simpa using this
  subst this;exact run_convert_runes_nil w _ _ _ _ _ Tryz.underlying143 Tryz.underlying21 Tryz.underlying9
 | some a=>
  have hc:=h3 a hv;rw[run_convert_runes w _ _ _ a v.2.1 v.2.2 rs (by omega) Tryz.underlying143 Tryz.underlying21 Tryz.underlying9 (fun j hj=>?_),List.take_of_length_le (by omega),Sw];have:=wD _ 0 j (.int .i32 (rs.getD j 0)) hc (by rw[List.getElem?_map,List.getD_eq_getElem?_getD,List.getElem?_eq_getElem hj];rfl);rwa[Nat.zero_add] at this
theorem S1 {w:World}{v:Sl}{rs:List Int}(h:kY w v rs)(c:Int)(hl:rs.length<=1000000){K:Sl->World->Prop}
  (hK:∀ y w',kY w' y (rs++[c])->Fr (aw v) w w'->(∀ k,aw y k->aw v k\/w.heap.size<=k)->K y w') :
  aA Tryz.prog (Instr.buildSlice 143 1 #[(0,.int .i32 c)]) w (.v (.one .aj)) fun(y:Option Addr×Nat×Nat) w'=>
   aA Tryz.prog (Builtin.append_ #[143,143] 143 #[.slice v.1 v.2.1 v.2.2,.slice y.1 y.2.1 y.2.2]) w' (.v (.one .aj)) fun(u:Option Addr×Nat×Nat) nW=>K u nW:=by
 have cO:=aF.len h;rw[List.length_map,Nat.mul_one] at cO;refine EP S0 143 h (.int .i32 c) rfl rfl (by omega) fun y w' hy _ f yf=>hK y w' ?_ f yf;unfold kY;rw[List.map_append];exact hy
theorem kY.ld {w:World}{v:Sl}{rs:List Int}(h:kY w v rs){i:Int}(h0:0<=i)(h1:i<v.2.1){K:Int->Prop}(k:K (rs.getD i.toNat 0)):bQ v.1 v.2.1 i 1 fun p=>ae (.int .i32) p w K:=by
 have hl:=aF.len h;rw[List.length_map,Nat.mul_one] at hl;refine aF.ld h h0 h1 (x:=rs.getD i.toNat 0) ?_ k;rw[List.getElem?_map,List.getD_eq_getElem?_getD,List.getElem?_eq_getElem (by omega)];rfl
theorem kY.len {w:World}{v:Sl}{rs:List Int}(h:kY w v rs):v.2.1=rs.length:=by
 have hl:=aF.len h;rw[List.length_map,Nat.mul_one] at hl;exact hl.symm
def C33 (p0:bE)(w:World)(K:Value->World->Prop):Prop:=
 ak (.cells ((bT p0).toArray) 36) w (fun g1 w2=>aq dK (ad g1) w2 (fun(x3:bE)=>ab Tryz.prog 70 #[.agg (bT x3).toArray] w2 (.v (.one (.int .i64))) (fun(x4:Int) w5=>aa (x4 != 0)
 (K (.tuple #[.slice none 0 0,.int .i64 x4]) w5)
 (ae (.int .i64) ((ad g1).add 0) w5 (fun(x6:Int)=>aA Tryz.prog (Instr.buildSlice 22 1 #[(0,.int .u8 (IntKind.u8.wrap x6))]) w5 (.v (.one .aj)) (fun(x7:an) w8=>ae (.int .i64) ((ad g1).add 0) w8 (fun(x9:Int)=>ab Tryz.prog 71 #[.int .i64 x9] w8 (.v (.one .aj)) (fun(aQ:an) aO=>bC (an×Int×Unit) (fun _ fQ aY za=>aa (decide (fQ.2.1<(aQ.2.1:Int)))
 (bQ aQ.1 aQ.2.1 fQ.2.1 1 (fun uU=>ae (.int .i32) uU aY (fun(aS:Int)=>aq dK (ad g1) aY (fun(ba:bE)=>ab Tryz.prog 72 #[.agg (bT ba).toArray,.int .i32 aS] aY (.aN [.one .aj,.one (.int .i64)]) (fun(bB:an×Int×Unit) bu=>aa (bB.2.1 != 0)
 (K (.tuple #[.slice none 0 0,.int .i64 bB.2.1]) bu)
 (aA Tryz.prog (Builtin.append_ #[22,22] 22 #[.slice fQ.1.1 fQ.1.2.1 fQ.1.2.2,.slice bB.1.1 bB.1.2.1 bB.1.2.2]) bu (.v (.one .aj)) (fun(cG:an) bw=>za ((cG.1,cG.2.1,cG.2.2),IntKind.i64.wrap (fQ.2.1+1),()) bw)))))))
 (K (.tuple #[.slice fQ.1.1 fQ.1.2.1 fQ.1.2.2,.int .i64 0]) aY))
 ((x7.1,x7.2.1,x7.2.2),0,()) aO))))))))
def pl33:aB:=(.seq .auto (.seq .auto (.seq .auto (.seq (.seq .auto (.block (.loop [(5,.one .aj),(23,.one (.int .i64))] .auto))) .auto))))
theorem c33 (p0:bE)(w:World)(K:Value->World->Prop)(h:C33 p0 w K):Ret Tryz.prog 33 #[.agg (bT p0).toArray] w K:=aC (by kernel_rfl) Tryz.func33 (p:=pl33) (Eq.mpr (by kernel_rfl) h)
def C71 (p0:Int)(w:World)(K:Value->World->Prop):Prop:=
 aA Tryz.prog (Instr.range 9 (.string (⟨#[73,78,76,67,68,86,84]⟩:ByteArray))) w (.v (.one .ptr)) (fun(x1:Option Addr) w2=>bC (an×Unit) (fun _ s3 w4 kV=>v8 x1 w4 (fun x6 x7 w8=>ab Tryz.prog 128 #[.int .i64 p0] w8 (.v (.one .str)) (fun(x9:ByteArray) aG=>aA Tryz.prog (Instr.range 9 (.string x9)) aG (.v (.one .ptr)) (fun(aX:Option Addr) aL=>bC (an×Unit) (fun _ ka bo BY=>v8 aX bo (fun aS ba bt=>aa (ba==x7)
 (aA Tryz.prog (Instr.buildSlice 143 1 #[(0,.int .i32 x7)]) bt (.v (.one .aj)) (fun(br:an) bh=>aA Tryz.prog (Builtin.append_ #[143,143] 143 #[.slice ka.1.1 ka.1.2.1 ka.1.2.2,.slice br.1 br.2.1 br.2.2]) bh (.v (.one .aj)) (fun(bY:an) bJ=>BY ((bY.1,bY.2.1,bY.2.2),()) bJ)))
 (BY ((ka.1.1,ka.1.2.1,ka.1.2.2),()) bt))
 (kV ((ka.1.1,ka.1.2.1,ka.1.2.2),()) bo))
 ((s3.1.1,s3.1.2.1,s3.1.2.2),()) aL)))
 (K (.slice s3.1.1 s3.1.2.1 s3.1.2.2) w4))
 ((none,0,0),()) w2)
def pl71:aB:=(.seq .auto (.seq .auto (.seq (.seq .auto (.block (.loop [(3,.one .aj)] (.seq .auto (.seq .auto (.block (.seq .auto (.seq .auto (.block (.loop [(3,.one .aj)] .auto)))))))))) .auto)))
theorem c71 (p0:Int)(w:World)(K:Value->World->Prop)(h:C71 p0 w K):Ret Tryz.prog 71 #[.int .i64 p0] w K:=aC (by kernel_rfl) Tryz.func71 (p:=pl71) (Eq.mpr (by kernel_rfl) h)
def C72 (p0:bE)(p1:Int)(w:World)(K:Value->World->Prop):Prop:=
 ak (.cells ((bT p0).toArray) 36) w (fun g1 w2=>aa (p1==68)
 (ae (.int .i64) ((ad g1).add 5) w2 (fun(x3:Int)=>ab Tryz.prog 110 #[.int .i64 x3] w2 (.v (.one .aj)) (fun(x4:an) w5=>K (.tuple #[.slice x4.1 x4.2.1 x4.2.2,.int .i64 0]) w5)))
 (aa (p1==86)
 (ae (.int .i64) ((ad g1).add 6) w2 (fun(x6:Int)=>ab Tryz.prog 110 #[.int .i64 x6] w2 (.v (.one .aj)) (fun(x7:an) w8=>K (.tuple #[.slice x7.1 x7.2.1 x7.2.2,.int .i64 0]) w8)))
 (aa (p1==84)
 (ae .raw ((ad g1).add 7) w2 (fun(x9:Value)=>ab Tryz.prog 132 #[x9] w2 (.aN [.one .str,.one (.int .i64)]) (fun(aQ:ByteArray×Int×Unit) aO=>jJ 8 (aA Tryz.prog (Instr.buildSlice 22 2 #[(0,.int .u8 (IntKind.u8.wrap (Int.fdiv (aQ.1.size:Int) (2 ^ (min (Int.toNat 8) 64))))),(1,.int .u8 (IntKind.u8.wrap (aQ.1.size:Int)))]) aO (.v (.one .aj)) (fun(bx:an) aY=>aA Tryz.prog (Builtin.append_ #[22,9] 22 #[.slice bx.1 bx.2.1 bx.2.2,.string aQ.1]) aY (.v (.one .aj)) (fun(bg:an) bM=>K (.tuple #[.slice bg.1 bg.2.1 bg.2.2,.int .i64 aQ.2.1]) bM))))))
 (aa (p1==73)
 (ae .str ((ad g1).add 1) w2 (fun(aS:ByteArray)=>aA Tryz.prog (Instr.buildSlice 22 1 #[(0,.int .u8 (IntKind.u8.wrap (aS.size:Int)))]) w2 (.v (.one .aj)) (fun(ba:an) bt=>aA Tryz.prog (Builtin.append_ #[22,9] 22 #[.slice ba.1 ba.2.1 ba.2.2,.string aS]) bt (.v (.one .aj)) (fun(br:an) bh=>K (.tuple #[.slice br.1 br.2.1 br.2.2,.int .i64 0]) bh))))
 (aa (p1==78)
 (ae .str ((ad g1).add 2) w2 (fun(bY:ByteArray)=>aA Tryz.prog (Instr.buildSlice 22 1 #[(0,.int .u8 (IntKind.u8.wrap (bY.size:Int)))]) w2 (.v (.one .aj)) (fun(bU:an) cL=>aA Tryz.prog (Builtin.append_ #[22,9] 22 #[.slice bU.1 bU.2.1 bU.2.2,.string bY]) cL (.v (.one .aj)) (fun(cm:an) di=>K (.tuple #[.slice cm.1 cm.2.1 cm.2.2,.int .i64 0]) di))))
 (aa (p1==76)
 (ae .str ((ad g1).add 3) w2 (fun(dc:ByteArray)=>aA Tryz.prog (Instr.buildSlice 22 1 #[(0,.int .u8 (IntKind.u8.wrap (dc.size:Int)))]) w2 (.v (.one .aj)) (fun(cA:an) bV=>aA Tryz.prog (Builtin.append_ #[22,9] 22 #[.slice cA.1 cA.2.1 cA.2.2,.string dc]) bV (.v (.one .aj)) (fun(cB:an) bS=>K (.tuple #[.slice cB.1 cB.2.1 cB.2.2,.int .i64 0]) bS))))
 (aa (p1==67)
 (ae .str ((ad g1).add 4) w2 (fun(bZ:ByteArray)=>aA Tryz.prog (Instr.buildSlice 22 1 #[(0,.int .u8 (IntKind.u8.wrap (bZ.size:Int)))]) w2 (.v (.one .aj)) (fun(df:an) dE=>aA Tryz.prog (Builtin.append_ #[22,9] 22 #[.slice df.1 df.2.1 df.2.2,.string bZ]) dE (.v (.one .aj)) (fun(dh:an) dL=>K (.tuple #[.slice dh.1 dh.2.1 dh.2.2,.int .i64 0]) dL))))
 (aA Tryz.prog (Instr.buildSlice 22 1 #[(0,.int .u8 (IntKind.u8.wrap ((⟨#[]⟩:ByteArray).size:Int)))]) w2 (.v (.one .aj)) (fun(eg:an) dz=>aA Tryz.prog (Builtin.append_ #[22,9] 22 #[.slice eg.1 eg.2.1 eg.2.2,.string (⟨#[]⟩:ByteArray)]) dz (.v (.one .aj)) (fun(dF:an) dO=>K (.tuple #[.slice dF.1 dF.2.1 dF.2.2,.int .i64 0]) dO))))))))))
def pl72:aB:=.auto
theorem c72 (p0:bE)(p1:Int)(w:World)(K:Value->World->Prop)(h:C72 p0 p1 w K):Ret Tryz.prog 72 #[.agg (bT p0).toArray,.int .i32 p1] w K:=aC (by kernel_rfl) Tryz.func72 (p:=pl72) (Eq.mpr (by kernel_rfl) h)
def C153 (p0:iI)(w:World)(K:Value->World->Prop):Prop:=
 ak (.cells ((iX p0).toArray) 110) w (fun g1 w2=>aq dK ((ad g1).add 0) w2 (fun(x3:bE)=>ab Tryz.prog 33 #[.agg (bT x3).toArray] w2 (.aN [.one .aj,.one (.int .i64)]) (fun(x4:an×Int×Unit) w5=>aa (x4.2.1 != 0)
 (K (.tuple #[.slice none 0 0,.int .i64 x4.2.1]) w5)
 (ae .bool ((ad g1).add 8) w5 (fun(x6:Bool)=>aa x6
 (aA Tryz.prog (Instr.buildSlice 22 1 #[(0,.int .u8 1)]) w5 (.v (.one .aj)) (fun(x7:an) w8=>aA Tryz.prog (Builtin.append_ #[22,22] 22 #[.slice x7.1 x7.2.1 x7.2.2,.slice x4.1.1 x4.1.2.1 x4.1.2.2]) w8 (.v (.one .aj)) (fun(x9:an) aG=>K (.tuple #[.slice x9.1 x9.2.1 x9.2.2,.int .i64 0]) aG)))
 (aA Tryz.prog (Instr.buildSlice 22 1 #[(0,.int .u8 0)]) w5 (.v (.one .aj)) (fun(aX:an) aL=>aA Tryz.prog (Builtin.append_ #[22,22] 22 #[.slice aX.1 aX.2.1 aX.2.2,.slice x4.1.1 x4.1.2.1 x4.1.2.2]) aL (.v (.one .aj)) (fun(bz:an) bo=>K (.tuple #[.slice bz.1 bz.2.1 bz.2.2,.int .i64 0]) bo))))))))
def pl153:aB:=.auto
theorem c153 (p0:iI)(w:World)(K:Value->World->Prop)(h:C153 p0 w K):Ret Tryz.prog 153 #[.agg (iX p0).toArray] w K:=aC (by kernel_rfl) Tryz.func153 (p:=pl153) (Eq.mpr (by kernel_rfl) h)
def dW (b:UInt8):Int:=(b.toNat:Int)
def pT:List UInt8:=[73,78,76,67,68,86,84]
def eQ (k:Int):List UInt8:=pT.filter (cS k)
def ky (s:List UInt8):List UInt8:=UInt8.ofNat (s.length % 256)::s
def tk (e:dV)(c:UInt8):ByteArray:=if c=73 then e.2.1 else if c=78 then e.2.2.1 else if c=76 then e.2.2.2.1 else if c=67 then e.2.2.2.2.1 else(⟨#[]⟩:ByteArray)
def fj (e:dV)(ts:List UInt8)(c:UInt8):List UInt8:=
 if c=68 then cu e.2.2.2.2.2.1 else if c=86 then cu e.2.2.2.2.2.2.1 else if c=84 then UInt8.ofNat (ts.length / 256 % 256)::UInt8.ofNat (ts.length % 256)::ts else ky (tk e c).data.toList
def je (e:dV)(ts:List UInt8)(tr:Int):List UInt8×Int:=
 if mA e tr≠0 then([],mA e tr) else(UInt8.ofNat (e.1 % 256).toNat::(eQ e.1).flatMap (fj e ts),0)
def pU (e:dV):Prop:=e.2.1.size<=1000000/\e.2.2.1.size<=1000000/\e.2.2.2.1.size<=1000000/\e.2.2.2.2.1.size<=1000000
theorem Ta:cK pT=pT.map dW:=by decide +kernel
theorem Tb (k:Int):cK (fZ k)=(fZ k).map dW:=by
 unfold fZ
 repeat' split
 all_goals decide +kernel
theorem Tc (k:Int)(c:UInt8):((fZ k).map dW).filter (·==dW c)=if cS k c then[dW c] else[]:=by
 have h:∀ l:List UInt8,l.Nodup->(l.map dW).filter (·==dW c)=if l.contains c then[dW c] else[]:=by
  intro l hn
  induction l with
  | nil=>rfl
  | cons a l ih=>
   rw[List.nodup_cons] at hn;have ih:=ih hn.2;rw[List.map_cons,List.filter_cons]
   by_cases ha:a=c
   ·subst ha
    have:l.contains a=false:=by simpa using hn.1
    rw[ih,this];simp
   ·have h1:(dW a==dW c)=false:=by
     simp only[beq_eq_false_iff_ne];unfold dW;intro t;exact ha (UInt8.toNat_inj.1 (by omega))
    rw[h1,ih];have h2:(c==a)=false:=by simpa using fun t=>ha t.symm
    simp only[List.contains_cons,h2,Bool.false_or];rfl
 exact h _ (by unfold fZ;(repeat' split);all_goals decide)
theorem Lj (k:Int)(w:World):Ret Tryz.prog 71 #[.int .i64 k] w fun r w'=>∃ v:Sl,r=.slice v.1 v.2.1 v.2.2/\kY w' v ((eQ k).map dW)/\Fr none1 w w'/\∀ k,aw v k->w.heap.size<=k:=by
 refine c71 k w _ ?_;unfold C71;have eo:(⟨#[73,78,76,67,68,86,84]⟩:ByteArray)=str pT:=rfl;rw[eo];refine BV pT fun r w1 hr hit f1=>?_;rw[Ta] at hit;have s1:=f1.size;refine bC.of (fun s w'=>∃ acc rest:List UInt8,acc++rest.filter (cS k)=eQ k/\rest.length<=7/\acc.length+rest.length<=7/\kY w' s.1 (acc.map dW)/\(∀ k,aw s.1 k->w.heap.size<=k/\k≠r)/\jL w' r (rest.map dW)/\Fr none1 w w')
  (fun _ w'=>ni w' r) ⟨[],pT,rfl,by decide,by decide,.inl ⟨rfl,rfl⟩,(fun k ⟨a,ha,_⟩=>by cases ha),hit,f1⟩ ?_
 rintro _ ⟨v,_⟩ w2 ⟨acc,rest,heq,pV,BZ,hv,iM,qP,f2⟩;dsimp only at hv iM ⊢;have rlt:=qP.lt;refine BU qP (fun c lT pos w3 hc j7 pO f3=>?_) (fun jM=>?_)
 ·cases rest with
  | nil=>cases hc
  | cons d rest=>
   rw[List.map_cons] at hc;injection hc with hc qL
   subst hc qL;have pP:Fr none1 w w3:=f2.fresh f3 (by omega);have qR:kY w3 v (acc.map dW):=aF.ag hv f3 (fun k hk t=>(iM k hk).2 t);refine ab.of (E6 k w3) ?_;rintro _ _ ⟨rfl,rfl⟩;refine⟨_,rfl,?_⟩;refine BV (fZ k) fun q w4 hq tn f4=>?_;rw[Tb] at tn;have r3:=pO.lt;have zd:Fr none1 w w4:=pP.trans f4;have sw3:=pP.size;simp only[List.length_cons] at pV BZ;rw[List.filter_cons] at heq;refine bC.of (fun s w'=>∃ uV tq:List UInt8,uV.map dW++(tq.map dW).filter (·==dW d)=acc.map dW++(if cS k d then[dW d] else[])/\kY w' s.1 (uV.map dW)/\(∀ k,aw s.1 k->w.heap.size<=k/\k≠r/\k≠q)/\jL w' q (tq.map dW) /\
     jL w' r (rest.map dW)/\Fr none1 w w') (fun _ w'=>ni w' q)
    ⟨acc,fZ k,by rw[Tc],aF.af qR f4,(fun k hk=>⟨(iM k hk).1,(iM k hk).2,by have:=aF.lt qR hk;omega⟩),tn,pO.af f4,zd⟩ ?_
   rintro _ ⟨v2,_⟩ w5 ⟨uV,tq,mB,jO,oX,Fh,zh,f5⟩;dsimp only at jO oX ⊢;have qlt:=Fh.lt;refine BU Fh (fun x acm acn w6 hx aco wU f6=>?_) (fun Td=>?_)
   ·cases tq with
    | nil=>cases hx
    | cons y tq=>
     rw[List.map_cons] at hx;injection hx with hx uW
     subst hx uW;have Fi:Fr none1 w w6:=f5.fresh f6 (by omega);have Lk:kY w6 v2 (uV.map dW):=aF.ag jO f6 (fun k hk t=>(oX k hk).2.2 t);have pW:=zh.ag f6 (fun t=>by have:r=q:=t;omega);have l6:ni w6 q<ni w5 q:=by rw[wU.left,Fh.left];simp
     rw[List.map_cons,List.filter_cons] at mB;have Fj:uV.length<=acc.length+1:=by
      have:=congrArg List.length mB;rw[List.length_append,List.length_append,List.length_map,List.length_map] at this;have h3:(if cS k d then[dW d] else[]).length<=1:=by split<;>simp
      omega
     refine aa.by (fun he=>?_) (fun ay=>?_)
     ·rw[he,if_pos rfl] at mB
      have Te:dW y=dW d:=by simpa using he
      refine S1 Lk (dW d) (by rw[List.length_map];omega) fun u w7 hu f7 uf=>?_;have acp:=wU.lt;have acq:=pW.lt;refine⟨⟨uV++[d],tq,?_,by rw[List.map_append];exact hu,fun k hk=>?_,wU.ag f7 (fun t=>(oX q t).2.2 rfl),pW.ag f7 (fun t=>(oX r t).2.1 rfl),Fi.comp f7 (fun k hk t=>by have:=(oX k t).1;omega)⟩,?_⟩
      ·rw[<- mB,Te];simp
      ·rcases uf k hk with t | t
       ·exact oX k t
       ·have:=Fi.size;exact⟨by omega,by omega,by omega⟩
      ·rw[(wU.ag f7 (fun t=>(oX q t).2.2 rfl)).left,<- wU.left];exact l6
     ·rw[if_neg (by rw[ay];simp)] at mB
      exact⟨⟨uV,tq,mB,Lk,oX,wU,pW,Fi⟩,l6⟩
   ·have:tq=[]:=by simpa using Td
    subst this;rw[List.map_nil,List.filter_nil,List.append_nil] at mB
    by_cases hh:cS k d=true
    ·rw[hh] at heq mB
     simp only[if_true] at heq mB;refine⟨⟨acc++[d],rest,by rw[<- heq];simp,by omega,by simp;omega,?_,fun k hk=>⟨(oX k hk).1,(oX k hk).2.1⟩,zh,f5⟩,by rw[zh.left,qP.left];simp⟩;rw[List.map_append];rw[mB] at jO;exact jO
    ·have Tf:cS k d=false:=by simpa using hh
     rw[Tf] at heq mB;simp only[Bool.false_eq_true,if_false,List.append_nil] at heq mB;refine⟨⟨acc,rest,heq,by omega,by omega,?_,fun k hk=>⟨(oX k hk).1,(oX k hk).2.1⟩,zh,f5⟩,by rw[zh.left,qP.left];simp⟩;rw[mB] at jO;exact jO
 ·have:rest=[]:=by simpa using jM
  subst this;rw[List.filter_nil,List.append_nil] at heq;exact⟨v,rfl,by rw[<- heq];exact hv,f2,fun k hk=>(iM k hk).1⟩
theorem Ll {w:World}(hd:List UInt8)(h0:hd.length<=100)(s:ByteArray)(hs:s.size<=1000000){K:Sl->World->Prop}(k:∀ u w',cd w' u (hd++s.data.toList)->Fr none1 w w'->(∀ k,aw u k->w.heap.size<=k)->K u w'):
  aA Tryz.prog (Instr.buildSlice 22 hd.length (((hd.map bc).zipIdx.map fun(v,i)=>(i,v)).toArray)) w (.v (.one .aj)) (fun(x:Option Addr×Nat×Nat) w1=>aA Tryz.prog (Builtin.append_ #[22,9] 22 #[.slice x.1 x.2.1 x.2.2,.string s]) w1 (.v (.one .aj)) (fun(y:Option Addr×Nat×Nat) w2=>K y w2)):=by
 obtain⟨x,w1,hr,hx,kW,f1,hf⟩:=rN (P:=Tryz.prog) (w:=w) mZ (hd.map bc) (by intro v hv;obtain⟨x,_,rfl⟩:=List.mem_map.1 hv;rfl) (by simp;omega);rw[List.length_map] at hr kW;refine⟨x,w1,hr,?_⟩;obtain⟨u,w2,gq,hu,_,f2,uf⟩:=R0 mZ 22 Tryz.underlying9 hx s (by rw[kW];omega);refine⟨u,w2,gq,k u w2 ?_ (f1.comp f2 fun k hk t=>by have:=hf k t;omega) fun k hk=>?_⟩
 ·unfold cd
  rw[List.map_append];exact hu
 ·rcases uf k hk with t | t
  ·exact hf k t
  ·exact Nat.le_trans f1.size t
theorem Fk (n:Nat):Value.int .u8 (IntKind.u8.wrap (n:Int))=bc (UInt8.ofNat (n % 256)):=by
 unfold bc;rw[EV,oU (Nat.mod_lt _ (by decide))]
theorem Tg (e:dV)(hz:pU e)(c:UInt8)(ts:List UInt8)(kc:ts.length<=1000000)(tr:Int)(w:World)
  (ht:c=84->∀ w1,Fr none1 w w1->Ret Tryz.prog 132 #[e.2.2.2.2.2.2.2.1] w1 fun r w'=>r=.tuple #[.string (str ts),.int .i64 tr]/\Fr none1 w1 w') :
  Ret Tryz.prog 72 #[ix e,.int .i32 (dW c)] w fun r w'=>∃ v:Sl,r=.tuple #[.slice v.1 v.2.1 v.2.2,.int .i64 (if c=84 then tr else 0)]/\cd w' v (fj e ts c)/\Fr none1 w w'/\∀ k,aw v k->w.heap.size<=k:=by
 refine c72 e (dW c) w _ ?_;unfold C72;refine ak.of fun b w1 hb au f1 acr=>?_;have s1:=f1.size;have ay:∀ {d:UInt8},c≠d->(dW c==dW d)=false:=fun{d} h=>by
  simp only[beq_eq_false_iff_ne];unfold dW;intro t;exact h (UInt8.toNat_inj.1 (by omega))
 have num:∀ (n:Int),(fj e ts c=cu n)->c≠84->ab Tryz.prog 110 #[.int .i64 n] w1 (.v (.one .aj)) (fun(x4:Option Addr×Nat×Nat) w5=>
   ∃ v:Sl,(.tuple #[.slice x4.1 x4.2.1 x4.2.2,.int .i64 0]:Value)=.tuple #[.slice v.1 v.2.1 v.2.2,.int .i64 (if c=84 then tr else 0)]/\cd w5 v (fj e ts c)/\Fr none1 w w5/\∀ k,aw v k->w.heap.size<=k):=fun n hn hc=>by
  refine ab.of (KQ n w1) ?_;rintro _ w2 ⟨u,rfl,hu,f2,uf⟩;exact⟨u,rfl,u,by rw[if_neg hc],by rw[hn];exact hu,f1.trans f2,fun k hk=>Nat.le_trans s1 (uf k hk)⟩
 have ez:∀ (s:ByteArray),s.size<=1000000->fj e ts c=ky s.data.toList->c≠84->aA Tryz.prog (Instr.buildSlice 22 1 #[(0,.int .u8 (IntKind.u8.wrap (s.size:Int)))]) w1 (.v (.one .aj)) (fun(ba:Option Addr×Nat×Nat) bt=>aA Tryz.prog (Builtin.append_ #[22,9] 22 #[.slice ba.1 ba.2.1 ba.2.2,.string s]) bt (.v (.one .aj)) (fun(br:Option Addr×Nat×Nat) bh=>
   ∃ v:Sl,(.tuple #[.slice br.1 br.2.1 br.2.2,.int .i64 0]:Value)=.tuple #[.slice v.1 v.2.1 v.2.2,.int .i64 (if c=84 then tr else 0)]/\cd bh v (fj e ts c)/\Fr none1 w bh/\∀ k,aw v k->w.heap.size<=k)):=fun s hs hf hc=>by
  rw[Fk];refine Ll (w:=w1) [UInt8.ofNat (s.size % 256)] (by simp) s hs fun u w2 hu f2 uf=>?_;refine⟨u,by rw[if_neg hc],?_,f1.trans f2,fun k hk=>Nat.le_trans s1 (uf k hk)⟩;rw[hf];unfold ky;rw[yT];exact hu
 by_cases uX:c=68
 ·refine aa.t (by rw[uX];rfl) ?_
  exact ae.ah au (x:=e.2.2.2.2.2.1) rfl (num _ (by unfold fj;rw[if_pos uX]) (by rw[uX];decide))
 refine aa.f (ay uX) ?_
 by_cases wV:c=86
 ·refine aa.t (by rw[wV];rfl) ?_
  exact ae.ah au (x:=e.2.2.2.2.2.2.1) rfl (num _ (by unfold fj;rw[if_neg uX,if_pos wV]) (by rw[wV];decide))
 refine aa.f (ay wV) ?_
 by_cases np:c=84
 ·refine aa.t (by rw[np];rfl) ?_
  refine ae.ah au (x:=e.2.2.2.2.2.2.2.1) rfl ?_;refine ab.of (ht np w1 f1) ?_;rintro _ w2 ⟨rfl,f2⟩;refine⟨(str ts,tr,()),rfl,⟨by omega,?_⟩⟩;dsimp only;have es:((str ts).size:Int)=(ts.length:Int):=by rw[dU]
  rw[es,show Int.toNat 8=8 from rfl,BQ ts.length 8 (by omega),Fk,Fk];refine Ll (w:=w2) [UInt8.ofNat (ts.length / 2 ^ 8 % 256),UInt8.ofNat (ts.length % 256)] (by simp) (str ts) (by rw[dU];exact kc) fun u w3 hu f3 uf=>?_;refine⟨u,by rw[if_pos np],?_,(f1.trans f2).trans f3,fun k hk=>Nat.le_trans (f1.trans f2).size (uf k hk)⟩;unfold fj;rw[if_neg uX,if_neg wV,if_pos np];rw[ku] at hu;exact hu
 refine aa.f (ay np) ?_;have hF:∀ s,tk e c=s->fj e ts c=ky s.data.toList:=fun s hs=>by unfold fj;rw[if_neg uX,if_neg wV,if_neg np,hs]
 by_cases uY:c=73
 ·refine aa.t (by rw[uY];rfl) ?_
  exact ae.ah au (x:=e.2.1) rfl (ez _ hz.1 (hF _ (by unfold tk;rw[if_pos uY])) np)
 refine aa.f (ay uY) ?_
 by_cases wW:c=78
 ·refine aa.t (by rw[wW];rfl) ?_
  exact ae.ah au (x:=e.2.2.1) rfl (ez _ hz.2.1 (hF _ (by unfold tk;rw[if_neg uY,if_pos wW])) np)
 refine aa.f (ay wW) ?_
 by_cases zi:c=76
 ·refine aa.t (by rw[zi];rfl) ?_
  exact ae.ah au (x:=e.2.2.2.1) rfl (ez _ hz.2.2.1 (hF _ (by unfold tk;rw[if_neg uY,if_neg wW,if_pos zi])) np)
 refine aa.f (ay zi) ?_
 by_cases B0:c=67
 ·refine aa.t (by rw[B0];rfl) ?_
  exact ae.ah au (x:=e.2.2.2.2.1) rfl (ez _ hz.2.2.2 (hF _ (by unfold tk;rw[if_neg uY,if_neg wW,if_neg zi,if_pos B0])) np)
 refine aa.f (ay B0) ?_;exact ez _ (by decide) (hF _ (by unfold tk;rw[if_neg uY,if_neg wW,if_neg zi,if_neg B0])) np
theorem Fm (e:dV)(hz:pU e)(ts:List UInt8)(kc:ts.length<=1000000)(c:UInt8):(fj e ts c).length<=1000010:=by
 obtain⟨z1,z2,z3,z4⟩:=hz;unfold fj;split
 ·rw[iJ];omega
 split
 ·rw[iJ];omega
 split
 ·simp only[List.length_cons];omega
 unfold ky tk;have hs:∀ s:ByteArray,s.data.toList.length=s.size:=yT;simp only[List.length_cons,hs]
 repeat' split
 all_goals first | omega | (show(0:Nat)+1<=_;omega)
theorem Fo (e:dV)(hT:pR e.2.2.2.2.2.2.2.1)(hz:pU e)(ts:List UInt8)(kc:ts.length<=1000000)(tr:Int)(w:World)
  (ht:e.1=2->∀ w1,Fr none1 w w1->Ret Tryz.prog 132 #[e.2.2.2.2.2.2.2.1] w1 fun r w'=>r=.tuple #[.string (str ts),.int .i64 tr]/\Fr none1 w1 w') :
  Ret Tryz.prog 33 #[ix e] w fun r w'=>∃ v:Sl,r=.tuple #[.slice v.1 v.2.1 v.2.2,.int .i64 (je e ts tr).2]/\cd w' v (je e ts tr).1/\Fr none1 w w'/\∀ k,aw v k->w.heap.size<=k:=by
 refine c33 e w _ ?_;unfold C33;refine ak.of fun b w1 hb au f1 _=>?_;refine aq.aE (x:=e) au ?_;refine ab.of (Fg e hT tr w1 (fun h2 w' f=>(ht h2 w' (f1.trans f)).mono fun r nW ⟨h,f⟩=>⟨⟨_,h⟩,f⟩)) ?_;rintro _ w2 ⟨rfl,f2⟩;have f12:=f1.trans f2;have aI:=f2.af au;refine⟨_,rfl,?_⟩;unfold je;refine aa.ne (fun ay=>?_) (fun heq=>?_)
 ·rw[if_pos ay]
  exact⟨(none,0,0),rfl,.inl ⟨rfl,rfl⟩,f12,fun k ⟨a,ha,_⟩=>by cases ha⟩
 rw[if_neg (fun t=>t heq)];refine ae.ah aI (x:=e.1) rfl ?_;have Th:Value.int .u8 (IntKind.u8.wrap e.1)=bc (UInt8.ofNat (e.1 % 256).toNat):=by
  unfold bc;rw[oU (by omega)]
  congr 1
  simp[IntKind.wrap,IntKind.signed,IntKind.bits];omega
 rw[Th];obtain⟨x,w3,Fq,hx,kW,f3,xf⟩:=rN (P:=Tryz.prog) (w:=w2) mZ [bc (UInt8.ofNat (e.1 % 256).toNat)] (by simp[bc,Value.cells]) (by simp);refine⟨x,w3,Fq,?_⟩;have aR:=f3.af aI;have yP:cd w3 x [UInt8.ofNat (e.1 % 256).toNat]:=hx;refine ae.ah aR (x:=e.1) rfl ?_;refine ab.of (Lj e.1 w3) ?_;rintro _ w4 ⟨fv,rfl,zk,f4,ff⟩;refine⟨fv,rfl,?_⟩;have dy:=f4.af aR;have fQ:=f12.size;have f14:=(f12.trans f3).trans f4;have jP:=zk.len;rw[List.length_map] at jP;have BZ:(eQ e.1).length<=7:=by unfold eQ;exact Nat.le_trans (List.length_filter_le _ _) (by decide)
 have np:∀ c∈eQ e.1,c=84->e.1=2:=fun c hc h=>by
  subst h;have:=(List.mem_filter.1 hc).2;unfold cS fZ at this
  by_cases h2:e.1=2
  ·exact h2
  ·rw[if_neg h2] at this
   repeat' split at this
   all_goals exact absurd this (by decide)
 have Ti:e.1=2->tr=0:=fun h2=>by
  unfold mA at heq;rw[h2] at heq
  repeat' split at heq
  all_goals first | exact heq | (exact absurd heq (by decide)) | (rename_i hx;exact absurd rfl hx)
 refine bC.of (fun s w'=>∃ i:Nat,s.2.1=i/\i<=(eQ e.1).length/\cd w' s.1 (UInt8.ofNat (e.1 % 256).toNat::((eQ e.1).take i).flatMap (fj e ts))/\(∀ k,aw s.1 k->w2.heap.size<=k/\(¬ aw fv k))/\kY w' fv ((eQ e.1).map dW)/\Fr none1 w2 w')
  (fun s _=>(fv.2.1 - s.2.1).toNat) ⟨0,rfl,Nat.zero_le _,by simpa using cd.af yP f4,fun k hk=>⟨xf k hk,fun t=>by have:=ff k t;have:=aF.lt hx hk;omega⟩,zk,f3.trans f4⟩ ?_
 rintro _ ⟨v,i',_⟩ w5 ⟨i,hi,jf,hv,iM,Fs,f5⟩;dsimp only at hi hv iM ⊢;subst hi;refine aa.dec (fun aU=>?_) (fun eu=>?_)
 ·have Ft:i<(eQ e.1).length:=by omega
  refine kY.ld Fs (by omega) aU ?_;obtain⟨c,hc⟩:∃ c,(eQ e.1)[i]? = some c:=⟨_,List.getElem?_eq_getElem Ft⟩;have qS:c∈eQ e.1:=List.mem_of_getElem? hc;have Fu:((eQ e.1).map dW).getD (Int.toNat (i:Int)) 0=dW c:=by
   rw[Int.toNat_natCast,List.getD_eq_getElem?_getD,List.getElem?_map,hc];rfl
  rw[Fu];have cY:=f5.af (f2.af au);refine aq.aE (x:=e) cY ?_;have Tj:(if c=84 then tr else 0)=0:=by
   by_cases h:c=84
   ·rw[if_pos h];exact Ti (np c qS h)
   ·rw[if_neg h]
  have Lm:=Tg e hz c ts kc tr w5 (fun h w' f=>ht (np c qS h) w' ((f12.trans f5).trans f));rw[Tj] at Lm;refine ab.of Lm ?_;rintro _ w6 ⟨u,rfl,hu,f6,uf⟩;refine⟨(u,0,()),rfl,?_⟩;refine aa.f rfl ?_;have hlen:((eQ e.1).take i).flatMap (fj e ts)=((eQ e.1).take i).flatMap (fj e ts):=rfl;have hbound:∀ l:List UInt8,(l.flatMap (fj e ts)).length<=l.length * 1000010:=by
   intro l
   induction l with
   | nil=>simp
   | cons a l ih=>rw[List.flatMap_cons,List.length_append,List.length_cons];have:=Fm e hz ts kc a;omega
  have acs:=hbound ((eQ e.1).take i);have acu:=Fm e hz ts kc c;have Fv:((eQ e.1).take i).length<=7:=by rw[List.length_take];omega
  obtain⟨y,w7,pV,hy,f7,yf⟩:=rO (cd.af hv f6) hu.rd (by simp only[List.length_cons];omega);have Tk:=fun k (hk:aw fv k)=>aF.lt Fs hk;refine⟨y,w7,pV,⟨i+1,by rw[wI (by omega) (by omega)];omega,by omega,?_,fun k hk=>?_,aF.ag (aF.af Fs f6) f7 (fun k hk t=>(iM k t).2 hk),(f5.trans f6).comp f7 (fun k hk t=>by have:=(iM k t).1;omega)⟩,by rw[wI (by omega) (by omega)];omega⟩
  ·rw[List.take_add_one,hc,List.flatMap_append]
   simpa using hy
  ·rcases yf k hk with t | t
   ·exact iM k t
   ·have:=f5.size
    have:=f6.size;exact⟨by omega,fun q=>by have:=Tk k q;omega⟩
 ·rw[List.take_of_length_le (by omega)] at hv
  exact⟨v,rfl,hv,f12.trans f5,fun k hk=>by have:=(iM k hk).1;omega⟩
inductive Ob where
 | none
 | const (n:Int)
 | fix (s:List UInt8)
 | add (l r:Ob)
 | neg (o:Ob)
 | mul (l r:Ob)
 | max (l r:Ob)
inductive Tm where
 | none
 | zero
 | one (s:List UInt8)
 | gG (t:Tm)
 | and (l r:Tm)
 | or (s:List UInt8) (l r:Tm)
 | scale (o:Ob) (t:Tm)
 | when (d:Int) (t:Tm)
 | cond (o:Ob) (l r:Tm)
def Ob.v:Ob->Value
 | .none=>.nilIface
 | .const n=>.iface 222 (.agg #[.int .i64 n])
 | .fix s=>.iface 300 (.agg #[.string (str s)])
 | .add l r=>.iface 302 (.agg #[l.v,r.v])
 | .neg o=>.iface 304 (.agg #[o.v])
 | .mul l r=>.iface 305 (.agg #[l.v,r.v])
 | .max l r=>.iface 306 (.agg #[l.v,r.v])
def Tm.v:Tm->Value
 | .none=>.nilIface
 | .zero=>.iface 235 (.agg #[])
 | .one s=>.iface 216 (.agg #[.string (str s)])
 | .gG t=>.iface 237 (.agg #[t.v])
 | .and l r=>.iface 239 (.agg #[l.v,r.v])
 | .or s l r=>.iface 241 (.agg #[.string (str s),l.v,r.v])
 | .scale o t=>.iface 245 (.agg #[o.v,t.v])
 | .when d t=>.iface 247 (.agg #[.int .i64 d,t.v])
 | .cond o l r=>.iface 249 (.agg #[o.v,l.v,r.v])
theorem oY (s:ByteArray):bK (.string s)=true:=rfl
theorem pX (k:IntKind)(n:Int):bK (.int k n)=true:=rfl
theorem Ob.bW (o:Ob):bK o.v=true:=by cases o<;>rfl
theorem Tm.bW (t:Tm):bK t.v=true:=by cases t<;>rfl
theorem Ob.fR (o:Ob):o.v.cells=#[o.v]:=by cases o<;>rfl
theorem Tm.fR (t:Tm):t.v.cells=#[t.v]:=by cases t<;>rfl
def cT:Ob->List Ob
 | .add l r | .mul l r | .max l r=>[l,r]
 | .neg o=>[o]
 | _=>[]
def dj:Tm->List Tm
 | .gG t | .scale _ t | .when _ t=>[t]
 | .and l r | .or _ l r | .cond _ l r=>[l,r]
 | _=>[]
theorem B1 {o k:Ob}(h:k∈cT o):SizeOf.sizeOf k<SizeOf.sizeOf o:=by
 cases o<;>simp[cT] at h
 all_goals first | (rcases h with rfl | rfl<;>simp<;>omega) | (subst h;simp)
theorem B2 {t k:Tm}(h:k∈dj t):SizeOf.sizeOf k<SizeOf.sizeOf t:=by
 cases t<;>simp[dj] at h
 all_goals first | (rcases h with rfl | rfl<;>simp<;>omega) | (subst h;simp;done) | (subst h;simp;omega)
theorem B3 (o:Ob):(cT o).length<=2:=by cases o<;>simp[cT]
theorem B4 (t:Tm):(dj t).length<=2:=by cases t<;>simp[dj]
namespace Vc
theorem ao.hit {x:Value}{t:TypeId}{k:Kd}{yes:k.C->Prop}{no:Prop}(r:k.C)(h:x=.iface t (k.val r))(hy:yes r):ao x t k yes no:=⟨.inl ⟨r,h,hy⟩⟩
theorem ao.aM {x:Value}{t u:TypeId}{v:Value}{k:Kd}{yes:k.C->Prop}{no:Prop}(h:x=.iface u v)(hu:u≠t)(hn:no):ao x t k yes no:=⟨.inr ⟨.inr ⟨u,v,h,hu⟩,hn⟩⟩
theorem ao.nil {x:Value}{t:TypeId}{k:Kd}{yes:k.C->Prop}{no:Prop}(h:x=.nilIface)(hn:no):ao x t k yes no:=⟨.inr ⟨.inl h,hn⟩⟩
theorem cM {w:World}{T:TypeId}{zs vs:List Value}{K:Nat->World->Prop}(hl:zs.length=vs.length)(h1:vs.all bK=true)
  (h:∀ g w4,w.heap.size=g->w4.heap[g]? = some (.cells vs.toArray T (0,0))->Fr none1 w w4->K g w4):ak (.cells zs.toArray T) w fun g w3=>ar ⟨g,0,none⟩ vs w3 fun w4=>K g w4:=
 ak.of fun g w1 hg hb f1 hs=>ar.aE hb hl h1 fun w2 aI f2 _=>h g w2 hg aI (f1.fresh f2 (by omega))
theorem mC {w:World}{T:TypeId}{zs vs:List Value}{K:World->Prop}(hl:zs.length=vs.length)(h1:vs.all bK=true)
  (h:∀ w4,Fr none1 w w4->K w4):ak (.cells zs.toArray T) w fun g w3=>ar ⟨g,0,none⟩ vs w3 fun w4=>K w4:=
 cM hl h1 fun _ w4 _ _ f=>h w4 f
theorem B5 {P:Program}{w:World}{T t E i bytes:Nat}{z a:Value}{zs vs:List Value}{K:Option Addr×Nat×Nat->World->Prop}(he:iw P t E 1 z bytes)(hl:zs.length=vs.length)(h1:vs.all bK=true)(ha:vs[i]? = some a)(hc:a.cells=#[a])
  (h:∀ (u:Sl) w',aF w' E 1 u [a]->u.2.1=1->Fr none1 w w'->(∀ k,aw u k->w.heap.size<=k)->K u w') :
  ak (.cells zs.toArray T) w fun g w3=>ar ⟨g,0,none⟩ vs w3 fun w4=>ae .raw ((⟨g,0,none⟩:Addr).add i) w4 fun(x:Value)=>aA P (Instr.buildSlice t 1 #[(0,x)]) w4 (.v (.one .aj)) fun(u:Option Addr×Nat×Nat) w5=>K u w5:=by
 refine cM hl h1 fun g w4 hg hb f=>?_;refine ae.ah (c:=.raw) hb (x:=a) (by rw[List.getElem?_toArray,Nat.zero_add];exact ha) ?_;obtain⟨u,w5,hr,hu,dk,f5,uf⟩:=lR (w:=w4) he a hc;exact⟨u,w5,hr,h u w5 hu dk (f.trans f5) fun k hk=>Nat.le_trans f.size (uf k hk)⟩
theorem B6 {P:Program}{w:World}{T t E i j bytes:Nat}{z a b:Value}{zs vs:List Value}{K:Option Addr×Nat×Nat->World->Prop}(he:iw P t E 1 z bytes)(hl:zs.length=vs.length)(h1:vs.all bK=true)(ha:vs[i]? = some a)(hb:vs[j]? = some b)(hca:a.cells=#[a])(B7:b.cells=#[b])
  (h:∀ (u:Sl) w',aF w' E 1 u [a,b]->u.2.1=2->Fr none1 w w'->(∀ k,aw u k->w.heap.size<=k)->K u w') :
  ak (.cells zs.toArray T) w fun g w3=>ar ⟨g,0,none⟩ vs w3 fun w4=>ae .raw ((⟨g,0,none⟩:Addr).add i) w4 fun(x:Value)=>ae .raw ((⟨g,0,none⟩:Addr).add j) w4 fun(y:Value)=>aA P (Instr.buildSlice t 2 #[(0,x),(1,y)]) w4 (.v (.one .aj)) fun(u:Option Addr×Nat×Nat) w5=>K u w5:=by
 refine cM hl h1 fun g w4 hg wG f=>?_;refine ae.ah (c:=.raw) wG (x:=a) (by rw[List.getElem?_toArray,Nat.zero_add];exact ha) ?_;refine ae.ah (c:=.raw) wG (x:=b) (by rw[List.getElem?_toArray,Nat.zero_add];exact hb) ?_;obtain⟨u,w5,hr,hu,dk,f5,uf⟩:=rN (w:=w4) he [a,b] (by intro v hv;simp at hv;rcases hv with rfl | rfl<;>assumption) (by simp)
 exact⟨u,w5,hr,h u w5 hu dk (f.trans f5) fun k hk=>Nat.le_trans f.size (uf k hk)⟩
end Vc
theorem Ln:iw Tryz.prog 401 242 1 .nilIface 16:=⟨Tryz.underlying401,⟨Tryz.t242,by kernel_rfl,rfl,rfl,rfl⟩,rfl,by decide⟩
theorem wX:iw Tryz.prog 370 34 1 .nilIface 16:=⟨Tryz.underlying370,⟨Tryz.t34,by kernel_rfl,rfl,rfl,rfl⟩,rfl,by decide⟩
theorem wY:iw Tryz.prog 51 9 1 (.string ⟨#[]⟩) 16:=⟨Tryz.underlying51,⟨Tryz.t9,by kernel_rfl,rfl,rfl,rfl⟩,rfl,by decide⟩
def lU (w:World)(v:Sl)(l:List Ob):Prop:=aF w 242 1 v (l.map Ob.v)
def nq (w:World)(v:Sl)(l:List Tm):Prop:=aF w 34 1 v (l.map Tm.v)
theorem lU.af {w w':World}{v:Sl}{l:List Ob}(h:lU w v l)(f:Fr none1 w w'):lU w' v l:=aF.af h f
theorem nq.af {w w':World}{v:Sl}{l:List Tm}(h:nq w v l)(f:Fr none1 w w'):nq w' v l:=aF.af h f
theorem lU.len {w:World}{v:Sl}{l:List Ob}(h:lU w v l):v.2.1=l.length:=by have:=aF.len h;rw[List.length_map,Nat.mul_one] at this;exact this.symm
theorem nq.len {w:World}{v:Sl}{l:List Tm}(h:nq w v l):v.2.1=l.length:=by have:=aF.len h;rw[List.length_map,Nat.mul_one] at this;exact this.symm
theorem lU.ld {w:World}{v:Sl}{l:List Ob}(h:lU w v l){i:Nat}{o:Ob}(ho:l[i]? = some o){K:Value->Prop}(k:K o.v):bQ v.1 v.2.1 (i:Int) 1 fun p=>ae .raw p w K:=by
 have hi:=(List.getElem?_eq_some_iff.1 ho).1;have hl:=h.len;refine aF.ld h (by omega) (by omega) (c:=.raw) (x:=o.v) ?_ k;rw[Int.toNat_natCast,List.getElem?_map,ho];rfl
theorem nq.ld {w:World}{v:Sl}{l:List Tm}(h:nq w v l){i:Nat}{o:Tm}(ho:l[i]? = some o){K:Value->Prop}(k:K o.v):bQ v.1 v.2.1 (i:Int) 1 fun p=>ae .raw p w K:=by
 have hi:=(List.getElem?_eq_some_iff.1 ho).1;have hl:=h.len;refine aF.ld h (by omega) (by omega) (c:=.raw) (x:=o.v) ?_ k;rw[Int.toNat_natCast,List.getElem?_map,ho];rfl
theorem Fw (w:World):lU w (none,0,0) []:=.inl ⟨rfl,rfl⟩
theorem Tl (w:World):nq w (none,0,0) []:=.inl ⟨rfl,rfl⟩
theorem kz:∀ k,¬ aw (none,0,0) k:=fun k ⟨a,ha,_⟩=>by cases ha
def C254 (p0:Value)(w:World)(K:Value->World->Prop):Prop:=
 ao p0 302 (.agg [.raw,.raw]) (fun(x1:Value×Value×Unit)=>ak (.cells #[.nilIface,.nilIface] 302) w (fun g2 w3=>ar (ad g2) [x1.1,x1.2.1] w3 (fun w4=>ae .raw ((ad g2).add 0) w4 (fun(x5:Value)=>ae .raw ((ad g2).add 1) w4 (fun(x6:Value)=>aA Tryz.prog (Instr.buildSlice 401 2 #[(0,x5),(1,x6)]) w4 (.v (.one .aj)) (fun(x7:an) w8=>K (.slice x7.1 x7.2.1 x7.2.2) w8))))))
 (ak (.cells #[.nilIface,.nilIface] 302) w (fun g9 aG=>ar (ad g9) [.nilIface,.nilIface] aG (fun aO=>ao p0 305 (.agg [.raw,.raw]) (fun(bx:Value×Value×Unit)=>ak (.cells #[.nilIface,.nilIface] 305) aO (fun g13 bo=>ar (ad g13) [bx.1,bx.2.1] bo (fun bM=>ae .raw ((ad g13).add 0) bM (fun(aS:Value)=>ae .raw ((ad g13).add 1) bM (fun(ba:Value)=>aA Tryz.prog (Instr.buildSlice 401 2 #[(0,aS),(1,ba)]) bM (.v (.one .aj)) (fun(bB:an) bu=>K (.slice bB.1 bB.2.1 bB.2.2) bu))))))
 (ak (.cells #[.nilIface,.nilIface] 305) aO (fun g20 bw=>ar (ad g20) [.nilIface,.nilIface] bw (fun bJ=>ao p0 306 (.agg [.raw,.raw]) (fun(cv:Value×Value×Unit)=>ak (.cells #[.nilIface,.nilIface] 306) bJ (fun g24 di=>ar (ad g24) [cv.1,cv.2.1] di (fun cn=>ae .raw ((ad g24).add 0) cn (fun(cA:Value)=>ae .raw ((ad g24).add 1) cn (fun(eR:Value)=>aA Tryz.prog (Instr.buildSlice 401 2 #[(0,cA),(1,eR)]) cn (.v (.one .aj)) (fun(cB:an) bS=>K (.slice cB.1 cB.2.1 cB.2.2) bS))))))
 (ak (.cells #[.nilIface,.nilIface] 306) bJ (fun Tn cU=>ar (ad Tn) [.nilIface,.nilIface] cU (fun dE=>ao p0 304 (.agg [.raw]) (fun(dh:Value×Unit)=>ak (.cells #[.nilIface] 304) dE (fun Lo dd=>ar (ad Lo) [dh.1] dd (fun dz=>ae .raw ((ad Lo).add 0) dz (fun(dF:Value)=>aA Tryz.prog (Instr.buildSlice 401 1 #[(0,dF)]) dz (.v (.one .aj)) (fun(fk:an) dP=>K (.slice fk.1 fk.2.1 fk.2.2) dP)))))
 (ak (.cells #[.nilIface] 304) dE (fun To gx=>ar (ad To) [.nilIface] gx (fun jQ=>K (.slice none 0 0) jQ))))))))))))
def pl254:aB:=.auto
theorem c254 (p0:Value)(w:World)(K:Value->World->Prop)(h:C254 p0 w K):Ret Tryz.prog 254 #[p0] w K:=aC (by kernel_rfl) Tryz.func254 (p:=pl254) (Eq.mpr (by kernel_rfl) h)
def C290 (p0:Value)(w:World)(K:Value->World->Prop):Prop:=
 ao p0 222 (.agg [.int .i64]) (fun(x1:Int×Unit)=>ak (.cells #[.int .i64 0] 222) w (fun g2 w3=>ar (ad g2) [.int .i64 x1.1] w3 (fun w4=>ae (.int .i64) ((ad g2).add 0) w4 (fun(x5:Int)=>ab Tryz.prog 131 #[.int .i64 x5] w4 (.v (.one .bool)) (fun(x6:Bool) w7=>K (.tuple #[.bool true,.bool x6]) w7)))))
 (ak (.cells #[.int .i64 0] 222) w (fun g8 w9=>ar (ad g8) [.int .i64 0] w9 (fun aG=>ao p0 300 (.agg [.str]) (fun(aX:ByteArray×Unit)=>ak (.cells #[.string (⟨#[]⟩:ByteArray)] 300) aG (fun g12 aY=>ar (ad g12) [.string aX.1] aY (fun bo=>ae .str ((ad g12).add 0) bo (fun(bn:ByteArray)=>ab Tryz.prog 169 #[.string bn] bo (.v (.one .bool)) (fun(aS:Bool) cj=>K (.tuple #[.bool true,.bool aS]) cj)))))
 (ak (.cells #[.string (⟨#[]⟩:ByteArray)] 300) aG (fun g18 bu=>ar (ad g18) [.string (⟨#[]⟩:ByteArray)] bu (fun bh=>K (.tuple #[.bool false,.bool false]) bh))))))
def pl290:aB:=.auto
theorem c290 (p0:Value)(w:World)(K:Value->World->Prop)(h:C290 p0 w K):Ret Tryz.prog 290 #[p0] w K:=aC (by kernel_rfl) Tryz.func290 (p:=pl290) (Eq.mpr (by kernel_rfl) h)
def C265 (p0:Value)(w:World)(K:Value->World->Prop):Prop:=
 ab Tryz.prog 290 #[p0] w (.aN [.one .bool,.one .bool]) (fun(x1:Bool×Bool×Unit) w2=>aa (!x1.1)
 (ab Tryz.prog 254 #[p0] w2 (.v (.one .aj)) (fun(x3:an) w4=>K (.bool ((x3.2.1:Int)==0)) w4))
 (K (.bool false) w2))
def pl265:aB:=.auto
theorem c265 (p0:Value)(w:World)(K:Value->World->Prop)(h:C265 p0 w K):Ret Tryz.prog 265 #[p0] w K:=aC (by kernel_rfl) Tryz.func265 (p:=pl265) (Eq.mpr (by kernel_rfl) h)
def C247 (p0:Value)(w:World)(K:Value->World->Prop):Prop:=
 ab Tryz.prog 265 #[p0] w (.v (.one .bool)) (fun(x1:Bool) w2=>aa x1
 (K (.tuple #[.int .i64 0,.int .i64 0]) w2)
 (ab Tryz.prog 254 #[p0] w2 (.v (.one .aj)) (fun(x3:an) w4=>bC (Int×Int×Int×Unit) (fun _ s5 w6 tt=>aa (decide (s5.2.2.1<(x3.2.1:Int)))
 (bQ x3.1 x3.2.1 s5.2.2.1 1 (fun a8=>ae .raw a8 w6 (fun(x9:Value)=>ab Tryz.prog 247 #[x9] w6 (.aN [.one (.int .i64),.one (.int .i64)]) (fun(aQ:Int×Int×Unit) aO=>tt (IntKind.i64.wrap (s5.1+aQ.1),(if aQ.2.1 > s5.2.1 then aQ.2.1 else s5.2.1),IntKind.i64.wrap (s5.2.2.1+1),()) aO))))
 (K (.tuple #[.int .i64 (IntKind.i64.wrap (s5.1+1)),.int .i64 (IntKind.i64.wrap (s5.2.1+1))]) w6))
 (0,0,0,()) w4)))
def pl247:aB:=(.seq .auto (.seq .auto (.seq (.seq .auto (.block (.loop [(2,.one (.int .i64)),(3,.one (.int .i64)),(13,.one (.int .i64))] .auto))) .auto)))
theorem c247 (p0:Value)(w:World)(K:Value->World->Prop)(h:C247 p0 w K):Ret Tryz.prog 247 #[p0] w K:=aC (by kernel_rfl) Tryz.func247 (p:=pl247) (Eq.mpr (by kernel_rfl) h)
def C263 (p0:Value)(w:World)(K:Value->World->Prop):Prop:=
 ab Tryz.prog 290 #[p0] w (.aN [.one .bool,.one .bool]) (fun(x1:Bool×Bool×Unit) w2=>aa x1.1
 (K (.bool x1.2.1) w2)
 (ab Tryz.prog 265 #[p0] w2 (.v (.one .bool)) (fun(x3:Bool) w4=>aa (!x3)
 (ab Tryz.prog 254 #[p0] w4 (.v (.one .aj)) (fun(x5:an) w6=>ab Tryz.prog 291 #[.slice x5.1 x5.2.1 x5.2.2,.func (.func 292) #[] #[]] w6 (.v (.one .bool)) (fun(x7:Bool) w8=>K (.bool (!x7)) w8)))
 (K (.bool false) w4))))
def pl263:aB:=.auto
theorem c263 (p0:Value)(w:World)(K:Value->World->Prop)(h:C263 p0 w K):Ret Tryz.prog 263 #[p0] w K:=aC (by kernel_rfl) Tryz.func263 (p:=pl263) (Eq.mpr (by kernel_rfl) h)
def C292 (p0:Value)(w:World)(K:Value->World->Prop):Prop:=
 ab Tryz.prog 263 #[p0] w (.v (.one .bool)) (fun(x1:Bool) w2=>K (.bool (!x1)) w2)
def pl292:aB:=.auto
theorem c292 (p0:Value)(w:World)(K:Value->World->Prop)(h:C292 p0 w K):Ret Tryz.prog 292 #[p0] w K:=aC (by kernel_rfl) Tryz.func292 (p:=pl292) (Eq.mpr (by kernel_rfl) h)
def C244 (p0:Value)(w:World)(K:Value->World->Prop):Prop:=
 ab Tryz.prog 263 #[p0] w (.v (.one .bool)) (fun(x1:Bool) w2=>aa (!x1)
 (K (.int .i64 2) w2)
 (ab Tryz.prog 247 #[p0] w2 (.aN [.one (.int .i64),.one (.int .i64)]) (fun(x3:Int×Int×Unit) w4=>aa (decide (x3.1 > 60))
 (K (.int .i64 5) w4)
 (aa (decide (x3.2.1 > 12))
 (K (.int .i64 5) w4)
 (K (.int .i64 0) w4)))))
def pl244:aB:=.auto
theorem c244 (p0:Value)(w:World)(K:Value->World->Prop)(h:C244 p0 w K):Ret Tryz.prog 244 #[p0] w K:=aC (by kernel_rfl) Tryz.func244 (p:=pl244) (Eq.mpr (by kernel_rfl) h)
def C291 (p0:Option Addr)(aJ aP:Nat)(p1:Value)(w:World)(K:Value->World->Prop):Prop:=
 ab Tryz.prog 311 #[.slice p0 aJ aP,p1] w (.v (.one (.int .i64))) (fun(x1:Int) w2=>K (.bool (decide (x1 >= 0))) w2)
def pl291:aB:=.auto
theorem c291 (p0:Option Addr)(aJ aP:Nat)(p1:Value)(w:World)(K:Value->World->Prop)(h:C291 p0 aJ aP p1 w K):Ret Tryz.prog 291 #[.slice p0 aJ aP,p1] w K:=aC (by kernel_rfl) Tryz.func291 (p:=pl291) (Eq.mpr (by kernel_rfl) h)
def C311 (p0:Option Addr)(aJ aP:Nat)(p1:Value)(w:World)(K:Value->World->Prop):Prop:=
 bC (Int×Unit) (fun _ s1 w2 gO=>aa (decide (s1.1<(aJ:Int)))
 (bQ p0 aJ s1.1 1 (fun a4=>ae .raw a4 w2 (fun(x5:Value)=>kQ Tryz.prog p1 [x5] (.v (.one .bool)) w2 (fun(x6:Bool) w7=>aa x6
 (K (.int .i64 s1.1) w7)
 (gO (IntKind.i64.wrap (s1.1+1),()) w7)))))
 (K (.int .i64 (-1)) w2))
 (0,()) w
def pl311:aB:=(.seq .auto (.seq (.seq .auto (.block (.loop [(8,.one (.int .i64))] .auto))) .auto))
theorem c311 (p0:Option Addr)(aJ aP:Nat)(p1:Value)(w:World)(K:Value->World->Prop)(h:C311 p0 aJ aP p1 w K):Ret Tryz.prog 311 #[.slice p0 aJ aP,p1] w K:=aC (by kernel_rfl) Tryz.func311 (p:=pl311) (Eq.mpr (by kernel_rfl) h)
def fm (s:List UInt8):Bool:=kv 0 (cK s)
def oZ:Ob->Bool×Bool
 | .const n=>(true,cI n)
 | .fix s=>(true,fm s)
 | _=>(false,false)
def cZ:Ob->Bool
 | .none=>false
 | .const n=>cI n
 | .fix s=>fm s
 | .add l r | .mul l r | .max l r=>cZ l&&cZ r
 | .neg o=>cZ o
def bA:Ob->Nat
 | .none=>0
 | .const _ | .fix _=>1
 | .add l r | .mul l r | .max l r=>bA l+bA r+1
 | .neg o=>bA o+1
def dt:Ob->Nat
 | .none=>0
 | .const _ | .fix _=>1
 | .add l r | .mul l r | .max l r=>max (dt l) (dt r)+1
 | .neg o=>dt o+1
def od:Ob->Bool
 | .none=>true
 | _=>false
def uZ (o:Ob):Int:=if cZ o=false then 2 else if 60<bA o then 5 else if 12<dt o then 5 else 0
theorem B8 (o:Ob):dt o<=bA o:=by
 induction o with
 | none=>exact Nat.le_refl _
 | const=>exact Nat.le_refl _
 | fix=>exact Nat.le_refl _
 | neg o ih=>unfold dt bA;omega
 | add l r a b=>unfold dt bA;omega
 | mul l r a b=>unfold dt bA;omega
 | max l r a b=>unfold dt bA;omega
def jz (l:List Nat):Nat:=l.foldl (·+·) 0
def u0 (l:List Nat):Nat:=l.foldl max 0
theorem Lp (o:Ob)(h:od o=false):bA o=jz ((cT o).map bA)+1:=by cases o<;>simp[od,bA,cT,jz] at h ⊢
theorem Tp (o:Ob)(h:od o=false):dt o=u0 ((cT o).map dt)+1:=by cases o<;>simp[od,dt,cT,u0] at h ⊢
theorem Tq (o:Ob)(h:(oZ o).1=false):cZ o=(!od o&&!((cT o).any fun k=>!cZ k)):=by cases o<;>simp[oZ,od,cZ,cT] at h ⊢
theorem Ts (o:Ob)(h:(oZ o).1=false):((cT o).length==0)=od o:=by cases o<;>simp[oZ,od,cT] at h ⊢
theorem Lq (o:Ob)(h:(oZ o).1=true):od o=false/\cZ o=(oZ o).2:=by cases o<;>simp[oZ,od,cZ] at h ⊢
theorem u6 (l:List Nat)(n:Nat):jz (l++[n])=jz l+n:=by unfold jz;rw[List.foldl_append];rfl
theorem Tt (l:List Nat)(n:Nat):u0 (l++[n])=max (u0 l) n:=by unfold u0;rw[List.foldl_append];rfl
theorem Tu (l:List Nat):∀ n,l.foldl (·+·) n=n+jz l:=by
 unfold jz
 induction l with
 | nil=>intro n;rfl
 | cons a l ih=>intro n;rw[List.foldl_cons,List.foldl_cons,ih,ih (0+a)];omega
theorem wZ (l:List Nat)(i:Nat):jz (l.take i)<=jz l:=by
 have:jz l=jz (l.take i)+jz (l.drop i):=by
  conv=>lhs;rw[<- List.take_append_drop i l]
  unfold jz;rw[List.foldl_append];exact Tu _ _
 omega
theorem rT {α β:Type}(l:List α)(g:α->β)(i:Nat){x:α}(h:l[i]? = some x):(l.take (i+1)).map g=(l.take i).map g++[g x]:=by
 rw[List.take_add_one,h,List.map_append];rfl
theorem xa (o:Ob)(w:World):Ret Tryz.prog 254 #[o.v] w fun r w'=>∃ u:Sl,r=.slice u.1 u.2.1 u.2.2/\lU w' u (cT o)/\Fr none1 w w':=by
 refine c254 o.v w _ ?_;unfold C254;have two:∀ (l r:Ob) (w0:World) (T:TypeId),Fr none1 w w0->cT o=[l,r]->ak (.cells #[.nilIface,.nilIface] T) w0 (fun g2 w3=>ar (⟨g2,0,none⟩:Addr) [l.v,r.v] w3 (fun w4=>ae .raw ((⟨g2,0,none⟩:Addr).add 0) w4 (fun(x5:Value)=>ae .raw ((⟨g2,0,none⟩:Addr).add 1) w4 (fun(x6:Value)=>
   aA Tryz.prog (Instr.buildSlice 401 2 #[(0,x5),(1,x6)]) w4 (.v (.one .aj)) (fun(x7:Option Addr×Nat×Nat) w8=>∃ u:Sl,(Value.slice x7.1 x7.2.1 x7.2.2)=.slice u.1 u.2.1 u.2.2/\lU w8 u (cT o)/\Fr none1 w w8))))):=fun l r w0 T f0 hk=>
  B6 (zs:=[.nilIface,.nilIface]) (vs:=[l.v,r.v]) Ln rfl (by simp[Ob.bW]) rfl rfl l.fR r.fR fun u w' hu _ f _=>⟨u,rfl,by rw[hk];exact hu,f0.trans f⟩
 have mD:∀ {w0:World} {T:TypeId} {K:World->Prop},Fr none1 w w0->(∀ w4,Fr none1 w w4->K w4)->ak (.cells #[.nilIface,.nilIface] T) w0 (fun g w3=>ar ⟨g,0,none⟩ [.nilIface,.nilIface] w3 fun w4=>K w4):=fun f0 h=>
  mC (zs:=[.nilIface,.nilIface]) rfl rfl fun w4 f=>h w4 (f0.trans f)
 have Fy:∀ {w0:World} {T:TypeId} {K:World->Prop},Fr none1 w w0->(∀ w4,Fr none1 w w4->K w4)->ak (.cells #[.nilIface] T) w0 (fun g w3=>ar ⟨g,0,none⟩ [.nilIface] w3 fun w4=>K w4):=fun f0 h=>
  mC (zs:=[.nilIface]) rfl rfl fun w4 f=>h w4 (f0.trans f)
 have f0:=Fr.refl none1 w;cases o with
 | none=>
  refine ao.nil rfl (mD f0 fun w1 f1=>ao.nil rfl (mD f1 fun w2 f2=>ao.nil rfl (mD f2 fun w3 f3=>ao.nil rfl (Fy f3 fun w4 f4=>⟨_,rfl,Fw _,f4⟩))))
 | const n=>
  refine ao.aM rfl (by decide) (mD f0 fun w1 f1=>ao.aM rfl (by decide) (mD f1 fun w2 f2=>ao.aM rfl (by decide) (mD f2 fun w3 f3=>ao.aM rfl (by decide) (Fy f3 fun w4 f4=>⟨_,rfl,Fw _,f4⟩))))
 | fix s=>
  refine ao.aM rfl (by decide) (mD f0 fun w1 f1=>ao.aM rfl (by decide) (mD f1 fun w2 f2=>ao.aM rfl (by decide) (mD f2 fun w3 f3=>ao.aM rfl (by decide) (Fy f3 fun w4 f4=>⟨_,rfl,Fw _,f4⟩))))
 | add l r=>exact ao.hit (l.v,r.v,()) rfl (two l r w _ f0 rfl)
 | mul l r=>exact ao.aM rfl (by decide) (mD f0 fun w1 f1=>ao.hit (l.v,r.v,()) rfl (two l r w1 _ f1 rfl))
 | max l r=>exact ao.aM rfl (by decide) (mD f0 fun w1 f1=>ao.aM rfl (by decide) (mD f1 fun w2 f2=>ao.hit (l.v,r.v,()) rfl (two l r w2 _ f2 rfl)))
 | neg x=>
  refine ao.aM rfl (by decide) (mD f0 fun w1 f1=>ao.aM rfl (by decide) (mD f1 fun w2 f2=>ao.aM rfl (by decide) (mD f2 fun w3 f3=>ao.hit (x.v,()) rfl ?_)));exact B5 (zs:=[.nilIface]) (vs:=[x.v]) Ln rfl (by simp[Ob.bW]) rfl x.fR fun u w' hu _ f _=>⟨u,rfl,hu,f3.trans f⟩
theorem Lr (o:Ob)(w:World):Ret Tryz.prog 290 #[o.v] w fun r w'=>r=.tuple #[.bool (oZ o).1,.bool (oZ o).2]/\Fr none1 w w':=by
 refine c290 o.v w _ ?_;unfold C290;have xb:∀ {K:World->Prop},(∀ w4,Fr none1 w w4->K w4)->ak (.cells #[.int .i64 0] 222) w (fun g w3=>ar ⟨g,0,none⟩ [.int .i64 0] w3 fun w4=>K w4):=fun h=>mC (zs:=[.int .i64 0]) rfl rfl fun w4 f=>h w4 f;have zl:∀ {w0:World} {K:World->Prop},Fr none1 w w0->(∀ w4,Fr none1 w w4->K w4)->ak (.cells #[.string (⟨#[]⟩:ByteArray)] 300) w0 (fun g w3=>ar ⟨g,0,none⟩ [.string (⟨#[]⟩:ByteArray)] w3 fun w4=>K w4):=fun f0 h=>mC (zs:=[.string (⟨#[]⟩:ByteArray)]) rfl rfl fun w4 f=>h w4 (f0.trans f);cases o with
 | none=>exact ao.nil rfl (xb fun w1 f1=>ao.nil rfl (zl f1 fun w2 f2=>⟨rfl,f2⟩))
 | const n=>
  refine ao.hit (n,()) rfl (cM (zs:=[.int .i64 0]) (vs:=[.int .i64 n]) rfl rfl fun g w1 _ hb f1=>ae.ah hb (x:=n) rfl ?_);refine ab.of (rR n w1) ?_;rintro _ _ ⟨rfl,rfl⟩;exact⟨_,rfl,rfl,f1⟩
 | fix s=>
  refine ao.aM rfl (by decide) (xb fun w1 f1=>ao.hit (str s,()) rfl (cM (zs:=[.string (⟨#[]⟩:ByteArray)]) (vs:=[.string (str s)]) rfl rfl fun g w2 _ hb f2=>ae.ah hb (x:=str s) rfl ?_));refine ab.of (uQ s w2) ?_;rintro _ w3 ⟨rfl,f3⟩;exact⟨_,rfl,rfl,(f1.trans f2).trans f3⟩
 | add l r=>exact ao.aM rfl (by decide) (xb fun w1 f1=>ao.aM rfl (by decide) (zl f1 fun w2 f2=>⟨rfl,f2⟩))
 | mul l r=>exact ao.aM rfl (by decide) (xb fun w1 f1=>ao.aM rfl (by decide) (zl f1 fun w2 f2=>⟨rfl,f2⟩))
 | max l r=>exact ao.aM rfl (by decide) (xb fun w1 f1=>ao.aM rfl (by decide) (zl f1 fun w2 f2=>⟨rfl,f2⟩))
 | neg x=>exact ao.aM rfl (by decide) (xb fun w1 f1=>ao.aM rfl (by decide) (zl f1 fun w2 f2=>⟨rfl,f2⟩))
theorem Ls (o:Ob)(w:World):Ret Tryz.prog 265 #[o.v] w fun r w'=>r=.bool (od o)/\Fr none1 w w':=by
 refine c265 o.v w _ ?_;refine ab.of (Lr o w) ?_;rintro _ w1 ⟨rfl,f1⟩;refine⟨(_,_,()),rfl,aa.not (aa.by (fun h=>?_) (fun h=>?_))⟩
 ·rw[(Lq o h).1];exact⟨rfl,f1⟩
 ·refine ab.of (xa o w1) ?_
  rintro _ w2 ⟨u,rfl,hu,f2⟩;refine⟨u,rfl,?_,f1.trans f2⟩;rw[hu.len,<- Ts o h]
  congr 1
  cases hk:(cT o).length<;>rfl
theorem Fz (o:Ob)(hn:bA o<=1000000)(w:World):Ret Tryz.prog 247 #[o.v] w fun r w'=>r=.tuple #[.int .i64 (bA o:Int),.int .i64 (dt o:Int)]/\Fr none1 w w':=by
 refine c247 o.v w _ ?_;have ih:∀ k∈cT o,bA k<=1000000->∀ w,Ret Tryz.prog 247 #[k.v] w fun r w'=>r=.tuple #[.int .i64 (bA k:Int),.int .i64 (dt k:Int)]/\Fr none1 w w':=fun k hk hn w=>Fz k hn w;refine ab.of (Ls o w) ?_;rintro _ w1 ⟨rfl,f1⟩;refine⟨_,rfl,aa.by (fun h=>?_) (fun h=>?_)⟩
 ·cases o<;>first | (exact⟨rfl,f1⟩) | (exact absurd h (by simp[od]))
 refine ab.of (xa o w1) ?_;rintro _ w2 ⟨u,rfl,hu,f2⟩;refine⟨u,rfl,?_⟩;have hN:=Lp o h;have hD:=Tp o h;have dk:=hu.len;have zm:=B3 o;refine bC.of (fun s w'=>∃ i:Nat,s.2.2.1=i/\i<=(cT o).length/\s.1=(jz (((cT o).take i).map bA):Int)/\s.2.1=(u0 (((cT o).take i).map dt):Int)/\Fr none1 w w'/\lU w' u (cT o)) (fun s _=>(2 - s.2.2.1).toNat)
  ⟨0,rfl,Nat.zero_le _,rfl,rfl,f1.trans f2,hu⟩ ?_
 rintro _ ⟨a,b,i',_⟩ w3 ⟨i,hi,jf,ha,hb,f3,kT⟩;dsimp only at hi ha hb ⊢;subst hi ha hb;have hle:jz (((cT o).take i).map bA)<=bA o:=by
  rw[hN,List.map_take];have:=wZ ((cT o).map bA) i;omega
 refine aa.dec (fun aU=>?_) (fun eu=>?_)
 ·have fI:i<(cT o).length:=by omega
  obtain⟨k,hk⟩:∃ k,(cT o)[i]? = some k:=⟨_,List.getElem?_eq_getElem fI⟩;have oe:=List.mem_of_getElem? hk;have og:jz (((cT o).take (i+1)).map bA)<=bA o:=by
   rw[hN,List.map_take];have:=wZ ((cT o).map bA) (i+1);omega
  rw[rT _ _ _ hk,u6] at og;refine kT.ld hk ?_;refine ab.of (ih k oe (by omega) w3) ?_;rintro _ w4 ⟨rfl,f4⟩;refine⟨((bA k:Int),(dt k:Int),()),rfl,?_⟩;dsimp only;have Tv:=B8 k;refine⟨⟨i+1,by rw[wI (by omega) (by omega)];omega,by omega,?_,?_,f3.trans f4,kT.af f4⟩,by rw[wI (by omega) (by omega)];omega⟩
  ·rw[rT _ _ _ hk,u6,wI (by omega) (by omega)]
   omega
  ·rw[rT _ _ _ hk,Tt]
   by_cases hm:u0 (((cT o).take i).map dt)<dt k
   ·rw[if_pos (by omega)];omega
   ·rw[if_neg (by omega)];omega
 ·have:i=(cT o).length:=by omega
  subst this;rw[List.take_length];rw[List.take_length] at hle;have hd:=B8 o;rw[hN];rw[hD] at hd ⊢;rw[wI (by omega) (by omega),wI (by omega) (by omega)];exact⟨by simp,f3⟩
termination_by SizeOf.sizeOf o
decreasing_by exact B1 hk
theorem Lt (o:Ob)(w:World):Ret Tryz.prog 263 #[o.v] w fun r w'=>r=.bool (cZ o)/\Fr none1 w w':=by
 refine c263 o.v w _ ?_;have ih:∀ k∈cT o,∀ w,Ret Tryz.prog 263 #[k.v] w fun r w'=>r=.bool (cZ k)/\Fr none1 w w':=fun k hk w=>Lt k w;refine ab.of (Lr o w) ?_;rintro _ w1 ⟨rfl,f1⟩;refine⟨(_,_,()),rfl,aa.by (fun h=>?_) (fun h=>?_)⟩
 ·rw[(Lq o h).2];exact⟨rfl,f1⟩
 rw[Tq o h];refine ab.of (Ls o w1) ?_;rintro _ w2 ⟨rfl,f2⟩;refine⟨_,rfl,aa.not (aa.by (fun hn=>?_) (fun hn=>?_))⟩
 ·rw[hn];exact⟨rfl,f1.trans f2⟩
 rw[hn];refine ab.of (xa o w2) ?_;rintro _ w3 ⟨u,rfl,hu,f3⟩;refine⟨u,rfl,?_⟩;have dk:=hu.len;have zm:=B3 o
 -- is there one acv is not?
 have hc:Ret Tryz.prog 291 #[.slice u.1 u.2.1 u.2.2,.func (.func 292) #[] #[]] w3 fun r w'=>r=.bool ((cT o).any fun k=>!cZ k)/\Fr none1 w3 w':=by
  refine c291 u.1 u.2.1 u.2.2 _ w3 _ ?_;have hx:Ret Tryz.prog 311 #[.slice u.1 u.2.1 u.2.2,.func (.func 292) #[] #[]] w3 fun r w'=>(∃ i:Int,r=.int .i64 i/\decide (i >= 0)=(cT o).any fun k=>!cZ k)/\Fr none1 w3 w':=by
   refine c311 u.1 u.2.1 u.2.2 _ w3 _ ?_;refine bC.of (fun s w'=>∃ i:Nat,s.1=i/\i<=(cT o).length/\((cT o).take i).any (fun k=>!cZ k)=false/\Fr none1 w3 w'/\lU w' u (cT o)) (fun s _=>(2 - s.1).toNat) ⟨0,rfl,Nat.zero_le _,rfl,Fr.refl _ _,hu⟩ ?_;rintro _ ⟨i',_⟩ w4 ⟨i,hi,jf,hall,f4,xc⟩;dsimp only at hi ⊢;subst hi;refine aa.dec (fun aU=>?_) (fun eu=>?_)
   ·have fI:i<(cT o).length:=by omega
    obtain⟨k,hk⟩:∃ k,(cT o)[i]? = some k:=⟨_,List.getElem?_eq_getElem fI⟩;refine xc.ld hk ?_;have oe:=List.mem_of_getElem? hk;have xd:Ret Tryz.prog 292 #[k.v] w4 fun r w'=>r=.bool (!cZ k)/\Fr none1 w4 w':=by
     refine c292 k.v w4 _ ?_;refine ab.of (ih k oe w4) ?_;rintro _ w5 ⟨rfl,f5⟩;exact⟨_,rfl,rfl,f5⟩
    refine mm (by kernel_rfl) Tryz.func292 (by kernel_rfl) (xd.mono ?_);rintro _ w5 ⟨rfl,f5⟩;refine⟨_,rfl,aa.by (fun hb=>?_) (fun hb=>?_)⟩
    ·refine⟨⟨(i:Int),rfl,?_⟩,f4.trans f5⟩
     rw[decide_eq_true (by omega),eq_comm,List.any_eq_true];exact⟨k,oe,hb⟩
    ·refine⟨⟨i+1,by rw[wI (by omega) (by omega)];omega,by omega,?_,f4.trans f5,xc.af f5⟩,by rw[wI (by omega) (by omega)];omega⟩
     rw[List.take_add_one,hk,List.any_append,hall];simpa using hb
   ·refine⟨⟨-1,rfl,?_⟩,f4⟩
    rw[List.take_of_length_le (by omega)] at hall;rw[hall];rfl
  refine ab.of hx ?_;rintro _ w4 ⟨⟨i,rfl,hi⟩,f4⟩;exact⟨_,rfl,by rw[hi],f4⟩
 refine ab.of hc ?_;rintro _ w4 ⟨rfl,f4⟩;exact⟨_,rfl,by simp,((f1.trans f2).trans f3).trans f4⟩
termination_by SizeOf.sizeOf o
decreasing_by exact B1 hk
theorem FA (o:Ob)(hn:bA o<=1000000)(w:World):Ret Tryz.prog 244 #[o.v] w fun r w'=>r=.int .i64 (uZ o)/\Fr none1 w w':=by
 refine c244 o.v w _ ?_;refine ab.of (Lt o w) ?_;rintro _ w1 ⟨rfl,f1⟩;unfold uZ;refine⟨_,rfl,aa.not (aa.by (fun h=>?_) (fun h=>?_))⟩
 case refine_2=>rw[if_pos h];exact⟨rfl,f1⟩
 rw[if_neg (by simp[h])];refine ab.of (Fz o hn w1) ?_;rintro _ w2 ⟨rfl,f2⟩;refine⟨((bA o:Int),(dt o:Int),()),rfl,?_⟩;dsimp only;refine aa.dec (fun h=>?_) (fun h=>?_)
 ·rw[if_pos (by omega)];exact⟨rfl,f1.trans f2⟩
 rw[if_neg (by omega)];refine aa.dec (fun h=>?_) (fun h=>?_)
 ·rw[if_pos (by omega)];exact⟨rfl,f1.trans f2⟩
 rw[if_neg (by omega)];exact⟨rfl,f1.trans f2⟩
def C229 (p0:Value)(w:World)(K:Value->World->Prop):Prop:=
 ao p0 237 (.agg [.raw]) (fun(x1:Value×Unit)=>ak (.cells #[.nilIface] 237) w (fun g2 w3=>ar (ad g2) [x1.1] w3 (fun w4=>ae .raw ((ad g2).add 0) w4 (fun(x5:Value)=>aA Tryz.prog (Instr.buildSlice 370 1 #[(0,x5)]) w4 (.v (.one .aj)) (fun(x6:an) w7=>K (.slice x6.1 x6.2.1 x6.2.2) w7)))))
 (ak (.cells #[.nilIface] 237) w (fun g8 w9=>ar (ad g8) [.nilIface] w9 (fun aG=>ao p0 239 (.agg [.raw,.raw]) (fun(aX:Value×Value×Unit)=>ak (.cells #[.nilIface,.nilIface] 239) aG (fun g12 aY=>ar (ad g12) [aX.1,aX.2.1] aY (fun bo=>ae .raw ((ad g12).add 0) bo (fun(bn:Value)=>ae .raw ((ad g12).add 1) bo (fun(aS:Value)=>aA Tryz.prog (Instr.buildSlice 370 2 #[(0,bn),(1,aS)]) bo (.v (.one .aj)) (fun(ba:an) bt=>K (.slice ba.1 ba.2.1 ba.2.2) bt))))))
 (ak (.cells #[.nilIface,.nilIface] 239) aG (fun g19 bh=>ar (ad g19) [.nilIface,.nilIface] bh (fun bw=>ao p0 241 (.agg [.str,.raw,.raw]) (fun(bU:ByteArray×Value×Value×Unit)=>ak (.cells #[.string (⟨#[]⟩:ByteArray),.nilIface,.nilIface] 241) bw (fun g23 cg=>ar (ad g23) [.string bU.1,bU.2.1,bU.2.2.1] cg (fun di=>ae .raw ((ad g23).add 1) di (fun(dc:Value)=>ae .raw ((ad g23).add 2) di (fun(cA:Value)=>aA Tryz.prog (Instr.buildSlice 370 2 #[(0,dc),(1,cA)]) di (.v (.one .aj)) (fun(eR:an) eD=>K (.slice eR.1 eR.2.1 eR.2.2) eD))))))
 (ak (.cells #[.string (⟨#[]⟩:ByteArray),.nilIface,.nilIface] 241) bw (fun rU fo=>ar (ad rU) [.string (⟨#[]⟩:ByteArray),.nilIface,.nilIface] fo (fun cU=>ao p0 245 (.agg [.raw,.raw]) (fun(dA:Value×Value×Unit)=>ak (.cells #[.nilIface,.nilIface] 245) cU (fun u7 dL=>ar (ad u7) [dA.1,dA.2.1] dL (fun dd=>ae .raw ((ad u7).add 1) dd (fun(gP:Value)=>aA Tryz.prog (Instr.buildSlice 370 1 #[(0,gP)]) dd (.v (.one .aj)) (fun(dF:an) dO=>K (.slice dF.1 dF.2.1 dF.2.2) dO)))))
 (ak (.cells #[.nilIface,.nilIface] 245) cU (fun zo kA=>ar (ad zo) [.nilIface,.nilIface] kA (fun gx=>ao p0 247 (.agg [.int .i64,.raw]) (fun(jw:Int×Value×Unit)=>ak (.cells #[.int .i64 0,.nilIface] 247) gx (fun xe gr=>ar (ad xe) [.int .i64 jw.1,jw.2.1] gr (fun iy=>ae .raw ((ad xe).add 1) iy (fun(dG:Value)=>aA Tryz.prog (Instr.buildSlice 370 1 #[(0,dG)]) iy (.v (.one .aj)) (fun(fS:an) tu=>K (.slice fS.1 fS.2.1 fS.2.2) tu)))))
 (ak (.cells #[.int .i64 0,.nilIface] 247) gx (fun zp kB=>ar (ad zp) [.int .i64 0,.nilIface] kB (fun fh=>ao p0 249 (.agg [.raw,.raw,.raw]) (fun(fY:Value×Value×Value×Unit)=>ak (.cells #[.nilIface,.nilIface,.nilIface] 249) fh (fun FB gQ=>ar (ad FB) [fY.1,fY.2.1,fY.2.2.1] gQ (fun rV=>ae .raw ((ad FB).add 1) rV (fun(nj:Value)=>ae .raw ((ad FB).add 2) rV (fun(oh:Value)=>aA Tryz.prog (Instr.buildSlice 370 2 #[(0,nj),(1,oh)]) rV (.v (.one .aj)) (fun(rQ:an) tv=>K (.slice rQ.1 rQ.2.1 rQ.2.2) tv))))))
 (ak (.cells #[.nilIface,.nilIface,.nilIface] 249) fh (fun o0 jA=>ar (ad o0) [.nilIface,.nilIface,.nilIface] jA (fun tw=>K (.slice none 0 0) tw))))))))))))))))))
def pl229:aB:=.auto
theorem c229 (p0:Value)(w:World)(K:Value->World->Prop)(h:C229 p0 w K):Ret Tryz.prog 229 #[p0] w K:=aC (by kernel_rfl) Tryz.func229 (p:=pl229) (Eq.mpr (by kernel_rfl) h)
def C224 (p0:Value)(w:World)(K:Value->World->Prop):Prop:=
 ao p0 235 (.agg []) (fun(x1:Unit)=>K (.int .i64 1) w)
 (ao p0 216 (.agg [.str]) (fun(x2:ByteArray×Unit)=>K (.int .i64 2) w)
 (ao p0 237 (.agg [.raw]) (fun(x3:Value×Unit)=>K (.int .i64 3) w)
 (ao p0 239 (.agg [.raw,.raw]) (fun(x4:Value×Value×Unit)=>K (.int .i64 4) w)
 (ao p0 241 (.agg [.str,.raw,.raw]) (fun(x5:ByteArray×Value×Value×Unit)=>K (.int .i64 5) w)
 (ao p0 245 (.agg [.raw,.raw]) (fun(x6:Value×Value×Unit)=>K (.int .i64 6) w)
 (ao p0 247 (.agg [.int .i64,.raw]) (fun(x7:Int×Value×Unit)=>K (.int .i64 7) w)
 (ao p0 249 (.agg [.raw,.raw,.raw]) (fun(x8:Value×Value×Value×Unit)=>K (.int .i64 8) w)
 (K (.int .i64 0) w))))))))
def pl224:aB:=.auto
theorem c224 (p0:Value)(w:World)(K:Value->World->Prop)(h:C224 p0 w K):Ret Tryz.prog 224 #[p0] w K:=aC (by kernel_rfl) Tryz.func224 (p:=pl224) (Eq.mpr (by kernel_rfl) h)
def C225 (p0:Value)(w:World)(K:Value->World->Prop):Prop:=
 ao p0 216 (.agg [.str]) (fun(x1:ByteArray×Unit)=>ak (.cells #[.string (⟨#[]⟩:ByteArray)] 216) w (fun g2 w3=>ar (ad g2) [.string x1.1] w3 (fun w4=>ae .str ((ad g2).add 0) w4 (fun(x5:ByteArray)=>K (.tuple #[.string x5,.int .i64 0]) w4))))
 (ak (.cells #[.string (⟨#[]⟩:ByteArray)] 216) w (fun g6 w7=>ar (ad g6) [.string (⟨#[]⟩:ByteArray)] w7 (fun w8=>ao p0 241 (.agg [.str,.raw,.raw]) (fun(x9:ByteArray×Value×Value×Unit)=>ak (.cells #[.string (⟨#[]⟩:ByteArray),.nilIface,.nilIface] 241) w8 (fun g10 aO=>ar (ad g10) [.string x9.1,x9.2.1,x9.2.2.1] aO (fun aL=>ae .str ((ad g10).add 0) aL (fun(bz:ByteArray)=>K (.tuple #[.string bz,.int .i64 0]) aL))))
 (ak (.cells #[.string (⟨#[]⟩:ByteArray),.nilIface,.nilIface] 241) w8 (fun g14 bM=>ar (ad g14) [.string (⟨#[]⟩:ByteArray),.nilIface,.nilIface] bM (fun bj=>ao p0 247 (.agg [.int .i64,.raw]) (fun(ba:Int×Value×Unit)=>ak (.cells #[.int .i64 0,.nilIface] 247) bj (fun g18 bu=>ar (ad g18) [.int .i64 ba.1,ba.2.1] bu (fun bh=>aD bh (fun bw=>ae (.int .i64) ((ad g18).add 0) bw (fun(bU:Int)=>K (.tuple #[.string (⟨#[]⟩:ByteArray),.int .i64 bU]) bw)))))
 (ak (.cells #[.int .i64 0,.nilIface] 247) bj (fun g23 cg=>ar (ad g23) [.int .i64 0,.nilIface] cg (fun di=>K (.tuple #[.string (⟨#[]⟩:ByteArray),.int .i64 0]) di)))))))))
def pl225:aB:=(.seq .auto (.seq .auto (.seq .auto (.seq (.seq .auto (.seq .auto (.cond (.seq .still .auto) .auto))) .auto))))
theorem c225 (p0:Value)(w:World)(K:Value->World->Prop)(h:C225 p0 w K):Ret Tryz.prog 225 #[p0] w K:=aC (by kernel_rfl) Tryz.func225 (p:=pl225) (Eq.mpr (by kernel_rfl) h)
def C226 (p0:Value)(w:World)(K:Value->World->Prop):Prop:=
 ao p0 245 (.agg [.raw,.raw]) (fun(x1:Value×Value×Unit)=>ak (.cells #[.nilIface,.nilIface] 245) w (fun g2 w3=>ar (ad g2) [x1.1,x1.2.1] w3 (fun w4=>ae .raw ((ad g2).add 0) w4 (fun(x5:Value)=>K (.tuple #[x5,.bool true]) w4))))
 (ak (.cells #[.nilIface,.nilIface] 245) w (fun g6 w7=>ar (ad g6) [.nilIface,.nilIface] w7 (fun w8=>ao p0 249 (.agg [.raw,.raw,.raw]) (fun(x9:Value×Value×Value×Unit)=>ak (.cells #[.nilIface,.nilIface,.nilIface] 249) w8 (fun g10 aO=>ar (ad g10) [x9.1,x9.2.1,x9.2.2.1] aO (fun aL=>ae .raw ((ad g10).add 0) aL (fun(bz:Value)=>K (.tuple #[bz,.bool true]) aL))))
 (ak (.cells #[.nilIface,.nilIface,.nilIface] 249) w8 (fun g14 bM=>ar (ad g14) [.nilIface,.nilIface,.nilIface] bM (fun bj=>K (.tuple #[.nilIface,.bool false]) bj))))))
def pl226:aB:=.auto
theorem c226 (p0:Value)(w:World)(K:Value->World->Prop)(h:C226 p0 w K):Ret Tryz.prog 226 #[p0] w K:=aC (by kernel_rfl) Tryz.func226 (p:=pl226) (Eq.mpr (by kernel_rfl) h)
def C215 (p0:Value)(w:World)(K:Value->World->Prop):Prop:=
 ab Tryz.prog 224 #[p0] w (.v (.one (.int .i64))) (fun(x1:Int) w2=>aa (x1==0)
 (K (.tuple #[.int .i64 0,.int .i64 0]) w2)
 (cy (Int×Int×Unit) (fun J3=>ab Tryz.prog 226 #[p0] w2 (.aN [.one .raw,.one .bool]) (fun(x6:Value×Bool×Unit) w7=>aa x6.2.1
 (ab Tryz.prog 247 #[x6.1] w7 (.aN [.one (.int .i64),.one (.int .i64)]) (fun(x8:Int×Int×Unit) w9=>J3 (x8.1,x8.2.1,()) w9))
 (J3 (0,0,()) w7)))
 (fun _ s4 w5=>ab Tryz.prog 229 #[p0] w5 (.v (.one .aj)) (fun(aQ:an) aO=>bC (Int×Int×Int×Unit) (fun _ fQ aY za=>aa (decide (fQ.2.2.1<(aQ.2.1:Int)))
 (bQ aQ.1 aQ.2.1 fQ.2.2.1 1 (fun uU=>ae .raw uU aY (fun(aS:Value)=>ab Tryz.prog 215 #[aS] aY (.aN [.one (.int .i64),.one (.int .i64)]) (fun(ba:Int×Int×Unit) bt=>za (IntKind.i64.wrap (fQ.1+ba.1),(if ba.2.1 > fQ.2.1 then ba.2.1 else fQ.2.1),IntKind.i64.wrap (fQ.2.2.1+1),()) bt))))
 (K (.tuple #[.int .i64 (IntKind.i64.wrap (fQ.1+1)),.int .i64 (IntKind.i64.wrap (fQ.2.1+1))]) aY))
 (s4.1,s4.2.1,0,()) aO))))
def pl215:aB:=(.seq .auto (.seq .auto (.join [(2,.one (.int .i64)),(3,.one (.int .i64))] .auto (.seq (.seq .auto (.block (.loop [(2,.one (.int .i64)),(3,.one (.int .i64)),(27,.one (.int .i64))] .auto))) .auto))))
theorem c215 (p0:Value)(w:World)(K:Value->World->Prop)(h:C215 p0 w K):Ret Tryz.prog 215 #[p0] w K:=aC (by kernel_rfl) Tryz.func215 (p:=pl215) (Eq.mpr (by kernel_rfl) h)
def C214 (p0:Value)(w:World)(K:Value->World->Prop):Prop:=
 ab Tryz.prog 225 #[p0] w (.aN [.one .str,.one (.int .i64)]) (fun(x1:ByteArray×Int×Unit) w2=>cy (Bool×Unit) (fun J3=>ab Tryz.prog 224 #[p0] w2 (.v (.one (.int .i64))) (fun(x6:Int) w7=>ab Tryz.prog 224 #[.iface 216 (.agg #[.string (⟨#[]⟩:ByteArray)])] w7 (.v (.one (.int .i64))) (fun(x8:Int) w9=>aa (x6==x8)
 (J3 (true,()) w9)
 (ab Tryz.prog 224 #[p0] w9 (.v (.one (.int .i64))) (fun(aQ:Int) aO=>ab Tryz.prog 224 #[.iface 241 (.agg #[.string (⟨#[]⟩:ByteArray),.nilIface,.nilIface])] aO (.v (.one (.int .i64))) (fun(bx:Int) aY=>J3 ((aQ==bx),()) aY))))))
 (fun _ s4 w5=>cy (Bool×Unit) (fun xg=>ab Tryz.prog 224 #[p0] w5 (.v (.one (.int .i64))) (fun(ba:Int) bt=>aa (ba==0)
 (xg (true,()) bt)
 (aa s4.1
 (ab Tryz.prog 169 #[.string x1.1] bt (.v (.one .bool)) (fun(br:Bool) bh=>aa (!br)
 (xg (true,()) bh)
 (aa (decide (x1.2.1<0))
 (xg (true,()) bh)
 (xg (decide (x1.2.1 > 10000),()) bh))))
 (aa (decide (x1.2.1<0))
 (xg (true,()) bt)
 (xg (decide (x1.2.1 > 10000),()) bt)))))
 (fun _ ob bj=>aa ob.1
 (K (.bool false) bj)
 (ab Tryz.prog 226 #[p0] bj (.aN [.one .raw,.one .bool]) (fun(bY:Value×Bool×Unit) bJ=>aa bY.2.1
 (ab Tryz.prog 244 #[bY.1] bJ (.v (.one (.int .i64))) (fun(cv:Int) cg=>aa (cv==2)
 (K (.bool false) cg)
 (ab Tryz.prog 229 #[p0] cg (.v (.one .aj)) (fun(bD:an) cn=>ab Tryz.prog 245 #[.slice bD.1 bD.2.1 bD.2.2,.func (.func 246) #[] #[]] cn (.v (.one .bool)) (fun(cA:Bool) bV=>K (.bool (!cA)) bV)))))
 (ab Tryz.prog 229 #[p0] bJ (.v (.one .aj)) (fun(cB:an) bS=>ab Tryz.prog 245 #[.slice cB.1 cB.2.1 cB.2.2,.func (.func 246) #[] #[]] bS (.v (.one .bool)) (fun(bZ:Bool) cU=>K (.bool (!bZ)) cU))))))))
def pl214:aB:=(.seq .auto (.seq .auto (.join [(5,.one .bool)] .auto (.seq (.join [(45,.one .bool)] .auto .auto) .auto))))
theorem c214 (p0:Value)(w:World)(K:Value->World->Prop)(h:C214 p0 w K):Ret Tryz.prog 214 #[p0] w K:=aC (by kernel_rfl) Tryz.func214 (p:=pl214) (Eq.mpr (by kernel_rfl) h)
def C246 (p0:Value)(w:World)(K:Value->World->Prop):Prop:=
 ab Tryz.prog 214 #[p0] w (.v (.one .bool)) (fun(x1:Bool) w2=>K (.bool (!x1)) w2)
def pl246:aB:=.auto
theorem c246 (p0:Value)(w:World)(K:Value->World->Prop)(h:C246 p0 w K):Ret Tryz.prog 246 #[p0] w K:=aC (by kernel_rfl) Tryz.func246 (p:=pl246) (Eq.mpr (by kernel_rfl) h)
def C216 (p0:Value)(w:World)(K:Value->World->Prop):Prop:=
 cy (an×Unit) (fun J1=>ao p0 241 (.agg [.str,.raw,.raw]) (fun(x4:ByteArray×Value×Value×Unit)=>ak (.cells #[.string (⟨#[]⟩:ByteArray),.nilIface,.nilIface] 241) w (fun g5 w6=>ar (ad g5) [.string x4.1,x4.2.1,x4.2.2.1] w6 (fun w7=>ae .str ((ad g5).add 0) w7 (fun(x8:ByteArray)=>aA Tryz.prog (Instr.buildSlice 51 1 #[(0,.string x8)]) w7 (.v (.one .aj)) (fun(x9:an) aG=>aA Tryz.prog (Builtin.append_ #[51,51] 51 #[.slice none 0 0,.slice x9.1 x9.2.1 x9.2.2]) aG (.v (.one .aj)) (fun(aX:an) aL=>J1 ((aX.1,aX.2.1,aX.2.2),()) aL))))))
 (ak (.cells #[.string (⟨#[]⟩:ByteArray),.nilIface,.nilIface] 241) w (fun g13 bo=>ar (ad g13) [.string (⟨#[]⟩:ByteArray),.nilIface,.nilIface] bo (fun bM=>J1 ((none,0,0),()) bM))))
 (fun _ s2 w3=>ab Tryz.prog 229 #[p0] w3 (.v (.one .aj)) (fun(aS:an) cj=>bC (an×Int×Unit) (fun _ oV bu Tw=>aa (decide (oV.2.1<(aS.2.1:Int)))
 (bQ aS.1 aS.2.1 oV.2.1 1 (fun a21=>ae .raw a21 bu (fun(bU:Value)=>ab Tryz.prog 216 #[bU] bu (.v (.one .aj)) (fun(cv:an) cg=>aA Tryz.prog (Builtin.append_ #[51,51] 51 #[.slice oV.1.1 oV.1.2.1 oV.1.2.2,.slice cv.1 cv.2.1 cv.2.2]) cg (.v (.one .aj)) (fun(bD:an) cn=>Tw ((bD.1,bD.2.1,bD.2.2),IntKind.i64.wrap (oV.2.1+1),()) cn)))))
 (K (.slice oV.1.1 oV.1.2.1 oV.1.2.2) bu))
 ((s2.1.1,s2.1.2.1,s2.1.2.2),0,()) cj))
def pl216:aB:=(.seq .auto (.seq .auto (.join [(3,.one .aj)] .auto (.seq (.seq .auto (.block (.loop [(3,.one .aj),(22,.one (.int .i64))] .auto))) .auto))))
theorem c216 (p0:Value)(w:World)(K:Value->World->Prop)(h:C216 p0 w K):Ret Tryz.prog 216 #[p0] w K:=aC (by kernel_rfl) Tryz.func216 (p:=pl216) (Eq.mpr (by kernel_rfl) h)
def C170 (p0:Value)(w:World)(K:Value->World->Prop):Prop:=
 ab Tryz.prog 214 #[p0] w (.v (.one .bool)) (fun(x1:Bool) w2=>aa (!x1)
 (K (.int .i64 2) w2)
 (ab Tryz.prog 215 #[p0] w2 (.aN [.one (.int .i64),.one (.int .i64)]) (fun(x3:Int×Int×Unit) w4=>aa (decide (x3.1 > 60))
 (K (.int .i64 5) w4)
 (aa (decide (x3.2.1 > 12))
 (K (.int .i64 5) w4)
 (ab Tryz.prog 216 #[p0] w4 (.v (.one .aj)) (fun(x5:an) w6=>bC (Int×Unit) (fun _ s7 w8 FC=>aa (decide (s7.1<(x5.2.1:Int)))
 (bQ x5.1 x5.2.1 s7.1 1 (fun pY=>ae .str pY w8 (fun(aX:ByteArray)=>eX x5.1 x5.2.2 0 s7.1 x5.2.2 1 (fun a12 Tx c14=>ab Tryz.prog 217 #[.slice a12 Tx c14,.string aX] w8 (.v (.one .bool)) (fun(bn:Bool) bj=>aa bn
 (K (.int .i64 4) bj)
 (FC (IntKind.i64.wrap (s7.1+1),()) bj))))))
 (K (.int .i64 0) w8))
 (0,()) w6))))))
def pl170:aB:=(.seq .auto (.seq .auto (.seq .auto (.seq .auto (.seq (.seq .auto (.block (.loop [(26,.one (.int .i64))] .auto))) .auto)))))
theorem c170 (p0:Value)(w:World)(K:Value->World->Prop)(h:C170 p0 w K):Ret Tryz.prog 170 #[p0] w K:=aC (by kernel_rfl) Tryz.func170 (p:=pl170) (Eq.mpr (by kernel_rfl) h)
def C245 (p0:Option Addr)(aJ aP:Nat)(p1:Value)(w:World)(K:Value->World->Prop):Prop:=
 ab Tryz.prog 264 #[.slice p0 aJ aP,p1] w (.v (.one (.int .i64))) (fun(x1:Int) w2=>K (.bool (decide (x1 >= 0))) w2)
def pl245:aB:=.auto
theorem c245 (p0:Option Addr)(aJ aP:Nat)(p1:Value)(w:World)(K:Value->World->Prop)(h:C245 p0 aJ aP p1 w K):Ret Tryz.prog 245 #[.slice p0 aJ aP,p1] w K:=aC (by kernel_rfl) Tryz.func245 (p:=pl245) (Eq.mpr (by kernel_rfl) h)
def C264 (p0:Option Addr)(aJ aP:Nat)(p1:Value)(w:World)(K:Value->World->Prop):Prop:=
 bC (Int×Unit) (fun _ s1 w2 gO=>aa (decide (s1.1<(aJ:Int)))
 (bQ p0 aJ s1.1 1 (fun a4=>ae .raw a4 w2 (fun(x5:Value)=>kQ Tryz.prog p1 [x5] (.v (.one .bool)) w2 (fun(x6:Bool) w7=>aa x6
 (K (.int .i64 s1.1) w7)
 (gO (IntKind.i64.wrap (s1.1+1),()) w7)))))
 (K (.int .i64 (-1)) w2))
 (0,()) w
def pl264:aB:=(.seq .auto (.seq (.seq .auto (.block (.loop [(8,.one (.int .i64))] .auto))) .auto))
theorem c264 (p0:Option Addr)(aJ aP:Nat)(p1:Value)(w:World)(K:Value->World->Prop)(h:C264 p0 aJ aP p1 w K):Ret Tryz.prog 264 #[.slice p0 aJ aP,p1] w K:=aC (by kernel_rfl) Tryz.func264 (p:=pl264) (Eq.mpr (by kernel_rfl) h)
def C217 (p0:Option Addr)(aJ aP:Nat)(p1:ByteArray)(w:World)(K:Value->World->Prop):Prop:=
 ab Tryz.prog 248 #[.slice p0 aJ aP,.string p1] w (.v (.one (.int .i64))) (fun(x1:Int) w2=>K (.bool (decide (x1 >= 0))) w2)
def pl217:aB:=.auto
theorem c217 (p0:Option Addr)(aJ aP:Nat)(p1:ByteArray)(w:World)(K:Value->World->Prop)(h:C217 p0 aJ aP p1 w K):Ret Tryz.prog 217 #[.slice p0 aJ aP,.string p1] w K:=aC (by kernel_rfl) Tryz.func217 (p:=pl217) (Eq.mpr (by kernel_rfl) h)
def C248 (p0:Option Addr)(aJ aP:Nat)(p1:ByteArray)(w:World)(K:Value->World->Prop):Prop:=
 bC (Int×Unit) (fun _ s1 w2 gO=>aa (decide (s1.1<(aJ:Int)))
 (bQ p0 aJ s1.1 1 (fun a4=>ae .str a4 w2 (fun(x5:ByteArray)=>aa (p1.toList==x5.toList)
 (K (.int .i64 s1.1) w2)
 (gO (IntKind.i64.wrap (s1.1+1),()) w2))))
 (K (.int .i64 (-1)) w2))
 (0,()) w
def pl248:aB:=(.seq .auto (.seq (.seq .auto (.block (.loop [(8,.one (.int .i64))] .auto))) .auto))
theorem c248 (p0:Option Addr)(aJ aP:Nat)(p1:ByteArray)(w:World)(K:Value->World->Prop)(h:C248 p0 aJ aP p1 w K):Ret Tryz.prog 248 #[.slice p0 aJ aP,.string p1] w K:=aC (by kernel_rfl) Tryz.func248 (p:=pl248) (Eq.mpr (by kernel_rfl) h)
def jg:Tm->Int
 | .none=>0
 | .zero=>1
 | .one _=>2
 | .gG _=>3
 | .and _ _=>4
 | .or _ _ _=>5
 | .scale _ _=>6
 | .when _ _=>7
 | .cond _ _ _=>8
def iz:Tm->List UInt8×Int
 | .one s=>(s,0)
 | .or s _ _=>(s,0)
 | .when d _=>([],d)
 | _=>([],0)
def fJ:Tm->Ob×Bool
 | .scale o _=>(o,true)
 | .cond o _ _=>(o,true)
 | _=>(.none,false)
def cJ:Tm->Bool
 | .none=>false
 | .zero=>true
 | .one s=>fm s
 | .gG t=>cJ t
 | .and l r=>cJ l&&cJ r
 | .or s l r=>fm s&&(cJ l&&cJ r)
 | .scale o t=>cZ o&&cJ t
 | .when d t=>decide (0<=d)&&decide (d<=10000)&&cJ t
 | .cond o l r=>cZ o&&(cJ l&&cJ r)
def aK:Tm->Nat
 | .none=>0
 | .zero=>1
 | .one _=>1
 | .gG t=>aK t+1
 | .and l r=>aK l+aK r+1
 | .or _ l r=>aK l+aK r+1
 | .scale o t=>bA o+aK t+1
 | .when _ t=>aK t+1
 | .cond o l r=>bA o+aK l+aK r+1
def cC:Tm->Nat
 | .none=>0
 | .zero=>1
 | .one _=>1
 | .gG t=>cC t+1
 | .and l r=>max (cC l) (cC r)+1
 | .or _ l r=>max (cC l) (cC r)+1
 | .scale o t=>max (dt o) (cC t)+1
 | .when _ t=>cC t+1
 | .cond o l r=>max (max (dt o) (cC l)) (cC r)+1
def fT:Tm->List (List UInt8)
 | .none=>[]
 | .zero=>[]
 | .one _=>[]
 | .gG t=>fT t
 | .and l r=>fT l++fT r
 | .or s l r=>s::(fT l++fT r)
 | .scale _ t=>fT t
 | .when _ t=>fT t
 | .cond _ l r=>fT l++fT r
def jR (t:Tm):Int:=if cJ t=false then 2 else if 60<aK t then 5 else if 12<cC t then 5 else if(fT t).Nodup then 0 else 4
def rW (t:Tm):Nat:=bA (fJ t).1
def u9 (t:Tm):Nat:=dt (fJ t).1
def va:Tm->List (List UInt8)
 | .or s _ _=>[s]
 | _=>[]
theorem FD (t:Tm):(jg t=0)↔t=.none:=by cases t<;>simp[jg]
theorem FE (t:Tm)(h:t≠.none):aK t=rW t+jz ((dj t).map aK)+1:=by cases t<;>simp[aK,dj,jz,rW,fJ,bA] at h ⊢<;>omega
theorem Ty (t:Tm)(h:t≠.none):cC t=((dj t).map cC).foldl max (u9 t)+1:=by
 cases t<;>simp only[cC,dj,u9,fJ,dt,List.map_cons,List.map_nil,List.foldl_cons,List.foldl_nil] at h ⊢
 all_goals first | omega | exact absurd rfl h
theorem Tz (t:Tm):fT t=va t++(dj t).flatMap fT:=by cases t<;>simp[fT,dj,va]
theorem Lu (t:Tm):cC t<=aK t:=by
 induction t with
 | none=>exact Nat.le_refl _
 | zero=>exact Nat.le_refl _
 | one=>exact Nat.le_refl _
 | gG t ih=>unfold cC aK;omega
 | when d t ih=>unfold cC aK;omega
 | and l r a b=>unfold cC aK;omega
 | or s l r a b=>unfold cC aK;omega
 | scale o t ih=>unfold cC aK;have:=B8 o;omega
 | cond o l r a b=>unfold cC aK;have:=B8 o;omega
theorem Lv (t:Tm):(fT t).length<=aK t:=by
 induction t with
 | none=>exact Nat.zero_le _
 | zero=>exact Nat.zero_le _
 | one=>exact Nat.zero_le _
 | gG t ih=>unfold fT aK;omega
 | when d t ih=>unfold fT aK;omega
 | and l r a b=>unfold fT aK;rw[List.length_append];omega
 | or s l r a b=>unfold fT aK;rw[List.length_cons,List.length_append];omega
 | scale o t ih=>unfold fT aK;omega
 | cond o l r a b=>unfold fT aK;rw[List.length_append];omega
def qT (t:Tm):Bool:=!(decide (jg t=0))&&(!(decide (jg t=2\/jg t=5))||fm (iz t).1)&&(decide (0<=(iz t).2)&&decide ((iz t).2<=10000))
theorem TA (t:Tm):cJ t=(qT t&&(!(fJ t).2||cZ (fJ t).1)&&!((dj t).any fun k=>!cJ k)):=by
 cases t<;>simp[cJ,qT,jg,iz,fJ,dj,Bool.and_assoc]
 all_goals rfl
theorem rX (t:Tm)(w:World):Ret Tryz.prog 224 #[t.v] w fun r w'=>r=.int .i64 (jg t)/\w=w':=by
 refine c224 t.v w _ ?_;unfold C224;cases t with
 | none=>exact ao.nil rfl (ao.nil rfl (ao.nil rfl (ao.nil rfl (ao.nil rfl (ao.nil rfl (ao.nil rfl (ao.nil rfl ⟨rfl,rfl⟩)))))))
 | zero=>exact ao.hit () rfl ⟨rfl,rfl⟩
 | one s=>exact ao.aM rfl (by decide) (ao.hit (str s,()) rfl ⟨rfl,rfl⟩)
 | gG t=>exact ao.aM rfl (by decide) (ao.aM rfl (by decide) (ao.hit (t.v,()) rfl ⟨rfl,rfl⟩))
 | and l r=>exact ao.aM rfl (by decide) (ao.aM rfl (by decide) (ao.aM rfl (by decide) (ao.hit (l.v,r.v,()) rfl ⟨rfl,rfl⟩)))
 | or s l r=>exact ao.aM rfl (by decide) (ao.aM rfl (by decide) (ao.aM rfl (by decide) (ao.aM rfl (by decide) (ao.hit (str s,l.v,r.v,()) rfl ⟨rfl,rfl⟩))))
 | scale o t=>exact ao.aM rfl (by decide) (ao.aM rfl (by decide) (ao.aM rfl (by decide) (ao.aM rfl (by decide) (ao.aM rfl (by decide) (ao.hit (o.v,t.v,()) rfl ⟨rfl,rfl⟩)))))
 | when d t=>exact ao.aM rfl (by decide) (ao.aM rfl (by decide) (ao.aM rfl (by decide) (ao.aM rfl (by decide) (ao.aM rfl (by decide) (ao.aM rfl (by decide) (ao.hit (d,t.v,()) rfl ⟨rfl,rfl⟩))))))
 | cond o l r=>exact ao.aM rfl (by decide) (ao.aM rfl (by decide) (ao.aM rfl (by decide) (ao.aM rfl (by decide) (ao.aM rfl (by decide) (ao.aM rfl (by decide) (ao.aM rfl (by decide) (ao.hit (o.v,l.v,r.v,()) rfl ⟨rfl,rfl⟩)))))))
def rY (v:Value)(t:TypeId):Prop:=v=.nilIface\/∃ u x,v=.iface u x/\u≠t
theorem rY.ta {v:Value}{t:TypeId}{k:Kd}{yes:k.C->Prop}{no:Prop}(h:rY v t)(hn:no):ao v t k yes no:=⟨.inr ⟨h,hn⟩⟩
theorem Tm.TC {t:Tm}(h:∀ s,t≠.one s):rY t.v 216:=by cases t<;>first | exact .inl rfl | exact .inr ⟨_,_,rfl,by decide⟩ | exact absurd rfl (h _)
theorem Tm.not_or {t:Tm}(h:∀ s l r,t≠.or s l r):rY t.v 241:=by cases t<;>first | exact .inl rfl | exact .inr ⟨_,_,rfl,by decide⟩ | exact absurd rfl (h _ _ _)
theorem Tm.Lw {t:Tm}(h:∀ d u,t≠.when d u):rY t.v 247:=by cases t<;>first | exact .inl rfl | exact .inr ⟨_,_,rfl,by decide⟩ | exact absurd rfl (h _ _)
theorem Tm.Lx {t:Tm}(h:∀ o u,t≠.scale o u):rY t.v 245:=by cases t<;>first | exact .inl rfl | exact .inr ⟨_,_,rfl,by decide⟩ | exact absurd rfl (h _ _)
theorem Tm.Ly {t:Tm}(h:∀ o l r,t≠.cond o l r):rY t.v 249:=by cases t<;>first | exact .inl rfl | exact .inr ⟨_,_,rfl,by decide⟩ | exact absurd rfl (h _ _ _)
theorem Tm.TD {t:Tm}(h:∀ u,t≠.gG u):rY t.v 237:=by cases t<;>first | exact .inl rfl | exact .inr ⟨_,_,rfl,by decide⟩ | exact absurd rfl (h _)
theorem Tm.not_and {t:Tm}(h:∀ l r,t≠.and l r):rY t.v 239:=by cases t<;>first | exact .inl rfl | exact .inr ⟨_,_,rfl,by decide⟩ | exact absurd rfl (h _ _)
theorem pZ {w w0:World}{T:TypeId}{zs:List Value}{K:World->Prop}(f0:Fr none1 w w0)(h1:zs.all bK=true)(h:∀ w4,Fr none1 w w4->K w4):ak (.cells zs.toArray T) w0 (fun g w3=>ar ⟨g,0,none⟩ zs w3 fun w4=>K w4):=
 mC rfl h1 fun w4 f=>h w4 (f0.trans f)
theorem FF (t:Tm)(w:World):Ret Tryz.prog 225 #[t.v] w fun r w'=>r=.tuple #[.string (str (iz t).1),.int .i64 (iz t).2]/\Fr none1 w w':=by
 refine c225 t.v w _ ?_;unfold C225;have f0:=Fr.refl none1 w;have z1:∀ {K:World->Prop},(∀ w4,Fr none1 w w4->K w4)->ak (.cells #[.string (⟨#[]⟩:ByteArray)] 216) w (fun g w3=>ar ⟨g,0,none⟩ [.string (⟨#[]⟩:ByteArray)] w3 fun w4=>K w4):=fun h=>pZ (zs:=[.string (⟨#[]⟩:ByteArray)]) f0 rfl h;have z2:∀ {w0:World} {K:World->Prop},Fr none1 w w0->(∀ w4,Fr none1 w w4->K w4)->ak (.cells #[.string (⟨#[]⟩:ByteArray),.nilIface,.nilIface] 241) w0 (fun g w3=>ar ⟨g,0,none⟩ [.string (⟨#[]⟩:ByteArray),.nilIface,.nilIface] w3 fun w4=>K w4):=fun f h=>pZ (zs:=[.string (⟨#[]⟩:ByteArray),.nilIface,.nilIface]) f rfl h;have z3:∀ {w0:World} {K:World->Prop},Fr none1 w w0->(∀ w4,Fr none1 w w4->K w4)->ak (.cells #[.int .i64 0,.nilIface] 247) w0 (fun g w3=>ar ⟨g,0,none⟩ [.int .i64 0,.nilIface] w3 fun w4=>K w4):=fun f h=>pZ (zs:=[.int .i64 0,.nilIface]) f rfl h;have rest:((∀ s,t≠.one s)/\(∀ s l r,t≠.or s l r)/\∀ d u,t≠.when d u)->iz t=([],0):=by rintro⟨a,b,c⟩;cases t<;>first | rfl | exact absurd rfl (a _) | exact absurd rfl (b _ _ _) | exact absurd rfl (c _ _)
 by_cases h1:∃ s,t=.one s
 ·obtain⟨s,rfl⟩:=h1
  exact ao.hit (str s,()) rfl (cM (zs:=[.string (⟨#[]⟩:ByteArray)]) (vs:=[.string (str s)]) rfl rfl fun g w1 _ hb f1=>ae.ah hb (x:=str s) rfl ⟨rfl,f1⟩)
 have h1:∀ s,t≠.one s:=fun s e=>h1 ⟨s,e⟩;refine(Tm.TC h1).ta (z1 fun w1 f1=>?_)
 by_cases h2:∃ s l r,t=.or s l r
 ·obtain⟨s,l,r,rfl⟩:=h2
  exact ao.hit (str s,l.v,r.v,()) rfl (cM (zs:=[.string (⟨#[]⟩:ByteArray),.nilIface,.nilIface]) (vs:=[.string (str s),l.v,r.v]) rfl (by simp[Tm.bW,oY]) fun g w2 _ hb f2=>ae.ah hb (x:=str s) rfl ⟨rfl,f1.trans f2⟩)
 have h2:∀ s l r,t≠.or s l r:=fun s l r e=>h2 ⟨s,l,r,e⟩;refine(Tm.not_or h2).ta (z2 f1 fun w2 f2=>?_)
 by_cases h3:∃ d u,t=.when d u
 ·obtain⟨d,u,rfl⟩:=h3
  refine ao.hit (d,u.v,()) rfl (cM (zs:=[.int .i64 0,.nilIface]) (vs:=[.int .i64 d,u.v]) rfl (by simp[Tm.bW,pX]) fun g w3 _ hb f3=>?_);refine aD.of fun w4 hh f4=>?_;exact ae.ah (f4.af hb) (x:=d) rfl ⟨rfl,(f2.trans f3).trans f4⟩
 have h3:∀ d u,t≠.when d u:=fun d u e=>h3 ⟨d,u,e⟩;refine(Tm.Lw h3).ta (z3 f2 fun w3 f3=>?_);rw[rest ⟨h1,h2,h3⟩];exact⟨rfl,f3⟩
theorem B9 (t:Tm)(w:World):Ret Tryz.prog 226 #[t.v] w fun r w'=>r=.tuple #[(fJ t).1.v,.bool (fJ t).2]/\Fr none1 w w':=by
 refine c226 t.v w _ ?_;unfold C226;have f0:=Fr.refl none1 w;have z1:∀ {K:World->Prop},(∀ w4,Fr none1 w w4->K w4)->ak (.cells #[.nilIface,.nilIface] 245) w (fun g w3=>ar ⟨g,0,none⟩ [.nilIface,.nilIface] w3 fun w4=>K w4):=fun h=>pZ (zs:=[.nilIface,.nilIface]) f0 rfl h;have z2:∀ {w0:World} {K:World->Prop},Fr none1 w w0->(∀ w4,Fr none1 w w4->K w4)->ak (.cells #[.nilIface,.nilIface,.nilIface] 249) w0 (fun g w3=>ar ⟨g,0,none⟩ [.nilIface,.nilIface,.nilIface] w3 fun w4=>K w4):=fun f h=>pZ (zs:=[.nilIface,.nilIface,.nilIface]) f rfl h;have rest:((∀ o u,t≠.scale o u)/\∀ o l r,t≠.cond o l r)->fJ t=(.none,false):=by rintro⟨a,b⟩;cases t<;>first | rfl | exact absurd rfl (a _ _) | exact absurd rfl (b _ _ _)
 by_cases h1:∃ o u,t=.scale o u
 ·obtain⟨o,u,rfl⟩:=h1
  exact ao.hit (o.v,u.v,()) rfl (cM (zs:=[.nilIface,.nilIface]) (vs:=[o.v,u.v]) rfl (by simp[Tm.bW,Ob.bW]) fun g w1 _ hb f1=>ae.ah (c:=.raw) hb (x:=o.v) rfl ⟨rfl,f1⟩)
 have h1:∀ o u,t≠.scale o u:=fun o u e=>h1 ⟨o,u,e⟩;refine(Tm.Lx h1).ta (z1 fun w1 f1=>?_)
 by_cases h2:∃ o l r,t=.cond o l r
 ·obtain⟨o,l,r,rfl⟩:=h2
  exact ao.hit (o.v,l.v,r.v,()) rfl (cM (zs:=[.nilIface,.nilIface,.nilIface]) (vs:=[o.v,l.v,r.v]) rfl (by simp[Tm.bW,Ob.bW]) fun g w2 _ hb f2=>ae.ah (c:=.raw) hb (x:=o.v) rfl ⟨rfl,f1.trans f2⟩)
 have h2:∀ o l r,t≠.cond o l r:=fun o l r e=>h2 ⟨o,l,r,e⟩;refine(Tm.Ly h2).ta (z2 f1 fun w2 f2=>?_);rw[rest ⟨h1,h2⟩];exact⟨rfl,f2⟩
theorem zq (t:Tm)(w:World):Ret Tryz.prog 229 #[t.v] w fun r w'=>∃ u:Sl,r=.slice u.1 u.2.1 u.2.2/\nq w' u (dj t)/\Fr none1 w w'/\∀ k,aw u k->w.heap.size<=k:=by
 refine c229 t.v w _ ?_;unfold C229;have f0:=Fr.refl none1 w;have zn:∀ {w0:World} {T:TypeId} {K:World->Prop},Fr none1 w w0->(∀ w4,Fr none1 w w4->K w4)->ak (.cells #[.nilIface] T) w0 (fun g w3=>ar ⟨g,0,none⟩ [.nilIface] w3 fun w4=>K w4):=fun f h=>pZ (zs:=[.nilIface]) f rfl h;have Lz:∀ {w0:World} {T:TypeId} {K:World->Prop},Fr none1 w w0->(∀ w4,Fr none1 w w4->K w4)->ak (.cells #[.nilIface,.nilIface] T) w0 (fun g w3=>ar ⟨g,0,none⟩ [.nilIface,.nilIface] w3 fun w4=>K w4):=fun f h=>pZ (zs:=[.nilIface,.nilIface]) f rfl h;have TE:∀ {w0:World} {T:TypeId} {K:World->Prop},Fr none1 w w0->(∀ w4,Fr none1 w w4->K w4)->ak (.cells #[.string (⟨#[]⟩:ByteArray),.nilIface,.nilIface] T) w0 (fun g w3=>ar ⟨g,0,none⟩ [.string (⟨#[]⟩:ByteArray),.nilIface,.nilIface] w3 fun w4=>K w4):=fun f h=>pZ (zs:=[.string (⟨#[]⟩:ByteArray),.nilIface,.nilIface]) f rfl h;have TF:∀ {w0:World} {T:TypeId} {K:World->Prop},Fr none1 w w0->(∀ w4,Fr none1 w w4->K w4)->ak (.cells #[.int .i64 0,.nilIface] T) w0 (fun g w3=>ar ⟨g,0,none⟩ [.int .i64 0,.nilIface] w3 fun w4=>K w4):=fun f h=>pZ (zs:=[.int .i64 0,.nilIface]) f rfl h;have TG:∀ {w0:World} {T:TypeId} {K:World->Prop},Fr none1 w w0->(∀ w4,Fr none1 w w4->K w4)->ak (.cells #[.nilIface,.nilIface,.nilIface] T) w0 (fun g w3=>ar ⟨g,0,none⟩ [.nilIface,.nilIface,.nilIface] w3 fun w4=>K w4):=fun f h=>pZ (zs:=[.nilIface,.nilIface,.nilIface]) f rfl h;have rest:(∀ u,t≠.gG u)->(∀ l r,t≠.and l r)->(∀ s l r,t≠.or s l r)->(∀ o u,t≠.scale o u)->(∀ d u,t≠.when d u)->(∀ o l r,t≠.cond o l r)->dj t=[]:=by
  intro a b c d e f;cases t<;>first | rfl | exact absurd rfl (a _) | exact absurd rfl (b _ _) | exact absurd rfl (c _ _ _) | exact absurd rfl (d _ _) | exact absurd rfl (e _ _) | exact absurd rfl (f _ _ _)
 by_cases h1:∃ u,t=.gG u
 ·obtain⟨u,rfl⟩:=h1
  exact ao.hit (u.v,()) rfl (B5 (zs:=[.nilIface]) (vs:=[u.v]) wX rfl (by simp[Tm.bW]) rfl u.fR fun x w' hx _ f xf=>⟨x,rfl,hx,f,xf⟩)
 have h1:∀ u,t≠.gG u:=fun u e=>h1 ⟨u,e⟩;refine(Tm.TD h1).ta (zn f0 fun w1 f1=>?_)
 by_cases h2:∃ l r,t=.and l r
 ·obtain⟨l,r,rfl⟩:=h2
  exact ao.hit (l.v,r.v,()) rfl (B6 (zs:=[.nilIface,.nilIface]) (vs:=[l.v,r.v]) wX rfl (by simp[Tm.bW]) rfl rfl l.fR r.fR fun x w' hx _ f xf=>⟨x,rfl,hx,f1.trans f,fun k hk=>Nat.le_trans f1.size (xf k hk)⟩)
 have h2:∀ l r,t≠.and l r:=fun l r e=>h2 ⟨l,r,e⟩;refine(Tm.not_and h2).ta (Lz f1 fun w2 f2=>?_)
 by_cases h3:∃ s l r,t=.or s l r
 ·obtain⟨s,l,r,rfl⟩:=h3
  exact ao.hit (str s,l.v,r.v,()) rfl (B6 (zs:=[.string (⟨#[]⟩:ByteArray),.nilIface,.nilIface]) (vs:=[.string (str s),l.v,r.v]) wX rfl (by simp[Tm.bW,oY]) rfl rfl l.fR r.fR fun x w' hx _ f xf=>⟨x,rfl,hx,f2.trans f,fun k hk=>Nat.le_trans f2.size (xf k hk)⟩)
 have h3:∀ s l r,t≠.or s l r:=fun s l r e=>h3 ⟨s,l,r,e⟩;refine(Tm.not_or h3).ta (TE f2 fun w3 f3=>?_)
 by_cases h4:∃ o u,t=.scale o u
 ·obtain⟨o,u,rfl⟩:=h4
  exact ao.hit (o.v,u.v,()) rfl (B5 (zs:=[.nilIface,.nilIface]) (vs:=[o.v,u.v]) wX rfl (by simp[Tm.bW,Ob.bW]) rfl u.fR fun x w' hx _ f xf=>⟨x,rfl,hx,f3.trans f,fun k hk=>Nat.le_trans f3.size (xf k hk)⟩)
 have h4:∀ o u,t≠.scale o u:=fun o u e=>h4 ⟨o,u,e⟩;refine(Tm.Lx h4).ta (Lz f3 fun w4 f4=>?_)
 by_cases h5:∃ d u,t=.when d u
 ·obtain⟨d,u,rfl⟩:=h5
  exact ao.hit (d,u.v,()) rfl (B5 (zs:=[.int .i64 0,.nilIface]) (vs:=[.int .i64 d,u.v]) wX rfl (by simp[Tm.bW,pX]) rfl u.fR fun x w' hx _ f xf=>⟨x,rfl,hx,f4.trans f,fun k hk=>Nat.le_trans f4.size (xf k hk)⟩)
 have h5:∀ d u,t≠.when d u:=fun d u e=>h5 ⟨d,u,e⟩;refine(Tm.Lw h5).ta (TF f4 fun w5 f5=>?_)
 by_cases h6:∃ o l r,t=.cond o l r
 ·obtain⟨o,l,r,rfl⟩:=h6
  exact ao.hit (o.v,l.v,r.v,()) rfl (B6 (zs:=[.nilIface,.nilIface,.nilIface]) (vs:=[o.v,l.v,r.v]) wX rfl (by simp[Tm.bW,Ob.bW]) rfl rfl l.fR r.fR fun x w' hx _ f xf=>⟨x,rfl,hx,f5.trans f,fun k hk=>Nat.le_trans f5.size (xf k hk)⟩)
 have h6:∀ o l r,t≠.cond o l r:=fun o l r e=>h6 ⟨o,l,r,e⟩;refine(Tm.Ly h6).ta (TG f5 fun w6 f6=>?_);rw[rest h1 h2 h3 h4 h5 h6];exact⟨_,rfl,Tl _,f6,fun k t=>(kz k t).elim⟩
theorem TI (l:List Nat)(b n:Nat):(l++[n]).foldl max b=max (l.foldl max b) n:=by rw[List.foldl_append];rfl
theorem LA (t:Tm)(hn:aK t<=1000000)(w:World):Ret Tryz.prog 215 #[t.v] w fun r w'=>r=.tuple #[.int .i64 (aK t:Int),.int .i64 (cC t:Int)]/\Fr none1 w w':=by
 refine c215 t.v w _ ?_;have ih:∀ k∈dj t,aK k<=1000000->∀ w,Ret Tryz.prog 215 #[k.v] w fun r w'=>r=.tuple #[.int .i64 (aK k:Int),.int .i64 (cC k:Int)]/\Fr none1 w w':=fun k hk hn w=>LA k hn w;refine ab.of (rX t w) ?_;rintro _ _ ⟨rfl,rfl⟩;refine⟨_,rfl,aa.eq (fun h=>?_) (fun h=>?_)⟩
 ·rw[FD] at h
  subst h;exact⟨rfl,Fr.refl _ _⟩
 rw[Ne,FD] at h;have hN:=FE t h;have hD:=Ty t h;refine cy.of (fun s w'=>s=((rW t:Int),(u9 t:Int),())/\Fr none1 w w') ?_ ?_
 ·refine ab.of (B9 t w) ?_
  rintro _ w1 ⟨rfl,f1⟩;refine⟨((fJ t).1.v,(fJ t).2,()),rfl,aa.by (fun hb=>?_) (fun hb=>?_)⟩
  ·refine ab.of (Fz (fJ t).1 (by unfold rW at hN;omega) w1) ?_
   rintro _ w2 ⟨rfl,f2⟩;exact⟨((rW t:Int),(u9 t:Int),()),rfl,rfl,f1.trans f2⟩
  ·refine⟨?_,f1⟩
   have:fJ t=(.none,false):=by cases t<;>first | rfl | exact absurd hb (by simp[fJ])
   unfold rW u9;rw[this];rfl
 rintro _ s w1 ⟨rfl,f1⟩;dsimp only;refine ab.of (zq t w1) ?_;rintro _ w2 ⟨u,rfl,hu,f2,uf⟩;refine⟨u,rfl,?_⟩;have dk:=hu.len;have zm:=B4 t;refine bC.of (fun s w'=>∃ i:Nat,s.2.2.1=i/\i<=(dj t).length/\s.1=((rW t+jz (((dj t).take i).map aK):Nat):Int)/\s.2.1=((((dj t).take i).map cC).foldl max (u9 t):Nat)/\Fr none1 w w'/\nq w' u (dj t)) (fun s _=>(2 - s.2.2.1).toNat)
  ⟨0,rfl,Nat.zero_le _,rfl,rfl,f1.trans f2,hu⟩ ?_
 rintro _ ⟨a,b,i',_⟩ w3 ⟨i,hi,jf,ha,hb,f3,kT⟩;dsimp only at hi ha hb ⊢;subst hi ha hb;have hle:∀ i,jz (((dj t).take i).map aK)+rW t<=aK t:=fun i=>by
  rw[hN,List.map_take];have:=wZ ((dj t).map aK) i;omega
 have TJ:=hle i;refine aa.dec (fun aU=>?_) (fun eu=>?_)
 ·have fI:i<(dj t).length:=by omega
  obtain⟨k,hk⟩:∃ k,(dj t)[i]? = some k:=⟨_,List.getElem?_eq_getElem fI⟩;have oe:=List.mem_of_getElem? hk;have og:=hle (i+1);rw[rT _ _ _ hk,u6] at og;refine kT.ld hk ?_;refine ab.of (ih k oe (by omega) w3) ?_;rintro _ w4 ⟨rfl,f4⟩;refine⟨((aK k:Int),(cC k:Int),()),rfl,?_⟩;dsimp only;have Tv:=Lu k;refine⟨⟨i+1,by rw[wI (by omega) (by omega)];omega,by omega,?_,?_,f3.trans f4,kT.af f4⟩,by rw[wI (by omega) (by omega)];omega⟩
  ·rw[rT _ _ _ hk,u6,wI (by omega) (by omega)]
   omega
  ·rw[rT _ _ _ hk,TI]
   by_cases hm:(((dj t).take i).map cC).foldl max (u9 t)<cC k
   ·rw[if_pos (by omega)];omega
   ·rw[if_neg (by omega)];omega
 ·have:i=(dj t).length:=by omega
  subst this;rw[List.take_length];rw[List.take_length] at TJ;have hd:=Lu t;rw[hN];rw[hD] at hd ⊢;rw[wI (by omega) (by omega),wI (by omega) (by omega)];exact⟨by simp,f3⟩
termination_by SizeOf.sizeOf t
decreasing_by exact B2 hk
theorem LB (t:Tm)(hn:aK t<=1000000)(w:World):Ret Tryz.prog 214 #[t.v] w fun r w'=>r=.bool (cJ t)/\Fr none1 w w':=by
 refine c214 t.v w _ ?_;unfold C214;have ih:∀ k∈dj t,aK k<=1000000->∀ w,Ret Tryz.prog 214 #[k.v] w fun r w'=>r=.bool (cJ k)/\Fr none1 w w':=fun k hk hn w=>LB k hn w;have TK:∀ w,Ret Tryz.prog 224 #[.iface 216 (.agg #[.string (⟨#[]⟩:ByteArray)])] w fun r w'=>r=.int .i64 2/\w=w':=fun w=>rX (.one []) w;have TL:∀ w,Ret Tryz.prog 224 #[.iface 241 (.agg #[.string (⟨#[]⟩:ByteArray),.nilIface,.nilIface])] w fun r w'=>r=.int .i64 5/\w=w':=fun w=>rX (.or [] .none .none) w;refine ab.of (FF t w) ?_;rintro _ w1 ⟨rfl,f1⟩;refine⟨(str (iz t).1,(iz t).2,()),rfl,?_⟩;dsimp only;refine cy.of (fun s w'=>s.1=decide (jg t=2\/jg t=5)/\w1=w') ?_ ?_
 ·refine ab.of (rX t w1) ?_
  rintro _ _ ⟨rfl,rfl⟩;refine⟨_,rfl,?_⟩;refine ab.of (TK w1) ?_;rintro _ _ ⟨rfl,rfl⟩;refine⟨_,rfl,aa.eq (fun h=>⟨by rw[decide_eq_true (.inl h)],rfl⟩) (fun h=>?_)⟩;refine ab.of (rX t w1) ?_;rintro _ _ ⟨rfl,rfl⟩;refine⟨_,rfl,?_⟩;refine ab.of (TL w1) ?_;rintro _ _ ⟨rfl,rfl⟩;refine⟨_,rfl,?_,rfl⟩;dsimp only
  by_cases h5:jg t=5
  ·rw[decide_eq_true (.inr h5),h5];rfl
  ·rw[decide_eq_false (by rintro(h' | h')<;>contradiction)];simpa using h5
 rintro _ ⟨s,_⟩ _ ⟨hs,rfl⟩;dsimp only at hs ⊢;subst hs;have acw:∀ w2,Fr none1 w w2->(aa (decide ((iz t).2<0)) True True->True):=fun _ _ _=>trivial;refine cy.of (fun s w'=>s.1=!qT t/\Fr none1 w w') ?_ ?_
 ·refine ab.of (rX t w1) ?_
  rintro _ _ ⟨rfl,rfl⟩;have days:∀ w2,Fr none1 w w2->jg t≠0->(decide (jg t=2\/jg t=5)=true->fm (iz t).1=true)->aa (decide ((iz t).2<0)) (true=(!qT t)/\Fr none1 w w2) (decide ((iz t).2 > 10000)=(!qT t)/\Fr none1 w w2):=fun w2 f2 h0 j6=>by
   have e:qT t=(decide (0<=(iz t).2)&&decide ((iz t).2<=10000)):=by
    unfold qT;rw[decide_eq_false h0];cases hd:decide (jg t=2\/jg t=5) with
    | true=>rw[j6 hd];rfl
    | false=>rfl
   rw[e];refine aa.dec (fun h=>⟨?_,f2⟩) (fun h=>⟨?_,f2⟩)
   ·rw[decide_eq_false (p:=0<=(iz t).2) (by omega)];rfl
   ·rw[decide_eq_true (p:=0<=(iz t).2) (by omega),Bool.true_and]
    by_cases h2:(iz t).2<=10000
    ·rw[decide_eq_true h2,decide_eq_false (by omega)];rfl
    ·rw[decide_eq_false h2,decide_eq_true (by omega)];rfl
  refine⟨_,rfl,aa.eq (fun h=>⟨?_,f1⟩) (fun h=>?_)⟩
  ·dsimp only;unfold qT;rw[decide_eq_true h];rfl
  refine aa.by (fun kU=>?_) (fun kU=>?_)
  ·refine ab.of (uQ (iz t).1 w1) ?_
   rintro _ w2 ⟨rfl,f2⟩;refine⟨_,rfl,aa.not (aa.by (fun j6=>?_) (fun j6=>?_))⟩
   ·exact days w2 (f1.trans f2) h fun _=>j6
   ·refine⟨?_,f1.trans f2⟩
    dsimp only;unfold qT fm;rw[kU,j6];simp
  ·exact days w1 f1 h fun e=>by rw[kU] at e;cases e
 rintro _ ⟨s,_⟩ w2 ⟨hs,f2⟩;dsimp only at hs ⊢;subst hs;rw[TA t];refine aa.not (aa.by (fun ho=>?_) (fun ho=>?_))
 case refine_2=>rw[ho];exact⟨rfl,f2⟩
 rw[ho,Bool.true_and];have hnd:t≠.none:=fun e=>by rw[e] at ho;exact absurd ho (by simp[qT,jg])
 have hN:=FE t hnd;have kids:∀ w3,Fr none1 w w3->ab Tryz.prog 229 #[t.v] w3 (.v (.one .aj)) (fun(bD:Option Addr×Nat×Nat) cn=>ab Tryz.prog 245 #[.slice bD.1 bD.2.1 bD.2.2,.func (.func 246) #[] #[]] cn (.v (.one .bool)) (fun(cA:Bool) bV=>
   (.bool (!cA):Value)=.bool (true&&!((dj t).any fun k=>!cJ k))/\Fr none1 w bV)):=fun w3 f3=>by
  refine ab.of (zq t w3) ?_;rintro _ w4 ⟨u,rfl,hu,f4,_⟩;refine⟨u,rfl,?_⟩;have dk:=hu.len;have zm:=B4 t;have hc:Ret Tryz.prog 245 #[.slice u.1 u.2.1 u.2.2,.func (.func 246) #[] #[]] w4 fun r w'=>r=.bool ((dj t).any fun k=>!cJ k)/\Fr none1 w4 w':=by
   refine c245 u.1 u.2.1 u.2.2 _ w4 _ ?_;have hx:Ret Tryz.prog 264 #[.slice u.1 u.2.1 u.2.2,.func (.func 246) #[] #[]] w4 fun r w'=>(∃ i:Int,r=.int .i64 i/\decide (i >= 0)=(dj t).any fun k=>!cJ k)/\Fr none1 w4 w':=by
    refine c264 u.1 u.2.1 u.2.2 _ w4 _ ?_;refine bC.of (fun s w'=>∃ i:Nat,s.1=i/\i<=(dj t).length/\((dj t).take i).any (fun k=>!cJ k)=false/\Fr none1 w4 w'/\nq w' u (dj t)) (fun s _=>(2 - s.1).toNat) ⟨0,rfl,Nat.zero_le _,rfl,Fr.refl _ _,hu⟩ ?_;rintro _ ⟨i',_⟩ w5 ⟨i,hi,jf,hall,f5,nr⟩;dsimp only at hi ⊢;subst hi;refine aa.dec (fun aU=>?_) (fun eu=>?_)
    ·have fI:i<(dj t).length:=by omega
     obtain⟨k,hk⟩:∃ k,(dj t)[i]? = some k:=⟨_,List.getElem?_eq_getElem fI⟩;refine nr.ld hk ?_;have oe:=List.mem_of_getElem? hk;have og:aK k<=1000000:=by
      have:=wZ ((dj t).map aK) (i+1);rw[<- List.map_take,rT _ _ _ hk,u6] at this;omega
     have xd:Ret Tryz.prog 246 #[k.v] w5 fun r w'=>r=.bool (!cJ k)/\Fr none1 w5 w':=by
      refine c246 k.v w5 _ ?_;refine ab.of (ih k oe og w5) ?_;rintro _ w6 ⟨rfl,f6⟩;exact⟨_,rfl,rfl,f6⟩
     refine mm (by kernel_rfl) Tryz.func246 (by kernel_rfl) (xd.mono ?_);rintro _ w6 ⟨rfl,f6⟩;refine⟨_,rfl,aa.by (fun hb=>?_) (fun hb=>?_)⟩
     ·refine⟨⟨(i:Int),rfl,?_⟩,f5.trans f6⟩
      rw[decide_eq_true (by omega),eq_comm,List.any_eq_true];exact⟨k,oe,hb⟩
     ·refine⟨⟨i+1,by rw[wI (by omega) (by omega)];omega,by omega,?_,f5.trans f6,nr.af f6⟩,by rw[wI (by omega) (by omega)];omega⟩
      rw[List.take_add_one,hk,List.any_append,hall];simpa using hb
    ·refine⟨⟨-1,rfl,?_⟩,f5⟩
     rw[List.take_of_length_le (by omega)] at hall;rw[hall];rfl
   refine ab.of hx ?_;rintro _ w5 ⟨⟨i,rfl,hi⟩,f5⟩;exact⟨_,rfl,by rw[hi],f5⟩
  refine ab.of hc ?_;rintro _ w5 ⟨rfl,f5⟩;exact⟨_,rfl,by rw[Bool.true_and],(f3.trans f4).trans f5⟩
 refine ab.of (B9 t w2) ?_;rintro _ w3 ⟨rfl,f3⟩;refine⟨((fJ t).1.v,(fJ t).2,()),rfl,aa.by (fun hb=>?_) (fun hb=>?_)⟩
 ·dsimp only at hb ⊢
  rw[hb];refine ab.of (FA (fJ t).1 (by unfold rW at hN;omega) w3) ?_;rintro _ w4 ⟨rfl,f4⟩;have LC:(uZ (fJ t).1=2)↔cZ (fJ t).1=false:=by
   unfold uZ
   constructor
   ·intro h
    by_cases hf:cZ (fJ t).1=false
    ·exact hf
    ·rw[if_neg hf] at h
     repeat' split at h
     all_goals omega
   ·intro h;rw[if_pos h]
  refine⟨_,rfl,aa.eq (fun h=>?_) (fun h=>?_)⟩
  ·rw[LC.1 h];exact⟨by simp,(f2.trans f3).trans f4⟩
  ·have:cZ (fJ t).1=true:=by
    cases hf:cZ (fJ t).1 with
    | true=>rfl
    | false=>exact absurd (LC.2 hf) h
   rw[this];exact kids w4 ((f2.trans f3).trans f4)
 ·dsimp only at hb ⊢
  rw[hb];exact kids w3 (f2.trans f3)
termination_by SizeOf.sizeOf t
decreasing_by exact B2 hk
def sv (s:List UInt8):Value:=.string (str s)
def gH (w:World)(v:Sl)(l:List (List UInt8)):Prop:=aF w 9 1 v (l.map sv)
theorem gH.af {w w':World}{v:Sl}{l:List (List UInt8)}(h:gH w v l)(f:Fr none1 w w'):gH w' v l:=aF.af h f
theorem gH.len {w:World}{v:Sl}{l:List (List UInt8)}(h:gH w v l):v.2.1=l.length:=by have:=aF.len h;rw[List.length_map,Nat.mul_one] at this;exact this.symm
theorem gH.ld {w:World}{v:Sl}{l:List (List UInt8)}(h:gH w v l){i:Nat}{s:List UInt8}(ho:l[i]? = some s){K:ByteArray->Prop}(k:K (str s)):bQ v.1 v.2.1 (i:Int) 1 fun p=>ae .str p w K:=by
 have hi:=(List.getElem?_eq_some_iff.1 ho).1;have hl:=h.len;refine aF.ld h (by omega) (by omega) (c:=.str) (x:=str s) ?_ k;rw[Int.toNat_natCast,List.getElem?_map,ho];rfl
theorem zr (w:World):gH w (none,0,0) []:=.inl ⟨rfl,rfl⟩
theorem TM (l:List (List UInt8)):∀ v∈l.map sv,bK v=true:=by intro v hv;obtain⟨s,_,rfl⟩:=List.mem_map.1 hv;rfl
theorem LD {w:World}{x y:Sl}{xs ys:List (List UInt8)}(hx:gH w x xs)(hy:du w 1 y (ys.map sv))(hl:xs.length+ys.length<=100000000):
  ∃ (v:Sl) (w':World),(Builtin.append_ #[51,51] 51 #[.slice x.1 x.2.1 x.2.2,.slice y.1 y.2.1 y.2.2]).run Tryz.prog w=.ok (.slice v.1 v.2.1 v.2.2) w'/\gH w' v (xs++ys)/\Fr (aw x) w w'/\(∀ k,aw v k->aw x k\/w.heap.size<=k):=by
 have e1:=hx.len;have e2:y.2.1=ys.length:=by have:=hy.1;rw[List.length_map,Nat.mul_one] at this;exact this.symm
 obtain⟨v,w',a,b,_,c,d⟩:=gE (P:=Tryz.prog) (s:=1) (xs:=xs.map sv) (ys:=ys.map sv) wY 51 hx hy (TM ys) (by rw[e1,e2];omega);exact⟨v,w',a,by unfold gH;rw[List.map_append];exact b,c,d⟩
theorem LF (t:Tm)(hn:aK t<=1000000)(w:World):Ret Tryz.prog 216 #[t.v] w fun r w'=>∃ u:Sl,r=.slice u.1 u.2.1 u.2.2/\gH w' u (fT t)/\Fr none1 w w'/\∀ k,aw u k->w.heap.size<=k:=by
 refine c216 t.v w _ ?_;have ih:∀ k∈dj t,aK k<=1000000->∀ w,Ret Tryz.prog 216 #[k.v] w fun r w'=>∃ u:Sl,r=.slice u.1 u.2.1 u.2.2/\gH w' u (fT k)/\Fr none1 w w'/\∀ k,aw u k->w.heap.size<=k:=fun k hk hn w=>LF k hn w;have f0:=Fr.refl none1 w;refine cy.of (fun s w'=>gH w' s.1 (va t)/\Fr none1 w w'/\∀ k,aw s.1 k->w.heap.size<=k) ?_ ?_
 ·by_cases h2:∃ s l r,t=.or s l r
  ·obtain⟨s,l,r,rfl⟩:=h2
   refine ao.hit (str s,l.v,r.v,()) rfl (cM (zs:=[.string (⟨#[]⟩:ByteArray),.nilIface,.nilIface]) (vs:=[.string (str s),l.v,r.v]) rfl (by simp[Tm.bW,oY]) fun g w2 _ hb f2=>ae.ah hb (x:=str s) rfl ?_);obtain⟨u,w3,hr,hu,dk,f3,uf⟩:=lR (P:=Tryz.prog) (w:=w2) wY (sv s) rfl;refine⟨u,w3,hr,?_⟩;obtain⟨x,w4,zt,hx,f4,xf⟩:=LD (zr w3) (ys:=[s]) hu.rd (by simp);refine⟨x,w4,zt,hx,(f2.trans f3).comp f4 (fun k _ t=>(kz k t).elim),fun k hk=>?_⟩
   rcases xf k hk with t | t
   ·exact(kz k t).elim
   ·have:=(f2.trans f3).size;omega
  ·have h2:∀ s l r,t≠.or s l r:=fun s l r e=>h2 ⟨s,l,r,e⟩
   refine(Tm.not_or h2).ta (pZ (zs:=[.string (⟨#[]⟩:ByteArray),.nilIface,.nilIface]) f0 rfl fun w1 f1=>⟨?_,f1,fun k t=>(kz k t).elim⟩);have:va t=[]:=by cases t<;>first | rfl | exact absurd rfl (h2 _ _ _)
   rw[this];exact zr _
 rintro _ ⟨s,_⟩ w1 ⟨hs,f1,sf⟩;dsimp only at hs sf ⊢;refine ab.of (zq t w1) ?_;rintro _ w2 ⟨u,rfl,hu,f2,uf⟩;refine⟨u,rfl,?_⟩;have dk:=hu.len;have zm:=B4 t;have hL:=Tz t;have hlen:=Lv t;have TN:∀ i,(va t++((dj t).take i).flatMap fT).length<=aK t:=fun i=>by
  have:(fT t).length=(va t++((dj t).take i).flatMap fT).length+(((dj t).drop i).flatMap fT).length:=by
   rw[hL]
   conv=>lhs;rw[<- List.take_append_drop i (dj t)]
   rw[List.flatMap_append];simp only[List.length_append];omega
  omega
 have acx:∀ k,aw u k->k<w2.heap.size:=fun k hk=>aF.lt hu hk;refine bC.of (fun s w'=>∃ i:Nat,s.2.1=i/\i<=(dj t).length/\gH w' s.1 (va t++((dj t).take i).flatMap fT)/\Fr none1 w w'/\nq w' u (dj t)/\(∀ k,aw s.1 k->w.heap.size<=k/\¬ aw u k)) (fun s _=>(2 - s.2.1).toNat)
  ⟨0,rfl,Nat.zero_le _,by simpa using hs.af f2,f1.trans f2,hu,fun k hk=>⟨sf k hk,fun t=>by have:=uf k t;have:=aF.lt hs hk;omega⟩⟩ ?_
 rintro _ ⟨v,i',_⟩ w3 ⟨i,hi,jf,hv,f3,kT,vf⟩;dsimp only at hi hv vf ⊢;subst hi;refine aa.dec (fun aU=>?_) (fun eu=>?_)
 ·have fI:i<(dj t).length:=by omega
  obtain⟨k,hk⟩:∃ k,(dj t)[i]? = some k:=⟨_,List.getElem?_eq_getElem fI⟩;have oe:=List.mem_of_getElem? hk;have hb:=TN (i+1);rw[List.take_add_one,hk] at hb;simp only[Option.toList_some,List.flatMap_append,List.flatMap_cons,List.flatMap_nil,List.append_nil,List.length_append] at hb;refine kT.ld hk ?_;have og:aK k<=1000000:=by
   have hnd:t≠.none:=fun e=>by rw[e] at fI;exact absurd fI (by simp[dj])
   have hN:=FE t hnd;have:=wZ ((dj t).map aK) (i+1);rw[<- List.map_take,rT _ _ _ hk,u6] at this;omega
  refine ab.of (ih k oe og w3) ?_;rintro _ w4 ⟨x,rfl,hx,f4,xf⟩;refine⟨x,rfl,?_⟩;obtain⟨y,w5,FG,hy,f5,yf⟩:=LD (hv.af f4) (aF.rd hx) (by rw[List.length_append];omega);have ult:=fun k (hk:aw u k)=>aF.lt kT hk;refine⟨y,w5,FG,⟨i+1,by rw[wI (by omega) (by omega)];omega,by omega,?_,(f3.trans f4).comp f5 (fun k _ t=>by have:=(vf k t).1;omega),aF.ag (kT.af f4) f5 (fun k hk t=>(vf k t).2 hk),fun k hk=>?_⟩,by rw[wI (by omega) (by omega)];omega⟩
  ·rw[List.take_add_one,hk]
   simp only[Option.toList_some,List.flatMap_append,List.flatMap_cons,List.flatMap_nil,List.append_nil];rw[<- List.append_assoc];exact hy
  ·rcases yf k hk with t | t
   ·exact vf k t
   ·have:=(f3.trans f4).size
    have:=f4.size;exact⟨by omega,fun q=>by have:=ult k q;omega⟩
 ·have:i=(dj t).length:=by omega
  subst this;rw[List.take_length,<- hL] at hv;exact⟨v,rfl,hv,f3,fun k hk=>(vf k hk).1⟩
termination_by SizeOf.sizeOf t
decreasing_by exact B2 hk
theorem LG {w:World}{v:Sl}{l:List (List UInt8)}(h:du w 1 v (l.map sv))(hl:l.length<=100000000)(s:List UInt8):
  Ret Tryz.prog 217 #[.slice v.1 v.2.1 v.2.2,.string (str s)] w fun r w'=>r=.bool (decide (s∈l))/\w=w':=by
 have hlen:v.2.1=l.length:=by have:=h.1;rw[List.length_map,Nat.mul_one] at this;exact this.symm
 refine c217 v.1 v.2.1 v.2.2 (str s) w _ ?_;have hx:Ret Tryz.prog 248 #[.slice v.1 v.2.1 v.2.2,.string (str s)] w fun r w'=>(∃ i:Int,r=.int .i64 i/\decide (i >= 0)=decide (s∈l))/\w=w':=by
  refine c248 v.1 v.2.1 v.2.2 (str s) w _ ?_;refine bC.of (fun st w'=>∃ i:Nat,st.1=i/\i<=l.length/\s ∉ l.take i/\w=w') (fun st _=>(v.2.1 - st.1).toNat) ⟨0,rfl,Nat.zero_le _,by simp,rfl⟩ ?_;rintro _ ⟨i',_⟩ _ ⟨i,hi,jf,hZ,rfl⟩;dsimp only at hi ⊢;subst hi;refine aa.dec (fun aU=>?_) (fun eu=>?_)
  ·have fI:i<l.length:=by omega
   obtain⟨x,hx⟩:∃ x,l[i]? = some x:=⟨_,List.getElem?_eq_getElem fI⟩;refine du.ld h (by omega) aU (c:=.str) (x:=str x) (by rw[Int.toNat_natCast,List.getElem?_map,hx];rfl) ?_;rw[jc];refine aa.dec (fun he=>?_) (fun ay=>?_)
   ·subst he
    refine⟨⟨(i:Int),rfl,?_⟩,rfl⟩;rw[decide_eq_true (by omega),decide_eq_true (List.mem_of_getElem? hx)]
   ·refine⟨⟨i+1,by rw[wI (by omega) (by omega)];omega,by omega,?_,rfl⟩,by rw[wI (by omega) (by omega)];omega⟩
    rw[List.take_add_one,hx];simp only[Option.toList_some,List.mem_append,List.mem_singleton];rintro(t | t)
    ·exact hZ t
    ·exact ay t
  ·refine⟨⟨-1,rfl,?_⟩,rfl⟩
   rw[List.take_of_length_le (by omega)] at hZ;rw[decide_eq_false hZ];rfl
 refine ab.of hx ?_;rintro _ _ ⟨⟨i,rfl,hi⟩,rfl⟩;exact⟨i,rfl,by rw[hi],rfl⟩
theorem LH {α:Type}(l:List α):(∀ j x,l[j]? = some x->x ∉ l.take j)↔l.Nodup:=by
 unfold List.Nodup;rw[List.pairwise_iff_getElem]
 constructor
 ·intro h i j hi hj lz heq
  refine h j l[j] (List.getElem?_eq_getElem hj) ?_;rw[List.mem_take_iff_getElem];exact⟨i,by omega,heq⟩
 ·intro h j x hx hm
  obtain⟨hj,rfl⟩:=List.getElem?_eq_some_iff.1 hx;rw[List.mem_take_iff_getElem] at hm;obtain⟨i,hi,heq⟩:=hm;exact h i j (by omega) hj (by omega) heq
theorem FH (t:Tm)(hn:aK t<=1000000)(w:World):Ret Tryz.prog 170 #[t.v] w fun r w'=>r=.int .i64 (jR t)/\Fr none1 w w':=by
 refine c170 t.v w _ ?_;refine ab.of (LB t hn w) ?_;rintro _ w1 ⟨rfl,f1⟩;unfold jR;refine⟨_,rfl,aa.not (aa.by (fun h=>?_) (fun h=>?_))⟩
 case refine_2=>rw[if_pos h];exact⟨rfl,f1⟩
 rw[if_neg (by simp[h])];refine ab.of (LA t hn w1) ?_;rintro _ w2 ⟨rfl,f2⟩;refine⟨((aK t:Int),(cC t:Int),()),rfl,?_⟩;dsimp only;refine aa.dec (fun h=>?_) (fun h=>?_)
 ·rw[if_pos (by omega)];exact⟨rfl,f1.trans f2⟩
 rw[if_neg (by omega)];refine aa.dec (fun h=>?_) (fun h=>?_)
 ·rw[if_pos (by omega)];exact⟨rfl,f1.trans f2⟩
 rw[if_neg (by omega)];refine ab.of (LF t hn w2) ?_;rintro _ w3 ⟨u,rfl,hu,f3,_⟩;refine⟨u,rfl,?_⟩;have dk:=hu.len;have FI:=Lv t;have wJ:u.2.1<=u.2.2:=by
  rcases hu with⟨rfl,_⟩ | ⟨g,off,cs,_,_,hle,_⟩
  ·exact Nat.le_refl _
  ·exact hle
 have fr:=(f1.trans f2).trans f3;refine bC.of (fun s w'=>∃ i:Nat,s.1=i/\i<=(fT t).length/\(∀ j x,j<i->(fT t)[j]? = some x->x ∉ (fT t).take j)/\w3=w') (fun s _=>(u.2.1 - s.1).toNat) ⟨0,rfl,Nat.zero_le _,fun j x hj=>absurd hj (by omega),rfl⟩ ?_;rintro _ ⟨i',_⟩ _ ⟨i,hi,jf,hall,rfl⟩;dsimp only at hi ⊢;subst hi;refine aa.dec (fun aU=>?_) (fun eu=>?_)
 ·have fI:i<(fT t).length:=by omega
  obtain⟨x,hx⟩:∃ x,(fT t)[i]? = some x:=⟨_,List.getElem?_eq_getElem fI⟩;refine hu.ld hx ?_;refine du.sub (aF.rd hu) (by omega) (by omega) wJ fun hs=>?_;rw[Int.toNat_natCast] at hs ⊢;rw[<- List.map_take] at hs;refine ab.of (LG hs (by rw[List.length_take];omega) x) ?_;rintro _ _ ⟨rfl,rfl⟩;refine⟨_,rfl,aa.dec (fun hm=>?_) (fun hm=>?_)⟩
  ·rw[if_neg (fun hd=>(LH _).2 hd i x hx hm)]
   exact⟨rfl,fr⟩
  ·refine⟨⟨i+1,by rw[wI (by omega) (by omega)];omega,by omega,fun j y hj hy=>?_,rfl⟩,by rw[wI (by omega) (by omega)];omega⟩
   by_cases jt:j<i
   ·exact hall j y jt hy
   ·have:j=i:=by omega
    subst this;rw[hx] at hy;injection hy with hy;subst hy
    exact hm
 ·rw[if_pos ((LH _).1 fun j x hx=>hall j x (by have:=(List.getElem?_eq_some_iff.1 hx).1;omega) hx)]
  exact⟨rfl,fr⟩
def C218 (p0:ByteArray)(p1:Option Addr)(cw cN:Nat)(w:World)(K:Value->World->Prop):Prop:=
 v7 p0 (⟨#[40]⟩:ByteArray) (ab Tryz.prog 249 #[.slice p1 cw cN,.string (⟨#[44]⟩:ByteArray)] w (.v (.one .str)) (fun(x1:ByteArray) w2=>v7 (p0++(⟨#[40]⟩:ByteArray)) x1 (v7 ((p0++(⟨#[40]⟩:ByteArray))++x1) (⟨#[41]⟩:ByteArray) (K (.string (((p0++(⟨#[40]⟩:ByteArray))++x1)++(⟨#[41]⟩:ByteArray))) w2))))
def pl218:aB:=.auto
theorem c218 (p0:ByteArray)(p1:Option Addr)(cw cN:Nat)(w:World)(K:Value->World->Prop)(h:C218 p0 p1 cw cN w K):Ret Tryz.prog 218 #[.string p0,.slice p1 cw cN] w K:=aC (by kernel_rfl) Tryz.func218 (p:=pl218) (Eq.mpr (by kernel_rfl) h)
def C219 (p0:Value)(w:World)(K:Value->World->Prop):Prop:=
 ao p0 222 (.agg [.int .i64]) (fun(x1:Int×Unit)=>ak (.cells #[.int .i64 0] 222) w (fun g2 w3=>ar (ad g2) [.int .i64 x1.1] w3 (fun w4=>ae (.int .i64) ((ad g2).add 0) w4 (fun(x5:Int)=>ab Tryz.prog 220 #[.int .i64 x5] w4 (.v (.one .str)) (fun(x6:ByteArray) w7=>K (.string x6) w7)))))
 (ao p0 300 (.agg [.str]) (fun(x8:ByteArray×Unit)=>ak (.cells #[.string (⟨#[]⟩:ByteArray)] 300) w (fun g9 aG=>ar (ad g9) [.string x8.1] aG (fun aO=>ae .str ((ad g9).add 0) aO (fun(bx:ByteArray)=>aA Tryz.prog (Instr.buildSlice 51 1 #[(0,.string bx)]) aO (.v (.one .aj)) (fun(bz:an) bo=>ab Tryz.prog 218 #[.string (⟨#[102,105,120]⟩:ByteArray),.slice bz.1 bz.2.1 bz.2.2] bo (.v (.one .str)) (fun(bn:ByteArray) bj=>K (.string bn) bj))))))
 (ao p0 302 (.agg [.raw,.raw]) (fun(ba:Value×Value×Unit)=>ak (.cells #[.nilIface,.nilIface] 302) w (fun g18 bu=>ar (ad g18) [ba.1,ba.2.1] bu (fun bh=>aD bh (fun bw=>aV (fun nt=>av nt ((ad g18).add 0) (ae .raw ((ad g18).add 0) bw (fun(cv:Value)=>av nt ((ad g18).add 1) (ae .raw ((ad g18).add 1) bw (fun(cm:Value)=>ab Tryz.prog 219 #[cv] bw (.v (.one .str)) (fun(bD:ByteArray) cn=>ai nt bw cn (ab Tryz.prog 219 #[cm] cn (.v (.one .str)) (fun(cA:ByteArray) bV=>ai nt cn bV (aA Tryz.prog (Instr.buildSlice 51 2 #[(0,.string bD),(1,.string cA)]) bV (.v (.one .aj)) (fun(cB:an) bS=>ai nt bV bS (ab Tryz.prog 218 #[.string (⟨#[97,100,100]⟩:ByteArray),.slice cB.1 cB.2.1 cB.2.2] bS (.v (.one .str)) (fun(bZ:ByteArray) cU=>ai nt bS cU (K (.string bZ) cU)))))))))))))))))
 (ao p0 304 (.agg [.raw]) (fun(dA:Value×Unit)=>ak (.cells #[.nilIface] 304) w (fun u7 dL=>ar (ad u7) [dA.1] dL (fun dd=>ae .raw ((ad u7).add 0) dd (fun(gP:Value)=>ab Tryz.prog 219 #[gP] dd (.v (.one .str)) (fun(dF:ByteArray) dO=>aA Tryz.prog (Instr.buildSlice 51 1 #[(0,.string dF)]) dO (.v (.one .aj)) (fun(iK:an) kA=>ab Tryz.prog 218 #[.string (⟨#[110,101,103]⟩:ByteArray),.slice iK.1 iK.2.1 iK.2.2] kA (.v (.one .str)) (fun(iA:ByteArray) jQ=>K (.string iA) jQ)))))))
 (ao p0 305 (.agg [.raw,.raw]) (fun(iY:Value×Value×Unit)=>ak (.cells #[.nilIface,.nilIface] 305) w (fun tz iy=>ar (ad tz) [iY.1,iY.2.1] iy (fun gI=>aD gI (fun gF=>aV (fun xh=>av xh ((ad tz).add 0) (ae .raw ((ad tz).add 0) gF (fun(iL:Value)=>av xh ((ad tz).add 1) (ae .raw ((ad tz).add 1) gF (fun(jx:Value)=>ab Tryz.prog 219 #[iL] gF (.v (.one .str)) (fun(qU:ByteArray) p8=>ai xh gF p8 (ab Tryz.prog 219 #[jx] p8 (.v (.one .str)) (fun(rP:ByteArray) gQ=>ai xh p8 gQ (aA Tryz.prog (Instr.buildSlice 51 2 #[(0,.string qU),(1,.string rP)]) gQ (.v (.one .aj)) (fun(j8:an) om=>ai xh gQ om (ab Tryz.prog 218 #[.string (⟨#[109,117,108]⟩:ByteArray),.slice j8.1 j8.2.1 j8.2.2] om (.v (.one .str)) (fun(oh:ByteArray) lV=>ai xh om lV (K (.string oh) lV)))))))))))))))))
 (ao p0 306 (.agg [.raw,.raw]) (fun(oc:Value×Value×Unit)=>ak (.cells #[.nilIface,.nilIface] 306) w (fun o0 jA=>ar (ad o0) [oc.1,oc.2.1] jA (fun tw=>aD tw (fun jy=>aV (fun xi=>av xi ((ad o0).add 0) (ae .raw ((ad o0).add 0) jy (fun(tA:Value)=>av xi ((ad o0).add 1) (ae .raw ((ad o0).add 1) jy (fun(o6:Value)=>ab Tryz.prog 219 #[tA] jy (.v (.one .str)) (fun(FJ:ByteArray) oo=>ai xi jy oo (ab Tryz.prog 219 #[o6] oo (.v (.one .str)) (fun(rZ:ByteArray) r6=>ai xi oo r6 (aA Tryz.prog (Instr.buildSlice 51 2 #[(0,.string FJ),(1,.string rZ)]) r6 (.v (.one .aj)) (fun(qa:an) qV=>ai xi r6 qV (ab Tryz.prog 218 #[.string (⟨#[109,97,120]⟩:ByteArray),.slice qa.1 qa.2.1 qa.2.2] qV (.v (.one .str)) (fun(xj:ByteArray) LI=>ai xi qV LI (K (.string xj) LI))))))))))))))))) False)))))
def pl219:aB:=(.seq .auto (.seq (.seq .auto (.block (.seq .auto (.cond .auto (.seq .auto (.cond .auto (.seq .auto (.cond (.seq .auto (.seq (.held (.soft 0 (.soft 1 (.soft 3 (.soft 4 (.pick 2 (.pick 5 (.pick 6 (.pick 7 (.soft 8 .done) .stop) .stop) .stop) .stop)))))) .auto)) (.seq .auto (.cond .auto (.seq .auto (.cond (.seq .auto (.seq (.held (.soft 0 (.soft 1 (.soft 3 (.soft 4 (.pick 2 (.pick 5 (.pick 6 (.pick 7 (.soft 8 .done) .stop) .stop) .stop) .stop)))))) .auto)) .auto)))))))))))) (.seq .auto (.seq (.held (.soft 0 (.soft 1 (.soft 3 (.soft 4 (.pick 2 (.pick 5 (.pick 6 (.pick 7 (.soft 8 .done) .stop) .stop) .stop) .stop)))))) .auto))))
theorem c219 (p0:Value)(w:World)(K:Value->World->Prop)(h:C219 p0 w K):Ret Tryz.prog 219 #[p0] w K:=aC (by kernel_rfl) Tryz.func219 (p:=pl219) (Eq.mpr (by kernel_rfl) h)
def C172 (p0:Value)(w:World)(K:Value->World->Prop):Prop:=
 ao p0 235 (.agg []) (fun(x1:Unit)=>ak (.cells #[] 235) w (fun g2 w3=>ar (ad g2) [] w3 (fun w4=>K (.string (⟨#[122,101,114,111]⟩:ByteArray)) w4)))
 (ao p0 216 (.agg [.str]) (fun(x5:ByteArray×Unit)=>ak (.cells #[.string (⟨#[]⟩:ByteArray)] 216) w (fun g6 w7=>ar (ad g6) [.string x5.1] w7 (fun w8=>ae .str ((ad g6).add 0) w8 (fun(x9:ByteArray)=>aA Tryz.prog (Instr.buildSlice 51 1 #[(0,.string x9)]) w8 (.v (.one .aj)) (fun(aQ:an) aO=>ab Tryz.prog 218 #[.string (⟨#[111,110,101]⟩:ByteArray),.slice aQ.1 aQ.2.1 aQ.2.2] aO (.v (.one .str)) (fun(bx:ByteArray) aY=>K (.string bx) aY))))))
 (ao p0 237 (.agg [.raw]) (fun(bg:Value×Unit)=>ak (.cells #[.nilIface] 237) w (fun g15 bj=>ar (ad g15) [bg.1] bj (fun cj=>ae .raw ((ad g15).add 0) cj (fun(bB:Value)=>ab Tryz.prog 172 #[bB] cj (.v (.one .str)) (fun(br:ByteArray) bh=>aA Tryz.prog (Instr.buildSlice 51 1 #[(0,.string br)]) bh (.v (.one .aj)) (fun(bY:an) bJ=>ab Tryz.prog 218 #[.string (⟨#[103,105,118,101]⟩:ByteArray),.slice bY.1 bY.2.1 bY.2.2] bJ (.v (.one .str)) (fun(cv:ByteArray) cg=>K (.string cv) cg)))))))
 (ao p0 239 (.agg [.raw,.raw]) (fun(bD:Value×Value×Unit)=>ak (.cells #[.nilIface,.nilIface] 239) w (fun zu eN=>ar (ad zu) [bD.1,bD.2.1] eN (fun bV=>aD bV (fun eD=>aV (fun xk=>av xk ((ad zu).add 0) (ae .raw ((ad zu).add 0) eD (fun(bZ:Value)=>av xk ((ad zu).add 1) (ae .raw ((ad zu).add 1) eD (fun(df:Value)=>ab Tryz.prog 172 #[bZ] eD (.v (.one .str)) (fun(dA:ByteArray) gJ=>ai xk eD gJ (ab Tryz.prog 172 #[df] gJ (.v (.one .str)) (fun(dv:ByteArray) dd=>ai xk gJ dd (aA Tryz.prog (Instr.buildSlice 51 2 #[(0,.string dA),(1,.string dv)]) dd (.v (.one .aj)) (fun(gP:an) ic=>ai xk dd ic (ab Tryz.prog 218 #[.string (⟨#[97,110,100]⟩:ByteArray),.slice gP.1 gP.2.1 gP.2.2] ic (.v (.one .str)) (fun(fk:ByteArray) dP=>ai xk ic dP (K (.string fk) dP)))))))))))))))))
 (ao p0 241 (.agg [.str,.raw,.raw]) (fun(eM:ByteArray×Value×Value×Unit)=>ak (.cells #[.string (⟨#[]⟩:ByteArray),.nilIface,.nilIface] 241) w (fun vc jQ=>ar (ad vc) [.string eM.1,eM.2.1,eM.2.2.1] jQ (fun gd=>aD gd (fun gr=>aV (fun iN=>av iN ((ad vc).add 0) (ae .str ((ad vc).add 0) gr (fun(dG:ByteArray)=>av iN ((ad vc).add 1) (ae .raw ((ad vc).add 1) gr (fun(fS:Value)=>av iN ((ad vc).add 2) (ae .raw ((ad vc).add 2) gr (fun(fD:Value)=>ab Tryz.prog 172 #[fS] gr (.v (.one .str)) (fun(iL:ByteArray) kB=>ai iN gr kB (ab Tryz.prog 172 #[fD] kB (.v (.one .str)) (fun(qU:ByteArray) p8=>ai iN kB p8 (aA Tryz.prog (Instr.buildSlice 51 3 #[(0,.string dG),(1,.string iL),(2,.string qU)]) p8 (.v (.one .aj)) (fun(rP:an) gQ=>ai iN p8 gQ (ab Tryz.prog 218 #[.string (⟨#[111,114]⟩:ByteArray),.slice rP.1 rP.2.1 rP.2.2] gQ (.v (.one .str)) (fun(j8:ByteArray) om=>ai iN gQ om (K (.string j8) om)))))))))))))))))))
 (ao p0 245 (.agg [.raw,.raw]) (fun(oh:Value×Value×Unit)=>ak (.cells #[.nilIface,.nilIface] 245) w (fun zv tv=>ar (ad zv) [oh.1,oh.2.1] tv (fun uS=>aD uS (fun jA=>aV (fun xl=>av xl ((ad zv).add 0) (ae .raw ((ad zv).add 0) jA (fun(zz:Value)=>av xl ((ad zv).add 1) (ae .raw ((ad zv).add 1) jA (fun(o7:Value)=>ab Tryz.prog 219 #[zz] jA (.v (.one .str)) (fun(tA:ByteArray) FL=>ai xl jA FL (ab Tryz.prog 172 #[o7] FL (.v (.one .str)) (fun(FJ:ByteArray) oo=>ai xl FL oo (aA Tryz.prog (Instr.buildSlice 51 2 #[(0,.string tA),(1,.string FJ)]) oo (.v (.one .aj)) (fun(rZ:an) r6=>ai xl oo r6 (ab Tryz.prog 218 #[.string (⟨#[115,99,97,108,101]⟩:ByteArray),.slice rZ.1 rZ.2.1 rZ.2.2] r6 (.v (.one .str)) (fun(qa:ByteArray) qV=>ai xl r6 qV (K (.string qa) qV)))))))))))))))))
 (ao p0 247 (.agg [.int .i64,.raw]) (fun(xj:Int×Value×Unit)=>ak (.cells #[.int .i64 0,.nilIface] 247) w (fun zA qW=>ar (ad zA) [.int .i64 xj.1,xj.2.1] qW (fun TO=>aD TO (fun mE=>aV (fun xm=>av xm ((ad zA).add 0) (ae (.int .i64) ((ad zA).add 0) mE (fun(FM:Int)=>av xm ((ad zA).add 1) (ae .raw ((ad zA).add 1) mE (fun(TP:Value)=>ab Tryz.prog 220 #[.int .i64 FM] mE (.v (.one .str)) (fun(qc:ByteArray) FN=>ai xm mE FN (ab Tryz.prog 172 #[TP] FN (.v (.one .str)) (fun(TQ:ByteArray) FO=>ai xm FN FO (aA Tryz.prog (Instr.buildSlice 51 2 #[(0,.string qc),(1,.string TQ)]) FO (.v (.one .aj)) (fun(vd:an) zB=>ai xm FO zB (ab Tryz.prog 218 #[.string (⟨#[119,104,101,110]⟩:ByteArray),.slice vd.1 vd.2.1 vd.2.2] zB (.v (.one .str)) (fun(TR:ByteArray) LJ=>ai xm zB LJ (K (.string TR) LJ)))))))))))))))))
 (ao p0 249 (.agg [.raw,.raw,.raw]) (fun(FP:Value×Value×Value×Unit)=>ak (.cells #[.nilIface,.nilIface,.nilIface] 249) w (fun ve FQ=>ar (ad ve) [FP.1,FP.2.1,FP.2.2.1] FQ (fun TS=>aD TS (fun se=>aV (fun tB=>av tB ((ad ve).add 0) (ae .raw ((ad ve).add 0) se (fun(TT:Value)=>av tB ((ad ve).add 1) (ae .raw ((ad ve).add 1) se (fun(zC:Value)=>av tB ((ad ve).add 2) (ae .raw ((ad ve).add 2) se (fun(TU:Value)=>ab Tryz.prog 219 #[TT] se (.v (.one .str)) (fun(zD:ByteArray) zE=>ai tB se zE (ab Tryz.prog 172 #[zC] zE (.v (.one .str)) (fun(zF:ByteArray) zG=>ai tB zE zG (ab Tryz.prog 172 #[TU] zG (.v (.one .str)) (fun(TW:ByteArray) zH=>ai tB zG zH (aA Tryz.prog (Instr.buildSlice 51 3 #[(0,.string zD),(1,.string zF),(2,.string TW)]) zH (.v (.one .aj)) (fun(qX:an) sg=>ai tB zH sg (ab Tryz.prog 218 #[.string (⟨#[105,102]⟩:ByteArray),.slice qX.1 qX.2.1 qX.2.2] sg (.v (.one .str)) (fun(zI:ByteArray) xn=>ai tB sg xn (K (.string zI) xn))))))))))))))))))))) False)))))))
def pl172:aB:=(.seq .auto (.seq (.seq .auto (.block (.seq .auto (.cond .auto (.seq .auto (.cond .auto (.seq .auto (.cond .auto (.seq .auto (.cond (.seq .auto (.seq (.held (.soft 0 (.soft 1 (.soft 3 (.soft 4 (.pick 2 (.pick 5 (.pick 6 (.pick 7 (.soft 8 .done) .stop) .stop) .stop) .stop)))))) .auto)) (.seq .auto (.cond (.seq .auto (.seq (.held (.soft 0 (.soft 1 (.soft 2 (.soft 3 (.soft 5 (.soft 6 (.pick 4 (.pick 7 (.pick 8 (.pick 9 (.soft 10 .done) .stop) .stop) .stop) .stop)))))))) .auto)) (.seq .auto (.cond (.seq .auto (.seq (.held (.soft 0 (.soft 1 (.soft 3 (.soft 4 (.pick 2 (.pick 5 (.pick 6 (.pick 7 (.soft 8 .done) .stop) .stop) .stop) .stop)))))) .auto)) (.seq .auto (.cond (.seq .auto (.seq (.held (.soft 0 (.soft 1 (.soft 3 (.soft 4 (.pick 2 (.pick 5 (.pick 6 (.pick 7 (.soft 8 .done) .stop) .stop) .stop) .stop)))))) .auto)) .auto)))))))))))))))) (.seq .auto (.seq (.held (.soft 0 (.soft 1 (.soft 3 (.soft 4 (.soft 6 (.soft 7 (.pick 2 (.pick 5 (.pick 8 (.pick 9 (.pick 10 (.soft 11 .done) .stop) .stop) .stop) .stop) .stop)))))))) .auto))))
theorem c172 (p0:Value)(w:World)(K:Value->World->Prop)(h:C172 p0 w K):Ret Tryz.prog 172 #[p0] w K:=aC (by kernel_rfl) Tryz.func172 (p:=pl172) (Eq.mpr (by kernel_rfl) h)
def C171 (p0:ByteArray)(w:World)(K:Value->World->Prop):Prop:=
 aa (decide ((p0.size:Int) > 1000))
 (K (.tuple #[.string (⟨#[]⟩:ByteArray),.int .i64 5]) w)
 (K (.tuple #[.string p0,.int .i64 0]) w)
def pl171:aB:=.auto
theorem c171 (p0:ByteArray)(w:World)(K:Value->World->Prop)(h:C171 p0 w K):Ret Tryz.prog 171 #[.string p0] w K:=aC (by kernel_rfl) Tryz.func171 (p:=pl171) (Eq.mpr (by kernel_rfl) h)
def C132 (p0:Value)(w:World)(K:Value->World->Prop):Prop:=
 ab Tryz.prog 170 #[p0] w (.v (.one (.int .i64))) (fun(x1:Int) w2=>aa (x1 != 0)
 (K (.tuple #[.string (⟨#[]⟩:ByteArray),.int .i64 x1]) w2)
 (ab Tryz.prog 172 #[p0] w2 (.v (.one .str)) (fun(x3:ByteArray) w4=>ab Tryz.prog 171 #[.string x3] w4 (.aN [.one .str,.one (.int .i64)]) (fun(x5:ByteArray×Int×Unit) w6=>K (.tuple #[.string x5.1,.int .i64 x5.2.1]) w6))))
def pl132:aB:=.auto
theorem c132 (p0:Value)(w:World)(K:Value->World->Prop)(h:C132 p0 w K):Ret Tryz.prog 132 #[p0] w K:=aC (by kernel_rfl) Tryz.func132 (p:=pl132) (Eq.mpr (by kernel_rfl) h)
def gS (wd:List UInt8)(xs:List (List UInt8)):List UInt8:=wd++[40]++Lib.join xs [44]++[41]
def gh:Ob->List UInt8
 | .none=>[]
 | .const n=>Lib.itoa n
 | .fix s=>gS [102,105,120] [s]
 | .add l r=>gS [97,100,100] [gh l,gh r]
 | .neg o=>gS [110,101,103] [gh o]
 | .mul l r=>gS [109,117,108] [gh l,gh r]
 | .max l r=>gS [109,97,120] [gh l,gh r]
def eh:Tm->List UInt8
 | .none=>[]
 | .zero=>[122,101,114,111]
 | .one s=>gS [111,110,101] [s]
 | .gG t=>gS [103,105,118,101] [eh t]
 | .and l r=>gS [97,110,100] [eh l,eh r]
 | .or s l r=>gS [111,114] [s,eh l,eh r]
 | .scale o t=>gS [115,99,97,108,101] [gh o,eh t]
 | .when d t=>gS [119,104,101,110] [Lib.itoa d,eh t]
 | .cond o l r=>gS [105,102] [gh o,eh l,eh r]
def bp (t:Tm):List UInt8×Int:=if jR t≠0 then([],jR t) else if 1000<(eh t).length then([],5) else(eh t,0)
theorem LK (a:List UInt8):Lib.join [a] [44]=a:=Lib.join_one _ _
theorem LL (a b:List UInt8):Lib.join [a,b] [44]=a++([44]++b):=by rw[Lib.join_cons];simp[Lib.joinTail]
theorem LM (a b c:List UInt8):Lib.join [a,b,c] [44]=a++([44]++b++([44]++c)):=by rw[Lib.join_cons];simp[Lib.joinTail]
theorem Ca (wd a:List UInt8):(gS wd [a]).length=wd.length+a.length+2:=by unfold gS;rw[LK];simp;omega
theorem xo (wd a b:List UInt8):(gS wd [a,b]).length=wd.length+a.length+b.length+3:=by unfold gS;rw[LL];simp;omega
theorem LN (wd a b c:List UInt8):(gS wd [a,b,c]).length=wd.length+a.length+b.length+c.length+4:=by unfold gS;rw[LM];simp;omega
theorem TX (l:List UInt8):(ib l).2<=4:=by
 simp only[ib,Utf8.decode]
 repeat' split
 all_goals simp
theorem FR:∀ (n:Nat) (l:List UInt8),l.length<=n->l.length<=4 * (cK l).length
 | 0,l,h=>by omega
 | n+1,l,h=>by
  by_cases hl:l=[]
  ·subst hl;simp
  ·rw[yU l hl,List.length_cons]
   have h1:=wR l;have h4:=TX l;have hd:(l.drop (ib l).2).length=l.length - (ib l).2:=List.length_drop;have:=FR n (l.drop (ib l).2) (by omega);omega
theorem FU:∀ (rs:List Int) (n:Nat),kv n rs=true->rs=[]\/n+rs.length<=12
 | [],_,_=>.inl rfl
 | r::rs,n,h=>by
  unfold kv at h;split at h
  ·cases h
  split at h
  ·cases h
  split at h
  ·cases h
  rcases FU rs (n+1) h with rfl | t
  ·simp;omega
  ·simp only[List.length_cons];omega
theorem Cb {s:List UInt8}(h:fm s=true):s.length<=48:=by
 have hb:=FR s.length s (Nat.le_refl _)
 rcases FU _ _ h with t | t
 ·rw[t,List.length_nil] at hb;omega
 ·omega
theorem FV:∀ (k u:Nat),u<10 ^ (k+1)->(Lib.decDigits u).length<=k+1
 | 0,u,h=>by rw[Lib.decDigits];rw[dif_pos (by omega)];simp
 | k+1,u,h=>by
  rw[Lib.decDigits];split
  ·simp
  ·rw[List.length_append]
   have:=FV k (u / 10) (by rw[Nat.pow_succ] at h;omega);simp;omega
theorem LO {n:Int}(h0:-1000000000000<=n)(h1:n<=1000000000000):(Lib.itoa n).length<=14:=by
 unfold Lib.itoa;split
 ·have:=FV 12 n.natAbs (by omega)
  simp;omega
 ·have:=FV 12 n.toNat (by omega)
  omega
theorem FW {n:Int}(h:cI n=true):-1000000000000<=n/\n<=1000000000000:=by
 unfold cI at h;simp only[Bool.and_eq_true,decide_eq_true_eq] at h;exact h
theorem FX (o:Ob)(h:cZ o=true):(gh o).length<=100 * bA o:=by
 induction o with
 | none=>cases h
 | const n=>have:=FW h;have:=LO this.1 this.2;unfold gh bA;omega
 | fix s=>have:=Cb h;unfold gh bA;rw[Ca];simp;omega
 | neg o ih=>have:=ih h;unfold gh bA;rw[Ca];simp;omega
 | add l r a b=>simp only[cZ,Bool.and_eq_true] at h;have:=a h.1;have:=b h.2;unfold gh bA;rw[xo];simp;omega
 | mul l r a b=>simp only[cZ,Bool.and_eq_true] at h;have:=a h.1;have:=b h.2;unfold gh bA;rw[xo];simp;omega
 | max l r a b=>simp only[cZ,Bool.and_eq_true] at h;have:=a h.1;have:=b h.2;unfold gh bA;rw[xo];simp;omega
theorem TY (t:Tm)(h:cJ t=true):(eh t).length<=100 * aK t:=by
 induction t with
 | none=>cases h
 | zero=>decide
 | one s=>have:=Cb h;unfold eh aK;rw[Ca];simp;omega
 | gG t ih=>have:=ih h;unfold eh aK;rw[Ca];simp;omega
 | and l r a b=>simp only[cJ,Bool.and_eq_true] at h;have:=a h.1;have:=b h.2;unfold eh aK;rw[xo];simp;omega
 | or s l r a b=>simp only[cJ,Bool.and_eq_true] at h;have:=Cb h.1;have:=a h.2.1;have:=b h.2.2;unfold eh aK;rw[LN];simp;omega
 | scale o t ih=>simp only[cJ,Bool.and_eq_true] at h;have:=FX o h.1;have:=ih h.2;unfold eh aK;rw[xo];simp;omega
 | when d t ih=>simp only[cJ,Bool.and_eq_true,decide_eq_true_eq] at h;have:=LO (n:=d) (by omega) (by omega);have:=ih h.2;unfold eh aK;rw[xo];simp;omega
 | cond o l r a b=>simp only[cJ,Bool.and_eq_true] at h;have:=FX o h.1;have:=a h.2.1;have:=b h.2.2;unfold eh aK;rw[LN];simp;omega
def TabW (w : World): Prop := Lib.TabIs Tryz.prog w "internal/strconv.uint64pow10" .u64 Lib.pow10Tab
theorem TabW.af {w w':World}(h:TabW w)(f:Fr none1 w w'):TabW w':=by
 unfold TabW Lib.TabIs World.var? at h ⊢;cases hg : Tryz.prog.globalNamed "internal/strconv.uint64pow10" with
 | none=>rw[hg] at h;cases h
 | some g=>
  rw[hg] at h;simp only[Option.bind_some] at h ⊢;split at h
  case h_1 cs T fr hb=>rw[f.af hb];exact h
  case h_2=>cases h
theorem TZ (w:World)(k:Nat)(os:Array Obj):Fr none1 w (Go.Sort.grow (w.drewN k) os):=by
 refine⟨rfl,rfl,rfl,?_,fun i hi _=>?_⟩
 ·show w.heap.size<=(w.heap++os).size
  rw[Array.size_append];omega
 ·show(w.heap++os)[i]? = _
  rw[Array.getElem?_append_left hi]
theorem LP (n:Int)(h0:-9223372036854775808<=n)(h1:n<=9223372036854775807)(w:World)(ht:TabW w):Ret Tryz.prog 220 #[.int .i64 n] w fun r w'=>r=.string (str (Lib.itoa n))/\Fr none1 w w':=by
 refine(Tryz.strconv_Itoa n h0 h1 w ht).mono ?_;rintro e w' ⟨rfl,k,os,rfl⟩;exact⟨_,rfl,rfl,TZ w k os⟩
theorem T0 {w w':World}(h:Go.RowKit.Below w.heap.size w w'):Fr none1 w w':=by
 obtain⟨a,b,c,d,e⟩:=h;exact⟨a,b,c,d,fun k hk _=>e k hk⟩
theorem o8 {w:World}{v:Sl}{xs:List (List UInt8)}(h:gH w v xs)(ay:xs≠[])(wd:List UInt8)(hl:(gS wd xs).length<=10000000):
  Ret Tryz.prog 218 #[.string (str wd),.slice v.1 v.2.1 v.2.2] w fun r w'=>r=.string (str (gS wd xs))/\Fr none1 w w':=by
 refine c218 (str wd) v.1 v.2.1 v.2.2 w _ ?_;have cO:=h.len;have hj:(gS wd xs).length=wd.length+1+(Lib.join xs [44]).length+1:=by unfold gS;simp;omega
 rcases h with⟨rfl,jM⟩ | ⟨g,off,cs,hv,hb,hle,wH,hn,he⟩
 ·rw[List.map_eq_nil_iff] at jM
  exact absurd jM ay
 rw[Nat.mul_one] at wH;rw[List.length_map] at hn;have LQ:(xs.map str).map (fun x:ByteArray=>x.data.toList)=xs:=by
  rw[List.map_map]
  conv=>rhs;rw[<- List.map_id xs]
  exact List.map_congr_left fun x _=>ku x
 have hlj:xs.length<=(Lib.join xs [44]).length+1:=by
  have h2:∀ l:List (List UInt8),l≠[]->l.length<=(Lib.join l [44]).length+1:=by
   intro l hl;cases l with
   | nil=>exact absurd rfl hl
   | cons x r=>rw[Lib.join_cons,List.length_append,Lib.joinTail_length];simp;omega
  exact h2 xs ay
 have hJ:=Tryz.strings_Join g off v.2.2 (xs.map str) (⟨#[44]⟩:ByteArray) w (fun j x hx=>by
   rw[pM hb];rw[List.getElem?_map] at hx;obtain⟨y,hy,rfl⟩:=Option.map_eq_some_iff.1 hx;have hj:=(List.getElem?_eq_some_iff.1 hy).1;rw[he j (by rw[List.length_map];exact hj),List.getElem?_map,hy];rfl) (bL hb) (by rw[List.length_map];omega) (by rw[List.length_map];omega) (by rw[LQ];show(Lib.join xs [44]).length<=_;omega)
 rw[LQ,List.length_map] at hJ;rw[hv];have sz:(str wd).size=wd.length:=dU wd;have e40:(⟨#[40]⟩:ByteArray)=str [40]:=rfl;have e41:(⟨#[41]⟩:ByteArray)=str [41]:=rfl;unfold C218;rw[e40,e41];have im:IntKind.i64.max=9223372036854775807:=rfl;refine⟨by rw[sz,dU,im];simp;omega,?_⟩;rw[cO];refine ab.of (R:=fun r w'=>r=.string (str (Lib.join xs [44]))/\Fr none1 w w') (hJ.mono ?_) ?_
 ·rintro e w' ⟨rfl,hB⟩
  exact⟨_,rfl,rfl,T0 hB⟩
 rintro _ w1 ⟨rfl,f1⟩;refine⟨_,rfl,?_⟩;rw[yS];refine⟨by rw[dU,dU,im];simp;omega,?_⟩;rw[yS];refine⟨by rw[dU,dU,im];simp;omega,?_⟩;rw[yS];exact⟨rfl,f1⟩
theorem o9 {w:World}(xs:List (List UInt8))(hl:xs.length<=100){K:Option Addr×Nat×Nat->World->Prop}(k:∀ (u:Sl) w',gH w' u xs->Fr none1 w w'->K u w'):
  aA Tryz.prog (Instr.buildSlice 51 xs.length (((xs.map sv).zipIdx.map fun(v,i)=>(i,v)).toArray)) w (.v (.one .aj)) (fun(x:Option Addr×Nat×Nat) w1=>K x w1):=by
 obtain⟨x,w1,hr,hx,kW,f1,hf⟩:=rN (P:=Tryz.prog) (w:=w) wY (xs.map sv) (by intro v hv;obtain⟨x,_,rfl⟩:=List.mem_map.1 hv;rfl) (by rw[List.length_map];omega);rw[List.length_map] at hr;exact⟨x,w1,hr,k x w1 hx f1⟩
theorem sh (o:Ob)(hf:cZ o=true)(hn:bA o<=10000)(w:World)(ht:TabW w):Ret Tryz.prog 219 #[o.v] w fun r w'=>r=.string (str (gh o))/\Fr none1 w w':=by
 refine c219 o.v w _ ?_;unfold C219;have hL:=FX o hf;cases o with
 | none=>cases hf
 | const n=>
  have hv:=FW hf;refine ao.hit (n,()) rfl (cM (zs:=[.int .i64 0]) (vs:=[.int .i64 n]) rfl rfl fun g w1 _ hb f1=>ae.ah hb (x:=n) rfl ?_);refine ab.of (LP n (by omega) (by omega) w1 (ht.af f1)) ?_;rintro _ w2 ⟨rfl,f2⟩;exact⟨_,rfl,rfl,f1.trans f2⟩
 | fix s=>
  refine ao.aM rfl (by decide) (ao.hit (str s,()) rfl (cM (zs:=[.string (⟨#[]⟩:ByteArray)]) (vs:=[.string (str s)]) rfl rfl fun g w1 _ hb f1=>ae.ah hb (x:=str s) rfl ?_));refine o9 (w:=w1) [s] (by simp) fun u w2 hu f2=>?_;refine ab.of (o8 hu (by simp) [102,105,120] (by unfold gh bA at hL;omega)) ?_;rintro _ w3 ⟨rfl,f3⟩;exact⟨_,rfl,rfl,(f1.trans f2).trans f3⟩
 | neg x=>
  have jS:bA x<=10000:=by unfold bA at hn;omega
  refine ao.aM rfl (by decide) (ao.aM rfl (by decide) (ao.aM rfl (by decide) (ao.hit (x.v,()) rfl (cM (zs:=[.nilIface]) (vs:=[x.v]) rfl (by simp[Ob.bW]) fun g w1 _ hb f1=>ae.ah (c:=.raw) hb (x:=x.v) rfl ?_))));refine ab.of (sh x hf jS w1 (ht.af f1)) ?_;rintro _ w2 ⟨rfl,f2⟩;refine⟨_,rfl,?_⟩;refine o9 (w:=w2) [gh x] (by simp) fun u w3 hu f3=>?_;refine ab.of (o8 hu (by simp) [110,101,103] (by unfold gh bA at hL;omega)) ?_;rintro _ w4 ⟨rfl,f4⟩;exact⟨_,rfl,rfl,((f1.trans f2).trans f3).trans f4⟩
 | add l r=>
  simp only[cZ,Bool.and_eq_true] at hf;have oq:bA l<=10000:=by unfold bA at hn;omega
  have qd:bA r<=10000:=by unfold bA at hn;omega
  refine ao.aM rfl (by decide) (ao.aM rfl (by decide) (ao.hit (l.v,r.v,()) rfl (cM (zs:=[.nilIface,.nilIface]) (vs:=[l.v,r.v]) rfl (by simp[Ob.bW]) fun g w1 _ hb f1=>?_)));refine aD.of fun w2 _ f2=>aV.all ?_;have aI:=f2.af hb;refine av.all (ae.ah (c:=.raw) aI (x:=l.v) rfl (av.all (ae.ah (c:=.raw) aI (x:=r.v) rfl ?_)));refine ab.of (sh l hf.1 oq w2 ((ht.af f1).af f2)) ?_;rintro _ w3 ⟨rfl,f3⟩;refine⟨_,rfl,ai.of f3 ?_⟩;refine ab.of (sh r hf.2 qd w3 (((ht.af f1).af f2).af f3)) ?_;rintro _ w4 ⟨rfl,f4⟩;refine⟨_,rfl,ai.of f4 ?_⟩;refine o9 (w:=w4) [gh l,gh r] (by simp) fun u w5 hu f5=>ai.of f5 ?_;refine ab.of (o8 hu (by simp) [97,100,100] (by unfold gh bA at hL;omega)) ?_;rintro _ w6 ⟨rfl,f6⟩;exact⟨_,rfl,ai.of f6 ⟨rfl,(f1.trans f2).trans (((f3.trans f4).trans f5).trans f6)⟩⟩
 | mul l r=>
  simp only[cZ,Bool.and_eq_true] at hf;have oq:bA l<=10000:=by unfold bA at hn;omega
  have qd:bA r<=10000:=by unfold bA at hn;omega
  refine ao.aM rfl (by decide) (ao.aM rfl (by decide) (ao.aM rfl (by decide) (ao.aM rfl (by decide) (ao.hit (l.v,r.v,()) rfl (cM (zs:=[.nilIface,.nilIface]) (vs:=[l.v,r.v]) rfl (by simp[Ob.bW]) fun g w1 _ hb f1=>?_)))));refine aD.of fun w2 _ f2=>aV.all ?_;have aI:=f2.af hb;refine av.all (ae.ah (c:=.raw) aI (x:=l.v) rfl (av.all (ae.ah (c:=.raw) aI (x:=r.v) rfl ?_)));refine ab.of (sh l hf.1 oq w2 ((ht.af f1).af f2)) ?_;rintro _ w3 ⟨rfl,f3⟩;refine⟨_,rfl,ai.of f3 ?_⟩;refine ab.of (sh r hf.2 qd w3 (((ht.af f1).af f2).af f3)) ?_;rintro _ w4 ⟨rfl,f4⟩;refine⟨_,rfl,ai.of f4 ?_⟩;refine o9 (w:=w4) [gh l,gh r] (by simp) fun u w5 hu f5=>ai.of f5 ?_;refine ab.of (o8 hu (by simp) [109,117,108] (by unfold gh bA at hL;omega)) ?_;rintro _ w6 ⟨rfl,f6⟩;exact⟨_,rfl,ai.of f6 ⟨rfl,(f1.trans f2).trans (((f3.trans f4).trans f5).trans f6)⟩⟩
 | max l r=>
  simp only[cZ,Bool.and_eq_true] at hf;have oq:bA l<=10000:=by unfold bA at hn;omega
  have qd:bA r<=10000:=by unfold bA at hn;omega
  refine ao.aM rfl (by decide) (ao.aM rfl (by decide) (ao.aM rfl (by decide) (ao.aM rfl (by decide) (ao.aM rfl (by decide) (ao.hit (l.v,r.v,()) rfl (cM (zs:=[.nilIface,.nilIface]) (vs:=[l.v,r.v]) rfl (by simp[Ob.bW]) fun g w1 _ hb f1=>?_))))));refine aD.of fun w2 _ f2=>aV.all ?_;have aI:=f2.af hb;refine av.all (ae.ah (c:=.raw) aI (x:=l.v) rfl (av.all (ae.ah (c:=.raw) aI (x:=r.v) rfl ?_)));refine ab.of (sh l hf.1 oq w2 ((ht.af f1).af f2)) ?_;rintro _ w3 ⟨rfl,f3⟩;refine⟨_,rfl,ai.of f3 ?_⟩;refine ab.of (sh r hf.2 qd w3 (((ht.af f1).af f2).af f3)) ?_;rintro _ w4 ⟨rfl,f4⟩;refine⟨_,rfl,ai.of f4 ?_⟩;refine o9 (w:=w4) [gh l,gh r] (by simp) fun u w5 hu f5=>ai.of f5 ?_;refine ab.of (o8 hu (by simp) [109,97,120] (by unfold gh bA at hL;omega)) ?_;rintro _ w6 ⟨rfl,f6⟩;exact⟨_,rfl,ai.of f6 ⟨rfl,(f1.trans f2).trans (((f3.trans f4).trans f5).trans f6)⟩⟩
theorem qY (t:Tm)(hf:cJ t=true)(hn:aK t<=10000)(w:World)(ht:TabW w):Ret Tryz.prog 172 #[t.v] w fun r w'=>r=.string (str (eh t))/\Fr none1 w w':=by
 refine c172 t.v w _ ?_;unfold C172;have hL:=TY t hf;cases t with
 | none=>cases hf
 | zero=>exact ao.hit () rfl (cM (zs:=[]) (vs:=[]) rfl rfl fun g w1 _ hb f1=>⟨rfl,f1⟩)
 | one s=>
  refine ao.aM rfl (by decide) (ao.hit (str s,()) rfl (cM (zs:=[.string (⟨#[]⟩:ByteArray)]) (vs:=[.string (str s)]) rfl rfl fun g w1 _ hb f1=>ae.ah hb (x:=str s) rfl ?_));refine o9 (w:=w1) [s] (by simp) fun u w2 hu f2=>?_;refine ab.of (o8 hu (by simp) [111,110,101] (by unfold eh aK at hL;omega)) ?_;rintro _ w3 ⟨rfl,f3⟩;exact⟨_,rfl,rfl,(f1.trans f2).trans f3⟩
 | gG x=>
  have jS:aK x<=10000:=by unfold aK at hn;omega
  refine ao.aM rfl (by decide) (ao.aM rfl (by decide) (ao.hit (x.v,()) rfl (cM (zs:=[.nilIface]) (vs:=[x.v]) rfl (by simp[Tm.bW]) fun g w1 _ hb f1=>ae.ah (c:=.raw) hb (x:=x.v) rfl ?_)));refine ab.of (qY x hf jS w1 (ht.af f1)) ?_;rintro _ w2 ⟨rfl,f2⟩;refine⟨_,rfl,?_⟩;refine o9 (w:=w2) [eh x] (by simp) fun u w3 hu f3=>?_;refine ab.of (o8 hu (by simp) [103,105,118,101] (by unfold eh aK at hL;omega)) ?_;rintro _ w4 ⟨rfl,f4⟩;exact⟨_,rfl,rfl,((f1.trans f2).trans f3).trans f4⟩
 | and l r=>
  simp only[cJ,Bool.and_eq_true] at hf;have oq:aK l<=10000:=by unfold aK at hn;omega
  have qd:aK r<=10000:=by unfold aK at hn;omega
  refine ao.aM rfl (by decide) (ao.aM rfl (by decide) (ao.aM rfl (by decide) (ao.hit (l.v,r.v,()) rfl (cM (zs:=[.nilIface,.nilIface]) (vs:=[l.v,r.v]) rfl (by simp[Tm.bW]) fun g w1 _ hb f1=>?_))));refine aD.of fun w2 _ f2=>aV.all ?_;have aI:=f2.af hb;refine av.all (ae.ah (c:=.raw) aI (x:=l.v) rfl (av.all (ae.ah (c:=.raw) aI (x:=r.v) rfl ?_)));refine ab.of (qY l hf.1 oq w2 ((ht.af f1).af f2)) ?_;rintro _ w3 ⟨rfl,f3⟩;refine⟨_,rfl,ai.of f3 ?_⟩;refine ab.of (qY r hf.2 qd w3 (((ht.af f1).af f2).af f3)) ?_;rintro _ w4 ⟨rfl,f4⟩;refine⟨_,rfl,ai.of f4 ?_⟩;refine o9 (w:=w4) [eh l,eh r] (by simp) fun u w5 hu f5=>ai.of f5 ?_;refine ab.of (o8 hu (by simp) [97,110,100] (by unfold eh aK at hL;omega)) ?_;rintro _ w6 ⟨rfl,f6⟩;exact⟨_,rfl,ai.of f6 ⟨rfl,(f1.trans f2).trans (((f3.trans f4).trans f5).trans f6)⟩⟩
 | or s l r=>
  simp only[cJ,Bool.and_eq_true] at hf;have oq:aK l<=10000:=by unfold aK at hn;omega
  have qd:aK r<=10000:=by unfold aK at hn;omega
  refine ao.aM rfl (by decide) (ao.aM rfl (by decide) (ao.aM rfl (by decide) (ao.aM rfl (by decide) (ao.hit (str s,l.v,r.v,()) rfl (cM (zs:=[.string (⟨#[]⟩:ByteArray),.nilIface,.nilIface]) (vs:=[.string (str s),l.v,r.v]) rfl (by simp[Tm.bW,oY]) fun g w1 _ hb f1=>?_)))));refine aD.of fun w2 _ f2=>aV.all ?_;have aI:=f2.af hb;refine av.all (ae.ah aI (x:=str s) rfl (av.all (ae.ah (c:=.raw) aI (x:=l.v) rfl (av.all (ae.ah (c:=.raw) aI (x:=r.v) rfl ?_)))));refine ab.of (qY l hf.2.1 oq w2 ((ht.af f1).af f2)) ?_;rintro _ w3 ⟨rfl,f3⟩;refine⟨_,rfl,ai.of f3 ?_⟩;refine ab.of (qY r hf.2.2 qd w3 (((ht.af f1).af f2).af f3)) ?_;rintro _ w4 ⟨rfl,f4⟩;refine⟨_,rfl,ai.of f4 ?_⟩;refine o9 (w:=w4) [s,eh l,eh r] (by simp) fun u w5 hu f5=>ai.of f5 ?_;refine ab.of (o8 hu (by simp) [111,114] (by unfold eh aK at hL;omega)) ?_;rintro _ w6 ⟨rfl,f6⟩;exact⟨_,rfl,ai.of f6 ⟨rfl,(f1.trans f2).trans (((f3.trans f4).trans f5).trans f6)⟩⟩
 | scale o x=>
  simp only[cJ,Bool.and_eq_true] at hf;have hZ:bA o<=10000:=by unfold aK at hn;omega
  have jS:aK x<=10000:=by unfold aK at hn;omega
  refine ao.aM rfl (by decide) (ao.aM rfl (by decide) (ao.aM rfl (by decide) (ao.aM rfl (by decide) (ao.aM rfl (by decide) (ao.hit (o.v,x.v,()) rfl (cM (zs:=[.nilIface,.nilIface]) (vs:=[o.v,x.v]) rfl (by simp[Tm.bW,Ob.bW]) fun g w1 _ hb f1=>?_))))));refine aD.of fun w2 _ f2=>aV.all ?_;have aI:=f2.af hb;refine av.all (ae.ah (c:=.raw) aI (x:=o.v) rfl (av.all (ae.ah (c:=.raw) aI (x:=x.v) rfl ?_)));refine ab.of (sh o hf.1 hZ w2 ((ht.af f1).af f2)) ?_;rintro _ w3 ⟨rfl,f3⟩;refine⟨_,rfl,ai.of f3 ?_⟩;refine ab.of (qY x hf.2 jS w3 (((ht.af f1).af f2).af f3)) ?_;rintro _ w4 ⟨rfl,f4⟩;refine⟨_,rfl,ai.of f4 ?_⟩;refine o9 (w:=w4) [gh o,eh x] (by simp) fun u w5 hu f5=>ai.of f5 ?_;refine ab.of (o8 hu (by simp) [115,99,97,108,101] (by unfold eh aK at hL;omega)) ?_;rintro _ w6 ⟨rfl,f6⟩;exact⟨_,rfl,ai.of f6 ⟨rfl,(f1.trans f2).trans (((f3.trans f4).trans f5).trans f6)⟩⟩
 | when d x=>
  simp only[cJ,Bool.and_eq_true,decide_eq_true_eq] at hf;have jS:aK x<=10000:=by unfold aK at hn;omega
  refine ao.aM rfl (by decide) (ao.aM rfl (by decide) (ao.aM rfl (by decide) (ao.aM rfl (by decide) (ao.aM rfl (by decide) (ao.aM rfl (by decide) (ao.hit (d,x.v,()) rfl (cM (zs:=[.int .i64 0,.nilIface]) (vs:=[.int .i64 d,x.v]) rfl (by simp[Tm.bW,pX]) fun g w1 _ hb f1=>?_)))))));refine aD.of fun w2 _ f2=>aV.all ?_;have aI:=f2.af hb;refine av.all (ae.ah aI (x:=d) rfl (av.all (ae.ah (c:=.raw) aI (x:=x.v) rfl ?_)));refine ab.of (LP d (by omega) (by omega) w2 ((ht.af f1).af f2)) ?_;rintro _ w3 ⟨rfl,f3⟩;refine⟨_,rfl,ai.of f3 ?_⟩;refine ab.of (qY x hf.2 jS w3 (((ht.af f1).af f2).af f3)) ?_;rintro _ w4 ⟨rfl,f4⟩;refine⟨_,rfl,ai.of f4 ?_⟩;refine o9 (w:=w4) [Lib.itoa d,eh x] (by simp) fun u w5 hu f5=>ai.of f5 ?_;refine ab.of (o8 hu (by simp) [119,104,101,110] (by unfold eh aK at hL;omega)) ?_;rintro _ w6 ⟨rfl,f6⟩;exact⟨_,rfl,ai.of f6 ⟨rfl,(f1.trans f2).trans (((f3.trans f4).trans f5).trans f6)⟩⟩
 | cond o l r=>
  simp only[cJ,Bool.and_eq_true] at hf;have hZ:bA o<=10000:=by unfold aK at hn;omega
  have oq:aK l<=10000:=by unfold aK at hn;omega
  have qd:aK r<=10000:=by unfold aK at hn;omega
  refine ao.aM rfl (by decide) (ao.aM rfl (by decide) (ao.aM rfl (by decide) (ao.aM rfl (by decide) (ao.aM rfl (by decide) (ao.aM rfl (by decide) (ao.aM rfl (by decide) (ao.hit (o.v,l.v,r.v,()) rfl (cM (zs:=[.nilIface,.nilIface,.nilIface]) (vs:=[o.v,l.v,r.v]) rfl (by simp[Tm.bW,Ob.bW]) fun g w1 _ hb f1=>?_))))))));refine aD.of fun w2 _ f2=>aV.all ?_;have aI:=f2.af hb;refine av.all (ae.ah (c:=.raw) aI (x:=o.v) rfl (av.all (ae.ah (c:=.raw) aI (x:=l.v) rfl (av.all (ae.ah (c:=.raw) aI (x:=r.v) rfl ?_)))));refine ab.of (sh o hf.1 hZ w2 ((ht.af f1).af f2)) ?_;rintro _ w3 ⟨rfl,f3⟩;refine⟨_,rfl,ai.of f3 ?_⟩;refine ab.of (qY l hf.2.1 oq w3 (((ht.af f1).af f2).af f3)) ?_;rintro _ w4 ⟨rfl,f4⟩;refine⟨_,rfl,ai.of f4 ?_⟩;refine ab.of (qY r hf.2.2 qd w4 ((((ht.af f1).af f2).af f3).af f4)) ?_;rintro _ w5 ⟨rfl,f5⟩;refine⟨_,rfl,ai.of f5 ?_⟩;refine o9 (w:=w5) [gh o,eh l,eh r] (by simp) fun u w6 hu f6=>ai.of f6 ?_;refine ab.of (o8 hu (by simp) [105,102] (by unfold eh aK at hL;omega)) ?_;rintro _ w7 ⟨rfl,f7⟩;exact⟨_,rfl,ai.of f7 ⟨rfl,(f1.trans f2).trans ((((f3.trans f4).trans f5).trans f6).trans f7)⟩⟩
theorem T1 (s:List UInt8)(w:World):Ret Tryz.prog 171 #[.string (str s)] w fun r w'=>r=.tuple #[.string (str (if 1000<s.length then[] else s)),.int .i64 (if 1000<s.length then 5 else 0)]/\w=w':=by
 refine c171 (str s) w _ ?_;unfold C171;rw[dU];refine aa.dec (fun h=>?_) (fun h=>?_)
 ·rw[if_pos (by omega),if_pos (by omega)];exact⟨rfl,rfl⟩
 ·rw[if_neg (by omega),if_neg (by omega)];exact⟨rfl,rfl⟩
theorem FY {t:Tm}(h:jR t=0):cJ t=true/\aK t<=60/\cC t<=12:=by
 unfold jR at h
 repeat' split at h
 all_goals first | (exact absurd h (by decide)) | skip
 rename_i h1 h2 h3 _;exact⟨by simpa using h1,by omega,by omega⟩
theorem Cc (t:Tm)(hn:aK t<=1000000)(w:World)(ht:TabW w):Ret Tryz.prog 132 #[t.v] w fun r w'=>r=.tuple #[.string (str (bp t).1),.int .i64 (bp t).2]/\Fr none1 w w':=by
 refine c132 t.v w _ ?_;refine ab.of (FH t hn w) ?_;rintro _ w1 ⟨rfl,f1⟩;unfold bp;refine⟨_,rfl,aa.ne (fun h=>?_) (fun h=>?_)⟩
 ·rw[if_pos h];exact⟨rfl,f1⟩
 rw[if_neg (fun t=>t h)];have hc:=FY h;refine ab.of (qY t hc.1 (by omega) w1 (ht.af f1)) ?_;rintro _ w2 ⟨rfl,f2⟩;refine⟨_,rfl,?_⟩;have Cd:=T1 (eh t) w2
 by_cases hl:1000<(eh t).length
 ·rw[if_pos hl,if_pos hl] at Cd
  rw[if_pos hl];refine ab.of Cd ?_;rintro _ _ ⟨rfl,rfl⟩;exact⟨(str [],5,()),rfl,rfl,f1.trans f2⟩
 ·rw[if_neg hl,if_neg hl] at Cd
  rw[if_neg hl];refine ab.of Cd ?_;rintro _ _ ⟨rfl,rfl⟩;exact⟨(str (eh t),0,()),rfl,rfl,f1.trans f2⟩
def kd (r:Int):Int:=if isLet r then 97 else if r=45 then 97 else if r=40 then 40 else if r=41 then 40 else if r=44 then 40 else if r=32 then 32 else 0
theorem T2 (r:Int)(w:World):Ret Tryz.prog 299 #[.int .i32 r] w fun v w'=>v=.int .u8 (kd r)/\w=w':=by
 refine c299 r w _ ?_;refine ab.of (K8 r w) ?_;rintro _ _ ⟨rfl,rfl⟩;refine⟨_,rfl,?_⟩;unfold kd;refine aa.by (fun h1=>?_) (fun h1=>?_)
 ·rw[if_pos h1];exact⟨rfl,rfl⟩
 rw[if_neg (by simp[h1])];refine aa.eq (fun h=>?_) (fun h=>?_)
 ·rw[if_pos h];exact⟨rfl,rfl⟩
 rw[if_neg h];refine aa.eq (fun h=>?_) (fun h=>?_)
 ·rw[if_pos h];exact⟨rfl,rfl⟩
 rw[if_neg h];refine aa.eq (fun h=>?_) (fun h=>?_)
 ·rw[if_pos h];exact⟨rfl,rfl⟩
 rw[if_neg h];refine aa.eq (fun h=>?_) (fun h=>?_)
 ·rw[if_pos h];exact⟨rfl,rfl⟩
 rw[if_neg h];refine aa.eq (fun h=>?_) (fun h=>?_)
 ·rw[if_pos h];exact⟨rfl,rfl⟩
 rw[if_neg h];exact⟨rfl,rfl⟩
abbrev dM:=List UInt8×Int
def nv (l:List dM):List Value:=l.flatMap fun x=>[.string (str x.1),.int .i64 x.2]
theorem vg (l:List dM):(nv l).length=l.length * 2:=by
 induction l with
 | nil=>rfl
 | cons x l ih=>unfold nv at *;rw[List.flatMap_cons,List.length_append,ih];simp;omega
theorem FZ (a b:List dM):nv (a++b)=nv a++nv b:=by unfold nv;rw[List.flatMap_append]
theorem LR:∀ (l:List dM) (i:Nat) (x:dM),l[i]? = some x->(nv l)[i * 2]? = some (.string (str x.1))/\(nv l)[i * 2+1]? = some (.int .i64 x.2)
 | [],i,x,h=>by simp at h
 | y::l,0,x,h=>by
  simp at h;subst h;exact⟨rfl,rfl⟩
 | y::l,i+1,x,h=>by
  have:=LR l i x (by simpa using h);rw[show(i+1) * 2=i * 2+2 by omega,show i * 2+2+1=i * 2+1+2 by omega];exact this
theorem LS:iw Tryz.prog 408 451 2 (.agg #[.string ByteArray.empty,.int .i64 0]) 24:=⟨Tryz.underlying408,⟨Tryz.t451,by kernel_rfl,rfl,rfl,rfl⟩,rfl,by decide⟩
structure nx (w:World)(v:Sl)(l:List dM):Prop where
 sl:aF w 451 2 v (nv l)
 len:v.2.1=l.length
theorem nx.ag {w w':World}{v:Sl}{l:List dM}(h:nx w v l){S:Nat->Prop}(f:Fr S w w')(hn:∀ k,aw v k->¬ S k):nx w' v l:=⟨h.sl.ag f hn,h.len⟩
theorem Ga (w:World):nx w (none,0,0) []:=⟨.inl ⟨rfl,rfl⟩,rfl⟩
theorem T3 {w:World}{v:Sl}{l:List dM}(h:nx w v l)(x:List UInt8)(at_:Int)(hl:l.length<=10000000){K:Sl->World->Prop}
  (hK:∀ y w',nx w' y (l++[(x,at_)])->Fr (aw v) w w'->(∀ k,aw y k->aw v k\/w.heap.size<=k)->K y w') :
  aA Tryz.prog (Instr.buildSlice 408 1 #[(0,.agg #[.string (str x),.int .i64 at_])]) w (.v (.one .aj)) fun(y:Option Addr×Nat×Nat) w'=>
   aA Tryz.prog (Builtin.append_ #[408,408] 408 #[.slice v.1 v.2.1 v.2.2,.slice y.1 y.2.1 y.2.2]) w' (.v (.one .aj)) fun(u:Option Addr×Nat×Nat) nW=>K u nW:=by
 obtain⟨y,w1,r1,hy,iH,f1,yf⟩:=EO (w:=w) LS 1 #[(0,.agg #[.string (str x),.int .i64 at_])] #[.string (str x),.int .i64 at_] (by omega) (by
  simp[Instr.fill,Value.cells];refine Array.ext (by simp) fun i h1 h2=>?_;have:i=0\/i=1:=by simp at h2;omega
  rcases this with t | t<;>subst t<;>simp) rfl
 refine⟨y,w1,r1,?_⟩;have cO:=h.len;obtain⟨z,w2,r2,hz,hzl,f2,zf⟩:=gE LS 408 (h.sl.af f1) hy.rd (by intro v hv;simp at hv;rcases hv with rfl | rfl<;>rfl) (by rw[iH,cO];omega)
 refine⟨z,w2,r2,hK z w2 ⟨?_,?_⟩ (f1.eL f2) fun k hk=>?_⟩
 ·rw[FZ];exact hz
 ·rw[hzl,iH,cO,List.length_append];rfl
 ·rcases zf k hk with t | t
  ·exact .inl t
  ·exact .inr (Nat.le_trans f1.size t)
theorem Ce {w:World}{v:Sl}{l:List dM}(h:nx w v l){i:Int}(h0:0<=i)(h1:i<v.2.1){x:dM}(hx:l[i.toNat]? = some x){K:Addr->Prop}
  (hK:∀ a:Addr,(∀ (K:ByteArray->Prop),K (str x.1)->ae .str (a.add 0) w K)->(∀ (K:Int->Prop),K x.2->ae (.int .i64) (a.add 1) w K)->(∀ (K:ByteArray×Int×Unit->Prop),K (str x.1,x.2,())->aq [.str,.int .i64] a w K)->K a):bQ v.1 v.2.1 i 2 K:=by
 obtain⟨hs,hl⟩:=h;obtain⟨c1,c2⟩:=LR l i.toNat x hx
 rcases hs with⟨rfl,jM⟩ | ⟨g,off,cs,hv,hb,hle,hc,hn,he⟩
 ·dsimp only at h1;omega
 ·refine⟨_,hv,h0,h1,?_⟩
  rw[dT];have hlen:=vg l;have hi:i.toNat<l.length:=by omega
  have e0:w.cell? (⟨g,off+i.toNat * 2,none⟩:Addr)=some (.string (str x.1)):=by
   rw[pM hb,he _ (by omega)];exact c1
  have e1:w.cell? (⟨g,off+i.toNat * 2+1,none⟩:Addr)=some (.int .i64 x.2):=by
   rw[pM hb,show off+i.toNat * 2+1=off+(i.toNat * 2+1) by omega,he _ (by omega)];exact c2
  have a0:((⟨g,off+i.toNat * 2,none⟩:Addr).add 0)=⟨g,off+i.toNat * 2,none⟩:=by rw[dT];rfl
  have a1:((⟨g,off+i.toNat * 2,none⟩:Addr).add 1)=⟨g,off+i.toNat * 2+1,none⟩:=by rw[dT]
  refine hK _ (fun K k=>ae.cell (by rw[a0];exact e0) k) (fun K k=>ae.cell (by rw[a1];exact e1) k) (fun K k=>⟨_,⟨by rw[a0];exact e0,by rw[a1];exact e1,trivial⟩,k⟩)
def qZ (l:List dM)(x:List UInt8):List dM:=l.dropLast++[((l.getLastD ([],0)).1++x,(l.getLastD ([],0)).2)]
theorem LU (l:List dM)(h:l≠[]):∃ a y,l=a++[y]:=⟨l.dropLast,l.getLast h,(List.dropLast_concat_getLast h).symm⟩
theorem Gb (a:List dM)(y:dM)(x:List UInt8):qZ (a++[y]) x=a++[(y.1++x,y.2)]:=by
 unfold qZ;simp
theorem T4 {w:World}{v:Sl}{a:List dM}{y:dM}(h:nx w v (a++[y]))(x:List UInt8){i:Int}(hi:i=(v.2.1:Int) - 1)(hsz:y.1.length+x.length<=1000000000000){K:World->Prop}
  (hK:∀ w',nx w' v (a++[(y.1++x,y.2)])->Fr (aw v) w w'->K w') :
  bQ v.1 v.2.1 i 2 (fun p=>ae .str (p.add 0) w fun t=>v7 t (Utf8.encode 0 |> fun _=>str x) (bQ v.1 v.2.1 i 2 fun q=>az (q.add 0) (.string (t++str x)) w K)):=by
 have hl:=h.len;rw[List.length_append,List.length_singleton] at hl;refine Ce h (x:=y) (by omega) (by omega) (by rw[show i.toNat=a.length by omega];simp) fun p h0 h1 h2=>?_;refine h0 _ ?_;refine⟨by rw[dU,dU];show((y.1.length+x.length:Nat):Int)<=9223372036854775807;omega,?_⟩;rw[yS];obtain⟨hs,_⟩:=h
 rcases hs with⟨rfl,jM⟩ | ⟨g,off,cs,hv,hb,hle,hc,hn,he⟩
 ·dsimp only at hl;omega
 ·refine⟨_,hv,by omega,by omega,?_⟩
  rw[dT,dT];have hlen:=vg (a++[y]);have Cf:=vg a;rw[List.length_append,List.length_singleton] at hlen;have hit:i.toNat=a.length:=by omega
  refine az.of hb (by omega) rfl fun w1 au f1 kq=>hK w1 ⟨.inr ⟨g,off,_,hv,au,hle,by simpa using hc,?_,fun j hj=>?_⟩,by rw[List.length_append,List.length_singleton];omega⟩ (f1.mono fun k _ hk=>⟨_,hv,hk⟩)
  ·rw[vg,List.length_append,List.length_singleton];omega
  ·rw[vg,List.length_append,List.length_singleton] at hj
   rw[hit,Array.getElem?_setIfInBounds,FZ];have Cg:=he j (by omega);rw[FZ] at Cg
   by_cases LV:j<(nv a).length
   ·rw[if_neg (by omega),Cg,List.getElem?_append_left LV,List.getElem?_append_left LV]
   ·rw[List.getElem?_append_right (by omega)] at Cg ⊢
    by_cases h0:j - (nv a).length=0
    ·rw[if_pos (by omega),if_pos (by omega),h0];rfl
    ·rw[if_neg (by omega),Cg]
     have:j - (nv a).length=1:=by omega
     rw[this];rfl
def eS (acc:List dM)(at_:Int)(run:Bool):List Int->List dM×Int
 | []=>(acc,0)
 | r::rs=>if kd r=0 then([],at_+1) else if kd r=97/\run=true then eS (qZ acc (enc r)) (at_+1) true rs else
   if kd r≠32 then eS (acc++[(enc r,at_+1)]) (at_+1) (kd r==97) rs else eS acc (at_+1) false rs
def reads (rs:List Int):Nat:=(rs.takeWhile fun r=>kd r != 0).length
theorem T5 (bs:List UInt8)(w:World)(hb:reads (cK bs)<=1000000):Ret Tryz.prog 271 #[.string (str bs)] w fun v w'=>
  ∃ sl:Sl,v=.tuple #[.slice sl.1 sl.2.1 sl.2.2,.int .i64 (eS [] 0 false (cK bs)).2]/\nx w' sl (eS [] 0 false (cK bs)).1/\Fr none1 w w'/\∀ k,aw sl k->w.heap.size<=k:=by
 refine c271 _ w _ ?_;refine BV bs fun r w1 hr hit f1=>?_;have F0:Fr (only r) w1 w1:=Fr.refl _ _;have s1:=f1.size;refine bC.of (fun s w'=>∃ (acc:List dM) (rest:List Int),0<=s.2.1/\s.2.1+reads rest<=1000000/\nx w' s.1 acc/\(∀ k,aw s.1 k->w.heap.size<k)/\(s.2.2.1=true->acc≠[])/\acc.length<=s.2.1/\(∀ y∈acc,(y.1.length:Int)<=4 * s.2.1)/\jL w' r rest/\Fr none1 w w'/\eS acc s.2.1 s.2.2.1 rest=eS [] 0 false (cK bs)) (fun _ w'=>ni w' r)
  ⟨[],_,Int.le_refl _,by dsimp only;omega,Ga _,(fun k ⟨a,ha,_⟩=>by cases ha),(fun t=>by cases t),by simp,(fun y hy=>by simp at hy),hit,f1,rfl⟩ ?_
 rintro _ ⟨v,at_,run,_⟩ w2 ⟨acc,rest,h0,EB,hv,iM,iv,Cf,zJ,qP,f2,heq⟩;dsimp only at h0 EB hv iM iv Cf zJ heq ⊢;refine BU qP (fun c lT pos w3 hc j7 pO f3=>?_) (fun jM=>?_)
 ·subst hc
  have pP:Fr none1 w w3:=f2.fresh f3 (by omega);have qR:=hv.ag f3 (fun k hk t=>by have:=iM k hk;have:k=r:=t;omega);refine ab.of (T2 c w3) ?_;rintro _ _ ⟨rfl,rfl⟩;refine⟨_,rfl,?_⟩;have ml:∀ w4,jL w4 r lT->ni w4 r<ni w2 r:=fun w4 h4=>by rw[h4.left,qP.left];simp
  have T6:eS acc at_ run (c::lT)=if kd c=0 then([],at_+1) else if kd c=97/\run=true then eS (qZ acc (enc c)) (at_+1) true lT else
   if kd c≠32 then eS (acc++[(enc c,at_+1)]) (at_+1) (kd c==97) lT else eS acc (at_+1) false lT:=rfl
  rw[T6] at heq;have e1:IntKind.i64.wrap (at_+1)=at_+1:=wI (by omega) (by omega);rw[e1];refine aa.eq (fun jv=>?_) (fun jv=>?_)
  ·rw[if_pos jv] at heq
   rw[<- heq];exact⟨(none,0,0),rfl,Ga _,pP,fun k ⟨a,ha,_⟩=>by cases ha⟩
  rw[if_neg jv] at heq;have yG:at_+1+reads lT<=1000000:=by
   have:reads (c::lT)=reads lT+1:=by
    unfold reads;rw[List.takeWhile_cons_of_pos (by simpa using jv)];rfl
   omega
  have BP:=K4 c;refine cy.of (fun b w'=>w3=w'/\b.1=(decide (kd c=97)&&run)) ?_ ?_
  ·refine aa.eq (fun h=>?_) (fun h=>?_)
   ·exact⟨rfl,by rw[decide_eq_true h,Bool.true_and]⟩
   ·exact⟨rfl,by rw[decide_eq_false h,Bool.false_and]⟩
  rintro _ ⟨b,_⟩ _ ⟨rfl,LW⟩;dsimp only at LW ⊢;subst LW;refine aa.by (fun Gc=>?_) (fun Gc=>?_)
  ·have Gd:kd c=97/\run=true:=by simpa using Gc
   obtain⟨ha,zK⟩:=Gd;rw[if_pos ⟨ha,zK⟩] at heq;obtain⟨a,y,rfl⟩:=LU acc (iv zK);rw[Gb] at heq;have cO:=hv.len;rw[List.length_append,List.length_singleton] at cO;have hy4:=zJ y (by simp);rw[wI (x:=(v.2.1:Int) - 1) (by omega) (by simp at Cf;omega)];rw[E4];refine T4 qR (enc c) rfl (by omega) fun w4 T7 f4=>?_;have Ge:∀ k,aw v k->k≠r:=fun k hk=>by have:=iM k hk;omega
   have tn:=pO.ag f4 (fun t=>Ge r t rfl);refine⟨⟨_,lT,by omega,yG,T7,iM,fun _=>by simp,by simp at Cf ⊢;omega,fun z hz=>?_,tn,pP.comp f4 (fun k hk t=>by have:=iM k t;omega),?_⟩,ml w4 tn⟩
   ·rcases List.mem_append.1 hz with hz | hz
    ·have:=zJ z (by simp[hz]);omega
    ·simp at hz;subst hz
     simp only[List.length_append];omega
   ·rw[ha];exact heq
  ·have Gd:¬ (kd c=97/\run=true):=by simpa using Gc
   rw[if_neg Gd] at heq;refine aa.ne (fun zL=>?_) (fun zL=>?_)
   ·rw[if_pos zL] at heq
    rw[E4];refine T3 qR (enc c) (at_+1) (by omega) fun u w4 hu f4 uf=>?_;have Ge:∀ k,aw v k->k≠r:=fun k hk=>by have:=iM k hk;omega
    have tn:=pO.ag f4 (fun t=>Ge r t rfl);have s3:=pO.lt;refine⟨⟨_,lT,by omega,yG,hu,fun k hk=>?_,fun _=>by simp,by simp;omega,fun z hz=>?_,tn,pP.comp f4 (fun k hk t=>by have:=iM k t;omega),heq⟩,ml w4 tn⟩
    ·rcases uf k hk with t | t
     ·exact iM k t
     ·omega
    ·rcases List.mem_append.1 hz with hz | hz
     ·have:=zJ z hz;omega
     ·simp at hz;subst hz
      dsimp only;omega
   ·rw[if_neg (by simp[zL])] at heq
    refine⟨⟨acc,lT,by omega,yG,qR,iM,fun t=>?_,by omega,fun z hz=>?_,pO,pP,?_⟩,ml w3 pO⟩
    ·rw[zL] at t;simp at t
    ·have:=zJ z hz;omega
    ·rw[zL];exact heq
 ·subst jM
  rw[<- heq];exact⟨v,rfl,hv,f2,fun k hk=>by have:=iM k hk;omega⟩
def C319 (p0:ByteArray)(p1:ByteArray)(w:World)(K:Value->World->Prop):Prop:=
 ab Tryz.prog 329 #[.string p0,.string p1] w (.v (.one .str)) (fun(x1:ByteArray) w2=>K (.string x1) w2)
def pl319:aB:=.auto
theorem c319 (p0:ByteArray)(p1:ByteArray)(w:World)(K:Value->World->Prop)(h:C319 p0 p1 w K):Ret Tryz.prog 319 #[.string p0,.string p1] w K:=aC (by kernel_rfl) Tryz.func319 (p:=pl319) (Eq.mpr (by kernel_rfl) h)
def C329 (p0:ByteArray)(p1:ByteArray)(w:World)(K:Value->World->Prop):Prop:=
 ab Tryz.prog 343 #[.string p0,.string p1] w (.v (.one .bool)) (fun(x1:Bool) w2=>aa x1
 (uq p0 (p1.size:Int) p0.size (fun x3=>K (.string x3) w2))
 (K (.string p0) w2))
def pl329:aB:=.auto
theorem c329 (p0:ByteArray)(p1:ByteArray)(w:World)(K:Value->World->Prop)(h:C329 p0 p1 w K):Ret Tryz.prog 329 #[.string p0,.string p1] w K:=aC (by kernel_rfl) Tryz.func329 (p:=pl329) (Eq.mpr (by kernel_rfl) h)
def C343 (p0:ByteArray)(p1:ByteArray)(w:World)(K:Value->World->Prop):Prop:=
 aa (decide ((p0.size:Int) >= (p1.size:Int)))
 (uq p0 0 (p1.size:Int) (fun x1=>K (.bool (x1.toList==p1.toList)) w))
 (K (.bool false) w)
def pl343:aB:=.auto
theorem c343 (p0:ByteArray)(p1:ByteArray)(w:World)(K:Value->World->Prop)(h:C343 p0 p1 w K):Ret Tryz.prog 343 #[.string p0,.string p1] w K:=aC (by kernel_rfl) Tryz.func343 (p:=pl343) (Eq.mpr (by kernel_rfl) h)
def C320 (p0:ByteArray)(p1:ByteArray)(w:World)(K:Value->World->Prop):Prop:=
 aa (p0.toList==(⟨#[]⟩:ByteArray).toList)
 (K (.string p0) w)
 (aa (p1.toList==(⟨#[]⟩:ByteArray).toList)
 (K (.string p0) w)
 (cy (Bool×Unit) (fun J1=>aa ((p1.size:Int)==1)
 (oM p1 0 (fun x4=>J1 (decide (x4<128),()) w))
 (J1 (false,()) w))
 (fun _ s2 w3=>aa s2.1
 (oN w3 (fun C5=>oM p1 0 (fun x6=>gn C5 3 [] (.v (.one .str)) (fun w8 k9=>ab Tryz.prog 331 #[.string p0,.int .u8 x6] w8 (.v (.one .str)) (fun(aQ:ByteArray) aO=>k9 (.string aQ) aO))
 (fun(x7:ByteArray)=>oM p1 0 (fun bx=>gn C5 6 [3] (.v (.one .str)) (fun bo T8=>ab Tryz.prog 330 #[.string x7,.int .u8 bx] bo (.v (.one .str)) (fun(aS:ByteArray) cj=>T8 (.string aS) cj))
 (fun(bz:ByteArray)=>(∀ bt,C5 (mem [3,6]) bt->K (.string bz) bt)))))))
 (ab Tryz.prog 332 #[.string p1] w3 (.aN [.arr,.one .bool]) (fun(br:List Value×Bool×Unit) bh=>ak (.cells #[.bool false,.bool false,.bool false,.bool false,.bool false,.bool false,.bool false,.bool false,.bool false,.bool false,.bool false,.bool false,.bool false,.bool false,.bool false,.bool false,.bool false,.bool false,.bool false,.bool false,.bool false,.bool false,.bool false,.bool false,.bool false,.bool false,.bool false,.bool false,.bool false,.bool false,.bool false,.bool false,.bool false,.bool false,.bool false,.bool false,.bool false,.bool false,.bool false,.bool false,.bool false,.bool false,.bool false,.bool false,.bool false,.bool false,.bool false,.bool false,.bool false,.bool false,.bool false,.bool false,.bool false,.bool false,.bool false,.bool false,.bool false,.bool false,.bool false,.bool false,.bool false,.bool false,.bool false,.bool false,.bool false,.bool false,.bool false,.bool false,.bool false,.bool false,.bool false,.bool false,.bool false,.bool false,.bool false,.bool false,.bool false,.bool false,.bool false,.bool false,.bool false,.bool false,.bool false,.bool false,.bool false,.bool false,.bool false,.bool false,.bool false,.bool false,.bool false,.bool false,.bool false,.bool false,.bool false,.bool false,.bool false,.bool false,.bool false,.bool false,.bool false,.bool false,.bool false,.bool false,.bool false,.bool false,.bool false,.bool false,.bool false,.bool false,.bool false,.bool false,.bool false,.bool false,.bool false,.bool false,.bool false,.bool false,.bool false,.bool false,.bool false,.bool false,.bool false,.bool false,.bool false,.bool false,.bool false,.bool false,.bool false,.bool false,.bool false,.bool false,.bool false,.bool false,.bool false,.bool false,.bool false,.bool false,.bool false,.bool false,.bool false,.bool false,.bool false,.bool false,.bool false,.bool false,.bool false,.bool false,.bool false,.bool false,.bool false,.bool false,.bool false,.bool false,.bool false,.bool false,.bool false,.bool false,.bool false,.bool false,.bool false,.bool false,.bool false,.bool false,.bool false,.bool false,.bool false,.bool false,.bool false,.bool false,.bool false,.bool false,.bool false,.bool false,.bool false,.bool false,.bool false,.bool false,.bool false,.bool false,.bool false,.bool false,.bool false,.bool false,.bool false,.bool false,.bool false,.bool false,.bool false,.bool false,.bool false,.bool false,.bool false,.bool false,.bool false,.bool false,.bool false,.bool false,.bool false,.bool false,.bool false,.bool false,.bool false,.bool false,.bool false,.bool false,.bool false,.bool false,.bool false,.bool false,.bool false,.bool false,.bool false,.bool false,.bool false,.bool false,.bool false,.bool false,.bool false,.bool false,.bool false,.bool false,.bool false,.bool false,.bool false,.bool false,.bool false,.bool false,.bool false,.bool false,.bool false,.bool false,.bool false,.bool false,.bool false,.bool false,.bool false,.bool false,.bool false,.bool false,.bool false,.bool false,.bool false,.bool false,.bool false,.bool false,.bool false,.bool false,.bool false,.bool false,.bool false,.bool false,.bool false,.bool false,.bool false,.bool false] 472) bh (fun g21 bJ=>kO (br.1.length=256) (ar (ad g21) br.1 bJ (fun cL=>aa br.2.1
 (ab Tryz.prog 334 #[.string p0,.pointer (some (ad g21))] cL (.v (.one .str)) (fun(cm:ByteArray) di=>ab Tryz.prog 333 #[.string cm,.pointer (some (ad g21))] di (.v (.one .str)) (fun(dc:ByteArray) eN=>K (.string dc) eN)))
 (ab Tryz.prog 336 #[.string p0,.string p1] cL (.v (.one .str)) (fun(eR:ByteArray) eD=>ab Tryz.prog 335 #[.string eR,.string p1] eD (.v (.one .str)) (fun(eB:ByteArray) fo=>K (.string eB) fo)))))))))))
def pl320:aB:=(.seq .auto (.seq .auto (.seq (.join [(21,.one .bool)] .auto (.cond (.seq (.any [(3,.v (.one .str)),(6,.v (.one .str))]) .auto) .auto)) .auto)))
theorem c320 (p0:ByteArray)(p1:ByteArray)(w:World)(K:Value->World->Prop)(h:C320 p0 p1 w K):Ret Tryz.prog 320 #[.string p0,.string p1] w K:=aC (by kernel_rfl) Tryz.func320 (p:=pl320) (Eq.mpr (by kernel_rfl) h)
def C332 (p0:ByteArray)(w:World)(K:Value->World->Prop):Prop:=
 ak (.cells #[.bool false,.bool false,.bool false,.bool false,.bool false,.bool false,.bool false,.bool false,.bool false,.bool false,.bool false,.bool false,.bool false,.bool false,.bool false,.bool false,.bool false,.bool false,.bool false,.bool false,.bool false,.bool false,.bool false,.bool false,.bool false,.bool false,.bool false,.bool false,.bool false,.bool false,.bool false,.bool false,.bool false,.bool false,.bool false,.bool false,.bool false,.bool false,.bool false,.bool false,.bool false,.bool false,.bool false,.bool false,.bool false,.bool false,.bool false,.bool false,.bool false,.bool false,.bool false,.bool false,.bool false,.bool false,.bool false,.bool false,.bool false,.bool false,.bool false,.bool false,.bool false,.bool false,.bool false,.bool false,.bool false,.bool false,.bool false,.bool false,.bool false,.bool false,.bool false,.bool false,.bool false,.bool false,.bool false,.bool false,.bool false,.bool false,.bool false,.bool false,.bool false,.bool false,.bool false,.bool false,.bool false,.bool false,.bool false,.bool false,.bool false,.bool false,.bool false,.bool false,.bool false,.bool false,.bool false,.bool false,.bool false,.bool false,.bool false,.bool false,.bool false,.bool false,.bool false,.bool false,.bool false,.bool false,.bool false,.bool false,.bool false,.bool false,.bool false,.bool false,.bool false,.bool false,.bool false,.bool false,.bool false,.bool false,.bool false,.bool false,.bool false,.bool false,.bool false,.bool false,.bool false,.bool false,.bool false,.bool false,.bool false,.bool false,.bool false,.bool false,.bool false,.bool false,.bool false,.bool false,.bool false,.bool false,.bool false,.bool false,.bool false,.bool false,.bool false,.bool false,.bool false,.bool false,.bool false,.bool false,.bool false,.bool false,.bool false,.bool false,.bool false,.bool false,.bool false,.bool false,.bool false,.bool false,.bool false,.bool false,.bool false,.bool false,.bool false,.bool false,.bool false,.bool false,.bool false,.bool false,.bool false,.bool false,.bool false,.bool false,.bool false,.bool false,.bool false,.bool false,.bool false,.bool false,.bool false,.bool false,.bool false,.bool false,.bool false,.bool false,.bool false,.bool false,.bool false,.bool false,.bool false,.bool false,.bool false,.bool false,.bool false,.bool false,.bool false,.bool false,.bool false,.bool false,.bool false,.bool false,.bool false,.bool false,.bool false,.bool false,.bool false,.bool false,.bool false,.bool false,.bool false,.bool false,.bool false,.bool false,.bool false,.bool false,.bool false,.bool false,.bool false,.bool false,.bool false,.bool false,.bool false,.bool false,.bool false,.bool false,.bool false,.bool false,.bool false,.bool false,.bool false,.bool false,.bool false,.bool false,.bool false,.bool false,.bool false,.bool false,.bool false,.bool false,.bool false,.bool false,.bool false,.bool false,.bool false,.bool false,.bool false,.bool false,.bool false,.bool false,.bool false,.bool false,.bool false,.bool false,.bool false,.bool false,.bool false,.bool false] 472) w (fun g1 w2=>bC (Int×Unit) (fun _ s3 w4 kV=>aa (decide (s3.1<(p0.size:Int)))
 (oM p0 s3.1 (fun x6=>aa (decide (x6 >= 128))
 (eK 256 (ad g1) w4 (fun x7=>kO (x7.length=256) (ar (ad g1) x7 w4 (fun w8=>eK 256 (ad g1) w8 (fun x9=>K (.tuple #[.agg x9.toArray,.bool false]) w8)))))
 (Ec (ad g1) 256 x6 1 (fun pY=>az pY (.bool true) w4 (fun aO=>kV (IntKind.i64.wrap (s3.1+1),()) aO)))))
 (eK 256 (ad g1) w4 (fun bx=>kO (bx.length=256) (ar (ad g1) bx w4 (fun aY=>eK 256 (ad g1) aY (fun bg=>K (.tuple #[.agg bg.toArray,.bool true]) aY))))))
 (0,()) w2)
def pl332:aB:=(.seq .auto (.seq (.seq .auto (.block (.loop [(4,.one (.int .i64))] .auto))) .auto))
theorem c332 (p0:ByteArray)(w:World)(K:Value->World->Prop)(h:C332 p0 w K):Ret Tryz.prog 332 #[.string p0] w K:=aC (by kernel_rfl) Tryz.func332 (p:=pl332) (Eq.mpr (by kernel_rfl) h)
def C333 (p0:ByteArray)(p1:Addr)(w:World)(K:Value->World->Prop):Prop:=
 bC (ByteArray×Unit) (fun _ s1 w2 gO=>aa (decide ((s1.1.size:Int) > 0))
 (oM s1.1 0 (fun x4=>ab Tryz.prog 344 #[.pointer (some p1),.int .u8 x4] w2 (.v (.one .bool)) (fun(x5:Bool) w6=>aa (!x5)
 (K (.string s1.1) w6)
 (uq s1.1 1 s1.1.size (fun x7=>gO (x7,()) w6)))))
 (K (.string s1.1) w2))
 (p0,()) w
def pl333:aB:=(.seq .auto (.seq (.block (.loop [(0,.one .str)] .auto)) .auto))
theorem c333 (p0:ByteArray)(p1:Addr)(w:World)(K:Value->World->Prop)(h:C333 p0 p1 w K):Ret Tryz.prog 333 #[.string p0,.pointer (some p1)] w K:=aC (by kernel_rfl) Tryz.func333 (p:=pl333) (Eq.mpr (by kernel_rfl) h)
def C334 (p0:ByteArray)(p1:Addr)(w:World)(K:Value->World->Prop):Prop:=
 bC (ByteArray×Unit) (fun _ s1 w2 gO=>aa (decide ((s1.1.size:Int) > 0))
 (oM s1.1 (IntKind.i64.wrap ((s1.1.size:Int) - 1)) (fun x4=>ab Tryz.prog 344 #[.pointer (some p1),.int .u8 x4] w2 (.v (.one .bool)) (fun(x5:Bool) w6=>aa (!x5)
 (K (.string s1.1) w6)
 (uq s1.1 0 (IntKind.i64.wrap ((s1.1.size:Int) - 1)) (fun x7=>gO (x7,()) w6)))))
 (K (.string s1.1) w2))
 (p0,()) w
def pl334:aB:=(.seq .auto (.seq (.block (.loop [(0,.one .str)] .auto)) .auto))
theorem c334 (p0:ByteArray)(p1:Addr)(w:World)(K:Value->World->Prop)(h:C334 p0 p1 w K):Ret Tryz.prog 334 #[.string p0,.pointer (some p1)] w K:=aC (by kernel_rfl) Tryz.func334 (p:=pl334) (Eq.mpr (by kernel_rfl) h)
def C344 (p0:Addr)(p1:Int)(w:World)(K:Value->World->Prop):Prop:=
 Ec p0 256 p1 1 (fun a1=>ae .bool a1 w (fun(x2:Bool)=>K (.bool x2) w))
def pl344:aB:=.auto
theorem c344 (p0:Addr)(p1:Int)(w:World)(K:Value->World->Prop)(h:C344 p0 p1 w K):Ret Tryz.prog 344 #[.pointer (some p0),.int .u8 p1] w K:=aC (by kernel_rfl) Tryz.func344 (p:=pl344) (Eq.mpr (by kernel_rfl) h)
def C321 (p0:ByteArray)(w:World)(K:Value->World->Prop):Prop:=
 ab Tryz.prog 337 #[.string p0] w (.aN [.one (.int .i64),.one .raw]) (fun(x1:Int×Value×Unit) w2=>aA Tryz.prog (do eqGuard .neq 422 (.tmp 11) (.const .nilIface) x1.2.1 .nilIface;binOp .neq 422 x1.2.1 .nilIface) w2 (.v (.one .bool)) (fun(x3:Bool) w4=>aa x3
 (ab Tryz.prog 338 #[.string (⟨#[65,116,111,105]⟩:ByteArray),.string p0,.int .i64 0,.int .i64 0,x1.2.1] w4 (.v (.one .raw)) (fun(x5:Value) w6=>K (.tuple #[.int .i64 x1.1,x5]) w6))
 (K (.tuple #[.int .i64 x1.1,.nilIface]) w4)))
def pl321:aB:=.auto
theorem c321 (p0:ByteArray)(w:World)(K:Value->World->Prop)(h:C321 p0 w K):Ret Tryz.prog 321 #[.string p0] w K:=aC (by kernel_rfl) Tryz.func321 (p:=pl321) (Eq.mpr (by kernel_rfl) h)
def C337 (p0:ByteArray)(w:World)(K:Value->World->Prop):Prop:=
 cy (Bool×Unit) (fun J1=>aa (decide ((0:Int)<(p0.size:Int)))
 (J1 (decide ((p0.size:Int)<19),()) w)
 (J1 (false,()) w))
 (fun _ s2 w3=>aa s2.1
 (cy (ByteArray×Unit) (fun J4=>cy (Bool×Unit) (fun J7=>oM p0 0 (fun aQ=>aa (aQ==45)
 (J7 (true,()) w3)
 (oM p0 0 (fun aX=>J7 ((aX==43),()) w3))))
 (fun _ s8 w9=>aa s8.1
 (uq p0 1 p0.size (fun bx=>aa (decide ((bx.size:Int)<1))
 (K (.tuple #[.int .i64 0,.iface 490 (.int .i64 2)]) w9)
 (J4 (bx,()) w9)))
 (J4 (p0,()) w9)))
 (fun _ s5 w6=>aA Tryz.prog (convert 9 22 (.string s5.1)) w6 (.v (.one .aj)) (fun(bz:an) bo=>bC (Int×Int×Unit) (fun _ ob bj uR=>aa (decide (ob.2.1<(bz.2.1:Int)))
 (bQ bz.1 bz.2.1 ob.2.1 1 (fun vh=>ae (.int .u8) vh bj (fun(br:Int)=>aa (decide ((IntKind.u8.wrap (br - 48)) > 9))
 (K (.tuple #[.int .i64 0,.iface 490 (.int .i64 2)]) bj)
 (uR (IntKind.i64.wrap ((IntKind.i64.wrap (ob.1 * 10))+(IntKind.i64.wrap (IntKind.u8.wrap (br - 48)))),IntKind.i64.wrap (ob.2.1+1),()) bj))))
 (oM p0 0 (fun cG=>aa (cG==45)
 (K (.tuple #[.int .i64 (IntKind.i64.wrap (0 - ob.1)),.nilIface]) bj)
 (K (.tuple #[.int .i64 ob.1,.nilIface]) bj))))
 (0,0,()) bo)))
 (ab Tryz.prog 348 #[.string p0,.int .i64 10,.int .i64 0] w3 (.aN [.one (.int .i64),.one .raw]) (fun(bY:Int×Value×Unit) bJ=>K (.tuple #[.int .i64 bY.1,bY.2.1]) bJ)))
def pl337:aB:=(.seq .auto (.seq .auto (.seq (.join [(30,.one .bool)] .auto (.cond (.seq .auto (.join [(0,.one .str)] (.join [(39,.one .bool)] .auto .auto) (.seq .auto (.seq (.seq .auto (.block (.loop [(6,.one (.int .i64)),(49,.one (.int .i64))] .auto))) .auto)))) .auto)) .auto)))
theorem c337 (p0:ByteArray)(w:World)(K:Value->World->Prop)(h:C337 p0 w K):Ret Tryz.prog 337 #[.string p0] w K:=aC (by kernel_rfl) Tryz.func337 (p:=pl337) (Eq.mpr (by kernel_rfl) h)
def C303 (p0:ByteArray)(w:World)(K:Value->World->Prop):Prop:=
 ab Tryz.prog 319 #[.string p0,.string (⟨#[45]⟩:ByteArray)] w (.v (.one .str)) (fun(x1:ByteArray) w2=>cy (Bool×Unit) (fun J3=>aa (x1.toList==(⟨#[]⟩:ByteArray).toList)
 (J3 (true,()) w2)
 (aa (decide ((x1.size:Int) > 13))
 (J3 (true,()) w2)
 (ab Tryz.prog 320 #[.string x1,.string (⟨#[48,49,50,51,52,53,54,55,56,57]⟩:ByteArray)] w2 (.v (.one .str)) (fun(x6:ByteArray) w7=>aa (!(x6.toList==(⟨#[]⟩:ByteArray).toList))
 (J3 (true,()) w7)
 (oM x1 0 (fun x8=>aa (x8==48)
 (J3 ((!(p0.toList==(⟨#[48]⟩:ByteArray).toList)),()) w7)
 (J3 (false,()) w7)))))))
 (fun _ s4 w5=>aa s4.1
 (K (.tuple #[.int .i64 0,.bool false]) w5)
 (ab Tryz.prog 321 #[.string p0] w5 (.aN [.one (.int .i64),.one .raw]) (fun(x9:Int×Value×Unit) aG=>aA Tryz.prog (do eqGuard .neq 422 (.tmp 35) (.const .nilIface) x9.2.1 .nilIface;binOp .neq 422 x9.2.1 .nilIface) aG (.v (.one .bool)) (fun(aX:Bool) aL=>aa aX
 (K (.tuple #[.int .i64 0,.bool false]) aL)
 (aa (decide (x9.1<(-1000000000000)))
 (K (.tuple #[.int .i64 0,.bool false]) aL)
 (aa (decide (x9.1 > 1000000000000))
 (K (.tuple #[.int .i64 0,.bool false]) aL)
 (K (.tuple #[.int .i64 x9.1,.bool true]) aL))))))))
def pl303:aB:=(.seq .auto (.seq .auto (.seq (.join [(29,.one .bool)] .auto .auto) .auto)))
theorem c303 (p0:ByteArray)(w:World)(K:Value->World->Prop)(h:C303 p0 w K):Ret Tryz.prog 303 #[.string p0] w K:=aC (by kernel_rfl) Tryz.func303 (p:=pl303) (Eq.mpr (by kernel_rfl) h)
end Go.Proofs.YtmkehncgjnhhcaaGreatDoor
