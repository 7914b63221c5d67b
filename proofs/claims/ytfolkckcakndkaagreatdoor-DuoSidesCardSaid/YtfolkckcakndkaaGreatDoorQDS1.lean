/-
  Texts of this claim, put together.
  Conditions: those of each theorem.
-/
import Derived.Test.YtfolkckcakndkaaGreatDoorQDS0
import Derived.Ground.SlgnProg
import Derived.KernelRfl
import Derived.Laws.StructEq
import Derived.Shelf.Bytes.SlEqualAll
import Derived.Shelf.Bytes.Small
import Derived.Shelf.LaysM
import Derived.Shelf.SlMaps.Clone
import Derived.Shelf.SlicesE.Clone
import Derived.Shelf.Small.Strs
import Derived.Shelf.Small.Utf8
import Derived.Shelf.Strconv.Itoa0
import Derived.Shelf.Strconv.Itoa1
import Derived.Shelf.Strconv.Itoa2
import Derived.Shelf.Strconv.Itoa3
import Derived.Shelf.Strings.AsciiSet
import Derived.Shelf.Strings.Builder1
import Derived.Shelf.Strings.Builder2
import Derived.Shelf.Strings.OnBuilder
import Derived.Shelf.Strings.Runes
import Derived.Shelf.Strings.Search1
import Derived.Shelf.Strings.Search2
import Derived.Shelf.Strings.Search3
import Derived.Shelf.Strings.Shaped
import Derived.Shelf.Unicode.DecodeAny
import Derived.Shelf.Unicode.DecodeSlow
import Derived.Shelf.Utf8.RuneCount
import Derived.Test.YtfolkckcakndkaaGreatDoorProg
namespace Go.Proofs.YtfolkckcakndkaaGreatDoor
open Vc
set_option maxRecDepth 100000
set_option maxHeartbeats 2000000
set_option maxRecDepth 100000
set_option linter.unusedVariables false
variable {w w':ah}{b g N fb fg c g1 j:Nat}{F S A:bz}{kb bs x:ai}{E:Int}{T:TypeId}
def C171 (p0:di)(w:ah)(K:aP):Prop:=
 aC (.cells ((cO p0).toArray) 34) w (λ g1 w2=>af (.int .i64) ((ad g1).add 0) w2 (λ(x3:Int)=>ak 180 #[aa x3] w2 eu (λ(x4:ay) w5=>ae (x4.toList==(⟨#[63]⟩:ay).toList)
 (K (aa 1) w5)
 (aF fO (ad g1) w5 (λ(x6:di)=>ak 206 #[.agg (cO x6).toArray] w5 bK (λ(x7:Bool) w8=>ae (!x7)
 (K (aa 1) w8)
 (aF fO (ad g1) w8 (λ(x9:di)=>ak 207 #[.agg (cO x9).toArray] w8 bK (λ(bG:Bool) bt=>ae (!bG)
 (K (aa 1) bt)
 (af (.int .i64) ((ad g1).add 5) bt (λ(cn:Int)=>ae (decide (cn<0))
 (K (aa 1) bt)
 (af (.int .i64) ((ad g1).add 5) bt (λ(cA:Int)=>ae (decide (cA > 10000))
 (K (aa 1) bt)
 (af (.int .i64) ((ad g1).add 6) bt (λ(cj:Int)=>ak 208 #[aa cj] bt bK (λ(cm:Bool) bV=>ae (!cm)
 (K (aa 1) bV)
 (dc (Bool×Unit) (λ Lk=>af (.int .i64) ((ad g1).add 0) bV (λ(dE:Int)=>ae (dE==4)
 (af (.int .i64) ((ad g1).add 6) bV (λ(du:Int)=>ae (du != 0)
 (af (.int .i64) ((ad g1).add 6) bV (λ(cW:Int)=>Lk ((cW != 1),()) bV))
 (Lk (false,()) bV)))
 (Lk (false,()) bV)))
 (λ _ sH ct=>ae sH.1
 (K (aa 1) ct)
 (af (.int .i64) ((ad g1).add 0) ct (λ(eB:Int)=>ae (eB==2)
 (af .raw ((ad g1).add 7) ct (λ(dr:av)=>ak 209 #[dr] ct (.bR [.one .str,.one (.int .i64)]) (λ(cR:ay×Int×Unit) de=>K (aa cR.2.1) de)))
 (K (aa 0) ct)))))))))))))))))))))
def pl171:aN:=(.seq .auto (.seq (.block (.seq .auto (.cond .auto (.seq .auto (.cond .auto (.join [(35,.one .bool)] .auto .auto)))))) .auto))
theorem c171 (p0 w K)(h:C171 p0 w K):au 171 #[.agg (cO p0).toArray] w K:=aQ Tryz.func171 (p:=pl171) aA h
def C180 (p0:Int)(w:ah)(K:aP):Prop:=
 ae (p0==1)
 (K (aj) w)
 (ae (p0==2)
 (K (.string (⟨#[73,84]⟩:ay)) w)
 (ae (p0==3)
 (K (.string (⟨#[78,68,86]⟩:ay)) w)
 (ae (p0==4)
 (K (.string (⟨#[73,76,86]⟩:ay)) w)
 (ae (p0==5)
 (K (.string (⟨#[68]⟩:ay)) w)
 (ae (p0==6)
 (K (.string (⟨#[68,67,86]⟩:ay)) w)
 (K (.string (⟨#[63]⟩:ay)) w))))))
def pl180:aN:=.auto
theorem c180 (p0 w K)(h:C180 p0 w K):au 180 #[aa p0] w K:=aQ Tryz.func180 (p:=pl180) aA h
def C206 (p0:di)(w:ah)(K:aP):Prop:=
 aC (.cells ((cO p0).toArray) 34) w (λ g1 w2=>aC (.map #[] 0) w2 (λ g3 w4=>af .str ((ad g1).add 1) w4 (λ(x5:ay)=>lL Tryz.prog (Instr.mapUpdate 369 (.map (some g3)) (.string (⟨#[73]⟩:ay)) (.string x5)) w4 (λ w6=>af .str ((ad g1).add 2) w6 (λ(x7:ay)=>lL Tryz.prog (Instr.mapUpdate 369 (.map (some g3)) (.string (⟨#[78]⟩:ay)) (.string x7)) w6 (λ w8=>af .str ((ad g1).add 3) w8 (λ(x9:ay)=>lL Tryz.prog (Instr.mapUpdate 369 (.map (some g3)) (.string (⟨#[76]⟩:ay)) (.string x9)) w8 (λ aX=>af .str ((ad g1).add 4) aX (λ(bQ:ay)=>lL Tryz.prog (Instr.mapUpdate 369 (.map (some g3)) (.string (⟨#[67]⟩:ay)) (.string bQ)) aX (λ br=>aT (Instr.range 369 (.map (some g3))) br gH (λ(cA:aS) bY=>cp (Unit) (λ _ pM bV zO=>GY Tryz.prog (.pointer cA) 0 bV (λ cF cJ bW=>aT (Instr.entry (.pointer cA)) bW (.bR [.one .raw,.one .raw]) (λ(cW:av×av×Unit) dM=>Kd.ex (.one .str) cW.1 (λ(dr:ay)=>Kd.ex (.one .str) cW.2.1 (λ(cR:ay)=>ae (!(cR.toList==(⟨#[]⟩:ay).toList))
 (af (.int .i64) ((ad g1).add 0) dM (λ(eX:Int)=>ak 234 #[aa eX,.string dr] dM bK (λ(eD:Bool) cS=>ae (!eD)
 (K (.bool false) cS)
 (zO (()) cS))))
 (zO (()) dM)))))
 (λ cr=>af (.int .i64) ((ad g1).add 5) cr (λ(eQ:Int)=>ae (eQ==0)
 (af (.int .i64) ((ad g1).add 6) cr (λ(gB:Int)=>ae (gB==0)
 (af .raw ((ad g1).add 7) cr (λ(dt:av)=>aT (do eqGuard .eql 32 (.tmp 52) (.const .nilIface) dt .nilIface;binOp .eql 32 dt .nilIface) cr bK (λ(gx:Bool) fT=>ae gx
 (K (.bool true) fT)
 (af (.int .i64) ((ad g1).add 0) fT (λ(fD:Int)=>ak 234 #[aa fD,.string (⟨#[84]⟩:ay)] fT bK (λ(eY:Bool) dW=>K (.bool eY) dW))))))
 (af (.int .i64) ((ad g1).add 0) cr (λ(ka:Int)=>ak 234 #[aa ka,.string (⟨#[86]⟩:ay)] cr bK (λ(gn:Bool) gq=>ae gn
 (af .raw ((ad g1).add 7) gq (λ(mi:av)=>aT (do eqGuard .eql 32 (.tmp 52) (.const .nilIface) mi .nilIface;binOp .eql 32 mi .nilIface) gq bK (λ(gC:Bool) iI=>ae gC
 (K (.bool true) iI)
 (af (.int .i64) ((ad g1).add 0) iI (λ(mL:Int)=>ak 234 #[aa mL,.string (⟨#[84]⟩:ay)] iI bK (λ(lP:Bool) jH=>K (.bool lP) jH))))))
 (K (.bool false) gq))))))
 (af (.int .i64) ((ad g1).add 0) cr (λ(nq:Int)=>ak 234 #[aa nq,.string (⟨#[68]⟩:ay)] cr bK (λ(fu:Bool) jv=>ae fu
 (af (.int .i64) ((ad g1).add 6) jv (λ(iJ:Int)=>ae (iJ==0)
 (af .raw ((ad g1).add 7) jv (λ(jU:av)=>aT (do eqGuard .eql 32 (.tmp 52) (.const .nilIface) jU .nilIface;binOp .eql 32 jU .nilIface) jv bK (λ(nV:Bool) jx=>ae nV
 (K (.bool true) jx)
 (af (.int .i64) ((ad g1).add 0) jx (λ(kc:Int)=>ak 234 #[aa kc,.string (⟨#[84]⟩:ay)] jx bK (λ(zP:Bool) jI=>K (.bool zP) jI))))))
 (af (.int .i64) ((ad g1).add 0) jv (λ(oX:Int)=>ak 234 #[aa oX,.string (⟨#[86]⟩:ay)] jv bK (λ(uU:Bool) xS=>ae uU
 (af .raw ((ad g1).add 7) xS (λ(zQ:av)=>aT (do eqGuard .eql 32 (.tmp 52) (.const .nilIface) zQ .nilIface;binOp .eql 32 zQ .nilIface) xS bK (λ(ry:Bool) zR=>ae ry
 (K (.bool true) zR)
 (af (.int .i64) ((ad g1).add 0) zR (λ(Ep:Int)=>ak 234 #[aa Ep,.string (⟨#[84]⟩:ay)] zR bK (λ(uV:Bool) lQ=>K (.bool uV) lQ))))))
 (K (.bool false) xS))))))
 (K (.bool false) jv)))))))
 (()) bY)))))))))))
def pl206:aN:=(.seq .auto (.seq .auto (.seq (.seq .auto (.block (.loop [] .auto))) .auto)))
theorem c206 (p0 w K)(h:C206 p0 w K):au 206 #[.agg (cO p0).toArray] w K:=aQ Tryz.func206 (p:=pl206) aA h
def C207 (p0:di)(w:ah)(K:aP):Prop:=
 aC (.cells ((cO p0).toArray) 34) w (λ g1 w2=>aC (.map #[] 0) w2 (λ g3 w4=>af .str ((ad g1).add 1) w4 (λ(x5:ay)=>lL Tryz.prog (Instr.mapUpdate 369 (.map (some g3)) (.string (⟨#[73]⟩:ay)) (.string x5)) w4 (λ w6=>af .str ((ad g1).add 2) w6 (λ(x7:ay)=>lL Tryz.prog (Instr.mapUpdate 369 (.map (some g3)) (.string (⟨#[78]⟩:ay)) (.string x7)) w6 (λ w8=>af .str ((ad g1).add 3) w8 (λ(x9:ay)=>lL Tryz.prog (Instr.mapUpdate 369 (.map (some g3)) (.string (⟨#[76]⟩:ay)) (.string x9)) w8 (λ aX=>af .str ((ad g1).add 4) aX (λ(bQ:ay)=>lL Tryz.prog (Instr.mapUpdate 369 (.map (some g3)) (.string (⟨#[67]⟩:ay)) (.string bQ)) aX (λ br=>aT (Instr.range 369 (.map (some g3))) br gH (λ(cA:aS) bY=>cp (Unit) (λ _ pM bV zO=>GY Tryz.prog (.pointer cA) 0 bV (λ cF cJ bW=>aT (Instr.entry (.pointer cA)) bW (.bR [.one .raw,.one .raw]) (λ(cW:av×av×Unit) dM=>Kd.ex (.one .str) cW.1 (λ(dr:ay)=>Kd.ex (.one .str) cW.2.1 (λ(cR:ay)=>af (.int .i64) ((ad g1).add 0) dM (λ(eX:Int)=>ak 234 #[aa eX,.string dr] dM bK (λ(eD:Bool) cS=>ae eD
 (ak 194 #[.string cR] cS bK (λ(eQ:Bool) cN=>ae (!eQ)
 (K (.bool false) cN)
 (zO (()) cN)))
 (zO (()) cS)))))))
 (λ cr=>K (.bool true) cr))
 (()) bY)))))))))))
def pl207:aN:=(.seq .auto (.seq .auto (.seq (.seq .auto (.block (.loop [] .auto))) .auto)))
theorem c207 (p0 w K)(h:C207 p0 w K):au 207 #[.agg (cO p0).toArray] w K:=aQ Tryz.func207 (p:=pl207) aA h
def C234 (p0:Int)(p1:ay)(w:ah)(K:aP):Prop:=
 ak 180 #[aa p0] w eu (λ(x1:ay) w2=>ak 251 #[.string x1,.string p1] w2 bK (λ(x3:Bool) w4=>K (.bool x3) w4))
def pl234:aN:=.auto
theorem c234 (p0 p1 w K)(h:C234 p0 p1 w K):au 234 #[aa p0,.string p1] w K:=aQ Tryz.func234 (p:=pl234) aA h
def C208 (p0:Int)(w:ah)(K:aP):Prop:=
 ae (decide (p0 >= (-1000000000000)))
 (K (.bool (decide (p0<=1000000000000))) w)
 (K (.bool false) w)
def pl208:aN:=.auto
theorem c208 (p0 w K)(h:C208 p0 w K):au 208 #[aa p0] w K:=aQ Tryz.func208 (p:=pl208) aA h
open Go.Shelf
def Tryz.Q1:Go.Shelf.Ren:=⟨λ | 156=>275 | 165=>285 | 166=>286 | 169=>287 | 240=>296 | 241=>297 | 276=>314 | 277=>315 | n=>n,λ | 31=>56 | 9=>9 | 3=>3 | 4=>4 | 0=>0 | 20=>20 | 72=>424 | 76=>427 | 70=>422 | 37=>22 | 75=>426 | 127=>432 | 164=>449 | 5=>5 | 80=>404 | n=>n,λ | n=>n⟩
theorem Tryz.Zm:Go.Proofs.Lays.n156 Tryz.prog Tryz.Q1:={
 mixed:=aA
 f156:=Tryz.func275.trans (congrArg some aA)
 f165:=Tryz.func285.trans (congrArg some aA)
 f166:=Tryz.func286.trans (congrArg some aA)
 f169:=Tryz.func287.trans (congrArg some aA)
 f240:=Tryz.func296.trans (congrArg some aA)
 f241:=Tryz.func297.trans (congrArg some aA)
 f276:=Tryz.func314.trans (congrArg some aA)
 f277:=Tryz.func315.trans (congrArg some aA)
 t0:=Tryz.underlying0
 a0:=Tryz.isAgg0
 z0:=Tryz.sizeOf0
 v0:=Tryz.zeroValue0
 t3:=Tryz.underlying3
 a3:=Tryz.isAgg3
 z3:=Tryz.sizeOf3
 v3:=Tryz.zeroValue3
 t4:=Tryz.underlying4
 a4:=Tryz.isAgg4
 z4:=Tryz.sizeOf4
 v4:=Tryz.zeroValue4
 t9:=Tryz.underlying9
 a9:=Tryz.isAgg9
 z9:=Tryz.sizeOf9
 v9:=Tryz.zeroValue9
 t20:=Tryz.underlying20
 a20:=Tryz.isAgg20
 z20:=Tryz.sizeOf20
 v20:=Tryz.zeroValue20
 t31:=Tryz.underlying56
 a31:=Tryz.isAgg56
 z31:=Tryz.sizeOf56
 v31:=Tryz.zeroValue56
 t37:=Tryz.underlying22
 a37:=Tryz.isAgg22
 z37:=Tryz.sizeOf22
 v37:=Tryz.zeroValue22
 t70:=Tryz.underlying422
 a70:=Tryz.isAgg422
 z70:=Tryz.sizeOf422
 v70:=Tryz.zeroValue422
 t72:=Tryz.underlying424
 a72:=Tryz.isAgg424
 z72:=Tryz.sizeOf424
 v72:=Tryz.zeroValue424
 t75:=Tryz.underlying426
 a75:=Tryz.isAgg426
 z75:=Tryz.sizeOf426
 v75:=Tryz.zeroValue426
 t76:=Tryz.underlying427
 a76:=Tryz.isAgg427
 z76:=Tryz.sizeOf427
 v76:=Tryz.zeroValue427
 t127:=Tryz.underlying432
 a127:=Tryz.isAgg432
 z127:=Tryz.sizeOf432
 v127:=Tryz.zeroValue432
 t164:=Tryz.underlying449
 a164:=Tryz.isAgg449
 z164:=Tryz.sizeOf449
 v164:=Tryz.zeroValue449 }
theorem Tryz.Zn:Builder.Extra Tryz.prog Tryz.Q1:={
 sizeBuilder:=aA
 liesBuilder:=aA
 t5:=Tryz.underlying5
 a5:=Tryz.isAgg5
 z5:=Tryz.sizeOf5
 v5:=Tryz.zeroValue5
 infoByte:=aA
 cellsByte:=aA
 sizeByte:=aA
 neB5:=by decide }
open Go.RowKit in
theorem Tryz.strings_Join (bk o c:Nat)(xs:List ay)(sep:ay)(w:ah)(zC:∀ (j:Nat) x,xs[j]? = some x->w.cell? ⟨bk,o+j,none⟩=some (.string x))(BO:bk<w.heap.size)(hN:xs.length<=140737488355328)(BP:xs.length<=c)(hlen:(Lib.join (xs.map (·.data.toList)) sep.data.toList).length<=140737488355328):
  Calls Tryz.prog 275 #[.slice (some ⟨bk,o,none⟩) xs.length c,.string sep] w λ e w'=>e=.returned (.string ⟨(Lib.join (xs.map (·.data.toList)) sep.data.toList).toArray⟩)/\Below w.heap.size w w':=Any.strings_Join Tryz.Zm Tryz.Zn bk o c xs sep w zC BO hN BP hlen
def Tryz.Zo:Go.Shelf.Ren:=⟨λ | 195=>255 | n=>n,λ | 9=>9 | 3=>3 | 0=>0 | 4=>4 | n=>n,λ | n=>n⟩
theorem Tryz.Zp:Go.Proofs.Lays.n195 Tryz.prog Tryz.Zo:={
 mixed:=aA
 f195:=Tryz.func255.trans (congrArg some aA)
 t0:=Tryz.underlying0
 a0:=Tryz.isAgg0
 z0:=Tryz.sizeOf0
 v0:=Tryz.zeroValue0
 t3:=Tryz.underlying3
 a3:=Tryz.isAgg3
 z3:=Tryz.sizeOf3
 v3:=Tryz.zeroValue3
 t4:=Tryz.underlying4
 a4:=Tryz.isAgg4
 z4:=Tryz.sizeOf4
 v4:=Tryz.zeroValue4
 t9:=Tryz.underlying9
 a9:=Tryz.isAgg9
 z9:=Tryz.sizeOf9
 v9:=Tryz.zeroValue9 }
open Go.RowKit in
theorem Tryz.utf8_RuneCountInString (s:ay)(w:ah)(hs:s.size<9223372036854775807):
  Calls Tryz.prog 255 #[.string s] w λ e w'=>e=.returned (aa (Lib.runeCount s))/\∃ pos,w'=w.iter s pos:=Any.utf8_RuneCountInString Tryz.Zp s w hs
def Tryz.Zq:Go.Shelf.Ren:=⟨λ | 171=>254 | 243=>276 | 246=>288 | 283=>298 | 284=>299 | 285=>300 | 286=>301 | 129=>317 | 317=>316 | 318=>318 | 319=>319 | 320=>320 | 337=>331 | 338=>332 | n=>n,λ | 3=>3 | 9=>9 | 2=>2 | 4=>4 | 171=>433 | 0=>0 | 53=>42 | 37=>22 | 5=>5 | 173=>436 | 212=>452 | 51=>446 | 20=>20 | 213=>453 | 46=>69 | 232=>473 | 233=>474 | n=>n,λ | 17=>1 | 18=>4 | 19=>5 | n=>n⟩
theorem Tryz.Zr:Go.Proofs.LaysM.n171 Tryz.prog Tryz.Zq:={
 mixed:=aA
 f129:=Tryz.func317.trans (congrArg some aA)
 f171:=Tryz.func254.trans (congrArg some aA)
 f243:=Tryz.func276.trans (congrArg some aA)
 f246:=Tryz.func288.trans (congrArg some aA)
 f283:=Tryz.func298.trans (congrArg some aA)
 f284:=Tryz.func299.trans (congrArg some aA)
 f285:=Tryz.func300.trans (congrArg some aA)
 f286:=Tryz.func301.trans (congrArg some aA)
 f317:=Tryz.func316.trans (congrArg some aA)
 f318:=Tryz.func318.trans (congrArg some aA)
 f319:=Tryz.func319.trans (congrArg some aA)
 f320:=Tryz.func320.trans (congrArg some aA)
 f337:=Tryz.func331.trans (congrArg some aA)
 f338:=Tryz.func332.trans (congrArg some aA)
 t0:=Tryz.underlying0
 a0:=Tryz.isAgg0
 z0:=Tryz.sizeOf0
 v0:=Tryz.zeroValue0
 t2:=Tryz.underlying2
 a2:=Tryz.isAgg2
 z2:=Tryz.sizeOf2
 v2:=Tryz.zeroValue2
 t3:=Tryz.underlying3
 a3:=Tryz.isAgg3
 z3:=Tryz.sizeOf3
 v3:=Tryz.zeroValue3
 t4:=Tryz.underlying4
 a4:=Tryz.isAgg4
 z4:=Tryz.sizeOf4
 v4:=Tryz.zeroValue4
 t5:=Tryz.underlying5
 a5:=Tryz.isAgg5
 z5:=Tryz.sizeOf5
 v5:=Tryz.zeroValue5
 t9:=Tryz.underlying9
 a9:=Tryz.isAgg9
 z9:=Tryz.sizeOf9
 v9:=Tryz.zeroValue9
 t20:=Tryz.underlying20
 a20:=Tryz.isAgg20
 z20:=Tryz.sizeOf20
 v20:=Tryz.zeroValue20
 t37:=Tryz.underlying22
 a37:=Tryz.isAgg22
 z37:=Tryz.sizeOf22
 v37:=Tryz.zeroValue22
 t46:=Tryz.underlying69
 a46:=Tryz.isAgg69
 z46:=Tryz.sizeOf69
 v46:=Tryz.zeroValue69
 t51:=Tryz.underlying446
 a51:=Tryz.isAgg446
 z51:=Tryz.sizeOf446
 v51:=Tryz.zeroValue446
 t53:=Tryz.underlying42
 a53:=Tryz.isAgg42
 z53:=Tryz.sizeOf42
 v53:=Tryz.zeroValue42
 t171:=Tryz.underlying433
 a171:=Tryz.isAgg433
 z171:=Tryz.sizeOf433
 v171:=Tryz.zeroValue433
 t173:=Tryz.underlying436
 a173:=Tryz.isAgg436
 z173:=Tryz.sizeOf436
 v173:=Tryz.zeroValue436
 t212:=Tryz.underlying452
 a212:=Tryz.isAgg452
 z212:=Tryz.sizeOf452
 v212:=Tryz.zeroValue452
 t213:=Tryz.underlying453
 a213:=Tryz.isAgg453
 z213:=Tryz.sizeOf453
 t232:=Tryz.underlying473
 a232:=Tryz.isAgg473
 z232:=Tryz.sizeOf473
 v232:=Tryz.zeroValue473
 t233:=Tryz.underlying474
 a233:=Tryz.isAgg474
 z233:=Tryz.sizeOf474
 v233:=Tryz.zeroValue474
 g17:=aA
 g18:=aA
 g19:=aA
 i0:=aA
 i2:=aA
 i3:=aA
 i4:=aA
 i5:=aA
 i9:=aA
 i20:=aA
 i37:=aA
 i46:=aA
 i51:=aA
 i53:=aA
 i171:=aA
 i173:=aA
 i212:=aA
 i232:=aA
 i233:=aA
 m17:=aA
 m18:=aA
 m19:=by kernel_rfl }
open Go.RowKit Go.Sort Go.Lib in
theorem Tryz.strconv_Itoa (n : Int)(h0 : -9223372036854775808 <= n)(h1 : n <= 9223372036854775807)(w : ah)(htab : Lib.TabIs Tryz.prog w "internal/strconv.uint64pow10" .u64 Lib.pow10Tab):
  Calls Tryz.prog 254 #[aa n] w λ e w'=>e=.returned (.string ⟨(Lib.itoa n).toArray⟩)/\∃ k os,w'=grow (w.drewN k) os:=Any.strconv_Itoa Tryz.Zr n h0 h1 w htab
open Go.RowKit Go.Sort Go.Lib in
def Tryz.Zs:Go.Shelf.Ren:=⟨λ | 144=>251 | 143=>274 | 219=>284 | 217=>292 | 225=>293 | 224=>294 | 267=>295 | 266=>312 | 314=>313 | n=>n,λ | 9=>9 | 4=>4 | 3=>3 | 5=>5 | 46=>69 | 146=>447 | 51=>446 | n=>n,λ | 1=>0 | n=>n⟩
theorem Tryz.Zt:Go.Proofs.Lays.n144 Tryz.prog Tryz.Zs:={
 mixed:=aA
 f143:=Tryz.func274.trans (congrArg some aA)
 f144:=Tryz.func251.trans (congrArg some aA)
 f217:=Tryz.func292.trans (congrArg some aA)
 f219:=Tryz.func284.trans (congrArg some aA)
 f224:=Tryz.func294.trans (congrArg some aA)
 f225:=Tryz.func293.trans (congrArg some aA)
 f266:=Tryz.func312.trans (congrArg some aA)
 f267:=Tryz.func295.trans (congrArg some aA)
 f314:=Tryz.func313.trans (congrArg some aA)
 t3:=Tryz.underlying3
 a3:=Tryz.isAgg3
 z3:=Tryz.sizeOf3
 v3:=Tryz.zeroValue3
 t4:=Tryz.underlying4
 a4:=Tryz.isAgg4
 z4:=Tryz.sizeOf4
 v4:=Tryz.zeroValue4
 t5:=Tryz.underlying5
 a5:=Tryz.isAgg5
 z5:=Tryz.sizeOf5
 v5:=Tryz.zeroValue5
 t9:=Tryz.underlying9
 a9:=Tryz.isAgg9
 z9:=Tryz.sizeOf9
 v9:=Tryz.zeroValue9
 t46:=Tryz.underlying69
 a46:=Tryz.isAgg69
 z46:=Tryz.sizeOf69
 v46:=Tryz.zeroValue69
 t51:=Tryz.underlying446
 a51:=Tryz.isAgg446
 z51:=Tryz.sizeOf446
 v51:=Tryz.zeroValue446
 t146:=Tryz.underlying447
 a146:=Tryz.isAgg447
 z146:=Tryz.sizeOf447
 v146:=Tryz.zeroValue447
 g1:=by kernel_rfl }
open Go.RowKit Go.Lib in
theorem Tryz.strings_Contains_one (s:ay)(c:UInt8)(w:ah):
  Calls Tryz.prog 251 #[.string s,.string ⟨#[c]⟩] w λ e w'=>e=.returned (.bool (decide (0<=Lib.indexByte s.data.toList c)))/\w'=w:=Any.strings_Contains_one Tryz.Zt s c w
def Tryz.Zu:Go.Shelf.Ren:=⟨λ | 115=>133 | n=>n,λ | 37=>22 | 4=>4 | 9=>9 | 5=>5 | n=>n,λ | n=>n⟩
theorem Tryz.Zv:Go.Proofs.Lays.n115 Tryz.prog Tryz.Zu:={
 mixed:=aA
 f115:=Tryz.func133.trans (congrArg some aA)
 t4:=Tryz.underlying4
 a4:=Tryz.isAgg4
 z4:=Tryz.sizeOf4
 v4:=Tryz.zeroValue4
 t9:=Tryz.underlying9
 a9:=Tryz.isAgg9
 z9:=Tryz.sizeOf9
 v9:=Tryz.zeroValue9
 t37:=Tryz.underlying22
 a37:=Tryz.isAgg22
 z37:=Tryz.sizeOf22
 v37:=Tryz.zeroValue22 }
theorem Tryz.bytes_Equal (v1 v2:av)(xs ys:List Int)(w:ah)(h1:(convert 22 9 v1).run Tryz.prog w=.ok (.string (strOfNums xs)) w)(h2:(convert 22 9 v2).run Tryz.prog w=.ok (.string (strOfNums ys)) w):
  Calls Tryz.prog 133 #[v1,v2] w λ e w'=>e=.returned (.bool (Lib.bytesOf xs==Lib.bytesOf ys))/\w'=w:=Any.bytes_Equal Tryz.Zv v1 v2 xs ys w h1 h2
def Tryz.Zw:Go.Shelf.Ren:=⟨λ | 5=>77 | 7=>114 | n=>n,λ | 23=>108 | 25=>173 | 3=>3 | 4=>4 | 20=>20 | n=>n,λ | n=>n⟩
theorem Tryz.Zx:Go.Proofs.SlLaysW.n5 Tryz.prog Tryz.Zw:={
 mixed:=aA
 f5:=⟨Tryz.f77.name,by decide,Tryz.func77.trans (congrArg some aA)⟩
 f7:=Tryz.func114.trans (congrArg some aA)
 t4:=Tryz.underlying4
 a4:=Tryz.isAgg4
 z4:=Tryz.sizeOf4
 v4:=Tryz.zeroValue4
 t20:=Tryz.underlying20
 a20:=Tryz.isAgg20
 z20:=Tryz.sizeOf20
 v20:=Tryz.zeroValue20
 t23:=Tryz.underlying108
 a23:=Tryz.isAgg108
 z23:=Tryz.sizeOf108
 v23:=Tryz.zeroValue108 }
theorem Tryz.Zy (b:Nat)(es:Array MapEntry)(clock:Nat)(w:ah)(hb:w.heap[b]? = some (.map es clock)):
  Calls Tryz.prog 77 #[.map (some b)] w λ e w'=>e=.returned (.map (some w.heap.size))/\w'=w.alloc (.map es clock):=AnyW.maps_Clone Tryz.Zx b es clock w hb
def Tryz.Zz:Go.Shelf.Ren:=⟨λ | 5=>88 | 7=>114 | n=>n,λ | 23=>144 | 25=>207 | 3=>3 | 4=>4 | 20=>20 | n=>n,λ | n=>n⟩
theorem Tryz.ZA:Go.Proofs.SlLaysW.n5 Tryz.prog Tryz.Zz:={
 mixed:=aA
 f5:=⟨Tryz.f88.name,by decide,Tryz.func88.trans (congrArg some aA)⟩
 f7:=Tryz.func114.trans (congrArg some aA)
 t4:=Tryz.underlying4
 a4:=Tryz.isAgg4
 z4:=Tryz.sizeOf4
 v4:=Tryz.zeroValue4
 t20:=Tryz.underlying20
 a20:=Tryz.isAgg20
 z20:=Tryz.sizeOf20
 v20:=Tryz.zeroValue20
 t23:=Tryz.underlying144
 a23:=Tryz.isAgg144
 z23:=Tryz.sizeOf144
 v23:=Tryz.zeroValue144 }
theorem Tryz.ZB (b:Nat)(es:Array MapEntry)(clock:Nat)(w:ah)(hb:w.heap[b]? = some (.map es clock)):
  Calls Tryz.prog 88 #[.map (some b)] w λ e w'=>e=.returned (.map (some w.heap.size))/\w'=w.alloc (.map es clock):=AnyW.maps_Clone Tryz.ZA b es clock w hb
def Tryz.ZC:Go.Shelf.Ren:=⟨λ | 5=>89 | 7=>114 | n=>n,λ | 23=>145 | 25=>210 | 3=>212 | 4=>4 | 20=>20 | n=>n,λ | n=>n⟩
theorem Tryz.ZD:Go.Proofs.SlLaysW.n5 Tryz.prog Tryz.ZC:={
 mixed:=aA
 f5:=⟨Tryz.f89.name,by decide,Tryz.func89.trans (congrArg some aA)⟩
 f7:=Tryz.func114.trans (congrArg some aA)
 t4:=Tryz.underlying4
 a4:=Tryz.isAgg4
 z4:=Tryz.sizeOf4
 v4:=Tryz.zeroValue4
 t20:=Tryz.underlying20
 a20:=Tryz.isAgg20
 z20:=Tryz.sizeOf20
 v20:=Tryz.zeroValue20
 t23:=Tryz.underlying145
 a23:=Tryz.isAgg145
 z23:=Tryz.sizeOf145
 v23:=Tryz.zeroValue145 }
theorem Tryz.ZE (b:Nat)(es:Array MapEntry)(clock:Nat)(w:ah)(hb:w.heap[b]? = some (.map es clock)):
  Calls Tryz.prog 89 #[.map (some b)] w λ e w'=>e=.returned (.map (some w.heap.size))/\w'=w.alloc (.map es clock):=AnyW.maps_Clone Tryz.ZD b es clock w hb
abbrev fU:=Int×ay×ay×ay×ay×Int×Int×av×Unit
def ke (e:fU):av:=.agg #[aa e.1,.string e.2.1,.string e.2.2.1,.string e.2.2.2.1,.string e.2.2.2.2.1,aa e.2.2.2.2.2.1,aa e.2.2.2.2.2.2.1,e.2.2.2.2.2.2.2.1]
def iS (k:Int):ai:=
 if k=1 then[] else if k=2 then[73,84] else if k=3 then[78,68,86] else if k=4 then[73,76,86] else if k=5 then[68] else if k=6 then[68,67,86] else[63]
def dX (k:Int)(c:UInt8):Bool:=(iS k).contains c
def tN (s:ay):Bool:=np 0 (dL s.data.toList)
def dI (n:Int):Bool:=decide (-1000000000000<=n)&&decide (n<=1000000000000)
def jJ:av->Bool
 | .nilIface=>true
 | _=>false
def tO (v:av):Prop:=v=.nilIface\/∃ t u,v=.iface t u
def lz (s:ay):Bool:=s.toList==(⟨#[]⟩:ay).toList
def qB (e:fU):Bool:=
 (lz e.2.1||dX e.1 73)&&(lz e.2.2.1||dX e.1 78)&&(lz e.2.2.2.1||dX e.1 76)&&(lz e.2.2.2.2.1||dX e.1 67) &&
 ((e.2.2.2.2.2.1==0||dX e.1 68)&&(e.2.2.2.2.2.2.1==0||dX e.1 86)&&(jJ e.2.2.2.2.2.2.2.1||dX e.1 84))
def sI (e:fU):Bool:=
 (!dX e.1 73||tN e.2.1)&&(!dX e.1 78||tN e.2.2.1)&&(!dX e.1 76||tN e.2.2.2.1)&&(!dX e.1 67||tN e.2.2.2.2.1)
def pN (e:fU)(tr:Int):Int:=
 if iS e.1=[63] then 1 else if qB e=false then 1 else if sI e=false then 1 else
 if e.2.2.2.2.2.1<0 then 1 else if e.2.2.2.2.2.1 > 10000 then 1 else if dI e.2.2.2.2.2.2.1=false then 1 else
 if e.1=4/\e.2.2.2.2.2.2.1≠0/\e.2.2.2.2.2.2.1≠1 then 1 else if e.1=2 then tr else 0
theorem Ll (k:Int)(w:ah):au 180 #[aa k] w λ r w'=>r=.string (str (iS k))/\w=w':=by
 refine c180 k w _ ?_;unfold iS;refine ae.eq (λ h=>?_) (λ h=>?_)
 ·rw[if_pos h];exact⟨rfl,rfl⟩
 rw[if_neg h];refine ae.eq (λ h=>?_) (λ h=>?_)
 ·rw[if_pos h];exact⟨rfl,rfl⟩
 rw[if_neg h];refine ae.eq (λ h=>?_) (λ h=>?_)
 ·rw[if_pos h];exact⟨rfl,rfl⟩
 rw[if_neg h];refine ae.eq (λ h=>?_) (λ h=>?_)
 ·rw[if_pos h];exact⟨rfl,rfl⟩
 rw[if_neg h];refine ae.eq (λ h=>?_) (λ h=>?_)
 ·rw[if_pos h];exact⟨rfl,rfl⟩
 rw[if_neg h];refine ae.eq (λ h=>?_) (λ h=>?_)
 ·rw[if_pos h];exact⟨rfl,rfl⟩
 rw[if_neg h];exact⟨rfl,rfl⟩
theorem vY (n:Int)(w:ah):au 208 #[aa n] w λ r w'=>r=.bool (dI n)/\w=w':=by
 refine c208 n w _ ?_;unfold dI;refine ae.dec (λ h=>?_) (λ h=>?_)
 ·rw[decide_eq_true (p:=-1000000000000<=n) ab];exact⟨rfl,rfl⟩
 ·rw[decide_eq_false (p:=-1000000000000<=n) ab];exact⟨rfl,rfl⟩
theorem Q2:∀ (l:ai) (c:UInt8),decide (0<=Lib.indexByte l c)=l.contains c
 | [],c=>by simp[Lib.indexByte]
 | b::l,c=>by
  have ih:=Q2 l c;have hg:=Lib.indexByte_ge l c;unfold Lib.indexByte;rw[List.contains_cons,<- ih]
  by_cases h:b=c
  ·subst h;simp
  ·have h1:(b==c)=false:=by simpa using h
   have h2:(c==b)=false:=by simpa using λ t=>h t.symm
   rw[h1,h2,lv];simp only[BU,if_false]
   by_cases hm:Lib.indexByte l c=-1
   ·rw[hm];simp
   ·rw[if_neg (by simpa using hm)]
    exact decide_eq_decide.2 ab
theorem ZF (l:ai)(c:UInt8)(w:ah):au 251 #[.string (str l),.string (str [c])] w λ r w'=>r=.bool (l.contains c)/\w=w':=by
 refine(Tryz.strings_Contains_one (str l) c w).mono ?_;rintro e w' ⟨rfl,rfl⟩;refine⟨_,rfl,?_,rfl⟩;rw[nn,Q2]
theorem Er (k:Int)(c:UInt8)(w:ah):au 234 #[aa k,.string (str [c])] w λ r w'=>r=.bool (dX k c)/\w=w':=by
 refine c234 k _ w _ ?_;refine an.of (Ll k w) ?_;rintro _ _ ⟨rfl,rfl⟩;refine⟨_,rfl,?_⟩;refine an.of (ZF _ c w) ?_;rintro _ _ ⟨rfl,rfl⟩;exact⟨_,rfl,rfl,rfl⟩
theorem nil_eq {t:TypeId}(ht:∃ ms,Tryz.prog.underlying t=some (.interface ms))(o:Operand){v:av}(hv:tO v)(w:ah):
  (do eqGuard .eql t o (.const .nilIface) v .nilIface;binOp .eql t v .nilIface:Sem av).run Tryz.prog w=.ok (.bool (jJ v)) w:=by
 obtain⟨ms,ht⟩:=ht
 rcases hv with rfl | ⟨u,x,rfl⟩
 ·have h1:(eqGuard .eql t o (.const .nilIface) .nilIface .nilIface).run Tryz.prog w=.ok () w:=by
   unfold eqGuard;simp
  rw[Sem.run_bind,h1,Result.andThen_ok];have h2:(Op.equalIn (9999+1) t .nilIface .nilIface).run Tryz.prog w=.ok true w:=by
   unfold Op.equalIn;simp only[Sem.run_bind,under ht,Result.andThen_ok,Sem.run_pure]
  show(do pure (Value.bool (<- Op.equalIn (9999+1) t .nilIface .nilIface)):Sem av).run Tryz.prog w=_
  rw[Sem.run_bind,h2];rfl
 ·have h1:(eqGuard .eql t o (.const .nilIface) (.iface u x) .nilIface).run Tryz.prog w=.ok () w:=by
   unfold eqGuard;rfl
  rw[Sem.run_bind,h1,Result.andThen_ok];have h2:(Op.equalIn (9999+1) t (.iface u x) .nilIface).run Tryz.prog w=.ok false w:=by
   unfold Op.equalIn;simp only[Sem.run_bind,under ht,Result.andThen_ok,Sem.run_pure]
  show(do pure (Value.bool (<- Op.equalIn (9999+1) t (.iface u x) .nilIface)):Sem av).run Tryz.prog w=_
  rw[Sem.run_bind,h2];rfl
def mj (e:fU):Array MapEntry:=#[⟨.string (str [73]),.string e.2.1,0⟩,⟨.string (str [78]),.string e.2.2.1,1⟩,⟨.string (str [76]),.string e.2.2.2.1,2⟩,⟨.string (str [67]),.string e.2.2.2.2.1,3⟩]
def HG (e:fU):Obj:=.cells #[aa e.1,.string e.2.1,.string e.2.2.1,.string e.2.2.2.1,.string e.2.2.2.2.1,aa e.2.2.2.2.2.1,aa e.2.2.2.2.2.2.1,e.2.2.2.2.2.2.2.1] 34 (0,0)
theorem Lm {a b:ai}(h:a≠b):str a≠str b:=λ t=>h (str_inj t)
theorem Q3 {e:fU}(hb:w.heap[b]? = some (HG e)){K:aS->ah->Prop}
  (h:∀ m r w1,w.heap.size<=m->w.heap.size<=r->r≠m->pL w1 r m (mj e) 4 #[]->Fr none1 w w1->w1.heap[b]? = some (HG e)->K (some ⟨r,0,none⟩) w1) :
  aC (.map #[] 0) w (λ g3 w4=>af .str ((⟨b,0,none⟩:Addr).add 1) w4 (λ(x5:ay)=>lL Tryz.prog (Instr.mapUpdate 369 (.map (some g3)) (.string (⟨#[73]⟩:ay)) (.string x5)) w4 (λ w6=>af .str ((⟨b,0,none⟩:Addr).add 2) w6 (λ(x7:ay)=>lL Tryz.prog (Instr.mapUpdate 369 (.map (some g3)) (.string (⟨#[78]⟩:ay)) (.string x7)) w6 (λ w8=>af .str ((⟨b,0,none⟩:Addr).add 3) w8 (λ(x9:ay)=>lL Tryz.prog (Instr.mapUpdate 369 (.map (some g3)) (.string (⟨#[76]⟩:ay)) (.string x9)) w8 (λ aX=>af .str ((⟨b,0,none⟩:Addr).add 4) aX (λ(bQ:ay)=>lL Tryz.prog (Instr.mapUpdate 369 (.map (some g3)) (.string (⟨#[67]⟩:ay)) (.string bQ)) aX (λ br=>aT (Instr.range 369 (.map (some g3))) br gH (λ(cA:aS) bY=>K cA bY)))))))))):=by
 have e73:(⟨#[73]⟩:ay)=str [73]:=rfl;have e78:(⟨#[78]⟩:ay)=str [78]:=rfl;have e76:(⟨#[76]⟩:ay)=str [76]:=rfl;have e67:(⟨#[67]⟩:ay)=str [67]:=rfl;rw[e73,e78,e76,e67];have tm:=Tryz.underlying369;have ts:=Tryz.underlying9;have hlb:=cQ hb;refine aC.of λ g w1 hg Q4 f1 ng=>?_;have b1:=f1.ag hb;have mM:b≠g:=ab;refine af.aw b1 rfl ?_;refine HD Q4 _ _ tm ts bm λ w2 ZG f2 _=>?_;have b2:=f2.me b1 mM;refine af.aw b2 rfl ?_;refine HD ZG _ _ tm ts (by
  intro x hx;simp at hx;subst hx;exact⟨_,rfl,Lm ar⟩) λ w3 ZH f3 _=>?_
 have b3:=f3.me b2 mM;refine af.aw b3 rfl ?_;refine HD ZH _ _ tm ts (by
  intro x hx;simp at hx;rcases hx with rfl | rfl<;>exact⟨_,rfl,Lm ar⟩) λ w4 ZI f4 _=>?_
 have b4:=f4.me b3 mM;refine af.aw b4 rfl ?_;refine HD ZI _ _ tm ts (by
  intro x hx;simp at hx;rcases hx with rfl | rfl | rfl<;>exact⟨_,rfl,Lm ar⟩) λ w5 Ln f5 _=>?_
 have b5:=f5.me b4 mM;have f15:Fr none1 w w5:=(((f1.fresh f2 ab).fresh f3 ab).fresh f4 ab).fresh f5 ab;have Q5:w5.heap[g]? = some (.map (mj e) 4):=Ln;refine Y8 tm Q5 (by
  intro x hx;simp[mj] at hx;rcases hx with rfl | rfl | rfl | rfl<;>simp) (by simp[mj]) λ r w6 hr hM f6=>?_
 have:=cQ Q5;have:=f15.size;exact h g r w6 ab ab ab hM (f15.et f6) (f6.ag b5)
theorem Q6 {e:fU}{seen:Array Nat}{gS:ay->ay->Bool}(hall:∀ x∈(mj e).toList,seen.contains x.born=true->∀ a b,x.key=.string a->x.val=.string b->gS a b=true)
  (hs:∀ x∈(mj e).toList,seen.contains x.born=true):(gS (str [73]) e.2.1&&gS (str [78]) e.2.2.1&&gS (str [76]) e.2.2.2.1&&gS (str [67]) e.2.2.2.2.1)=true:=by
 have g:=λ x hx=>hall x hx (hs x hx);rw[g ⟨.string (str [73]),.string e.2.1,0⟩ (by simp[mj]) _ _ rfl rfl,g ⟨.string (str [78]),.string e.2.2.1,1⟩ (by simp[mj]) _ _ rfl rfl,
  g ⟨.string (str [76]),.string e.2.2.2.1,2⟩ (by simp[mj]) _ _ rfl rfl,g ⟨.string (str [67]),.string e.2.2.2.2.1,3⟩ (by simp[mj]) _ _ rfl rfl]
 rfl
theorem Q7 {e:fU}{gS:ay->ay->Bool}{x:MapEntry}{a b:ay}(hx:x∈(mj e).toList)(ha:x.key=.string a)(hb:x.val=.string b)(hg:gS a b=false):
  (gS (str [73]) e.2.1&&gS (str [78]) e.2.2.1&&gS (str [76]) e.2.2.2.1&&gS (str [67]) e.2.2.2.2.1)=false:=by
 simp[mj] at hx
 rcases hx with rfl | rfl | rfl | rfl<;>(injection ha with ha;injection hb with hb;subst ha;subst hb;rw[hg];simp)
theorem Q8 {e:fU}{x:MapEntry}(hx:x∈(mj e).toList):∃ c b,x.key=.string (str [c])/\x.val=.string b:=by
 simp[mj] at hx
 rcases hx with rfl | rfl | rfl | rfl<;>exact⟨_,_,rfl,rfl⟩
def HI (a:ay):UInt8:=a.data.toList.getD 0 0
theorem B7 (c:UInt8):HI (str [c])=c:=by unfold HI;rw[nn];rfl
def Seen (e:fU)(gS:ay->ay->Bool)(seen:Array Nat):Prop:=∀ x∈(mj e).toList,seen.contains x.born=true->∀ a b,x.key=.string a->x.val=.string b->gS a b=true
theorem ZJ (e:fU):∀ x∈(mj e).toList,∀ y∈(mj e).toList,x.born=y.born->x=y:=by
 intro x hx y hy h;simp[mj] at hx hy
 rcases hx with rfl | rfl | rfl | rfl<;>rcases hy with rfl | rfl | rfl | rfl<;>first | rfl | (simp at h)
theorem Seen.push {e:fU}{gS:ay->ay->Bool}{seen:Array Nat}(h:Seen e gS seen){x:MapEntry}(hx:x∈(mj e).toList){a b:ay}(ha:x.key=.string a)(hb:x.val=.string b)(hg:gS a b=true):Seen e gS (seen.push x.born):=by
 intro y hy hc a' b' Es jF;rw[contains_push] at hc;cases hs:seen.contains y.born with
 | true=>exact h y hy hs a' b' Es jF
 | false=>
  rw[hs,lv] at hc;have:=ZJ e y hy x hx (by simpa using hc);subst this;rw[ha] at Es;rw[hb] at jF;injection Es with Es;injection jF with jF
  subst Es;subst jF;exact hg
theorem Seen.none (e:fU)(gS:ay->ay->Bool):Seen e gS #[]:=λ x hx h=>by simp at h
theorem ZK (e:fU)(w:ah):au 207 #[ke e] w λ r w'=>r=.bool (sI e)/\Fr none1 w w':=by
 refine c207 e w _ ?_;unfold C207;refine aC.of λ b w1 hb aE f1 _=>?_;refine Q3 (e:=e) aE λ m r w2 hm hr Ej hM f2 ba=>?_;obtain⟨gS,vZ⟩:∃ gS:ay->ay->Bool,gS=λ a s=>!dX e.1 (HI a)||tN s:=⟨_,rfl⟩;have hN:sI e=(gS (str [73]) e.2.1&&gS (str [78]) e.2.2.1&&gS (str [76]) e.2.2.2.1&&gS (str [67]) e.2.2.2.2.1):=by
  rw[vZ];unfold sI;simp only[B7]
 refine cp.of (λ _ w'=>∃ seen,pL w' r m (mj e) 4 seen/\Seen e gS seen/\Fr (only r) w2 w'/\w'.heap[b]? = some (HG e)) (λ _ w'=>B4 w' r m) ⟨#[],hM,Seen.none e gS,Fr.refl _ _,ba⟩ ?_;rintro _ _ w3 ⟨seen,Lo,hS,f3,bJ⟩;have fin:∀ w',Fr (only r) w2 w'->Fr none1 w w':=λ w' f=>(f1.et f2).fresh f (by have:=f1.size;omega);refine QN Lo Ej (λ x hx hc w4 zS f4 bI Lp=>?_) (λ hall=>?_)
 ·refine Lp ?_
  obtain⟨c,s,hk,hv⟩:=Q8 hx;dsimp only;rw[hk,hv];have df:=f4.me bJ (by have:=cQ aE;have:=f2.size;omega);refine af.aw df rfl ?_;refine an.of (Er e.1 c w4) ?_;rintro _ _ ⟨rfl,rfl⟩;refine⟨_,rfl,?_⟩;refine ae.by (λ h=>?_) (λ h=>?_)
  ·refine an.of (by have:=zN s.data.toList w4;rw[QP] at this;exact this) ?_
   rintro _ w5 ⟨rfl,f5⟩;refine⟨_,rfl,ae.not (ae.by (λ hn=>?_) (λ hn=>?_))⟩
   ·refine⟨⟨_,zS.ag f5,hS.push hx hk hv ?_,(f3.trans f4).et f5,f5.ag df⟩,?_⟩
    ·rw[vZ];dsimp only;unfold tN;rw[hn];simp
    ·rw[(zS.ag f5).left,<- zS.left];exact bI
   ·refine⟨?_,(fin _ (f3.trans f4)).trans f5⟩
    rw[hN,Q7 hx hk hv];rw[vZ];dsimp only;rw[B7,h];unfold tN;rw[hn];rfl
  ·refine⟨⟨_,zS,hS.push hx hk hv ?_,f3.trans f4,df⟩,bI⟩
   rw[vZ];dsimp only;rw[B7,h];rfl
 ·refine⟨?_,fin _ f3⟩
  rw[hN,Q6 hS hall]
theorem ZL (e:fU)(hT:tO e.2.2.2.2.2.2.2.1)(w:ah):au 206 #[ke e] w λ r w'=>r=.bool (qB e)/\Fr none1 w w':=by
 refine c206 e w _ ?_;unfold C206;refine aC.of λ b w1 hb aE f1 _=>?_;refine Q3 (e:=e) aE λ m r w2 hm hr Ej hM f2 ba=>?_;obtain⟨gS,vZ⟩:∃ gS:ay->ay->Bool,gS=λ a s=>lz s||dX e.1 (HI a):=⟨_,rfl⟩;have hN:qB e=((gS (str [73]) e.2.1&&gS (str [78]) e.2.2.1&&gS (str [76]) e.2.2.2.1&&gS (str [67]) e.2.2.2.2.1) &&
   ((e.2.2.2.2.2.1==0||dX e.1 68)&&(e.2.2.2.2.2.2.1==0||dX e.1 86)&&(jJ e.2.2.2.2.2.2.2.1||dX e.1 84))):=by
  rw[vZ];unfold qB;simp only[B7]
 refine cp.of (λ _ w'=>∃ seen,pL w' r m (mj e) 4 seen/\Seen e gS seen/\Fr (only r) w2 w'/\w'.heap[b]? = some (HG e)) (λ _ w'=>B4 w' r m) ⟨#[],hM,Seen.none e gS,Fr.refl _ _,ba⟩ ?_;rintro _ _ w3 ⟨seen,Lo,hS,f3,bJ⟩;have fin:∀ w',Fr (only r) w2 w'->Fr none1 w w':=λ w' f=>(f1.et f2).fresh f (by have:=f1.size;omega);refine QN Lo Ej (λ x hx hc w4 zS f4 bI Lp=>?_) (λ hall=>?_)
 ·refine Lp ?_
  obtain⟨c,s,hk,hv⟩:=Q8 hx;dsimp only;rw[hk,hv];have df:=f4.me bJ (by have:=cQ aE;have:=f2.size;omega);refine ae.by (λ hs=>?_) (λ hs=>?_)
  ·have Lq:lz s=false:=by unfold lz;simpa using hs
   refine af.aw df rfl ?_;refine an.of (Er e.1 c w4) ?_;rintro _ _ ⟨rfl,rfl⟩;refine⟨_,rfl,ae.not (ae.by (λ h=>?_) (λ h=>?_))⟩
   ·refine⟨⟨_,zS,hS.push hx hk hv ?_,f3.trans f4,df⟩,bI⟩
    rw[vZ];dsimp only;rw[B7,h];simp
   ·refine⟨?_,fin _ (f3.trans f4)⟩
    rw[hN,Q7 hx hk hv (by rw[vZ];dsimp only;rw[B7,h,Lq];rfl)];rfl
  ·have Lq:lz s=true:=by unfold lz;simpa using hs
   refine⟨⟨_,zS,hS.push hx hk hv ?_,f3.trans f4,df⟩,bI⟩;rw[vZ];dsimp only;rw[Lq];rfl
 ·have hg:=Q6 hS hall
  rw[hN,hg,iF];have fr:=fin _ f3;have Q9:∀ (d v:Bool),d=true->v=true->af .raw ((⟨b,0,none⟩:Addr).add 7) w3 (λ(dt:av)=>aT (do eqGuard .eql 32 (.tmp 32) (.const .nilIface) dt .nilIface;binOp .eql 32 dt .nilIface) w3 bK (λ(gx:Bool) fT=>ae gx
    ((.bool true:av)=.bool (d&&v&&(jJ e.2.2.2.2.2.2.2.1||dX e.1 84))/\Fr none1 w fT)
    (af (.int .i64) ((⟨b,0,none⟩:Addr).add 0) fT (λ(fD:Int)=>ak 234 #[aa fD,.string (⟨#[84]⟩:ay)] fT bK (λ(eY:Bool) dW=>(.bool eY:av)=.bool (d&&v&&(jJ e.2.2.2.2.2.2.2.1||dX e.1 84))/\Fr none1 w dW))))):=by
   rintro d v rfl rfl;refine af.aw bJ (x:=e.2.2.2.2.2.2.2.1) rfl ?_;refine⟨jJ e.2.2.2.2.2.2.2.1,w3,nil_eq ⟨_,Tryz.underlying32⟩ _ hT w3,?_⟩;refine ae.by (λ h=>?_) (λ h=>?_)
   ·rw[h];exact⟨rfl,fr⟩
   ·refine af.aw bJ rfl ?_
    refine an.of (Er e.1 84 w3) ?_;rintro _ _ ⟨rfl,rfl⟩;rw[h];exact⟨_,rfl,by simp,fr⟩
  have hval:∀ d:Bool,d=true->af (.int .i64) ((⟨b,0,none⟩:Addr).add 6) w3 (λ(gB:Int)=>ae (gB==0)
    (af .raw ((⟨b,0,none⟩:Addr).add 7) w3 (λ(dt:av)=>aT (do eqGuard .eql 32 (.tmp 32) (.const .nilIface) dt .nilIface;binOp .eql 32 dt .nilIface) w3 bK (λ(gx:Bool) fT=>ae gx
     ((.bool true:av)=.bool (d&&(e.2.2.2.2.2.2.1==0||dX e.1 86)&&(jJ e.2.2.2.2.2.2.2.1||dX e.1 84))/\Fr none1 w fT)
     (af (.int .i64) ((⟨b,0,none⟩:Addr).add 0) fT (λ(fD:Int)=>ak 234 #[aa fD,.string (⟨#[84]⟩:ay)] fT bK (λ(eY:Bool) dW=>(.bool eY:av)=.bool (d&&(e.2.2.2.2.2.2.1==0||dX e.1 86)&&(jJ e.2.2.2.2.2.2.2.1||dX e.1 84))/\Fr none1 w dW))))))
    (af (.int .i64) ((⟨b,0,none⟩:Addr).add 0) w3 (λ(ka:Int)=>ak 234 #[aa ka,.string (⟨#[86]⟩:ay)] w3 bK (λ(gn:Bool) gq=>ae gn
     (af .raw ((⟨b,0,none⟩:Addr).add 7) gq (λ(mi:av)=>aT (do eqGuard .eql 32 (.tmp 32) (.const .nilIface) mi .nilIface;binOp .eql 32 mi .nilIface) gq bK (λ(gC:Bool) iI=>ae gC
      ((.bool true:av)=.bool (d&&(e.2.2.2.2.2.2.1==0||dX e.1 86)&&(jJ e.2.2.2.2.2.2.2.1||dX e.1 84))/\Fr none1 w iI)
      (af (.int .i64) ((⟨b,0,none⟩:Addr).add 0) iI (λ(mL:Int)=>ak 234 #[aa mL,.string (⟨#[84]⟩:ay)] iI bK (λ(lP:Bool) jH=>(.bool lP:av)=.bool (d&&(e.2.2.2.2.2.2.1==0||dX e.1 86)&&(jJ e.2.2.2.2.2.2.2.1||dX e.1 84))/\Fr none1 w jH))))))
     ((.bool false:av)=.bool (d&&(e.2.2.2.2.2.2.1==0||dX e.1 86)&&(jJ e.2.2.2.2.2.2.2.1||dX e.1 84))/\Fr none1 w gq))))):=by
   rintro d rfl;refine af.aw bJ rfl ?_;refine ae.by (λ h=>?_) (λ h=>?_)
   ·exact Q9 true _ rfl (by rw[h];rfl)
   ·refine af.aw bJ rfl ?_
    refine an.of (Er e.1 86 w3) ?_;rintro _ _ ⟨rfl,rfl⟩;refine⟨_,rfl,ae.by (λ h2=>?_) (λ h2=>?_)⟩
    ·exact Q9 true _ rfl (by rw[h2];simp)
    ·refine⟨?_,fr⟩
     rw[h,h2];rfl
  refine af.aw bJ rfl ?_;refine ae.by (λ h=>?_) (λ h=>?_)
  ·exact hval _ (by rw[h];rfl)
  ·refine af.aw bJ rfl ?_
   refine an.of (Er e.1 68 w3) ?_;rintro _ _ ⟨rfl,rfl⟩;refine⟨_,rfl,ae.by (λ h2=>?_) (λ h2=>?_)⟩
   ·exact hval _ (by rw[h2];simp)
   ·refine⟨?_,fr⟩
    rw[h,h2];rfl
theorem Lr (e:fU)(hT:tO e.2.2.2.2.2.2.2.1)(tr:Int)(w:ah)
  (ht:e.1=2->∀ w1,Fr none1 w w1->au 209 #[e.2.2.2.2.2.2.2.1] w1 λ r w'=>(∃ s,r=.tuple #[.string s,aa tr])/\Fr none1 w1 w') :
  au 171 #[ke e] w λ r w'=>r=aa (pN e tr)/\Fr none1 w w':=by
 refine c171 e w _ ?_;unfold C171;refine aC.of λ b w1 hb aE f1 _=>?_;refine af.aw aE rfl ?_;refine an.of (Ll e.1 w1) ?_;rintro _ _ ⟨rfl,rfl⟩;refine⟨_,rfl,?_⟩;unfold pN;have e63:(⟨#[63]⟩:ay)=str [63]:=rfl;have ZM:((str (iS e.1)).toList==(⟨#[63]⟩:ay).toList)=decide (iS e.1=[63]):=by rw[e63,ly]
 rw[ZM];refine ae.dec (λ h=>?_) (λ h=>?_)
 ·rw[if_pos h];exact⟨rfl,f1⟩
 rw[if_neg h];refine aF.aR (x:=e) aE ?_;refine an.of (ZL e hT w1) ?_;rintro _ w2 ⟨rfl,f2⟩;refine⟨_,rfl,ae.not (ae.by (λ ho=>?_) (λ ho=>?_))⟩
 case refine_2=>rw[if_pos ho];exact⟨rfl,f1.trans f2⟩
 rw[if_neg (by simp[ho])];have ba:=f2.ag aE;refine aF.aR (x:=e) ba ?_;refine an.of (ZK e w2) ?_;rintro _ w3 ⟨rfl,f3⟩;have f13:=(f1.trans f2).trans f3;refine⟨_,rfl,ae.not (ae.by (λ hn=>?_) (λ hn=>?_))⟩
 case refine_2=>rw[if_pos hn];exact⟨rfl,f13⟩
 rw[if_neg (by simp[hn])];have bJ:=f3.ag ba;refine af.aw bJ (x:=e.2.2.2.2.2.1) rfl ?_;refine ae.dec (λ h=>?_) (λ h=>?_)
 ·rw[if_pos h];exact⟨rfl,f13⟩
 rw[if_neg h];refine af.aw bJ (x:=e.2.2.2.2.2.1) rfl ?_;refine ae.dec (λ h=>?_) (λ h=>?_)
 ·rw[if_pos h];exact⟨rfl,f13⟩
 rw[if_neg h];refine af.aw bJ (x:=e.2.2.2.2.2.2.1) rfl ?_;refine an.of (vY e.2.2.2.2.2.2.1 w3) ?_;rintro _ _ ⟨rfl,rfl⟩;refine⟨_,rfl,ae.not (ae.by (λ hv=>?_) (λ hv=>?_))⟩
 case refine_2=>rw[if_pos hv];exact⟨rfl,f13⟩
 rw[if_neg (by simp[hv])];refine dc.of (λ s w'=>s.1=decide (e.1=4/\e.2.2.2.2.2.2.1≠0/\e.2.2.2.2.2.2.1≠1)/\w3=w') ?_ ?_
 ·refine af.aw bJ (x:=e.1) rfl ?_
  refine ae.eq (λ h4=>?_) (λ h4=>?_)
  ·refine af.aw bJ (x:=e.2.2.2.2.2.2.1) rfl ?_
   refine ae.ne (λ h0=>?_) (λ h0=>?_)
   ·refine af.aw bJ (x:=e.2.2.2.2.2.2.1) rfl ⟨?_,rfl⟩
    dsimp only
    by_cases h1:e.2.2.2.2.2.2.1=1
    ·rw[decide_eq_false (λ t=>t.2.2 h1),h1];rfl
    ·rw[decide_eq_true ⟨h4,h0,h1⟩];simpa using h1
   ·exact⟨by dsimp only;rw[decide_eq_false (λ t=>t.2.1 h0)],rfl⟩
  ·exact⟨by dsimp only;rw[decide_eq_false (λ t=>h4 t.1)],rfl⟩
 ·rintro _ ⟨s,_⟩ _ ⟨hs,rfl⟩
  dsimp only at hs ⊢;rw[hs];refine ae.dec (λ h=>?_) (λ h=>?_)
  ·rw[if_pos h];exact⟨rfl,f13⟩
  rw[if_neg h];refine af.aw bJ (x:=e.1) rfl ?_;refine ae.eq (λ h2=>?_) (λ h2=>?_)
  ·rw[if_pos h2]
   refine af.aw bJ (x:=e.2.2.2.2.2.2.2.1) rfl ?_;refine an.of (ht h2 w3 f13) ?_;rintro _ w4 ⟨⟨s',rfl⟩,f4⟩;exact⟨(s',tr,()),rfl,rfl,f13.trans f4⟩
  ·rw[if_neg h2];exact⟨rfl,f13⟩
theorem ZN:jR Tryz.prog 283 21 1 (.int .i32 0) 4:=⟨Tryz.underlying283,⟨Tryz.t21,by kernel_rfl,rfl,rfl,rfl⟩,rfl,by decide⟩
def nW (w:ah)(v:Sl)(rs:List Int):Prop:=aV w 21 1 v (rs.map (Value.int .i32))
theorem nW.gm {v:Sl}{rs:List Int}(h:nW w v rs):(convert 283 9 (.slice v.1 v.2.1 v.2.2)).run Tryz.prog w=.ok (.string (str (gm rs))) w:=by
 have hr:=aV.rd h;have hl:=aV.len h;rw[eI,jg] at hl;obtain⟨h1,h2,h3⟩:=hr;cases hv:v.1 with
 | none=>
  have:=(h2 hv).2.2;have:rs=[]:=by simpa using this
  subst this;exact run_convert_runes_nil w _ _ _ _ _ Tryz.underlying283 Tryz.underlying21 Tryz.underlying9
 | some a=>
  have hc:=h3 a hv;rw[run_convert_runes w _ _ _ a v.2.1 v.2.2 rs ab Tryz.underlying283 Tryz.underlying21 Tryz.underlying9 (λ j hj=>?_),gV ab,Zk];have:=BK _ 0 j (.int .i32 (rs.getD j 0)) hc (by rw[ig,dB,cV hj];rfl);rwa[eP] at this
theorem ZO {v:Sl}{rs:List Int}(h:nW w v rs)(c:Int)(hl:rs.length<=1000000){K:Sl->ah->Prop}
  (hK:∀ y w',nW w' y (rs++[c])->Fr (aH v) w w'->(∀ k,aH y k->aH v k\/w.heap.size<=k)->K y w') :
  aT (Instr.buildSlice 283 1 #[(0,.int .i32 c)]) w aM λ(y:aS×Nat×Nat) w'=>
   aT (Builtin.append_ #[283,283] 283 #[.slice v.1 v.2.1 v.2.2,.slice y.1 y.2.1 y.2.2]) w' aM λ(u:aS×Nat×Nat) rn=>K u rn:=by
 have dD:=aV.len h;rw[eI,jg] at dD;refine K6 ZN 283 h (.int .i32 c) rfl rfl ab λ y w' hy _ f yf=>hK y w' ?_ f yf;unfold nW;rw[jG];exact hy
theorem nW.ld {v:Sl}{rs:List Int}(h:nW w v rs){i:Int}(h0:0<=i)(h1:i<v.2.1){K:Int->Prop}(k:K (rs.getD i.toNat 0)):cz v.1 v.2.1 i 1 λ p=>af (.int .i32) p w K:=by
 have hl:=aV.len h;rw[eI,jg] at hl;refine aV.ld h h0 h1 (x:=rs.getD i.toNat 0) ?_ k;rw[ig,dB,cV ab];rfl
theorem nW.len {v:Sl}{rs:List Int}(h:nW w v rs):v.2.1=rs.length:=by
 have hl:=aV.len h;rw[eI,jg] at hl;exact hl.symm
def C147 (p0:di)(w:ah)(K:aP):Prop:=
 aC (.cells ((cO p0).toArray) 34) w (λ g1 w2=>aF fO (ad g1) w2 (λ(x3:di)=>ak 171 #[.agg (cO x3).toArray] w2 bN (λ(x4:Int) w5=>ae (x4 != 0)
 (K (.tuple #[.slice none 0 0,aa x4]) w5)
 (af (.int .i64) ((ad g1).add 0) w5 (λ(x6:Int)=>aT (Instr.buildSlice 22 1 #[(0,.int .u8 (IntKind.u8.wrap x6))]) w5 aM (λ(x7:aB) w8=>af (.int .i64) ((ad g1).add 0) w8 (λ(x9:Int)=>ak 145 #[aa x9] w8 aM (λ(bG:aB) bt=>cp (aB×Int×Unit) (λ _ gd bM Et=>ae (decide (gd.2.1<(bG.2.1:Int)))
 (cz bG.1 bG.2.1 gd.2.1 1 (λ zT=>af (.int .i32) zT bM (λ(bP:Int)=>aF fO (ad g1) bM (λ(bZ:di)=>ak 184 #[.agg (cO bZ).toArray,.int .i32 bP] bM pI (λ(cF:aB×Int×Unit) ct=>ae (cF.2.1 != 0)
 (K (.tuple #[.slice none 0 0,aa cF.2.1]) ct)
 (aT (Builtin.append_ #[22,22] 22 #[.slice gd.1.1 gd.1.2.1 gd.1.2.2,.slice cF.1.1 cF.1.2.1 cF.1.2.2]) ct aM (λ(dE:aB) cr=>Et ((dE.1,dE.2.1,dE.2.2),IntKind.i64.wrap (gd.2.1+1),()) cr)))))))
 (K (.tuple #[.slice gd.1.1 gd.1.2.1 gd.1.2.2,aa 0]) bM))
 ((x7.1,x7.2.1,x7.2.2),0,()) bt))))))))
def pl147:aN:=(.seq .auto (.seq .auto (.seq .auto (.seq (.seq .auto (.block (.loop [(5,.one .bE),(23,.one (.int .i64))] .auto))) .auto))))
theorem c147 (p0 w K)(h:C147 p0 w K):au 147 #[.agg (cO p0).toArray] w K:=aQ Tryz.func147 (p:=pl147) aA h
def C145 (p0:Int)(w:ah)(K:aP):Prop:=
 aT (Instr.range 9 (.string (⟨#[73,78,76,67,68,86,84]⟩:ay))) w gH (λ(x1:aS) w2=>cp (aB×Unit) (λ _ s3 w4 nT=>Bt x1 w4 (λ x6 x7 w8=>ak 180 #[aa p0] w8 eu (λ(x9:ay) aX=>aT (Instr.range 9 (.string x9)) aX gH (λ(bQ:aS) br=>cp (aB×Unit) (λ _ mN bY HJ=>Bt bQ bY (λ bP bZ b9=>ae (bZ==x7)
 (aT (Instr.buildSlice 283 1 #[(0,.int .i32 x7)]) b9 aM (λ(cJ:aB) bW=>aT (Builtin.append_ #[283,283] 283 #[.slice mN.1.1 mN.1.2.1 mN.1.2.2,aO cJ]) bW aM (λ(du:aB) cH=>HJ ((du.1,du.2.1,du.2.2),()) cH)))
 (HJ ((mN.1.1,mN.1.2.1,mN.1.2.2),()) b9))
 (nT ((mN.1.1,mN.1.2.1,mN.1.2.2),()) bY))
 ((s3.1.1,s3.1.2.1,s3.1.2.2),()) br)))
 (K (.slice s3.1.1 s3.1.2.1 s3.1.2.2) w4))
 ((none,0,0),()) w2)
def pl145:aN:=(.seq .auto (.seq .auto (.seq (.seq .auto (.block (.loop [(3,.one .bE)] (.seq .auto (.seq .auto (.block (.seq .auto (.seq .auto (.block (.loop [(3,.one .bE)] .auto)))))))))) .auto)))
theorem c145 (p0 w K)(h:C145 p0 w K):au 145 #[aa p0] w K:=aQ Tryz.func145 (p:=pl145) aA h
def C184 (p0:di)(p1:Int)(w:ah)(K:aP):Prop:=
 aC (.cells ((cO p0).toArray) 34) w (λ g1 w2=>ae (p1==68)
 (af (.int .i64) ((ad g1).add 5) w2 (λ(x3:Int)=>ak 168 #[aa x3] w2 aM (λ(x4:aB) w5=>K (.tuple #[aO x4,aa 0]) w5)))
 (ae (p1==86)
 (af (.int .i64) ((ad g1).add 6) w2 (λ(x6:Int)=>ak 168 #[aa x6] w2 aM (λ(x7:aB) w8=>K (.tuple #[aO x7,aa 0]) w8)))
 (ae (p1==84)
 (af .raw ((ad g1).add 7) w2 (λ(x9:av)=>ak 209 #[x9] w2 (.bR [.one .str,.one (.int .i64)]) (λ(bG:ay×Int×Unit) bt=>mb 8 (aT (Instr.buildSlice 22 2 #[(0,.int .u8 (IntKind.u8.wrap (Int.fdiv (bG.1.size:Int) (2 ^ (min (Int.toNat 8) 64))))),(1,.int .u8 (IntKind.u8.wrap (bG.1.size:Int)))]) bt aM (λ(cn:aB) bM=>aT (Builtin.append_ #[22,9] 22 #[aO cn,.string bG.1]) bM aM (λ(cj:aB) cB=>K (.tuple #[aO cj,aa bG.2.1]) cB))))))
 (ae (p1==73)
 (af .str ((ad g1).add 1) w2 (λ(bP:ay)=>aT (Instr.buildSlice 22 1 #[(0,.int .u8 (IntKind.u8.wrap (bP.size:Int)))]) w2 aM (λ(bZ:aB) b9=>aT (Builtin.append_ #[22,9] 22 #[aO bZ,.string bP]) b9 aM (λ(cJ:aB) bW=>K (.tuple #[aO cJ,aa 0]) bW))))
 (ae (p1==78)
 (af .str ((ad g1).add 2) w2 (λ(du:ay)=>aT (Instr.buildSlice 22 1 #[(0,.int .u8 (IntKind.u8.wrap (du.size:Int)))]) w2 aM (λ(cW:aB) dM=>aT (Builtin.append_ #[22,9] 22 #[aO cW,.string du]) dM aM (λ(dr:aB) eJ=>K (.tuple #[aO dr,aa 0]) eJ))))
 (ae (p1==76)
 (af .str ((ad g1).add 3) w2 (λ(eX:ay)=>aT (Instr.buildSlice 22 1 #[(0,.int .u8 (IntKind.u8.wrap (eX.size:Int)))]) w2 aM (λ(eD:aB) cS=>aT (Builtin.append_ #[22,9] 22 #[aO eD,.string eX]) cS aM (λ(eQ:aB) cN=>K (.tuple #[aO eQ,aa 0]) cN))))
 (ae (p1==67)
 (af .str ((ad g1).add 4) w2 (λ(dt:ay)=>aT (Instr.buildSlice 22 1 #[(0,.int .u8 (IntKind.u8.wrap (dt.size:Int)))]) w2 aM (λ(gx:aB) fT=>aT (Builtin.append_ #[22,9] 22 #[aO gx,.string dt]) fT aM (λ(fD:aB) gh=>K (.tuple #[aO fD,aa 0]) gh))))
 (aT (Instr.buildSlice 22 1 #[(0,.int .u8 (IntKind.u8.wrap ((⟨#[]⟩:ay).size:Int)))]) w2 aM (λ(gW:aB) fI=>aT (Builtin.append_ #[22,9] 22 #[aO gW,aj]) fI aM (λ(gn:aB) gq=>K (.tuple #[aO gn,aa 0]) gq))))))))))
def pl184:aN:=.auto
theorem c184 (p0 p1 w K)(h:C184 p0 p1 w K):au 184 #[.agg (cO p0).toArray,.int .i32 p1] w K:=aQ Tryz.func184 (p:=pl184) aA h
def C149 (p0:mf)(w:ah)(K:aP):Prop:=
 aC (.cells ((kV p0).toArray) 68) w (λ g1 w2=>aF fO ((ad g1).add 0) w2 (λ(x3:di)=>ak 147 #[.agg (cO x3).toArray] w2 pI (λ(x4:aB×Int×Unit) w5=>ae (x4.2.1 != 0)
 (K (.tuple #[.slice none 0 0,aa x4.2.1]) w5)
 (af .bool ((ad g1).add 8) w5 (λ(x6:Bool)=>ae x6
 (aT (Instr.buildSlice 22 1 #[(0,.int .u8 1)]) w5 aM (λ(x7:aB) w8=>aT (Builtin.append_ #[22,22] 22 #[aO x7,.slice x4.1.1 x4.1.2.1 x4.1.2.2]) w8 aM (λ(x9:aB) aX=>K (.tuple #[aO x9,aa 0]) aX)))
 (aT (Instr.buildSlice 22 1 #[(0,.int .u8 0)]) w5 aM (λ(bQ:aB) br=>aT (Builtin.append_ #[22,22] 22 #[aO bQ,.slice x4.1.1 x4.1.2.1 x4.1.2.2]) br aM (λ(cA:aB) bY=>K (.tuple #[aO cA,aa 0]) bY))))))))
def pl149:aN:=.auto
theorem c149 (p0 w K)(h:C149 p0 w K):au 149 #[.agg (kV p0).toArray] w K:=aQ Tryz.func149 (p:=pl149) aA h
def fV (b:UInt8):Int:=(b.toNat:Int)
def tP:ai:=[73,78,76,67,68,86,84]
def gJ (k:Int):ai:=tP.filter (dX k)
def nr (s:ai):ai:=UInt8.ofNat (s.length % 256)::s
def xT (e:fU)(c:UInt8):ay:=if c=73 then e.2.1 else if c=78 then e.2.2.1 else if c=76 then e.2.2.2.1 else if c=67 then e.2.2.2.2.1 else(⟨#[]⟩:ay)
def gX (e:fU)(ts:ai)(c:UInt8):ai:=
 if c=68 then dj e.2.2.2.2.2.1 else if c=86 then dj e.2.2.2.2.2.2.1 else if c=84 then UInt8.ofNat (ts.length / 256 % 256)::UInt8.ofNat (ts.length % 256)::ts else nr (xT e c).data.toList
def lA (e:fU)(ts:ai)(tr:Int):ai×Int:=
 if pN e tr≠0 then([],pN e tr) else(UInt8.ofNat (e.1 % 256).toNat::(gJ e.1).flatMap (gX e ts),0)
def tQ (e:fU):Prop:=e.2.1.size<=1000000/\e.2.2.1.size<=1000000/\e.2.2.2.1.size<=1000000/\e.2.2.2.2.1.size<=1000000
theorem ZP:dL tP=tP.map fV:=by decide +kernel
theorem ZQ (k:Int):dL (iS k)=(iS k).map fV:=by
 unfold iS
 repeat' split
 all_goals decide +kernel
theorem ZR (k:Int)(c:UInt8):((iS k).map fV).filter (·==fV c)=if dX k c then[fV c] else[]:=by
 have h:∀ l:ai,l.Nodup->(l.map fV).filter (·==fV c)=if l.contains c then[fV c] else[]:=by
  intro l hn
  induction l with
  | nil=>rfl
  | cons a l ih=>
   rw[List.nodup_cons] at hn;have ih:=ih hn.2;rw[gU,List.filter_cons]
   by_cases ha:a=c
   ·subst ha
    have:l.contains a=false:=by simpa using hn.1
    rw[ih,this];simp
   ·have h1:(fV a==fV c)=false:=by
     simp only[beq_eq_false_iff_ne];unfold fV;intro t;exact ha (UInt8.toNat_inj.1 ab)
    rw[h1,ih];have h2:(c==a)=false:=by simpa using λ t=>ha t.symm
    simp only[List.contains_cons,h2,lv];rfl
 exact h _ (by unfold iS;(repeat' split);all_goals decide)
theorem Ra (k:Int)(w:ah):au 145 #[aa k] w λ r w'=>∃ v:Sl,r=.slice v.1 v.2.1 v.2.2/\nW w' v ((gJ k).map fV)/\Fr none1 w w'/\∀ k,aH v k->w.heap.size<=k:=by
 refine c145 k w _ ?_;unfold C145;have eo:(⟨#[73,78,76,67,68,86,84]⟩:ay)=str tP:=rfl;rw[eo];refine HF tP λ r w1 hr hit f1=>?_;rw[ZP] at hit;have s1:=f1.size;refine cp.of (λ s w'=>∃ acc rest:ai,acc++rest.filter (dX k)=gJ k/\rest.length<=7/\acc.length+rest.length<=7/\nW w' s.1 (acc.map fV)/\(∀ k,aH s.1 k->w.heap.size<=k/\k≠r)/\mg w' r (rest.map fV)/\Fr none1 w w')
  (λ _ w'=>qA w' r) ⟨[],tP,rfl,by decide,by decide,.inl ⟨rfl,rfl⟩,(λ k ⟨a,ha,_⟩=>by cases ha),hit,f1⟩ ?_
 rintro _ ⟨v,_⟩ w2 ⟨acc,rest,heq,tR,HK,hv,kI,uT,f2⟩;dsimp only at hv kI ⊢;have rlt:=uT.lt;refine HE uT (λ c oW pos w3 hc kH tL f3=>?_) (λ mh=>?_)
 ·cases rest with
  | nil=>cases hc
  | cons d rest=>
   rw[gU] at hc;injection hc with hc uL
   subst hc uL;have tM:Fr none1 w w3:=f2.fresh f3 ab;have uW:nW w3 v (acc.map fV):=aV.ao hv f3 (λ k hk t=>(kI k hk).2 t);refine an.of (Ll k w3) ?_;rintro _ _ ⟨rfl,rfl⟩;refine⟨_,rfl,?_⟩;refine HF (iS k) λ q w4 hq xU f4=>?_;rw[ZQ] at xU;have r3:=tL.lt;have Eu:Fr none1 w w4:=tM.trans f4;have sw3:=tM.size;simp only[cY] at tR HK;rw[List.filter_cons] at heq;refine cp.of (λ s w'=>∃ zU xV:ai,zU.map fV++(xV.map fV).filter (·==fV d)=acc.map fV++(if dX k d then[fV d] else[])/\nW w' s.1 (zU.map fV)/\(∀ k,aH s.1 k->w.heap.size<=k/\k≠r/\k≠q)/\mg w' q (xV.map fV) /\
     mg w' r (rest.map fV)/\Fr none1 w w') (λ _ w'=>qA w' q)
    ⟨acc,iS k,by rw[ZR],aV.ag uW f4,(λ k hk=>⟨(kI k hk).1,(kI k hk).2,by have:=aV.lt uW hk;omega⟩),xU,tL.ag f4,Eu⟩ ?_
   rintro _ ⟨v2,_⟩ w5 ⟨zU,xV,pO,mn,sJ,Ls,Ev,f5⟩;dsimp only at mn sJ ⊢;have qlt:=Ls.lt;refine HE Ls (λ x aia aib w6 hx aic B8 f6=>?_) (λ ZS=>?_)
   ·cases xV with
    | nil=>cases hx
    | cons y xV=>
     rw[gU] at hx;injection hx with hx zV
     subst hx zV;have Lt:Fr none1 w w6:=f5.fresh f6 ab;have Rb:nW w6 v2 (zU.map fV):=aV.ao mn f6 (λ k hk t=>(sJ k hk).2.2 t);have tS:=Ev.ao f6 (λ t=>by have:r=q:=t;omega);have l6:qA w6 q<qA w5 q:=by rw[B8.left,Ls.left];simp
     rw[gU,List.filter_cons] at pO;have Lu:zU.length<=acc.length+1:=by
      have:=congrArg List.length pO;rw[bU,bU,eI,eI] at this;have h3:(if dX k d then[fV d] else[]).length<=1:=by split<;>simp
      omega
     refine ae.by (λ he=>?_) (λ aL=>?_)
     ·rw[he,if_pos rfl] at pO
      have ZT:fV y=fV d:=by simpa using he
      refine ZO Rb (fV d) (by rw[eI];omega) λ u w7 hu f7 uf=>?_;have aid:=B8.lt;have aie:=tS.lt;refine⟨⟨zU++[d],xV,?_,by rw[jG];exact hu,λ k hk=>?_,B8.ao f7 (λ t=>(sJ q t).2.2 rfl),tS.ao f7 (λ t=>(sJ r t).2.1 rfl),Lt.comp f7 (λ k hk t=>by have:=(sJ k t).1;omega)⟩,?_⟩
      ·rw[<- pO,ZT];simp
      ·rcases uf k hk with t | t
       ·exact sJ k t
       ·have:=Lt.size;exact⟨by omega,by omega,by omega⟩
      ·rw[(B8.ao f7 (λ t=>(sJ q t).2.2 rfl)).left,<- B8.left];exact l6
     ·rw[if_neg (by rw[aL];simp)] at pO
      exact⟨⟨zU,xV,pO,Rb,sJ,B8,tS,Lt⟩,l6⟩
   ·have:xV=[]:=by simpa using ZS
    subst this;rw[gb,List.filter_nil,dV] at pO
    by_cases hh:dX k d=true
    ·rw[hh] at heq pO
     simp only[if_true] at heq pO;refine⟨⟨acc++[d],rest,by rw[<- heq];simp,by omega,by simp;omega,?_,λ k hk=>⟨(sJ k hk).1,(sJ k hk).2.1⟩,Ev,f5⟩,by rw[Ev.left,uT.left];simp⟩;rw[jG];rw[pO] at mn;exact mn
    ·have ZU:dX k d=false:=by simpa using hh
     rw[ZU] at heq pO;simp only[BU,if_false,dV] at heq pO;refine⟨⟨acc,rest,heq,by omega,by omega,?_,λ k hk=>⟨(sJ k hk).1,(sJ k hk).2.1⟩,Ev,f5⟩,by rw[Ev.left,uT.left];simp⟩;rw[pO] at mn;exact mn
 ·have:rest=[]:=by simpa using mh
  subst this;rw[List.filter_nil,dV] at heq;exact⟨v,rfl,by rw[<- heq];exact hv,f2,λ k hk=>(kI k hk).1⟩
theorem Rc (hd:ai)(h0:hd.length<=100)(s:ay)(hs:s.size<=1000000){K:Sl->ah->Prop}(k:∀ u w',cT w' u (hd++s.data.toList)->Fr none1 w w'->(∀ k,aH u k->w.heap.size<=k)->K u w'):
  aT (Instr.buildSlice 22 hd.length (((hd.map bc).zipIdx.map λ(v,i)=>(i,v)).toArray)) w aM (λ(x:aS×Nat×Nat) w1=>aT (Builtin.append_ #[22,9] 22 #[.slice x.1 x.2.1 x.2.2,.string s]) w1 aM (λ(y:aS×Nat×Nat) w2=>K y w2)):=by
 obtain⟨x,w1,hr,hx,nU,f1,hf⟩:=vR (P:=Tryz.prog) (w:=w) qu (hd.map bc) (by intro v hv;obtain⟨x,_,rfl⟩:=kF.1 hv;rfl) (by simp;omega);rw[eI] at hr nU;refine⟨x,w1,hr,?_⟩;obtain⟨u,w2,iD,hu,_,f2,uf⟩:=YQ qu 22 Tryz.underlying9 hx s (by rw[nU];omega);refine⟨u,w2,iD,k u w2 ?_ (f1.comp f2 λ k hk t=>by have:=hf k t;omega) λ k hk=>?_⟩
 ·unfold cT
  rw[jG];exact hu
 ·rcases uf k hk with t | t
  ·exact hf k t
  ·exact ez f1.size t
theorem Lv (n:Nat):Value.int .u8 (IntKind.u8.wrap (n:Int))=bc (UInt8.ofNat (n % 256)):=by
 unfold bc;rw[Lb,sG (tK _ ar)]
theorem ZV (e:fU)(hz:tQ e)(c:UInt8)(ts:ai)(lR:ts.length<=1000000)(tr:Int)(w:ah)
  (ht:c=84->∀ w1,Fr none1 w w1->au 209 #[e.2.2.2.2.2.2.2.1] w1 λ r w'=>r=.tuple #[.string (str ts),aa tr]/\Fr none1 w1 w') :
  au 184 #[ke e,.int .i32 (fV c)] w λ r w'=>∃ v:Sl,r=.tuple #[.slice v.1 v.2.1 v.2.2,aa (if c=84 then tr else 0)]/\cT w' v (gX e ts c)/\Fr none1 w w'/\∀ k,aH v k->w.heap.size<=k:=by
 refine c184 e (fV c) w _ ?_;unfold C184;refine aC.of λ b w1 hb aE f1 aif=>?_;have s1:=f1.size;have aL:∀ {d:UInt8},c≠d->(fV c==fV d)=false:=λ{d} h=>by
  simp only[beq_eq_false_iff_ne];unfold fV;intro t;exact h (UInt8.toNat_inj.1 ab)
 have num:∀ (n:Int),(gX e ts c=dj n)->c≠84->ak 168 #[aa n] w1 aM (λ(x4:aS×Nat×Nat) w5=>
   ∃ v:Sl,(.tuple #[.slice x4.1 x4.2.1 x4.2.2,aa 0]:av)=.tuple #[.slice v.1 v.2.1 v.2.2,aa (if c=84 then tr else 0)]/\cT w5 v (gX e ts c)/\Fr none1 w w5/\∀ k,aH v k->w.heap.size<=k):=λ n hn hc=>by
  refine an.of (QI n w1) ?_;rintro _ w2 ⟨u,rfl,hu,f2,uf⟩;exact⟨u,rfl,u,by rw[if_neg hc],by rw[hn];exact hu,f1.trans f2,λ k hk=>ez s1 (uf k hk)⟩
 have gm:∀ (s:ay),s.size<=1000000->gX e ts c=nr s.data.toList->c≠84->aT (Instr.buildSlice 22 1 #[(0,.int .u8 (IntKind.u8.wrap (s.size:Int)))]) w1 aM (λ(bZ:aS×Nat×Nat) b9=>aT (Builtin.append_ #[22,9] 22 #[.slice bZ.1 bZ.2.1 bZ.2.2,.string s]) b9 aM (λ(cJ:aS×Nat×Nat) bW=>
   ∃ v:Sl,(.tuple #[.slice cJ.1 cJ.2.1 cJ.2.2,aa 0]:av)=.tuple #[.slice v.1 v.2.1 v.2.2,aa (if c=84 then tr else 0)]/\cT bW v (gX e ts c)/\Fr none1 w bW/\∀ k,aH v k->w.heap.size<=k)):=λ s hs hf hc=>by
  rw[Lv];refine Rc (w:=w1) [UInt8.ofNat (s.size % 256)] bm s hs λ u w2 hu f2 uf=>?_;refine⟨u,by rw[if_neg hc],?_,f1.trans f2,λ k hk=>ez s1 (uf k hk)⟩;rw[hf];unfold nr;rw[El];exact hu
 by_cases zW:c=68
 ·refine ae.t (by rw[zW];rfl) ?_
  exact af.aw aE (x:=e.2.2.2.2.2.1) rfl (num _ (by unfold gX;rw[if_pos zW]) (by rw[zW];decide))
 refine ae.f (aL zW) ?_
 by_cases B9:c=86
 ·refine ae.t (by rw[B9];rfl) ?_
  exact af.aw aE (x:=e.2.2.2.2.2.2.1) rfl (num _ (by unfold gX;rw[if_neg zW,if_pos B9]) (by rw[B9];decide))
 refine ae.f (aL B9) ?_
 by_cases qC:c=84
 ·refine ae.t (by rw[qC];rfl) ?_
  refine af.aw aE (x:=e.2.2.2.2.2.2.2.1) rfl ?_;refine an.of (ht qC w1 f1) ?_;rintro _ w2 ⟨rfl,f2⟩;refine⟨(str ts,tr,()),rfl,⟨by omega,?_⟩⟩;dsimp only;have es:((str ts).size:Int)=(ts.length:Int):=by rw[fS]
  rw[es,show Int.toNat 8=8 from rfl,Hw ts.length 8 ab,Lv,Lv];refine Rc (w:=w2) [UInt8.ofNat (ts.length / 2 ^ 8 % 256),UInt8.ofNat (ts.length % 256)] bm (str ts) (by rw[fS];exact lR) λ u w3 hu f3 uf=>?_;refine⟨u,by rw[if_pos qC],?_,(f1.trans f2).trans f3,λ k hk=>ez (f1.trans f2).size (uf k hk)⟩;unfold gX;rw[if_neg zW,if_neg B9,if_pos qC];rw[nn] at hu;exact hu
 refine ae.f (aL qC) ?_;have hF:∀ s,xT e c=s->gX e ts c=nr s.data.toList:=λ s hs=>by unfold gX;rw[if_neg zW,if_neg B9,if_neg qC,hs]
 by_cases zX:c=73
 ·refine ae.t (by rw[zX];rfl) ?_
  exact af.aw aE (x:=e.2.1) rfl (gm _ hz.1 (hF _ (by unfold xT;rw[if_pos zX])) qC)
 refine ae.f (aL zX) ?_
 by_cases Ca:c=78
 ·refine ae.t (by rw[Ca];rfl) ?_
  exact af.aw aE (x:=e.2.2.1) rfl (gm _ hz.2.1 (hF _ (by unfold xT;rw[if_neg zX,if_pos Ca])) qC)
 refine ae.f (aL Ca) ?_
 by_cases Ew:c=76
 ·refine ae.t (by rw[Ew];rfl) ?_
  exact af.aw aE (x:=e.2.2.2.1) rfl (gm _ hz.2.2.1 (hF _ (by unfold xT;rw[if_neg zX,if_neg Ca,if_pos Ew])) qC)
 refine ae.f (aL Ew) ?_
 by_cases HM:c=67
 ·refine ae.t (by rw[HM];rfl) ?_
  exact af.aw aE (x:=e.2.2.2.2.1) rfl (gm _ hz.2.2.2 (hF _ (by unfold xT;rw[if_neg zX,if_neg Ca,if_neg Ew,if_pos HM])) qC)
 refine ae.f (aL HM) ?_;exact gm _ ar (hF _ (by unfold xT;rw[if_neg zX,if_neg Ca,if_neg Ew,if_neg HM])) qC
theorem Lw (e:fU)(hz:tQ e)(ts:ai)(lR:ts.length<=1000000)(c:UInt8):(gX e ts c).length<=1000010:=by
 obtain⟨z1,z2,z3,z4⟩:=hz;unfold gX;split
 ·rw[kG];omega
 split
 ·rw[kG];omega
 split
 ·simp only[cY];omega
 unfold nr xT;have hs:∀ s:ay,s.data.toList.length=s.size:=El;simp only[cY,hs]
 repeat' split
 all_goals first | omega | (show(0:Nat)+1<=_;omega)
theorem Lx (e:fU)(hT:tO e.2.2.2.2.2.2.2.1)(hz:tQ e)(ts:ai)(lR:ts.length<=1000000)(tr:Int)(w:ah)
  (ht:e.1=2->∀ w1,Fr none1 w w1->au 209 #[e.2.2.2.2.2.2.2.1] w1 λ r w'=>r=.tuple #[.string (str ts),aa tr]/\Fr none1 w1 w') :
  au 147 #[ke e] w λ r w'=>∃ v:Sl,r=.tuple #[.slice v.1 v.2.1 v.2.2,aa (lA e ts tr).2]/\cT w' v (lA e ts tr).1/\Fr none1 w w'/\∀ k,aH v k->w.heap.size<=k:=by
 refine c147 e w _ ?_;unfold C147;refine aC.of λ b w1 hb aE f1 _=>?_;refine aF.aR (x:=e) aE ?_;refine an.of (Lr e hT tr w1 (λ h2 w' f=>(ht h2 w' (f1.trans f)).mono λ r rn ⟨h,f⟩=>⟨⟨_,h⟩,f⟩)) ?_;rintro _ w2 ⟨rfl,f2⟩;have f12:=f1.trans f2;have ba:=f2.ag aE;refine⟨_,rfl,?_⟩;unfold lA;refine ae.ne (λ aL=>?_) (λ heq=>?_)
 ·rw[if_pos aL]
  exact⟨(none,0,0),rfl,.inl ⟨rfl,rfl⟩,f12,λ k ⟨a,ha,_⟩=>by cases ha⟩
 rw[if_neg (λ t=>t heq)];refine af.aw ba (x:=e.1) rfl ?_;have ZW:Value.int .u8 (IntKind.u8.wrap e.1)=bc (UInt8.ofNat (e.1 % 256).toNat):=by
  unfold bc;rw[sG ab]
  congr 1
  simp[IntKind.wrap,IntKind.signed,IntKind.bits];omega
 rw[ZW];obtain⟨x,w3,Ly,hx,nU,f3,xf⟩:=vR (P:=Tryz.prog) (w:=w2) qu [bc (UInt8.ofNat (e.1 % 256).toNat)] (by simp[bc,Value.cells]) bm;refine⟨x,w3,Ly,?_⟩;have bJ:=f3.ag ba;have Eh:cT w3 x [UInt8.ofNat (e.1 % 256).toNat]:=hx;refine af.aw bJ (x:=e.1) rfl ?_;refine an.of (Ra e.1 w3) ?_;rintro _ w4 ⟨fv,rfl,Ex,f4,ff⟩;refine⟨fv,rfl,?_⟩;have df:=f4.ag bJ;have gd:=f12.size;have f14:=(f12.trans f3).trans f4;have mq:=Ex.len;rw[eI] at mq;have HK:(gJ e.1).length<=7:=by unfold gJ;exact ez (Ed _ _) ar
 have qC:∀ c∈gJ e.1,c=84->e.1=2:=λ c hc h=>by
  subst h;have:=(List.mem_filter.1 hc).2;unfold dX iS at this
  by_cases h2:e.1=2
  ·exact h2
  ·rw[if_neg h2] at this
   repeat' split at this
   all_goals exact absurd this ar
 have ZX:e.1=2->tr=0:=λ h2=>by
  unfold pN at heq;rw[h2] at heq
  repeat' split at heq
  all_goals first | exact heq | (exact absurd heq ar) | (rename_i hx;exact absurd rfl hx)
 refine cp.of (λ s w'=>∃ i:Nat,s.2.1=i/\i<=(gJ e.1).length/\cT w' s.1 (UInt8.ofNat (e.1 % 256).toNat::((gJ e.1).take i).flatMap (gX e ts))/\(∀ k,aH s.1 k->w2.heap.size<=k/\(¬ aH fv k))/\nW w' fv ((gJ e.1).map fV)/\Fr none1 w2 w')
  (λ s _=>(fv.2.1 - s.2.1).toNat) ⟨0,rfl,fj _,by simpa using cT.ag Eh f4,λ k hk=>⟨xf k hk,λ t=>by have:=ff k t;have:=aV.lt hx hk;omega⟩,Ex,f3.trans f4⟩ ?_
 rintro _ ⟨v,i',_⟩ w5 ⟨i,hi,jV,hv,kI,Lz,f5⟩;dsimp only at hi hv kI ⊢;subst hi;refine ae.dec (λ bI=>?_) (λ gk=>?_)
 ·have LA:i<(gJ e.1).length:=ab
  refine nW.ld Lz ab bI ?_;obtain⟨c,hc⟩:∃ c,(gJ e.1)[i]? = some c:=⟨_,cV LA⟩;have uX:c∈gJ e.1:=mI hc;have LB:((gJ e.1).map fV).getD (Int.toNat (i:Int)) 0=fV c:=by
   rw[iH,dB,ig,hc];rfl
  rw[LB];have dN:=f5.ag (f2.ag aE);refine aF.aR (x:=e) dN ?_;have ZY:(if c=84 then tr else 0)=0:=by
   by_cases h:c=84
   ·rw[if_pos h];exact ZX (qC c uX h)
   ·rw[if_neg h]
  have Ez:=ZV e hz c ts lR tr w5 (λ h w' f=>ht (qC c uX h) w' ((f12.trans f5).trans f));rw[ZY] at Ez;refine an.of Ez ?_;rintro _ w6 ⟨u,rfl,hu,f6,uf⟩;refine⟨(u,0,()),rfl,?_⟩;refine ae.f rfl ?_;have hlen:((gJ e.1).take i).flatMap (gX e ts)=((gJ e.1).take i).flatMap (gX e ts):=rfl;have hbound:∀ l:ai,(l.flatMap (gX e ts)).length<=l.length * 1000010:=by
   intro l
   induction l with
   | nil=>simp
   | cons a l ih=>rw[ni,bU,cY];have:=Lw e hz ts lR a;omega
  have aih:=hbound ((gJ e.1).take i);have aii:=Lw e hz ts lR c;have LC:((gJ e.1).take i).length<=7:=by rw[ga];omega
  obtain⟨y,w7,tR,hy,f7,yf⟩:=vS (cT.ag hv f6) hu.rd (by simp only[cY];omega);have ZZ:=λ k (hk:aH fv k)=>aV.lt Lz hk;refine⟨y,w7,tR,⟨i+1,by rw[wI ab ab];omega,by omega,?_,λ k hk=>?_,aV.ao (aV.ag Lz f6) f7 (λ k hk t=>(kI k t).2 hk),(f5.trans f6).comp f7 (λ k hk t=>by have:=(kI k t).1;omega)⟩,by rw[wI ab ab];omega⟩
  ·rw[oz,hc,BV]
   simpa using hy
  ·rcases yf k hk with t | t
   ·exact kI k t
   ·have:=f5.size
    have:=f6.size;exact⟨by omega,λ q=>by have:=ZZ k q;omega⟩
 ·rw[gV ab] at hv
  exact⟨v,rfl,hv,f12.trans f5,λ k hk=>by have:=(kI k hk).1;omega⟩
inductive Ob where
 | none
 | const (n:Int)
 | fix (s:ai)
 | add (l r:Ob)
 | neg (o:Ob)
 | mul (l r:Ob)
 | max (l r:Ob)
inductive Tm where
 | none
 | zero
 | one (s:ai)
 | dy (t:Tm)
 | and (l r:Tm)
 | or (s:ai) (l r:Tm)
 | scale (o:Ob) (t:Tm)
 | when (d:Int) (t:Tm)
 | cond (o:Ob) (l r:Tm)
def Ob.v:Ob->av
 | .none=>.nilIface
 | .const n=>.iface 241 (.agg #[.int .i64 n])
 | .fix s=>.iface 243 (.agg #[.string (str s)])
 | .add l r=>.iface 245 (.agg #[l.v,r.v])
 | .neg o=>.iface 247 (.agg #[o.v])
 | .mul l r=>.iface 248 (.agg #[l.v,r.v])
 | .max l r=>.iface 249 (.agg #[l.v,r.v])
def Tm.v:Tm->av
 | .none=>.nilIface
 | .zero=>.iface 176 (.agg #[])
 | .one s=>.iface 178 (.agg #[.string (str s)])
 | .dy t=>.iface 180 (.agg #[t.v])
 | .and l r=>.iface 182 (.agg #[l.v,r.v])
 | .or s l r=>.iface 184 (.agg #[.string (str s),l.v,r.v])
 | .scale o t=>.iface 188 (.agg #[o.v,t.v])
 | .when d t=>.iface 190 (.agg #[.int .i64 d,t.v])
 | .cond o l r=>.iface 192 (.agg #[o.v,l.v,r.v])
theorem sK (s:ay):cG (.string s)=true:=rfl
theorem tT (k:IntKind)(n:Int):cG (.int k n)=true:=rfl
theorem Ob.cU (o:Ob):cG o.v=true:=by cases o<;>rfl
theorem Tm.cU (t:Tm):cG t.v=true:=by cases t<;>rfl
theorem Ob.iK (o:Ob):o.v.cells=#[o.v]:=by cases o<;>rfl
theorem Tm.iK (t:Tm):t.v.cells=#[t.v]:=by cases t<;>rfl
def dY:Ob->List Ob
 | .add l r | .mul l r | .max l r=>[l,r]
 | .neg o=>[o]
 | _=>[]
def eK:Tm->List Tm
 | .dy t | .scale _ t | .when _ t=>[t]
 | .and l r | .or _ l r | .cond _ l r=>[l,r]
 | _=>[]
theorem HN {o k:Ob}(h:k∈dY o):SizeOf.sizeOf k<SizeOf.sizeOf o:=by
 cases o<;>simp[dY] at h
 all_goals first | (rcases h with rfl | rfl<;>simp<;>omega) | (subst h;simp)
theorem HO {t k:Tm}(h:k∈eK t):SizeOf.sizeOf k<SizeOf.sizeOf t:=by
 cases t<;>simp[eK] at h
 all_goals first | (rcases h with rfl | rfl<;>simp<;>omega) | (subst h;simp;done) | (subst h;simp;omega)
theorem HP (o:Ob):(dY o).length<=2:=by cases o<;>simp[dY]
theorem HR (t:Tm):(eK t).length<=2:=by cases t<;>simp[eK]
namespace Vc
theorem aD.hit {x:av}{t:TypeId}{k:Kd}{yes:k.C->Prop}{no:Prop}(r:k.C)(h:x=.iface t (k.val r))(hy:yes r):aD x t k yes no:=⟨.inl ⟨r,h,hy⟩⟩
theorem aD.bn {x:av}{t u:TypeId}{v:av}{k:Kd}{yes:k.C->Prop}{no:Prop}(h:x=.iface u v)(hu:u≠t)(hn:no):aD x t k yes no:=⟨.inr ⟨.inr ⟨u,v,h,hu⟩,hn⟩⟩
theorem aD.nil {x:av}{t:TypeId}{k:Kd}{yes:k.C->Prop}{no:Prop}(h:x=.nilIface)(hn:no):aD x t k yes no:=⟨.inr ⟨.inl h,hn⟩⟩
theorem dO {zs vs:List av}{K:Nat->ah->Prop}(hl:zs.length=vs.length)(h1:vs.all cG=true)
  (h:∀ g w4,w.heap.size=g->w4.heap[g]? = some (.cells vs.toArray T (0,0))->Fr none1 w w4->K g w4):aC (.cells zs.toArray T) w λ g w3=>aG ⟨g,0,none⟩ vs w3 λ w4=>K g w4:=
 aC.of λ g w1 hg hb f1 hs=>aG.aR hb hl h1 λ w2 ba f2 _=>h g w2 hg ba (f1.fresh f2 ab)
theorem pP {zs vs:List av}{K:ah->Prop}(hl:zs.length=vs.length)(h1:vs.all cG=true)
  (h:∀ w4,Fr none1 w w4->K w4):aC (.cells zs.toArray T) w λ g w3=>aG ⟨g,0,none⟩ vs w3 λ w4=>K w4:=
 dO hl h1 λ _ w4 _ _ f=>h w4 f
theorem HS {P:Program}{T t E i bytes:Nat}{z a:av}{zs vs:List av}{K:aS×Nat×Nat->ah->Prop}(he:jR P t E 1 z bytes)(hl:zs.length=vs.length)(h1:vs.all cG=true)(ha:vs[i]? = some a)(hc:a.cells=#[a])
  (h:∀ (u:Sl) w',aV w' E 1 u [a]->u.2.1=1->Fr none1 w w'->(∀ k,aH u k->w.heap.size<=k)->K u w') :
  aC (.cells zs.toArray T) w λ g w3=>aG ⟨g,0,none⟩ vs w3 λ w4=>af .raw ((⟨g,0,none⟩:Addr).add i) w4 λ(x:av)=>kT P (Instr.buildSlice t 1 #[(0,x)]) w4 aM λ(u:aS×Nat×Nat) w5=>K u w5:=by
 refine dO hl h1 λ g w4 hg hb f=>?_;refine af.aw (c:=.raw) hb (x:=a) (by rw[pJ,eP];exact ha) ?_;obtain⟨u,w5,hr,hu,dP,f5,uf⟩:=oT (w:=w4) he a hc;exact⟨u,w5,hr,h u w5 hu dP (f.trans f5) λ k hk=>ez f.size (uf k hk)⟩
theorem HT {P:Program}{T t E i bytes:Nat}{z a b:av}{zs vs:List av}{K:aS×Nat×Nat->ah->Prop}(he:jR P t E 1 z bytes)(hl:zs.length=vs.length)(h1:vs.all cG=true)(ha:vs[i]? = some a)(hb:vs[j]? = some b)(hca:a.cells=#[a])(HU:b.cells=#[b])
  (h:∀ (u:Sl) w',aV w' E 1 u [a,b]->u.2.1=2->Fr none1 w w'->(∀ k,aH u k->w.heap.size<=k)->K u w') :
  aC (.cells zs.toArray T) w λ g w3=>aG ⟨g,0,none⟩ vs w3 λ w4=>af .raw ((⟨g,0,none⟩:Addr).add i) w4 λ(x:av)=>af .raw ((⟨g,0,none⟩:Addr).add j) w4 λ(y:av)=>kT P (Instr.buildSlice t 2 #[(0,x),(1,y)]) w4 aM λ(u:aS×Nat×Nat) w5=>K u w5:=by
 refine dO hl h1 λ g w4 hg BO f=>?_;refine af.aw (c:=.raw) BO (x:=a) (by rw[pJ,eP];exact ha) ?_;refine af.aw (c:=.raw) BO (x:=b) (by rw[pJ,eP];exact hb) ?_;obtain⟨u,w5,hr,hu,dP,f5,uf⟩:=vR (w:=w4) he [a,b] (by intro v hv;simp at hv;rcases hv with rfl | rfl<;>assumption) bm
 exact⟨u,w5,hr,h u w5 hu dP (f.trans f5) λ k hk=>ez f.size (uf k hk)⟩
end Vc
theorem Rd:jR Tryz.prog 361 185 1 .nilIface 16:=⟨Tryz.underlying361,⟨Tryz.t185,by kernel_rfl,rfl,rfl,rfl⟩,rfl,by decide⟩
theorem Cb:jR Tryz.prog 334 32 1 .nilIface 16:=⟨Tryz.underlying334,⟨Tryz.t32,by kernel_rfl,rfl,rfl,rfl⟩,rfl,by decide⟩
theorem Cc:jR Tryz.prog 56 9 1 (.string ⟨#[]⟩) 16:=⟨Tryz.underlying56,⟨Tryz.t9,by kernel_rfl,rfl,rfl,rfl⟩,rfl,by decide⟩
def oY (w:ah)(v:Sl)(l:List Ob):Prop:=aV w 185 1 v (l.map Ob.v)
def qD (w:ah)(v:Sl)(l:List Tm):Prop:=aV w 32 1 v (l.map Tm.v)
theorem oY.ag {v:Sl}{l:List Ob}(h:oY w v l)(f:Fr none1 w w'):oY w' v l:=aV.ag h f
theorem qD.ag {v:Sl}{l:List Tm}(h:qD w v l)(f:Fr none1 w w'):qD w' v l:=aV.ag h f
theorem oY.len {v:Sl}{l:List Ob}(h:oY w v l):v.2.1=l.length:=by have:=aV.len h;rw[eI,jg] at this;exact this.symm
theorem qD.len {v:Sl}{l:List Tm}(h:qD w v l):v.2.1=l.length:=by have:=aV.len h;rw[eI,jg] at this;exact this.symm
theorem oY.ld {v:Sl}{l:List Ob}(h:oY w v l){i:Nat}{o:Ob}(ho:l[i]? = some o){K:av->Prop}(k:K o.v):cz v.1 v.2.1 (i:Int) 1 λ p=>af .raw p w K:=by
 have hi:=(nj.1 ho).1;have hl:=h.len;refine aV.ld h ab ab (c:=.raw) (x:=o.v) ?_ k;rw[iH,ig,ho];rfl
theorem qD.ld {v:Sl}{l:List Tm}(h:qD w v l){i:Nat}{o:Tm}(ho:l[i]? = some o){K:av->Prop}(k:K o.v):cz v.1 v.2.1 (i:Int) 1 λ p=>af .raw p w K:=by
 have hi:=(nj.1 ho).1;have hl:=h.len;refine aV.ld h ab ab (c:=.raw) (x:=o.v) ?_ k;rw[iH,ig,ho];rfl
theorem LD (w:ah):oY w (none,0,0) []:=.inl ⟨rfl,rfl⟩
theorem Z0 (w:ah):qD w (none,0,0) []:=.inl ⟨rfl,rfl⟩
theorem nt:∀ k,¬ aH (none,0,0) k:=λ k ⟨a,ha,_⟩=>by cases ha
def C227 (p0:av)(w:ah)(K:aP):Prop:=
 aD p0 245 (.agg [.raw,.raw]) (λ(x1:av×av×Unit)=>aC (.cells #[.nilIface,.nilIface] 245) w (λ g2 w3=>aG (ad g2) [x1.1,x1.2.1] w3 (λ w4=>af .raw ((ad g2).add 0) w4 (λ(x5:av)=>af .raw ((ad g2).add 1) w4 (λ(x6:av)=>aT (Instr.buildSlice 361 2 #[(0,x5),(1,x6)]) w4 aM (λ(x7:aB) w8=>K (aO x7) w8))))))
 (aC (.cells #[.nilIface,.nilIface] 245) w (λ g9 aX=>aG (ad g9) [.nilIface,.nilIface] aX (λ bt=>aD p0 248 (.agg [.raw,.raw]) (λ(cn:av×av×Unit)=>aC (.cells #[.nilIface,.nilIface] 248) bt (λ g13 bY=>aG (ad g13) [cn.1,cn.2.1] bY (λ cB=>af .raw ((ad g13).add 0) cB (λ(bP:av)=>af .raw ((ad g13).add 1) cB (λ(bZ:av)=>aT (Instr.buildSlice 361 2 #[(0,bP),(1,bZ)]) cB aM (λ(cF:aB) ct=>K (aO cF) ct))))))
 (aC (.cells #[.nilIface,.nilIface] 248) bt (λ g20 cr=>aG (ad g20) [.nilIface,.nilIface] cr (λ cH=>aD p0 249 (.agg [.raw,.raw]) (λ(eB:av×av×Unit)=>aC (.cells #[.nilIface,.nilIface] 249) cH (λ g24 eJ=>aG (ad g24) [eB.1,eB.2.1] eJ (λ de=>af .raw ((ad g24).add 0) de (λ(eD:av)=>af .raw ((ad g24).add 1) de (λ(ji:av)=>aT (Instr.buildSlice 361 2 #[(0,eD),(1,ji)]) de aM (λ(eQ:aB) cN=>K (aO eQ) cN))))))
 (aC (.cells #[.nilIface,.nilIface] 249) cH (λ Z1 dQ=>aG (ad Z1) [.nilIface,.nilIface] dQ (λ fT=>aD p0 247 (.agg [.raw]) (λ(fD:av×Unit)=>aC (.cells #[.nilIface] 247) fT (λ Re dW=>aG (ad Re) [fD.1] dW (λ fI=>af .raw ((ad Re).add 0) fI (λ(gn:av)=>aT (Instr.buildSlice 361 1 #[(0,gn)]) fI aM (λ(iT:aB) fw=>K (aO iT) fw)))))
 (aC (.cells #[.nilIface] 247) fT (λ Z2 iI=>aG (ad Z2) [.nilIface] iI (λ nv=>K (.slice none 0 0) nv))))))))))))
def pl227:aN:=.auto
theorem c227 (p0 w K)(h:C227 p0 w K):au 227 #[p0] w K:=aQ Tryz.func227 (p:=pl227) aA h
def C244 (p0:av)(w:ah)(K:aP):Prop:=
 aD p0 241 (.agg [.int .i64]) (λ(x1:Int×Unit)=>aC (.cells #[aa 0] 241) w (λ g2 w3=>aG (ad g2) [aa x1.1] w3 (λ w4=>af (.int .i64) ((ad g2).add 0) w4 (λ(x5:Int)=>ak 208 #[aa x5] w4 bK (λ(x6:Bool) w7=>K (.tuple #[.bool true,.bool x6]) w7)))))
 (aC (.cells #[aa 0] 241) w (λ g8 w9=>aG (ad g8) [aa 0] w9 (λ aX=>aD p0 243 (.agg [.str]) (λ(bQ:ay×Unit)=>aC (.cells #[aj] 243) aX (λ g12 bM=>aG (ad g12) [.string bQ.1] bM (λ bY=>af .str ((ad g12).add 0) bY (λ(cm:ay)=>ak 194 #[.string cm] bY bK (λ(bP:Bool) da=>K (.tuple #[.bool true,.bool bP]) da)))))
 (aC (.cells #[aj] 243) aX (λ g18 ct=>aG (ad g18) [aj] ct (λ bW=>K (.tuple #[.bool false,.bool false]) bW))))))
def pl244:aN:=.auto
theorem c244 (p0 w K)(h:C244 p0 w K):au 244 #[p0] w K:=aQ Tryz.func244 (p:=pl244) aA h
def C226 (p0:av)(w:ah)(K:aP):Prop:=
 ak 244 #[p0] w (.bR [.one .bool,.one .bool]) (λ(x1:Bool×Bool×Unit) w2=>ae (!x1.1)
 (ak 227 #[p0] w2 aM (λ(x3:aB) w4=>K (.bool ((x3.2.1:Int)==0)) w4))
 (K (.bool false) w2))
def pl226:aN:=.auto
theorem c226 (p0 w K)(h:C226 p0 w K):au 226 #[p0] w K:=aQ Tryz.func226 (p:=pl226) aA h
def C200 (p0:av)(w:ah)(K:aP):Prop:=
 ak 226 #[p0] w bK (λ(x1:Bool) w2=>ae x1
 (K (.tuple #[aa 0,aa 0]) w2)
 (ak 227 #[p0] w2 aM (λ(x3:aB) w4=>cp (Int×Int×Int×Unit) (λ _ s5 w6 xW=>ae (decide (s5.2.2.1<(x3.2.1:Int)))
 (cz x3.1 x3.2.1 s5.2.2.1 1 (λ a8=>af .raw a8 w6 (λ(x9:av)=>ak 200 #[x9] w6 (.bR [.one (.int .i64),.one (.int .i64)]) (λ(bG:Int×Int×Unit) bt=>xW (IntKind.i64.wrap (s5.1+bG.1),(if bG.2.1 > s5.2.1 then bG.2.1 else s5.2.1),IntKind.i64.wrap (s5.2.2.1+1),()) bt))))
 (K (.tuple #[aa (IntKind.i64.wrap (s5.1+1)),aa (IntKind.i64.wrap (s5.2.1+1))]) w6))
 (0,0,0,()) w4)))
def pl200:aN:=(.seq .auto (.seq .auto (.seq (.seq .auto (.block (.loop [(2,.one (.int .i64)),(3,.one (.int .i64)),(13,.one (.int .i64))] .auto))) .auto)))
theorem c200 (p0 w K)(h:C200 p0 w K):au 200 #[p0] w K:=aQ Tryz.func200 (p:=pl200) aA h
def C224 (p0:av)(w:ah)(K:aP):Prop:=
 ak 244 #[p0] w (.bR [.one .bool,.one .bool]) (λ(x1:Bool×Bool×Unit) w2=>ae x1.1
 (K (.bool x1.2.1) w2)
 (ak 226 #[p0] w2 bK (λ(x3:Bool) w4=>ae (!x3)
 (ak 227 #[p0] w4 aM (λ(x5:aB) w6=>ak 245 #[aO x5,.func (.func 246) #[] #[]] w6 bK (λ(x7:Bool) w8=>K (.bool (!x7)) w8)))
 (K (.bool false) w4))))
def pl224:aN:=.auto
theorem c224 (p0 w K)(h:C224 p0 w K):au 224 #[p0] w K:=aQ Tryz.func224 (p:=pl224) aA h
def C246 (p0:av)(w:ah)(K:aP):Prop:=
 ak 224 #[p0] w bK (λ(x1:Bool) w2=>K (.bool (!x1)) w2)
def pl246:aN:=.auto
theorem c246 (p0 w K)(h:C246 p0 w K):au 246 #[p0] w K:=aQ Tryz.func246 (p:=pl246) aA h
def C196 (p0:av)(w:ah)(K:aP):Prop:=
 ak 224 #[p0] w bK (λ(x1:Bool) w2=>ae (!x1)
 (K (aa 2) w2)
 (ak 200 #[p0] w2 (.bR [.one (.int .i64),.one (.int .i64)]) (λ(x3:Int×Int×Unit) w4=>ae (decide (x3.1 > 60))
 (K (aa 5) w4)
 (ae (decide (x3.2.1 > 12))
 (K (aa 5) w4)
 (K (aa 0) w4)))))
def pl196:aN:=.auto
theorem c196 (p0 w K)(h:C196 p0 w K):au 196 #[p0] w K:=aQ Tryz.func196 (p:=pl196) aA h
def C245 (p0:aS)(bh bC:Nat)(p1:av)(w:ah)(K:aP):Prop:=
 ak 267 #[.slice p0 bh bC,p1] w bN (λ(x1:Int) w2=>K (.bool (decide (x1 >= 0))) w2)
def pl245:aN:=.auto
theorem c245 (p0 bh bC p1 w K)(h:C245 p0 bh bC p1 w K):au 245 #[.slice p0 bh bC,p1] w K:=aQ Tryz.func245 (p:=pl245) aA h
def C267 (p0:aS)(bh bC:Nat)(p1:av)(w:ah)(K:aP):Prop:=
 cp (Int×Unit) (λ _ s1 w2 jh=>ae (decide (s1.1<(bh:Int)))
 (cz p0 bh s1.1 1 (λ a4=>af .raw a4 w2 (λ(x5:av)=>nH Tryz.prog p1 [x5] bK w2 (λ(x6:Bool) w7=>ae x6
 (K (aa s1.1) w7)
 (jh (IntKind.i64.wrap (s1.1+1),()) w7)))))
 (K (aa (-1)) w2))
 (0,()) w
def pl267:aN:=(.seq .auto (.seq (.seq .auto (.block (.loop [(8,.one (.int .i64))] .auto))) .auto))
theorem c267 (p0 bh bC p1 w K)(h:C267 p0 bh bC p1 w K):au 267 #[.slice p0 bh bC,p1] w K:=aQ Tryz.func267 (p:=pl267) aA h
def gY (s:ai):Bool:=np 0 (dL s)
def sL:Ob->Bool×Bool
 | .const n=>(true,dI n)
 | .fix s=>(true,gY s)
 | _=>(false,false)
def eF:Ob->Bool
 | .none=>false
 | .const n=>dI n
 | .fix s=>gY s
 | .add l r | .mul l r | .max l r=>eF l&&eF r
 | .neg o=>eF o
def cv:Ob->Nat
 | .none=>0
 | .const _ | .fix _=>1
 | .add l r | .mul l r | .max l r=>cv l+cv r+1
 | .neg o=>cv o+1
def eS:Ob->Nat
 | .none=>0
 | .const _ | .fix _=>1
 | .add l r | .mul l r | .max l r=>max (eS l) (eS r)+1
 | .neg o=>eS o+1
def rz:Ob->Bool
 | .none=>true
 | _=>false
def zY (o:Ob):Int:=if eF o=false then 2 else if 60<cv o then 5 else if 12<eS o then 5 else 0
theorem HV (o:Ob):eS o<=cv o:=by
 induction o with
 | none=>exact eR _
 | const=>exact eR _
 | fix=>exact eR _
 | neg o ih=>unfold eS cv;omega
 | add l r a b=>unfold eS cv;omega
 | mul l r a b=>unfold eS cv;omega
 | max l r a b=>unfold eS cv;omega
def lS (l:List Nat):Nat:=l.foldl (·+·) 0
def zZ (l:List Nat):Nat:=l.foldl max 0
theorem Rf (o:Ob)(h:rz o=false):cv o=lS ((dY o).map cv)+1:=by cases o<;>simp[rz,cv,dY,lS] at h ⊢
theorem Z3 (o:Ob)(h:rz o=false):eS o=zZ ((dY o).map eS)+1:=by cases o<;>simp[rz,eS,dY,zZ] at h ⊢
theorem Z4 (o:Ob)(h:(sL o).1=false):eF o=(!rz o&&!((dY o).any λ k=>!eF k)):=by cases o<;>simp[sL,rz,eF,dY] at h ⊢
theorem Z5 (o:Ob)(h:(sL o).1=false):((dY o).length==0)=rz o:=by cases o<;>simp[sL,rz,dY] at h ⊢
theorem Rg (o:Ob)(h:(sL o).1=true):rz o=false/\eF o=(sL o).2:=by cases o<;>simp[sL,rz,eF] at h ⊢
theorem Ae (l:List Nat)(n:Nat):lS (l++[n])=lS l+n:=by unfold lS;rw[sF];rfl
theorem Z6 (l:List Nat)(n:Nat):zZ (l++[n])=max (zZ l) n:=by unfold zZ;rw[sF];rfl
theorem Z7 (l:List Nat):∀ n,l.foldl (·+·) n=n+lS l:=by
 unfold lS
 induction l with
 | nil=>intro n;rfl
 | cons a l ih=>intro n;rw[lO,lO,ih,ih (0+a)];omega
theorem Cd (l:List Nat)(i:Nat):lS (l.take i)<=lS l:=by
 have:lS l=lS (l.take i)+lS (l.drop i):=by
  conv=>lhs;rw[<- Ef i l]
  unfold lS;rw[sF];exact Z7 _ _
 omega
theorem v7 {α β:Type}(l:List α)(g:α->β)(i:Nat){x:α}(h:l[i]? = some x):(l.take (i+1)).map g=(l.take i).map g++[g x]:=by
 rw[oz,h,jG];rfl
theorem Ce (o:Ob)(w:ah):au 227 #[o.v] w λ r w'=>∃ u:Sl,r=.slice u.1 u.2.1 u.2.2/\oY w' u (dY o)/\Fr none1 w w':=by
 refine c227 o.v w _ ?_;unfold C227;have two:∀ (l r:Ob) (w0:ah) (T:TypeId),Fr none1 w w0->dY o=[l,r]->aC (.cells #[.nilIface,.nilIface] T) w0 (λ g2 w3=>aG (⟨g2,0,none⟩:Addr) [l.v,r.v] w3 (λ w4=>af .raw ((⟨g2,0,none⟩:Addr).add 0) w4 (λ(x5:av)=>af .raw ((⟨g2,0,none⟩:Addr).add 1) w4 (λ(x6:av)=>
   aT (Instr.buildSlice 361 2 #[(0,x5),(1,x6)]) w4 aM (λ(x7:aS×Nat×Nat) w8=>∃ u:Sl,(Value.slice x7.1 x7.2.1 x7.2.2)=.slice u.1 u.2.1 u.2.2/\oY w8 u (dY o)/\Fr none1 w w8))))):=λ l r w0 T f0 hk=>
  HT (zs:=[.nilIface,.nilIface]) (vs:=[l.v,r.v]) Rd rfl (by simp[Ob.cU]) rfl rfl l.iK r.iK λ u w' hu _ f _=>⟨u,rfl,by rw[hk];exact hu,f0.trans f⟩
 have pQ:∀ {w0:ah} {T:TypeId} {K:ah->Prop},Fr none1 w w0->(∀ w4,Fr none1 w w4->K w4)->aC (.cells #[.nilIface,.nilIface] T) w0 (λ g w3=>aG ⟨g,0,none⟩ [.nilIface,.nilIface] w3 λ w4=>K w4):=λ f0 h=>
  pP (zs:=[.nilIface,.nilIface]) rfl rfl λ w4 f=>h w4 (f0.trans f)
 have LF:∀ {w0:ah} {T:TypeId} {K:ah->Prop},Fr none1 w w0->(∀ w4,Fr none1 w w4->K w4)->aC (.cells #[.nilIface] T) w0 (λ g w3=>aG ⟨g,0,none⟩ [.nilIface] w3 λ w4=>K w4):=λ f0 h=>
  pP (zs:=[.nilIface]) rfl rfl λ w4 f=>h w4 (f0.trans f)
 have f0:=Fr.refl none1 w;cases o with
 | none=>
  refine aD.nil rfl (pQ f0 λ w1 f1=>aD.nil rfl (pQ f1 λ w2 f2=>aD.nil rfl (pQ f2 λ w3 f3=>aD.nil rfl (LF f3 λ w4 f4=>⟨_,rfl,LD _,f4⟩))))
 | const n=>
  refine aD.bn rfl ar (pQ f0 λ w1 f1=>aD.bn rfl ar (pQ f1 λ w2 f2=>aD.bn rfl ar (pQ f2 λ w3 f3=>aD.bn rfl ar (LF f3 λ w4 f4=>⟨_,rfl,LD _,f4⟩))))
 | fix s=>
  refine aD.bn rfl ar (pQ f0 λ w1 f1=>aD.bn rfl ar (pQ f1 λ w2 f2=>aD.bn rfl ar (pQ f2 λ w3 f3=>aD.bn rfl ar (LF f3 λ w4 f4=>⟨_,rfl,LD _,f4⟩))))
 | add l r=>exact aD.hit (l.v,r.v,()) rfl (two l r w _ f0 rfl)
 | mul l r=>exact aD.bn rfl ar (pQ f0 λ w1 f1=>aD.hit (l.v,r.v,()) rfl (two l r w1 _ f1 rfl))
 | max l r=>exact aD.bn rfl ar (pQ f0 λ w1 f1=>aD.bn rfl ar (pQ f1 λ w2 f2=>aD.hit (l.v,r.v,()) rfl (two l r w2 _ f2 rfl)))
 | neg x=>
  refine aD.bn rfl ar (pQ f0 λ w1 f1=>aD.bn rfl ar (pQ f1 λ w2 f2=>aD.bn rfl ar (pQ f2 λ w3 f3=>aD.hit (x.v,()) rfl ?_)));exact HS (zs:=[.nilIface]) (vs:=[x.v]) Rd rfl (by simp[Ob.cU]) rfl x.iK λ u w' hu _ f _=>⟨u,rfl,hu,f3.trans f⟩
theorem Rh (o:Ob)(w:ah):au 244 #[o.v] w λ r w'=>r=.tuple #[.bool (sL o).1,.bool (sL o).2]/\Fr none1 w w':=by
 refine c244 o.v w _ ?_;unfold C244;have Cf:∀ {K:ah->Prop},(∀ w4,Fr none1 w w4->K w4)->aC (.cells #[aa 0] 241) w (λ g w3=>aG ⟨g,0,none⟩ [aa 0] w3 λ w4=>K w4):=λ h=>pP (zs:=[aa 0]) rfl rfl λ w4 f=>h w4 f;have EA:∀ {w0:ah} {K:ah->Prop},Fr none1 w w0->(∀ w4,Fr none1 w w4->K w4)->aC (.cells #[aj] 243) w0 (λ g w3=>aG ⟨g,0,none⟩ [aj] w3 λ w4=>K w4):=λ f0 h=>pP (zs:=[aj]) rfl rfl λ w4 f=>h w4 (f0.trans f);cases o with
 | none=>exact aD.nil rfl (Cf λ w1 f1=>aD.nil rfl (EA f1 λ w2 f2=>⟨rfl,f2⟩))
 | const n=>
  refine aD.hit (n,()) rfl (dO (zs:=[aa 0]) (vs:=[aa n]) rfl rfl λ g w1 _ hb f1=>af.aw hb (x:=n) rfl ?_);refine an.of (vY n w1) ?_;rintro _ _ ⟨rfl,rfl⟩;exact⟨_,rfl,rfl,f1⟩
 | fix s=>
  refine aD.bn rfl ar (Cf λ w1 f1=>aD.hit (str s,()) rfl (dO (zs:=[aj]) (vs:=[.string (str s)]) rfl rfl λ g w2 _ hb f2=>af.aw hb (x:=str s) rfl ?_));refine an.of (zN s w2) ?_;rintro _ w3 ⟨rfl,f3⟩;exact⟨_,rfl,rfl,(f1.trans f2).trans f3⟩
 | add l r=>exact aD.bn rfl ar (Cf λ w1 f1=>aD.bn rfl ar (EA f1 λ w2 f2=>⟨rfl,f2⟩))
 | mul l r=>exact aD.bn rfl ar (Cf λ w1 f1=>aD.bn rfl ar (EA f1 λ w2 f2=>⟨rfl,f2⟩))
 | max l r=>exact aD.bn rfl ar (Cf λ w1 f1=>aD.bn rfl ar (EA f1 λ w2 f2=>⟨rfl,f2⟩))
 | neg x=>exact aD.bn rfl ar (Cf λ w1 f1=>aD.bn rfl ar (EA f1 λ w2 f2=>⟨rfl,f2⟩))
theorem Ri (o:Ob)(w:ah):au 226 #[o.v] w λ r w'=>r=.bool (rz o)/\Fr none1 w w':=by
 refine c226 o.v w _ ?_;refine an.of (Rh o w) ?_;rintro _ w1 ⟨rfl,f1⟩;refine⟨(_,_,()),rfl,ae.not (ae.by (λ h=>?_) (λ h=>?_))⟩
 ·rw[(Rg o h).1];exact⟨rfl,f1⟩
 ·refine an.of (Ce o w1) ?_
  rintro _ w2 ⟨u,rfl,hu,f2⟩;refine⟨u,rfl,?_,f1.trans f2⟩;rw[hu.len,<- Z5 o h]
  congr 1
  cases hk:(dY o).length<;>rfl
theorem LG (o:Ob)(hn:cv o<=1000000)(w:ah):au 200 #[o.v] w λ r w'=>r=.tuple #[aa (cv o:Int),aa (eS o:Int)]/\Fr none1 w w':=by
 refine c200 o.v w _ ?_;have ih:∀ k∈dY o,cv k<=1000000->∀ w,au 200 #[k.v] w λ r w'=>r=.tuple #[aa (cv k:Int),aa (eS k:Int)]/\Fr none1 w w':=λ k hk hn w=>LG k hn w;refine an.of (Ri o w) ?_;rintro _ w1 ⟨rfl,f1⟩;refine⟨_,rfl,ae.by (λ h=>?_) (λ h=>?_)⟩
 ·cases o<;>first | (exact⟨rfl,f1⟩) | (exact absurd h (by simp[rz]))
 refine an.of (Ce o w1) ?_;rintro _ w2 ⟨u,rfl,hu,f2⟩;refine⟨u,rfl,?_⟩;have hN:=Rf o h;have hD:=Z3 o h;have dP:=hu.len;have EB:=HP o;refine cp.of (λ s w'=>∃ i:Nat,s.2.2.1=i/\i<=(dY o).length/\s.1=(lS (((dY o).take i).map cv):Int)/\s.2.1=(zZ (((dY o).take i).map eS):Int)/\Fr none1 w w'/\oY w' u (dY o)) (λ s _=>(2 - s.2.2.1).toNat)
  ⟨0,rfl,fj _,rfl,rfl,f1.trans f2,hu⟩ ?_
 rintro _ ⟨a,b,i',_⟩ w3 ⟨i,hi,jV,ha,hb,f3,nL⟩;dsimp only at hi ha hb ⊢;subst hi ha hb;have hle:lS (((dY o).take i).map cv)<=cv o:=by
  rw[hN,uR];have:=Cd ((dY o).map cv) i;omega
 refine ae.dec (λ bI=>?_) (λ gk=>?_)
 ·have ir:i<(dY o).length:=ab
  obtain⟨k,hk⟩:∃ k,(dY o)[i]? = some k:=⟨_,cV ir⟩;have rA:=mI hk;have rB:lS (((dY o).take (i+1)).map cv)<=cv o:=by
   rw[hN,uR];have:=Cd ((dY o).map cv) (i+1);omega
  rw[v7 _ _ _ hk,Ae] at rB;refine nL.ld hk ?_;refine an.of (ih k rA ab w3) ?_;rintro _ w4 ⟨rfl,f4⟩;refine⟨((cv k:Int),(eS k:Int),()),rfl,?_⟩;dsimp only;have Z8:=HV k;refine⟨⟨i+1,by rw[wI ab ab];omega,by omega,?_,?_,f3.trans f4,nL.ag f4⟩,by rw[wI ab ab];omega⟩
  ·rw[v7 _ _ _ hk,Ae,wI ab ab]
   omega
  ·rw[v7 _ _ _ hk,Z6]
   by_cases hm:zZ (((dY o).take i).map eS)<eS k
   ·rw[if_pos ab];omega
   ·rw[if_neg ab];omega
 ·have:i=(dY o).length:=ab
  subst this;rw[qx];rw[qx] at hle;have hd:=HV o;rw[hN];rw[hD] at hd ⊢;rw[wI ab ab,wI ab ab];exact⟨by simp,f3⟩
termination_by SizeOf.sizeOf o
decreasing_by exact HN hk
theorem Rj (o:Ob)(w:ah):au 224 #[o.v] w λ r w'=>r=.bool (eF o)/\Fr none1 w w':=by
 refine c224 o.v w _ ?_;have ih:∀ k∈dY o,∀ w,au 224 #[k.v] w λ r w'=>r=.bool (eF k)/\Fr none1 w w':=λ k hk w=>Rj k w;refine an.of (Rh o w) ?_;rintro _ w1 ⟨rfl,f1⟩;refine⟨(_,_,()),rfl,ae.by (λ h=>?_) (λ h=>?_)⟩
 ·rw[(Rg o h).2];exact⟨rfl,f1⟩
 rw[Z4 o h];refine an.of (Ri o w1) ?_;rintro _ w2 ⟨rfl,f2⟩;refine⟨_,rfl,ae.not (ae.by (λ hn=>?_) (λ hn=>?_))⟩
 ·rw[hn];exact⟨rfl,f1.trans f2⟩
 rw[hn];refine an.of (Ce o w2) ?_;rintro _ w3 ⟨u,rfl,hu,f3⟩;refine⟨u,rfl,?_⟩;have dP:=hu.len;have EB:=HP o
 -- is there one aij is not?
 have hc:au 245 #[.slice u.1 u.2.1 u.2.2,.func (.func 246) #[] #[]] w3 λ r w'=>r=.bool ((dY o).any λ k=>!eF k)/\Fr none1 w3 w':=by
  refine c245 u.1 u.2.1 u.2.2 _ w3 _ ?_;have hx:au 267 #[.slice u.1 u.2.1 u.2.2,.func (.func 246) #[] #[]] w3 λ r w'=>(∃ i:Int,r=aa i/\decide (i >= 0)=(dY o).any λ k=>!eF k)/\Fr none1 w3 w':=by
   refine c267 u.1 u.2.1 u.2.2 _ w3 _ ?_;refine cp.of (λ s w'=>∃ i:Nat,s.1=i/\i<=(dY o).length/\((dY o).take i).any (λ k=>!eF k)=false/\Fr none1 w3 w'/\oY w' u (dY o)) (λ s _=>(2 - s.1).toNat) ⟨0,rfl,fj _,rfl,Fr.refl _ _,hu⟩ ?_;rintro _ ⟨i',_⟩ w4 ⟨i,hi,jV,hall,f4,Cg⟩;dsimp only at hi ⊢;subst hi;refine ae.dec (λ bI=>?_) (λ gk=>?_)
   ·have ir:i<(dY o).length:=ab
    obtain⟨k,hk⟩:∃ k,(dY o)[i]? = some k:=⟨_,cV ir⟩;refine Cg.ld hk ?_;have rA:=mI hk;have Ch:au 246 #[k.v] w4 λ r w'=>r=.bool (!eF k)/\Fr none1 w4 w':=by
     refine c246 k.v w4 _ ?_;refine an.of (ih k rA w4) ?_;rintro _ w5 ⟨rfl,f5⟩;exact⟨_,rfl,rfl,f5⟩
    refine pC aA Tryz.func246 aA (Ch.mono ?_);rintro _ w5 ⟨rfl,f5⟩;refine⟨_,rfl,ae.by (λ hb=>?_) (λ hb=>?_)⟩
    ·refine⟨⟨(i:Int),rfl,?_⟩,f4.trans f5⟩
     rw[decide_eq_true ab,eq_comm,List.any_eq_true];exact⟨k,rA,hb⟩
    ·refine⟨⟨i+1,by rw[wI ab ab];omega,by omega,?_,f4.trans f5,Cg.ag f5⟩,by rw[wI ab ab];omega⟩
     rw[oz,hk,List.any_append,hall];simpa using hb
   ·refine⟨⟨-1,rfl,?_⟩,f4⟩
    rw[gV ab] at hall;rw[hall];rfl
  refine an.of hx ?_;rintro _ w4 ⟨⟨i,rfl,hi⟩,f4⟩;exact⟨_,rfl,by rw[hi],f4⟩
 refine an.of hc ?_;rintro _ w4 ⟨rfl,f4⟩;exact⟨_,rfl,by simp,((f1.trans f2).trans f3).trans f4⟩
termination_by SizeOf.sizeOf o
decreasing_by exact HN hk
theorem LH (o:Ob)(hn:cv o<=1000000)(w:ah):au 196 #[o.v] w λ r w'=>r=aa (zY o)/\Fr none1 w w':=by
 refine c196 o.v w _ ?_;refine an.of (Rj o w) ?_;rintro _ w1 ⟨rfl,f1⟩;unfold zY;refine⟨_,rfl,ae.not (ae.by (λ h=>?_) (λ h=>?_))⟩
 case refine_2=>rw[if_pos h];exact⟨rfl,f1⟩
 rw[if_neg (by simp[h])];refine an.of (LG o hn w1) ?_;rintro _ w2 ⟨rfl,f2⟩;refine⟨((cv o:Int),(eS o:Int),()),rfl,?_⟩;dsimp only;refine ae.dec (λ h=>?_) (λ h=>?_)
 ·rw[if_pos ab];exact⟨rfl,f1.trans f2⟩
 rw[if_neg ab];refine ae.dec (λ h=>?_) (λ h=>?_)
 ·rw[if_pos ab];exact⟨rfl,f1.trans f2⟩
 rw[if_neg ab];exact⟨rfl,f1.trans f2⟩
def C198 (p0:av)(w:ah)(K:aP):Prop:=
 aD p0 180 (.agg [.raw]) (λ(x1:av×Unit)=>aC (.cells #[.nilIface] 180) w (λ g2 w3=>aG (ad g2) [x1.1] w3 (λ w4=>af .raw ((ad g2).add 0) w4 (λ(x5:av)=>aT (Instr.buildSlice 334 1 #[(0,x5)]) w4 aM (λ(x6:aB) w7=>K (aO x6) w7)))))
 (aC (.cells #[.nilIface] 180) w (λ g8 w9=>aG (ad g8) [.nilIface] w9 (λ aX=>aD p0 182 (.agg [.raw,.raw]) (λ(bQ:av×av×Unit)=>aC (.cells #[.nilIface,.nilIface] 182) aX (λ g12 bM=>aG (ad g12) [bQ.1,bQ.2.1] bM (λ bY=>af .raw ((ad g12).add 0) bY (λ(cm:av)=>af .raw ((ad g12).add 1) bY (λ(bP:av)=>aT (Instr.buildSlice 334 2 #[(0,cm),(1,bP)]) bY aM (λ(bZ:aB) b9=>K (aO bZ) b9))))))
 (aC (.cells #[.nilIface,.nilIface] 182) aX (λ g19 bW=>aG (ad g19) [.nilIface,.nilIface] bW (λ cr=>aD p0 184 (.agg [.str,.raw,.raw]) (λ(cW:ay×av×av×Unit)=>aC (.cells #[aj,.nilIface,.nilIface] 184) cr (λ g23 cZ=>aG (ad g23) [.string cW.1,cW.2.1,cW.2.2.1] cZ (λ eJ=>af .raw ((ad g23).add 1) eJ (λ(eX:av)=>af .raw ((ad g23).add 2) eJ (λ(eD:av)=>aT (Instr.buildSlice 334 2 #[(0,eX),(1,eD)]) eJ aM (λ(ji:aB) gr=>K (aO ji) gr))))))
 (aC (.cells #[aj,.nilIface,.nilIface] 184) cr (λ v8 gZ=>aG (ad v8) [aj,.nilIface,.nilIface] gZ (λ dQ=>aD p0 188 (.agg [.raw,.raw]) (λ(fk:av×av×Unit)=>aC (.cells #[.nilIface,.nilIface] 188) dQ (λ Af gh=>aG (ad Af) [fk.1,fk.2.1] gh (λ dW=>af .raw ((ad Af).add 1) dW (λ(ka:av)=>aT (Instr.buildSlice 334 1 #[(0,ka)]) dW aM (λ(gn:aB) gq=>K (aO gn) gq)))))
 (aC (.cells #[.nilIface,.nilIface] 188) dQ (λ EC oB=>aG (ad EC) [.nilIface,.nilIface] oB (λ iI=>aD p0 190 (.agg [.int .i64,.raw]) (λ(mL:Int×av×Unit)=>aC (.cells #[aa 0,.nilIface] 190) iI (λ Ci jH=>aG (ad Ci) [aa mL.1,mL.2.1] jH (λ kf=>af .raw ((ad Ci).add 1) kf (λ(fu:av)=>aT (Instr.buildSlice 334 1 #[(0,fu)]) kf aM (λ(mr:aB) wi=>K (aO mr) wi)))))
 (aC (.cells #[aa 0,.nilIface] 190) iI (λ Z9 mO=>aG (ad Z9) [aa 0,.nilIface] mO (λ jx=>aD p0 192 (.agg [.raw,.raw,.raw]) (λ(kc:av×av×av×Unit)=>aC (.cells #[.nilIface,.nilIface,.nilIface] 192) jx (λ LI jI=>aG (ad LI) [kc.1,kc.2.1,kc.2.2.1] jI (λ wj=>af .raw ((ad LI).add 1) wj (λ(uU:av)=>af .raw ((ad LI).add 2) wj (λ(rC:av)=>aT (Instr.buildSlice 334 2 #[(0,uU),(1,rC)]) wj aM (λ(zQ:aB) xX=>K (aO zQ) xX))))))
 (aC (.cells #[.nilIface,.nilIface,.nilIface] 192) jx (λ sM lT=>aG (ad sM) [.nilIface,.nilIface,.nilIface] lT (λ xY=>K (.slice none 0 0) xY))))))))))))))))))
def pl198:aN:=.auto
theorem c198 (p0 w K)(h:C198 p0 w K):au 198 #[p0] w K:=aQ Tryz.func198 (p:=pl198) aA h
def C193 (p0:av)(w:ah)(K:aP):Prop:=
 aD p0 176 (.agg []) (λ(x1:Unit)=>K (aa 1) w)
 (aD p0 178 (.agg [.str]) (λ(x2:ay×Unit)=>K (aa 2) w)
 (aD p0 180 (.agg [.raw]) (λ(x3:av×Unit)=>K (aa 3) w)
 (aD p0 182 (.agg [.raw,.raw]) (λ(x4:av×av×Unit)=>K (aa 4) w)
 (aD p0 184 (.agg [.str,.raw,.raw]) (λ(x5:ay×av×av×Unit)=>K (aa 5) w)
 (aD p0 188 (.agg [.raw,.raw]) (λ(x6:av×av×Unit)=>K (aa 6) w)
 (aD p0 190 (.agg [.int .i64,.raw]) (λ(x7:Int×av×Unit)=>K (aa 7) w)
 (aD p0 192 (.agg [.raw,.raw,.raw]) (λ(x8:av×av×av×Unit)=>K (aa 8) w)
 (K (aa 0) w))))))))
def pl193:aN:=.auto
theorem c193 (p0 w K)(h:C193 p0 w K):au 193 #[p0] w K:=aQ Tryz.func193 (p:=pl193) aA h
def C192 (p0:av)(w:ah)(K:aP):Prop:=
 aD p0 178 (.agg [.str]) (λ(x1:ay×Unit)=>aC (.cells #[aj] 178) w (λ g2 w3=>aG (ad g2) [.string x1.1] w3 (λ w4=>af .str ((ad g2).add 0) w4 (λ(x5:ay)=>K (.tuple #[.string x5,aa 0]) w4))))
 (aC (.cells #[aj] 178) w (λ g6 w7=>aG (ad g6) [aj] w7 (λ w8=>aD p0 184 (.agg [.str,.raw,.raw]) (λ(x9:ay×av×av×Unit)=>aC (.cells #[aj,.nilIface,.nilIface] 184) w8 (λ g10 bt=>aG (ad g10) [.string x9.1,x9.2.1,x9.2.2.1] bt (λ br=>af .str ((ad g10).add 0) br (λ(cA:ay)=>K (.tuple #[.string cA,aa 0]) br))))
 (aC (.cells #[aj,.nilIface,.nilIface] 184) w8 (λ g14 cB=>aG (ad g14) [aj,.nilIface,.nilIface] cB (λ bV=>aD p0 190 (.agg [.int .i64,.raw]) (λ(bZ:Int×av×Unit)=>aC (.cells #[aa 0,.nilIface] 190) bV (λ g18 ct=>aG (ad g18) [aa bZ.1,bZ.2.1] ct (λ bW=>aU bW (λ cr=>af (.int .i64) ((ad g18).add 0) cr (λ(cW:Int)=>K (.tuple #[aj,aa cW]) cr)))))
 (aC (.cells #[aa 0,.nilIface] 190) bV (λ g23 cZ=>aG (ad g23) [aa 0,.nilIface] cZ (λ eJ=>K (.tuple #[aj,aa 0]) eJ)))))))))
def pl192:aN:=(.seq .auto (.seq .auto (.seq .auto (.seq (.seq .auto (.seq .auto (.cond (.seq .still .auto) .auto))) .auto))))
theorem c192 (p0 w K)(h:C192 p0 w K):au 192 #[p0] w K:=aQ Tryz.func192 (p:=pl192) aA h
def C195 (p0:av)(w:ah)(K:aP):Prop:=
 aD p0 188 (.agg [.raw,.raw]) (λ(x1:av×av×Unit)=>aC (.cells #[.nilIface,.nilIface] 188) w (λ g2 w3=>aG (ad g2) [x1.1,x1.2.1] w3 (λ w4=>af .raw ((ad g2).add 0) w4 (λ(x5:av)=>K (.tuple #[x5,.bool true]) w4))))
 (aC (.cells #[.nilIface,.nilIface] 188) w (λ g6 w7=>aG (ad g6) [.nilIface,.nilIface] w7 (λ w8=>aD p0 192 (.agg [.raw,.raw,.raw]) (λ(x9:av×av×av×Unit)=>aC (.cells #[.nilIface,.nilIface,.nilIface] 192) w8 (λ g10 bt=>aG (ad g10) [x9.1,x9.2.1,x9.2.2.1] bt (λ br=>af .raw ((ad g10).add 0) br (λ(cA:av)=>K (.tuple #[cA,.bool true]) br))))
 (aC (.cells #[.nilIface,.nilIface,.nilIface] 192) w8 (λ g14 cB=>aG (ad g14) [.nilIface,.nilIface,.nilIface] cB (λ bV=>K (.tuple #[.nilIface,.bool false]) bV))))))
def pl195:aN:=.auto
theorem c195 (p0 w K)(h:C195 p0 w K):au 195 #[p0] w K:=aQ Tryz.func195 (p:=pl195) aA h
def C156 (p0:av)(w:ah)(K:aP):Prop:=
 ak 193 #[p0] w bN (λ(x1:Int) w2=>ae (x1==0)
 (K (.tuple #[aa 0,aa 0]) w2)
 (dc (Int×Int×Unit) (λ J3=>ak 195 #[p0] w2 (.bR [.one .raw,.one .bool]) (λ(x6:av×Bool×Unit) w7=>ae x6.2.1
 (ak 200 #[x6.1] w7 (.bR [.one (.int .i64),.one (.int .i64)]) (λ(x8:Int×Int×Unit) w9=>J3 (x8.1,x8.2.1,()) w9))
 (J3 (0,0,()) w7)))
 (λ _ s4 w5=>ak 198 #[p0] w5 aM (λ(bG:aB) bt=>cp (Int×Int×Int×Unit) (λ _ gd bM Et=>ae (decide (gd.2.2.1<(bG.2.1:Int)))
 (cz bG.1 bG.2.1 gd.2.2.1 1 (λ zT=>af .raw zT bM (λ(bP:av)=>ak 156 #[bP] bM (.bR [.one (.int .i64),.one (.int .i64)]) (λ(bZ:Int×Int×Unit) b9=>Et (IntKind.i64.wrap (gd.1+bZ.1),(if bZ.2.1 > gd.2.1 then bZ.2.1 else gd.2.1),IntKind.i64.wrap (gd.2.2.1+1),()) b9))))
 (K (.tuple #[aa (IntKind.i64.wrap (gd.1+1)),aa (IntKind.i64.wrap (gd.2.1+1))]) bM))
 (s4.1,s4.2.1,0,()) bt))))
def pl156:aN:=(.seq .auto (.seq .auto (.join [(2,.one (.int .i64)),(3,.one (.int .i64))] .auto (.seq (.seq .auto (.block (.loop [(2,.one (.int .i64)),(3,.one (.int .i64)),(27,.one (.int .i64))] .auto))) .auto))))
theorem c156 (p0 w K)(h:C156 p0 w K):au 156 #[p0] w K:=aQ Tryz.func156 (p:=pl156) aA h
def C155 (p0:av)(w:ah)(K:aP):Prop:=
 ak 192 #[p0] w (.bR [.one .str,.one (.int .i64)]) (λ(x1:ay×Int×Unit) w2=>dc (Bool×Unit) (λ J3=>ak 193 #[p0] w2 bN (λ(x6:Int) w7=>ak 193 #[.iface 178 (.agg #[aj])] w7 bN (λ(x8:Int) w9=>ae (x6==x8)
 (J3 (true,()) w9)
 (ak 193 #[p0] w9 bN (λ(bG:Int) bt=>ak 193 #[.iface 184 (.agg #[aj,.nilIface,.nilIface])] bt bN (λ(cn:Int) bM=>J3 ((bG==cn),()) bM))))))
 (λ _ s4 w5=>dc (Bool×Unit) (λ wk=>ak 193 #[p0] w5 bN (λ(bZ:Int) b9=>ae (bZ==0)
 (wk (true,()) b9)
 (ae s4.1
 (ak 194 #[.string x1.1] b9 bK (λ(cJ:Bool) bW=>ae (!cJ)
 (wk (true,()) bW)
 (ae (decide (x1.2.1<0))
 (wk (true,()) bW)
 (wk (decide (x1.2.1 > 10000),()) bW))))
 (ae (decide (x1.2.1<0))
 (wk (true,()) b9)
 (wk (decide (x1.2.1 > 10000),()) b9)))))
 (λ _ pM bV=>ae pM.1
 (K (.bool false) bV)
 (ak 195 #[p0] bV (.bR [.one .raw,.one .bool]) (λ(du:av×Bool×Unit) cH=>ae du.2.1
 (ak 196 #[du.1] cH bN (λ(eB:Int) cZ=>ae (eB==2)
 (K (.bool false) cZ)
 (ak 198 #[p0] cZ aM (λ(cR:aB) de=>ak 197 #[aO cR,.func (.func 199) #[] #[]] de bK (λ(eD:Bool) cS=>K (.bool (!eD)) cS)))))
 (ak 198 #[p0] cH aM (λ(eQ:aB) cN=>ak 197 #[aO eQ,.func (.func 199) #[] #[]] cN bK (λ(dt:Bool) dQ=>K (.bool (!dt)) dQ))))))))
def pl155:aN:=(.seq .auto (.seq .auto (.join [(5,.one .bool)] .auto (.seq (.join [(45,.one .bool)] .auto .auto) .auto))))
theorem c155 (p0 w K)(h:C155 p0 w K):au 155 #[p0] w K:=aQ Tryz.func155 (p:=pl155) aA h
def C199 (p0:av)(w:ah)(K:aP):Prop:=
 ak 155 #[p0] w bK (λ(x1:Bool) w2=>K (.bool (!x1)) w2)
def pl199:aN:=.auto
theorem c199 (p0 w K)(h:C199 p0 w K):au 199 #[p0] w K:=aQ Tryz.func199 (p:=pl199) aA h
def C157 (p0:av)(w:ah)(K:aP):Prop:=
 dc (aB×Unit) (λ J1=>aD p0 184 (.agg [.str,.raw,.raw]) (λ(x4:ay×av×av×Unit)=>aC (.cells #[aj,.nilIface,.nilIface] 184) w (λ g5 w6=>aG (ad g5) [.string x4.1,x4.2.1,x4.2.2.1] w6 (λ w7=>af .str ((ad g5).add 0) w7 (λ(x8:ay)=>aT (Instr.buildSlice 56 1 #[(0,.string x8)]) w7 aM (λ(x9:aB) aX=>aT (Builtin.append_ #[56,56] 56 #[.slice none 0 0,aO x9]) aX aM (λ(bQ:aB) br=>J1 ((bQ.1,bQ.2.1,bQ.2.2),()) br))))))
 (aC (.cells #[aj,.nilIface,.nilIface] 184) w (λ g13 bY=>aG (ad g13) [aj,.nilIface,.nilIface] bY (λ cB=>J1 ((none,0,0),()) cB))))
 (λ _ s2 w3=>ak 198 #[p0] w3 aM (λ(bP:aB) da=>cp (aB×Int×Unit) (λ _ sH ct aaa=>ae (decide (sH.2.1<(bP.2.1:Int)))
 (cz bP.1 bP.2.1 sH.2.1 1 (λ a21=>af .raw a21 ct (λ(cW:av)=>ak 157 #[cW] ct aM (λ(eB:aB) cZ=>aT (Builtin.append_ #[56,56] 56 #[.slice sH.1.1 sH.1.2.1 sH.1.2.2,aO eB]) cZ aM (λ(cR:aB) de=>aaa ((cR.1,cR.2.1,cR.2.2),IntKind.i64.wrap (sH.2.1+1),()) de)))))
 (K (.slice sH.1.1 sH.1.2.1 sH.1.2.2) ct))
 ((s2.1.1,s2.1.2.1,s2.1.2.2),0,()) da))
def pl157:aN:=(.seq .auto (.seq .auto (.join [(3,.one .bE)] .auto (.seq (.seq .auto (.block (.loop [(3,.one .bE),(22,.one (.int .i64))] .auto))) .auto))))
theorem c157 (p0 w K)(h:C157 p0 w K):au 157 #[p0] w K:=aQ Tryz.func157 (p:=pl157) aA h
def C126 (p0:av)(w:ah)(K:aP):Prop:=
 ak 155 #[p0] w bK (λ(x1:Bool) w2=>ae (!x1)
 (K (aa 2) w2)
 (ak 156 #[p0] w2 (.bR [.one (.int .i64),.one (.int .i64)]) (λ(x3:Int×Int×Unit) w4=>ae (decide (x3.1 > 60))
 (K (aa 5) w4)
 (ae (decide (x3.2.1 > 12))
 (K (aa 5) w4)
 (ak 157 #[p0] w4 aM (λ(x5:aB) w6=>cp (Int×Unit) (λ _ s7 w8 Ah=>ae (decide (s7.1<(x5.2.1:Int)))
 (cz x5.1 x5.2.1 s7.1 1 (λ tU=>af .str tU w8 (λ(bQ:ay)=>gQ x5.1 x5.2.2 0 s7.1 x5.2.2 1 (λ a12 l13 c14=>ak 158 #[.slice a12 l13 c14,.string bQ] w8 bK (λ(cm:Bool) bV=>ae cm
 (K (aa 4) bV)
 (Ah (IntKind.i64.wrap (s7.1+1),()) bV))))))
 (K (aa 0) w8))
 (0,()) w6))))))
def pl126:aN:=(.seq .auto (.seq .auto (.seq .auto (.seq .auto (.seq (.seq .auto (.block (.loop [(26,.one (.int .i64))] .auto))) .auto)))))
theorem c126 (p0 w K)(h:C126 p0 w K):au 126 #[p0] w K:=aQ Tryz.func126 (p:=pl126) aA h
def C197 (p0:aS)(bh bC:Nat)(p1:av)(w:ah)(K:aP):Prop:=
 ak 225 #[.slice p0 bh bC,p1] w bN (λ(x1:Int) w2=>K (.bool (decide (x1 >= 0))) w2)
def pl197:aN:=.auto
theorem c197 (p0 bh bC p1 w K)(h:C197 p0 bh bC p1 w K):au 197 #[.slice p0 bh bC,p1] w K:=aQ Tryz.func197 (p:=pl197) aA h
def C225 (p0:aS)(bh bC:Nat)(p1:av)(w:ah)(K:aP):Prop:=
 cp (Int×Unit) (λ _ s1 w2 jh=>ae (decide (s1.1<(bh:Int)))
 (cz p0 bh s1.1 1 (λ a4=>af .raw a4 w2 (λ(x5:av)=>nH Tryz.prog p1 [x5] bK w2 (λ(x6:Bool) w7=>ae x6
 (K (aa s1.1) w7)
 (jh (IntKind.i64.wrap (s1.1+1),()) w7)))))
 (K (aa (-1)) w2))
 (0,()) w
def pl225:aN:=(.seq .auto (.seq (.seq .auto (.block (.loop [(8,.one (.int .i64))] .auto))) .auto))
theorem c225 (p0 bh bC p1 w K)(h:C225 p0 bh bC p1 w K):au 225 #[.slice p0 bh bC,p1] w K:=aQ Tryz.func225 (p:=pl225) aA h
def C158 (p0:aS)(bh bC:Nat)(p1:ay)(w:ah)(K:aP):Prop:=
 ak 201 #[.slice p0 bh bC,.string p1] w bN (λ(x1:Int) w2=>K (.bool (decide (x1 >= 0))) w2)
def pl158:aN:=.auto
theorem c158 (p0 bh bC p1 w K)(h:C158 p0 bh bC p1 w K):au 158 #[.slice p0 bh bC,.string p1] w K:=aQ Tryz.func158 (p:=pl158) aA h
def C201 (p0:aS)(bh bC:Nat)(p1:ay)(w:ah)(K:aP):Prop:=
 cp (Int×Unit) (λ _ s1 w2 jh=>ae (decide (s1.1<(bh:Int)))
 (cz p0 bh s1.1 1 (λ a4=>af .str a4 w2 (λ(x5:ay)=>ae (p1.toList==x5.toList)
 (K (aa s1.1) w2)
 (jh (IntKind.i64.wrap (s1.1+1),()) w2))))
 (K (aa (-1)) w2))
 (0,()) w
def pl201:aN:=(.seq .auto (.seq (.seq .auto (.block (.loop [(8,.one (.int .i64))] .auto))) .auto))
theorem c201 (p0 bh bC p1 w K)(h:C201 p0 bh bC p1 w K):au 201 #[.slice p0 bh bC,.string p1] w K:=aQ Tryz.func201 (p:=pl201) aA h
def lB:Tm->Int
 | .none=>0
 | .zero=>1
 | .one _=>2
 | .dy _=>3
 | .and _ _=>4
 | .or _ _ _=>5
 | .scale _ _=>6
 | .when _ _=>7
 | .cond _ _ _=>8
def kg:Tm->ai×Int
 | .one s=>(s,0)
 | .or s _ _=>(s,0)
 | .when d _=>([],d)
 | _=>([],0)
def iu:Tm->Ob×Bool
 | .scale o _=>(o,true)
 | .cond o _ _=>(o,true)
 | _=>(.none,false)
def dJ:Tm->Bool
 | .none=>false
 | .zero=>true
 | .one s=>gY s
 | .dy t=>dJ t
 | .and l r=>dJ l&&dJ r
 | .or s l r=>gY s&&(dJ l&&dJ r)
 | .scale o t=>eF o&&dJ t
 | .when d t=>decide (0<=d)&&decide (d<=10000)&&dJ t
 | .cond o l r=>eF o&&(dJ l&&dJ r)
def bj:Tm->Nat
 | .none=>0
 | .zero=>1
 | .one _=>1
 | .dy t=>bj t+1
 | .and l r=>bj l+bj r+1
 | .or _ l r=>bj l+bj r+1
 | .scale o t=>cv o+bj t+1
 | .when _ t=>bj t+1
 | .cond o l r=>cv o+bj l+bj r+1
def dv:Tm->Nat
 | .none=>0
 | .zero=>1
 | .one _=>1
 | .dy t=>dv t+1
 | .and l r=>max (dv l) (dv r)+1
 | .or _ l r=>max (dv l) (dv r)+1
 | .scale o t=>max (eS o) (dv t)+1
 | .when _ t=>dv t+1
 | .cond o l r=>max (max (eS o) (dv l)) (dv r)+1
def iL:Tm->List (ai)
 | .none=>[]
 | .zero=>[]
 | .one _=>[]
 | .dy t=>iL t
 | .and l r=>iL l++iL r
 | .or s l r=>s::(iL l++iL r)
 | .scale _ t=>iL t
 | .when _ t=>iL t
 | .cond _ l r=>iL l++iL r
def mu (t:Tm):Int:=if dJ t=false then 2 else if 60<bj t then 5 else if 12<dv t then 5 else if(iL t).Nodup then 0 else 4
def wm (t:Tm):Nat:=cv (iu t).1
def Ai (t:Tm):Nat:=eS (iu t).1
def Aj:Tm->List (ai)
 | .or s _ _=>[s]
 | _=>[]
theorem LJ (t:Tm):(lB t=0)↔t=.none:=by cases t<;>simp[lB]
theorem LK (t:Tm)(h:t≠.none):bj t=wm t+lS ((eK t).map bj)+1:=by cases t<;>simp[bj,eK,lS,wm,iu,cv] at h ⊢<;>omega
theorem aab (t:Tm)(h:t≠.none):dv t=((eK t).map dv).foldl max (Ai t)+1:=by
 cases t<;>simp only[dv,eK,Ai,iu,eS,gU,gb,lO,List.foldl_nil] at h ⊢
 all_goals first | omega | exact absurd rfl h
theorem aac (t:Tm):iL t=Aj t++(eK t).flatMap iL:=by cases t<;>simp[iL,eK,Aj]
theorem Rl (t:Tm):dv t<=bj t:=by
 induction t with
 | none=>exact eR _
 | zero=>exact eR _
 | one=>exact eR _
 | dy t ih=>unfold dv bj;omega
 | when d t ih=>unfold dv bj;omega
 | and l r a b=>unfold dv bj;omega
 | or s l r a b=>unfold dv bj;omega
 | scale o t ih=>unfold dv bj;have:=HV o;omega
 | cond o l r a b=>unfold dv bj;have:=HV o;omega
theorem Rm (t:Tm):(iL t).length<=bj t:=by
 induction t with
 | none=>exact fj _
 | zero=>exact fj _
 | one=>exact fj _
 | dy t ih=>unfold iL bj;omega
 | when d t ih=>unfold iL bj;omega
 | and l r a b=>unfold iL bj;rw[bU];omega
 | or s l r a b=>unfold iL bj;rw[cY,bU];omega
 | scale o t ih=>unfold iL bj;omega
 | cond o l r a b=>unfold iL bj;rw[bU];omega
def uY (t:Tm):Bool:=!(decide (lB t=0))&&(!(decide (lB t=2\/lB t=5))||gY (kg t).1)&&(decide (0<=(kg t).2)&&decide ((kg t).2<=10000))
theorem aad (t:Tm):dJ t=(uY t&&(!(iu t).2||eF (iu t).1)&&!((eK t).any λ k=>!dJ k)):=by
 cases t<;>simp[dJ,uY,lB,kg,iu,eK,Bool.and_assoc]
 all_goals rfl
theorem wo (t:Tm)(w:ah):au 193 #[t.v] w λ r w'=>r=aa (lB t)/\w=w':=by
 refine c193 t.v w _ ?_;unfold C193;cases t with
 | none=>exact aD.nil rfl (aD.nil rfl (aD.nil rfl (aD.nil rfl (aD.nil rfl (aD.nil rfl (aD.nil rfl (aD.nil rfl ⟨rfl,rfl⟩)))))))
 | zero=>exact aD.hit () rfl ⟨rfl,rfl⟩
 | one s=>exact aD.bn rfl ar (aD.hit (str s,()) rfl ⟨rfl,rfl⟩)
 | dy t=>exact aD.bn rfl ar (aD.bn rfl ar (aD.hit (t.v,()) rfl ⟨rfl,rfl⟩))
 | and l r=>exact aD.bn rfl ar (aD.bn rfl ar (aD.bn rfl ar (aD.hit (l.v,r.v,()) rfl ⟨rfl,rfl⟩)))
 | or s l r=>exact aD.bn rfl ar (aD.bn rfl ar (aD.bn rfl ar (aD.bn rfl ar (aD.hit (str s,l.v,r.v,()) rfl ⟨rfl,rfl⟩))))
 | scale o t=>exact aD.bn rfl ar (aD.bn rfl ar (aD.bn rfl ar (aD.bn rfl ar (aD.bn rfl ar (aD.hit (o.v,t.v,()) rfl ⟨rfl,rfl⟩)))))
 | when d t=>exact aD.bn rfl ar (aD.bn rfl ar (aD.bn rfl ar (aD.bn rfl ar (aD.bn rfl ar (aD.bn rfl ar (aD.hit (d,t.v,()) rfl ⟨rfl,rfl⟩))))))
 | cond o l r=>exact aD.bn rfl ar (aD.bn rfl ar (aD.bn rfl ar (aD.bn rfl ar (aD.bn rfl ar (aD.bn rfl ar (aD.bn rfl ar (aD.hit (o.v,l.v,r.v,()) rfl ⟨rfl,rfl⟩)))))))
def wq (v:av)(t:TypeId):Prop:=v=.nilIface\/∃ u x,v=.iface u x/\u≠t
theorem wq.ta {v:av}{t:TypeId}{k:Kd}{yes:k.C->Prop}{no:Prop}(h:wq v t)(hn:no):aD v t k yes no:=⟨.inr ⟨h,hn⟩⟩
theorem Tm.aae {t:Tm}(h:∀ s,t≠.one s):wq t.v 178:=by cases t<;>first | exact .inl rfl | exact .inr ⟨_,_,rfl,by decide⟩ | exact absurd rfl (h _)
theorem Tm.not_or {t:Tm}(h:∀ s l r,t≠.or s l r):wq t.v 184:=by cases t<;>first | exact .inl rfl | exact .inr ⟨_,_,rfl,by decide⟩ | exact absurd rfl (h _ _ _)
theorem Tm.Rn {t:Tm}(h:∀ d u,t≠.when d u):wq t.v 190:=by cases t<;>first | exact .inl rfl | exact .inr ⟨_,_,rfl,by decide⟩ | exact absurd rfl (h _ _)
theorem Tm.Ro {t:Tm}(h:∀ o u,t≠.scale o u):wq t.v 188:=by cases t<;>first | exact .inl rfl | exact .inr ⟨_,_,rfl,by decide⟩ | exact absurd rfl (h _ _)
theorem Tm.Rp {t:Tm}(h:∀ o l r,t≠.cond o l r):wq t.v 192:=by cases t<;>first | exact .inl rfl | exact .inr ⟨_,_,rfl,by decide⟩ | exact absurd rfl (h _ _ _)
theorem Tm.aaf {t:Tm}(h:∀ u,t≠.dy u):wq t.v 180:=by cases t<;>first | exact .inl rfl | exact .inr ⟨_,_,rfl,by decide⟩ | exact absurd rfl (h _)
theorem Tm.not_and {t:Tm}(h:∀ l r,t≠.and l r):wq t.v 182:=by cases t<;>first | exact .inl rfl | exact .inr ⟨_,_,rfl,by decide⟩ | exact absurd rfl (h _ _)
theorem tV {w0:ah}{zs:List av}{K:ah->Prop}(f0:Fr none1 w w0)(h1:zs.all cG=true)(h:∀ w4,Fr none1 w w4->K w4):aC (.cells zs.toArray T) w0 (λ g w3=>aG ⟨g,0,none⟩ zs w3 λ w4=>K w4):=
 pP rfl h1 λ w4 f=>h w4 (f0.trans f)
theorem LL (t:Tm)(w:ah):au 192 #[t.v] w λ r w'=>r=.tuple #[.string (str (kg t).1),aa (kg t).2]/\Fr none1 w w':=by
 refine c192 t.v w _ ?_;unfold C192;have f0:=Fr.refl none1 w;have z1:∀ {K:ah->Prop},(∀ w4,Fr none1 w w4->K w4)->aC (.cells #[aj] 178) w (λ g w3=>aG ⟨g,0,none⟩ [aj] w3 λ w4=>K w4):=λ h=>tV (zs:=[aj]) f0 rfl h;have z2:∀ {w0:ah} {K:ah->Prop},Fr none1 w w0->(∀ w4,Fr none1 w w4->K w4)->aC (.cells #[aj,.nilIface,.nilIface] 184) w0 (λ g w3=>aG ⟨g,0,none⟩ [aj,.nilIface,.nilIface] w3 λ w4=>K w4):=λ f h=>tV (zs:=[aj,.nilIface,.nilIface]) f rfl h;have z3:∀ {w0:ah} {K:ah->Prop},Fr none1 w w0->(∀ w4,Fr none1 w w4->K w4)->aC (.cells #[aa 0,.nilIface] 190) w0 (λ g w3=>aG ⟨g,0,none⟩ [aa 0,.nilIface] w3 λ w4=>K w4):=λ f h=>tV (zs:=[aa 0,.nilIface]) f rfl h;have rest:((∀ s,t≠.one s)/\(∀ s l r,t≠.or s l r)/\∀ d u,t≠.when d u)->kg t=([],0):=by rintro⟨a,b,c⟩;cases t<;>first | rfl | exact absurd rfl (a _) | exact absurd rfl (b _ _ _) | exact absurd rfl (c _ _)
 by_cases h1:∃ s,t=.one s
 ·obtain⟨s,rfl⟩:=h1
  exact aD.hit (str s,()) rfl (dO (zs:=[aj]) (vs:=[.string (str s)]) rfl rfl λ g w1 _ hb f1=>af.aw hb (x:=str s) rfl ⟨rfl,f1⟩)
 have h1:∀ s,t≠.one s:=λ s e=>h1 ⟨s,e⟩;refine(Tm.aae h1).ta (z1 λ w1 f1=>?_)
 by_cases h2:∃ s l r,t=.or s l r
 ·obtain⟨s,l,r,rfl⟩:=h2
  exact aD.hit (str s,l.v,r.v,()) rfl (dO (zs:=[aj,.nilIface,.nilIface]) (vs:=[.string (str s),l.v,r.v]) rfl (by simp[Tm.cU,sK]) λ g w2 _ hb f2=>af.aw hb (x:=str s) rfl ⟨rfl,f1.trans f2⟩)
 have h2:∀ s l r,t≠.or s l r:=λ s l r e=>h2 ⟨s,l,r,e⟩;refine(Tm.not_or h2).ta (z2 f1 λ w2 f2=>?_)
 by_cases h3:∃ d u,t=.when d u
 ·obtain⟨d,u,rfl⟩:=h3
  refine aD.hit (d,u.v,()) rfl (dO (zs:=[aa 0,.nilIface]) (vs:=[aa d,u.v]) rfl (by simp[Tm.cU,tT]) λ g w3 _ hb f3=>?_);refine aU.of λ w4 hh f4=>?_;exact af.aw (f4.ag hb) (x:=d) rfl ⟨rfl,(f2.trans f3).trans f4⟩
 have h3:∀ d u,t≠.when d u:=λ d u e=>h3 ⟨d,u,e⟩;refine(Tm.Rn h3).ta (z3 f2 λ w3 f3=>?_);rw[rest ⟨h1,h2,h3⟩];exact⟨rfl,f3⟩
theorem HW (t:Tm)(w:ah):au 195 #[t.v] w λ r w'=>r=.tuple #[(iu t).1.v,.bool (iu t).2]/\Fr none1 w w':=by
 refine c195 t.v w _ ?_;unfold C195;have f0:=Fr.refl none1 w;have z1:∀ {K:ah->Prop},(∀ w4,Fr none1 w w4->K w4)->aC (.cells #[.nilIface,.nilIface] 188) w (λ g w3=>aG ⟨g,0,none⟩ [.nilIface,.nilIface] w3 λ w4=>K w4):=λ h=>tV (zs:=[.nilIface,.nilIface]) f0 rfl h;have z2:∀ {w0:ah} {K:ah->Prop},Fr none1 w w0->(∀ w4,Fr none1 w w4->K w4)->aC (.cells #[.nilIface,.nilIface,.nilIface] 192) w0 (λ g w3=>aG ⟨g,0,none⟩ [.nilIface,.nilIface,.nilIface] w3 λ w4=>K w4):=λ f h=>tV (zs:=[.nilIface,.nilIface,.nilIface]) f rfl h;have rest:((∀ o u,t≠.scale o u)/\∀ o l r,t≠.cond o l r)->iu t=(.none,false):=by rintro⟨a,b⟩;cases t<;>first | rfl | exact absurd rfl (a _ _) | exact absurd rfl (b _ _ _)
 by_cases h1:∃ o u,t=.scale o u
 ·obtain⟨o,u,rfl⟩:=h1
  exact aD.hit (o.v,u.v,()) rfl (dO (zs:=[.nilIface,.nilIface]) (vs:=[o.v,u.v]) rfl (by simp[Tm.cU,Ob.cU]) λ g w1 _ hb f1=>af.aw (c:=.raw) hb (x:=o.v) rfl ⟨rfl,f1⟩)
 have h1:∀ o u,t≠.scale o u:=λ o u e=>h1 ⟨o,u,e⟩;refine(Tm.Ro h1).ta (z1 λ w1 f1=>?_)
 by_cases h2:∃ o l r,t=.cond o l r
 ·obtain⟨o,l,r,rfl⟩:=h2
  exact aD.hit (o.v,l.v,r.v,()) rfl (dO (zs:=[.nilIface,.nilIface,.nilIface]) (vs:=[o.v,l.v,r.v]) rfl (by simp[Tm.cU,Ob.cU]) λ g w2 _ hb f2=>af.aw (c:=.raw) hb (x:=o.v) rfl ⟨rfl,f1.trans f2⟩)
 have h2:∀ o l r,t≠.cond o l r:=λ o l r e=>h2 ⟨o,l,r,e⟩;refine(Tm.Rp h2).ta (z2 f1 λ w2 f2=>?_);rw[rest ⟨h1,h2⟩];exact⟨rfl,f2⟩
theorem ED (t:Tm)(w:ah):au 198 #[t.v] w λ r w'=>∃ u:Sl,r=.slice u.1 u.2.1 u.2.2/\qD w' u (eK t)/\Fr none1 w w'/\∀ k,aH u k->w.heap.size<=k:=by
 refine c198 t.v w _ ?_;unfold C198;have f0:=Fr.refl none1 w;have zn:∀ {w0:ah} {T:TypeId} {K:ah->Prop},Fr none1 w w0->(∀ w4,Fr none1 w w4->K w4)->aC (.cells #[.nilIface] T) w0 (λ g w3=>aG ⟨g,0,none⟩ [.nilIface] w3 λ w4=>K w4):=λ f h=>tV (zs:=[.nilIface]) f rfl h;have Rq:∀ {w0:ah} {T:TypeId} {K:ah->Prop},Fr none1 w w0->(∀ w4,Fr none1 w w4->K w4)->aC (.cells #[.nilIface,.nilIface] T) w0 (λ g w3=>aG ⟨g,0,none⟩ [.nilIface,.nilIface] w3 λ w4=>K w4):=λ f h=>tV (zs:=[.nilIface,.nilIface]) f rfl h;have zs3:∀ {w0:ah} {T:TypeId} {K:ah->Prop},Fr none1 w w0->(∀ w4,Fr none1 w w4->K w4)->aC (.cells #[aj,.nilIface,.nilIface] T) w0 (λ g w3=>aG ⟨g,0,none⟩ [aj,.nilIface,.nilIface] w3 λ w4=>K w4):=λ f h=>tV (zs:=[aj,.nilIface,.nilIface]) f rfl h;have zi2:∀ {w0:ah} {T:TypeId} {K:ah->Prop},Fr none1 w w0->(∀ w4,Fr none1 w w4->K w4)->aC (.cells #[aa 0,.nilIface] T) w0 (λ g w3=>aG ⟨g,0,none⟩ [aa 0,.nilIface] w3 λ w4=>K w4):=λ f h=>tV (zs:=[aa 0,.nilIface]) f rfl h;have zn3:∀ {w0:ah} {T:TypeId} {K:ah->Prop},Fr none1 w w0->(∀ w4,Fr none1 w w4->K w4)->aC (.cells #[.nilIface,.nilIface,.nilIface] T) w0 (λ g w3=>aG ⟨g,0,none⟩ [.nilIface,.nilIface,.nilIface] w3 λ w4=>K w4):=λ f h=>tV (zs:=[.nilIface,.nilIface,.nilIface]) f rfl h;have rest:(∀ u,t≠.dy u)->(∀ l r,t≠.and l r)->(∀ s l r,t≠.or s l r)->(∀ o u,t≠.scale o u)->(∀ d u,t≠.when d u)->(∀ o l r,t≠.cond o l r)->eK t=[]:=by
  intro a b c d e f;cases t<;>first | rfl | exact absurd rfl (a _) | exact absurd rfl (b _ _) | exact absurd rfl (c _ _ _) | exact absurd rfl (d _ _) | exact absurd rfl (e _ _) | exact absurd rfl (f _ _ _)
 by_cases h1:∃ u,t=.dy u
 ·obtain⟨u,rfl⟩:=h1
  exact aD.hit (u.v,()) rfl (HS (zs:=[.nilIface]) (vs:=[u.v]) Cb rfl (by simp[Tm.cU]) rfl u.iK λ x w' hx _ f xf=>⟨x,rfl,hx,f,xf⟩)
 have h1:∀ u,t≠.dy u:=λ u e=>h1 ⟨u,e⟩;refine(Tm.aaf h1).ta (zn f0 λ w1 f1=>?_)
 by_cases h2:∃ l r,t=.and l r
 ·obtain⟨l,r,rfl⟩:=h2
  exact aD.hit (l.v,r.v,()) rfl (HT (zs:=[.nilIface,.nilIface]) (vs:=[l.v,r.v]) Cb rfl (by simp[Tm.cU]) rfl rfl l.iK r.iK λ x w' hx _ f xf=>⟨x,rfl,hx,f1.trans f,λ k hk=>ez f1.size (xf k hk)⟩)
 have h2:∀ l r,t≠.and l r:=λ l r e=>h2 ⟨l,r,e⟩;refine(Tm.not_and h2).ta (Rq f1 λ w2 f2=>?_)
 by_cases h3:∃ s l r,t=.or s l r
 ·obtain⟨s,l,r,rfl⟩:=h3
  exact aD.hit (str s,l.v,r.v,()) rfl (HT (zs:=[aj,.nilIface,.nilIface]) (vs:=[.string (str s),l.v,r.v]) Cb rfl (by simp[Tm.cU,sK]) rfl rfl l.iK r.iK λ x w' hx _ f xf=>⟨x,rfl,hx,f2.trans f,λ k hk=>ez f2.size (xf k hk)⟩)
 have h3:∀ s l r,t≠.or s l r:=λ s l r e=>h3 ⟨s,l,r,e⟩;refine(Tm.not_or h3).ta (zs3 f2 λ w3 f3=>?_)
 by_cases h4:∃ o u,t=.scale o u
 ·obtain⟨o,u,rfl⟩:=h4
  exact aD.hit (o.v,u.v,()) rfl (HS (zs:=[.nilIface,.nilIface]) (vs:=[o.v,u.v]) Cb rfl (by simp[Tm.cU,Ob.cU]) rfl u.iK λ x w' hx _ f xf=>⟨x,rfl,hx,f3.trans f,λ k hk=>ez f3.size (xf k hk)⟩)
 have h4:∀ o u,t≠.scale o u:=λ o u e=>h4 ⟨o,u,e⟩;refine(Tm.Ro h4).ta (Rq f3 λ w4 f4=>?_)
 by_cases h5:∃ d u,t=.when d u
 ·obtain⟨d,u,rfl⟩:=h5
  exact aD.hit (d,u.v,()) rfl (HS (zs:=[aa 0,.nilIface]) (vs:=[aa d,u.v]) Cb rfl (by simp[Tm.cU,tT]) rfl u.iK λ x w' hx _ f xf=>⟨x,rfl,hx,f4.trans f,λ k hk=>ez f4.size (xf k hk)⟩)
 have h5:∀ d u,t≠.when d u:=λ d u e=>h5 ⟨d,u,e⟩;refine(Tm.Rn h5).ta (zi2 f4 λ w5 f5=>?_)
 by_cases h6:∃ o l r,t=.cond o l r
 ·obtain⟨o,l,r,rfl⟩:=h6
  exact aD.hit (o.v,l.v,r.v,()) rfl (HT (zs:=[.nilIface,.nilIface,.nilIface]) (vs:=[o.v,l.v,r.v]) Cb rfl (by simp[Tm.cU,Ob.cU]) rfl rfl l.iK r.iK λ x w' hx _ f xf=>⟨x,rfl,hx,f5.trans f,λ k hk=>ez f5.size (xf k hk)⟩)
 have h6:∀ o l r,t≠.cond o l r:=λ o l r e=>h6 ⟨o,l,r,e⟩;refine(Tm.Rp h6).ta (zn3 f5 λ w6 f6=>?_);rw[rest h1 h2 h3 h4 h5 h6];exact⟨_,rfl,Z0 _,f6,λ k t=>(nt k t).elim⟩
theorem aag (l:List Nat)(b n:Nat):(l++[n]).foldl max b=max (l.foldl max b) n:=by rw[sF];rfl
theorem Rr (t:Tm)(hn:bj t<=1000000)(w:ah):au 156 #[t.v] w λ r w'=>r=.tuple #[aa (bj t:Int),aa (dv t:Int)]/\Fr none1 w w':=by
 refine c156 t.v w _ ?_;have ih:∀ k∈eK t,bj k<=1000000->∀ w,au 156 #[k.v] w λ r w'=>r=.tuple #[aa (bj k:Int),aa (dv k:Int)]/\Fr none1 w w':=λ k hk hn w=>Rr k hn w;refine an.of (wo t w) ?_;rintro _ _ ⟨rfl,rfl⟩;refine⟨_,rfl,ae.eq (λ h=>?_) (λ h=>?_)⟩
 ·rw[LJ] at h
  subst h;exact⟨rfl,Fr.refl _ _⟩
 rw[Ne,LJ] at h;have hN:=LK t h;have hD:=aab t h;refine dc.of (λ s w'=>s=((wm t:Int),(Ai t:Int),())/\Fr none1 w w') ?_ ?_
 ·refine an.of (HW t w) ?_
  rintro _ w1 ⟨rfl,f1⟩;refine⟨((iu t).1.v,(iu t).2,()),rfl,ae.by (λ hb=>?_) (λ hb=>?_)⟩
  ·refine an.of (LG (iu t).1 (by unfold wm at hN;omega) w1) ?_
   rintro _ w2 ⟨rfl,f2⟩;exact⟨((wm t:Int),(Ai t:Int),()),rfl,rfl,f1.trans f2⟩
  ·refine⟨?_,f1⟩
   have:iu t=(.none,false):=by cases t<;>first | rfl | exact absurd hb (by simp[iu])
   unfold wm Ai;rw[this];rfl
 rintro _ s w1 ⟨rfl,f1⟩;dsimp only;refine an.of (ED t w1) ?_;rintro _ w2 ⟨u,rfl,hu,f2,uf⟩;refine⟨u,rfl,?_⟩;have dP:=hu.len;have EB:=HR t;refine cp.of (λ s w'=>∃ i:Nat,s.2.2.1=i/\i<=(eK t).length/\s.1=((wm t+lS (((eK t).take i).map bj):Nat):Int)/\s.2.1=((((eK t).take i).map dv).foldl max (Ai t):Nat)/\Fr none1 w w'/\qD w' u (eK t)) (λ s _=>(2 - s.2.2.1).toNat)
  ⟨0,rfl,fj _,rfl,rfl,f1.trans f2,hu⟩ ?_
 rintro _ ⟨a,b,i',_⟩ w3 ⟨i,hi,jV,ha,hb,f3,nL⟩;dsimp only at hi ha hb ⊢;subst hi ha hb;have hle:∀ i,lS (((eK t).take i).map bj)+wm t<=bj t:=λ i=>by
  rw[hN,uR];have:=Cd ((eK t).map bj) i;omega
 have aah:=hle i;refine ae.dec (λ bI=>?_) (λ gk=>?_)
 ·have ir:i<(eK t).length:=ab
  obtain⟨k,hk⟩:∃ k,(eK t)[i]? = some k:=⟨_,cV ir⟩;have rA:=mI hk;have rB:=hle (i+1);rw[v7 _ _ _ hk,Ae] at rB;refine nL.ld hk ?_;refine an.of (ih k rA ab w3) ?_;rintro _ w4 ⟨rfl,f4⟩;refine⟨((bj k:Int),(dv k:Int),()),rfl,?_⟩;dsimp only;have Z8:=Rl k;refine⟨⟨i+1,by rw[wI ab ab];omega,by omega,?_,?_,f3.trans f4,nL.ag f4⟩,by rw[wI ab ab];omega⟩
  ·rw[v7 _ _ _ hk,Ae,wI ab ab]
   omega
  ·rw[v7 _ _ _ hk,aag]
   by_cases hm:(((eK t).take i).map dv).foldl max (Ai t)<dv k
   ·rw[if_pos ab];omega
   ·rw[if_neg ab];omega
 ·have:i=(eK t).length:=ab
  subst this;rw[qx];rw[qx] at aah;have hd:=Rl t;rw[hN];rw[hD] at hd ⊢;rw[wI ab ab,wI ab ab];exact⟨by simp,f3⟩
termination_by SizeOf.sizeOf t
decreasing_by exact HO hk
theorem Rs (t:Tm)(hn:bj t<=1000000)(w:ah):au 155 #[t.v] w λ r w'=>r=.bool (dJ t)/\Fr none1 w w':=by
 refine c155 t.v w _ ?_;unfold C155;have ih:∀ k∈eK t,bj k<=1000000->∀ w,au 155 #[k.v] w λ r w'=>r=.bool (dJ k)/\Fr none1 w w':=λ k hk hn w=>Rs k hn w;have aai:∀ w,au 193 #[.iface 178 (.agg #[aj])] w λ r w'=>r=aa 2/\w=w':=λ w=>wo (.one []) w;have kOr:∀ w,au 193 #[.iface 184 (.agg #[aj,.nilIface,.nilIface])] w λ r w'=>r=aa 5/\w=w':=λ w=>wo (.or [] .none .none) w;refine an.of (LL t w) ?_;rintro _ w1 ⟨rfl,f1⟩;refine⟨(str (kg t).1,(kg t).2,()),rfl,?_⟩;dsimp only;refine dc.of (λ s w'=>s.1=decide (lB t=2\/lB t=5)/\w1=w') ?_ ?_
 ·refine an.of (wo t w1) ?_
  rintro _ _ ⟨rfl,rfl⟩;refine⟨_,rfl,?_⟩;refine an.of (aai w1) ?_;rintro _ _ ⟨rfl,rfl⟩;refine⟨_,rfl,ae.eq (λ h=>⟨by rw[decide_eq_true (.inl h)],rfl⟩) (λ h=>?_)⟩;refine an.of (wo t w1) ?_;rintro _ _ ⟨rfl,rfl⟩;refine⟨_,rfl,?_⟩;refine an.of (kOr w1) ?_;rintro _ _ ⟨rfl,rfl⟩;refine⟨_,rfl,?_,rfl⟩;dsimp only
  by_cases h5:lB t=5
  ·rw[decide_eq_true (.inr h5),h5];rfl
  ·rw[decide_eq_false (by rintro(h' | h')<;>contradiction)];simpa using h5
 rintro _ ⟨s,_⟩ _ ⟨hs,rfl⟩;dsimp only at hs ⊢;subst hs;have aik:∀ w2,Fr none1 w w2->(ae (decide ((kg t).2<0)) True True->True):=λ _ _ _=>trivial;refine dc.of (λ s w'=>s.1=!uY t/\Fr none1 w w') ?_ ?_
 ·refine an.of (wo t w1) ?_
  rintro _ _ ⟨rfl,rfl⟩;have days:∀ w2,Fr none1 w w2->lB t≠0->(decide (lB t=2\/lB t=5)=true->gY (kg t).1=true)->ae (decide ((kg t).2<0)) (true=(!uY t)/\Fr none1 w w2) (decide ((kg t).2 > 10000)=(!uY t)/\Fr none1 w w2):=λ w2 f2 h0 mK=>by
   have e:uY t=(decide (0<=(kg t).2)&&decide ((kg t).2<=10000)):=by
    unfold uY;rw[decide_eq_false h0];cases hd:decide (lB t=2\/lB t=5) with
    | true=>rw[mK hd];rfl
    | false=>rfl
   rw[e];refine ae.dec (λ h=>⟨?_,f2⟩) (λ h=>⟨?_,f2⟩)
   ·rw[decide_eq_false (p:=0<=(kg t).2) ab];rfl
   ·rw[decide_eq_true (p:=0<=(kg t).2) ab,iF]
    by_cases h2:(kg t).2<=10000
    ·rw[decide_eq_true h2,decide_eq_false ab];rfl
    ·rw[decide_eq_false h2,decide_eq_true ab];rfl
  refine⟨_,rfl,ae.eq (λ h=>⟨?_,f1⟩) (λ h=>?_)⟩
  ·dsimp only;unfold uY;rw[decide_eq_true h];rfl
  refine ae.by (λ nO=>?_) (λ nO=>?_)
  ·refine an.of (zN (kg t).1 w1) ?_
   rintro _ w2 ⟨rfl,f2⟩;refine⟨_,rfl,ae.not (ae.by (λ mK=>?_) (λ mK=>?_))⟩
   ·exact days w2 (f1.trans f2) h λ _=>mK
   ·refine⟨?_,f1.trans f2⟩
    dsimp only;unfold uY gY;rw[nO,mK];simp
  ·exact days w1 f1 h λ e=>by rw[nO] at e;cases e
 rintro _ ⟨s,_⟩ w2 ⟨hs,f2⟩;dsimp only at hs ⊢;subst hs;rw[aad t];refine ae.not (ae.by (λ ho=>?_) (λ ho=>?_))
 case refine_2=>rw[ho];exact⟨rfl,f2⟩
 rw[ho,iF];have hnd:t≠.none:=λ e=>by rw[e] at ho;exact absurd ho (by simp[uY,lB])
 have hN:=LK t hnd;have kids:∀ w3,Fr none1 w w3->ak 198 #[t.v] w3 aM (λ(cR:aS×Nat×Nat) de=>ak 197 #[.slice cR.1 cR.2.1 cR.2.2,.func (.func 199) #[] #[]] de bK (λ(eD:Bool) cS=>
   (.bool (!eD):av)=.bool (true&&!((eK t).any λ k=>!dJ k))/\Fr none1 w cS)):=λ w3 f3=>by
  refine an.of (ED t w3) ?_;rintro _ w4 ⟨u,rfl,hu,f4,_⟩;refine⟨u,rfl,?_⟩;have dP:=hu.len;have EB:=HR t;have hc:au 197 #[.slice u.1 u.2.1 u.2.2,.func (.func 199) #[] #[]] w4 λ r w'=>r=.bool ((eK t).any λ k=>!dJ k)/\Fr none1 w4 w':=by
   refine c197 u.1 u.2.1 u.2.2 _ w4 _ ?_;have hx:au 225 #[.slice u.1 u.2.1 u.2.2,.func (.func 199) #[] #[]] w4 λ r w'=>(∃ i:Int,r=aa i/\decide (i >= 0)=(eK t).any λ k=>!dJ k)/\Fr none1 w4 w':=by
    refine c225 u.1 u.2.1 u.2.2 _ w4 _ ?_;refine cp.of (λ s w'=>∃ i:Nat,s.1=i/\i<=(eK t).length/\((eK t).take i).any (λ k=>!dJ k)=false/\Fr none1 w4 w'/\qD w' u (eK t)) (λ s _=>(2 - s.1).toNat) ⟨0,rfl,fj _,rfl,Fr.refl _ _,hu⟩ ?_;rintro _ ⟨i',_⟩ w5 ⟨i,hi,jV,hall,f5,qE⟩;dsimp only at hi ⊢;subst hi;refine ae.dec (λ bI=>?_) (λ gk=>?_)
    ·have ir:i<(eK t).length:=ab
     obtain⟨k,hk⟩:∃ k,(eK t)[i]? = some k:=⟨_,cV ir⟩;refine qE.ld hk ?_;have rA:=mI hk;have rB:bj k<=1000000:=by
      have:=Cd ((eK t).map bj) (i+1);rw[<- uR,v7 _ _ _ hk,Ae] at this;omega
     have Ch:au 199 #[k.v] w5 λ r w'=>r=.bool (!dJ k)/\Fr none1 w5 w':=by
      refine c199 k.v w5 _ ?_;refine an.of (ih k rA rB w5) ?_;rintro _ w6 ⟨rfl,f6⟩;exact⟨_,rfl,rfl,f6⟩
     refine pC aA Tryz.func199 aA (Ch.mono ?_);rintro _ w6 ⟨rfl,f6⟩;refine⟨_,rfl,ae.by (λ hb=>?_) (λ hb=>?_)⟩
     ·refine⟨⟨(i:Int),rfl,?_⟩,f5.trans f6⟩
      rw[decide_eq_true ab,eq_comm,List.any_eq_true];exact⟨k,rA,hb⟩
     ·refine⟨⟨i+1,by rw[wI ab ab];omega,by omega,?_,f5.trans f6,qE.ag f6⟩,by rw[wI ab ab];omega⟩
      rw[oz,hk,List.any_append,hall];simpa using hb
    ·refine⟨⟨-1,rfl,?_⟩,f5⟩
     rw[gV ab] at hall;rw[hall];rfl
   refine an.of hx ?_;rintro _ w5 ⟨⟨i,rfl,hi⟩,f5⟩;exact⟨_,rfl,by rw[hi],f5⟩
  refine an.of hc ?_;rintro _ w5 ⟨rfl,f5⟩;exact⟨_,rfl,by rw[iF],(f3.trans f4).trans f5⟩
 refine an.of (HW t w2) ?_;rintro _ w3 ⟨rfl,f3⟩;refine⟨((iu t).1.v,(iu t).2,()),rfl,ae.by (λ hb=>?_) (λ hb=>?_)⟩
 ·dsimp only at hb ⊢
  rw[hb];refine an.of (LH (iu t).1 (by unfold wm at hN;omega) w3) ?_;rintro _ w4 ⟨rfl,f4⟩;have sN:(zY (iu t).1=2)↔eF (iu t).1=false:=by
   unfold zY
   constructor
   ·intro h
    by_cases hf:eF (iu t).1=false
    ·exact hf
    ·rw[if_neg hf] at h
     repeat' split at h
     all_goals omega
   ·intro h;rw[if_pos h]
  refine⟨_,rfl,ae.eq (λ h=>?_) (λ h=>?_)⟩
  ·rw[sN.1 h];exact⟨by simp,(f2.trans f3).trans f4⟩
  ·have:eF (iu t).1=true:=by
    cases hf:eF (iu t).1 with
    | true=>rfl
    | false=>exact absurd (sN.2 hf) h
   rw[this];exact kids w4 ((f2.trans f3).trans f4)
 ·dsimp only at hb ⊢
  rw[hb];exact kids w3 (f2.trans f3)
termination_by SizeOf.sizeOf t
decreasing_by exact HO hk
def sv (s:ai):av:=.string (str s)
def jy (w:ah)(v:Sl)(l:List (ai)):Prop:=aV w 9 1 v (l.map sv)
theorem jy.ag {v:Sl}{l:List (ai)}(h:jy w v l)(f:Fr none1 w w'):jy w' v l:=aV.ag h f
theorem jy.len {v:Sl}{l:List (ai)}(h:jy w v l):v.2.1=l.length:=by have:=aV.len h;rw[eI,jg] at this;exact this.symm
theorem jy.ld {v:Sl}{l:List (ai)}(h:jy w v l){i:Nat}{s:ai}(ho:l[i]? = some s){K:ay->Prop}(k:K (str s)):cz v.1 v.2.1 (i:Int) 1 λ p=>af .str p w K:=by
 have hi:=(nj.1 ho).1;have hl:=h.len;refine aV.ld h ab ab (c:=.str) (x:=str s) ?_ k;rw[iH,ig,ho];rfl
theorem EE (w:ah):jy w (none,0,0) []:=.inl ⟨rfl,rfl⟩
theorem aaj (l:List (ai)):∀ v∈l.map sv,cG v=true:=by intro v hv;obtain⟨s,_,rfl⟩:=kF.1 hv;rfl
theorem Rt {x y:Sl}{xs ys:List (ai)}(hx:jy w x xs)(hy:eW w 1 y (ys.map sv))(hl:xs.length+ys.length<=100000000):
  ∃ (v:Sl) (w':ah),(Builtin.append_ #[56,56] 56 #[.slice x.1 x.2.1 x.2.2,.slice y.1 y.2.1 y.2.2]).run Tryz.prog w=.ok (.slice v.1 v.2.1 v.2.2) w'/\jy w' v (xs++ys)/\Fr (aH x) w w'/\(∀ k,aH v k->aH x k\/w.heap.size<=k):=by
 have e1:=hx.len;have e2:y.2.1=ys.length:=by have:=hy.1;rw[eI,jg] at this;exact this.symm
 obtain⟨v,w',a,b,_,c,d⟩:=jf (P:=Tryz.prog) (s:=1) (xs:=xs.map sv) (ys:=ys.map sv) Cc 56 hx hy (aaj ys) (by rw[e1,e2];omega);exact⟨v,w',a,by unfold jy;rw[jG];exact b,c,d⟩
theorem Ru (t:Tm)(hn:bj t<=1000000)(w:ah):au 157 #[t.v] w λ r w'=>∃ u:Sl,r=.slice u.1 u.2.1 u.2.2/\jy w' u (iL t)/\Fr none1 w w'/\∀ k,aH u k->w.heap.size<=k:=by
 refine c157 t.v w _ ?_;have ih:∀ k∈eK t,bj k<=1000000->∀ w,au 157 #[k.v] w λ r w'=>∃ u:Sl,r=.slice u.1 u.2.1 u.2.2/\jy w' u (iL k)/\Fr none1 w w'/\∀ k,aH u k->w.heap.size<=k:=λ k hk hn w=>Ru k hn w;have f0:=Fr.refl none1 w;refine dc.of (λ s w'=>jy w' s.1 (Aj t)/\Fr none1 w w'/\∀ k,aH s.1 k->w.heap.size<=k) ?_ ?_
 ·by_cases h2:∃ s l r,t=.or s l r
  ·obtain⟨s,l,r,rfl⟩:=h2
   refine aD.hit (str s,l.v,r.v,()) rfl (dO (zs:=[aj,.nilIface,.nilIface]) (vs:=[.string (str s),l.v,r.v]) rfl (by simp[Tm.cU,sK]) λ g w2 _ hb f2=>af.aw hb (x:=str s) rfl ?_);obtain⟨u,w3,hr,hu,dP,f3,uf⟩:=oT (P:=Tryz.prog) (w:=w2) Cc (sv s) rfl;refine⟨u,w3,hr,?_⟩;obtain⟨x,w4,EF,hx,f4,xf⟩:=Rt (EE w3) (ys:=[s]) hu.rd bm;refine⟨x,w4,EF,hx,(f2.trans f3).comp f4 (λ k _ t=>(nt k t).elim),λ k hk=>?_⟩
   rcases xf k hk with t | t
   ·exact(nt k t).elim
   ·have:=(f2.trans f3).size;omega
  ·have h2:∀ s l r,t≠.or s l r:=λ s l r e=>h2 ⟨s,l,r,e⟩
   refine(Tm.not_or h2).ta (tV (zs:=[aj,.nilIface,.nilIface]) f0 rfl λ w1 f1=>⟨?_,f1,λ k t=>(nt k t).elim⟩);have:Aj t=[]:=by cases t<;>first | rfl | exact absurd rfl (h2 _ _ _)
   rw[this];exact EE _
 rintro _ ⟨s,_⟩ w1 ⟨hs,f1,sf⟩;dsimp only at hs sf ⊢;refine an.of (ED t w1) ?_;rintro _ w2 ⟨u,rfl,hu,f2,uf⟩;refine⟨u,rfl,?_⟩;have dP:=hu.len;have EB:=HR t;have hL:=aac t;have hlen:=Rm t;have aak:∀ i,(Aj t++((eK t).take i).flatMap iL).length<=bj t:=λ i=>by
  have:(iL t).length=(Aj t++((eK t).take i).flatMap iL).length+(((eK t).drop i).flatMap iL).length:=by
   rw[hL]
   conv=>lhs;rw[<- Ef i (eK t)]
   rw[BV];simp only[bU];omega
  omega
 have ail:∀ k,aH u k->k<w2.heap.size:=λ k hk=>aV.lt hu hk;refine cp.of (λ s w'=>∃ i:Nat,s.2.1=i/\i<=(eK t).length/\jy w' s.1 (Aj t++((eK t).take i).flatMap iL)/\Fr none1 w w'/\qD w' u (eK t)/\(∀ k,aH s.1 k->w.heap.size<=k/\¬ aH u k)) (λ s _=>(2 - s.2.1).toNat)
  ⟨0,rfl,fj _,by simpa using hs.ag f2,f1.trans f2,hu,λ k hk=>⟨sf k hk,λ t=>by have:=uf k t;have:=aV.lt hs hk;omega⟩⟩ ?_
 rintro _ ⟨v,i',_⟩ w3 ⟨i,hi,jV,hv,f3,nL,vf⟩;dsimp only at hi hv vf ⊢;subst hi;refine ae.dec (λ bI=>?_) (λ gk=>?_)
 ·have ir:i<(eK t).length:=ab
  obtain⟨k,hk⟩:∃ k,(eK t)[i]? = some k:=⟨_,cV ir⟩;have rA:=mI hk;have hb:=aak (i+1);rw[oz,hk] at hb;simp only[B0,BV,ni,zE,dV,bU] at hb;refine nL.ld hk ?_;have rB:bj k<=1000000:=by
   have hnd:t≠.none:=λ e=>by rw[e] at ir;exact absurd ir (by simp[eK])
   have hN:=LK t hnd;have:=Cd ((eK t).map bj) (i+1);rw[<- uR,v7 _ _ _ hk,Ae] at this;omega
  refine an.of (ih k rA rB w3) ?_;rintro _ w4 ⟨x,rfl,hx,f4,xf⟩;refine⟨x,rfl,?_⟩;obtain⟨y,w5,LM,hy,f5,yf⟩:=Rt (hv.ag f4) (aV.rd hx) (by rw[bU];omega);have ult:=λ k (hk:aH u k)=>aV.lt nL hk;refine⟨y,w5,LM,⟨i+1,by rw[wI ab ab];omega,by omega,?_,(f3.trans f4).comp f5 (λ k _ t=>by have:=(vf k t).1;omega),aV.ao (nL.ag f4) f5 (λ k hk t=>(vf k t).2 hk),λ k hk=>?_⟩,by rw[wI ab ab];omega⟩
  ·rw[oz,hk]
   simp only[B0,BV,ni,zE,dV];rw[<- gI];exact hy
  ·rcases yf k hk with t | t
   ·exact vf k t
   ·have:=(f3.trans f4).size
    have:=f4.size;exact⟨by omega,λ q=>by have:=ult k q;omega⟩
 ·have:i=(eK t).length:=ab
  subst this;rw[qx,<- hL] at hv;exact⟨v,rfl,hv,f3,λ k hk=>(vf k hk).1⟩
termination_by SizeOf.sizeOf t
decreasing_by exact HO hk
theorem Rv {v:Sl}{l:List (ai)}(h:eW w 1 v (l.map sv))(hl:l.length<=100000000)(s:ai):
  au 158 #[.slice v.1 v.2.1 v.2.2,.string (str s)] w λ r w'=>r=.bool (decide (s∈l))/\w=w':=by
 have hlen:v.2.1=l.length:=by have:=h.1;rw[eI,jg] at this;exact this.symm
 refine c158 v.1 v.2.1 v.2.2 (str s) w _ ?_;have hx:au 201 #[.slice v.1 v.2.1 v.2.2,.string (str s)] w λ r w'=>(∃ i:Int,r=aa i/\decide (i >= 0)=decide (s∈l))/\w=w':=by
  refine c201 v.1 v.2.1 v.2.2 (str s) w _ ?_;refine cp.of (λ st w'=>∃ i:Nat,st.1=i/\i<=l.length/\s ∉ l.take i/\w=w') (λ st _=>(v.2.1 - st.1).toNat) ⟨0,rfl,fj _,by simp,rfl⟩ ?_;rintro _ ⟨i',_⟩ _ ⟨i,hi,jV,jQ,rfl⟩;dsimp only at hi ⊢;subst hi;refine ae.dec (λ bI=>?_) (λ gk=>?_)
  ·have ir:i<l.length:=ab
   obtain⟨x,hx⟩:∃ x,l[i]? = some x:=⟨_,cV ir⟩;refine eW.ld h ab bI (c:=.str) (x:=str x) (by rw[iH,ig,hx];rfl) ?_;rw[ly];refine ae.dec (λ he=>?_) (λ aL=>?_)
   ·subst he
    refine⟨⟨(i:Int),rfl,?_⟩,rfl⟩;rw[decide_eq_true ab,decide_eq_true (mI hx)]
   ·refine⟨⟨i+1,by rw[wI ab ab];omega,by omega,?_,rfl⟩,by rw[wI ab ab];omega⟩
    rw[oz,hx];simp only[B0,kE,nR];rintro(t | t)
    ·exact jQ t
    ·exact aL t
  ·refine⟨⟨-1,rfl,?_⟩,rfl⟩
   rw[gV ab] at jQ;rw[decide_eq_false jQ];rfl
 refine an.of hx ?_;rintro _ _ ⟨⟨i,rfl,hi⟩,rfl⟩;exact⟨i,rfl,by rw[hi],rfl⟩
theorem Rw {α:Type}(l:List α):(∀ j x,l[j]? = some x->x ∉ l.take j)↔l.Nodup:=by
 unfold List.Nodup;rw[List.pairwise_iff_getElem]
 constructor
 ·intro h i j hi hj ox heq
  refine h j l[j] (cV hj) ?_;rw[List.mem_take_iff_getElem];exact⟨i,by omega,heq⟩
 ·intro h j x hx hm
  obtain⟨hj,rfl⟩:=nj.1 hx;rw[List.mem_take_iff_getElem] at hm;obtain⟨i,hi,heq⟩:=hm;exact h i j ab hj ab heq
theorem LN (t:Tm)(hn:bj t<=1000000)(w:ah):au 126 #[t.v] w λ r w'=>r=aa (mu t)/\Fr none1 w w':=by
 refine c126 t.v w _ ?_;refine an.of (Rs t hn w) ?_;rintro _ w1 ⟨rfl,f1⟩;unfold mu;refine⟨_,rfl,ae.not (ae.by (λ h=>?_) (λ h=>?_))⟩
 case refine_2=>rw[if_pos h];exact⟨rfl,f1⟩
 rw[if_neg (by simp[h])];refine an.of (Rr t hn w1) ?_;rintro _ w2 ⟨rfl,f2⟩;refine⟨((bj t:Int),(dv t:Int),()),rfl,?_⟩;dsimp only;refine ae.dec (λ h=>?_) (λ h=>?_)
 ·rw[if_pos ab];exact⟨rfl,f1.trans f2⟩
 rw[if_neg ab];refine ae.dec (λ h=>?_) (λ h=>?_)
 ·rw[if_pos ab];exact⟨rfl,f1.trans f2⟩
 rw[if_neg ab];refine an.of (Ru t hn w2) ?_;rintro _ w3 ⟨u,rfl,hu,f3,_⟩;refine⟨u,rfl,?_⟩;have dP:=hu.len;have LO:=Rm t;have BP:u.2.1<=u.2.2:=by
  rcases hu with⟨rfl,_⟩ | ⟨g,off,cs,_,_,hle,_⟩
  ·exact eR _
  ·exact hle
 have fr:=(f1.trans f2).trans f3;refine cp.of (λ s w'=>∃ i:Nat,s.1=i/\i<=(iL t).length/\(∀ j x,j<i->(iL t)[j]? = some x->x ∉ (iL t).take j)/\w3=w') (λ s _=>(u.2.1 - s.1).toNat) ⟨0,rfl,fj _,λ j x hj=>absurd hj ab,rfl⟩ ?_;rintro _ ⟨i',_⟩ _ ⟨i,hi,jV,hall,rfl⟩;dsimp only at hi ⊢;subst hi;refine ae.dec (λ bI=>?_) (λ gk=>?_)
 ·have ir:i<(iL t).length:=ab
  obtain⟨x,hx⟩:∃ x,(iL t)[i]? = some x:=⟨_,cV ir⟩;refine hu.ld hx ?_;refine eW.sub (aV.rd hu) ab ab BP λ hs=>?_;rw[iH] at hs ⊢;rw[<- uR] at hs;refine an.of (Rv hs (by rw[ga];omega) x) ?_;rintro _ _ ⟨rfl,rfl⟩;refine⟨_,rfl,ae.dec (λ hm=>?_) (λ hm=>?_)⟩
  ·rw[if_neg (λ hd=>(Rw _).2 hd i x hx hm)]
   exact⟨rfl,fr⟩
  ·refine⟨⟨i+1,by rw[wI ab ab];omega,by omega,λ j y hj hy=>?_,rfl⟩,by rw[wI ab ab];omega⟩
   by_cases lM:j<i
   ·exact hall j y lM hy
   ·have:j=i:=ab
    subst this;rw[hx] at hy;injection hy with hy;subst hy
    exact hm
 ·rw[if_pos ((Rw _).1 λ j x hx=>hall j x (by have:=(nj.1 hx).1;omega) hx)]
  exact⟨rfl,fr⟩
def C252 (p0:ay)(p1:aS)(dk dR:Nat)(w:ah)(K:aP):Prop:=
 Bs p0 (⟨#[40]⟩:ay) (ak 275 #[.slice p1 dk dR,.string (⟨#[44]⟩:ay)] w eu (λ(x1:ay) w2=>Bs (p0++(⟨#[40]⟩:ay)) x1 (Bs ((p0++(⟨#[40]⟩:ay))++x1) (⟨#[41]⟩:ay) (K (.string (((p0++(⟨#[40]⟩:ay))++x1)++(⟨#[41]⟩:ay))) w2))))
def pl252:aN:=.auto
theorem c252 (p0 p1 dk dR w K)(h:C252 p0 p1 dk dR w K):au 252 #[.string p0,.slice p1 dk dR] w K:=aQ Tryz.func252 (p:=pl252) aA h
def C253 (p0:av)(w:ah)(K:aP):Prop:=
 aD p0 241 (.agg [.int .i64]) (λ(x1:Int×Unit)=>aC (.cells #[aa 0] 241) w (λ g2 w3=>aG (ad g2) [aa x1.1] w3 (λ w4=>af (.int .i64) ((ad g2).add 0) w4 (λ(x5:Int)=>ak 254 #[aa x5] w4 eu (λ(x6:ay) w7=>K (.string x6) w7)))))
 (aD p0 243 (.agg [.str]) (λ(x8:ay×Unit)=>aC (.cells #[aj] 243) w (λ g9 aX=>aG (ad g9) [.string x8.1] aX (λ bt=>af .str ((ad g9).add 0) bt (λ(cn:ay)=>aT (Instr.buildSlice 56 1 #[(0,.string cn)]) bt aM (λ(cA:aB) bY=>ak 252 #[.string (⟨#[102,105,120]⟩:ay),aO cA] bY eu (λ(cm:ay) bV=>K (.string cm) bV))))))
 (aD p0 245 (.agg [.raw,.raw]) (λ(bZ:av×av×Unit)=>aC (.cells #[.nilIface,.nilIface] 245) w (λ g18 ct=>aG (ad g18) [bZ.1,bZ.2.1] ct (λ bW=>aU bW (λ cr=>bL (λ qF=>aJ qF ((ad g18).add 0) (af .raw ((ad g18).add 0) cr (λ(eB:av)=>aJ qF ((ad g18).add 1) (af .raw ((ad g18).add 1) cr (λ(dr:av)=>ak 253 #[eB] cr eu (λ(cR:ay) de=>az qF cr de (ak 253 #[dr] de eu (λ(eD:ay) cS=>az qF de cS (aT (Instr.buildSlice 56 2 #[(0,.string cR),(1,.string eD)]) cS aM (λ(eQ:aB) cN=>az qF cS cN (ak 252 #[.string (⟨#[97,100,100]⟩:ay),aO eQ] cN eu (λ(dt:ay) dQ=>az qF cN dQ (K (.string dt) dQ)))))))))))))))))
 (aD p0 247 (.agg [.raw]) (λ(fk:av×Unit)=>aC (.cells #[.nilIface] 247) w (λ Af gh=>aG (ad Af) [fk.1] gh (λ dW=>af .raw ((ad Af).add 0) dW (λ(ka:av)=>ak 253 #[ka] dW eu (λ(gn:ay) gq=>aT (Instr.buildSlice 56 1 #[(0,.string gn)]) gq aM (λ(mi:aB) oB=>ak 252 #[.string (⟨#[110,101,103]⟩:ay),aO mi] oB eu (λ(kY:ay) nv=>K (.string kY) nv)))))))
 (aD p0 248 (.agg [.raw,.raw]) (λ(lP:av×av×Unit)=>aC (.cells #[.nilIface,.nilIface] 248) w (λ xZ kf=>aG (ad xZ) [lP.1,lP.2.1] kf (λ jb=>aU jb (λ jv=>bL (λ Cj=>aJ Cj ((ad xZ).add 0) (af .raw ((ad xZ).add 0) jv (λ(jU:av)=>aJ Cj ((ad xZ).add 1) (af .raw ((ad xZ).add 1) jv (λ(nV:av)=>ak 253 #[jU] jv eu (λ(sO:ay) rD=>az Cj jv rD (ak 253 #[nV] rD eu (λ(zP:ay) jI=>az Cj rD jI (aT (Instr.buildSlice 56 2 #[(0,.string sO),(1,.string zP)]) jI aM (λ(oX:aB) rE=>az Cj jI rE (ak 252 #[.string (⟨#[109,117,108]⟩:ay),aO oX] rE eu (λ(rC:ay) oZ=>az Cj rE oZ (K (.string rC) oZ)))))))))))))))))
 (aD p0 249 (.agg [.raw,.raw]) (λ(ry:av×av×Unit)=>aC (.cells #[.nilIface,.nilIface] 249) w (λ sM lT=>aG (ad sM) [ry.1,ry.2.1] lT (λ xY=>aU xY (λ lQ=>bL (λ Cl=>aJ Cl ((ad sM).add 0) (af .raw ((ad sM).add 0) lQ (λ(x0:av)=>aJ Cl ((ad sM).add 1) (af .raw ((ad sM).add 1) lQ (λ(uZ:av)=>ak 253 #[x0] lQ eu (λ(LP:ay) rF=>az Cl lQ rF (ak 253 #[uZ] rF eu (λ(Ak:ay) wv=>az Cl rF wv (aT (Instr.buildSlice 56 2 #[(0,.string LP),(1,.string Ak)]) wv aM (λ(wA:aB) u0=>az Cl wv u0 (ak 252 #[.string (⟨#[109,97,120]⟩:ay),aO wA] u0 eu (λ(Cm:ay) Rx=>az Cl u0 Rx (K (.string Cm) Rx))))))))))))))))) False)))))
def pl253:aN:=(.seq .auto (.seq (.seq .auto (.block (.seq .auto (.cond .auto (.seq .auto (.cond .auto (.seq .auto (.cond (.seq .auto (.seq (.held (.soft 0 (.soft 1 (.soft 3 (.soft 4 (.pick 2 (.pick 5 (.pick 6 (.pick 7 (.soft 8 .done) .stop) .stop) .stop) .stop)))))) .auto)) (.seq .auto (.cond .auto (.seq .auto (.cond (.seq .auto (.seq (.held (.soft 0 (.soft 1 (.soft 3 (.soft 4 (.pick 2 (.pick 5 (.pick 6 (.pick 7 (.soft 8 .done) .stop) .stop) .stop) .stop)))))) .auto)) .auto)))))))))))) (.seq .auto (.seq (.held (.soft 0 (.soft 1 (.soft 3 (.soft 4 (.pick 2 (.pick 5 (.pick 6 (.pick 7 (.soft 8 .done) .stop) .stop) .stop) .stop)))))) .auto))))
theorem c253 (p0 w K)(h:C253 p0 w K):au 253 #[p0] w K:=aQ Tryz.func253 (p:=pl253) aA h
def C236 (p0:av)(w:ah)(K:aP):Prop:=
 aD p0 176 (.agg []) (λ(x1:Unit)=>aC (.cells #[] 176) w (λ g2 w3=>aG (ad g2) [] w3 (λ w4=>K (.string (⟨#[122,101,114,111]⟩:ay)) w4)))
 (aD p0 178 (.agg [.str]) (λ(x5:ay×Unit)=>aC (.cells #[aj] 178) w (λ g6 w7=>aG (ad g6) [.string x5.1] w7 (λ w8=>af .str ((ad g6).add 0) w8 (λ(x9:ay)=>aT (Instr.buildSlice 56 1 #[(0,.string x9)]) w8 aM (λ(bG:aB) bt=>ak 252 #[.string (⟨#[111,110,101]⟩:ay),aO bG] bt eu (λ(cn:ay) bM=>K (.string cn) bM))))))
 (aD p0 180 (.agg [.raw]) (λ(cj:av×Unit)=>aC (.cells #[.nilIface] 180) w (λ g15 bV=>aG (ad g15) [cj.1] bV (λ da=>af .raw ((ad g15).add 0) da (λ(cF:av)=>ak 236 #[cF] da eu (λ(cJ:ay) bW=>aT (Instr.buildSlice 56 1 #[(0,.string cJ)]) bW aM (λ(du:aB) cH=>ak 252 #[.string (⟨#[103,105,118,101]⟩:ay),aO du] cH eu (λ(eB:ay) cZ=>K (.string eB) cZ)))))))
 (aD p0 182 (.agg [.raw,.raw]) (λ(cR:av×av×Unit)=>aC (.cells #[.nilIface,.nilIface] 182) w (λ EG gD=>aG (ad EG) [cR.1,cR.2.1] gD (λ cS=>aU cS (λ gr=>bL (λ Cn=>aJ Cn ((ad EG).add 0) (af .raw ((ad EG).add 0) gr (λ(dt:av)=>aJ Cn ((ad EG).add 1) (af .raw ((ad EG).add 1) gr (λ(gx:av)=>ak 236 #[dt] gr eu (λ(fk:ay) jc=>az Cn gr jc (ak 236 #[gx] jc eu (λ(eY:ay) dW=>az Cn jc dW (aT (Instr.buildSlice 56 2 #[(0,.string fk),(1,.string eY)]) dW aM (λ(ka:aB) jj=>az Cn dW jj (ak 252 #[.string (⟨#[97,110,100]⟩:ay),aO ka] jj eu (λ(iT:ay) fw=>az Cn jj fw (K (.string iT) fw)))))))))))))))))
 (aD p0 184 (.agg [.str,.raw,.raw]) (λ(gC:ay×av×av×Unit)=>aC (.cells #[aj,.nilIface,.nilIface] 184) w (λ Al nv=>aG (ad Al) [.string gC.1,gC.2.1,gC.2.2.1] nv (λ ij=>aU ij (λ jH=>bL (λ kJ=>aJ kJ ((ad Al).add 0) (af .str ((ad Al).add 0) jH (λ(fu:ay)=>aJ kJ ((ad Al).add 1) (af .raw ((ad Al).add 1) jH (λ(mr:av)=>aJ kJ ((ad Al).add 2) (af .raw ((ad Al).add 2) jH (λ(iJ:av)=>ak 236 #[mr] jH eu (λ(jU:ay) mO=>az kJ jH mO (ak 236 #[iJ] mO eu (λ(sO:ay) rD=>az kJ mO rD (aT (Instr.buildSlice 56 3 #[(0,.string fu),(1,.string jU),(2,.string sO)]) rD aM (λ(zP:aB) jI=>az kJ rD jI (ak 252 #[.string (⟨#[111,114]⟩:ay),aO zP] jI eu (λ(oX:ay) rE=>az kJ jI rE (K (.string oX) rE)))))))))))))))))))
 (aD p0 188 (.agg [.raw,.raw]) (λ(rC:av×av×Unit)=>aC (.cells #[.nilIface,.nilIface] 188) w (λ EH xX=>aG (ad EH) [rC.1,rC.2.1] xX (λ zR=>aU zR (λ lT=>bL (λ Co=>aJ Co ((ad EH).add 0) (af .raw ((ad EH).add 0) lT (λ(EI:av)=>aJ Co ((ad EH).add 1) (af .raw ((ad EH).add 1) lT (λ(ya:av)=>ak 253 #[EI] lT eu (λ(x0:ay) LQ=>az Co lT LQ (ak 236 #[ya] LQ eu (λ(LP:ay) rF=>az Co LQ rF (aT (Instr.buildSlice 56 2 #[(0,.string x0),(1,.string LP)]) rF aM (λ(Ak:aB) wv=>az Co rF wv (ak 252 #[.string (⟨#[115,99,97,108,101]⟩:ay),aO Ak] wv eu (λ(wA:ay) u0=>az Co wv u0 (K (.string wA) u0)))))))))))))))))
 (aD p0 190 (.agg [.int .i64,.raw]) (λ(Cm:Int×av×Unit)=>aC (.cells #[aa 0,.nilIface] 190) w (λ EJ u6=>aG (ad EJ) [aa Cm.1,Cm.2.1] u6 (λ w77=>aU w77 (λ pR=>bL (λ Cp=>aJ Cp ((ad EJ).add 0) (af (.int .i64) ((ad EJ).add 0) pR (λ(LR:Int)=>aJ Cp ((ad EJ).add 1) (af .raw ((ad EJ).add 1) pR (λ(x81:av)=>ak 254 #[aa LR] pR eu (λ(tW:ay) LS=>az Cp pR LS (ak 236 #[x81] LS eu (λ(x84:ay) LU=>az Cp LS LU (aT (Instr.buildSlice 56 2 #[(0,.string tW),(1,.string x84)]) LU aM (λ(LV:aB) EL=>az Cp LU EL (ak 252 #[.string (⟨#[119,104,101,110]⟩:ay),aO LV] EL eu (λ(x88:ay) Ry=>az Cp EL Ry (K (.string x88) Ry)))))))))))))))))
 (aD p0 192 (.agg [.raw,.raw,.raw]) (λ(LW:av×av×av×Unit)=>aC (.cells #[.nilIface,.nilIface,.nilIface] 192) w (λ Am LX=>aG (ad Am) [LW.1,LW.2.1,LW.2.2.1] LX (λ w93=>aU w93 (λ wC=>bL (λ yc=>aJ yc ((ad Am).add 0) (af .raw ((ad Am).add 0) wC (λ(x96:av)=>aJ yc ((ad Am).add 1) (af .raw ((ad Am).add 1) wC (λ(LY:av)=>aJ yc ((ad Am).add 2) (af .raw ((ad Am).add 2) wC (λ(x98:av)=>ak 253 #[x96] wC eu (λ(LZ:ay) EM=>az yc wC EM (ak 236 #[LY] EM eu (λ(L2:ay) EN=>az yc EM EN (ak 236 #[x98] EN eu (λ(aal:ay) EO=>az yc EN EO (aT (Instr.buildSlice 56 3 #[(0,.string LZ),(1,.string L2),(2,.string aal)]) EO aM (λ(HX:aB) wD=>az yc EO wD (ak 252 #[.string (⟨#[105,102]⟩:ay),aO HX] wD eu (λ(L3:ay) Cq=>az yc wD Cq (K (.string L3) Cq))))))))))))))))))))) False)))))))
def pl236:aN:=(.seq .auto (.seq (.seq .auto (.block (.seq .auto (.cond .auto (.seq .auto (.cond .auto (.seq .auto (.cond .auto (.seq .auto (.cond (.seq .auto (.seq (.held (.soft 0 (.soft 1 (.soft 3 (.soft 4 (.pick 2 (.pick 5 (.pick 6 (.pick 7 (.soft 8 .done) .stop) .stop) .stop) .stop)))))) .auto)) (.seq .auto (.cond (.seq .auto (.seq (.held (.soft 0 (.soft 1 (.soft 2 (.soft 3 (.soft 5 (.soft 6 (.pick 4 (.pick 7 (.pick 8 (.pick 9 (.soft 10 .done) .stop) .stop) .stop) .stop)))))))) .auto)) (.seq .auto (.cond (.seq .auto (.seq (.held (.soft 0 (.soft 1 (.soft 3 (.soft 4 (.pick 2 (.pick 5 (.pick 6 (.pick 7 (.soft 8 .done) .stop) .stop) .stop) .stop)))))) .auto)) (.seq .auto (.cond (.seq .auto (.seq (.held (.soft 0 (.soft 1 (.soft 3 (.soft 4 (.pick 2 (.pick 5 (.pick 6 (.pick 7 (.soft 8 .done) .stop) .stop) .stop) .stop)))))) .auto)) .auto)))))))))))))))) (.seq .auto (.seq (.held (.soft 0 (.soft 1 (.soft 3 (.soft 4 (.soft 6 (.soft 7 (.pick 2 (.pick 5 (.pick 8 (.pick 9 (.pick 10 (.soft 11 .done) .stop) .stop) .stop) .stop) .stop)))))))) .auto))))
theorem c236 (p0 w K)(h:C236 p0 w K):au 236 #[p0] w K:=aQ Tryz.func236 (p:=pl236) aA h
def C235 (p0:ay)(w:ah)(K:aP):Prop:=
 ae (decide ((p0.size:Int) > 1000))
 (K (.tuple #[aj,aa 5]) w)
 (K (.tuple #[.string p0,aa 0]) w)
def pl235:aN:=.auto
theorem c235 (p0 w K)(h:C235 p0 w K):au 235 #[.string p0] w K:=aQ Tryz.func235 (p:=pl235) aA h
def C209 (p0:av)(w:ah)(K:aP):Prop:=
 ak 126 #[p0] w bN (λ(x1:Int) w2=>ae (x1 != 0)
 (K (.tuple #[aj,aa x1]) w2)
 (ak 236 #[p0] w2 eu (λ(x3:ay) w4=>ak 235 #[.string x3] w4 (.bR [.one .str,.one (.int .i64)]) (λ(x5:ay×Int×Unit) w6=>K (.tuple #[.string x5.1,aa x5.2.1]) w6))))
def pl209:aN:=.auto
theorem c209 (p0 w K)(h:C209 p0 w K):au 209 #[p0] w K:=aQ Tryz.func209 (p:=pl209) aA h
def jK (wd:ai)(xs:List (ai)):ai:=wd++[40]++Lib.join xs [44]++[41]
def iU:Ob->ai
 | .none=>[]
 | .const n=>Lib.itoa n
 | .fix s=>jK [102,105,120] [s]
 | .add l r=>jK [97,100,100] [iU l,iU r]
 | .neg o=>jK [110,101,103] [iU o]
 | .mul l r=>jK [109,117,108] [iU l,iU r]
 | .max l r=>jK [109,97,120] [iU l,iU r]
def gi:Tm->ai
 | .none=>[]
 | .zero=>[122,101,114,111]
 | .one s=>jK [111,110,101] [s]
 | .dy t=>jK [103,105,118,101] [gi t]
 | .and l r=>jK [97,110,100] [gi l,gi r]
 | .or s l r=>jK [111,114] [s,gi l,gi r]
 | .scale o t=>jK [115,99,97,108,101] [iU o,gi t]
 | .when d t=>jK [119,104,101,110] [Lib.itoa d,gi t]
 | .cond o l r=>jK [105,102] [iU o,gi l,gi r]
def bT (t:Tm):ai×Int:=if mu t≠0 then([],mu t) else if 1000<(gi t).length then([],5) else(gi t,0)
theorem Rz (a:ai):Lib.join [a] [44]=a:=Lib.join_one _ _
theorem RA (a b:ai):Lib.join [a,b] [44]=a++([44]++b):=by rw[Lib.join_cons];simp[Lib.joinTail]
theorem RB (a b c:ai):Lib.join [a,b,c] [44]=a++([44]++b++([44]++c)):=by rw[Lib.join_cons];simp[Lib.joinTail]
theorem HY (wd a:ai):(jK wd [a]).length=wd.length+a.length+2:=by unfold jK;rw[Rz];simp;omega
theorem Cr (wd a b:ai):(jK wd [a,b]).length=wd.length+a.length+b.length+3:=by unfold jK;rw[RA];simp;omega
theorem RC (wd a b c:ai):(jK wd [a,b,c]).length=wd.length+a.length+b.length+c.length+4:=by unfold jK;rw[RB];simp;omega
theorem aam (l:ai):(jT l).2<=4:=by
 simp only[jT,Utf8.decode]
 repeat' split
 all_goals simp
theorem L4:∀ (n:Nat) (l:ai),l.length<=n->l.length<=4 * (dL l).length
 | 0,l,h=>by omega
 | n+1,l,h=>by
  by_cases hl:l=[]
  ·subst hl;simp
  ·rw[Em l hl,cY]
   have h1:=B5 l;have h4:=aam l;have hd:(l.drop (jT l).2).length=l.length - (jT l).2:=kD;have:=L4 n (l.drop (jT l).2) ab;omega
theorem L5:∀ (rs:List Int) (n:Nat),np n rs=true->rs=[]\/n+rs.length<=12
 | [],_,_=>.inl rfl
 | r::rs,n,h=>by
  unfold np at h;split at h
  ·cases h
  split at h
  ·cases h
  split at h
  ·cases h
  rcases L5 rs (n+1) h with rfl | t
  ·simp;omega
  ·simp only[cY];omega
theorem HZ {s:ai}(h:gY s=true):s.length<=48:=by
 have hb:=L4 s.length s (eR _)
 rcases L5 _ _ h with t | t
 ·rw[t,kX] at hb;omega
 ·omega
theorem L6:∀ (k u:Nat),u<10 ^ (k+1)->(Lib.decDigits u).length<=k+1
 | 0,u,h=>by rw[Lib.decDigits];rw[dif_pos ab];simp
 | k+1,u,h=>by
  rw[Lib.decDigits];split
  ·simp
  ·rw[bU]
   have:=L6 k (u / 10) (by rw[vX] at h;omega);simp;omega
theorem RD {n:Int}(h0:-1000000000000<=n)(h1:n<=1000000000000):(Lib.itoa n).length<=14:=by
 unfold Lib.itoa;split
 ·have:=L6 12 n.natAbs ab
  simp;omega
 ·have:=L6 12 n.toNat ab
  omega
theorem L7 {n:Int}(h:dI n=true):-1000000000000<=n/\n<=1000000000000:=by
 unfold dI at h;simp only[dp,decide_eq_true_eq] at h;exact h
theorem L8 (o:Ob)(h:eF o=true):(iU o).length<=100 * cv o:=by
 induction o with
 | none=>cases h
 | const n=>have:=L7 h;have:=RD this.1 this.2;unfold iU cv;omega
 | fix s=>have:=HZ h;unfold iU cv;rw[HY];simp;omega
 | neg o ih=>have:=ih h;unfold iU cv;rw[HY];simp;omega
 | add l r a b=>simp only[eF,dp] at h;have:=a h.1;have:=b h.2;unfold iU cv;rw[Cr];simp;omega
 | mul l r a b=>simp only[eF,dp] at h;have:=a h.1;have:=b h.2;unfold iU cv;rw[Cr];simp;omega
 | max l r a b=>simp only[eF,dp] at h;have:=a h.1;have:=b h.2;unfold iU cv;rw[Cr];simp;omega
theorem aan (t:Tm)(h:dJ t=true):(gi t).length<=100 * bj t:=by
 induction t with
 | none=>cases h
 | zero=>decide
 | one s=>have:=HZ h;unfold gi bj;rw[HY];simp;omega
 | dy t ih=>have:=ih h;unfold gi bj;rw[HY];simp;omega
 | and l r a b=>simp only[dJ,dp] at h;have:=a h.1;have:=b h.2;unfold gi bj;rw[Cr];simp;omega
 | or s l r a b=>simp only[dJ,dp] at h;have:=HZ h.1;have:=a h.2.1;have:=b h.2.2;unfold gi bj;rw[RC];simp;omega
 | scale o t ih=>simp only[dJ,dp] at h;have:=L8 o h.1;have:=ih h.2;unfold gi bj;rw[Cr];simp;omega
 | when d t ih=>simp only[dJ,dp,decide_eq_true_eq] at h;have:=RD (n:=d) ab ab;have:=ih h.2;unfold gi bj;rw[Cr];simp;omega
 | cond o l r a b=>simp only[dJ,dp] at h;have:=L8 o h.1;have:=a h.2.1;have:=b h.2.2;unfold gi bj;rw[RC];simp;omega
def TabW (w : ah): Prop := Lib.TabIs Tryz.prog w "internal/strconv.uint64pow10" .u64 Lib.pow10Tab
theorem TabW.ag (h:TabW w)(f:Fr none1 w w'):TabW w':=by
 unfold TabW Lib.TabIs World.var? at h ⊢;cases hg : Tryz.prog.globalNamed "internal/strconv.uint64pow10" with
 | none=>rw[hg] at h;cases h
 | some g=>
  rw[hg] at h;simp only[Option.bind_some] at h ⊢;split at h
  case h_1 cs T fr hb=>rw[f.ag hb];exact h
  case h_2=>cases h
theorem aao (w:ah)(k:Nat)(os:Array Obj):Fr none1 w (Go.Sort.grow (w.drewN k) os):=by
 refine⟨rfl,rfl,rfl,?_,λ i hi _=>?_⟩
 ·show w.heap.size<=(w.heap++os).size
  rw[Array.size_append];omega
 ·show(w.heap++os)[i]? = _
  rw[Array.getElem?_append_left hi]
theorem RE (n:Int)(h0:-9223372036854775808<=n)(h1:n<=9223372036854775807)(w:ah)(ht:TabW w):au 254 #[aa n] w λ r w'=>r=.string (str (Lib.itoa n))/\Fr none1 w w':=by
 refine(Tryz.strconv_Itoa n h0 h1 w ht).mono ?_;rintro e w' ⟨rfl,k,os,rfl⟩;exact⟨_,rfl,rfl,aao w k os⟩
theorem aap (h:Go.RowKit.Below w.heap.size w w'):Fr none1 w w':=by
 obtain⟨a,b,c,d,e⟩:=h;exact⟨a,b,c,d,λ k hk _=>e k hk⟩
theorem sP {v:Sl}{xs:List (ai)}(h:jy w v xs)(aL:xs≠[])(wd:ai)(hl:(jK wd xs).length<=10000000):
  au 252 #[.string (str wd),.slice v.1 v.2.1 v.2.2] w λ r w'=>r=.string (str (jK wd xs))/\Fr none1 w w':=by
 refine c252 (str wd) v.1 v.2.1 v.2.2 w _ ?_;have dD:=h.len;have hj:(jK wd xs).length=wd.length+1+(Lib.join xs [44]).length+1:=by unfold jK;simp;omega
 rcases h with⟨rfl,mh⟩ | ⟨g,off,cs,hv,hb,hle,xK,hn,he⟩
 ·rw[List.map_eq_nil_iff] at mh
  exact absurd mh aL
 rw[jg] at xK;rw[eI] at hn;have EP:(xs.map str).map (λ x:ay=>x.data.toList)=xs:=by
  rw[List.map_map]
  conv=>rhs;rw[<- List.map_id xs]
  exact BX λ x _=>nn x
 have hlj:xs.length<=(Lib.join xs [44]).length+1:=by
  have h2:∀ l:List (ai),l≠[]->l.length<=(Lib.join l [44]).length+1:=by
   intro l hl;cases l with
   | nil=>exact absurd rfl hl
   | cons x r=>rw[Lib.join_cons,bU,Lib.joinTail_length];simp;omega
  exact h2 xs aL
 have hJ:=Tryz.strings_Join g off v.2.2 (xs.map str) (⟨#[44]⟩:ay) w (λ j x hx=>by
   rw[rr hb];rw[ig] at hx;obtain⟨y,hy,rfl⟩:=Option.map_eq_some_iff.1 hx;have hj:=(nj.1 hy).1;rw[he j (by rw[eI];exact hj),ig,hy];rfl) (cQ hb) (by rw[eI];omega) (by rw[eI];omega) (by rw[EP];show(Lib.join xs [44]).length<=_;omega)
 rw[EP,eI] at hJ;rw[hv];have sz:(str wd).size=wd.length:=fS wd;have e40:(⟨#[40]⟩:ay)=str [40]:=rfl;have e41:(⟨#[41]⟩:ay)=str [41]:=rfl;unfold C252;rw[e40,e41];have im:IntKind.i64.max=9223372036854775807:=rfl;refine⟨by rw[sz,fS,im];simp;omega,?_⟩;rw[dD];refine an.of (R:=λ r w'=>r=.string (str (Lib.join xs [44]))/\Fr none1 w w') (hJ.mono ?_) ?_
 ·rintro e w' ⟨rfl,hB⟩
  exact⟨_,rfl,rfl,aap hB⟩
 rintro _ w1 ⟨rfl,f1⟩;refine⟨_,rfl,?_⟩;rw[Ek];refine⟨by rw[fS,fS,im];simp;omega,?_⟩;rw[Ek];refine⟨by rw[fS,fS,im];simp;omega,?_⟩;rw[Ek];exact⟨rfl,f1⟩
theorem sQ (xs:List (ai))(hl:xs.length<=100){K:aS×Nat×Nat->ah->Prop}(k:∀ (u:Sl) w',jy w' u xs->Fr none1 w w'->K u w'):
  aT (Instr.buildSlice 56 xs.length (((xs.map sv).zipIdx.map λ(v,i)=>(i,v)).toArray)) w aM (λ(x:aS×Nat×Nat) w1=>K x w1):=by
 obtain⟨x,w1,hr,hx,nU,f1,hf⟩:=vR (P:=Tryz.prog) (w:=w) Cc (xs.map sv) (by intro v hv;obtain⟨x,_,rfl⟩:=kF.1 hv;rfl) (by rw[eI];omega);rw[eI] at hr;exact⟨x,w1,hr,k x w1 hx f1⟩
theorem wE (o:Ob)(hf:eF o=true)(hn:cv o<=10000)(w:ah)(ht:TabW w):au 253 #[o.v] w λ r w'=>r=.string (str (iU o))/\Fr none1 w w':=by
 refine c253 o.v w _ ?_;unfold C253;have hL:=L8 o hf;cases o with
 | none=>cases hf
 | const n=>
  have hv:=L7 hf;refine aD.hit (n,()) rfl (dO (zs:=[aa 0]) (vs:=[aa n]) rfl rfl λ g w1 _ hb f1=>af.aw hb (x:=n) rfl ?_);refine an.of (RE n ab ab w1 (ht.ag f1)) ?_;rintro _ w2 ⟨rfl,f2⟩;exact⟨_,rfl,rfl,f1.trans f2⟩
 | fix s=>
  refine aD.bn rfl ar (aD.hit (str s,()) rfl (dO (zs:=[aj]) (vs:=[.string (str s)]) rfl rfl λ g w1 _ hb f1=>af.aw hb (x:=str s) rfl ?_));refine sQ (w:=w1) [s] bm λ u w2 hu f2=>?_;refine an.of (sP hu bm [102,105,120] (by unfold iU cv at hL;omega)) ?_;rintro _ w3 ⟨rfl,f3⟩;exact⟨_,rfl,rfl,(f1.trans f2).trans f3⟩
 | neg x=>
  have mv:cv x<=10000:=by unfold cv at hn;omega
  refine aD.bn rfl ar (aD.bn rfl ar (aD.bn rfl ar (aD.hit (x.v,()) rfl (dO (zs:=[.nilIface]) (vs:=[x.v]) rfl (by simp[Ob.cU]) λ g w1 _ hb f1=>af.aw (c:=.raw) hb (x:=x.v) rfl ?_))));refine an.of (wE x hf mv w1 (ht.ag f1)) ?_;rintro _ w2 ⟨rfl,f2⟩;refine⟨_,rfl,?_⟩;refine sQ (w:=w2) [iU x] bm λ u w3 hu f3=>?_;refine an.of (sP hu bm [110,101,103] (by unfold iU cv at hL;omega)) ?_;rintro _ w4 ⟨rfl,f4⟩;exact⟨_,rfl,rfl,((f1.trans f2).trans f3).trans f4⟩
 | add l r=>
  simp only[eF,dp] at hf;have rG:cv l<=10000:=by unfold cv at hn;omega
  have tX:cv r<=10000:=by unfold cv at hn;omega
  refine aD.bn rfl ar (aD.bn rfl ar (aD.hit (l.v,r.v,()) rfl (dO (zs:=[.nilIface,.nilIface]) (vs:=[l.v,r.v]) rfl (by simp[Ob.cU]) λ g w1 _ hb f1=>?_)));refine aU.of λ w2 _ f2=>bL.all ?_;have ba:=f2.ag hb;refine aJ.all (af.aw (c:=.raw) ba (x:=l.v) rfl (aJ.all (af.aw (c:=.raw) ba (x:=r.v) rfl ?_)));refine an.of (wE l hf.1 rG w2 ((ht.ag f1).ag f2)) ?_;rintro _ w3 ⟨rfl,f3⟩;refine⟨_,rfl,az.of f3 ?_⟩;refine an.of (wE r hf.2 tX w3 (((ht.ag f1).ag f2).ag f3)) ?_;rintro _ w4 ⟨rfl,f4⟩;refine⟨_,rfl,az.of f4 ?_⟩;refine sQ (w:=w4) [iU l,iU r] bm λ u w5 hu f5=>az.of f5 ?_;refine an.of (sP hu bm [97,100,100] (by unfold iU cv at hL;omega)) ?_;rintro _ w6 ⟨rfl,f6⟩;exact⟨_,rfl,az.of f6 ⟨rfl,(f1.trans f2).trans (((f3.trans f4).trans f5).trans f6)⟩⟩
 | mul l r=>
  simp only[eF,dp] at hf;have rG:cv l<=10000:=by unfold cv at hn;omega
  have tX:cv r<=10000:=by unfold cv at hn;omega
  refine aD.bn rfl ar (aD.bn rfl ar (aD.bn rfl ar (aD.bn rfl ar (aD.hit (l.v,r.v,()) rfl (dO (zs:=[.nilIface,.nilIface]) (vs:=[l.v,r.v]) rfl (by simp[Ob.cU]) λ g w1 _ hb f1=>?_)))));refine aU.of λ w2 _ f2=>bL.all ?_;have ba:=f2.ag hb;refine aJ.all (af.aw (c:=.raw) ba (x:=l.v) rfl (aJ.all (af.aw (c:=.raw) ba (x:=r.v) rfl ?_)));refine an.of (wE l hf.1 rG w2 ((ht.ag f1).ag f2)) ?_;rintro _ w3 ⟨rfl,f3⟩;refine⟨_,rfl,az.of f3 ?_⟩;refine an.of (wE r hf.2 tX w3 (((ht.ag f1).ag f2).ag f3)) ?_;rintro _ w4 ⟨rfl,f4⟩;refine⟨_,rfl,az.of f4 ?_⟩;refine sQ (w:=w4) [iU l,iU r] bm λ u w5 hu f5=>az.of f5 ?_;refine an.of (sP hu bm [109,117,108] (by unfold iU cv at hL;omega)) ?_;rintro _ w6 ⟨rfl,f6⟩;exact⟨_,rfl,az.of f6 ⟨rfl,(f1.trans f2).trans (((f3.trans f4).trans f5).trans f6)⟩⟩
 | max l r=>
  simp only[eF,dp] at hf;have rG:cv l<=10000:=by unfold cv at hn;omega
  have tX:cv r<=10000:=by unfold cv at hn;omega
  refine aD.bn rfl ar (aD.bn rfl ar (aD.bn rfl ar (aD.bn rfl ar (aD.bn rfl ar (aD.hit (l.v,r.v,()) rfl (dO (zs:=[.nilIface,.nilIface]) (vs:=[l.v,r.v]) rfl (by simp[Ob.cU]) λ g w1 _ hb f1=>?_))))));refine aU.of λ w2 _ f2=>bL.all ?_;have ba:=f2.ag hb;refine aJ.all (af.aw (c:=.raw) ba (x:=l.v) rfl (aJ.all (af.aw (c:=.raw) ba (x:=r.v) rfl ?_)));refine an.of (wE l hf.1 rG w2 ((ht.ag f1).ag f2)) ?_;rintro _ w3 ⟨rfl,f3⟩;refine⟨_,rfl,az.of f3 ?_⟩;refine an.of (wE r hf.2 tX w3 (((ht.ag f1).ag f2).ag f3)) ?_;rintro _ w4 ⟨rfl,f4⟩;refine⟨_,rfl,az.of f4 ?_⟩;refine sQ (w:=w4) [iU l,iU r] bm λ u w5 hu f5=>az.of f5 ?_;refine an.of (sP hu bm [109,97,120] (by unfold iU cv at hL;omega)) ?_;rintro _ w6 ⟨rfl,f6⟩;exact⟨_,rfl,az.of f6 ⟨rfl,(f1.trans f2).trans (((f3.trans f4).trans f5).trans f6)⟩⟩
theorem u7 (t:Tm)(hf:dJ t=true)(hn:bj t<=10000)(w:ah)(ht:TabW w):au 236 #[t.v] w λ r w'=>r=.string (str (gi t))/\Fr none1 w w':=by
 refine c236 t.v w _ ?_;unfold C236;have hL:=aan t hf;cases t with
 | none=>cases hf
 | zero=>exact aD.hit () rfl (dO (zs:=[]) (vs:=[]) rfl rfl λ g w1 _ hb f1=>⟨rfl,f1⟩)
 | one s=>
  refine aD.bn rfl ar (aD.hit (str s,()) rfl (dO (zs:=[aj]) (vs:=[.string (str s)]) rfl rfl λ g w1 _ hb f1=>af.aw hb (x:=str s) rfl ?_));refine sQ (w:=w1) [s] bm λ u w2 hu f2=>?_;refine an.of (sP hu bm [111,110,101] (by unfold gi bj at hL;omega)) ?_;rintro _ w3 ⟨rfl,f3⟩;exact⟨_,rfl,rfl,(f1.trans f2).trans f3⟩
 | dy x=>
  have mv:bj x<=10000:=by unfold bj at hn;omega
  refine aD.bn rfl ar (aD.bn rfl ar (aD.hit (x.v,()) rfl (dO (zs:=[.nilIface]) (vs:=[x.v]) rfl (by simp[Tm.cU]) λ g w1 _ hb f1=>af.aw (c:=.raw) hb (x:=x.v) rfl ?_)));refine an.of (u7 x hf mv w1 (ht.ag f1)) ?_;rintro _ w2 ⟨rfl,f2⟩;refine⟨_,rfl,?_⟩;refine sQ (w:=w2) [gi x] bm λ u w3 hu f3=>?_;refine an.of (sP hu bm [103,105,118,101] (by unfold gi bj at hL;omega)) ?_;rintro _ w4 ⟨rfl,f4⟩;exact⟨_,rfl,rfl,((f1.trans f2).trans f3).trans f4⟩
 | and l r=>
  simp only[dJ,dp] at hf;have rG:bj l<=10000:=by unfold bj at hn;omega
  have tX:bj r<=10000:=by unfold bj at hn;omega
  refine aD.bn rfl ar (aD.bn rfl ar (aD.bn rfl ar (aD.hit (l.v,r.v,()) rfl (dO (zs:=[.nilIface,.nilIface]) (vs:=[l.v,r.v]) rfl (by simp[Tm.cU]) λ g w1 _ hb f1=>?_))));refine aU.of λ w2 _ f2=>bL.all ?_;have ba:=f2.ag hb;refine aJ.all (af.aw (c:=.raw) ba (x:=l.v) rfl (aJ.all (af.aw (c:=.raw) ba (x:=r.v) rfl ?_)));refine an.of (u7 l hf.1 rG w2 ((ht.ag f1).ag f2)) ?_;rintro _ w3 ⟨rfl,f3⟩;refine⟨_,rfl,az.of f3 ?_⟩;refine an.of (u7 r hf.2 tX w3 (((ht.ag f1).ag f2).ag f3)) ?_;rintro _ w4 ⟨rfl,f4⟩;refine⟨_,rfl,az.of f4 ?_⟩;refine sQ (w:=w4) [gi l,gi r] bm λ u w5 hu f5=>az.of f5 ?_;refine an.of (sP hu bm [97,110,100] (by unfold gi bj at hL;omega)) ?_;rintro _ w6 ⟨rfl,f6⟩;exact⟨_,rfl,az.of f6 ⟨rfl,(f1.trans f2).trans (((f3.trans f4).trans f5).trans f6)⟩⟩
 | or s l r=>
  simp only[dJ,dp] at hf;have rG:bj l<=10000:=by unfold bj at hn;omega
  have tX:bj r<=10000:=by unfold bj at hn;omega
  refine aD.bn rfl ar (aD.bn rfl ar (aD.bn rfl ar (aD.bn rfl ar (aD.hit (str s,l.v,r.v,()) rfl (dO (zs:=[aj,.nilIface,.nilIface]) (vs:=[.string (str s),l.v,r.v]) rfl (by simp[Tm.cU,sK]) λ g w1 _ hb f1=>?_)))));refine aU.of λ w2 _ f2=>bL.all ?_;have ba:=f2.ag hb;refine aJ.all (af.aw ba (x:=str s) rfl (aJ.all (af.aw (c:=.raw) ba (x:=l.v) rfl (aJ.all (af.aw (c:=.raw) ba (x:=r.v) rfl ?_)))));refine an.of (u7 l hf.2.1 rG w2 ((ht.ag f1).ag f2)) ?_;rintro _ w3 ⟨rfl,f3⟩;refine⟨_,rfl,az.of f3 ?_⟩;refine an.of (u7 r hf.2.2 tX w3 (((ht.ag f1).ag f2).ag f3)) ?_;rintro _ w4 ⟨rfl,f4⟩;refine⟨_,rfl,az.of f4 ?_⟩;refine sQ (w:=w4) [s,gi l,gi r] bm λ u w5 hu f5=>az.of f5 ?_;refine an.of (sP hu bm [111,114] (by unfold gi bj at hL;omega)) ?_;rintro _ w6 ⟨rfl,f6⟩;exact⟨_,rfl,az.of f6 ⟨rfl,(f1.trans f2).trans (((f3.trans f4).trans f5).trans f6)⟩⟩
 | scale o x=>
  simp only[dJ,dp] at hf;have jQ:cv o<=10000:=by unfold bj at hn;omega
  have mv:bj x<=10000:=by unfold bj at hn;omega
  refine aD.bn rfl ar (aD.bn rfl ar (aD.bn rfl ar (aD.bn rfl ar (aD.bn rfl ar (aD.hit (o.v,x.v,()) rfl (dO (zs:=[.nilIface,.nilIface]) (vs:=[o.v,x.v]) rfl (by simp[Tm.cU,Ob.cU]) λ g w1 _ hb f1=>?_))))));refine aU.of λ w2 _ f2=>bL.all ?_;have ba:=f2.ag hb;refine aJ.all (af.aw (c:=.raw) ba (x:=o.v) rfl (aJ.all (af.aw (c:=.raw) ba (x:=x.v) rfl ?_)));refine an.of (wE o hf.1 jQ w2 ((ht.ag f1).ag f2)) ?_;rintro _ w3 ⟨rfl,f3⟩;refine⟨_,rfl,az.of f3 ?_⟩;refine an.of (u7 x hf.2 mv w3 (((ht.ag f1).ag f2).ag f3)) ?_;rintro _ w4 ⟨rfl,f4⟩;refine⟨_,rfl,az.of f4 ?_⟩;refine sQ (w:=w4) [iU o,gi x] bm λ u w5 hu f5=>az.of f5 ?_;refine an.of (sP hu bm [115,99,97,108,101] (by unfold gi bj at hL;omega)) ?_;rintro _ w6 ⟨rfl,f6⟩;exact⟨_,rfl,az.of f6 ⟨rfl,(f1.trans f2).trans (((f3.trans f4).trans f5).trans f6)⟩⟩
 | when d x=>
  simp only[dJ,dp,decide_eq_true_eq] at hf;have mv:bj x<=10000:=by unfold bj at hn;omega
  refine aD.bn rfl ar (aD.bn rfl ar (aD.bn rfl ar (aD.bn rfl ar (aD.bn rfl ar (aD.bn rfl ar (aD.hit (d,x.v,()) rfl (dO (zs:=[aa 0,.nilIface]) (vs:=[aa d,x.v]) rfl (by simp[Tm.cU,tT]) λ g w1 _ hb f1=>?_)))))));refine aU.of λ w2 _ f2=>bL.all ?_;have ba:=f2.ag hb;refine aJ.all (af.aw ba (x:=d) rfl (aJ.all (af.aw (c:=.raw) ba (x:=x.v) rfl ?_)));refine an.of (RE d ab ab w2 ((ht.ag f1).ag f2)) ?_;rintro _ w3 ⟨rfl,f3⟩;refine⟨_,rfl,az.of f3 ?_⟩;refine an.of (u7 x hf.2 mv w3 (((ht.ag f1).ag f2).ag f3)) ?_;rintro _ w4 ⟨rfl,f4⟩;refine⟨_,rfl,az.of f4 ?_⟩;refine sQ (w:=w4) [Lib.itoa d,gi x] bm λ u w5 hu f5=>az.of f5 ?_;refine an.of (sP hu bm [119,104,101,110] (by unfold gi bj at hL;omega)) ?_;rintro _ w6 ⟨rfl,f6⟩;exact⟨_,rfl,az.of f6 ⟨rfl,(f1.trans f2).trans (((f3.trans f4).trans f5).trans f6)⟩⟩
 | cond o l r=>
  simp only[dJ,dp] at hf;have jQ:cv o<=10000:=by unfold bj at hn;omega
  have rG:bj l<=10000:=by unfold bj at hn;omega
  have tX:bj r<=10000:=by unfold bj at hn;omega
  refine aD.bn rfl ar (aD.bn rfl ar (aD.bn rfl ar (aD.bn rfl ar (aD.bn rfl ar (aD.bn rfl ar (aD.bn rfl ar (aD.hit (o.v,l.v,r.v,()) rfl (dO (zs:=[.nilIface,.nilIface,.nilIface]) (vs:=[o.v,l.v,r.v]) rfl (by simp[Tm.cU,Ob.cU]) λ g w1 _ hb f1=>?_))))))));refine aU.of λ w2 _ f2=>bL.all ?_;have ba:=f2.ag hb;refine aJ.all (af.aw (c:=.raw) ba (x:=o.v) rfl (aJ.all (af.aw (c:=.raw) ba (x:=l.v) rfl (aJ.all (af.aw (c:=.raw) ba (x:=r.v) rfl ?_)))));refine an.of (wE o hf.1 jQ w2 ((ht.ag f1).ag f2)) ?_;rintro _ w3 ⟨rfl,f3⟩;refine⟨_,rfl,az.of f3 ?_⟩;refine an.of (u7 l hf.2.1 rG w3 (((ht.ag f1).ag f2).ag f3)) ?_;rintro _ w4 ⟨rfl,f4⟩;refine⟨_,rfl,az.of f4 ?_⟩;refine an.of (u7 r hf.2.2 tX w4 ((((ht.ag f1).ag f2).ag f3).ag f4)) ?_;rintro _ w5 ⟨rfl,f5⟩;refine⟨_,rfl,az.of f5 ?_⟩;refine sQ (w:=w5) [iU o,gi l,gi r] bm λ u w6 hu f6=>az.of f6 ?_;refine an.of (sP hu bm [105,102] (by unfold gi bj at hL;omega)) ?_;rintro _ w7 ⟨rfl,f7⟩;exact⟨_,rfl,az.of f7 ⟨rfl,(f1.trans f2).trans ((((f3.trans f4).trans f5).trans f6).trans f7)⟩⟩
theorem aaq (s:ai)(w:ah):au 235 #[.string (str s)] w λ r w'=>r=.tuple #[.string (str (if 1000<s.length then[] else s)),aa (if 1000<s.length then 5 else 0)]/\w=w':=by
 refine c235 (str s) w _ ?_;unfold C235;rw[fS];refine ae.dec (λ h=>?_) (λ h=>?_)
 ·rw[if_pos ab,if_pos ab];exact⟨rfl,rfl⟩
 ·rw[if_neg ab,if_neg ab];exact⟨rfl,rfl⟩
theorem L9 {t:Tm}(h:mu t=0):dJ t=true/\bj t<=60/\dv t<=12:=by
 unfold mu at h
 repeat' split at h
 all_goals first | (exact absurd h ar) | skip
 rename_i h1 h2 h3 _;exact⟨by simpa using h1,by omega,by omega⟩
theorem H0 (t:Tm)(hn:bj t<=1000000)(w:ah)(ht:TabW w):au 209 #[t.v] w λ r w'=>r=.tuple #[.string (str (bT t).1),aa (bT t).2]/\Fr none1 w w':=by
 refine c209 t.v w _ ?_;refine an.of (LN t hn w) ?_;rintro _ w1 ⟨rfl,f1⟩;unfold bT;refine⟨_,rfl,ae.ne (λ h=>?_) (λ h=>?_)⟩
 ·rw[if_pos h];exact⟨rfl,f1⟩
 rw[if_neg (λ t=>t h)];have hc:=L9 h;refine an.of (u7 t hc.1 ab w1 (ht.ag f1)) ?_;rintro _ w2 ⟨rfl,f2⟩;refine⟨_,rfl,?_⟩;have H2:=aaq (gi t) w2
 by_cases hl:1000<(gi t).length
 ·rw[if_pos hl,if_pos hl] at H2
  rw[if_pos hl];refine an.of H2 ?_;rintro _ _ ⟨rfl,rfl⟩;exact⟨(str [],5,()),rfl,rfl,f1.trans f2⟩
 ·rw[if_neg hl,if_neg hl] at H2
  rw[if_neg hl];refine an.of H2 ?_;rintro _ _ ⟨rfl,rfl⟩;exact⟨(str (gi t),0,()),rfl,rfl,f1.trans f2⟩
def kd (r:Int):Int:=if isLet r then 97 else if r=45 then 97 else if r=40 then 40 else if r=41 then 40 else if r=44 then 40 else if r=32 then 32 else 0
theorem aar (r:Int)(w:ah):au 277 #[.int .i32 r] w λ v w'=>v=.int .u8 (kd r)/\w=w':=by
 refine c277 r w _ ?_;refine an.of (QZ r w) ?_;rintro _ _ ⟨rfl,rfl⟩;refine⟨_,rfl,?_⟩;unfold kd;refine ae.by (λ h1=>?_) (λ h1=>?_)
 ·rw[if_pos h1];exact⟨rfl,rfl⟩
 rw[if_neg (by simp[h1])];refine ae.eq (λ h=>?_) (λ h=>?_)
 ·rw[if_pos h];exact⟨rfl,rfl⟩
 rw[if_neg h];refine ae.eq (λ h=>?_) (λ h=>?_)
 ·rw[if_pos h];exact⟨rfl,rfl⟩
 rw[if_neg h];refine ae.eq (λ h=>?_) (λ h=>?_)
 ·rw[if_pos h];exact⟨rfl,rfl⟩
 rw[if_neg h];refine ae.eq (λ h=>?_) (λ h=>?_)
 ·rw[if_pos h];exact⟨rfl,rfl⟩
 rw[if_neg h];refine ae.eq (λ h=>?_) (λ h=>?_)
 ·rw[if_pos h];exact⟨rfl,rfl⟩
 rw[if_neg h];exact⟨rfl,rfl⟩
abbrev fJ:=ai×Int
def qG (l:List fJ):List av:=l.flatMap λ x=>[.string (str x.1),aa x.2]
theorem An (l:List fJ):(qG l).length=l.length * 2:=by
 induction l with
 | nil=>rfl
 | cons x l ih=>unfold qG at *;rw[ni,bU,ih];simp;omega
theorem Ma (a b:List fJ):qG (a++b)=qG a++qG b:=by unfold qG;rw[BV]
theorem RF:∀ (l:List fJ) (i:Nat) (x:fJ),l[i]? = some x->(qG l)[i * 2]? = some (.string (str x.1))/\(qG l)[i * 2+1]? = some (aa x.2)
 | [],i,x,h=>by simp at h
 | y::l,0,x,h=>by
  simp at h;subst h;exact⟨rfl,rfl⟩
 | y::l,i+1,x,h=>by
  have:=RF l i x (by simpa using h);rw[show(i+1) * 2=i * 2+2 by omega,show i * 2+2+1=i * 2+1+2 by omega];exact this
theorem RG:jR Tryz.prog 380 418 2 (.agg #[.string ByteArray.empty,aa 0]) 24:=⟨Tryz.underlying380,⟨Tryz.t418,by kernel_rfl,rfl,rfl,rfl⟩,rfl,by decide⟩
structure qH (w:ah)(v:Sl)(l:List fJ):Prop where
 sl:aV w 418 2 v (qG l)
 len:v.2.1=l.length
theorem qH.ao {v:Sl}{l:List fJ}(h:qH w v l){S:bz}(f:Fr S w w')(hn:∀ k,aH v k->¬ S k):qH w' v l:=⟨h.sl.ao f hn,h.len⟩
theorem Mb (w:ah):qH w (none,0,0) []:=⟨.inl ⟨rfl,rfl⟩,rfl⟩
theorem aas {v:Sl}{l:List fJ}(h:qH w v l)(x:ai)(at_:Int)(hl:l.length<=10000000){K:Sl->ah->Prop}
  (hK:∀ y w',qH w' y (l++[(x,at_)])->Fr (aH v) w w'->(∀ k,aH y k->aH v k\/w.heap.size<=k)->K y w') :
  aT (Instr.buildSlice 380 1 #[(0,.agg #[.string (str x),aa at_])]) w aM λ(y:aS×Nat×Nat) w'=>
   aT (Builtin.append_ #[380,380] 380 #[.slice v.1 v.2.1 v.2.2,.slice y.1 y.2.1 y.2.2]) w' aM λ(u:aS×Nat×Nat) rn=>K u rn:=by
 obtain⟨y,w1,r1,hy,gG,f1,yf⟩:=K5 (w:=w) RG 1 #[(0,.agg #[.string (str x),aa at_])] #[.string (str x),aa at_] ab (by
  simp[Instr.fill,Value.cells];refine Array.ext bm λ i h1 h2=>?_;have:i=0\/i=1:=by simp at h2;omega
  rcases this with t | t<;>subst t<;>simp) rfl
 refine⟨y,w1,r1,?_⟩;have dD:=h.len;obtain⟨z,w2,r2,hz,hzl,f2,zf⟩:=jf RG 380 (h.sl.ag f1) hy.rd (by intro v hv;simp at hv;rcases hv with rfl | rfl<;>rfl) (by rw[gG,dD];omega)
 refine⟨z,w2,r2,hK z w2 ⟨?_,?_⟩ (f1.fN f2) λ k hk=>?_⟩
 ·rw[Ma];exact hz
 ·rw[hzl,gG,dD,bU];rfl
 ·rcases zf k hk with t | t
  ·exact .inl t
  ·exact .inr (ez f1.size t)
theorem Ia {v:Sl}{l:List fJ}(h:qH w v l){i:Int}(h0:0<=i)(h1:i<v.2.1){x:fJ}(hx:l[i.toNat]? = some x){K:Addr->Prop}
  (hK:∀ a:Addr,(∀ (K:ay->Prop),K (str x.1)->af .str (a.add 0) w K)->(∀ (K:Int->Prop),K x.2->af (.int .i64) (a.add 1) w K)->(∀ (K:ay×Int×Unit->Prop),K (str x.1,x.2,())->aF [.str,.int .i64] a w K)->K a):cz v.1 v.2.1 i 2 K:=by
 obtain⟨hs,hl⟩:=h;obtain⟨c1,c2⟩:=RF l i.toNat x hx
 rcases hs with⟨rfl,mh⟩ | ⟨g,off,cs,hv,hb,hle,hc,hn,he⟩
 ·dsimp only at h1;omega
 ·refine⟨_,hv,h0,h1,?_⟩
  rw[eN];have hlen:=An l;have hi:i.toNat<l.length:=ab;have e0:w.cell? (⟨g,off+i.toNat * 2,none⟩:Addr)=some (.string (str x.1)):=by
   rw[rr hb,he _ ab];exact c1
  have e1:w.cell? (⟨g,off+i.toNat * 2+1,none⟩:Addr)=some (aa x.2):=by
   rw[rr hb,show off+i.toNat * 2+1=off+(i.toNat * 2+1) by omega,he _ ab];exact c2
  have a0:((⟨g,off+i.toNat * 2,none⟩:Addr).add 0)=⟨g,off+i.toNat * 2,none⟩:=by rw[eN];rfl
  have a1:((⟨g,off+i.toNat * 2,none⟩:Addr).add 1)=⟨g,off+i.toNat * 2+1,none⟩:=by rw[eN]
  refine hK _ (λ K k=>af.cell (by rw[a0];exact e0) k) (λ K k=>af.cell (by rw[a1];exact e1) k) (λ K k=>⟨_,⟨by rw[a0];exact e0,by rw[a1];exact e1,trivial⟩,k⟩)
def u9 (l:List fJ)(x:ai):List fJ:=l.dropLast++[((l.getLastD ([],0)).1++x,(l.getLastD ([],0)).2)]
theorem RH (l:List fJ)(h:l≠[]):∃ a y,l=a++[y]:=⟨l.dropLast,l.getLast h,(List.dropLast_concat_getLast h).symm⟩
theorem Mc (a:List fJ)(y:fJ)(x:ai):u9 (a++[y]) x=a++[(y.1++x,y.2)]:=by
 unfold u9;simp
theorem aat {v:Sl}{a:List fJ}{y:fJ}(h:qH w v (a++[y]))(x:ai){i:Int}(hi:i=(v.2.1:Int) - 1)(hsz:y.1.length+x.length<=1000000000000){K:ah->Prop}
  (hK:∀ w',qH w' v (a++[(y.1++x,y.2)])->Fr (aH v) w w'->K w') :
  cz v.1 v.2.1 i 2 (λ p=>af .str (p.add 0) w λ t=>Bs t (Utf8.encode 0 |> λ _=>str x) (cz v.1 v.2.1 i 2 λ q=>aK (q.add 0) (.string (t++str x)) w K)):=by
 have hl:=h.len;rw[bU,fZ] at hl;refine Ia h (x:=y) ab ab (by rw[show i.toNat=a.length by omega];simp) λ p h0 h1 h2=>?_;refine h0 _ ?_;refine⟨by rw[fS,fS];show((y.1.length+x.length:Nat):Int)<=9223372036854775807;omega,?_⟩;rw[Ek];obtain⟨hs,_⟩:=h
 rcases hs with⟨rfl,mh⟩ | ⟨g,off,cs,hv,hb,hle,hc,hn,he⟩
 ·dsimp only at hl;omega
 ·refine⟨_,hv,by omega,by omega,?_⟩
  rw[eN,eN];have hlen:=An (a++[y]);have Ib:=An a;rw[bU,fZ] at hlen;have hit:i.toNat=a.length:=ab;refine aK.of hb ab rfl λ w1 aE f1 ng=>hK w1 ⟨.inr ⟨g,off,_,hv,aE,hle,by simpa using hc,?_,λ j hj=>?_⟩,by rw[bU,fZ];omega⟩ (f1.mono λ k _ hk=>⟨_,hv,hk⟩)
  ·rw[An,bU,fZ];omega
  ·rw[An,bU,fZ] at hj
   rw[hit,Array.getElem?_setIfInBounds,Ma];have Ic:=he j ab;rw[Ma] at Ic
   by_cases RI:j<(qG a).length
   ·rw[if_neg ab,Ic,oV RI,oV RI]
   ·rw[qw ab] at Ic ⊢
    by_cases h0:j - (qG a).length=0
    ·rw[if_pos ab,if_pos ab,h0];rfl
    ·rw[if_neg ab,Ic]
     have:j - (qG a).length=1:=ab;rw[this];rfl
def gK (acc:List fJ)(at_:Int)(run:Bool):List Int->List fJ×Int
 | []=>(acc,0)
 | r::rs=>if kd r=0 then([],at_+1) else if kd r=97/\run=true then gK (u9 acc (enc r)) (at_+1) true rs else
   if kd r≠32 then gK (acc++[(enc r,at_+1)]) (at_+1) (kd r==97) rs else gK acc (at_+1) false rs
def reads (rs:List Int):Nat:=(rs.takeWhile λ r=>kd r != 0).length
theorem aau (bs:ai)(w:ah)(hb:reads (dL bs)<=1000000):au 256 #[.string (str bs)] w λ v w'=>
  ∃ sl:Sl,v=.tuple #[.slice sl.1 sl.2.1 sl.2.2,aa (gK [] 0 false (dL bs)).2]/\qH w' sl (gK [] 0 false (dL bs)).1/\Fr none1 w w'/\∀ k,aH sl k->w.heap.size<=k:=by
 refine c256 _ w _ ?_;refine HF bs λ r w1 hr hit f1=>?_;have F0:Fr (only r) w1 w1:=Fr.refl _ _;have s1:=f1.size;refine cp.of (λ s w'=>∃ (acc:List fJ) (rest:List Int),0<=s.2.1/\s.2.1+reads rest<=1000000/\qH w' s.1 acc/\(∀ k,aH s.1 k->w.heap.size<k)/\(s.2.2.1=true->acc≠[])/\acc.length<=s.2.1/\(∀ y∈acc,(y.1.length:Int)<=4 * s.2.1)/\mg w' r rest/\Fr none1 w w'/\gK acc s.2.1 s.2.2.1 rest=gK [] 0 false (dL bs)) (λ _ w'=>qA w' r)
  ⟨[],_,kC _,by dsimp only;omega,Mb _,(λ k ⟨a,ha,_⟩=>by cases ha),(λ t=>by cases t),by simp,(λ y hy=>by simp at hy),hit,f1,rfl⟩ ?_
 rintro _ ⟨v,at_,run,_⟩ w2 ⟨acc,rest,h0,KT,hv,kI,jE,Ib,ER,uT,f2,heq⟩;dsimp only at h0 KT hv kI jE Ib ER heq ⊢;refine HE uT (λ c oW pos w3 hc kH tL f3=>?_) (λ mh=>?_)
 ·subst hc
  have tM:Fr none1 w w3:=f2.fresh f3 ab;have uW:=hv.ao f3 (λ k hk t=>by have:=kI k hk;have:k=r:=t;omega);refine an.of (aar c w3) ?_;rintro _ _ ⟨rfl,rfl⟩;refine⟨_,rfl,?_⟩;have ml:∀ w4,mg w4 r oW->qA w4 r<qA w2 r:=λ w4 h4=>by rw[h4.left,uT.left];simp
  have aav:gK acc at_ run (c::oW)=if kd c=0 then([],at_+1) else if kd c=97/\run=true then gK (u9 acc (enc c)) (at_+1) true oW else
   if kd c≠32 then gK (acc++[(enc c,at_+1)]) (at_+1) (kd c==97) oW else gK acc (at_+1) false oW:=rfl
  rw[aav] at heq;have e1:IntKind.i64.wrap (at_+1)=at_+1:=wI ab ab;rw[e1];refine ae.eq (λ mG=>?_) (λ mG=>?_)
  ·rw[if_pos mG] at heq
   rw[<- heq];exact⟨(none,0,0),rfl,Mb _,tM,λ k ⟨a,ha,_⟩=>by cases ha⟩
  rw[if_neg mG] at heq;have D1:at_+1+reads oW<=1000000:=by
   have:reads (c::oW)=reads oW+1:=by
    unfold reads;rw[List.takeWhile_cons_of_pos (by simpa using mG)];rfl
   omega
  have Ht:=QW c;refine dc.of (λ b w'=>w3=w'/\b.1=(decide (kd c=97)&&run)) ?_ ?_
  ·refine ae.eq (λ h=>?_) (λ h=>?_)
   ·exact⟨rfl,by rw[decide_eq_true h,iF]⟩
   ·exact⟨rfl,by rw[decide_eq_false h,Bool.false_and]⟩
  rintro _ ⟨b,_⟩ _ ⟨rfl,rH⟩;dsimp only at rH ⊢;subst rH;refine ae.by (λ ES=>?_) (λ ES=>?_)
  ·have Md:kd c=97/\run=true:=by simpa using ES
   obtain⟨ha,ET⟩:=Md;rw[if_pos ⟨ha,ET⟩] at heq;obtain⟨a,y,rfl⟩:=RH acc (jE ET);rw[Mc] at heq;have dD:=hv.len;rw[bU,fZ] at dD;have hy4:=ER y bm;rw[wI (x:=(v.2.1:Int) - 1) ab (by simp at Ib;omega)];rw[Lj];refine aat uW (enc c) rfl ab λ w4 hv4 f4=>?_;have Me:∀ k,aH v k->k≠r:=λ k hk=>by have:=kI k hk;omega
   have xU:=tL.ao f4 (λ t=>Me r t rfl);refine⟨⟨_,oW,by omega,D1,hv4,kI,λ _=>by simp,by simp at Ib ⊢;omega,λ z hz=>?_,xU,tM.comp f4 (λ k hk t=>by have:=kI k t;omega),?_⟩,ml w4 xU⟩
   ·rcases kE.1 hz with hz | hz
    ·have:=ER z (by simp[hz]);omega
    ·simp at hz;subst hz
     simp only[bU];omega
   ·rw[ha];exact heq
  ·have Md:¬ (kd c=97/\run=true):=by simpa using ES
   rw[if_neg Md] at heq;refine ae.ne (λ EU=>?_) (λ EU=>?_)
   ·rw[if_pos EU] at heq
    rw[Lj];refine aas uW (enc c) (at_+1) ab λ u w4 hu f4 uf=>?_;have Me:∀ k,aH v k->k≠r:=λ k hk=>by have:=kI k hk;omega
    have xU:=tL.ao f4 (λ t=>Me r t rfl);have s3:=tL.lt;refine⟨⟨_,oW,by omega,D1,hu,λ k hk=>?_,λ _=>by simp,by simp;omega,λ z hz=>?_,xU,tM.comp f4 (λ k hk t=>by have:=kI k t;omega),heq⟩,ml w4 xU⟩
    ·rcases uf k hk with t | t
     ·exact kI k t
     ·omega
    ·rcases kE.1 hz with hz | hz
     ·have:=ER z hz;omega
     ·simp at hz;subst hz
      dsimp only;omega
   ·rw[if_neg (by simp[EU])] at heq
    refine⟨⟨acc,oW,by omega,D1,uW,kI,λ t=>?_,by omega,λ z hz=>?_,tL,tM,?_⟩,ml w3 tL⟩
    ·rw[EU] at t;simp at t
    ·have:=ER z hz;omega
    ·rw[EU];exact heq
 ·subst mh
  rw[<- heq];exact⟨v,rfl,hv,f2,λ k hk=>by have:=kI k hk;omega⟩
def C289 (p0:ay)(p1:ay)(w:ah)(K:aP):Prop:=
 ak 302 #[.string p0,.string p1] w eu (λ(x1:ay) w2=>K (.string x1) w2)
def pl289:aN:=.auto
theorem c289 (p0 p1 w K)(h:C289 p0 p1 w K):au 289 #[.string p0,.string p1] w K:=aQ Tryz.func289 (p:=pl289) aA h
def C302 (p0:ay)(p1:ay)(w:ah)(K:aP):Prop:=
 ak 321 #[.string p0,.string p1] w bK (λ(x1:Bool) w2=>ae x1
 (y8 p0 (p1.size:Int) p0.size (λ x3=>K (.string x3) w2))
 (K (.string p0) w2))
def pl302:aN:=.auto
theorem c302 (p0 p1 w K)(h:C302 p0 p1 w K):au 302 #[.string p0,.string p1] w K:=aQ Tryz.func302 (p:=pl302) aA h
def C321 (p0:ay)(p1:ay)(w:ah)(K:aP):Prop:=
 ae (decide ((p0.size:Int) >= (p1.size:Int)))
 (y8 p0 0 (p1.size:Int) (λ x1=>K (.bool (x1.toList==p1.toList)) w))
 (K (.bool false) w)
def pl321:aN:=.auto
theorem c321 (p0 p1 w K)(h:C321 p0 p1 w K):au 321 #[.string p0,.string p1] w K:=aQ Tryz.func321 (p:=pl321) aA h
def C290 (p0:ByteArray)(p1:ByteArray)(w:World)(K:Value->World->Prop):Prop:=
 ae (p0.toList==(⟨#[]⟩:ByteArray).toList)
 (K (.string p0) w)
 (ae (p1.toList==(⟨#[]⟩:ByteArray).toList)
 (K (.string p0) w)
 (dc (Bool×Unit) (λ J1=>ae ((p1.size:Int)==1)
 (ss p1 0 (λ x4=>J1 (decide (x4<128),()) w))
 (J1 (false,()) w))
 (λ _ s2 w3=>ae s2.1
 (su w3 (λ C5=>ss p1 0 (λ x6=>iZ C5 3 [] (.v (.one .str)) (λ w8 k9=>an Tryz.prog 304 #[.string p0,.int .u8 x6] w8 (.v (.one .str)) (λ(bG:ByteArray) bt=>k9 (.string bG) bt))
 (λ(x7:ByteArray)=>ss p1 0 (λ cn=>iZ C5 6 [3] (.v (.one .str)) (λ bY k15=>an Tryz.prog 303 #[.string x7,.int .u8 cn] bY (.v (.one .str)) (λ(bP:ByteArray) da=>k15 (.string bP) da))
 (λ(cA:ByteArray)=>(∀ b9,C5 (mem [3,6]) b9->K (.string cA) b9)))))))
 (an Tryz.prog 305 #[.string p1] w3 (.bR [.arr,.one .bool]) (λ(cJ:List Value×Bool×Unit) bW=>aC (.cells #[.bool false,.bool false,.bool false,.bool false,.bool false,.bool false,.bool false,.bool false,.bool false,.bool false,.bool false,.bool false,.bool false,.bool false,.bool false,.bool false,.bool false,.bool false,.bool false,.bool false,.bool false,.bool false,.bool false,.bool false,.bool false,.bool false,.bool false,.bool false,.bool false,.bool false,.bool false,.bool false,.bool false,.bool false,.bool false,.bool false,.bool false,.bool false,.bool false,.bool false,.bool false,.bool false,.bool false,.bool false,.bool false,.bool false,.bool false,.bool false,.bool false,.bool false,.bool false,.bool false,.bool false,.bool false,.bool false,.bool false,.bool false,.bool false,.bool false,.bool false,.bool false,.bool false,.bool false,.bool false,.bool false,.bool false,.bool false,.bool false,.bool false,.bool false,.bool false,.bool false,.bool false,.bool false,.bool false,.bool false,.bool false,.bool false,.bool false,.bool false,.bool false,.bool false,.bool false,.bool false,.bool false,.bool false,.bool false,.bool false,.bool false,.bool false,.bool false,.bool false,.bool false,.bool false,.bool false,.bool false,.bool false,.bool false,.bool false,.bool false,.bool false,.bool false,.bool false,.bool false,.bool false,.bool false,.bool false,.bool false,.bool false,.bool false,.bool false,.bool false,.bool false,.bool false,.bool false,.bool false,.bool false,.bool false,.bool false,.bool false,.bool false,.bool false,.bool false,.bool false,.bool false,.bool false,.bool false,.bool false,.bool false,.bool false,.bool false,.bool false,.bool false,.bool false,.bool false,.bool false,.bool false,.bool false,.bool false,.bool false,.bool false,.bool false,.bool false,.bool false,.bool false,.bool false,.bool false,.bool false,.bool false,.bool false,.bool false,.bool false,.bool false,.bool false,.bool false,.bool false,.bool false,.bool false,.bool false,.bool false,.bool false,.bool false,.bool false,.bool false,.bool false,.bool false,.bool false,.bool false,.bool false,.bool false,.bool false,.bool false,.bool false,.bool false,.bool false,.bool false,.bool false,.bool false,.bool false,.bool false,.bool false,.bool false,.bool false,.bool false,.bool false,.bool false,.bool false,.bool false,.bool false,.bool false,.bool false,.bool false,.bool false,.bool false,.bool false,.bool false,.bool false,.bool false,.bool false,.bool false,.bool false,.bool false,.bool false,.bool false,.bool false,.bool false,.bool false,.bool false,.bool false,.bool false,.bool false,.bool false,.bool false,.bool false,.bool false,.bool false,.bool false,.bool false,.bool false,.bool false,.bool false,.bool false,.bool false,.bool false,.bool false,.bool false,.bool false,.bool false,.bool false,.bool false,.bool false,.bool false,.bool false,.bool false,.bool false,.bool false,.bool false,.bool false,.bool false,.bool false,.bool false,.bool false,.bool false,.bool false,.bool false,.bool false,.bool false,.bool false,.bool false,.bool false,.bool false,.bool false,.bool false,.bool false,.bool false,.bool false] 440) bW (λ g21 cH=>nE (cJ.1.length=256) (aG (ad g21) cJ.1 cH (λ dM=>ae cJ.2.1
 (an Tryz.prog 307 #[.string p0,.pointer (some (ad g21))] dM (.v (.one .str)) (λ(dr:ByteArray) eJ=>an Tryz.prog 306 #[.string dr,.pointer (some (ad g21))] eJ (.v (.one .str)) (λ(eX:ByteArray) gD=>K (.string eX) gD)))
 (an Tryz.prog 309 #[.string p0,.string p1] dM (.v (.one .str)) (λ(ji:ByteArray) gr=>an Tryz.prog 308 #[.string ji,.string p1] gr (.v (.one .str)) (λ(gB:ByteArray) gZ=>K (.string gB) gZ)))))))))))
def pl290:aN:=(.seq .auto (.seq .auto (.seq (.join [(21,.one .bool)] .auto (.cond (.seq (.any [(3,.v (.one .str)),(6,.v (.one .str))]) .auto) .auto)) .auto)))
theorem c290 (p0 p1 w K)(h:C290 p0 p1 w K):au 290 #[.string p0,.string p1] w K:=aQ Tryz.func290 (p:=pl290) aA h
def C305 (p0:ay)(w:ah)(K:aP):Prop:=
 aC (.cells #[.bool false,.bool false,.bool false,.bool false,.bool false,.bool false,.bool false,.bool false,.bool false,.bool false,.bool false,.bool false,.bool false,.bool false,.bool false,.bool false,.bool false,.bool false,.bool false,.bool false,.bool false,.bool false,.bool false,.bool false,.bool false,.bool false,.bool false,.bool false,.bool false,.bool false,.bool false,.bool false,.bool false,.bool false,.bool false,.bool false,.bool false,.bool false,.bool false,.bool false,.bool false,.bool false,.bool false,.bool false,.bool false,.bool false,.bool false,.bool false,.bool false,.bool false,.bool false,.bool false,.bool false,.bool false,.bool false,.bool false,.bool false,.bool false,.bool false,.bool false,.bool false,.bool false,.bool false,.bool false,.bool false,.bool false,.bool false,.bool false,.bool false,.bool false,.bool false,.bool false,.bool false,.bool false,.bool false,.bool false,.bool false,.bool false,.bool false,.bool false,.bool false,.bool false,.bool false,.bool false,.bool false,.bool false,.bool false,.bool false,.bool false,.bool false,.bool false,.bool false,.bool false,.bool false,.bool false,.bool false,.bool false,.bool false,.bool false,.bool false,.bool false,.bool false,.bool false,.bool false,.bool false,.bool false,.bool false,.bool false,.bool false,.bool false,.bool false,.bool false,.bool false,.bool false,.bool false,.bool false,.bool false,.bool false,.bool false,.bool false,.bool false,.bool false,.bool false,.bool false,.bool false,.bool false,.bool false,.bool false,.bool false,.bool false,.bool false,.bool false,.bool false,.bool false,.bool false,.bool false,.bool false,.bool false,.bool false,.bool false,.bool false,.bool false,.bool false,.bool false,.bool false,.bool false,.bool false,.bool false,.bool false,.bool false,.bool false,.bool false,.bool false,.bool false,.bool false,.bool false,.bool false,.bool false,.bool false,.bool false,.bool false,.bool false,.bool false,.bool false,.bool false,.bool false,.bool false,.bool false,.bool false,.bool false,.bool false,.bool false,.bool false,.bool false,.bool false,.bool false,.bool false,.bool false,.bool false,.bool false,.bool false,.bool false,.bool false,.bool false,.bool false,.bool false,.bool false,.bool false,.bool false,.bool false,.bool false,.bool false,.bool false,.bool false,.bool false,.bool false,.bool false,.bool false,.bool false,.bool false,.bool false,.bool false,.bool false,.bool false,.bool false,.bool false,.bool false,.bool false,.bool false,.bool false,.bool false,.bool false,.bool false,.bool false,.bool false,.bool false,.bool false,.bool false,.bool false,.bool false,.bool false,.bool false,.bool false,.bool false,.bool false,.bool false,.bool false,.bool false,.bool false,.bool false,.bool false,.bool false,.bool false,.bool false,.bool false,.bool false,.bool false,.bool false,.bool false,.bool false,.bool false,.bool false,.bool false,.bool false,.bool false,.bool false,.bool false,.bool false,.bool false,.bool false,.bool false,.bool false,.bool false,.bool false,.bool false,.bool false] 440) w (λ g1 w2=>cp (Int×Unit) (λ _ s3 w4 nT=>ae (decide (s3.1<(p0.size:Int)))
 (ss p0 s3.1 (λ x6=>ae (decide (x6 >= 128))
 (fL 256 (ad g1) w4 (λ x7=>nE (x7.length=256) (aG (ad g1) x7 w4 (λ w8=>fL 256 (ad g1) w8 (λ x9=>K (.tuple #[.agg x9.toArray,.bool false]) w8)))))
 (y7 (ad g1) 256 x6 1 (λ tU=>aK tU (.bool true) w4 (λ bt=>nT (IntKind.i64.wrap (s3.1+1),()) bt)))))
 (fL 256 (ad g1) w4 (λ cn=>nE (cn.length=256) (aG (ad g1) cn w4 (λ bM=>fL 256 (ad g1) bM (λ cj=>K (.tuple #[.agg cj.toArray,.bool true]) bM))))))
 (0,()) w2)
def pl305:aN:=(.seq .auto (.seq (.seq .auto (.block (.loop [(4,.one (.int .i64))] .auto))) .auto))
theorem c305 (p0 w K)(h:C305 p0 w K):au 305 #[.string p0] w K:=aQ Tryz.func305 (p:=pl305) aA h
def C306 (p0:ay)(p1:Addr)(w:ah)(K:aP):Prop:=
 cp (ay×Unit) (λ _ s1 w2 jh=>ae (decide ((s1.1.size:Int) > 0))
 (ss s1.1 0 (λ x4=>ak 322 #[aI p1,.int .u8 x4] w2 bK (λ(x5:Bool) w6=>ae (!x5)
 (K (.string s1.1) w6)
 (y8 s1.1 1 s1.1.size (λ x7=>jh (x7,()) w6)))))
 (K (.string s1.1) w2))
 (p0,()) w
def pl306:aN:=(.seq .auto (.seq (.block (.loop [(0,.one .str)] .auto)) .auto))
theorem c306 (p0 p1 w K)(h:C306 p0 p1 w K):au 306 #[.string p0,aI p1] w K:=aQ Tryz.func306 (p:=pl306) aA h
def C307 (p0:ay)(p1:Addr)(w:ah)(K:aP):Prop:=
 cp (ay×Unit) (λ _ s1 w2 jh=>ae (decide ((s1.1.size:Int) > 0))
 (ss s1.1 (IntKind.i64.wrap ((s1.1.size:Int) - 1)) (λ x4=>ak 322 #[aI p1,.int .u8 x4] w2 bK (λ(x5:Bool) w6=>ae (!x5)
 (K (.string s1.1) w6)
 (y8 s1.1 0 (IntKind.i64.wrap ((s1.1.size:Int) - 1)) (λ x7=>jh (x7,()) w6)))))
 (K (.string s1.1) w2))
 (p0,()) w
def pl307:aN:=(.seq .auto (.seq (.block (.loop [(0,.one .str)] .auto)) .auto))
theorem c307 (p0 p1 w K)(h:C307 p0 p1 w K):au 307 #[.string p0,aI p1] w K:=aQ Tryz.func307 (p:=pl307) aA h
def C322 (p0:Addr)(p1:Int)(w:ah)(K:aP):Prop:=
 y7 p0 256 p1 1 (λ a1=>af .bool a1 w (λ(x2:Bool)=>K (.bool x2) w))
def pl322:aN:=.auto
theorem c322 (p0 p1 w K)(h:C322 p0 p1 w K):au 322 #[aI p0,.int .u8 p1] w K:=aQ Tryz.func322 (p:=pl322) aA h
def C291 (p0:ay)(w:ah)(K:aP):Prop:=
 ak 310 #[.string p0] w (.bR [.one (.int .i64),.one .raw]) (λ(x1:Int×av×Unit) w2=>aT (do eqGuard .neq 426 (.tmp 11) (.const .nilIface) x1.2.1 .nilIface;binOp .neq 426 x1.2.1 .nilIface) w2 bK (λ(x3:Bool) w4=>ae x3
 (ak 311 #[.string (⟨#[65,116,111,105]⟩:ay),.string p0,aa 0,aa 0,x1.2.1] w4 (.v (.one .raw)) (λ(x5:av) w6=>K (.tuple #[aa x1.1,x5]) w6))
 (K (.tuple #[aa x1.1,.nilIface]) w4)))
def pl291:aN:=.auto
theorem c291 (p0 w K)(h:C291 p0 w K):au 291 #[.string p0] w K:=aQ Tryz.func291 (p:=pl291) aA h
def C310 (p0:ay)(w:ah)(K:aP):Prop:=
 dc (Bool×Unit) (λ J1=>ae (decide ((0:Int)<(p0.size:Int)))
 (J1 (decide ((p0.size:Int)<19),()) w)
 (J1 (false,()) w))
 (λ _ s2 w3=>ae s2.1
 (dc (ay×Unit) (λ J4=>dc (Bool×Unit) (λ J7=>ss p0 0 (λ bG=>ae (bG==45)
 (J7 (true,()) w3)
 (ss p0 0 (λ bQ=>J7 ((bQ==43),()) w3))))
 (λ _ s8 w9=>ae s8.1
 (y8 p0 1 p0.size (λ cn=>ae (decide ((cn.size:Int)<1))
 (K (.tuple #[aa 0,.iface 459 (aa 2)]) w9)
 (J4 (cn,()) w9)))
 (J4 (p0,()) w9)))
 (λ _ s5 w6=>aT (convert 9 22 (.string s5.1)) w6 aM (λ(cA:aB) bY=>cp (Int×Int×Unit) (λ _ pM bV zO=>ae (decide (pM.2.1<(cA.2.1:Int)))
 (cz cA.1 cA.2.1 pM.2.1 1 (λ wF=>af (.int .u8) wF bV (λ(cJ:Int)=>ae (decide ((IntKind.u8.wrap (cJ - 48)) > 9))
 (K (.tuple #[aa 0,.iface 459 (aa 2)]) bV)
 (zO (IntKind.i64.wrap ((IntKind.i64.wrap (pM.1 * 10))+(IntKind.i64.wrap (IntKind.u8.wrap (cJ - 48)))),IntKind.i64.wrap (pM.2.1+1),()) bV))))
 (ss p0 0 (λ dE=>ae (dE==45)
 (K (.tuple #[aa (IntKind.i64.wrap (0 - pM.1)),.nilIface]) bV)
 (K (.tuple #[aa pM.1,.nilIface]) bV))))
 (0,0,()) bY)))
 (ak 326 #[.string p0,aa 10,aa 0] w3 (.bR [.one (.int .i64),.one .raw]) (λ(du:Int×av×Unit) cH=>K (.tuple #[aa du.1,du.2.1]) cH)))
def pl310:aN:=(.seq .auto (.seq .auto (.seq (.join [(30,.one .bool)] .auto (.cond (.seq .auto (.join [(0,.one .str)] (.join [(39,.one .bool)] .auto .auto) (.seq .auto (.seq (.seq .auto (.block (.loop [(6,.one (.int .i64)),(49,.one (.int .i64))] .auto))) .auto)))) .auto)) .auto)))
theorem c310 (p0 w K)(h:C310 p0 w K):au 310 #[.string p0] w K:=aQ Tryz.func310 (p:=pl310) aA h
def C281 (p0:ay)(w:ah)(K:aP):Prop:=
 ak 289 #[.string p0,.string (⟨#[45]⟩:ay)] w eu (λ(x1:ay) w2=>dc (Bool×Unit) (λ J3=>ae (x1.toList==(⟨#[]⟩:ay).toList)
 (J3 (true,()) w2)
 (ae (decide ((x1.size:Int) > 13))
 (J3 (true,()) w2)
 (ak 290 #[.string x1,.string (⟨#[48,49,50,51,52,53,54,55,56,57]⟩:ay)] w2 eu (λ(x6:ay) w7=>ae (!(x6.toList==(⟨#[]⟩:ay).toList))
 (J3 (true,()) w7)
 (ss x1 0 (λ x8=>ae (x8==48)
 (J3 ((!(p0.toList==(⟨#[48]⟩:ay).toList)),()) w7)
 (J3 (false,()) w7)))))))
 (λ _ s4 w5=>ae s4.1
 (K (.tuple #[aa 0,.bool false]) w5)
 (ak 291 #[.string p0] w5 (.bR [.one (.int .i64),.one .raw]) (λ(x9:Int×av×Unit) aX=>aT (do eqGuard .neq 426 (.tmp 35) (.const .nilIface) x9.2.1 .nilIface;binOp .neq 426 x9.2.1 .nilIface) aX bK (λ(bQ:Bool) br=>ae bQ
 (K (.tuple #[aa 0,.bool false]) br)
 (ae (decide (x9.1<(-1000000000000)))
 (K (.tuple #[aa 0,.bool false]) br)
 (ae (decide (x9.1 > 1000000000000))
 (K (.tuple #[aa 0,.bool false]) br)
 (K (.tuple #[aa x9.1,.bool true]) br))))))))
def pl281:aN:=(.seq .auto (.seq .auto (.seq (.join [(29,.one .bool)] .auto .auto) .auto)))
theorem c281 (p0 w K)(h:C281 p0 w K):au 281 #[.string p0] w K:=aQ Tryz.func281 (p:=pl281) aA h
end Go.Proofs.YtfolkckcakndkaaGreatDoor
