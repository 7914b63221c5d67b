/-
  Texts of this claim, put together: Shelf, EventSpec, RuneSl, CPackE, PackSpec, TermV, CObsG, ObsSpec, CTermG, TermSpec, CWriteG, WriteSpec, RuneSpec, CStrLib, CNumG.
  Conditions: those of each theorem.
-/
import Derived.Test.YtmkehncgjnhhcaaGreatDoorQNL23x0
import Derived.KernelRfl
import Derived.Laws.StructEq
import Derived.Shelf.Bytes.SlEqualAll
import Derived.Shelf.Bytes.Small
import Derived.Shelf.LaysM
import Derived.Shelf.SlMaps.Clone
import Derived.Shelf.Small.Strs
import Derived.Shelf.Small.Utf8
import Derived.Shelf.Strconv.Itoa0
import Derived.Shelf.Strconv.Itoa1
import Derived.Shelf.Strconv.Itoa2
import Derived.Shelf.Strconv.Itoa3
import Derived.Shelf.Strings.AsciiSet
import Derived.Shelf.Strings.Builder1
import Derived.Shelf.Strings.Builder2
import Derived.Shelf.Strings.OnBuilder
import Derived.Shelf.Strings.Runes
import Derived.Shelf.Strings.Search1
import Derived.Shelf.Strings.Search2
import Derived.Shelf.Strings.Search3
import Derived.Shelf.Strings.Shaped
import Derived.Shelf.Unicode.DecodeSlow
import Derived.Shelf.Utf8.RuneCount
import Derived.Test.YtmkehncgjnhhcaaGreatDoorProg
namespace Go.Proofs.YtmkehncgjnhhcaaGreatDoor
open Go.Shelf
def Tryz.JL:Go.Shelf.Ren:=⟨fun | 156=>249 | 165=>266 | 166=>267 | 169=>268 | 240=>293 | 241=>294 | 276=>312 | 277=>313 | n=>n,fun | 31=>51 | 9=>9 | 3=>3 | 4=>4 | 0=>0 | 20=>20 | 72=>420 | 76=>423 | 70=>418 | 37=>22 | 75=>422 | 127=>444 | 164=>459 | 5=>5 | 80=>344 | n=>n,fun | n=>n⟩
theorem Tryz.Ra:Go.Proofs.Lays.n156 Tryz.prog Tryz.JL:={
 mixed:=by kernel_rfl
 f156:=Tryz.func249.trans (congrArg some (by kernel_rfl))
 f165:=Tryz.func266.trans (congrArg some (by kernel_rfl))
 f166:=Tryz.func267.trans (congrArg some (by kernel_rfl))
 f169:=Tryz.func268.trans (congrArg some (by kernel_rfl))
 f240:=Tryz.func293.trans (congrArg some (by kernel_rfl))
 f241:=Tryz.func294.trans (congrArg some (by kernel_rfl))
 f276:=Tryz.func312.trans (congrArg some (by kernel_rfl))
 f277:=Tryz.func313.trans (congrArg some (by kernel_rfl))
 t0:=Tryz.underlying0
 a0:=Tryz.isAgg0
 z0:=Tryz.sizeOf0
 v0:=Tryz.zeroValue0
 t3:=Tryz.underlying3
 a3:=Tryz.isAgg3
 z3:=Tryz.sizeOf3
 v3:=Tryz.zeroValue3
 t4:=Tryz.underlying4
 a4:=Tryz.isAgg4
 z4:=Tryz.sizeOf4
 v4:=Tryz.zeroValue4
 t9:=Tryz.underlying9
 a9:=Tryz.isAgg9
 z9:=Tryz.sizeOf9
 v9:=Tryz.zeroValue9
 t20:=Tryz.underlying20
 a20:=Tryz.isAgg20
 z20:=Tryz.sizeOf20
 v20:=Tryz.zeroValue20
 t31:=Tryz.underlying51
 a31:=Tryz.isAgg51
 z31:=Tryz.sizeOf51
 v31:=Tryz.zeroValue51
 t37:=Tryz.underlying22
 a37:=Tryz.isAgg22
 z37:=Tryz.sizeOf22
 v37:=Tryz.zeroValue22
 t70:=Tryz.underlying418
 a70:=Tryz.isAgg418
 z70:=Tryz.sizeOf418
 v70:=Tryz.zeroValue418
 t72:=Tryz.underlying420
 a72:=Tryz.isAgg420
 z72:=Tryz.sizeOf420
 v72:=Tryz.zeroValue420
 t75:=Tryz.underlying422
 a75:=Tryz.isAgg422
 z75:=Tryz.sizeOf422
 v75:=Tryz.zeroValue422
 t76:=Tryz.underlying423
 a76:=Tryz.isAgg423
 z76:=Tryz.sizeOf423
 v76:=Tryz.zeroValue423
 t127:=Tryz.underlying444
 a127:=Tryz.isAgg444
 z127:=Tryz.sizeOf444
 v127:=Tryz.zeroValue444
 t164:=Tryz.underlying459
 a164:=Tryz.isAgg459
 z164:=Tryz.sizeOf459
 v164:=Tryz.zeroValue459 }
theorem Tryz.Rb:Builder.Extra Tryz.prog Tryz.JL:={
 sizeBuilder:=by kernel_rfl
 liesBuilder:=by kernel_rfl
 t5:=Tryz.underlying5
 a5:=Tryz.isAgg5
 z5:=Tryz.sizeOf5
 v5:=Tryz.zeroValue5
 infoByte:=by kernel_rfl
 cellsByte:=by kernel_rfl
 sizeByte:=by kernel_rfl
 neB5:=by decide }
open Go.RowKit in
theorem Tryz.strings_Join (bk o c:Nat)(xs:List ByteArray)(sep:ByteArray)(w:World)(tP:∀ (j:Nat) x,xs[j]? = some x->w.cell? ⟨bk,o+j,none⟩=some (.string x))(vu:bk<w.heap.size)(hN:xs.length<=140737488355328)(vw:xs.length<=c)(hlen:(Lib.join (xs.map (·.data.toList)) sep.data.toList).length<=140737488355328):
  Calls Tryz.prog 249 #[.slice (some ⟨bk,o,none⟩) xs.length c,.string sep] w fun e w'=>e=.returned (.string ⟨(Lib.join (xs.map (·.data.toList)) sep.data.toList).toArray⟩)/\Below w.heap.size w w':=Any.strings_Join Tryz.Ra Tryz.Rb bk o c xs sep w tP vu hN vw hlen
def Tryz.Rc:Go.Shelf.Ren:=⟨fun | 195=>270 | n=>n,fun | 9=>9 | 3=>3 | 0=>0 | 4=>4 | n=>n,fun | n=>n⟩
theorem Tryz.Rd:Go.Proofs.Lays.n195 Tryz.prog Tryz.Rc:={
 mixed:=by kernel_rfl
 f195:=Tryz.func270.trans (congrArg some (by kernel_rfl))
 t0:=Tryz.underlying0
 a0:=Tryz.isAgg0
 z0:=Tryz.sizeOf0
 v0:=Tryz.zeroValue0
 t3:=Tryz.underlying3
 a3:=Tryz.isAgg3
 z3:=Tryz.sizeOf3
 v3:=Tryz.zeroValue3
 t4:=Tryz.underlying4
 a4:=Tryz.isAgg4
 z4:=Tryz.sizeOf4
 v4:=Tryz.zeroValue4
 t9:=Tryz.underlying9
 a9:=Tryz.isAgg9
 z9:=Tryz.sizeOf9
 v9:=Tryz.zeroValue9 }
open Go.RowKit in
theorem Tryz.utf8_RuneCountInString (s:ByteArray)(w:World)(hs:s.size<9223372036854775807):
  Calls Tryz.prog 270 #[.string s] w fun e w'=>e=.returned (.int .i64 (Lib.runeCount s))/\∃ pos,w'=w.iter s pos:=Any.utf8_RuneCountInString Tryz.Rd s w hs
def Tryz.Re:Go.Shelf.Ren:=⟨fun | 171=>220 | 243=>250 | 246=>269 | 283=>295 | 284=>296 | 285=>297 | 286=>298 | 129=>315 | 317=>314 | 318=>316 | 319=>317 | 320=>318 | 337=>327 | 338=>328 | n=>n,fun | 3=>3 | 9=>9 | 2=>2 | 4=>4 | 171=>445 | 0=>0 | 53=>40 | 37=>22 | 5=>5 | 173=>448 | 212=>461 | 51=>455 | 20=>20 | 213=>462 | 46=>125 | 232=>484 | 233=>485 | n=>n,fun | 17=>1 | 18=>2 | 19=>3 | n=>n⟩
theorem Tryz.Rf:Go.Proofs.LaysM.n171 Tryz.prog Tryz.Re:={
 mixed:=by kernel_rfl
 f129:=Tryz.func315.trans (congrArg some (by kernel_rfl))
 f171:=Tryz.func220.trans (congrArg some (by kernel_rfl))
 f243:=Tryz.func250.trans (congrArg some (by kernel_rfl))
 f246:=Tryz.func269.trans (congrArg some (by kernel_rfl))
 f283:=Tryz.func295.trans (congrArg some (by kernel_rfl))
 f284:=Tryz.func296.trans (congrArg some (by kernel_rfl))
 f285:=Tryz.func297.trans (congrArg some (by kernel_rfl))
 f286:=Tryz.func298.trans (congrArg some (by kernel_rfl))
 f317:=Tryz.func314.trans (congrArg some (by kernel_rfl))
 f318:=Tryz.func316.trans (congrArg some (by kernel_rfl))
 f319:=Tryz.func317.trans (congrArg some (by kernel_rfl))
 f320:=Tryz.func318.trans (congrArg some (by kernel_rfl))
 f337:=Tryz.func327.trans (congrArg some (by kernel_rfl))
 f338:=Tryz.func328.trans (congrArg some (by kernel_rfl))
 t0:=Tryz.underlying0
 a0:=Tryz.isAgg0
 z0:=Tryz.sizeOf0
 v0:=Tryz.zeroValue0
 t2:=Tryz.underlying2
 a2:=Tryz.isAgg2
 z2:=Tryz.sizeOf2
 v2:=Tryz.zeroValue2
 t3:=Tryz.underlying3
 a3:=Tryz.isAgg3
 z3:=Tryz.sizeOf3
 v3:=Tryz.zeroValue3
 t4:=Tryz.underlying4
 a4:=Tryz.isAgg4
 z4:=Tryz.sizeOf4
 v4:=Tryz.zeroValue4
 t5:=Tryz.underlying5
 a5:=Tryz.isAgg5
 z5:=Tryz.sizeOf5
 v5:=Tryz.zeroValue5
 t9:=Tryz.underlying9
 a9:=Tryz.isAgg9
 z9:=Tryz.sizeOf9
 v9:=Tryz.zeroValue9
 t20:=Tryz.underlying20
 a20:=Tryz.isAgg20
 z20:=Tryz.sizeOf20
 v20:=Tryz.zeroValue20
 t37:=Tryz.underlying22
 a37:=Tryz.isAgg22
 z37:=Tryz.sizeOf22
 v37:=Tryz.zeroValue22
 t46:=Tryz.underlying125
 a46:=Tryz.isAgg125
 z46:=Tryz.sizeOf125
 v46:=Tryz.zeroValue125
 t51:=Tryz.underlying455
 a51:=Tryz.isAgg455
 z51:=Tryz.sizeOf455
 v51:=Tryz.zeroValue455
 t53:=Tryz.underlying40
 a53:=Tryz.isAgg40
 z53:=Tryz.sizeOf40
 v53:=Tryz.zeroValue40
 t171:=Tryz.underlying445
 a171:=Tryz.isAgg445
 z171:=Tryz.sizeOf445
 v171:=Tryz.zeroValue445
 t173:=Tryz.underlying448
 a173:=Tryz.isAgg448
 z173:=Tryz.sizeOf448
 v173:=Tryz.zeroValue448
 t212:=Tryz.underlying461
 a212:=Tryz.isAgg461
 z212:=Tryz.sizeOf461
 v212:=Tryz.zeroValue461
 t213:=Tryz.underlying462
 a213:=Tryz.isAgg462
 z213:=Tryz.sizeOf462
 t232:=Tryz.underlying484
 a232:=Tryz.isAgg484
 z232:=Tryz.sizeOf484
 v232:=Tryz.zeroValue484
 t233:=Tryz.underlying485
 a233:=Tryz.isAgg485
 z233:=Tryz.sizeOf485
 v233:=Tryz.zeroValue485
 g17:=by kernel_rfl
 g18:=by kernel_rfl
 g19:=by kernel_rfl
 i0:=by kernel_rfl
 i2:=by kernel_rfl
 i3:=by kernel_rfl
 i4:=by kernel_rfl
 i5:=by kernel_rfl
 i9:=by kernel_rfl
 i20:=by kernel_rfl
 i37:=by kernel_rfl
 i46:=by kernel_rfl
 i51:=by kernel_rfl
 i53:=by kernel_rfl
 i171:=by kernel_rfl
 i173:=by kernel_rfl
 i212:=by kernel_rfl
 i232:=by kernel_rfl
 i233:=by kernel_rfl
 m17:=by kernel_rfl
 m18:=by kernel_rfl
 m19:=by kernel_rfl }
open Go.RowKit Go.Sort Go.Lib in
theorem Tryz.strconv_Itoa (n : Int)(h0 : -9223372036854775808 <= n)(h1 : n <= 9223372036854775807)(w : World)(htab : Lib.TabIs Tryz.prog w "internal/strconv.uint64pow10" .u64 Lib.pow10Tab):
  Calls Tryz.prog 220 #[.int .i64 n] w fun e w'=>e=.returned (.string ⟨(Lib.itoa n).toArray⟩)/\∃ k os,w'=grow (w.drewN k) os:=Any.strconv_Itoa Tryz.Rf n h0 h1 w htab
open Go.RowKit Go.Sort Go.Lib in
def Tryz.Rg:Go.Shelf.Ren:=⟨fun | 144=>211 | 143=>243 | 219=>262 | 217=>286 | 225=>287 | 224=>288 | 267=>289 | 266=>309 | 314=>310 | n=>n,fun | 9=>9 | 4=>4 | 3=>3 | 5=>5 | 46=>125 | 146=>456 | 51=>455 | n=>n,fun | 1=>0 | n=>n⟩
theorem Tryz.Rh:Go.Proofs.Lays.n144 Tryz.prog Tryz.Rg:={
 mixed:=by kernel_rfl
 f143:=Tryz.func243.trans (congrArg some (by kernel_rfl))
 f144:=Tryz.func211.trans (congrArg some (by kernel_rfl))
 f217:=Tryz.func286.trans (congrArg some (by kernel_rfl))
 f219:=Tryz.func262.trans (congrArg some (by kernel_rfl))
 f224:=Tryz.func288.trans (congrArg some (by kernel_rfl))
 f225:=Tryz.func287.trans (congrArg some (by kernel_rfl))
 f266:=Tryz.func309.trans (congrArg some (by kernel_rfl))
 f267:=Tryz.func289.trans (congrArg some (by kernel_rfl))
 f314:=Tryz.func310.trans (congrArg some (by kernel_rfl))
 t3:=Tryz.underlying3
 a3:=Tryz.isAgg3
 z3:=Tryz.sizeOf3
 v3:=Tryz.zeroValue3
 t4:=Tryz.underlying4
 a4:=Tryz.isAgg4
 z4:=Tryz.sizeOf4
 v4:=Tryz.zeroValue4
 t5:=Tryz.underlying5
 a5:=Tryz.isAgg5
 z5:=Tryz.sizeOf5
 v5:=Tryz.zeroValue5
 t9:=Tryz.underlying9
 a9:=Tryz.isAgg9
 z9:=Tryz.sizeOf9
 v9:=Tryz.zeroValue9
 t46:=Tryz.underlying125
 a46:=Tryz.isAgg125
 z46:=Tryz.sizeOf125
 v46:=Tryz.zeroValue125
 t51:=Tryz.underlying455
 a51:=Tryz.isAgg455
 z51:=Tryz.sizeOf455
 v51:=Tryz.zeroValue455
 t146:=Tryz.underlying456
 a146:=Tryz.isAgg456
 z146:=Tryz.sizeOf456
 v146:=Tryz.zeroValue456
 g1:=by kernel_rfl }
open Go.RowKit Go.Lib in
theorem Tryz.strings_Contains_one (s:ByteArray)(c:UInt8)(w:World):
  Calls Tryz.prog 211 #[.string s,.string ⟨#[c]⟩] w fun e w'=>e=.returned (.bool (decide (0<=Lib.indexByte s.data.toList c)))/\w'=w:=Any.strings_Contains_one Tryz.Rh s c w
def Tryz.Ri:Go.Shelf.Ren:=⟨fun | 115=>53 | n=>n,fun | 37=>22 | 4=>4 | 9=>9 | 5=>5 | n=>n,fun | n=>n⟩
theorem Tryz.Rj:Go.Proofs.Lays.n115 Tryz.prog Tryz.Ri:={
 mixed:=by kernel_rfl
 f115:=Tryz.func53.trans (congrArg some (by kernel_rfl))
 t4:=Tryz.underlying4
 a4:=Tryz.isAgg4
 z4:=Tryz.sizeOf4
 v4:=Tryz.zeroValue4
 t9:=Tryz.underlying9
 a9:=Tryz.isAgg9
 z9:=Tryz.sizeOf9
 v9:=Tryz.zeroValue9
 t37:=Tryz.underlying22
 a37:=Tryz.isAgg22
 z37:=Tryz.sizeOf22
 v37:=Tryz.zeroValue22 }
theorem Tryz.bytes_Equal (v1 v2:Value)(xs ys:List Int)(w:World)(h1:(convert 22 9 v1).run Tryz.prog w=.ok (.string (strOfNums xs)) w)(h2:(convert 22 9 v2).run Tryz.prog w=.ok (.string (strOfNums ys)) w):
  Calls Tryz.prog 53 #[v1,v2] w fun e w'=>e=.returned (.bool (Lib.bytesOf xs==Lib.bytesOf ys))/\w'=w:=Any.bytes_Equal Tryz.Rj v1 v2 xs ys w h1 h2
def Tryz.Rl:Go.Shelf.Ren:=⟨fun | 5=>142 | 7=>186 | n=>n,fun | 23=>173 | 25=>266 | 3=>3 | 4=>4 | 20=>20 | n=>n,fun | n=>n⟩
theorem Tryz.Rm:Go.Proofs.SlLaysW.n5 Tryz.prog Tryz.Rl:={
 mixed:=by kernel_rfl
 f5:=⟨Tryz.f142.name,by decide,Tryz.func142.trans (congrArg some (by kernel_rfl))⟩
 f7:=Tryz.func186.trans (congrArg some (by kernel_rfl))
 t4:=Tryz.underlying4
 a4:=Tryz.isAgg4
 z4:=Tryz.sizeOf4
 v4:=Tryz.zeroValue4
 t20:=Tryz.underlying20
 a20:=Tryz.isAgg20
 z20:=Tryz.sizeOf20
 v20:=Tryz.zeroValue20
 t23:=Tryz.underlying173
 a23:=Tryz.isAgg173
 z23:=Tryz.sizeOf173
 v23:=Tryz.zeroValue173 }
theorem Tryz.Rn (b:Nat)(es:Array MapEntry)(clock:Nat)(w:World)(hb:w.heap[b]? = some (.map es clock)):
  Calls Tryz.prog 142 #[.map (some b)] w fun e w'=>e=.returned (.map (some w.heap.size))/\w'=w.alloc (.map es clock):=AnyW.maps_Clone Tryz.Rm b es clock w hb
def Tryz.Ro:Go.Shelf.Ren:=⟨fun | 5=>184 | 7=>186 | n=>n,fun | 23=>321 | 25=>324 | 3=>3 | 4=>4 | 20=>20 | n=>n,fun | n=>n⟩
theorem Tryz.Rp:Go.Proofs.SlLaysW.n5 Tryz.prog Tryz.Ro:={
 mixed:=by kernel_rfl
 f5:=⟨Tryz.f184.name,by decide,Tryz.func184.trans (congrArg some (by kernel_rfl))⟩
 f7:=Tryz.func186.trans (congrArg some (by kernel_rfl))
 t4:=Tryz.underlying4
 a4:=Tryz.isAgg4
 z4:=Tryz.sizeOf4
 v4:=Tryz.zeroValue4
 t20:=Tryz.underlying20
 a20:=Tryz.isAgg20
 z20:=Tryz.sizeOf20
 v20:=Tryz.zeroValue20
 t23:=Tryz.underlying321
 a23:=Tryz.isAgg321
 z23:=Tryz.sizeOf321
 v23:=Tryz.zeroValue321 }
theorem Tryz.Rq (b:Nat)(es:Array MapEntry)(clock:Nat)(w:World)(hb:w.heap[b]? = some (.map es clock)):
  Calls Tryz.prog 184 #[.map (some b)] w fun e w'=>e=.returned (.map (some w.heap.size))/\w'=w.alloc (.map es clock):=AnyW.maps_Clone Tryz.Rp b es clock w hb
def Tryz.Rr:Go.Shelf.Ren:=⟨fun | 5=>185 | 7=>186 | n=>n,fun | 23=>325 | 25=>330 | 3=>332 | 4=>4 | 20=>20 | n=>n,fun | n=>n⟩
theorem Tryz.Rs:Go.Proofs.SlLaysW.n5 Tryz.prog Tryz.Rr:={
 mixed:=by kernel_rfl
 f5:=⟨Tryz.f185.name,by decide,Tryz.func185.trans (congrArg some (by kernel_rfl))⟩
 f7:=Tryz.func186.trans (congrArg some (by kernel_rfl))
 t4:=Tryz.underlying4
 a4:=Tryz.isAgg4
 z4:=Tryz.sizeOf4
 v4:=Tryz.zeroValue4
 t20:=Tryz.underlying20
 a20:=Tryz.isAgg20
 z20:=Tryz.sizeOf20
 v20:=Tryz.zeroValue20
 t23:=Tryz.underlying325
 a23:=Tryz.isAgg325
 z23:=Tryz.sizeOf325
 v23:=Tryz.zeroValue325 }
theorem Tryz.Rt (b:Nat)(es:Array MapEntry)(clock:Nat)(w:World)(hb:w.heap[b]? = some (.map es clock)):
  Calls Tryz.prog 185 #[.map (some b)] w fun e w'=>e=.returned (.map (some w.heap.size))/\w'=w.alloc (.map es clock):=AnyW.maps_Clone Tryz.Rs b es clock w hb
set_option linter.unusedVariables false
set_option maxRecDepth 100000
open Vc
abbrev dz:=Int×ByteArray×ByteArray×ByteArray×ByteArray×Int×Int×Value×Unit
def gV (e:dz):Value:=.agg #[.int .i64 e.1,.string e.2.1,.string e.2.2.1,.string e.2.2.2.1,.string e.2.2.2.2.1,.int .i64 e.2.2.2.2.2.1,.int .i64 e.2.2.2.2.2.2.1,e.2.2.2.2.2.2.2.1]
def fS (k:Int):List UInt8:=
 if k=1 then[] else if k=2 then[73,84] else if k=3 then[78,68,86] else if k=4 then[73,76,86] else if k=5 then[68] else if k=6 then[68,67,86] else[63]
def cI (k:Int)(c:UInt8):Bool:=(fS k).contains c
def oZ (s:ByteArray):Bool:=jN 0 (cA s.data.toList)
def cv (n:Int):Bool:=decide (-1000000000000<=n)&&decide (n<=1000000000000)
def gv:Value->Bool
 | .nilIface=>true
 | _=>false
def o0 (v:Value):Prop:=v=.nilIface\/∃ t u,v=.iface t u
def ix (s:ByteArray):Bool:=s.toList==(⟨#[]⟩:ByteArray).toList
def mA (e:dz):Bool:=
 (ix e.2.1||cI e.1 73)&&(ix e.2.2.1||cI e.1 78)&&(ix e.2.2.2.1||cI e.1 76)&&(ix e.2.2.2.2.1||cI e.1 67) &&
 ((e.2.2.2.2.2.1==0||cI e.1 68)&&(e.2.2.2.2.2.2.1==0||cI e.1 86)&&(gv e.2.2.2.2.2.2.2.1||cI e.1 84))
def ob (e:dz):Bool:=
 (!cI e.1 73||oZ e.2.1)&&(!cI e.1 78||oZ e.2.2.1)&&(!cI e.1 76||oZ e.2.2.2.1)&&(!cI e.1 67||oZ e.2.2.2.2.1)
def mB (e:dz)(tr:Int):Int:=
 if fS e.1=[63] then 1 else if mA e=false then 1 else if ob e=false then 1 else
 if e.2.2.2.2.2.1<0 then 1 else if e.2.2.2.2.2.1 > 10000 then 1 else if cv e.2.2.2.2.2.2.1=false then 1 else
 if e.1=4/\e.2.2.2.2.2.2.1≠0/\e.2.2.2.2.2.2.1≠1 then 1 else if e.1=2 then tr else 0
theorem DR (k:Int)(w:World):Ret Tryz.prog 128 #[.int .i64 k] w fun r w'=>r=.string (str (fS k))/\w=w':=by
 refine c128 k w _ ?_;unfold fS;refine aa.eq (fun h=>?_) (fun h=>?_)
 ·rw[if_pos h];exact⟨rfl,rfl⟩
 rw[if_neg h];refine aa.eq (fun h=>?_) (fun h=>?_)
 ·rw[if_pos h];exact⟨rfl,rfl⟩
 rw[if_neg h];refine aa.eq (fun h=>?_) (fun h=>?_)
 ·rw[if_pos h];exact⟨rfl,rfl⟩
 rw[if_neg h];refine aa.eq (fun h=>?_) (fun h=>?_)
 ·rw[if_pos h];exact⟨rfl,rfl⟩
 rw[if_neg h];refine aa.eq (fun h=>?_) (fun h=>?_)
 ·rw[if_pos h];exact⟨rfl,rfl⟩
 rw[if_neg h];refine aa.eq (fun h=>?_) (fun h=>?_)
 ·rw[if_pos h];exact⟨rfl,rfl⟩
 rw[if_neg h];exact⟨rfl,rfl⟩
theorem qN (n:Int)(w:World):Ret Tryz.prog 131 #[.int .i64 n] w fun r w'=>r=.bool (cv n)/\w=w':=by
 refine c131 n w _ ?_;unfold cv;refine aa.dec (fun h=>?_) (fun h=>?_)
 ·rw[decide_eq_true (p:=-1000000000000<=n) (by omega)];exact⟨rfl,rfl⟩
 ·rw[decide_eq_false (p:=-1000000000000<=n) (by omega)];exact⟨rfl,rfl⟩
theorem JM:∀ (l:List UInt8) (c:UInt8),decide (0<=Lib.indexByte l c)=l.contains c
 | [],c=>by simp[Lib.indexByte]
 | b::l,c=>by
  have ih:=JM l c;have hg:=Lib.indexByte_ge l c;unfold Lib.indexByte;rw[List.contains_cons,<- ih]
  by_cases h:b=c
  ·subst h;simp
  ·have h1:(b==c)=false:=by simpa using h
   have h2:(c==b)=false:=by simpa using fun t=>h t.symm
   rw[h1,h2,Bool.false_or];simp only[Bool.false_eq_true,if_false]
   by_cases hm:Lib.indexByte l c=-1
   ·rw[hm];simp
   ·rw[if_neg (by simpa using hm)]
    exact decide_eq_decide.2 (by omega)
theorem Ru (l:List UInt8)(c:UInt8)(w:World):Ret Tryz.prog 211 #[.string (str l),.string (str [c])] w fun r w'=>r=.bool (l.contains c)/\w=w':=by
 refine(Tryz.strings_Contains_one (str l) c w).mono ?_;rintro e w' ⟨rfl,rfl⟩;refine⟨_,rfl,?_,rfl⟩;rw[jM,JM]
theorem xQ (k:Int)(c:UInt8)(w:World):Ret Tryz.prog 168 #[.int .i64 k,.string (str [c])] w fun r w'=>r=.bool (cI k c)/\w=w':=by
 refine c168 k _ w _ ?_;refine ab.of (DR k w) ?_;rintro _ _ ⟨rfl,rfl⟩;refine⟨_,rfl,?_⟩;refine ab.of (Ru _ c w) ?_;rintro _ _ ⟨rfl,rfl⟩;exact⟨_,rfl,rfl,rfl⟩
theorem nil_eq {t:TypeId}(ht:∃ ms,Tryz.prog.underlying t=some (.interface ms))(o:Operand){v:Value}(hv:o0 v)(w:World):
  (do eqGuard .eql t o (.const .nilIface) v .nilIface;binOp .eql t v .nilIface:Sem Value).run Tryz.prog w=.ok (.bool (gv v)) w:=by
 obtain⟨ms,ht⟩:=ht
 rcases hv with rfl | ⟨u,x,rfl⟩
 ·have h1:(eqGuard .eql t o (.const .nilIface) .nilIface .nilIface).run Tryz.prog w=.ok () w:=by
   unfold eqGuard;simp
  rw[Sem.run_bind,h1,Result.andThen_ok];have h2:(Op.equalIn (9999+1) t .nilIface .nilIface).run Tryz.prog w=.ok true w:=by
   unfold Op.equalIn;simp only[Sem.run_bind,under ht,Result.andThen_ok,Sem.run_pure]
  show(do pure (Value.bool (<- Op.equalIn (9999+1) t .nilIface .nilIface)):Sem Value).run Tryz.prog w=_
  rw[Sem.run_bind,h2];rfl
 ·have h1:(eqGuard .eql t o (.const .nilIface) (.iface u x) .nilIface).run Tryz.prog w=.ok () w:=by
   unfold eqGuard;rfl
  rw[Sem.run_bind,h1,Result.andThen_ok];have h2:(Op.equalIn (9999+1) t (.iface u x) .nilIface).run Tryz.prog w=.ok false w:=by
   unfold Op.equalIn;simp only[Sem.run_bind,under ht,Result.andThen_ok,Sem.run_pure]
  show(do pure (Value.bool (<- Op.equalIn (9999+1) t (.iface u x) .nilIface)):Sem Value).run Tryz.prog w=_
  rw[Sem.run_bind,h2];rfl
def jc (e:dz):Array MapEntry:=#[⟨.string (str [73]),.string e.2.1,0⟩,⟨.string (str [78]),.string e.2.2.1,1⟩,⟨.string (str [76]),.string e.2.2.2.1,2⟩,⟨.string (str [67]),.string e.2.2.2.2.1,3⟩]
def AH (e:dz):Obj:=.cells #[.int .i64 e.1,.string e.2.1,.string e.2.2.1,.string e.2.2.2.1,.string e.2.2.2.2.1,.int .i64 e.2.2.2.2.2.1,.int .i64 e.2.2.2.2.2.2.1,e.2.2.2.2.2.2.2.1] 36 (0,0)
theorem DS {a b:List UInt8}(h:a≠b):str a≠str b:=fun t=>h (str_inj t)
theorem JN {w:World}{b:Nat}{e:dz}(hb:w.heap[b]? = some (AH e)){K:Option Addr->World->Prop}
  (h:∀ m r w1,w.heap.size<=m->w.heap.size<=r->r≠m->lL w1 r m (jc e) 4 #[]->Fr none1 w w1->w1.heap[b]? = some (AH e)->K (some ⟨r,0,none⟩) w1) :
  aq (.map #[] 0) w (fun g3 w4=>ae .str ((⟨b,0,none⟩:Addr).add 1) w4 (fun(x5:ByteArray)=>iL Tryz.prog (Instr.mapUpdate 293 (.map (some g3)) (.string (⟨#[73]⟩:ByteArray)) (.string x5)) w4 (fun w6=>ae .str ((⟨b,0,none⟩:Addr).add 2) w6 (fun(x7:ByteArray)=>iL Tryz.prog (Instr.mapUpdate 293 (.map (some g3)) (.string (⟨#[78]⟩:ByteArray)) (.string x7)) w6 (fun w8=>ae .str ((⟨b,0,none⟩:Addr).add 3) w8 (fun(x9:ByteArray)=>iL Tryz.prog (Instr.mapUpdate 293 (.map (some g3)) (.string (⟨#[76]⟩:ByteArray)) (.string x9)) w8 (fun aK=>ae .str ((⟨b,0,none⟩:Addr).add 4) aK (fun(aZ:ByteArray)=>iL Tryz.prog (Instr.mapUpdate 293 (.map (some g3)) (.string (⟨#[67]⟩:ByteArray)) (.string aZ)) aK (fun aO=>aw Tryz.prog (Instr.range 293 (.map (some g3))) aO (.v (.one .ptr)) (fun(bC:Option Addr) bu=>K bC bu)))))))))):=by
 have e73:(⟨#[73]⟩:ByteArray)=str [73]:=rfl;have e78:(⟨#[78]⟩:ByteArray)=str [78]:=rfl;have e76:(⟨#[76]⟩:ByteArray)=str [76]:=rfl;have e67:(⟨#[67]⟩:ByteArray)=str [67]:=rfl;rw[e73,e78,e76,e67];have tm:=Tryz.underlying293;have ts:=Tryz.underlying9;have hlb:=cj hb;refine aq.of fun g w1 hg xR f1 jL=>?_;have b1:=f1.af hb;have jA:b≠g:=by omega
 refine ae.ai b1 rfl ?_;refine AE xR _ _ tm ts (by simp) fun w2 Rv f2 _=>?_;have b2:=f2.iX b1 jA;refine ae.ai b2 rfl ?_;refine AE Rv _ _ tm ts (by
  intro x hx;simp at hx;subst hx;exact⟨_,rfl,DS (by decide)⟩) fun w3 Rw f3 _=>?_
 have b3:=f3.iX b2 jA;refine ae.ai b3 rfl ?_;refine AE Rw _ _ tm ts (by
  intro x hx;simp at hx;rcases hx with rfl | rfl<;>exact⟨_,rfl,DS (by decide)⟩) fun w4 Rx f4 _=>?_
 have b4:=f4.iX b3 jA;refine ae.ai b4 rfl ?_;refine AE Rx _ _ tm ts (by
  intro x hx;simp at hx;rcases hx with rfl | rfl | rfl<;>exact⟨_,rfl,DS (by decide)⟩) fun w5 DT f5 _=>?_
 have b5:=f5.iX b4 jA;have f15:Fr none1 w w5:=(((f1.fresh f2 (by omega)).fresh f3 (by omega)).fresh f4 (by omega)).fresh f5 (by omega);have JO:w5.heap[g]? = some (.map (jc e) 4):=DT;refine QW tm JO (by
  intro x hx;simp[jc] at hx;rcases hx with rfl | rfl | rfl | rfl<;>simp) (by simp[jc]) fun r w6 hr hM f6=>?_
 have:=cj JO;have:=f15.size;exact h g r w6 (by omega) (by omega) (by omega) hM (f15.dp f6) (f6.af b5)
theorem JP {e:dz}{seen:Array Nat}{eB:ByteArray->ByteArray->Bool}(hall:∀ x∈(jc e).toList,seen.contains x.born=true->∀ a b,x.key=.string a->x.val=.string b->eB a b=true)
  (hs:∀ x∈(jc e).toList,seen.contains x.born=true):(eB (str [73]) e.2.1&&eB (str [78]) e.2.2.1&&eB (str [76]) e.2.2.2.1&&eB (str [67]) e.2.2.2.2.1)=true:=by
 have g:=fun x hx=>hall x hx (hs x hx);rw[g ⟨.string (str [73]),.string e.2.1,0⟩ (by simp[jc]) _ _ rfl rfl,g ⟨.string (str [78]),.string e.2.2.1,1⟩ (by simp[jc]) _ _ rfl rfl,
  g ⟨.string (str [76]),.string e.2.2.2.1,2⟩ (by simp[jc]) _ _ rfl rfl,g ⟨.string (str [67]),.string e.2.2.2.2.1,3⟩ (by simp[jc]) _ _ rfl rfl]
 rfl
theorem JQ {e:dz}{eB:ByteArray->ByteArray->Bool}{x:MapEntry}{a b:ByteArray}(hx:x∈(jc e).toList)(ha:x.key=.string a)(hb:x.val=.string b)(hg:eB a b=false):
  (eB (str [73]) e.2.1&&eB (str [78]) e.2.2.1&&eB (str [76]) e.2.2.2.1&&eB (str [67]) e.2.2.2.2.1)=false:=by
 simp[jc] at hx
 rcases hx with rfl | rfl | rfl | rfl<;>(injection ha with ha;injection hb with hb;subst ha;subst hb;rw[hg];simp)
theorem JR {e:dz}{x:MapEntry}(hx:x∈(jc e).toList):∃ c b,x.key=.string (str [c])/\x.val=.string b:=by
 simp[jc] at hx
 rcases hx with rfl | rfl | rfl | rfl<;>exact⟨_,_,rfl,rfl⟩
def AI (a:ByteArray):UInt8:=a.data.toList.getD 0 0
theorem vF (c:UInt8):AI (str [c])=c:=by unfold AI;rw[jM];rfl
def Seen (e:dz)(eB:ByteArray->ByteArray->Bool)(seen:Array Nat):Prop:=∀ x∈(jc e).toList,seen.contains x.born=true->∀ a b,x.key=.string a->x.val=.string b->eB a b=true
theorem Ry (e:dz):∀ x∈(jc e).toList,∀ y∈(jc e).toList,x.born=y.born->x=y:=by
 intro x hx y hy h;simp[jc] at hx hy
 rcases hx with rfl | rfl | rfl | rfl<;>rcases hy with rfl | rfl | rfl | rfl<;>first | rfl | (simp at h)
theorem Seen.push {e:dz}{eB:ByteArray->ByteArray->Bool}{seen:Array Nat}(h:Seen e eB seen){x:MapEntry}(hx:x∈(jc e).toList){a b:ByteArray}(ha:x.key=.string a)(hb:x.val=.string b)(hg:eB a b=true):Seen e eB (seen.push x.born):=by
 intro y hy hc a' b' xS gq;rw[contains_push] at hc;cases hs:seen.contains y.born with
 | true=>exact h y hy hs a' b' xS gq
 | false=>
  rw[hs,Bool.false_or] at hc;have:=Ry e y hy x hx (by simpa using hc);subst this;rw[ha] at xS;rw[hb] at gq;injection xS with xS;injection gq with gq
  subst xS;subst gq;exact hg
theorem Seen.none (e:dz)(eB:ByteArray->ByteArray->Bool):Seen e eB #[]:=fun x hx h=>by simp at h
theorem Rz (e:dz)(w:World):Ret Tryz.prog 130 #[gV e] w fun r w'=>r=.bool (ob e)/\Fr none1 w w':=by
 refine c130 e w _ ?_;unfold C130;refine aq.of fun b w1 hb ar f1 _=>?_;refine JN (e:=e) ar fun m r w2 hm hr xJ hM f2 aM=>?_;obtain⟨eB,qO⟩:∃ eB:ByteArray->ByteArray->Bool,eB=fun a s=>!cI e.1 (AI a)||oZ s:=⟨_,rfl⟩;have hN:ob e=(eB (str [73]) e.2.1&&eB (str [78]) e.2.2.1&&eB (str [76]) e.2.2.2.1&&eB (str [67]) e.2.2.2.2.1):=by
  rw[qO];unfold ob;simp only[vF]
 refine bj.of (fun _ w'=>∃ seen,lL w' r m (jc e) 4 seen/\Seen e eB seen/\Fr (only r) w2 w'/\w'.heap[b]? = some (AH e)) (fun _ w'=>vC w' r m) ⟨#[],hM,Seen.none e eB,Fr.refl _ _,aM⟩ ?_;rintro _ _ w3 ⟨seen,DU,hS,f3,ba⟩;have fin:∀ w',Fr (only r) w2 w'->Fr none1 w w':=fun w' f=>(f1.dp f2).fresh f (by have:=f1.size;omega);refine Jw DU xJ (fun x hx hc w4 tW f4 aU DV=>?_) (fun hall=>?_)
 ·refine DV ?_
  obtain⟨c,s,U,hv⟩:=JR hx;dsimp only;rw[U,hv];have dm:=f4.iX ba (by have:=cj ar;have:=f2.size;omega);refine ae.ai dm rfl ?_;refine ab.of (xQ e.1 c w4) ?_;rintro _ _ ⟨rfl,rfl⟩;refine⟨_,rfl,?_⟩;refine aa.by (fun h=>?_) (fun h=>?_)
  ·refine ab.of (by have:=tT s.data.toList w4;rw[Jy] at this;exact this) ?_
   rintro _ w5 ⟨rfl,f5⟩;refine⟨_,rfl,aa.not (aa.by (fun hn=>?_) (fun hn=>?_))⟩
   ·refine⟨⟨_,tW.af f5,hS.push hx U hv ?_,(f3.trans f4).dp f5,f5.af dm⟩,?_⟩
    ·rw[qO];dsimp only;unfold oZ;rw[hn];simp
    ·rw[(tW.af f5).left,<- tW.left];exact aU
   ·refine⟨?_,(fin _ (f3.trans f4)).trans f5⟩
    rw[hN,JQ hx U hv];rw[qO];dsimp only;rw[vF,h];unfold oZ;rw[hn];rfl
  ·refine⟨⟨_,tW,hS.push hx U hv ?_,f3.trans f4,dm⟩,aU⟩
   rw[qO];dsimp only;rw[vF,h];rfl
 ·refine⟨?_,fin _ f3⟩
  rw[hN,JP hS hall]
theorem RA (e:dz)(hT:o0 e.2.2.2.2.2.2.2.1)(w:World):Ret Tryz.prog 129 #[gV e] w fun r w'=>r=.bool (mA e)/\Fr none1 w w':=by
 refine c129 e w _ ?_;unfold C129;refine aq.of fun b w1 hb ar f1 _=>?_;refine JN (e:=e) ar fun m r w2 hm hr xJ hM f2 aM=>?_;obtain⟨eB,qO⟩:∃ eB:ByteArray->ByteArray->Bool,eB=fun a s=>ix s||cI e.1 (AI a):=⟨_,rfl⟩;have hN:mA e=((eB (str [73]) e.2.1&&eB (str [78]) e.2.2.1&&eB (str [76]) e.2.2.2.1&&eB (str [67]) e.2.2.2.2.1) &&
   ((e.2.2.2.2.2.1==0||cI e.1 68)&&(e.2.2.2.2.2.2.1==0||cI e.1 86)&&(gv e.2.2.2.2.2.2.2.1||cI e.1 84))):=by
  rw[qO];unfold mA;simp only[vF]
 refine bj.of (fun _ w'=>∃ seen,lL w' r m (jc e) 4 seen/\Seen e eB seen/\Fr (only r) w2 w'/\w'.heap[b]? = some (AH e)) (fun _ w'=>vC w' r m) ⟨#[],hM,Seen.none e eB,Fr.refl _ _,aM⟩ ?_;rintro _ _ w3 ⟨seen,DU,hS,f3,ba⟩;have fin:∀ w',Fr (only r) w2 w'->Fr none1 w w':=fun w' f=>(f1.dp f2).fresh f (by have:=f1.size;omega);refine Jw DU xJ (fun x hx hc w4 tW f4 aU DV=>?_) (fun hall=>?_)
 ·refine DV ?_
  obtain⟨c,s,U,hv⟩:=JR hx;dsimp only;rw[U,hv];have dm:=f4.iX ba (by have:=cj ar;have:=f2.size;omega);refine aa.by (fun hs=>?_) (fun hs=>?_)
  ·have DW:ix s=false:=by unfold ix;simpa using hs
   refine ae.ai dm rfl ?_;refine ab.of (xQ e.1 c w4) ?_;rintro _ _ ⟨rfl,rfl⟩;refine⟨_,rfl,aa.not (aa.by (fun h=>?_) (fun h=>?_))⟩
   ·refine⟨⟨_,tW,hS.push hx U hv ?_,f3.trans f4,dm⟩,aU⟩
    rw[qO];dsimp only;rw[vF,h];simp
   ·refine⟨?_,fin _ (f3.trans f4)⟩
    rw[hN,JQ hx U hv (by rw[qO];dsimp only;rw[vF,h,DW];rfl)];rfl
  ·have DW:ix s=true:=by unfold ix;simpa using hs
   refine⟨⟨_,tW,hS.push hx U hv ?_,f3.trans f4,dm⟩,aU⟩;rw[qO];dsimp only;rw[DW];rfl
 ·have hg:=JP hS hall
  rw[hN,hg,Bool.true_and];have fr:=fin _ f3;have JS:∀ (d v:Bool),d=true->v=true->ae .raw ((⟨b,0,none⟩:Addr).add 7) w3 (fun(bX:Value)=>aw Tryz.prog (do eqGuard .eql 34 (.tmp 34) (.const .nilIface) bX .nilIface;binOp .eql 34 bX .nilIface) w3 (.v (.one .bool)) (fun(dS:Bool) dy=>aa dS
    ((.bool true:Value)=.bool (d&&v&&(gv e.2.2.2.2.2.2.2.1||cI e.1 84))/\Fr none1 w dy)
    (ae (.int .i64) ((⟨b,0,none⟩:Addr).add 0) dy (fun(ez:Int)=>ab Tryz.prog 168 #[.int .i64 ez,.string (⟨#[84]⟩:ByteArray)] dy (.v (.one .bool)) (fun(de:Bool) cW=>(.bool de:Value)=.bool (d&&v&&(gv e.2.2.2.2.2.2.2.1||cI e.1 84))/\Fr none1 w cW))))):=by
   rintro d v rfl rfl;refine ae.ai ba (x:=e.2.2.2.2.2.2.2.1) rfl ?_;refine⟨gv e.2.2.2.2.2.2.2.1,w3,nil_eq ⟨_,Tryz.underlying34⟩ _ hT w3,?_⟩;refine aa.by (fun h=>?_) (fun h=>?_)
   ·rw[h];exact⟨rfl,fr⟩
   ·refine ae.ai ba rfl ?_
    refine ab.of (xQ e.1 84 w3) ?_;rintro _ _ ⟨rfl,rfl⟩;rw[h];exact⟨_,rfl,by simp,fr⟩
  have hval:∀ d:Bool,d=true->ae (.int .i64) ((⟨b,0,none⟩:Addr).add 6) w3 (fun(dX:Int)=>aa (dX==0)
    (ae .raw ((⟨b,0,none⟩:Addr).add 7) w3 (fun(bX:Value)=>aw Tryz.prog (do eqGuard .eql 34 (.tmp 34) (.const .nilIface) bX .nilIface;binOp .eql 34 bX .nilIface) w3 (.v (.one .bool)) (fun(dS:Bool) dy=>aa dS
     ((.bool true:Value)=.bool (d&&(e.2.2.2.2.2.2.1==0||cI e.1 86)&&(gv e.2.2.2.2.2.2.2.1||cI e.1 84))/\Fr none1 w dy)
     (ae (.int .i64) ((⟨b,0,none⟩:Addr).add 0) dy (fun(ez:Int)=>ab Tryz.prog 168 #[.int .i64 ez,.string (⟨#[84]⟩:ByteArray)] dy (.v (.one .bool)) (fun(de:Bool) cW=>(.bool de:Value)=.bool (d&&(e.2.2.2.2.2.2.1==0||cI e.1 86)&&(gv e.2.2.2.2.2.2.2.1||cI e.1 84))/\Fr none1 w cW))))))
    (ae (.int .i64) ((⟨b,0,none⟩:Addr).add 0) w3 (fun(ij:Int)=>ab Tryz.prog 168 #[.int .i64 ij,.string (⟨#[86]⟩:ByteArray)] w3 (.v (.one .bool)) (fun(dN:Bool) gg=>aa dN
     (ae .raw ((⟨b,0,none⟩:Addr).add 7) gg (fun(iw:Value)=>aw Tryz.prog (do eqGuard .eql 34 (.tmp 34) (.const .nilIface) iw .nilIface;binOp .eql 34 iw .nilIface) gg (.v (.one .bool)) (fun(fN:Bool) eU=>aa fN
      ((.bool true:Value)=.bool (d&&(e.2.2.2.2.2.2.1==0||cI e.1 86)&&(gv e.2.2.2.2.2.2.2.1||cI e.1 84))/\Fr none1 w eU)
      (ae (.int .i64) ((⟨b,0,none⟩:Addr).add 0) eU (fun(jx:Int)=>ab Tryz.prog 168 #[.int .i64 jx,.string (⟨#[84]⟩:ByteArray)] eU (.v (.one .bool)) (fun(kn:Bool) lM=>(.bool kn:Value)=.bool (d&&(e.2.2.2.2.2.2.1==0||cI e.1 86)&&(gv e.2.2.2.2.2.2.2.1||cI e.1 84))/\Fr none1 w lM))))))
     ((.bool false:Value)=.bool (d&&(e.2.2.2.2.2.2.1==0||cI e.1 86)&&(gv e.2.2.2.2.2.2.2.1||cI e.1 84))/\Fr none1 w gg))))):=by
   rintro d rfl;refine ae.ai ba rfl ?_;refine aa.by (fun h=>?_) (fun h=>?_)
   ·exact JS true _ rfl (by rw[h];rfl)
   ·refine ae.ai ba rfl ?_
    refine ab.of (xQ e.1 86 w3) ?_;rintro _ _ ⟨rfl,rfl⟩;refine⟨_,rfl,aa.by (fun h2=>?_) (fun h2=>?_)⟩
    ·exact JS true _ rfl (by rw[h2];simp)
    ·refine⟨?_,fr⟩
     rw[h,h2];rfl
  refine ae.ai ba rfl ?_;refine aa.by (fun h=>?_) (fun h=>?_)
  ·exact hval _ (by rw[h];rfl)
  ·refine ae.ai ba rfl ?_
   refine ab.of (xQ e.1 68 w3) ?_;rintro _ _ ⟨rfl,rfl⟩;refine⟨_,rfl,aa.by (fun h2=>?_) (fun h2=>?_)⟩
   ·exact hval _ (by rw[h2];simp)
   ·refine⟨?_,fr⟩
    rw[h,h2];rfl
theorem DX (e:dz)(hT:o0 e.2.2.2.2.2.2.2.1)(tr:Int)(w:World)
  (ht:e.1=2->∀ w1,Fr none1 w w1->Ret Tryz.prog 132 #[e.2.2.2.2.2.2.2.1] w1 fun r w'=>(∃ s,r=.tuple #[.string s,.int .i64 tr])/\Fr none1 w1 w') :
  Ret Tryz.prog 70 #[gV e] w fun r w'=>r=.int .i64 (mB e tr)/\Fr none1 w w':=by
 refine c70 e w _ ?_;unfold C70;refine aq.of fun b w1 hb ar f1 _=>?_;refine ae.ai ar rfl ?_;refine ab.of (DR e.1 w1) ?_;rintro _ _ ⟨rfl,rfl⟩;refine⟨_,rfl,?_⟩;unfold mB;have e63:(⟨#[63]⟩:ByteArray)=str [63]:=rfl;have RB:((str (fS e.1)).toList==(⟨#[63]⟩:ByteArray).toList)=decide (fS e.1=[63]):=by rw[e63,iv]
 rw[RB];refine aa.dec (fun h=>?_) (fun h=>?_)
 ·rw[if_pos h];exact⟨rfl,f1⟩
 rw[if_neg h];refine az.aG (x:=e) ar ?_;refine ab.of (RA e hT w1) ?_;rintro _ w2 ⟨rfl,f2⟩;refine⟨_,rfl,aa.not (aa.by (fun ho=>?_) (fun ho=>?_))⟩
 case refine_2=>rw[if_pos ho];exact⟨rfl,f1.trans f2⟩
 rw[if_neg (by simp[ho])];have aM:=f2.af ar;refine az.aG (x:=e) aM ?_;refine ab.of (Rz e w2) ?_;rintro _ w3 ⟨rfl,f3⟩;have f13:=(f1.trans f2).trans f3;refine⟨_,rfl,aa.not (aa.by (fun hn=>?_) (fun hn=>?_))⟩
 case refine_2=>rw[if_pos hn];exact⟨rfl,f13⟩
 rw[if_neg (by simp[hn])];have ba:=f3.af aM;refine ae.ai ba (x:=e.2.2.2.2.2.1) rfl ?_;refine aa.dec (fun h=>?_) (fun h=>?_)
 ·rw[if_pos h];exact⟨rfl,f13⟩
 rw[if_neg h];refine ae.ai ba (x:=e.2.2.2.2.2.1) rfl ?_;refine aa.dec (fun h=>?_) (fun h=>?_)
 ·rw[if_pos h];exact⟨rfl,f13⟩
 rw[if_neg h];refine ae.ai ba (x:=e.2.2.2.2.2.2.1) rfl ?_;refine ab.of (qN e.2.2.2.2.2.2.1 w3) ?_;rintro _ _ ⟨rfl,rfl⟩;refine⟨_,rfl,aa.not (aa.by (fun hv=>?_) (fun hv=>?_))⟩
 case refine_2=>rw[if_pos hv];exact⟨rfl,f13⟩
 rw[if_neg (by simp[hv])];refine bQ.of (fun s w'=>s.1=decide (e.1=4/\e.2.2.2.2.2.2.1≠0/\e.2.2.2.2.2.2.1≠1)/\w3=w') ?_ ?_
 ·refine ae.ai ba (x:=e.1) rfl ?_
  refine aa.eq (fun h4=>?_) (fun h4=>?_)
  ·refine ae.ai ba (x:=e.2.2.2.2.2.2.1) rfl ?_
   refine aa.ne (fun h0=>?_) (fun h0=>?_)
   ·refine ae.ai ba (x:=e.2.2.2.2.2.2.1) rfl ⟨?_,rfl⟩
    dsimp only
    by_cases h1:e.2.2.2.2.2.2.1=1
    ·rw[decide_eq_false (fun t=>t.2.2 h1),h1];rfl
    ·rw[decide_eq_true ⟨h4,h0,h1⟩];simpa using h1
   ·exact⟨by dsimp only;rw[decide_eq_false (fun t=>t.2.1 h0)],rfl⟩
  ·exact⟨by dsimp only;rw[decide_eq_false (fun t=>h4 t.1)],rfl⟩
 ·rintro _ ⟨s,_⟩ _ ⟨hs,rfl⟩
  dsimp only at hs ⊢;rw[hs];refine aa.dec (fun h=>?_) (fun h=>?_)
  ·rw[if_pos h];exact⟨rfl,f13⟩
  rw[if_neg h];refine ae.ai ba (x:=e.1) rfl ?_;refine aa.eq (fun h2=>?_) (fun h2=>?_)
  ·rw[if_pos h2]
   refine ae.ai ba (x:=e.2.2.2.2.2.2.2.1) rfl ?_;refine ab.of (ht h2 w3 f13) ?_;rintro _ w4 ⟨⟨s',rfl⟩,f4⟩;exact⟨(s',tr,()),rfl,rfl,f13.trans f4⟩
  ·rw[if_neg h2];exact⟨rfl,f13⟩
theorem RC:gL Tryz.prog 143 21 1 (.int .i32 0) 4:=⟨Tryz.underlying143,⟨Tryz.t21,by kernel_rfl,rfl,rfl,rfl⟩,rfl,by decide⟩
def ku (w:World)(v:Sl)(rs:List Int):Prop:=aD w 21 1 v (rs.map (Value.int .i32))
theorem ku.dM {w:World}{v:Sl}{rs:List Int}(h:ku w v rs):(convert 143 9 (.slice v.1 v.2.1 v.2.2)).run Tryz.prog w=.ok (.string (str (dM rs))) w:=by
 have hr:=aD.rd h;have hl:=aD.len h;rw[List.length_map,Nat.mul_one] at hl;obtain⟨h1,h2,h3⟩:=hr;cases hv:v.1 with
 | none=>
  have:=(h2 hv).2.2;have:rs=[]:=by simpa using this
  subst this;exact run_convert_runes_nil w _ _ _ _ _ Tryz.underlying143 Tryz.underlying21 Tryz.underlying9
 | some a=>
  have hc:=h3 a hv;rw[run_convert_runes w _ _ _ a v.2.1 v.2.2 rs (by omega) Tryz.underlying143 Tryz.underlying21 Tryz.underlying9 (fun j hj=>?_),List.take_of_length_le (by omega),Q8];have:=xF _ 0 j (.int .i32 (rs.getD j 0)) hc (by rw[List.getElem?_map,List.getD_eq_getElem?_getD,List.getElem?_eq_getElem hj];rfl);rwa[Nat.zero_add] at this
theorem RD {w:World}{v:Sl}{rs:List Int}(h:ku w v rs)(c:Int)(hl:rs.length<=1000000){K:Sl->World->Prop}
  (hK:∀ y w',ku w' y (rs++[c])->Fr (au v) w w'->(∀ k,au y k->au v k\/w.heap.size<=k)->K y w') :
  aw Tryz.prog (Instr.buildSlice 143 1 #[(0,.int .i32 c)]) w (.v (.one .ah)) fun(y:Option Addr×Nat×Nat) w'=>
   aw Tryz.prog (Builtin.append_ #[143,143] 143 #[.slice v.1 v.2.1 v.2.2,.slice y.1 y.2.1 y.2.2]) w' (.v (.one .ah)) fun(u:Option Addr×Nat×Nat) nk=>K u nk:=by
 have cC:=aD.len h;rw[List.length_map,Nat.mul_one] at cC;refine Dz RC 143 h (.int .i32 c) rfl rfl (by omega) fun y w' hy _ f yf=>hK y w' ?_ f yf;unfold ku;rw[List.map_append];exact hy
theorem ku.ld {w:World}{v:Sl}{rs:List Int}(h:ku w v rs){i:Int}(h0:0<=i)(h1:i<v.2.1){K:Int->Prop}(k:K (rs.getD i.toNat 0)):bK v.1 v.2.1 i 1 fun p=>ae (.int .i32) p w K:=by
 have hl:=aD.len h;rw[List.length_map,Nat.mul_one] at hl;refine aD.ld h h0 h1 (x:=rs.getD i.toNat 0) ?_ k;rw[List.getElem?_map,List.getD_eq_getElem?_getD,List.getElem?_eq_getElem (by omega)];rfl
theorem ku.len {w:World}{v:Sl}{rs:List Int}(h:ku w v rs):v.2.1=rs.length:=by
 have hl:=aD.len h;rw[List.length_map,Nat.mul_one] at hl;exact hl.symm
def C33 (p0:bH)(w:World)(K:Value->World->Prop):Prop:=
 aq (.cells ((bS p0).toArray) 36) w (fun g1 w2=>az dR (ad g1) w2 (fun(x3:bH)=>ab Tryz.prog 70 #[.agg (bS x3).toArray] w2 (.v (.one (.int .i64))) (fun(x4:Int) w5=>aa (x4 != 0)
 (K (.tuple #[.slice none 0 0,.int .i64 x4]) w5)
 (ae (.int .i64) ((ad g1).add 0) w5 (fun(x6:Int)=>aw Tryz.prog (Instr.buildSlice 22 1 #[(0,.int .u8 (IntKind.u8.wrap x6))]) w5 (.v (.one .ah)) (fun(x7:ao) w8=>ae (.int .i64) ((ad g1).add 0) w8 (fun(x9:Int)=>ab Tryz.prog 71 #[.int .i64 x9] w8 (.v (.one .ah)) (fun(aS:ao) aR=>bj (ao×Int×Unit) (fun _ eW aW xT=>aa (decide (eW.2.1<(aS.2.1:Int)))
 (bK aS.1 aS.2.1 eW.2.1 1 (fun tX=>ae (.int .i32) tX aW (fun(aT:Int)=>az dR (ad g1) aW (fun(aX:bH)=>ab Tryz.prog 72 #[.agg (bS aX).toArray,.int .i32 aT] aW (.aP [.one .ah,.one (.int .i64)]) (fun(bE:ao×Int×Unit) bO=>aa (bE.2.1 != 0)
 (K (.tuple #[.slice none 0 0,.int .i64 bE.2.1]) bO)
 (aw Tryz.prog (Builtin.append_ #[22,22] 22 #[.slice eW.1.1 eW.1.2.1 eW.1.2.2,.slice bE.1.1 bE.1.2.1 bE.1.2.2]) bO (.v (.one .ah)) (fun(cm:ao) bq=>xT ((cm.1,cm.2.1,cm.2.2),IntKind.i64.wrap (eW.2.1+1),()) bq)))))))
 (K (.tuple #[.slice eW.1.1 eW.1.2.1 eW.1.2.2,.int .i64 0]) aW))
 ((x7.1,x7.2.1,x7.2.2),0,()) aR))))))))
def pl33:aB:=(.seq .auto (.seq .auto (.seq .auto (.seq (.seq .auto (.block (.loop [(5,.one .ah),(23,.one (.int .i64))] .auto))) .auto))))
theorem c33 (p0:bH)(w:World)(K:Value->World->Prop)(h:C33 p0 w K):Ret Tryz.prog 33 #[.agg (bS p0).toArray] w K:=aC (by kernel_rfl) Tryz.func33 (p:=pl33) (Eq.mpr (by kernel_rfl) h)
def C71 (p0:Int)(w:World)(K:Value->World->Prop):Prop:=
 aw Tryz.prog (Instr.range 9 (.string (⟨#[73,78,76,67,68,86,84]⟩:ByteArray))) w (.v (.one .ptr)) (fun(x1:Option Addr) w2=>bj (ao×Unit) (fun _ s3 w4 kg=>vh x1 w4 (fun x6 x7 w8=>ab Tryz.prog 128 #[.int .i64 p0] w8 (.v (.one .str)) (fun(x9:ByteArray) aK=>aw Tryz.prog (Instr.range 9 (.string x9)) aK (.v (.one .ptr)) (fun(aZ:Option Addr) aO=>bj (ao×Unit) (fun _ jB bu AJ=>vh aZ bu (fun aT aX bx=>aa (aX==x7)
 (aw Tryz.prog (Instr.buildSlice 143 1 #[(0,.int .i32 x7)]) bx (.v (.one .ah)) (fun(bt:ao) bz=>aw Tryz.prog (Builtin.append_ #[143,143] 143 #[.slice jB.1.1 jB.1.2.1 jB.1.2.2,.slice bt.1 bt.2.1 bt.2.2]) bz (.v (.one .ah)) (fun(b9:ao) bA=>AJ ((b9.1,b9.2.1,b9.2.2),()) bA)))
 (AJ ((jB.1.1,jB.1.2.1,jB.1.2.2),()) bx))
 (kg ((jB.1.1,jB.1.2.1,jB.1.2.2),()) bu))
 ((s3.1.1,s3.1.2.1,s3.1.2.2),()) aO)))
 (K (.slice s3.1.1 s3.1.2.1 s3.1.2.2) w4))
 ((none,0,0),()) w2)
def pl71:aB:=(.seq .auto (.seq .auto (.seq (.seq .auto (.block (.loop [(3,.one .ah)] (.seq .auto (.seq .auto (.block (.seq .auto (.seq .auto (.block (.loop [(3,.one .ah)] .auto)))))))))) .auto)))
theorem c71 (p0:Int)(w:World)(K:Value->World->Prop)(h:C71 p0 w K):Ret Tryz.prog 71 #[.int .i64 p0] w K:=aC (by kernel_rfl) Tryz.func71 (p:=pl71) (Eq.mpr (by kernel_rfl) h)
def C72 (p0:bH)(p1:Int)(w:World)(K:Value->World->Prop):Prop:=
 aq (.cells ((bS p0).toArray) 36) w (fun g1 w2=>aa (p1==68)
 (ae (.int .i64) ((ad g1).add 5) w2 (fun(x3:Int)=>ab Tryz.prog 110 #[.int .i64 x3] w2 (.v (.one .ah)) (fun(x4:ao) w5=>K (.tuple #[.slice x4.1 x4.2.1 x4.2.2,.int .i64 0]) w5)))
 (aa (p1==86)
 (ae (.int .i64) ((ad g1).add 6) w2 (fun(x6:Int)=>ab Tryz.prog 110 #[.int .i64 x6] w2 (.v (.one .ah)) (fun(x7:ao) w8=>K (.tuple #[.slice x7.1 x7.2.1 x7.2.2,.int .i64 0]) w8)))
 (aa (p1==84)
 (ae .raw ((ad g1).add 7) w2 (fun(x9:Value)=>ab Tryz.prog 132 #[x9] w2 (.aP [.one .str,.one (.int .i64)]) (fun(aS:ByteArray×Int×Unit) aR=>lA 8 (aw Tryz.prog (Instr.buildSlice 22 2 #[(0,.int .u8 (IntKind.u8.wrap (Int.fdiv (aS.1.size:Int) (2 ^ (min (Int.toNat 8) 64))))),(1,.int .u8 (IntKind.u8.wrap (aS.1.size:Int)))]) aR (.v (.one .ah)) (fun(bw:ao) aW=>aw Tryz.prog (Builtin.append_ #[22,9] 22 #[.slice bw.1 bw.2.1 bw.2.2,.string aS.1]) aW (.v (.one .ah)) (fun(bn:ao) bL=>K (.tuple #[.slice bn.1 bn.2.1 bn.2.2,.int .i64 aS.2.1]) bL))))))
 (aa (p1==73)
 (ae .str ((ad g1).add 1) w2 (fun(aT:ByteArray)=>aw Tryz.prog (Instr.buildSlice 22 1 #[(0,.int .u8 (IntKind.u8.wrap (aT.size:Int)))]) w2 (.v (.one .ah)) (fun(aX:ao) bx=>aw Tryz.prog (Builtin.append_ #[22,9] 22 #[.slice aX.1 aX.2.1 aX.2.2,.string aT]) bx (.v (.one .ah)) (fun(bt:ao) bz=>K (.tuple #[.slice bt.1 bt.2.1 bt.2.2,.int .i64 0]) bz))))
 (aa (p1==78)
 (ae .str ((ad g1).add 2) w2 (fun(b9:ByteArray)=>aw Tryz.prog (Instr.buildSlice 22 1 #[(0,.int .u8 (IntKind.u8.wrap (b9.size:Int)))]) w2 (.v (.one .ah)) (fun(cr:ao) dW=>aw Tryz.prog (Builtin.append_ #[22,9] 22 #[.slice cr.1 cr.2.1 cr.2.2,.string b9]) dW (.v (.one .ah)) (fun(cN:ao) dn=>K (.tuple #[.slice cN.1 cN.2.1 cN.2.2,.int .i64 0]) dn))))
 (aa (p1==76)
 (ae .str ((ad g1).add 3) w2 (fun(dk:ByteArray)=>aw Tryz.prog (Instr.buildSlice 22 1 #[(0,.int .u8 (IntKind.u8.wrap (dk.size:Int)))]) w2 (.v (.one .ah)) (fun(cE:ao) bV=>aw Tryz.prog (Builtin.append_ #[22,9] 22 #[.slice cE.1 cE.2.1 cE.2.2,.string dk]) bV (.v (.one .ah)) (fun(cH:ao) cn=>K (.tuple #[.slice cH.1 cH.2.1 cH.2.2,.int .i64 0]) cn))))
 (aa (p1==67)
 (ae .str ((ad g1).add 4) w2 (fun(bX:ByteArray)=>aw Tryz.prog (Instr.buildSlice 22 1 #[(0,.int .u8 (IntKind.u8.wrap (bX.size:Int)))]) w2 (.v (.one .ah)) (fun(dS:ao) dy=>aw Tryz.prog (Builtin.append_ #[22,9] 22 #[.slice dS.1 dS.2.1 dS.2.2,.string bX]) dy (.v (.one .ah)) (fun(ez:ao) fz=>K (.tuple #[.slice ez.1 ez.2.1 ez.2.2,.int .i64 0]) fz))))
 (aw Tryz.prog (Instr.buildSlice 22 1 #[(0,.int .u8 (IntKind.u8.wrap ((⟨#[]⟩:ByteArray).size:Int)))]) w2 (.v (.one .ah)) (fun(dO:ao) dq=>aw Tryz.prog (Builtin.append_ #[22,9] 22 #[.slice dO.1 dO.2.1 dO.2.2,.string (⟨#[]⟩:ByteArray)]) dq (.v (.one .ah)) (fun(dN:ao) gg=>K (.tuple #[.slice dN.1 dN.2.1 dN.2.2,.int .i64 0]) gg))))))))))
def pl72:aB:=.auto
theorem c72 (p0:bH)(p1:Int)(w:World)(K:Value->World->Prop)(h:C72 p0 p1 w K):Ret Tryz.prog 72 #[.agg (bS p0).toArray,.int .i32 p1] w K:=aC (by kernel_rfl) Tryz.func72 (p:=pl72) (Eq.mpr (by kernel_rfl) h)
def C153 (p0:iY)(w:World)(K:Value->World->Prop):Prop:=
 aq (.cells ((iO p0).toArray) 110) w (fun g1 w2=>az dR ((ad g1).add 0) w2 (fun(x3:bH)=>ab Tryz.prog 33 #[.agg (bS x3).toArray] w2 (.aP [.one .ah,.one (.int .i64)]) (fun(x4:ao×Int×Unit) w5=>aa (x4.2.1 != 0)
 (K (.tuple #[.slice none 0 0,.int .i64 x4.2.1]) w5)
 (ae .bool ((ad g1).add 8) w5 (fun(x6:Bool)=>aa x6
 (aw Tryz.prog (Instr.buildSlice 22 1 #[(0,.int .u8 1)]) w5 (.v (.one .ah)) (fun(x7:ao) w8=>aw Tryz.prog (Builtin.append_ #[22,22] 22 #[.slice x7.1 x7.2.1 x7.2.2,.slice x4.1.1 x4.1.2.1 x4.1.2.2]) w8 (.v (.one .ah)) (fun(x9:ao) aK=>K (.tuple #[.slice x9.1 x9.2.1 x9.2.2,.int .i64 0]) aK)))
 (aw Tryz.prog (Instr.buildSlice 22 1 #[(0,.int .u8 0)]) w5 (.v (.one .ah)) (fun(aZ:ao) aO=>aw Tryz.prog (Builtin.append_ #[22,22] 22 #[.slice aZ.1 aZ.2.1 aZ.2.2,.slice x4.1.1 x4.1.2.1 x4.1.2.2]) aO (.v (.one .ah)) (fun(bC:ao) bu=>K (.tuple #[.slice bC.1 bC.2.1 bC.2.2,.int .i64 0]) bu))))))))
def pl153:aB:=.auto
theorem c153 (p0:iY)(w:World)(K:Value->World->Prop)(h:C153 p0 w K):Ret Tryz.prog 153 #[.agg (iO p0).toArray] w K:=aC (by kernel_rfl) Tryz.func153 (p:=pl153) (Eq.mpr (by kernel_rfl) h)
def dA (b:UInt8):Int:=(b.toNat:Int)
def o6:List UInt8:=[73,78,76,67,68,86,84]
def dZ (k:Int):List UInt8:=o6.filter (cI k)
def jO (s:List UInt8):List UInt8:=UInt8.ofNat (s.length % 256)::s
def sk (e:dz)(c:UInt8):ByteArray:=if c=73 then e.2.1 else if c=78 then e.2.2.1 else if c=76 then e.2.2.2.1 else if c=67 then e.2.2.2.2.1 else(⟨#[]⟩:ByteArray)
def eH (e:dz)(ts:List UInt8)(c:UInt8):List UInt8:=
 if c=68 then bW e.2.2.2.2.2.1 else if c=86 then bW e.2.2.2.2.2.2.1 else if c=84 then UInt8.ofNat (ts.length / 256 % 256)::UInt8.ofNat (ts.length % 256)::ts else jO (sk e c).data.toList
def iy (e:dz)(ts:List UInt8)(tr:Int):List UInt8×Int:=
 if mB e tr≠0 then([],mB e tr) else(UInt8.ofNat (e.1 % 256).toNat::(dZ e.1).flatMap (eH e ts),0)
def o7 (e:dz):Prop:=e.2.1.size<=1000000/\e.2.2.1.size<=1000000/\e.2.2.2.1.size<=1000000/\e.2.2.2.2.1.size<=1000000
theorem RE:cA o6=o6.map dA:=by decide +kernel
theorem RF (k:Int):cA (fS k)=(fS k).map dA:=by
 unfold fS
 repeat' split
 all_goals decide +kernel
theorem RG (k:Int)(c:UInt8):((fS k).map dA).filter (·==dA c)=if cI k c then[dA c] else[]:=by
 have h:∀ l:List UInt8,l.Nodup->(l.map dA).filter (·==dA c)=if l.contains c then[dA c] else[]:=by
  intro l hn
  induction l with
  | nil=>rfl
  | cons a l ih=>
   rw[List.nodup_cons] at hn;have ih:=ih hn.2;rw[List.map_cons,List.filter_cons]
   by_cases ha:a=c
   ·subst ha
    have:l.contains a=false:=by simpa using hn.1
    rw[ih,this];simp
   ·have h1:(dA a==dA c)=false:=by
     simp only[beq_eq_false_iff_ne];unfold dA;intro t;exact ha (UInt8.toNat_inj.1 (by omega))
    rw[h1,ih];have h2:(c==a)=false:=by simpa using fun t=>ha t.symm
    simp only[List.contains_cons,h2,Bool.false_or];rfl
 exact h _ (by unfold fS;(repeat' split);all_goals decide)
theorem JT (k:Int)(w:World):Ret Tryz.prog 71 #[.int .i64 k] w fun r w'=>∃ v:Sl,r=.slice v.1 v.2.1 v.2.2/\ku w' v ((dZ k).map dA)/\Fr none1 w w'/\∀ k,au v k->w.heap.size<=k:=by
 refine c71 k w _ ?_;unfold C71;have eo:(⟨#[73,78,76,67,68,86,84]⟩:ByteArray)=str o6:=rfl;rw[eo];refine AG o6 fun r w1 hr hit f1=>?_;rw[RE] at hit;have s1:=f1.size;refine bj.of (fun s w'=>∃ acc rest:List UInt8,acc++rest.filter (cI k)=dZ k/\rest.length<=7/\acc.length+rest.length<=7/\ku w' s.1 (acc.map dA)/\(∀ k,au s.1 k->w.heap.size<=k/\k≠r)/\ja w' r (rest.map dA)/\Fr none1 w w')
  (fun _ w'=>mu w' r) ⟨[],o6,rfl,by decide,by decide,.inl ⟨rfl,rfl⟩,(fun k ⟨a,ha,_⟩=>by cases ha),hit,f1⟩ ?_
 rintro _ ⟨v,_⟩ w2 ⟨acc,rest,heq,o8,AK,hv,gW,pX,f2⟩;dsimp only at hv gW ⊢;have rlt:=pX.lt;refine AF pX (fun c kY pos w3 hc jw oW f3=>?_) (fun jb=>?_)
 ·cases rest with
  | nil=>cases hc
  | cons d rest=>
   rw[List.map_cons] at hc;injection hc with hc pU
   subst hc pU;have oX:Fr none1 w w3:=f2.fresh f3 (by omega);have pZ:ku w3 v (acc.map dA):=aD.ag hv f3 (fun k U t=>(gW k U).2 t);refine ab.of (DR k w3) ?_;rintro _ _ ⟨rfl,rfl⟩;refine⟨_,rfl,?_⟩;refine AG (fS k) fun q w4 hq sq f4=>?_;rw[RF] at sq;have r3:=oW.lt;have xU:Fr none1 w w4:=oX.trans f4;have sw3:=oX.size;simp only[List.length_cons] at o8 AK;rw[List.filter_cons] at heq;refine bj.of (fun s w'=>∃ tY sr:List UInt8,tY.map dA++(sr.map dA).filter (·==dA d)=acc.map dA++(if cI k d then[dA d] else[])/\ku w' s.1 (tY.map dA)/\(∀ k,au s.1 k->w.heap.size<=k/\k≠r/\k≠q)/\ja w' q (sr.map dA) /\
     ja w' r (rest.map dA)/\Fr none1 w w') (fun _ w'=>mu w' q)
    ⟨acc,fS k,by rw[RG],aD.af pZ f4,(fun k U=>⟨(gW k U).1,(gW k U).2,by have:=aD.lt pZ U;omega⟩),sq,oW.af f4,xU⟩ ?_
   rintro _ ⟨v2,_⟩ w5 ⟨tY,sr,lN,jd,oc,DY,xV,f5⟩;dsimp only at jd oc ⊢;have qlt:=DY.lt;refine AF DY (fun x aa4 aa5 w6 hx aa6 vG f6=>?_) (fun RH=>?_)
   ·cases sr with
    | nil=>cases hx
    | cons y sr=>
     rw[List.map_cons] at hx;injection hx with hx DZ
     subst hx DZ;have D0:Fr none1 w w6:=f5.fresh f6 (by omega);have JU:ku w6 v2 (tY.map dA):=aD.ag jd f6 (fun k U t=>(oc k U).2.2 t);have o9:=xV.ag f6 (fun t=>by have:r=q:=t;omega);have l6:mu w6 q<mu w5 q:=by rw[vG.left,DY.left];simp
     rw[List.map_cons,List.filter_cons] at lN;have D1:tY.length<=acc.length+1:=by
      have:=congrArg List.length lN;rw[List.length_append,List.length_append,List.length_map,List.length_map] at this;have h3:(if cI k d then[dA d] else[]).length<=1:=by split<;>simp
      omega
     refine aa.by (fun he=>?_) (fun aA=>?_)
     ·rw[he,if_pos rfl] at lN
      have RI:dA y=dA d:=by simpa using he
      refine RD JU (dA d) (by rw[List.length_map];omega) fun u w7 hu f7 uf=>?_;have aa7:=vG.lt;have aa8:=o9.lt;refine⟨⟨tY++[d],sr,?_,by rw[List.map_append];exact hu,fun k U=>?_,vG.ag f7 (fun t=>(oc q t).2.2 rfl),o9.ag f7 (fun t=>(oc r t).2.1 rfl),D0.comp f7 (fun k U t=>by have:=(oc k t).1;omega)⟩,?_⟩
      ·rw[<- lN,RI];simp
      ·rcases uf k U with t | t
       ·exact oc k t
       ·have:=D0.size;exact⟨by omega,by omega,by omega⟩
      ·rw[(vG.ag f7 (fun t=>(oc q t).2.2 rfl)).left,<- vG.left];exact l6
     ·rw[if_neg (by rw[aA];simp)] at lN
      exact⟨⟨tY,sr,lN,JU,oc,vG,o9,D0⟩,l6⟩
   ·have:sr=[]:=by simpa using RH
    subst this;rw[List.map_nil,List.filter_nil,List.append_nil] at lN
    by_cases hh:cI k d=true
    ·rw[hh] at heq lN
     simp only[if_true] at heq lN;refine⟨⟨acc++[d],rest,by rw[<- heq];simp,by omega,by simp;omega,?_,fun k U=>⟨(oc k U).1,(oc k U).2.1⟩,xV,f5⟩,by rw[xV.left,pX.left];simp⟩;rw[List.map_append];rw[lN] at jd;exact jd
    ·have RJ:cI k d=false:=by simpa using hh
     rw[RJ] at heq lN;simp only[Bool.false_eq_true,if_false,List.append_nil] at heq lN;refine⟨⟨acc,rest,heq,by omega,by omega,?_,fun k U=>⟨(oc k U).1,(oc k U).2.1⟩,xV,f5⟩,by rw[xV.left,pX.left];simp⟩;rw[lN] at jd;exact jd
 ·have:rest=[]:=by simpa using jb
  subst this;rw[List.filter_nil,List.append_nil] at heq;exact⟨v,rfl,by rw[<- heq];exact hv,f2,fun k U=>(gW k U).1⟩
theorem JV {w:World}(hd:List UInt8)(h0:hd.length<=100)(s:ByteArray)(hs:s.size<=1000000){K:Sl->World->Prop}(k:∀ u w',bR w' u (hd++s.data.toList)->Fr none1 w w'->(∀ k,au u k->w.heap.size<=k)->K u w'):
  aw Tryz.prog (Instr.buildSlice 22 hd.length (((hd.map bc).zipIdx.map fun(v,i)=>(i,v)).toArray)) w (.v (.one .ah)) (fun(x:Option Addr×Nat×Nat) w1=>aw Tryz.prog (Builtin.append_ #[22,9] 22 #[.slice x.1 x.2.1 x.2.2,.string s]) w1 (.v (.one .ah)) (fun(y:Option Addr×Nat×Nat) w2=>K y w2)):=by
 obtain⟨x,w1,hr,hx,kj,f1,hf⟩:=qJ (P:=Tryz.prog) (w:=w) mm (hd.map bc) (by intro v hv;obtain⟨x,_,rfl⟩:=List.mem_map.1 hv;rfl) (by simp;omega);rw[List.length_map] at hr kj;refine⟨x,w1,hr,?_⟩;obtain⟨u,w2,fK,hu,_,f2,uf⟩:=QH mm 22 Tryz.underlying9 hx s (by rw[kj];omega);refine⟨u,w2,fK,k u w2 ?_ (f1.comp f2 fun k U t=>by have:=hf k t;omega) fun k U=>?_⟩
 ·unfold bR
  rw[List.map_append];exact hu
 ·rcases uf k U with t | t
  ·exact hf k t
  ·exact Nat.le_trans f1.size t
theorem D2 (n:Nat):Value.int .u8 (IntKind.u8.wrap (n:Int))=bc (UInt8.ofNat (n % 256)):=by
 unfold bc;rw[DH,nY (Nat.mod_lt _ (by decide))]
theorem RL (e:dz)(hz:o7 e)(c:UInt8)(ts:List UInt8)(jC:ts.length<=1000000)(tr:Int)(w:World)
  (ht:c=84->∀ w1,Fr none1 w w1->Ret Tryz.prog 132 #[e.2.2.2.2.2.2.2.1] w1 fun r w'=>r=.tuple #[.string (str ts),.int .i64 tr]/\Fr none1 w1 w') :
  Ret Tryz.prog 72 #[gV e,.int .i32 (dA c)] w fun r w'=>∃ v:Sl,r=.tuple #[.slice v.1 v.2.1 v.2.2,.int .i64 (if c=84 then tr else 0)]/\bR w' v (eH e ts c)/\Fr none1 w w'/\∀ k,au v k->w.heap.size<=k:=by
 refine c72 e (dA c) w _ ?_;unfold C72;refine aq.of fun b w1 hb ar f1 aa9=>?_;have s1:=f1.size;have aA:∀ {d:UInt8},c≠d->(dA c==dA d)=false:=fun{d} h=>by
  simp only[beq_eq_false_iff_ne];unfold dA;intro t;exact h (UInt8.toNat_inj.1 (by omega))
 have num:∀ (n:Int),(eH e ts c=bW n)->c≠84->ab Tryz.prog 110 #[.int .i64 n] w1 (.v (.one .ah)) (fun(x4:Option Addr×Nat×Nat) w5=>
   ∃ v:Sl,(.tuple #[.slice x4.1 x4.2.1 x4.2.2,.int .i64 0]:Value)=.tuple #[.slice v.1 v.2.1 v.2.2,.int .i64 (if c=84 then tr else 0)]/\bR w5 v (eH e ts c)/\Fr none1 w w5/\∀ k,au v k->w.heap.size<=k):=fun n hn hc=>by
  refine ab.of (Jr n w1) ?_;rintro _ w2 ⟨u,rfl,hu,f2,uf⟩;exact⟨u,rfl,u,by rw[if_neg hc],by rw[hn];exact hu,f1.trans f2,fun k U=>Nat.le_trans s1 (uf k U)⟩
 have dM:∀ (s:ByteArray),s.size<=1000000->eH e ts c=jO s.data.toList->c≠84->aw Tryz.prog (Instr.buildSlice 22 1 #[(0,.int .u8 (IntKind.u8.wrap (s.size:Int)))]) w1 (.v (.one .ah)) (fun(aX:Option Addr×Nat×Nat) bx=>aw Tryz.prog (Builtin.append_ #[22,9] 22 #[.slice aX.1 aX.2.1 aX.2.2,.string s]) bx (.v (.one .ah)) (fun(bt:Option Addr×Nat×Nat) bz=>
   ∃ v:Sl,(.tuple #[.slice bt.1 bt.2.1 bt.2.2,.int .i64 0]:Value)=.tuple #[.slice v.1 v.2.1 v.2.2,.int .i64 (if c=84 then tr else 0)]/\bR bz v (eH e ts c)/\Fr none1 w bz/\∀ k,au v k->w.heap.size<=k)):=fun s hs hf hc=>by
  rw[D2];refine JV (w:=w1) [UInt8.ofNat (s.size % 256)] (by simp) s hs fun u w2 hu f2 uf=>?_;refine⟨u,by rw[if_neg hc],?_,f1.trans f2,fun k U=>Nat.le_trans s1 (uf k U)⟩;rw[hf];unfold jO;rw[xL];exact hu
 by_cases tZ:c=68
 ·refine aa.t (by rw[tZ];rfl) ?_
  exact ae.ai ar (x:=e.2.2.2.2.2.1) rfl (num _ (by unfold eH;rw[if_pos tZ]) (by rw[tZ];decide))
 refine aa.f (aA tZ) ?_
 by_cases vH:c=86
 ·refine aa.t (by rw[vH];rfl) ?_
  exact ae.ai ar (x:=e.2.2.2.2.2.2.1) rfl (num _ (by unfold eH;rw[if_neg tZ,if_pos vH]) (by rw[vH];decide))
 refine aa.f (aA vH) ?_
 by_cases mC:c=84
 ·refine aa.t (by rw[mC];rfl) ?_
  refine ae.ai ar (x:=e.2.2.2.2.2.2.2.1) rfl ?_;refine ab.of (ht mC w1 f1) ?_;rintro _ w2 ⟨rfl,f2⟩;refine⟨(str ts,tr,()),rfl,⟨by omega,?_⟩⟩;dsimp only;have es:((str ts).size:Int)=(ts.length:Int):=by rw[dx]
  rw[es,show Int.toNat 8=8 from rfl,DE ts.length 8 (by omega),D2,D2];refine JV (w:=w2) [UInt8.ofNat (ts.length / 2 ^ 8 % 256),UInt8.ofNat (ts.length % 256)] (by simp) (str ts) (by rw[dx];exact jC) fun u w3 hu f3 uf=>?_;refine⟨u,by rw[if_pos mC],?_,(f1.trans f2).trans f3,fun k U=>Nat.le_trans (f1.trans f2).size (uf k U)⟩;unfold eH;rw[if_neg tZ,if_neg vH,if_pos mC];rw[jM] at hu;exact hu
 refine aa.f (aA mC) ?_;have hF:∀ s,sk e c=s->eH e ts c=jO s.data.toList:=fun s hs=>by unfold eH;rw[if_neg tZ,if_neg vH,if_neg mC,hs]
 by_cases ua:c=73
 ·refine aa.t (by rw[ua];rfl) ?_
  exact ae.ai ar (x:=e.2.1) rfl (dM _ hz.1 (hF _ (by unfold sk;rw[if_pos ua])) mC)
 refine aa.f (aA ua) ?_
 by_cases vI:c=78
 ·refine aa.t (by rw[vI];rfl) ?_
  exact ae.ai ar (x:=e.2.2.1) rfl (dM _ hz.2.1 (hF _ (by unfold sk;rw[if_neg ua,if_pos vI])) mC)
 refine aa.f (aA vI) ?_
 by_cases xW:c=76
 ·refine aa.t (by rw[xW];rfl) ?_
  exact ae.ai ar (x:=e.2.2.2.1) rfl (dM _ hz.2.2.1 (hF _ (by unfold sk;rw[if_neg ua,if_neg vI,if_pos xW])) mC)
 refine aa.f (aA xW) ?_
 by_cases AL:c=67
 ·refine aa.t (by rw[AL];rfl) ?_
  exact ae.ai ar (x:=e.2.2.2.2.1) rfl (dM _ hz.2.2.2 (hF _ (by unfold sk;rw[if_neg ua,if_neg vI,if_neg xW,if_pos AL])) mC)
 refine aa.f (aA AL) ?_;exact dM _ (by decide) (hF _ (by unfold sk;rw[if_neg ua,if_neg vI,if_neg xW,if_neg AL])) mC
theorem D3 (e:dz)(hz:o7 e)(ts:List UInt8)(jC:ts.length<=1000000)(c:UInt8):(eH e ts c).length<=1000010:=by
 obtain⟨z1,z2,z3,z4⟩:=hz;unfold eH;split
 ·rw[gU];omega
 split
 ·rw[gU];omega
 split
 ·simp only[List.length_cons];omega
 unfold jO sk;have hs:∀ s:ByteArray,s.data.toList.length=s.size:=xL;simp only[List.length_cons,hs]
 repeat' split
 all_goals first | omega | (show(0:Nat)+1<=_;omega)
theorem D4 (e:dz)(hT:o0 e.2.2.2.2.2.2.2.1)(hz:o7 e)(ts:List UInt8)(jC:ts.length<=1000000)(tr:Int)(w:World)
  (ht:e.1=2->∀ w1,Fr none1 w w1->Ret Tryz.prog 132 #[e.2.2.2.2.2.2.2.1] w1 fun r w'=>r=.tuple #[.string (str ts),.int .i64 tr]/\Fr none1 w1 w') :
  Ret Tryz.prog 33 #[gV e] w fun r w'=>∃ v:Sl,r=.tuple #[.slice v.1 v.2.1 v.2.2,.int .i64 (iy e ts tr).2]/\bR w' v (iy e ts tr).1/\Fr none1 w w'/\∀ k,au v k->w.heap.size<=k:=by
 refine c33 e w _ ?_;unfold C33;refine aq.of fun b w1 hb ar f1 _=>?_;refine az.aG (x:=e) ar ?_;refine ab.of (DX e hT tr w1 (fun h2 w' f=>(ht h2 w' (f1.trans f)).mono fun r nk ⟨h,f⟩=>⟨⟨_,h⟩,f⟩)) ?_;rintro _ w2 ⟨rfl,f2⟩;have f12:=f1.trans f2;have aM:=f2.af ar;refine⟨_,rfl,?_⟩;unfold iy;refine aa.ne (fun aA=>?_) (fun heq=>?_)
 ·rw[if_pos aA]
  exact⟨(none,0,0),rfl,.inl ⟨rfl,rfl⟩,f12,fun k ⟨a,ha,_⟩=>by cases ha⟩
 rw[if_neg (fun t=>t heq)];refine ae.ai aM (x:=e.1) rfl ?_;have RM:Value.int .u8 (IntKind.u8.wrap e.1)=bc (UInt8.ofNat (e.1 % 256).toNat):=by
  unfold bc;rw[nY (by omega)]
  congr 1
  simp[IntKind.wrap,IntKind.signed,IntKind.bits];omega
 rw[RM];obtain⟨x,w3,D5,hx,kj,f3,xf⟩:=qJ (P:=Tryz.prog) (w:=w2) mm [bc (UInt8.ofNat (e.1 % 256).toNat)] (by simp[bc,Value.cells]) (by simp);refine⟨x,w3,D5,?_⟩;have ba:=f3.af aM;have xH:bR w3 x [UInt8.ofNat (e.1 % 256).toNat]:=hx;refine ae.ai ba (x:=e.1) rfl ?_;refine ab.of (JT e.1 w3) ?_;rintro _ w4 ⟨fv,rfl,xX,f4,ff⟩;refine⟨fv,rfl,?_⟩;have dm:=f4.af ba;have eW:=f12.size;have f14:=(f12.trans f3).trans f4;have je:=xX.len;rw[List.length_map] at je;have AK:(dZ e.1).length<=7:=by unfold dZ;exact Nat.le_trans (List.length_filter_le _ _) (by decide)
 have mC:∀ c∈dZ e.1,c=84->e.1=2:=fun c hc h=>by
  subst h;have:=(List.mem_filter.1 hc).2;unfold cI fS at this
  by_cases h2:e.1=2
  ·exact h2
  ·rw[if_neg h2] at this
   repeat' split at this
   all_goals exact absurd this (by decide)
 have RN:e.1=2->tr=0:=fun h2=>by
  unfold mB at heq;rw[h2] at heq
  repeat' split at heq
  all_goals first | exact heq | (exact absurd heq (by decide)) | (rename_i hx;exact absurd rfl hx)
 refine bj.of (fun s w'=>∃ i:Nat,s.2.1=i/\i<=(dZ e.1).length/\bR w' s.1 (UInt8.ofNat (e.1 % 256).toNat::((dZ e.1).take i).flatMap (eH e ts))/\(∀ k,au s.1 k->w2.heap.size<=k/\(¬ au fv k))/\ku w' fv ((dZ e.1).map dA)/\Fr none1 w2 w')
  (fun s _=>(fv.2.1 - s.2.1).toNat) ⟨0,rfl,Nat.zero_le _,by simpa using bR.af xH f4,fun k U=>⟨xf k U,fun t=>by have:=ff k t;have:=aD.lt hx U;omega⟩,xX,f3.trans f4⟩ ?_
 rintro _ ⟨v,i',_⟩ w5 ⟨i,hi,iz,hv,gW,D6,f5⟩;dsimp only at hi hv gW ⊢;subst hi;refine aa.dec (fun aU=>?_) (fun dh=>?_)
 ·have D7:i<(dZ e.1).length:=by omega
  refine ku.ld D6 (by omega) aU ?_;obtain⟨c,hc⟩:∃ c,(dZ e.1)[i]? = some c:=⟨_,List.getElem?_eq_getElem D7⟩;have p8:c∈dZ e.1:=List.mem_of_getElem? hc;have D8:((dZ e.1).map dA).getD (Int.toNat (i:Int)) 0=dA c:=by
   rw[Int.toNat_natCast,List.getD_eq_getElem?_getD,List.getElem?_map,hc];rfl
  rw[D8];have dr:=f5.af (f2.af ar);refine az.aG (x:=e) dr ?_;have RO:(if c=84 then tr else 0)=0:=by
   by_cases h:c=84
   ·rw[if_pos h];exact RN (mC c p8 h)
   ·rw[if_neg h]
  have JW:=RL e hz c ts jC tr w5 (fun h w' f=>ht (mC c p8 h) w' ((f12.trans f5).trans f));rw[RO] at JW;refine ab.of JW ?_;rintro _ w6 ⟨u,rfl,hu,f6,uf⟩;refine⟨(u,0,()),rfl,?_⟩;refine aa.f rfl ?_;have hlen:((dZ e.1).take i).flatMap (eH e ts)=((dZ e.1).take i).flatMap (eH e ts):=rfl;have hbound:∀ l:List UInt8,(l.flatMap (eH e ts)).length<=l.length * 1000010:=by
   intro l
   induction l with
   | nil=>simp
   | cons a l ih=>rw[List.flatMap_cons,List.length_append,List.length_cons];have:=D3 e hz ts jC a;omega
  have aba:=hbound ((dZ e.1).take i);have abb:=D3 e hz ts jC c;have ht7:((dZ e.1).take i).length<=7:=by rw[List.length_take];omega
  obtain⟨y,w7,o8,hy,f7,yf⟩:=qK (bR.af hv f6) hu.rd (by simp only[List.length_cons];omega);have RP:=fun k (U:au fv k)=>aD.lt D6 U;refine⟨y,w7,o8,⟨i+1,by rw[wI (by omega) (by omega)];omega,by omega,?_,fun k U=>?_,aD.ag (aD.af D6 f6) f7 (fun k U t=>(gW k t).2 U),(f5.trans f6).comp f7 (fun k U t=>by have:=(gW k t).1;omega)⟩,by rw[wI (by omega) (by omega)];omega⟩
  ·rw[List.take_add_one,hc,List.flatMap_append]
   simpa using hy
  ·rcases yf k U with t | t
   ·exact gW k t
   ·have:=f5.size
    have:=f6.size;exact⟨by omega,fun q=>by have:=RP k q;omega⟩
 ·rw[List.take_of_length_le (by omega)] at hv
  exact⟨v,rfl,hv,f12.trans f5,fun k U=>by have:=(gW k U).1;omega⟩
inductive Ob where
 | none
 | const (n:Int)
 | fix (s:List UInt8)
 | add (l r:Ob)
 | neg (o:Ob)
 | mul (l r:Ob)
 | max (l r:Ob)
inductive Tm where
 | none
 | zero
 | one (s:List UInt8)
 | gh (t:Tm)
 | and (l r:Tm)
 | or (s:List UInt8) (l r:Tm)
 | scale (o:Ob) (t:Tm)
 | when (d:Int) (t:Tm)
 | cond (o:Ob) (l r:Tm)
def Ob.v:Ob->Value
 | .none=>.nilIface
 | .const n=>.iface 222 (.agg #[.int .i64 n])
 | .fix s=>.iface 300 (.agg #[.string (str s)])
 | .add l r=>.iface 302 (.agg #[l.v,r.v])
 | .neg o=>.iface 304 (.agg #[o.v])
 | .mul l r=>.iface 305 (.agg #[l.v,r.v])
 | .max l r=>.iface 306 (.agg #[l.v,r.v])
def Tm.v:Tm->Value
 | .none=>.nilIface
 | .zero=>.iface 235 (.agg #[])
 | .one s=>.iface 216 (.agg #[.string (str s)])
 | .gh t=>.iface 237 (.agg #[t.v])
 | .and l r=>.iface 239 (.agg #[l.v,r.v])
 | .or s l r=>.iface 241 (.agg #[.string (str s),l.v,r.v])
 | .scale o t=>.iface 245 (.agg #[o.v,t.v])
 | .when d t=>.iface 247 (.agg #[.int .i64 d,t.v])
 | .cond o l r=>.iface 249 (.agg #[o.v,l.v,r.v])
theorem od (s:ByteArray):bJ (.string s)=true:=rfl
theorem pc (k:IntKind)(n:Int):bJ (.int k n)=true:=rfl
theorem Ob.bP (o:Ob):bJ o.v=true:=by cases o<;>rfl
theorem Tm.bP (t:Tm):bJ t.v=true:=by cases t<;>rfl
theorem Ob.fp (o:Ob):o.v.cells=#[o.v]:=by cases o<;>rfl
theorem Tm.fp (t:Tm):t.v.cells=#[t.v]:=by cases t<;>rfl
def cJ:Ob->List Ob
 | .add l r | .mul l r | .max l r=>[l,r]
 | .neg o=>[o]
 | _=>[]
def cR:Tm->List Tm
 | .gh t | .scale _ t | .when _ t=>[t]
 | .and l r | .or _ l r | .cond _ l r=>[l,r]
 | _=>[]
theorem AM {o k:Ob}(h:k∈cJ o):SizeOf.sizeOf k<SizeOf.sizeOf o:=by
 cases o<;>simp[cJ] at h
 all_goals first | (rcases h with rfl | rfl<;>simp<;>omega) | (subst h;simp)
theorem AN {t k:Tm}(h:k∈cR t):SizeOf.sizeOf k<SizeOf.sizeOf t:=by
 cases t<;>simp[cR] at h
 all_goals first | (rcases h with rfl | rfl<;>simp<;>omega) | (subst h;simp;done) | (subst h;simp;omega)
theorem AO (o:Ob):(cJ o).length<=2:=by cases o<;>simp[cJ]
theorem AP (t:Tm):(cR t).length<=2:=by cases t<;>simp[cR]
namespace Vc
theorem aj.hit {x:Value}{t:TypeId}{k:Kd}{yes:k.C->Prop}{no:Prop}(r:k.C)(h:x=.iface t (k.val r))(hy:yes r):aj x t k yes no:=⟨.inl ⟨r,h,hy⟩⟩
theorem aj.aL {x:Value}{t u:TypeId}{v:Value}{k:Kd}{yes:k.C->Prop}{no:Prop}(h:x=.iface u v)(hu:u≠t)(hn:no):aj x t k yes no:=⟨.inr ⟨.inr ⟨u,v,h,hu⟩,hn⟩⟩
theorem aj.nil {x:Value}{t:TypeId}{k:Kd}{yes:k.C->Prop}{no:Prop}(h:x=.nilIface)(hn:no):aj x t k yes no:=⟨.inr ⟨.inl h,hn⟩⟩
theorem cB {w:World}{T:TypeId}{zs vs:List Value}{K:Nat->World->Prop}(hl:zs.length=vs.length)(h1:vs.all bJ=true)
  (h:∀ g w4,w.heap.size=g->w4.heap[g]? = some (.cells vs.toArray T (0,0))->Fr none1 w w4->K g w4):aq (.cells zs.toArray T) w fun g w3=>av ⟨g,0,none⟩ vs w3 fun w4=>K g w4:=
 aq.of fun g w1 hg hb f1 hs=>av.aG hb hl h1 fun w2 aM f2 _=>h g w2 hg aM (f1.fresh f2 (by omega))
theorem lO {w:World}{T:TypeId}{zs vs:List Value}{K:World->Prop}(hl:zs.length=vs.length)(h1:vs.all bJ=true)
  (h:∀ w4,Fr none1 w w4->K w4):aq (.cells zs.toArray T) w fun g w3=>av ⟨g,0,none⟩ vs w3 fun w4=>K w4:=
 cB hl h1 fun _ w4 _ _ f=>h w4 f
theorem AQ {P:Program}{w:World}{T t E i bytes:Nat}{z a:Value}{zs vs:List Value}{K:Option Addr×Nat×Nat->World->Prop}(he:gL P t E 1 z bytes)(hl:zs.length=vs.length)(h1:vs.all bJ=true)(ha:vs[i]? = some a)(hc:a.cells=#[a])
  (h:∀ (u:Sl) w',aD w' E 1 u [a]->u.2.1=1->Fr none1 w w'->(∀ k,au u k->w.heap.size<=k)->K u w') :
  aq (.cells zs.toArray T) w fun g w3=>av ⟨g,0,none⟩ vs w3 fun w4=>ae .raw ((⟨g,0,none⟩:Addr).add i) w4 fun(x:Value)=>aw P (Instr.buildSlice t 1 #[(0,x)]) w4 (.v (.one .ah)) fun(u:Option Addr×Nat×Nat) w5=>K u w5:=by
 refine cB hl h1 fun g w4 hg hb f=>?_;refine ae.ai (c:=.raw) hb (x:=a) (by rw[List.getElem?_toArray,Nat.zero_add];exact ha) ?_;obtain⟨u,w5,hr,hu,cS,f5,uf⟩:=kX (w:=w4) he a hc;exact⟨u,w5,hr,h u w5 hu cS (f.trans f5) fun k U=>Nat.le_trans f.size (uf k U)⟩
theorem AR {P:Program}{w:World}{T t E i j bytes:Nat}{z a b:Value}{zs vs:List Value}{K:Option Addr×Nat×Nat->World->Prop}(he:gL P t E 1 z bytes)(hl:zs.length=vs.length)(h1:vs.all bJ=true)(ha:vs[i]? = some a)(hb:vs[j]? = some b)(hca:a.cells=#[a])(AS:b.cells=#[b])
  (h:∀ (u:Sl) w',aD w' E 1 u [a,b]->u.2.1=2->Fr none1 w w'->(∀ k,au u k->w.heap.size<=k)->K u w') :
  aq (.cells zs.toArray T) w fun g w3=>av ⟨g,0,none⟩ vs w3 fun w4=>ae .raw ((⟨g,0,none⟩:Addr).add i) w4 fun(x:Value)=>ae .raw ((⟨g,0,none⟩:Addr).add j) w4 fun(y:Value)=>aw P (Instr.buildSlice t 2 #[(0,x),(1,y)]) w4 (.v (.one .ah)) fun(u:Option Addr×Nat×Nat) w5=>K u w5:=by
 refine cB hl h1 fun g w4 hg vu f=>?_;refine ae.ai (c:=.raw) vu (x:=a) (by rw[List.getElem?_toArray,Nat.zero_add];exact ha) ?_;refine ae.ai (c:=.raw) vu (x:=b) (by rw[List.getElem?_toArray,Nat.zero_add];exact hb) ?_;obtain⟨u,w5,hr,hu,cS,f5,uf⟩:=qJ (w:=w4) he [a,b] (by intro v hv;simp at hv;rcases hv with rfl | rfl<;>assumption) (by simp)
 exact⟨u,w5,hr,h u w5 hu cS (f.trans f5) fun k U=>Nat.le_trans f.size (uf k U)⟩
end Vc
theorem JX:gL Tryz.prog 401 242 1 .nilIface 16:=⟨Tryz.underlying401,⟨Tryz.t242,by kernel_rfl,rfl,rfl,rfl⟩,rfl,by decide⟩
theorem vJ:gL Tryz.prog 370 34 1 .nilIface 16:=⟨Tryz.underlying370,⟨Tryz.t34,by kernel_rfl,rfl,rfl,rfl⟩,rfl,by decide⟩
theorem vK:gL Tryz.prog 51 9 1 (.string ⟨#[]⟩) 16:=⟨Tryz.underlying51,⟨Tryz.t9,by kernel_rfl,rfl,rfl,rfl⟩,rfl,by decide⟩
def kZ (w:World)(v:Sl)(l:List Ob):Prop:=aD w 242 1 v (l.map Ob.v)
def mD (w:World)(v:Sl)(l:List Tm):Prop:=aD w 34 1 v (l.map Tm.v)
theorem kZ.af {w w':World}{v:Sl}{l:List Ob}(h:kZ w v l)(f:Fr none1 w w'):kZ w' v l:=aD.af h f
theorem mD.af {w w':World}{v:Sl}{l:List Tm}(h:mD w v l)(f:Fr none1 w w'):mD w' v l:=aD.af h f
theorem kZ.len {w:World}{v:Sl}{l:List Ob}(h:kZ w v l):v.2.1=l.length:=by have:=aD.len h;rw[List.length_map,Nat.mul_one] at this;exact this.symm
theorem mD.len {w:World}{v:Sl}{l:List Tm}(h:mD w v l):v.2.1=l.length:=by have:=aD.len h;rw[List.length_map,Nat.mul_one] at this;exact this.symm
theorem kZ.ld {w:World}{v:Sl}{l:List Ob}(h:kZ w v l){i:Nat}{o:Ob}(ho:l[i]? = some o){K:Value->Prop}(k:K o.v):bK v.1 v.2.1 (i:Int) 1 fun p=>ae .raw p w K:=by
 have hi:=(List.getElem?_eq_some_iff.1 ho).1;have hl:=h.len;refine aD.ld h (by omega) (by omega) (c:=.raw) (x:=o.v) ?_ k;rw[Int.toNat_natCast,List.getElem?_map,ho];rfl
theorem mD.ld {w:World}{v:Sl}{l:List Tm}(h:mD w v l){i:Nat}{o:Tm}(ho:l[i]? = some o){K:Value->Prop}(k:K o.v):bK v.1 v.2.1 (i:Int) 1 fun p=>ae .raw p w K:=by
 have hi:=(List.getElem?_eq_some_iff.1 ho).1;have hl:=h.len;refine aD.ld h (by omega) (by omega) (c:=.raw) (x:=o.v) ?_ k;rw[Int.toNat_natCast,List.getElem?_map,ho];rfl
theorem D9 (w:World):kZ w (none,0,0) []:=.inl ⟨rfl,rfl⟩
theorem RQ (w:World):mD w (none,0,0) []:=.inl ⟨rfl,rfl⟩
theorem jP:∀ k,¬ au (none,0,0) k:=fun k ⟨a,ha,_⟩=>by cases ha
def C254 (p0:Value)(w:World)(K:Value->World->Prop):Prop:=
 aj p0 302 (.agg [.raw,.raw]) (fun(x1:Value×Value×Unit)=>aq (.cells #[.nilIface,.nilIface] 302) w (fun g2 w3=>av (ad g2) [x1.1,x1.2.1] w3 (fun w4=>ae .raw ((ad g2).add 0) w4 (fun(x5:Value)=>ae .raw ((ad g2).add 1) w4 (fun(x6:Value)=>aw Tryz.prog (Instr.buildSlice 401 2 #[(0,x5),(1,x6)]) w4 (.v (.one .ah)) (fun(x7:ao) w8=>K (.slice x7.1 x7.2.1 x7.2.2) w8))))))
 (aq (.cells #[.nilIface,.nilIface] 302) w (fun g9 aK=>av (ad g9) [.nilIface,.nilIface] aK (fun aR=>aj p0 305 (.agg [.raw,.raw]) (fun(bw:Value×Value×Unit)=>aq (.cells #[.nilIface,.nilIface] 305) aR (fun g13 bu=>av (ad g13) [bw.1,bw.2.1] bu (fun bL=>ae .raw ((ad g13).add 0) bL (fun(aT:Value)=>ae .raw ((ad g13).add 1) bL (fun(aX:Value)=>aw Tryz.prog (Instr.buildSlice 401 2 #[(0,aT),(1,aX)]) bL (.v (.one .ah)) (fun(bE:ao) bO=>K (.slice bE.1 bE.2.1 bE.2.2) bO))))))
 (aq (.cells #[.nilIface,.nilIface] 305) aR (fun g20 bq=>av (ad g20) [.nilIface,.nilIface] bq (fun bA=>aj p0 306 (.agg [.raw,.raw]) (fun(cc:Value×Value×Unit)=>aq (.cells #[.nilIface,.nilIface] 306) bA (fun g24 dn=>av (ad g24) [cc.1,cc.2.1] dn (fun bZ=>ae .raw ((ad g24).add 0) bZ (fun(cE:Value)=>ae .raw ((ad g24).add 1) bZ (fun(eX:Value)=>aw Tryz.prog (Instr.buildSlice 401 2 #[(0,cE),(1,eX)]) bZ (.v (.one .ah)) (fun(cH:ao) cn=>K (.slice cH.1 cH.2.1 cH.2.2) cn))))))
 (aq (.cells #[.nilIface,.nilIface] 306) bA (fun RR cZ=>av (ad RR) [.nilIface,.nilIface] cZ (fun dy=>aj p0 304 (.agg [.raw]) (fun(ez:Value×Unit)=>aq (.cells #[.nilIface] 304) dy (fun JY cW=>av (ad JY) [ez.1] cW (fun dq=>ae .raw ((ad JY).add 0) dq (fun(dN:Value)=>aw Tryz.prog (Instr.buildSlice 401 1 #[(0,dN)]) dq (.v (.one .ah)) (fun(eY:ao) ef=>K (.slice eY.1 eY.2.1 eY.2.2) ef)))))
 (aq (.cells #[.nilIface] 304) dy (fun RT eU=>av (ad RT) [.nilIface] eU (fun k8=>K (.slice none 0 0) k8))))))))))))
def pl254:aB:=.auto
theorem c254 (p0:Value)(w:World)(K:Value->World->Prop)(h:C254 p0 w K):Ret Tryz.prog 254 #[p0] w K:=aC (by kernel_rfl) Tryz.func254 (p:=pl254) (Eq.mpr (by kernel_rfl) h)
def C290 (p0:Value)(w:World)(K:Value->World->Prop):Prop:=
 aj p0 222 (.agg [.int .i64]) (fun(x1:Int×Unit)=>aq (.cells #[.int .i64 0] 222) w (fun g2 w3=>av (ad g2) [.int .i64 x1.1] w3 (fun w4=>ae (.int .i64) ((ad g2).add 0) w4 (fun(x5:Int)=>ab Tryz.prog 131 #[.int .i64 x5] w4 (.v (.one .bool)) (fun(x6:Bool) w7=>K (.tuple #[.bool true,.bool x6]) w7)))))
 (aq (.cells #[.int .i64 0] 222) w (fun g8 w9=>av (ad g8) [.int .i64 0] w9 (fun aK=>aj p0 300 (.agg [.str]) (fun(aZ:ByteArray×Unit)=>aq (.cells #[.string (⟨#[]⟩:ByteArray)] 300) aK (fun g12 aW=>av (ad g12) [.string aZ.1] aW (fun bu=>ae .str ((ad g12).add 0) bu (fun(bm:ByteArray)=>ab Tryz.prog 169 #[.string bm] bu (.v (.one .bool)) (fun(aT:Bool) cD=>K (.tuple #[.bool true,.bool aT]) cD)))))
 (aq (.cells #[.string (⟨#[]⟩:ByteArray)] 300) aK (fun g18 bO=>av (ad g18) [.string (⟨#[]⟩:ByteArray)] bO (fun bz=>K (.tuple #[.bool false,.bool false]) bz))))))
def pl290:aB:=.auto
theorem c290 (p0:Value)(w:World)(K:Value->World->Prop)(h:C290 p0 w K):Ret Tryz.prog 290 #[p0] w K:=aC (by kernel_rfl) Tryz.func290 (p:=pl290) (Eq.mpr (by kernel_rfl) h)
def C265 (p0:Value)(w:World)(K:Value->World->Prop):Prop:=
 ab Tryz.prog 290 #[p0] w (.aP [.one .bool,.one .bool]) (fun(x1:Bool×Bool×Unit) w2=>aa (!x1.1)
 (ab Tryz.prog 254 #[p0] w2 (.v (.one .ah)) (fun(x3:ao) w4=>K (.bool ((x3.2.1:Int)==0)) w4))
 (K (.bool false) w2))
def pl265:aB:=.auto
theorem c265 (p0:Value)(w:World)(K:Value->World->Prop)(h:C265 p0 w K):Ret Tryz.prog 265 #[p0] w K:=aC (by kernel_rfl) Tryz.func265 (p:=pl265) (Eq.mpr (by kernel_rfl) h)
def C247 (p0:Value)(w:World)(K:Value->World->Prop):Prop:=
 ab Tryz.prog 265 #[p0] w (.v (.one .bool)) (fun(x1:Bool) w2=>aa x1
 (K (.tuple #[.int .i64 0,.int .i64 0]) w2)
 (ab Tryz.prog 254 #[p0] w2 (.v (.one .ah)) (fun(x3:ao) w4=>bj (Int×Int×Int×Unit) (fun _ s5 w6 ss=>aa (decide (s5.2.2.1<(x3.2.1:Int)))
 (bK x3.1 x3.2.1 s5.2.2.1 1 (fun a8=>ae .raw a8 w6 (fun(x9:Value)=>ab Tryz.prog 247 #[x9] w6 (.aP [.one (.int .i64),.one (.int .i64)]) (fun(aS:Int×Int×Unit) aR=>ss (IntKind.i64.wrap (s5.1+aS.1),(if aS.2.1 > s5.2.1 then aS.2.1 else s5.2.1),IntKind.i64.wrap (s5.2.2.1+1),()) aR))))
 (K (.tuple #[.int .i64 (IntKind.i64.wrap (s5.1+1)),.int .i64 (IntKind.i64.wrap (s5.2.1+1))]) w6))
 (0,0,0,()) w4)))
def pl247:aB:=(.seq .auto (.seq .auto (.seq (.seq .auto (.block (.loop [(2,.one (.int .i64)),(3,.one (.int .i64)),(13,.one (.int .i64))] .auto))) .auto)))
theorem c247 (p0:Value)(w:World)(K:Value->World->Prop)(h:C247 p0 w K):Ret Tryz.prog 247 #[p0] w K:=aC (by kernel_rfl) Tryz.func247 (p:=pl247) (Eq.mpr (by kernel_rfl) h)
def C263 (p0:Value)(w:World)(K:Value->World->Prop):Prop:=
 ab Tryz.prog 290 #[p0] w (.aP [.one .bool,.one .bool]) (fun(x1:Bool×Bool×Unit) w2=>aa x1.1
 (K (.bool x1.2.1) w2)
 (ab Tryz.prog 265 #[p0] w2 (.v (.one .bool)) (fun(x3:Bool) w4=>aa (!x3)
 (ab Tryz.prog 254 #[p0] w4 (.v (.one .ah)) (fun(x5:ao) w6=>ab Tryz.prog 291 #[.slice x5.1 x5.2.1 x5.2.2,.func (.func 292) #[] #[]] w6 (.v (.one .bool)) (fun(x7:Bool) w8=>K (.bool (!x7)) w8)))
 (K (.bool false) w4))))
def pl263:aB:=.auto
theorem c263 (p0:Value)(w:World)(K:Value->World->Prop)(h:C263 p0 w K):Ret Tryz.prog 263 #[p0] w K:=aC (by kernel_rfl) Tryz.func263 (p:=pl263) (Eq.mpr (by kernel_rfl) h)
def C292 (p0:Value)(w:World)(K:Value->World->Prop):Prop:=
 ab Tryz.prog 263 #[p0] w (.v (.one .bool)) (fun(x1:Bool) w2=>K (.bool (!x1)) w2)
def pl292:aB:=.auto
theorem c292 (p0:Value)(w:World)(K:Value->World->Prop)(h:C292 p0 w K):Ret Tryz.prog 292 #[p0] w K:=aC (by kernel_rfl) Tryz.func292 (p:=pl292) (Eq.mpr (by kernel_rfl) h)
def C244 (p0:Value)(w:World)(K:Value->World->Prop):Prop:=
 ab Tryz.prog 263 #[p0] w (.v (.one .bool)) (fun(x1:Bool) w2=>aa (!x1)
 (K (.int .i64 2) w2)
 (ab Tryz.prog 247 #[p0] w2 (.aP [.one (.int .i64),.one (.int .i64)]) (fun(x3:Int×Int×Unit) w4=>aa (decide (x3.1 > 60))
 (K (.int .i64 5) w4)
 (aa (decide (x3.2.1 > 12))
 (K (.int .i64 5) w4)
 (K (.int .i64 0) w4)))))
def pl244:aB:=.auto
theorem c244 (p0:Value)(w:World)(K:Value->World->Prop)(h:C244 p0 w K):Ret Tryz.prog 244 #[p0] w K:=aC (by kernel_rfl) Tryz.func244 (p:=pl244) (Eq.mpr (by kernel_rfl) h)
def C291 (p0:Option Addr)(aI aN:Nat)(p1:Value)(w:World)(K:Value->World->Prop):Prop:=
 ab Tryz.prog 311 #[.slice p0 aI aN,p1] w (.v (.one (.int .i64))) (fun(x1:Int) w2=>K (.bool (decide (x1 >= 0))) w2)
def pl291:aB:=.auto
theorem c291 (p0:Option Addr)(aI aN:Nat)(p1:Value)(w:World)(K:Value->World->Prop)(h:C291 p0 aI aN p1 w K):Ret Tryz.prog 291 #[.slice p0 aI aN,p1] w K:=aC (by kernel_rfl) Tryz.func291 (p:=pl291) (Eq.mpr (by kernel_rfl) h)
def C311 (p0:Option Addr)(aI aN:Nat)(p1:Value)(w:World)(K:Value->World->Prop):Prop:=
 bj (Int×Unit) (fun _ s1 w2 gr=>aa (decide (s1.1<(aI:Int)))
 (bK p0 aI s1.1 1 (fun a4=>ae .raw a4 w2 (fun(x5:Value)=>j9 Tryz.prog p1 [x5] (.v (.one .bool)) w2 (fun(x6:Bool) w7=>aa x6
 (K (.int .i64 s1.1) w7)
 (gr (IntKind.i64.wrap (s1.1+1),()) w7)))))
 (K (.int .i64 (-1)) w2))
 (0,()) w
def pl311:aB:=(.seq .auto (.seq (.seq .auto (.block (.loop [(8,.one (.int .i64))] .auto))) .auto))
theorem c311 (p0:Option Addr)(aI aN:Nat)(p1:Value)(w:World)(K:Value->World->Prop)(h:C311 p0 aI aN p1 w K):Ret Tryz.prog 311 #[.slice p0 aI aN,p1] w K:=aC (by kernel_rfl) Tryz.func311 (p:=pl311) (Eq.mpr (by kernel_rfl) h)
def eI (s:List UInt8):Bool:=jN 0 (cA s)
def oe:Ob->Bool×Bool
 | .const n=>(true,cv n)
 | .fix s=>(true,eI s)
 | _=>(false,false)
def cL:Ob->Bool
 | .none=>false
 | .const n=>cv n
 | .fix s=>eI s
 | .add l r | .mul l r | .max l r=>cL l&&cL r
 | .neg o=>cL o
def bo:Ob->Nat
 | .none=>0
 | .const _ | .fix _=>1
 | .add l r | .mul l r | .max l r=>bo l+bo r+1
 | .neg o=>bo o+1
def cX:Ob->Nat
 | .none=>0
 | .const _ | .fix _=>1
 | .add l r | .mul l r | .max l r=>max (cX l) (cX r)+1
 | .neg o=>cX o+1
def nv:Ob->Bool
 | .none=>true
 | _=>false
def ub (o:Ob):Int:=if cL o=false then 2 else if 60<bo o then 5 else if 12<cX o then 5 else 0
theorem AT (o:Ob):cX o<=bo o:=by
 induction o with
 | none=>exact Nat.le_refl _
 | const=>exact Nat.le_refl _
 | fix=>exact Nat.le_refl _
 | neg o ih=>unfold cX bo;omega
 | add l r a b=>unfold cX bo;omega
 | mul l r a b=>unfold cX bo;omega
 | max l r a b=>unfold cX bo;omega
def iR (l:List Nat):Nat:=l.foldl (·+·) 0
def uc (l:List Nat):Nat:=l.foldl max 0
theorem JZ (o:Ob)(h:nv o=false):bo o=iR ((cJ o).map bo)+1:=by cases o<;>simp[nv,bo,cJ,iR] at h ⊢
theorem RU (o:Ob)(h:nv o=false):cX o=uc ((cJ o).map cX)+1:=by cases o<;>simp[nv,cX,cJ,uc] at h ⊢
theorem RV (o:Ob)(h:(oe o).1=false):cL o=(!nv o&&!((cJ o).any fun k=>!cL k)):=by cases o<;>simp[oe,nv,cL,cJ] at h ⊢
theorem RW (o:Ob)(h:(oe o).1=false):((cJ o).length==0)=nv o:=by cases o<;>simp[oe,nv,cJ] at h ⊢
theorem J0 (o:Ob)(h:(oe o).1=true):nv o=false/\cL o=(oe o).2:=by cases o<;>simp[oe,nv,cL] at h ⊢
theorem ud (l:List Nat)(n:Nat):iR (l++[n])=iR l+n:=by unfold iR;rw[List.foldl_append];rfl
theorem RX (l:List Nat)(n:Nat):uc (l++[n])=max (uc l) n:=by unfold uc;rw[List.foldl_append];rfl
theorem RY (l:List Nat):∀ n,l.foldl (·+·) n=n+iR l:=by
 unfold iR
 induction l with
 | nil=>intro n;rfl
 | cons a l ih=>intro n;rw[List.foldl_cons,List.foldl_cons,ih,ih (0+a)];omega
theorem vL (l:List Nat)(i:Nat):iR (l.take i)<=iR l:=by
 have:iR l=iR (l.take i)+iR (l.drop i):=by
  conv=>lhs;rw[<- List.take_append_drop i l]
  unfold iR;rw[List.foldl_append];exact RY _ _
 omega
theorem qP {α β:Type}(l:List α)(g:α->β)(i:Nat){x:α}(h:l[i]? = some x):(l.take (i+1)).map g=(l.take i).map g++[g x]:=by
 rw[List.take_add_one,h,List.map_append];rfl
theorem vM (o:Ob)(w:World):Ret Tryz.prog 254 #[o.v] w fun r w'=>∃ u:Sl,r=.slice u.1 u.2.1 u.2.2/\kZ w' u (cJ o)/\Fr none1 w w':=by
 refine c254 o.v w _ ?_;unfold C254;have two:∀ (l r:Ob) (w0:World) (T:TypeId),Fr none1 w w0->cJ o=[l,r]->aq (.cells #[.nilIface,.nilIface] T) w0 (fun g2 w3=>av (⟨g2,0,none⟩:Addr) [l.v,r.v] w3 (fun w4=>ae .raw ((⟨g2,0,none⟩:Addr).add 0) w4 (fun(x5:Value)=>ae .raw ((⟨g2,0,none⟩:Addr).add 1) w4 (fun(x6:Value)=>
   aw Tryz.prog (Instr.buildSlice 401 2 #[(0,x5),(1,x6)]) w4 (.v (.one .ah)) (fun(x7:Option Addr×Nat×Nat) w8=>∃ u:Sl,(Value.slice x7.1 x7.2.1 x7.2.2)=.slice u.1 u.2.1 u.2.2/\kZ w8 u (cJ o)/\Fr none1 w w8))))):=fun l r w0 T f0 U=>
  AR (zs:=[.nilIface,.nilIface]) (vs:=[l.v,r.v]) JX rfl (by simp[Ob.bP]) rfl rfl l.fp r.fp fun u w' hu _ f _=>⟨u,rfl,by rw[U];exact hu,f0.trans f⟩
 have lP:∀ {w0:World} {T:TypeId} {K:World->Prop},Fr none1 w w0->(∀ w4,Fr none1 w w4->K w4)->aq (.cells #[.nilIface,.nilIface] T) w0 (fun g w3=>av ⟨g,0,none⟩ [.nilIface,.nilIface] w3 fun w4=>K w4):=fun f0 h=>
  lO (zs:=[.nilIface,.nilIface]) rfl rfl fun w4 f=>h w4 (f0.trans f)
 have Ea:∀ {w0:World} {T:TypeId} {K:World->Prop},Fr none1 w w0->(∀ w4,Fr none1 w w4->K w4)->aq (.cells #[.nilIface] T) w0 (fun g w3=>av ⟨g,0,none⟩ [.nilIface] w3 fun w4=>K w4):=fun f0 h=>
  lO (zs:=[.nilIface]) rfl rfl fun w4 f=>h w4 (f0.trans f)
 have f0:=Fr.refl none1 w;cases o with
 | none=>
  refine aj.nil rfl (lP f0 fun w1 f1=>aj.nil rfl (lP f1 fun w2 f2=>aj.nil rfl (lP f2 fun w3 f3=>aj.nil rfl (Ea f3 fun w4 f4=>⟨_,rfl,D9 _,f4⟩))))
 | const n=>
  refine aj.aL rfl (by decide) (lP f0 fun w1 f1=>aj.aL rfl (by decide) (lP f1 fun w2 f2=>aj.aL rfl (by decide) (lP f2 fun w3 f3=>aj.aL rfl (by decide) (Ea f3 fun w4 f4=>⟨_,rfl,D9 _,f4⟩))))
 | fix s=>
  refine aj.aL rfl (by decide) (lP f0 fun w1 f1=>aj.aL rfl (by decide) (lP f1 fun w2 f2=>aj.aL rfl (by decide) (lP f2 fun w3 f3=>aj.aL rfl (by decide) (Ea f3 fun w4 f4=>⟨_,rfl,D9 _,f4⟩))))
 | add l r=>exact aj.hit (l.v,r.v,()) rfl (two l r w _ f0 rfl)
 | mul l r=>exact aj.aL rfl (by decide) (lP f0 fun w1 f1=>aj.hit (l.v,r.v,()) rfl (two l r w1 _ f1 rfl))
 | max l r=>exact aj.aL rfl (by decide) (lP f0 fun w1 f1=>aj.aL rfl (by decide) (lP f1 fun w2 f2=>aj.hit (l.v,r.v,()) rfl (two l r w2 _ f2 rfl)))
 | neg x=>
  refine aj.aL rfl (by decide) (lP f0 fun w1 f1=>aj.aL rfl (by decide) (lP f1 fun w2 f2=>aj.aL rfl (by decide) (lP f2 fun w3 f3=>aj.hit (x.v,()) rfl ?_)));exact AQ (zs:=[.nilIface]) (vs:=[x.v]) JX rfl (by simp[Ob.bP]) rfl x.fp fun u w' hu _ f _=>⟨u,rfl,hu,f3.trans f⟩
theorem J6 (o:Ob)(w:World):Ret Tryz.prog 290 #[o.v] w fun r w'=>r=.tuple #[.bool (oe o).1,.bool (oe o).2]/\Fr none1 w w':=by
 refine c290 o.v w _ ?_;unfold C290;have vN:∀ {K:World->Prop},(∀ w4,Fr none1 w w4->K w4)->aq (.cells #[.int .i64 0] 222) w (fun g w3=>av ⟨g,0,none⟩ [.int .i64 0] w3 fun w4=>K w4):=fun h=>lO (zs:=[.int .i64 0]) rfl rfl fun w4 f=>h w4 f;have xY:∀ {w0:World} {K:World->Prop},Fr none1 w w0->(∀ w4,Fr none1 w w4->K w4)->aq (.cells #[.string (⟨#[]⟩:ByteArray)] 300) w0 (fun g w3=>av ⟨g,0,none⟩ [.string (⟨#[]⟩:ByteArray)] w3 fun w4=>K w4):=fun f0 h=>lO (zs:=[.string (⟨#[]⟩:ByteArray)]) rfl rfl fun w4 f=>h w4 (f0.trans f);cases o with
 | none=>exact aj.nil rfl (vN fun w1 f1=>aj.nil rfl (xY f1 fun w2 f2=>⟨rfl,f2⟩))
 | const n=>
  refine aj.hit (n,()) rfl (cB (zs:=[.int .i64 0]) (vs:=[.int .i64 n]) rfl rfl fun g w1 _ hb f1=>ae.ai hb (x:=n) rfl ?_);refine ab.of (qN n w1) ?_;rintro _ _ ⟨rfl,rfl⟩;exact⟨_,rfl,rfl,f1⟩
 | fix s=>
  refine aj.aL rfl (by decide) (vN fun w1 f1=>aj.hit (str s,()) rfl (cB (zs:=[.string (⟨#[]⟩:ByteArray)]) (vs:=[.string (str s)]) rfl rfl fun g w2 _ hb f2=>ae.ai hb (x:=str s) rfl ?_));refine ab.of (tT s w2) ?_;rintro _ w3 ⟨rfl,f3⟩;exact⟨_,rfl,rfl,(f1.trans f2).trans f3⟩
 | add l r=>exact aj.aL rfl (by decide) (vN fun w1 f1=>aj.aL rfl (by decide) (xY f1 fun w2 f2=>⟨rfl,f2⟩))
 | mul l r=>exact aj.aL rfl (by decide) (vN fun w1 f1=>aj.aL rfl (by decide) (xY f1 fun w2 f2=>⟨rfl,f2⟩))
 | max l r=>exact aj.aL rfl (by decide) (vN fun w1 f1=>aj.aL rfl (by decide) (xY f1 fun w2 f2=>⟨rfl,f2⟩))
 | neg x=>exact aj.aL rfl (by decide) (vN fun w1 f1=>aj.aL rfl (by decide) (xY f1 fun w2 f2=>⟨rfl,f2⟩))
theorem Ka (o:Ob)(w:World):Ret Tryz.prog 265 #[o.v] w fun r w'=>r=.bool (nv o)/\Fr none1 w w':=by
 refine c265 o.v w _ ?_;refine ab.of (J6 o w) ?_;rintro _ w1 ⟨rfl,f1⟩;refine⟨(_,_,()),rfl,aa.not (aa.by (fun h=>?_) (fun h=>?_))⟩
 ·rw[(J0 o h).1];exact⟨rfl,f1⟩
 ·refine ab.of (vM o w1) ?_
  rintro _ w2 ⟨u,rfl,hu,f2⟩;refine⟨u,rfl,?_,f1.trans f2⟩;rw[hu.len,<- RW o h]
  congr 1
  cases U:(cJ o).length<;>rfl
theorem Eb (o:Ob)(hn:bo o<=1000000)(w:World):Ret Tryz.prog 247 #[o.v] w fun r w'=>r=.tuple #[.int .i64 (bo o:Int),.int .i64 (cX o:Int)]/\Fr none1 w w':=by
 refine c247 o.v w _ ?_;have ih:∀ k∈cJ o,bo k<=1000000->∀ w,Ret Tryz.prog 247 #[k.v] w fun r w'=>r=.tuple #[.int .i64 (bo k:Int),.int .i64 (cX k:Int)]/\Fr none1 w w':=fun k U hn w=>Eb k hn w;refine ab.of (Ka o w) ?_;rintro _ w1 ⟨rfl,f1⟩;refine⟨_,rfl,aa.by (fun h=>?_) (fun h=>?_)⟩
 ·cases o<;>first | (exact⟨rfl,f1⟩) | (exact absurd h (by simp[nv]))
 refine ab.of (vM o w1) ?_;rintro _ w2 ⟨u,rfl,hu,f2⟩;refine⟨u,rfl,?_⟩;have hN:=JZ o h;have hD:=RU o h;have cS:=hu.len;have xZ:=AO o;refine bj.of (fun s w'=>∃ i:Nat,s.2.2.1=i/\i<=(cJ o).length/\s.1=(iR (((cJ o).take i).map bo):Int)/\s.2.1=(uc (((cJ o).take i).map cX):Int)/\Fr none1 w w'/\kZ w' u (cJ o)) (fun s _=>(2 - s.2.2.1).toNat)
  ⟨0,rfl,Nat.zero_le _,rfl,rfl,f1.trans f2,hu⟩ ?_
 rintro _ ⟨a,b,i',_⟩ w3 ⟨i,hi,iz,ha,hb,f3,ke⟩;dsimp only at hi ha hb ⊢;subst hi ha hb;have hle:iR (((cJ o).take i).map bo)<=bo o:=by
  rw[hN,List.map_take];have:=vL ((cJ o).map bo) i;omega
 refine aa.dec (fun aU=>?_) (fun dh=>?_)
 ·have eJ:i<(cJ o).length:=by omega
  obtain⟨k,U⟩:∃ k,(cJ o)[i]? = some k:=⟨_,List.getElem?_eq_getElem eJ⟩;have nx:=List.mem_of_getElem? U;have qQ:iR (((cJ o).take (i+1)).map bo)<=bo o:=by
   rw[hN,List.map_take];have:=vL ((cJ o).map bo) (i+1);omega
  rw[qP _ _ _ U,ud] at qQ;refine ke.ld U ?_;refine ab.of (ih k nx (by omega) w3) ?_;rintro _ w4 ⟨rfl,f4⟩;refine⟨((bo k:Int),(cX k:Int),()),rfl,?_⟩;dsimp only;have RZ:=AT k;refine⟨⟨i+1,by rw[wI (by omega) (by omega)];omega,by omega,?_,?_,f3.trans f4,ke.af f4⟩,by rw[wI (by omega) (by omega)];omega⟩
  ·rw[qP _ _ _ U,ud,wI (by omega) (by omega)]
   omega
  ·rw[qP _ _ _ U,RX]
   by_cases hm:uc (((cJ o).take i).map cX)<cX k
   ·rw[if_pos (by omega)];omega
   ·rw[if_neg (by omega)];omega
 ·have:i=(cJ o).length:=by omega
  subst this;rw[List.take_length];rw[List.take_length] at hle;have hd:=AT o;rw[hN];rw[hD] at hd ⊢;rw[wI (by omega) (by omega),wI (by omega) (by omega)];exact⟨by simp,f3⟩
termination_by SizeOf.sizeOf o
decreasing_by exact AM U
theorem Kb (o:Ob)(w:World):Ret Tryz.prog 263 #[o.v] w fun r w'=>r=.bool (cL o)/\Fr none1 w w':=by
 refine c263 o.v w _ ?_;have ih:∀ k∈cJ o,∀ w,Ret Tryz.prog 263 #[k.v] w fun r w'=>r=.bool (cL k)/\Fr none1 w w':=fun k U w=>Kb k w;refine ab.of (J6 o w) ?_;rintro _ w1 ⟨rfl,f1⟩;refine⟨(_,_,()),rfl,aa.by (fun h=>?_) (fun h=>?_)⟩
 ·rw[(J0 o h).2];exact⟨rfl,f1⟩
 rw[RV o h];refine ab.of (Ka o w1) ?_;rintro _ w2 ⟨rfl,f2⟩;refine⟨_,rfl,aa.not (aa.by (fun hn=>?_) (fun hn=>?_))⟩
 ·rw[hn];exact⟨rfl,f1.trans f2⟩
 rw[hn];refine ab.of (vM o w2) ?_;rintro _ w3 ⟨u,rfl,hu,f3⟩;refine⟨u,rfl,?_⟩;have cS:=hu.len;have xZ:=AO o
 -- is there one abc is not?
 have hc:Ret Tryz.prog 291 #[.slice u.1 u.2.1 u.2.2,.func (.func 292) #[] #[]] w3 fun r w'=>r=.bool ((cJ o).any fun k=>!cL k)/\Fr none1 w3 w':=by
  refine c291 u.1 u.2.1 u.2.2 _ w3 _ ?_;have hx:Ret Tryz.prog 311 #[.slice u.1 u.2.1 u.2.2,.func (.func 292) #[] #[]] w3 fun r w'=>(∃ i:Int,r=.int .i64 i/\decide (i >= 0)=(cJ o).any fun k=>!cL k)/\Fr none1 w3 w':=by
   refine c311 u.1 u.2.1 u.2.2 _ w3 _ ?_;refine bj.of (fun s w'=>∃ i:Nat,s.1=i/\i<=(cJ o).length/\((cJ o).take i).any (fun k=>!cL k)=false/\Fr none1 w3 w'/\kZ w' u (cJ o)) (fun s _=>(2 - s.1).toNat) ⟨0,rfl,Nat.zero_le _,rfl,Fr.refl _ _,hu⟩ ?_;rintro _ ⟨i',_⟩ w4 ⟨i,hi,iz,hall,f4,vO⟩;dsimp only at hi ⊢;subst hi;refine aa.dec (fun aU=>?_) (fun dh=>?_)
   ·have eJ:i<(cJ o).length:=by omega
    obtain⟨k,U⟩:∃ k,(cJ o)[i]? = some k:=⟨_,List.getElem?_eq_getElem eJ⟩;refine vO.ld U ?_;have nx:=List.mem_of_getElem? U;have vP:Ret Tryz.prog 292 #[k.v] w4 fun r w'=>r=.bool (!cL k)/\Fr none1 w4 w':=by
     refine c292 k.v w4 _ ?_;refine ab.of (ih k nx w4) ?_;rintro _ w5 ⟨rfl,f5⟩;exact⟨_,rfl,rfl,f5⟩
    refine lC (by kernel_rfl) Tryz.func292 (by kernel_rfl) (vP.mono ?_);rintro _ w5 ⟨rfl,f5⟩;refine⟨_,rfl,aa.by (fun hb=>?_) (fun hb=>?_)⟩
    ·refine⟨⟨(i:Int),rfl,?_⟩,f4.trans f5⟩
     rw[decide_eq_true (by omega),eq_comm,List.any_eq_true];exact⟨k,nx,hb⟩
    ·refine⟨⟨i+1,by rw[wI (by omega) (by omega)];omega,by omega,?_,f4.trans f5,vO.af f5⟩,by rw[wI (by omega) (by omega)];omega⟩
     rw[List.take_add_one,U,List.any_append,hall];simpa using hb
   ·refine⟨⟨-1,rfl,?_⟩,f4⟩
    rw[List.take_of_length_le (by omega)] at hall;rw[hall];rfl
  refine ab.of hx ?_;rintro _ w4 ⟨⟨i,rfl,hi⟩,f4⟩;exact⟨_,rfl,by rw[hi],f4⟩
 refine ab.of hc ?_;rintro _ w4 ⟨rfl,f4⟩;exact⟨_,rfl,by simp,((f1.trans f2).trans f3).trans f4⟩
termination_by SizeOf.sizeOf o
decreasing_by exact AM U
theorem Ec (o:Ob)(hn:bo o<=1000000)(w:World):Ret Tryz.prog 244 #[o.v] w fun r w'=>r=.int .i64 (ub o)/\Fr none1 w w':=by
 refine c244 o.v w _ ?_;refine ab.of (Kb o w) ?_;rintro _ w1 ⟨rfl,f1⟩;unfold ub;refine⟨_,rfl,aa.not (aa.by (fun h=>?_) (fun h=>?_))⟩
 case refine_2=>rw[if_pos h];exact⟨rfl,f1⟩
 rw[if_neg (by simp[h])];refine ab.of (Eb o hn w1) ?_;rintro _ w2 ⟨rfl,f2⟩;refine⟨((bo o:Int),(cX o:Int),()),rfl,?_⟩;dsimp only;refine aa.dec (fun h=>?_) (fun h=>?_)
 ·rw[if_pos (by omega)];exact⟨rfl,f1.trans f2⟩
 rw[if_neg (by omega)];refine aa.dec (fun h=>?_) (fun h=>?_)
 ·rw[if_pos (by omega)];exact⟨rfl,f1.trans f2⟩
 rw[if_neg (by omega)];exact⟨rfl,f1.trans f2⟩
def C229 (p0:Value)(w:World)(K:Value->World->Prop):Prop:=
 aj p0 237 (.agg [.raw]) (fun(x1:Value×Unit)=>aq (.cells #[.nilIface] 237) w (fun g2 w3=>av (ad g2) [x1.1] w3 (fun w4=>ae .raw ((ad g2).add 0) w4 (fun(x5:Value)=>aw Tryz.prog (Instr.buildSlice 370 1 #[(0,x5)]) w4 (.v (.one .ah)) (fun(x6:ao) w7=>K (.slice x6.1 x6.2.1 x6.2.2) w7)))))
 (aq (.cells #[.nilIface] 237) w (fun g8 w9=>av (ad g8) [.nilIface] w9 (fun aK=>aj p0 239 (.agg [.raw,.raw]) (fun(aZ:Value×Value×Unit)=>aq (.cells #[.nilIface,.nilIface] 239) aK (fun g12 aW=>av (ad g12) [aZ.1,aZ.2.1] aW (fun bu=>ae .raw ((ad g12).add 0) bu (fun(bm:Value)=>ae .raw ((ad g12).add 1) bu (fun(aT:Value)=>aw Tryz.prog (Instr.buildSlice 370 2 #[(0,bm),(1,aT)]) bu (.v (.one .ah)) (fun(aX:ao) bx=>K (.slice aX.1 aX.2.1 aX.2.2) bx))))))
 (aq (.cells #[.nilIface,.nilIface] 239) aK (fun g19 bz=>av (ad g19) [.nilIface,.nilIface] bz (fun bq=>aj p0 241 (.agg [.str,.raw,.raw]) (fun(cr:ByteArray×Value×Value×Unit)=>aq (.cells #[.string (⟨#[]⟩:ByteArray),.nilIface,.nilIface] 241) bq (fun g23 bU=>av (ad g23) [.string cr.1,cr.2.1,cr.2.2.1] bU (fun dn=>ae .raw ((ad g23).add 1) dn (fun(dk:Value)=>ae .raw ((ad g23).add 2) dn (fun(cE:Value)=>aw Tryz.prog (Instr.buildSlice 370 2 #[(0,dk),(1,cE)]) dn (.v (.one .ah)) (fun(eX:ao) eg=>K (.slice eX.1 eX.2.1 eX.2.2) eg))))))
 (aq (.cells #[.string (⟨#[]⟩:ByteArray),.nilIface,.nilIface] 241) bq (fun qR eK=>av (ad qR) [.string (⟨#[]⟩:ByteArray),.nilIface,.nilIface] eK (fun cZ=>aj p0 245 (.agg [.raw,.raw]) (fun(dH:Value×Value×Unit)=>aq (.cells #[.nilIface,.nilIface] 245) cZ (fun ue fz=>av (ad ue) [dH.1,dH.2.1] fz (fun cW=>ae .raw ((ad ue).add 1) cW (fun(ij:Value)=>aw Tryz.prog (Instr.buildSlice 370 1 #[(0,ij)]) cW (.v (.one .ah)) (fun(dN:ao) gg=>K (.slice dN.1 dN.2.1 dN.2.2) gg)))))
 (aq (.cells #[.nilIface,.nilIface] 245) cZ (fun x0 kL=>av (ad x0) [.nilIface,.nilIface] kL (fun eU=>aj p0 247 (.agg [.int .i64,.raw]) (fun(jx:Int×Value×Unit)=>aq (.cells #[.int .i64 0,.nilIface] 247) eU (fun vQ lM=>av (ad vQ) [.int .i64 jx.1,jx.2.1] lM (fun gN=>ae .raw ((ad vQ).add 1) gN (fun(fO:Value)=>aw Tryz.prog (Instr.buildSlice 370 1 #[(0,fO)]) gN (.v (.one .ah)) (fun(la:ao) AU=>K (.slice la.1 la.2.1 la.2.2) AU)))))
 (aq (.cells #[.int .i64 0,.nilIface] 247) eU (fun R0 iA=>av (ad R0) [.int .i64 0,.nilIface] iA (fun kq=>aj p0 249 (.agg [.raw,.raw,.raw]) (fun(jz:Value×Value×Value×Unit)=>aq (.cells #[.nilIface,.nilIface,.nilIface] 249) kq (fun Ed iQ=>av (ad Ed) [jz.1,jz.2.1,jz.2.2.1] iQ (fun pd=>ae .raw ((ad Ed).add 1) pd (fun(oY:Value)=>ae .raw ((ad Ed).add 2) pd (fun(ny:Value)=>aw Tryz.prog (Instr.buildSlice 370 2 #[(0,oY),(1,ny)]) pd (.v (.one .ah)) (fun(qM:ao) ya=>K (.slice qM.1 qM.2.1 qM.2.2) ya))))))
 (aq (.cells #[.nilIface,.nilIface,.nilIface] 249) kq (fun ug kv=>av (ad ug) [.nilIface,.nilIface,.nilIface] kv (fun su=>K (.slice none 0 0) su))))))))))))))))))
def pl229:aB:=.auto
theorem c229 (p0:Value)(w:World)(K:Value->World->Prop)(h:C229 p0 w K):Ret Tryz.prog 229 #[p0] w K:=aC (by kernel_rfl) Tryz.func229 (p:=pl229) (Eq.mpr (by kernel_rfl) h)
def C224 (p0:Value)(w:World)(K:Value->World->Prop):Prop:=
 aj p0 235 (.agg []) (fun(x1:Unit)=>K (.int .i64 1) w)
 (aj p0 216 (.agg [.str]) (fun(x2:ByteArray×Unit)=>K (.int .i64 2) w)
 (aj p0 237 (.agg [.raw]) (fun(x3:Value×Unit)=>K (.int .i64 3) w)
 (aj p0 239 (.agg [.raw,.raw]) (fun(x4:Value×Value×Unit)=>K (.int .i64 4) w)
 (aj p0 241 (.agg [.str,.raw,.raw]) (fun(x5:ByteArray×Value×Value×Unit)=>K (.int .i64 5) w)
 (aj p0 245 (.agg [.raw,.raw]) (fun(x6:Value×Value×Unit)=>K (.int .i64 6) w)
 (aj p0 247 (.agg [.int .i64,.raw]) (fun(x7:Int×Value×Unit)=>K (.int .i64 7) w)
 (aj p0 249 (.agg [.raw,.raw,.raw]) (fun(x8:Value×Value×Value×Unit)=>K (.int .i64 8) w)
 (K (.int .i64 0) w))))))))
def pl224:aB:=.auto
theorem c224 (p0:Value)(w:World)(K:Value->World->Prop)(h:C224 p0 w K):Ret Tryz.prog 224 #[p0] w K:=aC (by kernel_rfl) Tryz.func224 (p:=pl224) (Eq.mpr (by kernel_rfl) h)
def C225 (p0:Value)(w:World)(K:Value->World->Prop):Prop:=
 aj p0 216 (.agg [.str]) (fun(x1:ByteArray×Unit)=>aq (.cells #[.string (⟨#[]⟩:ByteArray)] 216) w (fun g2 w3=>av (ad g2) [.string x1.1] w3 (fun w4=>ae .str ((ad g2).add 0) w4 (fun(x5:ByteArray)=>K (.tuple #[.string x5,.int .i64 0]) w4))))
 (aq (.cells #[.string (⟨#[]⟩:ByteArray)] 216) w (fun g6 w7=>av (ad g6) [.string (⟨#[]⟩:ByteArray)] w7 (fun w8=>aj p0 241 (.agg [.str,.raw,.raw]) (fun(x9:ByteArray×Value×Value×Unit)=>aq (.cells #[.string (⟨#[]⟩:ByteArray),.nilIface,.nilIface] 241) w8 (fun g10 aR=>av (ad g10) [.string x9.1,x9.2.1,x9.2.2.1] aR (fun aO=>ae .str ((ad g10).add 0) aO (fun(bC:ByteArray)=>K (.tuple #[.string bC,.int .i64 0]) aO))))
 (aq (.cells #[.string (⟨#[]⟩:ByteArray),.nilIface,.nilIface] 241) w8 (fun g14 bL=>av (ad g14) [.string (⟨#[]⟩:ByteArray),.nilIface,.nilIface] bL (fun br=>aj p0 247 (.agg [.int .i64,.raw]) (fun(aX:Int×Value×Unit)=>aq (.cells #[.int .i64 0,.nilIface] 247) br (fun g18 bO=>av (ad g18) [.int .i64 aX.1,aX.2.1] bO (fun bz=>aH bz (fun bq=>ae (.int .i64) ((ad g18).add 0) bq (fun(cr:Int)=>K (.tuple #[.string (⟨#[]⟩:ByteArray),.int .i64 cr]) bq)))))
 (aq (.cells #[.int .i64 0,.nilIface] 247) br (fun g23 bU=>av (ad g23) [.int .i64 0,.nilIface] bU (fun dn=>K (.tuple #[.string (⟨#[]⟩:ByteArray),.int .i64 0]) dn)))))))))
def pl225:aB:=(.seq .auto (.seq .auto (.seq .auto (.seq (.seq .auto (.seq .auto (.cond (.seq .still .auto) .auto))) .auto))))
theorem c225 (p0:Value)(w:World)(K:Value->World->Prop)(h:C225 p0 w K):Ret Tryz.prog 225 #[p0] w K:=aC (by kernel_rfl) Tryz.func225 (p:=pl225) (Eq.mpr (by kernel_rfl) h)
def C226 (p0:Value)(w:World)(K:Value->World->Prop):Prop:=
 aj p0 245 (.agg [.raw,.raw]) (fun(x1:Value×Value×Unit)=>aq (.cells #[.nilIface,.nilIface] 245) w (fun g2 w3=>av (ad g2) [x1.1,x1.2.1] w3 (fun w4=>ae .raw ((ad g2).add 0) w4 (fun(x5:Value)=>K (.tuple #[x5,.bool true]) w4))))
 (aq (.cells #[.nilIface,.nilIface] 245) w (fun g6 w7=>av (ad g6) [.nilIface,.nilIface] w7 (fun w8=>aj p0 249 (.agg [.raw,.raw,.raw]) (fun(x9:Value×Value×Value×Unit)=>aq (.cells #[.nilIface,.nilIface,.nilIface] 249) w8 (fun g10 aR=>av (ad g10) [x9.1,x9.2.1,x9.2.2.1] aR (fun aO=>ae .raw ((ad g10).add 0) aO (fun(bC:Value)=>K (.tuple #[bC,.bool true]) aO))))
 (aq (.cells #[.nilIface,.nilIface,.nilIface] 249) w8 (fun g14 bL=>av (ad g14) [.nilIface,.nilIface,.nilIface] bL (fun br=>K (.tuple #[.nilIface,.bool false]) br))))))
def pl226:aB:=.auto
theorem c226 (p0:Value)(w:World)(K:Value->World->Prop)(h:C226 p0 w K):Ret Tryz.prog 226 #[p0] w K:=aC (by kernel_rfl) Tryz.func226 (p:=pl226) (Eq.mpr (by kernel_rfl) h)
def C215 (p0:Value)(w:World)(K:Value->World->Prop):Prop:=
 ab Tryz.prog 224 #[p0] w (.v (.one (.int .i64))) (fun(x1:Int) w2=>aa (x1==0)
 (K (.tuple #[.int .i64 0,.int .i64 0]) w2)
 (bQ (Int×Int×Unit) (fun J3=>ab Tryz.prog 226 #[p0] w2 (.aP [.one .raw,.one .bool]) (fun(x6:Value×Bool×Unit) w7=>aa x6.2.1
 (ab Tryz.prog 247 #[x6.1] w7 (.aP [.one (.int .i64),.one (.int .i64)]) (fun(x8:Int×Int×Unit) w9=>J3 (x8.1,x8.2.1,()) w9))
 (J3 (0,0,()) w7)))
 (fun _ s4 w5=>ab Tryz.prog 229 #[p0] w5 (.v (.one .ah)) (fun(aS:ao) aR=>bj (Int×Int×Int×Unit) (fun _ eW aW xT=>aa (decide (eW.2.2.1<(aS.2.1:Int)))
 (bK aS.1 aS.2.1 eW.2.2.1 1 (fun tX=>ae .raw tX aW (fun(aT:Value)=>ab Tryz.prog 215 #[aT] aW (.aP [.one (.int .i64),.one (.int .i64)]) (fun(aX:Int×Int×Unit) bx=>xT (IntKind.i64.wrap (eW.1+aX.1),(if aX.2.1 > eW.2.1 then aX.2.1 else eW.2.1),IntKind.i64.wrap (eW.2.2.1+1),()) bx))))
 (K (.tuple #[.int .i64 (IntKind.i64.wrap (eW.1+1)),.int .i64 (IntKind.i64.wrap (eW.2.1+1))]) aW))
 (s4.1,s4.2.1,0,()) aR))))
def pl215:aB:=(.seq .auto (.seq .auto (.join [(2,.one (.int .i64)),(3,.one (.int .i64))] .auto (.seq (.seq .auto (.block (.loop [(2,.one (.int .i64)),(3,.one (.int .i64)),(27,.one (.int .i64))] .auto))) .auto))))
theorem c215 (p0:Value)(w:World)(K:Value->World->Prop)(h:C215 p0 w K):Ret Tryz.prog 215 #[p0] w K:=aC (by kernel_rfl) Tryz.func215 (p:=pl215) (Eq.mpr (by kernel_rfl) h)
def C214 (p0:Value)(w:World)(K:Value->World->Prop):Prop:=
 ab Tryz.prog 225 #[p0] w (.aP [.one .str,.one (.int .i64)]) (fun(x1:ByteArray×Int×Unit) w2=>bQ (Bool×Unit) (fun J3=>ab Tryz.prog 224 #[p0] w2 (.v (.one (.int .i64))) (fun(x6:Int) w7=>ab Tryz.prog 224 #[.iface 216 (.agg #[.string (⟨#[]⟩:ByteArray)])] w7 (.v (.one (.int .i64))) (fun(x8:Int) w9=>aa (x6==x8)
 (J3 (true,()) w9)
 (ab Tryz.prog 224 #[p0] w9 (.v (.one (.int .i64))) (fun(aS:Int) aR=>ab Tryz.prog 224 #[.iface 241 (.agg #[.string (⟨#[]⟩:ByteArray),.nilIface,.nilIface])] aR (.v (.one (.int .i64))) (fun(bw:Int) aW=>J3 ((aS==bw),()) aW))))))
 (fun _ s4 w5=>bQ (Bool×Unit) (fun vR=>ab Tryz.prog 224 #[p0] w5 (.v (.one (.int .i64))) (fun(aX:Int) bx=>aa (aX==0)
 (vR (true,()) bx)
 (aa s4.1
 (ab Tryz.prog 169 #[.string x1.1] bx (.v (.one .bool)) (fun(bt:Bool) bz=>aa (!bt)
 (vR (true,()) bz)
 (aa (decide (x1.2.1<0))
 (vR (true,()) bz)
 (vR (decide (x1.2.1 > 10000),()) bz))))
 (aa (decide (x1.2.1<0))
 (vR (true,()) bx)
 (vR (decide (x1.2.1 > 10000),()) bx)))))
 (fun _ nr br=>aa nr.1
 (K (.bool false) br)
 (ab Tryz.prog 226 #[p0] br (.aP [.one .raw,.one .bool]) (fun(b9:Value×Bool×Unit) bA=>aa b9.2.1
 (ab Tryz.prog 244 #[b9.1] bA (.v (.one (.int .i64))) (fun(cc:Int) bU=>aa (cc==2)
 (K (.bool false) bU)
 (ab Tryz.prog 229 #[p0] bU (.v (.one .ah)) (fun(bG:ao) bZ=>ab Tryz.prog 245 #[.slice bG.1 bG.2.1 bG.2.2,.func (.func 246) #[] #[]] bZ (.v (.one .bool)) (fun(cE:Bool) bV=>K (.bool (!cE)) bV)))))
 (ab Tryz.prog 229 #[p0] bA (.v (.one .ah)) (fun(cH:ao) cn=>ab Tryz.prog 245 #[.slice cH.1 cH.2.1 cH.2.2,.func (.func 246) #[] #[]] cn (.v (.one .bool)) (fun(bX:Bool) cZ=>K (.bool (!bX)) cZ))))))))
def pl214:aB:=(.seq .auto (.seq .auto (.join [(5,.one .bool)] .auto (.seq (.join [(45,.one .bool)] .auto .auto) .auto))))
theorem c214 (p0:Value)(w:World)(K:Value->World->Prop)(h:C214 p0 w K):Ret Tryz.prog 214 #[p0] w K:=aC (by kernel_rfl) Tryz.func214 (p:=pl214) (Eq.mpr (by kernel_rfl) h)
def C246 (p0:Value)(w:World)(K:Value->World->Prop):Prop:=
 ab Tryz.prog 214 #[p0] w (.v (.one .bool)) (fun(x1:Bool) w2=>K (.bool (!x1)) w2)
def pl246:aB:=.auto
theorem c246 (p0:Value)(w:World)(K:Value->World->Prop)(h:C246 p0 w K):Ret Tryz.prog 246 #[p0] w K:=aC (by kernel_rfl) Tryz.func246 (p:=pl246) (Eq.mpr (by kernel_rfl) h)
def C216 (p0:Value)(w:World)(K:Value->World->Prop):Prop:=
 bQ (ao×Unit) (fun J1=>aj p0 241 (.agg [.str,.raw,.raw]) (fun(x4:ByteArray×Value×Value×Unit)=>aq (.cells #[.string (⟨#[]⟩:ByteArray),.nilIface,.nilIface] 241) w (fun g5 w6=>av (ad g5) [.string x4.1,x4.2.1,x4.2.2.1] w6 (fun w7=>ae .str ((ad g5).add 0) w7 (fun(x8:ByteArray)=>aw Tryz.prog (Instr.buildSlice 51 1 #[(0,.string x8)]) w7 (.v (.one .ah)) (fun(x9:ao) aK=>aw Tryz.prog (Builtin.append_ #[51,51] 51 #[.slice none 0 0,.slice x9.1 x9.2.1 x9.2.2]) aK (.v (.one .ah)) (fun(aZ:ao) aO=>J1 ((aZ.1,aZ.2.1,aZ.2.2),()) aO))))))
 (aq (.cells #[.string (⟨#[]⟩:ByteArray),.nilIface,.nilIface] 241) w (fun g13 bu=>av (ad g13) [.string (⟨#[]⟩:ByteArray),.nilIface,.nilIface] bu (fun bL=>J1 ((none,0,0),()) bL))))
 (fun _ s2 w3=>ab Tryz.prog 229 #[p0] w3 (.v (.one .ah)) (fun(aT:ao) cD=>bj (ao×Int×Unit) (fun _ nZ bO R1=>aa (decide (nZ.2.1<(aT.2.1:Int)))
 (bK aT.1 aT.2.1 nZ.2.1 1 (fun a21=>ae .raw a21 bO (fun(cr:Value)=>ab Tryz.prog 216 #[cr] bO (.v (.one .ah)) (fun(cc:ao) bU=>aw Tryz.prog (Builtin.append_ #[51,51] 51 #[.slice nZ.1.1 nZ.1.2.1 nZ.1.2.2,.slice cc.1 cc.2.1 cc.2.2]) bU (.v (.one .ah)) (fun(bG:ao) bZ=>R1 ((bG.1,bG.2.1,bG.2.2),IntKind.i64.wrap (nZ.2.1+1),()) bZ)))))
 (K (.slice nZ.1.1 nZ.1.2.1 nZ.1.2.2) bO))
 ((s2.1.1,s2.1.2.1,s2.1.2.2),0,()) cD))
def pl216:aB:=(.seq .auto (.seq .auto (.join [(3,.one .ah)] .auto (.seq (.seq .auto (.block (.loop [(3,.one .ah),(22,.one (.int .i64))] .auto))) .auto))))
theorem c216 (p0:Value)(w:World)(K:Value->World->Prop)(h:C216 p0 w K):Ret Tryz.prog 216 #[p0] w K:=aC (by kernel_rfl) Tryz.func216 (p:=pl216) (Eq.mpr (by kernel_rfl) h)
def C170 (p0:Value)(w:World)(K:Value->World->Prop):Prop:=
 ab Tryz.prog 214 #[p0] w (.v (.one .bool)) (fun(x1:Bool) w2=>aa (!x1)
 (K (.int .i64 2) w2)
 (ab Tryz.prog 215 #[p0] w2 (.aP [.one (.int .i64),.one (.int .i64)]) (fun(x3:Int×Int×Unit) w4=>aa (decide (x3.1 > 60))
 (K (.int .i64 5) w4)
 (aa (decide (x3.2.1 > 12))
 (K (.int .i64 5) w4)
 (ab Tryz.prog 216 #[p0] w4 (.v (.one .ah)) (fun(x5:ao) w6=>bj (Int×Unit) (fun _ s7 w8 Ee=>aa (decide (s7.1<(x5.2.1:Int)))
 (bK x5.1 x5.2.1 s7.1 1 (fun uh=>ae .str uh w8 (fun(aZ:ByteArray)=>eu x5.1 x5.2.2 0 s7.1 x5.2.2 1 (fun a12 R2 c14=>ab Tryz.prog 217 #[.slice a12 R2 c14,.string aZ] w8 (.v (.one .bool)) (fun(bm:Bool) br=>aa bm
 (K (.int .i64 4) br)
 (Ee (IntKind.i64.wrap (s7.1+1),()) br))))))
 (K (.int .i64 0) w8))
 (0,()) w6))))))
def pl170:aB:=(.seq .auto (.seq .auto (.seq .auto (.seq .auto (.seq (.seq .auto (.block (.loop [(26,.one (.int .i64))] .auto))) .auto)))))
theorem c170 (p0:Value)(w:World)(K:Value->World->Prop)(h:C170 p0 w K):Ret Tryz.prog 170 #[p0] w K:=aC (by kernel_rfl) Tryz.func170 (p:=pl170) (Eq.mpr (by kernel_rfl) h)
def C245 (p0:Option Addr)(aI aN:Nat)(p1:Value)(w:World)(K:Value->World->Prop):Prop:=
 ab Tryz.prog 264 #[.slice p0 aI aN,p1] w (.v (.one (.int .i64))) (fun(x1:Int) w2=>K (.bool (decide (x1 >= 0))) w2)
def pl245:aB:=.auto
theorem c245 (p0:Option Addr)(aI aN:Nat)(p1:Value)(w:World)(K:Value->World->Prop)(h:C245 p0 aI aN p1 w K):Ret Tryz.prog 245 #[.slice p0 aI aN,p1] w K:=aC (by kernel_rfl) Tryz.func245 (p:=pl245) (Eq.mpr (by kernel_rfl) h)
def C264 (p0:Option Addr)(aI aN:Nat)(p1:Value)(w:World)(K:Value->World->Prop):Prop:=
 bj (Int×Unit) (fun _ s1 w2 gr=>aa (decide (s1.1<(aI:Int)))
 (bK p0 aI s1.1 1 (fun a4=>ae .raw a4 w2 (fun(x5:Value)=>j9 Tryz.prog p1 [x5] (.v (.one .bool)) w2 (fun(x6:Bool) w7=>aa x6
 (K (.int .i64 s1.1) w7)
 (gr (IntKind.i64.wrap (s1.1+1),()) w7)))))
 (K (.int .i64 (-1)) w2))
 (0,()) w
def pl264:aB:=(.seq .auto (.seq (.seq .auto (.block (.loop [(8,.one (.int .i64))] .auto))) .auto))
theorem c264 (p0:Option Addr)(aI aN:Nat)(p1:Value)(w:World)(K:Value->World->Prop)(h:C264 p0 aI aN p1 w K):Ret Tryz.prog 264 #[.slice p0 aI aN,p1] w K:=aC (by kernel_rfl) Tryz.func264 (p:=pl264) (Eq.mpr (by kernel_rfl) h)
def C217 (p0:Option Addr)(aI aN:Nat)(p1:ByteArray)(w:World)(K:Value->World->Prop):Prop:=
 ab Tryz.prog 248 #[.slice p0 aI aN,.string p1] w (.v (.one (.int .i64))) (fun(x1:Int) w2=>K (.bool (decide (x1 >= 0))) w2)
def pl217:aB:=.auto
theorem c217 (p0:Option Addr)(aI aN:Nat)(p1:ByteArray)(w:World)(K:Value->World->Prop)(h:C217 p0 aI aN p1 w K):Ret Tryz.prog 217 #[.slice p0 aI aN,.string p1] w K:=aC (by kernel_rfl) Tryz.func217 (p:=pl217) (Eq.mpr (by kernel_rfl) h)
def C248 (p0:Option Addr)(aI aN:Nat)(p1:ByteArray)(w:World)(K:Value->World->Prop):Prop:=
 bj (Int×Unit) (fun _ s1 w2 gr=>aa (decide (s1.1<(aI:Int)))
 (bK p0 aI s1.1 1 (fun a4=>ae .str a4 w2 (fun(x5:ByteArray)=>aa (p1.toList==x5.toList)
 (K (.int .i64 s1.1) w2)
 (gr (IntKind.i64.wrap (s1.1+1),()) w2))))
 (K (.int .i64 (-1)) w2))
 (0,()) w
def pl248:aB:=(.seq .auto (.seq (.seq .auto (.block (.loop [(8,.one (.int .i64))] .auto))) .auto))
theorem c248 (p0:Option Addr)(aI aN:Nat)(p1:ByteArray)(w:World)(K:Value->World->Prop)(h:C248 p0 aI aN p1 w K):Ret Tryz.prog 248 #[.slice p0 aI aN,.string p1] w K:=aC (by kernel_rfl) Tryz.func248 (p:=pl248) (Eq.mpr (by kernel_rfl) h)
def iB:Tm->Int
 | .none=>0
 | .zero=>1
 | .one _=>2
 | .gh _=>3
 | .and _ _=>4
 | .or _ _ _=>5
 | .scale _ _=>6
 | .when _ _=>7
 | .cond _ _ _=>8
def gO:Tm->List UInt8×Int
 | .one s=>(s,0)
 | .or s _ _=>(s,0)
 | .when d _=>([],d)
 | _=>([],0)
def eZ:Tm->Ob×Bool
 | .scale o _=>(o,true)
 | .cond o _ _=>(o,true)
 | _=>(.none,false)
def cx:Tm->Bool
 | .none=>false
 | .zero=>true
 | .one s=>eI s
 | .gh t=>cx t
 | .and l r=>cx l&&cx r
 | .or s l r=>eI s&&(cx l&&cx r)
 | .scale o t=>cL o&&cx t
 | .when d t=>decide (0<=d)&&decide (d<=10000)&&cx t
 | .cond o l r=>cL o&&(cx l&&cx r)
def aJ:Tm->Nat
 | .none=>0
 | .zero=>1
 | .one _=>1
 | .gh t=>aJ t+1
 | .and l r=>aJ l+aJ r+1
 | .or _ l r=>aJ l+aJ r+1
 | .scale o t=>bo o+aJ t+1
 | .when _ t=>aJ t+1
 | .cond o l r=>bo o+aJ l+aJ r+1
def cd:Tm->Nat
 | .none=>0
 | .zero=>1
 | .one _=>1
 | .gh t=>cd t+1
 | .and l r=>max (cd l) (cd r)+1
 | .or _ l r=>max (cd l) (cd r)+1
 | .scale o t=>max (cX o) (cd t)+1
 | .when _ t=>cd t+1
 | .cond o l r=>max (max (cX o) (cd l)) (cd r)+1
def fq:Tm->List (List UInt8)
 | .none=>[]
 | .zero=>[]
 | .one _=>[]
 | .gh t=>fq t
 | .and l r=>fq l++fq r
 | .or s l r=>s::(fq l++fq r)
 | .scale _ t=>fq t
 | .when _ t=>fq t
 | .cond _ l r=>fq l++fq r
def jf (t:Tm):Int:=if cx t=false then 2 else if 60<aJ t then 5 else if 12<cd t then 5 else if(fq t).Nodup then 0 else 4
def qS (t:Tm):Nat:=bo (eZ t).1
def ui (t:Tm):Nat:=cX (eZ t).1
def uj:Tm->List (List UInt8)
 | .or s _ _=>[s]
 | _=>[]
theorem Ef (t:Tm):(iB t=0)↔t=.none:=by cases t<;>simp[iB]
theorem Eg (t:Tm)(h:t≠.none):aJ t=qS t+iR ((cR t).map aJ)+1:=by cases t<;>simp[aJ,cR,iR,qS,eZ,bo] at h ⊢<;>omega
theorem R3 (t:Tm)(h:t≠.none):cd t=((cR t).map cd).foldl max (ui t)+1:=by
 cases t<;>simp only[cd,cR,ui,eZ,cX,List.map_cons,List.map_nil,List.foldl_cons,List.foldl_nil] at h ⊢
 all_goals first | omega | exact absurd rfl h
theorem R4 (t:Tm):fq t=uj t++(cR t).flatMap fq:=by cases t<;>simp[fq,cR,uj]
theorem Kc (t:Tm):cd t<=aJ t:=by
 induction t with
 | none=>exact Nat.le_refl _
 | zero=>exact Nat.le_refl _
 | one=>exact Nat.le_refl _
 | gh t ih=>unfold cd aJ;omega
 | when d t ih=>unfold cd aJ;omega
 | and l r a b=>unfold cd aJ;omega
 | or s l r a b=>unfold cd aJ;omega
 | scale o t ih=>unfold cd aJ;have:=AT o;omega
 | cond o l r a b=>unfold cd aJ;have:=AT o;omega
theorem Ke (t:Tm):(fq t).length<=aJ t:=by
 induction t with
 | none=>exact Nat.zero_le _
 | zero=>exact Nat.zero_le _
 | one=>exact Nat.zero_le _
 | gh t ih=>unfold fq aJ;omega
 | when d t ih=>unfold fq aJ;omega
 | and l r a b=>unfold fq aJ;rw[List.length_append];omega
 | or s l r a b=>unfold fq aJ;rw[List.length_cons,List.length_append];omega
 | scale o t ih=>unfold fq aJ;omega
 | cond o l r a b=>unfold fq aJ;rw[List.length_append];omega
def qa (t:Tm):Bool:=!(decide (iB t=0))&&(!(decide (iB t=2\/iB t=5))||eI (gO t).1)&&(decide (0<=(gO t).2)&&decide ((gO t).2<=10000))
theorem R5 (t:Tm):cx t=(qa t&&(!(eZ t).2||cL (eZ t).1)&&!((cR t).any fun k=>!cx k)):=by
 cases t<;>simp[cx,qa,iB,gO,eZ,cR,Bool.and_assoc]
 all_goals rfl
theorem qT (t:Tm)(w:World):Ret Tryz.prog 224 #[t.v] w fun r w'=>r=.int .i64 (iB t)/\w=w':=by
 refine c224 t.v w _ ?_;unfold C224;cases t with
 | none=>exact aj.nil rfl (aj.nil rfl (aj.nil rfl (aj.nil rfl (aj.nil rfl (aj.nil rfl (aj.nil rfl (aj.nil rfl ⟨rfl,rfl⟩)))))))
 | zero=>exact aj.hit () rfl ⟨rfl,rfl⟩
 | one s=>exact aj.aL rfl (by decide) (aj.hit (str s,()) rfl ⟨rfl,rfl⟩)
 | gh t=>exact aj.aL rfl (by decide) (aj.aL rfl (by decide) (aj.hit (t.v,()) rfl ⟨rfl,rfl⟩))
 | and l r=>exact aj.aL rfl (by decide) (aj.aL rfl (by decide) (aj.aL rfl (by decide) (aj.hit (l.v,r.v,()) rfl ⟨rfl,rfl⟩)))
 | or s l r=>exact aj.aL rfl (by decide) (aj.aL rfl (by decide) (aj.aL rfl (by decide) (aj.aL rfl (by decide) (aj.hit (str s,l.v,r.v,()) rfl ⟨rfl,rfl⟩))))
 | scale o t=>exact aj.aL rfl (by decide) (aj.aL rfl (by decide) (aj.aL rfl (by decide) (aj.aL rfl (by decide) (aj.aL rfl (by decide) (aj.hit (o.v,t.v,()) rfl ⟨rfl,rfl⟩)))))
 | when d t=>exact aj.aL rfl (by decide) (aj.aL rfl (by decide) (aj.aL rfl (by decide) (aj.aL rfl (by decide) (aj.aL rfl (by decide) (aj.aL rfl (by decide) (aj.hit (d,t.v,()) rfl ⟨rfl,rfl⟩))))))
 | cond o l r=>exact aj.aL rfl (by decide) (aj.aL rfl (by decide) (aj.aL rfl (by decide) (aj.aL rfl (by decide) (aj.aL rfl (by decide) (aj.aL rfl (by decide) (aj.aL rfl (by decide) (aj.hit (o.v,l.v,r.v,()) rfl ⟨rfl,rfl⟩)))))))
def qU (v:Value)(t:TypeId):Prop:=v=.nilIface\/∃ u x,v=.iface u x/\u≠t
theorem qU.ta {v:Value}{t:TypeId}{k:Kd}{yes:k.C->Prop}{no:Prop}(h:qU v t)(hn:no):aj v t k yes no:=⟨.inr ⟨h,hn⟩⟩
theorem Tm.R8 {t:Tm}(h:∀ s,t≠.one s):qU t.v 216:=by cases t<;>first | exact .inl rfl | exact .inr ⟨_,_,rfl,by decide⟩ | exact absurd rfl (h _)
theorem Tm.not_or {t:Tm}(h:∀ s l r,t≠.or s l r):qU t.v 241:=by cases t<;>first | exact .inl rfl | exact .inr ⟨_,_,rfl,by decide⟩ | exact absurd rfl (h _ _ _)
theorem Tm.Kf {t:Tm}(h:∀ d u,t≠.when d u):qU t.v 247:=by cases t<;>first | exact .inl rfl | exact .inr ⟨_,_,rfl,by decide⟩ | exact absurd rfl (h _ _)
theorem Tm.Kg {t:Tm}(h:∀ o u,t≠.scale o u):qU t.v 245:=by cases t<;>first | exact .inl rfl | exact .inr ⟨_,_,rfl,by decide⟩ | exact absurd rfl (h _ _)
theorem Tm.Kh {t:Tm}(h:∀ o l r,t≠.cond o l r):qU t.v 249:=by cases t<;>first | exact .inl rfl | exact .inr ⟨_,_,rfl,by decide⟩ | exact absurd rfl (h _ _ _)
theorem Tm.R9 {t:Tm}(h:∀ u,t≠.gh u):qU t.v 237:=by cases t<;>first | exact .inl rfl | exact .inr ⟨_,_,rfl,by decide⟩ | exact absurd rfl (h _)
theorem Tm.not_and {t:Tm}(h:∀ l r,t≠.and l r):qU t.v 239:=by cases t<;>first | exact .inl rfl | exact .inr ⟨_,_,rfl,by decide⟩ | exact absurd rfl (h _ _)
theorem pe {w w0:World}{T:TypeId}{zs:List Value}{K:World->Prop}(f0:Fr none1 w w0)(h1:zs.all bJ=true)(h:∀ w4,Fr none1 w w4->K w4):aq (.cells zs.toArray T) w0 (fun g w3=>av ⟨g,0,none⟩ zs w3 fun w4=>K w4):=
 lO rfl h1 fun w4 f=>h w4 (f0.trans f)
theorem Eh (t:Tm)(w:World):Ret Tryz.prog 225 #[t.v] w fun r w'=>r=.tuple #[.string (str (gO t).1),.int .i64 (gO t).2]/\Fr none1 w w':=by
 refine c225 t.v w _ ?_;unfold C225;have f0:=Fr.refl none1 w;have z1:∀ {K:World->Prop},(∀ w4,Fr none1 w w4->K w4)->aq (.cells #[.string (⟨#[]⟩:ByteArray)] 216) w (fun g w3=>av ⟨g,0,none⟩ [.string (⟨#[]⟩:ByteArray)] w3 fun w4=>K w4):=fun h=>pe (zs:=[.string (⟨#[]⟩:ByteArray)]) f0 rfl h;have z2:∀ {w0:World} {K:World->Prop},Fr none1 w w0->(∀ w4,Fr none1 w w4->K w4)->aq (.cells #[.string (⟨#[]⟩:ByteArray),.nilIface,.nilIface] 241) w0 (fun g w3=>av ⟨g,0,none⟩ [.string (⟨#[]⟩:ByteArray),.nilIface,.nilIface] w3 fun w4=>K w4):=fun f h=>pe (zs:=[.string (⟨#[]⟩:ByteArray),.nilIface,.nilIface]) f rfl h;have z3:∀ {w0:World} {K:World->Prop},Fr none1 w w0->(∀ w4,Fr none1 w w4->K w4)->aq (.cells #[.int .i64 0,.nilIface] 247) w0 (fun g w3=>av ⟨g,0,none⟩ [.int .i64 0,.nilIface] w3 fun w4=>K w4):=fun f h=>pe (zs:=[.int .i64 0,.nilIface]) f rfl h;have rest:((∀ s,t≠.one s)/\(∀ s l r,t≠.or s l r)/\∀ d u,t≠.when d u)->gO t=([],0):=by rintro⟨a,b,c⟩;cases t<;>first | rfl | exact absurd rfl (a _) | exact absurd rfl (b _ _ _) | exact absurd rfl (c _ _)
 by_cases h1:∃ s,t=.one s
 ·obtain⟨s,rfl⟩:=h1
  exact aj.hit (str s,()) rfl (cB (zs:=[.string (⟨#[]⟩:ByteArray)]) (vs:=[.string (str s)]) rfl rfl fun g w1 _ hb f1=>ae.ai hb (x:=str s) rfl ⟨rfl,f1⟩)
 have h1:∀ s,t≠.one s:=fun s e=>h1 ⟨s,e⟩;refine(Tm.R8 h1).ta (z1 fun w1 f1=>?_)
 by_cases h2:∃ s l r,t=.or s l r
 ·obtain⟨s,l,r,rfl⟩:=h2
  exact aj.hit (str s,l.v,r.v,()) rfl (cB (zs:=[.string (⟨#[]⟩:ByteArray),.nilIface,.nilIface]) (vs:=[.string (str s),l.v,r.v]) rfl (by simp[Tm.bP,od]) fun g w2 _ hb f2=>ae.ai hb (x:=str s) rfl ⟨rfl,f1.trans f2⟩)
 have h2:∀ s l r,t≠.or s l r:=fun s l r e=>h2 ⟨s,l,r,e⟩;refine(Tm.not_or h2).ta (z2 f1 fun w2 f2=>?_)
 by_cases h3:∃ d u,t=.when d u
 ·obtain⟨d,u,rfl⟩:=h3
  refine aj.hit (d,u.v,()) rfl (cB (zs:=[.int .i64 0,.nilIface]) (vs:=[.int .i64 d,u.v]) rfl (by simp[Tm.bP,pc]) fun g w3 _ hb f3=>?_);refine aH.of fun w4 hh f4=>?_;exact ae.ai (f4.af hb) (x:=d) rfl ⟨rfl,(f2.trans f3).trans f4⟩
 have h3:∀ d u,t≠.when d u:=fun d u e=>h3 ⟨d,u,e⟩;refine(Tm.Kf h3).ta (z3 f2 fun w3 f3=>?_);rw[rest ⟨h1,h2,h3⟩];exact⟨rfl,f3⟩
theorem AV (t:Tm)(w:World):Ret Tryz.prog 226 #[t.v] w fun r w'=>r=.tuple #[(eZ t).1.v,.bool (eZ t).2]/\Fr none1 w w':=by
 refine c226 t.v w _ ?_;unfold C226;have f0:=Fr.refl none1 w;have z1:∀ {K:World->Prop},(∀ w4,Fr none1 w w4->K w4)->aq (.cells #[.nilIface,.nilIface] 245) w (fun g w3=>av ⟨g,0,none⟩ [.nilIface,.nilIface] w3 fun w4=>K w4):=fun h=>pe (zs:=[.nilIface,.nilIface]) f0 rfl h;have z2:∀ {w0:World} {K:World->Prop},Fr none1 w w0->(∀ w4,Fr none1 w w4->K w4)->aq (.cells #[.nilIface,.nilIface,.nilIface] 249) w0 (fun g w3=>av ⟨g,0,none⟩ [.nilIface,.nilIface,.nilIface] w3 fun w4=>K w4):=fun f h=>pe (zs:=[.nilIface,.nilIface,.nilIface]) f rfl h;have rest:((∀ o u,t≠.scale o u)/\∀ o l r,t≠.cond o l r)->eZ t=(.none,false):=by rintro⟨a,b⟩;cases t<;>first | rfl | exact absurd rfl (a _ _) | exact absurd rfl (b _ _ _)
 by_cases h1:∃ o u,t=.scale o u
 ·obtain⟨o,u,rfl⟩:=h1
  exact aj.hit (o.v,u.v,()) rfl (cB (zs:=[.nilIface,.nilIface]) (vs:=[o.v,u.v]) rfl (by simp[Tm.bP,Ob.bP]) fun g w1 _ hb f1=>ae.ai (c:=.raw) hb (x:=o.v) rfl ⟨rfl,f1⟩)
 have h1:∀ o u,t≠.scale o u:=fun o u e=>h1 ⟨o,u,e⟩;refine(Tm.Kg h1).ta (z1 fun w1 f1=>?_)
 by_cases h2:∃ o l r,t=.cond o l r
 ·obtain⟨o,l,r,rfl⟩:=h2
  exact aj.hit (o.v,l.v,r.v,()) rfl (cB (zs:=[.nilIface,.nilIface,.nilIface]) (vs:=[o.v,l.v,r.v]) rfl (by simp[Tm.bP,Ob.bP]) fun g w2 _ hb f2=>ae.ai (c:=.raw) hb (x:=o.v) rfl ⟨rfl,f1.trans f2⟩)
 have h2:∀ o l r,t≠.cond o l r:=fun o l r e=>h2 ⟨o,l,r,e⟩;refine(Tm.Kh h2).ta (z2 f1 fun w2 f2=>?_);rw[rest ⟨h1,h2⟩];exact⟨rfl,f2⟩
theorem yc (t:Tm)(w:World):Ret Tryz.prog 229 #[t.v] w fun r w'=>∃ u:Sl,r=.slice u.1 u.2.1 u.2.2/\mD w' u (cR t)/\Fr none1 w w'/\∀ k,au u k->w.heap.size<=k:=by
 refine c229 t.v w _ ?_;unfold C229;have f0:=Fr.refl none1 w;have zn:∀ {w0:World} {T:TypeId} {K:World->Prop},Fr none1 w w0->(∀ w4,Fr none1 w w4->K w4)->aq (.cells #[.nilIface] T) w0 (fun g w3=>av ⟨g,0,none⟩ [.nilIface] w3 fun w4=>K w4):=fun f h=>pe (zs:=[.nilIface]) f rfl h;have Ki:∀ {w0:World} {T:TypeId} {K:World->Prop},Fr none1 w w0->(∀ w4,Fr none1 w w4->K w4)->aq (.cells #[.nilIface,.nilIface] T) w0 (fun g w3=>av ⟨g,0,none⟩ [.nilIface,.nilIface] w3 fun w4=>K w4):=fun f h=>pe (zs:=[.nilIface,.nilIface]) f rfl h;have Sa:∀ {w0:World} {T:TypeId} {K:World->Prop},Fr none1 w w0->(∀ w4,Fr none1 w w4->K w4)->aq (.cells #[.string (⟨#[]⟩:ByteArray),.nilIface,.nilIface] T) w0 (fun g w3=>av ⟨g,0,none⟩ [.string (⟨#[]⟩:ByteArray),.nilIface,.nilIface] w3 fun w4=>K w4):=fun f h=>pe (zs:=[.string (⟨#[]⟩:ByteArray),.nilIface,.nilIface]) f rfl h;have Sb:∀ {w0:World} {T:TypeId} {K:World->Prop},Fr none1 w w0->(∀ w4,Fr none1 w w4->K w4)->aq (.cells #[.int .i64 0,.nilIface] T) w0 (fun g w3=>av ⟨g,0,none⟩ [.int .i64 0,.nilIface] w3 fun w4=>K w4):=fun f h=>pe (zs:=[.int .i64 0,.nilIface]) f rfl h;have Sc:∀ {w0:World} {T:TypeId} {K:World->Prop},Fr none1 w w0->(∀ w4,Fr none1 w w4->K w4)->aq (.cells #[.nilIface,.nilIface,.nilIface] T) w0 (fun g w3=>av ⟨g,0,none⟩ [.nilIface,.nilIface,.nilIface] w3 fun w4=>K w4):=fun f h=>pe (zs:=[.nilIface,.nilIface,.nilIface]) f rfl h;have rest:(∀ u,t≠.gh u)->(∀ l r,t≠.and l r)->(∀ s l r,t≠.or s l r)->(∀ o u,t≠.scale o u)->(∀ d u,t≠.when d u)->(∀ o l r,t≠.cond o l r)->cR t=[]:=by
  intro a b c d e f;cases t<;>first | rfl | exact absurd rfl (a _) | exact absurd rfl (b _ _) | exact absurd rfl (c _ _ _) | exact absurd rfl (d _ _) | exact absurd rfl (e _ _) | exact absurd rfl (f _ _ _)
 by_cases h1:∃ u,t=.gh u
 ·obtain⟨u,rfl⟩:=h1
  exact aj.hit (u.v,()) rfl (AQ (zs:=[.nilIface]) (vs:=[u.v]) vJ rfl (by simp[Tm.bP]) rfl u.fp fun x w' hx _ f xf=>⟨x,rfl,hx,f,xf⟩)
 have h1:∀ u,t≠.gh u:=fun u e=>h1 ⟨u,e⟩;refine(Tm.R9 h1).ta (zn f0 fun w1 f1=>?_)
 by_cases h2:∃ l r,t=.and l r
 ·obtain⟨l,r,rfl⟩:=h2
  exact aj.hit (l.v,r.v,()) rfl (AR (zs:=[.nilIface,.nilIface]) (vs:=[l.v,r.v]) vJ rfl (by simp[Tm.bP]) rfl rfl l.fp r.fp fun x w' hx _ f xf=>⟨x,rfl,hx,f1.trans f,fun k U=>Nat.le_trans f1.size (xf k U)⟩)
 have h2:∀ l r,t≠.and l r:=fun l r e=>h2 ⟨l,r,e⟩;refine(Tm.not_and h2).ta (Ki f1 fun w2 f2=>?_)
 by_cases h3:∃ s l r,t=.or s l r
 ·obtain⟨s,l,r,rfl⟩:=h3
  exact aj.hit (str s,l.v,r.v,()) rfl (AR (zs:=[.string (⟨#[]⟩:ByteArray),.nilIface,.nilIface]) (vs:=[.string (str s),l.v,r.v]) vJ rfl (by simp[Tm.bP,od]) rfl rfl l.fp r.fp fun x w' hx _ f xf=>⟨x,rfl,hx,f2.trans f,fun k U=>Nat.le_trans f2.size (xf k U)⟩)
 have h3:∀ s l r,t≠.or s l r:=fun s l r e=>h3 ⟨s,l,r,e⟩;refine(Tm.not_or h3).ta (Sa f2 fun w3 f3=>?_)
 by_cases h4:∃ o u,t=.scale o u
 ·obtain⟨o,u,rfl⟩:=h4
  exact aj.hit (o.v,u.v,()) rfl (AQ (zs:=[.nilIface,.nilIface]) (vs:=[o.v,u.v]) vJ rfl (by simp[Tm.bP,Ob.bP]) rfl u.fp fun x w' hx _ f xf=>⟨x,rfl,hx,f3.trans f,fun k U=>Nat.le_trans f3.size (xf k U)⟩)
 have h4:∀ o u,t≠.scale o u:=fun o u e=>h4 ⟨o,u,e⟩;refine(Tm.Kg h4).ta (Ki f3 fun w4 f4=>?_)
 by_cases h5:∃ d u,t=.when d u
 ·obtain⟨d,u,rfl⟩:=h5
  exact aj.hit (d,u.v,()) rfl (AQ (zs:=[.int .i64 0,.nilIface]) (vs:=[.int .i64 d,u.v]) vJ rfl (by simp[Tm.bP,pc]) rfl u.fp fun x w' hx _ f xf=>⟨x,rfl,hx,f4.trans f,fun k U=>Nat.le_trans f4.size (xf k U)⟩)
 have h5:∀ d u,t≠.when d u:=fun d u e=>h5 ⟨d,u,e⟩;refine(Tm.Kf h5).ta (Sb f4 fun w5 f5=>?_)
 by_cases h6:∃ o l r,t=.cond o l r
 ·obtain⟨o,l,r,rfl⟩:=h6
  exact aj.hit (o.v,l.v,r.v,()) rfl (AR (zs:=[.nilIface,.nilIface,.nilIface]) (vs:=[o.v,l.v,r.v]) vJ rfl (by simp[Tm.bP,Ob.bP]) rfl rfl l.fp r.fp fun x w' hx _ f xf=>⟨x,rfl,hx,f5.trans f,fun k U=>Nat.le_trans f5.size (xf k U)⟩)
 have h6:∀ o l r,t≠.cond o l r:=fun o l r e=>h6 ⟨o,l,r,e⟩;refine(Tm.Kh h6).ta (Sc f5 fun w6 f6=>?_);rw[rest h1 h2 h3 h4 h5 h6];exact⟨_,rfl,RQ _,f6,fun k t=>(jP k t).elim⟩
theorem Sd (l:List Nat)(b n:Nat):(l++[n]).foldl max b=max (l.foldl max b) n:=by rw[List.foldl_append];rfl
theorem Kj (t:Tm)(hn:aJ t<=1000000)(w:World):Ret Tryz.prog 215 #[t.v] w fun r w'=>r=.tuple #[.int .i64 (aJ t:Int),.int .i64 (cd t:Int)]/\Fr none1 w w':=by
 refine c215 t.v w _ ?_;have ih:∀ k∈cR t,aJ k<=1000000->∀ w,Ret Tryz.prog 215 #[k.v] w fun r w'=>r=.tuple #[.int .i64 (aJ k:Int),.int .i64 (cd k:Int)]/\Fr none1 w w':=fun k U hn w=>Kj k hn w;refine ab.of (qT t w) ?_;rintro _ _ ⟨rfl,rfl⟩;refine⟨_,rfl,aa.eq (fun h=>?_) (fun h=>?_)⟩
 ·rw[Ef] at h
  subst h;exact⟨rfl,Fr.refl _ _⟩
 rw[Ne,Ef] at h;have hN:=Eg t h;have hD:=R3 t h;refine bQ.of (fun s w'=>s=((qS t:Int),(ui t:Int),())/\Fr none1 w w') ?_ ?_
 ·refine ab.of (AV t w) ?_
  rintro _ w1 ⟨rfl,f1⟩;refine⟨((eZ t).1.v,(eZ t).2,()),rfl,aa.by (fun hb=>?_) (fun hb=>?_)⟩
  ·refine ab.of (Eb (eZ t).1 (by unfold qS at hN;omega) w1) ?_
   rintro _ w2 ⟨rfl,f2⟩;exact⟨((qS t:Int),(ui t:Int),()),rfl,rfl,f1.trans f2⟩
  ·refine⟨?_,f1⟩
   have:eZ t=(.none,false):=by cases t<;>first | rfl | exact absurd hb (by simp[eZ])
   unfold qS ui;rw[this];rfl
 rintro _ s w1 ⟨rfl,f1⟩;dsimp only;refine ab.of (yc t w1) ?_;rintro _ w2 ⟨u,rfl,hu,f2,uf⟩;refine⟨u,rfl,?_⟩;have cS:=hu.len;have xZ:=AP t;refine bj.of (fun s w'=>∃ i:Nat,s.2.2.1=i/\i<=(cR t).length/\s.1=((qS t+iR (((cR t).take i).map aJ):Nat):Int)/\s.2.1=((((cR t).take i).map cd).foldl max (ui t):Nat)/\Fr none1 w w'/\mD w' u (cR t)) (fun s _=>(2 - s.2.2.1).toNat)
  ⟨0,rfl,Nat.zero_le _,rfl,rfl,f1.trans f2,hu⟩ ?_
 rintro _ ⟨a,b,i',_⟩ w3 ⟨i,hi,iz,ha,hb,f3,ke⟩;dsimp only at hi ha hb ⊢;subst hi ha hb;have hle:∀ i,iR (((cR t).take i).map aJ)+qS t<=aJ t:=fun i=>by
  rw[hN,List.map_take];have:=vL ((cR t).map aJ) i;omega
 have Se:=hle i;refine aa.dec (fun aU=>?_) (fun dh=>?_)
 ·have eJ:i<(cR t).length:=by omega
  obtain⟨k,U⟩:∃ k,(cR t)[i]? = some k:=⟨_,List.getElem?_eq_getElem eJ⟩;have nx:=List.mem_of_getElem? U;have qQ:=hle (i+1);rw[qP _ _ _ U,ud] at qQ;refine ke.ld U ?_;refine ab.of (ih k nx (by omega) w3) ?_;rintro _ w4 ⟨rfl,f4⟩;refine⟨((aJ k:Int),(cd k:Int),()),rfl,?_⟩;dsimp only;have RZ:=Kc k;refine⟨⟨i+1,by rw[wI (by omega) (by omega)];omega,by omega,?_,?_,f3.trans f4,ke.af f4⟩,by rw[wI (by omega) (by omega)];omega⟩
  ·rw[qP _ _ _ U,ud,wI (by omega) (by omega)]
   omega
  ·rw[qP _ _ _ U,Sd]
   by_cases hm:(((cR t).take i).map cd).foldl max (ui t)<cd k
   ·rw[if_pos (by omega)];omega
   ·rw[if_neg (by omega)];omega
 ·have:i=(cR t).length:=by omega
  subst this;rw[List.take_length];rw[List.take_length] at Se;have hd:=Kc t;rw[hN];rw[hD] at hd ⊢;rw[wI (by omega) (by omega),wI (by omega) (by omega)];exact⟨by simp,f3⟩
termination_by SizeOf.sizeOf t
decreasing_by exact AN U
theorem Kk (t:Tm)(hn:aJ t<=1000000)(w:World):Ret Tryz.prog 214 #[t.v] w fun r w'=>r=.bool (cx t)/\Fr none1 w w':=by
 refine c214 t.v w _ ?_;unfold C214;have ih:∀ k∈cR t,aJ k<=1000000->∀ w,Ret Tryz.prog 214 #[k.v] w fun r w'=>r=.bool (cx k)/\Fr none1 w w':=fun k U hn w=>Kk k hn w;have Sf:∀ w,Ret Tryz.prog 224 #[.iface 216 (.agg #[.string (⟨#[]⟩:ByteArray)])] w fun r w'=>r=.int .i64 2/\w=w':=fun w=>qT (.one []) w;have Sg:∀ w,Ret Tryz.prog 224 #[.iface 241 (.agg #[.string (⟨#[]⟩:ByteArray),.nilIface,.nilIface])] w fun r w'=>r=.int .i64 5/\w=w':=fun w=>qT (.or [] .none .none) w;refine ab.of (Eh t w) ?_;rintro _ w1 ⟨rfl,f1⟩;refine⟨(str (gO t).1,(gO t).2,()),rfl,?_⟩;dsimp only;refine bQ.of (fun s w'=>s.1=decide (iB t=2\/iB t=5)/\w1=w') ?_ ?_
 ·refine ab.of (qT t w1) ?_
  rintro _ _ ⟨rfl,rfl⟩;refine⟨_,rfl,?_⟩;refine ab.of (Sf w1) ?_;rintro _ _ ⟨rfl,rfl⟩;refine⟨_,rfl,aa.eq (fun h=>⟨by rw[decide_eq_true (.inl h)],rfl⟩) (fun h=>?_)⟩;refine ab.of (qT t w1) ?_;rintro _ _ ⟨rfl,rfl⟩;refine⟨_,rfl,?_⟩;refine ab.of (Sg w1) ?_;rintro _ _ ⟨rfl,rfl⟩;refine⟨_,rfl,?_,rfl⟩;dsimp only
  by_cases h5:iB t=5
  ·rw[decide_eq_true (.inr h5),h5];rfl
  ·rw[decide_eq_false (by rintro(h' | h')<;>contradiction)];simpa using h5
 rintro _ ⟨s,_⟩ _ ⟨hs,rfl⟩;dsimp only at hs ⊢;subst hs;have abd:∀ w2,Fr none1 w w2->(aa (decide ((gO t).2<0)) True True->True):=fun _ _ _=>trivial;refine bQ.of (fun s w'=>s.1=!qa t/\Fr none1 w w') ?_ ?_
 ·refine ab.of (qT t w1) ?_
  rintro _ _ ⟨rfl,rfl⟩;have days:∀ w2,Fr none1 w w2->iB t≠0->(decide (iB t=2\/iB t=5)=true->eI (gO t).1=true)->aa (decide ((gO t).2<0)) (true=(!qa t)/\Fr none1 w w2) (decide ((gO t).2 > 10000)=(!qa t)/\Fr none1 w w2):=fun w2 f2 h0 jv=>by
   have e:qa t=(decide (0<=(gO t).2)&&decide ((gO t).2<=10000)):=by
    unfold qa;rw[decide_eq_false h0];cases hd:decide (iB t=2\/iB t=5) with
    | true=>rw[jv hd];rfl
    | false=>rfl
   rw[e];refine aa.dec (fun h=>⟨?_,f2⟩) (fun h=>⟨?_,f2⟩)
   ·rw[decide_eq_false (p:=0<=(gO t).2) (by omega)];rfl
   ·rw[decide_eq_true (p:=0<=(gO t).2) (by omega),Bool.true_and]
    by_cases h2:(gO t).2<=10000
    ·rw[decide_eq_true h2,decide_eq_false (by omega)];rfl
    ·rw[decide_eq_false h2,decide_eq_true (by omega)];rfl
  refine⟨_,rfl,aa.eq (fun h=>⟨?_,f1⟩) (fun h=>?_)⟩
  ·dsimp only;unfold qa;rw[decide_eq_true h];rfl
  refine aa.by (fun kf=>?_) (fun kf=>?_)
  ·refine ab.of (tT (gO t).1 w1) ?_
   rintro _ w2 ⟨rfl,f2⟩;refine⟨_,rfl,aa.not (aa.by (fun jv=>?_) (fun jv=>?_))⟩
   ·exact days w2 (f1.trans f2) h fun _=>jv
   ·refine⟨?_,f1.trans f2⟩
    dsimp only;unfold qa eI;rw[kf,jv];simp
  ·exact days w1 f1 h fun e=>by rw[kf] at e;cases e
 rintro _ ⟨s,_⟩ w2 ⟨hs,f2⟩;dsimp only at hs ⊢;subst hs;rw[R5 t];refine aa.not (aa.by (fun ho=>?_) (fun ho=>?_))
 case refine_2=>rw[ho];exact⟨rfl,f2⟩
 rw[ho,Bool.true_and];have hnd:t≠.none:=fun e=>by rw[e] at ho;exact absurd ho (by simp[qa,iB])
 have hN:=Eg t hnd;have kids:∀ w3,Fr none1 w w3->ab Tryz.prog 229 #[t.v] w3 (.v (.one .ah)) (fun(bG:Option Addr×Nat×Nat) bZ=>ab Tryz.prog 245 #[.slice bG.1 bG.2.1 bG.2.2,.func (.func 246) #[] #[]] bZ (.v (.one .bool)) (fun(cE:Bool) bV=>
   (.bool (!cE):Value)=.bool (true&&!((cR t).any fun k=>!cx k))/\Fr none1 w bV)):=fun w3 f3=>by
  refine ab.of (yc t w3) ?_;rintro _ w4 ⟨u,rfl,hu,f4,_⟩;refine⟨u,rfl,?_⟩;have cS:=hu.len;have xZ:=AP t;have hc:Ret Tryz.prog 245 #[.slice u.1 u.2.1 u.2.2,.func (.func 246) #[] #[]] w4 fun r w'=>r=.bool ((cR t).any fun k=>!cx k)/\Fr none1 w4 w':=by
   refine c245 u.1 u.2.1 u.2.2 _ w4 _ ?_;have hx:Ret Tryz.prog 264 #[.slice u.1 u.2.1 u.2.2,.func (.func 246) #[] #[]] w4 fun r w'=>(∃ i:Int,r=.int .i64 i/\decide (i >= 0)=(cR t).any fun k=>!cx k)/\Fr none1 w4 w':=by
    refine c264 u.1 u.2.1 u.2.2 _ w4 _ ?_;refine bj.of (fun s w'=>∃ i:Nat,s.1=i/\i<=(cR t).length/\((cR t).take i).any (fun k=>!cx k)=false/\Fr none1 w4 w'/\mD w' u (cR t)) (fun s _=>(2 - s.1).toNat) ⟨0,rfl,Nat.zero_le _,rfl,Fr.refl _ _,hu⟩ ?_;rintro _ ⟨i',_⟩ w5 ⟨i,hi,iz,hall,f5,mE⟩;dsimp only at hi ⊢;subst hi;refine aa.dec (fun aU=>?_) (fun dh=>?_)
    ·have eJ:i<(cR t).length:=by omega
     obtain⟨k,U⟩:∃ k,(cR t)[i]? = some k:=⟨_,List.getElem?_eq_getElem eJ⟩;refine mE.ld U ?_;have nx:=List.mem_of_getElem? U;have qQ:aJ k<=1000000:=by
      have:=vL ((cR t).map aJ) (i+1);rw[<- List.map_take,qP _ _ _ U,ud] at this;omega
     have vP:Ret Tryz.prog 246 #[k.v] w5 fun r w'=>r=.bool (!cx k)/\Fr none1 w5 w':=by
      refine c246 k.v w5 _ ?_;refine ab.of (ih k nx qQ w5) ?_;rintro _ w6 ⟨rfl,f6⟩;exact⟨_,rfl,rfl,f6⟩
     refine lC (by kernel_rfl) Tryz.func246 (by kernel_rfl) (vP.mono ?_);rintro _ w6 ⟨rfl,f6⟩;refine⟨_,rfl,aa.by (fun hb=>?_) (fun hb=>?_)⟩
     ·refine⟨⟨(i:Int),rfl,?_⟩,f5.trans f6⟩
      rw[decide_eq_true (by omega),eq_comm,List.any_eq_true];exact⟨k,nx,hb⟩
     ·refine⟨⟨i+1,by rw[wI (by omega) (by omega)];omega,by omega,?_,f5.trans f6,mE.af f6⟩,by rw[wI (by omega) (by omega)];omega⟩
      rw[List.take_add_one,U,List.any_append,hall];simpa using hb
    ·refine⟨⟨-1,rfl,?_⟩,f5⟩
     rw[List.take_of_length_le (by omega)] at hall;rw[hall];rfl
   refine ab.of hx ?_;rintro _ w5 ⟨⟨i,rfl,hi⟩,f5⟩;exact⟨_,rfl,by rw[hi],f5⟩
  refine ab.of hc ?_;rintro _ w5 ⟨rfl,f5⟩;exact⟨_,rfl,by rw[Bool.true_and],(f3.trans f4).trans f5⟩
 refine ab.of (AV t w2) ?_;rintro _ w3 ⟨rfl,f3⟩;refine⟨((eZ t).1.v,(eZ t).2,()),rfl,aa.by (fun hb=>?_) (fun hb=>?_)⟩
 ·dsimp only at hb ⊢
  rw[hb];refine ab.of (Ec (eZ t).1 (by unfold qS at hN;omega) w3) ?_;rintro _ w4 ⟨rfl,f4⟩;have Kl:(ub (eZ t).1=2)↔cL (eZ t).1=false:=by
   unfold ub
   constructor
   ·intro h
    by_cases hf:cL (eZ t).1=false
    ·exact hf
    ·rw[if_neg hf] at h
     repeat' split at h
     all_goals omega
   ·intro h;rw[if_pos h]
  refine⟨_,rfl,aa.eq (fun h=>?_) (fun h=>?_)⟩
  ·rw[Kl.1 h];exact⟨by simp,(f2.trans f3).trans f4⟩
  ·have:cL (eZ t).1=true:=by
    cases hf:cL (eZ t).1 with
    | true=>rfl
    | false=>exact absurd (Kl.2 hf) h
   rw[this];exact kids w4 ((f2.trans f3).trans f4)
 ·dsimp only at hb ⊢
  rw[hb];exact kids w3 (f2.trans f3)
termination_by SizeOf.sizeOf t
decreasing_by exact AN U
def sv (s:List UInt8):Value:=.string (str s)
def gi (w:World)(v:Sl)(l:List (List UInt8)):Prop:=aD w 9 1 v (l.map sv)
theorem gi.af {w w':World}{v:Sl}{l:List (List UInt8)}(h:gi w v l)(f:Fr none1 w w'):gi w' v l:=aD.af h f
theorem gi.len {w:World}{v:Sl}{l:List (List UInt8)}(h:gi w v l):v.2.1=l.length:=by have:=aD.len h;rw[List.length_map,Nat.mul_one] at this;exact this.symm
theorem gi.ld {w:World}{v:Sl}{l:List (List UInt8)}(h:gi w v l){i:Nat}{s:List UInt8}(ho:l[i]? = some s){K:ByteArray->Prop}(k:K (str s)):bK v.1 v.2.1 (i:Int) 1 fun p=>ae .str p w K:=by
 have hi:=(List.getElem?_eq_some_iff.1 ho).1;have hl:=h.len;refine aD.ld h (by omega) (by omega) (c:=.str) (x:=str s) ?_ k;rw[Int.toNat_natCast,List.getElem?_map,ho];rfl
theorem yd (w:World):gi w (none,0,0) []:=.inl ⟨rfl,rfl⟩
theorem Sh (l:List (List UInt8)):∀ v∈l.map sv,bJ v=true:=by intro v hv;obtain⟨s,_,rfl⟩:=List.mem_map.1 hv;rfl
theorem Km {w:World}{x y:Sl}{xs ys:List (List UInt8)}(hx:gi w x xs)(hy:db w 1 y (ys.map sv))(hl:xs.length+ys.length<=100000000):
  ∃ (v:Sl) (w':World),(Builtin.append_ #[51,51] 51 #[.slice x.1 x.2.1 x.2.2,.slice y.1 y.2.1 y.2.2]).run Tryz.prog w=.ok (.slice v.1 v.2.1 v.2.2) w'/\gi w' v (xs++ys)/\Fr (au x) w w'/\(∀ k,au v k->au x k\/w.heap.size<=k):=by
 have e1:=hx.len;have e2:y.2.1=ys.length:=by have:=hy.1;rw[List.length_map,Nat.mul_one] at this;exact this.symm
 obtain⟨v,w',a,b,_,c,d⟩:=gb (P:=Tryz.prog) (s:=1) (xs:=xs.map sv) (ys:=ys.map sv) vK 51 hx hy (Sh ys) (by rw[e1,e2];omega);exact⟨v,w',a,by unfold gi;rw[List.map_append];exact b,c,d⟩
theorem Kn (t:Tm)(hn:aJ t<=1000000)(w:World):Ret Tryz.prog 216 #[t.v] w fun r w'=>∃ u:Sl,r=.slice u.1 u.2.1 u.2.2/\gi w' u (fq t)/\Fr none1 w w'/\∀ k,au u k->w.heap.size<=k:=by
 refine c216 t.v w _ ?_;have ih:∀ k∈cR t,aJ k<=1000000->∀ w,Ret Tryz.prog 216 #[k.v] w fun r w'=>∃ u:Sl,r=.slice u.1 u.2.1 u.2.2/\gi w' u (fq k)/\Fr none1 w w'/\∀ k,au u k->w.heap.size<=k:=fun k U hn w=>Kn k hn w;have f0:=Fr.refl none1 w;refine bQ.of (fun s w'=>gi w' s.1 (uj t)/\Fr none1 w w'/\∀ k,au s.1 k->w.heap.size<=k) ?_ ?_
 ·by_cases h2:∃ s l r,t=.or s l r
  ·obtain⟨s,l,r,rfl⟩:=h2
   refine aj.hit (str s,l.v,r.v,()) rfl (cB (zs:=[.string (⟨#[]⟩:ByteArray),.nilIface,.nilIface]) (vs:=[.string (str s),l.v,r.v]) rfl (by simp[Tm.bP,od]) fun g w2 _ hb f2=>ae.ai hb (x:=str s) rfl ?_);obtain⟨u,w3,hr,hu,cS,f3,uf⟩:=kX (P:=Tryz.prog) (w:=w2) vK (sv s) rfl;refine⟨u,w3,hr,?_⟩;obtain⟨x,w4,ye,hx,f4,xf⟩:=Km (yd w3) (ys:=[s]) hu.rd (by simp);refine⟨x,w4,ye,hx,(f2.trans f3).comp f4 (fun k _ t=>(jP k t).elim),fun k U=>?_⟩
   rcases xf k U with t | t
   ·exact(jP k t).elim
   ·have:=(f2.trans f3).size;omega
  ·have h2:∀ s l r,t≠.or s l r:=fun s l r e=>h2 ⟨s,l,r,e⟩
   refine(Tm.not_or h2).ta (pe (zs:=[.string (⟨#[]⟩:ByteArray),.nilIface,.nilIface]) f0 rfl fun w1 f1=>⟨?_,f1,fun k t=>(jP k t).elim⟩);have:uj t=[]:=by cases t<;>first | rfl | exact absurd rfl (h2 _ _ _)
   rw[this];exact yd _
 rintro _ ⟨s,_⟩ w1 ⟨hs,f1,sf⟩;dsimp only at hs sf ⊢;refine ab.of (yc t w1) ?_;rintro _ w2 ⟨u,rfl,hu,f2,uf⟩;refine⟨u,rfl,?_⟩;have cS:=hu.len;have xZ:=AP t;have hL:=R4 t;have hlen:=Ke t;have Si:∀ i,(uj t++((cR t).take i).flatMap fq).length<=aJ t:=fun i=>by
  have:(fq t).length=(uj t++((cR t).take i).flatMap fq).length+(((cR t).drop i).flatMap fq).length:=by
   rw[hL]
   conv=>lhs;rw[<- List.take_append_drop i (cR t)]
   rw[List.flatMap_append];simp only[List.length_append];omega
  omega
 have abe:∀ k,au u k->k<w2.heap.size:=fun k U=>aD.lt hu U;refine bj.of (fun s w'=>∃ i:Nat,s.2.1=i/\i<=(cR t).length/\gi w' s.1 (uj t++((cR t).take i).flatMap fq)/\Fr none1 w w'/\mD w' u (cR t)/\(∀ k,au s.1 k->w.heap.size<=k/\¬ au u k)) (fun s _=>(2 - s.2.1).toNat)
  ⟨0,rfl,Nat.zero_le _,by simpa using hs.af f2,f1.trans f2,hu,fun k U=>⟨sf k U,fun t=>by have:=uf k t;have:=aD.lt hs U;omega⟩⟩ ?_
 rintro _ ⟨v,i',_⟩ w3 ⟨i,hi,iz,hv,f3,ke,vf⟩;dsimp only at hi hv vf ⊢;subst hi;refine aa.dec (fun aU=>?_) (fun dh=>?_)
 ·have eJ:i<(cR t).length:=by omega
  obtain⟨k,U⟩:∃ k,(cR t)[i]? = some k:=⟨_,List.getElem?_eq_getElem eJ⟩;have nx:=List.mem_of_getElem? U;have hb:=Si (i+1);rw[List.take_add_one,U] at hb;simp only[Option.toList_some,List.flatMap_append,List.flatMap_cons,List.flatMap_nil,List.append_nil,List.length_append] at hb;refine ke.ld U ?_;have qQ:aJ k<=1000000:=by
   have hnd:t≠.none:=fun e=>by rw[e] at eJ;exact absurd eJ (by simp[cR])
   have hN:=Eg t hnd;have:=vL ((cR t).map aJ) (i+1);rw[<- List.map_take,qP _ _ _ U,ud] at this;omega
  refine ab.of (ih k nx qQ w3) ?_;rintro _ w4 ⟨x,rfl,hx,f4,xf⟩;refine⟨x,rfl,?_⟩;obtain⟨y,w5,Ei,hy,f5,yf⟩:=Km (hv.af f4) (aD.rd hx) (by rw[List.length_append];omega);have ult:=fun k (U:au u k)=>aD.lt ke U;refine⟨y,w5,Ei,⟨i+1,by rw[wI (by omega) (by omega)];omega,by omega,?_,(f3.trans f4).comp f5 (fun k _ t=>by have:=(vf k t).1;omega),aD.ag (ke.af f4) f5 (fun k U t=>(vf k t).2 U),fun k U=>?_⟩,by rw[wI (by omega) (by omega)];omega⟩
  ·rw[List.take_add_one,U]
   simp only[Option.toList_some,List.flatMap_append,List.flatMap_cons,List.flatMap_nil,List.append_nil];rw[<- List.append_assoc];exact hy
  ·rcases yf k U with t | t
   ·exact vf k t
   ·have:=(f3.trans f4).size
    have:=f4.size;exact⟨by omega,fun q=>by have:=ult k q;omega⟩
 ·have:i=(cR t).length:=by omega
  subst this;rw[List.take_length,<- hL] at hv;exact⟨v,rfl,hv,f3,fun k U=>(vf k U).1⟩
termination_by SizeOf.sizeOf t
decreasing_by exact AN U
theorem Ko {w:World}{v:Sl}{l:List (List UInt8)}(h:db w 1 v (l.map sv))(hl:l.length<=100000000)(s:List UInt8):
  Ret Tryz.prog 217 #[.slice v.1 v.2.1 v.2.2,.string (str s)] w fun r w'=>r=.bool (decide (s∈l))/\w=w':=by
 have hlen:v.2.1=l.length:=by have:=h.1;rw[List.length_map,Nat.mul_one] at this;exact this.symm
 refine c217 v.1 v.2.1 v.2.2 (str s) w _ ?_;have hx:Ret Tryz.prog 248 #[.slice v.1 v.2.1 v.2.2,.string (str s)] w fun r w'=>(∃ i:Int,r=.int .i64 i/\decide (i >= 0)=decide (s∈l))/\w=w':=by
  refine c248 v.1 v.2.1 v.2.2 (str s) w _ ?_;refine bj.of (fun st w'=>∃ i:Nat,st.1=i/\i<=l.length/\s ∉ l.take i/\w=w') (fun st _=>(v.2.1 - st.1).toNat) ⟨0,rfl,Nat.zero_le _,by simp,rfl⟩ ?_;rintro _ ⟨i',_⟩ _ ⟨i,hi,iz,gB,rfl⟩;dsimp only at hi ⊢;subst hi;refine aa.dec (fun aU=>?_) (fun dh=>?_)
  ·have eJ:i<l.length:=by omega
   obtain⟨x,hx⟩:∃ x,l[i]? = some x:=⟨_,List.getElem?_eq_getElem eJ⟩;refine db.ld h (by omega) aU (c:=.str) (x:=str x) (by rw[Int.toNat_natCast,List.getElem?_map,hx];rfl) ?_;rw[iv];refine aa.dec (fun he=>?_) (fun aA=>?_)
   ·subst he
    refine⟨⟨(i:Int),rfl,?_⟩,rfl⟩;rw[decide_eq_true (by omega),decide_eq_true (List.mem_of_getElem? hx)]
   ·refine⟨⟨i+1,by rw[wI (by omega) (by omega)];omega,by omega,?_,rfl⟩,by rw[wI (by omega) (by omega)];omega⟩
    rw[List.take_add_one,hx];simp only[Option.toList_some,List.mem_append,List.mem_singleton];rintro(t | t)
    ·exact gB t
    ·exact aA t
  ·refine⟨⟨-1,rfl,?_⟩,rfl⟩
   rw[List.take_of_length_le (by omega)] at gB;rw[decide_eq_false gB];rfl
 refine ab.of hx ?_;rintro _ _ ⟨⟨i,rfl,hi⟩,rfl⟩;exact⟨i,rfl,by rw[hi],rfl⟩
theorem Kp {α:Type}(l:List α):(∀ j x,l[j]? = some x->x ∉ l.take j)↔l.Nodup:=by
 unfold List.Nodup;rw[List.pairwise_iff_getElem]
 constructor
 ·intro h i j hi hj kJ heq
  refine h j l[j] (List.getElem?_eq_getElem hj) ?_;rw[List.mem_take_iff_getElem];exact⟨i,by omega,heq⟩
 ·intro h j x hx hm
  obtain⟨hj,rfl⟩:=List.getElem?_eq_some_iff.1 hx;rw[List.mem_take_iff_getElem] at hm;obtain⟨i,hi,heq⟩:=hm;exact h i j (by omega) hj (by omega) heq
theorem Ej (t:Tm)(hn:aJ t<=1000000)(w:World):Ret Tryz.prog 170 #[t.v] w fun r w'=>r=.int .i64 (jf t)/\Fr none1 w w':=by
 refine c170 t.v w _ ?_;refine ab.of (Kk t hn w) ?_;rintro _ w1 ⟨rfl,f1⟩;unfold jf;refine⟨_,rfl,aa.not (aa.by (fun h=>?_) (fun h=>?_))⟩
 case refine_2=>rw[if_pos h];exact⟨rfl,f1⟩
 rw[if_neg (by simp[h])];refine ab.of (Kj t hn w1) ?_;rintro _ w2 ⟨rfl,f2⟩;refine⟨((aJ t:Int),(cd t:Int),()),rfl,?_⟩;dsimp only;refine aa.dec (fun h=>?_) (fun h=>?_)
 ·rw[if_pos (by omega)];exact⟨rfl,f1.trans f2⟩
 rw[if_neg (by omega)];refine aa.dec (fun h=>?_) (fun h=>?_)
 ·rw[if_pos (by omega)];exact⟨rfl,f1.trans f2⟩
 rw[if_neg (by omega)];refine ab.of (Kn t hn w2) ?_;rintro _ w3 ⟨u,rfl,hu,f3,_⟩;refine⟨u,rfl,?_⟩;have cS:=hu.len;have Ek:=Ke t;have vw:u.2.1<=u.2.2:=by
  rcases hu with⟨rfl,_⟩ | ⟨g,off,cs,_,_,hle,_⟩
  ·exact Nat.le_refl _
  ·exact hle
 have fr:=(f1.trans f2).trans f3;refine bj.of (fun s w'=>∃ i:Nat,s.1=i/\i<=(fq t).length/\(∀ j x,j<i->(fq t)[j]? = some x->x ∉ (fq t).take j)/\w3=w') (fun s _=>(u.2.1 - s.1).toNat) ⟨0,rfl,Nat.zero_le _,fun j x hj=>absurd hj (by omega),rfl⟩ ?_;rintro _ ⟨i',_⟩ _ ⟨i,hi,iz,hall,rfl⟩;dsimp only at hi ⊢;subst hi;refine aa.dec (fun aU=>?_) (fun dh=>?_)
 ·have eJ:i<(fq t).length:=by omega
  obtain⟨x,hx⟩:∃ x,(fq t)[i]? = some x:=⟨_,List.getElem?_eq_getElem eJ⟩;refine hu.ld hx ?_;refine db.sub (aD.rd hu) (by omega) (by omega) vw fun hs=>?_;rw[Int.toNat_natCast] at hs ⊢;rw[<- List.map_take] at hs;refine ab.of (Ko hs (by rw[List.length_take];omega) x) ?_;rintro _ _ ⟨rfl,rfl⟩;refine⟨_,rfl,aa.dec (fun hm=>?_) (fun hm=>?_)⟩
  ·rw[if_neg (fun hd=>(Kp _).2 hd i x hx hm)]
   exact⟨rfl,fr⟩
  ·refine⟨⟨i+1,by rw[wI (by omega) (by omega)];omega,by omega,fun j y hj hy=>?_,rfl⟩,by rw[wI (by omega) (by omega)];omega⟩
   by_cases iM:j<i
   ·exact hall j y iM hy
   ·have:j=i:=by omega
    subst this;rw[hx] at hy;injection hy with hy;subst hy
    exact hm
 ·rw[if_pos ((Kp _).1 fun j x hx=>hall j x (by have:=(List.getElem?_eq_some_iff.1 hx).1;omega) hx)]
  exact⟨rfl,fr⟩
def C218 (p0:ByteArray)(p1:Option Addr)(ct cO:Nat)(w:World)(K:Value->World->Prop):Prop:=
 vg p0 (⟨#[40]⟩:ByteArray) (ab Tryz.prog 249 #[.slice p1 ct cO,.string (⟨#[44]⟩:ByteArray)] w (.v (.one .str)) (fun(x1:ByteArray) w2=>vg (p0++(⟨#[40]⟩:ByteArray)) x1 (vg ((p0++(⟨#[40]⟩:ByteArray))++x1) (⟨#[41]⟩:ByteArray) (K (.string (((p0++(⟨#[40]⟩:ByteArray))++x1)++(⟨#[41]⟩:ByteArray))) w2))))
def pl218:aB:=.auto
theorem c218 (p0:ByteArray)(p1:Option Addr)(ct cO:Nat)(w:World)(K:Value->World->Prop)(h:C218 p0 p1 ct cO w K):Ret Tryz.prog 218 #[.string p0,.slice p1 ct cO] w K:=aC (by kernel_rfl) Tryz.func218 (p:=pl218) (Eq.mpr (by kernel_rfl) h)
def C219 (p0:Value)(w:World)(K:Value->World->Prop):Prop:=
 aj p0 222 (.agg [.int .i64]) (fun(x1:Int×Unit)=>aq (.cells #[.int .i64 0] 222) w (fun g2 w3=>av (ad g2) [.int .i64 x1.1] w3 (fun w4=>ae (.int .i64) ((ad g2).add 0) w4 (fun(x5:Int)=>ab Tryz.prog 220 #[.int .i64 x5] w4 (.v (.one .str)) (fun(x6:ByteArray) w7=>K (.string x6) w7)))))
 (aj p0 300 (.agg [.str]) (fun(x8:ByteArray×Unit)=>aq (.cells #[.string (⟨#[]⟩:ByteArray)] 300) w (fun g9 aK=>av (ad g9) [.string x8.1] aK (fun aR=>ae .str ((ad g9).add 0) aR (fun(bw:ByteArray)=>aw Tryz.prog (Instr.buildSlice 51 1 #[(0,.string bw)]) aR (.v (.one .ah)) (fun(bC:ao) bu=>ab Tryz.prog 218 #[.string (⟨#[102,105,120]⟩:ByteArray),.slice bC.1 bC.2.1 bC.2.2] bu (.v (.one .str)) (fun(bm:ByteArray) br=>K (.string bm) br))))))
 (aj p0 302 (.agg [.raw,.raw]) (fun(aX:Value×Value×Unit)=>aq (.cells #[.nilIface,.nilIface] 302) w (fun g18 bO=>av (ad g18) [aX.1,aX.2.1] bO (fun bz=>aH bz (fun bq=>bb (fun mF=>aE mF ((ad g18).add 0) (ae .raw ((ad g18).add 0) bq (fun(cc:Value)=>aE mF ((ad g18).add 1) (ae .raw ((ad g18).add 1) bq (fun(cN:Value)=>ab Tryz.prog 219 #[cc] bq (.v (.one .str)) (fun(bG:ByteArray) bZ=>ak mF bq bZ (ab Tryz.prog 219 #[cN] bZ (.v (.one .str)) (fun(cE:ByteArray) bV=>ak mF bZ bV (aw Tryz.prog (Instr.buildSlice 51 2 #[(0,.string bG),(1,.string cE)]) bV (.v (.one .ah)) (fun(cH:ao) cn=>ak mF bV cn (ab Tryz.prog 218 #[.string (⟨#[97,100,100]⟩:ByteArray),.slice cH.1 cH.2.1 cH.2.2] cn (.v (.one .str)) (fun(bX:ByteArray) cZ=>ak mF cn cZ (K (.string bX) cZ)))))))))))))))))
 (aj p0 304 (.agg [.raw]) (fun(dH:Value×Unit)=>aq (.cells #[.nilIface] 304) w (fun ue fz=>av (ad ue) [dH.1] fz (fun cW=>ae .raw ((ad ue).add 0) cW (fun(ij:Value)=>ab Tryz.prog 219 #[ij] cW (.v (.one .str)) (fun(dN:ByteArray) gg=>aw Tryz.prog (Instr.buildSlice 51 1 #[(0,.string dN)]) gg (.v (.one .ah)) (fun(iw:ao) kL=>ab Tryz.prog 218 #[.string (⟨#[110,101,103]⟩:ByteArray),.slice iw.1 iw.2.1 iw.2.2] kL (.v (.one .str)) (fun(jD:ByteArray) k8=>K (.string jD) k8)))))))
 (aj p0 305 (.agg [.raw,.raw]) (fun(kn:Value×Value×Unit)=>aq (.cells #[.nilIface,.nilIface] 305) w (fun sx gN=>av (ad sx) [kn.1,kn.2.1] gN (fun kx=>aH kx (fun gu=>bb (fun vS=>aE vS ((ad sx).add 0) (ae .raw ((ad sx).add 0) gu (fun(jy:Value)=>aE vS ((ad sx).add 1) (ae .raw ((ad sx).add 1) gu (fun(ko:Value)=>ab Tryz.prog 219 #[jy] gu (.v (.one .str)) (fun(qc:ByteArray) pg=>ak vS gu pg (ab Tryz.prog 219 #[ko] pg (.v (.one .str)) (fun(qL:ByteArray) iQ=>ak vS pg iQ (aw Tryz.prog (Instr.buildSlice 51 2 #[(0,.string qc),(1,.string qL)]) iQ (.v (.one .ah)) (fun(my:ao) nz=>ak vS iQ nz (ab Tryz.prog 218 #[.string (⟨#[109,117,108]⟩:ByteArray),.slice my.1 my.2.1 my.2.2] nz (.v (.one .str)) (fun(ny:ByteArray) og=>ak vS nz og (K (.string ny) og)))))))))))))))))
 (aj p0 306 (.agg [.raw,.raw]) (fun(nt:Value×Value×Unit)=>aq (.cells #[.nilIface,.nilIface] 306) w (fun ug kv=>av (ad ug) [nt.1,nt.2.1] kv (fun su=>aH su (fun mz=>bb (fun vT=>aE vT ((ad ug).add 0) (ae .raw ((ad ug).add 0) mz (fun(vU:Value)=>aE vT ((ad ug).add 1) (ae .raw ((ad ug).add 1) mz (fun(qV:Value)=>ab Tryz.prog 219 #[vU] mz (.v (.one .str)) (fun(El:ByteArray) uk=>ak vT mz uk (ab Tryz.prog 219 #[qV] uk (.v (.one .str)) (fun(qW:ByteArray) qX=>ak vT uk qX (aw Tryz.prog (Instr.buildSlice 51 2 #[(0,.string El),(1,.string qW)]) qX (.v (.one .ah)) (fun(qY:ao) qd=>ak vT qX qd (ab Tryz.prog 218 #[.string (⟨#[109,97,120]⟩:ByteArray),.slice qY.1 qY.2.1 qY.2.2] qd (.v (.one .str)) (fun(AW:ByteArray) Kq=>ak vT qd Kq (K (.string AW) Kq))))))))))))))))) False)))))
def pl219:aB:=(.seq .auto (.seq (.seq .auto (.block (.seq .auto (.cond .auto (.seq .auto (.cond .auto (.seq .auto (.cond (.seq .auto (.seq (.held (.soft 0 (.soft 1 (.soft 3 (.soft 4 (.pick 2 (.pick 5 (.pick 6 (.pick 7 (.soft 8 .done) .stop) .stop) .stop) .stop)))))) .auto)) (.seq .auto (.cond .auto (.seq .auto (.cond (.seq .auto (.seq (.held (.soft 0 (.soft 1 (.soft 3 (.soft 4 (.pick 2 (.pick 5 (.pick 6 (.pick 7 (.soft 8 .done) .stop) .stop) .stop) .stop)))))) .auto)) .auto)))))))))))) (.seq .auto (.seq (.held (.soft 0 (.soft 1 (.soft 3 (.soft 4 (.pick 2 (.pick 5 (.pick 6 (.pick 7 (.soft 8 .done) .stop) .stop) .stop) .stop)))))) .auto))))
theorem c219 (p0:Value)(w:World)(K:Value->World->Prop)(h:C219 p0 w K):Ret Tryz.prog 219 #[p0] w K:=aC (by kernel_rfl) Tryz.func219 (p:=pl219) (Eq.mpr (by kernel_rfl) h)
def C172 (p0:Value)(w:World)(K:Value->World->Prop):Prop:=
 aj p0 235 (.agg []) (fun(x1:Unit)=>aq (.cells #[] 235) w (fun g2 w3=>av (ad g2) [] w3 (fun w4=>K (.string (⟨#[122,101,114,111]⟩:ByteArray)) w4)))
 (aj p0 216 (.agg [.str]) (fun(x5:ByteArray×Unit)=>aq (.cells #[.string (⟨#[]⟩:ByteArray)] 216) w (fun g6 w7=>av (ad g6) [.string x5.1] w7 (fun w8=>ae .str ((ad g6).add 0) w8 (fun(x9:ByteArray)=>aw Tryz.prog (Instr.buildSlice 51 1 #[(0,.string x9)]) w8 (.v (.one .ah)) (fun(aS:ao) aR=>ab Tryz.prog 218 #[.string (⟨#[111,110,101]⟩:ByteArray),.slice aS.1 aS.2.1 aS.2.2] aR (.v (.one .str)) (fun(bw:ByteArray) aW=>K (.string bw) aW))))))
 (aj p0 237 (.agg [.raw]) (fun(bn:Value×Unit)=>aq (.cells #[.nilIface] 237) w (fun g15 br=>av (ad g15) [bn.1] br (fun cD=>ae .raw ((ad g15).add 0) cD (fun(bE:Value)=>ab Tryz.prog 172 #[bE] cD (.v (.one .str)) (fun(bt:ByteArray) bz=>aw Tryz.prog (Instr.buildSlice 51 1 #[(0,.string bt)]) bz (.v (.one .ah)) (fun(b9:ao) bA=>ab Tryz.prog 218 #[.string (⟨#[103,105,118,101]⟩:ByteArray),.slice b9.1 b9.2.1 b9.2.2] bA (.v (.one .str)) (fun(cc:ByteArray) bU=>K (.string cc) bU)))))))
 (aj p0 239 (.agg [.raw,.raw]) (fun(bG:Value×Value×Unit)=>aq (.cells #[.nilIface,.nilIface] 239) w (fun yg eM=>av (ad yg) [bG.1,bG.2.1] eM (fun bV=>aH bV (fun eg=>bb (fun vV=>aE vV ((ad yg).add 0) (ae .raw ((ad yg).add 0) eg (fun(bX:Value)=>aE vV ((ad yg).add 1) (ae .raw ((ad yg).add 1) eg (fun(dS:Value)=>ab Tryz.prog 172 #[bX] eg (.v (.one .str)) (fun(dH:ByteArray) fT=>ak vV eg fT (ab Tryz.prog 172 #[dS] fT (.v (.one .str)) (fun(de:ByteArray) cW=>ak vV fT cW (aw Tryz.prog (Instr.buildSlice 51 2 #[(0,.string dH),(1,.string de)]) cW (.v (.one .ah)) (fun(ij:ao) jg=>ak vV cW jg (ab Tryz.prog 218 #[.string (⟨#[97,110,100]⟩:ByteArray),.slice ij.1 ij.2.1 ij.2.2] jg (.v (.one .str)) (fun(eY:ByteArray) ef=>ak vV jg ef (K (.string eY) ef)))))))))))))))))
 (aj p0 241 (.agg [.str,.raw,.raw]) (fun(fN:ByteArray×Value×Value×Unit)=>aq (.cells #[.string (⟨#[]⟩:ByteArray),.nilIface,.nilIface] 241) w (fun um k8=>av (ad um) [.string fN.1,fN.2.1,fN.2.2.1] k8 (fun fU=>aH fU (fun lM=>bb (fun uo=>aE uo ((ad um).add 0) (ae .str ((ad um).add 0) lM (fun(fO:ByteArray)=>aE uo ((ad um).add 1) (ae .raw ((ad um).add 1) lM (fun(la:Value)=>aE uo ((ad um).add 2) (ae .raw ((ad um).add 2) lM (fun(fR:Value)=>ab Tryz.prog 172 #[la] lM (.v (.one .str)) (fun(jy:ByteArray) iA=>ak uo lM iA (ab Tryz.prog 172 #[fR] iA (.v (.one .str)) (fun(qc:ByteArray) pg=>ak uo iA pg (aw Tryz.prog (Instr.buildSlice 51 3 #[(0,.string fO),(1,.string jy),(2,.string qc)]) pg (.v (.one .ah)) (fun(qL:ao) iQ=>ak uo pg iQ (ab Tryz.prog 218 #[.string (⟨#[111,114]⟩:ByteArray),.slice qL.1 qL.2.1 qL.2.2] iQ (.v (.one .str)) (fun(my:ByteArray) nz=>ak uo iQ nz (K (.string my) nz)))))))))))))))))))
 (aj p0 245 (.agg [.raw,.raw]) (fun(ny:Value×Value×Unit)=>aq (.cells #[.nilIface,.nilIface] 245) w (fun yh ya=>av (ad yh) [ny.1,ny.2.1] ya (fun tV=>aH tV (fun kv=>bb (fun vW=>aE vW ((ad yh).add 0) (ae .raw ((ad yh).add 0) kv (fun(yi:Value)=>aE vW ((ad yh).add 1) (ae .raw ((ad yh).add 1) kv (fun(oh:Value)=>ab Tryz.prog 219 #[yi] kv (.v (.one .str)) (fun(vU:ByteArray) Em=>ak vW kv Em (ab Tryz.prog 172 #[oh] Em (.v (.one .str)) (fun(El:ByteArray) uk=>ak vW Em uk (aw Tryz.prog (Instr.buildSlice 51 2 #[(0,.string vU),(1,.string El)]) uk (.v (.one .ah)) (fun(qW:ao) qX=>ak vW uk qX (ab Tryz.prog 218 #[.string (⟨#[115,99,97,108,101]⟩:ByteArray),.slice qW.1 qW.2.1 qW.2.2] qX (.v (.one .str)) (fun(qY:ByteArray) qd=>ak vW qX qd (K (.string qY) qd)))))))))))))))))
 (aj p0 247 (.agg [.int .i64,.raw]) (fun(AW:Int×Value×Unit)=>aq (.cells #[.int .i64 0,.nilIface] 247) w (fun yj vX=>av (ad yj) [.int .i64 AW.1,AW.2.1] vX (fun Sj=>aH Sj (fun sy=>bb (fun vY=>aE vY ((ad yj).add 0) (ae (.int .i64) ((ad yj).add 0) sy (fun(Sk:Int)=>aE vY ((ad yj).add 1) (ae .raw ((ad yj).add 1) sy (fun(Sm:Value)=>ab Tryz.prog 220 #[.int .i64 Sk] sy (.v (.one .str)) (fun(Sn:ByteArray) En=>ak vY sy En (ab Tryz.prog 172 #[Sm] En (.v (.one .str)) (fun(So:ByteArray) Eo=>ak vY En Eo (aw Tryz.prog (Instr.buildSlice 51 2 #[(0,.string Sn),(1,.string So)]) Eo (.v (.one .ah)) (fun(Ep:ao) Er=>ak vY Eo Er (ab Tryz.prog 218 #[.string (⟨#[119,104,101,110]⟩:ByteArray),.slice Ep.1 Ep.2.1 Ep.2.2] Er (.v (.one .str)) (fun(Sp:ByteArray) Kr=>ak vY Er Kr (K (.string Sp) Kr)))))))))))))))))
 (aj p0 249 (.agg [.raw,.raw,.raw]) (fun(Es:Value×Value×Value×Unit)=>aq (.cells #[.nilIface,.nilIface,.nilIface] 249) w (fun uq Et=>av (ad uq) [Es.1,Es.2.1,Es.2.2.1] Et (fun Sq=>aH Sq (fun qZ=>bb (fun sA=>aE sA ((ad uq).add 0) (ae .raw ((ad uq).add 0) qZ (fun(Sr:Value)=>aE sA ((ad uq).add 1) (ae .raw ((ad uq).add 1) qZ (fun(yk:Value)=>aE sA ((ad uq).add 2) (ae .raw ((ad uq).add 2) qZ (fun(Ss:Value)=>ab Tryz.prog 219 #[Sr] qZ (.v (.one .str)) (fun(yl:ByteArray) ym=>ak sA qZ ym (ab Tryz.prog 172 #[yk] ym (.v (.one .str)) (fun(yn:ByteArray) yo=>ak sA ym yo (ab Tryz.prog 172 #[Ss] yo (.v (.one .str)) (fun(Su:ByteArray) yp=>ak sA yo yp (aw Tryz.prog (Instr.buildSlice 51 3 #[(0,.string yl),(1,.string yn),(2,.string Su)]) yp (.v (.one .ah)) (fun(qe:ao) q7=>ak sA yp q7 (ab Tryz.prog 218 #[.string (⟨#[105,102]⟩:ByteArray),.slice qe.1 qe.2.1 qe.2.2] q7 (.v (.one .str)) (fun(yq:ByteArray) vZ=>ak sA q7 vZ (K (.string yq) vZ))))))))))))))))))))) False)))))))
def pl172:aB:=(.seq .auto (.seq (.seq .auto (.block (.seq .auto (.cond .auto (.seq .auto (.cond .auto (.seq .auto (.cond .auto (.seq .auto (.cond (.seq .auto (.seq (.held (.soft 0 (.soft 1 (.soft 3 (.soft 4 (.pick 2 (.pick 5 (.pick 6 (.pick 7 (.soft 8 .done) .stop) .stop) .stop) .stop)))))) .auto)) (.seq .auto (.cond (.seq .auto (.seq (.held (.soft 0 (.soft 1 (.soft 2 (.soft 3 (.soft 5 (.soft 6 (.pick 4 (.pick 7 (.pick 8 (.pick 9 (.soft 10 .done) .stop) .stop) .stop) .stop)))))))) .auto)) (.seq .auto (.cond (.seq .auto (.seq (.held (.soft 0 (.soft 1 (.soft 3 (.soft 4 (.pick 2 (.pick 5 (.pick 6 (.pick 7 (.soft 8 .done) .stop) .stop) .stop) .stop)))))) .auto)) (.seq .auto (.cond (.seq .auto (.seq (.held (.soft 0 (.soft 1 (.soft 3 (.soft 4 (.pick 2 (.pick 5 (.pick 6 (.pick 7 (.soft 8 .done) .stop) .stop) .stop) .stop)))))) .auto)) .auto)))))))))))))))) (.seq .auto (.seq (.held (.soft 0 (.soft 1 (.soft 3 (.soft 4 (.soft 6 (.soft 7 (.pick 2 (.pick 5 (.pick 8 (.pick 9 (.pick 10 (.soft 11 .done) .stop) .stop) .stop) .stop) .stop)))))))) .auto))))
theorem c172 (p0:Value)(w:World)(K:Value->World->Prop)(h:C172 p0 w K):Ret Tryz.prog 172 #[p0] w K:=aC (by kernel_rfl) Tryz.func172 (p:=pl172) (Eq.mpr (by kernel_rfl) h)
def C171 (p0:ByteArray)(w:World)(K:Value->World->Prop):Prop:=
 aa (decide ((p0.size:Int) > 1000))
 (K (.tuple #[.string (⟨#[]⟩:ByteArray),.int .i64 5]) w)
 (K (.tuple #[.string p0,.int .i64 0]) w)
def pl171:aB:=.auto
theorem c171 (p0:ByteArray)(w:World)(K:Value->World->Prop)(h:C171 p0 w K):Ret Tryz.prog 171 #[.string p0] w K:=aC (by kernel_rfl) Tryz.func171 (p:=pl171) (Eq.mpr (by kernel_rfl) h)
def C132 (p0:Value)(w:World)(K:Value->World->Prop):Prop:=
 ab Tryz.prog 170 #[p0] w (.v (.one (.int .i64))) (fun(x1:Int) w2=>aa (x1 != 0)
 (K (.tuple #[.string (⟨#[]⟩:ByteArray),.int .i64 x1]) w2)
 (ab Tryz.prog 172 #[p0] w2 (.v (.one .str)) (fun(x3:ByteArray) w4=>ab Tryz.prog 171 #[.string x3] w4 (.aP [.one .str,.one (.int .i64)]) (fun(x5:ByteArray×Int×Unit) w6=>K (.tuple #[.string x5.1,.int .i64 x5.2.1]) w6))))
def pl132:aB:=.auto
theorem c132 (p0:Value)(w:World)(K:Value->World->Prop)(h:C132 p0 w K):Ret Tryz.prog 132 #[p0] w K:=aC (by kernel_rfl) Tryz.func132 (p:=pl132) (Eq.mpr (by kernel_rfl) h)
def gw (wd:List UInt8)(xs:List (List UInt8)):List UInt8:=wd++[40]++Lib.join xs [44]++[41]
def fA:Ob->List UInt8
 | .none=>[]
 | .const n=>Lib.itoa n
 | .fix s=>gw [102,105,120] [s]
 | .add l r=>gw [97,100,100] [fA l,fA r]
 | .neg o=>gw [110,101,103] [fA o]
 | .mul l r=>gw [109,117,108] [fA l,fA r]
 | .max l r=>gw [109,97,120] [fA l,fA r]
def dI:Tm->List UInt8
 | .none=>[]
 | .zero=>[122,101,114,111]
 | .one s=>gw [111,110,101] [s]
 | .gh t=>gw [103,105,118,101] [dI t]
 | .and l r=>gw [97,110,100] [dI l,dI r]
 | .or s l r=>gw [111,114] [s,dI l,dI r]
 | .scale o t=>gw [115,99,97,108,101] [fA o,dI t]
 | .when d t=>gw [119,104,101,110] [Lib.itoa d,dI t]
 | .cond o l r=>gw [105,102] [fA o,dI l,dI r]
def bh (t:Tm):List UInt8×Int:=if jf t≠0 then([],jf t) else if 1000<(dI t).length then([],5) else(dI t,0)
theorem Ks (a:List UInt8):Lib.join [a] [44]=a:=Lib.join_one _ _
theorem Kt (a b:List UInt8):Lib.join [a,b] [44]=a++([44]++b):=by rw[Lib.join_cons];simp[Lib.joinTail]
theorem Ku (a b c:List UInt8):Lib.join [a,b,c] [44]=a++([44]++b++([44]++c)):=by rw[Lib.join_cons];simp[Lib.joinTail]
theorem AX (wd a:List UInt8):(gw wd [a]).length=wd.length+a.length+2:=by unfold gw;rw[Ks];simp;omega
theorem v7 (wd a b:List UInt8):(gw wd [a,b]).length=wd.length+a.length+b.length+3:=by unfold gw;rw[Kt];simp;omega
theorem Kv (wd a b c:List UInt8):(gw wd [a,b,c]).length=wd.length+a.length+b.length+c.length+4:=by unfold gw;rw[Ku];simp;omega
theorem Sw (l:List UInt8):(gD l).2<=4:=by
 simp only[gD,Utf8.decode]
 repeat' split
 all_goals simp
theorem Eu:∀ (n:Nat) (l:List UInt8),l.length<=n->l.length<=4 * (cA l).length
 | 0,l,h=>by omega
 | n+1,l,h=>by
  by_cases hl:l=[]
  ·subst hl;simp
  ·rw[xM l hl,List.length_cons]
   have h1:=vD l;have h4:=Sw l;have hd:(l.drop (gD l).2).length=l.length - (gD l).2:=List.length_drop;have:=Eu n (l.drop (gD l).2) (by omega);omega
theorem Ev:∀ (rs:List Int) (n:Nat),jN n rs=true->rs=[]\/n+rs.length<=12
 | [],_,_=>.inl rfl
 | r::rs,n,h=>by
  unfold jN at h;split at h
  ·cases h
  split at h
  ·cases h
  split at h
  ·cases h
  rcases Ev rs (n+1) h with rfl | t
  ·simp;omega
  ·simp only[List.length_cons];omega
theorem AY {s:List UInt8}(h:eI s=true):s.length<=48:=by
 have hb:=Eu s.length s (Nat.le_refl _)
 rcases Ev _ _ h with t | t
 ·rw[t,List.length_nil] at hb;omega
 ·omega
theorem Ew:∀ (k u:Nat),u<10 ^ (k+1)->(Lib.decDigits u).length<=k+1
 | 0,u,h=>by rw[Lib.decDigits];rw[dif_pos (by omega)];simp
 | k+1,u,h=>by
  rw[Lib.decDigits];split
  ·simp
  ·rw[List.length_append]
   have:=Ew k (u / 10) (by rw[Nat.pow_succ] at h;omega);simp;omega
theorem Kw {n:Int}(h0:-1000000000000<=n)(h1:n<=1000000000000):(Lib.itoa n).length<=14:=by
 unfold Lib.itoa;split
 ·have:=Ew 12 n.natAbs (by omega)
  simp;omega
 ·have:=Ew 12 n.toNat (by omega)
  omega
theorem Ex {n:Int}(h:cv n=true):-1000000000000<=n/\n<=1000000000000:=by
 unfold cv at h;simp only[Bool.and_eq_true,decide_eq_true_eq] at h;exact h
theorem Ey (o:Ob)(h:cL o=true):(fA o).length<=100 * bo o:=by
 induction o with
 | none=>cases h
 | const n=>have:=Ex h;have:=Kw this.1 this.2;unfold fA bo;omega
 | fix s=>have:=AY h;unfold fA bo;rw[AX];simp;omega
 | neg o ih=>have:=ih h;unfold fA bo;rw[AX];simp;omega
 | add l r a b=>simp only[cL,Bool.and_eq_true] at h;have:=a h.1;have:=b h.2;unfold fA bo;rw[v7];simp;omega
 | mul l r a b=>simp only[cL,Bool.and_eq_true] at h;have:=a h.1;have:=b h.2;unfold fA bo;rw[v7];simp;omega
 | max l r a b=>simp only[cL,Bool.and_eq_true] at h;have:=a h.1;have:=b h.2;unfold fA bo;rw[v7];simp;omega
theorem Sx (t:Tm)(h:cx t=true):(dI t).length<=100 * aJ t:=by
 induction t with
 | none=>cases h
 | zero=>decide
 | one s=>have:=AY h;unfold dI aJ;rw[AX];simp;omega
 | gh t ih=>have:=ih h;unfold dI aJ;rw[AX];simp;omega
 | and l r a b=>simp only[cx,Bool.and_eq_true] at h;have:=a h.1;have:=b h.2;unfold dI aJ;rw[v7];simp;omega
 | or s l r a b=>simp only[cx,Bool.and_eq_true] at h;have:=AY h.1;have:=a h.2.1;have:=b h.2.2;unfold dI aJ;rw[Kv];simp;omega
 | scale o t ih=>simp only[cx,Bool.and_eq_true] at h;have:=Ey o h.1;have:=ih h.2;unfold dI aJ;rw[v7];simp;omega
 | when d t ih=>simp only[cx,Bool.and_eq_true,decide_eq_true_eq] at h;have:=Kw (n:=d) (by omega) (by omega);have:=ih h.2;unfold dI aJ;rw[v7];simp;omega
 | cond o l r a b=>simp only[cx,Bool.and_eq_true] at h;have:=Ey o h.1;have:=a h.2.1;have:=b h.2.2;unfold dI aJ;rw[Kv];simp;omega
def TabW (w : World): Prop := Lib.TabIs Tryz.prog w "internal/strconv.uint64pow10" .u64 Lib.pow10Tab
theorem TabW.af {w w':World}(h:TabW w)(f:Fr none1 w w'):TabW w':=by
 unfold TabW Lib.TabIs World.var? at h ⊢;cases hg : Tryz.prog.globalNamed "internal/strconv.uint64pow10" with
 | none=>rw[hg] at h;cases h
 | some g=>
  rw[hg] at h;simp only[Option.bind_some] at h ⊢;split at h
  case h_1 cs T fr hb=>rw[f.af hb];exact h
  case h_2=>cases h
theorem Sy (w:World)(k:Nat)(os:Array Obj):Fr none1 w (Go.Sort.grow (w.drewN k) os):=by
 refine⟨rfl,rfl,rfl,?_,fun i hi _=>?_⟩
 ·show w.heap.size<=(w.heap++os).size
  rw[Array.size_append];omega
 ·show(w.heap++os)[i]? = _
  rw[Array.getElem?_append_left hi]
theorem Kx (n:Int)(h0:-9223372036854775808<=n)(h1:n<=9223372036854775807)(w:World)(ht:TabW w):Ret Tryz.prog 220 #[.int .i64 n] w fun r w'=>r=.string (str (Lib.itoa n))/\Fr none1 w w':=by
 refine(Tryz.strconv_Itoa n h0 h1 w ht).mono ?_;rintro e w' ⟨rfl,k,os,rfl⟩;exact⟨_,rfl,rfl,Sy w k os⟩
theorem Sz {w w':World}(h:Go.RowKit.Below w.heap.size w w'):Fr none1 w w':=by
 obtain⟨a,b,c,d,e⟩:=h;exact⟨a,b,c,d,fun k U _=>e k U⟩
theorem om {w:World}{v:Sl}{xs:List (List UInt8)}(h:gi w v xs)(aA:xs≠[])(wd:List UInt8)(hl:(gw wd xs).length<=10000000):
  Ret Tryz.prog 218 #[.string (str wd),.slice v.1 v.2.1 v.2.2] w fun r w'=>r=.string (str (gw wd xs))/\Fr none1 w w':=by
 refine c218 (str wd) v.1 v.2.1 v.2.2 w _ ?_;have cC:=h.len;have hj:(gw wd xs).length=wd.length+1+(Lib.join xs [44]).length+1:=by unfold gw;simp;omega
 rcases h with⟨rfl,jb⟩ | ⟨g,off,cs,hv,hb,hle,vv,hn,he⟩
 ·rw[List.map_eq_nil_iff] at jb
  exact absurd jb aA
 rw[Nat.mul_one] at vv;rw[List.length_map] at hn;have Ky:(xs.map str).map (fun x:ByteArray=>x.data.toList)=xs:=by
  rw[List.map_map]
  conv=>rhs;rw[<- List.map_id xs]
  exact List.map_congr_left fun x _=>jM x
 have hlj:xs.length<=(Lib.join xs [44]).length+1:=by
  have h2:∀ l:List (List UInt8),l≠[]->l.length<=(Lib.join l [44]).length+1:=by
   intro l hl;cases l with
   | nil=>exact absurd rfl hl
   | cons x r=>rw[Lib.join_cons,List.length_append,Lib.joinTail_length];simp;omega
  exact h2 xs aA
 have hJ:=Tryz.strings_Join g off v.2.2 (xs.map str) (⟨#[44]⟩:ByteArray) w (fun j x hx=>by
   rw[oT hb];rw[List.getElem?_map] at hx;obtain⟨y,hy,rfl⟩:=Option.map_eq_some_iff.1 hx;have hj:=(List.getElem?_eq_some_iff.1 hy).1;rw[he j (by rw[List.length_map];exact hj),List.getElem?_map,hy];rfl) (cj hb) (by rw[List.length_map];omega) (by rw[List.length_map];omega) (by rw[Ky];show(Lib.join xs [44]).length<=_;omega)
 rw[Ky,List.length_map] at hJ;rw[hv];have sz:(str wd).size=wd.length:=dx wd;have e40:(⟨#[40]⟩:ByteArray)=str [40]:=rfl;have e41:(⟨#[41]⟩:ByteArray)=str [41]:=rfl;unfold C218;rw[e40,e41];have im:IntKind.i64.max=9223372036854775807:=rfl;refine⟨by rw[sz,dx,im];simp;omega,?_⟩;rw[cC];refine ab.of (R:=fun r w'=>r=.string (str (Lib.join xs [44]))/\Fr none1 w w') (hJ.mono ?_) ?_
 ·rintro e w' ⟨rfl,hB⟩
  exact⟨_,rfl,rfl,Sz hB⟩
 rintro _ w1 ⟨rfl,f1⟩;refine⟨_,rfl,?_⟩;rw[xK];refine⟨by rw[dx,dx,im];simp;omega,?_⟩;rw[xK];refine⟨by rw[dx,dx,im];simp;omega,?_⟩;rw[xK];exact⟨rfl,f1⟩
theorem oo {w:World}(xs:List (List UInt8))(hl:xs.length<=100){K:Option Addr×Nat×Nat->World->Prop}(k:∀ (u:Sl) w',gi w' u xs->Fr none1 w w'->K u w'):
  aw Tryz.prog (Instr.buildSlice 51 xs.length (((xs.map sv).zipIdx.map fun(v,i)=>(i,v)).toArray)) w (.v (.one .ah)) (fun(x:Option Addr×Nat×Nat) w1=>K x w1):=by
 obtain⟨x,w1,hr,hx,kj,f1,hf⟩:=qJ (P:=Tryz.prog) (w:=w) vK (xs.map sv) (by intro v hv;obtain⟨x,_,rfl⟩:=List.mem_map.1 hv;rfl) (by rw[List.length_map];omega);rw[List.length_map] at hr;exact⟨x,w1,hr,k x w1 hx f1⟩
theorem q8 (o:Ob)(hf:cL o=true)(hn:bo o<=10000)(w:World)(ht:TabW w):Ret Tryz.prog 219 #[o.v] w fun r w'=>r=.string (str (fA o))/\Fr none1 w w':=by
 refine c219 o.v w _ ?_;unfold C219;have hL:=Ey o hf;cases o with
 | none=>cases hf
 | const n=>
  have hv:=Ex hf;refine aj.hit (n,()) rfl (cB (zs:=[.int .i64 0]) (vs:=[.int .i64 n]) rfl rfl fun g w1 _ hb f1=>ae.ai hb (x:=n) rfl ?_);refine ab.of (Kx n (by omega) (by omega) w1 (ht.af f1)) ?_;rintro _ w2 ⟨rfl,f2⟩;exact⟨_,rfl,rfl,f1.trans f2⟩
 | fix s=>
  refine aj.aL rfl (by decide) (aj.hit (str s,()) rfl (cB (zs:=[.string (⟨#[]⟩:ByteArray)]) (vs:=[.string (str s)]) rfl rfl fun g w1 _ hb f1=>ae.ai hb (x:=str s) rfl ?_));refine oo (w:=w1) [s] (by simp) fun u w2 hu f2=>?_;refine ab.of (om hu (by simp) [102,105,120] (by unfold fA bo at hL;omega)) ?_;rintro _ w3 ⟨rfl,f3⟩;exact⟨_,rfl,rfl,(f1.trans f2).trans f3⟩
 | neg x=>
  have jh:bo x<=10000:=by unfold bo at hn;omega
  refine aj.aL rfl (by decide) (aj.aL rfl (by decide) (aj.aL rfl (by decide) (aj.hit (x.v,()) rfl (cB (zs:=[.nilIface]) (vs:=[x.v]) rfl (by simp[Ob.bP]) fun g w1 _ hb f1=>ae.ai (c:=.raw) hb (x:=x.v) rfl ?_))));refine ab.of (q8 x hf jh w1 (ht.af f1)) ?_;rintro _ w2 ⟨rfl,f2⟩;refine⟨_,rfl,?_⟩;refine oo (w:=w2) [fA x] (by simp) fun u w3 hu f3=>?_;refine ab.of (om hu (by simp) [110,101,103] (by unfold fA bo at hL;omega)) ?_;rintro _ w4 ⟨rfl,f4⟩;exact⟨_,rfl,rfl,((f1.trans f2).trans f3).trans f4⟩
 | add l r=>
  simp only[cL,Bool.and_eq_true] at hf;have nA:bo l<=10000:=by unfold bo at hn;omega
  have ph:bo r<=10000:=by unfold bo at hn;omega
  refine aj.aL rfl (by decide) (aj.aL rfl (by decide) (aj.hit (l.v,r.v,()) rfl (cB (zs:=[.nilIface,.nilIface]) (vs:=[l.v,r.v]) rfl (by simp[Ob.bP]) fun g w1 _ hb f1=>?_)));refine aH.of fun w2 _ f2=>bb.all ?_;have aM:=f2.af hb;refine aE.all (ae.ai (c:=.raw) aM (x:=l.v) rfl (aE.all (ae.ai (c:=.raw) aM (x:=r.v) rfl ?_)));refine ab.of (q8 l hf.1 nA w2 ((ht.af f1).af f2)) ?_;rintro _ w3 ⟨rfl,f3⟩;refine⟨_,rfl,ak.of f3 ?_⟩;refine ab.of (q8 r hf.2 ph w3 (((ht.af f1).af f2).af f3)) ?_;rintro _ w4 ⟨rfl,f4⟩;refine⟨_,rfl,ak.of f4 ?_⟩;refine oo (w:=w4) [fA l,fA r] (by simp) fun u w5 hu f5=>ak.of f5 ?_;refine ab.of (om hu (by simp) [97,100,100] (by unfold fA bo at hL;omega)) ?_;rintro _ w6 ⟨rfl,f6⟩;exact⟨_,rfl,ak.of f6 ⟨rfl,(f1.trans f2).trans (((f3.trans f4).trans f5).trans f6)⟩⟩
 | mul l r=>
  simp only[cL,Bool.and_eq_true] at hf;have nA:bo l<=10000:=by unfold bo at hn;omega
  have ph:bo r<=10000:=by unfold bo at hn;omega
  refine aj.aL rfl (by decide) (aj.aL rfl (by decide) (aj.aL rfl (by decide) (aj.aL rfl (by decide) (aj.hit (l.v,r.v,()) rfl (cB (zs:=[.nilIface,.nilIface]) (vs:=[l.v,r.v]) rfl (by simp[Ob.bP]) fun g w1 _ hb f1=>?_)))));refine aH.of fun w2 _ f2=>bb.all ?_;have aM:=f2.af hb;refine aE.all (ae.ai (c:=.raw) aM (x:=l.v) rfl (aE.all (ae.ai (c:=.raw) aM (x:=r.v) rfl ?_)));refine ab.of (q8 l hf.1 nA w2 ((ht.af f1).af f2)) ?_;rintro _ w3 ⟨rfl,f3⟩;refine⟨_,rfl,ak.of f3 ?_⟩;refine ab.of (q8 r hf.2 ph w3 (((ht.af f1).af f2).af f3)) ?_;rintro _ w4 ⟨rfl,f4⟩;refine⟨_,rfl,ak.of f4 ?_⟩;refine oo (w:=w4) [fA l,fA r] (by simp) fun u w5 hu f5=>ak.of f5 ?_;refine ab.of (om hu (by simp) [109,117,108] (by unfold fA bo at hL;omega)) ?_;rintro _ w6 ⟨rfl,f6⟩;exact⟨_,rfl,ak.of f6 ⟨rfl,(f1.trans f2).trans (((f3.trans f4).trans f5).trans f6)⟩⟩
 | max l r=>
  simp only[cL,Bool.and_eq_true] at hf;have nA:bo l<=10000:=by unfold bo at hn;omega
  have ph:bo r<=10000:=by unfold bo at hn;omega
  refine aj.aL rfl (by decide) (aj.aL rfl (by decide) (aj.aL rfl (by decide) (aj.aL rfl (by decide) (aj.aL rfl (by decide) (aj.hit (l.v,r.v,()) rfl (cB (zs:=[.nilIface,.nilIface]) (vs:=[l.v,r.v]) rfl (by simp[Ob.bP]) fun g w1 _ hb f1=>?_))))));refine aH.of fun w2 _ f2=>bb.all ?_;have aM:=f2.af hb;refine aE.all (ae.ai (c:=.raw) aM (x:=l.v) rfl (aE.all (ae.ai (c:=.raw) aM (x:=r.v) rfl ?_)));refine ab.of (q8 l hf.1 nA w2 ((ht.af f1).af f2)) ?_;rintro _ w3 ⟨rfl,f3⟩;refine⟨_,rfl,ak.of f3 ?_⟩;refine ab.of (q8 r hf.2 ph w3 (((ht.af f1).af f2).af f3)) ?_;rintro _ w4 ⟨rfl,f4⟩;refine⟨_,rfl,ak.of f4 ?_⟩;refine oo (w:=w4) [fA l,fA r] (by simp) fun u w5 hu f5=>ak.of f5 ?_;refine ab.of (om hu (by simp) [109,97,120] (by unfold fA bo at hL;omega)) ?_;rintro _ w6 ⟨rfl,f6⟩;exact⟨_,rfl,ak.of f6 ⟨rfl,(f1.trans f2).trans (((f3.trans f4).trans f5).trans f6)⟩⟩
theorem qg (t:Tm)(hf:cx t=true)(hn:aJ t<=10000)(w:World)(ht:TabW w):Ret Tryz.prog 172 #[t.v] w fun r w'=>r=.string (str (dI t))/\Fr none1 w w':=by
 refine c172 t.v w _ ?_;unfold C172;have hL:=Sx t hf;cases t with
 | none=>cases hf
 | zero=>exact aj.hit () rfl (cB (zs:=[]) (vs:=[]) rfl rfl fun g w1 _ hb f1=>⟨rfl,f1⟩)
 | one s=>
  refine aj.aL rfl (by decide) (aj.hit (str s,()) rfl (cB (zs:=[.string (⟨#[]⟩:ByteArray)]) (vs:=[.string (str s)]) rfl rfl fun g w1 _ hb f1=>ae.ai hb (x:=str s) rfl ?_));refine oo (w:=w1) [s] (by simp) fun u w2 hu f2=>?_;refine ab.of (om hu (by simp) [111,110,101] (by unfold dI aJ at hL;omega)) ?_;rintro _ w3 ⟨rfl,f3⟩;exact⟨_,rfl,rfl,(f1.trans f2).trans f3⟩
 | gh x=>
  have jh:aJ x<=10000:=by unfold aJ at hn;omega
  refine aj.aL rfl (by decide) (aj.aL rfl (by decide) (aj.hit (x.v,()) rfl (cB (zs:=[.nilIface]) (vs:=[x.v]) rfl (by simp[Tm.bP]) fun g w1 _ hb f1=>ae.ai (c:=.raw) hb (x:=x.v) rfl ?_)));refine ab.of (qg x hf jh w1 (ht.af f1)) ?_;rintro _ w2 ⟨rfl,f2⟩;refine⟨_,rfl,?_⟩;refine oo (w:=w2) [dI x] (by simp) fun u w3 hu f3=>?_;refine ab.of (om hu (by simp) [103,105,118,101] (by unfold dI aJ at hL;omega)) ?_;rintro _ w4 ⟨rfl,f4⟩;exact⟨_,rfl,rfl,((f1.trans f2).trans f3).trans f4⟩
 | and l r=>
  simp only[cx,Bool.and_eq_true] at hf;have nA:aJ l<=10000:=by unfold aJ at hn;omega
  have ph:aJ r<=10000:=by unfold aJ at hn;omega
  refine aj.aL rfl (by decide) (aj.aL rfl (by decide) (aj.aL rfl (by decide) (aj.hit (l.v,r.v,()) rfl (cB (zs:=[.nilIface,.nilIface]) (vs:=[l.v,r.v]) rfl (by simp[Tm.bP]) fun g w1 _ hb f1=>?_))));refine aH.of fun w2 _ f2=>bb.all ?_;have aM:=f2.af hb;refine aE.all (ae.ai (c:=.raw) aM (x:=l.v) rfl (aE.all (ae.ai (c:=.raw) aM (x:=r.v) rfl ?_)));refine ab.of (qg l hf.1 nA w2 ((ht.af f1).af f2)) ?_;rintro _ w3 ⟨rfl,f3⟩;refine⟨_,rfl,ak.of f3 ?_⟩;refine ab.of (qg r hf.2 ph w3 (((ht.af f1).af f2).af f3)) ?_;rintro _ w4 ⟨rfl,f4⟩;refine⟨_,rfl,ak.of f4 ?_⟩;refine oo (w:=w4) [dI l,dI r] (by simp) fun u w5 hu f5=>ak.of f5 ?_;refine ab.of (om hu (by simp) [97,110,100] (by unfold dI aJ at hL;omega)) ?_;rintro _ w6 ⟨rfl,f6⟩;exact⟨_,rfl,ak.of f6 ⟨rfl,(f1.trans f2).trans (((f3.trans f4).trans f5).trans f6)⟩⟩
 | or s l r=>
  simp only[cx,Bool.and_eq_true] at hf;have nA:aJ l<=10000:=by unfold aJ at hn;omega
  have ph:aJ r<=10000:=by unfold aJ at hn;omega
  refine aj.aL rfl (by decide) (aj.aL rfl (by decide) (aj.aL rfl (by decide) (aj.aL rfl (by decide) (aj.hit (str s,l.v,r.v,()) rfl (cB (zs:=[.string (⟨#[]⟩:ByteArray),.nilIface,.nilIface]) (vs:=[.string (str s),l.v,r.v]) rfl (by simp[Tm.bP,od]) fun g w1 _ hb f1=>?_)))));refine aH.of fun w2 _ f2=>bb.all ?_;have aM:=f2.af hb;refine aE.all (ae.ai aM (x:=str s) rfl (aE.all (ae.ai (c:=.raw) aM (x:=l.v) rfl (aE.all (ae.ai (c:=.raw) aM (x:=r.v) rfl ?_)))));refine ab.of (qg l hf.2.1 nA w2 ((ht.af f1).af f2)) ?_;rintro _ w3 ⟨rfl,f3⟩;refine⟨_,rfl,ak.of f3 ?_⟩;refine ab.of (qg r hf.2.2 ph w3 (((ht.af f1).af f2).af f3)) ?_;rintro _ w4 ⟨rfl,f4⟩;refine⟨_,rfl,ak.of f4 ?_⟩;refine oo (w:=w4) [s,dI l,dI r] (by simp) fun u w5 hu f5=>ak.of f5 ?_;refine ab.of (om hu (by simp) [111,114] (by unfold dI aJ at hL;omega)) ?_;rintro _ w6 ⟨rfl,f6⟩;exact⟨_,rfl,ak.of f6 ⟨rfl,(f1.trans f2).trans (((f3.trans f4).trans f5).trans f6)⟩⟩
 | scale o x=>
  simp only[cx,Bool.and_eq_true] at hf;have gB:bo o<=10000:=by unfold aJ at hn;omega
  have jh:aJ x<=10000:=by unfold aJ at hn;omega
  refine aj.aL rfl (by decide) (aj.aL rfl (by decide) (aj.aL rfl (by decide) (aj.aL rfl (by decide) (aj.aL rfl (by decide) (aj.hit (o.v,x.v,()) rfl (cB (zs:=[.nilIface,.nilIface]) (vs:=[o.v,x.v]) rfl (by simp[Tm.bP,Ob.bP]) fun g w1 _ hb f1=>?_))))));refine aH.of fun w2 _ f2=>bb.all ?_;have aM:=f2.af hb;refine aE.all (ae.ai (c:=.raw) aM (x:=o.v) rfl (aE.all (ae.ai (c:=.raw) aM (x:=x.v) rfl ?_)));refine ab.of (q8 o hf.1 gB w2 ((ht.af f1).af f2)) ?_;rintro _ w3 ⟨rfl,f3⟩;refine⟨_,rfl,ak.of f3 ?_⟩;refine ab.of (qg x hf.2 jh w3 (((ht.af f1).af f2).af f3)) ?_;rintro _ w4 ⟨rfl,f4⟩;refine⟨_,rfl,ak.of f4 ?_⟩;refine oo (w:=w4) [fA o,dI x] (by simp) fun u w5 hu f5=>ak.of f5 ?_;refine ab.of (om hu (by simp) [115,99,97,108,101] (by unfold dI aJ at hL;omega)) ?_;rintro _ w6 ⟨rfl,f6⟩;exact⟨_,rfl,ak.of f6 ⟨rfl,(f1.trans f2).trans (((f3.trans f4).trans f5).trans f6)⟩⟩
 | when d x=>
  simp only[cx,Bool.and_eq_true,decide_eq_true_eq] at hf;have jh:aJ x<=10000:=by unfold aJ at hn;omega
  refine aj.aL rfl (by decide) (aj.aL rfl (by decide) (aj.aL rfl (by decide) (aj.aL rfl (by decide) (aj.aL rfl (by decide) (aj.aL rfl (by decide) (aj.hit (d,x.v,()) rfl (cB (zs:=[.int .i64 0,.nilIface]) (vs:=[.int .i64 d,x.v]) rfl (by simp[Tm.bP,pc]) fun g w1 _ hb f1=>?_)))))));refine aH.of fun w2 _ f2=>bb.all ?_;have aM:=f2.af hb;refine aE.all (ae.ai aM (x:=d) rfl (aE.all (ae.ai (c:=.raw) aM (x:=x.v) rfl ?_)));refine ab.of (Kx d (by omega) (by omega) w2 ((ht.af f1).af f2)) ?_;rintro _ w3 ⟨rfl,f3⟩;refine⟨_,rfl,ak.of f3 ?_⟩;refine ab.of (qg x hf.2 jh w3 (((ht.af f1).af f2).af f3)) ?_;rintro _ w4 ⟨rfl,f4⟩;refine⟨_,rfl,ak.of f4 ?_⟩;refine oo (w:=w4) [Lib.itoa d,dI x] (by simp) fun u w5 hu f5=>ak.of f5 ?_;refine ab.of (om hu (by simp) [119,104,101,110] (by unfold dI aJ at hL;omega)) ?_;rintro _ w6 ⟨rfl,f6⟩;exact⟨_,rfl,ak.of f6 ⟨rfl,(f1.trans f2).trans (((f3.trans f4).trans f5).trans f6)⟩⟩
 | cond o l r=>
  simp only[cx,Bool.and_eq_true] at hf;have gB:bo o<=10000:=by unfold aJ at hn;omega
  have nA:aJ l<=10000:=by unfold aJ at hn;omega
  have ph:aJ r<=10000:=by unfold aJ at hn;omega
  refine aj.aL rfl (by decide) (aj.aL rfl (by decide) (aj.aL rfl (by decide) (aj.aL rfl (by decide) (aj.aL rfl (by decide) (aj.aL rfl (by decide) (aj.aL rfl (by decide) (aj.hit (o.v,l.v,r.v,()) rfl (cB (zs:=[.nilIface,.nilIface,.nilIface]) (vs:=[o.v,l.v,r.v]) rfl (by simp[Tm.bP,Ob.bP]) fun g w1 _ hb f1=>?_))))))));refine aH.of fun w2 _ f2=>bb.all ?_;have aM:=f2.af hb;refine aE.all (ae.ai (c:=.raw) aM (x:=o.v) rfl (aE.all (ae.ai (c:=.raw) aM (x:=l.v) rfl (aE.all (ae.ai (c:=.raw) aM (x:=r.v) rfl ?_)))));refine ab.of (q8 o hf.1 gB w2 ((ht.af f1).af f2)) ?_;rintro _ w3 ⟨rfl,f3⟩;refine⟨_,rfl,ak.of f3 ?_⟩;refine ab.of (qg l hf.2.1 nA w3 (((ht.af f1).af f2).af f3)) ?_;rintro _ w4 ⟨rfl,f4⟩;refine⟨_,rfl,ak.of f4 ?_⟩;refine ab.of (qg r hf.2.2 ph w4 ((((ht.af f1).af f2).af f3).af f4)) ?_;rintro _ w5 ⟨rfl,f5⟩;refine⟨_,rfl,ak.of f5 ?_⟩;refine oo (w:=w5) [fA o,dI l,dI r] (by simp) fun u w6 hu f6=>ak.of f6 ?_;refine ab.of (om hu (by simp) [105,102] (by unfold dI aJ at hL;omega)) ?_;rintro _ w7 ⟨rfl,f7⟩;exact⟨_,rfl,ak.of f7 ⟨rfl,(f1.trans f2).trans ((((f3.trans f4).trans f5).trans f6).trans f7)⟩⟩
theorem SA (s:List UInt8)(w:World):Ret Tryz.prog 171 #[.string (str s)] w fun r w'=>r=.tuple #[.string (str (if 1000<s.length then[] else s)),.int .i64 (if 1000<s.length then 5 else 0)]/\w=w':=by
 refine c171 (str s) w _ ?_;unfold C171;rw[dx];refine aa.dec (fun h=>?_) (fun h=>?_)
 ·rw[if_pos (by omega),if_pos (by omega)];exact⟨rfl,rfl⟩
 ·rw[if_neg (by omega),if_neg (by omega)];exact⟨rfl,rfl⟩
theorem Ez {t:Tm}(h:jf t=0):cx t=true/\aJ t<=60/\cd t<=12:=by
 unfold jf at h
 repeat' split at h
 all_goals first | (exact absurd h (by decide)) | skip
 rename_i h1 h2 h3 _;exact⟨by simpa using h1,by omega,by omega⟩
theorem AZ (t:Tm)(hn:aJ t<=1000000)(w:World)(ht:TabW w):Ret Tryz.prog 132 #[t.v] w fun r w'=>r=.tuple #[.string (str (bh t).1),.int .i64 (bh t).2]/\Fr none1 w w':=by
 refine c132 t.v w _ ?_;refine ab.of (Ej t hn w) ?_;rintro _ w1 ⟨rfl,f1⟩;unfold bh;refine⟨_,rfl,aa.ne (fun h=>?_) (fun h=>?_)⟩
 ·rw[if_pos h];exact⟨rfl,f1⟩
 rw[if_neg (fun t=>t h)];have hc:=Ez h;refine ab.of (qg t hc.1 (by omega) w1 (ht.af f1)) ?_;rintro _ w2 ⟨rfl,f2⟩;refine⟨_,rfl,?_⟩;have A0:=SA (dI t) w2
 by_cases hl:1000<(dI t).length
 ·rw[if_pos hl,if_pos hl] at A0
  rw[if_pos hl];refine ab.of A0 ?_;rintro _ _ ⟨rfl,rfl⟩;exact⟨(str [],5,()),rfl,rfl,f1.trans f2⟩
 ·rw[if_neg hl,if_neg hl] at A0
  rw[if_neg hl];refine ab.of A0 ?_;rintro _ _ ⟨rfl,rfl⟩;exact⟨(str (dI t),0,()),rfl,rfl,f1.trans f2⟩
def kd (r:Int):Int:=if isLet r then 97 else if r=45 then 97 else if r=40 then 40 else if r=41 then 40 else if r=44 then 40 else if r=32 then 32 else 0
theorem SB (r:Int)(w:World):Ret Tryz.prog 299 #[.int .i32 r] w fun v w'=>v=.int .u8 (kd r)/\w=w':=by
 refine c299 r w _ ?_;refine ab.of (JJ r w) ?_;rintro _ _ ⟨rfl,rfl⟩;refine⟨_,rfl,?_⟩;unfold kd;refine aa.by (fun h1=>?_) (fun h1=>?_)
 ·rw[if_pos h1];exact⟨rfl,rfl⟩
 rw[if_neg (by simp[h1])];refine aa.eq (fun h=>?_) (fun h=>?_)
 ·rw[if_pos h];exact⟨rfl,rfl⟩
 rw[if_neg h];refine aa.eq (fun h=>?_) (fun h=>?_)
 ·rw[if_pos h];exact⟨rfl,rfl⟩
 rw[if_neg h];refine aa.eq (fun h=>?_) (fun h=>?_)
 ·rw[if_pos h];exact⟨rfl,rfl⟩
 rw[if_neg h];refine aa.eq (fun h=>?_) (fun h=>?_)
 ·rw[if_pos h];exact⟨rfl,rfl⟩
 rw[if_neg h];refine aa.eq (fun h=>?_) (fun h=>?_)
 ·rw[if_pos h];exact⟨rfl,rfl⟩
 rw[if_neg h];exact⟨rfl,rfl⟩
abbrev dB:=List UInt8×Int
def mG (l:List dB):List Value:=l.flatMap fun x=>[.string (str x.1),.int .i64 x.2]
theorem ur (l:List dB):(mG l).length=l.length * 2:=by
 induction l with
 | nil=>rfl
 | cons x l ih=>unfold mG at *;rw[List.flatMap_cons,List.length_append,ih];simp;omega
theorem EA (a b:List dB):mG (a++b)=mG a++mG b:=by unfold mG;rw[List.flatMap_append]
theorem Kz:∀ (l:List dB) (i:Nat) (x:dB),l[i]? = some x->(mG l)[i * 2]? = some (.string (str x.1))/\(mG l)[i * 2+1]? = some (.int .i64 x.2)
 | [],i,x,h=>by simp at h
 | y::l,0,x,h=>by
  simp at h;subst h;exact⟨rfl,rfl⟩
 | y::l,i+1,x,h=>by
  have:=Kz l i x (by simpa using h);rw[show(i+1) * 2=i * 2+2 by omega,show i * 2+2+1=i * 2+1+2 by omega];exact this
theorem KA:gL Tryz.prog 408 451 2 (.agg #[.string ByteArray.empty,.int .i64 0]) 24:=⟨Tryz.underlying408,⟨Tryz.t451,by kernel_rfl,rfl,rfl,rfl⟩,rfl,by decide⟩
structure mH (w:World)(v:Sl)(l:List dB):Prop where
 sl:aD w 451 2 v (mG l)
 len:v.2.1=l.length
theorem mH.ag {w w':World}{v:Sl}{l:List dB}(h:mH w v l){S:Nat->Prop}(f:Fr S w w')(hn:∀ k,au v k->¬ S k):mH w' v l:=⟨h.sl.ag f hn,h.len⟩
theorem EB (w:World):mH w (none,0,0) []:=⟨.inl ⟨rfl,rfl⟩,rfl⟩
theorem SC {w:World}{v:Sl}{l:List dB}(h:mH w v l)(x:List UInt8)(at_:Int)(hl:l.length<=10000000){K:Sl->World->Prop}
  (hK:∀ y w',mH w' y (l++[(x,at_)])->Fr (au v) w w'->(∀ k,au y k->au v k\/w.heap.size<=k)->K y w') :
  aw Tryz.prog (Instr.buildSlice 408 1 #[(0,.agg #[.string (str x),.int .i64 at_])]) w (.v (.one .ah)) fun(y:Option Addr×Nat×Nat) w'=>
   aw Tryz.prog (Builtin.append_ #[408,408] 408 #[.slice v.1 v.2.1 v.2.2,.slice y.1 y.2.1 y.2.2]) w' (.v (.one .ah)) fun(u:Option Addr×Nat×Nat) nk=>K u nk:=by
 obtain⟨y,w1,r1,hy,gM,f1,yf⟩:=Dy (w:=w) KA 1 #[(0,.agg #[.string (str x),.int .i64 at_])] #[.string (str x),.int .i64 at_] (by omega) (by
  simp[Instr.fill,Value.cells];refine Array.ext (by simp) fun i h1 h2=>?_;have:i=0\/i=1:=by simp at h2;omega
  rcases this with t | t<;>subst t<;>simp) rfl
 refine⟨y,w1,r1,?_⟩;have cC:=h.len;obtain⟨z,w2,r2,hz,hzl,f2,zf⟩:=gb KA 408 (h.sl.af f1) hy.rd (by intro v hv;simp at hv;rcases hv with rfl | rfl<;>rfl) (by rw[gM,cC];omega)
 refine⟨z,w2,r2,hK z w2 ⟨?_,?_⟩ (f1.eG f2) fun k U=>?_⟩
 ·rw[EA];exact hz
 ·rw[hzl,gM,cC,List.length_append];rfl
 ·rcases zf k U with t | t
  ·exact .inl t
  ·exact .inr (Nat.le_trans f1.size t)
theorem A1 {w:World}{v:Sl}{l:List dB}(h:mH w v l){i:Int}(h0:0<=i)(h1:i<v.2.1){x:dB}(hx:l[i.toNat]? = some x){K:Addr->Prop}
  (hK:∀ a:Addr,(∀ (K:ByteArray->Prop),K (str x.1)->ae .str (a.add 0) w K)->(∀ (K:Int->Prop),K x.2->ae (.int .i64) (a.add 1) w K)->(∀ (K:ByteArray×Int×Unit->Prop),K (str x.1,x.2,())->az [.str,.int .i64] a w K)->K a):bK v.1 v.2.1 i 2 K:=by
 obtain⟨hs,hl⟩:=h;obtain⟨c1,c2⟩:=Kz l i.toNat x hx
 rcases hs with⟨rfl,jb⟩ | ⟨g,off,cs,hv,hb,hle,hc,hn,he⟩
 ·dsimp only at h1;omega
 ·refine⟨_,hv,h0,h1,?_⟩
  rw[dw];have hlen:=ur l;have hi:i.toNat<l.length:=by omega
  have e0:w.cell? (⟨g,off+i.toNat * 2,none⟩:Addr)=some (.string (str x.1)):=by
   rw[oT hb,he _ (by omega)];exact c1
  have e1:w.cell? (⟨g,off+i.toNat * 2+1,none⟩:Addr)=some (.int .i64 x.2):=by
   rw[oT hb,show off+i.toNat * 2+1=off+(i.toNat * 2+1) by omega,he _ (by omega)];exact c2
  have a0:((⟨g,off+i.toNat * 2,none⟩:Addr).add 0)=⟨g,off+i.toNat * 2,none⟩:=by rw[dw];rfl
  have a1:((⟨g,off+i.toNat * 2,none⟩:Addr).add 1)=⟨g,off+i.toNat * 2+1,none⟩:=by rw[dw]
  refine hK _ (fun K k=>ae.cell (by rw[a0];exact e0) k) (fun K k=>ae.cell (by rw[a1];exact e1) k) (fun K k=>⟨_,⟨by rw[a0];exact e0,by rw[a1];exact e1,trivial⟩,k⟩)
def qh (l:List dB)(x:List UInt8):List dB:=l.dropLast++[((l.getLastD ([],0)).1++x,(l.getLastD ([],0)).2)]
theorem KB (l:List dB)(h:l≠[]):∃ a y,l=a++[y]:=⟨l.dropLast,l.getLast h,(List.dropLast_concat_getLast h).symm⟩
theorem EC (a:List dB)(y:dB)(x:List UInt8):qh (a++[y]) x=a++[(y.1++x,y.2)]:=by
 unfold qh;simp
theorem SD {w:World}{v:Sl}{a:List dB}{y:dB}(h:mH w v (a++[y]))(x:List UInt8){i:Int}(hi:i=(v.2.1:Int) - 1)(hsz:y.1.length+x.length<=1000000000000){K:World->Prop}
  (hK:∀ w',mH w' v (a++[(y.1++x,y.2)])->Fr (au v) w w'->K w') :
  bK v.1 v.2.1 i 2 (fun p=>ae .str (p.add 0) w fun t=>vg t (Utf8.encode 0 |> fun _=>str x) (bK v.1 v.2.1 i 2 fun q=>ay (q.add 0) (.string (t++str x)) w K)):=by
 have hl:=h.len;rw[List.length_append,List.length_singleton] at hl;refine A1 h (x:=y) (by omega) (by omega) (by rw[show i.toNat=a.length by omega];simp) fun p h0 h1 h2=>?_;refine h0 _ ?_;refine⟨by rw[dx,dx];show((y.1.length+x.length:Nat):Int)<=9223372036854775807;omega,?_⟩;rw[xK];obtain⟨hs,_⟩:=h
 rcases hs with⟨rfl,jb⟩ | ⟨g,off,cs,hv,hb,hle,hc,hn,he⟩
 ·dsimp only at hl;omega
 ·refine⟨_,hv,by omega,by omega,?_⟩
  rw[dw,dw];have hlen:=ur (a++[y]);have A2:=ur a;rw[List.length_append,List.length_singleton] at hlen;have hit:i.toNat=a.length:=by omega
  refine ay.of hb (by omega) rfl fun w1 ar f1 jL=>hK w1 ⟨.inr ⟨g,off,_,hv,ar,hle,by simpa using hc,?_,fun j hj=>?_⟩,by rw[List.length_append,List.length_singleton];omega⟩ (f1.mono fun k _ U=>⟨_,hv,U⟩)
  ·rw[ur,List.length_append,List.length_singleton];omega
  ·rw[ur,List.length_append,List.length_singleton] at hj
   rw[hit,Array.getElem?_setIfInBounds,EA];have A3:=he j (by omega);rw[EA] at A3
   by_cases KC:j<(mG a).length
   ·rw[if_neg (by omega),A3,List.getElem?_append_left KC,List.getElem?_append_left KC]
   ·rw[List.getElem?_append_right (by omega)] at A3 ⊢
    by_cases h0:j - (mG a).length=0
    ·rw[if_pos (by omega),if_pos (by omega),h0];rfl
    ·rw[if_neg (by omega),A3]
     have:j - (mG a).length=1:=by omega
     rw[this];rfl
def eh (acc:List dB)(at_:Int)(run:Bool):List Int->List dB×Int
 | []=>(acc,0)
 | r::rs=>if kd r=0 then([],at_+1) else if kd r=97/\run=true then eh (qh acc (enc r)) (at_+1) true rs else
   if kd r≠32 then eh (acc++[(enc r,at_+1)]) (at_+1) (kd r==97) rs else eh acc (at_+1) false rs
def reads (rs:List Int):Nat:=(rs.takeWhile fun r=>kd r != 0).length
theorem SE (bs:List UInt8)(w:World)(hb:reads (cA bs)<=1000000):Ret Tryz.prog 271 #[.string (str bs)] w fun v w'=>
  ∃ sl:Sl,v=.tuple #[.slice sl.1 sl.2.1 sl.2.2,.int .i64 (eh [] 0 false (cA bs)).2]/\mH w' sl (eh [] 0 false (cA bs)).1/\Fr none1 w w'/\∀ k,au sl k->w.heap.size<=k:=by
 refine c271 _ w _ ?_;refine AG bs fun r w1 hr hit f1=>?_;have F0:Fr (only r) w1 w1:=Fr.refl _ _;have s1:=f1.size;refine bj.of (fun s w'=>∃ (acc:List dB) (rest:List Int),0<=s.2.1/\s.2.1+reads rest<=1000000/\mH w' s.1 acc/\(∀ k,au s.1 k->w.heap.size<k)/\(s.2.2.1=true->acc≠[])/\acc.length<=s.2.1/\(∀ y∈acc,(y.1.length:Int)<=4 * s.2.1)/\ja w' r rest/\Fr none1 w w'/\eh acc s.2.1 s.2.2.1 rest=eh [] 0 false (cA bs)) (fun _ w'=>mu w' r)
  ⟨[],_,Int.le_refl _,by dsimp only;omega,EB _,(fun k ⟨a,ha,_⟩=>by cases ha),(fun t=>by cases t),by simp,(fun y hy=>by simp at hy),hit,f1,rfl⟩ ?_
 rintro _ ⟨v,at_,run,_⟩ w2 ⟨acc,rest,h0,Dl,hv,gW,gK,A2,yr,pX,f2,heq⟩;dsimp only at h0 Dl hv gW gK A2 yr heq ⊢;refine AF pX (fun c kY pos w3 hc jw oW f3=>?_) (fun jb=>?_)
 ·subst hc
  have oX:Fr none1 w w3:=f2.fresh f3 (by omega);have pZ:=hv.ag f3 (fun k U t=>by have:=gW k U;have:k=r:=t;omega);refine ab.of (SB c w3) ?_;rintro _ _ ⟨rfl,rfl⟩;refine⟨_,rfl,?_⟩;have ml:∀ w4,ja w4 r kY->mu w4 r<mu w2 r:=fun w4 h4=>by rw[h4.left,pX.left];simp
  have SF:eh acc at_ run (c::kY)=if kd c=0 then([],at_+1) else if kd c=97/\run=true then eh (qh acc (enc c)) (at_+1) true kY else
   if kd c≠32 then eh (acc++[(enc c,at_+1)]) (at_+1) (kd c==97) kY else eh acc (at_+1) false kY:=rfl
  rw[SF] at heq;have e1:IntKind.i64.wrap (at_+1)=at_+1:=wI (by omega) (by omega);rw[e1];refine aa.eq (fun lF=>?_) (fun lF=>?_)
  ·rw[if_pos lF] at heq
   rw[<- heq];exact⟨(none,0,0),rfl,EB _,oX,fun k ⟨a,ha,_⟩=>by cases ha⟩
  rw[if_neg lF] at heq;have xz:at_+1+reads kY<=1000000:=by
   have:reads (c::kY)=reads kY+1:=by
    unfold reads;rw[List.takeWhile_cons_of_pos (by simpa using lF)];rfl
   omega
  have Az:=JF c;refine bQ.of (fun b w'=>w3=w'/\b.1=(decide (kd c=97)&&run)) ?_ ?_
  ·refine aa.eq (fun h=>?_) (fun h=>?_)
   ·exact⟨rfl,by rw[decide_eq_true h,Bool.true_and]⟩
   ·exact⟨rfl,by rw[decide_eq_false h,Bool.false_and]⟩
  rintro _ ⟨b,_⟩ _ ⟨rfl,KD⟩;dsimp only at KD ⊢;subst KD;refine aa.by (fun ED=>?_) (fun ED=>?_)
  ·have EE:kd c=97/\run=true:=by simpa using ED
   obtain⟨ha,yw⟩:=EE;rw[if_pos ⟨ha,yw⟩] at heq;obtain⟨a,y,rfl⟩:=KB acc (gK yw);rw[EC] at heq;have cC:=hv.len;rw[List.length_append,List.length_singleton] at cC;have hy4:=yr y (by simp);rw[wI (x:=(v.2.1:Int) - 1) (by omega) (by simp at A2;omega)];rw[DP];refine SD pZ (enc c) rfl (by omega) fun w4 SG f4=>?_;have uu:∀ k,au v k->k≠r:=fun k U=>by have:=gW k U;omega
   have sq:=oW.ag f4 (fun t=>uu r t rfl);refine⟨⟨_,kY,by omega,xz,SG,gW,fun _=>by simp,by simp at A2 ⊢;omega,fun z hz=>?_,sq,oX.comp f4 (fun k U t=>by have:=gW k t;omega),?_⟩,ml w4 sq⟩
   ·rcases List.mem_append.1 hz with hz | hz
    ·have:=yr z (by simp[hz]);omega
    ·simp at hz;subst hz
     simp only[List.length_append];omega
   ·rw[ha];exact heq
  ·have EE:¬ (kd c=97/\run=true):=by simpa using ED
   rw[if_neg EE] at heq;refine aa.ne (fun yx=>?_) (fun yx=>?_)
   ·rw[if_pos yx] at heq
    rw[DP];refine SC pZ (enc c) (at_+1) (by omega) fun u w4 hu f4 uf=>?_;have uu:∀ k,au v k->k≠r:=fun k U=>by have:=gW k U;omega
    have sq:=oW.ag f4 (fun t=>uu r t rfl);have s3:=oW.lt;refine⟨⟨_,kY,by omega,xz,hu,fun k U=>?_,fun _=>by simp,by simp;omega,fun z hz=>?_,sq,oX.comp f4 (fun k U t=>by have:=gW k t;omega),heq⟩,ml w4 sq⟩
    ·rcases uf k U with t | t
     ·exact gW k t
     ·omega
    ·rcases List.mem_append.1 hz with hz | hz
     ·have:=yr z hz;omega
     ·simp at hz;subst hz
      dsimp only;omega
   ·rw[if_neg (by simp[yx])] at heq
    refine⟨⟨acc,kY,by omega,xz,pZ,gW,fun t=>?_,by omega,fun z hz=>?_,oW,oX,?_⟩,ml w3 oW⟩
    ·rw[yx] at t;simp at t
    ·have:=yr z hz;omega
    ·rw[yx];exact heq
 ·subst jb
  rw[<- heq];exact⟨v,rfl,hv,f2,fun k U=>by have:=gW k U;omega⟩
def C319 (p0:ByteArray)(p1:ByteArray)(w:World)(K:Value->World->Prop):Prop:=
 ab Tryz.prog 329 #[.string p0,.string p1] w (.v (.one .str)) (fun(x1:ByteArray) w2=>K (.string x1) w2)
def pl319:aB:=.auto
theorem c319 (p0:ByteArray)(p1:ByteArray)(w:World)(K:Value->World->Prop)(h:C319 p0 p1 w K):Ret Tryz.prog 319 #[.string p0,.string p1] w K:=aC (by kernel_rfl) Tryz.func319 (p:=pl319) (Eq.mpr (by kernel_rfl) h)
def C329 (p0:ByteArray)(p1:ByteArray)(w:World)(K:Value->World->Prop):Prop:=
 ab Tryz.prog 343 #[.string p0,.string p1] w (.v (.one .bool)) (fun(x1:Bool) w2=>aa x1
 (tt p0 (p1.size:Int) p0.size (fun x3=>K (.string x3) w2))
 (K (.string p0) w2))
def pl329:aB:=.auto
theorem c329 (p0:ByteArray)(p1:ByteArray)(w:World)(K:Value->World->Prop)(h:C329 p0 p1 w K):Ret Tryz.prog 329 #[.string p0,.string p1] w K:=aC (by kernel_rfl) Tryz.func329 (p:=pl329) (Eq.mpr (by kernel_rfl) h)
def C343 (p0:ByteArray)(p1:ByteArray)(w:World)(K:Value->World->Prop):Prop:=
 aa (decide ((p0.size:Int) >= (p1.size:Int)))
 (tt p0 0 (p1.size:Int) (fun x1=>K (.bool (x1.toList==p1.toList)) w))
 (K (.bool false) w)
def pl343:aB:=.auto
theorem c343 (p0:ByteArray)(p1:ByteArray)(w:World)(K:Value->World->Prop)(h:C343 p0 p1 w K):Ret Tryz.prog 343 #[.string p0,.string p1] w K:=aC (by kernel_rfl) Tryz.func343 (p:=pl343) (Eq.mpr (by kernel_rfl) h)
def C320 (p0:ByteArray)(p1:ByteArray)(w:World)(K:Value->World->Prop):Prop:=
 aa (p0.toList==(⟨#[]⟩:ByteArray).toList)
 (K (.string p0) w)
 (aa (p1.toList==(⟨#[]⟩:ByteArray).toList)
 (K (.string p0) w)
 (bQ (Bool×Unit) (fun J1=>aa ((p1.size:Int)==1)
 (nO p1 0 (fun x4=>J1 (decide (x4<128),()) w))
 (J1 (false,()) w))
 (fun _ s2 w3=>aa s2.1
 (nP w3 (fun C5=>nO p1 0 (fun x6=>fJ C5 3 [] (.v (.one .str)) (fun w8 k9=>ab Tryz.prog 331 #[.string p0,.int .u8 x6] w8 (.v (.one .str)) (fun(aS:ByteArray) aR=>k9 (.string aS) aR))
 (fun(x7:ByteArray)=>nO p1 0 (fun bw=>fJ C5 6 [3] (.v (.one .str)) (fun bu SH=>ab Tryz.prog 330 #[.string x7,.int .u8 bw] bu (.v (.one .str)) (fun(aT:ByteArray) cD=>SH (.string aT) cD))
 (fun(bC:ByteArray)=>(∀ bx,C5 (mem [3,6]) bx->K (.string bC) bx)))))))
 (ab Tryz.prog 332 #[.string p1] w3 (.aP [.arr,.one .bool]) (fun(bt:List Value×Bool×Unit) bz=>aq (.cells #[.bool false,.bool false,.bool false,.bool false,.bool false,.bool false,.bool false,.bool false,.bool false,.bool false,.bool false,.bool false,.bool false,.bool false,.bool false,.bool false,.bool false,.bool false,.bool false,.bool false,.bool false,.bool false,.bool false,.bool false,.bool false,.bool false,.bool false,.bool false,.bool false,.bool false,.bool false,.bool false,.bool false,.bool false,.bool false,.bool false,.bool false,.bool false,.bool false,.bool false,.bool false,.bool false,.bool false,.bool false,.bool false,.bool false,.bool false,.bool false,.bool false,.bool false,.bool false,.bool false,.bool false,.bool false,.bool false,.bool false,.bool false,.bool false,.bool false,.bool false,.bool false,.bool false,.bool false,.bool false,.bool false,.bool false,.bool false,.bool false,.bool false,.bool false,.bool false,.bool false,.bool false,.bool false,.bool false,.bool false,.bool false,.bool false,.bool false,.bool false,.bool false,.bool false,.bool false,.bool false,.bool false,.bool false,.bool false,.bool false,.bool false,.bool false,.bool false,.bool false,.bool false,.bool false,.bool false,.bool false,.bool false,.bool false,.bool false,.bool false,.bool false,.bool false,.bool false,.bool false,.bool false,.bool false,.bool false,.bool false,.bool false,.bool false,.bool false,.bool false,.bool false,.bool false,.bool false,.bool false,.bool false,.bool false,.bool false,.bool false,.bool false,.bool false,.bool false,.bool false,.bool false,.bool false,.bool false,.bool false,.bool false,.bool false,.bool false,.bool false,.bool false,.bool false,.bool false,.bool false,.bool false,.bool false,.bool false,.bool false,.bool false,.bool false,.bool false,.bool false,.bool false,.bool false,.bool false,.bool false,.bool false,.bool false,.bool false,.bool false,.bool false,.bool false,.bool false,.bool false,.bool false,.bool false,.bool false,.bool false,.bool false,.bool false,.bool false,.bool false,.bool false,.bool false,.bool false,.bool false,.bool false,.bool false,.bool false,.bool false,.bool false,.bool false,.bool false,.bool false,.bool false,.bool false,.bool false,.bool false,.bool false,.bool false,.bool false,.bool false,.bool false,.bool false,.bool false,.bool false,.bool false,.bool false,.bool false,.bool false,.bool false,.bool false,.bool false,.bool false,.bool false,.bool false,.bool false,.bool false,.bool false,.bool false,.bool false,.bool false,.bool false,.bool false,.bool false,.bool false,.bool false,.bool false,.bool false,.bool false,.bool false,.bool false,.bool false,.bool false,.bool false,.bool false,.bool false,.bool false,.bool false,.bool false,.bool false,.bool false,.bool false,.bool false,.bool false,.bool false,.bool false,.bool false,.bool false,.bool false,.bool false,.bool false,.bool false,.bool false,.bool false,.bool false,.bool false,.bool false,.bool false,.bool false,.bool false,.bool false,.bool false,.bool false,.bool false,.bool false,.bool false,.bool false,.bool false,.bool false,.bool false,.bool false,.bool false,.bool false] 472) bz (fun g21 bA=>kI (bt.1.length=256) (av (ad g21) bt.1 bA (fun dW=>aa bt.2.1
 (ab Tryz.prog 334 #[.string p0,.pointer (some (ad g21))] dW (.v (.one .str)) (fun(cN:ByteArray) dn=>ab Tryz.prog 333 #[.string cN,.pointer (some (ad g21))] dn (.v (.one .str)) (fun(dk:ByteArray) eM=>K (.string dk) eM)))
 (ab Tryz.prog 336 #[.string p0,.string p1] dW (.v (.one .str)) (fun(eX:ByteArray) eg=>ab Tryz.prog 335 #[.string eX,.string p1] eg (.v (.one .str)) (fun(dX:ByteArray) eK=>K (.string dX) eK)))))))))))
def pl320:aB:=(.seq .auto (.seq .auto (.seq (.join [(21,.one .bool)] .auto (.cond (.seq (.any [(3,.v (.one .str)),(6,.v (.one .str))]) .auto) .auto)) .auto)))
theorem c320 (p0:ByteArray)(p1:ByteArray)(w:World)(K:Value->World->Prop)(h:C320 p0 p1 w K):Ret Tryz.prog 320 #[.string p0,.string p1] w K:=aC (by kernel_rfl) Tryz.func320 (p:=pl320) (Eq.mpr (by kernel_rfl) h)
def C332 (p0:ByteArray)(w:World)(K:Value->World->Prop):Prop:=
 aq (.cells #[.bool false,.bool false,.bool false,.bool false,.bool false,.bool false,.bool false,.bool false,.bool false,.bool false,.bool false,.bool false,.bool false,.bool false,.bool false,.bool false,.bool false,.bool false,.bool false,.bool false,.bool false,.bool false,.bool false,.bool false,.bool false,.bool false,.bool false,.bool false,.bool false,.bool false,.bool false,.bool false,.bool false,.bool false,.bool false,.bool false,.bool false,.bool false,.bool false,.bool false,.bool false,.bool false,.bool false,.bool false,.bool false,.bool false,.bool false,.bool false,.bool false,.bool false,.bool false,.bool false,.bool false,.bool false,.bool false,.bool false,.bool false,.bool false,.bool false,.bool false,.bool false,.bool false,.bool false,.bool false,.bool false,.bool false,.bool false,.bool false,.bool false,.bool false,.bool false,.bool false,.bool false,.bool false,.bool false,.bool false,.bool false,.bool false,.bool false,.bool false,.bool false,.bool false,.bool false,.bool false,.bool false,.bool false,.bool false,.bool false,.bool false,.bool false,.bool false,.bool false,.bool false,.bool false,.bool false,.bool false,.bool false,.bool false,.bool false,.bool false,.bool false,.bool false,.bool false,.bool false,.bool false,.bool false,.bool false,.bool false,.bool false,.bool false,.bool false,.bool false,.bool false,.bool false,.bool false,.bool false,.bool false,.bool false,.bool false,.bool false,.bool false,.bool false,.bool false,.bool false,.bool false,.bool false,.bool false,.bool false,.bool false,.bool false,.bool false,.bool false,.bool false,.bool false,.bool false,.bool false,.bool false,.bool false,.bool false,.bool false,.bool false,.bool false,.bool false,.bool false,.bool false,.bool false,.bool false,.bool false,.bool false,.bool false,.bool false,.bool false,.bool false,.bool false,.bool false,.bool false,.bool false,.bool false,.bool false,.bool false,.bool false,.bool false,.bool false,.bool false,.bool false,.bool false,.bool false,.bool false,.bool false,.bool false,.bool false,.bool false,.bool false,.bool false,.bool false,.bool false,.bool false,.bool false,.bool false,.bool false,.bool false,.bool false,.bool false,.bool false,.bool false,.bool false,.bool false,.bool false,.bool false,.bool false,.bool false,.bool false,.bool false,.bool false,.bool false,.bool false,.bool false,.bool false,.bool false,.bool false,.bool false,.bool false,.bool false,.bool false,.bool false,.bool false,.bool false,.bool false,.bool false,.bool false,.bool false,.bool false,.bool false,.bool false,.bool false,.bool false,.bool false,.bool false,.bool false,.bool false,.bool false,.bool false,.bool false,.bool false,.bool false,.bool false,.bool false,.bool false,.bool false,.bool false,.bool false,.bool false,.bool false,.bool false,.bool false,.bool false,.bool false,.bool false,.bool false,.bool false,.bool false,.bool false,.bool false,.bool false,.bool false,.bool false,.bool false,.bool false,.bool false,.bool false,.bool false,.bool false,.bool false,.bool false,.bool false,.bool false] 472) w (fun g1 w2=>bj (Int×Unit) (fun _ s3 w4 kg=>aa (decide (s3.1<(p0.size:Int)))
 (nO p0 s3.1 (fun x6=>aa (decide (x6 >= 128))
 (eF 256 (ad g1) w4 (fun x7=>kI (x7.length=256) (av (ad g1) x7 w4 (fun w8=>eF 256 (ad g1) w8 (fun x9=>K (.tuple #[.agg x9.toArray,.bool false]) w8)))))
 (CR (ad g1) 256 x6 1 (fun uh=>ay uh (.bool true) w4 (fun aR=>kg (IntKind.i64.wrap (s3.1+1),()) aR)))))
 (eF 256 (ad g1) w4 (fun bw=>kI (bw.length=256) (av (ad g1) bw w4 (fun aW=>eF 256 (ad g1) aW (fun bn=>K (.tuple #[.agg bn.toArray,.bool true]) aW))))))
 (0,()) w2)
def pl332:aB:=(.seq .auto (.seq (.seq .auto (.block (.loop [(4,.one (.int .i64))] .auto))) .auto))
theorem c332 (p0:ByteArray)(w:World)(K:Value->World->Prop)(h:C332 p0 w K):Ret Tryz.prog 332 #[.string p0] w K:=aC (by kernel_rfl) Tryz.func332 (p:=pl332) (Eq.mpr (by kernel_rfl) h)
def C333 (p0:ByteArray)(p1:Addr)(w:World)(K:Value->World->Prop):Prop:=
 bj (ByteArray×Unit) (fun _ s1 w2 gr=>aa (decide ((s1.1.size:Int) > 0))
 (nO s1.1 0 (fun x4=>ab Tryz.prog 344 #[.pointer (some p1),.int .u8 x4] w2 (.v (.one .bool)) (fun(x5:Bool) w6=>aa (!x5)
 (K (.string s1.1) w6)
 (tt s1.1 1 s1.1.size (fun x7=>gr (x7,()) w6)))))
 (K (.string s1.1) w2))
 (p0,()) w
def pl333:aB:=(.seq .auto (.seq (.block (.loop [(0,.one .str)] .auto)) .auto))
theorem c333 (p0:ByteArray)(p1:Addr)(w:World)(K:Value->World->Prop)(h:C333 p0 p1 w K):Ret Tryz.prog 333 #[.string p0,.pointer (some p1)] w K:=aC (by kernel_rfl) Tryz.func333 (p:=pl333) (Eq.mpr (by kernel_rfl) h)
def C334 (p0:ByteArray)(p1:Addr)(w:World)(K:Value->World->Prop):Prop:=
 bj (ByteArray×Unit) (fun _ s1 w2 gr=>aa (decide ((s1.1.size:Int) > 0))
 (nO s1.1 (IntKind.i64.wrap ((s1.1.size:Int) - 1)) (fun x4=>ab Tryz.prog 344 #[.pointer (some p1),.int .u8 x4] w2 (.v (.one .bool)) (fun(x5:Bool) w6=>aa (!x5)
 (K (.string s1.1) w6)
 (tt s1.1 0 (IntKind.i64.wrap ((s1.1.size:Int) - 1)) (fun x7=>gr (x7,()) w6)))))
 (K (.string s1.1) w2))
 (p0,()) w
def pl334:aB:=(.seq .auto (.seq (.block (.loop [(0,.one .str)] .auto)) .auto))
theorem c334 (p0:ByteArray)(p1:Addr)(w:World)(K:Value->World->Prop)(h:C334 p0 p1 w K):Ret Tryz.prog 334 #[.string p0,.pointer (some p1)] w K:=aC (by kernel_rfl) Tryz.func334 (p:=pl334) (Eq.mpr (by kernel_rfl) h)
def C344 (p0:Addr)(p1:Int)(w:World)(K:Value->World->Prop):Prop:=
 CR p0 256 p1 1 (fun a1=>ae .bool a1 w (fun(x2:Bool)=>K (.bool x2) w))
def pl344:aB:=.auto
theorem c344 (p0:Addr)(p1:Int)(w:World)(K:Value->World->Prop)(h:C344 p0 p1 w K):Ret Tryz.prog 344 #[.pointer (some p0),.int .u8 p1] w K:=aC (by kernel_rfl) Tryz.func344 (p:=pl344) (Eq.mpr (by kernel_rfl) h)
def C321 (p0:ByteArray)(w:World)(K:Value->World->Prop):Prop:=
 ab Tryz.prog 337 #[.string p0] w (.aP [.one (.int .i64),.one .raw]) (fun(x1:Int×Value×Unit) w2=>aw Tryz.prog (do eqGuard .neq 422 (.tmp 11) (.const .nilIface) x1.2.1 .nilIface;binOp .neq 422 x1.2.1 .nilIface) w2 (.v (.one .bool)) (fun(x3:Bool) w4=>aa x3
 (ab Tryz.prog 338 #[.string (⟨#[65,116,111,105]⟩:ByteArray),.string p0,.int .i64 0,.int .i64 0,x1.2.1] w4 (.v (.one .raw)) (fun(x5:Value) w6=>K (.tuple #[.int .i64 x1.1,x5]) w6))
 (K (.tuple #[.int .i64 x1.1,.nilIface]) w4)))
def pl321:aB:=.auto
theorem c321 (p0:ByteArray)(w:World)(K:Value->World->Prop)(h:C321 p0 w K):Ret Tryz.prog 321 #[.string p0] w K:=aC (by kernel_rfl) Tryz.func321 (p:=pl321) (Eq.mpr (by kernel_rfl) h)
def C337 (p0:ByteArray)(w:World)(K:Value->World->Prop):Prop:=
 bQ (Bool×Unit) (fun J1=>aa (decide ((0:Int)<(p0.size:Int)))
 (J1 (decide ((p0.size:Int)<19),()) w)
 (J1 (false,()) w))
 (fun _ s2 w3=>aa s2.1
 (bQ (ByteArray×Unit) (fun J4=>bQ (Bool×Unit) (fun J7=>nO p0 0 (fun aS=>aa (aS==45)
 (J7 (true,()) w3)
 (nO p0 0 (fun aZ=>J7 ((aZ==43),()) w3))))
 (fun _ s8 w9=>aa s8.1
 (tt p0 1 p0.size (fun bw=>aa (decide ((bw.size:Int)<1))
 (K (.tuple #[.int .i64 0,.iface 490 (.int .i64 2)]) w9)
 (J4 (bw,()) w9)))
 (J4 (p0,()) w9)))
 (fun _ s5 w6=>aw Tryz.prog (convert 9 22 (.string s5.1)) w6 (.v (.one .ah)) (fun(bC:ao) bu=>bj (Int×Int×Unit) (fun _ nr br tU=>aa (decide (nr.2.1<(bC.2.1:Int)))
 (bK bC.1 bC.2.1 nr.2.1 1 (fun uv=>ae (.int .u8) uv br (fun(bt:Int)=>aa (decide ((IntKind.u8.wrap (bt - 48)) > 9))
 (K (.tuple #[.int .i64 0,.iface 490 (.int .i64 2)]) br)
 (tU (IntKind.i64.wrap ((IntKind.i64.wrap (nr.1 * 10))+(IntKind.i64.wrap (IntKind.u8.wrap (bt - 48)))),IntKind.i64.wrap (nr.2.1+1),()) br))))
 (nO p0 0 (fun cm=>aa (cm==45)
 (K (.tuple #[.int .i64 (IntKind.i64.wrap (0 - nr.1)),.nilIface]) br)
 (K (.tuple #[.int .i64 nr.1,.nilIface]) br))))
 (0,0,()) bu)))
 (ab Tryz.prog 348 #[.string p0,.int .i64 10,.int .i64 0] w3 (.aP [.one (.int .i64),.one .raw]) (fun(b9:Int×Value×Unit) bA=>K (.tuple #[.int .i64 b9.1,b9.2.1]) bA)))
def pl337:aB:=(.seq .auto (.seq .auto (.seq (.join [(30,.one .bool)] .auto (.cond (.seq .auto (.join [(0,.one .str)] (.join [(39,.one .bool)] .auto .auto) (.seq .auto (.seq (.seq .auto (.block (.loop [(6,.one (.int .i64)),(49,.one (.int .i64))] .auto))) .auto)))) .auto)) .auto)))
theorem c337 (p0:ByteArray)(w:World)(K:Value->World->Prop)(h:C337 p0 w K):Ret Tryz.prog 337 #[.string p0] w K:=aC (by kernel_rfl) Tryz.func337 (p:=pl337) (Eq.mpr (by kernel_rfl) h)
def C303 (p0:ByteArray)(w:World)(K:Value->World->Prop):Prop:=
 ab Tryz.prog 319 #[.string p0,.string (⟨#[45]⟩:ByteArray)] w (.v (.one .str)) (fun(x1:ByteArray) w2=>bQ (Bool×Unit) (fun J3=>aa (x1.toList==(⟨#[]⟩:ByteArray).toList)
 (J3 (true,()) w2)
 (aa (decide ((x1.size:Int) > 13))
 (J3 (true,()) w2)
 (ab Tryz.prog 320 #[.string x1,.string (⟨#[48,49,50,51,52,53,54,55,56,57]⟩:ByteArray)] w2 (.v (.one .str)) (fun(x6:ByteArray) w7=>aa (!(x6.toList==(⟨#[]⟩:ByteArray).toList))
 (J3 (true,()) w7)
 (nO x1 0 (fun x8=>aa (x8==48)
 (J3 ((!(p0.toList==(⟨#[48]⟩:ByteArray).toList)),()) w7)
 (J3 (false,()) w7)))))))
 (fun _ s4 w5=>aa s4.1
 (K (.tuple #[.int .i64 0,.bool false]) w5)
 (ab Tryz.prog 321 #[.string p0] w5 (.aP [.one (.int .i64),.one .raw]) (fun(x9:Int×Value×Unit) aK=>aw Tryz.prog (do eqGuard .neq 422 (.tmp 35) (.const .nilIface) x9.2.1 .nilIface;binOp .neq 422 x9.2.1 .nilIface) aK (.v (.one .bool)) (fun(aZ:Bool) aO=>aa aZ
 (K (.tuple #[.int .i64 0,.bool false]) aO)
 (aa (decide (x9.1<(-1000000000000)))
 (K (.tuple #[.int .i64 0,.bool false]) aO)
 (aa (decide (x9.1 > 1000000000000))
 (K (.tuple #[.int .i64 0,.bool false]) aO)
 (K (.tuple #[.int .i64 x9.1,.bool true]) aO))))))))
def pl303:aB:=(.seq .auto (.seq .auto (.seq (.join [(29,.one .bool)] .auto .auto) .auto)))
theorem c303 (p0:ByteArray)(w:World)(K:Value->World->Prop)(h:C303 p0 w K):Ret Tryz.prog 303 #[.string p0] w K:=aC (by kernel_rfl) Tryz.func303 (p:=pl303) (Eq.mpr (by kernel_rfl) h)
end Go.Proofs.YtmkehncgjnhhcaaGreatDoor
