/-
  Texts of this claim, put together: CRunes, NameSpec, CEventG, Shelf, EventSpec, RuneSl, CPackE, PackSpec, TermV, CObsG, ObsSpec, CTermG, TermSpec, CWriteG, WriteSpec, RuneSpec, CStrLib.
  Conditions: those of each theorem.
-/
import Derived.Test.YtdphmcanlhcokaaGreatDoorM0
import Derived.KernelRfl
import Derived.Laws.StructEq
import Derived.Shelf.Bytes.SlEqualAll
import Derived.Shelf.Bytes.Small
import Derived.Shelf.LaysM
import Derived.Shelf.Small.Strs
import Derived.Shelf.Small.Utf8
import Derived.Shelf.Strconv.Itoa0
import Derived.Shelf.Strconv.Itoa1
import Derived.Shelf.Strconv.Itoa2
import Derived.Shelf.Strconv.Itoa3
import Derived.Shelf.Strings.AsciiSet
import Derived.Shelf.Strings.Builder1
import Derived.Shelf.Strings.Builder2
import Derived.Shelf.Strings.OnBuilder
import Derived.Shelf.Strings.RuneCount
import Derived.Shelf.Strings.Runes
import Derived.Shelf.Strings.Search1
import Derived.Shelf.Strings.Search2
import Derived.Shelf.Strings.Search3
import Derived.Shelf.Strings.Shaped
import Derived.Shelf.Unicode.Decode
import Derived.Shelf.Unicode.DecodeAny
import Derived.Shelf.Unicode.DecodeLast
import Derived.Shelf.Unicode.DecodeSlow
import Derived.Shelf.Utf8.RuneCount
import Derived.Test.YtdphmcanlhcokaaGreatDoorProg
namespace Go.Proofs.YtdphmcanlhcokaaGreatDoor
open Vc
set_option maxRecDepth 100000
set_option linter.unusedVariables false
def C124 (p0:Int) (w:World) (K:Value→World→Prop):Prop:=
 ifB (decide (p0 ≥ 48))
 (K (.bool (decide (p0≤57))) w)
 (K (.bool false) w)
def pl124:Plan:=.auto
theorem c124 (p0:Int) (w:World) (K:Value→World→Prop) (h:C124 p0 w K):Ret Tryz.prog 124 #[.int .i32 p0] w K:=z0z (by kernel_rfl) Tryz.func124 (p:=pl124) (Eq.mpr (by kernel_rfl) h)
def C123 (p0:Int) (w:World) (K:Value→World→Prop):Prop:=
 ifB (decide (p0 ≥ 97))
 (ifB (decide (p0≤122))
 (K (.bool true) w)
 (CallK Tryz.prog 124 #[.int .i32 p0] w (.v (.one .bool)) (fun (x1:Bool) w2=>ifB x1
 (K (.bool true) w2)
 (ifB (p0==95)
 (K (.bool true) w2)
 (ifB (decide (p0 ≥ 128))
 (K (.bool (p0 != 65533)) w2)
 (K (.bool false) w2))))))
 (CallK Tryz.prog 124 #[.int .i32 p0] w (.v (.one .bool)) (fun (x3:Bool) w4=>ifB x3
 (K (.bool true) w4)
 (ifB (p0==95)
 (K (.bool true) w4)
 (ifB (decide (p0 ≥ 128))
 (K (.bool (p0 != 65533)) w4)
 (K (.bool false) w4)))))
def pl123:Plan:=.auto
theorem c123 (p0:Int) (w:World) (K:Value→World→Prop) (h:C123 p0 w K):Ret Tryz.prog 123 #[.int .i32 p0] w K:=z0z (by kernel_rfl) Tryz.func123 (p:=pl123) (Eq.mpr (by kernel_rfl) h)
def C94 (p0:ByteArray) (w:World) (K:Value→World→Prop):Prop:=
 RunK Tryz.prog (Instr.range 9 (.string p0)) w (.v (.one .ptr)) (fun (x1:Option Addr) w2=>LoopK (Int×Unit) (fun _ s3 w4 next5=>NextK x1 w4 (fun x6 x7 w8=>CallK Tryz.prog 123 #[.int .i32 x7] w8 (.v (.one .bool)) (fun (x9:Bool) w10=>ifB (!x9)
 (K (.bool false) w10)
 (ifB ((IntKind.i64.wrap (s3.1+1))==1)
 (CallK Tryz.prog 124 #[.int .i32 x7] w10 (.v (.one .bool)) (fun (x11:Bool) w12=>ifB x11
 (K (.bool false) w12)
 (ifB (decide ((IntKind.i64.wrap (s3.1+1)) > 12))
 (K (.bool false) w12)
 (next5 (IntKind.i64.wrap (s3.1+1),()) w12))))
 (ifB (decide ((IntKind.i64.wrap (s3.1+1)) > 12))
 (K (.bool false) w10)
 (next5 (IntKind.i64.wrap (s3.1+1),()) w10)))))
 (K (.bool (decide (s3.1 > 0))) w4))
 (0,()) w2)
def pl94:Plan:=(.seq .auto (.seq .auto (.seq (.seq .auto (.block (.loop [(3,.one (.int .i64))] .auto))) .auto)))
theorem c94 (p0:ByteArray) (w:World) (K:Value→World→Prop) (h:C94 p0 w K):Ret Tryz.prog 94 #[.string p0] w K:=z0z (by kernel_rfl) Tryz.func94 (p:=pl94) (Eq.mpr (by kernel_rfl) h)
def C209 (p0:Int) (w:World) (K:Value→World→Prop):Prop:=
 CallK Tryz.prog 123 #[.int .i32 p0] w (.v (.one .bool)) (fun (x1:Bool) w2=>ifB x1
 (K (.int .u8 97) w2)
 (ifB (p0==45)
 (K (.int .u8 97) w2)
 (ifB (p0==40)
 (K (.int .u8 40) w2)
 (ifB (p0==41)
 (K (.int .u8 40) w2)
 (ifB (p0==44)
 (K (.int .u8 40) w2)
 (ifB (p0==32)
 (K (.int .u8 32) w2)
 (K (.int .u8 0) w2)))))))
def pl209:Plan:=.auto
theorem c209 (p0:Int) (w:World) (K:Value→World→Prop) (h:C209 p0 w K):Ret Tryz.prog 209 #[.int .i32 p0] w K:=z0z (by kernel_rfl) Tryz.func209 (p:=pl209) (Eq.mpr (by kernel_rfl) h)
def C188 (p0:ByteArray) (w:World) (K:Value→World→Prop):Prop:=
 RunK Tryz.prog (Instr.range 9 (.string p0)) w (.v (.one .ptr)) (fun (x1:Option Addr) w2=>LoopK (SlT×Int×Bool×Unit) (fun _ s3 w4 next5=>NextK x1 w4 (fun x6 x7 w8=>CallK Tryz.prog 209 #[.int .i32 x7] w8 (.v (.one (.int .u8))) (fun (x9:Int) w10=>ifB (x9==0)
 (K (.tuple #[.slice none 0 0,.int .i64 (IntKind.i64.wrap (s3.2.1+1))]) w10)
 (JoinK (Bool×Unit) (fun J11=>ifB (x9==97)
 (J11 (s3.2.2.1,()) w10)
 (J11 (false,()) w10))
 (fun _ s12 w13=>ifB s12.1
 (IdxK s3.1.1 s3.1.2.1 (IntKind.i64.wrap ((s3.1.2.1:Int) - 1)) 2 (fun a14=>LdK .str (a14.add 0) w13 (fun (x15:ByteArray)=>CatK x15 (Utf8.encode x7) (IdxK s3.1.1 s3.1.2.1 (IntKind.i64.wrap ((s3.1.2.1:Int) - 1)) 2 (fun a16=>StK (a16.add 0) (.string (x15++(Utf8.encode x7))) w13 (fun w17=>next5 ((s3.1.1,s3.1.2.1,s3.1.2.2),IntKind.i64.wrap (s3.2.1+1),(x9==97),()) w17))))))
 (ifB (x9 != 32)
 (RunK Tryz.prog (Instr.buildSlice 301 1 #[(0,.agg #[.string (Utf8.encode x7),.int .i64 (IntKind.i64.wrap (s3.2.1+1))])]) w13 (.v (.one .slc)) (fun (x18:SlT) w19=>RunK Tryz.prog (Builtin.append_ #[301,301] 301 #[.slice s3.1.1 s3.1.2.1 s3.1.2.2,.slice x18.1 x18.2.1 x18.2.2]) w19 (.v (.one .slc)) (fun (x20:SlT) w21=>next5 ((x20.1,x20.2.1,x20.2.2),IntKind.i64.wrap (s3.2.1+1),(x9==97),()) w21)))
 (next5 ((s3.1.1,s3.1.2.1,s3.1.2.2),IntKind.i64.wrap (s3.2.1+1),(x9==97),()) w13))))))
 (K (.tuple #[.slice s3.1.1 s3.1.2.1 s3.1.2.2,.int .i64 0]) w4))
 ((none,0,0),0,false,()) w2)
def pl188:Plan:=(.seq .auto (.seq .auto (.seq (.seq .auto (.block (.loop [(2,.one .slc),(4,.one (.int .i64)),(5,.one .bool)] (.seq .auto (.seq .auto (.block (.seq .auto (.seq .auto (.seq .auto (.seq .auto (.seq (.block (.join [(21,.one .bool)] .auto .auto)) .auto))))))))))) .auto)))
theorem c188 (p0:ByteArray) (w:World) (K:Value→World→Prop) (h:C188 p0 w K):Ret Tryz.prog 188 #[.string p0] w K:=z0z (by kernel_rfl) Tryz.func188 (p:=pl188) (Eq.mpr (by kernel_rfl) h)
def C50 (p0:ByteArray) (p1:Int) (w:World) (K:Value→World→Prop):Prop:=
 SubsK p0 0 (if p1<(p0.size:Int) then p1 else (p0.size:Int)) (fun x1=>K (.string x1) w)
def pl50:Plan:=.auto
theorem c50 (p0:ByteArray) (p1:Int) (w:World) (K:Value→World→Prop) (h:C50 p0 p1 w K):Ret Tryz.prog 50 #[.string p0,.int .i64 p1] w K:=z0z (by kernel_rfl) Tryz.func50 (p:=pl50) (Eq.mpr (by kernel_rfl) h)
def isDig (r:Int):Bool:=decide (48≤r)&&decide (r≤57)
def isLet (r:Int):Bool:=(decide (97≤r)&&decide (r≤122))||isDig r||r==95||(decide (128≤r)&&r != 65533)
theorem digit_spec (r:Int) (w:World):Ret Tryz.prog 124 #[.int .i32 r] w fun v w'=>v=.bool (isDig r)∧w=w':=by
 refine c124 r w _ ?_
 unfold isDig
 refine ifB.dec (fun h=>?_) (fun h=>?_)
 ·rw [decide_eq_true (p:=48≤r) (by omega)];exact ⟨rfl,rfl⟩
 ·rw [decide_eq_false (p:=48≤r) (by omega)];exact ⟨rfl,rfl⟩
theorem letter_spec (r:Int) (w:World):Ret Tryz.prog 123 #[.int .i32 r] w fun v w'=>v=.bool (isLet r)∧w=w':=by
 refine c123 r w _ ?_
 have tail:(decide (97≤r)&&decide (r≤122))=false→CallK Tryz.prog 124 #[.int .i32 r] w (.v (.one .bool)) (fun (x1:Bool) w2=>ifB x1
   ((.bool true:Value)=.bool (isLet r)∧w=w2) (ifB (r==95) ((.bool true:Value)=.bool (isLet r)∧w=w2) (ifB (decide (r ≥ 128)) ((.bool (r != 65533):Value)=.bool (isLet r)∧w=w2) ((.bool false:Value)=.bool (isLet r)∧w=w2)))):=fun h=>by
  refine CallK.of (digit_spec r w) ?_
  rintro _ _ ⟨rfl,rfl⟩
  refine ⟨_,rfl,?_⟩
  unfold isLet
  rw [h,Bool.false_or]
  refine ifB.by (fun h1=>?_) (fun h1=>?_)
  ·rw [h1];exact ⟨rfl,rfl⟩
  rw [h1,Bool.false_or]
  refine ifB.by (fun h2=>?_) (fun h2=>?_)
  ·rw [h2];exact ⟨rfl,rfl⟩
  rw [h2,Bool.false_or]
  refine ifB.dec (fun h3=>?_) (fun h3=>?_)
  ·rw [decide_eq_true (p:=128≤r) (by omega)];exact ⟨by rw [Bool.true_and],rfl⟩
  ·rw [decide_eq_false (p:=128≤r) (by omega)];exact ⟨rfl,rfl⟩
 refine ifB.dec (fun h=>?_) (fun h=>?_)
 ·refine ifB.dec (fun h2=>?_) (fun h2=>?_)
  ·unfold isLet
   rw [decide_eq_true (p:=97≤r) (by omega),decide_eq_true (p:=r≤122) (by omega)];exact ⟨rfl,rfl⟩
  ·exact tail (by rw [decide_eq_false (p:=r≤122) (by omega),Bool.and_false])
 ·exact tail (by rw [decide_eq_false (p:=97≤r) (by omega),Bool.false_and])
def itLen (w:World) (r:Nat):Nat:=match w.heap[r]? with
 | some (.stringIter s pos)=>(runesL (s.data.toList.drop pos)).length
 | _=>0
theorem IsIt.left {w:World} {r:Nat} {rs:List Int} (h:IsIt w r rs):itLen w r=rs.length:=by
 obtain ⟨s,pos,a,b⟩:=h
 unfold itLen
 rw [a,← b]
theorem range_okS {w:World} (bs:List UInt8) {K:Option Addr→World→Prop}
  (hK:∀ r w1,r=w.heap.size→IsIt w1 r (runesL bs)→Fr none1 w w1→K (some ⟨r,0,none⟩) w1):RunK Tryz.prog (Instr.range 9 (.string (str bs))) w (.v (.one .ptr)) K:=by
 refine range_ok Tryz.underlying9 (str bs) ?_
 rw [z5z]
 exact hK
def nameF (n:Nat):List Int→Bool
 | []=>decide (0<n)
 | r::rs=>if isLet r=false then false else if n=0∧isDig r=true then false else if 12<n+1 then false else nameF (n+1) rs
theorem name_spec (bs:List UInt8) (w:World):Ret Tryz.prog 94 #[.string (str bs)] w fun v w'=>v=.bool (nameF 0 (runesL bs))∧Fr none1 w w':=by
 refine c94 _ w _ ?_
 refine range_okS bs fun r w1 hr hit f1=>?_
 have F0:Fr (only r) w1 w1:=Fr.refl _ _
 refine LoopK.of (fun s w'=>∃ (n:Nat) (rest:List Int),s.1=n∧n≤12∧IsIt w' r rest∧Fr (only r) w1 w'∧nameF n rest=nameF 0 (runesL bs)) (fun _ w'=>itLen w' r) ⟨0,_,rfl,by omega,hit,F0,rfl⟩ ?_
 rintro _ ⟨n',_⟩ w2 ⟨n,rest,hn,hn12,hit2,f2,hnm⟩
 dsimp only at hn ⊢
 subst hn
 have fin:∀ w',Fr (only r) w1 w'→Fr none1 w w':=fun w' f=>f1.fresh f (by omega)
 refine next_ok hit2 (fun c rest' pos w3 hc hok hit3 f3=>?_) (fun hnil=>?_)
 ·subst hc
  have fw3:=fin _ (f2.trans f3)
  refine CallK.of (letter_spec c w3) ?_
  rintro _ _ ⟨rfl,rfl⟩
  refine ⟨_,rfl,?_⟩
  have ml:itLen w3 r<itLen w2 r:=by rw [hit3.left,hit2.left];simp
  have hst:nameF n (c::rest')=if isLet c=false then false else if n=0∧isDig c=true then false else if 12<n+1 then false else nameF (n+1) rest':=rfl
  rw [hst] at hnm
  by_cases hl:isLet c=false
  ·rw [if_pos hl] at hnm
   refine ifB.t (by rw [hl];rfl) ⟨by rw [← hnm],fw3⟩
  rw [if_neg hl] at hnm
  refine ifB.f (by simpa using hl) ?_
  rw [wI (x:=(n:Int)+1) (by omega) (by omega)]
  have rest12:¬ (n=0∧isDig c=true)→ifB (decide ((n:Int)+1 > 12)) ((.bool false:Value)=.bool (nameF 0 (runesL bs))∧Fr none1 w w3)
    ((∃ (n':Nat) (rest:List Int),((n:Int)+1)=n'∧n'≤12∧IsIt w3 r rest∧Fr (only r) w1 w3∧nameF n' rest=nameF 0 (runesL bs))∧itLen w3 r<itLen w2 r):=fun hd=>by
   rw [if_neg hd] at hnm
   refine ifB.dec (fun h=>?_) (fun h=>?_)
   ·rw [if_pos (by omega)] at hnm;exact ⟨by rw [← hnm],fw3⟩
   ·rw [if_neg (by omega)] at hnm
    exact ⟨⟨n+1,rest',by omega,by omega,hit3,f2.trans f3,hnm⟩,ml⟩
  refine ifB.eq (fun h1=>?_) (fun h1=>?_)
  ·refine CallK.of (digit_spec c w3) ?_
   rintro _ _ ⟨rfl,rfl⟩
   refine ⟨_,rfl,?_⟩
   refine ifB.by (fun hd=>?_) (fun hd=>?_)
   ·rw [if_pos ⟨by omega,hd⟩] at hnm;exact ⟨by rw [← hnm],fw3⟩
   ·exact rest12 fun t=>by rw [t.2] at hd;cases hd
  ·exact rest12 fun t=>by have:=t.1;omega
 ·subst hnil
  refine ⟨?_,fin _ f2⟩
  rw [← hnm]
  unfold nameF
  congr 1
  exact decide_eq_decide.2 (by omega)
theorem text1_spec (bs:List UInt8) (n:Int) (w:World) (h0:0≤n):Ret Tryz.prog 50 #[.string (str bs),.int .i64 n] w fun r w'=>r=.string (str (bs.take n.toNat))∧w=w':=by
 refine c50 _ n w _ ?_
 have hsz:=z1z bs
 have ext:∀ m:Nat,(str bs).extract 0 m=str (bs.take m):=fun m=>by
  apply ByteArray.ext
  rw [ByteArray.data_extract]
  unfold str
  simp
 unfold C50
 split
 ·refine ⟨by omega,by omega,by omega,?_,rfl⟩
  rw [show (0:Int).toNat=0 from rfl,ext]
 ·refine ⟨by omega,by omega,by omega,?_,rfl⟩
  rw [show (0:Int).toNat=0 from rfl,ext,Int.toNat_natCast,hsz,List.take_length,List.take_of_length_le (by omega)]
def C33 (p0:YZ14) (w:World) (K:Value→World→Prop):Prop:=
 NewK (.cells ((LZ14 p0).toArray) 36) w (fun g1 w2=>LdK (.int .i64) ((ad g1).add 0) w2 (fun (x3:Int)=>CallK Tryz.prog 60 #[.int .i64 x3] w2 (.v (.one .str)) (fun (x4:ByteArray) w5=>ifB (x4.toList==(⟨#[63]⟩:ByteArray).toList)
 (K (.int .i64 1) w5)
 (LdsK KZ14 (ad g1) w5 (fun (x6:YZ14)=>CallK Tryz.prog 61 #[.agg (LZ14 x6).toArray] w5 (.v (.one .bool)) (fun (x7:Bool) w8=>ifB (!x7)
 (K (.int .i64 1) w8)
 (LdsK KZ14 (ad g1) w8 (fun (x9:YZ14)=>CallK Tryz.prog 62 #[.agg (LZ14 x9).toArray] w8 (.v (.one .bool)) (fun (x10:Bool) w11=>ifB (!x10)
 (K (.int .i64 1) w11)
 (LdK (.int .i64) ((ad g1).add 5) w11 (fun (x12:Int)=>ifB (decide (x12<0))
 (K (.int .i64 1) w11)
 (LdK (.int .i64) ((ad g1).add 5) w11 (fun (x13:Int)=>ifB (decide (x13 > 10000))
 (K (.int .i64 1) w11)
 (LdK (.int .i64) ((ad g1).add 6) w11 (fun (x14:Int)=>CallK Tryz.prog 63 #[.int .i64 x14] w11 (.v (.one .bool)) (fun (x15:Bool) w16=>ifB (!x15)
 (K (.int .i64 1) w16)
 (JoinK (Bool×Unit) (fun J17=>LdK (.int .i64) ((ad g1).add 0) w16 (fun (x20:Int)=>ifB (x20==4)
 (LdK (.int .i64) ((ad g1).add 6) w16 (fun (x21:Int)=>ifB (x21 != 0)
 (LdK (.int .i64) ((ad g1).add 6) w16 (fun (x22:Int)=>J17 ((x22 != 1),()) w16))
 (J17 (false,()) w16)))
 (J17 (false,()) w16)))
 (fun _ s18 w19=>ifB s18.1
 (K (.int .i64 1) w19)
 (LdK (.int .i64) ((ad g1).add 0) w19 (fun (x23:Int)=>ifB (x23==2)
 (LdK .raw ((ad g1).add 7) w19 (fun (x24:Value)=>CallK Tryz.prog 64 #[x24] w19 (.tup [.one .str,.one (.int .i64)]) (fun (x25:ByteArray×Int×Unit) w26=>K (.int .i64 x25.2.1) w26)))
 (K (.int .i64 0) w19)))))))))))))))))))))
def pl33:Plan:=(.seq .auto (.seq (.block (.seq .auto (.cond .auto (.seq .auto (.cond .auto (.join [(35,.one .bool)] .auto .auto)))))) .auto))
theorem c33 (p0:YZ14) (w:World) (K:Value→World→Prop) (h:C33 p0 w K):Ret Tryz.prog 33 #[.agg (LZ14 p0).toArray] w K:=z0z (by kernel_rfl) Tryz.func33 (p:=pl33) (Eq.mpr (by kernel_rfl) h)
def C60 (p0:Int) (w:World) (K:Value→World→Prop):Prop:=
 ifB (p0==1)
 (K (.string (⟨#[]⟩:ByteArray)) w)
 (ifB (p0==2)
 (K (.string (⟨#[73,84]⟩:ByteArray)) w)
 (ifB (p0==3)
 (K (.string (⟨#[78,68,86]⟩:ByteArray)) w)
 (ifB (p0==4)
 (K (.string (⟨#[73,76,86]⟩:ByteArray)) w)
 (ifB (p0==5)
 (K (.string (⟨#[68]⟩:ByteArray)) w)
 (ifB (p0==6)
 (K (.string (⟨#[68,67,86]⟩:ByteArray)) w)
 (K (.string (⟨#[63]⟩:ByteArray)) w))))))
def pl60:Plan:=.auto
theorem c60 (p0:Int) (w:World) (K:Value→World→Prop) (h:C60 p0 w K):Ret Tryz.prog 60 #[.int .i64 p0] w K:=z0z (by kernel_rfl) Tryz.func60 (p:=pl60) (Eq.mpr (by kernel_rfl) h)
def C61 (p0:YZ14) (w:World) (K:Value→World→Prop):Prop:=
 NewK (.cells ((LZ14 p0).toArray) 36) w (fun g1 w2=>NewK (.map #[] 0) w2 (fun g3 w4=>LdK .str ((ad g1).add 1) w4 (fun (x5:ByteArray)=>RunU Tryz.prog (Instr.mapUpdate 168 (.map (some g3)) (.string (⟨#[73]⟩:ByteArray)) (.string x5)) w4 (fun w6=>LdK .str ((ad g1).add 2) w6 (fun (x7:ByteArray)=>RunU Tryz.prog (Instr.mapUpdate 168 (.map (some g3)) (.string (⟨#[78]⟩:ByteArray)) (.string x7)) w6 (fun w8=>LdK .str ((ad g1).add 3) w8 (fun (x9:ByteArray)=>RunU Tryz.prog (Instr.mapUpdate 168 (.map (some g3)) (.string (⟨#[76]⟩:ByteArray)) (.string x9)) w8 (fun w10=>LdK .str ((ad g1).add 4) w10 (fun (x11:ByteArray)=>RunU Tryz.prog (Instr.mapUpdate 168 (.map (some g3)) (.string (⟨#[67]⟩:ByteArray)) (.string x11)) w10 (fun w12=>RunK Tryz.prog (Instr.range 168 (.map (some g3))) w12 (.v (.one .ptr)) (fun (x13:Option Addr) w14=>LoopK (Unit) (fun _ s15 w16 next17=>MnextK Tryz.prog (.pointer x13) 0 w16 (fun x18 x19 w20=>RunK Tryz.prog (Instr.entry (.pointer x13)) w20 (.tup [.one .raw,.one .raw]) (fun (x22:Value×Value×Unit) w23=>Kd.ex (.one .str) x22.1 (fun (x24:ByteArray)=>Kd.ex (.one .str) x22.2.1 (fun (x25:ByteArray)=>ifB (!(x25.toList==(⟨#[]⟩:ByteArray).toList))
 (LdK (.int .i64) ((ad g1).add 0) w23 (fun (x26:Int)=>CallK Tryz.prog 93 #[.int .i64 x26,.string x24] w23 (.v (.one .bool)) (fun (x27:Bool) w28=>ifB (!x27)
 (K (.bool false) w28)
 (next17 (()) w28))))
 (next17 (()) w23)))))
 (fun w21=>LdK (.int .i64) ((ad g1).add 5) w21 (fun (x29:Int)=>ifB (x29==0)
 (LdK (.int .i64) ((ad g1).add 6) w21 (fun (x30:Int)=>ifB (x30==0)
 (LdK .raw ((ad g1).add 7) w21 (fun (x31:Value)=>RunK Tryz.prog (do eqGuard .eql 34 (.tmp 52) (.const .nilIface) x31 .nilIface;binOp .eql 34 x31 .nilIface) w21 (.v (.one .bool)) (fun (x32:Bool) w33=>ifB x32
 (K (.bool true) w33)
 (LdK (.int .i64) ((ad g1).add 0) w33 (fun (x34:Int)=>CallK Tryz.prog 93 #[.int .i64 x34,.string (⟨#[84]⟩:ByteArray)] w33 (.v (.one .bool)) (fun (x35:Bool) w36=>K (.bool x35) w36))))))
 (LdK (.int .i64) ((ad g1).add 0) w21 (fun (x37:Int)=>CallK Tryz.prog 93 #[.int .i64 x37,.string (⟨#[86]⟩:ByteArray)] w21 (.v (.one .bool)) (fun (x38:Bool) w39=>ifB x38
 (LdK .raw ((ad g1).add 7) w39 (fun (x40:Value)=>RunK Tryz.prog (do eqGuard .eql 34 (.tmp 52) (.const .nilIface) x40 .nilIface;binOp .eql 34 x40 .nilIface) w39 (.v (.one .bool)) (fun (x41:Bool) w42=>ifB x41
 (K (.bool true) w42)
 (LdK (.int .i64) ((ad g1).add 0) w42 (fun (x43:Int)=>CallK Tryz.prog 93 #[.int .i64 x43,.string (⟨#[84]⟩:ByteArray)] w42 (.v (.one .bool)) (fun (x44:Bool) w45=>K (.bool x44) w45))))))
 (K (.bool false) w39))))))
 (LdK (.int .i64) ((ad g1).add 0) w21 (fun (x46:Int)=>CallK Tryz.prog 93 #[.int .i64 x46,.string (⟨#[68]⟩:ByteArray)] w21 (.v (.one .bool)) (fun (x47:Bool) w48=>ifB x47
 (LdK (.int .i64) ((ad g1).add 6) w48 (fun (x49:Int)=>ifB (x49==0)
 (LdK .raw ((ad g1).add 7) w48 (fun (x50:Value)=>RunK Tryz.prog (do eqGuard .eql 34 (.tmp 52) (.const .nilIface) x50 .nilIface;binOp .eql 34 x50 .nilIface) w48 (.v (.one .bool)) (fun (x51:Bool) w52=>ifB x51
 (K (.bool true) w52)
 (LdK (.int .i64) ((ad g1).add 0) w52 (fun (x53:Int)=>CallK Tryz.prog 93 #[.int .i64 x53,.string (⟨#[84]⟩:ByteArray)] w52 (.v (.one .bool)) (fun (x54:Bool) w55=>K (.bool x54) w55))))))
 (LdK (.int .i64) ((ad g1).add 0) w48 (fun (x56:Int)=>CallK Tryz.prog 93 #[.int .i64 x56,.string (⟨#[86]⟩:ByteArray)] w48 (.v (.one .bool)) (fun (x57:Bool) w58=>ifB x57
 (LdK .raw ((ad g1).add 7) w58 (fun (x59:Value)=>RunK Tryz.prog (do eqGuard .eql 34 (.tmp 52) (.const .nilIface) x59 .nilIface;binOp .eql 34 x59 .nilIface) w58 (.v (.one .bool)) (fun (x60:Bool) w61=>ifB x60
 (K (.bool true) w61)
 (LdK (.int .i64) ((ad g1).add 0) w61 (fun (x62:Int)=>CallK Tryz.prog 93 #[.int .i64 x62,.string (⟨#[84]⟩:ByteArray)] w61 (.v (.one .bool)) (fun (x63:Bool) w64=>K (.bool x63) w64))))))
 (K (.bool false) w58))))))
 (K (.bool false) w48)))))))
 (()) w14)))))))))))
def pl61:Plan:=(.seq .auto (.seq .auto (.seq (.seq .auto (.block (.loop [] .auto))) .auto)))
theorem c61 (p0:YZ14) (w:World) (K:Value→World→Prop) (h:C61 p0 w K):Ret Tryz.prog 61 #[.agg (LZ14 p0).toArray] w K:=z0z (by kernel_rfl) Tryz.func61 (p:=pl61) (Eq.mpr (by kernel_rfl) h)
def C62 (p0:YZ14) (w:World) (K:Value→World→Prop):Prop:=
 NewK (.cells ((LZ14 p0).toArray) 36) w (fun g1 w2=>NewK (.map #[] 0) w2 (fun g3 w4=>LdK .str ((ad g1).add 1) w4 (fun (x5:ByteArray)=>RunU Tryz.prog (Instr.mapUpdate 168 (.map (some g3)) (.string (⟨#[73]⟩:ByteArray)) (.string x5)) w4 (fun w6=>LdK .str ((ad g1).add 2) w6 (fun (x7:ByteArray)=>RunU Tryz.prog (Instr.mapUpdate 168 (.map (some g3)) (.string (⟨#[78]⟩:ByteArray)) (.string x7)) w6 (fun w8=>LdK .str ((ad g1).add 3) w8 (fun (x9:ByteArray)=>RunU Tryz.prog (Instr.mapUpdate 168 (.map (some g3)) (.string (⟨#[76]⟩:ByteArray)) (.string x9)) w8 (fun w10=>LdK .str ((ad g1).add 4) w10 (fun (x11:ByteArray)=>RunU Tryz.prog (Instr.mapUpdate 168 (.map (some g3)) (.string (⟨#[67]⟩:ByteArray)) (.string x11)) w10 (fun w12=>RunK Tryz.prog (Instr.range 168 (.map (some g3))) w12 (.v (.one .ptr)) (fun (x13:Option Addr) w14=>LoopK (Unit) (fun _ s15 w16 next17=>MnextK Tryz.prog (.pointer x13) 0 w16 (fun x18 x19 w20=>RunK Tryz.prog (Instr.entry (.pointer x13)) w20 (.tup [.one .raw,.one .raw]) (fun (x22:Value×Value×Unit) w23=>Kd.ex (.one .str) x22.1 (fun (x24:ByteArray)=>Kd.ex (.one .str) x22.2.1 (fun (x25:ByteArray)=>LdK (.int .i64) ((ad g1).add 0) w23 (fun (x26:Int)=>CallK Tryz.prog 93 #[.int .i64 x26,.string x24] w23 (.v (.one .bool)) (fun (x27:Bool) w28=>ifB x27
 (CallK Tryz.prog 94 #[.string x25] w28 (.v (.one .bool)) (fun (x29:Bool) w30=>ifB (!x29)
 (K (.bool false) w30)
 (next17 (()) w30)))
 (next17 (()) w28)))))))
 (fun w21=>K (.bool true) w21))
 (()) w14)))))))))))
def pl62:Plan:=(.seq .auto (.seq .auto (.seq (.seq .auto (.block (.loop [] .auto))) .auto)))
theorem c62 (p0:YZ14) (w:World) (K:Value→World→Prop) (h:C62 p0 w K):Ret Tryz.prog 62 #[.agg (LZ14 p0).toArray] w K:=z0z (by kernel_rfl) Tryz.func62 (p:=pl62) (Eq.mpr (by kernel_rfl) h)
def C93 (p0:Int) (p1:ByteArray) (w:World) (K:Value→World→Prop):Prop:=
 CallK Tryz.prog 60 #[.int .i64 p0] w (.v (.one .str)) (fun (x1:ByteArray) w2=>CallK Tryz.prog 122 #[.string x1,.string p1] w2 (.v (.one .bool)) (fun (x3:Bool) w4=>K (.bool x3) w4))
def pl93:Plan:=.auto
theorem c93 (p0:Int) (p1:ByteArray) (w:World) (K:Value→World→Prop) (h:C93 p0 p1 w K):Ret Tryz.prog 93 #[.int .i64 p0,.string p1] w K:=z0z (by kernel_rfl) Tryz.func93 (p:=pl93) (Eq.mpr (by kernel_rfl) h)
def C63 (p0:Int) (w:World) (K:Value→World→Prop):Prop:=
 ifB (decide (p0 ≥ (-1000000000000)))
 (K (.bool (decide (p0≤1000000000000))) w)
 (K (.bool false) w)
def pl63:Plan:=.auto
theorem c63 (p0:Int) (w:World) (K:Value→World→Prop) (h:C63 p0 w K):Ret Tryz.prog 63 #[.int .i64 p0] w K:=z0z (by kernel_rfl) Tryz.func63 (p:=pl63) (Eq.mpr (by kernel_rfl) h)
open Go.Shelf
def Tryz.lays156_ren:Go.Shelf.Ren:=⟨fun | 156=>155 | 165=>166 | 166=>167 | 169=>168 | 240=>181 | 241=>182 | 276=>202 | 277=>203 | n=>n,fun | 31=>27 | 9=>9 | 3=>3 | 4=>4 | 0=>0 | 20=>20 | 72=>292 | 76=>295 | 70=>290 | 37=>22 | 75=>294 | 127=>310 | 164=>326 | 5=>5 | 80=>246 | n=>n,fun | n=>n⟩
theorem Tryz.lays156:Go.Proofs.Lays.n156 Tryz.prog Tryz.lays156_ren:={
 mixed:=by kernel_rfl
 f156:=Tryz.func155.trans (congrArg some (by kernel_rfl))
 f165:=Tryz.func166.trans (congrArg some (by kernel_rfl))
 f166:=Tryz.func167.trans (congrArg some (by kernel_rfl))
 f169:=Tryz.func168.trans (congrArg some (by kernel_rfl))
 f240:=Tryz.func181.trans (congrArg some (by kernel_rfl))
 f241:=Tryz.func182.trans (congrArg some (by kernel_rfl))
 f276:=Tryz.func202.trans (congrArg some (by kernel_rfl))
 f277:=Tryz.func203.trans (congrArg some (by kernel_rfl))
 t0:=Tryz.underlying0
 a0:=Tryz.isAgg0
 z0:=Tryz.sizeOf0
 v0:=Tryz.zeroValue0
 t3:=Tryz.underlying3
 a3:=Tryz.isAgg3
 z3:=Tryz.sizeOf3
 v3:=Tryz.zeroValue3
 t4:=Tryz.underlying4
 a4:=Tryz.isAgg4
 z4:=Tryz.sizeOf4
 v4:=Tryz.zeroValue4
 t9:=Tryz.underlying9
 a9:=Tryz.isAgg9
 z9:=Tryz.sizeOf9
 v9:=Tryz.zeroValue9
 t20:=Tryz.underlying20
 a20:=Tryz.isAgg20
 z20:=Tryz.sizeOf20
 v20:=Tryz.zeroValue20
 t31:=Tryz.underlying27
 a31:=Tryz.isAgg27
 z31:=Tryz.sizeOf27
 v31:=Tryz.zeroValue27
 t37:=Tryz.underlying22
 a37:=Tryz.isAgg22
 z37:=Tryz.sizeOf22
 v37:=Tryz.zeroValue22
 t70:=Tryz.underlying290
 a70:=Tryz.isAgg290
 z70:=Tryz.sizeOf290
 v70:=Tryz.zeroValue290
 t72:=Tryz.underlying292
 a72:=Tryz.isAgg292
 z72:=Tryz.sizeOf292
 v72:=Tryz.zeroValue292
 t75:=Tryz.underlying294
 a75:=Tryz.isAgg294
 z75:=Tryz.sizeOf294
 v75:=Tryz.zeroValue294
 t76:=Tryz.underlying295
 a76:=Tryz.isAgg295
 z76:=Tryz.sizeOf295
 v76:=Tryz.zeroValue295
 t127:=Tryz.underlying310
 a127:=Tryz.isAgg310
 z127:=Tryz.sizeOf310
 v127:=Tryz.zeroValue310
 t164:=Tryz.underlying326
 a164:=Tryz.isAgg326
 z164:=Tryz.sizeOf326
 v164:=Tryz.zeroValue326 }
theorem Tryz.Builder_Extra_156:Builder.Extra Tryz.prog Tryz.lays156_ren:={
 sizeBuilder:=by kernel_rfl
 liesBuilder:=by kernel_rfl
 t5:=Tryz.underlying5
 a5:=Tryz.isAgg5
 z5:=Tryz.sizeOf5
 v5:=Tryz.zeroValue5
 infoByte:=by kernel_rfl
 cellsByte:=by kernel_rfl
 sizeByte:=by kernel_rfl
 neB5:=by decide }
open Go.RowKit in
theorem Tryz.strings_Join (bk o c:Nat) (xs:List ByteArray) (sep:ByteArray) (w:World) (hcells:∀ (j:Nat) x,xs[j]? = some x→w.cell? ⟨bk,o+j,none⟩=some (.string x)) (hbk:bk<w.heap.size) (hN:xs.length≤140737488355328) (hcap:xs.length≤c) (hlen:(Lib.join (xs.map (·.data.toList)) sep.data.toList).length≤140737488355328) :
  Calls Tryz.prog 155 #[.slice (some ⟨bk,o,none⟩) xs.length c,.string sep] w fun e w'=>e=.returned (.string ⟨(Lib.join (xs.map (·.data.toList)) sep.data.toList).toArray⟩)∧Below w.heap.size w w':=Any.strings_Join Tryz.lays156 Tryz.Builder_Extra_156 bk o c xs sep w hcells hbk hN hcap hlen
def Tryz.lays195_ren:Go.Shelf.Ren:=⟨fun | 195=>187 | n=>n,fun | 9=>9 | 3=>3 | 0=>0 | 4=>4 | n=>n,fun | n=>n⟩
theorem Tryz.lays195:Go.Proofs.Lays.n195 Tryz.prog Tryz.lays195_ren:={
 mixed:=by kernel_rfl
 f195:=Tryz.func187.trans (congrArg some (by kernel_rfl))
 t0:=Tryz.underlying0
 a0:=Tryz.isAgg0
 z0:=Tryz.sizeOf0
 v0:=Tryz.zeroValue0
 t3:=Tryz.underlying3
 a3:=Tryz.isAgg3
 z3:=Tryz.sizeOf3
 v3:=Tryz.zeroValue3
 t4:=Tryz.underlying4
 a4:=Tryz.isAgg4
 z4:=Tryz.sizeOf4
 v4:=Tryz.zeroValue4
 t9:=Tryz.underlying9
 a9:=Tryz.isAgg9
 z9:=Tryz.sizeOf9
 v9:=Tryz.zeroValue9 }
open Go.RowKit in
theorem Tryz.utf8_RuneCountInString (s:ByteArray) (w:World) (hs:s.size<9223372036854775807) :
  Calls Tryz.prog 187 #[.string s] w fun e w'=>e=.returned (.int .i64 (Lib.runeCount s))∧∃ pos,w'=w.iter s pos:=Any.utf8_RuneCountInString Tryz.lays195 s w hs
def Tryz.laysM171_ren:Go.Shelf.Ren:=⟨fun | 171=>131 | 243=>156 | 246=>169 | 283=>183 | 284=>184 | 285=>185 | 286=>186 | 129=>205 | 317=>204 | 318=>206 | 319=>207 | 320=>208 | 337=>216 | 338=>217 | n=>n,fun | 3=>3 | 9=>9 | 2=>2 | 4=>4 | 171=>311 | 0=>0 | 53=>23 | 37=>22 | 5=>5 | 173=>314 | 212=>328 | 51=>322 | 20=>20 | 213=>329 | 46=>59 | 232=>337 | 233=>338 | n=>n,fun | 17=>1 | 18=>2 | 19=>3 | n=>n⟩
theorem Tryz.laysM171:Go.Proofs.LaysM.n171 Tryz.prog Tryz.laysM171_ren:={
 mixed:=by kernel_rfl
 f129:=Tryz.func205.trans (congrArg some (by kernel_rfl))
 f171:=Tryz.func131.trans (congrArg some (by kernel_rfl))
 f243:=Tryz.func156.trans (congrArg some (by kernel_rfl))
 f246:=Tryz.func169.trans (congrArg some (by kernel_rfl))
 f283:=Tryz.func183.trans (congrArg some (by kernel_rfl))
 f284:=Tryz.func184.trans (congrArg some (by kernel_rfl))
 f285:=Tryz.func185.trans (congrArg some (by kernel_rfl))
 f286:=Tryz.func186.trans (congrArg some (by kernel_rfl))
 f317:=Tryz.func204.trans (congrArg some (by kernel_rfl))
 f318:=Tryz.func206.trans (congrArg some (by kernel_rfl))
 f319:=Tryz.func207.trans (congrArg some (by kernel_rfl))
 f320:=Tryz.func208.trans (congrArg some (by kernel_rfl))
 f337:=Tryz.func216.trans (congrArg some (by kernel_rfl))
 f338:=Tryz.func217.trans (congrArg some (by kernel_rfl))
 t0:=Tryz.underlying0
 a0:=Tryz.isAgg0
 z0:=Tryz.sizeOf0
 v0:=Tryz.zeroValue0
 t2:=Tryz.underlying2
 a2:=Tryz.isAgg2
 z2:=Tryz.sizeOf2
 v2:=Tryz.zeroValue2
 t3:=Tryz.underlying3
 a3:=Tryz.isAgg3
 z3:=Tryz.sizeOf3
 v3:=Tryz.zeroValue3
 t4:=Tryz.underlying4
 a4:=Tryz.isAgg4
 z4:=Tryz.sizeOf4
 v4:=Tryz.zeroValue4
 t5:=Tryz.underlying5
 a5:=Tryz.isAgg5
 z5:=Tryz.sizeOf5
 v5:=Tryz.zeroValue5
 t9:=Tryz.underlying9
 a9:=Tryz.isAgg9
 z9:=Tryz.sizeOf9
 v9:=Tryz.zeroValue9
 t20:=Tryz.underlying20
 a20:=Tryz.isAgg20
 z20:=Tryz.sizeOf20
 v20:=Tryz.zeroValue20
 t37:=Tryz.underlying22
 a37:=Tryz.isAgg22
 z37:=Tryz.sizeOf22
 v37:=Tryz.zeroValue22
 t46:=Tryz.underlying59
 a46:=Tryz.isAgg59
 z46:=Tryz.sizeOf59
 v46:=Tryz.zeroValue59
 t51:=Tryz.underlying322
 a51:=Tryz.isAgg322
 z51:=Tryz.sizeOf322
 v51:=Tryz.zeroValue322
 t53:=Tryz.underlying23
 a53:=Tryz.isAgg23
 z53:=Tryz.sizeOf23
 v53:=Tryz.zeroValue23
 t171:=Tryz.underlying311
 a171:=Tryz.isAgg311
 z171:=Tryz.sizeOf311
 v171:=Tryz.zeroValue311
 t173:=Tryz.underlying314
 a173:=Tryz.isAgg314
 z173:=Tryz.sizeOf314
 v173:=Tryz.zeroValue314
 t212:=Tryz.underlying328
 a212:=Tryz.isAgg328
 z212:=Tryz.sizeOf328
 v212:=Tryz.zeroValue328
 t213:=Tryz.underlying329
 a213:=Tryz.isAgg329
 z213:=Tryz.sizeOf329
 t232:=Tryz.underlying337
 a232:=Tryz.isAgg337
 z232:=Tryz.sizeOf337
 v232:=Tryz.zeroValue337
 t233:=Tryz.underlying338
 a233:=Tryz.isAgg338
 z233:=Tryz.sizeOf338
 v233:=Tryz.zeroValue338
 g17:=by kernel_rfl
 g18:=by kernel_rfl
 g19:=by kernel_rfl
 i0:=by kernel_rfl
 i2:=by kernel_rfl
 i3:=by kernel_rfl
 i4:=by kernel_rfl
 i5:=by kernel_rfl
 i9:=by kernel_rfl
 i20:=by kernel_rfl
 i37:=by kernel_rfl
 i46:=by kernel_rfl
 i51:=by kernel_rfl
 i53:=by kernel_rfl
 i171:=by kernel_rfl
 i173:=by kernel_rfl
 i212:=by kernel_rfl
 i232:=by kernel_rfl
 i233:=by kernel_rfl
 m17:=by kernel_rfl
 m18:=by kernel_rfl
 m19:=by kernel_rfl }
open Go.RowKit Go.Sort Go.Lib in
theorem Tryz.strconv_Itoa (n : Int) (h0 : -9223372036854775808 ≤ n) (h1 : n ≤ 9223372036854775807) (w : World) (htab : Lib.TabIs Tryz.prog w "internal/strconv.uint64pow10" .u64 Lib.pow10Tab) :
  Calls Tryz.prog 131 #[.int .i64 n] w fun e w'=>e=.returned (.string ⟨(Lib.itoa n).toArray⟩)∧∃ k os,w'=grow (w.drewN k) os:=Any.strconv_Itoa Tryz.laysM171 n h0 h1 w htab
open Go.RowKit Go.Sort Go.Lib in
def Tryz.lays144_ren:Go.Shelf.Ren:=⟨fun | 144=>122 | 143=>149 | 219=>162 | 217=>174 | 225=>175 | 224=>176 | 267=>177 | 266=>199 | 314=>200 | n=>n,fun | 9=>9 | 4=>4 | 3=>3 | 5=>5 | 46=>59 | 146=>323 | 51=>322 | n=>n,fun | 1=>0 | n=>n⟩
theorem Tryz.lays144:Go.Proofs.Lays.n144 Tryz.prog Tryz.lays144_ren:={
 mixed:=by kernel_rfl
 f143:=Tryz.func149.trans (congrArg some (by kernel_rfl))
 f144:=Tryz.func122.trans (congrArg some (by kernel_rfl))
 f217:=Tryz.func174.trans (congrArg some (by kernel_rfl))
 f219:=Tryz.func162.trans (congrArg some (by kernel_rfl))
 f224:=Tryz.func176.trans (congrArg some (by kernel_rfl))
 f225:=Tryz.func175.trans (congrArg some (by kernel_rfl))
 f266:=Tryz.func199.trans (congrArg some (by kernel_rfl))
 f267:=Tryz.func177.trans (congrArg some (by kernel_rfl))
 f314:=Tryz.func200.trans (congrArg some (by kernel_rfl))
 t3:=Tryz.underlying3
 a3:=Tryz.isAgg3
 z3:=Tryz.sizeOf3
 v3:=Tryz.zeroValue3
 t4:=Tryz.underlying4
 a4:=Tryz.isAgg4
 z4:=Tryz.sizeOf4
 v4:=Tryz.zeroValue4
 t5:=Tryz.underlying5
 a5:=Tryz.isAgg5
 z5:=Tryz.sizeOf5
 v5:=Tryz.zeroValue5
 t9:=Tryz.underlying9
 a9:=Tryz.isAgg9
 z9:=Tryz.sizeOf9
 v9:=Tryz.zeroValue9
 t46:=Tryz.underlying59
 a46:=Tryz.isAgg59
 z46:=Tryz.sizeOf59
 v46:=Tryz.zeroValue59
 t51:=Tryz.underlying322
 a51:=Tryz.isAgg322
 z51:=Tryz.sizeOf322
 v51:=Tryz.zeroValue322
 t146:=Tryz.underlying323
 a146:=Tryz.isAgg323
 z146:=Tryz.sizeOf323
 v146:=Tryz.zeroValue323
 g1:=by kernel_rfl }
open Go.RowKit Go.Lib in
theorem Tryz.strings_Contains_one (s:ByteArray) (c:UInt8) (w:World) :
  Calls Tryz.prog 122 #[.string s,.string ⟨#[c]⟩] w fun e w'=>e=.returned (.bool (decide (0≤Lib.indexByte s.data.toList c)))∧w'=w:=Any.strings_Contains_one Tryz.lays144 s c w
def Tryz.lays115_ren:Go.Shelf.Ren:=⟨fun | 115=>41 | n=>n,fun | 37=>22 | 4=>4 | 9=>9 | 5=>5 | n=>n,fun | n=>n⟩
theorem Tryz.lays115:Go.Proofs.Lays.n115 Tryz.prog Tryz.lays115_ren:={
 mixed:=by kernel_rfl
 f115:=Tryz.func41.trans (congrArg some (by kernel_rfl))
 t4:=Tryz.underlying4
 a4:=Tryz.isAgg4
 z4:=Tryz.sizeOf4
 v4:=Tryz.zeroValue4
 t9:=Tryz.underlying9
 a9:=Tryz.isAgg9
 z9:=Tryz.sizeOf9
 v9:=Tryz.zeroValue9
 t37:=Tryz.underlying22
 a37:=Tryz.isAgg22
 z37:=Tryz.sizeOf22
 v37:=Tryz.zeroValue22 }
theorem Tryz.bytes_Equal (v1 v2:Value) (xs ys:List Int) (w:World) (h1:(convert 22 9 v1).run Tryz.prog w=.ok (.string (strOfNums xs)) w) (h2:(convert 22 9 v2).run Tryz.prog w=.ok (.string (strOfNums ys)) w) :
  Calls Tryz.prog 41 #[v1,v2] w fun e w'=>e=.returned (.bool (Lib.bytesOf xs==Lib.bytesOf ys))∧w'=w:=Any.bytes_Equal Tryz.lays115 v1 v2 xs ys w h1 h2
abbrev EvT:=Int×ByteArray×ByteArray×ByteArray×ByteArray×Int×Int×Value×Unit
def evA (e:EvT):Value:=.agg #[.int .i64 e.1,.string e.2.1,.string e.2.2.1,.string e.2.2.2.1,.string e.2.2.2.2.1,.int .i64 e.2.2.2.2.2.1,.int .i64 e.2.2.2.2.2.2.1,e.2.2.2.2.2.2.2.1]
def fieldsF (k:Int):List UInt8:=
 if k=1 then [] else if k=2 then [73,84] else if k=3 then [78,68,86] else if k=4 then [73,76,86] else if k=5 then [68] else if k=6 then [68,67,86] else [63]
def hasF (k:Int) (c:UInt8):Bool:=(fieldsF k).contains c
def nameB (s:ByteArray):Bool:=nameF 0 (runesL s.data.toList)
def validF (n:Int):Bool:=decide (-1000000000000≤n)&&decide (n≤1000000000000)
def nilT:Value→Bool
 | .nilIface=>true
 | _=>false
def ifcT (v:Value):Prop:=v=.nilIface∨∃ t u,v=.iface t u
def emptyB (s:ByteArray):Bool:=s.toList==(⟨#[]⟩:ByteArray).toList
def onlyF (e:EvT):Bool:=
 (emptyB e.2.1||hasF e.1 73)&&(emptyB e.2.2.1||hasF e.1 78)&&(emptyB e.2.2.2.1||hasF e.1 76)&&(emptyB e.2.2.2.2.1||hasF e.1 67) &&
 ((e.2.2.2.2.2.1==0||hasF e.1 68)&&(e.2.2.2.2.2.2.1==0||hasF e.1 86)&&(nilT e.2.2.2.2.2.2.2.1||hasF e.1 84))
def namedF (e:EvT):Bool:=
 (!hasF e.1 73||nameB e.2.1)&&(!hasF e.1 78||nameB e.2.2.1)&&(!hasF e.1 76||nameB e.2.2.2.1)&&(!hasF e.1 67||nameB e.2.2.2.2.1)
def checkF (e:EvT) (tr:Int):Int:=
 if fieldsF e.1=[63] then 1 else if onlyF e=false then 1 else if namedF e=false then 1 else
 if e.2.2.2.2.2.1<0 then 1 else if e.2.2.2.2.2.1 > 10000 then 1 else if validF e.2.2.2.2.2.2.1=false then 1 else
 if e.1=4∧e.2.2.2.2.2.2.1≠0∧e.2.2.2.2.2.2.1≠1 then 1 else if e.1=2 then tr else 0
theorem efields_spec (k:Int) (w:World):Ret Tryz.prog 60 #[.int .i64 k] w fun r w'=>r=.string (str (fieldsF k))∧w=w':=by
 refine c60 k w _ ?_
 unfold fieldsF
 refine ifB.eq (fun h=>?_) (fun h=>?_)
 ·rw [if_pos h];exact ⟨rfl,rfl⟩
 rw [if_neg h]
 refine ifB.eq (fun h=>?_) (fun h=>?_)
 ·rw [if_pos h];exact ⟨rfl,rfl⟩
 rw [if_neg h]
 refine ifB.eq (fun h=>?_) (fun h=>?_)
 ·rw [if_pos h];exact ⟨rfl,rfl⟩
 rw [if_neg h]
 refine ifB.eq (fun h=>?_) (fun h=>?_)
 ·rw [if_pos h];exact ⟨rfl,rfl⟩
 rw [if_neg h]
 refine ifB.eq (fun h=>?_) (fun h=>?_)
 ·rw [if_pos h];exact ⟨rfl,rfl⟩
 rw [if_neg h]
 refine ifB.eq (fun h=>?_) (fun h=>?_)
 ·rw [if_pos h];exact ⟨rfl,rfl⟩
 rw [if_neg h];exact ⟨rfl,rfl⟩
theorem valid_spec (n:Int) (w:World):Ret Tryz.prog 63 #[.int .i64 n] w fun r w'=>r=.bool (validF n)∧w=w':=by
 refine c63 n w _ ?_
 unfold validF
 refine ifB.dec (fun h=>?_) (fun h=>?_)
 ·rw [decide_eq_true (p:=-1000000000000≤n) (by omega)];exact ⟨rfl,rfl⟩
 ·rw [decide_eq_false (p:=-1000000000000≤n) (by omega)];exact ⟨rfl,rfl⟩
theorem idx_contains:∀ (l:List UInt8) (c:UInt8),decide (0≤Lib.indexByte l c)=l.contains c
 | [],c=>by simp [Lib.indexByte]
 | b::l,c=>by
  have ih:=idx_contains l c
  have hg:=Lib.indexByte_ge l c
  unfold Lib.indexByte
  rw [List.contains_cons,← ih]
  by_cases h:b=c
  ·subst h;simp
  ·have h1:(b==c)=false:=by simpa using h
   have h2:(c==b)=false:=by simpa using fun t=>h t.symm
   rw [h1,h2,Bool.false_or]
   simp only [Bool.false_eq_true,if_false]
   by_cases hm:Lib.indexByte l c=-1
   ·rw [hm];simp
   ·rw [if_neg (by simpa using hm)]
    exact decide_eq_decide.2 (by omega)
theorem contains_one (l:List UInt8) (c:UInt8) (w:World):Ret Tryz.prog 122 #[.string (str l),.string (str [c])] w fun r w'=>r=.bool (l.contains c)∧w=w':=by
 refine (Tryz.strings_Contains_one (str l) c w).mono ?_
 rintro e w' ⟨rfl,rfl⟩
 refine ⟨_,rfl,?_,rfl⟩
 rw [z5z,idx_contains]
theorem has_spec (k:Int) (c:UInt8) (w:World):Ret Tryz.prog 93 #[.int .i64 k,.string (str [c])] w fun r w'=>r=.bool (hasF k c)∧w=w':=by
 refine c93 k _ w _ ?_
 refine CallK.of (efields_spec k w) ?_
 rintro _ _ ⟨rfl,rfl⟩
 refine ⟨_,rfl,?_⟩
 refine CallK.of (contains_one _ c w) ?_
 rintro _ _ ⟨rfl,rfl⟩
 exact ⟨_,rfl,rfl,rfl⟩
theorem nil_eq {t:TypeId} (ht:∃ ms,Tryz.prog.underlying t=some (.interface ms)) (o:Operand) {v:Value} (hv:ifcT v) (w:World) :
  (do eqGuard .eql t o (.const .nilIface) v .nilIface;binOp .eql t v .nilIface:Sem Value).run Tryz.prog w=.ok (.bool (nilT v)) w:=by
 obtain ⟨ms,ht⟩:=ht
 rcases hv with rfl | ⟨u,x,rfl⟩
 ·have h1:(eqGuard .eql t o (.const .nilIface) .nilIface .nilIface).run Tryz.prog w=.ok () w:=by
   unfold eqGuard
   simp
  rw [Sem.run_bind,h1,Result.andThen_ok]
  have h2:(Op.equalIn (9999+1) t .nilIface .nilIface).run Tryz.prog w=.ok true w:=by
   unfold Op.equalIn
   simp only [Sem.run_bind,under ht,Result.andThen_ok,Sem.run_pure]
  show (do pure (Value.bool (← Op.equalIn (9999+1) t .nilIface .nilIface)):Sem Value).run Tryz.prog w=_
  rw [Sem.run_bind,h2]
  rfl
 ·have h1:(eqGuard .eql t o (.const .nilIface) (.iface u x) .nilIface).run Tryz.prog w=.ok () w:=by
   unfold eqGuard
   rfl
  rw [Sem.run_bind,h1,Result.andThen_ok]
  have h2:(Op.equalIn (9999+1) t (.iface u x) .nilIface).run Tryz.prog w=.ok false w:=by
   unfold Op.equalIn
   simp only [Sem.run_bind,under ht,Result.andThen_ok,Sem.run_pure]
  show (do pure (Value.bool (← Op.equalIn (9999+1) t (.iface u x) .nilIface)):Sem Value).run Tryz.prog w=_
  rw [Sem.run_bind,h2]
  rfl
def textsOf (e:EvT):Array MapEntry:=#[⟨.string (str [73]),.string e.2.1,0⟩,⟨.string (str [78]),.string e.2.2.1,1⟩,⟨.string (str [76]),.string e.2.2.2.1,2⟩,⟨.string (str [67]),.string e.2.2.2.2.1,3⟩]
def evCells (e:EvT):Obj:=.cells #[.int .i64 e.1,.string e.2.1,.string e.2.2.1,.string e.2.2.2.1,.string e.2.2.2.2.1,.int .i64 e.2.2.2.2.2.1,.int .i64 e.2.2.2.2.2.2.1,e.2.2.2.2.2.2.2.1] 36 (0,0)
theorem str_ne {a b:List UInt8} (h:a≠b):str a≠str b:=fun t=>h (str_inj t)
theorem texts_ok {w:World} {b:Nat} {e:EvT} (hb:w.heap[b]? = some (evCells e)) {K:Option Addr→World→Prop}
  (h:∀ m r w1,w.heap.size≤m→w.heap.size≤r→r≠m→MIt w1 r m (textsOf e) 4 #[]→Fr none1 w w1→w1.heap[b]? = some (evCells e)→K (some ⟨r,0,none⟩) w1) :
  NewK (.map #[] 0) w (fun g3 w4=>LdK .str ((⟨b,0,none⟩:Addr).add 1) w4 (fun (x5:ByteArray)=>RunU Tryz.prog (Instr.mapUpdate 168 (.map (some g3)) (.string (⟨#[73]⟩:ByteArray)) (.string x5)) w4 (fun w6=>LdK .str ((⟨b,0,none⟩:Addr).add 2) w6 (fun (x7:ByteArray)=>RunU Tryz.prog (Instr.mapUpdate 168 (.map (some g3)) (.string (⟨#[78]⟩:ByteArray)) (.string x7)) w6 (fun w8=>LdK .str ((⟨b,0,none⟩:Addr).add 3) w8 (fun (x9:ByteArray)=>RunU Tryz.prog (Instr.mapUpdate 168 (.map (some g3)) (.string (⟨#[76]⟩:ByteArray)) (.string x9)) w8 (fun w10=>LdK .str ((⟨b,0,none⟩:Addr).add 4) w10 (fun (x11:ByteArray)=>RunU Tryz.prog (Instr.mapUpdate 168 (.map (some g3)) (.string (⟨#[67]⟩:ByteArray)) (.string x11)) w10 (fun w12=>RunK Tryz.prog (Instr.range 168 (.map (some g3))) w12 (.v (.one .ptr)) (fun (x13:Option Addr) w14=>K x13 w14)))))))))):=by
 have e73:(⟨#[73]⟩:ByteArray)=str [73]:=rfl
 have e78:(⟨#[78]⟩:ByteArray)=str [78]:=rfl
 have e76:(⟨#[76]⟩:ByteArray)=str [76]:=rfl
 have e67:(⟨#[67]⟩:ByteArray)=str [67]:=rfl
 rw [e73,e78,e76,e67]
 have tm:=Tryz.underlying168
 have ts:=Tryz.underlying9
 have hlb:=z3z hb
 refine NewK.of fun g w1 hg hm1 f1 hs1=>?_
 have b1:=f1.keep0 hb
 have hgb:b≠g:=by omega
 refine LdK.fld b1 rfl ?_
 refine insert_str hm1 _ _ tm ts (by simp) fun w2 hm2 f2 _=>?_
 have b2:=f2.keep1 b1 hgb
 refine LdK.fld b2 rfl ?_
 refine insert_str hm2 _ _ tm ts (by
  intro x hx;simp at hx;subst hx;exact ⟨_,rfl,str_ne (by decide)⟩) fun w3 hm3 f3 _=>?_
 have b3:=f3.keep1 b2 hgb
 refine LdK.fld b3 rfl ?_
 refine insert_str hm3 _ _ tm ts (by
  intro x hx;simp at hx;rcases hx with rfl | rfl<;>exact ⟨_,rfl,str_ne (by decide)⟩) fun w4 hm4 f4 _=>?_
 have b4:=f4.keep1 b3 hgb
 refine LdK.fld b4 rfl ?_
 refine insert_str hm4 _ _ tm ts (by
  intro x hx;simp at hx;rcases hx with rfl | rfl | rfl<;>exact ⟨_,rfl,str_ne (by decide)⟩) fun w5 hm5 f5 _=>?_
 have b5:=f5.keep1 b4 hgb
 have f15:Fr none1 w w5:=(((f1.fresh f2 (by omega)).fresh f3 (by omega)).fresh f4 (by omega)).fresh f5 (by omega)
 have hm5':w5.heap[g]? = some (.map (textsOf e) 4):=hm5
 refine mrange_ok tm hm5' (by
  intro x hx;simp [textsOf] at hx;rcases hx with rfl | rfl | rfl | rfl<;>simp) (by simp [textsOf]) fun r w6 hr hM f6=>?_
 have:=z3z hm5'
 have:=f15.size
 exact h g r w6 (by omega) (by omega) (by omega) hM (f15.then0 f6) (f6.keep0 b5)
theorem texts_all {e:EvT} {seen:Array Nat} {good:ByteArray→ByteArray→Bool} (hall:∀ x∈(textsOf e).toList,seen.contains x.born=true→∀ a b,x.key=.string a→x.val=.string b→good a b=true)
  (hs:∀ x∈(textsOf e).toList,seen.contains x.born=true):(good (str [73]) e.2.1&&good (str [78]) e.2.2.1&&good (str [76]) e.2.2.2.1&&good (str [67]) e.2.2.2.2.1)=true:=by
 have g:=fun x hx=>hall x hx (hs x hx)
 rw [g ⟨.string (str [73]),.string e.2.1,0⟩ (by simp [textsOf]) _ _ rfl rfl,g ⟨.string (str [78]),.string e.2.2.1,1⟩ (by simp [textsOf]) _ _ rfl rfl,
  g ⟨.string (str [76]),.string e.2.2.2.1,2⟩ (by simp [textsOf]) _ _ rfl rfl,g ⟨.string (str [67]),.string e.2.2.2.2.1,3⟩ (by simp [textsOf]) _ _ rfl rfl]
 rfl
theorem texts_bad {e:EvT} {good:ByteArray→ByteArray→Bool} {x:MapEntry} {a b:ByteArray} (hx:x∈(textsOf e).toList) (ha:x.key=.string a) (hb:x.val=.string b) (hg:good a b=false) :
  (good (str [73]) e.2.1&&good (str [78]) e.2.2.1&&good (str [76]) e.2.2.2.1&&good (str [67]) e.2.2.2.2.1)=false:=by
 simp [textsOf] at hx
 rcases hx with rfl | rfl | rfl | rfl<;>(injection ha with ha;injection hb with hb;subst ha;subst hb;rw [hg];simp)
theorem texts_key {e:EvT} {x:MapEntry} (hx:x∈(textsOf e).toList):∃ c b,x.key=.string (str [c])∧x.val=.string b:=by
 simp [textsOf] at hx
 rcases hx with rfl | rfl | rfl | rfl<;>exact ⟨_,_,rfl,rfl⟩
def letOf (a:ByteArray):UInt8:=a.data.toList.getD 0 0
theorem letOf_str (c:UInt8):letOf (str [c])=c:=by unfold letOf;rw [z5z];rfl
def Seen (e:EvT) (good:ByteArray→ByteArray→Bool) (seen:Array Nat):Prop:=∀ x∈(textsOf e).toList,seen.contains x.born=true→∀ a b,x.key=.string a→x.val=.string b→good a b=true
theorem textsOf_nodup (e:EvT):∀ x∈(textsOf e).toList,∀ y∈(textsOf e).toList,x.born=y.born→x=y:=by
 intro x hx y hy h
 simp [textsOf] at hx hy
 rcases hx with rfl | rfl | rfl | rfl<;>rcases hy with rfl | rfl | rfl | rfl<;>first | rfl | (simp at h)
theorem Seen.push {e:EvT} {good:ByteArray→ByteArray→Bool} {seen:Array Nat} (h:Seen e good seen) {x:MapEntry} (hx:x∈(textsOf e).toList) {a b:ByteArray} (ha:x.key=.string a) (hb:x.val=.string b) (hg:good a b=true):Seen e good (seen.push x.born):=by
 intro y hy hc a' b' ha' hb'
 rw [contains_push] at hc
 cases hs:seen.contains y.born with
 | true=>exact h y hy hs a' b' ha' hb'
 | false=>
  rw [hs,Bool.false_or] at hc
  have:=textsOf_nodup e y hy x hx (by simpa using hc)
  subst this
  rw [ha] at ha';rw [hb] at hb'
  injection ha' with ha';injection hb' with hb'
  subst ha';subst hb'
  exact hg
theorem Seen.none (e:EvT) (good:ByteArray→ByteArray→Bool):Seen e good #[]:=fun x hx h=>by simp at h
theorem named_spec (e:EvT) (w:World):Ret Tryz.prog 62 #[evA e] w fun r w'=>r=.bool (namedF e)∧Fr none1 w w':=by
 refine c62 e w _ ?_
 unfold C62
 refine NewK.of fun b w1 hb hb1 f1 _=>?_
 refine texts_ok (e:=e) hb1 fun m r w2 hm hr hrm hM f2 hb2=>?_
 obtain ⟨good,hgood⟩:∃ good:ByteArray→ByteArray→Bool,good=fun a s=>!hasF e.1 (letOf a)||nameB s:=⟨_,rfl⟩
 have hN:namedF e=(good (str [73]) e.2.1&&good (str [78]) e.2.2.1&&good (str [76]) e.2.2.2.1&&good (str [67]) e.2.2.2.2.1):=by
  rw [hgood];unfold namedF;simp only [letOf_str]
 refine LoopK.of (fun _ w'=>∃ seen,MIt w' r m (textsOf e) 4 seen∧Seen e good seen∧Fr (only r) w2 w'∧w'.heap[b]? = some (evCells e)) (fun _ w'=>leftN w' r m) ⟨#[],hM,Seen.none e good,Fr.refl _ _,hb2⟩ ?_
 rintro _ _ w3 ⟨seen,hM3,hS,f3,hb3⟩
 have fin:∀ w',Fr (only r) w2 w'→Fr none1 w w':=fun w' f=>(f1.then0 f2).fresh f (by have:=f1.size;omega)
 refine mnext_ok hM3 hrm (fun x hx hc w4 hM4 f4 hlt hen=>?_) (fun hall=>?_)
 ·refine hen ?_
  obtain ⟨c,s,hk,hv⟩:=texts_key hx
  dsimp only
  rw [hk,hv]
  have hb4:=f4.keep1 hb3 (by have:=z3z hb1;have:=f2.size;omega)
  refine LdK.fld hb4 rfl ?_
  refine CallK.of (has_spec e.1 c w4) ?_
  rintro _ _ ⟨rfl,rfl⟩
  refine ⟨_,rfl,?_⟩
  refine ifB.by (fun h=>?_) (fun h=>?_)
  ·refine CallK.of (by have:=name_spec s.data.toList w4;rw [str_of] at this;exact this) ?_
   rintro _ w5 ⟨rfl,f5⟩
   refine ⟨_,rfl,ifB.not (ifB.by (fun hn=>?_) (fun hn=>?_))⟩
   ·refine ⟨⟨_,hM4.keep0 f5,hS.push hx hk hv ?_,(f3.trans f4).then0 f5,f5.keep0 hb4⟩,?_⟩
    ·rw [hgood];dsimp only;unfold nameB;rw [hn];simp
    ·rw [(hM4.keep0 f5).left,← hM4.left];exact hlt
   ·refine ⟨?_,(fin _ (f3.trans f4)).trans f5⟩
    rw [hN,texts_bad hx hk hv]
    rw [hgood];dsimp only;rw [letOf_str,h];unfold nameB;rw [hn];rfl
  ·refine ⟨⟨_,hM4,hS.push hx hk hv ?_,f3.trans f4,hb4⟩,hlt⟩
   rw [hgood];dsimp only;rw [letOf_str,h];rfl
 ·refine ⟨?_,fin _ f3⟩
  rw [hN,texts_all hS hall]
theorem only_spec (e:EvT) (hT:ifcT e.2.2.2.2.2.2.2.1) (w:World):Ret Tryz.prog 61 #[evA e] w fun r w'=>r=.bool (onlyF e)∧Fr none1 w w':=by
 refine c61 e w _ ?_
 unfold C61
 refine NewK.of fun b w1 hb hb1 f1 _=>?_
 refine texts_ok (e:=e) hb1 fun m r w2 hm hr hrm hM f2 hb2=>?_
 obtain ⟨good,hgood⟩:∃ good:ByteArray→ByteArray→Bool,good=fun a s=>emptyB s||hasF e.1 (letOf a):=⟨_,rfl⟩
 have hN:onlyF e=((good (str [73]) e.2.1&&good (str [78]) e.2.2.1&&good (str [76]) e.2.2.2.1&&good (str [67]) e.2.2.2.2.1) &&
   ((e.2.2.2.2.2.1==0||hasF e.1 68)&&(e.2.2.2.2.2.2.1==0||hasF e.1 86)&&(nilT e.2.2.2.2.2.2.2.1||hasF e.1 84))):=by
  rw [hgood];unfold onlyF;simp only [letOf_str]
 refine LoopK.of (fun _ w'=>∃ seen,MIt w' r m (textsOf e) 4 seen∧Seen e good seen∧Fr (only r) w2 w'∧w'.heap[b]? = some (evCells e)) (fun _ w'=>leftN w' r m) ⟨#[],hM,Seen.none e good,Fr.refl _ _,hb2⟩ ?_
 rintro _ _ w3 ⟨seen,hM3,hS,f3,hb3⟩
 have fin:∀ w',Fr (only r) w2 w'→Fr none1 w w':=fun w' f=>(f1.then0 f2).fresh f (by have:=f1.size;omega)
 refine mnext_ok hM3 hrm (fun x hx hc w4 hM4 f4 hlt hen=>?_) (fun hall=>?_)
 ·refine hen ?_
  obtain ⟨c,s,hk,hv⟩:=texts_key hx
  dsimp only
  rw [hk,hv]
  have hb4:=f4.keep1 hb3 (by have:=z3z hb1;have:=f2.size;omega)
  refine ifB.by (fun hs=>?_) (fun hs=>?_)
  ·have hem:emptyB s=false:=by unfold emptyB;simpa using hs
   refine LdK.fld hb4 rfl ?_
   refine CallK.of (has_spec e.1 c w4) ?_
   rintro _ _ ⟨rfl,rfl⟩
   refine ⟨_,rfl,ifB.not (ifB.by (fun h=>?_) (fun h=>?_))⟩
   ·refine ⟨⟨_,hM4,hS.push hx hk hv ?_,f3.trans f4,hb4⟩,hlt⟩
    rw [hgood];dsimp only;rw [letOf_str,h];simp
   ·refine ⟨?_,fin _ (f3.trans f4)⟩
    rw [hN,texts_bad hx hk hv (by rw [hgood];dsimp only;rw [letOf_str,h,hem];rfl)]
    rfl
  ·have hem:emptyB s=true:=by unfold emptyB;simpa using hs
   refine ⟨⟨_,hM4,hS.push hx hk hv ?_,f3.trans f4,hb4⟩,hlt⟩
   rw [hgood];dsimp only;rw [hem];rfl
 ·have hg:=texts_all hS hall
  rw [hN,hg,Bool.true_and]
  have fr:=fin _ f3
  have hterm:∀ (d v:Bool),d=true→v=true→LdK .raw ((⟨b,0,none⟩:Addr).add 7) w3 (fun (x31:Value)=>RunK Tryz.prog (do eqGuard .eql 34 (.tmp 34) (.const .nilIface) x31 .nilIface;binOp .eql 34 x31 .nilIface) w3 (.v (.one .bool)) (fun (x32:Bool) w33=>ifB x32
    ((.bool true:Value)=.bool (d&&v&&(nilT e.2.2.2.2.2.2.2.1||hasF e.1 84))∧Fr none1 w w33)
    (LdK (.int .i64) ((⟨b,0,none⟩:Addr).add 0) w33 (fun (x34:Int)=>CallK Tryz.prog 93 #[.int .i64 x34,.string (⟨#[84]⟩:ByteArray)] w33 (.v (.one .bool)) (fun (x35:Bool) w36=>(.bool x35:Value)=.bool (d&&v&&(nilT e.2.2.2.2.2.2.2.1||hasF e.1 84))∧Fr none1 w w36))))):=by
   rintro d v rfl rfl
   refine LdK.fld hb3 (x:=e.2.2.2.2.2.2.2.1) rfl ?_
   refine ⟨nilT e.2.2.2.2.2.2.2.1,w3,nil_eq ⟨_,Tryz.underlying34⟩ _ hT w3,?_⟩
   refine ifB.by (fun h=>?_) (fun h=>?_)
   ·rw [h];exact ⟨rfl,fr⟩
   ·refine LdK.fld hb3 rfl ?_
    refine CallK.of (has_spec e.1 84 w3) ?_
    rintro _ _ ⟨rfl,rfl⟩
    rw [h]
    exact ⟨_,rfl,by simp,fr⟩
  have hval:∀ d:Bool,d=true→LdK (.int .i64) ((⟨b,0,none⟩:Addr).add 6) w3 (fun (x30:Int)=>ifB (x30==0)
    (LdK .raw ((⟨b,0,none⟩:Addr).add 7) w3 (fun (x31:Value)=>RunK Tryz.prog (do eqGuard .eql 34 (.tmp 34) (.const .nilIface) x31 .nilIface;binOp .eql 34 x31 .nilIface) w3 (.v (.one .bool)) (fun (x32:Bool) w33=>ifB x32
     ((.bool true:Value)=.bool (d&&(e.2.2.2.2.2.2.1==0||hasF e.1 86)&&(nilT e.2.2.2.2.2.2.2.1||hasF e.1 84))∧Fr none1 w w33)
     (LdK (.int .i64) ((⟨b,0,none⟩:Addr).add 0) w33 (fun (x34:Int)=>CallK Tryz.prog 93 #[.int .i64 x34,.string (⟨#[84]⟩:ByteArray)] w33 (.v (.one .bool)) (fun (x35:Bool) w36=>(.bool x35:Value)=.bool (d&&(e.2.2.2.2.2.2.1==0||hasF e.1 86)&&(nilT e.2.2.2.2.2.2.2.1||hasF e.1 84))∧Fr none1 w w36))))))
    (LdK (.int .i64) ((⟨b,0,none⟩:Addr).add 0) w3 (fun (x37:Int)=>CallK Tryz.prog 93 #[.int .i64 x37,.string (⟨#[86]⟩:ByteArray)] w3 (.v (.one .bool)) (fun (x38:Bool) w39=>ifB x38
     (LdK .raw ((⟨b,0,none⟩:Addr).add 7) w39 (fun (x40:Value)=>RunK Tryz.prog (do eqGuard .eql 34 (.tmp 34) (.const .nilIface) x40 .nilIface;binOp .eql 34 x40 .nilIface) w39 (.v (.one .bool)) (fun (x41:Bool) w42=>ifB x41
      ((.bool true:Value)=.bool (d&&(e.2.2.2.2.2.2.1==0||hasF e.1 86)&&(nilT e.2.2.2.2.2.2.2.1||hasF e.1 84))∧Fr none1 w w42)
      (LdK (.int .i64) ((⟨b,0,none⟩:Addr).add 0) w42 (fun (x43:Int)=>CallK Tryz.prog 93 #[.int .i64 x43,.string (⟨#[84]⟩:ByteArray)] w42 (.v (.one .bool)) (fun (x44:Bool) w45=>(.bool x44:Value)=.bool (d&&(e.2.2.2.2.2.2.1==0||hasF e.1 86)&&(nilT e.2.2.2.2.2.2.2.1||hasF e.1 84))∧Fr none1 w w45))))))
     ((.bool false:Value)=.bool (d&&(e.2.2.2.2.2.2.1==0||hasF e.1 86)&&(nilT e.2.2.2.2.2.2.2.1||hasF e.1 84))∧Fr none1 w w39))))):=by
   rintro d rfl
   refine LdK.fld hb3 rfl ?_
   refine ifB.by (fun h=>?_) (fun h=>?_)
   ·exact hterm true _ rfl (by rw [h];rfl)
   ·refine LdK.fld hb3 rfl ?_
    refine CallK.of (has_spec e.1 86 w3) ?_
    rintro _ _ ⟨rfl,rfl⟩
    refine ⟨_,rfl,ifB.by (fun h2=>?_) (fun h2=>?_)⟩
    ·exact hterm true _ rfl (by rw [h2];simp)
    ·refine ⟨?_,fr⟩
     rw [h,h2];rfl
  refine LdK.fld hb3 rfl ?_
  refine ifB.by (fun h=>?_) (fun h=>?_)
  ·exact hval _ (by rw [h];rfl)
  ·refine LdK.fld hb3 rfl ?_
   refine CallK.of (has_spec e.1 68 w3) ?_
   rintro _ _ ⟨rfl,rfl⟩
   refine ⟨_,rfl,ifB.by (fun h2=>?_) (fun h2=>?_)⟩
   ·exact hval _ (by rw [h2];simp)
   ·refine ⟨?_,fr⟩
    rw [h,h2];rfl
theorem check_spec (e:EvT) (hT:ifcT e.2.2.2.2.2.2.2.1) (tr:Int) (w:World)
  (ht:e.1=2→∀ w1,Fr none1 w w1→Ret Tryz.prog 64 #[e.2.2.2.2.2.2.2.1] w1 fun r w'=>(∃ s,r=.tuple #[.string s,.int .i64 tr])∧Fr none1 w1 w') :
  Ret Tryz.prog 33 #[evA e] w fun r w'=>r=.int .i64 (checkF e tr)∧Fr none1 w w':=by
 refine c33 e w _ ?_
 unfold C33
 refine NewK.of fun b w1 hb hb1 f1 _=>?_
 refine LdK.fld hb1 rfl ?_
 refine CallK.of (efields_spec e.1 w1) ?_
 rintro _ _ ⟨rfl,rfl⟩
 refine ⟨_,rfl,?_⟩
 unfold checkF
 have e63:(⟨#[63]⟩:ByteArray)=str [63]:=rfl
 have q63:((str (fieldsF e.1)).toList==(⟨#[63]⟩:ByteArray).toList)=decide (fieldsF e.1=[63]):=by rw [e63,str_beq]
 rw [q63]
 refine ifB.dec (fun h=>?_) (fun h=>?_)
 ·rw [if_pos h];exact ⟨rfl,f1⟩
 rw [if_neg h]
 refine LdsK.blk (x:=e) hb1 ?_
 refine CallK.of (only_spec e hT w1) ?_
 rintro _ w2 ⟨rfl,f2⟩
 refine ⟨_,rfl,ifB.not (ifB.by (fun ho=>?_) (fun ho=>?_))⟩
 case refine_2=>rw [if_pos ho];exact ⟨rfl,f1.trans f2⟩
 rw [if_neg (by simp [ho])]
 have hb2:=f2.keep0 hb1
 refine LdsK.blk (x:=e) hb2 ?_
 refine CallK.of (named_spec e w2) ?_
 rintro _ w3 ⟨rfl,f3⟩
 have f13:=(f1.trans f2).trans f3
 refine ⟨_,rfl,ifB.not (ifB.by (fun hn=>?_) (fun hn=>?_))⟩
 case refine_2=>rw [if_pos hn];exact ⟨rfl,f13⟩
 rw [if_neg (by simp [hn])]
 have hb3:=f3.keep0 hb2
 refine LdK.fld hb3 (x:=e.2.2.2.2.2.1) rfl ?_
 refine ifB.dec (fun h=>?_) (fun h=>?_)
 ·rw [if_pos h];exact ⟨rfl,f13⟩
 rw [if_neg h]
 refine LdK.fld hb3 (x:=e.2.2.2.2.2.1) rfl ?_
 refine ifB.dec (fun h=>?_) (fun h=>?_)
 ·rw [if_pos h];exact ⟨rfl,f13⟩
 rw [if_neg h]
 refine LdK.fld hb3 (x:=e.2.2.2.2.2.2.1) rfl ?_
 refine CallK.of (valid_spec e.2.2.2.2.2.2.1 w3) ?_
 rintro _ _ ⟨rfl,rfl⟩
 refine ⟨_,rfl,ifB.not (ifB.by (fun hv=>?_) (fun hv=>?_))⟩
 case refine_2=>rw [if_pos hv];exact ⟨rfl,f13⟩
 rw [if_neg (by simp [hv])]
 refine JoinK.of (fun s w'=>s.1=decide (e.1=4∧e.2.2.2.2.2.2.1≠0∧e.2.2.2.2.2.2.1≠1)∧w3=w') ?_ ?_
 ·refine LdK.fld hb3 (x:=e.1) rfl ?_
  refine ifB.eq (fun h4=>?_) (fun h4=>?_)
  ·refine LdK.fld hb3 (x:=e.2.2.2.2.2.2.1) rfl ?_
   refine ifB.ne (fun h0=>?_) (fun h0=>?_)
   ·refine LdK.fld hb3 (x:=e.2.2.2.2.2.2.1) rfl ⟨?_,rfl⟩
    dsimp only
    by_cases h1:e.2.2.2.2.2.2.1=1
    ·rw [decide_eq_false (fun t=>t.2.2 h1),h1];rfl
    ·rw [decide_eq_true ⟨h4,h0,h1⟩];simpa using h1
   ·exact ⟨by dsimp only;rw [decide_eq_false (fun t=>t.2.1 h0)],rfl⟩
  ·exact ⟨by dsimp only;rw [decide_eq_false (fun t=>h4 t.1)],rfl⟩
 ·rintro _ ⟨s,_⟩ _ ⟨hs,rfl⟩
  dsimp only at hs ⊢
  rw [hs]
  refine ifB.dec (fun h=>?_) (fun h=>?_)
  ·rw [if_pos h];exact ⟨rfl,f13⟩
  rw [if_neg h]
  refine LdK.fld hb3 (x:=e.1) rfl ?_
  refine ifB.eq (fun h2=>?_) (fun h2=>?_)
  ·rw [if_pos h2]
   refine LdK.fld hb3 (x:=e.2.2.2.2.2.2.2.1) rfl ?_
   refine CallK.of (ht h2 w3 f13) ?_
   rintro _ w4 ⟨⟨s',rfl⟩,f4⟩
   exact ⟨(s',tr,()),rfl,rfl,f13.trans f4⟩
  ·rw [if_neg h2];exact ⟨rfl,f13⟩
theorem nameF_all:∀ (rs:List Int) (n:Nat),(∀ r∈rs,isLet r=true)→(n=0→isDig (rs.headD 0)=false)→n≤12→0<n+rs.length→nameF n rs=decide (n+rs.length≤12)
 | [],n,_,_,h12,hp=>by
  simp only [List.length_nil,Nat.add_zero] at hp ⊢
  rw [decide_eq_true (by omega)]
  exact decide_eq_true hp
 | r::rs,n,hl,hd,h12,hp=>by
  have h1:=hl r (by simp)
  unfold nameF
  rw [if_neg (by simp [h1]),if_neg (fun t=>by have:=hd t.1;simp at this;rw [this] at t;cases t.2)]
  by_cases h:12<n+1
  ·rw [if_pos h,decide_eq_false (by simp only [List.length_cons];omega)]
  ·rw [if_neg h,nameF_all rs (n+1) (fun x hx=>hl x (by simp [hx])) (fun t=>by omega) (by omega) (by omega)]
   exact decide_eq_decide.2 (by simp only [List.length_cons];omega)
theorem nameF_bad:∀ (rs:List Int) (n:Nat),(∃ r∈rs,isLet r=false)→nameF n rs=false
 | [],n,h=>by simp at h
 | r::rs,n,⟨x,hx,hb⟩=>by
  unfold nameF
  split
  ·rfl
  split
  ·rfl
  split
  ·rfl
  rename_i h1 _ _
  rcases List.mem_cons.1 hx with rfl | hx
  ·exact absurd hb h1
  ·exact nameF_bad rs (n+1) ⟨x,hx,hb⟩
theorem elem_rune:ElemOk Tryz.prog 165 21 1 (.int .i32 0) 4:=⟨Tryz.underlying165,⟨Tryz.t21,by kernel_rfl,rfl,rfl,rfl⟩,rfl,by decide⟩
def IsR (w:World) (v:Sl) (rs:List Int):Prop:=IsSl w 21 1 v (rs.map (Value.int .i32))
theorem r_snoc {w:World} {v:Sl} {rs:List Int} (h:IsR w v rs) (c:Int) (hl:rs.length≤1000000) {K:Sl→World→Prop}
  (hK:∀ y w',IsR w' y (rs++[c])→Fr (blkOf v) w w'→(∀ k,blkOf y k→blkOf v k∨w.heap.size≤k)→K y w') :
  RunK Tryz.prog (Instr.buildSlice 165 1 #[(0,.int .i32 c)]) w (.v (.one .slc)) fun (y:Option Addr×Nat×Nat) w'=>
   RunK Tryz.prog (Builtin.append_ #[165,165] 165 #[.slice v.1 v.2.1 v.2.2,.slice y.1 y.2.1 y.2.2]) w' (.v (.one .slc)) fun (u:Option Addr×Nat×Nat) w''=>K u w'':=by
 have hvl:=IsSl.len h
 rw [List.length_map,Nat.mul_one] at hvl
 refine append_one elem_rune 165 h (.int .i32 c) rfl rfl (by omega) fun y w' hy _ f yf=>hK y w' ?_ f yf
 unfold IsR
 rw [List.map_append]
 exact hy
theorem IsR.ld {w:World} {v:Sl} {rs:List Int} (h:IsR w v rs) {i:Int} (h0:0≤i) (h1:i<v.2.1) {K:Int→Prop} (k:K (rs.getD i.toNat 0)):IdxK v.1 v.2.1 i 1 fun p=>LdK (.int .i32) p w K:=by
 have hl:=IsSl.len h
 rw [List.length_map,Nat.mul_one] at hl
 refine IsSl.ld h h0 h1 (x:=rs.getD i.toNat 0) ?_ k
 rw [List.getElem?_map,List.getD_eq_getElem?_getD,List.getElem?_eq_getElem (by omega)]
 rfl
theorem IsR.len {w:World} {v:Sl} {rs:List Int} (h:IsR w v rs):v.2.1=rs.length:=by
 have hl:=IsSl.len h
 rw [List.length_map,Nat.mul_one] at hl
 exact hl.symm
def C59 (p0:YZ14) (w:World) (K:Value→World→Prop):Prop:=
 NewK (.cells ((LZ14 p0).toArray) 36) w (fun g1 w2=>LdsK KZ14 (ad g1) w2 (fun (x3:YZ14)=>CallK Tryz.prog 33 #[.agg (LZ14 x3).toArray] w2 (.v (.one (.int .i64))) (fun (x4:Int) w5=>ifB (x4 != 0)
 (K (.tuple #[.slice none 0 0,.int .i64 x4]) w5)
 (LdK (.int .i64) ((ad g1).add 0) w5 (fun (x6:Int)=>RunK Tryz.prog (Instr.buildSlice 22 1 #[(0,.int .u8 (IntKind.u8.wrap x6))]) w5 (.v (.one .slc)) (fun (x7:SlT) w8=>LdK (.int .i64) ((ad g1).add 0) w8 (fun (x9:Int)=>CallK Tryz.prog 91 #[.int .i64 x9] w8 (.v (.one .slc)) (fun (x10:SlT) w11=>LoopK (SlT×Int×Unit) (fun _ s12 w13 next14=>ifB (decide (s12.2.1<(x10.2.1:Int)))
 (IdxK x10.1 x10.2.1 s12.2.1 1 (fun a15=>LdK (.int .i32) a15 w13 (fun (x16:Int)=>LdsK KZ14 (ad g1) w13 (fun (x17:YZ14)=>CallK Tryz.prog 92 #[.agg (LZ14 x17).toArray,.int .i32 x16] w13 (.tup [.one .slc,.one (.int .i64)]) (fun (x18:SlT×Int×Unit) w19=>ifB (x18.2.1 != 0)
 (K (.tuple #[.slice none 0 0,.int .i64 x18.2.1]) w19)
 (RunK Tryz.prog (Builtin.append_ #[22,22] 22 #[.slice s12.1.1 s12.1.2.1 s12.1.2.2,.slice x18.1.1 x18.1.2.1 x18.1.2.2]) w19 (.v (.one .slc)) (fun (x20:SlT) w21=>next14 ((x20.1,x20.2.1,x20.2.2),IntKind.i64.wrap (s12.2.1+1),()) w21)))))))
 (K (.tuple #[.slice s12.1.1 s12.1.2.1 s12.1.2.2,.int .i64 0]) w13))
 ((x7.1,x7.2.1,x7.2.2),0,()) w11))))))))
def pl59:Plan:=(.seq .auto (.seq .auto (.seq .auto (.seq (.seq .auto (.block (.loop [(5,.one .slc),(23,.one (.int .i64))] .auto))) .auto))))
theorem c59 (p0:YZ14) (w:World) (K:Value→World→Prop) (h:C59 p0 w K):Ret Tryz.prog 59 #[.agg (LZ14 p0).toArray] w K:=z0z (by kernel_rfl) Tryz.func59 (p:=pl59) (Eq.mpr (by kernel_rfl) h)
def C91 (p0:Int) (w:World) (K:Value→World→Prop):Prop:=
 RunK Tryz.prog (Instr.range 9 (.string (⟨#[73,78,76,67,68,86,84]⟩:ByteArray))) w (.v (.one .ptr)) (fun (x1:Option Addr) w2=>LoopK (SlT×Unit) (fun _ s3 w4 next5=>NextK x1 w4 (fun x6 x7 w8=>CallK Tryz.prog 60 #[.int .i64 p0] w8 (.v (.one .str)) (fun (x9:ByteArray) w10=>RunK Tryz.prog (Instr.range 9 (.string x9)) w10 (.v (.one .ptr)) (fun (x11:Option Addr) w12=>LoopK (SlT×Unit) (fun _ s13 w14 next15=>NextK x11 w14 (fun x16 x17 w18=>ifB (x17==x7)
 (RunK Tryz.prog (Instr.buildSlice 165 1 #[(0,.int .i32 x7)]) w18 (.v (.one .slc)) (fun (x19:SlT) w20=>RunK Tryz.prog (Builtin.append_ #[165,165] 165 #[.slice s13.1.1 s13.1.2.1 s13.1.2.2,.slice x19.1 x19.2.1 x19.2.2]) w20 (.v (.one .slc)) (fun (x21:SlT) w22=>next15 ((x21.1,x21.2.1,x21.2.2),()) w22)))
 (next15 ((s13.1.1,s13.1.2.1,s13.1.2.2),()) w18))
 (next5 ((s13.1.1,s13.1.2.1,s13.1.2.2),()) w14))
 ((s3.1.1,s3.1.2.1,s3.1.2.2),()) w12)))
 (K (.slice s3.1.1 s3.1.2.1 s3.1.2.2) w4))
 ((none,0,0),()) w2)
def pl91:Plan:=(.seq .auto (.seq .auto (.seq (.seq .auto (.block (.loop [(3,.one .slc)] (.seq .auto (.seq .auto (.block (.seq .auto (.seq .auto (.block (.loop [(3,.one .slc)] .auto)))))))))) .auto)))
theorem c91 (p0:Int) (w:World) (K:Value→World→Prop) (h:C91 p0 w K):Ret Tryz.prog 91 #[.int .i64 p0] w K:=z0z (by kernel_rfl) Tryz.func91 (p:=pl91) (Eq.mpr (by kernel_rfl) h)
def C92 (p0:YZ14) (p1:Int) (w:World) (K:Value→World→Prop):Prop:=
 NewK (.cells ((LZ14 p0).toArray) 36) w (fun g1 w2=>ifB (p1==68)
 (LdK (.int .i64) ((ad g1).add 5) w2 (fun (x3:Int)=>CallK Tryz.prog 57 #[.int .i64 x3] w2 (.v (.one .slc)) (fun (x4:SlT) w5=>K (.tuple #[.slice x4.1 x4.2.1 x4.2.2,.int .i64 0]) w5)))
 (ifB (p1==86)
 (LdK (.int .i64) ((ad g1).add 6) w2 (fun (x6:Int)=>CallK Tryz.prog 57 #[.int .i64 x6] w2 (.v (.one .slc)) (fun (x7:SlT) w8=>K (.tuple #[.slice x7.1 x7.2.1 x7.2.2,.int .i64 0]) w8)))
 (ifB (p1==84)
 (LdK .raw ((ad g1).add 7) w2 (fun (x9:Value)=>CallK Tryz.prog 64 #[x9] w2 (.tup [.one .str,.one (.int .i64)]) (fun (x10:ByteArray×Int×Unit) w11=>NnK 8 (RunK Tryz.prog (Instr.buildSlice 22 2 #[(0,.int .u8 (IntKind.u8.wrap (Int.fdiv (x10.1.size:Int) (2 ^ (min (Int.toNat 8) 64))))),(1,.int .u8 (IntKind.u8.wrap (x10.1.size:Int)))]) w11 (.v (.one .slc)) (fun (x12:SlT) w13=>RunK Tryz.prog (Builtin.append_ #[22,9] 22 #[.slice x12.1 x12.2.1 x12.2.2,.string x10.1]) w13 (.v (.one .slc)) (fun (x14:SlT) w15=>K (.tuple #[.slice x14.1 x14.2.1 x14.2.2,.int .i64 x10.2.1]) w15))))))
 (ifB (p1==73)
 (LdK .str ((ad g1).add 1) w2 (fun (x16:ByteArray)=>RunK Tryz.prog (Instr.buildSlice 22 1 #[(0,.int .u8 (IntKind.u8.wrap (x16.size:Int)))]) w2 (.v (.one .slc)) (fun (x17:SlT) w18=>RunK Tryz.prog (Builtin.append_ #[22,9] 22 #[.slice x17.1 x17.2.1 x17.2.2,.string x16]) w18 (.v (.one .slc)) (fun (x19:SlT) w20=>K (.tuple #[.slice x19.1 x19.2.1 x19.2.2,.int .i64 0]) w20))))
 (ifB (p1==78)
 (LdK .str ((ad g1).add 2) w2 (fun (x21:ByteArray)=>RunK Tryz.prog (Instr.buildSlice 22 1 #[(0,.int .u8 (IntKind.u8.wrap (x21.size:Int)))]) w2 (.v (.one .slc)) (fun (x22:SlT) w23=>RunK Tryz.prog (Builtin.append_ #[22,9] 22 #[.slice x22.1 x22.2.1 x22.2.2,.string x21]) w23 (.v (.one .slc)) (fun (x24:SlT) w25=>K (.tuple #[.slice x24.1 x24.2.1 x24.2.2,.int .i64 0]) w25))))
 (ifB (p1==76)
 (LdK .str ((ad g1).add 3) w2 (fun (x26:ByteArray)=>RunK Tryz.prog (Instr.buildSlice 22 1 #[(0,.int .u8 (IntKind.u8.wrap (x26.size:Int)))]) w2 (.v (.one .slc)) (fun (x27:SlT) w28=>RunK Tryz.prog (Builtin.append_ #[22,9] 22 #[.slice x27.1 x27.2.1 x27.2.2,.string x26]) w28 (.v (.one .slc)) (fun (x29:SlT) w30=>K (.tuple #[.slice x29.1 x29.2.1 x29.2.2,.int .i64 0]) w30))))
 (ifB (p1==67)
 (LdK .str ((ad g1).add 4) w2 (fun (x31:ByteArray)=>RunK Tryz.prog (Instr.buildSlice 22 1 #[(0,.int .u8 (IntKind.u8.wrap (x31.size:Int)))]) w2 (.v (.one .slc)) (fun (x32:SlT) w33=>RunK Tryz.prog (Builtin.append_ #[22,9] 22 #[.slice x32.1 x32.2.1 x32.2.2,.string x31]) w33 (.v (.one .slc)) (fun (x34:SlT) w35=>K (.tuple #[.slice x34.1 x34.2.1 x34.2.2,.int .i64 0]) w35))))
 (RunK Tryz.prog (Instr.buildSlice 22 1 #[(0,.int .u8 (IntKind.u8.wrap ((⟨#[]⟩:ByteArray).size:Int)))]) w2 (.v (.one .slc)) (fun (x36:SlT) w37=>RunK Tryz.prog (Builtin.append_ #[22,9] 22 #[.slice x36.1 x36.2.1 x36.2.2,.string (⟨#[]⟩:ByteArray)]) w37 (.v (.one .slc)) (fun (x38:SlT) w39=>K (.tuple #[.slice x38.1 x38.2.1 x38.2.2,.int .i64 0]) w39))))))))))
def pl92:Plan:=.auto
theorem c92 (p0:YZ14) (p1:Int) (w:World) (K:Value→World→Prop) (h:C92 p0 p1 w K):Ret Tryz.prog 92 #[.agg (LZ14 p0).toArray,.int .i32 p1] w K:=z0z (by kernel_rfl) Tryz.func92 (p:=pl92) (Eq.mpr (by kernel_rfl) h)
def u8I (b:UInt8):Int:=(b.toNat:Int)
def ordL:List UInt8:=[73,78,76,67,68,86,84]
def fieldL (k:Int):List UInt8:=ordL.filter (hasF k)
def txtB (s:List UInt8):List UInt8:=UInt8.ofNat (s.length % 256)::s
def fieldT (e:EvT) (c:UInt8):ByteArray:=if c=73 then e.2.1 else if c=78 then e.2.2.1 else if c=76 then e.2.2.2.1 else if c=67 then e.2.2.2.2.1 else (⟨#[]⟩:ByteArray)
def fieldB (e:EvT) (ts:List UInt8) (c:UInt8):List UInt8:=
 if c=68 then numL e.2.2.2.2.2.1 else if c=86 then numL e.2.2.2.2.2.2.1 else if c=84 then UInt8.ofNat (ts.length / 256 % 256)::UInt8.ofNat (ts.length % 256)::ts else txtB (fieldT e c).data.toList
def packF (e:EvT) (ts:List UInt8) (tr:Int):List UInt8×Int:=
 if checkF e tr≠0 then ([],checkF e tr) else (UInt8.ofNat (e.1 % 256).toNat::(fieldL e.1).flatMap (fieldB e ts),0)
def smallE (e:EvT):Prop:=e.2.1.size≤1000000∧e.2.2.1.size≤1000000∧e.2.2.2.1.size≤1000000∧e.2.2.2.2.1.size≤1000000
theorem runes_ord:runesL ordL=ordL.map u8I:=by decide +kernel
theorem runes_fields (k:Int):runesL (fieldsF k)=(fieldsF k).map u8I:=by
 unfold fieldsF
 repeat' split
 all_goals decide +kernel
theorem fields_once (k : Int) (c : UInt8) : ((fieldsF k).map u8I).filter (· == u8I c) = if hasF k c then [u8I c] else [] := by
  have h : ∀ l : List UInt8, l.Nodup → (l.map u8I).filter (· == u8I c) = if l.contains c then [u8I c] else [] := by
    intro l hn
    induction l with
    | nil => rfl
    | cons a l ih =>
      rw [List.nodup_cons] at hn
      have ih := ih hn.2
      rw [List.map_cons, List.filter_cons]
      by_cases ha : a = c
      · subst ha
        have : l.contains a = false := by simpa using hn.1
        rw [ih, this]
        simp
      · have h1 : (u8I a == u8I c) = false := by
          simp only [beq_eq_false_iff_ne]
          unfold u8I
          intro t
          exact ha (UInt8.toNat_inj.1 (by omega))
        rw [h1, ih]
        have h2 : (c == a) = false := by simpa using fun t => ha t.symm
        simp only [List.contains_cons, h2, Bool.false_or]
        rfl
  exact h _ (by unfold fieldsF; repeat' split
                all_goals decide)
theorem fields_spec (k:Int) (w:World):Ret Tryz.prog 91 #[.int .i64 k] w fun r w'=>∃ v:Sl,r=.slice v.1 v.2.1 v.2.2∧IsR w' v ((fieldL k).map u8I)∧Fr none1 w w'∧∀ k,blkOf v k→w.heap.size≤k:=by
 refine c91 k w _ ?_
 unfold C91
 have eo:(⟨#[73,78,76,67,68,86,84]⟩:ByteArray)=str ordL:=rfl
 rw [eo]
 refine range_okS ordL fun r w1 hr hit f1=>?_
 rw [runes_ord] at hit
 have s1:=f1.size
 refine LoopK.of (fun s w'=>∃ acc rest:List UInt8,acc++rest.filter (hasF k)=fieldL k∧rest.length≤7∧acc.length+rest.length≤7∧IsR w' s.1 (acc.map u8I)∧(∀ k,blkOf s.1 k→w.heap.size≤k∧k≠r)∧IsIt w' r (rest.map u8I)∧Fr none1 w w')
  (fun _ w'=>itLen w' r) ⟨[],ordL,rfl,by decide,by decide,.inl ⟨rfl,rfl⟩,(fun k ⟨a,ha,_⟩=>by cases ha),hit,f1⟩ ?_
 rintro _ ⟨v,_⟩ w2 ⟨acc,rest,heq,hr7,hl7,hv,hvf,hit2,f2⟩
 dsimp only at hv hvf ⊢
 have rlt:=hit2.lt
 refine next_ok hit2 (fun c rest' pos w3 hc hok hit3 f3=>?_) (fun hnil=>?_)
 ·cases rest with
  | nil=>cases hc
  | cons d rest=>
   rw [List.map_cons] at hc
   injection hc with hc hc'
   subst hc hc'
   have fw3:Fr none1 w w3:=f2.fresh f3 (by omega)
   have hv3:IsR w3 v (acc.map u8I):=IsSl.keep hv f3 (fun k hk t=>(hvf k hk).2 t)
   refine CallK.of (efields_spec k w3) ?_
   rintro _ _ ⟨rfl,rfl⟩
   refine ⟨_,rfl,?_⟩
   refine range_okS (fieldsF k) fun q w4 hq hit4 f4=>?_
   rw [runes_fields] at hit4
   have r3:=hit3.lt
   have fw4:Fr none1 w w4:=fw3.trans f4
   have sw3:=fw3.size
   simp only [List.length_cons] at hr7 hl7
   rw [List.filter_cons] at heq
   refine LoopK.of (fun s w'=>∃ acc2 rest2:List UInt8,acc2.map u8I++(rest2.map u8I).filter (·==u8I d)=acc.map u8I++(if hasF k d then [u8I d] else [])∧IsR w' s.1 (acc2.map u8I)∧(∀ k,blkOf s.1 k→w.heap.size≤k∧k≠r∧k≠q)∧IsIt w' q (rest2.map u8I) ∧
     IsIt w' r (rest.map u8I)∧Fr none1 w w') (fun _ w'=>itLen w' q)
    ⟨acc,fieldsF k,by rw [fields_once],IsSl.keep0 hv3 f4,(fun k hk=>⟨(hvf k hk).1,(hvf k hk).2,by have:=IsSl.lt hv3 hk;omega⟩),hit4,hit3.keep0 f4,fw4⟩ ?_
   rintro _ ⟨v2,_⟩ w5 ⟨acc2,rest2,heq2,hv5,hvf5,hit5,hitr5,f5⟩
   dsimp only at hv5 hvf5 ⊢
   have qlt:=hit5.lt
   refine next_ok hit5 (fun x rest3 pos2 w6 hx hok2 hit6 f6=>?_) (fun hnil2=>?_)
   ·cases rest2 with
    | nil=>cases hx
    | cons y rest2=>
     rw [List.map_cons] at hx
     injection hx with hx hx'
     subst hx hx'
     have fw6:Fr none1 w w6:=f5.fresh f6 (by omega)
     have hv6:IsR w6 v2 (acc2.map u8I):=IsSl.keep hv5 f6 (fun k hk t=>(hvf5 k hk).2.2 t)
     have hr6:=hitr5.keep f6 (fun t=>by have:r=q:=t;omega)
     have l6:itLen w6 q<itLen w5 q:=by rw [hit6.left,hit5.left];simp
     rw [List.map_cons,List.filter_cons] at heq2
     have hlen2:acc2.length≤acc.length+1:=by
      have:=congrArg List.length heq2
      rw [List.length_append,List.length_append,List.length_map,List.length_map] at this
      have h3:(if hasF k d then [u8I d] else []).length≤1:=by split<;>simp
      omega
     refine ifB.by (fun he=>?_) (fun hne=>?_)
     ·rw [he,if_pos rfl] at heq2
      have hyd:u8I y=u8I d:=by simpa using he
      refine r_snoc hv6 (u8I d) (by rw [List.length_map];omega) fun u w7 hu f7 uf=>?_
      have qlt6:=hit6.lt
      have rlt6:=hr6.lt
      refine ⟨⟨acc2++[d],rest2,?_,by rw [List.map_append];exact hu,fun k hk=>?_,hit6.keep f7 (fun t=>(hvf5 q t).2.2 rfl),hr6.keep f7 (fun t=>(hvf5 r t).2.1 rfl),fw6.comp f7 (fun k hk t=>by have:=(hvf5 k t).1;omega)⟩,?_⟩
      ·rw [← heq2,hyd];simp
      ·rcases uf k hk with t | t
       ·exact hvf5 k t
       ·have:=fw6.size;exact ⟨by omega,by omega,by omega⟩
      ·rw [(hit6.keep f7 (fun t=>(hvf5 q t).2.2 rfl)).left,← hit6.left];exact l6
     ·rw [if_neg (by rw [hne];simp)] at heq2
      exact ⟨⟨acc2,rest2,heq2,hv6,hvf5,hit6,hr6,fw6⟩,l6⟩
   ·have:rest2=[]:=by simpa using hnil2
    subst this
    rw [List.map_nil,List.filter_nil,List.append_nil] at heq2
    by_cases hh:hasF k d=true
    ·rw [hh] at heq heq2
     simp only [if_true] at heq heq2
     refine ⟨⟨acc++[d],rest,by rw [← heq];simp,by omega,by simp;omega,?_,fun k hk=>⟨(hvf5 k hk).1,(hvf5 k hk).2.1⟩,hitr5,f5⟩,by rw [hitr5.left,hit2.left];simp⟩
     rw [List.map_append]
     rw [heq2] at hv5
     exact hv5
    ·have hh':hasF k d=false:=by simpa using hh
     rw [hh'] at heq heq2
     simp only [Bool.false_eq_true,if_false,List.append_nil] at heq heq2
     refine ⟨⟨acc,rest,heq,by omega,by omega,?_,fun k hk=>⟨(hvf5 k hk).1,(hvf5 k hk).2.1⟩,hitr5,f5⟩,by rw [hitr5.left,hit2.left];simp⟩
     rw [heq2] at hv5
     exact hv5
 ·have:rest=[]:=by simpa using hnil
  subst this
  rw [List.filter_nil,List.append_nil] at heq
  exact ⟨v,rfl,by rw [← heq];exact hv,f2,fun k hk=>(hvf k hk).1⟩
theorem rowText_ok {w:World} (hd:List UInt8) (h0:hd.length≤100) (s:ByteArray) (hs:s.size≤1000000) {K:Sl→World→Prop} (k:∀ u w',IsB w' u (hd++s.data.toList)→Fr none1 w w'→(∀ k,blkOf u k→w.heap.size≤k)→K u w') :
  RunK Tryz.prog (Instr.buildSlice 22 hd.length (((hd.map bc).zipIdx.map fun (v,i)=>(i,v)).toArray)) w (.v (.one .slc)) (fun (x:Option Addr×Nat×Nat) w1=>RunK Tryz.prog (Builtin.append_ #[22,9] 22 #[.slice x.1 x.2.1 x.2.2,.string s]) w1 (.v (.one .slc)) (fun (y:Option Addr×Nat×Nat) w2=>K y w2)):=by
 obtain ⟨x,w1,hr,hx,hxl,f1,hf⟩:=lit_ok (P:=Tryz.prog) (w:=w) z7z (hd.map bc) (by intro v hv;obtain ⟨x,_,rfl⟩:=List.mem_map.1 hv;rfl) (by simp;omega)
 rw [List.length_map] at hr hxl
 refine ⟨x,w1,hr,?_⟩
 obtain ⟨u,w2,hr2,hu,_,f2,uf⟩:=append_text z7z 22 Tryz.underlying9 hx s (by rw [hxl];omega)
 refine ⟨u,w2,hr2,k u w2 ?_ (f1.comp f2 fun k hk t=>by have:=hf k t;omega) fun k hk=>?_⟩
 ·unfold IsB
  rw [List.map_append]
  exact hu
 ·rcases uf k hk with t | t
  ·exact hf k t
  ·exact Nat.le_trans f1.size t
theorem wrapB_bc (n:Nat):Value.int .u8 (IntKind.u8.wrap (n:Int))=bc (UInt8.ofNat (n % 256)):=by
 unfold bc
 rw [wrapB,u8_nat (Nat.mod_lt _ (by decide))]
theorem field_spec (e:EvT) (hz:smallE e) (c:UInt8) (ts:List UInt8) (hts:ts.length≤1000000) (tr:Int) (w:World)
  (ht:c=84→∀ w1,Fr none1 w w1→Ret Tryz.prog 64 #[e.2.2.2.2.2.2.2.1] w1 fun r w'=>r=.tuple #[.string (str ts),.int .i64 tr]∧Fr none1 w1 w') :
  Ret Tryz.prog 92 #[evA e,.int .i32 (u8I c)] w fun r w'=>∃ v:Sl,r=.tuple #[.slice v.1 v.2.1 v.2.2,.int .i64 (if c=84 then tr else 0)]∧IsB w' v (fieldB e ts c)∧Fr none1 w w'∧∀ k,blkOf v k→w.heap.size≤k:=by
 refine c92 e (u8I c) w _ ?_
 unfold C92
 refine NewK.of fun b w1 hb hb1 f1 hsz1=>?_
 have s1:=f1.size
 have hne:∀ {d:UInt8},c≠d→(u8I c==u8I d)=false:=fun {d} h=>by
  simp only [beq_eq_false_iff_ne];unfold u8I;intro t;exact h (UInt8.toNat_inj.1 (by omega))
 have num:∀ (n:Int),(fieldB e ts c=numL n)→c≠84→CallK Tryz.prog 57 #[.int .i64 n] w1 (.v (.one .slc)) (fun (x4:Option Addr×Nat×Nat) w5=>
   ∃ v:Sl,(.tuple #[.slice x4.1 x4.2.1 x4.2.2,.int .i64 0]:Value)=.tuple #[.slice v.1 v.2.1 v.2.2,.int .i64 (if c=84 then tr else 0)]∧IsB w5 v (fieldB e ts c)∧Fr none1 w w5∧∀ k,blkOf v k→w.heap.size≤k):=fun n hn hc=>by
  refine CallK.of (pnum_spec n w1) ?_
  rintro _ w2 ⟨u,rfl,hu,f2,uf⟩
  exact ⟨u,rfl,u,by rw [if_neg hc],by rw [hn];exact hu,f1.trans f2,fun k hk=>Nat.le_trans s1 (uf k hk)⟩
 have txt:∀ (s:ByteArray),s.size≤1000000→fieldB e ts c=txtB s.data.toList→c≠84→RunK Tryz.prog (Instr.buildSlice 22 1 #[(0,.int .u8 (IntKind.u8.wrap (s.size:Int)))]) w1 (.v (.one .slc)) (fun (x17:Option Addr×Nat×Nat) w18=>RunK Tryz.prog (Builtin.append_ #[22,9] 22 #[.slice x17.1 x17.2.1 x17.2.2,.string s]) w18 (.v (.one .slc)) (fun (x19:Option Addr×Nat×Nat) w20=>
   ∃ v:Sl,(.tuple #[.slice x19.1 x19.2.1 x19.2.2,.int .i64 0]:Value)=.tuple #[.slice v.1 v.2.1 v.2.2,.int .i64 (if c=84 then tr else 0)]∧IsB w20 v (fieldB e ts c)∧Fr none1 w w20∧∀ k,blkOf v k→w.heap.size≤k)):=fun s hs hf hc=>by
  rw [wrapB_bc]
  refine rowText_ok (w:=w1) [UInt8.ofNat (s.size % 256)] (by simp) s hs fun u w2 hu f2 uf=>?_
  refine ⟨u,by rw [if_neg hc],?_,f1.trans f2,fun k hk=>Nat.le_trans s1 (uf k hk)⟩
  rw [hf]
  unfold txtB
  rw [ba_len]
  exact hu
 by_cases h68:c=68
 ·refine ifB.t (by rw [h68];rfl) ?_
  exact LdK.fld hb1 (x:=e.2.2.2.2.2.1) rfl (num _ (by unfold fieldB;rw [if_pos h68]) (by rw [h68];decide))
 refine ifB.f (hne h68) ?_
 by_cases h86:c=86
 ·refine ifB.t (by rw [h86];rfl) ?_
  exact LdK.fld hb1 (x:=e.2.2.2.2.2.2.1) rfl (num _ (by unfold fieldB;rw [if_neg h68,if_pos h86]) (by rw [h86];decide))
 refine ifB.f (hne h86) ?_
 by_cases h84:c=84
 ·refine ifB.t (by rw [h84];rfl) ?_
  refine LdK.fld hb1 (x:=e.2.2.2.2.2.2.2.1) rfl ?_
  refine CallK.of (ht h84 w1 f1) ?_
  rintro _ w2 ⟨rfl,f2⟩
  refine ⟨(str ts,tr,()),rfl,⟨by omega,?_⟩⟩
  dsimp only
  have es:((str ts).size:Int)=(ts.length:Int):=by rw [z1z]
  rw [es,show Int.toNat 8=8 from rfl,fdiv_nat ts.length 8 (by omega),wrapB_bc,wrapB_bc]
  refine rowText_ok (w:=w2) [UInt8.ofNat (ts.length / 2 ^ 8 % 256),UInt8.ofNat (ts.length % 256)] (by simp) (str ts) (by rw [z1z];exact hts) fun u w3 hu f3 uf=>?_
  refine ⟨u,by rw [if_pos h84],?_,(f1.trans f2).trans f3,fun k hk=>Nat.le_trans (f1.trans f2).size (uf k hk)⟩
  unfold fieldB
  rw [if_neg h68,if_neg h86,if_pos h84]
  rw [z5z] at hu
  exact hu
 refine ifB.f (hne h84) ?_
 have hF:∀ s,fieldT e c=s→fieldB e ts c=txtB s.data.toList:=fun s hs=>by unfold fieldB;rw [if_neg h68,if_neg h86,if_neg h84,hs]
 by_cases h73:c=73
 ·refine ifB.t (by rw [h73];rfl) ?_
  exact LdK.fld hb1 (x:=e.2.1) rfl (txt _ hz.1 (hF _ (by unfold fieldT;rw [if_pos h73])) h84)
 refine ifB.f (hne h73) ?_
 by_cases h78:c=78
 ·refine ifB.t (by rw [h78];rfl) ?_
  exact LdK.fld hb1 (x:=e.2.2.1) rfl (txt _ hz.2.1 (hF _ (by unfold fieldT;rw [if_neg h73,if_pos h78])) h84)
 refine ifB.f (hne h78) ?_
 by_cases h76:c=76
 ·refine ifB.t (by rw [h76];rfl) ?_
  exact LdK.fld hb1 (x:=e.2.2.2.1) rfl (txt _ hz.2.2.1 (hF _ (by unfold fieldT;rw [if_neg h73,if_neg h78,if_pos h76])) h84)
 refine ifB.f (hne h76) ?_
 by_cases h67:c=67
 ·refine ifB.t (by rw [h67];rfl) ?_
  exact LdK.fld hb1 (x:=e.2.2.2.2.1) rfl (txt _ hz.2.2.2 (hF _ (by unfold fieldT;rw [if_neg h73,if_neg h78,if_neg h76,if_pos h67])) h84)
 refine ifB.f (hne h67) ?_
 exact txt _ (by decide) (hF _ (by unfold fieldT;rw [if_neg h73,if_neg h78,if_neg h76,if_neg h67])) h84
theorem fieldB_len (e:EvT) (hz:smallE e) (ts:List UInt8) (hts:ts.length≤1000000) (c:UInt8):(fieldB e ts c).length≤1000010:=by
 obtain ⟨z1,z2,z3,z4⟩:=hz
 unfold fieldB
 split
 ·rw [z9z];omega
 split
 ·rw [z9z];omega
 split
 ·simp only [List.length_cons];omega
 unfold txtB fieldT
 have hs:∀ s:ByteArray,s.data.toList.length=s.size:=ba_len
 simp only [List.length_cons,hs]
 repeat' split
 all_goals first | omega | (show (0:Nat)+1≤_;omega)
theorem event_spec (e:EvT) (hT:ifcT e.2.2.2.2.2.2.2.1) (hz:smallE e) (ts:List UInt8) (hts:ts.length≤1000000) (tr:Int) (w:World)
  (ht:e.1=2→∀ w1,Fr none1 w w1→Ret Tryz.prog 64 #[e.2.2.2.2.2.2.2.1] w1 fun r w'=>r=.tuple #[.string (str ts),.int .i64 tr]∧Fr none1 w1 w') :
  Ret Tryz.prog 59 #[evA e] w fun r w'=>∃ v:Sl,r=.tuple #[.slice v.1 v.2.1 v.2.2,.int .i64 (packF e ts tr).2]∧IsB w' v (packF e ts tr).1∧Fr none1 w w'∧∀ k,blkOf v k→w.heap.size≤k:=by
 refine c59 e w _ ?_
 unfold C59
 refine NewK.of fun b w1 hb hb1 f1 _=>?_
 refine LdsK.blk (x:=e) hb1 ?_
 refine CallK.of (check_spec e hT tr w1 (fun h2 w' f=>(ht h2 w' (f1.trans f)).mono fun r w'' ⟨h,f⟩=>⟨⟨_,h⟩,f⟩)) ?_
 rintro _ w2 ⟨rfl,f2⟩
 have f12:=f1.trans f2
 have hb2:=f2.keep0 hb1
 refine ⟨_,rfl,?_⟩
 unfold packF
 refine ifB.ne (fun hne=>?_) (fun heq=>?_)
 ·rw [if_pos hne]
  exact ⟨(none,0,0),rfl,.inl ⟨rfl,rfl⟩,f12,fun k ⟨a,ha,_⟩=>by cases ha⟩
 rw [if_neg (fun t=>t heq)]
 refine LdK.fld hb2 (x:=e.1) rfl ?_
 have hkB:Value.int .u8 (IntKind.u8.wrap e.1)=bc (UInt8.ofNat (e.1 % 256).toNat):=by
  unfold bc
  rw [u8_nat (by omega)]
  congr 1
  simp [IntKind.wrap,IntKind.signed,IntKind.bits]
  omega
 rw [hkB]
 obtain ⟨x,w3,hr3,hx,hxl,f3,xf⟩:=lit_ok (P:=Tryz.prog) (w:=w2) z7z [bc (UInt8.ofNat (e.1 % 256).toNat)] (by simp [bc,Value.cells]) (by simp)
 refine ⟨x,w3,hr3,?_⟩
 have hb3:=f3.keep0 hb2
 have hx0:IsB w3 x [UInt8.ofNat (e.1 % 256).toNat]:=hx
 refine LdK.fld hb3 (x:=e.1) rfl ?_
 refine CallK.of (fields_spec e.1 w3) ?_
 rintro _ w4 ⟨fv,rfl,hfv,f4,ff⟩
 refine ⟨fv,rfl,?_⟩
 have hb4:=f4.keep0 hb3
 have s12:=f12.size
 have f14:=(f12.trans f3).trans f4
 have hfl:=hfv.len
 rw [List.length_map] at hfl
 have hl7:(fieldL e.1).length≤7:=by unfold fieldL;exact Nat.le_trans (List.length_filter_le _ _) (by decide)
 have h84:∀ c∈fieldL e.1,c=84→e.1=2:=fun c hc h=>by
  subst h
  have:=(List.mem_filter.1 hc).2
  unfold hasF fieldsF at this
  by_cases h2:e.1=2
  ·exact h2
  ·rw [if_neg h2] at this
   repeat' split at this
   all_goals exact absurd this (by decide)
 have htr:e.1=2→tr=0:=fun h2=>by
  unfold checkF at heq
  rw [h2] at heq
  repeat' split at heq
  all_goals first | exact heq | (exact absurd heq (by decide)) | (rename_i hx;exact absurd rfl hx)
 refine LoopK.of (fun s w'=>∃ i:Nat,s.2.1=i∧i≤(fieldL e.1).length∧IsB w' s.1 (UInt8.ofNat (e.1 % 256).toNat::((fieldL e.1).take i).flatMap (fieldB e ts))∧(∀ k,blkOf s.1 k→w2.heap.size≤k∧(¬ blkOf fv k))∧IsR w' fv ((fieldL e.1).map u8I)∧Fr none1 w2 w')
  (fun s _=>(fv.2.1 - s.2.1).toNat) ⟨0,rfl,Nat.zero_le _,by simpa using IsB.keep0 hx0 f4,fun k hk=>⟨xf k hk,fun t=>by have:=ff k t;have:=IsSl.lt hx hk;omega⟩,hfv,f3.trans f4⟩ ?_
 rintro _ ⟨v,i',_⟩ w5 ⟨i,hi,hil,hv,hvf,hfv5,f5⟩
 dsimp only at hi hv hvf ⊢
 subst hi
 refine ifB.dec (fun hlt=>?_) (fun hge=>?_)
 ·have hilt:i<(fieldL e.1).length:=by omega
  refine IsR.ld hfv5 (by omega) hlt ?_
  obtain ⟨c,hc⟩:∃ c,(fieldL e.1)[i]? = some c:=⟨_,List.getElem?_eq_getElem hilt⟩
  have hcm:c∈fieldL e.1:=List.mem_of_getElem? hc
  have hcv:((fieldL e.1).map u8I).getD (Int.toNat (i:Int)) 0=u8I c:=by
   rw [Int.toNat_natCast,List.getD_eq_getElem?_getD,List.getElem?_map,hc];rfl
  rw [hcv]
  have hb5:=f5.keep0 (f2.keep0 hb1)
  refine LdsK.blk (x:=e) hb5 ?_
  have herr:(if c=84 then tr else 0)=0:=by
   by_cases h:c=84
   ·rw [if_pos h];exact htr (h84 c hcm h)
   ·rw [if_neg h]
  have hfs:=field_spec e hz c ts hts tr w5 (fun h w' f=>ht (h84 c hcm h) w' ((f12.trans f5).trans f))
  rw [herr] at hfs
  refine CallK.of hfs ?_
  rintro _ w6 ⟨u,rfl,hu,f6,uf⟩
  refine ⟨(u,0,()),rfl,?_⟩
  refine ifB.f rfl ?_
  have hlen:((fieldL e.1).take i).flatMap (fieldB e ts)=((fieldL e.1).take i).flatMap (fieldB e ts):=rfl
  have hbound:∀ l:List UInt8,(l.flatMap (fieldB e ts)).length≤l.length * 1000010:=by
   intro l
   induction l with
   | nil=>simp
   | cons a l ih=>rw [List.flatMap_cons,List.length_append,List.length_cons];have:=fieldB_len e hz ts hts a;omega
  have hb1':=hbound ((fieldL e.1).take i)
  have hb2':=fieldB_len e hz ts hts c
  have ht7:((fieldL e.1).take i).length≤7:=by rw [List.length_take];omega
  obtain ⟨y,w7,hr7,hy,f7,yf⟩:=z33z (IsB.keep0 hv f6) hu.rd (by simp only [List.length_cons];omega)
  have fvlt:=fun k (hk:blkOf fv k)=>IsSl.lt hfv5 hk
  refine ⟨y,w7,hr7,⟨i+1,by rw [wI (by omega) (by omega)];omega,by omega,?_,fun k hk=>?_,IsSl.keep (IsSl.keep0 hfv5 f6) f7 (fun k hk t=>(hvf k t).2 hk),(f5.trans f6).comp f7 (fun k hk t=>by have:=(hvf k t).1;omega)⟩,by rw [wI (by omega) (by omega)];omega⟩
  ·rw [List.take_add_one,hc,List.flatMap_append]
   simpa using hy
  ·rcases yf k hk with t | t
   ·exact hvf k t
   ·have:=f5.size
    have:=f6.size
    exact ⟨by omega,fun q=>by have:=fvlt k q;omega⟩
 ·rw [List.take_of_length_le (by omega)] at hv
  exact ⟨v,rfl,hv,f12.trans f5,fun k hk=>by have:=(hvf k hk).1;omega⟩
inductive Ob where
 | none
 | const (n:Int)
 | fix (s:List UInt8)
 | add (l r:Ob)
 | neg (o:Ob)
 | mul (l r:Ob)
 | max (l r:Ob)
inductive Tm where
 | none
 | zero
 | one (s:List UInt8)
 | give (t:Tm)
 | and (l r:Tm)
 | or (s:List UInt8) (l r:Tm)
 | scale (o:Ob) (t:Tm)
 | when (d:Int) (t:Tm)
 | cond (o:Ob) (l r:Tm)
def Ob.v:Ob→Value
 | .none=>.nilIface
 | .const n=>.iface 108 (.agg #[.int .i64 n])
 | .fix s=>.iface 210 (.agg #[.string (str s)])
 | .add l r=>.iface 252 (.agg #[l.v,r.v])
 | .neg o=>.iface 254 (.agg #[o.v])
 | .mul l r=>.iface 255 (.agg #[l.v,r.v])
 | .max l r=>.iface 256 (.agg #[l.v,r.v])
def Tm.v:Tm→Value
 | .none=>.nilIface
 | .zero=>.iface 188 (.agg #[])
 | .one s=>.iface 102 (.agg #[.string (str s)])
 | .give t=>.iface 190 (.agg #[t.v])
 | .and l r=>.iface 192 (.agg #[l.v,r.v])
 | .or s l r=>.iface 194 (.agg #[.string (str s),l.v,r.v])
 | .scale o t=>.iface 197 (.agg #[o.v,t.v])
 | .when d t=>.iface 199 (.agg #[.int .i64 d,t.v])
 | .cond o l r=>.iface 201 (.agg #[o.v,l.v,r.v])
theorem one1_str (s:ByteArray):one1 (.string s)=true:=rfl
theorem one1_int (k:IntKind) (n:Int):one1 (.int k n)=true:=rfl
theorem Ob.v_one (o:Ob):one1 o.v=true:=by cases o<;>rfl
theorem Tm.v_one (t:Tm):one1 t.v=true:=by cases t<;>rfl
theorem Ob.v_cells (o:Ob):o.v.cells=#[o.v]:=by cases o<;>rfl
theorem Tm.v_cells (t:Tm):t.v.cells=#[t.v]:=by cases t<;>rfl
def kidsO:Ob→List Ob
 | .add l r | .mul l r | .max l r=>[l,r]
 | .neg o=>[o]
 | _=>[]
def kidsT:Tm→List Tm
 | .give t | .scale _ t | .when _ t=>[t]
 | .and l r | .or _ l r | .cond _ l r=>[l,r]
 | _=>[]
theorem kidsO_lt {o k:Ob} (h:k∈kidsO o):SizeOf.sizeOf k<SizeOf.sizeOf o:=by
 cases o<;>simp [kidsO] at h
 all_goals first | (rcases h with rfl | rfl<;>simp<;>omega) | (subst h;simp)
theorem kidsT_lt {t k:Tm} (h:k∈kidsT t):SizeOf.sizeOf k<SizeOf.sizeOf t:=by
 cases t<;>simp [kidsT] at h
 all_goals first | (rcases h with rfl | rfl<;>simp<;>omega) | (subst h;simp;done) | (subst h;simp;omega)
theorem kidsO_len (o:Ob):(kidsO o).length≤2:=by cases o<;>simp [kidsO]
theorem kidsT_len (t:Tm):(kidsT t).length≤2:=by cases t<;>simp [kidsT]
namespace Vc
theorem TaK.hit {x:Value} {t:TypeId} {k:Kd} {yes:k.C→Prop} {no:Prop} (r:k.C) (h:x=.iface t (k.val r)) (hy:yes r):TaK x t k yes no:=⟨.inl ⟨r,h,hy⟩⟩
theorem TaK.miss {x:Value} {t u:TypeId} {v:Value} {k:Kd} {yes:k.C→Prop} {no:Prop} (h:x=.iface u v) (hu:u≠t) (hn:no):TaK x t k yes no:=⟨.inr ⟨.inr ⟨u,v,h,hu⟩,hn⟩⟩
theorem TaK.nil {x:Value} {t:TypeId} {k:Kd} {yes:k.C→Prop} {no:Prop} (h:x=.nilIface) (hn:no):TaK x t k yes no:=⟨.inr ⟨.inl h,hn⟩⟩
theorem ns_ok {w:World} {T:TypeId} {zs vs:List Value} {K:Nat→World→Prop} (hl:zs.length=vs.length) (h1:vs.all one1=true)
  (h:∀ g w4,w.heap.size=g→w4.heap[g]? = some (.cells vs.toArray T (0,0))→Fr none1 w w4→K g w4):NewK (.cells zs.toArray T) w fun g w3=>StsK ⟨g,0,none⟩ vs w3 fun w4=>K g w4:=
 NewK.of fun g w1 hg hb f1 hs=>StsK.blk hb hl h1 fun w2 hb2 f2 _=>h g w2 hg hb2 (f1.fresh f2 (by omega))
theorem ns_skip {w:World} {T:TypeId} {zs vs:List Value} {K:World→Prop} (hl:zs.length=vs.length) (h1:vs.all one1=true)
  (h:∀ w4,Fr none1 w w4→K w4):NewK (.cells zs.toArray T) w fun g w3=>StsK ⟨g,0,none⟩ vs w3 fun w4=>K w4:=
 ns_ok hl h1 fun _ w4 _ _ f=>h w4 f
theorem kids1_ok {P:Program} {w:World} {T t E i bytes:Nat} {z a:Value} {zs vs:List Value} {K:Option Addr×Nat×Nat→World→Prop} (he:ElemOk P t E 1 z bytes) (hl:zs.length=vs.length) (h1:vs.all one1=true) (ha:vs[i]? = some a) (hc:a.cells=#[a])
  (h:∀ (u:Sl) w',IsSl w' E 1 u [a]→u.2.1=1→Fr none1 w w'→(∀ k,blkOf u k→w.heap.size≤k)→K u w') :
  NewK (.cells zs.toArray T) w fun g w3=>StsK ⟨g,0,none⟩ vs w3 fun w4=>LdK .raw ((⟨g,0,none⟩:Addr).add i) w4 fun (x:Value)=>RunK P (Instr.buildSlice t 1 #[(0,x)]) w4 (.v (.one .slc)) fun (u:Option Addr×Nat×Nat) w5=>K u w5:=by
 refine ns_ok hl h1 fun g w4 hg hb f=>?_
 refine LdK.fld (c:=.raw) hb (x:=a) (by rw [List.getElem?_toArray,Nat.zero_add];exact ha) ?_
 obtain ⟨u,w5,hr,hu,hul,f5,uf⟩:=one_ok (w:=w4) he a hc
 exact ⟨u,w5,hr,h u w5 hu hul (f.trans f5) fun k hk=>Nat.le_trans f.size (uf k hk)⟩
theorem kids2_ok {P:Program} {w:World} {T t E i j bytes:Nat} {z a b:Value} {zs vs:List Value} {K:Option Addr×Nat×Nat→World→Prop} (he:ElemOk P t E 1 z bytes) (hl:zs.length=vs.length) (h1:vs.all one1=true) (ha:vs[i]? = some a) (hb:vs[j]? = some b) (hca:a.cells=#[a]) (hcb:b.cells=#[b])
  (h:∀ (u:Sl) w',IsSl w' E 1 u [a,b]→u.2.1=2→Fr none1 w w'→(∀ k,blkOf u k→w.heap.size≤k)→K u w') :
  NewK (.cells zs.toArray T) w fun g w3=>StsK ⟨g,0,none⟩ vs w3 fun w4=>LdK .raw ((⟨g,0,none⟩:Addr).add i) w4 fun (x:Value)=>LdK .raw ((⟨g,0,none⟩:Addr).add j) w4 fun (y:Value)=>RunK P (Instr.buildSlice t 2 #[(0,x),(1,y)]) w4 (.v (.one .slc)) fun (u:Option Addr×Nat×Nat) w5=>K u w5:=by
 refine ns_ok hl h1 fun g w4 hg hbk f=>?_
 refine LdK.fld (c:=.raw) hbk (x:=a) (by rw [List.getElem?_toArray,Nat.zero_add];exact ha) ?_
 refine LdK.fld (c:=.raw) hbk (x:=b) (by rw [List.getElem?_toArray,Nat.zero_add];exact hb) ?_
 obtain ⟨u,w5,hr,hu,hul,f5,uf⟩:=lit_ok (w:=w4) he [a,b] (by intro v hv;simp at hv;rcases hv with rfl | rfl<;>assumption) (by simp)
 exact ⟨u,w5,hr,h u w5 hu hul (f.trans f5) fun k hk=>Nat.le_trans f.size (uf k hk)⟩
end Vc
theorem elem_obs:ElemOk Tryz.prog 213 132 1 .nilIface 16:=⟨Tryz.underlying213,⟨Tryz.t132,by kernel_rfl,rfl,rfl,rfl⟩,rfl,by decide⟩
theorem elem_term:ElemOk Tryz.prog 137 34 1 .nilIface 16:=⟨Tryz.underlying137,⟨Tryz.t34,by kernel_rfl,rfl,rfl,rfl⟩,rfl,by decide⟩
theorem elem_str:ElemOk Tryz.prog 27 9 1 (.string ⟨#[]⟩) 16:=⟨Tryz.underlying27,⟨Tryz.t9,by kernel_rfl,rfl,rfl,rfl⟩,rfl,by decide⟩
def IsOs (w:World) (v:Sl) (l:List Ob):Prop:=IsSl w 132 1 v (l.map Ob.v)
def IsTs (w:World) (v:Sl) (l:List Tm):Prop:=IsSl w 34 1 v (l.map Tm.v)
theorem IsOs.keep0 {w w':World} {v:Sl} {l:List Ob} (h:IsOs w v l) (f:Fr none1 w w'):IsOs w' v l:=IsSl.keep0 h f
theorem IsTs.keep0 {w w':World} {v:Sl} {l:List Tm} (h:IsTs w v l) (f:Fr none1 w w'):IsTs w' v l:=IsSl.keep0 h f
theorem IsOs.len {w:World} {v:Sl} {l:List Ob} (h:IsOs w v l):v.2.1=l.length:=by have:=IsSl.len h;rw [List.length_map,Nat.mul_one] at this;exact this.symm
theorem IsTs.len {w:World} {v:Sl} {l:List Tm} (h:IsTs w v l):v.2.1=l.length:=by have:=IsSl.len h;rw [List.length_map,Nat.mul_one] at this;exact this.symm
theorem IsOs.ld {w:World} {v:Sl} {l:List Ob} (h:IsOs w v l) {i:Nat} {o:Ob} (ho:l[i]? = some o) {K:Value→Prop} (k:K o.v):IdxK v.1 v.2.1 (i:Int) 1 fun p=>LdK .raw p w K:=by
 have hi:=(List.getElem?_eq_some_iff.1 ho).1
 have hl:=h.len
 refine IsSl.ld h (by omega) (by omega) (c:=.raw) (x:=o.v) ?_ k
 rw [Int.toNat_natCast,List.getElem?_map,ho];rfl
theorem IsTs.ld {w:World} {v:Sl} {l:List Tm} (h:IsTs w v l) {i:Nat} {o:Tm} (ho:l[i]? = some o) {K:Value→Prop} (k:K o.v):IdxK v.1 v.2.1 (i:Int) 1 fun p=>LdK .raw p w K:=by
 have hi:=(List.getElem?_eq_some_iff.1 ho).1
 have hl:=h.len
 refine IsSl.ld h (by omega) (by omega) (c:=.raw) (x:=o.v) ?_ k
 rw [Int.toNat_natCast,List.getElem?_map,ho];rfl
theorem none_os (w:World):IsOs w (none,0,0) []:=.inl ⟨rfl,rfl⟩
theorem none_ts (w:World):IsTs w (none,0,0) []:=.inl ⟨rfl,rfl⟩
theorem z39z:∀ k,¬ blkOf (none,0,0) k:=fun k ⟨a,ha,_⟩=>by cases ha
def C107 (p0:Value) (w:World) (K:Value→World→Prop):Prop:=
 TaK p0 252 (.agg [.raw,.raw]) (fun (x1:Value×Value×Unit)=>NewK (.cells #[.nilIface,.nilIface] 252) w (fun g2 w3=>StsK (ad g2) [x1.1,x1.2.1] w3 (fun w4=>LdK .raw ((ad g2).add 0) w4 (fun (x5:Value)=>LdK .raw ((ad g2).add 1) w4 (fun (x6:Value)=>RunK Tryz.prog (Instr.buildSlice 213 2 #[(0,x5),(1,x6)]) w4 (.v (.one .slc)) (fun (x7:SlT) w8=>K (.slice x7.1 x7.2.1 x7.2.2) w8))))))
 (NewK (.cells #[.nilIface,.nilIface] 252) w (fun g9 w10=>StsK (ad g9) [.nilIface,.nilIface] w10 (fun w11=>TaK p0 255 (.agg [.raw,.raw]) (fun (x12:Value×Value×Unit)=>NewK (.cells #[.nilIface,.nilIface] 255) w11 (fun g13 w14=>StsK (ad g13) [x12.1,x12.2.1] w14 (fun w15=>LdK .raw ((ad g13).add 0) w15 (fun (x16:Value)=>LdK .raw ((ad g13).add 1) w15 (fun (x17:Value)=>RunK Tryz.prog (Instr.buildSlice 213 2 #[(0,x16),(1,x17)]) w15 (.v (.one .slc)) (fun (x18:SlT) w19=>K (.slice x18.1 x18.2.1 x18.2.2) w19))))))
 (NewK (.cells #[.nilIface,.nilIface] 255) w11 (fun g20 w21=>StsK (ad g20) [.nilIface,.nilIface] w21 (fun w22=>TaK p0 256 (.agg [.raw,.raw]) (fun (x23:Value×Value×Unit)=>NewK (.cells #[.nilIface,.nilIface] 256) w22 (fun g24 w25=>StsK (ad g24) [x23.1,x23.2.1] w25 (fun w26=>LdK .raw ((ad g24).add 0) w26 (fun (x27:Value)=>LdK .raw ((ad g24).add 1) w26 (fun (x28:Value)=>RunK Tryz.prog (Instr.buildSlice 213 2 #[(0,x27),(1,x28)]) w26 (.v (.one .slc)) (fun (x29:SlT) w30=>K (.slice x29.1 x29.2.1 x29.2.2) w30))))))
 (NewK (.cells #[.nilIface,.nilIface] 256) w22 (fun g31 w32=>StsK (ad g31) [.nilIface,.nilIface] w32 (fun w33=>TaK p0 254 (.agg [.raw]) (fun (x34:Value×Unit)=>NewK (.cells #[.nilIface] 254) w33 (fun g35 w36=>StsK (ad g35) [x34.1] w36 (fun w37=>LdK .raw ((ad g35).add 0) w37 (fun (x38:Value)=>RunK Tryz.prog (Instr.buildSlice 213 1 #[(0,x38)]) w37 (.v (.one .slc)) (fun (x39:SlT) w40=>K (.slice x39.1 x39.2.1 x39.2.2) w40)))))
 (NewK (.cells #[.nilIface] 254) w33 (fun g41 w42=>StsK (ad g41) [.nilIface] w42 (fun w43=>K (.slice none 0 0) w43))))))))))))
def pl107:Plan:=.auto
theorem c107 (p0:Value) (w:World) (K:Value→World→Prop) (h:C107 p0 w K):Ret Tryz.prog 107 #[p0] w K:=z0z (by kernel_rfl) Tryz.func107 (p:=pl107) (Eq.mpr (by kernel_rfl) h)
def C178 (p0:Value) (w:World) (K:Value→World→Prop):Prop:=
 TaK p0 108 (.agg [.int .i64]) (fun (x1:Int×Unit)=>NewK (.cells #[.int .i64 0] 108) w (fun g2 w3=>StsK (ad g2) [.int .i64 x1.1] w3 (fun w4=>LdK (.int .i64) ((ad g2).add 0) w4 (fun (x5:Int)=>CallK Tryz.prog 63 #[.int .i64 x5] w4 (.v (.one .bool)) (fun (x6:Bool) w7=>K (.tuple #[.bool true,.bool x6]) w7)))))
 (NewK (.cells #[.int .i64 0] 108) w (fun g8 w9=>StsK (ad g8) [.int .i64 0] w9 (fun w10=>TaK p0 210 (.agg [.str]) (fun (x11:ByteArray×Unit)=>NewK (.cells #[.string (⟨#[]⟩:ByteArray)] 210) w10 (fun g12 w13=>StsK (ad g12) [.string x11.1] w13 (fun w14=>LdK .str ((ad g12).add 0) w14 (fun (x15:ByteArray)=>CallK Tryz.prog 94 #[.string x15] w14 (.v (.one .bool)) (fun (x16:Bool) w17=>K (.tuple #[.bool true,.bool x16]) w17)))))
 (NewK (.cells #[.string (⟨#[]⟩:ByteArray)] 210) w10 (fun g18 w19=>StsK (ad g18) [.string (⟨#[]⟩:ByteArray)] w19 (fun w20=>K (.tuple #[.bool false,.bool false]) w20))))))
def pl178:Plan:=.auto
theorem c178 (p0:Value) (w:World) (K:Value→World→Prop) (h:C178 p0 w K):Ret Tryz.prog 178 #[p0] w K:=z0z (by kernel_rfl) Tryz.func178 (p:=pl178) (Eq.mpr (by kernel_rfl) h)
def C165 (p0:Value) (w:World) (K:Value→World→Prop):Prop:=
 CallK Tryz.prog 178 #[p0] w (.tup [.one .bool,.one .bool]) (fun (x1:Bool×Bool×Unit) w2=>ifB (!x1.1)
 (CallK Tryz.prog 107 #[p0] w2 (.v (.one .slc)) (fun (x3:SlT) w4=>K (.bool ((x3.2.1:Int)==0)) w4))
 (K (.bool false) w2))
def pl165:Plan:=.auto
theorem c165 (p0:Value) (w:World) (K:Value→World→Prop) (h:C165 p0 w K):Ret Tryz.prog 165 #[p0] w K:=z0z (by kernel_rfl) Tryz.func165 (p:=pl165) (Eq.mpr (by kernel_rfl) h)
def C153 (p0:Value) (w:World) (K:Value→World→Prop):Prop:=
 CallK Tryz.prog 165 #[p0] w (.v (.one .bool)) (fun (x1:Bool) w2=>ifB x1
 (K (.tuple #[.int .i64 0,.int .i64 0]) w2)
 (CallK Tryz.prog 107 #[p0] w2 (.v (.one .slc)) (fun (x3:SlT) w4=>LoopK (Int×Int×Int×Unit) (fun _ s5 w6 next7=>ifB (decide (s5.2.2.1<(x3.2.1:Int)))
 (IdxK x3.1 x3.2.1 s5.2.2.1 1 (fun a8=>LdK .raw a8 w6 (fun (x9:Value)=>CallK Tryz.prog 153 #[x9] w6 (.tup [.one (.int .i64),.one (.int .i64)]) (fun (x10:Int×Int×Unit) w11=>next7 (IntKind.i64.wrap (s5.1+x10.1),(if x10.2.1 > s5.2.1 then x10.2.1 else s5.2.1),IntKind.i64.wrap (s5.2.2.1+1),()) w11))))
 (K (.tuple #[.int .i64 (IntKind.i64.wrap (s5.1+1)),.int .i64 (IntKind.i64.wrap (s5.2.1+1))]) w6))
 (0,0,0,()) w4)))
def pl153:Plan:=(.seq .auto (.seq .auto (.seq (.seq .auto (.block (.loop [(2,.one (.int .i64)),(3,.one (.int .i64)),(13,.one (.int .i64))] .auto))) .auto)))
theorem c153 (p0:Value) (w:World) (K:Value→World→Prop) (h:C153 p0 w K):Ret Tryz.prog 153 #[p0] w K:=z0z (by kernel_rfl) Tryz.func153 (p:=pl153) (Eq.mpr (by kernel_rfl) h)
def C163 (p0:Value) (w:World) (K:Value→World→Prop):Prop:=
 CallK Tryz.prog 178 #[p0] w (.tup [.one .bool,.one .bool]) (fun (x1:Bool×Bool×Unit) w2=>ifB x1.1
 (K (.bool x1.2.1) w2)
 (CallK Tryz.prog 165 #[p0] w2 (.v (.one .bool)) (fun (x3:Bool) w4=>ifB (!x3)
 (CallK Tryz.prog 107 #[p0] w4 (.v (.one .slc)) (fun (x5:SlT) w6=>CallK Tryz.prog 179 #[.slice x5.1 x5.2.1 x5.2.2,.func (.func 180) #[] #[]] w6 (.v (.one .bool)) (fun (x7:Bool) w8=>K (.bool (!x7)) w8)))
 (K (.bool false) w4))))
def pl163:Plan:=.auto
theorem c163 (p0:Value) (w:World) (K:Value→World→Prop) (h:C163 p0 w K):Ret Tryz.prog 163 #[p0] w K:=z0z (by kernel_rfl) Tryz.func163 (p:=pl163) (Eq.mpr (by kernel_rfl) h)
def C180 (p0:Value) (w:World) (K:Value→World→Prop):Prop:=
 CallK Tryz.prog 163 #[p0] w (.v (.one .bool)) (fun (x1:Bool) w2=>K (.bool (!x1)) w2)
def pl180:Plan:=.auto
theorem c180 (p0:Value) (w:World) (K:Value→World→Prop) (h:C180 p0 w K):Ret Tryz.prog 180 #[p0] w K:=z0z (by kernel_rfl) Tryz.func180 (p:=pl180) (Eq.mpr (by kernel_rfl) h)
def C150 (p0:Value) (w:World) (K:Value→World→Prop):Prop:=
 CallK Tryz.prog 163 #[p0] w (.v (.one .bool)) (fun (x1:Bool) w2=>ifB (!x1)
 (K (.int .i64 2) w2)
 (CallK Tryz.prog 153 #[p0] w2 (.tup [.one (.int .i64),.one (.int .i64)]) (fun (x3:Int×Int×Unit) w4=>ifB (decide (x3.1 > 60))
 (K (.int .i64 5) w4)
 (ifB (decide (x3.2.1 > 12))
 (K (.int .i64 5) w4)
 (K (.int .i64 0) w4)))))
def pl150:Plan:=.auto
theorem c150 (p0:Value) (w:World) (K:Value→World→Prop) (h:C150 p0 w K):Ret Tryz.prog 150 #[p0] w K:=z0z (by kernel_rfl) Tryz.func150 (p:=pl150) (Eq.mpr (by kernel_rfl) h)
def C179 (p0:Option Addr) (p0l p0c:Nat) (p1:Value) (w:World) (K:Value→World→Prop):Prop:=
 CallK Tryz.prog 201 #[.slice p0 p0l p0c,p1] w (.v (.one (.int .i64))) (fun (x1:Int) w2=>K (.bool (decide (x1 ≥ 0))) w2)
def pl179:Plan:=.auto
theorem c179 (p0:Option Addr) (p0l p0c:Nat) (p1:Value) (w:World) (K:Value→World→Prop) (h:C179 p0 p0l p0c p1 w K):Ret Tryz.prog 179 #[.slice p0 p0l p0c,p1] w K:=z0z (by kernel_rfl) Tryz.func179 (p:=pl179) (Eq.mpr (by kernel_rfl) h)
def C201 (p0:Option Addr) (p0l p0c:Nat) (p1:Value) (w:World) (K:Value→World→Prop):Prop:=
 LoopK (Int×Unit) (fun _ s1 w2 next3=>ifB (decide (s1.1<(p0l:Int)))
 (IdxK p0 p0l s1.1 1 (fun a4=>LdK .raw a4 w2 (fun (x5:Value)=>callV Tryz.prog p1 [x5] (.v (.one .bool)) w2 (fun (x6:Bool) w7=>ifB x6
 (K (.int .i64 s1.1) w7)
 (next3 (IntKind.i64.wrap (s1.1+1),()) w7)))))
 (K (.int .i64 (-1)) w2))
 (0,()) w
def pl201:Plan:=(.seq .auto (.seq (.seq .auto (.block (.loop [(8,.one (.int .i64))] .auto))) .auto))
theorem c201 (p0:Option Addr) (p0l p0c:Nat) (p1:Value) (w:World) (K:Value→World→Prop) (h:C201 p0 p0l p0c p1 w K):Ret Tryz.prog 201 #[.slice p0 p0l p0c,p1] w K:=z0z (by kernel_rfl) Tryz.func201 (p:=pl201) (Eq.mpr (by kernel_rfl) h)
def nameL (s:List UInt8):Bool:=nameF 0 (runesL s)
def leafO:Ob→Bool×Bool
 | .const n=>(true,validF n)
 | .fix s=>(true,nameL s)
 | _=>(false,false)
def formO:Ob→Bool
 | .none=>false
 | .const n=>validF n
 | .fix s=>nameL s
 | .add l r | .mul l r | .max l r=>formO l&&formO r
 | .neg o=>formO o
def nodesO:Ob→Nat
 | .none=>0
 | .const _ | .fix _=>1
 | .add l r | .mul l r | .max l r=>nodesO l+nodesO r+1
 | .neg o=>nodesO o+1
def depthO:Ob→Nat
 | .none=>0
 | .const _ | .fix _=>1
 | .add l r | .mul l r | .max l r=>max (depthO l) (depthO r)+1
 | .neg o=>depthO o+1
def noneO:Ob→Bool
 | .none=>true
 | _=>false
def checkO (o:Ob):Int:=if formO o=false then 2 else if 60<nodesO o then 5 else if 12<depthO o then 5 else 0
theorem depthO_le (o:Ob):depthO o≤nodesO o:=by
 induction o with
 | none=>exact Nat.le_refl _
 | const=>exact Nat.le_refl _
 | fix=>exact Nat.le_refl _
 | neg o ih=>unfold depthO nodesO;omega
 | add l r a b=>unfold depthO nodesO;omega
 | mul l r a b=>unfold depthO nodesO;omega
 | max l r a b=>unfold depthO nodesO;omega
def sumN (l:List Nat):Nat:=l.foldl (·+·) 0
def maxN (l:List Nat):Nat:=l.foldl max 0
theorem nodesO_kids (o:Ob) (h:noneO o=false):nodesO o=sumN ((kidsO o).map nodesO)+1:=by cases o<;>simp [noneO,nodesO,kidsO,sumN] at h ⊢
theorem depthO_kids (o:Ob) (h:noneO o=false):depthO o=maxN ((kidsO o).map depthO)+1:=by cases o<;>simp [noneO,depthO,kidsO,maxN] at h ⊢
theorem formO_kids (o:Ob) (h:(leafO o).1=false):formO o=(!noneO o&&!((kidsO o).any fun k=>!formO k)):=by cases o<;>simp [leafO,noneO,formO,kidsO] at h ⊢
theorem noneO_kids (o:Ob) (h:(leafO o).1=false):((kidsO o).length==0)=noneO o:=by cases o<;>simp [leafO,noneO,kidsO] at h ⊢
theorem leafO_none (o:Ob) (h:(leafO o).1=true):noneO o=false∧formO o=(leafO o).2:=by cases o<;>simp [leafO,noneO,formO] at h ⊢
theorem sumN_snoc (l:List Nat) (n:Nat):sumN (l++[n])=sumN l+n:=by unfold sumN;rw [List.foldl_append];rfl
theorem maxN_snoc (l:List Nat) (n:Nat):maxN (l++[n])=max (maxN l) n:=by unfold maxN;rw [List.foldl_append];rfl
theorem sumN_from (l:List Nat):∀ n,l.foldl (·+·) n=n+sumN l:=by
 unfold sumN
 induction l with
 | nil=>intro n;rfl
 | cons a l ih=>intro n;rw [List.foldl_cons,List.foldl_cons,ih,ih (0+a)];omega
theorem sumN_take (l:List Nat) (i:Nat):sumN (l.take i)≤sumN l:=by
 have:sumN l=sumN (l.take i)+sumN (l.drop i):=by
  conv=>lhs;rw [← List.take_append_drop i l]
  unfold sumN
  rw [List.foldl_append]
  exact sumN_from _ _
 omega
theorem z46z {α β:Type} (l:List α) (g:α→β) (i:Nat) {x:α} (h:l[i]? = some x):(l.take (i+1)).map g=(l.take i).map g++[g x]:=by
 rw [List.take_add_one,h,List.map_append];rfl
theorem okids_spec (o:Ob) (w:World):Ret Tryz.prog 107 #[o.v] w fun r w'=>∃ u:Sl,r=.slice u.1 u.2.1 u.2.2∧IsOs w' u (kidsO o)∧Fr none1 w w':=by
 refine c107 o.v w _ ?_
 unfold C107
 have two:∀ (l r:Ob) (w0:World) (T:TypeId),Fr none1 w w0→kidsO o=[l,r]→NewK (.cells #[.nilIface,.nilIface] T) w0 (fun g2 w3=>StsK (⟨g2,0,none⟩:Addr) [l.v,r.v] w3 (fun w4=>LdK .raw ((⟨g2,0,none⟩:Addr).add 0) w4 (fun (x5:Value)=>LdK .raw ((⟨g2,0,none⟩:Addr).add 1) w4 (fun (x6:Value)=>
   RunK Tryz.prog (Instr.buildSlice 213 2 #[(0,x5),(1,x6)]) w4 (.v (.one .slc)) (fun (x7:Option Addr×Nat×Nat) w8=>∃ u:Sl,(Value.slice x7.1 x7.2.1 x7.2.2)=.slice u.1 u.2.1 u.2.2∧IsOs w8 u (kidsO o)∧Fr none1 w w8))))):=fun l r w0 T f0 hk=>
  kids2_ok (zs:=[.nilIface,.nilIface]) (vs:=[l.v,r.v]) elem_obs rfl (by simp [Ob.v_one]) rfl rfl l.v_cells r.v_cells fun u w' hu _ f _=>⟨u,rfl,by rw [hk];exact hu,f0.trans f⟩
 have skip2:∀ {w0:World} {T:TypeId} {K:World→Prop},Fr none1 w w0→(∀ w4,Fr none1 w w4→K w4)→NewK (.cells #[.nilIface,.nilIface] T) w0 (fun g w3=>StsK ⟨g,0,none⟩ [.nilIface,.nilIface] w3 fun w4=>K w4):=fun f0 h=>
  ns_skip (zs:=[.nilIface,.nilIface]) rfl rfl fun w4 f=>h w4 (f0.trans f)
 have skip1:∀ {w0:World} {T:TypeId} {K:World→Prop},Fr none1 w w0→(∀ w4,Fr none1 w w4→K w4)→NewK (.cells #[.nilIface] T) w0 (fun g w3=>StsK ⟨g,0,none⟩ [.nilIface] w3 fun w4=>K w4):=fun f0 h=>
  ns_skip (zs:=[.nilIface]) rfl rfl fun w4 f=>h w4 (f0.trans f)
 have f0:=Fr.refl none1 w
 cases o with
 | none=>
  refine TaK.nil rfl (skip2 f0 fun w1 f1=>TaK.nil rfl (skip2 f1 fun w2 f2=>TaK.nil rfl (skip2 f2 fun w3 f3=>TaK.nil rfl (skip1 f3 fun w4 f4=>⟨_,rfl,none_os _,f4⟩))))
 | const n=>
  refine TaK.miss rfl (by decide) (skip2 f0 fun w1 f1=>TaK.miss rfl (by decide) (skip2 f1 fun w2 f2=>TaK.miss rfl (by decide) (skip2 f2 fun w3 f3=>TaK.miss rfl (by decide) (skip1 f3 fun w4 f4=>⟨_,rfl,none_os _,f4⟩))))
 | fix s=>
  refine TaK.miss rfl (by decide) (skip2 f0 fun w1 f1=>TaK.miss rfl (by decide) (skip2 f1 fun w2 f2=>TaK.miss rfl (by decide) (skip2 f2 fun w3 f3=>TaK.miss rfl (by decide) (skip1 f3 fun w4 f4=>⟨_,rfl,none_os _,f4⟩))))
 | add l r=>exact TaK.hit (l.v,r.v,()) rfl (two l r w _ f0 rfl)
 | mul l r=>exact TaK.miss rfl (by decide) (skip2 f0 fun w1 f1=>TaK.hit (l.v,r.v,()) rfl (two l r w1 _ f1 rfl))
 | max l r=>exact TaK.miss rfl (by decide) (skip2 f0 fun w1 f1=>TaK.miss rfl (by decide) (skip2 f1 fun w2 f2=>TaK.hit (l.v,r.v,()) rfl (two l r w2 _ f2 rfl)))
 | neg x=>
  refine TaK.miss rfl (by decide) (skip2 f0 fun w1 f1=>TaK.miss rfl (by decide) (skip2 f1 fun w2 f2=>TaK.miss rfl (by decide) (skip2 f2 fun w3 f3=>TaK.hit (x.v,()) rfl ?_)))
  exact kids1_ok (zs:=[.nilIface]) (vs:=[x.v]) elem_obs rfl (by simp [Ob.v_one]) rfl x.v_cells fun u w' hu _ f _=>⟨u,rfl,hu,f3.trans f⟩
theorem leaf_spec (o:Ob) (w:World):Ret Tryz.prog 178 #[o.v] w fun r w'=>r=.tuple #[.bool (leafO o).1,.bool (leafO o).2]∧Fr none1 w w':=by
 refine c178 o.v w _ ?_
 unfold C178
 have skipI:∀ {K:World→Prop},(∀ w4,Fr none1 w w4→K w4)→NewK (.cells #[.int .i64 0] 108) w (fun g w3=>StsK ⟨g,0,none⟩ [.int .i64 0] w3 fun w4=>K w4):=fun h=>ns_skip (zs:=[.int .i64 0]) rfl rfl fun w4 f=>h w4 f
 have skipS:∀ {w0:World} {K:World→Prop},Fr none1 w w0→(∀ w4,Fr none1 w w4→K w4)→NewK (.cells #[.string (⟨#[]⟩:ByteArray)] 210) w0 (fun g w3=>StsK ⟨g,0,none⟩ [.string (⟨#[]⟩:ByteArray)] w3 fun w4=>K w4):=fun f0 h=>ns_skip (zs:=[.string (⟨#[]⟩:ByteArray)]) rfl rfl fun w4 f=>h w4 (f0.trans f)
 cases o with
 | none=>exact TaK.nil rfl (skipI fun w1 f1=>TaK.nil rfl (skipS f1 fun w2 f2=>⟨rfl,f2⟩))
 | const n=>
  refine TaK.hit (n,()) rfl (ns_ok (zs:=[.int .i64 0]) (vs:=[.int .i64 n]) rfl rfl fun g w1 _ hb f1=>LdK.fld hb (x:=n) rfl ?_)
  refine CallK.of (valid_spec n w1) ?_
  rintro _ _ ⟨rfl,rfl⟩
  exact ⟨_,rfl,rfl,f1⟩
 | fix s=>
  refine TaK.miss rfl (by decide) (skipI fun w1 f1=>TaK.hit (str s,()) rfl (ns_ok (zs:=[.string (⟨#[]⟩:ByteArray)]) (vs:=[.string (str s)]) rfl rfl fun g w2 _ hb f2=>LdK.fld hb (x:=str s) rfl ?_))
  refine CallK.of (name_spec s w2) ?_
  rintro _ w3 ⟨rfl,f3⟩
  exact ⟨_,rfl,rfl,(f1.trans f2).trans f3⟩
 | add l r=>exact TaK.miss rfl (by decide) (skipI fun w1 f1=>TaK.miss rfl (by decide) (skipS f1 fun w2 f2=>⟨rfl,f2⟩))
 | mul l r=>exact TaK.miss rfl (by decide) (skipI fun w1 f1=>TaK.miss rfl (by decide) (skipS f1 fun w2 f2=>⟨rfl,f2⟩))
 | max l r=>exact TaK.miss rfl (by decide) (skipI fun w1 f1=>TaK.miss rfl (by decide) (skipS f1 fun w2 f2=>⟨rfl,f2⟩))
 | neg x=>exact TaK.miss rfl (by decide) (skipI fun w1 f1=>TaK.miss rfl (by decide) (skipS f1 fun w2 f2=>⟨rfl,f2⟩))
theorem onone_spec (o:Ob) (w:World):Ret Tryz.prog 165 #[o.v] w fun r w'=>r=.bool (noneO o)∧Fr none1 w w':=by
 refine c165 o.v w _ ?_
 refine CallK.of (leaf_spec o w) ?_
 rintro _ w1 ⟨rfl,f1⟩
 refine ⟨(_,_,()),rfl,ifB.not (ifB.by (fun h=>?_) (fun h=>?_))⟩
 ·rw [(leafO_none o h).1];exact ⟨rfl,f1⟩
 ·refine CallK.of (okids_spec o w1) ?_
  rintro _ w2 ⟨u,rfl,hu,f2⟩
  refine ⟨u,rfl,?_,f1.trans f2⟩
  rw [hu.len,← noneO_kids o h]
  congr 1
  cases hk:(kidsO o).length<;>rfl
theorem osize_spec (o:Ob) (hn:nodesO o≤1000000) (w:World):Ret Tryz.prog 153 #[o.v] w fun r w'=>r=.tuple #[.int .i64 (nodesO o:Int),.int .i64 (depthO o:Int)]∧Fr none1 w w':=by
 refine c153 o.v w _ ?_
 have ih:∀ k∈kidsO o,nodesO k≤1000000→∀ w,Ret Tryz.prog 153 #[k.v] w fun r w'=>r=.tuple #[.int .i64 (nodesO k:Int),.int .i64 (depthO k:Int)]∧Fr none1 w w':=fun k hk hn w=>osize_spec k hn w
 refine CallK.of (onone_spec o w) ?_
 rintro _ w1 ⟨rfl,f1⟩
 refine ⟨_,rfl,ifB.by (fun h=>?_) (fun h=>?_)⟩
 ·cases o<;>first | (exact ⟨rfl,f1⟩) | (exact absurd h (by simp [noneO]))
 refine CallK.of (okids_spec o w1) ?_
 rintro _ w2 ⟨u,rfl,hu,f2⟩
 refine ⟨u,rfl,?_⟩
 have hN:=nodesO_kids o h
 have hD:=depthO_kids o h
 have hul:=hu.len
 have hkl:=kidsO_len o
 refine LoopK.of (fun s w'=>∃ i:Nat,s.2.2.1=i∧i≤(kidsO o).length∧s.1=(sumN (((kidsO o).take i).map nodesO):Int)∧s.2.1=(maxN (((kidsO o).take i).map depthO):Int)∧Fr none1 w w'∧IsOs w' u (kidsO o)) (fun s _=>(2 - s.2.2.1).toNat)
  ⟨0,rfl,Nat.zero_le _,rfl,rfl,f1.trans f2,hu⟩ ?_
 rintro _ ⟨a,b,i',_⟩ w3 ⟨i,hi,hil,ha,hb,f3,hu3⟩
 dsimp only at hi ha hb ⊢
 subst hi ha hb
 have hle:sumN (((kidsO o).take i).map nodesO)≤nodesO o:=by
  rw [hN,List.map_take]
  have:=sumN_take ((kidsO o).map nodesO) i
  omega
 refine ifB.dec (fun hlt=>?_) (fun hge=>?_)
 ·have hi2:i<(kidsO o).length:=by omega
  obtain ⟨k,hk⟩:∃ k,(kidsO o)[i]? = some k:=⟨_,List.getElem?_eq_getElem hi2⟩
  have hkm:=List.mem_of_getElem? hk
  have hkn:sumN (((kidsO o).take (i+1)).map nodesO)≤nodesO o:=by
   rw [hN,List.map_take]
   have:=sumN_take ((kidsO o).map nodesO) (i+1)
   omega
  rw [z46z _ _ _ hk,sumN_snoc] at hkn
  refine hu3.ld hk ?_
  refine CallK.of (ih k hkm (by omega) w3) ?_
  rintro _ w4 ⟨rfl,f4⟩
  refine ⟨((nodesO k:Int),(depthO k:Int),()),rfl,?_⟩
  dsimp only
  have hdk:=depthO_le k
  refine ⟨⟨i+1,by rw [wI (by omega) (by omega)];omega,by omega,?_,?_,f3.trans f4,hu3.keep0 f4⟩,by rw [wI (by omega) (by omega)];omega⟩
  ·rw [z46z _ _ _ hk,sumN_snoc,wI (by omega) (by omega)]
   omega
  ·rw [z46z _ _ _ hk,maxN_snoc]
   by_cases hm:maxN (((kidsO o).take i).map depthO)<depthO k
   ·rw [if_pos (by omega)];omega
   ·rw [if_neg (by omega)];omega
 ·have:i=(kidsO o).length:=by omega
  subst this
  rw [List.take_length]
  rw [List.take_length] at hle
  have hd:=depthO_le o
  rw [hN]
  rw [hD] at hd ⊢
  rw [wI (by omega) (by omega),wI (by omega) (by omega)]
  exact ⟨by simp,f3⟩
termination_by SizeOf.sizeOf o
decreasing_by exact kidsO_lt hk
theorem oform_spec (o:Ob) (w:World):Ret Tryz.prog 163 #[o.v] w fun r w'=>r=.bool (formO o)∧Fr none1 w w':=by
 refine c163 o.v w _ ?_
 have ih:∀ k∈kidsO o,∀ w,Ret Tryz.prog 163 #[k.v] w fun r w'=>r=.bool (formO k)∧Fr none1 w w':=fun k hk w=>oform_spec k w
 refine CallK.of (leaf_spec o w) ?_
 rintro _ w1 ⟨rfl,f1⟩
 refine ⟨(_,_,()),rfl,ifB.by (fun h=>?_) (fun h=>?_)⟩
 ·rw [(leafO_none o h).2];exact ⟨rfl,f1⟩
 rw [formO_kids o h]
 refine CallK.of (onone_spec o w1) ?_
 rintro _ w2 ⟨rfl,f2⟩
 refine ⟨_,rfl,ifB.not (ifB.by (fun hn=>?_) (fun hn=>?_))⟩
 ·rw [hn];exact ⟨rfl,f1.trans f2⟩
 rw [hn]
 refine CallK.of (okids_spec o w2) ?_
 rintro _ w3 ⟨u,rfl,hu,f3⟩
 refine ⟨u,rfl,?_⟩
 have hul:=hu.len
 have hkl:=kidsO_len o
 -- is there one that is not?
 have hc:Ret Tryz.prog 179 #[.slice u.1 u.2.1 u.2.2,.func (.func 180) #[] #[]] w3 fun r w'=>r=.bool ((kidsO o).any fun k=>!formO k)∧Fr none1 w3 w':=by
  refine c179 u.1 u.2.1 u.2.2 _ w3 _ ?_
  have hx:Ret Tryz.prog 201 #[.slice u.1 u.2.1 u.2.2,.func (.func 180) #[] #[]] w3 fun r w'=>(∃ i:Int,r=.int .i64 i∧decide (i ≥ 0)=(kidsO o).any fun k=>!formO k)∧Fr none1 w3 w':=by
   refine c201 u.1 u.2.1 u.2.2 _ w3 _ ?_
   refine LoopK.of (fun s w'=>∃ i:Nat,s.1=i∧i≤(kidsO o).length∧((kidsO o).take i).any (fun k=>!formO k)=false∧Fr none1 w3 w'∧IsOs w' u (kidsO o)) (fun s _=>(2 - s.1).toNat) ⟨0,rfl,Nat.zero_le _,rfl,Fr.refl _ _,hu⟩ ?_
   rintro _ ⟨i',_⟩ w4 ⟨i,hi,hil,hall,f4,hu4⟩
   dsimp only at hi ⊢
   subst hi
   refine ifB.dec (fun hlt=>?_) (fun hge=>?_)
   ·have hi2:i<(kidsO o).length:=by omega
    obtain ⟨k,hk⟩:∃ k,(kidsO o)[i]? = some k:=⟨_,List.getElem?_eq_getElem hi2⟩
    refine hu4.ld hk ?_
    have hkm:=List.mem_of_getElem? hk
    have hf1:Ret Tryz.prog 180 #[k.v] w4 fun r w'=>r=.bool (!formO k)∧Fr none1 w4 w':=by
     refine c180 k.v w4 _ ?_
     refine CallK.of (ih k hkm w4) ?_
     rintro _ w5 ⟨rfl,f5⟩
     exact ⟨_,rfl,rfl,f5⟩
    refine z52z (by kernel_rfl) Tryz.func180 (by kernel_rfl) (hf1.mono ?_)
    rintro _ w5 ⟨rfl,f5⟩
    refine ⟨_,rfl,ifB.by (fun hb=>?_) (fun hb=>?_)⟩
    ·refine ⟨⟨(i:Int),rfl,?_⟩,f4.trans f5⟩
     rw [decide_eq_true (by omega),eq_comm,List.any_eq_true]
     exact ⟨k,hkm,hb⟩
    ·refine ⟨⟨i+1,by rw [wI (by omega) (by omega)];omega,by omega,?_,f4.trans f5,hu4.keep0 f5⟩,by rw [wI (by omega) (by omega)];omega⟩
     rw [List.take_add_one,hk,List.any_append,hall]
     simpa using hb
   ·refine ⟨⟨-1,rfl,?_⟩,f4⟩
    rw [List.take_of_length_le (by omega)] at hall
    rw [hall];rfl
  refine CallK.of hx ?_
  rintro _ w4 ⟨⟨i,rfl,hi⟩,f4⟩
  exact ⟨_,rfl,by rw [hi],f4⟩
 refine CallK.of hc ?_
 rintro _ w4 ⟨rfl,f4⟩
 exact ⟨_,rfl,by simp,((f1.trans f2).trans f3).trans f4⟩
termination_by SizeOf.sizeOf o
decreasing_by exact kidsO_lt hk
theorem ocheck_spec (o:Ob) (hn:nodesO o≤1000000) (w:World):Ret Tryz.prog 150 #[o.v] w fun r w'=>r=.int .i64 (checkO o)∧Fr none1 w w':=by
 refine c150 o.v w _ ?_
 refine CallK.of (oform_spec o w) ?_
 rintro _ w1 ⟨rfl,f1⟩
 unfold checkO
 refine ⟨_,rfl,ifB.not (ifB.by (fun h=>?_) (fun h=>?_))⟩
 case refine_2=>rw [if_pos h];exact ⟨rfl,f1⟩
 rw [if_neg (by simp [h])]
 refine CallK.of (osize_spec o hn w1) ?_
 rintro _ w2 ⟨rfl,f2⟩
 refine ⟨((nodesO o:Int),(depthO o:Int),()),rfl,?_⟩
 dsimp only
 refine ifB.dec (fun h=>?_) (fun h=>?_)
 ·rw [if_pos (by omega)];exact ⟨rfl,f1.trans f2⟩
 rw [if_neg (by omega)]
 refine ifB.dec (fun h=>?_) (fun h=>?_)
 ·rw [if_pos (by omega)];exact ⟨rfl,f1.trans f2⟩
 rw [if_neg (by omega)]
 exact ⟨rfl,f1.trans f2⟩
def C77 (p0:Value) (w:World) (K:Value→World→Prop):Prop:=
 TaK p0 190 (.agg [.raw]) (fun (x1:Value×Unit)=>NewK (.cells #[.nilIface] 190) w (fun g2 w3=>StsK (ad g2) [x1.1] w3 (fun w4=>LdK .raw ((ad g2).add 0) w4 (fun (x5:Value)=>RunK Tryz.prog (Instr.buildSlice 137 1 #[(0,x5)]) w4 (.v (.one .slc)) (fun (x6:SlT) w7=>K (.slice x6.1 x6.2.1 x6.2.2) w7)))))
 (NewK (.cells #[.nilIface] 190) w (fun g8 w9=>StsK (ad g8) [.nilIface] w9 (fun w10=>TaK p0 192 (.agg [.raw,.raw]) (fun (x11:Value×Value×Unit)=>NewK (.cells #[.nilIface,.nilIface] 192) w10 (fun g12 w13=>StsK (ad g12) [x11.1,x11.2.1] w13 (fun w14=>LdK .raw ((ad g12).add 0) w14 (fun (x15:Value)=>LdK .raw ((ad g12).add 1) w14 (fun (x16:Value)=>RunK Tryz.prog (Instr.buildSlice 137 2 #[(0,x15),(1,x16)]) w14 (.v (.one .slc)) (fun (x17:SlT) w18=>K (.slice x17.1 x17.2.1 x17.2.2) w18))))))
 (NewK (.cells #[.nilIface,.nilIface] 192) w10 (fun g19 w20=>StsK (ad g19) [.nilIface,.nilIface] w20 (fun w21=>TaK p0 194 (.agg [.str,.raw,.raw]) (fun (x22:ByteArray×Value×Value×Unit)=>NewK (.cells #[.string (⟨#[]⟩:ByteArray),.nilIface,.nilIface] 194) w21 (fun g23 w24=>StsK (ad g23) [.string x22.1,x22.2.1,x22.2.2.1] w24 (fun w25=>LdK .raw ((ad g23).add 1) w25 (fun (x26:Value)=>LdK .raw ((ad g23).add 2) w25 (fun (x27:Value)=>RunK Tryz.prog (Instr.buildSlice 137 2 #[(0,x26),(1,x27)]) w25 (.v (.one .slc)) (fun (x28:SlT) w29=>K (.slice x28.1 x28.2.1 x28.2.2) w29))))))
 (NewK (.cells #[.string (⟨#[]⟩:ByteArray),.nilIface,.nilIface] 194) w21 (fun g30 w31=>StsK (ad g30) [.string (⟨#[]⟩:ByteArray),.nilIface,.nilIface] w31 (fun w32=>TaK p0 197 (.agg [.raw,.raw]) (fun (x33:Value×Value×Unit)=>NewK (.cells #[.nilIface,.nilIface] 197) w32 (fun g34 w35=>StsK (ad g34) [x33.1,x33.2.1] w35 (fun w36=>LdK .raw ((ad g34).add 1) w36 (fun (x37:Value)=>RunK Tryz.prog (Instr.buildSlice 137 1 #[(0,x37)]) w36 (.v (.one .slc)) (fun (x38:SlT) w39=>K (.slice x38.1 x38.2.1 x38.2.2) w39)))))
 (NewK (.cells #[.nilIface,.nilIface] 197) w32 (fun g40 w41=>StsK (ad g40) [.nilIface,.nilIface] w41 (fun w42=>TaK p0 199 (.agg [.int .i64,.raw]) (fun (x43:Int×Value×Unit)=>NewK (.cells #[.int .i64 0,.nilIface] 199) w42 (fun g44 w45=>StsK (ad g44) [.int .i64 x43.1,x43.2.1] w45 (fun w46=>LdK .raw ((ad g44).add 1) w46 (fun (x47:Value)=>RunK Tryz.prog (Instr.buildSlice 137 1 #[(0,x47)]) w46 (.v (.one .slc)) (fun (x48:SlT) w49=>K (.slice x48.1 x48.2.1 x48.2.2) w49)))))
 (NewK (.cells #[.int .i64 0,.nilIface] 199) w42 (fun g50 w51=>StsK (ad g50) [.int .i64 0,.nilIface] w51 (fun w52=>TaK p0 201 (.agg [.raw,.raw,.raw]) (fun (x53:Value×Value×Value×Unit)=>NewK (.cells #[.nilIface,.nilIface,.nilIface] 201) w52 (fun g54 w55=>StsK (ad g54) [x53.1,x53.2.1,x53.2.2.1] w55 (fun w56=>LdK .raw ((ad g54).add 1) w56 (fun (x57:Value)=>LdK .raw ((ad g54).add 2) w56 (fun (x58:Value)=>RunK Tryz.prog (Instr.buildSlice 137 2 #[(0,x57),(1,x58)]) w56 (.v (.one .slc)) (fun (x59:SlT) w60=>K (.slice x59.1 x59.2.1 x59.2.2) w60))))))
 (NewK (.cells #[.nilIface,.nilIface,.nilIface] 201) w52 (fun g61 w62=>StsK (ad g61) [.nilIface,.nilIface,.nilIface] w62 (fun w63=>K (.slice none 0 0) w63))))))))))))))))))
def pl77:Plan:=.auto
theorem c77 (p0:Value) (w:World) (K:Value→World→Prop) (h:C77 p0 w K):Ret Tryz.prog 77 #[p0] w K:=z0z (by kernel_rfl) Tryz.func77 (p:=pl77) (Eq.mpr (by kernel_rfl) h)
def C72 (p0:Value) (w:World) (K:Value→World→Prop):Prop:=
 TaK p0 188 (.agg []) (fun (x1:Unit)=>K (.int .i64 1) w)
 (TaK p0 102 (.agg [.str]) (fun (x2:ByteArray×Unit)=>K (.int .i64 2) w)
 (TaK p0 190 (.agg [.raw]) (fun (x3:Value×Unit)=>K (.int .i64 3) w)
 (TaK p0 192 (.agg [.raw,.raw]) (fun (x4:Value×Value×Unit)=>K (.int .i64 4) w)
 (TaK p0 194 (.agg [.str,.raw,.raw]) (fun (x5:ByteArray×Value×Value×Unit)=>K (.int .i64 5) w)
 (TaK p0 197 (.agg [.raw,.raw]) (fun (x6:Value×Value×Unit)=>K (.int .i64 6) w)
 (TaK p0 199 (.agg [.int .i64,.raw]) (fun (x7:Int×Value×Unit)=>K (.int .i64 7) w)
 (TaK p0 201 (.agg [.raw,.raw,.raw]) (fun (x8:Value×Value×Value×Unit)=>K (.int .i64 8) w)
 (K (.int .i64 0) w))))))))
def pl72:Plan:=.auto
theorem c72 (p0:Value) (w:World) (K:Value→World→Prop) (h:C72 p0 w K):Ret Tryz.prog 72 #[p0] w K:=z0z (by kernel_rfl) Tryz.func72 (p:=pl72) (Eq.mpr (by kernel_rfl) h)
def C73 (p0:Value) (w:World) (K:Value→World→Prop):Prop:=
 TaK p0 102 (.agg [.str]) (fun (x1:ByteArray×Unit)=>NewK (.cells #[.string (⟨#[]⟩:ByteArray)] 102) w (fun g2 w3=>StsK (ad g2) [.string x1.1] w3 (fun w4=>LdK .str ((ad g2).add 0) w4 (fun (x5:ByteArray)=>K (.tuple #[.string x5,.int .i64 0]) w4))))
 (NewK (.cells #[.string (⟨#[]⟩:ByteArray)] 102) w (fun g6 w7=>StsK (ad g6) [.string (⟨#[]⟩:ByteArray)] w7 (fun w8=>TaK p0 194 (.agg [.str,.raw,.raw]) (fun (x9:ByteArray×Value×Value×Unit)=>NewK (.cells #[.string (⟨#[]⟩:ByteArray),.nilIface,.nilIface] 194) w8 (fun g10 w11=>StsK (ad g10) [.string x9.1,x9.2.1,x9.2.2.1] w11 (fun w12=>LdK .str ((ad g10).add 0) w12 (fun (x13:ByteArray)=>K (.tuple #[.string x13,.int .i64 0]) w12))))
 (NewK (.cells #[.string (⟨#[]⟩:ByteArray),.nilIface,.nilIface] 194) w8 (fun g14 w15=>StsK (ad g14) [.string (⟨#[]⟩:ByteArray),.nilIface,.nilIface] w15 (fun w16=>TaK p0 199 (.agg [.int .i64,.raw]) (fun (x17:Int×Value×Unit)=>NewK (.cells #[.int .i64 0,.nilIface] 199) w16 (fun g18 w19=>StsK (ad g18) [.int .i64 x17.1,x17.2.1] w19 (fun w20=>DrewK w20 (fun w21=>LdK (.int .i64) ((ad g18).add 0) w21 (fun (x22:Int)=>K (.tuple #[.string (⟨#[]⟩:ByteArray),.int .i64 x22]) w21)))))
 (NewK (.cells #[.int .i64 0,.nilIface] 199) w16 (fun g23 w24=>StsK (ad g23) [.int .i64 0,.nilIface] w24 (fun w25=>K (.tuple #[.string (⟨#[]⟩:ByteArray),.int .i64 0]) w25)))))))))
def pl73:Plan:=(.seq .auto (.seq .auto (.seq .auto (.seq (.seq .auto (.seq .auto (.cond (.seq .still .auto) .auto))) .auto))))
theorem c73 (p0:Value) (w:World) (K:Value→World→Prop) (h:C73 p0 w K):Ret Tryz.prog 73 #[p0] w K:=z0z (by kernel_rfl) Tryz.func73 (p:=pl73) (Eq.mpr (by kernel_rfl) h)
def C74 (p0:Value) (w:World) (K:Value→World→Prop):Prop:=
 TaK p0 197 (.agg [.raw,.raw]) (fun (x1:Value×Value×Unit)=>NewK (.cells #[.nilIface,.nilIface] 197) w (fun g2 w3=>StsK (ad g2) [x1.1,x1.2.1] w3 (fun w4=>LdK .raw ((ad g2).add 0) w4 (fun (x5:Value)=>K (.tuple #[x5,.bool true]) w4))))
 (NewK (.cells #[.nilIface,.nilIface] 197) w (fun g6 w7=>StsK (ad g6) [.nilIface,.nilIface] w7 (fun w8=>TaK p0 201 (.agg [.raw,.raw,.raw]) (fun (x9:Value×Value×Value×Unit)=>NewK (.cells #[.nilIface,.nilIface,.nilIface] 201) w8 (fun g10 w11=>StsK (ad g10) [x9.1,x9.2.1,x9.2.2.1] w11 (fun w12=>LdK .raw ((ad g10).add 0) w12 (fun (x13:Value)=>K (.tuple #[x13,.bool true]) w12))))
 (NewK (.cells #[.nilIface,.nilIface,.nilIface] 201) w8 (fun g14 w15=>StsK (ad g14) [.nilIface,.nilIface,.nilIface] w15 (fun w16=>K (.tuple #[.nilIface,.bool false]) w16))))))
def pl74:Plan:=.auto
theorem c74 (p0:Value) (w:World) (K:Value→World→Prop) (h:C74 p0 w K):Ret Tryz.prog 74 #[p0] w K:=z0z (by kernel_rfl) Tryz.func74 (p:=pl74) (Eq.mpr (by kernel_rfl) h)
def C126 (p0:Value) (w:World) (K:Value→World→Prop):Prop:=
 CallK Tryz.prog 72 #[p0] w (.v (.one (.int .i64))) (fun (x1:Int) w2=>ifB (x1==0)
 (K (.tuple #[.int .i64 0,.int .i64 0]) w2)
 (JoinK (Int×Int×Unit) (fun J3=>CallK Tryz.prog 74 #[p0] w2 (.tup [.one .raw,.one .bool]) (fun (x6:Value×Bool×Unit) w7=>ifB x6.2.1
 (CallK Tryz.prog 153 #[x6.1] w7 (.tup [.one (.int .i64),.one (.int .i64)]) (fun (x8:Int×Int×Unit) w9=>J3 (x8.1,x8.2.1,()) w9))
 (J3 (0,0,()) w7)))
 (fun _ s4 w5=>CallK Tryz.prog 77 #[p0] w5 (.v (.one .slc)) (fun (x10:SlT) w11=>LoopK (Int×Int×Int×Unit) (fun _ s12 w13 next14=>ifB (decide (s12.2.2.1<(x10.2.1:Int)))
 (IdxK x10.1 x10.2.1 s12.2.2.1 1 (fun a15=>LdK .raw a15 w13 (fun (x16:Value)=>CallK Tryz.prog 126 #[x16] w13 (.tup [.one (.int .i64),.one (.int .i64)]) (fun (x17:Int×Int×Unit) w18=>next14 (IntKind.i64.wrap (s12.1+x17.1),(if x17.2.1 > s12.2.1 then x17.2.1 else s12.2.1),IntKind.i64.wrap (s12.2.2.1+1),()) w18))))
 (K (.tuple #[.int .i64 (IntKind.i64.wrap (s12.1+1)),.int .i64 (IntKind.i64.wrap (s12.2.1+1))]) w13))
 (s4.1,s4.2.1,0,()) w11))))
def pl126:Plan:=(.seq .auto (.seq .auto (.join [(2,.one (.int .i64)),(3,.one (.int .i64))] .auto (.seq (.seq .auto (.block (.loop [(2,.one (.int .i64)),(3,.one (.int .i64)),(27,.one (.int .i64))] .auto))) .auto))))
theorem c126 (p0:Value) (w:World) (K:Value→World→Prop) (h:C126 p0 w K):Ret Tryz.prog 126 #[p0] w K:=z0z (by kernel_rfl) Tryz.func126 (p:=pl126) (Eq.mpr (by kernel_rfl) h)
def C125 (p0:Value) (w:World) (K:Value→World→Prop):Prop:=
 CallK Tryz.prog 73 #[p0] w (.tup [.one .str,.one (.int .i64)]) (fun (x1:ByteArray×Int×Unit) w2=>JoinK (Bool×Unit) (fun J3=>CallK Tryz.prog 72 #[p0] w2 (.v (.one (.int .i64))) (fun (x6:Int) w7=>CallK Tryz.prog 72 #[.iface 102 (.agg #[.string (⟨#[]⟩:ByteArray)])] w7 (.v (.one (.int .i64))) (fun (x8:Int) w9=>ifB (x6==x8)
 (J3 (true,()) w9)
 (CallK Tryz.prog 72 #[p0] w9 (.v (.one (.int .i64))) (fun (x10:Int) w11=>CallK Tryz.prog 72 #[.iface 194 (.agg #[.string (⟨#[]⟩:ByteArray),.nilIface,.nilIface])] w11 (.v (.one (.int .i64))) (fun (x12:Int) w13=>J3 ((x10==x12),()) w13))))))
 (fun _ s4 w5=>JoinK (Bool×Unit) (fun J14=>CallK Tryz.prog 72 #[p0] w5 (.v (.one (.int .i64))) (fun (x17:Int) w18=>ifB (x17==0)
 (J14 (true,()) w18)
 (ifB s4.1
 (CallK Tryz.prog 94 #[.string x1.1] w18 (.v (.one .bool)) (fun (x19:Bool) w20=>ifB (!x19)
 (J14 (true,()) w20)
 (ifB (decide (x1.2.1<0))
 (J14 (true,()) w20)
 (J14 (decide (x1.2.1 > 10000),()) w20))))
 (ifB (decide (x1.2.1<0))
 (J14 (true,()) w18)
 (J14 (decide (x1.2.1 > 10000),()) w18)))))
 (fun _ s15 w16=>ifB s15.1
 (K (.bool false) w16)
 (CallK Tryz.prog 74 #[p0] w16 (.tup [.one .raw,.one .bool]) (fun (x21:Value×Bool×Unit) w22=>ifB x21.2.1
 (CallK Tryz.prog 150 #[x21.1] w22 (.v (.one (.int .i64))) (fun (x23:Int) w24=>ifB (x23==2)
 (K (.bool false) w24)
 (CallK Tryz.prog 77 #[p0] w24 (.v (.one .slc)) (fun (x25:SlT) w26=>CallK Tryz.prog 151 #[.slice x25.1 x25.2.1 x25.2.2,.func (.func 152) #[] #[]] w26 (.v (.one .bool)) (fun (x27:Bool) w28=>K (.bool (!x27)) w28)))))
 (CallK Tryz.prog 77 #[p0] w22 (.v (.one .slc)) (fun (x29:SlT) w30=>CallK Tryz.prog 151 #[.slice x29.1 x29.2.1 x29.2.2,.func (.func 152) #[] #[]] w30 (.v (.one .bool)) (fun (x31:Bool) w32=>K (.bool (!x31)) w32))))))))
def pl125:Plan:=(.seq .auto (.seq .auto (.join [(5,.one .bool)] .auto (.seq (.join [(45,.one .bool)] .auto .auto) .auto))))
theorem c125 (p0:Value) (w:World) (K:Value→World→Prop) (h:C125 p0 w K):Ret Tryz.prog 125 #[p0] w K:=z0z (by kernel_rfl) Tryz.func125 (p:=pl125) (Eq.mpr (by kernel_rfl) h)
def C152 (p0:Value) (w:World) (K:Value→World→Prop):Prop:=
 CallK Tryz.prog 125 #[p0] w (.v (.one .bool)) (fun (x1:Bool) w2=>K (.bool (!x1)) w2)
def pl152:Plan:=.auto
theorem c152 (p0:Value) (w:World) (K:Value→World→Prop) (h:C152 p0 w K):Ret Tryz.prog 152 #[p0] w K:=z0z (by kernel_rfl) Tryz.func152 (p:=pl152) (Eq.mpr (by kernel_rfl) h)
def C127 (p0:Value) (w:World) (K:Value→World→Prop):Prop:=
 JoinK (SlT×Unit) (fun J1=>TaK p0 194 (.agg [.str,.raw,.raw]) (fun (x4:ByteArray×Value×Value×Unit)=>NewK (.cells #[.string (⟨#[]⟩:ByteArray),.nilIface,.nilIface] 194) w (fun g5 w6=>StsK (ad g5) [.string x4.1,x4.2.1,x4.2.2.1] w6 (fun w7=>LdK .str ((ad g5).add 0) w7 (fun (x8:ByteArray)=>RunK Tryz.prog (Instr.buildSlice 27 1 #[(0,.string x8)]) w7 (.v (.one .slc)) (fun (x9:SlT) w10=>RunK Tryz.prog (Builtin.append_ #[27,27] 27 #[.slice none 0 0,.slice x9.1 x9.2.1 x9.2.2]) w10 (.v (.one .slc)) (fun (x11:SlT) w12=>J1 ((x11.1,x11.2.1,x11.2.2),()) w12))))))
 (NewK (.cells #[.string (⟨#[]⟩:ByteArray),.nilIface,.nilIface] 194) w (fun g13 w14=>StsK (ad g13) [.string (⟨#[]⟩:ByteArray),.nilIface,.nilIface] w14 (fun w15=>J1 ((none,0,0),()) w15))))
 (fun _ s2 w3=>CallK Tryz.prog 77 #[p0] w3 (.v (.one .slc)) (fun (x16:SlT) w17=>LoopK (SlT×Int×Unit) (fun _ s18 w19 next20=>ifB (decide (s18.2.1<(x16.2.1:Int)))
 (IdxK x16.1 x16.2.1 s18.2.1 1 (fun a21=>LdK .raw a21 w19 (fun (x22:Value)=>CallK Tryz.prog 127 #[x22] w19 (.v (.one .slc)) (fun (x23:SlT) w24=>RunK Tryz.prog (Builtin.append_ #[27,27] 27 #[.slice s18.1.1 s18.1.2.1 s18.1.2.2,.slice x23.1 x23.2.1 x23.2.2]) w24 (.v (.one .slc)) (fun (x25:SlT) w26=>next20 ((x25.1,x25.2.1,x25.2.2),IntKind.i64.wrap (s18.2.1+1),()) w26)))))
 (K (.slice s18.1.1 s18.1.2.1 s18.1.2.2) w19))
 ((s2.1.1,s2.1.2.1,s2.1.2.2),0,()) w17))
def pl127:Plan:=(.seq .auto (.seq .auto (.join [(3,.one .slc)] .auto (.seq (.seq .auto (.block (.loop [(3,.one .slc),(22,.one (.int .i64))] .auto))) .auto))))
theorem c127 (p0:Value) (w:World) (K:Value→World→Prop) (h:C127 p0 w K):Ret Tryz.prog 127 #[p0] w K:=z0z (by kernel_rfl) Tryz.func127 (p:=pl127) (Eq.mpr (by kernel_rfl) h)
def C95 (p0:Value) (w:World) (K:Value→World→Prop):Prop:=
 CallK Tryz.prog 125 #[p0] w (.v (.one .bool)) (fun (x1:Bool) w2=>ifB (!x1)
 (K (.int .i64 2) w2)
 (CallK Tryz.prog 126 #[p0] w2 (.tup [.one (.int .i64),.one (.int .i64)]) (fun (x3:Int×Int×Unit) w4=>ifB (decide (x3.1 > 60))
 (K (.int .i64 5) w4)
 (ifB (decide (x3.2.1 > 12))
 (K (.int .i64 5) w4)
 (CallK Tryz.prog 127 #[p0] w4 (.v (.one .slc)) (fun (x5:SlT) w6=>LoopK (Int×Unit) (fun _ s7 w8 next9=>ifB (decide (s7.1<(x5.2.1:Int)))
 (IdxK x5.1 x5.2.1 s7.1 1 (fun a10=>LdK .str a10 w8 (fun (x11:ByteArray)=>SubK x5.1 x5.2.2 0 s7.1 x5.2.2 1 (fun a12 l13 c14=>CallK Tryz.prog 128 #[.slice a12 l13 c14,.string x11] w8 (.v (.one .bool)) (fun (x15:Bool) w16=>ifB x15
 (K (.int .i64 4) w16)
 (next9 (IntKind.i64.wrap (s7.1+1),()) w16))))))
 (K (.int .i64 0) w8))
 (0,()) w6))))))
def pl95:Plan:=(.seq .auto (.seq .auto (.seq .auto (.seq .auto (.seq (.seq .auto (.block (.loop [(26,.one (.int .i64))] .auto))) .auto)))))
theorem c95 (p0:Value) (w:World) (K:Value→World→Prop) (h:C95 p0 w K):Ret Tryz.prog 95 #[p0] w K:=z0z (by kernel_rfl) Tryz.func95 (p:=pl95) (Eq.mpr (by kernel_rfl) h)
def C151 (p0:Option Addr) (p0l p0c:Nat) (p1:Value) (w:World) (K:Value→World→Prop):Prop:=
 CallK Tryz.prog 164 #[.slice p0 p0l p0c,p1] w (.v (.one (.int .i64))) (fun (x1:Int) w2=>K (.bool (decide (x1 ≥ 0))) w2)
def pl151:Plan:=.auto
theorem c151 (p0:Option Addr) (p0l p0c:Nat) (p1:Value) (w:World) (K:Value→World→Prop) (h:C151 p0 p0l p0c p1 w K):Ret Tryz.prog 151 #[.slice p0 p0l p0c,p1] w K:=z0z (by kernel_rfl) Tryz.func151 (p:=pl151) (Eq.mpr (by kernel_rfl) h)
def C164 (p0:Option Addr) (p0l p0c:Nat) (p1:Value) (w:World) (K:Value→World→Prop):Prop:=
 LoopK (Int×Unit) (fun _ s1 w2 next3=>ifB (decide (s1.1<(p0l:Int)))
 (IdxK p0 p0l s1.1 1 (fun a4=>LdK .raw a4 w2 (fun (x5:Value)=>callV Tryz.prog p1 [x5] (.v (.one .bool)) w2 (fun (x6:Bool) w7=>ifB x6
 (K (.int .i64 s1.1) w7)
 (next3 (IntKind.i64.wrap (s1.1+1),()) w7)))))
 (K (.int .i64 (-1)) w2))
 (0,()) w
def pl164:Plan:=(.seq .auto (.seq (.seq .auto (.block (.loop [(8,.one (.int .i64))] .auto))) .auto))
theorem c164 (p0:Option Addr) (p0l p0c:Nat) (p1:Value) (w:World) (K:Value→World→Prop) (h:C164 p0 p0l p0c p1 w K):Ret Tryz.prog 164 #[.slice p0 p0l p0c,p1] w K:=z0z (by kernel_rfl) Tryz.func164 (p:=pl164) (Eq.mpr (by kernel_rfl) h)
def C128 (p0:Option Addr) (p0l p0c:Nat) (p1:ByteArray) (w:World) (K:Value→World→Prop):Prop:=
 CallK Tryz.prog 154 #[.slice p0 p0l p0c,.string p1] w (.v (.one (.int .i64))) (fun (x1:Int) w2=>K (.bool (decide (x1 ≥ 0))) w2)
def pl128:Plan:=.auto
theorem c128 (p0:Option Addr) (p0l p0c:Nat) (p1:ByteArray) (w:World) (K:Value→World→Prop) (h:C128 p0 p0l p0c p1 w K):Ret Tryz.prog 128 #[.slice p0 p0l p0c,.string p1] w K:=z0z (by kernel_rfl) Tryz.func128 (p:=pl128) (Eq.mpr (by kernel_rfl) h)
def C154 (p0:Option Addr) (p0l p0c:Nat) (p1:ByteArray) (w:World) (K:Value→World→Prop):Prop:=
 LoopK (Int×Unit) (fun _ s1 w2 next3=>ifB (decide (s1.1<(p0l:Int)))
 (IdxK p0 p0l s1.1 1 (fun a4=>LdK .str a4 w2 (fun (x5:ByteArray)=>ifB (p1.toList==x5.toList)
 (K (.int .i64 s1.1) w2)
 (next3 (IntKind.i64.wrap (s1.1+1),()) w2))))
 (K (.int .i64 (-1)) w2))
 (0,()) w
def pl154:Plan:=(.seq .auto (.seq (.seq .auto (.block (.loop [(8,.one (.int .i64))] .auto))) .auto))
theorem c154 (p0:Option Addr) (p0l p0c:Nat) (p1:ByteArray) (w:World) (K:Value→World→Prop) (h:C154 p0 p0l p0c p1 w K):Ret Tryz.prog 154 #[.slice p0 p0l p0c,.string p1] w K:=z0z (by kernel_rfl) Tryz.func154 (p:=pl154) (Eq.mpr (by kernel_rfl) h)
def kindT:Tm→Int
 | .none=>0
 | .zero=>1
 | .one _=>2
 | .give _=>3
 | .and _ _=>4
 | .or _ _ _=>5
 | .scale _ _=>6
 | .when _ _=>7
 | .cond _ _ _=>8
def ownT:Tm→List UInt8×Int
 | .one s=>(s,0)
 | .or s _ _=>(s,0)
 | .when d _=>([],d)
 | _=>([],0)
def numberT:Tm→Ob×Bool
 | .scale o _=>(o,true)
 | .cond o _ _=>(o,true)
 | _=>(.none,false)
def formT:Tm→Bool
 | .none=>false
 | .zero=>true
 | .one s=>nameL s
 | .give t=>formT t
 | .and l r=>formT l&&formT r
 | .or s l r=>nameL s&&(formT l&&formT r)
 | .scale o t=>formO o&&formT t
 | .when d t=>decide (0≤d)&&decide (d≤10000)&&formT t
 | .cond o l r=>formO o&&(formT l&&formT r)
def nodesT:Tm→Nat
 | .none=>0
 | .zero=>1
 | .one _=>1
 | .give t=>nodesT t+1
 | .and l r=>nodesT l+nodesT r+1
 | .or _ l r=>nodesT l+nodesT r+1
 | .scale o t=>nodesO o+nodesT t+1
 | .when _ t=>nodesT t+1
 | .cond o l r=>nodesO o+nodesT l+nodesT r+1
def depthT:Tm→Nat
 | .none=>0
 | .zero=>1
 | .one _=>1
 | .give t=>depthT t+1
 | .and l r=>max (depthT l) (depthT r)+1
 | .or _ l r=>max (depthT l) (depthT r)+1
 | .scale o t=>max (depthO o) (depthT t)+1
 | .when _ t=>depthT t+1
 | .cond o l r=>max (max (depthO o) (depthT l)) (depthT r)+1
def labelsT:Tm→List (List UInt8)
 | .none=>[]
 | .zero=>[]
 | .one _=>[]
 | .give t=>labelsT t
 | .and l r=>labelsT l++labelsT r
 | .or s l r=>s::(labelsT l++labelsT r)
 | .scale _ t=>labelsT t
 | .when _ t=>labelsT t
 | .cond _ l r=>labelsT l++labelsT r
def checkT (t:Tm):Int:=if formT t=false then 2 else if 60<nodesT t then 5 else if 12<depthT t then 5 else if (labelsT t).Nodup then 0 else 4
def baseN (t:Tm):Nat:=nodesO (numberT t).1
def baseD (t:Tm):Nat:=depthO (numberT t).1
def ownL:Tm→List (List UInt8)
 | .or s _ _=>[s]
 | _=>[]
theorem kindT_none (t:Tm):(kindT t=0)↔t=.none:=by cases t<;>simp [kindT]
theorem nodesT_kids (t:Tm) (h:t≠.none):nodesT t=baseN t+sumN ((kidsT t).map nodesT)+1:=by cases t<;>simp [nodesT,kidsT,sumN,baseN,numberT,nodesO] at h ⊢<;>omega
theorem depthT_kids (t:Tm) (h:t≠.none):depthT t=((kidsT t).map depthT).foldl max (baseD t)+1:=by
 cases t<;>simp only [depthT,kidsT,baseD,numberT,depthO,List.map_cons,List.map_nil,List.foldl_cons,List.foldl_nil] at h ⊢
 all_goals first | omega | exact absurd rfl h
theorem labelsT_kids (t:Tm):labelsT t=ownL t++(kidsT t).flatMap labelsT:=by cases t<;>simp [labelsT,kidsT,ownL]
theorem depthT_le (t:Tm):depthT t≤nodesT t:=by
 induction t with
 | none=>exact Nat.le_refl _
 | zero=>exact Nat.le_refl _
 | one=>exact Nat.le_refl _
 | give t ih=>unfold depthT nodesT;omega
 | when d t ih=>unfold depthT nodesT;omega
 | and l r a b=>unfold depthT nodesT;omega
 | or s l r a b=>unfold depthT nodesT;omega
 | scale o t ih=>unfold depthT nodesT;have:=depthO_le o;omega
 | cond o l r a b=>unfold depthT nodesT;have:=depthO_le o;omega
theorem labelsT_len (t:Tm):(labelsT t).length≤nodesT t:=by
 induction t with
 | none=>exact Nat.zero_le _
 | zero=>exact Nat.zero_le _
 | one=>exact Nat.zero_le _
 | give t ih=>unfold labelsT nodesT;omega
 | when d t ih=>unfold labelsT nodesT;omega
 | and l r a b=>unfold labelsT nodesT;rw [List.length_append];omega
 | or s l r a b=>unfold labelsT nodesT;rw [List.length_cons,List.length_append];omega
 | scale o t ih=>unfold labelsT nodesT;omega
 | cond o l r a b=>unfold labelsT nodesT;rw [List.length_append];omega
def ownOk (t:Tm):Bool:=!(decide (kindT t=0))&&(!(decide (kindT t=2∨kindT t=5))||nameL (ownT t).1)&&(decide (0≤(ownT t).2)&&decide ((ownT t).2≤10000))
theorem formT_kids (t:Tm):formT t=(ownOk t&&(!(numberT t).2||formO (numberT t).1)&&!((kidsT t).any fun k=>!formT k)):=by
 cases t<;>simp [formT,ownOk,kindT,ownT,numberT,kidsT,Bool.and_assoc]
 all_goals rfl
theorem z34z (t:Tm) (w:World):Ret Tryz.prog 72 #[t.v] w fun r w'=>r=.int .i64 (kindT t)∧w=w':=by
 refine c72 t.v w _ ?_
 unfold C72
 cases t with
 | none=>exact TaK.nil rfl (TaK.nil rfl (TaK.nil rfl (TaK.nil rfl (TaK.nil rfl (TaK.nil rfl (TaK.nil rfl (TaK.nil rfl ⟨rfl,rfl⟩)))))))
 | zero=>exact TaK.hit () rfl ⟨rfl,rfl⟩
 | one s=>exact TaK.miss rfl (by decide) (TaK.hit (str s,()) rfl ⟨rfl,rfl⟩)
 | give t=>exact TaK.miss rfl (by decide) (TaK.miss rfl (by decide) (TaK.hit (t.v,()) rfl ⟨rfl,rfl⟩))
 | and l r=>exact TaK.miss rfl (by decide) (TaK.miss rfl (by decide) (TaK.miss rfl (by decide) (TaK.hit (l.v,r.v,()) rfl ⟨rfl,rfl⟩)))
 | or s l r=>exact TaK.miss rfl (by decide) (TaK.miss rfl (by decide) (TaK.miss rfl (by decide) (TaK.miss rfl (by decide) (TaK.hit (str s,l.v,r.v,()) rfl ⟨rfl,rfl⟩))))
 | scale o t=>exact TaK.miss rfl (by decide) (TaK.miss rfl (by decide) (TaK.miss rfl (by decide) (TaK.miss rfl (by decide) (TaK.miss rfl (by decide) (TaK.hit (o.v,t.v,()) rfl ⟨rfl,rfl⟩)))))
 | when d t=>exact TaK.miss rfl (by decide) (TaK.miss rfl (by decide) (TaK.miss rfl (by decide) (TaK.miss rfl (by decide) (TaK.miss rfl (by decide) (TaK.miss rfl (by decide) (TaK.hit (d,t.v,()) rfl ⟨rfl,rfl⟩))))))
 | cond o l r=>exact TaK.miss rfl (by decide) (TaK.miss rfl (by decide) (TaK.miss rfl (by decide) (TaK.miss rfl (by decide) (TaK.miss rfl (by decide) (TaK.miss rfl (by decide) (TaK.miss rfl (by decide) (TaK.hit (o.v,l.v,r.v,()) rfl ⟨rfl,rfl⟩)))))))
def isNot (v:Value) (t:TypeId):Prop:=v=.nilIface∨∃ u x,v=.iface u x∧u≠t
theorem isNot.ta {v:Value} {t:TypeId} {k:Kd} {yes:k.C→Prop} {no:Prop} (h:isNot v t) (hn:no):TaK v t k yes no:=⟨.inr ⟨h,hn⟩⟩
theorem Tm.not_one {t:Tm} (h:∀ s,t≠.one s):isNot t.v 102:=by cases t<;>first | exact .inl rfl | exact .inr ⟨_,_,rfl,by decide⟩ | exact absurd rfl (h _)
theorem Tm.not_or {t:Tm} (h:∀ s l r,t≠.or s l r):isNot t.v 194:=by cases t<;>first | exact .inl rfl | exact .inr ⟨_,_,rfl,by decide⟩ | exact absurd rfl (h _ _ _)
theorem Tm.not_when {t:Tm} (h:∀ d u,t≠.when d u):isNot t.v 199:=by cases t<;>first | exact .inl rfl | exact .inr ⟨_,_,rfl,by decide⟩ | exact absurd rfl (h _ _)
theorem Tm.not_scale {t:Tm} (h:∀ o u,t≠.scale o u):isNot t.v 197:=by cases t<;>first | exact .inl rfl | exact .inr ⟨_,_,rfl,by decide⟩ | exact absurd rfl (h _ _)
theorem Tm.not_if {t:Tm} (h:∀ o l r,t≠.cond o l r):isNot t.v 201:=by cases t<;>first | exact .inl rfl | exact .inr ⟨_,_,rfl,by decide⟩ | exact absurd rfl (h _ _ _)
theorem Tm.not_give {t:Tm} (h:∀ u,t≠.give u):isNot t.v 190:=by cases t<;>first | exact .inl rfl | exact .inr ⟨_,_,rfl,by decide⟩ | exact absurd rfl (h _)
theorem Tm.not_and {t:Tm} (h:∀ l r,t≠.and l r):isNot t.v 192:=by cases t<;>first | exact .inl rfl | exact .inr ⟨_,_,rfl,by decide⟩ | exact absurd rfl (h _ _)
theorem lay0 {w w0:World} {T:TypeId} {zs:List Value} {K:World→Prop} (f0:Fr none1 w w0) (h1:zs.all one1=true) (h:∀ w4,Fr none1 w w4→K w4):NewK (.cells zs.toArray T) w0 (fun g w3=>StsK ⟨g,0,none⟩ zs w3 fun w4=>K w4):=
 ns_skip rfl h1 fun w4 f=>h w4 (f0.trans f)
theorem own_spec (t:Tm) (w:World):Ret Tryz.prog 73 #[t.v] w fun r w'=>r=.tuple #[.string (str (ownT t).1),.int .i64 (ownT t).2]∧Fr none1 w w':=by
 refine c73 t.v w _ ?_
 unfold C73
 have f0:=Fr.refl none1 w
 have z1:∀ {K:World→Prop},(∀ w4,Fr none1 w w4→K w4)→NewK (.cells #[.string (⟨#[]⟩:ByteArray)] 102) w (fun g w3=>StsK ⟨g,0,none⟩ [.string (⟨#[]⟩:ByteArray)] w3 fun w4=>K w4):=fun h=>lay0 (zs:=[.string (⟨#[]⟩:ByteArray)]) f0 rfl h
 have z2:∀ {w0:World} {K:World→Prop},Fr none1 w w0→(∀ w4,Fr none1 w w4→K w4)→NewK (.cells #[.string (⟨#[]⟩:ByteArray),.nilIface,.nilIface] 194) w0 (fun g w3=>StsK ⟨g,0,none⟩ [.string (⟨#[]⟩:ByteArray),.nilIface,.nilIface] w3 fun w4=>K w4):=fun f h=>lay0 (zs:=[.string (⟨#[]⟩:ByteArray),.nilIface,.nilIface]) f rfl h
 have z3:∀ {w0:World} {K:World→Prop},Fr none1 w w0→(∀ w4,Fr none1 w w4→K w4)→NewK (.cells #[.int .i64 0,.nilIface] 199) w0 (fun g w3=>StsK ⟨g,0,none⟩ [.int .i64 0,.nilIface] w3 fun w4=>K w4):=fun f h=>lay0 (zs:=[.int .i64 0,.nilIface]) f rfl h
 have rest:((∀ s,t≠.one s)∧(∀ s l r,t≠.or s l r)∧∀ d u,t≠.when d u)→ownT t=([],0):=by rintro ⟨a,b,c⟩;cases t<;>first | rfl | exact absurd rfl (a _) | exact absurd rfl (b _ _ _) | exact absurd rfl (c _ _)
 by_cases h1:∃ s,t=.one s
 ·obtain ⟨s,rfl⟩:=h1
  exact TaK.hit (str s,()) rfl (ns_ok (zs:=[.string (⟨#[]⟩:ByteArray)]) (vs:=[.string (str s)]) rfl rfl fun g w1 _ hb f1=>LdK.fld hb (x:=str s) rfl ⟨rfl,f1⟩)
 have h1:∀ s,t≠.one s:=fun s e=>h1 ⟨s,e⟩
 refine (Tm.not_one h1).ta (z1 fun w1 f1=>?_)
 by_cases h2:∃ s l r,t=.or s l r
 ·obtain ⟨s,l,r,rfl⟩:=h2
  exact TaK.hit (str s,l.v,r.v,()) rfl (ns_ok (zs:=[.string (⟨#[]⟩:ByteArray),.nilIface,.nilIface]) (vs:=[.string (str s),l.v,r.v]) rfl (by simp [Tm.v_one,one1_str]) fun g w2 _ hb f2=>LdK.fld hb (x:=str s) rfl ⟨rfl,f1.trans f2⟩)
 have h2:∀ s l r,t≠.or s l r:=fun s l r e=>h2 ⟨s,l,r,e⟩
 refine (Tm.not_or h2).ta (z2 f1 fun w2 f2=>?_)
 by_cases h3:∃ d u,t=.when d u
 ·obtain ⟨d,u,rfl⟩:=h3
  refine TaK.hit (d,u.v,()) rfl (ns_ok (zs:=[.int .i64 0,.nilIface]) (vs:=[.int .i64 d,u.v]) rfl (by simp [Tm.v_one,one1_int]) fun g w3 _ hb f3=>?_)
  refine DrewK.of fun w4 hh f4=>?_
  exact LdK.fld (f4.keep0 hb) (x:=d) rfl ⟨rfl,(f2.trans f3).trans f4⟩
 have h3:∀ d u,t≠.when d u:=fun d u e=>h3 ⟨d,u,e⟩
 refine (Tm.not_when h3).ta (z3 f2 fun w3 f3=>?_)
 rw [rest ⟨h1,h2,h3⟩]
 exact ⟨rfl,f3⟩
theorem tnumber_spec (t:Tm) (w:World):Ret Tryz.prog 74 #[t.v] w fun r w'=>r=.tuple #[(numberT t).1.v,.bool (numberT t).2]∧Fr none1 w w':=by
 refine c74 t.v w _ ?_
 unfold C74
 have f0:=Fr.refl none1 w
 have z1:∀ {K:World→Prop},(∀ w4,Fr none1 w w4→K w4)→NewK (.cells #[.nilIface,.nilIface] 197) w (fun g w3=>StsK ⟨g,0,none⟩ [.nilIface,.nilIface] w3 fun w4=>K w4):=fun h=>lay0 (zs:=[.nilIface,.nilIface]) f0 rfl h
 have z2:∀ {w0:World} {K:World→Prop},Fr none1 w w0→(∀ w4,Fr none1 w w4→K w4)→NewK (.cells #[.nilIface,.nilIface,.nilIface] 201) w0 (fun g w3=>StsK ⟨g,0,none⟩ [.nilIface,.nilIface,.nilIface] w3 fun w4=>K w4):=fun f h=>lay0 (zs:=[.nilIface,.nilIface,.nilIface]) f rfl h
 have rest:((∀ o u,t≠.scale o u)∧∀ o l r,t≠.cond o l r)→numberT t=(.none,false):=by rintro ⟨a,b⟩;cases t<;>first | rfl | exact absurd rfl (a _ _) | exact absurd rfl (b _ _ _)
 by_cases h1:∃ o u,t=.scale o u
 ·obtain ⟨o,u,rfl⟩:=h1
  exact TaK.hit (o.v,u.v,()) rfl (ns_ok (zs:=[.nilIface,.nilIface]) (vs:=[o.v,u.v]) rfl (by simp [Tm.v_one,Ob.v_one]) fun g w1 _ hb f1=>LdK.fld (c:=.raw) hb (x:=o.v) rfl ⟨rfl,f1⟩)
 have h1:∀ o u,t≠.scale o u:=fun o u e=>h1 ⟨o,u,e⟩
 refine (Tm.not_scale h1).ta (z1 fun w1 f1=>?_)
 by_cases h2:∃ o l r,t=.cond o l r
 ·obtain ⟨o,l,r,rfl⟩:=h2
  exact TaK.hit (o.v,l.v,r.v,()) rfl (ns_ok (zs:=[.nilIface,.nilIface,.nilIface]) (vs:=[o.v,l.v,r.v]) rfl (by simp [Tm.v_one,Ob.v_one]) fun g w2 _ hb f2=>LdK.fld (c:=.raw) hb (x:=o.v) rfl ⟨rfl,f1.trans f2⟩)
 have h2:∀ o l r,t≠.cond o l r:=fun o l r e=>h2 ⟨o,l,r,e⟩
 refine (Tm.not_if h2).ta (z2 f1 fun w2 f2=>?_)
 rw [rest ⟨h1,h2⟩]
 exact ⟨rfl,f2⟩
theorem tkids_spec (t:Tm) (w:World):Ret Tryz.prog 77 #[t.v] w fun r w'=>∃ u:Sl,r=.slice u.1 u.2.1 u.2.2∧IsTs w' u (kidsT t)∧Fr none1 w w'∧∀ k,blkOf u k→w.heap.size≤k:=by
 refine c77 t.v w _ ?_
 unfold C77
 have f0:=Fr.refl none1 w
 have zn:∀ {w0:World} {T:TypeId} {K:World→Prop},Fr none1 w w0→(∀ w4,Fr none1 w w4→K w4)→NewK (.cells #[.nilIface] T) w0 (fun g w3=>StsK ⟨g,0,none⟩ [.nilIface] w3 fun w4=>K w4):=fun f h=>lay0 (zs:=[.nilIface]) f rfl h
 have zn2:∀ {w0:World} {T:TypeId} {K:World→Prop},Fr none1 w w0→(∀ w4,Fr none1 w w4→K w4)→NewK (.cells #[.nilIface,.nilIface] T) w0 (fun g w3=>StsK ⟨g,0,none⟩ [.nilIface,.nilIface] w3 fun w4=>K w4):=fun f h=>lay0 (zs:=[.nilIface,.nilIface]) f rfl h
 have zs3:∀ {w0:World} {T:TypeId} {K:World→Prop},Fr none1 w w0→(∀ w4,Fr none1 w w4→K w4)→NewK (.cells #[.string (⟨#[]⟩:ByteArray),.nilIface,.nilIface] T) w0 (fun g w3=>StsK ⟨g,0,none⟩ [.string (⟨#[]⟩:ByteArray),.nilIface,.nilIface] w3 fun w4=>K w4):=fun f h=>lay0 (zs:=[.string (⟨#[]⟩:ByteArray),.nilIface,.nilIface]) f rfl h
 have zi2:∀ {w0:World} {T:TypeId} {K:World→Prop},Fr none1 w w0→(∀ w4,Fr none1 w w4→K w4)→NewK (.cells #[.int .i64 0,.nilIface] T) w0 (fun g w3=>StsK ⟨g,0,none⟩ [.int .i64 0,.nilIface] w3 fun w4=>K w4):=fun f h=>lay0 (zs:=[.int .i64 0,.nilIface]) f rfl h
 have zn3:∀ {w0:World} {T:TypeId} {K:World→Prop},Fr none1 w w0→(∀ w4,Fr none1 w w4→K w4)→NewK (.cells #[.nilIface,.nilIface,.nilIface] T) w0 (fun g w3=>StsK ⟨g,0,none⟩ [.nilIface,.nilIface,.nilIface] w3 fun w4=>K w4):=fun f h=>lay0 (zs:=[.nilIface,.nilIface,.nilIface]) f rfl h
 have rest:(∀ u,t≠.give u)→(∀ l r,t≠.and l r)→(∀ s l r,t≠.or s l r)→(∀ o u,t≠.scale o u)→(∀ d u,t≠.when d u)→(∀ o l r,t≠.cond o l r)→kidsT t=[]:=by
  intro a b c d e f
  cases t<;>first | rfl | exact absurd rfl (a _) | exact absurd rfl (b _ _) | exact absurd rfl (c _ _ _) | exact absurd rfl (d _ _) | exact absurd rfl (e _ _) | exact absurd rfl (f _ _ _)
 by_cases h1:∃ u,t=.give u
 ·obtain ⟨u,rfl⟩:=h1
  exact TaK.hit (u.v,()) rfl (kids1_ok (zs:=[.nilIface]) (vs:=[u.v]) elem_term rfl (by simp [Tm.v_one]) rfl u.v_cells fun x w' hx _ f xf=>⟨x,rfl,hx,f,xf⟩)
 have h1:∀ u,t≠.give u:=fun u e=>h1 ⟨u,e⟩
 refine (Tm.not_give h1).ta (zn f0 fun w1 f1=>?_)
 by_cases h2:∃ l r,t=.and l r
 ·obtain ⟨l,r,rfl⟩:=h2
  exact TaK.hit (l.v,r.v,()) rfl (kids2_ok (zs:=[.nilIface,.nilIface]) (vs:=[l.v,r.v]) elem_term rfl (by simp [Tm.v_one]) rfl rfl l.v_cells r.v_cells fun x w' hx _ f xf=>⟨x,rfl,hx,f1.trans f,fun k hk=>Nat.le_trans f1.size (xf k hk)⟩)
 have h2:∀ l r,t≠.and l r:=fun l r e=>h2 ⟨l,r,e⟩
 refine (Tm.not_and h2).ta (zn2 f1 fun w2 f2=>?_)
 by_cases h3:∃ s l r,t=.or s l r
 ·obtain ⟨s,l,r,rfl⟩:=h3
  exact TaK.hit (str s,l.v,r.v,()) rfl (kids2_ok (zs:=[.string (⟨#[]⟩:ByteArray),.nilIface,.nilIface]) (vs:=[.string (str s),l.v,r.v]) elem_term rfl (by simp [Tm.v_one,one1_str]) rfl rfl l.v_cells r.v_cells fun x w' hx _ f xf=>⟨x,rfl,hx,f2.trans f,fun k hk=>Nat.le_trans f2.size (xf k hk)⟩)
 have h3:∀ s l r,t≠.or s l r:=fun s l r e=>h3 ⟨s,l,r,e⟩
 refine (Tm.not_or h3).ta (zs3 f2 fun w3 f3=>?_)
 by_cases h4:∃ o u,t=.scale o u
 ·obtain ⟨o,u,rfl⟩:=h4
  exact TaK.hit (o.v,u.v,()) rfl (kids1_ok (zs:=[.nilIface,.nilIface]) (vs:=[o.v,u.v]) elem_term rfl (by simp [Tm.v_one,Ob.v_one]) rfl u.v_cells fun x w' hx _ f xf=>⟨x,rfl,hx,f3.trans f,fun k hk=>Nat.le_trans f3.size (xf k hk)⟩)
 have h4:∀ o u,t≠.scale o u:=fun o u e=>h4 ⟨o,u,e⟩
 refine (Tm.not_scale h4).ta (zn2 f3 fun w4 f4=>?_)
 by_cases h5:∃ d u,t=.when d u
 ·obtain ⟨d,u,rfl⟩:=h5
  exact TaK.hit (d,u.v,()) rfl (kids1_ok (zs:=[.int .i64 0,.nilIface]) (vs:=[.int .i64 d,u.v]) elem_term rfl (by simp [Tm.v_one,one1_int]) rfl u.v_cells fun x w' hx _ f xf=>⟨x,rfl,hx,f4.trans f,fun k hk=>Nat.le_trans f4.size (xf k hk)⟩)
 have h5:∀ d u,t≠.when d u:=fun d u e=>h5 ⟨d,u,e⟩
 refine (Tm.not_when h5).ta (zi2 f4 fun w5 f5=>?_)
 by_cases h6:∃ o l r,t=.cond o l r
 ·obtain ⟨o,l,r,rfl⟩:=h6
  exact TaK.hit (o.v,l.v,r.v,()) rfl (kids2_ok (zs:=[.nilIface,.nilIface,.nilIface]) (vs:=[o.v,l.v,r.v]) elem_term rfl (by simp [Tm.v_one,Ob.v_one]) rfl rfl l.v_cells r.v_cells fun x w' hx _ f xf=>⟨x,rfl,hx,f5.trans f,fun k hk=>Nat.le_trans f5.size (xf k hk)⟩)
 have h6:∀ o l r,t≠.cond o l r:=fun o l r e=>h6 ⟨o,l,r,e⟩
 refine (Tm.not_if h6).ta (zn3 f5 fun w6 f6=>?_)
 rw [rest h1 h2 h3 h4 h5 h6]
 exact ⟨_,rfl,none_ts _,f6,fun k t=>(z39z k t).elim⟩
theorem foldmax_snoc (l:List Nat) (b n:Nat):(l++[n]).foldl max b=max (l.foldl max b) n:=by rw [List.foldl_append];rfl
theorem tsize_spec (t:Tm) (hn:nodesT t≤1000000) (w:World):Ret Tryz.prog 126 #[t.v] w fun r w'=>r=.tuple #[.int .i64 (nodesT t:Int),.int .i64 (depthT t:Int)]∧Fr none1 w w':=by
 refine c126 t.v w _ ?_
 have ih:∀ k∈kidsT t,nodesT k≤1000000→∀ w,Ret Tryz.prog 126 #[k.v] w fun r w'=>r=.tuple #[.int .i64 (nodesT k:Int),.int .i64 (depthT k:Int)]∧Fr none1 w w':=fun k hk hn w=>tsize_spec k hn w
 refine CallK.of (z34z t w) ?_
 rintro _ _ ⟨rfl,rfl⟩
 refine ⟨_,rfl,ifB.eq (fun h=>?_) (fun h=>?_)⟩
 ·rw [kindT_none] at h
  subst h
  exact ⟨rfl,Fr.refl _ _⟩
 rw [Ne,kindT_none] at h
 have hN:=nodesT_kids t h
 have hD:=depthT_kids t h
 refine JoinK.of (fun s w'=>s=((baseN t:Int),(baseD t:Int),())∧Fr none1 w w') ?_ ?_
 ·refine CallK.of (tnumber_spec t w) ?_
  rintro _ w1 ⟨rfl,f1⟩
  refine ⟨((numberT t).1.v,(numberT t).2,()),rfl,ifB.by (fun hb=>?_) (fun hb=>?_)⟩
  ·refine CallK.of (osize_spec (numberT t).1 (by unfold baseN at hN;omega) w1) ?_
   rintro _ w2 ⟨rfl,f2⟩
   exact ⟨((baseN t:Int),(baseD t:Int),()),rfl,rfl,f1.trans f2⟩
  ·refine ⟨?_,f1⟩
   have:numberT t=(.none,false):=by cases t<;>first | rfl | exact absurd hb (by simp [numberT])
   unfold baseN baseD
   rw [this]
   rfl
 rintro _ s w1 ⟨rfl,f1⟩
 dsimp only
 refine CallK.of (tkids_spec t w1) ?_
 rintro _ w2 ⟨u,rfl,hu,f2,uf⟩
 refine ⟨u,rfl,?_⟩
 have hul:=hu.len
 have hkl:=kidsT_len t
 refine LoopK.of (fun s w'=>∃ i:Nat,s.2.2.1=i∧i≤(kidsT t).length∧s.1=((baseN t+sumN (((kidsT t).take i).map nodesT):Nat):Int)∧s.2.1=((((kidsT t).take i).map depthT).foldl max (baseD t):Nat)∧Fr none1 w w'∧IsTs w' u (kidsT t)) (fun s _=>(2 - s.2.2.1).toNat)
  ⟨0,rfl,Nat.zero_le _,rfl,rfl,f1.trans f2,hu⟩ ?_
 rintro _ ⟨a,b,i',_⟩ w3 ⟨i,hi,hil,ha,hb,f3,hu3⟩
 dsimp only at hi ha hb ⊢
 subst hi ha hb
 have hle:∀ i,sumN (((kidsT t).take i).map nodesT)+baseN t≤nodesT t:=fun i=>by
  rw [hN,List.map_take]
  have:=sumN_take ((kidsT t).map nodesT) i
  omega
 have hle0:=hle i
 refine ifB.dec (fun hlt=>?_) (fun hge=>?_)
 ·have hi2:i<(kidsT t).length:=by omega
  obtain ⟨k,hk⟩:∃ k,(kidsT t)[i]? = some k:=⟨_,List.getElem?_eq_getElem hi2⟩
  have hkm:=List.mem_of_getElem? hk
  have hkn:=hle (i+1)
  rw [z46z _ _ _ hk,sumN_snoc] at hkn
  refine hu3.ld hk ?_
  refine CallK.of (ih k hkm (by omega) w3) ?_
  rintro _ w4 ⟨rfl,f4⟩
  refine ⟨((nodesT k:Int),(depthT k:Int),()),rfl,?_⟩
  dsimp only
  have hdk:=depthT_le k
  refine ⟨⟨i+1,by rw [wI (by omega) (by omega)];omega,by omega,?_,?_,f3.trans f4,hu3.keep0 f4⟩,by rw [wI (by omega) (by omega)];omega⟩
  ·rw [z46z _ _ _ hk,sumN_snoc,wI (by omega) (by omega)]
   omega
  ·rw [z46z _ _ _ hk,foldmax_snoc]
   by_cases hm:(((kidsT t).take i).map depthT).foldl max (baseD t)<depthT k
   ·rw [if_pos (by omega)];omega
   ·rw [if_neg (by omega)];omega
 ·have:i=(kidsT t).length:=by omega
  subst this
  rw [List.take_length]
  rw [List.take_length] at hle0
  have hd:=depthT_le t
  rw [hN]
  rw [hD] at hd ⊢
  rw [wI (by omega) (by omega),wI (by omega) (by omega)]
  exact ⟨by simp,f3⟩
termination_by SizeOf.sizeOf t
decreasing_by exact kidsT_lt hk
theorem tform_spec (t:Tm) (hn:nodesT t≤1000000) (w:World):Ret Tryz.prog 125 #[t.v] w fun r w'=>r=.bool (formT t)∧Fr none1 w w':=by
 refine c125 t.v w _ ?_
 unfold C125
 have ih:∀ k∈kidsT t,nodesT k≤1000000→∀ w,Ret Tryz.prog 125 #[k.v] w fun r w'=>r=.bool (formT k)∧Fr none1 w w':=fun k hk hn w=>tform_spec k hn w
 have kOne:∀ w,Ret Tryz.prog 72 #[.iface 102 (.agg #[.string (⟨#[]⟩:ByteArray)])] w fun r w'=>r=.int .i64 2∧w=w':=fun w=>z34z (.one []) w
 have kOr:∀ w,Ret Tryz.prog 72 #[.iface 194 (.agg #[.string (⟨#[]⟩:ByteArray),.nilIface,.nilIface])] w fun r w'=>r=.int .i64 5∧w=w':=fun w=>z34z (.or [] .none .none) w
 refine CallK.of (own_spec t w) ?_
 rintro _ w1 ⟨rfl,f1⟩
 refine ⟨(str (ownT t).1,(ownT t).2,()),rfl,?_⟩
 dsimp only
 refine JoinK.of (fun s w'=>s.1=decide (kindT t=2∨kindT t=5)∧w1=w') ?_ ?_
 ·refine CallK.of (z34z t w1) ?_
  rintro _ _ ⟨rfl,rfl⟩
  refine ⟨_,rfl,?_⟩
  refine CallK.of (kOne w1) ?_
  rintro _ _ ⟨rfl,rfl⟩
  refine ⟨_,rfl,ifB.eq (fun h=>⟨by rw [decide_eq_true (.inl h)],rfl⟩) (fun h=>?_)⟩
  refine CallK.of (z34z t w1) ?_
  rintro _ _ ⟨rfl,rfl⟩
  refine ⟨_,rfl,?_⟩
  refine CallK.of (kOr w1) ?_
  rintro _ _ ⟨rfl,rfl⟩
  refine ⟨_,rfl,?_,rfl⟩
  dsimp only
  by_cases h5:kindT t=5
  ·rw [decide_eq_true (.inr h5),h5];rfl
  ·rw [decide_eq_false (by rintro (h' | h')<;>contradiction)];simpa using h5
 rintro _ ⟨s,_⟩ _ ⟨hs,rfl⟩
 dsimp only at hs ⊢
 subst hs
 have hown:∀ w2,Fr none1 w w2→(ifB (decide ((ownT t).2<0)) True True→True):=fun _ _ _=>trivial
 refine JoinK.of (fun s w'=>s.1=!ownOk t∧Fr none1 w w') ?_ ?_
 ·refine CallK.of (z34z t w1) ?_
  rintro _ _ ⟨rfl,rfl⟩
  have days:∀ w2,Fr none1 w w2→kindT t≠0→(decide (kindT t=2∨kindT t=5)=true→nameL (ownT t).1=true)→ifB (decide ((ownT t).2<0)) (true=(!ownOk t)∧Fr none1 w w2) (decide ((ownT t).2 > 10000)=(!ownOk t)∧Fr none1 w w2):=fun w2 f2 h0 hnm=>by
   have e:ownOk t=(decide (0≤(ownT t).2)&&decide ((ownT t).2≤10000)):=by
    unfold ownOk
    rw [decide_eq_false h0]
    cases hd:decide (kindT t=2∨kindT t=5) with
    | true=>rw [hnm hd];rfl
    | false=>rfl
   rw [e]
   refine ifB.dec (fun h=>⟨?_,f2⟩) (fun h=>⟨?_,f2⟩)
   ·rw [decide_eq_false (p:=0≤(ownT t).2) (by omega)];rfl
   ·rw [decide_eq_true (p:=0≤(ownT t).2) (by omega),Bool.true_and]
    by_cases h2:(ownT t).2≤10000
    ·rw [decide_eq_true h2,decide_eq_false (by omega)];rfl
    ·rw [decide_eq_false h2,decide_eq_true (by omega)];rfl
  refine ⟨_,rfl,ifB.eq (fun h=>⟨?_,f1⟩) (fun h=>?_)⟩
  ·dsimp only;unfold ownOk;rw [decide_eq_true h];rfl
  refine ifB.by (fun hn2=>?_) (fun hn2=>?_)
  ·refine CallK.of (name_spec (ownT t).1 w1) ?_
   rintro _ w2 ⟨rfl,f2⟩
   refine ⟨_,rfl,ifB.not (ifB.by (fun hnm=>?_) (fun hnm=>?_))⟩
   ·exact days w2 (f1.trans f2) h fun _=>hnm
   ·refine ⟨?_,f1.trans f2⟩
    dsimp only
    unfold ownOk nameL
    rw [hn2,hnm]
    simp
  ·exact days w1 f1 h fun e=>by rw [hn2] at e;cases e
 rintro _ ⟨s,_⟩ w2 ⟨hs,f2⟩
 dsimp only at hs ⊢
 subst hs
 rw [formT_kids t]
 refine ifB.not (ifB.by (fun ho=>?_) (fun ho=>?_))
 case refine_2=>rw [ho];exact ⟨rfl,f2⟩
 rw [ho,Bool.true_and]
 have hnd:t≠.none:=fun e=>by rw [e] at ho;exact absurd ho (by simp [ownOk,kindT])
 have hN:=nodesT_kids t hnd
 have kids:∀ w3,Fr none1 w w3→CallK Tryz.prog 77 #[t.v] w3 (.v (.one .slc)) (fun (x25:Option Addr×Nat×Nat) w26=>CallK Tryz.prog 151 #[.slice x25.1 x25.2.1 x25.2.2,.func (.func 152) #[] #[]] w26 (.v (.one .bool)) (fun (x27:Bool) w28=>
   (.bool (!x27):Value)=.bool (true&&!((kidsT t).any fun k=>!formT k))∧Fr none1 w w28)):=fun w3 f3=>by
  refine CallK.of (tkids_spec t w3) ?_
  rintro _ w4 ⟨u,rfl,hu,f4,_⟩
  refine ⟨u,rfl,?_⟩
  have hul:=hu.len
  have hkl:=kidsT_len t
  have hc:Ret Tryz.prog 151 #[.slice u.1 u.2.1 u.2.2,.func (.func 152) #[] #[]] w4 fun r w'=>r=.bool ((kidsT t).any fun k=>!formT k)∧Fr none1 w4 w':=by
   refine c151 u.1 u.2.1 u.2.2 _ w4 _ ?_
   have hx:Ret Tryz.prog 164 #[.slice u.1 u.2.1 u.2.2,.func (.func 152) #[] #[]] w4 fun r w'=>(∃ i:Int,r=.int .i64 i∧decide (i ≥ 0)=(kidsT t).any fun k=>!formT k)∧Fr none1 w4 w':=by
    refine c164 u.1 u.2.1 u.2.2 _ w4 _ ?_
    refine LoopK.of (fun s w'=>∃ i:Nat,s.1=i∧i≤(kidsT t).length∧((kidsT t).take i).any (fun k=>!formT k)=false∧Fr none1 w4 w'∧IsTs w' u (kidsT t)) (fun s _=>(2 - s.1).toNat) ⟨0,rfl,Nat.zero_le _,rfl,Fr.refl _ _,hu⟩ ?_
    rintro _ ⟨i',_⟩ w5 ⟨i,hi,hil,hall,f5,hu5⟩
    dsimp only at hi ⊢
    subst hi
    refine ifB.dec (fun hlt=>?_) (fun hge=>?_)
    ·have hi2:i<(kidsT t).length:=by omega
     obtain ⟨k,hk⟩:∃ k,(kidsT t)[i]? = some k:=⟨_,List.getElem?_eq_getElem hi2⟩
     refine hu5.ld hk ?_
     have hkm:=List.mem_of_getElem? hk
     have hkn:nodesT k≤1000000:=by
      have:=sumN_take ((kidsT t).map nodesT) (i+1)
      rw [← List.map_take,z46z _ _ _ hk,sumN_snoc] at this
      omega
     have hf1:Ret Tryz.prog 152 #[k.v] w5 fun r w'=>r=.bool (!formT k)∧Fr none1 w5 w':=by
      refine c152 k.v w5 _ ?_
      refine CallK.of (ih k hkm hkn w5) ?_
      rintro _ w6 ⟨rfl,f6⟩
      exact ⟨_,rfl,rfl,f6⟩
     refine z52z (by kernel_rfl) Tryz.func152 (by kernel_rfl) (hf1.mono ?_)
     rintro _ w6 ⟨rfl,f6⟩
     refine ⟨_,rfl,ifB.by (fun hb=>?_) (fun hb=>?_)⟩
     ·refine ⟨⟨(i:Int),rfl,?_⟩,f5.trans f6⟩
      rw [decide_eq_true (by omega),eq_comm,List.any_eq_true]
      exact ⟨k,hkm,hb⟩
     ·refine ⟨⟨i+1,by rw [wI (by omega) (by omega)];omega,by omega,?_,f5.trans f6,hu5.keep0 f6⟩,by rw [wI (by omega) (by omega)];omega⟩
      rw [List.take_add_one,hk,List.any_append,hall]
      simpa using hb
    ·refine ⟨⟨-1,rfl,?_⟩,f5⟩
     rw [List.take_of_length_le (by omega)] at hall
     rw [hall];rfl
   refine CallK.of hx ?_
   rintro _ w5 ⟨⟨i,rfl,hi⟩,f5⟩
   exact ⟨_,rfl,by rw [hi],f5⟩
  refine CallK.of hc ?_
  rintro _ w5 ⟨rfl,f5⟩
  exact ⟨_,rfl,by rw [Bool.true_and],(f3.trans f4).trans f5⟩
 refine CallK.of (tnumber_spec t w2) ?_
 rintro _ w3 ⟨rfl,f3⟩
 refine ⟨((numberT t).1.v,(numberT t).2,()),rfl,ifB.by (fun hb=>?_) (fun hb=>?_)⟩
 ·dsimp only at hb ⊢
  rw [hb]
  refine CallK.of (ocheck_spec (numberT t).1 (by unfold baseN at hN;omega) w3) ?_
  rintro _ w4 ⟨rfl,f4⟩
  have hco:(checkO (numberT t).1=2)↔formO (numberT t).1=false:=by
   unfold checkO
   constructor
   ·intro h
    by_cases hf:formO (numberT t).1=false
    ·exact hf
    ·rw [if_neg hf] at h
     repeat' split at h
     all_goals omega
   ·intro h;rw [if_pos h]
  refine ⟨_,rfl,ifB.eq (fun h=>?_) (fun h=>?_)⟩
  ·rw [hco.1 h];exact ⟨by simp,(f2.trans f3).trans f4⟩
  ·have:formO (numberT t).1=true:=by
    cases hf:formO (numberT t).1 with
    | true=>rfl
    | false=>exact absurd (hco.2 hf) h
   rw [this]
   exact kids w4 ((f2.trans f3).trans f4)
 ·dsimp only at hb ⊢
  rw [hb]
  exact kids w3 (f2.trans f3)
termination_by SizeOf.sizeOf t
decreasing_by exact kidsT_lt hk
def sv (s:List UInt8):Value:=.string (str s)
def IsSs (w:World) (v:Sl) (l:List (List UInt8)):Prop:=IsSl w 9 1 v (l.map sv)
theorem IsSs.keep0 {w w':World} {v:Sl} {l:List (List UInt8)} (h:IsSs w v l) (f:Fr none1 w w'):IsSs w' v l:=IsSl.keep0 h f
theorem IsSs.len {w:World} {v:Sl} {l:List (List UInt8)} (h:IsSs w v l):v.2.1=l.length:=by have:=IsSl.len h;rw [List.length_map,Nat.mul_one] at this;exact this.symm
theorem IsSs.ld {w:World} {v:Sl} {l:List (List UInt8)} (h:IsSs w v l) {i:Nat} {s:List UInt8} (ho:l[i]? = some s) {K:ByteArray→Prop} (k:K (str s)):IdxK v.1 v.2.1 (i:Int) 1 fun p=>LdK .str p w K:=by
 have hi:=(List.getElem?_eq_some_iff.1 ho).1
 have hl:=h.len
 refine IsSl.ld h (by omega) (by omega) (c:=.str) (x:=str s) ?_ k
 rw [Int.toNat_natCast,List.getElem?_map,ho];rfl
theorem none_ss (w:World):IsSs w (none,0,0) []:=.inl ⟨rfl,rfl⟩
theorem sv_one (l:List (List UInt8)):∀ v∈l.map sv,one1 v=true:=by intro v hv;obtain ⟨s,_,rfl⟩:=List.mem_map.1 hv;rfl
theorem ss_app {w:World} {x y:Sl} {xs ys:List (List UInt8)} (hx:IsSs w x xs) (hy:RdSl w 1 y (ys.map sv)) (hl:xs.length+ys.length≤100000000) :
  ∃ (v:Sl) (w':World),(Builtin.append_ #[27,27] 27 #[.slice x.1 x.2.1 x.2.2,.slice y.1 y.2.1 y.2.2]).run Tryz.prog w=.ok (.slice v.1 v.2.1 v.2.2) w'∧IsSs w' v (xs++ys)∧Fr (blkOf x) w w'∧(∀ k,blkOf v k→blkOf x k∨w.heap.size≤k):=by
 have e1:=hx.len
 have e2:y.2.1=ys.length:=by have:=hy.1;rw [List.length_map,Nat.mul_one] at this;exact this.symm
 obtain ⟨v,w',a,b,_,c,d⟩:=append_ok (P:=Tryz.prog) (s:=1) (xs:=xs.map sv) (ys:=ys.map sv) elem_str 27 hx hy (sv_one ys) (by rw [e1,e2];omega)
 exact ⟨v,w',a,by unfold IsSs;rw [List.map_append];exact b,c,d⟩
theorem tlabels_spec (t:Tm) (hn:nodesT t≤1000000) (w:World):Ret Tryz.prog 127 #[t.v] w fun r w'=>∃ u:Sl,r=.slice u.1 u.2.1 u.2.2∧IsSs w' u (labelsT t)∧Fr none1 w w'∧∀ k,blkOf u k→w.heap.size≤k:=by
 refine c127 t.v w _ ?_
 have ih:∀ k∈kidsT t,nodesT k≤1000000→∀ w,Ret Tryz.prog 127 #[k.v] w fun r w'=>∃ u:Sl,r=.slice u.1 u.2.1 u.2.2∧IsSs w' u (labelsT k)∧Fr none1 w w'∧∀ k,blkOf u k→w.heap.size≤k:=fun k hk hn w=>tlabels_spec k hn w
 have f0:=Fr.refl none1 w
 refine JoinK.of (fun s w'=>IsSs w' s.1 (ownL t)∧Fr none1 w w'∧∀ k,blkOf s.1 k→w.heap.size≤k) ?_ ?_
 ·by_cases h2:∃ s l r,t=.or s l r
  ·obtain ⟨s,l,r,rfl⟩:=h2
   refine TaK.hit (str s,l.v,r.v,()) rfl (ns_ok (zs:=[.string (⟨#[]⟩:ByteArray),.nilIface,.nilIface]) (vs:=[.string (str s),l.v,r.v]) rfl (by simp [Tm.v_one,one1_str]) fun g w2 _ hb f2=>LdK.fld hb (x:=str s) rfl ?_)
   obtain ⟨u,w3,hr,hu,hul,f3,uf⟩:=one_ok (P:=Tryz.prog) (w:=w2) elem_str (sv s) rfl
   refine ⟨u,w3,hr,?_⟩
   obtain ⟨x,w4,hr4,hx,f4,xf⟩:=ss_app (none_ss w3) (ys:=[s]) hu.rd (by simp)
   refine ⟨x,w4,hr4,hx,(f2.trans f3).comp f4 (fun k _ t=>(z39z k t).elim),fun k hk=>?_⟩
   rcases xf k hk with t | t
   ·exact (z39z k t).elim
   ·have:=(f2.trans f3).size;omega
  ·have h2:∀ s l r,t≠.or s l r:=fun s l r e=>h2 ⟨s,l,r,e⟩
   refine (Tm.not_or h2).ta (lay0 (zs:=[.string (⟨#[]⟩:ByteArray),.nilIface,.nilIface]) f0 rfl fun w1 f1=>⟨?_,f1,fun k t=>(z39z k t).elim⟩)
   have:ownL t=[]:=by cases t<;>first | rfl | exact absurd rfl (h2 _ _ _)
   rw [this]
   exact none_ss _
 rintro _ ⟨s,_⟩ w1 ⟨hs,f1,sf⟩
 dsimp only at hs sf ⊢
 refine CallK.of (tkids_spec t w1) ?_
 rintro _ w2 ⟨u,rfl,hu,f2,uf⟩
 refine ⟨u,rfl,?_⟩
 have hul:=hu.len
 have hkl:=kidsT_len t
 have hL:=labelsT_kids t
 have hlen:=labelsT_len t
 have hlt0:∀ i,(ownL t++((kidsT t).take i).flatMap labelsT).length≤nodesT t:=fun i=>by
  have:(labelsT t).length=(ownL t++((kidsT t).take i).flatMap labelsT).length+(((kidsT t).drop i).flatMap labelsT).length:=by
   rw [hL]
   conv=>lhs;rw [← List.take_append_drop i (kidsT t)]
   rw [List.flatMap_append]
   simp only [List.length_append]
   omega
  omega
 have ulow:∀ k,blkOf u k→k<w2.heap.size:=fun k hk=>IsSl.lt hu hk
 refine LoopK.of (fun s w'=>∃ i:Nat,s.2.1=i∧i≤(kidsT t).length∧IsSs w' s.1 (ownL t++((kidsT t).take i).flatMap labelsT)∧Fr none1 w w'∧IsTs w' u (kidsT t)∧(∀ k,blkOf s.1 k→w.heap.size≤k∧¬ blkOf u k)) (fun s _=>(2 - s.2.1).toNat)
  ⟨0,rfl,Nat.zero_le _,by simpa using hs.keep0 f2,f1.trans f2,hu,fun k hk=>⟨sf k hk,fun t=>by have:=uf k t;have:=IsSl.lt hs hk;omega⟩⟩ ?_
 rintro _ ⟨v,i',_⟩ w3 ⟨i,hi,hil,hv,f3,hu3,vf⟩
 dsimp only at hi hv vf ⊢
 subst hi
 refine ifB.dec (fun hlt=>?_) (fun hge=>?_)
 ·have hi2:i<(kidsT t).length:=by omega
  obtain ⟨k,hk⟩:∃ k,(kidsT t)[i]? = some k:=⟨_,List.getElem?_eq_getElem hi2⟩
  have hkm:=List.mem_of_getElem? hk
  have hb:=hlt0 (i+1)
  rw [List.take_add_one,hk] at hb
  simp only [Option.toList_some,List.flatMap_append,List.flatMap_cons,List.flatMap_nil,List.append_nil,List.length_append] at hb
  refine hu3.ld hk ?_
  have hkn:nodesT k≤1000000:=by
   have hnd:t≠.none:=fun e=>by rw [e] at hi2;exact absurd hi2 (by simp [kidsT])
   have hN:=nodesT_kids t hnd
   have:=sumN_take ((kidsT t).map nodesT) (i+1)
   rw [← List.map_take,z46z _ _ _ hk,sumN_snoc] at this
   omega
  refine CallK.of (ih k hkm hkn w3) ?_
  rintro _ w4 ⟨x,rfl,hx,f4,xf⟩
  refine ⟨x,rfl,?_⟩
  obtain ⟨y,w5,hr5,hy,f5,yf⟩:=ss_app (hv.keep0 f4) (IsSl.rd hx) (by rw [List.length_append];omega)
  have ult:=fun k (hk:blkOf u k)=>IsSl.lt hu3 hk
  refine ⟨y,w5,hr5,⟨i+1,by rw [wI (by omega) (by omega)];omega,by omega,?_,(f3.trans f4).comp f5 (fun k _ t=>by have:=(vf k t).1;omega),IsSl.keep (hu3.keep0 f4) f5 (fun k hk t=>(vf k t).2 hk),fun k hk=>?_⟩,by rw [wI (by omega) (by omega)];omega⟩
  ·rw [List.take_add_one,hk]
   simp only [Option.toList_some,List.flatMap_append,List.flatMap_cons,List.flatMap_nil,List.append_nil]
   rw [← List.append_assoc]
   exact hy
  ·rcases yf k hk with t | t
   ·exact vf k t
   ·have:=(f3.trans f4).size
    have:=f4.size
    exact ⟨by omega,fun q=>by have:=ult k q;omega⟩
 ·have:i=(kidsT t).length:=by omega
  subst this
  rw [List.take_length,← hL] at hv
  exact ⟨v,rfl,hv,f3,fun k hk=>(vf k hk).1⟩
termination_by SizeOf.sizeOf t
decreasing_by exact kidsT_lt hk
theorem scontains_spec {w:World} {v:Sl} {l:List (List UInt8)} (h:RdSl w 1 v (l.map sv)) (hl:l.length≤100000000) (s:List UInt8) :
  Ret Tryz.prog 128 #[.slice v.1 v.2.1 v.2.2,.string (str s)] w fun r w'=>r=.bool (decide (s∈l))∧w=w':=by
 have hlen:v.2.1=l.length:=by have:=h.1;rw [List.length_map,Nat.mul_one] at this;exact this.symm
 refine c128 v.1 v.2.1 v.2.2 (str s) w _ ?_
 have hx:Ret Tryz.prog 154 #[.slice v.1 v.2.1 v.2.2,.string (str s)] w fun r w'=>(∃ i:Int,r=.int .i64 i∧decide (i ≥ 0)=decide (s∈l))∧w=w':=by
  refine c154 v.1 v.2.1 v.2.2 (str s) w _ ?_
  refine LoopK.of (fun st w'=>∃ i:Nat,st.1=i∧i≤l.length∧s ∉ l.take i∧w=w') (fun st _=>(v.2.1 - st.1).toNat) ⟨0,rfl,Nat.zero_le _,by simp,rfl⟩ ?_
  rintro _ ⟨i',_⟩ _ ⟨i,hi,hil,hno,rfl⟩
  dsimp only at hi ⊢
  subst hi
  refine ifB.dec (fun hlt=>?_) (fun hge=>?_)
  ·have hi2:i<l.length:=by omega
   obtain ⟨x,hx⟩:∃ x,l[i]? = some x:=⟨_,List.getElem?_eq_getElem hi2⟩
   refine RdSl.ld h (by omega) hlt (c:=.str) (x:=str x) (by rw [Int.toNat_natCast,List.getElem?_map,hx];rfl) ?_
   rw [str_beq]
   refine ifB.dec (fun he=>?_) (fun hne=>?_)
   ·subst he
    refine ⟨⟨(i:Int),rfl,?_⟩,rfl⟩
    rw [decide_eq_true (by omega),decide_eq_true (List.mem_of_getElem? hx)]
   ·refine ⟨⟨i+1,by rw [wI (by omega) (by omega)];omega,by omega,?_,rfl⟩,by rw [wI (by omega) (by omega)];omega⟩
    rw [List.take_add_one,hx]
    simp only [Option.toList_some,List.mem_append,List.mem_singleton]
    rintro (t | t)
    ·exact hno t
    ·exact hne t
  ·refine ⟨⟨-1,rfl,?_⟩,rfl⟩
   rw [List.take_of_length_le (by omega)] at hno
   rw [decide_eq_false hno];rfl
 refine CallK.of hx ?_
 rintro _ _ ⟨⟨i,rfl,hi⟩,rfl⟩
 exact ⟨i,rfl,by rw [hi],rfl⟩
theorem nodup_take {α:Type} (l:List α):(∀ j x,l[j]? = some x→x ∉ l.take j)↔l.Nodup:=by
 unfold List.Nodup
 rw [List.pairwise_iff_getElem]
 constructor
 ·intro h i j hi hj hij heq
  refine h j l[j] (List.getElem?_eq_getElem hj) ?_
  rw [List.mem_take_iff_getElem]
  exact ⟨i,by omega,heq⟩
 ·intro h j x hx hm
  obtain ⟨hj,rfl⟩:=List.getElem?_eq_some_iff.1 hx
  rw [List.mem_take_iff_getElem] at hm
  obtain ⟨i,hi,heq⟩:=hm
  exact h i j (by omega) hj (by omega) heq
theorem tcheck_spec (t:Tm) (hn:nodesT t≤1000000) (w:World):Ret Tryz.prog 95 #[t.v] w fun r w'=>r=.int .i64 (checkT t)∧Fr none1 w w':=by
 refine c95 t.v w _ ?_
 refine CallK.of (tform_spec t hn w) ?_
 rintro _ w1 ⟨rfl,f1⟩
 unfold checkT
 refine ⟨_,rfl,ifB.not (ifB.by (fun h=>?_) (fun h=>?_))⟩
 case refine_2=>rw [if_pos h];exact ⟨rfl,f1⟩
 rw [if_neg (by simp [h])]
 refine CallK.of (tsize_spec t hn w1) ?_
 rintro _ w2 ⟨rfl,f2⟩
 refine ⟨((nodesT t:Int),(depthT t:Int),()),rfl,?_⟩
 dsimp only
 refine ifB.dec (fun h=>?_) (fun h=>?_)
 ·rw [if_pos (by omega)];exact ⟨rfl,f1.trans f2⟩
 rw [if_neg (by omega)]
 refine ifB.dec (fun h=>?_) (fun h=>?_)
 ·rw [if_pos (by omega)];exact ⟨rfl,f1.trans f2⟩
 rw [if_neg (by omega)]
 refine CallK.of (tlabels_spec t hn w2) ?_
 rintro _ w3 ⟨u,rfl,hu,f3,_⟩
 refine ⟨u,rfl,?_⟩
 have hul:=hu.len
 have hll:=labelsT_len t
 have hcap:u.2.1≤u.2.2:=by
  rcases hu with ⟨rfl,_⟩ | ⟨g,off,cs,_,_,hle,_⟩
  ·exact Nat.le_refl _
  ·exact hle
 have fr:=(f1.trans f2).trans f3
 refine LoopK.of (fun s w'=>∃ i:Nat,s.1=i∧i≤(labelsT t).length∧(∀ j x,j<i→(labelsT t)[j]? = some x→x ∉ (labelsT t).take j)∧w3=w') (fun s _=>(u.2.1 - s.1).toNat) ⟨0,rfl,Nat.zero_le _,fun j x hj=>absurd hj (by omega),rfl⟩ ?_
 rintro _ ⟨i',_⟩ _ ⟨i,hi,hil,hall,rfl⟩
 dsimp only at hi ⊢
 subst hi
 refine ifB.dec (fun hlt=>?_) (fun hge=>?_)
 ·have hi2:i<(labelsT t).length:=by omega
  obtain ⟨x,hx⟩:∃ x,(labelsT t)[i]? = some x:=⟨_,List.getElem?_eq_getElem hi2⟩
  refine hu.ld hx ?_
  refine RdSl.sub (IsSl.rd hu) (by omega) (by omega) hcap fun hs=>?_
  rw [Int.toNat_natCast] at hs ⊢
  rw [← List.map_take] at hs
  refine CallK.of (scontains_spec hs (by rw [List.length_take];omega) x) ?_
  rintro _ _ ⟨rfl,rfl⟩
  refine ⟨_,rfl,ifB.dec (fun hm=>?_) (fun hm=>?_)⟩
  ·rw [if_neg (fun hd=>(nodup_take _).2 hd i x hx hm)]
   exact ⟨rfl,fr⟩
  ·refine ⟨⟨i+1,by rw [wI (by omega) (by omega)];omega,by omega,fun j y hj hy=>?_,rfl⟩,by rw [wI (by omega) (by omega)];omega⟩
   by_cases hji:j<i
   ·exact hall j y hji hy
   ·have:j=i:=by omega
    subst this
    rw [hx] at hy;injection hy with hy;subst hy
    exact hm
 ·rw [if_pos ((nodup_take _).1 fun j x hx=>hall j x (by have:=(List.getElem?_eq_some_iff.1 hx).1;omega) hx)]
  exact ⟨rfl,fr⟩
def C129 (p0:ByteArray) (p1:Option Addr) (p1l p1c:Nat) (w:World) (K:Value→World→Prop):Prop:=
 CatK p0 (⟨#[40]⟩:ByteArray) (CallK Tryz.prog 155 #[.slice p1 p1l p1c,.string (⟨#[44]⟩:ByteArray)] w (.v (.one .str)) (fun (x1:ByteArray) w2=>CatK (p0++(⟨#[40]⟩:ByteArray)) x1 (CatK ((p0++(⟨#[40]⟩:ByteArray))++x1) (⟨#[41]⟩:ByteArray) (K (.string (((p0++(⟨#[40]⟩:ByteArray))++x1)++(⟨#[41]⟩:ByteArray))) w2))))
def pl129:Plan:=.auto
theorem c129 (p0:ByteArray) (p1:Option Addr) (p1l p1c:Nat) (w:World) (K:Value→World→Prop) (h:C129 p0 p1 p1l p1c w K):Ret Tryz.prog 129 #[.string p0,.slice p1 p1l p1c] w K:=z0z (by kernel_rfl) Tryz.func129 (p:=pl129) (Eq.mpr (by kernel_rfl) h)
def C130 (p0:Value) (w:World) (K:Value→World→Prop):Prop:=
 TaK p0 108 (.agg [.int .i64]) (fun (x1:Int×Unit)=>NewK (.cells #[.int .i64 0] 108) w (fun g2 w3=>StsK (ad g2) [.int .i64 x1.1] w3 (fun w4=>LdK (.int .i64) ((ad g2).add 0) w4 (fun (x5:Int)=>CallK Tryz.prog 131 #[.int .i64 x5] w4 (.v (.one .str)) (fun (x6:ByteArray) w7=>K (.string x6) w7)))))
 (TaK p0 210 (.agg [.str]) (fun (x8:ByteArray×Unit)=>NewK (.cells #[.string (⟨#[]⟩:ByteArray)] 210) w (fun g9 w10=>StsK (ad g9) [.string x8.1] w10 (fun w11=>LdK .str ((ad g9).add 0) w11 (fun (x12:ByteArray)=>RunK Tryz.prog (Instr.buildSlice 27 1 #[(0,.string x12)]) w11 (.v (.one .slc)) (fun (x13:SlT) w14=>CallK Tryz.prog 129 #[.string (⟨#[102,105,120]⟩:ByteArray),.slice x13.1 x13.2.1 x13.2.2] w14 (.v (.one .str)) (fun (x15:ByteArray) w16=>K (.string x15) w16))))))
 (TaK p0 252 (.agg [.raw,.raw]) (fun (x17:Value×Value×Unit)=>NewK (.cells #[.nilIface,.nilIface] 252) w (fun g18 w19=>StsK (ad g18) [x17.1,x17.2.1] w19 (fun w20=>DrewK w20 (fun w21=>HoldK (fun S22=>InK S22 ((ad g18).add 0) (LdK .raw ((ad g18).add 0) w21 (fun (x23:Value)=>InK S22 ((ad g18).add 1) (LdK .raw ((ad g18).add 1) w21 (fun (x24:Value)=>CallK Tryz.prog 130 #[x23] w21 (.v (.one .str)) (fun (x25:ByteArray) w26=>KeepK S22 w21 w26 (CallK Tryz.prog 130 #[x24] w26 (.v (.one .str)) (fun (x27:ByteArray) w28=>KeepK S22 w26 w28 (RunK Tryz.prog (Instr.buildSlice 27 2 #[(0,.string x25),(1,.string x27)]) w28 (.v (.one .slc)) (fun (x29:SlT) w30=>KeepK S22 w28 w30 (CallK Tryz.prog 129 #[.string (⟨#[97,100,100]⟩:ByteArray),.slice x29.1 x29.2.1 x29.2.2] w30 (.v (.one .str)) (fun (x31:ByteArray) w32=>KeepK S22 w30 w32 (K (.string x31) w32)))))))))))))))))
 (TaK p0 254 (.agg [.raw]) (fun (x33:Value×Unit)=>NewK (.cells #[.nilIface] 254) w (fun g34 w35=>StsK (ad g34) [x33.1] w35 (fun w36=>LdK .raw ((ad g34).add 0) w36 (fun (x37:Value)=>CallK Tryz.prog 130 #[x37] w36 (.v (.one .str)) (fun (x38:ByteArray) w39=>RunK Tryz.prog (Instr.buildSlice 27 1 #[(0,.string x38)]) w39 (.v (.one .slc)) (fun (x40:SlT) w41=>CallK Tryz.prog 129 #[.string (⟨#[110,101,103]⟩:ByteArray),.slice x40.1 x40.2.1 x40.2.2] w41 (.v (.one .str)) (fun (x42:ByteArray) w43=>K (.string x42) w43)))))))
 (TaK p0 255 (.agg [.raw,.raw]) (fun (x44:Value×Value×Unit)=>NewK (.cells #[.nilIface,.nilIface] 255) w (fun g45 w46=>StsK (ad g45) [x44.1,x44.2.1] w46 (fun w47=>DrewK w47 (fun w48=>HoldK (fun S49=>InK S49 ((ad g45).add 0) (LdK .raw ((ad g45).add 0) w48 (fun (x50:Value)=>InK S49 ((ad g45).add 1) (LdK .raw ((ad g45).add 1) w48 (fun (x51:Value)=>CallK Tryz.prog 130 #[x50] w48 (.v (.one .str)) (fun (x52:ByteArray) w53=>KeepK S49 w48 w53 (CallK Tryz.prog 130 #[x51] w53 (.v (.one .str)) (fun (x54:ByteArray) w55=>KeepK S49 w53 w55 (RunK Tryz.prog (Instr.buildSlice 27 2 #[(0,.string x52),(1,.string x54)]) w55 (.v (.one .slc)) (fun (x56:SlT) w57=>KeepK S49 w55 w57 (CallK Tryz.prog 129 #[.string (⟨#[109,117,108]⟩:ByteArray),.slice x56.1 x56.2.1 x56.2.2] w57 (.v (.one .str)) (fun (x58:ByteArray) w59=>KeepK S49 w57 w59 (K (.string x58) w59)))))))))))))))))
 (TaK p0 256 (.agg [.raw,.raw]) (fun (x60:Value×Value×Unit)=>NewK (.cells #[.nilIface,.nilIface] 256) w (fun g61 w62=>StsK (ad g61) [x60.1,x60.2.1] w62 (fun w63=>DrewK w63 (fun w64=>HoldK (fun S65=>InK S65 ((ad g61).add 0) (LdK .raw ((ad g61).add 0) w64 (fun (x66:Value)=>InK S65 ((ad g61).add 1) (LdK .raw ((ad g61).add 1) w64 (fun (x67:Value)=>CallK Tryz.prog 130 #[x66] w64 (.v (.one .str)) (fun (x68:ByteArray) w69=>KeepK S65 w64 w69 (CallK Tryz.prog 130 #[x67] w69 (.v (.one .str)) (fun (x70:ByteArray) w71=>KeepK S65 w69 w71 (RunK Tryz.prog (Instr.buildSlice 27 2 #[(0,.string x68),(1,.string x70)]) w71 (.v (.one .slc)) (fun (x72:SlT) w73=>KeepK S65 w71 w73 (CallK Tryz.prog 129 #[.string (⟨#[109,97,120]⟩:ByteArray),.slice x72.1 x72.2.1 x72.2.2] w73 (.v (.one .str)) (fun (x74:ByteArray) w75=>KeepK S65 w73 w75 (K (.string x74) w75))))))))))))))))) False)))))
def pl130:Plan:=(.seq .auto (.seq (.seq .auto (.block (.seq .auto (.cond .auto (.seq .auto (.cond .auto (.seq .auto (.cond (.seq .auto (.seq (.held (.soft 0 (.soft 1 (.soft 3 (.soft 4 (.pick 2 (.pick 5 (.pick 6 (.pick 7 (.soft 8 .done) .stop) .stop) .stop) .stop)))))) .auto)) (.seq .auto (.cond .auto (.seq .auto (.cond (.seq .auto (.seq (.held (.soft 0 (.soft 1 (.soft 3 (.soft 4 (.pick 2 (.pick 5 (.pick 6 (.pick 7 (.soft 8 .done) .stop) .stop) .stop) .stop)))))) .auto)) .auto)))))))))))) (.seq .auto (.seq (.held (.soft 0 (.soft 1 (.soft 3 (.soft 4 (.pick 2 (.pick 5 (.pick 6 (.pick 7 (.soft 8 .done) .stop) .stop) .stop) .stop)))))) .auto))))
theorem c130 (p0:Value) (w:World) (K:Value→World→Prop) (h:C130 p0 w K):Ret Tryz.prog 130 #[p0] w K:=z0z (by kernel_rfl) Tryz.func130 (p:=pl130) (Eq.mpr (by kernel_rfl) h)
def C97 (p0:Value) (w:World) (K:Value→World→Prop):Prop:=
 TaK p0 188 (.agg []) (fun (x1:Unit)=>NewK (.cells #[] 188) w (fun g2 w3=>StsK (ad g2) [] w3 (fun w4=>K (.string (⟨#[122,101,114,111]⟩:ByteArray)) w4)))
 (TaK p0 102 (.agg [.str]) (fun (x5:ByteArray×Unit)=>NewK (.cells #[.string (⟨#[]⟩:ByteArray)] 102) w (fun g6 w7=>StsK (ad g6) [.string x5.1] w7 (fun w8=>LdK .str ((ad g6).add 0) w8 (fun (x9:ByteArray)=>RunK Tryz.prog (Instr.buildSlice 27 1 #[(0,.string x9)]) w8 (.v (.one .slc)) (fun (x10:SlT) w11=>CallK Tryz.prog 129 #[.string (⟨#[111,110,101]⟩:ByteArray),.slice x10.1 x10.2.1 x10.2.2] w11 (.v (.one .str)) (fun (x12:ByteArray) w13=>K (.string x12) w13))))))
 (TaK p0 190 (.agg [.raw]) (fun (x14:Value×Unit)=>NewK (.cells #[.nilIface] 190) w (fun g15 w16=>StsK (ad g15) [x14.1] w16 (fun w17=>LdK .raw ((ad g15).add 0) w17 (fun (x18:Value)=>CallK Tryz.prog 97 #[x18] w17 (.v (.one .str)) (fun (x19:ByteArray) w20=>RunK Tryz.prog (Instr.buildSlice 27 1 #[(0,.string x19)]) w20 (.v (.one .slc)) (fun (x21:SlT) w22=>CallK Tryz.prog 129 #[.string (⟨#[103,105,118,101]⟩:ByteArray),.slice x21.1 x21.2.1 x21.2.2] w22 (.v (.one .str)) (fun (x23:ByteArray) w24=>K (.string x23) w24)))))))
 (TaK p0 192 (.agg [.raw,.raw]) (fun (x25:Value×Value×Unit)=>NewK (.cells #[.nilIface,.nilIface] 192) w (fun g26 w27=>StsK (ad g26) [x25.1,x25.2.1] w27 (fun w28=>DrewK w28 (fun w29=>HoldK (fun S30=>InK S30 ((ad g26).add 0) (LdK .raw ((ad g26).add 0) w29 (fun (x31:Value)=>InK S30 ((ad g26).add 1) (LdK .raw ((ad g26).add 1) w29 (fun (x32:Value)=>CallK Tryz.prog 97 #[x31] w29 (.v (.one .str)) (fun (x33:ByteArray) w34=>KeepK S30 w29 w34 (CallK Tryz.prog 97 #[x32] w34 (.v (.one .str)) (fun (x35:ByteArray) w36=>KeepK S30 w34 w36 (RunK Tryz.prog (Instr.buildSlice 27 2 #[(0,.string x33),(1,.string x35)]) w36 (.v (.one .slc)) (fun (x37:SlT) w38=>KeepK S30 w36 w38 (CallK Tryz.prog 129 #[.string (⟨#[97,110,100]⟩:ByteArray),.slice x37.1 x37.2.1 x37.2.2] w38 (.v (.one .str)) (fun (x39:ByteArray) w40=>KeepK S30 w38 w40 (K (.string x39) w40)))))))))))))))))
 (TaK p0 194 (.agg [.str,.raw,.raw]) (fun (x41:ByteArray×Value×Value×Unit)=>NewK (.cells #[.string (⟨#[]⟩:ByteArray),.nilIface,.nilIface] 194) w (fun g42 w43=>StsK (ad g42) [.string x41.1,x41.2.1,x41.2.2.1] w43 (fun w44=>DrewK w44 (fun w45=>HoldK (fun S46=>InK S46 ((ad g42).add 0) (LdK .str ((ad g42).add 0) w45 (fun (x47:ByteArray)=>InK S46 ((ad g42).add 1) (LdK .raw ((ad g42).add 1) w45 (fun (x48:Value)=>InK S46 ((ad g42).add 2) (LdK .raw ((ad g42).add 2) w45 (fun (x49:Value)=>CallK Tryz.prog 97 #[x48] w45 (.v (.one .str)) (fun (x50:ByteArray) w51=>KeepK S46 w45 w51 (CallK Tryz.prog 97 #[x49] w51 (.v (.one .str)) (fun (x52:ByteArray) w53=>KeepK S46 w51 w53 (RunK Tryz.prog (Instr.buildSlice 27 3 #[(0,.string x47),(1,.string x50),(2,.string x52)]) w53 (.v (.one .slc)) (fun (x54:SlT) w55=>KeepK S46 w53 w55 (CallK Tryz.prog 129 #[.string (⟨#[111,114]⟩:ByteArray),.slice x54.1 x54.2.1 x54.2.2] w55 (.v (.one .str)) (fun (x56:ByteArray) w57=>KeepK S46 w55 w57 (K (.string x56) w57)))))))))))))))))))
 (TaK p0 197 (.agg [.raw,.raw]) (fun (x58:Value×Value×Unit)=>NewK (.cells #[.nilIface,.nilIface] 197) w (fun g59 w60=>StsK (ad g59) [x58.1,x58.2.1] w60 (fun w61=>DrewK w61 (fun w62=>HoldK (fun S63=>InK S63 ((ad g59).add 0) (LdK .raw ((ad g59).add 0) w62 (fun (x64:Value)=>InK S63 ((ad g59).add 1) (LdK .raw ((ad g59).add 1) w62 (fun (x65:Value)=>CallK Tryz.prog 130 #[x64] w62 (.v (.one .str)) (fun (x66:ByteArray) w67=>KeepK S63 w62 w67 (CallK Tryz.prog 97 #[x65] w67 (.v (.one .str)) (fun (x68:ByteArray) w69=>KeepK S63 w67 w69 (RunK Tryz.prog (Instr.buildSlice 27 2 #[(0,.string x66),(1,.string x68)]) w69 (.v (.one .slc)) (fun (x70:SlT) w71=>KeepK S63 w69 w71 (CallK Tryz.prog 129 #[.string (⟨#[115,99,97,108,101]⟩:ByteArray),.slice x70.1 x70.2.1 x70.2.2] w71 (.v (.one .str)) (fun (x72:ByteArray) w73=>KeepK S63 w71 w73 (K (.string x72) w73)))))))))))))))))
 (TaK p0 199 (.agg [.int .i64,.raw]) (fun (x74:Int×Value×Unit)=>NewK (.cells #[.int .i64 0,.nilIface] 199) w (fun g75 w76=>StsK (ad g75) [.int .i64 x74.1,x74.2.1] w76 (fun w77=>DrewK w77 (fun w78=>HoldK (fun S79=>InK S79 ((ad g75).add 0) (LdK (.int .i64) ((ad g75).add 0) w78 (fun (x80:Int)=>InK S79 ((ad g75).add 1) (LdK .raw ((ad g75).add 1) w78 (fun (x81:Value)=>CallK Tryz.prog 131 #[.int .i64 x80] w78 (.v (.one .str)) (fun (x82:ByteArray) w83=>KeepK S79 w78 w83 (CallK Tryz.prog 97 #[x81] w83 (.v (.one .str)) (fun (x84:ByteArray) w85=>KeepK S79 w83 w85 (RunK Tryz.prog (Instr.buildSlice 27 2 #[(0,.string x82),(1,.string x84)]) w85 (.v (.one .slc)) (fun (x86:SlT) w87=>KeepK S79 w85 w87 (CallK Tryz.prog 129 #[.string (⟨#[119,104,101,110]⟩:ByteArray),.slice x86.1 x86.2.1 x86.2.2] w87 (.v (.one .str)) (fun (x88:ByteArray) w89=>KeepK S79 w87 w89 (K (.string x88) w89)))))))))))))))))
 (TaK p0 201 (.agg [.raw,.raw,.raw]) (fun (x90:Value×Value×Value×Unit)=>NewK (.cells #[.nilIface,.nilIface,.nilIface] 201) w (fun g91 w92=>StsK (ad g91) [x90.1,x90.2.1,x90.2.2.1] w92 (fun w93=>DrewK w93 (fun w94=>HoldK (fun S95=>InK S95 ((ad g91).add 0) (LdK .raw ((ad g91).add 0) w94 (fun (x96:Value)=>InK S95 ((ad g91).add 1) (LdK .raw ((ad g91).add 1) w94 (fun (x97:Value)=>InK S95 ((ad g91).add 2) (LdK .raw ((ad g91).add 2) w94 (fun (x98:Value)=>CallK Tryz.prog 130 #[x96] w94 (.v (.one .str)) (fun (x99:ByteArray) w100=>KeepK S95 w94 w100 (CallK Tryz.prog 97 #[x97] w100 (.v (.one .str)) (fun (x101:ByteArray) w102=>KeepK S95 w100 w102 (CallK Tryz.prog 97 #[x98] w102 (.v (.one .str)) (fun (x103:ByteArray) w104=>KeepK S95 w102 w104 (RunK Tryz.prog (Instr.buildSlice 27 3 #[(0,.string x99),(1,.string x101),(2,.string x103)]) w104 (.v (.one .slc)) (fun (x105:SlT) w106=>KeepK S95 w104 w106 (CallK Tryz.prog 129 #[.string (⟨#[105,102]⟩:ByteArray),.slice x105.1 x105.2.1 x105.2.2] w106 (.v (.one .str)) (fun (x107:ByteArray) w108=>KeepK S95 w106 w108 (K (.string x107) w108))))))))))))))))))))) False)))))))
def pl97:Plan:=(.seq .auto (.seq (.seq .auto (.block (.seq .auto (.cond .auto (.seq .auto (.cond .auto (.seq .auto (.cond .auto (.seq .auto (.cond (.seq .auto (.seq (.held (.soft 0 (.soft 1 (.soft 3 (.soft 4 (.pick 2 (.pick 5 (.pick 6 (.pick 7 (.soft 8 .done) .stop) .stop) .stop) .stop)))))) .auto)) (.seq .auto (.cond (.seq .auto (.seq (.held (.soft 0 (.soft 1 (.soft 2 (.soft 3 (.soft 5 (.soft 6 (.pick 4 (.pick 7 (.pick 8 (.pick 9 (.soft 10 .done) .stop) .stop) .stop) .stop)))))))) .auto)) (.seq .auto (.cond (.seq .auto (.seq (.held (.soft 0 (.soft 1 (.soft 3 (.soft 4 (.pick 2 (.pick 5 (.pick 6 (.pick 7 (.soft 8 .done) .stop) .stop) .stop) .stop)))))) .auto)) (.seq .auto (.cond (.seq .auto (.seq (.held (.soft 0 (.soft 1 (.soft 3 (.soft 4 (.pick 2 (.pick 5 (.pick 6 (.pick 7 (.soft 8 .done) .stop) .stop) .stop) .stop)))))) .auto)) .auto)))))))))))))))) (.seq .auto (.seq (.held (.soft 0 (.soft 1 (.soft 3 (.soft 4 (.soft 6 (.soft 7 (.pick 2 (.pick 5 (.pick 8 (.pick 9 (.pick 10 (.soft 11 .done) .stop) .stop) .stop) .stop) .stop)))))))) .auto))))
theorem c97 (p0:Value) (w:World) (K:Value→World→Prop) (h:C97 p0 w K):Ret Tryz.prog 97 #[p0] w K:=z0z (by kernel_rfl) Tryz.func97 (p:=pl97) (Eq.mpr (by kernel_rfl) h)
def C96 (p0:ByteArray) (w:World) (K:Value→World→Prop):Prop:=
 ifB (decide ((p0.size:Int) > 1000))
 (K (.tuple #[.string (⟨#[]⟩:ByteArray),.int .i64 5]) w)
 (K (.tuple #[.string p0,.int .i64 0]) w)
def pl96:Plan:=.auto
theorem c96 (p0:ByteArray) (w:World) (K:Value→World→Prop) (h:C96 p0 w K):Ret Tryz.prog 96 #[.string p0] w K:=z0z (by kernel_rfl) Tryz.func96 (p:=pl96) (Eq.mpr (by kernel_rfl) h)
def C64 (p0:Value) (w:World) (K:Value→World→Prop):Prop:=
 CallK Tryz.prog 95 #[p0] w (.v (.one (.int .i64))) (fun (x1:Int) w2=>ifB (x1 != 0)
 (K (.tuple #[.string (⟨#[]⟩:ByteArray),.int .i64 x1]) w2)
 (CallK Tryz.prog 97 #[p0] w2 (.v (.one .str)) (fun (x3:ByteArray) w4=>CallK Tryz.prog 96 #[.string x3] w4 (.tup [.one .str,.one (.int .i64)]) (fun (x5:ByteArray×Int×Unit) w6=>K (.tuple #[.string x5.1,.int .i64 x5.2.1]) w6))))
def pl64:Plan:=.auto
theorem c64 (p0:Value) (w:World) (K:Value→World→Prop) (h:C64 p0 w K):Ret Tryz.prog 64 #[p0] w K:=z0z (by kernel_rfl) Tryz.func64 (p:=pl64) (Eq.mpr (by kernel_rfl) h)
def callL (wd:List UInt8) (xs:List (List UInt8)):List UInt8:=wd++[40]++Lib.join xs [44]++[41]
def numO:Ob→List UInt8
 | .none=>[]
 | .const n=>Lib.itoa n
 | .fix s=>callL [102,105,120] [s]
 | .add l r=>callL [97,100,100] [numO l,numO r]
 | .neg o=>callL [110,101,103] [numO o]
 | .mul l r=>callL [109,117,108] [numO l,numO r]
 | .max l r=>callL [109,97,120] [numO l,numO r]
def conT:Tm→List UInt8
 | .none=>[]
 | .zero=>[122,101,114,111]
 | .one s=>callL [111,110,101] [s]
 | .give t=>callL [103,105,118,101] [conT t]
 | .and l r=>callL [97,110,100] [conT l,conT r]
 | .or s l r=>callL [111,114] [s,conT l,conT r]
 | .scale o t=>callL [115,99,97,108,101] [numO o,conT t]
 | .when d t=>callL [119,104,101,110] [Lib.itoa d,conT t]
 | .cond o l r=>callL [105,102] [numO o,conT l,conT r]
def writeT (t:Tm):List UInt8×Int:=if checkT t≠0 then ([],checkT t) else if 1000<(conT t).length then ([],5) else (conT t,0)
theorem join1 (a:List UInt8):Lib.join [a] [44]=a:=Lib.join_one _ _
theorem join2 (a b:List UInt8):Lib.join [a,b] [44]=a++([44]++b):=by rw [Lib.join_cons];simp [Lib.joinTail]
theorem join3 (a b c:List UInt8):Lib.join [a,b,c] [44]=a++([44]++b++([44]++c)):=by rw [Lib.join_cons];simp [Lib.joinTail]
theorem call1_len (wd a:List UInt8):(callL wd [a]).length=wd.length+a.length+2:=by unfold callL;rw [join1];simp;omega
theorem call2_len (wd a b:List UInt8):(callL wd [a,b]).length=wd.length+a.length+b.length+3:=by unfold callL;rw [join2];simp;omega
theorem call3_len (wd a b c:List UInt8):(callL wd [a,b,c]).length=wd.length+a.length+b.length+c.length+4:=by unfold callL;rw [join3];simp;omega
theorem decL_width4 (l:List UInt8):(decL l).2≤4:=by
 simp only [decL,Utf8.decode]
 repeat' split
 all_goals simp
theorem runes_bytes:∀ (n:Nat) (l:List UInt8),l.length≤n→l.length≤4 * (runesL l).length
 | 0,l,h=>by omega
 | n+1,l,h=>by
  by_cases hl:l=[]
  ·subst hl;simp
  ·rw [runesL_step l hl,List.length_cons]
   have h1:=z56z l
   have h4:=decL_width4 l
   have hd:(l.drop (decL l).2).length=l.length - (decL l).2:=List.length_drop
   have:=runes_bytes n (l.drop (decL l).2) (by omega)
   omega
theorem nameF_len:∀ (rs:List Int) (n:Nat),nameF n rs=true→rs=[]∨n+rs.length≤12
 | [],_,_=>.inl rfl
 | r::rs,n,h=>by
  unfold nameF at h
  split at h
  ·cases h
  split at h
  ·cases h
  split at h
  ·cases h
  rcases nameF_len rs (n+1) h with rfl | t
  ·simp;omega
  ·simp only [List.length_cons];omega
theorem nameL_len {s:List UInt8} (h:nameL s=true):s.length≤48:=by
 have hb:=runes_bytes s.length s (Nat.le_refl _)
 rcases nameF_len _ _ h with t | t
 ·rw [t,List.length_nil] at hb;omega
 ·omega
theorem decDigits_len:∀ (k u:Nat),u<10 ^ (k+1)→(Lib.decDigits u).length≤k+1
 | 0,u,h=>by rw [Lib.decDigits];rw [dif_pos (by omega)];simp
 | k+1,u,h=>by
  rw [Lib.decDigits]
  split
  ·simp
  ·rw [List.length_append]
   have:=decDigits_len k (u / 10) (by rw [Nat.pow_succ] at h;omega)
   simp;omega
theorem itoa_len {n:Int} (h0:-1000000000000≤n) (h1:n≤1000000000000):(Lib.itoa n).length≤14:=by
 unfold Lib.itoa
 split
 ·have:=decDigits_len 12 n.natAbs (by omega)
  simp;omega
 ·have:=decDigits_len 12 n.toNat (by omega)
  omega
theorem validF_iff {n:Int} (h:validF n=true):-1000000000000≤n∧n≤1000000000000:=by
 unfold validF at h
 simp only [Bool.and_eq_true,decide_eq_true_eq] at h
 exact h
theorem numO_len (o:Ob) (h:formO o=true):(numO o).length≤100 * nodesO o:=by
 induction o with
 | none=>cases h
 | const n=>have:=validF_iff h;have:=itoa_len this.1 this.2;unfold numO nodesO;omega
 | fix s=>have:=nameL_len h;unfold numO nodesO;rw [call1_len];simp;omega
 | neg o ih=>have:=ih h;unfold numO nodesO;rw [call1_len];simp;omega
 | add l r a b=>simp only [formO,Bool.and_eq_true] at h;have:=a h.1;have:=b h.2;unfold numO nodesO;rw [call2_len];simp;omega
 | mul l r a b=>simp only [formO,Bool.and_eq_true] at h;have:=a h.1;have:=b h.2;unfold numO nodesO;rw [call2_len];simp;omega
 | max l r a b=>simp only [formO,Bool.and_eq_true] at h;have:=a h.1;have:=b h.2;unfold numO nodesO;rw [call2_len];simp;omega
theorem conT_len (t:Tm) (h:formT t=true):(conT t).length≤100 * nodesT t:=by
 induction t with
 | none=>cases h
 | zero=>decide
 | one s=>have:=nameL_len h;unfold conT nodesT;rw [call1_len];simp;omega
 | give t ih=>have:=ih h;unfold conT nodesT;rw [call1_len];simp;omega
 | and l r a b=>simp only [formT,Bool.and_eq_true] at h;have:=a h.1;have:=b h.2;unfold conT nodesT;rw [call2_len];simp;omega
 | or s l r a b=>simp only [formT,Bool.and_eq_true] at h;have:=nameL_len h.1;have:=a h.2.1;have:=b h.2.2;unfold conT nodesT;rw [call3_len];simp;omega
 | scale o t ih=>simp only [formT,Bool.and_eq_true] at h;have:=numO_len o h.1;have:=ih h.2;unfold conT nodesT;rw [call2_len];simp;omega
 | when d t ih=>simp only [formT,Bool.and_eq_true,decide_eq_true_eq] at h;have:=itoa_len (n:=d) (by omega) (by omega);have:=ih h.2;unfold conT nodesT;rw [call2_len];simp;omega
 | cond o l r a b=>simp only [formT,Bool.and_eq_true] at h;have:=numO_len o h.1;have:=a h.2.1;have:=b h.2.2;unfold conT nodesT;rw [call3_len];simp;omega
def TabW (w : World) : Prop := Lib.TabIs Tryz.prog w "internal/strconv.uint64pow10" .u64 Lib.pow10Tab
theorem TabW.keep0 {w w':World} (h:TabW w) (f:Fr none1 w w'):TabW w':=by
 unfold TabW Lib.TabIs World.var? at h ⊢
 cases hg : Tryz.prog.globalNamed "internal/strconv.uint64pow10" with
 | none=>rw [hg] at h;cases h
 | some g=>
  rw [hg] at h
  simp only [Option.bind_some] at h ⊢
  split at h
  case h_1 cs T fr hb=>rw [f.keep0 hb];exact h
  case h_2=>cases h
theorem grow_fr (w:World) (k:Nat) (os:Array Obj):Fr none1 w (Go.Sort.grow (w.drewN k) os):=by
 refine ⟨rfl,rfl,rfl,?_,fun i hi _=>?_⟩
 ·show w.heap.size≤(w.heap++os).size
  rw [Array.size_append];omega
 ·show (w.heap++os)[i]? = _
  rw [Array.getElem?_append_left hi]
theorem itoa_spec (n:Int) (h0:-9223372036854775808≤n) (h1:n≤9223372036854775807) (w:World) (ht:TabW w):Ret Tryz.prog 131 #[.int .i64 n] w fun r w'=>r=.string (str (Lib.itoa n))∧Fr none1 w w':=by
 refine (Tryz.strconv_Itoa n h0 h1 w ht).mono ?_
 rintro e w' ⟨rfl,k,os,rfl⟩
 exact ⟨_,rfl,rfl,grow_fr w k os⟩
theorem below_fr {w w':World} (h:Go.RowKit.Below w.heap.size w w'):Fr none1 w w':=by
 obtain ⟨a,b,c,d,e⟩:=h
 exact ⟨a,b,c,d,fun k hk _=>e k hk⟩
theorem z25z {w:World} {v:Sl} {xs:List (List UInt8)} (h:IsSs w v xs) (hne:xs≠[]) (wd:List UInt8) (hl:(callL wd xs).length≤10000000) :
  Ret Tryz.prog 129 #[.string (str wd),.slice v.1 v.2.1 v.2.2] w fun r w'=>r=.string (str (callL wd xs))∧Fr none1 w w':=by
 refine c129 (str wd) v.1 v.2.1 v.2.2 w _ ?_
 have hvl:=h.len
 have hj:(callL wd xs).length=wd.length+1+(Lib.join xs [44]).length+1:=by unfold callL;simp;omega
 rcases h with ⟨rfl,hnil⟩ | ⟨g,off,cs,hv,hb,hle,hcp,hn,he⟩
 ·rw [List.map_eq_nil_iff] at hnil
  exact absurd hnil hne
 rw [Nat.mul_one] at hcp
 rw [List.length_map] at hn
 have hbt:(xs.map str).map (fun x:ByteArray=>x.data.toList)=xs:=by
  rw [List.map_map]
  conv=>rhs;rw [← List.map_id xs]
  exact List.map_congr_left fun x _=>z5z x
 have hlj:xs.length≤(Lib.join xs [44]).length+1:=by
  have h2:∀ l:List (List UInt8),l≠[]→l.length≤(Lib.join l [44]).length+1:=by
   intro l hl
   cases l with
   | nil=>exact absurd rfl hl
   | cons x r=>rw [Lib.join_cons,List.length_append,Lib.joinTail_length];simp;omega
  exact h2 xs hne
 have hJ:=Tryz.strings_Join g off v.2.2 (xs.map str) (⟨#[44]⟩:ByteArray) w (fun j x hx=>by
   rw [z27z hb]
   rw [List.getElem?_map] at hx
   obtain ⟨y,hy,rfl⟩:=Option.map_eq_some_iff.1 hx
   have hj:=(List.getElem?_eq_some_iff.1 hy).1
   rw [he j (by rw [List.length_map];exact hj),List.getElem?_map,hy]
   rfl) (z3z hb) (by rw [List.length_map];omega) (by rw [List.length_map];omega) (by rw [hbt];show (Lib.join xs [44]).length≤_;omega)
 rw [hbt,List.length_map] at hJ
 rw [hv]
 have sz:(str wd).size=wd.length:=z1z wd
 have e40:(⟨#[40]⟩:ByteArray)=str [40]:=rfl
 have e41:(⟨#[41]⟩:ByteArray)=str [41]:=rfl
 unfold C129
 rw [e40,e41]
 have im:IntKind.i64.max=9223372036854775807:=rfl
 refine ⟨by rw [sz,z1z,im];simp;omega,?_⟩
 rw [hvl]
 refine CallK.of (R:=fun r w'=>r=.string (str (Lib.join xs [44]))∧Fr none1 w w') (hJ.mono ?_) ?_
 ·rintro e w' ⟨rfl,hB⟩
  exact ⟨_,rfl,rfl,below_fr hB⟩
 rintro _ w1 ⟨rfl,f1⟩
 refine ⟨_,rfl,?_⟩
 rw [str_app]
 refine ⟨by rw [z1z,z1z,im];simp;omega,?_⟩
 rw [str_app]
 refine ⟨by rw [z1z,z1z,im];simp;omega,?_⟩
 rw [str_app]
 exact ⟨rfl,f1⟩
theorem z23z {w:World} (xs:List (List UInt8)) (hl:xs.length≤100) {K:Option Addr×Nat×Nat→World→Prop} (k:∀ (u:Sl) w',IsSs w' u xs→Fr none1 w w'→K u w') :
  RunK Tryz.prog (Instr.buildSlice 27 xs.length (((xs.map sv).zipIdx.map fun (v,i)=>(i,v)).toArray)) w (.v (.one .slc)) (fun (x:Option Addr×Nat×Nat) w1=>K x w1):=by
 obtain ⟨x,w1,hr,hx,hxl,f1,hf⟩:=lit_ok (P:=Tryz.prog) (w:=w) elem_str (xs.map sv) (by intro v hv;obtain ⟨x,_,rfl⟩:=List.mem_map.1 hv;rfl) (by rw [List.length_map];omega)
 rw [List.length_map] at hr
 exact ⟨x,w1,hr,k x w1 hx f1⟩
theorem z15z (o:Ob) (hf:formO o=true) (hn:nodesO o≤10000) (w:World) (ht:TabW w):Ret Tryz.prog 130 #[o.v] w fun r w'=>r=.string (str (numO o))∧Fr none1 w w':=by
 refine c130 o.v w _ ?_
 unfold C130
 have hL:=numO_len o hf
 cases o with
 | none=>cases hf
 | const n=>
  have hv:=validF_iff hf
  refine TaK.hit (n,()) rfl (ns_ok (zs:=[.int .i64 0]) (vs:=[.int .i64 n]) rfl rfl fun g w1 _ hb f1=>LdK.fld hb (x:=n) rfl ?_)
  refine CallK.of (itoa_spec n (by omega) (by omega) w1 (ht.keep0 f1)) ?_
  rintro _ w2 ⟨rfl,f2⟩
  exact ⟨_,rfl,rfl,f1.trans f2⟩
 | fix s=>
  refine TaK.miss rfl (by decide) (TaK.hit (str s,()) rfl (ns_ok (zs:=[.string (⟨#[]⟩:ByteArray)]) (vs:=[.string (str s)]) rfl rfl fun g w1 _ hb f1=>LdK.fld hb (x:=str s) rfl ?_))
  refine z23z (w:=w1) [s] (by simp) fun u w2 hu f2=>?_
  refine CallK.of (z25z hu (by simp) [102,105,120] (by unfold numO nodesO at hL;omega)) ?_
  rintro _ w3 ⟨rfl,f3⟩
  exact ⟨_,rfl,rfl,(f1.trans f2).trans f3⟩
 | neg x=>
  have hnx:nodesO x≤10000:=by unfold nodesO at hn;omega
  refine TaK.miss rfl (by decide) (TaK.miss rfl (by decide) (TaK.miss rfl (by decide) (TaK.hit (x.v,()) rfl (ns_ok (zs:=[.nilIface]) (vs:=[x.v]) rfl (by simp [Ob.v_one]) fun g w1 _ hb f1=>LdK.fld (c:=.raw) hb (x:=x.v) rfl ?_))))
  refine CallK.of (z15z x hf hnx w1 (ht.keep0 f1)) ?_
  rintro _ w2 ⟨rfl,f2⟩
  refine ⟨_,rfl,?_⟩
  refine z23z (w:=w2) [numO x] (by simp) fun u w3 hu f3=>?_
  refine CallK.of (z25z hu (by simp) [110,101,103] (by unfold numO nodesO at hL;omega)) ?_
  rintro _ w4 ⟨rfl,f4⟩
  exact ⟨_,rfl,rfl,((f1.trans f2).trans f3).trans f4⟩
 | add l r=>
  simp only [formO,Bool.and_eq_true] at hf
  have hnl:nodesO l≤10000:=by unfold nodesO at hn;omega
  have hnr:nodesO r≤10000:=by unfold nodesO at hn;omega
  refine TaK.miss rfl (by decide) (TaK.miss rfl (by decide) (TaK.hit (l.v,r.v,()) rfl (ns_ok (zs:=[.nilIface,.nilIface]) (vs:=[l.v,r.v]) rfl (by simp [Ob.v_one]) fun g w1 _ hb f1=>?_)))
  refine DrewK.of fun w2 _ f2=>HoldK.all ?_
  have hb2:=f2.keep0 hb
  refine InK.all (LdK.fld (c:=.raw) hb2 (x:=l.v) rfl (InK.all (LdK.fld (c:=.raw) hb2 (x:=r.v) rfl ?_)))
  refine CallK.of (z15z l hf.1 hnl w2 ((ht.keep0 f1).keep0 f2)) ?_
  rintro _ w3 ⟨rfl,f3⟩
  refine ⟨_,rfl,KeepK.of f3 ?_⟩
  refine CallK.of (z15z r hf.2 hnr w3 (((ht.keep0 f1).keep0 f2).keep0 f3)) ?_
  rintro _ w4 ⟨rfl,f4⟩
  refine ⟨_,rfl,KeepK.of f4 ?_⟩
  refine z23z (w:=w4) [numO l,numO r] (by simp) fun u w5 hu f5=>KeepK.of f5 ?_
  refine CallK.of (z25z hu (by simp) [97,100,100] (by unfold numO nodesO at hL;omega)) ?_
  rintro _ w6 ⟨rfl,f6⟩
  exact ⟨_,rfl,KeepK.of f6 ⟨rfl,(f1.trans f2).trans (((f3.trans f4).trans f5).trans f6)⟩⟩
 | mul l r=>
  simp only [formO,Bool.and_eq_true] at hf
  have hnl:nodesO l≤10000:=by unfold nodesO at hn;omega
  have hnr:nodesO r≤10000:=by unfold nodesO at hn;omega
  refine TaK.miss rfl (by decide) (TaK.miss rfl (by decide) (TaK.miss rfl (by decide) (TaK.miss rfl (by decide) (TaK.hit (l.v,r.v,()) rfl (ns_ok (zs:=[.nilIface,.nilIface]) (vs:=[l.v,r.v]) rfl (by simp [Ob.v_one]) fun g w1 _ hb f1=>?_)))))
  refine DrewK.of fun w2 _ f2=>HoldK.all ?_
  have hb2:=f2.keep0 hb
  refine InK.all (LdK.fld (c:=.raw) hb2 (x:=l.v) rfl (InK.all (LdK.fld (c:=.raw) hb2 (x:=r.v) rfl ?_)))
  refine CallK.of (z15z l hf.1 hnl w2 ((ht.keep0 f1).keep0 f2)) ?_
  rintro _ w3 ⟨rfl,f3⟩
  refine ⟨_,rfl,KeepK.of f3 ?_⟩
  refine CallK.of (z15z r hf.2 hnr w3 (((ht.keep0 f1).keep0 f2).keep0 f3)) ?_
  rintro _ w4 ⟨rfl,f4⟩
  refine ⟨_,rfl,KeepK.of f4 ?_⟩
  refine z23z (w:=w4) [numO l,numO r] (by simp) fun u w5 hu f5=>KeepK.of f5 ?_
  refine CallK.of (z25z hu (by simp) [109,117,108] (by unfold numO nodesO at hL;omega)) ?_
  rintro _ w6 ⟨rfl,f6⟩
  exact ⟨_,rfl,KeepK.of f6 ⟨rfl,(f1.trans f2).trans (((f3.trans f4).trans f5).trans f6)⟩⟩
 | max l r=>
  simp only [formO,Bool.and_eq_true] at hf
  have hnl:nodesO l≤10000:=by unfold nodesO at hn;omega
  have hnr:nodesO r≤10000:=by unfold nodesO at hn;omega
  refine TaK.miss rfl (by decide) (TaK.miss rfl (by decide) (TaK.miss rfl (by decide) (TaK.miss rfl (by decide) (TaK.miss rfl (by decide) (TaK.hit (l.v,r.v,()) rfl (ns_ok (zs:=[.nilIface,.nilIface]) (vs:=[l.v,r.v]) rfl (by simp [Ob.v_one]) fun g w1 _ hb f1=>?_))))))
  refine DrewK.of fun w2 _ f2=>HoldK.all ?_
  have hb2:=f2.keep0 hb
  refine InK.all (LdK.fld (c:=.raw) hb2 (x:=l.v) rfl (InK.all (LdK.fld (c:=.raw) hb2 (x:=r.v) rfl ?_)))
  refine CallK.of (z15z l hf.1 hnl w2 ((ht.keep0 f1).keep0 f2)) ?_
  rintro _ w3 ⟨rfl,f3⟩
  refine ⟨_,rfl,KeepK.of f3 ?_⟩
  refine CallK.of (z15z r hf.2 hnr w3 (((ht.keep0 f1).keep0 f2).keep0 f3)) ?_
  rintro _ w4 ⟨rfl,f4⟩
  refine ⟨_,rfl,KeepK.of f4 ?_⟩
  refine z23z (w:=w4) [numO l,numO r] (by simp) fun u w5 hu f5=>KeepK.of f5 ?_
  refine CallK.of (z25z hu (by simp) [109,97,120] (by unfold numO nodesO at hL;omega)) ?_
  rintro _ w6 ⟨rfl,f6⟩
  exact ⟨_,rfl,KeepK.of f6 ⟨rfl,(f1.trans f2).trans (((f3.trans f4).trans f5).trans f6)⟩⟩
theorem z4z (t:Tm) (hf:formT t=true) (hn:nodesT t≤10000) (w:World) (ht:TabW w):Ret Tryz.prog 97 #[t.v] w fun r w'=>r=.string (str (conT t))∧Fr none1 w w':=by
 refine c97 t.v w _ ?_
 unfold C97
 have hL:=conT_len t hf
 cases t with
 | none=>cases hf
 | zero=>exact TaK.hit () rfl (ns_ok (zs:=[]) (vs:=[]) rfl rfl fun g w1 _ hb f1=>⟨rfl,f1⟩)
 | one s=>
  refine TaK.miss rfl (by decide) (TaK.hit (str s,()) rfl (ns_ok (zs:=[.string (⟨#[]⟩:ByteArray)]) (vs:=[.string (str s)]) rfl rfl fun g w1 _ hb f1=>LdK.fld hb (x:=str s) rfl ?_))
  refine z23z (w:=w1) [s] (by simp) fun u w2 hu f2=>?_
  refine CallK.of (z25z hu (by simp) [111,110,101] (by unfold conT nodesT at hL;omega)) ?_
  rintro _ w3 ⟨rfl,f3⟩
  exact ⟨_,rfl,rfl,(f1.trans f2).trans f3⟩
 | give x=>
  have hnx:nodesT x≤10000:=by unfold nodesT at hn;omega
  refine TaK.miss rfl (by decide) (TaK.miss rfl (by decide) (TaK.hit (x.v,()) rfl (ns_ok (zs:=[.nilIface]) (vs:=[x.v]) rfl (by simp [Tm.v_one]) fun g w1 _ hb f1=>LdK.fld (c:=.raw) hb (x:=x.v) rfl ?_)))
  refine CallK.of (z4z x hf hnx w1 (ht.keep0 f1)) ?_
  rintro _ w2 ⟨rfl,f2⟩
  refine ⟨_,rfl,?_⟩
  refine z23z (w:=w2) [conT x] (by simp) fun u w3 hu f3=>?_
  refine CallK.of (z25z hu (by simp) [103,105,118,101] (by unfold conT nodesT at hL;omega)) ?_
  rintro _ w4 ⟨rfl,f4⟩
  exact ⟨_,rfl,rfl,((f1.trans f2).trans f3).trans f4⟩
 | and l r=>
  simp only [formT,Bool.and_eq_true] at hf
  have hnl:nodesT l≤10000:=by unfold nodesT at hn;omega
  have hnr:nodesT r≤10000:=by unfold nodesT at hn;omega
  refine TaK.miss rfl (by decide) (TaK.miss rfl (by decide) (TaK.miss rfl (by decide) (TaK.hit (l.v,r.v,()) rfl (ns_ok (zs:=[.nilIface,.nilIface]) (vs:=[l.v,r.v]) rfl (by simp [Tm.v_one]) fun g w1 _ hb f1=>?_))))
  refine DrewK.of fun w2 _ f2=>HoldK.all ?_
  have hb2:=f2.keep0 hb
  refine InK.all (LdK.fld (c:=.raw) hb2 (x:=l.v) rfl (InK.all (LdK.fld (c:=.raw) hb2 (x:=r.v) rfl ?_)))
  refine CallK.of (z4z l hf.1 hnl w2 ((ht.keep0 f1).keep0 f2)) ?_
  rintro _ w3 ⟨rfl,f3⟩
  refine ⟨_,rfl,KeepK.of f3 ?_⟩
  refine CallK.of (z4z r hf.2 hnr w3 (((ht.keep0 f1).keep0 f2).keep0 f3)) ?_
  rintro _ w4 ⟨rfl,f4⟩
  refine ⟨_,rfl,KeepK.of f4 ?_⟩
  refine z23z (w:=w4) [conT l,conT r] (by simp) fun u w5 hu f5=>KeepK.of f5 ?_
  refine CallK.of (z25z hu (by simp) [97,110,100] (by unfold conT nodesT at hL;omega)) ?_
  rintro _ w6 ⟨rfl,f6⟩
  exact ⟨_,rfl,KeepK.of f6 ⟨rfl,(f1.trans f2).trans (((f3.trans f4).trans f5).trans f6)⟩⟩
 | or s l r=>
  simp only [formT,Bool.and_eq_true] at hf
  have hnl:nodesT l≤10000:=by unfold nodesT at hn;omega
  have hnr:nodesT r≤10000:=by unfold nodesT at hn;omega
  refine TaK.miss rfl (by decide) (TaK.miss rfl (by decide) (TaK.miss rfl (by decide) (TaK.miss rfl (by decide) (TaK.hit (str s,l.v,r.v,()) rfl (ns_ok (zs:=[.string (⟨#[]⟩:ByteArray),.nilIface,.nilIface]) (vs:=[.string (str s),l.v,r.v]) rfl (by simp [Tm.v_one,one1_str]) fun g w1 _ hb f1=>?_)))))
  refine DrewK.of fun w2 _ f2=>HoldK.all ?_
  have hb2:=f2.keep0 hb
  refine InK.all (LdK.fld hb2 (x:=str s) rfl (InK.all (LdK.fld (c:=.raw) hb2 (x:=l.v) rfl (InK.all (LdK.fld (c:=.raw) hb2 (x:=r.v) rfl ?_)))))
  refine CallK.of (z4z l hf.2.1 hnl w2 ((ht.keep0 f1).keep0 f2)) ?_
  rintro _ w3 ⟨rfl,f3⟩
  refine ⟨_,rfl,KeepK.of f3 ?_⟩
  refine CallK.of (z4z r hf.2.2 hnr w3 (((ht.keep0 f1).keep0 f2).keep0 f3)) ?_
  rintro _ w4 ⟨rfl,f4⟩
  refine ⟨_,rfl,KeepK.of f4 ?_⟩
  refine z23z (w:=w4) [s,conT l,conT r] (by simp) fun u w5 hu f5=>KeepK.of f5 ?_
  refine CallK.of (z25z hu (by simp) [111,114] (by unfold conT nodesT at hL;omega)) ?_
  rintro _ w6 ⟨rfl,f6⟩
  exact ⟨_,rfl,KeepK.of f6 ⟨rfl,(f1.trans f2).trans (((f3.trans f4).trans f5).trans f6)⟩⟩
 | scale o x=>
  simp only [formT,Bool.and_eq_true] at hf
  have hno:nodesO o≤10000:=by unfold nodesT at hn;omega
  have hnx:nodesT x≤10000:=by unfold nodesT at hn;omega
  refine TaK.miss rfl (by decide) (TaK.miss rfl (by decide) (TaK.miss rfl (by decide) (TaK.miss rfl (by decide) (TaK.miss rfl (by decide) (TaK.hit (o.v,x.v,()) rfl (ns_ok (zs:=[.nilIface,.nilIface]) (vs:=[o.v,x.v]) rfl (by simp [Tm.v_one,Ob.v_one]) fun g w1 _ hb f1=>?_))))))
  refine DrewK.of fun w2 _ f2=>HoldK.all ?_
  have hb2:=f2.keep0 hb
  refine InK.all (LdK.fld (c:=.raw) hb2 (x:=o.v) rfl (InK.all (LdK.fld (c:=.raw) hb2 (x:=x.v) rfl ?_)))
  refine CallK.of (z15z o hf.1 hno w2 ((ht.keep0 f1).keep0 f2)) ?_
  rintro _ w3 ⟨rfl,f3⟩
  refine ⟨_,rfl,KeepK.of f3 ?_⟩
  refine CallK.of (z4z x hf.2 hnx w3 (((ht.keep0 f1).keep0 f2).keep0 f3)) ?_
  rintro _ w4 ⟨rfl,f4⟩
  refine ⟨_,rfl,KeepK.of f4 ?_⟩
  refine z23z (w:=w4) [numO o,conT x] (by simp) fun u w5 hu f5=>KeepK.of f5 ?_
  refine CallK.of (z25z hu (by simp) [115,99,97,108,101] (by unfold conT nodesT at hL;omega)) ?_
  rintro _ w6 ⟨rfl,f6⟩
  exact ⟨_,rfl,KeepK.of f6 ⟨rfl,(f1.trans f2).trans (((f3.trans f4).trans f5).trans f6)⟩⟩
 | when d x=>
  simp only [formT,Bool.and_eq_true,decide_eq_true_eq] at hf
  have hnx:nodesT x≤10000:=by unfold nodesT at hn;omega
  refine TaK.miss rfl (by decide) (TaK.miss rfl (by decide) (TaK.miss rfl (by decide) (TaK.miss rfl (by decide) (TaK.miss rfl (by decide) (TaK.miss rfl (by decide) (TaK.hit (d,x.v,()) rfl (ns_ok (zs:=[.int .i64 0,.nilIface]) (vs:=[.int .i64 d,x.v]) rfl (by simp [Tm.v_one,one1_int]) fun g w1 _ hb f1=>?_)))))))
  refine DrewK.of fun w2 _ f2=>HoldK.all ?_
  have hb2:=f2.keep0 hb
  refine InK.all (LdK.fld hb2 (x:=d) rfl (InK.all (LdK.fld (c:=.raw) hb2 (x:=x.v) rfl ?_)))
  refine CallK.of (itoa_spec d (by omega) (by omega) w2 ((ht.keep0 f1).keep0 f2)) ?_
  rintro _ w3 ⟨rfl,f3⟩
  refine ⟨_,rfl,KeepK.of f3 ?_⟩
  refine CallK.of (z4z x hf.2 hnx w3 (((ht.keep0 f1).keep0 f2).keep0 f3)) ?_
  rintro _ w4 ⟨rfl,f4⟩
  refine ⟨_,rfl,KeepK.of f4 ?_⟩
  refine z23z (w:=w4) [Lib.itoa d,conT x] (by simp) fun u w5 hu f5=>KeepK.of f5 ?_
  refine CallK.of (z25z hu (by simp) [119,104,101,110] (by unfold conT nodesT at hL;omega)) ?_
  rintro _ w6 ⟨rfl,f6⟩
  exact ⟨_,rfl,KeepK.of f6 ⟨rfl,(f1.trans f2).trans (((f3.trans f4).trans f5).trans f6)⟩⟩
 | cond o l r=>
  simp only [formT,Bool.and_eq_true] at hf
  have hno:nodesO o≤10000:=by unfold nodesT at hn;omega
  have hnl:nodesT l≤10000:=by unfold nodesT at hn;omega
  have hnr:nodesT r≤10000:=by unfold nodesT at hn;omega
  refine TaK.miss rfl (by decide) (TaK.miss rfl (by decide) (TaK.miss rfl (by decide) (TaK.miss rfl (by decide) (TaK.miss rfl (by decide) (TaK.miss rfl (by decide) (TaK.miss rfl (by decide) (TaK.hit (o.v,l.v,r.v,()) rfl (ns_ok (zs:=[.nilIface,.nilIface,.nilIface]) (vs:=[o.v,l.v,r.v]) rfl (by simp [Tm.v_one,Ob.v_one]) fun g w1 _ hb f1=>?_))))))))
  refine DrewK.of fun w2 _ f2=>HoldK.all ?_
  have hb2:=f2.keep0 hb
  refine InK.all (LdK.fld (c:=.raw) hb2 (x:=o.v) rfl (InK.all (LdK.fld (c:=.raw) hb2 (x:=l.v) rfl (InK.all (LdK.fld (c:=.raw) hb2 (x:=r.v) rfl ?_)))))
  refine CallK.of (z15z o hf.1 hno w2 ((ht.keep0 f1).keep0 f2)) ?_
  rintro _ w3 ⟨rfl,f3⟩
  refine ⟨_,rfl,KeepK.of f3 ?_⟩
  refine CallK.of (z4z l hf.2.1 hnl w3 (((ht.keep0 f1).keep0 f2).keep0 f3)) ?_
  rintro _ w4 ⟨rfl,f4⟩
  refine ⟨_,rfl,KeepK.of f4 ?_⟩
  refine CallK.of (z4z r hf.2.2 hnr w4 ((((ht.keep0 f1).keep0 f2).keep0 f3).keep0 f4)) ?_
  rintro _ w5 ⟨rfl,f5⟩
  refine ⟨_,rfl,KeepK.of f5 ?_⟩
  refine z23z (w:=w5) [numO o,conT l,conT r] (by simp) fun u w6 hu f6=>KeepK.of f6 ?_
  refine CallK.of (z25z hu (by simp) [105,102] (by unfold conT nodesT at hL;omega)) ?_
  rintro _ w7 ⟨rfl,f7⟩
  exact ⟨_,rfl,KeepK.of f7 ⟨rfl,(f1.trans f2).trans ((((f3.trans f4).trans f5).trans f6).trans f7)⟩⟩
theorem told_spec (s:List UInt8) (w:World):Ret Tryz.prog 96 #[.string (str s)] w fun r w'=>r=.tuple #[.string (str (if 1000<s.length then [] else s)),.int .i64 (if 1000<s.length then 5 else 0)]∧w=w':=by
 refine c96 (str s) w _ ?_
 unfold C96
 rw [z1z]
 refine ifB.dec (fun h=>?_) (fun h=>?_)
 ·rw [if_pos (by omega),if_pos (by omega)];exact ⟨rfl,rfl⟩
 ·rw [if_neg (by omega),if_neg (by omega)];exact ⟨rfl,rfl⟩
theorem checkT_form {t:Tm} (h:checkT t=0):formT t=true∧nodesT t≤60∧depthT t≤12:=by
 unfold checkT at h
 repeat' split at h
 all_goals first | (exact absurd h (by decide)) | skip
 rename_i h1 h2 h3 _
 exact ⟨by simpa using h1,by omega,by omega⟩
theorem wterm_spec (t:Tm) (hn:nodesT t≤1000000) (w:World) (ht:TabW w):Ret Tryz.prog 64 #[t.v] w fun r w'=>r=.tuple #[.string (str (writeT t).1),.int .i64 (writeT t).2]∧Fr none1 w w':=by
 refine c64 t.v w _ ?_
 refine CallK.of (tcheck_spec t hn w) ?_
 rintro _ w1 ⟨rfl,f1⟩
 unfold writeT
 refine ⟨_,rfl,ifB.ne (fun h=>?_) (fun h=>?_)⟩
 ·rw [if_pos h];exact ⟨rfl,f1⟩
 rw [if_neg (fun t=>t h)]
 have hc:=checkT_form h
 refine CallK.of (z4z t hc.1 (by omega) w1 (ht.keep0 f1)) ?_
 rintro _ w2 ⟨rfl,f2⟩
 refine ⟨_,rfl,?_⟩
 have htd:=told_spec (conT t) w2
 by_cases hl:1000<(conT t).length
 ·rw [if_pos hl,if_pos hl] at htd
  rw [if_pos hl]
  refine CallK.of htd ?_
  rintro _ _ ⟨rfl,rfl⟩
  exact ⟨(str [],5,()),rfl,rfl,f1.trans f2⟩
 ·rw [if_neg hl,if_neg hl] at htd
  rw [if_neg hl]
  refine CallK.of htd ?_
  rintro _ _ ⟨rfl,rfl⟩
  exact ⟨(str (conT t),0,()),rfl,rfl,f1.trans f2⟩
def kd (r:Int):Int:=if isLet r then 97 else if r=45 then 97 else if r=40 then 40 else if r=41 then 40 else if r=44 then 40 else if r=32 then 32 else 0
theorem kind_spec (r:Int) (w:World):Ret Tryz.prog 209 #[.int .i32 r] w fun v w'=>v=.int .u8 (kd r)∧w=w':=by
 refine c209 r w _ ?_
 refine CallK.of (letter_spec r w) ?_
 rintro _ _ ⟨rfl,rfl⟩
 refine ⟨_,rfl,?_⟩
 unfold kd
 refine ifB.by (fun h1=>?_) (fun h1=>?_)
 ·rw [if_pos h1];exact ⟨rfl,rfl⟩
 rw [if_neg (by simp [h1])]
 refine ifB.eq (fun h=>?_) (fun h=>?_)
 ·rw [if_pos h];exact ⟨rfl,rfl⟩
 rw [if_neg h]
 refine ifB.eq (fun h=>?_) (fun h=>?_)
 ·rw [if_pos h];exact ⟨rfl,rfl⟩
 rw [if_neg h]
 refine ifB.eq (fun h=>?_) (fun h=>?_)
 ·rw [if_pos h];exact ⟨rfl,rfl⟩
 rw [if_neg h]
 refine ifB.eq (fun h=>?_) (fun h=>?_)
 ·rw [if_pos h];exact ⟨rfl,rfl⟩
 rw [if_neg h]
 refine ifB.eq (fun h=>?_) (fun h=>?_)
 ·rw [if_pos h];exact ⟨rfl,rfl⟩
 rw [if_neg h];exact ⟨rfl,rfl⟩
abbrev SignV:=List UInt8×Int
def signCells (l:List SignV):List Value:=l.flatMap fun x=>[.string (str x.1),.int .i64 x.2]
theorem z14z (l:List SignV):(signCells l).length=l.length * 2:=by
 induction l with
 | nil=>rfl
 | cons x l ih=>unfold signCells at *;rw [List.flatMap_cons,List.length_append,ih];simp;omega
theorem z54z (a b:List SignV):signCells (a++b)=signCells a++signCells b:=by unfold signCells;rw [List.flatMap_append]
theorem signCells_at:∀ (l:List SignV) (i:Nat) (x:SignV),l[i]? = some x→(signCells l)[i * 2]? = some (.string (str x.1))∧(signCells l)[i * 2+1]? = some (.int .i64 x.2)
 | [],i,x,h=>by simp at h
 | y::l,0,x,h=>by
  simp at h;subst h
  exact ⟨rfl,rfl⟩
 | y::l,i+1,x,h=>by
  have:=signCells_at l i x (by simpa using h)
  rw [show (i+1) * 2=i * 2+2 by omega,show i * 2+2+1=i * 2+1+2 by omega]
  exact this
theorem elem_sign:ElemOk Tryz.prog 301 332 2 (.agg #[.string ByteArray.empty,.int .i64 0]) 24:=⟨Tryz.underlying301,⟨Tryz.t332,by kernel_rfl,rfl,rfl,rfl⟩,rfl,by decide⟩
structure IsSg (w:World) (v:Sl) (l:List SignV):Prop where
 sl:IsSl w 332 2 v (signCells l)
 len:v.2.1=l.length
theorem IsSg.keep {w w':World} {v:Sl} {l:List SignV} (h:IsSg w v l) {S:Nat→Prop} (f:Fr S w w') (hn:∀ k,blkOf v k→¬ S k):IsSg w' v l:=⟨h.sl.keep f hn,h.len⟩
theorem none_sg (w:World):IsSg w (none,0,0) []:=⟨.inl ⟨rfl,rfl⟩,rfl⟩
theorem sg_snoc {w:World} {v:Sl} {l:List SignV} (h:IsSg w v l) (x:List UInt8) (at_:Int) (hl:l.length≤10000000) {K:Sl→World→Prop}
  (hK:∀ y w',IsSg w' y (l++[(x,at_)])→Fr (blkOf v) w w'→(∀ k,blkOf y k→blkOf v k∨w.heap.size≤k)→K y w') :
  RunK Tryz.prog (Instr.buildSlice 301 1 #[(0,.agg #[.string (str x),.int .i64 at_])]) w (.v (.one .slc)) fun (y:Option Addr×Nat×Nat) w'=>
   RunK Tryz.prog (Builtin.append_ #[301,301] 301 #[.slice v.1 v.2.1 v.2.2,.slice y.1 y.2.1 y.2.2]) w' (.v (.one .slc)) fun (u:Option Addr×Nat×Nat) w''=>K u w'':=by
 obtain ⟨y,w1,r1,hy,hyl,f1,yf⟩:=z55z (w:=w) elem_sign 1 #[(0,.agg #[.string (str x),.int .i64 at_])] #[.string (str x),.int .i64 at_] (by omega) (by
  simp [Instr.fill,Value.cells]
  refine Array.ext (by simp) fun i h1 h2=>?_
  have:i=0∨i=1:=by simp at h2;omega
  rcases this with t | t<;>subst t<;>simp) rfl
 refine ⟨y,w1,r1,?_⟩
 have hvl:=h.len
 obtain ⟨z,w2,r2,hz,hzl,f2,zf⟩:=append_ok elem_sign 301 (h.sl.keep0 f1) hy.rd (by intro v hv;simp at hv;rcases hv with rfl | rfl<;>rfl) (by rw [hyl,hvl];omega)
 refine ⟨z,w2,r2,hK z w2 ⟨?_,?_⟩ (f1.of0 f2) fun k hk=>?_⟩
 ·rw [z54z];exact hz
 ·rw [hzl,hyl,hvl,List.length_append];rfl
 ·rcases zf k hk with t | t
  ·exact .inl t
  ·exact .inr (Nat.le_trans f1.size t)
theorem sg_ld {w:World} {v:Sl} {l:List SignV} (h:IsSg w v l) {i:Int} (h0:0≤i) (h1:i<v.2.1) {x:SignV} (hx:l[i.toNat]? = some x) {K:Addr→Prop}
  (hK:∀ a:Addr,(∀ (K:ByteArray→Prop),K (str x.1)→LdK .str (a.add 0) w K)→(∀ (K:Int→Prop),K x.2→LdK (.int .i64) (a.add 1) w K)→(∀ (K:ByteArray×Int×Unit→Prop),K (str x.1,x.2,())→LdsK [.str,.int .i64] a w K)→K a):IdxK v.1 v.2.1 i 2 K:=by
 obtain ⟨hs,hl⟩:=h
 obtain ⟨c1,c2⟩:=signCells_at l i.toNat x hx
 rcases hs with ⟨rfl,hnil⟩ | ⟨g,off,cs,hv,hb,hle,hc,hn,he⟩
 ·dsimp only at h1;omega
 ·refine ⟨_,hv,h0,h1,?_⟩
  rw [z2z]
  have hlen:=z14z l
  have hi:i.toNat<l.length:=by omega
  have e0:w.cell? (⟨g,off+i.toNat * 2,none⟩:Addr)=some (.string (str x.1)):=by
   rw [z27z hb,he _ (by omega)];exact c1
  have e1:w.cell? (⟨g,off+i.toNat * 2+1,none⟩:Addr)=some (.int .i64 x.2):=by
   rw [z27z hb,show off+i.toNat * 2+1=off+(i.toNat * 2+1) by omega,he _ (by omega)];exact c2
  have a0:((⟨g,off+i.toNat * 2,none⟩:Addr).add 0)=⟨g,off+i.toNat * 2,none⟩:=by rw [z2z];rfl
  have a1:((⟨g,off+i.toNat * 2,none⟩:Addr).add 1)=⟨g,off+i.toNat * 2+1,none⟩:=by rw [z2z]
  refine hK _ (fun K k=>LdK.cell (by rw [a0];exact e0) k) (fun K k=>LdK.cell (by rw [a1];exact e1) k) (fun K k=>⟨_,⟨by rw [a0];exact e0,by rw [a1];exact e1,trivial⟩,k⟩)
def addLast (l:List SignV) (x:List UInt8):List SignV:=l.dropLast++[((l.getLastD ([],0)).1++x,(l.getLastD ([],0)).2)]
theorem last_split (l:List SignV) (h:l≠[]):∃ a y,l=a++[y]:=⟨l.dropLast,l.getLast h,(List.dropLast_concat_getLast h).symm⟩
theorem addLast_of (a:List SignV) (y:SignV) (x:List UInt8):addLast (a++[y]) x=a++[(y.1++x,y.2)]:=by
 unfold addLast;simp
theorem sg_last {w:World} {v:Sl} {a:List SignV} {y:SignV} (h:IsSg w v (a++[y])) (x:List UInt8) {i:Int} (hi:i=(v.2.1:Int) - 1) (hsz:y.1.length+x.length≤1000000000000) {K:World→Prop}
  (hK:∀ w',IsSg w' v (a++[(y.1++x,y.2)])→Fr (blkOf v) w w'→K w') :
  IdxK v.1 v.2.1 i 2 (fun p=>LdK .str (p.add 0) w fun t=>CatK t (Utf8.encode 0 |> fun _=>str x) (IdxK v.1 v.2.1 i 2 fun q=>StK (q.add 0) (.string (t++str x)) w K)):=by
 have hl:=h.len
 rw [List.length_append,List.length_singleton] at hl
 refine sg_ld h (x:=y) (by omega) (by omega) (by rw [show i.toNat=a.length by omega];simp) fun p h0 h1 h2=>?_
 refine h0 _ ?_
 refine ⟨by rw [z1z,z1z];show ((y.1.length+x.length:Nat):Int)≤9223372036854775807;omega,?_⟩
 rw [str_app]
 obtain ⟨hs,_⟩:=h
 rcases hs with ⟨rfl,hnil⟩ | ⟨g,off,cs,hv,hb,hle,hc,hn,he⟩
 ·dsimp only at hl;omega
 ·refine ⟨_,hv,by omega,by omega,?_⟩
  rw [z2z,z2z]
  have hlen:=z14z (a++[y])
  have hal:=z14z a
  rw [List.length_append,List.length_singleton] at hlen
  have hit:i.toNat=a.length:=by omega
  refine StK.of hb (by omega) rfl fun w1 hb1 f1 hs1=>hK w1 ⟨.inr ⟨g,off,_,hv,hb1,hle,by simpa using hc,?_,fun j hj=>?_⟩,by rw [List.length_append,List.length_singleton];omega⟩ (f1.mono fun k _ hk=>⟨_,hv,hk⟩)
  ·rw [z14z,List.length_append,List.length_singleton];omega
  ·rw [z14z,List.length_append,List.length_singleton] at hj
   rw [hit,Array.getElem?_setIfInBounds,z54z]
   have hje:=he j (by omega)
   rw [z54z] at hje
   by_cases hja:j<(signCells a).length
   ·rw [if_neg (by omega),hje,List.getElem?_append_left hja,List.getElem?_append_left hja]
   ·rw [List.getElem?_append_right (by omega)] at hje ⊢
    by_cases h0:j - (signCells a).length=0
    ·rw [if_pos (by omega),if_pos (by omega),h0];rfl
    ·rw [if_neg (by omega),hje]
     have:j - (signCells a).length=1:=by omega
     rw [this];rfl
def sgF (acc:List SignV) (at_:Int) (run:Bool):List Int→List SignV×Int
 | []=>(acc,0)
 | r::rs=>if kd r=0 then ([],at_+1) else if kd r=97∧run=true then sgF (addLast acc (enc r)) (at_+1) true rs else
   if kd r≠32 then sgF (acc++[(enc r,at_+1)]) (at_+1) (kd r==97) rs else sgF acc (at_+1) false rs
def reads (rs:List Int):Nat:=(rs.takeWhile fun r=>kd r != 0).length
theorem signs_spec (bs:List UInt8) (w:World) (hb:reads (runesL bs)≤1000000):Ret Tryz.prog 188 #[.string (str bs)] w fun v w'=>
  ∃ sl:Sl,v=.tuple #[.slice sl.1 sl.2.1 sl.2.2,.int .i64 (sgF [] 0 false (runesL bs)).2]∧IsSg w' sl (sgF [] 0 false (runesL bs)).1∧Fr none1 w w'∧∀ k,blkOf sl k→w.heap.size≤k:=by
 refine c188 _ w _ ?_
 refine range_okS bs fun r w1 hr hit f1=>?_
 have F0:Fr (only r) w1 w1:=Fr.refl _ _
 have s1:=f1.size
 refine LoopK.of (fun s w'=>∃ (acc:List SignV) (rest:List Int),0≤s.2.1∧s.2.1+reads rest≤1000000∧IsSg w' s.1 acc∧(∀ k,blkOf s.1 k→w.heap.size<k)∧(s.2.2.1=true→acc≠[])∧acc.length≤s.2.1∧(∀ y∈acc,(y.1.length:Int)≤4 * s.2.1)∧IsIt w' r rest∧Fr none1 w w'∧sgF acc s.2.1 s.2.2.1 rest=sgF [] 0 false (runesL bs)) (fun _ w'=>itLen w' r)
  ⟨[],_,Int.le_refl _,by dsimp only;omega,none_sg _,(fun k ⟨a,ha,_⟩=>by cases ha),(fun t=>by cases t),by simp,(fun y hy=>by simp at hy),hit,f1,rfl⟩ ?_
 rintro _ ⟨v,at_,run,_⟩ w2 ⟨acc,rest,h0,hrd,hv,hvf,hrun,hal,hay,hit2,f2,heq⟩
 dsimp only at h0 hrd hv hvf hrun hal hay heq ⊢
 refine next_ok hit2 (fun c rest' pos w3 hc hok hit3 f3=>?_) (fun hnil=>?_)
 ·subst hc
  have fw3:Fr none1 w w3:=f2.fresh f3 (by omega)
  have hv3:=hv.keep f3 (fun k hk t=>by have:=hvf k hk;have:k=r:=t;omega)
  refine CallK.of (kind_spec c w3) ?_
  rintro _ _ ⟨rfl,rfl⟩
  refine ⟨_,rfl,?_⟩
  have ml:∀ w4,IsIt w4 r rest'→itLen w4 r<itLen w2 r:=fun w4 h4=>by rw [h4.left,hit2.left];simp
  have hunf:sgF acc at_ run (c::rest')=if kd c=0 then ([],at_+1) else if kd c=97∧run=true then sgF (addLast acc (enc c)) (at_+1) true rest' else
   if kd c≠32 then sgF (acc++[(enc c,at_+1)]) (at_+1) (kd c==97) rest' else sgF acc (at_+1) false rest':=rfl
  rw [hunf] at heq
  have e1:IntKind.i64.wrap (at_+1)=at_+1:=wI (by omega) (by omega)
  rw [e1]
  refine ifB.eq (fun hk0=>?_) (fun hk0=>?_)
  ·rw [if_pos hk0] at heq
   rw [← heq]
   exact ⟨(none,0,0),rfl,none_sg _,fw3,fun k ⟨a,ha,_⟩=>by cases ha⟩
  rw [if_neg hk0] at heq
  have hrd':at_+1+reads rest'≤1000000:=by
   have:reads (c::rest')=reads rest'+1:=by
    unfold reads
    rw [List.takeWhile_cons_of_pos (by simpa using hk0)]
    rfl
   omega
  have hel:=enc_len c
  refine JoinK.of (fun b w'=>w3=w'∧b.1=(decide (kd c=97)&&run)) ?_ ?_
  ·refine ifB.eq (fun h=>?_) (fun h=>?_)
   ·exact ⟨rfl,by rw [decide_eq_true h,Bool.true_and]⟩
   ·exact ⟨rfl,by rw [decide_eq_false h,Bool.false_and]⟩
  rintro _ ⟨b,_⟩ _ ⟨rfl,hbb⟩
  dsimp only at hbb ⊢
  subst hbb
  refine ifB.by (fun hab=>?_) (fun hab=>?_)
  ·have hab':kd c=97∧run=true:=by simpa using hab
   obtain ⟨ha,hrn⟩:=hab'
   rw [if_pos ⟨ha,hrn⟩] at heq
   obtain ⟨a,y,rfl⟩:=last_split acc (hrun hrn)
   rw [addLast_of] at heq
   have hvl:=hv.len
   rw [List.length_append,List.length_singleton] at hvl
   have hy4:=hay y (by simp)
   rw [wI (x:=(v.2.1:Int) - 1) (by omega) (by simp at hal;omega)]
   rw [enc_str]
   refine sg_last hv3 (enc c) rfl (by omega) fun w4 hv4 f4=>?_
   have hlt3:∀ k,blkOf v k→k≠r:=fun k hk=>by have:=hvf k hk;omega
   have hit4:=hit3.keep f4 (fun t=>hlt3 r t rfl)
   refine ⟨⟨_,rest',by omega,hrd',hv4,hvf,fun _=>by simp,by simp at hal ⊢;omega,fun z hz=>?_,hit4,fw3.comp f4 (fun k hk t=>by have:=hvf k t;omega),?_⟩,ml w4 hit4⟩
   ·rcases List.mem_append.1 hz with hz | hz
    ·have:=hay z (by simp [hz]);omega
    ·simp at hz;subst hz
     simp only [List.length_append]
     omega
   ·rw [ha];exact heq
  ·have hab':¬ (kd c=97∧run=true):=by simpa using hab
   rw [if_neg hab'] at heq
   refine ifB.ne (fun h32=>?_) (fun h32=>?_)
   ·rw [if_pos h32] at heq
    rw [enc_str]
    refine sg_snoc hv3 (enc c) (at_+1) (by omega) fun u w4 hu f4 uf=>?_
    have hlt3:∀ k,blkOf v k→k≠r:=fun k hk=>by have:=hvf k hk;omega
    have hit4:=hit3.keep f4 (fun t=>hlt3 r t rfl)
    have s3:=hit3.lt
    refine ⟨⟨_,rest',by omega,hrd',hu,fun k hk=>?_,fun _=>by simp,by simp;omega,fun z hz=>?_,hit4,fw3.comp f4 (fun k hk t=>by have:=hvf k t;omega),heq⟩,ml w4 hit4⟩
    ·rcases uf k hk with t | t
     ·exact hvf k t
     ·omega
    ·rcases List.mem_append.1 hz with hz | hz
     ·have:=hay z hz;omega
     ·simp at hz;subst hz
      dsimp only
      omega
   ·rw [if_neg (by simp [h32])] at heq
    refine ⟨⟨acc,rest',by omega,hrd',hv3,hvf,fun t=>?_,by omega,fun z hz=>?_,hit3,fw3,?_⟩,ml w3 hit3⟩
    ·rw [h32] at t;simp at t
    ·have:=hay z hz;omega
    ·rw [h32];exact heq
 ·subst hnil
  rw [← heq]
  exact ⟨v,rfl,hv,f2,fun k hk=>by have:=hvf k hk;omega⟩
def C218 (p0:ByteArray) (p1:ByteArray) (w:World) (K:Value→World→Prop):Prop:=
 CallK Tryz.prog 221 #[.string p0,.string p1] w (.v (.one .str)) (fun (x1:ByteArray) w2=>K (.string x1) w2)
def pl218:Plan:=.auto
theorem c218 (p0:ByteArray) (p1:ByteArray) (w:World) (K:Value→World→Prop) (h:C218 p0 p1 w K):Ret Tryz.prog 218 #[.string p0,.string p1] w K:=z0z (by kernel_rfl) Tryz.func218 (p:=pl218) (Eq.mpr (by kernel_rfl) h)
def C221 (p0:ByteArray) (p1:ByteArray) (w:World) (K:Value→World→Prop):Prop:=
 CallK Tryz.prog 231 #[.string p0,.string p1] w (.v (.one .bool)) (fun (x1:Bool) w2=>ifB x1
 (SubsK p0 (p1.size:Int) p0.size (fun x3=>K (.string x3) w2))
 (K (.string p0) w2))
def pl221:Plan:=.auto
theorem c221 (p0:ByteArray) (p1:ByteArray) (w:World) (K:Value→World→Prop) (h:C221 p0 p1 w K):Ret Tryz.prog 221 #[.string p0,.string p1] w K:=z0z (by kernel_rfl) Tryz.func221 (p:=pl221) (Eq.mpr (by kernel_rfl) h)
def C231 (p0:ByteArray) (p1:ByteArray) (w:World) (K:Value→World→Prop):Prop:=
 ifB (decide ((p0.size:Int) ≥ (p1.size:Int)))
 (SubsK p0 0 (p1.size:Int) (fun x1=>K (.bool (x1.toList==p1.toList)) w))
 (K (.bool false) w)
def pl231:Plan:=.auto
theorem c231 (p0:ByteArray) (p1:ByteArray) (w:World) (K:Value→World→Prop) (h:C231 p0 p1 w K):Ret Tryz.prog 231 #[.string p0,.string p1] w K:=z0z (by kernel_rfl) Tryz.func231 (p:=pl231) (Eq.mpr (by kernel_rfl) h)
def C219 (p0:ByteArray) (p1:ByteArray) (w:World) (K:Value→World→Prop):Prop:=
 ifB (p0.toList==(⟨#[]⟩:ByteArray).toList)
 (K (.string p0) w)
 (ifB (p1.toList==(⟨#[]⟩:ByteArray).toList)
 (K (.string p0) w)
 (JoinK (Bool×Unit) (fun J1=>ifB ((p1.size:Int)==1)
 (StrK p1 0 (fun x4=>J1 (decide (x4<128),()) w))
 (J1 (false,()) w))
 (fun _ s2 w3=>ifB s2.1
 (RegK w3 (fun C5=>StrK p1 0 (fun x6=>AnyK C5 3 [] (.v (.one .str)) (fun w8 k9=>CallK Tryz.prog 223 #[.string p0,.int .u8 x6] w8 (.v (.one .str)) (fun (x10:ByteArray) w11=>k9 (.string x10) w11))
 (fun (x7:ByteArray)=>StrK p1 0 (fun x12=>AnyK C5 6 [3] (.v (.one .str)) (fun w14 k15=>CallK Tryz.prog 222 #[.string x7,.int .u8 x12] w14 (.v (.one .str)) (fun (x16:ByteArray) w17=>k15 (.string x16) w17))
 (fun (x13:ByteArray)=>(∀ w18,C5 (mem [3,6]) w18→K (.string x13) w18)))))))
 (CallK Tryz.prog 224 #[.string p1] w3 (.tup [.arr,.one .bool]) (fun (x19:List Value×Bool×Unit) w20=>NewK (.cells #[.bool false,.bool false,.bool false,.bool false,.bool false,.bool false,.bool false,.bool false,.bool false,.bool false,.bool false,.bool false,.bool false,.bool false,.bool false,.bool false,.bool false,.bool false,.bool false,.bool false,.bool false,.bool false,.bool false,.bool false,.bool false,.bool false,.bool false,.bool false,.bool false,.bool false,.bool false,.bool false,.bool false,.bool false,.bool false,.bool false,.bool false,.bool false,.bool false,.bool false,.bool false,.bool false,.bool false,.bool false,.bool false,.bool false,.bool false,.bool false,.bool false,.bool false,.bool false,.bool false,.bool false,.bool false,.bool false,.bool false,.bool false,.bool false,.bool false,.bool false,.bool false,.bool false,.bool false,.bool false,.bool false,.bool false,.bool false,.bool false,.bool false,.bool false,.bool false,.bool false,.bool false,.bool false,.bool false,.bool false,.bool false,.bool false,.bool false,.bool false,.bool false,.bool false,.bool false,.bool false,.bool false,.bool false,.bool false,.bool false,.bool false,.bool false,.bool false,.bool false,.bool false,.bool false,.bool false,.bool false,.bool false,.bool false,.bool false,.bool false,.bool false,.bool false,.bool false,.bool false,.bool false,.bool false,.bool false,.bool false,.bool false,.bool false,.bool false,.bool false,.bool false,.bool false,.bool false,.bool false,.bool false,.bool false,.bool false,.bool false,.bool false,.bool false,.bool false,.bool false,.bool false,.bool false,.bool false,.bool false,.bool false,.bool false,.bool false,.bool false,.bool false,.bool false,.bool false,.bool false,.bool false,.bool false,.bool false,.bool false,.bool false,.bool false,.bool false,.bool false,.bool false,.bool false,.bool false,.bool false,.bool false,.bool false,.bool false,.bool false,.bool false,.bool false,.bool false,.bool false,.bool false,.bool false,.bool false,.bool false,.bool false,.bool false,.bool false,.bool false,.bool false,.bool false,.bool false,.bool false,.bool false,.bool false,.bool false,.bool false,.bool false,.bool false,.bool false,.bool false,.bool false,.bool false,.bool false,.bool false,.bool false,.bool false,.bool false,.bool false,.bool false,.bool false,.bool false,.bool false,.bool false,.bool false,.bool false,.bool false,.bool false,.bool false,.bool false,.bool false,.bool false,.bool false,.bool false,.bool false,.bool false,.bool false,.bool false,.bool false,.bool false,.bool false,.bool false,.bool false,.bool false,.bool false,.bool false,.bool false,.bool false,.bool false,.bool false,.bool false,.bool false,.bool false,.bool false,.bool false,.bool false,.bool false,.bool false,.bool false,.bool false,.bool false,.bool false,.bool false,.bool false,.bool false,.bool false,.bool false,.bool false,.bool false,.bool false,.bool false,.bool false,.bool false,.bool false,.bool false,.bool false,.bool false,.bool false,.bool false,.bool false,.bool false,.bool false,.bool false,.bool false,.bool false,.bool false,.bool false,.bool false,.bool false,.bool false,.bool false] 341) w20 (fun g21 w22=>AndK (x19.1.length=256) (StsK (ad g21) x19.1 w22 (fun w23=>ifB x19.2.1
 (CallK Tryz.prog 226 #[.string p0,.pointer (some (ad g21))] w23 (.v (.one .str)) (fun (x24:ByteArray) w25=>CallK Tryz.prog 225 #[.string x24,.pointer (some (ad g21))] w25 (.v (.one .str)) (fun (x26:ByteArray) w27=>K (.string x26) w27)))
 (CallK Tryz.prog 228 #[.string p0,.string p1] w23 (.v (.one .str)) (fun (x28:ByteArray) w29=>CallK Tryz.prog 227 #[.string x28,.string p1] w29 (.v (.one .str)) (fun (x30:ByteArray) w31=>K (.string x30) w31)))))))))))
def pl219:Plan:=(.seq .auto (.seq .auto (.seq (.join [(21,.one .bool)] .auto (.cond (.seq (.any [(3,.v (.one .str)),(6,.v (.one .str))]) .auto) .auto)) .auto)))
theorem c219 (p0:ByteArray) (p1:ByteArray) (w:World) (K:Value→World→Prop) (h:C219 p0 p1 w K):Ret Tryz.prog 219 #[.string p0,.string p1] w K:=z0z (by kernel_rfl) Tryz.func219 (p:=pl219) (Eq.mpr (by kernel_rfl) h)
def C224 (p0:ByteArray) (w:World) (K:Value→World→Prop):Prop:=
 NewK (.cells #[.bool false,.bool false,.bool false,.bool false,.bool false,.bool false,.bool false,.bool false,.bool false,.bool false,.bool false,.bool false,.bool false,.bool false,.bool false,.bool false,.bool false,.bool false,.bool false,.bool false,.bool false,.bool false,.bool false,.bool false,.bool false,.bool false,.bool false,.bool false,.bool false,.bool false,.bool false,.bool false,.bool false,.bool false,.bool false,.bool false,.bool false,.bool false,.bool false,.bool false,.bool false,.bool false,.bool false,.bool false,.bool false,.bool false,.bool false,.bool false,.bool false,.bool false,.bool false,.bool false,.bool false,.bool false,.bool false,.bool false,.bool false,.bool false,.bool false,.bool false,.bool false,.bool false,.bool false,.bool false,.bool false,.bool false,.bool false,.bool false,.bool false,.bool false,.bool false,.bool false,.bool false,.bool false,.bool false,.bool false,.bool false,.bool false,.bool false,.bool false,.bool false,.bool false,.bool false,.bool false,.bool false,.bool false,.bool false,.bool false,.bool false,.bool false,.bool false,.bool false,.bool false,.bool false,.bool false,.bool false,.bool false,.bool false,.bool false,.bool false,.bool false,.bool false,.bool false,.bool false,.bool false,.bool false,.bool false,.bool false,.bool false,.bool false,.bool false,.bool false,.bool false,.bool false,.bool false,.bool false,.bool false,.bool false,.bool false,.bool false,.bool false,.bool false,.bool false,.bool false,.bool false,.bool false,.bool false,.bool false,.bool false,.bool false,.bool false,.bool false,.bool false,.bool false,.bool false,.bool false,.bool false,.bool false,.bool false,.bool false,.bool false,.bool false,.bool false,.bool false,.bool false,.bool false,.bool false,.bool false,.bool false,.bool false,.bool false,.bool false,.bool false,.bool false,.bool false,.bool false,.bool false,.bool false,.bool false,.bool false,.bool false,.bool false,.bool false,.bool false,.bool false,.bool false,.bool false,.bool false,.bool false,.bool false,.bool false,.bool false,.bool false,.bool false,.bool false,.bool false,.bool false,.bool false,.bool false,.bool false,.bool false,.bool false,.bool false,.bool false,.bool false,.bool false,.bool false,.bool false,.bool false,.bool false,.bool false,.bool false,.bool false,.bool false,.bool false,.bool false,.bool false,.bool false,.bool false,.bool false,.bool false,.bool false,.bool false,.bool false,.bool false,.bool false,.bool false,.bool false,.bool false,.bool false,.bool false,.bool false,.bool false,.bool false,.bool false,.bool false,.bool false,.bool false,.bool false,.bool false,.bool false,.bool false,.bool false,.bool false,.bool false,.bool false,.bool false,.bool false,.bool false,.bool false,.bool false,.bool false,.bool false,.bool false,.bool false,.bool false,.bool false,.bool false,.bool false,.bool false,.bool false,.bool false,.bool false,.bool false,.bool false,.bool false,.bool false,.bool false,.bool false,.bool false,.bool false,.bool false,.bool false,.bool false,.bool false,.bool false] 341) w (fun g1 w2=>LoopK (Int×Unit) (fun _ s3 w4 next5=>ifB (decide (s3.1<(p0.size:Int)))
 (StrK p0 s3.1 (fun x6=>ifB (decide (x6 ≥ 128))
 (LdaK 256 (ad g1) w4 (fun x7=>AndK (x7.length=256) (StsK (ad g1) x7 w4 (fun w8=>LdaK 256 (ad g1) w8 (fun x9=>K (.tuple #[.agg x9.toArray,.bool false]) w8)))))
 (AixK (ad g1) 256 x6 1 (fun a10=>StK a10 (.bool true) w4 (fun w11=>next5 (IntKind.i64.wrap (s3.1+1),()) w11)))))
 (LdaK 256 (ad g1) w4 (fun x12=>AndK (x12.length=256) (StsK (ad g1) x12 w4 (fun w13=>LdaK 256 (ad g1) w13 (fun x14=>K (.tuple #[.agg x14.toArray,.bool true]) w13))))))
 (0,()) w2)
def pl224:Plan:=(.seq .auto (.seq (.seq .auto (.block (.loop [(4,.one (.int .i64))] .auto))) .auto))
theorem c224 (p0:ByteArray) (w:World) (K:Value→World→Prop) (h:C224 p0 w K):Ret Tryz.prog 224 #[.string p0] w K:=z0z (by kernel_rfl) Tryz.func224 (p:=pl224) (Eq.mpr (by kernel_rfl) h)
def C225 (p0:ByteArray) (p1:Addr) (w:World) (K:Value→World→Prop):Prop:=
 LoopK (ByteArray×Unit) (fun _ s1 w2 next3=>ifB (decide ((s1.1.size:Int) > 0))
 (StrK s1.1 0 (fun x4=>CallK Tryz.prog 232 #[.pointer (some p1),.int .u8 x4] w2 (.v (.one .bool)) (fun (x5:Bool) w6=>ifB (!x5)
 (K (.string s1.1) w6)
 (SubsK s1.1 1 s1.1.size (fun x7=>next3 (x7,()) w6)))))
 (K (.string s1.1) w2))
 (p0,()) w
def pl225:Plan:=(.seq .auto (.seq (.block (.loop [(0,.one .str)] .auto)) .auto))
theorem c225 (p0:ByteArray) (p1:Addr) (w:World) (K:Value→World→Prop) (h:C225 p0 p1 w K):Ret Tryz.prog 225 #[.string p0,.pointer (some p1)] w K:=z0z (by kernel_rfl) Tryz.func225 (p:=pl225) (Eq.mpr (by kernel_rfl) h)
def C226 (p0:ByteArray) (p1:Addr) (w:World) (K:Value→World→Prop):Prop:=
 LoopK (ByteArray×Unit) (fun _ s1 w2 next3=>ifB (decide ((s1.1.size:Int) > 0))
 (StrK s1.1 (IntKind.i64.wrap ((s1.1.size:Int) - 1)) (fun x4=>CallK Tryz.prog 232 #[.pointer (some p1),.int .u8 x4] w2 (.v (.one .bool)) (fun (x5:Bool) w6=>ifB (!x5)
 (K (.string s1.1) w6)
 (SubsK s1.1 0 (IntKind.i64.wrap ((s1.1.size:Int) - 1)) (fun x7=>next3 (x7,()) w6)))))
 (K (.string s1.1) w2))
 (p0,()) w
def pl226:Plan:=(.seq .auto (.seq (.block (.loop [(0,.one .str)] .auto)) .auto))
theorem c226 (p0:ByteArray) (p1:Addr) (w:World) (K:Value→World→Prop) (h:C226 p0 p1 w K):Ret Tryz.prog 226 #[.string p0,.pointer (some p1)] w K:=z0z (by kernel_rfl) Tryz.func226 (p:=pl226) (Eq.mpr (by kernel_rfl) h)
def C232 (p0:Addr) (p1:Int) (w:World) (K:Value→World→Prop):Prop:=
 AixK p0 256 p1 1 (fun a1=>LdK .bool a1 w (fun (x2:Bool)=>K (.bool x2) w))
def pl232:Plan:=.auto
theorem c232 (p0:Addr) (p1:Int) (w:World) (K:Value→World→Prop) (h:C232 p0 p1 w K):Ret Tryz.prog 232 #[.pointer (some p0),.int .u8 p1] w K:=z0z (by kernel_rfl) Tryz.func232 (p:=pl232) (Eq.mpr (by kernel_rfl) h)
def C220 (p0:ByteArray) (w:World) (K:Value→World→Prop):Prop:=
 CallK Tryz.prog 229 #[.string p0] w (.tup [.one (.int .i64),.one .raw]) (fun (x1:Int×Value×Unit) w2=>RunK Tryz.prog (do eqGuard .neq 294 (.tmp 11) (.const .nilIface) x1.2.1 .nilIface;binOp .neq 294 x1.2.1 .nilIface) w2 (.v (.one .bool)) (fun (x3:Bool) w4=>ifB x3
 (CallK Tryz.prog 230 #[.string (⟨#[65,116,111,105]⟩:ByteArray),.string p0,.int .i64 0,.int .i64 0,x1.2.1] w4 (.v (.one .raw)) (fun (x5:Value) w6=>K (.tuple #[.int .i64 x1.1,x5]) w6))
 (K (.tuple #[.int .i64 x1.1,.nilIface]) w4)))
def pl220:Plan:=.auto
theorem c220 (p0:ByteArray) (w:World) (K:Value→World→Prop) (h:C220 p0 w K):Ret Tryz.prog 220 #[.string p0] w K:=z0z (by kernel_rfl) Tryz.func220 (p:=pl220) (Eq.mpr (by kernel_rfl) h)
def C229 (p0:ByteArray) (w:World) (K:Value→World→Prop):Prop:=
 JoinK (Bool×Unit) (fun J1=>ifB (decide ((0:Int)<(p0.size:Int)))
 (J1 (decide ((p0.size:Int)<19),()) w)
 (J1 (false,()) w))
 (fun _ s2 w3=>ifB s2.1
 (JoinK (ByteArray×Unit) (fun J4=>JoinK (Bool×Unit) (fun J7=>StrK p0 0 (fun x10=>ifB (x10==45)
 (J7 (true,()) w3)
 (StrK p0 0 (fun x11=>J7 ((x11==43),()) w3))))
 (fun _ s8 w9=>ifB s8.1
 (SubsK p0 1 p0.size (fun x12=>ifB (decide ((x12.size:Int)<1))
 (K (.tuple #[.int .i64 0,.iface 351 (.int .i64 2)]) w9)
 (J4 (x12,()) w9)))
 (J4 (p0,()) w9)))
 (fun _ s5 w6=>RunK Tryz.prog (convert 9 22 (.string s5.1)) w6 (.v (.one .slc)) (fun (x13:SlT) w14=>LoopK (Int×Int×Unit) (fun _ s15 w16 next17=>ifB (decide (s15.2.1<(x13.2.1:Int)))
 (IdxK x13.1 x13.2.1 s15.2.1 1 (fun a18=>LdK (.int .u8) a18 w16 (fun (x19:Int)=>ifB (decide ((IntKind.u8.wrap (x19 - 48)) > 9))
 (K (.tuple #[.int .i64 0,.iface 351 (.int .i64 2)]) w16)
 (next17 (IntKind.i64.wrap ((IntKind.i64.wrap (s15.1 * 10))+(IntKind.i64.wrap (IntKind.u8.wrap (x19 - 48)))),IntKind.i64.wrap (s15.2.1+1),()) w16))))
 (StrK p0 0 (fun x20=>ifB (x20==45)
 (K (.tuple #[.int .i64 (IntKind.i64.wrap (0 - s15.1)),.nilIface]) w16)
 (K (.tuple #[.int .i64 s15.1,.nilIface]) w16))))
 (0,0,()) w14)))
 (CallK Tryz.prog 236 #[.string p0,.int .i64 10,.int .i64 0] w3 (.tup [.one (.int .i64),.one .raw]) (fun (x21:Int×Value×Unit) w22=>K (.tuple #[.int .i64 x21.1,x21.2.1]) w22)))
def pl229:Plan:=(.seq .auto (.seq .auto (.seq (.join [(30,.one .bool)] .auto (.cond (.seq .auto (.join [(0,.one .str)] (.join [(39,.one .bool)] .auto .auto) (.seq .auto (.seq (.seq .auto (.block (.loop [(6,.one (.int .i64)),(49,.one (.int .i64))] .auto))) .auto)))) .auto)) .auto)))
theorem c229 (p0:ByteArray) (w:World) (K:Value→World→Prop) (h:C229 p0 w K):Ret Tryz.prog 229 #[.string p0] w K:=z0z (by kernel_rfl) Tryz.func229 (p:=pl229) (Eq.mpr (by kernel_rfl) h)
end Go.Proofs.YtdphmcanlhcokaaGreatDoor
