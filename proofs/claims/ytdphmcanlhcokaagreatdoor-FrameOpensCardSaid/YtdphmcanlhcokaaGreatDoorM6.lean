/-
  Texts of this claim, put together: KeepB, CFBack, FBack, CRefFr, RefFr, CRefSip, RefSipSpec, RefFr2, RefFr3, CFOpen, FOpen.
  Conditions: those of each theorem.
-/
import Derived.Test.YtdphmcanlhcokaaGreatDoorM0
import Derived.Test.YtdphmcanlhcokaaGreatDoorM3
import Derived.Test.YtdphmcanlhcokaaGreatDoorM4
import Derived.Test.YtdphmcanlhcokaaGreatDoorM5
import Derived.KernelRfl
import Derived.Test.YtdphmcanlhcokaaGreatDoorProg
set_option linter.unusedVariables false
namespace Go.Proofs.YtdphmcanlhcokaaGreatDoor
open Vc
theorem copy_spec {w:World} {v:Sl} {bs:List UInt8} (h:RdB w v bs) (hl:bs.length≤140737488355000) :
  Ret Tryz.prog 13 #[.slice v.1 v.2.1 v.2.2] w fun r w'=>∃ u:Sl,r=.slice u.1 u.2.1 u.2.2∧IsB w' u bs∧Fr none1 w w'∧∀ k,blkOf u k→w.heap.size≤k:=by
 refine c13 v.1 v.2.1 v.2.2 w _ ?_
 obtain ⟨u,w2,hr2,hu,f2,hf2⟩:=z33z (xs:=[]) (none_b w) h (by simp;omega)
 refine ⟨u,w2,hr2,u,rfl,hu,f2.mono (fun k _ ⟨a,ha,_⟩=>by cases ha),fun k hk=>?_⟩
 rcases hf2 k hk with ⟨a,ha,_⟩ | t
 ·cases ha
 ·exact t
set_option maxRecDepth 100000
def C5 (p0:Option Addr) (p0l p0c:Nat) (p1:YZ15) (p2:YZ13) (p3:Int) (w:World) (K:Value→World→Prop):Prop:=
 NewK (.cells ((LZ15 p1).toArray) 25) w (fun g1 w2=>NewK (.cells ((LZ13 p2).toArray) 31) w2 (fun g3 w4=>NewK (.cells #[.int .u8 0,.int .u8 0,.int .u8 0,.int .u8 0,.int .u8 0,.int .u8 0,.int .u8 0,.int .u8 0,.int .u8 0,.int .u8 0,.int .u8 0,.int .u8 0,.int .u8 0,.int .u8 0,.int .u8 0,.int .u8 0] 33) w4 (fun g5 w6=>SubK (some (ad g5)) 16 0 16 16 1 (fun a7 l8 c9=>RunK Tryz.prog (Builtin.copy_ #[22,22] 3 #[.slice a7 l8 c9,.slice p0 p0l p0c]) w6 (.v (.one (.int .i64))) (fun (x10:Int) w11=>LdsK KZ15 (ad g1) w11 (fun (x12:YZ15)=>LdsK KZ13 (ad g3) w11 (fun (x13:YZ13)=>CallK Tryz.prog 6 #[.agg (LZ15 x12).toArray,.agg (LZ13 x13).toArray,.int .i64 0] w11 (.tup [.agg KZ18,.agg KZ19,.one .bool]) (fun (x14:YZ18×YZ19×Bool×Unit) w15=>NewK (.cells #[.int .i64 0,.int .i64 0,.int .i64 0,.int .i64 0,.int .i64 0,.int .u64 0,.bool false,.int .i64 0,.string (⟨#[]⟩:ByteArray),.string (⟨#[]⟩:ByteArray),.string (⟨#[]⟩:ByteArray),.string (⟨#[]⟩:ByteArray),.int .i64 0,.int .i64 0,.nilIface] 38) w15 (fun g16 w17=>NewK (.cells #[.int .i64 0,.int .i64 0,.int .i64 0,.int .i64 0,.int .i64 0,.int .u64 0,.bool false,.int .i64 0,.string (⟨#[]⟩:ByteArray),.string (⟨#[]⟩:ByteArray),.string (⟨#[]⟩:ByteArray),.string (⟨#[]⟩:ByteArray),.int .i64 0,.int .i64 0,.int .i64 0,.string (⟨#[]⟩:ByteArray),.int .i64 0,.slice none 0 0] 45) w17 (fun g18 w19=>StsK (ad g16) [.int .i64 x14.1.1,.int .i64 x14.1.2.1,.int .i64 x14.1.2.2.1,.int .i64 x14.1.2.2.2.1,.int .i64 x14.1.2.2.2.2.1,.int .u64 x14.1.2.2.2.2.2.1,.bool x14.1.2.2.2.2.2.2.1,.int .i64 x14.1.2.2.2.2.2.2.2.1,.string x14.1.2.2.2.2.2.2.2.2.1,.string x14.1.2.2.2.2.2.2.2.2.2.1,.string x14.1.2.2.2.2.2.2.2.2.2.2.1,.string x14.1.2.2.2.2.2.2.2.2.2.2.2.1,.int .i64 x14.1.2.2.2.2.2.2.2.2.2.2.2.2.1,.int .i64 x14.1.2.2.2.2.2.2.2.2.2.2.2.2.2.1,x14.1.2.2.2.2.2.2.2.2.2.2.2.2.2.2.1] w19 (fun w20=>StsK (ad g18) [.int .i64 x14.2.1.1,.int .i64 x14.2.1.2.1,.int .i64 x14.2.1.2.2.1,.int .i64 x14.2.1.2.2.2.1,.int .i64 x14.2.1.2.2.2.2.1,.int .u64 x14.2.1.2.2.2.2.2.1,.bool x14.2.1.2.2.2.2.2.2.1,.int .i64 x14.2.1.2.2.2.2.2.2.2.1,.string x14.2.1.2.2.2.2.2.2.2.2.1,.string x14.2.1.2.2.2.2.2.2.2.2.2.1,.string x14.2.1.2.2.2.2.2.2.2.2.2.2.1,.string x14.2.1.2.2.2.2.2.2.2.2.2.2.2.1,.int .i64 x14.2.1.2.2.2.2.2.2.2.2.2.2.2.2.1,.int .i64 x14.2.1.2.2.2.2.2.2.2.2.2.2.2.2.2.1,.int .i64 x14.2.1.2.2.2.2.2.2.2.2.2.2.2.2.2.2.1,.string x14.2.1.2.2.2.2.2.2.2.2.2.2.2.2.2.2.2.1,.int .i64 x14.2.1.2.2.2.2.2.2.2.2.2.2.2.2.2.2.2.2.1,.slice x14.2.1.2.2.2.2.2.2.2.2.2.2.2.2.2.2.2.2.2.1.1 x14.2.1.2.2.2.2.2.2.2.2.2.2.2.2.2.2.2.2.2.1.2.1 x14.2.1.2.2.2.2.2.2.2.2.2.2.2.2.2.2.2.2.2.1.2.2] w20 (fun w21=>LdaK 16 (ad g5) w21 (fun x22=>LdsK KZ18 (ad g16) w21 (fun (x23:YZ18)=>CallK Tryz.prog 8 #[.agg x22.toArray,.agg (LZ18 x23).toArray] w21 (.tup [.one .slc,.one (.int .i64)]) (fun (x24:SlT×Int×Unit) w25=>ifB (x24.2.1 != 0)
 (LdsK KZ18 (ad g16) w25 (fun (x26:YZ18)=>CallK Tryz.prog 9 #[.agg (LZ18 x26).toArray] w25 (.v (.one (.int .i64))) (fun (x27:Int) w28=>ifB (x27==x24.2.1)
 (CallK Tryz.prog 10 #[] w28 (.v (.one .bool)) (fun (x29:Bool) w30=>K (.bool x29) w30))
 (K (.bool false) w28))))
 (LdaK 16 (ad g5) w25 (fun x31=>CallK Tryz.prog 18 #[.agg x31.toArray,.slice x24.1.1 x24.1.2.1 x24.1.2.2] w25 (.tup [.agg KZ18,.one (.int .i64)]) (fun (x32:YZ18×Int×Unit) w33=>NewK (.cells #[.int .i64 0,.int .i64 0,.int .i64 0,.int .i64 0,.int .i64 0,.int .u64 0,.bool false,.int .i64 0,.string (⟨#[]⟩:ByteArray),.string (⟨#[]⟩:ByteArray),.string (⟨#[]⟩:ByteArray),.string (⟨#[]⟩:ByteArray),.int .i64 0,.int .i64 0,.nilIface] 38) w33 (fun g34 w35=>StsK (ad g34) [.int .i64 x32.1.1,.int .i64 x32.1.2.1,.int .i64 x32.1.2.2.1,.int .i64 x32.1.2.2.2.1,.int .i64 x32.1.2.2.2.2.1,.int .u64 x32.1.2.2.2.2.2.1,.bool x32.1.2.2.2.2.2.2.1,.int .i64 x32.1.2.2.2.2.2.2.2.1,.string x32.1.2.2.2.2.2.2.2.2.1,.string x32.1.2.2.2.2.2.2.2.2.2.1,.string x32.1.2.2.2.2.2.2.2.2.2.2.1,.string x32.1.2.2.2.2.2.2.2.2.2.2.2.1,.int .i64 x32.1.2.2.2.2.2.2.2.2.2.2.2.2.1,.int .i64 x32.1.2.2.2.2.2.2.2.2.2.2.2.2.2.1,x32.1.2.2.2.2.2.2.2.2.2.2.2.2.2.2.1] w35 (fun w36=>JoinK (Bool×Unit) (fun J37=>ifB (x32.2.1 != 0)
 (J37 (true,()) w36)
 (LdK (.int .i64) ((ad g34).add 0) w36 (fun (x40:Int)=>LdK (.int .i64) ((ad g16).add 0) w36 (fun (x41:Int)=>ifB (x40 != x41)
 (J37 (true,()) w36)
 (LdK (.int .i64) ((ad g34).add 1) w36 (fun (x42:Int)=>LdK (.int .i64) ((ad g16).add 1) w36 (fun (x43:Int)=>ifB (x42 != x43)
 (J37 (true,()) w36)
 (LdK (.int .i64) ((ad g34).add 2) w36 (fun (x44:Int)=>LdK (.int .i64) ((ad g16).add 2) w36 (fun (x45:Int)=>ifB (x44 != x45)
 (J37 (true,()) w36)
 (LdK (.int .i64) ((ad g34).add 3) w36 (fun (x46:Int)=>LdK (.int .i64) ((ad g16).add 3) w36 (fun (x47:Int)=>ifB (x46 != x47)
 (J37 (true,()) w36)
 (LdK (.int .i64) ((ad g34).add 4) w36 (fun (x48:Int)=>LdK (.int .i64) ((ad g16).add 4) w36 (fun (x49:Int)=>ifB (x48 != x49)
 (J37 (true,()) w36)
 (LdK (.int .u64) ((ad g34).add 5) w36 (fun (x50:Int)=>LdK (.int .u64) ((ad g16).add 5) w36 (fun (x51:Int)=>ifB (x50 != x51)
 (J37 (true,()) w36)
 (LdK .bool ((ad g34).add 6) w36 (fun (x52:Bool)=>LdK .bool ((ad g16).add 6) w36 (fun (x53:Bool)=>ifB (!(x52==x53))
 (J37 (true,()) w36)
 (LdsK KZ14 ((ad g34).add 7) w36 (fun (x54:YZ14)=>LdsK KZ14 ((ad g16).add 7) w36 (fun (x55:YZ14)=>CallK Tryz.prog 22 #[.agg (LZ14 x54).toArray,.agg (LZ14 x55).toArray] w36 (.v (.one .bool)) (fun (x56:Bool) w57=>ifB (!x56)
 (J37 (true,()) w57)
 (J37 (decide ((x24.1.2.1:Int)<43),()) w57)))))))))))))))))))))))))))
 (fun _ s38 w39=>ifB s38.1
 (K (.bool false) w39)
 (SubK x24.1.1 x24.1.2.2 (IntKind.i64.wrap ((x24.1.2.1:Int) - 8)) x24.1.2.1 x24.1.2.2 1 (fun a58 l59 c60=>CallK Tryz.prog 23 #[.slice a58 l59 c60] w39 (.tup [.one (.int .u64),.one .bool]) (fun (x61:Int×Bool×Unit) w62=>DrewK w62 (fun w63=>HoldK (fun S64=>ifB (!x61.2.1)
 (K (.bool false) w63)
 (InK S64 (ad g5) (LdaK 16 (ad g5) w63 (fun x65=>SubK x24.1.1 x24.1.2.2 0 (IntKind.i64.wrap ((x24.1.2.1:Int) - 8)) x24.1.2.2 1 (fun a66 l67 c68=>CallK Tryz.prog 24 #[.agg x65.toArray,.slice a66 l67 c68] w63 (.v (.one (.int .u64))) (fun (x69:Int) w70=>ifB (x61.1 != x69)
 (K (.bool false) w70)
 (DrewK w70 (fun w71=>HoldK (fun S72=>NzK 8 (CallK Tryz.prog 14 #[.int .i64 p3,.int .i64 8] w71 (.v (.one (.int .i64))) (fun (x73:Int) w74=>KeepK S72 w71 w74 (IdxK x24.1.1 x24.1.2.1 (IntKind.i64.wrap ((IntKind.i64.wrap ((x24.1.2.1:Int) - 1)) - x73)) 1 (fun a75=>InK S72 a75 (LdK (.int .u8) a75 w74 (fun (x76:Int)=>CallK Tryz.prog 14 #[.int .i64 (IntKind.i64.wrap (Int.tdiv p3 8)),.int .i64 8] w74 (.v (.one (.int .i64))) (fun (x77:Int) w78=>KeepK S72 w74 w78 (NnK (IntKind.u64.wrap x77) (IdxK x24.1.1 x24.1.2.1 (IntKind.i64.wrap ((IntKind.i64.wrap ((x24.1.2.1:Int) - 1)) - x73)) 1 (fun a79=>StK a79 (.int .u8 (IntKind.u8.wrap ((BitVec.ofInt 8 x76 ^^^ BitVec.ofInt 8 (IntKind.u8.wrap (1 * 2 ^ (min (Int.toNat (IntKind.u64.wrap x77)) 8)))).toNat:Int))) w78 (fun w80=>LdaK 16 (ad g5) w80 (fun x81=>CallK Tryz.prog 18 #[.agg x81.toArray,.slice x24.1.1 x24.1.2.1 x24.1.2.2] w80 (.tup [.agg KZ18,.one (.int .i64)]) (fun (x82:YZ18×Int×Unit) w83=>NewK (.cells #[.int .i64 0,.int .i64 0,.int .i64 0,.int .i64 0,.int .i64 0,.int .u64 0,.bool false,.int .i64 0,.string (⟨#[]⟩:ByteArray),.string (⟨#[]⟩:ByteArray),.string (⟨#[]⟩:ByteArray),.string (⟨#[]⟩:ByteArray),.int .i64 0,.int .i64 0,.nilIface] 38) w83 (fun g84 w85=>StsK (ad g84) [.int .i64 x82.1.1,.int .i64 x82.1.2.1,.int .i64 x82.1.2.2.1,.int .i64 x82.1.2.2.2.1,.int .i64 x82.1.2.2.2.2.1,.int .u64 x82.1.2.2.2.2.2.1,.bool x82.1.2.2.2.2.2.2.1,.int .i64 x82.1.2.2.2.2.2.2.2.1,.string x82.1.2.2.2.2.2.2.2.2.1,.string x82.1.2.2.2.2.2.2.2.2.2.1,.string x82.1.2.2.2.2.2.2.2.2.2.2.1,.string x82.1.2.2.2.2.2.2.2.2.2.2.2.1,.int .i64 x82.1.2.2.2.2.2.2.2.2.2.2.2.2.1,.int .i64 x82.1.2.2.2.2.2.2.2.2.2.2.2.2.2.1,x82.1.2.2.2.2.2.2.2.2.2.2.2.2.2.2.1] w85 (fun w86=>ifB (x82.2.1==12)
 (CallK Tryz.prog 10 #[] w86 (.v (.one .bool)) (fun (x87:Bool) w88=>K (.bool x87) w88))
 (K (.bool false) w86))))))))))))))))))))))))))))))))))))))))))))))))))
def pl5:Plan:=(.seq .auto (.seq .auto (.seq .auto (.seq .auto (.seq .auto (.seq .auto (.seq .auto (.seq (.join [(115,.one .bool)] .auto .auto) (.seq .auto (.seq (.seq (.held (.soft 0 (.soft 1 (.soft 2 (.soft 3 (.soft 4 (.soft 5 (.soft 6 (.soft 7 (.soft 8 (.soft 9 (.last 10 (.soft 11 (.soft 12 .done)))))))))))))) .auto) (.seq (.held (.soft 0 (.soft 1 (.soft 2 (.soft 3 (.soft 4 (.soft 9 (.soft 10 (.pick 5 (.soft 6 (.soft 7 (.soft 8 (.pick 11 (.soft 12 (.soft 13 (.soft 14 (.soft 15 (.last 16 .done))))) .stop)))) .stop))))))))) .auto)))))))))))
theorem c5 (p0:Option Addr) (p0l p0c:Nat) (p1:YZ15) (p2:YZ13) (p3:Int) (w:World) (K:Value→World→Prop) (h:C5 p0 p0l p0c p1 p2 p3 w K):Ret Tryz.prog 5 #[.slice p0 p0l p0c,.agg (LZ15 p1).toArray,.agg (LZ13 p2).toArray,.int .i64 p3] w K:=z0z (by kernel_rfl) Tryz.func5 (p:=pl5) (Eq.mpr (by kernel_rfl) h)
theorem frM_of (f:FrT) (t:Tm) (he:(frE f).2.2.2.2.2.2.2.1=t.v):∃ m:FrM,m.f=f∧m.m.t=t:=by
 obtain ⟨e,he1,he2⟩:=evM_of (frE f) t he
 exact ⟨(f.1,f.2.1,f.2.2.1,f.2.2.2.1,f.2.2.2.2.1,f.2.2.2.2.2.1,f.2.2.2.2.2.2.1,e),by unfold FrM.f;dsimp only;rw [he1];rfl,he2⟩
theorem seal_chk (kb:List UInt8) (X:FrM):(sealM kb X).2=checkFr X.f (writeT X.m.t).2:=by
 unfold sealM sealF
 by_cases h:checkFr X.f (writeT X.m.t).2=0
 ·have hb:(bytesFr X.f (writeT X.m.t).1 (writeT X.m.t).2).2=0:=by
   unfold bytesFr;rw [if_neg (fun t=>t h)];split<;>rfl
  rw [if_neg (fun t=>t hb)]
  exact h.symm
 ·have hb:bytesFr X.f (writeT X.m.t).1 (writeT X.m.t).2=([],checkFr X.f (writeT X.m.t).2):=by
   unfold bytesFr;rw [if_pos h]
  rw [hb,if_pos h]
theorem same_frame {m:FrM} {bs:List UInt8} (h:bytesM m=(bs,0)):sameP m.m m.m=true:=by
 obtain ⟨hc,hb,hp⟩:=bytes_ok h
 by_cases k:m.2.2.2.1=1
 ·exact sameP_self (m:=m.m) (bs:=(packM m.m).1) (Prod.ext rfl (hp k))
 ·have:=none_zero (m:=m.m) ((check_fr hc).2.2.2.2.2.2 k)
  rw [this];rfl
theorem xorB_val (x:UInt8) (p:Int):Value.int .u8 (IntKind.u8.wrap ((BitVec.ofInt 8 (x.toNat:Int) ^^^ BitVec.ofInt 8 p).toNat:Int))=bc (UInt8.ofNat (BitVec.ofInt 8 (x.toNat:Int) ^^^ BitVec.ofInt 8 p).toNat):=by
 have h:=(BitVec.ofInt 8 (x.toNat:Int) ^^^ BitVec.ofInt 8 p).isLt
 rw [wB (by omega) (by omega)]
 unfold bc
 rw [UInt8.toNat_ofNat',Nat.mod_eq_of_lt h]
def C28 (p0:Int) (w:World) (K:Value→World→Prop):Prop:=
 ifB (decide (p0<0))
 (K (.bool true) w)
 (K (.bool (decide (p0 ≥ 2147483648))) w)
def pl28:Plan:=.auto
theorem c28 (p0:Int) (w:World) (K:Value→World→Prop) (h:C28 p0 w K):Ret Tryz.prog 28 #[.int .i64 p0] w K:=z0z (by kernel_rfl) Tryz.func28 (p:=pl28) (Eq.mpr (by kernel_rfl) h)
def C7 (p0:YZ19) (p1:Bool) (w:World) (K:Value→World→Prop):Prop:=
 NewK (.cells ((LZ19 p0).toArray) 45) w (fun g1 w2=>JoinK (Bool×Unit) (fun J3=>LdK (.int .i64) ((ad g1).add 0) w2 (fun (x6:Int)=>ifB (decide (x6<0))
 (J3 (true,()) w2)
 (LdK (.int .i64) ((ad g1).add 0) w2 (fun (x7:Int)=>ifB (decide (x7 > 1))
 (J3 (true,()) w2)
 (LdK (.int .i64) ((ad g1).add 1) w2 (fun (x8:Int)=>CallK Tryz.prog 28 #[.int .i64 x8] w2 (.v (.one .bool)) (fun (x9:Bool) w10=>ifB x9
 (J3 (true,()) w10)
 (LdK (.int .i64) ((ad g1).add 2) w10 (fun (x11:Int)=>CallK Tryz.prog 28 #[.int .i64 x11] w10 (.v (.one .bool)) (fun (x12:Bool) w13=>ifB x12
 (J3 (true,()) w13)
 (LdK (.int .i64) ((ad g1).add 4) w13 (fun (x14:Int)=>CallK Tryz.prog 28 #[.int .i64 x14] w13 (.v (.one .bool)) (fun (x15:Bool) w16=>ifB x15
 (J3 (true,()) w16)
 (LdK (.int .i64) ((ad g1).add 3) w16 (fun (x17:Int)=>ifB (decide (x17<1))
 (J3 (true,()) w16)
 (LdK (.int .i64) ((ad g1).add 3) w16 (fun (x18:Int)=>ifB (decide (x18 > 4))
 (J3 (true,()) w16)
 (LdK .bool ((ad g1).add 6) w16 (fun (x19:Bool)=>ifB x19
 (LdK (.int .i64) ((ad g1).add 3) w16 (fun (x20:Int)=>ifB (x20==1)
 (J3 (true,()) w16)
 (LdK (.int .i64) ((ad g1).add 3) w16 (fun (x21:Int)=>J3 ((x21==3),()) w16))))
 (J3 (false,()) w16))))))))))))))))))))
 (fun _ s4 w5=>ifB s4.1
 (K (.int .i64 1) w5)
 (LdK (.int .i64) ((ad g1).add 3) w5 (fun (x22:Int)=>ifB (x22==1)
 (LdsK KZ16 ((ad g1).add 7) w5 (fun (x23:YZ16)=>CallK Tryz.prog 29 #[.agg (LZ16 x23).toArray,.bool p1] w5 (.v (.one (.int .i64))) (fun (x24:Int) w25=>K (.int .i64 x24) w25)))
 (LdsK KZ16 ((ad g1).add 7) w5 (fun (x26:YZ16)=>NewK (.cells #[.int .i64 0,.string (⟨#[]⟩:ByteArray),.string (⟨#[]⟩:ByteArray),.string (⟨#[]⟩:ByteArray),.string (⟨#[]⟩:ByteArray),.int .i64 0,.int .i64 0,.int .i64 0,.string (⟨#[]⟩:ByteArray),.int .i64 0,.slice none 0 0] 43) w5 (fun g27 w28=>StsK (ad g27) (LZ16 x26) w28 (fun w29=>JoinK (Bool×Unit) (fun J30=>LdK (.int .i64) ((ad g27).add 0) w29 (fun (x33:Int)=>ifB (x33 != 0)
 (J30 (true,()) w29)
 (LdK .str ((ad g27).add 1) w29 (fun (x34:ByteArray)=>ifB (!(x34.toList==(⟨#[]⟩:ByteArray).toList))
 (J30 (true,()) w29)
 (LdK .str ((ad g27).add 2) w29 (fun (x35:ByteArray)=>ifB (!(x35.toList==(⟨#[]⟩:ByteArray).toList))
 (J30 (true,()) w29)
 (LdK .str ((ad g27).add 3) w29 (fun (x36:ByteArray)=>ifB (!(x36.toList==(⟨#[]⟩:ByteArray).toList))
 (J30 (true,()) w29)
 (LdK .str ((ad g27).add 4) w29 (fun (x37:ByteArray)=>ifB (!(x37.toList==(⟨#[]⟩:ByteArray).toList))
 (J30 (true,()) w29)
 (LdK (.int .i64) ((ad g27).add 5) w29 (fun (x38:Int)=>ifB (x38 != 0)
 (J30 (true,()) w29)
 (LdK (.int .i64) ((ad g27).add 6) w29 (fun (x39:Int)=>ifB (x39 != 0)
 (J30 (true,()) w29)
 (LdK (.int .i64) (((ad g27).add 7).add 0) w29 (fun (x40:Int)=>ifB (x40 != 0)
 (J30 (true,()) w29)
 (J30 (p1,()) w29)))))))))))))))))
 (fun _ s31 w32=>ifB s31.1
 (K (.int .i64 1) w32)
 (K (.int .i64 0) w32))))))))))
def pl7:Plan:=(.seq .auto (.seq (.join [(52,.one .bool)] .auto .auto) (.seq .auto (.seq .auto (.seq (.join [(103,.one .bool)] .auto .auto) .auto)))))
theorem c7 (p0:YZ19) (p1:Bool) (w:World) (K:Value→World→Prop) (h:C7 p0 p1 w K):Ret Tryz.prog 7 #[.agg (LZ19 p0).toArray,.bool p1] w K:=z0z (by kernel_rfl) Tryz.func7 (p:=pl7) (Eq.mpr (by kernel_rfl) h)
def C11 (p0:List Value) (p1:YZ19) (w:World) (K:Value→World→Prop):Prop:=
 NewK (.cells p0.toArray 32) w (fun g1 w2=>NewK (.cells ((LZ19 p1).toArray) 45) w2 (fun g3 w4=>LdsK KZ19 (ad g3) w4 (fun (x5:YZ19)=>CallK Tryz.prog 7 #[.agg (LZ19 x5).toArray,.bool false] w4 (.v (.one (.int .i64))) (fun (x6:Int) w7=>ifB (x6 != 0)
 (K (.tuple #[.slice none 0 0,.int .i64 x6]) w7)
 (JoinK (SlT×Unit) (fun J8=>DrewK w7 (fun w11=>HoldK (fun S12=>InK S12 ((ad g3).add 0) (LdK (.int .i64) ((ad g3).add 0) w11 (fun (x13:Int)=>InK S12 ((ad g3).add 1) (LdK (.int .i64) ((ad g3).add 1) w11 (fun (x14:Int)=>InK S12 ((ad g3).add 2) (LdK (.int .i64) ((ad g3).add 2) w11 (fun (x15:Int)=>AndK (RunK Tryz.prog (Instr.buildSlice 22 1 #[(0,.int .u8 (IntKind.u8.wrap x13))]) w11 (.v (.one .slc)) (fun (x16:SlT) w17=>KeepK S12 w11 w17 (CallK Tryz.prog 35 #[.int .i64 x14] w17 (.v (.one .slc)) (fun (x18:SlT) w19=>KeepK S12 w17 w19 (RunK Tryz.prog (Builtin.append_ #[22,22] 22 #[.slice x16.1 x16.2.1 x16.2.2,.slice x18.1 x18.2.1 x18.2.2]) w19 (.v (.one .slc)) (fun (x20:SlT) w21=>KeepK S12 w19 w21 (CallK Tryz.prog 35 #[.int .i64 x15] w21 (.v (.one .slc)) (fun (x22:SlT) w23=>RunK Tryz.prog (Builtin.append_ #[22,22] 22 #[.slice x20.1 x20.2.1 x20.2.2,.slice x22.1 x22.2.1 x22.2.2]) w23 (.v (.one .slc)) (fun (x24:SlT) w25=>J8 ((x24.1,x24.2.1,x24.2.2),()) w25)))))))))
 (CallK Tryz.prog 35 #[.int .i64 x14] w11 (.v (.one .slc)) (fun (x26:SlT) w27=>KeepK S12 w11 w27 (RunK Tryz.prog (Instr.buildSlice 22 1 #[(0,.int .u8 (IntKind.u8.wrap x13))]) w27 (.v (.one .slc)) (fun (x28:SlT) w29=>KeepK S12 w27 w29 (RunK Tryz.prog (Builtin.append_ #[22,22] 22 #[.slice x28.1 x28.2.1 x28.2.2,.slice x26.1 x26.2.1 x26.2.2]) w29 (.v (.one .slc)) (fun (x30:SlT) w31=>KeepK S12 w29 w31 (CallK Tryz.prog 35 #[.int .i64 x15] w31 (.v (.one .slc)) (fun (x32:SlT) w33=>RunK Tryz.prog (Builtin.append_ #[22,22] 22 #[.slice x30.1 x30.2.1 x30.2.2,.slice x32.1 x32.2.1 x32.2.2]) w33 (.v (.one .slc)) (fun (x34:SlT) w35=>J8 ((x34.1,x34.2.1,x34.2.2),()) w35))))))))))))))))))
 (fun _ s9 w10=>DrewK w10 (fun w36=>HoldK (fun S37=>InK S37 ((ad g3).add 3) (LdK (.int .i64) ((ad g3).add 3) w36 (fun (x38:Int)=>InK S37 ((ad g3).add 4) (LdK (.int .i64) ((ad g3).add 4) w36 (fun (x39:Int)=>InK S37 ((ad g3).add 5) (LdK (.int .u64) ((ad g3).add 5) w36 (fun (x40:Int)=>RunK Tryz.prog (Instr.buildSlice 22 1 #[(0,.int .u8 (IntKind.u8.wrap x38))]) w36 (.v (.one .slc)) (fun (x41:SlT) w42=>KeepK S37 w36 w42 (RunK Tryz.prog (Builtin.append_ #[22,22] 22 #[.slice s9.1.1 s9.1.2.1 s9.1.2.2,.slice x41.1 x41.2.1 x41.2.2]) w42 (.v (.one .slc)) (fun (x43:SlT) w44=>KeepK S37 w42 w44 (CallK Tryz.prog 35 #[.int .i64 x39] w44 (.v (.one .slc)) (fun (x45:SlT) w46=>KeepK S37 w44 w46 (RunK Tryz.prog (Builtin.append_ #[22,22] 22 #[.slice x43.1 x43.2.1 x43.2.2,.slice x45.1 x45.2.1 x45.2.2]) w46 (.v (.one .slc)) (fun (x47:SlT) w48=>KeepK S37 w46 w48 (CallK Tryz.prog 15 #[.int .u64 x40] w48 (.v (.one .slc)) (fun (x49:SlT) w50=>RunK Tryz.prog (Builtin.append_ #[22,22] 22 #[.slice x47.1 x47.2.1 x47.2.2,.slice x49.1 x49.2.1 x49.2.2]) w50 (.v (.one .slc)) (fun (x51:SlT) w52=>LdK .bool ((ad g3).add 6) w52 (fun (x53:Bool)=>ifB x53
 (RunK Tryz.prog (Instr.buildSlice 22 1 #[(0,.int .u8 1)]) w52 (.v (.one .slc)) (fun (x54:SlT) w55=>RunK Tryz.prog (Builtin.append_ #[22,22] 22 #[.slice x51.1 x51.2.1 x51.2.2,.slice x54.1 x54.2.1 x54.2.2]) w55 (.v (.one .slc)) (fun (x56:SlT) w57=>LdK (.int .i64) ((ad g3).add 3) w57 (fun (x58:Int)=>ifB (x58==1)
 (LdsK KZ16 ((ad g3).add 7) w57 (fun (x59:YZ16)=>CallK Tryz.prog 36 #[.agg (LZ16 x59).toArray] w57 (.tup [.one .slc,.one (.int .i64)]) (fun (x60:SlT×Int×Unit) w61=>ifB (x60.2.1 != 0)
 (K (.tuple #[.slice none 0 0,.int .i64 x60.2.1]) w61)
 (RunK Tryz.prog (Builtin.append_ #[22,22] 22 #[.slice x56.1 x56.2.1 x56.2.2,.slice x60.1.1 x60.1.2.1 x60.1.2.2]) w61 (.v (.one .slc)) (fun (x62:SlT) w63=>LdaK 16 (ad g1) w63 (fun x64=>CallK Tryz.prog 16 #[.agg x64.toArray,.slice x62.1 x62.2.1 x62.2.2] w63 (.v (.one (.int .u64))) (fun (x65:Int) w66=>CallK Tryz.prog 15 #[.int .u64 x65] w66 (.v (.one .slc)) (fun (x67:SlT) w68=>RunK Tryz.prog (Builtin.append_ #[22,22] 22 #[.slice x62.1 x62.2.1 x62.2.2,.slice x67.1 x67.2.1 x67.2.2]) w68 (.v (.one .slc)) (fun (x69:SlT) w70=>K (.tuple #[.slice x69.1 x69.2.1 x69.2.2,.int .i64 0]) w70)))))))))
 (LdaK 16 (ad g1) w57 (fun x71=>CallK Tryz.prog 16 #[.agg x71.toArray,.slice x56.1 x56.2.1 x56.2.2] w57 (.v (.one (.int .u64))) (fun (x72:Int) w73=>CallK Tryz.prog 15 #[.int .u64 x72] w73 (.v (.one .slc)) (fun (x74:SlT) w75=>RunK Tryz.prog (Builtin.append_ #[22,22] 22 #[.slice x56.1 x56.2.1 x56.2.2,.slice x74.1 x74.2.1 x74.2.2]) w75 (.v (.one .slc)) (fun (x76:SlT) w77=>K (.tuple #[.slice x76.1 x76.2.1 x76.2.2,.int .i64 0]) w77)))))))))
 (RunK Tryz.prog (Instr.buildSlice 22 1 #[(0,.int .u8 0)]) w52 (.v (.one .slc)) (fun (x78:SlT) w79=>RunK Tryz.prog (Builtin.append_ #[22,22] 22 #[.slice x51.1 x51.2.1 x51.2.2,.slice x78.1 x78.2.1 x78.2.2]) w79 (.v (.one .slc)) (fun (x80:SlT) w81=>LdK (.int .i64) ((ad g3).add 3) w81 (fun (x82:Int)=>ifB (x82==1)
 (LdsK KZ16 ((ad g3).add 7) w81 (fun (x83:YZ16)=>CallK Tryz.prog 36 #[.agg (LZ16 x83).toArray] w81 (.tup [.one .slc,.one (.int .i64)]) (fun (x84:SlT×Int×Unit) w85=>ifB (x84.2.1 != 0)
 (K (.tuple #[.slice none 0 0,.int .i64 x84.2.1]) w85)
 (RunK Tryz.prog (Builtin.append_ #[22,22] 22 #[.slice x80.1 x80.2.1 x80.2.2,.slice x84.1.1 x84.1.2.1 x84.1.2.2]) w85 (.v (.one .slc)) (fun (x86:SlT) w87=>LdaK 16 (ad g1) w87 (fun x88=>CallK Tryz.prog 16 #[.agg x88.toArray,.slice x86.1 x86.2.1 x86.2.2] w87 (.v (.one (.int .u64))) (fun (x89:Int) w90=>CallK Tryz.prog 15 #[.int .u64 x89] w90 (.v (.one .slc)) (fun (x91:SlT) w92=>RunK Tryz.prog (Builtin.append_ #[22,22] 22 #[.slice x86.1 x86.2.1 x86.2.2,.slice x91.1 x91.2.1 x91.2.2]) w92 (.v (.one .slc)) (fun (x93:SlT) w94=>K (.tuple #[.slice x93.1 x93.2.1 x93.2.2,.int .i64 0]) w94)))))))))
 (LdaK 16 (ad g1) w81 (fun x95=>CallK Tryz.prog 16 #[.agg x95.toArray,.slice x80.1 x80.2.1 x80.2.2] w81 (.v (.one (.int .u64))) (fun (x96:Int) w97=>CallK Tryz.prog 15 #[.int .u64 x96] w97 (.v (.one .slc)) (fun (x98:SlT) w99=>RunK Tryz.prog (Builtin.append_ #[22,22] 22 #[.slice x80.1 x80.2.1 x80.2.2,.slice x98.1 x98.2.1 x98.2.2]) w99 (.v (.one .slc)) (fun (x100:SlT) w101=>K (.tuple #[.slice x100.1 x100.2.1 x100.2.2,.int .i64 0]) w101))))))))))))))))))))))))))))))))))
def pl11:Plan:=(.seq .auto (.seq .auto (.join [(7,.one .slc)] (.held (.soft 0 (.soft 1 (.soft 2 (.soft 4 (.soft 5 (.soft 8 (.soft 9 (.pick 3 (.pick 6 (.pick 7 (.last 10 (.last 11 (.soft 12 .done))) .stop) .stop) (.pick 6 (.pick 3 (.pick 7 (.last 10 (.last 11 (.soft 12 .done))) .stop) .stop) .stop)))))))))) (.seq (.held (.soft 0 (.soft 1 (.soft 2 (.soft 3 (.soft 6 (.soft 7 (.soft 10 (.soft 11 (.pick 4 (.pick 5 (.pick 8 (.pick 9 (.last 12 (.last 13 (.soft 14 .done))) .stop) .stop) .stop) .stop)))))))))) .auto))))
theorem c11 (p0:List Value) (p1:YZ19) (w:World) (K:Value→World→Prop) (h:C11 p0 p1 w K):Ret Tryz.prog 11 #[.agg p0.toArray,.agg (LZ19 p1).toArray] w K:=z0z (by kernel_rfl) Tryz.func11 (p:=pl11) (Eq.mpr (by kernel_rfl) h)
def C19 (p0:List Value) (p1:Option Addr) (p1l p1c:Nat) (w:World) (K:Value→World→Prop):Prop:=
 NewK (.cells p0.toArray 32) w (fun g1 w2=>NewK (.cells #[.int .i64 0,.int .i64 0,.int .i64 0,.int .i64 0,.int .i64 0,.int .u64 0,.bool false,.int .i64 0,.string (⟨#[]⟩:ByteArray),.string (⟨#[]⟩:ByteArray),.string (⟨#[]⟩:ByteArray),.string (⟨#[]⟩:ByteArray),.int .i64 0,.int .i64 0,.int .i64 0,.string (⟨#[]⟩:ByteArray),.int .i64 0,.slice none 0 0] 45) w2 (fun g3 w4=>ifB (decide ((p1l:Int)<8))
 (StsK (ad g3) [.int .i64 0,.int .i64 0,.int .i64 0,.int .i64 0,.int .i64 0,.int .u64 0,.bool false,.int .i64 0,.string (⟨#[]⟩:ByteArray),.string (⟨#[]⟩:ByteArray),.string (⟨#[]⟩:ByteArray),.string (⟨#[]⟩:ByteArray),.int .i64 0,.int .i64 0,.int .i64 0,.string (⟨#[]⟩:ByteArray),.int .i64 0,.slice none 0 0] w4 (fun w5=>LdsK KZ19 (ad g3) w5 (fun (x6:YZ19)=>K (.tuple #[.agg (LZ19 x6).toArray,.int .i64 2]) w5)))
 (SubK p1 p1c 0 (IntKind.i64.wrap ((p1l:Int) - 8)) p1c 1 (fun a7 l8 c9=>JoinK (Bool×Unit) (fun J10=>DrewK w4 (fun w13=>HoldK (fun S14=>InK S14 (ad g1) (LdaK 16 (ad g1) w13 (fun x15=>SubK p1 p1c (IntKind.i64.wrap ((p1l:Int) - 8)) p1l p1c 1 (fun a16 l17 c18=>AndK (CallK Tryz.prog 16 #[.agg x15.toArray,.slice a7 l8 c9] w13 (.v (.one (.int .u64))) (fun (x19:Int) w20=>KeepK S14 w13 w20 (AndK (CallK Tryz.prog 15 #[.int .u64 x19] w20 (.v (.one .slc)) (fun (x21:SlT) w22=>KeepK S14 w20 w22 (AndK (RunK Tryz.prog (convert 22 9 (.slice x21.1 x21.2.1 x21.2.2)) w22 (.v (.one .str)) (fun (x23:ByteArray) w24=>KeepK S14 w22 w24 (RunK Tryz.prog (convert 22 9 (.slice a16 l17 c18)) w24 (.v (.one .str)) (fun (x25:ByteArray) w26=>KeepK S14 w24 w26 (J10 ((!(x23.toList==x25.toList)),()) w26)))))
 (RunK Tryz.prog (convert 22 9 (.slice a16 l17 c18)) w22 (.v (.one .str)) (fun (x27:ByteArray) w28=>KeepK S14 w22 w28 (RunK Tryz.prog (convert 22 9 (.slice x21.1 x21.2.1 x21.2.2)) w28 (.v (.one .str)) (fun (x29:ByteArray) w30=>J10 ((!(x29.toList==x27.toList)),()) w30)))))))
 (RunK Tryz.prog (convert 22 9 (.slice a16 l17 c18)) w20 (.v (.one .str)) (fun (x31:ByteArray) w32=>KeepK S14 w20 w32 (CallK Tryz.prog 15 #[.int .u64 x19] w32 (.v (.one .slc)) (fun (x33:SlT) w34=>RunK Tryz.prog (convert 22 9 (.slice x33.1 x33.2.1 x33.2.2)) w34 (.v (.one .str)) (fun (x35:ByteArray) w36=>J10 ((!(x35.toList==x31.toList)),()) w36))))))))
 (RunK Tryz.prog (convert 22 9 (.slice a16 l17 c18)) w13 (.v (.one .str)) (fun (x37:ByteArray) w38=>KeepK S14 w13 w38 (CallK Tryz.prog 16 #[.agg x15.toArray,.slice a7 l8 c9] w38 (.v (.one (.int .u64))) (fun (x39:Int) w40=>CallK Tryz.prog 15 #[.int .u64 x39] w40 (.v (.one .slc)) (fun (x41:SlT) w42=>RunK Tryz.prog (convert 22 9 (.slice x41.1 x41.2.1 x41.2.2)) w42 (.v (.one .str)) (fun (x43:ByteArray) w44=>J10 ((!(x43.toList==x37.toList)),()) w44))))))))))))
 (fun _ s11 w12=>ifB s11.1
 (StsK (ad g3) [.int .i64 0,.int .i64 0,.int .i64 0,.int .i64 0,.int .i64 0,.int .u64 0,.bool false,.int .i64 0,.string (⟨#[]⟩:ByteArray),.string (⟨#[]⟩:ByteArray),.string (⟨#[]⟩:ByteArray),.string (⟨#[]⟩:ByteArray),.int .i64 0,.int .i64 0,.int .i64 0,.string (⟨#[]⟩:ByteArray),.int .i64 0,.slice none 0 0] w12 (fun w45=>LdsK KZ19 (ad g3) w45 (fun (x46:YZ19)=>K (.tuple #[.agg (LZ19 x46).toArray,.int .i64 12]) w45)))
 (ifB (decide ((l8:Int)<35))
 (StsK (ad g3) [.int .i64 0,.int .i64 0,.int .i64 0,.int .i64 0,.int .i64 0,.int .u64 0,.bool false,.int .i64 0,.string (⟨#[]⟩:ByteArray),.string (⟨#[]⟩:ByteArray),.string (⟨#[]⟩:ByteArray),.string (⟨#[]⟩:ByteArray),.int .i64 0,.int .i64 0,.int .i64 0,.string (⟨#[]⟩:ByteArray),.int .i64 0,.slice none 0 0] w12 (fun w47=>LdsK KZ19 (ad g3) w47 (fun (x48:YZ19)=>K (.tuple #[.agg (LZ19 x48).toArray,.int .i64 2]) w47)))
 (DrewK w12 (fun w49=>HoldK (fun S50=>IdxK a7 l8 0 1 (fun a51=>InK S50 a51 (LdK (.int .u8) a51 w49 (fun (x52:Int)=>IdxK a7 l8 17 1 (fun a53=>InK S50 a53 (LdK (.int .u8) a53 w49 (fun (x54:Int)=>IdxK a7 l8 34 1 (fun a55=>InK S50 a55 (LdK (.int .u8) a55 w49 (fun (x56:Int)=>NewK (.cells #[.int .i64 0,.int .i64 0,.int .i64 0,.int .i64 0,.int .i64 0,.int .u64 0,.bool false,.int .i64 0,.string (⟨#[]⟩:ByteArray),.string (⟨#[]⟩:ByteArray),.string (⟨#[]⟩:ByteArray),.string (⟨#[]⟩:ByteArray),.int .i64 0,.int .i64 0,.int .i64 0,.string (⟨#[]⟩:ByteArray),.int .i64 0,.slice none 0 0] 45) w49 (fun g57 w58=>KeepK S50 w49 w58 (StsK (ad g57) [.int .i64 (IntKind.i64.wrap x52),.int .i64 0,.int .i64 0,.int .i64 (IntKind.i64.wrap x54),.int .i64 0,.int .u64 0,.bool (x56==1),.int .i64 0,.string (⟨#[]⟩:ByteArray),.string (⟨#[]⟩:ByteArray),.string (⟨#[]⟩:ByteArray),.string (⟨#[]⟩:ByteArray),.int .i64 0,.int .i64 0,.int .i64 0,.string (⟨#[]⟩:ByteArray),.int .i64 0,.slice none 0 0] w58 (fun w59=>SubK a7 c9 1 9 c9 1 (fun a60 l61 c62=>CallK Tryz.prog 42 #[.slice a60 l61 c62] w59 (.tup [.one (.int .i64),.one .bool]) (fun (x63:Int×Bool×Unit) w64=>StK ((ad g57).add 1) (.int .i64 x63.1) w64 (fun w65=>SubK a7 c9 9 17 c9 1 (fun a66 l67 c68=>CallK Tryz.prog 42 #[.slice a66 l67 c68] w65 (.tup [.one (.int .i64),.one .bool]) (fun (x69:Int×Bool×Unit) w70=>StK ((ad g57).add 2) (.int .i64 x69.1) w70 (fun w71=>SubK a7 c9 18 26 c9 1 (fun a72 l73 c74=>CallK Tryz.prog 42 #[.slice a72 l73 c74] w71 (.tup [.one (.int .i64),.one .bool]) (fun (x75:Int×Bool×Unit) w76=>StK ((ad g57).add 4) (.int .i64 x75.1) w76 (fun w77=>LoopK (Int×Unit) (fun _ s78 w79 next80=>ifB (decide (s78.1 ≥ 26))
 (DrewK w79 (fun w81=>HoldK (fun S82=>InK S82 ((ad g57).add 5) (LdK (.int .u64) ((ad g57).add 5) w81 (fun (x83:Int)=>NnK 8 (IdxK a7 l8 s78.1 1 (fun a84=>InK S82 a84 (LdK (.int .u8) a84 w81 (fun (x85:Int)=>StK ((ad g57).add 5) (.int .u64 (IntKind.u64.wrap ((BitVec.ofInt 64 (IntKind.u64.wrap (x83 * 2 ^ (min (Int.toNat 8) 64))) ||| BitVec.ofInt 64 (IntKind.u64.wrap x85)).toNat:Int))) w81 (fun w86=>next80 (IntKind.i64.wrap (s78.1 - 1),()) w86))))))))))
 (LdK (.int .i64) ((ad g57).add 3) w79 (fun (x87:Int)=>ifB (x87==1)
 (SubK a7 c9 35 l8 c9 1 (fun a88 l89 c90=>CallK Tryz.prog 43 #[.slice a88 l89 c90] w79 (.tup [.agg KZ16,.one (.int .i64)]) (fun (x91:YZ16×Int×Unit) w92=>StsK ((ad g57).add 7) [.int .i64 x91.1.1,.string x91.1.2.1,.string x91.1.2.2.1,.string x91.1.2.2.2.1,.string x91.1.2.2.2.2.1,.int .i64 x91.1.2.2.2.2.2.1,.int .i64 x91.1.2.2.2.2.2.2.1,.int .i64 x91.1.2.2.2.2.2.2.2.1,.string x91.1.2.2.2.2.2.2.2.2.1,.int .i64 x91.1.2.2.2.2.2.2.2.2.2.1,.slice x91.1.2.2.2.2.2.2.2.2.2.2.1.1 x91.1.2.2.2.2.2.2.2.2.2.2.1.2.1 x91.1.2.2.2.2.2.2.2.2.2.2.1.2.2] w92 (fun w93=>LdaK 16 (ad g1) w93 (fun x94=>LdsK KZ19 (ad g57) w93 (fun (x95:YZ19)=>CallK Tryz.prog 11 #[.agg x94.toArray,.agg (LZ19 x95).toArray] w93 (.tup [.one .slc,.one (.int .i64)]) (fun (x96:SlT×Int×Unit) w97=>ifB (x96.2.1 != 0)
 (StsK (ad g3) [.int .i64 0,.int .i64 0,.int .i64 0,.int .i64 0,.int .i64 0,.int .u64 0,.bool false,.int .i64 0,.string (⟨#[]⟩:ByteArray),.string (⟨#[]⟩:ByteArray),.string (⟨#[]⟩:ByteArray),.string (⟨#[]⟩:ByteArray),.int .i64 0,.int .i64 0,.int .i64 0,.string (⟨#[]⟩:ByteArray),.int .i64 0,.slice none 0 0] w97 (fun w98=>LdsK KZ19 (ad g3) w98 (fun (x99:YZ19)=>K (.tuple #[.agg (LZ19 x99).toArray,.int .i64 2]) w98)))
 (RunK Tryz.prog (convert 22 9 (.slice x96.1.1 x96.1.2.1 x96.1.2.2)) w97 (.v (.one .str)) (fun (x100:ByteArray) w101=>RunK Tryz.prog (convert 22 9 (.slice p1 p1l p1c)) w101 (.v (.one .str)) (fun (x102:ByteArray) w103=>ifB (!(x100.toList==x102.toList))
 (StsK (ad g3) [.int .i64 0,.int .i64 0,.int .i64 0,.int .i64 0,.int .i64 0,.int .u64 0,.bool false,.int .i64 0,.string (⟨#[]⟩:ByteArray),.string (⟨#[]⟩:ByteArray),.string (⟨#[]⟩:ByteArray),.string (⟨#[]⟩:ByteArray),.int .i64 0,.int .i64 0,.int .i64 0,.string (⟨#[]⟩:ByteArray),.int .i64 0,.slice none 0 0] w103 (fun w104=>LdsK KZ19 (ad g3) w104 (fun (x105:YZ19)=>K (.tuple #[.agg (LZ19 x105).toArray,.int .i64 2]) w104)))
 (LdsK KZ19 (ad g57) w103 (fun (x106:YZ19)=>StsK (ad g3) (LZ19 x106) w103 (fun w107=>LdsK KZ19 (ad g3) w107 (fun (x108:YZ19)=>K (.tuple #[.agg (LZ19 x108).toArray,.int .i64 0]) w107))))))))))))))
 (LdaK 16 (ad g1) w79 (fun x109=>LdsK KZ19 (ad g57) w79 (fun (x110:YZ19)=>CallK Tryz.prog 11 #[.agg x109.toArray,.agg (LZ19 x110).toArray] w79 (.tup [.one .slc,.one (.int .i64)]) (fun (x111:SlT×Int×Unit) w112=>ifB (x111.2.1 != 0)
 (StsK (ad g3) [.int .i64 0,.int .i64 0,.int .i64 0,.int .i64 0,.int .i64 0,.int .u64 0,.bool false,.int .i64 0,.string (⟨#[]⟩:ByteArray),.string (⟨#[]⟩:ByteArray),.string (⟨#[]⟩:ByteArray),.string (⟨#[]⟩:ByteArray),.int .i64 0,.int .i64 0,.int .i64 0,.string (⟨#[]⟩:ByteArray),.int .i64 0,.slice none 0 0] w112 (fun w113=>LdsK KZ19 (ad g3) w113 (fun (x114:YZ19)=>K (.tuple #[.agg (LZ19 x114).toArray,.int .i64 2]) w113)))
 (RunK Tryz.prog (convert 22 9 (.slice x111.1.1 x111.1.2.1 x111.1.2.2)) w112 (.v (.one .str)) (fun (x115:ByteArray) w116=>RunK Tryz.prog (convert 22 9 (.slice p1 p1l p1c)) w116 (.v (.one .str)) (fun (x117:ByteArray) w118=>ifB (!(x115.toList==x117.toList))
 (StsK (ad g3) [.int .i64 0,.int .i64 0,.int .i64 0,.int .i64 0,.int .i64 0,.int .u64 0,.bool false,.int .i64 0,.string (⟨#[]⟩:ByteArray),.string (⟨#[]⟩:ByteArray),.string (⟨#[]⟩:ByteArray),.string (⟨#[]⟩:ByteArray),.int .i64 0,.int .i64 0,.int .i64 0,.string (⟨#[]⟩:ByteArray),.int .i64 0,.slice none 0 0] w118 (fun w119=>LdsK KZ19 (ad g3) w119 (fun (x120:YZ19)=>K (.tuple #[.agg (LZ19 x120).toArray,.int .i64 2]) w119)))
 (LdsK KZ19 (ad g57) w118 (fun (x121:YZ19)=>StsK (ad g3) (LZ19 x121) w118 (fun w122=>LdsK KZ19 (ad g3) w122 (fun (x123:YZ19)=>K (.tuple #[.agg (LZ19 x123).toArray,.int .i64 0]) w122))))))))))))))
 (33,()) w77))))))))))))))))))))))))))))))
def pl19:Plan:=(.seq .auto (.seq .auto (.seq .auto (.seq (.join [(31,.one .bool)] (.held (.soft 0 (.soft 1 (.soft 5 (.soft 6 (.soft 7 (.soft 8 (.soft 9 (.pick 2 (.pick 3 (.pick 4 (.pick 10 (.soft 11 .done) .stop) (.pick 10 (.last 4 (.soft 11 .done)) .stop)) (.pick 10 (.last 3 (.last 4 (.soft 11 .done))) .stop)) (.pick 10 (.last 2 (.last 3 (.last 4 (.soft 11 .done)))) .stop)))))))))) .auto) (.seq .auto (.seq (.held (.soft 0 (.soft 1 (.soft 2 (.soft 3 (.soft 4 (.soft 5 (.soft 6 (.soft 7 (.soft 8 (.soft 9 (.soft 10 (.soft 11 (.soft 12 (.pick 13 (.last 14 .done) .stop))))))))))))))) (.seq .auto (.seq .auto (.seq .auto (.seq (.seq .auto (.block (.loop [(8,.one (.int .i64))] (.seq .auto (.seq (.block (.held (.soft 0 (.soft 1 (.soft 2 (.soft 3 (.soft 4 (.soft 5 (.soft 6 (.soft 7 (.soft 8 (.soft 9 (.last 10 .done))))))))))))) .auto))))) .auto))))))))))
theorem c19 (p0:List Value) (p1:Option Addr) (p1l p1c:Nat) (w:World) (K:Value→World→Prop) (h:C19 p0 p1 p1l p1c w K):Ret Tryz.prog 19 #[.agg p0.toArray,.slice p1 p1l p1c] w K:=z0z (by kernel_rfl) Tryz.func19 (p:=pl19) (Eq.mpr (by kernel_rfl) h)
theorem far_spec (n:Int) (w:World):Ret Tryz.prog 28 #[.int .i64 n] w fun r w'=>r=.bool (!countsF n)∧w=w':=by
 refine c28 n w _ ?_
 unfold C28
 refine ifB.dec (fun q=>⟨?_,rfl⟩) (fun q=>⟨?_,rfl⟩)
 ·rw [show countsF n=false by unfold countsF;simp;omega];rfl
 ·refine congrArg Value.bool ?_
  unfold countsF
  by_cases h:n≤2147483647
  ·rw [decide_eq_false (by omega),decide_eq_true (show 0≤n by omega),decide_eq_true h];rfl
  ·rw [decide_eq_true (by omega),decide_eq_false h,Bool.and_false];rfl
theorem check17_gen (f:FrT) (v:TV) (od:Bool) (tr:Int) (w:World)
  (hev:∀ w1,Fr none1 w w1→Ret Tryz.prog 29 #[evRA (evR (frE f) v),.bool od] w1 fun r w'=>r=.int .i64 (checkF (frE f) tr)∧Fr none1 w1 w')
  (hnil:(v.1 != 0||od)=!(nilT (frE f).2.2.2.2.2.2.2.1)) :
  Ret Tryz.prog 7 #[frRA (frR f v),.bool od] w fun r w'=>r=.int .i64 (checkFr f tr)∧Fr none1 w w':=by
 refine c7 (frR f v) od w _ ?_
 unfold C7
 refine NewK.of fun g w1 hg hb f1 hs1=>?_
 have hb:w1.heap[g]? = some (.cells (frRL (frR f v)).toArray 45 (0,0)):=hb
 refine JoinK.of (fun st w'=>st.1=(!(headF f&&kindF f))∧w1=w') ?_ ?_
 ·refine LdK.fld hb (x:=f.1) rfl (ifB.dec (fun q=>⟨?_,rfl⟩) (fun q=>LdK.fld hb (x:=f.1) rfl (ifB.dec (fun q2=>⟨?_,rfl⟩) (fun q2=>?_))))
  ·unfold headF;rw [show (f.1==0||f.1==1)=false by simp;omega];rfl
  ·unfold headF;rw [show (f.1==0||f.1==1)=false by simp;omega];rfl
  have h0:(f.1==0||f.1==1)=true:=by simp;omega
  refine LdK.fld hb (x:=f.2.1) rfl (CallK.of (far_spec f.2.1 w1) ?_)
  rintro _ _ ⟨rfl,rfl⟩
  refine ⟨_,rfl,ifB.by (fun q=>⟨?_,rfl⟩) (fun q=>?_)⟩
  ·unfold headF;rw [h0,show countsF f.2.1=false by simpa using q];rfl
  have h1:countsF f.2.1=true:=by simpa using q
  refine LdK.fld hb (x:=f.2.2.1) rfl (CallK.of (far_spec f.2.2.1 w1) ?_)
  rintro _ _ ⟨rfl,rfl⟩
  refine ⟨_,rfl,ifB.by (fun q=>⟨?_,rfl⟩) (fun q=>?_)⟩
  ·unfold headF;rw [h0,h1,show countsF f.2.2.1=false by simpa using q];rfl
  have h2:countsF f.2.2.1=true:=by simpa using q
  refine LdK.fld hb (x:=f.2.2.2.2.1) rfl (CallK.of (far_spec f.2.2.2.2.1 w1) ?_)
  rintro _ _ ⟨rfl,rfl⟩
  refine ⟨_,rfl,ifB.by (fun q=>⟨?_,rfl⟩) (fun q=>?_)⟩
  ·unfold headF;rw [h0,h1,h2,show countsF f.2.2.2.2.1=false by simpa using q];rfl
  have h3:countsF f.2.2.2.2.1=true:=by simpa using q
  have hh:headF f=true:=by unfold headF;rw [h0,h1,h2,h3];rfl
  rw [hh,Bool.true_and]
  unfold kindF
  refine LdK.fld hb (x:=f.2.2.2.1) rfl (ifB.dec (fun q=>⟨?_,rfl⟩) (fun q=>LdK.fld hb (x:=f.2.2.2.1) rfl (ifB.dec (fun q2=>⟨?_,rfl⟩) (fun q2=>?_))))
  ·rw [decide_eq_false (show ¬ (1≤f.2.2.2.1) by omega)];rfl
  ·rw [decide_eq_false (show ¬ (f.2.2.2.1≤4) by omega),Bool.false_and,Bool.and_false];rfl
  rw [decide_eq_true (show 1≤f.2.2.2.1 by omega),decide_eq_true (show f.2.2.2.1≤4 by omega),Bool.true_and,Bool.true_and,Bool.not_not]
  refine LdK.fld hb (x:=f.2.2.2.2.2.2.1) rfl (ifB.by (fun q=>LdK.fld hb (x:=f.2.2.2.1) rfl (ifB.by (fun q2=>⟨?_,rfl⟩) (fun q2=>LdK.fld hb (x:=f.2.2.2.1) rfl ⟨?_,rfl⟩))) (fun q=>⟨?_,rfl⟩))
  ·rw [q,q2];rfl
  ·rw [q,q2];rfl
  ·rw [q];rfl
 rintro _ ⟨bd,_⟩ _ ⟨hbd,rfl⟩
 dsimp only at hbd ⊢
 refine ifB.by (fun q=>⟨?_,f1⟩) (fun q=>?_)
 ·rw [q] at hbd
  unfold checkFr
  by_cases hh:headF f=false
  ·rw [if_pos hh]
  ·rw [if_neg hh,if_pos (by cases hk:kindF f with | false=>rfl | true=>rw [hk,show headF f=true by simpa using hh] at hbd;cases hbd)]
 rw [q] at hbd
 have hbt:headF f=true∧kindF f=true:=by
  cases h1:headF f<;>cases h2:kindF f<;>rw [h1,h2] at hbd<;>first | exact ⟨rfl,rfl⟩ | cases hbd
 have hC:checkFr f tr=if f.2.2.2.1=1 then checkF (frE f) tr else if noneF (frE f)=false then 1 else 0:=by
  unfold checkFr;rw [if_neg (by rw [hbt.1];decide),if_neg (by rw [hbt.2];decide)]
 refine LdK.fld hb (x:=f.2.2.2.1) rfl (ifB.eq (fun q=>frr_ev hb ?_) (fun q=>frr_ev hb ?_))
 ·refine CallK.of (hev w1 f1) ?_
  rintro _ w2 ⟨rfl,f2⟩
  exact ⟨_,rfl,by rw [hC,if_pos q],f1.trans f2⟩
 rw [if_neg q] at hC
 refine ns_ok (vs:=evRL (evR (frE f) v)) rfl rfl fun g2 w2 hg2 hb2 f2=>?_
 refine JoinK.of (fun st w'=>st.1=(!(noneF (frE f)))∧w2=w') ?_ ?_
 ·unfold noneF
  cases hn:nilT (frE f).2.2.2.2.2.2.2.1 with
  | true=>
   rw [hn] at hnil
   obtain ⟨hv0,hod⟩:v.1=0∧od=false:=by
    cases od with
    | true=>rw [Bool.or_true] at hnil;cases hnil
    | false=>exact ⟨by simpa using hnil,rfl⟩
   rw [Bool.true_and]
   refine LdK.fld hb2 (x:=(frE f).1) rfl (ifB.ne (fun q=>⟨?_,rfl⟩) (fun q=>?_))
   ·rw [show ((frE f).1==0)=false by simpa using q];rfl
   rw [show ((frE f).1==0)=true by simpa using q,Bool.true_and]
   refine LdK.fld hb2 (x:=(frE f).2.1) rfl (ifB.not (ifB.by (fun q=>?_) (fun q=>⟨?_,rfl⟩)))
   rotate_left
   ·rw [show emptyB (frE f).2.1=false from q];rfl
   rw [show emptyB (frE f).2.1=true from q,Bool.true_and]
   refine LdK.fld hb2 (x:=(frE f).2.2.1) rfl (ifB.not (ifB.by (fun q=>?_) (fun q=>⟨?_,rfl⟩)))
   rotate_left
   ·rw [show emptyB (frE f).2.2.1=false from q];rfl
   rw [show emptyB (frE f).2.2.1=true from q,Bool.true_and]
   refine LdK.fld hb2 (x:=(frE f).2.2.2.1) rfl (ifB.not (ifB.by (fun q=>?_) (fun q=>⟨?_,rfl⟩)))
   rotate_left
   ·rw [show emptyB (frE f).2.2.2.1=false from q];rfl
   rw [show emptyB (frE f).2.2.2.1=true from q,Bool.true_and]
   refine LdK.fld hb2 (x:=(frE f).2.2.2.2.1) rfl (ifB.not (ifB.by (fun q=>?_) (fun q=>⟨?_,rfl⟩)))
   rotate_left
   ·rw [show emptyB (frE f).2.2.2.2.1=false from q];rfl
   rw [show emptyB (frE f).2.2.2.2.1=true from q,Bool.true_and]
   refine LdK.fld hb2 (x:=(frE f).2.2.2.2.2.1) rfl (ifB.ne (fun q=>⟨?_,rfl⟩) (fun q=>?_))
   ·rw [show ((frE f).2.2.2.2.2.1==0)=false by simpa using q];rfl
   rw [show ((frE f).2.2.2.2.2.1==0)=true by simpa using q,Bool.true_and]
   refine LdK.fld hb2 (x:=(frE f).2.2.2.2.2.2.1) rfl (ifB.ne (fun q=>⟨?_,rfl⟩) (fun q=>?_))
   ·rw [show ((frE f).2.2.2.2.2.2.1==0)=false by simpa using q];rfl
   rw [show ((frE f).2.2.2.2.2.2.1==0)=true by simpa using q]
   refine LdK.fld hb2 (x:=v.1) rfl (ifB.ne (fun q=>absurd hv0 q) (fun _=>⟨hod,rfl⟩))
  | false=>
   rw [hn] at hnil
   rw [Bool.false_and,Bool.not_false]
   refine LdK.fld hb2 (x:=(frE f).1) rfl (ifB.by (fun _=>⟨rfl,rfl⟩) (fun _=>?_))
   refine LdK.fld hb2 (x:=(frE f).2.1) rfl (ifB.by (fun _=>⟨rfl,rfl⟩) (fun _=>?_))
   refine LdK.fld hb2 (x:=(frE f).2.2.1) rfl (ifB.by (fun _=>⟨rfl,rfl⟩) (fun _=>?_))
   refine LdK.fld hb2 (x:=(frE f).2.2.2.1) rfl (ifB.by (fun _=>⟨rfl,rfl⟩) (fun _=>?_))
   refine LdK.fld hb2 (x:=(frE f).2.2.2.2.1) rfl (ifB.by (fun _=>⟨rfl,rfl⟩) (fun _=>?_))
   refine LdK.fld hb2 (x:=(frE f).2.2.2.2.2.1) rfl (ifB.by (fun _=>⟨rfl,rfl⟩) (fun _=>?_))
   refine LdK.fld hb2 (x:=(frE f).2.2.2.2.2.2.1) rfl (ifB.by (fun _=>⟨rfl,rfl⟩) (fun _=>?_))
   refine LdK.fld hb2 (x:=v.1) rfl (ifB.by (fun _=>⟨rfl,rfl⟩) (fun q=>⟨?_,rfl⟩))
   rw [q] at hnil;simpa using hnil
 rintro _ ⟨nb,_⟩ _ ⟨hnb,rfl⟩
 dsimp only at hnb ⊢
 have f12:=f1.trans f2
 refine ifB.by (fun q=>⟨?_,f12⟩) (fun q=>⟨?_,f12⟩)
 ·rw [hC,if_pos (by rw [q] at hnb;simpa using hnb)]
 ·rw [hC,if_neg (by rw [q] at hnb;simpa using hnb)]
def C66 (p0:Int) (p1:Int) (w:World) (K:Value→World→Prop):Prop:=
 NnK p1 (NnK (IntKind.u64.wrap (64 - p1)) (K (.int .u64 (IntKind.u64.wrap ((BitVec.ofInt 64 (IntKind.u64.wrap (p0 * 2 ^ (min (Int.toNat p1) 64))) ||| BitVec.ofInt 64 (Int.fdiv p0 (2 ^ (min (Int.toNat (IntKind.u64.wrap (64 - p1))) 64)))).toNat:Int))) w))
def pl66:Plan:=.auto
theorem c66 (p0:Int) (p1:Int) (w:World) (K:Value→World→Prop) (h:C66 p0 p1 w K):Ret Tryz.prog 66 #[.int .u64 p0,.int .u64 p1] w K:=z0z (by kernel_rfl) Tryz.func66 (p:=pl66) (Eq.mpr (by kernel_rfl) h)
def C37 (p0:Option Addr) (p0l p0c:Nat) (w:World) (K:Value→World→Prop):Prop:=
 LoopK (Int×Int×Unit) (fun _ s1 w2 next3=>ifB (decide (s1.2.1 ≥ 0))
 (NnK 8 (IdxK p0 p0l s1.2.1 1 (fun a4=>LdK (.int .u8) a4 w2 (fun (x5:Int)=>next3 (IntKind.u64.wrap ((BitVec.ofInt 64 (IntKind.u64.wrap (s1.1 * 2 ^ (min (Int.toNat 8) 64))) ||| BitVec.ofInt 64 (IntKind.u64.wrap x5)).toNat:Int),IntKind.i64.wrap (s1.2.1 - 1),()) w2))))
 (K (.int .u64 s1.1) w2))
 (0,7,()) w
def pl37:Plan:=(.seq .auto (.seq .auto (.seq (.seq .auto (.block (.loop [(3,.one (.int .u64)),(4,.one (.int .i64))] .auto))) .auto)))
theorem c37 (p0:Option Addr) (p0l p0c:Nat) (w:World) (K:Value→World→Prop) (h:C37 p0 p0l p0c w K):Ret Tryz.prog 37 #[.slice p0 p0l p0c] w K:=z0z (by kernel_rfl) Tryz.func37 (p:=pl37) (Eq.mpr (by kernel_rfl) h)
def C38 (p0:List Value) (w:World) (K:Value→World→Prop):Prop:=
 NewK (.cells p0.toArray 84) w (fun g1 w2=>NewK (.cells #[.int .u64 0,.int .u64 0,.int .u64 0,.int .u64 0] 84) w2 (fun g3 w4=>AixK (ad g1) 4 0 1 (fun a5=>LdK (.int .u64) a5 w4 (fun (x6:Int)=>AixK (ad g1) 4 1 1 (fun a7=>LdK (.int .u64) a7 w4 (fun (x8:Int)=>AixK (ad g1) 4 0 1 (fun a9=>StK a9 (.int .u64 (IntKind.u64.wrap (x6+x8))) w4 (fun w10=>DrewK w10 (fun w11=>HoldK (fun S12=>AixK (ad g1) 4 1 1 (fun a13=>InK S12 a13 (LdK (.int .u64) a13 w11 (fun (x14:Int)=>AixK (ad g1) 4 0 1 (fun a15=>InK S12 a15 (LdK (.int .u64) a15 w11 (fun (x16:Int)=>CallK Tryz.prog 66 #[.int .u64 x14,.int .u64 13] w11 (.v (.one (.int .u64))) (fun (x17:Int) w18=>KeepK S12 w11 w18 (AixK (ad g1) 4 1 1 (fun a19=>StK a19 (.int .u64 (IntKind.u64.wrap ((BitVec.ofInt 64 x17 ^^^ BitVec.ofInt 64 x16).toNat:Int))) w18 (fun w20=>AixK (ad g1) 4 0 1 (fun a21=>LdK (.int .u64) a21 w20 (fun (x22:Int)=>CallK Tryz.prog 66 #[.int .u64 x22,.int .u64 32] w20 (.v (.one (.int .u64))) (fun (x23:Int) w24=>AixK (ad g1) 4 0 1 (fun a25=>StK a25 (.int .u64 x23) w24 (fun w26=>AixK (ad g1) 4 2 1 (fun a27=>LdK (.int .u64) a27 w26 (fun (x28:Int)=>AixK (ad g1) 4 3 1 (fun a29=>LdK (.int .u64) a29 w26 (fun (x30:Int)=>AixK (ad g1) 4 2 1 (fun a31=>StK a31 (.int .u64 (IntKind.u64.wrap (x28+x30))) w26 (fun w32=>DrewK w32 (fun w33=>HoldK (fun S34=>AixK (ad g1) 4 3 1 (fun a35=>InK S34 a35 (LdK (.int .u64) a35 w33 (fun (x36:Int)=>AixK (ad g1) 4 2 1 (fun a37=>InK S34 a37 (LdK (.int .u64) a37 w33 (fun (x38:Int)=>CallK Tryz.prog 66 #[.int .u64 x36,.int .u64 16] w33 (.v (.one (.int .u64))) (fun (x39:Int) w40=>KeepK S34 w33 w40 (AixK (ad g1) 4 3 1 (fun a41=>StK a41 (.int .u64 (IntKind.u64.wrap ((BitVec.ofInt 64 x39 ^^^ BitVec.ofInt 64 x38).toNat:Int))) w40 (fun w42=>AixK (ad g1) 4 0 1 (fun a43=>LdK (.int .u64) a43 w42 (fun (x44:Int)=>AixK (ad g1) 4 3 1 (fun a45=>LdK (.int .u64) a45 w42 (fun (x46:Int)=>AixK (ad g1) 4 0 1 (fun a47=>StK a47 (.int .u64 (IntKind.u64.wrap (x44+x46))) w42 (fun w48=>DrewK w48 (fun w49=>HoldK (fun S50=>AixK (ad g1) 4 3 1 (fun a51=>InK S50 a51 (LdK (.int .u64) a51 w49 (fun (x52:Int)=>AixK (ad g1) 4 0 1 (fun a53=>InK S50 a53 (LdK (.int .u64) a53 w49 (fun (x54:Int)=>CallK Tryz.prog 66 #[.int .u64 x52,.int .u64 21] w49 (.v (.one (.int .u64))) (fun (x55:Int) w56=>KeepK S50 w49 w56 (AixK (ad g1) 4 3 1 (fun a57=>StK a57 (.int .u64 (IntKind.u64.wrap ((BitVec.ofInt 64 x55 ^^^ BitVec.ofInt 64 x54).toNat:Int))) w56 (fun w58=>AixK (ad g1) 4 2 1 (fun a59=>LdK (.int .u64) a59 w58 (fun (x60:Int)=>AixK (ad g1) 4 1 1 (fun a61=>LdK (.int .u64) a61 w58 (fun (x62:Int)=>AixK (ad g1) 4 2 1 (fun a63=>StK a63 (.int .u64 (IntKind.u64.wrap (x60+x62))) w58 (fun w64=>DrewK w64 (fun w65=>HoldK (fun S66=>AixK (ad g1) 4 1 1 (fun a67=>InK S66 a67 (LdK (.int .u64) a67 w65 (fun (x68:Int)=>AixK (ad g1) 4 2 1 (fun a69=>InK S66 a69 (LdK (.int .u64) a69 w65 (fun (x70:Int)=>CallK Tryz.prog 66 #[.int .u64 x68,.int .u64 17] w65 (.v (.one (.int .u64))) (fun (x71:Int) w72=>KeepK S66 w65 w72 (AixK (ad g1) 4 1 1 (fun a73=>StK a73 (.int .u64 (IntKind.u64.wrap ((BitVec.ofInt 64 x71 ^^^ BitVec.ofInt 64 x70).toNat:Int))) w72 (fun w74=>AixK (ad g1) 4 2 1 (fun a75=>LdK (.int .u64) a75 w74 (fun (x76:Int)=>CallK Tryz.prog 66 #[.int .u64 x76,.int .u64 32] w74 (.v (.one (.int .u64))) (fun (x77:Int) w78=>AixK (ad g1) 4 2 1 (fun a79=>StK a79 (.int .u64 x77) w78 (fun w80=>LdaK 4 (ad g1) w80 (fun x81=>AndK (x81.length=4) (StsK (ad g3) x81 w80 (fun w82=>LdaK 4 (ad g3) w82 (fun x83=>K (.agg x83.toArray) w82))))))))))))))))))))))))))))))))))))))))))))))))))))))))))))))))))))))))))))))))))))))))
def pl38:Plan:=(.seq .auto (.seq .auto (.seq (.held (.soft 0 (.soft 1 (.soft 3 (.soft 4 (.pick 2 (.soft 5 (.soft 6 (.last 7 .done))) .stop)))))) (.seq .auto (.seq .auto (.seq (.held (.soft 0 (.soft 1 (.soft 3 (.soft 4 (.pick 2 (.soft 5 (.soft 6 (.last 7 .done))) .stop)))))) (.seq .auto (.seq (.held (.soft 0 (.soft 1 (.soft 3 (.soft 4 (.pick 2 (.soft 5 (.soft 6 (.last 7 .done))) .stop)))))) (.seq .auto (.seq (.held (.soft 0 (.soft 1 (.soft 3 (.soft 4 (.pick 2 (.soft 5 (.soft 6 (.last 7 .done))) .stop)))))) .auto))))))))))
theorem c38 (p0:List Value) (w:World) (K:Value→World→Prop) (h:C38 p0 w K):Ret Tryz.prog 38 #[.agg p0.toArray] w K:=z0z (by kernel_rfl) Tryz.func38 (p:=pl38) (Eq.mpr (by kernel_rfl) h)
def C16 (p0:List Value) (p1:Option Addr) (p1l p1c:Nat) (w:World) (K:Value→World→Prop):Prop:=
 NewK (.cells p0.toArray 32) w (fun g1 w2=>DrewK w2 (fun w3=>HoldK (fun S4=>SubK (some (ad g1)) 16 0 8 16 1 (fun a5 l6 c7=>SubK (some (ad g1)) 16 8 16 16 1 (fun a8 l9 c10=>CallK Tryz.prog 37 #[.slice a5 l6 c7] w3 (.v (.one (.int .u64))) (fun (x11:Int) w12=>KeepK S4 w3 w12 (CallK Tryz.prog 37 #[.slice a8 l9 c10] w12 (.v (.one (.int .u64))) (fun (x13:Int) w14=>KeepK S4 w12 w14 (NewK (.cells #[.int .u64 0,.int .u64 0,.int .u64 0,.int .u64 0] 84) w14 (fun g15 w16=>AndK (([.int .u64 (IntKind.u64.wrap ((BitVec.ofInt 64 x11 ^^^ BitVec.ofInt 64 8317987319222330741).toNat:Int)),.int .u64 (IntKind.u64.wrap ((BitVec.ofInt 64 x13 ^^^ BitVec.ofInt 64 7237128888997146477).toNat:Int)),.int .u64 (IntKind.u64.wrap ((BitVec.ofInt 64 x11 ^^^ BitVec.ofInt 64 7816392313619706465).toNat:Int)),.int .u64 (IntKind.u64.wrap ((BitVec.ofInt 64 x13 ^^^ BitVec.ofInt 64 8387220255154660723).toNat:Int))]:List Value).length=4) (StsK (ad g15) [.int .u64 (IntKind.u64.wrap ((BitVec.ofInt 64 x11 ^^^ BitVec.ofInt 64 8317987319222330741).toNat:Int)),.int .u64 (IntKind.u64.wrap ((BitVec.ofInt 64 x13 ^^^ BitVec.ofInt 64 7237128888997146477).toNat:Int)),.int .u64 (IntKind.u64.wrap ((BitVec.ofInt 64 x11 ^^^ BitVec.ofInt 64 7816392313619706465).toNat:Int)),.int .u64 (IntKind.u64.wrap ((BitVec.ofInt 64 x13 ^^^ BitVec.ofInt 64 8387220255154660723).toNat:Int))] w16 (fun w17=>RunK Tryz.prog (Builtin.append_ #[22,22] 22 #[.slice none 0 0,.slice p1 p1l p1c]) w17 (.v (.one .slc)) (fun (x18:SlT) w19=>LoopK (SlT×Unit) (fun _ s20 w21 next22=>NzK 8 (ifB ((Int.tmod (s20.1.2.1:Int) 8) != 7)
 (RunK Tryz.prog (Instr.buildSlice 22 1 #[(0,.int .u8 0)]) w21 (.v (.one .slc)) (fun (x23:SlT) w24=>RunK Tryz.prog (Builtin.append_ #[22,22] 22 #[.slice s20.1.1 s20.1.2.1 s20.1.2.2,.slice x23.1 x23.2.1 x23.2.2]) w24 (.v (.one .slc)) (fun (x25:SlT) w26=>next22 ((x25.1,x25.2.1,x25.2.2),()) w26)))
 (RunK Tryz.prog (Instr.buildSlice 22 1 #[(0,.int .u8 (IntKind.u8.wrap (p1l:Int)))]) w21 (.v (.one .slc)) (fun (x27:SlT) w28=>RunK Tryz.prog (Builtin.append_ #[22,22] 22 #[.slice s20.1.1 s20.1.2.1 s20.1.2.2,.slice x27.1 x27.2.1 x27.2.2]) w28 (.v (.one .slc)) (fun (x29:SlT) w30=>LoopK (Int×Unit) (fun _ s31 w32 next33=>ifB (decide (s31.1<(x29.2.1:Int)))
 (SubK x29.1 x29.2.2 s31.1 (IntKind.i64.wrap (s31.1+8)) x29.2.2 1 (fun a34 l35 c36=>CallK Tryz.prog 37 #[.slice a34 l35 c36] w32 (.v (.one (.int .u64))) (fun (x37:Int) w38=>AixK (ad g15) 4 3 1 (fun a39=>LdK (.int .u64) a39 w38 (fun (x40:Int)=>AixK (ad g15) 4 3 1 (fun a41=>StK a41 (.int .u64 (IntKind.u64.wrap ((BitVec.ofInt 64 x40 ^^^ BitVec.ofInt 64 x37).toNat:Int))) w38 (fun w42=>LdaK 4 (ad g15) w42 (fun x43=>CallK Tryz.prog 38 #[.agg x43.toArray] w42 (.v (.arr)) (fun (x44:List Value) w45=>CallK Tryz.prog 38 #[.agg x44.toArray] w45 (.v (.arr)) (fun (x46:List Value) w47=>AndK (x46.length=4) (StsK (ad g15) x46 w47 (fun w48=>AixK (ad g15) 4 0 1 (fun a49=>LdK (.int .u64) a49 w48 (fun (x50:Int)=>AixK (ad g15) 4 0 1 (fun a51=>StK a51 (.int .u64 (IntKind.u64.wrap ((BitVec.ofInt 64 x50 ^^^ BitVec.ofInt 64 x37).toNat:Int))) w48 (fun w52=>next33 (IntKind.i64.wrap (s31.1+8),()) w52))))))))))))))))
 (AixK (ad g15) 4 2 1 (fun a53=>LdK (.int .u64) a53 w32 (fun (x54:Int)=>AixK (ad g15) 4 2 1 (fun a55=>StK a55 (.int .u64 (IntKind.u64.wrap ((BitVec.ofInt 64 x54 ^^^ BitVec.ofInt 64 255).toNat:Int))) w32 (fun w56=>LdaK 4 (ad g15) w56 (fun x57=>CallK Tryz.prog 38 #[.agg x57.toArray] w56 (.v (.arr)) (fun (x58:List Value) w59=>CallK Tryz.prog 38 #[.agg x58.toArray] w59 (.v (.arr)) (fun (x60:List Value) w61=>CallK Tryz.prog 38 #[.agg x60.toArray] w61 (.v (.arr)) (fun (x62:List Value) w63=>CallK Tryz.prog 38 #[.agg x62.toArray] w63 (.v (.arr)) (fun (x64:List Value) w65=>AndK (x64.length=4) (StsK (ad g15) x64 w65 (fun w66=>AixK (ad g15) 4 0 1 (fun a67=>LdK (.int .u64) a67 w66 (fun (x68:Int)=>AixK (ad g15) 4 1 1 (fun a69=>LdK (.int .u64) a69 w66 (fun (x70:Int)=>AixK (ad g15) 4 2 1 (fun a71=>LdK (.int .u64) a71 w66 (fun (x72:Int)=>AixK (ad g15) 4 3 1 (fun a73=>LdK (.int .u64) a73 w66 (fun (x74:Int)=>K (.int .u64 (IntKind.u64.wrap ((BitVec.ofInt 64 (IntKind.u64.wrap ((BitVec.ofInt 64 (IntKind.u64.wrap ((BitVec.ofInt 64 x68 ^^^ BitVec.ofInt 64 x70).toNat:Int)) ^^^ BitVec.ofInt 64 x72).toNat:Int)) ^^^ BitVec.ofInt 64 x74).toNat:Int))) w66)))))))))))))))))))))
 (0,()) w30)))))
 ((x18.1,x18.2.1,x18.2.2),()) w19)))))))))))))
def pl16:Plan:=(.seq .auto (.seq (.held (.soft 0 (.soft 2 (.pick 1 (.pick 3 (.soft 4 (.soft 5 .done)) .stop) .stop)))) (.seq .auto (.seq .auto (.seq (.block (.loop [(8,.one .slc)] .auto)) (.seq .auto (.seq (.seq .auto (.block (.loop [(9,.one (.int .i64))] .auto))) .auto)))))))
theorem c16 (p0:List Value) (p1:Option Addr) (p1l p1c:Nat) (w:World) (K:Value→World→Prop) (h:C16 p0 p1 p1l p1c w K):Ret Tryz.prog 16 #[.agg p0.toArray,.slice p1 p1l p1c] w K:=z0z (by kernel_rfl) Tryz.func16 (p:=pl16) (Eq.mpr (by kernel_rfl) h)
def C15 (p0:Int) (w:World) (K:Value→World→Prop):Prop:=
 LoopK (SlT×Int×Unit) (fun _ s1 w2 next3=>ifB (decide (s1.2.1<8))
 (NnK (IntKind.u64.wrap (IntKind.i64.wrap (8 * s1.2.1))) (RunK Tryz.prog (Instr.buildSlice 22 1 #[(0,.int .u8 (IntKind.u8.wrap (Int.fdiv p0 (2 ^ (min (Int.toNat (IntKind.u64.wrap (IntKind.i64.wrap (8 * s1.2.1)))) 64)))))]) w2 (.v (.one .slc)) (fun (x4:SlT) w5=>RunK Tryz.prog (Builtin.append_ #[22,22] 22 #[.slice s1.1.1 s1.1.2.1 s1.1.2.2,.slice x4.1 x4.2.1 x4.2.2]) w5 (.v (.one .slc)) (fun (x6:SlT) w7=>next3 ((x6.1,x6.2.1,x6.2.2),IntKind.i64.wrap (s1.2.1+1),()) w7))))
 (K (.slice s1.1.1 s1.1.2.1 s1.1.2.2) w2))
 ((none,0,0),0,()) w
def pl15:Plan:=(.seq .auto (.seq .auto (.seq (.seq .auto (.block (.loop [(3,.one .slc),(4,.one (.int .i64))] .auto))) .auto)))
theorem c15 (p0:Int) (w:World) (K:Value→World→Prop) (h:C15 p0 w K):Ret Tryz.prog 15 #[.int .u64 p0] w K:=z0z (by kernel_rfl) Tryz.func15 (p:=pl15) (Eq.mpr (by kernel_rfl) h)
def sipL (s:SipS):List Value:=[.int .u64 s.1,.int .u64 s.2.1,.int .u64 s.2.2.1,.int .u64 s.2.2.2]
def IsAr (w:World) (b:Nat) (s:SipS):Prop:=w.heap[b]? = some (.cells (sipL s).toArray 84 (0,0))
theorem IsAr.keep0 {w w':World} {b:Nat} {s:SipS} (h:IsAr w b s) (f:Fr none1 w w'):IsAr w' b s:=f.keep0 h
theorem IsAr.ld {w:World} {b:Nat} {s:SipS} (h:IsAr w b s) {i:Int} (h0:0≤i) (h1:i<4) {x:Int} (hx:(sipL s)[i.toNat]? = some (.int .u64 x)) {K:Int→Prop} (k:K x):AixK ⟨b,0,none⟩ 4 i 1 fun a=>LdK (.int .u64) a w K:=
 AixK.of h0 h1 (LdK.of h (x:=x) (by rw [List.getElem?_toArray];exact hx) k)
theorem IsAr.ldS {w:World} {b:Nat} {s:SipS} (h:IsAr w b s) {i:Int} (h0:0≤i) (h1:i<4) {x:Int} (hx:(sipL s)[i.toNat]? = some (.int .u64 x)) {K:Int→Prop} (k:K x):AixK ⟨b,0,none⟩ 4 i 1 fun a=>InK all1 a (LdK (.int .u64) a w K):=
 AixK.of h0 h1 (InK.all (LdK.of h (x:=x) (by rw [List.getElem?_toArray];exact hx) k))
theorem IsAr.st {w:World} {b:Nat} {s s':SipS} (h:IsAr w b s) {i:Int} (h0:0≤i) (h1:i<4) {x:Int} (hs:(sipL s).set i.toNat (.int .u64 x)=sipL s') {K:World→Prop} (k:∀ w1,IsAr w1 b s'→Fr (only b) w w1→K w1):AixK ⟨b,0,none⟩ 4 i 1 fun a=>StK a (.int .u64 x) w K:=
 AixK.of h0 h1 (StK.of h (by show _<4;omega) rfl fun w1 hb f _=>k w1 (by unfold IsAr;rw [hb,List.setIfInBounds_toArray,hs]) f)
theorem left_spec (x k:Int) (hk:k=13∨k=16∨k=17∨k=21∨k=32) (w:World):Ret Tryz.prog 66 #[.int .u64 x,.int .u64 k] w fun r w'=>r=.int .u64 (rotU x k.toNat)∧w=w':=by
 refine c66 x k w _ ?_
 unfold C66 rotU
 have e2:IntKind.u64.wrap (64 - k)=64 - k:=by rcases hk with rfl | rfl | rfl | rfl | rfl<;>decide
 have e3:Int.toNat (64 - k)=64 - k.toNat:=by rcases hk with rfl | rfl | rfl | rfl | rfl<;>decide
 rw [e2,e3]
 exact ⟨by rcases hk with rfl | rfl | rfl | rfl | rfl<;>decide,by rcases hk with rfl | rfl | rfl | rfl | rfl<;>decide,rfl,rfl⟩
theorem leftK (x k:Int) (hk:k=13∨k=16∨k=17∨k=21∨k=32) (w:World) {K:Int→World→Prop} (h:K (rotU x k.toNat) w):CallK Tryz.prog 66 #[.int .u64 x,.int .u64 k] w (.v (.one (.int .u64))) (fun (y:Int) w'=>K y w'):=by
 refine CallK.of (left_spec x k hk w) ?_
 rintro _ _ ⟨rfl,rfl⟩
 exact ⟨_,rfl,h⟩
theorem number01_spec {w:World} {v:Sl} {bs:List UInt8} (h:RdB w v bs) (hl:bs.length=8):Ret Tryz.prog 37 #[.slice v.1 v.2.1 v.2.2] w fun r w'=>r=.int .u64 (lowL bs:Int)∧w=w':=by
 refine c37 v.1 v.2.1 v.2.2 w _ ?_
 unfold C37
 have hvl:=h.len
 refine LoopK.of (fun s w'=>∃ i:Nat,s.2.1=(i:Int) - 1∧i≤8∧s.1=(lowL (bs.drop i):Int)∧w=w') (fun s _=>(s.2.1+1).toNat) ⟨8,rfl,by omega,by rw [List.drop_of_length_le (by omega)];rfl,rfl⟩ ?_
 rintro _ ⟨m,i',_⟩ _ ⟨i,hi,hil,hm,rfl⟩
 dsimp only at hi hm ⊢
 subst hi hm
 refine ifB.dec (fun hge=>?_) (fun hlt=>?_)
 ·refine ⟨by decide,?_⟩
  obtain ⟨j,rfl⟩:∃ j,i=j+1:=⟨i - 1,by omega⟩
  refine RdB.at h (by omega) (by omega) ?_
  have e1:(((j+1:Nat):Int) - 1).toNat=j:=by omega
  have hlow:lowL (bs.drop (j+1))<72057594037927936:=by
   have h1:=low_lt (bs.drop (j+1))
   have h2:256 ^ (bs.drop (j+1)).length≤256 ^ 7:=Nat.pow_le_pow_right (by decide) (by rw [List.length_drop];omega)
   have:(256:Nat) ^ 7=72057594037927936:=by decide
   omega
  rw [e1,or_byte _ _ hlow,wI (by omega) (by omega)]
  refine ⟨⟨j,by omega,by omega,?_,rfl⟩,by omega⟩
  rw [low_drop bs j (by omega)]
 ·have:i=0:=by omega
  subst this
  exact ⟨rfl,rfl⟩
theorem round01_spec (s:SipS) (w:World):Ret Tryz.prog 38 #[.agg (sipL s).toArray] w fun r w'=>r=.agg (sipL (roundI s)).toArray∧Fr none1 w w':=by
 refine c38 (sipL s) w _ ?_
 unfold C38
 refine NewK.of fun b w0 hb hb0 f0 hs0=>NewK.of fun g3 w1 hg3 hb3 f1 hs1=>?_
 have h:IsAr w1 b s:=f1.keep0 hb0
 have F0:=f0.trans f1
 have hbw:w.heap.size≤b:=by omega
 have hgw:w.heap.size≤g3:=by omega
 have hbg:b≠g3:=by omega
 have F:Fr (only b) w1 w1:=Fr.refl _ _
 obtain ⟨a0,a1,a2,a3⟩:=s
 refine h.ld (by decide) (by decide) rfl (h.ld (by decide) (by decide) rfl (h.st (s':=(addU a0 a1,a1,a2,a3)) (by decide) (by decide) rfl fun w2 h f2=>?_))
 have F:=F.trans f2
 refine DrewK.of fun w3 _ f3=>HoldK.all (IsAr.ldS (h.keep0 f3) (by decide) (by decide) rfl (IsAr.ldS (h.keep0 f3) (by decide) (by decide) rfl ?_))
 have h:=h.keep0 f3
 have F:=F.then0 f3
 refine leftK _ 13 (by decide) _ (KeepK.same (h.st (s':=(addU a0 a1,xorU (rotU a1 13) (addU a0 a1),a2,a3)) (by decide) (by decide) rfl fun w4 h f4=>?_))
 have F:=F.trans f4
 refine h.ld (by decide) (by decide) rfl (leftK _ 32 (by decide) _ (h.st (s':=(rotU (addU a0 a1) 32,xorU (rotU a1 13) (addU a0 a1),a2,a3)) (by decide) (by decide) rfl fun w5 h f5=>?_))
 have F:=F.trans f5
 have e:roundI (a0,a1,a2,a3)=(addU (rotU (addU a0 a1) 32) (xorU (rotU a3 16) (addU a2 a3)),xorU (rotU (xorU (rotU a1 13) (addU a0 a1)) 17) (addU (addU a2 a3) (xorU (rotU a1 13) (addU a0 a1))),rotU (addU (addU a2 a3) (xorU (rotU a1 13) (addU a0 a1))) 32,xorU (rotU (xorU (rotU a3 16) (addU a2 a3)) 21) (addU (rotU (addU a0 a1) 32) (xorU (rotU a3 16) (addU a2 a3)))):=rfl
 rw [e]
 generalize xorU (rotU a1 13) (addU a0 a1)=b1 at *
 generalize rotU (addU a0 a1) 32=b0 at *
 refine h.ld (by decide) (by decide) rfl (h.ld (by decide) (by decide) rfl (h.st (s':=(b0,b1,addU a2 a3,a3)) (by decide) (by decide) rfl fun w7 h f7=>?_))
 have F:=F.trans f7
 refine DrewK.of fun w8 _ f8=>HoldK.all (IsAr.ldS (h.keep0 f8) (by decide) (by decide) rfl (IsAr.ldS (h.keep0 f8) (by decide) (by decide) rfl ?_))
 have h:=h.keep0 f8
 have F:=F.then0 f8
 refine leftK _ 16 (by decide) _ (KeepK.same (h.st (s':=(b0,b1,addU a2 a3,xorU (rotU a3 16) (addU a2 a3))) (by decide) (by decide) rfl fun w9 h f9=>?_))
 have F:=F.trans f9
 generalize xorU (rotU a3 16) (addU a2 a3)=b3 at *
 generalize addU a2 a3=b2 at *
 refine h.ld (by decide) (by decide) rfl (h.ld (by decide) (by decide) rfl (h.st (s':=(addU b0 b3,b1,b2,b3)) (by decide) (by decide) rfl fun w11 h f11=>?_))
 have F:=F.trans f11
 refine DrewK.of fun w12 _ f12=>HoldK.all (IsAr.ldS (h.keep0 f12) (by decide) (by decide) rfl (IsAr.ldS (h.keep0 f12) (by decide) (by decide) rfl ?_))
 have h:=h.keep0 f12
 have F:=F.then0 f12
 refine leftK _ 21 (by decide) _ (KeepK.same (h.st (s':=(addU b0 b3,b1,b2,xorU (rotU b3 21) (addU b0 b3))) (by decide) (by decide) rfl fun w13 h f13=>?_))
 have F:=F.trans f13
 generalize xorU (rotU b3 21) (addU b0 b3)=c3 at *
 generalize addU b0 b3=c0 at *
 refine h.ld (by decide) (by decide) rfl (h.ld (by decide) (by decide) rfl (h.st (s':=(c0,b1,addU b2 b1,c3)) (by decide) (by decide) rfl fun w15 h f15=>?_))
 have F:=F.trans f15
 refine DrewK.of fun w16 _ f16=>HoldK.all (IsAr.ldS (h.keep0 f16) (by decide) (by decide) rfl (IsAr.ldS (h.keep0 f16) (by decide) (by decide) rfl ?_))
 have h:=h.keep0 f16
 have F:=F.then0 f16
 refine leftK _ 17 (by decide) _ (KeepK.same (h.st (s':=(c0,xorU (rotU b1 17) (addU b2 b1),addU b2 b1,c3)) (by decide) (by decide) rfl fun w17 h f17=>?_))
 have F:=F.trans f17
 refine h.ld (by decide) (by decide) rfl (leftK _ 32 (by decide) _ (h.st (s':=(c0,xorU (rotU b1 17) (addU b2 b1),rotU (addU b2 b1) 32,c3)) (by decide) (by decide) rfl fun w18 h f18=>?_))
 have F:=F.trans f18
 generalize (c0,xorU (rotU b1 17) (addU b2 b1),rotU (addU b2 b1) 32,c3)=R at *
 refine LdaK.of h rfl ⟨rfl,?_⟩
 refine StsK.blk (cs:=[.int .u64 0,.int .u64 0,.int .u64 0,.int .u64 0]) (vs:=sipL R) (F.keep1 hb3 (fun t=>hbg t.symm)) rfl rfl fun w19 hb19 f19 _=>LdaK.of hb19 rfl ?_
 exact ⟨rfl,(F0.fresh F hbw).fresh f19 hgw⟩
theorem roundK (s:SipS) (w:World) {K:List Value→World→Prop} (h:∀ w',Fr none1 w w'→K (sipL (roundI s)) w'):CallK Tryz.prog 38 #[.agg (sipL s).toArray] w (.v .arr) (fun (y:List Value) w'=>K y w'):=by
 refine CallK.of (round01_spec s w) ?_
 rintro _ w' ⟨rfl,f⟩
 exact ⟨_,rfl,h w' f⟩
theorem sip01_spec {w:World} {v:Sl} {kb bs:List UInt8} (hk:kb.length=16) (h:RdB w v bs) (hl:bs.length≤140737488354000):Ret Tryz.prog 16 #[.agg (keyL kb).toArray,.slice v.1 v.2.1 v.2.2] w fun r w'=>r=.int .u64 (sumI kb bs)∧Fr none1 w w':=by
 refine c16 (keyL kb) v.1 v.2.1 v.2.2 w _ ?_
 unfold C16
 have hvl:=h.len
 refine NewK.of fun g1 w1 hg1 hb1 f1 _=>DrewK.of fun w2 _ f2=>HoldK.all ?_
 have f12:=f1.trans f2
 have hK:=key_rd (f2.keep0 hb1) hk
 refine key_lo hk hK fun hA=>key_hi hk hK fun hu=>?_
 refine CallK.of (number01_spec (v:=(some ⟨g1,0,none⟩,8,16)) hA (by rw [List.length_take];omega)) ?_
 rintro _ _ ⟨rfl,rfl⟩
 refine ⟨_,rfl,KeepK.same ?_⟩
 refine CallK.of (number01_spec (v:=(some ⟨g1,8,none⟩,8,8)) hu (by rw [List.length_drop];omega)) ?_
 rintro _ _ ⟨rfl,rfl⟩
 refine ⟨_,rfl,KeepK.same ?_⟩
 refine NewK.of fun b w3 hb hb3 f3 _=>⟨rfl,?_⟩
 have s2:=f12.size
 refine StsK.blk (cs:=[.int .u64 0,.int .u64 0,.int .u64 0,.int .u64 0]) (vs:=sipL (initI kb)) hb3 rfl rfl fun w4 hb4 f4 _=>?_
 have S4:IsAr w4 b (initI kb):=hb4
 have f14:Fr none1 w w4:=(f12.trans f3).fresh f4 (by omega)
 have hblt:=z3z hb4
 unfold sumI
 generalize initI kb=s0 at *
 obtain ⟨y,w5,hr5,hy,f5,yf⟩:=z33z (none_b w4) (h.keep0 f14) (by simp;omega)
 refine ⟨y,w5,hr5,?_⟩
 rw [List.nil_append] at hy
 have nob:∀ k,¬ blkOf ((none,0,0):Sl) k:=fun k ⟨a,ha,_⟩=>by cases ha
 have f5':Fr none1 w4 w5:=f5.mono fun k _ t=>nob k t
 have hyf:∀ k,blkOf y k→w4.heap.size≤k:=fun k hk=>(yf k hk).elim (fun t=>(nob k t).elim) id
 have S5:=S4.keep0 f5'
 have f15:=f14.trans f5'
 have hb14:=f14.size
 refine LoopK.of (fun st w'=>∃ k:Nat,k≤7 - bs.length % 8∧IsB w' st.1 (padL bs k)∧(∀ j,blkOf st.1 j→w4.heap.size≤j)∧IsAr w' b s0∧Fr none1 w w') (fun st _=>bs.length+7 - st.1.2.1) ⟨0,by omega,by unfold padL;simpa using hy,hyf,S5,f15⟩ ?_
 rintro _ ⟨st,_⟩ w6 ⟨k,hk7,hs,hsf,S6,f6⟩
 dsimp only at hs hsf ⊢
 have hsn:=hs.len
 have hpl:(padL bs k).length=bs.length+k:=by unfold padL;simp
 have f6s:=f6.size
 have stlt:∀ j,blkOf st j→j<w6.heap.size:=fun j hj=>IsSl.lt hs hj
 have snoc:∀ (c:UInt8),∃ (x:Sl) (w7:World) (z:Sl) (w8:World),(Instr.buildSlice 22 1 #[(0,bc c)]).run Tryz.prog w6=.ok (.slice x.1 x.2.1 x.2.2) w7 ∧
   (Builtin.append_ #[22,22] 22 #[.slice st.1 st.2.1 st.2.2,.slice x.1 x.2.1 x.2.2]).run Tryz.prog w7=.ok (.slice z.1 z.2.1 z.2.2) w8∧IsB w8 z (padL bs k++[c])∧(∀ j,blkOf z j→w4.heap.size≤j)∧IsAr w8 b s0∧Fr none1 w w8:=fun c=>by
  obtain ⟨x,w7,hr7,hx,hxl,f7,xf⟩:=lit_ok (P:=Tryz.prog) (w:=w6) z7z [bc c] (by simp [bc,Value.cells]) (by simp)
  have hx0:IsB w7 x [c]:=hx
  obtain ⟨z,w8,hr8,hz,f8,zf⟩:=z33z (hs.keep0 f7) hx0.rd (by simp only [List.length_singleton];omega)
  refine ⟨x,w7,z,w8,hr7,hr8,hz,fun j hj=>?_,f8.keep (S6.keep0 f7) (fun t=>by have:=hsf b t;omega),(f6.trans f7).comp f8 fun j hj t=>by have:=hsf j t;omega⟩
  rcases zf j hj with t | t
  ·exact hsf j t
  ·have:=f7.size
   have:=f15.size
   have hw46:w4.heap.size≤w6.heap.size:=by
    by_cases hq:w4.heap.size≤w6.heap.size
    ·exact hq
    ·exfalso
     have:=z3z S6
     omega
   omega
 refine ⟨by decide,?_⟩
 rw [Int.tmod_eq_emod_of_nonneg (by omega)]
 refine ifB.ne (fun hne=>?_) (fun heq=>?_)
 ·obtain ⟨x,w7,z,w8,hr7,hr8,hz,hzf,S8,f8⟩:=snoc 0
  refine ⟨x,w7,hr7,z,w8,hr8,⟨k+1,by omega,?_,hzf,S8,f8⟩,?_⟩
  ·have:padL bs k++[0]=padL bs (k+1):=by unfold padL;rw [List.append_assoc,List.replicate_succ']
   rw [← this];exact hz
  ·have:=hz.len
   rw [List.length_append,List.length_singleton] at this
   omega
 ·have hk:k=7 - bs.length % 8:=by omega
  have hcv:Value.int .u8 (IntKind.u8.wrap (v.2.1:Int))=bc (UInt8.ofNat (bs.length % 256)):=by
   rw [hvl,wrapB];unfold bc;rw [u8_nat (Nat.mod_lt _ (by decide))]
  rw [hcv]
  obtain ⟨x,w7,z,w8,hr7,hr8,hz,hzf,S8,f8⟩:=snoc (UInt8.ofNat (bs.length % 256))
  refine ⟨x,w7,hr7,z,w8,hr8,?_⟩
  have hz:IsB w8 z (allL bs):=by unfold allL;rw [← hk];exact hz
  have hzn:=hz.len
  have hal:=all_len bs
  have hq:bs.length / 8≤17592186044500:=by omega
  clear snoc hs hsf S6 f6 S5 hy hyf
  refine LoopK.of (fun st w'=>∃ i:Nat,st.1=8 * (i:Int)∧i≤bs.length / 8+1∧IsAr w' b (blocksI (allL bs) s0 i)∧Fr (only b) w8 w') (fun st _=>(8 * (bs.length / 8+1:Nat) - st.1).toNat) ⟨0,rfl,by omega,S8,Fr.refl _ _⟩ ?_
  rintro _ ⟨i',_⟩ w9 ⟨i,hi,hil,S9,f9⟩
  dsimp only at hi ⊢
  subst hi
  have hz9:RdB w9 z (allL bs):=hz.rd.keep f9 fun j hj t=>by have:=hzf j hj;have:j=b:=t;omega
  refine ifB.dec (fun hlt=>?_) (fun hge=>?_)
  ·rw [wI (x:=8 * (i:Int)+8) (by omega) (by omega)]
   refine RdB.mid hz9 (by omega) (by omega) (by omega) hz.cap fun u hu _ _ _=>?_
   rw [show (8 * (i:Int)).toNat=8 * i by omega,show (8 * (i:Int)+8 - 8 * (i:Int)).toNat=8 by omega] at hu
   refine CallK.of (number01_spec hu (by rw [List.length_take,List.length_drop];omega)) ?_
   rintro _ _ ⟨rfl,rfl⟩
   refine ⟨_,rfl,?_⟩
   have hB:blocksI (allL bs) s0 (i+1)=absI (lowL ((allL bs).drop (8 * i) |>.take 8):Int) (blocksI (allL bs) s0 i):=rfl
   generalize (lowL ((allL bs).drop (8 * i) |>.take 8):Int)=m at *
   generalize blocksI (allL bs) s0 i=t at *
   obtain ⟨t0,t1,t2,t3⟩:=t
   unfold absI at hB
   refine S9.ld (by decide) (by decide) rfl (S9.st (s':=(t0,t1,t2,xorU t3 m)) (by decide) (by decide) rfl fun w10 S10 f10=>?_)
   refine LdaK.of S10 rfl (roundK _ w10 fun w11 f11=>roundK _ w11 fun w12 f12'=>⟨rfl,?_⟩)
   have f1012:=f11.trans f12'
   refine StsK.blk (cs:=sipL (t0,t1,t2,xorU t3 m)) (vs:=sipL (roundI (roundI (t0,t1,t2,xorU t3 m)))) (f1012.keep0 S10) rfl rfl fun w13 hb13 f13 _=>?_
   have S13:IsAr w13 b (roundsN 2 (t0,t1,t2,xorU t3 m)):=hb13
   dsimp only at hB
   generalize roundsN 2 (t0,t1,t2,xorU t3 m)=q at *
   obtain ⟨q0,q1,q2,q3⟩:=q
   refine S13.ld (by decide) (by decide) rfl (S13.st (s':=(xorU q0 m,q1,q2,q3)) (by decide) (by decide) rfl fun w14 S14 f14'=>?_)
   refine ⟨⟨i+1,by omega,by omega,by rw [hB];exact S14,(((f9.trans f10).then0 f1012).trans f13).trans f14'⟩,by omega⟩
  ·obtain rfl:i=bs.length / 8+1:=by omega
   rw [blocks_last] at S9
   generalize absI (lastL bs:Int) (blocksI bs s0 (bs.length / 8))=t at *
   obtain ⟨t0,t1,t2,t3⟩:=t
   unfold finI
   refine S9.ld (by decide) (by decide) rfl (S9.st (s':=(t0,t1,xorU t2 255,t3)) (by decide) (by decide) rfl fun w10 S10 f10=>?_)
   refine LdaK.of S10 rfl (roundK _ w10 fun w11 f11=>roundK _ w11 fun w12 f12'=>roundK _ w12 fun w13 f13=>roundK _ w13 fun w14 f14'=>⟨rfl,?_⟩)
   have f1014:=((f11.trans f12').trans f13).trans f14'
   refine StsK.blk (cs:=sipL (t0,t1,xorU t2 255,t3)) (vs:=sipL (roundI (roundI (roundI (roundI (t0,t1,xorU t2 255,t3)))))) (f1014.keep0 S10) rfl rfl fun w15 hb15 f15' _=>?_
   have S15:IsAr w15 b (roundsN 4 (t0,t1,xorU t2 255,t3)):=hb15
   dsimp only
   generalize roundsN 4 (t0,t1,xorU t2 255,t3)=q at *
   obtain ⟨q0,q1,q2,q3⟩:=q
   refine S15.ld (by decide) (by decide) rfl (S15.ld (by decide) (by decide) rfl (S15.ld (by decide) (by decide) rfl (S15.ld (by decide) (by decide) rfl ?_)))
   have fb:Fr (only b) w8 w15:=((f9.trans f10).then0 f1014).trans f15'
   exact ⟨rfl,f8.fresh fb (by omega)⟩
theorem bytes01_spec (n:Int) (h0:0≤n) (h1:n<18446744073709551616) (w:World):Ret Tryz.prog 15 #[.int .u64 n] w fun r w'=>∃ v:Sl,r=.slice v.1 v.2.1 v.2.2∧IsB w' v (hedL n)∧Fr none1 w w'∧∀ k,blkOf v k→w.heap.size≤k:=by
 refine c15 n w _ ?_
 unfold C15
 obtain ⟨M,rfl⟩:∃ M:Nat,n=M:=⟨n.toNat,by omega⟩
 have hh:hedL (M:Int)=lsb 8 M:=by unfold hedL;rw [show ((M:Int) % 18446744073709551616).toNat=M by omega]
 refine LoopK.of (fun st w'=>∃ i:Nat,st.2.1=i∧i≤8∧IsB w' st.1 ((lsb 8 M).take i)∧(∀ k,blkOf st.1 k→w.heap.size≤k)∧Fr none1 w w') (fun st _=>(8 - st.2.1).toNat) ⟨0,rfl,by omega,none_b w,(fun k ⟨a,ha,_⟩=>by cases ha),Fr.refl _ _⟩ ?_
 rintro _ ⟨st,i',_⟩ w1 ⟨i,hi,hil,hs,hsf,f1⟩
 dsimp only at hi hs hsf ⊢
 subst hi
 refine ifB.dec (fun hlt=>?_) (fun hge=>?_)
 ·have hi8:i<8:=by omega
  rw [wI (x:=8 * (i:Int)) (by omega) (by omega),wU (x:=8 * (i:Int)) (by omega) (by omega),wI (x:=(i:Int)+1) (by omega) (by omega),show Int.toNat (8 * (i:Int))=8 * i by omega]
  refine ⟨by omega,?_⟩
  have hv:Value.int .u8 (IntKind.u8.wrap (Int.fdiv (M:Int) (2 ^ (min (8 * i) 64))))=bc (UInt8.ofNat (M / 256 ^ i % 256)):=by
   rw [fdiv_nat M (8 * i) (by omega),wrapB]
   unfold bc
   rw [u8_nat (Nat.mod_lt _ (by decide)),show (256:Nat) ^ i=2 ^ (8 * i) by rw [show (256:Nat)=2 ^ 8 by decide,← Nat.pow_mul]]
  rw [hv]
  obtain ⟨x,w2,hr2,hx,hxl,f2,xf⟩:=lit_ok (P:=Tryz.prog) (w:=w1) z7z [bc (UInt8.ofNat (M / 256 ^ i % 256))] (by simp [bc,Value.cells]) (by simp)
  have hx0:IsB w2 x [UInt8.ofNat (M / 256 ^ i % 256)]:=hx
  refine ⟨x,w2,hr2,?_⟩
  obtain ⟨z,w3,hr3,hz,f3,zf⟩:=z33z (hs.keep0 f2) hx0.rd (by rw [List.length_take,List.length_singleton];omega)
  have s1:=f1.size;have s2:=f2.size
  refine ⟨z,w3,hr3,⟨i+1,by omega,by omega,?_,fun k hk=>?_,(f1.trans f2).comp f3 fun k hk t=>by have:=hsf k t;omega⟩,by omega⟩
  ·rw [List.take_add_one,lsb_at 8 M i hi8];exact hz
  ·rcases zf k hk with t | t
   ·exact hsf k t
   ·omega
 ·have hi8:i=8:=by omega
  subst hi8
  rw [List.take_of_length_le (by rw [lsb_len];decide)] at hs
  exact ⟨st,rfl,by rw [hh];exact hs,f1,hsf⟩
theorem nil_tr (t:Tm) {w:World} {S:Nat→Prop} {v:TV} (h:IsTr w S (trT t) v):(v.1 != 0||false)=!(nilT t.v):=by
 rw [Bool.or_false]
 cases t<;>(have h1:=h;unfold trT at h1;unfold IsTr at h1;obtain ⟨e,_⟩:=h1;rw [e];rfl)
theorem check17_spec (m:FrM) (hz:smallE m.m.e) (hn:nodesT m.m.t≤30000) (hsh:shortT m.m.t) {w:World} {S:Nat→Prop} {v:TV} (h:IsTr w S (trT m.m.t) v) (hS:∀ k,S k→k<w.heap.size) :
  Ret Tryz.prog 7 #[frRA (frR m.f v),.bool false] w fun r w'=>r=.int .i64 (checkFr m.f (writeT m.m.t).2)∧Fr none1 w w':=
 check17_gen m.f v false (writeT m.m.t).2 w (fun w1 f=>check11_spec m.m.e m.m.t rfl hz hn hsh (h.keep0 f) fun k hk=>Nat.lt_of_lt_of_le (hS k hk) f.size) (nil_tr m.m.t h)
structure Wk (w w2 wa:World) (g1 g3:Nat) (kb:List UInt8) (X:FRT):Prop where
 b1:wa.heap[g1]? = some (.cells (keyL kb).toArray 32 (0,0))
 b3:wa.heap[g3]? = some (.cells (frRL X).toArray 45 (0,0))
 fr:Fr none1 w wa
 sz:w2.heap.size≤wa.heap.size
 lo:w.heap.size≤w2.heap.size∧g1<w2.heap.size∧g3<w2.heap.size
theorem Wk.keep0 {w w2 wa wb:World} {g1 g3:Nat} {kb:List UInt8} {X:FRT} (h:Wk w w2 wa g1 g3 kb X) (q:Fr none1 wa wb):Wk w w2 wb g1 g3 kb X:=⟨q.keep0 h.b1,q.keep0 h.b3,h.fr.trans q,Nat.le_trans h.sz q.size,h.lo⟩
theorem Own.no {B wc:World} {x:Sl} {xs:List UInt8} (h:Own B wc x xs) {g:Nat} (hg:g<B.heap.size):¬ blkOf x g:=fun t=>by have:=h.lo g t;omega
theorem Wk.add {w w2 wa:World} {g1 g3:Nat} {kb:List UInt8} {X:FRT} (h:Wk w w2 wa g1 g3 kb X) {x:Sl} {xs:List UInt8} (hx:Own w2 wa x xs) {y:Sl} {ys:List UInt8} (hy:RdB wa y ys) (hl:xs.length+ys.length≤140737488355000) {K:(Option Addr×Nat×Nat)→World→Prop}
  (k:∀ (u:Sl) wb,Own w2 wb u (xs++ys)→Wk w w2 wb g1 g3 kb X→Fr (blkOf x) wa wb→K u wb) :
  RunK Tryz.prog (Builtin.append_ #[22,22] 22 #[.slice x.1 x.2.1 x.2.2,.slice y.1 y.2.1 y.2.2]) wa (.v (.one .slc)) (fun (u:Option Addr×Nat×Nat) w'=>K u w'):=by
 obtain ⟨l1,l2,l3⟩:=h.lo
 refine hx.app h.sz hy hl fun u wb hu f=>k u wb hu ⟨f.keep h.b1 (hx.no l2),f.keep h.b3 (hx.no l3),h.fr.comp f fun j hj t=>by have:=hx.lo j t;omega,Nat.le_trans h.sz f.size,h.lo⟩ f
theorem b01K (n:Int) (h0:0≤n) (h1:n<18446744073709551616) (w:World) {K:(Option Addr×Nat×Nat)→World→Prop} (k:∀ u w',IsB w' u (hedL n)→Fr none1 w w'→K u w'):CallK Tryz.prog 15 #[.int .u64 n] w (.v (.one .slc)) (fun (x:Option Addr×Nat×Nat) w'=>K x w'):=by
 refine CallK.of (bytes01_spec n h0 h1 w) ?_
 rintro _ w1 ⟨u,rfl,hu,f1,uf⟩
 exact ⟨u,rfl,k u w1 hu f1⟩
theorem s01K {w:World} {v:Sl} {kb bs:List UInt8} (hk:kb.length=16) (h:RdB w v bs) (hl:bs.length≤140737488354000) {K:Int→World→Prop} (k:∀ w',Fr none1 w w'→K (sumI kb bs) w'):CallK Tryz.prog 16 #[.agg (keyL kb).toArray,.slice v.1 v.2.1 v.2.2] w (.v (.one (.int .u64))) (fun (x:Int) w'=>K x w'):=by
 refine CallK.of (sip01_spec hk h hl) ?_
 rintro _ w' ⟨rfl,f⟩
 exact ⟨_,rfl,k w' f⟩
set_option maxHeartbeats 4000000 in
theorem seal17_spec (kb:List UInt8) (hk:kb.length=16) (m:FrM) (hz:smallE m.m.e) (hn:nodesT m.m.t≤30000) (hsh:shortT m.m.t) (hh:0≤m.2.2.2.2.2.1∧m.2.2.2.2.2.1<18446744073709551616) {w:World} {S:Nat→Prop} {v:TV} (h:IsTr w S (trT m.m.t) v) (hS:∀ k,S k→k<w.heap.size) :
  Ret Tryz.prog 11 #[.agg (keyL kb).toArray,frRA (frR m.f v)] w fun r w'=>∃ u:Sl,r=.tuple #[.slice u.1 u.2.1 u.2.2,.int .i64 (sealM kb m).2]∧Own w w' u (sealM kb m).1∧Fr none1 w w':=by
 refine c11 (keyL kb) (frR m.f v) w _ ?_
 unfold C11
 refine NewK.of fun g1 w1 hg1 hb1 f1 hs1=>NewK.of fun g3 w2 hg3 hb3 f2 hs2=>?_
 have hb3:w2.heap[g3]? = some (.cells (frRL (frR m.f v)).toArray 45 (0,0)):=hb3
 have W2:Wk w w2 w2 g1 g3 kb (frR m.f v):=⟨f2.keep0 hb1,hb3,f1.trans f2,Nat.le_refl _,by have:=f1.size;have:=f2.size;omega⟩
 have tr:∀ {wa:World},Wk w w2 wa g1 g3 kb (frR m.f v)→IsTr wa S (trT m.m.t) v∧(∀ k,S k→k<wa.heap.size):=fun W=>⟨h.keep0 W.fr,fun k hk=>Nat.lt_of_lt_of_le (hS k hk) W.fr.size⟩
 refine LdsK.blk (cks:=FRK) (x:=frR m.f v) hb3 ?_
 refine CallK.of (check17_spec m hz hn hsh (tr W2).1 (tr W2).2) ?_
 rintro _ w3 ⟨rfl,f3⟩
 refine ⟨_,rfl,?_⟩
 have W3:=W2.keep0 f3
 refine ifB.ne (fun hne=>?_) (fun he=>?_)
 ·have hs:sealM kb m=([],checkFr m.f (writeT m.m.t).2):=by
   unfold sealM sealF bytesFr;rw [if_pos hne,if_pos hne]
  rw [hs]
  exact ⟨(none,0,0),rfl,⟨none_b w3,fun k ⟨a,ha,_⟩=>by cases ha⟩,W3.fr⟩
 have l3:=W2.lo.2.2
 have hl0:=W2.lo.1
 have own:∀ {wa:World} {x:Sl} {xs:List UInt8},Own w2 wa x xs→∀ k,k=g3→¬ blkOf x k:=fun h k e t=>h.no l3 (e ▸ t)
 have ofb:∀ {wa:World} {x:Sl} {xs:List UInt8},IsB wa x xs→w2.heap.size≤wa.heap.size→∀ {wb:World},(∀ k,blkOf x k→wb.heap.size≤k)→w2.heap.size≤wb.heap.size→Own w2 wa x xs:=fun h _ _ q s=>⟨h,fun k hk=>Nat.le_trans s (q k hk)⟩
 refine JoinK.of (fun st w'=>Own w2 w' st.1 ([UInt8.ofNat (m.1 % 256).toNat]++numL m.2.1++numL m.2.2.1)∧Wk w w2 w' g1 g3 kb (frR m.f v)) ?_ ?_
 ·refine DrewK.of fun w4 _ f4=>HoldK.of (fun k=>k=g3) ?_
  have W4:=W3.keep0 f4
  refine inG rfl (LdK.fld W4.b3 (x:=m.1) rfl (inG rfl (LdK.fld W4.b3 (x:=m.2.1) rfl (inG rfl (LdK.fld W4.b3 (x:=m.2.2.1) rfl ?_)))))
  rw [byteK]
  refine ⟨?_,?_⟩
  ·refine lit1 _ fun x w5 hx f5 xf=>KeepK.of f5 ?_
   have W5:=W4.keep0 f5
   have hx:=ofb hx W5.sz xf W4.sz
   refine numK11 _ w5 fun n w6 hn f6 _=>KeepK.of f6 ?_
   refine (W5.keep0 f6).add (hx.keep0 f6) hn.rd (by simp only [z9z,List.length_singleton];omega) fun y w7 hy W7 f7=>KeepK.on f7 (own (hx.keep0 f6)) ?_
   refine numK11 _ w7 fun n w8 hn f8 _=>?_
   refine (W7.keep0 f8).add (hy.keep0 f8) hn.rd (by simp only [List.length_append,z9z,List.length_singleton];omega) fun z w9 hz W9 f9=>⟨hz,W9⟩
  ·refine numK11 _ w4 fun n w5 hn f5 nf=>KeepK.of f5 ?_
   have W5:=W4.keep0 f5
   refine lit1 _ fun x w6 hx f6 xf=>KeepK.of f6 ?_
   have W6:=W5.keep0 f6
   have hx:=ofb hx W6.sz xf W5.sz
   refine W6.add hx (hn.keep0 f6).rd (by simp only [z9z,List.length_singleton];omega) fun y w7 hy W7 f7=>KeepK.on f7 (own hx) ?_
   refine numK11 _ w7 fun n w8 hn f8 _=>?_
   refine (W7.keep0 f8).add (hy.keep0 f8) hn.rd (by simp only [List.length_append,z9z,List.length_singleton];omega) fun z w9 hz W9 f9=>⟨hz,W9⟩
 rintro _ ⟨st,_⟩ w10 ⟨hst,W10⟩
 dsimp only at hst ⊢
 have htl:=top_len m.f
 have fin:∀ {wa:World} {o:Sl} {bs:List UInt8},Wk w w2 wa g1 g3 kb (frR m.f v)→Own w2 wa o bs→bs.length≤140737488350000→bytesM m=(bs,0) →
   LdaK 16 ⟨g1,0,none⟩ wa (fun x=>CallK Tryz.prog 16 #[.agg x.toArray,.slice o.1 o.2.1 o.2.2] wa (.v (.one (.int .u64))) (fun (n:Int) wb=>CallK Tryz.prog 15 #[.int .u64 n] wb (.v (.one .slc)) (fun (u:Option Addr×Nat×Nat) wc=>RunK Tryz.prog (Builtin.append_ #[22,22] 22 #[.slice o.1 o.2.1 o.2.2,.slice u.1 u.2.1 u.2.2]) wc (.v (.one .slc)) (fun (y:Option Addr×Nat×Nat) wd=>
    ∃ z:Sl,Value.tuple #[.slice y.1 y.2.1 y.2.2,.int .i64 0]=.tuple #[.slice z.1 z.2.1 z.2.2,.int .i64 (sealM kb m).2]∧Own w wd z (sealM kb m).1∧Fr none1 w wd)))):=fun {wa o bs} W ho hl hb=>by
  have hs:sealM kb m=(bs++hedL (sumI kb bs),0):=by
   unfold sealM sealF
   rw [show bytesFr m.f (writeT m.m.t).1 (writeT m.m.t).2=(bs,0) from hb]
   exact if_neg fun t=>t rfl
  rw [hs]
  refine LdaK.of W.b1 (by simp [keyL,hk]) (s01K hk ho.is.rd (by omega) fun wb fb=>?_)
  have hr:=sum_rng kb bs
  refine b01K _ hr.1 hr.2 wb fun u wc hu fc=>?_
  have fbc:=fb.trans fc
  refine (W.keep0 fbc).add (ho.keep0 fbc) hu.rd (by rw [hed_len];omega) fun y wd hy Wd fd=>⟨y,rfl,⟨hy.is,fun k hk=>Nat.le_trans hl0 (hy.lo k hk)⟩,Wd.fr⟩
 refine DrewK.of fun w11 _ f11=>HoldK.of (fun k=>k=g3) ?_
 have W11:=W10.keep0 f11
 have hst:=hst.keep0 f11
 refine inG rfl (LdK.fld W11.b3 (x:=m.2.2.2.1) rfl (inG rfl (LdK.fld W11.b3 (x:=m.2.2.2.2.1) rfl (inG rfl (LdK.fld W11.b3 (x:=m.2.2.2.2.2.1) rfl ?_)))))
 rw [byteK]
 refine lit1 _ fun x w12 hx f12 xf=>KeepK.of f12 ?_
 have hst:=hst.keep0 f12
 refine (W11.keep0 f12).add hst hx.rd (by simp only [List.length_append,z9z,List.length_singleton];omega) fun y w13 hy W13 f13=>KeepK.on f13 (own hst) ?_
 refine numK11 _ w13 fun n w14 hn14 f14 _=>KeepK.of f14 ?_
 have hy:=hy.keep0 f14
 refine (W13.keep0 f14).add hy hn14.rd (by simp only [List.length_append,z9z,List.length_singleton];omega) fun z w15 hz15 W15 f15=>KeepK.on f15 (own hy) ?_
 refine b01K _ hh.1 hh.2 w15 fun b w16 hb16 f16=>?_
 have hz15:=hz15.keep0 f16
 refine (W15.keep0 f16).add hz15 hb16.rd (by simp only [List.length_append,z9z,hed_len,List.length_singleton];omega) fun p w17 hp W17 f17=>?_
 have htop:∀ c:UInt8,c=(if m.2.2.2.2.2.2.1=true then 1 else 0)→[UInt8.ofNat (m.1 % 256).toNat]++numL m.2.1++numL m.2.2.1++[UInt8.ofNat (m.2.2.2.1 % 256).toNat]++numL m.2.2.2.2.1++hedL m.2.2.2.2.2.1++[c]=topB m.f:=fun c e=>by
  rw [e];unfold topB FrM.f;simp only [List.append_assoc,List.cons_append,List.nil_append]
 refine LdK.fld W17.b3 (x:=m.2.2.2.2.2.2.1) rfl (ifB.by (fun q=>lit1 1 fun x w18 hx f18 xf=>?_) (fun q=>lit1 0 fun x w18 hx f18 xf=>?_))
 all_goals
  have hp:=hp.keep0 f18
  refine (W17.keep0 f18).add hp hx.rd (by simp only [List.length_append,z9z,hed_len,List.length_singleton];omega) fun o w19 ho W19 f19=>?_
  rw [htop _ (by rw [q];rfl)] at ho
  refine LdK.fld W19.b3 (x:=m.2.2.2.1) rfl (ifB.eq (fun k1=>frr_ev W19.b3 ?_) (fun k1=>?_))
  ·refine CallK.of (pack11_spec m.m.e m.m.t rfl hz hn hsh (by have:=z32z m.m.t;omega) (tr W19).1 (tr W19).2) ?_
   rintro _ w20 ⟨u,rfl,hu,f20,uf⟩
   have hev:(packF m.m.e (writeT m.m.t).1 (writeT m.m.t).2).2=0:=by
    unfold checkFr at he
    split at he
    ·cases he
    split at he
    ·cases he
    rw [if_pos (show m.f.2.2.2.1=1 from k1)] at he
    unfold packF;rw [if_neg (fun t=>t he)]
   refine ⟨(u,(packF m.m.e (writeT m.m.t).1 (writeT m.m.t).2).2,()),rfl,ifB.f (by rw [hev];rfl) ?_⟩
   have hpl:=packF_len m.m.e hz (writeT m.m.t).1 (by have:=z32z m.m.t;omega) (writeT m.m.t).2
   refine (W19.keep0 f20).add (ho.keep0 f20) hu.rd (by omega) fun r w21 hr W21 f21=>?_
   refine fin W21 hr (by rw [List.length_append];omega) ?_
   unfold bytesM bytesFr
   rw [if_neg (fun t=>t he),if_neg (fun t=>t k1)]
   rfl
  ·refine fin W19 ho (by omega) ?_
   unfold bytesM bytesFr
   rw [if_neg (fun t=>t he),if_pos (show m.f.2.2.2.1≠1 from k1)]
def zTV:TV:=(0,str [],0,(none,0,0),())
def zeroX:FRT:=frR zeroFr.f zTV
theorem cnvR {wa:World} {u:Sl} {bs:List UInt8} (h:RdB wa u bs) {K:ByteArray→World→Prop} (k:K (str bs) wa):RunK Tryz.prog (convert 22 9 (.slice u.1 u.2.1 u.2.2)) wa (.v (.one .str)) (fun (x:ByteArray) wb=>K x wb):=⟨_,_,txt_of h,k⟩
theorem tkp_fitT (bs:List UInt8):fitT (takeP false bs).1.t:=by
 unfold takeP;split
 ·exact takeM_fit false _
 ·exact fit_none
theorem parse_fit (bs:List UInt8):fitT (parseF bs).m.t:=by
 unfold parseF
 show fitT (EvM.t (if (bs.getD 17 0).toNat=1 then (takeP false (bs.drop 35)).1 else zeroM))
 split
 ·exact tkp_fitT _
 ·exact fit_none
theorem seal_cut {kb:List UInt8} {X:FrM} {bs:List UInt8} (h8:8≤bs.length) (ht:tailL bs=hedL (sumI kb (textL bs))) :
  ((bytesM X).2≠0∨(bytesM X).1≠textL bs)↔((sealM kb X).2≠0∨(sealM kb X).1≠bs):=by
 have hcat:bs=textL bs++tailL bs:=(List.take_append_drop _ _).symm
 have htl:(tailL bs).length=8:=by unfold tailL;rw [List.length_drop];omega
 have hb2:(sealM kb X).2=(bytesM X).2:=by
  unfold sealM sealF
  by_cases h:(bytesFr X.f (writeT X.m.t).1 (writeT X.m.t).2).2≠0
  ·rw [if_pos h];rfl
  ·rw [if_neg h];exact (Classical.not_not.1 h).symm
 by_cases h0:(bytesM X).2=0
 ·obtain ⟨e1,e2⟩:=seal_ok (kb:=kb) (m:=X) (by rw [hb2,h0])
  have:(sealM kb X).1=bs↔(bytesM X).1=textL bs:=by
   rw [e2]
   constructor
   ·intro e
    rw [hcat] at e
    exact (List.append_inj' e (by rw [hed_len,htl])).1
   ·intro e
    rw [e,← ht];exact hcat.symm
  show ((bytesM X).2≠0∨¬ ((bytesM X).1=textL bs))↔((sealM kb X).2≠0∨¬ ((sealM kb X).1=bs))
  rw [this,hb2]
 ·exact ⟨fun _=>.inl (by rw [hb2];exact h0),fun _=>.inl h0⟩
set_option maxHeartbeats 4000000 in
theorem open17_spec (kb:List UInt8) (hk:kb.length=16) {w:World} {v:Sl} {bs:List UInt8} (h:RdB w v bs) (hc:v.2.1≤v.2.2) (hl:bs.length≤140737488352000) :
  Ret Tryz.prog 19 #[.agg (keyL kb).toArray,.slice v.1 v.2.1 v.2.2] w fun r w'=>∃ t:TV,r=.tuple #[frRA (frR (openF kb bs).1.f t),.int .i64 (openF kb bs).2]∧Made w w' (trT (openF kb bs).1.m.t) t∧Fr none1 w w':=by
 refine c19 (keyL kb) v.1 v.2.1 v.2.2 w _ ?_
 unfold C19
 have hvl:=h.len
 refine NewK.of fun g1 w1 hg1 hb1 f1 hs1=>NewK.of fun g3 w2 hg3 hb3 f2 hs2=>?_
 have hb3:w2.heap[g3]? = some (.cells (frRL zeroX).toArray 45 (0,0)):=hb3
 have hk2:=f2.keep0 hb1
 have f12:=f1.trans f2
 have s1:=f1.size
 have hg3w:w.heap.size≤g3:=by omega
 have fail:∀ (code:Int) (wa:World),openF kb bs=(zeroFr,code)→wa.heap[g3]? = some (.cells (frRL zeroX).toArray 45 (0,0))→Fr none1 w wa→StsK ⟨g3,0,none⟩ (frRL zeroX) wa (fun w5=>LdsK FRK ⟨g3,0,none⟩ w5 (fun (x6:Cs FRK)=>∃ t:TV,(Value.tuple #[.agg (Cs.vals FRK x6).toArray,.int .i64 code])=.tuple #[frRA (frR (openF kb bs).1.f t),.int .i64 (openF kb bs).2]∧Made w w5 (trT (openF kb bs).1.m.t) t∧Fr none1 w w5)):=fun code wa e hb fa=>by
  rw [e]
  refine StsK.blk (cs:=frRL zeroX) (vs:=frRL zeroX) hb rfl (frRL_one _) fun w3 hb3 f3 _=>LdsK.blk (cks:=FRK) (x:=zeroX) hb3 ?_
  exact ⟨zTV,rfl,zero_tree w w3,fa.fresh f3 hg3w⟩
 have hO:openF kb bs=if bs.length<8 then (zeroFr,2) else if tailL bs≠hedL (sumI kb (textL bs)) then (zeroFr,12) else if (textL bs).length<35 then (zeroFr,2)
   else if (bytesM (parseF (textL bs))).2≠0∨(bytesM (parseF (textL bs))).1≠textL bs then (zeroFr,2) else (parseF (textL bs),0):=rfl
 refine ifB.dec (fun hlt=>?_) (fun hge=>?_)
 ·exact fail 2 w2 (by rw [hO,if_pos (by omega)]) hb3 f12
 rw [if_neg (by omega)] at hO
 rw [wI (x:=(v.2.1:Int) - 8) (by omega) (by omega)]
 obtain ⟨n,hn⟩:∃ n,n=bs.length - 8:=⟨_,rfl⟩
 have h2:=h.keep0 f12
 refine RdB.sub h2 (by omega) (by omega) hc fun hT=>?_
 have en:((v.2.1:Int) - 8).toNat=n:=by omega
 have e8:((v.2.1:Int) - ((v.2.1:Int) - 8)).toNat=8:=by omega
 have etx:textL bs=bs.take n:=by unfold textL;rw [hn]
 have etl:tailL bs=bs.drop n:=by unfold tailL;rw [hn]
 rw [en] at hT ⊢
 rw [← etx] at hT
 have htl:(textL bs).length=n:=by rw [etx,List.length_take];omega
 have hnc:n≤v.2.2:=by omega
 have hr:=sum_rng kb (textL bs)
 refine JoinK.of (fun st w'=>st.1=(!(decide (hedL (sumI kb (textL bs))=tailL bs)))∧Fr none1 w2 w') ?_ ?_
 ·refine DrewK.of fun w3 _ f3=>HoldK.all ⟨trivial,LdaK.of (f3.keep0 hk2) (by simp [keyL,hk]) ?_⟩
  refine RdB.mid (h2.keep0 f3) (by omega) (by omega) (Int.le_refl _) hc fun u hu huc hul hub=>?_
  rw [en,e8,List.take_of_length_le (by rw [List.length_drop];omega),← etl] at hu
  have hT3:=hT.keep0 f3
  have eq:∀ {wa:World},Fr none1 w2 wa→(!((str (hedL (sumI kb (textL bs)))).toList==(str (tailL bs)).toList))=(!(decide (hedL (sumI kb (textL bs))=tailL bs)))∧Fr none1 w2 wa:=fun f=>⟨by rw [str_beq],f⟩
  refine ⟨?_,?_⟩
  ·refine s01K hk hT3 (by omega) fun w4 f4=>KeepK.of f4 ⟨?_,?_⟩
   ·refine b01K _ hr.1 hr.2 w4 fun b w5 hb f5=>KeepK.of f5 ⟨?_,?_⟩
    ·exact cnvR hb.rd (KeepK.same (cnvR ((hu.keep0 f4).keep0 f5) (KeepK.same (eq ((f3.trans f4).trans f5)))))
    ·exact cnvR ((hu.keep0 f4).keep0 f5) (KeepK.same (cnvR hb.rd (eq ((f3.trans f4).trans f5))))
   ·refine cnvR (hu.keep0 f4) (KeepK.same ?_)
    exact b01K _ hr.1 hr.2 w4 fun b w5 hb f5=>cnvR hb.rd (eq ((f3.trans f4).trans f5))
  ·refine cnvR hu (KeepK.same ?_)
   exact s01K hk hT3 (by omega) fun w4 f4=>b01K _ hr.1 hr.2 w4 fun b w5 hb f5=>cnvR hb.rd (eq ((f3.trans f4).trans f5))
 rintro _ ⟨fl,_⟩ w3 ⟨hfl,f3⟩
 dsimp only at hfl ⊢
 have F3:=f12.trans f3
 refine ifB.by (fun q=>?_) (fun q=>?_)
 ·rw [q] at hfl
  have:¬ (hedL (sumI kb (textL bs))=tailL bs):=by simpa using hfl
  exact fail 12 w3 (by rw [hO,if_pos (fun e=>this e.symm)]) (f3.keep0 hb3) F3
 rw [q] at hfl
 have hte:tailL bs=hedL (sumI kb (textL bs)):=by
  have:hedL (sumI kb (textL bs))=tailL bs:=by simpa using hfl
  exact this.symm
 rw [if_neg (fun t=>t hte)] at hO
 refine ifB.dec (fun hlt=>?_) (fun hge=>?_)
 ·exact fail 2 w3 (by rw [hO,if_pos (by omega)]) (f3.keep0 hb3) F3
 rw [if_neg (by omega)] at hO
 have hcut:=seal_cut (kb:=kb) (X:=parseF (textL bs)) (bs:=bs) (by omega) hte
 obtain ⟨tx,htx⟩:∃ tx,tx=textL bs:=⟨_,rfl⟩
 rw [← htx] at hT hcut hO htl
 have hX4:=parse_fit tx
 have hXs:=parse_small tx
 have hXh:=parse_head tx
 have fin:∀ (Y:FrM) (t:TV) (g:Nat) (wa:World),wa.heap[g]? = some (.cells (frRL (frR Y.f t)).toArray 45 (0,0))→wa.heap[g3]? = some (.cells (frRL zeroX).toArray 45 (0,0))→wa.heap[g1]? = some (.cells (keyL kb).toArray 32 (0,0))→Made w2 wa (trT Y.m.t) t→Fr none1 w wa→g≠g3→Y=parseF tx →
   LdaK 16 ⟨g1,0,none⟩ wa (fun (x94:List Value)=>LdsK FRK ⟨g,0,none⟩ wa (fun (x95:Cs FRK)=>CallK Tryz.prog 11 #[.agg x94.toArray,.agg (Cs.vals FRK x95).toArray] wa (.tup [.one .slc,.one (.int .i64)]) (fun (x96:(Option Addr×Nat×Nat)×Int×Unit) w97=>ifB (x96.2.1 != 0)
    (StsK ⟨g3,0,none⟩ (frRL zeroX) w97 (fun w98=>LdsK FRK ⟨g3,0,none⟩ w98 (fun (x99:Cs FRK)=>∃ t:TV,(Value.tuple #[.agg (Cs.vals FRK x99).toArray,.int .i64 2])=.tuple #[frRA (frR (openF kb bs).1.f t),.int .i64 (openF kb bs).2]∧Made w w98 (trT (openF kb bs).1.m.t) t∧Fr none1 w w98)))
    (RunK Tryz.prog (convert 22 9 (.slice x96.1.1 x96.1.2.1 x96.1.2.2)) w97 (.v (.one .str)) (fun (x100:ByteArray) w101=>RunK Tryz.prog (convert 22 9 (.slice v.1 v.2.1 v.2.2)) w101 (.v (.one .str)) (fun (x102:ByteArray) w103=>ifB (!(x100.toList==x102.toList))
     (StsK ⟨g3,0,none⟩ (frRL zeroX) w103 (fun w98=>LdsK FRK ⟨g3,0,none⟩ w98 (fun (x99:Cs FRK)=>∃ t:TV,(Value.tuple #[.agg (Cs.vals FRK x99).toArray,.int .i64 2])=.tuple #[frRA (frR (openF kb bs).1.f t),.int .i64 (openF kb bs).2]∧Made w w98 (trT (openF kb bs).1.m.t) t∧Fr none1 w w98)))
     (LdsK FRK ⟨g,0,none⟩ w103 (fun (x106:Cs FRK)=>StsK ⟨g3,0,none⟩ (Cs.vals FRK x106) w103 (fun w107=>LdsK FRK ⟨g3,0,none⟩ w107 (fun (x108:Cs FRK)=>∃ t:TV,(Value.tuple #[.agg (Cs.vals FRK x108).toArray,.int .i64 0])=.tuple #[frRA (frR (openF kb bs).1.f t),.int .i64 (openF kb bs).2]∧Made w w107 (trT (openF kb bs).1.m.t) t∧Fr none1 w w107)))))))))):=fun Y t g wa hY h3 h1 mt Fa hgg e=>by
  refine LdaK.of h1 (by simp [keyL,hk]) (LdsK.blk (cks:=FRK) (x:=frR Y.f t) hY ?_)
  subst e
  have hsm:=hXs
  have hz:=smallM.e hXs
  refine CallK.of (seal17_spec kb hk (parseF tx) hz (by have:=hX4.1;omega) hX4.2 hXh mt fun k hk=>hk.2) ?_
  rintro _ wb ⟨c,rfl,hcb,fb⟩
  refine ⟨(c,(sealM kb (parseF tx)).2,()),rfl,?_⟩
  have Fb:=Fa.trans fb
  refine ifB.ne (fun hne=>?_) (fun he=>?_)
  ·exact fail 2 wb (by rw [hO,if_pos (hcut.2 (.inl hne))]) (fb.keep0 h3) Fb
  refine cnvR hcb.is.rd (cnvR (h.keep0 Fb) ?_)
  rw [str_beq]
  refine ifB.not (ifB.dec (fun hee=>?_) (fun hee=>?_))
  ·have e:openF kb bs=(parseF tx,0):=by rw [hO,if_neg (fun t=>by rcases hcut.1 t with t | t;exact t he;exact t hee)]
   rw [e]
   refine LdsK.blk (cks:=FRK) (x:=frR (parseF tx).f t) (fb.keep0 hY) ?_
   refine StsK.blk (cs:=frRL zeroX) (vs:=frRL (frR (parseF tx).f t)) (fb.keep0 h3) rfl (frRL_one _) fun wc hbc fc _=>LdsK.blk (cks:=FRK) (x:=frR (parseF tx).f t) hbc ?_
   refine ⟨t,rfl,?_,Fb.fresh fc hg3w⟩
   exact ((mt.keep0 fb).keep fc fun k hk hk2 q=>by have:k=g3:=q;have:=hs2;omega).older f12.size
  ·exact fail 2 wb (by rw [hO,if_pos (hcut.2 (.inr hee))]) (fb.keep0 h3) Fb
 refine DrewK.of fun w4 _ f4=>HoldK.of (fun k=>k<w3.heap.size) ?_
 have hT3:=hT.keep0 f3
 have hT4:=hT3.keep0 f4
 have hne:tx≠[]:=fun t=>by rw [t] at htl;simp at htl;omega
 have hS:∀ a,v.1=some a→(fun k=>k<w3.heap.size) a.block:=fun a ha=>hT3.ltE hne ⟨a,ha,rfl⟩
 refine IdxK.ink hS (RdB.at (v:=(v.1,n,v.2.2)) hT4 (by decide) (by show (0:Int)<n;omega) (IdxK.ink hS (RdB.at (v:=(v.1,n,v.2.2)) hT4 (by decide) (by show (17:Int)<n;omega) (IdxK.ink hS (RdB.at (v:=(v.1,n,v.2.2)) hT4 (by decide) (by show (34:Int)<n;omega) ?_)))))
 rw [show Int.toNat 0=0 by rfl,show Int.toNat 17=17 by rfl,show Int.toNat 34=34 by rfl]
 have b0:=(tx.getD 0 0).toNat_lt
 have b17:=(tx.getD 17 0).toNat_lt
 rw [wI (x:=((tx.getD 0 0).toNat:Int)) (by omega) (by omega),wI (x:=((tx.getD 17 0).toNat:Int)) (by omega) (by omega)]
 have s3:=f3.size;have s4:=f4.size;have s2:=f12.size
 refine NewK.of fun g w5 hg hb5 f5 hs5=>KeepK.of f5 ?_
 obtain ⟨fl2,hfl2⟩:∃ fl,fl=(((tx.getD 34 0).toNat:Int)==1):=⟨_,rfl⟩
 rw [← hfl2]
 refine StsK.blk (cs:=frRL zeroX) (vs:=frRL (frR (FrM.f (((tx.getD 0 0).toNat:Int),0,0,((tx.getD 17 0).toNat:Int),0,0,fl2,zeroM)) zTV)) hb5 rfl (frRL_one _) fun w6 hb6 f6 hs6=>?_
 have hwg:w.heap.size≤g:=by omega
 have h23:=z3z hb3
 have h21:=z3z hk2
 have g3g:g≠g3:=by omega
 have g1g:g≠g1:=by omega
 have F5:Fr none1 w w5:=(F3.trans f4).trans f5
 have F6:Fr none1 w w6:=F5.fresh f6 hwg
 have f25:Fr none1 w2 w5:=(f3.trans f4).trans f5
 have k3:w6.heap[g3]? = some (.cells (frRL zeroX).toArray 45 (0,0)):=f6.keep (f25.keep0 hb3) (fun t=>g3g (show g3=g from t).symm)
 have k1:w6.heap[g1]? = some (.cells (keyL kb).toArray 32 (0,0)):=f6.keep (f25.keep0 hk2) (fun t=>g1g (show g1=g from t).symm)
 have F26:Fr none1 w2 w6:=f25.fresh f6 (by omega)
 have hT6:RdB w6 (v.1,n,v.2.2) tx:=hT.keep0 F26
 refine RdB.mid (v:=(v.1,n,v.2.2)) hT6 (by decide) (by decide) (by show (9:Int)≤n;omega) hnc fun u1 hu1 _ _ _=>?_
 refine CallK.of (tnum11_spec hu1) ?_
 rintro _ _ ⟨rfl,rfl⟩
 refine ⟨((takeL (partL tx 1 9)).1,(takeL (partL tx 1 9)).2,()),rfl,?_⟩
 refine StK.fld hb6 (by show 0+1<18;omega) rfl fun w7 hb7 f7 _=>?_
 have F27:Fr none1 w2 w7:=F26.fresh f7 (by omega)
 refine RdB.mid (v:=(v.1,n,v.2.2)) (hT.keep0 F27) (by decide) (by decide) (by show (17:Int)≤n;omega) hnc fun u2 hu2 _ _ _=>?_
 refine CallK.of (tnum11_spec hu2) ?_
 rintro _ _ ⟨rfl,rfl⟩
 refine ⟨((takeL (partL tx 9 17)).1,(takeL (partL tx 9 17)).2,()),rfl,?_⟩
 refine StK.fld hb7 (by show 0+2<18;omega) rfl fun w8 hb8 f8 _=>?_
 have F28:Fr none1 w2 w8:=F27.fresh f8 (by omega)
 refine RdB.mid (v:=(v.1,n,v.2.2)) (hT.keep0 F28) (by decide) (by decide) (by show (26:Int)≤n;omega) hnc fun u3 hu3 _ _ _=>?_
 refine CallK.of (tnum11_spec hu3) ?_
 rintro _ _ ⟨rfl,rfl⟩
 refine ⟨((takeL (partL tx 18 26)).1,(takeL (partL tx 18 26)).2,()),rfl,?_⟩
 refine StK.fld hb8 (by show 0+4<18;omega) rfl fun w9 hb9 f9 _=>?_
 have F29:Fr none1 w2 w9:=F28.fresh f9 (by omega)
 have k39:=f9.keep (f8.keep (f7.keep k3 (fun t=>g3g (show g3=g from t).symm)) (fun t=>g3g (show g3=g from t).symm)) (fun t=>g3g (show g3=g from t).symm)
 have k19:=f9.keep (f8.keep (f7.keep k1 (fun t=>g1g (show g1=g from t).symm)) (fun t=>g1g (show g1=g from t).symm)) (fun t=>g1g (show g1=g from t).symm)
 obtain ⟨Z,hZ⟩:∃ Z:Int→FrM,Z=fun a=>(((tx.getD 0 0).toNat:Int),(takeL (partL tx 1 9)).1,(takeL (partL tx 9 17)).1,((tx.getD 17 0).toNat:Int),(takeL (partL tx 18 26)).1,a,fl2,zeroM):=⟨_,rfl⟩
 have hb9:w9.heap[g]? = some (.cells (frRL (frR (Z 0).f zTV)).toArray 45 (0,0)):=by rw [hb9,hZ];rfl
 have hfl':((tx.getD 34 0).toNat==1)=fl2:=by
  rw [hfl2,Bool.eq_iff_iff];simp only [beq_iff_eq];omega
 obtain ⟨P,hP⟩:∃ P,P=tx.take 34:=⟨_,rfl⟩
 have hPl:P.length=34:=by rw [hP,List.length_take];omega
 have hPd:∀ j,j<34→P.getD j 0=tx.getD j 0:=fun j hj=>by
  rw [hP,List.getD_eq_getElem?_getD,List.getD_eq_getElem?_getD,List.getElem?_take_of_lt hj]
 have hPp:partL tx 26 34=P.drop 26:=by unfold partL;rw [hP,List.drop_take]
 refine LoopK.of (fun s w'=>∃ i:Nat,s.1=(i:Int) - 1∧26≤i∧i≤34∧w'.heap[g]? = some (.cells (frRL (frR (Z (lowL (P.drop i):Int)).f zTV)).toArray 45 (0,0))∧w'.heap[g3]? = some (.cells (frRL zeroX).toArray 45 (0,0))∧w'.heap[g1]? = some (.cells (keyL kb).toArray 32 (0,0))∧Fr none1 w2 w') (fun s _=>(s.1).toNat)
  ⟨34,rfl,by decide,by decide,by rw [List.drop_of_length_le (by omega)];exact hb9,k39,k19,F29⟩ ?_
 rintro _ ⟨i',_⟩ wa ⟨i,hi,hi26,hi34,hga,h3a,h1a,Fa⟩
 dsimp only at hi ⊢
 subst hi
 refine ifB.dec (fun hge=>?_) (fun hlt=>?_)
 ·obtain ⟨j,rfl⟩:∃ j,i=j+1:=⟨i - 1,by omega⟩
  refine DrewK.of fun wb _ fb=>HoldK.all ⟨trivial,?_⟩
  have hgb:=fb.keep0 hga
  refine LdK.fld (c:=.int .u64) hgb (x:=(lowL (P.drop (j+1)):Int)) (by rw [hZ];rfl) ⟨by decide,IdxK.ink (fun _ _=>trivial) (RdB.at (v:=(v.1,n,v.2.2)) ((hT.keep0 Fa).keep0 fb) (by omega) (by show ((j+1:Nat):Int) - 1<n;omega) ?_)⟩
  have e1:(((j+1:Nat):Int) - 1).toNat=j:=by omega
  have hlow:lowL (P.drop (j+1))<72057594037927936:=by
   have h1:=low_lt (P.drop (j+1))
   have h2:256 ^ (P.drop (j+1)).length≤256 ^ 7:=Nat.pow_le_pow_right (by decide) (by rw [List.length_drop];omega)
   have:(256:Nat) ^ 7=72057594037927936:=by decide
   omega
  rw [e1,or_byte _ _ hlow,wI (by omega) (by omega),← hPd j (by omega),← low_drop P j (by omega)]
  refine StK.fld hgb (by show 0+5<18;omega) rfl fun wc hbc fc _=>?_
  refine ⟨⟨j,by omega,by omega,by omega,?_,fc.keep (fb.keep0 h3a) (fun t=>g3g (show g3=g from t).symm),fc.keep (fb.keep0 h1a) (fun t=>g1g (show g1=g from t).symm),(Fa.trans fb).fresh fc (by omega)⟩,by omega⟩
  rw [hbc,hZ];rfl
 have hi6:i=26:=by omega
 subst hi6
 rw [← hPp] at hga
 refine LdK.fld (c:=.int .i64) hga (x:=((tx.getD 17 0).toNat:Int)) (by rw [hZ];rfl) ?_
 have Faw:Fr none1 w wa:=f12.trans Fa
 refine ifB.eq (fun h1=>?_) (fun h1=>?_)
 ·refine RdB.mid (v:=(v.1,n,v.2.2)) (hT.keep0 Fa) (by decide) (by show (35:Int)≤n;omega) (Int.le_refl _) hnc fun u5 hu5 hu5c _ _=>?_
  have e35:(tx.drop (35:Int).toNat).take ((n:Int) - 35).toNat=tx.drop 35:=by
   rw [show (35:Int).toNat=35 by rfl]
   exact List.take_of_length_le (by rw [List.length_drop];omega)
  have hu5:RdB wa u5 ((tx.drop (35:Int).toNat).take ((n:Int) - 35).toNat):=hu5
  rw [e35] at hu5
  refine CallK.of (take11_spec hu5 hu5c) ?_
  rintro _ wb ⟨t,rfl,mt,fb⟩
  rw [tkp_same] at mt ⊢
  refine ⟨(evR (takeP false (tx.drop 35)).1.e t,(takeP false (tx.drop 35)).2,()),rfl,?_⟩
  obtain ⟨Y,hY⟩:∃ Y:FrM,Y=(((tx.getD 0 0).toNat:Int),(takeL (partL tx 1 9)).1,(takeL (partL tx 9 17)).1,((tx.getD 17 0).toNat:Int),(takeL (partL tx 18 26)).1,(lowL (partL tx 26 34):Int),fl2,(takeP false (tx.drop 35)).1):=⟨_,rfl⟩
  have e:Y=parseF tx:=by
   rw [hY];unfold parseF;rw [if_pos (by omega),hfl']
  obtain ⟨a1,a2,a3,a4⟩:=z19z (T:=45) (b:=g) (evRL (evR (takeP false (tx.drop 35)).1.e t)) wb [.int .i64 ((tx.getD 0 0).toNat:Int),.int .i64 (takeL (partL tx 1 9)).1,.int .i64 (takeL (partL tx 9 17)).1,.int .i64 ((tx.getD 17 0).toNat:Int),.int .i64 (takeL (partL tx 18 26)).1,.int .u64 (lowL (partL tx 26 34):Int),.bool fl2] (evRL (evR zeroM.e zTV)) (by rw [fb.keep0 hga,hZ];rfl) rfl rfl
  refine ⟨z20z _ _ 0 a1,?_⟩
  rw [z11z]
  refine fin Y t g _ ?_ (a3.keep (fb.keep0 h3a) (fun t=>g3g (show g3=g from t).symm)) (a3.keep (fb.keep0 h1a) (fun t=>g1g (show g1=g from t).symm)) ?_ ((Faw.trans fb).fresh a3 hwg) g3g e
  ·rw [hY];exact a2
  ·have:Y.m=(takeP false (tx.drop 35)).1:=by rw [hY];rfl
   rw [this]
   have:=Fa.size
   exact (mt.keep a3 fun k hk _ q=>by have:k=g:=q;have hsa:=Fa.size;have:=z3z hga;omega).older Fa.size
 ·refine fin (Z (lowL (partL tx 26 34):Int)) zTV g wa hga h3a h1a ?_ Faw g3g ?_
  ·rw [hZ];exact zero_tree w2 wa
  ·rw [hZ];unfold parseF;rw [if_neg (by omega),hfl']
def C4 (p0:Option Addr) (p0l p0c:Nat) (p1:Option Addr) (p1l p1c:Nat) (p2:YZ15) (p3:YZ13) (p4:Bool) (p5:Bool) (p6:Int) (p7:Int) (w:World) (K:Value→World→Prop):Prop:=
 NewK (.cells ((LZ15 p2).toArray) 25) w (fun g1 w2=>NewK (.cells ((LZ13 p3).toArray) 31) w2 (fun g3 w4=>NewK (.cells #[.int .u8 0,.int .u8 0,.int .u8 0,.int .u8 0,.int .u8 0,.int .u8 0,.int .u8 0,.int .u8 0,.int .u8 0,.int .u8 0,.int .u8 0,.int .u8 0,.int .u8 0,.int .u8 0,.int .u8 0,.int .u8 0] 33) w4 (fun g5 w6=>SubK (some (ad g5)) 16 0 16 16 1 (fun a7 l8 c9=>RunK Tryz.prog (Builtin.copy_ #[22,22] 3 #[.slice a7 l8 c9,.slice p0 p0l p0c]) w6 (.v (.one (.int .i64))) (fun (x10:Int) w11=>CallK Tryz.prog 13 #[.slice p1 p1l p1c] w11 (.v (.one .slc)) (fun (x12:SlT) w13=>JoinK (SlT×Unit) (fun J14=>ifB (!p4)
 (LdsK KZ15 (ad g1) w13 (fun (x17:YZ15)=>LdsK KZ13 (ad g3) w13 (fun (x18:YZ13)=>CallK Tryz.prog 6 #[.agg (LZ15 x17).toArray,.agg (LZ13 x18).toArray,.int .i64 0] w13 (.tup [.agg KZ18,.agg KZ19,.one .bool]) (fun (x19:YZ18×YZ19×Bool×Unit) w20=>NewK (.cells #[.int .i64 0,.int .i64 0,.int .i64 0,.int .i64 0,.int .i64 0,.int .u64 0,.bool false,.int .i64 0,.string (⟨#[]⟩:ByteArray),.string (⟨#[]⟩:ByteArray),.string (⟨#[]⟩:ByteArray),.string (⟨#[]⟩:ByteArray),.int .i64 0,.int .i64 0,.nilIface] 38) w20 (fun g21 w22=>NewK (.cells #[.int .i64 0,.int .i64 0,.int .i64 0,.int .i64 0,.int .i64 0,.int .u64 0,.bool false,.int .i64 0,.string (⟨#[]⟩:ByteArray),.string (⟨#[]⟩:ByteArray),.string (⟨#[]⟩:ByteArray),.string (⟨#[]⟩:ByteArray),.int .i64 0,.int .i64 0,.int .i64 0,.string (⟨#[]⟩:ByteArray),.int .i64 0,.slice none 0 0] 45) w22 (fun g23 w24=>StsK (ad g21) [.int .i64 x19.1.1,.int .i64 x19.1.2.1,.int .i64 x19.1.2.2.1,.int .i64 x19.1.2.2.2.1,.int .i64 x19.1.2.2.2.2.1,.int .u64 x19.1.2.2.2.2.2.1,.bool x19.1.2.2.2.2.2.2.1,.int .i64 x19.1.2.2.2.2.2.2.2.1,.string x19.1.2.2.2.2.2.2.2.2.1,.string x19.1.2.2.2.2.2.2.2.2.2.1,.string x19.1.2.2.2.2.2.2.2.2.2.2.1,.string x19.1.2.2.2.2.2.2.2.2.2.2.2.1,.int .i64 x19.1.2.2.2.2.2.2.2.2.2.2.2.2.1,.int .i64 x19.1.2.2.2.2.2.2.2.2.2.2.2.2.2.1,x19.1.2.2.2.2.2.2.2.2.2.2.2.2.2.2.1] w24 (fun w25=>StsK (ad g23) [.int .i64 x19.2.1.1,.int .i64 x19.2.1.2.1,.int .i64 x19.2.1.2.2.1,.int .i64 x19.2.1.2.2.2.1,.int .i64 x19.2.1.2.2.2.2.1,.int .u64 x19.2.1.2.2.2.2.2.1,.bool x19.2.1.2.2.2.2.2.2.1,.int .i64 x19.2.1.2.2.2.2.2.2.2.1,.string x19.2.1.2.2.2.2.2.2.2.2.1,.string x19.2.1.2.2.2.2.2.2.2.2.2.1,.string x19.2.1.2.2.2.2.2.2.2.2.2.2.1,.string x19.2.1.2.2.2.2.2.2.2.2.2.2.2.1,.int .i64 x19.2.1.2.2.2.2.2.2.2.2.2.2.2.2.1,.int .i64 x19.2.1.2.2.2.2.2.2.2.2.2.2.2.2.2.1,.int .i64 x19.2.1.2.2.2.2.2.2.2.2.2.2.2.2.2.2.1,.string x19.2.1.2.2.2.2.2.2.2.2.2.2.2.2.2.2.2.1,.int .i64 x19.2.1.2.2.2.2.2.2.2.2.2.2.2.2.2.2.2.2.1,.slice x19.2.1.2.2.2.2.2.2.2.2.2.2.2.2.2.2.2.2.2.1.1 x19.2.1.2.2.2.2.2.2.2.2.2.2.2.2.2.2.2.2.2.1.2.1 x19.2.1.2.2.2.2.2.2.2.2.2.2.2.2.2.2.2.2.2.1.2.2] w25 (fun w26=>LdaK 16 (ad g5) w26 (fun x27=>LdsK KZ19 (ad g23) w26 (fun (x28:YZ19)=>CallK Tryz.prog 11 #[.agg x27.toArray,.agg (LZ19 x28).toArray] w26 (.tup [.one .slc,.one (.int .i64)]) (fun (x29:SlT×Int×Unit) w30=>J14 ((x29.1.1,x29.1.2.1,x29.1.2.2),()) w30)))))))))))
 (J14 ((x12.1,x12.2.1,x12.2.2),()) w13))
 (fun _ s15 w16=>JoinK (SlT×Unit) (fun J31=>CallK Tryz.prog 14 #[.int .i64 p6,.int .i64 (IntKind.i64.wrap ((IntKind.i64.wrap (2 * (s15.1.2.1:Int)))+1))] w16 (.v (.one (.int .i64))) (fun (x34:Int) w35=>ifB (decide (x34<(s15.1.2.1:Int)))
 (SubK s15.1.1 s15.1.2.2 0 x34 s15.1.2.2 1 (fun a36 l37 c38=>J31 ((a36,l37,c38),()) w35))
 (J31 ((s15.1.1,s15.1.2.1,s15.1.2.2),()) w35)))
 (fun _ s32 w33=>JoinK (Unit) (fun J39=>CallK Tryz.prog 14 #[.int .i64 p7,.int .i64 (IntKind.i64.wrap ((IntKind.i64.wrap (16 * (s32.1.2.1:Int)))+1))] w33 (.v (.one (.int .i64))) (fun (x42:Int) w43=>ifB (decide (x42<(IntKind.i64.wrap (8 * (s32.1.2.1:Int)))))
 (NzK 8 (IdxK s32.1.1 s32.1.2.1 (IntKind.i64.wrap (Int.tdiv x42 8)) 1 (fun a44=>LdK (.int .u8) a44 w43 (fun (x45:Int)=>NzK 8 (NnK (IntKind.u64.wrap (Int.tmod x42 8)) (IdxK s32.1.1 s32.1.2.1 (IntKind.i64.wrap (Int.tdiv x42 8)) 1 (fun a46=>StK a46 (.int .u8 (IntKind.u8.wrap ((BitVec.ofInt 8 x45 ^^^ BitVec.ofInt 8 (IntKind.u8.wrap (1 * 2 ^ (min (Int.toNat (IntKind.u64.wrap (Int.tmod x42 8))) 8)))).toNat:Int))) w43 (fun w47=>J39 (()) w47))))))))
 (J39 (()) w43)))
 (fun _ s40 w41=>ifB p5
 (DrewK w41 (fun w48=>HoldK (fun S49=>InK S49 (ad g5) (LdaK 16 (ad g5) w48 (fun x50=>CallK Tryz.prog 13 #[.slice s32.1.1 s32.1.2.1 s32.1.2.2] w48 (.v (.one .slc)) (fun (x51:SlT) w52=>KeepK S49 w48 w52 (CallK Tryz.prog 16 #[.agg x50.toArray,.slice s32.1.1 s32.1.2.1 s32.1.2.2] w52 (.v (.one (.int .u64))) (fun (x53:Int) w54=>KeepK S49 w52 w54 (CallK Tryz.prog 15 #[.int .u64 x53] w54 (.v (.one .slc)) (fun (x55:SlT) w56=>KeepK S49 w54 w56 (RunK Tryz.prog (Builtin.append_ #[22,22] 22 #[.slice x51.1 x51.2.1 x51.2.2,.slice x55.1 x55.2.1 x55.2.2]) w56 (.v (.one .slc)) (fun (x57:SlT) w58=>KeepK S49 w56 w58 (CallK Tryz.prog 17 #[.slice x57.1 x57.2.1 x57.2.2] w58 (.v (.one .slc)) (fun (x59:SlT) w60=>LdaK 16 (ad g5) w60 (fun x61=>CallK Tryz.prog 18 #[.agg x61.toArray,.slice x59.1 x59.2.1 x59.2.2] w60 (.tup [.agg KZ18,.one (.int .i64)]) (fun (x62:YZ18×Int×Unit) w63=>NewK (.cells #[.int .i64 0,.int .i64 0,.int .i64 0,.int .i64 0,.int .i64 0,.int .u64 0,.bool false,.int .i64 0,.string (⟨#[]⟩:ByteArray),.string (⟨#[]⟩:ByteArray),.string (⟨#[]⟩:ByteArray),.string (⟨#[]⟩:ByteArray),.int .i64 0,.int .i64 0,.nilIface] 38) w63 (fun g64 w65=>StsK (ad g64) [.int .i64 x62.1.1,.int .i64 x62.1.2.1,.int .i64 x62.1.2.2.1,.int .i64 x62.1.2.2.2.1,.int .i64 x62.1.2.2.2.2.1,.int .u64 x62.1.2.2.2.2.2.1,.bool x62.1.2.2.2.2.2.2.1,.int .i64 x62.1.2.2.2.2.2.2.2.1,.string x62.1.2.2.2.2.2.2.2.2.1,.string x62.1.2.2.2.2.2.2.2.2.2.1,.string x62.1.2.2.2.2.2.2.2.2.2.2.1,.string x62.1.2.2.2.2.2.2.2.2.2.2.2.1,.int .i64 x62.1.2.2.2.2.2.2.2.2.2.2.2.2.1,.int .i64 x62.1.2.2.2.2.2.2.2.2.2.2.2.2.2.1,x62.1.2.2.2.2.2.2.2.2.2.2.2.2.2.2.1] w65 (fun w66=>LdaK 16 (ad g5) w66 (fun x67=>CallK Tryz.prog 19 #[.agg x67.toArray,.slice x57.1 x57.2.1 x57.2.2] w66 (.tup [.agg KZ19,.one (.int .i64)]) (fun (x68:YZ19×Int×Unit) w69=>NewK (.cells #[.int .i64 0,.int .i64 0,.int .i64 0,.int .i64 0,.int .i64 0,.int .u64 0,.bool false,.int .i64 0,.string (⟨#[]⟩:ByteArray),.string (⟨#[]⟩:ByteArray),.string (⟨#[]⟩:ByteArray),.string (⟨#[]⟩:ByteArray),.int .i64 0,.int .i64 0,.int .i64 0,.string (⟨#[]⟩:ByteArray),.int .i64 0,.slice none 0 0] 45) w69 (fun g70 w71=>StsK (ad g70) [.int .i64 x68.1.1,.int .i64 x68.1.2.1,.int .i64 x68.1.2.2.1,.int .i64 x68.1.2.2.2.1,.int .i64 x68.1.2.2.2.2.1,.int .u64 x68.1.2.2.2.2.2.1,.bool x68.1.2.2.2.2.2.2.1,.int .i64 x68.1.2.2.2.2.2.2.2.1,.string x68.1.2.2.2.2.2.2.2.2.1,.string x68.1.2.2.2.2.2.2.2.2.2.1,.string x68.1.2.2.2.2.2.2.2.2.2.2.1,.string x68.1.2.2.2.2.2.2.2.2.2.2.2.1,.int .i64 x68.1.2.2.2.2.2.2.2.2.2.2.2.2.1,.int .i64 x68.1.2.2.2.2.2.2.2.2.2.2.2.2.2.1,.int .i64 x68.1.2.2.2.2.2.2.2.2.2.2.2.2.2.2.1,.string x68.1.2.2.2.2.2.2.2.2.2.2.2.2.2.2.2.1,.int .i64 x68.1.2.2.2.2.2.2.2.2.2.2.2.2.2.2.2.2.1,.slice x68.1.2.2.2.2.2.2.2.2.2.2.2.2.2.2.2.2.2.1.1 x68.1.2.2.2.2.2.2.2.2.2.2.2.2.2.2.2.2.2.1.2.1 x68.1.2.2.2.2.2.2.2.2.2.2.2.2.2.2.2.2.2.1.2.2] w71 (fun w72=>ifB (x62.2.1==x68.2.1)
 (LdsK KZ18 (ad g64) w72 (fun (x73:YZ18)=>LdsK KZ19 (ad g70) w72 (fun (x74:YZ19)=>CallK Tryz.prog 20 #[.agg (LZ18 x73).toArray,.agg (LZ19 x74).toArray] w72 (.v (.one .bool)) (fun (x75:Bool) w76=>ifB x75
 (CallK Tryz.prog 21 #[.slice x59.1 x59.2.1 x59.2.2,.slice x57.1 x57.2.1 x57.2.2] w76 (.v (.one .bool)) (fun (x77:Bool) w78=>ifB x77
 (CallK Tryz.prog 10 #[] w78 (.v (.one .bool)) (fun (x79:Bool) w80=>K (.bool x79) w80))
 (K (.bool false) w78)))
 (K (.bool false) w76)))))
 (K (.bool false) w72)))))))))))))))))))))))
 (CallK Tryz.prog 17 #[.slice s32.1.1 s32.1.2.1 s32.1.2.2] w41 (.v (.one .slc)) (fun (x81:SlT) w82=>LdaK 16 (ad g5) w82 (fun x83=>CallK Tryz.prog 18 #[.agg x83.toArray,.slice x81.1 x81.2.1 x81.2.2] w82 (.tup [.agg KZ18,.one (.int .i64)]) (fun (x84:YZ18×Int×Unit) w85=>NewK (.cells #[.int .i64 0,.int .i64 0,.int .i64 0,.int .i64 0,.int .i64 0,.int .u64 0,.bool false,.int .i64 0,.string (⟨#[]⟩:ByteArray),.string (⟨#[]⟩:ByteArray),.string (⟨#[]⟩:ByteArray),.string (⟨#[]⟩:ByteArray),.int .i64 0,.int .i64 0,.nilIface] 38) w85 (fun g86 w87=>StsK (ad g86) [.int .i64 x84.1.1,.int .i64 x84.1.2.1,.int .i64 x84.1.2.2.1,.int .i64 x84.1.2.2.2.1,.int .i64 x84.1.2.2.2.2.1,.int .u64 x84.1.2.2.2.2.2.1,.bool x84.1.2.2.2.2.2.2.1,.int .i64 x84.1.2.2.2.2.2.2.2.1,.string x84.1.2.2.2.2.2.2.2.2.1,.string x84.1.2.2.2.2.2.2.2.2.2.1,.string x84.1.2.2.2.2.2.2.2.2.2.2.1,.string x84.1.2.2.2.2.2.2.2.2.2.2.2.1,.int .i64 x84.1.2.2.2.2.2.2.2.2.2.2.2.2.1,.int .i64 x84.1.2.2.2.2.2.2.2.2.2.2.2.2.2.1,x84.1.2.2.2.2.2.2.2.2.2.2.2.2.2.2.1] w87 (fun w88=>LdaK 16 (ad g5) w88 (fun x89=>CallK Tryz.prog 19 #[.agg x89.toArray,.slice s32.1.1 s32.1.2.1 s32.1.2.2] w88 (.tup [.agg KZ19,.one (.int .i64)]) (fun (x90:YZ19×Int×Unit) w91=>NewK (.cells #[.int .i64 0,.int .i64 0,.int .i64 0,.int .i64 0,.int .i64 0,.int .u64 0,.bool false,.int .i64 0,.string (⟨#[]⟩:ByteArray),.string (⟨#[]⟩:ByteArray),.string (⟨#[]⟩:ByteArray),.string (⟨#[]⟩:ByteArray),.int .i64 0,.int .i64 0,.int .i64 0,.string (⟨#[]⟩:ByteArray),.int .i64 0,.slice none 0 0] 45) w91 (fun g92 w93=>StsK (ad g92) [.int .i64 x90.1.1,.int .i64 x90.1.2.1,.int .i64 x90.1.2.2.1,.int .i64 x90.1.2.2.2.1,.int .i64 x90.1.2.2.2.2.1,.int .u64 x90.1.2.2.2.2.2.1,.bool x90.1.2.2.2.2.2.2.1,.int .i64 x90.1.2.2.2.2.2.2.2.1,.string x90.1.2.2.2.2.2.2.2.2.1,.string x90.1.2.2.2.2.2.2.2.2.2.1,.string x90.1.2.2.2.2.2.2.2.2.2.2.1,.string x90.1.2.2.2.2.2.2.2.2.2.2.2.1,.int .i64 x90.1.2.2.2.2.2.2.2.2.2.2.2.2.1,.int .i64 x90.1.2.2.2.2.2.2.2.2.2.2.2.2.2.1,.int .i64 x90.1.2.2.2.2.2.2.2.2.2.2.2.2.2.2.1,.string x90.1.2.2.2.2.2.2.2.2.2.2.2.2.2.2.2.1,.int .i64 x90.1.2.2.2.2.2.2.2.2.2.2.2.2.2.2.2.2.1,.slice x90.1.2.2.2.2.2.2.2.2.2.2.2.2.2.2.2.2.2.1.1 x90.1.2.2.2.2.2.2.2.2.2.2.2.2.2.2.2.2.2.1.2.1 x90.1.2.2.2.2.2.2.2.2.2.2.2.2.2.2.2.2.2.1.2.2] w93 (fun w94=>ifB (x84.2.1==x90.2.1)
 (LdsK KZ18 (ad g86) w94 (fun (x95:YZ18)=>LdsK KZ19 (ad g92) w94 (fun (x96:YZ19)=>CallK Tryz.prog 20 #[.agg (LZ18 x95).toArray,.agg (LZ19 x96).toArray] w94 (.v (.one .bool)) (fun (x97:Bool) w98=>ifB x97
 (CallK Tryz.prog 21 #[.slice x81.1 x81.2.1 x81.2.2,.slice s32.1.1 s32.1.2.1 s32.1.2.2] w98 (.v (.one .bool)) (fun (x99:Bool) w100=>ifB x99
 (CallK Tryz.prog 10 #[] w100 (.v (.one .bool)) (fun (x101:Bool) w102=>K (.bool x101) w102))
 (K (.bool false) w100)))
 (K (.bool false) w98)))))
 (K (.bool false) w94))))))))))))))))))))
def pl4:Plan:=(.seq .auto (.seq .auto (.seq .auto (.seq .auto (.join [(1,.one .slc)] .auto (.join [(1,.one .slc)] .auto (.join [] .auto (.seq (.seq .auto (.cond (.held (.soft 0 (.soft 2 (.soft 3 (.pick 1 (.pick 4 (.pick 5 (.pick 6 (.soft 7 .done) .stop) .stop) .stop) .stop))))) .auto)) .auto))))))))
theorem c4 (p0:Option Addr) (p0l p0c:Nat) (p1:Option Addr) (p1l p1c:Nat) (p2:YZ15) (p3:YZ13) (p4:Bool) (p5:Bool) (p6:Int) (p7:Int) (w:World) (K:Value→World→Prop) (h:C4 p0 p0l p0c p1 p1l p1c p2 p3 p4 p5 p6 p7 w K):Ret Tryz.prog 4 #[.slice p0 p0l p0c,.slice p1 p1l p1c,.agg (LZ15 p2).toArray,.agg (LZ13 p3).toArray,.bool p4,.bool p5,.int .i64 p6,.int .i64 p7] w K:=z0z (by kernel_rfl) Tryz.func4 (p:=pl4) (Eq.mpr (by kernel_rfl) h)
theorem sameFr_self {m:FrM} (h:sameP m.m m.m=true):sameFr m m=true:=by simp [sameFr,h]
theorem open_same (kb bs:List UInt8):sameFr (openF kb bs).1 (openF kb bs).1=true:=by
 have hz:sameFr zeroFr zeroFr=true:=rfl
 unfold openF
 split
 ·exact hz
 split
 ·exact hz
 split
 ·exact hz
 split
 ·exact hz
 ·rename_i h
  refine sameFr_self (same_frame (bs:=textL bs) ?_)
  refine Prod.ext (Classical.not_not.1 fun e=>h (.inr e)) (Classical.not_not.1 fun e=>h (.inl e))
theorem seal_len {kb:List UInt8} {m:FrM} (hz:smallE m.m.e):(sealM kb m).1.length≤100000000:=by
 by_cases h:(sealM kb m).2=0
 ·obtain ⟨e1,e2⟩:=seal_ok h
  have hq:=(bytes_ok e1).2.1
  have hpl:=packF_len m.m.e hz (writeT m.m.t).1 (by have:=z32z m.m.t;omega) (writeT m.m.t).2
  have hpl:(packM m.m).1.length≤_:=hpl
  rw [e2,List.length_append,hed_len,hq,List.length_append,top_len]
  split
  ·omega
  ·simp
 ·have hs:sealM kb m=([],checkFr m.f (writeT m.m.t).2):=by
   have hne:checkFr m.f (writeT m.m.t).2≠0:=by rw [← seal_chk kb];exact h
   unfold sealM sealF bytesFr;rw [if_pos hne,if_pos hne]
  rw [hs];simp
theorem cpyK {w:World} {v:Sl} {bs:List UInt8} (h:RdB w v bs) (hl:bs.length≤140737488352000) {K:(Option Addr×Nat×Nat)→World→Prop} (k:∀ u w',IsB w' u bs→Fr none1 w w'→(∀ k,blkOf u k→w.heap.size≤k)→K u w'):CallK Tryz.prog 13 #[.slice v.1 v.2.1 v.2.2] w (.v (.one .slc)) (fun (x:Option Addr×Nat×Nat) w'=>K x w'):=by
 refine CallK.of (copy_spec h (by omega)) ?_
 rintro _ w' ⟨u,rfl,hu,f,uf⟩
 exact ⟨u,rfl,k u w' hu f uf⟩
set_option maxHeartbeats 8000000 in
theorem opens19_walk (a0:Option Addr) (len0 cap0:Nat) (z0:List Int) (a1:Option Addr) (len1 cap1:Nat) (z1:List Int) (p2:RawV) (p3:CmV) (p4 p5:Bool) (p6 p7:Int) (w:World) (h0:IsInts .u8 w a0 len0 cap0 z0) (h1:IsInts .u8 w a1 len1 cap1 z1) (hc1:cap1≤reachBytes) (h2:IsRaw w p2) (h3:IsCm w p3) (h6:(Go.Lit.int .i64 p6).wf=true) (h7:(Go.Lit.int .i64 p7).wf=true) (ht:TabW w) :
  Ret Tryz.prog 4 #[.slice a0 len0 cap0,.slice a1 len1 cap1,.agg (rawL p2).toArray,.agg (cmL p3).toArray,.bool p4,.bool p5,.int .i64 p6,.int .i64 p7] w fun r w'=>r=.bool true∧Fr none1 w w':=by
 refine c4 a0 len0 cap0 a1 len1 cap1 p2 p3 p4 p5 p6 p7 w _ ?_
 unfold C4
 have hrb:reachBytes=140737488351232:=rfl
 have hhead:0≤p2.2.2.2.2.2.1∧p2.2.2.2.2.2.1<18446744073709551616:=by
  have h4:=h2.2.2.2.2.2.1
  simp [Go.Lit.wf,IntKind.min,IntKind.max,IntKind.signed,IntKind.bits] at h4
  omega
 obtain ⟨hr,hcap⟩:=args_rd h0
 obtain ⟨hr1,hcap1⟩:=args_rd h1
 have hrl:len1=((z1.take len1).map toByte).length:=hr1.len
 have hcap1:len1≤cap1:=hcap1
 have hb1l:((z1.take len1).map toByte).length≤140737488351232:=by omega
 generalize (z1.take len1).map toByte=bs1 at *
 refine NewK.of fun g1 w1 hg1 hb1 f1 hs1=>NewK.of fun g3 w2 hg3 hb3 f2 hs2=>NewK.of fun g5 w3 hg5 hb5 f3 hs3=>?_
 have hb1:w1.heap[g1]? = some (.cells (rawL p2).toArray 25 (0,0)):=hb1
 have hb3:w2.heap[g3]? = some (.cells (cmL p3).toArray 31 (0,0)):=hb3
 have hb5:w3.heap[g5]? = some (.cells (keyL zeroKey).toArray 33 (0,0)):=hb5
 have F3:=(f1.trans f2).trans f3
 refine key_all ?_
 refine copy_key hb5 (hr.keep0 F3) _ fun r1 w4 hb54 f4=>?_
 have hk:=padK_len ((z0.take len0).map toByte)
 generalize padK ((z0.take len0).map toByte)=kb at *
 have F4:Fr none1 w w4:=F3.fresh f4 (by have:=f1.size;have:=f2.size;omega)
 have b14:=f4.keep (f3.keep0 (f2.keep0 hb1)) (fun t=>by have:g1=g5:=t;omega)
 have b34:=f4.keep (f3.keep0 hb3) (fun t=>by have:g3=g5:=t;omega)
 have g54:=z3z hb54
 have s4:=F4.size
 refine cpyK (hr1.keep0 F4) (Nat.le_trans hb1l (by decide)) fun x w5 hx f5 xf=>?_
 have F5:=F4.trans f5
 have b55:=f5.keep0 hb54
 refine JoinK.of (fun st w'=>∃ ds:List UInt8,IsB w' st.1 ds∧ds.length≤140737488351232∧(∀ k,blkOf st.1 k→w4.heap.size≤k)∧w'.heap[g5]? = some (.cells (keyL kb).toArray 33 (0,0))∧Fr none1 w w') ?_ ?_
 ·refine ifB.not (ifB.by (fun _=>⟨bs1,hx,hb1l,xf,b55,F5⟩) (fun _=>?_))
  refine LdsK.blk (cks:=[.int .i64,.int .i64,.int .i64,.int .i64,.int .i64,.int .u64,.bool,.int .i64,.int .i64,.str]) (x:=p2) (f5.keep0 b14) ?_
  refine LdsK.blk (cks:=[.int .i64,.int .i64,.int .i64,.int .i64,.int .i64,.str,.slc,.slc]) (x:=p3) (f5.keep0 b34) ?_
  refine CallK.of (frsome_spec p2 p3 (h3.1.keep0 F5)) ?_
  rintro _ w6 ⟨f,t,v,rfl,he,hz,hn,hsh,hhd,mt,f6⟩
  refine ⟨(f,frR f v,false,()),rfl,?_⟩
  obtain ⟨m,rfl,hmt⟩:=frM_of f t he
  subst hmt
  have F6:=F5.trans f6
  have s5:=f5.size;have s6:=f6.size
  refine NewK.of fun g16 w7 hg16 hb16 f7 hs7=>NewK.of fun g18 w8 hg18 hb18 f8 hs8=>?_
  refine StsK.blk (cs:=frL zeroFr.f) (vs:=frL m.f) (f8.keep0 hb16) rfl (frM_one m) fun w9 hb169 f9 hs9=>?_
  refine StsK.blk (cs:=frRL zeroX) (vs:=frRL (frR m.f v)) (f9.keep hb18 (fun t=>by have:g18=g16:=t;omega)) rfl (frRL_one _) fun w10 hb180 f10 hs10=>?_
  have f610:Fr none1 w6 w10:=((f7.trans f8).fresh f9 (by omega)).fresh f10 (by omega)
  have b510:=f610.keep0 (f6.keep0 b55)
  have s610:=f610.size
  refine LdaK.of b510 (by simp [keyL,hk]) (LdsK.blk (cks:=FRK) (x:=frR m.f v) hb180 ?_)
  have hh:0≤m.2.2.2.2.2.1∧m.2.2.2.2.2.1<18446744073709551616:=by
   have:m.2.2.2.2.2.1=p2.2.2.2.2.2.1:=hhd
   rw [this];exact hhead
  refine CallK.of (seal17_spec kb hk m hz (by omega) hsh hh (IsTr.keep0 mt f610) fun k hk=>by have:=hk.2;omega) ?_
  rintro _ w11 ⟨u,rfl,hu,f11⟩
  refine ⟨(u,(sealM kb m).2,()),rfl,?_⟩
  have hsl:=seal_len (kb:=kb) hz
  exact ⟨_,hu.is,by omega,fun k hk=>by have:=hu.lo k hk;omega,f11.keep0 b510,(F6.trans f610).trans f11⟩
 rintro _ ⟨s,_⟩ w6 ⟨ds,hs,hsl,hsf,b56,F6⟩
 dsimp only at hs hsf ⊢
 clear hx xf
 have hsn:=hs.len
 rw [wI (x:=2 * (s.2.1:Int)) (by omega) (by omega),wI (x:=2 * (s.2.1:Int)+1) (by omega) (by omega)]
 refine JoinK.of (fun st w'=>∃ ds:List UInt8,IsB w' st.1 ds∧ds.length≤140737488351232∧(∀ k,blkOf st.1 k→w4.heap.size≤k)∧w'.heap[g5]? = some (.cells (keyL kb).toArray 33 (0,0))∧Fr none1 w w') ?_ ?_
 ·refine CallK.of (z30z p6 (2 * (s.2.1:Int)+1) w6 (by omega)) ?_
  rintro _ _ ⟨rfl,rfl⟩
  refine ⟨_,rfl,?_⟩
  have k0:=within_lo p6 (2 * (s.2.1:Int)+1)
  generalize within p6 (2 * (s.2.1:Int)+1)=k at *
  refine ifB.dec (fun hlt=>?_) (fun _=>⟨ds,hs,hsl,hsf,b56,F6⟩)
  refine IsB.mid hs (Int.le_refl 0) k0 (by omega) fun u hu hub=>?_
  exact ⟨_,hu,by rw [List.length_take,List.length_drop];omega,fun k hk=>hsf k (hub k hk),b56,F6⟩
 clear hs hsl hsf b56 F6 hsn
 rintro _ ⟨s,_⟩ w7 ⟨ds,hs,hsl,hsf,b57,F7⟩
 dsimp only at hs hsf ⊢
 have hsn:=hs.len
 rw [wI (x:=16 * (s.2.1:Int)) (by omega) (by omega),wI (x:=16 * (s.2.1:Int)+1) (by omega) (by omega),wI (x:=8 * (s.2.1:Int)) (by omega) (by omega)]
 refine JoinK.of (fun _ w'=>∃ ds:List UInt8,IsB w' s ds∧ds.length≤140737488351232∧w'.heap[g5]? = some (.cells (keyL kb).toArray 33 (0,0))∧Fr none1 w w') ?_ ?_
 ·refine CallK.of (z30z p7 (16 * (s.2.1:Int)+1) w7 (by omega)) ?_
  rintro _ _ ⟨rfl,rfl⟩
  refine ⟨_,rfl,?_⟩
  have k0:=within_lo p7 (16 * (s.2.1:Int)+1)
  generalize within p7 (16 * (s.2.1:Int)+1)=k at *
  refine ifB.dec (fun hlt=>?_) (fun _=>⟨ds,hs,hsl,b57,F7⟩)
  have hq:k.tdiv 8=k / 8:=Int.tdiv_eq_ediv_of_nonneg k0
  have hm:k.tmod 8=k % 8:=Int.tmod_eq_emod_of_nonneg k0
  have hm0:0≤k % 8:=Int.emod_nonneg _ (by decide)
  have hm1:k % 8<8:=Int.emod_lt_of_pos _ (by decide)
  rw [hq,hm,wI (x:=k / 8) (by omega) (by omega),wU (x:=k % 8) (by omega) (by omega)]
  refine ⟨by decide,?_⟩
  refine RdB.at hs.rd (by omega) (by omega) ?_
  refine ⟨by decide,hm0,?_⟩
  rw [xorB_val]
  generalize UInt8.ofNat (BitVec.ofInt 8 ((ds.getD (k / 8).toNat 0).toNat:Int) ^^^ BitVec.ofInt 8 (IntKind.u8.wrap (1 * 2 ^ (min (Int.toNat (k % 8)) 8)))).toNat=d
  refine IsSl.st hs (by omega) (by omega) rfl fun w11 hb11 f11 _=>?_
  have hb11':IsB w11 s (ds.set (k / 8).toNat d):=by unfold IsB;rw [List.map_set];exact hb11
  exact ⟨_,hb11',by rw [List.length_set];omega,f11.keep b57 (fun t=>by have:=hsf g5 t;omega),F7.comp f11 fun j hj t=>by have:=hsf j t;omega⟩
 clear hs hsl b57 F7 hsn
 rintro _ _ w8 ⟨ds,hs,hsl,b58,F8⟩
 have wk:∀ wa,Fr none1 w wa→CallK Tryz.prog 10 #[] wa (.v (.one .bool)) (fun (x:Bool) w'=>(Value.bool x)=.bool true∧Fr none1 w w'):=by
  intro wa fa
  refine CallK.of (wakes19_spec wa (ht.keep0 fa)) ?_
  rintro _ w5 ⟨rfl,f5⟩
  exact ⟨_,rfl,rfl,fa.trans f5⟩
 have g58:=z3z b58
 have tailX:∀ (y:Sl) (ys:List UInt8) (wb:World),RdB wb y ys→y.2.1≤y.2.2→ys.length≤140737488352000→wb.heap[g5]? = some (.cells (keyL kb).toArray 33 (0,0))→Fr none1 w wb →
   CallK Tryz.prog 17 #[.slice y.1 y.2.1 y.2.2] wb (.v (.one .slc)) (fun (x81:Option Addr×Nat×Nat) w82=>LdaK 16 ⟨g5,0,none⟩ w82 (fun x83=>CallK Tryz.prog 18 #[.agg x83.toArray,.slice x81.1 x81.2.1 x81.2.2] w82 (.tup [.agg FK,.one (.int .i64)]) (fun (x84:Cs FK×Int×Unit) w85=>
    NewK (.cells (frL zeroFr.f).toArray 38) w85 (fun g86 w87=>StsK ⟨g86,0,none⟩ (Cs.vals FK x84.1) w87 (fun w88=>LdaK 16 ⟨g5,0,none⟩ w88 (fun x89=>CallK Tryz.prog 19 #[.agg x89.toArray,.slice y.1 y.2.1 y.2.2] w88 (.tup [.agg FRK,.one (.int .i64)]) (fun (x90:Cs FRK×Int×Unit) w91=>
    NewK (.cells (frRL zeroX).toArray 45) w91 (fun g92 w93=>StsK ⟨g92,0,none⟩ (Cs.vals FRK x90.1) w93 (fun w94=>ifB (x84.2.1==x90.2.1)
    (LdsK FK ⟨g86,0,none⟩ w94 (fun (x95:Cs FK)=>LdsK FRK ⟨g92,0,none⟩ w94 (fun (x96:Cs FRK)=>CallK Tryz.prog 20 #[.agg (Cs.vals FK x95).toArray,.agg (Cs.vals FRK x96).toArray] w94 (.v (.one .bool)) (fun (x97:Bool) w98=>ifB x97
    (CallK Tryz.prog 21 #[.slice x81.1 x81.2.1 x81.2.2,.slice y.1 y.2.1 y.2.2] w98 (.v (.one .bool)) (fun (x99:Bool) w100=>ifB x99
    (CallK Tryz.prog 10 #[] w100 (.v (.one .bool)) (fun (x101:Bool) w102=>(Value.bool x101)=.bool true∧Fr none1 w w102))
    ((Value.bool false)=.bool true∧Fr none1 w w100)))
    ((Value.bool false)=.bool true∧Fr none1 w w98)))))
    ((Value.bool false)=.bool true∧Fr none1 w w94)))))))))):=by
  intro y ys wb hy hyc hyl hk5 Fb
  refine CallK.of (lend_spec hy hyl) ?_
  rintro _ wc ⟨gL,rfl,hgL,hL,fc⟩
  refine ⟨(some ⟨gL,0,none⟩,ys.length,ys.length+3),rfl,?_⟩
  have Fc:=Fb.trans fc
  have hkc:=fc.keep0 hk5
  refine LdaK.of hkc (by simp [keyL,hk]) ?_
  refine CallK.of (fopen_spec kb hk (lend_rd hL) (by dsimp only;omega) (by omega) (ht.keep0 Fc)) ?_
  rintro _ wd ⟨rfl,fd⟩
  refine ⟨((openF kb ys).1.f,(openF kb ys).2,()),rfl,?_⟩
  refine ns_ok (zs:=frL zeroFr.f) (vs:=frL (openF kb ys).1.f) rfl (frM_one _) fun g64 we hg64 hbe fe=>?_
  have fce:=fd.trans fe
  refine LdaK.of (fce.keep0 hkc) (by simp [keyL,hk]) ?_
  refine CallK.of (open17_spec kb hk (hy.keep0 (fc.trans fce)) hyc hyl) ?_
  rintro _ wf ⟨t,rfl,mt,ff⟩
  refine ⟨(frR (openF kb ys).1.f t,(openF kb ys).2,()),rfl,?_⟩
  refine ns_ok (zs:=frRL zeroX) (vs:=frRL (frR (openF kb ys).1.f t)) rfl (frRL_one _) fun g70 wg hg70 hbg fg=>?_
  refine ifB.t (by simp) (LdsK.blk (cks:=FK) (x:=(openF kb ys).1.f) ((ff.trans fg).keep0 hbe) (LdsK.blk (cks:=FRK) (x:=frR (openF kb ys).1.f t) hbg ?_))
  refine CallK.of (frsame_spec (openF kb ys).1 (openF kb ys).1 (IsTr.keep0 mt fg)) ?_
  rintro _ wh ⟨rfl,fh⟩
  rw [open_same]
  refine ⟨true,rfl,ifB.t rfl ?_⟩
  have fch:=((fce.trans ff).trans fg).trans fh
  refine CallK.of (intact_spec (hL.keep0 fch) (hy.keep0 (fc.trans fch)) hyl) ?_
  rintro _ wi ⟨rfl,fi⟩
  exact ⟨true,rfl,ifB.t rfl (wk wi ((Fc.trans fch).trans fi))⟩
 refine ifB.by (fun _=>?_) (fun _=>?_)
 ·refine DrewK.of fun w9 _ f9=>HoldK.of (fun k=>k=g5) ⟨rfl,LdaK.of (f9.keep0 b58) (by simp [keyL,hk]) ?_⟩
  have s9:=f9.size
  refine cpyK (hs.keep0 f9).rd (Nat.le_trans hsl (by decide)) fun y wy hy fy yf=>KeepK.of fy ?_
  refine s01K hk ((hs.keep0 f9).keep0 fy).rd (Nat.le_trans hsl (by decide)) fun wz fz=>KeepK.of fz ?_
  have hr:=sum_rng kb ds
  refine b01K _ hr.1 hr.2 wz fun u wu hu fu=>KeepK.of fu ?_
  have fyu:=fz.trans fu
  have F9u:=((F8.trans f9).trans fy).trans fyu
  have sF8:=F8.size
  refine app_some (hy.keep0 fyu) hu (by rw [hed_len];omega) fun o wb ho fo of=>KeepK.on fo (fun k hk t=>by have:=yf k t;omega) ?_
  have hyl:(ds++hedL (sumI kb ds)).length≤140737488352000:=by rw [List.length_append,hed_len];omega
  have b5b:wb.heap[g5]? = some (.cells (keyL kb).toArray 33 (0,0)):=fo.keep (fyu.keep0 (fy.keep0 (f9.keep0 b58))) (fun t=>by have:=yf g5 t;omega)
  have Fb:Fr none1 w wb:=F9u.comp fo fun k hk t=>by have:=yf k t;omega
  have hyr:=ho.rd
  have hyc:=ho.cap
  generalize ds++hedL (sumI kb ds)=ys at *
  clear ho
  exact tailX o ys wb hyr hyc hyl b5b Fb
 ·exact tailX s ds w8 hs.rd hs.cap (Nat.le_trans hsl (by decide)) b58 F8
end Go.Proofs.YtdphmcanlhcokaaGreatDoor
