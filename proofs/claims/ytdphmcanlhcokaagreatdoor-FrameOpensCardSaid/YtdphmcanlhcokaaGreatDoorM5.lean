/-
  Texts of this claim, put together: RefReadSpec3, CRef11T, TakeSpec2, TakeSpec3, TakeSpec4, CSipG, SipSpec, NilNe, CFrameG, FrameSpec, FrameF, FrameSpec2, FrameSpec3, CSameG, SameSpec, CEvSame, EvSame, CFrSome, FrRef, VcRaw, SomeSpec2, FrSome, PTake0, KeyCopy.
  Conditions: those of each theorem.
-/
import Derived.Test.YtdphmcanlhcokaaGreatDoorM0
import Derived.Test.YtdphmcanlhcokaaGreatDoorM1
import Derived.Test.YtdphmcanlhcokaaGreatDoorM2
import Derived.Test.YtdphmcanlhcokaaGreatDoorM3
import Derived.Test.YtdphmcanlhcokaaGreatDoorM4
import Derived.KernelRfl
import Derived.Laws.StructEq
import Derived.Test.YtdphmcanlhcokaaGreatDoorProg
set_option linter.unusedVariables false
set_option maxRecDepth 100000
namespace Go.Proofs.YtdphmcanlhcokaaGreatDoor
open Vc
theorem shortO_toks (o:Ob) (h:∀ x∈toksO o,x.length≤1000):shortO o:=by
 induction o with
 | none=>trivial
 | const n=>trivial
 | fix s=>exact h s (by simp [toksO])
 | neg o i=>exact i fun x hx=>h x (by simp [toksO,hx])
 | add l r i j=>exact ⟨i fun x hx=>h x (by simp [toksO,hx]),j fun x hx=>h x (by simp [toksO,hx])⟩
 | mul l r i j=>exact ⟨i fun x hx=>h x (by simp [toksO,hx]),j fun x hx=>h x (by simp [toksO,hx])⟩
 | max l r i j=>exact ⟨i fun x hx=>h x (by simp [toksO,hx]),j fun x hx=>h x (by simp [toksO,hx])⟩
theorem shortT_toks (t:Tm) (h:∀ x∈toksT t,x.length≤1000):shortT t:=by
 induction t with
 | none=>trivial
 | zero=>trivial
 | one s=>exact h s (by simp [toksT])
 | give t i=>exact i fun x hx=>h x (by simp [toksT,hx])
 | and l r i j=>exact ⟨i fun x hx=>h x (by simp [toksT,hx]),j fun x hx=>h x (by simp [toksT,hx])⟩
 | or s l r i j=>exact ⟨h s (by simp [toksT]),i fun x hx=>h x (by simp [toksT,hx]),j fun x hx=>h x (by simp [toksT,hx])⟩
 | scale o t i=>exact ⟨shortO_toks o fun x hx=>h x (by simp [toksT,hx]),i fun x hx=>h x (by simp [toksT,hx])⟩
 | «when» d t i=>exact i fun x hx=>h x (by simp [toksT,hx])
 | cond o l r i j=>exact ⟨shortO_toks o fun x hx=>h x (by simp [toksT,hx]),i fun x hx=>h x (by simp [toksT,hx]),j fun x hx=>h x (by simp [toksT,hx])⟩
theorem ate_small {bs:List UInt8} (hl:¬ 1000<bs.length) (hb:¬ 0<(sgF [] 0 false (runesL bs)).2) {ts:List (List UInt8)} {s':RS} (h:Ate (begR bs) ts s'):ts.length≤1001∧∀ x∈ts,x.length≤1000:=by
 obtain ⟨xs,hx,rfl⟩:=h.eat
 have hx:(sgF [] 0 false (runesL bs)).1=xs++s'.l:=hx
 have h1:=sgF_cnt (runesL bs) [] 0 false
 have h2:=z37z bs
 have h3:=sgF_bytes hb
 rw [hx] at h1 h3
 refine ⟨by simp only [List.length_append,List.length_map,List.length_nil] at h1 ⊢;omega,fun x hm=>?_⟩
 obtain ⟨y,hy,rfl⟩:=List.mem_map.1 hm
 have:=mem_lenS (x:=y) (l:=xs++s'.l) (List.mem_append_left _ hy)
 omega
theorem tree_small {bs:List UInt8} (hl:¬ 1000<bs.length) (hb:¬ 0<(sgF [] 0 false (runesL bs)).2) (num:Bool) (he:(treeF (endF bs) 12 num (begR bs)).2.e=0):cntR (treeF (endF bs) 12 num (begR bs)).1≤1000000∧shortR (treeF (endF bs) 12 num (begR bs)).1:=by
 cases num
 ·have hs:=sameT_con (endF bs) 12 (begR bs)
  rw [hs.1] at he
  rw [hs.2 he]
  have ha:=ate_small hl hb (conR_inv (endF bs) 12 (begR bs) he).1
  have h1:=nodesT_toks (conR (endF bs) 12 (begR bs)).1
  have h2:=cnt_trT (conR (endF bs) 12 (begR bs)).1
  exact ⟨by omega,short_trT _ (shortT_toks _ ha.2)⟩
 ·have hs:=sameO_num (endF bs) 12 (begR bs)
  rw [hs.1] at he
  rw [hs.2 he]
  have ha:=ate_small hl hb (numR_inv (endF bs) 12 (begR bs) he).1
  have h1:=nodesO_toks (numR (endF bs) 12 (begR bs)).1
  have h2:=cnt_trO (numR (endF bs) 12 (begR bs)).1
  exact ⟨by omega,short_trO _ (shortO_toks _ ha.2)⟩
theorem rr_count (bs:List UInt8) (hl:bs.length≤1000000) (w:World):Ret Tryz.prog 101 #[.string (str bs)] w fun r w'=>r=.int .i64 ((runesL bs).length:Int)∧Fr none1 w w':=by
 refine c101 _ w _ ?_
 unfold C101
 refine CallK.of (rrunes_spec bs hl w) ?_
 rintro _ w1 ⟨v,rfl,hv,f1,_⟩
 refine ⟨v,rfl,?_⟩
 have:=IsR.len hv
 exact ⟨by rw [this],f1⟩
theorem tell0 {w wc:World} {g:Nat} {v0 v:TV} {t:Tr} (f:Fr none1 w wc) (hg:w.heap.size≤g) (tb:TB wc g v0) {S:Nat→Prop} (hm:IsTr wc S t v) (hS:∀ k,S k→w.heap.size≤k∧k<wc.heap.size∧k≠g) {K:TV→World→Prop}
  (k:∀ w2,Fr none1 w w2→Made w w2 t v→K v w2):StsK ⟨g,0,none⟩ (tvL v) wc fun w2=>LdsK TVK ⟨g,0,none⟩ w2 fun x=>K x w2:=
 StsK.blk (cs:=tvL v0) (vs:=tvL v) tb rfl rfl fun w2 hb2 f2 _=>LdsK.blk (cks:=TVK) (x:=v) hb2 (k w2 (f.fresh f2 hg) (IsTr.mono (fun k hk=>⟨(hS k hk).1,Nat.lt_of_lt_of_le (hS k hk).2.1 f2.size⟩) _ _ (IsTr.keep f2 (fun k hk t=>(hS k hk).2.2 t) _ _ hm)))
theorem tell_leaf {w wc:World} {g:Nat} {v0:TV} (f:Fr none1 w wc) (hg:w.heap.size≤g) (tb:TB wc g v0) (k:Int) (s:List UInt8) (n:Int) {K:TV→World→Prop}
  (hk:∀ w2,Fr none1 w w2→Made w w2 (.mk k s n []) (k,str s,n,(none,0,0),())→K (k,str s,n,(none,0,0),()) w2):StsK ⟨g,0,none⟩ (tvL (k,str s,n,(none,0,0),())) wc fun w2=>LdsK TVK ⟨g,0,none⟩ w2 fun x=>K x w2:=
 tell0 (S:=fun _=>False) f hg tb (IsTr.mono (fun k hk=>by have:=hk.1;have:=hk.2;omega) _ _ (z17z wc wc k s n)) (fun k t=>t.elim) hk
theorem rread_spec (bs : List UInt8) (hl : bs.length ≤ 100000) (num : Bool) (w : World) : Ret Tryz.prog 70 #[.string (str bs), .bool num] w fun r w' =>
    ∃ v : TV, r = .tuple #[tvA v, .int .i64 (readR bs num).2.1, .int .i64 (readR bs num).2.2] ∧ Made w w' (readR bs num).1 v ∧ Fr none1 w w' := by
  refine c70 _ num w _ ?_
  unfold C70
  unfold readR
  refine TB.new fun g1 w1 hg1 tb1 f1 hs1 => ?_
  rw [z1z]
  refine ifB.dec (fun h1000 => ?_) (fun h1000 => ?_)
  · rw [if_pos (by omega)]
    exact tell_leaf f1 (by omega) tb1 0 [] 0 fun w2 f2 m2 => ⟨_, rfl, m2, f2⟩
  rw [if_neg (by omega)]
  refine CallK.of (rsigns_spec bs (by omega) w1) ?_
  rintro _ w2 ⟨sl, rfl, hsl, f2⟩
  refine ⟨(sl, (sgF [] 0 false (runesL bs)).2, ()), rfl, ?_⟩
  dsimp only
  have f12 := f1.trans f2
  have tb2 := tb1.keep0 f2
  refine ifB.dec (fun hb => ?_) (fun hb => ?_)
  · rw [if_pos (by omega)]
    exact tell_leaf f12 (by omega) tb2 0 [] 0 fun w2 f2 m2 => ⟨_, rfl, m2, f2⟩
  have hb : ¬ 0 < (sgF [] 0 false (runesL bs)).2 := by omega
  rw [if_neg hb]
  refine CallK.of (rr_count bs (by omega) w2) ?_
  rintro _ w3 ⟨rfl, f3⟩
  refine ⟨_, rfl, ?_⟩
  have hrl := z37z bs
  rw [wI (x := ((runesL bs).length : Int) + 1) (by omega) (by omega)]
  have hfin : ((runesL bs).length : Int) + 1 = endF bs := rfl
  rw [hfin]
  refine NewK.of fun g w4 hg hb4 f4 hs4 => ?_
  have f14 := (f12.trans f3).trans f4
  have hsz := (f12.trans f3).size
  have hs3 := f3.size
  have hsl4 := hsl.keep0 (f3.trans f4)
  have hcnt := sgF_cnt (runesL bs) [] 0 false
  have R : IsRr w4 w4.heap.size g (sgF [] 0 false (runesL bs)).1.length (endF bs) (begR bs) := by
    refine ⟨⟨sl, (sgF [] 0 false (runesL bs)).1, 0, hb4, hsl4, rfl, by omega, ⟨by simp only [List.length_nil] at hcnt; omega, rfl⟩, signs_short (by omega), fun k hk => ?_⟩, by omega, Nat.le_refl _⟩
    have := (hsl.keep0 f3).sl.lt hk
    omega
  have tb4 := (tb2.keep0 f3).keep0 f4
  have hg1lt := z3z tb2
  refine CallK.of (rr_tree (endF bs) 12 R num 1 (by omega) (by omega)) ?_
  rintro _ w5 ⟨v, rfl, mv, R5, f5⟩
  refine ⟨v, rfl, ?_⟩
  have hg1g : g1 ≠ g := by omega
  have tb5 := tb4.keep f5 (fun t => hg1g t)
  have f15 : Fr none1 w w5 := f14.fresh f5 (by omega)
  refine TB.put v fun g2 w6 hg2 t26 f6 => ?_
  have hsz5 := f5.size
  have tb6 := tb5.keep0 f6
  have R6 := R5.keep0 f6
  have m6 := mv.keep0 f6
  have f16 := f15.trans f6
  have hsz6 := f6.size
  have hg26 := z3z t26
  obtain ⟨s5, hs5⟩ : ∃ s, (treeF (endF bs) 12 num (begR bs)).2 = s := ⟨_, rfl⟩
  have hsm := tree_small (by omega) hb num
  rw [hs5] at R6 hsm ⊢
  obtain ⟨t5, ht5⟩ : ∃ t, (treeF (endF bs) 12 num (begR bs)).1 = t := ⟨_, rfl⟩
  rw [ht5] at m6 hsm ⊢
  have bad : ∀ (w20 : World) (s' : RS), Fr none1 w w20 → IsRr w20 w4.heap.size g (sgF [] 0 false (runesL bs)).1.length (endF bs) s' → TB w20 g1 (0, str [], 0, (none, 0, 0), ()) →
      DrewK w20 (fun w26 => HoldK (fun S27 => InK S27 ((⟨g, 0, none⟩ : Addr).add 3) (LdK (.int .i64) ((⟨g, 0, none⟩ : Addr).add 3) w26 (fun (x28 : Int) => InK S27 ((⟨g, 0, none⟩ : Addr).add 4) (LdK (.int .i64) ((⟨g, 0, none⟩ : Addr).add 4) w26 (fun (x29 : Int) =>
        StsK (⟨g1, 0, none⟩ : Addr) [.int .i64 0, .string (⟨#[]⟩ : ByteArray), .int .i64 0, .slice none 0 0] w26 (fun w30 => KeepK S27 w26 w30 (LdsK TVK (⟨g1, 0, none⟩ : Addr) w30 (fun (x31 : TV) =>
          ∃ v : TV, (Value.tuple #[tvA x31, .int .i64 x28, .int .i64 x29]) = .tuple #[tvA v, .int .i64 s'.at_, .int .i64 s'.e] ∧ Made w w30 (.mk 0 [] 0 []) v ∧ Fr none1 w w30))))))))) := by
    intro w20 s' f20 R20 tb20
    refine DrewK.of fun w26 _ f26 => HoldK.of (fun k => k ≠ g1) ?_
    obtain ⟨⟨sl', L, n, hb', _⟩, _, _⟩ := R20.keep0 f26
    refine ⟨by rw [z2z]; exact fun t => hg1g t.symm, LdK.fld hb' (x := s'.at_) rfl ⟨by rw [z2z]; exact fun t => hg1g t.symm, LdK.fld hb' (x := s'.e) rfl ?_⟩⟩
    have f27 := f20.trans f26
    refine StsK.blk (cs := tvL (0, str [], 0, (none, 0, 0), ())) (vs := tvL (0, str [], 0, (none, 0, 0), ())) (tb20.keep0 f26) rfl rfl fun w30 hb30 f30 _ => KeepK.on f30 (fun k hk t => hk t) ?_
    exact LdsK.blk (cks := TVK) (x := (0, str [], 0, (none, 0, 0), ())) hb30 ⟨_, rfl, (z17z w30 w30 0 [] 0).older (by have := f27.size; have := f30.size; omega), f27.fresh f30 (by omega)⟩
  have good : ∀ (w20 : World), Fr none1 w6 w20 → s5.e = 0 → s5.l = [] → LdsK TVK (⟨g2, 0, none⟩ : Addr) w20 (fun (x32 : TV) => CallK Tryz.prog 89 #[tvA x32, .bool num] w20 (.v (.one (.int .i64))) (fun (x33 : Int) w34 => ifB (x33 != 0)
        (StsK (⟨g1, 0, none⟩ : Addr) [.int .i64 0, .string (⟨#[]⟩ : ByteArray), .int .i64 0, .slice none 0 0] w34 (fun w35 => LdsK TVK (⟨g1, 0, none⟩ : Addr) w35 (fun (x36 : TV) =>
          ∃ v : TV, (Value.tuple #[tvA x36, .int .i64 0, .int .i64 x33]) = .tuple #[tvA v, .int .i64 (if checkR t5 num ≠ 0 then ((Tr.mk 0 [] 0 [], 0, checkR t5 num) : Tr × Int × Int) else (t5, 0, 0)).2.1, .int .i64 (if checkR t5 num ≠ 0 then ((Tr.mk 0 [] 0 [], 0, checkR t5 num) : Tr × Int × Int) else (t5, 0, 0)).2.2] ∧ Made w w35 (if checkR t5 num ≠ 0 then ((Tr.mk 0 [] 0 [], 0, checkR t5 num) : Tr × Int × Int) else (t5, 0, 0)).1 v ∧ Fr none1 w w35)))
        (LdsK TVK (⟨g2, 0, none⟩ : Addr) w34 (fun (x37 : TV) => StsK (⟨g1, 0, none⟩ : Addr) (tvL x37) w34 (fun w38 => LdsK TVK (⟨g1, 0, none⟩ : Addr) w38 (fun (x39 : TV) =>
          ∃ v : TV, (Value.tuple #[tvA x39, .int .i64 0, .int .i64 0]) = .tuple #[tvA v, .int .i64 (if checkR t5 num ≠ 0 then ((Tr.mk 0 [] 0 [], 0, checkR t5 num) : Tr × Int × Int) else (t5, 0, 0)).2.1, .int .i64 (if checkR t5 num ≠ 0 then ((Tr.mk 0 [] 0 [], 0, checkR t5 num) : Tr × Int × Int) else (t5, 0, 0)).2.2] ∧ Made w w38 (if checkR t5 num ≠ 0 then ((Tr.mk 0 [] 0 [], 0, checkR t5 num) : Tr × Int × Int) else (t5, 0, 0)).1 v ∧ Fr none1 w w38)))))) := by
    intro w20 f20 he hle
    have hsm := hsm he
    refine (t26.keep0 f20).ld ?_
    refine CallK.of (rcheck_spec t5 num hsm.1 hsm.2 (m6.keep0 f20) (fun k hk => hk.2)) ?_
    rintro _ w34 ⟨rfl, f34⟩
    refine ⟨_, rfl, ifB.ne (fun e => ?_) (fun e => ?_)⟩
    · simp only [if_pos e]
      exact tell_leaf ((f16.trans f20).trans f34) (by omega) ((tb6.keep0 f20).keep0 f34) 0 [] 0 fun w2 f2 m2 => ⟨_, rfl, m2.older (by have := f2.size; omega), f2⟩
    · simp only [if_neg (show ¬ checkR t5 num ≠ 0 from fun t => t e)]
      refine ((t26.keep0 f20).keep0 f34).ld ?_
      exact tell0 ((f16.trans f20).trans f34) (by omega) ((tb6.keep0 f20).keep0 f34) ((m6.keep0 f20).keep0 f34) (fun k hk => ⟨by have := hk.1; omega, hk.2, fun t => by have := hk.1; omega⟩) fun w2 f2 m2 => ⟨_, rfl, m2, f2⟩
  refine JoinK.of (fun c w' => c.1 = (decide (s5.e = 0) && !s5.l.isEmpty) ∧ w6 = w') ?_ ?_
  · refine rr_code R6 (ifB.eq (fun e => ?_) (fun e => ?_))
    · obtain ⟨⟨sl', L, n, hb', hs', hl', hn', hL', _⟩, _, _⟩ := R6
      refine LdK.fld hb' (x := (n : Int)) rfl ⟨?_, rfl⟩
      have hlen := hsl.len
      rw [hlen, hl', decide_eq_true e]
      by_cases hh : n < L.length
      · obtain ⟨x, _, hd⟩ := drop_next hh
        rw [hd, decide_eq_true (by omega)]; rfl
      · rw [List.drop_eq_nil_of_le (by omega), decide_eq_false (by omega)]; rfl
    · exact ⟨by simp [e], rfl⟩
  rintro _ ⟨c, _⟩ _ ⟨hc, rfl⟩
  dsimp only at hc ⊢
  rw [hc]
  refine ifB.by (fun e => ?_) (fun e => ?_)
  · rw [Bool.and_eq_true, decide_eq_true_eq] at e
    have hl : s5.l ≠ [] := fun t => by rw [t] at e; exact absurd e.2 (by decide)
    have hend : endR (endF bs) s5 = failF (endF bs) 2 s5 := if_pos ⟨e.1, hl⟩
    rw [hend]
    have hne : (failF (endF bs) 2 s5).e ≠ 0 := fail_not (by decide)
    simp only [if_pos hne]
    refine CallK.of (rr_fail R6 2) ?_
    rintro _ w7 ⟨rfl, R7, f7⟩
    refine ⟨(), rfl, rr_code R7 (ifB.ne (fun _ => ?_) (fun t => (hne t).elim))⟩
    exact bad w7 _ (f16.fresh f7 (by omega)) R7 (tb6.keep f7 (fun t => hg1g t))
  · have hend : endR (endF bs) s5 = s5 := by
      unfold endR
      refine if_neg fun t => ?_
      rw [decide_eq_true t.1] at e
      cases hl : s5.l with
      | nil => exact t.2 hl
      | cons x l => rw [hl] at e; simp at e
    rw [hend]
    refine rr_code R6 (ifB.ne (fun hne => ?_) (fun he => ?_))
    · simp only [if_pos hne]
      exact bad w6 _ f16 R6 tb6
    · simp only [if_neg (show ¬ s5.e ≠ 0 from fun t => t he)]
      refine good w6 (Fr.refl _ _) he ?_
      rw [decide_eq_true he] at e
      cases hl : s5.l with
      | nil => rfl
      | cons x l => rw [hl] at e; simp at e
def C69 (p0:Addr) (p1:Int) (w:World) (K:Value→World→Prop):Prop:=
 LdK .bool (p0.add 1) w (fun (x1:Bool)=>ifB x1
 (StK (p0.add 1) (.bool true) w (fun w2=>RunK Tryz.prog (Instr.makeSlice 22 (.int .i64 p1) (.int .i64 p1)) w2 (.v (.one .slc)) (fun (x3:SlT) w4=>K (.slice x3.1 x3.2.1 x3.2.2) w4)))
 (LdK .slc (p0.add 0) w (fun (x5:SlT)=>ifB (decide (p1 > (x5.2.1:Int)))
 (StK (p0.add 1) (.bool true) w (fun w6=>RunK Tryz.prog (Instr.makeSlice 22 (.int .i64 p1) (.int .i64 p1)) w6 (.v (.one .slc)) (fun (x7:SlT) w8=>K (.slice x7.1 x7.2.1 x7.2.2) w8)))
 (LdK .slc (p0.add 0) w (fun (x9:SlT)=>SubK x9.1 x9.2.2 0 p1 x9.2.2 1 (fun a10 l11 c12=>LdK .slc (p0.add 0) w (fun (x13:SlT)=>SubK x13.1 x13.2.2 p1 x13.2.1 x13.2.2 1 (fun a14 l15 c16=>StK (p0.add 0) (.slice a14 l15 c16) w (fun w17=>K (.slice a10 l11 c12) w17)))))))))
def pl69:Plan:=.auto
theorem c69 (p0:Addr) (p1:Int) (w:World) (K:Value→World→Prop) (h:C69 p0 p1 w K):Ret Tryz.prog 69 #[.pointer (some p0),.int .i64 p1] w K:=z0z (by kernel_rfl) Tryz.func69 (p:=pl69) (Eq.mpr (by kernel_rfl) h)
def C42 (p0:Option Addr) (p0l p0c:Nat) (w:World) (K:Value→World→Prop):Prop:=
 ifB ((p0l:Int) != 8)
 (K (.tuple #[.int .i64 0,.bool false]) w)
 (LoopK (Int×Int×Unit) (fun _ s1 w2 next3=>ifB (decide (s1.2.1<8))
 (NnK 8 (IdxK p0 p0l s1.2.1 1 (fun a4=>LdK (.int .u8) a4 w2 (fun (x5:Int)=>next3 (IntKind.u64.wrap ((BitVec.ofInt 64 (IntKind.u64.wrap (s1.1 * 2 ^ (min (Int.toNat 8) 64))) ||| BitVec.ofInt 64 (IntKind.u64.wrap x5)).toNat:Int),IntKind.i64.wrap (s1.2.1+1),()) w2))))
 (K (.tuple #[.int .i64 (IntKind.i64.wrap s1.1),.bool true]) w2))
 (0,0,()) w)
def pl42:Plan:=(.seq .auto (.seq .auto (.seq .auto (.seq (.seq .auto (.block (.loop [(4,.one (.int .u64)),(5,.one (.int .i64))] .auto))) .auto))))
theorem c42 (p0:Option Addr) (p0l p0c:Nat) (w:World) (K:Value→World→Prop) (h:C42 p0 p0l p0c w K):Ret Tryz.prog 42 #[.slice p0 p0l p0c] w K:=z0z (by kernel_rfl) Tryz.func42 (p:=pl42) (Eq.mpr (by kernel_rfl) h)
def C43 (p0:Option Addr) (p0l p0c:Nat) (w:World) (K:Value→World→Prop):Prop:=
 NewK (.cells #[.int .i64 0,.string (⟨#[]⟩:ByteArray),.string (⟨#[]⟩:ByteArray),.string (⟨#[]⟩:ByteArray),.string (⟨#[]⟩:ByteArray),.int .i64 0,.int .i64 0,.int .i64 0,.string (⟨#[]⟩:ByteArray),.int .i64 0,.slice none 0 0] 43) w (fun g1 w2=>NewK (.cells #[.slice p0 p0l p0c,.bool false] 125) w2 (fun g3 w4=>CallK Tryz.prog 69 #[.pointer (some (ad g3)),.int .i64 1] w4 (.v (.one .slc)) (fun (x5:SlT) w6=>IdxK x5.1 x5.2.1 0 1 (fun a7=>LdK (.int .u8) a7 w6 (fun (x8:Int)=>NewK (.cells #[.int .i64 0,.string (⟨#[]⟩:ByteArray),.string (⟨#[]⟩:ByteArray),.string (⟨#[]⟩:ByteArray),.string (⟨#[]⟩:ByteArray),.int .i64 0,.int .i64 0,.int .i64 0,.string (⟨#[]⟩:ByteArray),.int .i64 0,.slice none 0 0] 43) w6 (fun g9 w10=>StsK (ad g9) [.int .i64 (IntKind.i64.wrap x8),.string (⟨#[]⟩:ByteArray),.string (⟨#[]⟩:ByteArray),.string (⟨#[]⟩:ByteArray),.string (⟨#[]⟩:ByteArray),.int .i64 0,.int .i64 0,.int .i64 0,.string (⟨#[]⟩:ByteArray),.int .i64 0,.slice none 0 0] w10 (fun w11=>RunK Tryz.prog (Instr.buildSlice 22 7 #[(0,.int .u8 73),(1,.int .u8 78),(2,.int .u8 76),(3,.int .u8 67),(4,.int .u8 68),(5,.int .u8 86),(6,.int .u8 84)]) w11 (.v (.one .slc)) (fun (x12:SlT) w13=>RunK Tryz.prog (convert 22 22 (.slice x12.1 x12.2.1 x12.2.2)) w13 (.v (.one .slc)) (fun (x14:SlT) w15=>LoopK (Int×Unit) (fun _ s16 w17 next18=>ifB (decide (s16.1<(x14.2.1:Int)))
 (IdxK x14.1 x14.2.1 s16.1 1 (fun a19=>LdK (.int .u8) a19 w17 (fun (x20:Int)=>LdK (.int .i64) ((ad g9).add 0) w17 (fun (x21:Int)=>CallK Tryz.prog 52 #[.int .i64 x21] w17 (.v (.one .str)) (fun (x22:ByteArray) w23=>CallK Tryz.prog 54 #[.string x22,.int .u8 x20] w23 (.v (.one .bool)) (fun (x24:Bool) w25=>ifB (!x24)
 (next18 (IntKind.i64.wrap (s16.1+1),()) w25)
 (ifB (x20==68)
 (CallK Tryz.prog 69 #[.pointer (some (ad g3)),.int .i64 8] w25 (.v (.one .slc)) (fun (x26:SlT) w27=>CallK Tryz.prog 42 #[.slice x26.1 x26.2.1 x26.2.2] w27 (.tup [.one (.int .i64),.one .bool]) (fun (x28:Int×Bool×Unit) w29=>StK ((ad g9).add 5) (.int .i64 x28.1) w29 (fun w30=>next18 (IntKind.i64.wrap (s16.1+1),()) w30))))
 (ifB (x20==86)
 (CallK Tryz.prog 69 #[.pointer (some (ad g3)),.int .i64 8] w25 (.v (.one .slc)) (fun (x31:SlT) w32=>CallK Tryz.prog 42 #[.slice x31.1 x31.2.1 x31.2.2] w32 (.tup [.one (.int .i64),.one .bool]) (fun (x33:Int×Bool×Unit) w34=>StK ((ad g9).add 6) (.int .i64 x33.1) w34 (fun w35=>next18 (IntKind.i64.wrap (s16.1+1),()) w35))))
 (ifB (x20==84)
 (CallK Tryz.prog 69 #[.pointer (some (ad g3)),.int .i64 2] w25 (.v (.one .slc)) (fun (x36:SlT) w37=>DrewK w37 (fun w38=>HoldK (fun S39=>IdxK x36.1 x36.2.1 0 1 (fun a40=>InK S39 a40 (LdK (.int .u8) a40 w38 (fun (x41:Int)=>IdxK x36.1 x36.2.1 1 1 (fun a42=>InK S39 a42 (LdK (.int .u8) a42 w38 (fun (x43:Int)=>AndK (KeepK S39 w38 w38 (KeepK S39 w38 w38 (CallK Tryz.prog 69 #[.pointer (some (ad g3)),.int .i64 (IntKind.i64.wrap ((IntKind.i64.wrap ((IntKind.i64.wrap x41) * 256))+(IntKind.i64.wrap x43)))] w38 (.v (.one .slc)) (fun (x44:SlT) w45=>KeepK S39 w38 w45 (RunK Tryz.prog (convert 22 9 (.slice x44.1 x44.2.1 x44.2.2)) w45 (.v (.one .str)) (fun (x46:ByteArray) w47=>KeepK S39 w45 w47 (CallK Tryz.prog 70 #[.string x46,.bool false] w47 (.tup [.agg KZ3,.one (.int .i64),.one (.int .i64)]) (fun (x48:YZ3×Int×Int×Unit) w49=>StsK ((ad g9).add 7) [.int .i64 x48.1.1,.string x48.1.2.1,.int .i64 x48.1.2.2.1,.slice x48.1.2.2.2.1.1 x48.1.2.2.2.1.2.1 x48.1.2.2.2.1.2.2] w49 (fun w50=>next18 (IntKind.i64.wrap (s16.1+1),()) w50)))))))))
 (KeepK S39 w38 w38 (KeepK S39 w38 w38 (CallK Tryz.prog 69 #[.pointer (some (ad g3)),.int .i64 (IntKind.i64.wrap ((IntKind.i64.wrap ((IntKind.i64.wrap x41) * 256))+(IntKind.i64.wrap x43)))] w38 (.v (.one .slc)) (fun (x51:SlT) w52=>KeepK S39 w38 w52 (RunK Tryz.prog (convert 22 9 (.slice x51.1 x51.2.1 x51.2.2)) w52 (.v (.one .str)) (fun (x53:ByteArray) w54=>KeepK S39 w52 w54 (CallK Tryz.prog 70 #[.string x53,.bool false] w54 (.tup [.agg KZ3,.one (.int .i64),.one (.int .i64)]) (fun (x55:YZ3×Int×Int×Unit) w56=>StsK ((ad g9).add 7) [.int .i64 x55.1.1,.string x55.1.2.1,.int .i64 x55.1.2.2.1,.slice x55.1.2.2.2.1.1 x55.1.2.2.2.1.2.1 x55.1.2.2.2.1.2.2] w56 (fun w57=>next18 (IntKind.i64.wrap (s16.1+1),()) w57)))))))))))))))))))
 (CallK Tryz.prog 69 #[.pointer (some (ad g3)),.int .i64 1] w25 (.v (.one .slc)) (fun (x58:SlT) w59=>IdxK x58.1 x58.2.1 0 1 (fun a60=>LdK (.int .u8) a60 w59 (fun (x61:Int)=>CallK Tryz.prog 69 #[.pointer (some (ad g3)),.int .i64 (IntKind.i64.wrap x61)] w59 (.v (.one .slc)) (fun (x62:SlT) w63=>RunK Tryz.prog (convert 22 9 (.slice x62.1 x62.2.1 x62.2.2)) w63 (.v (.one .str)) (fun (x64:ByteArray) w65=>ifB (x20==73)
 (StK ((ad g9).add 1) (.string x64) w65 (fun w66=>next18 (IntKind.i64.wrap (s16.1+1),()) w66))
 (ifB (x20==78)
 (StK ((ad g9).add 2) (.string x64) w65 (fun w67=>next18 (IntKind.i64.wrap (s16.1+1),()) w67))
 (ifB (x20==76)
 (StK ((ad g9).add 3) (.string x64) w65 (fun w68=>next18 (IntKind.i64.wrap (s16.1+1),()) w68))
 (StK ((ad g9).add 4) (.string x64) w65 (fun w69=>next18 (IntKind.i64.wrap (s16.1+1),()) w69)))))))))))))))))))
 (LdsK KZ16 (ad g9) w17 (fun (x70:YZ16)=>CallK Tryz.prog 36 #[.agg (LZ16 x70).toArray] w17 (.tup [.one .slc,.one (.int .i64)]) (fun (x71:SlT×Int×Unit) w72=>LdK .bool ((ad g3).add 1) w72 (fun (x73:Bool)=>ifB x73
 (StsK (ad g1) [.int .i64 0,.string (⟨#[]⟩:ByteArray),.string (⟨#[]⟩:ByteArray),.string (⟨#[]⟩:ByteArray),.string (⟨#[]⟩:ByteArray),.int .i64 0,.int .i64 0,.int .i64 0,.string (⟨#[]⟩:ByteArray),.int .i64 0,.slice none 0 0] w72 (fun w74=>LdsK KZ16 (ad g1) w74 (fun (x75:YZ16)=>K (.tuple #[.agg (LZ16 x75).toArray,.int .i64 2]) w74)))
 (LdK .slc ((ad g3).add 0) w72 (fun (x76:SlT)=>ifB (decide ((x76.2.1:Int) > 0))
 (StsK (ad g1) [.int .i64 0,.string (⟨#[]⟩:ByteArray),.string (⟨#[]⟩:ByteArray),.string (⟨#[]⟩:ByteArray),.string (⟨#[]⟩:ByteArray),.int .i64 0,.int .i64 0,.int .i64 0,.string (⟨#[]⟩:ByteArray),.int .i64 0,.slice none 0 0] w72 (fun w77=>LdsK KZ16 (ad g1) w77 (fun (x78:YZ16)=>K (.tuple #[.agg (LZ16 x78).toArray,.int .i64 2]) w77)))
 (ifB (x71.2.1 != 0)
 (StsK (ad g1) [.int .i64 0,.string (⟨#[]⟩:ByteArray),.string (⟨#[]⟩:ByteArray),.string (⟨#[]⟩:ByteArray),.string (⟨#[]⟩:ByteArray),.int .i64 0,.int .i64 0,.int .i64 0,.string (⟨#[]⟩:ByteArray),.int .i64 0,.slice none 0 0] w72 (fun w79=>LdsK KZ16 (ad g1) w79 (fun (x80:YZ16)=>K (.tuple #[.agg (LZ16 x80).toArray,.int .i64 2]) w79)))
 (RunK Tryz.prog (convert 22 9 (.slice x71.1.1 x71.1.2.1 x71.1.2.2)) w72 (.v (.one .str)) (fun (x81:ByteArray) w82=>RunK Tryz.prog (convert 22 9 (.slice p0 p0l p0c)) w82 (.v (.one .str)) (fun (x83:ByteArray) w84=>ifB (!(x81.toList==x83.toList))
 (StsK (ad g1) [.int .i64 0,.string (⟨#[]⟩:ByteArray),.string (⟨#[]⟩:ByteArray),.string (⟨#[]⟩:ByteArray),.string (⟨#[]⟩:ByteArray),.int .i64 0,.int .i64 0,.int .i64 0,.string (⟨#[]⟩:ByteArray),.int .i64 0,.slice none 0 0] w84 (fun w85=>LdsK KZ16 (ad g1) w85 (fun (x86:YZ16)=>K (.tuple #[.agg (LZ16 x86).toArray,.int .i64 2]) w85)))
 (LdsK KZ16 (ad g9) w84 (fun (x87:YZ16)=>StsK (ad g1) (LZ16 x87) w84 (fun w88=>LdsK KZ16 (ad g1) w88 (fun (x89:YZ16)=>K (.tuple #[.agg (LZ16 x89).toArray,.int .i64 0]) w88)))))))))))))))
 (0,()) w15)))))))))
def pl43:Plan:=(.seq .auto (.seq .auto (.seq .auto (.seq (.seq .auto (.block (.loop [(25,.one (.int .i64))] (.seq .auto (.seq .auto (.seq (.block (.seq .auto (.seq .auto (.seq .auto (.block (.seq .auto (.cond .auto (.seq .auto (.cond .auto (.seq .auto (.cond (.seq .auto (.seq (.held (.soft 0 (.soft 1 (.soft 2 (.soft 3 (.soft 6 (.soft 7 (.soft 8 (.pick 4 (.soft 5 (.pick 9 (.soft 10 (.pick 11 (.pick 12 (.soft 13 .done) .stop) .stop)) .stop)) (.pick 9 (.pick 4 (.soft 5 (.soft 10 (.pick 11 (.pick 12 (.soft 13 .done) .stop) .stop))) .stop) .stop)))))))))) .auto)) .auto))))))))))) .auto)))))) .auto))))
theorem c43 (p0:Option Addr) (p0l p0c:Nat) (w:World) (K:Value→World→Prop) (h:C43 p0 p0l p0c w K):Ret Tryz.prog 43 #[.slice p0 p0l p0c] w K:=z0z (by kernel_rfl) Tryz.func43 (p:=pl43) (Eq.mpr (by kernel_rfl) h)
def fitT (t:Tm):Prop:=nodesT t≤60∧shortT t
theorem short_formO (o:Ob) (h:formO o=true):shortO o:=by
 induction o with
 | none=>trivial
 | const n=>trivial
 | fix s=>have:=nameL_len h;show s.length≤1000;omega
 | add l r hl hr=>unfold formO at h;rw [Bool.and_eq_true] at h;exact ⟨hl h.1,hr h.2⟩
 | mul l r hl hr=>unfold formO at h;rw [Bool.and_eq_true] at h;exact ⟨hl h.1,hr h.2⟩
 | max l r hl hr=>unfold formO at h;rw [Bool.and_eq_true] at h;exact ⟨hl h.1,hr h.2⟩
 | neg o ho=>unfold formO at h;exact ho h
theorem short_formT (t:Tm) (h:formT t=true):shortT t:=by
 induction t with
 | none=>trivial
 | zero=>trivial
 | one s=>have:=nameL_len h;show s.length≤1000;omega
 | give t ht=>exact ht h
 | and l r hl hr=>unfold formT at h;rw [Bool.and_eq_true] at h;exact ⟨hl h.1,hr h.2⟩
 | or s l r hl hr=>unfold formT at h;rw [Bool.and_eq_true,Bool.and_eq_true] at h;have:=nameL_len h.1;exact ⟨by omega,hl h.2.1,hr h.2.2⟩
 | scale o t ht=>unfold formT at h;rw [Bool.and_eq_true] at h;exact ⟨short_formO o h.1,ht h.2⟩
 | when d t ht=>unfold formT at h;rw [Bool.and_eq_true] at h;exact ht h.2
 | cond o l r hl hr=>unfold formT at h;rw [Bool.and_eq_true,Bool.and_eq_true] at h;exact ⟨short_formO o h.1,hl h.2.1,hr h.2.2⟩
theorem fit_check {t:Tm} (h:checkT t=0):formT t=true∧nodesT t≤60:=by
 unfold checkT at h
 repeat' split at h
 all_goals first | (exact absurd h (by decide)) | skip
 rename_i h1 h2 h3 _
 exact ⟨by simpa using h1,by omega⟩
theorem fit_none:fitT .none:=⟨by decide,trivial⟩
theorem read_fit (bs:List UInt8):fitT (readT bs).1:=by
 unfold readT
 split
 ·exact fit_none
 split
 ·exact fit_none
 ·rename_i h
  obtain ⟨a,b⟩:=fit_check (Classical.not_not.1 h)
  exact ⟨b,short_formT _ a⟩
theorem step_fit (z:Bool) (x:TkS×EvM) (c:UInt8) (h:fitT x.2.t):fitT (evStep z x c).2.t:=by
 unfold evStep
 repeat' split
 all_goals first | exact h | exact read_fit _
theorem fold_fit (z:Bool):∀ (l:List UInt8) (x:TkS×EvM),fitT x.2.t→fitT (l.foldl (evStep z) x).2.t
 | [],x,h=>h
 | c::l,x,h=>fold_fit z l _ (step_fit z x c h)
theorem takeM_fit (z:Bool) (bs:List UInt8):fitT (takeM z bs).2.t:=fold_fit z _ _ fit_none
theorem step_kind (z:Bool) (x:TkS×EvM) (c:UInt8):(evStep z x c).2.1=x.2.1:=by
 unfold evStep
 repeat' split
 all_goals rfl
theorem fold_kind (z:Bool):∀ (l:List UInt8) (x:TkS×EvM),(l.foldl (evStep z) x).2.1=x.2.1
 | [],x=>rfl
 | c::l,x=>(fold_kind z l _).trans (step_kind z x c)
theorem tk_len (n:Nat) (s:TkS):(tkF true n s).1.length=n:=by
 unfold tkF;split
 ·simp
 ·rename_i h;dsimp only;rw [List.length_take];have:n≤s.1.length:=Nat.le_of_not_lt fun t=>h (.inr t);omega
theorem tr_take {w:World} {g n0:Nat} {s:TkS} (h:IsTk 125 w g n0 s) (hg:n0≤g) (n:Nat) (hn:n≤100000):Ret Tryz.prog 69 #[.pointer (some ⟨g,0,none⟩),.int .i64 (n:Int)] w fun r w'=>
  ∃ v:Sl,r=.slice v.1 v.2.1 v.2.2∧RdB w' v (tkF true n s).1∧((tkF true n s).1≠[]→∀ k,blkOf v k→k<n0∨w.heap.size≤k)∧IsTk 125 w' g n0 (tkF true n s).2∧Fr (only g) w w':=by
 obtain ⟨u,hb,hu,hc,hlt⟩:=h
 have hul:=hu.len
 refine c69 _ _ w _ ?_
 unfold C69
 have bad:s.2=true∨s.1.length<n→∀ w1,w1.heap[g]? = some (.cells #[.slice u.1 u.2.1 u.2.2,.bool true] 125 (0,0))→Fr (only g) w w1→w1.heap.size=w.heap.size →
   RunK Tryz.prog (Instr.makeSlice 22 (.int .i64 (n:Int)) (.int .i64 (n:Int))) w1 (.v (.one .slc)) (fun (x:Option Addr×Nat×Nat) w2=>∃ v:Sl,(Value.slice x.1 x.2.1 x.2.2)=.slice v.1 v.2.1 v.2.2∧RdB w2 v (tkF true n s).1∧((tkF true n s).1≠[]→∀ k,blkOf v k→k<n0∨w.heap.size≤k)∧IsTk 125 w2 g n0 (tkF true n s).2∧Fr (only g) w w2):=fun hbad w1 hb1 f1 hs1=>by
  rw [tk_bad hbad]
  obtain ⟨w2,hr2,hx2,f2⟩:=make_full (w:=w1) (n:=(n:Int)) (m:=(n:Int)) (by omega) (by omega) (by omega)
  rw [Int.toNat_natCast] at hr2 hx2
  refine ⟨(some ⟨w1.heap.size,0,none⟩,n,n),w2,hr2,(some ⟨w1.heap.size,0,none⟩,n,n),rfl,hx2.rd,fun _ k ⟨a,ha,e⟩=>?_,⟨u,f2.keep0 hb1,(hu.keepE f1 fun hn k hk t=>by have:=hlt hn k hk;have:k=g:=t;omega).keep0 f2,hc,hlt⟩,f1.then0 f2⟩
  injection ha with ha
  subst ha
  right
  dsimp only at e
  omega
 refine LdK.fld hb (x:=s.2) rfl ?_
 refine ifB.by (fun e=>?_) (fun e=>?_)
 ·exact StK.fld hb (by show 0+1<2;omega) rfl fun w1 hb1 f1 hs=>bad (.inl e) w1 hb1 f1 hs
 refine LdK.fld hb (x:=u) rfl ?_
 refine ifB.dec (fun hgt=>?_) (fun hle=>?_)
 ·exact StK.fld hb (by show 0+1<2;omega) rfl fun w1 hb1 f1 hs=>bad (.inr (by omega)) w1 hb1 f1 hs
 refine LdK.fld hb (x:=u) rfl ?_
 refine RdB.sub hu (by omega) (by omega) hc fun ha=>?_
 refine LdK.fld hb (x:=u) rfl ?_
 refine RdB.mid hu (by omega) (by omega) (Int.le_refl _) hc fun v hv hvc hvl hvb=>?_
 refine StK.fld hb (by show 0+0<2;omega) rfl fun w1 hb1 f1 _=>?_
 rw [Int.toNat_natCast] at ha hv ⊢
 have e2:(s.1.drop n).take ((u.2.1:Int) - (n:Int)).toNat=s.1.drop n:=List.take_of_length_le (by rw [List.length_drop];omega)
 rw [e2] at hv
 rw [tk_good e (by omega)]
 have ne1:s.1.take n≠[]→s.1≠[]:=fun h t=>h (by rw [t];simp)
 have ne2:s.1.drop n≠[]→s.1≠[]:=fun h t=>h (by rw [t];simp)
 refine ⟨(u.1,n,u.2.2),rfl,ha.keepE f1 fun hn k hk t=>by have:=hlt (ne1 hn) k hk;have:k=g:=t;omega,(fun hn k hk=>.inl (hlt (ne1 hn) k hk)),⟨v,?_,hv.keepE f1 fun hn k hk t=>by have:=hlt (ne2 hn) k (hvb k hk);have:k=g:=t;omega,hvc,fun hn k hk=>hlt (ne2 hn) k (hvb k hk)⟩,f1⟩
 rw [hb1,← e];rfl
theorem tnum11_spec {w:World} {v:Sl} {bs:List UInt8} (h:RdB w v bs) :
  Ret Tryz.prog 42 #[.slice v.1 v.2.1 v.2.2] w fun r w'=>r=.tuple #[.int .i64 (takeL bs).1,.bool (takeL bs).2]∧w=w':=by
 refine c42 v.1 v.2.1 v.2.2 w _ ?_
 have hvl:=h.len
 unfold takeL
 refine ifB.ne (fun hne=>?_) (fun heq=>?_)
 ·rw [if_neg (by omega)];exact ⟨rfl,rfl⟩
 rw [if_pos (by omega)]
 refine LoopK.of (fun s w'=>∃ i:Nat,s.2.1=i∧i≤8∧s.1=(big (bs.take i):Int)∧w=w') (fun s _=>(8 - s.2.1).toNat) ⟨0,rfl,by omega,rfl,rfl⟩ ?_
 rintro _ ⟨m,i',_⟩ _ ⟨i,hi,hi8,hm,rfl⟩
 dsimp only at hi hm ⊢
 subst hi hm
 refine ifB.dec (fun hlt=>?_) (fun hge=>?_)
 ·have hi7:i<8:=by omega
  refine ⟨by omega,?_⟩
  refine RdB.at h (by omega) (by omega) ?_
  rw [Int.toNat_natCast,or_byte _ _ (big_take_lt bs i (by omega)),wI (by omega) (by omega)]
  refine ⟨⟨i+1,by omega,by omega,?_,rfl⟩,by omega⟩
  rw [big_take bs i (by omega)]
 ·rw [List.take_of_length_le (by omega)];exact ⟨rfl,rfl⟩
structure TrS (w0 wc:World) (g1 g3 g9:Nat) (x:TkS×EvM):Prop where
 tk:IsTk 125 wc g3 w0.heap.size x.1
 ev:∃ v:TV,wc.heap[g9]? = some (.cells (evRL (evR x.2.e v)).toArray 43 (0,0))∧IsTr wc (fun k=>w0.heap.size≤k∧k<wc.heap.size∧k≠g1∧k≠g3∧k≠g9) (trT x.2.t) v
 b1:∃ y:EvR,wc.heap[g1]? = some (.cells (evRL y).toArray 43 (0,0))
 fr:Fr none1 w0 wc
 lo:w0.heap.size≤g1∧w0.heap.size≤g3∧w0.heap.size≤g9∧g1≠g3∧g1≠g9∧g3≠g9
theorem TrS.take {w0 wc:World} {g1 g3 g9:Nat} {x:TkS×EvM} (h:TrS w0 wc g1 g3 g9 x) (n:Nat) (hn:n≤100000) {K:(Option Addr×Nat×Nat)→World→Prop}
  (k:∀ (v:Sl) wd,RdB wd v (tkF true n x.1).1→((tkF true n x.1).1≠[]→∀ k,blkOf v k→k≠g3)→TrS w0 wd g1 g3 g9 ((tkF true n x.1).2,x.2)→Fr (only g3) wc wd→K v wd) :
  CallK Tryz.prog 69 #[.pointer (some ⟨g3,0,none⟩),.int .i64 (n:Int)] wc (.v (.one .slc)) (fun (y:Option Addr×Nat×Nat) wd=>K y wd):=by
 obtain ⟨l1,l2,l3,l4,l5,l6⟩:=h.lo
 obtain ⟨v,hv,hT⟩:=h.ev
 obtain ⟨y,hy⟩:=h.b1
 have hlt3:g3<wc.heap.size:=by obtain ⟨u,hb,_⟩:=h.tk;exact z3z hb
 refine CallK.of (tr_take h.tk l2 n hn) ?_
 rintro _ wd ⟨u,rfl,hu,hub,tk,f⟩
 refine ⟨u,rfl,k u wd hu (fun hne j hj=>by have:=hub hne j hj;omega) ⟨tk,⟨v,f.keep hv (fun t=>l6 t.symm),?_⟩,⟨y,f.keep hy (fun t=>l4 t)⟩,h.fr.fresh f l2,h.lo⟩ f⟩
 exact IsTr.mono (fun j hj=>⟨hj.1,Nat.lt_of_lt_of_le hj.2.1 f.size,hj.2.2⟩) _ _ (IsTr.keep f (fun j hj t=>hj.2.2.2.1 t) _ _ hT)
theorem TrS.put {w0 wc wd:World} {g1 g3 g9:Nat} {s:TkS} {m m':EvM} (h:TrS w0 wc g1 g3 g9 (s,m)) (f:Fr (only g9) wc wd) {v:TV} (hb:wd.heap[g9]? = some (.cells (evRL (evR m'.e v)).toArray 43 (0,0)))
  (hT:IsTr wc (fun k=>w0.heap.size≤k∧k<wc.heap.size∧k≠g1∧k≠g3∧k≠g9) (trT m'.t) v):TrS w0 wd g1 g3 g9 (s,m'):=by
 obtain ⟨l1,l2,l3,l4,l5,l6⟩:=h.lo
 obtain ⟨y,hy⟩:=h.b1
 refine ⟨h.tk.keep f (fun t=>l6 t) (fun k t=>by have:k=g9:=t;omega),⟨v,hb,?_⟩,⟨y,f.keep hy (fun t=>l5 t)⟩,h.fr.fresh f l3,h.lo⟩
 exact IsTr.mono (fun j hj=>⟨hj.1,Nat.lt_of_lt_of_le hj.2.1 f.size,hj.2.2⟩) _ _ (IsTr.keep f (fun j hj t=>hj.2.2.2.2 t) _ _ hT)
theorem TrS.keep0 {w0 wc wd:World} {g1 g3 g9:Nat} {x:TkS×EvM} (h:TrS w0 wc g1 g3 g9 x) (f:Fr none1 wc wd):TrS w0 wd g1 g3 g9 x:=by
 obtain ⟨v,hv,hT⟩:=h.ev
 obtain ⟨y,hy⟩:=h.b1
 exact ⟨h.tk.keep0 f,⟨v,f.keep0 hv,IsTr.mono (fun j hj=>⟨hj.1,Nat.lt_of_lt_of_le hj.2.1 f.size,hj.2.2⟩) _ _ (IsTr.keep0 hT f)⟩,⟨y,f.keep0 hy⟩,h.fr.trans f,h.lo⟩
theorem TrS.num {w0 wc:World} {g1 g3 g9:Nat} {x:TkS×EvM} (h:TrS w0 wc g1 g3 g9 x) (o:Nat) (c:UInt8) (hoc:(o=5∧c=68)∨(o=6∧c=86)) {K:World→Prop}
  (k:∀ wd,TrS w0 wd g1 g3 g9 (evStep true x c)→Fr (fun k=>k=g3∨k=g9) wc wd→K wd) :
  CallK Tryz.prog 69 #[.pointer (some ⟨g3,0,none⟩),.int .i64 8] wc (.v (.one .slc)) (fun (x26:Option Addr×Nat×Nat) w27=>CallK Tryz.prog 42 #[.slice x26.1 x26.2.1 x26.2.2] w27 (.tup [.one (.int .i64),.one .bool]) (fun (x28:Int×Bool×Unit) w29=>StK ((⟨g9,0,none⟩:Addr).add o) (.int .i64 x28.1) w29 (fun w30=>K w30))):=by
 refine h.take 8 (by decide) fun v wd hv hne h1 f1=>?_
 refine CallK.of (tnum11_spec hv) ?_
 rintro _ _ ⟨rfl,rfl⟩
 refine ⟨((takeL (tkF true 8 x.1).1).1,(takeL (tkF true 8 x.1).1).2,()),rfl,?_⟩
 obtain ⟨t,hb,hT⟩:=h1.ev
 have e0:nuF true x.1=((takeL (tkF true 8 x.1).1).1,(tkF true 8 x.1).2):=by unfold nuF;simp
 rcases hoc with ⟨rfl,rfl⟩ | ⟨rfl,rfl⟩
 ·refine StK.fld hb (by show 0+5<11;omega) rfl fun w2 hb2 f2 _=>k w2 ?_ (both_of f1 f2)
  have:evStep true x 68=((tkF true 8 x.1).2,(x.2.1,x.2.2.1,x.2.2.2.1,x.2.2.2.2.1,x.2.2.2.2.2.1,(takeL (tkF true 8 x.1).1).1,x.2.2.2.2.2.2.2.1,x.2.2.2.2.2.2.2.2)):=by
   show ((nuF true x.1).2,_)=_;rw [e0]
  rw [this]
  exact h1.put f2 hb2 hT
 ·refine StK.fld hb (by show 0+6<11;omega) rfl fun w2 hb2 f2 _=>k w2 ?_ (both_of f1 f2)
  have:evStep true x 86=((tkF true 8 x.1).2,(x.2.1,x.2.2.1,x.2.2.2.1,x.2.2.2.2.1,x.2.2.2.2.2.1,x.2.2.2.2.2.2.1,(takeL (tkF true 8 x.1).1).1,x.2.2.2.2.2.2.2.2)):=by
   show ((nuF true x.1).2,_)=_;rw [e0]
  rw [this]
  exact h1.put f2 hb2 hT
namespace Vc
theorem IdxK.ink {base:Option Addr} {len:Nat} {i:Int} {size:Nat} {K:Addr→Prop} {S:Nat→Prop} (hS:∀ a,base=some a→S a.block) (h:IdxK base len i size K):IdxK base len i size fun p=>InK S p (K p):=by
 obtain ⟨a,ha,h0,h1,k⟩:=h.out
 exact ⟨a,ha,h0,h1,⟨by rw [add_block];exact hS a ha,k⟩⟩
theorem KeepK.same {S:Nat→Prop} {w:World} {K:Prop} (k:K):KeepK S w w K:=KeepK.of (Fr.refl _ _) k
end Vc
theorem big_one {l:List UInt8} (h:l.length=1):big l=(l.getD 0 0).toNat:=by
 match l,h with
 | [a],_=>rw [big1];rfl
theorem big_two {l:List UInt8} (h:l.length=2):big l=(l.getD 0 0).toNat * 256+(l.getD 1 0).toNat:=by
 match l,h with
 | [a,b],_=>rw [big2];rfl
theorem TrS.text {w0 wc:World} {g1 g3 g9:Nat} {x:TkS×EvM} (h:TrS w0 wc g1 g3 g9 x) (c:UInt8) (hc:c=73∨c=78∨c=76∨c=67) {K:World→Prop}
  (k:∀ wd,TrS w0 wd g1 g3 g9 (evStep true x c)→Fr (fun k=>k=g3∨k=g9) wc wd→K wd) :
  CallK Tryz.prog 69 #[.pointer (some ⟨g3,0,none⟩),.int .i64 1] wc (.v (.one .slc)) (fun (x58:Option Addr×Nat×Nat) w59=>IdxK x58.1 x58.2.1 0 1 (fun a60=>LdK (.int .u8) a60 w59 (fun (x61:Int)=>
   CallK Tryz.prog 69 #[.pointer (some ⟨g3,0,none⟩),.int .i64 (IntKind.i64.wrap x61)] w59 (.v (.one .slc)) (fun (x62:Option Addr×Nat×Nat) w63=>RunK Tryz.prog (convert 22 9 (.slice x62.1 x62.2.1 x62.2.2)) w63 (.v (.one .str)) (fun (x64:ByteArray) w65=>
    ifB ((c.toNat:Int)==73) (StK ((⟨g9,0,none⟩:Addr).add 1) (.string x64) w65 (fun w66=>K w66))
    (ifB ((c.toNat:Int)==78) (StK ((⟨g9,0,none⟩:Addr).add 2) (.string x64) w65 (fun w66=>K w66))
    (ifB ((c.toNat:Int)==76) (StK ((⟨g9,0,none⟩:Addr).add 3) (.string x64) w65 (fun w66=>K w66))
    (StK ((⟨g9,0,none⟩:Addr).add 4) (.string x64) w65 (fun w66=>K w66))))))))):=by
 refine h.take 1 (by decide) fun v w1 hv hne h1 f1=>?_
 have hl:=tk_len 1 x.1
 refine RdB.at hv (Int.le_refl _) (by rw [hv.len,hl];decide) ?_
 rw [show Int.toNat 0=0 by rfl,← big_one hl]
 have hb:big (tkF true 1 x.1).1≤255:=by rw [big_one hl];have:=((tkF true 1 x.1).1.getD 0 0).toNat_lt;omega
 rw [wI (by omega) (by omega)]
 refine h1.take _ (by omega) fun u w2 hu hne2 h2 f2=>?_
 refine ⟨_,w2,txt_of hu,?_⟩
 obtain ⟨t,hb2,hT⟩:=h2.ev
 have f12:Fr (only g3) wc w2:=f1.trans f2
 have e1:(tkF true (big (tkF true 1 x.1).1) (tkF true 1 x.1).2).1=(txF true 1 x.1).1:=rfl
 have e2:(tkF true (big (tkF true 1 x.1).1) (tkF true 1 x.1).2).2=(txF true 1 x.1).2:=rfl
 dsimp only at hu h2
 rw [e1] at *
 rw [e2] at h2
 rcases hc with rfl | rfl | rfl | rfl
 ·refine ifB.t (by decide) ?_
  exact StK.fld hb2 (by show 0+1<11;omega) rfl fun w3 hb3 f3 _=>k w3 (h2.put f3 (m':=(x.2.1,(txF true 1 x.1).1,x.2.2.2.1,x.2.2.2.2.1,x.2.2.2.2.2.1,x.2.2.2.2.2.2.1,x.2.2.2.2.2.2.2.1,x.2.2.2.2.2.2.2.2)) hb3 hT) (both_of f12 f3)
 ·refine ifB.f (by decide) (ifB.t (by decide) ?_)
  exact StK.fld hb2 (by show 0+2<11;omega) rfl fun w3 hb3 f3 _=>k w3 (h2.put f3 (m':=(x.2.1,x.2.2.1,(txF true 1 x.1).1,x.2.2.2.2.1,x.2.2.2.2.2.1,x.2.2.2.2.2.2.1,x.2.2.2.2.2.2.2.1,x.2.2.2.2.2.2.2.2)) hb3 hT) (both_of f12 f3)
 ·refine ifB.f (by decide) (ifB.f (by decide) (ifB.t (by decide) ?_))
  exact StK.fld hb2 (by show 0+3<11;omega) rfl fun w3 hb3 f3 _=>k w3 (h2.put f3 (m':=(x.2.1,x.2.2.1,x.2.2.2.1,(txF true 1 x.1).1,x.2.2.2.2.2.1,x.2.2.2.2.2.2.1,x.2.2.2.2.2.2.2.1,x.2.2.2.2.2.2.2.2)) hb3 hT) (both_of f12 f3)
 ·refine ifB.f (by decide) (ifB.f (by decide) (ifB.f (by decide) ?_))
  exact StK.fld hb2 (by show 0+4<11;omega) rfl fun w3 hb3 f3 _=>k w3 (h2.put f3 (m':=(x.2.1,x.2.2.1,x.2.2.2.1,x.2.2.2.2.1,(txF true 1 x.1).1,x.2.2.2.2.2.2.1,x.2.2.2.2.2.2.2.1,x.2.2.2.2.2.2.2.2)) hb3 hT) (both_of f12 f3)
theorem TrS.term {w0 wc:World} {g1 g3 g9:Nat} {x:TkS×EvM} (h:TrS w0 wc g1 g3 g9 x) {K:World→Prop}
  (k:∀ wd,TrS w0 wd g1 g3 g9 (evStep true x 84)→Fr (fun k=>k=g3∨k=g9) wc wd→K wd) :
  CallK Tryz.prog 69 #[.pointer (some ⟨g3,0,none⟩),.int .i64 2] wc (.v (.one .slc)) (fun (x36:Option Addr×Nat×Nat) w37=>DrewK w37 (fun w38=>HoldK (fun S39=>
   IdxK x36.1 x36.2.1 0 1 (fun a40=>InK S39 a40 (LdK (.int .u8) a40 w38 (fun (x41:Int)=>IdxK x36.1 x36.2.1 1 1 (fun a42=>InK S39 a42 (LdK (.int .u8) a42 w38 (fun (x43:Int)=>AndK
    (KeepK S39 w38 w38 (KeepK S39 w38 w38 (CallK Tryz.prog 69 #[.pointer (some ⟨g3,0,none⟩),.int .i64 (IntKind.i64.wrap ((IntKind.i64.wrap ((IntKind.i64.wrap x41) * 256))+(IntKind.i64.wrap x43)))] w38 (.v (.one .slc)) (fun (x44:Option Addr×Nat×Nat) w45=>KeepK S39 w38 w45 (RunK Tryz.prog (convert 22 9 (.slice x44.1 x44.2.1 x44.2.2)) w45 (.v (.one .str)) (fun (x46:ByteArray) w47=>KeepK S39 w45 w47 (CallK Tryz.prog 70 #[.string x46,.bool false] w47 (.tup [.agg TVK,.one (.int .i64),.one (.int .i64)]) (fun (x48:(Int×ByteArray×Int×(Option Addr×Nat×Nat)×Unit)×Int×Int×Unit) w49=>StsK ((⟨g9,0,none⟩:Addr).add 7) (tvL x48.1) w49 (fun w50=>K w50)))))))))
    (KeepK S39 w38 w38 (KeepK S39 w38 w38 (CallK Tryz.prog 69 #[.pointer (some ⟨g3,0,none⟩),.int .i64 (IntKind.i64.wrap ((IntKind.i64.wrap ((IntKind.i64.wrap x41) * 256))+(IntKind.i64.wrap x43)))] w38 (.v (.one .slc)) (fun (x44:Option Addr×Nat×Nat) w45=>KeepK S39 w38 w45 (RunK Tryz.prog (convert 22 9 (.slice x44.1 x44.2.1 x44.2.2)) w45 (.v (.one .str)) (fun (x46:ByteArray) w47=>KeepK S39 w45 w47 (CallK Tryz.prog 70 #[.string x46,.bool false] w47 (.tup [.agg TVK,.one (.int .i64),.one (.int .i64)]) (fun (x48:(Int×ByteArray×Int×(Option Addr×Nat×Nat)×Unit)×Int×Int×Unit) w49=>StsK ((⟨g9,0,none⟩:Addr).add 7) (tvL x48.1) w49 (fun w50=>K w50)))))))))))))))))):=by
 refine h.take 2 (by decide) fun v w1 hv hne h1 f1=>DrewK.of fun w2 _ f2=>HoldK.of (fun k=>k≠g3) ?_
 have hl:=tk_len 2 x.1
 have hv2:=hv.keep0 f2
 have hlen:=hv.len
 have hn:(tkF true 2 x.1).1≠[]:=fun t=>by rw [t] at hl;simp at hl
 have hS:∀ a,v.1=some a→(fun k=>k≠g3) a.block:=fun a ha=>hne hn _ ⟨a,ha,rfl⟩
 refine IdxK.ink hS (RdB.at hv2 (Int.le_refl _) (by omega) ?_)
 refine IdxK.ink hS (RdB.at hv2 (by decide) (by omega) ?_)
 rw [show Int.toNat 0=0 by rfl,show Int.toNat 1=1 by rfl]
 have b0:=((tkF true 2 x.1).1.getD 0 0).toNat_lt
 have b1:=((tkF true 2 x.1).1.getD 1 0).toNat_lt
 have eb:IntKind.i64.wrap (IntKind.i64.wrap (IntKind.i64.wrap (((tkF true 2 x.1).1.getD 0 0).toNat:Int) * 256)+IntKind.i64.wrap (((tkF true 2 x.1).1.getD 1 0).toNat:Int))=((big (tkF true 2 x.1).1:Nat):Int):=by
  rw [big_two hl,wI (x:=(((tkF true 2 x.1).1.getD 0 0).toNat:Int)) (by omega) (by omega),wI (x:=(((tkF true 2 x.1).1.getD 1 0).toNat:Int)) (by omega) (by omega),wI (x:=(((tkF true 2 x.1).1.getD 0 0).toNat:Int) * 256) (by omega) (by omega),wI (by omega) (by omega)]
  omega
 rw [eb]
 have hb:big (tkF true 2 x.1).1≤65535:=by rw [big_two hl];omega
 have h2:=h1.keep0 f2
 have A:KeepK (fun k=>k≠g3) w2 w2 (KeepK (fun k=>k≠g3) w2 w2 (CallK Tryz.prog 69 #[.pointer (some ⟨g3,0,none⟩),.int .i64 ((big (tkF true 2 x.1).1:Nat):Int)] w2 (.v (.one .slc)) (fun (x44:Option Addr×Nat×Nat) w45=>KeepK (fun k=>k≠g3) w2 w45 (RunK Tryz.prog (convert 22 9 (.slice x44.1 x44.2.1 x44.2.2)) w45 (.v (.one .str)) (fun (x46:ByteArray) w47=>KeepK (fun k=>k≠g3) w45 w47 (CallK Tryz.prog 70 #[.string x46,.bool false] w47 (.tup [.agg TVK,.one (.int .i64),.one (.int .i64)]) (fun (x48:(Int×ByteArray×Int×(Option Addr×Nat×Nat)×Unit)×Int×Int×Unit) w49=>StsK ((⟨g9,0,none⟩:Addr).add 7) (tvL x48.1) w49 (fun w50=>K w50)))))))):=by
  refine KeepK.same (KeepK.same ?_)
  refine h2.take _ (by omega) fun u w3 hu _ h3 f3=>KeepK.on f3 (fun k hk t=>hk t) ?_
  have e1:(tkF true (big (tkF true 2 x.1).1) (tkF true 2 x.1).2).1=(txF true 2 x.1).1:=rfl
  have e2:(tkF true (big (tkF true 2 x.1).1) (tkF true 2 x.1).2).2=(txF true 2 x.1).2:=rfl
  dsimp only at hu h3
  rw [e1] at hu
  rw [e2] at h3
  refine ⟨_,w3,txt_of hu,KeepK.same ?_⟩
  have htl:=tx_len true 2 (by decide) x.1
  refine CallK.of (rread_spec (txF true 2 x.1).1 (by omega) false w3) ?_
  rintro _ w4 ⟨t,rfl,mt,f4⟩
  refine ⟨(t,(readR (txF true 2 x.1).1 false).2.1,(readR (txF true 2 x.1).1 false).2.2,()),rfl,?_⟩
  rw [readR_T] at mt
  have h4:=h3.keep0 f4
  obtain ⟨l1,l2,l3,l4,l5,l6⟩:=h4.lo
  obtain ⟨t0,hb4,hT⟩:=h4.ev
  obtain ⟨a1,a2,a3,a4⟩:=z19z (T:=43) (b:=g9) (tvL t) w4 [.int .i64 x.2.1,.string (str x.2.2.1),.string (str x.2.2.2.1),.string (str x.2.2.2.2.1),.string (str x.2.2.2.2.2.1),.int .i64 x.2.2.2.2.2.2.1,.int .i64 x.2.2.2.2.2.2.2.1] (tvL t0) hb4 rfl rfl
  refine ⟨z20z _ _ 0 a1,?_⟩
  rw [z11z]
  have hs3:=f3.size
  have g1lt:g1<w3.heap.size:=by obtain ⟨y,hy⟩:=h3.b1;exact z3z hy
  have g3lt:g3<w3.heap.size:=by obtain ⟨u,hb,_⟩:=h3.tk;exact z3z hb
  have g9lt:g9<w3.heap.size:=by obtain ⟨t,hb,_⟩:=h3.ev;exact z3z hb
  have hw03:w0.heap.size≤w3.heap.size:=h3.fr.size
  have hT':IsTr w4 (fun k=>w0.heap.size≤k∧k<w4.heap.size∧k≠g1∧k≠g3∧k≠g9) (trT (readT (txF true 2 x.1).1).1) t:=
   IsTr.mono (fun j hj=>⟨by have:=hj.1;omega,hj.2,by have:=hj.1;omega,by have:=hj.1;omega,by have:=hj.1;omega⟩) _ _ mt
  have es:evStep true x 84=((txF true 2 x.1).2,(x.2.1,x.2.2.1,x.2.2.2.1,x.2.2.2.2.1,x.2.2.2.2.2.1,x.2.2.2.2.2.2.1,x.2.2.2.2.2.2.2.1,(readT (txF true 2 x.1).1).1)):=by
   show ((teF true x.1).2,_)=_
   have:teF true x.1=((readT (txF true 2 x.1).1).1,(txF true 2 x.1).2):=by unfold teF;simp
   rw [this]
  refine k _ ?_ (both_of (((f1.then0 f2).trans f3).then0 f4) a3)
  rw [es]
  exact h4.put a3 (m':=(x.2.1,x.2.2.1,x.2.2.2.1,x.2.2.2.2.1,x.2.2.2.2.2.1,x.2.2.2.2.2.2.1,x.2.2.2.2.2.2.2.1,(readT (txF true 2 x.1).1).1)) (v:=t) a2 hT'
 exact ⟨A,A⟩
theorem zero_tree (w w':World):Made w w' (trT .none) (0,str [],0,(none,0,0),()):=z17z w w' 0 [] 0
theorem take11_spec {w:World} {v:Sl} {bs:List UInt8} (h:RdB w v bs) (hc:v.2.1≤v.2.2):Ret Tryz.prog 43 #[.slice v.1 v.2.1 v.2.2] w fun r w'=>
  ∃ t:TV,r=.tuple #[evRA (evR (takeP true bs).1.e t),.int .i64 (takeP true bs).2]∧Made w w' (trT (takeP true bs).1.t) t∧Fr none1 w w':=by
 refine c43 v.1 v.2.1 v.2.2 w _ ?_
 unfold C43
 have z0:∀ m:EvM,m=zeroM→evRL (evR m.e (0,str [],0,(none,0,0),()))=evRL (evR zeroM.e (0,str [],0,(none,0,0),())):=fun m e=>by rw [e]
 refine NewK.of fun g1 w1 hg1 hb1 f1 hs1=>NewK.of fun g3 w2 hg3 hb3 f2 hs2=>?_
 have hb1:w1.heap[g1]? = some (.cells (evRL (evR zeroM.e (0,str [],0,(none,0,0),()))).toArray 43 (0,0)):=hb1
 have f12:=f1.trans f2
 have s12:=f12.size
 have tk2:IsTk 125 w2 g3 w.heap.size (bs,false):=⟨v,hb3,h.keep0 f12,hc,fun hn k hk=>h.ltE hn hk⟩
 refine CallK.of (tr_take tk2 (by omega) 1 (by decide)) ?_
 rintro _ w3 ⟨x5,rfl,hx,hxb,tk3,f3⟩
 refine ⟨x5,rfl,?_⟩
 have hl:=tk_len 1 (bs,false)
 refine RdB.at hx (Int.le_refl _) (by rw [hx.len,hl];decide) ?_
 rw [show Int.toNat 0=0 by rfl,← big_one hl]
 have hbb:big (tkF true 1 (bs,false)).1≤255:=by rw [big_one hl];have:=((tkF true 1 (bs,false)).1.getD 0 0).toNat_lt;omega
 rw [wI (by omega) (by omega)]
 have hM:takeM true bs=(fieldL (big (tkF true 1 (bs,false)).1:Int)).foldl (evStep true) ((tkF true 1 (bs,false)).2,((big (tkF true 1 (bs,false)).1:Int),[],[],[],[],0,0,.none)):=rfl
 have hsm:=takeM_small true bs
 have hft:=takeM_fit true bs
 have hP:takeP true bs=if takeOk true bs=true then ((takeM true bs).2,0) else (zeroM,2):=rfl
 have hO:takeOk true bs=(!(takeM true bs).1.2&&((packM (takeM true bs).2).2==0&&((packM (takeM true bs).2).1==bs&&(!true||(takeM true bs).1.1==[])))):=rfl
 generalize takeP true bs=P at *
 generalize takeOk true bs=O at *
 generalize takeM true bs=M at *
 generalize tkF true 1 (bs,false)=x at *
 obtain ⟨X,hX⟩:∃ X:TkS×EvM,X=(x.2,((big x.1:Int),[],[],[],[],0,0,.none)):=⟨_,rfl⟩
 rw [← hX] at hM
 have s3:=f3.size
 refine ns_ok (zs:=evRL (evR zeroM.e (0,str [],0,(none,0,0),()))) (vs:=evRL (evR (EvM.e ((big x.1:Int),[],[],[],[],0,0,.none)) (0,str [],0,(none,0,0),()))) rfl rfl fun g9 w4 hg9 hb9 f4=>?_
 have hb9:w4.heap[g9]? = some (.cells (evRL (evR X.2.e (0,str [],0,(none,0,0),()))).toArray 43 (0,0)):=by rw [hX];exact hb9
 have hXt:X.2.t=.none:=by rw [hX];rfl
 have hXk:X.2.1=(big x.1:Int):=by rw [hX]
 have f13:Fr none1 w w3:=f12.fresh f3 (by omega)
 have f14:=f13.trans f4
 have g1lt:=z3z hb1
 have g3lt:=z3z hb3
 have S4:TrS w w4 g1 g3 g9 X:=by
  refine ⟨by rw [hX];exact tk3.keep0 f4,⟨_,hb9,?_⟩,⟨_,f4.keep0 (f3.keep1 (f2.keep0 hb1) (by omega))⟩,f14,by omega,by omega,by omega,by omega,by omega,by omega⟩
  rw [hXt]
  exact IsTr.mono (fun k hk=>by have:=hk.1;have:=hk.2;omega) _ _ (zero_tree w4 w4)
 obtain ⟨y,w5,hr5,hy,hyl,f5,yf⟩:=lit_ok (P:=Tryz.prog) (w:=w4) z7z (ordL.map bc) (by intro v hv;obtain ⟨x,_,rfl⟩:=List.mem_map.1 hv;rfl) (by decide)
 refine ⟨y,w5,hr5,?_⟩
 have hy0:IsB w5 y ordL:=hy
 have hysome:y.1.isSome=true:=by
  rcases hy0 with ⟨hh,_⟩ | ⟨g',off,cs,hv',_⟩
  ·rw [hh] at hyl;exact absurd hyl (by decide)
  ·rw [hv'];rfl
 obtain ⟨w6,hr6,hy6,f6⟩:=conv_ok (P:=Tryz.prog) Tryz.underlying22 Tryz.underlying5 hy0 hysome
 refine ⟨y,w6,hr6,?_⟩
 have hyr:RdB w6 y ordL:=hy6
 have s4:=f4.size;have s5:=f5.size;have s6:=f6.size
 have g9lt:=z3z hb9
 have yne:∀ k,blkOf y k→k≠g1∧k≠g3∧k≠g9:=fun k hk=>by have:=yf k hk;omega
 have f46:Fr none1 w4 w6:=f5.comp f6 fun k hk t=>by have:=yf k t;omega
 have S6:=S4.keep0 f46
 have hyl7:y.2.1=7:=hyl
 have hXL:∀ i,(((ordL.take i).filter (hasF X.2.1)).foldl (evStep true) X).2.1=X.2.1:=fun i=>fold_kind true _ _
 refine LoopK.of (fun st w'=>∃ i:Nat,st.1=i∧i≤7∧TrS w w' g1 g3 g9 (((ordL.take i).filter (hasF X.2.1)).foldl (evStep true) X)∧Fr (fun k=>k=g3∨k=g9) w6 w') (fun st _=>(7 - st.1).toNat) ⟨0,rfl,by omega,S6,Fr.refl _ _⟩ ?_
 rintro _ ⟨i',_⟩ w7 ⟨i,hi,hil,S7,f7⟩
 dsimp only at hi ⊢
 subst hi
 have hy7:RdB w7 y ordL:=hyr.keep f7 fun k hk t=>by have:=yne k hk;rcases t with t | t<;>omega
 refine ifB.dec (fun hlt=>?_) (fun hge=>?_)
 ·have hi7:i<7:=by omega
  refine RdB.at hy7 (by omega) hlt ?_
  obtain ⟨c,hc⟩:∃ c,ordL[i]? = some c:=⟨_,List.getElem?_eq_getElem (by show i<7;exact hi7)⟩
  have hcv:ordL.getD (Int.toNat (i:Int)) 0=c:=by rw [Int.toNat_natCast,List.getD_eq_getElem?_getD,hc];rfl
  rw [hcv]
  obtain ⟨t7,hb7,hT7⟩:=id S7.ev
  have e0:=hXL i
  have hstep:((ordL.take (i+1)).filter (hasF X.2.1)).foldl (evStep true) X=if hasF X.2.1 c=true then evStep true (((ordL.take i).filter (hasF X.2.1)).foldl (evStep true) X) c else ((ordL.take i).filter (hasF X.2.1)).foldl (evStep true) X:=by
   rw [List.take_add_one,hc,List.filter_append,List.foldl_append]
   by_cases hh:hasF X.2.1 c=true
   ·rw [if_pos hh];simp [hh]
   ·rw [if_neg hh];simp [hh]
  generalize ((ordL.take i).filter (hasF X.2.1)).foldl (evStep true) X=Y at *
  refine LdK.fld hb7 (x:=Y.2.1) rfl ?_
  rw [e0]
  refine CallK.of (fields11_spec X.2.1 w7) ?_
  rintro _ _ ⟨rfl,rfl⟩
  refine ⟨_,rfl,?_⟩
  refine hasK X.2.1 c w7 ?_
  have next:∀ Z:TkS×EvM,((ordL.take (i+1)).filter (hasF X.2.1)).foldl (evStep true) X=Z→∀ wd,TrS w wd g1 g3 g9 Z→Fr (fun k=>k=g3∨k=g9) w7 wd →
    (∃ i':Nat,(IntKind.i64.wrap ((i:Int)+1))=i'∧i'≤7∧TrS w wd g1 g3 g9 (((ordL.take i').filter (hasF X.2.1)).foldl (evStep true) X)∧Fr (fun k=>k=g3∨k=g9) w6 wd)∧(7 - (IntKind.i64.wrap ((i:Int)+1))).toNat<(7 - (i:Int)).toNat:=fun Z hZ wd hS hf=>by
   rw [wI (by omega) (by omega)]
   exact ⟨⟨i+1,by omega,by omega,by rw [hZ];exact hS,f7.trans hf⟩,by omega⟩
  refine ifB.not (ifB.by (fun hh=>?_) (fun hh=>?_))
  ·rw [if_pos hh] at hstep
   have hcm:c∈ordL:=List.mem_of_getElem? hc
   have hc7:c=73∨c=78∨c=76∨c=67∨c=68∨c=86∨c=84:=by simpa [ordL] using hcm
   rcases hc7 with rfl | rfl | rfl | rfl | rfl | rfl | rfl
   ·exact ifB.f (by decide) (ifB.f (by decide) (ifB.f (by decide) (S7.text 73 (.inl rfl) fun wd hS hf=>next _ hstep wd hS hf)))
   ·exact ifB.f (by decide) (ifB.f (by decide) (ifB.f (by decide) (S7.text 78 (.inr (.inl rfl)) fun wd hS hf=>next _ hstep wd hS hf)))
   ·exact ifB.f (by decide) (ifB.f (by decide) (ifB.f (by decide) (S7.text 76 (.inr (.inr (.inl rfl))) fun wd hS hf=>next _ hstep wd hS hf)))
   ·exact ifB.f (by decide) (ifB.f (by decide) (ifB.f (by decide) (S7.text 67 (.inr (.inr (.inr rfl))) fun wd hS hf=>next _ hstep wd hS hf)))
   ·exact ifB.t (by decide) (S7.num 5 68 (.inl ⟨rfl,rfl⟩) fun wd hS hf=>next _ hstep wd hS hf)
   ·exact ifB.f (by decide) (ifB.t (by decide) (S7.num 6 86 (.inr ⟨rfl,rfl⟩) fun wd hS hf=>next _ hstep wd hS hf))
   ·exact ifB.f (by decide) (ifB.f (by decide) (ifB.t (by decide) (S7.term fun wd hS hf=>next _ hstep wd hS hf)))
  ·rw [if_neg (by rw [hh];decide)] at hstep
   exact next _ hstep w7 S7 (Fr.refl _ _)
 have hi7:i=7:=by omega
 subst hi7
 have hfl:(ordL.take 7).filter (hasF X.2.1)=fieldL X.2.1:=rfl
 rw [hfl,hXk,← hM] at S7
 obtain ⟨l1,l2,l3,l4,l5,l6⟩:=S7.lo
 obtain ⟨t,hb7,hT7⟩:=id S7.ev
 obtain ⟨y1,hb17⟩:=id S7.b1
 have f07:=S7.fr
 refine LdsK.blk (cks:=ERK) (x:=evR M.2.e t) hb7 ?_
 have hsh:=z32z M.2.t
 refine CallK.of (pack11_spec M.2.e M.2.t rfl hsm.e (by have:=hft.1;omega) hft.2 (by omega) hT7 (fun k hk=>hk.2.1)) ?_
 rintro _ w8 ⟨u,rfl,hu,f8,uf⟩
 refine ⟨(u,(packM M.2).2,()),rfl,?_⟩
 have S8:=S7.keep0 f8
 have f08:=f07.trans f8
 have hb18:=f8.keep0 hb17
 have fail:O=false→∀ w10,Fr none1 w8 w10→StsK ⟨g1,0,none⟩ (evRL (evR zeroM.e (0,str [],0,(none,0,0),()))) w10 (fun w30=>LdsK ERK ⟨g1,0,none⟩ w30 (fun (y:EvR)=>∃ t:TV,(Value.tuple #[evRA y,.int .i64 2])=.tuple #[evRA (evR P.1.e t),.int .i64 P.2]∧Made w w30 (trT P.1.t) t∧Fr none1 w w30)):=fun ho w10 f10=>by
  rw [hP,ho]
  refine StsK.blk (cs:=evRL y1) (vs:=evRL (evR zeroM.e (0,str [],0,(none,0,0),()))) (f10.keep0 hb18) rfl rfl fun w11 hb11 f11 _=>LdsK.blk (cks:=ERK) (x:=evR zeroM.e (0,str [],0,(none,0,0),())) hb11 ?_
  exact ⟨_,rfl,zero_tree _ _,(f08.trans f10).fresh f11 l1⟩
 obtain ⟨ru,hrb,hru,hrc,hrl⟩:=S8.tk
 have hrul:=hru.len
 refine LdK.fld hrb (x:=M.1.2) rfl ?_
 refine ifB.by (fun e=>fail (by rw [hO,e];rfl) w8 (Fr.refl _ _)) (fun e=>?_)
 refine LdK.fld hrb (x:=ru) rfl ?_
 refine ifB.dec (fun hgt=>fail ?_ w8 (Fr.refl _ _)) (fun hle=>?_)
 ·have:M.1.1≠[]:=fun t=>by rw [t,List.length_nil] at hrul;omega
  rw [hO];simp [this]
 have hnil:M.1.1=[]:=List.eq_nil_of_length_eq_zero (by omega)
 dsimp only
 refine ifB.ne (fun hne=>fail (by rw [hO,e];simp [hne]) w8 (Fr.refl _ _)) (fun he=>?_)
 refine ⟨_,w8,txt_of hu.rd,_,w8,txt_of (h.keep0 f08),?_⟩
 rw [str_eqb]
 refine ifB.not (ifB.by (fun eq=>?_) (fun ne=>fail ?_ w8 (Fr.refl _ _)))
 ·have eq:((packM M.2).1==bs)=true:=eq
  have ho:O=true:=by rw [hO,e,he,eq,hnil];rfl
  rw [hP,ho]
  refine LdsK.blk (cks:=ERK) (x:=evR M.2.e t) (f8.keep0 hb7) ?_
  refine StsK.blk (cs:=evRL y1) (vs:=evRL (evR M.2.e t)) hb18 rfl rfl fun w10 hb110 f10 _=>LdsK.blk (cks:=ERK) (x:=evR M.2.e t) hb110 ?_
  refine ⟨t,rfl,?_,f08.fresh f10 l1⟩
  exact IsTr.mono (fun j hj=>⟨hj.1,by have:=f8.size;have:=f10.size;have:=hj.2.1;omega⟩) _ _ (IsTr.keep f10 (fun j hj t=>hj.2.2.1 t) _ _ (IsTr.keep0 hT7 f8))
 ·have ne:((packM M.2).1==bs)=false:=ne
  rw [hO,ne];simp
theorem IsB.mid {w:World} {v:Sl} {bs:List UInt8} (h:IsB w v bs) {lo hi:Int} (h0:0≤lo) (h1:lo≤hi) (h2:hi≤v.2.1) {K:Option Addr→Nat→Nat→Prop}
  (k:∀ u:Sl,IsB w u ((bs.drop lo.toNat).take (hi - lo).toNat)→(∀ k,blkOf u k→blkOf v k)→K u.1 u.2.1 u.2.2):SubK v.1 v.2.2 lo hi v.2.2 1 K:=by
 have hc:=IsB.cap h
 have hlen:=IsB.len h
 refine ⟨h0,h1,by omega,by omega,?_⟩
 have hk:=fun (A:Option Addr) (L C:Nat)=>k (A,L,C)
 rcases h with ⟨rfl,hb⟩ | ⟨g,off,cs,hv,hb,hl,hcs,hn,he⟩
 ·have:bs=[]:=by simpa using hb
  subst this
  have hlo:lo=0:=by simp at hlen hc h2;omega
  have hhi:hi=0:=by simp at h2;omega
  subst hlo;subst hhi
  refine hk none 0 0 (.inl ⟨rfl,by simp⟩) fun k ⟨a,ha,_⟩=>by cases ha
 ·rw [hv]
  have hmap:(bs.map bc).length=v.2.1:=by rw [hn,Nat.mul_one]
  by_cases hq:(v.2.2:Int)=lo
  ·rw [if_pos hq]
   refine hk (some ⟨g,off,none⟩) (hi - lo).toNat ((v.2.2:Int) - lo).toNat (.inr ⟨g,off,cs,rfl,hb,by dsimp only;omega,by dsimp only;omega,?_,fun i hi'=>?_⟩) fun k ⟨a,ha,e⟩=>⟨_,hv,by injection ha with ha;subst ha;exact e⟩
   ·dsimp only
    rw [List.length_map,List.length_take,List.length_drop];omega
   ·rw [List.length_map,List.length_take,List.length_drop] at hi';omega
  ·rw [if_neg hq]
   have e:(some (⟨g,off,none⟩:Addr)).map (·.add (lo.toNat * 1))=some ⟨g,off+lo.toNat,none⟩:=by
    rw [Option.map_some,z2z,Nat.mul_one]
   rw [e]
   refine hk (some ⟨g,off+lo.toNat,none⟩) (hi - lo).toNat ((v.2.2:Int) - lo).toNat (.inr ⟨g,off+lo.toNat,cs,rfl,hb,by dsimp only;omega,by dsimp only;omega,?_,fun i hi'=>?_⟩) (fun k ⟨a,ha,e⟩=>⟨_,hv,by injection ha with ha;subst ha;exact e⟩)
   ·dsimp only
    rw [List.length_map,List.length_take,List.length_drop];omega
   ·rw [List.length_map,List.length_take,List.length_drop] at hi'
    have:=he (lo.toNat+i) (by rw [hmap];omega)
    rw [Nat.add_assoc,this,List.getElem?_map,List.getElem?_map,List.getElem?_take_of_lt (by omega),List.getElem?_drop]
def C108 (p0:Int) (p1:Int) (w:World) (K:Value→World→Prop):Prop:=
 NnK (IntKind.u64.wrap ((BitVec.ofInt 64 (IntKind.u64.wrap p1) &&& BitVec.ofInt 64 63).toNat:Int)) (NnK (IntKind.u64.wrap (64 - (IntKind.u64.wrap ((BitVec.ofInt 64 (IntKind.u64.wrap p1) &&& BitVec.ofInt 64 63).toNat:Int)))) (K (.int .u64 (IntKind.u64.wrap ((BitVec.ofInt 64 (IntKind.u64.wrap (p0 * 2 ^ (min (Int.toNat (IntKind.u64.wrap ((BitVec.ofInt 64 (IntKind.u64.wrap p1) &&& BitVec.ofInt 64 63).toNat:Int))) 64))) ||| BitVec.ofInt 64 (Int.fdiv p0 (2 ^ (min (Int.toNat (IntKind.u64.wrap (64 - (IntKind.u64.wrap ((BitVec.ofInt 64 (IntKind.u64.wrap p1) &&& BitVec.ofInt 64 63).toNat:Int))))) 64)))).toNat:Int))) w))
def pl108:Plan:=.auto
theorem c108 (p0:Int) (p1:Int) (w:World) (K:Value→World→Prop) (h:C108 p0 p1 w K):Ret Tryz.prog 108 #[.int .u64 p0,.int .i64 p1] w K:=z0z (by kernel_rfl) Tryz.func108 (p:=pl108) (Eq.mpr (by kernel_rfl) h)
def C78 (p0:Addr) (w:World) (K:Value→World→Prop):Prop:=
 DrewK w (fun w1=>LdK (.int .u64) (p0.add 0) w1 (fun (x2:Int)=>LdK (.int .u64) (p0.add 1) w1 (fun (x3:Int)=>StK (p0.add 0) (.int .u64 (IntKind.u64.wrap (x2+x3))) w1 (fun w4=>DrewK w4 (fun w5=>HoldK (fun S6=>InK S6 (p0.add 1) (LdK (.int .u64) (p0.add 1) w5 (fun (x7:Int)=>InK S6 (p0.add 0) (LdK (.int .u64) (p0.add 0) w5 (fun (x8:Int)=>CallK Tryz.prog 108 #[.int .u64 x7,.int .i64 13] w5 (.v (.one (.int .u64))) (fun (x9:Int) w10=>KeepK S6 w5 w10 (StK (p0.add 1) (.int .u64 (IntKind.u64.wrap ((BitVec.ofInt 64 x9 ^^^ BitVec.ofInt 64 x8).toNat:Int))) w10 (fun w11=>LdK (.int .u64) (p0.add 0) w11 (fun (x12:Int)=>CallK Tryz.prog 108 #[.int .u64 x12,.int .i64 32] w11 (.v (.one (.int .u64))) (fun (x13:Int) w14=>StK (p0.add 0) (.int .u64 x13) w14 (fun w15=>DrewK w15 (fun w16=>LdK (.int .u64) (p0.add 2) w16 (fun (x17:Int)=>LdK (.int .u64) (p0.add 3) w16 (fun (x18:Int)=>StK (p0.add 2) (.int .u64 (IntKind.u64.wrap (x17+x18))) w16 (fun w19=>DrewK w19 (fun w20=>HoldK (fun S21=>InK S21 (p0.add 3) (LdK (.int .u64) (p0.add 3) w20 (fun (x22:Int)=>InK S21 (p0.add 2) (LdK (.int .u64) (p0.add 2) w20 (fun (x23:Int)=>CallK Tryz.prog 108 #[.int .u64 x22,.int .i64 16] w20 (.v (.one (.int .u64))) (fun (x24:Int) w25=>KeepK S21 w20 w25 (StK (p0.add 3) (.int .u64 (IntKind.u64.wrap ((BitVec.ofInt 64 x24 ^^^ BitVec.ofInt 64 x23).toNat:Int))) w25 (fun w26=>DrewK w26 (fun w27=>LdK (.int .u64) (p0.add 0) w27 (fun (x28:Int)=>LdK (.int .u64) (p0.add 3) w27 (fun (x29:Int)=>StK (p0.add 0) (.int .u64 (IntKind.u64.wrap (x28+x29))) w27 (fun w30=>DrewK w30 (fun w31=>HoldK (fun S32=>InK S32 (p0.add 3) (LdK (.int .u64) (p0.add 3) w31 (fun (x33:Int)=>InK S32 (p0.add 0) (LdK (.int .u64) (p0.add 0) w31 (fun (x34:Int)=>CallK Tryz.prog 108 #[.int .u64 x33,.int .i64 21] w31 (.v (.one (.int .u64))) (fun (x35:Int) w36=>KeepK S32 w31 w36 (StK (p0.add 3) (.int .u64 (IntKind.u64.wrap ((BitVec.ofInt 64 x35 ^^^ BitVec.ofInt 64 x34).toNat:Int))) w36 (fun w37=>DrewK w37 (fun w38=>LdK (.int .u64) (p0.add 2) w38 (fun (x39:Int)=>LdK (.int .u64) (p0.add 1) w38 (fun (x40:Int)=>StK (p0.add 2) (.int .u64 (IntKind.u64.wrap (x39+x40))) w38 (fun w41=>DrewK w41 (fun w42=>HoldK (fun S43=>InK S43 (p0.add 1) (LdK (.int .u64) (p0.add 1) w42 (fun (x44:Int)=>InK S43 (p0.add 2) (LdK (.int .u64) (p0.add 2) w42 (fun (x45:Int)=>CallK Tryz.prog 108 #[.int .u64 x44,.int .i64 17] w42 (.v (.one (.int .u64))) (fun (x46:Int) w47=>KeepK S43 w42 w47 (StK (p0.add 1) (.int .u64 (IntKind.u64.wrap ((BitVec.ofInt 64 x46 ^^^ BitVec.ofInt 64 x45).toNat:Int))) w47 (fun w48=>LdK (.int .u64) (p0.add 2) w48 (fun (x49:Int)=>CallK Tryz.prog 108 #[.int .u64 x49,.int .i64 32] w48 (.v (.one (.int .u64))) (fun (x50:Int) w51=>StK (p0.add 2) (.int .u64 x50) w51 (fun w52=>K (.tuple #[]) w52))))))))))))))))))))))))))))))))))))))))))))))))))))))))))
def pl78:Plan:=(.seq (.tail 11) (.seq (.held (.soft 0 (.soft 1 (.soft 2 (.soft 3 (.soft 4 (.soft 6 (.soft 7 (.soft 8 (.soft 9 (.pick 5 (.soft 10 (.soft 11 (.soft 12 (.last 13 .done)))) .stop))))))))))) (.seq .auto (.seq (.tail 11) (.seq (.held (.soft 0 (.soft 1 (.soft 2 (.soft 3 (.soft 4 (.soft 6 (.soft 7 (.soft 8 (.soft 9 (.pick 5 (.soft 10 (.soft 11 (.soft 12 (.last 13 .done)))) .stop))))))))))) (.seq (.tail 11) (.seq (.held (.soft 0 (.soft 1 (.soft 2 (.soft 3 (.soft 4 (.soft 6 (.soft 7 (.soft 8 (.soft 9 (.pick 5 (.soft 10 (.soft 11 (.soft 12 (.last 13 .done)))) .stop))))))))))) (.seq (.tail 11) (.seq (.held (.soft 0 (.soft 1 (.soft 2 (.soft 3 (.soft 4 (.soft 6 (.soft 7 (.soft 8 (.soft 9 (.pick 5 (.soft 10 (.soft 11 (.soft 12 (.last 13 .done)))) .stop))))))))))) .auto)))))))))
theorem c78 (p0:Addr) (w:World) (K:Value→World→Prop) (h:C78 p0 w K):Ret Tryz.prog 78 #[.pointer (some p0)] w K:=z0z (by kernel_rfl) Tryz.func78 (p:=pl78) (Eq.mpr (by kernel_rfl) h)
def C48 (p0:Addr) (p1:Int) (w:World) (K:Value→World→Prop):Prop:=
 LoopK (Int×Unit) (fun _ s1 w2 next3=>ifB (decide (s1.1<p1))
 (CallK Tryz.prog 78 #[.pointer (some p0)] w2 (.tup []) (fun (x4:Unit) w5=>next3 (IntKind.i64.wrap (s1.1+1),()) w5))
 (K (.tuple #[]) w2))
 (0,()) w
def pl48:Plan:=(.seq .auto (.block (.loop [(5,.one (.int .i64))] .auto)))
theorem c48 (p0:Addr) (p1:Int) (w:World) (K:Value→World→Prop) (h:C48 p0 p1 w K):Ret Tryz.prog 48 #[.pointer (some p0),.int .i64 p1] w K:=z0z (by kernel_rfl) Tryz.func48 (p:=pl48) (Eq.mpr (by kernel_rfl) h)
def C47 (p0:Addr) (p1:Int) (w:World) (K:Value→World→Prop):Prop:=
 LdK (.int .u64) (p0.add 3) w (fun (x1:Int)=>StK (p0.add 3) (.int .u64 (IntKind.u64.wrap ((BitVec.ofInt 64 x1 ^^^ BitVec.ofInt 64 p1).toNat:Int))) w (fun w2=>CallK Tryz.prog 48 #[.pointer (some p0),.int .i64 2] w2 (.tup []) (fun (x3:Unit) w4=>LdK (.int .u64) (p0.add 0) w4 (fun (x5:Int)=>StK (p0.add 0) (.int .u64 (IntKind.u64.wrap ((BitVec.ofInt 64 x5 ^^^ BitVec.ofInt 64 p1).toNat:Int))) w4 (fun w6=>K (.tuple #[]) w6)))))
def pl47:Plan:=.auto
theorem c47 (p0:Addr) (p1:Int) (w:World) (K:Value→World→Prop) (h:C47 p0 p1 w K):Ret Tryz.prog 47 #[.pointer (some p0),.int .u64 p1] w K:=z0z (by kernel_rfl) Tryz.func47 (p:=pl47) (Eq.mpr (by kernel_rfl) h)
def C46 (p0:Option Addr) (p0l p0c:Nat) (w:World) (K:Value→World→Prop):Prop:=
 LoopK (Int×Int×Unit) (fun _ s1 w2 next3=>ifB (decide (s1.2.1<(p0l:Int)))
 (IdxK p0 p0l s1.2.1 1 (fun a4=>LdK (.int .u8) a4 w2 (fun (x5:Int)=>NnK (IntKind.i64.wrap (8 * s1.2.1)) (next3 (IntKind.u64.wrap ((BitVec.ofInt 64 s1.1 ||| BitVec.ofInt 64 (IntKind.u64.wrap ((IntKind.u64.wrap x5) * 2 ^ (min (Int.toNat (IntKind.i64.wrap (8 * s1.2.1))) 64)))).toNat:Int),IntKind.i64.wrap (s1.2.1+1),()) w2))))
 (K (.int .u64 s1.1) w2))
 (0,0,()) w
def pl46:Plan:=(.seq .auto (.seq .auto (.seq (.seq .auto (.block (.loop [(3,.one (.int .u64)),(8,.one (.int .i64))] .auto))) .auto)))
theorem c46 (p0:Option Addr) (p0l p0c:Nat) (w:World) (K:Value→World→Prop) (h:C46 p0 p0l p0c w K):Ret Tryz.prog 46 #[.slice p0 p0l p0c] w K:=z0z (by kernel_rfl) Tryz.func46 (p:=pl46) (Eq.mpr (by kernel_rfl) h)
def C24 (p0:List Value) (p1:Option Addr) (p1l p1c:Nat) (w:World) (K:Value→World→Prop):Prop:=
 NewK (.cells p0.toArray 33) w (fun g1 w2=>DrewK w2 (fun w3=>HoldK (fun S4=>SubK (some (ad g1)) 16 0 8 16 1 (fun a5 l6 c7=>SubK (some (ad g1)) 16 8 16 16 1 (fun a8 l9 c10=>CallK Tryz.prog 46 #[.slice a5 l6 c7] w3 (.v (.one (.int .u64))) (fun (x11:Int) w12=>KeepK S4 w3 w12 (CallK Tryz.prog 46 #[.slice a8 l9 c10] w12 (.v (.one (.int .u64))) (fun (x13:Int) w14=>KeepK S4 w12 w14 (NewK (.cells #[.int .u64 (IntKind.u64.wrap ((BitVec.ofInt 64 x11 ^^^ BitVec.ofInt 64 8317987319222330741).toNat:Int)),.int .u64 (IntKind.u64.wrap ((BitVec.ofInt 64 x13 ^^^ BitVec.ofInt 64 7237128888997146477).toNat:Int)),.int .u64 (IntKind.u64.wrap ((BitVec.ofInt 64 x11 ^^^ BitVec.ofInt 64 7816392313619706465).toNat:Int)),.int .u64 (IntKind.u64.wrap ((BitVec.ofInt 64 x13 ^^^ BitVec.ofInt 64 8387220255154660723).toNat:Int))] 95) w14 (fun g15 w16=>NzK 8 (LoopK (Int×Unit) (fun _ s17 w18 next19=>ifB (decide (s17.1<(IntKind.i64.wrap ((IntKind.i64.wrap (Int.tdiv (p1l:Int) 8)) * 8))))
 (SubK p1 p1c s17.1 (IntKind.i64.wrap (s17.1+8)) p1c 1 (fun a20 l21 c22=>CallK Tryz.prog 46 #[.slice a20 l21 c22] w18 (.v (.one (.int .u64))) (fun (x23:Int) w24=>CallK Tryz.prog 47 #[.pointer (some (ad g15)),.int .u64 x23] w24 (.tup []) (fun (x25:Unit) w26=>next19 (IntKind.i64.wrap (s17.1+8),()) w26))))
 (SubK p1 p1c (IntKind.i64.wrap ((IntKind.i64.wrap (Int.tdiv (p1l:Int) 8)) * 8)) p1l p1c 1 (fun a27 l28 c29=>CallK Tryz.prog 46 #[.slice a27 l28 c29] w18 (.v (.one (.int .u64))) (fun (x30:Int) w31=>NnK 56 (CallK Tryz.prog 47 #[.pointer (some (ad g15)),.int .u64 (IntKind.u64.wrap ((BitVec.ofInt 64 x30 ||| BitVec.ofInt 64 (IntKind.u64.wrap ((IntKind.u64.wrap (p1l:Int)) * 2 ^ (min (Int.toNat 56) 64)))).toNat:Int))] w31 (.tup []) (fun (x32:Unit) w33=>LdK (.int .u64) ((ad g15).add 2) w33 (fun (x34:Int)=>StK ((ad g15).add 2) (.int .u64 (IntKind.u64.wrap ((BitVec.ofInt 64 x34 ^^^ BitVec.ofInt 64 255).toNat:Int))) w33 (fun w35=>CallK Tryz.prog 48 #[.pointer (some (ad g15)),.int .i64 4] w35 (.tup []) (fun (x36:Unit) w37=>DrewK w37 (fun w38=>LdK (.int .u64) ((ad g15).add 0) w38 (fun (x39:Int)=>LdK (.int .u64) ((ad g15).add 1) w38 (fun (x40:Int)=>LdK (.int .u64) ((ad g15).add 2) w38 (fun (x41:Int)=>LdK (.int .u64) ((ad g15).add 3) w38 (fun (x42:Int)=>K (.int .u64 (IntKind.u64.wrap ((BitVec.ofInt 64 (IntKind.u64.wrap ((BitVec.ofInt 64 (IntKind.u64.wrap ((BitVec.ofInt 64 x39 ^^^ BitVec.ofInt 64 x40).toNat:Int)) ^^^ BitVec.ofInt 64 x41).toNat:Int)) ^^^ BitVec.ofInt 64 x42).toNat:Int))) w38))))))))))))))
 (0,()) w16)))))))))))
def pl24:Plan:=(.seq .auto (.seq (.held (.soft 0 (.soft 2 (.pick 1 (.pick 3 (.soft 4 (.soft 5 .done)) .stop) .stop)))) (.seq .auto (.seq .auto (.seq (.seq .auto (.block (.loop [(9,.one (.int .i64))] .auto))) (.seq .auto (.seq .auto (.seq .auto (.seq .still .auto)))))))))
theorem c24 (p0:List Value) (p1:Option Addr) (p1l p1c:Nat) (w:World) (K:Value→World→Prop) (h:C24 p0 p1 p1l p1c w K):Ret Tryz.prog 24 #[.agg p0.toArray,.slice p1 p1l p1c] w K:=z0z (by kernel_rfl) Tryz.func24 (p:=pl24) (Eq.mpr (by kernel_rfl) h)
def C31 (p0:Int) (w:World) (K:Value→World→Prop):Prop:=
 RunK Tryz.prog (Instr.makeSlice 22 (.int .i64 8) (.int .i64 8)) w (.v (.one .slc)) (fun (x1:SlT) w2=>LoopK (Int×Unit) (fun _ s3 w4 next5=>ifB (decide (s3.1<(x1.2.1:Int)))
 (NnK (IntKind.i64.wrap (8 * s3.1)) (IdxK x1.1 x1.2.1 s3.1 1 (fun a6=>StK a6 (.int .u8 (IntKind.u8.wrap (Int.fdiv p0 (2 ^ (min (Int.toNat (IntKind.i64.wrap (8 * s3.1))) 64))))) w4 (fun w7=>next5 (IntKind.i64.wrap (s3.1+1),()) w7))))
 (K (.slice x1.1 x1.2.1 x1.2.2) w4))
 (0,()) w2)
def pl31:Plan:=(.seq .auto (.seq .auto (.seq (.seq .auto (.block (.loop [(8,.one (.int .i64))] .auto))) .auto)))
theorem c31 (p0:Int) (w:World) (K:Value→World→Prop) (h:C31 p0 w K):Ret Tryz.prog 31 #[.int .u64 p0] w K:=z0z (by kernel_rfl) Tryz.func31 (p:=pl31) (Eq.mpr (by kernel_rfl) h)
def C23 (p0:Option Addr) (p0l p0c:Nat) (w:World) (K:Value→World→Prop):Prop:=
 ifB ((p0l:Int) != 8)
 (K (.tuple #[.int .u64 0,.bool false]) w)
 (CallK Tryz.prog 46 #[.slice p0 p0l p0c] w (.v (.one (.int .u64))) (fun (x1:Int) w2=>K (.tuple #[.int .u64 x1,.bool true]) w2))
def pl23:Plan:=.auto
theorem c23 (p0:Option Addr) (p0l p0c:Nat) (w:World) (K:Value→World→Prop) (h:C23 p0 p0l p0c w K):Ret Tryz.prog 23 #[.slice p0 p0l p0c] w K:=z0z (by kernel_rfl) Tryz.func23 (p:=pl23) (Eq.mpr (by kernel_rfl) h)
def C39 (p0:Option Addr) (p0l p0c:Nat) (p1:Option Addr) (p1l p1c:Nat) (w:World) (K:Value→World→Prop):Prop:=
 CallK Tryz.prog 41 #[.slice p0 p0l p0c,.slice p1 p1l p1c] w (.v (.one .bool)) (fun (x1:Bool) w2=>K (.bool x1) w2)
def pl39:Plan:=.auto
theorem c39 (p0:Option Addr) (p0l p0c:Nat) (p1:Option Addr) (p1l p1c:Nat) (w:World) (K:Value→World→Prop) (h:C39 p0 p0l p0c p1 p1l p1c w K):Ret Tryz.prog 39 #[.slice p0 p0l p0c,.slice p1 p1l p1c] w K:=z0z (by kernel_rfl) Tryz.func39 (p:=pl39) (Eq.mpr (by kernel_rfl) h)
namespace Vc
theorem AixK.of {b n:Nat} {i:Int} {K:Addr→Prop} (h0:0≤i) (h1:i<n) (k:K ⟨b,i.toNat,none⟩):AixK ⟨b,0,none⟩ n i 1 K:=
 ⟨h0,h1,by rw [z2z,Nat.zero_add,Nat.mul_one];exact k⟩
theorem LdaK.of {w:World} {b n:Nat} {cs:List Value} {T:TypeId} {fr:Nat×Nat} (hb:w.heap[b]? = some (.cells cs.toArray T fr)) (hn:cs.length=n) {K:List Value→Prop} (k:K cs):LdaK n ⟨b,0,none⟩ w K:=
 ⟨cs,hn,z12z hb _ 0 fun j _=>by simp,k⟩
end Vc
def sipC (s:SipS):Array Value:=#[.int .u64 s.1,.int .u64 s.2.1,.int .u64 s.2.2.1,.int .u64 s.2.2.2]
def IsSt (w:World) (b:Nat) (s:SipS):Prop:=w.heap[b]? = some (.cells (sipC s) 95 (0,0))
theorem rotl_spec (x k:Int) (hk:k=13∨k=16∨k=17∨k=21∨k=32) (w:World):Ret Tryz.prog 108 #[.int .u64 x,.int .i64 k] w fun r w'=>r=.int .u64 (rotU x k.toNat)∧w=w':=by
 refine c108 x k w _ ?_
 unfold C108 rotU
 have e1:IntKind.u64.wrap ((BitVec.ofInt 64 (IntKind.u64.wrap k) &&& BitVec.ofInt 64 63).toNat:Int)=k:=by rcases hk with rfl | rfl | rfl | rfl | rfl<;>decide
 have e2:IntKind.u64.wrap (64 - k)=64 - k:=by rcases hk with rfl | rfl | rfl | rfl | rfl<;>decide
 have e3:Int.toNat (64 - k)=64 - k.toNat:=by rcases hk with rfl | rfl | rfl | rfl | rfl<;>decide
 rw [e1,e2,e3]
 exact ⟨by rcases hk with rfl | rfl | rfl | rfl | rfl<;>decide,by rcases hk with rfl | rfl | rfl | rfl | rfl<;>decide,rfl,rfl⟩
theorem rotK (x k:Int) (hk:k=13∨k=16∨k=17∨k=21∨k=32) (w:World) {K:Int→World→Prop} (h:K (rotU x k.toNat) w):CallK Tryz.prog 108 #[.int .u64 x,.int .i64 k] w (.v (.one (.int .u64))) (fun (y:Int) w'=>K y w'):=by
 refine CallK.of (rotl_spec x k hk w) ?_
 rintro _ _ ⟨rfl,rfl⟩
 exact ⟨_,rfl,h⟩
theorem IsSt.ld {w:World} {b:Nat} {s:SipS} (h:IsSt w b s) {o:Nat} {x:Int} (hx:(sipC s)[o]? = some (.int .u64 x)) {K:Int→Prop} (k:K x):LdK (.int .u64) ((⟨b,0,none⟩:Addr).add o) w K:=LdK.fld h (x:=x) (by rw [Nat.zero_add];exact hx) k
theorem IsSt.st {w:World} {b:Nat} {s s':SipS} (h:IsSt w b s) {o:Nat} {x:Int} (ho:o<4) (hs:(sipC s).setIfInBounds o (.int .u64 x)=sipC s') {K:World→Prop} (k:∀ w1,IsSt w1 b s'→Fr (only b) w w1→K w1):StK ((⟨b,0,none⟩:Addr).add o) (.int .u64 x) w K:=
 StK.fld h (by show 0+o<4;omega) rfl fun w1 hb f _=>k w1 (by unfold IsSt;rw [hb,Nat.zero_add,hs]) f
theorem IsSt.keep0 {w w':World} {b:Nat} {s:SipS} (h:IsSt w b s) (f:Fr none1 w w'):IsSt w' b s:=f.keep0 h
theorem sround_spec {w:World} {b:Nat} {s:SipS} (h:IsSt w b s):Ret Tryz.prog 78 #[.pointer (some ⟨b,0,none⟩)] w fun r w'=>r=.tuple #[]∧IsSt w' b (roundI s)∧Fr (only b) w w':=by
 refine c78 _ w _ ?_
 unfold C78
 obtain ⟨a0,a1,a2,a3⟩:=s
 refine DrewK.of fun w1 _ f1=>?_
 have h:=h.keep0 f1
 refine h.ld rfl (h.ld rfl (h.st (s':=(addU a0 a1,a1,a2,a3)) (by decide) rfl fun w2 h f2=>?_))
 have F:=(Fr.of0 f1 f2)
 refine DrewK.of fun w3 _ f3=>HoldK.all (InK.all (IsSt.ld (h.keep0 f3) rfl (InK.all (IsSt.ld (h.keep0 f3) rfl ?_))))
 have h:=h.keep0 f3
 have F:=F.then0 f3
 refine rotK _ 13 (by decide) _ (KeepK.same (h.st (s':=(addU a0 a1,xorU (rotU a1 13) (addU a0 a1),a2,a3)) (by decide) rfl fun w4 h f4=>?_))
 have F:=F.trans f4
 refine h.ld rfl (rotK _ 32 (by decide) _ (h.st (s':=(rotU (addU a0 a1) 32,xorU (rotU a1 13) (addU a0 a1),a2,a3)) (by decide) rfl fun w5 h f5=>?_))
 have F:=F.trans f5
 have e:roundI (a0,a1,a2,a3)=(addU (rotU (addU a0 a1) 32) (xorU (rotU a3 16) (addU a2 a3)),xorU (rotU (xorU (rotU a1 13) (addU a0 a1)) 17) (addU (addU a2 a3) (xorU (rotU a1 13) (addU a0 a1))),rotU (addU (addU a2 a3) (xorU (rotU a1 13) (addU a0 a1))) 32,xorU (rotU (xorU (rotU a3 16) (addU a2 a3)) 21) (addU (rotU (addU a0 a1) 32) (xorU (rotU a3 16) (addU a2 a3)))):=rfl
 rw [e]
 generalize xorU (rotU a1 13) (addU a0 a1)=b1 at *
 generalize rotU (addU a0 a1) 32=b0 at *
 refine DrewK.of fun w6 _ f6=>?_
 have h:=h.keep0 f6
 have F:=F.then0 f6
 refine h.ld rfl (h.ld rfl (h.st (s':=(b0,b1,addU a2 a3,a3)) (by decide) rfl fun w7 h f7=>?_))
 have F:=F.trans f7
 refine DrewK.of fun w8 _ f8=>HoldK.all (InK.all (IsSt.ld (h.keep0 f8) rfl (InK.all (IsSt.ld (h.keep0 f8) rfl ?_))))
 have h:=h.keep0 f8
 have F:=F.then0 f8
 refine rotK _ 16 (by decide) _ (KeepK.same (h.st (s':=(b0,b1,addU a2 a3,xorU (rotU a3 16) (addU a2 a3))) (by decide) rfl fun w9 h f9=>?_))
 have F:=F.trans f9
 generalize xorU (rotU a3 16) (addU a2 a3)=b3 at *
 generalize addU a2 a3=b2 at *
 refine DrewK.of fun w10 _ f10=>?_
 have h:=h.keep0 f10
 have F:=F.then0 f10
 refine h.ld rfl (h.ld rfl (h.st (s':=(addU b0 b3,b1,b2,b3)) (by decide) rfl fun w11 h f11=>?_))
 have F:=F.trans f11
 refine DrewK.of fun w12 _ f12=>HoldK.all (InK.all (IsSt.ld (h.keep0 f12) rfl (InK.all (IsSt.ld (h.keep0 f12) rfl ?_))))
 have h:=h.keep0 f12
 have F:=F.then0 f12
 refine rotK _ 21 (by decide) _ (KeepK.same (h.st (s':=(addU b0 b3,b1,b2,xorU (rotU b3 21) (addU b0 b3))) (by decide) rfl fun w13 h f13=>?_))
 have F:=F.trans f13
 generalize xorU (rotU b3 21) (addU b0 b3)=c3 at *
 generalize addU b0 b3=c0 at *
 refine DrewK.of fun w14 _ f14=>?_
 have h:=h.keep0 f14
 have F:=F.then0 f14
 refine h.ld rfl (h.ld rfl (h.st (s':=(c0,b1,addU b2 b1,c3)) (by decide) rfl fun w15 h f15=>?_))
 have F:=F.trans f15
 refine DrewK.of fun w16 _ f16=>HoldK.all (InK.all (IsSt.ld (h.keep0 f16) rfl (InK.all (IsSt.ld (h.keep0 f16) rfl ?_))))
 have h:=h.keep0 f16
 have F:=F.then0 f16
 refine rotK _ 17 (by decide) _ (KeepK.same (h.st (s':=(c0,xorU (rotU b1 17) (addU b2 b1),addU b2 b1,c3)) (by decide) rfl fun w17 h f17=>?_))
 have F:=F.trans f17
 refine h.ld rfl (rotK _ 32 (by decide) _ (h.st (s':=(c0,xorU (rotU b1 17) (addU b2 b1),rotU (addU b2 b1) 32,c3)) (by decide) rfl fun w18 h f18=>?_))
 exact ⟨rfl,h,F.trans f18⟩
theorem rounds_spec {w:World} {b:Nat} {s:SipS} (h:IsSt w b s) (n:Nat) (hn:n≤100):Ret Tryz.prog 48 #[.pointer (some ⟨b,0,none⟩),.int .i64 (n:Int)] w fun r w'=>r=.tuple #[]∧IsSt w' b (roundsN n s)∧Fr (only b) w w':=by
 refine c48 _ _ w _ ?_
 unfold C48
 refine LoopK.of (fun st w'=>∃ i:Nat,st.1=i∧i≤n∧IsSt w' b (roundsN i s)∧Fr (only b) w w') (fun st _=>(n - st.1).toNat) ⟨0,rfl,by omega,h,Fr.refl _ _⟩ ?_
 rintro _ ⟨i',_⟩ w1 ⟨i,hi,hin,h1,f1⟩
 dsimp only at hi ⊢
 subst hi
 refine ifB.dec (fun hlt=>?_) (fun hge=>?_)
 ·refine CallK.of (sround_spec h1) ?_
  rintro _ w2 ⟨rfl,h2,f2⟩
  refine ⟨(),rfl,?_⟩
  rw [wI (by omega) (by omega)]
  exact ⟨⟨i+1,by omega,by omega,h2,f1.trans f2⟩,by omega⟩
 ·obtain rfl:i=n:=by omega
  exact ⟨rfl,h1,f1⟩
theorem absorb_spec {w:World} {b:Nat} {s:SipS} (h:IsSt w b s) (m:Int):Ret Tryz.prog 47 #[.pointer (some ⟨b,0,none⟩),.int .u64 m] w fun r w'=>r=.tuple #[]∧IsSt w' b (absI m s)∧Fr (only b) w w':=by
 refine c47 _ _ w _ ?_
 unfold C47 absI
 obtain ⟨a0,a1,a2,a3⟩:=s
 refine h.ld rfl (h.st (s':=(a0,a1,a2,xorU a3 m)) (by decide) rfl fun w1 h1 f1=>?_)
 refine CallK.of (rounds_spec h1 2 (by decide)) ?_
 rintro _ w2 ⟨rfl,h2,f2⟩
 refine ⟨(),rfl,?_⟩
 dsimp only
 generalize roundsN 2 (a0,a1,a2,xorU a3 m)=t at *
 obtain ⟨t0,t1,t2,t3⟩:=t
 refine h2.ld rfl (h2.st (s':=(xorU t0 m,t1,t2,t3)) (by decide) rfl fun w3 h3 f3=>?_)
 exact ⟨rfl,h3,(f1.trans f2).trans f3⟩
theorem slow_spec {w:World} {v:Sl} {bs:List UInt8} (h:RdB w v bs) (hl:bs.length≤8):Ret Tryz.prog 46 #[.slice v.1 v.2.1 v.2.2] w fun r w'=>r=.int .u64 (lowL bs:Int)∧w=w':=by
 refine c46 v.1 v.2.1 v.2.2 w _ ?_
 unfold C46
 have hvl:=h.len
 refine LoopK.of (fun s w'=>∃ i:Nat,s.2.1=i∧i≤bs.length∧s.1=(lowL (bs.take i):Int)∧w=w') (fun s _=>(bs.length - s.2.1).toNat) ⟨0,rfl,by omega,rfl,rfl⟩ ?_
 rintro _ ⟨m,i',_⟩ _ ⟨i,hi,hil,hm,rfl⟩
 dsimp only at hi hm ⊢
 subst hi hm
 refine ifB.dec (fun hlt=>?_) (fun hge=>?_)
 ·refine RdB.at h (by omega) hlt ?_
  rw [wI (x:=8 * (i:Int)) (by omega) (by omega),wI (x:=(i:Int)+1) (by omega) (by omega)]
  refine ⟨by omega,⟨i+1,by omega,by omega,?_,rfl⟩,by omega⟩
  have hi8:i<8:=by omega
  have hb:=(bs.getD i 0).toNat_lt
  have hlow:=low_lt (bs.take i)
  rw [List.length_take,Nat.min_eq_left (by omega)] at hlow
  have hp:256 ^ i=2 ^ (8 * i):=by rw [show (256:Nat)=2 ^ 8 by decide,← Nat.pow_mul]
  have hp8:256 ^ i≤72057594037927936:=by
   have:(72057594037927936:Nat)=256 ^ 7:=by decide
   rw [this];exact Nat.pow_le_pow_right (by decide) (by omega)
  have hpb:256 ^ i * (bs.getD i 0).toNat<18446744073709551616:=by
   have h1:256 ^ i * (bs.getD i 0).toNat≤256 ^ i * 255:=Nat.mul_le_mul_left _ (by omega)
   have h2:256 ^ i * 255≤72057594037927936 * 255:=Nat.mul_le_mul_right _ hp8
   omega
  rw [Int.toNat_natCast,low_take bs i (by omega),wrapU_nat (bs.getD i 0).toNat,Nat.mod_eq_of_lt (show (bs.getD i 0).toNat<18446744073709551616 by omega),show Int.toNat (8 * (i:Int))=8 * i by omega,shl_nat _ (8 * i) (by omega),
   ← hp,Nat.mul_comm (bs.getD i 0).toNat,Nat.mod_eq_of_lt hpb,or_nat _ _ (by omega) hpb]
  congr 1
  rw [hp,Nat.mul_comm,← Nat.shiftLeft_eq,Nat.or_comm,← Nat.shiftLeft_add_eq_or_of_lt (by rw [← hp];exact hlow),Nat.shiftLeft_eq]
  omega
 ·rw [List.take_of_length_le (by omega)];exact ⟨rfl,rfl⟩
def keyL (kb:List UInt8):List Value:=kb.map bc
theorem key_rd {w:World} {g:Nat} {kb:List UInt8} {T:TypeId} {fr:Nat×Nat} (hb:w.heap[g]? = some (.cells (keyL kb).toArray T fr)) (hk:kb.length=16):RdB w (some ⟨g,0,none⟩,16,16) kb:=by
 refine ⟨by simp [hk],(fun t=>nomatch t),fun a ha=>?_⟩
 injection ha with ha
 subst ha
 exact z12z hb _ 0 fun j _=>by simp [keyL]
theorem key_lo {w:World} {g:Nat} {kb:List UInt8} (hk:kb.length=16) (h:RdB w (some ⟨g,0,none⟩,16,16) kb) {K:Option Addr→Nat→Nat→Prop} (k:RdB w (some ⟨g,0,none⟩,8,16) (kb.take 8)→K (some ⟨g,0,none⟩) 8 16) :
  SubK (some ⟨g,0,none⟩) 16 0 8 16 1 K:=by
 refine ⟨by decide,by decide,by decide,by decide,?_⟩
 have e:(if (16:Int)=0 then some (⟨g,0,none⟩:Addr) else (some (⟨g,0,none⟩:Addr)).map (·.add ((0:Int).toNat * 1)))=some ⟨g,0,none⟩:=by
  rw [if_neg (by decide),Option.map_some,z2z];rfl
 rw [e]
 refine k ⟨by simp [hk],(fun t=>nomatch t),fun a ha=>?_⟩
 rw [List.map_take]
 exact z28z _ 0 8 (h.2.2 a ha)
theorem key_hi {w:World} {g:Nat} {kb:List UInt8} (hk:kb.length=16) (h:RdB w (some ⟨g,0,none⟩,16,16) kb) {K:Option Addr→Nat→Nat→Prop} (k:RdB w (some ⟨g,8,none⟩,8,8) (kb.drop 8)→K (some ⟨g,8,none⟩) 8 8) :
  SubK (some ⟨g,0,none⟩) 16 8 16 16 1 K:=by
 refine ⟨by decide,by decide,by decide,by decide,?_⟩
 have e:(if (16:Int)=8 then some (⟨g,0,none⟩:Addr) else (some (⟨g,0,none⟩:Addr)).map (·.add ((8:Int).toNat * 1)))=some ⟨g,8,none⟩:=by
  rw [if_neg (by decide),Option.map_some,z2z];rfl
 rw [e]
 refine k ⟨by simp [hk],(fun t=>nomatch t),fun a ha=>?_⟩
 injection ha with ha
 subst ha
 have h8:=cellsAt_drop 8 _ 0 (h.2.2 ⟨g,0,none⟩ rfl)
 have:=z10z (m:=8) _ 0 h8
 rw [z2z,Nat.zero_add] at this
 rw [List.map_drop]
 exact this
theorem sip_spec {w:World} {v:Sl} {kb bs:List UInt8} (hk:kb.length=16) (h:RdB w v bs) (hc:v.2.1≤v.2.2) (hl:bs.length≤140737488355300):Ret Tryz.prog 24 #[.agg (keyL kb).toArray,.slice v.1 v.2.1 v.2.2] w fun r w'=>r=.int .u64 (sumI kb bs)∧Fr none1 w w':=by
 refine c24 (keyL kb) v.1 v.2.1 v.2.2 w _ ?_
 unfold C24
 have hvl:=h.len
 refine NewK.of fun g1 w1 hg1 hb1 f1 _=>DrewK.of fun w2 _ f2=>HoldK.all ?_
 have f12:=f1.trans f2
 have hK:=key_rd (f2.keep0 hb1) hk
 refine key_lo hk hK fun hA=>key_hi hk hK fun hu=>?_
 refine CallK.of (slow_spec (v:=(some ⟨g1,0,none⟩,8,16)) hA (by rw [List.length_take];omega)) ?_
 rintro _ _ ⟨rfl,rfl⟩
 refine ⟨_,rfl,KeepK.same ?_⟩
 refine CallK.of (slow_spec (v:=(some ⟨g1,8,none⟩,8,8)) hu (by rw [List.length_drop];omega)) ?_
 rintro _ _ ⟨rfl,rfl⟩
 refine ⟨_,rfl,KeepK.same ?_⟩
 refine NewK.of fun b w3 hb hb3 f3 _=>⟨by decide,?_⟩
 have S3:IsSt w3 b (initI kb):=hb3
 have f13:=f12.trans f3
 have hdv:((v.2.1:Int).tdiv 8)=((bs.length / 8:Nat):Int):=by rw [Int.tdiv_eq_ediv_of_nonneg (by omega)];omega
 rw [hdv,wI (x:=((bs.length / 8:Nat):Int)) (by omega) (by omega),wI (x:=((bs.length / 8:Nat):Int) * 8) (by omega) (by omega)]
 unfold sumI
 generalize initI kb=s0 at *
 have f03:=f13.size
 refine LoopK.of (fun st w'=>∃ i:Nat,st.1=8 * (i:Int)∧i≤bs.length / 8∧IsSt w' b (blocksI bs s0 i)∧Fr (only b) w3 w') (fun st _=>(8 * (bs.length / 8:Nat) - st.1).toNat) ⟨0,rfl,by omega,S3,Fr.refl _ _⟩ ?_
 rintro _ ⟨i',_⟩ w4 ⟨i,hi,hil,S4,f4⟩
 dsimp only at hi ⊢
 subst hi
 have hs2:=f12.size
 have h4:RdB w4 v bs:=(h.keep0 f13).keepE f4 fun hn k hk t=>by have:=h.ltE hn hk;have:k=b:=t;omega
 refine ifB.dec (fun hlt=>?_) (fun hge=>?_)
 ·rw [wI (x:=8 * (i:Int)+8) (by omega) (by omega)]
  refine RdB.mid h4 (by omega) (by omega) (by omega) hc fun u hu _ _ _=>?_
  rw [show (8 * (i:Int)).toNat=8 * i by omega,show (8 * (i:Int)+8 - 8 * (i:Int)).toNat=8 by omega] at hu
  refine CallK.of (slow_spec hu (by rw [List.length_take];omega)) ?_
  rintro _ _ ⟨rfl,rfl⟩
  refine ⟨_,rfl,?_⟩
  refine CallK.of (absorb_spec S4 _) ?_
  rintro _ w5 ⟨rfl,S5,f5⟩
  exact ⟨(),rfl,⟨i+1,by omega,by omega,S5,f4.trans f5⟩,by omega⟩
 ·obtain rfl:i=bs.length / 8:=by omega
  refine RdB.mid h4 (by omega) (by omega) (Int.le_refl _) hc fun u hu _ _ _=>?_
  rw [show (((bs.length / 8:Nat):Int) * 8).toNat=8 * (bs.length / 8) by omega,List.take_of_length_le (by rw [List.length_drop];omega)] at hu
  have hdl:(bs.drop (8 * (bs.length / 8))).length≤7:=by rw [List.length_drop];omega
  refine CallK.of (slow_spec hu (by omega)) ?_
  rintro _ _ ⟨rfl,rfl⟩
  refine ⟨_,rfl,by decide,?_⟩
  have hlow:=low_lt (bs.drop (8 * (bs.length / 8)))
  have hlow2:lowL (bs.drop (8 * (bs.length / 8)))<72057594037927936:=by
   have h2:256 ^ (bs.drop (8 * (bs.length / 8))).length≤256 ^ 7:=Nat.pow_le_pow_right (by decide) hdl
   have:(256:Nat) ^ 7=72057594037927936:=by decide
   omega
  have elast:IntKind.u64.wrap ((BitVec.ofInt 64 (lowL (bs.drop (8 * (bs.length / 8))):Int) ||| BitVec.ofInt 64 (IntKind.u64.wrap ((IntKind.u64.wrap (v.2.1:Int)) * 2 ^ (min (Int.toNat 56) 64)))).toNat:Int)=(lastL bs:Int):=by
   rw [hvl,wrapU_nat bs.length,Nat.mod_eq_of_lt (show bs.length<18446744073709551616 by omega),show Int.toNat 56=56 by rfl,shl_nat _ 56 (by decide),show bs.length * 2 ^ 56 % 18446744073709551616=bs.length % 256 * 72057594037927936 by omega,
    or_nat _ _ (by omega) (by omega)]
   congr 1
   unfold lastL
   rw [Nat.or_comm,show bs.length % 256 * 72057594037927936=(bs.length % 256) <<< 56 by rw [Nat.shiftLeft_eq],← Nat.shiftLeft_add_eq_or_of_lt (by exact hlow2)]
   omega
  rw [elast]
  refine CallK.of (absorb_spec S4 _) ?_
  rintro _ w5 ⟨rfl,S5,f5⟩
  refine ⟨(),rfl,?_⟩
  generalize absI (lastL bs:Int) (blocksI bs s0 (bs.length / 8))=t at *
  obtain ⟨t0,t1,t2,t3⟩:=t
  unfold finI
  refine S5.ld rfl (S5.st (s':=(t0,t1,xorU t2 255,t3)) (by decide) rfl fun w6 S6 f6=>?_)
  refine CallK.of (rounds_spec S6 4 (by decide)) ?_
  rintro _ w7 ⟨rfl,S7,f7⟩
  refine ⟨(),rfl,?_⟩
  dsimp only
  generalize roundsN 4 (t0,t1,xorU t2 255,t3)=q at *
  obtain ⟨q0,q1,q2,q3⟩:=q
  refine DrewK.of fun w8 _ f8=>?_
  have S8:=S7.keep0 f8
  refine S8.ld rfl (S8.ld rfl (S8.ld rfl (S8.ld rfl ?_)))
  have f38:Fr (only b) w3 w8:=((((f4.trans f5).trans f6).trans f7).then0 f8)
  exact ⟨rfl,f13.fresh f38 (by omega)⟩
theorem sbytes_spec (n:Int) (h0:0≤n) (h1:n<18446744073709551616) (w:World):Ret Tryz.prog 31 #[.int .u64 n] w fun r w'=>∃ v:Sl,r=.slice v.1 v.2.1 v.2.2∧IsB w' v (hedL n)∧Fr none1 w w'∧∀ k,blkOf v k→w.heap.size≤k:=by
 refine c31 n w _ ?_
 unfold C31
 obtain ⟨M,rfl⟩:∃ M:Nat,n=M:=⟨n.toNat,by omega⟩
 obtain ⟨w1,hr1,hx1,f1⟩:=make_full (w:=w) (n:=8) (m:=8) (by decide) (by decide) (by decide)
 refine ⟨(some ⟨w.heap.size,0,none⟩,8,8),w1,hr1,?_⟩
 have hx1:IsB w1 (some ⟨w.heap.size,0,none⟩,8,8) (List.replicate 8 0):=hx1
 have hh:hedL (M:Int)=lsb 8 M:=by unfold hedL;rw [show ((M:Int) % 18446744073709551616).toNat=M by omega]
 refine LoopK.of (fun st w'=>∃ (i:Nat) (cs:List UInt8),st.1=i∧i≤8∧IsB w' (some ⟨w.heap.size,0,none⟩,8,8) cs∧cs.length=8∧(∀ j,j<i→cs[j]? = (lsb 8 M)[j]?)∧Fr none1 w w') (fun st _=>(8 - st.1).toNat) ⟨0,_,rfl,by omega,hx1,by simp,fun j hj=>by omega,f1⟩ ?_
 rintro _ ⟨i',_⟩ w2 ⟨i,cs,hi,hil,hx2,hcl,hall,f2⟩
 dsimp only at hi ⊢
 subst hi
 refine ifB.dec (fun hlt=>?_) (fun hge=>?_)
 ·have hi8:i<8:=by omega
  rw [wI (x:=8 * (i:Int)) (by omega) (by omega),wI (x:=(i:Int)+1) (by omega) (by omega),show Int.toNat (8 * (i:Int))=8 * i by omega]
  refine ⟨by omega,?_⟩
  have hv:Value.int .u8 (IntKind.u8.wrap (Int.fdiv (M:Int) (2 ^ (min (8 * i) 64))))=bc (UInt8.ofNat (M / 256 ^ i % 256)):=by
   rw [fdiv_nat M (8 * i) (by omega),wrapB]
   unfold bc
   rw [u8_nat (Nat.mod_lt _ (by decide)),show (256:Nat) ^ i=2 ^ (8 * i) by rw [show (256:Nat)=2 ^ 8 by decide,← Nat.pow_mul]]
  rw [hv]
  refine IsSl.st (v:=(some ⟨w.heap.size,0,none⟩,8,8)) hx2 (by omega) hlt rfl fun w3 hb3 f3 _=>?_
  have hb3':IsB w3 (some ⟨w.heap.size,0,none⟩,8,8) (cs.set i (UInt8.ofNat (M / 256 ^ i % 256))):=by unfold IsB;rw [List.map_set];rw [Int.toNat_natCast] at hb3;exact hb3
  refine ⟨⟨i+1,_,by omega,by omega,hb3',by rw [List.length_set];exact hcl,fun j hj=>?_,f2.comp f3 fun k hk ⟨a,ha,e⟩=>by injection ha with ha;subst ha;dsimp only at e;omega⟩,by omega⟩
  rw [List.getElem?_set]
  by_cases hij:i=j
  ·subst hij;rw [if_pos rfl,if_pos (by omega),lsb_at 8 M i hi8]
  ·rw [if_neg hij];exact hall j (by omega)
 ·refine ⟨(some ⟨w.heap.size,0,none⟩,8,8),rfl,?_,f2,fun k ⟨a,ha,e⟩=>by injection ha with ha;subst ha;dsimp only at e;omega⟩
  have:cs=lsb 8 M:=by
   refine List.ext_getElem? fun j=>?_
   by_cases hj:j<8
   ·exact hall j (by omega)
   ·rw [List.getElem?_eq_none (by omega),List.getElem?_eq_none (by rw [lsb_len];omega)]
  rw [hh,← this];exact hx2
theorem snumber_spec {w:World} {v:Sl} {bs:List UInt8} (h:RdB w v bs):Ret Tryz.prog 23 #[.slice v.1 v.2.1 v.2.2] w fun r w'=>r=.tuple #[.int .u64 (if bs.length=8 then (lowL bs:Int) else 0),.bool (decide (bs.length=8))]∧w=w':=by
 refine c23 v.1 v.2.1 v.2.2 w _ ?_
 unfold C23
 have hvl:=h.len
 refine ifB.ne (fun hne=>?_) (fun heq=>?_)
 ·rw [if_neg (by omega),decide_eq_false (by omega)];exact ⟨rfl,rfl⟩
 ·rw [if_pos (by omega),decide_eq_true (by omega)]
  refine CallK.of (slow_spec h (by omega)) ?_
  rintro _ _ ⟨rfl,rfl⟩
  exact ⟨_,rfl,rfl,rfl⟩
theorem ssame_spec {w:World} {v u:Sl} {bs cs:List UInt8} (h:RdB w v bs) (h':RdB w u cs):Ret Tryz.prog 39 #[.slice v.1 v.2.1 v.2.2,.slice u.1 u.2.1 u.2.2] w fun r w'=>r=.bool (bs==cs)∧w=w':=by
 refine c39 v.1 v.2.1 v.2.2 u.1 u.2.1 u.2.2 w _ ?_
 unfold C39
 refine CallK.of (bequal_spec h h') ?_
 rintro _ _ ⟨rfl,rfl⟩
 exact ⟨_,rfl,rfl,rfl⟩
theorem nil_neq {t:TypeId} (ht:∃ ms,Tryz.prog.underlying t=some (.interface ms)) (o:Operand) {v:Value} (hv:ifcT v) (w:World) :
  (do eqGuard .neq t o (.const .nilIface) v .nilIface;binOp .neq t v .nilIface:Sem Value).run Tryz.prog w=.ok (.bool (!nilT v)) w:=by
 obtain ⟨ms,ht⟩:=ht
 rcases hv with rfl | ⟨u,x,rfl⟩
 ·have h1:(eqGuard .neq t o (.const .nilIface) .nilIface .nilIface).run Tryz.prog w=.ok () w:=by
   unfold eqGuard
   simp
  rw [Sem.run_bind,h1,Result.andThen_ok]
  have h2:(Op.equalIn (9999+1) t .nilIface .nilIface).run Tryz.prog w=.ok true w:=by
   unfold Op.equalIn
   simp only [Sem.run_bind,under ht,Result.andThen_ok,Sem.run_pure]
  show (do pure (Value.bool (!(← Op.equalIn (9999+1) t .nilIface .nilIface))):Sem Value).run Tryz.prog w=_
  rw [Sem.run_bind,h2]
  rfl
 ·have h1:(eqGuard .neq t o (.const .nilIface) (.iface u x) .nilIface).run Tryz.prog w=.ok () w:=by
   unfold eqGuard
   rfl
  rw [Sem.run_bind,h1,Result.andThen_ok]
  have h2:(Op.equalIn (9999+1) t (.iface u x) .nilIface).run Tryz.prog w=.ok false w:=by
   unfold Op.equalIn
   simp only [Sem.run_bind,under ht,Result.andThen_ok,Sem.run_pure]
  show (do pure (Value.bool (!(← Op.equalIn (9999+1) t (.iface u x) .nilIface))):Sem Value).run Tryz.prog w=_
  rw [Sem.run_bind,h2]
  rfl
theorem ifc_term:∃ ms,Tryz.prog.underlying 34=some (.interface ms):=⟨_,Tryz.underlying34⟩
def C32 (p0:Int) (w:World) (K:Value→World→Prop):Prop:=
 ifB (decide (p0 ≥ 0))
 (K (.bool (decide (p0≤2147483647))) w)
 (K (.bool false) w)
def pl32:Plan:=.auto
theorem c32 (p0:Int) (w:World) (K:Value→World→Prop) (h:C32 p0 w K):Ret Tryz.prog 32 #[.int .i64 p0] w K:=z0z (by kernel_rfl) Tryz.func32 (p:=pl32) (Eq.mpr (by kernel_rfl) h)
def C34 (p0:YZ14) (w:World) (K:Value→World→Prop):Prop:=
 NewK (.cells ((LZ14 p0).toArray) 36) w (fun g1 w2=>LdK .raw ((ad g1).add 7) w2 (fun (x3:Value)=>RunK Tryz.prog (do eqGuard .eql 34 (.tmp 4) (.const .nilIface) x3 .nilIface;binOp .eql 34 x3 .nilIface) w2 (.v (.one .bool)) (fun (x4:Bool) w5=>ifB x4
 (LdK (.int .i64) ((ad g1).add 0) w5 (fun (x6:Int)=>ifB (x6==0)
 (LdK .str ((ad g1).add 1) w5 (fun (x7:ByteArray)=>ifB (x7.toList==(⟨#[]⟩:ByteArray).toList)
 (LdK .str ((ad g1).add 2) w5 (fun (x8:ByteArray)=>ifB (x8.toList==(⟨#[]⟩:ByteArray).toList)
 (LdK .str ((ad g1).add 3) w5 (fun (x9:ByteArray)=>ifB (x9.toList==(⟨#[]⟩:ByteArray).toList)
 (LdK .str ((ad g1).add 4) w5 (fun (x10:ByteArray)=>ifB (x10.toList==(⟨#[]⟩:ByteArray).toList)
 (LdK (.int .i64) ((ad g1).add 5) w5 (fun (x11:Int)=>ifB (x11==0)
 (LdK (.int .i64) ((ad g1).add 6) w5 (fun (x12:Int)=>K (.bool (x12==0)) w5))
 (K (.bool false) w5)))
 (K (.bool false) w5)))
 (K (.bool false) w5)))
 (K (.bool false) w5)))
 (K (.bool false) w5)))
 (K (.bool false) w5)))
 (K (.bool false) w5))))
def pl34:Plan:=.auto
theorem c34 (p0:YZ14) (w:World) (K:Value→World→Prop) (h:C34 p0 w K):Ret Tryz.prog 34 #[.agg (LZ14 p0).toArray] w K:=z0z (by kernel_rfl) Tryz.func34 (p:=pl34) (Eq.mpr (by kernel_rfl) h)
def C9 (p0:YZ18) (w:World) (K:Value→World→Prop):Prop:=
 NewK (.cells ((LZ18 p0).toArray) 38) w (fun g1 w2=>JoinK (Bool×Unit) (fun J3=>LdK (.int .i64) ((ad g1).add 0) w2 (fun (x6:Int)=>ifB (x6 != 0)
 (LdK (.int .i64) ((ad g1).add 0) w2 (fun (x7:Int)=>ifB (x7 != 1)
 (J3 (true,()) w2)
 (LdK (.int .i64) ((ad g1).add 1) w2 (fun (x8:Int)=>CallK Tryz.prog 32 #[.int .i64 x8] w2 (.v (.one .bool)) (fun (x9:Bool) w10=>ifB (!x9)
 (J3 (true,()) w10)
 (LdK (.int .i64) ((ad g1).add 2) w10 (fun (x11:Int)=>CallK Tryz.prog 32 #[.int .i64 x11] w10 (.v (.one .bool)) (fun (x12:Bool) w13=>ifB (!x12)
 (J3 (true,()) w13)
 (LdK (.int .i64) ((ad g1).add 4) w13 (fun (x14:Int)=>CallK Tryz.prog 32 #[.int .i64 x14] w13 (.v (.one .bool)) (fun (x15:Bool) w16=>J3 ((!x15),()) w16)))))))))))
 (LdK (.int .i64) ((ad g1).add 1) w2 (fun (x17:Int)=>CallK Tryz.prog 32 #[.int .i64 x17] w2 (.v (.one .bool)) (fun (x18:Bool) w19=>ifB (!x18)
 (J3 (true,()) w19)
 (LdK (.int .i64) ((ad g1).add 2) w19 (fun (x20:Int)=>CallK Tryz.prog 32 #[.int .i64 x20] w19 (.v (.one .bool)) (fun (x21:Bool) w22=>ifB (!x21)
 (J3 (true,()) w22)
 (LdK (.int .i64) ((ad g1).add 4) w22 (fun (x23:Int)=>CallK Tryz.prog 32 #[.int .i64 x23] w22 (.v (.one .bool)) (fun (x24:Bool) w25=>J3 ((!x24),()) w25)))))))))))
 (fun _ s4 w5=>ifB s4.1
 (K (.int .i64 1) w5)
 (JoinK (Bool×Unit) (fun J26=>LdK (.int .i64) ((ad g1).add 3) w5 (fun (x29:Int)=>ifB (decide (x29<1))
 (J26 (true,()) w5)
 (LdK (.int .i64) ((ad g1).add 3) w5 (fun (x30:Int)=>ifB (decide (x30 > 4))
 (J26 (true,()) w5)
 (LdK .bool ((ad g1).add 6) w5 (fun (x31:Bool)=>ifB x31
 (LdK (.int .i64) ((ad g1).add 3) w5 (fun (x32:Int)=>ifB (x32==1)
 (J26 (true,()) w5)
 (LdK (.int .i64) ((ad g1).add 3) w5 (fun (x33:Int)=>J26 ((x33==3),()) w5))))
 (J26 (false,()) w5)))))))
 (fun _ s27 w28=>ifB s27.1
 (K (.int .i64 1) w28)
 (LdK (.int .i64) ((ad g1).add 3) w28 (fun (x34:Int)=>ifB (x34==1)
 (LdsK KZ14 ((ad g1).add 7) w28 (fun (x35:YZ14)=>CallK Tryz.prog 33 #[.agg (LZ14 x35).toArray] w28 (.v (.one (.int .i64))) (fun (x36:Int) w37=>K (.int .i64 x36) w37)))
 (LdsK KZ14 ((ad g1).add 7) w28 (fun (x38:YZ14)=>CallK Tryz.prog 34 #[.agg (LZ14 x38).toArray] w28 (.v (.one .bool)) (fun (x39:Bool) w40=>ifB (!x39)
 (K (.int .i64 1) w40)
 (K (.int .i64 0) w40))))))))))
def pl9:Plan:=(.seq .auto (.seq (.block (.join [(3,.one .bool)] .auto (.cond .auto (.join [(30,.one .bool)] .auto .auto)))) .auto))
theorem c9 (p0:YZ18) (w:World) (K:Value→World→Prop) (h:C9 p0 w K):Ret Tryz.prog 9 #[.agg (LZ18 p0).toArray] w K:=z0z (by kernel_rfl) Tryz.func9 (p:=pl9) (Eq.mpr (by kernel_rfl) h)
def C58 (p0:Bool) (w:World) (K:Value→World→Prop):Prop:=
 ifB p0
 (K (.int .u8 1) w)
 (K (.int .u8 0) w)
def pl58:Plan:=.auto
theorem c58 (p0:Bool) (w:World) (K:Value→World→Prop) (h:C58 p0 w K):Ret Tryz.prog 58 #[.bool p0] w K:=z0z (by kernel_rfl) Tryz.func58 (p:=pl58) (Eq.mpr (by kernel_rfl) h)
def C30 (p0:YZ18) (w:World) (K:Value→World→Prop):Prop:=
 NewK (.cells ((LZ18 p0).toArray) 38) w (fun g1 w2=>LdsK KZ18 (ad g1) w2 (fun (x3:YZ18)=>CallK Tryz.prog 9 #[.agg (LZ18 x3).toArray] w2 (.v (.one (.int .i64))) (fun (x4:Int) w5=>ifB (x4 != 0)
 (K (.tuple #[.slice none 0 0,.int .i64 x4]) w5)
 (LdK (.int .i64) ((ad g1).add 0) w5 (fun (x6:Int)=>RunK Tryz.prog (Instr.buildSlice 22 1 #[(0,.int .u8 (IntKind.u8.wrap x6))]) w5 (.v (.one .slc)) (fun (x7:SlT) w8=>DrewK w8 (fun w9=>HoldK (fun S10=>InK S10 ((ad g1).add 1) (LdK (.int .i64) ((ad g1).add 1) w9 (fun (x11:Int)=>InK S10 ((ad g1).add 2) (LdK (.int .i64) ((ad g1).add 2) w9 (fun (x12:Int)=>CallK Tryz.prog 57 #[.int .i64 x11] w9 (.v (.one .slc)) (fun (x13:SlT) w14=>KeepK S10 w9 w14 (RunK Tryz.prog (Builtin.append_ #[22,22] 22 #[.slice x7.1 x7.2.1 x7.2.2,.slice x13.1 x13.2.1 x13.2.2]) w14 (.v (.one .slc)) (fun (x15:SlT) w16=>KeepK S10 w14 w16 (CallK Tryz.prog 57 #[.int .i64 x12] w16 (.v (.one .slc)) (fun (x17:SlT) w18=>KeepK S10 w16 w18 (RunK Tryz.prog (Builtin.append_ #[22,22] 22 #[.slice x15.1 x15.2.1 x15.2.2,.slice x17.1 x17.2.1 x17.2.2]) w18 (.v (.one .slc)) (fun (x19:SlT) w20=>KeepK S10 w18 w20 (DrewK w20 (fun w21=>HoldK (fun S22=>InK S22 ((ad g1).add 3) (LdK (.int .i64) ((ad g1).add 3) w21 (fun (x23:Int)=>InK S22 ((ad g1).add 4) (LdK (.int .i64) ((ad g1).add 4) w21 (fun (x24:Int)=>KeepK S22 w21 w21 (RunK Tryz.prog (Instr.buildSlice 22 1 #[(0,.int .u8 (IntKind.u8.wrap x23))]) w21 (.v (.one .slc)) (fun (x25:SlT) w26=>KeepK S22 w21 w26 (RunK Tryz.prog (Builtin.append_ #[22,22] 22 #[.slice x19.1 x19.2.1 x19.2.2,.slice x25.1 x25.2.1 x25.2.2]) w26 (.v (.one .slc)) (fun (x27:SlT) w28=>KeepK S22 w26 w28 (CallK Tryz.prog 57 #[.int .i64 x24] w28 (.v (.one .slc)) (fun (x29:SlT) w30=>KeepK S22 w28 w30 (RunK Tryz.prog (Builtin.append_ #[22,22] 22 #[.slice x27.1 x27.2.1 x27.2.2,.slice x29.1 x29.2.1 x29.2.2]) w30 (.v (.one .slc)) (fun (x31:SlT) w32=>KeepK S22 w30 w32 (DrewK w32 (fun w33=>HoldK (fun S34=>InK S34 ((ad g1).add 5) (LdK (.int .u64) ((ad g1).add 5) w33 (fun (x35:Int)=>InK S34 ((ad g1).add 6) (LdK .bool ((ad g1).add 6) w33 (fun (x36:Bool)=>CallK Tryz.prog 31 #[.int .u64 x35] w33 (.v (.one .slc)) (fun (x37:SlT) w38=>KeepK S34 w33 w38 (RunK Tryz.prog (Builtin.append_ #[22,22] 22 #[.slice x31.1 x31.2.1 x31.2.2,.slice x37.1 x37.2.1 x37.2.2]) w38 (.v (.one .slc)) (fun (x39:SlT) w40=>KeepK S34 w38 w40 (CallK Tryz.prog 58 #[.bool x36] w40 (.v (.one (.int .u8))) (fun (x41:Int) w42=>KeepK S34 w40 w42 (RunK Tryz.prog (Instr.buildSlice 22 1 #[(0,.int .u8 x41)]) w42 (.v (.one .slc)) (fun (x43:SlT) w44=>KeepK S34 w42 w44 (RunK Tryz.prog (Builtin.append_ #[22,22] 22 #[.slice x39.1 x39.2.1 x39.2.2,.slice x43.1 x43.2.1 x43.2.2]) w44 (.v (.one .slc)) (fun (x45:SlT) w46=>KeepK S34 w44 w46 (LdK (.int .i64) ((ad g1).add 3) w46 (fun (x47:Int)=>ifB (x47 != 1)
 (K (.tuple #[.slice x45.1 x45.2.1 x45.2.2,.int .i64 0]) w46)
 (LdsK KZ14 ((ad g1).add 7) w46 (fun (x48:YZ14)=>CallK Tryz.prog 59 #[.agg (LZ14 x48).toArray] w46 (.tup [.one .slc,.one (.int .i64)]) (fun (x49:SlT×Int×Unit) w50=>ifB (x49.2.1 != 0)
 (K (.tuple #[.slice none 0 0,.int .i64 x49.2.1]) w50)
 (RunK Tryz.prog (Builtin.append_ #[22,22] 22 #[.slice x45.1 x45.2.1 x45.2.2,.slice x49.1.1 x49.1.2.1 x49.1.2.2]) w50 (.v (.one .slc)) (fun (x51:SlT) w52=>K (.tuple #[.slice x51.1 x51.2.1 x51.2.2,.int .i64 0]) w52)))))))))))))))))))))))))))))))))))))))))))))))))))))))))
def pl30:Plan:=(.seq .auto (.seq .auto (.seq .auto (.seq (.held (.soft 0 (.soft 1 (.soft 2 (.soft 5 (.soft 6 (.pick 3 (.pick 4 (.pick 7 (.pick 8 (.soft 9 .done) .stop) .stop) .stop) .stop))))))) (.seq (.held (.soft 0 (.soft 1 (.soft 2 (.soft 6 (.soft 7 (.pick 3 (.pick 4 (.pick 5 (.pick 8 (.pick 9 (.soft 10 .done) .stop) .stop) .stop) .stop) .stop))))))) (.seq (.held (.soft 0 (.soft 1 (.soft 2 (.soft 5 (.soft 6 (.pick 3 (.pick 4 (.pick 7 (.pick 8 (.pick 9 (.soft 10 .done) .stop) .stop) .stop) .stop) .stop))))))) .auto))))))
theorem c30 (p0:YZ18) (w:World) (K:Value→World→Prop) (h:C30 p0 w K):Ret Tryz.prog 30 #[.agg (LZ18 p0).toArray] w K:=z0z (by kernel_rfl) Tryz.func30 (p:=pl30) (Eq.mpr (by kernel_rfl) h)
def C8 (p0:List Value) (p1:YZ18) (w:World) (K:Value→World→Prop):Prop:=
 NewK (.cells p0.toArray 33) w (fun g1 w2=>NewK (.cells ((LZ18 p1).toArray) 38) w2 (fun g3 w4=>LdsK KZ18 (ad g3) w4 (fun (x5:YZ18)=>CallK Tryz.prog 30 #[.agg (LZ18 x5).toArray] w4 (.tup [.one .slc,.one (.int .i64)]) (fun (x6:SlT×Int×Unit) w7=>ifB (x6.2.1 != 0)
 (K (.tuple #[.slice none 0 0,.int .i64 x6.2.1]) w7)
 (LdaK 16 (ad g1) w7 (fun x8=>CallK Tryz.prog 24 #[.agg x8.toArray,.slice x6.1.1 x6.1.2.1 x6.1.2.2] w7 (.v (.one (.int .u64))) (fun (x9:Int) w10=>CallK Tryz.prog 31 #[.int .u64 x9] w10 (.v (.one .slc)) (fun (x11:SlT) w12=>RunK Tryz.prog (Builtin.append_ #[22,22] 22 #[.slice x6.1.1 x6.1.2.1 x6.1.2.2,.slice x11.1 x11.2.1 x11.2.2]) w12 (.v (.one .slc)) (fun (x13:SlT) w14=>K (.tuple #[.slice x13.1 x13.2.1 x13.2.2,.int .i64 0]) w14)))))))))
def pl8:Plan:=.auto
theorem c8 (p0:List Value) (p1:YZ18) (w:World) (K:Value→World→Prop) (h:C8 p0 p1 w K):Ret Tryz.prog 8 #[.agg p0.toArray,.agg (LZ18 p1).toArray] w K:=z0z (by kernel_rfl) Tryz.func8 (p:=pl8) (Eq.mpr (by kernel_rfl) h)
def C40 (p0:Option Addr) (p0l p0c:Nat) (w:World) (K:Value→World→Prop):Prop:=
 NewK (.cells #[.int .i64 0,.int .i64 0,.int .i64 0,.int .i64 0,.int .i64 0,.int .u64 0,.bool false,.int .i64 0,.string (⟨#[]⟩:ByteArray),.string (⟨#[]⟩:ByteArray),.string (⟨#[]⟩:ByteArray),.string (⟨#[]⟩:ByteArray),.int .i64 0,.int .i64 0,.nilIface] 38) w (fun g1 w2=>DrewK w2 (fun w3=>HoldK (fun S4=>IdxK p0 p0l 0 1 (fun a5=>InK S4 a5 (LdK (.int .u8) a5 w3 (fun (x6:Int)=>IdxK p0 p0l 17 1 (fun a7=>InK S4 a7 (LdK (.int .u8) a7 w3 (fun (x8:Int)=>IdxK p0 p0l 34 1 (fun a9=>InK S4 a9 (LdK (.int .u8) a9 w3 (fun (x10:Int)=>NewK (.cells #[.int .i64 0,.int .i64 0,.int .i64 0,.int .i64 0,.int .i64 0,.int .u64 0,.bool false,.int .i64 0,.string (⟨#[]⟩:ByteArray),.string (⟨#[]⟩:ByteArray),.string (⟨#[]⟩:ByteArray),.string (⟨#[]⟩:ByteArray),.int .i64 0,.int .i64 0,.nilIface] 38) w3 (fun g11 w12=>KeepK S4 w3 w12 (StsK (ad g11) [.int .i64 (IntKind.i64.wrap x6),.int .i64 0,.int .i64 0,.int .i64 (IntKind.i64.wrap x8),.int .i64 0,.int .u64 0,.bool (x10==1),.int .i64 0,.string (⟨#[]⟩:ByteArray),.string (⟨#[]⟩:ByteArray),.string (⟨#[]⟩:ByteArray),.string (⟨#[]⟩:ByteArray),.int .i64 0,.int .i64 0,.nilIface] w12 (fun w13=>KeepK S4 w12 w13 (SubK p0 p0c 1 9 p0c 1 (fun a14 l15 c16=>CallK Tryz.prog 67 #[.slice a14 l15 c16] w13 (.tup [.one (.int .i64),.one .bool]) (fun (x17:Int×Bool×Unit) w18=>StK ((ad g11).add 1) (.int .i64 x17.1) w18 (fun w19=>SubK p0 p0c 9 17 p0c 1 (fun a20 l21 c22=>CallK Tryz.prog 67 #[.slice a20 l21 c22] w19 (.tup [.one (.int .i64),.one .bool]) (fun (x23:Int×Bool×Unit) w24=>StK ((ad g11).add 2) (.int .i64 x23.1) w24 (fun w25=>SubK p0 p0c 18 26 p0c 1 (fun a26 l27 c28=>CallK Tryz.prog 67 #[.slice a26 l27 c28] w25 (.tup [.one (.int .i64),.one .bool]) (fun (x29:Int×Bool×Unit) w30=>StK ((ad g11).add 4) (.int .i64 x29.1) w30 (fun w31=>SubK p0 p0c 26 34 p0c 1 (fun a32 l33 c34=>CallK Tryz.prog 23 #[.slice a32 l33 c34] w31 (.tup [.one (.int .u64),.one .bool]) (fun (x35:Int×Bool×Unit) w36=>StK ((ad g11).add 5) (.int .u64 x35.1) w36 (fun w37=>LdK (.int .i64) ((ad g11).add 3) w37 (fun (x38:Int)=>ifB (x38==1)
 (SubK p0 p0c 35 p0l p0c 1 (fun a39 l40 c41=>CallK Tryz.prog 68 #[.slice a39 l40 c41] w37 (.tup [.agg KZ14,.one (.int .i64)]) (fun (x42:YZ14×Int×Unit) w43=>StsK ((ad g11).add 7) [.int .i64 x42.1.1,.string x42.1.2.1,.string x42.1.2.2.1,.string x42.1.2.2.2.1,.string x42.1.2.2.2.2.1,.int .i64 x42.1.2.2.2.2.2.1,.int .i64 x42.1.2.2.2.2.2.2.1,x42.1.2.2.2.2.2.2.2.1] w43 (fun w44=>LdsK KZ18 (ad g11) w44 (fun (x45:YZ18)=>StsK (ad g1) (LZ18 x45) w44 (fun w46=>LdsK KZ18 (ad g1) w46 (fun (x47:YZ18)=>K (.agg (LZ18 x47).toArray) w46)))))))
 (LdsK KZ18 (ad g11) w37 (fun (x48:YZ18)=>StsK (ad g1) (LZ18 x48) w37 (fun w49=>LdsK KZ18 (ad g1) w49 (fun (x50:YZ18)=>K (.agg (LZ18 x50).toArray) w49)))))))))))))))))))))))))))))))))
def pl40:Plan:=(.seq .auto (.seq (.held (.soft 0 (.soft 1 (.soft 2 (.soft 3 (.soft 4 (.soft 5 (.soft 6 (.soft 7 (.soft 8 (.soft 9 (.soft 10 (.soft 11 (.soft 12 (.pick 13 (.pick 14 .done .stop) .stop))))))))))))))) .auto))
theorem c40 (p0:Option Addr) (p0l p0c:Nat) (w:World) (K:Value→World→Prop) (h:C40 p0 p0l p0c w K):Ret Tryz.prog 40 #[.slice p0 p0l p0c] w K:=z0z (by kernel_rfl) Tryz.func40 (p:=pl40) (Eq.mpr (by kernel_rfl) h)
def C18 (p0:List Value) (p1:Option Addr) (p1l p1c:Nat) (w:World) (K:Value→World→Prop):Prop:=
 NewK (.cells p0.toArray 33) w (fun g1 w2=>NewK (.cells #[.int .i64 0,.int .i64 0,.int .i64 0,.int .i64 0,.int .i64 0,.int .u64 0,.bool false,.int .i64 0,.string (⟨#[]⟩:ByteArray),.string (⟨#[]⟩:ByteArray),.string (⟨#[]⟩:ByteArray),.string (⟨#[]⟩:ByteArray),.int .i64 0,.int .i64 0,.nilIface] 38) w2 (fun g3 w4=>ifB (decide ((p1l:Int)<8))
 (StsK (ad g3) [.int .i64 0,.int .i64 0,.int .i64 0,.int .i64 0,.int .i64 0,.int .u64 0,.bool false,.int .i64 0,.string (⟨#[]⟩:ByteArray),.string (⟨#[]⟩:ByteArray),.string (⟨#[]⟩:ByteArray),.string (⟨#[]⟩:ByteArray),.int .i64 0,.int .i64 0,.nilIface] w4 (fun w5=>LdsK KZ18 (ad g3) w5 (fun (x6:YZ18)=>K (.tuple #[.agg (LZ18 x6).toArray,.int .i64 2]) w5)))
 (DrewK w4 (fun w7=>SubK p1 p1c 0 (IntKind.i64.wrap ((p1l:Int) - 8)) p1c 1 (fun a8 l9 c10=>SubK p1 p1c (IntKind.i64.wrap ((p1l:Int) - 8)) p1l p1c 1 (fun a11 l12 c13=>LdaK 16 (ad g1) w7 (fun x14=>CallK Tryz.prog 24 #[.agg x14.toArray,.slice a8 l9 c10] w7 (.v (.one (.int .u64))) (fun (x15:Int) w16=>CallK Tryz.prog 31 #[.int .u64 x15] w16 (.v (.one .slc)) (fun (x17:SlT) w18=>CallK Tryz.prog 39 #[.slice a11 l12 c13,.slice x17.1 x17.2.1 x17.2.2] w18 (.v (.one .bool)) (fun (x19:Bool) w20=>ifB (!x19)
 (StsK (ad g3) [.int .i64 0,.int .i64 0,.int .i64 0,.int .i64 0,.int .i64 0,.int .u64 0,.bool false,.int .i64 0,.string (⟨#[]⟩:ByteArray),.string (⟨#[]⟩:ByteArray),.string (⟨#[]⟩:ByteArray),.string (⟨#[]⟩:ByteArray),.int .i64 0,.int .i64 0,.nilIface] w20 (fun w21=>LdsK KZ18 (ad g3) w21 (fun (x22:YZ18)=>K (.tuple #[.agg (LZ18 x22).toArray,.int .i64 12]) w21)))
 (ifB (decide ((l9:Int)<35))
 (StsK (ad g3) [.int .i64 0,.int .i64 0,.int .i64 0,.int .i64 0,.int .i64 0,.int .u64 0,.bool false,.int .i64 0,.string (⟨#[]⟩:ByteArray),.string (⟨#[]⟩:ByteArray),.string (⟨#[]⟩:ByteArray),.string (⟨#[]⟩:ByteArray),.int .i64 0,.int .i64 0,.nilIface] w20 (fun w23=>LdsK KZ18 (ad g3) w23 (fun (x24:YZ18)=>K (.tuple #[.agg (LZ18 x24).toArray,.int .i64 2]) w23)))
 (CallK Tryz.prog 40 #[.slice a8 l9 c10] w20 (.v (.agg KZ18)) (fun (x25:YZ18) w26=>NewK (.cells #[.int .i64 0,.int .i64 0,.int .i64 0,.int .i64 0,.int .i64 0,.int .u64 0,.bool false,.int .i64 0,.string (⟨#[]⟩:ByteArray),.string (⟨#[]⟩:ByteArray),.string (⟨#[]⟩:ByteArray),.string (⟨#[]⟩:ByteArray),.int .i64 0,.int .i64 0,.nilIface] 38) w26 (fun g27 w28=>StsK (ad g27) (LZ18 x25) w28 (fun w29=>LdsK KZ18 (ad g27) w29 (fun (x30:YZ18)=>CallK Tryz.prog 30 #[.agg (LZ18 x30).toArray] w29 (.tup [.one .slc,.one (.int .i64)]) (fun (x31:SlT×Int×Unit) w32=>ifB (x31.2.1 != 0)
 (StsK (ad g3) [.int .i64 0,.int .i64 0,.int .i64 0,.int .i64 0,.int .i64 0,.int .u64 0,.bool false,.int .i64 0,.string (⟨#[]⟩:ByteArray),.string (⟨#[]⟩:ByteArray),.string (⟨#[]⟩:ByteArray),.string (⟨#[]⟩:ByteArray),.int .i64 0,.int .i64 0,.nilIface] w32 (fun w33=>LdsK KZ18 (ad g3) w33 (fun (x34:YZ18)=>K (.tuple #[.agg (LZ18 x34).toArray,.int .i64 2]) w33)))
 (CallK Tryz.prog 41 #[.slice x31.1.1 x31.1.2.1 x31.1.2.2,.slice a8 l9 c10] w32 (.v (.one .bool)) (fun (x35:Bool) w36=>ifB (!x35)
 (StsK (ad g3) [.int .i64 0,.int .i64 0,.int .i64 0,.int .i64 0,.int .i64 0,.int .u64 0,.bool false,.int .i64 0,.string (⟨#[]⟩:ByteArray),.string (⟨#[]⟩:ByteArray),.string (⟨#[]⟩:ByteArray),.string (⟨#[]⟩:ByteArray),.int .i64 0,.int .i64 0,.nilIface] w36 (fun w37=>LdsK KZ18 (ad g3) w37 (fun (x38:YZ18)=>K (.tuple #[.agg (LZ18 x38).toArray,.int .i64 2]) w37)))
 (LdsK KZ18 (ad g27) w36 (fun (x39:YZ18)=>StsK (ad g3) (LZ18 x39) w36 (fun w40=>LdsK KZ18 (ad g3) w40 (fun (x41:YZ18)=>K (.tuple #[.agg (LZ18 x41).toArray,.int .i64 0]) w40)))))))))))))))))))))))
def pl18:Plan:=(.seq .auto (.seq .auto (.seq .still .auto)))
theorem c18 (p0:List Value) (p1:Option Addr) (p1l p1c:Nat) (w:World) (K:Value→World→Prop) (h:C18 p0 p1 p1l p1c w K):Ret Tryz.prog 18 #[.agg p0.toArray,.slice p1 p1l p1c] w K:=z0z (by kernel_rfl) Tryz.func18 (p:=pl18) (Eq.mpr (by kernel_rfl) h)
def C10  (w:World) (K:Value→World→Prop):Prop:=
 CallK Tryz.prog 18 #[.agg #[.int .u8 0,.int .u8 0,.int .u8 0,.int .u8 0,.int .u8 0,.int .u8 0,.int .u8 0,.int .u8 0,.int .u8 0,.int .u8 0,.int .u8 0,.int .u8 0,.int .u8 0,.int .u8 0,.int .u8 0,.int .u8 0],.slice none 0 0] w (.tup [.agg KZ18,.one (.int .i64)]) (fun (x1:YZ18×Int×Unit) w2=>NewK (.cells #[.int .i64 0,.int .i64 0,.int .i64 0,.int .i64 0,.int .i64 0,.int .u64 0,.bool false,.int .i64 0,.string (⟨#[]⟩:ByteArray),.string (⟨#[]⟩:ByteArray),.string (⟨#[]⟩:ByteArray),.string (⟨#[]⟩:ByteArray),.int .i64 0,.int .i64 0,.nilIface] 38) w2 (fun g3 w4=>StsK (ad g3) [.int .i64 x1.1.1,.int .i64 x1.1.2.1,.int .i64 x1.1.2.2.1,.int .i64 x1.1.2.2.2.1,.int .i64 x1.1.2.2.2.2.1,.int .u64 x1.1.2.2.2.2.2.1,.bool x1.1.2.2.2.2.2.2.1,.int .i64 x1.1.2.2.2.2.2.2.2.1,.string x1.1.2.2.2.2.2.2.2.2.1,.string x1.1.2.2.2.2.2.2.2.2.2.1,.string x1.1.2.2.2.2.2.2.2.2.2.2.1,.string x1.1.2.2.2.2.2.2.2.2.2.2.2.1,.int .i64 x1.1.2.2.2.2.2.2.2.2.2.2.2.2.1,.int .i64 x1.1.2.2.2.2.2.2.2.2.2.2.2.2.2.1,x1.1.2.2.2.2.2.2.2.2.2.2.2.2.2.2.1] w4 (fun w5=>CallK Tryz.prog 8 #[.agg #[.int .u8 0,.int .u8 0,.int .u8 0,.int .u8 0,.int .u8 0,.int .u8 0,.int .u8 0,.int .u8 0,.int .u8 0,.int .u8 0,.int .u8 0,.int .u8 0,.int .u8 0,.int .u8 0,.int .u8 0,.int .u8 0],.agg #[.int .i64 0,.int .i64 0,.int .i64 0,.int .i64 3,.int .i64 0,.int .u64 0,.bool false,.int .i64 0,.string (⟨#[]⟩:ByteArray),.string (⟨#[]⟩:ByteArray),.string (⟨#[]⟩:ByteArray),.string (⟨#[]⟩:ByteArray),.int .i64 0,.int .i64 0,.nilIface]] w5 (.tup [.one .slc,.one (.int .i64)]) (fun (x6:SlT×Int×Unit) w7=>ifB (x1.2.1==2)
 (ifB (x6.2.1==0)
 (K (.bool ((x6.1.2.1:Int)==43)) w7)
 (K (.bool false) w7))
 (K (.bool false) w7)))))
def pl10:Plan:=.auto
theorem c10  (w:World) (K:Value→World→Prop) (h:C10  w K):Ret Tryz.prog 10 #[] w K:=z0z (by kernel_rfl) Tryz.func10 (p:=pl10) (Eq.mpr (by kernel_rfl) h)
namespace Vc
theorem LdsK.off {cks:List Ck} {b o:Nat} {w:World} {K:Cs cks→Prop} {cs:Array Value} {T:TypeId} {fr:Nat×Nat} {x:Cs cks} (hb:w.heap[b]? = some (.cells cs T fr)) (hx:∀ j,j<(Cs.vals cks x).length→cs[o+j]? = (Cs.vals cks x)[j]?) (h:K x):LdsK cks ((⟨b,0,none⟩:Addr).add o) w K:=
 ⟨x,z10z (m:=o) _ 0 (z12z hb _ o hx),h⟩
end Vc
abbrev FrT:=Int×Int×Int×Int×Int×Int×Bool×EvT
abbrev FK:List Ck:=[.int .i64,.int .i64,.int .i64,.int .i64,.int .i64,.int .u64,.bool,.int .i64,.str,.str,.str,.str,.int .i64,.int .i64,.raw]
def frE (f:FrT):EvT:=f.2.2.2.2.2.2.2
def frL (f:FrT):List Value:=[.int .i64 f.1,.int .i64 f.2.1,.int .i64 f.2.2.1,.int .i64 f.2.2.2.1,.int .i64 f.2.2.2.2.1,.int .u64 f.2.2.2.2.2.1,.bool f.2.2.2.2.2.2.1,.int .i64 (frE f).1,.string (frE f).2.1,.string (frE f).2.2.1,.string (frE f).2.2.2.1,.string (frE f).2.2.2.2.1,.int .i64 (frE f).2.2.2.2.2.1,.int .i64 (frE f).2.2.2.2.2.2.1,(frE f).2.2.2.2.2.2.2.1]
def frA (f:FrT):Value:=.agg (frL f).toArray
theorem frL_one {f:FrT} (h:one1 (frE f).2.2.2.2.2.2.2.1=true):(frL f).all one1=true:=by
 unfold frL
 simp only [List.all_cons,List.all_nil,Bool.and_true,Bool.and_eq_true,h,and_true]
 exact ⟨rfl,rfl,rfl,rfl,rfl,rfl,rfl,rfl,rfl,rfl,rfl,rfl,rfl,rfl⟩
def countsF (n:Int):Bool:=decide (0≤n)&&decide (n≤2147483647)
def noneF (e:EvT):Bool:=nilT e.2.2.2.2.2.2.2.1&&(e.1==0&&(emptyB e.2.1&&(emptyB e.2.2.1&&(emptyB e.2.2.2.1&&(emptyB e.2.2.2.2.1&&(e.2.2.2.2.2.1==0&&e.2.2.2.2.2.2.1==0))))))
def headF (f:FrT):Bool:=(f.1==0||f.1==1)&&(countsF f.2.1&&(countsF f.2.2.1&&countsF f.2.2.2.2.1))
def kindF (f:FrT):Bool:=decide (1≤f.2.2.2.1)&&(decide (f.2.2.2.1≤4)&&!(f.2.2.2.2.2.2.1&&(f.2.2.2.1==1||f.2.2.2.1==3)))
def checkFr (f:FrT) (tr:Int):Int:=if headF f=false then 1 else if kindF f=false then 1 else if f.2.2.2.1=1 then checkF (frE f) tr else if noneF (frE f)=false then 1 else 0
def topB (f:FrT):List UInt8:=UInt8.ofNat (f.1 % 256).toNat::(numL f.2.1++(numL f.2.2.1++(UInt8.ofNat (f.2.2.2.1 % 256).toNat::(numL f.2.2.2.2.1++(hedL f.2.2.2.2.2.1++[if f.2.2.2.2.2.2.1=true then 1 else 0])))))
def bytesFr (f:FrT) (ts:List UInt8) (tr:Int):List UInt8×Int:=if checkFr f tr≠0 then ([],checkFr f tr) else if f.2.2.2.1≠1 then (topB f,0) else (topB f++(packF (frE f) ts tr).1,0)
def sealF (kb:List UInt8) (f:FrT) (ts:List UInt8) (tr:Int):List UInt8×Int:=if (bytesFr f ts tr).2≠0 then ([],(bytesFr f ts tr).2) else ((bytesFr f ts tr).1++hedL (sumI kb (bytesFr f ts tr).1),0)
theorem top_len (f:FrT):(topB f).length=35:=by
 unfold topB
 simp only [List.length_cons,List.length_append,z9z,hed_len,List.length_nil]
theorem counts_spec (n:Int) (w:World):Ret Tryz.prog 32 #[.int .i64 n] w fun r w'=>r=.bool (countsF n)∧w=w':=by
 refine c32 n w _ ?_
 unfold countsF
 refine ifB.dec (fun h=>?_) (fun h=>?_)
 ·rw [decide_eq_true (p:=0≤n) (by omega)];exact ⟨rfl,rfl⟩
 ·rw [decide_eq_false (p:=0≤n) (by omega)];exact ⟨rfl,rfl⟩
theorem countsK (n:Int) (w:World) {K:Bool→World→Prop} (h:K (countsF n) w):CallK Tryz.prog 32 #[.int .i64 n] w (.v (.one .bool)) (fun (x:Bool) w'=>K x w'):=by
 refine CallK.of (counts_spec n w) ?_
 rintro _ _ ⟨rfl,rfl⟩
 exact ⟨_,rfl,h⟩
theorem none_spec (e:EvT) (hT:ifcT e.2.2.2.2.2.2.2.1) (w:World):Ret Tryz.prog 34 #[evA e] w fun r w'=>r=.bool (noneF e)∧Fr none1 w w':=by
 refine c34 e w _ ?_
 unfold C34
 refine NewK.of fun g1 w1 hg1 hb1 f1 hs1=>?_
 unfold noneF
 refine LdK.fld hb1 (x:=e.2.2.2.2.2.2.2.1) rfl ?_
 refine ⟨nilT e.2.2.2.2.2.2.2.1,w1,nil_eq ifc_term _ hT w1,?_⟩
 refine ifB.by (fun q=>?_) (fun q=>by rw [q];exact ⟨rfl,f1⟩)
 rw [q,Bool.true_and]
 refine LdK.fld hb1 (x:=e.1) rfl ?_
 refine ifB.by (fun q=>?_) (fun q=>by rw [q];exact ⟨rfl,f1⟩)
 rw [q,Bool.true_and]
 refine LdK.fld hb1 (x:=e.2.1) rfl ?_
 refine ifB.by (fun q=>?_) (fun q=>by rw [show emptyB e.2.1=false from q];exact ⟨rfl,f1⟩)
 rw [show emptyB e.2.1=true from q,Bool.true_and]
 refine LdK.fld hb1 (x:=e.2.2.1) rfl ?_
 refine ifB.by (fun q=>?_) (fun q=>by rw [show emptyB e.2.2.1=false from q];exact ⟨rfl,f1⟩)
 rw [show emptyB e.2.2.1=true from q,Bool.true_and]
 refine LdK.fld hb1 (x:=e.2.2.2.1) rfl ?_
 refine ifB.by (fun q=>?_) (fun q=>by rw [show emptyB e.2.2.2.1=false from q];exact ⟨rfl,f1⟩)
 rw [show emptyB e.2.2.2.1=true from q,Bool.true_and]
 refine LdK.fld hb1 (x:=e.2.2.2.2.1) rfl ?_
 refine ifB.by (fun q=>?_) (fun q=>by rw [show emptyB e.2.2.2.2.1=false from q];exact ⟨rfl,f1⟩)
 rw [show emptyB e.2.2.2.2.1=true from q,Bool.true_and]
 refine LdK.fld hb1 (x:=e.2.2.2.2.2.1) rfl ?_
 refine ifB.by (fun q=>?_) (fun q=>by rw [q];exact ⟨rfl,f1⟩)
 rw [q,Bool.true_and]
 refine LdK.fld hb1 (x:=e.2.2.2.2.2.2.1) rfl ?_
 exact ⟨rfl,f1⟩
def Wrote (w:World) (x:Value) (ts:List UInt8) (tr:Int):Prop:=∀ w1,Fr none1 w w1→Ret Tryz.prog 64 #[x] w1 fun r w'=>r=.tuple #[.string (str ts),.int .i64 tr]∧Fr none1 w1 w'
theorem Wrote.keep {w w':World} {x:Value} {ts:List UInt8} {tr:Int} (h:Wrote w x ts tr) (f:Fr none1 w w'):Wrote w' x ts tr:=fun w1 f1=>h w1 (f.trans f1)
theorem wrote_tm (t:Tm) (hn:nodesT t≤1000000) {w:World} (ht:TabW w):Wrote w t.v (writeT t).1 (writeT t).2:=fun w1 f=>wterm_spec t hn w1 (ht.keep0 f)
theorem fr_ev {w:World} {g:Nat} {f:FrT} {T:TypeId} (hb:w.heap[g]? = some (.cells (frL f).toArray T (0,0))) {K:EvT→Prop} (k:K (frE f)):LdsK EK ((⟨g,0,none⟩:Addr).add 7) w K:=by
 refine LdsK.off (x:=frE f) hb (fun j hj=>?_) k
 match j,hj with
 | 0,_=>rfl
 | 1,_=>rfl
 | 2,_=>rfl
 | 3,_=>rfl
 | 4,_=>rfl
 | 5,_=>rfl
 | 6,_=>rfl
 | 7,_=>rfl
 | j+8,h=>exact absurd h (by show ¬ j+8<8;omega)
theorem fcheck_spec (f : FrT) (hT : ifcT (frE f).2.2.2.2.2.2.2.1) (ts : List UInt8) (tr : Int) (w : World) (ht : Wrote w (frE f).2.2.2.2.2.2.2.1 ts tr) :
    Ret Tryz.prog 9 #[frA f] w fun r w' => r = .int .i64 (checkFr f tr) ∧ Fr none1 w w' := by
  refine c9 f w _ ?_
  unfold C9
  refine NewK.of fun g1 w1 hg1 hb1 f1 hs1 => ?_
  have hb1 : w1.heap[g1]? = some (.cells (frL f).toArray 38 (0, 0)) := hb1
  refine JoinK.of (fun s w' => s.1 = !(headF f) ∧ w1 = w') ?_ ?_
  · have rest : (f.1 == 0 || f.1 == 1) = true → LdK (.int .i64) ((⟨g1, 0, none⟩ : Addr).add 1) w1 (fun (x8 : Int) => CallK Tryz.prog 32 #[.int .i64 x8] w1 (.v (.one .bool)) (fun (x9 : Bool) w10 => ifB (!x9)
        ((true = !(headF f)) ∧ w1 = w10)
        (LdK (.int .i64) ((⟨g1, 0, none⟩ : Addr).add 2) w10 (fun (x11 : Int) => CallK Tryz.prog 32 #[.int .i64 x11] w10 (.v (.one .bool)) (fun (x12 : Bool) w13 => ifB (!x12)
        ((true = !(headF f)) ∧ w1 = w13)
        (LdK (.int .i64) ((⟨g1, 0, none⟩ : Addr).add 4) w13 (fun (x14 : Int) => CallK Tryz.prog 32 #[.int .i64 x14] w13 (.v (.one .bool)) (fun (x15 : Bool) w16 => ((!x15) = !(headF f)) ∧ w1 = w16))))))) ) := fun h0 => by
      unfold headF
      rw [h0, Bool.true_and]
      refine LdK.fld hb1 (x := f.2.1) rfl (countsK _ _ (ifB.not (ifB.by (fun q => ?_) (fun q => by rw [q]; exact ⟨rfl, rfl⟩))))
      rw [q, Bool.true_and]
      refine LdK.fld hb1 (x := f.2.2.1) rfl (countsK _ _ (ifB.not (ifB.by (fun q => ?_) (fun q => by rw [q]; exact ⟨rfl, rfl⟩))))
      rw [q, Bool.true_and]
      exact LdK.fld hb1 (x := f.2.2.2.2.1) rfl (countsK _ _ ⟨rfl, rfl⟩)
    refine LdK.fld hb1 (x := f.1) rfl ?_
    refine ifB.ne (fun h => ?_) (fun h => rest (by rw [h]; rfl))
    refine LdK.fld hb1 (x := f.1) rfl ?_
    refine ifB.ne (fun h' => ?_) (fun h' => rest (by rw [h']; rfl))
    refine ⟨?_, rfl⟩
    unfold headF
    rw [beq_false_of_ne h, beq_false_of_ne h']; rfl
  rintro _ ⟨s, _⟩ _ ⟨hs, rfl⟩
  dsimp only at hs ⊢
  subst hs
  unfold checkFr
  refine ifB.by (fun q => ?_) (fun q => ?_)
  · rw [if_pos (by simpa using q)]; exact ⟨rfl, f1⟩
  rw [if_neg (by simpa using q)]
  refine JoinK.of (fun s w' => s.1 = !(kindF f) ∧ w1 = w') ?_ ?_
  · unfold kindF
    refine LdK.fld hb1 (x := f.2.2.2.1) rfl ?_
    refine ifB.dec (fun h => ?_) (fun h => ?_)
    · rw [decide_eq_false (p := 1 ≤ f.2.2.2.1) (by omega)]; exact ⟨rfl, rfl⟩
    rw [decide_eq_true (p := 1 ≤ f.2.2.2.1) (by omega), Bool.true_and]
    refine LdK.fld hb1 (x := f.2.2.2.1) rfl ?_
    refine ifB.dec (fun h => ?_) (fun h => ?_)
    · rw [decide_eq_false (p := f.2.2.2.1 ≤ 4) (by omega)]; exact ⟨rfl, rfl⟩
    rw [decide_eq_true (p := f.2.2.2.1 ≤ 4) (by omega), Bool.true_and, Bool.not_not]
    refine LdK.fld hb1 (x := f.2.2.2.2.2.2.1) rfl ?_
    refine ifB.by (fun q => ?_) (fun q => by rw [q]; exact ⟨rfl, rfl⟩)
    rw [q, Bool.true_and]
    refine LdK.fld hb1 (x := f.2.2.2.1) rfl ?_
    refine ifB.by (fun q => by rw [q]; exact ⟨rfl, rfl⟩) (fun q => ?_)
    rw [q, Bool.false_or]
    exact LdK.fld hb1 (x := f.2.2.2.1) rfl ⟨rfl, rfl⟩
  rintro _ ⟨s, _⟩ _ ⟨hs, rfl⟩
  dsimp only at hs ⊢
  subst hs
  refine ifB.by (fun q => ?_) (fun q => ?_)
  · rw [if_pos (by simpa using q)]; exact ⟨rfl, f1⟩
  rw [if_neg (by simpa using q)]
  refine LdK.fld hb1 (x := f.2.2.2.1) rfl ?_
  refine ifB.eq (fun h => ?_) (fun h => ?_)
  · rw [if_pos h]
    refine fr_ev hb1 ?_
    refine CallK.of (check_spec (frE f) hT tr w1 fun _ w2 f2 => (ht w2 (f1.trans f2)).mono fun r w' ⟨h, f⟩ => ⟨⟨_, h⟩, f⟩) ?_
    rintro _ w2 ⟨rfl, f2⟩
    exact ⟨_, rfl, rfl, f1.trans f2⟩
  · rw [if_neg h]
    refine fr_ev hb1 ?_
    refine CallK.of (none_spec (frE f) hT w1) ?_
    rintro _ w2 ⟨rfl, f2⟩
    refine ⟨_, rfl, ifB.not (ifB.by (fun q => ?_) (fun q => ?_))⟩
    · rw [if_neg (by rw [q]; decide)]; exact ⟨rfl, f1.trans f2⟩
    · rw [if_pos q]; exact ⟨rfl, f1.trans f2⟩
theorem flagK (b:Bool) (w:World) {K:Int→World→Prop} (h:∀ n:Int,Value.int .u8 n=bc (if b=true then 1 else 0)→K n w):CallK Tryz.prog 58 #[.bool b] w (.v (.one (.int .u8))) (fun (x:Int) w'=>K x w'):=by
 refine CallK.of (R:=fun r w'=>r=.int .u8 (if b=true then 1 else 0)∧w=w') ?_ ?_
 ·refine c58 b w _ ?_
  unfold C58
  cases b
  ·exact ifB.f rfl ⟨rfl,rfl⟩
  ·exact ifB.t rfl ⟨rfl,rfl⟩
 ·rintro _ _ ⟨rfl,rfl⟩
  exact ⟨_,rfl,h _ (by cases b<;>rfl)⟩
structure Own (w0 w:World) (v:Sl) (bs:List UInt8):Prop where
 is:IsB w v bs
 lo:∀ k,blkOf v k→w0.heap.size≤k
theorem Own.keep0 {w0 w w':World} {v:Sl} {bs:List UInt8} (h:Own w0 w v bs) (f:Fr none1 w w'):Own w0 w' v bs:=⟨h.is.keep0 f,h.lo⟩
theorem Own.app {w0 w:World} {x:Sl} {xs:List UInt8} (hx:Own w0 w x xs) (h0:w0.heap.size≤w.heap.size) {y:Sl} {ys:List UInt8} (hy:RdB w y ys) (hl:xs.length+ys.length≤140737488355000) {K:(Option Addr×Nat×Nat)→World→Prop}
  (k:∀ (u:Sl) w',Own w0 w' u (xs++ys)→Fr (blkOf x) w w'→K u w') :
  RunK Tryz.prog (Builtin.append_ #[22,22] 22 #[.slice x.1 x.2.1 x.2.2,.slice y.1 y.2.1 y.2.2]) w (.v (.one .slc)) (fun (u:Option Addr×Nat×Nat) w'=>K u w'):=by
 obtain ⟨u,w',hr,hu,f,uf⟩:=z33z hx.is hy hl
 refine ⟨u,w',hr,k u w' ⟨hu,fun j hj=>?_⟩ f⟩
 rcases uf j hj with t | t
 ·exact hx.lo j t
 ·omega
theorem lit1 {w:World} (c:UInt8) {K:(Option Addr×Nat×Nat)→World→Prop} (k:∀ (u:Sl) w',IsB w' u [c]→Fr none1 w w'→(∀ j,blkOf u j→w.heap.size≤j)→K u w') :
  RunK Tryz.prog (Instr.buildSlice 22 1 #[(0,bc c)]) w (.v (.one .slc)) (fun (u:Option Addr×Nat×Nat) w'=>K u w'):=by
 obtain ⟨x,w',hr,hx,_,f,xf⟩:=lit_ok (P:=Tryz.prog) (w:=w) z7z [bc c] (by simp [bc,Value.cells]) (by simp)
 exact ⟨x,w',hr,k x w' hx f xf⟩
theorem pnumK (n:Int) (w:World) {K:(Option Addr×Nat×Nat)→World→Prop} (k:∀ u w',IsB w' u (numL n)→Fr none1 w w'→K u w'):CallK Tryz.prog 57 #[.int .i64 n] w (.v (.one .slc)) (fun (x:Option Addr×Nat×Nat) w'=>K x w'):=by
 refine CallK.of (pnum_spec n w) ?_
 rintro _ w1 ⟨u,rfl,hu,f1,uf⟩
 exact ⟨u,rfl,k u w1 hu f1⟩
theorem hedK (n:Int) (h0:0≤n) (h1:n<18446744073709551616) (w:World) {K:(Option Addr×Nat×Nat)→World→Prop} (k:∀ u w',IsB w' u (hedL n)→Fr none1 w w'→K u w'):CallK Tryz.prog 31 #[.int .u64 n] w (.v (.one .slc)) (fun (x:Option Addr×Nat×Nat) w'=>K x w'):=by
 refine CallK.of (sbytes_spec n h0 h1 w) ?_
 rintro _ w1 ⟨u,rfl,hu,f1,uf⟩
 exact ⟨u,rfl,k u w1 hu f1⟩
theorem byteK (n:Int):Value.int .u8 (IntKind.u8.wrap n)=bc (UInt8.ofNat (n % 256).toNat):=by
 unfold bc
 have h0:0≤n % 256:=Int.emod_nonneg _ (by decide)
 have h1:n % 256<256:=Int.emod_lt_of_pos _ (by decide)
 rw [u8_nat (by omega)]
 congr 1
 simp [IntKind.wrap,IntKind.signed,IntKind.bits]
 omega
theorem body_spec (f:FrT) (hT:ifcT (frE f).2.2.2.2.2.2.2.1) (hz:smallE (frE f)) (hh:0≤f.2.2.2.2.2.1∧f.2.2.2.2.2.1<18446744073709551616) (ts:List UInt8) (hts:ts.length≤1000000) (tr:Int) (w:World) (ht:Wrote w (frE f).2.2.2.2.2.2.2.1 ts tr) :
  Ret Tryz.prog 30 #[frA f] w fun r w'=>∃ v:Sl,r=.tuple #[.slice v.1 v.2.1 v.2.2,.int .i64 (bytesFr f ts tr).2]∧Own w w' v (bytesFr f ts tr).1∧Fr none1 w w':=by
 refine c30 f w _ ?_
 unfold C30
 refine NewK.of fun g1 w1 hg1 hb1 f1 hs1=>?_
 have hb1:w1.heap[g1]? = some (.cells (frL f).toArray 38 (0,0)):=hb1
 refine LdsK.blk (cks:=FK) (x:=f) hb1 ?_
 refine CallK.of (fcheck_spec f hT ts tr w1 (ht.keep f1)) ?_
 rintro _ w2 ⟨rfl,f2⟩
 refine ⟨_,rfl,?_⟩
 have nob:∀ k,¬ blkOf ((none,0,0):Sl) k:=fun k ⟨a,ha,_⟩=>by cases ha
 unfold bytesFr
 refine ifB.ne (fun hne=>?_) (fun he=>?_)
 ·rw [if_pos hne]
  exact ⟨(none,0,0),rfl,⟨none_b w2,fun k hk=>(nob k hk).elim⟩,f1.trans f2⟩
 rw [if_neg (fun t=>t he)]
 have b2:=f2.keep0 hb1
 have F:=f1.trans f2
 refine LdK.fld b2 (x:=f.1) rfl ?_
 rw [byteK]
 refine lit1 _ fun x w3 hx f3 xf=>?_
 have h0:=F.size
 have F:=F.trans f3
 have hx:Own w1 w3 x [UInt8.ofNat (f.1 % 256).toNat]:=⟨hx,fun k hk=>by have:=xf k hk;have:=f2.size;omega⟩
 have b3:=f3.keep0 b2
 have hg:w.heap.size≤g1:=by omega
 have own:∀ {wa:World} {v:Sl} {bs:List UInt8},Own w1 wa v bs→∀ k,blkOf v k→k≠g1∧w.heap.size≤k:=fun h k hk=>by have:=h.lo k hk;omega
 have q1:∀ {wa:World},Fr none1 w wa→w1.heap.size≤wa.heap.size→∀ {v:Sl} {bs:List UInt8},Own w1 wa v bs→∀ {wb:World},Fr (blkOf v) wa wb→Fr none1 w wb:=fun F _ _ _ h _ f=>F.comp f fun k hk t=>by have:=(own h k t).2;omega
 have s13:w1.heap.size≤w3.heap.size:=by have:=f2.size;have:=f3.size;omega
 refine DrewK.of fun w4 _ f4=>HoldK.of (fun k=>k=g1) (inG rfl (LdK.fld (f4.keep0 b3) (x:=f.2.1) rfl (inG rfl (LdK.fld (f4.keep0 b3) (x:=f.2.2.1) rfl ?_))))
 refine pnumK _ w4 fun n1 w5 hn1 f5=>KeepK.of f5 ?_
 have f35:=f4.trans f5
 have hx:=hx.keep0 f35
 have b5:=f35.keep0 b3
 have F:=F.trans f35
 have s15:w1.heap.size≤w5.heap.size:=by have:=f35.size;omega
 refine hx.app s15 hn1.rd (by rw [z9z];simp only [List.length_singleton];omega) fun y w6 hy f6=>KeepK.on f6 (fun k hk t=>(own hx k t).1 hk) ?_
 have b6:=f6.keep b5 (fun t=>(own hx _ t).1 rfl)
 have F:=q1 F s15 hx f6
 have s16:w1.heap.size≤w6.heap.size:=by have:=f6.size;omega
 clear hx b5 f35 f4 f5 hn1 b3 f6
 refine pnumK _ w6 fun n2 w7 hn2 f7=>KeepK.of f7 ?_
 have hy:=hy.keep0 f7
 have b7:=f7.keep0 b6
 have F:=F.trans f7
 have s17:w1.heap.size≤w7.heap.size:=by have:=f7.size;omega
 refine hy.app s17 hn2.rd (by rw [z9z,List.length_append,z9z,List.length_singleton];decide) fun z w8 hzz f8=>KeepK.on f8 (fun k hk t=>(own hy k t).1 hk) ?_
 have b8:=f8.keep b7 (fun t=>(own hy _ t).1 rfl)
 have F:=q1 F s17 hy f8
 have s18:w1.heap.size≤w8.heap.size:=by have:=f8.size;omega
 clear hy b7 f7 hn2 b6 f8
 refine DrewK.of fun w9 _ f9=>HoldK.of (fun k=>k=g1) (inG rfl (LdK.fld (f9.keep0 b8) (x:=f.2.2.2.1) rfl (inG rfl (LdK.fld (f9.keep0 b8) (x:=f.2.2.2.2.1) rfl (KeepK.same ?_)))))
 rw [byteK]
 refine lit1 _ fun x2 w10 hx2 f10 x2f=>KeepK.of f10 ?_
 have f810:=f9.trans f10
 have hzz:=hzz.keep0 f810
 have b10:=f810.keep0 b8
 have F:=F.trans f810
 have s110:w1.heap.size≤w10.heap.size:=by have:=f810.size;omega
 refine hzz.app s110 hx2.rd (by simp only [List.length_append,z9z,List.length_singleton];decide) fun u w11 hu f11=>KeepK.on f11 (fun k hk t=>(own hzz k t).1 hk) ?_
 have b11:=f11.keep b10 (fun t=>(own hzz _ t).1 rfl)
 have F:=q1 F s110 hzz f11
 have s111:w1.heap.size≤w11.heap.size:=by have:=f11.size;omega
 clear hzz b10 f810 hx2 x2f b8 f11 f9 f10
 refine pnumK _ w11 fun n3 w12 hn3 f12=>KeepK.of f12 ?_
 have hu:=hu.keep0 f12
 have b12:=f12.keep0 b11
 have F:=F.trans f12
 have s112:w1.heap.size≤w12.heap.size:=by have:=f12.size;omega
 refine hu.app s112 hn3.rd (by simp only [List.length_append,z9z,List.length_singleton];decide) fun v w13 hv f13=>KeepK.on f13 (fun k hk t=>(own hu k t).1 hk) ?_
 have b13:=f13.keep b12 (fun t=>(own hu _ t).1 rfl)
 have F:=q1 F s112 hu f13
 have s113:w1.heap.size≤w13.heap.size:=by have:=f13.size;omega
 clear hu b12 f12 hn3 b11 f13
 refine DrewK.of fun w14 _ f14=>HoldK.of (fun k=>k=g1) (inG rfl (LdK.fld (f14.keep0 b13) (x:=f.2.2.2.2.2.1) rfl (inG rfl (LdK.fld (f14.keep0 b13) (x:=f.2.2.2.2.2.2.1) rfl ?_))))
 refine hedK _ hh.1 hh.2 w14 fun n4 w15 hn4 f15=>KeepK.of f15 ?_
 have f1315:=f14.trans f15
 have hv:=hv.keep0 f1315
 have b15:=f1315.keep0 b13
 have F:=F.trans f1315
 have s115:w1.heap.size≤w15.heap.size:=by have:=f1315.size;omega
 refine hv.app s115 hn4.rd (by simp only [List.length_append,z9z,hed_len,List.length_singleton];decide) fun p w16 hp f16=>KeepK.on f16 (fun k hk t=>(own hv k t).1 hk) ?_
 have b16:=f16.keep b15 (fun t=>(own hv _ t).1 rfl)
 have F:=q1 F s115 hv f16
 have s116:w1.heap.size≤w16.heap.size:=by have:=f16.size;omega
 clear hv b15 f1315 hn4 b13 f16 f14 f15
 refine flagK _ w16 fun n hn=>KeepK.same ?_
 rw [hn]
 refine lit1 _ fun x3 w17 hx3 f17 x3f=>KeepK.of f17 ?_
 have hp:=hp.keep0 f17
 have b17:=f17.keep0 b16
 have F:=F.trans f17
 have s117:w1.heap.size≤w17.heap.size:=by have:=f17.size;omega
 refine hp.app s117 hx3.rd (by simp only [List.length_append,z9z,hed_len,List.length_singleton];decide) fun r w18 hr f18=>KeepK.on f18 (fun k hk t=>(own hp k t).1 hk) ?_
 have b18:=f18.keep b17 (fun t=>(own hp _ t).1 rfl)
 have F:=q1 F s117 hp f18
 have s118:w1.heap.size≤w18.heap.size:=by have:=f18.size;omega
 clear hp b17 f17 hx3 x3f b16 f18
 have htop:([UInt8.ofNat (f.1 % 256).toNat]++numL f.2.1++numL f.2.2.1++[UInt8.ofNat (f.2.2.2.1 % 256).toNat]++numL f.2.2.2.2.1++hedL f.2.2.2.2.2.1++[if f.2.2.2.2.2.2.1=true then 1 else 0])=topB f:=by
  unfold topB;simp only [List.append_assoc,List.cons_append,List.nil_append]
 rw [htop] at hr
 have htl:=top_len f
 have up:∀ {wa:World} {v:Sl} {bs:List UInt8},Own w1 wa v bs→Own w wa v bs:=fun h=>⟨h.is,fun k hk=>(own h k hk).2⟩
 refine LdK.fld b18 (x:=f.2.2.2.1) rfl ?_
 refine ifB.ne (fun hne=>?_) (fun hk1=>?_)
 ·rw [if_pos hne]
  exact ⟨r,rfl,up hr,F⟩
 rw [if_neg (fun t=>t hk1)]
 have hev:(packF (frE f) ts tr).2=0:=by
  unfold checkFr at he
  split at he
  ·cases he
  split at he
  ·cases he
  first | rw [if_pos hk1] at he | skip
  unfold packF;rw [if_neg (fun t=>t he)]
 refine fr_ev b18 ?_
 refine CallK.of (event_spec (frE f) hT hz ts hts tr w18 fun _ wa fa=>ht wa (F.trans fa)) ?_
 rintro _ w19 ⟨q,rfl,hq,f19,qf⟩
 refine ⟨(q,(packF (frE f) ts tr).2,()),rfl,?_⟩
 dsimp only
 refine ifB.f (by rw [hev];rfl) ?_
 have hpl:=packF_len (frE f) hz ts hts tr
 refine (hr.keep0 f19).app (by have:=f19.size;omega) hq.rd (by omega) fun o w20 ho f20=>?_
 exact ⟨o,rfl,up ho,q1 (F.trans f19) (by have:=f19.size;omega) (hr.keep0 f19) f20⟩
theorem seal_spec (kb:List UInt8) (hk:kb.length=16) (f:FrT) (hT:ifcT (frE f).2.2.2.2.2.2.2.1) (hz:smallE (frE f)) (hh:0≤f.2.2.2.2.2.1∧f.2.2.2.2.2.1<18446744073709551616) (ts:List UInt8) (hts:ts.length≤1000000) (tr:Int) (w:World) (ht:Wrote w (frE f).2.2.2.2.2.2.2.1 ts tr) :
  Ret Tryz.prog 8 #[.agg (keyL kb).toArray,frA f] w fun r w'=>∃ v:Sl,r=.tuple #[.slice v.1 v.2.1 v.2.2,.int .i64 (sealF kb f ts tr).2]∧Own w w' v (sealF kb f ts tr).1∧Fr none1 w w':=by
 refine c8 (keyL kb) f w _ ?_
 unfold C8
 refine NewK.of fun g0 w0 hg0 hb0 f0 _=>NewK.of fun g1 w1 hg1 hb1 f1 hs1=>?_
 have hb1:w1.heap[g1]? = some (.cells (frL f).toArray 38 (0,0)):=hb1
 have f01:=f0.trans f1
 refine LdsK.blk (cks:=FK) (x:=f) hb1 ?_
 refine CallK.of (body_spec f hT hz hh ts hts tr w1 (ht.keep f01)) ?_
 rintro _ w2 ⟨v,rfl,hv,f2⟩
 refine ⟨(v,(bytesFr f ts tr).2,()),rfl,?_⟩
 have F:=f01.trans f2
 have hbl:(bytesFr f ts tr).1.length≤10000035:=by
  have:=packF_len (frE f) hz ts hts tr
  have:=top_len f
  unfold bytesFr
  split
  ·simp
  split
  ·dsimp only;omega
  ·dsimp only;rw [List.length_append];omega
 unfold sealF
 dsimp only
 have s01:=f01.size
 refine ifB.ne (fun hne=>?_) (fun he=>?_)
 ·rw [if_pos hne]
  exact ⟨(none,0,0),rfl,⟨none_b w2,fun k ⟨a,ha,_⟩=>by cases ha⟩,F⟩
 rw [if_neg (fun t=>t he)]
 generalize (bytesFr f ts tr).1=bs at *
 refine LdaK.of (f2.keep0 (f1.keep0 hb0)) (by simp [keyL,hk]) ?_
 refine CallK.of (sip_spec hk hv.is.rd hv.is.cap (by omega)) ?_
 rintro _ w3 ⟨rfl,f3⟩
 refine ⟨_,rfl,?_⟩
 have hr:=sum_rng kb bs
 refine hedK _ hr.1 hr.2 w3 fun u w4 hu f4=>?_
 have f24:=f3.trans f4
 have s24:=f24.size;have s2:=f2.size
 refine (hv.keep0 f24).app (by omega) hu.rd (by rw [hed_len];omega) fun o w5 ho f5=>?_
 exact ⟨o,rfl,⟨ho.is,fun k hk=>by have:=ho.lo k hk;omega⟩,(F.trans f24).comp f5 fun k hk t=>by have:=hv.lo k t;omega⟩
abbrev FrM:=Int×Int×Int×Int×Int×Int×Bool×EvM
def FrM.f (m:FrM):FrT:=(m.1,m.2.1,m.2.2.1,m.2.2.2.1,m.2.2.2.2.1,m.2.2.2.2.2.1,m.2.2.2.2.2.2.1,m.2.2.2.2.2.2.2.e)
def FrM.m (m:FrM):EvM:=m.2.2.2.2.2.2.2
def zeroFr:FrM:=(0,0,0,0,0,0,false,zeroM)
def bytesM (m:FrM):List UInt8×Int:=bytesFr m.f (writeT m.m.t).1 (writeT m.m.t).2
def sealM (kb:List UInt8) (m:FrM):List UInt8×Int:=sealF kb m.f (writeT m.m.t).1 (writeT m.m.t).2
def partL (bs:List UInt8) (a b:Nat):List UInt8:=(bs.drop a).take (b - a)
def parseF (bs:List UInt8):FrM:=
 (((bs.getD 0 0).toNat:Int),(takeL (partL bs 1 9)).1,(takeL (partL bs 9 17)).1,((bs.getD 17 0).toNat:Int),(takeL (partL bs 18 26)).1,(lowL (partL bs 26 34):Int),(bs.getD 34 0).toNat==1,
  if (bs.getD 17 0).toNat=1 then (takeP false (bs.drop 35)).1 else zeroM)
def textL (bs:List UInt8):List UInt8:=bs.take (bs.length - 8)
def tailL (bs:List UInt8):List UInt8:=bs.drop (bs.length - 8)
def openF (kb bs:List UInt8):FrM×Int:=
 if bs.length<8 then (zeroFr,2) else if tailL bs≠hedL (sumI kb (textL bs)) then (zeroFr,12) else if (textL bs).length<35 then (zeroFr,2)
 else if (bytesM (parseF (textL bs))).2≠0∨(bytesM (parseF (textL bs))).1≠textL bs then (zeroFr,2) else (parseF (textL bs),0)
theorem counts_rng {n:Int} (h:countsF n=true):0≤n∧n≤2147483647:=by
 unfold countsF at h
 simp only [Bool.and_eq_true,decide_eq_true_eq] at h
 exact h
theorem check_fr {f:FrT} {tr:Int} (h:checkFr f tr=0):(f.1=0∨f.1=1)∧(0≤f.2.1∧f.2.1≤2147483647)∧(0≤f.2.2.1∧f.2.2.1≤2147483647)∧(0≤f.2.2.2.2.1∧f.2.2.2.2.1≤2147483647)∧(1≤f.2.2.2.1∧f.2.2.2.1≤4) ∧
  (f.2.2.2.1=1→checkF (frE f) tr=0)∧(f.2.2.2.1≠1→noneF (frE f)=true):=by
 unfold checkFr at h
 by_cases h1:headF f=false
 ·rw [if_pos h1] at h;cases h
 rw [if_neg h1] at h
 by_cases h2:kindF f=false
 ·rw [if_pos h2] at h;cases h
 rw [if_neg h2] at h
 have h1:headF f=true:=by simpa using h1
 have h2:kindF f=true:=by simpa using h2
 unfold headF at h1
 simp only [Bool.and_eq_true,Bool.or_eq_true,beq_iff_eq] at h1
 obtain ⟨a,b,c,d⟩:=h1
 unfold kindF at h2
 rw [Bool.and_eq_true,Bool.and_eq_true,decide_eq_true_eq,decide_eq_true_eq] at h2
 refine ⟨a,counts_rng b,counts_rng c,counts_rng d,⟨h2.1,h2.2.1⟩,fun k=>?_,fun k=>?_⟩
 ·rw [if_pos k] at h;exact h
 ·rw [if_neg k] at h
  by_cases hn:noneF (frE f)=false
  ·rw [if_pos hn] at h;cases h
  ·simpa using hn
theorem none_zero {m:EvM} (h:noneF m.e=true):m=zeroM:=by
 unfold noneF at h
 simp only [Bool.and_eq_true,beq_iff_eq] at h
 obtain ⟨ht,h1,h2,h3,h4,h5,h6,h7⟩:=h
 obtain ⟨a1,a2,a3,a4,a5,a6,a7,a8⟩:=m
 simp only [EvM.e] at ht h1 h2 h3 h4 h5 h6 h7
 rw [z47z,decide_eq_true_eq] at h2 h3 h4 h5
 obtain rfl:=z42z ht
 subst h1 h2 h3 h4 h5 h6 h7
 rfl
theorem bytes_ok {m:FrM} {bs:List UInt8} (h:bytesM m=(bs,0)):checkFr m.f (writeT m.m.t).2=0∧bs=topB m.f++(if m.2.2.2.1=1 then (packM m.m).1 else [])∧(m.2.2.2.1=1→(packM m.m).2=0):=by
 unfold bytesM bytesFr at h
 by_cases h0:checkFr m.f (writeT m.m.t).2≠0
 ·rw [if_pos h0] at h;injection h with _ h;exact (h0 h).elim
 rw [if_neg h0] at h
 have h0:checkFr m.f (writeT m.m.t).2=0:=Classical.not_not.1 h0
 refine ⟨h0,?_,fun k=>?_⟩
 ·by_cases k:m.2.2.2.1=1
  ·rw [if_pos k]
   rw [if_neg (fun t=>t k)] at h
   injection h with h _
   exact h.symm
  ·rw [if_neg k]
   rw [if_pos (show m.f.2.2.2.1≠1 from k)] at h
   injection h with h _
   rw [← h,List.append_nil]
 ·have:=(check_fr h0).2.2.2.2.2.1 k
  show (packF m.m.e _ _).2=0
  unfold packF
  rw [if_neg (fun t=>t this)]
theorem seal_ok {kb:List UInt8} {m:FrM} (h:(sealM kb m).2=0):bytesM m=((bytesM m).1,0)∧(sealM kb m).1=(bytesM m).1++hedL (sumI kb (bytesM m).1):=by
 unfold sealM sealF at h ⊢
 by_cases h0:(bytesFr m.f (writeT m.m.t).1 (writeT m.m.t).2).2≠0
 ·rw [if_pos h0] at h;exact (h0 h).elim
 ·rw [if_neg h0]
  exact ⟨Prod.ext rfl (Classical.not_not.1 h0),rfl⟩
theorem frM_one (m:FrM):(frL m.f).all one1=true:=frL_one (Tm.v_one _)
theorem parse_spec {w:World} {v:Sl} {bs:List UInt8} (h:RdB w v bs) (hc:v.2.1≤v.2.2) (hl:35≤bs.length) (ht:TabW w):Ret Tryz.prog 40 #[.slice v.1 v.2.1 v.2.2] w fun r w'=>r=frA (parseF bs).f∧Fr none1 w w':=by
 refine c40 v.1 v.2.1 v.2.2 w _ ?_
 unfold C40
 have hvl:=h.len
 refine NewK.of fun g1 w1 hg1 hb1 f1 hs1=>?_
 have hb1:w1.heap[g1]? = some (.cells (frL zeroFr.f).toArray 38 (0,0)):=hb1
 refine DrewK.of fun w2 _ f2=>HoldK.of (fun k=>k<w.heap.size) ?_
 have f12:=f1.trans f2
 have h2:=h.keep0 f12
 have hne:bs≠[]:=fun t=>by rw [t] at hl;simp at hl
 have hS:∀ a,v.1=some a→(fun k=>k<w.heap.size) a.block:=fun a ha=>h.ltE hne ⟨a,ha,rfl⟩
 refine IdxK.ink hS (RdB.at h2 (by decide) (by omega) (IdxK.ink hS (RdB.at h2 (by decide) (by omega) (IdxK.ink hS (RdB.at h2 (by decide) (by omega) ?_)))))
 rw [show Int.toNat 0=0 by rfl,show Int.toNat 17=17 by rfl,show Int.toNat 34=34 by rfl]
 have b0:=(bs.getD 0 0).toNat_lt
 have b17:=(bs.getD 17 0).toNat_lt
 rw [wI (x:=((bs.getD 0 0).toNat:Int)) (by omega) (by omega),wI (x:=((bs.getD 17 0).toNat:Int)) (by omega) (by omega)]
 have s12:=f12.size
 refine NewK.of fun g w3 hg hb3 f3 hs3=>KeepK.of f3 ?_
 obtain ⟨fl,hfl⟩:∃ fl,fl=(((bs.getD 34 0).toNat:Int)==1):=⟨_,rfl⟩
 rw [← hfl]
 obtain ⟨X,hX⟩:∃ X:FrM,X=(((bs.getD 0 0).toNat:Int),0,0,((bs.getD 17 0).toNat:Int),0,0,fl,zeroM):=⟨_,rfl⟩
 refine StsK.blk (cs:=frL zeroFr.f) (vs:=frL (EvM.e zeroM |> fun e=>((((bs.getD 0 0).toNat:Int),0,0,((bs.getD 17 0).toNat:Int),0,0,fl,e):FrT))) hb3 rfl (frL_one rfl) fun w4 hb4 f4 hs4=>KeepK.on f4 (fun k hk t=>by have:k=g:=t;omega) ?_
 have F4:Fr none1 w w4:=(f12.trans f3).fresh f4 (by omega)
 have g14:=f4.keep (f3.keep0 (f2.keep0 hb1)) (fun t=>by have:g1=g:=t;have:=z3z hb1;have:=f2.size;omega)
 have h4:=h.keep0 F4
 refine RdB.mid h4 (by decide) (by decide) (by omega) hc fun u1 hu1 _ _ _=>?_
 refine CallK.of (ptake_spec hu1) ?_
 rintro _ _ ⟨rfl,rfl⟩
 refine ⟨((takeL (partL bs 1 9)).1,(takeL (partL bs 1 9)).2,()),rfl,?_⟩
 refine StK.fld hb4 (by show 0+1<15;omega) rfl fun w5 hb5 f5 _=>?_
 have F5:Fr none1 w w5:=F4.fresh f5 (by omega)
 have h5:=h.keep0 F5
 have g15:=f5.keep g14 (fun t=>by have:g1=g:=t;have:=z3z hb1;have:=f2.size;omega)
 refine RdB.mid h5 (by decide) (by decide) (by omega) hc fun u2 hu2 _ _ _=>?_
 refine CallK.of (ptake_spec hu2) ?_
 rintro _ _ ⟨rfl,rfl⟩
 refine ⟨((takeL (partL bs 9 17)).1,(takeL (partL bs 9 17)).2,()),rfl,?_⟩
 refine StK.fld hb5 (by show 0+2<15;omega) rfl fun w6 hb6 f6 _=>?_
 have F6:Fr none1 w w6:=F5.fresh f6 (by omega)
 have h6:=h.keep0 F6
 have g16:=f6.keep g15 (fun t=>by have:g1=g:=t;have:=z3z hb1;have:=f2.size;omega)
 refine RdB.mid h6 (by decide) (by decide) (by omega) hc fun u3 hu3 _ _ _=>?_
 refine CallK.of (ptake_spec hu3) ?_
 rintro _ _ ⟨rfl,rfl⟩
 refine ⟨((takeL (partL bs 18 26)).1,(takeL (partL bs 18 26)).2,()),rfl,?_⟩
 refine StK.fld hb6 (by show 0+4<15;omega) rfl fun w7 hb7 f7 _=>?_
 have F7:Fr none1 w w7:=F6.fresh f7 (by omega)
 have h7:=h.keep0 F7
 have g17:=f7.keep g16 (fun t=>by have:g1=g:=t;have:=z3z hb1;have:=f2.size;omega)
 refine RdB.mid h7 (by decide) (by decide) (by omega) hc fun u4 hu4 _ _ _=>?_
 have hp8:(partL bs 26 34).length=8:=by unfold partL;rw [List.length_take,List.length_drop];omega
 have hu4:RdB w7 u4 (partL bs 26 34):=hu4
 refine CallK.of (snumber_spec hu4) ?_
 rintro _ _ ⟨rfl,rfl⟩
 rw [if_pos hp8]
 refine ⟨((lowL (partL bs 26 34):Int),decide ((partL bs 26 34).length=8),()),rfl,?_⟩
 refine StK.fld hb7 (by show 0+5<15;omega) rfl fun w8 hb8 f8 _=>?_
 have F8:Fr none1 w w8:=F7.fresh f8 (by omega)
 have h8:=h.keep0 F8
 have g18:=f8.keep g17 (fun t=>by have:g1=g:=t;have:=z3z hb1;have:=f2.size;omega)
 have hb8:w8.heap[g]? = some (.cells (frL (FrM.f (((bs.getD 0 0).toNat:Int),(takeL (partL bs 1 9)).1,(takeL (partL bs 9 17)).1,((bs.getD 17 0).toNat:Int),(takeL (partL bs 18 26)).1,(lowL (partL bs 26 34):Int),fl,zeroM))).toArray 38 (0,0)):=by rw [hb8];rfl
 have fin:∀ (Y:FrM) (w9:World),w9.heap[g]? = some (.cells (frL Y.f).toArray 38 (0,0))→w9.heap[g1]? = some (.cells (frL zeroFr.f).toArray 38 (0,0))→Fr none1 w w9→Y=parseF bs →
   LdsK FK ⟨g,0,none⟩ w9 (fun (x45:Cs FK)=>StsK ⟨g1,0,none⟩ (Cs.vals FK x45) w9 (fun w46=>LdsK FK ⟨g1,0,none⟩ w46 (fun (x47:Cs FK)=>(Value.agg (Cs.vals FK x47).toArray)=frA (parseF bs).f∧Fr none1 w w46))):=fun Y w9 hY h1 F9 e=>by
  subst e
  refine LdsK.blk (cks:=FK) (x:=(parseF bs).f) hY ?_
  refine StsK.blk (cs:=frL zeroFr.f) (vs:=frL (parseF bs).f) h1 rfl (frM_one _) fun w10 hb10 f10 _=>LdsK.blk (cks:=FK) (x:=(parseF bs).f) hb10 ?_
  exact ⟨rfl,F9.fresh f10 (by omega)⟩
 have hfl':((bs.getD 34 0).toNat==1)=fl:=by
  rw [hfl,Bool.eq_iff_iff];simp only [beq_iff_eq];omega
 refine LdK.fld hb8 (x:=((bs.getD 17 0).toNat:Int)) rfl ?_
 refine ifB.eq (fun h1=>?_) (fun h1=>?_)
 ·refine RdB.mid h8 (by decide) (by omega) (Int.le_refl _) hc fun u5 hu5 hu5c _ _=>?_
  have e35:(bs.drop (35:Int).toNat).take ((v.2.1:Int) - 35).toNat=bs.drop 35:=by
   rw [show (35:Int).toNat=35 by rfl]
   exact List.take_of_length_le (by rw [List.length_drop];omega)
  rw [e35] at hu5
  refine CallK.of (take_spec hu5 hu5c (ht.keep0 F8)) ?_
  rintro _ w9 ⟨rfl,f9⟩
  refine ⟨((takeP false (bs.drop 35)).1.e,(takeP false (bs.drop 35)).2,()),rfl,?_⟩
  have e:parseF bs=(((bs.getD 0 0).toNat:Int),(takeL (partL bs 1 9)).1,(takeL (partL bs 9 17)).1,((bs.getD 17 0).toNat:Int),(takeL (partL bs 18 26)).1,(lowL (partL bs 26 34):Int),fl,(takeP false (bs.drop 35)).1):=by
   unfold parseF;rw [if_pos (by omega),hfl']
  obtain ⟨a1,a2,a3,a4⟩:=z19z (T:=38) (b:=g) (evL (takeP false (bs.drop 35)).1.e) w9 [.int .i64 ((bs.getD 0 0).toNat:Int),.int .i64 (takeL (partL bs 1 9)).1,.int .i64 (takeL (partL bs 9 17)).1,.int .i64 ((bs.getD 17 0).toNat:Int),.int .i64 (takeL (partL bs 18 26)).1,.int .u64 (lowL (partL bs 26 34):Int),.bool fl] (evL zeroM.e) (f9.keep0 hb8) rfl (evL_one (Tm.v_one _))
  refine ⟨z20z _ _ 0 a1,?_⟩
  rw [z11z]
  refine fin _ _ ?_ (a3.keep (f9.keep0 g18) (fun t=>by have:g1=g:=t;have:=z3z hb1;have:=f2.size;omega)) ((F8.trans f9).fresh a3 (by omega)) e.symm
  exact a2
 ·refine fin _ w8 hb8 g18 F8 ?_
  unfold parseF;rw [if_neg (by omega),hfl']
theorem parse_small (bs:List UInt8):smallM (parseF bs).m:=by
 unfold parseF
 show smallM (if (bs.getD 17 0).toNat=1 then (takeP false (bs.drop 35)).1 else zeroM)
 have hz:smallM zeroM:=⟨by decide,by decide,by decide,by decide,by decide⟩
 split
 ·unfold takeP;split
  ·exact takeM_small false _
  ·exact hz
 ·exact hz
theorem parse_head (bs:List UInt8):0≤(parseF bs).2.2.2.2.2.1∧(parseF bs).2.2.2.2.2.1<18446744073709551616:=by
 unfold parseF
 dsimp only
 have h:=low_lt (partL bs 26 34)
 have h2:256 ^ (partL bs 26 34).length≤256 ^ 8:=Nat.pow_le_pow_right (by decide) (by unfold partL;rw [List.length_take];omega)
 have:(256:Nat) ^ 8=18446744073709551616:=by decide
 omega
theorem fbody_m (m:FrM) (hs:smallE m.m.e) (hn:nodesT m.m.t≤1000000) (hh:0≤m.2.2.2.2.2.1∧m.2.2.2.2.2.1<18446744073709551616) (w:World) (ht:TabW w) :
  Ret Tryz.prog 30 #[frA m.f] w fun r w'=>∃ v:Sl,r=.tuple #[.slice v.1 v.2.1 v.2.2,.int .i64 (bytesM m).2]∧Own w w' v (bytesM m).1∧Fr none1 w w':=by
 have hl:=z32z m.m.t
 exact body_spec m.f (ifc_v m.m.t) hs hh (writeT m.m.t).1 (by omega) (writeT m.m.t).2 w (wrote_tm m.m.t hn ht)
theorem fseal_m (kb:List UInt8) (hk:kb.length=16) (m:FrM) (hs:smallE m.m.e) (hn:nodesT m.m.t≤1000000) (hh:0≤m.2.2.2.2.2.1∧m.2.2.2.2.2.1<18446744073709551616) (w:World) (ht:TabW w) :
  Ret Tryz.prog 8 #[.agg (keyL kb).toArray,frA m.f] w fun r w'=>∃ v:Sl,r=.tuple #[.slice v.1 v.2.1 v.2.2,.int .i64 (sealM kb m).2]∧Own w w' v (sealM kb m).1∧Fr none1 w w':=by
 have hl:=z32z m.m.t
 exact seal_spec kb hk m.f (ifc_v m.m.t) hs hh (writeT m.m.t).1 (by omega) (writeT m.m.t).2 w (wrote_tm m.m.t hn ht)
theorem fopen_spec (kb:List UInt8) (hk:kb.length=16) {w:World} {v:Sl} {bs:List UInt8} (h:RdB w v bs) (hc:v.2.1≤v.2.2) (hl:bs.length≤140737488355300) (ht:TabW w) :
  Ret Tryz.prog 18 #[.agg (keyL kb).toArray,.slice v.1 v.2.1 v.2.2] w fun r w'=>r=.tuple #[frA (openF kb bs).1.f,.int .i64 (openF kb bs).2]∧Fr none1 w w':=by
 refine c18 (keyL kb) v.1 v.2.1 v.2.2 w _ ?_
 unfold C18
 have hvl:=h.len
 refine NewK.of fun g0 w0 hg0 hb0 f0 hs0=>NewK.of fun g w1 hg hb1 f1 hs1=>?_
 have hb1:w1.heap[g]? = some (.cells (frL zeroFr.f).toArray 38 (0,0)):=hb1
 have f01:=f0.trans f1
 have fail:∀ (code:Int),openF kb bs=(zeroFr,code)→∀ w2,w2.heap[g]? = some (.cells (frL zeroFr.f).toArray 38 (0,0))→Fr none1 w w2→StsK ⟨g,0,none⟩ (frL zeroFr.f) w2 (fun w5=>LdsK FK ⟨g,0,none⟩ w5 (fun (x6:Cs FK)=>(Value.tuple #[.agg (Cs.vals FK x6).toArray,.int .i64 code])=.tuple #[frA (openF kb bs).1.f,.int .i64 (openF kb bs).2]∧Fr none1 w w5)):=fun code e w2 hb f2=>by
  rw [e]
  refine StsK.blk (cs:=frL zeroFr.f) (vs:=frL zeroFr.f) hb rfl (frM_one zeroFr) fun w3 hb3 f3 _=>LdsK.blk (cks:=FK) (x:=zeroFr.f) hb3 ?_
  exact ⟨rfl,f2.fresh f3 (by omega)⟩
 have s01:=f01.size
 have hO:openF kb bs=if bs.length<8 then (zeroFr,2) else if tailL bs≠hedL (sumI kb (textL bs)) then (zeroFr,12) else if (textL bs).length<35 then (zeroFr,2)
   else if (bytesM (parseF (textL bs))).2≠0∨(bytesM (parseF (textL bs))).1≠textL bs then (zeroFr,2) else (parseF (textL bs),0):=rfl
 refine ifB.dec (fun hlt=>?_) (fun hge=>?_)
 ·exact fail 2 (by rw [hO,if_pos (by omega)]) w1 hb1 f01
 rw [if_neg (by omega)] at hO
 refine DrewK.of fun w2 _ f2=>?_
 have f02:=f01.trans f2
 have hb2:=f2.keep0 hb1
 have h2:=h.keep0 f02
 rw [wI (x:=(v.2.1:Int) - 8) (by omega) (by omega)]
 obtain ⟨n,hn⟩:∃ n,n=bs.length - 8:=⟨_,rfl⟩
 refine RdB.sub h2 (by omega) (by omega) hc fun hT=>?_
 refine RdB.mid h2 (by omega) (by omega) (Int.le_refl _) hc fun u hu huc hul hub=>?_
 have en:((v.2.1:Int) - 8).toNat=n:=by omega
 have e8:((v.2.1:Int) - ((v.2.1:Int) - 8)).toNat=8:=by omega
 rw [en] at hT hu ⊢
 rw [e8,List.take_of_length_le (by rw [List.length_drop];omega)] at hu
 have hnc:n≤v.2.2:=by omega
 have etx:textL bs=bs.take n:=by unfold textL;rw [hn]
 have etl:tailL bs=bs.drop n:=by unfold tailL;rw [hn]
 rw [← etx] at hT
 rw [← etl] at hu
 have htl:(textL bs).length=n:=by rw [etx,List.length_take];omega
 refine LdaK.of (f2.keep0 (f1.keep0 hb0)) (by simp [keyL,hk]) ?_
 refine CallK.of (sip_spec (v:=(v.1,n,v.2.2)) hk hT hnc (by omega)) ?_
 rintro _ w3 ⟨rfl,f3⟩
 refine ⟨_,rfl,?_⟩
 have hr:=sum_rng kb (textL bs)
 refine hedK _ hr.1 hr.2 w3 fun q w4 hq f4=>?_
 have f24:=f3.trans f4
 refine CallK.of (ssame_spec (hu.keep0 f24) hq.rd) ?_
 rintro _ _ ⟨rfl,rfl⟩
 refine ⟨_,rfl,?_⟩
 have f04:=f02.trans f24
 have hb4:=f24.keep0 hb2
 refine ifB.not (ifB.by (fun heq=>?_) (fun hne=>fail 12 (by rw [hO,if_pos (by intro t;rw [t] at hne;simp at hne)]) w4 hb4 f04))
 rw [if_neg (by simpa using heq)] at hO
 refine ifB.dec (fun hlt=>?_) (fun hge35=>?_)
 ·exact fail 2 (by rw [hO,if_pos (by omega)]) w4 hb4 f04
 rw [if_neg (by omega)] at hO
 have hT4:=hT.keep0 f24
 have hsm:=parse_small (textL bs)
 have hph:=parse_head (textL bs)
 refine CallK.of (parse_spec (v:=(v.1,n,v.2.2)) hT4 hnc (by omega) (ht.keep0 f04)) ?_
 rintro _ w5 ⟨rfl,f5⟩
 generalize textL bs=tx at *
 generalize parseF tx=X at *
 refine ⟨X.f,rfl,?_⟩
 refine ns_ok (zs:=frL zeroFr.f) (vs:=frL X.f) rfl (frM_one X) fun g6 w6 hg6 hb6 f6=>?_
 have f46:=f5.trans f6
 have f06:=f04.trans f46
 refine LdsK.blk (cks:=FK) (x:=X.f) hb6 ?_
 refine CallK.of (fbody_m X hsm.e hsm.2.2.2.2 hph w6 (ht.keep0 f06)) ?_
 rintro _ w7 ⟨y,rfl,hy,f7⟩
 refine ⟨(y,(bytesM X).2,()),rfl,?_⟩
 have f07:=f06.trans f7
 have hb7:=f7.keep0 (f46.keep0 hb4)
 dsimp only
 refine ifB.ne (fun hne=>?_) (fun he=>?_)
 ·exact fail 2 (by rw [hO,if_pos (.inl hne)]) w7 hb7 f07
 refine CallK.of (bequal_spec (u:=(v.1,n,v.2.2)) hy.is.rd ((hT4.keep0 f46).keep0 f7)) ?_
 rintro _ _ ⟨rfl,rfl⟩
 refine ⟨_,rfl,ifB.not (ifB.by (fun heq2=>?_) (fun hne2=>?_))⟩
 ·rw [if_neg (by rw [he];simpa using heq2)] at hO
  rw [hO]
  refine LdsK.blk (cks:=FK) (x:=X.f) (f7.keep0 hb6) ?_
  refine StsK.blk (cs:=frL zeroFr.f) (vs:=frL X.f) hb7 rfl (frM_one X) fun w8 hb8 f8 _=>LdsK.blk (cks:=FK) (x:=X.f) hb8 ?_
  exact ⟨rfl,f07.fresh f8 (by omega)⟩
 ·exact fail 2 (by rw [hO,if_pos (.inr (by intro t;rw [t] at hne2;simp at hne2))]) w7 hb7 f07
def zeroK:List UInt8:=List.replicate 16 0
def wantM:FrM:=(0,0,0,3,0,0,false,zeroM)
theorem want_ok:(sealM zeroK wantM).2=0∧(sealM zeroK wantM).1.length=43:=by
 have hb:bytesFr wantM.f (writeT wantM.m.t).1 (writeT wantM.m.t).2=(topB wantM.f,0):=by
  have:checkFr wantM.f (writeT wantM.m.t).2=0:=by simp [checkFr,headF,countsF,kindF,noneF,wantM,FrM.f,frE,EvM.e,zeroM,nilT,Tm.v,z47z]
  unfold bytesFr
  rw [if_neg (by rw [this];decide),if_pos (show wantM.f.2.2.2.1≠1 by decide)]
 unfold sealM sealF
 rw [hb,if_neg (by decide)]
 exact ⟨rfl,by dsimp only;rw [List.length_append,top_len,hed_len]⟩
theorem open_nil (kb:List UInt8):openF kb []=(zeroFr,2):=by unfold openF;rw [if_pos (by decide)]
theorem wakes19_spec (w:World) (ht:TabW w):Ret Tryz.prog 10 #[] w fun r w'=>r=.bool true∧Fr none1 w w':=by
 refine c10 w _ ?_
 unfold C10
 refine CallK.of (fopen_spec zeroK rfl (v:=(none,0,0)) (bs:=[]) (none_rd w) (Nat.le_refl _) (by decide) ht) ?_
 rintro _ w1 ⟨rfl,f1⟩
 rw [open_nil]
 refine ⟨(zeroFr.f,2,()),rfl,?_⟩
 refine ns_skip (zs:=frL zeroFr.f) (vs:=frL zeroFr.f) rfl (frM_one zeroFr) fun w2 f2=>?_
 have f12:=f1.trans f2
 refine CallK.of (fseal_m zeroK rfl wantM ⟨by decide,by decide,by decide,by decide⟩ (by decide) (by decide) w2 (ht.keep0 f12)) ?_
 rintro _ w3 ⟨v,rfl,hv,f3⟩
 obtain ⟨h1,h2⟩:=want_ok
 refine ⟨(v,(sealM zeroK wantM).2,()),rfl,?_⟩
 have hvl:=hv.is.len
 rw [h2] at hvl
 refine ifB.t rfl (ifB.t (by rw [h1];rfl) ?_)
 refine ⟨?_,f12.trans f3⟩
 dsimp only
 rw [hvl];rfl
def C105 (p0:Value) (w:World) (K:Value→World→Prop):Prop:=
 TaK p0 108 (.agg [.int .i64]) (fun (x1:Int×Unit)=>K (.int .i64 1) w)
 (TaK p0 210 (.agg [.str]) (fun (x2:ByteArray×Unit)=>K (.int .i64 2) w)
 (TaK p0 252 (.agg [.raw,.raw]) (fun (x3:Value×Value×Unit)=>K (.int .i64 3) w)
 (TaK p0 254 (.agg [.raw]) (fun (x4:Value×Unit)=>K (.int .i64 4) w)
 (TaK p0 255 (.agg [.raw,.raw]) (fun (x5:Value×Value×Unit)=>K (.int .i64 5) w)
 (TaK p0 256 (.agg [.raw,.raw]) (fun (x6:Value×Value×Unit)=>K (.int .i64 6) w)
 (K (.int .i64 0) w))))))
def pl105:Plan:=.auto
theorem c105 (p0:Value) (w:World) (K:Value→World→Prop) (h:C105 p0 w K):Ret Tryz.prog 105 #[p0] w K:=z0z (by kernel_rfl) Tryz.func105 (p:=pl105) (Eq.mpr (by kernel_rfl) h)
def C75 (p0:Value) (p1:Value) (w:World) (K:Value→World→Prop):Prop:=
 CallK Tryz.prog 105 #[p0] w (.v (.one (.int .i64))) (fun (x1:Int) w2=>ifB (x1==0)
 (K (.bool false) w2)
 (CallK Tryz.prog 105 #[p0] w2 (.v (.one (.int .i64))) (fun (x3:Int) w4=>CallK Tryz.prog 105 #[p1] w4 (.v (.one (.int .i64))) (fun (x5:Int) w6=>ifB (x3 != x5)
 (K (.bool false) w6)
 (TaK p0 108 (.agg [.int .i64]) (fun (x7:Int×Unit)=>NewK (.cells #[.int .i64 0] 108) w6 (fun g8 w9=>StsK (ad g8) [.int .i64 x7.1] w9 (fun w10=>DrewK w10 (fun w11=>LdsK [.int .i64] (ad g8) w11 (fun (x12:Int×Unit)=>TaK p1 108 (.agg [.int .i64]) (fun (x13:Int×Unit)=>RunK Tryz.prog (do eqGuard .eql 108 (.tmp 25) (.tmp 27) (.agg #[.int .i64 x12.1]) (.agg #[.int .i64 x13.1]);binOp .eql 108 (.agg #[.int .i64 x12.1]) (.agg #[.int .i64 x13.1])) w11 (.v (.one .bool)) (fun (x14:Bool) w15=>K (.bool x14) w15)) False)))))
 (NewK (.cells #[.int .i64 0] 108) w6 (fun g16 w17=>StsK (ad g16) [.int .i64 0] w17 (fun w18=>TaK p0 210 (.agg [.str]) (fun (x19:ByteArray×Unit)=>NewK (.cells #[.string (⟨#[]⟩:ByteArray)] 210) w18 (fun g20 w21=>StsK (ad g20) [.string x19.1] w21 (fun w22=>DrewK w22 (fun w23=>LdsK [.str] (ad g20) w23 (fun (x24:ByteArray×Unit)=>TaK p1 210 (.agg [.str]) (fun (x25:ByteArray×Unit)=>RunK Tryz.prog (do eqGuard .eql 210 (.tmp 35) (.tmp 37) (.agg #[.string x24.1]) (.agg #[.string x25.1]);binOp .eql 210 (.agg #[.string x24.1]) (.agg #[.string x25.1])) w23 (.v (.one .bool)) (fun (x26:Bool) w27=>K (.bool x26) w27)) False)))))
 (NewK (.cells #[.string (⟨#[]⟩:ByteArray)] 210) w18 (fun g28 w29=>StsK (ad g28) [.string (⟨#[]⟩:ByteArray)] w29 (fun w30=>CallK Tryz.prog 107 #[p0] w30 (.v (.one .slc)) (fun (x31:SlT) w32=>CallK Tryz.prog 107 #[p1] w32 (.v (.one .slc)) (fun (x33:SlT) w34=>CallK Tryz.prog 106 #[.slice x31.1 x31.2.1 x31.2.2,.slice x33.1 x33.2.1 x33.2.2,.func (.func 75) #[] #[]] w34 (.v (.one .bool)) (fun (x35:Bool) w36=>K (.bool x35) w36))))))))))))))
def pl75:Plan:=(.seq .auto (.seq .auto (.seq (.seq .auto (.seq .auto (.cond (.seq (.tail 3) .auto) .auto))) (.seq (.seq .auto (.seq .auto (.cond (.seq (.tail 3) .auto) .auto))) .auto))))
theorem c75 (p0:Value) (p1:Value) (w:World) (K:Value→World→Prop) (h:C75 p0 p1 w K):Ret Tryz.prog 75 #[p0,p1] w K:=z0z (by kernel_rfl) Tryz.func75 (p:=pl75) (Eq.mpr (by kernel_rfl) h)
def C45 (p0:Value) (p1:Value) (w:World) (K:Value→World→Prop):Prop:=
 CallK Tryz.prog 72 #[p0] w (.v (.one (.int .i64))) (fun (x1:Int) w2=>ifB (x1==0)
 (K (.bool false) w2)
 (CallK Tryz.prog 72 #[p0] w2 (.v (.one (.int .i64))) (fun (x3:Int) w4=>CallK Tryz.prog 72 #[p1] w4 (.v (.one (.int .i64))) (fun (x5:Int) w6=>ifB (x3 != x5)
 (K (.bool false) w6)
 (CallK Tryz.prog 73 #[p0] w6 (.tup [.one .str,.one (.int .i64)]) (fun (x7:ByteArray×Int×Unit) w8=>CallK Tryz.prog 73 #[p1] w8 (.tup [.one .str,.one (.int .i64)]) (fun (x9:ByteArray×Int×Unit) w10=>ifB (!(x7.1.toList==x9.1.toList))
 (K (.bool false) w10)
 (ifB (x7.2.1 != x9.2.1)
 (K (.bool false) w10)
 (CallK Tryz.prog 74 #[p0] w10 (.tup [.one .raw,.one .bool]) (fun (x11:Value×Bool×Unit) w12=>ifB x11.2.1
 (CallK Tryz.prog 74 #[p1] w12 (.tup [.one .raw,.one .bool]) (fun (x13:Value×Bool×Unit) w14=>CallK Tryz.prog 75 #[x11.1,x13.1] w14 (.v (.one .bool)) (fun (x15:Bool) w16=>ifB (!x15)
 (K (.bool false) w16)
 (CallK Tryz.prog 77 #[p0] w16 (.v (.one .slc)) (fun (x17:SlT) w18=>CallK Tryz.prog 77 #[p1] w18 (.v (.one .slc)) (fun (x19:SlT) w20=>CallK Tryz.prog 76 #[.slice x17.1 x17.2.1 x17.2.2,.slice x19.1 x19.2.1 x19.2.2,.func (.func 45) #[] #[]] w20 (.v (.one .bool)) (fun (x21:Bool) w22=>K (.bool x21) w22)))))))
 (CallK Tryz.prog 77 #[p0] w12 (.v (.one .slc)) (fun (x23:SlT) w24=>CallK Tryz.prog 77 #[p1] w24 (.v (.one .slc)) (fun (x25:SlT) w26=>CallK Tryz.prog 76 #[.slice x23.1 x23.2.1 x23.2.2,.slice x25.1 x25.2.1 x25.2.2,.func (.func 45) #[] #[]] w26 (.v (.one .bool)) (fun (x27:Bool) w28=>K (.bool x27) w28))))))))))))))
def pl45:Plan:=.auto
theorem c45 (p0:Value) (p1:Value) (w:World) (K:Value→World→Prop) (h:C45 p0 p1 w K):Ret Tryz.prog 45 #[p0,p1] w K:=z0z (by kernel_rfl) Tryz.func45 (p:=pl45) (Eq.mpr (by kernel_rfl) h)
def C106 (p0:Option Addr) (p0l p0c:Nat) (p1:Option Addr) (p1l p1c:Nat) (p2:Value) (w:World) (K:Value→World→Prop):Prop:=
 ifB ((p0l:Int) != (p1l:Int))
 (K (.bool false) w)
 (LoopK (Int×Unit) (fun _ s1 w2 next3=>ifB (decide (s1.1<(p0l:Int)))
 (IdxK p0 p0l s1.1 1 (fun a4=>LdK .raw a4 w2 (fun (x5:Value)=>IdxK p1 p1l s1.1 1 (fun a6=>LdK .raw a6 w2 (fun (x7:Value)=>callV Tryz.prog p2 [x5,x7] (.v (.one .bool)) w2 (fun (x8:Bool) w9=>ifB (!x8)
 (K (.bool false) w9)
 (next3 (IntKind.i64.wrap (s1.1+1),()) w9)))))))
 (K (.bool true) w2))
 (0,()) w)
def pl106:Plan:=(.seq .auto (.seq .auto (.seq (.seq .auto (.block (.loop [(17,.one (.int .i64))] .auto))) .auto)))
theorem c106 (p0:Option Addr) (p0l p0c:Nat) (p1:Option Addr) (p1l p1c:Nat) (p2:Value) (w:World) (K:Value→World→Prop) (h:C106 p0 p0l p0c p1 p1l p1c p2 w K):Ret Tryz.prog 106 #[.slice p0 p0l p0c,.slice p1 p1l p1c,p2] w K:=z0z (by kernel_rfl) Tryz.func106 (p:=pl106) (Eq.mpr (by kernel_rfl) h)
def C76 (p0:Option Addr) (p0l p0c:Nat) (p1:Option Addr) (p1l p1c:Nat) (p2:Value) (w:World) (K:Value→World→Prop):Prop:=
 ifB ((p0l:Int) != (p1l:Int))
 (K (.bool false) w)
 (LoopK (Int×Unit) (fun _ s1 w2 next3=>ifB (decide (s1.1<(p0l:Int)))
 (IdxK p0 p0l s1.1 1 (fun a4=>LdK .raw a4 w2 (fun (x5:Value)=>IdxK p1 p1l s1.1 1 (fun a6=>LdK .raw a6 w2 (fun (x7:Value)=>callV Tryz.prog p2 [x5,x7] (.v (.one .bool)) w2 (fun (x8:Bool) w9=>ifB (!x8)
 (K (.bool false) w9)
 (next3 (IntKind.i64.wrap (s1.1+1),()) w9)))))))
 (K (.bool true) w2))
 (0,()) w)
def pl76:Plan:=(.seq .auto (.seq .auto (.seq (.seq .auto (.block (.loop [(17,.one (.int .i64))] .auto))) .auto)))
theorem c76 (p0:Option Addr) (p0l p0c:Nat) (p1:Option Addr) (p1l p1c:Nat) (p2:Value) (w:World) (K:Value→World→Prop) (h:C76 p0 p0l p0c p1 p1l p1c p2 w K):Ret Tryz.prog 76 #[.slice p0 p0l p0c,.slice p1 p1l p1c,p2] w K:=z0z (by kernel_rfl) Tryz.func76 (p:=pl76) (Eq.mpr (by kernel_rfl) h)
def kindO:Ob→Int
 | .none=>0
 | .const _=>1
 | .fix _=>2
 | .add _ _=>3
 | .neg _=>4
 | .mul _ _=>5
 | .max _ _=>6
def sameO:Ob→Ob→Bool
 | .const n,.const m=>n==m
 | .fix s,.fix t=>s==t
 | .add a b,.add c d=>sameO a c&&sameO b d
 | .neg a,.neg c=>sameO a c
 | .mul a b,.mul c d=>sameO a c&&sameO b d
 | .max a b,.max c d=>sameO a c&&sameO b d
 | _,_=>false
def sameT:Tm→Tm→Bool
 | .zero,.zero=>true
 | .one s,.one t=>s==t
 | .give a,.give c=>sameT a c
 | .and a b,.and c d=>sameT a c&&sameT b d
 | .or s a b,.or t c d=>s==t&&(sameT a c&&sameT b d)
 | .scale o a,.scale p c=>sameO o p&&sameT a c
 | .when n a,.when m c=>n==m&&sameT a c
 | .cond o a b,.cond p c d=>sameO o p&&(sameT a c&&sameT b d)
 | _,_=>false
theorem sameO_self (o:Ob) (h:formO o=true):sameO o o=true:=by
 induction o<;>simp_all [sameO,formO]
theorem sameT_self (t:Tm) (h:formT t=true):sameT t t=true:=by
 induction t<;>simp_all [sameT,formT,sameO_self]
theorem const_eq (i j:Int) (o1 o2:Operand) (w:World) :
  (do eqGuard .eql 108 o1 o2 (.agg #[.int .i64 i]) (.agg #[.int .i64 j]);binOp .eql 108 (.agg #[.int .i64 i]) (.agg #[.int .i64 j]):Sem Value).run Tryz.prog w=.ok (.bool (i==j)) w:=by
 have hf:∃ fs,Tryz.prog.underlying 108=some (.struct fs)∧Tryz.prog.fieldsOf 108=fs:=by
  unfold Program.fieldsOf
  rw [Tryz.underlying108]
  exact ⟨_,rfl,rfl⟩
 have hu:Tryz.prog.underlying 108=some (.struct (Tryz.prog.fieldsOf 108)):=by
  obtain ⟨fs,h1,h2⟩:=hf
  rw [h1,h2]
 rw [Sem.run_bind,run_eqGuard_agg w _ _ _ _ _ _ (show Tryz.prog.eqGuardType Tryz.prog.depth 108=false by kernel_rfl),Result.andThen_ok,run_eql_struct,run_equalIn_agg w _ _ _ _ hu (by kernel_rfl)]
 have hF : (Tryz.prog.fieldsOf 108).toList = [{ name := "N", type := 3, offset := 0, embedded := false, tag := "", pkgPath := "", byteOffset := 0 }] := by
  unfold Program.fieldsOf
  rw [Tryz.underlying108]
 have p0:∀ (v:Value),(part 3 #[v] 0).run Tryz.prog w=.ok v w:=fun v=>by simp [part,isAgg,under Tryz.underlying3]
 rw [hF]
 have q1:(Op.equalIn 9999 3 (.int .i64 i) (.int .i64 j)).run Tryz.prog w=.ok (i==j) w:=run_equalIn_int w 9998 _ _ _ _ _ Tryz.underlying3
 simp only [Op.eqFields, ne_eq, if_pos (show ¬ ("N" = "_") by decide), Sem.run_bind, p0, Result.andThen_ok, q1]
 by_cases hij:i=j
 ·subst hij;simp
 ·simp [hij]
theorem fix_eq (x y:ByteArray) (o1 o2:Operand) (w:World) :
  (do eqGuard .eql 210 o1 o2 (.agg #[.string x]) (.agg #[.string y]);binOp .eql 210 (.agg #[.string x]) (.agg #[.string y]):Sem Value).run Tryz.prog w=.ok (.bool (x.toList==y.toList)) w:=by
 have hf:∃ fs,Tryz.prog.underlying 210=some (.struct fs)∧Tryz.prog.fieldsOf 210=fs:=by
  unfold Program.fieldsOf
  rw [Tryz.underlying210]
  exact ⟨_,rfl,rfl⟩
 have hu:Tryz.prog.underlying 210=some (.struct (Tryz.prog.fieldsOf 210)):=by
  obtain ⟨fs,h1,h2⟩:=hf
  rw [h1,h2]
 rw [Sem.run_bind,run_eqGuard_agg w _ _ _ _ _ _ (show Tryz.prog.eqGuardType Tryz.prog.depth 210=false by kernel_rfl),Result.andThen_ok,run_eql_struct,run_equalIn_agg w _ _ _ _ hu (by kernel_rfl)]
 have hF : (Tryz.prog.fieldsOf 210).toList = [{ name := "Name", type := 9, offset := 0, embedded := false, tag := "", pkgPath := "", byteOffset := 0 }] := by
  unfold Program.fieldsOf
  rw [Tryz.underlying210]
 have p0:∀ (v:Value),(part 9 #[v] 0).run Tryz.prog w=.ok v w:=fun v=>by simp [part,isAgg,under Tryz.underlying9]
 rw [hF]
 have q1:(Op.equalIn 9999 9 (.string x) (.string y)).run Tryz.prog w=.ok (x.toList==y.toList) w:=run_equalIn_string w 9998 _ _ _ Tryz.underlying9
 simp only [Op.eqFields, ne_eq, if_pos (show ¬ ("Name" = "_") by decide), Sem.run_bind, p0, Result.andThen_ok, q1]
 cases x.toList==y.toList<;>simp
theorem okind_spec (o:Ob) (w:World):Ret Tryz.prog 105 #[o.v] w fun r w'=>r=.int .i64 (kindO o)∧w=w':=by
 refine c105 o.v w _ ?_
 cases o with
 | none=>exact TaK.nil rfl (TaK.nil rfl (TaK.nil rfl (TaK.nil rfl (TaK.nil rfl (TaK.nil rfl ⟨rfl,rfl⟩)))))
 | const n=>exact TaK.hit (n,()) rfl ⟨rfl,rfl⟩
 | fix s=>exact TaK.miss rfl (by decide) (TaK.hit (str s,()) rfl ⟨rfl,rfl⟩)
 | add l r=>exact TaK.miss rfl (by decide) (TaK.miss rfl (by decide) (TaK.hit (l.v,r.v,()) rfl ⟨rfl,rfl⟩))
 | neg x=>exact TaK.miss rfl (by decide) (TaK.miss rfl (by decide) (TaK.miss rfl (by decide) (TaK.hit (x.v,()) rfl ⟨rfl,rfl⟩)))
 | mul l r=>exact TaK.miss rfl (by decide) (TaK.miss rfl (by decide) (TaK.miss rfl (by decide) (TaK.miss rfl (by decide) (TaK.hit (l.v,r.v,()) rfl ⟨rfl,rfl⟩))))
 | max l r=>exact TaK.miss rfl (by decide) (TaK.miss rfl (by decide) (TaK.miss rfl (by decide) (TaK.miss rfl (by decide) (TaK.miss rfl (by decide) (TaK.hit (l.v,r.v,()) rfl ⟨rfl,rfl⟩)))))
def all2 {α β:Type} (f:α→β→Bool):List α→List β→Bool
 | [],[]=>true
 | a::l,b::m=>f a b&&all2 f l m
 | _,_=>false
theorem all2_len {α β:Type} (f:α→β→Bool):∀ (l:List α) (m:List β),l.length≠m.length→all2 f l m=false
 | [],[],h=>absurd rfl h
 | [],_::_,_=>rfl
 | _::_,[],_=>rfl
 | a::l,b::m,h=>by unfold all2;rw [all2_len f l m (by simpa using h),Bool.and_false]
theorem all2_take {α β:Type} (f:α→β→Bool):∀ (l:List α) (m:List β) (i:Nat) (a:α) (b:β),l[i]? = some a→m[i]? = some b→all2 f (l.take (i+1)) (m.take (i+1))=(all2 f (l.take i) (m.take i)&&f a b)
 | [],_,i,a,b,h,_=>by simp at h
 | x::l,[],i,a,b,_,h=>by simp at h
 | x::l,y::m,0,a,b,h,k=>by simp at h k;subst h k;simp [all2]
 | x::l,y::m,i+1,a,b,h,k=>by
  have:=all2_take f l m i a b (by simpa using h) (by simpa using k)
  simp only [List.take_succ_cons,all2]
  rw [this,Bool.and_assoc]
theorem all2_bad {α β:Type} (f:α→β→Bool):∀ (l:List α) (m:List β) (i:Nat) (a:α) (b:β),l[i]? = some a→m[i]? = some b→f a b=false→all2 f l m=false
 | [],_,i,a,b,h,_,_=>by simp at h
 | x::l,[],i,a,b,_,h,_=>by simp at h
 | x::l,y::m,0,a,b,h,k,e=>by simp at h k;subst h k;simp [all2,e]
 | x::l,y::m,i+1,a,b,h,k,e=>by
  have:=all2_bad f l m i a b (by simpa using h) (by simpa using k) e
  simp [all2,this]
theorem equal_os {w:World} {u v:Sl} {l m:List Ob} (hu:IsOs w u l) (hv:IsOs w v m) (hl:l.length≤2) {cb:Value} (f:Ob→Ob→Bool)
  (hcb:∀ a∈l,∀ b∈m,∀ w K,(∀ w',Fr none1 w w'→K (f a b) w')→callV Tryz.prog cb [a.v,b.v] (.v (.one .bool)) w K) :
  Ret Tryz.prog 106 #[.slice u.1 u.2.1 u.2.2,.slice v.1 v.2.1 v.2.2,cb] w fun r w'=>r=.bool (all2 f l m)∧Fr none1 w w':=by
 refine c106 _ _ _ _ _ _ cb w _ ?_
 have hul:=hu.len
 have hvl:=hv.len
 refine ifB.ne (fun h=>?_) (fun h=>?_)
 ·rw [all2_len f l m (by omega)];exact ⟨rfl,Fr.refl _ _⟩
 refine LoopK.of (fun s w'=>∃ i:Nat,s.1=i∧i≤l.length∧all2 f (l.take i) (m.take i)=true∧Fr none1 w w') (fun s _=>(2 - s.1).toNat) ⟨0,rfl,Nat.zero_le _,rfl,Fr.refl _ _⟩ ?_
 rintro _ ⟨i',_⟩ w2 ⟨i,hi,hil,hall,f2⟩
 dsimp only at hi ⊢
 subst hi
 refine ifB.dec (fun hlt=>?_) (fun hge=>?_)
 ·have hi2:i<l.length:=by omega
  have hi3:i<m.length:=by omega
  obtain ⟨a,ha⟩:∃ a,l[i]? = some a:=⟨_,List.getElem?_eq_getElem hi2⟩
  obtain ⟨b,hb⟩:∃ b,m[i]? = some b:=⟨_,List.getElem?_eq_getElem hi3⟩
  refine (hu.keep0 f2).ld ha ?_
  refine (hv.keep0 f2).ld hb ?_
  refine hcb a (List.mem_of_getElem? ha) b (List.mem_of_getElem? hb) _ _ fun w3 f3=>?_
  refine ifB.not (ifB.by (fun e=>?_) (fun e=>?_))
  ·exact ⟨⟨i+1,by rw [wI (by omega) (by omega)];omega,by omega,by rw [all2_take f l m i a b ha hb,hall,e];rfl,f2.trans f3⟩,by rw [wI (by omega) (by omega)];omega⟩
  ·rw [all2_bad f l m i a b ha hb e];exact ⟨rfl,f2.trans f3⟩
 ·have:i=l.length:=by omega
  subst this
  rw [List.take_length,List.take_of_length_le (by omega)] at hall
  rw [hall];exact ⟨rfl,f2⟩
theorem equal_ts {w:World} {u v:Sl} {l m:List Tm} (hu:IsTs w u l) (hv:IsTs w v m) (hl:l.length≤2) {cb:Value} (f:Tm→Tm→Bool)
  (hcb:∀ a∈l,∀ b∈m,∀ w K,(∀ w',Fr none1 w w'→K (f a b) w')→callV Tryz.prog cb [a.v,b.v] (.v (.one .bool)) w K) :
  Ret Tryz.prog 76 #[.slice u.1 u.2.1 u.2.2,.slice v.1 v.2.1 v.2.2,cb] w fun r w'=>r=.bool (all2 f l m)∧Fr none1 w w':=by
 refine c76 _ _ _ _ _ _ cb w _ ?_
 have hul:=hu.len
 have hvl:=hv.len
 refine ifB.ne (fun h=>?_) (fun h=>?_)
 ·rw [all2_len f l m (by omega)];exact ⟨rfl,Fr.refl _ _⟩
 refine LoopK.of (fun s w'=>∃ i:Nat,s.1=i∧i≤l.length∧all2 f (l.take i) (m.take i)=true∧Fr none1 w w') (fun s _=>(2 - s.1).toNat) ⟨0,rfl,Nat.zero_le _,rfl,Fr.refl _ _⟩ ?_
 rintro _ ⟨i',_⟩ w2 ⟨i,hi,hil,hall,f2⟩
 dsimp only at hi ⊢
 subst hi
 refine ifB.dec (fun hlt=>?_) (fun hge=>?_)
 ·have hi2:i<l.length:=by omega
  have hi3:i<m.length:=by omega
  obtain ⟨a,ha⟩:∃ a,l[i]? = some a:=⟨_,List.getElem?_eq_getElem hi2⟩
  obtain ⟨b,hb⟩:∃ b,m[i]? = some b:=⟨_,List.getElem?_eq_getElem hi3⟩
  refine (hu.keep0 f2).ld ha ?_
  refine (hv.keep0 f2).ld hb ?_
  refine hcb a (List.mem_of_getElem? ha) b (List.mem_of_getElem? hb) _ _ fun w3 f3=>?_
  refine ifB.not (ifB.by (fun e=>?_) (fun e=>?_))
  ·exact ⟨⟨i+1,by rw [wI (by omega) (by omega)];omega,by omega,by rw [all2_take f l m i a b ha hb,hall,e];rfl,f2.trans f3⟩,by rw [wI (by omega) (by omega)];omega⟩
  ·rw [all2_bad f l m i a b ha hb e];exact ⟨rfl,f2.trans f3⟩
 ·have:i=l.length:=by omega
  subst this
  rw [List.take_length,List.take_of_length_le (by omega)] at hall
  rw [hall];exact ⟨rfl,f2⟩
theorem kindO_zero (o:Ob):kindO o=0↔o=.none:=by cases o<;>simp [kindO]
theorem sameO_kind {a b:Ob} (h:kindO a≠kindO b):sameO a b=false:=by cases a<;>cases b<;>simp_all [sameO,kindO]
theorem sameO_kids {a b:Ob} (h0:kindO a≠0) (h:kindO a=kindO b) (hl:(leafO a).1=false):sameO a b=all2 sameO (kidsO a) (kidsO b):=by
 cases a<;>cases b<;>simp_all [sameO,kindO,leafO,kidsO,all2]
theorem osame_spec (a b:Ob) (w:World):Ret Tryz.prog 75 #[a.v,b.v] w fun r w'=>r=.bool (sameO a b)∧Fr none1 w w':=by
 have ih:∀ k∈kidsO a,∀ b w,Ret Tryz.prog 75 #[k.v,b.v] w fun r w'=>r=.bool (sameO k b)∧Fr none1 w w':=fun k hk b w=>osame_spec k b w
 refine c75 a.v b.v w _ ?_
 refine CallK.of (okind_spec a w) ?_
 rintro _ _ ⟨rfl,rfl⟩
 refine ⟨_,rfl,ifB.eq (fun h=>?_) (fun h=>?_)⟩
 ·have:=(kindO_zero a).1 h
  subst this
  exact ⟨by cases b<;>rfl,Fr.refl _ _⟩
 refine CallK.of (okind_spec a w) ?_
 rintro _ _ ⟨rfl,rfl⟩
 refine ⟨_,rfl,?_⟩
 refine CallK.of (okind_spec b w) ?_
 rintro _ _ ⟨rfl,rfl⟩
 refine ⟨_,rfl,ifB.ne (fun hk=>?_) (fun hk=>?_)⟩
 ·rw [sameO_kind hk];exact ⟨rfl,Fr.refl _ _⟩
 have deep:(leafO a).1=false→∀ w2,Fr none1 w w2 →
   CallK Tryz.prog 107 #[a.v] w2 (.v (.one .slc)) (fun (x31:Option Addr×Nat×Nat) w32=>CallK Tryz.prog 107 #[b.v] w32 (.v (.one .slc)) (fun (x33:Option Addr×Nat×Nat) w34=>
   CallK Tryz.prog 106 #[.slice x31.1 x31.2.1 x31.2.2,.slice x33.1 x33.2.1 x33.2.2,.func (.func 75) #[] #[]] w34 (.v (.one .bool)) (fun (x35:Bool) w36=>(Value.bool x35)=.bool (sameO a b)∧Fr none1 w w36))):=fun hl w2 f2=>by
  refine CallK.of (okids_spec a w2) ?_
  rintro _ w3 ⟨u,rfl,hu,f3⟩
  refine ⟨u,rfl,?_⟩
  refine CallK.of (okids_spec b w3) ?_
  rintro _ w4 ⟨v,rfl,hv,f4⟩
  refine ⟨v,rfl,?_⟩
  refine CallK.of (equal_os (hu.keep0 f4) hv (kidsO_len a) sameO fun x hx y hy w K hK=>?_) ?_
  ·refine z52z (by kernel_rfl) Tryz.func75 (by kernel_rfl) ((ih x hx y w).mono ?_)
   rintro _ w' ⟨rfl,f⟩
   exact ⟨_,rfl,hK w' f⟩
  ·rintro _ w5 ⟨rfl,f5⟩
   exact ⟨_,rfl,by rw [sameO_kids h hk hl],((f2.trans f3).trans f4).trans f5⟩
 cases a with
 | none=>exact absurd rfl h
 | const n=>
  cases b<;>simp only [kindO] at hk<;>try (exact absurd hk (by decide))
  rename_i m
  refine TaK.hit (n,()) rfl (ns_ok (zs:=[.int .i64 0]) (vs:=[.int .i64 n]) rfl rfl fun g w1 hg hb f1=>?_)
  refine DrewK.of fun w2 _ f2=>?_
  refine LdsK.blk (cks:=[.int .i64]) (x:=(n,())) (f2.keep0 hb) ?_
  refine TaK.hit (m,()) rfl ?_
  exact ⟨_,w2,const_eq n m _ _ w2,rfl,f1.trans f2⟩
 | fix s=>
  cases b<;>simp only [kindO] at hk<;>try (exact absurd hk (by decide))
  rename_i t
  refine TaK.miss rfl (by decide) (ns_skip (zs:=[.int .i64 0]) (vs:=[.int .i64 0]) rfl rfl fun w0 f0=>?_)
  refine TaK.hit (str s,()) rfl (ns_ok (zs:=[.string (⟨#[]⟩:ByteArray)]) (vs:=[.string (str s)]) rfl rfl fun g w1 hg hb f1=>?_)
  refine DrewK.of fun w2 _ f2=>?_
  refine LdsK.blk (cks:=[.str]) (x:=(str s,())) (f2.keep0 hb) ?_
  refine TaK.hit (str t,()) rfl ?_
  refine ⟨_,w2,fix_eq _ _ _ _ w2,?_,(f0.trans f1).trans f2⟩
  show Value.bool _=.bool (s==t)
  dsimp only
  rw [str_beq]
  by_cases e:s=t<;>simp [e]
 | add l r=>exact TaK.miss rfl (by decide) (ns_skip (zs:=[.int .i64 0]) (vs:=[.int .i64 0]) rfl rfl fun w1 f1=>TaK.miss rfl (by decide) (ns_skip (zs:=[.string (⟨#[]⟩:ByteArray)]) (vs:=[.string (⟨#[]⟩:ByteArray)]) rfl rfl fun w2 f2=>deep rfl w2 (f1.trans f2)))
 | neg x=>exact TaK.miss rfl (by decide) (ns_skip (zs:=[.int .i64 0]) (vs:=[.int .i64 0]) rfl rfl fun w1 f1=>TaK.miss rfl (by decide) (ns_skip (zs:=[.string (⟨#[]⟩:ByteArray)]) (vs:=[.string (⟨#[]⟩:ByteArray)]) rfl rfl fun w2 f2=>deep rfl w2 (f1.trans f2)))
 | mul l r=>exact TaK.miss rfl (by decide) (ns_skip (zs:=[.int .i64 0]) (vs:=[.int .i64 0]) rfl rfl fun w1 f1=>TaK.miss rfl (by decide) (ns_skip (zs:=[.string (⟨#[]⟩:ByteArray)]) (vs:=[.string (⟨#[]⟩:ByteArray)]) rfl rfl fun w2 f2=>deep rfl w2 (f1.trans f2)))
 | max l r=>exact TaK.miss rfl (by decide) (ns_skip (zs:=[.int .i64 0]) (vs:=[.int .i64 0]) rfl rfl fun w1 f1=>TaK.miss rfl (by decide) (ns_skip (zs:=[.string (⟨#[]⟩:ByteArray)]) (vs:=[.string (⟨#[]⟩:ByteArray)]) rfl rfl fun w2 f2=>deep rfl w2 (f1.trans f2)))
termination_by SizeOf.sizeOf a
decreasing_by exact kidsO_lt hk
theorem sameT_kind {a b:Tm} (h:kindT a≠kindT b):sameT a b=false:=by cases a<;>cases b<;>simp_all [sameT,kindT]
theorem sameT_parts {a b:Tm} (h0:kindT a≠0) (h:kindT a=kindT b):sameT a b=(decide (ownT a=ownT b)&&((!(numberT a).2||sameO (numberT a).1 (numberT b).1)&&all2 sameT (kidsT a) (kidsT b))):=by
 cases a<;>cases b<;>simp_all [sameT,kindT,ownT,numberT,kidsT,all2]<;>(try (rw [Bool.eq_iff_iff];simp))
theorem tsame_spec (a b:Tm) (w:World):Ret Tryz.prog 45 #[a.v,b.v] w fun r w'=>r=.bool (sameT a b)∧Fr none1 w w':=by
 have ih:∀ k∈kidsT a,∀ b w,Ret Tryz.prog 45 #[k.v,b.v] w fun r w'=>r=.bool (sameT k b)∧Fr none1 w w':=fun k hk b w=>tsame_spec k b w
 refine c45 a.v b.v w _ ?_
 refine CallK.of (z34z a w) ?_
 rintro _ _ ⟨rfl,rfl⟩
 refine ⟨_,rfl,ifB.eq (fun h=>?_) (fun h=>?_)⟩
 ·have:=(kindT_none a).1 h
  subst this
  exact ⟨by cases b<;>rfl,Fr.refl _ _⟩
 refine CallK.of (z34z a w) ?_
 rintro _ _ ⟨rfl,rfl⟩
 refine ⟨_,rfl,?_⟩
 refine CallK.of (z34z b w) ?_
 rintro _ _ ⟨rfl,rfl⟩
 refine ⟨_,rfl,ifB.ne (fun hk=>?_) (fun hk=>?_)⟩
 ·rw [sameT_kind hk];exact ⟨rfl,Fr.refl _ _⟩
 have hP:=sameT_parts h hk
 refine CallK.of (own_spec a w) ?_
 rintro _ w1 ⟨rfl,f1⟩
 refine ⟨(str (ownT a).1,(ownT a).2,()),rfl,?_⟩
 refine CallK.of (own_spec b w1) ?_
 rintro _ w2 ⟨rfl,f2⟩
 refine ⟨(str (ownT b).1,(ownT b).2,()),rfl,?_⟩
 dsimp only
 have f12:=f1.trans f2
 rw [str_beq]
 refine ifB.not (ifB.dec (fun h1=>?_) (fun h1=>?_))
 case refine_2=>
  rw [hP,decide_eq_false (fun t=>h1 (by rw [t]))];exact ⟨rfl,f12⟩
 refine ifB.ne (fun h2=>?_) (fun h2=>?_)
 ·rw [hP,decide_eq_false (fun t=>h2 (by rw [t]))];exact ⟨rfl,f12⟩
 rw [decide_eq_true (Prod.ext h1 h2),Bool.true_and] at hP
 have deep:∀ w2,Fr none1 w w2→(!(numberT a).2||sameO (numberT a).1 (numberT b).1)=true →
   CallK Tryz.prog 77 #[a.v] w2 (.v (.one .slc)) (fun (x31:Option Addr×Nat×Nat) w32=>CallK Tryz.prog 77 #[b.v] w32 (.v (.one .slc)) (fun (x33:Option Addr×Nat×Nat) w34=>
   CallK Tryz.prog 76 #[.slice x31.1 x31.2.1 x31.2.2,.slice x33.1 x33.2.1 x33.2.2,.func (.func 45) #[] #[]] w34 (.v (.one .bool)) (fun (x35:Bool) w36=>(Value.bool x35)=.bool (sameT a b)∧Fr none1 w w36))):=fun w2 f2 hn=>by
  refine CallK.of (tkids_spec a w2) ?_
  rintro _ w3 ⟨u,rfl,hu,f3,_⟩
  refine ⟨u,rfl,?_⟩
  refine CallK.of (tkids_spec b w3) ?_
  rintro _ w4 ⟨v,rfl,hv,f4,_⟩
  refine ⟨v,rfl,?_⟩
  refine CallK.of (equal_ts (hu.keep0 f4) hv (kidsT_len a) sameT fun x hx y hy w K hK=>?_) ?_
  ·refine z52z (by kernel_rfl) Tryz.func45 (by kernel_rfl) ((ih x hx y w).mono ?_)
   rintro _ w' ⟨rfl,f⟩
   exact ⟨_,rfl,hK w' f⟩
  ·rintro _ w5 ⟨rfl,f5⟩
   exact ⟨_,rfl,by rw [hP,hn,Bool.true_and],((f2.trans f3).trans f4).trans f5⟩
 refine CallK.of (tnumber_spec a w2) ?_
 rintro _ w3 ⟨rfl,f3⟩
 refine ⟨(_,_,()),rfl,ifB.by (fun e=>?_) (fun e=>?_)⟩
 ·have e:(numberT a).2=true:=e
  refine CallK.of (tnumber_spec b w3) ?_
  rintro _ w4 ⟨rfl,f4⟩
  refine ⟨(_,_,()),rfl,?_⟩
  refine CallK.of (osame_spec (numberT a).1 (numberT b).1 w4) ?_
  rintro _ w5 ⟨rfl,f5⟩
  refine ⟨_,rfl,ifB.not (ifB.by (fun e2=>?_) (fun e2=>?_))⟩
  ·exact deep w5 (((f12.trans f3).trans f4).trans f5) (by rw [e2];simp)
  ·rw [hP,e,e2];exact ⟨rfl,((f12.trans f3).trans f4).trans f5⟩
 ·have e:(numberT a).2=false:=e
  exact deep w3 (f12.trans f3) (by rw [e];rfl)
termination_by SizeOf.sizeOf a
decreasing_by exact kidsT_lt hk
def C22 (p0:YZ14) (p1:YZ14) (w:World) (K:Value→World→Prop):Prop:=
 NewK (.cells ((LZ14 p0).toArray) 36) w (fun g1 w2=>NewK (.cells ((LZ14 p1).toArray) 36) w2 (fun g3 w4=>JoinK (Bool×Unit) (fun J5=>LdK .raw ((ad g1).add 7) w4 (fun (x8:Value)=>RunK Tryz.prog (do eqGuard .eql 34 (.tmp 7) (.const .nilIface) x8 .nilIface;binOp .eql 34 x8 .nilIface) w4 (.v (.one .bool)) (fun (x9:Bool) w10=>ifB x9
 (LdK .raw ((ad g3).add 7) w10 (fun (x11:Value)=>RunK Tryz.prog (do eqGuard .eql 34 (.tmp 11) (.const .nilIface) x11 .nilIface;binOp .eql 34 x11 .nilIface) w10 (.v (.one .bool)) (fun (x12:Bool) w13=>ifB x12
 (J5 (true,()) w13)
 (LdK .raw ((ad g1).add 7) w13 (fun (x14:Value)=>LdK .raw ((ad g3).add 7) w13 (fun (x15:Value)=>CallK Tryz.prog 45 #[x14,x15] w13 (.v (.one .bool)) (fun (x16:Bool) w17=>J5 (x16,()) w17)))))))
 (LdK .raw ((ad g1).add 7) w10 (fun (x18:Value)=>LdK .raw ((ad g3).add 7) w10 (fun (x19:Value)=>CallK Tryz.prog 45 #[x18,x19] w10 (.v (.one .bool)) (fun (x20:Bool) w21=>J5 (x20,()) w21)))))))
 (fun _ s6 w7=>ifB s6.1
 (LdK (.int .i64) ((ad g1).add 0) w7 (fun (x22:Int)=>LdK (.int .i64) ((ad g3).add 0) w7 (fun (x23:Int)=>ifB (x22==x23)
 (LdK .str ((ad g1).add 1) w7 (fun (x24:ByteArray)=>LdK .str ((ad g3).add 1) w7 (fun (x25:ByteArray)=>ifB (x24.toList==x25.toList)
 (LdK .str ((ad g1).add 2) w7 (fun (x26:ByteArray)=>LdK .str ((ad g3).add 2) w7 (fun (x27:ByteArray)=>ifB (x26.toList==x27.toList)
 (LdK .str ((ad g1).add 3) w7 (fun (x28:ByteArray)=>LdK .str ((ad g3).add 3) w7 (fun (x29:ByteArray)=>ifB (x28.toList==x29.toList)
 (LdK .str ((ad g1).add 4) w7 (fun (x30:ByteArray)=>LdK .str ((ad g3).add 4) w7 (fun (x31:ByteArray)=>ifB (x30.toList==x31.toList)
 (LdK (.int .i64) ((ad g1).add 5) w7 (fun (x32:Int)=>LdK (.int .i64) ((ad g3).add 5) w7 (fun (x33:Int)=>ifB (x32==x33)
 (LdK (.int .i64) ((ad g1).add 6) w7 (fun (x34:Int)=>LdK (.int .i64) ((ad g3).add 6) w7 (fun (x35:Int)=>K (.bool (x34==x35)) w7)))
 (K (.bool false) w7))))
 (K (.bool false) w7))))
 (K (.bool false) w7))))
 (K (.bool false) w7))))
 (K (.bool false) w7))))
 (K (.bool false) w7))))
 (K (.bool false) w7))))
def pl22:Plan:=(.seq .auto (.join [(5,.one .bool)] .auto .auto))
theorem c22 (p0:YZ14) (p1:YZ14) (w:World) (K:Value→World→Prop) (h:C22 p0 p1 w K):Ret Tryz.prog 22 #[.agg (LZ14 p0).toArray,.agg (LZ14 p1).toArray] w K:=z0z (by kernel_rfl) Tryz.func22 (p:=pl22) (Eq.mpr (by kernel_rfl) h)
def sameP (a b:EvM):Bool:=((nilT a.t.v&&nilT b.t.v)||sameT a.t b.t)&&(a.1==b.1&&(a.2.1==b.2.1&&(a.2.2.1==b.2.2.1&&(a.2.2.2.1==b.2.2.2.1&&(a.2.2.2.2.1==b.2.2.2.2.1&&(a.2.2.2.2.2.1==b.2.2.2.2.2.1&&a.2.2.2.2.2.2.1==b.2.2.2.2.2.2.1))))))
theorem ev_ifc (t:Tm):ifcT t.v:=by cases t<;>first | (exact .inl rfl) | (exact .inr ⟨_,_,rfl⟩)
theorem esame_spec (a b : EvM) (w : World) : Ret Tryz.prog 22 #[evA a.e, evA b.e] w fun r w' => r = .bool (sameP a b) ∧ Fr none1 w w' := by
  refine c22 a.e b.e w _ ?_
  unfold C22
  refine NewK.of fun g1 w1 hg1 hb1 f1 hs1 => NewK.of fun g3 w2 hg3 hb3 f2 hs2 => ?_
  have hb1 : w2.heap[g1]? = some (.cells #[.int .i64 a.1, .string (str a.2.1), .string (str a.2.2.1), .string (str a.2.2.2.1), .string (str a.2.2.2.2.1), .int .i64 a.2.2.2.2.2.1, .int .i64 a.2.2.2.2.2.2.1, a.t.v] 36 (0, 0)) := f2.keep0 hb1
  have hb3 : w2.heap[g3]? = some (.cells #[.int .i64 b.1, .string (str b.2.1), .string (str b.2.2.1), .string (str b.2.2.2.1), .string (str b.2.2.2.2.1), .int .i64 b.2.2.2.2.2.1, .int .i64 b.2.2.2.2.2.2.1, b.t.v] 36 (0, 0)) := hb3
  have f12 := f1.trans f2
  refine JoinK.of (fun s w' => s.1 = ((nilT a.t.v && nilT b.t.v) || sameT a.t b.t) ∧ Fr none1 w2 w') ?_ ?_
  · have cmp : (nilT a.t.v && nilT b.t.v) = false → LdK .raw ((⟨g1, 0, none⟩ : Addr).add 7) w2 (fun (x18 : Value) => LdK .raw ((⟨g3, 0, none⟩ : Addr).add 7) w2 (fun (x19 : Value) => CallK Tryz.prog 45 #[x18, x19] w2 (.v (.one .bool)) (fun (x20 : Bool) w21 =>
        x20 = ((nilT a.t.v && nilT b.t.v) || sameT a.t b.t) ∧ Fr none1 w2 w21))) := fun q => by
      refine LdK.fld hb1 (x := a.t.v) rfl (LdK.fld hb3 (x := b.t.v) rfl ?_)
      refine CallK.of (tsame_spec a.t b.t w2) ?_
      rintro _ w3 ⟨rfl, f3⟩
      exact ⟨_, rfl, by rw [q]; rfl, f3⟩
    refine LdK.fld hb1 (x := a.t.v) rfl ?_
    refine ⟨nilT a.t.v, w2, nil_eq ifc_term _ (ev_ifc _) w2, ?_⟩
    refine ifB.by (fun q => ?_) (fun q => cmp (by rw [q]; rfl))
    refine LdK.fld hb3 (x := b.t.v) rfl ?_
    refine ⟨nilT b.t.v, w2, nil_eq ifc_term _ (ev_ifc _) w2, ?_⟩
    refine ifB.by (fun q' => ?_) (fun q' => cmp (by rw [q, q']; rfl))
    exact ⟨by rw [q, q']; rfl, Fr.refl _ _⟩
  rintro _ ⟨s, _⟩ w3 ⟨hs, f3⟩
  dsimp only at hs ⊢
  have hb1 := f3.keep0 hb1
  have hb3 := f3.keep0 hb3
  have f13 := f12.trans f3
  unfold sameP
  rw [← hs]
  refine ifB.by (fun q => ?_) (fun q => by rw [q]; exact ⟨rfl, f13⟩)
  rw [q, Bool.true_and]
  refine LdK.fld hb1 (x := a.1) rfl (LdK.fld hb3 (x := b.1) rfl ?_)
  refine ifB.by (fun q => ?_) (fun q => by rw [q]; exact ⟨rfl, f13⟩)
  rw [q, Bool.true_and]
  refine LdK.fld hb1 (x := str a.2.1) rfl (LdK.fld hb3 (x := str b.2.1) rfl ?_)
  rw [str_beq, ← Bool.beq_eq_decide_eq]
  refine ifB.by (fun q => ?_) (fun q => by rw [q]; exact ⟨rfl, f13⟩)
  rw [q, Bool.true_and]
  refine LdK.fld hb1 (x := str a.2.2.1) rfl (LdK.fld hb3 (x := str b.2.2.1) rfl ?_)
  rw [str_beq, ← Bool.beq_eq_decide_eq]
  refine ifB.by (fun q => ?_) (fun q => by rw [q]; exact ⟨rfl, f13⟩)
  rw [q, Bool.true_and]
  refine LdK.fld hb1 (x := str a.2.2.2.1) rfl (LdK.fld hb3 (x := str b.2.2.2.1) rfl ?_)
  rw [str_beq, ← Bool.beq_eq_decide_eq]
  refine ifB.by (fun q => ?_) (fun q => by rw [q]; exact ⟨rfl, f13⟩)
  rw [q, Bool.true_and]
  refine LdK.fld hb1 (x := str a.2.2.2.2.1) rfl (LdK.fld hb3 (x := str b.2.2.2.2.1) rfl ?_)
  rw [str_beq, ← Bool.beq_eq_decide_eq]
  refine ifB.by (fun q => ?_) (fun q => by rw [q]; exact ⟨rfl, f13⟩)
  rw [q, Bool.true_and]
  refine LdK.fld hb1 (x := a.2.2.2.2.2.1) rfl (LdK.fld hb3 (x := b.2.2.2.2.2.1) rfl ?_)
  refine ifB.by (fun q => ?_) (fun q => by rw [q]; exact ⟨rfl, f13⟩)
  rw [q, Bool.true_and]
  refine LdK.fld hb1 (x := a.2.2.2.2.2.2.1) rfl (LdK.fld hb3 (x := b.2.2.2.2.2.2.1) rfl ?_)
  exact ⟨rfl, f13⟩
theorem check_form {t:Tm} (h:checkT t=0):formT t=true:=by
 unfold checkT at h
 repeat' split at h
 all_goals first | (exact absurd h (by decide)) | skip
 rename_i h1 h2 h3 _
 simpa using h1
theorem sameP_self {m:EvM} {bs:List UInt8} (h:packM m=(bs,0)):sameP m m=true:=by
 obtain ⟨hc,_⟩:=pack_zero h
 obtain ⟨hk,ho,_,_,_,_,ht⟩:=check_zero hc
 have key:((nilT m.t.v&&nilT m.t.v)||sameT m.t m.t)=true:=by
  by_cases h2:m.e.1=2
  ·have hw:checkT m.t=0:=by
    have:=ht h2
    unfold writeT at this
    split at this
    ·rename_i c;exact (c this).elim
    ·rename_i c;exact Classical.not_not.1 c
   rw [sameT_self m.t (check_form hw),Bool.or_true]
  ·have hn:hasF m.e.1 84=false:=by
    unfold hasF fieldsF
    rw [if_neg h2]
    repeat' split
    all_goals decide
   unfold onlyF at ho
   rw [hn] at ho
   simp only [Bool.or_false,Bool.and_eq_true] at ho
   have hh:nilT m.t.v=true:=ho.2.2
   rw [hh];rfl
 unfold sameP
 rw [key]
 simp
def C6 (p0:YZ15) (p1:YZ13) (p2:Int) (w:World) (K:Value→World→Prop):Prop:=
 NewK (.cells ((LZ15 p0).toArray) 25) w (fun g1 w2=>NewK (.cells ((LZ13 p1).toArray) 31) w2 (fun g3 w4=>NewK (.cells #[.int .i64 0,.int .i64 0,.int .i64 0,.int .i64 0,.int .i64 0,.int .u64 0,.bool false,.int .i64 0,.string (⟨#[]⟩:ByteArray),.string (⟨#[]⟩:ByteArray),.string (⟨#[]⟩:ByteArray),.string (⟨#[]⟩:ByteArray),.int .i64 0,.int .i64 0,.nilIface] 38) w4 (fun g5 w6=>NewK (.cells #[.int .i64 0,.int .i64 0,.int .i64 0,.int .i64 0,.int .i64 0,.int .u64 0,.bool false,.int .i64 0,.string (⟨#[]⟩:ByteArray),.string (⟨#[]⟩:ByteArray),.string (⟨#[]⟩:ByteArray),.string (⟨#[]⟩:ByteArray),.int .i64 0,.int .i64 0,.int .i64 0,.string (⟨#[]⟩:ByteArray),.int .i64 0,.slice none 0 0] 45) w6 (fun g7 w8=>JoinK (Option Addr×Unit) (fun J9=>DrewK w8 (fun w12=>HoldK (fun S13=>InK S13 ((ad g1).add 0) (LdK (.int .i64) ((ad g1).add 0) w12 (fun (x14:Int)=>InK S13 ((ad g1).add 1) (LdK (.int .i64) ((ad g1).add 1) w12 (fun (x15:Int)=>InK S13 ((ad g1).add 2) (LdK (.int .i64) ((ad g1).add 2) w12 (fun (x16:Int)=>InK S13 ((ad g1).add 3) (LdK (.int .i64) ((ad g1).add 3) w12 (fun (x17:Int)=>InK S13 ((ad g1).add 4) (LdK (.int .i64) ((ad g1).add 4) w12 (fun (x18:Int)=>InK S13 ((ad g1).add 5) (LdK (.int .u64) ((ad g1).add 5) w12 (fun (x19:Int)=>InK S13 ((ad g1).add 6) (LdK .bool ((ad g1).add 6) w12 (fun (x20:Bool)=>AndK (CallK Tryz.prog 14 #[.int .i64 x14,.int .i64 2] w12 (.v (.one (.int .i64))) (fun (x21:Int) w22=>KeepK S13 w12 w22 (AndK (CallK Tryz.prog 14 #[.int .i64 x15,.int .i64 2147483648] w22 (.v (.one (.int .i64))) (fun (x23:Int) w24=>KeepK S13 w22 w24 (AndK (CallK Tryz.prog 14 #[.int .i64 x16,.int .i64 2147483648] w24 (.v (.one (.int .i64))) (fun (x25:Int) w26=>KeepK S13 w24 w26 (AndK (CallK Tryz.prog 14 #[.int .i64 x17,.int .i64 4] w26 (.v (.one (.int .i64))) (fun (x27:Int) w28=>KeepK S13 w26 w28 (AndK (CallK Tryz.prog 14 #[.int .i64 x18,.int .i64 70] w28 (.v (.one (.int .i64))) (fun (x29:Int) w30=>KeepK S13 w28 w30 (NewK (.cells #[.int .i64 0,.int .i64 0,.int .i64 0,.int .i64 0,.int .i64 0,.int .u64 0,.bool false,.int .i64 0,.string (⟨#[]⟩:ByteArray),.string (⟨#[]⟩:ByteArray),.string (⟨#[]⟩:ByteArray),.string (⟨#[]⟩:ByteArray),.int .i64 0,.int .i64 0,.nilIface] 38) w30 (fun g31 w32=>KeepK S13 w30 w32 (StsK (ad g31) [.int .i64 x21,.int .i64 x23,.int .i64 x25,.int .i64 (IntKind.i64.wrap (1+x27)),.int .i64 x29,.int .u64 x19,.bool x20,.int .i64 0,.string (⟨#[]⟩:ByteArray),.string (⟨#[]⟩:ByteArray),.string (⟨#[]⟩:ByteArray),.string (⟨#[]⟩:ByteArray),.int .i64 0,.int .i64 0,.nilIface] w32 (fun w33=>KeepK S13 w32 w33 (J9 ((some (ad g31)),()) w33)))))))
 (NewK (.cells #[.int .i64 0,.int .i64 0,.int .i64 0,.int .i64 0,.int .i64 0,.int .u64 0,.bool false,.int .i64 0,.string (⟨#[]⟩:ByteArray),.string (⟨#[]⟩:ByteArray),.string (⟨#[]⟩:ByteArray),.string (⟨#[]⟩:ByteArray),.int .i64 0,.int .i64 0,.nilIface] 38) w28 (fun g34 w35=>KeepK S13 w28 w35 (CallK Tryz.prog 14 #[.int .i64 x18,.int .i64 70] w35 (.v (.one (.int .i64))) (fun (x36:Int) w37=>KeepK S13 w35 w37 (StsK (ad g34) [.int .i64 x21,.int .i64 x23,.int .i64 x25,.int .i64 (IntKind.i64.wrap (1+x27)),.int .i64 x36,.int .u64 x19,.bool x20,.int .i64 0,.string (⟨#[]⟩:ByteArray),.string (⟨#[]⟩:ByteArray),.string (⟨#[]⟩:ByteArray),.string (⟨#[]⟩:ByteArray),.int .i64 0,.int .i64 0,.nilIface] w37 (fun w38=>KeepK S13 w37 w38 (J9 ((some (ad g34)),()) w38))))))))))
 (NewK (.cells #[.int .i64 0,.int .i64 0,.int .i64 0,.int .i64 0,.int .i64 0,.int .u64 0,.bool false,.int .i64 0,.string (⟨#[]⟩:ByteArray),.string (⟨#[]⟩:ByteArray),.string (⟨#[]⟩:ByteArray),.string (⟨#[]⟩:ByteArray),.int .i64 0,.int .i64 0,.nilIface] 38) w26 (fun g39 w40=>KeepK S13 w26 w40 (CallK Tryz.prog 14 #[.int .i64 x17,.int .i64 4] w40 (.v (.one (.int .i64))) (fun (x41:Int) w42=>KeepK S13 w40 w42 (CallK Tryz.prog 14 #[.int .i64 x18,.int .i64 70] w42 (.v (.one (.int .i64))) (fun (x43:Int) w44=>KeepK S13 w42 w44 (StsK (ad g39) [.int .i64 x21,.int .i64 x23,.int .i64 x25,.int .i64 (IntKind.i64.wrap (1+x41)),.int .i64 x43,.int .u64 x19,.bool x20,.int .i64 0,.string (⟨#[]⟩:ByteArray),.string (⟨#[]⟩:ByteArray),.string (⟨#[]⟩:ByteArray),.string (⟨#[]⟩:ByteArray),.int .i64 0,.int .i64 0,.nilIface] w44 (fun w45=>KeepK S13 w44 w45 (J9 ((some (ad g39)),()) w45))))))))))))
 (NewK (.cells #[.int .i64 0,.int .i64 0,.int .i64 0,.int .i64 0,.int .i64 0,.int .u64 0,.bool false,.int .i64 0,.string (⟨#[]⟩:ByteArray),.string (⟨#[]⟩:ByteArray),.string (⟨#[]⟩:ByteArray),.string (⟨#[]⟩:ByteArray),.int .i64 0,.int .i64 0,.nilIface] 38) w24 (fun g46 w47=>KeepK S13 w24 w47 (CallK Tryz.prog 14 #[.int .i64 x16,.int .i64 2147483648] w47 (.v (.one (.int .i64))) (fun (x48:Int) w49=>KeepK S13 w47 w49 (CallK Tryz.prog 14 #[.int .i64 x17,.int .i64 4] w49 (.v (.one (.int .i64))) (fun (x50:Int) w51=>KeepK S13 w49 w51 (CallK Tryz.prog 14 #[.int .i64 x18,.int .i64 70] w51 (.v (.one (.int .i64))) (fun (x52:Int) w53=>KeepK S13 w51 w53 (StsK (ad g46) [.int .i64 x21,.int .i64 x23,.int .i64 x48,.int .i64 (IntKind.i64.wrap (1+x50)),.int .i64 x52,.int .u64 x19,.bool x20,.int .i64 0,.string (⟨#[]⟩:ByteArray),.string (⟨#[]⟩:ByteArray),.string (⟨#[]⟩:ByteArray),.string (⟨#[]⟩:ByteArray),.int .i64 0,.int .i64 0,.nilIface] w53 (fun w54=>KeepK S13 w53 w54 (J9 ((some (ad g46)),()) w54))))))))))))))
 (NewK (.cells #[.int .i64 0,.int .i64 0,.int .i64 0,.int .i64 0,.int .i64 0,.int .u64 0,.bool false,.int .i64 0,.string (⟨#[]⟩:ByteArray),.string (⟨#[]⟩:ByteArray),.string (⟨#[]⟩:ByteArray),.string (⟨#[]⟩:ByteArray),.int .i64 0,.int .i64 0,.nilIface] 38) w22 (fun g55 w56=>KeepK S13 w22 w56 (CallK Tryz.prog 14 #[.int .i64 x15,.int .i64 2147483648] w56 (.v (.one (.int .i64))) (fun (x57:Int) w58=>KeepK S13 w56 w58 (CallK Tryz.prog 14 #[.int .i64 x16,.int .i64 2147483648] w58 (.v (.one (.int .i64))) (fun (x59:Int) w60=>KeepK S13 w58 w60 (CallK Tryz.prog 14 #[.int .i64 x17,.int .i64 4] w60 (.v (.one (.int .i64))) (fun (x61:Int) w62=>KeepK S13 w60 w62 (CallK Tryz.prog 14 #[.int .i64 x18,.int .i64 70] w62 (.v (.one (.int .i64))) (fun (x63:Int) w64=>KeepK S13 w62 w64 (StsK (ad g55) [.int .i64 x21,.int .i64 x57,.int .i64 x59,.int .i64 (IntKind.i64.wrap (1+x61)),.int .i64 x63,.int .u64 x19,.bool x20,.int .i64 0,.string (⟨#[]⟩:ByteArray),.string (⟨#[]⟩:ByteArray),.string (⟨#[]⟩:ByteArray),.string (⟨#[]⟩:ByteArray),.int .i64 0,.int .i64 0,.nilIface] w64 (fun w65=>KeepK S13 w64 w65 (J9 ((some (ad g55)),()) w65))))))))))))))))
 (NewK (.cells #[.int .i64 0,.int .i64 0,.int .i64 0,.int .i64 0,.int .i64 0,.int .u64 0,.bool false,.int .i64 0,.string (⟨#[]⟩:ByteArray),.string (⟨#[]⟩:ByteArray),.string (⟨#[]⟩:ByteArray),.string (⟨#[]⟩:ByteArray),.int .i64 0,.int .i64 0,.nilIface] 38) w12 (fun g66 w67=>KeepK S13 w12 w67 (CallK Tryz.prog 14 #[.int .i64 x14,.int .i64 2] w67 (.v (.one (.int .i64))) (fun (x68:Int) w69=>KeepK S13 w67 w69 (CallK Tryz.prog 14 #[.int .i64 x15,.int .i64 2147483648] w69 (.v (.one (.int .i64))) (fun (x70:Int) w71=>KeepK S13 w69 w71 (CallK Tryz.prog 14 #[.int .i64 x16,.int .i64 2147483648] w71 (.v (.one (.int .i64))) (fun (x72:Int) w73=>KeepK S13 w71 w73 (CallK Tryz.prog 14 #[.int .i64 x17,.int .i64 4] w73 (.v (.one (.int .i64))) (fun (x74:Int) w75=>KeepK S13 w73 w75 (CallK Tryz.prog 14 #[.int .i64 x18,.int .i64 70] w75 (.v (.one (.int .i64))) (fun (x76:Int) w77=>KeepK S13 w75 w77 (StsK (ad g66) [.int .i64 x68,.int .i64 x70,.int .i64 x72,.int .i64 (IntKind.i64.wrap (1+x74)),.int .i64 x76,.int .u64 x19,.bool x20,.int .i64 0,.string (⟨#[]⟩:ByteArray),.string (⟨#[]⟩:ByteArray),.string (⟨#[]⟩:ByteArray),.string (⟨#[]⟩:ByteArray),.int .i64 0,.int .i64 0,.nilIface] w77 (fun w78=>KeepK S13 w77 w78 (J9 ((some (ad g66)),()) w78))))))))))))))))))))))))))))))))
 (fun _ s10 w11=>JoinK (Unit) (fun J79=>JoinK (Bool×Unit) (fun J82=>optA s10.1 (fun a85=>LdK (.int .i64) (a85.add 3) w11 (fun (x86:Int)=>ifB (x86==1)
 (J82 (true,()) w11)
 (optA s10.1 (fun a87=>LdK (.int .i64) (a87.add 3) w11 (fun (x88:Int)=>J82 ((x88==3),()) w11))))))
 (fun _ s83 w84=>ifB s83.1
 (optA s10.1 (fun a89=>StK (a89.add 6) (.bool false) w84 (fun w90=>J79 (()) w90)))
 (J79 (()) w84)))
 (fun _ s80 w81=>JoinK (Bool×Unit) (fun J91=>optA s10.1 (fun a94=>LdK (.int .i64) (a94.add 3) w81 (fun (x95:Int)=>ifB (x95==1)
 (LdsK KZ13 (ad g3) w81 (fun (x96:YZ13)=>LdK (.int .i64) ((ad g1).add 7) w81 (fun (x97:Int)=>LdK (.int .i64) ((ad g1).add 8) w81 (fun (x98:Int)=>LdK .str ((ad g1).add 9) w81 (fun (x99:ByteArray)=>CallK Tryz.prog 25 #[.agg (LZ13 x96).toArray,.int .i64 x97,.int .i64 x98,.string x99,.int .i64 p2] w81 (.tup [.agg KZ14,.agg KZ16,.one .bool]) (fun (x100:YZ14×YZ16×Bool×Unit) w101=>optA s10.1 (fun a102=>StsK (a102.add 7) [.int .i64 x100.1.1,.string x100.1.2.1,.string x100.1.2.2.1,.string x100.1.2.2.2.1,.string x100.1.2.2.2.2.1,.int .i64 x100.1.2.2.2.2.2.1,.int .i64 x100.1.2.2.2.2.2.2.1,x100.1.2.2.2.2.2.2.2.1] w101 (fun w103=>J91 (x100.2.2.1,()) w103))))))))
 (J91 (false,()) w81))))
 (fun _ s92 w93=>LdK (.int .i64) ((ad g1).add 8) w93 (fun (x104:Int)=>CallK Tryz.prog 14 #[.int .i64 x104,.int .i64 40] w93 (.v (.one (.int .i64))) (fun (x105:Int) w106=>ifB (x105==33)
 (LdK (.int .i64) ((ad g1).add 0) w106 (fun (x107:Int)=>optA s10.1 (fun a108=>StK (a108.add 0) (.int .i64 x107) w106 (fun w109=>DrewK w109 (fun w110=>HoldK (fun S111=>optA s10.1 (fun a112=>InK S111 a112 (LdsK KZ18 a112 w110 (fun (x113:YZ18)=>optA s10.1 (fun a114=>InK S111 a114 (LdsK KZ18 a114 w110 (fun (x115:YZ18)=>CallK Tryz.prog 27 #[.agg (LZ18 x115).toArray] w110 (.v (.agg KZ19)) (fun (x116:YZ19) w117=>KeepK S111 w110 w117 (StsK (ad g5) (LZ18 x113) w117 (fun w118=>KeepK S111 w117 w118 (StsK (ad g7) (LZ19 x116) w118 (fun w119=>KeepK S111 w118 w119 (LdsK KZ18 (ad g5) w119 (fun (x120:YZ18)=>LdsK KZ19 (ad g7) w119 (fun (x121:YZ19)=>K (.tuple #[.agg (LZ18 x120).toArray,.agg (LZ19 x121).toArray,.bool s92.1]) w119))))))))))))))))))))
 (ifB (x105==34)
 (LdK (.int .i64) ((ad g1).add 1) w106 (fun (x122:Int)=>optA s10.1 (fun a123=>StK (a123.add 1) (.int .i64 x122) w106 (fun w124=>DrewK w124 (fun w125=>HoldK (fun S126=>optA s10.1 (fun a127=>InK S126 a127 (LdsK KZ18 a127 w125 (fun (x128:YZ18)=>optA s10.1 (fun a129=>InK S126 a129 (LdsK KZ18 a129 w125 (fun (x130:YZ18)=>CallK Tryz.prog 27 #[.agg (LZ18 x130).toArray] w125 (.v (.agg KZ19)) (fun (x131:YZ19) w132=>KeepK S126 w125 w132 (StsK (ad g5) (LZ18 x128) w132 (fun w133=>KeepK S126 w132 w133 (StsK (ad g7) (LZ19 x131) w133 (fun w134=>KeepK S126 w133 w134 (LdsK KZ18 (ad g5) w134 (fun (x135:YZ18)=>LdsK KZ19 (ad g7) w134 (fun (x136:YZ19)=>K (.tuple #[.agg (LZ18 x135).toArray,.agg (LZ19 x136).toArray,.bool s92.1]) w134))))))))))))))))))))
 (ifB (x105==35)
 (LdK (.int .i64) ((ad g1).add 2) w106 (fun (x137:Int)=>optA s10.1 (fun a138=>StK (a138.add 2) (.int .i64 x137) w106 (fun w139=>DrewK w139 (fun w140=>HoldK (fun S141=>optA s10.1 (fun a142=>InK S141 a142 (LdsK KZ18 a142 w140 (fun (x143:YZ18)=>optA s10.1 (fun a144=>InK S141 a144 (LdsK KZ18 a144 w140 (fun (x145:YZ18)=>CallK Tryz.prog 27 #[.agg (LZ18 x145).toArray] w140 (.v (.agg KZ19)) (fun (x146:YZ19) w147=>KeepK S141 w140 w147 (StsK (ad g5) (LZ18 x143) w147 (fun w148=>KeepK S141 w147 w148 (StsK (ad g7) (LZ19 x146) w148 (fun w149=>KeepK S141 w148 w149 (LdsK KZ18 (ad g5) w149 (fun (x150:YZ18)=>LdsK KZ19 (ad g7) w149 (fun (x151:YZ19)=>K (.tuple #[.agg (LZ18 x150).toArray,.agg (LZ19 x151).toArray,.bool s92.1]) w149))))))))))))))))))))
 (ifB (x105==36)
 (LdK (.int .i64) ((ad g1).add 3) w106 (fun (x152:Int)=>optA s10.1 (fun a153=>StK (a153.add 3) (.int .i64 x152) w106 (fun w154=>DrewK w154 (fun w155=>HoldK (fun S156=>optA s10.1 (fun a157=>InK S156 a157 (LdsK KZ18 a157 w155 (fun (x158:YZ18)=>optA s10.1 (fun a159=>InK S156 a159 (LdsK KZ18 a159 w155 (fun (x160:YZ18)=>CallK Tryz.prog 27 #[.agg (LZ18 x160).toArray] w155 (.v (.agg KZ19)) (fun (x161:YZ19) w162=>KeepK S156 w155 w162 (StsK (ad g5) (LZ18 x158) w162 (fun w163=>KeepK S156 w162 w163 (StsK (ad g7) (LZ19 x161) w163 (fun w164=>KeepK S156 w163 w164 (LdsK KZ18 (ad g5) w164 (fun (x165:YZ18)=>LdsK KZ19 (ad g7) w164 (fun (x166:YZ19)=>K (.tuple #[.agg (LZ18 x165).toArray,.agg (LZ19 x166).toArray,.bool s92.1]) w164))))))))))))))))))))
 (ifB (x105==37)
 (LdK (.int .i64) ((ad g1).add 4) w106 (fun (x167:Int)=>optA s10.1 (fun a168=>StK (a168.add 4) (.int .i64 x167) w106 (fun w169=>DrewK w169 (fun w170=>HoldK (fun S171=>optA s10.1 (fun a172=>InK S171 a172 (LdsK KZ18 a172 w170 (fun (x173:YZ18)=>optA s10.1 (fun a174=>InK S171 a174 (LdsK KZ18 a174 w170 (fun (x175:YZ18)=>CallK Tryz.prog 27 #[.agg (LZ18 x175).toArray] w170 (.v (.agg KZ19)) (fun (x176:YZ19) w177=>KeepK S171 w170 w177 (StsK (ad g5) (LZ18 x173) w177 (fun w178=>KeepK S171 w177 w178 (StsK (ad g7) (LZ19 x176) w178 (fun w179=>KeepK S171 w178 w179 (LdsK KZ18 (ad g5) w179 (fun (x180:YZ18)=>LdsK KZ19 (ad g7) w179 (fun (x181:YZ19)=>K (.tuple #[.agg (LZ18 x180).toArray,.agg (LZ19 x181).toArray,.bool s92.1]) w179))))))))))))))))))))
 (ifB (x105==38)
 (LdK .bool ((ad g1).add 6) w106 (fun (x182:Bool)=>optA s10.1 (fun a183=>StK (a183.add 6) (.bool x182) w106 (fun w184=>DrewK w184 (fun w185=>HoldK (fun S186=>optA s10.1 (fun a187=>InK S186 a187 (LdsK KZ18 a187 w185 (fun (x188:YZ18)=>optA s10.1 (fun a189=>InK S186 a189 (LdsK KZ18 a189 w185 (fun (x190:YZ18)=>CallK Tryz.prog 27 #[.agg (LZ18 x190).toArray] w185 (.v (.agg KZ19)) (fun (x191:YZ19) w192=>KeepK S186 w185 w192 (StsK (ad g5) (LZ18 x188) w192 (fun w193=>KeepK S186 w192 w193 (StsK (ad g7) (LZ19 x191) w193 (fun w194=>KeepK S186 w193 w194 (LdsK KZ18 (ad g5) w194 (fun (x195:YZ18)=>LdsK KZ19 (ad g7) w194 (fun (x196:YZ19)=>K (.tuple #[.agg (LZ18 x195).toArray,.agg (LZ19 x196).toArray,.bool s92.1]) w194))))))))))))))))))))
 (ifB (x105==39)
 (CallK Tryz.prog 26 #[.int .i64 p2] w106 (.v (.one .raw)) (fun (x197:Value) w198=>optA s10.1 (fun a199=>OneK x197 (StsK ((a199.add 7).add 7) [x197] w198 (fun w200=>optA s10.1 (fun a201=>LdK .raw ((a201.add 7).add 7) w200 (fun (x202:Value)=>RunK Tryz.prog (do eqGuard .neq 34 (.tmp 99) (.const .nilIface) x202 .nilIface;binOp .neq 34 x202 .nilIface) w200 (.v (.one .bool)) (fun (x203:Bool) w204=>DrewK w204 (fun w205=>HoldK (fun S206=>optA s10.1 (fun a207=>InK S206 a207 (LdsK KZ18 a207 w205 (fun (x208:YZ18)=>optA s10.1 (fun a209=>InK S206 a209 (LdsK KZ18 a209 w205 (fun (x210:YZ18)=>CallK Tryz.prog 27 #[.agg (LZ18 x210).toArray] w205 (.v (.agg KZ19)) (fun (x211:YZ19) w212=>KeepK S206 w205 w212 (StsK (ad g5) (LZ18 x208) w212 (fun w213=>KeepK S206 w212 w213 (StsK (ad g7) (LZ19 x211) w213 (fun w214=>KeepK S206 w213 w214 (LdsK KZ18 (ad g5) w214 (fun (x215:YZ18)=>LdsK KZ19 (ad g7) w214 (fun (x216:YZ19)=>K (.tuple #[.agg (LZ18 x215).toArray,.agg (LZ19 x216).toArray,.bool x203]) w214))))))))))))))))))))))))
 (DrewK w106 (fun w217=>HoldK (fun S218=>optA s10.1 (fun a219=>InK S218 a219 (LdsK KZ18 a219 w217 (fun (x220:YZ18)=>optA s10.1 (fun a221=>InK S218 a221 (LdsK KZ18 a221 w217 (fun (x222:YZ18)=>CallK Tryz.prog 27 #[.agg (LZ18 x222).toArray] w217 (.v (.agg KZ19)) (fun (x223:YZ19) w224=>KeepK S218 w217 w224 (StsK (ad g5) (LZ18 x220) w224 (fun w225=>KeepK S218 w224 w225 (StsK (ad g7) (LZ19 x223) w225 (fun w226=>KeepK S218 w225 w226 (LdsK KZ18 (ad g5) w226 (fun (x227:YZ18)=>LdsK KZ19 (ad g7) w226 (fun (x228:YZ19)=>K (.tuple #[.agg (LZ18 x227).toArray,.agg (LZ19 x228).toArray,.bool s92.1]) w226))))))))))))))))))))))))))))))))
def pl6:Plan:=(.seq .auto (.join [(9,.one .ptr)] (.held (.soft 0 (.soft 1 (.soft 3 (.soft 4 (.soft 6 (.soft 7 (.soft 9 (.soft 10 (.soft 13 (.soft 14 (.soft 16 (.soft 17 (.soft 18 (.soft 19 (.pick 2 (.pick 5 (.pick 8 (.pick 11 (.soft 12 (.pick 15 (.soft 20 (.pick 21 (.pick 22 .done .stop) .stop)) (.pick 21 (.pick 15 (.soft 20 (.pick 22 .done .stop)) .stop) .stop))) (.pick 21 (.pick 11 (.soft 12 (.pick 15 (.soft 20 (.pick 22 .done .stop)) .stop)) .stop) .stop)) (.pick 21 (.pick 8 (.pick 11 (.soft 12 (.pick 15 (.soft 20 (.pick 22 .done .stop)) .stop)) .stop) .stop) .stop)) (.pick 21 (.pick 5 (.pick 8 (.pick 11 (.soft 12 (.pick 15 (.soft 20 (.pick 22 .done .stop)) .stop)) .stop) .stop) .stop) .stop)) (.pick 21 (.pick 2 (.pick 5 (.pick 8 (.pick 11 (.soft 12 (.pick 15 (.soft 20 (.pick 22 .done .stop)) .stop)) .stop) .stop) .stop) .stop) .stop))))))))))))))))) (.seq .auto (.join [] (.join [(39,.one .bool)] .auto .auto) (.join [(10,.one .bool)] .auto (.seq .auto (.seq (.held (.soft 0 (.soft 1 (.soft 3 (.pick 2 (.pick 4 (.pick 5 (.soft 6 .done) .stop) .stop) .stop))))) .auto)))))))
theorem c6 (p0:YZ15) (p1:YZ13) (p2:Int) (w:World) (K:Value→World→Prop) (h:C6 p0 p1 p2 w K):Ret Tryz.prog 6 #[.agg (LZ15 p0).toArray,.agg (LZ13 p1).toArray,.int .i64 p2] w K:=z0z (by kernel_rfl) Tryz.func6 (p:=pl6) (Eq.mpr (by kernel_rfl) h)
def C27 (p0:YZ18) (w:World) (K:Value→World→Prop):Prop:=
 NewK (.cells ((LZ18 p0).toArray) 38) w (fun g1 w2=>NewK (.cells #[.int .i64 0,.int .i64 0,.int .i64 0,.int .i64 0,.int .i64 0,.int .u64 0,.bool false,.int .i64 0,.string (⟨#[]⟩:ByteArray),.string (⟨#[]⟩:ByteArray),.string (⟨#[]⟩:ByteArray),.string (⟨#[]⟩:ByteArray),.int .i64 0,.int .i64 0,.int .i64 0,.string (⟨#[]⟩:ByteArray),.int .i64 0,.slice none 0 0] 45) w2 (fun g3 w4=>DrewK w4 (fun w5=>HoldK (fun S6=>InK S6 ((ad g1).add 0) (LdK (.int .i64) ((ad g1).add 0) w5 (fun (x7:Int)=>InK S6 ((ad g1).add 1) (LdK (.int .i64) ((ad g1).add 1) w5 (fun (x8:Int)=>InK S6 ((ad g1).add 2) (LdK (.int .i64) ((ad g1).add 2) w5 (fun (x9:Int)=>InK S6 ((ad g1).add 3) (LdK (.int .i64) ((ad g1).add 3) w5 (fun (x10:Int)=>InK S6 ((ad g1).add 4) (LdK (.int .i64) ((ad g1).add 4) w5 (fun (x11:Int)=>InK S6 ((ad g1).add 5) (LdK (.int .u64) ((ad g1).add 5) w5 (fun (x12:Int)=>InK S6 ((ad g1).add 6) (LdK .bool ((ad g1).add 6) w5 (fun (x13:Bool)=>InK S6 ((ad g1).add 7) (LdsK KZ14 ((ad g1).add 7) w5 (fun (x14:YZ14)=>CallK Tryz.prog 51 #[.agg (LZ14 x14).toArray] w5 (.v (.agg KZ16)) (fun (x15:YZ16) w16=>KeepK S6 w5 w16 (StsK (ad g3) [.int .i64 x7,.int .i64 x8,.int .i64 x9,.int .i64 x10,.int .i64 x11,.int .u64 x12,.bool x13,.int .i64 x15.1,.string x15.2.1,.string x15.2.2.1,.string x15.2.2.2.1,.string x15.2.2.2.2.1,.int .i64 x15.2.2.2.2.2.1,.int .i64 x15.2.2.2.2.2.2.1,.int .i64 x15.2.2.2.2.2.2.2.1,.string x15.2.2.2.2.2.2.2.2.1,.int .i64 x15.2.2.2.2.2.2.2.2.2.1,.slice x15.2.2.2.2.2.2.2.2.2.2.1.1 x15.2.2.2.2.2.2.2.2.2.2.1.2.1 x15.2.2.2.2.2.2.2.2.2.2.1.2.2] w16 (fun w17=>KeepK S6 w16 w17 (LdsK KZ19 (ad g3) w17 (fun (x18:YZ19)=>K (.agg (LZ19 x18).toArray) w17)))))))))))))))))))))))))
def pl27:Plan:=(.seq .auto (.seq (.held (.soft 0 (.soft 1 (.soft 2 (.soft 3 (.soft 4 (.soft 5 (.soft 6 (.soft 7 (.soft 8 (.soft 9 (.soft 10 (.soft 11 (.soft 12 (.soft 13 (.soft 14 (.soft 15 (.pick 16 (.soft 17 (.pick 18 .done .stop)) .stop)))))))))))))))))) .auto))
theorem c27 (p0:YZ18) (w:World) (K:Value→World→Prop) (h:C27 p0 w K):Ret Tryz.prog 27 #[.agg (LZ18 p0).toArray] w K:=z0z (by kernel_rfl) Tryz.func27 (p:=pl27) (Eq.mpr (by kernel_rfl) h)
def C20 (p0:YZ18) (p1:YZ19) (w:World) (K:Value→World→Prop):Prop:=
 NewK (.cells ((LZ18 p0).toArray) 38) w (fun g1 w2=>NewK (.cells ((LZ19 p1).toArray) 45) w2 (fun g3 w4=>DrewK w4 (fun w5=>HoldK (fun S6=>InK S6 ((ad g1).add 0) (LdK (.int .i64) ((ad g1).add 0) w5 (fun (x7:Int)=>InK S6 ((ad g3).add 0) (LdK (.int .i64) ((ad g3).add 0) w5 (fun (x8:Int)=>ifB (x7==x8)
 (InK S6 ((ad g1).add 1) (LdK (.int .i64) ((ad g1).add 1) w5 (fun (x9:Int)=>InK S6 ((ad g3).add 1) (LdK (.int .i64) ((ad g3).add 1) w5 (fun (x10:Int)=>ifB (x9==x10)
 (InK S6 ((ad g1).add 2) (LdK (.int .i64) ((ad g1).add 2) w5 (fun (x11:Int)=>InK S6 ((ad g3).add 2) (LdK (.int .i64) ((ad g3).add 2) w5 (fun (x12:Int)=>ifB (x11==x12)
 (InK S6 ((ad g1).add 3) (LdK (.int .i64) ((ad g1).add 3) w5 (fun (x13:Int)=>InK S6 ((ad g3).add 3) (LdK (.int .i64) ((ad g3).add 3) w5 (fun (x14:Int)=>ifB (x13==x14)
 (InK S6 ((ad g1).add 4) (LdK (.int .i64) ((ad g1).add 4) w5 (fun (x15:Int)=>InK S6 ((ad g3).add 4) (LdK (.int .i64) ((ad g3).add 4) w5 (fun (x16:Int)=>ifB (x15==x16)
 (InK S6 ((ad g1).add 5) (LdK (.int .u64) ((ad g1).add 5) w5 (fun (x17:Int)=>InK S6 ((ad g3).add 5) (LdK (.int .u64) ((ad g3).add 5) w5 (fun (x18:Int)=>ifB (x17==x18)
 (InK S6 ((ad g1).add 6) (LdK .bool ((ad g1).add 6) w5 (fun (x19:Bool)=>InK S6 ((ad g3).add 6) (LdK .bool ((ad g3).add 6) w5 (fun (x20:Bool)=>ifB (x19==x20)
 (InK S6 ((ad g1).add 7) (LdsK KZ14 ((ad g1).add 7) w5 (fun (x21:YZ14)=>InK S6 ((ad g3).add 7) (LdsK KZ16 ((ad g3).add 7) w5 (fun (x22:YZ16)=>CallK Tryz.prog 44 #[.agg (LZ16 x22).toArray] w5 (.v (.agg KZ14)) (fun (x23:YZ14) w24=>KeepK S6 w5 w24 (CallK Tryz.prog 22 #[.agg (LZ14 x21).toArray,.agg (LZ14 x23).toArray] w24 (.v (.one .bool)) (fun (x25:Bool) w26=>KeepK S6 w24 w26 (K (.bool x25) w26)))))))))
 (K (.bool false) w5))))))
 (K (.bool false) w5))))))
 (K (.bool false) w5))))))
 (K (.bool false) w5))))))
 (K (.bool false) w5))))))
 (K (.bool false) w5))))))
 (K (.bool false) w5)))))))))
def pl20:Plan:=(.seq .auto (.seq (.held (.soft 0 (.soft 1 (.soft 2 (.soft 3 (.soft 4 (.soft 5 (.soft 6 (.soft 7 (.soft 8 (.soft 9 (.soft 10 (.soft 11 (.soft 12 (.soft 13 (.soft 14 (.soft 15 (.soft 16 (.soft 17 (.soft 18 (.soft 19 (.soft 20 (.soft 21 (.soft 22 (.soft 23 (.soft 24 (.soft 25 (.soft 26 (.soft 27 (.soft 28 (.soft 29 (.soft 30 (.soft 31 (.soft 32 (.soft 33 (.soft 34 (.soft 35 (.soft 36 (.soft 37 (.soft 38 (.soft 39 (.soft 40 (.soft 41 (.soft 42 (.soft 43 (.soft 44 (.soft 45 (.soft 46 (.soft 47 (.soft 48 (.soft 49 (.soft 50 (.soft 51 (.pick 52 (.pick 53 (.soft 54 (.soft 55 .done)) .stop) .stop)))))))))))))))))))))))))))))))))))))))))))))))))))))) .auto))
theorem c20 (p0:YZ18) (p1:YZ19) (w:World) (K:Value→World→Prop) (h:C20 p0 p1 w K):Ret Tryz.prog 20 #[.agg (LZ18 p0).toArray,.agg (LZ19 p1).toArray] w K:=z0z (by kernel_rfl) Tryz.func20 (p:=pl20) (Eq.mpr (by kernel_rfl) h)
def C26 (p0:Int) (w:World) (K:Value→World→Prop):Prop:=
 NewK (.cells #[.string (⟨#[]⟩:ByteArray)] 102) w (fun g1 w2=>StsK (ad g1) [.string (⟨#[117,115,100]⟩:ByteArray)] w2 (fun w3=>RunK Tryz.prog (Instr.buildSlice 26 1 #[(0,.int .i64 1)]) w3 (.v (.one .slc)) (fun (x4:SlT) w5=>NewK (.map #[] 0) w5 (fun g6 w7=>NewK (.cells #[.int .i64 2] 108) w7 (fun g8 w9=>RunK Tryz.prog (Instr.buildSlice 110 9 #[(0,.nilIface),(1,.iface 3 (.int .i64 5)),(2,.iface 9 (.string (⟨#[122,101,114,111]⟩:ByteArray))),(3,.iface 103 (.pointer (some (ad g1)))),(4,.iface 26 (.slice x4.1 x4.2.1 x4.2.2)),(5,.iface 105 (.agg #[.int .i64 0,.string (⟨#[]⟩:ByteArray),.int .i64 0])),(6,.iface 106 (.map (some g6))),(7,.iface 108 (.agg #[.int .i64 1])),(8,.iface 109 (.pointer (some (ad g8))))]) w9 (.v (.one .slc)) (fun (x10:SlT) w11=>CallK Tryz.prog 14 #[.int .i64 p0,.int .i64 9] w11 (.v (.one (.int .i64))) (fun (x12:Int) w13=>IdxK x10.1 x10.2.1 x12 1 (fun a14=>LdK .raw a14 w13 (fun (x15:Value)=>K x15 w13)))))))))
def pl26:Plan:=.auto
theorem c26 (p0:Int) (w:World) (K:Value→World→Prop) (h:C26 p0 w K):Ret Tryz.prog 26 #[.int .i64 p0] w K:=z0z (by kernel_rfl) Tryz.func26 (p:=pl26) (Eq.mpr (by kernel_rfl) h)
abbrev FRT:=Int×Int×Int×Int×Int×Int×Bool×EvR
abbrev FRK:List Ck:=[.int .i64,.int .i64,.int .i64,.int .i64,.int .i64,.int .u64,.bool,.int .i64,.str,.str,.str,.str,.int .i64,.int .i64,.int .i64,.str,.int .i64,.slc]
def frR (f:FrT) (v:TV):FRT:=(f.1,f.2.1,f.2.2.1,f.2.2.2.1,f.2.2.2.2.1,f.2.2.2.2.2.1,f.2.2.2.2.2.2.1,evR (frE f) v)
def frrE (x:FRT):EvR:=x.2.2.2.2.2.2.2
def frRL (x:FRT):List Value:=[.int .i64 x.1,.int .i64 x.2.1,.int .i64 x.2.2.1,.int .i64 x.2.2.2.1,.int .i64 x.2.2.2.2.1,.int .u64 x.2.2.2.2.2.1,.bool x.2.2.2.2.2.2.1,.int .i64 (frrE x).1,.string (frrE x).2.1,.string (frrE x).2.2.1,.string (frrE x).2.2.2.1,.string (frrE x).2.2.2.2.1,.int .i64 (frrE x).2.2.2.2.2.1,.int .i64 (frrE x).2.2.2.2.2.2.1,.int .i64 (frrE x).2.2.2.2.2.2.2.1,.string (frrE x).2.2.2.2.2.2.2.2.1,.int .i64 (frrE x).2.2.2.2.2.2.2.2.2.1,.slice (frrE x).2.2.2.2.2.2.2.2.2.2.1.1 (frrE x).2.2.2.2.2.2.2.2.2.2.1.2.1 (frrE x).2.2.2.2.2.2.2.2.2.2.1.2.2]
def frRA (x:FRT):Value:=.agg (frRL x).toArray
theorem frRL_one (x:FRT):(frRL x).all one1=true:=rfl
theorem frr_ev {w:World} {g:Nat} {x:FRT} {T:TypeId} (hb:w.heap[g]? = some (.cells (frRL x).toArray T (0,0))) {K:EvR→Prop} (k:K (frrE x)):LdsK ERK ((⟨g,0,none⟩:Addr).add 7) w K:=by
 refine LdsK.off (x:=frrE x) hb (fun j hj=>?_) k
 match j,hj with
 | 0,_=>rfl
 | 1,_=>rfl
 | 2,_=>rfl
 | 3,_=>rfl
 | 4,_=>rfl
 | 5,_=>rfl
 | 6,_=>rfl
 | 7,_=>rfl
 | 8,_=>rfl
 | 9,_=>rfl
 | 10,_=>rfl
 | j+11,h=>exact absurd h (by show ¬ j+11<11;omega)
theorem frref_spec (f:FrT) (t:Tm) (he:(frE f).2.2.2.2.2.2.2.1=t.v) (w:World) :
  Ret Tryz.prog 27 #[frA f] w fun r w'=>∃ v:TV,r=frRA (frR f v)∧Made w w' (trT t) v∧Fr none1 w w':=by
 refine c27 f w _ ?_
 unfold C27
 refine NewK.of fun g w1 hg hb f1 hs1=>NewK.of fun g3 w2 hg3 hb3 f2 hs2=>?_
 have hb2:w2.heap[g]? = some (.cells (frL f).toArray 38 (0,0)):=f2.keep0 hb
 refine DrewK.of fun w3 _ f3=>HoldK.of (fun k=>k≠g3) ?_
 have hb3':=f3.keep0 hb2
 have hn:g≠g3:=by omega
 refine inG hn (LdK.fld hb3' (x:=f.1) rfl (inG hn (LdK.fld hb3' (x:=f.2.1) rfl (inG hn (LdK.fld hb3' (x:=f.2.2.1) rfl (inG hn (LdK.fld hb3' (x:=f.2.2.2.1) rfl ?_)))))))
 refine inG hn (LdK.fld hb3' (x:=f.2.2.2.2.1) rfl (inG hn (LdK.fld hb3' (x:=f.2.2.2.2.2.1) rfl (inG hn (LdK.fld hb3' (x:=f.2.2.2.2.2.2.1) rfl (inG hn (fr_ev hb3' ?_)))))))
 have f13:=(f1.trans f2).trans f3
 refine CallK.of (event_of_spec (frE f) t he w3) ?_
 rintro _ w4 ⟨v,rfl,mv,f4⟩
 refine ⟨evR (frE f) v,rfl,KeepK.of f4 ?_⟩
 have s3:=f3.size
 have s13:=f13.size
 refine StsK.blk (vs:=frRL (frR f v)) ((f3.trans f4).keep0 hb3) rfl (frRL_one _) fun w5 hb5 f5 _=>KeepK.on f5 (fun k hk t=>hk t) ?_
 refine LdsK.blk (cks:=FRK) (x:=frR f v) hb5 ⟨v,rfl,?_,(f13.trans f4).fresh f5 (by have:=f1.size;omega)⟩
 exact (mv.keep f5 fun k hk _ t=>by have:k=g3:=t;omega).older s13
def sameFr (a b:FrM):Bool:=a.1==b.1&&(a.2.1==b.2.1&&(a.2.2.1==b.2.2.1&&(a.2.2.2.1==b.2.2.2.1&&(a.2.2.2.2.1==b.2.2.2.2.1&&(a.2.2.2.2.2.1==b.2.2.2.2.2.1&&(a.2.2.2.2.2.2.1==b.2.2.2.2.2.2.1&&sameP a.m b.m))))))
theorem frsame_spec (a b:FrM) {w:World} {S:Nat→Prop} {v:TV} (h:IsTr w S (trT b.m.t) v) :
  Ret Tryz.prog 20 #[frA a.f,frRA (frR b.f v)] w fun r w'=>r=.bool (sameFr a b)∧Fr none1 w w':=by
 refine c20 a.f (frR b.f v) w _ ?_
 unfold C20
 refine NewK.of fun g w1 hg hb f1 hs1=>NewK.of fun g3 w2 hg3 hb3 f2 hs2=>?_
 have hb2:w2.heap[g]? = some (.cells (frL a.f).toArray 38 (0,0)):=f2.keep0 hb
 refine DrewK.of fun w3 _ f3=>HoldK.all ?_
 have ha:=f3.keep0 hb2
 have hr:w3.heap[g3]? = some (.cells (frRL (frR b.f v)).toArray 45 (0,0)):=f3.keep0 hb3
 have f13:=(f1.trans f2).trans f3
 unfold sameFr
 refine ⟨trivial,LdK.fld ha (x:=a.1) rfl ⟨trivial,LdK.fld hr (x:=b.1) rfl (ifB.by (fun q=>?_) (fun q=>⟨by rw [q];rfl,f13⟩))⟩⟩
 rw [q,Bool.true_and];clear q
 refine ⟨trivial,LdK.fld ha (x:=a.2.1) rfl ⟨trivial,LdK.fld hr (x:=b.2.1) rfl (ifB.by (fun q=>?_) (fun q=>⟨by rw [q];rfl,f13⟩))⟩⟩
 rw [q,Bool.true_and];clear q
 refine ⟨trivial,LdK.fld ha (x:=a.2.2.1) rfl ⟨trivial,LdK.fld hr (x:=b.2.2.1) rfl (ifB.by (fun q=>?_) (fun q=>⟨by rw [q];rfl,f13⟩))⟩⟩
 rw [q,Bool.true_and];clear q
 refine ⟨trivial,LdK.fld ha (x:=a.2.2.2.1) rfl ⟨trivial,LdK.fld hr (x:=b.2.2.2.1) rfl (ifB.by (fun q=>?_) (fun q=>⟨by rw [q];rfl,f13⟩))⟩⟩
 rw [q,Bool.true_and];clear q
 refine ⟨trivial,LdK.fld ha (x:=a.2.2.2.2.1) rfl ⟨trivial,LdK.fld hr (x:=b.2.2.2.2.1) rfl (ifB.by (fun q=>?_) (fun q=>⟨by rw [q];rfl,f13⟩))⟩⟩
 rw [q,Bool.true_and];clear q
 refine ⟨trivial,LdK.fld ha (x:=a.2.2.2.2.2.1) rfl ⟨trivial,LdK.fld hr (x:=b.2.2.2.2.2.1) rfl (ifB.by (fun q=>?_) (fun q=>⟨by rw [q];rfl,f13⟩))⟩⟩
 rw [q,Bool.true_and];clear q
 refine ⟨trivial,LdK.fld ha (x:=a.2.2.2.2.2.2.1) rfl ⟨trivial,LdK.fld hr (x:=b.2.2.2.2.2.2.1) rfl (ifB.by (fun q=>?_) (fun q=>⟨by rw [q];rfl,f13⟩))⟩⟩
 rw [q,Bool.true_and];clear q
 refine ⟨trivial,fr_ev ha ⟨trivial,frr_ev hr ?_⟩⟩
 refine CallK.of (back_spec b.m.e b.m.t rfl (h.keep0 f13)) ?_
 rintro _ w4 ⟨rfl,f4⟩
 refine ⟨b.m.e,rfl,KeepK.of f4 ?_⟩
 refine CallK.of (esame_spec a.m b.m w4) ?_
 rintro _ w5 ⟨rfl,f5⟩
 exact ⟨_,rfl,KeepK.of f5 ⟨rfl,(f13.trans f4).trans f5⟩⟩
namespace Vc
variable {P:Program}
abbrev RawV:=Int×Int×Int×Int×Int×Int×Bool×Int×Int×ByteArray×Unit
def rawL (c:RawV):List Value:=[.int .i64 c.1,.int .i64 c.2.1,.int .i64 c.2.2.1,.int .i64 c.2.2.2.1,.int .i64 c.2.2.2.2.1,.int .u64 c.2.2.2.2.2.1,.bool c.2.2.2.2.2.2.1,.int .i64 c.2.2.2.2.2.2.2.1,.int .i64 c.2.2.2.2.2.2.2.2.1,.string c.2.2.2.2.2.2.2.2.2.1]
def IsRaw (w:World) (c:RawV):Prop:=(Lit.int .i64 c.1).wf=true∧(Lit.int .i64 c.2.1).wf=true∧(Lit.int .i64 c.2.2.1).wf=true∧(Lit.int .i64 c.2.2.2.1).wf=true∧(Lit.int .i64 c.2.2.2.2.1).wf=true∧(Lit.int .u64 c.2.2.2.2.2.1).wf=true∧(Lit.int .i64 c.2.2.2.2.2.2.2.1).wf=true∧(Lit.int .i64 c.2.2.2.2.2.2.2.2.1).wf=true∧c.2.2.2.2.2.2.2.2.2.1.size≤maxLen
theorem open_raw {H:Type} {enc:TypeId×Value→H} {w:World} {base:Nat} {held:Bool} {t ti tu tb ts:TypeId} {f0 f1 f2 f3 f4 f5 f6 f7 f8 f9:Field} {fuel:Nat} {cs:List Value} {x:DataW H×List MemPlace}
  (ht:P.underlying t=some (.struct #[f0,f1,f2,f3,f4,f5,f6,f7,f8,f9]))
  (q0:f0.type=ti∧f0.offset=0) (q1:f1.type=ti∧f1.offset=1) (q2:f2.type=ti∧f2.offset=2) (q3:f3.type=ti∧f3.offset=3) (q4:f4.type=ti∧f4.offset=4) (q5:f5.type=tu∧f5.offset=5) (q6:f6.type=tb∧f6.offset=6) (q7:f7.type=ti∧f7.offset=7) (q8:f8.type=ti∧f8.offset=8) (q9:f9.type=ts∧f9.offset=9)
  (hti:P.underlying ti=some (.int .i64)) (htu:P.underlying tu=some (.int .u64)) (htb:P.underlying tb=some .bool) (hts:P.underlying ts=some .string)
  (hc:P.cellsOf t=10) (hci:P.cellsOf ti=1) (hcu:P.cellsOf tu=1) (hcb:P.cellsOf tb=1) (hcs:P.cellsOf ts=1)
  (h:DataW.trod enc P w base (fun _=>true) held fuel t cs=some x):∃ c:RawV,cs=rawL c∧IsRaw w c:=by
 obtain ⟨xs,n,_,_,hl,hlen,hf⟩:=DataW.trod_struct ht h
 rw [hc] at hl
 match xs,hlen with
 | [y0,y1,y2,y3,y4,y5,y6,y7,y8,y9],_=>
  match cs,hl with
  | [c0,c1,c2,c3,c4,c5,c6,c7,c8,c9],_=>
   have a0:=hf 0 f0 rfl
   have a1:=hf 1 f1 rfl
   have a2:=hf 2 f2 rfl
   have a3:=hf 3 f3 rfl
   have a4:=hf 4 f4 rfl
   have a5:=hf 5 f5 rfl
   have a6:=hf 6 f6 rfl
   have a7:=hf 7 f7 rfl
   have a8:=hf 8 f8 rfl
   have a9:=hf 9 f9 rfl
   rw [q0.1,q0.2,hci] at a0
   rw [q1.1,q1.2,hci] at a1
   rw [q2.1,q2.2,hci] at a2
   rw [q3.1,q3.2,hci] at a3
   rw [q4.1,q4.2,hci] at a4
   rw [q5.1,q5.2,hcu] at a5
   rw [q6.1,q6.2,hcb] at a6
   rw [q7.1,q7.2,hci] at a7
   rw [q8.1,q8.2,hci] at a8
   rw [q9.1,q9.2,hcs] at a9
   simp only [List.drop_zero,List.drop_succ_cons,List.take_succ_cons,List.take_zero,List.getElem?_cons_zero,List.getElem?_cons_succ] at a0 a1 a2 a3 a4 a5 a6 a7 a8 a9
   obtain ⟨z0,e0,_,w0⟩:=DataW.trod_int hti a0
   obtain ⟨z1,e1,_,w1⟩:=DataW.trod_int hti a1
   obtain ⟨z2,e2,_,w2⟩:=DataW.trod_int hti a2
   obtain ⟨z3,e3,_,w3⟩:=DataW.trod_int hti a3
   obtain ⟨z4,e4,_,w4⟩:=DataW.trod_int hti a4
   obtain ⟨z5,e5,_,w5⟩:=DataW.trod_int htu a5
   obtain ⟨z6,e6,_⟩:=DataW.trod_bool htb a6
   obtain ⟨z7,e7,_,w7⟩:=DataW.trod_int hti a7
   obtain ⟨z8,e8,_,w8⟩:=DataW.trod_int hti a8
   obtain ⟨s9,e9,_,w9⟩:=DataW.trod_string hts a9
   simp only [List.cons.injEq,and_true] at e0 e1 e2 e3 e4 e5 e6 e7 e8 e9
   subst e0;subst e1;subst e2;subst e3;subst e4;subst e5;subst e6;subst e7;subst e8;subst e9
   exact ⟨(z0,z1,z2,z3,z4,z5,z6,z7,z8,s9,()),rfl,w0,w1,w2,w3,w4,w5,w7,w8,w9⟩
end Vc
theorem some_spec (c:CmV) (p1 p2:Int) (p3:ByteArray) {w:World} (hp:IsPl w (cmPl c)) :
  Ret Tryz.prog 25 #[.agg (cmL c).toArray,.int .i64 p1,.int .i64 p2,.string p3,.int .i64 0] w fun r w'=>
   ∃ (e:EvT) (t:Tm) (v:TV),r=.tuple #[evA e,evRA (evR e v),.bool false]∧e.2.2.2.2.2.2.2.1=t.v∧smallE e∧nodesT t≤2000∧shortT t∧Made w w' (trT t) v∧Fr none1 w w':=by
 refine c25 c p1 p2 p3 0 w _ ?_
 unfold C25
 refine NewK.of fun g1 w1 hg1 hb1 f1 hs1=>NewK.of fun g3 w2 hg3 hb3 f2 hs2=>NewK.of fun g5 w3 hg5 hb5 f3 hs3=>?_
 refine LdsK.blk (cks:=[.int .i64,.int .i64,.int .i64,.int .i64,.int .i64,.str,.slc,.slc]) (x:=c) ((f2.trans f3).keep0 hb1) ?_
 have f13:=(f1.trans f2).trans f3
 refine CallK.of (do_spec c 3 (hp.keep0 f13)) ?_
 rintro _ w4 ⟨x,rfl,hx,f4⟩
 refine ⟨x,rfl,?_⟩
 have s4:=f4.size
 refine NewK.of fun g10 w5 hg10 hb10 f5 hs5=>?_
 refine StsK.blk (cs:=evRL (0,(⟨#[]⟩:ByteArray),(⟨#[]⟩:ByteArray),(⟨#[]⟩:ByteArray),(⟨#[]⟩:ByteArray),0,0,0,(⟨#[]⟩:ByteArray),0,(none,0,0),())) (vs:=evRL x) hb10 rfl rfl fun w6 hb6 f6 hs6=>?_
 have hx6:Fine w6 (fun k=>w3.heap.size≤k∧k<w4.heap.size) x:=(hx.keep f5 (fun _ _ t=>t) (fun _ h=>h)).keep f6 (fun k hk t=>by have:k=g10:=t;have:=hk.2;omega) (fun _ h=>h)
 refine JoinK.of (fun _ w'=>(∃ y:EvR,w'.heap[g10]? = some (.cells (evRL y).toArray 43 (0,0))∧Fine w' (fun k=>w3.heap.size≤k∧k<w4.heap.size) y)∧Fr (only g10) w6 w') ?_ ?_
 ·obtain ⟨e,t,v,rfl,he,hz,hn,hsh,hT⟩:=hx6
  have kp:∀ wd,Fr (only g10) w6 wd→IsTr wd (fun k=>w3.heap.size≤k∧k<w4.heap.size) (trT t) v:=fun wd f=>IsTr.keep f (fun k hk q=>by have:k=g10:=q;have:=hk.2;omega) _ _ hT
  refine witK p1 20 (by decide) fun k _ _=>?_
  refine ifB.by (fun _=>?_) (fun _=>?_)
  ·refine witK p2 9 (by decide) fun n _ _=>StK.fld hb6 (by show 0+0<11;omega) rfl fun wd hb f _=>?_
   exact ⟨⟨evR (n,e.2) v,hb,(n,e.2),t,v,rfl,he,hz,hn,hsh,kp wd f⟩,f⟩
  refine ifB.by (fun _=>?_) (fun _=>?_)
  ·refine txtK p3 16 (by decide) (by decide) fun s hs=>StK.fld hb6 (by show 0+1<11;omega) rfl fun wd hb f _=>?_
   exact ⟨⟨evR (e.1,s,e.2.2) v,hb,(e.1,s,e.2.2),t,v,rfl,he,⟨by show s.size≤_;omega,hz.2⟩,hn,hsh,kp wd f⟩,f⟩
  refine ifB.by (fun _=>?_) (fun _=>?_)
  ·refine txtK p3 16 (by decide) (by decide) fun s hs=>StK.fld hb6 (by show 0+2<11;omega) rfl fun wd hb f _=>?_
   exact ⟨⟨evR (e.1,e.2.1,s,e.2.2.2) v,hb,(e.1,e.2.1,s,e.2.2.2),t,v,rfl,he,⟨hz.1,by show s.size≤_;omega,hz.2.2⟩,hn,hsh,kp wd f⟩,f⟩
  refine ifB.by (fun _=>?_) (fun _=>?_)
  ·refine txtK p3 16 (by decide) (by decide) fun s hs=>StK.fld hb6 (by show 0+3<11;omega) rfl fun wd hb f _=>?_
   exact ⟨⟨evR (e.1,e.2.1,e.2.2.1,s,e.2.2.2.2) v,hb,(e.1,e.2.1,e.2.2.1,s,e.2.2.2.2),t,v,rfl,he,⟨hz.1,hz.2.1,by show s.size≤_;omega,hz.2.2.2⟩,hn,hsh,kp wd f⟩,f⟩
  refine ifB.by (fun _=>?_) (fun _=>?_)
  ·refine txtK p3 16 (by decide) (by decide) fun s hs=>StK.fld hb6 (by show 0+4<11;omega) rfl fun wd hb f _=>?_
   exact ⟨⟨evR (e.1,e.2.1,e.2.2.1,e.2.2.2.1,s,e.2.2.2.2.2) v,hb,(e.1,e.2.1,e.2.2.1,e.2.2.2.1,s,e.2.2.2.2.2),t,v,rfl,he,⟨hz.1,hz.2.1,hz.2.2.1,by show s.size≤_;omega⟩,hn,hsh,kp wd f⟩,f⟩
  refine ifB.by (fun _=>?_) (fun _=>?_)
  ·refine StK.fld hb6 (by show 0+5<11;omega) rfl fun wd hb f _=>?_
   exact ⟨⟨evR (e.1,e.2.1,e.2.2.1,e.2.2.2.1,e.2.2.2.2.1,p2,e.2.2.2.2.2.2) v,hb,(e.1,e.2.1,e.2.2.1,e.2.2.2.1,e.2.2.2.2.1,p2,e.2.2.2.2.2.2),t,v,rfl,he,hz,hn,hsh,kp wd f⟩,f⟩
  refine ifB.by (fun _=>?_) (fun _=>?_)
  ·refine StK.fld hb6 (by show 0+6<11;omega) rfl fun wd hb f _=>?_
   exact ⟨⟨evR (e.1,e.2.1,e.2.2.1,e.2.2.2.1,e.2.2.2.2.1,e.2.2.2.2.2.1,p2,e.2.2.2.2.2.2.2) v,hb,(e.1,e.2.1,e.2.2.1,e.2.2.2.1,e.2.2.2.2.1,e.2.2.2.2.2.1,p2,e.2.2.2.2.2.2.2),t,v,rfl,he,hz,hn,hsh,kp wd f⟩,f⟩
  ·exact ⟨⟨evR e v,hb6,e,t,v,rfl,he,hz,hn,hsh,hT⟩,Fr.refl _ _⟩
 rintro _ _ w7 ⟨⟨y,hb7,e,t,v,rfl,he,hz,hn,hsh,hT⟩,f7⟩
 refine LdsK.blk (cks:=ERK) (x:=evR e v) hb7 ?_
 refine CallK.of (back_spec e t he hT) ?_
 rintro _ w8 ⟨rfl,f8⟩
 refine ⟨e,rfl,?_⟩
 have hone:one1 e.2.2.2.2.2.2.2.1=true:=by rw [he];exact Tm.v_one t
 refine ns_ok (zs:=[.int .i64 0,.string (⟨#[]⟩:ByteArray),.string (⟨#[]⟩:ByteArray),.string (⟨#[]⟩:ByteArray),.string (⟨#[]⟩:ByteArray),.int .i64 0,.int .i64 0,.nilIface]) (vs:=evL e) rfl (evL_one hone) fun g38 w9 hg38 hb9 f9=>?_
 refine ⟨by decide,ifB.f (by decide) ?_⟩
 have s5:=f5.size;have s6:=f6.size;have s7:=f7.size;have s8:=f8.size
 refine DrewK.of fun wa _ fa=>HoldK.of (fun k=>k=g38) ⟨rfl,?_⟩
 refine LdsK.blk (cks:=EK) (x:=e) (fa.keep0 hb9) ⟨rfl,LdsK.blk (cks:=EK) (x:=e) (fa.keep0 hb9) ?_⟩
 refine CallK.of (event_of_spec e t he wa) ?_
 rintro _ wb ⟨v2,rfl,mv,fb⟩
 refine ⟨evR e v2,rfl,KeepK.of fb ?_⟩
 have f36:Fr none1 w3 w6:=(f4.trans f5).fresh f6 (by omega)
 have f3b:Fr none1 w3 wb:=((((f36.fresh f7 (by omega)).trans f8).trans f9).trans fa).trans fb
 have s3b:=f3b.size
 have sab:=(f9.trans fa).size
 refine StsK.blk (cs:=[.int .i64 0,.string (⟨#[]⟩:ByteArray),.string (⟨#[]⟩:ByteArray),.string (⟨#[]⟩:ByteArray),.string (⟨#[]⟩:ByteArray),.int .i64 0,.int .i64 0,.nilIface]) (vs:=evL e) ((f3.trans f3b).keep0 hb3) rfl (evL_one hone) fun wc hbc fc _=>KeepK.on fc (fun k hk q=>by have:g3=k:=q.symm;omega) ?_
 refine StsK.blk (cs:=evRL (0,(⟨#[]⟩:ByteArray),(⟨#[]⟩:ByteArray),(⟨#[]⟩:ByteArray),(⟨#[]⟩:ByteArray),0,0,0,(⟨#[]⟩:ByteArray),0,(none,0,0),())) (vs:=evRL (evR e v2)) (fc.keep (f3b.keep0 hb5) (fun q=>by have:g5=g3:=q;omega)) rfl rfl fun wd hbd fd _=>KeepK.on fd (fun k hk q=>by have:g5=k:=q.symm;omega) ?_
 refine LdsK.blk (cks:=EK) (x:=e) (fd.keep hbc (fun q=>by have:g3=g5:=q;omega)) (LdsK.blk (cks:=ERK) (x:=evR e v2) hbd ?_)
 refine ⟨e,t,v2,rfl,he,hz,hn,hsh,?_,((f13.trans f3b).fresh fc (by omega)).fresh fd (by omega)⟩
 have m2:=(mv.keep fc (fun k hk _ q=>by have:k=g3:=q;omega)).keep fd (fun k hk _ q=>by have:k=g5:=q;omega)
 exact m2.older (by omega)
theorem wthK {S:Nat→Prop} (v n:Int) (hn:n≤9223372036854775807) {wa:World} {K:Int→World→Prop} (k:K (within v n) wa):CallK Tryz.prog 14 #[.int .i64 v,.int .i64 n] wa (.v (.one (.int .i64))) (fun (x:Int) wb=>KeepK S wa wb (K x wb)):=by
 refine CallK.of (z30z v n wa hn) ?_
 rintro _ _ ⟨rfl,rfl⟩
 exact ⟨_,rfl,KeepK.same k⟩
theorem elem_anyI:ElemOk Tryz.prog 110 20 1 .nilIface 16:=⟨Tryz.underlying110,⟨Tryz.t20,by kernel_rfl,rfl,rfl,rfl⟩,rfl,by decide⟩
theorem elem_intI:ElemOk Tryz.prog 26 3 1 (.int .i64 0) 8:=⟨Tryz.underlying26,⟨Tryz.t3,by kernel_rfl,rfl,rfl,rfl⟩,rfl,by decide⟩
def oddL (g1 g6 g8:Nat) (v:Sl):List Value:=[.nilIface,.iface 3 (.int .i64 5),.iface 9 (.string ⟨#[122,101,114,111]⟩),.iface 103 (.pointer (some ⟨g1,0,none⟩)),.iface 26 (.slice v.1 v.2.1 v.2.2),.iface 105 (.agg #[.int .i64 0,.string ⟨#[]⟩,.int .i64 0]),.iface 106 (.map (some g6)),.iface 108 (.agg #[.int .i64 1]),.iface 109 (.pointer (some ⟨g8,0,none⟩))]
theorem odd_spec (n:Int) (w:World):Ret Tryz.prog 26 #[.int .i64 n] w fun r w'=>(∃ (g1 g6 g8:Nat) (v:Sl),(oddL g1 g6 g8 v)[(within n 9).toNat]? = some r)∧Fr none1 w w':=by
 refine c26 n w _ ?_
 unfold C26
 refine NewK.of fun g1 w1 hg1 hb1 f1 hs1=>?_
 refine StsK.blk (cs:=[.string ⟨#[]⟩]) hb1 rfl rfl fun w2 hb2 f2 hs2=>?_
 obtain ⟨v,w3,hr3,hv,_,f3,_⟩:=lit_ok (P:=Tryz.prog) (w:=w2) elem_intI [.int .i64 1] (by simp [Value.cells]) (by decide)
 refine ⟨v,w3,hr3,?_⟩
 refine NewK.of fun g6 w4 hg6 hb6 f4 hs4=>NewK.of fun g8 w5 hg8 hb8 f5 hs5=>?_
 obtain ⟨y,w6,hr6,hy,hyl,f6,_⟩:=lit_ok (P:=Tryz.prog) (w:=w5) elem_anyI (oddL g1 g6 g8 v) (by unfold oddL;simp [Value.cells]) (by show 9≤_;decide)
 refine ⟨y,w6,hr6,?_⟩
 refine CallK.of (z30z n 9 w6 (by decide)) ?_
 rintro _ _ ⟨rfl,rfl⟩
 refine ⟨_,rfl,?_⟩
 have l0:=within_lo n 9
 have l1:=within_hi n (show (1:Int)≤9 by decide)
 have hyl:y.2.1=9:=hyl
 obtain ⟨r,hr⟩:∃ r,(oddL g1 g6 g8 v)[(within n 9).toNat]? = some r:=⟨_,List.getElem?_eq_getElem (show (within n 9).toNat<(oddL g1 g6 g8 v).length by show _<9;omega)⟩
 have F:Fr none1 w w6:=((((f1.fresh f2 (by omega)).trans f3).trans f4).trans f5).trans f6
 exact RdSl.ld (c:=.raw) hy.rd l0 (by rw [hyl];omega) (x:=r) hr ⟨⟨g1,g6,g8,v,hr⟩,F⟩
def fr0 (x:RawV):FrM:=(within x.1 2,within x.2.1 2147483648,within x.2.2.1 2147483648,IntKind.i64.wrap (1+within x.2.2.2.1 4),within x.2.2.2.2.1 70,x.2.2.2.2.2.1,x.2.2.2.2.2.2.1,zeroM)
theorem zeroM_small:smallE zeroM.e:=⟨by decide,by decide,by decide,by decide⟩
structure FSo (w wc:World) (g1 g3 g5 g7 g:Nat) (x:RawV) (c:CmV) (f:FrT):Prop where
 b1:wc.heap[g1]? = some (.cells (rawL x).toArray 25 (0,0))
 b3:wc.heap[g3]? = some (.cells (cmL c).toArray 31 (0,0))
 b5:wc.heap[g5]? = some (.cells (frL zeroFr.f).toArray 38 (0,0))
 b7:∃ z:FRT,wc.heap[g7]? = some (.cells (frRL z).toArray 45 (0,0))
 b:wc.heap[g]? = some (.cells (frL f).toArray 38 (0,0))
 fr:Fr none1 w wc
 lo:w.heap.size≤g1∧g1<g3∧g3<g5∧g5<g7∧g7<g
 he:∃ t:Tm,(frE f).2.2.2.2.2.2.2.1=t.v∧smallE (frE f)∧nodesT t≤2000∧shortT t
 hh:f.2.2.2.2.2.1=x.2.2.2.2.2.1
theorem FSo.keep0 {w wc wd:World} {g1 g3 g5 g7 g:Nat} {x:RawV} {c:CmV} {f:FrT} (h:FSo w wc g1 g3 g5 g7 g x c f) (q:Fr none1 wc wd):FSo w wd g1 g3 g5 g7 g x c f:=
 ⟨q.keep0 h.b1,q.keep0 h.b3,q.keep0 h.b5,h.b7.imp fun _ t=>q.keep0 t,q.keep0 h.b,h.fr.trans q,h.lo,h.he,h.hh⟩
theorem FSo.put {w wc wd:World} {g1 g3 g5 g7 g:Nat} {x:RawV} {c:CmV} {f f':FrT} (h:FSo w wc g1 g3 g5 g7 g x c f) (q:Fr (only g) wc wd) (hb:wd.heap[g]? = some (.cells (frL f').toArray 38 (0,0)))
  (he:∃ t:Tm,(frE f').2.2.2.2.2.2.2.1=t.v∧smallE (frE f')∧nodesT t≤2000∧shortT t) (hh:f'.2.2.2.2.2.1=f.2.2.2.2.2.1):FSo w wd g1 g3 g5 g7 g x c f':=by
 obtain ⟨l1,l2,l3,l4,l5⟩:=h.lo
 exact ⟨q.keep h.b1 (fun t=>by have:g1=g:=t;omega),q.keep h.b3 (fun t=>by have:g3=g:=t;omega),q.keep h.b5 (fun t=>by have:g5=g:=t;omega),h.b7.imp fun _ hz=>q.keep hz (fun t=>by have:g7=g:=t;omega),hb,h.fr.fresh q (by omega),h.lo,he,by rw [hh,h.hh]⟩
theorem optA.on {a:Addr} {K:Addr→Prop} (k:K a):optA (some a) K:=k
set_option maxHeartbeats 4000000 in
theorem frsome_spec (x:RawV) (c:CmV) {w:World} (hp:IsPl w (cmPl c)) :
  Ret Tryz.prog 6 #[.agg (rawL x).toArray,.agg (cmL c).toArray,.int .i64 0] w fun r w'=>
   ∃ (f:FrT) (t:Tm) (v:TV),r=.tuple #[frA f,frRA (frR f v),.bool false]∧(frE f).2.2.2.2.2.2.2.1=t.v∧smallE (frE f)∧nodesT t≤2000∧shortT t∧f.2.2.2.2.2.1=x.2.2.2.2.2.1∧Made w w' (trT t) v∧Fr none1 w w':=by
 refine c6 x c 0 w _ ?_
 unfold C6
 refine NewK.of fun g1 w1 hg1 hb1 f1 hs1=>NewK.of fun g3 w2 hg3 hb3 f2 hs2=>NewK.of fun g5 w3 hg5 hb5 f3 hs3=>NewK.of fun g7 w4 hg7 hb7 f4 hs4=>?_
 have hb1:w1.heap[g1]? = some (.cells (rawL x).toArray 25 (0,0)):=hb1
 have hb3:w2.heap[g3]? = some (.cells (cmL c).toArray 31 (0,0)):=hb3
 have hb5:w3.heap[g5]? = some (.cells (frL zeroFr.f).toArray 38 (0,0)):=hb5
 have hb7:w4.heap[g7]? = some (.cells (frRL (frR zeroFr.f (0,str [],0,(none,0,0),()))).toArray 45 (0,0)):=hb7
 have b14:=f4.keep0 (f3.keep0 (f2.keep0 hb1))
 have b34:=f4.keep0 (f3.keep0 hb3)
 have b54:=f4.keep0 hb5
 have F4:Fr none1 w w4:=((f1.trans f2).trans f3).trans f4
 have fin0:∀ (g:Nat) (wa wb:World),Fr none1 w4 wa→g7<g→wb.heap[g]? = some (.cells (frL (fr0 x).f).toArray 38 (0,0))→Fr (only g) wa wb→FSo w wb g1 g3 g5 g7 g x c (fr0 x).f:=fun g wa wb fa hg hb fb=>by
  have fr:=(F4.trans fa).fresh fb (by omega)
  exact ⟨fb.keep (fa.keep0 b14) (fun t=>by have:g1=g:=t;omega),fb.keep (fa.keep0 b34) (fun t=>by have:g3=g:=t;omega),fb.keep (fa.keep0 b54) (fun t=>by have:g5=g:=t;omega),⟨_,fb.keep (fa.keep0 hb7) (fun t=>by have:g7=g:=t;omega)⟩,hb,fr,by have:=f1.size;omega,⟨.none,rfl,zeroM_small,by decide,trivial⟩,rfl⟩
 refine JoinK.of (fun st w'=>∃ g,st.1=some ⟨g,0,none⟩∧FSo w w' g1 g3 g5 g7 g x c (fr0 x).f) ?_ ?_
 ·refine DrewK.of fun w5 _ f5=>HoldK.of (fun k=>k=g1) ?_
  have b15:=f5.keep0 b14
  refine inG rfl (LdK.fld b15 (x:=x.1) rfl (inG rfl (LdK.fld b15 (x:=x.2.1) rfl (inG rfl (LdK.fld b15 (x:=x.2.2.1) rfl (inG rfl (LdK.fld b15 (x:=x.2.2.2.1) rfl (inG rfl (LdK.fld b15 (x:=x.2.2.2.2.1) rfl (inG rfl (LdK.fld b15 (x:=x.2.2.2.2.2.1) rfl (inG rfl (LdK.fld b15 (x:=x.2.2.2.2.2.2.1) rfl ?_)))))))))))))
  have endK:∀ (g:Nat) (wa:World),Fr none1 w4 wa→wa.heap[g]? = some (.cells (frL zeroFr.f).toArray 38 (0,0))→g7<g→StsK ⟨g,0,none⟩ (frL (fr0 x).f) wa (fun wb=>KeepK (fun k=>k=g1) wa wb (∃ h,some (⟨g,0,none⟩:Addr)=some ⟨h,0,none⟩∧FSo w wb g1 g3 g5 g7 h x c (fr0 x).f)):=fun g wa fa hb hg=>
   StsK.blk (cs:=frL zeroFr.f) (vs:=frL (fr0 x).f) hb rfl (frM_one _) fun wb hbb fb _=>KeepK.on fb (fun k hk t=>by have:k=g:=t;omega) ⟨g,rfl,fin0 g wa wb fa hg hbb fb⟩
  have s5:=f5.size
  have newK:∀ {K:Nat→World→Prop},(∀ g wa,Fr none1 w4 wa→wa.heap[g]? = some (.cells (frL zeroFr.f).toArray 38 (0,0))→g7<g→K g wa)→NewK (.cells (frL zeroFr.f).toArray 38) w5 (fun g wa=>KeepK (fun k=>k=g1) w5 wa (K g wa)):=fun k=>
   NewK.of fun g wa hg hb fa hs=>KeepK.of fa (k g wa (f5.trans fa) hb (by omega))
  repeat' first
   | (refine (⟨?_,?_⟩:AndK _ _))
   | (refine wthK _ _ (by decide) ?_)
   | (refine newK fun g wa fa hba hga=>?_)
   | exact endK _ _ fa hba hga
 rintro _ ⟨s10,_⟩ w5 ⟨g,hg10,S5⟩
 dsimp only at hg10 ⊢
 subst hg10
 have tail:∀ (wa:World) (f:FrT),FSo w wa g1 g3 g5 g7 g x c f→DrewK wa (fun w110=>HoldK (fun S111=>optA (some (⟨g,0,none⟩:Addr)) (fun a112=>InK S111 a112 (LdsK FK a112 w110 (fun (x113:Cs FK)=>optA (some (⟨g,0,none⟩:Addr)) (fun a114=>InK S111 a114 (LdsK FK a114 w110 (fun (x115:Cs FK)=>CallK Tryz.prog 27 #[.agg (Cs.vals FK x115).toArray] w110 (.v (.agg FRK)) (fun (x116:Cs FRK) w117=>KeepK S111 w110 w117 (StsK ⟨g5,0,none⟩ (Cs.vals FK x113) w117 (fun w118=>KeepK S111 w117 w118 (StsK ⟨g7,0,none⟩ (Cs.vals FRK x116) w118 (fun w119=>KeepK S111 w118 w119 (LdsK FK ⟨g5,0,none⟩ w119 (fun (x120:Cs FK)=>LdsK FRK ⟨g7,0,none⟩ w119 (fun (x121:Cs FRK)=>
   ∃ (f:FrT) (t:Tm) (v:TV),(Value.tuple #[.agg (Cs.vals FK x120).toArray,.agg (Cs.vals FRK x121).toArray,.bool false])=.tuple #[frA f,frRA (frR f v),.bool false]∧(frE f).2.2.2.2.2.2.2.1=t.v∧smallE (frE f)∧nodesT t≤2000∧shortT t∧f.2.2.2.2.2.1=x.2.2.2.2.2.1∧Made w w119 (trT t) v∧Fr none1 w w119)))))))))))))))):=fun wa f S=>by
  refine DrewK.of fun wb _ fb=>HoldK.of (fun k=>k=g) ?_
  have S:=S.keep0 fb
  obtain ⟨l1,l2,l3,l4,l5⟩:=S.lo
  obtain ⟨t,he,hz,hn,hsh⟩:=S.he
  have l5b:=z3z S.b5
  have l7b:g7<wb.heap.size:=by obtain ⟨z0,hz0⟩:=S.b7;exact z3z hz0
  have swb:=S.fr.size
  refine ⟨rfl,LdsK.blk (cks:=FK) (x:=f) S.b ⟨rfl,LdsK.blk (cks:=FK) (x:=f) S.b ?_⟩⟩
  refine CallK.of (frref_spec f t he wb) ?_
  rintro _ wc ⟨v,rfl,mv,fc⟩
  refine ⟨frR f v,rfl,KeepK.of fc ?_⟩
  have S:=S.keep0 fc
  have hone:(frL f).all one1=true:=frL_one (by rw [he];exact Tm.v_one t)
  refine StsK.blk (cs:=frL zeroFr.f) (vs:=frL f) S.b5 rfl hone fun wd hbd fd _=>KeepK.on fd (fun k hk q=>by have:k=g5:=q;omega) ?_
  obtain ⟨z,hz7⟩:=S.b7
  refine StsK.blk (cs:=frRL z) (vs:=frRL (frR f v)) (fd.keep hz7 (fun q=>by have:g7=g5:=q;omega)) rfl (frRL_one _) fun we hbe fe _=>KeepK.on fe (fun k hk q=>by have:k=g7:=q;omega) ?_
  refine LdsK.blk (cks:=FK) (x:=f) (fe.keep hbd (fun q=>by have:g5=g7:=q;omega)) (LdsK.blk (cks:=FRK) (x:=frR f v) hbe ?_)
  refine ⟨f,t,v,rfl,he,hz,hn,hsh,S.hh,?_,(S.fr.fresh fd (by omega)).fresh fe (by omega)⟩
  exact ((mv.keep fd (fun k hk _ q=>by have:k=g5:=q;omega)).keep fe (fun k hk _ q=>by have:k=g7:=q;omega)).older swb
 -- the flag
 refine JoinK.of (fun _ w'=>∃ f:FrM,FSo w w' g1 g3 g5 g7 g x c f.f∧f.m=zeroM) ?_ ?_
 ·refine JoinK.of (fun _ w'=>w5=w') ?_ ?_
  ·refine optA.on (LdK.fld S5.b (x:=(fr0 x).2.2.2.1) rfl (ifB.by (fun _=>rfl) (fun _=>optA.on (LdK.fld S5.b (x:=(fr0 x).2.2.2.1) rfl rfl))))
  rintro _ ⟨bl,_⟩ _ rfl
  refine ifB.by (fun _=>optA.on (StK.fld S5.b (by show 0+6<15;omega) rfl fun w6 hb6 f6 _=>?_)) (fun _=>⟨fr0 x,S5,rfl⟩)
  exact ⟨((fr0 x).1,(fr0 x).2.1,(fr0 x).2.2.1,(fr0 x).2.2.2.1,(fr0 x).2.2.2.2.1,(fr0 x).2.2.2.2.2.1,false,zeroM),S5.put f6 hb6 S5.he rfl,rfl⟩
 rintro _ _ w6 ⟨f,S6,hfz⟩
 -- the event
 refine JoinK.of (fun st w'=>st.1=false∧∃ f:FrT,FSo w w' g1 g3 g5 g7 g x c f) ?_ ?_
 ·refine optA.on (LdK.fld S6.b (x:=f.2.2.2.1) rfl (ifB.by (fun _=>?_) (fun _=>⟨rfl,f.f,S6⟩)))
  refine LdsK.blk (cks:=[.int .i64,.int .i64,.int .i64,.int .i64,.int .i64,.str,.slc,.slc]) (x:=c) S6.b3 ?_
  refine LdK.fld S6.b1 (x:=x.2.2.2.2.2.2.2.1) rfl (LdK.fld S6.b1 (x:=x.2.2.2.2.2.2.2.2.1) rfl (LdK.fld (c:=.str) S6.b1 (x:=x.2.2.2.2.2.2.2.2.2.1) rfl ?_))
  refine CallK.of (some_spec c x.2.2.2.2.2.2.2.1 x.2.2.2.2.2.2.2.2.1 x.2.2.2.2.2.2.2.2.2.1 (hp.keep0 S6.fr)) ?_
  rintro _ w7 ⟨e,t,v,rfl,he,hz,hn,hsh,mt,f7⟩
  refine ⟨(e,evR e v,false,()),rfl,optA.on ?_⟩
  have S7:=S6.keep0 f7
  have hone:(evL e).all one1=true:=evL_one (by rw [he];exact Tm.v_one t)
  obtain ⟨a1,a2,a3,a4⟩:=z19z (T:=38) (b:=g) (evL e) w7 [.int .i64 f.1,.int .i64 f.2.1,.int .i64 f.2.2.1,.int .i64 f.2.2.2.1,.int .i64 f.2.2.2.2.1,.int .u64 f.2.2.2.2.2.1,.bool f.2.2.2.2.2.2.1] (evL f.m.e) S7.b rfl hone
  refine ⟨z20z _ _ 0 a1,?_⟩
  rw [z11z]
  exact ⟨rfl,(f.1,f.2.1,f.2.2.1,f.2.2.2.1,f.2.2.2.2.1,f.2.2.2.2.2.1,f.2.2.2.2.2.2.1,e),S7.put a3 a2 ⟨t,he,hz,hn,hsh⟩ rfl⟩
 rintro _ ⟨st,_⟩ w8 ⟨hst,f8,S8⟩
 dsimp only at hst ⊢
 subst hst
 clear S6 S5 hfz
 refine LdK.fld S8.b1 (x:=x.2.2.2.2.2.2.2.2.1) rfl ?_
 refine CallK.of (z30z x.2.2.2.2.2.2.2.2.1 40 w8 (by decide)) ?_
 rintro _ _ ⟨rfl,rfl⟩
 refine ⟨_,rfl,?_⟩
 refine ifB.by (fun _=>LdK.fld S8.b1 (x:=x.1) rfl (optA.on (StK.fld S8.b (by show 0+0<15;omega) rfl fun w9 hb9 f9 _=>?_))) (fun _=>?_)
 ·exact tail w9 (x.1,f8.2) (S8.put f9 hb9 S8.he rfl)
 refine ifB.by (fun _=>LdK.fld S8.b1 (x:=x.2.1) rfl (optA.on (StK.fld S8.b (by show 0+1<15;omega) rfl fun w9 hb9 f9 _=>?_))) (fun _=>?_)
 ·exact tail w9 (f8.1,x.2.1,f8.2.2) (S8.put f9 hb9 S8.he rfl)
 refine ifB.by (fun _=>LdK.fld S8.b1 (x:=x.2.2.1) rfl (optA.on (StK.fld S8.b (by show 0+2<15;omega) rfl fun w9 hb9 f9 _=>?_))) (fun _=>?_)
 ·exact tail w9 (f8.1,f8.2.1,x.2.2.1,f8.2.2.2) (S8.put f9 hb9 S8.he rfl)
 refine ifB.by (fun _=>LdK.fld S8.b1 (x:=x.2.2.2.1) rfl (optA.on (StK.fld S8.b (by show 0+3<15;omega) rfl fun w9 hb9 f9 _=>?_))) (fun _=>?_)
 ·exact tail w9 (f8.1,f8.2.1,f8.2.2.1,x.2.2.2.1,f8.2.2.2.2) (S8.put f9 hb9 S8.he rfl)
 refine ifB.by (fun _=>LdK.fld S8.b1 (x:=x.2.2.2.2.1) rfl (optA.on (StK.fld S8.b (by show 0+4<15;omega) rfl fun w9 hb9 f9 _=>?_))) (fun _=>?_)
 ·exact tail w9 (f8.1,f8.2.1,f8.2.2.1,f8.2.2.2.1,x.2.2.2.2.1,f8.2.2.2.2.2) (S8.put f9 hb9 S8.he rfl)
 refine ifB.by (fun _=>LdK.fld (c:=.bool) S8.b1 (x:=x.2.2.2.2.2.2.1) rfl (optA.on (StK.fld S8.b (by show 0+6<15;omega) rfl fun w9 hb9 f9 _=>?_))) (fun _=>?_)
 ·exact tail w9 (f8.1,f8.2.1,f8.2.2.1,f8.2.2.2.1,f8.2.2.2.2.1,f8.2.2.2.2.2.1,x.2.2.2.2.2.2.1,f8.2.2.2.2.2.2.2) (S8.put f9 hb9 S8.he rfl)
 refine ifB.by (fun _=>?_) (fun _=>tail w8 f8 S8)
 refine CallK.of (odd_spec 0 w8) ?_
 rintro r w9 ⟨⟨q1,q6,q8,qv,hr⟩,f9⟩
 have hr0:r=.nilIface:=by
  rw [show (within 0 9).toNat=0 by decide] at hr
  exact (Option.some.inj hr).symm
 subst hr0
 have S9:=S8.keep0 f9
 refine ⟨.nilIface,rfl,optA.on ⟨rfl,?_⟩⟩
 have hz9:=S9.he
 obtain ⟨a1,a2,a3,a4⟩:=z19z (T:=38) (b:=g) [.nilIface] w9 [.int .i64 f8.1,.int .i64 f8.2.1,.int .i64 f8.2.2.1,.int .i64 f8.2.2.2.1,.int .i64 f8.2.2.2.2.1,.int .u64 f8.2.2.2.2.2.1,.bool f8.2.2.2.2.2.2.1,.int .i64 (frE f8).1,.string (frE f8).2.1,.string (frE f8).2.2.1,.string (frE f8).2.2.2.1,.string (frE f8).2.2.2.2.1,.int .i64 (frE f8).2.2.2.2.2.1,.int .i64 (frE f8).2.2.2.2.2.2.1] [(frE f8).2.2.2.2.2.2.2.1] S9.b rfl rfl
 refine ⟨z20z _ _ 0 (z20z _ _ 7 a1),?_⟩
 rw [z11z,z11z]
 obtain ⟨fn,hfn⟩:∃ fn:FrT,fn=(f8.1,f8.2.1,f8.2.2.1,f8.2.2.2.1,f8.2.2.2.2.1,f8.2.2.2.2.2.1,f8.2.2.2.2.2.2.1,(frE f8).1,(frE f8).2.1,(frE f8).2.2.1,(frE f8).2.2.2.1,(frE f8).2.2.2.2.1,(frE f8).2.2.2.2.2.1,(frE f8).2.2.2.2.2.2.1,.nilIface,()):=⟨_,rfl⟩
 have hzz:smallE (frE f8):=by obtain ⟨t,_,hz,_⟩:=S9.he;exact hz
 have S10:FSo w _ g1 g3 g5 g7 g x c fn:=S9.put a3 (by rw [hfn];exact a2) ⟨.none,by rw [hfn];rfl,by rw [hfn];exact hzz,by decide,trivial⟩ (by rw [hfn])
 refine optA.on (LdK.fld (c:=.raw) S10.b (x:=.nilIface) (by rw [hfn];rfl) ?_)
 refine ⟨false,_,nil_neq ifc_term _ (.inl rfl) _,?_⟩
 exact tail _ fn S10
theorem evM_of (e:EvT) (t:Tm) (he:e.2.2.2.2.2.2.2.1=t.v):∃ m:EvM,m.e=e∧m.t=t:=
 ⟨(e.1,e.2.1.data.toList,e.2.2.1.data.toList,e.2.2.2.1.data.toList,e.2.2.2.2.1.data.toList,e.2.2.2.2.2.1,e.2.2.2.2.2.2.1,t),by unfold EvM.e;simp only [str_of];rw [← he],rfl⟩
def zeroKey:List UInt8:=List.replicate 16 0
def padK (ys:List UInt8):List UInt8:=ys.take 16++List.replicate (16 - ys.length) 0
theorem padK_len (ys:List UInt8):(padK ys).length=16:=by unfold padK;rw [List.length_append,List.length_take,List.length_replicate];omega
theorem copy_key {w:World} {g:Nat} {T:TypeId} {y:Sl} {ys:List UInt8} (hb:w.heap[g]? = some (.cells (keyL zeroKey).toArray T (0,0))) (hy:RdB w y ys) (o:TypeId) {K:Int→World→Prop}
  (k:∀ r w',w'.heap[g]? = some (.cells (keyL (padK ys)).toArray T (0,0))→Fr (only g) w w'→K r w') :
  RunK Tryz.prog (Builtin.copy_ #[22,22] o #[.slice (some ⟨g,0,none⟩) 16 16,.slice y.1 y.2.1 y.2.2]) w (.v (.one (.int .i64))) (fun (x:Int) w'=>K x w'):=by
 obtain ⟨hu,⟨i,hi,hs,hz,hby⟩,hc,hpos⟩:=z7z
 have hsize:∀ w,(sizeOf 5).run Tryz.prog w=.ok 1 w:=fun w=>by rw [sizeof hi,hs]
 have hlen:∀ w,(Builtin.lenOf (.slice y.1 y.2.1 y.2.2)).run Tryz.prog w=.ok y.2.1 w:=fun w=>rfl
 have hyl:=hy.len
 obtain ⟨n,hn⟩:∃ n,n=min ys.length 16:=⟨_,rfl⟩
 have hm:Nat.min y.2.1 16=n:=by rw [hyl,hn]
 have hyn:RdB w (y.1,n,y.2.2) (ys.take n):=by
  obtain ⟨h1,h2,h3⟩:=hy
  refine ⟨by simp;omega,fun e=>?_,fun a ha=>?_⟩
  ·obtain ⟨e1,e2,e3⟩:=h2 e
   have:ys=[]:=by simpa using e3
   subst this
   exact ⟨by simp [hn],e2,by simp⟩
  ·rw [List.map_take];exact z28z _ 0 n (h3 a ha)
 have hfst:(Builtin.firstCells 1 n (.slice y.1 y.2.1 y.2.2)).run Tryz.prog w=.ok ((ys.take n).map bc).toArray w:=by
  have:=RdSl.first (P:=Tryz.prog) hyn
  obtain ⟨y1,y2,y3⟩:=y
  cases y1<;>exact this
 obtain ⟨hw,cs',a1,a2,a3,a4,a5,a6⟩:=writes_blk ((ys.take n).map bc) w (keyL zeroKey).toArray 0 0 hb (by simp [keyL,zeroKey];omega) (bc_one _)
 have habove:=setCells_above ((ys.take n).map bc) w (keyL zeroKey).toArray cs' 0 0 hb a1
 have hcs:cs'=(keyL (padK ys)).toArray:=by
  apply Array.ext'
  apply List.ext_getElem?
  intro j
  rw [Array.getElem?_toList]
  show cs'[j]? = (keyL (padK ys))[j]?
  simp only [List.length_map,List.length_take,Nat.zero_add] at habove a3
  unfold keyL padK
  rw [List.map_append]
  by_cases hj:j<n
  ·have:=a3 j (by omega)
   rw [this,List.getElem?_append_left (by simp;omega)]
   rw [show ys.take n=ys.take 16 by rw [hn,List.take_eq_take_iff];omega]
  ·have q:=habove j (by omega)
   rw [q,List.getElem?_append_right (by simp;omega),List.getElem?_toArray]
   unfold keyL zeroKey
   rw [List.map_replicate,List.map_replicate,List.getElem?_replicate,List.getElem?_replicate]
   simp only [List.length_map,List.length_take]
   by_cases h16:j<16
   ·rw [if_pos h16,if_pos (by omega)]
   ·rw [if_neg h16,if_neg (by omega)]
 refine ⟨(n:Int),setCells w ⟨g,0,none⟩ 0 ((ys.take n).map bc),?_,k _ _ (by rw [← hcs];exact a1) a5⟩
 unfold Builtin.copy_
 simp only [Sem.run_bind,under hu,Result.andThen_ok,hsize,List.getElem?_toArray,List.getElem?_cons_zero,List.getElem?_cons_succ,Sem.run_pure,hlen,hm,hfst]
 rw [show (storeCells ⟨g,0,none⟩ (((ys.take n).map bc).toArray).toList 0).run Tryz.prog w=.ok () _ from z22z ((ys.take n).map bc) 0 w hw]
 rfl
theorem key_all {g:Nat} {K:Option Addr→Nat→Nat→Prop} (k:K (some ⟨g,0,none⟩) 16 16):SubK (some ⟨g,0,none⟩) 16 0 16 16 1 K:=by
 refine ⟨by decide,by decide,by decide,by decide,?_⟩
 have e:(if (16:Int)=0 then some (⟨g,0,none⟩:Addr) else (some (⟨g,0,none⟩:Addr)).map (·.add ((0:Int).toNat * 1)))=some ⟨g,0,none⟩:=by
  rw [if_neg (by decide),Option.map_some,z2z];rfl
 rw [e]
 exact k
end Go.Proofs.YtdphmcanlhcokaaGreatDoor
