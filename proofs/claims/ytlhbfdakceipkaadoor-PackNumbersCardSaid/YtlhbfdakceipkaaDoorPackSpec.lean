/-
  Events and entries as bytes; the example of the document.
  Conditions: of a trade, what is said of its contract's text; texts are not too long; an event's Term is nil or an interface value.
-/
import Derived.Test.YtlhbfdakceipkaaDoorPackNum
import Derived.Test.YtlhbfdakceipkaaDoorEventSpec
import Derived.Test.YtlhbfdakceipkaaDoorRuneSl
import Derived.Test.YtlhbfdakceipkaaDoorCPackE
set_option linter.unusedVariables false
set_option maxRecDepth 100000
namespace Go.Proofs.YtlhbfdakceipkaaDoor
open Vc

/-! ### In plain Lean -/
def u8I (b : UInt8) : Int := (b.toNat : Int)
def ordL : List UInt8 := [73, 78, 76, 67, 68, 86, 84]
def fieldL (k : Int) : List UInt8 := ordL.filter (hasF k)
def txtB (s : List UInt8) : List UInt8 := UInt8.ofNat (s.length % 256) :: s
def fieldT (e : EvT) (c : UInt8) : ByteArray := if c = 73 then e.2.1 else if c = 78 then e.2.2.1 else if c = 76 then e.2.2.2.1 else if c = 67 then e.2.2.2.2.1 else (⟨#[]⟩ : ByteArray)
def fieldB (e : EvT) (ts : List UInt8) (c : UInt8) : List UInt8 :=
  if c = 68 then numL e.2.2.2.2.2.1 else if c = 86 then numL e.2.2.2.2.2.2.1 else if c = 84 then UInt8.ofNat (ts.length / 256 % 256) :: UInt8.ofNat (ts.length % 256) :: ts else txtB (fieldT e c).data.toList
def packF (e : EvT) (ts : List UInt8) (tr : Int) : List UInt8 × Int :=
  if checkF e tr ≠ 0 then ([], checkF e tr) else (UInt8.ofNat (e.1 % 256).toNat :: (fieldL e.1).flatMap (fieldB e ts), 0)
def smallE (e : EvT) : Prop := e.2.1.size ≤ 1000000 ∧ e.2.2.1.size ≤ 1000000 ∧ e.2.2.2.1.size ≤ 1000000 ∧ e.2.2.2.2.1.size ≤ 1000000

theorem runes_ord : runesL ordL = ordL.map u8I := by decide +kernel
theorem runes_fields (k : Int) : runesL (fieldsF k) = (fieldsF k).map u8I := by
  unfold fieldsF
  repeat' split
  all_goals decide +kernel
theorem fields_once (k : Int) (c : UInt8) : ((fieldsF k).map u8I).filter (· == u8I c) = if hasF k c then [u8I c] else [] := by
  have h : ∀ l : List UInt8, l.Nodup → (l.map u8I).filter (· == u8I c) = if l.contains c then [u8I c] else [] := by
    intro l hn
    induction l with
    | nil => rfl
    | cons a l ih =>
      rw [List.nodup_cons] at hn
      have ih := ih hn.2
      rw [List.map_cons, List.filter_cons]
      by_cases ha : a = c
      · subst ha
        have : l.contains a = false := by simpa using hn.1
        rw [ih, this]
        simp
      · have h1 : (u8I a == u8I c) = false := by
          simp only [beq_eq_false_iff_ne]
          unfold u8I
          intro t
          exact ha (UInt8.toNat_inj.1 (by omega))
        rw [h1, ih]
        have h2 : (c == a) = false := by simpa using fun t => ha t.symm
        simp only [List.contains_cons, h2, Bool.false_or]
        rfl
  exact h _ (by unfold fieldsF; repeat' split
                all_goals decide)

/-! ### What the functions do -/
theorem fields_spec (k : Int) (w : World) : Ret Tryd.prog 22 #[.int .i64 k] w fun r w' => ∃ v : Sl, r = .slice v.1 v.2.1 v.2.2 ∧ IsR w' v ((fieldL k).map u8I) ∧ Fr none1 w w' ∧ ∀ k, blkOf v k → w.heap.size ≤ k := by
  refine c22 k w _ ?_
  unfold C22
  have eo : (⟨#[73, 78, 76, 67, 68, 86, 84]⟩ : ByteArray) = str ordL := rfl
  rw [eo]
  refine range_okS ordL fun r w1 hr hit f1 => ?_
  rw [runes_ord] at hit
  have s1 := f1.size
  refine LoopK.of (fun s w' => ∃ acc rest : List UInt8, acc ++ rest.filter (hasF k) = fieldL k ∧ rest.length ≤ 7 ∧ acc.length + rest.length ≤ 7 ∧ IsR w' s.1 (acc.map u8I) ∧ (∀ k, blkOf s.1 k → w.heap.size ≤ k ∧ k ≠ r) ∧ IsIt w' r (rest.map u8I) ∧ Fr none1 w w')
    (fun _ w' => itLen w' r) ⟨[], ordL, rfl, by decide, by decide, .inl ⟨rfl, rfl⟩, (fun k ⟨a, ha, _⟩ => by cases ha), hit, f1⟩ ?_
  rintro _ ⟨v, _⟩ w2 ⟨acc, rest, heq, hr7, hl7, hv, hvf, hit2, f2⟩
  dsimp only at hv hvf ⊢
  have rlt := hit2.lt
  refine next_ok hit2 (fun c rest' pos w3 hc hok hit3 f3 => ?_) (fun hnil => ?_)
  · cases rest with
    | nil => cases hc
    | cons d rest =>
      rw [List.map_cons] at hc
      injection hc with hc hc'
      subst hc hc'
      have fw3 : Fr none1 w w3 := f2.fresh f3 (by omega)
      have hv3 : IsR w3 v (acc.map u8I) := IsSl.keep hv f3 (fun k hk t => (hvf k hk).2 t)
      refine CallK.of (efields_spec k w3) ?_
      rintro _ _ ⟨rfl, rfl⟩
      refine ⟨_, rfl, ?_⟩
      refine range_okS (fieldsF k) fun q w4 hq hit4 f4 => ?_
      rw [runes_fields] at hit4
      have r3 := hit3.lt
      have fw4 : Fr none1 w w4 := fw3.trans f4
      have sw3 := fw3.size
      simp only [List.length_cons] at hr7 hl7
      rw [List.filter_cons] at heq
      refine LoopK.of (fun s w' => ∃ acc2 rest2 : List UInt8, acc2.map u8I ++ (rest2.map u8I).filter (· == u8I d) = acc.map u8I ++ (if hasF k d then [u8I d] else []) ∧ IsR w' s.1 (acc2.map u8I) ∧ (∀ k, blkOf s.1 k → w.heap.size ≤ k ∧ k ≠ r ∧ k ≠ q) ∧ IsIt w' q (rest2.map u8I) ∧
          IsIt w' r (rest.map u8I) ∧ Fr none1 w w') (fun _ w' => itLen w' q)
        ⟨acc, fieldsF k, by rw [fields_once], IsSl.keep0 hv3 f4, (fun k hk => ⟨(hvf k hk).1, (hvf k hk).2, by have := IsSl.lt hv3 hk; omega⟩), hit4, hit3.keep0 f4, fw4⟩ ?_
      rintro _ ⟨v2, _⟩ w5 ⟨acc2, rest2, heq2, hv5, hvf5, hit5, hitr5, f5⟩
      dsimp only at hv5 hvf5 ⊢
      have qlt := hit5.lt
      refine next_ok hit5 (fun x rest3 pos2 w6 hx hok2 hit6 f6 => ?_) (fun hnil2 => ?_)
      · cases rest2 with
        | nil => cases hx
        | cons y rest2 =>
          rw [List.map_cons] at hx
          injection hx with hx hx'
          subst hx hx'
          have fw6 : Fr none1 w w6 := f5.fresh f6 (by omega)
          have hv6 : IsR w6 v2 (acc2.map u8I) := IsSl.keep hv5 f6 (fun k hk t => (hvf5 k hk).2.2 t)
          have hr6 := hitr5.keep f6 (fun t => by have : r = q := t; omega)
          have l6 : itLen w6 q < itLen w5 q := by rw [hit6.left, hit5.left]; simp
          rw [List.map_cons, List.filter_cons] at heq2
          have hlen2 : acc2.length ≤ acc.length + 1 := by
            have := congrArg List.length heq2
            rw [List.length_append, List.length_append, List.length_map, List.length_map] at this
            have h3 : (if hasF k d then [u8I d] else []).length ≤ 1 := by split <;> simp
            omega
          refine ifB.by (fun he => ?_) (fun hne => ?_)
          · rw [he, if_pos rfl] at heq2
            have hyd : u8I y = u8I d := by simpa using he
            refine r_snoc hv6 (u8I d) (by rw [List.length_map]; omega) fun u w7 hu f7 uf => ?_
            have qlt6 := hit6.lt
            have rlt6 := hr6.lt
            refine ⟨⟨acc2 ++ [d], rest2, ?_, by rw [List.map_append]; exact hu, fun k hk => ?_, hit6.keep f7 (fun t => (hvf5 q t).2.2 rfl), hr6.keep f7 (fun t => (hvf5 r t).2.1 rfl), fw6.comp f7 (fun k hk t => by have := (hvf5 k t).1; omega)⟩, ?_⟩
            · rw [← heq2, hyd]; simp
            · rcases uf k hk with t | t
              · exact hvf5 k t
              · have := fw6.size; exact ⟨by omega, by omega, by omega⟩
            · rw [(hit6.keep f7 (fun t => (hvf5 q t).2.2 rfl)).left, ← hit6.left]; exact l6
          · rw [if_neg (by rw [hne]; simp)] at heq2
            exact ⟨⟨acc2, rest2, heq2, hv6, hvf5, hit6, hr6, fw6⟩, l6⟩
      · have : rest2 = [] := by simpa using hnil2
        subst this
        rw [List.map_nil, List.filter_nil, List.append_nil] at heq2
        by_cases hh : hasF k d = true
        · rw [hh] at heq heq2
          simp only [if_true] at heq heq2
          refine ⟨⟨acc ++ [d], rest, by rw [← heq]; simp, by omega, by simp; omega, ?_, fun k hk => ⟨(hvf5 k hk).1, (hvf5 k hk).2.1⟩, hitr5, f5⟩, by rw [hitr5.left, hit2.left]; simp⟩
          rw [List.map_append]
          rw [heq2] at hv5
          exact hv5
        · have hh' : hasF k d = false := by simpa using hh
          rw [hh'] at heq heq2
          simp only [Bool.false_eq_true, if_false, List.append_nil] at heq heq2
          refine ⟨⟨acc, rest, heq, by omega, by omega, ?_, fun k hk => ⟨(hvf5 k hk).1, (hvf5 k hk).2.1⟩, hitr5, f5⟩, by rw [hitr5.left, hit2.left]; simp⟩
          rw [heq2] at hv5
          exact hv5
  · have : rest = [] := by simpa using hnil
    subst this
    rw [List.filter_nil, List.append_nil] at heq
    exact ⟨v, rfl, by rw [← heq]; exact hv, f2, fun k hk => (hvf k hk).1⟩

/-- A byte literal ahead of a text. -/
theorem rowText_ok {w : World} (hd : List UInt8) (h0 : hd.length ≤ 100) (s : ByteArray) (hs : s.size ≤ 1000000) {K : Sl → World → Prop} (k : ∀ u w', IsB w' u (hd ++ s.data.toList) → Fr none1 w w' → (∀ k, blkOf u k → w.heap.size ≤ k) → K u w') :
    RunK Tryd.prog (Instr.buildSlice 22 hd.length (((hd.map bc).zipIdx.map fun (v, i) => (i, v)).toArray)) w (.v (.one .slc)) (fun (x : Option Addr × Nat × Nat) w1 => RunK Tryd.prog (Builtin.append_ #[22, 9] 22 #[.slice x.1 x.2.1 x.2.2, .string s]) w1 (.v (.one .slc)) (fun (y : Option Addr × Nat × Nat) w2 => K y w2)) := by
  obtain ⟨x, w1, hr, hx, hxl, f1, hf⟩ := lit_ok (P := Tryd.prog) (w := w) elem_byte (hd.map bc) (by intro v hv; obtain ⟨x, _, rfl⟩ := List.mem_map.1 hv; rfl) (by simp; omega)
  rw [List.length_map] at hr hxl
  refine ⟨x, w1, hr, ?_⟩
  obtain ⟨u, w2, hr2, hu, _, f2, uf⟩ := append_text elem_byte 22 Tryd.underlying9 hx s (by rw [hxl]; omega)
  refine ⟨u, w2, hr2, k u w2 ?_ (f1.comp f2 fun k hk t => by have := hf k t; omega) fun k hk => ?_⟩
  · unfold IsB
    rw [List.map_append]
    exact hu
  · rcases uf k hk with t | t
    · exact hf k t
    · exact Nat.le_trans f1.size t

theorem wrapB_bc (n : Nat) : Value.int .u8 (IntKind.u8.wrap (n : Int)) = bc (UInt8.ofNat (n % 256)) := by
  unfold bc
  rw [wrapB, u8_nat (Nat.mod_lt _ (by decide))]

theorem field_spec (e : EvT) (hz : smallE e) (c : UInt8) (ts : List UInt8) (hts : ts.length ≤ 1000000) (tr : Int) (w : World)
    (ht : c = 84 → ∀ w1, Fr none1 w w1 → Ret Tryd.prog 12 #[e.2.2.2.2.2.2.2.1] w1 fun r w' => r = .tuple #[.string (str ts), .int .i64 tr] ∧ Fr none1 w1 w') :
    Ret Tryd.prog 23 #[evA e, .int .i32 (u8I c)] w fun r w' => ∃ v : Sl, r = .tuple #[.slice v.1 v.2.1 v.2.2, .int .i64 (if c = 84 then tr else 0)] ∧ IsB w' v (fieldB e ts c) ∧ Fr none1 w w' ∧ ∀ k, blkOf v k → w.heap.size ≤ k := by
  refine c23 e (u8I c) w _ ?_
  unfold C23
  refine NewK.of fun b w1 hb hb1 f1 hsz1 => ?_
  have s1 := f1.size
  have hne : ∀ {d : UInt8}, c ≠ d → (u8I c == u8I d) = false := fun {d} h => by
    simp only [beq_eq_false_iff_ne]; unfold u8I; intro t; exact h (UInt8.toNat_inj.1 (by omega))
  have num : ∀ (n : Int), (fieldB e ts c = numL n) → c ≠ 84 → CallK Tryd.prog 5 #[.int .i64 n] w1 (.v (.one .slc)) (fun (x4 : Option Addr × Nat × Nat) w5 =>
      ∃ v : Sl, (.tuple #[.slice x4.1 x4.2.1 x4.2.2, .int .i64 0] : Value) = .tuple #[.slice v.1 v.2.1 v.2.2, .int .i64 (if c = 84 then tr else 0)] ∧ IsB w5 v (fieldB e ts c) ∧ Fr none1 w w5 ∧ ∀ k, blkOf v k → w.heap.size ≤ k) := fun n hn hc => by
    refine CallK.of (pnum_spec n w1) ?_
    rintro _ w2 ⟨u, rfl, hu, f2, uf⟩
    exact ⟨u, rfl, u, by rw [if_neg hc], by rw [hn]; exact hu, f1.trans f2, fun k hk => Nat.le_trans s1 (uf k hk)⟩
  have txt : ∀ (s : ByteArray), s.size ≤ 1000000 → fieldB e ts c = txtB s.data.toList → c ≠ 84 → RunK Tryd.prog (Instr.buildSlice 22 1 #[(0, .int .u8 (IntKind.u8.wrap (s.size : Int)))]) w1 (.v (.one .slc)) (fun (x17 : Option Addr × Nat × Nat) w18 => RunK Tryd.prog (Builtin.append_ #[22, 9] 22 #[.slice x17.1 x17.2.1 x17.2.2, .string s]) w18 (.v (.one .slc)) (fun (x19 : Option Addr × Nat × Nat) w20 =>
      ∃ v : Sl, (.tuple #[.slice x19.1 x19.2.1 x19.2.2, .int .i64 0] : Value) = .tuple #[.slice v.1 v.2.1 v.2.2, .int .i64 (if c = 84 then tr else 0)] ∧ IsB w20 v (fieldB e ts c) ∧ Fr none1 w w20 ∧ ∀ k, blkOf v k → w.heap.size ≤ k)) := fun s hs hf hc => by
    rw [wrapB_bc]
    refine rowText_ok (w := w1) [UInt8.ofNat (s.size % 256)] (by simp) s hs fun u w2 hu f2 uf => ?_
    refine ⟨u, by rw [if_neg hc], ?_, f1.trans f2, fun k hk => Nat.le_trans s1 (uf k hk)⟩
    rw [hf]
    unfold txtB
    rw [ba_len]
    exact hu
  by_cases h68 : c = 68
  · refine ifB.t (by rw [h68]; rfl) ?_
    exact LdK.fld hb1 (x := e.2.2.2.2.2.1) rfl (num _ (by unfold fieldB; rw [if_pos h68]) (by rw [h68]; decide))
  refine ifB.f (hne h68) ?_
  by_cases h86 : c = 86
  · refine ifB.t (by rw [h86]; rfl) ?_
    exact LdK.fld hb1 (x := e.2.2.2.2.2.2.1) rfl (num _ (by unfold fieldB; rw [if_neg h68, if_pos h86]) (by rw [h86]; decide))
  refine ifB.f (hne h86) ?_
  by_cases h84 : c = 84
  · refine ifB.t (by rw [h84]; rfl) ?_
    refine LdK.fld hb1 (x := e.2.2.2.2.2.2.2.1) rfl ?_
    refine CallK.of (ht h84 w1 f1) ?_
    rintro _ w2 ⟨rfl, f2⟩
    refine ⟨(str ts, tr, ()), rfl, ⟨by omega, ?_⟩⟩
    dsimp only
    have es : ((str ts).size : Int) = (ts.length : Int) := by rw [str_size]
    rw [es, show Int.toNat 8 = 8 from rfl, fdiv_nat ts.length 8 (by omega), wrapB_bc, wrapB_bc]
    refine rowText_ok (w := w2) [UInt8.ofNat (ts.length / 2 ^ 8 % 256), UInt8.ofNat (ts.length % 256)] (by simp) (str ts) (by rw [str_size]; exact hts) fun u w3 hu f3 uf => ?_
    refine ⟨u, by rw [if_pos h84], ?_, (f1.trans f2).trans f3, fun k hk => Nat.le_trans (f1.trans f2).size (uf k hk)⟩
    unfold fieldB
    rw [if_neg h68, if_neg h86, if_pos h84]
    rw [str_list] at hu
    exact hu
  refine ifB.f (hne h84) ?_
  have hF : ∀ s, fieldT e c = s → fieldB e ts c = txtB s.data.toList := fun s hs => by unfold fieldB; rw [if_neg h68, if_neg h86, if_neg h84, hs]
  by_cases h73 : c = 73
  · refine ifB.t (by rw [h73]; rfl) ?_
    exact LdK.fld hb1 (x := e.2.1) rfl (txt _ hz.1 (hF _ (by unfold fieldT; rw [if_pos h73])) h84)
  refine ifB.f (hne h73) ?_
  by_cases h78 : c = 78
  · refine ifB.t (by rw [h78]; rfl) ?_
    exact LdK.fld hb1 (x := e.2.2.1) rfl (txt _ hz.2.1 (hF _ (by unfold fieldT; rw [if_neg h73, if_pos h78])) h84)
  refine ifB.f (hne h78) ?_
  by_cases h76 : c = 76
  · refine ifB.t (by rw [h76]; rfl) ?_
    exact LdK.fld hb1 (x := e.2.2.2.1) rfl (txt _ hz.2.2.1 (hF _ (by unfold fieldT; rw [if_neg h73, if_neg h78, if_pos h76])) h84)
  refine ifB.f (hne h76) ?_
  by_cases h67 : c = 67
  · refine ifB.t (by rw [h67]; rfl) ?_
    exact LdK.fld hb1 (x := e.2.2.2.2.1) rfl (txt _ hz.2.2.2 (hF _ (by unfold fieldT; rw [if_neg h73, if_neg h78, if_neg h76, if_pos h67])) h84)
  refine ifB.f (hne h67) ?_
  exact txt _ (by decide) (hF _ (by unfold fieldT; rw [if_neg h73, if_neg h78, if_neg h76, if_neg h67])) h84

theorem fieldB_len (e : EvT) (hz : smallE e) (ts : List UInt8) (hts : ts.length ≤ 1000000) (c : UInt8) : (fieldB e ts c).length ≤ 1000010 := by
  obtain ⟨z1, z2, z3, z4⟩ := hz
  unfold fieldB
  split
  · rw [numL_len]; omega
  split
  · rw [numL_len]; omega
  split
  · simp only [List.length_cons]; omega
  unfold txtB fieldT
  have hs : ∀ s : ByteArray, s.data.toList.length = s.size := ba_len
  simp only [List.length_cons, hs]
  repeat' split
  all_goals first | omega | (show (0 : Nat) + 1 ≤ _; omega)

theorem event_spec (e : EvT) (hT : ifcT e.2.2.2.2.2.2.2.1) (hz : smallE e) (ts : List UInt8) (hts : ts.length ≤ 1000000) (tr : Int) (w : World)
    (ht : e.1 = 2 → ∀ w1, Fr none1 w w1 → Ret Tryd.prog 12 #[e.2.2.2.2.2.2.2.1] w1 fun r w' => r = .tuple #[.string (str ts), .int .i64 tr] ∧ Fr none1 w1 w') :
    Ret Tryd.prog 13 #[evA e] w fun r w' => ∃ v : Sl, r = .tuple #[.slice v.1 v.2.1 v.2.2, .int .i64 (packF e ts tr).2] ∧ IsB w' v (packF e ts tr).1 ∧ Fr none1 w w' ∧ ∀ k, blkOf v k → w.heap.size ≤ k := by
  refine c13 e w _ ?_
  unfold C13
  refine NewK.of fun b w1 hb hb1 f1 _ => ?_
  refine LdsK.blk (x := e) hb1 ?_
  refine CallK.of (check_spec e hT tr w1 (fun h2 w' f => (ht h2 w' (f1.trans f)).mono fun r w'' ⟨h, f⟩ => ⟨⟨_, h⟩, f⟩)) ?_
  rintro _ w2 ⟨rfl, f2⟩
  have f12 := f1.trans f2
  have hb2 := f2.keep0 hb1
  refine ⟨_, rfl, ?_⟩
  unfold packF
  refine ifB.ne (fun hne => ?_) (fun heq => ?_)
  · rw [if_pos hne]
    exact ⟨(none, 0, 0), rfl, .inl ⟨rfl, rfl⟩, f12, fun k ⟨a, ha, _⟩ => by cases ha⟩
  rw [if_neg (fun t => t heq)]
  refine LdK.fld hb2 (x := e.1) rfl ?_
  have hkB : Value.int .u8 (IntKind.u8.wrap e.1) = bc (UInt8.ofNat (e.1 % 256).toNat) := by
    unfold bc
    rw [u8_nat (by omega)]
    congr 1
    simp [IntKind.wrap, IntKind.signed, IntKind.bits]
    omega
  rw [hkB]
  obtain ⟨x, w3, hr3, hx, hxl, f3, xf⟩ := lit_ok (P := Tryd.prog) (w := w2) elem_byte [bc (UInt8.ofNat (e.1 % 256).toNat)] (by simp [bc, Value.cells]) (by simp)
  refine ⟨x, w3, hr3, ?_⟩
  have hb3 := f3.keep0 hb2
  have hx0 : IsB w3 x [UInt8.ofNat (e.1 % 256).toNat] := hx
  refine LdK.fld hb3 (x := e.1) rfl ?_
  refine CallK.of (fields_spec e.1 w3) ?_
  rintro _ w4 ⟨fv, rfl, hfv, f4, ff⟩
  refine ⟨fv, rfl, ?_⟩
  have hb4 := f4.keep0 hb3
  have s12 := f12.size
  have f14 := (f12.trans f3).trans f4
  have hfl := hfv.len
  rw [List.length_map] at hfl
  have hl7 : (fieldL e.1).length ≤ 7 := by unfold fieldL; exact Nat.le_trans (List.length_filter_le _ _) (by decide)
  have h84 : ∀ c ∈ fieldL e.1, c = 84 → e.1 = 2 := fun c hc h => by
    subst h
    have := (List.mem_filter.1 hc).2
    unfold hasF fieldsF at this
    by_cases h2 : e.1 = 2
    · exact h2
    · rw [if_neg h2] at this
      repeat' split at this
      all_goals exact absurd this (by decide)
  have htr : e.1 = 2 → tr = 0 := fun h2 => by
    unfold checkF at heq
    rw [h2] at heq
    repeat' split at heq
    all_goals first | exact heq | (exact absurd heq (by decide)) | (rename_i hx; exact absurd rfl hx)
  refine LoopK.of (fun s w' => ∃ i : Nat, s.2.1 = i ∧ i ≤ (fieldL e.1).length ∧ IsB w' s.1 (UInt8.ofNat (e.1 % 256).toNat :: ((fieldL e.1).take i).flatMap (fieldB e ts)) ∧ (∀ k, blkOf s.1 k → w2.heap.size ≤ k ∧ (¬ blkOf fv k)) ∧ IsR w' fv ((fieldL e.1).map u8I) ∧ Fr none1 w2 w')
    (fun s _ => (fv.2.1 - s.2.1).toNat) ⟨0, rfl, Nat.zero_le _, by simpa using IsB.keep0 hx0 f4, fun k hk => ⟨xf k hk, fun t => by have := ff k t; have := IsSl.lt hx hk; omega⟩, hfv, f3.trans f4⟩ ?_
  rintro _ ⟨v, i', _⟩ w5 ⟨i, hi, hil, hv, hvf, hfv5, f5⟩
  dsimp only at hi hv hvf ⊢
  subst hi
  refine ifB.dec (fun hlt => ?_) (fun hge => ?_)
  · have hilt : i < (fieldL e.1).length := by omega
    refine IsR.ld hfv5 (by omega) hlt ?_
    obtain ⟨c, hc⟩ : ∃ c, (fieldL e.1)[i]? = some c := ⟨_, List.getElem?_eq_getElem hilt⟩
    have hcm : c ∈ fieldL e.1 := List.mem_of_getElem? hc
    have hcv : ((fieldL e.1).map u8I).getD (Int.toNat (i : Int)) 0 = u8I c := by
      rw [Int.toNat_natCast, List.getD_eq_getElem?_getD, List.getElem?_map, hc]; rfl
    rw [hcv]
    have hb5 := f5.keep0 (f2.keep0 hb1)
    refine LdsK.blk (x := e) hb5 ?_
    have herr : (if c = 84 then tr else 0) = 0 := by
      by_cases h : c = 84
      · rw [if_pos h]; exact htr (h84 c hcm h)
      · rw [if_neg h]
    have hfs := field_spec e hz c ts hts tr w5 (fun h w' f => ht (h84 c hcm h) w' ((f12.trans f5).trans f))
    rw [herr] at hfs
    refine CallK.of hfs ?_
    rintro _ w6 ⟨u, rfl, hu, f6, uf⟩
    refine ⟨(u, 0, ()), rfl, ?_⟩
    refine ifB.f rfl ?_
    have hlen : ((fieldL e.1).take i).flatMap (fieldB e ts) = ((fieldL e.1).take i).flatMap (fieldB e ts) := rfl
    have hbound : ∀ l : List UInt8, (l.flatMap (fieldB e ts)).length ≤ l.length * 1000010 := by
      intro l
      induction l with
      | nil => simp
      | cons a l ih => rw [List.flatMap_cons, List.length_append, List.length_cons]; have := fieldB_len e hz ts hts a; omega
    have hb1' := hbound ((fieldL e.1).take i)
    have hb2' := fieldB_len e hz ts hts c
    have ht7 : ((fieldL e.1).take i).length ≤ 7 := by rw [List.length_take]; omega
    obtain ⟨y, w7, hr7, hy, f7, yf⟩ := append_bytes (IsB.keep0 hv f6) hu.rd (by simp only [List.length_cons]; omega)
    have fvlt := fun k (hk : blkOf fv k) => IsSl.lt hfv5 hk
    refine ⟨y, w7, hr7, ⟨i + 1, by rw [wI (by omega) (by omega)]; omega, by omega, ?_, fun k hk => ?_, IsSl.keep (IsSl.keep0 hfv5 f6) f7 (fun k hk t => (hvf k t).2 hk), (f5.trans f6).comp f7 (fun k hk t => by have := (hvf k t).1; omega)⟩, by rw [wI (by omega) (by omega)]; omega⟩
    · rw [List.take_add_one, hc, List.flatMap_append]
      simpa using hy
    · rcases yf k hk with t | t
      · exact hvf k t
      · have := f5.size
        have := f6.size
        exact ⟨by omega, fun q => by have := fvlt k q; omega⟩
  · rw [List.take_of_length_le (by omega)] at hv
    exact ⟨v, rfl, hv, f12.trans f5, fun k hk => by have := (hvf k hk).1; omega⟩

theorem wakes12_spec (w : World) : Ret Tryd.prog 8 #[] w fun r w' => r = .bool true ∧ Fr none1 w w' := by
  refine c8 w _ ?_
  obtain ⟨e, he⟩ : ∃ e : EvT, e = (1, (⟨#[]⟩ : ByteArray), (⟨#[]⟩ : ByteArray), (⟨#[]⟩ : ByteArray), (⟨#[]⟩ : ByteArray), 0, 0, .nilIface, ()) := ⟨_, rfl⟩
  have hev := event_spec e (by rw [he]; exact .inl rfl) (by rw [he]; exact ⟨by decide, by decide, by decide, by decide⟩) [] (by decide) 0 w (fun h => by rw [he] at h; exact absurd h (by decide))
  have hp : packF e [] 0 = ([1], 0) := by
    have hE : emptyB (⟨#[]⟩ : ByteArray) = true := by unfold emptyB; exact beq_self_eq_true _
    have hc : checkF e 0 = 0 := by
      rw [he]
      unfold checkF onlyF namedF
      dsimp only
      rw [hE]
      rfl
    unfold packF
    rw [if_neg (fun t => t hc), he]
    rfl
  rw [hp] at hev
  rw [he] at hev
  refine CallK.of hev ?_
  rintro _ w1 ⟨u, rfl, hu, f1, _⟩
  refine ⟨(u, 0, ()), rfl, ifB.t rfl ?_⟩
  obtain ⟨x, w2, hr, hx, _, f2, _⟩ := lit_ok (P := Tryd.prog) (w := w1) elem_byte [bc 1] (by simp [bc, Value.cells]) (by simp)
  refine ⟨x, w2, hr, ?_⟩
  have hx1 : IsB w2 x [1] := hx
  refine CallK.of (same_spec (hu.rd.keep0 f2) hx1.rd (by simp)) ?_
  rintro _ w3 ⟨rfl, f3⟩
  exact ⟨_, rfl, rfl, (f1.trans f2).trans f3⟩

end Go.Proofs.YtlhbfdakceipkaaDoor
