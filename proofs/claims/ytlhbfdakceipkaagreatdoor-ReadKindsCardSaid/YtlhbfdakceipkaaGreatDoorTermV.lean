/-
  Contracts and numbers in plain Lean, and the values that they are; how a value is asked what it is; its parts.
  No condition.
-/
import Derived.Test.YtlhbfdakceipkaaGreatDoorBytesSpec
import Derived.Test.YtlhbfdakceipkaaGreatDoorUtf
set_option linter.unusedVariables false
namespace Go.Proofs.YtlhbfdakceipkaaGreatDoor
open Vc

inductive Ob where
  | none
  | const (n : Int)
  | fix (s : List UInt8)
  | add (l r : Ob)
  | neg (o : Ob)
  | mul (l r : Ob)
  | max (l r : Ob)

inductive Tm where
  | none
  | zero
  | one (s : List UInt8)
  | give (t : Tm)
  | and (l r : Tm)
  | or (s : List UInt8) (l r : Tm)
  | scale (o : Ob) (t : Tm)
  | when (d : Int) (t : Tm)
  | cond (o : Ob) (l r : Tm)

def Ob.v : Ob → Value
  | .none => .nilIface
  | .const n => .iface 80 (.agg #[.int .i64 n])
  | .fix s => .iface 78 (.agg #[.string (str s)])
  | .add l r => .iface 86 (.agg #[l.v, r.v])
  | .neg o => .iface 85 (.agg #[o.v])
  | .mul l r => .iface 83 (.agg #[l.v, r.v])
  | .max l r => .iface 82 (.agg #[l.v, r.v])

def Tm.v : Tm → Value
  | .none => .nilIface
  | .zero => .iface 76 (.agg #[])
  | .one s => .iface 74 (.agg #[.string (str s)])
  | .give t => .iface 89 (.agg #[t.v])
  | .and l r => .iface 91 (.agg #[l.v, r.v])
  | .or s l r => .iface 93 (.agg #[.string (str s), l.v, r.v])
  | .scale o t => .iface 97 (.agg #[o.v, t.v])
  | .when d t => .iface 95 (.agg #[.int .i64 d, t.v])
  | .cond o l r => .iface 99 (.agg #[o.v, l.v, r.v])

theorem one1_str (s : ByteArray) : one1 (.string s) = true := rfl
theorem one1_int (k : IntKind) (n : Int) : one1 (.int k n) = true := rfl
theorem Ob.v_one (o : Ob) : one1 o.v = true := by cases o <;> rfl
theorem Tm.v_one (t : Tm) : one1 t.v = true := by cases t <;> rfl
theorem Ob.v_cells (o : Ob) : o.v.cells = #[o.v] := by cases o <;> rfl
theorem Tm.v_cells (t : Tm) : t.v.cells = #[t.v] := by cases t <;> rfl

def kidsO : Ob → List Ob
  | .add l r | .mul l r | .max l r => [l, r]
  | .neg o => [o]
  | _ => []
def kidsT : Tm → List Tm
  | .give t | .scale _ t | .when _ t => [t]
  | .and l r | .or _ l r | .cond _ l r => [l, r]
  | _ => []
theorem kidsO_lt {o k : Ob} (h : k ∈ kidsO o) : SizeOf.sizeOf k < SizeOf.sizeOf o := by
  cases o <;> simp [kidsO] at h
  all_goals first | (rcases h with rfl | rfl <;> simp <;> omega) | (subst h; simp)
theorem kidsT_lt {t k : Tm} (h : k ∈ kidsT t) : SizeOf.sizeOf k < SizeOf.sizeOf t := by
  cases t <;> simp [kidsT] at h
  all_goals first | (rcases h with rfl | rfl <;> simp <;> omega) | (subst h; simp; done) | (subst h; simp; omega)
theorem kidsO_len (o : Ob) : (kidsO o).length ≤ 2 := by cases o <;> simp [kidsO]
theorem kidsT_len (t : Tm) : (kidsT t).length ≤ 2 := by cases t <;> simp [kidsT]

namespace Vc
theorem TaK.hit {x : Value} {t : TypeId} {k : Kd} {yes : k.C → Prop} {no : Prop} (r : k.C) (h : x = .iface t (k.val r)) (hy : yes r) : TaK x t k yes no := ⟨.inl ⟨r, h, hy⟩⟩
theorem TaK.miss {x : Value} {t u : TypeId} {v : Value} {k : Kd} {yes : k.C → Prop} {no : Prop} (h : x = .iface u v) (hu : u ≠ t) (hn : no) : TaK x t k yes no := ⟨.inr ⟨.inr ⟨u, v, h, hu⟩, hn⟩⟩
theorem TaK.nil {x : Value} {t : TypeId} {k : Kd} {yes : k.C → Prop} {no : Prop} (h : x = .nilIface) (hn : no) : TaK x t k yes no := ⟨.inr ⟨.inl h, hn⟩⟩

/-- A new block, and at once written to. -/
theorem ns_ok {w : World} {T : TypeId} {zs vs : List Value} {K : Nat → World → Prop} (hl : zs.length = vs.length) (h1 : vs.all one1 = true)
    (h : ∀ g w4, w.heap.size = g → w4.heap[g]? = some (.cells vs.toArray T (0, 0)) → Fr none1 w w4 → K g w4) : NewK (.cells zs.toArray T) w fun g w3 => StsK ⟨g, 0, none⟩ vs w3 fun w4 => K g w4 :=
  NewK.of fun g w1 hg hb f1 hs => StsK.blk hb hl h1 fun w2 hb2 f2 _ => h g w2 hg hb2 (f1.fresh f2 (by omega))
/-- .. of which nothing is read. -/
theorem ns_skip {w : World} {T : TypeId} {zs vs : List Value} {K : World → Prop} (hl : zs.length = vs.length) (h1 : vs.all one1 = true)
    (h : ∀ w4, Fr none1 w w4 → K w4) : NewK (.cells zs.toArray T) w fun g w3 => StsK ⟨g, 0, none⟩ vs w3 fun w4 => K w4 :=
  ns_ok hl h1 fun _ w4 _ _ f => h w4 f

/-- One part, as a slice; two parts. -/
theorem kids1_ok {P : Program} {w : World} {T t E i bytes : Nat} {z a : Value} {zs vs : List Value} {K : Option Addr × Nat × Nat → World → Prop} (he : ElemOk P t E 1 z bytes) (hl : zs.length = vs.length) (h1 : vs.all one1 = true) (ha : vs[i]? = some a) (hc : a.cells = #[a])
    (h : ∀ (u : Sl) w', IsSl w' E 1 u [a] → u.2.1 = 1 → Fr none1 w w' → (∀ k, blkOf u k → w.heap.size ≤ k) → K u w') :
    NewK (.cells zs.toArray T) w fun g w3 => StsK ⟨g, 0, none⟩ vs w3 fun w4 => LdK .raw ((⟨g, 0, none⟩ : Addr).add i) w4 fun (x : Value) => RunK P (Instr.buildSlice t 1 #[(0, x)]) w4 (.v (.one .slc)) fun (u : Option Addr × Nat × Nat) w5 => K u w5 := by
  refine ns_ok hl h1 fun g w4 hg hb f => ?_
  refine LdK.fld (c := .raw) hb (x := a) (by rw [List.getElem?_toArray, Nat.zero_add]; exact ha) ?_
  obtain ⟨u, w5, hr, hu, hul, f5, uf⟩ := one_ok (w := w4) he a hc
  exact ⟨u, w5, hr, h u w5 hu hul (f.trans f5) fun k hk => Nat.le_trans f.size (uf k hk)⟩
theorem kids2_ok {P : Program} {w : World} {T t E i j bytes : Nat} {z a b : Value} {zs vs : List Value} {K : Option Addr × Nat × Nat → World → Prop} (he : ElemOk P t E 1 z bytes) (hl : zs.length = vs.length) (h1 : vs.all one1 = true) (ha : vs[i]? = some a) (hb : vs[j]? = some b) (hca : a.cells = #[a]) (hcb : b.cells = #[b])
    (h : ∀ (u : Sl) w', IsSl w' E 1 u [a, b] → u.2.1 = 2 → Fr none1 w w' → (∀ k, blkOf u k → w.heap.size ≤ k) → K u w') :
    NewK (.cells zs.toArray T) w fun g w3 => StsK ⟨g, 0, none⟩ vs w3 fun w4 => LdK .raw ((⟨g, 0, none⟩ : Addr).add i) w4 fun (x : Value) => LdK .raw ((⟨g, 0, none⟩ : Addr).add j) w4 fun (y : Value) => RunK P (Instr.buildSlice t 2 #[(0, x), (1, y)]) w4 (.v (.one .slc)) fun (u : Option Addr × Nat × Nat) w5 => K u w5 := by
  refine ns_ok hl h1 fun g w4 hg hbk f => ?_
  refine LdK.fld (c := .raw) hbk (x := a) (by rw [List.getElem?_toArray, Nat.zero_add]; exact ha) ?_
  refine LdK.fld (c := .raw) hbk (x := b) (by rw [List.getElem?_toArray, Nat.zero_add]; exact hb) ?_
  obtain ⟨u, w5, hr, hu, hul, f5, uf⟩ := lit_ok (w := w4) he [a, b] (by intro v hv; simp at hv; rcases hv with rfl | rfl <;> assumption) (by simp)
  exact ⟨u, w5, hr, h u w5 hu hul (f.trans f5) fun k hk => Nat.le_trans f.size (uf k hk)⟩
end Vc

theorem elem_obs : ElemOk Tryz.prog 173 65 1 .nilIface 16 := ⟨Tryz.underlying173, ⟨Tryz.t65, by kernel_rfl, rfl, rfl, rfl⟩, rfl, by decide⟩
theorem elem_term : ElemOk Tryz.prog 167 28 1 .nilIface 16 := ⟨Tryz.underlying167, ⟨Tryz.t28, by kernel_rfl, rfl, rfl, rfl⟩, rfl, by decide⟩
theorem elem_str : ElemOk Tryz.prog 23 9 1 (.string ⟨#[]⟩) 16 := ⟨Tryz.underlying23, ⟨Tryz.t9, by kernel_rfl, rfl, rfl, rfl⟩, rfl, by decide⟩

/-- A slice of numbers; of contracts. -/
def IsOs (w : World) (v : Sl) (l : List Ob) : Prop := IsSl w 65 1 v (l.map Ob.v)
def IsTs (w : World) (v : Sl) (l : List Tm) : Prop := IsSl w 28 1 v (l.map Tm.v)
theorem IsOs.keep0 {w w' : World} {v : Sl} {l : List Ob} (h : IsOs w v l) (f : Fr none1 w w') : IsOs w' v l := IsSl.keep0 h f
theorem IsTs.keep0 {w w' : World} {v : Sl} {l : List Tm} (h : IsTs w v l) (f : Fr none1 w w') : IsTs w' v l := IsSl.keep0 h f
theorem IsOs.len {w : World} {v : Sl} {l : List Ob} (h : IsOs w v l) : v.2.1 = l.length := by have := IsSl.len h; rw [List.length_map, Nat.mul_one] at this; exact this.symm
theorem IsTs.len {w : World} {v : Sl} {l : List Tm} (h : IsTs w v l) : v.2.1 = l.length := by have := IsSl.len h; rw [List.length_map, Nat.mul_one] at this; exact this.symm
theorem IsOs.ld {w : World} {v : Sl} {l : List Ob} (h : IsOs w v l) {i : Nat} {o : Ob} (ho : l[i]? = some o) {K : Value → Prop} (k : K o.v) : IdxK v.1 v.2.1 (i : Int) 1 fun p => LdK .raw p w K := by
  have hi := (List.getElem?_eq_some_iff.1 ho).1
  have hl := h.len
  refine IsSl.ld h (by omega) (by omega) (c := .raw) (x := o.v) ?_ k
  rw [Int.toNat_natCast, List.getElem?_map, ho]; rfl
theorem IsTs.ld {w : World} {v : Sl} {l : List Tm} (h : IsTs w v l) {i : Nat} {o : Tm} (ho : l[i]? = some o) {K : Value → Prop} (k : K o.v) : IdxK v.1 v.2.1 (i : Int) 1 fun p => LdK .raw p w K := by
  have hi := (List.getElem?_eq_some_iff.1 ho).1
  have hl := h.len
  refine IsSl.ld h (by omega) (by omega) (c := .raw) (x := o.v) ?_ k
  rw [Int.toNat_natCast, List.getElem?_map, ho]; rfl
theorem none_os (w : World) : IsOs w (none, 0, 0) [] := .inl ⟨rfl, rfl⟩
theorem none_ts (w : World) : IsTs w (none, 0, 0) [] := .inl ⟨rfl, rfl⟩
theorem none_blk : ∀ k, ¬ blkOf (none, 0, 0) k := fun k ⟨a, ha, _⟩ => by cases ha

end Go.Proofs.YtlhbfdakceipkaaGreatDoor
