/-
  Slices of bytes: what it is to read one, to write to one; one put behind another.
  No condition beyond those stated.
-/
import Derived.Test.YtlhbfdakceipkaaGreatDoorVcSlice
import Derived.Test.YtlhbfdakceipkaaGreatDoorProg
import Derived.KernelRfl
set_option linter.unusedVariables false
namespace Go.Proofs.YtlhbfdakceipkaaGreatDoor
open Vc

theorem elem_byte : ElemOk Tryz.prog 38 5 1 (.int .u8 0) 1 := ⟨Tryz.underlying38, ⟨Tryz.t5, by kernel_rfl, rfl, rfl, rfl⟩, rfl, by decide⟩

def bc (x : UInt8) : Value := .int .u8 (x.toNat : Int)
/-- A slice of bytes that may be written to; one that can be read. -/
def IsB (w : World) (v : Sl) (bs : List UInt8) : Prop := IsSl w 5 1 v (bs.map bc)
def RdB (w : World) (v : Sl) (bs : List UInt8) : Prop := RdSl w 1 v (bs.map bc)
theorem IsB.rd {w : World} {v : Sl} {bs : List UInt8} (h : IsB w v bs) : RdB w v bs := IsSl.rd h
theorem RdB.len {w : World} {v : Sl} {bs : List UInt8} (h : RdB w v bs) : v.2.1 = bs.length := by have := h.1; simp at this; omega
theorem IsB.len {w : World} {v : Sl} {bs : List UInt8} (h : IsB w v bs) : v.2.1 = bs.length := h.rd.len
theorem RdB.keep0 {w w' : World} {v : Sl} {bs : List UInt8} (h : RdB w v bs) (f : Fr none1 w w') : RdB w' v bs := RdSl.keep0 h f
theorem RdB.keep {w w' : World} {v : Sl} {bs : List UInt8} (h : RdB w v bs) {S : Nat → Prop} (f : Fr S w w') (hn : ∀ k, blkOf v k → ¬ S k) : RdB w' v bs := RdSl.keep h f hn
theorem IsB.keep0 {w w' : World} {v : Sl} {bs : List UInt8} (h : IsB w v bs) (f : Fr none1 w w') : IsB w' v bs := IsSl.keep0 h f
theorem IsB.keep {w w' : World} {v : Sl} {bs : List UInt8} (h : IsB w v bs) {S : Nat → Prop} (f : Fr S w w') (hn : ∀ k, blkOf v k → ¬ S k) : IsB w' v bs := IsSl.keep h f hn
theorem bc_one (bs : List UInt8) : ∀ v ∈ bs.map bc, one1 v = true := by
  intro v hv
  obtain ⟨x, _, rfl⟩ := List.mem_map.1 hv
  rfl

theorem append_bytes {w : World} {x y : Sl} {xs ys : List UInt8} (hx : IsB w x xs) (hy : RdB w y ys) (hl : xs.length + ys.length ≤ 100000000) :
    ∃ (v : Sl) (w' : World), (Builtin.append_ #[38, 38] 38 #[.slice x.1 x.2.1 x.2.2, .slice y.1 y.2.1 y.2.2]).run Tryz.prog w = .ok (.slice v.1 v.2.1 v.2.2) w' ∧ IsB w' v (xs ++ ys) ∧ Fr (blkOf x) w w' ∧
      (∀ k, blkOf v k → blkOf x k ∨ w.heap.size ≤ k) := by
  have e1 := hx.len
  have e2 := hy.len
  obtain ⟨v, w', a, b, _, c, d⟩ := append_ok (P := Tryz.prog) (s := 1) (xs := xs.map bc) (ys := ys.map bc) elem_byte 38 hx hy (bc_one ys) (by rw [e1, e2]; omega)
  exact ⟨v, w', a, by unfold IsB; rw [List.map_append]; exact b, c, d⟩

end Go.Proofs.YtlhbfdakceipkaaGreatDoor
