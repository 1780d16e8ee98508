/-
  Two plans joined, both valid and alike: the program's.
-/
import Derived.Test.YtfilggdiljpakaaDoorPlJ
import Derived.Deep.Cut
import Derived.Deep.CutRange
namespace Go.Proofs.YtfilggdiljpakaaDoor
open Go.RowKit

theorem heap3_0 (w : World) (o1 o2 o3 : Obj) : (((w.alloc o1).alloc o2).alloc o3).heap[w.heap.size]? = some o1 := by
  show (((w.heap.push o1).push o2).push o3)[w.heap.size]? = _
  rw [Array.getElem?_push, if_neg (by simp; omega), Array.getElem?_push, if_neg (by simp), Array.getElem?_push, if_pos rfl]
theorem Box.set3 {w : World} {g : Nat} {a b c : Value} (h : Box w g a b c) (x y z : Value) : Box (((w.setCell ⟨g, 0, none⟩ x).setCell ⟨g, 1, none⟩ y).setCell ⟨g, 2, none⟩ z) g x y z := by
  refine ⟨by simpa using h.lt, ?_, ?_, ?_, fun j => by rw [World.frozen?_setCell, World.frozen?_setCell, World.frozen?_setCell]; exact h.fz j⟩
  · rw [World.cell?_setCell_other _ _ _ _ (by simp), World.cell?_setCell_other _ _ _ _ (by simp)]
    exact World.cell?_setCell_same _ _ _ h.c0
  · rw [World.cell?_setCell_other _ _ _ _ (by simp)]
    exact World.cell?_setCell_same _ _ _ (u := b) (by rw [World.cell?_setCell_other w _ _ _ (by simp)]; exact h.c1)
  · exact World.cell?_setCell_same _ _ _ (u := c) (by rw [World.cell?_setCell_other _ _ _ _ (by simp), World.cell?_setCell_other _ _ _ _ (by simp)]; exact h.c2)
theorem Pool.setBox {w0 w : World} {ps : List Piece} (h : Pool w0 w ps) (i : Nat) {g : Nat} {a b c : Value} (hi : ps[i]? = some (boxP g a b c)) (x y z : Value) : Pool w0 (((w.setCell ⟨g, 0, none⟩ x).setCell ⟨g, 1, none⟩ y).setCell ⟨g, 2, none⟩ z) (ps.set i (boxP g x y z)) := by
  have hg : w.grownBy (((w.setCell ⟨g, 0, none⟩ x).setCell ⟨g, 1, none⟩ y).setCell ⟨g, 2, none⟩ z) (some g) := by
    have g1 : w.grownBy (w.setCell ⟨g, 0, none⟩ x) (some g) := grown_setCell (p := ⟨g, 0, none⟩) (World.grownBy.refl w (some g)) (.inl rfl) x
    have g2 : w.grownBy ((w.setCell ⟨g, 0, none⟩ x).setCell ⟨g, 1, none⟩ y) (some g) := grown_setCell (p := ⟨g, 1, none⟩) g1 (.inl rfl) y
    exact grown_setCell (p := ⟨g, 2, none⟩) g2 (.inl rfl) z
  have hb := (h.box i hi).set3 x y z
  refine h.turn i hi (fun k hk => ⟨.inl hk, ?_⟩) hb hg.os hg.tape hg.output hg.size fun k hlt hm => hg.block k hlt (fun e => hm ?_)
  · have hk : k ∈ [g] := hk
    have := List.mem_singleton.1 hk
    subst this; exact hb.lt
  · injection e with e
    subst e; exact List.mem_singleton.2 rfl
theorem dr {w : World} {a : Addr} {v : Value} (h : w.cell? a = some v) : w.drew.cell? a = some v := h
theorem keepS {w : World} {g k j : Nat} {u x y z : Value} (h : w.cell? ⟨k, j, none⟩ = some u) (hne : k ≠ g) : (((w.setCell ⟨g, 0, none⟩ x).setCell ⟨g, 1, none⟩ y).setCell ⟨g, 2, none⟩ z).cell? ⟨k, j, none⟩ = some u := by
  rw [World.cell?_setCell_other _ _ _ _ (by simp), World.cell?_setCell_other _ _ _ _ (by simp), World.cell?_setCell_other _ _ _ _ (by simp)]
  exact h
/-- The header of two slices. -/
def Hdr (w : World) (g : Nat) (u v : Value) : Prop := w.cell? ⟨g, 0, none⟩ = some u ∧ w.cell? ⟨g, 1, none⟩ = some v
end Go.Proofs.YtfilggdiljpakaaDoor
