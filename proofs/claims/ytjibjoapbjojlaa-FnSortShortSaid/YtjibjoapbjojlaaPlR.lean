/-
  The laws' own helpers on plans: size, copy, comparison.
-/
import Derived.Test.YtjibjoapbjojlaaPlQ
import Derived.Deep.RegionHeld3
namespace Go.Proofs.Ytjibjoapbjojlaa
open Go.RowKit

theorem own_setCell {α : Type} {w : World} {base : Nat} {e : TypeId} {size : Nat} {enc : α → List Value} {v : Value} {l : List α} (h : Own w base e size enc v l) {p : Addr} (hp : p.block < base) (u : Value) : Own (w.setCell p u) base e size enc v l := by
  refine h.grown (row := some p.block) (grown_setCell (World.grownBy.refl _ _) (.inl rfl) u) ?_
  cases hv : v.ownBlock with
  | none => exact .inl rfl
  | some g => right; have := (h.lt g hv).1; simp; omega

theorem heap_of_below {B : Nat} {w w' : World} (h : Below B w w') {g : Nat} {o : Obj} (hg : g < B) (ho : w.heap[g]? = some o) : w'.heap[g]? = some o := (h.block g hg).trans ho
theorem heap3_1 (w : World) (o1 o2 o3 : Obj) : (((w.alloc o1).alloc o2).alloc o3).heap[w.heap.size + 1]? = some o2 := by
  show (((w.heap.push o1).push o2).push o3)[w.heap.size + 1]? = _
  simp [Array.getElem_push]
theorem heap3_2 (w : World) (o1 o2 o3 : Obj) : (((w.alloc o1).alloc o2).alloc o3).heap[w.heap.size + 1 + 1]? = some o3 := by
  show (((w.heap.push o1).push o2).push o3)[w.heap.size + 1 + 1]? = _
  simp [Array.getElem_push]
theorem cells_of_heap {w : World} {g : Nat} {cs : Array Value} {t : TypeId} (h : w.heap[g]? = some (.cells cs t (0, 0))) (j : Nat) : w.cell? ⟨g, j, none⟩ = cs[j]? ∧ w.frozen? ⟨g, j, none⟩ = false := by
  constructor <;> simp [World.cell?, World.frozen?, h]
end Go.Proofs.Ytjibjoapbjojlaa
