/-
  Exact laws on plans that only look: PlanValid.
-/
import Derived.Test.YtjibjoapbjojlaaPlR
import Derived.Test.YtjibjoapbjojlaaPlO
import Derived.Deep.RegionHeld3
namespace Go.Proofs.Ytjibjoapbjojlaa
open Go.RowKit

theorem box3 {w : World} {g : Nat} {a b c : Value} {t : TypeId} (h : w.heap[g]? = some (.cells #[a, b, c] t (0, 0))) : w.cell? ⟨g, 0, none⟩ = some a ∧ w.cell? ⟨g, 1, none⟩ = some b ∧ w.cell? ⟨g, 2, none⟩ = some c :=
  ⟨(cells_of_heap h 0).1, (cells_of_heap h 1).1, (cells_of_heap h 2).1⟩
theorem below_undrew {w w' : World} (h : Below w.drew.heap.size w.drew w') : Below w.heap.size w w' := ⟨h.os, h.tape, h.output, h.size, h.block⟩
theorem heap_new (w : World) (o : Obj) : (w.alloc o).heap[w.heap.size]? = some o := by
  show (w.heap.push o)[w.heap.size]? = _
  simp
end Go.Proofs.Ytjibjoapbjojlaa
