/-
  What the reference draws for capacities: numbers in range.
-/
import Derived.Test.YtfilggdiljpakaaDr0
namespace Go.Proofs.Ytfilggdiljpakaa
open Go.RowKit

theorem rd_ints (l : List Int) (w : World) (t : TypeId) {g : Nat} (hg : g = w.heap.size) : Rd (w.alloc (.cells (l.map (Value.int .i64)).toArray t)) 1 inEnc (some ⟨g, 0, none⟩) l := fun hl => by
  subst hg
  refine ⟨⟨w.heap.size, 0, none⟩, rfl, by simp, fun i x hx j u hu => ?_⟩
  have hj : j < 1 := by have := (List.getElem?_eq_some_iff.1 hu).1; rw [inEnc_len] at this; exact this
  obtain rfl : j = 0 := by omega
  simp [inEnc] at hu
  subst hu
  rw [show (Addr.add ⟨w.heap.size, 0, none⟩ (i * 1 + 0)) = (⟨w.heap.size, i, none⟩ : Addr) from by simp [Addr.add]; omega, World.cell?_alloc_at _ _ _ _ rfl]
  simp [hx]

/-- The numbers are in range. -/
def smallNums (x y : Int) : Prop := -1 ≤ x ∧ x ≤ 17 ∧ -1 ≤ y ∧ y ≤ 17
end Go.Proofs.Ytfilggdiljpakaa
