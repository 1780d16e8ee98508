/-
  Contracts of the laws' copies over a pool: the address is a name alone. Letters, texts and plans; boxes of three cells.
-/
import Derived.Test.YtjibjoapbjojlaaPool
import Derived.Test.YtjibjoapbjojlaaPlHb
import Derived.Test.YtjibjoapbjojlaaPlR
import Derived.Test.YtjibjoapbjojlaaPlN
namespace Go.Proofs.Ytjibjoapbjojlaa
open Go.RowKit

def boxP (g : Nat) (a b c : Value) : Piece := ⟨[g], fun w => Box w g a b c, fun _ _ hs hk h => h.kept hs (hk g (by simp))⟩
theorem Pool.addBox {w0 w : World} {ps : List Piece} (h : Pool w0 w ps) {g : Nat} (hg : w.heap.size = g) (a b c : Value) (t : TypeId) : Pool w0 (w.alloc (.cells #[a, b, c] t)) (boxP g a b c :: ps) := by
  subst hg
  exact h.add ((Below.refl _ _).alloc (Nat.le_refl _) _) (boxP _ a b c) (Box.of_heap (heap_new _ _)) (fun k hk => by simp [boxP] at hk; subst hk; simp)
theorem Pool.box {w0 w : World} {ps : List Piece} (h : Pool w0 w ps) (i : Nat) {g : Nat} {a b c : Value} (hi : ps[i]? = some (boxP g a b c)) : Box w g a b c := h.get i hi
end Go.Proofs.Ytjibjoapbjojlaa
