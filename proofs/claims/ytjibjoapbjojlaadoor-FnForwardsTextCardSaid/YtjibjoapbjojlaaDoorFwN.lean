/-
  The laws' marks on orders: markForwardS writes them, heldForwardS finds them again.
-/
import Derived.Test.YtjibjoapbjojlaaDoorFwO
import Derived.Test.YtjibjoapbjojlaaDoorMark
namespace Go.Proofs.YtjibjoapbjojlaaDoor
open Go.RowKit

/-- The marks of order i. -/
def fwMk (k : Nat) (i : Nat) : Fw := (mkTxt (k + 2 * i), mkTxt (k + 2 * i + 1))
def fwMks (k : Nat) (n : Nat) : List Fw := (List.range n).map (fwMk k)
theorem fwMks_len (k n : Nat) : (fwMks k n).length = n := by simp [fwMks]
theorem fwMks_at {k n i : Nat} (h : i < n) : (fwMks k n)[i]? = some (fwMk k i) := by simp [fwMks, h]
theorem fwMks_step {k n i : Nat} {l : List Fw} (hl : l.length = n) (h : i < n) : (fwMks k i ++ l.drop i).set i (fwMk k i) = fwMks k (i + 1) ++ l.drop (i + 1) := by
  rw [List.set_append_right _ _ (by rw [fwMks_len]; omega), fwMks_len, Nat.sub_self, List.drop_eq_getElem_cons (by omega), List.set_cons_zero]
  simp [fwMks, List.range_succ]
end Go.Proofs.YtjibjoapbjojlaaDoor
