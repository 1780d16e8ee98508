/-
  The laws' marks on texts.
-/
import Derived.Test.YtjibjoapbjojlaaPlM
import Derived.Test.YtjibjoapbjojlaaMark
namespace Go.Proofs.Ytjibjoapbjojlaa
open Go.RowKit

/-- The marks of texts. -/
def strMks (k : Nat) (n : Nat) : List Str := (List.range n).map fun i => mkTxt (k + i)
theorem strMks_len (k n : Nat) : (strMks k n).length = n := by simp [strMks]
theorem strMks_at {k n i : Nat} (h : i < n) : (strMks k n)[i]? = some (mkTxt (k + i)) := by simp [strMks, h]
theorem strMks_step {k n i : Nat} {l : List Str} (hl : l.length = n) (h : i < n) : (strMks k i ++ l.drop i).set i (mkTxt (k + i)) = strMks k (i + 1) ++ l.drop (i + 1) := by
  rw [List.set_append_right _ _ (by rw [strMks_len]; omega), strMks_len, Nat.sub_self, List.drop_eq_getElem_cons (by omega), List.set_cons_zero]
  simp [strMks, List.range_succ]
end Go.Proofs.Ytjibjoapbjojlaa
