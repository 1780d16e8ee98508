/-
  The laws' marks on plans and on letters.
-/
import Derived.Test.YtjibjoapbjojlaaPlU
import Derived.Test.YtjibjoapbjojlaaMkS
namespace Go.Proofs.Ytjibjoapbjojlaa
open Go.RowKit

/-- The marks of letter i. -/
def ltMk (k : Nat) (i : Nat) : Lt := (((k + 2 * i : Nat) : Int), mkTxt (k + 2 * i + 1))
def ltMks (k : Nat) (n : Nat) : List Lt := (List.range n).map (ltMk k)
theorem ltMks_len (k n : Nat) : (ltMks k n).length = n := by simp [ltMks]
theorem ltMks_at {k n i : Nat} (h : i < n) : (ltMks k n)[i]? = some (ltMk k i) := by simp [ltMks, h]
theorem ltMks_step {k n i : Nat} {l : List Lt} (hl : l.length = n) (h : i < n) : (ltMks k i ++ l.drop i).set i (ltMk k i) = ltMks k (i + 1) ++ l.drop (i + 1) := by
  rw [List.set_append_right _ _ (by rw [ltMks_len]; omega), ltMks_len, Nat.sub_self, List.drop_eq_getElem_cons (by omega), List.set_cons_zero]
  simp [ltMks, List.range_succ]
end Go.Proofs.Ytjibjoapbjojlaa
