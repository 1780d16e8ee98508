/-
  Looking up a text in a list: the library's slices.Index and slices.Contains, the reference's l3Rank; lists of different codes.
-/
import Derived.Test.YtjibjoapbjojlaaPlM
import Derived.Test.YtjibjoapbjojlaaCode
namespace Go.Proofs.Ytjibjoapbjojlaa
open Go.RowKit

theorem idxInt_none' : idxInt none = -1 := rfl
theorem idxInt_some' (m : Nat) : idxInt (some m) = (m : Int) := rfl

/-- A Bool that the walk does not open. -/
def strHas (l : List Str) (c : Str) : Bool := (strIdx l c).isSome
theorem strHas_ge (l : List Str) (c : Str) : decide (0 ≤ idxInt (strIdx l c)) = strHas l c := by
  unfold strHas
  cases strIdx l c <;> simp [idxInt]
end Go.Proofs.Ytjibjoapbjojlaa
