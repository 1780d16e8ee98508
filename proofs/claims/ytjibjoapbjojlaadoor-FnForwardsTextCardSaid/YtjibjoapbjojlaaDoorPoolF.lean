/-
  Contracts of the laws' copies over a pool: the address is a name alone. Orders and texts.
-/
import Derived.Test.YtjibjoapbjojlaaDoorPool
import Derived.Test.YtjibjoapbjojlaaDoorFwN
import Derived.Test.YtjibjoapbjojlaaDoorPlL
import Derived.Test.YtjibjoapbjojlaaDoorMkS
namespace Go.Proofs.YtjibjoapbjojlaaDoor
open Go.RowKit

theorem strsEq_self' (a : List Str) : strsEq a a = true := by simp [strsEq]
end Go.Proofs.YtjibjoapbjojlaaDoor
