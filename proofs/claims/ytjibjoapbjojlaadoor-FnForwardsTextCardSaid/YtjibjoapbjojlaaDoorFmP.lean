/-
  The text of orders: what the law's walk imports.
-/
import Derived.Test.YtjibjoapbjojlaaDoorFmA
import Derived.Test.YtjibjoapbjojlaaDoorPoolF
import Derived.Test.YtjibjoapbjojlaaDoorFwO
namespace Go.Proofs.YtjibjoapbjojlaaDoor
end Go.Proofs.YtjibjoapbjojlaaDoor
