/-
  The text of orders: what the law's walk imports.
-/
import Derived.Test.YtfilggdiljpakaaDoorFmA
import Derived.Test.YtfilggdiljpakaaDoorPoolF
import Derived.Test.YtfilggdiljpakaaDoorFwO
namespace Go.Proofs.YtfilggdiljpakaaDoor
end Go.Proofs.YtfilggdiljpakaaDoor
