/-
  The text of a plan: what the law's walk imports.
-/
import Derived.Test.YtfilggdiljpakaaDoorTp1
import Derived.Test.YtfilggdiljpakaaDoorPlV
import Derived.Test.YtfilggdiljpakaaDoorPlU
import Derived.Test.YtfilggdiljpakaaDoorPlN
import Derived.Test.YtfilggdiljpakaaDoorPlR
namespace Go.Proofs.YtfilggdiljpakaaDoor
end Go.Proofs.YtfilggdiljpakaaDoor
