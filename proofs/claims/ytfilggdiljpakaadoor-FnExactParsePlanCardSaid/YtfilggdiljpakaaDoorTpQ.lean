/-
  A plan out of its text: what the law's walk imports.
-/
import Derived.Test.YtfilggdiljpakaaDoorTp3
import Derived.Test.YtfilggdiljpakaaDoorPlV
import Derived.Test.YtfilggdiljpakaaDoorPlU
import Derived.Test.YtfilggdiljpakaaDoorPlN
import Derived.Test.YtfilggdiljpakaaDoorPlR
import Derived.Test.YtfilggdiljpakaaDoorMkS
namespace Go.Proofs.YtfilggdiljpakaaDoor
end Go.Proofs.YtfilggdiljpakaaDoor
