/-
  Two plans joined: what the law's walk imports.
-/
import Derived.Test.YtnfggnpemnebcaaPlJa
import Derived.Test.YtnfggnpemnebcaaPlJs
import Derived.Test.YtnfggnpemnebcaaPlV
import Derived.Test.YtnfggnpemnebcaaPlU
import Derived.Test.YtnfggnpemnebcaaMkS
namespace Go.Proofs.Ytnfggnpemnebcaa
end Go.Proofs.Ytnfggnpemnebcaa
