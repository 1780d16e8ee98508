/-
  Two plans joined: what the law's walk imports.
-/
import Derived.Test.YtkhcjgkjfmeidaaPlJa
import Derived.Test.YtkhcjgkjfmeidaaPlJs
import Derived.Test.YtkhcjgkjfmeidaaPlV
import Derived.Test.YtkhcjgkjfmeidaaPlU
import Derived.Test.YtkhcjgkjfmeidaaMkS
namespace Go.Proofs.Ytkhcjgkjfmeidaa
end Go.Proofs.Ytkhcjgkjfmeidaa
