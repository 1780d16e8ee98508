/-
  Two plans joined: the calls of the law's regions that draw their order, over a Pool.
-/
import Derived.Test.YtkhcjgkjfmeidaaPlJp
import Derived.Deep.Cut
import Derived.Deep.CutRange
namespace Go.Proofs.Ytkhcjgkjfmeidaa
open Go.RowKit
end Go.Proofs.Ytkhcjgkjfmeidaa
