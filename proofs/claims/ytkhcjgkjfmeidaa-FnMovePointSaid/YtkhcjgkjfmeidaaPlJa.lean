/-
  Two plans joined. (Written by gen_join.py.)
-/
import Derived.Test.YtkhcjgkjfmeidaaPlJb
namespace Go.Proofs.Ytkhcjgkjfmeidaa
open Go.RowKit
end Go.Proofs.Ytkhcjgkjfmeidaa
