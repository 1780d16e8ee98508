/-
  The library's slices.Concat of two slices ([]string): a new slice of the first one's elements, then the second one's.
-/
import Derived.Test.YtkhcjgkjfmeidaaPlHb
namespace Go.Proofs.Ytkhcjgkjfmeidaa
open Go.RowKit
end Go.Proofs.Ytkhcjgkjfmeidaa
