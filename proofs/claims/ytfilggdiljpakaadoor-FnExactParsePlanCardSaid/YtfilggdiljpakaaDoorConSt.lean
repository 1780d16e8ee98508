/-
  The library's slices.Concat of two slices ([]string): a new slice of the first one's elements, then the second one's.
-/
import Derived.Test.YtfilggdiljpakaaDoorPlHb
namespace Go.Proofs.YtfilggdiljpakaaDoor
open Go.RowKit
end Go.Proofs.YtfilggdiljpakaaDoor
