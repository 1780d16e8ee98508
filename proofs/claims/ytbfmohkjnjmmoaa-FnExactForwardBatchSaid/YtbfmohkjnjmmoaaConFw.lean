/-
  The library's slices.Concat of two slices ([]impl.Forward): a new slice of the first one's elements, then the second one's.
-/
import Derived.Test.YtbfmohkjnjmmoaaFwR
namespace Go.Proofs.Ytbfmohkjnjmmoaa
open Go.RowKit
end Go.Proofs.Ytbfmohkjnjmmoaa
