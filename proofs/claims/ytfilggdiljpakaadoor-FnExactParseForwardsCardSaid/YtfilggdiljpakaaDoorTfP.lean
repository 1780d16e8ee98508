/-
  Orders out of their text: what the law's walk imports.
-/
import Derived.Test.YtfilggdiljpakaaDoorTf2
import Derived.Test.YtfilggdiljpakaaDoorPoolF
import Derived.Test.YtfilggdiljpakaaDoorFwO
import Derived.Test.YtfilggdiljpakaaDoorFmP
import Derived.Test.YtfilggdiljpakaaDoorMkS
namespace Go.Proofs.YtfilggdiljpakaaDoor

theorem parseFw_len (t : Str) : (parseFw t).1.length ≤ 1048576 := by
  unfold parseFw
  split
  · simp
  · split
    · rename_i h
      have := h.1
      simp only [List.length_map]; omega
    · simp
end Go.Proofs.YtfilggdiljpakaaDoor
