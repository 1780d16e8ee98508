/-
  Orders out of their text: what the law's walk imports.
-/
import Derived.Test.YtjibjoapbjojlaaDoorTf2
import Derived.Test.YtjibjoapbjojlaaDoorPoolF
import Derived.Test.YtjibjoapbjojlaaDoorFwO
import Derived.Test.YtjibjoapbjojlaaDoorFmP
import Derived.Test.YtjibjoapbjojlaaDoorMkS
namespace Go.Proofs.YtjibjoapbjojlaaDoor

theorem parseFw_len (t : Str) : (parseFw t).1.length ≤ 1048576 := by
  unfold parseFw
  split
  · simp
  · split
    · rename_i h
      have := h.1
      simp only [List.length_map]; omega
    · simp
end Go.Proofs.YtjibjoapbjojlaaDoor
