/-
  Letters out of their text: what the law's walk imports.
-/
import Derived.Test.YtjibjoapbjojlaaDoorTb3
import Derived.Test.YtjibjoapbjojlaaDoorPoolL
import Derived.Test.YtjibjoapbjojlaaDoorPlT
import Derived.Test.YtjibjoapbjojlaaDoorPlN
import Derived.Lib.AppendIntMem
namespace Go.Proofs.YtjibjoapbjojlaaDoor

theorem parseLt_len (t : Str) : (parseLt t).1.length ≤ 1048576 := by
  unfold parseLt
  split
  · simp
  · split
    · rename_i h
      have := h.1
      simp only [List.length_map]; omega
    · simp
theorem tab_up {w : World} (h : Lib.TabIs Tryd.prog w "internal/strconv.uint64pow10" .u64 Lib.pow10Tab) : TabUp w := Lib.tabBelow_of_tabIs h
end Go.Proofs.YtjibjoapbjojlaaDoor
