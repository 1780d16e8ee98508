/-
  Endless codes are few.
-/
import Derived.Test.YtdpmjohfjpohjaaEn2
import Derived.Test.YtdpmjohfjpohjaaPoolF
import Derived.Test.YtdpmjohfjpohjaaFwO
namespace Go.Proofs.Ytdpmjohfjpohjaa
open Go.RowKit

theorem endlessOf_len (l : List Fw) : (endlessOf l).length ≤ l.length := by
  unfold endlessOf
  split
  · rw [sortS_len]; exact endRaw_len l l
  · exact Nat.zero_le _
end Go.Proofs.Ytdpmjohfjpohjaa
