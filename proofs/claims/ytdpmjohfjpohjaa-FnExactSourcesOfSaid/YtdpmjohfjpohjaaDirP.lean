/-
  Direct orders and sources: what the laws' walks import.
-/
import Derived.Test.YtdpmjohfjpohjaaDirC
import Derived.Test.YtdpmjohfjpohjaaPoolF
import Derived.Test.YtdpmjohfjpohjaaFwO
namespace Go.Proofs.Ytdpmjohfjpohjaa
end Go.Proofs.Ytdpmjohfjpohjaa
