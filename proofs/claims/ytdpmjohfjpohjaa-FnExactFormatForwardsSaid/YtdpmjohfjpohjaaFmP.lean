/-
  The text of orders: what the law's walk imports.
-/
import Derived.Test.YtdpmjohfjpohjaaFmA
import Derived.Test.YtdpmjohfjpohjaaPoolF
import Derived.Test.YtdpmjohfjpohjaaFwO
namespace Go.Proofs.Ytdpmjohfjpohjaa
end Go.Proofs.Ytdpmjohfjpohjaa
