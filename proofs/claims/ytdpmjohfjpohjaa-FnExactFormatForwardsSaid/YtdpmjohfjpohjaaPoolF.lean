/-
  Contracts of the laws' copies over a pool: the address is a name alone. Orders and texts.
-/
import Derived.Test.YtdpmjohfjpohjaaPool
import Derived.Test.YtdpmjohfjpohjaaFwN
import Derived.Test.YtdpmjohfjpohjaaPlL
import Derived.Test.YtdpmjohfjpohjaaMkS
namespace Go.Proofs.Ytdpmjohfjpohjaa
open Go.RowKit

theorem strsEq_self' (a : List Str) : strsEq a a = true := by simp [strsEq]

theorem lawToForwardS' (A : Option Addr) (l : List Fw) (n cap : Nat) (hl : n = l.length) (w : World) (hn : n ≤ 16777216) (h : Rd w 2 fwEnc A l) :
    Calls Try.prog 16 #[.slice A n cap] w fun e w' => ∃ g, e = .returned (.slice (some ⟨g, 0, none⟩) n n) ∧ Own w' w.heap.size 52 2 fwEnc (.slice (some ⟨g, 0, none⟩) n n) l ∧ Below w.heap.size w w' :=
  (lawToForwardS A l n cap hl w hn h).mono fun _ _ ⟨he, ho, hb⟩ => ⟨_, he, ho, hb⟩
end Go.Proofs.Ytdpmjohfjpohjaa
