/-
  Contracts of the laws' copies over a pool: the address is a name alone. Orders and texts.
-/
import Derived.Test.YtfilggdiljpakaaDoorPool
import Derived.Test.YtfilggdiljpakaaDoorFwN
import Derived.Test.YtfilggdiljpakaaDoorPlL
import Derived.Test.YtfilggdiljpakaaDoorMkS
namespace Go.Proofs.YtfilggdiljpakaaDoor
open Go.RowKit

theorem strsEq_self' (a : List Str) : strsEq a a = true := by simp [strsEq]

theorem lawToStringS' (A : Option Addr) (l : List Str) (n cap : Nat) (hl : n = l.length) (w : World) (hn : n ≤ 16777216) (h : Rd w 1 strEnc A l) :
    Calls Tryd.prog 75 #[.slice A n cap] w fun e w' => ∃ g, e = .returned (.slice (some ⟨g, 0, none⟩) n n) ∧ Own w' w.heap.size 9 1 strEnc (.slice (some ⟨g, 0, none⟩) n n) l ∧ Below w.heap.size w w' :=
  (lawToStringS A l n cap hl w hn h).mono fun _ _ ⟨he, ho, hb⟩ => ⟨_, he, ho, hb⟩
end Go.Proofs.YtfilggdiljpakaaDoor
