/-
  Letters sent on: what the law's walk imports.
-/
import Derived.Test.YtbfmohkjnjmmoaaFbA
import Derived.Test.YtbfmohkjnjmmoaaFwO
import Derived.Test.YtbfmohkjnjmmoaaFwN
import Derived.Test.YtbfmohkjnjmmoaaPlU
import Derived.Test.YtbfmohkjnjmmoaaMkS
namespace Go.Proofs.Ytbfmohkjnjmmoaa
open Go.RowKit

theorem lawToForwardS' (A : Option Addr) (l : List Fw) (n cap : Nat) (hl : n = l.length) (w : World) (hn : n ≤ 16777216) (h : Rd w 2 fwEnc A l) :
    Calls Try.prog 56 #[.slice A n cap] w fun e w' => ∃ g, e = .returned (.slice (some ⟨g, 0, none⟩) n n) ∧ Own w' w.heap.size 117 2 fwEnc (.slice (some ⟨g, 0, none⟩) n n) l ∧ Below w.heap.size w w' :=
  (lawToForwardS A l n cap hl w hn h).mono fun _ _ ⟨he, ho, hb⟩ => ⟨_, he, ho, hb⟩
end Go.Proofs.Ytbfmohkjnjmmoaa
