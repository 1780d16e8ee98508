/-
  Contracts of the laws' copies over a pool: the address is a name alone. Letters, texts and plans; boxes of three cells.
-/
import Derived.Test.YtbfmohkjnjmmoaaPool
import Derived.Test.YtbfmohkjnjmmoaaPlY
import Derived.Test.YtbfmohkjnjmmoaaPlR
import Derived.Test.YtbfmohkjnjmmoaaPlN
namespace Go.Proofs.Ytbfmohkjnjmmoaa
open Go.RowKit

def boxP (g : Nat) (a b c : Value) : Piece := ⟨[g], fun w => Box w g a b c, fun _ _ hs hk h => h.kept hs (hk g (by simp))⟩
theorem Pool.addBox {w0 w : World} {ps : List Piece} (h : Pool w0 w ps) {g : Nat} (hg : w.heap.size = g) (a b c : Value) (t : TypeId) : Pool w0 (w.alloc (.cells #[a, b, c] t)) (boxP g a b c :: ps) := by
  subst hg
  exact h.add ((Below.refl _ _).alloc (Nat.le_refl _) _) (boxP _ a b c) (Box.of_heap (heap_new _ _)) (fun k hk => by simp [boxP] at hk; subst hk; simp)
theorem Pool.box {w0 w : World} {ps : List Piece} (h : Pool w0 w ps) (i : Nat) {g : Nat} {a b c : Value} (hi : ps[i]? = some (boxP g a b c)) : Box w g a b c := h.get i hi

theorem lawToLetterS' (A : Option Addr) (l : List Lt) (n cap : Nat) (hl : n = l.length) (w : World) (hn : n ≤ 16777216) (h : Rd w 2 ltEnc A l) :
    Calls Try.prog 57 #[.slice A n cap] w fun e w' => ∃ g, e = .returned (.slice (some ⟨g, 0, none⟩) n n) ∧ Own w' w.heap.size 42 2 ltEnc (.slice (some ⟨g, 0, none⟩) n n) l ∧ Below w.heap.size w w' :=
  (lawToLetterS A l n cap hl w hn h).mono fun _ _ ⟨he, ho, hb⟩ => ⟨_, he, ho, hb⟩
end Go.Proofs.Ytbfmohkjnjmmoaa
