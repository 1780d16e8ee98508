/-
  Contracts of the laws' copies over a pool: the address is a name alone. Letters, texts and plans; boxes of three cells.
-/
import Derived.Test.YtfilggdiljpakaaDoorPool
import Derived.Test.YtfilggdiljpakaaDoorPlY
import Derived.Test.YtfilggdiljpakaaDoorPlR
import Derived.Test.YtfilggdiljpakaaDoorPlN
namespace Go.Proofs.YtfilggdiljpakaaDoor
open Go.RowKit

def boxP (g : Nat) (a b c : Value) : Piece := ⟨[g], fun w => Box w g a b c, fun _ _ hs hk h => h.kept hs (hk g (by simp))⟩
theorem Pool.addBox {w0 w : World} {ps : List Piece} (h : Pool w0 w ps) {g : Nat} (hg : w.heap.size = g) (a b c : Value) (t : TypeId) : Pool w0 (w.alloc (.cells #[a, b, c] t)) (boxP g a b c :: ps) := by
  subst hg
  exact h.add ((Below.refl _ _).alloc (Nat.le_refl _) _) (boxP _ a b c) (Box.of_heap (heap_new _ _)) (fun k hk => by simp [boxP] at hk; subst hk; simp)
theorem Pool.box {w0 w : World} {ps : List Piece} (h : Pool w0 w ps) (i : Nat) {g : Nat} {a b c : Value} (hi : ps[i]? = some (boxP g a b c)) : Box w g a b c := h.get i hi

theorem lawToStringS' (A : Option Addr) (l : List Str) (n cap : Nat) (hl : n = l.length) (w : World) (hn : n ≤ 16777216) (h : Rd w 1 strEnc A l) :
    Calls Tryd.prog 75 #[.slice A n cap] w fun e w' => ∃ g, e = .returned (.slice (some ⟨g, 0, none⟩) n n) ∧ Own w' w.heap.size 9 1 strEnc (.slice (some ⟨g, 0, none⟩) n n) l ∧ Below w.heap.size w w' :=
  (lawToStringS A l n cap hl w hn h).mono fun _ _ ⟨he, ho, hb⟩ => ⟨_, he, ho, hb⟩

theorem lawToPlan' (b p : Int) (A : Option Addr) (l : List Str) (n cap : Nat) (hl : n = l.length) (w : World) (hn : n ≤ 16777216) (h : Rd w 1 strEnc A l) :
    Calls Tryd.prog 35 #[.agg #[.int .i64 b, .int .i64 p, .slice A n cap]] w fun e w' => ∃ g, e = .returned (.agg #[.int .i64 b, .int .i64 p, .slice (some ⟨g, 0, none⟩) n n]) ∧ Own w' w.heap.size 9 1 strEnc (.slice (some ⟨g, 0, none⟩) n n) l ∧ Below w.heap.size w w' :=
  (lawToPlan b p A l n cap hl w hn h).mono fun _ _ ⟨g, hg, he, ho, hb⟩ => ⟨g, he, ho.lower hg, hb⟩
end Go.Proofs.YtfilggdiljpakaaDoor
