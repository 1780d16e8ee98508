/-
  Letters placed into bins: the program's.
-/
import Derived.Test.YtjibjoapbjojlaaPsM
import Derived.Test.YtjibjoapbjojlaaPoolL
import Derived.Test.YtjibjoapbjojlaaPlB
import Derived.Test.YtjibjoapbjojlaaPlHb
import Derived.Deep.AppendLies
import Derived.Deep.RegionLaw
namespace Go.Proofs.Ytjibjoapbjojlaa
open Go.RowKit

theorem lts_info : (Try.prog.info? 23).map (fun i => (i.zero, i.size, i.bytes)) = some (some (.slice none 0 0), 1, 24) := by kernel_rfl
theorem made_raw (z : Value) (n : Nat) : (madeCells #[z] (n * 1)).toList = (List.replicate n z).flatMap rawEnc := by
  rw [flat_replicate rawEnc z n]; exact made1 z n
/-- Bins and the letters without one, as a result. -/
def PlaceRet (B : Nat) (f : Str → Int) (m : List Lt) (w : World) (e : Ending) (w' : World) : Prop :=
  ∃ g hs A n c, e = .returned (.tuple #[.slice (some ⟨g, 0, none⟩) B B, .slice A n c]) ∧ hs.length = B ∧
    Pool w w' (ownP 23 1 rawEnc (.slice (some ⟨g, 0, none⟩) B B) hs :: ownP 39 2 ltEnc (.slice A n c) (plRest f m) :: innerP 39 hs (plBins B f m))
theorem binVal_sign {b : Int} (hb : 2 ≤ b) (l : List Str) (c : Str) (pass : Int) : (binVal b l c pass < 0 ∧ strIdx l c = none) ∨ (∃ k : Nat, k < b.toNat ∧ binVal b l c pass = (k : Int) ∧ strIdx l c ≠ none) := by
  unfold binVal
  cases strIdx l c with
  | none => left; exact ⟨by show (-1 : Int) < 0; decide, rfl⟩
  | some k =>
    right
    have h1 := Int.emod_nonneg ((k : Int) / pw b pass.toNat) (show b ≠ 0 by omega)
    have h2 := Int.emod_lt_of_pos ((k : Int) / pw b pass.toNat) (show 0 < b by omega)
    obtain ⟨v, hv⟩ : ∃ v, (k : Int) / pw b pass.toNat % b = v := ⟨_, rfl⟩
    rw [hv] at h1 h2
    refine ⟨v.toNat, by omega, ?_, by simp⟩
    show (k : Int) / pw b pass.toNat % b = _
    rw [hv]; omega
theorem pool_last {w0 w : World} {a b p : Piece} {xs : List Piece} (h : Pool w0 w (a :: b :: (xs ++ [p]))) : p.P w := (h.all p (by simp)).1
end Go.Proofs.Ytjibjoapbjojlaa
