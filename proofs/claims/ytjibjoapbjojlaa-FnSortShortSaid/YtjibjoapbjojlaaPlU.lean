/-
  Arguments of a law, opened: a slice of letters, a slice of texts.
-/
import Derived.Test.YtjibjoapbjojlaaPlO
import Derived.Test.YtjibjoapbjojlaaPlT
namespace Go.Proofs.Ytjibjoapbjojlaa
open Go.RowKit Go.ChangeShapes Go.WideShapes Go.Deep

/-- A slice of structs of two cells, opened at each index: the two cells, and what each reads. -/
theorem open_pairs {H : Type} {enc : TypeId × Value → H} {P : Program} {w : World} {base : Nat} {spare : Nat → Bool} {held : Bool} {t e : TypeId} {f0 f1 : Field} {fuel : Nat} {v : Value} {x : DataW H × List MemPlace}
    (ht : P.underlying t = some (.slice e)) (he : P.underlying e = some (.struct #[f0, f1])) (hC : P.cellsOf e = 2) (h0 : f0.offset = 0 ∧ P.cellsOf f0.type = 1) (h1 : f1.offset = 1 ∧ P.cellsOf f1.type = 1)
    (h : DataW.trod enc P w base spare held fuel t [v] = some x) :
    v = .slice none 0 0 ∨ ∃ (a : Addr) (len cap m : Nat), v = .slice (some a) len cap ∧ len ≤ cap ∧ cap ≤ maxLen ∧ len ≤ m ∧
      ∀ i, i < m → ∃ (u0 u1 : Value) (y0 y1 : DataW H × List MemPlace) (n : Nat), w.cell? (a.add (i * 2)) = some u0 ∧ w.cell? (a.add (i * 2 + 1)) = some u1 ∧
        DataW.trod enc P w base spare held n f0.type [u0] = some y0 ∧ DataW.trod enc P w base spare held n f1.type [u1] = some y1 := by
  rcases open_slice ht h with ⟨hv, _⟩ | ⟨a, len, cap, m, n, D, Pl, hv, _, hlc, hcm, hm, _, hel⟩
  · left; injection hv
  · right
    refine ⟨a, len, cap, m, by injection hv, hlc, hcm, by rw [hm]; split <;> omega, fun i hi => ?_⟩
    obtain ⟨cs, hcs, hst⟩ := hel i hi
    rw [hC] at hcs
    obtain ⟨ys, k, _, _, hlen, hys, hf⟩ := DataW.trod_struct he hst
    obtain ⟨_, _, hat⟩ := World.cells?_some hcs
    rw [hC] at hlen
    match cs, hlen with
    | [u0, u1], _ =>
      have g0 := hf 0 f0 rfl
      have g1 := hf 1 f1 rfl
      rw [h0.1, h0.2] at g0
      rw [h1.1, h1.2] at g1
      have c0 := hat 0 (by omega)
      have c1 := hat 1 (by omega)
      rw [Go.Deep.add_add] at c0 c1
      simp only [List.getElem?_cons_zero, List.getElem?_cons_succ, Nat.add_zero] at c0 c1
      match ys, hys with
      | [y0, y1], _ => exact ⟨u0, u1, y0, y1, k, c0, c1, by simpa using g0, by simpa using g1⟩
end Go.Proofs.Ytjibjoapbjojlaa
