/-
  Held letters: the program's and the reference's.
-/
import Derived.Test.YtjibjoapbjojlaaDoorPlY
namespace Go.Proofs.YtjibjoapbjojlaaDoor
open Go.RowKit

theorem ltEnc_cells {w : World} (x : Lt) {g : Nat} (hg : g = w.heap.size) : ∀ (j : Nat) (u : Value), (ltEnc x)[j]? = some u → (w.alloc (.cells #[.int .i64 x.1, .string x.2] 55)).cell? (Addr.add ⟨g, 0, none⟩ j) = some u := by
  intro j u hu
  match j, hu with
  | 0, hu => simp [ltEnc] at hu; subst hu; exact World.cell?_alloc_at _ _ _ 0 hg
  | 1, hu => simp [ltEnc] at hu; subst hu; exact World.cell?_alloc_at _ _ _ 1 hg

def heldOkB (h : List Str) : Bool := decide (h.length ≤ 30) && h.all codeOk
theorem heldOkB_long {h : List Str} (e : ¬ h.length ≤ 30) : heldOkB h = false := by unfold heldOkB; rw [decide_eq_false e]; rfl
theorem heldOkB_bad {h : List Str} {k : Nat} {x : Str} (hx : h[k]? = some x) (e : codeOk x = false) : heldOkB h = false := by
  unfold heldOkB
  rw [Bool.and_eq_false_iff]
  right
  rw [List.all_eq_false]
  exact ⟨x, List.mem_of_getElem? hx, by simp [e]⟩
theorem heldOkB_good {h : List Str} (e1 : h.length ≤ 30) (e : ∀ (j : Nat) (x : Str), h[j]? = some x → codeOk x = true) : heldOkB h = true := by
  unfold heldOkB
  rw [decide_eq_true e1, Bool.true_and, List.all_eq_true]
  intro x hx
  obtain ⟨k, hk, rfl⟩ := List.getElem_of_mem hx
  exact e k _ (List.getElem?_eq_getElem hk)
end Go.Proofs.YtjibjoapbjojlaaDoor
