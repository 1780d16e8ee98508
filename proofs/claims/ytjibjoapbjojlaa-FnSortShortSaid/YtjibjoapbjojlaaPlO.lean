/-
  Arguments of a law, opened: a plan, a slice of letters, a slice of texts, as the lists that they read.
-/
import Derived.Test.YtjibjoapbjojlaaPlQ
import Derived.Deep.Slices
import Derived.Deep.Fields
import Derived.ChangeSame
import Derived.Lib.SmallJoins
namespace Go.Proofs.Ytjibjoapbjojlaa
open Go.RowKit Go.ChangeShapes Go.WideShapes Go.Deep

theorem list_of {α : Type} {Q : Nat → α → Prop} : ∀ n : Nat, (∀ i, i < n → ∃ x, Q i x) → ∃ l : List α, l.length = n ∧ ∀ i x, l[i]? = some x → Q i x
  | 0, _ => ⟨[], rfl, fun i x h => by simp at h⟩
  | n + 1, h => by
    obtain ⟨l, hl, hq⟩ := list_of n fun i hi => h i (by omega)
    obtain ⟨x, hx⟩ := h n (by omega)
    refine ⟨l ++ [x], by simp [hl], fun i y hy => ?_⟩
    by_cases hi : i < n
    · rw [List.getElem?_append_left (by omega)] at hy
      exact hq i y hy
    · rw [List.getElem?_append_right (by omega)] at hy
      by_cases he : i = n
      · subst he
        rw [hl, Nat.sub_self] at hy
        simp at hy
        subst hy
        exact hx
      · rw [List.getElem?_eq_none (by simp; omega)] at hy
        cases hy

theorem str_cells : Try.prog.cellsOf 9 = 1 := by kernel_rfl
/-- An argument that is a slice of texts. -/
def StrIn (w : World) (A : Option Addr) (l : List Str) (c : Nat) : Prop :=
  l.length ≤ c ∧ c ≤ maxLen ∧ (∀ x ∈ l, x.size ≤ maxLen) ∧ Rd w 1 strEnc A l
def PlIn (w : World) (_b _p : Int) (A : Option Addr) (l : List Str) (c : Nat) : Prop := StrIn w A l c
end Go.Proofs.Ytjibjoapbjojlaa
