/-
  The laws' own helpers on letters: copies, comparison, size.
-/
import Derived.Test.YtjibjoapbjojlaaPlC
namespace Go.Proofs.Ytjibjoapbjojlaa
open Go.RowKit

theorem lt_info : (Try.prog.info? 39).map (fun i => (i.zero, i.size, i.bytes)) = some (some (.agg #[.int .i64 0, .string ByteArray.empty]), 2, 24) := by kernel_rfl
def zeroLt : Lt := (0, ByteArray.empty)

/-- Equality of lists, as a Bool that the walk does not open. -/
def ltsEq (a b : List Lt) : Bool := decide (a = b)
theorem ltsEq_self (a : List Lt) : ltsEq a a = true := by simp [ltsEq]
theorem lt_ne {a b : List Lt} {k : Nat} {x y : Lt} (hx : a[k]? = some x) (hy : b[k]? = some y) (h : ¬ x = y) : ltsEq a b = false := by
  unfold ltsEq
  rw [decide_eq_false_iff_not]
  rintro rfl
  rw [hx] at hy
  injection hy with hy
  exact h hy

/-- How many values and letters a batch holds, of the first k. -/
def ltSum (l : List Lt) : Nat → Nat
  | 0 => 0
  | k + 1 => ltSum l k + match l[k]? with | none => 0 | some x => x.2.size
def ltBulk (l : List Lt) : Nat := l.length + ltSum l l.length
theorem ltSum_succ {l : List Lt} {k : Nat} {x : Lt} (h : l[k]? = some x) : ltSum l (k + 1) = ltSum l k + x.2.size := by simp [ltSum, h]
theorem ltSum_mono (l : List Lt) {i k : Nat} (h : i ≤ k) : ltSum l i ≤ ltSum l k := by
  induction h with
  | refl => exact Nat.le_refl _
  | step _ ih => exact Nat.le_trans ih (Nat.le_add_right _ _)
theorem ltBulk_all {l : List Lt} {b : Nat} (h : ltBulk l ≤ b) : ∀ x ∈ l, x.2.size ≤ b := by
  intro x hx
  obtain ⟨k, hk, rfl⟩ := List.getElem_of_mem hx
  have h1 := ltSum_succ (List.getElem?_eq_getElem hk)
  have h2 := ltSum_mono l (show k + 1 ≤ l.length from hk)
  unfold ltBulk at h
  omega
theorem ltBulk_len (l : List Lt) : l.length ≤ ltBulk l := Nat.le_add_right _ _
end Go.Proofs.Ytjibjoapbjojlaa
