/-
  The laws' own helpers on orders: copies, comparison, size.
-/
import Derived.Test.YtjibjoapbjojlaaDoorFwC
namespace Go.Proofs.YtjibjoapbjojlaaDoor
open Go.RowKit

theorem fw_info : (Tryd.prog.info? 79).map (fun i => (i.zero, i.size, i.bytes)) = some (some (.agg #[.string ByteArray.empty, .string ByteArray.empty]), 2, 32) := by kernel_rfl
def zeroFw : Fw := (ByteArray.empty, ByteArray.empty)

theorem fw_ne {a b : List Fw} {k : Nat} {x y : Fw} (hx : a[k]? = some x) (hy : b[k]? = some y) (h : ¬ x = y) : ¬ a = b := by
  rintro rfl
  rw [hx] at hy
  injection hy with hy
  exact h hy

/-- How many values and letters orders hold, of the first k. -/
def fwSum (l : List Fw) : Nat → Nat
  | 0 => 0
  | k + 1 => fwSum l k + match l[k]? with | none => 0 | some x => x.1.size + x.2.size
def fwBulk (l : List Fw) : Nat := l.length + fwSum l l.length
theorem fwSum_succ {l : List Fw} {k : Nat} {x : Fw} (h : l[k]? = some x) : fwSum l (k + 1) = fwSum l k + (x.1.size + x.2.size) := by simp [fwSum, h]
theorem fwSum_mono (l : List Fw) {i k : Nat} (h : i ≤ k) : fwSum l i ≤ fwSum l k := by
  induction h with
  | refl => exact Nat.le_refl _
  | step _ ih => exact Nat.le_trans ih (Nat.le_add_right _ _)
theorem fwBulk_len (l : List Fw) : l.length ≤ fwBulk l := Nat.le_add_right _ _
theorem fwBulk_all {l : List Fw} {b : Nat} (h : fwBulk l ≤ b) : ∀ x ∈ l, x.1.size ≤ b ∧ x.2.size ≤ b := by
  intro x hx
  obtain ⟨k, hk, rfl⟩ := List.getElem_of_mem hx
  have h1 := fwSum_succ (List.getElem?_eq_getElem hk)
  have h2 := fwSum_mono l (show k + 1 ≤ l.length from hk)
  unfold fwBulk at h
  omega
end Go.Proofs.YtjibjoapbjojlaaDoor
