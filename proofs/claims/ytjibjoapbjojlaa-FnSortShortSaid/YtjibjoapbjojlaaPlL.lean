/-
  The laws' own helpers on texts and plans: copies, comparison, size.
-/
import Derived.Test.YtjibjoapbjojlaaPlM
namespace Go.Proofs.Ytjibjoapbjojlaa
open Go.RowKit

theorem str_info : (Try.prog.info? 9).map (fun i => (i.zero, i.size, i.bytes)) = some (some (.string ByteArray.empty), 1, 16) := by kernel_rfl
theorem made1 (a : Value) (n : Nat) : (madeCells #[a] (n * 1)).toList = (List.replicate n ()).flatMap fun _ => [a] := by
  have h : ∀ m : Nat, (madeCells #[a] m).toList = (List.range m).map fun i => (#[a] : Array Value)[i % 1]! := fun m => by simp [madeCells]
  rw [h, Nat.mul_one]
  induction n with
  | zero => rfl
  | succ n ih =>
    rw [List.range_succ, List.map_append, ih, List.replicate_succ', List.flatMap_append]
    simp [Nat.mod_one]
theorem take_set_rep {α : Type} {z x : α} {l : List α} {k : Nat} (hx : l[k]? = some x) : (l.take k ++ List.replicate (l.length - k) z).set k x = l.take (k + 1) ++ List.replicate (l.length - (k + 1)) z := by
  have hk := (List.getElem?_eq_some_iff.1 hx).1
  rw [List.set_append_right _ _ (by rw [List.length_take]; omega), List.length_take, show k - min k l.length = 0 from by omega, show l.length - k = (l.length - (k + 1)) + 1 from by omega, List.replicate_succ, List.set_cons_zero, List.take_add_one, hx]
  simp

/-- Equality of lists, as a Bool that the walk does not open. -/
def strsEq (a b : List Str) : Bool := decide (a = b)
theorem strsEq_self (a : List Str) : strsEq a a = true := by simp [strsEq]
theorem str_ne {a b : List Str} {k : Nat} {x y : Str} (hx : a[k]? = some x) (hy : b[k]? = some y) (h : ¬ x = y) : strsEq a b = false := by
  unfold strsEq
  simp only [decide_eq_false_iff_not]
  rintro rfl
  rw [hx] at hy
  injection hy with hy
  exact h hy

/-- How many values and letters texts hold, of the first k. -/
def strSum (l : List Str) : Nat → Nat
  | 0 => 0
  | k + 1 => strSum l k + match l[k]? with | none => 0 | some x => x.size
def strBulk (l : List Str) : Nat := l.length + strSum l l.length
theorem strSum_succ {l : List Str} {k : Nat} {x : Str} (h : l[k]? = some x) : strSum l (k + 1) = strSum l k + x.size := by simp [strSum, h]
theorem strSum_mono (l : List Str) {i k : Nat} (h : i ≤ k) : strSum l i ≤ strSum l k := by
  induction h with
  | refl => exact Nat.le_refl _
  | step _ ih => exact Nat.le_trans ih (Nat.le_add_right _ _)
theorem strBulk_all {l : List Str} {b : Nat} (h : strBulk l ≤ b) : ∀ x ∈ l, x.size ≤ b := by
  intro x hx
  obtain ⟨k, hk, rfl⟩ := List.getElem_of_mem hx
  have h1 := strSum_succ (List.getElem?_eq_getElem hk)
  have h2 := strSum_mono l (show k + 1 ≤ l.length from hk)
  unfold strBulk at h
  omega
theorem strBulk_len (l : List Str) : l.length ≤ strBulk l := Nat.le_add_right _ _
end Go.Proofs.Ytjibjoapbjojlaa
