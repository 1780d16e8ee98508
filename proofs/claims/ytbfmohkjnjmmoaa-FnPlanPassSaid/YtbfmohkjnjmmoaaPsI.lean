/-
  Lists of numbers: the laws' own helpers; the loads of bins: the program's and the reference's.
-/
import Derived.Test.YtbfmohkjnjmmoaaPsG
namespace Go.Proofs.Ytbfmohkjnjmmoaa
open Go.RowKit

def intEnc (x : Int) : List Value := [.int .i64 x]
theorem intEnc_len (x : Int) : (intEnc x).length = 1 := rfl
theorem int_info : (Try.prog.info? 3).map (fun i => (i.zero, i.size, i.bytes)) = some (some (.int .i64 0), 1, 8) := by kernel_rfl
def intsEq (a b : List Int) : Bool := decide (a = b)
theorem intsEq_self (a : List Int) : intsEq a a = true := by simp [intsEq]
def intMks (k n : Nat) : List Int := (List.range n).map fun i => ((k + i : Nat) : Int)
theorem intMks_len (k n : Nat) : (intMks k n).length = n := by simp [intMks]
theorem intMks_at {k n i : Nat} (h : i < n) : (intMks k n)[i]? = some ((k + i : Nat) : Int) := by simp [intMks, h]
theorem intMks_step {k n i : Nat} {l : List Int} (hl : l.length = n) (h : i < n) : (intMks k i ++ l.drop i).set i ((k + i : Nat) : Int) = intMks k (i + 1) ++ l.drop (i + 1) := by
  rw [List.set_append_right _ _ (by rw [intMks_len]; omega), intMks_len, Nat.sub_self, List.drop_eq_getElem_cons (by omega), List.set_cons_zero]
  simp [intMks, List.range_succ]
end Go.Proofs.Ytbfmohkjnjmmoaa
