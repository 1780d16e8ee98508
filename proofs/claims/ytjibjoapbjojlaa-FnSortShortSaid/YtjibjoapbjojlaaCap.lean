/-
  The capacity functions of the program and of the reference: both compute the same power, for all arguments in bounds; outside both answer -1.
-/
import Derived.Test.YtjibjoapbjojlaaCap0
namespace Go.Proofs.Ytjibjoapbjojlaa
open Go.RowKit

/-- The first of some numbers that will do. -/
def firstFrom (f : Int → Bool) (i : Int) : Nat → Int
  | 0 => -1
  | n + 1 => if f i then i else firstFrom f (i + 1) n
def lbOf (c p : Int) : Int := if decide (0 ≤ c) && passesOk p then firstFrom (fun b => decide (c ≤ pw b p.toNat)) 2 15 else -1
def lpOf (c b : Int) : Int := if decide (0 ≤ c) && binsOk b then firstFrom (fun p => decide (c ≤ pw b p.toNat)) 1 4 else -1

theorem firstFrom_hit {f : Int → Bool} {i : Int} {n : Nat} (hn : 0 < n) (h : f i = true) : firstFrom f i n = i := by
  cases n with
  | zero => omega
  | succ n => simp [firstFrom, h]
theorem firstFrom_miss {f : Int → Bool} {i : Int} {n m : Nat} (hn : n = m + 1) (h : f i = false) : firstFrom f i n = firstFrom f (i + 1) m := by
  subst hn; simp [firstFrom, h]
theorem firstFrom_end {f : Int → Bool} {i : Int} {n : Nat} (hn : n = 0) : firstFrom f i n = -1 := by subst hn; rfl
end Go.Proofs.Ytjibjoapbjojlaa
