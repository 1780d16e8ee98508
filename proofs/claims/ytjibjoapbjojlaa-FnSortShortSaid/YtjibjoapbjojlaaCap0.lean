/-
  Bins, passes and their power: the program's and the reference's, for all arguments in bounds.
-/
import Derived.Test.YtjibjoapbjojlaaW
namespace Go.Proofs.Ytjibjoapbjojlaa
open Go.RowKit

/-- The power of a few passes. -/
def pw (b : Int) : Nat → Int
  | 0 => 1
  | k + 1 => pw b k * b

theorem pw_all : ∀ b : Fin 17, ∀ k : Fin 5, 2 ≤ b.val → 1 ≤ pw (b.val : Int) k.val ∧ pw (b.val : Int) k.val ≤ 65536 := by decide
theorem pw_bd (b : Int) (k : Nat) (h1 : 2 ≤ b) (h2 : b ≤ 16) (hk : k ≤ 4) : 1 ≤ pw b k ∧ pw b k ≤ 65536 := by
  have h := pw_all ⟨b.toNat, by omega⟩ ⟨k, by omega⟩ (by simp; omega)
  rw [show ((⟨b.toNat, by omega⟩ : Fin 17).val : Int) = b from by simp; omega] at h
  exact h

def binsOk (b : Int) : Bool := decide (2 ≤ b ∧ b ≤ 16)
def passesOk (p : Int) : Bool := decide (1 ≤ p ∧ p ≤ 4)
/-- The capacity. -/
def capOf (b p : Int) : Int := if binsOk b && passesOk p then pw b p.toNat else -1

theorem pw_succ (b : Int) (k : Nat) : pw b (k + 1) = pw b k * b := rfl

theorem l1In_any (n a b : Int) (w : World) :
    Calls Try.prog 26 #[.int .i64 n, .int .i64 a, .int .i64 b] w fun e w' => e = .returned (.bool (decide (a ≤ n ∧ n ≤ b))) ∧ w = w' := by
  by_cases h1 : a ≤ n <;> by_cases h2 : n ≤ b
  all_goals
    go_enter Try.func26, Try.ntmps26
    go_wp2
    go_ret
    exact ⟨by simp [h1, h2], rfl⟩

theorem binsOk_iff (b : Int) : binsOk b = true ↔ 2 ≤ b ∧ b ≤ 16 := by simp [binsOk]
theorem passesOk_iff (b : Int) : passesOk b = true ↔ 1 ≤ b ∧ b ≤ 4 := by simp [passesOk]
end Go.Proofs.Ytjibjoapbjojlaa
