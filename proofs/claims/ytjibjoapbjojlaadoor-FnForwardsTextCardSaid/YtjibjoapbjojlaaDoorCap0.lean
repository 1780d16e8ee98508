/-
  Bins, passes and their power: the program's and the reference's, for all arguments in bounds.
-/
import Derived.Test.YtjibjoapbjojlaaDoorW
namespace Go.Proofs.YtjibjoapbjojlaaDoor
open Go.RowKit

/-- The power of a few passes. -/
def pw (b : Int) : Nat → Int
  | 0 => 1
  | k + 1 => pw b k * b

theorem pw_all : ∀ b : Fin 17, ∀ k : Fin 5, 2 ≤ b.val → 1 ≤ pw (b.val : Int) k.val ∧ pw (b.val : Int) k.val ≤ 65536 := by decide
theorem pw_bd (b : Int) (k : Nat) (h1 : 2 ≤ b) (h2 : b ≤ 16) (hk : k ≤ 4) : 1 ≤ pw b k ∧ pw b k ≤ 65536 := by
  have h := pw_all ⟨b.toNat, by omega⟩ ⟨k, by omega⟩ (by simp; omega)
  rw [show ((⟨b.toNat, by omega⟩ : Fin 17).val : Int) = b from by simp; omega] at h
  exact h

def binsOk (b : Int) : Bool := decide (2 ≤ b ∧ b ≤ 16)
def passesOk (p : Int) : Bool := decide (1 ≤ p ∧ p ≤ 4)
/-- The capacity. -/
def capOf (b p : Int) : Int := if binsOk b && passesOk p then pw b p.toNat else -1

theorem binsValid_any (b : Int) (w : World) :
    Calls Tryd.prog 55 #[.int .i64 b] w fun e w' => e = .returned (.bool (binsOk b)) ∧ w = w' := by
  by_cases h1 : 2 ≤ b <;> by_cases h2 : b ≤ 16
  all_goals
    go_enter Tryd.func55, Tryd.ntmps55
    go_wp2
    go_ret
    exact ⟨by simp [binsOk, h1, h2], rfl⟩

theorem passesValid_any (b : Int) (w : World) :
    Calls Tryd.prog 56 #[.int .i64 b] w fun e w' => e = .returned (.bool (passesOk b)) ∧ w = w' := by
  by_cases h1 : 1 ≤ b <;> by_cases h2 : b ≤ 4
  all_goals
    go_enter Tryd.func56, Tryd.ntmps56
    go_wp2
    go_ret
    exact ⟨by simp [passesOk, h1, h2], rfl⟩

theorem pw_succ (b : Int) (k : Nat) : pw b (k + 1) = pw b k * b := rfl

theorem binPower_nat (b : Int) (p : Nat) (h1 : 2 ≤ b) (h2 : b ≤ 16) (h4 : p ≤ 4) (w : World) :
    Calls Tryd.prog 83 #[.int .i64 b, .int .i64 p] w fun e w' => e = .returned (.int .i64 (pw b p)) ∧ w = w' := by
  go_enter Tryd.func83, Tryd.ntmps83
  go_wp2
  go_loop [5, 7] (fun t i => ∃ k : Nat, k ≤ p ∧ i = .int .i64 k ∧ t = .int .i64 (pw b k)) (fun _ i => p - (intOf i).toNat)
  case atStart => exact ⟨0, Nat.zero_le _, rfl, rfl⟩
  case round =>
    obtain ⟨k, hk, rfl, rfl⟩ := hrel
    by_cases hlt : k < p
    · have e1 := pw_bd b (k + 1) h1 h2 (by omega)
      have e2 := pw_bd b k h1 h2 (by omega)
      rw [pw_succ] at e1
      obtain ⟨e3, e4⟩ := e1
      go_wp2
      go_round
      case rel => exact ⟨k + 1, by omega, by go_num, by first | rfl | (rw [pw_succ]; go_num)⟩
      case measure => simp [intOf]; omega
    · obtain rfl : k = p := by omega
      go_wp2
      go_ret
      exact ⟨rfl, rfl⟩

theorem l3Power_nat (b : Int) (p : Nat) (h1 : 2 ≤ b) (h2 : b ≤ 16) (h4 : p ≤ 4) (w : World) :
    Calls Tryd.prog 82 #[.int .i64 b, .int .i64 p] w fun e w' => e = .returned (.int .i64 (pw b p)) ∧ w = w' := by
  go_enter Tryd.func82, Tryd.ntmps82
  go_wp2
  go_loop [5, 6] (fun t i => ∃ k : Nat, k ≤ p ∧ i = .int .i64 k ∧ t = .int .i64 (pw b k)) (fun _ i => p - (intOf i).toNat)
  case atStart => exact ⟨0, Nat.zero_le _, rfl, rfl⟩
  case round =>
    obtain ⟨k, hk, rfl, rfl⟩ := hrel
    by_cases hlt : k < p
    · have e1 := pw_bd b (k + 1) h1 h2 (by omega)
      have e2 := pw_bd b k h1 h2 (by omega)
      rw [pw_succ] at e1
      obtain ⟨e3, e4⟩ := e1
      go_wp2
      go_round
      case rel => exact ⟨k + 1, by omega, by go_num, by rw [pw_succ]⟩
      case measure => simp [intOf]; omega
    · obtain rfl : k = p := by omega
      go_wp2
      go_ret
      exact ⟨rfl, rfl⟩

theorem l1In_any (n a b : Int) (w : World) :
    Calls Tryd.prog 77 #[.int .i64 n, .int .i64 a, .int .i64 b] w fun e w' => e = .returned (.bool (decide (a ≤ n ∧ n ≤ b))) ∧ w = w' := by
  by_cases h1 : a ≤ n <;> by_cases h2 : n ≤ b
  all_goals
    go_enter Tryd.func77, Tryd.ntmps77
    go_wp2
    go_ret
    exact ⟨by simp [h1, h2], rfl⟩

theorem l3Shape_any (b p : Int) (w : World) :
    Calls Tryd.prog 81 #[.int .i64 b, .int .i64 p] w fun e w' => e = .returned (.bool (binsOk b && passesOk p)) ∧ w = w' := by
  by_cases h1 : 2 ≤ b <;> by_cases h2 : b ≤ 16 <;> by_cases h3 : 1 ≤ p <;> by_cases h4 : p ≤ 4
  all_goals
    go_enter Tryd.func81, Tryd.ntmps81
    go_wp2
    go_ret
    exact ⟨by simp [binsOk, passesOk, h1, h2, h3, h4], rfl⟩

theorem binPower_any (b p : Int) (h1 : 2 ≤ b) (h2 : b ≤ 16) (h3 : 0 ≤ p) (h4 : p ≤ 4) (w : World) :
    Calls Tryd.prog 83 #[.int .i64 b, .int .i64 p] w fun e w' => e = .returned (.int .i64 (pw b p.toNat)) ∧ w = w' := by
  have h := binPower_nat b p.toNat h1 h2 (by omega) w
  rwa [Int.toNat_of_nonneg h3] at h
theorem l3Power_any (b p : Int) (h1 : 2 ≤ b) (h2 : b ≤ 16) (h3 : 0 ≤ p) (h4 : p ≤ 4) (w : World) :
    Calls Tryd.prog 82 #[.int .i64 b, .int .i64 p] w fun e w' => e = .returned (.int .i64 (pw b p.toNat)) ∧ w = w' := by
  have h := l3Power_nat b p.toNat h1 h2 (by omega) w
  rwa [Int.toNat_of_nonneg h3] at h

theorem binsOk_iff (b : Int) : binsOk b = true ↔ 2 ≤ b ∧ b ≤ 16 := by simp [binsOk]
theorem passesOk_iff (b : Int) : passesOk b = true ↔ 1 ≤ b ∧ b ≤ 4 := by simp [passesOk]

theorem implCapacityOf (b p : Int) (w : World) :
    Calls Tryd.prog 57 #[.int .i64 b, .int .i64 p] w fun e w' => e = .returned (.int .i64 (capOf b p)) ∧ w = w' := by
  cases hb : binsOk b <;> cases hp : passesOk p
  all_goals
    have Hc : Hid (capOf b p = if binsOk b && passesOk p then pw b p.toNat else -1) := rfl
    have hb' := hb
    have hp' := hp
    simp only [binsOk, passesOk, decide_eq_true_eq, decide_eq_false_iff_not] at hb' hp'
    go_enter Tryd.func57, Tryd.ntmps57
    go_wp2_with (first
      | (go_at_call 55; refine (binsValid_any _ _).mono ?_; rintro e w' ⟨rfl, rfl⟩)
      | (go_at_call 56; refine (passesValid_any _ _).mono ?_; rintro e w' ⟨rfl, rfl⟩)
      | (go_at_call 83; refine (binPower_any _ _ (by omega) (by omega) (by omega) (by omega) _).mono ?_; rintro e w' ⟨rfl, rfl⟩))
    go_ret
    exact ⟨by rw [Hc.out, hb, hp]; rfl, rfl⟩
end Go.Proofs.YtjibjoapbjojlaaDoor
