/-
  What the laws on drawn plans lean on: digits of a rank. No function of the program is named here.
-/
import Derived.Test.YtbfmohkjnjmmoaaDp3
import Derived.Test.YtbfmohkjnjmmoaaRnd
namespace Go.Proofs.Ytbfmohkjnjmmoaa
open Go.RowKit

theorem dig_step {b k : Int} (hb : 2 ≤ b) (hb2 : b ≤ 16) {j : Nat} (hj : j ≤ 3) : k / pw b (j + 1) * b + k / pw b j % b = k / pw b j := by
  have h1 := (pw_bd b j hb hb2 (by omega)).1
  rw [pw_succ, ← Int.ediv_ediv_of_nonneg (by omega)]
  exact Int.ediv_mul_add_emod _ _
theorem dig_top {b k : Int} {j : Nat} (h0 : 0 ≤ k) (h : k < pw b j) : k / pw b j = 0 := Int.ediv_eq_zero_of_lt h0 h
theorem dig_bd {b k : Int} (hb : 2 ≤ b) (hb2 : b ≤ 16) (h0 : 0 ≤ k) (h1 : k ≤ 60) {j : Nat} (hj : j ≤ 4) : 0 ≤ k / pw b j ∧ k / pw b j ≤ 60 := by
  have h2 := (pw_bd b j hb hb2 hj).1
  exact ⟨Int.ediv_nonneg h0 (by omega), Int.le_trans (Int.ediv_le_self _ h0) h1⟩
theorem rank_cases {b p : Int} {l : List Str} {c : Str} {v : Int} (h : rankOf b p l c = v) : v < 0 ∨ ∃ k : Nat, v = k ∧ planOk b p l = true ∧ strIdx l c = some k ∧ k < l.length := by
  unfold rankOf at h
  cases hp : planOk b p l
  · rw [hp] at h; left; rw [← h]; show (-1 : Int) < 0; decide
  · rw [hp] at h
    have h : idxInt (strIdx l c) = v := h
    cases hx : strIdx l c with
    | none => rw [hx] at h; left; rw [← h]; show (-1 : Int) < 0; decide
    | some k => rw [hx] at h; right; exact ⟨k, h.symm, rfl, rfl, strIdx_lt hx⟩
theorem planBin_some {b p : Int} {l : List Str} {c : Str} {k j : Nat} (hp : planOk b p l = true) (hx : strIdx l c = some k) (hj : (j : Int) < p) : planBinOf b p l c j = (k : Int) / pw b j % b := by
  unfold planBinOf passOk
  rw [hp, show decide (0 ≤ (j : Int) ∧ (j : Int) < p) = true from decide_eq_true ⟨by omega, hj⟩]
  show binVal b l c j = _
  unfold binVal
  rw [hx, Int.toNat_natCast]
end Go.Proofs.Ytbfmohkjnjmmoaa
