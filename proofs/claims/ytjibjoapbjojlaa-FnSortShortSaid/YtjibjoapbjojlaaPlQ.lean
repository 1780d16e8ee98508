/-
  Is a plan valid: the program's and the reference's; the laws' own helpers on plans.
-/
import Derived.Test.YtjibjoapbjojlaaPlA
import Derived.Test.YtjibjoapbjojlaaPlL
import Derived.Test.YtjibjoapbjojlaaCap0
namespace Go.Proofs.Ytjibjoapbjojlaa
open Go.RowKit

theorem quiet_eq {P : Program} {f : FuncId} {args : Array Value} {w : World} {n : Nat} {v : Value}
    (h : Calls P f args (w.drewN n) fun e w' => e = .returned v ∧ w.drewN n = w') : Calls P f args (w.drewN n) fun e w'' => e = .returned v ∧ ∃ m, w'' = w.drewN m :=
  h.mono fun _ _ ⟨he, hm⟩ => ⟨he, n, hm.symm⟩

def planOk (b p : Int) (l : List Str) : Bool := binsOk b && passesOk p && decide (1 ≤ l.length ∧ l.length ≤ 60) && decide ((l.length : Int) ≤ pw b p.toNat) && cdsOk l
theorem planOk_parts {b p : Int} {l : List Str} (h : planOk b p l = true) : (2 ≤ b ∧ b ≤ 16) ∧ (1 ≤ p ∧ p ≤ 4) ∧ (1 ≤ l.length ∧ l.length ≤ 60) ∧ (l.length : Int) ≤ pw b p.toNat ∧ cdsOk l = true := by
  unfold planOk binsOk passesOk at h
  simp only [Bool.and_eq_true, decide_eq_true_eq] at h
  exact ⟨h.1.1.1.1, h.1.1.1.2, h.1.1.2, h.1.2, h.2⟩

/-- Is text i no earlier one, among the first k? -/
theorem cdOkAt_old {l : List Str} {i k : Nat} {x : Str} (hx : l[i]? = some x) (hk : k < i) (hy : l[k]? = some x) : cdOkAt l i = false := by
  rw [cdOkAt_eq hx]
  cases h : strIdx (l.take i) x with
  | none => exact absurd rfl (strIdx_none.1 h k x (by rw [List.getElem?_take, if_pos hk]; exact hy))
  | some m => simp
theorem cdOkAt_new {l : List Str} {i : Nat} {x : Str} (hx : l[i]? = some x) (hc : codeOk x = true) (h : ∀ (j : Nat) (y : Str), j < i → l[j]? = some y → ¬ y = x) : cdOkAt l i = true := by
  rw [cdOkAt_eq hx, hc]
  rw [show strIdx (l.take i) x = none from strIdx_none.2 fun j y hy => by
    rw [List.getElem?_take] at hy
    split at hy
    · exact h j y (by assumption) hy
    · cases hy]
  rfl
end Go.Proofs.Ytjibjoapbjojlaa
