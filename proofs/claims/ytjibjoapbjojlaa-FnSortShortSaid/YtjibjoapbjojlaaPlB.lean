/-
  The place and the bin of a code: the program's and the reference's.
-/
import Derived.Test.YtjibjoapbjojlaaPlX1
namespace Go.Proofs.Ytjibjoapbjojlaa
open Go.RowKit

def rankOf (b p : Int) (l : List Str) (c : Str) : Int := if planOk b p l then idxInt (strIdx l c) else -1

def binVal (b : Int) (l : List Str) (c : Str) (pass : Int) : Int := match strIdx l c with
  | none => -1
  | some k => (k : Int) / pw b pass.toNat % b

theorem passIn (pass p : Int) (w : World) : Calls Try.prog 26 #[.int .i64 pass, .int .i64 0, .int .i64 (p - 1)] w fun e w' => e = .returned (.bool (decide (0 ≤ pass ∧ pass < p))) ∧ w = w' := by
  have := l1In_any pass 0 (p - 1) w
  rwa [show decide (0 ≤ pass ∧ pass ≤ p - 1) = decide (0 ≤ pass ∧ pass < p) from by rw [decide_eq_decide]; omega] at this

def passOk (b p : Int) (l : List Str) (pass : Int) : Bool := planOk b p l && decide (0 ≤ pass ∧ pass < p)
theorem passOk_parts {b p : Int} {l : List Str} {pass : Int} (h : passOk b p l pass = true) : (2 ≤ b ∧ b ≤ 16) ∧ 0 ≤ pass ∧ pass < p ∧ p ≤ 4 := by
  unfold passOk at h
  simp only [Bool.and_eq_true, decide_eq_true_eq] at h
  have := planOk_parts h.1
  omega
def planBinOf (b p : Int) (l : List Str) (c : Str) (pass : Int) : Int := if passOk b p l pass then binVal b l c pass else -1
end Go.Proofs.Ytjibjoapbjojlaa
