/-
  Two lists of orders that send all letters to the same ends: the program's SameForwards and the reference's.
-/
import Derived.Test.YtbfmohkjnjmmoaaConFw
namespace Go.Proofs.Ytbfmohkjnjmmoaa
open Go.RowKit

def endS (r : Option (Str × Nat)) : Str := match r with
  | none => ByteArray.empty
  | some p => p.1
def endN (r : Option (Str × Nat)) : Nat := match r with
  | none => 0
  | some p => p.2
theorem resVal_eq (r : Option (Str × Nat)) : resVal r = .tuple #[.string (endS r), .int .i64 (endN r : Nat), .bool r.isSome] := by
  cases r <;> rfl
/-- Do letters for a code end alike? -/
def sameAt (a b : List Fw) (c : Str) : Bool := decide ((follow a c).isSome = (follow b c).isSome) && decide (endS (follow a c) = endS (follow b c))
def sameOf (a b : List Fw) : Bool := fwsOk a && fwsOk b && (a ++ b).all fun x => sameAt a b x.1
theorem sameOf_bad {a b : List Fw} {k : Nat} {x : Fw} (h : (a ++ b)[k]? = some x) (hb : sameAt a b x.1 = false) : sameOf a b = false := by
  unfold sameOf
  cases ha : (a ++ b).all fun x => sameAt a b x.1
  · simp
  · have := List.all_eq_true.1 ha x (List.mem_of_getElem? h)
    rw [hb] at this; cases this
theorem sameOf_good {a b : List Fw} (ha : fwsOk a = true) (hb : fwsOk b = true) (h : ∀ (k : Nat) (x : Fw), k < (a ++ b).length → (a ++ b)[k]? = some x → sameAt a b x.1 = true) : sameOf a b = true := by
  unfold sameOf
  rw [ha, hb]
  simp only [Bool.true_and]
  refine List.all_eq_true.2 fun x hx => ?_
  obtain ⟨k, hk, rfl⟩ := List.getElem_of_mem hx
  exact h k _ hk (List.getElem?_eq_getElem hk)
end Go.Proofs.Ytbfmohkjnjmmoaa
