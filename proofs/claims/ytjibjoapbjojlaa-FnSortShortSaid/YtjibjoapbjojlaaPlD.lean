/-
  A batch on a plan: in order? how often handled?
-/
import Derived.Test.YtjibjoapbjojlaaPlT
import Derived.Test.YtjibjoapbjojlaaPlB
namespace Go.Proofs.Ytjibjoapbjojlaa
open Go.RowKit

def readyOk (b p : Int) (l : List Str) (m : List Lt) : Bool := planOk b p l && batchOk m

/-- Do the places of letters never fall? -/
def ordOk (l : List Str) : Int → List Lt → Bool
  | _, [] => true
  | last, x :: r => if idxInt (strIdx l x.2) < last then false else ordOk l (idxInt (strIdx l x.2)) r
def inOrd (b p : Int) (l : List Str) (m : List Lt) : Bool := readyOk b p l m && ordOk l 0 m
theorem ord_at {l : List Str} {m : List Lt} {k : Nat} {x : Lt} {v last : Int} (hx : m[k]? = some x) (hv : idxInt (strIdx l x.2) = v) : ordOk l last (m.drop k) = if v < last then false else ordOk l v (m.drop (k + 1)) := by
  obtain ⟨hk, rfl⟩ := List.getElem?_eq_some_iff.1 hx
  rw [List.drop_eq_getElem_cons hk]
  show (if idxInt (strIdx l m[k].2) < last then false else _) = _
  rw [hv]
theorem ord_end {l : List Str} {m : List Lt} {last : Int} {k : Nat} (h : k = m.length) : ordOk l last (m.drop k) = true := by
  rw [h, List.drop_length]; rfl
end Go.Proofs.Ytjibjoapbjojlaa
