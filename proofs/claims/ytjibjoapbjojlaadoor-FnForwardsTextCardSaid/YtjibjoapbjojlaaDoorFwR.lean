/-
  Removing and adding orders: the program's withoutOrder, RemoveForward, AddForward and the reference's.
-/
import Derived.Test.YtjibjoapbjojlaaDoorFwC
import Derived.Test.YtjibjoapbjojlaaDoorFwL
namespace Go.Proofs.YtjibjoapbjojlaaDoor
open Go.RowKit

/-- The first k orders without the one with an index. -/
def dropTo (l : List Fw) (at_ : Int) : Nat → List Fw
  | 0 => []
  | k + 1 => if (k : Int) = at_ then dropTo l at_ k else dropTo l at_ k ++ (l[k]?).toList
theorem dropTo_len (l : List Fw) (at_ : Int) : ∀ k, (dropTo l at_ k).length ≤ k
  | 0 => Nat.le_refl _
  | k + 1 => by
    have := dropTo_len l at_ k
    unfold dropTo
    split
    · omega
    · cases l[k]? <;> simp <;> omega
theorem dropTo_skip {l : List Fw} {at_ : Int} {k : Nat} (h : (k : Int) = at_) : dropTo l at_ (k + 1) = dropTo l at_ k := by simp only [dropTo, if_pos h]
theorem dropTo_take {l : List Fw} {at_ : Int} {k : Nat} {x : Fw} (h : ¬ (k : Int) = at_) (hx : l[k]? = some x) : dropTo l at_ (k + 1) = dropTo l at_ k ++ [x] := by simp only [dropTo, if_neg h, hx, Option.toList]

theorem fwEnc_one (x : Fw) : ∀ u ∈ fwEnc x, u.oneCell' = true := by
  intro u hu
  simp [fwEnc] at hu
  rcases hu with rfl | rfl <;> rfl
theorem fwEnc_cells {w : World} {g : Nat} {t : TypeId} (x : Fw) (hg : g = w.heap.size) : ∀ j u, (fwEnc x)[j]? = some u → (w.alloc (.cells #[.string x.1, .string x.2] t)).cell? ((⟨g, 0, none⟩ : Addr).add j) = some u := by
  subst hg
  intro j u hu
  match j, hu with
  | 0, hu => simp [fwEnc] at hu; subst hu; simp [Addr.add]
  | 1, hu => simp [fwEnc] at hu; subst hu; simp [Addr.add]

/-- What is left without the order for a code. -/
def removeOf (l : List Fw) (c : Str) : Option (List Fw) := if fwsOk l then (fwIdx l c).map fun k => dropTo l k l.length else none
/-- A list of orders or none: as two results. -/
def FwRes (w w' : World) (r : Option (List Fw)) (e : Ending) : Prop :=
  ∃ (A : Option Addr) (n c : Nat), e = .returned (.tuple #[.slice A n c, .bool r.isSome]) ∧ Own w' w.heap.size 79 2 fwEnc (.slice A n c) (r.getD []) ∧ Below w.heap.size w w'

theorem FwRes.none_ {w w' : World} (hb : Below w.heap.size w w') : FwRes w w' none (.returned (.tuple #[.slice none 0 0, .bool false])) := ⟨none, 0, 0, rfl, Own.nil_ _ _ _ _ _, hb⟩
theorem FwRes.none_lit {w w1 : World} (hb : Below w.heap.size w w1) : FwRes w (w1.alloc (.cells #[] 79)) none (.returned (.tuple #[.slice (some ⟨w1.heap.size, 0, none⟩) 0 0, .bool false])) :=
  ⟨_, 0, 0, rfl, (Own.lit0 _ _ _ _).lower hb.size, hb.alloc hb.size _⟩
theorem FwRes.some_ {w w' : World} {A : Option Addr} {n c : Nat} {l : List Fw} (h : Own w' w.heap.size 79 2 fwEnc (.slice A n c) l) (hb : Below w.heap.size w w') : FwRes w w' (some l) (.returned (.tuple #[.slice A n c, .bool true])) := ⟨A, n, c, rfl, h, hb⟩
end Go.Proofs.YtjibjoapbjojlaaDoor
