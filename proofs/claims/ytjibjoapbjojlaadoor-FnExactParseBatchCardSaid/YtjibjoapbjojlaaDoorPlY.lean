/-
  Blocks and lists apart from what a call wrote.
-/
import Derived.Test.YtjibjoapbjojlaaDoorPlW
namespace Go.Proofs.YtjibjoapbjojlaaDoor
open Go.RowKit

theorem turnR_len {b p : Int} {l : List Str} (h : l.length ≤ 1048576) : (turnR b p l).l.length ≤ 1048576 := by
  unfold turnR
  split
  · simpa using h
  · simp [noPlR]
theorem Box.apart {w w' : World} {g g' : Nat} {a b c : Value} (h : Box w g a b c) (hg : w.grownBy w' (some g')) (hne : g ≠ g') : Box w' g a b c :=
  h.kept hg.size (hg.block g h.lt (by intro e; injection e with e; exact hne e))
theorem Box.apartV {w w' : World} {g : Nat} {a b c v : Value} (h : Box w g a b c) (hg : w.grownBy w' v.ownBlock) (hne : ∀ k, v.ownBlock = some k → g ≠ k) : Box w' g a b c :=
  h.kept hg.size (hg.block g h.lt (by intro e; exact hne g e.symm rfl))
theorem Own.apart {α : Type} {w w' : World} {base g' : Nat} {e : TypeId} {size : Nat} {enc : α → List Value} {v : Value} {l : List α} (h : Own w base e size enc v l) (hg : w.grownBy w' (some g')) (hne : ∀ k, v.ownBlock = some k → k ≠ g') : Own w' base e size enc v l := by
  refine h.grown hg ?_
  cases hv : v.ownBlock with
  | none => exact .inl rfl
  | some k => exact .inr (by intro e; injection e with e; exact hne k hv e)
theorem Own.apartV {α : Type} {w w' : World} {base : Nat} {e : TypeId} {size : Nat} {enc : α → List Value} {v u : Value} {l : List α} (h : Own w base e size enc v l) (hg : w.grownBy w' u.ownBlock) (hne : ∀ k, u.ownBlock = some k → v.ownBlock = some k → False) : Own w' base e size enc v l := by
  refine h.grown hg ?_
  cases hv : v.ownBlock with
  | none => exact .inl rfl
  | some k => exact .inr (by intro e; exact hne k e.symm hv)
theorem grown_below_v {w w1 w2 : World} {u : Value} (h : Below w.heap.size w w1) (hg : w1.grownBy w2 u.ownBlock) (hn : ∀ k, u.ownBlock = some k → w.heap.size ≤ k) : Below w.heap.size w w2 :=
  h.trans ⟨hg.os, hg.tape, hg.output, hg.size, fun k hk => hg.block k (by have := h.size; omega) (by intro e; have := hn k e.symm; omega)⟩
end Go.Proofs.YtjibjoapbjojlaaDoor
