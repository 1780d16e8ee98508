/-
  The draw of the law on letters in order.
-/
import Derived.Test.YtfilggdiljpakaaDq2
import Derived.Test.YtfilggdiljpakaaEq
namespace Go.Proofs.Ytfilggdiljpakaa
open Go.RowKit

theorem LtRet2.open {f k : List Lt} {ok : Bool} {w w' : World} {e : Ending} (h : LtRet2 ⟨f, k, ok⟩ w e w') :
    ∃ A n c A' n' c', e = .returned (.tuple #[.slice A n c, .slice A' n' c', .bool ok]) ∧ Own w' w.heap.size 41 2 ltEnc (.slice A n c) f ∧ Own w' w.heap.size 41 2 ltEnc (.slice A' n' c') k ∧ (∀ g, (Value.slice A n c).ownBlock = some g → (Value.slice A' n' c').ownBlock = some g → False) ∧ Below w.heap.size w w' := h
theorem run_true {b p : Int} {l : List Str} {m f k : List Lt} (h : runR b p l m = ⟨f, k, true⟩) : planOk b p l = true ∧ batchOk m = true := by
  cases h1 : planOk b p l
  · unfold runR at h; rw [h1] at h; cases h
  · cases h2 : batchOk m
    · rw [run_bad h2] at h; cases h
    · exact ⟨rfl, rfl⟩
theorem nil_cap {α : Type} {w : World} {base n c : Nat} {e : TypeId} {size : Nat} {enc : α → List Value} {A : Option Addr} {l : List α} (h : Own w base e size enc (.slice A n c) l) : A = none → c = 0 := by
  rintro rfl
  rcases h.2 with ⟨hv, _⟩ | ⟨g, cap, cur, hv, _⟩
  · injection hv
  · injection hv with e1 e2 e3
    cases e1
end Go.Proofs.Ytfilggdiljpakaa
