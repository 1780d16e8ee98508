/-
  Rows of elements of some cells, sorted in place: between the slices of the walk's own and the sort's words. No function of the program is named here.
-/
import Derived.Test.YtjibjoapbjojlaaPool
import Derived.Lib.OwnBridge
import Derived.Shelf.SlSortCmp.InsertionK
namespace Go.Proofs.Ytjibjoapbjojlaa
open Go.RowKit Go.Sort

section
variable {α : Type} [Inhabited α] {enc : α → List Value} {k : Nat}
theorem flatK_toList (hk : 0 < k) (hs : ∀ x, (enc x).length = k) (l : List α) : (flatK enc k l.toArray).toList = l.flatMap enc := by
  refine List.ext_getElem? fun j => ?_
  by_cases hj : j < l.length * k
  · have hi : j / k < l.length := Nat.div_lt_of_lt_mul (by rw [Nat.mul_comm]; exact hj)
    have h1 := flatMap_at hs l (j / k) l[j / k] (List.getElem?_eq_getElem hi) (j % k) (Nat.mod_lt _ hk)
    rw [Nat.div_add_mod'] at h1
    rw [h1, Array.getElem?_toList, Array.getElem?_eq_getElem (by rw [size_flatK]; simpa using hj)]
    have h2 := get_flatK enc k l.toArray j (by simpa using hj)
    rw [getElem!_pos _ j (by rw [size_flatK]; simpa using hj)] at h2
    rw [h2]
    have h3 : (l.toArray)[j / k]! = l[j / k] := by simp [hi]
    have h4 : j % k < (enc l[j / k]).length := by rw [hs]; exact Nat.mod_lt _ hk
    rw [h3, List.getElem?_eq_getElem h4]
    simp [h4]
  · rw [List.getElem?_eq_none (by rw [Array.length_toList, size_flatK]; simp; omega), List.getElem?_eq_none (by rw [flat_len hs]; omega)]
theorem holdsK_of_own (hk : 0 < k) (hs : ∀ x, (enc x).length = k) {w : World} {base g n cap : Nat} {e : TypeId} {l : List α} (h : Own w base e k enc (.slice (some ⟨g, 0, none⟩) n cap) l) : HoldsK enc k w g 0 l.toArray := by
  intro j hj
  rw [size_flatK, List.size_toArray] at hj
  have hn := h.len
  have hr : w.ownsRow base e k (.slice (some ⟨g, 0, none⟩) n cap) n (l.flatMap enc) := by have := h; unfold Own at this; rw [← hn] at this; exact this
  have hF := flatK_toList hk hs l
  refine ⟨?_, by rw [Nat.zero_add]; exact World.ownsRow.frozenAt hr j⟩
  rw [Nat.zero_add, World.ownsRow.cellAt hr j (by rw [hn]; exact hj), ← hF, Array.getElem?_toList, Array.getElem?_eq_getElem (by rw [size_flatK, List.size_toArray]; exact hj)]
  rw [getElem!_pos _ j (by rw [size_flatK, List.size_toArray]; exact hj)]
  rfl
theorem own_putRowK (hk : 0 < k) (hs : ∀ x, (enc x).length = k) {w : World} {base g n cap q : Nat} {e : TypeId} {l l' : List α} (h : Own w base e k enc (.slice (some ⟨g, 0, none⟩) n cap) l) (hl : l'.length = l.length) :
    Own (putRowK enc k (Sort.ahead w q) g 0 l'.toArray) base e k enc (.slice (some ⟨g, 0, none⟩) n cap) l' := by
  have hn := h.len
  rcases h.2 with ⟨e0, _⟩ | ⟨g', cap', cur, e0, hb, hg, hnc, hm, hsz, ht⟩
  · cases e0
  · injection e0 with e1 e2 e3
    injection e1 with e1
    injection e1 with e1
    subst e1; subst e3
    have hF := flatK_toList hk hs l'
    have hfs : (flatK enc k l'.toArray).size = n * k := by rw [size_flatK, List.size_toArray, hl, ← hn]
    refine ⟨flat_len hs l', .inr ⟨g, cap, putCells id 0 (flatK enc k l'.toArray) cur, by rw [hl, ← hn], hb, ?_, by omega, hm, by simpa [putCells] using hsz, ?_⟩⟩
    · simp [putRowK, putRow, mapBlock, Sort.ahead, Array.getElem?_modify, hg, onCells]
    · rw [hl, ← hn, ← hF]
      apply List.ext_getElem?
      intro j
      rw [List.getElem?_take, Array.getElem?_toList, Array.getElem?_toList]
      by_cases hj : j < n * k
      · have hjc : j < cur.size := by
          rw [hsz]
          exact Nat.lt_of_lt_of_le hj (Nat.mul_le_mul_right _ (by omega))
        rw [if_pos hj]
        simp only [putCells, Array.getElem?_mapIdx, Array.getElem?_eq_getElem hjc, Option.map_some]
        rw [if_pos (by rw [hfs]; simpa using hj), Array.getElem?_eq_getElem (by rw [hfs]; exact hj)]
        have hjf : j < (flatK enc k l'.toArray).size := by rw [hfs]; exact hj
        rw [Nat.sub_zero, getElem!_pos _ j hjf]
        rfl
      · rw [if_neg hj, Array.getElem?_eq_none (by rw [hfs]; omega)]
theorem sorted_own (hk : 0 < k) (hs : ∀ x, (enc x).length = k) {w : World} {base g n cap q : Nat} {e : TypeId} {l l' : List α} {os : Array Obj} (h : Own w base e k enc (.slice (some ⟨g, 0, none⟩) n cap) l) (hl : l'.length = l.length) :
    Own (sortWorldK enc k w g 0 q l'.toArray os) base e k enc (.slice (some ⟨g, 0, none⟩) n cap) l' ∧ w.grownBy (sortWorldK enc k w g 0 q l'.toArray os) (some g) := by
  have h1 := own_putRowK (q := q) hk hs h hl
  have hgr : w.grownBy (putRowK enc k (Sort.ahead w q) g 0 l'.toArray) (some g) :=
    ⟨rfl, rfl, rfl, by simp [putRowK, putRow, mapBlock, Sort.ahead], fun j hj hne => by
      simp only [putRowK, putRow, mapBlock, Sort.ahead]
      rw [Array.getElem?_modify, if_neg (by intro e; exact hne (by rw [e]))]⟩
  have hgo : (putRowK enc k (Sort.ahead w q) g 0 l'.toArray).grownBy (sortWorldK enc k w g 0 q l'.toArray os) none :=
    ⟨rfl, rfl, rfl, by simp [sortWorldK], fun j hj _ => heap_grow_old _ _ hj⟩
  refine ⟨h1.grown hgo (.inr (by simp [Value.ownBlock])), ?_⟩
  exact ⟨hgo.os.trans hgr.os, hgo.tape.trans hgr.tape, hgo.output.trans hgr.output, Nat.le_trans hgr.size hgo.size, fun j hj hne => (hgo.block j (by have := hgr.size; omega) (by simp)).trans (hgr.block j hj hne)⟩

end
end Go.Proofs.Ytjibjoapbjojlaa
