/-
  Letters sorted by their codes, and neighbors exchanged: plain facts. No function of the program is named here.
-/
import Derived.Test.YtjibjoapbjojlaaPlM
import Derived.Test.YtjibjoapbjojlaaRnd
import Derived.Lib.Bytealg
import Derived.Sort.LotA
import Derived.Shelf.SlSortCmp.Insertion
namespace Go.Proofs.Ytjibjoapbjojlaa
open Go.RowKit

def ltCf (x y : Lt) : Int := Lib.compareBytes x.2.data.toList y.2.data.toList
theorem compare_refl : ∀ a : List UInt8, Lib.compareBytes a a = 0
  | [] => by simp [Lib.compareBytes]
  | a :: r => by
    unfold Lib.compareBytes
    rw [if_neg (UInt8.lt_irrefl _), if_neg (UInt8.lt_irrefl _)]
    exact compare_refl r
theorem ltCf_ne {x y : Lt} (h : ltOf ltCf x y = true) : ¬ x.2 = y.2 := by
  intro e
  unfold ltOf ltCf at h
  rw [e, compare_refl] at h
  exact absurd h (by decide)

/-- The same letters, those of a code in the same order. -/
def Stab (m m' : List Lt) : Prop := m'.Perm m ∧ ∀ c : Str, m'.filter (fun x => decide (x.2 = c)) = m.filter fun x => decide (x.2 = c)
theorem Stab.refl (m : List Lt) : Stab m m := ⟨List.Perm.refl _, fun _ => rfl⟩
theorem Stab.trans {a b c : List Lt} (h : Stab a b) (k : Stab b c) : Stab a c := ⟨k.1.trans h.1, fun x => (k.2 x).trans (h.2 x)⟩
theorem Stab.len {a b : List Lt} (h : Stab a b) : b.length = a.length := h.1.length_eq
theorem stab_adj {p q : List Lt} {x y : Lt} (h : ¬ x.2 = y.2) : Stab (p ++ x :: y :: q) (p ++ y :: x :: q) := by
  refine ⟨(List.Perm.refl p).append (List.Perm.swap x y q), fun c => ?_⟩
  rw [List.filter_append, List.filter_append]
  congr 1
  by_cases h1 : x.2 = c
  · have h2 : ¬ y.2 = c := fun e => h (h1.trans e.symm)
    simp [h1, h2]
  · by_cases h2 : y.2 = c
    · simp [h1, h2]
    · simp [h1, h2]
/-- Two neighbors exchanged. -/
def swapAt (m : List Lt) (i : Nat) (x y : Lt) : List Lt := (m.set (i + 1) x).set i y
theorem list_two {m : List Lt} {i : Nat} {x y : Lt} (hx : m[i]? = some x) (hy : m[i + 1]? = some y) : m = m.take i ++ x :: y :: m.drop (i + 2) := by
  obtain ⟨h1, h2⟩ := List.getElem?_eq_some_iff.1 hx
  obtain ⟨h3, h4⟩ := List.getElem?_eq_some_iff.1 hy
  conv => lhs; rw [← List.take_append_drop i m, List.drop_eq_getElem_cons h1, List.drop_eq_getElem_cons h3, h2, h4]
theorem swapAt_eq {m : List Lt} {i : Nat} {x y : Lt} (hx : m[i]? = some x) (hy : m[i + 1]? = some y) : swapAt m i x y = m.take i ++ y :: x :: m.drop (i + 2) := by
  have h3 := (List.getElem?_eq_some_iff.1 hy).1
  have ht : (m.take i).length = i := by rw [List.length_take]; omega
  unfold swapAt
  conv => lhs; rw [list_two hx hy]
  rw [List.set_append_right _ _ (by omega), List.set_append_right _ _ (by omega), ht, show i + 1 - i = 0 + 1 from by omega, show i - i = 0 from by omega]
  rfl
theorem stab_swap {m : List Lt} {i : Nat} {x y : Lt} (hx : m[i]? = some x) (hy : m[i + 1]? = some y) (h : ¬ x.2 = y.2) : Stab m (swapAt m i x y) := by
  rw [swapAt_eq hx hy]
  conv => arg 1; rw [list_two hx hy]
  exact stab_adj h
theorem swp_eq {d : Array Lt} {j : Nat} : (Go.Sort.swp d (j + 1) j).toList = swapAt d.toList j d[j]! d[j + 1]! := by
  unfold Go.Sort.swp swapAt
  rw [Array.toList_setIfInBounds, Array.toList_setIfInBounds]
theorem stab_swp {d : Array Lt} {j : Nat} (h : j + 1 < d.size) (hl : ltOf ltCf d[j + 1]! d[j]! = true) : Stab d.toList (Go.Sort.swp d (j + 1) j).toList := by
  rw [swp_eq]
  refine stab_swap ?_ ?_ (fun e => ltCf_ne hl e.symm)
  · rw [Array.getElem?_toList, getElem!_pos d j (by omega)]; exact Array.getElem?_eq_getElem _
  · rw [Array.getElem?_toList, getElem!_pos d (j + 1) h]; exact Array.getElem?_eq_getElem _
theorem swp_size (d : Array Lt) (i j : Nat) : (Go.Sort.swp d i j).size = d.size := by unfold Go.Sort.swp; rw [Array.size_setIfInBounds, Array.size_setIfInBounds]
theorem stab_inner (a : Nat) : ∀ (j : Nat) (d : Array Lt), j < d.size → Stab d.toList (Go.Sort.insInner (ltOf ltCf) a j d).toList ∧ (Go.Sort.insInner (ltOf ltCf) a j d).size = d.size
  | 0, d, _ => ⟨Stab.refl _, rfl⟩
  | j + 1, d, h => by
    unfold Go.Sort.insInner
    split
    · rename_i hc
      rw [Bool.and_eq_true] at hc
      obtain ⟨h1, h2⟩ := stab_inner a j (Go.Sort.swp d (j + 1) j) (by rw [swp_size]; omega)
      exact ⟨(stab_swp h hc.2).trans h1, h2.trans (swp_size _ _ _)⟩
    · exact ⟨Stab.refl _, rfl⟩
theorem stab_outer (a b : Nat) : ∀ (k i : Nat) (d : Array Lt), b - i = k → b ≤ d.size → Stab d.toList (Go.Sort.insOuter (ltOf ltCf) a b i d).toList
  | 0, i, d, hk, _ => by
    unfold Go.Sort.insOuter
    rw [if_neg (by omega)]
    exact Stab.refl _
  | k + 1, i, d, hk, hb => by
    unfold Go.Sort.insOuter
    rw [if_pos (by omega)]
    obtain ⟨h1, h2⟩ := stab_inner a i d (by omega)
    exact h1.trans (stab_outer a b k (i + 1) _ (by omega) (by omega))
/-- The letters sorted by their codes. -/
def sortLt (m : List Lt) : List Lt := (Go.Sort.insertionSort (ltOf ltCf) m.toArray 0 m.length).toList
theorem sortLt_stab (m : List Lt) : Stab m (sortLt m) := by
  have := stab_outer 0 m.length (m.length - 1) 1 m.toArray rfl (by simp)
  simpa [sortLt, Go.Sort.insertionSort] using this
theorem sortLt_len (m : List Lt) : (sortLt m).length = m.length := (sortLt_stab m).len
theorem stab_batch {m m' : List Lt} (h : Stab m m') (hm : batchOk m = true) : batchOk m' = true := batch_perm h.1.symm hm
theorem stab_round {l : List Str} {m m' : List Lt} (h : Stab m m') : roundOf l m' = roundOf l m := round_congr h.2
end Go.Proofs.Ytjibjoapbjojlaa
