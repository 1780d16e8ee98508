/-
  The laws' own helpers on lists of lists of letters: comparison, marks.
-/
import Derived.Test.YtbfmohkjnjmmoaaPsP
namespace Go.Proofs.Ytbfmohkjnjmmoaa
open Go.RowKit

/-- Bins as one thing of a pool. -/
def binP (v : Value) (hs : List Value) (ls : List (List Lt)) : Piece := groupP (ownP 40 1 rawEnc v hs :: innerP 42 hs ls)
theorem Pool.front {w0 w : World} {ps : List Piece} (h : Pool w0 w ps) (i : Nat) {p : Piece} (hi : ps[i]? = some p) : Pool w0 w (p :: ps.eraseIdx i) := by
  refine h.perm ?_
  obtain ⟨hlt, rfl⟩ := List.getElem?_eq_some_iff.1 hi
  rw [List.eraseIdx_eq_take_drop_succ]
  have h2 : ps = ps.take i ++ ps[i] :: ps.drop (i + 1) := by rw [← List.drop_eq_getElem_cons hlt, List.take_append_drop]
  calc ps.Perm (ps.take i ++ ps[i] :: ps.drop (i + 1)) := by rw [← h2]
    _ |>.Perm _ := List.perm_middle
theorem Pool.binRd {w0 w : World} {ps : List Piece} (h : Pool w0 w ps) (i : Nat) {A : Option Addr} {n c : Nat} {hs : List Value} {ls : List (List Lt)} (hi : ps[i]? = some (binP (.slice A n c) hs ls)) (hl : hs.length = ls.length) : BinsRd w A hs ls ∧ n = hs.length := by
  have h1 := (h.front i hi).ungroup
  exact ⟨Pool.binsRd (T := 42) (rest := innerP 42 hs ls ++ ps.eraseIdx i) h1 (fun p hp => by simp [hp]) hl, (h1.own 0 rfl).len⟩
theorem BinsRet.group {w0 w w' : World} {ps : List Piece} (h : Pool w0 w ps) {A A' : Option Addr} {n c n' c' : Nat} {hs : List Value} {r : BinR}
    (k : Pool w w' (ownP 40 1 rawEnc (.slice A n c) hs :: ownP 42 2 ltEnc (.slice A' n' c') r.k :: innerP 42 hs r.b)) : Pool w0 w' (binP (.slice A n c) hs r.b :: ownP 42 2 ltEnc (.slice A' n' c') r.k :: ps) := by
  have h1 := h.join k
  refine Pool.group (ps := ownP 40 1 rawEnc (.slice A n c) hs :: innerP 42 hs r.b) (h1.perm ?_)
  simp only [List.cons_append]
  exact List.Perm.cons _ (List.perm_middle.symm)

def ltssEq (a b : List (List Lt)) : Bool := decide (a = b)
theorem ltssEq_self (a : List (List Lt)) : ltssEq a a = true := by simp [ltssEq]

theorem set_same {α : Type} {l : List α} {j : Nat} {v : α} (h : l[j]? = some v) : l.set j v = l := by
  obtain ⟨h1, rfl⟩ := List.getElem?_eq_some_iff.1 h
  exact List.set_getElem_self h1
/-- The marks of bins. -/
def ssMks : Nat → List (List Lt) → List (List Lt)
  | _, [] => []
  | k, l :: ls => ltMks k l.length :: ssMks (k + 2 * l.length) ls
theorem ssMks_len : ∀ (k : Nat) (ls : List (List Lt)), (ssMks k ls).length = ls.length
  | _, [] => rfl
  | k, l :: ls => by simp [ssMks, ssMks_len (k + 2 * l.length) ls]
theorem ltMks_len' (k n : Nat) : (ltMks k n).length = n := by simp [ltMks]
theorem ssMks_at : ∀ (k : Nat) (ls : List (List Lt)) (j : Nat) (l : List Lt), ls[j]? = some l → (ssMks k ls)[j]? = some (ltMks (k + 2 * (ls.take j).flatten.length) l.length)
  | _, [], j, _, h => by simp at h
  | k, x :: ls, 0, l, h => by simp at h; subst h; simp [ssMks]
  | k, x :: ls, j + 1, l, h => by
    simp only [List.getElem?_cons_succ] at h
    have := ssMks_at (k + 2 * x.length) ls j l h
    simp only [ssMks, List.getElem?_cons_succ, List.take_succ_cons, List.flatten_cons, List.length_append]
    rw [this, show k + 2 * x.length + 2 * (ls.take j).flatten.length = k + 2 * (x.length + (ls.take j).flatten.length) from by omega]
end Go.Proofs.Ytbfmohkjnjmmoaa
