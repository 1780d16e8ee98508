/-
  Texts in order: sorted, inserted.
-/
import Derived.Test.YtdpmjohfjpohjaaFwC
import Derived.Test.YtdpmjohfjpohjaaShelf
import Derived.Lib.OwnBridge
import Derived.Deep.AppendLies
namespace Go.Proofs.Ytdpmjohfjpohjaa
open Go.RowKit

/-- Texts in order. -/
def sLe (a b : Str) : Bool := decide (a.data.toList ≤ b.data.toList)
theorem sLe_trans (a b c : Str) (h1 : sLe a b = true) (h2 : sLe b c = true) : sLe a c = true := by
  unfold sLe at *
  simp only [decide_eq_true_eq] at *
  exact List.le_trans h1 h2
theorem sLe_total (a b : Str) : (sLe a b || sLe b a) = true := by
  unfold sLe
  simp only [Bool.or_eq_true, decide_eq_true_eq]
  exact List.le_total _ _
theorem str_data {a b : Str} (h : a.data.toList = b.data.toList) : a = b := by
  cases a; cases b
  simp at h
  rw [h]
theorem sLe_antisymm (a b : Str) (h1 : sLe a b = true) (h2 : sLe b a = true) : a = b := by
  unfold sLe at *
  simp only [decide_eq_true_eq] at *
  exact str_data (List.le_antisymm h1 h2)
def sortS (l : List Str) : List Str := l.mergeSort sLe
theorem sortS_len (l : List Str) : (sortS l).length = l.length := List.length_mergeSort _
theorem sortS_map (l : List Str) : (sortS l).map (·.data.toList) = (l.map (·.data.toList)).mergeSort fun x y => decide (x ≤ y) := by
  unfold sortS
  exact List.map_mergeSort fun a _ b _ => rfl
theorem sortS_perm (l : List Str) : (sortS l).Perm l := List.mergeSort_perm _ _
theorem sortS_sorted (l : List Str) : (sortS l).Pairwise fun a b => sLe a b = true := List.pairwise_mergeSort sLe_trans sLe_total l
theorem sorted_unique {a b : List Str} (hp : a.Perm b) (ha : a.Pairwise fun a b => sLe a b = true) (hb : b.Pairwise fun a b => sLe a b = true) : a = b :=
  hp.eq_of_pairwise (fun x y _ _ h1 h2 => sLe_antisymm x y h1 h2) ha hb

/-- A text put ahead of the first that is greater. -/
def insS (l : List Str) (s : Str) : List Str := match l with
  | [] => [s]
  | y :: r => if sLe y s then y :: insS r s else s :: y :: r
theorem insS_perm : ∀ (l : List Str) (s : Str), (insS l s).Perm (s :: l)
  | [], s => List.Perm.refl _
  | y :: r, s => by
    unfold insS
    split
    · exact ((insS_perm r s).cons y).trans (List.Perm.swap s y r)
    · exact List.Perm.refl _
theorem insS_sorted : ∀ (l : List Str) (s : Str), (l.Pairwise fun a b => sLe a b = true) → (insS l s).Pairwise fun a b => sLe a b = true
  | [], s, _ => by simp [insS]
  | y :: r, s, h => by
    have h' := List.pairwise_cons.1 h
    unfold insS
    split
    · rename_i hy
      refine List.pairwise_cons.2 ⟨fun z hz => ?_, insS_sorted r s h'.2⟩
      rcases List.mem_cons.1 ((insS_perm r s).mem_iff.1 hz) with rfl | hz
      · exact hy
      · exact h'.1 z hz
    · rename_i hy
      have hsy : sLe s y = true := by
        have := sLe_total s y
        rw [Bool.or_eq_true] at this
        rcases this with h | h
        · exact h
        · exact absurd h hy
      refine List.pairwise_cons.2 ⟨fun z hz => ?_, h⟩
      rcases List.mem_cons.1 hz with rfl | hz
      · exact hsy
      · exact sLe_trans _ _ _ hsy (h'.1 z hz)
def insAll (l : List Str) : List Str := l.foldl insS []
theorem insAll_go : ∀ (l a : List Str), (a.Pairwise fun a b => sLe a b = true) → ((l.foldl insS a).Pairwise fun a b => sLe a b = true) ∧ (l.foldl insS a).Perm (l ++ a)
  | [], a, h => ⟨h, List.Perm.refl _⟩
  | x :: l, a, h => by
    obtain ⟨h1, h2⟩ := insAll_go l (insS a x) (insS_sorted a x h)
    refine ⟨h1, h2.trans ?_⟩
    exact ((insS_perm a x).append_left l).trans List.perm_middle
theorem insAll_sort (l : List Str) : insAll l = sortS l := by
  obtain ⟨h1, h2⟩ := insAll_go l [] List.Pairwise.nil
  rw [List.append_nil] at h2
  exact sorted_unique (h2.trans (sortS_perm l).symm) h1 (sortS_sorted l)
theorem insAll_push (l : List Str) (x : Str) : insAll (l ++ [x]) = insS (insAll l) x := by
  unfold insAll
  rw [List.foldl_append]; rfl
theorem insAll_len (l : List Str) : (insAll l).length = l.length := by rw [insAll_sort, sortS_len]

theorem strEnc_br (l : List Str) : l.flatMap strEnc = (l.map (·.data.toList)).map Proofs.encStr := by
  rw [Lib.map_encStr]
  induction l with
  | nil => rfl
  | cons x l ih => rw [List.flatMap_cons, ih]; rfl

set_option maxHeartbeats 1000000 in
theorem sliceSort1 (g n cap base : Nat) (l : List Str) (w : World) (hn : n ≤ 16777216) (h : Own w base 9 1 strEnc (.slice (some ⟨g, 0, none⟩) n cap) l) :
    Calls Try.prog 63 #[.slice (some ⟨g, 0, none⟩) n cap] w fun e w' => e = .returned (.tuple #[]) ∧ Own w' base 9 1 strEnc (.slice (some ⟨g, 0, none⟩) n cap) (sortS l) ∧ w.grownBy w' (some g) := by
  have hl := h.len
  have hraw : w.ownsRow base 9 1 (.slice (some ⟨g, 0, none⟩) n cap) n ((l.map (·.data.toList)).map Proofs.encStr) := by
    rw [← strEnc_br, hl]; unfold Own at h; rw [← hl] at h ⊢; exact h
  obtain ⟨g', cap', e0, hbg, hgw, hnc, hm, hzn, hH⟩ := Lib.holds_of_ownsRow hraw (by intro e; cases e)
  injection e0 with e1 e2 e3
  injection e1 with e1
  injection e1 with e1
  subst e1 e3
  have := Try.slices_Sort_string g 0 cap (l.map (·.data.toList)) w hH hgw (by rw [hzn]; omega)
  rw [hzn, ← sortS_map] at this
  refine this.mono ?_
  rintro e w' ⟨rfl, q, os, rfl⟩
  have hb := Lib.below_putRow (enc := Proofs.encStr) (B := g) (q := q) (d := ((sortS l).map (·.data.toList)).toArray) (Below.refl g w) (Nat.le_refl _)
  have hgr : w.grownBy (Go.Sort.putRow Proofs.encStr (Go.Sort.ahead w q) g 0 ((sortS l).map (·.data.toList)).toArray) (some g) :=
    ⟨hb.os, hb.tape, hb.output, hb.size, fun k hk hne => by
      simp only [Go.Sort.putRow, Go.Sort.mapBlock, Go.Sort.ahead]
      rw [Array.getElem?_modify, if_neg (by intro e; exact hne (by rw [e]))]⟩
  have ho := Lib.ownsRow_putRow (q := q) (k := n) hraw (ys := (sortS l).map (·.data.toList)) (by rw [List.length_map, sortS_len, hl]) (Nat.le_refl _)
  rw [show (((sortS l).map (·.data.toList)).take n).map Proofs.encStr = (sortS l).flatMap strEnc from by rw [List.take_of_length_le (by rw [List.length_map, sortS_len, hl]; exact Nat.le_refl _), strEnc_br]] at ho
  have ho2 : Own (Go.Sort.putRow Proofs.encStr (Go.Sort.ahead w q) g 0 ((sortS l).map (·.data.toList)).toArray) base 9 1 strEnc (.slice (some ⟨g, 0, none⟩) n cap) (sortS l) := by
    unfold Own
    rw [sortS_len, ← hl]
    exact ho
  have hgo : (Go.Sort.putRow Proofs.encStr (Go.Sort.ahead w q) g 0 ((sortS l).map (·.data.toList)).toArray).grownBy (Go.Sort.grow (Go.Sort.putRow Proofs.encStr (Go.Sort.ahead w q) g 0 ((sortS l).map (·.data.toList)).toArray) os) none :=
    ⟨rfl, rfl, rfl, by simp, fun k hk _ => Go.Sort.heap_grow_old _ _ hk⟩
  refine ⟨rfl, ho2.grown hgo (.inr (by simp [Value.ownBlock])), ?_⟩
  exact ⟨hgo.os.trans hgr.os, hgo.tape.trans hgr.tape, hgo.output.trans hgr.output, Nat.le_trans hgr.size hgo.size, fun k hk hne => (hgo.block k (by have := hgr.size; omega) (by simp)).trans (hgr.block k hk hne)⟩
end Go.Proofs.Ytdpmjohfjpohjaa
