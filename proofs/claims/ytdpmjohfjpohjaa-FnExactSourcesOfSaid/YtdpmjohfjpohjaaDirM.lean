/-
  Direct orders, sources: plain facts. No function of the program is named here.
-/
import Derived.Test.YtdpmjohfjpohjaaEn2
import Derived.Test.YtdpmjohfjpohjaaFwR
import Derived.Lib.Bytealg
import Derived.Sort.Statements
import Derived.Shelf.SlSortCmp.Insertion
namespace Go.Proofs.Ytdpmjohfjpohjaa
open Go.RowKit

theorem cmp_lt : ∀ a b : List UInt8, Lib.compareBytes a b < 0 ↔ ¬ b ≤ a
  | [], [] => by simp [Lib.compareBytes]
  | [], b :: br => by simp [Lib.compareBytes]
  | a :: ar, [] => by simp [Lib.compareBytes]
  | a :: ar, b :: br => by
    unfold Lib.compareBytes
    rw [List.cons_le_cons_iff]
    by_cases h1 : a < b
    · rw [if_pos h1]
      have h2 : ¬ b < a := by
        intro h3
        exact absurd (UInt8.lt_trans h1 h3) (UInt8.lt_irrefl _)
      have h3 : ¬ b = a := by rintro rfl; exact absurd h1 (UInt8.lt_irrefl _)
      simp [h2, h3]
    · rw [if_neg h1]
      by_cases h2 : b < a
      · rw [if_pos h2]; simp [h2]
      · rw [if_neg h2, cmp_lt ar br]
        have h3 : b = a := by
          have := UInt8.le_antisymm (UInt8.not_lt.1 h1) (UInt8.not_lt.1 h2)
          exact this
        simp [h3]
def fwCf (x y : Fw) : Int := Lib.compareBytes x.1.data.toList y.1.data.toList
theorem fwLt_eq (x y : Fw) : ltOf fwCf x y = !sLe y.1 x.1 := by
  unfold ltOf fwCf sLe
  rw [← decide_not]
  exact decide_eq_decide.2 (cmp_lt _ _)
theorem fwSWO : Go.Sort.SWO (ltOf fwCf) := by
  refine ⟨fun x => ?_, fun x y z h1 h2 => ?_, fun x y z h1 h2 => ?_⟩
  · rw [fwLt_eq]
    have := sLe_total x.1 x.1
    simp at this
    rw [this]; rfl
  · rw [fwLt_eq] at *
    simp only [Bool.not_eq_true'] at *
    cases h : sLe z.1 x.1
    · rfl
    · have h3 := sLe_total y.1 x.1
      rw [h1, Bool.false_or] at h3
      have h4 := sLe_trans _ _ _ h h3
      rw [h2] at h4; cases h4
  · rw [fwLt_eq] at *
    simp only [Bool.not_eq_false'] at *
    exact sLe_trans _ _ _ h2 h1

def dirOf (l : List Fw) (c : Str) : Option Fw := (follow l c).map fun r => (c, r.1)
def dirRaw (l m : List Fw) : List Fw := m.filterMap fun x => dirOf l x.1
def directOf (l : List Fw) : List Fw := if fwsOk l then (sortS (l.map (·.1))).filterMap (dirOf l) else []
theorem dirOf_fst {l : List Fw} {c : Str} {y : Fw} (h : dirOf l c = some y) : y.1 = c ∧ dirOf l y.1 = some y := by
  unfold dirOf at h ⊢
  cases hf : follow l c with
  | none => rw [hf] at h; cases h
  | some r =>
    rw [hf] at h
    injection h with h
    subst h
    exact ⟨rfl, by rw [hf]; rfl⟩
theorem dirRaw_yes {l : List Fw} {k : Nat} {x : Fw} {r : Str × Nat} (hx : l[k]? = some x) (h : follow l x.1 = some r) : dirRaw l (l.take (k + 1)) = dirRaw l (l.take k) ++ [(x.1, r.1)] := by
  unfold dirRaw
  rw [List.take_add_one, hx, List.filterMap_append]
  simp [dirOf, h]
theorem dirRaw_no {l : List Fw} {k : Nat} {x : Fw} (hx : l[k]? = some x) (h : follow l x.1 = none) : dirRaw l (l.take (k + 1)) = dirRaw l (l.take k) := by
  unfold dirRaw
  rw [List.take_add_one, hx, List.filterMap_append]
  simp [dirOf, h]
theorem dirRaw_len (l m : List Fw) : (dirRaw l m).length ≤ m.length := List.length_filterMap_le _ _
theorem directOf_len (l : List Fw) : (directOf l).length ≤ l.length := by
  unfold directOf
  split
  · refine Nat.le_trans (List.length_filterMap_le _ _) ?_
    rw [sortS_len, List.length_map]; exact Nat.le_refl _
  · exact Nat.zero_le _
theorem directOf_perm {l : List Fw} (hv : fwsOk l = true) : (directOf l).Perm (dirRaw l l) := by
  unfold directOf
  rw [hv, if_pos rfl]
  have h := (sortS_perm (l.map (·.1))).filterMap (dirOf l)
  rw [List.filterMap_map] at h
  exact h
theorem dirRaw_mem {l m : List Fw} {y : Fw} (h : y ∈ dirRaw l m) : dirOf l y.1 = some y := by
  obtain ⟨x, _, hx⟩ := List.mem_filterMap.1 h
  exact (dirOf_fst hx).2
theorem directOf_sorted (l : List Fw) : (directOf l).Pairwise fun x y => sLe x.1 y.1 = true := by
  unfold directOf
  split
  · refine List.Pairwise.filterMap (dirOf l) (fun a b hab x hx y hy => ?_) (sortS_sorted (l.map (·.1)))
    have h1 := (dirOf_fst hx).1
    have h2 := (dirOf_fst hy).1
    rw [h1, h2]; exact hab
  · exact List.Pairwise.nil
/-- Whatever lists the direct orders in order is that list. -/
theorem direct_unique {l l' : List Fw} (hv : fwsOk l = true) (hp : l'.Perm (dirRaw l l)) (hs : l'.Pairwise fun x y => sLe x.1 y.1 = true) : l' = directOf l := by
  refine (hp.trans (directOf_perm hv).symm).eq_of_pairwise (fun x y hx hy h1 h2 => ?_) hs (directOf_sorted l)
  have e := sLe_antisymm _ _ h1 h2
  have d1 := dirRaw_mem (hp.mem_iff.1 hx)
  have d2 := dirRaw_mem ((directOf_perm hv).mem_iff.1 hy)
  rw [e, d2] at d1
  injection d1 with d1
  exact d1.symm
def dirList (l : List Fw) (cs : List Str) : List Fw := cs.filterMap (dirOf l)
theorem dirList_yes {l : List Fw} {cs : List Str} {k : Nat} {c : Str} {r : Str × Nat} (hx : cs[k]? = some c) (h : follow l c = some r) : dirList l (cs.take (k + 1)) = dirList l (cs.take k) ++ [(c, r.1)] := by
  unfold dirList
  rw [List.take_add_one, hx, List.filterMap_append]
  simp [dirOf, h]
theorem dirList_no {l : List Fw} {cs : List Str} {k : Nat} {c : Str} (hx : cs[k]? = some c) (h : follow l c = none) : dirList l (cs.take (k + 1)) = dirList l (cs.take k) := by
  unfold dirList
  rw [List.take_add_one, hx, List.filterMap_append]
  simp [dirOf, h]

/-- The codes of which letters arrive at c. -/
def srcRaw (c : Str) (m : List Fw) : List Str := (m.filter fun x => decide (x.2 = c)).map (·.1)
def sourcesOf (l : List Fw) (c : Str) : List Str := srcRaw c (directOf l)
theorem sourcesOf_len (l : List Fw) (c : Str) : (sourcesOf l c).length ≤ l.length := by
  unfold sourcesOf srcRaw
  rw [List.length_map]
  exact Nat.le_trans (List.length_filter_le _ _) (directOf_len l)
theorem srcRaw_yes {c : Str} {m : List Fw} {k : Nat} {x : Fw} (hx : m[k]? = some x) (h : x.2 = c) : srcRaw c (m.take (k + 1)) = srcRaw c (m.take k) ++ [x.1] := by
  unfold srcRaw
  rw [List.take_add_one, hx, List.filter_append, List.map_append]
  simp [h]
theorem srcRaw_no {c : Str} {m : List Fw} {k : Nat} {x : Fw} (hx : m[k]? = some x) (h : ¬ x.2 = c) : srcRaw c (m.take (k + 1)) = srcRaw c (m.take k) := by
  unfold srcRaw
  rw [List.take_add_one, hx, List.filter_append, List.map_append]
  simp [h]
/-- What the reference inserts. -/
def srcIns (l : List Fw) (c : Str) (m : List Fw) : List Str := srcRaw c (dirRaw l m)
theorem srcIns_yes {l : List Fw} {c : Str} {k : Nat} {x : Fw} {q : Nat} (hx : l[k]? = some x) (h : follow l x.1 = some (c, q)) : srcIns l c (l.take (k + 1)) = srcIns l c (l.take k) ++ [x.1] := by
  unfold srcIns
  rw [dirRaw_yes hx h]
  simp [srcRaw]
theorem srcIns_other {l : List Fw} {c t : Str} {k : Nat} {x : Fw} {q : Nat} (hx : l[k]? = some x) (h : follow l x.1 = some (t, q)) (hn : ¬ t = c) : srcIns l c (l.take (k + 1)) = srcIns l c (l.take k) := by
  unfold srcIns
  rw [dirRaw_yes hx h]
  simp [srcRaw, hn]
theorem srcIns_no {l : List Fw} {c : Str} {k : Nat} {x : Fw} (hx : l[k]? = some x) (h : follow l x.1 = none) : srcIns l c (l.take (k + 1)) = srcIns l c (l.take k) := by
  unfold srcIns
  rw [dirRaw_no hx h]
theorem sources_ins {l : List Fw} (hv : fwsOk l = true) (c : Str) : insAll (srcIns l c l) = sourcesOf l c := by
  rw [insAll_sort]
  refine (sorted_unique ?_ ?_ (sortS_sorted _)).symm
  · refine List.Perm.trans ?_ (sortS_perm _).symm
    exact ((directOf_perm hv).filter _).map _
  · unfold sourcesOf srcRaw
    rw [List.pairwise_map]
    exact (directOf_sorted l).filter _
theorem sources_bad {l : List Fw} (hv : fwsOk l = false) (c : Str) : sourcesOf l c = [] := by
  unfold sourcesOf directOf
  rw [hv]; rfl
end Go.Proofs.Ytdpmjohfjpohjaa
