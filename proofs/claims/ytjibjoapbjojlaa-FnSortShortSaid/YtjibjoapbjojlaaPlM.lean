/-
  Plans and batches as plain functions on lists. No function of the program is named here.
-/
import Derived.Test.YtjibjoapbjojlaaFwM
namespace Go.Proofs.Ytjibjoapbjojlaa

theorem strEnc_one (x : Str) : ∀ u ∈ strEnc x, u.oneCell' = true := by
  intro u hu
  simp [strEnc] at hu
  subst hu; rfl
abbrev Lt := Int × Str
def ltEnc (x : Lt) : List Value := [.int .i64 x.1, .string x.2]
theorem ltEnc_len (x : Lt) : (ltEnc x).length = 2 := rfl
theorem ltEnc_one (x : Lt) : ∀ u ∈ ltEnc x, u.oneCell' = true := by
  intro u hu
  simp [ltEnc] at hu
  rcases hu with rfl | rfl <;> rfl

/-- The first place of a string. -/
def strIdx (l : List Str) (c : Str) : Option Nat := l.findIdx? fun x => decide (x = c)
theorem strIdx_none {l : List Str} {c : Str} : strIdx l c = none ↔ ∀ (i : Nat) (x : Str), l[i]? = some x → x ≠ c := by
  unfold strIdx
  rw [List.findIdx?_eq_none_iff]
  constructor
  · intro h i x hx he
    have := h x (List.mem_of_getElem? hx)
    simp [he] at this
  · intro h x hx
    obtain ⟨i, hi, rfl⟩ := List.getElem_of_mem hx
    simpa using h i _ (List.getElem?_eq_getElem hi)
theorem strIdx_some {l : List Str} {c : Str} {k : Nat} : strIdx l c = some k ↔ l[k]? = some c ∧ ∀ (i : Nat) (x : Str), i < k → l[i]? = some x → x ≠ c := by
  unfold strIdx
  rw [List.findIdx?_eq_some_iff_getElem]
  constructor
  · rintro ⟨h, he, hlt⟩
    refine ⟨by rw [List.getElem?_eq_getElem h]; simpa using he, fun i x hi hx => ?_⟩
    have := hlt i hi
    rw [List.getElem?_eq_getElem (by omega)] at hx
    injection hx with hx
    subst hx
    simpa using this
  · rintro ⟨hx, hlt⟩
    obtain ⟨h, hx'⟩ := List.getElem?_eq_some_iff.1 hx
    refine ⟨h, by simp [hx'], fun j hj => ?_⟩
    have := hlt j _ hj (List.getElem?_eq_getElem (by omega))
    simpa using this
theorem strIdx_lt {l : List Str} {c : Str} {k : Nat} (h : strIdx l c = some k) : k < l.length := (List.getElem?_eq_some_iff.1 (strIdx_some.1 h).1).1

/-- Is text i a code, and not an earlier one? -/
def cdOkAt (l : List Str) (i : Nat) : Bool := match l[i]? with
  | none => true
  | some x => codeOk x && (strIdx (l.take i) x).isNone
def cdsOk (l : List Str) : Bool := (List.range l.length).all (cdOkAt l)
theorem cdsOk_iff (l : List Str) : cdsOk l = true ↔ ∀ i, i < l.length → cdOkAt l i = true := by
  unfold cdsOk
  simp [List.all_eq_true]
theorem cdsOk_bad {l : List Str} {i : Nat} (hi : i < l.length) (h : cdOkAt l i = false) : cdsOk l = false := by
  cases ha : cdsOk l
  · rfl
  · rw [(cdsOk_iff l).1 ha i hi] at h; cases h
theorem cdOkAt_eq {l : List Str} {i : Nat} {x : Str} (h : l[i]? = some x) : cdOkAt l i = (codeOk x && (strIdx (l.take i) x).isNone) := by
  unfold cdOkAt; rw [h]

/-- Is letter i valid, its number not that of an earlier letter? -/
def idNew (l : List Lt) (i : Nat) (n : Int) : Bool := (l.take i).all fun x => decide (¬ x.1 = n)
def ltOkAt (l : List Lt) (i : Nat) : Bool := match l[i]? with
  | none => true
  | some x => decide (1 ≤ x.1 ∧ x.1 ≤ 9999) && codeOk x.2 && idNew l i x.1
def batchOk (l : List Lt) : Bool := decide (l.length ≤ 60) && (List.range l.length).all (ltOkAt l)
theorem batchOk_iff (l : List Lt) : batchOk l = true ↔ l.length ≤ 60 ∧ ∀ i, i < l.length → ltOkAt l i = true := by
  unfold batchOk
  simp [List.all_eq_true]
theorem batchOk_long {l : List Lt} (h : 60 < l.length) : batchOk l = false := by
  unfold batchOk; rw [show decide (l.length ≤ 60) = false from by simp; omega]; rfl
theorem batchOk_bad {l : List Lt} {i : Nat} (hi : i < l.length) (h : ltOkAt l i = false) : batchOk l = false := by
  cases ha : batchOk l
  · rfl
  · rw [((batchOk_iff l).1 ha).2 i hi] at h; cases h
theorem ltOkAt_eq {l : List Lt} {i : Nat} {x : Lt} (h : l[i]? = some x) : ltOkAt l i = (decide (1 ≤ x.1 ∧ x.1 ≤ 9999) && codeOk x.2 && idNew l i x.1) := by
  unfold ltOkAt; rw [h]
theorem idNew_iff {l : List Lt} {i : Nat} {n : Int} : idNew l i n = true ↔ ∀ (j : Nat) (x : Lt), j < i → l[j]? = some x → ¬ x.1 = n := by
  unfold idNew
  rw [List.all_eq_true]
  constructor
  · intro h j x hj hx
    have := h x (List.mem_of_getElem? (show (l.take i)[j]? = some x from by rw [List.getElem?_take, if_pos hj]; exact hx))
    simpa using this
  · intro h x hx
    obtain ⟨j, hj, rfl⟩ := List.getElem_of_mem hx
    have hj' : j < i := by rw [List.length_take] at hj; omega
    have e := List.getElem?_eq_getElem hj
    rw [List.getElem?_take, if_pos hj'] at e
    simpa using h j _ hj' e
theorem idNew_bad {l : List Lt} {i j : Nat} {n : Int} {x : Lt} (hj : j < i) (hx : l[j]? = some x) (h : x.1 = n) : idNew l i n = false := by
  cases ha : idNew l i n
  · rfl
  · exact absurd h (idNew_iff.1 ha j x hj hx)
end Go.Proofs.Ytjibjoapbjojlaa
