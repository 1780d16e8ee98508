/-
  Forwarding as plain functions on lists of strings: what the program and the reference both compute. No function of the program is named here.
-/
import Derived.Test.YtjibjoapbjojlaaW
namespace Go.Proofs.Ytjibjoapbjojlaa

abbrev Str := ByteArray
abbrev Fw := Str × Str
theorem str_inj {a b : Str} : a.toList = b.toList ↔ a = b := by
  rw [ByteArray.toList_eq, ByteArray.toList_eq]
  constructor
  · intro h
    cases a; cases b
    congr 1
    exact Array.toList_inj.1 h
  · rintro rfl; rfl
/-- Equality of strings in the walk's own spelling. -/
theorem str_t {a b : Str} (h : a = b) : (ByteArray.toList a == ByteArray.toList b) = true := by rw [h]; simp
theorem str_f {a b : Str} (h : ¬ a = b) : (ByteArray.toList a == ByteArray.toList b) = false := by
  rw [beq_eq_false_iff_ne]; exact fun e => h (str_inj.1 e)
def fwEnc (x : Fw) : List Value := [.string x.1, .string x.2]
def strEnc (x : Str) : List Value := [.string x]
theorem fwEnc_len (x : Fw) : (fwEnc x).length = 2 := rfl
theorem strEnc_len (x : Str) : (strEnc x).length = 1 := rfl

def isDig (c : UInt8) : Bool := decide (48 ≤ (c.toNat : Int) ∧ (c.toNat : Int) ≤ 57)
def allDig (s : Str) : Bool := s.data.toList.all isDig
def codeOk (s : Str) : Bool := decide (s.size = 7) && allDig s
def digitsOk (s : Str) : Bool := decide (s.size ≤ 20) && allDig s

theorem codeOk_eq (s : Str) : codeOk s = (digitsOk s && decide (s.size = 7)) := by
  unfold codeOk digitsOk
  by_cases h : s.size = 7
  · rw [show decide (s.size ≤ 20) = true from by simp; omega]; simp [h]
  · simp [h]
theorem codeOk_size {s : Str} (h : codeOk s = true) : s.size = 7 := by
  unfold codeOk at h; simp at h; exact h.1

theorem allDig_iff (s : Str) : allDig s = true ↔ ∀ j (h : j < s.size), isDig s[j] = true := by
  unfold allDig
  rw [List.all_eq_true]
  constructor
  · intro h j hj
    exact h _ (by show s.data[j]'(by exact hj) ∈ _; simp)
  · intro h c hc
    obtain ⟨j, hj, rfl⟩ := List.getElem_of_mem hc
    exact h j (by simpa using hj)
theorem allDig_false {s : Str} {j : Nat} (h : j < s.size) (hd : isDig s[j] = false) : allDig s = false := by
  cases ha : allDig s
  · rfl
  · rw [(allDig_iff s).1 ha j h] at hd; cases hd

/-- The first order for a code. -/
def fwIdx (l : List Fw) (c : Str) : Option Nat := l.findIdx? fun x => decide (x.1 = c)
def idxInt : Option Nat → Int
  | none => -1
  | some k => k

theorem fwIdx_none {l : List Fw} {c : Str} : fwIdx l c = none ↔ ∀ (i : Nat) (x : Fw), l[i]? = some x → x.1 ≠ c := by
  unfold fwIdx
  rw [List.findIdx?_eq_none_iff]
  constructor
  · intro h i x hx he
    have := h x (List.mem_of_getElem? hx)
    simp [he] at this
  · intro h x hx
    obtain ⟨i, hi, rfl⟩ := List.getElem_of_mem hx
    simpa using h i _ (List.getElem?_eq_getElem hi)
theorem fwIdx_some {l : List Fw} {c : Str} {k : Nat} : fwIdx l c = some k ↔ (∃ x : Fw, l[k]? = some x ∧ x.1 = c) ∧ ∀ (i : Nat) (x : Fw), i < k → l[i]? = some x → x.1 ≠ c := by
  unfold fwIdx
  rw [List.findIdx?_eq_some_iff_getElem]
  constructor
  · rintro ⟨h, he, hlt⟩
    refine ⟨⟨_, List.getElem?_eq_getElem h, by simpa using he⟩, fun i x hi hx => ?_⟩
    have := hlt i hi
    rw [List.getElem?_eq_getElem (by omega)] at hx
    injection hx with hx
    subst hx
    simpa using this
  · rintro ⟨⟨x, hx, he⟩, hlt⟩
    obtain ⟨h, hx'⟩ := List.getElem?_eq_some_iff.1 hx
    refine ⟨h, by simp [hx', he], fun j hj => ?_⟩
    have := hlt j _ hj (List.getElem?_eq_getElem (by omega))
    simpa using this
theorem fwIdx_lt {l : List Fw} {c : Str} {k : Nat} (h : fwIdx l c = some k) : k < l.length := by
  obtain ⟨⟨x, hx, _⟩, _⟩ := fwIdx_some.1 h
  exact (List.getElem?_eq_some_iff.1 hx).1
theorem idxInt_neg {o : Option Nat} : idxInt o < 0 ↔ o = none := by cases o <;> simp [idxInt]

/-- Is order i valid, and its code not one of an earlier order? -/
def fwOkAt (l : List Fw) (i : Nat) : Bool := match l[i]? with
  | none => true
  | some x => codeOk x.1 && codeOk x.2 && (fwIdx (l.take i) x.1).isNone
def fwsOk (l : List Fw) : Bool := decide (l.length ≤ 30) && (List.range l.length).all (fwOkAt l)

theorem fwsOk_iff (l : List Fw) : fwsOk l = true ↔ l.length ≤ 30 ∧ ∀ i, i < l.length → fwOkAt l i = true := by
  unfold fwsOk
  simp [List.all_eq_true]
theorem fwsOk_long {l : List Fw} (h : 30 < l.length) : fwsOk l = false := by
  unfold fwsOk; rw [show decide (l.length ≤ 30) = false from by simp; omega]; rfl
theorem fwsOk_bad {l : List Fw} {i : Nat} (hi : i < l.length) (h : fwOkAt l i = false) : fwsOk l = false := by
  cases ha : fwsOk l
  · rfl
  · rw [((fwsOk_iff l).1 ha).2 i hi] at h; cases h
theorem fwOkAt_eq {l : List Fw} {i : Nat} {x : Fw} (h : l[i]? = some x) : fwOkAt l i = (codeOk x.1 && codeOk x.2 && (fwIdx (l.take i) x.1).isNone) := by
  unfold fwOkAt; rw [h]

/-- The reference asks whether the first order for the code is this one. -/
theorem idx_self {l : List Fw} {i : Nat} {x : Fw} (h : l[i]? = some x) : decide (fwIdx l x.1 = some i) = (fwIdx (l.take i) x.1).isNone := by
  cases hn : fwIdx (l.take i) x.1 with
  | none =>
    rw [fwIdx_none] at hn
    simp only [Option.isNone_none, decide_eq_true_eq]
    refine fwIdx_some.2 ⟨⟨x, h, rfl⟩, fun j y hj hy => hn j y ?_⟩
    rw [List.getElem?_take, if_pos hj]; exact hy
  | some k =>
    obtain ⟨⟨y, hy, he⟩, _⟩ := fwIdx_some.1 hn
    have hk : k < i := by
      rw [List.getElem?_take] at hy
      split at hy
      · assumption
      · cases hy
    rw [List.getElem?_take, if_pos hk] at hy
    simp only [Option.isNone_some, decide_eq_false_iff_not]
    intro hc
    exact (fwIdx_some.1 hc).2 k y hk hy he

/-- The code to which letters for c are sent next. -/
def fwNext (l : List Fw) (c : Str) : Option Str := (fwIdx l c).bind fun k => (l[k]?).map (·.2)
def followN (l : List Fw) : Nat → Str → Nat → Option (Str × Nat)
  | 0, _, _ => none
  | f + 1, c, n => match fwNext l c with
    | none => some (c, n)
    | some d => followN l f d (n + 1)
/-- Where letters for c arrive, and after how many orders. -/
def follow (l : List Fw) (c : Str) : Option (Str × Nat) := followN l (l.length + 1) c 0
def resVal (r : Option (Str × Nat)) : Value := match r with
  | none => .tuple #[.string ByteArray.empty, .int .i64 0, .bool false]
  | some (c, n) => .tuple #[.string c, .int .i64 n, .bool true]

theorem fwNext_none {l : List Fw} {c : Str} (h : fwIdx l c = none) : fwNext l c = none := by unfold fwNext; rw [h]; rfl
theorem fwNext_some {l : List Fw} {c : Str} {k : Nat} {x : Fw} (h : fwIdx l c = some k) (hx : l[k]? = some x) : fwNext l c = some x.2 := by unfold fwNext; rw [h]; simp [hx]
end Go.Proofs.Ytjibjoapbjojlaa
