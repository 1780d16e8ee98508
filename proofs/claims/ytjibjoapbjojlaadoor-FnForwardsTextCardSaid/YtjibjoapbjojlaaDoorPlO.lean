/-
  Arguments of a law, opened: a plan, a slice of letters, a slice of texts, as the lists that they read.
-/
import Derived.Test.YtjibjoapbjojlaaDoorPlQ
import Derived.Deep.Slices
import Derived.Deep.Fields
import Derived.ChangeSame
import Derived.Lib.SmallJoins
namespace Go.Proofs.YtjibjoapbjojlaaDoor
open Go.RowKit Go.ChangeShapes Go.WideShapes Go.Deep

theorem list_of {α : Type} {Q : Nat → α → Prop} : ∀ n : Nat, (∀ i, i < n → ∃ x, Q i x) → ∃ l : List α, l.length = n ∧ ∀ i x, l[i]? = some x → Q i x
  | 0, _ => ⟨[], rfl, fun i x h => by simp at h⟩
  | n + 1, h => by
    obtain ⟨l, hl, hq⟩ := list_of n fun i hi => h i (by omega)
    obtain ⟨x, hx⟩ := h n (by omega)
    refine ⟨l ++ [x], by simp [hl], fun i y hy => ?_⟩
    by_cases hi : i < n
    · rw [List.getElem?_append_left (by omega)] at hy
      exact hq i y hy
    · rw [List.getElem?_append_right (by omega)] at hy
      by_cases he : i = n
      · subst he
        rw [hl, Nat.sub_self] at hy
        simp at hy
        subst hy
        exact hx
      · rw [List.getElem?_eq_none (by simp; omega)] at hy
        cases hy

theorem str_cells : Tryd.prog.cellsOf 9 = 1 := by kernel_rfl
/-- An argument that is a slice of texts. -/
def StrIn (w : World) (A : Option Addr) (l : List Str) (c : Nat) : Prop :=
  l.length ≤ c ∧ c ≤ maxLen ∧ (∀ x ∈ l, x.size ≤ maxLen) ∧ Rd w 1 strEnc A l
def PlIn (w : World) (_b _p : Int) (A : Option Addr) (l : List Str) (c : Nat) : Prop := StrIn w A l c

set_option maxRecDepth 100000 in
theorem strS_of {H : Type} {enc : TypeId × Value → H} {W : World} {base fuel : Nat} {v : Value} {x : DataW H × List MemPlace} {sp : Nat → Bool} {held : Bool}
    (hf : DataW.trod enc Tryd.prog W base sp held fuel 34 [v] = some x) : ∃ A l c, v = .slice A l.length c ∧ StrIn W A l c := by
  rcases open_slice1 Tryd.underlying34 str_cells hf with ⟨hv, _⟩ | ⟨ad, len, cap, m, n, V, D, Pl, hv, _, hlc, hcm, hm, _, hi⟩
  · injection hv with hv
    subst hv
    exact ⟨none, [], 0, rfl, Nat.le_refl _, Nat.zero_le _, (fun x hx => by cases hx), Rd.nil_⟩
  · injection hv with hv
    subst hv
    have hlm : len ≤ m := by rw [hm]; split <;> omega
    obtain ⟨l, hl, hq⟩ := list_of (Q := fun i (x : Str) => x.size ≤ maxLen ∧ W.cell? (ad.add i) = some (.string x)) len fun i hil => by
      obtain ⟨c0, t0⟩ := hi i (by omega)
      obtain ⟨s, e0, _, z0⟩ := DataW.trod_string Tryd.underlying9 t0
      injection e0 with e0
      rw [e0] at c0
      exact ⟨s, z0, c0⟩
    subst hl
    refine ⟨some ad, l, cap, rfl, hlc, hcm, fun x hx => ?_, fun hl0 => ?_⟩
    · obtain ⟨i, hil, rfl⟩ := List.getElem_of_mem hx
      exact (hq i _ (List.getElem?_eq_getElem hil)).1
    · refine ⟨ad, rfl, ?_, fun i x hx j u hu => ?_⟩
      · have := World.block_lt_of_cell? W _ (hq 0 _ (List.getElem?_eq_getElem hl0)).2
        rwa [block_add] at this
      · have hj : j < 1 := by have := (List.getElem?_eq_some_iff.1 hu).1; rw [strEnc_len] at this; exact this
        obtain rfl : j = 0 := by omega
        simp [strEnc] at hu
        subst hu
        simpa using (hq i x hx).2
end Go.Proofs.YtjibjoapbjojlaaDoor
