/-
  A slice of bytes, opened; the laws on capacities.
-/
import Derived.Test.YtbfmohkjnjmmoaaDr1
import Derived.Test.YtbfmohkjnjmmoaaPlO
import Derived.Deep.Slices
import Derived.Deep.Fields
import Derived.ChangeSame
namespace Go.Proofs.Ytbfmohkjnjmmoaa
open Go.RowKit Go.ChangeShapes Go.WideShapes Go.Deep

theorem u8_cells : Try.prog.cellsOf 5 = 1 := by kernel_rfl
/-- An argument that is a slice of bytes. -/
def ByIn (w : World) (A : Option Addr) (l : List UInt8) (c : Nat) : Prop :=
  l.length ≤ c ∧ c ≤ maxLen ∧ Rd w 1 byEnc A l

set_option maxRecDepth 100000 in
theorem open_bytes {H : Type} {enc : TypeId × Value → H} {W : World} {r : Reach} {base : Nat} {v : Value} {d : DataW H} {p : List MemPlace} {sp : Nat → Bool} {held : Bool}
    (hok : Value.okWide Try.prog W r base 22 v) (h : DataW.Trod enc Try.prog W 0 sp held 22 v d p) : ∃ A l c, v = .slice A l.length c ∧ ByIn W A l c := by
  obtain ⟨a, len, cap, rfl⟩ := okWide_slice Try.underlying22 hok
  obtain ⟨fuel, hf⟩ := h
  rcases open_slice1 Try.underlying22 u8_cells (show DataW.trod _ _ _ _ _ _ _ _ [.slice a len cap] = _ from hf) with ⟨hv, _⟩ | ⟨ad, len', cap', m, n, V, D, Pl, hv, _, hlc, hcm, hm, _, hi⟩
  · injection hv with hv
    injection hv with e1 e2 e3
    subst e1 e2 e3
    exact ⟨none, [], 0, rfl, Nat.le_refl _, Nat.zero_le _, Rd.nil_⟩
  · injection hv with hv
    injection hv with e1 e2 e3
    subst e1 e2 e3
    have hlm : len ≤ m := by rw [hm]; split <;> omega
    obtain ⟨l, hl, hq⟩ := list_of (Q := fun i (x : UInt8) => W.cell? (ad.add i) = some (.int .u8 (x.toNat : Int))) len fun i hil => by
      obtain ⟨c0, t0⟩ := hi i (by omega)
      obtain ⟨k, e0, _, z0⟩ := DataW.trod_int Try.underlying5 t0
      injection e0 with e0
      rw [e0] at c0
      have hz : IntKind.u8.min ≤ k ∧ k ≤ IntKind.u8.max := by simpa [Lit.wf] using z0
      rw [show IntKind.u8.min = 0 from rfl, show IntKind.u8.max = 255 from rfl] at hz
      refine ⟨UInt8.ofNat k.toNat, ?_⟩
      rw [c0]
      congr 2
      simp
      omega
    subst hl
    refine ⟨some ad, l, cap, rfl, hlc, hcm, fun hl0 => ?_⟩
    refine ⟨ad, rfl, ?_, fun i x hx j u hu => ?_⟩
    · have := World.block_lt_of_cell? W _ (hq 0 _ (List.getElem?_eq_getElem hl0))
      rwa [block_add] at this
    · have hj : j < 1 := by have := (List.getElem?_eq_some_iff.1 hu).1; rw [byEnc_len] at this; exact this
      obtain rfl : j = 0 := by omega
      simp [byEnc] at hu
      subst hu
      simpa using hq i x hx
end Go.Proofs.Ytbfmohkjnjmmoaa
