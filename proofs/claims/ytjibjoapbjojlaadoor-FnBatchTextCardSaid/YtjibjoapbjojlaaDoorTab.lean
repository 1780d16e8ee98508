/-
  The table of the powers of ten, out of a row's list of variables (it stands third).
-/
import Derived.Test.YtjibjoapbjojlaaDoorRows
import Derived.Lib.LaidTab
import Derived.LaidLaws
import Derived.Shelf.Strconv.Itoa3
namespace Go.Proofs.YtjibjoapbjojlaaDoor
open Go

theorem tabIs_third {P : Program} {W : World} {a b : String × DataW Unit} {name : String} {k : IntKind} {zs : List Int} {rest : List (String × DataW Unit)} {g : Nat} {t e : TypeId} {n : Nat}
    (hg : P.globalNamed name = some g) (hty : (P.globals[g]?).map (·.type) = some t) (ht : P.underlying t = some (.array n e)) (he : P.underlying e = some (.int k)) (hce : P.cellsOf e = 1) (hct : P.cellsOf t = n)
    (h : laidMet P (a :: b :: (name, Lib.tabData k zs) :: rest) W) : Lib.TabIs P W name k zs := by
  obtain ⟨a1, a2⟩ := a
  obtain ⟨b1, b2⟩ := b
  obtain ⟨ps, ⟨_, _, _, _, _, _, _, _, _, _, ⟨_, _, _, _, _, _, _, _, _, _, ⟨g', t', cs, fuel, p, q, hg', ht', hvar, hd, _, _⟩, _⟩, _⟩, _, _⟩ := h
  obtain rfl := Option.some.inj (hg.symm.trans hg')
  obtain rfl := Option.some.inj (hty.symm.trans ht')
  unfold Lib.TabIs
  rw [hvar, ← Lib.cells_of_tab ht he hce hct hd]

theorem pow10_datum : Rows.laid_internal_strconv_uint64pow10 (H := Unit) = Lib.tabData .u64 Lib.pow10Tab := by rfl
theorem pow10_tab {a b : String × DataW Unit} {rest : List (String × DataW Unit)} {W : World} (hp : ((a :: b :: ("internal/strconv.uint64pow10", Rows.laid_internal_strconv_uint64pow10) :: rest).filter fun x => x.2.handleName?.isSome) = [])
    (h : laidMetH Tryd.prog (a :: b :: ("internal/strconv.uint64pow10", Rows.laid_internal_strconv_uint64pow10) :: rest) W) : Lib.TabIs Tryd.prog W "internal/strconv.uint64pow10" .u64 Lib.pow10Tab := by
  unfold laidMetH at h
  rw [hp] at h
  rw [pow10_datum] at h
  exact tabIs_third (t := 135) (e := 119) (show Tryd.prog.globalNamed "internal/strconv.uint64pow10" = some 3 by kernel_rfl) (by kernel_rfl) Tryd.underlying135 Tryd.underlying119 (by kernel_rfl) (by kernel_rfl) h
theorem pow10_batch {W : World} (h : laidMetH Tryd.prog Rows.fnExactParseBatchRow.laid W) : Lib.TabIs Tryd.prog W "internal/strconv.uint64pow10" .u64 Lib.pow10Tab := pow10_tab (by kernel_rfl) h
end Go.Proofs.YtjibjoapbjojlaaDoor
