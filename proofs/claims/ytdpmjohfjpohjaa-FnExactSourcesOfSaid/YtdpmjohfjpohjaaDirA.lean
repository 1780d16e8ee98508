/-
  Direct orders: the program's.
-/
import Derived.Test.YtdpmjohfjpohjaaDirM
import Derived.Test.YtdpmjohfjpohjaaSrt
import Derived.Test.YtdpmjohfjpohjaaShelf
import Derived.Test.YtdpmjohfjpohjaaAppL
import Derived.Shelf.SlSortCmp.WholeK
import Derived.Shelf.SlSortCmp.NoneTotal
namespace Go.Proofs.Ytdpmjohfjpohjaa
open Go.RowKit Go.Sort

set_option maxHeartbeats 1000000 in
set_option maxRecDepth 100000 in
theorem dirClosure (x y : Fw) (W : World) : Calls Try.prog 61 #[.agg #[.string x.1, .string x.2], .agg #[.string y.1, .string y.2]] W fun e w' => e = .returned (.int .i64 (fwCf x y)) ∧ ∃ q os', w' = grow (W.drewN q) os' := by
  have hcon := fun W' => Try.strings_Compare x.1 y.1 W'
  change ∀ W', Calls Try.prog 62 _ _ _ at hcon
  have Hr : Hid (fwCf x y = Lib.compareBytes x.1.data.toList y.1.data.toList) := rfl
  obtain ⟨r, hr⟩ : ∃ r, Lib.compareBytes x.1.data.toList y.1.data.toList = r := ⟨_, rfl⟩
  rw [hr] at hcon Hr
  clear hr
  go_enter Try.func61, Try.ntmps61
  go_wp2_with (go_at_call 62; refine (hcon _).mono ?_; rintro e w' ⟨rfl, rfl⟩)
  go_ret
  exact ⟨ret_int Hr.out.symm, 0, _, by rw [alloc_eq_grow, alloc_eq_grow, grow_grow]; rfl⟩

theorem sliceSortFw (g n cap base : Nat) (l : List Fw) (w : World) (hn : n ≤ 16777216) (h : Own w base 52 2 fwEnc (.slice (some ⟨g, 0, none⟩) n cap) l) :
    Calls Try.prog 60 #[.slice (some ⟨g, 0, none⟩) n cap, .func (.func 61) #[] #[]] w fun e w' => e = .returned (.tuple #[]) ∧
      ∃ l', l'.Perm l ∧ (l'.Pairwise fun x y => sLe x.1 y.1 = true) ∧ Own w' base 52 2 fwEnc (.slice (some ⟨g, 0, none⟩) n cap) l' ∧ w.grownBy w' (some g) := by
  have hl := h.len
  have hg := (h.lt g rfl).2
  have eg : ∀ args w, (callFunc 61 args).run Try.prog w = .ok (.enter 61 args) w := enters_of Try.func61 (by kernel_rfl) rfl
  have hcmp : CmpLays Try.prog 61 #[] fwEnc 2 fwCf g 0 l.toArray.size w := fun _ _ _ _ x y => dirClosure x y _
  have hcon := Try.slices_SortFunc 2 Try.isAgg52 Try.sizeOf52 fwEnc fwEnc_len fwEnc_one fwCf fwSWO 61 #[] g 0 cap l.toArray w eg hcmp (holdsK_of_own (by decide) fwEnc_len h) hg (by rw [List.size_toArray]; omega)
  rw [List.size_toArray, ← hl] at hcon
  refine hcon.mono ?_
  rintro e w' ⟨rfl, d', q, os, hp, hs, rfl⟩
  obtain ⟨hsz, -, hperm⟩ := hp
  rw [List.size_toArray] at hsz
  have hd : d'.toList.length = l.length := by simpa using hsz
  obtain ⟨h1, h2⟩ := sorted_own (q := q) (os := os) (by decide) fwEnc_len h (l' := d'.toList) hd
  refine ⟨rfl, d'.toList, ?_, ?_, by simpa using h1, by simpa using h2⟩
  · have hsz' : d'.size = n := by rw [hl]; simpa using hsz
    have e1 : d'.extract 0 n = d' := by rw [← hsz']; exact Array.extract_size
    have e2 : l.toArray.extract 0 n = l.toArray := by rw [hl, show l.length = l.toArray.size from rfl]; exact Array.extract_size
    rw [e1, e2] at hperm
    simpa using hperm
  · rw [List.pairwise_iff_getElem]
    intro i j hi hj hij
    have hj' : j < d'.size := by simpa using hj
    have hi' : i < d'.size := by simpa using hi
    have := hs i j (Nat.zero_le _) hij (by omega)
    rw [fwLt_eq, getElem!_pos _ i hi', getElem!_pos _ j hj'] at this
    simpa using this
theorem sortFwNil (p : Option Addr) (cap : Nat) (fv : Value) (w : World) :
    Calls Try.prog 60 #[.slice p 0 cap, fv] w fun e w' => e = .returned (.tuple #[]) ∧ w' = w :=
  Try.slices_SortFunc_none (α := Nat) p cap fv w
end Go.Proofs.Ytdpmjohfjpohjaa
