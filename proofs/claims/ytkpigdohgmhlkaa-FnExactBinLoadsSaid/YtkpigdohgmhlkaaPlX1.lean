/-
  Exact laws on plans that only look: PlanValid.
-/
import Derived.Test.YtkpigdohgmhlkaaPlR
import Derived.Test.YtkpigdohgmhlkaaPlO
import Derived.Deep.RegionHeld3
namespace Go.Proofs.Ytkpigdohgmhlkaa
open Go.RowKit

theorem box3 {w : World} {g : Nat} {a b c : Value} {t : TypeId} (h : w.heap[g]? = some (.cells #[a, b, c] t (0, 0))) : w.cell? ⟨g, 0, none⟩ = some a ∧ w.cell? ⟨g, 1, none⟩ = some b ∧ w.cell? ⟨g, 2, none⟩ = some c :=
  ⟨(cells_of_heap h 0).1, (cells_of_heap h 1).1, (cells_of_heap h 2).1⟩
theorem below_undrew {w w' : World} (h : Below w.drew.heap.size w.drew w') : Below w.heap.size w w' := ⟨h.os, h.tape, h.output, h.size, h.block⟩
theorem heap_new (w : World) (o : Obj) : (w.alloc o).heap[w.heap.size]? = some o := by
  show (w.heap.push o)[w.heap.size]? = _
  simp

set_option maxHeartbeats 2000000 in
theorem walkFnExactPlanValid (b p : Int) (A : Option Addr) (l : List Str) (c : Nat) (w : World) (h : PlIn w b p A l c) :
    Calls Try.prog 3 #[.agg #[.int .i64 b, .int .i64 p, .slice A l.length c]] w fun e w' => e = .returned (.bool true) ∧ Below w.heap.size w w' := by
  obtain ⟨hlc, hcm, hs, hr⟩ := h
  have Hr := Lib.hid hr
  have Hs := Lib.hid hs
  have hlm : l.length ≤ 9223372036854775807 := by unfold maxLen at hcm; omega
  clear hr hs hcm
  have hb1 : ∀ o, Below w.heap.size w (w.alloc o) := fun o => (Below.refl _ _).alloc (Nat.le_refl _) _
  by_cases hb : (strBulk l : Int) ≤ 1048576
  · have Hlo := Lib.hid (leftOf_some hb)
    have hn : l.length ≤ 1048576 := by have := strBulk_len l; omega
    have Ha := Lib.hid (strBulk_all (l := l) (b := 1048576) (by omega))
    obtain ⟨r, hr, hr0⟩ : ∃ r : Int, (1048576 : Int) - strBulk l = r ∧ 0 ≤ r := ⟨_, rfl, by omega⟩
    rw [hr] at Hlo
    clear hb hr
    obtain ⟨v, hv⟩ : ∃ v, planOk b p l = v := ⟨_, rfl⟩
    have Hv := Lib.hid hv
    clear hv
    have hvv : (v != v) = false := by simp
    go_enter Try.func3, Try.ntmps3
    go_wp2_with fail
    refine (lawSzPlan b p A l _ _ rfl 1048576 _ hlm Hs.out (by omega) (by omega) (Hr.out.below (hb1 _))).mono ?_
    rw [Hlo.out]
    rintro e w1 ⟨rfl, hbw⟩
    have K1 := Lib.hid (heap_of_below hbw (g := w.heap.size) (by simp) (heap_new _ _))
    have hb1 : Below w.heap.size w w1 := below_step (hb1 _) hbw
    have Hr1 := Lib.hid (Hr.out.below hb1)
    have hgs : w.heap.size < w1.heap.size := by have := hbw.size; simp at this; omega
    clear hbw
    obtain ⟨c0, c1, c2⟩ := box3 K1.out
    go_wp2_with fail
    refine (lawToPlan b p A l _ _ rfl _ (by omega) Hr1.out).mono ?_
    rintro e w2 ⟨g2, hg2, rfl, ho2, hb2⟩
    have Ho2 := Lib.hid ho2
    clear ho2
    go_wp2_with fail
    refine (specPlanValid b p _ l _ _ rfl _ (by omega) Ha.out (Ho2.out.rd strEnc_len)).mono ?_
    rw [Hv.out]
    rintro e w3 ⟨rfl, hb3⟩
    have hb13 := below_step hb2 hb3
    have K3 := Lib.hid (heap_of_below hb13 hgs K1.out)
    have Hr3 := Lib.hid (Hr1.out.below hb13)
    clear c0 c1 c2
    obtain ⟨c0, c1, c2⟩ := box3 K3.out
    have hgs3 : w.heap.size < w3.heap.size := by have := hb13.size; omega
    go_wp2_with fail
    refine (lawToPlan b p A l _ _ rfl _ (by omega) Hr3.out).mono ?_
    rintro e w4 ⟨g4, hg4, rfl, ho4, hb4⟩
    have Ho4 := Lib.hid ho4
    clear ho4
    go_wp2_with fail
    have hb5 := (Below.refl w4.heap.size w4).alloc (Nat.le_refl _) (Obj.cells #[.int .i64 b, .int .i64 p, .slice (some ⟨g4, 0, none⟩) l.length l.length] 27)
    refine (implPlanValid b p _ l _ _ rfl (Nat.le_refl _) _ (by omega) Ha.out ((Ho4.out.below hb5).rd strEnc_len)).mono ?_
    rw [Hv.out]
    rintro e w5 ⟨rfl, hb6⟩
    have hb35 := below_step hb4 (below_step hb5 hb6)
    have hb46 := below_step hb5 hb6
    have K5 := Lib.hid (heap_of_below hb35 hgs3 K3.out)
    have J5 := Lib.hid (heap_of_below hb6 (g := w4.heap.size) (by simp) (heap_new _ _))
    have Hr5 := Lib.hid (Hr3.out.below hb35)
    have Ho5 := Lib.hid (Ho4.out.below hb46)
    have hlt5 : w4.heap.size < w5.heap.size := by have := hb6.size; simp at this; omega
    have hg5 : w.heap.size < w5.heap.size := by have := hb35.size; omega
    have hb15 := below_step hb13 hb35
    clear c0 c1 c2 hb4 hb5 hb6 hb46 hb35 hb3 hb2
    obtain ⟨c0, c1, c2⟩ := box3 K5.out
    obtain ⟨d0, d1, d2⟩ := box3 J5.out
    go_wp2_with fail
    go_region_held3 (fun w' => w'.cell? ⟨w.heap.size, 0, none⟩ = some (.int .i64 b) ∧ w'.cell? ⟨w.heap.size, 1, none⟩ = some (.int .i64 p) ∧ w'.cell? ⟨w.heap.size, 2, none⟩ = some (.slice A l.length c) ∧ w'.cell? ⟨w4.heap.size, 0, none⟩ = some (.int .i64 b) ∧ w'.cell? ⟨w4.heap.size, 1, none⟩ = some (.int .i64 p) ∧ w'.cell? ⟨w4.heap.size, 2, none⟩ = some (.slice (some ⟨g4, 0, none⟩) l.length l.length))
      (first
        | exact ⟨c0, c1, c2, d0, d1, d2⟩
        | exact ⟨below_cell hb7 c0, below_cell hb7 c1, below_cell hb7 c2, below_cell hb7 d0, below_cell hb7 d1, below_cell hb7 d2⟩
        | exact ⟨below_cell (below_step hb7 hb8) c0, below_cell (below_step hb7 hb8) c1, below_cell (below_step hb7 hb8) c2, below_cell (below_step hb7 hb8) d0, below_cell (below_step hb7 hb8) d1, below_cell (below_step hb7 hb8) d2⟩)
      (first
        | (go_at_call 17; refine (lawToPlan b p A l _ _ rfl _ (by omega) (by first | exact Hr5.out)).mono ?_; rintro e w6 ⟨g6, hg6, rfl, ho6, hb7'⟩; have hb7 := below_undrew hb7')
        | (go_at_call 19; refine (lawEqPlan b p _ _ l _ _ _ _ rfl rfl _ (by omega) ((Ho5.out.below hb7).rd strEnc_len) (ho6.rd strEnc_len)).mono ?_; rintro e w7 ⟨rfl, hb8⟩))
    go_wp2
    go_ret
    exact ⟨rfl, below_step hb1 (below_step hb15 (below_step hb7 hb8))⟩
  · have Hlo := Lib.hid (leftOf_none hb)
    clear hb
    go_enter Try.func3, Try.ntmps3
    go_wp2_with (go_at_call 15; refine (lawSzPlan b p A l _ _ rfl 1048576 _ hlm Hs.out (by omega) (by omega) (Hr.out.below (hb1 _))).mono ?_; rw [Hlo.out]; rintro e w1 ⟨rfl, hbw⟩)
    go_ret
    exact ⟨rfl, below_step (hb1 _) hbw⟩
end Go.Proofs.Ytkpigdohgmhlkaa
