/-
  Exact laws on a plan and a batch that only look: TreatCount. (Written by gen_plb.py.)
-/
import Derived.Test.YtkpigdohgmhlkaaPlU
import Derived.Test.YtkpigdohgmhlkaaPlE
namespace Go.Proofs.Ytkpigdohgmhlkaa
open Go.RowKit

set_option maxHeartbeats 4000000 in
theorem walkFnExactTreatCount (b p : Int) (A : Option Addr) (l : List Str) (c : Nat) (B : Option Addr) (m : List Lt) (cm : Nat) (w : World) (h : PlIn w b p A l c) (hm : LtIn w B m cm) :
    Calls Try.prog 10 #[.agg #[.int .i64 b, .int .i64 p, .slice A l.length c], .slice B m.length cm] w fun e w' => e = .returned (.bool true) ∧ Below w.heap.size w w' := by
  obtain ⟨hlc, hcm, hs, hr⟩ := h
  obtain ⟨hlc', hcm', hs', hr'⟩ := hm
  have Hr := Lib.hid hr
  have Hs := Lib.hid hs
  have Hm := Lib.hid hr'
  have Hsm := Lib.hid hs'
  have hlm : l.length ≤ 9223372036854775807 := by unfold maxLen at hcm; omega
  have hmm : m.length ≤ 9223372036854775807 := by unfold maxLen at hcm'; omega
  clear hr hs hcm hr' hs' hcm'
  have hb1 : ∀ o, Below w.heap.size w (w.alloc o) := fun o => (Below.refl _ _).alloc (Nat.le_refl _) _
  by_cases hb : (strBulk l : Int) ≤ 1048576
  · have Hlo := Lib.hid (leftOf_some hb)
    have hn : l.length ≤ 1048576 := by have := strBulk_len l; omega
    have Ha := Lib.hid (strBulk_all (l := l) (b := 1048576) (by omega))
    obtain ⟨r, hr, hr0, hr1⟩ : ∃ r : Int, (1048576 : Int) - strBulk l = r ∧ 0 ≤ r ∧ r ≤ 1048576 := ⟨_, rfl, by omega, by omega⟩
    rw [hr] at Hlo
    clear hb hr
    by_cases hb : (ltBulk m : Int) ≤ r
    · have Hlm := Lib.hid (leftOf_some hb)
      have hk : m.length ≤ 1048576 := by have := ltBulk_len m; omega
      have Ham := Lib.hid (ltBulk_all (l := m) (b := 1048576) (by omega))
      obtain ⟨r2, hr2, hr3⟩ : ∃ r2 : Int, r - ltBulk m = r2 ∧ 0 ≤ r2 := ⟨_, rfl, by omega⟩
      rw [hr2] at Hlm
      clear hb hr2
      obtain ⟨v, hv⟩ : ∃ v, treatVal b p l m = v := ⟨_, rfl⟩
      have Hv := Lib.hid hv
      clear hv
      have hvv : (v != v) = false := by simp
      go_enter Try.func10, Try.ntmps10
      go_wp2_with fail
      refine (lawSzPlan b p A l _ _ rfl 1048576 _ hlm Hs.out (by omega) (by omega) (Hr.out.below (hb1 _))).mono ?_
      rw [Hlo.out]
      rintro e w0 ⟨rfl, hbw⟩
      have K0 := Lib.hid (heap_of_below hbw (g := w.heap.size) (by simp) (heap_new _ _))
      have hb0 : Below w.heap.size w w0 := below_step (hb1 _) hbw
      have Hm0 := Lib.hid (Hm.out.below hb0)
      have hgs0 : w.heap.size < w0.heap.size := by have := hbw.size; simp at this; omega
      clear hbw hb1
      go_wp2_with fail
      refine (lawSzLetterS B m _ _ rfl r _ hmm Hsm.out hr0 hr1 Hm0.out).mono ?_
      rw [Hlm.out]
      rintro e w1 ⟨rfl, hbw⟩
      have K1 := Lib.hid (heap_of_below hbw hgs0 K0.out)
      have hb1 : Below w.heap.size w w1 := below_step hb0 hbw
      have Hr1 := Lib.hid (Hr.out.below hb1)
      have Hm1 := Lib.hid (Hm.out.below hb1)
      have hgs : w.heap.size < w1.heap.size := by have := hbw.size; omega
      clear hbw hb0
      obtain ⟨c0, c1, c2⟩ := box3 K1.out
      go_wp2_with fail
      refine (lawToPlan b p A l _ _ rfl _ (by omega) Hr1.out).mono ?_
      rintro e w2 ⟨g2, hg2, rfl, ho2, hb2⟩
      have Ho2 := Lib.hid ho2
      have Hm2 := Lib.hid (Hm1.out.below hb2)
      clear ho2
      go_wp2_with fail
      refine (lawToLetterS B m _ _ rfl _ (by omega) Hm2.out).mono ?_
      rintro e w2' ⟨rfl, hp2, hb2'⟩
      have Ho2' := Lib.hid (Ho2.out.below hb2')
      have Hp2 := Lib.hid hp2
      clear hp2
      go_wp2_with fail
      refine (specTreatCount b p _ _ l m _ _ _ _ rfl rfl _ (by omega) (by omega) Ha.out Ham.out (Ho2'.out.rd strEnc_len) (Hp2.out.rd ltEnc_len)).mono ?_
      rw [Hv.out]
      rintro e w3 ⟨rfl, hb3⟩
      have hb13 := below_step hb2 (below_step hb2' hb3)
      have K3 := Lib.hid (heap_of_below hb13 hgs K1.out)
      have Hr3 := Lib.hid (Hr1.out.below hb13)
      have Hm3 := Lib.hid (Hm1.out.below hb13)
      clear c0 c1 c2 hb2 hb2' hb3
      obtain ⟨c0, c1, c2⟩ := box3 K3.out
      have hgs3 : w.heap.size < w3.heap.size := by have := hb13.size; omega
      go_wp2_with fail
      refine (lawToPlan b p A l _ _ rfl _ (by omega) Hr3.out).mono ?_
      rintro e w4 ⟨g4, hg4, rfl, ho4, hb4⟩
      have Ho4 := Lib.hid ho4
      clear ho4
      go_wp2_with fail
      have hb5 := (Below.refl w4.heap.size w4).alloc (Nat.le_refl _) (Obj.cells #[.int .i64 b, .int .i64 p, .slice (some ⟨g4, 0, none⟩) l.length l.length] 27)
      refine (lawToLetterS B m _ _ rfl _ (by omega) (Hm3.out.below (below_step hb4 hb5))).mono ?_
      simp only [World.size_alloc]
      rintro e w4' ⟨rfl, hp4, hb4'⟩
      have J4 := Lib.hid (heap_of_below (B := w4.heap.size + 1) hb4' (g := w4.heap.size) (Nat.lt_succ_self _) (heap_new _ _))
      have hb45 := hb5.trans (hb4'.mono (Nat.le_succ _))
      have Ho4' := Lib.hid (Ho4.out.below hb45)
      have Hp4 := Lib.hid hp4
      have hlt4 : w4.heap.size < w4'.heap.size := by have := hb4'.size; rw [World.size_alloc] at this; omega
      clear hp4
      obtain ⟨d0, d1, d2⟩ := box3 J4.out
      go_wp2_with fail
      refine (implTreatCount b p _ _ l m _ _ _ _ rfl rfl (Nat.le_refl _) (Nat.le_refl _) _ (by omega) (by omega) Ha.out Ham.out (Ho4'.out.rd strEnc_len) (Hp4.out.rd ltEnc_len)).mono ?_
      rw [Hv.out]
      rintro e w5 ⟨rfl, hb6⟩
      have hb46 := below_step hb45 hb6
      have hb35 := below_step hb4 hb46
      have K5 := Lib.hid (heap_of_below hb35 hgs3 K3.out)
      have J5 := Lib.hid (heap_of_below hb6 hlt4 J4.out)
      have Hr5 := Lib.hid (Hr3.out.below hb35)
      have Hm5 := Lib.hid (Hm3.out.below hb35)
      have Ho5 := Lib.hid (Ho4.out.below hb46)
      have Hp5 := Lib.hid (Hp4.out.below hb6)
      have hlt5 : w4.heap.size < w5.heap.size := by have := hb6.size; omega
      have hg5 : w.heap.size < w5.heap.size := by have := hb35.size; omega
      have hb15 := below_step hb13 hb35
      clear c0 c1 c2 d0 d1 d2 hb4 hb5 hb6 hb46 hb35 hb45 hb4'
      obtain ⟨c0, c1, c2⟩ := box3 K5.out
      obtain ⟨d0, d1, d2⟩ := box3 J5.out
      go_wp2_with fail
      go_region_held3 (fun w' => w'.cell? ⟨w.heap.size, 0, none⟩ = some (.int .i64 b) ∧ w'.cell? ⟨w.heap.size, 1, none⟩ = some (.int .i64 p) ∧ w'.cell? ⟨w.heap.size, 2, none⟩ = some (.slice A l.length c) ∧ w'.cell? ⟨w4.heap.size, 0, none⟩ = some (.int .i64 b) ∧ w'.cell? ⟨w4.heap.size, 1, none⟩ = some (.int .i64 p) ∧ w'.cell? ⟨w4.heap.size, 2, none⟩ = some (.slice (some ⟨g4, 0, none⟩) l.length l.length))
        (first
          | exact ⟨c0, c1, c2, d0, d1, d2⟩
          | exact ⟨below_cell hb7 c0, below_cell hb7 c1, below_cell hb7 c2, below_cell hb7 d0, below_cell hb7 d1, below_cell hb7 d2⟩
          | exact ⟨below_cell (below_step hb7 hb8) c0, below_cell (below_step hb7 hb8) c1, below_cell (below_step hb7 hb8) c2, below_cell (below_step hb7 hb8) d0, below_cell (below_step hb7 hb8) d1, below_cell (below_step hb7 hb8) d2⟩)
        (first
          | (go_at_call 17; refine (lawToPlan b p A l _ _ rfl _ (by omega) (by first | exact Hr5.out)).mono ?_; rintro e w6 ⟨g6, hg6, rfl, ho6, hb7'⟩; have hb7 := below_undrew hb7')
          | (go_at_call 19; refine (lawEqPlan b p _ _ l _ _ _ _ rfl rfl _ (by omega) ((Ho5.out.below hb7).rd strEnc_len) (ho6.rd strEnc_len)).mono ?_; rintro e w7 ⟨rfl, hb8⟩))
      have hb9 := below_step hb7 hb8
      have Hm7 := Lib.hid (Hm5.out.below hb9)
      have Hp7 := Lib.hid (Hp5.out.below hb9)
      clear c0 c1 c2 d0 d1 d2 hb7 hb8
      go_wp2_with fail
      refine (lawToLetterS B m _ _ rfl _ (by omega) Hm7.out).mono ?_
      rintro e w8 ⟨rfl, hp8, hb10⟩
      have Hp8 := Lib.hid hp8
      have Hp9 := Lib.hid (Hp7.out.below hb10)
      clear hp8
      go_wp2_with fail
      refine (lawEqLetterS _ _ m m _ _ _ _ rfl rfl _ (by omega) (by omega) (Hp9.out.rd ltEnc_len) (Hp8.out.rd ltEnc_len)).mono ?_
      rw [ltsEq_self]
      rintro e w9 ⟨rfl, hb11⟩
      go_wp2
      go_ret
      exact ⟨rfl, below_step hb1 (below_step hb15 (below_step hb9 (below_step hb10 hb11)))⟩
    · have Hlm := Lib.hid (leftOf_none hb)
      clear hb
      go_enter Try.func10, Try.ntmps10
      go_wp2_with fail
      refine (lawSzPlan b p A l _ _ rfl 1048576 _ hlm Hs.out (by omega) (by omega) (Hr.out.below (hb1 _))).mono ?_
      rw [Hlo.out]
      rintro e w0 ⟨rfl, hbw⟩
      have hb0 : Below w.heap.size w w0 := below_step (hb1 _) hbw
      have Hm0 := Lib.hid (Hm.out.below hb0)
      clear hbw hb1
      go_wp2_with fail
      refine (lawSzLetterS B m _ _ rfl r _ hmm Hsm.out hr0 hr1 Hm0.out).mono ?_
      rw [Hlm.out]
      rintro e w1 ⟨rfl, hbw⟩
      go_wp2
      go_ret
      exact ⟨rfl, below_step hb0 hbw⟩
  · have Hlo := Lib.hid (leftOf_none hb)
    clear hb
    go_enter Try.func10, Try.ntmps10
    go_wp2_with (go_at_call 15; refine (lawSzPlan b p A l _ _ rfl 1048576 _ hlm Hs.out (by omega) (by omega) (Hr.out.below (hb1 _))).mono ?_; rw [Hlo.out]; rintro e w1 ⟨rfl, hbw⟩)
    go_ret
    exact ⟨rfl, below_step (hb1 _) hbw⟩
end Go.Proofs.Ytkpigdohgmhlkaa
