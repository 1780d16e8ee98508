/-
  Exact law: BinLoads. (Written by gen_exact.py.)
-/
import Derived.Test.YtkpigdohgmhlkaaPsL
namespace Go.Proofs.Ytkpigdohgmhlkaa
open Go.RowKit

set_option maxHeartbeats 8000000 in
set_option maxRecDepth 100000 in
theorem walkFnExactBinLoads (b0 p0 : Int) (A0 : Option Addr) (l0 : List Str) (c0 : Nat) (A1 : Option Addr) (l1 : List Lt) (c1 : Nat) (a2 : Int) (w : World) (h0 : PlIn w b0 p0 A0 l0 c0) (h1 : LtIn w A1 l1 c1) (_h2 : (Lit.int .i64 a2).wf = true) :
    Calls Try.prog 13 #[.agg #[.int .i64 b0, .int .i64 p0, .slice A0 l0.length c0], .slice A1 l1.length c1, .int .i64 a2] w fun e w' => e = .returned (.bool true) ∧ Below w.heap.size w w' := by
  have Hw2 := Lib.hid _h2
  clear _h2
  obtain ⟨hlc0, hcm, hs, hr⟩ := h0
  have Hr0 := Lib.hid hr
  have Hs0 := Lib.hid hs
  have Hcap0 := Lib.hid hlc0
  have hlm0 : l0.length ≤ 9223372036854775807 := by unfold maxLen at hcm; omega
  clear hr hs hcm hlc0
  obtain ⟨hlc1, hcm, hs, hr⟩ := h1
  have Hr1 := Lib.hid hr
  have Hs1 := Lib.hid hs
  have Hcap1 := Lib.hid hlc1
  have hlm1 : l1.length ≤ 9223372036854775807 := by unfold maxLen at hcm; omega
  clear hr hs hcm hlc1
  have H : Hid (Pool w (w) []) := Pool.nil_ w
  have H : Hid (Pool w (w.alloc (Obj.cells #[.int .i64 (b0), .int .i64 (p0), .slice A0 l0.length c0] 24)) [boxP (w.heap.size) (.int .i64 (b0)) (.int .i64 (p0)) (.slice A0 l0.length c0)]) := H.out.addBox (by first | rfl | simp) _ _ _ _
  by_cases hb : ¬ (strBulk l0 : Int) ≤ 1048576
  · have Hlo0 := Lib.hid (leftOf_none hb)
    clear hb
    go_enter Try.func13, Try.ntmps13
    go_wp2_with fail
    refine (lawSzPlan b0 p0 A0 l0 _ _ rfl 1048576 _ hlm0 Hs0.out (by omega) (by omega) (Hr0.out.below H.out.below)).mono ?_
    rw [Hlo0.out]
    rintro e w' ⟨rfl, hb⟩
    have H := Lib.hid (H.out.step hb)
    clear hb
    go_wp2
    go_ret
    exact ⟨rfl, H.out.below⟩
  have hb := Decidable.not_not.1 hb
  have Hlo0 := Lib.hid (leftOf_some hb)
  have hn0 : l0.length ≤ 1048576 := by have := strBulk_len l0; omega
  have Ha0 := Lib.hid (strBulk_all (l := l0) (b := 1048576) (by omega))
  obtain ⟨r0, hr, hr00, hr01⟩ : ∃ r : Int, (1048576 : Int) - strBulk l0 = r ∧ 0 ≤ r ∧ r ≤ 1048576 := ⟨_, rfl, by omega, by omega⟩
  rw [hr] at Hlo0
  clear hb hr
  by_cases hb : ¬ (ltBulk l1 : Int) ≤ r0
  · have Hlo1 := Lib.hid (leftOf_none hb)
    clear hb
    go_enter Try.func13, Try.ntmps13
    go_wp2_with fail
    refine (lawSzPlan b0 p0 A0 l0 _ _ rfl 1048576 _ hlm0 Hs0.out (by omega) (by omega) (Hr0.out.below H.out.below)).mono ?_
    rw [Hlo0.out]
    rintro e w' ⟨rfl, hb⟩
    have H := Lib.hid (H.out.step hb)
    clear hb
    go_wp2_with fail
    refine (lawSzLetterS A1 l1 _ _ rfl r0 _ hlm1 Hs1.out (by omega) (by omega) (Hr1.out.below H.out.below)).mono ?_
    rw [Hlo1.out]
    rintro e w' ⟨rfl, hb⟩
    have H := Lib.hid (H.out.step hb)
    clear hb
    go_wp2
    go_ret
    exact ⟨rfl, H.out.below⟩
  have hb := Decidable.not_not.1 hb
  have Hlo1 := Lib.hid (leftOf_some hb)
  have hn1 : l1.length ≤ 1048576 := by have := ltBulk_len l1; omega
  have Ha1 := Lib.hid (ltBulk_all (l := l1) (b := 1048576) (by omega))
  obtain ⟨r1, hr, hr10, hr11⟩ : ∃ r : Int, (r0 : Int) - ltBulk l1 = r ∧ 0 ≤ r ∧ r ≤ 1048576 := ⟨_, rfl, by omega, by omega⟩
  rw [hr] at Hlo1
  clear hb hr
  obtain ⟨r, hr⟩ : ∃ r, loadsR b0 p0 l0 l1 a2 = r := ⟨_, rfl⟩
  have hrl : r.length ≤ 1048576 := by rw [← hr]; exact loadsR_len b0 p0 l0 l1 a2
  have Hv := Lib.hid hr
  clear hr
  go_enter Try.func13, Try.ntmps13
  go_wp2_with fail
  refine (lawSzPlan b0 p0 A0 l0 _ _ rfl 1048576 _ hlm0 Hs0.out (by omega) (by omega) (Hr0.out.below H.out.below)).mono ?_
  rw [Hlo0.out]
  rintro e w1 ⟨rfl, hb⟩
  have H : Hid (Pool w (w1) [boxP (w.heap.size) (.int .i64 (b0)) (.int .i64 (p0)) (.slice A0 l0.length c0)]) := H.out.step hb
  clear hb
  go_wp2_with fail
  refine (lawSzLetterS A1 l1 _ _ rfl r0 _ hlm1 Hs1.out (by omega) (by omega) (Hr1.out.below H.out.below)).mono ?_
  rw [Hlo1.out]
  rintro e w2 ⟨rfl, hb⟩
  have H : Hid (Pool w (w2) [boxP (w.heap.size) (.int .i64 (b0)) (.int .i64 (p0)) (.slice A0 l0.length c0)]) := H.out.step hb
  clear hb
  obtain ⟨-, ca0, ca1, ca2, -⟩ := H.out.box 0 rfl
  go_wp2_with fail
  refine (lawToPlan' b0 p0 A0 l0 _ _ rfl _ (by omega) (Hr0.out.below H.out.below)).mono ?_
  rintro e w3 ⟨gS0, rfl, ho, hb⟩
  have H : Hid (Pool w (w3) [ownP 9 1 strEnc (.slice (some ⟨gS0, 0, none⟩) l0.length l0.length) (l0), boxP (w.heap.size) (.int .i64 (b0)) (.int .i64 (p0)) (.slice A0 l0.length c0)]) := H.out.addOwn hb ho
  clear ho hb ca0 ca1 ca2
  go_wp2_with fail
  refine (lawToLetterS' A1 l1 _ _ rfl _ (by omega) (Hr1.out.below H.out.below)).mono ?_
  rintro e w4 ⟨gS1, rfl, ho, hb⟩
  have H : Hid (Pool w (w4) [ownP 82 2 ltEnc (.slice (some ⟨gS1, 0, none⟩) l1.length l1.length) (l1), ownP 9 1 strEnc (.slice (some ⟨gS0, 0, none⟩) l0.length l0.length) (l0), boxP (w.heap.size) (.int .i64 (b0)) (.int .i64 (p0)) (.slice A0 l0.length c0)]) := H.out.addOwn hb ho
  clear ho hb
  go_wp2_with fail
  refine (specBinLoads b0 p0 _ _ l0 l1 _ _ _ _ rfl rfl a2 _ (by omega) (by omega) Ha0.out Ha1.out ((H.out.own 1 rfl).rd strEnc_len) ((H.out.own 0 rfl).rd ltEnc_len)).mono ?_
  rw [Hv.out]
  rintro e w5 ⟨Aw, kw, cw, rfl, ho, hb⟩
  have H : Hid (Pool w (w5) [ownP 3 1 intEnc (.slice Aw kw cw) (r), ownP 82 2 ltEnc (.slice (some ⟨gS1, 0, none⟩) l1.length l1.length) (l1), ownP 9 1 strEnc (.slice (some ⟨gS0, 0, none⟩) l0.length l0.length) (l0), boxP (w.heap.size) (.int .i64 (b0)) (.int .i64 (p0)) (.slice A0 l0.length c0)]) := H.out.addOwn hb ho
  clear ho hb
  have hkw : kw ≤ 1048576 := by have := (H.out.own 0 rfl).len; omega
  have H : Hid (Pool w (w5) [ownP 3 1 intEnc (.slice Aw kw cw) (r), ownP 82 2 ltEnc (.slice (some ⟨gS1, 0, none⟩) l1.length l1.length) (l1), boxP (w.heap.size) (.int .i64 (b0)) (.int .i64 (p0)) (.slice A0 l0.length c0)]) := H.out.drop 2
  have H : Hid (Pool w (w5) [ownP 3 1 intEnc (.slice Aw kw cw) (r), boxP (w.heap.size) (.int .i64 (b0)) (.int .i64 (p0)) (.slice A0 l0.length c0)]) := H.out.drop 1
  obtain ⟨-, ca0, ca1, ca2, -⟩ := H.out.box 1 rfl
  go_wp2_with fail
  refine (lawToPlan' b0 p0 A0 l0 _ _ rfl _ (by omega) (Hr0.out.below H.out.below)).mono ?_
  rintro e w6 ⟨gX0, rfl, ho, hb⟩
  have H : Hid (Pool w (w6) [ownP 9 1 strEnc (.slice (some ⟨gX0, 0, none⟩) l0.length l0.length) (l0), ownP 3 1 intEnc (.slice Aw kw cw) (r), boxP (w.heap.size) (.int .i64 (b0)) (.int .i64 (p0)) (.slice A0 l0.length c0)]) := H.out.addOwn hb ho
  clear ho hb ca0 ca1 ca2
  have H : Hid (Pool w (w6.alloc (Obj.cells #[.int .i64 (b0), .int .i64 (p0), .slice (some ⟨gX0, 0, none⟩) l0.length l0.length] 27)) [boxP (w6.heap.size) (.int .i64 (b0)) (.int .i64 (p0)) (.slice (some ⟨gX0, 0, none⟩) l0.length l0.length), ownP 9 1 strEnc (.slice (some ⟨gX0, 0, none⟩) l0.length l0.length) (l0), ownP 3 1 intEnc (.slice Aw kw cw) (r), boxP (w.heap.size) (.int .i64 (b0)) (.int .i64 (p0)) (.slice A0 l0.length c0)]) := H.out.addBox (by first | rfl | simp) _ _ _ _
  go_wp2_with fail
  refine (lawToLetterS' A1 l1 _ _ rfl _ (by omega) (Hr1.out.below H.out.below)).mono ?_
  rintro e w7 ⟨gX1, rfl, ho, hb⟩
  have H : Hid (Pool w (w7) [ownP 82 2 ltEnc (.slice (some ⟨gX1, 0, none⟩) l1.length l1.length) (l1), boxP (w6.heap.size) (.int .i64 (b0)) (.int .i64 (p0)) (.slice (some ⟨gX0, 0, none⟩) l0.length l0.length), ownP 9 1 strEnc (.slice (some ⟨gX0, 0, none⟩) l0.length l0.length) (l0), ownP 3 1 intEnc (.slice Aw kw cw) (r), boxP (w.heap.size) (.int .i64 (b0)) (.int .i64 (p0)) (.slice A0 l0.length c0)]) := H.out.addOwn hb ho
  clear ho hb
  obtain ⟨-, s0, s1, s2, -⟩ := H.out.box 1 rfl
  go_wp2_with fail
  refine (implBinLoads b0 p0 _ _ l0 l1 _ _ _ _ rfl rfl (Nat.le_refl _) (Nat.le_refl _) a2 _ (by omega) (by omega) Ha0.out Ha1.out ((H.out.own 2 rfl).rd strEnc_len) ((H.out.own 0 rfl).rd ltEnc_len)).mono ?_
  rw [Hv.out]
  rintro e w8 ⟨Ag, kg, cg, rfl, ho, hb⟩
  have H : Hid (Pool w (w8) [ownP 3 1 intEnc (.slice Ag kg cg) (r), ownP 82 2 ltEnc (.slice (some ⟨gX1, 0, none⟩) l1.length l1.length) (l1), boxP (w6.heap.size) (.int .i64 (b0)) (.int .i64 (p0)) (.slice (some ⟨gX0, 0, none⟩) l0.length l0.length), ownP 9 1 strEnc (.slice (some ⟨gX0, 0, none⟩) l0.length l0.length) (l0), ownP 3 1 intEnc (.slice Aw kw cw) (r), boxP (w.heap.size) (.int .i64 (b0)) (.int .i64 (p0)) (.slice A0 l0.length c0)]) := H.out.addOwn hb ho
  clear ho hb
  have hkg : kg ≤ 1048576 := by have := (H.out.own 0 rfl).len; omega
  clear s0 s1 s2
  go_wp2_with fail
  refine (lawEqIntS _ _ (r) (r) _ _ _ _ (H.out.own 0 rfl).len (H.out.own 4 rfl).len _ (by first | omega | (have := (H.out.own 0 rfl).len; omega)) (by first | omega | (have := (H.out.own 4 rfl).len; omega)) ((H.out.own 0 rfl).rd intEnc_len) ((H.out.own 4 rfl).rd intEnc_len)).mono ?_
  rw [intsEq_self]
  rintro e w9 ⟨rfl, hb⟩
  have H : Hid (Pool w (w9) [ownP 3 1 intEnc (.slice Ag kg cg) (r), ownP 82 2 ltEnc (.slice (some ⟨gX1, 0, none⟩) l1.length l1.length) (l1), boxP (w6.heap.size) (.int .i64 (b0)) (.int .i64 (p0)) (.slice (some ⟨gX0, 0, none⟩) l0.length l0.length), ownP 9 1 strEnc (.slice (some ⟨gX0, 0, none⟩) l0.length l0.length) (l0), ownP 3 1 intEnc (.slice Aw kw cw) (r), boxP (w.heap.size) (.int .i64 (b0)) (.int .i64 (p0)) (.slice A0 l0.length c0)]) := H.out.step hb
  clear hb
  have Hc := Lib.hid (H.out.box 5 rfl)
  have Hd := Lib.hid (H.out.box 2 rfl)
  obtain ⟨-, ca0, ca1, ca2, -⟩ := Hc.out
  obtain ⟨-, da0, da1, da2, -⟩ := Hd.out
  have Hr8 := Lib.hid (Hr0.out.below H.out.below)
  have HX := Lib.hid (H.out.own 3 rfl)
  go_wp2_with fail
  go_region_held3 (fun w' => w'.cell? ⟨w.heap.size, 0, none⟩ = some (.int .i64 b0) ∧ w'.cell? ⟨w.heap.size, 1, none⟩ = some (.int .i64 p0) ∧ w'.cell? ⟨w.heap.size, 2, none⟩ = some (.slice A0 l0.length c0) ∧ w'.cell? ⟨w6.heap.size, 0, none⟩ = some (.int .i64 b0) ∧ w'.cell? ⟨w6.heap.size, 1, none⟩ = some (.int .i64 p0) ∧ w'.cell? ⟨w6.heap.size, 2, none⟩ = some (.slice (some ⟨gX0, 0, none⟩) l0.length l0.length))
    (first
      | exact ⟨ca0, ca1, ca2, da0, da1, da2⟩
      | exact ⟨below_cell hb7 ca0, below_cell hb7 ca1, below_cell hb7 ca2, below_cell hb7 da0, below_cell hb7 da1, below_cell hb7 da2⟩
      | exact ⟨below_cell (below_step hb7 hb8) ca0, below_cell (below_step hb7 hb8) ca1, below_cell (below_step hb7 hb8) ca2, below_cell (below_step hb7 hb8) da0, below_cell (below_step hb7 hb8) da1, below_cell (below_step hb7 hb8) da2⟩)
    (first
      | (go_at_call 17; refine (lawToPlan b0 p0 A0 l0 _ _ rfl _ (by omega) (by first | exact Hr8.out)).mono ?_; rintro e vw10 ⟨g9, hg9, rfl, ho9, hb7'⟩; have hb7 := below_undrew hb7')
      | (go_at_call 19; refine (lawEqPlan b0 p0 _ _ l0 _ _ _ _ rfl rfl _ (by omega) ((HX.out.below hb7).rd strEnc_len) (ho9.rd strEnc_len)).mono ?_; rintro e w10 ⟨rfl, hb8⟩))
  have hb := below_step hb7 hb8
  clear hb7 hb8 ho9 hg9 ca0 ca1 ca2 da0 da1 da2 Hr8 HX Hc Hd
  have H : Hid (Pool w (w10) [ownP 3 1 intEnc (.slice Ag kg cg) (r), ownP 82 2 ltEnc (.slice (some ⟨gX1, 0, none⟩) l1.length l1.length) (l1), boxP (w6.heap.size) (.int .i64 (b0)) (.int .i64 (p0)) (.slice (some ⟨gX0, 0, none⟩) l0.length l0.length), ownP 9 1 strEnc (.slice (some ⟨gX0, 0, none⟩) l0.length l0.length) (l0), ownP 3 1 intEnc (.slice Aw kw cw) (r), boxP (w.heap.size) (.int .i64 (b0)) (.int .i64 (p0)) (.slice A0 l0.length c0)]) := H.out.step hb
  clear hb
  go_wp2_with fail
  refine (lawToLetterS' A1 l1 _ _ rfl _ (by omega) (Hr1.out.below H.out.below)).mono ?_
  rintro e w11 ⟨gY1, rfl, ho, hb⟩
  have H : Hid (Pool w (w11) [ownP 82 2 ltEnc (.slice (some ⟨gY1, 0, none⟩) l1.length l1.length) (l1), ownP 3 1 intEnc (.slice Ag kg cg) (r), ownP 82 2 ltEnc (.slice (some ⟨gX1, 0, none⟩) l1.length l1.length) (l1), boxP (w6.heap.size) (.int .i64 (b0)) (.int .i64 (p0)) (.slice (some ⟨gX0, 0, none⟩) l0.length l0.length), ownP 9 1 strEnc (.slice (some ⟨gX0, 0, none⟩) l0.length l0.length) (l0), ownP 3 1 intEnc (.slice Aw kw cw) (r), boxP (w.heap.size) (.int .i64 (b0)) (.int .i64 (p0)) (.slice A0 l0.length c0)]) := H.out.addOwn hb ho
  clear ho hb
  go_wp2_with fail
  refine (lawEqLetterS _ _ (l1) (l1) _ _ _ _ (H.out.own 2 rfl).len (H.out.own 0 rfl).len _ (by first | omega | (have := (H.out.own 2 rfl).len; omega)) (by first | omega | (have := (H.out.own 0 rfl).len; omega)) ((H.out.own 2 rfl).rd ltEnc_len) ((H.out.own 0 rfl).rd ltEnc_len)).mono ?_
  rw [ltsEq_self]
  rintro e w12 ⟨rfl, hb⟩
  have H : Hid (Pool w (w12) [ownP 82 2 ltEnc (.slice (some ⟨gY1, 0, none⟩) l1.length l1.length) (l1), ownP 3 1 intEnc (.slice Ag kg cg) (r), ownP 82 2 ltEnc (.slice (some ⟨gX1, 0, none⟩) l1.length l1.length) (l1), boxP (w6.heap.size) (.int .i64 (b0)) (.int .i64 (p0)) (.slice (some ⟨gX0, 0, none⟩) l0.length l0.length), ownP 9 1 strEnc (.slice (some ⟨gX0, 0, none⟩) l0.length l0.length) (l0), ownP 3 1 intEnc (.slice Aw kw cw) (r), boxP (w.heap.size) (.int .i64 (b0)) (.int .i64 (p0)) (.slice A0 l0.length c0)]) := H.out.step hb
  clear hb
  have H : Hid (Pool w (w12) [ownP 3 1 intEnc (.slice Ag kg cg) (r), ownP 82 2 ltEnc (.slice (some ⟨gX1, 0, none⟩) l1.length l1.length) (l1), boxP (w6.heap.size) (.int .i64 (b0)) (.int .i64 (p0)) (.slice (some ⟨gX0, 0, none⟩) l0.length l0.length), ownP 9 1 strEnc (.slice (some ⟨gX0, 0, none⟩) l0.length l0.length) (l0), ownP 3 1 intEnc (.slice Aw kw cw) (r), boxP (w.heap.size) (.int .i64 (b0)) (.int .i64 (p0)) (.slice A0 l0.length c0)]) := H.out.drop 0
  obtain ⟨-, ca0, ca1, ca2, -⟩ := H.out.box 2 rfl
  go_wp2_with fail
  refine (lawMarkPlan b0 p0 _ (l0) _ _ (1) _ _ (by omega) (by omega) (by omega) (H.out.own 3 rfl)).mono ?_
  rintro e w13 ⟨rfl, ho, hg⟩
  have H : Hid (Pool w (w13) [ownP 3 1 intEnc (.slice Ag kg cg) (r), ownP 82 2 ltEnc (.slice (some ⟨gX1, 0, none⟩) l1.length l1.length) (l1), boxP (w6.heap.size) (.int .i64 (b0)) (.int .i64 (p0)) (.slice (some ⟨gX0, 0, none⟩) l0.length l0.length), ownP 9 1 strEnc (.slice (some ⟨gX0, 0, none⟩) l0.length l0.length) (strMks (1) l0.length), ownP 3 1 intEnc (.slice Aw kw cw) (r), boxP (w.heap.size) (.int .i64 (b0)) (.int .i64 (p0)) (.slice A0 l0.length c0)]) := H.out.turnOwn 3 rfl ho hg
  clear ho hg ca0 ca1 ca2
  go_wp2_with fail
  refine (lawMarkLetterS _ (l1) _ _ (1 + l0.length) _ _ (by omega) (by omega) (by omega) (H.out.own 1 rfl)).mono ?_
  rintro e w14 ⟨rfl, ho, hg⟩
  have H : Hid (Pool w (w14) [ownP 3 1 intEnc (.slice Ag kg cg) (r), ownP 82 2 ltEnc (.slice (some ⟨gX1, 0, none⟩) l1.length l1.length) (ltMks (1 + l0.length) l1.length), boxP (w6.heap.size) (.int .i64 (b0)) (.int .i64 (p0)) (.slice (some ⟨gX0, 0, none⟩) l0.length l0.length), ownP 9 1 strEnc (.slice (some ⟨gX0, 0, none⟩) l0.length l0.length) (strMks (1) l0.length), ownP 3 1 intEnc (.slice Aw kw cw) (r), boxP (w.heap.size) (.int .i64 (b0)) (.int .i64 (p0)) (.slice A0 l0.length c0)]) := H.out.turnOwn 1 rfl ho hg
  clear ho hg
  go_wp2_with fail
  refine (lawEqIntS _ _ (r) (r) _ _ _ _ (H.out.own 0 rfl).len (H.out.own 4 rfl).len _ (by first | omega | (have := (H.out.own 0 rfl).len; omega)) (by first | omega | (have := (H.out.own 4 rfl).len; omega)) ((H.out.own 0 rfl).rd intEnc_len) ((H.out.own 4 rfl).rd intEnc_len)).mono ?_
  rw [intsEq_self]
  rintro e w15 ⟨rfl, hb⟩
  have H : Hid (Pool w (w15) [ownP 3 1 intEnc (.slice Ag kg cg) (r), ownP 82 2 ltEnc (.slice (some ⟨gX1, 0, none⟩) l1.length l1.length) (ltMks (1 + l0.length) l1.length), boxP (w6.heap.size) (.int .i64 (b0)) (.int .i64 (p0)) (.slice (some ⟨gX0, 0, none⟩) l0.length l0.length), ownP 9 1 strEnc (.slice (some ⟨gX0, 0, none⟩) l0.length l0.length) (strMks (1) l0.length), ownP 3 1 intEnc (.slice Aw kw cw) (r), boxP (w.heap.size) (.int .i64 (b0)) (.int .i64 (p0)) (.slice A0 l0.length c0)]) := H.out.step hb
  clear hb
  have H : Hid (Pool w (w15) [ownP 3 1 intEnc (.slice Ag kg cg) (r), ownP 82 2 ltEnc (.slice (some ⟨gX1, 0, none⟩) l1.length l1.length) (ltMks (1 + l0.length) l1.length), boxP (w6.heap.size) (.int .i64 (b0)) (.int .i64 (p0)) (.slice (some ⟨gX0, 0, none⟩) l0.length l0.length), ownP 3 1 intEnc (.slice Aw kw cw) (r), boxP (w.heap.size) (.int .i64 (b0)) (.int .i64 (p0)) (.slice A0 l0.length c0)]) := H.out.drop 3
  have H : Hid (Pool w (w15) [ownP 3 1 intEnc (.slice Ag kg cg) (r), ownP 82 2 ltEnc (.slice (some ⟨gX1, 0, none⟩) l1.length l1.length) (ltMks (1 + l0.length) l1.length), ownP 3 1 intEnc (.slice Aw kw cw) (r), boxP (w.heap.size) (.int .i64 (b0)) (.int .i64 (p0)) (.slice A0 l0.length c0)]) := H.out.drop 2
  have H : Hid (Pool w (w15) [ownP 3 1 intEnc (.slice Ag kg cg) (r), ownP 3 1 intEnc (.slice Aw kw cw) (r), boxP (w.heap.size) (.int .i64 (b0)) (.int .i64 (p0)) (.slice A0 l0.length c0)]) := H.out.drop 1
  go_wp2_with fail
  refine (lawMarkIntS _ (r) _ _ (1) _ _ (by omega) (by omega) (by omega) (H.out.own 0 rfl)).mono ?_
  rintro e w16 ⟨rfl, ho, hg⟩
  have H : Hid (Pool w (w16) [ownP 3 1 intEnc (.slice Ag kg cg) (intMks (1) kg), ownP 3 1 intEnc (.slice Aw kw cw) (r), boxP (w.heap.size) (.int .i64 (b0)) (.int .i64 (p0)) (.slice A0 l0.length c0)]) := H.out.turnOwn 0 rfl ho hg
  clear ho hg
  go_wp2_with fail
  refine (lawHeldIntS _ _ _ (1) _ (by omega) (by omega) (by omega) ((H.out.own 0 rfl).rd intEnc_len)).mono ?_
  rintro e w17 ⟨rfl, hb⟩
  have H : Hid (Pool w (w17) [ownP 3 1 intEnc (.slice Ag kg cg) (intMks (1) kg), ownP 3 1 intEnc (.slice Aw kw cw) (r), boxP (w.heap.size) (.int .i64 (b0)) (.int .i64 (p0)) (.slice A0 l0.length c0)]) := H.out.step hb
  clear hb
  have hqq : (((1 + kg : Nat) : Int) != ((1 + kg : Nat) : Int)) = false := by simp
  obtain ⟨-, ca0, ca1, ca2, -⟩ := H.out.box 2 rfl
  go_wp2_with fail
  refine (lawToPlan' b0 p0 A0 l0 _ _ rfl _ (by omega) (Hr0.out.below H.out.below)).mono ?_
  rintro e w18 ⟨gS0, rfl, ho, hb⟩
  have H : Hid (Pool w (w18) [ownP 9 1 strEnc (.slice (some ⟨gS0, 0, none⟩) l0.length l0.length) (l0), ownP 3 1 intEnc (.slice Ag kg cg) (intMks (1) kg), ownP 3 1 intEnc (.slice Aw kw cw) (r), boxP (w.heap.size) (.int .i64 (b0)) (.int .i64 (p0)) (.slice A0 l0.length c0)]) := H.out.addOwn hb ho
  clear ho hb ca0 ca1 ca2
  go_wp2_with fail
  refine (lawToLetterS' A1 l1 _ _ rfl _ (by omega) (Hr1.out.below H.out.below)).mono ?_
  rintro e w19 ⟨gS1, rfl, ho, hb⟩
  have H : Hid (Pool w (w19) [ownP 82 2 ltEnc (.slice (some ⟨gS1, 0, none⟩) l1.length l1.length) (l1), ownP 9 1 strEnc (.slice (some ⟨gS0, 0, none⟩) l0.length l0.length) (l0), ownP 3 1 intEnc (.slice Ag kg cg) (intMks (1) kg), ownP 3 1 intEnc (.slice Aw kw cw) (r), boxP (w.heap.size) (.int .i64 (b0)) (.int .i64 (p0)) (.slice A0 l0.length c0)]) := H.out.addOwn hb ho
  clear ho hb
  go_wp2_with fail
  refine (implBinLoads b0 p0 _ _ l0 l1 _ _ _ _ rfl rfl (Nat.le_refl _) (Nat.le_refl _) a2 _ (by omega) (by omega) Ha0.out Ha1.out ((H.out.own 1 rfl).rd strEnc_len) ((H.out.own 0 rfl).rd ltEnc_len)).mono ?_
  rw [Hv.out]
  rintro e w20 ⟨Ah, kh, ch, rfl, ho, hb⟩
  have H : Hid (Pool w (w20) [ownP 3 1 intEnc (.slice Ah kh ch) (r), ownP 82 2 ltEnc (.slice (some ⟨gS1, 0, none⟩) l1.length l1.length) (l1), ownP 9 1 strEnc (.slice (some ⟨gS0, 0, none⟩) l0.length l0.length) (l0), ownP 3 1 intEnc (.slice Ag kg cg) (intMks (1) kg), ownP 3 1 intEnc (.slice Aw kw cw) (r), boxP (w.heap.size) (.int .i64 (b0)) (.int .i64 (p0)) (.slice A0 l0.length c0)]) := H.out.addOwn hb ho
  clear ho hb
  have hkh : kh ≤ 1048576 := by have := (H.out.own 0 rfl).len; omega
  have H : Hid (Pool w (w20) [ownP 3 1 intEnc (.slice Ah kh ch) (r), ownP 82 2 ltEnc (.slice (some ⟨gS1, 0, none⟩) l1.length l1.length) (l1), ownP 3 1 intEnc (.slice Ag kg cg) (intMks (1) kg), ownP 3 1 intEnc (.slice Aw kw cw) (r), boxP (w.heap.size) (.int .i64 (b0)) (.int .i64 (p0)) (.slice A0 l0.length c0)]) := H.out.drop 2
  have H : Hid (Pool w (w20) [ownP 3 1 intEnc (.slice Ah kh ch) (r), ownP 3 1 intEnc (.slice Ag kg cg) (intMks (1) kg), ownP 3 1 intEnc (.slice Aw kw cw) (r), boxP (w.heap.size) (.int .i64 (b0)) (.int .i64 (p0)) (.slice A0 l0.length c0)]) := H.out.drop 1
  go_wp2_with fail
  refine (lawEqIntS _ _ (r) (r) _ _ _ _ (H.out.own 0 rfl).len (H.out.own 2 rfl).len _ (by first | omega | (have := (H.out.own 0 rfl).len; omega)) (by first | omega | (have := (H.out.own 2 rfl).len; omega)) ((H.out.own 0 rfl).rd intEnc_len) ((H.out.own 2 rfl).rd intEnc_len)).mono ?_
  rw [intsEq_self]
  rintro e w21 ⟨rfl, hb⟩
  have H : Hid (Pool w (w21) [ownP 3 1 intEnc (.slice Ah kh ch) (r), ownP 3 1 intEnc (.slice Ag kg cg) (intMks (1) kg), ownP 3 1 intEnc (.slice Aw kw cw) (r), boxP (w.heap.size) (.int .i64 (b0)) (.int .i64 (p0)) (.slice A0 l0.length c0)]) := H.out.step hb
  clear hb
  go_wp2_with fail
  refine (lawHeldIntS _ _ _ (1) _ (by omega) (by omega) (by omega) ((H.out.own 1 rfl).rd intEnc_len)).mono ?_
  rintro e w22 ⟨rfl, hb⟩
  have H : Hid (Pool w (w22) [ownP 3 1 intEnc (.slice Ah kh ch) (r), ownP 3 1 intEnc (.slice Ag kg cg) (intMks (1) kg), ownP 3 1 intEnc (.slice Aw kw cw) (r), boxP (w.heap.size) (.int .i64 (b0)) (.int .i64 (p0)) (.slice A0 l0.length c0)]) := H.out.step hb
  clear hb
  go_wp2
  go_ret
  exact ⟨rfl, H.out.below⟩
end Go.Proofs.Ytkpigdohgmhlkaa
