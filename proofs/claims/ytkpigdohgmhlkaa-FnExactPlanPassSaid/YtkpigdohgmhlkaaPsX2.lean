/-
  Exact law: PlanPass. (Written by gen_exact.py.)
-/
import Derived.Test.YtkpigdohgmhlkaaPsG
namespace Go.Proofs.Ytkpigdohgmhlkaa
open Go.RowKit

set_option maxHeartbeats 8000000 in
set_option maxRecDepth 100000 in
theorem walkFnExactPlanPass (b0 p0 : Int) (A0 : Option Addr) (l0 : List Str) (c0 : Nat) (A1 : Option Addr) (l1 : List Lt) (c1 : Nat) (a2 : Int) (w : World) (h0 : PlIn w b0 p0 A0 l0 c0) (h1 : LtIn w A1 l1 c1) (_h2 : (Lit.int .i64 a2).wf = true) :
    Calls Try.prog 12 #[.agg #[.int .i64 b0, .int .i64 p0, .slice A0 l0.length c0], .slice A1 l1.length c1, .int .i64 a2] w fun e w' => e = .returned (.bool true) ∧ Below w.heap.size w w' := by
  have Hw2 := Lib.hid _h2
  clear _h2
  obtain ⟨hlc0, hcm, hs, hr⟩ := h0
  have Hr0 := Lib.hid hr
  have Hs0 := Lib.hid hs
  have Hcap0 := Lib.hid hlc0
  have hlm0 : l0.length ≤ 9223372036854775807 := by unfold maxLen at hcm; omega
  clear hr hs hcm hlc0
  obtain ⟨hlc1, hcm, hs, hr⟩ := h1
  have Hr1 := Lib.hid hr
  have Hs1 := Lib.hid hs
  have Hcap1 := Lib.hid hlc1
  have hlm1 : l1.length ≤ 9223372036854775807 := by unfold maxLen at hcm; omega
  clear hr hs hcm hlc1
  have H : Hid (Pool w (w) []) := Pool.nil_ w
  have H : Hid (Pool w (w.alloc (Obj.cells #[.int .i64 (b0), .int .i64 (p0), .slice A0 l0.length c0] 24)) [boxP (w.heap.size) (.int .i64 (b0)) (.int .i64 (p0)) (.slice A0 l0.length c0)]) := H.out.addBox (by first | rfl | simp) _ _ _ _
  by_cases hb : ¬ (strBulk l0 : Int) ≤ 1048576
  · have Hlo0 := Lib.hid (leftOf_none hb)
    clear hb
    go_enter Try.func12, Try.ntmps12
    go_wp2_with fail
    refine (lawSzPlan b0 p0 A0 l0 _ _ rfl 1048576 _ hlm0 Hs0.out (by omega) (by omega) (Hr0.out.below H.out.below)).mono ?_
    rw [Hlo0.out]
    rintro e w' ⟨rfl, hb⟩
    have H := Lib.hid (H.out.step hb)
    clear hb
    go_wp2
    go_ret
    exact ⟨rfl, H.out.below⟩
  have hb := Decidable.not_not.1 hb
  have Hlo0 := Lib.hid (leftOf_some hb)
  have hn0 : l0.length ≤ 1048576 := by have := strBulk_len l0; omega
  have Ha0 := Lib.hid (strBulk_all (l := l0) (b := 1048576) (by omega))
  obtain ⟨r0, hr, hr00, hr01⟩ : ∃ r : Int, (1048576 : Int) - strBulk l0 = r ∧ 0 ≤ r ∧ r ≤ 1048576 := ⟨_, rfl, by omega, by omega⟩
  rw [hr] at Hlo0
  clear hb hr
  by_cases hb : ¬ (ltBulk l1 : Int) ≤ r0
  · have Hlo1 := Lib.hid (leftOf_none hb)
    clear hb
    go_enter Try.func12, Try.ntmps12
    go_wp2_with fail
    refine (lawSzPlan b0 p0 A0 l0 _ _ rfl 1048576 _ hlm0 Hs0.out (by omega) (by omega) (Hr0.out.below H.out.below)).mono ?_
    rw [Hlo0.out]
    rintro e w' ⟨rfl, hb⟩
    have H := Lib.hid (H.out.step hb)
    clear hb
    go_wp2_with fail
    refine (lawSzLetterS A1 l1 _ _ rfl r0 _ hlm1 Hs1.out (by omega) (by omega) (Hr1.out.below H.out.below)).mono ?_
    rw [Hlo1.out]
    rintro e w' ⟨rfl, hb⟩
    have H := Lib.hid (H.out.step hb)
    clear hb
    go_wp2
    go_ret
    exact ⟨rfl, H.out.below⟩
  have hb := Decidable.not_not.1 hb
  have Hlo1 := Lib.hid (leftOf_some hb)
  have hn1 : l1.length ≤ 1048576 := by have := ltBulk_len l1; omega
  have Ha1 := Lib.hid (ltBulk_all (l := l1) (b := 1048576) (by omega))
  obtain ⟨r1, hr, hr10, hr11⟩ : ∃ r : Int, (r0 : Int) - ltBulk l1 = r ∧ 0 ≤ r ∧ r ≤ 1048576 := ⟨_, rfl, by omega, by omega⟩
  rw [hr] at Hlo1
  clear hb hr
  obtain ⟨r, hr⟩ : ∃ r, binR b0 p0 l0 l1 a2 = r := ⟨_, rfl⟩
  have hrb : r.b.length ≤ 1048576 := by rw [← hr]; exact (binR_len b0 p0 l0 l1 a2).1
  have Hnl : Hid (∀ y ∈ r.b, y.length ≤ 1048576) := by rw [← hr]; exact fun y hy => Nat.le_trans ((binR_len b0 p0 l0 l1 a2).2.1 y hy) hn1
  have hrk : r.k.length ≤ 1048576 := by rw [← hr]; exact Nat.le_trans (binR_len b0 p0 l0 l1 a2).2.2.1 hn1
  have Hft : Hid (r.b.flatten.length ≤ 1048576) := by rw [← hr]; exact Nat.le_trans (binR_len b0 p0 l0 l1 a2).2.2.2 hn1
  obtain ⟨T, hT⟩ : ∃ T, (r.b).flatten.length = T := ⟨_, rfl⟩
  have hTm : T ≤ 1048576 := by rw [← hT]; exact Hft.out
  have HT := Lib.hid hT
  clear hT Hft
  have Hv := Lib.hid hr
  clear hr
  have hvv : (r.ok != r.ok) = false := by simp
  go_enter Try.func12, Try.ntmps12
  go_wp2_with fail
  refine (lawSzPlan b0 p0 A0 l0 _ _ rfl 1048576 _ hlm0 Hs0.out (by omega) (by omega) (Hr0.out.below H.out.below)).mono ?_
  rw [Hlo0.out]
  rintro e w1 ⟨rfl, hb⟩
  have H : Hid (Pool w (w1) [boxP (w.heap.size) (.int .i64 (b0)) (.int .i64 (p0)) (.slice A0 l0.length c0)]) := H.out.step hb
  clear hb
  go_wp2_with fail
  refine (lawSzLetterS A1 l1 _ _ rfl r0 _ hlm1 Hs1.out (by omega) (by omega) (Hr1.out.below H.out.below)).mono ?_
  rw [Hlo1.out]
  rintro e w2 ⟨rfl, hb⟩
  have H : Hid (Pool w (w2) [boxP (w.heap.size) (.int .i64 (b0)) (.int .i64 (p0)) (.slice A0 l0.length c0)]) := H.out.step hb
  clear hb
  obtain ⟨-, ca0, ca1, ca2, -⟩ := H.out.box 0 rfl
  go_wp2_with fail
  refine (lawToPlan' b0 p0 A0 l0 _ _ rfl _ (by omega) (Hr0.out.below H.out.below)).mono ?_
  rintro e w3 ⟨gS0, rfl, ho, hb⟩
  have H : Hid (Pool w (w3) [ownP 9 1 strEnc (.slice (some ⟨gS0, 0, none⟩) l0.length l0.length) (l0), boxP (w.heap.size) (.int .i64 (b0)) (.int .i64 (p0)) (.slice A0 l0.length c0)]) := H.out.addOwn hb ho
  clear ho hb ca0 ca1 ca2
  go_wp2_with fail
  refine (lawToLetterS' A1 l1 _ _ rfl _ (by omega) (Hr1.out.below H.out.below)).mono ?_
  rintro e w4 ⟨gS1, rfl, ho, hb⟩
  have H : Hid (Pool w (w4) [ownP 82 2 ltEnc (.slice (some ⟨gS1, 0, none⟩) l1.length l1.length) (l1), ownP 9 1 strEnc (.slice (some ⟨gS0, 0, none⟩) l0.length l0.length) (l0), boxP (w.heap.size) (.int .i64 (b0)) (.int .i64 (p0)) (.slice A0 l0.length c0)]) := H.out.addOwn hb ho
  clear ho hb
  go_wp2_with fail
  refine (specPlanPass b0 p0 _ _ l0 l1 _ _ _ _ rfl rfl a2 _ (by omega) (by omega) Ha0.out Ha1.out ((H.out.own 1 rfl).rd strEnc_len) ((H.out.own 0 rfl).rd ltEnc_len)).mono ?_
  rw [Hv.out]
  rintro e w5 ⟨Aw, kw, cw, hsw, Aw', kw', cw', rfl, hlen, hp⟩
  have HLw := Lib.hid hlen
  have H : Hid (Pool w (w5) [binP (.slice Aw kw cw) hsw (r.b), ownP 82 2 ltEnc (.slice Aw' kw' cw') (r.k), ownP 82 2 ltEnc (.slice (some ⟨gS1, 0, none⟩) l1.length l1.length) (l1), ownP 9 1 strEnc (.slice (some ⟨gS0, 0, none⟩) l0.length l0.length) (l0), boxP (w.heap.size) (.int .i64 (b0)) (.int .i64 (p0)) (.slice A0 l0.length c0)]) := BinsRet.group H.out hp
  clear hp hlen
  have hkw : kw ≤ 1048576 := by have := (H.out.binRd 0 rfl HLw.out).2; have := HLw.out; omega
  have hkw' : kw' ≤ 1048576 := by have := (H.out.own 1 rfl).len; omega
  have H : Hid (Pool w (w5) [binP (.slice Aw kw cw) hsw (r.b), ownP 82 2 ltEnc (.slice Aw' kw' cw') (r.k), ownP 82 2 ltEnc (.slice (some ⟨gS1, 0, none⟩) l1.length l1.length) (l1), boxP (w.heap.size) (.int .i64 (b0)) (.int .i64 (p0)) (.slice A0 l0.length c0)]) := H.out.drop 3
  have H : Hid (Pool w (w5) [binP (.slice Aw kw cw) hsw (r.b), ownP 82 2 ltEnc (.slice Aw' kw' cw') (r.k), boxP (w.heap.size) (.int .i64 (b0)) (.int .i64 (p0)) (.slice A0 l0.length c0)]) := H.out.drop 2
  obtain ⟨-, ca0, ca1, ca2, -⟩ := H.out.box 2 rfl
  go_wp2_with fail
  refine (lawToPlan' b0 p0 A0 l0 _ _ rfl _ (by omega) (Hr0.out.below H.out.below)).mono ?_
  rintro e w6 ⟨gX0, rfl, ho, hb⟩
  have H : Hid (Pool w (w6) [ownP 9 1 strEnc (.slice (some ⟨gX0, 0, none⟩) l0.length l0.length) (l0), binP (.slice Aw kw cw) hsw (r.b), ownP 82 2 ltEnc (.slice Aw' kw' cw') (r.k), boxP (w.heap.size) (.int .i64 (b0)) (.int .i64 (p0)) (.slice A0 l0.length c0)]) := H.out.addOwn hb ho
  clear ho hb ca0 ca1 ca2
  have H : Hid (Pool w (w6.alloc (Obj.cells #[.int .i64 (b0), .int .i64 (p0), .slice (some ⟨gX0, 0, none⟩) l0.length l0.length] 27)) [boxP (w6.heap.size) (.int .i64 (b0)) (.int .i64 (p0)) (.slice (some ⟨gX0, 0, none⟩) l0.length l0.length), ownP 9 1 strEnc (.slice (some ⟨gX0, 0, none⟩) l0.length l0.length) (l0), binP (.slice Aw kw cw) hsw (r.b), ownP 82 2 ltEnc (.slice Aw' kw' cw') (r.k), boxP (w.heap.size) (.int .i64 (b0)) (.int .i64 (p0)) (.slice A0 l0.length c0)]) := H.out.addBox (by first | rfl | simp) _ _ _ _
  go_wp2_with fail
  refine (lawToLetterS' A1 l1 _ _ rfl _ (by omega) (Hr1.out.below H.out.below)).mono ?_
  rintro e w7 ⟨gX1, rfl, ho, hb⟩
  have H : Hid (Pool w (w7) [ownP 82 2 ltEnc (.slice (some ⟨gX1, 0, none⟩) l1.length l1.length) (l1), boxP (w6.heap.size) (.int .i64 (b0)) (.int .i64 (p0)) (.slice (some ⟨gX0, 0, none⟩) l0.length l0.length), ownP 9 1 strEnc (.slice (some ⟨gX0, 0, none⟩) l0.length l0.length) (l0), binP (.slice Aw kw cw) hsw (r.b), ownP 82 2 ltEnc (.slice Aw' kw' cw') (r.k), boxP (w.heap.size) (.int .i64 (b0)) (.int .i64 (p0)) (.slice A0 l0.length c0)]) := H.out.addOwn hb ho
  clear ho hb
  obtain ⟨-, s0, s1, s2, -⟩ := H.out.box 1 rfl
  go_wp2_with fail
  refine (implPlanPass b0 p0 _ _ l0 l1 _ _ _ _ rfl rfl (Nat.le_refl _) (Nat.le_refl _) a2 _ (by omega) (by omega) Ha0.out Ha1.out ((H.out.own 2 rfl).rd strEnc_len) ((H.out.own 0 rfl).rd ltEnc_len)).mono ?_
  rw [Hv.out]
  rintro e w8 ⟨Ag, kg, cg, hsg, Ag', kg', cg', rfl, hlen, hp⟩
  have HLg := Lib.hid hlen
  have H : Hid (Pool w (w8) [binP (.slice Ag kg cg) hsg (r.b), ownP 82 2 ltEnc (.slice Ag' kg' cg') (r.k), ownP 82 2 ltEnc (.slice (some ⟨gX1, 0, none⟩) l1.length l1.length) (l1), boxP (w6.heap.size) (.int .i64 (b0)) (.int .i64 (p0)) (.slice (some ⟨gX0, 0, none⟩) l0.length l0.length), ownP 9 1 strEnc (.slice (some ⟨gX0, 0, none⟩) l0.length l0.length) (l0), binP (.slice Aw kw cw) hsw (r.b), ownP 82 2 ltEnc (.slice Aw' kw' cw') (r.k), boxP (w.heap.size) (.int .i64 (b0)) (.int .i64 (p0)) (.slice A0 l0.length c0)]) := BinsRet.group H.out hp
  clear hp hlen
  have hkg : kg ≤ 1048576 := by have := (H.out.binRd 0 rfl HLg.out).2; have := HLg.out; omega
  have hkg' : kg' ≤ 1048576 := by have := (H.out.own 1 rfl).len; omega
  clear s0 s1 s2
  go_wp2_with fail
  refine (lawEqLetterSS _ _ hsg hsw (r.b) _ _ _ _ (H.out.binRd 0 rfl HLg.out).2 (H.out.binRd 5 rfl HLw.out).2 _ (by omega) Hnl.out (H.out.binRd 0 rfl HLg.out).1 (H.out.binRd 5 rfl HLw.out).1).mono ?_
  rintro e w9 ⟨rfl, hb⟩
  have H : Hid (Pool w (w9) [binP (.slice Ag kg cg) hsg (r.b), ownP 82 2 ltEnc (.slice Ag' kg' cg') (r.k), ownP 82 2 ltEnc (.slice (some ⟨gX1, 0, none⟩) l1.length l1.length) (l1), boxP (w6.heap.size) (.int .i64 (b0)) (.int .i64 (p0)) (.slice (some ⟨gX0, 0, none⟩) l0.length l0.length), ownP 9 1 strEnc (.slice (some ⟨gX0, 0, none⟩) l0.length l0.length) (l0), binP (.slice Aw kw cw) hsw (r.b), ownP 82 2 ltEnc (.slice Aw' kw' cw') (r.k), boxP (w.heap.size) (.int .i64 (b0)) (.int .i64 (p0)) (.slice A0 l0.length c0)]) := H.out.step hb
  clear hb
  go_wp2_with fail
  refine (lawEqLetterS _ _ (r.k) (r.k) _ _ _ _ (H.out.own 1 rfl).len (H.out.own 6 rfl).len _ (by first | omega | (have := (H.out.own 1 rfl).len; omega)) (by first | omega | (have := (H.out.own 6 rfl).len; omega)) ((H.out.own 1 rfl).rd ltEnc_len) ((H.out.own 6 rfl).rd ltEnc_len)).mono ?_
  rw [ltsEq_self]
  rintro e w10 ⟨rfl, hb⟩
  have H : Hid (Pool w (w10) [binP (.slice Ag kg cg) hsg (r.b), ownP 82 2 ltEnc (.slice Ag' kg' cg') (r.k), ownP 82 2 ltEnc (.slice (some ⟨gX1, 0, none⟩) l1.length l1.length) (l1), boxP (w6.heap.size) (.int .i64 (b0)) (.int .i64 (p0)) (.slice (some ⟨gX0, 0, none⟩) l0.length l0.length), ownP 9 1 strEnc (.slice (some ⟨gX0, 0, none⟩) l0.length l0.length) (l0), binP (.slice Aw kw cw) hsw (r.b), ownP 82 2 ltEnc (.slice Aw' kw' cw') (r.k), boxP (w.heap.size) (.int .i64 (b0)) (.int .i64 (p0)) (.slice A0 l0.length c0)]) := H.out.step hb
  clear hb
  have Hc := Lib.hid (H.out.box 7 rfl)
  have Hd := Lib.hid (H.out.box 3 rfl)
  obtain ⟨-, ca0, ca1, ca2, -⟩ := Hc.out
  obtain ⟨-, da0, da1, da2, -⟩ := Hd.out
  have Hr8 := Lib.hid (Hr0.out.below H.out.below)
  have HX := Lib.hid (H.out.own 4 rfl)
  go_wp2_with fail
  go_region_held3 (fun w' => w'.cell? ⟨w.heap.size, 0, none⟩ = some (.int .i64 b0) ∧ w'.cell? ⟨w.heap.size, 1, none⟩ = some (.int .i64 p0) ∧ w'.cell? ⟨w.heap.size, 2, none⟩ = some (.slice A0 l0.length c0) ∧ w'.cell? ⟨w6.heap.size, 0, none⟩ = some (.int .i64 b0) ∧ w'.cell? ⟨w6.heap.size, 1, none⟩ = some (.int .i64 p0) ∧ w'.cell? ⟨w6.heap.size, 2, none⟩ = some (.slice (some ⟨gX0, 0, none⟩) l0.length l0.length))
    (first
      | exact ⟨ca0, ca1, ca2, da0, da1, da2⟩
      | exact ⟨below_cell hb7 ca0, below_cell hb7 ca1, below_cell hb7 ca2, below_cell hb7 da0, below_cell hb7 da1, below_cell hb7 da2⟩
      | exact ⟨below_cell (below_step hb7 hb8) ca0, below_cell (below_step hb7 hb8) ca1, below_cell (below_step hb7 hb8) ca2, below_cell (below_step hb7 hb8) da0, below_cell (below_step hb7 hb8) da1, below_cell (below_step hb7 hb8) da2⟩)
    (first
      | (go_at_call 17; refine (lawToPlan b0 p0 A0 l0 _ _ rfl _ (by omega) (by first | exact Hr8.out)).mono ?_; rintro e vw11 ⟨g9, hg9, rfl, ho9, hb7'⟩; have hb7 := below_undrew hb7')
      | (go_at_call 19; refine (lawEqPlan b0 p0 _ _ l0 _ _ _ _ rfl rfl _ (by omega) ((HX.out.below hb7).rd strEnc_len) (ho9.rd strEnc_len)).mono ?_; rintro e w11 ⟨rfl, hb8⟩))
  have hb := below_step hb7 hb8
  clear hb7 hb8 ho9 hg9 ca0 ca1 ca2 da0 da1 da2 Hr8 HX Hc Hd
  have H : Hid (Pool w (w11) [binP (.slice Ag kg cg) hsg (r.b), ownP 82 2 ltEnc (.slice Ag' kg' cg') (r.k), ownP 82 2 ltEnc (.slice (some ⟨gX1, 0, none⟩) l1.length l1.length) (l1), boxP (w6.heap.size) (.int .i64 (b0)) (.int .i64 (p0)) (.slice (some ⟨gX0, 0, none⟩) l0.length l0.length), ownP 9 1 strEnc (.slice (some ⟨gX0, 0, none⟩) l0.length l0.length) (l0), binP (.slice Aw kw cw) hsw (r.b), ownP 82 2 ltEnc (.slice Aw' kw' cw') (r.k), boxP (w.heap.size) (.int .i64 (b0)) (.int .i64 (p0)) (.slice A0 l0.length c0)]) := H.out.step hb
  clear hb
  go_wp2_with fail
  refine (lawToLetterS' A1 l1 _ _ rfl _ (by omega) (Hr1.out.below H.out.below)).mono ?_
  rintro e w12 ⟨gY1, rfl, ho, hb⟩
  have H : Hid (Pool w (w12) [ownP 82 2 ltEnc (.slice (some ⟨gY1, 0, none⟩) l1.length l1.length) (l1), binP (.slice Ag kg cg) hsg (r.b), ownP 82 2 ltEnc (.slice Ag' kg' cg') (r.k), ownP 82 2 ltEnc (.slice (some ⟨gX1, 0, none⟩) l1.length l1.length) (l1), boxP (w6.heap.size) (.int .i64 (b0)) (.int .i64 (p0)) (.slice (some ⟨gX0, 0, none⟩) l0.length l0.length), ownP 9 1 strEnc (.slice (some ⟨gX0, 0, none⟩) l0.length l0.length) (l0), binP (.slice Aw kw cw) hsw (r.b), ownP 82 2 ltEnc (.slice Aw' kw' cw') (r.k), boxP (w.heap.size) (.int .i64 (b0)) (.int .i64 (p0)) (.slice A0 l0.length c0)]) := H.out.addOwn hb ho
  clear ho hb
  go_wp2_with fail
  refine (lawEqLetterS _ _ (l1) (l1) _ _ _ _ (H.out.own 3 rfl).len (H.out.own 0 rfl).len _ (by first | omega | (have := (H.out.own 3 rfl).len; omega)) (by first | omega | (have := (H.out.own 0 rfl).len; omega)) ((H.out.own 3 rfl).rd ltEnc_len) ((H.out.own 0 rfl).rd ltEnc_len)).mono ?_
  rw [ltsEq_self]
  rintro e w13 ⟨rfl, hb⟩
  have H : Hid (Pool w (w13) [ownP 82 2 ltEnc (.slice (some ⟨gY1, 0, none⟩) l1.length l1.length) (l1), binP (.slice Ag kg cg) hsg (r.b), ownP 82 2 ltEnc (.slice Ag' kg' cg') (r.k), ownP 82 2 ltEnc (.slice (some ⟨gX1, 0, none⟩) l1.length l1.length) (l1), boxP (w6.heap.size) (.int .i64 (b0)) (.int .i64 (p0)) (.slice (some ⟨gX0, 0, none⟩) l0.length l0.length), ownP 9 1 strEnc (.slice (some ⟨gX0, 0, none⟩) l0.length l0.length) (l0), binP (.slice Aw kw cw) hsw (r.b), ownP 82 2 ltEnc (.slice Aw' kw' cw') (r.k), boxP (w.heap.size) (.int .i64 (b0)) (.int .i64 (p0)) (.slice A0 l0.length c0)]) := H.out.step hb
  clear hb
  have H : Hid (Pool w (w13) [binP (.slice Ag kg cg) hsg (r.b), ownP 82 2 ltEnc (.slice Ag' kg' cg') (r.k), ownP 82 2 ltEnc (.slice (some ⟨gX1, 0, none⟩) l1.length l1.length) (l1), boxP (w6.heap.size) (.int .i64 (b0)) (.int .i64 (p0)) (.slice (some ⟨gX0, 0, none⟩) l0.length l0.length), ownP 9 1 strEnc (.slice (some ⟨gX0, 0, none⟩) l0.length l0.length) (l0), binP (.slice Aw kw cw) hsw (r.b), ownP 82 2 ltEnc (.slice Aw' kw' cw') (r.k), boxP (w.heap.size) (.int .i64 (b0)) (.int .i64 (p0)) (.slice A0 l0.length c0)]) := H.out.drop 0
  obtain ⟨-, ca0, ca1, ca2, -⟩ := H.out.box 3 rfl
  go_wp2_with fail
  refine (lawMarkPlan b0 p0 _ (l0) _ _ (1) _ _ (by omega) (by omega) (by omega) (H.out.own 4 rfl)).mono ?_
  rintro e w14 ⟨rfl, ho, hg⟩
  have H : Hid (Pool w (w14) [binP (.slice Ag kg cg) hsg (r.b), ownP 82 2 ltEnc (.slice Ag' kg' cg') (r.k), ownP 82 2 ltEnc (.slice (some ⟨gX1, 0, none⟩) l1.length l1.length) (l1), boxP (w6.heap.size) (.int .i64 (b0)) (.int .i64 (p0)) (.slice (some ⟨gX0, 0, none⟩) l0.length l0.length), ownP 9 1 strEnc (.slice (some ⟨gX0, 0, none⟩) l0.length l0.length) (strMks (1) l0.length), binP (.slice Aw kw cw) hsw (r.b), ownP 82 2 ltEnc (.slice Aw' kw' cw') (r.k), boxP (w.heap.size) (.int .i64 (b0)) (.int .i64 (p0)) (.slice A0 l0.length c0)]) := H.out.turnOwn 4 rfl ho hg
  clear ho hg ca0 ca1 ca2
  go_wp2_with fail
  refine (lawMarkLetterS _ (l1) _ _ (1 + l0.length) _ _ (by omega) (by omega) (by omega) (H.out.own 2 rfl)).mono ?_
  rintro e w15 ⟨rfl, ho, hg⟩
  have H : Hid (Pool w (w15) [binP (.slice Ag kg cg) hsg (r.b), ownP 82 2 ltEnc (.slice Ag' kg' cg') (r.k), ownP 82 2 ltEnc (.slice (some ⟨gX1, 0, none⟩) l1.length l1.length) (ltMks (1 + l0.length) l1.length), boxP (w6.heap.size) (.int .i64 (b0)) (.int .i64 (p0)) (.slice (some ⟨gX0, 0, none⟩) l0.length l0.length), ownP 9 1 strEnc (.slice (some ⟨gX0, 0, none⟩) l0.length l0.length) (strMks (1) l0.length), binP (.slice Aw kw cw) hsw (r.b), ownP 82 2 ltEnc (.slice Aw' kw' cw') (r.k), boxP (w.heap.size) (.int .i64 (b0)) (.int .i64 (p0)) (.slice A0 l0.length c0)]) := H.out.turnOwn 2 rfl ho hg
  clear ho hg
  go_wp2_with fail
  refine (lawEqLetterSS _ _ hsg hsw (r.b) _ _ _ _ (H.out.binRd 0 rfl HLg.out).2 (H.out.binRd 5 rfl HLw.out).2 _ (by omega) Hnl.out (H.out.binRd 0 rfl HLg.out).1 (H.out.binRd 5 rfl HLw.out).1).mono ?_
  rintro e w16 ⟨rfl, hb⟩
  have H : Hid (Pool w (w16) [binP (.slice Ag kg cg) hsg (r.b), ownP 82 2 ltEnc (.slice Ag' kg' cg') (r.k), ownP 82 2 ltEnc (.slice (some ⟨gX1, 0, none⟩) l1.length l1.length) (ltMks (1 + l0.length) l1.length), boxP (w6.heap.size) (.int .i64 (b0)) (.int .i64 (p0)) (.slice (some ⟨gX0, 0, none⟩) l0.length l0.length), ownP 9 1 strEnc (.slice (some ⟨gX0, 0, none⟩) l0.length l0.length) (strMks (1) l0.length), binP (.slice Aw kw cw) hsw (r.b), ownP 82 2 ltEnc (.slice Aw' kw' cw') (r.k), boxP (w.heap.size) (.int .i64 (b0)) (.int .i64 (p0)) (.slice A0 l0.length c0)]) := H.out.step hb
  clear hb
  go_wp2_with fail
  refine (lawEqLetterS _ _ (r.k) (r.k) _ _ _ _ (H.out.own 1 rfl).len (H.out.own 6 rfl).len _ (by first | omega | (have := (H.out.own 1 rfl).len; omega)) (by first | omega | (have := (H.out.own 6 rfl).len; omega)) ((H.out.own 1 rfl).rd ltEnc_len) ((H.out.own 6 rfl).rd ltEnc_len)).mono ?_
  rw [ltsEq_self]
  rintro e w17 ⟨rfl, hb⟩
  have H : Hid (Pool w (w17) [binP (.slice Ag kg cg) hsg (r.b), ownP 82 2 ltEnc (.slice Ag' kg' cg') (r.k), ownP 82 2 ltEnc (.slice (some ⟨gX1, 0, none⟩) l1.length l1.length) (ltMks (1 + l0.length) l1.length), boxP (w6.heap.size) (.int .i64 (b0)) (.int .i64 (p0)) (.slice (some ⟨gX0, 0, none⟩) l0.length l0.length), ownP 9 1 strEnc (.slice (some ⟨gX0, 0, none⟩) l0.length l0.length) (strMks (1) l0.length), binP (.slice Aw kw cw) hsw (r.b), ownP 82 2 ltEnc (.slice Aw' kw' cw') (r.k), boxP (w.heap.size) (.int .i64 (b0)) (.int .i64 (p0)) (.slice A0 l0.length c0)]) := H.out.step hb
  clear hb
  have H : Hid (Pool w (w17) [binP (.slice Ag kg cg) hsg (r.b), ownP 82 2 ltEnc (.slice Ag' kg' cg') (r.k), ownP 82 2 ltEnc (.slice (some ⟨gX1, 0, none⟩) l1.length l1.length) (ltMks (1 + l0.length) l1.length), boxP (w6.heap.size) (.int .i64 (b0)) (.int .i64 (p0)) (.slice (some ⟨gX0, 0, none⟩) l0.length l0.length), binP (.slice Aw kw cw) hsw (r.b), ownP 82 2 ltEnc (.slice Aw' kw' cw') (r.k), boxP (w.heap.size) (.int .i64 (b0)) (.int .i64 (p0)) (.slice A0 l0.length c0)]) := H.out.drop 4
  have H : Hid (Pool w (w17) [binP (.slice Ag kg cg) hsg (r.b), ownP 82 2 ltEnc (.slice Ag' kg' cg') (r.k), ownP 82 2 ltEnc (.slice (some ⟨gX1, 0, none⟩) l1.length l1.length) (ltMks (1 + l0.length) l1.length), binP (.slice Aw kw cw) hsw (r.b), ownP 82 2 ltEnc (.slice Aw' kw' cw') (r.k), boxP (w.heap.size) (.int .i64 (b0)) (.int .i64 (p0)) (.slice A0 l0.length c0)]) := H.out.drop 3
  have H : Hid (Pool w (w17) [binP (.slice Ag kg cg) hsg (r.b), ownP 82 2 ltEnc (.slice Ag' kg' cg') (r.k), binP (.slice Aw kw cw) hsw (r.b), ownP 82 2 ltEnc (.slice Aw' kw' cw') (r.k), boxP (w.heap.size) (.int .i64 (b0)) (.int .i64 (p0)) (.slice A0 l0.length c0)]) := H.out.drop 2
  have H : Hid (Pool w (w17) [binP (.slice Ag kg cg) hsg (r.b), ownP 82 2 ltEnc (.slice Ag' kg' cg') (r.k), binP (.slice Aw kw cw) hsw (r.b), ownP 82 2 ltEnc (.slice Aw' kw' cw') (r.k), boxP (w.heap.size) (.int .i64 (b0)) (.int .i64 (p0)) (.slice A0 l0.length c0)]) := H.out.front 0 rfl
  go_wp2_with fail
  refine (lawMarkLetterSS _ hsg (r.b) _ _ (1) T HT.out HLg.out hTm _ _ _ (by omega) (by omega) (by omega) H.out).mono ?_
  rintro e w18 ⟨rfl, hp⟩
  have H : Hid (Pool w (w18) [binP (.slice Ag kg cg) hsg (ssMks (1) (r.b)), ownP 82 2 ltEnc (.slice Ag' kg' cg') (r.k), binP (.slice Aw kw cw) hsw (r.b), ownP 82 2 ltEnc (.slice Aw' kw' cw') (r.k), boxP (w.heap.size) (.int .i64 (b0)) (.int .i64 (p0)) (.slice A0 l0.length c0)]) := hp
  clear hp
  go_wp2_with fail
  refine (lawMarkLetterS _ (r.k) _ _ (1 + 2 * T) _ _ (by omega) (by omega) (by omega) (H.out.own 1 rfl)).mono ?_
  rintro e w19 ⟨rfl, ho, hg⟩
  have H : Hid (Pool w (w19) [binP (.slice Ag kg cg) hsg (ssMks (1) (r.b)), ownP 82 2 ltEnc (.slice Ag' kg' cg') (ltMks (1 + 2 * T) kg'), binP (.slice Aw kw cw) hsw (r.b), ownP 82 2 ltEnc (.slice Aw' kw' cw') (r.k), boxP (w.heap.size) (.int .i64 (b0)) (.int .i64 (p0)) (.slice A0 l0.length c0)]) := H.out.turnOwn 1 rfl ho hg
  clear ho hg
  go_wp2_with fail
  refine (lawHeldLetterSS _ hsg (r.b) _ _ (1) T HT.out (H.out.binRd 0 rfl (by rw [ssMks_len]; exact HLg.out)).2 hTm _ (by omega) (by omega) (by omega) (H.out.binRd 0 rfl (by rw [ssMks_len]; exact HLg.out)).1).mono ?_
  rintro e w20 ⟨rfl, hb⟩
  have H : Hid (Pool w (w20) [binP (.slice Ag kg cg) hsg (ssMks (1) (r.b)), ownP 82 2 ltEnc (.slice Ag' kg' cg') (ltMks (1 + 2 * T) kg'), binP (.slice Aw kw cw) hsw (r.b), ownP 82 2 ltEnc (.slice Aw' kw' cw') (r.k), boxP (w.heap.size) (.int .i64 (b0)) (.int .i64 (p0)) (.slice A0 l0.length c0)]) := H.out.step hb
  clear hb
  go_wp2_with fail
  refine (lawHeldLetterS _ _ _ (1 + 2 * T) _ (by omega) (by omega) (by omega) ((H.out.own 1 rfl).rd ltEnc_len)).mono ?_
  rintro e w21 ⟨rfl, hb⟩
  have H : Hid (Pool w (w21) [binP (.slice Ag kg cg) hsg (ssMks (1) (r.b)), ownP 82 2 ltEnc (.slice Ag' kg' cg') (ltMks (1 + 2 * T) kg'), binP (.slice Aw kw cw) hsw (r.b), ownP 82 2 ltEnc (.slice Aw' kw' cw') (r.k), boxP (w.heap.size) (.int .i64 (b0)) (.int .i64 (p0)) (.slice A0 l0.length c0)]) := H.out.step hb
  clear hb
  have hqq : (((1 + 2 * T + 2 * kg' : Nat) : Int) != ((1 + 2 * T + 2 * kg' : Nat) : Int)) = false := by simp
  obtain ⟨-, ca0, ca1, ca2, -⟩ := H.out.box 4 rfl
  go_wp2_with fail
  refine (lawToPlan' b0 p0 A0 l0 _ _ rfl _ (by omega) (Hr0.out.below H.out.below)).mono ?_
  rintro e w22 ⟨gS0, rfl, ho, hb⟩
  have H : Hid (Pool w (w22) [ownP 9 1 strEnc (.slice (some ⟨gS0, 0, none⟩) l0.length l0.length) (l0), binP (.slice Ag kg cg) hsg (ssMks (1) (r.b)), ownP 82 2 ltEnc (.slice Ag' kg' cg') (ltMks (1 + 2 * T) kg'), binP (.slice Aw kw cw) hsw (r.b), ownP 82 2 ltEnc (.slice Aw' kw' cw') (r.k), boxP (w.heap.size) (.int .i64 (b0)) (.int .i64 (p0)) (.slice A0 l0.length c0)]) := H.out.addOwn hb ho
  clear ho hb ca0 ca1 ca2
  go_wp2_with fail
  refine (lawToLetterS' A1 l1 _ _ rfl _ (by omega) (Hr1.out.below H.out.below)).mono ?_
  rintro e w23 ⟨gS1, rfl, ho, hb⟩
  have H : Hid (Pool w (w23) [ownP 82 2 ltEnc (.slice (some ⟨gS1, 0, none⟩) l1.length l1.length) (l1), ownP 9 1 strEnc (.slice (some ⟨gS0, 0, none⟩) l0.length l0.length) (l0), binP (.slice Ag kg cg) hsg (ssMks (1) (r.b)), ownP 82 2 ltEnc (.slice Ag' kg' cg') (ltMks (1 + 2 * T) kg'), binP (.slice Aw kw cw) hsw (r.b), ownP 82 2 ltEnc (.slice Aw' kw' cw') (r.k), boxP (w.heap.size) (.int .i64 (b0)) (.int .i64 (p0)) (.slice A0 l0.length c0)]) := H.out.addOwn hb ho
  clear ho hb
  go_wp2_with fail
  refine (implPlanPass b0 p0 _ _ l0 l1 _ _ _ _ rfl rfl (Nat.le_refl _) (Nat.le_refl _) a2 _ (by omega) (by omega) Ha0.out Ha1.out ((H.out.own 1 rfl).rd strEnc_len) ((H.out.own 0 rfl).rd ltEnc_len)).mono ?_
  rw [Hv.out]
  rintro e w24 ⟨Ah, kh, ch, hsh, Ah', kh', ch', rfl, hlen, hp⟩
  have HLh := Lib.hid hlen
  have H : Hid (Pool w (w24) [binP (.slice Ah kh ch) hsh (r.b), ownP 82 2 ltEnc (.slice Ah' kh' ch') (r.k), ownP 82 2 ltEnc (.slice (some ⟨gS1, 0, none⟩) l1.length l1.length) (l1), ownP 9 1 strEnc (.slice (some ⟨gS0, 0, none⟩) l0.length l0.length) (l0), binP (.slice Ag kg cg) hsg (ssMks (1) (r.b)), ownP 82 2 ltEnc (.slice Ag' kg' cg') (ltMks (1 + 2 * T) kg'), binP (.slice Aw kw cw) hsw (r.b), ownP 82 2 ltEnc (.slice Aw' kw' cw') (r.k), boxP (w.heap.size) (.int .i64 (b0)) (.int .i64 (p0)) (.slice A0 l0.length c0)]) := BinsRet.group H.out hp
  clear hp hlen
  have hkh : kh ≤ 1048576 := by have := (H.out.binRd 0 rfl HLh.out).2; have := HLh.out; omega
  have hkh' : kh' ≤ 1048576 := by have := (H.out.own 1 rfl).len; omega
  have H : Hid (Pool w (w24) [binP (.slice Ah kh ch) hsh (r.b), ownP 82 2 ltEnc (.slice Ah' kh' ch') (r.k), ownP 82 2 ltEnc (.slice (some ⟨gS1, 0, none⟩) l1.length l1.length) (l1), binP (.slice Ag kg cg) hsg (ssMks (1) (r.b)), ownP 82 2 ltEnc (.slice Ag' kg' cg') (ltMks (1 + 2 * T) kg'), binP (.slice Aw kw cw) hsw (r.b), ownP 82 2 ltEnc (.slice Aw' kw' cw') (r.k), boxP (w.heap.size) (.int .i64 (b0)) (.int .i64 (p0)) (.slice A0 l0.length c0)]) := H.out.drop 3
  have H : Hid (Pool w (w24) [binP (.slice Ah kh ch) hsh (r.b), ownP 82 2 ltEnc (.slice Ah' kh' ch') (r.k), binP (.slice Ag kg cg) hsg (ssMks (1) (r.b)), ownP 82 2 ltEnc (.slice Ag' kg' cg') (ltMks (1 + 2 * T) kg'), binP (.slice Aw kw cw) hsw (r.b), ownP 82 2 ltEnc (.slice Aw' kw' cw') (r.k), boxP (w.heap.size) (.int .i64 (b0)) (.int .i64 (p0)) (.slice A0 l0.length c0)]) := H.out.drop 2
  go_wp2_with fail
  refine (lawEqLetterSS _ _ hsh hsw (r.b) _ _ _ _ (H.out.binRd 0 rfl HLh.out).2 (H.out.binRd 4 rfl HLw.out).2 _ (by omega) Hnl.out (H.out.binRd 0 rfl HLh.out).1 (H.out.binRd 4 rfl HLw.out).1).mono ?_
  rintro e w25 ⟨rfl, hb⟩
  have H : Hid (Pool w (w25) [binP (.slice Ah kh ch) hsh (r.b), ownP 82 2 ltEnc (.slice Ah' kh' ch') (r.k), binP (.slice Ag kg cg) hsg (ssMks (1) (r.b)), ownP 82 2 ltEnc (.slice Ag' kg' cg') (ltMks (1 + 2 * T) kg'), binP (.slice Aw kw cw) hsw (r.b), ownP 82 2 ltEnc (.slice Aw' kw' cw') (r.k), boxP (w.heap.size) (.int .i64 (b0)) (.int .i64 (p0)) (.slice A0 l0.length c0)]) := H.out.step hb
  clear hb
  go_wp2_with fail
  refine (lawEqLetterS _ _ (r.k) (r.k) _ _ _ _ (H.out.own 1 rfl).len (H.out.own 5 rfl).len _ (by first | omega | (have := (H.out.own 1 rfl).len; omega)) (by first | omega | (have := (H.out.own 5 rfl).len; omega)) ((H.out.own 1 rfl).rd ltEnc_len) ((H.out.own 5 rfl).rd ltEnc_len)).mono ?_
  rw [ltsEq_self]
  rintro e w26 ⟨rfl, hb⟩
  have H : Hid (Pool w (w26) [binP (.slice Ah kh ch) hsh (r.b), ownP 82 2 ltEnc (.slice Ah' kh' ch') (r.k), binP (.slice Ag kg cg) hsg (ssMks (1) (r.b)), ownP 82 2 ltEnc (.slice Ag' kg' cg') (ltMks (1 + 2 * T) kg'), binP (.slice Aw kw cw) hsw (r.b), ownP 82 2 ltEnc (.slice Aw' kw' cw') (r.k), boxP (w.heap.size) (.int .i64 (b0)) (.int .i64 (p0)) (.slice A0 l0.length c0)]) := H.out.step hb
  clear hb
  go_wp2_with fail
  refine (lawHeldLetterSS _ hsg (r.b) _ _ (1) T HT.out (H.out.binRd 2 rfl (by rw [ssMks_len]; exact HLg.out)).2 hTm _ (by omega) (by omega) (by omega) (H.out.binRd 2 rfl (by rw [ssMks_len]; exact HLg.out)).1).mono ?_
  rintro e w27 ⟨rfl, hb⟩
  have H : Hid (Pool w (w27) [binP (.slice Ah kh ch) hsh (r.b), ownP 82 2 ltEnc (.slice Ah' kh' ch') (r.k), binP (.slice Ag kg cg) hsg (ssMks (1) (r.b)), ownP 82 2 ltEnc (.slice Ag' kg' cg') (ltMks (1 + 2 * T) kg'), binP (.slice Aw kw cw) hsw (r.b), ownP 82 2 ltEnc (.slice Aw' kw' cw') (r.k), boxP (w.heap.size) (.int .i64 (b0)) (.int .i64 (p0)) (.slice A0 l0.length c0)]) := H.out.step hb
  clear hb
  go_wp2_with fail
  refine (lawHeldLetterS _ _ _ (1 + 2 * T) _ (by omega) (by omega) (by omega) ((H.out.own 3 rfl).rd ltEnc_len)).mono ?_
  rintro e w28 ⟨rfl, hb⟩
  have H : Hid (Pool w (w28) [binP (.slice Ah kh ch) hsh (r.b), ownP 82 2 ltEnc (.slice Ah' kh' ch') (r.k), binP (.slice Ag kg cg) hsg (ssMks (1) (r.b)), ownP 82 2 ltEnc (.slice Ag' kg' cg') (ltMks (1 + 2 * T) kg'), binP (.slice Aw kw cw) hsw (r.b), ownP 82 2 ltEnc (.slice Aw' kw' cw') (r.k), boxP (w.heap.size) (.int .i64 (b0)) (.int .i64 (p0)) (.slice A0 l0.length c0)]) := H.out.step hb
  clear hb
  go_wp2
  go_ret
  exact ⟨rfl, H.out.below⟩
end Go.Proofs.Ytkpigdohgmhlkaa
