/-
  Exact law: MovePoint. (Written by gen_exact.py.)
-/
import Derived.Test.YtnfggnpemnebcaaMvB
namespace Go.Proofs.Ytnfggnpemnebcaa
open Go.RowKit

set_option maxHeartbeats 8000000 in
set_option maxRecDepth 100000 in
theorem walkFnExactMovePoint (b0 p0 : Int) (A0 : Option Addr) (l0 : List Str) (c0 : Nat) (a1 : Int) (a2 : Int) (w : World) (h0 : PlIn w b0 p0 A0 l0 c0) (_h1 : (Lit.int .i64 a1).wf = true) (_h2 : (Lit.int .i64 a2).wf = true) :
    Calls Try.prog 4 #[.agg #[.int .i64 b0, .int .i64 p0, .slice A0 l0.length c0], .int .i64 a1, .int .i64 a2] w fun e w' => e = .returned (.bool true) ∧ Below w.heap.size w w' := by
  have Hw1 := Lib.hid _h1
  clear _h1
  have Hw2 := Lib.hid _h2
  clear _h2
  obtain ⟨hlc0, hcm, hs, hr⟩ := h0
  have Hr0 := Lib.hid hr
  have Hs0 := Lib.hid hs
  have Hcap0 := Lib.hid hlc0
  have hlm0 : l0.length ≤ 9223372036854775807 := by unfold maxLen at hcm; omega
  clear hr hs hcm hlc0
  have H : Hid (Pool w (w) []) := Pool.nil_ w
  have H : Hid (Pool w (w.alloc (Obj.cells #[.int .i64 (b0), .int .i64 (p0), .slice A0 l0.length c0] 24)) [boxP (w.heap.size) (.int .i64 (b0)) (.int .i64 (p0)) (.slice A0 l0.length c0)]) := H.out.addBox (by first | rfl | simp) _ _ _ _
  by_cases hb : ¬ (strBulk l0 : Int) ≤ 1048576
  · have Hlo0 := Lib.hid (leftOf_none hb)
    clear hb
    go_enter Try.func4, Try.ntmps4
    go_wp2_with fail
    refine (lawSzPlan b0 p0 A0 l0 _ _ rfl 1048576 _ hlm0 Hs0.out (by omega) (by omega) (Hr0.out.below H.out.below)).mono ?_
    rw [Hlo0.out]
    rintro e w' ⟨rfl, hb⟩
    have H := Lib.hid (H.out.step hb)
    clear hb
    go_wp2
    go_ret
    exact ⟨rfl, H.out.below⟩
  have hb := Decidable.not_not.1 hb
  have Hlo0 := Lib.hid (leftOf_some hb)
  have hn0 : l0.length ≤ 1048576 := by have := strBulk_len l0; omega
  have Ha0 := Lib.hid (strBulk_all (l := l0) (b := 1048576) (by omega))
  obtain ⟨r0, hr, hr00, hr01⟩ : ∃ r : Int, (1048576 : Int) - strBulk l0 = r ∧ 0 ≤ r ∧ r ≤ 1048576 := ⟨_, rfl, by omega, by omega⟩
  rw [hr] at Hlo0
  clear hb hr
  obtain ⟨r, hr⟩ : ∃ r, moveR b0 p0 l0 a1 a2 = r := ⟨_, rfl⟩
  have hrl : r.l.length ≤ 1048576 := by rw [← hr]; exact moveR_len hn0
  have Hv := Lib.hid hr
  clear hr
  have hvv : (r.ok != r.ok) = false := by simp
  go_enter Try.func4, Try.ntmps4
  go_wp2_with fail
  refine (lawSzPlan b0 p0 A0 l0 _ _ rfl 1048576 _ hlm0 Hs0.out (by omega) (by omega) (Hr0.out.below H.out.below)).mono ?_
  rw [Hlo0.out]
  rintro e w1 ⟨rfl, hb⟩
  have H : Hid (Pool w (w1) [boxP (w.heap.size) (.int .i64 (b0)) (.int .i64 (p0)) (.slice A0 l0.length c0)]) := H.out.step hb
  clear hb
  obtain ⟨-, ca0, ca1, ca2, -⟩ := H.out.box 0 rfl
  go_wp2_with fail
  refine (lawToPlan' b0 p0 A0 l0 _ _ rfl _ (by omega) (Hr0.out.below H.out.below)).mono ?_
  rintro e w2 ⟨gS0, rfl, ho, hb⟩
  have H : Hid (Pool w (w2) [ownP 9 1 strEnc (.slice (some ⟨gS0, 0, none⟩) l0.length l0.length) (l0), boxP (w.heap.size) (.int .i64 (b0)) (.int .i64 (p0)) (.slice A0 l0.length c0)]) := H.out.addOwn hb ho
  clear ho hb ca0 ca1 ca2
  go_wp2_with fail
  refine (specMovePoint b0 p0 _ l0 _ _ rfl (Nat.le_refl _) a1 a2 _ (by omega) Ha0.out ((H.out.own 0 rfl).rd strEnc_len)).mono ?_
  rw [Hv.out]
  rintro e w3 ⟨Aw, kw, cw, rfl, ho, hb⟩
  have H : Hid (Pool w (w3) [ownP 9 1 strEnc (.slice Aw kw cw) (r.l), ownP 9 1 strEnc (.slice (some ⟨gS0, 0, none⟩) l0.length l0.length) (l0), boxP (w.heap.size) (.int .i64 (b0)) (.int .i64 (p0)) (.slice A0 l0.length c0)]) := H.out.addOwn hb ho
  clear ho hb
  have hkw : kw ≤ 1048576 := by have := (H.out.own 0 rfl).len; omega
  have H : Hid (Pool w (w3.alloc (Obj.cells #[.int .i64 (r.b), .int .i64 (r.p), .slice Aw kw cw] 26)) [boxP (w3.heap.size) (.int .i64 (r.b)) (.int .i64 (r.p)) (.slice Aw kw cw), ownP 9 1 strEnc (.slice Aw kw cw) (r.l), ownP 9 1 strEnc (.slice (some ⟨gS0, 0, none⟩) l0.length l0.length) (l0), boxP (w.heap.size) (.int .i64 (b0)) (.int .i64 (p0)) (.slice A0 l0.length c0)]) := H.out.addBox (by first | rfl | simp) _ _ _ _
  have H : Hid (Pool w (w3.alloc (Obj.cells #[.int .i64 (r.b), .int .i64 (r.p), .slice Aw kw cw] 26)) [boxP (w3.heap.size) (.int .i64 (r.b)) (.int .i64 (r.p)) (.slice Aw kw cw), ownP 9 1 strEnc (.slice Aw kw cw) (r.l), boxP (w.heap.size) (.int .i64 (b0)) (.int .i64 (p0)) (.slice A0 l0.length c0)]) := H.out.drop 2
  obtain ⟨-, ca0, ca1, ca2, -⟩ := H.out.box 2 rfl
  go_wp2_with fail
  refine (lawToPlan' b0 p0 A0 l0 _ _ rfl _ (by omega) (Hr0.out.below H.out.below)).mono ?_
  rintro e w4 ⟨gX0, rfl, ho, hb⟩
  have H : Hid (Pool w (w4) [ownP 9 1 strEnc (.slice (some ⟨gX0, 0, none⟩) l0.length l0.length) (l0), boxP (w3.heap.size) (.int .i64 (r.b)) (.int .i64 (r.p)) (.slice Aw kw cw), ownP 9 1 strEnc (.slice Aw kw cw) (r.l), boxP (w.heap.size) (.int .i64 (b0)) (.int .i64 (p0)) (.slice A0 l0.length c0)]) := H.out.addOwn hb ho
  clear ho hb ca0 ca1 ca2
  have H : Hid (Pool w (w4.alloc (Obj.cells #[.int .i64 (b0), .int .i64 (p0), .slice (some ⟨gX0, 0, none⟩) l0.length l0.length] 26)) [boxP (w4.heap.size) (.int .i64 (b0)) (.int .i64 (p0)) (.slice (some ⟨gX0, 0, none⟩) l0.length l0.length), ownP 9 1 strEnc (.slice (some ⟨gX0, 0, none⟩) l0.length l0.length) (l0), boxP (w3.heap.size) (.int .i64 (r.b)) (.int .i64 (r.p)) (.slice Aw kw cw), ownP 9 1 strEnc (.slice Aw kw cw) (r.l), boxP (w.heap.size) (.int .i64 (b0)) (.int .i64 (p0)) (.slice A0 l0.length c0)]) := H.out.addBox (by first | rfl | simp) _ _ _ _
  obtain ⟨-, s0, s1, s2, -⟩ := H.out.box 0 rfl
  go_wp2_with fail
  refine (implMovePoint b0 p0 _ l0 _ _ rfl (Nat.le_refl _) a1 a2 _ (by omega) Ha0.out ((H.out.own 1 rfl).rd strEnc_len)).mono ?_
  rw [Hv.out]
  rintro e w5 ⟨Ag, kg, cg, rfl, ho, hb⟩
  have H : Hid (Pool w (w5) [ownP 9 1 strEnc (.slice Ag kg cg) (r.l), boxP (w4.heap.size) (.int .i64 (b0)) (.int .i64 (p0)) (.slice (some ⟨gX0, 0, none⟩) l0.length l0.length), ownP 9 1 strEnc (.slice (some ⟨gX0, 0, none⟩) l0.length l0.length) (l0), boxP (w3.heap.size) (.int .i64 (r.b)) (.int .i64 (r.p)) (.slice Aw kw cw), ownP 9 1 strEnc (.slice Aw kw cw) (r.l), boxP (w.heap.size) (.int .i64 (b0)) (.int .i64 (p0)) (.slice A0 l0.length c0)]) := H.out.addOwn hb ho
  clear ho hb
  have hkg : kg ≤ 1048576 := by have := (H.out.own 0 rfl).len; omega
  have H : Hid (Pool w (w5.alloc (Obj.cells #[.int .i64 (r.b), .int .i64 (r.p), .slice Ag kg cg] 26)) [boxP (w5.heap.size) (.int .i64 (r.b)) (.int .i64 (r.p)) (.slice Ag kg cg), ownP 9 1 strEnc (.slice Ag kg cg) (r.l), boxP (w4.heap.size) (.int .i64 (b0)) (.int .i64 (p0)) (.slice (some ⟨gX0, 0, none⟩) l0.length l0.length), ownP 9 1 strEnc (.slice (some ⟨gX0, 0, none⟩) l0.length l0.length) (l0), boxP (w3.heap.size) (.int .i64 (r.b)) (.int .i64 (r.p)) (.slice Aw kw cw), ownP 9 1 strEnc (.slice Aw kw cw) (r.l), boxP (w.heap.size) (.int .i64 (b0)) (.int .i64 (p0)) (.slice A0 l0.length c0)]) := H.out.addBox (by first | rfl | simp) _ _ _ _
  clear s0 s1 s2
  obtain ⟨-, ca0, ca1, ca2, -⟩ := H.out.box 0 rfl
  obtain ⟨-, da0, da1, da2, -⟩ := H.out.box 4 rfl
  go_wp2_with fail
  refine (lawEqPlan r.b r.p _ _ r.l _ _ _ _ (H.out.own 1 rfl).len (H.out.own 5 rfl).len _ (by omega) ((H.out.own 1 rfl).rd strEnc_len) ((H.out.own 5 rfl).rd strEnc_len)).mono ?_
  rintro e w6 ⟨rfl, hb⟩
  have H : Hid (Pool w (w6) [boxP (w5.heap.size) (.int .i64 (r.b)) (.int .i64 (r.p)) (.slice Ag kg cg), ownP 9 1 strEnc (.slice Ag kg cg) (r.l), boxP (w4.heap.size) (.int .i64 (b0)) (.int .i64 (p0)) (.slice (some ⟨gX0, 0, none⟩) l0.length l0.length), ownP 9 1 strEnc (.slice (some ⟨gX0, 0, none⟩) l0.length l0.length) (l0), boxP (w3.heap.size) (.int .i64 (r.b)) (.int .i64 (r.p)) (.slice Aw kw cw), ownP 9 1 strEnc (.slice Aw kw cw) (r.l), boxP (w.heap.size) (.int .i64 (b0)) (.int .i64 (p0)) (.slice A0 l0.length c0)]) := H.out.step hb
  clear hb
  clear ca0 ca1 ca2 da0 da1 da2
  have Hc := Lib.hid (H.out.box 6 rfl)
  have Hd := Lib.hid (H.out.box 2 rfl)
  obtain ⟨-, ca0, ca1, ca2, -⟩ := Hc.out
  obtain ⟨-, da0, da1, da2, -⟩ := Hd.out
  have Hr8 := Lib.hid (Hr0.out.below H.out.below)
  have HX := Lib.hid (H.out.own 3 rfl)
  go_wp2_with fail
  go_region_held3 (fun w' => w'.cell? ⟨w.heap.size, 0, none⟩ = some (.int .i64 b0) ∧ w'.cell? ⟨w.heap.size, 1, none⟩ = some (.int .i64 p0) ∧ w'.cell? ⟨w.heap.size, 2, none⟩ = some (.slice A0 l0.length c0) ∧ w'.cell? ⟨w4.heap.size, 0, none⟩ = some (.int .i64 b0) ∧ w'.cell? ⟨w4.heap.size, 1, none⟩ = some (.int .i64 p0) ∧ w'.cell? ⟨w4.heap.size, 2, none⟩ = some (.slice (some ⟨gX0, 0, none⟩) l0.length l0.length))
    (first
      | exact ⟨ca0, ca1, ca2, da0, da1, da2⟩
      | exact ⟨below_cell hb7 ca0, below_cell hb7 ca1, below_cell hb7 ca2, below_cell hb7 da0, below_cell hb7 da1, below_cell hb7 da2⟩
      | exact ⟨below_cell (below_step hb7 hb8) ca0, below_cell (below_step hb7 hb8) ca1, below_cell (below_step hb7 hb8) ca2, below_cell (below_step hb7 hb8) da0, below_cell (below_step hb7 hb8) da1, below_cell (below_step hb7 hb8) da2⟩)
    (first
      | (go_at_call 11; refine (lawToPlan b0 p0 A0 l0 _ _ rfl _ (by omega) (by first | exact Hr8.out)).mono ?_; rintro e vw7 ⟨g9, hg9, rfl, ho9, hb7'⟩; have hb7 := below_undrew hb7')
      | (go_at_call 13; refine (lawEqPlan b0 p0 _ _ l0 _ _ _ _ rfl rfl _ (by omega) ((HX.out.below hb7).rd strEnc_len) (ho9.rd strEnc_len)).mono ?_; rintro e w7 ⟨rfl, hb8⟩))
  have hb := below_step hb7 hb8
  clear hb7 hb8 ho9 hg9 ca0 ca1 ca2 da0 da1 da2 Hr8 HX Hc Hd
  have H : Hid (Pool w (w7) [boxP (w5.heap.size) (.int .i64 (r.b)) (.int .i64 (r.p)) (.slice Ag kg cg), ownP 9 1 strEnc (.slice Ag kg cg) (r.l), boxP (w4.heap.size) (.int .i64 (b0)) (.int .i64 (p0)) (.slice (some ⟨gX0, 0, none⟩) l0.length l0.length), ownP 9 1 strEnc (.slice (some ⟨gX0, 0, none⟩) l0.length l0.length) (l0), boxP (w3.heap.size) (.int .i64 (r.b)) (.int .i64 (r.p)) (.slice Aw kw cw), ownP 9 1 strEnc (.slice Aw kw cw) (r.l), boxP (w.heap.size) (.int .i64 (b0)) (.int .i64 (p0)) (.slice A0 l0.length c0)]) := H.out.step hb
  clear hb
  obtain ⟨-, ca0, ca1, ca2, -⟩ := H.out.box 2 rfl
  go_wp2_with fail
  refine (lawMarkPlan b0 p0 _ (l0) _ _ (1) _ _ (by omega) (by omega) (by omega) (H.out.own 3 rfl)).mono ?_
  rintro e w8 ⟨rfl, ho, hg⟩
  have H : Hid (Pool w (w8) [boxP (w5.heap.size) (.int .i64 (r.b)) (.int .i64 (r.p)) (.slice Ag kg cg), ownP 9 1 strEnc (.slice Ag kg cg) (r.l), boxP (w4.heap.size) (.int .i64 (b0)) (.int .i64 (p0)) (.slice (some ⟨gX0, 0, none⟩) l0.length l0.length), ownP 9 1 strEnc (.slice (some ⟨gX0, 0, none⟩) l0.length l0.length) (strMks (1) l0.length), boxP (w3.heap.size) (.int .i64 (r.b)) (.int .i64 (r.p)) (.slice Aw kw cw), ownP 9 1 strEnc (.slice Aw kw cw) (r.l), boxP (w.heap.size) (.int .i64 (b0)) (.int .i64 (p0)) (.slice A0 l0.length c0)]) := H.out.turnOwn 3 rfl ho hg
  clear ho hg ca0 ca1 ca2
  obtain ⟨-, ca0, ca1, ca2, -⟩ := H.out.box 0 rfl
  obtain ⟨-, da0, da1, da2, -⟩ := H.out.box 4 rfl
  go_wp2_with fail
  refine (lawEqPlan r.b r.p _ _ r.l _ _ _ _ (H.out.own 1 rfl).len (H.out.own 5 rfl).len _ (by omega) ((H.out.own 1 rfl).rd strEnc_len) ((H.out.own 5 rfl).rd strEnc_len)).mono ?_
  rintro e w9 ⟨rfl, hb⟩
  have H : Hid (Pool w (w9) [boxP (w5.heap.size) (.int .i64 (r.b)) (.int .i64 (r.p)) (.slice Ag kg cg), ownP 9 1 strEnc (.slice Ag kg cg) (r.l), boxP (w4.heap.size) (.int .i64 (b0)) (.int .i64 (p0)) (.slice (some ⟨gX0, 0, none⟩) l0.length l0.length), ownP 9 1 strEnc (.slice (some ⟨gX0, 0, none⟩) l0.length l0.length) (strMks (1) l0.length), boxP (w3.heap.size) (.int .i64 (r.b)) (.int .i64 (r.p)) (.slice Aw kw cw), ownP 9 1 strEnc (.slice Aw kw cw) (r.l), boxP (w.heap.size) (.int .i64 (b0)) (.int .i64 (p0)) (.slice A0 l0.length c0)]) := H.out.step hb
  clear hb
  clear ca0 ca1 ca2 da0 da1 da2
  have H : Hid (Pool w (w9) [boxP (w5.heap.size) (.int .i64 (r.b)) (.int .i64 (r.p)) (.slice Ag kg cg), ownP 9 1 strEnc (.slice Ag kg cg) (r.l), boxP (w4.heap.size) (.int .i64 (b0)) (.int .i64 (p0)) (.slice (some ⟨gX0, 0, none⟩) l0.length l0.length), boxP (w3.heap.size) (.int .i64 (r.b)) (.int .i64 (r.p)) (.slice Aw kw cw), ownP 9 1 strEnc (.slice Aw kw cw) (r.l), boxP (w.heap.size) (.int .i64 (b0)) (.int .i64 (p0)) (.slice A0 l0.length c0)]) := H.out.drop 3
  have H : Hid (Pool w (w9) [boxP (w5.heap.size) (.int .i64 (r.b)) (.int .i64 (r.p)) (.slice Ag kg cg), ownP 9 1 strEnc (.slice Ag kg cg) (r.l), boxP (w3.heap.size) (.int .i64 (r.b)) (.int .i64 (r.p)) (.slice Aw kw cw), ownP 9 1 strEnc (.slice Aw kw cw) (r.l), boxP (w.heap.size) (.int .i64 (b0)) (.int .i64 (p0)) (.slice A0 l0.length c0)]) := H.out.drop 2
  obtain ⟨-, ca0, ca1, ca2, -⟩ := H.out.box 0 rfl
  go_wp2_with fail
  refine (lawMarkPlan r.b r.p _ (r.l) _ _ (1) _ _ (by omega) (by omega) (by omega) (H.out.own 1 rfl)).mono ?_
  rintro e w10 ⟨rfl, ho, hg⟩
  have H : Hid (Pool w (w10) [boxP (w5.heap.size) (.int .i64 (r.b)) (.int .i64 (r.p)) (.slice Ag kg cg), ownP 9 1 strEnc (.slice Ag kg cg) (strMks (1) kg), boxP (w3.heap.size) (.int .i64 (r.b)) (.int .i64 (r.p)) (.slice Aw kw cw), ownP 9 1 strEnc (.slice Aw kw cw) (r.l), boxP (w.heap.size) (.int .i64 (b0)) (.int .i64 (p0)) (.slice A0 l0.length c0)]) := H.out.turnOwn 1 rfl ho hg
  clear ho hg ca0 ca1 ca2
  obtain ⟨-, ca0, ca1, ca2, -⟩ := H.out.box 0 rfl
  go_wp2_with fail
  refine (lawHeldPlan r.b r.p _ _ _ (1) _ (by omega) (by omega) (by omega) ((H.out.own 1 rfl).rd strEnc_len)).mono ?_
  rintro e w11 ⟨rfl, hb⟩
  have H : Hid (Pool w (w11) [boxP (w5.heap.size) (.int .i64 (r.b)) (.int .i64 (r.p)) (.slice Ag kg cg), ownP 9 1 strEnc (.slice Ag kg cg) (strMks (1) kg), boxP (w3.heap.size) (.int .i64 (r.b)) (.int .i64 (r.p)) (.slice Aw kw cw), ownP 9 1 strEnc (.slice Aw kw cw) (r.l), boxP (w.heap.size) (.int .i64 (b0)) (.int .i64 (p0)) (.slice A0 l0.length c0)]) := H.out.step hb
  clear hb
  clear ca0 ca1 ca2
  have hqq : (((1 + kg : Nat) : Int) != ((1 + kg : Nat) : Int)) = false := by simp
  obtain ⟨-, ca0, ca1, ca2, -⟩ := H.out.box 4 rfl
  go_wp2_with fail
  refine (lawToPlan' b0 p0 A0 l0 _ _ rfl _ (by omega) (Hr0.out.below H.out.below)).mono ?_
  rintro e w12 ⟨gS0, rfl, ho, hb⟩
  have H : Hid (Pool w (w12) [ownP 9 1 strEnc (.slice (some ⟨gS0, 0, none⟩) l0.length l0.length) (l0), boxP (w5.heap.size) (.int .i64 (r.b)) (.int .i64 (r.p)) (.slice Ag kg cg), ownP 9 1 strEnc (.slice Ag kg cg) (strMks (1) kg), boxP (w3.heap.size) (.int .i64 (r.b)) (.int .i64 (r.p)) (.slice Aw kw cw), ownP 9 1 strEnc (.slice Aw kw cw) (r.l), boxP (w.heap.size) (.int .i64 (b0)) (.int .i64 (p0)) (.slice A0 l0.length c0)]) := H.out.addOwn hb ho
  clear ho hb ca0 ca1 ca2
  go_wp2_with fail
  refine (implMovePoint b0 p0 _ l0 _ _ rfl (Nat.le_refl _) a1 a2 _ (by omega) Ha0.out ((H.out.own 0 rfl).rd strEnc_len)).mono ?_
  rw [Hv.out]
  rintro e w13 ⟨Ah, kh, ch, rfl, ho, hb⟩
  have H : Hid (Pool w (w13) [ownP 9 1 strEnc (.slice Ah kh ch) (r.l), ownP 9 1 strEnc (.slice (some ⟨gS0, 0, none⟩) l0.length l0.length) (l0), boxP (w5.heap.size) (.int .i64 (r.b)) (.int .i64 (r.p)) (.slice Ag kg cg), ownP 9 1 strEnc (.slice Ag kg cg) (strMks (1) kg), boxP (w3.heap.size) (.int .i64 (r.b)) (.int .i64 (r.p)) (.slice Aw kw cw), ownP 9 1 strEnc (.slice Aw kw cw) (r.l), boxP (w.heap.size) (.int .i64 (b0)) (.int .i64 (p0)) (.slice A0 l0.length c0)]) := H.out.addOwn hb ho
  clear ho hb
  have hkh : kh ≤ 1048576 := by have := (H.out.own 0 rfl).len; omega
  have H : Hid (Pool w (w13.alloc (Obj.cells #[.int .i64 (r.b), .int .i64 (r.p), .slice Ah kh ch] 26)) [boxP (w13.heap.size) (.int .i64 (r.b)) (.int .i64 (r.p)) (.slice Ah kh ch), ownP 9 1 strEnc (.slice Ah kh ch) (r.l), ownP 9 1 strEnc (.slice (some ⟨gS0, 0, none⟩) l0.length l0.length) (l0), boxP (w5.heap.size) (.int .i64 (r.b)) (.int .i64 (r.p)) (.slice Ag kg cg), ownP 9 1 strEnc (.slice Ag kg cg) (strMks (1) kg), boxP (w3.heap.size) (.int .i64 (r.b)) (.int .i64 (r.p)) (.slice Aw kw cw), ownP 9 1 strEnc (.slice Aw kw cw) (r.l), boxP (w.heap.size) (.int .i64 (b0)) (.int .i64 (p0)) (.slice A0 l0.length c0)]) := H.out.addBox (by first | rfl | simp) _ _ _ _
  have H : Hid (Pool w (w13.alloc (Obj.cells #[.int .i64 (r.b), .int .i64 (r.p), .slice Ah kh ch] 26)) [boxP (w13.heap.size) (.int .i64 (r.b)) (.int .i64 (r.p)) (.slice Ah kh ch), ownP 9 1 strEnc (.slice Ah kh ch) (r.l), boxP (w5.heap.size) (.int .i64 (r.b)) (.int .i64 (r.p)) (.slice Ag kg cg), ownP 9 1 strEnc (.slice Ag kg cg) (strMks (1) kg), boxP (w3.heap.size) (.int .i64 (r.b)) (.int .i64 (r.p)) (.slice Aw kw cw), ownP 9 1 strEnc (.slice Aw kw cw) (r.l), boxP (w.heap.size) (.int .i64 (b0)) (.int .i64 (p0)) (.slice A0 l0.length c0)]) := H.out.drop 2
  obtain ⟨-, ca0, ca1, ca2, -⟩ := H.out.box 0 rfl
  obtain ⟨-, da0, da1, da2, -⟩ := H.out.box 4 rfl
  go_wp2_with fail
  refine (lawEqPlan r.b r.p _ _ r.l _ _ _ _ (H.out.own 1 rfl).len (H.out.own 5 rfl).len _ (by omega) ((H.out.own 1 rfl).rd strEnc_len) ((H.out.own 5 rfl).rd strEnc_len)).mono ?_
  rintro e w14 ⟨rfl, hb⟩
  have H : Hid (Pool w (w14) [boxP (w13.heap.size) (.int .i64 (r.b)) (.int .i64 (r.p)) (.slice Ah kh ch), ownP 9 1 strEnc (.slice Ah kh ch) (r.l), boxP (w5.heap.size) (.int .i64 (r.b)) (.int .i64 (r.p)) (.slice Ag kg cg), ownP 9 1 strEnc (.slice Ag kg cg) (strMks (1) kg), boxP (w3.heap.size) (.int .i64 (r.b)) (.int .i64 (r.p)) (.slice Aw kw cw), ownP 9 1 strEnc (.slice Aw kw cw) (r.l), boxP (w.heap.size) (.int .i64 (b0)) (.int .i64 (p0)) (.slice A0 l0.length c0)]) := H.out.step hb
  clear hb
  clear ca0 ca1 ca2 da0 da1 da2
  obtain ⟨-, ca0, ca1, ca2, -⟩ := H.out.box 2 rfl
  go_wp2_with fail
  refine (lawHeldPlan r.b r.p _ _ _ (1) _ (by omega) (by omega) (by omega) ((H.out.own 3 rfl).rd strEnc_len)).mono ?_
  rintro e w15 ⟨rfl, hb⟩
  have H : Hid (Pool w (w15) [boxP (w13.heap.size) (.int .i64 (r.b)) (.int .i64 (r.p)) (.slice Ah kh ch), ownP 9 1 strEnc (.slice Ah kh ch) (r.l), boxP (w5.heap.size) (.int .i64 (r.b)) (.int .i64 (r.p)) (.slice Ag kg cg), ownP 9 1 strEnc (.slice Ag kg cg) (strMks (1) kg), boxP (w3.heap.size) (.int .i64 (r.b)) (.int .i64 (r.p)) (.slice Aw kw cw), ownP 9 1 strEnc (.slice Aw kw cw) (r.l), boxP (w.heap.size) (.int .i64 (b0)) (.int .i64 (p0)) (.slice A0 l0.length c0)]) := H.out.step hb
  clear hb
  clear ca0 ca1 ca2
  go_wp2
  go_ret
  exact ⟨rfl, H.out.below⟩
end Go.Proofs.Ytnfggnpemnebcaa
