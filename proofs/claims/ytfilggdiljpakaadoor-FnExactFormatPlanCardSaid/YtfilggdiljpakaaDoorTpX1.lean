/-
  Exact law: FormatPlan. (Written by gen_exact.py.)
-/
import Derived.Test.YtfilggdiljpakaaDoorTpP
namespace Go.Proofs.YtfilggdiljpakaaDoor
open Go.RowKit

set_option maxHeartbeats 8000000 in
set_option maxRecDepth 100000 in
theorem walkFnExactFormatPlan (b0 p0 : Int) (A0 : Option Addr) (l0 : List Str) (c0 : Nat) (w : World) (h0 : PlIn w b0 p0 A0 l0 c0) :
    Calls Tryd.prog 7 #[.agg #[.int .i64 b0, .int .i64 p0, .slice A0 l0.length c0]] w fun e w' => e = .returned (.bool true) ∧ Below w.heap.size w w' := by
  obtain ⟨hlc0, hcm, hs, hr⟩ := h0
  have Hr0 := Lib.hid hr
  have Hs0 := Lib.hid hs
  have Hcap0 := Lib.hid hlc0
  have hlm0 : l0.length ≤ 9223372036854775807 := by unfold maxLen at hcm; omega
  clear hr hs hcm hlc0
  have H : Hid (Pool w (w) []) := Pool.nil_ w
  have H : Hid (Pool w (w.alloc (Obj.cells #[.int .i64 (b0), .int .i64 (p0), .slice A0 l0.length c0] 48)) [boxP (w.heap.size) (.int .i64 (b0)) (.int .i64 (p0)) (.slice A0 l0.length c0)]) := H.out.addBox (by first | rfl | simp) _ _ _ _
  by_cases hb : ¬ (strBulk l0 : Int) ≤ 1048576
  · have Hlo0 := Lib.hid (leftOf_none hb)
    clear hb
    go_enter Tryd.func7, Tryd.ntmps7
    go_wp2_with fail
    refine (lawSzPlan b0 p0 A0 l0 _ _ rfl 1048576 _ hlm0 Hs0.out (by omega) (by omega) (Hr0.out.below H.out.below)).mono ?_
    rw [Hlo0.out]
    rintro e w' ⟨rfl, hb⟩
    have H := Lib.hid (H.out.step hb)
    clear hb
    go_wp2
    go_ret
    exact ⟨rfl, H.out.below⟩
  have hb := Decidable.not_not.1 hb
  have Hlo0 := Lib.hid (leftOf_some hb)
  have hn0 : l0.length ≤ 1048576 := by have := strBulk_len l0; omega
  have Ha0 := Lib.hid (strBulk_all (l := l0) (b := 1048576) (by omega))
  obtain ⟨r0, hr, hr00, hr01⟩ : ∃ r : Int, (1048576 : Int) - strBulk l0 = r ∧ 0 ≤ r ∧ r ≤ 1048576 := ⟨_, rfl, by omega, by omega⟩
  rw [hr] at Hlo0
  clear hb hr
  obtain ⟨r, hr⟩ : ∃ r, fmtP b0 p0 l0 = r := ⟨_, rfl⟩
  have Hv := Lib.hid hr
  clear hr
  have hvv := str_t (a := r) rfl
  go_enter Tryd.func7, Tryd.ntmps7
  go_wp2_with fail
  refine (lawSzPlan b0 p0 A0 l0 _ _ rfl 1048576 _ hlm0 Hs0.out (by omega) (by omega) (Hr0.out.below H.out.below)).mono ?_
  rw [Hlo0.out]
  rintro e w1 ⟨rfl, hb⟩
  have H : Hid (Pool w (w1) [boxP (w.heap.size) (.int .i64 (b0)) (.int .i64 (p0)) (.slice A0 l0.length c0)]) := H.out.step hb
  clear hb
  obtain ⟨-, ca0, ca1, ca2, -⟩ := H.out.box 0 rfl
  go_wp2_with fail
  refine (lawToPlan' b0 p0 A0 l0 _ _ rfl _ (by omega) (Hr0.out.below H.out.below)).mono ?_
  rintro e w2 ⟨gS0, rfl, ho, hb⟩
  have H : Hid (Pool w (w2) [ownP 9 1 strEnc (.slice (some ⟨gS0, 0, none⟩) l0.length l0.length) (l0), boxP (w.heap.size) (.int .i64 (b0)) (.int .i64 (p0)) (.slice A0 l0.length c0)]) := H.out.addOwn hb ho
  clear ho hb ca0 ca1 ca2
  go_wp2_with fail
  refine (specFormatPlan b0 p0 _ l0 _ _ rfl _ (by omega) Ha0.out ((H.out.own 0 rfl).rd strEnc_len)).mono ?_
  rw [Hv.out]
  rintro e w3 ⟨rfl, hb⟩
  have H : Hid (Pool w (w3) [ownP 9 1 strEnc (.slice (some ⟨gS0, 0, none⟩) l0.length l0.length) (l0), boxP (w.heap.size) (.int .i64 (b0)) (.int .i64 (p0)) (.slice A0 l0.length c0)]) := H.out.step hb
  clear hb
  have H : Hid (Pool w (w3) [boxP (w.heap.size) (.int .i64 (b0)) (.int .i64 (p0)) (.slice A0 l0.length c0)]) := H.out.drop 0
  obtain ⟨-, ca0, ca1, ca2, -⟩ := H.out.box 0 rfl
  go_wp2_with fail
  refine (lawToPlan' b0 p0 A0 l0 _ _ rfl _ (by omega) (Hr0.out.below H.out.below)).mono ?_
  rintro e w4 ⟨gX0, rfl, ho, hb⟩
  have H : Hid (Pool w (w4) [ownP 9 1 strEnc (.slice (some ⟨gX0, 0, none⟩) l0.length l0.length) (l0), boxP (w.heap.size) (.int .i64 (b0)) (.int .i64 (p0)) (.slice A0 l0.length c0)]) := H.out.addOwn hb ho
  clear ho hb ca0 ca1 ca2
  have H : Hid (Pool w (w4.alloc (Obj.cells #[.int .i64 (b0), .int .i64 (p0), .slice (some ⟨gX0, 0, none⟩) l0.length l0.length] 36)) [boxP (w4.heap.size) (.int .i64 (b0)) (.int .i64 (p0)) (.slice (some ⟨gX0, 0, none⟩) l0.length l0.length), ownP 9 1 strEnc (.slice (some ⟨gX0, 0, none⟩) l0.length l0.length) (l0), boxP (w.heap.size) (.int .i64 (b0)) (.int .i64 (p0)) (.slice A0 l0.length c0)]) := H.out.addBox (by first | rfl | simp) _ _ _ _
  obtain ⟨-, s0, s1, s2, -⟩ := H.out.box 0 rfl
  go_wp2_with fail
  refine (implFormatPlan b0 p0 _ l0 _ _ rfl (Nat.le_refl _) (fun _ => ⟨_, _, rfl⟩) _ (by omega) Ha0.out ((H.out.own 1 rfl).rd strEnc_len)).mono ?_
  rw [Hv.out]
  rintro e w5 ⟨rfl, hb⟩
  have H : Hid (Pool w (w5) [boxP (w4.heap.size) (.int .i64 (b0)) (.int .i64 (p0)) (.slice (some ⟨gX0, 0, none⟩) l0.length l0.length), ownP 9 1 strEnc (.slice (some ⟨gX0, 0, none⟩) l0.length l0.length) (l0), boxP (w.heap.size) (.int .i64 (b0)) (.int .i64 (p0)) (.slice A0 l0.length c0)]) := H.out.step hb
  clear hb
  clear s0 s1 s2
  have Hc := Lib.hid (H.out.box 2 rfl)
  have Hd := Lib.hid (H.out.box 0 rfl)
  obtain ⟨-, ca0, ca1, ca2, -⟩ := Hc.out
  obtain ⟨-, da0, da1, da2, -⟩ := Hd.out
  have Hr8 := Lib.hid (Hr0.out.below H.out.below)
  have HX := Lib.hid (H.out.own 1 rfl)
  go_wp2_with fail
  go_region_held3 (fun w' => w'.cell? ⟨w.heap.size, 0, none⟩ = some (.int .i64 b0) ∧ w'.cell? ⟨w.heap.size, 1, none⟩ = some (.int .i64 p0) ∧ w'.cell? ⟨w.heap.size, 2, none⟩ = some (.slice A0 l0.length c0) ∧ w'.cell? ⟨w4.heap.size, 0, none⟩ = some (.int .i64 b0) ∧ w'.cell? ⟨w4.heap.size, 1, none⟩ = some (.int .i64 p0) ∧ w'.cell? ⟨w4.heap.size, 2, none⟩ = some (.slice (some ⟨gX0, 0, none⟩) l0.length l0.length))
    (first
      | exact ⟨ca0, ca1, ca2, da0, da1, da2⟩
      | exact ⟨below_cell hb7 ca0, below_cell hb7 ca1, below_cell hb7 ca2, below_cell hb7 da0, below_cell hb7 da1, below_cell hb7 da2⟩
      | exact ⟨below_cell (below_step hb7 hb8) ca0, below_cell (below_step hb7 hb8) ca1, below_cell (below_step hb7 hb8) ca2, below_cell (below_step hb7 hb8) da0, below_cell (below_step hb7 hb8) da1, below_cell (below_step hb7 hb8) da2⟩)
    (first
      | (go_at_call 35; refine (lawToPlan b0 p0 A0 l0 _ _ rfl _ (by omega) (by first | exact Hr8.out)).mono ?_; rintro e vw6 ⟨g9, hg9, rfl, ho9, hb7'⟩; have hb7 := below_undrew hb7')
      | (go_at_call 36; refine (lawEqPlan b0 p0 _ _ l0 _ _ _ _ rfl rfl _ (by omega) ((HX.out.below hb7).rd strEnc_len) (ho9.rd strEnc_len)).mono ?_; rintro e w6 ⟨rfl, hb8⟩))
  have hb := below_step hb7 hb8
  clear hb7 hb8 ho9 hg9 ca0 ca1 ca2 da0 da1 da2 Hr8 HX Hc Hd
  have H : Hid (Pool w (w6) [boxP (w4.heap.size) (.int .i64 (b0)) (.int .i64 (p0)) (.slice (some ⟨gX0, 0, none⟩) l0.length l0.length), ownP 9 1 strEnc (.slice (some ⟨gX0, 0, none⟩) l0.length l0.length) (l0), boxP (w.heap.size) (.int .i64 (b0)) (.int .i64 (p0)) (.slice A0 l0.length c0)]) := H.out.step hb
  clear hb
  go_wp2
  go_ret
  exact ⟨rfl, H.out.below⟩
end Go.Proofs.YtfilggdiljpakaaDoor
