/-
  Exact law: JoinPlans. (Written by gen_exact.py.)
-/
import Derived.Test.YtnfggnpemnebcaaPlJq
namespace Go.Proofs.Ytnfggnpemnebcaa
open Go.RowKit

set_option maxHeartbeats 8000000 in
set_option maxRecDepth 100000 in
theorem walkFnExactJoinPlans (b0 p0 : Int) (A0 : Option Addr) (l0 : List Str) (c0 : Nat) (b1 p1 : Int) (A1 : Option Addr) (l1 : List Str) (c1 : Nat) (w : World) (h0 : PlIn w b0 p0 A0 l0 c0) (h1 : PlIn w b1 p1 A1 l1 c1) :
    Calls Try.prog 3 #[.agg #[.int .i64 b0, .int .i64 p0, .slice A0 l0.length c0], .agg #[.int .i64 b1, .int .i64 p1, .slice A1 l1.length c1]] w fun e w' => e = .returned (.bool true) ∧ Below w.heap.size w w' := by
  obtain ⟨hlc0, hcm, hs, hr⟩ := h0
  have Hr0 := Lib.hid hr
  have Hs0 := Lib.hid hs
  have Hcap0 := Lib.hid hlc0
  have hlm0 : l0.length ≤ 9223372036854775807 := by unfold maxLen at hcm; omega
  clear hr hs hcm hlc0
  obtain ⟨hlc1, hcm, hs, hr⟩ := h1
  have Hr1 := Lib.hid hr
  have Hs1 := Lib.hid hs
  have Hcap1 := Lib.hid hlc1
  have hlm1 : l1.length ≤ 9223372036854775807 := by unfold maxLen at hcm; omega
  clear hr hs hcm hlc1
  have H : Hid (Pool w (w) []) := Pool.nil_ w
  have H : Hid (Pool w (w.alloc (Obj.cells #[.int .i64 (b0), .int .i64 (p0), .slice A0 l0.length c0] 24)) [boxP (w.heap.size) (.int .i64 (b0)) (.int .i64 (p0)) (.slice A0 l0.length c0)]) := H.out.addBox (by first | rfl | simp) _ _ _ _
  have H : Hid (Pool w ((w.alloc (Obj.cells #[.int .i64 (b0), .int .i64 (p0), .slice A0 l0.length c0] 24)).alloc (Obj.cells #[.int .i64 (b1), .int .i64 (p1), .slice A1 l1.length c1] 24)) [boxP (w.heap.size + 1) (.int .i64 (b1)) (.int .i64 (p1)) (.slice A1 l1.length c1), boxP (w.heap.size) (.int .i64 (b0)) (.int .i64 (p0)) (.slice A0 l0.length c0)]) := H.out.addBox (by first | rfl | simp) _ _ _ _
  by_cases hb : ¬ (strBulk l0 : Int) ≤ 1048576
  · have Hlo0 := Lib.hid (leftOf_none hb)
    clear hb
    go_enter Try.func3, Try.ntmps3
    go_wp2_with fail
    refine (lawSzPlan b0 p0 A0 l0 _ _ rfl 1048576 _ hlm0 Hs0.out (by omega) (by omega) (Hr0.out.below H.out.below)).mono ?_
    rw [Hlo0.out]
    rintro e w' ⟨rfl, hb⟩
    have H := Lib.hid (H.out.step hb)
    clear hb
    go_wp2
    go_ret
    exact ⟨rfl, H.out.below⟩
  have hb := Decidable.not_not.1 hb
  have Hlo0 := Lib.hid (leftOf_some hb)
  have hn0 : l0.length ≤ 1048576 := by have := strBulk_len l0; omega
  have Ha0 := Lib.hid (strBulk_all (l := l0) (b := 1048576) (by omega))
  obtain ⟨r0, hr, hr00, hr01⟩ : ∃ r : Int, (1048576 : Int) - strBulk l0 = r ∧ 0 ≤ r ∧ r ≤ 1048576 := ⟨_, rfl, by omega, by omega⟩
  rw [hr] at Hlo0
  clear hb hr
  by_cases hb : ¬ (strBulk l1 : Int) ≤ r0
  · have Hlo1 := Lib.hid (leftOf_none hb)
    clear hb
    go_enter Try.func3, Try.ntmps3
    go_wp2_with fail
    refine (lawSzPlan b0 p0 A0 l0 _ _ rfl 1048576 _ hlm0 Hs0.out (by omega) (by omega) (Hr0.out.below H.out.below)).mono ?_
    rw [Hlo0.out]
    rintro e w' ⟨rfl, hb⟩
    have H := Lib.hid (H.out.step hb)
    clear hb
    obtain ⟨-, ca0, ca1, ca2, -⟩ := H.out.box 0 rfl
    go_wp2_with fail
    refine (lawSzPlan b1 p1 A1 l1 _ _ rfl r0 _ hlm1 Hs1.out (by omega) (by omega) (Hr1.out.below H.out.below)).mono ?_
    rw [Hlo1.out]
    rintro e w' ⟨rfl, hb⟩
    have H := Lib.hid (H.out.step hb)
    clear hb
    clear ca0 ca1 ca2
    go_wp2
    go_ret
    exact ⟨rfl, H.out.below⟩
  have hb := Decidable.not_not.1 hb
  have Hlo1 := Lib.hid (leftOf_some hb)
  have hn1 : l1.length ≤ 1048576 := by have := strBulk_len l1; omega
  have Ha1 := Lib.hid (strBulk_all (l := l1) (b := 1048576) (by omega))
  obtain ⟨r1, hr, hr10, hr11⟩ : ∃ r : Int, (r0 : Int) - strBulk l1 = r ∧ 0 ≤ r ∧ r ≤ 1048576 := ⟨_, rfl, by omega, by omega⟩
  rw [hr] at Hlo1
  clear hb hr
  obtain ⟨r, hr⟩ : ∃ r, joinR b0 p0 l0 b1 p1 l1 = r := ⟨_, rfl⟩
  have hrl : r.l.length ≤ 1048576 := by rw [← hr]; exact joinR_len
  have Hv := Lib.hid hr
  clear hr
  have hvv : (r.ok != r.ok) = false := by simp
  go_enter Try.func3, Try.ntmps3
  go_wp2_with fail
  refine (lawSzPlan b0 p0 A0 l0 _ _ rfl 1048576 _ hlm0 Hs0.out (by omega) (by omega) (Hr0.out.below H.out.below)).mono ?_
  rw [Hlo0.out]
  rintro e w1 ⟨rfl, hb⟩
  have H : Hid (Pool w (w1) [boxP (w.heap.size + 1) (.int .i64 (b1)) (.int .i64 (p1)) (.slice A1 l1.length c1), boxP (w.heap.size) (.int .i64 (b0)) (.int .i64 (p0)) (.slice A0 l0.length c0)]) := H.out.step hb
  clear hb
  obtain ⟨-, ca0, ca1, ca2, -⟩ := H.out.box 0 rfl
  go_wp2_with fail
  refine (lawSzPlan b1 p1 A1 l1 _ _ rfl r0 _ hlm1 Hs1.out (by omega) (by omega) (Hr1.out.below H.out.below)).mono ?_
  rw [Hlo1.out]
  rintro e w2 ⟨rfl, hb⟩
  have H : Hid (Pool w (w2) [boxP (w.heap.size + 1) (.int .i64 (b1)) (.int .i64 (p1)) (.slice A1 l1.length c1), boxP (w.heap.size) (.int .i64 (b0)) (.int .i64 (p0)) (.slice A0 l0.length c0)]) := H.out.step hb
  clear hb
  clear ca0 ca1 ca2
  obtain ⟨-, ca0, ca1, ca2, -⟩ := H.out.box 1 rfl
  obtain ⟨-, da0, da1, da2, -⟩ := H.out.box 0 rfl
  have Hr8 := Lib.hid (Hr0.out.below H.out.below)
  have Hr9 := Lib.hid (Hr1.out.below H.out.below)
  go_upto_region 8 with fail
  have KS : Hid (∀ wx, Below w2.heap.size w2 wx → wx.cell? ⟨w.heap.size, 0, none⟩ = some (.int .i64 b0) ∧ wx.cell? ⟨w.heap.size, 1, none⟩ = some (.int .i64 p0) ∧ wx.cell? ⟨w.heap.size, 2, none⟩ = some (.slice A0 l0.length c0) ∧ wx.cell? ⟨w.heap.size + 1, 0, none⟩ = some (.int .i64 b1) ∧ wx.cell? ⟨w.heap.size + 1, 1, none⟩ = some (.int .i64 p1) ∧ wx.cell? ⟨w.heap.size + 1, 2, none⟩ = some (.slice A1 l1.length c1)) := fun wx hb => ⟨below_cell hb ca0, below_cell hb ca1, below_cell hb ca2, below_cell hb da0, below_cell hb da1, below_cell hb da2⟩
  clear ca0 ca1 ca2 da0 da1 da2
  have KA : Hid (Pool w2 w2.drew []) := (Pool.nil_ w2).drew1
  have KB : Hid (Pool w2 (w2.alloc (Obj.cells #[.int .i64 0, .int .i64 0, .slice none 0 0] 26)).drew [boxP w2.heap.size (.int .i64 0) (.int .i64 0) (.slice none 0 0)]) := ((Pool.nil_ w2).addBox rfl _ _ _ _).drew1
  have hbc : Below w2.heap.size w2 w2.drew := KA.out.below
  go_cut [6, 7] from 27 to 34 (fun ta tb wx => ∃ gz Aw kw cw, ta = .pointer (some ⟨gz, 0, none⟩) ∧ tb = .bool r.ok ∧ Hid (Pool w2 wx [boxP gz (.int .i64 r.b) (.int .i64 r.p) (.slice Aw kw cw), ownP 9 1 strEnc (.slice Aw kw cw) r.l]))
  case first =>
    go_region_held3 (fun w' => w'.cell? ⟨w.heap.size, 0, none⟩ = some (.int .i64 b0) ∧ w'.cell? ⟨w.heap.size, 1, none⟩ = some (.int .i64 p0) ∧ w'.cell? ⟨w.heap.size, 2, none⟩ = some (.slice A0 l0.length c0) ∧ w'.cell? ⟨w.heap.size + 1, 0, none⟩ = some (.int .i64 b1) ∧ w'.cell? ⟨w.heap.size + 1, 1, none⟩ = some (.int .i64 p1) ∧ w'.cell? ⟨w.heap.size + 1, 2, none⟩ = some (.slice A1 l1.length c1))
      (with_reducible first
        | exact KS.out _ hbc
        | exact KS.out _ KB.out.below
        | exact KS.out _ (hbc.alloc hbc.size _)
        | exact KS.out _ (HC3.out.setBox 2 rfl _ _ _).below
        | exact KS.out _ (HB3.out.setBox 3 rfl _ _ _).below
        | exact KS.out _ (HD3.out.setBox 1 rfl _ _ _).below
        | fail)
      (first
        | (go_at_call 11; with_reducible show Calls _ _ _ w2.drew _; refine (toPlanAt b0 p0 A0 l0 _ _ rfl KA.out (by omega) Hr8.out).mono ?_; rintro e wa ⟨g8, rfl, HA1⟩; have hbc := HA1.out.below)
        | (go_at_call 11; with_reducible show Calls _ _ _ (w2.alloc (Obj.cells #[.int .i64 0, .int .i64 0, .slice none 0 0] 26)).drew _; refine (toPlanAt b0 p0 A0 l0 _ _ rfl KB.out (by omega) Hr8.out).mono ?_; rintro e wa ⟨g8, rfl, HB1⟩; have hbc := HB1.out.below)
        | (go_at_call 11; with_reducible show Calls _ _ _ wa _; refine (toPlanAt b1 p1 A1 l1 _ _ rfl HA1.out (by omega) Hr9.out).mono ?_; rintro e wb ⟨g9, rfl, HA2⟩; have hbc := HA2.out.below)
        | (go_at_call 11; with_reducible show Calls _ _ _ wa _; refine (toPlanAt b1 p1 A1 l1 _ _ rfl HB1.out (by omega) Hr9.out).mono ?_; rintro e wb ⟨g9, rfl, HB2⟩; have hbc := HB2.out.below)
        | (go_at_call 11; with_reducible show Calls _ _ _ (wa.alloc (Obj.cells #[.int .i64 0, .int .i64 0, .slice none 0 0] 26)) _; have HC1 := Lib.hid (HA1.out.addBox rfl (.int .i64 0) (.int .i64 0) (.slice none 0 0) 26); refine (toPlanAt b1 p1 A1 l1 _ _ rfl HC1.out (by omega) Hr9.out).mono ?_; rintro e wb ⟨g9, rfl, HC2⟩; have hbc := HC2.out.below)
        | (go_at_call 10; with_reducible show Calls _ _ _ wb _; refine (specJoinAt Hv.out rfl rfl HC2.out (fun e => by cases e) (fun e => by cases e) (by omega) (by omega) Ha0.out Ha1.out ((HC2.out.own 2 rfl).rd strEnc_len) ((HC2.out.own 0 rfl).rd strEnc_len)).mono ?_; rintro e w3x ⟨Aw, kw, cw, rfl, HC3⟩; have hbc := HC3.out.below; obtain ⟨-, q0, q1, q2, qz⟩ := HC3.out.box 2 rfl; obtain ⟨s0, s1, s2⟩ := set3 q0 q1 q2 (.int .i64 r.b) (.int .i64 r.p) (.slice Aw kw cw))
        | (go_at_call 10; with_reducible show Calls _ _ _ wb _; refine (specJoinAt Hv.out rfl rfl HB2.out (fun e => by cases e) (fun e => by cases e) (by omega) (by omega) Ha0.out Ha1.out ((HB2.out.own 1 rfl).rd strEnc_len) ((HB2.out.own 0 rfl).rd strEnc_len)).mono ?_; rintro e w3x ⟨Aw, kw, cw, rfl, HB3⟩; have hbc := HB3.out.below; obtain ⟨-, q0, q1, q2, qz⟩ := HB3.out.box 3 rfl; obtain ⟨s0, s1, s2⟩ := set3 q0 q1 q2 (.int .i64 r.b) (.int .i64 r.p) (.slice Aw kw cw))
        | (go_at_call 10; with_reducible show Calls _ _ _ wb _; refine (specJoinAt Hv.out rfl rfl HA2.out (fun e => by cases e) (fun e => by cases e) (by omega) (by omega) Ha0.out Ha1.out ((HA2.out.own 1 rfl).rd strEnc_len) ((HA2.out.own 0 rfl).rd strEnc_len)).mono ?_; rintro e w3x ⟨Aw, kw, cw, rfl, HA3⟩; have hbc := HA3.out.below)
        | (go_at_call 10; with_reducible show Calls _ _ _ (wb.alloc (Obj.cells #[.int .i64 0, .int .i64 0, .slice none 0 0] 26)) _; have HD2 := Lib.hid (HA2.out.addBox rfl (.int .i64 0) (.int .i64 0) (.slice none 0 0) 26); refine (specJoinAt Hv.out rfl rfl HD2.out (fun e => by cases e) (fun e => by cases e) (by omega) (by omega) Ha0.out Ha1.out ((HD2.out.own 2 rfl).rd strEnc_len) ((HD2.out.own 1 rfl).rd strEnc_len)).mono ?_; rintro e w3x ⟨Aw, kw, cw, rfl, HD3⟩; have hbc := HD3.out.below; obtain ⟨-, q0, q1, q2, qz⟩ := HD3.out.box 1 rfl; obtain ⟨s0, s1, s2⟩ := set3 q0 q1 q2 (.int .i64 r.b) (.int .i64 r.p) (.slice Aw kw cw))
        | fail)
    all_goals
      go_wp2_with fail
      go_meet
      first
        | exact ⟨_, Aw, kw, cw, rfl, rfl, ((HA3.out.drop 2).drop 1).addBox rfl _ _ _ _⟩
        | exact ⟨_, Aw, kw, cw, rfl, rfl, (((HB3.out.setBox 3 rfl _ _ _).drop 2).drop 1).perm (List.Perm.swap _ _ _)⟩
        | exact ⟨_, Aw, kw, cw, rfl, rfl, (((HC3.out.setBox 2 rfl _ _ _).drop 3).drop 1).perm (List.Perm.swap _ _ _)⟩
        | exact ⟨_, Aw, kw, cw, rfl, rfl, (((HD3.out.setBox 1 rfl _ _ _).drop 3).drop 2).perm (List.Perm.swap _ _ _)⟩
  case rest =>
  obtain ⟨gw, Aw, kw, cw, rfl, rfl, HX⟩ := hcut
  have H := Lib.hid (H.out.join HX.out)
  clear HX KA KB KS hbc Hr8 Hr9
  have hkw : kw ≤ 1048576 := by have := (H.out.own 1 rfl).len; omega
  obtain ⟨-, ca0, ca1, ca2, -⟩ := H.out.box 3 rfl
  go_wp2_with fail
  refine (lawToPlan' b0 p0 A0 l0 _ _ rfl _ (by omega) (Hr0.out.below H.out.below)).mono ?_
  rintro e w4 ⟨gX0, rfl, ho, hb⟩
  have H : Hid (Pool w (w4) [ownP 9 1 strEnc (.slice (some ⟨gX0, 0, none⟩) l0.length l0.length) (l0), boxP gw (.int .i64 (r.b)) (.int .i64 (r.p)) (.slice Aw kw cw), ownP 9 1 strEnc (.slice Aw kw cw) (r.l), boxP (w.heap.size + 1) (.int .i64 (b1)) (.int .i64 (p1)) (.slice A1 l1.length c1), boxP (w.heap.size) (.int .i64 (b0)) (.int .i64 (p0)) (.slice A0 l0.length c0)]) := H.out.addOwn hb ho
  clear ho hb ca0 ca1 ca2
  have H : Hid (Pool w (w4.alloc (Obj.cells #[.int .i64 (b0), .int .i64 (p0), .slice (some ⟨gX0, 0, none⟩) l0.length l0.length] 26)) [boxP (w4.heap.size) (.int .i64 (b0)) (.int .i64 (p0)) (.slice (some ⟨gX0, 0, none⟩) l0.length l0.length), ownP 9 1 strEnc (.slice (some ⟨gX0, 0, none⟩) l0.length l0.length) (l0), boxP gw (.int .i64 (r.b)) (.int .i64 (r.p)) (.slice Aw kw cw), ownP 9 1 strEnc (.slice Aw kw cw) (r.l), boxP (w.heap.size + 1) (.int .i64 (b1)) (.int .i64 (p1)) (.slice A1 l1.length c1), boxP (w.heap.size) (.int .i64 (b0)) (.int .i64 (p0)) (.slice A0 l0.length c0)]) := H.out.addBox (by first | rfl | simp) _ _ _ _
  obtain ⟨-, ca0, ca1, ca2, -⟩ := H.out.box 4 rfl
  go_wp2_with fail
  refine (lawToPlan' b1 p1 A1 l1 _ _ rfl _ (by omega) (Hr1.out.below H.out.below)).mono ?_
  rintro e w5 ⟨gX1, rfl, ho, hb⟩
  have H : Hid (Pool w (w5) [ownP 9 1 strEnc (.slice (some ⟨gX1, 0, none⟩) l1.length l1.length) (l1), boxP (w4.heap.size) (.int .i64 (b0)) (.int .i64 (p0)) (.slice (some ⟨gX0, 0, none⟩) l0.length l0.length), ownP 9 1 strEnc (.slice (some ⟨gX0, 0, none⟩) l0.length l0.length) (l0), boxP gw (.int .i64 (r.b)) (.int .i64 (r.p)) (.slice Aw kw cw), ownP 9 1 strEnc (.slice Aw kw cw) (r.l), boxP (w.heap.size + 1) (.int .i64 (b1)) (.int .i64 (p1)) (.slice A1 l1.length c1), boxP (w.heap.size) (.int .i64 (b0)) (.int .i64 (p0)) (.slice A0 l0.length c0)]) := H.out.addOwn hb ho
  clear ho hb ca0 ca1 ca2
  have H : Hid (Pool w (w5.alloc (Obj.cells #[.int .i64 (b1), .int .i64 (p1), .slice (some ⟨gX1, 0, none⟩) l1.length l1.length] 26)) [boxP (w5.heap.size) (.int .i64 (b1)) (.int .i64 (p1)) (.slice (some ⟨gX1, 0, none⟩) l1.length l1.length), ownP 9 1 strEnc (.slice (some ⟨gX1, 0, none⟩) l1.length l1.length) (l1), boxP (w4.heap.size) (.int .i64 (b0)) (.int .i64 (p0)) (.slice (some ⟨gX0, 0, none⟩) l0.length l0.length), ownP 9 1 strEnc (.slice (some ⟨gX0, 0, none⟩) l0.length l0.length) (l0), boxP gw (.int .i64 (r.b)) (.int .i64 (r.p)) (.slice Aw kw cw), ownP 9 1 strEnc (.slice Aw kw cw) (r.l), boxP (w.heap.size + 1) (.int .i64 (b1)) (.int .i64 (p1)) (.slice A1 l1.length c1), boxP (w.heap.size) (.int .i64 (b0)) (.int .i64 (p0)) (.slice A0 l0.length c0)]) := H.out.addBox (by first | rfl | simp) _ _ _ _
  obtain ⟨-, s0, s1, s2, -⟩ := H.out.box 2 rfl
  obtain ⟨-, t0, t1, t2, -⟩ := H.out.box 0 rfl
  go_wp2_with fail
  refine (implJoinPlans b0 p0 b1 p1 _ _ l0 l1 _ _ _ _ rfl rfl (Nat.le_refl _) (Nat.le_refl _) (fun e => by cases e) (fun e => by cases e) _ (by omega) (by omega) Ha0.out Ha1.out ((H.out.own 3 rfl).rd strEnc_len) ((H.out.own 1 rfl).rd strEnc_len)).mono ?_
  rw [Hv.out]
  rintro e w6 ⟨Ag, kg, cg, rfl, ho, hb⟩
  have H : Hid (Pool w (w6) [ownP 9 1 strEnc (.slice Ag kg cg) (r.l), boxP (w5.heap.size) (.int .i64 (b1)) (.int .i64 (p1)) (.slice (some ⟨gX1, 0, none⟩) l1.length l1.length), ownP 9 1 strEnc (.slice (some ⟨gX1, 0, none⟩) l1.length l1.length) (l1), boxP (w4.heap.size) (.int .i64 (b0)) (.int .i64 (p0)) (.slice (some ⟨gX0, 0, none⟩) l0.length l0.length), ownP 9 1 strEnc (.slice (some ⟨gX0, 0, none⟩) l0.length l0.length) (l0), boxP gw (.int .i64 (r.b)) (.int .i64 (r.p)) (.slice Aw kw cw), ownP 9 1 strEnc (.slice Aw kw cw) (r.l), boxP (w.heap.size + 1) (.int .i64 (b1)) (.int .i64 (p1)) (.slice A1 l1.length c1), boxP (w.heap.size) (.int .i64 (b0)) (.int .i64 (p0)) (.slice A0 l0.length c0)]) := H.out.addOwn hb ho
  clear ho hb
  have hkg : kg ≤ 1048576 := by have := (H.out.own 0 rfl).len; omega
  have H : Hid (Pool w (w6.alloc (Obj.cells #[.int .i64 (r.b), .int .i64 (r.p), .slice Ag kg cg] 26)) [boxP (w6.heap.size) (.int .i64 (r.b)) (.int .i64 (r.p)) (.slice Ag kg cg), ownP 9 1 strEnc (.slice Ag kg cg) (r.l), boxP (w5.heap.size) (.int .i64 (b1)) (.int .i64 (p1)) (.slice (some ⟨gX1, 0, none⟩) l1.length l1.length), ownP 9 1 strEnc (.slice (some ⟨gX1, 0, none⟩) l1.length l1.length) (l1), boxP (w4.heap.size) (.int .i64 (b0)) (.int .i64 (p0)) (.slice (some ⟨gX0, 0, none⟩) l0.length l0.length), ownP 9 1 strEnc (.slice (some ⟨gX0, 0, none⟩) l0.length l0.length) (l0), boxP gw (.int .i64 (r.b)) (.int .i64 (r.p)) (.slice Aw kw cw), ownP 9 1 strEnc (.slice Aw kw cw) (r.l), boxP (w.heap.size + 1) (.int .i64 (b1)) (.int .i64 (p1)) (.slice A1 l1.length c1), boxP (w.heap.size) (.int .i64 (b0)) (.int .i64 (p0)) (.slice A0 l0.length c0)]) := H.out.addBox (by first | rfl | simp) _ _ _ _
  clear s0 s1 s2
  clear t0 t1 t2
  obtain ⟨-, ca0, ca1, ca2, -⟩ := H.out.box 0 rfl
  obtain ⟨-, da0, da1, da2, -⟩ := H.out.box 6 rfl
  go_wp2_with fail
  refine (lawEqPlan r.b r.p _ _ r.l _ _ _ _ (H.out.own 1 rfl).len (H.out.own 7 rfl).len _ (by omega) ((H.out.own 1 rfl).rd strEnc_len) ((H.out.own 7 rfl).rd strEnc_len)).mono ?_
  rintro e w7 ⟨rfl, hb⟩
  have H : Hid (Pool w (w7) [boxP (w6.heap.size) (.int .i64 (r.b)) (.int .i64 (r.p)) (.slice Ag kg cg), ownP 9 1 strEnc (.slice Ag kg cg) (r.l), boxP (w5.heap.size) (.int .i64 (b1)) (.int .i64 (p1)) (.slice (some ⟨gX1, 0, none⟩) l1.length l1.length), ownP 9 1 strEnc (.slice (some ⟨gX1, 0, none⟩) l1.length l1.length) (l1), boxP (w4.heap.size) (.int .i64 (b0)) (.int .i64 (p0)) (.slice (some ⟨gX0, 0, none⟩) l0.length l0.length), ownP 9 1 strEnc (.slice (some ⟨gX0, 0, none⟩) l0.length l0.length) (l0), boxP gw (.int .i64 (r.b)) (.int .i64 (r.p)) (.slice Aw kw cw), ownP 9 1 strEnc (.slice Aw kw cw) (r.l), boxP (w.heap.size + 1) (.int .i64 (b1)) (.int .i64 (p1)) (.slice A1 l1.length c1), boxP (w.heap.size) (.int .i64 (b0)) (.int .i64 (p0)) (.slice A0 l0.length c0)]) := H.out.step hb
  clear hb
  clear ca0 ca1 ca2 da0 da1 da2
  have Hc := Lib.hid (H.out.box 9 rfl)
  have Hd := Lib.hid (H.out.box 4 rfl)
  obtain ⟨-, ca0, ca1, ca2, -⟩ := Hc.out
  obtain ⟨-, da0, da1, da2, -⟩ := Hd.out
  have Hr8 := Lib.hid (Hr0.out.below H.out.below)
  have HX := Lib.hid (H.out.own 5 rfl)
  go_wp2_with fail
  go_region_held3 (fun w' => w'.cell? ⟨w.heap.size, 0, none⟩ = some (.int .i64 b0) ∧ w'.cell? ⟨w.heap.size, 1, none⟩ = some (.int .i64 p0) ∧ w'.cell? ⟨w.heap.size, 2, none⟩ = some (.slice A0 l0.length c0) ∧ w'.cell? ⟨w4.heap.size, 0, none⟩ = some (.int .i64 b0) ∧ w'.cell? ⟨w4.heap.size, 1, none⟩ = some (.int .i64 p0) ∧ w'.cell? ⟨w4.heap.size, 2, none⟩ = some (.slice (some ⟨gX0, 0, none⟩) l0.length l0.length))
    (first
      | exact ⟨ca0, ca1, ca2, da0, da1, da2⟩
      | exact ⟨below_cell hb7 ca0, below_cell hb7 ca1, below_cell hb7 ca2, below_cell hb7 da0, below_cell hb7 da1, below_cell hb7 da2⟩
      | exact ⟨below_cell (below_step hb7 hb8) ca0, below_cell (below_step hb7 hb8) ca1, below_cell (below_step hb7 hb8) ca2, below_cell (below_step hb7 hb8) da0, below_cell (below_step hb7 hb8) da1, below_cell (below_step hb7 hb8) da2⟩)
    (first
      | (go_at_call 11; refine (lawToPlan b0 p0 A0 l0 _ _ rfl _ (by omega) (by first | exact Hr8.out)).mono ?_; rintro e vw8 ⟨g9, hg9, rfl, ho9, hb7'⟩; have hb7 := below_undrew hb7')
      | (go_at_call 13; refine (lawEqPlan b0 p0 _ _ l0 _ _ _ _ rfl rfl _ (by omega) ((HX.out.below hb7).rd strEnc_len) (ho9.rd strEnc_len)).mono ?_; rintro e w8 ⟨rfl, hb8⟩))
  have hb := below_step hb7 hb8
  clear hb7 hb8 ho9 hg9 ca0 ca1 ca2 da0 da1 da2 Hr8 HX Hc Hd
  have H : Hid (Pool w (w8) [boxP (w6.heap.size) (.int .i64 (r.b)) (.int .i64 (r.p)) (.slice Ag kg cg), ownP 9 1 strEnc (.slice Ag kg cg) (r.l), boxP (w5.heap.size) (.int .i64 (b1)) (.int .i64 (p1)) (.slice (some ⟨gX1, 0, none⟩) l1.length l1.length), ownP 9 1 strEnc (.slice (some ⟨gX1, 0, none⟩) l1.length l1.length) (l1), boxP (w4.heap.size) (.int .i64 (b0)) (.int .i64 (p0)) (.slice (some ⟨gX0, 0, none⟩) l0.length l0.length), ownP 9 1 strEnc (.slice (some ⟨gX0, 0, none⟩) l0.length l0.length) (l0), boxP gw (.int .i64 (r.b)) (.int .i64 (r.p)) (.slice Aw kw cw), ownP 9 1 strEnc (.slice Aw kw cw) (r.l), boxP (w.heap.size + 1) (.int .i64 (b1)) (.int .i64 (p1)) (.slice A1 l1.length c1), boxP (w.heap.size) (.int .i64 (b0)) (.int .i64 (p0)) (.slice A0 l0.length c0)]) := H.out.step hb
  clear hb
  have Hc := Lib.hid (H.out.box 8 rfl)
  have Hd := Lib.hid (H.out.box 2 rfl)
  obtain ⟨-, ca0, ca1, ca2, -⟩ := Hc.out
  obtain ⟨-, da0, da1, da2, -⟩ := Hd.out
  have Hr8 := Lib.hid (Hr1.out.below H.out.below)
  have HX := Lib.hid (H.out.own 3 rfl)
  go_wp2_with fail
  go_region_held3 (fun w' => w'.cell? ⟨w.heap.size + 1, 0, none⟩ = some (.int .i64 b1) ∧ w'.cell? ⟨w.heap.size + 1, 1, none⟩ = some (.int .i64 p1) ∧ w'.cell? ⟨w.heap.size + 1, 2, none⟩ = some (.slice A1 l1.length c1) ∧ w'.cell? ⟨w5.heap.size, 0, none⟩ = some (.int .i64 b1) ∧ w'.cell? ⟨w5.heap.size, 1, none⟩ = some (.int .i64 p1) ∧ w'.cell? ⟨w5.heap.size, 2, none⟩ = some (.slice (some ⟨gX1, 0, none⟩) l1.length l1.length))
    (first
      | exact ⟨ca0, ca1, ca2, da0, da1, da2⟩
      | exact ⟨below_cell hb7 ca0, below_cell hb7 ca1, below_cell hb7 ca2, below_cell hb7 da0, below_cell hb7 da1, below_cell hb7 da2⟩
      | exact ⟨below_cell (below_step hb7 hb8) ca0, below_cell (below_step hb7 hb8) ca1, below_cell (below_step hb7 hb8) ca2, below_cell (below_step hb7 hb8) da0, below_cell (below_step hb7 hb8) da1, below_cell (below_step hb7 hb8) da2⟩)
    (first
      | (go_at_call 11; refine (lawToPlan b1 p1 A1 l1 _ _ rfl _ (by omega) (by first | exact Hr8.out)).mono ?_; rintro e vw9 ⟨g9, hg9, rfl, ho9, hb7'⟩; have hb7 := below_undrew hb7')
      | (go_at_call 13; refine (lawEqPlan b1 p1 _ _ l1 _ _ _ _ rfl rfl _ (by omega) ((HX.out.below hb7).rd strEnc_len) (ho9.rd strEnc_len)).mono ?_; rintro e w9 ⟨rfl, hb8⟩))
  have hb := below_step hb7 hb8
  clear hb7 hb8 ho9 hg9 ca0 ca1 ca2 da0 da1 da2 Hr8 HX Hc Hd
  have H : Hid (Pool w (w9) [boxP (w6.heap.size) (.int .i64 (r.b)) (.int .i64 (r.p)) (.slice Ag kg cg), ownP 9 1 strEnc (.slice Ag kg cg) (r.l), boxP (w5.heap.size) (.int .i64 (b1)) (.int .i64 (p1)) (.slice (some ⟨gX1, 0, none⟩) l1.length l1.length), ownP 9 1 strEnc (.slice (some ⟨gX1, 0, none⟩) l1.length l1.length) (l1), boxP (w4.heap.size) (.int .i64 (b0)) (.int .i64 (p0)) (.slice (some ⟨gX0, 0, none⟩) l0.length l0.length), ownP 9 1 strEnc (.slice (some ⟨gX0, 0, none⟩) l0.length l0.length) (l0), boxP gw (.int .i64 (r.b)) (.int .i64 (r.p)) (.slice Aw kw cw), ownP 9 1 strEnc (.slice Aw kw cw) (r.l), boxP (w.heap.size + 1) (.int .i64 (b1)) (.int .i64 (p1)) (.slice A1 l1.length c1), boxP (w.heap.size) (.int .i64 (b0)) (.int .i64 (p0)) (.slice A0 l0.length c0)]) := H.out.step hb
  clear hb
  obtain ⟨-, ca0, ca1, ca2, -⟩ := H.out.box 4 rfl
  go_wp2_with fail
  refine (lawMarkPlan b0 p0 _ (l0) _ _ (1) _ _ (by omega) (by omega) (by omega) (H.out.own 5 rfl)).mono ?_
  rintro e w10 ⟨rfl, ho, hg⟩
  have H : Hid (Pool w (w10) [boxP (w6.heap.size) (.int .i64 (r.b)) (.int .i64 (r.p)) (.slice Ag kg cg), ownP 9 1 strEnc (.slice Ag kg cg) (r.l), boxP (w5.heap.size) (.int .i64 (b1)) (.int .i64 (p1)) (.slice (some ⟨gX1, 0, none⟩) l1.length l1.length), ownP 9 1 strEnc (.slice (some ⟨gX1, 0, none⟩) l1.length l1.length) (l1), boxP (w4.heap.size) (.int .i64 (b0)) (.int .i64 (p0)) (.slice (some ⟨gX0, 0, none⟩) l0.length l0.length), ownP 9 1 strEnc (.slice (some ⟨gX0, 0, none⟩) l0.length l0.length) (strMks (1) l0.length), boxP gw (.int .i64 (r.b)) (.int .i64 (r.p)) (.slice Aw kw cw), ownP 9 1 strEnc (.slice Aw kw cw) (r.l), boxP (w.heap.size + 1) (.int .i64 (b1)) (.int .i64 (p1)) (.slice A1 l1.length c1), boxP (w.heap.size) (.int .i64 (b0)) (.int .i64 (p0)) (.slice A0 l0.length c0)]) := H.out.turnOwn 5 rfl ho hg
  clear ho hg ca0 ca1 ca2
  obtain ⟨-, ca0, ca1, ca2, -⟩ := H.out.box 2 rfl
  go_wp2_with fail
  refine (lawMarkPlan b1 p1 _ (l1) _ _ (1 + l0.length) _ _ (by omega) (by omega) (by omega) (H.out.own 3 rfl)).mono ?_
  rintro e w11 ⟨rfl, ho, hg⟩
  have H : Hid (Pool w (w11) [boxP (w6.heap.size) (.int .i64 (r.b)) (.int .i64 (r.p)) (.slice Ag kg cg), ownP 9 1 strEnc (.slice Ag kg cg) (r.l), boxP (w5.heap.size) (.int .i64 (b1)) (.int .i64 (p1)) (.slice (some ⟨gX1, 0, none⟩) l1.length l1.length), ownP 9 1 strEnc (.slice (some ⟨gX1, 0, none⟩) l1.length l1.length) (strMks (1 + l0.length) l1.length), boxP (w4.heap.size) (.int .i64 (b0)) (.int .i64 (p0)) (.slice (some ⟨gX0, 0, none⟩) l0.length l0.length), ownP 9 1 strEnc (.slice (some ⟨gX0, 0, none⟩) l0.length l0.length) (strMks (1) l0.length), boxP gw (.int .i64 (r.b)) (.int .i64 (r.p)) (.slice Aw kw cw), ownP 9 1 strEnc (.slice Aw kw cw) (r.l), boxP (w.heap.size + 1) (.int .i64 (b1)) (.int .i64 (p1)) (.slice A1 l1.length c1), boxP (w.heap.size) (.int .i64 (b0)) (.int .i64 (p0)) (.slice A0 l0.length c0)]) := H.out.turnOwn 3 rfl ho hg
  clear ho hg ca0 ca1 ca2
  obtain ⟨-, ca0, ca1, ca2, -⟩ := H.out.box 0 rfl
  obtain ⟨-, da0, da1, da2, -⟩ := H.out.box 6 rfl
  go_wp2_with fail
  refine (lawEqPlan r.b r.p _ _ r.l _ _ _ _ (H.out.own 1 rfl).len (H.out.own 7 rfl).len _ (by omega) ((H.out.own 1 rfl).rd strEnc_len) ((H.out.own 7 rfl).rd strEnc_len)).mono ?_
  rintro e w12 ⟨rfl, hb⟩
  have H : Hid (Pool w (w12) [boxP (w6.heap.size) (.int .i64 (r.b)) (.int .i64 (r.p)) (.slice Ag kg cg), ownP 9 1 strEnc (.slice Ag kg cg) (r.l), boxP (w5.heap.size) (.int .i64 (b1)) (.int .i64 (p1)) (.slice (some ⟨gX1, 0, none⟩) l1.length l1.length), ownP 9 1 strEnc (.slice (some ⟨gX1, 0, none⟩) l1.length l1.length) (strMks (1 + l0.length) l1.length), boxP (w4.heap.size) (.int .i64 (b0)) (.int .i64 (p0)) (.slice (some ⟨gX0, 0, none⟩) l0.length l0.length), ownP 9 1 strEnc (.slice (some ⟨gX0, 0, none⟩) l0.length l0.length) (strMks (1) l0.length), boxP gw (.int .i64 (r.b)) (.int .i64 (r.p)) (.slice Aw kw cw), ownP 9 1 strEnc (.slice Aw kw cw) (r.l), boxP (w.heap.size + 1) (.int .i64 (b1)) (.int .i64 (p1)) (.slice A1 l1.length c1), boxP (w.heap.size) (.int .i64 (b0)) (.int .i64 (p0)) (.slice A0 l0.length c0)]) := H.out.step hb
  clear hb
  clear ca0 ca1 ca2 da0 da1 da2
  have H : Hid (Pool w (w12) [boxP (w6.heap.size) (.int .i64 (r.b)) (.int .i64 (r.p)) (.slice Ag kg cg), ownP 9 1 strEnc (.slice Ag kg cg) (r.l), boxP (w5.heap.size) (.int .i64 (b1)) (.int .i64 (p1)) (.slice (some ⟨gX1, 0, none⟩) l1.length l1.length), ownP 9 1 strEnc (.slice (some ⟨gX1, 0, none⟩) l1.length l1.length) (strMks (1 + l0.length) l1.length), boxP (w4.heap.size) (.int .i64 (b0)) (.int .i64 (p0)) (.slice (some ⟨gX0, 0, none⟩) l0.length l0.length), boxP gw (.int .i64 (r.b)) (.int .i64 (r.p)) (.slice Aw kw cw), ownP 9 1 strEnc (.slice Aw kw cw) (r.l), boxP (w.heap.size + 1) (.int .i64 (b1)) (.int .i64 (p1)) (.slice A1 l1.length c1), boxP (w.heap.size) (.int .i64 (b0)) (.int .i64 (p0)) (.slice A0 l0.length c0)]) := H.out.drop 5
  have H : Hid (Pool w (w12) [boxP (w6.heap.size) (.int .i64 (r.b)) (.int .i64 (r.p)) (.slice Ag kg cg), ownP 9 1 strEnc (.slice Ag kg cg) (r.l), boxP (w5.heap.size) (.int .i64 (b1)) (.int .i64 (p1)) (.slice (some ⟨gX1, 0, none⟩) l1.length l1.length), ownP 9 1 strEnc (.slice (some ⟨gX1, 0, none⟩) l1.length l1.length) (strMks (1 + l0.length) l1.length), boxP gw (.int .i64 (r.b)) (.int .i64 (r.p)) (.slice Aw kw cw), ownP 9 1 strEnc (.slice Aw kw cw) (r.l), boxP (w.heap.size + 1) (.int .i64 (b1)) (.int .i64 (p1)) (.slice A1 l1.length c1), boxP (w.heap.size) (.int .i64 (b0)) (.int .i64 (p0)) (.slice A0 l0.length c0)]) := H.out.drop 4
  have H : Hid (Pool w (w12) [boxP (w6.heap.size) (.int .i64 (r.b)) (.int .i64 (r.p)) (.slice Ag kg cg), ownP 9 1 strEnc (.slice Ag kg cg) (r.l), boxP (w5.heap.size) (.int .i64 (b1)) (.int .i64 (p1)) (.slice (some ⟨gX1, 0, none⟩) l1.length l1.length), boxP gw (.int .i64 (r.b)) (.int .i64 (r.p)) (.slice Aw kw cw), ownP 9 1 strEnc (.slice Aw kw cw) (r.l), boxP (w.heap.size + 1) (.int .i64 (b1)) (.int .i64 (p1)) (.slice A1 l1.length c1), boxP (w.heap.size) (.int .i64 (b0)) (.int .i64 (p0)) (.slice A0 l0.length c0)]) := H.out.drop 3
  have H : Hid (Pool w (w12) [boxP (w6.heap.size) (.int .i64 (r.b)) (.int .i64 (r.p)) (.slice Ag kg cg), ownP 9 1 strEnc (.slice Ag kg cg) (r.l), boxP gw (.int .i64 (r.b)) (.int .i64 (r.p)) (.slice Aw kw cw), ownP 9 1 strEnc (.slice Aw kw cw) (r.l), boxP (w.heap.size + 1) (.int .i64 (b1)) (.int .i64 (p1)) (.slice A1 l1.length c1), boxP (w.heap.size) (.int .i64 (b0)) (.int .i64 (p0)) (.slice A0 l0.length c0)]) := H.out.drop 2
  obtain ⟨-, ca0, ca1, ca2, -⟩ := H.out.box 0 rfl
  go_wp2_with fail
  refine (lawMarkPlan r.b r.p _ (r.l) _ _ (1) _ _ (by omega) (by omega) (by omega) (H.out.own 1 rfl)).mono ?_
  rintro e w13 ⟨rfl, ho, hg⟩
  have H : Hid (Pool w (w13) [boxP (w6.heap.size) (.int .i64 (r.b)) (.int .i64 (r.p)) (.slice Ag kg cg), ownP 9 1 strEnc (.slice Ag kg cg) (strMks (1) kg), boxP gw (.int .i64 (r.b)) (.int .i64 (r.p)) (.slice Aw kw cw), ownP 9 1 strEnc (.slice Aw kw cw) (r.l), boxP (w.heap.size + 1) (.int .i64 (b1)) (.int .i64 (p1)) (.slice A1 l1.length c1), boxP (w.heap.size) (.int .i64 (b0)) (.int .i64 (p0)) (.slice A0 l0.length c0)]) := H.out.turnOwn 1 rfl ho hg
  clear ho hg ca0 ca1 ca2
  obtain ⟨-, ca0, ca1, ca2, -⟩ := H.out.box 0 rfl
  go_wp2_with fail
  refine (lawHeldPlan r.b r.p _ _ _ (1) _ (by omega) (by omega) (by omega) ((H.out.own 1 rfl).rd strEnc_len)).mono ?_
  rintro e w14 ⟨rfl, hb⟩
  have H : Hid (Pool w (w14) [boxP (w6.heap.size) (.int .i64 (r.b)) (.int .i64 (r.p)) (.slice Ag kg cg), ownP 9 1 strEnc (.slice Ag kg cg) (strMks (1) kg), boxP gw (.int .i64 (r.b)) (.int .i64 (r.p)) (.slice Aw kw cw), ownP 9 1 strEnc (.slice Aw kw cw) (r.l), boxP (w.heap.size + 1) (.int .i64 (b1)) (.int .i64 (p1)) (.slice A1 l1.length c1), boxP (w.heap.size) (.int .i64 (b0)) (.int .i64 (p0)) (.slice A0 l0.length c0)]) := H.out.step hb
  clear hb
  clear ca0 ca1 ca2
  have hqq : (((1 + kg : Nat) : Int) != ((1 + kg : Nat) : Int)) = false := by simp
  obtain ⟨-, ca0, ca1, ca2, -⟩ := H.out.box 5 rfl
  obtain ⟨-, da0, da1, da2, -⟩ := H.out.box 4 rfl
  have Hr8 := Lib.hid (Hr0.out.below H.out.below)
  have Hr9 := Lib.hid (Hr1.out.below H.out.below)
  go_upto_region 31 with fail
  have KS : Hid (∀ wx, Below w14.heap.size w14 wx → wx.cell? ⟨w.heap.size, 0, none⟩ = some (.int .i64 b0) ∧ wx.cell? ⟨w.heap.size, 1, none⟩ = some (.int .i64 p0) ∧ wx.cell? ⟨w.heap.size, 2, none⟩ = some (.slice A0 l0.length c0) ∧ wx.cell? ⟨w.heap.size + 1, 0, none⟩ = some (.int .i64 b1) ∧ wx.cell? ⟨w.heap.size + 1, 1, none⟩ = some (.int .i64 p1) ∧ wx.cell? ⟨w.heap.size + 1, 2, none⟩ = some (.slice A1 l1.length c1)) := fun wx hb => ⟨below_cell hb ca0, below_cell hb ca1, below_cell hb ca2, below_cell hb da0, below_cell hb da1, below_cell hb da2⟩
  clear ca0 ca1 ca2 da0 da1 da2
  have KA : Hid (Pool w14 w14.drew []) := (Pool.nil_ w14).drew1
  have KB : Hid (Pool w14 (w14.alloc (Obj.cells #[.int .i64 0, .int .i64 0, .slice none 0 0] 26)).drew [boxP w14.heap.size (.int .i64 0) (.int .i64 0) (.slice none 0 0)]) := ((Pool.nil_ w14).addBox rfl _ _ _ _).drew1
  have hbc : Below w14.heap.size w14 w14.drew := KA.out.below
  go_cut [15, 16] from 94 to 101 (fun ta tb wx => ∃ gz Ah kh ch, ta = .pointer (some ⟨gz, 0, none⟩) ∧ tb = .bool r.ok ∧ Hid (Pool w14 wx [boxP gz (.int .i64 r.b) (.int .i64 r.p) (.slice Ah kh ch), ownP 9 1 strEnc (.slice Ah kh ch) r.l]))
  case first =>
    go_region_held3 (fun w' => w'.cell? ⟨w.heap.size, 0, none⟩ = some (.int .i64 b0) ∧ w'.cell? ⟨w.heap.size, 1, none⟩ = some (.int .i64 p0) ∧ w'.cell? ⟨w.heap.size, 2, none⟩ = some (.slice A0 l0.length c0) ∧ w'.cell? ⟨w.heap.size + 1, 0, none⟩ = some (.int .i64 b1) ∧ w'.cell? ⟨w.heap.size + 1, 1, none⟩ = some (.int .i64 p1) ∧ w'.cell? ⟨w.heap.size + 1, 2, none⟩ = some (.slice A1 l1.length c1))
      (with_reducible first
        | exact KS.out _ hbc
        | exact KS.out _ KB.out.below
        | exact KS.out _ (hbc.alloc hbc.size _)
        | exact KS.out _ (HC3.out.setBox 2 rfl _ _ _).below
        | exact KS.out _ (HB3.out.setBox 3 rfl _ _ _).below
        | exact KS.out _ (HD3.out.setBox 1 rfl _ _ _).below
        | fail)
      (first
        | (go_at_call 11; with_reducible show Calls _ _ _ w14.drew _; refine (toPlanAt b0 p0 A0 l0 _ _ rfl KA.out (by omega) Hr8.out).mono ?_; rintro e wa ⟨g8, rfl, HA1⟩; have hbc := HA1.out.below)
        | (go_at_call 11; with_reducible show Calls _ _ _ (w14.alloc (Obj.cells #[.int .i64 0, .int .i64 0, .slice none 0 0] 26)).drew _; refine (toPlanAt b0 p0 A0 l0 _ _ rfl KB.out (by omega) Hr8.out).mono ?_; rintro e wa ⟨g8, rfl, HB1⟩; have hbc := HB1.out.below)
        | (go_at_call 11; with_reducible show Calls _ _ _ wa _; refine (toPlanAt b1 p1 A1 l1 _ _ rfl HA1.out (by omega) Hr9.out).mono ?_; rintro e wb ⟨g9, rfl, HA2⟩; have hbc := HA2.out.below)
        | (go_at_call 11; with_reducible show Calls _ _ _ wa _; refine (toPlanAt b1 p1 A1 l1 _ _ rfl HB1.out (by omega) Hr9.out).mono ?_; rintro e wb ⟨g9, rfl, HB2⟩; have hbc := HB2.out.below)
        | (go_at_call 11; with_reducible show Calls _ _ _ (wa.alloc (Obj.cells #[.int .i64 0, .int .i64 0, .slice none 0 0] 26)) _; have HC1 := Lib.hid (HA1.out.addBox rfl (.int .i64 0) (.int .i64 0) (.slice none 0 0) 26); refine (toPlanAt b1 p1 A1 l1 _ _ rfl HC1.out (by omega) Hr9.out).mono ?_; rintro e wb ⟨g9, rfl, HC2⟩; have hbc := HC2.out.below)
        | (go_at_call 12; with_reducible show Calls _ _ _ wb _; refine (implJoinAt Hv.out rfl rfl (Nat.le_refl _) (Nat.le_refl _) HC2.out (fun e => by cases e) (fun e => by cases e) (by omega) (by omega) Ha0.out Ha1.out ((HC2.out.own 2 rfl).rd strEnc_len) ((HC2.out.own 0 rfl).rd strEnc_len)).mono ?_; rintro e w3x ⟨Ah, kh, ch, rfl, HC3⟩; have hbc := HC3.out.below; obtain ⟨-, q0, q1, q2, qz⟩ := HC3.out.box 2 rfl; obtain ⟨s0, s1, s2⟩ := set3 q0 q1 q2 (.int .i64 r.b) (.int .i64 r.p) (.slice Ah kh ch))
        | (go_at_call 12; with_reducible show Calls _ _ _ wb _; refine (implJoinAt Hv.out rfl rfl (Nat.le_refl _) (Nat.le_refl _) HB2.out (fun e => by cases e) (fun e => by cases e) (by omega) (by omega) Ha0.out Ha1.out ((HB2.out.own 1 rfl).rd strEnc_len) ((HB2.out.own 0 rfl).rd strEnc_len)).mono ?_; rintro e w3x ⟨Ah, kh, ch, rfl, HB3⟩; have hbc := HB3.out.below; obtain ⟨-, q0, q1, q2, qz⟩ := HB3.out.box 3 rfl; obtain ⟨s0, s1, s2⟩ := set3 q0 q1 q2 (.int .i64 r.b) (.int .i64 r.p) (.slice Ah kh ch))
        | (go_at_call 12; with_reducible show Calls _ _ _ wb _; refine (implJoinAt Hv.out rfl rfl (Nat.le_refl _) (Nat.le_refl _) HA2.out (fun e => by cases e) (fun e => by cases e) (by omega) (by omega) Ha0.out Ha1.out ((HA2.out.own 1 rfl).rd strEnc_len) ((HA2.out.own 0 rfl).rd strEnc_len)).mono ?_; rintro e w3x ⟨Ah, kh, ch, rfl, HA3⟩; have hbc := HA3.out.below)
        | (go_at_call 12; with_reducible show Calls _ _ _ (wb.alloc (Obj.cells #[.int .i64 0, .int .i64 0, .slice none 0 0] 26)) _; have HD2 := Lib.hid (HA2.out.addBox rfl (.int .i64 0) (.int .i64 0) (.slice none 0 0) 26); refine (implJoinAt Hv.out rfl rfl (Nat.le_refl _) (Nat.le_refl _) HD2.out (fun e => by cases e) (fun e => by cases e) (by omega) (by omega) Ha0.out Ha1.out ((HD2.out.own 2 rfl).rd strEnc_len) ((HD2.out.own 1 rfl).rd strEnc_len)).mono ?_; rintro e w3x ⟨Ah, kh, ch, rfl, HD3⟩; have hbc := HD3.out.below; obtain ⟨-, q0, q1, q2, qz⟩ := HD3.out.box 1 rfl; obtain ⟨s0, s1, s2⟩ := set3 q0 q1 q2 (.int .i64 r.b) (.int .i64 r.p) (.slice Ah kh ch))
        | fail)
    all_goals
      go_wp2_with fail
      go_meet
      first
        | exact ⟨_, Ah, kh, ch, rfl, rfl, ((HA3.out.drop 2).drop 1).addBox rfl _ _ _ _⟩
        | exact ⟨_, Ah, kh, ch, rfl, rfl, (((HB3.out.setBox 3 rfl _ _ _).drop 2).drop 1).perm (List.Perm.swap _ _ _)⟩
        | exact ⟨_, Ah, kh, ch, rfl, rfl, (((HC3.out.setBox 2 rfl _ _ _).drop 3).drop 1).perm (List.Perm.swap _ _ _)⟩
        | exact ⟨_, Ah, kh, ch, rfl, rfl, (((HD3.out.setBox 1 rfl _ _ _).drop 3).drop 2).perm (List.Perm.swap _ _ _)⟩
  case rest =>
  obtain ⟨gh, Ah, kh, ch, rfl, rfl, HX⟩ := hcut
  have H := Lib.hid (H.out.join HX.out)
  clear HX KA KB KS hbc Hr8 Hr9
  have hkh : kh ≤ 1048576 := by have := (H.out.own 1 rfl).len; omega
  obtain ⟨-, ca0, ca1, ca2, -⟩ := H.out.box 0 rfl
  obtain ⟨-, da0, da1, da2, -⟩ := H.out.box 4 rfl
  go_wp2_with fail
  refine (lawEqPlan r.b r.p _ _ r.l _ _ _ _ (H.out.own 1 rfl).len (H.out.own 5 rfl).len _ (by omega) ((H.out.own 1 rfl).rd strEnc_len) ((H.out.own 5 rfl).rd strEnc_len)).mono ?_
  rintro e w16 ⟨rfl, hb⟩
  have H : Hid (Pool w (w16) [boxP gh (.int .i64 (r.b)) (.int .i64 (r.p)) (.slice Ah kh ch), ownP 9 1 strEnc (.slice Ah kh ch) (r.l), boxP (w6.heap.size) (.int .i64 (r.b)) (.int .i64 (r.p)) (.slice Ag kg cg), ownP 9 1 strEnc (.slice Ag kg cg) (strMks (1) kg), boxP gw (.int .i64 (r.b)) (.int .i64 (r.p)) (.slice Aw kw cw), ownP 9 1 strEnc (.slice Aw kw cw) (r.l), boxP (w.heap.size + 1) (.int .i64 (b1)) (.int .i64 (p1)) (.slice A1 l1.length c1), boxP (w.heap.size) (.int .i64 (b0)) (.int .i64 (p0)) (.slice A0 l0.length c0)]) := H.out.step hb
  clear hb
  clear ca0 ca1 ca2 da0 da1 da2
  obtain ⟨-, ca0, ca1, ca2, -⟩ := H.out.box 2 rfl
  go_wp2_with fail
  refine (lawHeldPlan r.b r.p _ _ _ (1) _ (by omega) (by omega) (by omega) ((H.out.own 3 rfl).rd strEnc_len)).mono ?_
  rintro e w17 ⟨rfl, hb⟩
  have H : Hid (Pool w (w17) [boxP gh (.int .i64 (r.b)) (.int .i64 (r.p)) (.slice Ah kh ch), ownP 9 1 strEnc (.slice Ah kh ch) (r.l), boxP (w6.heap.size) (.int .i64 (r.b)) (.int .i64 (r.p)) (.slice Ag kg cg), ownP 9 1 strEnc (.slice Ag kg cg) (strMks (1) kg), boxP gw (.int .i64 (r.b)) (.int .i64 (r.p)) (.slice Aw kw cw), ownP 9 1 strEnc (.slice Aw kw cw) (r.l), boxP (w.heap.size + 1) (.int .i64 (b1)) (.int .i64 (p1)) (.slice A1 l1.length c1), boxP (w.heap.size) (.int .i64 (b0)) (.int .i64 (p0)) (.slice A0 l0.length c0)]) := H.out.step hb
  clear hb
  clear ca0 ca1 ca2
  go_wp2
  go_ret
  exact ⟨rfl, H.out.below⟩
end Go.Proofs.Ytnfggnpemnebcaa
