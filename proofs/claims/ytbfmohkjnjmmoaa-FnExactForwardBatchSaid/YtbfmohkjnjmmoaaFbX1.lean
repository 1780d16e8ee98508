/-
  Exact law: ForwardBatch. (Written by gen_exact.py.)
-/
import Derived.Test.YtbfmohkjnjmmoaaFbP
namespace Go.Proofs.Ytbfmohkjnjmmoaa
open Go.RowKit

set_option maxHeartbeats 8000000 in
set_option maxRecDepth 100000 in
theorem walkFnExactForwardBatch (A0 : Option Addr) (l0 : List Fw) (c0 : Nat) (A1 : Option Addr) (l1 : List Lt) (c1 : Nat) (w : World) (h0 : FwIn w A0 l0 c0) (h1 : LtIn w A1 l1 c1) :
    Calls Try.prog 13 #[.slice A0 l0.length c0, .slice A1 l1.length c1] w fun e w' => e = .returned (.bool true) ∧ Below w.heap.size w w' := by
  obtain ⟨hlc0, hcm, hs, hr⟩ := h0
  have Hr0 := Lib.hid hr
  have Hs0 := Lib.hid hs
  have Hcap0 := Lib.hid hlc0
  have hlm0 : l0.length ≤ 9223372036854775807 := by unfold maxLen at hcm; omega
  clear hr hs hcm hlc0
  obtain ⟨hlc1, hcm, hs, hr⟩ := h1
  have Hr1 := Lib.hid hr
  have Hs1 := Lib.hid hs
  have Hcap1 := Lib.hid hlc1
  have hlm1 : l1.length ≤ 9223372036854775807 := by unfold maxLen at hcm; omega
  clear hr hs hcm hlc1
  have H : Hid (Pool w (w) []) := Pool.nil_ w
  by_cases hb : ¬ (fwBulk l0 : Int) ≤ 1048576
  · have Hlo0 := Lib.hid (leftOf_none hb)
    clear hb
    go_enter Try.func13, Try.ntmps13
    go_wp2_with fail
    refine (lawSzForwardS A0 l0 _ _ rfl 1048576 _ hlm0 Hs0.out (by omega) (by omega) (Hr0.out.below H.out.below)).mono ?_
    rw [Hlo0.out]
    rintro e w' ⟨rfl, hb⟩
    have H := Lib.hid (H.out.step hb)
    clear hb
    go_wp2
    go_ret
    exact ⟨rfl, H.out.below⟩
  have hb := Decidable.not_not.1 hb
  have Hlo0 := Lib.hid (leftOf_some hb)
  have hn0 : l0.length ≤ 1048576 := by have := fwBulk_len l0; omega
  have Ha0 := Lib.hid (fwBulk_all (l := l0) (b := 1048576) (by omega))
  obtain ⟨r0, hr, hr00, hr01⟩ : ∃ r : Int, (1048576 : Int) - fwBulk l0 = r ∧ 0 ≤ r ∧ r ≤ 1048576 := ⟨_, rfl, by omega, by omega⟩
  rw [hr] at Hlo0
  clear hb hr
  by_cases hb : ¬ (ltBulk l1 : Int) ≤ r0
  · have Hlo1 := Lib.hid (leftOf_none hb)
    clear hb
    go_enter Try.func13, Try.ntmps13
    go_wp2_with fail
    refine (lawSzForwardS A0 l0 _ _ rfl 1048576 _ hlm0 Hs0.out (by omega) (by omega) (Hr0.out.below H.out.below)).mono ?_
    rw [Hlo0.out]
    rintro e w' ⟨rfl, hb⟩
    have H := Lib.hid (H.out.step hb)
    clear hb
    go_wp2_with fail
    refine (lawSzLetterS A1 l1 _ _ rfl r0 _ hlm1 Hs1.out (by omega) (by omega) (Hr1.out.below H.out.below)).mono ?_
    rw [Hlo1.out]
    rintro e w' ⟨rfl, hb⟩
    have H := Lib.hid (H.out.step hb)
    clear hb
    go_wp2
    go_ret
    exact ⟨rfl, H.out.below⟩
  have hb := Decidable.not_not.1 hb
  have Hlo1 := Lib.hid (leftOf_some hb)
  have hn1 : l1.length ≤ 1048576 := by have := ltBulk_len l1; omega
  have Ha1 := Lib.hid (ltBulk_all (l := l1) (b := 1048576) (by omega))
  obtain ⟨r1, hr, hr10, hr11⟩ : ∃ r : Int, (r0 : Int) - ltBulk l1 = r ∧ 0 ≤ r ∧ r ≤ 1048576 := ⟨_, rfl, by omega, by omega⟩
  rw [hr] at Hlo1
  clear hb hr
  obtain ⟨r, hr⟩ : ∃ r, fbR l0 l1 = r := ⟨_, rfl⟩
  have hrl : r.f.length ≤ 1048576 ∧ r.k.length ≤ 1048576 := by rw [← hr]; exact fbR_len hn1
  have Hv := Lib.hid hr
  clear hr
  have hvv : (r.ok != r.ok) = false := by simp
  go_enter Try.func13, Try.ntmps13
  go_wp2_with fail
  refine (lawSzForwardS A0 l0 _ _ rfl 1048576 _ hlm0 Hs0.out (by omega) (by omega) (Hr0.out.below H.out.below)).mono ?_
  rw [Hlo0.out]
  rintro e w1 ⟨rfl, hb⟩
  have H : Hid (Pool w (w1) []) := H.out.step hb
  clear hb
  go_wp2_with fail
  refine (lawSzLetterS A1 l1 _ _ rfl r0 _ hlm1 Hs1.out (by omega) (by omega) (Hr1.out.below H.out.below)).mono ?_
  rw [Hlo1.out]
  rintro e w2 ⟨rfl, hb⟩
  have H : Hid (Pool w (w2) []) := H.out.step hb
  clear hb
  go_wp2_with fail
  refine (lawToForwardS' A0 l0 _ _ rfl _ (by omega) (Hr0.out.below H.out.below)).mono ?_
  rintro e w3 ⟨gS0, rfl, ho, hb⟩
  have H : Hid (Pool w (w3) [ownP 117 2 fwEnc (.slice (some ⟨gS0, 0, none⟩) l0.length l0.length) (l0)]) := H.out.addOwn hb ho
  clear ho hb
  go_wp2_with fail
  refine (lawToLetterS' A1 l1 _ _ rfl _ (by omega) (Hr1.out.below H.out.below)).mono ?_
  rintro e w4 ⟨gS1, rfl, ho, hb⟩
  have H : Hid (Pool w (w4) [ownP 42 2 ltEnc (.slice (some ⟨gS1, 0, none⟩) l1.length l1.length) (l1), ownP 117 2 fwEnc (.slice (some ⟨gS0, 0, none⟩) l0.length l0.length) (l0)]) := H.out.addOwn hb ho
  clear ho hb
  go_wp2_with fail
  refine (specForwardBatch _ _ l0 l1 _ _ _ _ rfl rfl _ (by omega) (by omega) Ha0.out Ha1.out ((H.out.own 1 rfl).rd fwEnc_len) ((H.out.own 0 rfl).rd ltEnc_len)).mono ?_
  rw [Hv.out]
  rintro e w5 ⟨Aw, kw, cw, Aw', kw', cw', rfl, ho, ho', hd, hb⟩
  have H : Hid (Pool w (w5) [ownP 42 2 ltEnc (.slice Aw kw cw) (r.f), ownP 42 2 ltEnc (.slice Aw' kw' cw') (r.k), ownP 42 2 ltEnc (.slice (some ⟨gS1, 0, none⟩) l1.length l1.length) (l1), ownP 117 2 fwEnc (.slice (some ⟨gS0, 0, none⟩) l0.length l0.length) (l0)]) := H.out.addOwn2 hb ho ho' hd
  clear ho ho' hd hb
  have hkw : kw ≤ 1048576 := by have := (H.out.own 0 rfl).len; omega
  have hkw' : kw' ≤ 1048576 := by have := (H.out.own 1 rfl).len; omega
  have H : Hid (Pool w (w5) [ownP 42 2 ltEnc (.slice Aw kw cw) (r.f), ownP 42 2 ltEnc (.slice Aw' kw' cw') (r.k), ownP 42 2 ltEnc (.slice (some ⟨gS1, 0, none⟩) l1.length l1.length) (l1)]) := H.out.drop 3
  have H : Hid (Pool w (w5) [ownP 42 2 ltEnc (.slice Aw kw cw) (r.f), ownP 42 2 ltEnc (.slice Aw' kw' cw') (r.k)]) := H.out.drop 2
  go_wp2_with fail
  refine (lawToForwardS' A0 l0 _ _ rfl _ (by omega) (Hr0.out.below H.out.below)).mono ?_
  rintro e w6 ⟨gX0, rfl, ho, hb⟩
  have H : Hid (Pool w (w6) [ownP 117 2 fwEnc (.slice (some ⟨gX0, 0, none⟩) l0.length l0.length) (l0), ownP 42 2 ltEnc (.slice Aw kw cw) (r.f), ownP 42 2 ltEnc (.slice Aw' kw' cw') (r.k)]) := H.out.addOwn hb ho
  clear ho hb
  go_wp2_with fail
  refine (lawToLetterS' A1 l1 _ _ rfl _ (by omega) (Hr1.out.below H.out.below)).mono ?_
  rintro e w7 ⟨gX1, rfl, ho, hb⟩
  have H : Hid (Pool w (w7) [ownP 42 2 ltEnc (.slice (some ⟨gX1, 0, none⟩) l1.length l1.length) (l1), ownP 117 2 fwEnc (.slice (some ⟨gX0, 0, none⟩) l0.length l0.length) (l0), ownP 42 2 ltEnc (.slice Aw kw cw) (r.f), ownP 42 2 ltEnc (.slice Aw' kw' cw') (r.k)]) := H.out.addOwn hb ho
  clear ho hb
  go_wp2_with fail
  refine (implForwardBatch _ _ l0 l1 _ _ _ _ rfl rfl (Nat.le_refl _) (Nat.le_refl _) _ (by omega) (by omega) Ha0.out Ha1.out ((H.out.own 1 rfl).rd fwEnc_len) ((H.out.own 0 rfl).rd ltEnc_len)).mono ?_
  rw [Hv.out]
  rintro e w8 ⟨Ag, kg, cg, Ag', kg', cg', rfl, ho, ho', hd, hb⟩
  have H : Hid (Pool w (w8) [ownP 42 2 ltEnc (.slice Ag kg cg) (r.f), ownP 42 2 ltEnc (.slice Ag' kg' cg') (r.k), ownP 42 2 ltEnc (.slice (some ⟨gX1, 0, none⟩) l1.length l1.length) (l1), ownP 117 2 fwEnc (.slice (some ⟨gX0, 0, none⟩) l0.length l0.length) (l0), ownP 42 2 ltEnc (.slice Aw kw cw) (r.f), ownP 42 2 ltEnc (.slice Aw' kw' cw') (r.k)]) := H.out.addOwn2 hb ho ho' hd
  clear ho ho' hd hb
  have hkg : kg ≤ 1048576 := by have := (H.out.own 0 rfl).len; omega
  have hkg' : kg' ≤ 1048576 := by have := (H.out.own 1 rfl).len; omega
  go_wp2_with fail
  refine (lawEqLetterS _ _ (r.f) (r.f) _ _ _ _ (H.out.own 0 rfl).len (H.out.own 4 rfl).len _ (by first | omega | (have := (H.out.own 0 rfl).len; omega)) (by first | omega | (have := (H.out.own 4 rfl).len; omega)) ((H.out.own 0 rfl).rd ltEnc_len) ((H.out.own 4 rfl).rd ltEnc_len)).mono ?_
  rw [ltsEq_self]
  rintro e w9 ⟨rfl, hb⟩
  have H : Hid (Pool w (w9) [ownP 42 2 ltEnc (.slice Ag kg cg) (r.f), ownP 42 2 ltEnc (.slice Ag' kg' cg') (r.k), ownP 42 2 ltEnc (.slice (some ⟨gX1, 0, none⟩) l1.length l1.length) (l1), ownP 117 2 fwEnc (.slice (some ⟨gX0, 0, none⟩) l0.length l0.length) (l0), ownP 42 2 ltEnc (.slice Aw kw cw) (r.f), ownP 42 2 ltEnc (.slice Aw' kw' cw') (r.k)]) := H.out.step hb
  clear hb
  go_wp2_with fail
  refine (lawEqLetterS _ _ (r.k) (r.k) _ _ _ _ (H.out.own 1 rfl).len (H.out.own 5 rfl).len _ (by first | omega | (have := (H.out.own 1 rfl).len; omega)) (by first | omega | (have := (H.out.own 5 rfl).len; omega)) ((H.out.own 1 rfl).rd ltEnc_len) ((H.out.own 5 rfl).rd ltEnc_len)).mono ?_
  rw [ltsEq_self]
  rintro e w10 ⟨rfl, hb⟩
  have H : Hid (Pool w (w10) [ownP 42 2 ltEnc (.slice Ag kg cg) (r.f), ownP 42 2 ltEnc (.slice Ag' kg' cg') (r.k), ownP 42 2 ltEnc (.slice (some ⟨gX1, 0, none⟩) l1.length l1.length) (l1), ownP 117 2 fwEnc (.slice (some ⟨gX0, 0, none⟩) l0.length l0.length) (l0), ownP 42 2 ltEnc (.slice Aw kw cw) (r.f), ownP 42 2 ltEnc (.slice Aw' kw' cw') (r.k)]) := H.out.step hb
  clear hb
  go_wp2_with fail
  refine (lawToForwardS' A0 l0 _ _ rfl _ (by omega) (Hr0.out.below H.out.below)).mono ?_
  rintro e w11 ⟨gY0, rfl, ho, hb⟩
  have H : Hid (Pool w (w11) [ownP 117 2 fwEnc (.slice (some ⟨gY0, 0, none⟩) l0.length l0.length) (l0), ownP 42 2 ltEnc (.slice Ag kg cg) (r.f), ownP 42 2 ltEnc (.slice Ag' kg' cg') (r.k), ownP 42 2 ltEnc (.slice (some ⟨gX1, 0, none⟩) l1.length l1.length) (l1), ownP 117 2 fwEnc (.slice (some ⟨gX0, 0, none⟩) l0.length l0.length) (l0), ownP 42 2 ltEnc (.slice Aw kw cw) (r.f), ownP 42 2 ltEnc (.slice Aw' kw' cw') (r.k)]) := H.out.addOwn hb ho
  clear ho hb
  go_wp2_with fail
  refine (lawEqForwardS _ _ (l0) (l0) _ _ _ _ (H.out.own 4 rfl).len (H.out.own 0 rfl).len _ (by first | omega | (have := (H.out.own 4 rfl).len; omega)) (by first | omega | (have := (H.out.own 0 rfl).len; omega)) ((H.out.own 4 rfl).rd fwEnc_len) ((H.out.own 0 rfl).rd fwEnc_len)).mono ?_
  rw [dec_self]
  rintro e w12 ⟨rfl, hb⟩
  have H : Hid (Pool w (w12) [ownP 117 2 fwEnc (.slice (some ⟨gY0, 0, none⟩) l0.length l0.length) (l0), ownP 42 2 ltEnc (.slice Ag kg cg) (r.f), ownP 42 2 ltEnc (.slice Ag' kg' cg') (r.k), ownP 42 2 ltEnc (.slice (some ⟨gX1, 0, none⟩) l1.length l1.length) (l1), ownP 117 2 fwEnc (.slice (some ⟨gX0, 0, none⟩) l0.length l0.length) (l0), ownP 42 2 ltEnc (.slice Aw kw cw) (r.f), ownP 42 2 ltEnc (.slice Aw' kw' cw') (r.k)]) := H.out.step hb
  clear hb
  have H : Hid (Pool w (w12) [ownP 42 2 ltEnc (.slice Ag kg cg) (r.f), ownP 42 2 ltEnc (.slice Ag' kg' cg') (r.k), ownP 42 2 ltEnc (.slice (some ⟨gX1, 0, none⟩) l1.length l1.length) (l1), ownP 117 2 fwEnc (.slice (some ⟨gX0, 0, none⟩) l0.length l0.length) (l0), ownP 42 2 ltEnc (.slice Aw kw cw) (r.f), ownP 42 2 ltEnc (.slice Aw' kw' cw') (r.k)]) := H.out.drop 0
  go_wp2_with fail
  refine (lawToLetterS' A1 l1 _ _ rfl _ (by omega) (Hr1.out.below H.out.below)).mono ?_
  rintro e w13 ⟨gY1, rfl, ho, hb⟩
  have H : Hid (Pool w (w13) [ownP 42 2 ltEnc (.slice (some ⟨gY1, 0, none⟩) l1.length l1.length) (l1), ownP 42 2 ltEnc (.slice Ag kg cg) (r.f), ownP 42 2 ltEnc (.slice Ag' kg' cg') (r.k), ownP 42 2 ltEnc (.slice (some ⟨gX1, 0, none⟩) l1.length l1.length) (l1), ownP 117 2 fwEnc (.slice (some ⟨gX0, 0, none⟩) l0.length l0.length) (l0), ownP 42 2 ltEnc (.slice Aw kw cw) (r.f), ownP 42 2 ltEnc (.slice Aw' kw' cw') (r.k)]) := H.out.addOwn hb ho
  clear ho hb
  go_wp2_with fail
  refine (lawEqLetterS _ _ (l1) (l1) _ _ _ _ (H.out.own 3 rfl).len (H.out.own 0 rfl).len _ (by first | omega | (have := (H.out.own 3 rfl).len; omega)) (by first | omega | (have := (H.out.own 0 rfl).len; omega)) ((H.out.own 3 rfl).rd ltEnc_len) ((H.out.own 0 rfl).rd ltEnc_len)).mono ?_
  rw [ltsEq_self]
  rintro e w14 ⟨rfl, hb⟩
  have H : Hid (Pool w (w14) [ownP 42 2 ltEnc (.slice (some ⟨gY1, 0, none⟩) l1.length l1.length) (l1), ownP 42 2 ltEnc (.slice Ag kg cg) (r.f), ownP 42 2 ltEnc (.slice Ag' kg' cg') (r.k), ownP 42 2 ltEnc (.slice (some ⟨gX1, 0, none⟩) l1.length l1.length) (l1), ownP 117 2 fwEnc (.slice (some ⟨gX0, 0, none⟩) l0.length l0.length) (l0), ownP 42 2 ltEnc (.slice Aw kw cw) (r.f), ownP 42 2 ltEnc (.slice Aw' kw' cw') (r.k)]) := H.out.step hb
  clear hb
  have H : Hid (Pool w (w14) [ownP 42 2 ltEnc (.slice Ag kg cg) (r.f), ownP 42 2 ltEnc (.slice Ag' kg' cg') (r.k), ownP 42 2 ltEnc (.slice (some ⟨gX1, 0, none⟩) l1.length l1.length) (l1), ownP 117 2 fwEnc (.slice (some ⟨gX0, 0, none⟩) l0.length l0.length) (l0), ownP 42 2 ltEnc (.slice Aw kw cw) (r.f), ownP 42 2 ltEnc (.slice Aw' kw' cw') (r.k)]) := H.out.drop 0
  go_wp2_with fail
  refine (lawMarkForwardS _ (l0) _ _ (1) _ _ (by omega) (by omega) (by omega) (H.out.own 3 rfl)).mono ?_
  rintro e w15 ⟨rfl, ho, hg⟩
  have H : Hid (Pool w (w15) [ownP 42 2 ltEnc (.slice Ag kg cg) (r.f), ownP 42 2 ltEnc (.slice Ag' kg' cg') (r.k), ownP 42 2 ltEnc (.slice (some ⟨gX1, 0, none⟩) l1.length l1.length) (l1), ownP 117 2 fwEnc (.slice (some ⟨gX0, 0, none⟩) l0.length l0.length) (fwMks (1) l0.length), ownP 42 2 ltEnc (.slice Aw kw cw) (r.f), ownP 42 2 ltEnc (.slice Aw' kw' cw') (r.k)]) := H.out.turnOwn 3 rfl ho hg
  clear ho hg
  go_wp2_with fail
  refine (lawMarkLetterS _ (l1) _ _ (1 + 2 * l0.length) _ _ (by omega) (by omega) (by omega) (H.out.own 2 rfl)).mono ?_
  rintro e w16 ⟨rfl, ho, hg⟩
  have H : Hid (Pool w (w16) [ownP 42 2 ltEnc (.slice Ag kg cg) (r.f), ownP 42 2 ltEnc (.slice Ag' kg' cg') (r.k), ownP 42 2 ltEnc (.slice (some ⟨gX1, 0, none⟩) l1.length l1.length) (ltMks (1 + 2 * l0.length) l1.length), ownP 117 2 fwEnc (.slice (some ⟨gX0, 0, none⟩) l0.length l0.length) (fwMks (1) l0.length), ownP 42 2 ltEnc (.slice Aw kw cw) (r.f), ownP 42 2 ltEnc (.slice Aw' kw' cw') (r.k)]) := H.out.turnOwn 2 rfl ho hg
  clear ho hg
  go_wp2_with fail
  refine (lawEqLetterS _ _ (r.f) (r.f) _ _ _ _ (H.out.own 0 rfl).len (H.out.own 4 rfl).len _ (by first | omega | (have := (H.out.own 0 rfl).len; omega)) (by first | omega | (have := (H.out.own 4 rfl).len; omega)) ((H.out.own 0 rfl).rd ltEnc_len) ((H.out.own 4 rfl).rd ltEnc_len)).mono ?_
  rw [ltsEq_self]
  rintro e w17 ⟨rfl, hb⟩
  have H : Hid (Pool w (w17) [ownP 42 2 ltEnc (.slice Ag kg cg) (r.f), ownP 42 2 ltEnc (.slice Ag' kg' cg') (r.k), ownP 42 2 ltEnc (.slice (some ⟨gX1, 0, none⟩) l1.length l1.length) (ltMks (1 + 2 * l0.length) l1.length), ownP 117 2 fwEnc (.slice (some ⟨gX0, 0, none⟩) l0.length l0.length) (fwMks (1) l0.length), ownP 42 2 ltEnc (.slice Aw kw cw) (r.f), ownP 42 2 ltEnc (.slice Aw' kw' cw') (r.k)]) := H.out.step hb
  clear hb
  go_wp2_with fail
  refine (lawEqLetterS _ _ (r.k) (r.k) _ _ _ _ (H.out.own 1 rfl).len (H.out.own 5 rfl).len _ (by first | omega | (have := (H.out.own 1 rfl).len; omega)) (by first | omega | (have := (H.out.own 5 rfl).len; omega)) ((H.out.own 1 rfl).rd ltEnc_len) ((H.out.own 5 rfl).rd ltEnc_len)).mono ?_
  rw [ltsEq_self]
  rintro e w18 ⟨rfl, hb⟩
  have H : Hid (Pool w (w18) [ownP 42 2 ltEnc (.slice Ag kg cg) (r.f), ownP 42 2 ltEnc (.slice Ag' kg' cg') (r.k), ownP 42 2 ltEnc (.slice (some ⟨gX1, 0, none⟩) l1.length l1.length) (ltMks (1 + 2 * l0.length) l1.length), ownP 117 2 fwEnc (.slice (some ⟨gX0, 0, none⟩) l0.length l0.length) (fwMks (1) l0.length), ownP 42 2 ltEnc (.slice Aw kw cw) (r.f), ownP 42 2 ltEnc (.slice Aw' kw' cw') (r.k)]) := H.out.step hb
  clear hb
  have H : Hid (Pool w (w18) [ownP 42 2 ltEnc (.slice Ag kg cg) (r.f), ownP 42 2 ltEnc (.slice Ag' kg' cg') (r.k), ownP 42 2 ltEnc (.slice (some ⟨gX1, 0, none⟩) l1.length l1.length) (ltMks (1 + 2 * l0.length) l1.length), ownP 42 2 ltEnc (.slice Aw kw cw) (r.f), ownP 42 2 ltEnc (.slice Aw' kw' cw') (r.k)]) := H.out.drop 3
  have H : Hid (Pool w (w18) [ownP 42 2 ltEnc (.slice Ag kg cg) (r.f), ownP 42 2 ltEnc (.slice Ag' kg' cg') (r.k), ownP 42 2 ltEnc (.slice Aw kw cw) (r.f), ownP 42 2 ltEnc (.slice Aw' kw' cw') (r.k)]) := H.out.drop 2
  go_wp2_with fail
  refine (lawMarkLetterS _ (r.f) _ _ (1) _ _ (by omega) (by omega) (by omega) (H.out.own 0 rfl)).mono ?_
  rintro e w19 ⟨rfl, ho, hg⟩
  have H : Hid (Pool w (w19) [ownP 42 2 ltEnc (.slice Ag kg cg) (ltMks (1) kg), ownP 42 2 ltEnc (.slice Ag' kg' cg') (r.k), ownP 42 2 ltEnc (.slice Aw kw cw) (r.f), ownP 42 2 ltEnc (.slice Aw' kw' cw') (r.k)]) := H.out.turnOwn 0 rfl ho hg
  clear ho hg
  go_wp2_with fail
  refine (lawMarkLetterS _ (r.k) _ _ (1 + 2 * kg) _ _ (by omega) (by omega) (by omega) (H.out.own 1 rfl)).mono ?_
  rintro e w20 ⟨rfl, ho, hg⟩
  have H : Hid (Pool w (w20) [ownP 42 2 ltEnc (.slice Ag kg cg) (ltMks (1) kg), ownP 42 2 ltEnc (.slice Ag' kg' cg') (ltMks (1 + 2 * kg) kg'), ownP 42 2 ltEnc (.slice Aw kw cw) (r.f), ownP 42 2 ltEnc (.slice Aw' kw' cw') (r.k)]) := H.out.turnOwn 1 rfl ho hg
  clear ho hg
  go_wp2_with fail
  refine (lawHeldLetterS _ _ _ (1) _ (by omega) (by omega) (by omega) ((H.out.own 0 rfl).rd ltEnc_len)).mono ?_
  rintro e w21 ⟨rfl, hb⟩
  have H : Hid (Pool w (w21) [ownP 42 2 ltEnc (.slice Ag kg cg) (ltMks (1) kg), ownP 42 2 ltEnc (.slice Ag' kg' cg') (ltMks (1 + 2 * kg) kg'), ownP 42 2 ltEnc (.slice Aw kw cw) (r.f), ownP 42 2 ltEnc (.slice Aw' kw' cw') (r.k)]) := H.out.step hb
  clear hb
  go_wp2_with fail
  refine (lawHeldLetterS _ _ _ (1 + 2 * kg) _ (by omega) (by omega) (by omega) ((H.out.own 1 rfl).rd ltEnc_len)).mono ?_
  rintro e w22 ⟨rfl, hb⟩
  have H : Hid (Pool w (w22) [ownP 42 2 ltEnc (.slice Ag kg cg) (ltMks (1) kg), ownP 42 2 ltEnc (.slice Ag' kg' cg') (ltMks (1 + 2 * kg) kg'), ownP 42 2 ltEnc (.slice Aw kw cw) (r.f), ownP 42 2 ltEnc (.slice Aw' kw' cw') (r.k)]) := H.out.step hb
  clear hb
  have hqq : (((1 + 2 * kg + 2 * kg' : Nat) : Int) != ((1 + 2 * kg + 2 * kg' : Nat) : Int)) = false := by simp
  go_wp2_with fail
  refine (lawToForwardS' A0 l0 _ _ rfl _ (by omega) (Hr0.out.below H.out.below)).mono ?_
  rintro e w23 ⟨gS0, rfl, ho, hb⟩
  have H : Hid (Pool w (w23) [ownP 117 2 fwEnc (.slice (some ⟨gS0, 0, none⟩) l0.length l0.length) (l0), ownP 42 2 ltEnc (.slice Ag kg cg) (ltMks (1) kg), ownP 42 2 ltEnc (.slice Ag' kg' cg') (ltMks (1 + 2 * kg) kg'), ownP 42 2 ltEnc (.slice Aw kw cw) (r.f), ownP 42 2 ltEnc (.slice Aw' kw' cw') (r.k)]) := H.out.addOwn hb ho
  clear ho hb
  go_wp2_with fail
  refine (lawToLetterS' A1 l1 _ _ rfl _ (by omega) (Hr1.out.below H.out.below)).mono ?_
  rintro e w24 ⟨gS1, rfl, ho, hb⟩
  have H : Hid (Pool w (w24) [ownP 42 2 ltEnc (.slice (some ⟨gS1, 0, none⟩) l1.length l1.length) (l1), ownP 117 2 fwEnc (.slice (some ⟨gS0, 0, none⟩) l0.length l0.length) (l0), ownP 42 2 ltEnc (.slice Ag kg cg) (ltMks (1) kg), ownP 42 2 ltEnc (.slice Ag' kg' cg') (ltMks (1 + 2 * kg) kg'), ownP 42 2 ltEnc (.slice Aw kw cw) (r.f), ownP 42 2 ltEnc (.slice Aw' kw' cw') (r.k)]) := H.out.addOwn hb ho
  clear ho hb
  go_wp2_with fail
  refine (implForwardBatch _ _ l0 l1 _ _ _ _ rfl rfl (Nat.le_refl _) (Nat.le_refl _) _ (by omega) (by omega) Ha0.out Ha1.out ((H.out.own 1 rfl).rd fwEnc_len) ((H.out.own 0 rfl).rd ltEnc_len)).mono ?_
  rw [Hv.out]
  rintro e w25 ⟨Ah, kh, ch, Ah', kh', ch', rfl, ho, ho', hd, hb⟩
  have H : Hid (Pool w (w25) [ownP 42 2 ltEnc (.slice Ah kh ch) (r.f), ownP 42 2 ltEnc (.slice Ah' kh' ch') (r.k), ownP 42 2 ltEnc (.slice (some ⟨gS1, 0, none⟩) l1.length l1.length) (l1), ownP 117 2 fwEnc (.slice (some ⟨gS0, 0, none⟩) l0.length l0.length) (l0), ownP 42 2 ltEnc (.slice Ag kg cg) (ltMks (1) kg), ownP 42 2 ltEnc (.slice Ag' kg' cg') (ltMks (1 + 2 * kg) kg'), ownP 42 2 ltEnc (.slice Aw kw cw) (r.f), ownP 42 2 ltEnc (.slice Aw' kw' cw') (r.k)]) := H.out.addOwn2 hb ho ho' hd
  clear ho ho' hd hb
  have hkh : kh ≤ 1048576 := by have := (H.out.own 0 rfl).len; omega
  have hkh' : kh' ≤ 1048576 := by have := (H.out.own 1 rfl).len; omega
  have H : Hid (Pool w (w25) [ownP 42 2 ltEnc (.slice Ah kh ch) (r.f), ownP 42 2 ltEnc (.slice Ah' kh' ch') (r.k), ownP 42 2 ltEnc (.slice (some ⟨gS1, 0, none⟩) l1.length l1.length) (l1), ownP 42 2 ltEnc (.slice Ag kg cg) (ltMks (1) kg), ownP 42 2 ltEnc (.slice Ag' kg' cg') (ltMks (1 + 2 * kg) kg'), ownP 42 2 ltEnc (.slice Aw kw cw) (r.f), ownP 42 2 ltEnc (.slice Aw' kw' cw') (r.k)]) := H.out.drop 3
  have H : Hid (Pool w (w25) [ownP 42 2 ltEnc (.slice Ah kh ch) (r.f), ownP 42 2 ltEnc (.slice Ah' kh' ch') (r.k), ownP 42 2 ltEnc (.slice Ag kg cg) (ltMks (1) kg), ownP 42 2 ltEnc (.slice Ag' kg' cg') (ltMks (1 + 2 * kg) kg'), ownP 42 2 ltEnc (.slice Aw kw cw) (r.f), ownP 42 2 ltEnc (.slice Aw' kw' cw') (r.k)]) := H.out.drop 2
  go_wp2_with fail
  refine (lawEqLetterS _ _ (r.f) (r.f) _ _ _ _ (H.out.own 0 rfl).len (H.out.own 4 rfl).len _ (by first | omega | (have := (H.out.own 0 rfl).len; omega)) (by first | omega | (have := (H.out.own 4 rfl).len; omega)) ((H.out.own 0 rfl).rd ltEnc_len) ((H.out.own 4 rfl).rd ltEnc_len)).mono ?_
  rw [ltsEq_self]
  rintro e w26 ⟨rfl, hb⟩
  have H : Hid (Pool w (w26) [ownP 42 2 ltEnc (.slice Ah kh ch) (r.f), ownP 42 2 ltEnc (.slice Ah' kh' ch') (r.k), ownP 42 2 ltEnc (.slice Ag kg cg) (ltMks (1) kg), ownP 42 2 ltEnc (.slice Ag' kg' cg') (ltMks (1 + 2 * kg) kg'), ownP 42 2 ltEnc (.slice Aw kw cw) (r.f), ownP 42 2 ltEnc (.slice Aw' kw' cw') (r.k)]) := H.out.step hb
  clear hb
  go_wp2_with fail
  refine (lawEqLetterS _ _ (r.k) (r.k) _ _ _ _ (H.out.own 1 rfl).len (H.out.own 5 rfl).len _ (by first | omega | (have := (H.out.own 1 rfl).len; omega)) (by first | omega | (have := (H.out.own 5 rfl).len; omega)) ((H.out.own 1 rfl).rd ltEnc_len) ((H.out.own 5 rfl).rd ltEnc_len)).mono ?_
  rw [ltsEq_self]
  rintro e w27 ⟨rfl, hb⟩
  have H : Hid (Pool w (w27) [ownP 42 2 ltEnc (.slice Ah kh ch) (r.f), ownP 42 2 ltEnc (.slice Ah' kh' ch') (r.k), ownP 42 2 ltEnc (.slice Ag kg cg) (ltMks (1) kg), ownP 42 2 ltEnc (.slice Ag' kg' cg') (ltMks (1 + 2 * kg) kg'), ownP 42 2 ltEnc (.slice Aw kw cw) (r.f), ownP 42 2 ltEnc (.slice Aw' kw' cw') (r.k)]) := H.out.step hb
  clear hb
  go_wp2_with fail
  refine (lawHeldLetterS _ _ _ (1) _ (by omega) (by omega) (by omega) ((H.out.own 2 rfl).rd ltEnc_len)).mono ?_
  rintro e w28 ⟨rfl, hb⟩
  have H : Hid (Pool w (w28) [ownP 42 2 ltEnc (.slice Ah kh ch) (r.f), ownP 42 2 ltEnc (.slice Ah' kh' ch') (r.k), ownP 42 2 ltEnc (.slice Ag kg cg) (ltMks (1) kg), ownP 42 2 ltEnc (.slice Ag' kg' cg') (ltMks (1 + 2 * kg) kg'), ownP 42 2 ltEnc (.slice Aw kw cw) (r.f), ownP 42 2 ltEnc (.slice Aw' kw' cw') (r.k)]) := H.out.step hb
  clear hb
  go_wp2_with fail
  refine (lawHeldLetterS _ _ _ (1 + 2 * kg) _ (by omega) (by omega) (by omega) ((H.out.own 3 rfl).rd ltEnc_len)).mono ?_
  rintro e w29 ⟨rfl, hb⟩
  have H : Hid (Pool w (w29) [ownP 42 2 ltEnc (.slice Ah kh ch) (r.f), ownP 42 2 ltEnc (.slice Ah' kh' ch') (r.k), ownP 42 2 ltEnc (.slice Ag kg cg) (ltMks (1) kg), ownP 42 2 ltEnc (.slice Ag' kg' cg') (ltMks (1 + 2 * kg) kg'), ownP 42 2 ltEnc (.slice Aw kw cw) (r.f), ownP 42 2 ltEnc (.slice Aw' kw' cw') (r.k)]) := H.out.step hb
  clear hb
  go_wp2
  go_ret
  exact ⟨rfl, H.out.below⟩
end Go.Proofs.Ytbfmohkjnjmmoaa
