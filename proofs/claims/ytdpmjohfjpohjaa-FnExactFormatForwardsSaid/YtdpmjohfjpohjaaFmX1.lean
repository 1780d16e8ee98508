/-
  Exact law: FormatForwards. (Written by gen_exact.py.)
-/
import Derived.Test.YtdpmjohfjpohjaaFmP
namespace Go.Proofs.Ytdpmjohfjpohjaa
open Go.RowKit

set_option maxHeartbeats 8000000 in
set_option maxRecDepth 100000 in
theorem walkFnExactFormatForwards (A0 : Option Addr) (l0 : List Fw) (c0 : Nat) (w : World) (h0 : FwIn w A0 l0 c0) :
    Calls Try.prog 10 #[.slice A0 l0.length c0] w fun e w' => e = .returned (.bool true) ∧ Below w.heap.size w w' := by
  obtain ⟨hlc0, hcm, hs, hr⟩ := h0
  have Hr0 := Lib.hid hr
  have Hs0 := Lib.hid hs
  have Hcap0 := Lib.hid hlc0
  have hlm0 : l0.length ≤ 9223372036854775807 := by unfold maxLen at hcm; omega
  clear hr hs hcm hlc0
  have H : Hid (Pool w (w) []) := Pool.nil_ w
  by_cases hb : ¬ (fwBulk l0 : Int) ≤ 1048576
  · have Hlo0 := Lib.hid (leftOf_none hb)
    clear hb
    go_enter Try.func10, Try.ntmps10
    go_wp2_with fail
    refine (lawSzForwardS A0 l0 _ _ rfl 1048576 _ hlm0 Hs0.out (by omega) (by omega) (Hr0.out.below H.out.below)).mono ?_
    rw [Hlo0.out]
    rintro e w' ⟨rfl, hb⟩
    have H := Lib.hid (H.out.step hb)
    clear hb
    go_wp2
    go_ret
    exact ⟨rfl, H.out.below⟩
  have hb := Decidable.not_not.1 hb
  have Hlo0 := Lib.hid (leftOf_some hb)
  have hn0 : l0.length ≤ 1048576 := by have := fwBulk_len l0; omega
  have Ha0 := Lib.hid (fwBulk_all (l := l0) (b := 1048576) (by omega))
  obtain ⟨r0, hr, hr00, hr01⟩ : ∃ r : Int, (1048576 : Int) - fwBulk l0 = r ∧ 0 ≤ r ∧ r ≤ 1048576 := ⟨_, rfl, by omega, by omega⟩
  rw [hr] at Hlo0
  clear hb hr
  obtain ⟨r, hr⟩ : ∃ r, fmtOf l0 = r := ⟨_, rfl⟩
  have Hv := Lib.hid hr
  clear hr
  have hvv := str_t (a := r) rfl
  go_enter Try.func10, Try.ntmps10
  go_wp2_with fail
  refine (lawSzForwardS A0 l0 _ _ rfl 1048576 _ hlm0 Hs0.out (by omega) (by omega) (Hr0.out.below H.out.below)).mono ?_
  rw [Hlo0.out]
  rintro e w1 ⟨rfl, hb⟩
  have H : Hid (Pool w (w1) []) := H.out.step hb
  clear hb
  go_wp2_with fail
  refine (lawToForwardS' A0 l0 _ _ rfl _ (by omega) (Hr0.out.below H.out.below)).mono ?_
  rintro e w2 ⟨gS0, rfl, ho, hb⟩
  have H : Hid (Pool w (w2) [ownP 52 2 fwEnc (.slice (some ⟨gS0, 0, none⟩) l0.length l0.length) (l0)]) := H.out.addOwn hb ho
  clear ho hb
  go_wp2_with fail
  refine (specFormat _ l0 _ _ rfl _ (by omega) Ha0.out ((H.out.own 0 rfl).rd fwEnc_len)).mono ?_
  rw [Hv.out]
  rintro e w3 ⟨rfl, hb⟩
  have H : Hid (Pool w (w3) [ownP 52 2 fwEnc (.slice (some ⟨gS0, 0, none⟩) l0.length l0.length) (l0)]) := H.out.step hb
  clear hb
  have H : Hid (Pool w (w3) []) := H.out.drop 0
  go_wp2_with fail
  refine (lawToForwardS' A0 l0 _ _ rfl _ (by omega) (Hr0.out.below H.out.below)).mono ?_
  rintro e w4 ⟨gX0, rfl, ho, hb⟩
  have H : Hid (Pool w (w4) [ownP 52 2 fwEnc (.slice (some ⟨gX0, 0, none⟩) l0.length l0.length) (l0)]) := H.out.addOwn hb ho
  clear ho hb
  go_wp2_with fail
  refine (implFormat _ l0 _ _ rfl (Nat.le_refl _) _ (by omega) Ha0.out ((H.out.own 0 rfl).rd fwEnc_len)).mono ?_
  rw [Hv.out]
  rintro e w5 ⟨rfl, hb⟩
  have H : Hid (Pool w (w5) [ownP 52 2 fwEnc (.slice (some ⟨gX0, 0, none⟩) l0.length l0.length) (l0)]) := H.out.step hb
  clear hb
  go_wp2_with fail
  refine (lawToForwardS' A0 l0 _ _ rfl _ (by omega) (Hr0.out.below H.out.below)).mono ?_
  rintro e w6 ⟨gY0, rfl, ho, hb⟩
  have H : Hid (Pool w (w6) [ownP 52 2 fwEnc (.slice (some ⟨gY0, 0, none⟩) l0.length l0.length) (l0), ownP 52 2 fwEnc (.slice (some ⟨gX0, 0, none⟩) l0.length l0.length) (l0)]) := H.out.addOwn hb ho
  clear ho hb
  go_wp2_with fail
  refine (lawEqForwardS _ _ (l0) (l0) _ _ _ _ (H.out.own 1 rfl).len (H.out.own 0 rfl).len _ (by first | omega | (have := (H.out.own 1 rfl).len; omega)) (by first | omega | (have := (H.out.own 0 rfl).len; omega)) ((H.out.own 1 rfl).rd fwEnc_len) ((H.out.own 0 rfl).rd fwEnc_len)).mono ?_
  rw [dec_self]
  rintro e w7 ⟨rfl, hb⟩
  have H : Hid (Pool w (w7) [ownP 52 2 fwEnc (.slice (some ⟨gY0, 0, none⟩) l0.length l0.length) (l0), ownP 52 2 fwEnc (.slice (some ⟨gX0, 0, none⟩) l0.length l0.length) (l0)]) := H.out.step hb
  clear hb
  have H : Hid (Pool w (w7) [ownP 52 2 fwEnc (.slice (some ⟨gX0, 0, none⟩) l0.length l0.length) (l0)]) := H.out.drop 0
  go_wp2
  go_ret
  exact ⟨rfl, H.out.below⟩
end Go.Proofs.Ytdpmjohfjpohjaa
