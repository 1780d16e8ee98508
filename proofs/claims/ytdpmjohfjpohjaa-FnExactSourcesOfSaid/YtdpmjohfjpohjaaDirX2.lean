/-
  Exact law: SourcesOf. (Written by gen_exact.py.)
-/
import Derived.Test.YtdpmjohfjpohjaaDirP
namespace Go.Proofs.Ytdpmjohfjpohjaa
open Go.RowKit

set_option maxHeartbeats 8000000 in
set_option maxRecDepth 100000 in
theorem walkFnExactSourcesOf (A0 : Option Addr) (l0 : List Fw) (c0 : Nat) (a1 : Str) (w : World) (h0 : FwIn w A0 l0 c0) (hz1 : a1.size ≤ maxLen) :
    Calls Try.prog 13 #[.slice A0 l0.length c0, .string a1] w fun e w' => e = .returned (.bool true) ∧ Below w.heap.size w w' := by
  unfold maxLen at hz1
  obtain ⟨hlc0, hcm, hs, hr⟩ := h0
  have Hr0 := Lib.hid hr
  have Hs0 := Lib.hid hs
  have Hcap0 := Lib.hid hlc0
  have hlm0 : l0.length ≤ 9223372036854775807 := by unfold maxLen at hcm; omega
  clear hr hs hcm hlc0
  by_cases q1 : ¬ (a1.size : Int) ≤ 1048576
  · go_enter Try.func13, Try.ntmps13
    go_wp2
    go_ret
    exact ⟨rfl, Below.refl _ _⟩
  have q1 := Decidable.not_not.1 q1
  have H : Hid (Pool w (w) []) := Pool.nil_ w
  by_cases hb : ¬ (fwBulk l0 : Int) ≤ 1048576
  · have Hlo0 := Lib.hid (leftOf_none hb)
    clear hb
    go_enter Try.func13, Try.ntmps13
    go_wp2_with fail
    refine (lawSzForwardS A0 l0 _ _ rfl 1048576 _ hlm0 Hs0.out (by omega) (by omega) (Hr0.out.below H.out.below)).mono ?_
    rw [Hlo0.out]
    rintro e w' ⟨rfl, hb⟩
    have H := Lib.hid (H.out.step hb)
    clear hb
    go_wp2
    go_ret
    exact ⟨rfl, H.out.below⟩
  have hb := Decidable.not_not.1 hb
  have Hlo0 := Lib.hid (leftOf_some hb)
  have hn0 : l0.length ≤ 1048576 := by have := fwBulk_len l0; omega
  have Ha0 := Lib.hid (fwBulk_all (l := l0) (b := 1048576) (by omega))
  obtain ⟨r0, hr, hr00, hr01⟩ : ∃ r : Int, (1048576 : Int) - fwBulk l0 = r ∧ 0 ≤ r ∧ r ≤ 1048576 := ⟨_, rfl, by omega, by omega⟩
  rw [hr] at Hlo0
  clear hb hr
  obtain ⟨r, hr⟩ : ∃ r, sourcesOf l0 a1 = r := ⟨_, rfl⟩
  have hrl : r.length ≤ 1048576 := by rw [← hr]; exact Nat.le_trans (sourcesOf_len l0 a1) hn0
  have Hv := Lib.hid hr
  clear hr
  go_enter Try.func13, Try.ntmps13
  go_wp2_with fail
  refine (lawSzForwardS A0 l0 _ _ rfl 1048576 _ hlm0 Hs0.out (by omega) (by omega) (Hr0.out.below H.out.below)).mono ?_
  rw [Hlo0.out]
  rintro e w1 ⟨rfl, hb⟩
  have H : Hid (Pool w (w1) []) := H.out.step hb
  clear hb
  go_wp2_with fail
  refine (lawToForwardS' A0 l0 _ _ rfl _ (by omega) (Hr0.out.below H.out.below)).mono ?_
  rintro e w2 ⟨gS0, rfl, ho, hb⟩
  have H : Hid (Pool w (w2) [ownP 52 2 fwEnc (.slice (some ⟨gS0, 0, none⟩) l0.length l0.length) (l0)]) := H.out.addOwn hb ho
  clear ho hb
  go_wp2_with fail
  refine (specSources _ l0 _ _ rfl a1 _ (by omega) Ha0.out ((H.out.own 0 rfl).rd fwEnc_len)).mono ?_
  rw [Hv.out]
  rintro e w3 ⟨Aw, kw, cw, rfl, ho, hb⟩
  have H : Hid (Pool w (w3) [ownP 9 1 strEnc (.slice Aw kw cw) (r), ownP 52 2 fwEnc (.slice (some ⟨gS0, 0, none⟩) l0.length l0.length) (l0)]) := H.out.addOwn hb ho
  clear ho hb
  have hkw : kw ≤ 1048576 := by have := (H.out.own 0 rfl).len; omega
  have H : Hid (Pool w (w3) [ownP 9 1 strEnc (.slice Aw kw cw) (r)]) := H.out.drop 1
  go_wp2_with fail
  refine (lawToForwardS' A0 l0 _ _ rfl _ (by omega) (Hr0.out.below H.out.below)).mono ?_
  rintro e w4 ⟨gX0, rfl, ho, hb⟩
  have H : Hid (Pool w (w4) [ownP 52 2 fwEnc (.slice (some ⟨gX0, 0, none⟩) l0.length l0.length) (l0), ownP 9 1 strEnc (.slice Aw kw cw) (r)]) := H.out.addOwn hb ho
  clear ho hb
  go_wp2_with fail
  refine (implSources _ l0 _ _ rfl (Nat.le_refl _) a1 _ (by omega) Ha0.out ((H.out.own 0 rfl).rd fwEnc_len)).mono ?_
  rw [Hv.out]
  rintro e w5 ⟨Ag, kg, cg, rfl, ho, hb⟩
  have H : Hid (Pool w (w5) [ownP 9 1 strEnc (.slice Ag kg cg) (r), ownP 52 2 fwEnc (.slice (some ⟨gX0, 0, none⟩) l0.length l0.length) (l0), ownP 9 1 strEnc (.slice Aw kw cw) (r)]) := H.out.addOwn hb ho
  clear ho hb
  have hkg : kg ≤ 1048576 := by have := (H.out.own 0 rfl).len; omega
  go_wp2_with fail
  refine (lawEqStringS _ _ (r) (r) _ _ _ _ (H.out.own 0 rfl).len (H.out.own 2 rfl).len _ (by first | omega | (have := (H.out.own 0 rfl).len; omega)) (by first | omega | (have := (H.out.own 2 rfl).len; omega)) ((H.out.own 0 rfl).rd strEnc_len) ((H.out.own 2 rfl).rd strEnc_len)).mono ?_
  rw [strsEq_self]
  rintro e w6 ⟨rfl, hb⟩
  have H : Hid (Pool w (w6) [ownP 9 1 strEnc (.slice Ag kg cg) (r), ownP 52 2 fwEnc (.slice (some ⟨gX0, 0, none⟩) l0.length l0.length) (l0), ownP 9 1 strEnc (.slice Aw kw cw) (r)]) := H.out.step hb
  clear hb
  go_wp2_with fail
  refine (lawToForwardS' A0 l0 _ _ rfl _ (by omega) (Hr0.out.below H.out.below)).mono ?_
  rintro e w7 ⟨gY0, rfl, ho, hb⟩
  have H : Hid (Pool w (w7) [ownP 52 2 fwEnc (.slice (some ⟨gY0, 0, none⟩) l0.length l0.length) (l0), ownP 9 1 strEnc (.slice Ag kg cg) (r), ownP 52 2 fwEnc (.slice (some ⟨gX0, 0, none⟩) l0.length l0.length) (l0), ownP 9 1 strEnc (.slice Aw kw cw) (r)]) := H.out.addOwn hb ho
  clear ho hb
  go_wp2_with fail
  refine (lawEqForwardS _ _ (l0) (l0) _ _ _ _ (H.out.own 2 rfl).len (H.out.own 0 rfl).len _ (by first | omega | (have := (H.out.own 2 rfl).len; omega)) (by first | omega | (have := (H.out.own 0 rfl).len; omega)) ((H.out.own 2 rfl).rd fwEnc_len) ((H.out.own 0 rfl).rd fwEnc_len)).mono ?_
  rw [dec_self]
  rintro e w8 ⟨rfl, hb⟩
  have H : Hid (Pool w (w8) [ownP 52 2 fwEnc (.slice (some ⟨gY0, 0, none⟩) l0.length l0.length) (l0), ownP 9 1 strEnc (.slice Ag kg cg) (r), ownP 52 2 fwEnc (.slice (some ⟨gX0, 0, none⟩) l0.length l0.length) (l0), ownP 9 1 strEnc (.slice Aw kw cw) (r)]) := H.out.step hb
  clear hb
  have H : Hid (Pool w (w8) [ownP 9 1 strEnc (.slice Ag kg cg) (r), ownP 52 2 fwEnc (.slice (some ⟨gX0, 0, none⟩) l0.length l0.length) (l0), ownP 9 1 strEnc (.slice Aw kw cw) (r)]) := H.out.drop 0
  go_wp2_with fail
  refine (lawMarkForwardS _ (l0) _ _ (1) _ _ (by omega) (by omega) (by omega) (H.out.own 1 rfl)).mono ?_
  rintro e w9 ⟨rfl, ho, hg⟩
  have H : Hid (Pool w (w9) [ownP 9 1 strEnc (.slice Ag kg cg) (r), ownP 52 2 fwEnc (.slice (some ⟨gX0, 0, none⟩) l0.length l0.length) (fwMks (1) l0.length), ownP 9 1 strEnc (.slice Aw kw cw) (r)]) := H.out.turnOwn 1 rfl ho hg
  clear ho hg
  go_wp2_with fail
  refine (lawEqStringS _ _ (r) (r) _ _ _ _ (H.out.own 0 rfl).len (H.out.own 2 rfl).len _ (by first | omega | (have := (H.out.own 0 rfl).len; omega)) (by first | omega | (have := (H.out.own 2 rfl).len; omega)) ((H.out.own 0 rfl).rd strEnc_len) ((H.out.own 2 rfl).rd strEnc_len)).mono ?_
  rw [strsEq_self]
  rintro e w10 ⟨rfl, hb⟩
  have H : Hid (Pool w (w10) [ownP 9 1 strEnc (.slice Ag kg cg) (r), ownP 52 2 fwEnc (.slice (some ⟨gX0, 0, none⟩) l0.length l0.length) (fwMks (1) l0.length), ownP 9 1 strEnc (.slice Aw kw cw) (r)]) := H.out.step hb
  clear hb
  have H : Hid (Pool w (w10) [ownP 9 1 strEnc (.slice Ag kg cg) (r), ownP 9 1 strEnc (.slice Aw kw cw) (r)]) := H.out.drop 1
  go_wp2_with fail
  refine (lawMarkStringS _ (r) _ _ (1) _ _ (by omega) (by omega) (by omega) (H.out.own 0 rfl)).mono ?_
  rintro e w11 ⟨rfl, ho, hg⟩
  have H : Hid (Pool w (w11) [ownP 9 1 strEnc (.slice Ag kg cg) (strMks (1) kg), ownP 9 1 strEnc (.slice Aw kw cw) (r)]) := H.out.turnOwn 0 rfl ho hg
  clear ho hg
  go_wp2_with fail
  refine (lawHeldStringS _ _ _ (1) _ (by omega) (by omega) (by omega) ((H.out.own 0 rfl).rd strEnc_len)).mono ?_
  rintro e w12 ⟨rfl, hb⟩
  have H : Hid (Pool w (w12) [ownP 9 1 strEnc (.slice Ag kg cg) (strMks (1) kg), ownP 9 1 strEnc (.slice Aw kw cw) (r)]) := H.out.step hb
  clear hb
  have hqq : (((1 + kg : Nat) : Int) != ((1 + kg : Nat) : Int)) = false := by simp
  go_wp2_with fail
  refine (lawToForwardS' A0 l0 _ _ rfl _ (by omega) (Hr0.out.below H.out.below)).mono ?_
  rintro e w13 ⟨gS0, rfl, ho, hb⟩
  have H : Hid (Pool w (w13) [ownP 52 2 fwEnc (.slice (some ⟨gS0, 0, none⟩) l0.length l0.length) (l0), ownP 9 1 strEnc (.slice Ag kg cg) (strMks (1) kg), ownP 9 1 strEnc (.slice Aw kw cw) (r)]) := H.out.addOwn hb ho
  clear ho hb
  go_wp2_with fail
  refine (implSources _ l0 _ _ rfl (Nat.le_refl _) a1 _ (by omega) Ha0.out ((H.out.own 0 rfl).rd fwEnc_len)).mono ?_
  rw [Hv.out]
  rintro e w14 ⟨Ah, kh, ch, rfl, ho, hb⟩
  have H : Hid (Pool w (w14) [ownP 9 1 strEnc (.slice Ah kh ch) (r), ownP 52 2 fwEnc (.slice (some ⟨gS0, 0, none⟩) l0.length l0.length) (l0), ownP 9 1 strEnc (.slice Ag kg cg) (strMks (1) kg), ownP 9 1 strEnc (.slice Aw kw cw) (r)]) := H.out.addOwn hb ho
  clear ho hb
  have hkh : kh ≤ 1048576 := by have := (H.out.own 0 rfl).len; omega
  have H : Hid (Pool w (w14) [ownP 9 1 strEnc (.slice Ah kh ch) (r), ownP 9 1 strEnc (.slice Ag kg cg) (strMks (1) kg), ownP 9 1 strEnc (.slice Aw kw cw) (r)]) := H.out.drop 1
  go_wp2_with fail
  refine (lawEqStringS _ _ (r) (r) _ _ _ _ (H.out.own 0 rfl).len (H.out.own 2 rfl).len _ (by first | omega | (have := (H.out.own 0 rfl).len; omega)) (by first | omega | (have := (H.out.own 2 rfl).len; omega)) ((H.out.own 0 rfl).rd strEnc_len) ((H.out.own 2 rfl).rd strEnc_len)).mono ?_
  rw [strsEq_self]
  rintro e w15 ⟨rfl, hb⟩
  have H : Hid (Pool w (w15) [ownP 9 1 strEnc (.slice Ah kh ch) (r), ownP 9 1 strEnc (.slice Ag kg cg) (strMks (1) kg), ownP 9 1 strEnc (.slice Aw kw cw) (r)]) := H.out.step hb
  clear hb
  go_wp2_with fail
  refine (lawHeldStringS _ _ _ (1) _ (by omega) (by omega) (by omega) ((H.out.own 1 rfl).rd strEnc_len)).mono ?_
  rintro e w16 ⟨rfl, hb⟩
  have H : Hid (Pool w (w16) [ownP 9 1 strEnc (.slice Ah kh ch) (r), ownP 9 1 strEnc (.slice Ag kg cg) (strMks (1) kg), ownP 9 1 strEnc (.slice Aw kw cw) (r)]) := H.out.step hb
  clear hb
  go_wp2
  go_ret
  exact ⟨rfl, H.out.below⟩
end Go.Proofs.Ytdpmjohfjpohjaa
