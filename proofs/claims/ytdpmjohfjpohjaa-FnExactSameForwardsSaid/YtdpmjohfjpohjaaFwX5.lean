/-
  Exact law on two lists of orders: SameForwards.
-/
import Derived.Test.YtdpmjohfjpohjaaFwX1
import Derived.Test.YtdpmjohfjpohjaaFwS
namespace Go.Proofs.Ytdpmjohfjpohjaa
open Go.RowKit

set_option maxHeartbeats 2000000 in
set_option maxRecDepth 100000 in
theorem walkFnExactSameForwards (A : Option Addr) (l : List Fw) (c : Nat) (B : Option Addr) (r : List Fw) (d : Nat) (w : World) (h : FwIn w A l c) (h' : FwIn w B r d) :
    Calls Try.prog 8 #[.slice A l.length c, .slice B r.length d] w fun e w' => e = .returned (.bool true) ∧ Below w.heap.size w w' := by
  obtain ⟨hlc, hcm, hs, hr⟩ := h
  obtain ⟨hlc', hcm', hs', hr'⟩ := h'
  have Hr := Lib.hid hr
  have Hs := Lib.hid hs
  have Hr' := Lib.hid hr'
  have Hs' := Lib.hid hs'
  have hlm : l.length ≤ 9223372036854775807 := by unfold maxLen at hcm; omega
  have hlm' : r.length ≤ 9223372036854775807 := by unfold maxLen at hcm'; omega
  clear hr hs hcm hr' hs' hcm'
  by_cases hb : (fwBulk l : Int) ≤ 1048576
  · have Hlo := Lib.hid (leftOf_some hb)
    have hn : l.length ≤ 1048576 := by have := fwBulk_len l; omega
    have Ha := Lib.hid (fwBulk_all (l := l) (b := 1048576) (by omega))
    obtain ⟨x, hx, hx0, hx1⟩ : ∃ x : Int, (1048576 : Int) - fwBulk l = x ∧ 0 ≤ x ∧ x ≤ 1048576 := ⟨_, rfl, by omega, by omega⟩
    rw [hx] at Hlo
    clear hb hx
    by_cases hb' : (fwBulk r : Int) ≤ x
    · have Hlo' := Lib.hid (leftOf_some hb')
      have hn' : r.length ≤ 1048576 := by have := fwBulk_len r; omega
      have Ha' := Lib.hid (fwBulk_all (l := r) (b := 1048576) (by omega))
      obtain ⟨y, hy, hy0⟩ : ∃ y : Int, x - fwBulk r = y ∧ 0 ≤ y := ⟨_, rfl, by omega⟩
      rw [hy] at Hlo'
      clear hb' hy
      go_enter Try.func8, Try.ntmps8
      go_wp2_with fail
      refine (lawSzForwardS A l _ _ rfl 1048576 _ hlm Hs.out (by omega) (by omega) Hr.out).mono ?_
      rw [Hlo.out]
      rintro e w1 ⟨rfl, hb1⟩
      go_wp2_with fail
      refine (lawSzForwardS B r _ _ rfl x _ hlm' Hs'.out (by omega) (by omega) (Hr'.out.below hb1)).mono ?_
      rw [Hlo'.out]
      rintro e w2 ⟨rfl, hb2⟩
      have B2 := below_step hb1 hb2
      go_wp2_with fail
      refine (lawToForwardS A l _ _ rfl _ (by omega) (Hr.out.below B2)).mono ?_
      rintro e w3 ⟨rfl, ho3, hb3⟩
      have B3 := below_step B2 hb3
      have Ho3 := Lib.hid ho3
      clear ho3
      go_wp2_with fail
      refine (lawToForwardS B r _ _ rfl _ (by omega) (Hr'.out.below B3)).mono ?_
      rintro e w4 ⟨rfl, ho4, hb4⟩
      have B4 := below_step B3 hb4
      have Ho4 := Lib.hid ho4
      clear ho4
      go_wp2_with fail
      refine (specSame _ _ l r _ _ _ _ rfl rfl _ (by omega) (by omega) (by simp) (by simp) Ha.out Ha'.out ((Ho3.out.below hb4).rd fwEnc_len) (Ho4.out.rd fwEnc_len)).mono ?_
      rintro e w5 ⟨rfl, hb5⟩
      have B5 := below_step B4 hb5
      go_wp2_with fail
      refine (lawToForwardS A l _ _ rfl _ (by omega) (Hr.out.below B5)).mono ?_
      rintro e w6 ⟨rfl, ho6, hb6⟩
      have B6 := below_step B5 hb6
      have Ho6 := Lib.hid ho6
      clear ho6
      go_wp2_with fail
      refine (lawToForwardS B r _ _ rfl _ (by omega) (Hr'.out.below B6)).mono ?_
      rintro e w7 ⟨rfl, ho7, hb7⟩
      have B7 := below_step B6 hb7
      have Ho7 := Lib.hid ho7
      clear ho7
      go_wp2_with fail
      refine (implSame _ _ l r _ _ _ _ rfl rfl (by omega) (by omega) _ (by omega) (by omega) (by simp) (by simp) Ha.out Ha'.out ((Ho6.out.below hb7).rd fwEnc_len) (Ho7.out.rd fwEnc_len)).mono ?_
      rintro e w8 ⟨rfl, hb8⟩
      have B8 := below_step B7 hb8
      cases sameOf l r
      all_goals
        go_wp2_with fail
        refine (lawToForwardS A l _ _ rfl _ (by omega) (Hr.out.below B8)).mono ?_
        rintro e w9 ⟨rfl, ho9, hb9⟩
        have B9 := below_step B8 hb9
        have Ho9 := Lib.hid ho9
        clear ho9
        go_wp2_with fail
        refine (lawEqForwardS _ _ l l _ _ _ _ rfl rfl _ (by omega) (by omega) ((((Ho6.out.below hb7).below hb8).below hb9).rd fwEnc_len) (Ho9.out.rd fwEnc_len)).mono ?_
        rw [dec_self]
        rintro e w10 ⟨rfl, hb10⟩
        have B10 := below_step B9 hb10
        go_wp2_with fail
        refine (lawToForwardS B r _ _ rfl _ (by omega) (Hr'.out.below B10)).mono ?_
        rintro e w11 ⟨rfl, ho11, hb11⟩
        have B11 := below_step B10 hb11
        have Ho11 := Lib.hid ho11
        clear ho11
        go_wp2_with fail
        refine (lawEqForwardS _ _ r r _ _ _ _ rfl rfl _ (by omega) (by omega) (((((Ho7.out.below hb8).below hb9).below hb10).below hb11).rd fwEnc_len) (Ho11.out.rd fwEnc_len)).mono ?_
        rw [dec_self]
        rintro e w12 ⟨rfl, hb12⟩
        go_wp2
        go_ret
        exact ⟨rfl, below_step B11 hb12⟩
    · have Hlo' := Lib.hid (leftOf_none hb')
      clear hb'
      go_enter Try.func8, Try.ntmps8
      go_wp2_with fail
      refine (lawSzForwardS A l _ _ rfl 1048576 _ hlm Hs.out (by omega) (by omega) Hr.out).mono ?_
      rw [Hlo.out]
      rintro e w1 ⟨rfl, hb1⟩
      go_wp2_with fail
      refine (lawSzForwardS B r _ _ rfl x _ hlm' Hs'.out (by omega) (by omega) (Hr'.out.below hb1)).mono ?_
      rw [Hlo'.out]
      rintro e w2 ⟨rfl, hb2⟩
      go_wp2
      go_ret
      exact ⟨rfl, below_step hb1 hb2⟩
  · have Hlo := Lib.hid (leftOf_none hb)
    clear hb
    go_enter Try.func8, Try.ntmps8
    go_wp2_with (go_at_call 14; refine (lawSzForwardS A l _ _ rfl 1048576 _ hlm Hs.out (by omega) (by omega) Hr.out).mono ?_; rw [Hlo.out]; rintro e w1 ⟨rfl, hb1⟩)
    go_ret
    exact ⟨rfl, hb1⟩
end Go.Proofs.Ytdpmjohfjpohjaa
