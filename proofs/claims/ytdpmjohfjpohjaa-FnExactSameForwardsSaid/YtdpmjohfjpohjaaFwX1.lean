/-
  Exact laws on orders that only look: ForwardsValid, NextCode, ResolveCode.
-/
import Derived.Test.YtdpmjohfjpohjaaFwO
namespace Go.Proofs.Ytdpmjohfjpohjaa
open Go.RowKit

theorem leftOf_some {left : Int} {b : Nat} (h : (b : Int) ≤ left) : leftOf left b = left - b := by unfold leftOf; rw [if_pos h]
theorem leftOf_none {left : Int} {b : Nat} (h : ¬ (b : Int) ≤ left) : leftOf left b = -1 := by unfold leftOf; rw [if_neg h]
theorem fwBulk_len (l : List Fw) : l.length ≤ fwBulk l := Nat.le_add_right _ _

set_option maxHeartbeats 1000000 in
theorem walkFnExactForwardsValid (A : Option Addr) (l : List Fw) (c : Nat) (w : World) (h : FwIn w A l c) :
    Calls Try.prog 3 #[.slice A l.length c] w fun e w' => e = .returned (.bool true) ∧ Below w.heap.size w w' := by
  obtain ⟨hlc, hcm, hs, hr⟩ := h
  have Hr := Lib.hid hr
  have Hs := Lib.hid hs
  have hlm : l.length ≤ 9223372036854775807 := by unfold maxLen at hcm; omega
  clear hr hs hcm
  by_cases hb : (fwBulk l : Int) ≤ 1048576
  · have Hlo := Lib.hid (leftOf_some hb)
    have hn : l.length ≤ 1048576 := by have := fwBulk_len l; omega
    have Ha := Lib.hid (fwBulk_all (l := l) (b := 1048576) (by omega))
    obtain ⟨r, hr, hr0⟩ : ∃ r : Int, (1048576 : Int) - fwBulk l = r ∧ 0 ≤ r := ⟨_, rfl, by omega⟩
    rw [hr] at Hlo
    clear hb hr
    go_enter Try.func3, Try.ntmps3
    go_wp2_with fail
    refine (lawSzForwardS A l _ _ rfl 1048576 _ hlm Hs.out (by omega) (by omega) Hr.out).mono ?_
    rw [Hlo.out]
    rintro e w1 ⟨rfl, hb1⟩
    have Hr1 := Lib.hid (Hr.out.below hb1)
    go_wp2_with fail
    refine (lawToForwardS A l _ _ rfl _ (by omega) Hr1.out).mono ?_
    rintro e w2 ⟨rfl, ho2, hb2⟩
    have Ho2 := Lib.hid ho2
    clear ho2
    go_wp2_with fail
    refine (specForwardsValid _ l _ _ rfl _ (by omega) Ha.out (Ho2.out.rd fwEnc_len)).mono ?_
    rintro e w' ⟨rfl, rfl⟩
    have Hr2 := Lib.hid (Hr1.out.below hb2)
    go_wp2_with fail
    refine (lawToForwardS A l _ _ rfl _ (by omega) Hr2.out).mono ?_
    rintro e w3 ⟨rfl, ho3, hb3⟩
    have Ho3 := Lib.hid ho3
    clear ho3
    go_wp2_with fail
    refine (implForwardsValid _ l _ _ rfl (Nat.le_refl _) _ (by omega) Ha.out (Ho3.out.rd fwEnc_len)).mono ?_
    rintro e w4 ⟨rfl, hb4⟩
    have Hr4 := Lib.hid ((Hr2.out.below hb3).below hb4)
    go_wp2_with fail
    refine (lawToForwardS A l _ _ rfl _ (by omega) Hr4.out).mono ?_
    rintro e w5 ⟨rfl, ho5, hb5⟩
    have Ho5 := Lib.hid ho5
    clear ho5
    go_wp2_with fail
    refine (lawEqForwardS _ _ l l _ _ _ _ rfl rfl _ (by omega) (by omega) (((Ho3.out.below hb4).below hb5).rd fwEnc_len) (Ho5.out.rd fwEnc_len)).mono ?_
    rw [show decide (l = l) = true from by simp]
    rintro e w6 ⟨rfl, hb6⟩
    go_wp2
    go_ret
    exact ⟨rfl, below_step (below_step (below_step (below_step (below_step hb1 hb2) hb3) hb4) hb5) hb6⟩
  · have Hlo := Lib.hid (leftOf_none hb)
    clear hb
    go_enter Try.func3, Try.ntmps3
    go_wp2_with (go_at_call 14; refine (lawSzForwardS A l _ _ rfl 1048576 _ hlm Hs.out (by omega) (by omega) Hr.out).mono ?_; rw [Hlo.out]; rintro e w1 ⟨rfl, hb1⟩)
    go_ret
    exact ⟨rfl, hb1⟩

theorem nextVal_form (r : Option Str) : ∃ (s : Str) (b : Bool), nextVal r = .tuple #[.string s, .bool b] := by
  cases r with
  | none => exact ⟨_, _, rfl⟩
  | some p => exact ⟨_, _, rfl⟩

set_option maxHeartbeats 1000000 in
theorem walkFnExactNextCode (A : Option Addr) (l : List Fw) (c : Nat) (s : Str) (w : World) (h : FwIn w A l c) (hz : s.size ≤ maxLen) :
    Calls Try.prog 4 #[.slice A l.length c, .string s] w fun e w' => e = .returned (.bool true) ∧ Below w.heap.size w w' := by
  obtain ⟨hlc, hcm, hs, hr⟩ := h
  have Hr := Lib.hid hr
  have Hs := Lib.hid hs
  have hlm : l.length ≤ 9223372036854775807 := by unfold maxLen at hcm; omega
  unfold maxLen at hz
  clear hr hs hcm
  by_cases hsz : (s.size : Int) ≤ 1048576
  · by_cases hb : (fwBulk l : Int) ≤ 1048576
    · have Hlo := Lib.hid (leftOf_some hb)
      have hn : l.length ≤ 1048576 := by have := fwBulk_len l; omega
      have hsz' : s.size ≤ 1048576 := by omega
      have Ha := Lib.hid (fwBulk_all (l := l) (b := 1048576) (by omega))
      obtain ⟨r, hr, hr0⟩ : ∃ r : Int, (1048576 : Int) - fwBulk l = r ∧ 0 ≤ r := ⟨_, rfl, by omega⟩
      rw [hr] at Hlo
      clear hb hr
      obtain ⟨r0, r1, hf⟩ := nextVal_form (nextOf l s)
      have Hf := Lib.hid hf
      clear hf
      go_enter Try.func4, Try.ntmps4
      go_wp2_with fail
      refine (lawSzForwardS A l _ _ rfl 1048576 _ hlm Hs.out (by omega) (by omega) Hr.out).mono ?_
      rw [Hlo.out]
      rintro e w1 ⟨rfl, hb1⟩
      have Hr1 := Lib.hid (Hr.out.below hb1)
      go_wp2_with fail
      refine (lawToForwardS A l _ _ rfl _ (by omega) Hr1.out).mono ?_
      rintro e w2 ⟨rfl, ho2, hb2⟩
      have Ho2 := Lib.hid ho2
      clear ho2
      go_wp2_with fail
      refine (specNextCode _ l _ _ rfl s _ (by omega) Ha.out (Ho2.out.rd fwEnc_len)).mono ?_
      rw [Hf.out]
      rintro e w' ⟨rfl, rfl⟩
      have Hr2 := Lib.hid (Hr1.out.below hb2)
      go_wp2_with fail
      refine (lawToForwardS A l _ _ rfl _ (by omega) Hr2.out).mono ?_
      rintro e w3 ⟨rfl, ho3, hb3⟩
      have Ho3 := Lib.hid ho3
      clear ho3
      go_wp2_with fail
      refine (implNextCode _ l _ _ rfl (Nat.le_refl _) s _ (by omega) Ha.out (Ho3.out.rd fwEnc_len)).mono ?_
      rw [Hf.out]
      rintro e w4 ⟨rfl, hb4⟩
      have Hr4 := Lib.hid ((Hr2.out.below hb3).below hb4)
      go_wp2_with fail
      refine (lawToForwardS A l _ _ rfl _ (by omega) Hr4.out).mono ?_
      rintro e w5 ⟨rfl, ho5, hb5⟩
      have Ho5 := Lib.hid ho5
      clear ho5
      go_wp2_with fail
      refine (lawEqForwardS _ _ l l _ _ _ _ rfl rfl _ (by omega) (by omega) (((Ho3.out.below hb4).below hb5).rd fwEnc_len) (Ho5.out.rd fwEnc_len)).mono ?_
      rw [show decide (l = l) = true from by simp]
      rintro e w6 ⟨rfl, hb6⟩
      go_wp2
      go_ret
      exact ⟨rfl, below_step (below_step (below_step (below_step (below_step hb1 hb2) hb3) hb4) hb5) hb6⟩
    · have Hlo := Lib.hid (leftOf_none hb)
      clear hb
      go_enter Try.func4, Try.ntmps4
      go_wp2_with (go_at_call 14; refine (lawSzForwardS A l _ _ rfl 1048576 _ hlm Hs.out (by omega) (by omega) Hr.out).mono ?_; rw [Hlo.out]; rintro e w1 ⟨rfl, hb1⟩)
      go_ret
      exact ⟨rfl, hb1⟩
  · go_enter Try.func4, Try.ntmps4
    go_wp2
    go_ret
    exact ⟨rfl, Below.refl _ _⟩

set_option maxHeartbeats 1000000 in
theorem walkFnExactResolveCode (A : Option Addr) (l : List Fw) (c : Nat) (s : Str) (w : World) (h : FwIn w A l c) (hz : s.size ≤ maxLen) :
    Calls Try.prog 5 #[.slice A l.length c, .string s] w fun e w' => e = .returned (.bool true) ∧ Below w.heap.size w w' := by
  obtain ⟨hlc, hcm, hs, hr⟩ := h
  have Hr := Lib.hid hr
  have Hs := Lib.hid hs
  have hlm : l.length ≤ 9223372036854775807 := by unfold maxLen at hcm; omega
  unfold maxLen at hz
  clear hr hs hcm
  by_cases hsz : (s.size : Int) ≤ 1048576
  · by_cases hb : (fwBulk l : Int) ≤ 1048576
    · have Hlo := Lib.hid (leftOf_some hb)
      have hn : l.length ≤ 1048576 := by have := fwBulk_len l; omega
      have hsz' : s.size ≤ 1048576 := by omega
      have Ha := Lib.hid (fwBulk_all (l := l) (b := 1048576) (by omega))
      obtain ⟨r, hr, hr0⟩ : ∃ r : Int, (1048576 : Int) - fwBulk l = r ∧ 0 ≤ r := ⟨_, rfl, by omega⟩
      rw [hr] at Hlo
      clear hb hr
      obtain ⟨r0, r1, r2, hf⟩ := resVal_form (resolveOf l s)
      have Hf := Lib.hid hf
      clear hf
      go_enter Try.func5, Try.ntmps5
      go_wp2_with fail
      refine (lawSzForwardS A l _ _ rfl 1048576 _ hlm Hs.out (by omega) (by omega) Hr.out).mono ?_
      rw [Hlo.out]
      rintro e w1 ⟨rfl, hb1⟩
      have Hr1 := Lib.hid (Hr.out.below hb1)
      go_wp2_with fail
      refine (lawToForwardS A l _ _ rfl _ (by omega) Hr1.out).mono ?_
      rintro e w2 ⟨rfl, ho2, hb2⟩
      have Ho2 := Lib.hid ho2
      clear ho2
      go_wp2_with fail
      refine (specResolveCode _ l _ _ rfl s _ (by omega) hsz' Ha.out (Ho2.out.rd fwEnc_len)).mono ?_
      rw [Hf.out]
      rintro e w' ⟨rfl, rfl⟩
      have Hr2 := Lib.hid (Hr1.out.below hb2)
      go_wp2_with fail
      refine (lawToForwardS A l _ _ rfl _ (by omega) Hr2.out).mono ?_
      rintro e w3 ⟨rfl, ho3, hb3⟩
      have Ho3 := Lib.hid ho3
      clear ho3
      go_wp2_with fail
      refine (implResolveCode _ l _ _ rfl (Nat.le_refl _) s _ (by omega) hsz' Ha.out (Ho3.out.rd fwEnc_len)).mono ?_
      rw [Hf.out]
      rintro e w4 ⟨rfl, hb4⟩
      have Hr4 := Lib.hid ((Hr2.out.below hb3).below hb4)
      go_wp2_with fail
      refine (lawToForwardS A l _ _ rfl _ (by omega) Hr4.out).mono ?_
      rintro e w5 ⟨rfl, ho5, hb5⟩
      have Ho5 := Lib.hid ho5
      clear ho5
      go_wp2_with fail
      refine (lawEqForwardS _ _ l l _ _ _ _ rfl rfl _ (by omega) (by omega) (((Ho3.out.below hb4).below hb5).rd fwEnc_len) (Ho5.out.rd fwEnc_len)).mono ?_
      rw [show decide (l = l) = true from by simp]
      rintro e w6 ⟨rfl, hb6⟩
      go_wp2
      go_ret
      exact ⟨rfl, below_step (below_step (below_step (below_step (below_step hb1 hb2) hb3) hb4) hb5) hb6⟩
    · have Hlo := Lib.hid (leftOf_none hb)
      clear hb
      go_enter Try.func5, Try.ntmps5
      go_wp2_with (go_at_call 14; refine (lawSzForwardS A l _ _ rfl 1048576 _ hlm Hs.out (by omega) (by omega) Hr.out).mono ?_; rw [Hlo.out]; rintro e w1 ⟨rfl, hb1⟩)
      go_ret
      exact ⟨rfl, hb1⟩
  · go_enter Try.func5, Try.ntmps5
    go_wp2
    go_ret
    exact ⟨rfl, Below.refl _ _⟩
end Go.Proofs.Ytdpmjohfjpohjaa
