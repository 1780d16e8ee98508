/-
  Exact laws on orders whose result is a list of orders: AddForward.
-/
import Derived.Test.YtdpmjohfjpohjaaFwX1
import Derived.Test.YtdpmjohfjpohjaaFwAd
import Derived.Test.YtdpmjohfjpohjaaFwN
namespace Go.Proofs.Ytdpmjohfjpohjaa
open Go.RowKit

theorem addOf_len {l : List Fw} (f t : Str) (h : l.length ≤ 1048576) : ((addOf l f t).getD []).length ≤ 2097152 := by
  unfold addOf
  split
  · have := addedOf_len l f t; have := dropTo_len l (idxInt (fwIdx l f)) l.length; simp; omega
  · simp

set_option maxHeartbeats 2000000 in
set_option maxRecDepth 100000 in
theorem walkFnExactAddForward (A : Option Addr) (l : List Fw) (c : Nat) (s : Str) (t : Str) (w : World) (h : FwIn w A l c) (hzs : s.size ≤ maxLen) (hzt : t.size ≤ maxLen) :
    Calls Try.prog 9 #[.slice A l.length c, .string s, .string t] w fun e w' => e = .returned (.bool true) ∧ Below w.heap.size w w' := by
  obtain ⟨hlc, hcm, hs, hr⟩ := h
  have Hr := Lib.hid hr
  have Hs := Lib.hid hs
  have hlm : l.length ≤ 9223372036854775807 := by unfold maxLen at hcm; omega
  clear hr hs hcm
  unfold maxLen at hzs
  unfold maxLen at hzt
  by_cases qs : (s.size : Int) ≤ 1048576
  · have qs' : s.size ≤ 1048576 := by omega
    by_cases qt : (t.size : Int) ≤ 1048576
    · have qt' : t.size ≤ 1048576 := by omega
      by_cases hb : (fwBulk l : Int) ≤ 1048576
      · have Hlo := Lib.hid (leftOf_some hb)
        have hn : l.length ≤ 1048576 := by have := fwBulk_len l; omega
        have Ha := Lib.hid (fwBulk_all (l := l) (b := 1048576) (by omega))
        obtain ⟨r, hr, hr0⟩ : ∃ r : Int, (1048576 : Int) - fwBulk l = r ∧ 0 ≤ r := ⟨_, rfl, by omega⟩
        rw [hr] at Hlo
        clear hb hr
        obtain ⟨R, hR⟩ : ∃ R, R = addOf l s t := ⟨_, rfl⟩
        have hRl : (R.getD []).length ≤ 2097152 := by rw [hR]; exact addOf_len s t hn
        have HR := Lib.hid hR
        clear hR
        go_enter Try.func9, Try.ntmps9
        go_wp2_with fail
        refine (lawSzForwardS A l _ _ rfl 1048576 _ hlm Hs.out (by omega) (by omega) Hr.out).mono ?_
        rw [Hlo.out]
        rintro e w1 ⟨rfl, hb1⟩
        go_wp2_with fail
        refine (lawToForwardS A l _ _ rfl _ (by omega) (Hr.out.below hb1)).mono ?_
        rintro e w2 ⟨rfl, ho2, hb2⟩
        have B2 := below_step hb1 hb2
        have Ho2 := Lib.hid ho2
        clear ho2
        go_wp2_with fail
        refine (specAdd _ l _ _ rfl s t _ (by omega) qs' qt' Ha.out (Ho2.out.rd fwEnc_len)).mono ?_
        rw [← HR.out]
        rintro e w3 ⟨A0, n0, c0, rfl, ho3, hb3⟩
        have B3 := below_step B2 hb3
        have hl3 := ho3.len
        have lt3 : ∀ k, (Value.slice A0 n0 c0).ownBlock = some k → k < w3.heap.size := fun k hk => (ho3.lt k hk).2
        have Lt3 := Lib.hid lt3
        have Hl3 := Lib.hid hl3
        have Ho3 := Lib.hid ho3
        clear hl3 lt3 ho3
        go_wp2_with fail
        refine (lawToForwardS A l _ _ rfl _ (by omega) (Hr.out.below B3)).mono ?_
        rintro e w4 ⟨rfl, ho4, hb4⟩
        have B4 := below_step B3 hb4
        have Ho4 := Lib.hid ho4
        clear ho4
        go_wp2_with fail
        refine (implAdd _ l _ _ rfl (Nat.le_refl _) s t _ (by omega) qs' qt' Ha.out (Ho4.out.rd fwEnc_len)).mono ?_
        rw [← HR.out]
        rintro e w5 ⟨A1, n1, c1, rfl, ho5, hb5⟩
        have B5 := below_step B4 hb5
        have hl5 := ho5.len
        have hn5 : n1 ≤ 2097152 := by omega
        have Lt5 : Hid (∀ k, (Value.slice A1 n1 c1).ownBlock = some k → w4.heap.size ≤ k) := fun k hk => (ho5.lt k hk).1
        have Hl5 := Lib.hid hl5
        have Ho5 := Lib.hid ho5
        clear hl5 ho5
        have Ho35 : Hid (Own w5 w2.heap.size 52 2 fwEnc (.slice A0 n0 c0) (R.getD [])) := (Ho3.out.below hb4).below hb5
        have hn3 : n0 ≤ 2097152 := by have := Hl3.out; omega
        go_wp2_with fail
        refine (lawEqForwardS _ _ _ _ _ _ _ _ Hl5.out Hl3.out _ (by omega) (by omega) (Ho5.out.rd fwEnc_len) (Ho35.out.rd fwEnc_len)).mono ?_
        rw [dec_self]
        rintro e w6 ⟨rfl, hb6⟩
        have B6 := below_step B5 hb6
        go_wp2_with fail
        refine (lawToForwardS A l _ _ rfl _ (by omega) (Hr.out.below B6)).mono ?_
        rintro e w7 ⟨rfl, ho7, hb7⟩
        have B7 := below_step B6 hb7
        have Ho7 := Lib.hid ho7
        clear ho7
        have Ho47 : Hid (Own w7 w3.heap.size 52 2 fwEnc (.slice (some ⟨w3.heap.size, 0, none⟩) l.length l.length) l) := ((Ho4.out.below hb5).below hb6).below hb7
        go_wp2_with fail
        refine (lawEqForwardS _ _ l l _ _ _ _ rfl rfl _ (by omega) (by omega) (Ho47.out.rd fwEnc_len) (Ho7.out.rd fwEnc_len)).mono ?_
        rw [dec_self]
        rintro e w8 ⟨rfl, hb8⟩
        have B8 := below_step B7 hb8
        go_wp2_with fail
        refine (lawMarkForwardS _ l _ _ 1 _ _ (by omega) (by omega) (by omega) (Ho47.out.below hb8)).mono ?_
        rintro e w9 ⟨rfl, _, hg9⟩
        have B9 : Below w.heap.size w w9 := B8.grown hg9 B8.size (fun k hk => by injection hk with hk; subst hk; exact B3.size)
        have Ho59 : Hid (Own w9 w4.heap.size 52 2 fwEnc (.slice A1 n1 c1) (R.getD [])) :=
          (((Ho5.out.below hb6).below hb7).below hb8).grown hg9 (by
            cases hv : (Value.slice A1 n1 c1).ownBlock with
            | none => exact .inl rfl
            | some k => exact .inr (by have h1 := Lt5.out k hv; have h2 := (Ho4.out.lt _ rfl).2; intro e; injection e with e; simp only at e; simp at h2; omega))
        have Ho39 : Hid (Own w9 w2.heap.size 52 2 fwEnc (.slice A0 n0 c0) (R.getD [])) :=
          (((Ho35.out.below hb6).below hb7).below hb8).grown hg9 (by
            cases hv : (Value.slice A0 n0 c0).ownBlock with
            | none => exact .inl rfl
            | some k => exact .inr (by have h1 := Lt3.out k hv; intro e; injection e with e; simp only at e; omega))
        clear hg9
        go_wp2_with fail
        refine (lawEqForwardS _ _ _ _ _ _ _ _ Hl5.out Hl3.out _ (by omega) (by omega) (Ho59.out.rd fwEnc_len) (Ho39.out.rd fwEnc_len)).mono ?_
        rw [dec_self]
        rintro e w10 ⟨rfl, hb10⟩
        have B10 := below_step B9 hb10
        go_wp2_with fail
        refine (lawMarkForwardS _ _ _ _ 1 _ _ (by omega) (by omega) (by omega) (Ho59.out.below hb10)).mono ?_
        rintro e w11 ⟨rfl, ho11, hg11⟩
        have B11 : Below w.heap.size w w11 := B10.grown hg11 B10.size (fun k hk => by have := Lt5.out k hk; have := B4.size; omega)
        have Ho311 : Hid (Own w11 w2.heap.size 52 2 fwEnc (.slice A0 n0 c0) (R.getD [])) :=
          (Ho39.out.below hb10).grown hg11 (by
            cases hv : (Value.slice A0 n0 c0).ownBlock with
            | none => exact .inl rfl
            | some k => exact .inr (by have h1 := Lt3.out k hv; intro e; have h2 := Lt5.out k e.symm; have := hb4.size; omega))
        have Ho11 := Lib.hid ho11
        clear ho11 hg11
        go_wp2_with fail
        refine (lawHeldForwardS _ _ _ 1 _ (by omega) (by omega) (by omega) (Ho11.out.rd fwEnc_len)).mono ?_
        rintro e w12 ⟨rfl, hb12⟩
        have B12 := below_step B11 hb12
        go_wp2_with fail
        refine (lawToForwardS A l _ _ rfl _ (by omega) (Hr.out.below B12)).mono ?_
        rintro e w13 ⟨rfl, ho13, hb13⟩
        have B13 := below_step B12 hb13
        have Ho13 := Lib.hid ho13
        clear ho13
        go_wp2_with fail
        refine (implAdd _ l _ _ rfl (Nat.le_refl _) s t _ (by omega) qs' qt' Ha.out (Ho13.out.rd fwEnc_len)).mono ?_
        rw [← HR.out]
        rintro e w14 ⟨A2, n2, c2, rfl, ho14, hb14⟩
        have B14 := below_step B13 hb14
        have hl14 := ho14.len
        have hn14 : n2 ≤ 2097152 := by omega
        have Hl14 := Lib.hid hl14
        have Ho14 := Lib.hid ho14
        clear hl14 ho14
        have Ho314 : Hid (Own w14 w2.heap.size 52 2 fwEnc (.slice A0 n0 c0) (R.getD [])) := ((Ho311.out.below hb12).below hb13).below hb14
        go_wp2_with fail
        refine (lawEqForwardS _ _ _ _ _ _ _ _ Hl14.out Hl3.out _ (by omega) (by omega) (Ho14.out.rd fwEnc_len) (Ho314.out.rd fwEnc_len)).mono ?_
        rw [dec_self]
        rintro e w15 ⟨rfl, hb15⟩
        have B15 := below_step B14 hb15
        go_wp2_with fail
        refine (lawHeldForwardS _ _ _ 1 _ (by omega) (by omega) (by omega) (((((Ho11.out.below hb12).below hb13).below hb14).below hb15).rd fwEnc_len)).mono ?_
        rintro e w16 ⟨rfl, hb16⟩
        have B16 := below_step B15 hb16
        go_wp2
        go_ret
        exact ⟨rfl, B16⟩
      · have Hlo := Lib.hid (leftOf_none hb)
        clear hb
        go_enter Try.func9, Try.ntmps9
        go_wp2_with (go_at_call 14; refine (lawSzForwardS A l _ _ rfl 1048576 _ hlm Hs.out (by omega) (by omega) Hr.out).mono ?_; rw [Hlo.out]; rintro e w1 ⟨rfl, hb1⟩)
        go_ret
        exact ⟨rfl, hb1⟩
    · go_enter Try.func9, Try.ntmps9
      go_wp2
      go_ret
      exact ⟨rfl, Below.refl _ _⟩
  · go_enter Try.func9, Try.ntmps9
    go_wp2
    go_ret
    exact ⟨rfl, Below.refl _ _⟩
end Go.Proofs.Ytdpmjohfjpohjaa
