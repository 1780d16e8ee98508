/-
  The law on held letters.
-/
import Derived.Test.YtfokfdkpbdabhaaDh3
namespace Go.Proofs.Ytfokfdkpbdabhaa
open Go.RowKit

theorem free_take (h : List Str) (l : List Lt) (j : Nat) (x : Lt) (hx : l[j]? = some x) (hv : strHas h x.2 = false) : (freeOf h l)[(freeOf h (l.take j)).length]? = some x :=
  filter_at hx (by simp [hv])
theorem kept_take (h : List Str) (l : List Lt) (j : Nat) (x : Lt) (hx : l[j]? = some x) (hv : strHas h x.2 = true) : (keptOf h l)[(keptOf h (l.take j)).length]? = some x :=
  filter_at hx hv

set_option maxHeartbeats 8000000 in
set_option maxRecDepth 100000 in
theorem walkFnHold (A : Option Addr) (bs : List UInt8) (c : Nat) (w : World) (h : ByIn w A bs c) :
    Calls Try.prog 11 #[.slice A bs.length c] w fun e w' => e = .returned (.bool true) ∧ Below w.heap.size w w' := by
  obtain ⟨hlc, hcm, hr⟩ := h
  have Hr := Lib.hid hr
  unfold maxLen at hcm
  clear hr
  by_cases hlen : ¬ (bs.length : Int) ≤ 1048576
  · go_enter Try.func11, Try.ntmps11
    go_wp2
    go_ret
    exact ⟨rfl, Below.refl _ _⟩
  have hlen := Decidable.not_not.1 hlen
  go_enter Try.func11, Try.ntmps11
  go_wp2_with fail
  refine (drawHoldC A bs _ _ rfl hlc _ (by omega) Hr.out).mono ?_
  rintro e w1 ⟨A1, n, c1, l, A2, m, c2, hs, rfl, ho, hh, hb⟩
  have HO := Lib.hid ho
  have HH := Lib.hid hh
  have HB := Lib.hid hb
  have hn := ho.len
  have hm := hh.len
  have hcap := ho.own.cap_le
  have Hnl := Lib.hid ho.own.len
  clear ho hb hh
  obtain ⟨r, hr⟩ : ∃ r, holdR l hs = r := ⟨_, rfl⟩
  have Hv := Lib.hid hr
  clear hr
  go_wp2_with fail
  refine (implHoldBatch A1 A2 l hs n c1 m c2 HO.out.own.len HH.out.own.len hcap _ (by omega) (by omega) HO.out.small HH.out.small (HO.out.own.rd ltEnc_len) (HH.out.own.rd strEnc_len)).mono ?_
  rw [Hv.out]
  rintro e w2 ⟨A3, n3, c3, A4, n4, c4, rfl, hx, hk, -, hb⟩
  have HO := Lib.hid (HO.out.below hb)
  have HH := Lib.hid (HH.out.below hb)
  have HB := Lib.hid (below_step HB.out hb)
  have HX := Lib.hid hx
  have HK := Lib.hid hk
  have e3 := Lib.hid hx.len
  have e4 := Lib.hid hk.len
  have hrl : r.f.length ≤ 1048576 ∧ r.k.length ≤ 1048576 := by rw [← Hv.out]; exact holdR_len (by have := Hnl.out; omega)
  have hn3 : n3 ≤ 1048576 := by have := e3.out; omega
  have hn4 : n4 ≤ 1048576 := by have := e4.out; omega
  clear hx hk hb hrl
  go_wp2_with fail
  refine (specHoldBatch A1 A2 l hs n c1 m c2 HO.out.own.len HH.out.own.len _ (by omega) (by omega) HO.out.small HH.out.small (HO.out.own.rd ltEnc_len) (HH.out.own.rd strEnc_len)).mono ?_
  rw [Hv.out]
  rintro e w3 ⟨A5, n5, c5, A6, n6, c6, rfl, hx, hk, -, hb⟩
  obtain rfl : n5 = n3 := hx.len.trans e3.out.symm
  obtain rfl : n6 = n4 := hk.len.trans e4.out.symm
  have HO := Lib.hid (HO.out.below hb)
  have HH := Lib.hid (HH.out.below hb)
  have HB := Lib.hid (below_step HB.out hb)
  have HX := Lib.hid (HX.out.below hb)
  have HK := Lib.hid (HK.out.below hb)
  have HY := Lib.hid hx
  have HM := Lib.hid hk
  clear hx hk hb
  go_wp2_with fail
  refine (soBatchSame A3 A5 r.f n5 c3 c5 e3.out _ (by omega) (HX.out.rd ltEnc_len) (HY.out.rd ltEnc_len)).mono ?_
  rintro e w4 ⟨rfl, hb⟩
  have HO := Lib.hid (HO.out.below hb)
  have HH := Lib.hid (HH.out.below hb)
  have HB := Lib.hid (below_step HB.out hb)
  have HX := Lib.hid (HX.out.below hb)
  have HK := Lib.hid (HK.out.below hb)
  have HY := Lib.hid (HY.out.below hb)
  have HM := Lib.hid (HM.out.below hb)
  clear hb
  go_wp2_with fail
  refine (soBatchSame A4 A6 r.k n6 c4 c6 e4.out _ (by omega) (HK.out.rd ltEnc_len) (HM.out.rd ltEnc_len)).mono ?_
  rintro e w5 ⟨rfl, hb⟩
  have HO := Lib.hid (HO.out.below hb)
  have HH := Lib.hid (HH.out.below hb)
  have HB := Lib.hid (below_step HB.out hb)
  have HX := Lib.hid (HX.out.below hb)
  have HK := Lib.hid (HK.out.below hb)
  have HY := Lib.hid (HY.out.below hb)
  have HM := Lib.hid (HM.out.below hb)
  clear hb
  obtain ⟨rf, rk, ok⟩ := r
  cases ok
  · go_wp2_with fail
    refine (soBatchSame A3 A5 rf n5 c3 c5 e3.out _ (by omega) (HX.out.rd ltEnc_len) (HY.out.rd ltEnc_len)).mono ?_
    rintro e w6 ⟨rfl, hb⟩
    have HB := Lib.hid (below_step HB.out hb)
    have HK := Lib.hid (HK.out.below hb)
    have HM := Lib.hid (HM.out.below hb)
    clear hb
    go_wp2_with fail
    refine (soBatchSame A4 A6 rk n6 c4 c6 e4.out _ (by omega) (HK.out.rd ltEnc_len) (HM.out.rd ltEnc_len)).mono ?_
    rintro e w7 ⟨rfl, hb⟩
    have HB := Lib.hid (below_step HB.out hb)
    clear hb
    go_wp2
    go_ret
    exact ⟨rfl, HB.out⟩
  · have hff : rf = freeOf hs l ∧ rk = keptOf hs l := by
      have h := Hv.out
      unfold holdR at h
      split at h
      · injection h with h1 h2 h3
        exact ⟨h1.symm, h2.symm⟩
      · unfold noLtR at h
        injection h with h1 h2 h3
        cases h3
    obtain ⟨rfl, rfl⟩ := hff
    clear HY HM
    go_wp2
    go_loopw [11, 12, 13] (fun i k j wr => ∃ J I K : Nat, J ≤ n ∧ i = .int .i64 I ∧ k = .int .i64 K ∧ j = .int .i64 J ∧ Hid (I = (freeOf hs (l.take J)).length) ∧ Hid (K = (keptOf hs (l.take J)).length) ∧ Hid (Below w.heap.size w wr) ∧ Hid (Below w5.heap.size w5 wr)) (fun _ _ j _ => n - (intOf j).toNat)
    case atStart => exact ⟨0, 0, 0, Nat.zero_le _, rfl, rfl, rfl, rfl, rfl, HB.out, Below.refl _ _⟩
    case round =>
      obtain ⟨J, I, K, hJ, rfl, rfl, rfl, HI, HKK, HB, HC⟩ := hrel
      by_cases hlt : J < n
      · obtain ⟨x, hx⟩ : ∃ x, l[J]? = some x := ⟨_, List.getElem?_eq_getElem (by have := Hnl.out; omega)⟩
        have hIn : I ≤ 1048576 := by
          have h1 := HI.out
          have h2 := free_len hs (l.take J)
          rw [List.length_take] at h2
          omega
        have hKn : K ≤ 1048576 := by
          have h1 := HKK.out
          have h2 := kept_len hs (l.take J)
          rw [List.length_take] at h2
          omega
        obtain ⟨ad, rfl, hab, d0, d1⟩ := ((HO.out.own.rd ltEnc_len).below HC.out).two hx rfl
        obtain ⟨v, hv⟩ : ∃ v, strHas hs x.2 = v := ⟨_, rfl⟩
        have Hvv := Lib.hid hv
        have Hx := Lib.hid hx
        clear hv hx
        go_wp2_with fail
        refine (soHasC A2 hs m c2 x.2 HH.out.own.len _ (by omega) ((HH.out.own.rd strEnc_len).below HC.out)).mono ?_
        rw [Hvv.out]
        rintro e w6 ⟨rfl, rfl⟩
        cases v
        · have hq := free_take hs l J x Hx.out Hvv.out
          rw [← HI.out] at hq
          have hIl : (I : Int) < (n5 : Int) := by have := (List.getElem?_eq_some_iff.1 hq).1; have := e3.out; omega
          have hge : decide (n5 ≤ I) = false := decide_eq_false (by omega)
          obtain ⟨bd, rfl, hbb, f0, f1⟩ := ((HX.out.rd ltEnc_len).below HC.out).two hq rfl
          clear hq
          go_wp2
          go_quiet (fail)
          go_wp2
          go_roundw
          case rel => exact ⟨J + 1, I + 1, K, by omega, by go_num, rfl, by go_num, by show _ = _; rw [free_step Hx.out Hvv.out, HI.out]; simp, by show _ = _; rw [kept_step Hx.out Hvv.out, HKK.out]; rfl, below_drewN HB.out _, below_drewN HC.out _⟩
          case measure => simp [intOf]; omega
        · have hq := kept_take hs l J x Hx.out Hvv.out
          rw [← HKK.out] at hq
          have hKl : (K : Int) < (n6 : Int) := by have := (List.getElem?_eq_some_iff.1 hq).1; have := e4.out; omega
          have hge : decide (n6 ≤ K) = false := decide_eq_false (by omega)
          obtain ⟨bd, rfl, hbb, f0, f1⟩ := ((HK.out.rd ltEnc_len).below HC.out).two hq rfl
          clear hq
          go_wp2
          go_quiet (fail)
          go_wp2
          go_roundw
          case rel => exact ⟨J + 1, I, K + 1, by omega, rfl, by go_num, by go_num, by show _ = _; rw [free_step Hx.out Hvv.out, HI.out]; rfl, by show _ = _; rw [kept_step Hx.out Hvv.out, HKK.out]; simp, below_drewN HB.out _, below_drewN HC.out _⟩
          case measure => simp [intOf]; omega
      · obtain rfl : J = n := by omega
        have t := List.take_of_length_le (l := l) (i := J) (by rw [Hnl.out]; exact Nat.le_refl _)
        obtain rfl : I = n5 := by have h1 := HI.out; have h2 := e3.out; rw [t] at h1; exact h1.trans h2.symm
        obtain rfl : K = n6 := by have h1 := HKK.out; have h2 := e4.out; rw [t] at h1; exact h1.trans h2.symm
        clear t
        go_wp2
        go_ret
        exact ⟨rfl, HB.out⟩
end Go.Proofs.Ytfokfdkpbdabhaa
