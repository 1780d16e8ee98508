/-
  The law on the next code.
-/
import Derived.Test.YtfokfdkpbdabhaaDf2
import Derived.Test.YtfokfdkpbdabhaaDrO
namespace Go.Proofs.Ytfokfdkpbdabhaa
open Go.RowKit

theorem fw_once {l : List Fw} {c : Str} {i k : Nat} {x : Fw} (hv : fwsOk l = true) (hk : fwIdx l c = some k) (hx : l[i]? = some x) (hi : k < i) : ¬ x.1 = c := by
  intro e
  have h1 := ((fwsOk_iff l).1 hv).2 i (List.getElem?_eq_some_iff.1 hx).1
  rw [fwOkAt_eq hx, Bool.and_eq_true] at h1
  have h2 := h1.2
  rw [← idx_self hx, e, hk] at h2
  simp at h2
  omega
theorem fw_none {l : List Fw} {c : Str} {i : Nat} {x : Fw} (hk : fwIdx l c = none) (hx : l[i]? = some x) : ¬ x.1 = c := fwIdx_none.1 hk i x hx

set_option maxHeartbeats 4000000 in
set_option maxRecDepth 100000 in
theorem walkFnNextCode (A : Option Addr) (bs : List UInt8) (c : Nat) (w : World) (h : ByIn w A bs c) :
    Calls Try.prog 6 #[.slice A bs.length c] w fun e w' => e = .returned (.bool true) ∧ Below w.heap.size w w' := by
  obtain ⟨hlc, hcm, hr⟩ := h
  have Hr := Lib.hid hr
  unfold maxLen at hcm
  clear hr
  by_cases hlen : (bs.length : Int) ≤ 1048576
  · go_enter Try.func6, Try.ntmps6
    go_wp2_with fail
    refine (drawNextC A bs _ _ rfl hlc _ (by omega) Hr.out).mono ?_
    rintro e w1 ⟨A1, n, c1, l, s, rfl, ho, hs, hb⟩
    have HO := Lib.hid ho
    have HB := Lib.hid hb
    have hn := ho.len
    have hcap := ho.own.cap_le
    clear ho hb
    have hss : (ByteArray.toList s == ByteArray.toList s) = true := by simp
    cases hv : fwsOk l
    · have Hv := Lib.hid hv
      have Hx : Hid (nextOf l s = none) := by show nextOf l s = _; unfold nextOf; rw [hv]; rfl
      clear hv
      go_wp2_with fail
      refine (implNextCode A1 l n c1 HO.out.own.len hcap s _ (by omega) HO.out.small (HO.out.own.rd fwEnc_len)).mono ?_
      rw [Hx.out, show nextVal none = .tuple #[.string ByteArray.empty, .bool false] from rfl]
      rintro e w2 ⟨rfl, hb⟩
      have HO := Lib.hid (HO.out.below hb)
      have HB := Lib.hid (below_step HB.out hb)
      clear hb
      go_wp2_with fail
      refine (specNextCode A1 l n c1 HO.out.own.len s _ (by omega) HO.out.small (HO.out.own.rd fwEnc_len)).mono ?_
      rw [Hx.out, show nextVal none = .tuple #[.string ByteArray.empty, .bool false] from rfl]
      rintro e w3 ⟨rfl, rfl⟩
      go_wp2_with fail
      refine (implForwardsValid A1 l n c1 HO.out.own.len hcap _ (by omega) HO.out.small (HO.out.own.rd fwEnc_len)).mono ?_
      rw [Hv.out]
      rintro e w3 ⟨rfl, hb⟩
      have HO := Lib.hid (HO.out.below hb)
      have HB := Lib.hid (below_step HB.out hb)
      clear hb
      go_wp2_with fail
      refine (implForwardsValid A1 l n c1 HO.out.own.len hcap _ (by omega) HO.out.small (HO.out.own.rd fwEnc_len)).mono ?_
      rw [Hv.out]
      rintro e w4 ⟨rfl, hb⟩
      have HB := Lib.hid (below_step HB.out hb)
      clear hb
      go_wp2
      go_ret
      exact ⟨rfl, HB.out⟩
    · have Hv := Lib.hid hv
      cases hi : fwIdx l s with
      | none =>
        have Hx : Hid (nextOf l s = none) := by show nextOf l s = _; unfold nextOf; rw [hv]; exact fwNext_none hi
        have Hi := Lib.hid hi
        clear hi hv
        go_wp2_with fail
        refine (implNextCode A1 l n c1 HO.out.own.len hcap s _ (by omega) HO.out.small (HO.out.own.rd fwEnc_len)).mono ?_
        rw [Hx.out, show nextVal none = .tuple #[.string ByteArray.empty, .bool false] from rfl]
        rintro e w2 ⟨rfl, hb⟩
        have HO := Lib.hid (HO.out.below hb)
        have HB := Lib.hid (below_step HB.out hb)
        clear hb
        go_wp2_with fail
        refine (specNextCode A1 l n c1 HO.out.own.len s _ (by omega) HO.out.small (HO.out.own.rd fwEnc_len)).mono ?_
        rw [Hx.out, show nextVal none = .tuple #[.string ByteArray.empty, .bool false] from rfl]
        rintro e w3 ⟨rfl, rfl⟩
        go_wp2_with fail
        refine (implForwardsValid A1 l n c1 HO.out.own.len hcap _ (by omega) HO.out.small (HO.out.own.rd fwEnc_len)).mono ?_
        rw [Hv.out]
        rintro e w3 ⟨rfl, hb⟩
        have HO := Lib.hid (HO.out.below hb)
        have HB := Lib.hid (below_step HB.out hb)
        clear hb
        go_wp2_with fail
        go_loopw [9, 10] (fun t i wr => ∃ j : Nat, j ≤ n ∧ i = .int .i64 j ∧ t = .int .i64 0 ∧ wr = w3) (fun _ i _ => n - (intOf i).toNat)
        case atStart => exact ⟨0, Nat.zero_le _, rfl, rfl, rfl⟩
        case round =>
          obtain ⟨j, hj, rfl, rfl, rfl⟩ := hrel
          by_cases hlt : j < n
          · obtain ⟨x, hx⟩ : ∃ x, l[j]? = some x := ⟨_, List.getElem?_eq_getElem (by have := HO.out.own.len; omega)⟩
            obtain ⟨ad, rfl, hab, d0, d1⟩ := (HO.out.own.rd fwEnc_len).two hx rfl
            have hq := str_f (fw_none Hi.out hx)
            clear hx
            go_wp2
            go_roundw
            case rel => exact ⟨j + 1, by omega, by go_num, by first | exact trivial | rfl, by first | exact trivial | rfl⟩
            case measure => simp [intOf]; omega
          · obtain rfl : j = n := by omega
            go_wp2
            go_ret
            exact ⟨rfl, HB.out⟩
      | some k =>
        obtain ⟨⟨y, hy, hyc⟩, hbefore⟩ := fwIdx_some.1 hi
        have Hx : Hid (nextOf l s = some y.2) := by show nextOf l s = _; unfold nextOf; rw [hv]; exact fwNext_some hi hy
        have hkn : k < n := by have := HO.out.own.len; have := fwIdx_lt hi; omega
        have Hi := Lib.hid hi
        have Hy := Lib.hid hy
        have Hyc := Lib.hid hyc
        have Hbf := Lib.hid hbefore
        have hyy : (ByteArray.toList y.2 == ByteArray.toList y.2) = true := by simp
        clear hi hv hy hyc hbefore
        go_wp2_with fail
        refine (implNextCode A1 l n c1 HO.out.own.len hcap s _ (by omega) HO.out.small (HO.out.own.rd fwEnc_len)).mono ?_
        rw [Hx.out, show nextVal (some y.2) = .tuple #[.string y.2, .bool true] from rfl]
        rintro e w2 ⟨rfl, hb⟩
        have HO := Lib.hid (HO.out.below hb)
        have HB := Lib.hid (below_step HB.out hb)
        clear hb
        go_wp2_with fail
        refine (specNextCode A1 l n c1 HO.out.own.len s _ (by omega) HO.out.small (HO.out.own.rd fwEnc_len)).mono ?_
        rw [Hx.out, show nextVal (some y.2) = .tuple #[.string y.2, .bool true] from rfl]
        rintro e w3 ⟨rfl, rfl⟩
        go_wp2_with fail
        refine (implForwardsValid A1 l n c1 HO.out.own.len hcap _ (by omega) HO.out.small (HO.out.own.rd fwEnc_len)).mono ?_
        rw [Hv.out]
        rintro e w3 ⟨rfl, hb⟩
        have HO := Lib.hid (HO.out.below hb)
        have HB := Lib.hid (below_step HB.out hb)
        clear hb
        go_wp2_with fail
        go_loopw [9, 10] (fun t i wr => ∃ j : Nat, j ≤ n ∧ i = .int .i64 j ∧ (∃ m : Nat, t = .int .i64 m ∧ (j ≤ k ∧ m = 0 ∨ k < j ∧ m = 1)) ∧ wr = w3) (fun _ i _ => n - (intOf i).toNat)
        case atStart => exact ⟨0, Nat.zero_le _, rfl, ⟨0, rfl, .inl ⟨Nat.zero_le _, rfl⟩⟩, rfl⟩
        case round =>
          obtain ⟨j, hj, rfl, ⟨m, rfl, hm⟩, rfl⟩ := hrel
          by_cases hlt : j < n
          · obtain ⟨x, hx⟩ : ∃ x, l[j]? = some x := ⟨_, List.getElem?_eq_getElem (by have := HO.out.own.len; omega)⟩
            obtain ⟨ad, rfl, hab, d0, d1⟩ := (HO.out.own.rd fwEnc_len).two hx rfl
            by_cases hjk : j = k
            · subst hjk
              rw [Hy.out] at hx
              injection hx with hx
              subst hx
              have hq := str_t Hyc.out
              have hm0 : m = 0 := by omega
              subst hm0
              go_wp2
              go_roundw
              case rel => exact ⟨j + 1, by omega, by go_num, ⟨1, by first | rfl | go_num, .inr ⟨by omega, rfl⟩⟩, by first | exact trivial | rfl⟩
              case measure => simp [intOf]; omega
            · have hq := str_f (show ¬ x.1 = s from by
                rcases Nat.lt_or_ge j k with h1 | h1
                · exact Hbf.out j x h1 hx
                · exact fw_once Hv.out Hi.out hx (by omega))
              clear hx
              go_wp2
              go_roundw
              case rel => exact ⟨j + 1, by omega, by go_num, ⟨m, by first | rfl | go_num, by omega⟩, by first | exact trivial | rfl⟩
              case measure => simp [intOf]; omega
          · obtain rfl : j = n := by omega
            have hm1 : m = 1 := by omega
            subst hm1
            go_wp2
            go_ret
            exact ⟨rfl, HB.out⟩
  · go_enter Try.func6, Try.ntmps6
    go_wp2
    go_ret
    exact ⟨rfl, Below.refl _ _⟩
end Go.Proofs.Ytfokfdkpbdabhaa
