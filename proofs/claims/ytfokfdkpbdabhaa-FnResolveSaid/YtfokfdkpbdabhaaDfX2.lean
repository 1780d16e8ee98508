/-
  The laws on where letters arrive. (Written by gen_df.py.)
-/
import Derived.Test.YtfokfdkpbdabhaaDfP
namespace Go.Proofs.Ytfokfdkpbdabhaa
open Go.RowKit

set_option maxHeartbeats 8000000 in
set_option maxRecDepth 100000 in
theorem walkFnResolve (A : Option Addr) (bs : List UInt8) (c : Nat) (w : World) (h : ByIn w A bs c) :
    Calls Try.prog 7 #[.slice A bs.length c] w fun e w' => e = .returned (.bool true) ∧ Below w.heap.size w w' := by
  obtain ⟨hlc, hcm, hr⟩ := h
  have Hr := Lib.hid hr
  unfold maxLen at hcm
  clear hr
  by_cases hlen : ¬ (bs.length : Int) ≤ 1048576
  · go_enter Try.func7, Try.ntmps7
    go_wp2
    go_ret
    exact ⟨rfl, Below.refl _ _⟩
  have hlen := Decidable.not_not.1 hlen
  go_enter Try.func7, Try.ntmps7
  go_wp2_with fail
  refine (drawResolveC A bs _ _ rfl hlc _ (by omega) Hr.out).mono ?_
  rintro e w1 ⟨A1, n, c1, l, s, rfl, ho, hs, hb⟩
  have HO := Lib.hid ho
  have HB := Lib.hid hb
  have hn := ho.len
  have hcap := ho.own.cap_le
  clear ho hb
  have hss : (ByteArray.toList s == ByteArray.toList s) = true := by simp
  cases hv : fwsOk l
  · have Hx : Hid (resolveOf l s = none) := by show resolveOf l s = _; unfold resolveOf; rw [hv]; rfl
    have Hv := Lib.hid hv
    clear hv
    go_wp2_with fail
    refine (implResolveCode A1 l n c1 HO.out.own.len hcap s _ (by omega) hs HO.out.small (HO.out.own.rd fwEnc_len)).mono ?_
    rw [Hx.out, show resVal none = .tuple #[.string ByteArray.empty, .int .i64 0, .bool false] from rfl]
    rintro e w2 ⟨rfl, hb⟩
    have HO := Lib.hid (HO.out.below hb)
    have HB := Lib.hid (below_step HB.out hb)
    clear hb
    go_wp2_with fail
    refine (specResolveCode A1 l n c1 HO.out.own.len s _ (by omega) hs HO.out.small (HO.out.own.rd fwEnc_len)).mono ?_
    rw [Hx.out, show resVal none = .tuple #[.string ByteArray.empty, .int .i64 0, .bool false] from rfl]
    rintro e w3 ⟨rfl, rfl⟩
    go_wp2_with fail
    refine (implForwardsValid A1 l n c1 HO.out.own.len hcap _ (by omega) HO.out.small (HO.out.own.rd fwEnc_len)).mono ?_
    rw [Hv.out]
    rintro e w4 ⟨rfl, hb⟩
    have HO := Lib.hid (HO.out.below hb)
    have HB := Lib.hid (below_step HB.out hb)
    clear hb
    go_wp2
    go_ret
    exact ⟨rfl, HB.out⟩
  have Hv := Lib.hid hv
  cases hc : codeOk s
  · have Hx : Hid (resolveOf l s = none) := by show resolveOf l s = _; unfold resolveOf; rw [hv, hc]; rfl
    have Hc := Lib.hid hc
    clear hv hc
    go_wp2_with fail
    refine (implResolveCode A1 l n c1 HO.out.own.len hcap s _ (by omega) hs HO.out.small (HO.out.own.rd fwEnc_len)).mono ?_
    rw [Hx.out, show resVal none = .tuple #[.string ByteArray.empty, .int .i64 0, .bool false] from rfl]
    rintro e w2 ⟨rfl, hb⟩
    have HO := Lib.hid (HO.out.below hb)
    have HB := Lib.hid (below_step HB.out hb)
    clear hb
    go_wp2_with fail
    refine (specResolveCode A1 l n c1 HO.out.own.len s _ (by omega) hs HO.out.small (HO.out.own.rd fwEnc_len)).mono ?_
    rw [Hx.out, show resVal none = .tuple #[.string ByteArray.empty, .int .i64 0, .bool false] from rfl]
    rintro e w3 ⟨rfl, rfl⟩
    go_wp2_with fail
    refine (implForwardsValid A1 l n c1 HO.out.own.len hcap _ (by omega) HO.out.small (HO.out.own.rd fwEnc_len)).mono ?_
    rw [Hv.out]
    rintro e w4 ⟨rfl, hb⟩
    have HO := Lib.hid (HO.out.below hb)
    have HB := Lib.hid (below_step HB.out hb)
    clear hb
    go_wp2_with (go_at_call 31; refine (implCodeValid _ (by omega) _).mono ?_; rw [Hc.out]; rintro e w9 ⟨rfl, rfl⟩)
    go_ret
    exact ⟨rfl, HB.out⟩
  have Hc := Lib.hid hc
  have Hnl := Lib.hid HO.out.own.len
  have Hnx : Hid (∀ d, nextOf l d = fwNext l d) := fun d => by unfold nextOf; rw [Hv.out]; rfl
  have Hx0 : resolveOf l s = follow l s := by unfold resolveOf; rw [hv, hc]; rfl
  clear hv hc
  have Hx0 := Lib.hid Hx0
  cases hR : follow l s with
  | none =>
    have Hx : Hid (resolveOf l s = none) := by show _ = _; rw [Hx0.out]; exact hR
    clear hR
    go_wp2_with fail
    refine (implResolveCode A1 l n c1 HO.out.own.len hcap s _ (by omega) hs HO.out.small (HO.out.own.rd fwEnc_len)).mono ?_
    rw [Hx.out, show resVal none = .tuple #[.string ByteArray.empty, .int .i64 0, .bool false] from rfl]
    rintro e w2 ⟨rfl, hb⟩
    have HO := Lib.hid (HO.out.below hb)
    have HB := Lib.hid (below_step HB.out hb)
    clear hb
    go_wp2_with fail
    refine (specResolveCode A1 l n c1 HO.out.own.len s _ (by omega) hs HO.out.small (HO.out.own.rd fwEnc_len)).mono ?_
    rw [Hx.out, show resVal none = .tuple #[.string ByteArray.empty, .int .i64 0, .bool false] from rfl]
    rintro e w3 ⟨rfl, rfl⟩
    go_wp2_with fail
    refine (implForwardsValid A1 l n c1 HO.out.own.len hcap _ (by omega) HO.out.small (HO.out.own.rd fwEnc_len)).mono ?_
    rw [Hv.out]
    rintro e w4 ⟨rfl, hb⟩
    have HO := Lib.hid (HO.out.below hb)
    have HB := Lib.hid (below_step HB.out hb)
    clear hb
    go_wp2_with (go_at_call 31; refine (implCodeValid _ (by omega) _).mono ?_; rw [Hc.out]; rintro e w9 ⟨rfl, rfl⟩)
    go_loopw [11, 12, 13, 14] (fun d i _ _ wr => ∃ (j : Nat) (x : Str), j ≤ n + 1 ∧ i = .int .i64 j ∧ d = .string x ∧ Hid (FwOut w wr A1 n c1 l) ∧ Hid (Below w.heap.size w wr) ∧ Hid (none = followN l (n + 1 - j) x j)) (fun _ i _ _ _ => n + 1 - (intOf i).toNat)
    case atStart => exact ⟨0, s, Nat.zero_le _, rfl, rfl, HO.out, HB.out, Hx.out.symm.trans (by rw [Hx0.out]; unfold follow; rw [← Hnl.out, Nat.sub_zero])⟩
    case round =>
      clear HO HB
      obtain ⟨j, x, hj, rfl, rfl, HO, HB, H⟩ := hrel
      by_cases hlt : j ≤ n
      · cases hi : fwIdx l x with
        | none =>
          have := H.out.trans (followN_none hi (by omega))
          cases this
        | some k =>
          obtain ⟨⟨y, hy, -⟩, -⟩ := fwIdx_some.1 hi
          have Hn : Hid (nextOf l x = some y.2) := by show nextOf l x = _; rw [Hnx.out]; exact fwNext_some hi hy
          have Hf : Hid (none = followN l (n + 1 - (j + 1)) y.2 (j + 1)) := H.out.trans (followN_some hi hy (by omega))
          clear hi hy
          go_wp2_with fail
          refine (implNextCode A1 l n c1 HO.out.own.len hcap x _ (by omega) HO.out.small (HO.out.own.rd fwEnc_len)).mono ?_
          rw [Hn.out, show nextVal (some y.2) = .tuple #[.string y.2, .bool true] from rfl]
          rintro e w5 ⟨rfl, hb⟩
          have HO := Lib.hid (HO.out.below hb)
          have HB := Lib.hid (below_step HB.out hb)
          clear hb
          go_wp2
          go_roundw
          case rel => exact ⟨j + 1, y.2, by omega, by go_num, rfl, HO.out, HB.out, Hf.out⟩
          case measure => simp [intOf]; omega
      · obtain rfl : j = n + 1 := by omega
        go_wp2
        go_ret
        exact ⟨rfl, HB.out⟩
  | some r =>
    obtain ⟨e, m⟩ := r
    have Hx : Hid (resolveOf l s = some (e, m)) := by show _ = _; rw [Hx0.out]; exact hR
    have hml : m ≤ n := by have := followN_le _ _ _ _ _ (show followN l (l.length + 1) s 0 = some (e, m) from hR); have := Hnl.out; omega
    have hee : (ByteArray.toList e == ByteArray.toList e) = true := by simp
    have hmm : ((m : Int) != (m : Int)) = false := by simp
    clear hR
    go_wp2_with fail
    refine (implResolveCode A1 l n c1 HO.out.own.len hcap s _ (by omega) hs HO.out.small (HO.out.own.rd fwEnc_len)).mono ?_
    rw [Hx.out, show resVal (some (e, m)) = .tuple #[.string e, .int .i64 (m : Nat), .bool true] from rfl]
    rintro e w2 ⟨rfl, hb⟩
    have HO := Lib.hid (HO.out.below hb)
    have HB := Lib.hid (below_step HB.out hb)
    clear hb
    go_wp2_with fail
    refine (specResolveCode A1 l n c1 HO.out.own.len s _ (by omega) hs HO.out.small (HO.out.own.rd fwEnc_len)).mono ?_
    rw [Hx.out, show resVal (some (e, m)) = .tuple #[.string e, .int .i64 (m : Nat), .bool true] from rfl]
    rintro e w3 ⟨rfl, rfl⟩
    go_wp2_with fail
    refine (implForwardsValid A1 l n c1 HO.out.own.len hcap _ (by omega) HO.out.small (HO.out.own.rd fwEnc_len)).mono ?_
    rw [Hv.out]
    rintro e w4 ⟨rfl, hb⟩
    have HO := Lib.hid (HO.out.below hb)
    have HB := Lib.hid (below_step HB.out hb)
    clear hb
    go_wp2_with (go_at_call 31; refine (implCodeValid _ (by omega) _).mono ?_; rw [Hc.out]; rintro e w9 ⟨rfl, rfl⟩)
    go_loopw [11, 12, 13, 14] (fun d i _ _ wr => ∃ (j : Nat) (x : Str), j ≤ n + 1 ∧ i = .int .i64 j ∧ d = .string x ∧ Hid (FwOut w wr A1 n c1 l) ∧ Hid (Below w.heap.size w wr) ∧ Hid (some (e, m) = followN l (n + 1 - j) x j)) (fun _ i _ _ _ => n + 1 - (intOf i).toNat)
    case atStart => exact ⟨0, s, Nat.zero_le _, rfl, rfl, HO.out, HB.out, Hx.out.symm.trans (by rw [Hx0.out]; unfold follow; rw [← Hnl.out, Nat.sub_zero])⟩
    case round =>
      clear HO HB
      obtain ⟨j, x, hj, rfl, rfl, HO, HB, H⟩ := hrel
      by_cases hlt : j ≤ n
      · cases hi : fwIdx l x with
        | none =>
          have hem := H.out.trans (followN_none hi (by omega))
          injection hem with hem
          injection hem with h1 h2
          subst h1
          subst h2
          have Hn : Hid (nextOf l e = none) := by show nextOf l e = _; rw [Hnx.out]; exact fwNext_none hi
          clear hi
          go_wp2_with fail
          refine (implNextCode A1 l n c1 HO.out.own.len hcap e _ (by omega) HO.out.small (HO.out.own.rd fwEnc_len)).mono ?_
          rw [Hn.out, show nextVal none = .tuple #[.string ByteArray.empty, .bool false] from rfl]
          rintro e w5 ⟨rfl, hb⟩
          have HO := Lib.hid (HO.out.below hb)
          have HB := Lib.hid (below_step HB.out hb)
          clear hb
          go_wp2_with fail
          refine (implNextCode A1 l n c1 HO.out.own.len hcap e _ (by omega) HO.out.small (HO.out.own.rd fwEnc_len)).mono ?_
          rw [Hn.out, show nextVal none = .tuple #[.string ByteArray.empty, .bool false] from rfl]
          rintro e w6 ⟨rfl, hb⟩
          have HB := Lib.hid (below_step HB.out hb)
          clear hb
          go_wp2
          go_ret
          exact ⟨rfl, HB.out⟩
        | some k =>
          obtain ⟨⟨y, hy, -⟩, -⟩ := fwIdx_some.1 hi
          have Hn : Hid (nextOf l x = some y.2) := by show nextOf l x = _; rw [Hnx.out]; exact fwNext_some hi hy
          have Hf : Hid (some (e, m) = followN l (n + 1 - (j + 1)) y.2 (j + 1)) := H.out.trans (followN_some hi hy (by omega))
          clear hi hy
          go_wp2_with fail
          refine (implNextCode A1 l n c1 HO.out.own.len hcap x _ (by omega) HO.out.small (HO.out.own.rd fwEnc_len)).mono ?_
          rw [Hn.out, show nextVal (some y.2) = .tuple #[.string y.2, .bool true] from rfl]
          rintro e w5 ⟨rfl, hb⟩
          have HO := Lib.hid (HO.out.below hb)
          have HB := Lib.hid (below_step HB.out hb)
          clear hb
          go_wp2
          go_roundw
          case rel => exact ⟨j + 1, y.2, by omega, by go_num, rfl, HO.out, HB.out, Hf.out⟩
          case measure => simp [intOf]; omega
      · obtain rfl : j = n + 1 := by omega
        have := H.out
        rw [Nat.sub_self] at this
        cases this
end Go.Proofs.Ytfokfdkpbdabhaa
