/-
  The laws on where letters arrive. (Written by gen_df.py.)
-/
import Derived.Test.YtfokfdkpbdabhaaDfP
namespace Go.Proofs.Ytfokfdkpbdabhaa
open Go.RowKit

set_option maxHeartbeats 8000000 in
set_option maxRecDepth 100000 in
theorem walkFnResolveStep (A : Option Addr) (bs : List UInt8) (c : Nat) (w : World) (h : ByIn w A bs c) :
    Calls Try.prog 8 #[.slice A bs.length c] w fun e w' => e = .returned (.bool true) ∧ Below w.heap.size w w' := by
  obtain ⟨hlc, hcm, hr⟩ := h
  have Hr := Lib.hid hr
  unfold maxLen at hcm
  clear hr
  by_cases hlen : ¬ (bs.length : Int) ≤ 1048576
  · go_enter Try.func8, Try.ntmps8
    go_wp2
    go_ret
    exact ⟨rfl, Below.refl _ _⟩
  have hlen := Decidable.not_not.1 hlen
  go_enter Try.func8, Try.ntmps8
  go_wp2_with fail
  refine (drawResolveC A bs _ _ rfl hlc _ (by omega) Hr.out).mono ?_
  rintro e w1 ⟨A1, n, c1, l, s, rfl, ho, hs, hb⟩
  have HO := Lib.hid ho
  have HB := Lib.hid hb
  have hn := ho.len
  have hcap := ho.own.cap_le
  clear ho hb
  have hss : (ByteArray.toList s == ByteArray.toList s) = true := by simp
  have hN : (nextOf l s = none ∧ (resolveOf l s = none ∨ resolveOf l s = some (s, 0))) ∨ (∃ d, d.size ≤ 1048576 ∧ nextOf l s = some d ∧ ((resolveOf l s = none ∧ resolveOf l d = none) ∨ ∃ e m, resolveOf l s = some (e, m + 1) ∧ resolveOf l d = some (e, m) ∧ m ≤ 40)) := step_facts HO.out.small (by have := HO.out.own.len; omega)
  rcases hN with ⟨h1, h2 | h2⟩ | ⟨d, hd, h1, ⟨h2, h3⟩ | ⟨e, m, h2, h3, hm⟩⟩
  · have Hx := Lib.hid h2
    have Hn := Lib.hid h1
    clear h1 h2
    go_wp2_with fail
    refine (implResolveCode A1 l n c1 HO.out.own.len hcap s _ (by omega) hs HO.out.small (HO.out.own.rd fwEnc_len)).mono ?_
    rw [Hx.out, show resVal none = .tuple #[.string ByteArray.empty, .int .i64 0, .bool false] from rfl]
    rintro e w2 ⟨rfl, hb⟩
    have HO := Lib.hid (HO.out.below hb)
    have HB := Lib.hid (below_step HB.out hb)
    clear hb
    go_wp2_with fail
    refine (specResolveCode A1 l n c1 HO.out.own.len s _ (by omega) hs HO.out.small (HO.out.own.rd fwEnc_len)).mono ?_
    rw [Hx.out, show resVal none = .tuple #[.string ByteArray.empty, .int .i64 0, .bool false] from rfl]
    rintro e w3 ⟨rfl, rfl⟩
    go_wp2_with fail
    refine (implNextCode A1 l n c1 HO.out.own.len hcap s _ (by omega) HO.out.small (HO.out.own.rd fwEnc_len)).mono ?_
    rw [Hn.out, show nextVal none = .tuple #[.string ByteArray.empty, .bool false] from rfl]
    rintro e w4 ⟨rfl, hb⟩
    have HO := Lib.hid (HO.out.below hb)
    have HB := Lib.hid (below_step HB.out hb)
    clear hb
    go_wp2
    go_ret
    exact ⟨rfl, HB.out⟩
  · have Hx := Lib.hid h2
    have Hn := Lib.hid h1
    clear h1 h2
    go_wp2_with fail
    refine (implResolveCode A1 l n c1 HO.out.own.len hcap s _ (by omega) hs HO.out.small (HO.out.own.rd fwEnc_len)).mono ?_
    rw [Hx.out, show resVal (some (s, 0)) = .tuple #[.string s, .int .i64 (0 : Nat), .bool true] from rfl]
    rintro e w2 ⟨rfl, hb⟩
    have HO := Lib.hid (HO.out.below hb)
    have HB := Lib.hid (below_step HB.out hb)
    clear hb
    go_wp2_with fail
    refine (specResolveCode A1 l n c1 HO.out.own.len s _ (by omega) hs HO.out.small (HO.out.own.rd fwEnc_len)).mono ?_
    rw [Hx.out, show resVal (some (s, 0)) = .tuple #[.string s, .int .i64 (0 : Nat), .bool true] from rfl]
    rintro e w3 ⟨rfl, rfl⟩
    go_wp2_with fail
    refine (implNextCode A1 l n c1 HO.out.own.len hcap s _ (by omega) HO.out.small (HO.out.own.rd fwEnc_len)).mono ?_
    rw [Hn.out, show nextVal none = .tuple #[.string ByteArray.empty, .bool false] from rfl]
    rintro e w4 ⟨rfl, hb⟩
    have HO := Lib.hid (HO.out.below hb)
    have HB := Lib.hid (below_step HB.out hb)
    clear hb
    go_wp2
    go_ret
    exact ⟨rfl, HB.out⟩
  · have Hx := Lib.hid h2
    have Hn := Lib.hid h1
    have Hy := Lib.hid h3
    clear h1 h2 h3
    go_wp2_with fail
    refine (implResolveCode A1 l n c1 HO.out.own.len hcap s _ (by omega) hs HO.out.small (HO.out.own.rd fwEnc_len)).mono ?_
    rw [Hx.out, show resVal none = .tuple #[.string ByteArray.empty, .int .i64 0, .bool false] from rfl]
    rintro e w2 ⟨rfl, hb⟩
    have HO := Lib.hid (HO.out.below hb)
    have HB := Lib.hid (below_step HB.out hb)
    clear hb
    go_wp2_with fail
    refine (specResolveCode A1 l n c1 HO.out.own.len s _ (by omega) hs HO.out.small (HO.out.own.rd fwEnc_len)).mono ?_
    rw [Hx.out, show resVal none = .tuple #[.string ByteArray.empty, .int .i64 0, .bool false] from rfl]
    rintro e w3 ⟨rfl, rfl⟩
    go_wp2_with fail
    refine (implNextCode A1 l n c1 HO.out.own.len hcap s _ (by omega) HO.out.small (HO.out.own.rd fwEnc_len)).mono ?_
    rw [Hn.out, show nextVal (some d) = .tuple #[.string d, .bool true] from rfl]
    rintro e w4 ⟨rfl, hb⟩
    have HO := Lib.hid (HO.out.below hb)
    have HB := Lib.hid (below_step HB.out hb)
    clear hb
    go_wp2_with fail
    refine (implResolveCode A1 l n c1 HO.out.own.len hcap d _ (by omega) hd HO.out.small (HO.out.own.rd fwEnc_len)).mono ?_
    rw [Hy.out, show resVal none = .tuple #[.string ByteArray.empty, .int .i64 0, .bool false] from rfl]
    rintro e w5 ⟨rfl, hb⟩
    have HB := Lib.hid (below_step HB.out hb)
    clear hb
    go_wp2
    go_ret
    exact ⟨rfl, HB.out⟩
  · have Hx := Lib.hid h2
    have Hn := Lib.hid h1
    have Hy := Lib.hid h3
    have hee : (ByteArray.toList e == ByteArray.toList e) = true := by simp
    clear h1 h2 h3
    go_wp2_with fail
    refine (implResolveCode A1 l n c1 HO.out.own.len hcap s _ (by omega) hs HO.out.small (HO.out.own.rd fwEnc_len)).mono ?_
    rw [Hx.out, show resVal (some (e, m + 1)) = .tuple #[.string e, .int .i64 (m + 1 : Nat), .bool true] from rfl]
    rintro e w2 ⟨rfl, hb⟩
    have HO := Lib.hid (HO.out.below hb)
    have HB := Lib.hid (below_step HB.out hb)
    clear hb
    go_wp2_with fail
    refine (specResolveCode A1 l n c1 HO.out.own.len s _ (by omega) hs HO.out.small (HO.out.own.rd fwEnc_len)).mono ?_
    rw [Hx.out, show resVal (some (e, m + 1)) = .tuple #[.string e, .int .i64 (m + 1 : Nat), .bool true] from rfl]
    rintro e w3 ⟨rfl, rfl⟩
    go_wp2_with fail
    refine (implNextCode A1 l n c1 HO.out.own.len hcap s _ (by omega) HO.out.small (HO.out.own.rd fwEnc_len)).mono ?_
    rw [Hn.out, show nextVal (some d) = .tuple #[.string d, .bool true] from rfl]
    rintro e w4 ⟨rfl, hb⟩
    have HO := Lib.hid (HO.out.below hb)
    have HB := Lib.hid (below_step HB.out hb)
    clear hb
    go_wp2_with fail
    refine (implResolveCode A1 l n c1 HO.out.own.len hcap d _ (by omega) hd HO.out.small (HO.out.own.rd fwEnc_len)).mono ?_
    rw [Hy.out, show resVal (some (e, m)) = .tuple #[.string e, .int .i64 (m : Nat), .bool true] from rfl]
    rintro e w5 ⟨rfl, hb⟩
    have HB := Lib.hid (below_step HB.out hb)
    clear hb
    go_wp2
    go_ret
    exact ⟨rfl, HB.out⟩
end Go.Proofs.Ytfokfdkpbdabhaa
