/-
  The law on orders that can be added. (Written by gen_da.py.)
-/
import Derived.Test.YtfokfdkpbdabhaaDfQ
namespace Go.Proofs.Ytfokfdkpbdabhaa
open Go.RowKit

set_option maxHeartbeats 1000000 in
set_option maxRecDepth 100000 in
theorem drawAddC (A : Option Addr) (bs : List UInt8) (n cap : Nat) (hn : n = bs.length) (hc : n ≤ cap) (w : World) (hlen : n ≤ 1048576) (hr : Rd w 1 byEnc A bs) :
    Calls Try.prog 35 #[.slice A n cap] w fun e w' => ∃ A' n' c' l, ∃ s t : Str, e = .returned (.tuple #[.slice A' n' c', .string s, .string t]) ∧ FwOut w w' A' n' c' l ∧ s.size ≤ 1048576 ∧ t.size ≤ 1048576 ∧ Below w.heap.size w w' := by
  have Hn := Lib.hid hn
  have Hr := Lib.hid hr
  clear hn hr
  go_enter Try.func35, Try.ntmps35
  go_wp2_with fail
  refine (openC A bs n cap Hn.out hc _ hlen Hr.out).mono ?_
  rintro e w1 ⟨rfl, hr1, hb1⟩
  have hgw := hr1.lt
  have hz1 := hb1.size
  have H1 := Lib.hid hb1
  go_wp2_with fail
  refine (openFwC _ _ 0 _ hr1 (by omega)).mono ?_
  rintro e w2 ⟨A2, n2, c2, l2, rfl, ho, ⟨p2, hp2, hr2⟩, hg2⟩
  have O := Lib.hid ho
  have HB := Lib.hid (grown_below_g H1.out hg2 (Nat.le_refl _))
  have R := Lib.hid hr2
  clear hr1 hb1 ho hr2 hg2
  go_wp2_with fail
  refine (codeC _ _ p2 _ R.out (by omega)).mono ?_
  rintro e w3 ⟨s0, rfl, hs0, hd⟩
  obtain ⟨p3, hp3, hr3⟩ := hd.rd
  have O := Lib.hid (O.out.moved hd.gr hgw)
  have HB := Lib.hid (grown_below_g HB.out hd.gr (Nat.le_refl _))
  clear hd
  go_wp2_with fail
  refine (badC _ _ p3 s0 _ hr3 (by omega) (by omega) (by omega)).mono ?_
  rintro e w4 ⟨s, rfl, hs, hd⟩
  obtain ⟨p4, hp4, hr4⟩ := hd.rd
  have O := Lib.hid (O.out.moved hd.gr hgw)
  have HB := Lib.hid (grown_below_g HB.out hd.gr (Nat.le_refl _))
  clear hd hr3
  go_wp2_with fail
  refine (codeC _ _ p4 _ hr4 (by omega)).mono ?_
  rintro e w5 ⟨t0, rfl, ht0, hd⟩
  obtain ⟨p5, hp5, hr5⟩ := hd.rd
  have O := Lib.hid (O.out.moved hd.gr hgw)
  have HB := Lib.hid (grown_below_g HB.out hd.gr (Nat.le_refl _))
  clear hd hr4
  go_wp2_with fail
  refine (badC _ _ p5 t0 _ hr5 (by omega) (by omega) (by omega)).mono ?_
  rintro e w6 ⟨t, rfl, ht, hd⟩
  have O := Lib.hid (O.out.moved hd.gr hgw)
  have HB := Lib.hid (grown_below_g HB.out hd.gr (Nat.le_refl _))
  clear hd hr5
  go_wp2
  go_ret3
  exact ⟨A2, n2, c2, l2, s, t, rfl, ⟨O.out.own.lower hz1, O.out.len, O.out.small⟩, by omega, by omega, HB.out⟩

theorem rest_ok {l : List Fw} {f : Str} (hv : fwsOk l = true) : fwsOk (restOf l f) = true := by
  obtain ⟨h1, h2, h3⟩ := (fwsOk_nodup l).1 hv
  have hsub : (restOf l f).Sublist l := by
    have := dropTo_sub l (idxInt (fwIdx l f)) l.length
    rwa [List.take_length] at this
  exact (fwsOk_nodup _).2 ⟨Nat.le_trans hsub.length_le h1, fun x hx => h2 x (hsub.subset hx), (hsub.map _).nodup h3⟩
theorem rest_small {l : List Fw} {f : Str} {b : Nat} (hs : ∀ x ∈ l, x.1.size ≤ b ∧ x.2.size ≤ b) : ∀ x ∈ restOf l f, x.1.size ≤ b ∧ x.2.size ≤ b := fun x hx => hs x (dropTo_mem hx)
theorem rest_same {l : List Fw} {f : Str} (h : fwIdx l f = none) : restOf l f = l := by
  unfold restOf
  rw [h, dropTo_off l (show idxInt none < 0 by decide), List.take_length]

set_option maxHeartbeats 8000000 in
set_option maxRecDepth 100000 in
theorem walkFnAddRefused (A : Option Addr) (bs : List UInt8) (c : Nat) (w : World) (h : ByIn w A bs c) :
    Calls Try.prog 10 #[.slice A bs.length c] w fun e w' => e = .returned (.bool true) ∧ Below w.heap.size w w' := by
  obtain ⟨hlc, hcm, hr⟩ := h
  have Hr := Lib.hid hr
  unfold maxLen at hcm
  clear hr
  by_cases hlen : ¬ (bs.length : Int) ≤ 1048576
  · go_enter Try.func10, Try.ntmps10
    go_wp2
    go_ret
    exact ⟨rfl, Below.refl _ _⟩
  have hlen := Decidable.not_not.1 hlen
  go_enter Try.func10, Try.ntmps10
  go_wp2_with fail
  refine (drawAddC A bs _ _ rfl hlc _ (by omega) Hr.out).mono ?_
  rintro e w1 ⟨A1, n, c1, l, s, t, rfl, ho, hs, ht, hb⟩
  have HO := Lib.hid ho
  have HB := Lib.hid hb
  have hn := ho.len
  have hcap := ho.own.cap_le
  have Hnl := Lib.hid ho.own.len
  clear ho hb
  obtain ⟨v, hv⟩ : ∃ v, (addOf l s t).isSome = v := ⟨_, rfl⟩
  have Hv := Lib.hid hv
  have hvv : (v != v) = false := by simp
  have hve : (v == v) = true := by simp
  clear hv
  cases hok : fwsOk l
  · have Hok := Lib.hid hok
    clear hok
    go_wp2_with fail
    refine (implAdd A1 l n c1 HO.out.own.len hcap s t _ (by omega) hs ht HO.out.small (HO.out.own.rd fwEnc_len)).mono ?_
    rintro e w2 ⟨Aw2, nw2, cw2, rfl, -, hb⟩
    rw [Hv.out]
    have HO := Lib.hid (HO.out.below hb)
    have HB := Lib.hid (below_step HB.out hb)
    clear hb
    go_wp2_with fail
    refine (specAdd A1 l n c1 HO.out.own.len s t _ (by omega) hs ht HO.out.small (HO.out.own.rd fwEnc_len)).mono ?_
    rintro e w3 ⟨Aw3, nw3, cw3, rfl, -, hb⟩
    rw [Hv.out]
    have HO := Lib.hid (HO.out.below hb)
    have HB := Lib.hid (below_step HB.out hb)
    clear hb
    go_wp2_with fail
    refine (implForwardsValid A1 l n c1 HO.out.own.len hcap _ (by omega) HO.out.small (HO.out.own.rd fwEnc_len)).mono ?_
    rw [Hok.out]
    rintro e w4 ⟨rfl, hb⟩
    have HB := Lib.hid (below_step HB.out hb)
    clear hb
    go_wp2
    go_ret
    exact ⟨rfl, HB.out⟩
  have Hok := Lib.hid hok
  cases hcf : codeOk s
  · have Hcf := Lib.hid hcf
    clear hok hcf
    go_wp2_with fail
    refine (implAdd A1 l n c1 HO.out.own.len hcap s t _ (by omega) hs ht HO.out.small (HO.out.own.rd fwEnc_len)).mono ?_
    rintro e w2 ⟨Aw2, nw2, cw2, rfl, -, hb⟩
    rw [Hv.out]
    have HO := Lib.hid (HO.out.below hb)
    have HB := Lib.hid (below_step HB.out hb)
    clear hb
    go_wp2_with fail
    refine (specAdd A1 l n c1 HO.out.own.len s t _ (by omega) hs ht HO.out.small (HO.out.own.rd fwEnc_len)).mono ?_
    rintro e w3 ⟨Aw3, nw3, cw3, rfl, -, hb⟩
    rw [Hv.out]
    have HO := Lib.hid (HO.out.below hb)
    have HB := Lib.hid (below_step HB.out hb)
    clear hb
    go_wp2_with fail
    refine (implForwardsValid A1 l n c1 HO.out.own.len hcap _ (by omega) HO.out.small (HO.out.own.rd fwEnc_len)).mono ?_
    rw [Hok.out]
    rintro e w4 ⟨rfl, hb⟩
    have HO := Lib.hid (HO.out.below hb)
    have HB := Lib.hid (below_step HB.out hb)
    clear hb
    go_wp2_with (go_at_call 31; refine (implCodeValid s (by omega) _).mono ?_; rw [Hcf.out]; rintro e w9 ⟨rfl, rfl⟩)
    go_ret
    exact ⟨rfl, HB.out⟩
  have Hcf := Lib.hid hcf
  cases hct : codeOk t
  · have Hct := Lib.hid hct
    clear hok hcf hct
    go_wp2_with fail
    refine (implAdd A1 l n c1 HO.out.own.len hcap s t _ (by omega) hs ht HO.out.small (HO.out.own.rd fwEnc_len)).mono ?_
    rintro e w2 ⟨Aw2, nw2, cw2, rfl, -, hb⟩
    rw [Hv.out]
    have HO := Lib.hid (HO.out.below hb)
    have HB := Lib.hid (below_step HB.out hb)
    clear hb
    go_wp2_with fail
    refine (specAdd A1 l n c1 HO.out.own.len s t _ (by omega) hs ht HO.out.small (HO.out.own.rd fwEnc_len)).mono ?_
    rintro e w3 ⟨Aw3, nw3, cw3, rfl, -, hb⟩
    rw [Hv.out]
    have HO := Lib.hid (HO.out.below hb)
    have HB := Lib.hid (below_step HB.out hb)
    clear hb
    go_wp2_with fail
    refine (implForwardsValid A1 l n c1 HO.out.own.len hcap _ (by omega) HO.out.small (HO.out.own.rd fwEnc_len)).mono ?_
    rw [Hok.out]
    rintro e w4 ⟨rfl, hb⟩
    have HO := Lib.hid (HO.out.below hb)
    have HB := Lib.hid (below_step HB.out hb)
    clear hb
    go_wp2_with fail
    refine (implCodeValid s (by omega) _).mono ?_
    rw [Hcf.out]
    rintro e w9 ⟨rfl, rfl⟩
    go_wp2_with fail
    refine (implCodeValid t (by omega) _).mono ?_
    rw [Hct.out]
    rintro e w9 ⟨rfl, rfl⟩
    go_wp2
    go_ret
    exact ⟨rfl, HB.out⟩
  have Hct := Lib.hid hct
  have hiff := add_iff hok hcf hct
  have hrok := rest_ok (f := s) hok
  have hres : resolveOf (restOf l s) t = follow (restOf l s) t := by unfold resolveOf; rw [hrok, hct]; rfl
  rw [Hv.out] at hiff
  clear hok hcf hct hrok
  have hcases : (follow (restOf l s) t = none ∧ v = false) ∨ ∃ e m, follow (restOf l s) t = some (e, m) ∧ ((e = s ∧ v = false) ∨ (e ≠ s ∧ (v = true ↔ ((fwIdx l s).isSome = true ∨ l.length < 30)))) := by
    cases hR : follow (restOf l s) t with
    | none =>
      left
      refine ⟨rfl, ?_⟩
      cases v
      · rfl
      · obtain ⟨⟨e, m, h, -⟩, -⟩ := hiff.1 rfl
        rw [hR] at h; cases h
    | some r =>
      obtain ⟨e, m⟩ := r
      right
      refine ⟨e, m, rfl, ?_⟩
      by_cases he : e = s
      · left
        refine ⟨he, ?_⟩
        cases v
        · rfl
        · obtain ⟨⟨e', m', h, hne⟩, -⟩ := hiff.1 rfl
          rw [hR] at h
          injection h with h
          injection h with h
          exact absurd (h ▸ he) hne
      · right
        exact ⟨he, fun h => (hiff.1 h).2, fun h => hiff.2 ⟨⟨e, m, hR, he⟩, h⟩⟩
  clear hiff
  have Hres := Lib.hid hres
  clear hres
  cases hi : fwIdx l s with
  | none =>
    have Hrem : Hid (removeOf l s = none) := by show removeOf l s = _; unfold removeOf; rw [Hok.out, if_pos rfl, hi]; rfl
    have hsame := rest_same hi
    rw [hsame] at hcases Hres
    rw [hi] at hcases
    clear hsame hi
    rcases hcases with ⟨hR, rfl⟩ | ⟨e, m, hR, ⟨rfl, rfl⟩ | ⟨hne, hiv⟩⟩
    · have HR : Hid (resolveOf l t = none) := Hres.out.trans hR
      clear hR
      go_wp2_with fail
      refine (implAdd A1 l n c1 HO.out.own.len hcap s t _ (by omega) hs ht HO.out.small (HO.out.own.rd fwEnc_len)).mono ?_
      rintro e w2 ⟨Aw2, nw2, cw2, rfl, -, hb⟩
      rw [Hv.out]
      have HO := Lib.hid (HO.out.below hb)
      have HB := Lib.hid (below_step HB.out hb)
      clear hb
      go_wp2_with fail
      refine (specAdd A1 l n c1 HO.out.own.len s t _ (by omega) hs ht HO.out.small (HO.out.own.rd fwEnc_len)).mono ?_
      rintro e w3 ⟨Aw3, nw3, cw3, rfl, -, hb⟩
      rw [Hv.out]
      have HO := Lib.hid (HO.out.below hb)
      have HB := Lib.hid (below_step HB.out hb)
      clear hb
      go_wp2_with fail
      refine (implForwardsValid A1 l n c1 HO.out.own.len hcap _ (by omega) HO.out.small (HO.out.own.rd fwEnc_len)).mono ?_
      rw [Hok.out]
      rintro e w4 ⟨rfl, hb⟩
      have HO := Lib.hid (HO.out.below hb)
      have HB := Lib.hid (below_step HB.out hb)
      clear hb
      go_wp2_with fail
      refine (implCodeValid s (by omega) _).mono ?_
      rw [Hcf.out]
      rintro e w9 ⟨rfl, rfl⟩
      go_wp2_with fail
      refine (implCodeValid t (by omega) _).mono ?_
      rw [Hct.out]
      rintro e w9 ⟨rfl, rfl⟩
      go_wp2_with fail
      refine (implRemove A1 l n c1 HO.out.own.len hcap s _ (by omega) HO.out.small (HO.out.own.rd fwEnc_len)).mono ?_
      rw [Hrem.out]
      rintro e w5 ⟨A5, n5, c5, rfl, -, hb⟩
      have HO := Lib.hid (HO.out.below hb)
      have HB := Lib.hid (below_step HB.out hb)
      clear hb
      go_wp2_with fail
      refine (implResolveCode A1 l n c1 HO.out.own.len HO.out.own.cap_le t _ (by omega) ht HO.out.small (HO.out.own.rd fwEnc_len)).mono ?_
      rw [HR.out, show resVal none = .tuple #[.string ByteArray.empty, .int .i64 0, .bool false] from rfl]
      rintro e w6 ⟨rfl, hb⟩
      have HB := Lib.hid (below_step HB.out hb)
      clear hb
      go_wp2
      go_ret
      exact ⟨rfl, HB.out⟩
    · have HR : Hid (resolveOf l t = some (e, m)) := Hres.out.trans hR
      have hee : (ByteArray.toList e == ByteArray.toList e) = true := by simp
      clear hR
      go_wp2_with fail
      refine (implAdd A1 l n c1 HO.out.own.len hcap _ t _ (by omega) hs ht HO.out.small (HO.out.own.rd fwEnc_len)).mono ?_
      rintro e w2 ⟨Aw2, nw2, cw2, rfl, -, hb⟩
      rw [Hv.out]
      have HO := Lib.hid (HO.out.below hb)
      have HB := Lib.hid (below_step HB.out hb)
      clear hb
      go_wp2_with fail
      refine (specAdd A1 l n c1 HO.out.own.len _ t _ (by omega) hs ht HO.out.small (HO.out.own.rd fwEnc_len)).mono ?_
      rintro e w3 ⟨Aw3, nw3, cw3, rfl, -, hb⟩
      rw [Hv.out]
      have HO := Lib.hid (HO.out.below hb)
      have HB := Lib.hid (below_step HB.out hb)
      clear hb
      go_wp2_with fail
      refine (implForwardsValid A1 l n c1 HO.out.own.len hcap _ (by omega) HO.out.small (HO.out.own.rd fwEnc_len)).mono ?_
      rw [Hok.out]
      rintro e w4 ⟨rfl, hb⟩
      have HO := Lib.hid (HO.out.below hb)
      have HB := Lib.hid (below_step HB.out hb)
      clear hb
      go_wp2_with fail
      refine (implCodeValid _ (by omega) _).mono ?_
      rw [Hcf.out]
      rintro e w9 ⟨rfl, rfl⟩
      go_wp2_with fail
      refine (implCodeValid t (by omega) _).mono ?_
      rw [Hct.out]
      rintro e w9 ⟨rfl, rfl⟩
      go_wp2_with fail
      refine (implRemove A1 l n c1 HO.out.own.len hcap _ _ (by omega) HO.out.small (HO.out.own.rd fwEnc_len)).mono ?_
      rw [Hrem.out]
      rintro e w5 ⟨A5, n5, c5, rfl, -, hb⟩
      have HO := Lib.hid (HO.out.below hb)
      have HB := Lib.hid (below_step HB.out hb)
      clear hb
      go_wp2_with fail
      refine (implResolveCode A1 l n c1 HO.out.own.len HO.out.own.cap_le t _ (by omega) ht HO.out.small (HO.out.own.rd fwEnc_len)).mono ?_
      rw [HR.out, show resVal (some (e, m)) = .tuple #[.string e, .int .i64 (m : Nat), .bool true] from rfl]
      rintro e w6 ⟨rfl, hb⟩
      have HB := Lib.hid (below_step HB.out hb)
      clear hb
      go_wp2
      go_ret
      exact ⟨rfl, HB.out⟩
    · have HR : Hid (resolveOf l t = some (e, m)) := Hres.out.trans hR
      have hq := str_f hne
      have hv3 : (n < 30 ∧ v = true) ∨ (¬ n < 30 ∧ v = false) := by
        rw [Hnl.out]
        by_cases h : l.length < 30
        · exact .inl ⟨h, hiv.2 (.inr h)⟩
        · refine .inr ⟨h, ?_⟩
          cases v
          · rfl
          · rcases hiv.1 rfl with h' | h'
            · cases h'
            · exact absurd h' h
      clear hR hne hiv
      rcases hv3 with ⟨h30, rfl⟩ | ⟨h30, rfl⟩
      · go_wp2_with fail
        refine (implAdd A1 l n c1 HO.out.own.len hcap s t _ (by omega) hs ht HO.out.small (HO.out.own.rd fwEnc_len)).mono ?_
        rintro e w2 ⟨Aw2, nw2, cw2, rfl, -, hb⟩
        rw [Hv.out]
        have HO := Lib.hid (HO.out.below hb)
        have HB := Lib.hid (below_step HB.out hb)
        clear hb
        go_wp2_with fail
        refine (specAdd A1 l n c1 HO.out.own.len s t _ (by omega) hs ht HO.out.small (HO.out.own.rd fwEnc_len)).mono ?_
        rintro e w3 ⟨Aw3, nw3, cw3, rfl, -, hb⟩
        rw [Hv.out]
        have HO := Lib.hid (HO.out.below hb)
        have HB := Lib.hid (below_step HB.out hb)
        clear hb
        go_wp2_with fail
        refine (implForwardsValid A1 l n c1 HO.out.own.len hcap _ (by omega) HO.out.small (HO.out.own.rd fwEnc_len)).mono ?_
        rw [Hok.out]
        rintro e w4 ⟨rfl, hb⟩
        have HO := Lib.hid (HO.out.below hb)
        have HB := Lib.hid (below_step HB.out hb)
        clear hb
        go_wp2_with fail
        refine (implCodeValid s (by omega) _).mono ?_
        rw [Hcf.out]
        rintro e w9 ⟨rfl, rfl⟩
        go_wp2_with fail
        refine (implCodeValid t (by omega) _).mono ?_
        rw [Hct.out]
        rintro e w9 ⟨rfl, rfl⟩
        go_wp2_with fail
        refine (implRemove A1 l n c1 HO.out.own.len hcap s _ (by omega) HO.out.small (HO.out.own.rd fwEnc_len)).mono ?_
        rw [Hrem.out]
        rintro e w5 ⟨A5, n5, c5, rfl, -, hb⟩
        have HO := Lib.hid (HO.out.below hb)
        have HB := Lib.hid (below_step HB.out hb)
        clear hb
        go_wp2_with fail
        refine (implResolveCode A1 l n c1 HO.out.own.len HO.out.own.cap_le t _ (by omega) ht HO.out.small (HO.out.own.rd fwEnc_len)).mono ?_
        rw [HR.out, show resVal (some (e, m)) = .tuple #[.string e, .int .i64 (m : Nat), .bool true] from rfl]
        rintro e w6 ⟨rfl, hb⟩
        have HB := Lib.hid (below_step HB.out hb)
        clear hb
        go_wp2
        go_ret
        exact ⟨ret_bool (by first | exact decide_eq_true (by omega) | (simp; omega)), HB.out⟩
      · go_wp2_with fail
        refine (implAdd A1 l n c1 HO.out.own.len hcap s t _ (by omega) hs ht HO.out.small (HO.out.own.rd fwEnc_len)).mono ?_
        rintro e w2 ⟨Aw2, nw2, cw2, rfl, -, hb⟩
        rw [Hv.out]
        have HO := Lib.hid (HO.out.below hb)
        have HB := Lib.hid (below_step HB.out hb)
        clear hb
        go_wp2_with fail
        refine (specAdd A1 l n c1 HO.out.own.len s t _ (by omega) hs ht HO.out.small (HO.out.own.rd fwEnc_len)).mono ?_
        rintro e w3 ⟨Aw3, nw3, cw3, rfl, -, hb⟩
        rw [Hv.out]
        have HO := Lib.hid (HO.out.below hb)
        have HB := Lib.hid (below_step HB.out hb)
        clear hb
        go_wp2_with fail
        refine (implForwardsValid A1 l n c1 HO.out.own.len hcap _ (by omega) HO.out.small (HO.out.own.rd fwEnc_len)).mono ?_
        rw [Hok.out]
        rintro e w4 ⟨rfl, hb⟩
        have HO := Lib.hid (HO.out.below hb)
        have HB := Lib.hid (below_step HB.out hb)
        clear hb
        go_wp2_with fail
        refine (implCodeValid s (by omega) _).mono ?_
        rw [Hcf.out]
        rintro e w9 ⟨rfl, rfl⟩
        go_wp2_with fail
        refine (implCodeValid t (by omega) _).mono ?_
        rw [Hct.out]
        rintro e w9 ⟨rfl, rfl⟩
        go_wp2_with fail
        refine (implRemove A1 l n c1 HO.out.own.len hcap s _ (by omega) HO.out.small (HO.out.own.rd fwEnc_len)).mono ?_
        rw [Hrem.out]
        rintro e w5 ⟨A5, n5, c5, rfl, -, hb⟩
        have HO := Lib.hid (HO.out.below hb)
        have HB := Lib.hid (below_step HB.out hb)
        clear hb
        go_wp2_with fail
        refine (implResolveCode A1 l n c1 HO.out.own.len HO.out.own.cap_le t _ (by omega) ht HO.out.small (HO.out.own.rd fwEnc_len)).mono ?_
        rw [HR.out, show resVal (some (e, m)) = .tuple #[.string e, .int .i64 (m : Nat), .bool true] from rfl]
        rintro e w6 ⟨rfl, hb⟩
        have HB := Lib.hid (below_step HB.out hb)
        clear hb
        go_wp2
        go_ret
        exact ⟨ret_bool (by first | exact decide_eq_true (by omega) | (simp; omega)), HB.out⟩
  | some k =>
    have Hrem : Hid (removeOf l s = some (restOf l s)) := by show removeOf l s = _; unfold removeOf; rw [Hok.out, if_pos rfl, hi]; unfold restOf; rw [hi]; rfl
    have hrl : Hid ((restOf l s).length ≤ 31) := by show _ ≤ _; have h1 := dropTo_len l (idxInt (fwIdx l s)) l.length; have := Hnl.out; unfold restOf; omega
    rw [hi] at hcases
    clear hi
    rcases hcases with ⟨hR, rfl⟩ | ⟨e, m, hR, ⟨he, rfl⟩ | ⟨hne, hiv⟩⟩
    · have HR : Hid (resolveOf (restOf l s) t = none) := Hres.out.trans hR
      clear hR
      go_wp2_with fail
      refine (implAdd A1 l n c1 HO.out.own.len hcap s t _ (by omega) hs ht HO.out.small (HO.out.own.rd fwEnc_len)).mono ?_
      rintro e w2 ⟨Aw2, nw2, cw2, rfl, -, hb⟩
      rw [Hv.out]
      have HO := Lib.hid (HO.out.below hb)
      have HB := Lib.hid (below_step HB.out hb)
      clear hb
      go_wp2_with fail
      refine (specAdd A1 l n c1 HO.out.own.len s t _ (by omega) hs ht HO.out.small (HO.out.own.rd fwEnc_len)).mono ?_
      rintro e w3 ⟨Aw3, nw3, cw3, rfl, -, hb⟩
      rw [Hv.out]
      have HO := Lib.hid (HO.out.below hb)
      have HB := Lib.hid (below_step HB.out hb)
      clear hb
      go_wp2_with fail
      refine (implForwardsValid A1 l n c1 HO.out.own.len hcap _ (by omega) HO.out.small (HO.out.own.rd fwEnc_len)).mono ?_
      rw [Hok.out]
      rintro e w4 ⟨rfl, hb⟩
      have HO := Lib.hid (HO.out.below hb)
      have HB := Lib.hid (below_step HB.out hb)
      clear hb
      go_wp2_with fail
      refine (implCodeValid s (by omega) _).mono ?_
      rw [Hcf.out]
      rintro e w9 ⟨rfl, rfl⟩
      go_wp2_with fail
      refine (implCodeValid t (by omega) _).mono ?_
      rw [Hct.out]
      rintro e w9 ⟨rfl, rfl⟩
      go_wp2_with fail
      refine (implRemove A1 l n c1 HO.out.own.len hcap s _ (by omega) HO.out.small (HO.out.own.rd fwEnc_len)).mono ?_
      rw [Hrem.out]
      rintro e w5 ⟨A5, n5, c5, rfl, ho5, hb⟩
      have O5 := Lib.hid ho5
      have HO := Lib.hid (HO.out.below hb)
      have HB := Lib.hid (below_step HB.out hb)
      have hn5 : n5 ≤ 31 := by have h5 := O5.out.len; have h6 := hrl.out; change n5 = (restOf l s).length at h5; omega
      clear hb ho5
      go_wp2_with fail
      refine (implResolveCode A5 (restOf l s) n5 c5 O5.out.len O5.out.cap_le t _ (by omega) ht (rest_small HO.out.small) (O5.out.rd fwEnc_len)).mono ?_
      rw [HR.out, show resVal none = .tuple #[.string ByteArray.empty, .int .i64 0, .bool false] from rfl]
      rintro e w6 ⟨rfl, hb⟩
      have HB := Lib.hid (below_step HB.out hb)
      clear hb
      go_wp2
      go_ret
      exact ⟨rfl, HB.out⟩
    · have HR : Hid (resolveOf (restOf l s) t = some (e, m)) := Hres.out.trans hR
      have hq := str_t he
      clear hR he
      go_wp2_with fail
      refine (implAdd A1 l n c1 HO.out.own.len hcap s t _ (by omega) hs ht HO.out.small (HO.out.own.rd fwEnc_len)).mono ?_
      rintro e w2 ⟨Aw2, nw2, cw2, rfl, -, hb⟩
      rw [Hv.out]
      have HO := Lib.hid (HO.out.below hb)
      have HB := Lib.hid (below_step HB.out hb)
      clear hb
      go_wp2_with fail
      refine (specAdd A1 l n c1 HO.out.own.len s t _ (by omega) hs ht HO.out.small (HO.out.own.rd fwEnc_len)).mono ?_
      rintro e w3 ⟨Aw3, nw3, cw3, rfl, -, hb⟩
      rw [Hv.out]
      have HO := Lib.hid (HO.out.below hb)
      have HB := Lib.hid (below_step HB.out hb)
      clear hb
      go_wp2_with fail
      refine (implForwardsValid A1 l n c1 HO.out.own.len hcap _ (by omega) HO.out.small (HO.out.own.rd fwEnc_len)).mono ?_
      rw [Hok.out]
      rintro e w4 ⟨rfl, hb⟩
      have HO := Lib.hid (HO.out.below hb)
      have HB := Lib.hid (below_step HB.out hb)
      clear hb
      go_wp2_with fail
      refine (implCodeValid s (by omega) _).mono ?_
      rw [Hcf.out]
      rintro e w9 ⟨rfl, rfl⟩
      go_wp2_with fail
      refine (implCodeValid t (by omega) _).mono ?_
      rw [Hct.out]
      rintro e w9 ⟨rfl, rfl⟩
      go_wp2_with fail
      refine (implRemove A1 l n c1 HO.out.own.len hcap s _ (by omega) HO.out.small (HO.out.own.rd fwEnc_len)).mono ?_
      rw [Hrem.out]
      rintro e w5 ⟨A5, n5, c5, rfl, ho5, hb⟩
      have O5 := Lib.hid ho5
      have HO := Lib.hid (HO.out.below hb)
      have HB := Lib.hid (below_step HB.out hb)
      have hn5 : n5 ≤ 31 := by have h5 := O5.out.len; have h6 := hrl.out; change n5 = (restOf l s).length at h5; omega
      clear hb ho5
      go_wp2_with fail
      refine (implResolveCode A5 (restOf l s) n5 c5 O5.out.len O5.out.cap_le t _ (by omega) ht (rest_small HO.out.small) (O5.out.rd fwEnc_len)).mono ?_
      rw [HR.out, show resVal (some (e, m)) = .tuple #[.string e, .int .i64 (m : Nat), .bool true] from rfl]
      rintro e w6 ⟨rfl, hb⟩
      have HB := Lib.hid (below_step HB.out hb)
      clear hb
      go_wp2
      go_ret
      exact ⟨rfl, HB.out⟩
    · have HR : Hid (resolveOf (restOf l s) t = some (e, m)) := Hres.out.trans hR
      have hq := str_f hne
      have hv1 : v = true := hiv.2 (.inl rfl)
      clear hR hne hiv
      subst hv1
      go_wp2_with fail
      refine (implAdd A1 l n c1 HO.out.own.len hcap s t _ (by omega) hs ht HO.out.small (HO.out.own.rd fwEnc_len)).mono ?_
      rintro e w2 ⟨Aw2, nw2, cw2, rfl, -, hb⟩
      rw [Hv.out]
      have HO := Lib.hid (HO.out.below hb)
      have HB := Lib.hid (below_step HB.out hb)
      clear hb
      go_wp2_with fail
      refine (specAdd A1 l n c1 HO.out.own.len s t _ (by omega) hs ht HO.out.small (HO.out.own.rd fwEnc_len)).mono ?_
      rintro e w3 ⟨Aw3, nw3, cw3, rfl, -, hb⟩
      rw [Hv.out]
      have HO := Lib.hid (HO.out.below hb)
      have HB := Lib.hid (below_step HB.out hb)
      clear hb
      go_wp2_with fail
      refine (implForwardsValid A1 l n c1 HO.out.own.len hcap _ (by omega) HO.out.small (HO.out.own.rd fwEnc_len)).mono ?_
      rw [Hok.out]
      rintro e w4 ⟨rfl, hb⟩
      have HO := Lib.hid (HO.out.below hb)
      have HB := Lib.hid (below_step HB.out hb)
      clear hb
      go_wp2_with fail
      refine (implCodeValid s (by omega) _).mono ?_
      rw [Hcf.out]
      rintro e w9 ⟨rfl, rfl⟩
      go_wp2_with fail
      refine (implCodeValid t (by omega) _).mono ?_
      rw [Hct.out]
      rintro e w9 ⟨rfl, rfl⟩
      go_wp2_with fail
      refine (implRemove A1 l n c1 HO.out.own.len hcap s _ (by omega) HO.out.small (HO.out.own.rd fwEnc_len)).mono ?_
      rw [Hrem.out]
      rintro e w5 ⟨A5, n5, c5, rfl, ho5, hb⟩
      have O5 := Lib.hid ho5
      have HO := Lib.hid (HO.out.below hb)
      have HB := Lib.hid (below_step HB.out hb)
      have hn5 : n5 ≤ 31 := by have h5 := O5.out.len; have h6 := hrl.out; change n5 = (restOf l s).length at h5; omega
      clear hb ho5
      go_wp2_with fail
      refine (implResolveCode A5 (restOf l s) n5 c5 O5.out.len O5.out.cap_le t _ (by omega) ht (rest_small HO.out.small) (O5.out.rd fwEnc_len)).mono ?_
      rw [HR.out, show resVal (some (e, m)) = .tuple #[.string e, .int .i64 (m : Nat), .bool true] from rfl]
      rintro e w6 ⟨rfl, hb⟩
      have HB := Lib.hid (below_step HB.out hb)
      clear hb
      go_wp2
      go_ret
      exact ⟨rfl, HB.out⟩
end Go.Proofs.Ytfokfdkpbdabhaa
