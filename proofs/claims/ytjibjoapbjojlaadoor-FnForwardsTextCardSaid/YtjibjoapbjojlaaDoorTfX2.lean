/-
  The law on the text of orders.
-/
import Derived.Test.YtjibjoapbjojlaaDoorTf2
import Derived.Test.YtjibjoapbjojlaaDoorTfP
import Derived.Test.YtjibjoapbjojlaaDoorDs5
namespace Go.Proofs.YtjibjoapbjojlaaDoor
open Go.RowKit

set_option maxHeartbeats 1000000 in
set_option maxRecDepth 100000 in
theorem soFwEq (A B : Option Addr) (l : List Fw) (n m c d : Nat) (hn : n = l.length) (hm : m = l.length) (w : World) (hnb : n ≤ 1048576) (ha : Rd w 2 fwEnc A l) (hb : Rd w 2 fwEnc B l) :
    Calls Tryd.prog 31 #[.slice A n c, .slice B m d] w fun e w' => e = .returned (.bool true) ∧ Below w.heap.size w w' := by
  obtain rfl : m = n := by omega
  have Hn := Lib.hid hn
  have Ha := Lib.hid ha
  have Hb := Lib.hid hb
  clear hn hm ha hb
  have h0 : ((m : Int) != (m : Int)) = false := by simp
  go_enter Tryd.func31, Tryd.ntmps31
  go_wp2
  go_loopw [5] (fun i wr => ∃ j : Nat, j ≤ m ∧ i = .int .i64 j ∧ Below w.heap.size w wr) (fun i _ => m - (intOf i).toNat)
  case atStart => exact ⟨0, Nat.zero_le _, rfl, Below.refl _ _⟩
  case round =>
    obtain ⟨j, hj, rfl, hbl⟩ := hrel
    by_cases hlt : j < m
    · obtain ⟨x, hx⟩ : ∃ x, l[j]? = some x := ⟨_, List.getElem?_eq_getElem (by have := Hn.out; omega)⟩
      obtain ⟨ad, rfl, hab, c0, c1⟩ := (Ha.out.below hbl).two hx rfl
      obtain ⟨ad', rfl, hab', d0, d1⟩ := (Hb.out.below hbl).two hx rfl
      have b1 : (j : Int) < (m : Int) := by omega
      have q1 : (ByteArray.toList x.1 == ByteArray.toList x.1) = true := by simp
      have q2 : (ByteArray.toList x.2 == ByteArray.toList x.2) = true := by simp
      clear hx
      go_wp2_with fail
      go_quiet (fail)
      go_wp2
      go_roundw
      case rel => exact ⟨j + 1, by omega, by go_num, below_drewN hbl _⟩
      case measure => simp [intOf]; omega
    · obtain rfl : j = m := by omega
      go_wp2
      go_ret
      exact ⟨rfl, hbl⟩

theorem fmtOf_bd2 {l : List Fw} (h : fwsOk l = true) : 1 ≤ (fmtOf l).size ∧ (fmtOf l).size ≤ 1048576 := by
  unfold fmtOf
  rw [if_pos h]
  by_cases h0 : l = []
  · rw [if_pos h0]; exact ⟨by decide, by decide⟩
  · rw [if_neg h0]
    have h1 := joinL_size_le (l.map fwPiece) 15 (fun y hy => by
      obtain ⟨x, hx, rfl⟩ := List.mem_map.1 hy
      have := fws_codes h hx
      rw [fwPiece_size this.1 this.2]; omega)
    rw [List.length_map] at h1
    have hl := ((fwsOk_iff l).1 h).1
    refine ⟨?_, by omega⟩
    obtain ⟨x, r, rfl⟩ := List.exists_cons_of_ne_nil h0
    have h3 := joinL_data ((x :: r).map fwPiece)
    rw [List.map_cons, List.map_cons, Lib.join_cons] at h3
    have h4 := congrArg List.length h3
    rw [List.length_append] at h4
    have h5 := fwPiece_size (fws_codes h (List.mem_cons_self)).1 (fws_codes h (List.mem_cons_self)).2
    have h6 : (fwPiece x).data.toList.length = 15 := h5
    have h7 : (joinL (fwPiece x :: r.map fwPiece)).data.toList.length = (joinL (fwPiece x :: r.map fwPiece)).size := rfl
    rw [List.map_cons]
    omega
theorem parseFw_small {s : Str} (hs : s.size ≤ 1048576) : ∀ x ∈ (parseFw s).1, x.1.size ≤ 1048576 ∧ x.2.size ≤ 1048576 := by
  unfold parseFw
  split
  · intro x hx; simp at hx
  · split
    · intro x hx
      obtain ⟨p, hp, rfl⟩ := List.mem_map.1 hx
      exact fwOf_size (by have := parts_size hp; omega)
    · intro x hx; simp at hx

set_option maxHeartbeats 8000000 in
set_option maxRecDepth 100000 in
theorem walkFnForwardsText (A : Option Addr) (bs : List UInt8) (c : Nat) (A' : Option Addr) (bs' : List UInt8) (c' : Nat) (w : World) (h : ByIn w A bs c) (h' : ByIn w A' bs' c') :
    Calls Tryd.prog 6 #[.slice A bs.length c, .slice A' bs'.length c'] w fun e w' => e = .returned (.bool true) ∧ Below w.heap.size w w' := by
  obtain ⟨hlc, hcm, hr⟩ := h
  obtain ⟨hlc', hcm', hr'⟩ := h'
  have Hr := Lib.hid hr
  have Hr' := Lib.hid hr'
  unfold maxLen at hcm hcm'
  clear hr hr'
  by_cases hlen : ¬ (bs.length : Int) ≤ 1048576
  · go_enter Tryd.func6, Tryd.ntmps6
    go_wp2
    go_ret
    exact ⟨rfl, Below.refl _ _⟩
  have hlen := Decidable.not_not.1 hlen
  by_cases hlen' : ¬ (bs'.length : Int) ≤ 1048576
  · go_enter Tryd.func6, Tryd.ntmps6
    go_wp2
    go_ret
    exact ⟨rfl, Below.refl _ _⟩
  have hlen' := Decidable.not_not.1 hlen'
  go_enter Tryd.func6, Tryd.ntmps6
  go_wp2_with fail
  refine (drawFormatForwardsC A bs _ _ rfl hlc _ (by omega) Hr.out).mono ?_
  rintro e w1 ⟨A1, n1, c1, l, rfl, hn1, hs1, HP⟩
  have H := Lib.hid HP
  have Hs : Hid (∀ x ∈ l, x.1.size ≤ 1048576 ∧ x.2.size ≤ 1048576) := fun x hx => by have := hs1 x hx; omega
  have hln := (H.out.own 0 rfl).len
  subst hln
  have Hc := Lib.hid (H.out.own 0 rfl).cap_le
  clear HP hs1
  -- the second half: a text is parsed
  have K2 : ∀ (s : Str), s.size ≤ 1000 → ∃ m ok, Hid (parseFw s = (m, ok)) ∧ m.length ≤ 1048576 ∧ Hid (∀ x ∈ m, x.1.size ≤ 1048576 ∧ x.2.size ≤ 1048576) := fun s hs => by
    refine ⟨(parseFw s).1, (parseFw s).2, rfl, parseFw_len s, parseFw_small (by omega)⟩
  obtain ⟨T, hT⟩ : ∃ T, fmtOf l = T := ⟨_, rfl⟩
  have HTT := Lib.hid hT
  have hTT : (ByteArray.toList T == ByteArray.toList T) = true := by simp
  cases hok : fwsOk l
  · have hTe : T = ByteArray.empty := by rw [← hT]; unfold fmtOf; rw [hok]; rfl
    subst hTe
    have Hok := Lib.hid hok
    have hq := str_t (a := ByteArray.empty) (b := (⟨#[]⟩ : Str)) rfl
    clear hT hok
    go_wp2_with fail
    refine (implFormat A1 l _ c1 rfl Hc.out _ (by omega) Hs.out ((H.out.own 0 rfl).rd fwEnc_len)).mono ?_
    rw [HTT.out]
    rintro e w2 ⟨rfl, hb⟩
    have H := Lib.hid (H.out.step hb)
    clear hb
    go_wp2_with fail
    refine (specFormat A1 l _ c1 rfl _ (by omega) Hs.out ((H.out.own 0 rfl).rd fwEnc_len)).mono ?_
    rw [HTT.out]
    rintro e w3 ⟨rfl, hb⟩
    have H := Lib.hid (H.out.step hb)
    clear hb
    go_wp2_with fail
    refine (implForwardsValid A1 l _ c1 rfl Hc.out _ (by omega) Hs.out ((H.out.own 0 rfl).rd fwEnc_len)).mono ?_
    rw [Hok.out]
    rintro e w4 ⟨rfl, hb⟩
    have H := Lib.hid (H.out.step hb)
    clear hb
    go_wp2_with fail
    refine (drawParseForwardsC A' bs' _ _ rfl hlc' _ (by omega) (Hr'.out.below H.out.below)).mono ?_
    rintro e w5 ⟨s, rfl, hs, hb⟩
    have H := Lib.hid ((H.out.step hb).drop 0)
    clear hb
    obtain ⟨m, ok, Hm, hm, Hy⟩ := K2 s hs
    go_wp2_with fail
    refine (implParseForwards s (by omega) _).mono ?_
    rw [Hm.out]
    rintro e w6 ⟨A6, n6, c6, rfl, ho, hb⟩
    have H := Lib.hid (H.out.addOwn hb ho)
    have hl6 := ho.len
    subst hl6
    clear ho hb
    go_wp2_with fail
    refine (specParseForwards s (by omega) _).mono ?_
    rw [Hm.out]
    rintro e w7 ⟨A7, n7, c7, rfl, ho, hb⟩
    have H := Lib.hid (H.out.addOwn hb ho)
    have hl7 := ho.len
    subst hl7
    clear ho hb
    go_wp2_with fail
    refine (soFwEq A6 A7 m _ _ c6 c7 rfl rfl _ (by omega) ((H.out.own 1 rfl).rd fwEnc_len) ((H.out.own 0 rfl).rd fwEnc_len)).mono ?_
    rintro e w8 ⟨rfl, hb⟩
    have H := Lib.hid (H.out.step hb)
    clear hb
    cases ok
    · go_wp2
      go_ret
      exact ⟨rfl, H.out.below⟩
    · have Hc6 := Lib.hid (H.out.own 1 rfl).cap_le
      have Hf : Hid (fmtOf m = s) := (fmt_parseFw Hm.out).1
      have hss : (ByteArray.toList s == ByteArray.toList s) = true := by simp
      go_wp2_with fail
      refine (implFormat A6 m _ c6 rfl Hc6.out _ (by omega) Hy.out ((H.out.own 1 rfl).rd fwEnc_len)).mono ?_
      rw [Hf.out]
      rintro e w9 ⟨rfl, hb⟩
      have H := Lib.hid (H.out.step hb)
      clear hb
      go_wp2
      go_ret
      exact ⟨rfl, H.out.below⟩
  · have hTz : 1 ≤ T.size ∧ T.size ≤ 1048576 := by
      rw [← hT]
      exact fmtOf_bd2 hok
    have hne : ¬ T = (⟨#[]⟩ : Str) := by
      rintro rfl
      have := hTz.1
      cases this
    have hq2 := str_f hne
    have hq : (ByteArray.toList T).isEmpty = false := by simpa using hq2
    have Hok := Lib.hid hok
    have KP : Hid (∀ W, Calls Tryd.prog 30 #[.string T] W fun e w' => ∃ A n c, e = .returned (.tuple #[.slice A n c, .bool true]) ∧ Own w' W.heap.size 79 2 fwEnc (.slice A n c) l ∧ Below W.heap.size W w') := fun W => by
      have h1 := parse_fmtFw hok
      rw [hT] at h1
      have := implParseForwards T hTz.2 W
      rw [h1] at this
      exact this
    clear hT hok hne
    go_wp2_with fail
    refine (implFormat A1 l _ c1 rfl Hc.out _ (by omega) Hs.out ((H.out.own 0 rfl).rd fwEnc_len)).mono ?_
    rw [HTT.out]
    rintro e w2 ⟨rfl, hb⟩
    have H := Lib.hid (H.out.step hb)
    clear hb
    go_wp2_with fail
    refine (specFormat A1 l _ c1 rfl _ (by omega) Hs.out ((H.out.own 0 rfl).rd fwEnc_len)).mono ?_
    rw [HTT.out]
    rintro e w3 ⟨rfl, hb⟩
    have H := Lib.hid (H.out.step hb)
    clear hb
    go_wp2_with fail
    refine (implForwardsValid A1 l _ c1 rfl Hc.out _ (by omega) Hs.out ((H.out.own 0 rfl).rd fwEnc_len)).mono ?_
    rw [Hok.out]
    rintro e w4 ⟨rfl, hb⟩
    have H := Lib.hid (H.out.step hb)
    clear hb
    go_wp2_with fail
    refine (KP.out _).mono ?_
    rintro e w4 ⟨A4, n4, c4, rfl, ho, hb⟩
    have H := Lib.hid (H.out.addOwn hb ho)
    have hl4 := ho.len
    subst hl4
    clear ho hb
    go_wp2_with fail
    refine (soFwEq A4 A1 l _ _ c4 c1 rfl rfl _ (by omega) ((H.out.own 0 rfl).rd fwEnc_len) ((H.out.own 1 rfl).rd fwEnc_len)).mono ?_
    rintro e w5 ⟨rfl, hb⟩
    have H := Lib.hid ((H.out.step hb).drop 0)
    clear hb
    go_wp2_with fail
    refine (drawParseForwardsC A' bs' _ _ rfl hlc' _ (by omega) (Hr'.out.below H.out.below)).mono ?_
    rintro e w5 ⟨s, rfl, hs, hb⟩
    have H := Lib.hid ((H.out.step hb).drop 0)
    clear hb
    obtain ⟨m, ok, Hm, hm, Hy⟩ := K2 s hs
    go_wp2_with fail
    refine (implParseForwards s (by omega) _).mono ?_
    rw [Hm.out]
    rintro e w6 ⟨A6, n6, c6, rfl, ho, hb⟩
    have H := Lib.hid (H.out.addOwn hb ho)
    have hl6 := ho.len
    subst hl6
    clear ho hb
    go_wp2_with fail
    refine (specParseForwards s (by omega) _).mono ?_
    rw [Hm.out]
    rintro e w7 ⟨A7, n7, c7, rfl, ho, hb⟩
    have H := Lib.hid (H.out.addOwn hb ho)
    have hl7 := ho.len
    subst hl7
    clear ho hb
    go_wp2_with fail
    refine (soFwEq A6 A7 m _ _ c6 c7 rfl rfl _ (by omega) ((H.out.own 1 rfl).rd fwEnc_len) ((H.out.own 0 rfl).rd fwEnc_len)).mono ?_
    rintro e w8 ⟨rfl, hb⟩
    have H := Lib.hid (H.out.step hb)
    clear hb
    cases ok
    · go_wp2
      go_ret
      exact ⟨rfl, H.out.below⟩
    · have Hc6 := Lib.hid (H.out.own 1 rfl).cap_le
      have Hf : Hid (fmtOf m = s) := (fmt_parseFw Hm.out).1
      have hss : (ByteArray.toList s == ByteArray.toList s) = true := by simp
      go_wp2_with fail
      refine (implFormat A6 m _ c6 rfl Hc6.out _ (by omega) Hy.out ((H.out.own 1 rfl).rd fwEnc_len)).mono ?_
      rw [Hf.out]
      rintro e w9 ⟨rfl, hb⟩
      have H := Lib.hid (H.out.step hb)
      clear hb
      go_wp2
      go_ret
      exact ⟨rfl, H.out.below⟩
end Go.Proofs.YtjibjoapbjojlaaDoor
