/-
  The law on passes for the digits that vary.
-/
import Derived.Test.YtjibjoapbjojlaaSs3
import Derived.Test.YtjibjoapbjojlaaSb
import Derived.Test.YtjibjoapbjojlaaDs6
namespace Go.Proofs.Ytjibjoapbjojlaa
open Go.RowKit

set_option maxHeartbeats 1000000 in
set_option maxRecDepth 100000 in
theorem soBatchEq (A B : Option Addr) (l : List Lt) (n c d : Nat) (hl : n = l.length) (w : World) (hn : n ≤ 16777216) (h : Rd w 2 ltEnc A l) (h2 : Rd w 2 ltEnc B l) :
    Calls Try.prog 9 #[.slice A n c, .slice B n d] w fun e w' => e = .returned (.bool true) ∧ Below w.heap.size w w' := by
  have Hl := Lib.hid hl
  have Hr := Lib.hid h
  have Hs := Lib.hid h2
  clear h h2 hl
  go_enter Try.func9, Try.ntmps9
  go_wp2
  go_loopw [5] (fun i wr => ∃ j : Nat, j ≤ n ∧ i = .int .i64 j ∧ Below w.heap.size w wr) (fun i _ => n - (intOf i).toNat)
  case atStart => exact ⟨0, Nat.zero_le _, rfl, Below.refl _ _⟩
  case round =>
    obtain ⟨j, hj, rfl, hb⟩ := hrel
    by_cases hlt : j < n
    · obtain ⟨x, hx⟩ : ∃ x, l[j]? = some x := ⟨_, List.getElem?_eq_getElem (by have := Hl.out; omega)⟩
      obtain ⟨ad, rfl, hab, c0, c1⟩ := (Hr.out.below hb).two hx rfl
      obtain ⟨bd, rfl, hbb, d0, d1⟩ := (Hs.out.below hb).two hx rfl
      clear hx
      go_wp2
      go_quiet (fail)
      go_wp2
      go_roundw
      case rel => exact ⟨j + 1, by omega, by go_num, below_drewN hb _⟩
      case measure => simp [intOf]; omega
    · obtain rfl : j = n := by omega
      go_wp2
      go_ret
      exact ⟨rfl, hb⟩
theorem own_nilcap {α : Type} {w : World} {base n c : Nat} {e : TypeId} {size : Nat} {enc : α → List Value} {A : Option Addr} {l : List α} (h : Own w base e size enc (.slice A n c) l) : A = none → c = 0 := by
  rintro rfl
  rcases h.2 with ⟨h', _⟩ | ⟨g, cap, cur, h', _⟩
  · injection h'
  · injection h' with h'; cases h'

set_option maxHeartbeats 8000000 in
set_option maxRecDepth 100000 in
theorem walkFnSortShort (A : Option Addr) (bs : List UInt8) (c : Nat) (w : World) (h : ByIn w A bs c) :
    Calls Try.prog 3 #[.slice A bs.length c] w fun e w' => e = .returned (.bool true) ∧ Below w.heap.size w w' := by
  obtain ⟨hlc, hcm, hr⟩ := h
  have Hr := Lib.hid hr
  unfold maxLen at hcm
  clear hr
  by_cases hlen : ¬ (bs.length : Int) ≤ 1048576
  · go_enter Try.func3, Try.ntmps3
    go_wp2
    go_ret
    exact ⟨rfl, Below.refl _ _⟩
  have hlen := Decidable.not_not.1 hlen
  go_enter Try.func3, Try.ntmps3
  go_wp2_with fail
  refine (drawSortShortC A bs _ _ rfl hlc _ (by omega) Hr.out).mono ?_
  rintro e w1 ⟨A1, n1, c1, m, rfl, hn1, hs1, HP⟩
  have H := Lib.hid HP
  have Hs : Hid (∀ x ∈ m, x.2.size ≤ 1048576) := fun x hx => by have := hs1 x hx; omega
  have hln := (H.out.own 0 rfl).len
  subst hln
  have Hc := Lib.hid (H.out.own 0 rfl).cap_le
  have Hnil := Lib.hid (own_nilcap (H.out.own 0 rfl))
  clear HP hs1
  obtain ⟨r, hrr⟩ : ∃ r, shortR m = r := ⟨_, rfl⟩
  obtain ⟨vs, hvs⟩ : ∃ vs, varyR m = vs := ⟨_, rfl⟩
  obtain ⟨ok, hok⟩ : ∃ ok, batchOk m = ok := ⟨_, rfl⟩
  have Hrr := Lib.hid hrr
  have Hvs := Lib.hid hvs
  have Hok := Lib.hid hok
  have hrl : r.length ≤ m.length := by
    rw [← hrr]
    unfold shortR
    split
    · rw [sortLt_len]; exact Nat.le_refl _
    · simp
  have hvl : vs.length ≤ 7 := by
    rw [← hvs]
    unfold varyR
    split
    · exact varyN_len m 7
    · simp
  clear hrr hvs hok
  have hoo : (ok != ok) = false := by simp
  have hoe : (ok == ok) = true := by simp
  go_wp2_with fail
  refine (implShort A1 m _ c1 rfl Hc.out _ (by omega) Hs.out ((H.out.own 0 rfl).rd ltEnc_len)).mono ?_
  rw [Hrr.out, Hok.out]
  rintro e w2 ⟨A2, n2, c2, rfl, ho, hb⟩
  have H := Lib.hid (H.out.addOwn hb ho)
  have hl2 := ho.len
  subst hl2
  clear ho hb
  go_wp2_with fail
  refine (specShort A1 m _ c1 rfl Hnil.out _ (by omega) Hs.out ((H.out.own 1 rfl).rd ltEnc_len)).mono ?_
  rw [Hrr.out, Hok.out]
  rintro e w3 ⟨A3, n3, c3, rfl, ho, hb⟩
  have H := Lib.hid (H.out.addOwn hb ho)
  have hl3 := ho.len
  subst hl3
  clear ho hb
  go_wp2_with fail
  refine (implVarying A1 m _ c1 rfl Hc.out _ (by omega) Hs.out ((H.out.own 2 rfl).rd ltEnc_len)).mono ?_
  rw [Hvs.out]
  rintro e w4 ⟨A4, n4, c4, rfl, ho, hb⟩
  have H := Lib.hid (H.out.addOwn hb ho)
  have hl4 := ho.len
  subst hl4
  clear ho hb
  go_wp2_with fail
  refine (specVarying A1 m _ c1 rfl _ (by omega) Hs.out ((H.out.own 3 rfl).rd ltEnc_len)).mono ?_
  rw [Hvs.out]
  rintro e w5 ⟨A5, n5, c5, rfl, ho, hb⟩
  have H := Lib.hid (H.out.addOwn hb ho)
  have hl5 := ho.len
  subst hl5
  clear ho hb
  go_wp2_with fail
  refine (soBatchEq A2 A3 r _ c2 c3 rfl _ (by omega) ((H.out.own 3 rfl).rd ltEnc_len) ((H.out.own 2 rfl).rd ltEnc_len)).mono ?_
  rintro e w6 ⟨rfl, hb⟩
  have H := Lib.hid ((H.out.step hb).drop 0)
  clear hb
  have hvv : ((vs.length : Int) != (vs.length : Int)) = false := by simp
  cases ok
  · go_wp2_with fail
    refine (soBatchEq A2 A3 r _ c2 c3 rfl _ (by omega) ((H.out.own 2 rfl).rd ltEnc_len) ((H.out.own 1 rfl).rd ltEnc_len)).mono ?_
    rintro e w7 ⟨rfl, hb⟩
    have H := Lib.hid (H.out.step hb)
    clear hb
    have hve : ((vs.length : Int) == (vs.length : Int)) = true := by simp
    go_wp2
    go_ret
    exact ⟨rfl, H.out.below⟩
  · have hm60 := ((batchOk_iff m).1 Hok.out).1
    have hm14 : m.length ≤ 14 := by omega
    have Hcode : Hid (∀ x ∈ m, codeOk x.2 = true) := fun x hx => batch_codes Hok.out hx
    have Hvv : Hid (vs = (vary m).map fun d : Nat => (d : Int)) := by
      show _ = _
      rw [← Hvs.out]; unfold varyR; rw [Hok.out, if_pos rfl]; rfl
    have Hrs : Hid (r = sortLt m) := by
      show _ = _
      rw [← Hrr.out]; unfold shortR; rw [Hok.out, if_pos rfl]
    have hvlen : vs.length = varyTo m 7 := by rw [Hvv.out, List.length_map]; rfl
    have Hvlen := Lib.hid hvlen
    clear hvlen hm60 hvv hoo hoe hn1
    have H : Hid (Pool w w6 [ownP 3 1 inEnc (.slice A4 vs.length c4) vs, ownP 39 2 ltEnc (.slice A2 r.length c2) r, ownP 39 2 ltEnc (.slice A1 m.length c1) m]) := H.out.drop 1
    go_wp2
    go_loopw [10, 11] (fun kv iv wr => ∃ d : Nat, d ≤ 7 ∧ kv = .int .i64 (varyTo m d : Nat) ∧ iv = .int .i64 d ∧ Hid (Pool w wr [ownP 3 1 inEnc (.slice A4 vs.length c4) vs, ownP 39 2 ltEnc (.slice A2 r.length c2) r, ownP 39 2 ltEnc (.slice A1 m.length c1) m])) (fun _ iv _ => 7 - (intOf iv).toNat)
    case atStart => exact ⟨0, Nat.zero_le _, rfl, rfl, H.out⟩
    case round =>
      clear H
      obtain ⟨d, hd, rfl, rfl, H⟩ := hrel
      by_cases hlt : d < 7
      · have hdI : (d : Int) < 7 := by omega
        obtain ⟨kk, hkk⟩ : ∃ kk, varyTo m d = kk := ⟨_, rfl⟩
        have hkl : kk ≤ vs.length := by rw [← hkk, Hvlen.out]; exact varyTo_le m hd
        have hsucc := varyTo_succ m d
        rw [hkk] at hsucc ⊢
        have Hkk := Lib.hid hkk
        have Hsucc := Lib.hid hsucc
        clear hkk hsucc
        go_wp2_with fail
        refine (implPass d hlt A1 m _ c1 rfl Hc.out _ (by omega) Hok.out ((H.out.own 2 rfl).rd ltEnc_len)).mono ?_
        rintro e w7 ⟨A7, n7, c7, rfl, ho, hb⟩
        have H := Lib.hid (H.out.addOwn hb ho)
        have Hl7 := Lib.hid ho.len
        clear ho hb
        cases hvd : varies m d
        · have Hsame : Hid (passD d m = m) := vary_same Hcode.out hlt hvd
          have Hnext : Hid (varyTo m (d + 1) = kk) := by show _ = _; rw [Hsucc.out, hvd]; rfl
          have hn7 : n7 = m.length := by rw [Hl7.out, Hsame.out]
          subst hn7
          rw [Hsame.out] at H
          by_cases hkl2 : kk < vs.length
          · have hkI : (kk : Int) < (vs.length : Int) := by omega
            obtain ⟨e, he⟩ : ∃ e, (vary m)[kk]? = some e := ⟨_, List.getElem?_eq_getElem (by have := Hvv.out; rw [this, List.length_map] at hkl2; exact hkl2)⟩
            have hne : e ≠ d := vary_miss hlt hvd (by rw [Hkk.out]; exact he)
            have hve : vs[kk]? = some (e : Int) := by rw [Hvv.out, List.getElem?_map, he]; rfl
            obtain ⟨ad, rfl, hab, c0⟩ := ((H.out.own 1 rfl).rd inEnc_len).one hve rfl
            have hneI : ((e : Int) == (d : Int)) = false := beq_eq_false_iff_ne.2 (by omega)
            clear hvd he hve hne
            go_wp2_with fail
            refine (soBatchEq A7 A1 m _ c7 c1 rfl _ (by omega) ((H.out.own 0 rfl).rd ltEnc_len) ((H.out.own 3 rfl).rd ltEnc_len)).mono ?_
            rintro e w8 ⟨rfl, hb⟩
            have H := Lib.hid ((H.out.step hb).drop 0)
            clear hb
            go_wp2
            go_roundw
            case rel => exact ⟨d + 1, by omega, by rw [Hnext.out], by go_num, H.out⟩
            case measure => simp [intOf]; omega
          · have hkI : ¬ (kk : Int) < (vs.length : Int) := by omega
            clear hvd
            go_wp2_with fail
            refine (soBatchEq A7 A1 m _ c7 c1 rfl _ (by omega) ((H.out.own 0 rfl).rd ltEnc_len) ((H.out.own 3 rfl).rd ltEnc_len)).mono ?_
            rintro e w8 ⟨rfl, hb⟩
            have H := Lib.hid ((H.out.step hb).drop 0)
            clear hb
            go_wp2
            go_roundw
            case rel => exact ⟨d + 1, by omega, by rw [Hnext.out], by go_num, H.out⟩
            case measure => simp [intOf]; omega
        · have Hnext : Hid (varyTo m (d + 1) = kk + 1) := by show _ = _; rw [Hsucc.out, hvd, if_pos rfl]
          have hhit := vary_hit hlt hvd
          rw [Hkk.out] at hhit
          have hve : vs[kk]? = some (d : Int) := by rw [Hvv.out, List.getElem?_map, hhit]; rfl
          have hkl2 := (List.getElem?_eq_some_iff.1 hve).1
          have hkI : (kk : Int) < (vs.length : Int) := by omega
          obtain ⟨ad, rfl, hab, c0⟩ := ((H.out.own 1 rfl).rd inEnc_len).one hve rfl
          have hneI : ((d : Int) == (d : Int)) = true := by simp
          have H := Lib.hid (H.out.drop 0)
          clear hvd hhit hve
          go_wp2
          go_roundw
          case rel => exact ⟨d + 1, by omega, by rw [Hnext.out]; go_num, by go_num, H.out⟩
          case measure => simp [intOf]; omega
      · obtain rfl : d = 7 := by omega
        rw [← Hvlen.out]
        have hke : ((vs.length : Int) == (vs.length : Int)) = true := by simp
        go_wp2_with fail
        refine (soSortedC A1 m _ c1 rfl Hc.out _ (by omega) Hs.out Hok.out ((H.out.own 2 rfl).rd ltEnc_len)).mono ?_
        rintro e w8 ⟨g8, rfl, ho, hb⟩
        rw [← Hrs.out] at ho
        have H := Lib.hid (H.out.addOwn hb ho)
        have hl8 := ho.len
        clear ho hb
        rw [hl8]
        go_wp2_with fail
        refine (soBatchEq A2 (some ⟨g8, 0, none⟩) r _ c2 _ rfl _ (by omega) ((H.out.own 2 rfl).rd ltEnc_len) ((H.out.own 0 rfl).rd ltEnc_len)).mono ?_
        rintro e w9 ⟨rfl, hb⟩
        have H := Lib.hid (H.out.step hb)
        clear hb hl8
        go_wp2
        go_ret
        exact ⟨rfl, H.out.below⟩
end Go.Proofs.Ytjibjoapbjojlaa
