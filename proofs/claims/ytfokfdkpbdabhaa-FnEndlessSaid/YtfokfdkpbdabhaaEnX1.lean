/-
  The law on endless codes.
-/
import Derived.Test.YtfokfdkpbdabhaaEn3
namespace Go.Proofs.Ytfokfdkpbdabhaa
open Go.RowKit

theorem qt_eq {P : Program} {f : FuncId} {args : Array Value} {w : World} {n : Nat} {v : Value}
    (h : Calls P f args (w.drewN n) fun e w' => e = .returned v ∧ w.drewN n = w') : Calls P f args (w.drewN n) fun e w'' => e = .returned v ∧ ∃ m, w'' = w.drewN m :=
  h.mono fun _ _ ⟨he, hm⟩ => ⟨he, n, hm.symm⟩

set_option maxHeartbeats 8000000 in
set_option maxRecDepth 100000 in
theorem walkFnEndless (A : Option Addr) (bs : List UInt8) (c : Nat) (w : World) (h : ByIn w A bs c) :
    Calls Try.prog 13 #[.slice A bs.length c] w fun e w' => e = .returned (.bool true) ∧ Below w.heap.size w w' := by
  obtain ⟨hlc, hcm, hr⟩ := h
  have Hr := Lib.hid hr
  unfold maxLen at hcm
  clear hr
  by_cases hlen : ¬ (bs.length : Int) ≤ 1048576
  · go_enter Try.func13, Try.ntmps13
    go_wp2
    go_ret
    exact ⟨rfl, Below.refl _ _⟩
  have hlen := Decidable.not_not.1 hlen
  go_enter Try.func13, Try.ntmps13
  go_wp2_with fail
  refine (drawEndlessC A bs _ _ rfl hlc _ (by omega) Hr.out).mono ?_
  rintro e w1 ⟨A1, n, c1, l, rfl, ho, hb⟩
  have HO := Lib.hid ho
  have HB := Lib.hid hb
  have hn := ho.len
  have hcap := ho.own.cap_le
  have Hnl := Lib.hid ho.own.len
  clear ho hb
  obtain ⟨E, hE⟩ : ∃ E, endlessOf l = E := ⟨_, rfl⟩
  have HE := Lib.hid hE
  have hEl : E.length ≤ n := by
    have h1 := endRaw_len l l
    have h2 := Hnl.out
    rw [← hE]
    unfold endlessOf
    split
    · rw [sortS_len]; omega
    · exact Nat.zero_le _
  clear hE
  go_wp2_with fail
  refine (implEndless A1 l n c1 Hnl.out hcap _ (by omega) HO.out.small (HO.out.own.rd fwEnc_len)).mono ?_
  rw [HE.out]
  rintro e w2 ⟨A2, m, c2, rfl, hx, hb⟩
  have HO := Lib.hid (HO.out.below hb)
  have HB := Lib.hid (below_step HB.out hb)
  have HX := Lib.hid hx
  have Hm := Lib.hid hx.len
  have hmn : m ≤ n := by rw [hx.len]; exact hEl
  clear hx hb hEl
  go_wp2_with fail
  refine (specEndless A1 l n c1 Hnl.out _ (by omega) HO.out.small (HO.out.own.rd fwEnc_len)).mono ?_
  rw [HE.out]
  rintro e w3 ⟨A3, m3, c3, rfl, hx, hb⟩
  obtain rfl : m3 = m := hx.len.trans Hm.out.symm
  have HO := Lib.hid (HO.out.below hb)
  have HB := Lib.hid (below_step HB.out hb)
  have HX := Lib.hid (HX.out.below hb)
  have HY := Lib.hid hx
  clear hx hb
  go_wp2_with fail
  refine (soTextsSame A2 A3 E m3 c2 c3 Hm.out _ (by omega) (HX.out.rd strEnc_len) (HY.out.rd strEnc_len)).mono ?_
  rintro e w4 ⟨rfl, hb⟩
  have HO := Lib.hid (HO.out.below hb)
  have HB := Lib.hid (below_step HB.out hb)
  have HX := Lib.hid (HX.out.below hb)
  clear hb HY
  cases hv : fwsOk l
  · have Hv := Lib.hid hv
    have hm0 : m3 = 0 := by
      have := Hm.out
      rw [← HE.out] at this
      unfold endlessOf at this
      rw [hv] at this
      exact this
    subst hm0
    clear hv
    go_wp2_with fail
    refine (implForwardsValid A1 l n c1 Hnl.out hcap _ (by omega) HO.out.small (HO.out.own.rd fwEnc_len)).mono ?_
    rw [Hv.out]
    rintro e w5 ⟨rfl, hb⟩
    have HO := Lib.hid (HO.out.below hb)
    have HB := Lib.hid (below_step HB.out hb)
    have HX := Lib.hid (HX.out.below hb)
    clear hb
    go_wp2_with fail
    refine (specEndless A1 l n c1 Hnl.out _ (by omega) HO.out.small (HO.out.own.rd fwEnc_len)).mono ?_
    rw [HE.out]
    rintro e w6 ⟨A6, m6, c6, rfl, hx, hb⟩
    obtain rfl : m6 = 0 := hx.len.trans Hm.out.symm
    have HO := Lib.hid (HO.out.below hb)
    have HB := Lib.hid (below_step HB.out hb)
    have HX := Lib.hid (HX.out.below hb)
    have HY := Lib.hid hx
    clear hx hb
    go_wp2_with fail
    refine (soTextsSame A2 A6 E 0 c2 c6 Hm.out _ (by omega) (HX.out.rd strEnc_len) (HY.out.rd strEnc_len)).mono ?_
    rintro e w7 ⟨rfl, hb⟩
    have HO := Lib.hid (HO.out.below hb)
    have HB := Lib.hid (below_step HB.out hb)
    clear hb HY HX
    go_wp2_with fail
    refine (implForwardsValid A1 l n c1 Hnl.out hcap _ (by omega) HO.out.small (HO.out.own.rd fwEnc_len)).mono ?_
    rw [Hv.out]
    rintro e w8 ⟨rfl, hb⟩
    have HB := Lib.hid (below_step HB.out hb)
    clear hb
    go_wp2
    go_ret
    exact ⟨rfl, HB.out⟩
  · have Hv := Lib.hid hv
    have HE2 : Hid (E = sortS (endRaw l l)) := by show _ = _; rw [← HE.out]; unfold endlessOf; rw [hv]; rfl
    clear hv
    go_wp2_with fail
    refine (implForwardsValid A1 l n c1 Hnl.out hcap _ (by omega) HO.out.small (HO.out.own.rd fwEnc_len)).mono ?_
    rw [Hv.out]
    rintro e w5 ⟨rfl, hb⟩
    have HO := Lib.hid (HO.out.below hb)
    have HB := Lib.hid (below_step HB.out hb)
    have HX := Lib.hid (HX.out.below hb)
    clear hb
    go_wp2
    go_loopw [5] (fun i wr => ∃ j : Nat, j ≤ n ∧ i = .int .i64 j ∧ Hid (Below w.heap.size w wr) ∧ Hid (Below w5.heap.size w5 wr)) (fun i _ => n - (intOf i).toNat)
    case atStart => exact ⟨0, Nat.zero_le _, rfl, HB.out, Below.refl _ _⟩
    case round =>
      obtain ⟨j, hj, rfl, HB, HC⟩ := hrel
      by_cases hlt : j < n
      · obtain ⟨x, hx⟩ : ∃ x, l[j]? = some x := ⟨_, List.getElem?_eq_getElem (by have := Hnl.out; omega)⟩
        obtain ⟨ad, rfl, hab, d0, d1⟩ := ((HO.out.own.rd fwEnc_len).below HC.out).two hx rfl
        have hsx := HO.out.small x (List.mem_of_getElem? hx)
        have hpair := end_pair Hv.out HO.out.small hx
        rw [← HE2.out] at hpair
        have Hx := Lib.hid hx
        clear hx
        rcases hpair with ⟨hr0, h1, h2⟩ | ⟨t, q, hr0, h1, h2⟩
        · have Hr0 := Lib.hid hr0
          have K1 := Lib.hid h1
          have K2 := Lib.hid h2
          clear hr0 h1 h2
          go_wp2_with fail
          refine (implResolveCode (some ad) l n c1 Hnl.out hcap x.1 _ (by omega) hsx.1 HO.out.small ((HO.out.own.rd fwEnc_len).below HC.out)).mono ?_
          rw [Hr0.out, show resVal none = .tuple #[.string ByteArray.empty, .int .i64 0, .bool false] from rfl]
          rintro e w6 ⟨rfl, hb⟩
          have HB := Lib.hid (below_step HB.out hb)
          have HC := Lib.hid (below_step HC.out hb)
          clear hb
          obtain ⟨ad', e', hab', f0, f1⟩ := ((HO.out.own.rd fwEnc_len).below HC.out).two Hx.out rfl
          injection e' with e'
          subst e'
          have KA : Hid (∀ nq, Calls Try.prog 43 #[.slice A2 m3 c2, .string x.1] (w6.drewN nq) fun e w' => e = .returned (.bool true) ∧ w6.drewN nq = w') := fun nq => by
            rw [← K1.out]; exact soHasC A2 E m3 c2 x.1 Hm.out _ (by omega) (((HX.out.rd strEnc_len).below HC.out).drewN nq)
          have KB : Hid (∀ nq, Calls Try.prog 43 #[.slice A2 m3 c2, .string x.2] (w6.drewN nq) fun e w' => e = .returned (.bool true) ∧ w6.drewN nq = w') := fun nq => by
            rw [← K2.out]; exact soHasC A2 E m3 c2 x.2 Hm.out _ (by omega) (((HX.out.rd strEnc_len).below HC.out).drewN nq)
          have hjn : (j : Int) < (n : Int) := by omega
          go_wp2_with fail
          go_quiet ((go_at_call 43; first | with_reducible exact qt_eq (KA.out _) | with_reducible exact qt_eq (KB.out _)))
          go_wp2
          go_roundw
          case rel => exact ⟨j + 1, by omega, by go_num, below_drewN HB.out _, below_drewN HC.out _⟩
          case measure => simp [intOf]; omega
        · have Hr0 := Lib.hid hr0
          have K1 := Lib.hid h1
          have K2 := Lib.hid h2
          clear hr0 h1 h2
          go_wp2_with fail
          refine (implResolveCode (some ad) l n c1 Hnl.out hcap x.1 _ (by omega) hsx.1 HO.out.small ((HO.out.own.rd fwEnc_len).below HC.out)).mono ?_
          rw [Hr0.out, show resVal (some (t, q)) = .tuple #[.string t, .int .i64 q, .bool true] from rfl]
          rintro e w6 ⟨rfl, hb⟩
          have HB := Lib.hid (below_step HB.out hb)
          have HC := Lib.hid (below_step HC.out hb)
          clear hb
          obtain ⟨ad', e', hab', f0, f1⟩ := ((HO.out.own.rd fwEnc_len).below HC.out).two Hx.out rfl
          injection e' with e'
          subst e'
          have KA : Hid (∀ nq, Calls Try.prog 43 #[.slice A2 m3 c2, .string x.1] (w6.drewN nq) fun e w' => e = .returned (.bool false) ∧ w6.drewN nq = w') := fun nq => by
            rw [← K1.out]; exact soHasC A2 E m3 c2 x.1 Hm.out _ (by omega) (((HX.out.rd strEnc_len).below HC.out).drewN nq)
          have KB : Hid (∀ nq, Calls Try.prog 43 #[.slice A2 m3 c2, .string x.2] (w6.drewN nq) fun e w' => e = .returned (.bool false) ∧ w6.drewN nq = w') := fun nq => by
            rw [← K2.out]; exact soHasC A2 E m3 c2 x.2 Hm.out _ (by omega) (((HX.out.rd strEnc_len).below HC.out).drewN nq)
          have hjn : (j : Int) < (n : Int) := by omega
          go_wp2_with fail
          go_quiet ((go_at_call 43; first | with_reducible exact qt_eq (KA.out _) | with_reducible exact qt_eq (KB.out _)))
          go_wp2
          go_roundw
          case rel => exact ⟨j + 1, by omega, by go_num, below_drewN HB.out _, below_drewN HC.out _⟩
          case measure => simp [intOf]; omega
      · obtain rfl : j = n := by omega
        have HO := Lib.hid (HO.out.below HC.out)
        have HX := Lib.hid (HX.out.below HC.out)
        clear HC
        go_wp2
        go_loopw [9] (fun i wq => ∃ k : Nat, k ≤ m3 ∧ i = .int .i64 k ∧ Hid (Below w.heap.size w wq) ∧ Hid (Below wr.heap.size wr wq)) (fun i _ => m3 - (intOf i).toNat)
        case atStart => exact ⟨0, Nat.zero_le _, rfl, HB.out, Below.refl _ _⟩
        case round =>
          clear HB
          obtain ⟨k, hk, rfl, HB, HC⟩ := hrel
          by_cases hlt2 : k < m3
          · obtain ⟨s, hs⟩ : ∃ s, E[k]? = some s := ⟨_, List.getElem?_eq_getElem (by have := Hm.out; omega)⟩
            obtain ⟨ad, rfl, hab, d0⟩ := ((HX.out.rd strEnc_len).below HC.out).one hs rfl
            obtain ⟨d, hd⟩ := end_next Hv.out (s := s) (by rw [← HE2.out]; exact List.mem_of_getElem? hs)
            have Hd := Lib.hid hd
            have Hs := Lib.hid hs
            clear hd hs
            go_wp2_with fail
            refine (implNextCode A1 l j c1 Hnl.out hcap s _ (by omega) HO.out.small ((HO.out.own.rd fwEnc_len).below HC.out)).mono ?_
            rw [Hd.out, show nextVal (some d) = .tuple #[.string d, .bool true] from rfl]
            rintro e w6 ⟨rfl, hb⟩
            have HB := Lib.hid (below_step HB.out hb)
            have HC := Lib.hid (below_step HC.out hb)
            clear hb
            by_cases hk0 : k = 0
            · subst hk0
              go_wp2_with fail
              go_quiet (fail)
              go_wp2
              go_roundw
              case rel => exact ⟨1, by omega, by go_num, below_drewN HB.out _, below_drewN HC.out _⟩
              case measure => simp [intOf]; omega
            · obtain ⟨r, hr⟩ : ∃ r, E[k - 1]? = some r := ⟨_, List.getElem?_eq_getElem (by have := Hm.out; omega)⟩
              obtain ⟨hq1, hq2⟩ := end_order Hv.out (i := k - 1) (a := r) (b := s) (by rw [← HE2.out]; exact hr) (by rw [← HE2.out, Nat.sub_add_cancel (by omega)]; exact Hs.out)
              obtain ⟨ad', e', hab', f0⟩ := ((HX.out.rd strEnc_len).below HC.out).one Hs.out rfl
              injection e' with e'
              subst e'
              obtain ⟨ad', e', hab'', f1⟩ := ((HX.out.rd strEnc_len).below HC.out).one hr rfl
              injection e' with e'
              subst e'
              have b0 : 0 < k := by omega
              have b0' : (0 : Int) < (k : Int) := by omega
              have b1 : (k : Int) < (m3 : Int) := by omega
              have b2 : 0 ≤ (k : Int) - 1 := by omega
              have b3 : (k : Int) - 1 < (m3 : Int) := by omega
              have e1 : ((k : Int) - 1).toNat = k - 1 := by omega
              clear hr
              go_wp2_with fail
              go_quiet (fail)
              go_wp2
              go_roundw
              case rel => exact ⟨k + 1, by omega, by go_num, below_drewN HB.out _, below_drewN HC.out _⟩
              case measure => simp [intOf]; omega
          · obtain rfl : k = m3 := by omega
            go_wp2
            go_ret
            exact ⟨rfl, HB.out⟩
end Go.Proofs.Ytfokfdkpbdabhaa
