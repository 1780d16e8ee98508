/-
  The law on the longest chain.
-/
import Derived.Test.YtfokfdkpbdabhaaDfP
namespace Go.Proofs.Ytfokfdkpbdabhaa
open Go.RowKit

theorem chainAt_long (l : List Fw) : ∀ (k i : Nat), i < k → chainAt l i ≤ longTo l k
  | 0, i, h => absurd h (by omega)
  | k + 1, i, h => by
    simp only [longTo]
    by_cases e : i = k
    · subst e; omega
    · have := chainAt_long l k i (by omega); omega
theorem longTo_hit (l : List Fw) : ∀ k : Nat, longTo l k ≠ 0 → ∃ i, i < k ∧ chainAt l i = longTo l k
  | 0, h => absurd rfl h
  | k + 1, h => by
    simp only [longTo] at h ⊢
    by_cases e : chainAt l k ≤ longTo l k
    · rw [Nat.max_eq_left e] at h ⊢
      obtain ⟨i, hi, he⟩ := longTo_hit l k h
      exact ⟨i, by omega, he⟩
    · exact ⟨k, by omega, by omega⟩

set_option maxHeartbeats 1000000 in
set_option maxRecDepth 100000 in
theorem drawChainC (A : Option Addr) (bs : List UInt8) (n cap : Nat) (hn : n = bs.length) (hc : n ≤ cap) (w : World) (hlen : n ≤ 1048576) (hr : Rd w 1 byEnc A bs) :
    Calls Try.prog 32 #[.slice A n cap] w fun e w' => ∃ A' n' c' l, e = .returned (.slice A' n' c') ∧ FwOut w w' A' n' c' l ∧ Below w.heap.size w w' := by
  have Hn := Lib.hid hn
  have Hr := Lib.hid hr
  clear hn hr
  go_enter Try.func32, Try.ntmps32
  go_wp2_with fail
  refine (openC A bs n cap Hn.out hc _ hlen Hr.out).mono ?_
  rintro e w1 ⟨rfl, hr1, hb1⟩
  have hz1 := hb1.size
  have H1 := Lib.hid hb1
  go_wp2_with fail
  refine (openFwC _ _ 0 _ hr1 (by omega)).mono ?_
  rintro e w2 ⟨A2, n2, c2, l2, rfl, ho, ⟨p2, hp2, hr2⟩, hg2⟩
  have O2 := Lib.hid ho
  have B2 := Lib.hid (grown_below_g H1.out hg2 (Nat.le_refl _))
  clear hr1 hb1 ho hr2 hg2
  go_wp2
  go_ret
  exact ⟨A2, n2, c2, l2, rfl, ⟨O2.out.own.lower hz1, O2.out.len, O2.out.small⟩, B2.out⟩

set_option maxHeartbeats 4000000 in
set_option maxRecDepth 100000 in
theorem walkFnChain (A : Option Addr) (bs : List UInt8) (c : Nat) (w : World) (h : ByIn w A bs c) :
    Calls Try.prog 9 #[.slice A bs.length c] w fun e w' => e = .returned (.bool true) ∧ Below w.heap.size w w' := by
  obtain ⟨hlc, hcm, hr⟩ := h
  have Hr := Lib.hid hr
  unfold maxLen at hcm
  clear hr
  by_cases hlen : ¬ (bs.length : Int) ≤ 1048576
  · go_enter Try.func9, Try.ntmps9
    go_wp2
    go_ret
    exact ⟨rfl, Below.refl _ _⟩
  have hlen := Decidable.not_not.1 hlen
  go_enter Try.func9, Try.ntmps9
  go_wp2_with fail
  refine (drawChainC A bs _ _ rfl hlc _ (by omega) Hr.out).mono ?_
  rintro e w1 ⟨A1, n, c1, l, rfl, ho, hb⟩
  have HO := Lib.hid ho
  have HB := Lib.hid hb
  have hn := ho.len
  have hcap := ho.own.cap_le
  have Hnl := Lib.hid ho.own.len
  clear ho hb
  cases hv : fwsOk l
  · have Hx : Hid (chainOf l = -1) := by show chainOf l = _; unfold chainOf; rw [hv]; rfl
    clear hv
    go_wp2_with fail
    refine (implLongestChain A1 l n c1 Hnl.out hcap _ (by omega) HO.out.small (HO.out.own.rd fwEnc_len)).mono ?_
    rw [Hx.out]
    rintro e w2 ⟨rfl, hb⟩
    have HO := Lib.hid (HO.out.below hb)
    have HB := Lib.hid (below_step HB.out hb)
    clear hb
    go_wp2_with fail
    refine (specLongestChain A1 l n c1 Hnl.out _ (by omega) HO.out.small (HO.out.own.rd fwEnc_len)).mono ?_
    rw [Hx.out]
    rintro e w3 ⟨rfl, rfl⟩
    go_wp2_with fail
    refine (specLongestChain A1 l n c1 Hnl.out _ (by omega) HO.out.small (HO.out.own.rd fwEnc_len)).mono ?_
    rw [Hx.out]
    rintro e w3 ⟨rfl, rfl⟩
    go_wp2
    go_ret
    exact ⟨rfl, HB.out⟩
  · have Hv := Lib.hid hv
    obtain ⟨N, hN⟩ : ∃ N, longTo l l.length = N := ⟨_, rfl⟩
    have Hx : Hid (chainOf l = (N : Int)) := by show chainOf l = _; unfold chainOf; rw [hv, if_pos rfl, hN]
    have hNn : N ≤ n := by have := longTo_le l l.length; have := Hnl.out; omega
    have Hup : Hid (∀ i, i < n → chainAt l i ≤ N) := fun i hi => by rw [← hN]; exact chainAt_long l _ i (by have := Hnl.out; omega)
    have Hhit : Hid (N ≠ 0 → ∃ i, i < n ∧ chainAt l i = N) := fun h => by
      rw [← hN] at h ⊢
      obtain ⟨i, hi, he⟩ := longTo_hit l _ h
      exact ⟨i, by have := Hnl.out; omega, he⟩
    have hNN : ((N : Int) != (N : Int)) = false := by simp
    clear hv hN
    go_wp2_with fail
    refine (implLongestChain A1 l n c1 Hnl.out hcap _ (by omega) HO.out.small (HO.out.own.rd fwEnc_len)).mono ?_
    rw [Hx.out]
    rintro e w2 ⟨rfl, hb⟩
    have HO := Lib.hid (HO.out.below hb)
    have HB := Lib.hid (below_step HB.out hb)
    clear hb
    go_wp2_with fail
    refine (specLongestChain A1 l n c1 Hnl.out _ (by omega) HO.out.small (HO.out.own.rd fwEnc_len)).mono ?_
    rw [Hx.out]
    rintro e w3 ⟨rfl, rfl⟩
    have hN0 : ((N : Int) == 0) = decide (N = 0) := by by_cases h : N = 0 <;> simp [h]
    obtain ⟨g0, hg0⟩ : ∃ g, decide (N = 0) = g := ⟨_, rfl⟩
    have G0 : Hid (g0 = false → N ≠ 0) := fun h => by rw [← hg0] at h; exact of_decide_eq_false h
    rw [hg0] at hN0
    clear hg0
    go_wp2_with fail
    go_loopw [5, 6, 7, 8, 9] (fun t i _ _ _ wr => ∃ j : Nat, j ≤ n ∧ i = .int .i64 j ∧ (∃ g : Bool, t = .bool g ∧ Hid (g = false → N ≠ 0 ∧ ∀ i, i < j → chainAt l i ≠ N)) ∧ Hid (FwOut w wr A1 n c1 l) ∧ Hid (Below w.heap.size w wr)) (fun _ i _ _ _ _ => n - (intOf i).toNat)
    case atStart => exact ⟨0, Nat.zero_le _, rfl, ⟨_, rfl, fun h => ⟨G0.out h, fun i hi => absurd hi (by omega)⟩⟩, HO.out, HB.out⟩
    case round =>
      clear HO HB
      obtain ⟨j, hj, rfl, ⟨g, rfl, G⟩, HO, HB⟩ := hrel
      by_cases hlt : j < n
      · obtain ⟨x, hx⟩ : ∃ x, l[j]? = some x := ⟨_, List.getElem?_eq_getElem (by have := Hnl.out; omega)⟩
        obtain ⟨ad, rfl, hab, d0, d1⟩ := (HO.out.own.rd fwEnc_len).two hx rfl
        have hsx := HO.out.small x (List.mem_of_getElem? hx)
        have hok := ((fwsOk_iff l).1 Hv.out).2 j (List.getElem?_eq_some_iff.1 hx).1
        rw [fwOkAt_eq hx, Bool.and_eq_true, Bool.and_eq_true] at hok
        obtain ⟨s, b, hres, hb0⟩ := follow_form hx
        have hup := Hup.out j hlt
        have Hres : Hid (resVal (resolveOf l x.1) = .tuple #[.string s, .int .i64 (chainAt l j : Nat), .bool b]) := by
          show _ = _
          rw [← hres]; unfold resolveOf; rw [Hv.out, hok.1.1]; rfl
        obtain ⟨m, hm⟩ : ∃ m, chainAt l j = m := ⟨_, rfl⟩
        rw [hm] at Hres hup hb0
        have Hm := Lib.hid hm
        have Hb0 := Lib.hid hb0
        have hmN : ((m : Int) == (N : Int)) = decide (m = N) := by
          by_cases h : m = N
          · simp [h]
          · have h2 : ¬ (m : Int) = (N : Int) := by omega
            simp [h, h2]
        clear hx hok hres hm hb0
        cases g
        · have G1 := Lib.hid (G.out rfl)
          clear G
          cases b
          · have B1 := Lib.hid (Hb0.out rfl)
            clear Hb0
            go_wp2_with fail
            refine (implResolveCode (some ad) l n c1 Hnl.out hcap x.1 _ (by omega) hsx.1 HO.out.small (HO.out.own.rd fwEnc_len)).mono ?_
            rw [Hres.out]
            rintro e w5 ⟨rfl, hb⟩
            have HO := Lib.hid (HO.out.below hb)
            have HB := Lib.hid (below_step HB.out hb)
            clear hb
            go_wp2
            go_roundw
            case rel => exact ⟨j + 1, by omega, by go_num, ⟨_, rfl, fun _ => ⟨G1.out.1, fun i hi => if e : i = j then by subst e; rw [Hm.out, B1.out]; exact fun h => G1.out.1 h.symm else G1.out.2 i (by omega)⟩⟩, HO.out, HB.out⟩
            case measure => simp [intOf]; omega
          · obtain ⟨v, hv⟩ : ∃ v, decide (m = N) = v := ⟨_, rfl⟩
            rw [hv] at hmN
            have Hvv : Hid (v = false → m ≠ N) := fun h => by rw [← hv] at h; exact of_decide_eq_false h
            clear hv
            go_wp2_with fail
            refine (implResolveCode (some ad) l n c1 Hnl.out hcap x.1 _ (by omega) hsx.1 HO.out.small (HO.out.own.rd fwEnc_len)).mono ?_
            rw [Hres.out]
            rintro e w5 ⟨rfl, hb⟩
            have HO := Lib.hid (HO.out.below hb)
            have HB := Lib.hid (below_step HB.out hb)
            clear hb
            go_wp2
            go_roundw
            case rel => exact ⟨j + 1, by omega, by go_num, ⟨v, by first | rfl | simp, fun h => ⟨G1.out.1, fun i hi => if e : i = j then by subst e; rw [Hm.out]; exact Hvv.out h else G1.out.2 i (by omega)⟩⟩, HO.out, HB.out⟩
            case measure => simp [intOf]; omega
        · go_wp2_with fail
          refine (implResolveCode (some ad) l n c1 Hnl.out hcap x.1 _ (by omega) hsx.1 HO.out.small (HO.out.own.rd fwEnc_len)).mono ?_
          rw [Hres.out]
          rintro e w5 ⟨rfl, hb⟩
          have HO := Lib.hid (HO.out.below hb)
          have HB := Lib.hid (below_step HB.out hb)
          clear hb
          cases b
          · go_wp2
            go_roundw
            case rel => exact ⟨j + 1, by omega, by go_num, ⟨true, rfl, fun h => by cases h⟩, HO.out, HB.out⟩
            case measure => simp [intOf]; omega
          · go_wp2
            go_roundw
            case rel => exact ⟨j + 1, by omega, by go_num, ⟨true, rfl, fun h => by cases h⟩, HO.out, HB.out⟩
            case measure => simp [intOf]; omega
      · obtain rfl : j = n := by omega
        cases g
        · exfalso
          obtain ⟨h1, h2⟩ := G.out rfl
          obtain ⟨i, hi, he⟩ := Hhit.out h1
          exact h2 i hi he
        · go_wp2
          go_ret
          exact ⟨rfl, HB.out⟩
end Go.Proofs.Ytfokfdkpbdabhaa
