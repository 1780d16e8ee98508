/-
  The law on the bins of a code in all passes.
-/
import Derived.Test.YtbfmohkjnjmmoaaEbP
namespace Go.Proofs.Ytbfmohkjnjmmoaa
open Go.RowKit

set_option maxHeartbeats 4000000 in
set_option maxRecDepth 100000 in
theorem walkFnRankBins (A : Option Addr) (bs : List UInt8) (c : Nat) (w : World) (h : ByIn w A bs c) :
    Calls Try.prog 3 #[.slice A bs.length c] w fun e w' => e = .returned (.bool true) ∧ Below w.heap.size w w' := by
  obtain ⟨hlc, hcm, hr⟩ := h
  have Hr := Lib.hid hr
  unfold maxLen at hcm
  clear hr
  by_cases hlen : ¬ (bs.length : Int) ≤ 1048576
  · go_enter Try.func3, Try.ntmps3
    go_wp2
    go_ret
    exact ⟨rfl, Below.refl _ _⟩
  have hlen := Decidable.not_not.1 hlen
  go_enter Try.func3, Try.ntmps3
  go_wp2_with fail
  refine (drawRankC A bs _ _ rfl hlc _ (by omega) Hr.out).mono ?_
  rintro e w1 ⟨b, p, A1, n, c1, l, s, rfl, hs, HO⟩
  have hn := HO.out.1
  have HD := Lib.hid HO.out.dr
  have hln := HD.out.len
  subst hln
  have Hz := Lib.hid HD.out.small
  have H : Hid (Pool w (w1.alloc (Obj.cells #[.int .i64 b, .int .i64 p, .slice A1 l.length c1] 25)) [boxP w1.heap.size (.int .i64 b) (.int .i64 p) (.slice A1 l.length c1), ownP 9 1 strEnc (.slice A1 l.length c1) l]) := HO.out.2.2.addBox rfl _ _ _ _
  have hcap := HD.out.cap
  obtain ⟨v, hv⟩ : ∃ v, rankOf b p l s = v := ⟨_, rfl⟩
  have hvc := rank_cases hv
  have Hv := Lib.hid hv
  have hvv : (v != v) = false := by simp
  have hvw : (v == v) = true := by simp
  clear hv HD HO
  obtain ⟨-, c0, c1', c2, cz⟩ := H.out.box 0 rfl
  go_wp2_with fail
  refine (implPlanRank b p A1 l _ _ rfl hcap s _ (by omega) Hz.out ((H.out.own 1 rfl).rd strEnc_len)).mono ?_
  rw [Hv.out]
  rintro e w2 ⟨rfl, hb⟩
  have H := Lib.hid (H.out.step hb)
  clear hb c0 c1' c2 cz
  obtain ⟨-, c0, c1', c2, cz⟩ := H.out.box 0 rfl
  go_wp2_with fail
  refine (specPlanRank b p A1 l _ _ rfl s _ (by omega) Hz.out ((H.out.own 1 rfl).rd strEnc_len)).mono ?_
  rw [Hv.out]
  rintro e w3 ⟨rfl, hb⟩
  have H := Lib.hid (H.out.step hb)
  clear hb c0 c1' c2 cz
  obtain ⟨-, c0, c1', c2, cz⟩ := H.out.box 0 rfl
  rcases hvc with hneg | ⟨k, rfl, hp, hx, hk⟩
  · go_wp2_with fail
    refine (specPlanRank b p A1 l _ _ rfl s _ (by omega) Hz.out ((H.out.own 1 rfl).rd strEnc_len)).mono ?_
    rw [Hv.out]
    rintro e w4 ⟨rfl, hb⟩
    have H := Lib.hid (H.out.step hb)
    clear hb c0 c1' c2 cz
    go_wp2
    go_ret
    exact ⟨rfl, H.out.below⟩
  · obtain ⟨⟨hb1, hb2⟩, ⟨hp1, hp2⟩, -, hcapl, -⟩ := planOk_parts hp
    obtain ⟨E, rfl⟩ : ∃ E : Nat, p = E := ⟨p.toNat, by omega⟩
    rw [Int.toNat_natCast] at hcapl
    have Hp := Lib.hid hp
    have Hx := Lib.hid hx
    have Htop : Hid ((k : Int) / pw b E = 0) := dig_top (by omega) (by omega)
    clear hp hx hcapl
    go_wp2_with fail
    go_loopw [6, 7] (fun i t wr => ∃ (j : Nat) (q m : Int), j ≤ E ∧ q + 1 ≤ j ∧ (j : Int) ≤ q + 1 ∧ i = .int .i64 m ∧ t = .int .i64 q ∧ Hid (m = (k : Int) / pw b j) ∧ 0 ≤ m ∧ m ≤ 60 ∧ Hid (Pool w wr [boxP w1.heap.size (.int .i64 b) (.int .i64 E) (.slice A1 l.length c1), ownP 9 1 strEnc (.slice A1 l.length c1) l])) (fun _ t _ => (intOf t + 1).toNat)
    case atStart => exact ⟨E, _, 0, Nat.le_refl _, by omega, by omega, rfl, rfl, Htop.out.symm, by omega, by omega, H.out⟩
    case round =>
      clear H c0 c1' c2 cz
      obtain ⟨j, q, m, hj, hq1, hq2, rfl, rfl, Hm, hm0, hm1, H⟩ := hrel
      obtain ⟨-, c0, c1', c2, cz⟩ := H.out.box 0 rfl
      by_cases hlt : 0 ≤ q
      · obtain ⟨j, rfl⟩ : ∃ i, j = i + 1 := ⟨j - 1, by omega⟩
        obtain rfl : q = (j : Int) := by omega
        have Hd := Lib.hid (planBin_some Hp.out Hx.out (j := j) (by omega))
        obtain ⟨d, hd⟩ : ∃ d, (k : Int) / pw b j % b = d := ⟨_, rfl⟩
        have hd0 : 0 ≤ d := by rw [← hd]; exact Int.emod_nonneg _ (by omega)
        have hd1 : d < b := by rw [← hd]; exact Int.emod_lt_of_pos _ (by omega)
        have Hst := Lib.hid (dig_step (k := (k : Int)) hb1 hb2 (j := j) (by omega))
        have hbd := dig_bd (k := (k : Int)) hb1 hb2 (by omega) (by omega) (j := j) (by omega)
        rw [hd] at Hd Hst
        rw [← Hm.out] at Hst
        obtain ⟨m', hm'⟩ : ∃ m', (k : Int) / pw b j = m' := ⟨_, rfl⟩
        rw [hm'] at hbd Hst
        have Hm' := Lib.hid hm'
        obtain ⟨mb, hmb⟩ : ∃ mb, m * b = mb := ⟨_, rfl⟩
        rw [hmb] at Hst
        have hmd : mb = m' - d := by have := Hst.out; omega
        subst hmd
        have hw : IntKind.i64.wrap (m * b) = m' - d := by rw [hmb]; exact IntWalk.i64_in _ (by omega)
        have hw2 : wrap64 (m * b) = m' - d := by rw [hmb]; exact IntWalk.wrap64_in _ (by omega)
        have hdd : (d != d) = false := by simp
        clear hd hm' hmb Hst
        go_wp2_with fail
        refine (implPlanBin b E A1 l _ _ rfl hcap s j _ (by omega) Hz.out ((H.out.own 1 rfl).rd strEnc_len)).mono ?_
        rw [Hd.out]
        rintro e w4 ⟨rfl, hb⟩
        have H := Lib.hid (H.out.step hb)
        clear hb c0 c1' c2 cz
        obtain ⟨-, c0, c1', c2, cz⟩ := H.out.box 0 rfl
        go_wp2_with fail
        refine (specPlanBin b E A1 l _ _ rfl s j _ (by omega) Hz.out ((H.out.own 1 rfl).rd strEnc_len)).mono ?_
        rw [Hd.out]
        rintro e w5 ⟨rfl, hb⟩
        have H := Lib.hid (H.out.step hb)
        clear hb c0 c1' c2 cz
        obtain ⟨-, c0, c1', c2, cz⟩ := H.out.box 0 rfl
        go_wp2
        go_roundw
        case rel => exact ⟨j, (j : Int) - 1, m', by omega, by omega, by omega, by go_num, rfl, Hm'.out.symm, by omega, by omega, H.out⟩
        case measure => simp [intOf]
      · obtain rfl : j = 0 := by omega
        obtain rfl : m = (k : Int) := by rw [Hm.out]; exact Int.ediv_one _
        obtain ⟨ad, rfl, hab, d0⟩ := ((H.out.own 1 rfl).rd strEnc_len).one (strIdx_some.1 Hx.out).1 rfl
        have hki : (k : Int) < (l.length : Int) := by omega
        have hq := str_t (a := s) rfl
        clear Hm
        go_wp2
        go_ret
        exact ⟨rfl, H.out.below⟩
end Go.Proofs.Ytbfmohkjnjmmoaa
