/-
  The law on the bin of a code in one pass.
-/
import Derived.Test.YtbfmohkjnjmmoaaEbP
import Derived.Test.YtbfmohkjnjmmoaaDp4
namespace Go.Proofs.Ytbfmohkjnjmmoaa
open Go.RowKit

set_option maxHeartbeats 4000000 in
set_option maxRecDepth 100000 in
theorem walkFnPlanBin (A : Option Addr) (bs : List UInt8) (c : Nat) (w : World) (h : ByIn w A bs c) :
    Calls Try.prog 4 #[.slice A bs.length c] w fun e w' => e = .returned (.bool true) ∧ Below w.heap.size w w' := by
  obtain ⟨hlc, hcm, hr⟩ := h
  have Hr := Lib.hid hr
  unfold maxLen at hcm
  clear hr
  by_cases hlen : ¬ (bs.length : Int) ≤ 1048576
  · go_enter Try.func4, Try.ntmps4
    go_wp2
    go_ret
    exact ⟨rfl, Below.refl _ _⟩
  have hlen := Decidable.not_not.1 hlen
  go_enter Try.func4, Try.ntmps4
  go_wp2_with fail
  refine (drawBinC A bs _ _ rfl hlc _ (by omega) Hr.out).mono ?_
  rintro e w1 ⟨b, p, A1, n, c1, l, q, s, rfl, hs, HO⟩
  have hn := HO.out.1
  have HD := Lib.hid HO.out.dr
  have hln := HD.out.len
  subst hln
  have Hz := Lib.hid HD.out.small
  have H : Hid (Pool w (w1.alloc (Obj.cells #[.int .i64 b, .int .i64 p, .slice A1 l.length c1] 25)) [boxP w1.heap.size (.int .i64 b) (.int .i64 p) (.slice A1 l.length c1), ownP 9 1 strEnc (.slice A1 l.length c1) l]) := HO.out.2.2.addBox rfl _ _ _ _
  have hcap := HD.out.cap
  obtain ⟨v, hv⟩ : ∃ v, planBinOf b p l s q = v := ⟨_, rfl⟩
  obtain ⟨u, hu⟩ : ∃ u, rankOf b p l s = u := ⟨_, rfl⟩
  have Hv := Lib.hid hv
  have Hu := Lib.hid hu
  have hvv : (v != v) = false := by simp
  clear hv hu HD HO
  obtain ⟨-, c0, c1', c2, cz⟩ := H.out.box 0 rfl
  go_wp2_with fail
  refine (implPlanBin b p A1 l _ _ rfl hcap s q _ (by omega) Hz.out ((H.out.own 1 rfl).rd strEnc_len)).mono ?_
  rw [Hv.out]
  rintro e w2 ⟨rfl, hb⟩
  have H := Lib.hid (H.out.step hb)
  clear hb c0 c1' c2 cz
  obtain ⟨-, c0, c1', c2, cz⟩ := H.out.box 0 rfl
  go_wp2_with fail
  refine (specPlanBin b p A1 l _ _ rfl s q _ (by omega) Hz.out ((H.out.own 1 rfl).rd strEnc_len)).mono ?_
  rw [Hv.out]
  rintro e w3 ⟨rfl, hb⟩
  have H := Lib.hid (H.out.step hb)
  clear hb c0 c1' c2 cz
  obtain ⟨-, c0, c1', c2, cz⟩ := H.out.box 0 rfl
  go_wp2_with fail
  refine (implPlanRank b p A1 l _ _ rfl hcap s _ (by omega) Hz.out ((H.out.own 1 rfl).rd strEnc_len)).mono ?_
  rw [Hu.out]
  rintro e w4 ⟨rfl, hb⟩
  have H := Lib.hid (H.out.step hb)
  clear hb c0 c1' c2 cz
  obtain ⟨-, c0, c1', c2, cz⟩ := H.out.box 0 rfl
  cases hp : planOk b p l
  · have hv1 : v = -1 := by rw [← Hv.out]; unfold planBinOf passOk; rw [hp]; rfl
    subst hv1
    go_wp2_with fail
    refine (implPlanValid b p A1 l _ _ rfl hcap _ (by omega) Hz.out ((H.out.own 1 rfl).rd strEnc_len)).mono ?_
    rw [hp]
    rintro e w5 ⟨rfl, hb⟩
    have H := Lib.hid (H.out.step hb)
    clear hb c0 c1' c2 cz hp
    obtain ⟨-, c0, c1', c2, cz⟩ := H.out.box 0 rfl
    go_wp2
    go_ret
    exact ⟨rfl, H.out.below⟩
  · obtain ⟨⟨hb1, hb2⟩, ⟨hp1, hp2⟩, -, hcapl, -⟩ := planOk_parts hp
    have Hp := Lib.hid hp
    clear hp
    go_wp2_with fail
    refine (implPlanValid b p A1 l _ _ rfl hcap _ (by omega) Hz.out ((H.out.own 1 rfl).rd strEnc_len)).mono ?_
    rw [Hp.out]
    rintro e w5 ⟨rfl, hb⟩
    have H := Lib.hid (H.out.step hb)
    clear hb c0 c1' c2 cz
    obtain ⟨-, c0, c1', c2, cz⟩ := H.out.box 0 rfl
    by_cases hq : 0 ≤ q ∧ q < p
    · obtain ⟨hq1, hq2⟩ := hq
      obtain ⟨j, rfl⟩ : ∃ j : Nat, q = j := ⟨q.toNat, by omega⟩
      have hbd := pw_bd b j hb1 hb2 (by omega)
      obtain ⟨S, hS⟩ : ∃ S, pw b j = S := ⟨_, rfl⟩
      rw [hS] at hbd
      have HC : Hid (0 < j → capOf b j = S) := fun h => by
        show capOf b j = S
        unfold capOf
        rw [show binsOk b = true from (binsOk_iff b).2 ⟨hb1, hb2⟩, show passesOk (j : Int) = true from (passesOk_iff _).2 ⟨by omega, by omega⟩, Int.toNat_natCast]
        exact hS
      have HS1 : Hid (j = 0 → S = 1) := fun h => by subst h; exact hS.symm
      have hvu : (v < 0 ∧ u < 0) ∨ (∃ i : Nat, u = i ∧ v = (i : Int) / S % b ∧ i < l.length) := by
        cases hx : strIdx l s with
        | none =>
          left
          have e1 := Hv.out
          have e2 := Hu.out
          unfold planBinOf passOk binVal at e1
          unfold rankOf at e2
          rw [Hp.out, hx] at e2
          have e2 : (-1 : Int) = u := e2
          rw [hx] at e1
          have e1 : (if planOk b p l && decide (0 ≤ (j : Int) ∧ (j : Int) < p) then (-1 : Int) else -1) = v := e1
          have : v = -1 := by rw [← e1]; split <;> rfl
          omega
        | some i =>
          right
          have e2 := Hu.out
          unfold rankOf at e2
          rw [Hp.out, hx] at e2
          exact ⟨i, e2.symm, by rw [← Hv.out, planBin_some Hp.out hx hq2, hS], strIdx_lt hx⟩
      clear hS
      rcases hvu with ⟨hv0, hu0⟩ | ⟨i, rfl, rfl, hi⟩
      · have a1 : decide (0 ≤ v) = false := decide_eq_false (by omega)
        have a2 : decide (0 ≤ u) = false := decide_eq_false (by omega)
        have a3 : decide (u < 0) = true := decide_eq_true hu0
        by_cases hj : 0 < j
        · have HCj := Lib.hid (HC.out hj)
          go_wp2_with fail
          refine (implCapacityOf _ _ _).mono ?_
          rw [HCj.out]
          rintro e w6 ⟨rfl, rfl⟩
          go_wp2_with fail
          go_quiet (fail)
          go_wp2
          go_ret
          exact ⟨rfl, (H.out.drew _).below⟩
        · obtain rfl : j = 0 := by omega
          go_wp2_with fail
          go_quiet (fail)
          go_wp2
          go_ret
          exact ⟨rfl, (H.out.drew _).below⟩
      · obtain ⟨m, hm⟩ : ∃ m, (i : Int) / S = m := ⟨_, rfl⟩
        have hm0 : 0 ≤ m ∧ m ≤ 60 := by rw [← hm]; exact ⟨Int.ediv_nonneg (by omega) (by omega), Int.le_trans (Int.ediv_le_self _ (by omega)) (by omega)⟩
        obtain ⟨d, hd⟩ : ∃ d, m % b = d := ⟨_, rfl⟩
        have hd0 : 0 ≤ d ∧ d < b := by rw [← hd]; exact ⟨Int.emod_nonneg _ (by omega), Int.emod_lt_of_pos _ (by omega)⟩
        have Hm := Lib.hid hm
        rw [hm, hd] at Hv
        rw [hm, hd]
        have hdd : (d == d) = true := by simp
        have hdn : (d != d) = false := by simp
        have a1 : decide (0 ≤ d) = true := decide_eq_true hd0.1
        have a2 : decide ((0 : Int) ≤ (i : Int)) = true := decide_eq_true (by omega)
        have a3 : decide ((i : Int) < 0) = false := decide_eq_false (by omega)
        have t2 : Int.tmod m b = d := by rw [Int.tmod_eq_emod_of_nonneg hm0.1]; exact hd
        by_cases hj : 0 < j
        · have HCj := Lib.hid (HC.out hj)
          have t1 : Int.tdiv (i : Int) S = m := by rw [Int.tdiv_eq_ediv_of_nonneg (by omega)]; exact hm
          have hS0 : (S == 0) = false := by simp; omega
          clear hm hd
          go_wp2_with fail
          refine (implCapacityOf _ _ _).mono ?_
          rw [HCj.out]
          rintro e w6 ⟨rfl, rfl⟩
          go_wp2_with fail
          go_quiet (fail)
          go_wp2
          go_ret
          exact ⟨rfl, (H.out.drew _).below⟩
        · obtain rfl : j = 0 := by omega
          have hS1 := HS1.out rfl
          subst hS1
          obtain rfl : m = (i : Int) := by rw [← hm]; exact Int.ediv_one _
          clear hm hd
          go_wp2_with fail
          go_quiet (fail)
          go_wp2
          go_ret
          exact ⟨rfl, (H.out.drew _).below⟩
    · have hv1 : v = -1 := by
        rw [← Hv.out]; unfold planBinOf passOk; rw [show decide (0 ≤ q ∧ q < p) = false from decide_eq_false hq]; simp
      subst hv1
      by_cases hq1 : q < 0
      · go_wp2
        go_ret
        exact ⟨rfl, H.out.below⟩
      · have hq2 : p ≤ q := by omega
        go_wp2
        go_ret
        exact ⟨rfl, H.out.below⟩
end Go.Proofs.Ytbfmohkjnjmmoaa
