/-
  The laws on capacities.
-/
import Derived.Test.YtfokfdkpbdabhaaDrO
namespace Go.Proofs.Ytfokfdkpbdabhaa
open Go.RowKit

theorem cap_facts : ∀ b : Fin 17, ∀ k : Fin 5, 2 ≤ b.val → 1 ≤ k.val → lpOf (pw (b.val : Int) k.val) (b.val : Int) = (k.val : Int) ∧ lbOf (pw (b.val : Int) k.val) (k.val : Int) = (b.val : Int) ∧ (k.val ≠ 4 → lpOf (pw (b.val : Int) k.val + 1) (b.val : Int) = (k.val : Int) + 1) := by decide +kernel
theorem capOf_cases (b p : Int) : (capOf b p = -1 ∧ ¬ (2 ≤ b ∧ b ≤ 16 ∧ 1 ≤ p ∧ p ≤ 4)) ∨ (capOf b p = pw b p.toNat ∧ 2 ≤ b ∧ b ≤ 16 ∧ 1 ≤ p ∧ p ≤ 4) := by
  unfold capOf
  cases h1 : binsOk b <;> cases h2 : passesOk p
  · left; refine ⟨rfl, fun h => ?_⟩; have := (binsOk_iff b).2 ⟨h.1, h.2.1⟩; rw [h1] at this; cases this
  · left; refine ⟨rfl, fun h => ?_⟩; have := (binsOk_iff b).2 ⟨h.1, h.2.1⟩; rw [h1] at this; cases this
  · left; refine ⟨rfl, fun h => ?_⟩; have := (passesOk_iff p).2 ⟨h.2.2.1, h.2.2.2⟩; rw [h2] at this; cases this
  · right; exact ⟨rfl, ((binsOk_iff b).1 h1).1, ((binsOk_iff b).1 h1).2, ((passesOk_iff p).1 h2).1, ((passesOk_iff p).1 h2).2⟩

set_option maxHeartbeats 2000000 in
theorem walkFnCapacity (A : Option Addr) (bs : List UInt8) (c : Nat) (w : World) (h : ByIn w A bs c) :
    Calls Try.prog 3 #[.slice A bs.length c] w fun e w' => e = .returned (.bool true) ∧ Below w.heap.size w w' := by
  obtain ⟨hlc, hcm, hr⟩ := h
  have Hr := Lib.hid hr
  unfold maxLen at hcm
  clear hr
  by_cases hlen : (bs.length : Int) ≤ 1048576
  · go_enter Try.func3, Try.ntmps3
    go_wp2_with fail
    refine (drawCapacityC A bs _ _ rfl hlc _ (by omega) Hr.out).mono ?_
    rintro e w1 ⟨b, p, rfl, ⟨hs1, hs2, hs3, hs4⟩, hb⟩
    rcases capOf_cases b p with ⟨hc, hno⟩ | ⟨hc, hb1, hb2, hp1, hp2⟩
    · have Hc := Lib.hid hc
      clear hc hno
      go_wp2_with (first
        | (go_at_call 16; refine (implCapacityOf _ _ _).mono ?_; rw [Hc.out]; rintro e w2 ⟨rfl, rfl⟩)
        | (go_at_call 17; refine (specCapacityOf _ _ _).mono ?_; rw [Hc.out]; rintro e w2 ⟨rfl, rfl⟩))
      go_ret
      exact ⟨rfl, hb⟩
    · obtain ⟨k, rfl⟩ := Int.eq_ofNat_of_zero_le (show 0 ≤ p by omega)
      obtain ⟨q, rfl⟩ := Int.eq_ofNat_of_zero_le (show 0 ≤ b by omega)
      obtain ⟨f1, f2, f3⟩ := cap_facts ⟨q, by omega⟩ ⟨k, by omega⟩ (show 2 ≤ q by omega) (show 1 ≤ k by omega)
      simp only [Int.toNat_natCast] at hc
      have hbd := pw_bd (q : Int) k hb1 hb2 (by omega)
      simp only at f1 f2 f3
      obtain ⟨n, hn⟩ : ∃ n, pw (q : Int) k = n := ⟨_, rfl⟩
      obtain ⟨j, rfl⟩ : ∃ j, k = j + 1 := ⟨k - 1, by omega⟩
      have hstep : n = pw (q : Int) j * (q : Int) := by rw [← hn]; rfl
      have hbd2 := pw_bd (q : Int) j hb1 hb2 (by omega)
      obtain ⟨m, hm⟩ : ∃ m, pw (q : Int) j = m := ⟨_, rfl⟩
      rw [hn] at hc f1 f2 f3 hbd
      rw [hm] at hstep hbd2
      have hcm1 : 1 < ((j + 1 : Nat) : Int) → capOf (q : Int) (((j + 1 : Nat) : Int) - 1) = m := fun h => by
        rw [show (((j + 1 : Nat) : Int) - 1) = (j : Int) from by omega]
        rcases capOf_cases (q : Int) (j : Int) with ⟨_, hno⟩ | ⟨hc', _⟩
        · exact absurd ⟨hb1, hb2, by omega, by omega⟩ hno
        · rw [hc', Int.toNat_natCast, hm]
      have hm1 : ¬ 1 < ((j + 1 : Nat) : Int) → m = 1 := fun h => by
        have : j = 0 := by omega
        subst this
        exact hm.symm
      obtain ⟨P, hP⟩ : ∃ P : Int, ((j + 1 : Nat) : Int) = P := ⟨_, rfl⟩
      rw [hP] at hc f1 f2 hcm1 hm1 hp1 hp2 hs3 hs4
      have f3 : P ≠ 4 → lpOf (n + 1) (q : Int) = P + 1 := fun h => by rw [← hP]; exact f3 (by omega)
      have Hc := Lib.hid hc
      have F1 := Lib.hid f1
      have F2 := Lib.hid f2
      have F3 := Lib.hid f3
      have Hcm := Lib.hid hcm1
      have hmq : wrap64 (m * (q : Int)) = n := by rw [← hstep]; exact IntWalk.wrap64_in _ (by omega)
      have hnn : (n == n) = true := by simp
      have Hnq : Hid (m = 1 → n = (q : Int)) := fun h => by rw [hstep, h, Int.one_mul]
      have hn0 : (n != n) = false := by simp
      have hqq : ((q : Int) == (q : Int)) = true := by simp
      have hPP : (P == P) = true := by simp
      have hP1 : (P + 1 == P + 1) = true := by simp
      clear hc f1 f2 f3 hcm1 hstep hn hm
      by_cases h4 : P = 4
      · subst h4
        have Hcm := Lib.hid (Hcm.out (by decide))
        simp only [show (4 : Int) - 1 = 3 from rfl] at Hcm
        go_wp2_with (first
          | (go_at_call 16; refine (implCapacityOf _ _ _).mono ?_; rw [Hc.out]; rintro e w2 ⟨rfl, rfl⟩)
          | (go_at_call 16; refine (implCapacityOf _ _ _).mono ?_; rw [Hcm.out]; rintro e w2 ⟨rfl, rfl⟩)
          | (go_at_call 17; refine (specCapacityOf _ _ _).mono ?_; rw [Hc.out]; rintro e w2 ⟨rfl, rfl⟩)
          | (go_at_call 18; refine (implLeastPasses _ _ _).mono ?_; rw [F1.out]; rintro e w2 ⟨rfl, rfl⟩)
          | (go_at_call 18; refine (implLeastPasses _ _ _).mono ?_; rw [F3.out (by omega)]; rintro e w2 ⟨rfl, rfl⟩)
          | (go_at_call 19; refine (implLeastBins _ _ _).mono ?_; rw [F2.out]; rintro e w2 ⟨rfl, rfl⟩))
        go_ret
        exact ⟨rfl, hb⟩
      · by_cases h1 : 1 < P
        · have Hcm := Lib.hid (Hcm.out h1)
          go_wp2_with (first
            | (go_at_call 16; refine (implCapacityOf _ _ _).mono ?_; rw [Hc.out]; rintro e w2 ⟨rfl, rfl⟩)
            | (go_at_call 16; refine (implCapacityOf _ _ _).mono ?_; rw [Hcm.out]; rintro e w2 ⟨rfl, rfl⟩)
            | (go_at_call 17; refine (specCapacityOf _ _ _).mono ?_; rw [Hc.out]; rintro e w2 ⟨rfl, rfl⟩)
            | (go_at_call 18; refine (implLeastPasses _ _ _).mono ?_; rw [F1.out]; rintro e w2 ⟨rfl, rfl⟩)
            | (go_at_call 18; refine (implLeastPasses _ _ _).mono ?_; rw [F3.out (by omega)]; rintro e w2 ⟨rfl, rfl⟩)
            | (go_at_call 19; refine (implLeastBins _ _ _).mono ?_; rw [F2.out]; rintro e w2 ⟨rfl, rfl⟩))
          go_ret
          exact ⟨rfl, hb⟩
        · have hnq := Hnq.out (hm1 h1)
          clear hm1 hmq
          subst hnq
          go_wp2_with (first
            | (go_at_call 16; refine (implCapacityOf _ _ _).mono ?_; rw [Hc.out]; rintro e w2 ⟨rfl, rfl⟩)
            | (go_at_call 16; refine (implCapacityOf _ _ _).mono ?_; rw [Hcm.out]; rintro e w2 ⟨rfl, rfl⟩)
            | (go_at_call 17; refine (specCapacityOf _ _ _).mono ?_; rw [Hc.out]; rintro e w2 ⟨rfl, rfl⟩)
            | (go_at_call 18; refine (implLeastPasses _ _ _).mono ?_; rw [F1.out]; rintro e w2 ⟨rfl, rfl⟩)
            | (go_at_call 18; refine (implLeastPasses _ _ _).mono ?_; rw [F3.out (by omega)]; rintro e w2 ⟨rfl, rfl⟩)
            | (go_at_call 19; refine (implLeastBins _ _ _).mono ?_; rw [F2.out]; rintro e w2 ⟨rfl, rfl⟩))
          go_ret
          exact ⟨rfl, hb⟩
  · go_enter Try.func3, Try.ntmps3
    go_wp2
    go_ret
    exact ⟨rfl, Below.refl _ _⟩
end Go.Proofs.Ytfokfdkpbdabhaa
