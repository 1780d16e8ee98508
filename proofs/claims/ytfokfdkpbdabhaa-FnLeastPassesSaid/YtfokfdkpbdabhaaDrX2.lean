/-
  The laws on the least numbers of bins and of passes.
-/
import Derived.Test.YtfokfdkpbdabhaaDrX1
namespace Go.Proofs.Ytfokfdkpbdabhaa
open Go.RowKit

/-- What a search finds: nothing, or the first number that is good. -/
theorem firstFrom_cases (f : Int → Bool) : ∀ (n : Nat) (i : Int), (firstFrom f i n = -1 ∧ ∀ j : Nat, j < n → f (i + j) = false) ∨ (∃ k : Nat, k < n ∧ firstFrom f i n = i + k ∧ f (i + k) = true ∧ ∀ j : Nat, j < k → f (i + j) = false)
  | 0, i => .inl ⟨rfl, fun j hj => absurd hj (by omega)⟩
  | n + 1, i => by
    cases hf : f i with
    | true => exact .inr ⟨0, by omega, by rw [firstFrom_hit (by omega) hf]; simp, by simpa using hf, fun j hj => absurd hj (by omega)⟩
    | false =>
      rw [firstFrom_miss rfl hf]
      rcases firstFrom_cases f n (i + 1) with ⟨h, h2⟩ | ⟨k, hk, h, h2, h3⟩
      · refine .inl ⟨h, fun j hj => ?_⟩
        rcases Nat.eq_zero_or_pos j with rfl | hj0
        · simpa using hf
        · have := h2 (j - 1) (by omega)
          rwa [show i + 1 + ((j - 1 : Nat) : Int) = i + (j : Int) from by omega] at this
      · refine .inr ⟨k + 1, by omega, by rw [h]; omega, by rwa [show i + 1 + (k : Int) = i + ((k + 1 : Nat) : Int) from by omega] at h2, fun j hj => ?_⟩
        rcases Nat.eq_zero_or_pos j with rfl | hj0
        · simpa using hf
        · have := h3 (j - 1) (by omega)
          rwa [show i + 1 + ((j - 1 : Nat) : Int) = i + (j : Int) from by omega] at this

theorem pw_mono_all : ∀ b c : Fin 17, ∀ k : Fin 5, 2 ≤ b.val → b.val ≤ c.val → pw (b.val : Int) k.val ≤ pw (c.val : Int) k.val := by decide +kernel
theorem pw_up_all : ∀ b : Fin 17, ∀ j k : Fin 5, 2 ≤ b.val → j.val ≤ k.val → pw (b.val : Int) j.val ≤ pw (b.val : Int) k.val := by decide +kernel

/-- The least number of bins, and which numbers have the capacity. -/
theorem lb_facts {c p n : Int} (h : lbOf c p = n) : (n = -1 ∨ 2 ≤ n) ∧ (0 ≤ c → 1 ≤ p → p ≤ 4 → ∀ b : Int, 2 ≤ b → b ≤ 16 → (c ≤ pw b p.toNat ↔ 0 < n ∧ n ≤ b)) := by
  unfold lbOf at h
  split at h
  · rename_i hc
    simp only [Bool.and_eq_true, decide_eq_true_eq] at hc
    have hp := (passesOk_iff p).1 hc.2
    obtain ⟨k, rfl⟩ := Int.eq_ofNat_of_zero_le (show 0 ≤ p by omega)
    simp only [Int.toNat_natCast] at h ⊢
    rcases firstFrom_cases (fun b => decide (c ≤ pw b k)) 15 2 with ⟨h1, h2⟩ | ⟨j, hj, h1, h2, h3⟩
    · rw [h1] at h
      refine ⟨.inl h.symm, fun _ _ _ b hb1 hb2 => ⟨fun hcb => ?_, fun ⟨h0, _⟩ => by omega⟩⟩
      have := h2 (b - 2).toNat (by omega)
      rw [show (2 : Int) + ((b - 2).toNat : Int) = b from by omega] at this
      exact absurd hcb (of_decide_eq_false this)
    · rw [h1] at h
      refine ⟨.inr (by omega), fun _ _ _ b hb1 hb2 => ⟨fun hcb => ⟨by omega, ?_⟩, fun ⟨h0, h4⟩ => ?_⟩⟩
      · rcases Int.lt_or_le b n with hlt | hge
        · have := h3 (b - 2).toNat (by omega)
          rw [show (2 : Int) + ((b - 2).toNat : Int) = b from by omega] at this
          exact absurd hcb (of_decide_eq_false this)
        · exact hge
      · obtain ⟨q, rfl⟩ := Int.eq_ofNat_of_zero_le (show 0 ≤ b by omega)
        have h5 := of_decide_eq_true h2
        have h6 := pw_mono_all ⟨2 + j, by omega⟩ ⟨q, by omega⟩ ⟨k, by omega⟩ (by show 2 ≤ 2 + j; omega) (by show 2 + j ≤ q; omega)
        simp only [Int.natCast_add] at h6
        exact Int.le_trans h5 h6
  · rename_i hc
    refine ⟨.inl h.symm, fun h0 h1 h2 b hb1 hb2 => absurd ?_ hc⟩
    rw [decide_eq_true h0, (passesOk_iff p).2 ⟨h1, h2⟩]; rfl
/-- The least number of passes, and which numbers have the capacity. -/
theorem lp_facts {c b n : Int} (h : lpOf c b = n) : (n = -1 ∨ 1 ≤ n) ∧ (0 ≤ c → 2 ≤ b → b ≤ 16 → ∀ p : Int, 1 ≤ p → p ≤ 4 → (c ≤ pw b p.toNat ↔ 0 < n ∧ n ≤ p)) := by
  unfold lpOf at h
  split at h
  · rename_i hc
    simp only [Bool.and_eq_true, decide_eq_true_eq] at hc
    have hb := (binsOk_iff b).1 hc.2
    obtain ⟨q, rfl⟩ := Int.eq_ofNat_of_zero_le (show 0 ≤ b by omega)
    rcases firstFrom_cases (fun p => decide (c ≤ pw (q : Int) p.toNat)) 4 1 with ⟨h1, h2⟩ | ⟨j, hj, h1, h2, h3⟩
    · rw [h1] at h
      refine ⟨.inl h.symm, fun _ _ _ p hp1 hp2 => ⟨fun hcb => ?_, fun ⟨h0, _⟩ => by omega⟩⟩
      have := h2 (p - 1).toNat (by omega)
      rw [show (1 : Int) + ((p - 1).toNat : Int) = p from by omega] at this
      exact absurd hcb (of_decide_eq_false this)
    · rw [h1] at h
      refine ⟨.inr (by omega), fun _ _ _ p hp1 hp2 => ⟨fun hcb => ⟨by omega, ?_⟩, fun ⟨h0, h4⟩ => ?_⟩⟩
      · rcases Int.lt_or_le p n with hlt | hge
        · have := h3 (p - 1).toNat (by omega)
          rw [show (1 : Int) + ((p - 1).toNat : Int) = p from by omega] at this
          exact absurd hcb (of_decide_eq_false this)
        · exact hge
      · have h5 := of_decide_eq_true h2
        have h6 := pw_up_all ⟨q, by omega⟩ ⟨1 + j, by omega⟩ ⟨p.toNat, by omega⟩ (by show 2 ≤ q; omega) (by show 1 + j ≤ p.toNat; omega)
        rw [show ((1 : Int) + (j : Int)).toNat = 1 + j from by omega] at h5
        exact Int.le_trans h5 h6
  · rename_i hc
    refine ⟨.inl h.symm, fun h0 h1 h2 p hb1 hb2 => absurd ?_ hc⟩
    rw [decide_eq_true h0, (binsOk_iff b).2 ⟨h1, h2⟩]; rfl

set_option maxHeartbeats 2000000 in
theorem walkFnLeastBins (A : Option Addr) (bs : List UInt8) (c : Nat) (w : World) (h : ByIn w A bs c) :
    Calls Try.prog 4 #[.slice A bs.length c] w fun e w' => e = .returned (.bool true) ∧ Below w.heap.size w w' := by
  obtain ⟨hlc, hcm, hr⟩ := h
  have Hr := Lib.hid hr
  unfold maxLen at hcm
  clear hr
  by_cases hlen : (bs.length : Int) ≤ 1048576
  · go_enter Try.func4, Try.ntmps4
    go_wp2_with fail
    refine (drawLeastBinsC A bs _ _ rfl hlc _ (by omega) Hr.out).mono ?_
    rintro e w1 ⟨x, y, rfl, hx0, hx1, hy0, hy1, hb⟩
    obtain ⟨n, hn⟩ : ∃ n, lbOf x y = n := ⟨_, rfl⟩
    obtain ⟨hnr, hF⟩ := lb_facts hn
    have Hn := Lib.hid hn
    have HF := Lib.hid hF
    have hnn : (n != n) = false := by simp
    clear hn hF
    go_wp2_with (first
      | (go_at_call 19; refine (implLeastBins _ _ _).mono ?_; rw [Hn.out]; rintro e w2 ⟨rfl, rfl⟩)
      | (go_at_call 21; refine (specLeastBins _ _ _).mono ?_; rw [Hn.out]; rintro e w2 ⟨rfl, rfl⟩))
    go_loopw [6, 7] (fun i _ wr => ∃ b : Int, 2 ≤ b ∧ b ≤ 16 + 1 ∧ i = .int .i64 b ∧ wr = w1) (fun i _ _ => (16 + 1 - intOf i).toNat)
    case atStart => exact ⟨2, by omega, by omega, rfl, rfl⟩
    case round =>
      obtain ⟨b, hb0, hb1, rfl, rfl⟩ := hrel
      by_cases hlt : b ≤ 16
      · rcases capOf_cases b y with ⟨hc, hno⟩ | ⟨hc, k1, k2, k3, k4⟩
        · have Hc := Lib.hid hc
          clear hc hno
          go_wp2_with (go_at_call 16; refine (implCapacityOf _ _ _).mono ?_; rw [Hc.out]; rintro e w2 ⟨rfl, rfl⟩)
          go_roundw
          case rel => exact ⟨b + 1, by omega, by omega, rfl, by first | exact trivial | rfl⟩
          case measure => simp [intOf]; omega
        · by_cases h0 : 0 ≤ x
          · have hf := HF.out h0 (by omega) (by omega) b (by omega) (by omega)
            have hbd := pw_bd b y.toNat (by omega) (by omega) (by omega)
            obtain ⟨v, hv⟩ : ∃ v, pw b y.toNat = v := ⟨_, rfl⟩
            rw [hv] at hc hf hbd
            have Hc := Lib.hid hc
            clear hc hv
            have hcase : (x ≤ v ∧ 0 < n ∧ n ≤ b) ∨ (¬ x ≤ v ∧ ¬ 0 < n) ∨ (¬ x ≤ v ∧ 0 < n ∧ ¬ n ≤ b) := by
              by_cases e1 : x ≤ v
              · exact .inl ⟨e1, hf.1 e1⟩
              · by_cases e2 : 0 < n
                · exact .inr (.inr ⟨e1, e2, fun e3 => e1 (hf.2 ⟨e2, e3⟩)⟩)
                · exact .inr (.inl ⟨e1, e2⟩)
            clear hf
            rcases hcase with ⟨e1, e2, e3⟩ | ⟨e1, e2⟩ | ⟨e1, e2, e3⟩
            · go_wp2_with (go_at_call 16; refine (implCapacityOf _ _ _).mono ?_; rw [Hc.out]; rintro e w2 ⟨rfl, rfl⟩)
              go_roundw
              case rel => exact ⟨b + 1, by omega, by omega, rfl, by first | exact trivial | rfl⟩
              case measure => simp [intOf]; omega
            · go_wp2_with (go_at_call 16; refine (implCapacityOf _ _ _).mono ?_; rw [Hc.out]; rintro e w2 ⟨rfl, rfl⟩)
              go_roundw
              case rel => exact ⟨b + 1, by omega, by omega, rfl, by first | exact trivial | rfl⟩
              case measure => simp [intOf]; omega
            · have e4 : (!decide (x ≤ v) == decide (n ≤ b)) = false := by rw [decide_eq_false e1, decide_eq_false e3]; rfl
              go_wp2_with (go_at_call 16; refine (implCapacityOf _ _ _).mono ?_; rw [Hc.out]; rintro e w2 ⟨rfl, rfl⟩)
              go_roundw
              case rel => exact ⟨b + 1, by omega, by omega, rfl, by first | exact trivial | rfl⟩
              case measure => simp [intOf]; omega
          · have hbd := pw_bd b y.toNat (by omega) (by omega) (by omega)
            obtain ⟨v, hv⟩ : ∃ v, pw b y.toNat = v := ⟨_, rfl⟩
            rw [hv] at hc hbd
            have Hc := Lib.hid hc
            clear hc hv
            go_wp2_with (go_at_call 16; refine (implCapacityOf _ _ _).mono ?_; rw [Hc.out]; rintro e w2 ⟨rfl, rfl⟩)
            go_roundw
            case rel => exact ⟨b + 1, by omega, by omega, rfl, by first | exact trivial | rfl⟩
            case measure => simp [intOf]; omega
      · rcases hnr with rfl | hnr
        · go_wp2
          go_ret
          exact ⟨rfl, hb⟩
        · go_wp2
          go_ret
          exact ⟨rfl, hb⟩
  · go_enter Try.func4, Try.ntmps4
    go_wp2
    go_ret
    exact ⟨rfl, Below.refl _ _⟩

set_option maxHeartbeats 2000000 in
theorem walkFnLeastPasses (A : Option Addr) (bs : List UInt8) (c : Nat) (w : World) (h : ByIn w A bs c) :
    Calls Try.prog 5 #[.slice A bs.length c] w fun e w' => e = .returned (.bool true) ∧ Below w.heap.size w w' := by
  obtain ⟨hlc, hcm, hr⟩ := h
  have Hr := Lib.hid hr
  unfold maxLen at hcm
  clear hr
  by_cases hlen : (bs.length : Int) ≤ 1048576
  · go_enter Try.func5, Try.ntmps5
    go_wp2_with fail
    refine (drawLeastPassesC A bs _ _ rfl hlc _ (by omega) Hr.out).mono ?_
    rintro e w1 ⟨x, y, rfl, hx0, hx1, hy0, hy1, hb⟩
    obtain ⟨n, hn⟩ : ∃ n, lpOf x y = n := ⟨_, rfl⟩
    obtain ⟨hnr, hF⟩ := lp_facts hn
    have Hn := Lib.hid hn
    have HF := Lib.hid hF
    have hnn : (n != n) = false := by simp
    clear hn hF
    go_wp2_with (first
      | (go_at_call 18; refine (implLeastPasses _ _ _).mono ?_; rw [Hn.out]; rintro e w2 ⟨rfl, rfl⟩)
      | (go_at_call 23; refine (specLeastPasses _ _ _).mono ?_; rw [Hn.out]; rintro e w2 ⟨rfl, rfl⟩))
    go_loopw [6, 7] (fun i _ wr => ∃ b : Int, 1 ≤ b ∧ b ≤ 4 + 1 ∧ i = .int .i64 b ∧ wr = w1) (fun i _ _ => (4 + 1 - intOf i).toNat)
    case atStart => exact ⟨1, by omega, by omega, rfl, rfl⟩
    case round =>
      obtain ⟨b, hb0, hb1, rfl, rfl⟩ := hrel
      by_cases hlt : b ≤ 4
      · rcases capOf_cases y b with ⟨hc, hno⟩ | ⟨hc, k1, k2, k3, k4⟩
        · have Hc := Lib.hid hc
          clear hc hno
          go_wp2_with (go_at_call 16; refine (implCapacityOf _ _ _).mono ?_; rw [Hc.out]; rintro e w2 ⟨rfl, rfl⟩)
          go_roundw
          case rel => exact ⟨b + 1, by omega, by omega, rfl, by first | exact trivial | rfl⟩
          case measure => simp [intOf]; omega
        · by_cases h0 : 0 ≤ x
          · have hf := HF.out h0 (by omega) (by omega) b (by omega) (by omega)
            have hbd := pw_bd y b.toNat (by omega) (by omega) (by omega)
            obtain ⟨v, hv⟩ : ∃ v, pw y b.toNat = v := ⟨_, rfl⟩
            rw [hv] at hc hf hbd
            have Hc := Lib.hid hc
            clear hc hv
            have hcase : (x ≤ v ∧ 0 < n ∧ n ≤ b) ∨ (¬ x ≤ v ∧ ¬ 0 < n) ∨ (¬ x ≤ v ∧ 0 < n ∧ ¬ n ≤ b) := by
              by_cases e1 : x ≤ v
              · exact .inl ⟨e1, hf.1 e1⟩
              · by_cases e2 : 0 < n
                · exact .inr (.inr ⟨e1, e2, fun e3 => e1 (hf.2 ⟨e2, e3⟩)⟩)
                · exact .inr (.inl ⟨e1, e2⟩)
            clear hf
            rcases hcase with ⟨e1, e2, e3⟩ | ⟨e1, e2⟩ | ⟨e1, e2, e3⟩
            · go_wp2_with (go_at_call 16; refine (implCapacityOf _ _ _).mono ?_; rw [Hc.out]; rintro e w2 ⟨rfl, rfl⟩)
              go_roundw
              case rel => exact ⟨b + 1, by omega, by omega, rfl, by first | exact trivial | rfl⟩
              case measure => simp [intOf]; omega
            · go_wp2_with (go_at_call 16; refine (implCapacityOf _ _ _).mono ?_; rw [Hc.out]; rintro e w2 ⟨rfl, rfl⟩)
              go_roundw
              case rel => exact ⟨b + 1, by omega, by omega, rfl, by first | exact trivial | rfl⟩
              case measure => simp [intOf]; omega
            · have e4 : (!decide (x ≤ v) == decide (n ≤ b)) = false := by rw [decide_eq_false e1, decide_eq_false e3]; rfl
              go_wp2_with (go_at_call 16; refine (implCapacityOf _ _ _).mono ?_; rw [Hc.out]; rintro e w2 ⟨rfl, rfl⟩)
              go_roundw
              case rel => exact ⟨b + 1, by omega, by omega, rfl, by first | exact trivial | rfl⟩
              case measure => simp [intOf]; omega
          · have hbd := pw_bd y b.toNat (by omega) (by omega) (by omega)
            obtain ⟨v, hv⟩ : ∃ v, pw y b.toNat = v := ⟨_, rfl⟩
            rw [hv] at hc hbd
            have Hc := Lib.hid hc
            clear hc hv
            go_wp2_with (go_at_call 16; refine (implCapacityOf _ _ _).mono ?_; rw [Hc.out]; rintro e w2 ⟨rfl, rfl⟩)
            go_roundw
            case rel => exact ⟨b + 1, by omega, by omega, rfl, by first | exact trivial | rfl⟩
            case measure => simp [intOf]; omega
      · rcases hnr with rfl | hnr
        · go_wp2
          go_ret
          exact ⟨rfl, hb⟩
        · go_wp2
          go_ret
          exact ⟨rfl, hb⟩
  · go_enter Try.func5, Try.ntmps5
    go_wp2
    go_ret
    exact ⟨rfl, Below.refl _ _⟩
end Go.Proofs.Ytfokfdkpbdabhaa
