/-
  Digits and codes: the program's and the reference's tests on strings, for all strings of fewer than 2^31 bytes.
-/
import Derived.Test.YtjibjoapbjojlaaFwM
namespace Go.Proofs.Ytjibjoapbjojlaa
open Go.RowKit

theorem isDig_t {c : UInt8} (h1 : 48 ≤ (c.toNat : Int)) (h2 : (c.toNat : Int) ≤ 57) : isDig c = true := by simp [isDig, h1, h2]
theorem isDig_f1 {c : UInt8} (h : ¬ 48 ≤ (c.toNat : Int)) : isDig c = false := by simp [isDig, h]
theorem isDig_f2 {c : UInt8} (h : ¬ (c.toNat : Int) ≤ 57) : isDig c = false := by simp [isDig, h]

theorem implAllDigits (s : Str) (hs : s.size ≤ 2147483647) (w : World) :
    Calls Try.prog 35 #[.string s] w fun e w' => e = .returned (.bool (allDig s)) ∧ w = w' := by
  go_enter Try.func35, Try.ntmps35
  go_wp2
  go_loop [3] (fun i => ∃ k : Nat, k ≤ s.size ∧ i = .int .i64 k ∧ Hid (∀ j (h : j < s.size), j < k → isDig s[j] = true)) (fun i => s.size - (intOf i).toNat)
  case atStart => exact ⟨0, Nat.zero_le _, rfl, fun j _ h => absurd h (by omega)⟩
  case round =>
    obtain ⟨k, hk, rfl, H⟩ := hrel
    by_cases hlt : k < s.size
    · by_cases h1 : 48 ≤ (s[k].toNat : Int)
      · by_cases h2 : (s[k].toNat : Int) ≤ 57
        · go_wp2
          go_round
          case rel =>
            refine ⟨k + 1, by omega, by go_num, fun j hj hjk => ?_⟩
            by_cases e : j = k
            · subst e; exact isDig_t h1 h2
            · exact H.out j hj (by omega)
          case measure => simp [intOf]; omega
        · go_wp2
          go_ret
          exact ⟨ret_bool (allDig_false hlt (isDig_f2 (by omega))).symm, rfl⟩
      · go_wp2
        go_ret
        exact ⟨ret_bool (allDig_false hlt (isDig_f1 (by omega))).symm, rfl⟩
    · obtain rfl : k = s.size := by omega
      go_wp2
      go_ret
      exact ⟨ret_bool ((allDig_iff s).2 fun j hj => H.out j hj hj).symm, rfl⟩
theorem digitsOk_bad {s : Str} (h : allDig s = false) : digitsOk s = false := by simp [digitsOk, h]
theorem digitsOk_good {s : Str} (h : allDig s = true) : decide ((s.size : Int) ≤ 20) = digitsOk s := by
  unfold digitsOk; rw [h, Bool.and_true]; exact decide_eq_decide.2 (by omega)

theorem specDigitsValid (s : Str) (hs : s.size ≤ 2147483647) (w : World) :
    Calls Try.prog 36 #[.string s] w fun e w' => e = .returned (.bool (digitsOk s)) ∧ w = w' := by
  go_enter Try.func36, Try.ntmps36
  go_wp2
  go_loop [3] (fun i => ∃ k : Nat, k ≤ s.size ∧ i = .int .i64 k ∧ Hid (∀ j (h : j < s.size), j < k → isDig s[j] = true)) (fun i => s.size - (intOf i).toNat)
  case atStart => exact ⟨0, Nat.zero_le _, rfl, fun j _ h => absurd h (by omega)⟩
  case round =>
    obtain ⟨k, hk, rfl, H⟩ := hrel
    by_cases hlt : k < s.size
    · by_cases h1 : 48 ≤ (s[k].toNat : Int)
      · by_cases h2 : (s[k].toNat : Int) ≤ 57
        · go_wp2
          go_round
          case rel =>
            refine ⟨k + 1, by omega, by go_num, fun j hj hjk => ?_⟩
            by_cases e : j = k
            · subst e; exact isDig_t h1 h2
            · exact H.out j hj (by omega)
          case measure => simp [intOf]; omega
        · go_wp2
          go_ret
          exact ⟨ret_bool (digitsOk_bad (allDig_false hlt (isDig_f2 (by omega)))).symm, rfl⟩
      · go_wp2
        go_ret
        exact ⟨ret_bool (digitsOk_bad (allDig_false hlt (isDig_f1 (by omega)))).symm, rfl⟩
    · obtain rfl : k = s.size := by omega
      go_wp2
      go_ret
      exact ⟨ret_bool (digitsOk_good ((allDig_iff s).2 fun j hj => H.out j hj hj)), rfl⟩

theorem implCodeValid (s : Str) (hs : s.size ≤ 2147483647) (w : World) :
    Calls Try.prog 24 #[.string s] w fun e w' => e = .returned (.bool (codeOk s)) ∧ w = w' := by
  by_cases h : s.size = 7
  · have h7 : ((s.size : Int) == 7) = true := by simp; omega
    have hc : Hid (codeOk s = allDig s) := by show codeOk s = _; unfold codeOk; simp [h]
    clear h
    go_enter Try.func24, Try.ntmps24
    go_wp2_with (go_at_call 35; refine (implAllDigits _ (by omega) _).mono ?_; rintro e w' ⟨rfl, rfl⟩)
    go_ret
    exact ⟨ret_bool hc.out.symm, rfl⟩
  · have h7 : ((s.size : Int) == 7) = false := by simp; omega
    have hc : Hid (codeOk s = false) := by show codeOk s = _; unfold codeOk; simp [h]
    clear h
    go_enter Try.func24, Try.ntmps24
    go_wp2
    go_ret
    exact ⟨ret_bool hc.out.symm, rfl⟩

theorem specCodeValid (s : Str) (hs : s.size ≤ 2147483647) (w : World) :
    Calls Try.prog 25 #[.string s] w fun e w' => e = .returned (.bool (codeOk s)) ∧ w = w' := by
  cases hd : digitsOk s
  · have hc : Hid (codeOk s = false) := by show codeOk s = _; rw [codeOk_eq, hd]; rfl
    go_enter Try.func25, Try.ntmps25
    go_wp2_with (go_at_call 36; refine (specDigitsValid _ (by omega) _).mono ?_; rintro e w' ⟨rfl, rfl⟩)
    go_ret
    exact ⟨ret_bool hc.out.symm, rfl⟩
  · have hc : Hid (codeOk s = decide (s.size = 7)) := by show codeOk s = _; rw [codeOk_eq, hd]; rfl
    by_cases h : s.size = 7
    · have h7 : ((s.size : Int) == 7) = true := by simp; omega
      have h8 : Hid (decide (s.size = 7) = true) := by show decide _ = _; simp [h]
      clear h
      go_enter Try.func25, Try.ntmps25
      go_wp2_with (go_at_call 36; refine (specDigitsValid _ (by omega) _).mono ?_; rintro e w' ⟨rfl, rfl⟩)
      go_ret
      exact ⟨ret_bool (hc.out.trans h8.out).symm, rfl⟩
    · have h7 : ((s.size : Int) == 7) = false := by simp; omega
      have h8 : Hid (decide (s.size = 7) = false) := by show decide _ = _; simp [h]
      clear h
      go_enter Try.func25, Try.ntmps25
      go_wp2_with (go_at_call 36; refine (specDigitsValid _ (by omega) _).mono ?_; rintro e w' ⟨rfl, rfl⟩)
      go_ret
      exact ⟨ret_bool (hc.out.trans h8.out).symm, rfl⟩
end Go.Proofs.Ytjibjoapbjojlaa
