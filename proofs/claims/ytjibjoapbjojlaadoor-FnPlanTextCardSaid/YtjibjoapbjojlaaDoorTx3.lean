/-
  Numbers read: the program's and the reference's.
-/
import Derived.Test.YtjibjoapbjojlaaDoorTx2
import Derived.Deep.Cut
namespace Go.Proofs.YtjibjoapbjojlaaDoor
open Go.RowKit

theorem cut_minus (s : Str) : ∃ (neg : Bool) (x : Str), strOf (Lib.trimPrefix s.data.toList [45]) = x ∧ Lib.hasPrefix s.data.toList [45] = neg ∧ x.size ≤ s.size ∧ numOk s.data.toList = numB neg x ∧ numVal s.data.toList = numV neg x := by
  by_cases h : s.data.toList.head? = some 45
  · obtain ⟨r, hr⟩ : ∃ r, s.data.toList = 45 :: r := by
      cases hl : s.data.toList with
      | nil => rw [hl] at h; cases h
      | cons y r => rw [hl] at h; injection h with h; exact ⟨r, by rw [h]⟩
    have hp : Lib.hasPrefix s.data.toList [45] = true := by rw [hr]; simp [Lib.hasPrefix]
    have hn := num_neg (s := s) (x := strOf r) (by rw [strOf_data, hr])
    refine ⟨true, strOf r, ?_, hp, by rw [strOf_size, ← size_data, hr]; simp, hn.1, hn.2⟩
    unfold Lib.trimPrefix
    rw [hp, hr]; rfl
  · have hp : Lib.hasPrefix s.data.toList [45] = false := by
      unfold Lib.hasPrefix
      cases hl : s.data.toList with
      | nil => rfl
      | cons y r =>
        rw [hl] at h
        simp at h
        have h2 : ¬ (45 : UInt8) = y := fun e => h e.symm
        show ((45 : UInt8) == y && List.isPrefixOf [] r) = false
        rw [beq_eq_false_iff_ne.2 h2]; rfl
    have hn := num_pos h
    refine ⟨false, s, ?_, hp, Nat.le_refl _, hn.1, hn.2⟩
    unfold Lib.trimPrefix
    rw [hp]
    exact strOf_self s

set_option maxHeartbeats 2000000 in
set_option maxRecDepth 100000 in
theorem implNumber (s : Str) (hs : s.size ≤ 1048576) (w : World) :
    Calls Tryd.prog 39 #[.string s] w fun e w' => e = .returned (.tuple #[.int .i64 (numVal s.data.toList), .bool (numOk s.data.toList)]) ∧ Below w.heap.size w w' := by
  obtain ⟨neg, x, hx, hneg, hz, ho, hv⟩ := cut_minus s
  have K : Hid (∀ w, Calls Tryd.prog 68 #[.string s, .string (⟨#[45]⟩ : Str)] w fun e w' => e = .returned (.tuple #[.string x, .bool neg]) ∧ w' = w) := fun w => by
    have := Tryd.strings_CutPrefix s (⟨#[45]⟩ : Str) w
    rw [← hx, ← hneg]; exact this
  rw [ho, hv]
  clear hx hneg ho hv
  have KA : Hid (∀ w, Calls Tryd.prog 69 #[.string x] w fun e w' => e = .returned (.bool (allDig x)) ∧ w = w') := fun w => implAllDigits x (by omega) w
  by_cases h0 : x.size = 0
  · obtain ⟨e1, e2⟩ := numB_len (neg := neg) (x := x) (by omega)
    rw [e1, e2]
    have hq : (ByteArray.toList x).isEmpty = true := by
      have : x = ByteArray.empty := str_eq' (by
        have : x.data.toList.length = 0 := h0
        rw [List.eq_nil_of_length_eq_zero this]; rfl)
      rw [this]; simp
    clear e1 e2
    go_enter Tryd.func39, Tryd.ntmps39
    go_wp2_with (go_at_call 68; refine (K.out _).mono ?_; rintro e w1 ⟨rfl, rfl⟩)
    go_ret2
    exact ⟨rfl, Below.refl _ _⟩
  have hq : (ByteArray.toList x).isEmpty = false := by
    have := str_f (a := x) (b := (⟨#[]⟩ : Str)) (by rintro rfl; exact h0 rfl)
    simpa using this
  by_cases h17 : 17 < x.size
  · obtain ⟨e1, e2⟩ := numB_len (neg := neg) (x := x) (by omega)
    rw [e1, e2]
    have h17I : (17 : Int) < (x.size : Int) := by omega
    clear e1 e2
    go_enter Tryd.func39, Tryd.ntmps39
    go_wp2_with (go_at_call 68; refine (K.out _).mono ?_; rintro e w1 ⟨rfl, rfl⟩)
    go_ret2
    exact ⟨rfl, Below.refl _ _⟩
  have h17I : ¬ (17 : Int) < (x.size : Int) := by omega
  cases hd : allDig x
  · obtain ⟨e1, e2⟩ := numB_dig (neg := neg) hd
    rw [e1, e2]
    rw [hd] at KA
    clear e1 e2
    go_enter Tryd.func39, Tryd.ntmps39
    go_wp2_with (first
      | (go_at_call 68; refine (K.out _).mono ?_; rintro e w1 ⟨rfl, rfl⟩)
      | (go_at_call 69; refine (KA.out _).mono ?_; rintro e w1 ⟨rfl, rfl⟩))
    go_ret2
    exact ⟨rfl, Below.refl _ _⟩
  have hpos : 0 < x.size := by omega
  have hpI : (0 : Int) < (x.size : Int) := by omega
  have Hd := Lib.hid hd
  rw [hd] at KA
  by_cases hz0 : x[0] = 48
  · have h48 : ((x[0].toNat : Int) == 48) = true := by rw [hz0]; rfl
    by_cases h1 : 1 < x.size
    · obtain ⟨e1, e2⟩ := numB_zero (neg := neg) hpos hz0 (.inr h1)
      rw [e1, e2]
      have h1I : (1 : Int) < (x.size : Int) := by omega
      clear e1 e2 hz0 hd
      go_enter Tryd.func39, Tryd.ntmps39
      go_wp2_with (first
        | (go_at_call 68; refine (K.out _).mono ?_; rintro e w1 ⟨rfl, rfl⟩)
        | (go_at_call 69; refine (KA.out _).mono ?_; rintro e w1 ⟨rfl, rfl⟩))
      go_ret2
      exact ⟨rfl, Below.refl _ _⟩
    · have h1I : ¬ (1 : Int) < (x.size : Int) := by omega
      cases neg
      · obtain ⟨e1, e2⟩ := numB_ok (neg := false) hpos (by omega) Hd.out (.inr ⟨rfl, h1⟩)
        rw [e1, e2]
        have KD : Hid (∀ w, Calls Tryd.prog 70 #[.string x] w fun e w' => e = .returned (.int .i64 (digVal x.data.toList)) ∧ w = w') := fun w => implDigits x (by omega) Hd.out w
        obtain ⟨v, hv⟩ : ∃ v, digVal x.data.toList = v := ⟨_, rfl⟩
        rw [hv] at KD
        rw [hv]
        clear e1 e2 hz0 hd hv
        go_enter Tryd.func39, Tryd.ntmps39
        go_wp2_with (first
          | (go_at_call 68; refine (K.out _).mono ?_; rintro e w1 ⟨rfl, rfl⟩)
          | (go_at_call 69; refine (KA.out _).mono ?_; rintro e w1 ⟨rfl, rfl⟩)
          | (go_at_call 70; refine (KD.out _).mono ?_; rintro e w1 ⟨rfl, rfl⟩))
        go_ret2
        exact ⟨rfl, Below.refl _ _⟩
      · obtain ⟨e1, e2⟩ := numB_zero (neg := true) hpos hz0 (.inl rfl)
        rw [e1, e2]
        clear e1 e2 hz0 hd
        go_enter Tryd.func39, Tryd.ntmps39
        go_wp2_with (first
          | (go_at_call 68; refine (K.out _).mono ?_; rintro e w1 ⟨rfl, rfl⟩)
          | (go_at_call 69; refine (KA.out _).mono ?_; rintro e w1 ⟨rfl, rfl⟩))
        go_ret2
        exact ⟨rfl, Below.refl _ _⟩
  · have h48 : ((x[0].toNat : Int) == 48) = false := beq_eq_false_iff_ne.2 (fun e => hz0 (UInt8.toNat_inj.1 (by have : (48 : UInt8).toNat = 48 := rfl; omega)))
    obtain ⟨e1, e2⟩ := numB_ok (neg := neg) hpos (by omega) Hd.out (.inl hz0)
    rw [e1, e2]
    have KD : Hid (∀ w, Calls Tryd.prog 70 #[.string x] w fun e w' => e = .returned (.int .i64 (digVal x.data.toList)) ∧ w = w') := fun w => implDigits x (by omega) Hd.out w
    have hbd := dig_bd Hd.out (k := 17) (Nat.le_refl _)
    rw [List.take_of_length_le (by rw [size_data]; omega)] at hbd
    obtain ⟨v, hv⟩ : ∃ v, digVal x.data.toList = v := ⟨_, rfl⟩
    rw [hv] at KD hbd
    rw [hv]
    have b1 := hbd.1
    have b2 := hbd.2
    clear e1 e2 hz0 hd hv hbd
    cases neg
    · go_enter Tryd.func39, Tryd.ntmps39
      go_wp2_with (first
        | (go_at_call 68; refine (K.out _).mono ?_; rintro e w1 ⟨rfl, rfl⟩)
        | (go_at_call 69; refine (KA.out _).mono ?_; rintro e w1 ⟨rfl, rfl⟩)
        | (go_at_call 70; refine (KD.out _).mono ?_; rintro e w1 ⟨rfl, rfl⟩))
      go_ret2
      exact ⟨rfl, Below.refl _ _⟩
    · go_enter Tryd.func39, Tryd.ntmps39
      go_wp2_with (first
        | (go_at_call 68; refine (K.out _).mono ?_; rintro e w1 ⟨rfl, rfl⟩)
        | (go_at_call 69; refine (KA.out _).mono ?_; rintro e w1 ⟨rfl, rfl⟩)
        | (go_at_call 70; refine (KD.out _).mono ?_; rintro e w1 ⟨rfl, rfl⟩))
      go_ret2
      exact ⟨rfl, Below.refl _ _⟩

theorem size_ext (s : Str) : (s.extract 1 s.size).size = s.size - 1 := by rw [ByteArray.size_extract]; omega
theorem get_bool {a b : UInt8} {v : Int} (hb : v = (b.toNat : Int)) (h : a = b) : ((a.toNat : Int) == v) = true := by subst hb; rw [h]; exact beq_self_eq_true _
theorem get_boolf {a b : UInt8} {v : Int} (hb : v = (b.toNat : Int)) (h : ¬ a = b) : ((a.toNat : Int) == v) = false := by subst hb; exact beq_eq_false_iff_ne.2 (u8_ne h)

theorem digTake {x : Str} (k : Nat) (hk : k ≤ 17) (h : ∀ (j : Nat) (hj : j < x.size), j < k → isDig x[j] = true) : 0 ≤ digVal (x.data.toList.take k) ∧ digVal (x.data.toList.take k) < 100000000000000000 := by
  have hall : ∀ d ∈ x.data.toList.take k, isDig d = true := fun d hd => by
    obtain ⟨j, hj, rfl⟩ := List.getElem_of_mem hd
    rw [List.length_take, size_data] at hj
    rw [List.getElem_take]
    exact h j (by omega) (by omega)
  obtain ⟨h1, h2⟩ := digVal_bd _ _ rfl hall
  refine ⟨h1, Int.lt_of_lt_of_le h2 ?_⟩
  have hl : (x.data.toList.take k).length ≤ 17 := by rw [List.length_take]; omega
  have : (10 : Int) ^ (x.data.toList.take k).length ≤ 10 ^ 17 := by
    have := Nat.pow_le_pow_right (n := 10) (by decide) hl
    exact_mod_cast this
  exact this

set_option maxHeartbeats 4000000 in
set_option maxRecDepth 100000 in
theorem specNumNeg (s : Str) (hs : s.size ≤ 1048576) (w : World) (h1 : 0 < s.size) (hc : s[0] = 45) :
    Calls Tryd.prog 36 #[.string s] w fun e w' => e = .returned (.tuple #[.int .i64 (numV true (s.extract 1 s.size)), .bool (numB true (s.extract 1 s.size))]) ∧ w = w' := by
  obtain ⟨x, hx⟩ : ∃ x, s.extract 1 s.size = x := ⟨_, rfl⟩
  have hxz : x.size ≤ 1048576 := by rw [← hx, size_ext]; omega
  rw [hx]
  have HX := Lib.hid hx
  have q0 : (0 : Int) < (s.size : Int) := by omega
  have q1 : ((s[0].toNat : Int) == 45) = true := get_bool rfl hc
  have q2 : (1 : Int) ≤ (s.size : Int) := by omega
  clear hx hc
  by_cases h0 : x.size = 0
  · obtain ⟨e1, e2⟩ := numB_len (neg := true) (x := x) (by omega)
    rw [e1, e2]
    have h0I : ((x.size : Int) == 0) = true := by rw [h0]; rfl
    clear e1 e2
    go_enter Tryd.func36, Tryd.ntmps36
    go_upto_region 4 with fail
    rw [HX.out]
    go_wp2
    go_ret2
    exact ⟨rfl, rfl⟩
  have h0I : ((x.size : Int) == 0) = false := beq_eq_false_iff_ne.2 (by omega)
  by_cases h17 : 17 < x.size
  · obtain ⟨e1, e2⟩ := numB_len (neg := true) (x := x) (by omega)
    rw [e1, e2]
    have h17I : (17 : Int) < (x.size : Int) := by omega
    clear e1 e2
    go_enter Tryd.func36, Tryd.ntmps36
    go_upto_region 4 with fail
    rw [HX.out]
    go_wp2
    go_ret2
    exact ⟨rfl, rfl⟩
  have h17I : ¬ (17 : Int) < (x.size : Int) := by omega
  have hpos : 0 < x.size := by omega
  have hpI : (0 : Int) < (x.size : Int) := by omega
  by_cases hz0 : x[0] = 48
  · have h48 : ((x[0].toNat : Int) == 48) = true := get_bool rfl hz0
    obtain ⟨e1, e2⟩ := numB_zero (neg := true) hpos hz0 (.inl rfl)
    rw [e1, e2]
    by_cases h1 : 1 < x.size
    · have h1I : (1 : Int) < (x.size : Int) := by omega
      clear e1 e2 hz0
      go_enter Tryd.func36, Tryd.ntmps36
      go_upto_region 4 with fail
      rw [HX.out]
      go_wp2
      go_ret2
      exact ⟨rfl, rfl⟩
    · have h1I : ¬ (1 : Int) < (x.size : Int) := by omega
      clear e1 e2 hz0
      go_enter Tryd.func36, Tryd.ntmps36
      go_upto_region 4 with fail
      rw [HX.out]
      go_wp2
      go_ret2
      exact ⟨rfl, rfl⟩
  · have h48 : ((x[0].toNat : Int) == 48) = false := get_boolf rfl hz0
    have Hz : Hid (¬ x[0] = 48) := hz0
    clear hz0
    go_enter Tryd.func36, Tryd.ntmps36
    go_upto_region 4 with fail
    rw [HX.out]
    go_wp2
    go_loop [5, 6] (fun n i => ∃ (k : Nat) (v : Int), k ≤ x.size ∧ i = .int .i64 k ∧ n = .int .i64 v ∧ 0 ≤ v ∧ v < 100000000000000000 ∧ Hid (v = digVal (x.data.toList.take k)) ∧ Hid (∀ (j : Nat) (hj : j < x.size), j < k → isDig x[j] = true)) (fun _ i => x.size - (intOf i).toNat)
    case atStart => exact ⟨0, 0, Nat.zero_le _, rfl, rfl, by omega, by omega, rfl, fun j _ h => absurd h (by omega)⟩
    case round =>
      obtain ⟨k, v, hk, rfl, rfl, b3, b4, HV, H⟩ := hrel
      by_cases hlt : k < x.size
      · by_cases g1 : 48 ≤ (x[k].toNat : Int)
        · by_cases g2 : (x[k].toNat : Int) ≤ 57
          · have HN : Hid (v * 10 + ((x[k].toNat : Int) - 48) = digVal (x.data.toList.take (k + 1))) := by show _ = _; rw [HV.out, dig_step hlt]
            have HD : Hid (∀ (j : Nat) (hj : j < x.size), j < k + 1 → isDig x[j] = true) := fun j hj hjk => by
              by_cases e : j = k
              · subst e; exact isDig_t g1 g2
              · exact H.out j hj (by omega)
            have hb : 0 ≤ v * 10 + ((x[k].toNat : Int) - 48) ∧ v * 10 + ((x[k].toNat : Int) - 48) < 100000000000000000 := by
              rw [HN.out]
              refine digTake (k + 1) (by omega) fun j hj hjk => HD.out j hj hjk
            have b5 := hb.1
            have b6 := hb.2
            clear hb
            go_wp2
            go_round
            case rel => exact ⟨k + 1, _, by omega, by go_num, rfl, b5, b6, HN.out, HD.out⟩
            case measure => simp [intOf]; omega
          · have hbad := allDig_false hlt (isDig_f2 (by omega))
            have Hr := Lib.hid (numB_dig (neg := true) hbad)
            clear hbad
            go_wp2
            go_ret2
            exact ⟨by rw [Hr.out.1, Hr.out.2]; rfl, rfl⟩
        · have hbad := allDig_false hlt (isDig_f1 (by omega))
          have Hr := Lib.hid (numB_dig (neg := true) hbad)
          clear hbad
          go_wp2
          go_ret2
          exact ⟨by rw [Hr.out.1, Hr.out.2]; rfl, rfl⟩
      · obtain rfl : k = x.size := by omega
        have e : v = digVal x.data.toList := by rw [HV.out, List.take_of_length_le (by rw [size_data]; exact Nat.le_refl _)]
        have hd : allDig x = true := (allDig_iff x).2 fun j hj => H.out j hj hj
        have Hr := Lib.hid (numB_ok (neg := true) hpos (by omega) hd (.inl Hz.out))
        have He := Lib.hid e
        clear e hd
        go_wp2
        go_ret2
        exact ⟨by rw [Hr.out.1, Hr.out.2, ← He.out]; rfl, rfl⟩

set_option maxHeartbeats 4000000 in
set_option maxRecDepth 100000 in
theorem specNumPos (s : Str) (hs : s.size ≤ 1048576) (w : World) (hc : ∀ h : 0 < s.size, ¬ s[0] = 45) :
    Calls Tryd.prog 36 #[.string s] w fun e w' => e = .returned (.tuple #[.int .i64 (numV false s), .bool (numB false s)]) ∧ w = w' := by
  obtain ⟨x, hx⟩ : ∃ x, s = x := ⟨_, rfl⟩
  subst hx
  by_cases h0 : s.size = 0
  · obtain ⟨e1, e2⟩ := numB_len (neg := false) (x := s) (by omega)
    rw [e1, e2]
    have h0I : ((s.size : Int) == 0) = true := by rw [h0]; rfl
    clear e1 e2
    have q0 : ¬ (0 : Int) < (s.size : Int) := by omega
    clear hc
    go_enter Tryd.func36, Tryd.ntmps36
    go_wp2
    go_ret2
    exact ⟨rfl, rfl⟩
  have q0 : (0 : Int) < (s.size : Int) := by omega
  have q1 : ((s[0].toNat : Int) == 45) = false := get_boolf rfl (hc (by omega))
  clear hc
  have h0I : ((s.size : Int) == 0) = false := beq_eq_false_iff_ne.2 (by omega)
  by_cases h17 : 17 < s.size
  · obtain ⟨e1, e2⟩ := numB_len (neg := false) (x := s) (by omega)
    rw [e1, e2]
    have h17I : (17 : Int) < (s.size : Int) := by omega
    clear e1 e2
    go_enter Tryd.func36, Tryd.ntmps36
    go_wp2
    go_ret2
    exact ⟨rfl, rfl⟩
  have h17I : ¬ (17 : Int) < (s.size : Int) := by omega
  have hpos : 0 < s.size := by omega
  have hpI : (0 : Int) < (s.size : Int) := by omega
  by_cases hz0 : s[0] = 48
  · have h48 : ((s[0].toNat : Int) == 48) = true := get_bool rfl hz0
    by_cases h1 : 1 < s.size
    · obtain ⟨e1, e2⟩ := numB_zero (neg := false) hpos hz0 (.inr h1)
      rw [e1, e2]
      have h1I : (1 : Int) < (s.size : Int) := by omega
      clear e1 e2 hz0
      go_enter Tryd.func36, Tryd.ntmps36
      go_wp2
      go_ret2
      exact ⟨rfl, rfl⟩
    · have h1I : ¬ (1 : Int) < (s.size : Int) := by omega
      have Hz : Hid (¬ s[0] = 48 ∨ ¬ 1 < s.size) := .inr h1
      clear hz0
      go_enter Tryd.func36, Tryd.ntmps36
      go_wp2
      go_loop [5, 6] (fun n i => ∃ (k : Nat) (v : Int), k ≤ s.size ∧ i = .int .i64 k ∧ n = .int .i64 v ∧ 0 ≤ v ∧ v < 100000000000000000 ∧ Hid (v = digVal (s.data.toList.take k)) ∧ Hid (∀ (j : Nat) (hj : j < s.size), j < k → isDig s[j] = true)) (fun _ i => s.size - (intOf i).toNat)
      case atStart => exact ⟨0, 0, Nat.zero_le _, rfl, rfl, by omega, by omega, rfl, fun j _ h => absurd h (by omega)⟩
      case round =>
        obtain ⟨k, v, hk, rfl, rfl, b3, b4, HV, H⟩ := hrel
        by_cases hlt : k < s.size
        · by_cases g1 : 48 ≤ (s[k].toNat : Int)
          · by_cases g2 : (s[k].toNat : Int) ≤ 57
            · have HN : Hid (v * 10 + ((s[k].toNat : Int) - 48) = digVal (s.data.toList.take (k + 1))) := by show _ = _; rw [HV.out, dig_step hlt]
              have HD : Hid (∀ (j : Nat) (hj : j < s.size), j < k + 1 → isDig s[j] = true) := fun j hj hjk => by
                by_cases e : j = k
                · subst e; exact isDig_t g1 g2
                · exact H.out j hj (by omega)
              have hb : 0 ≤ v * 10 + ((s[k].toNat : Int) - 48) ∧ v * 10 + ((s[k].toNat : Int) - 48) < 100000000000000000 := by
                rw [HN.out]
                refine digTake (k + 1) (by omega) fun j hj hjk => HD.out j hj hjk
              have b5 := hb.1
              have b6 := hb.2
              clear hb
              go_wp2
              go_round
              case rel => exact ⟨k + 1, _, by omega, by go_num, rfl, b5, b6, HN.out, HD.out⟩
              case measure => simp [intOf]; omega
            · have hbad := allDig_false hlt (isDig_f2 (by omega))
              have Hr := Lib.hid (numB_dig (neg := false) hbad)
              clear hbad
              go_wp2
              go_ret2
              exact ⟨by rw [Hr.out.1, Hr.out.2]; rfl, rfl⟩
          · have hbad := allDig_false hlt (isDig_f1 (by omega))
            have Hr := Lib.hid (numB_dig (neg := false) hbad)
            clear hbad
            go_wp2
            go_ret2
            exact ⟨by rw [Hr.out.1, Hr.out.2]; rfl, rfl⟩
        · obtain rfl : k = s.size := by omega
          have e : v = digVal s.data.toList := by rw [HV.out, List.take_of_length_le (by rw [size_data]; exact Nat.le_refl _)]
          have hd : allDig s = true := (allDig_iff s).2 fun j hj => H.out j hj hj
          have Hr := Lib.hid (numB_ok (neg := false) hpos (by omega) hd (Hz.out.imp id fun h => ⟨rfl, h⟩))
          have He := Lib.hid e
          clear e hd
          go_wp2
          go_ret2
          exact ⟨by rw [Hr.out.1, Hr.out.2, ← He.out]; rfl, rfl⟩
  · have h48 : ((s[0].toNat : Int) == 48) = false := get_boolf rfl hz0
    have Hz : Hid (¬ s[0] = 48 ∨ ¬ 1 < s.size) := .inl hz0
    clear hz0
    go_enter Tryd.func36, Tryd.ntmps36
    go_wp2
    go_loop [5, 6] (fun n i => ∃ (k : Nat) (v : Int), k ≤ s.size ∧ i = .int .i64 k ∧ n = .int .i64 v ∧ 0 ≤ v ∧ v < 100000000000000000 ∧ Hid (v = digVal (s.data.toList.take k)) ∧ Hid (∀ (j : Nat) (hj : j < s.size), j < k → isDig s[j] = true)) (fun _ i => s.size - (intOf i).toNat)
    case atStart => exact ⟨0, 0, Nat.zero_le _, rfl, rfl, by omega, by omega, rfl, fun j _ h => absurd h (by omega)⟩
    case round =>
      obtain ⟨k, v, hk, rfl, rfl, b3, b4, HV, H⟩ := hrel
      by_cases hlt : k < s.size
      · by_cases g1 : 48 ≤ (s[k].toNat : Int)
        · by_cases g2 : (s[k].toNat : Int) ≤ 57
          · have HN : Hid (v * 10 + ((s[k].toNat : Int) - 48) = digVal (s.data.toList.take (k + 1))) := by show _ = _; rw [HV.out, dig_step hlt]
            have HD : Hid (∀ (j : Nat) (hj : j < s.size), j < k + 1 → isDig s[j] = true) := fun j hj hjk => by
              by_cases e : j = k
              · subst e; exact isDig_t g1 g2
              · exact H.out j hj (by omega)
            have hb : 0 ≤ v * 10 + ((s[k].toNat : Int) - 48) ∧ v * 10 + ((s[k].toNat : Int) - 48) < 100000000000000000 := by
              rw [HN.out]
              refine digTake (k + 1) (by omega) fun j hj hjk => HD.out j hj hjk
            have b5 := hb.1
            have b6 := hb.2
            clear hb
            go_wp2
            go_round
            case rel => exact ⟨k + 1, _, by omega, by go_num, rfl, b5, b6, HN.out, HD.out⟩
            case measure => simp [intOf]; omega
          · have hbad := allDig_false hlt (isDig_f2 (by omega))
            have Hr := Lib.hid (numB_dig (neg := false) hbad)
            clear hbad
            go_wp2
            go_ret2
            exact ⟨by rw [Hr.out.1, Hr.out.2]; rfl, rfl⟩
        · have hbad := allDig_false hlt (isDig_f1 (by omega))
          have Hr := Lib.hid (numB_dig (neg := false) hbad)
          clear hbad
          go_wp2
          go_ret2
          exact ⟨by rw [Hr.out.1, Hr.out.2]; rfl, rfl⟩
      · obtain rfl : k = s.size := by omega
        have e : v = digVal s.data.toList := by rw [HV.out, List.take_of_length_le (by rw [size_data]; exact Nat.le_refl _)]
        have hd : allDig s = true := (allDig_iff s).2 fun j hj => H.out j hj hj
        have Hr := Lib.hid (numB_ok (neg := false) hpos (by omega) hd (Hz.out.imp id fun h => ⟨rfl, h⟩))
        have He := Lib.hid e
        clear e hd
        go_wp2
        go_ret2
        exact ⟨by rw [Hr.out.1, Hr.out.2, ← He.out]; rfl, rfl⟩

theorem specNum (s : Str) (hs : s.size ≤ 1048576) (w : World) :
    Calls Tryd.prog 36 #[.string s] w fun e w' => e = .returned (.tuple #[.int .i64 (numVal s.data.toList), .bool (numOk s.data.toList)]) ∧ w = w' := by
  by_cases h0 : 0 < s.size
  · by_cases hc : s[0] = 45
    · have hl : s.data.toList = 45 :: (s.extract 1 s.size).data.toList := by
        have hk : 0 < s.data.toList.length := by rw [size_data]; exact h0
        rw [extract_data, List.take_of_length_le (by rw [List.length_drop, size_data]; exact Nat.le_refl _)]
        conv => lhs; rw [← List.drop_zero (l := s.data.toList), List.drop_eq_getElem_cons hk]
        congr 1
      rw [(num_neg hl).1, (num_neg hl).2]
      exact specNumNeg s hs w h0 hc
    · have hh : ¬ s.data.toList.head? = some 45 := by rw [head_eq h0]; intro e; exact hc (Option.some.inj e)
      rw [(num_pos hh).1, (num_pos hh).2]
      exact specNumPos s hs w fun _ => hc
  · have hh : ¬ s.data.toList.head? = some 45 := by
      rw [List.eq_nil_of_length_eq_zero (show s.data.toList.length = 0 by rw [size_data]; omega)]; intro e; cases e
    rw [(num_pos hh).1, (num_pos hh).2]
    exact specNumPos s hs w fun h => absurd h h0
end Go.Proofs.YtjibjoapbjojlaaDoor
