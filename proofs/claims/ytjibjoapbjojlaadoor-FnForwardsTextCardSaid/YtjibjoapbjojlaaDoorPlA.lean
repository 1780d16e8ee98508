/-
  Looking up a text in a list: the library's slices.Index and slices.Contains, the reference's l3Rank; lists of different codes.
-/
import Derived.Test.YtjibjoapbjojlaaDoorPlM
import Derived.Test.YtjibjoapbjojlaaDoorCode
namespace Go.Proofs.YtjibjoapbjojlaaDoor
open Go.RowKit

theorem idxInt_none' : idxInt none = -1 := rfl
theorem idxInt_some' (m : Nat) : idxInt (some m) = (m : Int) := rfl

theorem sliceIndex (A : Option Addr) (l : List Str) (n cap : Nat) (hl : n = l.length) (c : Str) (w : World) (hn : n ≤ 16777216) (h : Rd w 1 strEnc A l) :
    Calls Tryd.prog 102 #[.slice A n cap, .string c] w fun e w' => e = .returned (.int .i64 (idxInt (strIdx l c))) ∧ w = w' := by
  subst hl
  have Hr := Lib.hid h
  clear h
  go_enter Tryd.func102, Tryd.ntmps102
  go_wp2
  go_loop [8] (fun i => ∃ k : Nat, k ≤ l.length ∧ i = .int .i64 k ∧ Hid (∀ (j : Nat) (x : Str), j < k → l[j]? = some x → x ≠ c)) (fun i => l.length - (intOf i).toNat)
  case atStart => exact ⟨0, Nat.zero_le _, rfl, fun j x hj => absurd hj (by omega)⟩
  case round =>
    obtain ⟨k, hk, rfl, H⟩ := hrel
    by_cases hlt : k < l.length
    · obtain ⟨x, hx⟩ : ∃ x, l[k]? = some x := ⟨_, List.getElem?_eq_getElem hlt⟩
      obtain ⟨ad, rfl, hab, c0⟩ := Hr.out.one hx rfl
      have Hx := Lib.hid hx
      clear hx
      by_cases hc : x = c
      · subst hc
        have hq := str_t (a := x) rfl
        have Hc : Hid (strIdx l x = some k) := strIdx_some.2 ⟨Hx.out, H.out⟩
        go_wp2
        go_ret
        exact ⟨by rw [Hc.out]; rfl, rfl⟩
      · have hq := str_f hc
        have hq' := str_f (fun e => hc e.symm)
        have Hc := Lib.hid hc
        clear hc
        go_wp2
        go_round
        case rel =>
          refine ⟨k + 1, by omega, by go_num, fun j y hj hy => ?_⟩
          by_cases e : j = k
          · subst e
            rw [Hx.out] at hy
            injection hy with hy
            subst hy
            exact Hc.out
          · exact H.out j y (by omega) hy
        case measure => simp [intOf]; omega
    · obtain rfl : k = l.length := by omega
      go_wp2
      go_ret
      exact ⟨by rw [show strIdx l c = none from strIdx_none.2 fun i x hx => H.out i x (List.getElem?_eq_some_iff.1 hx).1 hx]; rfl, rfl⟩

theorem specRank (A : Option Addr) (l : List Str) (n cap : Nat) (hl : n = l.length) (c : Str) (w : World) (hn : n ≤ 16777216) (h : Rd w 1 strEnc A l) :
    Calls Tryd.prog 105 #[.slice A n cap, .string c] w fun e w' => e = .returned (.int .i64 (idxInt (strIdx l c))) ∧ w = w' := by
  subst hl
  have Hr := Lib.hid h
  clear h
  go_enter Tryd.func105, Tryd.ntmps105
  go_wp2
  go_loop [5] (fun i => ∃ k : Nat, k ≤ l.length ∧ i = .int .i64 k ∧ Hid (∀ (j : Nat) (x : Str), j < k → l[j]? = some x → x ≠ c)) (fun i => l.length - (intOf i).toNat)
  case atStart => exact ⟨0, Nat.zero_le _, rfl, fun j x hj => absurd hj (by omega)⟩
  case round =>
    obtain ⟨k, hk, rfl, H⟩ := hrel
    by_cases hlt : k < l.length
    · obtain ⟨x, hx⟩ : ∃ x, l[k]? = some x := ⟨_, List.getElem?_eq_getElem hlt⟩
      obtain ⟨ad, rfl, hab, c0⟩ := Hr.out.one hx rfl
      have Hx := Lib.hid hx
      clear hx
      by_cases hc : x = c
      · subst hc
        have hq := str_t (a := x) rfl
        have Hc : Hid (strIdx l x = some k) := strIdx_some.2 ⟨Hx.out, H.out⟩
        go_wp2
        go_ret
        exact ⟨by rw [Hc.out]; rfl, rfl⟩
      · have hq := str_f hc
        have Hc := Lib.hid hc
        clear hc
        go_wp2
        go_round
        case rel =>
          refine ⟨k + 1, by omega, by go_num, fun j y hj hy => ?_⟩
          by_cases e : j = k
          · subst e
            rw [Hx.out] at hy
            injection hy with hy
            subst hy
            exact Hc.out
          · exact H.out j y (by omega) hy
        case measure => simp [intOf]; omega
    · obtain rfl : k = l.length := by omega
      go_wp2
      go_ret
      exact ⟨by rw [show strIdx l c = none from strIdx_none.2 fun i x hx => H.out i x (List.getElem?_eq_some_iff.1 hx).1 hx]; rfl, rfl⟩

/-- A Bool that the walk does not open. -/
def strHas (l : List Str) (c : Str) : Bool := (strIdx l c).isSome
theorem strHas_ge (l : List Str) (c : Str) : decide (0 ≤ idxInt (strIdx l c)) = strHas l c := by
  unfold strHas
  cases strIdx l c <;> simp [idxInt]

theorem sliceContains (A : Option Addr) (l : List Str) (n cap : Nat) (hl : n = l.length) (c : Str) (w : World) (hn : n ≤ 16777216) (h : Rd w 1 strEnc A l) :
    Calls Tryd.prog 84 #[.slice A n cap, .string c] w fun e w' => e = .returned (.bool (strHas l c)) ∧ w = w' := by
  have Hr := Lib.hid h
  have Hl := Lib.hid hl
  clear h hl
  go_enter Tryd.func84, Tryd.ntmps84
  go_wp2_with (go_at_call 102; refine (sliceIndex _ l _ _ Hl.out _ _ hn Hr.out).mono ?_; rintro e w1 ⟨rfl, rfl⟩)
  go_ret
  exact ⟨ret_bool (strHas_ge l c), rfl⟩

set_option maxHeartbeats 1000000 in
theorem implCodesDiffer (A : Option Addr) (l : List Str) (n cap : Nat) (hl : n = l.length) (hcap : n ≤ cap) (w : World) (hn : n ≤ 16777216) (hs : ∀ x ∈ l, x.size ≤ 1048576) (h : Rd w 1 strEnc A l) :
    Calls Tryd.prog 58 #[.slice A n cap] w fun e w' => e = .returned (.bool (cdsOk l)) ∧ w = w' := by
  subst hl
  have Hr := Lib.hid h
  have Hs := Lib.hid hs
  clear h hs
  go_enter Tryd.func58, Tryd.ntmps58
  go_wp2
  go_loop [7] (fun i => ∃ k : Nat, k ≤ l.length ∧ i = .int .i64 k ∧ Hid (∀ j, j < k → cdOkAt l j = true)) (fun i => l.length - (intOf i).toNat)
  case atStart => exact ⟨0, Nat.zero_le _, rfl, fun j hj => absurd hj (by omega)⟩
  case round =>
    obtain ⟨k, hk, rfl, H⟩ := hrel
    by_cases hlt : k < l.length
    · obtain ⟨x, hx⟩ : ∃ x, l[k]? = some x := ⟨_, List.getElem?_eq_getElem hlt⟩
      have hs1 := Hs.out x (List.mem_of_getElem? hx)
      obtain ⟨ad, rfl, hab, c0⟩ := Hr.out.one hx rfl
      have Hx := Lib.hid (cdOkAt_eq hx)
      have Hrd : Hid (Rd w 1 strEnc (some ad) (l.take k)) := Hr.out.take k
      clear hx
      have hcase : codeOk x = false ∨ (codeOk x = true ∧ strHas (l.take k) x = true) ∨ (codeOk x = true ∧ strHas (l.take k) x = false) := by
        cases codeOk x <;> cases strHas (l.take k) x <;> simp
      rcases hcase with h1 | ⟨h1, h2⟩ | ⟨h1, h2⟩
      · have Hbad : Hid (cdsOk l = false) := cdsOk_bad hlt (by rw [Hx.out, h1]; rfl)
        go_wp2_with (go_at_call 49; refine (implCodeValid _ (by omega) _).mono ?_; rintro e w1 ⟨rfl, rfl⟩)
        go_ret
        exact ⟨ret_bool Hbad.out.symm, rfl⟩
      · have Hbad : Hid (cdsOk l = false) := cdsOk_bad hlt (by rw [Hx.out, h1]; unfold strHas at h2; cases h : strIdx (l.take k) x <;> simp_all)
        go_wp2_with (first
          | (go_at_call 49; refine (implCodeValid _ (by omega) _).mono ?_; rintro e w1 ⟨rfl, rfl⟩)
          | (go_at_call 84; refine (sliceContains _ (l.take k) _ _ (by rw [List.length_take]; omega) _ _ (by omega) Hrd.out).mono ?_; rintro e w1 ⟨rfl, rfl⟩))
        go_ret
        exact ⟨ret_bool Hbad.out.symm, rfl⟩
      · have Hok : Hid (cdOkAt l k = true) := by show _ = _; rw [Hx.out, h1]; unfold strHas at h2; cases h : strIdx (l.take k) x <;> simp_all
        go_wp2_with (first
          | (go_at_call 49; refine (implCodeValid _ (by omega) _).mono ?_; rintro e w1 ⟨rfl, rfl⟩)
          | (go_at_call 84; refine (sliceContains _ (l.take k) _ _ (by rw [List.length_take]; omega) _ _ (by omega) Hrd.out).mono ?_; rintro e w1 ⟨rfl, rfl⟩))
        go_round
        case rel => exact ⟨k + 1, by omega, by go_num, fun j hj => if e : j = k then e ▸ Hok.out else H.out j (by omega)⟩
        case measure => simp [intOf]; omega
    · obtain rfl : k = l.length := by omega
      go_wp2
      go_ret
      exact ⟨ret_bool ((cdsOk_iff l).2 H.out).symm, rfl⟩
end Go.Proofs.YtjibjoapbjojlaaDoor
