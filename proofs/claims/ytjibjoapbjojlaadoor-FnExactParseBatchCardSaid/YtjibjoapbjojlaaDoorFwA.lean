/-
  Looking up an order by its code: the program's forwardOf and the reference's l4Index.
-/
import Derived.Test.YtjibjoapbjojlaaDoorCode
namespace Go.Proofs.YtjibjoapbjojlaaDoor
open Go.RowKit

theorem implForwardOf (A : Option Addr) (l : List Fw) (n cap : Nat) (hl : n = l.length) (c : Str) (w : World) (hn : n ≤ 2147483647) (h : Rd w 2 fwEnc A l) :
    Calls Tryd.prog 64 #[.slice A n cap, .string c] w fun e w' => e = .returned (.int .i64 (idxInt (fwIdx l c))) ∧ Below w.heap.size w w' := by
  subst hl
  have Hr := Lib.hid h
  clear h
  go_enter Tryd.func64, Tryd.ntmps64
  go_wp2
  go_loopw [9] (fun i wr => ∃ k : Nat, k ≤ l.length ∧ i = .int .i64 k ∧ Below w.heap.size w wr ∧ Hid (∀ (j : Nat) (x : Fw), j < k → l[j]? = some x → x.1 ≠ c)) (fun i _ => l.length - (intOf i).toNat)
  case atStart => exact ⟨0, Nat.zero_le _, rfl, Below.refl _ _, fun j x hj => absurd hj (by omega)⟩
  case round =>
    obtain ⟨k, hk, rfl, hb, H⟩ := hrel
    by_cases hlt : k < l.length
    · obtain ⟨x, hx⟩ : ∃ x, l[k]? = some x := ⟨_, List.getElem?_eq_getElem hlt⟩
      obtain ⟨ad, rfl, hab, c0, c1⟩ := (Hr.out.below hb).two hx rfl
      have Hx := Lib.hid hx
      clear hx
      by_cases hc : x.1 = c
      · have hq := str_t hc
        have Hc : Hid (fwIdx l c = some k) := fwIdx_some.2 ⟨⟨x, Hx.out, hc⟩, H.out⟩
        clear hc
        go_wp2
        go_ret
        exact ⟨by rw [Hc.out]; rfl, hb.alloc hb.size _⟩
      · have hq := str_f hc
        have Hc := Lib.hid hc
        clear hc
        go_wp2
        go_roundw
        case rel =>
          refine ⟨k + 1, by omega, by go_num, hb.alloc hb.size _, fun j y hj hy => ?_⟩
          by_cases e : j = k
          · subst e
            rw [Hx.out] at hy
            injection hy with hy
            subst hy
            exact Hc.out
          · exact H.out j y (by omega) hy
        case measure => simp [intOf]; omega
    · obtain rfl : k = l.length := by omega
      go_wp2
      go_ret
      exact ⟨by rw [show fwIdx l c = none from fwIdx_none.2 fun i x hx => H.out i x (List.getElem?_eq_some_iff.1 hx).1 hx]; rfl, hb⟩

theorem specIndex (A : Option Addr) (l : List Fw) (n cap : Nat) (hl : n = l.length) (c : Str) (w : World) (hn : n ≤ 2147483647) (h : Rd w 2 fwEnc A l) :
    Calls Tryd.prog 89 #[.slice A n cap, .string c] w fun e w' => e = .returned (.int .i64 (idxInt (fwIdx l c))) ∧ w = w' := by
  subst hl
  have Hr := Lib.hid h
  clear h
  go_enter Tryd.func89, Tryd.ntmps89
  go_wp2
  go_loop [5] (fun i => ∃ k : Nat, k ≤ l.length ∧ i = .int .i64 k ∧ Hid (∀ (j : Nat) (x : Fw), j < k → l[j]? = some x → x.1 ≠ c)) (fun i => l.length - (intOf i).toNat)
  case atStart => exact ⟨0, Nat.zero_le _, rfl, fun j x hj => absurd hj (by omega)⟩
  case round =>
    obtain ⟨k, hk, rfl, H⟩ := hrel
    by_cases hlt : k < l.length
    · obtain ⟨x, hx⟩ : ∃ x, l[k]? = some x := ⟨_, List.getElem?_eq_getElem hlt⟩
      obtain ⟨ad, rfl, hab, c0, c1⟩ := Hr.out.two hx rfl
      have Hx := Lib.hid hx
      clear hx
      by_cases hc : x.1 = c
      · have hq := str_t hc
        have Hc : Hid (fwIdx l c = some k) := fwIdx_some.2 ⟨⟨x, Hx.out, hc⟩, H.out⟩
        clear hc
        go_wp2
        go_ret
        exact ⟨by rw [Hc.out]; rfl, rfl⟩
      · have hq := str_f hc
        have Hc := Lib.hid hc
        clear hc
        go_wp2
        go_round
        case rel =>
          refine ⟨k + 1, by omega, by go_num, fun j y hj hy => ?_⟩
          by_cases e : j = k
          · subst e
            rw [Hx.out] at hy
            injection hy with hy
            subst hy
            exact Hc.out
          · exact H.out j y (by omega) hy
        case measure => simp [intOf]; omega
    · obtain rfl : k = l.length := by omega
      go_wp2
      go_ret
      exact ⟨by rw [show fwIdx l c = none from fwIdx_none.2 fun i x hx => H.out i x (List.getElem?_eq_some_iff.1 hx).1 hx]; rfl, rfl⟩
end Go.Proofs.YtjibjoapbjojlaaDoor
