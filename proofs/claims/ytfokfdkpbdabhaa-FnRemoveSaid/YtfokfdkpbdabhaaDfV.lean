/-
  Two lists of orders that are the same: the laws' own comparison; the draw of an order to remove.
-/
import Derived.Test.YtfokfdkpbdabhaaDfT
namespace Go.Proofs.Ytfokfdkpbdabhaa
open Go.RowKit

theorem own_nil0 {α : Type} {w : World} {base : Nat} {e : TypeId} {size n c : Nat} {enc : α → List Value} {A : Option Addr} {l : List α} (h : Own w base e size enc (.slice A n c) l) : A = none → c = 0 := by
  intro hA
  subst hA
  rcases h.2 with ⟨e0, _⟩ | ⟨g, cap, cur, e0, _⟩
  · injection e0
  · injection e0 with e1; cases e1

set_option maxHeartbeats 1000000 in
set_option maxRecDepth 100000 in
theorem soFwC (A B : Option Addr) (l : List Fw) (n m c d : Nat) (hn : n = l.length) (hm : m = l.length) (w : World) (hnb : n ≤ 1048576) (ha : Rd w 2 fwEnc A l) (hb : Rd w 2 fwEnc B l) :
    Calls Try.prog 46 #[.slice A n c, .slice B m d] w fun e w' => e = .returned (.bool true) ∧ Below w.heap.size w w' := by
  obtain rfl : m = n := by omega
  have Hn := Lib.hid hn
  have Ha := Lib.hid ha
  have Hb := Lib.hid hb
  clear hn hm ha hb
  have h0 : ((m : Int) != (m : Int)) = false := by simp
  go_enter Try.func46, Try.ntmps46
  go_wp2
  go_loopw [5] (fun i wr => ∃ j : Nat, j ≤ m ∧ i = .int .i64 j ∧ Below w.heap.size w wr) (fun i _ => m - (intOf i).toNat)
  case atStart => exact ⟨0, Nat.zero_le _, rfl, Below.refl _ _⟩
  case round =>
    obtain ⟨j, hj, rfl, hbl⟩ := hrel
    by_cases hlt : j < m
    · obtain ⟨x, hx⟩ : ∃ x, l[j]? = some x := ⟨_, List.getElem?_eq_getElem (by have := Hn.out; omega)⟩
      obtain ⟨ad, rfl, hab, c0, c1⟩ := (Ha.out.below hbl).two hx rfl
      obtain ⟨ad', rfl, hab', d0, d1⟩ := (Hb.out.below hbl).two hx rfl
      have b1 : (j : Int) < (m : Int) := by omega
      have q1 : (ByteArray.toList x.1 == ByteArray.toList x.1) = true := by simp
      have q2 : (ByteArray.toList x.2 == ByteArray.toList x.2) = true := by simp
      clear hx
      go_wp2_with fail
      go_quiet (fail)
      go_wp2
      go_roundw
      case rel => exact ⟨j + 1, by omega, by go_num, below_drewN hbl _⟩
      case measure => simp [intOf]; omega
    · obtain rfl : j = m := by omega
      go_wp2
      go_ret
      exact ⟨rfl, hbl⟩

set_option maxHeartbeats 1000000 in
set_option maxRecDepth 100000 in
theorem drawRemoveC (A : Option Addr) (bs : List UInt8) (n cap : Nat) (hn : n = bs.length) (hc : n ≤ cap) (w : World) (hlen : n ≤ 1048576) (hr : Rd w 1 byEnc A bs) :
    Calls Try.prog 44 #[.slice A n cap] w fun e w' => ∃ A' n' c' l, ∃ s : Str, e = .returned (.tuple #[.slice A' n' c', .string s]) ∧ FwOut w w' A' n' c' l ∧ s.size ≤ 1048576 ∧ Below w.heap.size w w' := by
  have Hn := Lib.hid hn
  have Hr := Lib.hid hr
  clear hn hr
  go_enter Try.func44, Try.ntmps44
  go_wp2_with fail
  refine (drawNextC A bs n cap Hn.out hc _ hlen Hr.out).mono ?_
  rintro e w1 ⟨A1, n1, c1, l, s, rfl, ho, hs, hb⟩
  have HO := Lib.hid ho
  have HB := Lib.hid hb
  clear ho hb
  go_wp2
  go_ret2
  exact ⟨A1, n1, c1, l, s, rfl, HO.out, hs, HB.out⟩
end Go.Proofs.Ytfokfdkpbdabhaa
