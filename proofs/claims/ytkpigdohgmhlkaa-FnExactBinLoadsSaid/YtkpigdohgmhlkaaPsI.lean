/-
  Lists of numbers: the laws' own helpers; the loads of bins: the program's and the reference's.
-/
import Derived.Test.YtkpigdohgmhlkaaPsG
namespace Go.Proofs.Ytkpigdohgmhlkaa
open Go.RowKit

def intEnc (x : Int) : List Value := [.int .i64 x]
theorem intEnc_len (x : Int) : (intEnc x).length = 1 := rfl
theorem int_info : (Try.prog.info? 3).map (fun i => (i.zero, i.size, i.bytes)) = some (some (.int .i64 0), 1, 8) := by kernel_rfl
def intsEq (a b : List Int) : Bool := decide (a = b)
theorem intsEq_self (a : List Int) : intsEq a a = true := by simp [intsEq]
def intMks (k n : Nat) : List Int := (List.range n).map fun i => ((k + i : Nat) : Int)
theorem intMks_len (k n : Nat) : (intMks k n).length = n := by simp [intMks]
theorem intMks_at {k n i : Nat} (h : i < n) : (intMks k n)[i]? = some ((k + i : Nat) : Int) := by simp [intMks, h]
theorem intMks_step {k n i : Nat} {l : List Int} (hl : l.length = n) (h : i < n) : (intMks k i ++ l.drop i).set i ((k + i : Nat) : Int) = intMks k (i + 1) ++ l.drop (i + 1) := by
  rw [List.set_append_right _ _ (by rw [intMks_len]; omega), intMks_len, Nat.sub_self, List.drop_eq_getElem_cons (by omega), List.set_cons_zero]
  simp [intMks, List.range_succ]

set_option maxHeartbeats 1000000 in
set_option maxRecDepth 100000 in
theorem lawEqIntS (A B : Option Addr) (a _b : List Int) (n m capa capb : Nat) (hn : n = a.length) (hm : m = a.length) (w : World) (hna : n ≤ 16777216) (_hnb : m ≤ 2147483647) (ha : Rd w 1 intEnc A a) (hb : Rd w 1 intEnc B a) :
    Calls Try.prog 50 #[.slice A n capa, .slice B m capb] w fun e w' => e = .returned (.bool (intsEq a a)) ∧ Below w.heap.size w w' := by
  obtain rfl : m = n := by omega
  have Hn := Lib.hid hn
  have Ha := Lib.hid ha
  have Hb := Lib.hid hb
  have h0 : ((m : Int) != (m : Int)) = false := by simp
  clear ha hb hn hm
  rw [intsEq_self]
  go_enter Try.func50, Try.ntmps50
  go_wp2
  go_loopw [5] (fun i wr => ∃ k : Nat, k ≤ m ∧ i = .int .i64 k ∧ Hid (Below w.heap.size w wr)) (fun i _ => m - (intOf i).toNat)
  case atStart => exact ⟨0, Nat.zero_le _, rfl, Below.refl _ _⟩
  case round =>
    obtain ⟨k, hk, rfl, H⟩ := hrel
    by_cases hlt : k < m
    · obtain ⟨x, hx⟩ : ∃ x, a[k]? = some x := ⟨_, List.getElem?_eq_getElem (by have := Hn.out; omega)⟩
      obtain ⟨ad, rfl, hab, c0⟩ := (Ha.out.below H.out).one hx rfl
      obtain ⟨bd, rfl, hbb, d0⟩ := (Hb.out.below H.out).one hx rfl
      have hq : (x != x) = false := by simp
      have hlt' : (k : Int) < (m : Int) := by omega
      clear hx
      go_wp2_with fail
      go_quiet (fail)
      go_wp2
      go_roundw
      case rel => exact ⟨k + 1, by omega, by go_num, below_drewN H.out _⟩
      case measure => simp [intOf]; omega
    · obtain rfl : k = m := by omega
      go_wp2
      go_ret
      exact ⟨rfl, H.out⟩

set_option maxHeartbeats 2000000 in
set_option maxRecDepth 100000 in
theorem lawMarkIntS (A : Option Addr) (l : List Int) (n cap k base : Nat) (w : World) (hn : n ≤ 16777216) (hk0 : 1 ≤ k) (hk : k ≤ 16777216) (h : Own w base 3 1 intEnc (.slice A n cap) l) :
    Calls Try.prog 51 #[.slice A n cap, .int .i64 k] w fun e w' => e = .returned (.int .i64 (k + n : Nat)) ∧ Own w' base 3 1 intEnc (.slice A n cap) (intMks k n) ∧ w.grownBy w' (Value.slice A n cap).ownBlock := by
  have hlen := h.len
  have Hl := Lib.hid hlen
  have Ho := Lib.hid h
  clear h hlen
  go_enter Try.func51, Try.ntmps51
  go_wp2
  go_loopw [1, 5] (fun t i wr => ∃ j : Nat, j ≤ n ∧ i = .int .i64 j ∧ t = .int .i64 (k + j : Nat) ∧ Hid (w.grownBy wr (Value.slice A n cap).ownBlock) ∧ Hid (Own wr base 3 1 intEnc (.slice A n cap) (intMks k j ++ l.drop j))) (fun _ i _ => n - (intOf i).toNat)
  case atStart => exact ⟨0, Nat.zero_le _, rfl, rfl, World.grownBy.refl _ _, Ho.out⟩
  case round =>
    obtain ⟨j, hj, rfl, rfl, Hg, Hk⟩ := hrel
    clear Ho
    by_cases hlt : j < n
    · obtain ⟨g, rfl, hg1, hg2⟩ := Hk.out.head (by omega)
      have Hlen : Hid (n = (intMks k j ++ l.drop j).length) := by show n = _; rw [List.length_append, intMks_len, List.length_drop, ← Hl.out]; omega
      have Hz : Hid ((intMks k j ++ l.drop j)[j]? = some (l[j]'(by have := Hl.out; omega))) := by
        show _ = _
        rw [List.getElem?_append_right (by rw [intMks_len]; omega), intMks_len, Nat.sub_self, List.getElem?_drop, List.getElem?_eq_getElem (by have := Hl.out; omega)]
        rfl
      obtain ⟨x, hx⟩ : ∃ x, x = l[j]'(by have := Hl.out; omega) := ⟨_, rfl⟩
      rw [← hx] at Hz
      clear hx
      obtain ⟨q0, q1⟩ := Hk.out.cell2 intEnc_len Hlen.out Hz.out (j := 0) (by omega)
      rw [show (intEnc x)[0]? = some (.int .i64 x) from rfl] at q0
      simp only [Nat.add_zero, Nat.mul_one] at q0 q1
      have hlt' : (j : Int) < (n : Int) := by omega
      go_wp2
      go_roundw
      case rel =>
        refine ⟨j + 1, by omega, by go_num, by go_num, grown_setCell (p := ⟨g, j, none⟩) Hg.out (.inl rfl) _, ?_⟩
        have := Hk.out.set1 intEnc_len Hlen.out hlt (y := ((k + j : Nat) : Int)) rfl
        rw [intMks_step Hl.out.symm hlt] at this
        exact this
      case measure => simp [intOf]; omega
    · obtain rfl : j = n := by omega
      go_wp2
      go_ret
      refine ⟨rfl, ?_, Hg.out⟩
      have := Hk.out
      rw [List.drop_eq_nil_of_le (by have := Hl.out; omega), List.append_nil] at this
      exact this

set_option maxHeartbeats 2000000 in
set_option maxRecDepth 100000 in
theorem lawHeldIntS (A : Option Addr) (n cap k : Nat) (w : World) (hn : n ≤ 16777216) (hk0 : 1 ≤ k) (hk : k ≤ 16777216) (h : Rd w 1 intEnc A (intMks k n)) :
    Calls Try.prog 52 #[.slice A n cap, .int .i64 k] w fun e w' => e = .returned (.int .i64 (k + n : Nat)) ∧ Below w.heap.size w w' := by
  have Hr := Lib.hid h
  clear h
  go_enter Try.func52, Try.ntmps52
  go_wp2
  go_loopw [1, 5] (fun t i wr => ∃ j : Nat, j ≤ n ∧ i = .int .i64 j ∧ t = .int .i64 (k + j : Nat) ∧ Hid (Below w.heap.size w wr)) (fun _ i _ => n - (intOf i).toNat)
  case atStart => exact ⟨0, Nat.zero_le _, rfl, rfl, Below.refl _ _⟩
  case round =>
    obtain ⟨j, hj, rfl, rfl, H⟩ := hrel
    by_cases hlt : j < n
    · obtain ⟨ad, rfl, hab, c0⟩ := (Hr.out.below H.out).one (intMks_at hlt) (u := .int .i64 ((k + j : Nat) : Int)) rfl
      have hq : (((k + j : Nat) : Int) != ((k + j : Nat) : Int)) = false := by simp
      have hlt' : (j : Int) < (n : Int) := by omega
      go_wp2_with fail
      try go_quiet (fail)
      try go_wp2
      go_roundw
      case rel => exact ⟨j + 1, by omega, by go_num, by go_num, by first | exact H.out | exact below_drewN H.out _⟩
      case measure => simp [intOf]; omega
    · obtain rfl : j = n := by omega
      go_wp2
      go_ret
      exact ⟨rfl, H.out⟩
end Go.Proofs.Ytkpigdohgmhlkaa
