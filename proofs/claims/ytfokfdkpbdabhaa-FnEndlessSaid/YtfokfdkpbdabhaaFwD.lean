/-
  The longest chain of orders: the program's LongestChain and the reference's.
-/
import Derived.Test.YtfokfdkpbdabhaaFwC
namespace Go.Proofs.Ytfokfdkpbdabhaa
open Go.RowKit

/-- The length of the chain of an order's code; 0 if letters never arrive. -/
def chainAt (l : List Fw) (k : Nat) : Nat := match l[k]? with
  | none => 0
  | some x => match follow l x.1 with
    | none => 0
    | some (_, n) => n
def longTo (l : List Fw) : Nat → Nat
  | 0 => 0
  | k + 1 => max (longTo l k) (chainAt l k)
def chainOf (l : List Fw) : Int := if fwsOk l then longTo l l.length else -1

theorem followN_le {l : List Fw} : ∀ (f : Nat) (c : Str) (n : Nat) (d : Str) (m : Nat), followN l f c n = some (d, m) → m < n + f
  | 0, c, n, d, m, h => by simp [followN] at h
  | f + 1, c, n, d, m, h => by
    unfold followN at h
    split at h
    · simp at h; omega
    · have := followN_le f _ _ _ _ h; omega
theorem chainAt_le (l : List Fw) (k : Nat) : chainAt l k ≤ l.length := by
  unfold chainAt
  split
  · omega
  · split
    · omega
    · rename_i h; have := followN_le _ _ _ _ _ h; omega
theorem longTo_le (l : List Fw) : ∀ k, longTo l k ≤ l.length
  | 0 => Nat.zero_le _
  | k + 1 => by have := longTo_le l k; have := chainAt_le l k; simp only [longTo]; omega

/-- The chain of order k as followOrders answers it. -/
theorem follow_form {l : List Fw} {k : Nat} {x : Fw} (h : l[k]? = some x) : ∃ (s : Str) (b : Bool), resVal (follow l x.1) = .tuple #[.string s, .int .i64 (chainAt l k : Nat), .bool b] ∧ (b = false → chainAt l k = 0) := by
  unfold chainAt
  rw [h]
  cases e : follow l x.1 with
  | none => exact ⟨_, false, by simp [resVal, e]; rfl, fun _ => by simp [e]⟩
  | some p => exact ⟨p.1, true, by simp [resVal, e], fun h => by cases h⟩

set_option maxHeartbeats 1000000 in
theorem implLongestChain (A : Option Addr) (l : List Fw) (n cap : Nat) (hl : n = l.length) (hcap : n ≤ cap) (w : World) (hn : n ≤ 16777216) (hs : ∀ x ∈ l, x.1.size ≤ 1048576 ∧ x.2.size ≤ 1048576) (h : Rd w 2 fwEnc A l) :
    Calls Try.prog 33 #[.slice A n cap] w fun e w' => e = .returned (.int .i64 (chainOf l)) ∧ Below w.heap.size w w' := by
  subst hl
  have Hr := Lib.hid h
  have Hs := Lib.hid hs
  clear h hs
  cases hv : fwsOk l
  · have Hn : Hid (chainOf l = -1) := by show chainOf l = -1; unfold chainOf; rw [hv]; rfl
    go_enter Try.func33, Try.ntmps33
    go_wp2_with (go_at_call 27; refine (implForwardsValid _ l _ _ rfl hcap _ hn Hs.out Hr.out).mono ?_; rintro e w1 ⟨rfl, hb1⟩)
    go_ret
    exact ⟨by rw [Hn.out]; rfl, hb1⟩
  · have Hn : Hid (chainOf l = longTo l l.length) := by show chainOf l = _; unfold chainOf; rw [hv]; rfl
    go_enter Try.func33, Try.ntmps33
    go_wp2_with (go_at_call 27; refine (implForwardsValid _ l _ _ rfl hcap _ hn Hs.out Hr.out).mono ?_; rintro e w1 ⟨rfl, hb1⟩)
    go_loopw [3, 14] (fun t i wr => ∃ k : Nat, k ≤ l.length ∧ i = .int .i64 k ∧ t = .int .i64 (longTo l k) ∧ Below w.heap.size w wr) (fun _ i _ => l.length - (intOf i).toNat)
    case atStart => exact ⟨0, Nat.zero_le _, rfl, rfl, hb1⟩
    case round =>
      obtain ⟨k, hk, rfl, rfl, hb⟩ := hrel
      have hlo := longTo_le l k
      by_cases hlt : k < l.length
      · obtain ⟨x, hx⟩ : ∃ x, l[k]? = some x := ⟨_, List.getElem?_eq_getElem hlt⟩
        have hrd := Hr.out.below hb
        obtain ⟨ad, rfl, hab, c0, c1⟩ := hrd.two hx rfl
        obtain ⟨s, b, hf, hb0⟩ := follow_form hx
        have Hf := Lib.hid hf
        have Hb0 := Lib.hid hb0
        have Hrd := Lib.hid hrd
        have hca := chainAt_le l k
        obtain ⟨m, hm⟩ : ∃ m, m = chainAt l k := ⟨_, rfl⟩
        rw [← hm] at Hf Hb0 hca
        have Hm := Lib.hid hm
        clear hx hf hb0 hrd hm
        cases b
        · go_wp2_with (go_at_call 73; refine (implFollow _ l _ _ rfl _ _ hn ((Hrd.out.below ((Below.refl _ _).alloc (Nat.le_refl _) _)))).mono ?_; rw [Hf.out]; rintro e w2 ⟨rfl, hb2⟩)
          have hbb := hb.trans (below_step ((Below.refl _ _).alloc (Nat.le_refl _) _) hb2 |>.mono hb.size)
          go_roundw
          case rel => exact ⟨k + 1, by omega, by go_num, by rw [show longTo l (k + 1) = longTo l k from by show max _ _ = _; rw [← Hm.out, Hb0.out (by trivial)]; exact Nat.max_zero _], hbb⟩
          case measure => simp [intOf]; omega
        · go_wp2_with (go_at_call 73; refine (implFollow _ l _ _ rfl _ _ hn ((Hrd.out.below ((Below.refl _ _).alloc (Nat.le_refl _) _)))).mono ?_; rw [Hf.out]; rintro e w2 ⟨rfl, hb2⟩)
          have hbb := hb.trans (below_step ((Below.refl _ _).alloc (Nat.le_refl _) _) hb2 |>.mono hb.size)
          go_roundw
          case rel => exact ⟨k + 1, by omega, by go_num, by rw [show longTo l (k + 1) = max (longTo l k) m from by rw [Hm.out]; rfl]; congr 1; omega, hbb⟩
          case measure => simp [intOf]; omega
      · obtain rfl : k = l.length := by omega
        go_wp2
        go_ret
        exact ⟨by rw [Hn.out]; rfl, hb⟩

set_option maxHeartbeats 1000000 in
theorem specLongestChain (A : Option Addr) (l : List Fw) (n cap : Nat) (hl : n = l.length) (w : World) (hn : n ≤ 16777216) (hs : ∀ x ∈ l, x.1.size ≤ 1048576 ∧ x.2.size ≤ 1048576) (h : Rd w 2 fwEnc A l) :
    Calls Try.prog 34 #[.slice A n cap] w fun e w' => e = .returned (.int .i64 (chainOf l)) ∧ w = w' := by
  subst hl
  have Hr := Lib.hid h
  have Hs := Lib.hid hs
  clear h hs
  cases hv : fwsOk l
  · have Hn : Hid (chainOf l = -1) := by show chainOf l = -1; unfold chainOf; rw [hv]; rfl
    go_enter Try.func34, Try.ntmps34
    go_wp2_with (go_at_call 72; refine (specForwardsValid _ l _ _ rfl _ hn Hs.out Hr.out).mono ?_; rintro e w1 ⟨rfl, rfl⟩)
    go_ret
    exact ⟨by rw [Hn.out]; rfl, rfl⟩
  · have Hn : Hid (chainOf l = longTo l l.length) := by show chainOf l = _; unfold chainOf; rw [hv]; rfl
    go_enter Try.func34, Try.ntmps34
    go_wp2_with (go_at_call 72; refine (specForwardsValid _ l _ _ rfl _ hn Hs.out Hr.out).mono ?_; rintro e w1 ⟨rfl, rfl⟩)
    go_loop [3, 4] (fun t i => ∃ k : Nat, k ≤ l.length ∧ i = .int .i64 k ∧ t = .int .i64 (longTo l k)) (fun _ i => l.length - (intOf i).toNat)
    case atStart => exact ⟨0, Nat.zero_le _, rfl, rfl⟩
    case round =>
      obtain ⟨k, hk, rfl, rfl⟩ := hrel
      have hlo := longTo_le l k
      by_cases hlt : k < l.length
      · obtain ⟨x, hx⟩ : ∃ x, l[k]? = some x := ⟨_, List.getElem?_eq_getElem hlt⟩
        obtain ⟨ad, rfl, hab, c0, c1⟩ := Hr.out.two hx rfl
        obtain ⟨s, b, hf, hb0⟩ := follow_form hx
        have Hf := Lib.hid hf
        have hca := chainAt_le l k
        obtain ⟨m, hm⟩ : ∃ m, m = chainAt l k := ⟨_, rfl⟩
        rw [← hm] at Hf hca
        have Hm := Lib.hid hm
        clear hx hf hb0 hm
        go_wp2_with (go_at_call 75; refine (specFollow _ l _ _ rfl _ _ hn Hr.out).mono ?_; rw [Hf.out]; rintro e w2 ⟨rfl, rfl⟩)
        go_round
        case rel => exact ⟨k + 1, by omega, by go_num, by rw [show longTo l (k + 1) = max (longTo l k) m from by rw [Hm.out]; rfl]; congr 1; omega⟩
        case measure => simp [intOf]; omega
      · obtain rfl : k = l.length := by omega
        go_wp2
        go_ret
        exact ⟨by rw [Hn.out]; rfl, rfl⟩
end Go.Proofs.Ytfokfdkpbdabhaa
