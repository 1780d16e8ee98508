/-
  Following orders: the program's followOrders, NextCode, ResolveCode, LongestChain and the reference's.
-/
import Derived.Test.YtbfmohkjnjmmoaaFwB
namespace Go.Proofs.Ytbfmohkjnjmmoaa
open Go.RowKit

theorem followN_none {l : List Fw} {f n : Nat} {c : Str} (h : fwIdx l c = none) (hf : 0 < f) : followN l f c n = some (c, n) := by
  cases f with
  | zero => omega
  | succ f => simp [followN, fwNext_none h]
theorem followN_some {l : List Fw} {f g n k : Nat} {c : Str} {x : Fw} (h : fwIdx l c = some k) (hx : l[k]? = some x) (hf : f = g + 1) : followN l f c n = followN l g x.2 (n + 1) := by
  subst hf
  simp [followN, fwNext_some h hx]

theorem implFollow (A : Option Addr) (l : List Fw) (n cap : Nat) (hl : n = l.length) (c : Str) (w : World) (hn : n ≤ 16777216) (h : Rd w 2 fwEnc A l) :
    Calls Try.prog 108 #[.slice A n cap, .string c] w fun e w' => e = .returned (resVal (follow l c)) ∧ Below w.heap.size w w' := by
  subst hl
  have Hr := Lib.hid h
  clear h
  go_enter Try.func108, Try.ntmps108
  go_wp2
  go_loopw [1, 7] (fun d i wr => ∃ (k : Nat) (s : Str), k ≤ l.length + 1 ∧ d = .string s ∧ i = .int .i64 k ∧ Below w.heap.size w wr ∧ Hid (follow l c = followN l (l.length + 1 - k) s k)) (fun _ i _ => l.length + 1 - (intOf i).toNat)
  case atStart => exact ⟨0, c, by omega, rfl, rfl, Below.refl _ _, rfl⟩
  case round =>
    obtain ⟨k, s, hk, rfl, rfl, hb, H⟩ := hrel
    by_cases hlt : k ≤ l.length
    · have hrd := Hr.out.below hb
      cases hi : fwIdx l s with
      | none =>
        have Hi := Lib.hid hi
        have Hrd := Lib.hid hrd
        clear hi hrd
        go_wp2_with (go_at_call 129; refine (implForwardOf _ l _ _ rfl _ _ (by omega) Hrd.out).mono ?_; rw [Hi.out, show idxInt none = -1 from rfl]; rintro e w1 ⟨rfl, hb1⟩)
        go_ret3
        exact ⟨by rw [H.out, followN_none Hi.out (by omega)]; rfl, hb.trans (hb1.mono hb.size)⟩
      | some m =>
        have hml := fwIdx_lt hi
        obtain ⟨x, hx⟩ : ∃ x, l[m]? = some x := ⟨_, List.getElem?_eq_getElem hml⟩
        have Hi := Lib.hid hi
        have Hx := Lib.hid hx
        obtain ⟨ad, rfl, hab, c0, c1⟩ := hrd.two hx rfl
        have Hrd := Lib.hid hrd
        clear hi hrd hx
        go_wp2_with (go_at_call 129; refine (implForwardOf _ l _ _ rfl _ _ (by omega) Hrd.out).mono ?_; rw [Hi.out, show idxInt (some m) = (m : Int) from rfl]; rintro e w1 ⟨rfl, hb1⟩; have d1 := below_cell hb1 c1)
        go_roundw
        case rel => exact ⟨k + 1, x.2, by omega, rfl, by go_num, hb.trans (hb1.mono hb.size), by show follow l c = _; rw [H.out]; exact followN_some Hi.out Hx.out (by omega)⟩
        case measure => simp [intOf]; omega
    · obtain rfl : k = l.length + 1 := by omega
      go_wp2
      go_ret3
      exact ⟨by rw [H.out, Nat.sub_self]; rfl, hb⟩

theorem specFollow (A : Option Addr) (l : List Fw) (n cap : Nat) (hl : n = l.length) (c : Str) (w : World) (hn : n ≤ 16777216) (h : Rd w 2 fwEnc A l) :
    Calls Try.prog 104 #[.slice A n cap, .string c] w fun e w' => e = .returned (resVal (follow l c)) ∧ w = w' := by
  subst hl
  have Hr := Lib.hid h
  clear h
  go_enter Try.func104, Try.ntmps104
  go_wp2
  go_loop [1, 7] (fun d i => ∃ (k : Nat) (s : Str), k ≤ l.length + 1 ∧ d = .string s ∧ i = .int .i64 k ∧ Hid (follow l c = followN l (l.length + 1 - k) s k)) (fun _ i => l.length + 1 - (intOf i).toNat)
  case atStart => exact ⟨0, c, by omega, rfl, rfl, rfl⟩
  case round =>
    obtain ⟨k, s, hk, rfl, rfl, H⟩ := hrel
    by_cases hlt : k ≤ l.length
    · cases hi : fwIdx l s with
      | none =>
        have Hi := Lib.hid hi
        clear hi
        go_wp2_with (go_at_call 128; refine (specIndex _ l _ _ rfl _ _ (by omega) Hr.out).mono ?_; rw [Hi.out, show idxInt none = -1 from rfl]; rintro e w1 ⟨rfl, rfl⟩)
        go_ret3
        exact ⟨by rw [H.out, followN_none Hi.out (by omega)]; rfl, rfl⟩
      | some m =>
        have hml := fwIdx_lt hi
        obtain ⟨x, hx⟩ : ∃ x, l[m]? = some x := ⟨_, List.getElem?_eq_getElem hml⟩
        have Hi := Lib.hid hi
        have Hx := Lib.hid hx
        obtain ⟨ad, rfl, hab, c0, c1⟩ := Hr.out.two hx rfl
        clear hi hx
        go_wp2_with (go_at_call 128; refine (specIndex _ l _ _ rfl _ _ (by omega) Hr.out).mono ?_; rw [Hi.out, show idxInt (some m) = (m : Int) from rfl]; rintro e w1 ⟨rfl, rfl⟩)
        go_round
        case rel => exact ⟨k + 1, x.2, by omega, rfl, by go_num, by show follow l c = _; rw [H.out]; exact followN_some Hi.out Hx.out (by omega)⟩
        case measure => simp [intOf]; omega
    · obtain rfl : k = l.length + 1 := by omega
      go_wp2
      go_ret3
      exact ⟨by rw [H.out, Nat.sub_self]; rfl, rfl⟩

def nextVal (o : Option Str) : Value := match o with
  | none => .tuple #[.string ByteArray.empty, .bool false]
  | some c => .tuple #[.string c, .bool true]
def nextOf (l : List Fw) (c : Str) : Option Str := if fwsOk l then fwNext l c else none
def resolveOf (l : List Fw) (c : Str) : Option (Str × Nat) := if fwsOk l && codeOk c then follow l c else none

theorem resVal_form (r : Option (Str × Nat)) : ∃ (s : Str) (n : Nat) (b : Bool), resVal r = .tuple #[.string s, .int .i64 n, .bool b] := by
  cases r with
  | none => exact ⟨_, 0, _, rfl⟩
  | some p => exact ⟨_, _, _, rfl⟩
end Go.Proofs.Ytbfmohkjnjmmoaa
