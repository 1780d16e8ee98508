/-
  Following orders: the program's followOrders, NextCode, ResolveCode, LongestChain and the reference's.
-/
import Derived.Test.YtjibjoapbjojlaaDoorFwB
namespace Go.Proofs.YtjibjoapbjojlaaDoor
open Go.RowKit

theorem followN_none {l : List Fw} {f n : Nat} {c : Str} (h : fwIdx l c = none) (hf : 0 < f) : followN l f c n = some (c, n) := by
  cases f with
  | zero => omega
  | succ f => simp [followN, fwNext_none h]
theorem followN_some {l : List Fw} {f g n k : Nat} {c : Str} {x : Fw} (h : fwIdx l c = some k) (hx : l[k]? = some x) (hf : f = g + 1) : followN l f c n = followN l g x.2 (n + 1) := by
  subst hf
  simp [followN, fwNext_some h hx]

def nextVal (o : Option Str) : Value := match o with
  | none => .tuple #[.string ByteArray.empty, .bool false]
  | some c => .tuple #[.string c, .bool true]
def nextOf (l : List Fw) (c : Str) : Option Str := if fwsOk l then fwNext l c else none
def resolveOf (l : List Fw) (c : Str) : Option (Str × Nat) := if fwsOk l && codeOk c then follow l c else none

theorem resVal_form (r : Option (Str × Nat)) : ∃ (s : Str) (n : Nat) (b : Bool), resVal r = .tuple #[.string s, .int .i64 n, .bool b] := by
  cases r with
  | none => exact ⟨_, 0, _, rfl⟩
  | some p => exact ⟨_, _, _, rfl⟩
end Go.Proofs.YtjibjoapbjojlaaDoor
