/-
  The text of orders, plain. No function of the program is named here.
-/
import Derived.Test.YtjibjoapbjojlaaFwM
import Derived.Lib.Join
namespace Go.Proofs.Ytjibjoapbjojlaa
open Go.RowKit

theorem str_eq' {a b : Str} (h : a.data.toList = b.data.toList) : a = b := by
  cases a; cases b
  simp at h
  rw [h]
def cSp : Str := ⟨#[32]⟩
def cGt : Str := ⟨#[62]⟩
def cDash : Str := ⟨#[45]⟩
def fwPiece (x : Fw) : Str := x.1 ++ cGt ++ x.2
def joinL (ps : List Str) : Str := ⟨(Lib.join (ps.map (·.data.toList)) [32]).toArray⟩
theorem joinL_data (ps : List Str) : (joinL ps).data.toList = Lib.join (ps.map (·.data.toList)) [32] := by simp [joinL]
theorem join_push (xs : List (List UInt8)) (y sep : List UInt8) (h : xs ≠ []) : Lib.join (xs ++ [y]) sep = Lib.join xs sep ++ (sep ++ y) := by
  cases xs with
  | nil => exact absurd rfl h
  | cons x r =>
    rw [List.cons_append, Lib.join_cons, Lib.join_cons]
    simp [Lib.joinTail, List.append_assoc]
theorem joinL_push {ps : List Str} (y : Str) (h : ps ≠ []) : joinL (ps ++ [y]) = joinL ps ++ cSp ++ y := by
  refine str_eq' ?_
  rw [joinL_data, List.map_append, List.map_cons, List.map_nil, join_push _ _ _ (by simpa using h), ← joinL_data]
  simp [cSp, List.append_assoc]
theorem joinL_one (y : Str) : joinL [y] = y := by
  refine str_eq' ?_
  rw [joinL_data]
  simp [Lib.join_one]
theorem joinL_nil : joinL [] = ByteArray.empty := by
  refine str_eq' ?_
  rw [joinL_data]; rfl
theorem joinL_size_push {ps : List Str} (y : Str) (h : ps ≠ []) : (joinL (ps ++ [y])).size = (joinL ps).size + 1 + y.size := by
  rw [joinL_push y h, ByteArray.size_append, ByteArray.size_append]
  rfl
theorem joinL_size_aux (b : Nat) : ∀ (m : Nat) (ps : List Str), ps.length = m → (∀ y ∈ ps, y.size ≤ b) → (joinL ps).size ≤ m * (b + 1)
  | 0, ps, hm, _ => by
    rw [List.eq_nil_of_length_eq_zero hm, joinL_nil]; simp
  | m + 1, ps, hm, h => by
    obtain ⟨q, y, rfl⟩ : ∃ q y, ps = q ++ [y] := by
      refine ⟨ps.take m, ps[m]'(by omega), ?_⟩
      have h1 := List.take_append_getElem (l := ps) (i := m) (by omega)
      rw [h1, List.take_of_length_le (by omega)]
    have hq : q.length = m := by simp at hm; exact hm
    have ih := joinL_size_aux b m q hq (fun z hz => h z (by simp [hz]))
    have hy := h y (by simp)
    rw [Nat.add_mul m 1, Nat.one_mul]
    by_cases h0 : q = []
    · subst h0
      rw [List.nil_append, joinL_one]; omega
    · rw [joinL_size_push _ h0]; omega
theorem joinL_size_le (ps : List Str) (b : Nat) (h : ∀ y ∈ ps, y.size ≤ b) : (joinL ps).size ≤ ps.length * (b + 1) := joinL_size_aux b _ ps rfl h
def fmtOf (l : List Fw) : Str := if fwsOk l then (if l = [] then cDash else joinL (l.map fwPiece)) else ByteArray.empty
end Go.Proofs.Ytjibjoapbjojlaa
