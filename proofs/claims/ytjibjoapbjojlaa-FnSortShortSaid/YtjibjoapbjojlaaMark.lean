/-
  The laws' marks: markText gives each number a text of its own making; which text does not matter, only that it is the same each time.
-/
import Derived.Test.YtjibjoapbjojlaaFwM
import Derived.Laws.BytesArg
namespace Go.Proofs.Ytjibjoapbjojlaa
open Go.RowKit

/-- The last digit of a number, as a text. -/
def digB (k : Nat) : Str := ByteArray.mk #[UInt8.ofNat (48 + k % 10)]
theorem digB_size (k : Nat) : (digB k).size = 1 := rfl
/-- The digits of k in front of out; f: rounds at the most. -/
def mkDig : Nat → Nat → Str → Str
  | 0, _, out => out
  | f + 1, k, out => if k = 0 then out else mkDig f (k / 10) (digB k ++ out)
def mkTxt (k : Nat) : Str := ByteArray.mk #[109] ++ mkDig (k + 1) k ByteArray.empty

set_option maxHeartbeats 1000000 in
set_option maxRecDepth 100000 in
/-- string of a slice of one byte that was just laid. -/
theorem conv_byte (w : World) (v : Int) : (convert 22 9 (.slice (some ⟨w.heap.size, 0, none⟩) 1 1)).run Try.prog (w.alloc (.cells #[.int .u8 v] 5)) =
    .ok (.string ⟨#[UInt8.ofNat v.toNat]⟩) (w.alloc (.cells #[.int .u8 v] 5)) := by
  rw [run_convert_bytes_string (P := Try.prog) _ 22 9 5 _ 1 1 Try.underlying22 Try.underlying5 Try.underlying9]
  have h := run_loadCells_list (P := Try.prog) (w.alloc (.cells #[.int .u8 v] 5)) ⟨w.heap.size, 0, none⟩ ([v].map (Value.int .u8)) (fun j u hj => by
    match j, hj with
    | 0, hj => simp at hj; subst hj; simp [Addr.add])
  rw [run_bytesToString _ _ 1 1 [v] h]
  rfl

theorem mkDig_step {f j : Nat} {out : Str} (h : 0 < j) : mkDig (f + 1) j out = mkDig f (j / 10) (digB j ++ out) := by
  show (if j = 0 then out else _) = _
  rw [if_neg (by omega)]
theorem mkDig_zero {f : Nat} {out : Str} (h : 0 < f) : mkDig f 0 out = out := by
  cases f with
  | zero => omega
  | succ f => rfl
end Go.Proofs.Ytjibjoapbjojlaa
