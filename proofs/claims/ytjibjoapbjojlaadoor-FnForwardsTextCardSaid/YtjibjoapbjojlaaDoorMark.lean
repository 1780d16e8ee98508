/-
  The laws' marks: markText gives each number a text of its own making; which text does not matter, only that it is the same each time.
-/
import Derived.Test.YtjibjoapbjojlaaDoorFwM
import Derived.Laws.BytesArg
namespace Go.Proofs.YtjibjoapbjojlaaDoor
open Go.RowKit

/-- The last digit of a number, as a text. -/
def digB (k : Nat) : Str := ByteArray.mk #[UInt8.ofNat (48 + k % 10)]
theorem digB_size (k : Nat) : (digB k).size = 1 := rfl
/-- The digits of k in front of out; f: rounds at the most. -/
def mkDig : Nat → Nat → Str → Str
  | 0, _, out => out
  | f + 1, k, out => if k = 0 then out else mkDig f (k / 10) (digB k ++ out)
def mkTxt (k : Nat) : Str := ByteArray.mk #[109] ++ mkDig (k + 1) k ByteArray.empty

set_option maxHeartbeats 1000000 in
set_option maxRecDepth 100000 in
/-- string of a slice of one byte that was just laid. -/
theorem conv_byte (w : World) (v : Int) : (convert 28 9 (.slice (some ⟨w.heap.size, 0, none⟩) 1 1)).run Tryd.prog (w.alloc (.cells #[.int .u8 v] 5)) =
    .ok (.string ⟨#[UInt8.ofNat v.toNat]⟩) (w.alloc (.cells #[.int .u8 v] 5)) := by
  rw [run_convert_bytes_string (P := Tryd.prog) _ 28 9 5 _ 1 1 Tryd.underlying28 Tryd.underlying5 Tryd.underlying9]
  have h := run_loadCells_list (P := Tryd.prog) (w.alloc (.cells #[.int .u8 v] 5)) ⟨w.heap.size, 0, none⟩ ([v].map (Value.int .u8)) (fun j u hj => by
    match j, hj with
    | 0, hj => simp at hj; subst hj; simp [Addr.add])
  rw [run_bytesToString _ _ 1 1 [v] h]
  rfl

theorem mkDig_step {f j : Nat} {out : Str} (h : 0 < j) : mkDig (f + 1) j out = mkDig f (j / 10) (digB j ++ out) := by
  show (if j = 0 then out else _) = _
  rw [if_neg (by omega)]
theorem mkDig_zero {f : Nat} {out : Str} (h : 0 < f) : mkDig f 0 out = out := by
  cases f with
  | zero => omega
  | succ f => rfl

set_option maxRecDepth 100000 in
theorem markText_nat (k : Nat) (w : World) (h1 : 1 ≤ k) (h2 : k ≤ 2147483647) :
    Calls Tryd.prog 41 #[.int .i64 k] w fun e w' => e = .returned (.string (mkTxt k)) ∧ Below w.heap.size w w' := by
  go_enter Tryd.func41, Tryd.ntmps41
  go_wp2
  go_loopw [0, 3] (fun i s wr => ∃ (j f : Nat) (out : Str), j ≤ k ∧ j < f ∧ i = .int .i64 j ∧ s = .string out ∧ out.size + f ≤ k + 1 ∧ Below w.heap.size w wr ∧ Hid (mkDig (k + 1) k ByteArray.empty = mkDig f j out)) (fun i _ _ => (intOf i).toNat)
  case atStart => exact ⟨k, k + 1, ByteArray.empty, Nat.le_refl _, by omega, rfl, rfl, by simp, Below.refl _ _, rfl⟩
  case round =>
    obtain ⟨j, f, out, hj, hf, rfl, rfl, hsz, hb, H⟩ := hrel
    by_cases hlt : 0 < j
    · have hcv := conv_byte wr (48 + (j : Int) % 10)
      rw [show UInt8.ofNat (48 + (j : Int) % 10).toNat = UInt8.ofNat (48 + j % 10) from by congr 1, show (ByteArray.mk #[UInt8.ofNat (48 + j % 10)] : ByteArray) = digB j from rfl] at hcv
      obtain ⟨g, rfl⟩ : ∃ g, f = g + 1 := ⟨f - 1, by omega⟩
      have hd1 := digB_size j
      have hsz2 : (digB j ++ out).size = 1 + out.size := by rw [ByteArray.size_append, digB_size]
      have Hsz2 := Lib.hid hsz2
      clear hsz2
      have hd2 : (digB j).size ≤ 1 := by omega
      clear hd1
      go_wp2
      go_roundw
      case rel => exact ⟨j / 10, g, _, by omega, by omega, by go_num, rfl, by rw [Hsz2.out]; omega, hb.alloc hb.size _, by show mkDig _ _ _ = _; rw [H.out, mkDig_step hlt]⟩
      case measure => simp [intOf]; omega
    · obtain rfl : j = 0 := by omega
      go_wp2
      go_ret
      exact ⟨by unfold mkTxt; rw [H.out, mkDig_zero hf]; rfl, hb⟩
theorem markText_any (k : Int) (w : World) (h1 : 1 ≤ k) (h2 : k ≤ 2147483647) :
    Calls Tryd.prog 41 #[.int .i64 k] w fun e w' => e = .returned (.string (mkTxt k.toNat)) ∧ Below w.heap.size w w' := by
  have h := markText_nat k.toNat w (by omega) (by omega)
  rwa [Int.toNat_of_nonneg (by omega)] at h
end Go.Proofs.YtjibjoapbjojlaaDoor
