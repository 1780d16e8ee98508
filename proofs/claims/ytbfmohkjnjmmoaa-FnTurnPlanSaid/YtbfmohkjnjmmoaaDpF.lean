/-
  What the reference draws: decimal numbers, codes, codes that are none. (Beside XMark.)
-/
import Derived.Test.YtbfmohkjnjmmoaaDr1
import Derived.Test.YtbfmohkjnjmmoaaMark
import Derived.Laws.BytesArg
namespace Go.Proofs.Ytbfmohkjnjmmoaa
open Go.RowKit

theorem size_one (x : UInt8) : ({ data := #[x] } : ByteArray).size = 1 := rfl
set_option maxHeartbeats 1000000 in
set_option maxRecDepth 100000 in
theorem decDigit (n : Int) (w : World) (h0 : 0 ≤ n) (h1 : n ≤ 9) :
    Calls Try.prog 130 #[.int .i64 n] w fun e w' => ∃ s : Str, e = .returned (.string s) ∧ s.size = 1 ∧ Below w.heap.size w w' := by
  have hcv := conv_byte w (48 + n)
  obtain ⟨d, hd⟩ : ∃ d : Str, (⟨#[UInt8.ofNat (48 + n).toNat]⟩ : Str) = d := ⟨_, rfl⟩
  have hsz : d.size = 1 := by rw [← hd]; rfl
  rw [hd] at hcv
  clear hd
  go_enter Try.func130, Try.ntmps130
  go_wp2
  go_loopw [0, 3] (fun i s wr => i = .int .i64 n ∧ s = .string ByteArray.empty ∧ wr = w) (fun _ _ _ => 0)
  case atStart => exact ⟨rfl, rfl, rfl⟩
  case round =>
    obtain ⟨rfl, rfl, rfl⟩ := hrel
    go_wp2
    go_ret
    exact ⟨_, rfl, by simp [hsz], (Below.refl _ _).alloc (Nat.le_refl _) _⟩

set_option maxHeartbeats 1000000 in
set_option maxRecDepth 100000 in
theorem showC (n : Int) (k : Nat) (w : World) (h0 : 0 ≤ n) (h1 : n ≤ 1000000000) (hk : k ≤ 100) :
    Calls Try.prog 114 #[.int .i64 n, .int .i64 k] w fun e w' => ∃ s : Str, e = .returned (.string s) ∧ s.size = k ∧ Below w.heap.size w w' := by
  go_enter Try.func114, Try.ntmps114
  go_wp2
  go_loopw [0, 5, 6] (fun i s j wr => ∃ (m : Int) (out : Str) (q : Nat), 0 ≤ m ∧ m ≤ 1000000000 ∧ q ≤ k ∧ out.size = q ∧ i = .int .i64 m ∧ s = .string out ∧ j = .int .i64 q ∧ Below w.heap.size w wr) (fun _ _ j _ => k - (intOf j).toNat)
  case atStart => exact ⟨n, ByteArray.empty, 0, h0, h1, Nat.zero_le _, rfl, rfl, rfl, rfl, Below.refl _ _⟩
  case round =>
    obtain ⟨m, out, q, hm0, hm1, hq, hsz, rfl, rfl, rfl, hb⟩ := hrel
    by_cases hlt : q < k
    · go_wp2_with fail
      refine (decDigit _ _ (by omega) (by omega)).mono ?_
      rintro e w1 ⟨d, rfl, hd, hb1⟩
      have hs2 : (d ++ out).size = q + 1 := by rw [ByteArray.size_append]; omega
      go_wp2
      go_roundw
      case rel => exact ⟨m / 10, d ++ out, q + 1, by omega, by omega, by omega, hs2, by go_num, rfl, by go_num, below_step hb hb1⟩
      case measure => simp [intOf]; omega
    · obtain rfl : q = k := by omega
      go_wp2
      go_ret
      exact ⟨out, rfl, hsz, hb⟩

set_option maxHeartbeats 1000000 in
set_option maxRecDepth 100000 in
theorem badC (B g p : Nat) (c : Str) (w : World) (h : Rdr w B g p) (hp : p ≤ 900000) (h1 : 1 ≤ c.size) (h2 : c.size ≤ 1000) :
    Calls Try.prog 67 #[.pointer (some ⟨g, 0, none⟩), .string c] w fun e w' => ∃ s : Str, e = .returned (.string s) ∧ s.size ≤ 1001 ∧ Drew w B g p 1 w' := by
  have H := Lib.hid h
  clear h
  go_enter Try.func67, Try.ntmps67
  go_wp2_with fail
  refine (pickC B g p _ _ H.out (by omega)).mono ?_
  rintro e w1 ⟨v, rfl, hv0, hv1, hr1, hg1⟩
  have D1 : Hid (Drew w B g p 1 w1) := ⟨⟨p + 1, Nat.le_refl _, hr1⟩, hg1⟩
  clear hr1 hg1
  by_cases e0 : v = 0
  · subst e0
    go_wp2
    go_ret
    exact ⟨_, rfl, by simp only [ByteArray.size_append, size_one]; omega, D1.out⟩
  · by_cases e1 : v = 1
    · subst e1
      go_wp2
      go_ret
      exact ⟨_, rfl, by simp only [ByteArray.size_append, ByteArray.size_extract, size_one]; omega, D1.out⟩
    · by_cases e2 : v = 2
      · subst e2
        go_wp2
        go_ret
        exact ⟨_, rfl, Nat.zero_le _, D1.out⟩
      · have q0 : (v == 0) = false := by simpa using e0
        have q1 : (v == 1) = false := by simpa using e1
        have q2 : (v == 2) = false := by simpa using e2
        go_wp2
        go_ret
        exact ⟨c, rfl, by omega, D1.out⟩
end Go.Proofs.Ytbfmohkjnjmmoaa
