/-
  What the reference draws for orders: codes, texts, lists of orders, all of bounded size.
-/
import Derived.Test.YtfokfdkpbdabhaaDr1
import Derived.Test.YtfokfdkpbdabhaaFwC
import Derived.Laws.BytesArg
import Derived.Deep.AppendLies
namespace Go.Proofs.Ytfokfdkpbdabhaa
open Go.RowKit

theorem fw_info : (Try.prog.info? 34).map (fun i => (i.zero, i.size, i.bytes)) = some (some (.agg #[.string ByteArray.empty, .string ByteArray.empty]), 2, 32) := by kernel_rfl
theorem fwEnc_one (x : Fw) : ∀ u ∈ fwEnc x, u.oneCell' = true := by
  intro u hu
  simp [fwEnc] at hu
  rcases hu with rfl | rfl <;> rfl
theorem fwEnc_cells {w : World} {g : Nat} {t : TypeId} (x : Fw) (hg : g = w.heap.size) : ∀ j u, (fwEnc x)[j]? = some u → (w.alloc (.cells #[.string x.1, .string x.2] t)).cell? ((⟨g, 0, none⟩ : Addr).add j) = some u := by
  intro j u hu
  match j, hu with
  | 0, hu => simp [fwEnc] at hu; subst hu; exact World.cell?_alloc_at _ _ _ 0 hg
  | 1, hu => simp [fwEnc] at hu; subst hu; exact World.cell?_alloc_at _ _ _ 1 hg

set_option maxHeartbeats 1000000 in
set_option maxRecDepth 100000 in
theorem conv_byte (w : World) (v : Int) : (convert 22 9 (.slice (some ⟨w.heap.size, 0, none⟩) 1 1)).run Try.prog (w.alloc (.cells #[.int .u8 v] 5)) =
    .ok (.string ⟨#[UInt8.ofNat v.toNat]⟩) (w.alloc (.cells #[.int .u8 v] 5)) := by
  rw [run_convert_bytes_string (P := Try.prog) _ 22 9 5 _ 1 1 Try.underlying22 Try.underlying5 Try.underlying9]
  have h := run_loadCells_list (P := Try.prog) (w.alloc (.cells #[.int .u8 v] 5)) ⟨w.heap.size, 0, none⟩ ([v].map (Value.int .u8)) (fun j u hj => by
    match j, hj with
    | 0, hj => simp at hj; subst hj; simp [Addr.add])
  rw [run_bytesToString _ _ 1 1 [v] h]
  rfl

theorem size_one (x : UInt8) : ({ data := #[x] } : ByteArray).size = 1 := rfl
set_option maxHeartbeats 1000000 in
set_option maxRecDepth 100000 in
theorem decDigit (n : Int) (w : World) (h0 : 0 ≤ n) (h1 : n ≤ 9) :
    Calls Try.prog 112 #[.int .i64 n] w fun e w' => ∃ s : Str, e = .returned (.string s) ∧ s.size = 1 ∧ Below w.heap.size w w' := by
  have hcv := conv_byte w (48 + n)
  obtain ⟨d, hd⟩ : ∃ d : Str, (⟨#[UInt8.ofNat (48 + n).toNat]⟩ : Str) = d := ⟨_, rfl⟩
  have hsz : d.size = 1 := by rw [← hd]; rfl
  rw [hd] at hcv
  clear hd
  go_enter Try.func112, Try.ntmps112
  go_wp2
  go_loopw [0, 3] (fun i s wr => i = .int .i64 n ∧ s = .string ByteArray.empty ∧ wr = w) (fun _ _ _ => 0)
  case atStart => exact ⟨rfl, rfl, rfl⟩
  case round =>
    obtain ⟨rfl, rfl, rfl⟩ := hrel
    go_wp2
    go_ret
    exact ⟨_, rfl, by simp [hsz], (Below.refl _ _).alloc (Nat.le_refl _) _⟩

set_option maxHeartbeats 1000000 in
set_option maxRecDepth 100000 in
theorem showC (n : Int) (k : Nat) (w : World) (h0 : 0 ≤ n) (h1 : n ≤ 1000000000) (hk : k ≤ 100) :
    Calls Try.prog 100 #[.int .i64 n, .int .i64 k] w fun e w' => ∃ s : Str, e = .returned (.string s) ∧ s.size = k ∧ Below w.heap.size w w' := by
  go_enter Try.func100, Try.ntmps100
  go_wp2
  go_loopw [0, 5, 6] (fun i s j wr => ∃ (m : Int) (out : Str) (q : Nat), 0 ≤ m ∧ m ≤ 1000000000 ∧ q ≤ k ∧ out.size = q ∧ i = .int .i64 m ∧ s = .string out ∧ j = .int .i64 q ∧ Below w.heap.size w wr) (fun _ _ j _ => k - (intOf j).toNat)
  case atStart => exact ⟨n, ByteArray.empty, 0, h0, h1, Nat.zero_le _, rfl, rfl, rfl, rfl, Below.refl _ _⟩
  case round =>
    obtain ⟨m, out, q, hm0, hm1, hq, hsz, rfl, rfl, rfl, hb⟩ := hrel
    by_cases hlt : q < k
    · go_wp2_with fail
      refine (decDigit _ _ (by omega) (by omega)).mono ?_
      rintro e w1 ⟨d, rfl, hd, hb1⟩
      have hs2 : (d ++ out).size = q + 1 := by rw [ByteArray.size_append]; omega
      go_wp2
      go_roundw
      case rel => exact ⟨m / 10, d ++ out, q + 1, by omega, by omega, by omega, hs2, by go_num, rfl, by go_num, below_step hb hb1⟩
      case measure => simp [intOf]; omega
    · obtain rfl : q = k := by omega
      go_wp2
      go_ret
      exact ⟨out, rfl, hsz, hb⟩

set_option maxHeartbeats 1000000 in
set_option maxRecDepth 100000 in
theorem codeC (B g p : Nat) (w : World) (h : Rdr w B g p) (hp : p ≤ 900000) :
    Calls Try.prog 69 #[.pointer (some ⟨g, 0, none⟩)] w fun e w' => ∃ s : Str, e = .returned (.string s) ∧ s.size = 7 ∧ Drew w B g p 1 w' := by
  have H := Lib.hid h
  clear h
  go_enter Try.func69, Try.ntmps69
  go_wp2_with fail
  refine (pickC B g p _ _ H.out (by omega)).mono ?_
  rintro e w1 ⟨v, rfl, hv0, hv1, hr1, hg1⟩
  have D1 : Hid (Drew w B g p 1 w1) := ⟨⟨p + 1, Nat.le_refl _, hr1⟩, hg1⟩
  clear hr1 hg1
  go_wp2_with fail
  refine (showC v 2 _ hv0 (by omega) (by omega)).mono ?_
  rintro e w2 ⟨s, rfl, hs, hb⟩
  have D2 := Lib.hid (D1.out.below hb)
  have hs2 : ((⟨#[49, 50, 48, 48, 49]⟩ : Str) ++ s).size = 7 := by rw [ByteArray.size_append, hs]; rfl
  clear hb
  go_wp2
  go_ret
  exact ⟨_, rfl, hs2, D2.out⟩

set_option maxHeartbeats 1000000 in
set_option maxRecDepth 100000 in
theorem badC (B g p : Nat) (c : Str) (w : World) (h : Rdr w B g p) (hp : p ≤ 900000) (h1 : 1 ≤ c.size) (h2 : c.size ≤ 1000) :
    Calls Try.prog 68 #[.pointer (some ⟨g, 0, none⟩), .string c] w fun e w' => ∃ s : Str, e = .returned (.string s) ∧ s.size ≤ 1001 ∧ Drew w B g p 1 w' := by
  have H := Lib.hid h
  clear h
  go_enter Try.func68, Try.ntmps68
  go_wp2_with fail
  refine (pickC B g p _ _ H.out (by omega)).mono ?_
  rintro e w1 ⟨v, rfl, hv0, hv1, hr1, hg1⟩
  have D1 : Hid (Drew w B g p 1 w1) := ⟨⟨p + 1, Nat.le_refl _, hr1⟩, hg1⟩
  clear hr1 hg1
  by_cases e0 : v = 0
  · subst e0
    go_wp2
    go_ret
    exact ⟨_, rfl, by simp only [ByteArray.size_append, size_one]; omega, D1.out⟩
  · by_cases e1 : v = 1
    · subst e1
      go_wp2
      go_ret
      exact ⟨_, rfl, by simp only [ByteArray.size_append, ByteArray.size_extract, size_one]; omega, D1.out⟩
    · by_cases e2 : v = 2
      · subst e2
        go_wp2
        go_ret
        exact ⟨_, rfl, Nat.zero_le _, D1.out⟩
      · have q0 : (v == 0) = false := by simpa using e0
        have q1 : (v == 1) = false := by simpa using e1
        have q2 : (v == 2) = false := by simpa using e2
        go_wp2
        go_ret
        exact ⟨c, rfl, by omega, D1.out⟩
end Go.Proofs.Ytfokfdkpbdabhaa
