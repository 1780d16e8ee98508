/-
  What the reference draws: codes of digits, strings of a list.
-/
import Derived.Test.YtjibjoapbjojlaaDq2
import Derived.Test.YtjibjoapbjojlaaTx1
namespace Go.Proofs.Ytjibjoapbjojlaa
open Go.RowKit

theorem allDig_app {a b : Str} (ha : allDig a = true) (hb : allDig b = true) : allDig (a ++ b) = true := by
  unfold allDig at *
  rw [ByteArray.data_append, Array.toList_append, List.all_append, ha, hb]; rfl
theorem codeOk_of {s : Str} (hs : s.size = 7) (hd : allDig s = true) : codeOk s = true := by
  unfold codeOk; rw [hd, hs]; rfl
theorem decDigD (n : Int) (w : World) (h0 : 0 ≤ n) (h1 : n ≤ 9) :
    Calls Try.prog 43 #[.int .i64 n] w fun e w' => ∃ s : Str, e = .returned (.string s) ∧ s.size = 1 ∧ allDig s = true ∧ Below w.heap.size w w' := by
  obtain ⟨u, rfl⟩ := Int.eq_ofNat_of_zero_le h0
  refine (specDec u (by omega) w).mono fun e w' ⟨he, hb⟩ => ⟨_, he, ?_, ?_, hb⟩
  · rw [decS_nat, dec_lt (by omega)]; rfl
  · rw [decS_nat]
    unfold allDig
    rw [strOf_data, List.all_eq_true]
    exact (dec_facts 0 u (by omega)).1

set_option maxHeartbeats 1000000 in
set_option maxRecDepth 100000 in
theorem showD (n : Int) (k : Nat) (w : World) (h0 : 0 ≤ n) (h1 : n ≤ 1000000000) (hk : k ≤ 100) :
    Calls Try.prog 39 #[.int .i64 n, .int .i64 k] w fun e w' => ∃ s : Str, e = .returned (.string s) ∧ s.size = k ∧ allDig s = true ∧ Below w.heap.size w w' := by
  go_enter Try.func39, Try.ntmps39
  go_wp2
  go_loopw [0, 5, 6] (fun i s j wr => ∃ (m : Int) (out : Str) (q : Nat), 0 ≤ m ∧ m ≤ 1000000000 ∧ q ≤ k ∧ out.size = q ∧ Hid (allDig out = true) ∧ i = .int .i64 m ∧ s = .string out ∧ j = .int .i64 q ∧ Below w.heap.size w wr) (fun _ _ j _ => k - (intOf j).toNat)
  case atStart => exact ⟨n, ByteArray.empty, 0, h0, h1, Nat.zero_le _, rfl, Lib.hid rfl, rfl, rfl, rfl, Below.refl _ _⟩
  case round =>
    obtain ⟨m, out, q, hm0, hm1, hq, hsz, HD, rfl, rfl, rfl, hb⟩ := hrel
    by_cases hlt : q < k
    · go_wp2_with fail
      refine (decDigD _ _ (by omega) (by omega)).mono ?_
      rintro e w1 ⟨d, rfl, hd, hdd, hb1⟩
      have hs2 : (d ++ out).size = q + 1 := by rw [ByteArray.size_append]; omega
      have HD2 : Hid (allDig (d ++ out) = true) := allDig_app hdd HD.out
      clear hdd
      go_wp2
      go_roundw
      case rel => exact ⟨m / 10, d ++ out, q + 1, by omega, by omega, by omega, hs2, HD2, by go_num, rfl, by go_num, below_step hb hb1⟩
      case measure => simp [intOf]; omega
    · obtain rfl : q = k := by omega
      go_wp2
      go_ret
      exact ⟨out, rfl, hsz, HD.out, hb⟩

set_option maxHeartbeats 2000000 in
set_option maxRecDepth 100000 in
theorem someCodeD (B g p : Nat) (w : World) (h : Rdr w B g p) (hp : p ≤ 900000) :
    Calls Try.prog 34 #[.pointer (some ⟨g, 0, none⟩)] w fun e w' => ∃ s : Str, e = .returned (.string s) ∧ codeOk s = true ∧ Drew w B g p 8 w' := by
  have hgw := h.lt
  have H := Lib.hid h
  clear h
  have hbA := fun o => (Below.refl w.heap.size w).alloc (Nat.le_refl _) o
  go_enter Try.func34, Try.ntmps34
  go_wp2_with fail
  refine (numC B g p _ [120, 121, 7, 999] 4 _ rfl (by decide) _ (H.out.below (hbA _)) (by omega) (by decide) (rd_ints [120, 121, 7, 999] w _ rfl) (fun ad e => by injection e with e; subst e; show w.heap.size ≠ g; omega)).mono ?_
  rintro e w1 ⟨x, rfl, hx, hd⟩
  have hz1 : w.heap.size ≤ w1.heap.size := by have := hd.gr.size; simp at this; omega
  have D1 : Hid (Drew w B g p 1 w1) := ((Drew.zero H.out).below (hbA _)).step hd (by omega)
  obtain ⟨p1, hp1, hr1⟩ := D1.out.rd
  have hx' : 0 ≤ x ∧ x ≤ 999 := by simp at hx; omega
  have hbB := fun o => (Below.refl w1.heap.size w1).alloc (Nat.le_refl _) o
  have R1 := Lib.hid hr1
  clear hd hx hr1 hbA
  go_wp2_with fail
  refine (numC B g p1 _ [1, 2, 10, 99] 4 _ rfl (by decide) _ (R1.out.below (hbB _)) (by omega) (by decide) (rd_ints [1, 2, 10, 99] w1 _ rfl) (fun ad e => by injection e with e; subst e; show w1.heap.size ≠ g; omega)).mono ?_
  rintro e w2 ⟨y, rfl, hy, hd⟩
  have D2 : Hid (Drew w B g p 2 w2) := (D1.out.below (hbB _)).step hd (by omega)
  have hy' : 0 ≤ y ∧ y ≤ 99 := by simp at hy; omega
  clear hd hy hbB
  go_wp2_with fail
  refine (showD x 3 _ hx'.1 (by omega) (by omega)).mono ?_
  rintro e w3 ⟨s1, rfl, hs1, hd1, hb⟩
  have D3 := Lib.hid (D2.out.below hb)
  clear hb
  go_wp2_with fail
  refine (showD y 2 _ hy'.1 (by omega) (by omega)).mono ?_
  rintro e w4 ⟨s2, rfl, hs2, hd2, hb⟩
  have D4 := Lib.hid (D3.out.below hb)
  obtain ⟨p4, hp4, hr4⟩ := D4.out.rd
  clear hb
  go_wp2_with fail
  refine (pickC B g p4 _ _ hr4 (by omega)).mono ?_
  rintro e w5 ⟨v, rfl, hv0, hv1, hr5, hg5⟩
  have D5 : Hid (Drew w B g p 3 w5) := D4.out.step (k1 := 1) ⟨⟨p4 + 1, Nat.le_refl _, hr5⟩, hg5⟩ (by omega)
  clear hr4 hr5 hg5
  go_wp2_with fail
  refine (showD v 2 _ hv0 (by omega) (by omega)).mono ?_
  rintro e w6 ⟨s3, rfl, hs3, hd3, hb⟩
  have D6 := Lib.hid (D5.out.below hb)
  obtain ⟨p6, hp6, hr6⟩ := D6.out.rd
  have h12 : (s1 ++ s2).size = 5 := by rw [ByteArray.size_append]; omega
  have h123 : codeOk (s1 ++ s2 ++ s3) = true := codeOk_of (by rw [ByteArray.size_append]; omega) (allDig_app (allDig_app hd1 hd2) hd3)
  have H123 := Lib.hid h123
  clear h123 hd1 hd2 hd3
  clear hb
  go_wp2_with fail
  refine (pickC B g p6 _ _ hr6 (by omega)).mono ?_
  rintro e w7 ⟨u, rfl, hu0, hu1, hr7, hg7⟩
  have D7 : Hid (Drew w B g p 4 w7) := D6.out.step (k1 := 1) ⟨⟨p6 + 1, Nat.le_refl _, hr7⟩, hg7⟩ (by omega)
  have R7 := Lib.hid hr7
  clear hr6 hr7 hg7
  by_cases h0 : u = 0
  · subst h0
    go_wp2_with fail
    refine (pickC B g (p6 + 1) _ _ R7.out (by omega)).mono ?_
    rintro e w8 ⟨a, rfl, ha0, ha1, hr8, hg8⟩
    have D8 : Hid (Drew w B g p 5 w8) := D7.out.step (k1 := 1) ⟨⟨p6 + 1 + 1, Nat.le_refl _, hr8⟩, hg8⟩ (by omega)
    go_wp2_with fail
    refine (pickC B g (p6 + 1 + 1) _ _ hr8 (by omega)).mono ?_
    rintro e w9 ⟨b, rfl, hb0, hb1, hr9, hg9⟩
    have D9 : Hid (Drew w B g p 6 w9) := D8.out.step (k1 := 1) ⟨⟨p6 + 1 + 1 + 1, Nat.le_refl _, hr9⟩, hg9⟩ (by omega)
    have hab : 0 ≤ a * b ∧ a * b ≤ 255 * 255 := ⟨Int.mul_nonneg ha0 hb0, Int.mul_le_mul (a := a) (b := b) (c := 255) (d := 255) (by omega) (by omega) hb0 (by decide)⟩
    obtain ⟨ab, hab'⟩ : ∃ z, a * b = z := ⟨_, rfl⟩
    rw [hab'] at hab
    clear hr8 hg8 hg9
    go_wp2_with fail
    refine (pickC B g (p6 + 1 + 1 + 1) _ _ hr9 (by omega)).mono ?_
    rintro e w10 ⟨c, rfl, hc0, hc1, hr10, hg10⟩
    have D10 : Hid (Drew w B g p 7 w10) := D9.out.step (k1 := 1) ⟨⟨p6 + 1 + 1 + 1 + 1, Nat.le_refl _, hr10⟩, hg10⟩ (by omega)
    have habc : 0 ≤ ab * c ∧ ab * c ≤ 255 * 255 * 149 := ⟨Int.mul_nonneg hab.1 hc0, Int.mul_le_mul (a := ab) (b := c) (c := 255 * 255) (d := 149) hab.2 (by omega) hc0 (by decide)⟩
    obtain ⟨abc, habc'⟩ : ∃ z, ab * c = z := ⟨_, rfl⟩
    rw [habc'] at habc
    clear hr9 hg10
    go_wp2_with fail
    refine (pickC B g (p6 + 1 + 1 + 1 + 1) _ _ hr10 (by omega)).mono ?_
    rintro e w11 ⟨d, rfl, hd0, hd1, hr11, hg11⟩
    have D11 : Hid (Drew w B g p 8 w11) := D10.out.step (k1 := 1) ⟨⟨p6 + 1 + 1 + 1 + 1 + 1, Nat.le_refl _, hr11⟩, hg11⟩ (by omega)
    clear hr10 hr11 hg11
    go_wp2_with fail
    refine (showD (abc + d) 7 _ (by omega) (by omega) (by omega)).mono ?_
    rintro e w12 ⟨s, rfl, hs, hd, hb⟩
    have D12 := Lib.hid (D11.out.below hb)
    clear hb
    go_wp2
    go_ret
    exact ⟨s, rfl, codeOk_of hs hd, D12.out⟩
  · have hq : (u == 0) = false := by simpa using h0
    have D8 : Hid (Drew w B g p 8 w7) := by obtain ⟨⟨q, hq, hr⟩, hg⟩ := D7.out; exact ⟨⟨q, by omega, hr⟩, hg⟩
    go_wp2
    go_ret
    exact ⟨_, rfl, H123.out, D8.out⟩

theorem someCodeQ {w0 w : World} {ps : List Piece} {g k : Nat} (H : Pool w0 w (rdP w0 g k :: ps)) (hk : k ≤ 900000) :
    Calls Try.prog 34 #[.pointer (some ⟨g, 0, none⟩)] w fun e w' => ∃ s : Str, e = .returned (.string s) ∧ codeOk s = true ∧ Hid (Pool w0 w' (rdP w0 g (k + 8) :: ps)) := by
  obtain ⟨p, hp, hr⟩ := H.rdr 0 rfl
  exact (someCodeD _ g p w hr (by omega)).mono fun e w' ⟨s, he, hs, hd⟩ => ⟨s, he, hs, H.rdTo 0 rfl hd (by omega)⟩

theorem rd_strs (l : List Str) (w : World) (t : TypeId) {g : Nat} (hg : g = w.heap.size) : Rd (w.alloc (.cells (l.map Value.string).toArray t)) 1 strEnc (some ⟨g, 0, none⟩) l := fun hl => by
  subst hg
  refine ⟨⟨w.heap.size, 0, none⟩, rfl, by simp, fun i x hx j u hu => ?_⟩
  have hj : j < 1 := by have := (List.getElem?_eq_some_iff.1 hu).1; rw [strEnc_len] at this; exact this
  obtain rfl : j = 0 := by omega
  simp [strEnc] at hu
  subst hu
  rw [show (Addr.add ⟨w.heap.size, 0, none⟩ (i * 1 + 0)) = (⟨w.heap.size, i, none⟩ : Addr) from by simp [Addr.add]; omega, World.cell?_alloc_at _ _ _ _ rfl]
  simp [hx]
end Go.Proofs.Ytjibjoapbjojlaa
