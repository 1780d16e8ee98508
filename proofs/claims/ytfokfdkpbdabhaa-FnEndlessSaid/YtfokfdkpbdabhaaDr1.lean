/-
  What the reference draws for capacities: numbers in range.
-/
import Derived.Test.YtfokfdkpbdabhaaDr0
namespace Go.Proofs.Ytfokfdkpbdabhaa
open Go.RowKit

theorem rd_ints (l : List Int) (w : World) (t : TypeId) {g : Nat} (hg : g = w.heap.size) : Rd (w.alloc (.cells (l.map (Value.int .i64)).toArray t)) 1 inEnc (some ⟨g, 0, none⟩) l := fun hl => by
  subst hg
  refine ⟨⟨w.heap.size, 0, none⟩, rfl, by simp, fun i x hx j u hu => ?_⟩
  have hj : j < 1 := by have := (List.getElem?_eq_some_iff.1 hu).1; rw [inEnc_len] at this; exact this
  obtain rfl : j = 0 := by omega
  simp [inEnc] at hu
  subst hu
  rw [show (Addr.add ⟨w.heap.size, 0, none⟩ (i * 1 + 0)) = (⟨w.heap.size, i, none⟩ : Addr) from by simp [Addr.add]; omega, World.cell?_alloc_at _ _ _ _ rfl]
  simp [hx]

/-- The numbers are in range. -/
def smallNums (x y : Int) : Prop := -1 ≤ x ∧ x ≤ 17 ∧ -1 ≤ y ∧ y ≤ 17

set_option maxHeartbeats 1000000 in
set_option maxRecDepth 100000 in
theorem numbersC (B g p : Nat) (w : World) (h : Rdr w B g p) (hp : p ≤ 900000) :
    Calls Try.prog 59 #[.pointer (some ⟨g, 0, none⟩)] w fun e w' => ∃ x y, e = .returned (.tuple #[.int .i64 x, .int .i64 y]) ∧ smallNums x y ∧ Drew w B g p 3 w' := by
  have H := Lib.hid h
  have hgw : g < w.heap.size := by obtain ⟨-, A, n, cap, bs, hh, -⟩ := h; exact (Array.getElem?_eq_some_iff.1 hh).1
  clear h
  go_enter Try.func59, Try.ntmps59
  go_wp2_with fail
  refine (pickC B g p _ _ H.out (by omega)).mono ?_
  rintro e w1 ⟨v, rfl, hv0, hv1, hr1, hg1⟩
  have hz1 := hg1.size
  have D1 : Hid (Drew w B g p 1 w1) := ⟨⟨p + 1, Nat.le_refl _, hr1⟩, hg1⟩
  have R1 := Lib.hid hr1
  clear hr1 hg1
  by_cases h0 : v = 0
  · subst h0
    have hbA := fun o => (Below.refl w1.heap.size w1).alloc (Nat.le_refl _) o
    go_wp2_with fail
    refine (numC B g (p + 1) _ [1, 17, 16, 2] 4 _ rfl (by decide) _ (R1.out.below (hbA _)) (by omega) (by decide) (rd_ints [1, 17, 16, 2] w1 _ rfl) (fun ad e => by injection e with e; subst e; show w1.heap.size ≠ g; omega)).mono ?_
    rintro e w2 ⟨x, rfl, hx, hd2⟩
    have D2 : Hid (Drew w B g p 2 w2) := (D1.out.below (hbA _)).step hd2 (by omega)
    obtain ⟨p2, hp2, hr2⟩ := D2.out.rd
    have hz2 : w1.heap.size ≤ w2.heap.size := by have := hd2.gr.size; simp at this; omega
    have R2 := Lib.hid hr2
    clear hd2 hr2
    have hbB := fun o => (Below.refl w2.heap.size w2).alloc (Nat.le_refl _) o
    have hx' : -1 ≤ x ∧ x ≤ 17 := by simp at hx; omega
    clear hx
    go_wp2_with fail
    refine (numC B g p2 _ [0, 5, 4, -1] 4 _ rfl (by decide) _ (R2.out.below (hbB _)) (by omega) (by decide) (rd_ints [0, 5, 4, -1] w2 _ rfl) (fun ad e => by injection e with e; subst e; show w2.heap.size ≠ g; omega)).mono ?_
    rintro e w3 ⟨y, rfl, hy, hd3⟩
    have D3 : Hid (Drew w B g p 3 w3) := (D2.out.below (hbB _)).step hd3 (by omega)
    have hy' : -1 ≤ y ∧ y ≤ 17 := by simp at hy; omega
    clear hd3 hy
    go_wp2
    go_ret2
    exact ⟨x, y, rfl, ⟨hx'.1, hx'.2, hy'.1, hy'.2⟩, D3.out⟩
  · have hq : (v == 0) = false := by simpa using h0
    go_wp2_with fail
    refine (pickC B g (p + 1) _ _ R1.out (by omega)).mono ?_
    rintro e w2 ⟨x, rfl, hx0, hx1, hr2, hg2⟩
    have D2 : Hid (Drew w B g p 2 w2) := D1.out.step ⟨⟨p + 1 + 1, Nat.le_refl _, hr2⟩, hg2⟩ (by omega)
    have R2 := Lib.hid hr2
    clear hr2 hg2
    go_wp2_with fail
    refine (pickC B g (p + 1 + 1) _ _ R2.out (by omega)).mono ?_
    rintro e w3 ⟨y, rfl, hy0, hy1, hr3, hg3⟩
    have D3 : Hid (Drew w B g p 3 w3) := D2.out.step ⟨⟨p + 1 + 1 + 1, Nat.le_refl _, hr3⟩, hg3⟩ (by omega)
    clear hr3 hg3
    go_wp2
    go_ret2
    exact ⟨2 + x, 1 + y, rfl, ⟨by omega, by omega, by omega, by omega⟩, D3.out⟩

set_option maxHeartbeats 1000000 in
set_option maxRecDepth 100000 in
theorem countC (B g p : Nat) (w : World) (h : Rdr w B g p) (hp : p ≤ 900000) :
    Calls Try.prog 66 #[.pointer (some ⟨g, 0, none⟩)] w fun e w' => ∃ x, e = .returned (.int .i64 x) ∧ -1 ≤ x ∧ x ≤ 9223372036854775807 ∧ Drew w B g p 3 w' := by
  have H := Lib.hid h
  have hgw : g < w.heap.size := by obtain ⟨-, A, n, cap, bs, hh, -⟩ := h; exact (Array.getElem?_eq_some_iff.1 hh).1
  clear h
  go_enter Try.func66, Try.ntmps66
  go_wp2_with fail
  refine (pickC B g p _ _ H.out (by omega)).mono ?_
  rintro e w1 ⟨v, rfl, hv0, hv1, hr1, hg1⟩
  have hz1 := hg1.size
  have D1 : Hid (Drew w B g p 1 w1) := ⟨⟨p + 1, Nat.le_refl _, hr1⟩, hg1⟩
  have R1 := Lib.hid hr1
  clear hr1 hg1
  by_cases h0 : v = 0
  · subst h0
    have hbA := fun o => (Below.refl w1.heap.size w1).alloc (Nat.le_refl _) o
    go_wp2_with fail
    refine (numC B g (p + 1) _ [-1, 0, 65536, 65537, 9223372036854775807] 5 _ rfl (by decide) _ (R1.out.below (hbA _)) (by omega) (by decide) (rd_ints [-1, 0, 65536, 65537, 9223372036854775807] w1 _ rfl) (fun ad e => by injection e with e; subst e; show w1.heap.size ≠ g; omega)).mono ?_
    rintro e w2 ⟨x, rfl, hx, hd2⟩
    have D2 : Hid (Drew w B g p 3 w2) := (D1.out.below (hbA _)).step hd2 (by omega)
    have hx' : -1 ≤ x ∧ x ≤ 9223372036854775807 := by simp at hx; omega
    clear hd2 hx
    go_wp2
    go_ret
    exact ⟨x, rfl, hx'.1, hx'.2, D2.out⟩
  · have hq : (v == 0) = false := by simpa using h0
    go_wp2_with fail
    refine (pickC B g (p + 1) _ _ R1.out (by omega)).mono ?_
    rintro e w2 ⟨x, rfl, hx0, hx1, hr2, hg2⟩
    have D2 : Hid (Drew w B g p 2 w2) := D1.out.step ⟨⟨p + 1 + 1, Nat.le_refl _, hr2⟩, hg2⟩ (by omega)
    have R2 := Lib.hid hr2
    clear hr2 hg2
    go_wp2_with fail
    refine (pickC B g (p + 1 + 1) _ _ R2.out (by omega)).mono ?_
    rintro e w3 ⟨y, rfl, hy0, hy1, hr3, hg3⟩
    have D3 : Hid (Drew w B g p 3 w3) := D2.out.step ⟨⟨p + 1 + 1 + 1, Nat.le_refl _, hr3⟩, hg3⟩ (by omega)
    clear hr3 hg3
    have hxy : 0 ≤ x * y ∧ x * y ≤ 255 * 39 := ⟨Int.mul_nonneg hx0 hy0, by
      have := Int.mul_le_mul (a := x) (b := y) (c := 255) (d := 39) (by omega) (by omega) hy0 (by decide)
      exact this⟩
    obtain ⟨z, hz⟩ : ∃ z, x * y = z := ⟨_, rfl⟩
    rw [hz] at hxy
    go_wp2
    go_ret
    exact ⟨z, by rw [← hz]; rfl, by omega, by omega, D3.out⟩

set_option maxHeartbeats 1000000 in
theorem drawCapacityC (A : Option Addr) (bs : List UInt8) (n cap : Nat) (hn : n = bs.length) (hc : n ≤ cap) (w : World) (hlen : n ≤ 1048576) (hr : Rd w 1 byEnc A bs) :
    Calls Try.prog 15 #[.slice A n cap] w fun e w' => ∃ x y, e = .returned (.tuple #[.int .i64 x, .int .i64 y]) ∧ smallNums x y ∧ Below w.heap.size w w' := by
  have Hn := Lib.hid hn
  have Hr := Lib.hid hr
  clear hn hr
  go_enter Try.func15, Try.ntmps15
  go_wp2_with fail
  refine (openC A bs n cap Hn.out hc _ hlen Hr.out).mono ?_
  rintro e w1 ⟨rfl, hr1, hb1⟩
  go_wp2_with fail
  refine (numbersC _ _ _ _ hr1 (by omega)).mono ?_
  rintro e w2 ⟨x, y, rfl, hs, hd⟩
  have HB : Hid (Below w.heap.size w w2) := grown_below_g hb1 hd.gr (Nat.le_refl _)
  clear hd hb1 hr1
  go_wp2
  go_ret2
  exact ⟨x, y, rfl, hs, HB.out⟩

set_option maxHeartbeats 1000000 in
theorem drawLeastBinsC (A : Option Addr) (bs : List UInt8) (n cap : Nat) (hn : n = bs.length) (hc : n ≤ cap) (w : World) (hlen : n ≤ 1048576) (hr : Rd w 1 byEnc A bs) :
    Calls Try.prog 20 #[.slice A n cap] w fun e w' => ∃ x y, e = .returned (.tuple #[.int .i64 x, .int .i64 y]) ∧ -1 ≤ x ∧ x ≤ 9223372036854775807 ∧ -1 ≤ y ∧ y ≤ 17 ∧ Below w.heap.size w w' := by
  have Hn := Lib.hid hn
  have Hr := Lib.hid hr
  clear hn hr
  go_enter Try.func20, Try.ntmps20
  go_wp2_with fail
  refine (openC A bs n cap Hn.out hc _ hlen Hr.out).mono ?_
  rintro e w1 ⟨rfl, hr1, hb1⟩
  go_wp2_with fail
  refine (numbersC _ _ _ _ hr1 (by omega)).mono ?_
  rintro e w2 ⟨x, y, rfl, hs, hd⟩
  obtain ⟨p2, hp2, hr2⟩ := hd.rd
  go_wp2_with fail
  refine (countC _ _ _ _ hr2 (by omega)).mono ?_
  rintro e w3 ⟨z, rfl, hz0, hz1, hd2⟩
  have HB : Hid (Below w.heap.size w w3) := grown_below_g (grown_below_g hb1 hd.gr (Nat.le_refl _)) hd2.gr (Nat.le_refl _)
  clear hd hb1 hr1 hd2 hr2
  go_wp2
  go_ret2
  exact ⟨z, y, rfl, hz0, hz1, hs.2.2.1, hs.2.2.2, HB.out⟩

set_option maxHeartbeats 1000000 in
theorem drawLeastPassesC (A : Option Addr) (bs : List UInt8) (n cap : Nat) (hn : n = bs.length) (hc : n ≤ cap) (w : World) (hlen : n ≤ 1048576) (hr : Rd w 1 byEnc A bs) :
    Calls Try.prog 22 #[.slice A n cap] w fun e w' => ∃ x y, e = .returned (.tuple #[.int .i64 x, .int .i64 y]) ∧ -1 ≤ x ∧ x ≤ 9223372036854775807 ∧ -1 ≤ y ∧ y ≤ 17 ∧ Below w.heap.size w w' := by
  have Hn := Lib.hid hn
  have Hr := Lib.hid hr
  clear hn hr
  go_enter Try.func22, Try.ntmps22
  go_wp2_with fail
  refine (openC A bs n cap Hn.out hc _ hlen Hr.out).mono ?_
  rintro e w1 ⟨rfl, hr1, hb1⟩
  go_wp2_with fail
  refine (numbersC _ _ _ _ hr1 (by omega)).mono ?_
  rintro e w2 ⟨x, y, rfl, hs, hd⟩
  obtain ⟨p2, hp2, hr2⟩ := hd.rd
  go_wp2_with fail
  refine (countC _ _ _ _ hr2 (by omega)).mono ?_
  rintro e w3 ⟨z, rfl, hz0, hz1, hd2⟩
  have HB : Hid (Below w.heap.size w w3) := grown_below_g (grown_below_g hb1 hd.gr (Nat.le_refl _)) hd2.gr (Nat.le_refl _)
  clear hd hb1 hr1 hd2 hr2
  go_wp2
  go_ret2
  exact ⟨z, x, rfl, hz0, hz1, hs.1, hs.2.1, HB.out⟩
end Go.Proofs.Ytfokfdkpbdabhaa
