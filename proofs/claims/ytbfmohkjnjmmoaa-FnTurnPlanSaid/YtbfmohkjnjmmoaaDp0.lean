/-
  The reader of the reference's draws as a thing of a pool, and what is drawn of it: numbers, codes.
-/
import Derived.Test.YtbfmohkjnjmmoaaDpF
import Derived.Test.YtbfmohkjnjmmoaaDpO
import Derived.Test.YtbfmohkjnjmmoaaPlHb
import Derived.Test.YtbfmohkjnjmmoaaPoolL
namespace Go.Proofs.Ytbfmohkjnjmmoaa
open Go.RowKit

theorem Rdr.lt {w : World} {B g p : Nat} (h : Rdr w B g p) : g < w.heap.size := by
  obtain ⟨-, A, n, cap, bs, hh, -⟩ := h; exact (Array.getElem?_eq_some_iff.1 hh).1
/-- A reader that stands at k, or before. -/
def rdP (w0 : World) (g k : Nat) : Piece :=
  ⟨[g], fun w => ∃ (p : Nat) (A : Option Addr) (n cap : Nat) (bs : List UInt8), p ≤ k ∧ w.heap[g]? = some (.cells #[.slice A n cap, .int .i64 (p : Int)] 124 (0, 0)) ∧ n = bs.length ∧ n ≤ 2000 ∧ Rd w0 1 byEnc A bs,
    fun w w' _ hk ⟨p, A, n, cap, bs, h1, h2, h⟩ => ⟨p, A, n, cap, bs, h1, (hk g (by simp)).trans h2, h⟩⟩
section
variable {w0 w w' : World} {ps : List Piece} {g k : Nat}
theorem Pool.rdr (h : Pool w0 w ps) (i : Nat) (hi : ps[i]? = some (rdP w0 g k)) : ∃ p, p ≤ k ∧ Rdr w w0.heap.size g p := by
  obtain ⟨p, A, n, cap, bs, h1, h2, h3, h4, h5⟩ := h.get i hi
  have hm := (h.all _ (List.mem_of_getElem? hi)).2 g (by simp [rdP])
  exact ⟨p, h1, hm.1, A, n, cap, bs, h2, h3, h4, h5.below h.below, fun ad e h0 => h5.lt (by omega) ad e⟩
theorem rd_back {α : Type} {size : Nat} {enc : α → List Value} {A : Option Addr} {l : List α} (hb : Below w0.heap.size w0 w) (h : Rd w size enc A l) (ha : ∀ ad, A = some ad → 0 < l.length → ad.block < w0.heap.size) : Rd w0 size enc A l := fun hl => by
  obtain ⟨ad, rfl, _, hc⟩ := h hl
  have h0 := ha ad rfl hl
  exact ⟨ad, rfl, h0, fun i x hx j u hu => (hb.cell (by rw [block_add]; exact h0)).symm.trans (hc i x hx j u hu)⟩
theorem Pool.rdTo (h : Pool w0 w ps) (i : Nat) (hi : ps[i]? = some (rdP w0 g k)) {p j k' : Nat} (hd : Drew w w0.heap.size g p j w') (hp : p + j ≤ k') : Pool w0 w' (ps.set i (rdP w0 g k')) := by
  obtain ⟨⟨p', hp', hr⟩, hg⟩ := hd
  have hm := (h.all _ (List.mem_of_getElem? hi)).2 g (by simp [rdP])
  have hb : Below w0.heap.size w0 w' := h.below.trans ⟨hg.os, hg.tape, hg.output, hg.size, fun k hk => hg.block k (by have := h.below.size; omega) (by intro e; injection e with e; omega)⟩
  refine h.turn i hi (fun k hk => ?_) ?_ hg.os hg.tape hg.output hg.size (fun k hlt hm' => hg.block k hlt (fun e => hm' ?_))
  · have hk : k ∈ [g] := hk
    have := List.mem_singleton.1 hk
    subst this
    exact ⟨.inl (List.mem_singleton.2 rfl), hr.lt⟩
  · obtain ⟨ho, A, n, cap, bs, hh, hn, h2, hrd, ha⟩ := hr
    exact ⟨p', A, n, cap, bs, by omega, hh, hn, h2, rd_back hb hrd (fun ad e h0 => ha ad e (by omega))⟩
  · injection e with e
    subst e; exact List.mem_singleton.2 rfl
/-- The bound may be raised. -/
theorem Pool.rdUp (h : Pool w0 w (rdP w0 g k :: ps)) {k' : Nat} (hk : k ≤ k') : Pool w0 w (rdP w0 g k' :: ps) := by
  obtain ⟨p, hp, hr⟩ := h.rdr 0 rfl
  exact h.rdTo 0 rfl (Drew.zero hr) (by omega)

theorem pickP (H : Pool w0 w (rdP w0 g k :: ps)) (m : Int) (hk : k ≤ 900000) :
    Calls Try.prog 66 #[.pointer (some ⟨g, 0, none⟩), .int .i64 m] w fun e w' => ∃ v : Int, e = .returned (.int .i64 v) ∧ 0 ≤ v ∧ (v < m ∨ v = 0) ∧ Hid (Pool w0 w' (rdP w0 g (k + 1) :: ps)) := by
  obtain ⟨p, hp, hr⟩ := H.rdr 0 rfl
  exact (pickC _ g p m w hr (by omega)).mono fun e w' ⟨v, he, h0, h1, hr1, hg⟩ => ⟨v, he, h0, h1, H.rdTo 0 rfl (j := 1) ⟨⟨p + 1, Nat.le_refl _, hr1⟩, hg⟩ (by omega)⟩

theorem numP (l : List Int) (n cap : Nat) (t : TypeId) (g1 : Nat) (H : Pool w0 w (rdP w0 g k :: ps)) (hg1 : g1 = w.heap.size) (hn : n = l.length) (h0 : 0 < n) (hl : n ≤ 1000) (hk : k ≤ 900000) :
    Calls Try.prog 77 #[.pointer (some ⟨g, 0, none⟩), .slice (some ⟨g1, 0, none⟩) n cap] (w.alloc (.cells (l.map (Value.int .i64)).toArray t)) fun e w' => ∃ x, e = .returned (.int .i64 x) ∧ x ∈ l ∧ Hid (Pool w0 w' (rdP w0 g (k + 1) :: ps)) := by
  have H2 := H.alloc (.cells (l.map (Value.int .i64)).toArray t)
  obtain ⟨p, hp, hr⟩ := H2.rdr 0 rfl
  have hgw : g < w.heap.size := ((H.all (rdP w0 g k) (by simp)).2 g (by simp [rdP])).2
  exact (numC _ g p _ l n cap hn h0 _ hr (by omega) (by omega) (rd_ints l w t hg1) (fun ad e => by injection e with e; subst e; show g1 ≠ g; omega)).mono fun e w' ⟨x, he, hx, hd⟩ => ⟨x, he, hx, H2.rdTo 0 rfl hd (by omega)⟩
end

set_option maxHeartbeats 2000000 in
set_option maxRecDepth 100000 in
theorem someCodeC (B g p : Nat) (w : World) (h : Rdr w B g p) (hp : p ≤ 900000) :
    Calls Try.prog 68 #[.pointer (some ⟨g, 0, none⟩)] w fun e w' => ∃ s : Str, e = .returned (.string s) ∧ s.size = 7 ∧ Drew w B g p 8 w' := by
  have hgw := h.lt
  have H := Lib.hid h
  clear h
  have hbA := fun o => (Below.refl w.heap.size w).alloc (Nat.le_refl _) o
  go_enter Try.func68, Try.ntmps68
  go_wp2_with fail
  refine (numC B g p _ [120, 121, 7, 999] 4 _ rfl (by decide) _ (H.out.below (hbA _)) (by omega) (by decide) (rd_ints [120, 121, 7, 999] w _ rfl) (fun ad e => by injection e with e; subst e; show w.heap.size ≠ g; omega)).mono ?_
  rintro e w1 ⟨x, rfl, hx, hd⟩
  have hz1 : w.heap.size ≤ w1.heap.size := by have := hd.gr.size; simp at this; omega
  have D1 : Hid (Drew w B g p 1 w1) := ((Drew.zero H.out).below (hbA _)).step hd (by omega)
  obtain ⟨p1, hp1, hr1⟩ := D1.out.rd
  have hx' : 0 ≤ x ∧ x ≤ 999 := by simp at hx; omega
  have hbB := fun o => (Below.refl w1.heap.size w1).alloc (Nat.le_refl _) o
  have R1 := Lib.hid hr1
  clear hd hx hr1 hbA
  go_wp2_with fail
  refine (numC B g p1 _ [1, 2, 10, 99] 4 _ rfl (by decide) _ (R1.out.below (hbB _)) (by omega) (by decide) (rd_ints [1, 2, 10, 99] w1 _ rfl) (fun ad e => by injection e with e; subst e; show w1.heap.size ≠ g; omega)).mono ?_
  rintro e w2 ⟨y, rfl, hy, hd⟩
  have D2 : Hid (Drew w B g p 2 w2) := (D1.out.below (hbB _)).step hd (by omega)
  have hy' : 0 ≤ y ∧ y ≤ 99 := by simp at hy; omega
  clear hd hy hbB
  go_wp2_with fail
  refine (showC x 3 _ hx'.1 (by omega) (by omega)).mono ?_
  rintro e w3 ⟨s1, rfl, hs1, hb⟩
  have D3 := Lib.hid (D2.out.below hb)
  clear hb
  go_wp2_with fail
  refine (showC y 2 _ hy'.1 (by omega) (by omega)).mono ?_
  rintro e w4 ⟨s2, rfl, hs2, hb⟩
  have D4 := Lib.hid (D3.out.below hb)
  obtain ⟨p4, hp4, hr4⟩ := D4.out.rd
  clear hb
  go_wp2_with fail
  refine (pickC B g p4 _ _ hr4 (by omega)).mono ?_
  rintro e w5 ⟨v, rfl, hv0, hv1, hr5, hg5⟩
  have D5 : Hid (Drew w B g p 3 w5) := D4.out.step (k1 := 1) ⟨⟨p4 + 1, Nat.le_refl _, hr5⟩, hg5⟩ (by omega)
  clear hr4 hr5 hg5
  go_wp2_with fail
  refine (showC v 2 _ hv0 (by omega) (by omega)).mono ?_
  rintro e w6 ⟨s3, rfl, hs3, hb⟩
  have D6 := Lib.hid (D5.out.below hb)
  obtain ⟨p6, hp6, hr6⟩ := D6.out.rd
  have h12 : (s1 ++ s2).size = 5 := by rw [ByteArray.size_append]; omega
  have h123 : (s1 ++ s2 ++ s3).size = 7 := by rw [ByteArray.size_append]; omega
  clear hb
  go_wp2_with fail
  refine (pickC B g p6 _ _ hr6 (by omega)).mono ?_
  rintro e w7 ⟨u, rfl, hu0, hu1, hr7, hg7⟩
  have D7 : Hid (Drew w B g p 4 w7) := D6.out.step (k1 := 1) ⟨⟨p6 + 1, Nat.le_refl _, hr7⟩, hg7⟩ (by omega)
  have R7 := Lib.hid hr7
  clear hr6 hr7 hg7
  by_cases h0 : u = 0
  · subst h0
    go_wp2_with fail
    refine (pickC B g (p6 + 1) _ _ R7.out (by omega)).mono ?_
    rintro e w8 ⟨a, rfl, ha0, ha1, hr8, hg8⟩
    have D8 : Hid (Drew w B g p 5 w8) := D7.out.step (k1 := 1) ⟨⟨p6 + 1 + 1, Nat.le_refl _, hr8⟩, hg8⟩ (by omega)
    go_wp2_with fail
    refine (pickC B g (p6 + 1 + 1) _ _ hr8 (by omega)).mono ?_
    rintro e w9 ⟨b, rfl, hb0, hb1, hr9, hg9⟩
    have D9 : Hid (Drew w B g p 6 w9) := D8.out.step (k1 := 1) ⟨⟨p6 + 1 + 1 + 1, Nat.le_refl _, hr9⟩, hg9⟩ (by omega)
    have hab : 0 ≤ a * b ∧ a * b ≤ 255 * 255 := ⟨Int.mul_nonneg ha0 hb0, Int.mul_le_mul (a := a) (b := b) (c := 255) (d := 255) (by omega) (by omega) hb0 (by decide)⟩
    obtain ⟨ab, hab'⟩ : ∃ z, a * b = z := ⟨_, rfl⟩
    rw [hab'] at hab
    clear hr8 hg8 hg9
    go_wp2_with fail
    refine (pickC B g (p6 + 1 + 1 + 1) _ _ hr9 (by omega)).mono ?_
    rintro e w10 ⟨c, rfl, hc0, hc1, hr10, hg10⟩
    have D10 : Hid (Drew w B g p 7 w10) := D9.out.step (k1 := 1) ⟨⟨p6 + 1 + 1 + 1 + 1, Nat.le_refl _, hr10⟩, hg10⟩ (by omega)
    have habc : 0 ≤ ab * c ∧ ab * c ≤ 255 * 255 * 149 := ⟨Int.mul_nonneg hab.1 hc0, Int.mul_le_mul (a := ab) (b := c) (c := 255 * 255) (d := 149) hab.2 (by omega) hc0 (by decide)⟩
    obtain ⟨abc, habc'⟩ : ∃ z, ab * c = z := ⟨_, rfl⟩
    rw [habc'] at habc
    clear hr9 hg10
    go_wp2_with fail
    refine (pickC B g (p6 + 1 + 1 + 1 + 1) _ _ hr10 (by omega)).mono ?_
    rintro e w11 ⟨d, rfl, hd0, hd1, hr11, hg11⟩
    have D11 : Hid (Drew w B g p 8 w11) := D10.out.step (k1 := 1) ⟨⟨p6 + 1 + 1 + 1 + 1 + 1, Nat.le_refl _, hr11⟩, hg11⟩ (by omega)
    clear hr10 hr11 hg11
    go_wp2_with fail
    refine (showC (abc + d) 7 _ (by omega) (by omega) (by omega)).mono ?_
    rintro e w12 ⟨s, rfl, hs, hb⟩
    have D12 := Lib.hid (D11.out.below hb)
    clear hb
    go_wp2
    go_ret
    exact ⟨s, rfl, hs, D12.out⟩
  · have hq : (u == 0) = false := by simpa using h0
    have D8 : Hid (Drew w B g p 8 w7) := by obtain ⟨⟨q, hq, hr⟩, hg⟩ := D7.out; exact ⟨⟨q, by omega, hr⟩, hg⟩
    go_wp2
    go_ret
    exact ⟨_, rfl, h123, D8.out⟩

theorem someCodeP {w0 w : World} {ps : List Piece} {g k : Nat} (H : Pool w0 w (rdP w0 g k :: ps)) (hk : k ≤ 900000) :
    Calls Try.prog 68 #[.pointer (some ⟨g, 0, none⟩)] w fun e w' => ∃ s : Str, e = .returned (.string s) ∧ s.size = 7 ∧ Hid (Pool w0 w' (rdP w0 g (k + 8) :: ps)) := by
  obtain ⟨p, hp, hr⟩ := H.rdr 0 rfl
  exact (someCodeC _ g p w hr (by omega)).mono fun e w' ⟨s, he, hs, hd⟩ => ⟨s, he, hs, H.rdTo 0 rfl hd (by omega)⟩

theorem badP {w0 w : World} {ps : List Piece} {g k : Nat} (c : Str) (H : Pool w0 w (rdP w0 g k :: ps)) (hk : k ≤ 900000) (h1 : 1 ≤ c.size) (h2 : c.size ≤ 1000) :
    Calls Try.prog 67 #[.pointer (some ⟨g, 0, none⟩), .string c] w fun e w' => ∃ s : Str, e = .returned (.string s) ∧ s.size ≤ 1001 ∧ Hid (Pool w0 w' (rdP w0 g (k + 1) :: ps)) := by
  obtain ⟨p, hp, hr⟩ := H.rdr 0 rfl
  exact (badC _ g p c w hr (by omega) h1 h2).mono fun e w' ⟨s, he, hs, hd⟩ => ⟨s, he, hs, H.rdTo 0 rfl hd (by omega)⟩

/-- The reader is opened: the first thing of a pool. -/
theorem openP (A : Option Addr) (bs : List UInt8) (n cap : Nat) (hn : n = bs.length) (hc : n ≤ cap) (w : World) (hlen : n ≤ 1048576) (hr : Rd w 1 byEnc A bs) :
    Calls Try.prog 64 #[.slice A n cap] w fun e w' => ∃ g, e = .returned (.pointer (some ⟨g, 0, none⟩)) ∧ Hid (Pool w w' [rdP w g 0]) := by
  refine (openC A bs n cap hn hc w hlen hr).mono ?_
  rintro e w' ⟨rfl, hrd, hb⟩
  refine ⟨_, rfl, ?_⟩
  refine (Pool.nil_ w).add hb (rdP w w.heap.size 0) ?_ (fun k hk => ?_)
  · obtain ⟨ho, A', n', cap', bs', hh, hn', h2, hrd', ha'⟩ := hrd
    exact ⟨0, A', n', cap', bs', Nat.le_refl _, hh, hn', h2, rd_back hb hrd' (fun ad e h0 => ha' ad e (by omega))⟩
  · have hk : k ∈ [w.heap.size] := hk
    have := List.mem_singleton.1 hk
    subst this
    exact ⟨Nat.le_refl _, hrd.lt⟩
end Go.Proofs.Ytbfmohkjnjmmoaa
