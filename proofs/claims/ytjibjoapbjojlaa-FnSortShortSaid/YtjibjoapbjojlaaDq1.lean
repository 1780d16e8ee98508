/-
  A slice of bytes, opened; the laws on capacities.
  What the reference draws: decimal numbers, codes, codes that are none. (Beside XMark.)
  The reader of the reference's draws as a thing of a pool, and what is drawn of it: numbers, codes.
  What the reference draws for plans: codes in order, a plan.
  What the reference draws for plans: one that is sometimes not valid.
  The draws of laws on one plan: DrawPlanValid, DrawTurnPlan, DrawPlanRank, DrawPlanBin.
-/
import Derived.Test.YtjibjoapbjojlaaDr1
import Derived.Test.YtjibjoapbjojlaaPlO
import Derived.Deep.Slices
import Derived.Deep.Fields
import Derived.ChangeSame
import Derived.Test.YtjibjoapbjojlaaMark
import Derived.Laws.BytesArg
import Derived.Test.YtjibjoapbjojlaaPlHb
import Derived.Test.YtjibjoapbjojlaaPoolL
import Derived.Test.YtjibjoapbjojlaaPlA
import Derived.Test.YtjibjoapbjojlaaCap
import Derived.Test.YtjibjoapbjojlaaPlJb
namespace Go.Proofs.Ytjibjoapbjojlaa

section
open Go.RowKit Go.ChangeShapes Go.WideShapes Go.Deep

theorem u8_cells : Try.prog.cellsOf 5 = 1 := by kernel_rfl
/-- An argument that is a slice of bytes. -/
def ByIn (w : World) (A : Option Addr) (l : List UInt8) (c : Nat) : Prop :=
  l.length ≤ c ∧ c ≤ maxLen ∧ Rd w 1 byEnc A l

set_option maxRecDepth 100000 in
theorem open_bytes {H : Type} {enc : TypeId × Value → H} {W : World} {r : Reach} {base : Nat} {v : Value} {d : DataW H} {p : List MemPlace} {sp : Nat → Bool} {held : Bool}
    (hok : Value.okWide Try.prog W r base 22 v) (h : DataW.Trod enc Try.prog W 0 sp held 22 v d p) : ∃ A l c, v = .slice A l.length c ∧ ByIn W A l c := by
  obtain ⟨a, len, cap, rfl⟩ := okWide_slice Try.underlying22 hok
  obtain ⟨fuel, hf⟩ := h
  rcases open_slice1 Try.underlying22 u8_cells (show DataW.trod _ _ _ _ _ _ _ _ [.slice a len cap] = _ from hf) with ⟨hv, _⟩ | ⟨ad, len', cap', m, n, V, D, Pl, hv, _, hlc, hcm, hm, _, hi⟩
  · injection hv with hv
    injection hv with e1 e2 e3
    subst e1 e2 e3
    exact ⟨none, [], 0, rfl, Nat.le_refl _, Nat.zero_le _, Rd.nil_⟩
  · injection hv with hv
    injection hv with e1 e2 e3
    subst e1 e2 e3
    have hlm : len ≤ m := by rw [hm]; split <;> omega
    obtain ⟨l, hl, hq⟩ := list_of (Q := fun i (x : UInt8) => W.cell? (ad.add i) = some (.int .u8 (x.toNat : Int))) len fun i hil => by
      obtain ⟨c0, t0⟩ := hi i (by omega)
      obtain ⟨k, e0, _, z0⟩ := DataW.trod_int Try.underlying5 t0
      injection e0 with e0
      rw [e0] at c0
      have hz : IntKind.u8.min ≤ k ∧ k ≤ IntKind.u8.max := by simpa [Lit.wf] using z0
      rw [show IntKind.u8.min = 0 from rfl, show IntKind.u8.max = 255 from rfl] at hz
      refine ⟨UInt8.ofNat k.toNat, ?_⟩
      rw [c0]
      congr 2
      simp
      omega
    subst hl
    refine ⟨some ad, l, cap, rfl, hlc, hcm, fun hl0 => ?_⟩
    refine ⟨ad, rfl, ?_, fun i x hx j u hu => ?_⟩
    · have := World.block_lt_of_cell? W _ (hq 0 _ (List.getElem?_eq_getElem hl0))
      rwa [block_add] at this
    · have hj : j < 1 := by have := (List.getElem?_eq_some_iff.1 hu).1; rw [byEnc_len] at this; exact this
      obtain rfl : j = 0 := by omega
      simp [byEnc] at hu
      subst hu
      simpa using hq i x hx

end

section
open Go.RowKit

theorem size_one (x : UInt8) : ({ data := #[x] } : ByteArray).size = 1 := rfl
set_option maxHeartbeats 1000000 in
set_option maxRecDepth 100000 in
theorem decDigit (n : Int) (w : World) (h0 : 0 ≤ n) (h1 : n ≤ 9) :
    Calls Try.prog 43 #[.int .i64 n] w fun e w' => ∃ s : Str, e = .returned (.string s) ∧ s.size = 1 ∧ Below w.heap.size w w' := by
  have hcv := conv_byte w (48 + n)
  obtain ⟨d, hd⟩ : ∃ d : Str, (⟨#[UInt8.ofNat (48 + n).toNat]⟩ : Str) = d := ⟨_, rfl⟩
  have hsz : d.size = 1 := by rw [← hd]; rfl
  rw [hd] at hcv
  clear hd
  go_enter Try.func43, Try.ntmps43
  go_wp2
  go_loopw [0, 3] (fun i s wr => i = .int .i64 n ∧ s = .string ByteArray.empty ∧ wr = w) (fun _ _ _ => 0)
  case atStart => exact ⟨rfl, rfl, rfl⟩
  case round =>
    obtain ⟨rfl, rfl, rfl⟩ := hrel
    go_wp2
    go_ret
    exact ⟨_, rfl, by simp [hsz], (Below.refl _ _).alloc (Nat.le_refl _) _⟩

set_option maxHeartbeats 1000000 in
set_option maxRecDepth 100000 in
theorem showC (n : Int) (k : Nat) (w : World) (h0 : 0 ≤ n) (h1 : n ≤ 1000000000) (hk : k ≤ 100) :
    Calls Try.prog 39 #[.int .i64 n, .int .i64 k] w fun e w' => ∃ s : Str, e = .returned (.string s) ∧ s.size = k ∧ Below w.heap.size w w' := by
  go_enter Try.func39, Try.ntmps39
  go_wp2
  go_loopw [0, 5, 6] (fun i s j wr => ∃ (m : Int) (out : Str) (q : Nat), 0 ≤ m ∧ m ≤ 1000000000 ∧ q ≤ k ∧ out.size = q ∧ i = .int .i64 m ∧ s = .string out ∧ j = .int .i64 q ∧ Below w.heap.size w wr) (fun _ _ j _ => k - (intOf j).toNat)
  case atStart => exact ⟨n, ByteArray.empty, 0, h0, h1, Nat.zero_le _, rfl, rfl, rfl, rfl, Below.refl _ _⟩
  case round =>
    obtain ⟨m, out, q, hm0, hm1, hq, hsz, rfl, rfl, rfl, hb⟩ := hrel
    by_cases hlt : q < k
    · go_wp2_with fail
      refine (decDigit _ _ (by omega) (by omega)).mono ?_
      rintro e w1 ⟨d, rfl, hd, hb1⟩
      have hs2 : (d ++ out).size = q + 1 := by rw [ByteArray.size_append]; omega
      go_wp2
      go_roundw
      case rel => exact ⟨m / 10, d ++ out, q + 1, by omega, by omega, by omega, hs2, by go_num, rfl, by go_num, below_step hb hb1⟩
      case measure => simp [intOf]; omega
    · obtain rfl : q = k := by omega
      go_wp2
      go_ret
      exact ⟨out, rfl, hsz, hb⟩

set_option maxHeartbeats 1000000 in
set_option maxRecDepth 100000 in
theorem badC (B g p : Nat) (c : Str) (w : World) (h : Rdr w B g p) (hp : p ≤ 900000) (h1 : 1 ≤ c.size) (h2 : c.size ≤ 1000) :
    Calls Try.prog 32 #[.pointer (some ⟨g, 0, none⟩), .string c] w fun e w' => ∃ s : Str, e = .returned (.string s) ∧ s.size ≤ 1001 ∧ Drew w B g p 1 w' := by
  have H := Lib.hid h
  clear h
  go_enter Try.func32, Try.ntmps32
  go_wp2_with fail
  refine (pickC B g p _ _ H.out (by omega)).mono ?_
  rintro e w1 ⟨v, rfl, hv0, hv1, hr1, hg1⟩
  have D1 : Hid (Drew w B g p 1 w1) := ⟨⟨p + 1, Nat.le_refl _, hr1⟩, hg1⟩
  clear hr1 hg1
  by_cases e0 : v = 0
  · subst e0
    go_wp2
    go_ret
    exact ⟨_, rfl, by simp only [ByteArray.size_append, size_one]; omega, D1.out⟩
  · by_cases e1 : v = 1
    · subst e1
      go_wp2
      go_ret
      exact ⟨_, rfl, by simp only [ByteArray.size_append, ByteArray.size_extract, size_one]; omega, D1.out⟩
    · by_cases e2 : v = 2
      · subst e2
        go_wp2
        go_ret
        exact ⟨_, rfl, Nat.zero_le _, D1.out⟩
      · have q0 : (v == 0) = false := by simpa using e0
        have q1 : (v == 1) = false := by simpa using e1
        have q2 : (v == 2) = false := by simpa using e2
        go_wp2
        go_ret
        exact ⟨c, rfl, by omega, D1.out⟩

end

section
open Go.RowKit

theorem Rdr.lt {w : World} {B g p : Nat} (h : Rdr w B g p) : g < w.heap.size := by
  obtain ⟨-, A, n, cap, bs, hh, -⟩ := h; exact (Array.getElem?_eq_some_iff.1 hh).1
/-- A reader that stands at k, or before. -/
def rdP (w0 : World) (g k : Nat) : Piece :=
  ⟨[g], fun w => ∃ (p : Nat) (A : Option Addr) (n cap : Nat) (bs : List UInt8), p ≤ k ∧ w.heap[g]? = some (.cells #[.slice A n cap, .int .i64 (p : Int)] 48 (0, 0)) ∧ n = bs.length ∧ n ≤ 2000 ∧ Rd w0 1 byEnc A bs,
    fun w w' _ hk ⟨p, A, n, cap, bs, h1, h2, h⟩ => ⟨p, A, n, cap, bs, h1, (hk g (by simp)).trans h2, h⟩⟩
section
variable {w0 w w' : World} {ps : List Piece} {g k : Nat}
theorem Pool.rdr (h : Pool w0 w ps) (i : Nat) (hi : ps[i]? = some (rdP w0 g k)) : ∃ p, p ≤ k ∧ Rdr w w0.heap.size g p := by
  obtain ⟨p, A, n, cap, bs, h1, h2, h3, h4, h5⟩ := h.get i hi
  have hm := (h.all _ (List.mem_of_getElem? hi)).2 g (by simp [rdP])
  exact ⟨p, h1, hm.1, A, n, cap, bs, h2, h3, h4, h5.below h.below, fun ad e h0 => h5.lt (by omega) ad e⟩
theorem rd_back {α : Type} {size : Nat} {enc : α → List Value} {A : Option Addr} {l : List α} (hb : Below w0.heap.size w0 w) (h : Rd w size enc A l) (ha : ∀ ad, A = some ad → 0 < l.length → ad.block < w0.heap.size) : Rd w0 size enc A l := fun hl => by
  obtain ⟨ad, rfl, _, hc⟩ := h hl
  have h0 := ha ad rfl hl
  exact ⟨ad, rfl, h0, fun i x hx j u hu => (hb.cell (by rw [block_add]; exact h0)).symm.trans (hc i x hx j u hu)⟩
theorem Pool.rdTo (h : Pool w0 w ps) (i : Nat) (hi : ps[i]? = some (rdP w0 g k)) {p j k' : Nat} (hd : Drew w w0.heap.size g p j w') (hp : p + j ≤ k') : Pool w0 w' (ps.set i (rdP w0 g k')) := by
  obtain ⟨⟨p', hp', hr⟩, hg⟩ := hd
  have hm := (h.all _ (List.mem_of_getElem? hi)).2 g (by simp [rdP])
  have hb : Below w0.heap.size w0 w' := h.below.trans ⟨hg.os, hg.tape, hg.output, hg.size, fun k hk => hg.block k (by have := h.below.size; omega) (by intro e; injection e with e; omega)⟩
  refine h.turn i hi (fun k hk => ?_) ?_ hg.os hg.tape hg.output hg.size (fun k hlt hm' => hg.block k hlt (fun e => hm' ?_))
  · have hk : k ∈ [g] := hk
    have := List.mem_singleton.1 hk
    subst this
    exact ⟨.inl (List.mem_singleton.2 rfl), hr.lt⟩
  · obtain ⟨ho, A, n, cap, bs, hh, hn, h2, hrd, ha⟩ := hr
    exact ⟨p', A, n, cap, bs, by omega, hh, hn, h2, rd_back hb hrd (fun ad e h0 => ha ad e (by omega))⟩
  · injection e with e
    subst e; exact List.mem_singleton.2 rfl
/-- The bound may be raised. -/
theorem Pool.rdUp (h : Pool w0 w (rdP w0 g k :: ps)) {k' : Nat} (hk : k ≤ k') : Pool w0 w (rdP w0 g k' :: ps) := by
  obtain ⟨p, hp, hr⟩ := h.rdr 0 rfl
  exact h.rdTo 0 rfl (Drew.zero hr) (by omega)

theorem pickP (H : Pool w0 w (rdP w0 g k :: ps)) (m : Int) (hk : k ≤ 900000) :
    Calls Try.prog 23 #[.pointer (some ⟨g, 0, none⟩), .int .i64 m] w fun e w' => ∃ v : Int, e = .returned (.int .i64 v) ∧ 0 ≤ v ∧ (v < m ∨ v = 0) ∧ Hid (Pool w0 w' (rdP w0 g (k + 1) :: ps)) := by
  obtain ⟨p, hp, hr⟩ := H.rdr 0 rfl
  exact (pickC _ g p m w hr (by omega)).mono fun e w' ⟨v, he, h0, h1, hr1, hg⟩ => ⟨v, he, h0, h1, H.rdTo 0 rfl (j := 1) ⟨⟨p + 1, Nat.le_refl _, hr1⟩, hg⟩ (by omega)⟩

theorem numP (l : List Int) (n cap : Nat) (t : TypeId) (g1 : Nat) (H : Pool w0 w (rdP w0 g k :: ps)) (hg1 : g1 = w.heap.size) (hn : n = l.length) (h0 : 0 < n) (hl : n ≤ 1000) (hk : k ≤ 900000) :
    Calls Try.prog 33 #[.pointer (some ⟨g, 0, none⟩), .slice (some ⟨g1, 0, none⟩) n cap] (w.alloc (.cells (l.map (Value.int .i64)).toArray t)) fun e w' => ∃ x, e = .returned (.int .i64 x) ∧ x ∈ l ∧ Hid (Pool w0 w' (rdP w0 g (k + 1) :: ps)) := by
  have H2 := H.alloc (.cells (l.map (Value.int .i64)).toArray t)
  obtain ⟨p, hp, hr⟩ := H2.rdr 0 rfl
  have hgw : g < w.heap.size := ((H.all (rdP w0 g k) (by simp)).2 g (by simp [rdP])).2
  exact (numC _ g p _ l n cap hn h0 _ hr (by omega) (by omega) (rd_ints l w t hg1) (fun ad e => by injection e with e; subst e; show g1 ≠ g; omega)).mono fun e w' ⟨x, he, hx, hd⟩ => ⟨x, he, hx, H2.rdTo 0 rfl hd (by omega)⟩

end

set_option maxHeartbeats 2000000 in
set_option maxRecDepth 100000 in
theorem someCodeC (B g p : Nat) (w : World) (h : Rdr w B g p) (hp : p ≤ 900000) :
    Calls Try.prog 34 #[.pointer (some ⟨g, 0, none⟩)] w fun e w' => ∃ s : Str, e = .returned (.string s) ∧ s.size = 7 ∧ Drew w B g p 8 w' := by
  have hgw := h.lt
  have H := Lib.hid h
  clear h
  have hbA := fun o => (Below.refl w.heap.size w).alloc (Nat.le_refl _) o
  go_enter Try.func34, Try.ntmps34
  go_wp2_with fail
  refine (numC B g p _ [120, 121, 7, 999] 4 _ rfl (by decide) _ (H.out.below (hbA _)) (by omega) (by decide) (rd_ints [120, 121, 7, 999] w _ rfl) (fun ad e => by injection e with e; subst e; show w.heap.size ≠ g; omega)).mono ?_
  rintro e w1 ⟨x, rfl, hx, hd⟩
  have hz1 : w.heap.size ≤ w1.heap.size := by have := hd.gr.size; simp at this; omega
  have D1 : Hid (Drew w B g p 1 w1) := ((Drew.zero H.out).below (hbA _)).step hd (by omega)
  obtain ⟨p1, hp1, hr1⟩ := D1.out.rd
  have hx' : 0 ≤ x ∧ x ≤ 999 := by simp at hx; omega
  have hbB := fun o => (Below.refl w1.heap.size w1).alloc (Nat.le_refl _) o
  have R1 := Lib.hid hr1
  clear hd hx hr1 hbA
  go_wp2_with fail
  refine (numC B g p1 _ [1, 2, 10, 99] 4 _ rfl (by decide) _ (R1.out.below (hbB _)) (by omega) (by decide) (rd_ints [1, 2, 10, 99] w1 _ rfl) (fun ad e => by injection e with e; subst e; show w1.heap.size ≠ g; omega)).mono ?_
  rintro e w2 ⟨y, rfl, hy, hd⟩
  have D2 : Hid (Drew w B g p 2 w2) := (D1.out.below (hbB _)).step hd (by omega)
  have hy' : 0 ≤ y ∧ y ≤ 99 := by simp at hy; omega
  clear hd hy hbB
  go_wp2_with fail
  refine (showC x 3 _ hx'.1 (by omega) (by omega)).mono ?_
  rintro e w3 ⟨s1, rfl, hs1, hb⟩
  have D3 := Lib.hid (D2.out.below hb)
  clear hb
  go_wp2_with fail
  refine (showC y 2 _ hy'.1 (by omega) (by omega)).mono ?_
  rintro e w4 ⟨s2, rfl, hs2, hb⟩
  have D4 := Lib.hid (D3.out.below hb)
  obtain ⟨p4, hp4, hr4⟩ := D4.out.rd
  clear hb
  go_wp2_with fail
  refine (pickC B g p4 _ _ hr4 (by omega)).mono ?_
  rintro e w5 ⟨v, rfl, hv0, hv1, hr5, hg5⟩
  have D5 : Hid (Drew w B g p 3 w5) := D4.out.step (k1 := 1) ⟨⟨p4 + 1, Nat.le_refl _, hr5⟩, hg5⟩ (by omega)
  clear hr4 hr5 hg5
  go_wp2_with fail
  refine (showC v 2 _ hv0 (by omega) (by omega)).mono ?_
  rintro e w6 ⟨s3, rfl, hs3, hb⟩
  have D6 := Lib.hid (D5.out.below hb)
  obtain ⟨p6, hp6, hr6⟩ := D6.out.rd
  have h12 : (s1 ++ s2).size = 5 := by rw [ByteArray.size_append]; omega
  have h123 : (s1 ++ s2 ++ s3).size = 7 := by rw [ByteArray.size_append]; omega
  clear hb
  go_wp2_with fail
  refine (pickC B g p6 _ _ hr6 (by omega)).mono ?_
  rintro e w7 ⟨u, rfl, hu0, hu1, hr7, hg7⟩
  have D7 : Hid (Drew w B g p 4 w7) := D6.out.step (k1 := 1) ⟨⟨p6 + 1, Nat.le_refl _, hr7⟩, hg7⟩ (by omega)
  have R7 := Lib.hid hr7
  clear hr6 hr7 hg7
  by_cases h0 : u = 0
  · subst h0
    go_wp2_with fail
    refine (pickC B g (p6 + 1) _ _ R7.out (by omega)).mono ?_
    rintro e w8 ⟨a, rfl, ha0, ha1, hr8, hg8⟩
    have D8 : Hid (Drew w B g p 5 w8) := D7.out.step (k1 := 1) ⟨⟨p6 + 1 + 1, Nat.le_refl _, hr8⟩, hg8⟩ (by omega)
    go_wp2_with fail
    refine (pickC B g (p6 + 1 + 1) _ _ hr8 (by omega)).mono ?_
    rintro e w9 ⟨b, rfl, hb0, hb1, hr9, hg9⟩
    have D9 : Hid (Drew w B g p 6 w9) := D8.out.step (k1 := 1) ⟨⟨p6 + 1 + 1 + 1, Nat.le_refl _, hr9⟩, hg9⟩ (by omega)
    have hab : 0 ≤ a * b ∧ a * b ≤ 255 * 255 := ⟨Int.mul_nonneg ha0 hb0, Int.mul_le_mul (a := a) (b := b) (c := 255) (d := 255) (by omega) (by omega) hb0 (by decide)⟩
    obtain ⟨ab, hab'⟩ : ∃ z, a * b = z := ⟨_, rfl⟩
    rw [hab'] at hab
    clear hr8 hg8 hg9
    go_wp2_with fail
    refine (pickC B g (p6 + 1 + 1 + 1) _ _ hr9 (by omega)).mono ?_
    rintro e w10 ⟨c, rfl, hc0, hc1, hr10, hg10⟩
    have D10 : Hid (Drew w B g p 7 w10) := D9.out.step (k1 := 1) ⟨⟨p6 + 1 + 1 + 1 + 1, Nat.le_refl _, hr10⟩, hg10⟩ (by omega)
    have habc : 0 ≤ ab * c ∧ ab * c ≤ 255 * 255 * 149 := ⟨Int.mul_nonneg hab.1 hc0, Int.mul_le_mul (a := ab) (b := c) (c := 255 * 255) (d := 149) hab.2 (by omega) hc0 (by decide)⟩
    obtain ⟨abc, habc'⟩ : ∃ z, ab * c = z := ⟨_, rfl⟩
    rw [habc'] at habc
    clear hr9 hg10
    go_wp2_with fail
    refine (pickC B g (p6 + 1 + 1 + 1 + 1) _ _ hr10 (by omega)).mono ?_
    rintro e w11 ⟨d, rfl, hd0, hd1, hr11, hg11⟩
    have D11 : Hid (Drew w B g p 8 w11) := D10.out.step (k1 := 1) ⟨⟨p6 + 1 + 1 + 1 + 1 + 1, Nat.le_refl _, hr11⟩, hg11⟩ (by omega)
    clear hr10 hr11 hg11
    go_wp2_with fail
    refine (showC (abc + d) 7 _ (by omega) (by omega) (by omega)).mono ?_
    rintro e w12 ⟨s, rfl, hs, hb⟩
    have D12 := Lib.hid (D11.out.below hb)
    clear hb
    go_wp2
    go_ret
    exact ⟨s, rfl, hs, D12.out⟩
  · have hq : (u == 0) = false := by simpa using h0
    have D8 : Hid (Drew w B g p 8 w7) := by obtain ⟨⟨q, hq, hr⟩, hg⟩ := D7.out; exact ⟨⟨q, by omega, hr⟩, hg⟩
    go_wp2
    go_ret
    exact ⟨_, rfl, h123, D8.out⟩

theorem someCodeP {w0 w : World} {ps : List Piece} {g k : Nat} (H : Pool w0 w (rdP w0 g k :: ps)) (hk : k ≤ 900000) :
    Calls Try.prog 34 #[.pointer (some ⟨g, 0, none⟩)] w fun e w' => ∃ s : Str, e = .returned (.string s) ∧ s.size = 7 ∧ Hid (Pool w0 w' (rdP w0 g (k + 8) :: ps)) := by
  obtain ⟨p, hp, hr⟩ := H.rdr 0 rfl
  exact (someCodeC _ g p w hr (by omega)).mono fun e w' ⟨s, he, hs, hd⟩ => ⟨s, he, hs, H.rdTo 0 rfl hd (by omega)⟩

theorem badP {w0 w : World} {ps : List Piece} {g k : Nat} (c : Str) (H : Pool w0 w (rdP w0 g k :: ps)) (hk : k ≤ 900000) (h1 : 1 ≤ c.size) (h2 : c.size ≤ 1000) :
    Calls Try.prog 32 #[.pointer (some ⟨g, 0, none⟩), .string c] w fun e w' => ∃ s : Str, e = .returned (.string s) ∧ s.size ≤ 1001 ∧ Hid (Pool w0 w' (rdP w0 g (k + 1) :: ps)) := by
  obtain ⟨p, hp, hr⟩ := H.rdr 0 rfl
  exact (badC _ g p c w hr (by omega) h1 h2).mono fun e w' ⟨s, he, hs, hd⟩ => ⟨s, he, hs, H.rdTo 0 rfl hd (by omega)⟩

/-- The reader is opened: the first thing of a pool. -/
theorem openP (A : Option Addr) (bs : List UInt8) (n cap : Nat) (hn : n = bs.length) (hc : n ≤ cap) (w : World) (hlen : n ≤ 1048576) (hr : Rd w 1 byEnc A bs) :
    Calls Try.prog 13 #[.slice A n cap] w fun e w' => ∃ g, e = .returned (.pointer (some ⟨g, 0, none⟩)) ∧ Hid (Pool w w' [rdP w g 0]) := by
  refine (openC A bs n cap hn hc w hlen hr).mono ?_
  rintro e w' ⟨rfl, hrd, hb⟩
  refine ⟨_, rfl, ?_⟩
  refine (Pool.nil_ w).add hb (rdP w w.heap.size 0) ?_ (fun k hk => ?_)
  · obtain ⟨ho, A', n', cap', bs', hh, hn', h2, hrd', ha'⟩ := hrd
    exact ⟨0, A', n', cap', bs', Nat.le_refl _, hh, hn', h2, rd_back hb hrd' (fun ad e h0 => ha' ad e (by omega))⟩
  · have hk : k ∈ [w.heap.size] := hk
    have := List.mem_singleton.1 hk
    subst this
    exact ⟨Nat.le_refl _, hrd.lt⟩

end

section
open Go.RowKit

theorem Pool.swap {w0 w : World} {a b : Piece} {ps : List Piece} (h : Pool w0 w (a :: b :: ps)) : Pool w0 w (b :: a :: ps) := h.perm (List.Perm.swap _ _ _)
theorem strEnc_cells {w : World} {t : TypeId} (x : Str) {g : Nat} (hg : g = w.heap.size) : ∀ (j : Nat) (u : Value), (strEnc x)[j]? = some u → (w.alloc (.cells #[.string x] t)).cell? (Addr.add ⟨g, 0, none⟩ j) = some u := by
  subst hg
  intro j u hu
  have hj : j < 1 := (List.getElem?_eq_some_iff.1 hu).1
  obtain rfl : j = 0 := by omega
  simp [strEnc] at hu
  subst hu
  rw [show (Addr.add ⟨w.heap.size, 0, none⟩ 0) = (⟨w.heap.size, 0, none⟩ : Addr) from rfl, World.cell?_alloc_at _ _ _ _ rfl]
  rfl

theorem firstFrom_le (f : Int → Bool) : ∀ (n : Nat) (i : Int), firstFrom f i n = -1 ∨ (i ≤ firstFrom f i n ∧ firstFrom f i n < i + n)
  | 0, i => .inl rfl
  | n + 1, i => by
    unfold firstFrom
    split
    · right; omega
    · rcases firstFrom_le f n (i + 1) with h | h
      · exact .inl h
      · right; omega
theorem lpOf_le (c b : Int) : lpOf c b = -1 ∨ (1 ≤ lpOf c b ∧ lpOf c b ≤ 4) := by
  unfold lpOf
  split
  · rcases firstFrom_le (fun p => decide (c ≤ pw b p.toNat)) 4 1 with h | h
    · exact .inl h
    · right; omega
  · exact .inl rfl

end

section
open Go.RowKit

/-- A slice's beginning. -/
theorem Own.cut {α : Type} {w : World} {base : Nat} {e : TypeId} {size : Nat} {enc : α → List Value} {A : Option Addr} {n c k : Nat} {l : List α} (hs : ∀ x, (enc x).length = size) (h : Own w base e size enc (.slice A n c) l) (hk : k ≤ n) : Own w base e size enc (.slice A k c) (l.take k) := by
  have hn := h.len
  have hkl : (l.take k).length = k := by rw [List.length_take]; omega
  have hfl : ∀ (l : List α), (l.flatMap enc).length = l.length * size := by
    intro l
    induction l with
    | nil => simp
    | cons x l ih => rw [List.flatMap_cons, List.length_append, ih, hs, List.length_cons, Nat.add_mul]; omega
  refine ⟨hfl _, ?_⟩
  rcases h.2 with ⟨hv, h0⟩ | ⟨g, cap, cur, hv, hb, hh, hnc, hcm, hsz, htk⟩
  · injection hv with e1 e2 e3
    subst e1 e2 e3
    obtain rfl : k = 0 := by omega
    exact .inl ⟨rfl, by simp⟩
  · injection hv with e1 e2 e3
    subst e1 e3
    refine .inr ⟨g, c, cur, by rw [hkl], hb, hh, by omega, hcm, hsz, ?_⟩
    rw [hkl]
    have e4 : (l.take k).flatMap enc = (l.flatMap enc).take (k * size) := by
      have e5 : l.flatMap enc = (l.take k).flatMap enc ++ (l.drop k).flatMap enc := by rw [← List.flatMap_append, List.take_append_drop]
      rw [e5]
      exact (List.take_left' (by rw [hfl, hkl])).symm
    rw [e4, ← htk, List.take_take, Nat.min_eq_left (Nat.mul_le_mul_right _ (by omega))]
theorem Pool.cutOwn {w0 w : World} {ps : List Piece} (h : Pool w0 w ps) (i : Nat) {α : Type} {e : TypeId} {size : Nat} {enc : α → List Value} {A : Option Addr} {n c k : Nat} {l : List α} (hs : ∀ x, (enc x).length = size) (hi : ps[i]? = some (ownP e size enc (.slice A n c) l)) (hk : k ≤ n) : Pool w0 w (ps.set i (ownP e size enc (.slice A k c) (l.take k))) :=
  have e : (Value.slice A k c).ownBlock = (Value.slice A n c).ownBlock := by cases A <;> rfl
  h.turn i hi (fun j hj => ⟨.inl (mem_own.2 (e ▸ mem_own.1 hj)), ((h.own i hi).lt j (e ▸ mem_own.1 hj)).2⟩) ((h.own i hi).cut hs hk) rfl rfl rfl (Nat.le_refl _) (fun _ _ _ => rfl)
theorem Pool.setBox0 {w0 w : World} {ps : List Piece} (h : Pool w0 w ps) (i : Nat) {g : Nat} {a b c : Value} (hi : ps[i]? = some (boxP g a b c)) (j : Nat) (hj : j < 3) (x : Value) : Pool w0 (w.setCell ⟨g, j, none⟩ x) (ps.set i (boxP g (if j = 0 then x else a) (if j = 1 then x else b) (if j = 2 then x else c))) := by
  have hg : w.grownBy (w.setCell ⟨g, j, none⟩ x) (some g) := grown_setCell (p := ⟨g, j, none⟩) (World.grownBy.refl w (some g)) (.inl rfl) x
  have hb := h.box i hi
  have hb' : Box (w.setCell ⟨g, j, none⟩ x) g (if j = 0 then x else a) (if j = 1 then x else b) (if j = 2 then x else c) := by
    match j, hj with
    | 0, _ => exact ⟨by simpa using hb.lt, World.cell?_setCell_same _ _ _ hb.c0, by rw [World.cell?_setCell_other _ _ _ _ (by simp)]; exact hb.c1, by rw [World.cell?_setCell_other _ _ _ _ (by simp)]; exact hb.c2, fun j => by rw [World.frozen?_setCell]; exact hb.fz j⟩
    | 1, _ => exact ⟨by simpa using hb.lt, by rw [World.cell?_setCell_other _ _ _ _ (by simp)]; exact hb.c0, World.cell?_setCell_same _ _ _ hb.c1, by rw [World.cell?_setCell_other _ _ _ _ (by simp)]; exact hb.c2, fun j => by rw [World.frozen?_setCell]; exact hb.fz j⟩
    | 2, _ => exact ⟨by simpa using hb.lt, by rw [World.cell?_setCell_other _ _ _ _ (by simp)]; exact hb.c0, by rw [World.cell?_setCell_other _ _ _ _ (by simp)]; exact hb.c1, World.cell?_setCell_same _ _ _ hb.c2, fun j => by rw [World.frozen?_setCell]; exact hb.fz j⟩
  refine h.turn i hi (fun k hk => ⟨.inl hk, ?_⟩) hb' hg.os hg.tape hg.output hg.size fun k hlt hm => hg.block k hlt (fun e => hm ?_)
  · have hk : k ∈ [g] := hk
    have := List.mem_singleton.1 hk
    subst this; exact hb'.lt
  · injection e with e
    subst e; exact List.mem_singleton.2 rfl

end

section
open Go.RowKit

/-- A list of codes that was drawn: what it reads, its bounds. -/
structure PlDr (w : World) (A : Option Addr) (n c : Nat) (l : List Str) : Prop where
  len : n = l.length
  cap : n ≤ c
  few : n ≤ 13
  small : ∀ x ∈ l, x.size ≤ 1048576
  rd : Rd w 1 strEnc A l
  nil : A = none → c = 0
theorem PlDr.of_own {w : World} {base : Nat} {A : Option Addr} {n c : Nat} {l : List Str} (h : Own w base 9 1 strEnc (.slice A n c) l) (hn : n ≤ 13) (hs : ∀ x ∈ l, x.size ≤ 1001) : PlDr w A n c l := by
  refine ⟨h.len, h.cap_le, hn, fun x hx => by have := hs x hx; omega, h.rd strEnc_len, fun e => ?_⟩
  subst e
  rcases h.2 with ⟨hv, _⟩ | ⟨g, cap, cur, hv, _⟩
  · injection hv
  · injection hv with e1 e2 e3
    cases e1
theorem PlDr.below {w w' : World} {A : Option Addr} {n c : Nat} {l : List Str} (h : PlDr w A n c l) (hb : Below w.heap.size w w') : PlDr w' A n c l := ⟨h.len, h.cap, h.few, h.small, h.rd.below hb, h.nil⟩

set_option maxHeartbeats 1000000 in
set_option maxRecDepth 100000 in
/-- The reader is opened, beside other things. -/
theorem openQ (A : Option Addr) (bs : List UInt8) (n cap : Nat) (hn : n = bs.length) (hc : n ≤ cap) (w : World) (hlen : n ≤ 1048576) {w0 : World} {ps : List Piece} (hr : Rd w0 1 byEnc A bs) (H : Pool w0 w ps) :
    Calls Try.prog 13 #[.slice A n cap] w fun e w' => ∃ g, e = .returned (.pointer (some ⟨g, 0, none⟩)) ∧ Hid (Pool w0 w' (rdP w0 g 0 :: ps)) := by
  have hadd : ∀ (m : Nat) (bs' : List UInt8), m = bs'.length → m ≤ 2000 → Rd w0 1 byEnc A bs' → Pool w0 (w.alloc (.cells #[.slice A m cap, .int .i64 0] 48)) (rdP w0 w.heap.size 0 :: ps) := fun m bs' h1 h2 h3 =>
    H.add ((Below.refl _ _).alloc (Nat.le_refl _) _) (rdP w0 w.heap.size 0) ⟨0, A, m, cap, bs', Nat.le_refl _, by show (w.heap.push _)[w.heap.size]? = _; simp, h1, h2, h3⟩ (fun k hk => by
      have hk : k ∈ [w.heap.size] := hk
      have := List.mem_singleton.1 hk
      subst this
      exact ⟨Nat.le_refl _, by simp⟩)
  by_cases h2 : n ≤ 2000
  · have HR := Lib.hid (hadd n bs hn h2 hr)
    have Hn := Lib.hid hn
    clear hn hr hadd
    go_enter Try.func13, Try.ntmps13
    go_wp2
    go_ret
    exact ⟨_, rfl, HR.out⟩
  · have HR := Lib.hid (hadd 2000 (bs.take 2000) (by rw [List.length_take]; omega) (Nat.le_refl _) (hr.take 2000))
    have Hn := Lib.hid hn
    clear hn hr hadd
    go_enter Try.func13, Try.ntmps13
    go_wp2
    go_ret
    exact ⟨_, rfl, HR.out⟩

/-- A drawn plan, its order in memory of its own. -/
def PlanOut (w w' : World) (A : Option Addr) (n c : Nat) (l : List Str) : Prop := n ≤ 13 ∧ (∀ x ∈ l, x.size ≤ 1001) ∧ Pool w w' [ownP 9 1 strEnc (.slice A n c) l]
theorem PlanOut.dr {w w' : World} {A : Option Addr} {n c : Nat} {l : List Str} (h : PlanOut w w' A n c l) : PlDr w' A n c l := PlDr.of_own (h.2.2.own 0 rfl) h.1 h.2.1
theorem PlanOut.below {w w' : World} {A : Option Addr} {n c : Nat} {l : List Str} (h : PlanOut w w' A n c l) : Below w.heap.size w w' := h.2.2.below

end
end Go.Proofs.Ytjibjoapbjojlaa
