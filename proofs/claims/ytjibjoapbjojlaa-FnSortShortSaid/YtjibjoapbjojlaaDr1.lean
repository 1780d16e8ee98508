/-
  The reader that the reference draws from: what it returns is in range, whatever the bytes.
  What the reference draws for capacities: numbers in range.
-/
import Derived.Test.YtjibjoapbjojlaaCap
import Derived.BigQuiet
import Derived.Laws.BitsLemmas
namespace Go.Proofs.Ytjibjoapbjojlaa

section
open Go.RowKit

theorem cells_at {w : World} {g : Nat} {cs : Array Value} {t : TypeId} (h : w.heap[g]? = some (.cells cs t (0, 0))) (j : Nat) : w.cell? ⟨g, j, none⟩ = cs[j]? ∧ w.frozen? ⟨g, j, none⟩ = false := by
  constructor <;> simp [World.cell?, World.frozen?, h]
def byEnc (b : UInt8) : List Value := [.int .u8 (b.toNat : Int)]
theorem byEnc_len (b : UInt8) : (byEnc b).length = 1 := rfl

/-- A reader: its block, its bytes (older than B), where it stands. -/
structure Rdr (w : World) (B g : Nat) (p : Nat) : Prop where
  old : B ≤ g
  ex : ∃ (A : Option Addr) (n cap : Nat) (bs : List UInt8), w.heap[g]? = some (.cells #[.slice A n cap, .int .i64 (p : Int)] 48 (0, 0)) ∧ n = bs.length ∧ n ≤ 2000 ∧ Rd w 1 byEnc A bs ∧ ∀ ad, A = some ad → 0 < n → ad.block < B

theorem heap_below {w w' : World} {g : Nat} {o : Obj} (h : w.heap[g]? = some o) (hb : Below w.heap.size w w') : w'.heap[g]? = some o :=
  (hb.block g (Array.getElem?_eq_some_iff.1 h).1).trans h
theorem Rdr.below {w w' : World} {B g p : Nat} (h : Rdr w B g p) (hb : Below w.heap.size w w') : Rdr w' B g p := by
  obtain ⟨ho, A, n, cap, bs, hh, hn, h2, hr, ha⟩ := h
  exact ⟨ho, A, n, cap, bs, heap_below hh hb, hn, h2, hr.below hb, ha⟩
theorem Rdr.drewN {w : World} {B g p : Nat} (h : Rdr w B g p) (n : Nat) : Rdr (w.drewN n) B g p := ⟨h.old, h.ex⟩
theorem grown_drewN {w w' : World} {row : Option Nat} (h : w.grownBy w' row) (n : Nat) : w.grownBy (w'.drewN n) row := ⟨h.os, h.tape, h.output, h.size, h.block⟩
theorem set_heap {w : World} {g : Nat} {a b v : Value} {t : TypeId} (h : w.heap[g]? = some (.cells #[a, b] t (0, 0))) : (w.setCell ⟨g, 1, none⟩ v).heap[g]? = some (.cells #[a, v] t (0, 0)) := by
  simp [World.setCell, Array.getElem?_modify, h]

theorem xor_i64_nat (a b : Nat) (ha : a < 4611686018427387904) (hb : b < 4611686018427387904) : bits .xor .i64 (a : Int) (b : Int) = ((a ^^^ b : Nat) : Int) := by
  have hx : a ^^^ b < 2 ^ 62 := Nat.xor_lt_two_pow (by omega) (by omega)
  have h1 : (BitVec.ofInt 64 (a : Int)).toNat = a := by
    rw [BitVec.ofInt_natCast, BitVec.toNat_ofNat]; exact Nat.mod_eq_of_lt (by omega)
  have h2 : (BitVec.ofInt 64 (b : Int)).toNat = b := by
    rw [BitVec.ofInt_natCast, BitVec.toNat_ofNat]; exact Nat.mod_eq_of_lt (by omega)
  show IntKind.i64.wrap ((BitVec.ofInt 64 (a : Int) ^^^ BitVec.ofInt 64 (b : Int)).toNat : Int) = _
  rw [BitVec.toNat_xor, h1, h2, IntKind.wrap_i64]
  omega
theorem xor_nonneg {X : Int} (h0 : 0 ≤ X) (h1 : X < 4611686018427387904) : 0 ≤ bits .xor .i64 X (X / 64) := by
  obtain ⟨a, rfl⟩ := Int.eq_ofNat_of_zero_le h0
  rw [show ((a : Int) / 64) = ((a / 64 : Nat) : Int) from rfl, xor_i64_nat a (a / 64) (by omega) (by omega)]
  omega

set_option maxHeartbeats 2000000 in
set_option maxRecDepth 100000 in
theorem pickC (B g p : Nat) (m : Int) (w : World) (h : Rdr w B g p) (hp : p ≤ 1000000) :
    Calls Try.prog 23 #[.pointer (some ⟨g, 0, none⟩), .int .i64 m] w fun e w' => ∃ v : Int, e = .returned (.int .i64 v) ∧ 0 ≤ v ∧ (v < m ∨ v = 0) ∧ Rdr w' B g (p + 1) ∧ w.grownBy w' (some g) := by
  obtain ⟨ho, A, n, cap, bs, hh, hn, h2, hr, ha⟩ := h
  have hc0 := cells_at hh 0
  have hc1 := cells_at hh 1
  obtain ⟨c0, f0⟩ := hc0
  obtain ⟨c1, f1⟩ := hc1
  simp only [List.getElem?_toArray, List.getElem?_cons_zero, List.getElem?_cons_succ] at c0 c1
  have Hh := Lib.hid hh
  have Hn := Lib.hid hn
  have hg' : w.grownBy (w.setCell ⟨g, 1, none⟩ (.int .i64 ((p : Int) + 1))) (some g) := grown_setCell (World.grownBy.refl _ _) (.inl rfl) _
  have HG := Lib.hid hg'
  have HR : Hid (Rdr (w.setCell ⟨g, 1, none⟩ (.int .i64 ((p : Int) + 1))) B g (p + 1)) := ⟨ho, A, n, cap, bs, set_heap hh, hn, h2, (if h0 : 0 < n then hr.grown hg' (fun ad e => by have := ha ad e h0; simp; omega) else fun hl => absurd hl (by omega)), ha⟩
  have Hr := Lib.hid hr
  clear hh hr hg' hn
  by_cases hm : m < 1
  · go_enter Try.func23, Try.ntmps23
    go_wp2
    go_ret
    exact ⟨0, rfl, Int.le_refl _, .inr rfl, HR.out, HG.out⟩
  · by_cases h0 : n = 0
    · go_enter Try.func23, Try.ntmps23
      go_wp2
      go_ret
      exact ⟨0, rfl, Int.le_refl _, .inr rfl, HR.out, HG.out⟩
    · by_cases hlt : p < n
      · obtain ⟨x, hx⟩ : ∃ x, bs[p]? = some x := ⟨_, List.getElem?_eq_getElem (by have := Hn.out; omega)⟩
        obtain ⟨ad, rfl, hab, d0⟩ := Hr.out.one hx rfl
        have d1 : (w.setCell ⟨g, 1, none⟩ (.int .i64 ((p : Int) + 1))).cell? (ad.add p) = some (.int .u8 (x.toNat : Int)) := by
          rw [World.cell?_setCell_other _ _ _ _ (by intro e; have := ha ad rfl (by omega); have e' := congrArg Addr.block e; rw [block_add] at e'; simp at e'; omega)]; exact d0
        have hx1 := x.toNat_lt
        go_enter Try.func23, Try.ntmps23
        go_wp2
        go_ret
        exact ⟨_, rfl, Int.emod_nonneg _ (by omega), .inl (Int.emod_lt_of_pos _ (by omega)), HR.out, HG.out⟩
      · have hnp : 0 < n := by omega
        have hm1 : p % n < n := Nat.mod_lt _ hnp
        have hm2 : (p * 7 + 3) % n < n := Nat.mod_lt _ hnp
        obtain ⟨x, hx⟩ : ∃ x, bs[p % n]? = some x := ⟨_, List.getElem?_eq_getElem (by have := Hn.out; omega)⟩
        obtain ⟨y, hy⟩ : ∃ y, bs[(p * 7 + 3) % n]? = some y := ⟨_, List.getElem?_eq_getElem (by have := Hn.out; omega)⟩
        obtain ⟨ad, rfl, hab, d0⟩ := Hr.out.one hx rfl
        obtain ⟨ad', e', -, e0⟩ := Hr.out.one hy rfl
        injection e' with e'
        subst e'
        have hfar : ∀ i, (w.setCell ⟨g, 1, none⟩ (.int .i64 ((p : Int) + 1))).cell? (ad.add i) = w.cell? (ad.add i) := fun i =>
          World.cell?_setCell_other _ _ _ _ (by intro e; have := ha ad rfl (by omega); have e' := congrArg Addr.block e; rw [block_add] at e'; simp at e'; omega)
        have d1 := (hfar _).trans d0
        have e1 := (hfar _).trans e0
        have hx1 := x.toNat_lt
        have hy1 := y.toNat_lt
        clear hfar hx hy d0 e0
        obtain ⟨i1, hi1⟩ : ∃ i, p % n = i := ⟨_, rfl⟩
        obtain ⟨i2, hi2⟩ : ∃ i, (p * 7 + 3) % n = i := ⟨_, rfl⟩
        obtain ⟨q, hq⟩ : ∃ q, p / n = q := ⟨_, rfl⟩
        have hq1 : (p : Int) % (n : Int) = (i1 : Int) := by rw [← hi1]; rfl
        have hq2 : ((p : Int) * 7 + 3) % (n : Int) = (i2 : Int) := by rw [← hi2]; rfl
        have hq3 : (p : Int) / (n : Int) = (q : Int) := by rw [← hq]; rfl
        have hqb : q ≤ 1000000 := by rw [← hq]; exact Nat.le_trans (Nat.div_le_self _ _) hp
        rw [hi1] at hm1 d1
        rw [hi2] at hm2 e1
        clear hi1 hi2 hq
        have b1 : (i1 : Int) < (n : Int) := by omega
        have b2 : (i2 : Int) < (n : Int) := by omega
        have b3 : ¬ (n : Int) = 0 := by omega
        go_enter Try.func23, Try.ntmps23
        go_wp2
        go_quiet (fail)
        go_wp2
        go_ret
        have hX := xor_nonneg (X := (x.toNat : Int) * 131 + (y.toNat : Int) * 1117 + (p : Int) * 29 + (q : Int) * 53) (by omega) (by omega)
        exact ⟨_, rfl, Int.tmod_nonneg _ hX, .inl (Int.tmod_lt_of_pos _ (by omega)), HR.out.drewN _, grown_drewN HG.out _⟩

/-- A call that moved the reader alone, and made new blocks. -/
structure Drew (w : World) (B g : Nat) (p k : Nat) (w' : World) : Prop where
  rd : ∃ p', p' ≤ p + k ∧ Rdr w' B g p'
  gr : w.grownBy w' (some g)
theorem Drew.step {w w1 w2 : World} {B g p k : Nat} (h : Drew w B g p k w1) {p1 k1 k2 : Nat} (h2 : Drew w1 B g p1 k1 w2) (hp : p1 + k1 ≤ p + k2) : Drew w B g p k2 w2 := by
  obtain ⟨⟨q, hq, hr⟩, hg⟩ := h2
  exact ⟨⟨q, by omega, hr⟩, grown_trans h.gr hg⟩
theorem Drew.below {w w1 w2 : World} {B g p k : Nat} (h : Drew w B g p k w1) (hb : Below w1.heap.size w1 w2) : Drew w B g p k w2 := by
  obtain ⟨⟨q, hq, hr⟩, hg⟩ := h
  exact ⟨⟨q, hq, hr.below hb⟩, grown_of_below hg hb⟩
theorem Drew.zero {w : World} {B g p : Nat} (h : Rdr w B g p) : Drew w B g p 0 w := ⟨⟨p, Nat.le_refl _, h⟩, World.grownBy.refl _ _⟩
theorem grown_below_g {w w1 w2 : World} {g : Nat} (h : Below w.heap.size w w1) (hg : w1.grownBy w2 (some g)) (hn : w.heap.size ≤ g) : Below w.heap.size w w2 :=
  h.trans ⟨hg.os, hg.tape, hg.output, hg.size, fun k hk => hg.block k (by have := h.size; omega) (by intro e; injection e with e; omega)⟩

set_option maxHeartbeats 1000000 in
set_option maxRecDepth 100000 in
/-- The reader is opened. -/
theorem openC (A : Option Addr) (bs : List UInt8) (n cap : Nat) (hn : n = bs.length) (hc : n ≤ cap) (w : World) (hlen : n ≤ 1048576) (hr : Rd w 1 byEnc A bs) :
    Calls Try.prog 13 #[.slice A n cap] w fun e w' => e = .returned (.pointer (some ⟨w.heap.size, 0, none⟩)) ∧ Rdr w' w.heap.size w.heap.size 0 ∧ Below w.heap.size w w' := by
  have hb := fun o => (Below.refl w.heap.size w).alloc (Nat.le_refl _) o
  by_cases h2 : n ≤ 2000
  · have HR : Hid (Rdr (w.alloc (.cells #[.slice A n cap, .int .i64 0] 48)) w.heap.size w.heap.size 0) := ⟨Nat.le_refl _, A, n, cap, bs, by show (w.heap.push _)[w.heap.size]? = _; simp, hn, h2, hr.below (hb _), fun ad e h0 => hr.lt (by omega) ad e⟩
    have Hn := Lib.hid hn
    clear hn hr
    go_enter Try.func13, Try.ntmps13
    go_wp2
    go_ret
    exact ⟨rfl, HR.out, hb _⟩
  · have HR : Hid (Rdr (w.alloc (.cells #[.slice A 2000 cap, .int .i64 0] 48)) w.heap.size w.heap.size 0) := ⟨Nat.le_refl _, A, 2000, cap, bs.take 2000, by show (w.heap.push _)[w.heap.size]? = _; simp, by rw [List.length_take]; omega, Nat.le_refl _, (hr.take 2000).below (hb _), fun ad e h0 => hr.lt (by omega) ad e⟩
    have Hn := Lib.hid hn
    clear hn hr
    go_enter Try.func13, Try.ntmps13
    go_wp2
    go_ret
    exact ⟨rfl, HR.out, hb _⟩

def inEnc (n : Int) : List Value := [.int .i64 n]
theorem inEnc_len (n : Int) : (inEnc n).length = 1 := rfl
set_option maxHeartbeats 1000000 in
set_option maxRecDepth 100000 in
/-- num returns an element of a list that is not empty. -/
theorem numC (B g p : Nat) (A : Option Addr) (l : List Int) (n cap : Nat) (hn : n = l.length) (h0 : 0 < n) (w : World) (h : Rdr w B g p) (hp : p ≤ 1000000) (hl : n ≤ 1000000) (hr : Rd w 1 inEnc A l) (ha : ∀ ad, A = some ad → ad.block ≠ g) :
    Calls Try.prog 33 #[.pointer (some ⟨g, 0, none⟩), .slice A n cap] w fun e w' => ∃ x, e = .returned (.int .i64 x) ∧ x ∈ l ∧ Drew w B g p 1 w' := by
  have Hn := Lib.hid hn
  have Hr := Lib.hid hr
  have H := Lib.hid h
  clear hn hr h
  go_enter Try.func33, Try.ntmps33
  go_wp2_with fail
  refine (pickC B g p _ _ H.out hp).mono ?_
  rintro e w1 ⟨v, rfl, hv0, hv1, hr1, hg1⟩
  obtain ⟨i, rfl⟩ := Int.eq_ofNat_of_zero_le hv0
  have hi : i < n := by omega
  obtain ⟨x, hx⟩ : ∃ x, l[i]? = some x := ⟨_, List.getElem?_eq_getElem (by have := Hn.out; omega)⟩
  obtain ⟨ad, rfl, hab, c0⟩ := (Hr.out.grown hg1 (fun ad e => by have := ha ad e; simpa using this)).one hx rfl
  have Hd : Hid (Drew w B g p 1 w1) := ⟨⟨p + 1, Nat.le_refl _, hr1⟩, hg1⟩
  have Hx := Lib.hid (List.mem_of_getElem? hx)
  have hiI : (i : Int) < (n : Int) := by omega
  clear hr1 hg1 hv1 hx
  go_wp2
  go_ret
  exact ⟨x, rfl, Hx.out, Hd.out⟩

end

section
open Go.RowKit

theorem rd_ints (l : List Int) (w : World) (t : TypeId) {g : Nat} (hg : g = w.heap.size) : Rd (w.alloc (.cells (l.map (Value.int .i64)).toArray t)) 1 inEnc (some ⟨g, 0, none⟩) l := fun hl => by
  subst hg
  refine ⟨⟨w.heap.size, 0, none⟩, rfl, by simp, fun i x hx j u hu => ?_⟩
  have hj : j < 1 := by have := (List.getElem?_eq_some_iff.1 hu).1; rw [inEnc_len] at this; exact this
  obtain rfl : j = 0 := by omega
  simp [inEnc] at hu
  subst hu
  rw [show (Addr.add ⟨w.heap.size, 0, none⟩ (i * 1 + 0)) = (⟨w.heap.size, i, none⟩ : Addr) from by simp [Addr.add]; omega, World.cell?_alloc_at _ _ _ _ rfl]
  simp [hx]

/-- The numbers are in range. -/
def smallNums (x y : Int) : Prop := -1 ≤ x ∧ x ≤ 17 ∧ -1 ≤ y ∧ y ≤ 17

end
end Go.Proofs.Ytjibjoapbjojlaa
