/-
  The laws' own helpers on letters: copies, comparison, size.
-/
import Derived.Test.YtjibjoapbjojlaaDoorPlC
namespace Go.Proofs.YtjibjoapbjojlaaDoor
open Go.RowKit

/-- Equality of two letters, as a Bool that the walk does not open. -/
def ltEq (x y : Lt) : Bool := decide (x = y)
theorem lawEqLetter (x y : Lt) (w : World) :
    Calls Tryd.prog 40 #[.agg #[.int .i64 x.1, .string x.2], .agg #[.int .i64 y.1, .string y.2]] w fun e w' => e = .returned (.bool (ltEq x y)) ∧ Below w.heap.size w w' := by
  obtain ⟨s, t⟩ := x
  obtain ⟨s', t'⟩ := y
  by_cases h1 : s = s'
  · by_cases h2 : t = t'
    · have Hd : Hid (ltEq (s, t) (s', t') = true) := by show ltEq _ _ = _; simp [ltEq, h1, h2]
      have q1 : (s != s') = false := by simp [h1]
      have q2 := str_t h2
      clear h1 h2
      go_enter Tryd.func40, Tryd.ntmps40
      go_wp2
      go_ret
      exact ⟨ret_bool Hd.out.symm, ((Below.refl _ _).alloc (Nat.le_refl _) _).alloc (by simp) _⟩
    · have Hd : Hid (ltEq (s, t) (s', t') = false) := by show ltEq _ _ = _; simp [ltEq, h2]
      have q1 : (s != s') = false := by simp [h1]
      have q2 := str_f h2
      clear h1 h2
      go_enter Tryd.func40, Tryd.ntmps40
      go_wp2
      go_ret
      exact ⟨ret_bool Hd.out.symm, ((Below.refl _ _).alloc (Nat.le_refl _) _).alloc (by simp) _⟩
  · have Hd : Hid (ltEq (s, t) (s', t') = false) := by show ltEq _ _ = _; simp [ltEq, h1]
    have q1 : (s != s') = true := by simp [h1]
    clear h1
    go_enter Tryd.func40, Tryd.ntmps40
    go_wp2
    go_ret
    exact ⟨ret_bool Hd.out.symm, ((Below.refl _ _).alloc (Nat.le_refl _) _).alloc (by simp) _⟩

theorem lt_info : (Tryd.prog.info? 55).map (fun i => (i.zero, i.size, i.bytes)) = some (some (.agg #[.int .i64 0, .string ByteArray.empty]), 2, 24) := by kernel_rfl
def zeroLt : Lt := (0, ByteArray.empty)

/-- Equality of lists, as a Bool that the walk does not open. -/
def ltsEq (a b : List Lt) : Bool := decide (a = b)
theorem ltsEq_self (a : List Lt) : ltsEq a a = true := by simp [ltsEq]
theorem lt_ne {a b : List Lt} {k : Nat} {x y : Lt} (hx : a[k]? = some x) (hy : b[k]? = some y) (h : ¬ x = y) : ltsEq a b = false := by
  unfold ltsEq
  rw [decide_eq_false_iff_not]
  rintro rfl
  rw [hx] at hy
  injection hy with hy
  exact h hy

set_option maxHeartbeats 1000000 in
theorem lawEqLetterS (A B : Option Addr) (a b : List Lt) (n m capa capb : Nat) (hn : n = a.length) (hm : m = b.length) (w : World) (hna : n ≤ 16777216) (hnb : m ≤ 2147483647) (ha : Rd w 2 ltEnc A a) (hb : Rd w 2 ltEnc B b) :
    Calls Tryd.prog 9 #[.slice A n capa, .slice B m capb] w fun e w' => e = .returned (.bool (ltsEq a b)) ∧ Below w.heap.size w w' := by
  subst hn hm
  have Ha := Lib.hid ha
  have Hb := Lib.hid hb
  clear ha hb
  by_cases hne : a.length = b.length
  · have h0 : ((a.length : Int) != (b.length : Int)) = false := by simp; omega
    have Hne := Lib.hid hne
    have hle1 : a.length ≤ b.length := by omega
    clear hne
    go_enter Tryd.func9, Tryd.ntmps9
    go_wp2
    go_loopw [5] (fun i wr => ∃ k : Nat, k ≤ a.length ∧ i = .int .i64 k ∧ Below w.heap.size w wr ∧ Hid (∀ j, j < k → a[j]? = b[j]?)) (fun i _ => a.length - (intOf i).toNat)
    case atStart => exact ⟨0, Nat.zero_le _, rfl, Below.refl _ _, fun j hj => absurd hj (by omega)⟩
    case round =>
      obtain ⟨k, hk, rfl, hbl, H⟩ := hrel
      by_cases hlt : k < a.length
      · obtain ⟨x, hx⟩ : ∃ x, a[k]? = some x := ⟨_, List.getElem?_eq_getElem hlt⟩
        obtain ⟨y, hy⟩ : ∃ y, b[k]? = some y := ⟨_, List.getElem?_eq_getElem (by omega)⟩
        obtain ⟨ad, rfl, hab, c0, c1⟩ := (Ha.out.below hbl).two hx rfl
        obtain ⟨ad', rfl, hab', c0', c1'⟩ := (Hb.out.below hbl).two hy rfl
        have Hx := Lib.hid hx
        have Hy := Lib.hid hy
        clear hx hy
        have f0 : ∀ b : BW wr, b.w.cell? (ad.add (k * 2)) = some (.int .i64 x.1) := fun b => b.cell c0
        have f1 : ∀ b : BW wr, b.w.cell? ⟨(ad.add (k * 2)).block, (ad.add (k * 2)).off + 1, none⟩ = some (.string x.2) := fun b => b.cell c1
        have f2 : ∀ b : BW wr, b.w.cell? (ad'.add (k * 2)) = some (.int .i64 y.1) := fun b => b.cell c0'
        have f3 : ∀ b : BW wr, b.w.cell? ⟨(ad'.add (k * 2)).block, (ad'.add (k * 2)).off + 1, none⟩ = some (.string y.2) := fun b => b.cell c1'
        have hkb : k < b.length := by omega
        by_cases he : x = y
        · have hd : ltEq x y = true := by simp [ltEq, he]
          have He := Lib.hid he
          clear he
          go_wp2_with fail
          refine wp_region_bw wr (Below.refl _ _) (by kernel_rfl) (by kernel_rfl) ?_
          repeat (go_big_quiet_step ((go_at_call 40; exact calls_bw (lawEqLetter x y _))))
          refine wpQuiet_nil ?_
          rintro _ ⟨bw, rfl⟩
          go_wp2
          go_roundw
          case rel => exact ⟨k + 1, by omega, by go_num, hbl.trans (bw.h.mono hbl.size), fun j hj => if e : j = k then by rw [e, Hx.out, Hy.out, He.out] else H.out j (by omega)⟩
          case measure => simp [intOf]; omega
        · have hd : ltEq x y = false := by simpa [ltEq] using he
          have Hd : Hid (ltsEq a b = false) := lt_ne Hx.out Hy.out he
          clear he
          go_wp2_with fail
          refine wp_region_bw wr (Below.refl _ _) (by kernel_rfl) (by kernel_rfl) ?_
          repeat (go_big_quiet_step ((go_at_call 40; exact calls_bw (lawEqLetter x y _))))
          refine wpQuiet_nil ?_
          rintro _ ⟨bw, rfl⟩
          go_wp2
          go_ret
          exact ⟨ret_bool Hd.out.symm, hbl.trans (bw.h.mono hbl.size)⟩
      · obtain rfl : k = a.length := by omega
        go_wp2
        go_ret
        refine ⟨ret_bool ?_, hbl⟩
        have : a = b := List.ext_getElem? fun j => by
          by_cases hj : j < a.length
          · exact H.out j hj
          · rw [List.getElem?_eq_none (by omega), List.getElem?_eq_none (by have := Hne.out; omega)]
        rw [this]; simp [ltsEq]
  · have h0 : ((a.length : Int) != (b.length : Int)) = true := by simp; omega
    have Hd : Hid (ltsEq a b = false) := by show decide _ = _; simp; rintro rfl; exact hne rfl
    clear hne
    go_enter Tryd.func9, Tryd.ntmps9
    go_wp2
    go_ret
    exact ⟨ret_bool Hd.out.symm, Below.refl _ _⟩

/-- How many values and letters a batch holds, of the first k. -/
def ltSum (l : List Lt) : Nat → Nat
  | 0 => 0
  | k + 1 => ltSum l k + match l[k]? with | none => 0 | some x => x.2.size
def ltBulk (l : List Lt) : Nat := l.length + ltSum l l.length
theorem ltSum_succ {l : List Lt} {k : Nat} {x : Lt} (h : l[k]? = some x) : ltSum l (k + 1) = ltSum l k + x.2.size := by simp [ltSum, h]
theorem ltSum_mono (l : List Lt) {i k : Nat} (h : i ≤ k) : ltSum l i ≤ ltSum l k := by
  induction h with
  | refl => exact Nat.le_refl _
  | step _ ih => exact Nat.le_trans ih (Nat.le_add_right _ _)
theorem ltBulk_all {l : List Lt} {b : Nat} (h : ltBulk l ≤ b) : ∀ x ∈ l, x.2.size ≤ b := by
  intro x hx
  obtain ⟨k, hk, rfl⟩ := List.getElem_of_mem hx
  have h1 := ltSum_succ (List.getElem?_eq_getElem hk)
  have h2 := ltSum_mono l (show k + 1 ≤ l.length from hk)
  unfold ltBulk at h
  omega
theorem ltBulk_len (l : List Lt) : l.length ≤ ltBulk l := Nat.le_add_right _ _
end Go.Proofs.YtjibjoapbjojlaaDoor
