/-
  The laws' own helpers on letters: copies, comparison, size.
-/
import Derived.Test.YtbfmohkjnjmmoaaPlC
namespace Go.Proofs.Ytbfmohkjnjmmoaa
open Go.RowKit

theorem lawToLetter (i : Int) (s : Str) (w : World) :
    Calls Try.prog 106 #[.agg #[.int .i64 i, .string s]] w fun e w' => e = .returned (.agg #[.int .i64 i, .string s]) ∧ Below w.heap.size w w' := by
  go_enter Try.func106, Try.ntmps106
  go_wp2
  exact bodyPost_ret (v := .agg #[.int .i64 i, .string s]) (by simp [results, Try.results106, go_sem]) rfl ⟨rfl, (((Below.refl _ _).alloc (Nat.le_refl _) _).alloc (by simp) _).alloc (by simp; omega) _⟩

/-- Equality of two letters, as a Bool that the walk does not open. -/
def ltEq (x y : Lt) : Bool := decide (x = y)
theorem lawEqLetter (x y : Lt) (w : World) :
    Calls Try.prog 109 #[.agg #[.int .i64 x.1, .string x.2], .agg #[.int .i64 y.1, .string y.2]] w fun e w' => e = .returned (.bool (ltEq x y)) ∧ Below w.heap.size w w' := by
  obtain ⟨s, t⟩ := x
  obtain ⟨s', t'⟩ := y
  by_cases h1 : s = s'
  · by_cases h2 : t = t'
    · have Hd : Hid (ltEq (s, t) (s', t') = true) := by show ltEq _ _ = _; simp [ltEq, h1, h2]
      have q1 : (s != s') = false := by simp [h1]
      have q2 := str_t h2
      clear h1 h2
      go_enter Try.func109, Try.ntmps109
      go_wp2
      go_ret
      exact ⟨ret_bool Hd.out.symm, ((Below.refl _ _).alloc (Nat.le_refl _) _).alloc (by simp) _⟩
    · have Hd : Hid (ltEq (s, t) (s', t') = false) := by show ltEq _ _ = _; simp [ltEq, h2]
      have q1 : (s != s') = false := by simp [h1]
      have q2 := str_f h2
      clear h1 h2
      go_enter Try.func109, Try.ntmps109
      go_wp2
      go_ret
      exact ⟨ret_bool Hd.out.symm, ((Below.refl _ _).alloc (Nat.le_refl _) _).alloc (by simp) _⟩
  · have Hd : Hid (ltEq (s, t) (s', t') = false) := by show ltEq _ _ = _; simp [ltEq, h1]
    have q1 : (s != s') = true := by simp [h1]
    clear h1
    go_enter Try.func109, Try.ntmps109
    go_wp2
    go_ret
    exact ⟨ret_bool Hd.out.symm, ((Below.refl _ _).alloc (Nat.le_refl _) _).alloc (by simp) _⟩

theorem lt_info : (Try.prog.info? 42).map (fun i => (i.zero, i.size, i.bytes)) = some (some (.agg #[.int .i64 0, .string ByteArray.empty]), 2, 24) := by kernel_rfl
def zeroLt : Lt := (0, ByteArray.empty)

set_option maxHeartbeats 1000000 in
theorem lawToLetterS (A : Option Addr) (l : List Lt) (n cap : Nat) (hl : n = l.length) (w : World) (hn : n ≤ 16777216) (h : Rd w 2 ltEnc A l) :
    Calls Try.prog 57 #[.slice A n cap] w fun e w' => e = .returned (.slice (some ⟨w.heap.size, 0, none⟩) n n) ∧ Own w' w.heap.size 42 2 ltEnc (.slice (some ⟨w.heap.size, 0, none⟩) n n) l ∧ Below w.heap.size w w' := by
  subst hl
  have Hr := Lib.hid h
  clear h
  obtain ⟨i0, hi, hz0, hz1, hz2⟩ := info_parts lt_info
  go_enter Try.func57, Try.ntmps57
  go_wp2_with (at_make; refine wpList_make_full _ rfl _ _ 40 rfl w.heap.size 42 i0 _ 2 Try.underlying40 hi hz0 hz1 .i64 .i64 _ _ l.length rfl rfl rfl rfl (by rw [hz2]; omega) (by unfold maxLen; omega) (Nat.le_refl _) ?_; intro w1 hown1 hg1)
  have hown : Own w1 w.heap.size 42 2 ltEnc (.slice (some ⟨w.heap.size, 0, none⟩) l.length l.length) (List.replicate l.length zeroLt) := by
    unfold Own
    rw [List.length_replicate, flat_replicate]
    have := made2 (.int .i64 0) (.string ByteArray.empty) l.length
    rw [show ltEnc zeroLt = [.int .i64 0, .string ByteArray.empty] from rfl, ← this]
    exact hown1
  have Hown := Lib.hid hown
  have hb1 : Below w.heap.size w w1 := grown_below hg1 (fun _ e => by cases e)
  clear hown hown1 hg1
  go_wp2_with fail
  go_loopw [4] (fun i wr => ∃ k : Nat, k ≤ l.length ∧ i = .int .i64 k ∧ Below w.heap.size w wr ∧ Hid (Own wr w.heap.size 42 2 ltEnc (.slice (some ⟨w.heap.size, 0, none⟩) l.length l.length) (l.take k ++ List.replicate (l.length - k) zeroLt))) (fun i _ => l.length - (intOf i).toNat)
  case atStart => exact ⟨0, Nat.zero_le _, rfl, hb1, by rw [List.take_zero, List.nil_append, Nat.sub_zero]; exact Hown.out⟩
  case round =>
    obtain ⟨k, hk, rfl, hb, Hk⟩ := hrel
    clear Hown hb1
    by_cases hlt : k < l.length
    · obtain ⟨x, hx⟩ : ∃ x, l[k]? = some x := ⟨_, List.getElem?_eq_getElem hlt⟩
      obtain ⟨ad, rfl, hab, c0, c1⟩ := (Hr.out.below hb).two hx rfl
      have Hx := Lib.hid hx
      clear hx
      have hz : (l.take k ++ List.replicate (l.length - k) zeroLt)[k]? = some zeroLt := by
        rw [List.getElem?_append_right (by rw [List.length_take]; omega), List.getElem?_replicate, if_pos (by rw [List.length_take]; omega)]
      have hlen : l.length = (l.take k ++ List.replicate (l.length - k) zeroLt).length := by rw [List.length_append, List.length_take, List.length_replicate]; omega
      have hset : (l.take k ++ List.replicate (l.length - k) zeroLt).set k x = l.take (k + 1) ++ List.replicate (l.length - (k + 1)) zeroLt := take_set_rep Hx.out
      have Hset := Lib.hid hset
      have Hlen := Lib.hid hlen
      have Hz := Lib.hid hz
      clear hset hlen hz
      go_wp2_with fail
      refine (lawToLetter _ _ _).mono ?_
      rintro e w2 ⟨rfl, hb2⟩
      have hown2 := Hk.out.below hb2
      obtain ⟨q0, q1⟩ := hown2.cell2 ltEnc_len Hlen.out Hz.out (j := 0) (by omega)
      obtain ⟨q2, q3⟩ := hown2.cell2 ltEnc_len Hlen.out Hz.out (j := 1) (by omega)
      rw [show (ltEnc zeroLt)[0]? = some (.int .i64 0) from rfl] at q0
      rw [show (ltEnc zeroLt)[1]? = some (.string ByteArray.empty) from rfl] at q2
      simp only [Nat.add_zero] at q0 q1
      have Hown2 := Lib.hid hown2
      clear hown2
      go_wp2
      go_roundw
      case rel =>
        refine ⟨k + 1, by omega, by go_num, ((hb.trans (hb2.mono hb.size)).setCell (Nat.le_refl _) _).setCell (Nat.le_refl _) _, ?_⟩
        have := Hown2.out.set2 ltEnc_len Hlen.out hlt (y := x) rfl
        rw [Hset.out] at this
        exact this
      case measure => simp [intOf]; omega
    · obtain rfl : k = l.length := by omega
      go_wp2
      go_ret
      exact ⟨rfl, by simpa using Hk.out, hb⟩

/-- Equality of lists, as a Bool that the walk does not open. -/
def ltsEq (a b : List Lt) : Bool := decide (a = b)
theorem ltsEq_self (a : List Lt) : ltsEq a a = true := by simp [ltsEq]
theorem lt_ne {a b : List Lt} {k : Nat} {x y : Lt} (hx : a[k]? = some x) (hy : b[k]? = some y) (h : ¬ x = y) : ltsEq a b = false := by
  unfold ltsEq
  rw [decide_eq_false_iff_not]
  rintro rfl
  rw [hx] at hy
  injection hy with hy
  exact h hy

set_option maxHeartbeats 1000000 in
theorem lawEqLetterS (A B : Option Addr) (a b : List Lt) (n m capa capb : Nat) (hn : n = a.length) (hm : m = b.length) (w : World) (hna : n ≤ 16777216) (hnb : m ≤ 2147483647) (ha : Rd w 2 ltEnc A a) (hb : Rd w 2 ltEnc B b) :
    Calls Try.prog 59 #[.slice A n capa, .slice B m capb] w fun e w' => e = .returned (.bool (ltsEq a b)) ∧ Below w.heap.size w w' := by
  subst hn hm
  have Ha := Lib.hid ha
  have Hb := Lib.hid hb
  clear ha hb
  by_cases hne : a.length = b.length
  · have h0 : ((a.length : Int) != (b.length : Int)) = false := by simp; omega
    have Hne := Lib.hid hne
    have hle1 : a.length ≤ b.length := by omega
    clear hne
    go_enter Try.func59, Try.ntmps59
    go_wp2
    go_loopw [5] (fun i wr => ∃ k : Nat, k ≤ a.length ∧ i = .int .i64 k ∧ Below w.heap.size w wr ∧ Hid (∀ j, j < k → a[j]? = b[j]?)) (fun i _ => a.length - (intOf i).toNat)
    case atStart => exact ⟨0, Nat.zero_le _, rfl, Below.refl _ _, fun j hj => absurd hj (by omega)⟩
    case round =>
      obtain ⟨k, hk, rfl, hbl, H⟩ := hrel
      by_cases hlt : k < a.length
      · obtain ⟨x, hx⟩ : ∃ x, a[k]? = some x := ⟨_, List.getElem?_eq_getElem hlt⟩
        obtain ⟨y, hy⟩ : ∃ y, b[k]? = some y := ⟨_, List.getElem?_eq_getElem (by omega)⟩
        obtain ⟨ad, rfl, hab, c0, c1⟩ := (Ha.out.below hbl).two hx rfl
        obtain ⟨ad', rfl, hab', c0', c1'⟩ := (Hb.out.below hbl).two hy rfl
        have Hx := Lib.hid hx
        have Hy := Lib.hid hy
        clear hx hy
        have f0 : ∀ b : BW wr, b.w.cell? (ad.add (k * 2)) = some (.int .i64 x.1) := fun b => b.cell c0
        have f1 : ∀ b : BW wr, b.w.cell? ⟨(ad.add (k * 2)).block, (ad.add (k * 2)).off + 1, none⟩ = some (.string x.2) := fun b => b.cell c1
        have f2 : ∀ b : BW wr, b.w.cell? (ad'.add (k * 2)) = some (.int .i64 y.1) := fun b => b.cell c0'
        have f3 : ∀ b : BW wr, b.w.cell? ⟨(ad'.add (k * 2)).block, (ad'.add (k * 2)).off + 1, none⟩ = some (.string y.2) := fun b => b.cell c1'
        have hkb : k < b.length := by omega
        by_cases he : x = y
        · have hd : ltEq x y = true := by simp [ltEq, he]
          have He := Lib.hid he
          clear he
          go_wp2_with fail
          refine wp_region_bw wr (Below.refl _ _) (by kernel_rfl) (by kernel_rfl) ?_
          repeat (go_big_quiet_step ((go_at_call 109; exact calls_bw (lawEqLetter x y _))))
          refine wpQuiet_nil ?_
          rintro _ ⟨bw, rfl⟩
          go_wp2
          go_roundw
          case rel => exact ⟨k + 1, by omega, by go_num, hbl.trans (bw.h.mono hbl.size), fun j hj => if e : j = k then by rw [e, Hx.out, Hy.out, He.out] else H.out j (by omega)⟩
          case measure => simp [intOf]; omega
        · have hd : ltEq x y = false := by simpa [ltEq] using he
          have Hd : Hid (ltsEq a b = false) := lt_ne Hx.out Hy.out he
          clear he
          go_wp2_with fail
          refine wp_region_bw wr (Below.refl _ _) (by kernel_rfl) (by kernel_rfl) ?_
          repeat (go_big_quiet_step ((go_at_call 109; exact calls_bw (lawEqLetter x y _))))
          refine wpQuiet_nil ?_
          rintro _ ⟨bw, rfl⟩
          go_wp2
          go_ret
          exact ⟨ret_bool Hd.out.symm, hbl.trans (bw.h.mono hbl.size)⟩
      · obtain rfl : k = a.length := by omega
        go_wp2
        go_ret
        refine ⟨ret_bool ?_, hbl⟩
        have : a = b := List.ext_getElem? fun j => by
          by_cases hj : j < a.length
          · exact H.out j hj
          · rw [List.getElem?_eq_none (by omega), List.getElem?_eq_none (by have := Hne.out; omega)]
        rw [this]; simp [ltsEq]
  · have h0 : ((a.length : Int) != (b.length : Int)) = true := by simp; omega
    have Hd : Hid (ltsEq a b = false) := by show decide _ = _; simp; rintro rfl; exact hne rfl
    clear hne
    go_enter Try.func59, Try.ntmps59
    go_wp2
    go_ret
    exact ⟨ret_bool Hd.out.symm, Below.refl _ _⟩

/-- How many values and letters a batch holds, of the first k. -/
def ltSum (l : List Lt) : Nat → Nat
  | 0 => 0
  | k + 1 => ltSum l k + match l[k]? with | none => 0 | some x => x.2.size
def ltBulk (l : List Lt) : Nat := l.length + ltSum l l.length
theorem ltSum_succ {l : List Lt} {k : Nat} {x : Lt} (h : l[k]? = some x) : ltSum l (k + 1) = ltSum l k + x.2.size := by simp [ltSum, h]
theorem ltSum_mono (l : List Lt) {i k : Nat} (h : i ≤ k) : ltSum l i ≤ ltSum l k := by
  induction h with
  | refl => exact Nat.le_refl _
  | step _ ih => exact Nat.le_trans ih (Nat.le_add_right _ _)
theorem ltBulk_all {l : List Lt} {b : Nat} (h : ltBulk l ≤ b) : ∀ x ∈ l, x.2.size ≤ b := by
  intro x hx
  obtain ⟨k, hk, rfl⟩ := List.getElem_of_mem hx
  have h1 := ltSum_succ (List.getElem?_eq_getElem hk)
  have h2 := ltSum_mono l (show k + 1 ≤ l.length from hk)
  unfold ltBulk at h
  omega
theorem ltBulk_len (l : List Lt) : l.length ≤ ltBulk l := Nat.le_add_right _ _

theorem lawSzLetter (i : Int) (t : Str) (left : Int) (w : World) (ht : t.size ≤ 9223372036854775807) (h0 : 0 ≤ left) (h1 : left ≤ 1048576) :
    Calls Try.prog 101 #[.agg #[.int .i64 i, .string t], .int .i64 left] w fun e w' => e = .returned (.int .i64 (leftOf left t.size)) ∧ Below w.heap.size w w' := by
  by_cases q1 : (t.size : Int) ≤ left
  · go_enter Try.func101, Try.ntmps101
    go_wp2
    go_ret
    exact ⟨ret_int (by unfold leftOf; rw [if_pos (by omega)]), (Below.refl _ _).alloc (Nat.le_refl _) _⟩
  · go_enter Try.func101, Try.ntmps101
    go_wp2
    go_ret
    exact ⟨ret_int (by unfold leftOf; rw [if_neg (by omega)]), (Below.refl _ _).alloc (Nat.le_refl _) _⟩

set_option maxHeartbeats 1000000 in
theorem lawSzLetterS (A : Option Addr) (l : List Lt) (n cap : Nat) (hl : n = l.length) (left : Int) (w : World) (hn : n ≤ 9223372036854775807) (hs : ∀ x ∈ l, x.2.size ≤ maxLen) (h0 : 0 ≤ left) (h1 : left ≤ 1048576) (h : Rd w 2 ltEnc A l) :
    Calls Try.prog 54 #[.slice A n cap, .int .i64 left] w fun e w' => e = .returned (.int .i64 (leftOf left (ltBulk l))) ∧ Below w.heap.size w w' := by
  subst hl
  have Hr := Lib.hid h
  have Hs := Lib.hid hs
  clear h hs
  by_cases q1 : (l.length : Int) ≤ left
  · go_enter Try.func54, Try.ntmps54
    go_wp2
    go_loopw [1, 5] (fun t i wr => ∃ k : Nat, k ≤ l.length ∧ i = .int .i64 k ∧ ∃ r : Int, t = .int .i64 r ∧ 0 ≤ r ∧ r ≤ 1048576 ∧ Below w.heap.size w wr ∧ Hid (r = left - l.length - ltSum l k)) (fun _ i _ => l.length - (intOf i).toNat)
    case atStart => exact ⟨0, Nat.zero_le _, rfl, left - l.length, rfl, by omega, by omega, Below.refl _ _, by show _ = _; simp [ltSum]⟩
    case round =>
      obtain ⟨k, hk, rfl, r, rfl, hr0, hr1, hb, Hq⟩ := hrel
      by_cases hlt : k < l.length
      · obtain ⟨x, hx⟩ : ∃ x, l[k]? = some x := ⟨_, List.getElem?_eq_getElem hlt⟩
        have hs2 := Hs.out x (List.mem_of_getElem? hx)
        unfold maxLen at hs2
        obtain ⟨ad, rfl, hab, c0, c1⟩ := (Hr.out.below hb).two hx rfl
        have Hx := Lib.hid hx
        clear hx
        by_cases q2 : (x.2.size : Int) ≤ r
        · have hlo : leftOf r x.2.size = r - (x.2.size : Int) := by unfold leftOf; rw [if_pos q2]
          have Hlo := Lib.hid hlo
          clear hlo
          obtain ⟨r', hr'⟩ : ∃ r', r' = r - (x.2.size : Int) := ⟨_, rfl⟩
          have hr2 : 0 ≤ r' := by omega
          have hr3 : r' ≤ 1048576 := by omega
          have Hr' := Lib.hid hr'
          clear hr'
          go_wp2_with (go_at_call 101; refine (lawSzLetter _ _ _ _ hs2 hr0 hr1).mono ?_; rw [Hlo.out, ← Hr'.out]; rintro e w1 ⟨rfl, hb1⟩)
          go_roundw
          case rel => exact ⟨k + 1, by omega, by go_num, r', rfl, hr2, hr3, hb.trans (hb1.mono hb.size), by show r' = _; have := Hq.out; have := Hr'.out; rw [ltSum_succ Hx.out]; omega⟩
          case measure => simp [intOf]; omega
        · have hlo : leftOf r x.2.size = -1 := by unfold leftOf; rw [if_neg q2]
          have Hlo := Lib.hid hlo
          clear hlo
          have Hend : Hid (leftOf left (ltBulk l) = -1) := by
            show leftOf _ _ = _
            have h2 := ltSum_mono l (show k + 1 ≤ l.length from hlt)
            rw [ltSum_succ Hx.out] at h2
            have := Hq.out
            unfold leftOf ltBulk
            rw [if_neg (by omega)]
          go_wp2_with (go_at_call 101; refine (lawSzLetter _ _ _ _ hs2 hr0 hr1).mono ?_; rw [Hlo.out]; rintro e w1 ⟨rfl, hb1⟩)
          go_ret
          exact ⟨by rw [Hend.out]; rfl, hb.trans (hb1.mono hb.size)⟩
      · obtain rfl : k = l.length := by omega
        go_wp2
        go_ret
        exact ⟨ret_int (by have := Hq.out; unfold leftOf ltBulk; rw [if_pos (by omega)]; omega), hb⟩
  · have Hend : Hid (leftOf left (ltBulk l) = -1) := by show leftOf _ _ = _; unfold leftOf ltBulk; rw [if_neg (by omega)]
    go_enter Try.func54, Try.ntmps54
    go_wp2
    go_ret
    exact ⟨by rw [Hend.out]; rfl, Below.refl _ _⟩
end Go.Proofs.Ytbfmohkjnjmmoaa
