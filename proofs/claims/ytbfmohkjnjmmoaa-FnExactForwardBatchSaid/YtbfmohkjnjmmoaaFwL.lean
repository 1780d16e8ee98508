/-
  The laws' own helpers on orders: copies, comparison, size.
-/
import Derived.Test.YtbfmohkjnjmmoaaFwC
namespace Go.Proofs.Ytbfmohkjnjmmoaa
open Go.RowKit

theorem lawToForward (s t : Str) (w : World) :
    Calls Try.prog 105 #[.agg #[.string s, .string t]] w fun e w' => e = .returned (.agg #[.string s, .string t]) ∧ Below w.heap.size w w' := by
  go_enter Try.func105, Try.ntmps105
  go_wp2
  exact bodyPost_ret (v := .agg #[.string s, .string t]) (by simp [results, Try.results105, go_sem]) rfl ⟨rfl, (((Below.refl _ _).alloc (Nat.le_refl _) _).alloc (by simp) _).alloc (by simp; omega) _⟩

/-- Equality of two orders, as a Bool that the walk does not open. -/
def fwEq (x y : Fw) : Bool := decide (x = y)
theorem lawEqForward (x y : Fw) (w : World) :
    Calls Try.prog 110 #[.agg #[.string x.1, .string x.2], .agg #[.string y.1, .string y.2]] w fun e w' => e = .returned (.bool (fwEq x y)) ∧ Below w.heap.size w w' := by
  obtain ⟨s, t⟩ := x
  obtain ⟨s', t'⟩ := y
  by_cases h1 : s = s'
  · by_cases h2 : t = t'
    · have Hd : Hid (fwEq (s, t) (s', t') = true) := by show fwEq _ _ = _; simp [fwEq, h1, h2]
      have q1 := str_t h1
      have q2 := str_t h2
      clear h1 h2
      go_enter Try.func110, Try.ntmps110
      go_wp2
      go_ret
      exact ⟨ret_bool Hd.out.symm, ((Below.refl _ _).alloc (Nat.le_refl _) _).alloc (by simp) _⟩
    · have Hd : Hid (fwEq (s, t) (s', t') = false) := by show fwEq _ _ = _; simp [fwEq, h2]
      have q1 := str_t h1
      have q2 := str_f h2
      clear h1 h2
      go_enter Try.func110, Try.ntmps110
      go_wp2
      go_ret
      exact ⟨ret_bool Hd.out.symm, ((Below.refl _ _).alloc (Nat.le_refl _) _).alloc (by simp) _⟩
  · have Hd : Hid (fwEq (s, t) (s', t') = false) := by show fwEq _ _ = _; simp [fwEq, h1]
    have q1 := str_f h1
    clear h1
    go_enter Try.func110, Try.ntmps110
    go_wp2
    go_ret
    exact ⟨ret_bool Hd.out.symm, ((Below.refl _ _).alloc (Nat.le_refl _) _).alloc (by simp) _⟩

theorem fw_info : (Try.prog.info? 117).map (fun i => (i.zero, i.size, i.bytes)) = some (some (.agg #[.string ByteArray.empty, .string ByteArray.empty]), 2, 32) := by kernel_rfl
def zeroFw : Fw := (ByteArray.empty, ByteArray.empty)

theorem take_set_rep {α : Type} {z x : α} {l : List α} {k : Nat} (hx : l[k]? = some x) : (l.take k ++ List.replicate (l.length - k) z).set k x = l.take (k + 1) ++ List.replicate (l.length - (k + 1)) z := by
  have hk := (List.getElem?_eq_some_iff.1 hx).1
  rw [List.set_append_right _ _ (by rw [List.length_take]; omega), List.length_take, show k - min k l.length = 0 from by omega, show l.length - k = (l.length - (k + 1)) + 1 from by omega, List.replicate_succ, List.set_cons_zero, List.take_add_one, hx]
  simp
set_option maxHeartbeats 1000000 in
theorem lawToForwardS (A : Option Addr) (l : List Fw) (n cap : Nat) (hl : n = l.length) (w : World) (hn : n ≤ 16777216) (h : Rd w 2 fwEnc A l) :
    Calls Try.prog 56 #[.slice A n cap] w fun e w' => e = .returned (.slice (some ⟨w.heap.size, 0, none⟩) n n) ∧ Own w' w.heap.size 117 2 fwEnc (.slice (some ⟨w.heap.size, 0, none⟩) n n) l ∧ Below w.heap.size w w' := by
  subst hl
  have Hr := Lib.hid h
  clear h
  obtain ⟨i0, hi, hz0, hz1, hz2⟩ := info_parts fw_info
  go_enter Try.func56, Try.ntmps56
  go_wp2_with (at_make; refine wpList_make_full _ rfl _ _ 74 rfl w.heap.size 117 i0 _ 2 Try.underlying74 hi hz0 hz1 .i64 .i64 _ _ l.length rfl rfl rfl rfl (by rw [hz2]; omega) (by unfold maxLen; omega) (Nat.le_refl _) ?_; intro w1 hown1 hg1)
  have hown : Own w1 w.heap.size 117 2 fwEnc (.slice (some ⟨w.heap.size, 0, none⟩) l.length l.length) (List.replicate l.length zeroFw) := by
    unfold Own
    rw [List.length_replicate, flat_replicate]
    have := made2 (.string ByteArray.empty) (.string ByteArray.empty) l.length
    rw [show fwEnc zeroFw = [.string ByteArray.empty, .string ByteArray.empty] from rfl, ← this]
    exact hown1
  have Hown := Lib.hid hown
  have hb1 : Below w.heap.size w w1 := grown_below hg1 (fun _ e => by cases e)
  clear hown hown1 hg1
  go_wp2_with fail
  go_loopw [4] (fun i wr => ∃ k : Nat, k ≤ l.length ∧ i = .int .i64 k ∧ Below w.heap.size w wr ∧ Hid (Own wr w.heap.size 117 2 fwEnc (.slice (some ⟨w.heap.size, 0, none⟩) l.length l.length) (l.take k ++ List.replicate (l.length - k) zeroFw))) (fun i _ => l.length - (intOf i).toNat)
  case atStart => exact ⟨0, Nat.zero_le _, rfl, hb1, by rw [List.take_zero, List.nil_append, Nat.sub_zero]; exact Hown.out⟩
  case round =>
    obtain ⟨k, hk, rfl, hb, Hk⟩ := hrel
    clear Hown hb1
    by_cases hlt : k < l.length
    · obtain ⟨x, hx⟩ : ∃ x, l[k]? = some x := ⟨_, List.getElem?_eq_getElem hlt⟩
      obtain ⟨ad, rfl, hab, c0, c1⟩ := (Hr.out.below hb).two hx rfl
      have Hx := Lib.hid hx
      clear hx
      have hz : (l.take k ++ List.replicate (l.length - k) zeroFw)[k]? = some zeroFw := by
        rw [List.getElem?_append_right (by rw [List.length_take]; omega), List.getElem?_replicate, if_pos (by rw [List.length_take]; omega)]
      have hlen : l.length = (l.take k ++ List.replicate (l.length - k) zeroFw).length := by rw [List.length_append, List.length_take, List.length_replicate]; omega
      have hset : (l.take k ++ List.replicate (l.length - k) zeroFw).set k x = l.take (k + 1) ++ List.replicate (l.length - (k + 1)) zeroFw := take_set_rep Hx.out
      have Hset := Lib.hid hset
      have Hlen := Lib.hid hlen
      have Hz := Lib.hid hz
      clear hset hlen hz
      go_wp2_with fail
      refine (lawToForward _ _ _).mono ?_
      rintro e w2 ⟨rfl, hb2⟩
      have hown2 := Hk.out.below hb2
      obtain ⟨q0, q1⟩ := hown2.cell2 fwEnc_len Hlen.out Hz.out (j := 0) (by omega)
      obtain ⟨q2, q3⟩ := hown2.cell2 fwEnc_len Hlen.out Hz.out (j := 1) (by omega)
      rw [show (fwEnc zeroFw)[0]? = some (.string ByteArray.empty) from rfl] at q0
      rw [show (fwEnc zeroFw)[1]? = some (.string ByteArray.empty) from rfl] at q2
      simp only [Nat.add_zero] at q0 q1
      have Hown2 := Lib.hid hown2
      clear hown2
      go_wp2
      go_roundw
      case rel =>
        refine ⟨k + 1, by omega, by go_num, ((hb.trans (hb2.mono hb.size)).setCell (Nat.le_refl _) _).setCell (Nat.le_refl _) _, ?_⟩
        have := Hown2.out.set2 fwEnc_len Hlen.out hlt (y := x) rfl
        rw [Hset.out] at this
        exact this
      case measure => simp [intOf]; omega
    · obtain rfl : k = l.length := by omega
      go_wp2
      go_ret
      exact ⟨rfl, by simpa using Hk.out, hb⟩

theorem fw_ne {a b : List Fw} {k : Nat} {x y : Fw} (hx : a[k]? = some x) (hy : b[k]? = some y) (h : ¬ x = y) : ¬ a = b := by
  rintro rfl
  rw [hx] at hy
  injection hy with hy
  exact h hy

set_option maxHeartbeats 1000000 in
theorem lawEqForwardS (A B : Option Addr) (a b : List Fw) (n m capa capb : Nat) (hn : n = a.length) (hm : m = b.length) (w : World) (hna : n ≤ 16777216) (hnb : m ≤ 2147483647) (ha : Rd w 2 fwEnc A a) (hb : Rd w 2 fwEnc B b) :
    Calls Try.prog 60 #[.slice A n capa, .slice B m capb] w fun e w' => e = .returned (.bool (decide (a = b))) ∧ Below w.heap.size w w' := by
  subst hn hm
  have Ha := Lib.hid ha
  have Hb := Lib.hid hb
  clear ha hb
  by_cases hne : a.length = b.length
  · have h0 : ((a.length : Int) != (b.length : Int)) = false := by simp; omega
    have Hne := Lib.hid hne
    have hle1 : a.length ≤ b.length := by omega
    clear hne
    go_enter Try.func60, Try.ntmps60
    go_wp2
    go_loopw [5] (fun i wr => ∃ k : Nat, k ≤ a.length ∧ i = .int .i64 k ∧ Below w.heap.size w wr ∧ Hid (∀ j, j < k → a[j]? = b[j]?)) (fun i _ => a.length - (intOf i).toNat)
    case atStart => exact ⟨0, Nat.zero_le _, rfl, Below.refl _ _, fun j hj => absurd hj (by omega)⟩
    case round =>
      obtain ⟨k, hk, rfl, hbl, H⟩ := hrel
      by_cases hlt : k < a.length
      · obtain ⟨x, hx⟩ : ∃ x, a[k]? = some x := ⟨_, List.getElem?_eq_getElem hlt⟩
        obtain ⟨y, hy⟩ : ∃ y, b[k]? = some y := ⟨_, List.getElem?_eq_getElem (by omega)⟩
        obtain ⟨ad, rfl, hab, c0, c1⟩ := (Ha.out.below hbl).two hx rfl
        obtain ⟨ad', rfl, hab', c0', c1'⟩ := (Hb.out.below hbl).two hy rfl
        have Hx := Lib.hid hx
        have Hy := Lib.hid hy
        clear hx hy
        have f0 : ∀ b : BW wr, b.w.cell? (ad.add (k * 2)) = some (.string x.1) := fun b => b.cell c0
        have f1 : ∀ b : BW wr, b.w.cell? ⟨(ad.add (k * 2)).block, (ad.add (k * 2)).off + 1, none⟩ = some (.string x.2) := fun b => b.cell c1
        have f2 : ∀ b : BW wr, b.w.cell? (ad'.add (k * 2)) = some (.string y.1) := fun b => b.cell c0'
        have f3 : ∀ b : BW wr, b.w.cell? ⟨(ad'.add (k * 2)).block, (ad'.add (k * 2)).off + 1, none⟩ = some (.string y.2) := fun b => b.cell c1'
        have hkb : k < b.length := by omega
        by_cases he : x = y
        · have hd : fwEq x y = true := by simp [fwEq, he]
          have He := Lib.hid he
          clear he
          go_wp2_with fail
          refine wp_region_bw wr (Below.refl _ _) (by kernel_rfl) (by kernel_rfl) ?_
          repeat (go_big_quiet_step ((go_at_call 110; exact calls_bw (lawEqForward x y _))))
          refine wpQuiet_nil ?_
          rintro _ ⟨bw, rfl⟩
          go_wp2
          go_roundw
          case rel => exact ⟨k + 1, by omega, by go_num, hbl.trans (bw.h.mono hbl.size), fun j hj => if e : j = k then by rw [e, Hx.out, Hy.out, He.out] else H.out j (by omega)⟩
          case measure => simp [intOf]; omega
        · have hd : fwEq x y = false := by simpa [fwEq] using he
          have Hd : Hid (decide (a = b) = false) := by show decide _ = _; simpa using fw_ne Hx.out Hy.out he
          clear he
          go_wp2_with fail
          refine wp_region_bw wr (Below.refl _ _) (by kernel_rfl) (by kernel_rfl) ?_
          repeat (go_big_quiet_step ((go_at_call 110; exact calls_bw (lawEqForward x y _))))
          refine wpQuiet_nil ?_
          rintro _ ⟨bw, rfl⟩
          go_wp2
          go_ret
          exact ⟨ret_bool Hd.out.symm, hbl.trans (bw.h.mono hbl.size)⟩
      · obtain rfl : k = a.length := by omega
        go_wp2
        go_ret
        refine ⟨ret_bool ?_, hbl⟩
        have : a = b := List.ext_getElem? fun j => by
          by_cases hj : j < a.length
          · exact H.out j hj
          · rw [List.getElem?_eq_none (by omega), List.getElem?_eq_none (by have := Hne.out; omega)]
        rw [this]; simp
  · have h0 : ((a.length : Int) != (b.length : Int)) = true := by simp; omega
    have Hd : Hid (decide (a = b) = false) := by show decide _ = _; simp; rintro rfl; exact hne rfl
    clear hne
    go_enter Try.func60, Try.ntmps60
    go_wp2
    go_ret
    exact ⟨ret_bool Hd.out.symm, Below.refl _ _⟩

/-- How many values and letters orders hold, of the first k. -/
def fwSum (l : List Fw) : Nat → Nat
  | 0 => 0
  | k + 1 => fwSum l k + match l[k]? with | none => 0 | some x => x.1.size + x.2.size
def fwBulk (l : List Fw) : Nat := l.length + fwSum l l.length
theorem fwSum_succ {l : List Fw} {k : Nat} {x : Fw} (h : l[k]? = some x) : fwSum l (k + 1) = fwSum l k + (x.1.size + x.2.size) := by simp [fwSum, h]
theorem fwSum_mono (l : List Fw) {i k : Nat} (h : i ≤ k) : fwSum l i ≤ fwSum l k := by
  induction h with
  | refl => exact Nat.le_refl _
  | step _ ih => exact Nat.le_trans ih (Nat.le_add_right _ _)
theorem fwBulk_len (l : List Fw) : l.length ≤ fwBulk l := Nat.le_add_right _ _
theorem fwBulk_all {l : List Fw} {b : Nat} (h : fwBulk l ≤ b) : ∀ x ∈ l, x.1.size ≤ b ∧ x.2.size ≤ b := by
  intro x hx
  obtain ⟨k, hk, rfl⟩ := List.getElem_of_mem hx
  have h1 := fwSum_succ (List.getElem?_eq_getElem hk)
  have h2 := fwSum_mono l (show k + 1 ≤ l.length from hk)
  unfold fwBulk at h
  omega

theorem lawSzForward (s t : Str) (left : Int) (w : World) (hs : s.size ≤ 9223372036854775807) (ht : t.size ≤ 9223372036854775807) (h0 : 0 ≤ left) (h1 : left ≤ 1048576) :
    Calls Try.prog 100 #[.agg #[.string s, .string t], .int .i64 left] w fun e w' => e = .returned (.int .i64 (leftOf left (s.size + t.size))) ∧ Below w.heap.size w w' := by
  by_cases q1 : (s.size : Int) ≤ left
  · by_cases q2 : (t.size : Int) ≤ left - s.size
    · go_enter Try.func100, Try.ntmps100
      go_wp2
      go_ret
      exact ⟨ret_int (by unfold leftOf; rw [if_pos (by omega)]; omega), (Below.refl _ _).alloc (Nat.le_refl _) _⟩
    · go_enter Try.func100, Try.ntmps100
      go_wp2
      go_ret
      exact ⟨ret_int (by unfold leftOf; rw [if_neg (by omega)]), (Below.refl _ _).alloc (Nat.le_refl _) _⟩
  · go_enter Try.func100, Try.ntmps100
    go_wp2
    go_ret
    exact ⟨ret_int (by unfold leftOf; rw [if_neg (by omega)]), (Below.refl _ _).alloc (Nat.le_refl _) _⟩

set_option maxHeartbeats 1000000 in
theorem lawSzForwardS (A : Option Addr) (l : List Fw) (n cap : Nat) (hl : n = l.length) (left : Int) (w : World) (hn : n ≤ 9223372036854775807) (hs : ∀ x ∈ l, x.1.size ≤ maxLen ∧ x.2.size ≤ maxLen) (h0 : 0 ≤ left) (h1 : left ≤ 1048576) (h : Rd w 2 fwEnc A l) :
    Calls Try.prog 53 #[.slice A n cap, .int .i64 left] w fun e w' => e = .returned (.int .i64 (leftOf left (fwBulk l))) ∧ Below w.heap.size w w' := by
  subst hl
  have Hr := Lib.hid h
  have Hs := Lib.hid hs
  clear h hs
  by_cases q1 : (l.length : Int) ≤ left
  · go_enter Try.func53, Try.ntmps53
    go_wp2
    go_loopw [1, 5] (fun t i wr => ∃ k : Nat, k ≤ l.length ∧ i = .int .i64 k ∧ ∃ r : Int, t = .int .i64 r ∧ 0 ≤ r ∧ r ≤ 1048576 ∧ Below w.heap.size w wr ∧ Hid (r = left - l.length - fwSum l k)) (fun _ i _ => l.length - (intOf i).toNat)
    case atStart => exact ⟨0, Nat.zero_le _, rfl, left - l.length, rfl, by omega, by omega, Below.refl _ _, by show _ = _; simp [fwSum]⟩
    case round =>
      obtain ⟨k, hk, rfl, r, rfl, hr0, hr1, hb, Hq⟩ := hrel
      by_cases hlt : k < l.length
      · obtain ⟨x, hx⟩ : ∃ x, l[k]? = some x := ⟨_, List.getElem?_eq_getElem hlt⟩
        obtain ⟨hs1, hs2⟩ := Hs.out x (List.mem_of_getElem? hx)
        unfold maxLen at hs1 hs2
        obtain ⟨ad, rfl, hab, c0, c1⟩ := (Hr.out.below hb).two hx rfl
        have Hx := Lib.hid hx
        clear hx
        by_cases q2 : ((x.1.size + x.2.size : Nat) : Int) ≤ r
        · have hlo : leftOf r (x.1.size + x.2.size) = r - ((x.1.size + x.2.size : Nat) : Int) := by unfold leftOf; rw [if_pos q2]
          have Hlo := Lib.hid hlo
          clear hlo
          obtain ⟨r', hr'⟩ : ∃ r', r' = r - ((x.1.size + x.2.size : Nat) : Int) := ⟨_, rfl⟩
          have hr2 : 0 ≤ r' := by omega
          have hr3 : r' ≤ 1048576 := by omega
          have Hr' := Lib.hid hr'
          clear hr'
          go_wp2_with (go_at_call 100; refine (lawSzForward _ _ _ _ hs1 hs2 hr0 hr1).mono ?_; rw [Hlo.out, ← Hr'.out]; rintro e w1 ⟨rfl, hb1⟩)
          go_roundw
          case rel => exact ⟨k + 1, by omega, by go_num, r', rfl, hr2, hr3, hb.trans (hb1.mono hb.size), by show r' = _; have := Hq.out; have := Hr'.out; rw [fwSum_succ Hx.out]; omega⟩
          case measure => simp [intOf]; omega
        · have hlo : leftOf r (x.1.size + x.2.size) = -1 := by unfold leftOf; rw [if_neg q2]
          have Hlo := Lib.hid hlo
          clear hlo
          have Hend : Hid (leftOf left (fwBulk l) = -1) := by
            show leftOf _ _ = _
            have h2 := fwSum_mono l (show k + 1 ≤ l.length from hlt)
            rw [fwSum_succ Hx.out] at h2
            have := Hq.out
            unfold leftOf fwBulk
            rw [if_neg (by omega)]
          go_wp2_with (go_at_call 100; refine (lawSzForward _ _ _ _ hs1 hs2 hr0 hr1).mono ?_; rw [Hlo.out]; rintro e w1 ⟨rfl, hb1⟩)
          go_ret
          exact ⟨by rw [Hend.out]; rfl, hb.trans (hb1.mono hb.size)⟩
      · obtain rfl : k = l.length := by omega
        go_wp2
        go_ret
        exact ⟨ret_int (by have := Hq.out; unfold leftOf fwBulk; rw [if_pos (by omega)]; omega), hb⟩
  · have Hend : Hid (leftOf left (fwBulk l) = -1) := by show leftOf _ _ = _; unfold leftOf fwBulk; rw [if_neg (by omega)]
    go_enter Try.func53, Try.ntmps53
    go_wp2
    go_ret
    exact ⟨by rw [Hend.out]; rfl, Below.refl _ _⟩
end Go.Proofs.Ytbfmohkjnjmmoaa
