/-
  The laws' own helpers on texts and plans: copies, comparison, size.
-/
import Derived.Test.YtfilggdiljpakaaDoorPlM
namespace Go.Proofs.YtfilggdiljpakaaDoor
open Go.RowKit

theorem str_info : (Tryd.prog.info? 9).map (fun i => (i.zero, i.size, i.bytes)) = some (some (.string ByteArray.empty), 1, 16) := by kernel_rfl
theorem made1 (a : Value) (n : Nat) : (madeCells #[a] (n * 1)).toList = (List.replicate n ()).flatMap fun _ => [a] := by
  have h : ∀ m : Nat, (madeCells #[a] m).toList = (List.range m).map fun i => (#[a] : Array Value)[i % 1]! := fun m => by simp [madeCells]
  rw [h, Nat.mul_one]
  induction n with
  | zero => rfl
  | succ n ih =>
    rw [List.range_succ, List.map_append, ih, List.replicate_succ', List.flatMap_append]
    simp [Nat.mod_one]
theorem take_set_rep {α : Type} {z x : α} {l : List α} {k : Nat} (hx : l[k]? = some x) : (l.take k ++ List.replicate (l.length - k) z).set k x = l.take (k + 1) ++ List.replicate (l.length - (k + 1)) z := by
  have hk := (List.getElem?_eq_some_iff.1 hx).1
  rw [List.set_append_right _ _ (by rw [List.length_take]; omega), List.length_take, show k - min k l.length = 0 from by omega, show l.length - k = (l.length - (k + 1)) + 1 from by omega, List.replicate_succ, List.set_cons_zero, List.take_add_one, hx]
  simp

set_option maxHeartbeats 1000000 in
theorem lawToStringS (A : Option Addr) (l : List Str) (n cap : Nat) (hl : n = l.length) (w : World) (hn : n ≤ 16777216) (h : Rd w 1 strEnc A l) :
    Calls Tryd.prog 75 #[.slice A n cap] w fun e w' => e = .returned (.slice (some ⟨w.heap.size, 0, none⟩) n n) ∧ Own w' w.heap.size 9 1 strEnc (.slice (some ⟨w.heap.size, 0, none⟩) n n) l ∧ Below w.heap.size w w' := by
  subst hl
  have Hr := Lib.hid h
  clear h
  obtain ⟨i0, hi, hz0, hz1, hz2⟩ := info_parts str_info
  go_enter Tryd.func75, Tryd.ntmps75
  go_wp2_with (at_make; refine wpList_make_full _ rfl _ _ 34 rfl w.heap.size 9 i0 _ 1 Tryd.underlying34 hi hz0 hz1 .i64 .i64 _ _ l.length rfl rfl rfl rfl (by rw [hz2]; omega) (by unfold maxLen; omega) (Nat.le_refl _) ?_; intro w1 hown1 hg1)
  have hown : Own w1 w.heap.size 9 1 strEnc (.slice (some ⟨w.heap.size, 0, none⟩) l.length l.length) (List.replicate l.length ByteArray.empty) := by
    unfold Own
    rw [List.length_replicate, flat_replicate]
    have := made1 (.string ByteArray.empty) l.length
    rw [show strEnc ByteArray.empty = [.string ByteArray.empty] from rfl, ← this]
    exact hown1
  have Hown := Lib.hid hown
  have hb1 : Below w.heap.size w w1 := grown_below hg1 (fun _ e => by cases e)
  clear hown hown1 hg1
  go_wp2_with fail
  go_loopw [4] (fun i wr => ∃ k : Nat, k ≤ l.length ∧ i = .int .i64 k ∧ Below w.heap.size w wr ∧ Hid (Own wr w.heap.size 9 1 strEnc (.slice (some ⟨w.heap.size, 0, none⟩) l.length l.length) (l.take k ++ List.replicate (l.length - k) ByteArray.empty))) (fun i _ => l.length - (intOf i).toNat)
  case atStart => exact ⟨0, Nat.zero_le _, rfl, hb1, by rw [List.take_zero, List.nil_append, Nat.sub_zero]; exact Hown.out⟩
  case round =>
    obtain ⟨k, hk, rfl, hb, Hk⟩ := hrel
    clear Hown hb1
    by_cases hlt : k < l.length
    · obtain ⟨x, hx⟩ : ∃ x, l[k]? = some x := ⟨_, List.getElem?_eq_getElem hlt⟩
      obtain ⟨ad, rfl, hab, c0⟩ := (Hr.out.below hb).one hx rfl
      have hz : (l.take k ++ List.replicate (l.length - k) ByteArray.empty)[k]? = some ByteArray.empty := by
        rw [List.getElem?_append_right (by rw [List.length_take]; omega), List.getElem?_replicate, if_pos (by rw [List.length_take]; omega)]
      have hlen : l.length = (l.take k ++ List.replicate (l.length - k) ByteArray.empty).length := by rw [List.length_append, List.length_take, List.length_replicate]; omega
      have hset : (l.take k ++ List.replicate (l.length - k) ByteArray.empty).set k x = l.take (k + 1) ++ List.replicate (l.length - (k + 1)) ByteArray.empty := take_set_rep hx
      obtain ⟨q0, q1⟩ := Hk.out.cell2 strEnc_len hlen hz (j := 0) (by omega)
      rw [show (strEnc ByteArray.empty)[0]? = some (.string ByteArray.empty) from rfl] at q0
      simp only [Nat.add_zero, Nat.mul_one] at q0 q1
      have Hset := Lib.hid hset
      have Hlen := Lib.hid hlen
      clear hset hlen hz hx
      go_wp2
      go_roundw
      case rel =>
        refine ⟨k + 1, by omega, by go_num, hb.setCell (Nat.le_refl _) _, ?_⟩
        have := Hk.out.set1 strEnc_len Hlen.out hlt (y := x) rfl
        rw [Hset.out] at this
        exact this
      case measure => simp [intOf]; omega
    · obtain rfl : k = l.length := by omega
      go_wp2
      go_ret
      exact ⟨rfl, by simpa using Hk.out, hb⟩

/-- Equality of lists, as a Bool that the walk does not open. -/
def strsEq (a b : List Str) : Bool := decide (a = b)
theorem strsEq_self (a : List Str) : strsEq a a = true := by simp [strsEq]
theorem str_ne {a b : List Str} {k : Nat} {x y : Str} (hx : a[k]? = some x) (hy : b[k]? = some y) (h : ¬ x = y) : strsEq a b = false := by
  unfold strsEq
  simp only [decide_eq_false_iff_not]
  rintro rfl
  rw [hx] at hy
  injection hy with hy
  exact h hy

set_option maxHeartbeats 1000000 in
theorem lawEqStringS (A B : Option Addr) (a b : List Str) (n m capa capb : Nat) (hn : n = a.length) (hm : m = b.length) (w : World) (hna : n ≤ 16777216) (hnb : m ≤ 2147483647) (ha : Rd w 1 strEnc A a) (hb : Rd w 1 strEnc B b) :
    Calls Tryd.prog 76 #[.slice A n capa, .slice B m capb] w fun e w' => e = .returned (.bool (strsEq a b)) ∧ Below w.heap.size w w' := by
  subst hn hm
  have Ha := Lib.hid ha
  have Hb := Lib.hid hb
  clear ha hb
  by_cases hne : a.length = b.length
  · have h0 : ((a.length : Int) != (b.length : Int)) = false := by simp; omega
    have Hne := Lib.hid hne
    have hle1 : a.length ≤ b.length := by omega
    clear hne
    go_enter Tryd.func76, Tryd.ntmps76
    go_wp2
    go_loopw [5] (fun i wr => ∃ k : Nat, k ≤ a.length ∧ i = .int .i64 k ∧ Below w.heap.size w wr ∧ Hid (∀ j, j < k → a[j]? = b[j]?)) (fun i _ => a.length - (intOf i).toNat)
    case atStart => exact ⟨0, Nat.zero_le _, rfl, Below.refl _ _, fun j hj => absurd hj (by omega)⟩
    case round =>
      obtain ⟨k, hk, rfl, hbl, H⟩ := hrel
      by_cases hlt : k < a.length
      · obtain ⟨x, hx⟩ : ∃ x, a[k]? = some x := ⟨_, List.getElem?_eq_getElem hlt⟩
        obtain ⟨y, hy⟩ : ∃ y, b[k]? = some y := ⟨_, List.getElem?_eq_getElem (by omega)⟩
        obtain ⟨ad, rfl, hab, c0⟩ := (Ha.out.below hbl).one hx rfl
        obtain ⟨ad', rfl, hab', c0'⟩ := (Hb.out.below hbl).one hy rfl
        have Hx := Lib.hid hx
        have Hy := Lib.hid hy
        clear hx hy
        have f0 : ∀ b : BW wr, b.w.cell? (ad.add k) = some (.string x) := fun b => b.cell c0
        have f1 : ∀ b : BW wr, b.w.cell? (ad'.add k) = some (.string y) := fun b => b.cell c0'
        have hkb : k < b.length := by omega
        by_cases he : x = y
        · have hd := str_t he
          have He := Lib.hid he
          clear he
          go_wp2_with fail
          refine wp_region_bw wr (Below.refl _ _) (by kernel_rfl) (by kernel_rfl) ?_
          repeat (go_big_quiet_step (fail))
          refine wpQuiet_nil ?_
          rintro _ ⟨bw, rfl⟩
          go_wp2
          go_roundw
          case rel => exact ⟨k + 1, by omega, by go_num, hbl.trans (bw.h.mono hbl.size), fun j hj => if e : j = k then by rw [e, Hx.out, Hy.out, He.out] else H.out j (by omega)⟩
          case measure => simp [intOf]; omega
        · have hd := str_f he
          have Hd : Hid (strsEq a b = false) := str_ne Hx.out Hy.out he
          clear he
          go_wp2_with fail
          refine wp_region_bw wr (Below.refl _ _) (by kernel_rfl) (by kernel_rfl) ?_
          repeat (go_big_quiet_step (fail))
          refine wpQuiet_nil ?_
          rintro _ ⟨bw, rfl⟩
          go_wp2
          go_ret
          exact ⟨ret_bool Hd.out.symm, hbl.trans (bw.h.mono hbl.size)⟩
      · obtain rfl : k = a.length := by omega
        go_wp2
        go_ret
        refine ⟨ret_bool ?_, hbl⟩
        have : a = b := List.ext_getElem? fun j => by
          by_cases hj : j < a.length
          · exact H.out j hj
          · rw [List.getElem?_eq_none (by omega), List.getElem?_eq_none (by have := Hne.out; omega)]
        rw [this, strsEq_self]
  · have h0 : ((a.length : Int) != (b.length : Int)) = true := by simp; omega
    have Hd : Hid (strsEq a b = false) := by show strsEq _ _ = _; unfold strsEq; simp; rintro rfl; exact hne rfl
    clear hne
    go_enter Tryd.func76, Tryd.ntmps76
    go_wp2
    go_ret
    exact ⟨ret_bool Hd.out.symm, Below.refl _ _⟩

/-- How many values and letters texts hold, of the first k. -/
def strSum (l : List Str) : Nat → Nat
  | 0 => 0
  | k + 1 => strSum l k + match l[k]? with | none => 0 | some x => x.size
def strBulk (l : List Str) : Nat := l.length + strSum l l.length
theorem strSum_succ {l : List Str} {k : Nat} {x : Str} (h : l[k]? = some x) : strSum l (k + 1) = strSum l k + x.size := by simp [strSum, h]
theorem strSum_mono (l : List Str) {i k : Nat} (h : i ≤ k) : strSum l i ≤ strSum l k := by
  induction h with
  | refl => exact Nat.le_refl _
  | step _ ih => exact Nat.le_trans ih (Nat.le_add_right _ _)
theorem strBulk_all {l : List Str} {b : Nat} (h : strBulk l ≤ b) : ∀ x ∈ l, x.size ≤ b := by
  intro x hx
  obtain ⟨k, hk, rfl⟩ := List.getElem_of_mem hx
  have h1 := strSum_succ (List.getElem?_eq_getElem hk)
  have h2 := strSum_mono l (show k + 1 ≤ l.length from hk)
  unfold strBulk at h
  omega
theorem strBulk_len (l : List Str) : l.length ≤ strBulk l := Nat.le_add_right _ _

set_option maxHeartbeats 1000000 in
theorem lawSzStringS (A : Option Addr) (l : List Str) (n cap : Nat) (hl : n = l.length) (left : Int) (w : World) (hn : n ≤ 9223372036854775807) (hs : ∀ x ∈ l, x.size ≤ maxLen) (h0 : 0 ≤ left) (h1 : left ≤ 1048576) (h : Rd w 1 strEnc A l) :
    Calls Tryd.prog 74 #[.slice A n cap, .int .i64 left] w fun e w' => e = .returned (.int .i64 (leftOf left (strBulk l))) ∧ w = w' := by
  subst hl
  have Hr := Lib.hid h
  have Hs := Lib.hid hs
  clear h hs
  by_cases q1 : (l.length : Int) ≤ left
  · go_enter Tryd.func74, Tryd.ntmps74
    go_wp2
    go_loop [1, 5] (fun t i => ∃ k : Nat, k ≤ l.length ∧ i = .int .i64 k ∧ ∃ r : Int, t = .int .i64 r ∧ 0 ≤ r ∧ r ≤ 1048576 ∧ Hid (r = left - l.length - strSum l k)) (fun _ i => l.length - (intOf i).toNat)
    case atStart => exact ⟨0, Nat.zero_le _, rfl, left - l.length, rfl, by omega, by omega, by show _ = _; simp [strSum]⟩
    case round =>
      obtain ⟨k, hk, rfl, r, rfl, hr0, hr1, Hq⟩ := hrel
      by_cases hlt : k < l.length
      · obtain ⟨x, hx⟩ : ∃ x, l[k]? = some x := ⟨_, List.getElem?_eq_getElem hlt⟩
        have hs1 := Hs.out x (List.mem_of_getElem? hx)
        unfold maxLen at hs1
        obtain ⟨ad, rfl, hab, c0⟩ := Hr.out.one hx rfl
        have Hx := Lib.hid hx
        clear hx
        by_cases q2 : (x.size : Int) ≤ r
        · go_wp2
          go_round
          case rel => exact ⟨k + 1, by omega, by go_num, r - x.size, by go_num, by omega, by omega, by show _ = _; rw [strSum_succ Hx.out, Hq.out]; omega⟩
          case measure => simp [intOf]; omega
        · have Hd : Hid (leftOf left (strBulk l) = -1) := leftOf_none (by
            have h2 := strSum_mono l (show k + 1 ≤ l.length from hlt)
            rw [strSum_succ Hx.out] at h2
            have := Hq.out
            unfold strBulk
            omega)
          go_wp2
          go_ret
          exact ⟨ret_int Hd.out.symm, rfl⟩
      · obtain rfl : k = l.length := by omega
        go_wp2
        go_ret
        refine ⟨ret_int ?_, rfl⟩
        have := Hq.out
        rw [leftOf_some (by unfold strBulk; omega)]
        unfold strBulk
        omega
  · have Hd : Hid (leftOf left (strBulk l) = -1) := leftOf_none (by unfold strBulk; omega)
    go_enter Tryd.func74, Tryd.ntmps74
    go_wp2
    go_ret
    exact ⟨ret_int Hd.out.symm, rfl⟩
end Go.Proofs.YtfilggdiljpakaaDoor
