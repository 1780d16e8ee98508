/-
  The laws' own helpers on texts and plans: copies, comparison, size.
-/
import Derived.Test.YtdpmjohfjpohjaaPlM
namespace Go.Proofs.Ytdpmjohfjpohjaa
open Go.RowKit

theorem str_info : (Try.prog.info? 9).map (fun i => (i.zero, i.size, i.bytes)) = some (some (.string ByteArray.empty), 1, 16) := by kernel_rfl
theorem made1 (a : Value) (n : Nat) : (madeCells #[a] (n * 1)).toList = (List.replicate n ()).flatMap fun _ => [a] := by
  have h : ∀ m : Nat, (madeCells #[a] m).toList = (List.range m).map fun i => (#[a] : Array Value)[i % 1]! := fun m => by simp [madeCells]
  rw [h, Nat.mul_one]
  induction n with
  | zero => rfl
  | succ n ih =>
    rw [List.range_succ, List.map_append, ih, List.replicate_succ', List.flatMap_append]
    simp [Nat.mod_one]
theorem take_set_rep {α : Type} {z x : α} {l : List α} {k : Nat} (hx : l[k]? = some x) : (l.take k ++ List.replicate (l.length - k) z).set k x = l.take (k + 1) ++ List.replicate (l.length - (k + 1)) z := by
  have hk := (List.getElem?_eq_some_iff.1 hx).1
  rw [List.set_append_right _ _ (by rw [List.length_take]; omega), List.length_take, show k - min k l.length = 0 from by omega, show l.length - k = (l.length - (k + 1)) + 1 from by omega, List.replicate_succ, List.set_cons_zero, List.take_add_one, hx]
  simp

/-- Equality of lists, as a Bool that the walk does not open. -/
def strsEq (a b : List Str) : Bool := decide (a = b)
theorem strsEq_self (a : List Str) : strsEq a a = true := by simp [strsEq]
theorem str_ne {a b : List Str} {k : Nat} {x y : Str} (hx : a[k]? = some x) (hy : b[k]? = some y) (h : ¬ x = y) : strsEq a b = false := by
  unfold strsEq
  simp only [decide_eq_false_iff_not]
  rintro rfl
  rw [hx] at hy
  injection hy with hy
  exact h hy

set_option maxHeartbeats 1000000 in
theorem lawEqStringS (A B : Option Addr) (a b : List Str) (n m capa capb : Nat) (hn : n = a.length) (hm : m = b.length) (w : World) (hna : n ≤ 16777216) (hnb : m ≤ 2147483647) (ha : Rd w 1 strEnc A a) (hb : Rd w 1 strEnc B b) :
    Calls Try.prog 39 #[.slice A n capa, .slice B m capb] w fun e w' => e = .returned (.bool (strsEq a b)) ∧ Below w.heap.size w w' := by
  subst hn hm
  have Ha := Lib.hid ha
  have Hb := Lib.hid hb
  clear ha hb
  by_cases hne : a.length = b.length
  · have h0 : ((a.length : Int) != (b.length : Int)) = false := by simp; omega
    have Hne := Lib.hid hne
    have hle1 : a.length ≤ b.length := by omega
    clear hne
    go_enter Try.func39, Try.ntmps39
    go_wp2
    go_loopw [5] (fun i wr => ∃ k : Nat, k ≤ a.length ∧ i = .int .i64 k ∧ Below w.heap.size w wr ∧ Hid (∀ j, j < k → a[j]? = b[j]?)) (fun i _ => a.length - (intOf i).toNat)
    case atStart => exact ⟨0, Nat.zero_le _, rfl, Below.refl _ _, fun j hj => absurd hj (by omega)⟩
    case round =>
      obtain ⟨k, hk, rfl, hbl, H⟩ := hrel
      by_cases hlt : k < a.length
      · obtain ⟨x, hx⟩ : ∃ x, a[k]? = some x := ⟨_, List.getElem?_eq_getElem hlt⟩
        obtain ⟨y, hy⟩ : ∃ y, b[k]? = some y := ⟨_, List.getElem?_eq_getElem (by omega)⟩
        obtain ⟨ad, rfl, hab, c0⟩ := (Ha.out.below hbl).one hx rfl
        obtain ⟨ad', rfl, hab', c0'⟩ := (Hb.out.below hbl).one hy rfl
        have Hx := Lib.hid hx
        have Hy := Lib.hid hy
        clear hx hy
        have f0 : ∀ b : BW wr, b.w.cell? (ad.add k) = some (.string x) := fun b => b.cell c0
        have f1 : ∀ b : BW wr, b.w.cell? (ad'.add k) = some (.string y) := fun b => b.cell c0'
        have hkb : k < b.length := by omega
        by_cases he : x = y
        · have hd := str_t he
          have He := Lib.hid he
          clear he
          go_wp2_with fail
          refine wp_region_bw wr (Below.refl _ _) (by kernel_rfl) (by kernel_rfl) ?_
          repeat (go_big_quiet_step (fail))
          refine wpQuiet_nil ?_
          rintro _ ⟨bw, rfl⟩
          go_wp2
          go_roundw
          case rel => exact ⟨k + 1, by omega, by go_num, hbl.trans (bw.h.mono hbl.size), fun j hj => if e : j = k then by rw [e, Hx.out, Hy.out, He.out] else H.out j (by omega)⟩
          case measure => simp [intOf]; omega
        · have hd := str_f he
          have Hd : Hid (strsEq a b = false) := str_ne Hx.out Hy.out he
          clear he
          go_wp2_with fail
          refine wp_region_bw wr (Below.refl _ _) (by kernel_rfl) (by kernel_rfl) ?_
          repeat (go_big_quiet_step (fail))
          refine wpQuiet_nil ?_
          rintro _ ⟨bw, rfl⟩
          go_wp2
          go_ret
          exact ⟨ret_bool Hd.out.symm, hbl.trans (bw.h.mono hbl.size)⟩
      · obtain rfl : k = a.length := by omega
        go_wp2
        go_ret
        refine ⟨ret_bool ?_, hbl⟩
        have : a = b := List.ext_getElem? fun j => by
          by_cases hj : j < a.length
          · exact H.out j hj
          · rw [List.getElem?_eq_none (by omega), List.getElem?_eq_none (by have := Hne.out; omega)]
        rw [this, strsEq_self]
  · have h0 : ((a.length : Int) != (b.length : Int)) = true := by simp; omega
    have Hd : Hid (strsEq a b = false) := by show strsEq _ _ = _; unfold strsEq; simp; rintro rfl; exact hne rfl
    clear hne
    go_enter Try.func39, Try.ntmps39
    go_wp2
    go_ret
    exact ⟨ret_bool Hd.out.symm, Below.refl _ _⟩

/-- How many values and letters texts hold, of the first k. -/
def strSum (l : List Str) : Nat → Nat
  | 0 => 0
  | k + 1 => strSum l k + match l[k]? with | none => 0 | some x => x.size
def strBulk (l : List Str) : Nat := l.length + strSum l l.length
theorem strSum_succ {l : List Str} {k : Nat} {x : Str} (h : l[k]? = some x) : strSum l (k + 1) = strSum l k + x.size := by simp [strSum, h]
theorem strSum_mono (l : List Str) {i k : Nat} (h : i ≤ k) : strSum l i ≤ strSum l k := by
  induction h with
  | refl => exact Nat.le_refl _
  | step _ ih => exact Nat.le_trans ih (Nat.le_add_right _ _)
theorem strBulk_all {l : List Str} {b : Nat} (h : strBulk l ≤ b) : ∀ x ∈ l, x.size ≤ b := by
  intro x hx
  obtain ⟨k, hk, rfl⟩ := List.getElem_of_mem hx
  have h1 := strSum_succ (List.getElem?_eq_getElem hk)
  have h2 := strSum_mono l (show k + 1 ≤ l.length from hk)
  unfold strBulk at h
  omega
theorem strBulk_len (l : List Str) : l.length ≤ strBulk l := Nat.le_add_right _ _
end Go.Proofs.Ytdpmjohfjpohjaa
