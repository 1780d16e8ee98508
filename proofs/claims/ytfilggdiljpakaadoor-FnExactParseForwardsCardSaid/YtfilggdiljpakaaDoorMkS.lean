/-
  The laws' marks on texts.
-/
import Derived.Test.YtfilggdiljpakaaDoorPlM
import Derived.Test.YtfilggdiljpakaaDoorMark
namespace Go.Proofs.YtfilggdiljpakaaDoor
open Go.RowKit

/-- The marks of texts. -/
def strMks (k : Nat) (n : Nat) : List Str := (List.range n).map fun i => mkTxt (k + i)
theorem strMks_len (k n : Nat) : (strMks k n).length = n := by simp [strMks]
theorem strMks_at {k n i : Nat} (h : i < n) : (strMks k n)[i]? = some (mkTxt (k + i)) := by simp [strMks, h]
theorem strMks_step {k n i : Nat} {l : List Str} (hl : l.length = n) (h : i < n) : (strMks k i ++ l.drop i).set i (mkTxt (k + i)) = strMks k (i + 1) ++ l.drop (i + 1) := by
  rw [List.set_append_right _ _ (by rw [strMks_len]; omega), strMks_len, Nat.sub_self, List.drop_eq_getElem_cons (by omega), List.set_cons_zero]
  simp [strMks, List.range_succ]

set_option maxHeartbeats 2000000 in
set_option maxRecDepth 100000 in
theorem lawMarkStringS (A : Option Addr) (l : List Str) (n cap k base : Nat) (w : World) (hn : n ≤ 16777216) (hk0 : 1 ≤ k) (hk : k ≤ 16777216) (h : Own w base 9 1 strEnc (.slice A n cap) l) :
    Calls Tryd.prog 77 #[.slice A n cap, .int .i64 k] w fun e w' => e = .returned (.int .i64 (k + n : Nat)) ∧ Own w' base 9 1 strEnc (.slice A n cap) (strMks k n) ∧ w.grownBy w' (Value.slice A n cap).ownBlock := by
  have hlen := h.len
  have Hl := Lib.hid hlen
  have Ho := Lib.hid h
  clear h hlen
  go_enter Tryd.func77, Tryd.ntmps77
  go_wp2
  go_loopw [1, 5] (fun t i wr => ∃ j : Nat, j ≤ n ∧ i = .int .i64 j ∧ t = .int .i64 (k + j : Nat) ∧ Hid (w.grownBy wr (Value.slice A n cap).ownBlock) ∧ Hid (Own wr base 9 1 strEnc (.slice A n cap) (strMks k j ++ l.drop j))) (fun _ i _ => n - (intOf i).toNat)
  case atStart => exact ⟨0, Nat.zero_le _, rfl, rfl, World.grownBy.refl _ _, Ho.out⟩
  case round =>
    obtain ⟨j, hj, rfl, rfl, Hg, Hk⟩ := hrel
    clear Ho
    by_cases hlt : j < n
    · obtain ⟨g, rfl, hg1, hg2⟩ := Hk.out.head (by omega)
      have Hlen : Hid (n = (strMks k j ++ l.drop j).length) := by show n = _; rw [List.length_append, strMks_len, List.length_drop, ← Hl.out]; omega
      have Hz : Hid ((strMks k j ++ l.drop j)[j]? = some (l[j]'(by have := Hl.out; omega))) := by
        show _ = _
        rw [List.getElem?_append_right (by rw [strMks_len]; omega), strMks_len, Nat.sub_self, List.getElem?_drop, List.getElem?_eq_getElem (by have := Hl.out; omega)]
        rfl
      obtain ⟨x, hx⟩ : ∃ x, x = l[j]'(by have := Hl.out; omega) := ⟨_, rfl⟩
      rw [← hx] at Hz
      clear hx
      go_wp2_with fail
      refine (markText_any _ _ (by omega) (by omega)).mono ?_
      rw [show ((k : Int) + (j : Int)).toNat = k + j from by omega]
      rintro e w1 ⟨rfl, hb1⟩
      have ho1 := Hk.out.below hb1
      obtain ⟨q0, q1⟩ := ho1.cell2 strEnc_len Hlen.out Hz.out (j := 0) (by omega)
      rw [show (strEnc x)[0]? = some (.string x) from rfl] at q0
      simp only [Nat.add_zero, Nat.mul_one] at q0 q1
      have Ho1 := Lib.hid ho1
      clear ho1
      go_wp2
      go_roundw
      case rel =>
        refine ⟨j + 1, by omega, by go_num, by go_num, grown_setCell (p := ⟨g, j, none⟩) (grown_of_below Hg.out hb1) (.inl rfl) _, ?_⟩
        have := Ho1.out.set1 strEnc_len Hlen.out hlt (y := mkTxt (k + j)) rfl
        rw [strMks_step Hl.out.symm hlt] at this
        exact this
      case measure => simp [intOf]; omega
    · obtain rfl : j = n := by omega
      go_wp2
      go_ret
      refine ⟨rfl, ?_, Hg.out⟩
      have := Hk.out
      rw [List.drop_eq_nil_of_le (by have := Hl.out; omega), List.append_nil] at this
      exact this

set_option maxHeartbeats 2000000 in
set_option maxRecDepth 100000 in
theorem lawHeldStringS (A : Option Addr) (n cap k : Nat) (w : World) (hn : n ≤ 16777216) (hk0 : 1 ≤ k) (hk : k ≤ 16777216) (h : Rd w 1 strEnc A (strMks k n)) :
    Calls Tryd.prog 78 #[.slice A n cap, .int .i64 k] w fun e w' => e = .returned (.int .i64 (k + n : Nat)) ∧ Below w.heap.size w w' := by
  have Hr := Lib.hid h
  clear h
  go_enter Tryd.func78, Tryd.ntmps78
  go_wp2
  go_loopw [1, 5] (fun t i wr => ∃ j : Nat, j ≤ n ∧ i = .int .i64 j ∧ t = .int .i64 (k + j : Nat) ∧ Below w.heap.size w wr) (fun _ i _ => n - (intOf i).toNat)
  case atStart => exact ⟨0, Nat.zero_le _, rfl, rfl, Below.refl _ _⟩
  case round =>
    obtain ⟨j, hj, rfl, rfl, hb⟩ := hrel
    by_cases hlt : j < n
    · obtain ⟨ad, rfl, hab, c0⟩ := (Hr.out.below hb).one (strMks_at hlt) (u := .string (mkTxt (k + j))) rfl
      have f0 : ∀ b : BW wr, b.w.cell? (ad.add j) = some (.string (mkTxt (k + j))) := fun b => b.cell c0
      have q1 := str_t (a := mkTxt (k + j)) rfl
      go_wp2_with fail
      refine wp_region_bw wr (Below.refl _ _) (by kernel_rfl) (by kernel_rfl) ?_
      have hm1 : ∀ b : BW wr, Calls Tryd.prog 52 #[.int .i64 ((k : Int) + (j : Int))] b.w fun e w' => e = .returned (.string (mkTxt (k + j))) ∧ Below b.w.heap.size b.w w' := fun b => by
        have := markText_any ((k : Int) + (j : Int)) b.w (by omega) (by omega)
        rwa [show ((k : Int) + (j : Int)).toNat = k + j from by omega] at this
      have Hm1 := Lib.hid hm1
      clear hm1
      repeat (go_big_quiet_step ((go_at_call 52; exact calls_bw (Hm1.out _))))
      refine wpQuiet_nil ?_
      rintro _ ⟨b, rfl⟩
      have hb2 := hb.trans (b.h.mono hb.size)
      go_wp2
      go_roundw
      case rel => exact ⟨j + 1, by omega, by go_num, by go_num, hb2⟩
      case measure => simp [intOf]; omega
    · obtain rfl : j = n := by omega
      go_wp2
      go_ret
      exact ⟨rfl, hb⟩
end Go.Proofs.YtfilggdiljpakaaDoor
