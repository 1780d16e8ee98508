/-
  The laws' marks on orders: markForwardS writes them, heldForwardS finds them again.
-/
import Derived.Test.YtfilggdiljpakaaDoorFwO
import Derived.Test.YtfilggdiljpakaaDoorMark
namespace Go.Proofs.YtfilggdiljpakaaDoor
open Go.RowKit

/-- The marks of order i. -/
def fwMk (k : Nat) (i : Nat) : Fw := (mkTxt (k + 2 * i), mkTxt (k + 2 * i + 1))
def fwMks (k : Nat) (n : Nat) : List Fw := (List.range n).map (fwMk k)
theorem fwMks_len (k n : Nat) : (fwMks k n).length = n := by simp [fwMks]
theorem fwMks_at {k n i : Nat} (h : i < n) : (fwMks k n)[i]? = some (fwMk k i) := by simp [fwMks, h]
theorem fwMks_step {k n i : Nat} {l : List Fw} (hl : l.length = n) (h : i < n) : (fwMks k i ++ l.drop i).set i (fwMk k i) = fwMks k (i + 1) ++ l.drop (i + 1) := by
  rw [List.set_append_right _ _ (by rw [fwMks_len]; omega), fwMks_len, Nat.sub_self, List.drop_eq_getElem_cons (by omega), List.set_cons_zero]
  simp [fwMks, List.range_succ]

set_option maxHeartbeats 2000000 in
set_option maxRecDepth 100000 in
theorem lawMarkForwardS (A : Option Addr) (l : List Fw) (n cap k base : Nat) (w : World) (hn : n ≤ 16777216) (hk0 : 1 ≤ k) (hk : k ≤ 16777216) (h : Own w base 84 2 fwEnc (.slice A n cap) l) :
    Calls Tryd.prog 32 #[.slice A n cap, .int .i64 k] w fun e w' => e = .returned (.int .i64 (k + 2 * n : Nat)) ∧ Own w' base 84 2 fwEnc (.slice A n cap) (fwMks k n) ∧ w.grownBy w' (Value.slice A n cap).ownBlock := by
  have hlen := h.len
  have Hl := Lib.hid hlen
  have Ho := Lib.hid h
  clear h hlen
  go_enter Tryd.func32, Tryd.ntmps32
  go_wp2
  go_loopw [1, 5] (fun t i wr => ∃ j : Nat, j ≤ n ∧ i = .int .i64 j ∧ t = .int .i64 (k + 2 * j : Nat) ∧ Hid (w.grownBy wr (Value.slice A n cap).ownBlock) ∧ Hid (Own wr base 84 2 fwEnc (.slice A n cap) (fwMks k j ++ l.drop j))) (fun _ i _ => n - (intOf i).toNat)
  case atStart => exact ⟨0, Nat.zero_le _, rfl, rfl, World.grownBy.refl _ _, Ho.out⟩
  case round =>
    obtain ⟨j, hj, rfl, rfl, Hg, Hk⟩ := hrel
    clear Ho
    by_cases hlt : j < n
    · obtain ⟨g, rfl, hg1, hg2⟩ := Hk.out.head (by omega)
      have Hlen : Hid (n = (fwMks k j ++ l.drop j).length) := by show n = _; rw [List.length_append, fwMks_len, List.length_drop, ← Hl.out]; omega
      have Hz : Hid ((fwMks k j ++ l.drop j)[j]? = some (l[j]'(by have := Hl.out; omega))) := by
        show _ = _
        rw [List.getElem?_append_right (by rw [fwMks_len]; omega), fwMks_len, Nat.sub_self, List.getElem?_drop, List.getElem?_eq_getElem (by have := Hl.out; omega)]
        rfl
      obtain ⟨x, hx⟩ : ∃ x, x = l[j]'(by have := Hl.out; omega) := ⟨_, rfl⟩
      rw [← hx] at Hz
      clear hx
      go_wp2_with fail
      refine (markText_any _ _ (by omega) (by omega)).mono ?_
      rw [show ((k : Int) + 2 * (j : Int)).toNat = k + 2 * j from by omega]
      rintro e w1 ⟨rfl, hb1⟩
      have ho1 := Hk.out.below hb1
      obtain ⟨q0, q1⟩ := ho1.cell2 fwEnc_len Hlen.out Hz.out (j := 0) (by omega)
      rw [show (fwEnc x)[0]? = some (.string x.1) from rfl] at q0
      simp only [Nat.add_zero] at q0 q1
      have hr2 := (World.ownsRow.stored (show w1.ownsRow base 84 2 (.slice (some ⟨g, 0, none⟩) n cap) n ((fwMks k j ++ l.drop j).flatMap fwEnc) from by have := ho1; unfold Own at this; rw [← Hlen.out] at this; exact this) (j * 2) (.string (mkTxt (k + 2 * j)))).1
      obtain ⟨u, hu⟩ : ∃ u, w1.cell? ⟨g, j * 2 + 1, none⟩ = some u := ⟨_, (ho1.cell2 fwEnc_len Hlen.out Hz.out (j := 1) (by omega)).1⟩
      have Ho1 := Lib.hid ho1
      have Hr2 := Lib.hid hr2
      clear ho1 hr2
      go_wp2_with fail
      have hg2' := grown_setCell (p := ⟨g, j * 2, none⟩) (grown_of_below Hg.out hb1) (.inl rfl) (.string (mkTxt (k + 2 * j)))
      have Hg2 := Lib.hid hg2'
      clear hg2'
      have huR : (w1.setCell ⟨g, j * 2, none⟩ (.string (mkTxt (k + 2 * j)))).cell? ⟨g, j * 2 + 1, none⟩ = some u := by
        rw [World.cell?_setCell_other w1 ⟨g, j * 2, none⟩ ⟨g, j * 2 + 1, none⟩ _ (by intro e; injection e; omega)]; exact hu
      generalize (w1.setCell ⟨g, j * 2, none⟩ (.string (mkTxt (k + 2 * j)))) = w2 at *
      refine (markText_any _ _ (by omega) (by omega)).mono ?_
      rw [show ((k : Int) + 2 * (j : Int) + 1).toNat = k + 2 * j + 1 from by omega]
      rintro e w3 ⟨rfl, hb3⟩
      have ho3 := World.ownsRow.kept Hr2.out (below_grown hb3 none) (.inr (by simp [Value.ownBlock]))
      have q2 := below_cell hb3 huR
      have q3 : w3.frozen? ⟨g, j * 2 + 1, none⟩ = false := World.ownsRow.frozenAt ho3 _
      have Ho3 := Lib.hid ho3
      clear ho3 q0 q1 hu huR
      go_wp2
      go_roundw
      case rel =>
        refine ⟨j + 1, by omega, by go_num, by go_num, grown_setCell (p := ⟨g, j * 2 + 1, none⟩) (grown_of_below Hg2.out hb3) (.inl rfl) _, ?_⟩
        have := Own.of_raw2 fwEnc_len Hlen.out hlt (y := fwMk k j) rfl (World.ownsRow.stored Ho3.out (j * 2 + 1) (.string (mkTxt (k + 2 * j + 1)))).1
        rw [fwMks_step Hl.out.symm hlt] at this
        exact this
      case measure => simp [intOf]; omega
    · obtain rfl : j = n := by omega
      go_wp2
      go_ret
      refine ⟨rfl, ?_, Hg.out⟩
      have := Hk.out
      rw [List.drop_eq_nil_of_le (by have := Hl.out; omega), List.append_nil] at this
      exact this

set_option maxHeartbeats 2000000 in
set_option maxRecDepth 100000 in
theorem lawHeldForwardS (A : Option Addr) (n cap k : Nat) (w : World) (hn : n ≤ 16777216) (hk0 : 1 ≤ k) (hk : k ≤ 16777216) (h : Rd w 2 fwEnc A (fwMks k n)) :
    Calls Tryd.prog 33 #[.slice A n cap, .int .i64 k] w fun e w' => e = .returned (.int .i64 (k + 2 * n : Nat)) ∧ Below w.heap.size w w' := by
  have Hr := Lib.hid h
  clear h
  go_enter Tryd.func33, Tryd.ntmps33
  go_wp2
  go_loopw [1, 5] (fun t i wr => ∃ j : Nat, j ≤ n ∧ i = .int .i64 j ∧ t = .int .i64 (k + 2 * j : Nat) ∧ Below w.heap.size w wr) (fun _ i _ => n - (intOf i).toNat)
  case atStart => exact ⟨0, Nat.zero_le _, rfl, rfl, Below.refl _ _⟩
  case round =>
    obtain ⟨j, hj, rfl, rfl, hb⟩ := hrel
    by_cases hlt : j < n
    · obtain ⟨ad, rfl, hab, c0, c1⟩ := (Hr.out.below hb).two (fwMks_at hlt) (u := .string (mkTxt (k + 2 * j))) (v := .string (mkTxt (k + 2 * j + 1))) rfl
      have f0 : ∀ b : BW wr, b.w.cell? (ad.add (j * 2)) = some (.string (mkTxt (k + 2 * j))) := fun b => b.cell c0
      have q1 := str_t (a := mkTxt (k + 2 * j)) rfl
      have q2 := str_t (a := mkTxt (k + 2 * j + 1)) rfl
      go_wp2_with fail
      refine wp_region_bw wr (Below.refl _ _) (by kernel_rfl) (by kernel_rfl) ?_
      have hm1 : ∀ b : BW wr, Calls Tryd.prog 52 #[.int .i64 ((k : Int) + 2 * (j : Int))] b.w fun e w' => e = .returned (.string (mkTxt (k + 2 * j))) ∧ Below b.w.heap.size b.w w' := fun b => by
        have := markText_any ((k : Int) + 2 * (j : Int)) b.w (by omega) (by omega)
        rwa [show ((k : Int) + 2 * (j : Int)).toNat = k + 2 * j from by omega] at this
      have Hm1 := Lib.hid hm1
      clear hm1
      repeat (go_big_quiet_step ((go_at_call 52; exact calls_bw (Hm1.out _))))
      refine wpQuiet_nil ?_
      rintro _ ⟨b, rfl⟩
      have hb2 := hb.trans (b.h.mono hb.size)
      have d1 := b.cell c1
      generalize b.w = W2 at *
      have f1 : ∀ b : BW W2, b.w.cell? ⟨(ad.add (j * 2)).block, (ad.add (j * 2)).off + 1, none⟩ = some (.string (mkTxt (k + 2 * j + 1))) := fun b => b.cell d1
      have hm1 : ∀ b : BW W2, Calls Tryd.prog 52 #[.int .i64 ((k : Int) + 2 * (j : Int) + 1)] b.w fun e w' => e = .returned (.string (mkTxt (k + 2 * j + 1))) ∧ Below b.w.heap.size b.w w' := fun b => by
        have := markText_any ((k : Int) + 2 * (j : Int) + 1) b.w (by omega) (by omega)
        rwa [show ((k : Int) + 2 * (j : Int) + 1).toNat = k + 2 * j + 1 from by omega] at this
      have Hm2 := Lib.hid hm1
      clear hm1 Hm1 f0 c0 c1
      go_wp2_with fail
      refine wp_region_bw W2 (Below.refl _ _) (by kernel_rfl) (by kernel_rfl) ?_
      repeat (go_big_quiet_step ((go_at_call 52; exact calls_bw (Hm2.out _))))
      refine wpQuiet_nil ?_
      rintro _ ⟨b', rfl⟩
      go_wp2
      go_roundw
      case rel => exact ⟨j + 1, by omega, by go_num, by go_num, hb2.trans (b'.h.mono hb2.size)⟩
      case measure => simp [intOf]; omega
    · obtain rfl : j = n := by omega
      go_wp2
      go_ret
      exact ⟨rfl, hb⟩
end Go.Proofs.YtfilggdiljpakaaDoor
