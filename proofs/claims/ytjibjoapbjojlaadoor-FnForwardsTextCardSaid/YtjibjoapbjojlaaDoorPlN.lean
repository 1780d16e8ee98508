/-
  The laws' marks on plans and on letters.
-/
import Derived.Test.YtjibjoapbjojlaaDoorPlU
import Derived.Test.YtjibjoapbjojlaaDoorMkS
namespace Go.Proofs.YtjibjoapbjojlaaDoor
open Go.RowKit

/-- The marks of letter i. -/
def ltMk (k : Nat) (i : Nat) : Lt := (((k + 2 * i : Nat) : Int), mkTxt (k + 2 * i + 1))
def ltMks (k : Nat) (n : Nat) : List Lt := (List.range n).map (ltMk k)
theorem ltMks_len (k n : Nat) : (ltMks k n).length = n := by simp [ltMks]
theorem ltMks_at {k n i : Nat} (h : i < n) : (ltMks k n)[i]? = some (ltMk k i) := by simp [ltMks, h]
theorem ltMks_step {k n i : Nat} {l : List Lt} (hl : l.length = n) (h : i < n) : (ltMks k i ++ l.drop i).set i (ltMk k i) = ltMks k (i + 1) ++ l.drop (i + 1) := by
  rw [List.set_append_right _ _ (by rw [ltMks_len]; omega), ltMks_len, Nat.sub_self, List.drop_eq_getElem_cons (by omega), List.set_cons_zero]
  simp [ltMks, List.range_succ]

set_option maxHeartbeats 2000000 in
set_option maxRecDepth 100000 in
theorem lawMarkLetterS (A : Option Addr) (l : List Lt) (n cap k base : Nat) (w : World) (hn : n ≤ 16777216) (hk0 : 1 ≤ k) (hk : k ≤ 16777216) (h : Own w base 55 2 ltEnc (.slice A n cap) l) :
    Calls Tryd.prog 10 #[.slice A n cap, .int .i64 k] w fun e w' => e = .returned (.int .i64 (k + 2 * n : Nat)) ∧ Own w' base 55 2 ltEnc (.slice A n cap) (ltMks k n) ∧ w.grownBy w' (Value.slice A n cap).ownBlock := by
  have hlen := h.len
  have Hl := Lib.hid hlen
  have Ho := Lib.hid h
  clear h hlen
  go_enter Tryd.func10, Tryd.ntmps10
  go_wp2
  go_loopw [1, 5] (fun t i wr => ∃ j : Nat, j ≤ n ∧ i = .int .i64 j ∧ t = .int .i64 (k + 2 * j : Nat) ∧ Hid (w.grownBy wr (Value.slice A n cap).ownBlock) ∧ Hid (Own wr base 55 2 ltEnc (.slice A n cap) (ltMks k j ++ l.drop j))) (fun _ i _ => n - (intOf i).toNat)
  case atStart => exact ⟨0, Nat.zero_le _, rfl, rfl, World.grownBy.refl _ _, Ho.out⟩
  case round =>
    obtain ⟨j, hj, rfl, rfl, Hg, Hk⟩ := hrel
    clear Ho
    by_cases hlt : j < n
    · obtain ⟨g, rfl, hg1, hg2⟩ := Hk.out.head (by omega)
      have Hlen : Hid (n = (ltMks k j ++ l.drop j).length) := by show n = _; rw [List.length_append, ltMks_len, List.length_drop, ← Hl.out]; omega
      have Hz : Hid ((ltMks k j ++ l.drop j)[j]? = some (l[j]'(by have := Hl.out; omega))) := by
        show _ = _
        rw [List.getElem?_append_right (by rw [ltMks_len]; omega), ltMks_len, Nat.sub_self, List.getElem?_drop, List.getElem?_eq_getElem (by have := Hl.out; omega)]
        rfl
      obtain ⟨x, hx⟩ : ∃ x, x = l[j]'(by have := Hl.out; omega) := ⟨_, rfl⟩
      rw [← hx] at Hz
      clear hx
      obtain ⟨q0, q1⟩ := Hk.out.cell2 ltEnc_len Hlen.out Hz.out (j := 0) (by omega)
      rw [show (ltEnc x)[0]? = some (.int .i64 x.1) from rfl] at q0
      simp only [Nat.add_zero] at q0 q1
      have hr2 := (World.ownsRow.stored (show wr.ownsRow base 55 2 (.slice (some ⟨g, 0, none⟩) n cap) n ((ltMks k j ++ l.drop j).flatMap ltEnc) from by have := Hk.out; unfold Own at this; rw [← Hlen.out] at this; exact this) (j * 2) (.int .i64 ((k : Int) + 2 * (j : Int)))).1
      obtain ⟨u, hu⟩ : ∃ u, wr.cell? ⟨g, j * 2 + 1, none⟩ = some u := ⟨_, (Hk.out.cell2 ltEnc_len Hlen.out Hz.out (j := 1) (by omega)).1⟩
      have Hr2 := Lib.hid hr2
      clear hr2
      go_wp2_with fail
      have hg2' := grown_setCell (p := ⟨g, j * 2, none⟩) Hg.out (.inl rfl) (.int .i64 ((k : Int) + 2 * (j : Int)))
      have Hg2 := Lib.hid hg2'
      clear hg2'
      have huR : (wr.setCell ⟨g, j * 2, none⟩ (.int .i64 ((k : Int) + 2 * (j : Int)))).cell? ⟨g, j * 2 + 1, none⟩ = some u := by
        rw [World.cell?_setCell_other wr ⟨g, j * 2, none⟩ ⟨g, j * 2 + 1, none⟩ _ (by intro e; injection e; omega)]; exact hu
      generalize (wr.setCell ⟨g, j * 2, none⟩ (.int .i64 ((k : Int) + 2 * (j : Int)))) = w2 at *
      refine (markText_any _ _ (by omega) (by omega)).mono ?_
      rw [show ((k : Int) + 2 * (j : Int) + 1).toNat = k + 2 * j + 1 from by omega]
      rintro e w3 ⟨rfl, hb3⟩
      have ho3 := World.ownsRow.kept Hr2.out (below_grown hb3 none) (.inr (by simp [Value.ownBlock]))
      have q2 := below_cell hb3 huR
      have q3 : w3.frozen? ⟨g, j * 2 + 1, none⟩ = false := World.ownsRow.frozenAt ho3 _
      have Ho3 := Lib.hid ho3
      clear ho3 q0 q1 hu huR
      go_wp2
      go_roundw
      case rel =>
        refine ⟨j + 1, by omega, by go_num, by go_num, grown_setCell (p := ⟨g, j * 2 + 1, none⟩) (grown_of_below Hg2.out hb3) (.inl rfl) _, ?_⟩
        have := Own.of_raw2 ltEnc_len Hlen.out hlt (y := ltMk k j) rfl (World.ownsRow.stored Ho3.out (j * 2 + 1) (.string (mkTxt (k + 2 * j + 1)))).1
        rw [ltMks_step Hl.out.symm hlt] at this
        exact this
      case measure => simp [intOf]; omega
    · obtain rfl : j = n := by omega
      go_wp2
      go_ret
      refine ⟨rfl, ?_, Hg.out⟩
      have := Hk.out
      rw [List.drop_eq_nil_of_le (by have := Hl.out; omega), List.append_nil] at this
      exact this

set_option maxHeartbeats 2000000 in
set_option maxRecDepth 100000 in
theorem lawHeldLetterS (A : Option Addr) (n cap k : Nat) (w : World) (hn : n ≤ 16777216) (hk0 : 1 ≤ k) (hk : k ≤ 16777216) (h : Rd w 2 ltEnc A (ltMks k n)) :
    Calls Tryd.prog 11 #[.slice A n cap, .int .i64 k] w fun e w' => e = .returned (.int .i64 (k + 2 * n : Nat)) ∧ Below w.heap.size w w' := by
  have Hr := Lib.hid h
  clear h
  go_enter Tryd.func11, Tryd.ntmps11
  go_wp2
  go_loopw [1, 5] (fun t i wr => ∃ j : Nat, j ≤ n ∧ i = .int .i64 j ∧ t = .int .i64 (k + 2 * j : Nat) ∧ Below w.heap.size w wr) (fun _ i _ => n - (intOf i).toNat)
  case atStart => exact ⟨0, Nat.zero_le _, rfl, rfl, Below.refl _ _⟩
  case round =>
    obtain ⟨j, hj, rfl, rfl, hb⟩ := hrel
    by_cases hlt : j < n
    · obtain ⟨ad, rfl, hab, c0, c1⟩ := (Hr.out.below hb).two (ltMks_at hlt) (u := .int .i64 ((k : Int) + 2 * (j : Int))) (v := .string (mkTxt (k + 2 * j + 1))) (by show [_, _] = _; rw [show ((ltMk k j).1 : Int) = (k : Int) + 2 * (j : Int) from by show ((k + 2 * j : Nat) : Int) = _; omega]; rfl)
      have hqq : (((k : Int) + 2 * (j : Int)) != ((k : Int) + 2 * (j : Int))) = false := by simp
      have q2 := str_t (a := mkTxt (k + 2 * j + 1)) rfl
      go_wp2_with fail
      have f1 : ∀ b : BW wr, b.w.cell? ⟨(ad.add (j * 2)).block, (ad.add (j * 2)).off + 1, none⟩ = some (.string (mkTxt (k + 2 * j + 1))) := fun b => b.cell c1
      refine wp_region_bw wr (Below.refl _ _) (by kernel_rfl) (by kernel_rfl) ?_
      have hm1 : ∀ b : BW wr, Calls Tryd.prog 41 #[.int .i64 ((k : Int) + 2 * (j : Int) + 1)] b.w fun e w' => e = .returned (.string (mkTxt (k + 2 * j + 1))) ∧ Below b.w.heap.size b.w w' := fun b => by
        have := markText_any ((k : Int) + 2 * (j : Int) + 1) b.w (by omega) (by omega)
        rwa [show ((k : Int) + 2 * (j : Int) + 1).toNat = k + 2 * j + 1 from by omega] at this
      have Hm1 := Lib.hid hm1
      clear hm1
      repeat (go_big_quiet_step ((go_at_call 41; exact calls_bw (Hm1.out _))))
      refine wpQuiet_nil ?_
      rintro _ ⟨b', rfl⟩
      go_wp2
      go_roundw
      case rel => exact ⟨j + 1, by omega, by go_num, by go_num, hb.trans (b'.h.mono hb.size)⟩
      case measure => simp [intOf]; omega
    · obtain rfl : j = n := by omega
      go_wp2
      go_ret
      exact ⟨rfl, hb⟩
end Go.Proofs.YtjibjoapbjojlaaDoor
