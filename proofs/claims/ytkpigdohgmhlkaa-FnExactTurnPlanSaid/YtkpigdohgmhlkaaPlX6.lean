/-
  Exact law whose result is a plan: TurnPlan. (Written by gen_plr.py.)
-/
import Derived.Test.YtkpigdohgmhlkaaPlY
namespace Go.Proofs.Ytkpigdohgmhlkaa
open Go.RowKit

set_option maxHeartbeats 4000000 in
set_option maxRecDepth 100000 in
theorem walkFnExactTurnPlan (b p : Int) (A : Option Addr) (l : List Str) (c : Nat) (w : World) (h : PlIn w b p A l c) :
    Calls Try.prog 6 #[.agg #[.int .i64 b, .int .i64 p, .slice A l.length c]] w fun e w' => e = .returned (.bool true) ∧ Below w.heap.size w w' := by
  obtain ⟨hlc, hcm, hs, hr⟩ := h
  have Hr := Lib.hid hr
  have Hs := Lib.hid hs
  have hlm : l.length ≤ 9223372036854775807 := by unfold maxLen at hcm; omega
  clear hr hs hcm
  have hbA := (Below.refl w.heap.size w).alloc (Nat.le_refl _) (Obj.cells #[.int .i64 b, .int .i64 p, .slice A l.length c] 24)
  have HB := Lib.hid hbA
  have B1 := Lib.hid (Box.of_heap (heap_new w (Obj.cells #[.int .i64 b, .int .i64 p, .slice A l.length c] 24)))
  clear hbA
  by_cases hb : ¬ (strBulk l : Int) ≤ 1048576
  · have Hlo := Lib.hid (leftOf_none hb)
    clear hb
    go_enter Try.func6, Try.ntmps6
    go_wp2_with (go_at_call 15; refine (lawSzPlan b p A l _ _ rfl 1048576 _ hlm Hs.out (by omega) (by omega) (Hr.out.below HB.out)).mono ?_; rw [Hlo.out]; rintro e w1 ⟨rfl, hbw⟩)
    go_ret
    exact ⟨rfl, below_step HB.out hbw⟩
  have hb := Decidable.not_not.1 hb
  have Hlo := Lib.hid (leftOf_some hb)
  have hn : l.length ≤ 1048576 := by have := strBulk_len l; omega
  have Ha := Lib.hid (strBulk_all (l := l) (b := 1048576) (by omega))
  obtain ⟨r, hr, hr0⟩ : ∃ r : Int, (1048576 : Int) - strBulk l = r ∧ 0 ≤ r := ⟨_, rfl, by omega⟩
  rw [hr] at Hlo
  clear hb hr
  obtain ⟨r, hr⟩ : ∃ r, turnR b p l = r := ⟨_, rfl⟩
  have hrl : r.l.length ≤ 1048576 := by rw [← hr]; exact turnR_len hn
  have Hv := Lib.hid hr
  clear hr
  have hvv : (r.ok != r.ok) = false := by simp
  go_enter Try.func6, Try.ntmps6
  go_wp2_with fail
  refine (lawSzPlan b p A l _ _ rfl 1048576 _ hlm Hs.out (by omega) (by omega) (Hr.out.below HB.out)).mono ?_
  rw [Hlo.out]
  rintro e w1 ⟨rfl, hb⟩
  have B1 := Lib.hid (B1.out.below hb)
  have HB := Lib.hid (below_step HB.out hb)
  clear hb
  obtain ⟨-, c0, c1, c2, -⟩ := B1.out
  go_wp2_with fail
  refine (lawToPlan b p A l _ _ rfl _ (by omega) (Hr.out.below HB.out)).mono ?_
  rintro e w2 ⟨g2, hg2, rfl, ho, hb⟩
  have B1 := Lib.hid (B1.out.below hb)
  have HB := Lib.hid (below_step HB.out hb)
  have O2 := Lib.hid ho
  clear ho hb c0 c1 c2
  go_wp2_with fail
  refine (specTurnPlan b p _ l _ _ rfl  _ (by omega) Ha.out (O2.out.rd strEnc_len)).mono ?_
  rw [Hv.out]
  rintro e w3 ⟨A3, k3, c3, rfl, ho, hb⟩
  have B1 := Lib.hid (B1.out.below hb)
  have HB := Lib.hid (below_step HB.out hb)
  have O3 := Lib.hid ho
  clear ho hb O2
  have hbA := (Below.refl w3.heap.size w3).alloc (Nat.le_refl _) (Obj.cells #[.int .i64 r.b, .int .i64 r.p, .slice A3 k3 c3] 27)
  have B1 := Lib.hid (B1.out.below hbA)
  have O3 := Lib.hid (O3.out.below hbA)
  have HB := Lib.hid (below_step HB.out hbA)
  have B4 := Lib.hid (Box.of_heap (heap_new w3 (Obj.cells #[.int .i64 r.b, .int .i64 r.p, .slice A3 k3 c3] 27)))
  clear hbA
  have D3 : Hid (∀ k, (Value.slice A3 k3 c3).ownBlock = some k → k < (w3.alloc (Obj.cells #[.int .i64 r.b, .int .i64 r.p, .slice A3 k3 c3] 27)).heap.size) := fun k e => (O3.out.lt k e).2
  have D4 : Hid (w3.heap.size < (w3.alloc (Obj.cells #[.int .i64 r.b, .int .i64 r.p, .slice A3 k3 c3] 27)).heap.size) := B4.out.lt
  have D1 : Hid (w.heap.size < (w3.alloc (Obj.cells #[.int .i64 r.b, .int .i64 r.p, .slice A3 k3 c3] 27)).heap.size) := B1.out.lt
  obtain ⟨-, c0, c1, c2, -⟩ := B1.out
  go_wp2_with fail
  refine (lawToPlan b p A l _ _ rfl _ (by omega) (Hr.out.below HB.out)).mono ?_
  rintro e w5 ⟨g5, hg5, rfl, ho, hb⟩
  have B1 := Lib.hid (B1.out.below hb)
  have O3 := Lib.hid (O3.out.below hb)
  have B4 := Lib.hid (B4.out.below hb)
  have HB := Lib.hid (below_step HB.out hb)
  have O5 := Lib.hid ho
  clear ho hb c0 c1 c2
  have d5 : g5 < w5.heap.size := (O5.out.lt g5 rfl).2
  have d1 : w.heap.size < g5 := Nat.lt_of_lt_of_le D1.out hg5
  have d4 : w3.heap.size < g5 := Nat.lt_of_lt_of_le D4.out hg5
  have E3 : Hid (∀ k, (Value.slice A3 k3 c3).ownBlock = some k → k < g5) := fun k e => Nat.lt_of_lt_of_le (D3.out k e) hg5
  clear hg5 D1 D4 D3
  have hbA := (Below.refl w5.heap.size w5).alloc (Nat.le_refl _) (Obj.cells #[.int .i64 b, .int .i64 p, .slice (some ⟨g5, 0, none⟩) l.length l.length] 27)
  have B1 := Lib.hid (B1.out.below hbA)
  have O3 := Lib.hid (O3.out.below hbA)
  have B4 := Lib.hid (B4.out.below hbA)
  have O5 := Lib.hid (O5.out.below hbA)
  have HB := Lib.hid (below_step HB.out hbA)
  have B6 := Lib.hid (Box.of_heap (heap_new w5 (Obj.cells #[.int .i64 b, .int .i64 p, .slice (some ⟨g5, 0, none⟩) l.length l.length] 27)))
  clear hbA
  go_wp2_with fail
  refine (implTurnPlan b p _ l _ _ rfl (Nat.le_refl _)  _ (by omega) Ha.out (O5.out.rd strEnc_len)).mono ?_
  rw [Hv.out]
  rintro e w7 ⟨A7, k7, c7, rfl, ho, hb⟩
  rw [World.size_alloc] at ho
  have B1 := Lib.hid (B1.out.below hb)
  have O3 := Lib.hid (O3.out.below hb)
  have B4 := Lib.hid (B4.out.below hb)
  have O5 := Lib.hid (O5.out.below hb)
  have B6 := Lib.hid (B6.out.below hb)
  have HB := Lib.hid (below_step HB.out hb)
  have O7 := Lib.hid ho
  clear ho hb
  have E7 : Hid (∀ k, (Value.slice A7 k7 c7).ownBlock = some k → w5.heap.size < k ∧ k < w7.heap.size) := fun k e => ⟨(O7.out.lt k e).1, (O7.out.lt k e).2⟩
  have d57 : w5.heap.size < w7.heap.size := B6.out.lt
  have hbA := (Below.refl w7.heap.size w7).alloc (Nat.le_refl _) (Obj.cells #[.int .i64 r.b, .int .i64 r.p, .slice A7 k7 c7] 27)
  have B1 := Lib.hid (B1.out.below hbA)
  have O3 := Lib.hid (O3.out.below hbA)
  have B4 := Lib.hid (B4.out.below hbA)
  have O5 := Lib.hid (O5.out.below hbA)
  have B6 := Lib.hid (B6.out.below hbA)
  have O7 := Lib.hid (O7.out.below hbA)
  have HB := Lib.hid (below_step HB.out hbA)
  have B7 := Lib.hid (Box.of_heap (heap_new w7 (Obj.cells #[.int .i64 r.b, .int .i64 r.p, .slice A7 k7 c7] 27)))
  clear hbA
  obtain ⟨-, c0, c1, c2, -⟩ := B7.out
  obtain ⟨-, d0, d1, d2, -⟩ := B4.out
  go_wp2_with fail
  refine (lawEqPlan r.b r.p _ _ r.l _ _ _ _ O7.out.len O3.out.len _ (by have := O7.out.len; omega) (O7.out.rd strEnc_len) (O3.out.rd strEnc_len)).mono ?_
  rintro e w8 ⟨rfl, hb⟩
  have B1 := Lib.hid (B1.out.below hb)
  have O3 := Lib.hid (O3.out.below hb)
  have B4 := Lib.hid (B4.out.below hb)
  have O5 := Lib.hid (O5.out.below hb)
  have B6 := Lib.hid (B6.out.below hb)
  have O7 := Lib.hid (O7.out.below hb)
  have B7 := Lib.hid (B7.out.below hb)
  have HB := Lib.hid (below_step HB.out hb)
  clear hb c0 c1 c2 d0 d1 d2
  obtain ⟨-, c0, c1, c2, -⟩ := B1.out
  obtain ⟨-, d0, d1', d2, -⟩ := B6.out
  have Hr8 := Lib.hid (Hr.out.below HB.out)
  go_wp2_with fail
  go_region_held3 (fun w' => w'.cell? ⟨w.heap.size, 0, none⟩ = some (.int .i64 b) ∧ w'.cell? ⟨w.heap.size, 1, none⟩ = some (.int .i64 p) ∧ w'.cell? ⟨w.heap.size, 2, none⟩ = some (.slice A l.length c) ∧ w'.cell? ⟨w5.heap.size, 0, none⟩ = some (.int .i64 b) ∧ w'.cell? ⟨w5.heap.size, 1, none⟩ = some (.int .i64 p) ∧ w'.cell? ⟨w5.heap.size, 2, none⟩ = some (.slice (some ⟨g5, 0, none⟩) l.length l.length))
    (first
      | exact ⟨c0, c1, c2, d0, d1', d2⟩
      | exact ⟨below_cell hb7 c0, below_cell hb7 c1, below_cell hb7 c2, below_cell hb7 d0, below_cell hb7 d1', below_cell hb7 d2⟩
      | exact ⟨below_cell (below_step hb7 hb8) c0, below_cell (below_step hb7 hb8) c1, below_cell (below_step hb7 hb8) c2, below_cell (below_step hb7 hb8) d0, below_cell (below_step hb7 hb8) d1', below_cell (below_step hb7 hb8) d2⟩)
    (first
      | (go_at_call 17; refine (lawToPlan b p A l _ _ rfl _ (by omega) (by first | exact Hr8.out)).mono ?_; rintro e w9 ⟨g9, hg9, rfl, ho9, hb7'⟩; have hb7 := below_undrew hb7')
      | (go_at_call 19; refine (lawEqPlan b p _ _ l _ _ _ _ rfl rfl _ (by omega) ((O5.out.below hb7).rd strEnc_len) (ho9.rd strEnc_len)).mono ?_; rintro e w10 ⟨rfl, hb8⟩))
  have hb := below_step hb7 hb8
  clear hb7 hb8 ho9 hg9
  have B1 := Lib.hid (B1.out.below hb)
  have O3 := Lib.hid (O3.out.below hb)
  have B4 := Lib.hid (B4.out.below hb)
  have O5 := Lib.hid (O5.out.below hb)
  have B6 := Lib.hid (B6.out.below hb)
  have O7 := Lib.hid (O7.out.below hb)
  have B7 := Lib.hid (B7.out.below hb)
  have HB := Lib.hid (below_step HB.out hb)
  clear hb c0 c1 c2 d0 d1' d2
  obtain ⟨-, c0, c1, c2, -⟩ := B6.out
  go_wp2_with fail
  refine (lawMarkPlan b p _ l _ _ 1 _ _ (by omega) (by omega) (by omega) O5.out).mono ?_
  rintro e w11 ⟨rfl, ho, hg⟩
  have hg : World.grownBy _ w11 (some g5) := hg
  have B1 := Lib.hid (B1.out.apart hg (by omega))
  have B4 := Lib.hid (B4.out.apart hg (by omega))
  have B6 := Lib.hid (B6.out.apart hg (by omega))
  have B7 := Lib.hid (B7.out.apart hg (by omega))
  have O3 := Lib.hid (O3.out.apart hg (fun k e => by have := E3.out k e; omega))
  have O7 := Lib.hid (O7.out.apart hg (fun k e => by have := E7.out k e; omega))
  have HB := Lib.hid (grown_below_at HB.out hg (by omega))
  clear ho hg O5 c0 c1 c2
  obtain ⟨-, c0, c1, c2, -⟩ := B7.out
  obtain ⟨-, d0, d1, d2, -⟩ := B4.out
  go_wp2_with fail
  refine (lawEqPlan r.b r.p _ _ r.l _ _ _ _ O7.out.len O3.out.len _ (by have := O7.out.len; omega) (O7.out.rd strEnc_len) (O3.out.rd strEnc_len)).mono ?_
  rintro e w12 ⟨rfl, hb⟩
  have B1 := Lib.hid (B1.out.below hb)
  have O3 := Lib.hid (O3.out.below hb)
  have B4 := Lib.hid (B4.out.below hb)
  have B6 := Lib.hid (B6.out.below hb)
  have O7 := Lib.hid (O7.out.below hb)
  have B7 := Lib.hid (B7.out.below hb)
  have HB := Lib.hid (below_step HB.out hb)
  clear hb c0 c1 c2 d0 d1 d2
  obtain ⟨-, c0, c1, c2, -⟩ := B7.out
  have hk7 : k7 ≤ 1048576 := by have := O7.out.len; omega
  go_wp2_with fail
  refine (lawMarkPlan r.b r.p _ r.l _ _ 1 _ _ (by omega) (by omega) (by omega) O7.out).mono ?_
  rintro e w13 ⟨rfl, ho, hg⟩
  have B1 := Lib.hid (B1.out.apartV hg (fun k e => by have := E7.out k e; omega))
  have B4 := Lib.hid (B4.out.apartV hg (fun k e => by have := E7.out k e; omega))
  have B7 := Lib.hid (B7.out.apartV hg (fun k e => by have := E7.out k e; omega))
  have O3 := Lib.hid (O3.out.apartV hg (fun k e e' => by have := E7.out k e; have := E3.out k e'; omega))
  have HB := Lib.hid (grown_below_v HB.out hg (fun k e => by have := E7.out k e; omega))
  have O7 := Lib.hid ho
  clear ho hg B6 c0 c1 c2
  obtain ⟨-, c0, c1, c2, -⟩ := B7.out
  go_wp2_with fail
  refine (lawHeldPlan r.b r.p _ _ _ 1 _ (by omega) (by omega) (by omega) (O7.out.rd strEnc_len)).mono ?_
  rintro e w14 ⟨rfl, hb⟩
  have B1 := Lib.hid (B1.out.below hb)
  have O3 := Lib.hid (O3.out.below hb)
  have B4 := Lib.hid (B4.out.below hb)
  have O7 := Lib.hid (O7.out.below hb)
  have B7 := Lib.hid (B7.out.below hb)
  have HB := Lib.hid (below_step HB.out hb)
  clear hb c0 c1 c2
  obtain ⟨-, c0, c1, c2, -⟩ := B1.out
  have hqq : (((1 + k7 : Nat) : Int) != ((1 + k7 : Nat) : Int)) = false := by simp
  go_wp2_with fail
  refine (lawToPlan b p A l _ _ rfl _ (by omega) (Hr.out.below HB.out)).mono ?_
  rintro e w15 ⟨g15, hg15, rfl, ho, hb⟩
  have B1 := Lib.hid (B1.out.below hb)
  have O3 := Lib.hid (O3.out.below hb)
  have B4 := Lib.hid (B4.out.below hb)
  have O7 := Lib.hid (O7.out.below hb)
  have B7 := Lib.hid (B7.out.below hb)
  have HB := Lib.hid (below_step HB.out hb)
  have O15 := Lib.hid ho
  clear ho hb c0 c1 c2
  go_wp2_with fail
  refine (implTurnPlan b p _ l _ _ rfl (Nat.le_refl _)  _ (by omega) Ha.out (O15.out.rd strEnc_len)).mono ?_
  rw [Hv.out]
  rintro e w16 ⟨A16, k16, c16, rfl, ho, hb⟩
  have B1 := Lib.hid (B1.out.below hb)
  have O3 := Lib.hid (O3.out.below hb)
  have B4 := Lib.hid (B4.out.below hb)
  have O7 := Lib.hid (O7.out.below hb)
  have B7 := Lib.hid (B7.out.below hb)
  have HB := Lib.hid (below_step HB.out hb)
  have O16 := Lib.hid ho
  clear ho hb O15
  have hbA := (Below.refl w16.heap.size w16).alloc (Nat.le_refl _) (Obj.cells #[.int .i64 r.b, .int .i64 r.p, .slice A16 k16 c16] 27)
  have B1 := Lib.hid (B1.out.below hbA)
  have O3 := Lib.hid (O3.out.below hbA)
  have B4 := Lib.hid (B4.out.below hbA)
  have O7 := Lib.hid (O7.out.below hbA)
  have B7 := Lib.hid (B7.out.below hbA)
  have O16 := Lib.hid (O16.out.below hbA)
  have HB := Lib.hid (below_step HB.out hbA)
  have B16 := Lib.hid (Box.of_heap (heap_new w16 (Obj.cells #[.int .i64 r.b, .int .i64 r.p, .slice A16 k16 c16] 27)))
  clear hbA
  obtain ⟨-, c0, c1, c2, -⟩ := B16.out
  obtain ⟨-, d0, d1, d2, -⟩ := B4.out
  go_wp2_with fail
  refine (lawEqPlan r.b r.p _ _ r.l _ _ _ _ O16.out.len O3.out.len _ (by have := O16.out.len; omega) (O16.out.rd strEnc_len) (O3.out.rd strEnc_len)).mono ?_
  rintro e w17 ⟨rfl, hb⟩
  have B1 := Lib.hid (B1.out.below hb)
  have O3 := Lib.hid (O3.out.below hb)
  have B4 := Lib.hid (B4.out.below hb)
  have O7 := Lib.hid (O7.out.below hb)
  have B7 := Lib.hid (B7.out.below hb)
  have O16 := Lib.hid (O16.out.below hb)
  have B16 := Lib.hid (B16.out.below hb)
  have HB := Lib.hid (below_step HB.out hb)
  clear hb c0 c1 c2 d0 d1 d2
  obtain ⟨-, c0, c1, c2, -⟩ := B7.out
  go_wp2_with fail
  refine (lawHeldPlan r.b r.p _ _ _ 1 _ (by omega) (by omega) (by omega) (O7.out.rd strEnc_len)).mono ?_
  rintro e w18 ⟨rfl, hb⟩
  have B1 := Lib.hid (B1.out.below hb)
  have O3 := Lib.hid (O3.out.below hb)
  have B4 := Lib.hid (B4.out.below hb)
  have O7 := Lib.hid (O7.out.below hb)
  have B7 := Lib.hid (B7.out.below hb)
  have O16 := Lib.hid (O16.out.below hb)
  have B16 := Lib.hid (B16.out.below hb)
  have HB := Lib.hid (below_step HB.out hb)
  clear hb c0 c1 c2
  go_wp2
  go_ret
  exact ⟨rfl, HB.out⟩
end Go.Proofs.Ytkpigdohgmhlkaa
