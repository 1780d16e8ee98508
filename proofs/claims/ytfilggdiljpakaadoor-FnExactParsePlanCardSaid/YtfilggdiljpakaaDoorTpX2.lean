/-
  Exact law: ParsePlan. (Written by gen_exact.py.)
-/
import Derived.Test.YtfilggdiljpakaaDoorTpQ
namespace Go.Proofs.YtfilggdiljpakaaDoor
open Go.RowKit

set_option maxHeartbeats 8000000 in
set_option maxRecDepth 100000 in
theorem walkFnExactParsePlan (a0 : Str) (w : World) (hz0 : a0.size ≤ maxLen) :
    Calls Tryd.prog 8 #[.string a0] w fun e w' => e = .returned (.bool true) ∧ Below w.heap.size w w' := by
  unfold maxLen at hz0
  by_cases q0 : ¬ (a0.size : Int) ≤ 1048576
  · go_enter Tryd.func8, Tryd.ntmps8
    go_wp2
    go_ret
    exact ⟨rfl, Below.refl _ _⟩
  have q0 := Decidable.not_not.1 q0
  have H : Hid (Pool w (w) []) := Pool.nil_ w
  obtain ⟨r, hr⟩ : ∃ r, parR a0 = r := ⟨_, rfl⟩
  have hrl : r.l.length ≤ 1048576 := by rw [← hr]; exact Nat.le_trans (parR_len a0) (by omega)
  have Hv := Lib.hid hr
  clear hr
  have hvv : (r.ok != r.ok) = false := by simp
  go_enter Tryd.func8, Tryd.ntmps8
  go_wp2_with fail
  refine (specParsePlan a0 (by omega) _).mono ?_
  rw [Hv.out]
  rintro e w1 ⟨Aw, kw, cw, rfl, hkl, hp⟩
  have H : Hid (Pool w (w1) [subP Aw r.l]) := H.out.join hp
  have hkw : kw ≤ 1048576 := by omega
  have Hkl := Lib.hid hkl
  clear hp hkl
  have H : Hid (Pool w (w1.alloc (Obj.cells #[.int .i64 (r.b), .int .i64 (r.p), .slice Aw kw cw] 36)) [boxP (w1.heap.size) (.int .i64 (r.b)) (.int .i64 (r.p)) (.slice Aw kw cw), subP Aw r.l]) := H.out.addBox (by first | rfl | simp) _ _ _ _
  go_wp2_with fail
  refine (implParsePlan a0 (by omega) _).mono ?_
  rw [Hv.out]
  rintro e w2 ⟨Ag, kg, cg, rfl, ho, hb⟩
  have H : Hid (Pool w (w2) [ownP 9 1 strEnc (.slice Ag kg cg) (r.l), boxP (w1.heap.size) (.int .i64 (r.b)) (.int .i64 (r.p)) (.slice Aw kw cw), subP Aw r.l]) := H.out.addOwn hb ho
  clear ho hb
  have hkg : kg ≤ 1048576 := by have := (H.out.own 0 rfl).len; omega
  have H : Hid (Pool w (w2.alloc (Obj.cells #[.int .i64 (r.b), .int .i64 (r.p), .slice Ag kg cg] 36)) [boxP (w2.heap.size) (.int .i64 (r.b)) (.int .i64 (r.p)) (.slice Ag kg cg), ownP 9 1 strEnc (.slice Ag kg cg) (r.l), boxP (w1.heap.size) (.int .i64 (r.b)) (.int .i64 (r.p)) (.slice Aw kw cw), subP Aw r.l]) := H.out.addBox (by first | rfl | simp) _ _ _ _
  obtain ⟨-, ca0, ca1, ca2, -⟩ := H.out.box 0 rfl
  obtain ⟨-, da0, da1, da2, -⟩ := H.out.box 2 rfl
  go_wp2_with fail
  refine (lawEqPlan r.b r.p _ _ r.l _ _ _ _ (H.out.own 1 rfl).len Hkl.out _ (by omega) ((H.out.own 1 rfl).rd strEnc_len) (H.out.sub_rd 3 rfl)).mono ?_
  rintro e w3 ⟨rfl, hb⟩
  have H : Hid (Pool w (w3) [boxP (w2.heap.size) (.int .i64 (r.b)) (.int .i64 (r.p)) (.slice Ag kg cg), ownP 9 1 strEnc (.slice Ag kg cg) (r.l), boxP (w1.heap.size) (.int .i64 (r.b)) (.int .i64 (r.p)) (.slice Aw kw cw), subP Aw r.l]) := H.out.step hb
  clear hb
  clear ca0 ca1 ca2 da0 da1 da2
  obtain ⟨-, ca0, ca1, ca2, -⟩ := H.out.box 0 rfl
  go_wp2_with fail
  refine (lawMarkPlan r.b r.p _ (r.l) _ _ (1) _ _ (by omega) (by omega) (by omega) (H.out.own 1 rfl)).mono ?_
  rintro e w4 ⟨rfl, ho, hg⟩
  have H : Hid (Pool w (w4) [boxP (w2.heap.size) (.int .i64 (r.b)) (.int .i64 (r.p)) (.slice Ag kg cg), ownP 9 1 strEnc (.slice Ag kg cg) (strMks (1) kg), boxP (w1.heap.size) (.int .i64 (r.b)) (.int .i64 (r.p)) (.slice Aw kw cw), subP Aw r.l]) := H.out.turnOwn 1 rfl ho hg
  clear ho hg ca0 ca1 ca2
  obtain ⟨-, ca0, ca1, ca2, -⟩ := H.out.box 0 rfl
  go_wp2_with fail
  refine (lawHeldPlan r.b r.p _ _ _ (1) _ (by omega) (by omega) (by omega) ((H.out.own 1 rfl).rd strEnc_len)).mono ?_
  rintro e w5 ⟨rfl, hb⟩
  have H : Hid (Pool w (w5) [boxP (w2.heap.size) (.int .i64 (r.b)) (.int .i64 (r.p)) (.slice Ag kg cg), ownP 9 1 strEnc (.slice Ag kg cg) (strMks (1) kg), boxP (w1.heap.size) (.int .i64 (r.b)) (.int .i64 (r.p)) (.slice Aw kw cw), subP Aw r.l]) := H.out.step hb
  clear hb
  clear ca0 ca1 ca2
  have hqq : (((1 + kg : Nat) : Int) != ((1 + kg : Nat) : Int)) = false := by simp
  go_wp2_with fail
  refine (implParsePlan a0 (by omega) _).mono ?_
  rw [Hv.out]
  rintro e w6 ⟨Ah, kh, ch, rfl, ho, hb⟩
  have H : Hid (Pool w (w6) [ownP 9 1 strEnc (.slice Ah kh ch) (r.l), boxP (w2.heap.size) (.int .i64 (r.b)) (.int .i64 (r.p)) (.slice Ag kg cg), ownP 9 1 strEnc (.slice Ag kg cg) (strMks (1) kg), boxP (w1.heap.size) (.int .i64 (r.b)) (.int .i64 (r.p)) (.slice Aw kw cw), subP Aw r.l]) := H.out.addOwn hb ho
  clear ho hb
  have hkh : kh ≤ 1048576 := by have := (H.out.own 0 rfl).len; omega
  have H : Hid (Pool w (w6.alloc (Obj.cells #[.int .i64 (r.b), .int .i64 (r.p), .slice Ah kh ch] 36)) [boxP (w6.heap.size) (.int .i64 (r.b)) (.int .i64 (r.p)) (.slice Ah kh ch), ownP 9 1 strEnc (.slice Ah kh ch) (r.l), boxP (w2.heap.size) (.int .i64 (r.b)) (.int .i64 (r.p)) (.slice Ag kg cg), ownP 9 1 strEnc (.slice Ag kg cg) (strMks (1) kg), boxP (w1.heap.size) (.int .i64 (r.b)) (.int .i64 (r.p)) (.slice Aw kw cw), subP Aw r.l]) := H.out.addBox (by first | rfl | simp) _ _ _ _
  obtain ⟨-, ca0, ca1, ca2, -⟩ := H.out.box 0 rfl
  obtain ⟨-, da0, da1, da2, -⟩ := H.out.box 4 rfl
  go_wp2_with fail
  refine (lawEqPlan r.b r.p _ _ r.l _ _ _ _ (H.out.own 1 rfl).len Hkl.out _ (by omega) ((H.out.own 1 rfl).rd strEnc_len) (H.out.sub_rd 5 rfl)).mono ?_
  rintro e w7 ⟨rfl, hb⟩
  have H : Hid (Pool w (w7) [boxP (w6.heap.size) (.int .i64 (r.b)) (.int .i64 (r.p)) (.slice Ah kh ch), ownP 9 1 strEnc (.slice Ah kh ch) (r.l), boxP (w2.heap.size) (.int .i64 (r.b)) (.int .i64 (r.p)) (.slice Ag kg cg), ownP 9 1 strEnc (.slice Ag kg cg) (strMks (1) kg), boxP (w1.heap.size) (.int .i64 (r.b)) (.int .i64 (r.p)) (.slice Aw kw cw), subP Aw r.l]) := H.out.step hb
  clear hb
  clear ca0 ca1 ca2 da0 da1 da2
  obtain ⟨-, ca0, ca1, ca2, -⟩ := H.out.box 2 rfl
  go_wp2_with fail
  refine (lawHeldPlan r.b r.p _ _ _ (1) _ (by omega) (by omega) (by omega) ((H.out.own 3 rfl).rd strEnc_len)).mono ?_
  rintro e w8 ⟨rfl, hb⟩
  have H : Hid (Pool w (w8) [boxP (w6.heap.size) (.int .i64 (r.b)) (.int .i64 (r.p)) (.slice Ah kh ch), ownP 9 1 strEnc (.slice Ah kh ch) (r.l), boxP (w2.heap.size) (.int .i64 (r.b)) (.int .i64 (r.p)) (.slice Ag kg cg), ownP 9 1 strEnc (.slice Ag kg cg) (strMks (1) kg), boxP (w1.heap.size) (.int .i64 (r.b)) (.int .i64 (r.p)) (.slice Aw kw cw), subP Aw r.l]) := H.out.step hb
  clear hb
  clear ca0 ca1 ca2
  go_wp2
  go_ret
  exact ⟨rfl, H.out.below⟩
end Go.Proofs.YtfilggdiljpakaaDoor
