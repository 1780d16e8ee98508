/-
  Exact law: ParseBatch. (Written by gen_exact.py.)
-/
import Derived.Test.YtjibjoapbjojlaaDoorTbP
namespace Go.Proofs.YtjibjoapbjojlaaDoor
open Go.RowKit

set_option maxHeartbeats 8000000 in
set_option maxRecDepth 100000 in
theorem walkFnExactParseBatch (a0 : Str) (w : World) (hz0 : a0.size ≤ maxLen) (htb : Lib.TabIs Tryd.prog w "internal/strconv.uint64pow10" .u64 Lib.pow10Tab) :
    Calls Tryd.prog 3 #[.string a0] w fun e w' => e = .returned (.bool true) ∧ Below w.heap.size w w' := by
  unfold maxLen at hz0
  have HT := Lib.hid (tab_up htb)
  clear htb
  by_cases q0 : ¬ (a0.size : Int) ≤ 1048576
  · go_enter Tryd.func3, Tryd.ntmps3
    go_wp2
    go_ret
    exact ⟨rfl, Below.refl _ _⟩
  have q0 := Decidable.not_not.1 q0
  have H : Hid (Pool w (w) []) := Pool.nil_ w
  obtain ⟨r, hr⟩ : ∃ r, parseLt a0 = r := ⟨_, rfl⟩
  have hrl : r.1.length ≤ 1048576 := by rw [← hr]; exact parseLt_len a0
  have Hv := Lib.hid hr
  clear hr
  have hvv : (r.2 != r.2) = false := by simp
  go_enter Tryd.func3, Tryd.ntmps3
  go_wp2_with fail
  refine (specParseBatch a0 (by omega) _).mono ?_
  rw [Hv.out]
  rintro e w1 ⟨Aw, kw, cw, rfl, ho, hb⟩
  have H : Hid (Pool w (w1) [ownP 55 2 ltEnc (.slice Aw kw cw) (r.1)]) := H.out.addOwn hb ho
  clear ho hb
  have hkw : kw ≤ 1048576 := by have := (H.out.own 0 rfl).len; omega
  go_wp2_with fail
  refine (implParseBatch a0 (by omega) _ (HT.out.below H.out.below)).mono ?_
  rw [Hv.out]
  rintro e w2 ⟨Ag, kg, cg, rfl, ho, hb⟩
  have H : Hid (Pool w (w2) [ownP 55 2 ltEnc (.slice Ag kg cg) (r.1), ownP 55 2 ltEnc (.slice Aw kw cw) (r.1)]) := H.out.addOwn hb ho
  clear ho hb
  have hkg : kg ≤ 1048576 := by have := (H.out.own 0 rfl).len; omega
  go_wp2_with fail
  refine (lawEqLetterS _ _ (r.1) (r.1) _ _ _ _ (H.out.own 0 rfl).len (H.out.own 1 rfl).len _ (by first | omega | (have := (H.out.own 0 rfl).len; omega)) (by first | omega | (have := (H.out.own 1 rfl).len; omega)) ((H.out.own 0 rfl).rd ltEnc_len) ((H.out.own 1 rfl).rd ltEnc_len)).mono ?_
  rw [ltsEq_self]
  rintro e w3 ⟨rfl, hb⟩
  have H : Hid (Pool w (w3) [ownP 55 2 ltEnc (.slice Ag kg cg) (r.1), ownP 55 2 ltEnc (.slice Aw kw cw) (r.1)]) := H.out.step hb
  clear hb
  go_wp2_with fail
  refine (lawMarkLetterS _ (r.1) _ _ (1) _ _ (by omega) (by omega) (by omega) (H.out.own 0 rfl)).mono ?_
  rintro e w4 ⟨rfl, ho, hg⟩
  have H : Hid (Pool w (w4) [ownP 55 2 ltEnc (.slice Ag kg cg) (ltMks (1) kg), ownP 55 2 ltEnc (.slice Aw kw cw) (r.1)]) := H.out.turnOwn 0 rfl ho hg
  clear ho hg
  go_wp2_with fail
  refine (lawHeldLetterS _ _ _ (1) _ (by omega) (by omega) (by omega) ((H.out.own 0 rfl).rd ltEnc_len)).mono ?_
  rintro e w5 ⟨rfl, hb⟩
  have H : Hid (Pool w (w5) [ownP 55 2 ltEnc (.slice Ag kg cg) (ltMks (1) kg), ownP 55 2 ltEnc (.slice Aw kw cw) (r.1)]) := H.out.step hb
  clear hb
  have hqq : (((1 + 2 * kg : Nat) : Int) != ((1 + 2 * kg : Nat) : Int)) = false := by simp
  go_wp2_with fail
  refine (implParseBatch a0 (by omega) _ (HT.out.below H.out.below)).mono ?_
  rw [Hv.out]
  rintro e w6 ⟨Ah, kh, ch, rfl, ho, hb⟩
  have H : Hid (Pool w (w6) [ownP 55 2 ltEnc (.slice Ah kh ch) (r.1), ownP 55 2 ltEnc (.slice Ag kg cg) (ltMks (1) kg), ownP 55 2 ltEnc (.slice Aw kw cw) (r.1)]) := H.out.addOwn hb ho
  clear ho hb
  have hkh : kh ≤ 1048576 := by have := (H.out.own 0 rfl).len; omega
  go_wp2_with fail
  refine (lawEqLetterS _ _ (r.1) (r.1) _ _ _ _ (H.out.own 0 rfl).len (H.out.own 2 rfl).len _ (by first | omega | (have := (H.out.own 0 rfl).len; omega)) (by first | omega | (have := (H.out.own 2 rfl).len; omega)) ((H.out.own 0 rfl).rd ltEnc_len) ((H.out.own 2 rfl).rd ltEnc_len)).mono ?_
  rw [ltsEq_self]
  rintro e w7 ⟨rfl, hb⟩
  have H : Hid (Pool w (w7) [ownP 55 2 ltEnc (.slice Ah kh ch) (r.1), ownP 55 2 ltEnc (.slice Ag kg cg) (ltMks (1) kg), ownP 55 2 ltEnc (.slice Aw kw cw) (r.1)]) := H.out.step hb
  clear hb
  go_wp2_with fail
  refine (lawHeldLetterS _ _ _ (1) _ (by omega) (by omega) (by omega) ((H.out.own 1 rfl).rd ltEnc_len)).mono ?_
  rintro e w8 ⟨rfl, hb⟩
  have H : Hid (Pool w (w8) [ownP 55 2 ltEnc (.slice Ah kh ch) (r.1), ownP 55 2 ltEnc (.slice Ag kg cg) (ltMks (1) kg), ownP 55 2 ltEnc (.slice Aw kw cw) (r.1)]) := H.out.step hb
  clear hb
  go_wp2
  go_ret
  exact ⟨rfl, H.out.below⟩
end Go.Proofs.YtjibjoapbjojlaaDoor
