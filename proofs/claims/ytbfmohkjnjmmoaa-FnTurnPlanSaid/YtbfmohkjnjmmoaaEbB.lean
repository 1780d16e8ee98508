/-
  The laws' own helpers on plans and batches: equal plans, equal batches, letters turned, letters run through all passes, a letter found.
-/
import Derived.Test.YtbfmohkjnjmmoaaPsR
import Derived.Test.YtbfmohkjnjmmoaaEbP
namespace Go.Proofs.Ytbfmohkjnjmmoaa
open Go.RowKit

set_option maxHeartbeats 2000000 in
set_option maxRecDepth 100000 in
theorem soPlansSame (b p : Int) (A B : Option Addr) (l : List Str) (n c d : Nat) (hl : n = l.length) (w : World) (hn : n ≤ 16777216) (h : Rd w 1 strEnc A l) (h2 : Rd w 1 strEnc B l) :
    Calls Try.prog 25 #[.agg #[.int .i64 b, .int .i64 p, .slice A n c], .agg #[.int .i64 b, .int .i64 p, .slice B n d]] w fun e w' => e = .returned (.bool true) ∧ Below w.heap.size w w' := by
  have Hl := Lib.hid hl
  have Hr := Lib.hid h
  have Hs := Lib.hid h2
  have q1 : (b != b) = false := by simp
  have q2 : (p != p) = false := by simp
  have H : Hid (Pool w ((w.alloc (Obj.cells #[.int .i64 b, .int .i64 p, .slice A n c] 25)).alloc (Obj.cells #[.int .i64 b, .int .i64 p, .slice B n d] 25)) [boxP (w.heap.size + 1) (.int .i64 b) (.int .i64 p) (.slice B n d), boxP w.heap.size (.int .i64 b) (.int .i64 p) (.slice A n c)]) := ((Pool.nil_ w).addBox rfl _ _ _ _).addBox (by simp) _ _ _ _
  clear h h2 hl
  go_enter Try.func25, Try.ntmps25
  go_wp2
  go_loopw [5] (fun i wr => ∃ j : Nat, j ≤ n ∧ i = .int .i64 j ∧ Hid (Pool w wr [boxP (w.heap.size + 1) (.int .i64 b) (.int .i64 p) (.slice B n d), boxP w.heap.size (.int .i64 b) (.int .i64 p) (.slice A n c)])) (fun i _ => n - (intOf i).toNat)
  case atStart => exact ⟨0, Nat.zero_le _, rfl, H.out⟩
  case round =>
    clear H
    obtain ⟨j, hj, rfl, H⟩ := hrel
    obtain ⟨-, d0, d1, d2, -⟩ := H.out.box 0 rfl
    obtain ⟨-, c0, c1, c2, -⟩ := H.out.box 1 rfl
    by_cases hlt : j < n
    · obtain ⟨x, hx⟩ : ∃ x, l[j]? = some x := ⟨_, List.getElem?_eq_getElem (by have := Hl.out; omega)⟩
      obtain ⟨ad, rfl, hab, e0⟩ := (Hr.out.below H.out.below).one hx rfl
      obtain ⟨bd, rfl, hbb, f0⟩ := (Hs.out.below H.out.below).one hx rfl
      have hq := str_t (a := x) rfl
      clear hx
      go_wp2
      go_quiet (fail)
      go_wp2
      go_roundw
      case rel => exact ⟨j + 1, by omega, by go_num, H.out.drew _⟩
      case measure => simp [intOf]; omega
    · obtain rfl : j = n := by omega
      go_wp2
      go_ret
      exact ⟨rfl, H.out.below⟩

set_option maxHeartbeats 1000000 in
set_option maxRecDepth 100000 in
theorem soBatchSame (A B : Option Addr) (l : List Lt) (n c d : Nat) (hl : n = l.length) (w : World) (hn : n ≤ 16777216) (h : Rd w 2 ltEnc A l) (h2 : Rd w 2 ltEnc B l) :
    Calls Try.prog 28 #[.slice A n c, .slice B n d] w fun e w' => e = .returned (.bool true) ∧ Below w.heap.size w w' := by
  have Hl := Lib.hid hl
  have Hr := Lib.hid h
  have Hs := Lib.hid h2
  clear h h2 hl
  go_enter Try.func28, Try.ntmps28
  go_wp2
  go_loopw [5] (fun i wr => ∃ j : Nat, j ≤ n ∧ i = .int .i64 j ∧ Below w.heap.size w wr) (fun i _ => n - (intOf i).toNat)
  case atStart => exact ⟨0, Nat.zero_le _, rfl, Below.refl _ _⟩
  case round =>
    obtain ⟨j, hj, rfl, hb⟩ := hrel
    by_cases hlt : j < n
    · obtain ⟨x, hx⟩ : ∃ x, l[j]? = some x := ⟨_, List.getElem?_eq_getElem (by have := Hl.out; omega)⟩
      obtain ⟨ad, rfl, hab, c0, c1⟩ := (Hr.out.below hb).two hx rfl
      obtain ⟨bd, rfl, hbb, d0, d1⟩ := (Hs.out.below hb).two hx rfl
      clear hx
      go_wp2
      go_quiet (fail)
      go_wp2
      go_roundw
      case rel => exact ⟨j + 1, by omega, by go_num, below_drewN hb _⟩
      case measure => simp [intOf]; omega
    · obtain rfl : j = n := by omega
      go_wp2
      go_ret
      exact ⟨rfl, hb⟩

theorem rev_step {α : Type} {l : List α} {j : Nat} {x : α} (hx : l[j]? = some x) : (l.drop (j + 1)).reverse ++ [x] = (l.drop j).reverse := by
  obtain ⟨h, rfl⟩ := List.getElem?_eq_some_iff.1 hx
  rw [List.drop_eq_getElem_cons h, List.reverse_cons]

set_option maxHeartbeats 2000000 in
set_option maxRecDepth 100000 in
theorem soTurnedC (A : Option Addr) (l : List Lt) (n c : Nat) (hl : n = l.length) (w : World) (hn : n ≤ 1048576) (h : Rd w 2 ltEnc A l) :
    Calls Try.prog 32 #[.slice A n c] w fun e w' => ∃ A' c', e = .returned (.slice A' n c') ∧ Own w' w.heap.size 42 2 ltEnc (.slice A' n c') l.reverse ∧ Below w.heap.size w w' := by
  have Hl := Lib.hid hl
  have Hr := Lib.hid h
  have H : Hid (Pool w (w.alloc (Obj.cells #[] 42)) [ownP 42 2 ltEnc (.slice (some ⟨w.heap.size, 0, none⟩) 0 0) []]) := (Pool.nil_ w).addOwn ((Below.refl _ _).alloc (Nat.le_refl _) _) (Own.lit0 w 42 2 ltEnc)
  clear h hl
  go_enter Try.func32, Try.ntmps32
  go_wp2_with fail
  go_loopw [3, 4] (fun s i wr => ∃ (j : Nat) (q : Int) (A1 : Option Addr) (c1 : Nat), j ≤ n ∧ q + 1 ≤ j ∧ (j : Int) ≤ q + 1 ∧ i = .int .i64 q ∧ s = .slice A1 (n - j) c1 ∧ Hid (Pool w wr [ownP 42 2 ltEnc (.slice A1 (n - j) c1) (l.drop j).reverse])) (fun _ i _ => (intOf i + 1).toNat)
  case atStart => exact ⟨n, _, _, 0, Nat.le_refl _, by omega, by omega, rfl, by rw [Nat.sub_self], by rw [Nat.sub_self, List.drop_of_length_le (by have := Hl.out; omega)]; exact H.out⟩
  case round =>
    clear H
    obtain ⟨j, q, A1, c1, hj, hq1, hq2, rfl, rfl, H⟩ := hrel
    by_cases hlt : 0 ≤ q
    · obtain ⟨j, rfl⟩ : ∃ i, j = i + 1 := ⟨j - 1, by omega⟩
      obtain rfl : q = (j : Int) := by omega
      obtain ⟨k, hk⟩ : ∃ k, n - (j + 1) = k := ⟨_, rfl⟩
      have hk2 : n - j = k + 1 := by omega
      obtain ⟨x, hx⟩ : ∃ x, l[j]? = some x := ⟨_, List.getElem?_eq_getElem (by have := Hl.out; omega)⟩
      have Hst := Lib.hid (rev_step hx)
      obtain ⟨ad, rfl, hab, e0, e1⟩ := (Hr.out.below H.out.below).two hx rfl
      rw [hk] at H
      simp only [hk]
      have hlk := (H.out.own 0 rfl).len
      obtain ⟨y, hy⟩ : ∃ y, (l.drop (j + 1)).reverse = y := ⟨_, rfl⟩
      rw [hy] at H hlk Hst
      have Hlk := Lib.hid hlk
      have hjn : (j : Int) < (n : Int) := by omega
      have Hk2 := Lib.hid hk2
      have hkn : k ≤ 1048576 := by omega
      clear hx hk hy hlk hk2
      go_wp2_with (at_builtin; refine wpList_append1L (.tmp 13) (.tmp 18) 40 42 lt_info Try.underlying40 rfl (by decide) rfl rfl x rfl Hlk.out ((H.out.alloc _).own 0 rfl) rfl ltEnc_len (ltEnc_cells x rfl) (ltEnc_one x) (by omega) (by omega) (Nat.zero_le _) ?_; intro g3 c3 w3 ho3 hg3 hat3)
      have H3 : Hid (Pool w w3 [ownP 42 2 ltEnc (.slice (some ⟨g3, 0, none⟩) (k + 1) c3) (y ++ [x])]) := (H.out.alloc (Obj.cells #[.int .i64 x.1, .string x.2] 42)).append 0 rfl ho3 hg3 (fun q e => by injection e with e; subst e; exact hat3)
      rw [Hst.out] at H3
      go_roundw
      case rel => exact ⟨j, (j : Int) - 1, _, c3, by omega, by omega, by omega, by go_num, by rw [Hk2.out], by rw [Hk2.out]; exact H3.out⟩
      case measure => simp [intOf]
    · obtain rfl : j = 0 := by omega
      go_wp2
      go_ret
      exact ⟨A1, c1, rfl, by have := H.out.res 0 rfl; simpa using this, H.out.below⟩

set_option maxHeartbeats 1000000 in
set_option maxRecDepth 100000 in
theorem soRunC (b p : Int) (A D : Option Addr) (l : List Str) (m : List Lt) (n cap k capm : Nat) (hl : n = l.length) (hk : k = m.length) (hcap : n ≤ cap) (hcapm : k ≤ capm) (w : World) (hn : n ≤ 1048576) (hkn : k ≤ 1048576) (hs : ∀ x ∈ l, x.size ≤ 1048576) (hsm : ∀ x ∈ m, x.2.size ≤ 1048576) (h : Rd w 1 strEnc A l) (hm : Rd w 2 ltEnc D m) :
    Calls Try.prog 27 #[.agg #[.int .i64 b, .int .i64 p, .slice A n cap], .slice D k capm] w fun e w' => ∃ A' n' c', e = .returned (.slice A' n' c') ∧ Own w' w.heap.size 42 2 ltEnc (.slice A' n' c') (runR b p l m).f ∧ Below w.heap.size w w' := by
  have Hl := Lib.hid hl
  have Hk := Lib.hid hk
  have Hr := Lib.hid h
  have Hm := Lib.hid hm
  have Hs := Lib.hid hs
  have Hsm := Lib.hid hsm
  have H : Hid (Pool w (w.alloc (Obj.cells #[.int .i64 b, .int .i64 p, .slice A n cap] 25)) [boxP w.heap.size (.int .i64 b) (.int .i64 p) (.slice A n cap)]) := (Pool.nil_ w).addBox rfl _ _ _ _
  clear h hs hl hk hm hsm
  obtain ⟨-, c0, c1, c2, -⟩ := H.out.box 0 rfl
  obtain ⟨r, hr⟩ : ∃ r, runR b p l m = r := ⟨_, rfl⟩
  rw [hr]
  have HR := Lib.hid hr
  clear hr
  go_enter Try.func27, Try.ntmps27
  go_wp2_with fail
  refine (implRunPlan b p A D l m _ _ _ _ Hl.out Hk.out hcap hcapm _ hn hkn Hs.out Hsm.out (Hr.out.below H.out.below) (Hm.out.below H.out.below)).mono ?_
  rw [HR.out]
  rintro e w1 ⟨A1, n1, c1', A2, n2, c2', rfl, ho, -, -, hb⟩
  have H1 : Hid (Pool w w1 [ownP 42 2 ltEnc (.slice A1 n1 c1') r.f, boxP w.heap.size (.int .i64 b) (.int .i64 p) (.slice A n cap)]) := H.out.addOwn hb ho
  clear ho hb c0 c1 c2
  go_wp2
  go_ret
  exact ⟨A1, n1, c1', rfl, H1.out.res 0 rfl, H1.out.below⟩
end Go.Proofs.Ytbfmohkjnjmmoaa
