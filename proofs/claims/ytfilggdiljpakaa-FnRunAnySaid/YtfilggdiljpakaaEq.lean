/-
  What the laws on drawn plans lean on: digits of a rank. No function of the program is named here.
  The laws' own helpers on plans and batches: equal plans, equal batches, letters turned, letters run through all passes, a letter found.
  A round turned: plain laws on plans, batches and all passes. No function of the program is named here.
  The laws' own helpers on batches: are two equal, where does a letter stand, has one all letters of another?
-/
import Derived.Test.YtfilggdiljpakaaDq1
import Derived.Test.YtfilggdiljpakaaRnd
import Derived.Test.YtfilggdiljpakaaPsR
namespace Go.Proofs.Ytfilggdiljpakaa

section
open Go.RowKit

theorem dig_step {b k : Int} (hb : 2 ≤ b) (hb2 : b ≤ 16) {j : Nat} (hj : j ≤ 3) : k / pw b (j + 1) * b + k / pw b j % b = k / pw b j := by
  have h1 := (pw_bd b j hb hb2 (by omega)).1
  rw [pw_succ, ← Int.ediv_ediv_of_nonneg (by omega)]
  exact Int.ediv_mul_add_emod _ _
theorem dig_top {b k : Int} {j : Nat} (h0 : 0 ≤ k) (h : k < pw b j) : k / pw b j = 0 := Int.ediv_eq_zero_of_lt h0 h
theorem dig_bd {b k : Int} (hb : 2 ≤ b) (hb2 : b ≤ 16) (h0 : 0 ≤ k) (h1 : k ≤ 60) {j : Nat} (hj : j ≤ 4) : 0 ≤ k / pw b j ∧ k / pw b j ≤ 60 := by
  have h2 := (pw_bd b j hb hb2 hj).1
  exact ⟨Int.ediv_nonneg h0 (by omega), Int.le_trans (Int.ediv_le_self _ h0) h1⟩
theorem rank_cases {b p : Int} {l : List Str} {c : Str} {v : Int} (h : rankOf b p l c = v) : v < 0 ∨ ∃ k : Nat, v = k ∧ planOk b p l = true ∧ strIdx l c = some k ∧ k < l.length := by
  unfold rankOf at h
  cases hp : planOk b p l
  · rw [hp] at h; left; rw [← h]; show (-1 : Int) < 0; decide
  · rw [hp] at h
    have h : idxInt (strIdx l c) = v := h
    cases hx : strIdx l c with
    | none => rw [hx] at h; left; rw [← h]; show (-1 : Int) < 0; decide
    | some k => rw [hx] at h; right; exact ⟨k, h.symm, rfl, rfl, strIdx_lt hx⟩
theorem planBin_some {b p : Int} {l : List Str} {c : Str} {k j : Nat} (hp : planOk b p l = true) (hx : strIdx l c = some k) (hj : (j : Int) < p) : planBinOf b p l c j = (k : Int) / pw b j % b := by
  unfold planBinOf passOk
  rw [hp, show decide (0 ≤ (j : Int) ∧ (j : Int) < p) = true from decide_eq_true ⟨by omega, hj⟩]
  show binVal b l c j = _
  unfold binVal
  rw [hx, Int.toNat_natCast]
end

section
open Go.RowKit

set_option maxHeartbeats 1000000 in
set_option maxRecDepth 100000 in
theorem soBatchSame (A B : Option Addr) (l : List Lt) (n c d : Nat) (hl : n = l.length) (w : World) (hn : n ≤ 16777216) (h : Rd w 2 ltEnc A l) (h2 : Rd w 2 ltEnc B l) :
    Calls Try.prog 10 #[.slice A n c, .slice B n d] w fun e w' => e = .returned (.bool true) ∧ Below w.heap.size w w' := by
  have Hl := Lib.hid hl
  have Hr := Lib.hid h
  have Hs := Lib.hid h2
  clear h h2 hl
  go_enter Try.func10, Try.ntmps10
  go_wp2
  go_loopw [5] (fun i wr => ∃ j : Nat, j ≤ n ∧ i = .int .i64 j ∧ Below w.heap.size w wr) (fun i _ => n - (intOf i).toNat)
  case atStart => exact ⟨0, Nat.zero_le _, rfl, Below.refl _ _⟩
  case round =>
    obtain ⟨j, hj, rfl, hb⟩ := hrel
    by_cases hlt : j < n
    · obtain ⟨x, hx⟩ : ∃ x, l[j]? = some x := ⟨_, List.getElem?_eq_getElem (by have := Hl.out; omega)⟩
      obtain ⟨ad, rfl, hab, c0, c1⟩ := (Hr.out.below hb).two hx rfl
      obtain ⟨bd, rfl, hbb, d0, d1⟩ := (Hs.out.below hb).two hx rfl
      clear hx
      go_wp2
      go_quiet (fail)
      go_wp2
      go_roundw
      case rel => exact ⟨j + 1, by omega, by go_num, below_drewN hb _⟩
      case measure => simp [intOf]; omega
    · obtain rfl : j = n := by omega
      go_wp2
      go_ret
      exact ⟨rfl, hb⟩

theorem rev_step {α : Type} {l : List α} {j : Nat} {x : α} (hx : l[j]? = some x) : (l.drop (j + 1)).reverse ++ [x] = (l.drop j).reverse := by
  obtain ⟨h, rfl⟩ := List.getElem?_eq_some_iff.1 hx
  rw [List.drop_eq_getElem_cons h, List.reverse_cons]

set_option maxHeartbeats 1000000 in
set_option maxRecDepth 100000 in
theorem soRunC (b p : Int) (A D : Option Addr) (l : List Str) (m : List Lt) (n cap k capm : Nat) (hl : n = l.length) (hk : k = m.length) (hcap : n ≤ cap) (hcapm : k ≤ capm) (w : World) (hn : n ≤ 1048576) (hkn : k ≤ 1048576) (hs : ∀ x ∈ l, x.size ≤ 1048576) (hsm : ∀ x ∈ m, x.2.size ≤ 1048576) (h : Rd w 1 strEnc A l) (hm : Rd w 2 ltEnc D m) :
    Calls Try.prog 16 #[.agg #[.int .i64 b, .int .i64 p, .slice A n cap], .slice D k capm] w fun e w' => ∃ A' n' c', e = .returned (.slice A' n' c') ∧ Own w' w.heap.size 41 2 ltEnc (.slice A' n' c') (runR b p l m).f ∧ Below w.heap.size w w' := by
  have Hl := Lib.hid hl
  have Hk := Lib.hid hk
  have Hr := Lib.hid h
  have Hm := Lib.hid hm
  have Hs := Lib.hid hs
  have Hsm := Lib.hid hsm
  have H : Hid (Pool w (w.alloc (Obj.cells #[.int .i64 b, .int .i64 p, .slice A n cap] 35)) [boxP w.heap.size (.int .i64 b) (.int .i64 p) (.slice A n cap)]) := (Pool.nil_ w).addBox rfl _ _ _ _
  clear h hs hl hk hm hsm
  obtain ⟨-, c0, c1, c2, -⟩ := H.out.box 0 rfl
  obtain ⟨r, hr⟩ : ∃ r, runR b p l m = r := ⟨_, rfl⟩
  rw [hr]
  have HR := Lib.hid hr
  clear hr
  go_enter Try.func16, Try.ntmps16
  go_wp2_with fail
  refine (implRunPlan b p A D l m _ _ _ _ Hl.out Hk.out hcap hcapm _ hn hkn Hs.out Hsm.out (Hr.out.below H.out.below) (Hm.out.below H.out.below)).mono ?_
  rw [HR.out]
  rintro e w1 ⟨A1, n1, c1', A2, n2, c2', rfl, ho, -, -, hb⟩
  have H1 : Hid (Pool w w1 [ownP 41 2 ltEnc (.slice A1 n1 c1') r.f, boxP w.heap.size (.int .i64 b) (.int .i64 p) (.slice A n cap)]) := H.out.addOwn hb ho
  clear ho hb c0 c1 c2
  go_wp2
  go_ret
  exact ⟨A1, n1, c1', rfl, H1.out.res 0 rfl, H1.out.below⟩
end

section
open Go.RowKit

theorem cds_iff (l : List Str) : cdsOk l = true ↔ (∀ x ∈ l, codeOk x = true) ∧ l.Nodup := by
  constructor
  · intro h
    refine ⟨fun x hx => ?_, cdsOk_nodup h⟩
    obtain ⟨i, hi, rfl⟩ := List.getElem_of_mem hx
    have := (cdsOk_iff l).1 h i hi
    rw [cdOkAt_eq (List.getElem?_eq_getElem hi), Bool.and_eq_true] at this
    exact this.1
  · rintro ⟨h1, h2⟩
    refine (cdsOk_iff l).2 fun i hi => ?_
    rw [cdOkAt_eq (List.getElem?_eq_getElem hi), Bool.and_eq_true, Option.isNone_iff_eq_none]
    refine ⟨h1 _ (List.getElem_mem hi), strIdx_none.2 fun j x hx e => ?_⟩
    rw [List.getElem?_take] at hx
    split at hx
    · rename_i hji
      obtain ⟨hj, rfl⟩ := List.getElem?_eq_some_iff.1 hx
      rw [List.nodup_iff_pairwise_ne, List.pairwise_iff_getElem] at h2
      exact h2 j i hj hi hji e
    · cases hx
theorem plan_reverse {b p : Int} {l : List Str} (h : planOk b p l = true) : planOk b p l.reverse = true := by
  have hc : cdsOk l.reverse = true := by
    have := (cds_iff l).1 (planOk_parts h).2.2.2.2
    exact (cds_iff _).2 ⟨fun x hx => this.1 x (List.mem_reverse.1 hx), (List.reverse_perm l).nodup_iff.2 this.2⟩
  unfold planOk at h ⊢
  rw [List.length_reverse, hc]
  simp only [Bool.and_eq_true] at h ⊢
  first | exact ⟨h.1, rfl⟩ | exact h.1 | exact ⟨h.1, trivial⟩
theorem plan_nodup {b p : Int} {l : List Str} (h : planOk b p l = true) : l.Nodup := cdsOk_nodup (planOk_parts h).2.2.2.2
/-- What all passes of a plan leave. -/
theorem run_round {b p : Int} {l : List Str} {m : List Lt} (h : planOk b p l = true) (hm : batchOk m = true) : runR b p l m = ⟨roundOf l m, m.filter fun x => !(strIdx l x.2).isSome, true⟩ := by
  obtain ⟨⟨hb1, hb2⟩, ⟨hp1, hp2⟩, -, hcap, -⟩ := planOk_parts h
  obtain ⟨B, rfl⟩ : ∃ B : Nat, b = B := ⟨b.toNat, by omega⟩
  obtain ⟨E, rfl⟩ : ∃ E : Nat, p = E := ⟨p.toNat, by omega⟩
  rw [Int.toNat_natCast, pw_nat] at hcap
  unfold runR
  rw [h, hm]
  simp only [Bool.and_self, if_true, Int.toNat_natCast]
  rw [passN_round (by omega) (plan_nodup h) (by omega) (by omega) m]
  obtain ⟨k, rfl⟩ : ∃ k, E = k + 1 := ⟨E - 1, by omega⟩
  rw [outN_eq (by omega), plRest_eq]
theorem run_bad {b p : Int} {l : List Str} {m : List Lt} (h : batchOk m = false) : runR b p l m = noLtR := by
  unfold runR
  rw [h, Bool.and_false]; rfl
theorem run_turn {b p : Int} {l : List Str} {m : List Lt} (h : planOk b p l = true) : (runR b p l.reverse m.reverse).f = (runR b p l m).f.reverse := by
  cases hm : batchOk m
  · have hm' : batchOk m.reverse = false := by
      cases hr : batchOk m.reverse
      · rfl
      · rw [batch_perm (List.reverse_perm m) hr] at hm; cases hm
    rw [run_bad hm, run_bad hm']; rfl
  · rw [run_round h hm, run_round (plan_reverse h) (batch_perm (List.reverse_perm m).symm hm)]
    exact round_reverse l m
theorem turn_ok {b p : Int} {l : List Str} (h : planOk b p l = true) : turnR b p l = ⟨b, p, l.reverse, true⟩ := by unfold turnR; rw [h]; rfl
theorem turn_bad {b p : Int} {l : List Str} (h : planOk b p l = false) : turnR b p l = noPlR := by unfold turnR; rw [h]; rfl
theorem own_raw {α : Type} {w : World} {base n c : Nat} {e : TypeId} {size : Nat} {enc : α → List Value} {A : Option Addr} {l : List α} (h : Own w base e size enc (.slice A n c) l) : w.ownsRow base e size (.slice A n c) n (l.flatMap enc) := by
  have hn := h.len
  unfold Own at h
  rw [← hn] at h
  exact h
theorem PlRet.open {b p : Int} {l : List Str} {ok : Bool} {w w' : World} {e : Ending} (h : PlRet ⟨b, p, l, ok⟩ w e w') :
    ∃ A k cap, e = .returned (.tuple #[.agg #[.int .i64 b, .int .i64 p, .slice A k cap], .bool ok]) ∧ Own w' w.heap.size 9 1 strEnc (.slice A k cap) l ∧ Below w.heap.size w w' := h
end

section
open Go.RowKit

def findOf (m : List Lt) (n : Int) : Int := if batchOk m then idxInt (m.findIdx? fun x => decide (x.1 = n)) else -1
theorem find_at {m : List Lt} (hm : batchOk m = true) {k : Nat} {x : Lt} (hx : m[k]? = some x) : findOf m x.1 = k := by
  unfold findOf
  rw [hm]
  have h : (m.findIdx? fun y => decide (y.1 = x.1)) = some k := by
    rw [List.findIdx?_eq_some_iff_getElem]
    obtain ⟨hk, rfl⟩ := List.getElem?_eq_some_iff.1 hx
    refine ⟨hk, by simp, fun j hj => ?_⟩
    have h3 := ((batch_iff m).1 hm).2.2
    rw [List.nodup_iff_pairwise_ne, List.pairwise_iff_getElem] at h3
    have := h3 j k (by simp; omega) (by simpa using hk) hj
    simpa using this
  rw [h]; rfl
theorem find_none {m : List Lt} {n : Int} (h : ∀ (i : Nat) (x : Lt), m[i]? = some x → ¬ x.1 = n) : findOf m n = -1 := by
  unfold findOf
  split
  · have : (m.findIdx? fun y => decide (y.1 = n)) = none := by
      rw [List.findIdx?_eq_none_iff]
      intro x hx
      obtain ⟨i, hi, rfl⟩ := List.getElem_of_mem hx
      simpa using h i _ (List.getElem?_eq_getElem hi)
    rw [this]; rfl
  · rfl
theorem find_first {m : List Lt} (hm : batchOk m = true) {k : Nat} {x : Lt} {n : Int} (hx : m[k]? = some x) (he : x.1 = n) : findOf m n = k := by
  subst he; exact find_at hm hx

set_option maxHeartbeats 2000000 in
set_option maxRecDepth 100000 in
theorem soBatchAny (A B : Option Addr) (a m : List Lt) (n k c d : Nat) (hla : n = a.length) (hlm : k = m.length) (w : World) (hn : n ≤ 1048576) (hk : k ≤ 1048576) (h : Rd w 2 ltEnc A a) (h2 : Rd w 2 ltEnc B m) :
    Calls Try.prog 10 #[.slice A n c, .slice B k d] w fun e w' => e = .returned (.bool (ltsEq a m)) ∧ Below w.heap.size w w' := by
  have Hla := Lib.hid hla
  have Hlm := Lib.hid hlm
  have Hr := Lib.hid h
  have Hr2 := Lib.hid h2
  by_cases hnk : n = k
  · subst hnk
    clear h h2 hla hlm
    go_enter Try.func10, Try.ntmps10
    go_wp2
    go_loopw [5] (fun i wr => ∃ j : Nat, j ≤ n ∧ i = .int .i64 j ∧ Hid (a.take j = m.take j) ∧ Below w.heap.size w wr) (fun i _ => n - (intOf i).toNat)
    case atStart => exact ⟨0, Nat.zero_le _, rfl, by show _ = _; simp, Below.refl _ _⟩
    case round =>
      obtain ⟨j, hj, rfl, He, hb⟩ := hrel
      by_cases hlt : j < n
      · obtain ⟨x, hx⟩ : ∃ x, a[j]? = some x := ⟨_, List.getElem?_eq_getElem (by have := Hla.out; omega)⟩
        obtain ⟨y, hy⟩ : ∃ y, m[j]? = some y := ⟨_, List.getElem?_eq_getElem (by have := Hlm.out; omega)⟩
        obtain ⟨ad, rfl, hab, c0, c1⟩ := (Hr.out.below hb).two hx rfl
        obtain ⟨bd, rfl, hbb, d0, d1⟩ := (Hr2.out.below hb).two hy rfl
        have Hx := Lib.hid hx
        have Hy := Lib.hid hy
        clear hx hy
        obtain ⟨x1, x2⟩ := x
        obtain ⟨y1, y2⟩ := y
        simp only at c0 c1 d0 d1
        by_cases e1 : x1 = y1
        · by_cases e2 : x2 = y2
          · subst e1 e2
            go_wp2_with fail
            go_quiet (fail)
            go_wp2
            go_roundw
            case rel => exact ⟨j + 1, by omega, by go_num, by show _ = _; rw [List.take_add_one, List.take_add_one, Hx.out, Hy.out, He.out], below_drewN hb _⟩
            case measure => simp [intOf]; omega
          · subst e1
            have hq := str_f e2
            have Hf : Hid (ltsEq a m = false) := by
              show _ = _
              unfold ltsEq
              refine decide_eq_false fun e => ?_
              subst e
              have := Hx.out.symm.trans Hy.out
              injection this with this
              injection this with _ this
              exact e2 this
            go_wp2_with fail
            go_quiet (fail)
            go_wp2
            go_ret
            exact ⟨ret_bool Hf.out.symm, below_drewN hb _⟩
        · have hq : (x1 == y1) = false := by simpa using e1
          have Hf : Hid (ltsEq a m = false) := by
            show _ = _
            unfold ltsEq
            refine decide_eq_false fun e => ?_
            subst e
            have := Hx.out.symm.trans Hy.out
            injection this with this
            injection this with this _
            exact e1 this
          go_wp2_with fail
          go_quiet (fail)
          go_wp2
          go_ret
          exact ⟨ret_bool Hf.out.symm, below_drewN hb _⟩
      · obtain rfl : j = n := by omega
        have Hf : Hid (ltsEq a m = true) := by
          show _ = _
          have := He.out
          rw [List.take_of_length_le (by have := Hla.out; omega), List.take_of_length_le (by have := Hlm.out; omega)] at this
          rw [this]; exact ltsEq_self m
        go_wp2
        go_ret
        exact ⟨ret_bool Hf.out.symm, hb⟩
  · have hq : ((n : Int) == (k : Int)) = false := by simpa using fun e => hnk (by omega)
    have hq2 : ((n : Int) != (k : Int)) = true := by simpa using fun e => hnk (by omega)
    have Hf : Hid (ltsEq a m = false) := by
      show _ = _
      unfold ltsEq
      refine decide_eq_false fun e => hnk ?_
      subst e; rw [hla, hlm]
    clear h h2 hla hlm hnk
    go_enter Try.func10, Try.ntmps10
    go_wp2
    go_ret
    exact ⟨ret_bool Hf.out.symm, Below.refl _ _⟩

/-- Letters of one code in the round stand in the order of the batch. -/
theorem round_stable {l : List Str} (hn : l.Nodup) {m : List Lt} (hm : batchOk m = true) {i : Nat} {x y : Lt} (hx : (roundOf l m)[i]? = some x) (hy : (roundOf l m)[i + 1]? = some y) (he : x.2 = y.2) : findOf m x.1 < findOf m y.1 := by
  have hc : y.2 ∈ l := (mem_round.1 (List.mem_of_getElem? hy)).1
  have h1 : [x, y].Sublist (roundOf l m) := by
    obtain ⟨hi, rfl⟩ := List.getElem?_eq_some_iff.1 hx
    obtain ⟨hi', rfl⟩ := List.getElem?_eq_some_iff.1 hy
    have h2 := (List.drop_sublist i (roundOf l m))
    rw [List.drop_eq_getElem_cons hi, List.drop_eq_getElem_cons hi'] at h2
    exact (List.Sublist.cons_cons _ (List.Sublist.cons_cons _ (List.nil_sublist _))).trans h2
  have h2 : [x, y].Sublist (m.filter fun z => decide (z.2 = y.2)) := by
    rw [← round_filter hn hc m]
    have := h1.filter fun z => decide (z.2 = y.2)
    rw [List.filter_cons_of_pos (by simp [he]), List.filter_cons_of_pos (by simp), List.filter_nil] at this
    exact this
  have h3 := h2.trans List.filter_sublist
  have h4 : m.Pairwise fun a b => findOf m a.1 < findOf m b.1 := by
    rw [List.pairwise_iff_getElem]
    intro i j hi hj hlt
    rw [find_at hm (List.getElem?_eq_getElem hi), find_at hm (List.getElem?_eq_getElem hj)]
    omega
  have h5 := h4.sublist h3
  rw [List.pairwise_cons] at h5
  exact h5.1 y (by simp)
theorem ord_run {l : List Str} (hn : l.Nodup) (m : List Lt) : ordOk l 0 m = ((m.filter fun x => !(strIdx l x.2).isSome).isEmpty && ltsEq (roundOf l m) m) := by
  rw [Bool.eq_iff_iff, Bool.and_eq_true, List.isEmpty_iff]
  unfold ltsEq
  rw [decide_eq_true_eq]
  constructor
  · intro h
    refine ⟨?_, round_id hn m h⟩
    rw [List.filter_eq_nil_iff]
    intro x hx h2
    have := (ord_iff.1 h).1 x hx
    cases hs : strIdx l x.2 with
    | none => rw [hs] at this; exact absurd this (by decide)
    | some k => rw [hs] at h2; cases h2
  · rintro ⟨-, h⟩
    rw [← h]; exact round_sorted hn m
end
end Go.Proofs.Ytfilggdiljpakaa
