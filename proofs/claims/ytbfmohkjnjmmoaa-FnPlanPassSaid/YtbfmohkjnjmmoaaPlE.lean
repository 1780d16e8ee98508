/-
  A batch on a plan: how often is it handled?
-/
import Derived.Test.YtbfmohkjnjmmoaaPlD
namespace Go.Proofs.Ytbfmohkjnjmmoaa
open Go.RowKit

/-- How often the first k letters are handled. -/
def treatTo (l : List Str) (p : Int) (m : List Lt) : Nat → Int
  | 0 => 0
  | k + 1 => treatTo l p m k + match m[k]? with | none => 0 | some x => if strHas l x.2 then p else 1
def treatVal (b p : Int) (l : List Str) (m : List Lt) : Int := if readyOk b p l m then treatTo l p m m.length else -1
theorem treatTo_succ {l : List Str} {p : Int} {m : List Lt} {k : Nat} {x : Lt} {v : Bool} (hx : m[k]? = some x) (hv : strHas l x.2 = v) : treatTo l p m (k + 1) = treatTo l p m k + if v then p else 1 := by
  simp [treatTo, hx, hv]
theorem idx_neg_has (l : List Str) (c : Str) : decide (idxInt (strIdx l c) < 0) = !strHas l c := by
  unfold strHas
  cases strIdx l c with
  | none => rfl
  | some v => exact decide_eq_false (show ¬ ((v : Nat) : Int) < 0 by omega)

set_option maxHeartbeats 2000000 in
theorem implTreatCount (b p : Int) (A B : Option Addr) (l : List Str) (m : List Lt) (n cap k capm : Nat) (hl : n = l.length) (hk : k = m.length) (hcap : n ≤ cap) (hcapm : k ≤ capm) (w : World) (hn : n ≤ 16777216) (hkn : k ≤ 16777216) (hs : ∀ x ∈ l, x.size ≤ 1048576) (hsm : ∀ x ∈ m, x.2.size ≤ 1048576) (h : Rd w 1 strEnc A l) (hm : Rd w 2 ltEnc B m) :
    Calls Try.prog 37 #[.agg #[.int .i64 b, .int .i64 p, .slice A n cap], .slice B k capm] w fun e w' => e = .returned (.int .i64 (treatVal b p l m)) ∧ Below w.heap.size w w' := by
  have Hl := Lib.hid hl
  have Hk := Lib.hid hk
  have Hr := Lib.hid h
  have Hm := Lib.hid hm
  have Hs := Lib.hid hs
  have Hsm := Lib.hid hsm
  clear h hs hl hk hm hsm
  have hb1 := (Below.refl w.heap.size w).alloc (Nat.le_refl _) (Obj.cells #[.int .i64 b, .int .i64 p, .slice A n cap] 25)
  cases hv : planOk b p l
  · have Hd : Hid (treatVal b p l m = -1) := by show treatVal _ _ _ _ = _; unfold treatVal readyOk; rw [hv]; rfl
    go_enter Try.func37, Try.ntmps37
    go_wp2_with fail
    refine (implPlanValid b p A l _ _ Hl.out hcap _ hn Hs.out (Hr.out.below hb1)).mono ?_
    rw [hv]
    rintro e w1 ⟨rfl, hbw⟩
    have hb2 := below_step hb1 hbw
    clear hbw
    go_wp2
    go_ret
    exact ⟨by rw [Hd.out]; rfl, hb2⟩
  · cases hw : batchOk m
    · have Hd : Hid (treatVal b p l m = -1) := by show treatVal _ _ _ _ = _; unfold treatVal readyOk; rw [hv, hw]; rfl
      go_enter Try.func37, Try.ntmps37
      go_wp2_with fail
      refine (implPlanValid b p A l _ _ Hl.out hcap _ hn Hs.out (Hr.out.below hb1)).mono ?_
      rw [hv]
      rintro e w1 ⟨rfl, hbw⟩
      have hb2 := below_step hb1 hbw
      have Hm2 := Lib.hid (Hm.out.below hb2)
      clear hbw
      go_wp2_with (go_at_call 83; refine (implBatchValid _ m _ _ Hk.out hcapm _ hkn Hsm.out Hm2.out).mono ?_; rw [hw]; rintro e w2 ⟨rfl, hbx⟩)
      go_ret
      exact ⟨by rw [Hd.out]; rfl, below_step hb2 hbx⟩
    · have Hd : Hid (treatVal b p l m = treatTo l p m k) := by show treatVal _ _ _ _ = _; unfold treatVal readyOk; rw [hv, hw, Hk.out]; rfl
      obtain ⟨-, ⟨hp1, hp2⟩, -⟩ := planOk_parts hv
      go_enter Try.func37, Try.ntmps37
      go_wp2_with fail
      refine (implPlanValid b p A l _ _ Hl.out hcap _ hn Hs.out (Hr.out.below hb1)).mono ?_
      rw [hv]
      rintro e w1 ⟨rfl, hbw⟩
      have K1 := Lib.hid (heap_of_below hbw (g := w.heap.size) (by simp) (heap_new _ _))
      have hb2 := below_step hb1 hbw
      have Hm2 := Lib.hid (Hm.out.below hb2)
      have hgs : w.heap.size < w1.heap.size := by have := hbw.size; simp at this; omega
      clear hbw
      go_wp2_with fail
      refine (implBatchValid _ m _ _ Hk.out hcapm _ hkn Hsm.out Hm2.out).mono ?_
      rw [hw]
      rintro e w2 ⟨rfl, hbx⟩
      obtain ⟨c0, c1, c2⟩ := box3 (heap_of_below hbx hgs K1.out)
      have hb3 := below_step hb2 hbx
      clear hbx hgs hb2 hb1
      go_wp2_with fail
      go_loopw [18, 5] (fun i t wr => ∃ j : Nat, j ≤ k ∧ i = .int .i64 j ∧ ∃ s : Int, t = .int .i64 s ∧ 0 ≤ s ∧ s ≤ 4 * j ∧ Below w.heap.size w wr ∧ wr.cell? ⟨w.heap.size, 1, none⟩ = some (.int .i64 p) ∧ wr.cell? ⟨w.heap.size, 2, none⟩ = some (.slice A n cap) ∧ Hid (s = treatTo l p m j)) (fun i _ _ => k - (intOf i).toNat)
      case atStart => exact ⟨0, Nat.zero_le _, rfl, 0, rfl, by omega, by omega, hb3, c1, c2, rfl⟩
      case round =>
        clear hb3 c0 c1 c2
        obtain ⟨j, hj, rfl, s, rfl, hs0, hs1, hb, c1, c2, H⟩ := hrel
        by_cases hlt : j < k
        · obtain ⟨x, hx⟩ : ∃ x, m[j]? = some x := ⟨_, List.getElem?_eq_getElem (by have := Hk.out; omega)⟩
          obtain ⟨ad, rfl, hab, d0, d1⟩ := (Hm.out.below hb).two hx rfl
          have hbi := hb.alloc hb.size (Obj.cells #[.int .i64 x.1, .string x.2] 42)
          have c3 := cell_alloc c2 (Obj.cells #[.int .i64 x.1, .string x.2] 42)
          have c4 := cell_alloc c1 (Obj.cells #[.int .i64 x.1, .string x.2] 42)
          have Hr2 := Lib.hid (Hr.out.below hbi)
          cases hv : strHas l x.2
          · have Hnx : Hid (s + 1 = treatTo l p m (j + 1)) := by show _ = _; rw [treatTo_succ hx hv, ← H.out]; rfl
            have Hv := Lib.hid hv
            clear hv hx
            go_wp2_with (go_at_call 89; refine (sliceContains _ l _ _ Hl.out _ _ hn Hr2.out).mono ?_; rw [Hv.out]; rintro e w1 ⟨rfl, rfl⟩)
            go_roundw
            case rel => exact ⟨j + 1, by omega, by go_num, s + 1, rfl, by omega, by omega, hbi, c4, c3, Hnx.out⟩
            case measure => simp [intOf]; omega
          · have Hnx : Hid (s + p = treatTo l p m (j + 1)) := by show _ = _; rw [treatTo_succ hx hv, ← H.out]; rfl
            have Hv := Lib.hid hv
            clear hv hx
            go_wp2_with (go_at_call 89; refine (sliceContains _ l _ _ Hl.out _ _ hn Hr2.out).mono ?_; rw [Hv.out]; rintro e w1 ⟨rfl, rfl⟩)
            go_roundw
            case rel => exact ⟨j + 1, by omega, by go_num, s + p, rfl, by omega, by omega, hbi, c4, c3, Hnx.out⟩
            case measure => simp [intOf]; omega
        · obtain rfl : j = k := by omega
          go_wp2
          go_ret
          exact ⟨ret_int (by rw [Hd.out, H.out]), hb⟩

set_option maxHeartbeats 2000000 in
theorem specTreatCount (b p : Int) (A B : Option Addr) (l : List Str) (m : List Lt) (n cap k capm : Nat) (hl : n = l.length) (hk : k = m.length) (w : World) (hn : n ≤ 16777216) (hkn : k ≤ 16777216) (hs : ∀ x ∈ l, x.size ≤ 1048576) (hsm : ∀ x ∈ m, x.2.size ≤ 1048576) (h : Rd w 1 strEnc A l) (hm : Rd w 2 ltEnc B m) :
    Calls Try.prog 38 #[.agg #[.int .i64 b, .int .i64 p, .slice A n cap], .slice B k capm] w fun e w' => e = .returned (.int .i64 (treatVal b p l m)) ∧ Below w.heap.size w w' := by
  have Hl := Lib.hid hl
  have Hk := Lib.hid hk
  have Hr := Lib.hid h
  have Hm := Lib.hid hm
  have Hs := Lib.hid hs
  have Hsm := Lib.hid hsm
  clear h hs hl hk hm hsm
  have hb1 := (Below.refl w.heap.size w).alloc (Nat.le_refl _) (Obj.cells #[.int .i64 b, .int .i64 p, .slice A n cap] 25)
  cases hv : readyOk b p l m
  · have Hd : Hid (treatVal b p l m = -1) := by show treatVal _ _ _ _ = _; unfold treatVal; rw [hv]; rfl
    go_enter Try.func38, Try.ntmps38
    go_wp2_with fail
    refine (specReady b p A B l m n cap k capm Hl.out Hk.out _ hn hkn Hs.out Hsm.out (Hr.out.below hb1) (Hm.out.below hb1)).mono ?_
    rw [hv]
    rintro e w2 ⟨rfl, hbx⟩
    go_wp2
    go_ret
    exact ⟨by rw [Hd.out]; rfl, below_step hb1 hbx⟩
  · have Hd : Hid (treatVal b p l m = treatTo l p m k) := by show treatVal _ _ _ _ = _; unfold treatVal; rw [hv, Hk.out]; rfl
    have hpo : planOk b p l = true := by unfold readyOk at hv; cases h : planOk b p l <;> simp [h] at hv ⊢
    obtain ⟨-, ⟨hp1, hp2⟩, -⟩ := planOk_parts hpo
    clear hpo
    go_enter Try.func38, Try.ntmps38
    go_wp2_with fail
    refine (specReady b p A B l m n cap k capm Hl.out Hk.out _ hn hkn Hs.out Hsm.out (Hr.out.below hb1) (Hm.out.below hb1)).mono ?_
    rw [hv]
    rintro e w2 ⟨rfl, hbx⟩
    obtain ⟨c0, c1, c2⟩ := box3 (heap_of_below hbx (g := w.heap.size) (by simp) (heap_new _ _))
    have hb3 := below_step hb1 hbx
    clear hbx hb1
    go_wp2_with fail
    go_loopw [6, 5] (fun i t wr => ∃ j : Nat, j ≤ k ∧ i = .int .i64 j ∧ ∃ s : Int, t = .int .i64 s ∧ 0 ≤ s ∧ s ≤ 4 * j ∧ Below w.heap.size w wr ∧ wr.cell? ⟨w.heap.size, 1, none⟩ = some (.int .i64 p) ∧ wr.cell? ⟨w.heap.size, 2, none⟩ = some (.slice A n cap) ∧ Hid (s = treatTo l p m j)) (fun i _ _ => k - (intOf i).toNat)
    case atStart => exact ⟨0, Nat.zero_le _, rfl, 0, rfl, by omega, by omega, hb3, c1, c2, rfl⟩
    case round =>
      clear hb3 c0 c1 c2
      obtain ⟨j, hj, rfl, s, rfl, hs0, hs1, hb, c1, c2, H⟩ := hrel
      by_cases hlt : j < k
      · obtain ⟨x, hx⟩ : ∃ x, m[j]? = some x := ⟨_, List.getElem?_eq_getElem (by have := Hk.out; omega)⟩
        obtain ⟨ad, rfl, hab, d0, d1⟩ := (Hm.out.below hb).two hx rfl
        obtain ⟨v, hv⟩ : ∃ v, idxInt (strIdx l x.2) = v := ⟨_, rfl⟩
        have hvd := idx_neg_has l x.2
        rw [hv] at hvd
        have KR : ∀ nq, Calls Try.prog 72 #[.slice A n cap, .string x.2] (wr.drewN nq) fun e w' => e = .returned (.int .i64 v) ∧ wr.drewN nq = w' := fun nq => by
          rw [← hv]; exact specRank A l n cap Hl.out x.2 _ hn ((Hr.out.below hb).drewN nq)
        have b1 : (j : Int) < (k : Int) := by omega
        clear hv
        cases hv : strHas l x.2
        · have Hnx : Hid (s + 1 = treatTo l p m (j + 1)) := by show _ = _; rw [treatTo_succ hx hv, ← H.out]; rfl
          rw [hv] at hvd
          have hvd := of_decide_eq_true (hvd.trans rfl)
          clear hx
          go_wp2_with fail
          go_quiet ((go_at_call 72; exact quiet_eq (KR _)))
          go_wp2
          go_roundw
          case rel => exact ⟨j + 1, by omega, by go_num, s + 1, rfl, by omega, by omega, below_drewN hb _, c1, c2, Hnx.out⟩
          case measure => simp [intOf]; omega
        · have Hnx : Hid (s + p = treatTo l p m (j + 1)) := by show _ = _; rw [treatTo_succ hx hv, ← H.out]; rfl
          rw [hv] at hvd
          have hvd := of_decide_eq_false (hvd.trans rfl)
          clear hx
          go_wp2_with fail
          go_quiet ((go_at_call 72; exact quiet_eq (KR _)))
          go_wp2
          go_roundw
          case rel => exact ⟨j + 1, by omega, by go_num, s + p, rfl, by omega, by omega, below_drewN hb _, c1, c2, Hnx.out⟩
          case measure => simp [intOf]; omega
      · obtain rfl : j = k := by omega
        go_wp2
        go_ret
        exact ⟨ret_int (by rw [Hd.out, H.out]), hb⟩
end Go.Proofs.Ytbfmohkjnjmmoaa
