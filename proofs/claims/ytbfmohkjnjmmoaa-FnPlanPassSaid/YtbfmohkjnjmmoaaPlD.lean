/-
  A batch on a plan: in order? how often handled?
-/
import Derived.Test.YtbfmohkjnjmmoaaPlT
import Derived.Test.YtbfmohkjnjmmoaaPlB
namespace Go.Proofs.Ytbfmohkjnjmmoaa
open Go.RowKit

def readyOk (b p : Int) (l : List Str) (m : List Lt) : Bool := planOk b p l && batchOk m

set_option maxHeartbeats 1000000 in
theorem specReady (b p : Int) (A B : Option Addr) (l : List Str) (m : List Lt) (n cap k capm : Nat) (hl : n = l.length) (hk : k = m.length) (w : World) (hn : n ≤ 16777216) (hkn : k ≤ 16777216) (hs : ∀ x ∈ l, x.size ≤ 1048576) (hsm : ∀ x ∈ m, x.2.size ≤ 1048576) (h : Rd w 1 strEnc A l) (hm : Rd w 2 ltEnc B m) :
    Calls Try.prog 90 #[.agg #[.int .i64 b, .int .i64 p, .slice A n cap], .slice B k capm] w fun e w' => e = .returned (.bool (readyOk b p l m)) ∧ Below w.heap.size w w' := by
  have Hl := Lib.hid hl
  have Hk := Lib.hid hk
  have Hr := Lib.hid h
  have Hm := Lib.hid hm
  have Hs := Lib.hid hs
  have Hsm := Lib.hid hsm
  clear h hs hl hk hm hsm
  have hb1 := (Below.refl w.heap.size w).alloc (Nat.le_refl _) (Obj.cells #[.int .i64 b, .int .i64 p, .slice A n cap] 25)
  cases hv : planOk b p l
  all_goals
    have Hd : Hid (readyOk b p l m = (planOk b p l && batchOk m)) := rfl
    go_enter Try.func90, Try.ntmps90
    go_wp2_with fail
    refine (specPlanValid b p A l _ _ Hl.out _ hn Hs.out (Hr.out.below hb1)).mono ?_
    rw [hv]
    rintro e w1 ⟨rfl, hbw⟩
    have hb2 := below_step hb1 hbw
    have Hm2 := Lib.hid (Hm.out.below hb2)
    clear hbw
  · go_wp2
    go_ret
    exact ⟨ret_bool (by rw [Hd.out, hv]; rfl), hb2⟩
  · go_wp2_with (go_at_call 103; refine (specBatchValid _ m _ _ Hk.out _ hkn Hsm.out Hm2.out).mono ?_; rintro e w2 ⟨rfl, hbx⟩)
    go_ret
    exact ⟨ret_bool (by rw [Hd.out, hv]; rfl), below_step hb2 hbx⟩

/-- Do the places of letters never fall? -/
def ordOk (l : List Str) : Int → List Lt → Bool
  | _, [] => true
  | last, x :: r => if idxInt (strIdx l x.2) < last then false else ordOk l (idxInt (strIdx l x.2)) r
def inOrd (b p : Int) (l : List Str) (m : List Lt) : Bool := readyOk b p l m && ordOk l 0 m
theorem ord_at {l : List Str} {m : List Lt} {k : Nat} {x : Lt} {v last : Int} (hx : m[k]? = some x) (hv : idxInt (strIdx l x.2) = v) : ordOk l last (m.drop k) = if v < last then false else ordOk l v (m.drop (k + 1)) := by
  obtain ⟨hk, rfl⟩ := List.getElem?_eq_some_iff.1 hx
  rw [List.drop_eq_getElem_cons hk]
  show (if idxInt (strIdx l m[k].2) < last then false else _) = _
  rw [hv]
theorem ord_end {l : List Str} {m : List Lt} {last : Int} {k : Nat} (h : k = m.length) : ordOk l last (m.drop k) = true := by
  rw [h, List.drop_length]; rfl

set_option maxHeartbeats 2000000 in
theorem implInOrder (b p : Int) (A B : Option Addr) (l : List Str) (m : List Lt) (n cap k capm : Nat) (hl : n = l.length) (hk : k = m.length) (hcap : n ≤ cap) (hcapm : k ≤ capm) (w : World) (hn : n ≤ 16777216) (hkn : k ≤ 16777216) (hs : ∀ x ∈ l, x.size ≤ 1048576) (hsm : ∀ x ∈ m, x.2.size ≤ 1048576) (h : Rd w 1 strEnc A l) (hm : Rd w 2 ltEnc B m) :
    Calls Try.prog 41 #[.agg #[.int .i64 b, .int .i64 p, .slice A n cap], .slice B k capm] w fun e w' => e = .returned (.bool (inOrd b p l m)) ∧ Below w.heap.size w w' := by
  have Hl := Lib.hid hl
  have Hk := Lib.hid hk
  have Hr := Lib.hid h
  have Hm := Lib.hid hm
  have Hs := Lib.hid hs
  have Hsm := Lib.hid hsm
  clear h hs hl hk hm hsm
  have hb1 := (Below.refl w.heap.size w).alloc (Nat.le_refl _) (Obj.cells #[.int .i64 b, .int .i64 p, .slice A n cap] 25)
  cases hv : planOk b p l
  · have Hd : Hid (inOrd b p l m = false) := by show inOrd _ _ _ _ = _; unfold inOrd readyOk; rw [hv]; rfl
    go_enter Try.func41, Try.ntmps41
    go_wp2_with fail
    refine (implPlanValid b p A l _ _ Hl.out hcap _ hn Hs.out (Hr.out.below hb1)).mono ?_
    rw [hv]
    rintro e w1 ⟨rfl, hbw⟩
    have hb2 := below_step hb1 hbw
    clear hbw
    go_wp2
    go_ret
    exact ⟨ret_bool Hd.out.symm, hb2⟩
  · cases hw : batchOk m
    · have Hd : Hid (inOrd b p l m = false) := by show inOrd _ _ _ _ = _; unfold inOrd readyOk; rw [hv, hw]; rfl
      go_enter Try.func41, Try.ntmps41
      go_wp2_with fail
      refine (implPlanValid b p A l _ _ Hl.out hcap _ hn Hs.out (Hr.out.below hb1)).mono ?_
      rw [hv]
      rintro e w1 ⟨rfl, hbw⟩
      have hb2 := below_step hb1 hbw
      have Hm2 := Lib.hid (Hm.out.below hb2)
      clear hbw
      go_wp2_with (go_at_call 83; refine (implBatchValid _ m _ _ Hk.out hcapm _ hkn Hsm.out Hm2.out).mono ?_; rw [hw]; rintro e w2 ⟨rfl, hbx⟩)
      go_ret
      exact ⟨ret_bool Hd.out.symm, below_step hb2 hbx⟩
    · have Hd : Hid (inOrd b p l m = ordOk l 0 m) := by show inOrd _ _ _ _ = _; unfold inOrd readyOk; rw [hv, hw]; rfl
      go_enter Try.func41, Try.ntmps41
      go_wp2_with fail
      refine (implPlanValid b p A l _ _ Hl.out hcap _ hn Hs.out (Hr.out.below hb1)).mono ?_
      rw [hv]
      rintro e w1 ⟨rfl, hbw⟩
      have K1 := Lib.hid (heap_of_below hbw (g := w.heap.size) (by simp) (heap_new _ _))
      have hb2 := below_step hb1 hbw
      have Hm2 := Lib.hid (Hm.out.below hb2)
      have hgs : w.heap.size < w1.heap.size := by have := hbw.size; simp at this; omega
      clear hbw
      go_wp2_with fail
      refine (implBatchValid _ m _ _ Hk.out hcapm _ hkn Hsm.out Hm2.out).mono ?_
      rw [hw]
      rintro e w2 ⟨rfl, hbx⟩
      obtain ⟨c0, c1, c2⟩ := box3 (heap_of_below hbx hgs K1.out)
      have hb3 := below_step hb2 hbx
      clear hbx hgs hb2 hb1
      go_wp2_with fail
      go_loopw [19, 5] (fun i t wr => ∃ j : Nat, j ≤ k ∧ i = .int .i64 j ∧ ∃ last : Int, t = .int .i64 last ∧ Below w.heap.size w wr ∧ wr.cell? ⟨w.heap.size, 2, none⟩ = some (.slice A n cap) ∧ Hid (ordOk l 0 m = ordOk l last (m.drop j))) (fun i _ _ => k - (intOf i).toNat)
      case atStart => exact ⟨0, Nat.zero_le _, rfl, 0, rfl, hb3, c2, rfl⟩
      case round =>
        clear hb3 c0 c1 c2
        obtain ⟨j, hj, rfl, last, rfl, hb, c2, H⟩ := hrel
        by_cases hlt : j < k
        · obtain ⟨x, hx⟩ : ∃ x, m[j]? = some x := ⟨_, List.getElem?_eq_getElem (by have := Hk.out; omega)⟩
          obtain ⟨ad, rfl, hab, d0, d1⟩ := (Hm.out.below hb).two hx rfl
          obtain ⟨v, hv⟩ : ∃ v, idxInt (strIdx l x.2) = v := ⟨_, rfl⟩
          have Hat := fun last => ord_at (last := last) hx hv
          have Hat := Lib.hid Hat
          have Hv := Lib.hid hv
          clear hv hx
          have hbi := hb.alloc hb.size (Obj.cells #[.int .i64 x.1, .string x.2] 42)
          have c3 := cell_alloc c2 (Obj.cells #[.int .i64 x.1, .string x.2] 42)
          have Hr2 := Lib.hid (Hr.out.below hbi)
          by_cases hlo : v < last
          · have Hbad : Hid (ordOk l 0 m = false) := by show ordOk _ _ _ = _; rw [H.out, Hat.out, if_pos hlo]
            go_wp2_with (go_at_call 70; refine (sliceIndex _ l _ _ Hl.out _ _ hn Hr2.out).mono ?_; rw [Hv.out]; rintro e w1 ⟨rfl, rfl⟩)
            go_ret
            exact ⟨ret_bool (by rw [Hd.out, Hbad.out]), hbi⟩
          · have Hnx : Hid (ordOk l 0 m = ordOk l v (m.drop (j + 1))) := by show ordOk _ _ _ = _; rw [H.out, Hat.out, if_neg hlo]
            go_wp2_with (go_at_call 70; refine (sliceIndex _ l _ _ Hl.out _ _ hn Hr2.out).mono ?_; rw [Hv.out]; rintro e w1 ⟨rfl, rfl⟩)
            go_roundw
            case rel => exact ⟨j + 1, by omega, by go_num, v, rfl, hbi, c3, Hnx.out⟩
            case measure => simp [intOf]; omega
        · obtain rfl : j = k := by omega
          go_wp2
          go_ret
          exact ⟨ret_bool (by rw [Hd.out, H.out, ord_end Hk.out]), hb⟩

set_option maxHeartbeats 2000000 in
theorem specInOrder (b p : Int) (A B : Option Addr) (l : List Str) (m : List Lt) (n cap k capm : Nat) (hl : n = l.length) (hk : k = m.length) (w : World) (hn : n ≤ 16777216) (hkn : k ≤ 16777216) (hs : ∀ x ∈ l, x.size ≤ 1048576) (hsm : ∀ x ∈ m, x.2.size ≤ 1048576) (h : Rd w 1 strEnc A l) (hm : Rd w 2 ltEnc B m) :
    Calls Try.prog 48 #[.agg #[.int .i64 b, .int .i64 p, .slice A n cap], .slice B k capm] w fun e w' => e = .returned (.bool (inOrd b p l m)) ∧ Below w.heap.size w w' := by
  have Hl := Lib.hid hl
  have Hk := Lib.hid hk
  have Hr := Lib.hid h
  have Hm := Lib.hid hm
  have Hs := Lib.hid hs
  have Hsm := Lib.hid hsm
  clear h hs hl hk hm hsm
  have hb1 := (Below.refl w.heap.size w).alloc (Nat.le_refl _) (Obj.cells #[.int .i64 b, .int .i64 p, .slice A n cap] 25)
  have Hrdy := fun (w1 : World) (hb : Below w.heap.size w w1) => specReady b p A B l m n cap k capm Hl.out Hk.out w1 hn hkn Hs.out Hsm.out (Hr.out.below hb) (Hm.out.below hb)
  have Hrdy := Lib.hid Hrdy
  cases hv : readyOk b p l m
  · have Hd : Hid (inOrd b p l m = false) := by show inOrd _ _ _ _ = _; unfold inOrd; rw [hv]; rfl
    go_enter Try.func48, Try.ntmps48
    go_wp2_with fail
    go_loopw [6, 5] (fun i t wr => i = .int .i64 0 ∧ t = .int .i64 0 ∧ Below w.heap.size w wr ∧ wr.heap[w.heap.size]? = some (Obj.cells #[.int .i64 b, .int .i64 p, .slice A n cap] 25)) (fun i _ _ => k - (intOf i).toNat)
    case atStart => exact ⟨rfl, rfl, hb1, heap_new _ _⟩
    case round =>
      obtain ⟨rfl, rfl, hb, K⟩ := hrel
      obtain ⟨c0, c1, c2⟩ := box3 K
      have hgs : w.heap.size < wr.heap.size := by have := (Array.getElem?_eq_some_iff.1 K).1; omega
      have Hkk := Lib.hid K
      clear K
      go_wp2_with fail
      refine (Hrdy.out _ hb).mono ?_
      rw [hv]
      rintro e w2 ⟨rfl, hbx⟩
      obtain ⟨c0, c1, c2⟩ := box3 (heap_of_below hbx hgs Hkk.out)
      have hb3 := below_step hb hbx
      go_wp2_with fail
      refine (Hrdy.out _ hb3).mono ?_
      rw [hv]
      rintro e w3 ⟨rfl, hby⟩
      go_wp2
      go_ret
      exact ⟨ret_bool Hd.out.symm, below_step hb3 hby⟩
  · have Hd : Hid (inOrd b p l m = ordOk l 0 m) := by show inOrd _ _ _ _ = _; unfold inOrd; rw [hv]; rfl
    go_enter Try.func48, Try.ntmps48
    go_wp2_with fail
    go_loopw [6, 5] (fun i t wr => ∃ j : Nat, j ≤ k ∧ i = .int .i64 j ∧ ∃ last : Int, t = .int .i64 last ∧ Below w.heap.size w wr ∧ wr.heap[w.heap.size]? = some (Obj.cells #[.int .i64 b, .int .i64 p, .slice A n cap] 25) ∧ Hid (ordOk l 0 m = ordOk l last (m.drop j))) (fun i _ _ => k - (intOf i).toNat)
    case atStart => exact ⟨0, Nat.zero_le _, rfl, 0, rfl, hb1, heap_new _ _, rfl⟩
    case round =>
      obtain ⟨j, hj, rfl, last, rfl, hb, K, H⟩ := hrel
      obtain ⟨c0, c1, c2⟩ := box3 K
      have hgs : w.heap.size < wr.heap.size := by have := (Array.getElem?_eq_some_iff.1 K).1; omega
      have Hkk := Lib.hid K
      clear K
      by_cases hlt : j < k
      · go_wp2_with fail
        refine (Hrdy.out _ hb).mono ?_
        rw [hv]
        rintro e w2 ⟨rfl, hbx⟩
        have Hk2 := Lib.hid (heap_of_below hbx hgs Hkk.out)
        obtain ⟨c0, c1, c2⟩ := box3 Hk2.out
        have hb3 := below_step hb hbx
        clear hb hbx
        obtain ⟨x, hx⟩ : ∃ x, m[j]? = some x := ⟨_, List.getElem?_eq_getElem (by have := Hk.out; omega)⟩
        obtain ⟨ad, rfl, hab, d0, d1⟩ := (Hm.out.below hb3).two hx rfl
        obtain ⟨v, hv⟩ : ∃ v, idxInt (strIdx l x.2) = v := ⟨_, rfl⟩
        have Hat := fun last => ord_at (last := last) hx hv
        have Hat := Lib.hid Hat
        have KR : ∀ nq, Calls Try.prog 72 #[.slice A n cap, .string x.2] (w2.drewN nq) fun e w' => e = .returned (.int .i64 v) ∧ w2.drewN nq = w' := fun nq => by
          rw [← hv]; exact specRank A l n cap Hl.out x.2 _ hn ((Hr.out.below hb3).drewN nq)
        clear hv hx
        have b1 : (j : Int) < (k : Int) := by omega
        by_cases hlo : v < last
        · have Hbad : Hid (ordOk l 0 m = false) := by show ordOk _ _ _ = _; rw [H.out, Hat.out, if_pos hlo]
          go_wp2_with fail
          go_quiet ((go_at_call 72; exact quiet_eq (KR _)))
          go_wp2
          go_ret
          exact ⟨ret_bool (by rw [Hd.out, Hbad.out]), below_drewN hb3 _⟩
        · have Hnx : Hid (ordOk l 0 m = ordOk l v (m.drop (j + 1))) := by show ordOk _ _ _ = _; rw [H.out, Hat.out, if_neg hlo]
          go_wp2_with fail
          go_quiet ((go_at_call 72; exact quiet_eq (KR _)))
          go_wp2
          go_roundw
          case rel => exact ⟨j + 1, by omega, by go_num, v, rfl, below_drewN hb3 _, Hk2.out, Hnx.out⟩
          case measure => simp [intOf]; omega
      · obtain rfl : j = k := by omega
        go_wp2_with fail
        refine (Hrdy.out _ hb).mono ?_
        rw [hv]
        rintro e w2 ⟨rfl, hbx⟩
        obtain ⟨c0, c1, c2⟩ := box3 (heap_of_below hbx hgs Hkk.out)
        have hb3 := below_step hb hbx
        go_wp2_with fail
        refine (Hrdy.out _ hb3).mono ?_
        rw [hv]
        rintro e w3 ⟨rfl, hby⟩
        go_wp2
        go_ret
        exact ⟨ret_bool (by rw [Hd.out, H.out, ord_end Hk.out]), below_step hb3 hby⟩
end Go.Proofs.Ytbfmohkjnjmmoaa
