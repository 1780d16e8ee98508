/-
  The law on endless codes: plain facts, and two helpers.
-/
import Derived.Test.YtfokfdkpbdabhaaDh3
import Derived.Test.YtfokfdkpbdabhaaEn2
import Derived.Test.YtfokfdkpbdabhaaDfQ
import Derived.Test.YtfokfdkpbdabhaaDfP
namespace Go.Proofs.Ytfokfdkpbdabhaa
open Go.RowKit

theorem follow_none_idx {l : List Fw} {s : Str} (h : follow l s = none) : ∃ (k : Nat) (y : Fw), fwIdx l s = some k ∧ l[k]? = some y ∧ y.1 = s := by
  cases hi : fwIdx l s with
  | none => unfold follow at h; rw [followN_none hi (by omega)] at h; cases h
  | some k =>
    obtain ⟨⟨y, hy, he⟩, -⟩ := fwIdx_some.1 hi
    exact ⟨k, y, rfl, hy, he⟩
theorem endRaw_mem {l : List Fw} {s : Str} : s ∈ endRaw l l ↔ follow l s = none := by
  unfold endRaw
  constructor
  · intro h
    obtain ⟨y, hy, rfl⟩ := List.mem_map.1 h
    have := (List.mem_filter.1 hy).2
    unfold isEnd at this
    cases hf : follow l y.1 with
    | none => rfl
    | some r => rw [hf] at this; cases this
  · intro h
    obtain ⟨k, y, -, hy, rfl⟩ := follow_none_idx h
    exact List.mem_map.2 ⟨y, List.mem_filter.2 ⟨List.mem_of_getElem? hy, by unfold isEnd; rw [h]; rfl⟩, rfl⟩
theorem strHas_mem {l : List Str} {c : Str} (h : c ∈ l) : strHas l c = true := by
  obtain ⟨i, hi, rfl⟩ := List.getElem_of_mem h
  exact strHas_at (List.getElem?_eq_getElem hi)
theorem strHas_not {l : List Str} {c : Str} (h : ¬ c ∈ l) : strHas l c = false :=
  strHas_no fun _ _ hx e => h (e ▸ List.mem_of_getElem? hx)
theorem has_end (l : List Fw) (c : Str) : strHas (sortS (endRaw l l)) c = (follow l c).isNone := by
  cases h : follow l c with
  | none => exact strHas_mem ((sortS_perm _).mem_iff.2 (endRaw_mem.2 h))
  | some r =>
    refine strHas_not fun hm => ?_
    have := endRaw_mem.1 ((sortS_perm _).mem_iff.1 hm)
    rw [h] at this; cases this
theorem endRaw_nodup {l : List Fw} (hv : fwsOk l = true) : (sortS (endRaw l l)).Nodup := by
  rw [(sortS_perm _).nodup_iff]
  have h := ((fwsOk_nodup l).1 hv).2.2
  exact h.sublist ((List.filter_sublist).map _)
theorem end_next {l : List Fw} (hv : fwsOk l = true) {s : Str} (h : s ∈ sortS (endRaw l l)) : ∃ d, nextOf l s = some d := by
  obtain ⟨k, y, hi, hy, -⟩ := follow_none_idx (endRaw_mem.1 ((sortS_perm _).mem_iff.1 h))
  exact ⟨y.2, by unfold nextOf; rw [hv, if_pos rfl]; exact fwNext_some hi hy⟩
theorem end_order {l : List Fw} (hv : fwsOk l = true) {i : Nat} {a b : Str} (ha : (sortS (endRaw l l))[i]? = some a) (hb : (sortS (endRaw l l))[i + 1]? = some b) :
    Op.bytesLess (ByteArray.toList b) (ByteArray.toList a) = false ∧ (ByteArray.toList b == ByteArray.toList a) = false := by
  obtain ⟨hi, ea⟩ := List.getElem?_eq_some_iff.1 ha
  obtain ⟨hj, eb⟩ := List.getElem?_eq_some_iff.1 hb
  have hs := List.pairwise_iff_getElem.1 (sortS_sorted (endRaw l l)) i (i + 1) hi hj (by omega)
  have hn := List.pairwise_iff_getElem.1 (endRaw_nodup hv) i (i + 1) hi hj (by omega)
  rw [ea, eb] at hs hn
  exact ⟨by rw [less_sLe, hs]; rfl, str_f fun e => hn e.symm⟩
theorem end_pair {l : List Fw} (hv : fwsOk l = true) (hs : ∀ x ∈ l, x.1.size ≤ 1048576 ∧ x.2.size ≤ 1048576) {i : Nat} {x : Fw} (hx : l[i]? = some x) :
    (resolveOf l x.1 = none ∧ strHas (sortS (endRaw l l)) x.1 = true ∧ strHas (sortS (endRaw l l)) x.2 = true) ∨ (∃ e m, resolveOf l x.1 = some (e, m) ∧ strHas (sortS (endRaw l l)) x.1 = false ∧ strHas (sortS (endRaw l l)) x.2 = false) := by
  have h30 := ((fwsOk_nodup l).1 hv).1
  have hok := ((fwsOk_nodup l).1 hv).2.1 x (List.mem_of_getElem? hx)
  have hnx : nextOf l x.1 = some x.2 := by
    unfold nextOf
    rw [hv, if_pos rfl]
    have hi := ((fwsOk_iff l).1 hv).2 i (List.getElem?_eq_some_iff.1 hx).1
    rw [fwOkAt_eq hx, Bool.and_eq_true, ← idx_self hx] at hi
    exact fwNext_some (of_decide_eq_true hi.2) hx
  have r1 : resolveOf l x.1 = follow l x.1 := by unfold resolveOf; rw [hv, hok.1]; rfl
  have r2 : resolveOf l x.2 = follow l x.2 := by unfold resolveOf; rw [hv, hok.2]; rfl
  rw [has_end, has_end, ← r1, ← r2]
  rcases step_facts (s := x.1) hs (by omega) with ⟨h, -⟩ | ⟨d, -, h, h2⟩
  · rw [hnx] at h; cases h
  · rw [hnx] at h
    injection h with h
    subst h
    rcases h2 with ⟨ha, hb⟩ | ⟨e, m, ha, hb, -⟩
    · left; rw [ha, hb]; exact ⟨rfl, rfl, rfl⟩
    · right; rw [ha, hb]; exact ⟨e, m + 1, rfl, rfl, rfl⟩

set_option maxHeartbeats 1000000 in
set_option maxRecDepth 100000 in
theorem soTextsSame (A B : Option Addr) (l : List Str) (n c d : Nat) (hl : n = l.length) (w : World) (hn : n ≤ 16777216) (h : Rd w 1 strEnc A l) (h2 : Rd w 1 strEnc B l) :
    Calls Try.prog 50 #[.slice A n c, .slice B n d] w fun e w' => e = .returned (.bool true) ∧ Below w.heap.size w w' := by
  have Hl := Lib.hid hl
  have Hr := Lib.hid h
  have Hs := Lib.hid h2
  clear h h2 hl
  go_enter Try.func50, Try.ntmps50
  go_wp2
  go_loopw [5] (fun i wr => ∃ j : Nat, j ≤ n ∧ i = .int .i64 j ∧ Below w.heap.size w wr) (fun i _ => n - (intOf i).toNat)
  case atStart => exact ⟨0, Nat.zero_le _, rfl, Below.refl _ _⟩
  case round =>
    obtain ⟨j, hj, rfl, hb⟩ := hrel
    by_cases hlt : j < n
    · obtain ⟨x, hx⟩ : ∃ x, l[j]? = some x := ⟨_, List.getElem?_eq_getElem (by have := Hl.out; omega)⟩
      obtain ⟨ad, rfl, hab, c0⟩ := (Hr.out.below hb).one hx rfl
      obtain ⟨bd, rfl, hbb, d0⟩ := (Hs.out.below hb).one hx rfl
      have hq := str_t (a := x) rfl
      clear hx
      go_wp2
      go_quiet (fail)
      go_wp2
      go_roundw
      case rel => exact ⟨j + 1, by omega, by go_num, below_drewN hb _⟩
      case measure => simp [intOf]; omega
    · obtain rfl : j = n := by omega
      go_wp2
      go_ret
      exact ⟨rfl, hb⟩

set_option maxHeartbeats 1000000 in
set_option maxRecDepth 100000 in
theorem drawEndlessC (A : Option Addr) (bs : List UInt8) (n cap : Nat) (hn : n = bs.length) (hc : n ≤ cap) (w : World) (hlen : n ≤ 1048576) (hr : Rd w 1 byEnc A bs) :
    Calls Try.prog 48 #[.slice A n cap] w fun e w' => ∃ A' n' c' l, e = .returned (.slice A' n' c') ∧ FwOut w w' A' n' c' l ∧ Below w.heap.size w w' := by
  have Hn := Lib.hid hn
  have Hr := Lib.hid hr
  clear hn hr
  go_enter Try.func48, Try.ntmps48
  go_wp2_with fail
  refine (openC A bs n cap Hn.out hc _ hlen Hr.out).mono ?_
  rintro e w1 ⟨rfl, hr1, hb1⟩
  have hz1 := hb1.size
  have H1 := Lib.hid hb1
  go_wp2_with fail
  refine (openFwC _ _ 0 _ hr1 (by omega)).mono ?_
  rintro e w2 ⟨A2, n2, c2, l2, rfl, ho, ⟨p2, hp2, hr2⟩, hg2⟩
  have O2 := Lib.hid ho
  have B2 := Lib.hid (grown_below_g H1.out hg2 (Nat.le_refl _))
  clear hr1 hb1 ho hr2 hg2
  go_wp2
  go_ret
  exact ⟨A2, n2, c2, l2, rfl, ⟨O2.out.own.lower hz1, O2.out.len, O2.out.small⟩, B2.out⟩
end Go.Proofs.Ytfokfdkpbdabhaa
