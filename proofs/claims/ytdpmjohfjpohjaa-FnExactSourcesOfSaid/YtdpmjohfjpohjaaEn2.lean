/-
  Endless codes: the program's and the reference's.
-/
import Derived.Test.YtdpmjohfjpohjaaEn1
namespace Go.Proofs.Ytdpmjohfjpohjaa
open Go.RowKit

def isEnd (l : List Fw) (x : Fw) : Bool := (follow l x.1).isNone
def endRaw (l m : List Fw) : List Str := (m.filter (isEnd l)).map (·.1)
def endlessOf (l : List Fw) : List Str := if fwsOk l then sortS (endRaw l l) else []
theorem endRaw_len (l m : List Fw) : (endRaw l m).length ≤ m.length := by unfold endRaw; rw [List.length_map]; exact List.length_filter_le _ _
theorem endRaw_yes {l : List Fw} {k : Nat} {x : Fw} (hx : l[k]? = some x) (h : follow l x.1 = none) : endRaw l (l.take (k + 1)) = endRaw l (l.take k) ++ [x.1] := by
  unfold endRaw
  rw [List.take_add_one, hx, List.filter_append, List.map_append]
  simp [isEnd, h]
theorem endRaw_no {l : List Fw} {k : Nat} {x : Fw} {r : Str × Nat} (hx : l[k]? = some x) (h : follow l x.1 = some r) : endRaw l (l.take (k + 1)) = endRaw l (l.take k) := by
  unfold endRaw
  rw [List.take_add_one, hx, List.filter_append, List.map_append]
  simp [isEnd, h]

/-- A list of texts of its own is returned. -/
def StRes (w w' : World) (l : List Str) (e : Ending) : Prop := ∃ A n c, e = .returned (.slice A n c) ∧ Own w' w.heap.size 9 1 strEnc (.slice A n c) l ∧ Below w.heap.size w w'

set_option maxHeartbeats 2000000 in
set_option maxRecDepth 100000 in
theorem implEndless (A : Option Addr) (l : List Fw) (n cap : Nat) (hl : n = l.length) (hcap : n ≤ cap) (w : World) (hn : n ≤ 16777216) (hs : ∀ x ∈ l, x.1.size ≤ 1048576 ∧ x.2.size ≤ 1048576) (h : Rd w 2 fwEnc A l) :
    Calls Try.prog 38 #[.slice A n cap] w fun e w' => StRes w w' (endlessOf l) e := by
  have Hl := Lib.hid hl
  have Hr := Lib.hid h
  have Hs := Lib.hid hs
  clear h hs hl
  cases hv : fwsOk l
  · have Hn : Hid (endlessOf l = []) := by show _ = _; unfold endlessOf; rw [hv]; rfl
    go_enter Try.func38, Try.ntmps38
    go_wp2_with fail
    refine (implForwardsValid _ l _ _ Hl.out hcap _ hn Hs.out Hr.out).mono ?_
    rw [hv]
    rintro e w1 ⟨rfl, hb1⟩
    go_wp2
    go_ret
    exact ⟨none, 0, 0, rfl, by rw [Hn.out]; exact Own.nil_ _ _ _ _ _, hb1⟩
  · have Hn : Hid (endlessOf l = sortS (endRaw l l)) := by show _ = _; unfold endlessOf; rw [hv]; rfl
    go_enter Try.func38, Try.ntmps38
    go_wp2_with fail
    refine (implForwardsValid _ l _ _ Hl.out hcap _ hn Hs.out Hr.out).mono ?_
    rw [hv]
    rintro e w1 ⟨rfl, hb1⟩
    clear hv
    go_wp2_with fail
    go_loopw [3, 14] (fun t i wr => ∃ (k m : Nat) (B : Option Addr) (b : Nat), k ≤ n ∧ m ≤ k ∧ i = .int .i64 k ∧ t = .slice B m b ∧ Hid (Below w.heap.size w wr) ∧ Hid (Own wr w.heap.size 9 1 strEnc (.slice B m b) (endRaw l (l.take k)))) (fun _ i _ => n - (intOf i).toNat)
    case atStart => exact ⟨0, 0, none, 0, Nat.zero_le _, Nat.le_refl _, rfl, rfl, hb1, Own.nil_ _ _ _ _ _⟩
    case round =>
      clear hb1
      obtain ⟨k, m, B, b, hk, hm, rfl, rfl, HB, Ho⟩ := hrel
      by_cases hlt : k < n
      · obtain ⟨x, hx⟩ : ∃ x, l[k]? = some x := ⟨_, List.getElem?_eq_getElem (by have := Hl.out; omega)⟩
        obtain ⟨ad, rfl, hab, c0, c1⟩ := (Hr.out.below HB.out).two hx rfl
        have hbA := fun o => HB.out.alloc HB.out.size o
        cases hf : follow l x.1 with
        | none =>
          have Hf := Lib.hid hf
          have Hy := Lib.hid (endRaw_yes hx hf)
          clear hx hf
          go_wp2_with fail
          refine (implFollow _ l _ _ Hl.out _ _ hn (Hr.out.below (hbA _))).mono ?_
          rw [Hf.out, show resVal none = .tuple #[.string ByteArray.empty, .int .i64 0, .bool false] from rfl]
          rintro e w2 ⟨rfl, hb2⟩
          have d0 := below_cell hb2 (show (wr.alloc (Obj.cells #[.string x.1, .string x.2] 52)).cell? ⟨wr.heap.size, 0, none⟩ = some (.string x.1) from by rw [World.cell?_alloc_at _ _ _ _ rfl]; rfl)
          have HB2 := Lib.hid (below_step (hbA (Obj.cells #[.string x.1, .string x.2] 52)) hb2)
          have Ho2 := Lib.hid ((Ho.out.alloc (Obj.cells #[.string x.1, .string x.2] 52)).below hb2)
          clear hb2 hbA
          go_wp2_with (at_builtin; refine st_append1 (.tmp 28) (.tmp 31) 43 9 st_info Try.underlying43 rfl (by decide) rfl rfl x.1 rfl Ho2.out.len (Ho2.out.alloc _) rfl strEnc_len (st_cells x.1 rfl) (st_one _) (by omega) (by omega) (by have := HB2.out.size; simp; omega) ?_; intro rg rc rw ro rh rat)
          have rB := Lib.hid (below_ownS (HB2.out.alloc HB2.out.size (Obj.cells #[.string x.1] 9)) rh (Ho2.out.alloc _) (Nat.le_refl _) (by have := HB2.out.size; simp; omega))
          have rO := Lib.hid ro
          clear ro rh rat
          go_roundw
          case rel => exact ⟨k + 1, m + 1, _, rc, by omega, by omega, by go_num, rfl, rB.out, by rw [Hy.out]; exact rO.out⟩
          case measure => simp [intOf]; omega
        | some r =>
          obtain ⟨t, q⟩ := r
          have Hf := Lib.hid hf
          have Hy := Lib.hid (endRaw_no hx hf)
          clear hx hf
          go_wp2_with fail
          refine (implFollow _ l _ _ Hl.out _ _ hn (Hr.out.below (hbA _))).mono ?_
          rw [Hf.out, show resVal (some (t, q)) = .tuple #[.string t, .int .i64 q, .bool true] from rfl]
          rintro e w2 ⟨rfl, hb2⟩
          have HB2 := Lib.hid (below_step (hbA (Obj.cells #[.string x.1, .string x.2] 52)) hb2)
          have Ho2 := Lib.hid ((Ho.out.alloc (Obj.cells #[.string x.1, .string x.2] 52)).below hb2)
          clear hb2 hbA
          go_wp2
          go_roundw
          case rel => exact ⟨k + 1, m, B, b, by omega, by omega, by go_num, rfl, HB2.out, by rw [Hy.out]; exact Ho2.out⟩
          case measure => simp [intOf]; omega
      · obtain rfl : k = n := by omega
        have Ht : Hid (endRaw l (l.take k) = endRaw l l) := by show _ = _; rw [List.take_of_length_le (by rw [Hl.out]; exact Nat.le_refl _)]
        rcases Ho.out.2 with ⟨e0, -⟩ | ⟨g, c', cur, e0, -⟩
        · injection e0 with e1 e2 e3
          subst e1 e2 e3
          have Hz : Hid (endlessOf l = []) := by
            have h := Ho.out.len
            rw [Ht.out] at h
            show _ = _
            rw [Hn.out, List.eq_nil_of_length_eq_zero h.symm]; exact List.mergeSort_nil
          go_wp2_with fail
          refine (sortNil _).mono ?_
          rintro e w3 ⟨rfl, rfl⟩
          go_wp2
          go_ret
          exact ⟨none, 0, 0, rfl, by rw [Hz.out]; exact Own.nil_ _ _ _ _ _, HB.out⟩
        · injection e0 with e1 e2 e3
          subst e1 e3
          clear e2
          go_wp2_with fail
          refine (sliceSort1 g m b w.heap.size _ _ (by omega) Ho.out).mono ?_
          rintro e w3 ⟨rfl, ho3, hg3⟩
          have HO3 := Lib.hid ho3
          have HB3 := Lib.hid (below_ownS HB.out hg3 Ho.out (Nat.le_refl _) HB.out.size)
          clear ho3 hg3
          go_wp2
          go_ret
          exact ⟨_, m, b, rfl, by rw [Hn.out, ← Ht.out]; exact HO3.out, HB3.out⟩

set_option maxHeartbeats 2000000 in
set_option maxRecDepth 100000 in
theorem specEndless (A : Option Addr) (l : List Fw) (n cap : Nat) (hl : n = l.length) (w : World) (hn : n ≤ 16777216) (hs : ∀ x ∈ l, x.1.size ≤ 1048576 ∧ x.2.size ≤ 1048576) (h : Rd w 2 fwEnc A l) :
    Calls Try.prog 37 #[.slice A n cap] w fun e w' => StRes w w' (endlessOf l) e := by
  have Hl := Lib.hid hl
  have Hr := Lib.hid h
  have Hs := Lib.hid hs
  clear h hs hl
  cases hv : fwsOk l
  · have Hn : Hid (endlessOf l = []) := by show _ = _; unfold endlessOf; rw [hv]; rfl
    have Hv := Lib.hid hv
    clear hv
    by_cases h0 : 0 < n
    all_goals
      go_enter Try.func37, Try.ntmps37
      go_wp2
      go_loopw [3, 4] (fun o i wr => o = .slice (some ⟨w.heap.size, 0, none⟩) 0 0 ∧ i = .int .i64 0 ∧ wr = w.alloc (.cells #[] 9)) (fun _ _ _ => 0)
      case atStart => exact ⟨rfl, rfl, rfl⟩
      case round =>
        obtain ⟨rfl, rfl, rfl⟩ := hrel
        first
          | (go_wp2_with fail
             refine (specForwardsValid _ l _ _ Hl.out _ hn Hs.out (Hr.out.below ((Below.refl _ _).alloc (Nat.le_refl _) _))).mono ?_
             rw [Hv.out]
             rintro e w1 ⟨rfl, rfl⟩
             go_wp2
             go_ret
             exact ⟨_, 0, 0, rfl, by rw [Hn.out]; exact Own.lit0 w 9 1 strEnc, (Below.refl _ _).alloc (Nat.le_refl _) _⟩)
          | (go_wp2
             go_ret
             exact ⟨_, 0, 0, rfl, by rw [Hn.out]; exact Own.lit0 w 9 1 strEnc, (Below.refl _ _).alloc (Nat.le_refl _) _⟩)
  · have Hn : Hid (endlessOf l = insAll (endRaw l l)) := by show _ = _; unfold endlessOf; rw [hv, insAll_sort]; rfl
    have Hv := Lib.hid hv
    clear hv
    go_enter Try.func37, Try.ntmps37
    go_wp2
    go_loopw [3, 4] (fun o i wr => ∃ (k m : Nat) (B : Option Addr) (b : Nat), k ≤ n ∧ m ≤ k ∧ i = .int .i64 k ∧ o = .slice B m b ∧ Hid (Below w.heap.size w wr) ∧ Hid (Own wr w.heap.size 9 1 strEnc (.slice B m b) (insAll (endRaw l (l.take k))))) (fun _ i _ => n - (intOf i).toNat)
    case atStart => exact ⟨0, 0, _, 0, Nat.zero_le _, Nat.le_refl _, rfl, rfl, (Below.refl _ _).alloc (Nat.le_refl _) _, Own.lit0 w 9 1 strEnc⟩
    case round =>
      obtain ⟨k, m, B, b, hk, hm, rfl, rfl, HB, Ho⟩ := hrel
      by_cases hlt : k < n
      · obtain ⟨x, hx⟩ : ∃ x, l[k]? = some x := ⟨_, List.getElem?_eq_getElem (by have := Hl.out; omega)⟩
        obtain ⟨ad, rfl, hab, c0, c1⟩ := (Hr.out.below HB.out).two hx rfl
        cases hf : follow l x.1 with
        | none =>
          have Hf := Lib.hid hf
          have Hy := Lib.hid (endRaw_yes hx hf)
          clear hx hf
          go_wp2_with fail
          refine (specForwardsValid _ l _ _ Hl.out _ hn Hs.out (Hr.out.below HB.out)).mono ?_
          rw [Hv.out]
          rintro e w1 ⟨rfl, rfl⟩
          go_wp2_with fail
          refine (specFollow _ l _ _ Hl.out _ _ hn (Hr.out.below HB.out)).mono ?_
          rw [Hf.out, show resVal none = .tuple #[.string ByteArray.empty, .int .i64 0, .bool false] from rfl]
          rintro e w2 ⟨rfl, rfl⟩
          go_wp2_with fail
          refine (specInsert _ _ _ _ _ Ho.out.len _ (by omega) (Ho.out.rd strEnc_len)).mono ?_
          rintro e w2 ⟨B2, b2, rfl, ho2, hb2⟩
          have HB2 := Lib.hid (HB.out.trans (hb2.mono HB.out.size))
          have HO2 : Hid (Own w2 w.heap.size 9 1 strEnc (.slice B2 (m + 1) b2) (insAll (endRaw l (l.take (k + 1))))) := by
            rw [Hy.out, insAll_push]
            exact ho2.lower HB.out.size
          clear ho2 hb2
          go_wp2
          go_roundw
          case rel => exact ⟨k + 1, m + 1, B2, b2, by omega, by omega, by go_num, rfl, HB2.out, HO2.out⟩
          case measure => simp [intOf]; omega
        | some r =>
          obtain ⟨t, q⟩ := r
          have Hf := Lib.hid hf
          have Hy := Lib.hid (endRaw_no hx hf)
          clear hx hf
          go_wp2_with fail
          refine (specForwardsValid _ l _ _ Hl.out _ hn Hs.out (Hr.out.below HB.out)).mono ?_
          rw [Hv.out]
          rintro e w1 ⟨rfl, rfl⟩
          go_wp2_with fail
          refine (specFollow _ l _ _ Hl.out _ _ hn (Hr.out.below HB.out)).mono ?_
          rw [Hf.out, show resVal (some (t, q)) = .tuple #[.string t, .int .i64 q, .bool true] from rfl]
          rintro e w2 ⟨rfl, rfl⟩
          go_wp2
          go_roundw
          case rel => exact ⟨k + 1, m, B, b, by omega, by omega, by go_num, rfl, HB.out, by rw [Hy.out]; exact Ho.out⟩
          case measure => simp [intOf]; omega
      · obtain rfl : k = n := by omega
        have Ht : Hid (endRaw l (l.take k) = endRaw l l) := by show _ = _; rw [List.take_of_length_le (by rw [Hl.out]; exact Nat.le_refl _)]
        go_wp2
        go_ret
        exact ⟨B, m, b, rfl, by rw [Hn.out, ← Ht.out]; exact Ho.out, HB.out⟩
end Go.Proofs.Ytdpmjohfjpohjaa
