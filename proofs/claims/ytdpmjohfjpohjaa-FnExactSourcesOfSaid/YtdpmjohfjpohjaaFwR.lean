/-
  Removing and adding orders: the program's withoutOrder, RemoveForward, AddForward and the reference's.
-/
import Derived.Test.YtdpmjohfjpohjaaFwC
import Derived.Test.YtdpmjohfjpohjaaFwL
namespace Go.Proofs.Ytdpmjohfjpohjaa
open Go.RowKit

/-- The first k orders without the one with an index. -/
def dropTo (l : List Fw) (at_ : Int) : Nat → List Fw
  | 0 => []
  | k + 1 => if (k : Int) = at_ then dropTo l at_ k else dropTo l at_ k ++ (l[k]?).toList
theorem dropTo_len (l : List Fw) (at_ : Int) : ∀ k, (dropTo l at_ k).length ≤ k
  | 0 => Nat.le_refl _
  | k + 1 => by
    have := dropTo_len l at_ k
    unfold dropTo
    split
    · omega
    · cases l[k]? <;> simp <;> omega
theorem dropTo_skip {l : List Fw} {at_ : Int} {k : Nat} (h : (k : Int) = at_) : dropTo l at_ (k + 1) = dropTo l at_ k := by simp only [dropTo, if_pos h]
theorem dropTo_take {l : List Fw} {at_ : Int} {k : Nat} {x : Fw} (h : ¬ (k : Int) = at_) (hx : l[k]? = some x) : dropTo l at_ (k + 1) = dropTo l at_ k ++ [x] := by simp only [dropTo, if_neg h, hx, Option.toList]

theorem fwEnc_one (x : Fw) : ∀ u ∈ fwEnc x, u.oneCell' = true := by
  intro u hu
  simp [fwEnc] at hu
  rcases hu with rfl | rfl <;> rfl
theorem fwEnc_cells {w : World} {g : Nat} {t : TypeId} (x : Fw) (hg : g = w.heap.size) : ∀ j u, (fwEnc x)[j]? = some u → (w.alloc (.cells #[.string x.1, .string x.2] t)).cell? ((⟨g, 0, none⟩ : Addr).add j) = some u := by
  subst hg
  intro j u hu
  match j, hu with
  | 0, hu => simp [fwEnc] at hu; subst hu; simp [Addr.add]
  | 1, hu => simp [fwEnc] at hu; subst hu; simp [Addr.add]

set_option maxHeartbeats 1000000 in
set_option maxRecDepth 100000 in
theorem implWithout (A : Option Addr) (l : List Fw) (n cap : Nat) (hl : n = l.length) (at_ : Int) (w : World) (hn : n ≤ 16777216) (h : Rd w 2 fwEnc A l) :
    Calls Try.prog 54 #[.slice A n cap, .int .i64 at_] w fun e w' => ∃ A' c, e = .returned (.slice A' (dropTo l at_ l.length).length c) ∧ Own w' w.heap.size 52 2 fwEnc (.slice A' (dropTo l at_ l.length).length c) (dropTo l at_ l.length) ∧ Below w.heap.size w w' := by
  subst hl
  have Hr := Lib.hid h
  clear h
  obtain ⟨i0, hi, hz0, hz1, hz2⟩ := info_parts fw_info
  go_enter Try.func54, Try.ntmps54
  go_wp2_with (at_make; refine wpList_make_own _ rfl _ _ 25 rfl w.heap.size 52 i0 _ 2 Try.underlying25 hi hz0 hz1 .i64 .i64 _ (l.length + 1) rfl rfl (by omega) (by rw [hz2]; omega) (by unfold maxLen; omega) (Nat.le_refl _) ?_; intro w1 hown1 hg1)
  have Hown1 : Hid (Own w1 w.heap.size 52 2 fwEnc (.slice (some ⟨w.heap.size, 0, none⟩) 0 (l.length + 1)) []) := hown1
  have hb1 : Below w.heap.size w w1 := grown_below hg1 (fun _ e => by cases e)
  clear hown1 hg1
  go_wp2_with fail
  go_loopw [5, 14] (fun v i wr => ∃ k : Nat, k ≤ l.length ∧ i = .int .i64 k ∧ Below w.heap.size w wr ∧ ∃ A' c, v = .slice A' (dropTo l at_ k).length c ∧ Hid (Own wr w.heap.size 52 2 fwEnc (.slice A' (dropTo l at_ k).length c) (dropTo l at_ k))) (fun _ i _ => l.length - (intOf i).toNat)
  case atStart => exact ⟨0, Nat.zero_le _, rfl, hb1, _, _, rfl, Hown1.out⟩
  case round =>
    obtain ⟨k, hk, rfl, hb, A', c, rfl, Hk⟩ := hrel
    clear Hown1 hb1
    by_cases hlt : k < l.length
    · obtain ⟨x, hx⟩ : ∃ x, l[k]? = some x := ⟨_, List.getElem?_eq_getElem hlt⟩
      obtain ⟨ad, rfl, hab, c0, c1⟩ := (Hr.out.below hb).two hx rfl
      have Hx := Lib.hid hx
      clear hx
      by_cases he : (k : Int) = at_
      · have hne : ((k : Int) != at_) = false := by simp [he]
        have Hd := Lib.hid (dropTo_skip (l := l) he)
        clear he
        go_wp2
        go_roundw
        case rel => exact ⟨k + 1, by omega, by go_num, hb.alloc hb.size _, A', c, by rw [Hd.out], by rw [Hd.out]; exact Hk.out.below ((Below.refl _ _).alloc (Nat.le_refl _) _)⟩
        case measure => simp [intOf]; omega
      · have hne : ((k : Int) != at_) = true := by simp [he]
        have Hd := Lib.hid (dropTo_take (l := l) he Hx.out)
        have hdl := dropTo_len l at_ k
        clear he
        go_wp2_with (at_builtin; refine wpList_append1 (.tmp 22) (.tmp 24) 25 52 fw_info Try.underlying25 rfl (by decide) rfl rfl x rfl ((Hk.out.alloc _).alloc _) rfl fwEnc_len (fwEnc_cells x (by simp)) (fwEnc_one x) (by omega) (by omega) (by have := hb.size; simp; omega) ?_; intro A2 c2 w2 ho2 hg2)
        have hb2 : Below w.heap.size w w2 := ((hb.alloc hb.size _).alloc (by have := hb.size; simp; omega) _).grown hg2 (by have := hb.size; simp; omega) (fun k hk => (Hk.out.lt k hk).1)
        go_roundw
        case rel => exact ⟨k + 1, by omega, by go_num, hb2, A2, c2, by rw [Hd.out, List.length_append]; rfl, by rw [Hd.out, List.length_append]; exact ho2⟩
        case measure => simp [intOf]; omega
    · obtain rfl : k = l.length := by omega
      go_wp2
      go_ret
      exact ⟨A', c, rfl, Hk.out, hb⟩

set_option maxHeartbeats 1000000 in
set_option maxRecDepth 100000 in
theorem specWithout (A : Option Addr) (l : List Fw) (n cap : Nat) (hl : n = l.length) (at_ : Int) (w : World) (hn : n ≤ 16777216) (h : Rd w 2 fwEnc A l) :
    Calls Try.prog 53 #[.slice A n cap, .int .i64 at_] w fun e w' => ∃ A' c, e = .returned (.slice A' (dropTo l at_ l.length).length c) ∧ Own w' w.heap.size 52 2 fwEnc (.slice A' (dropTo l at_ l.length).length c) (dropTo l at_ l.length) ∧ Below w.heap.size w w' := by
  subst hl
  have Hr := Lib.hid h
  clear h
  have Hown1 : Hid (Own (w.alloc (.cells #[] 52)) w.heap.size 52 2 fwEnc (.slice (some ⟨w.heap.size, 0, none⟩) 0 0) []) := Own.lit0 _ _ _ _
  go_enter Try.func53, Try.ntmps53
  go_wp2
  go_loopw [5, 6] (fun v i wr => ∃ k : Nat, k ≤ l.length ∧ i = .int .i64 k ∧ Below w.heap.size w wr ∧ ∃ A' c, v = .slice A' (dropTo l at_ k).length c ∧ Hid (Own wr w.heap.size 52 2 fwEnc (.slice A' (dropTo l at_ k).length c) (dropTo l at_ k))) (fun _ i _ => l.length - (intOf i).toNat)
  case atStart => exact ⟨0, Nat.zero_le _, rfl, (Below.refl _ _).alloc (Nat.le_refl _) _, _, _, rfl, Hown1.out⟩
  case round =>
    obtain ⟨k, hk, rfl, hb, A', c, rfl, Hk⟩ := hrel
    clear Hown1
    by_cases hlt : k < l.length
    · obtain ⟨x, hx⟩ : ∃ x, l[k]? = some x := ⟨_, List.getElem?_eq_getElem hlt⟩
      obtain ⟨ad, rfl, hab, c0, c1⟩ := (Hr.out.below hb).two hx rfl
      have Hx := Lib.hid hx
      clear hx
      by_cases he : (k : Int) = at_
      · have hne : ((k : Int) != at_) = false := by simp [he]
        have Hd := Lib.hid (dropTo_skip (l := l) he)
        clear he
        go_wp2
        go_roundw
        case rel => exact ⟨k + 1, by omega, by go_num, hb, A', c, by rw [Hd.out], by rw [Hd.out]; exact Hk.out⟩
        case measure => simp [intOf]; omega
      · have hne : ((k : Int) != at_) = true := by simp [he]
        have Hd := Lib.hid (dropTo_take (l := l) he Hx.out)
        have hdl := dropTo_len l at_ k
        clear he
        go_wp2_with (at_builtin; refine wpList_append1 (.tmp 17) (.tmp 22) 25 52 fw_info Try.underlying25 rfl (by decide) rfl rfl x rfl (Hk.out.alloc _) rfl fwEnc_len (fwEnc_cells x rfl) (fwEnc_one x) (by omega) (by omega) (by have := hb.size; simp; omega) ?_; intro A2 c2 w2 ho2 hg2)
        have hb2 : Below w.heap.size w w2 := (hb.alloc hb.size _).grown hg2 (by have := hb.size; simp; omega) (fun k hk => (Hk.out.lt k hk).1)
        go_roundw
        case rel => exact ⟨k + 1, by omega, by go_num, hb2, A2, c2, by rw [Hd.out, List.length_append]; rfl, by rw [Hd.out, List.length_append]; exact ho2⟩
        case measure => simp [intOf]; omega
    · obtain rfl : k = l.length := by omega
      go_wp2
      go_ret
      exact ⟨A', c, rfl, Hk.out, hb⟩

/-- What is left without the order for a code. -/
def removeOf (l : List Fw) (c : Str) : Option (List Fw) := if fwsOk l then (fwIdx l c).map fun k => dropTo l k l.length else none
/-- A list of orders or none: as two results. -/
def FwRes (w w' : World) (r : Option (List Fw)) (e : Ending) : Prop :=
  ∃ (A : Option Addr) (n c : Nat), e = .returned (.tuple #[.slice A n c, .bool r.isSome]) ∧ Own w' w.heap.size 52 2 fwEnc (.slice A n c) (r.getD []) ∧ Below w.heap.size w w'

theorem FwRes.none_ {w w' : World} (hb : Below w.heap.size w w') : FwRes w w' none (.returned (.tuple #[.slice none 0 0, .bool false])) := ⟨none, 0, 0, rfl, Own.nil_ _ _ _ _ _, hb⟩
theorem FwRes.none_lit {w w1 : World} (hb : Below w.heap.size w w1) : FwRes w (w1.alloc (.cells #[] 52)) none (.returned (.tuple #[.slice (some ⟨w1.heap.size, 0, none⟩) 0 0, .bool false])) :=
  ⟨_, 0, 0, rfl, (Own.lit0 _ _ _ _).lower hb.size, hb.alloc hb.size _⟩
theorem FwRes.some_ {w w' : World} {A : Option Addr} {n c : Nat} {l : List Fw} (h : Own w' w.heap.size 52 2 fwEnc (.slice A n c) l) (hb : Below w.heap.size w w') : FwRes w w' (some l) (.returned (.tuple #[.slice A n c, .bool true])) := ⟨A, n, c, rfl, h, hb⟩

set_option maxHeartbeats 1000000 in
theorem implRemove (A : Option Addr) (l : List Fw) (n cap : Nat) (hl : n = l.length) (hcap : n ≤ cap) (c : Str) (w : World) (hn : n ≤ 16777216) (hs : ∀ x ∈ l, x.1.size ≤ 1048576 ∧ x.2.size ≤ 1048576) (h : Rd w 2 fwEnc A l) :
    Calls Try.prog 26 #[.slice A n cap, .string c] w fun e w' => FwRes w w' (removeOf l c) e := by
  have Hr := Lib.hid h
  have Hs := Lib.hid hs
  have Hl := Lib.hid hl
  clear h hs hl
  cases hv : fwsOk l
  · have Hn : Hid (removeOf l c = none) := by show removeOf l c = none; unfold removeOf; rw [hv]; rfl
    go_enter Try.func26, Try.ntmps26
    go_wp2_with (go_at_call 17; refine (implForwardsValid _ l _ _ Hl.out hcap _ hn Hs.out Hr.out).mono ?_; rintro e w1 ⟨rfl, hb1⟩)
    go_ret2
    rw [Hn.out]
    exact FwRes.none_ hb1
  · cases hi : fwIdx l c with
    | none =>
      have Hn : Hid (removeOf l c = none) := by show removeOf l c = none; unfold removeOf; rw [hv, hi]; rfl
      have Hi := Lib.hid hi
      clear hi
      go_enter Try.func26, Try.ntmps26
      go_wp2_with (first
        | (go_at_call 17; refine (implForwardsValid _ l _ _ Hl.out hcap _ hn Hs.out Hr.out).mono ?_; rintro e w1 ⟨rfl, hb1⟩)
        | (go_at_call 49; refine (implForwardOf _ l _ _ Hl.out _ _ (by omega) (Hr.out.below hb1)).mono ?_; rw [Hi.out, show idxInt none = -1 from rfl]; rintro e w2 ⟨rfl, hb2⟩))
      go_ret2
      rw [Hn.out]
      exact FwRes.none_ (below_step hb1 hb2)
    | some m =>
      have Hn : Hid (removeOf l c = some (dropTo l m l.length)) := by show removeOf l c = _; unfold removeOf; rw [hv, hi]; rfl
      have Hi := Lib.hid hi
      clear hi
      go_enter Try.func26, Try.ntmps26
      go_wp2_with (first
        | (go_at_call 17; refine (implForwardsValid _ l _ _ Hl.out hcap _ hn Hs.out Hr.out).mono ?_; rintro e w1 ⟨rfl, hb1⟩)
        | (go_at_call 49; refine (implForwardOf _ l _ _ Hl.out _ _ (by omega) (Hr.out.below hb1)).mono ?_; rw [Hi.out, show idxInt (some m) = (m : Int) from rfl]; rintro e w2 ⟨rfl, hb2⟩)
        | (go_at_call 54; refine (implWithout _ l _ _ Hl.out _ _ hn ((Hr.out.below hb1).below hb2)).mono ?_; rintro e w3 ⟨A3, c3, rfl, ho3, hb3⟩))
      go_ret2
      rw [Hn.out]
      exact FwRes.some_ (ho3.lower (below_step hb1 hb2).size) (below_step (below_step hb1 hb2) hb3)

set_option maxHeartbeats 1000000 in
theorem specRemove (A : Option Addr) (l : List Fw) (n cap : Nat) (hl : n = l.length) (c : Str) (w : World) (hn : n ≤ 16777216) (hs : ∀ x ∈ l, x.1.size ≤ 1048576 ∧ x.2.size ≤ 1048576) (h : Rd w 2 fwEnc A l) :
    Calls Try.prog 25 #[.slice A n cap, .string c] w fun e w' => FwRes w w' (removeOf l c) e := by
  have Hr := Lib.hid h
  have Hs := Lib.hid hs
  have Hl := Lib.hid hl
  clear h hs hl
  cases hi : fwIdx l c with
  | none =>
    have Hn : Hid (removeOf l c = none) := by show removeOf l c = none; unfold removeOf; rw [hi]; simp
    have Hi := Lib.hid hi
    clear hi
    cases hv : fwsOk l
    all_goals
      go_enter Try.func25, Try.ntmps25
      go_wp2_with (first
        | (go_at_call 15; refine (specForwardsValid _ l _ _ Hl.out _ hn Hs.out Hr.out).mono ?_; rintro e w1 ⟨rfl, rfl⟩)
        | (go_at_call 46; refine (specIndex _ l _ _ Hl.out _ _ (by omega) Hr.out).mono ?_; rw [Hi.out, show idxInt none = -1 from rfl]; rintro e w2 ⟨rfl, rfl⟩))
      go_ret2
      rw [Hn.out]
      exact FwRes.none_lit (Below.refl _ _)
  | some m =>
    have Hi := Lib.hid hi
    cases hv : fwsOk l
    · have Hn : Hid (removeOf l c = none) := by show removeOf l c = none; unfold removeOf; rw [hv]; rfl
      clear hi
      go_enter Try.func25, Try.ntmps25
      go_wp2_with (first
        | (go_at_call 15; refine (specForwardsValid _ l _ _ Hl.out _ hn Hs.out Hr.out).mono ?_; rintro e w1 ⟨rfl, rfl⟩)
        | (go_at_call 46; refine (specIndex _ l _ _ Hl.out _ _ (by omega) Hr.out).mono ?_; rw [Hi.out, show idxInt (some m) = (m : Int) from rfl]; rintro e w2 ⟨rfl, rfl⟩))
      go_ret2
      rw [Hn.out]
      exact FwRes.none_lit (Below.refl _ _)
    · have Hn : Hid (removeOf l c = some (dropTo l m l.length)) := by show removeOf l c = _; unfold removeOf; rw [hv, hi]; rfl
      clear hi
      go_enter Try.func25, Try.ntmps25
      go_wp2_with (first
        | (go_at_call 15; refine (specForwardsValid _ l _ _ Hl.out _ hn Hs.out Hr.out).mono ?_; rintro e w1 ⟨rfl, rfl⟩)
        | (go_at_call 46; refine (specIndex _ l _ _ Hl.out _ _ (by omega) Hr.out).mono ?_; rw [Hi.out, show idxInt (some m) = (m : Int) from rfl]; rintro e w2 ⟨rfl, rfl⟩)
        | (go_at_call 53; refine (specWithout _ l _ _ Hl.out _ _ hn Hr.out).mono ?_; rintro e w3 ⟨A3, c3, rfl, ho3, hb3⟩))
      go_ret2
      rw [Hn.out]
      exact FwRes.some_ ho3 hb3
end Go.Proofs.Ytdpmjohfjpohjaa
