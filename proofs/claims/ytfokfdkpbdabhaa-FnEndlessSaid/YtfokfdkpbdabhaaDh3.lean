/-
  Two helpers of the laws: equal batches, a text in a list.
-/
import Derived.Test.YtfokfdkpbdabhaaDh2
namespace Go.Proofs.Ytfokfdkpbdabhaa
open Go.RowKit

set_option maxHeartbeats 1000000 in
set_option maxRecDepth 100000 in
theorem soBatchSame (A B : Option Addr) (l : List Lt) (n c d : Nat) (hl : n = l.length) (w : World) (hn : n ≤ 16777216) (h : Rd w 2 ltEnc A l) (h2 : Rd w 2 ltEnc B l) :
    Calls Try.prog 42 #[.slice A n c, .slice B n d] w fun e w' => e = .returned (.bool true) ∧ Below w.heap.size w w' := by
  have Hl := Lib.hid hl
  have Hr := Lib.hid h
  have Hs := Lib.hid h2
  clear h h2 hl
  go_enter Try.func42, Try.ntmps42
  go_wp2
  go_loopw [5] (fun i wr => ∃ j : Nat, j ≤ n ∧ i = .int .i64 j ∧ Below w.heap.size w wr) (fun i _ => n - (intOf i).toNat)
  case atStart => exact ⟨0, Nat.zero_le _, rfl, Below.refl _ _⟩
  case round =>
    obtain ⟨j, hj, rfl, hb⟩ := hrel
    by_cases hlt : j < n
    · obtain ⟨x, hx⟩ : ∃ x, l[j]? = some x := ⟨_, List.getElem?_eq_getElem (by have := Hl.out; omega)⟩
      obtain ⟨ad, rfl, hab, c0, c1⟩ := (Hr.out.below hb).two hx rfl
      obtain ⟨bd, rfl, hbb, d0, d1⟩ := (Hs.out.below hb).two hx rfl
      clear hx
      go_wp2
      go_quiet (fail)
      go_wp2
      go_roundw
      case rel => exact ⟨j + 1, by omega, by go_num, below_drewN hb _⟩
      case measure => simp [intOf]; omega
    · obtain rfl : j = n := by omega
      go_wp2
      go_ret
      exact ⟨rfl, hb⟩
theorem strHas_at {l : List Str} {c : Str} {k : Nat} (h : l[k]? = some c) : strHas l c = true := by
  unfold strHas
  cases hi : strIdx l c with
  | some _ => rfl
  | none => exact absurd rfl (strIdx_none.1 hi k c h)
theorem strHas_no {l : List Str} {c : Str} (h : ∀ (i : Nat) (x : Str), l[i]? = some x → x ≠ c) : strHas l c = false := by
  unfold strHas
  rw [strIdx_none.2 h]; rfl

set_option maxHeartbeats 1000000 in
set_option maxRecDepth 100000 in
theorem soHasC (A : Option Addr) (l : List Str) (n c : Nat) (s : Str) (hl : n = l.length) (w : World) (hn : n ≤ 16777216) (h : Rd w 1 strEnc A l) :
    Calls Try.prog 43 #[.slice A n c, .string s] w fun e w' => e = .returned (.bool (strHas l s)) ∧ w = w' := by
  have Hl := Lib.hid hl
  have Hr := Lib.hid h
  clear h hl
  go_enter Try.func43, Try.ntmps43
  go_wp2
  go_loopw [5] (fun i wr => ∃ j : Nat, j ≤ n ∧ i = .int .i64 j ∧ wr = w ∧ Hid (∀ (i : Nat) (x : Str), i < j → l[i]? = some x → x ≠ s)) (fun i _ => n - (intOf i).toNat)
  case atStart => exact ⟨0, Nat.zero_le _, rfl, rfl, fun i x h => by omega⟩
  case round =>
    obtain ⟨j, hj, rfl, rfl, H⟩ := hrel
    by_cases hlt : j < n
    · obtain ⟨x, hx⟩ : ∃ x, l[j]? = some x := ⟨_, List.getElem?_eq_getElem (by have := Hl.out; omega)⟩
      obtain ⟨ad, rfl, hab, c0⟩ := Hr.out.one hx rfl
      have Hx := Lib.hid hx
      clear hx
      by_cases he : x = s
      · subst he
        have Ht := Lib.hid (strHas_at Hx.out)
        have hq := str_t (a := x) rfl
        go_wp2
        go_ret
        exact ⟨ret_bool Ht.out.symm, rfl⟩
      · have hq := str_f he
        have hq' := str_f (fun e => he e.symm)
        go_wp2
        go_roundw
        case rel => exact ⟨j + 1, by omega, by go_num, (by first | exact trivial | rfl), fun i y hi hy => if e : i = j then by subst e; rw [Hx.out] at hy; injection hy with hy; subst hy; exact he else H.out i y (by omega) hy⟩
        case measure => simp [intOf]; omega
    · obtain rfl : j = n := by omega
      have Ht := Lib.hid (strHas_no (l := l) (c := s) fun i x hx => H.out i x (by rw [Hl.out]; exact (List.getElem?_eq_some_iff.1 hx).1) hx)
      go_wp2
      go_ret
      exact ⟨ret_bool Ht.out.symm, rfl⟩

theorem filter_at {α : Type} {p : α → Bool} {l : List α} {j : Nat} {x : α} (hx : l[j]? = some x) (hp : p x = true) : (l.filter p)[((l.take j).filter p).length]? = some x := by
  have hj := (List.getElem?_eq_some_iff.1 hx).1
  have e : l = l.take j ++ x :: l.drop (j + 1) := by
    have h2 := List.drop_eq_getElem_cons hj
    rw [(List.getElem?_eq_some_iff.1 hx).2] at h2
    rw [← h2, List.take_append_drop]
  rw [show l.filter p = (l.take j ++ x :: l.drop (j + 1)).filter p from congrArg _ e, List.filter_append, List.filter_cons_of_pos hp, List.getElem?_append_right (Nat.le_refl _), Nat.sub_self]
  rfl
end Go.Proofs.Ytfokfdkpbdabhaa
