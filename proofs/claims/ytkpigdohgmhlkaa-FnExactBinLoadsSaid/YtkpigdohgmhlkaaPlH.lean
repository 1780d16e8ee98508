/-
  Held letters: the program's and the reference's.
-/
import Derived.Test.YtkpigdohgmhlkaaPlY
namespace Go.Proofs.Ytkpigdohgmhlkaa
open Go.RowKit

theorem ltEnc_cells {w : World} (x : Lt) {g : Nat} (hg : g = w.heap.size) : ∀ (j : Nat) (u : Value), (ltEnc x)[j]? = some u → (w.alloc (.cells #[.int .i64 x.1, .string x.2] 82)).cell? (Addr.add ⟨g, 0, none⟩ j) = some u := by
  intro j u hu
  match j, hu with
  | 0, hu => simp [ltEnc] at hu; subst hu; exact World.cell?_alloc_at _ _ _ 0 hg
  | 1, hu => simp [ltEnc] at hu; subst hu; exact World.cell?_alloc_at _ _ _ 1 hg

def heldOkB (h : List Str) : Bool := decide (h.length ≤ 30) && h.all codeOk
theorem heldOkB_long {h : List Str} (e : ¬ h.length ≤ 30) : heldOkB h = false := by unfold heldOkB; rw [decide_eq_false e]; rfl
theorem heldOkB_bad {h : List Str} {k : Nat} {x : Str} (hx : h[k]? = some x) (e : codeOk x = false) : heldOkB h = false := by
  unfold heldOkB
  rw [Bool.and_eq_false_iff]
  right
  rw [List.all_eq_false]
  exact ⟨x, List.mem_of_getElem? hx, by simp [e]⟩
theorem heldOkB_good {h : List Str} (e1 : h.length ≤ 30) (e : ∀ (j : Nat) (x : Str), h[j]? = some x → codeOk x = true) : heldOkB h = true := by
  unfold heldOkB
  rw [decide_eq_true e1, Bool.true_and, List.all_eq_true]
  intro x hx
  obtain ⟨k, hk, rfl⟩ := List.getElem_of_mem hx
  exact e k _ (List.getElem?_eq_getElem hk)

set_option maxHeartbeats 1000000 in
theorem implHeldValid (A : Option Addr) (l : List Str) (n cap : Nat) (hl : n = l.length) (w : World) (hn : n ≤ 16777216) (hs : ∀ x ∈ l, x.size ≤ 1048576) (h : Rd w 1 strEnc A l) :
    Calls Try.prog 91 #[.slice A n cap] w fun e w' => e = .returned (.bool (heldOkB l)) ∧ w = w' := by
  have Hl := Lib.hid hl
  have Hr := Lib.hid h
  have Hs := Lib.hid hs
  clear h hs hl
  by_cases hlong : n ≤ 30
  · go_enter Try.func91, Try.ntmps91
    go_wp2
    go_loop [10] (fun i => ∃ k : Nat, k ≤ n ∧ i = .int .i64 k ∧ Hid (∀ (j : Nat) (x : Str), j < k → l[j]? = some x → codeOk x = true)) (fun i => n - (intOf i).toNat)
    case atStart => exact ⟨0, Nat.zero_le _, rfl, fun j x hj => absurd hj (by omega)⟩
    case round =>
      obtain ⟨k, hk, rfl, H⟩ := hrel
      by_cases hlt : k < n
      · obtain ⟨x, hx⟩ : ∃ x, l[k]? = some x := ⟨_, List.getElem?_eq_getElem (by have := Hl.out; omega)⟩
        have hs1 := Hs.out x (List.mem_of_getElem? hx)
        obtain ⟨ad, rfl, hab, c0⟩ := Hr.out.one hx rfl
        have Hx := Lib.hid hx
        clear hx
        cases hc : codeOk x
        · have Hbad : Hid (heldOkB l = false) := heldOkB_bad Hx.out hc
          go_wp2_with (go_at_call 94; refine (implCodeValid _ (by omega) _).mono ?_; rw [hc]; rintro e w1 ⟨rfl, rfl⟩)
          go_ret
          exact ⟨ret_bool Hbad.out.symm, rfl⟩
        · go_wp2_with (go_at_call 94; refine (implCodeValid _ (by omega) _).mono ?_; rw [hc]; rintro e w1 ⟨rfl, rfl⟩)
          go_round
          case rel => exact ⟨k + 1, by omega, by go_num, fun j y hj hy => if e : j = k then (by subst e; rw [Hx.out] at hy; injection hy with hy; subst hy; exact hc) else H.out j y (by omega) hy⟩
          case measure => simp [intOf]; omega
      · obtain rfl : k = n := by omega
        go_wp2
        go_ret
        exact ⟨ret_bool (heldOkB_good (by have := Hl.out; omega) fun j x hx => H.out j x (by have := Hl.out; have := (List.getElem?_eq_some_iff.1 hx).1; omega) hx).symm, rfl⟩
  · have Hd := Lib.hid (heldOkB_long (h := l) (by have := Hl.out; omega))
    go_enter Try.func91, Try.ntmps91
    go_wp2
    go_ret
    exact ⟨ret_bool Hd.out.symm, rfl⟩
end Go.Proofs.Ytkpigdohgmhlkaa
