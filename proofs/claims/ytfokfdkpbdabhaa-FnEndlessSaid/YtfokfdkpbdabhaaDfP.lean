/-
  Where letters arrive: the plain law on chains.
-/
import Derived.Test.YtfokfdkpbdabhaaDfX1
import Derived.Test.YtfokfdkpbdabhaaFwD
namespace Go.Proofs.Ytfokfdkpbdabhaa
open Go.RowKit

set_option maxHeartbeats 1000000 in
set_option maxRecDepth 100000 in
theorem drawResolveC (A : Option Addr) (bs : List UInt8) (n cap : Nat) (hn : n = bs.length) (hc : n ≤ cap) (w : World) (hlen : n ≤ 1048576) (hr : Rd w 1 byEnc A bs) :
    Calls Try.prog 28 #[.slice A n cap] w fun e w' => ∃ A' n' c' l, ∃ s : Str, e = .returned (.tuple #[.slice A' n' c', .string s]) ∧ FwOut w w' A' n' c' l ∧ s.size ≤ 1048576 ∧ Below w.heap.size w w' := by
  have Hn := Lib.hid hn
  have Hr := Lib.hid hr
  clear hn hr
  go_enter Try.func28, Try.ntmps28
  go_wp2_with fail
  refine (drawNextC A bs n cap Hn.out hc _ hlen Hr.out).mono ?_
  rintro e w1 ⟨A1, n1, c1, l, s, rfl, ho, hs, hb⟩
  have HO := Lib.hid ho
  have HB := Lib.hid hb
  clear ho hb
  go_wp2
  go_ret2
  exact ⟨A1, n1, c1, l, s, rfl, HO.out, hs, HB.out⟩

/-- Different numbers below n are at most n. -/
theorem nodup_le : ∀ (n : Nat) (l : List Nat), l.Nodup → (∀ x ∈ l, x < n) → l.length ≤ n
  | 0, l, _, h => by
    cases l with
    | nil => exact Nat.le_refl _
    | cons x l => exact absurd (h x (by simp)) (by omega)
  | n + 1, l, hd, h => by
    by_cases hm : n ∈ l
    · have h1 := nodup_le n (l.erase n) (hd.erase n) (fun x hx => by
        have h2 := h x (List.mem_of_mem_erase hx)
        have h3 : x ≠ n := fun e => by subst e; exact (List.Nodup.not_mem_erase hd) hx
        omega)
      rw [List.length_erase_of_mem hm] at h1
      omega
    · exact Nat.le_succ_of_le (nodup_le n l hd (fun x hx => by
        have h2 := h x hx
        have h3 : x ≠ n := fun e => hm (e ▸ hx)
        omega))

/-- The count may start anywhere. -/
theorem followN_shift {l : List Fw} : ∀ (f : Nat) (c : Str) (n k : Nat), followN l f c (n + k) = (followN l f c n).map fun r => (r.1, r.2 + k)
  | 0, _, _, _ => rfl
  | f + 1, c, n, k => by
    cases hi : fwIdx l c with
    | none => rw [followN_none hi (by omega), followN_none hi (by omega)]; rfl
    | some j =>
      obtain ⟨⟨y, hy, -⟩, -⟩ := fwIdx_some.1 hi
      rw [followN_some hi hy rfl, followN_some hi hy rfl, show n + k + 1 = (n + 1) + k from by omega]
      exact followN_shift f y.2 (n + 1) k
/-- More rounds do not change where letters arrive. -/
theorem followN_more {l : List Fw} : ∀ (f g : Nat) (c : Str) (n : Nat) (r : Str × Nat), followN l f c n = some r → f ≤ g → followN l g c n = some r
  | 0, _, _, _, _, h, _ => by cases h
  | f + 1, g, c, n, r, h, hg => by
    obtain ⟨g', rfl⟩ : ∃ g', g = g' + 1 := ⟨g - 1, by omega⟩
    cases hi : fwIdx l c with
    | none => rw [followN_none hi (by omega)] at h ⊢; exact h
    | some j =>
      obtain ⟨⟨y, hy, -⟩, -⟩ := fwIdx_some.1 hi
      rw [followN_some hi hy rfl] at h ⊢
      exact followN_more f g' y.2 (n + 1) r h (by omega)
/-- The orders that are followed on the way: all different. -/
theorem followN_path {l : List Fw} : ∀ (f : Nat) (c d : Str) (m : Nat), followN l f c 0 = some (d, m) → ∃ is : List Nat, is.length = m ∧ is.Nodup ∧ (∀ i ∈ is, i < l.length) ∧ ∀ i ∈ is, ∀ x : Fw, l[i]? = some x → ∃ m', m' ≤ m ∧ 0 < m' ∧ ∀ g, f ≤ g → followN l g x.1 0 = some (d, m')
  | 0, _, _, _, h => by cases h
  | f + 1, c, d, m, h => by
    cases hi : fwIdx l c with
    | none =>
      rw [followN_none hi (by omega)] at h
      injection h with h
      injection h with h1 h2
      exact ⟨[], h2.symm ▸ rfl, List.nodup_nil, (fun i hi => by cases hi), (fun i hi => by cases hi)⟩
    | some j =>
      obtain ⟨⟨y, hy, hyc⟩, -⟩ := fwIdx_some.1 hi
      have h0 := h
      rw [followN_some hi hy rfl, followN_shift f y.2 0 1] at h
      cases hf : followN l f y.2 0 with
      | none => rw [hf] at h; cases h
      | some r =>
        obtain ⟨d', m0⟩ := r
        rw [hf] at h
        injection h with h
        injection h with h1 h2
        subst h1
        obtain ⟨is, hl, hnd, hlt, hp⟩ := followN_path f y.2 d' m0 hf
        have hjl := (List.getElem?_eq_some_iff.1 hy).1
        have hfull : ∀ g, f + 1 ≤ g → followN l g c 0 = some (d', m) := fun g hg => followN_more _ _ _ _ _ h0 hg
        refine ⟨j :: is, by simp [hl, ← h2], ?_, ?_, ?_⟩
        · refine List.nodup_cons.2 ⟨fun hmem => ?_, hnd⟩
          obtain ⟨m', hm', hm0, hg⟩ := hp j hmem y hy
          have e1 := hg (f + 1) (by omega)
          rw [hyc, hfull (f + 1) (Nat.le_refl _)] at e1
          injection e1 with e1
          injection e1 with _ e1
          simp only at h2
          omega
        · intro i hi
          rcases List.mem_cons.1 hi with rfl | hi
          · exact hjl
          · exact hlt i hi
        · intro i hi x hx
          rcases List.mem_cons.1 hi with rfl | hi
          · rw [hy] at hx
            injection hx with hx
            subst hx
            exact ⟨m, Nat.le_refl _, by simp only at h2; omega, fun g hg => by rw [hyc]; exact hfull g hg⟩
          · obtain ⟨m', h3, h4, h5⟩ := hp i hi x hx
            exact ⟨m', by simp only at h2; omega, h4, fun g hg => h5 g (by omega)⟩
/-- As many orders as there are, at the most, however many rounds are allowed. -/
theorem followN_few {l : List Fw} {f m : Nat} {c d : Str} (h : followN l f c 0 = some (d, m)) : m ≤ l.length := by
  obtain ⟨is, hl, hnd, hlt, -⟩ := followN_path f c d m h
  rw [← hl]
  exact nodup_le _ _ hnd hlt
/-- Rounds that suffice. -/
theorem followN_enough {l : List Fw} : ∀ (f g : Nat) (c d : Str) (n m : Nat), followN l f c n = some (d, n + m) → m < g → followN l g c n = some (d, n + m)
  | 0, _, _, _, _, _, h, _ => by cases h
  | f + 1, g, c, d, n, m, h, hg => by
    obtain ⟨g', rfl⟩ : ∃ g', g = g' + 1 := ⟨g - 1, by omega⟩
    cases hi : fwIdx l c with
    | none => rw [followN_none hi (by omega)] at h ⊢; exact h
    | some j =>
      obtain ⟨⟨y, hy, -⟩, -⟩ := fwIdx_some.1 hi
      rw [followN_some hi hy rfl] at h ⊢
      have h3 : ∃ m', m = m' + 1 := by
        have := followN_ge f y.2 (n + 1) d (n + m) h
        exact ⟨m - 1, by omega⟩
      obtain ⟨m', rfl⟩ := h3
      rw [show n + (m' + 1) = (n + 1) + m' from by omega] at h ⊢
      exact followN_enough f g' y.2 d (n + 1) m' h (by omega)
where followN_ge : ∀ (f : Nat) (c : Str) (n : Nat) (d : Str) (k : Nat), followN l f c n = some (d, k) → n ≤ k
  | 0, _, _, _, _, h => by cases h
  | f + 1, c, n, d, k, h => by
    cases hi : fwIdx l c with
    | none =>
      rw [followN_none hi (by omega)] at h
      injection h with h
      injection h with _ h
      omega
    | some j =>
      obtain ⟨⟨y, hy, -⟩, -⟩ := fwIdx_some.1 hi
      rw [followN_some hi hy rfl] at h
      have := followN_ge f y.2 (n + 1) d k h
      omega

/-- One order more. -/
theorem step_facts {l : List Fw} {s : Str} (hs : ∀ x ∈ l, x.1.size ≤ 1048576 ∧ x.2.size ≤ 1048576) (hn : l.length ≤ 31) :
    (nextOf l s = none ∧ (resolveOf l s = none ∨ resolveOf l s = some (s, 0))) ∨ (∃ d, d.size ≤ 1048576 ∧ nextOf l s = some d ∧ ((resolveOf l s = none ∧ resolveOf l d = none) ∨ ∃ e m, resolveOf l s = some (e, m + 1) ∧ resolveOf l d = some (e, m) ∧ m ≤ 40)) := by
  cases hv : fwsOk l
  · left
    unfold nextOf resolveOf
    rw [hv]
    exact ⟨rfl, .inl rfl⟩
  · cases hi : fwIdx l s with
    | none =>
      left
      unfold nextOf resolveOf
      rw [hv, if_pos rfl, fwNext_none hi]
      refine ⟨rfl, ?_⟩
      cases codeOk s
      · exact .inl rfl
      · exact .inr (followN_none hi (by omega))
    | some k =>
      right
      obtain ⟨⟨y, hy, hyc⟩, -⟩ := fwIdx_some.1 hi
      have hok := ((fwsOk_iff l).1 hv).2 k (List.getElem?_eq_some_iff.1 hy).1
      rw [fwOkAt_eq hy, Bool.and_eq_true, Bool.and_eq_true] at hok
      have hc1 : codeOk s = true := by rw [← hyc]; exact hok.1.1
      refine ⟨y.2, (hs y (List.mem_of_getElem? hy)).2, by unfold nextOf; rw [hv, if_pos rfl]; exact fwNext_some hi hy, ?_⟩
      have e1 : resolveOf l s = followN l l.length y.2 (0 + 1) := by
        unfold resolveOf follow
        rw [hv, hc1]
        exact followN_some hi hy rfl
      have e2 : resolveOf l y.2 = followN l (l.length + 1) y.2 0 := by
        unfold resolveOf follow
        rw [hv, hok.1.2]
        rfl
      rw [followN_shift] at e1
      cases hf : followN l (l.length + 1) y.2 0 with
      | none =>
        left
        refine ⟨?_, e2.trans hf⟩
        rw [e1]
        cases hf2 : followN l l.length y.2 0 with
        | none => rfl
        | some r => rw [followN_more _ _ _ _ _ hf2 (Nat.le_succ _)] at hf; cases hf
      | some r =>
        obtain ⟨e, m⟩ := r
        right
        have hfull : followN l (l.length + 1 + 1) s 0 = some (e, m + 1) := by
          rw [followN_some hi hy rfl, followN_shift, hf]; rfl
        have hm := followN_few hfull
        refine ⟨e, m, ?_, e2.trans hf, by omega⟩
        have := followN_enough (l.length + 1) l.length y.2 e 0 m (by rw [Nat.zero_add]; exact hf) (by omega)
        rw [Nat.zero_add] at this
        rw [e1, this]
        rfl
end Go.Proofs.Ytfokfdkpbdabhaa
