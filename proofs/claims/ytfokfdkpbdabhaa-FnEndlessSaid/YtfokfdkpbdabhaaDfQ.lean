/-
  When an order can be added: the plain law.
-/
import Derived.Test.YtfokfdkpbdabhaaDfAd
namespace Go.Proofs.Ytfokfdkpbdabhaa
open Go.RowKit

theorem fwIdx_append_some {l r : List Fw} {c : Str} {k : Nat} (h : fwIdx l c = some k) : fwIdx (l ++ r) c = some k := by
  obtain ⟨⟨x, hx, hc⟩, hb⟩ := fwIdx_some.1 h
  have hk := (List.getElem?_eq_some_iff.1 hx).1
  exact fwIdx_some.2 ⟨⟨x, by rw [List.getElem?_append_left hk]; exact hx, hc⟩, fun i y hi hy => hb i y hi (by rwa [List.getElem?_append_left (by omega)] at hy)⟩
theorem fwIdx_append_none {l r : List Fw} {c : Str} (h : fwIdx l c = none) (h2 : ∀ x ∈ r, x.1 ≠ c) : fwIdx (l ++ r) c = none := by
  rw [fwIdx_none] at h ⊢
  intro i x hx
  by_cases hi : i < l.length
  · rw [List.getElem?_append_left hi] at hx
    exact h i x hx
  · rw [List.getElem?_append_right (by omega)] at hx
    exact h2 x (List.mem_of_getElem? hx)
theorem fwIdx_append_new {l : List Fw} {f t : Str} (h : fwIdx l f = none) : fwIdx (l ++ [(f, t)]) f = some l.length := by
  refine fwIdx_some.2 ⟨⟨(f, t), by simp, rfl⟩, fun i y hi hy => ?_⟩
  rw [List.getElem?_append_left hi] at hy
  exact fwIdx_none.1 h i y hy

/-- Without the new order the same way is gone, unless it ends at the new order's code. -/
theorem added_same {l : List Fw} {f t : Str} : ∀ (g : Nat) (c e : Str) (n m : Nat), followN l g c n = some (e, m) → e ≠ f → followN (l ++ [(f, t)]) g c n = some (e, m)
  | 0, _, _, _, _, h, _ => by cases h
  | g + 1, c, e, n, m, h, he => by
    cases hi : fwIdx l c with
    | none =>
      rw [followN_none hi (by omega)] at h
      have hce : c = e := by injection h with h; injection h
      subst hce
      rw [followN_none (fwIdx_append_none hi (fun x hx => by simp at hx; subst hx; exact fun e => he e.symm)) (by omega)]
      exact h
    | some j =>
      obtain ⟨⟨y, hy, -⟩, -⟩ := fwIdx_some.1 hi
      have hj := (List.getElem?_eq_some_iff.1 hy).1
      rw [followN_some hi hy rfl] at h
      rw [followN_some (fwIdx_append_some hi) (by rw [List.getElem?_append_left hj]; exact hy) rfl]
      exact added_same g y.2 e (n + 1) m h he
/-- Whatever arrives with the new order arrives without it. -/
theorem added_back {l : List Fw} {f t : Str} : ∀ (g : Nat) (c : Str) (n : Nat) (r : Str × Nat), followN (l ++ [(f, t)]) g c n = some r → ∃ r', followN l g c n = some r'
  | 0, _, _, _, h => by cases h
  | g + 1, c, n, r, h => by
    cases hi : fwIdx l c with
    | none => exact ⟨_, followN_none hi (by omega)⟩
    | some j =>
      obtain ⟨⟨y, hy, -⟩, -⟩ := fwIdx_some.1 hi
      have hj := (List.getElem?_eq_some_iff.1 hy).1
      rw [followN_some (fwIdx_append_some hi) (by rw [List.getElem?_append_left hj]; exact hy) rfl] at h
      rw [followN_some hi hy rfl]
      exact added_back g y.2 (n + 1) r h
/-- A way that ends at the new order's code goes on from there. -/
theorem added_on {l : List Fw} {f t : Str} : ∀ (g : Nat) (c : Str) (m : Nat), followN l g c 0 = some (f, m) → ∀ F, followN (l ++ [(f, t)]) (m + F) c 0 = (followN (l ++ [(f, t)]) F f 0).map fun r => (r.1, r.2 + m)
  | 0, _, _, h, _ => by cases h
  | g + 1, c, m, h, F => by
    cases hi : fwIdx l c with
    | none =>
      rw [followN_none hi (by omega)] at h
      injection h with h
      injection h with h1 h2
      subst h1 h2
      rw [Nat.zero_add]
      cases followN (l ++ [(c, t)]) F c 0 <;> rfl
    | some j =>
      obtain ⟨⟨y, hy, -⟩, -⟩ := fwIdx_some.1 hi
      have hj := (List.getElem?_eq_some_iff.1 hy).1
      rw [followN_some hi hy rfl, followN_shift g y.2 0 1] at h
      cases hr : followN l g y.2 0 with
      | none => rw [hr] at h; cases h
      | some r =>
        obtain ⟨d, m0⟩ := r
        rw [hr] at h
        injection h with h
        injection h with h1 h2
        simp only at h1 h2
        subst h1 h2
        rw [followN_some (fwIdx_append_some hi) (by rw [List.getElem?_append_left hj]; exact hy) (show m0 + 1 + F = (m0 + F) + 1 by omega), followN_shift _ y.2 0 1, added_on g y.2 m0 hr F]
        cases followN (l ++ [(d, t)]) F d 0 with
        | none => rfl
        | some r => simp only [Option.map_some]; congr 2
/-- Letters for the new order's code arrive exactly if those for its target arrive without it, and not at that code. -/
theorem added_arrives {l : List Fw} {f t : Str} (hf : fwIdx l f = none) : (follow (l ++ [(f, t)]) f).isSome = true ↔ ∃ e m, follow l t = some (e, m) ∧ e ≠ f := by
  have h1 : follow (l ++ [(f, t)]) f = (followN (l ++ [(f, t)]) (l.length + 1) t 0).map fun r => (r.1, r.2 + 1) := by
    unfold follow
    rw [followN_some (x := (f, t)) (fwIdx_append_new hf) (by simp) (show (l ++ [(f, t)]).length + 1 = (l.length + 1) + 1 by simp), followN_shift _ t 0 1]
  constructor
  · intro h
    rw [h1] at h
    cases hr : followN (l ++ [(f, t)]) (l.length + 1) t 0 with
    | none => rw [hr] at h; cases h
    | some r =>
      obtain ⟨⟨e, m⟩, hb⟩ := added_back _ _ _ _ hr
      refine ⟨e, m, hb, fun he => ?_⟩
      subst he
      have hon := added_on (t := t) (l.length + 1) t m hb
      -- the way from the new order's code comes back to it
      have hround : ∀ F, followN (l ++ [(e, t)]) (m + F + 1) e 0 = (followN (l ++ [(e, t)]) F e 0).map fun r => (r.1, r.2 + (m + 1)) := fun F => by
        rw [followN_some (x := (e, t)) (fwIdx_append_new hf) (by simp) rfl, followN_shift _ t 0 1, hon F]
        cases followN (l ++ [(e, t)]) F e 0 with
        | none => rfl
        | some r => simp only [Option.map_some]; congr 2
      have hfull : followN (l ++ [(e, t)]) (l.length + 1 + 1) e 0 = some (r.1, r.2 + 1) := by
        rw [followN_some (x := (e, t)) (fwIdx_append_new hf) (by simp) rfl, followN_shift _ t 0 1, hr]
        rfl
      have hmore := followN_more _ (m + (l.length + 1 + 1) + 1) _ _ _ hfull (by omega)
      rw [hround, hfull] at hmore
      injection hmore with hmore
      injection hmore with _ hmore
      omega
  · rintro ⟨e, m, h, he⟩
    rw [h1, added_same _ _ _ _ _ h he]
    rfl

/-- Orders that are valid: few, of codes, no two for one code. -/
theorem fwsOk_nodup (l : List Fw) : fwsOk l = true ↔ l.length ≤ 30 ∧ (∀ x ∈ l, codeOk x.1 = true ∧ codeOk x.2 = true) ∧ (l.map (·.1)).Nodup := by
  rw [fwsOk_iff]
  constructor
  · rintro ⟨h1, h2⟩
    refine ⟨h1, fun x hx => ?_, ?_⟩
    · obtain ⟨i, hi, rfl⟩ := List.getElem_of_mem hx
      have := h2 i hi
      rw [fwOkAt_eq (List.getElem?_eq_getElem hi), Bool.and_eq_true, Bool.and_eq_true] at this
      exact this.1
    · unfold List.Nodup
      rw [List.pairwise_iff_getElem]
      intro i j hi hj hij
      simp only [List.length_map] at hi hj
      simp only [List.getElem_map]
      have := h2 j hj
      rw [fwOkAt_eq (List.getElem?_eq_getElem hj), Bool.and_eq_true] at this
      have h3 := this.2
      rw [Option.isNone_iff_eq_none, fwIdx_none] at h3
      exact h3 i l[i] (by rw [List.getElem?_take, if_pos hij]; exact List.getElem?_eq_getElem hi)
  · rintro ⟨h1, h2, h3⟩
    refine ⟨h1, fun i hi => ?_⟩
    rw [fwOkAt_eq (List.getElem?_eq_getElem hi)]
    obtain ⟨c1, c2⟩ := h2 l[i] (List.getElem_mem hi)
    rw [c1, c2, Bool.true_and, Bool.true_and, Option.isNone_iff_eq_none, fwIdx_none]
    intro j x hx
    rw [List.getElem?_take] at hx
    split at hx
    · rename_i hji
      obtain ⟨hj, rfl⟩ := List.getElem?_eq_some_iff.1 hx
      unfold List.Nodup at h3
      rw [List.pairwise_iff_getElem] at h3
      have := h3 j i (by simpa using hj) (by simpa using hi) hji
      simpa using this
    · cases hx

theorem dropTo_sub (l : List Fw) (a : Int) : ∀ k, (dropTo l a k).Sublist (l.take k)
  | 0 => by simp [dropTo]
  | k + 1 => by
    unfold dropTo
    rw [List.take_add_one]
    split
    · exact (dropTo_sub l a k).trans (List.sublist_append_left _ _)
    · exact (dropTo_sub l a k).append (List.Sublist.refl _)
theorem dropTo_off (l : List Fw) {a : Int} (h : a < 0) : ∀ k, dropTo l a k = l.take k
  | 0 => by simp [dropTo]
  | k + 1 => by
    unfold dropTo
    rw [List.take_add_one, if_neg (by omega), dropTo_off l h k]
theorem dropTo_count (l : List Fw) (j : Nat) : ∀ k, k ≤ l.length → (dropTo l j k).length = if j < k then k - 1 else k
  | 0, _ => by simp [dropTo]
  | k + 1, h => by
    have ih := dropTo_count l j k (by omega)
    unfold dropTo
    split
    · rw [ih, if_neg (by omega), if_pos (by omega)]; omega
    · rw [List.length_append, ih, List.getElem?_eq_getElem (by omega)]
      simp only [Option.toList, List.length_singleton]
      split <;> split <;> omega
/-- What is left without the orders for a code holds none for it. -/
theorem dropTo_none {l : List Fw} {f : Str} (hv : fwsOk l = true) : fwIdx (dropTo l (idxInt (fwIdx l f)) l.length) f = none := by
  rw [fwIdx_none]
  intro i x hx hxf
  cases hi : fwIdx l f with
  | none =>
    rw [hi] at hx
    have := dropTo_mem (List.mem_of_getElem? hx)
    obtain ⟨j, hj, rfl⟩ := List.getElem_of_mem this
    exact fwIdx_none.1 hi j _ (List.getElem?_eq_getElem hj) hxf
  | some k =>
    rw [hi] at hx
    obtain ⟨j, hjk, hj⟩ := dropTo_where (List.mem_of_getElem? hx)
    rcases Nat.lt_trichotomy j k with h | h | h
    · exact (fwIdx_some.1 hi).2 j x h hj hxf
    · exact hjk h
    · exact fw_once hv hi hj h hxf
where dropTo_where {l : List Fw} {k : Nat} {x : Fw} : ∀ {n : Nat}, x ∈ dropTo l (k : Int) n → ∃ j, j ≠ k ∧ l[j]? = some x
  | 0, h => by simp [dropTo] at h
  | n + 1, h => by
    unfold dropTo at h
    split at h
    · exact dropTo_where h
    · rename_i hne
      rcases List.mem_append.1 h with h | h
      · exact dropTo_where h
      · refine ⟨n, fun e => hne (by rw [e]), ?_⟩
        cases hx : l[n]? with
        | none => rw [hx] at h; simp at h
        | some y => rw [hx] at h; simp at h; rw [h]

/-- What is left without the orders for a code: as RemoveForward answers, or the list itself. -/
def restOf (l : List Fw) (f : Str) : List Fw := dropTo l (idxInt (fwIdx l f)) l.length
/-- When an order can be added. -/
theorem add_iff {l : List Fw} {f t : Str} (hv : fwsOk l = true) (hcf : codeOk f = true) (hct : codeOk t = true) :
    (addOf l f t).isSome = true ↔ (∃ e m, follow (restOf l f) t = some (e, m) ∧ e ≠ f) ∧ ((fwIdx l f).isSome = true ∨ l.length < 30) := by
  have hnone : fwIdx (restOf l f) f = none := dropTo_none hv
  have harr := added_arrives (t := t) hnone
  obtain ⟨h1, h2, h3⟩ := (fwsOk_nodup l).1 hv
  have hsub : (restOf l f).Sublist l := by
    have := dropTo_sub l (idxInt (fwIdx l f)) l.length
    rwa [List.take_length] at this
  have hlen : (restOf l f).length + 1 ≤ 30 ↔ ((fwIdx l f).isSome = true ∨ l.length < 30) := by
    unfold restOf
    cases hi : fwIdx l f with
    | none =>
      rw [dropTo_off l (show idxInt none < 0 by decide), List.take_length]
      simp
      omega
    | some k =>
      have hk := fwIdx_lt hi
      rw [show idxInt (some k) = (k : Int) from rfl, dropTo_count l k l.length (Nat.le_refl _), if_pos hk]
      simp
      omega
  have hok : fwsOk (addedOf l f t) = true ↔ (restOf l f).length + 1 ≤ 30 := by
    rw [fwsOk_nodup]
    unfold addedOf
    show ((restOf l f) ++ [(f, t)]).length ≤ 30 ∧ _ ↔ _
    rw [List.length_append, List.length_singleton]
    refine ⟨fun h => h.1, fun h => ⟨h, fun x hx => ?_, ?_⟩⟩
    · rcases List.mem_append.1 hx with hx | hx
      · exact h2 x (hsub.subset hx)
      · simp at hx; subst hx; exact ⟨hcf, hct⟩
    · show (((restOf l f) ++ [(f, t)]).map (·.1)).Nodup
      rw [List.map_append, List.nodup_append]
      refine ⟨(hsub.map _).nodup h3, by simp, ?_⟩
      intro a ha b hb
      simp at hb
      subst hb
      obtain ⟨x, hx, rfl⟩ := List.mem_map.1 ha
      obtain ⟨i, hi, rfl⟩ := List.getElem_of_mem hx
      exact fwIdx_none.1 hnone i _ (List.getElem?_eq_getElem hi)
  unfold addOf
  rw [hv, Bool.true_and]
  rw [← hlen, ← hok, ← harr]
  show _ ↔ (follow (addedOf l f t) f).isSome = true ∧ _
  cases fwsOk (addedOf l f t) <;> cases (follow (addedOf l f t) f).isSome <;> simp
end Go.Proofs.Ytfokfdkpbdabhaa
