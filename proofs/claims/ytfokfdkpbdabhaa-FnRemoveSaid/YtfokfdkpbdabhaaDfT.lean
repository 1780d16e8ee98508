/-
  An order removed and added again: the plain law.
-/
import Derived.Test.YtfokfdkpbdabhaaDfX5
import Derived.Test.YtfokfdkpbdabhaaDfS
namespace Go.Proofs.Ytfokfdkpbdabhaa
open Go.RowKit

theorem next_some {l : List Fw} (hv : (l.map (·.1)).Nodup) {c d : Str} : fwNext l c = some d ↔ (c, d) ∈ l := by
  constructor
  · intro h
    cases hi : fwIdx l c with
    | none => rw [fwNext_none hi] at h; cases h
    | some k =>
      obtain ⟨⟨x, hx, hc⟩, -⟩ := fwIdx_some.1 hi
      rw [fwNext_some hi hx] at h
      injection h with h
      rw [← hc, ← h]
      exact List.mem_of_getElem? hx
  · intro h
    obtain ⟨i, hi, he⟩ := List.getElem_of_mem h
    cases hk : fwIdx l c with
    | none => exact absurd (by rw [he]) (fwIdx_none.1 hk i _ (List.getElem?_eq_getElem hi))
    | some k =>
      obtain ⟨⟨x, hx, hc⟩, -⟩ := fwIdx_some.1 hk
      obtain ⟨hkl, hxe⟩ := List.getElem?_eq_some_iff.1 hx
      have hki : k = i := by
        rcases Nat.lt_trichotomy k i with h1 | h1 | h1
        · exfalso
          unfold List.Nodup at hv
          rw [List.pairwise_iff_getElem] at hv
          have := hv k i (by simpa using hkl) (by simpa using hi) h1
          simp only [List.getElem_map] at this
          exact this (by rw [hxe, he, hc])
        · exact h1
        · exfalso
          unfold List.Nodup at hv
          rw [List.pairwise_iff_getElem] at hv
          have := hv i k (by simpa using hi) (by simpa using hkl) h1
          simp only [List.getElem_map] at this
          exact this (by rw [hxe, he, hc])
      subst hki
      rw [fwNext_some hk hx, ← hxe, he]
theorem followN_congr {a b : List Fw} (h : ∀ c, fwNext a c = fwNext b c) : ∀ (f : Nat) (c : Str) (n : Nat), followN a f c n = followN b f c n
  | 0, _, _ => rfl
  | f + 1, c, n => by
    unfold followN
    rw [h c]
    cases fwNext b c with
    | none => rfl
    | some d => exact followN_congr h f d (n + 1)
theorem rest_mem {l : List Fw} {s : Str} (hv : fwsOk l = true) {x : Fw} : x ∈ restOf l s ↔ x ∈ l ∧ x.1 ≠ s := by
  constructor
  · intro h
    refine ⟨dropTo_mem h, fun e => ?_⟩
    obtain ⟨i, hi, rfl⟩ := List.getElem_of_mem h
    exact fwIdx_none.1 (dropTo_none hv) i _ (List.getElem?_eq_getElem hi) e
  · rintro ⟨h, hne⟩
    obtain ⟨i, hi, rfl⟩ := List.getElem_of_mem h
    unfold restOf
    refine keep ?_ (Nat.le_refl _) hi
    intro e
    cases hk : fwIdx l s with
    | none => rw [hk] at e; exact absurd e (by show ¬ (i : Int) = -1; omega)
    | some k =>
      rw [hk] at e
      have e : (i : Int) = (k : Int) := e
      obtain ⟨⟨x, hx, hc⟩, -⟩ := fwIdx_some.1 hk
      have : i = k := by omega
      subst this
      rw [List.getElem?_eq_getElem hi] at hx
      injection hx with hx
      exact hne (by rw [hx]; exact hc)
where keep {l : List Fw} {a : Int} {i : Nat} {h : i < l.length} (hne : ¬ (i : Int) = a) : ∀ {n : Nat}, n ≤ l.length → i < n → l[i] ∈ dropTo l a n
  | 0, _, h => absurd h (by omega)
  | n + 1, hn, hi => by
    unfold dropTo
    by_cases e : i = n
    · subst e
      rw [if_neg hne]
      refine List.mem_append_right _ ?_
      rw [List.getElem?_eq_getElem (by omega)]
      simp
    · split
      · exact keep hne (by omega) (by omega)
      · exact List.mem_append_left _ (keep hne (by omega) (by omega))

/-- The order removed and added again: the same way for each code. -/
structure Back (l : List Fw) (s t : Str) : Prop where
  ok : fwsOk (restOf l s ++ [(s, t)]) = true
  len : (restOf l s).length + 1 = l.length
  follow : ∀ c, follow (restOf l s ++ [(s, t)]) c = follow l c
theorem back_of {l : List Fw} {s : Str} {k : Nat} {y : Fw} (hv : fwsOk l = true) (hi : fwIdx l s = some k) (hy : l[k]? = some y) : Back l s y.2 := by
  obtain ⟨h1, h2, h3⟩ := (fwsOk_nodup l).1 hv
  obtain ⟨⟨z, hz, hzc⟩, -⟩ := fwIdx_some.1 hi
  rw [hy] at hz
  injection hz with hz
  subst hz
  have hyl := List.mem_of_getElem? hy
  have hkl := fwIdx_lt hi
  have hlen : (restOf l s).length + 1 = l.length := by
    unfold restOf
    rw [hi, show idxInt (some k) = (k : Int) from rfl, dropTo_count l k l.length (Nat.le_refl _), if_pos hkl]
    omega
  have hro := rest_ok (f := s) hv
  obtain ⟨r1, r2, r3⟩ := (fwsOk_nodup _).1 hro
  have hnd : ((restOf l s ++ [(s, y.2)]).map (·.1)).Nodup := by
    rw [List.map_append, List.nodup_append]
    refine ⟨r3, by simp, ?_⟩
    intro a ha b hb
    simp at hb
    subst hb
    obtain ⟨x, hx, rfl⟩ := List.mem_map.1 ha
    exact ((rest_mem hv).1 hx).2
  have hmem : ∀ x : Fw, x ∈ restOf l s ++ [(s, y.2)] ↔ x ∈ l := fun x => by
    rw [List.mem_append, List.mem_singleton, rest_mem hv]
    constructor
    · rintro (⟨h, -⟩ | h)
      · exact h
      · rw [h, ← hzc]; exact hyl
    · intro h
      by_cases e : x.1 = s
      · right
        have hn := (next_some h3 (c := x.1) (d := x.2)).2 h
        rw [e, fwNext_some hi hy] at hn
        injection hn with hn
        exact Prod.ext e hn.symm
      · exact .inl ⟨h, e⟩
  have hnext : ∀ c, fwNext (restOf l s ++ [(s, y.2)]) c = fwNext l c := fun c => by
    apply Option.ext
    intro d
    rw [next_some hnd, next_some h3, hmem]
  refine ⟨(fwsOk_nodup _).2 ⟨by rw [List.length_append, List.length_singleton, hlen]; exact h1, fun x hx => h2 x ((hmem x).1 hx), hnd⟩, hlen, fun c => ?_⟩
  unfold Go.Proofs.Ytfokfdkpbdabhaa.follow
  rw [List.length_append, List.length_singleton, hlen]
  exact followN_congr hnext _ _ _
theorem addedOf_back {l : List Fw} {s t : Str} (hv : fwsOk l = true) : addedOf (restOf l s) s t = restOf l s ++ [(s, t)] := by
  unfold addedOf
  have h := rest_same (dropTo_none (f := s) hv)
  show restOf (restOf l s) s ++ [(s, t)] = _
  rw [show restOf (restOf l s) s = restOf l s from h]
theorem same_back {l : List Fw} {s t : Str} (hv : fwsOk l = true) (hb : Back l s t) : sameOf (restOf l s ++ [(s, t)]) l = true := by
  refine sameOf_good hb.ok hv fun k x _ _ => ?_
  unfold sameAt
  rw [hb.follow]
  simp
end Go.Proofs.Ytfokfdkpbdabhaa
