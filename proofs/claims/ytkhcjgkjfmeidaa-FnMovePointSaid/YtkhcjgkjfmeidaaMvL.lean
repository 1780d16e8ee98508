/-
  Plain law: a point of a round moved, and moved back.
-/
import Derived.Test.YtkhcjgkjfmeidaaEq
import Derived.Test.YtkhcjgkjfmeidaaMvB
namespace Go.Proofs.Ytkhcjgkjfmeidaa
open Go.RowKit

theorem plan_perm {b p : Int} {l l' : List Str} (hp : l'.Perm l) (h : planOk b p l = true) : planOk b p l' = true := by
  unfold planOk at *
  rw [hp.length_eq]
  simp only [Bool.and_eq_true] at *
  refine ⟨h.1, (cds_iff l').2 ?_⟩
  obtain ⟨h1, h2⟩ := (cds_iff l).1 h.2
  exact ⟨fun x hx => h1 x (hp.mem_iff.1 hx), hp.nodup_iff.2 h2⟩
theorem move_some {l : List Str} {f t : Nat} {x : Str} (hx : l[f]? = some x) : moveL l f t = (l.eraseIdx f).take t ++ x :: (l.eraseIdx f).drop t := by unfold moveL; rw [hx]; rfl
theorem erase_len {l : List Str} {f : Nat} (hf : f < l.length) : (l.eraseIdx f).length = l.length - 1 := by rw [List.length_eraseIdx, if_pos hf]
theorem move_perm {l : List Str} {f t : Nat} (hf : f < l.length) : (moveL l f t).Perm l := by
  rw [move_some (List.getElem?_eq_getElem hf)]
  refine List.perm_middle.trans ?_
  rw [List.take_append_drop]
  rw [List.eraseIdx_eq_take_drop_succ]
  refine List.perm_middle.symm.trans ?_
  rw [List.getElem_cons_drop, List.take_append_drop]
theorem move_get {l : List Str} {f t : Nat} (hf : f < l.length) (ht : t < l.length) (j : Nat) : (moveL l f t)[j]? = if j < t then (l.eraseIdx f)[j]? else if j = t then l[f]? else (l.eraseIdx f)[j - 1]? := by
  have h0 : ((l.eraseIdx f).take t).length = t := by rw [List.length_take, erase_len hf]; omega
  rw [move_some (List.getElem?_eq_getElem hf)]
  by_cases h1 : j < t
  · rw [if_pos h1, List.getElem?_append_left (by omega), List.getElem?_take, if_pos h1]
  · rw [if_neg h1, List.getElem?_append_right (by omega), h0]
    by_cases h2 : j = t
    · subst h2; rw [if_pos rfl, Nat.sub_self, List.getElem?_cons_zero, List.getElem?_eq_getElem hf]
    · rw [if_neg h2, show j - t = (j - 1 - t) + 1 from by omega, List.getElem?_cons_succ, List.getElem?_drop, show t + (j - 1 - t) = j - 1 from by omega]
theorem move_at {l : List Str} {f t : Nat} (hf : f < l.length) (ht : t < l.length) : (moveL l f t)[t]? = l[f]? := by rw [move_get hf ht, if_neg (by omega), if_pos rfl]
theorem move_erase {l : List Str} {f t : Nat} (hf : f < l.length) (ht : t < l.length) : (moveL l f t).eraseIdx t = l.eraseIdx f := by
  have h0 : ((l.eraseIdx f).take t).length = t := by rw [List.length_take, erase_len hf]; omega
  rw [move_some (List.getElem?_eq_getElem hf), List.eraseIdx_append_of_length_le (by omega), h0, Nat.sub_self, List.eraseIdx_cons_zero, List.take_append_drop]
theorem move_back {l : List Str} {f t : Nat} (hf : f < l.length) (ht : t < l.length) : moveL (moveL l f t) t f = l := by
  apply List.ext_getElem?
  intro j
  have hl := moveL_len hf ht
  rw [move_get (by omega) (by omega), move_erase hf ht, move_at hf ht, List.getElem?_eraseIdx, List.getElem?_eraseIdx]
  by_cases h1 : j < f
  · rw [if_pos h1, if_pos h1]
  · rw [if_neg h1]
    by_cases h2 : j = f
    · rw [if_pos h2, h2]
    · rw [if_neg h2, if_neg (by omega), show j - 1 + 1 = j from by omega]
/-- Where the element k comes to lie. -/
def posM (f t k : Nat) : Nat := let k' := if k < f then k else k - 1; if k' < t then k' else k' + 1
theorem posM_lt {f t k i : Nat} (hk : k ≠ f) (hi : i ≠ f) (h : k < i) : posM f t k < posM f t i := by
  simp only [posM]
  split <;> split <;> split <;> split <;> omega
theorem posM_get {l : List Str} {f t k : Nat} (hf : f < l.length) (ht : t < l.length) (hk : k ≠ f) : (moveL l f t)[posM f t k]? = l[k]? := by
  have he : ∀ j, (l.eraseIdx f)[j]? = if j < f then l[j]? else l[j + 1]? := fun j => List.getElem?_eraseIdx ..
  have hk' : (l.eraseIdx f)[if k < f then k else k - 1]? = l[k]? := by
    rw [he]
    by_cases h : k < f
    · rw [if_pos h, if_pos h]
    · rw [if_neg h, if_neg (by omega), show k - 1 + 1 = k from by omega]
  rw [← hk']
  unfold posM
  obtain ⟨k', hk2⟩ : ∃ k', (if k < f then k else k - 1) = k' := ⟨_, rfl⟩
  rw [hk2]
  show (moveL l f t)[if k' < t then k' else k' + 1]? = _
  rw [move_get hf ht]
  by_cases h : k' < t
  · rw [if_pos h, if_pos h]
  · rw [if_neg h, if_neg (by omega), if_neg (by omega), show k' + 1 - 1 = k' from by omega]
theorem idx_nodup {l : List Str} (hn : l.Nodup) {k : Nat} {x : Str} (h : l[k]? = some x) : strIdx l x = some k := by
  refine strIdx_some.2 ⟨h, fun i y hi hy e => ?_⟩
  subst e
  obtain ⟨h1, h2⟩ := List.getElem?_eq_some_iff.1 h
  obtain ⟨h3, h4⟩ := List.getElem?_eq_some_iff.1 hy
  exact (List.pairwise_iff_getElem.1 (List.nodup_iff_pairwise_ne.1 hn)) i k h3 h1 hi (h4.trans h2.symm)
theorem rank_at {b p : Int} {l : List Str} (h : planOk b p l = true) {k : Nat} {x : Str} (hx : l[k]? = some x) : rankOf b p l x = (k : Int) := by
  unfold rankOf
  rw [if_pos h, idx_nodup (plan_nodup h) hx]
  rfl
theorem move_true {b p rb rp : Int} {l rl : List Str} {f t : Int} (h : moveR b p l f t = ⟨rb, rp, rl, true⟩) : planOk b p l = true ∧ b = rb ∧ p = rp ∧ ∃ fn tn : Nat, f = fn ∧ t = tn ∧ fn < l.length ∧ tn < l.length ∧ rl = moveL l fn tn := by
  unfold moveR at h
  split at h
  · rename_i hc
    simp only [Bool.and_eq_true, decide_eq_true_eq] at hc
    obtain ⟨h1, h2, h3, h4, h5⟩ := hc
    injection h with e1 e2 e3 e4
    exact ⟨h1, e1, e2, f.toNat, t.toNat, by omega, by omega, by omega, by omega, e3.symm⟩
  · injection h with e1 e2 e3 e4
    cases e4
theorem move_fine {b p : Int} {l : List Str} {fn tn : Nat} (h : planOk b p l = true) (hf : fn < l.length) (ht : tn < l.length) : moveR b p (moveL l fn tn) tn fn = ⟨b, p, l, true⟩ := by
  have hl := moveL_len hf ht
  unfold moveR
  rw [plan_perm (move_perm hf) h, decide_eq_true (by omega)]
  show PlR.mk b p (moveL (moveL l fn tn) ((tn : Int)).toNat ((fn : Int)).toNat) true = _
  rw [Int.toNat_natCast, Int.toNat_natCast, move_back hf ht]
end Go.Proofs.Ytkhcjgkjfmeidaa
