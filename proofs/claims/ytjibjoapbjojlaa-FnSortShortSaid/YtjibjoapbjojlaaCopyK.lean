/-
  copy of a whole list into a row of the call's own, some cells an element. No function of the program is named here.
-/
import Derived.Test.YtjibjoapbjojlaaW
import Derived.Laws.CopyOwn
namespace Go.Proofs.Ytjibjoapbjojlaa
open Go.RowKit

theorem run_copy_rowK (P : Program) (w : World) (dT sT ty elem : TypeId) (g o dLen dCap : Nat) (a : Addr) (sLen sCap size : Nat) (cur : Array Value) (t : TypeId) (cs : List Value)
    (hu : P.underlying dT = some (.slice elem)) (hs : (P.info? elem).map (·.size) = some size)
    (hg : w.heap[g]? = some (.cells cur t (0, 0))) (hn : cs.length = Nat.min sLen dLen * size)
    (hsrc : ∀ j v, cs[j]? = some v → w.cell? (a.add j) = some v) (hfit : o + cs.length ≤ cur.size) (h1 : ∀ v ∈ cs, v.oneCell' = true) :
    (Builtin.copy_ #[dT, sT] ty #[.slice (some ⟨g, o, none⟩) dLen dCap, .slice (some a) sLen sCap]).run P w =
      .ok (goInt (Nat.min sLen dLen)) (w.setRow g (cur.toList.take o ++ cs ++ cur.toList.drop (o + cs.length)).toArray) := by
  have hl := run_loadCells_list (P := P) w a cs hsrc
  have hst := run_storeCells_at P g o t cs 0 cur w hg (by simpa using hfit) h1
  cases hq : P.info? elem with
  | none => simp [hq] at hs
  | some i =>
    have hi : i.size = size := by simpa [hq] using hs
    rw [hn] at hl
    simp [Builtin.copy_, run_underlying hu, Builtin.lenOf, Builtin.firstCells, sizeOf, typeInfo, hq, hi, hl, hst]
theorem run_copy_noneK (P : Program) (w : World) (dT sT ty elem : TypeId) (d a : Option Addr) (dLen dCap sLen sCap size : Nat) (hu : P.underlying dT = some (.slice elem)) (hs : (P.info? elem).map (·.size) = some size) (hn : Nat.min sLen dLen = 0) :
    (Builtin.copy_ #[dT, sT] ty #[.slice d dLen dCap, .slice a sLen sCap]).run P w = .ok (goInt 0) w := by
  cases hq : P.info? elem with
  | none => simp [hq] at hs
  | some i =>
    have hl : ∀ (x : Addr), (loadCells x 0).run P w = .ok #[] w := fun x => by simpa using run_loadCells_list (P := P) w x [] (by simp)
    cases d <;> cases a <;> simp [Builtin.copy_, run_underlying hu, Builtin.lenOf, Builtin.firstCells, sizeOf, typeInfo, hq, hn, storeCells, hl]

theorem run_copyK {P : Program} {α : Type} {w : World} {enc : α → List Value} (dT sT ty elem : TypeId) {size : Nat} (hsize : 0 < size) (hu : P.underlying dT = some (.slice elem)) (hsz : (P.info? elem).map (·.size) = some size)
    (henc : ∀ x, (enc x).length = size) {base g n cap capA : Nat} {A : Option Addr} {l0 l : List α}
    (hown : Own w base elem size enc (.slice (some ⟨g, 0, none⟩) n cap) l0) (hr : Rd w size enc A l) (hl : n = l.length) (h1 : ∀ x ∈ l, ∀ u ∈ enc x, u.oneCell' = true) {B : Nat} {w0 : World} (hb : Below B w0 w) (hBg : B ≤ g) :
    ∃ w', (Builtin.copy_ #[dT, sT] ty #[.slice (some ⟨g, 0, none⟩) n cap, .slice A n capA]).run P w = .ok (.int .i64 n) w' ∧ Own w' base elem size enc (.slice (some ⟨g, 0, none⟩) n cap) l ∧ Below B w0 w' := by
  by_cases h0 : n = 0
  · refine ⟨w, ?_, ?_, hb⟩
    · have := run_copy_noneK P w dT sT ty elem (some ⟨g, 0, none⟩) A n cap n capA size hu hsz (by simp [h0])
      rw [this, h0]; rfl
    · have : l = l0 := by
        have e0 := hown.len
        rw [List.eq_nil_of_length_eq_zero (hl.symm.trans h0), List.eq_nil_of_length_eq_zero (e0.symm.trans h0)]
      rw [this]; exact hown
  · rcases hown.2 with ⟨e0, _⟩ | ⟨g', cap', cur, e0, hbg, hg, hnc, hm, hcs, ht⟩
    · cases e0
    · injection e0 with e1 e2 e3
      injection e1 with e1
      injection e1 with e1
      subst e1 e3
      have hnl := flat_len henc l
      have hle : n * size ≤ cur.size := by rw [hcs]; exact Nat.mul_le_mul_right _ (by omega)
      obtain ⟨ad, rfl, _, hc⟩ := hr (by omega)
      have hmin : Nat.min n n = n := Nat.min_self n
      have hrun := run_copy_rowK P w dT sT ty elem g 0 n cap ad n capA size cur elem (l.flatMap enc) hu hsz hg (by rw [hnl, ← hl, hmin]) (fun j v hj => by
        obtain ⟨i, x, hx, k, hk, rfl⟩ := flat_at_mem hsize henc l j v hj
        exact hc i x hx k v hk) (by rw [hnl, ← hl]; omega) (fun v hv => by
        obtain ⟨x, hx, hv⟩ := List.mem_flatMap.1 hv
        exact h1 x hx v hv)
      rw [hnl, ← hl, hmin] at hrun
      refine ⟨_, hrun, ?_, below_setRow hb hBg _⟩
      refine ⟨by rw [hnl], .inr ⟨g, cap, _, by rw [hl], hbg, setRow_heap w g _ _ elem _ hg, by omega, hm, ?_, ?_⟩⟩
      · simp only [List.take_zero, List.nil_append, List.size_toArray, List.length_append, List.length_drop, hnl, Array.length_toList, ← hl]
        omega
      · simp only [List.take_zero, List.nil_append]
        rw [← hnl, List.take_append_of_le_length (Nat.le_refl _), List.take_of_length_le (Nat.le_refl _)]
end Go.Proofs.Ytjibjoapbjojlaa
