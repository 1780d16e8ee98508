/-
  append of a list that reads somewhere, onto a slice of the walk's own: as a run, as a step of a region that draws, as a step of a list; and where the new slice lies. No function of the program is named here.
-/
import Derived.Test.YtfilggdiljpakaaDoorPool
namespace Go.Proofs.YtfilggdiljpakaaDoor
open Go.RowKit

/-- append of a list that reads somewhere, onto a slice of the call's own: the run. -/
theorem run_appendL {P : Program} {α : Type} {w : World} {enc : α → List Value} (t ty e : TypeId) {z : Value} {size bytes : Nat}
    (hinfo : (P.info? e).map (fun i => (i.zero, i.size, i.bytes)) = some (some z, size, bytes)) (ht : P.underlying t = some (.slice e)) (hzs : z.cells.size = size) (hsz : 0 < size)
    {base k n c : Nat} {v : Value} {l ys : List α} {A : Option Addr} (hk : k = l.length) (hown : Own w base e size enc v l) (hn : n = ys.length) (hnil : A = none → c = 0) (henc : ∀ x, (enc x).length = size)
    (hy : Rd w size enc A ys) (h1 : ∀ y ∈ ys, ∀ u ∈ enc y, u.oneCell' = true) (hl : (k + n) * bytes ≤ 140737488355328) (h63 : k + n ≤ 9223372036854775807) (hbase : base ≤ w.heap.size) :
    ∃ A' c' w', (Builtin.append_ #[t, t] ty #[v, .slice A n c]).run P w = .ok (.slice A' (k + n) c') w' ∧ Own w' base e size enc (.slice A' (k + n) c') (l ++ ys) ∧ w.grownBy w' v.ownBlock ∧ ((Value.slice A' (k + n) c').ownBlock = v.ownBlock ∨ (Value.slice A' (k + n) c').ownBlock = some w.heap.size) := by
  obtain ⟨i0, hi, hz0, hz1, hz2⟩ := info_parts hinfo
  subst hk
  cases A with
  | none =>
    have hy0 : ys = [] := by
      cases ys with
      | nil => rfl
      | cons y ys =>
        obtain ⟨ad, h', _⟩ := hy (by simp)
        cases h'
    subst hy0
    simp only [List.length_nil] at hn
    subst hn
    have hc := hnil rfl
    subst hc
    obtain ⟨A', c', hv, _⟩ := hown.form henc
    have hrun := run_append_owned_none (P := P) (w := w) base t ty e i0 size ht hi v l.length (l.flatMap enc) hown
    refine ⟨A', c', w, by rw [hrun, hv]; rfl, by rw [List.append_nil, Nat.add_zero, ← hv]; exact hown, World.grownBy.refl _ _, .inl (by rw [hv]; rfl)⟩
  | some ad =>
    subst hn
    obtain ⟨v', w', hr, h2, h3, _, h5⟩ := run_append_own_at (P := P) w base t ty e i0 z size bytes ht hi hz0 hz1 hz2 hzs hsz v l.length (l.flatMap enc) hown ad ys.length c (ys.flatMap enc) (flat_len henc ys) (fun j u hj => by
      obtain ⟨i, y, hy', k, hk, rfl⟩ := flat_at_mem hsz henc ys j u hj
      obtain ⟨ad', e', _, hc⟩ := hy (by have := (List.getElem?_eq_some_iff.1 hy').1; omega)
      injection e' with e'
      subst e'
      exact hc i y hy' k u hk) (fun u hu => by
      obtain ⟨y, hy', hu'⟩ := List.mem_flatMap.1 hu
      exact h1 y hy' u hu') (by unfold maxLen; omega) hl hbase
    have ho : Own w' base e size enc v' (l ++ ys) := by unfold Own; rw [List.flatMap_append, List.length_append]; exact h2
    obtain ⟨A', c', rfl, _⟩ := ho.form henc
    rw [List.length_append] at ho hr h5
    exact ⟨A', c', w', hr, ho, h3, h5⟩

/-- The same, as one step of a region that draws its order. -/
theorem step_appendL {P : Program} {α : Type} {w : World} {ops : Array Oper} {o : Oper} {a : Act} {K : Act → World → Prop} {Q : Exit → Act → World → Prop} {E : Prop} {enc : α → List Value} (s x : Operand) (t e : TypeId) {z : Value} {size bytes : Nat}
    (hinfo : (P.info? e).map (fun i => (i.zero, i.size, i.bytes)) = some (some z, size, bytes)) (ht : P.underlying t = some (.slice e)) (hzs : z.cells.size = size) (hsz : 0 < size)
    (hgd : o.guard = none) (ho : o.op = .call { callee := .builtin .append, args := #[s, x], argTypes := #[t, t] })
    {base k n c : Nat} {v : Value} {l ys : List α} {A : Option Addr} (hs : a.eval s = v) (hx : a.eval x = .slice A n c) (hk : k = l.length) (hown : Own w base e size enc v l) (hn : n = ys.length) (hnil : A = none → c = 0) (henc : ∀ x, (enc x).length = size)
    (hy : Rd w size enc A ys) (h1 : ∀ y ∈ ys, ∀ u ∈ enc y, u.oneCell' = true) (hl : (k + n) * bytes ≤ 140737488355328) (h63 : k + n ≤ 9223372036854775807) (hbase : base ≤ w.heap.size)
    (h : ∀ A' c' w', Own w' base e size enc (.slice A' (k + n) c') (l ++ ys) → w.grownBy w' v.ownBlock → ((Value.slice A' (k + n) c').ownBlock = v.ownBlock ∨ (Value.slice A' (k + n) c').ownBlock = some w.heap.size) → K (a.put o.dst (.slice A' (k + n) c')) w') :
    if Region.wanted o (yielded ops a.tmps) = true then Oper.wp P o a w K Q else E := by
  have hw : Region.wanted o (yielded ops a.tmps) = true := by simp [Region.wanted, hgd]
  rw [if_pos hw]
  obtain ⟨A', c', w', hr, h2, h3, h4⟩ := run_appendL (P := P) t o.type e hinfo ht hzs hsz hk hown hn hnil henc hy h1 hl h63 hbase
  unfold Oper.wp execOp
  simp only [ho, resolve, invoke, builtin, Sem.run_bind, Sem.run_pure, Result.andThen_ok, List.map_toArray, List.map_cons, List.map_nil, hs, hx, hr]
  exact h A' c' w' h2 h3 h4

theorem wpList_appendAt {P : Program} {α : Type} {w : World} {ops : Array Oper} {rest : List Oper} {o : Oper} {a : Act} {Q : Exit → Act → World → Prop} {enc : α → List Value} (s x : Operand) (t e : TypeId) {z : Value} {size bytes : Nat}
    (hinfo : (P.info? e).map (fun i => (i.zero, i.size, i.bytes)) = some (some z, size, bytes)) (ht : P.underlying t = some (.slice e)) (hzs : z.cells.size = size) (hsz : 0 < size)
    (hgd : o.guard = none) (ho : o.op = .call { callee := .builtin .append, args := #[s, x], argTypes := #[t, t] })
    {base k n c : Nat} {v : Value} {l ys : List α} {A : Option Addr} (hs : a.eval s = v) (hx : a.eval x = .slice A n c) (hk : k = l.length) (hown : Own w base e size enc v l) (hn : n = ys.length) (hnil : A = none → c = 0) (henc : ∀ x, (enc x).length = size)
    (hy : Rd w size enc A ys) (h1 : ∀ y ∈ ys, ∀ u ∈ enc y, u.oneCell' = true) (hl : (k + n) * bytes ≤ 140737488355328) (h63 : k + n ≤ 9223372036854775807) (hbase : base ≤ w.heap.size)
    (h : ∀ A' c' w', Own w' base e size enc (.slice A' (k + n) c') (l ++ ys) → w.grownBy w' v.ownBlock → (∀ q, (Value.slice A' (k + n) c').ownBlock = some q → v.ownBlock = some q ∨ w.heap.size ≤ q) → wpList P ops Q rest (a.put o.dst (.slice A' (k + n) c')) w') : wpList P ops Q (o :: rest) a w := by
  obtain ⟨A', c', w', hr, h2, h3, h4⟩ := run_appendL (P := P) t o.type e hinfo ht hzs hsz hk hown hn hnil henc hy h1 hl h63 hbase
  refine wpList_plain hgd fun _ hK => ?_
  unfold Oper.wp
  simp only [execOp, ho, resolve, invoke, builtin, Sem.run_bind, Sem.run_pure, Result.andThen_ok, List.map_toArray, List.map_cons, List.map_nil, hs, hx, hr]
  exact hK _ _ (h A' c' w' h2 h3 fun q e => by
    rcases h4 with h4 | h4
    · left; rw [← h4]; exact e
    · right; rw [h4] at e; injection e with e; omega)
end Go.Proofs.YtfilggdiljpakaaDoor
