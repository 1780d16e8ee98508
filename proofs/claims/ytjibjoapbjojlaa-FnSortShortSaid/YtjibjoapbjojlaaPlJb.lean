/-
  The library's slices.Concat of two slices ([]string): a new slice of the first one's elements, then the second one's.
  append of a list that reads somewhere, onto a slice of the walk's own: as a run, as a step of a region that draws, as a step of a list; and where the new slice lies. No function of the program is named here.
  Two plans joined: the program's and the reference's.
  Two plans joined, both valid and alike: the program's.
-/
import Derived.Test.YtjibjoapbjojlaaPlHb
import Derived.Test.YtjibjoapbjojlaaPool
import Derived.Test.YtjibjoapbjojlaaPoolL
import Derived.Deep.RegionHeldLaw
import Derived.Deep.RegionHeld3
import Derived.Deep.Cut
import Derived.Deep.CutRange
namespace Go.Proofs.Ytjibjoapbjojlaa

section
open Go.RowKit

end

section
open Go.RowKit

/-- append of a list that reads somewhere, onto a slice of the call's own: the run. -/
theorem run_appendL {P : Program} {α : Type} {w : World} {enc : α → List Value} (t ty e : TypeId) {z : Value} {size bytes : Nat}
    (hinfo : (P.info? e).map (fun i => (i.zero, i.size, i.bytes)) = some (some z, size, bytes)) (ht : P.underlying t = some (.slice e)) (hzs : z.cells.size = size) (hsz : 0 < size)
    {base k n c : Nat} {v : Value} {l ys : List α} {A : Option Addr} (hk : k = l.length) (hown : Own w base e size enc v l) (hn : n = ys.length) (hnil : A = none → c = 0) (henc : ∀ x, (enc x).length = size)
    (hy : Rd w size enc A ys) (h1 : ∀ y ∈ ys, ∀ u ∈ enc y, u.oneCell' = true) (hl : (k + n) * bytes ≤ 140737488355328) (h63 : k + n ≤ 9223372036854775807) (hbase : base ≤ w.heap.size) :
    ∃ A' c' w', (Builtin.append_ #[t, t] ty #[v, .slice A n c]).run P w = .ok (.slice A' (k + n) c') w' ∧ Own w' base e size enc (.slice A' (k + n) c') (l ++ ys) ∧ w.grownBy w' v.ownBlock ∧ ((Value.slice A' (k + n) c').ownBlock = v.ownBlock ∨ (Value.slice A' (k + n) c').ownBlock = some w.heap.size) := by
  obtain ⟨i0, hi, hz0, hz1, hz2⟩ := info_parts hinfo
  subst hk
  cases A with
  | none =>
    have hy0 : ys = [] := by
      cases ys with
      | nil => rfl
      | cons y ys =>
        obtain ⟨ad, h', _⟩ := hy (by simp)
        cases h'
    subst hy0
    simp only [List.length_nil] at hn
    subst hn
    have hc := hnil rfl
    subst hc
    obtain ⟨A', c', hv, _⟩ := hown.form henc
    have hrun := run_append_owned_none (P := P) (w := w) base t ty e i0 size ht hi v l.length (l.flatMap enc) hown
    refine ⟨A', c', w, by rw [hrun, hv]; rfl, by rw [List.append_nil, Nat.add_zero, ← hv]; exact hown, World.grownBy.refl _ _, .inl (by rw [hv]; rfl)⟩
  | some ad =>
    subst hn
    obtain ⟨v', w', hr, h2, h3, _, h5⟩ := run_append_own_at (P := P) w base t ty e i0 z size bytes ht hi hz0 hz1 hz2 hzs hsz v l.length (l.flatMap enc) hown ad ys.length c (ys.flatMap enc) (flat_len henc ys) (fun j u hj => by
      obtain ⟨i, y, hy', k, hk, rfl⟩ := flat_at_mem hsz henc ys j u hj
      obtain ⟨ad', e', _, hc⟩ := hy (by have := (List.getElem?_eq_some_iff.1 hy').1; omega)
      injection e' with e'
      subst e'
      exact hc i y hy' k u hk) (fun u hu => by
      obtain ⟨y, hy', hu'⟩ := List.mem_flatMap.1 hu
      exact h1 y hy' u hu') (by unfold maxLen; omega) hl hbase
    have ho : Own w' base e size enc v' (l ++ ys) := by unfold Own; rw [List.flatMap_append, List.length_append]; exact h2
    obtain ⟨A', c', rfl, _⟩ := ho.form henc
    rw [List.length_append] at ho hr h5
    exact ⟨A', c', w', hr, ho, h3, h5⟩

/-- The same, as one step of a region that draws its order. -/
theorem step_appendL {P : Program} {α : Type} {w : World} {ops : Array Oper} {o : Oper} {a : Act} {K : Act → World → Prop} {Q : Exit → Act → World → Prop} {E : Prop} {enc : α → List Value} (s x : Operand) (t e : TypeId) {z : Value} {size bytes : Nat}
    (hinfo : (P.info? e).map (fun i => (i.zero, i.size, i.bytes)) = some (some z, size, bytes)) (ht : P.underlying t = some (.slice e)) (hzs : z.cells.size = size) (hsz : 0 < size)
    (hgd : o.guard = none) (ho : o.op = .call { callee := .builtin .append, args := #[s, x], argTypes := #[t, t] })
    {base k n c : Nat} {v : Value} {l ys : List α} {A : Option Addr} (hs : a.eval s = v) (hx : a.eval x = .slice A n c) (hk : k = l.length) (hown : Own w base e size enc v l) (hn : n = ys.length) (hnil : A = none → c = 0) (henc : ∀ x, (enc x).length = size)
    (hy : Rd w size enc A ys) (h1 : ∀ y ∈ ys, ∀ u ∈ enc y, u.oneCell' = true) (hl : (k + n) * bytes ≤ 140737488355328) (h63 : k + n ≤ 9223372036854775807) (hbase : base ≤ w.heap.size)
    (h : ∀ A' c' w', Own w' base e size enc (.slice A' (k + n) c') (l ++ ys) → w.grownBy w' v.ownBlock → ((Value.slice A' (k + n) c').ownBlock = v.ownBlock ∨ (Value.slice A' (k + n) c').ownBlock = some w.heap.size) → K (a.put o.dst (.slice A' (k + n) c')) w') :
    if Region.wanted o (yielded ops a.tmps) = true then Oper.wp P o a w K Q else E := by
  have hw : Region.wanted o (yielded ops a.tmps) = true := by simp [Region.wanted, hgd]
  rw [if_pos hw]
  obtain ⟨A', c', w', hr, h2, h3, h4⟩ := run_appendL (P := P) t o.type e hinfo ht hzs hsz hk hown hn hnil henc hy h1 hl h63 hbase
  unfold Oper.wp execOp
  simp only [ho, resolve, invoke, builtin, Sem.run_bind, Sem.run_pure, Result.andThen_ok, List.map_toArray, List.map_cons, List.map_nil, hs, hx, hr]
  exact h A' c' w' h2 h3 h4

theorem wpList_appendAt {P : Program} {α : Type} {w : World} {ops : Array Oper} {rest : List Oper} {o : Oper} {a : Act} {Q : Exit → Act → World → Prop} {enc : α → List Value} (s x : Operand) (t e : TypeId) {z : Value} {size bytes : Nat}
    (hinfo : (P.info? e).map (fun i => (i.zero, i.size, i.bytes)) = some (some z, size, bytes)) (ht : P.underlying t = some (.slice e)) (hzs : z.cells.size = size) (hsz : 0 < size)
    (hgd : o.guard = none) (ho : o.op = .call { callee := .builtin .append, args := #[s, x], argTypes := #[t, t] })
    {base k n c : Nat} {v : Value} {l ys : List α} {A : Option Addr} (hs : a.eval s = v) (hx : a.eval x = .slice A n c) (hk : k = l.length) (hown : Own w base e size enc v l) (hn : n = ys.length) (hnil : A = none → c = 0) (henc : ∀ x, (enc x).length = size)
    (hy : Rd w size enc A ys) (h1 : ∀ y ∈ ys, ∀ u ∈ enc y, u.oneCell' = true) (hl : (k + n) * bytes ≤ 140737488355328) (h63 : k + n ≤ 9223372036854775807) (hbase : base ≤ w.heap.size)
    (h : ∀ A' c' w', Own w' base e size enc (.slice A' (k + n) c') (l ++ ys) → w.grownBy w' v.ownBlock → (∀ q, (Value.slice A' (k + n) c').ownBlock = some q → v.ownBlock = some q ∨ w.heap.size ≤ q) → wpList P ops Q rest (a.put o.dst (.slice A' (k + n) c')) w') : wpList P ops Q (o :: rest) a w := by
  obtain ⟨A', c', w', hr, h2, h3, h4⟩ := run_appendL (P := P) t o.type e hinfo ht hzs hsz hk hown hn hnil henc hy h1 hl h63 hbase
  refine wpList_plain hgd fun _ hK => ?_
  unfold Oper.wp
  simp only [execOp, ho, resolve, invoke, builtin, Sem.run_bind, Sem.run_pure, Result.andThen_ok, List.map_toArray, List.map_cons, List.map_nil, hs, hx, hr]
  exact hK _ _ (h A' c' w' h2 h3 fun q e => by
    rcases h4 with h4 | h4
    · left; rw [← h4]; exact e
    · right; rw [h4] at e; injection e with e; omega)

end

section
open Go.RowKit

def joinR (b p : Int) (l : List Str) (b' p' : Int) (l' : List Str) : PlR :=
  if planOk b p l && planOk b' p' l' && decide (b = b') && decide (p = p') && planOk b p (l ++ l') then ⟨b, p, l ++ l', true⟩ else noPlR
theorem planOk_len {b p : Int} {l : List Str} (h : planOk b p l = true) : l.length ≤ 60 := (planOk_parts h).2.2.1.2
theorem joinR_len {b p b' p' : Int} {l l' : List Str} : (joinR b p l b' p' l').l.length ≤ 1048576 := by
  unfold joinR
  split
  · rename_i h
    simp only [Bool.and_eq_true] at h
    have := planOk_len h.2
    show (l ++ l').length ≤ _
    omega
  · simp [noPlR]

end

section
open Go.RowKit

theorem heap3_0 (w : World) (o1 o2 o3 : Obj) : (((w.alloc o1).alloc o2).alloc o3).heap[w.heap.size]? = some o1 := by
  show (((w.heap.push o1).push o2).push o3)[w.heap.size]? = _
  rw [Array.getElem?_push, if_neg (by simp; omega), Array.getElem?_push, if_neg (by simp), Array.getElem?_push, if_pos rfl]
theorem Box.set3 {w : World} {g : Nat} {a b c : Value} (h : Box w g a b c) (x y z : Value) : Box (((w.setCell ⟨g, 0, none⟩ x).setCell ⟨g, 1, none⟩ y).setCell ⟨g, 2, none⟩ z) g x y z := by
  refine ⟨by simpa using h.lt, ?_, ?_, ?_, fun j => by rw [World.frozen?_setCell, World.frozen?_setCell, World.frozen?_setCell]; exact h.fz j⟩
  · rw [World.cell?_setCell_other _ _ _ _ (by simp), World.cell?_setCell_other _ _ _ _ (by simp)]
    exact World.cell?_setCell_same _ _ _ h.c0
  · rw [World.cell?_setCell_other _ _ _ _ (by simp)]
    exact World.cell?_setCell_same _ _ _ (u := b) (by rw [World.cell?_setCell_other w _ _ _ (by simp)]; exact h.c1)
  · exact World.cell?_setCell_same _ _ _ (u := c) (by rw [World.cell?_setCell_other _ _ _ _ (by simp), World.cell?_setCell_other _ _ _ _ (by simp)]; exact h.c2)
theorem Pool.setBox {w0 w : World} {ps : List Piece} (h : Pool w0 w ps) (i : Nat) {g : Nat} {a b c : Value} (hi : ps[i]? = some (boxP g a b c)) (x y z : Value) : Pool w0 (((w.setCell ⟨g, 0, none⟩ x).setCell ⟨g, 1, none⟩ y).setCell ⟨g, 2, none⟩ z) (ps.set i (boxP g x y z)) := by
  have hg : w.grownBy (((w.setCell ⟨g, 0, none⟩ x).setCell ⟨g, 1, none⟩ y).setCell ⟨g, 2, none⟩ z) (some g) := by
    have g1 : w.grownBy (w.setCell ⟨g, 0, none⟩ x) (some g) := grown_setCell (p := ⟨g, 0, none⟩) (World.grownBy.refl w (some g)) (.inl rfl) x
    have g2 : w.grownBy ((w.setCell ⟨g, 0, none⟩ x).setCell ⟨g, 1, none⟩ y) (some g) := grown_setCell (p := ⟨g, 1, none⟩) g1 (.inl rfl) y
    exact grown_setCell (p := ⟨g, 2, none⟩) g2 (.inl rfl) z
  have hb := (h.box i hi).set3 x y z
  refine h.turn i hi (fun k hk => ⟨.inl hk, ?_⟩) hb hg.os hg.tape hg.output hg.size fun k hlt hm => hg.block k hlt (fun e => hm ?_)
  · have hk : k ∈ [g] := hk
    have := List.mem_singleton.1 hk
    subst this; exact hb.lt
  · injection e with e
    subst e; exact List.mem_singleton.2 rfl
theorem dr {w : World} {a : Addr} {v : Value} (h : w.cell? a = some v) : w.drew.cell? a = some v := h
theorem keepS {w : World} {g k j : Nat} {u x y z : Value} (h : w.cell? ⟨k, j, none⟩ = some u) (hne : k ≠ g) : (((w.setCell ⟨g, 0, none⟩ x).setCell ⟨g, 1, none⟩ y).setCell ⟨g, 2, none⟩ z).cell? ⟨k, j, none⟩ = some u := by
  rw [World.cell?_setCell_other _ _ _ _ (by simp), World.cell?_setCell_other _ _ _ _ (by simp), World.cell?_setCell_other _ _ _ _ (by simp)]
  exact h
/-- The header of two slices. -/
def Hdr (w : World) (g : Nat) (u v : Value) : Prop := w.cell? ⟨g, 0, none⟩ = some u ∧ w.cell? ⟨g, 1, none⟩ = some v

end
end Go.Proofs.Ytjibjoapbjojlaa
