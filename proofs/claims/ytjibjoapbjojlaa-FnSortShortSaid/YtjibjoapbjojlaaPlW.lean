/-
  Copies of texts, texts reversed; a plan turned: the program's and the reference's.
  A plan turned: the program's and the reference's.
-/
import Derived.Test.YtjibjoapbjojlaaPlN
import Derived.Test.YtjibjoapbjojlaaShelf
import Derived.Laws.CopyOwn
import Derived.Lib.OwnBridge
import Derived.Deep.AppendLies
import Derived.Deep.RegionLaw
namespace Go.Proofs.Ytjibjoapbjojlaa

section
open Go.RowKit

theorem flat_one {α : Type} {enc : α → List Value} (h1 : ∀ x, (enc x).length = 1) : ∀ l : List α, (l.flatMap enc).length = l.length
  | [] => rfl
  | x :: l => by rw [List.flatMap_cons, List.length_append, h1, flat_one h1 l, List.length_cons, Nat.add_comm]

/-- copy of a whole list into a row of the call's own, one cell an element. -/
theorem run_copy1 {P : Program} {α : Type} {w : World} {enc : α → List Value} (dT sT ty elem : TypeId) (hu : P.underlying dT = some (.slice elem)) (hsz : (P.info? elem).map (·.size) = some 1)
    (henc : ∀ x, (enc x).length = 1) {base g n cap capA : Nat} {A : Option Addr} {l0 l : List α}
    (hown : Own w base elem 1 enc (.slice (some ⟨g, 0, none⟩) n cap) l0) (hr : Rd w 1 enc A l) (hl : n = l.length) (h1 : ∀ x ∈ l, ∀ u ∈ enc x, u.oneCell' = true) {B : Nat} {w0 : World} (hb : Below B w0 w) (hBg : B ≤ g) :
    ∃ w', (Builtin.copy_ #[dT, sT] ty #[.slice (some ⟨g, 0, none⟩) n cap, .slice A n capA]).run P w = .ok (.int .i64 n) w' ∧ Own w' base elem 1 enc (.slice (some ⟨g, 0, none⟩) n cap) l ∧ Below B w0 w' := by
  by_cases h0 : n = 0
  · refine ⟨w, ?_, ?_, hb⟩
    · have := run_copy_none (P := P) w dT sT ty elem (some ⟨g, 0, none⟩) A n cap n capA hu hsz (by simp [h0])
      rw [this, h0]; rfl
    · have : l = l0 := by
        have e0 := hown.len
        rw [List.eq_nil_of_length_eq_zero (hl.symm.trans h0), List.eq_nil_of_length_eq_zero (e0.symm.trans h0)]
      rw [this]; exact hown
  · rcases hown.2 with ⟨e0, _⟩ | ⟨g', cap', cur, e0, hbg, hg, hnc, hm, hcs, ht⟩
    · cases e0
    · injection e0 with e1 e2 e3
      injection e1 with e1
      injection e1 with e1
      subst e1 e3
      have hnl := flat_one henc l
      have hcl : n ≤ cur.size := by rw [hcs]; omega
      obtain ⟨ad, rfl, _, hc⟩ := hr (by omega)
      have hrun := run_copy_row (P := P) w dT sT ty elem g 0 n cap ad n capA cur elem (l.flatMap enc) hu hsz hg (by rw [hnl, ← hl]; simp) (fun j v hj => by
        obtain ⟨i, x, hx, k, hk, rfl⟩ := flat_at_mem (by omega) henc l j v hj
        exact hc i x hx k v hk) (by rw [hnl, ← hl]; omega) (fun v hv => by
        obtain ⟨x, hx, hv⟩ := List.mem_flatMap.1 hv
        exact h1 x hx v hv)
      rw [hnl, ← hl] at hrun
      refine ⟨_, hrun, ?_, below_setRow hb hBg _⟩
      refine ⟨by rw [hnl]; omega, .inr ⟨g, cap, _, by rw [hl], hbg, setRow_heap w g _ _ elem _ hg, by omega, hm, ?_, ?_⟩⟩
      · simp only [List.take_zero, List.nil_append, List.size_toArray, List.length_append, List.length_drop, hnl, Array.length_toList]
        omega
      · simp only [List.take_zero, List.nil_append, Nat.mul_one]
        rw [List.take_append_of_le_length (by omega), List.take_of_length_le (by omega)]

theorem strEnc_bridge (l : List Str) : l.flatMap strEnc = (l.map (·.data.toList)).map Proofs.encStr := by
  rw [Lib.map_encStr]
  induction l with
  | nil => rfl
  | cons x l ih => rw [List.flatMap_cons, ih]; rfl

end

section
open Go.RowKit

/-- A plan and a Bool, as a result. -/
structure PlR where
  b : Int
  p : Int
  l : List Str
  ok : Bool
def noPlR : PlR := ⟨0, 0, [], false⟩
def PlRet (r : PlR) (w : World) (e : Ending) (w' : World) : Prop :=
  ∃ A k cap, e = .returned (.tuple #[.agg #[.int .i64 r.b, .int .i64 r.p, .slice A k cap], .bool r.ok]) ∧ Own w' w.heap.size 9 1 strEnc (.slice A k cap) r.l ∧ Below w.heap.size w w'

theorem heap2_0 (w : World) (o1 o2 : Obj) : ((w.alloc o1).alloc o2).heap[w.heap.size]? = some o1 := by
  show ((w.heap.push o1).push o2)[w.heap.size]? = _
  simp [Array.getElem?_push]
theorem heap2_1 (w : World) (o1 o2 : Obj) : ((w.alloc o1).alloc o2).heap[w.heap.size + 1]? = some o2 := by
  show ((w.heap.push o1).push o2)[w.heap.size + 1]? = _
  rw [Array.getElem?_push, if_pos (by simp)]
theorem box3f {w : World} {g : Nat} {a b c : Value} {t : TypeId} (h : w.heap[g]? = some (.cells #[a, b, c] t (0, 0))) : w.cell? ⟨g, 0, none⟩ = some a ∧ w.cell? ⟨g, 1, none⟩ = some b ∧ w.cell? ⟨g, 2, none⟩ = some c ∧ w.frozen? ⟨g, 0, none⟩ = false ∧ w.frozen? ⟨g, 1, none⟩ = false ∧ w.frozen? ⟨g, 2, none⟩ = false :=
  ⟨(cells_of_heap h 0).1, (cells_of_heap h 1).1, (cells_of_heap h 2).1, (cells_of_heap h 0).2, (cells_of_heap h 1).2, (cells_of_heap h 2).2⟩
/-- A call that wrote into a new block alone. -/
theorem grown_below_at {w w1 w2 : World} {g : Nat} (h : Below w.heap.size w w1) (hg : w1.grownBy w2 (some g)) (hn : w.heap.size ≤ g := by omega) : Below w.heap.size w w2 :=
  h.trans ⟨hg.os, hg.tape, hg.output, hg.size, fun k hk => hg.block k (by have := h.size; omega) (by intro e; injection e with e; omega)⟩
/-- Three cells of one block, stored one behind the other. -/
theorem set3 {w : World} {g : Nat} {x0 x1 x2 : Value} (h0 : w.cell? ⟨g, 0, none⟩ = some x0) (h1 : w.cell? ⟨g, 1, none⟩ = some x1) (h2 : w.cell? ⟨g, 2, none⟩ = some x2) (v0 v1 v2 : Value) :
    (w.setCell ⟨g, 0, none⟩ v0).cell? ⟨g, 0, none⟩ = some v0 ∧ ((w.setCell ⟨g, 0, none⟩ v0).setCell ⟨g, 1, none⟩ v1).cell? ⟨g, 1, none⟩ = some v1 ∧ (((w.setCell ⟨g, 0, none⟩ v0).setCell ⟨g, 1, none⟩ v1).setCell ⟨g, 2, none⟩ v2).cell? ⟨g, 2, none⟩ = some v2 := by
  refine ⟨World.cell?_setCell_same _ _ _ h0, ?_, ?_⟩
  · exact World.cell?_setCell_same _ _ _ (u := x1) (by rw [World.cell?_setCell_other w _ _ _ (by simp)]; exact h1)
  · exact World.cell?_setCell_same _ _ _ (u := x2) (by rw [World.cell?_setCell_other _ _ _ _ (by simp), World.cell?_setCell_other _ _ _ _ (by simp)]; exact h2)
theorem below_set3 {B : Nat} {w0 w : World} {g : Nat} (h : Below B w0 w) (hg : B ≤ g) (v0 v1 v2 : Value) : Below B w0 (((w.setCell ⟨g, 0, none⟩ v0).setCell ⟨g, 1, none⟩ v1).setCell ⟨g, 2, none⟩ v2) :=
  ((h.setCell hg _).setCell hg _).setCell hg _
/-- A block of three cells. -/
structure Box (w : World) (g : Nat) (a b c : Value) : Prop where
  lt : g < w.heap.size
  c0 : w.cell? ⟨g, 0, none⟩ = some a
  c1 : w.cell? ⟨g, 1, none⟩ = some b
  c2 : w.cell? ⟨g, 2, none⟩ = some c
  fz : ∀ j, w.frozen? ⟨g, j, none⟩ = false
theorem Box.of_heap {w : World} {g : Nat} {a b c : Value} {t : TypeId} (h : w.heap[g]? = some (.cells #[a, b, c] t (0, 0))) : Box w g a b c :=
  ⟨(Array.getElem?_eq_some_iff.1 h).1, (box3 h).1, (box3 h).2.1, (box3 h).2.2, fun j => (cells_of_heap h j).2⟩
theorem Box.kept {w w' : World} {g : Nat} {a b c : Value} (h : Box w g a b c) (hs : w.heap.size ≤ w'.heap.size) (hk : w'.heap[g]? = w.heap[g]?) : Box w' g a b c :=
  ⟨by have := h.lt; omega, (World.cell?_of_block (a := ⟨g, 0, none⟩) hk).trans h.c0, (World.cell?_of_block (a := ⟨g, 1, none⟩) hk).trans h.c1, (World.cell?_of_block (a := ⟨g, 2, none⟩) hk).trans h.c2, fun j => (World.frozen?_of_block (a := ⟨g, j, none⟩) hk).trans (h.fz j)⟩
theorem Box.below {w w' : World} {g : Nat} {a b c : Value} (h : Box w g a b c) (hb : Below w.heap.size w w') : Box w' g a b c := h.kept hb.size (hb.block g h.lt)
theorem Box.far {α : Type} {w w' : World} {g base : Nat} {a b c v : Value} {e : TypeId} {size : Nat} {enc : α → List Value} {l : List α} (h : Box w g a b c) (hg : w.grownBy w' v.ownBlock) (ho : Own w base e size enc v l) (hk : g < base) : Box w' g a b c :=
  h.kept hg.size (hg.block g h.lt (by intro e; have := (ho.lt g e.symm).1; omega))
theorem Box.set2 {w : World} {g : Nat} {a b c : Value} (h : Box w g a b c) (v : Value) : Box (w.setCell ⟨g, 2, none⟩ v) g a b v :=
  ⟨by simpa using h.lt, by rw [World.cell?_setCell_other _ _ _ _ (by simp)]; exact h.c0, by rw [World.cell?_setCell_other _ _ _ _ (by simp)]; exact h.c1, World.cell?_setCell_same _ _ _ h.c2, fun j => by rw [World.frozen?_setCell]; exact h.fz j⟩
theorem Box.drew {w : World} {g : Nat} {a b c : Value} (h : Box w g a b c) : Box w.drew g a b c := ⟨h.lt, h.c0, h.c1, h.c2, h.fz⟩
theorem own_push {α : Type} {w : World} {base : Nat} {e : TypeId} {size : Nat} {enc : α → List Value} {v : Value} {l : List α} {k : Nat} {x : α} (h : w.ownsRow base e size v (k + 1) (l.flatMap enc ++ enc x)) (hk : k = l.length) : Own w base e size enc v (l ++ [x]) := by
  subst hk; exact Own.of_append h
theorem below_own {α : Type} {B : Nat} {w0 w w' : World} {base : Nat} {e : TypeId} {size : Nat} {enc : α → List Value} {v : Value} {l : List α} (h : Below B w0 w) (hg : w.grownBy w' v.ownBlock) (ho : Own w base e size enc v l) (hB : B ≤ base) (hw : B ≤ w.heap.size) : Below B w0 w' :=
  h.trans ⟨hg.os, hg.tape, hg.output, hg.size, fun k hk => hg.block k (by omega) (by intro e; have := (ho.lt k e.symm).1; omega)⟩
def turnR (b p : Int) (l : List Str) : PlR := if planOk b p l then ⟨b, p, l.reverse, true⟩ else noPlR

theorem rev_take_succ {l : List Str} {k : Nat} {x : Str} (hk : k < l.length) (hx : l[l.length - 1 - k]? = some x) : l.reverse.take (k + 1) = l.reverse.take k ++ [x] := by
  rw [List.take_add_one, List.getElem?_reverse hk, hx]
  rfl

end
end Go.Proofs.Ytjibjoapbjojlaa
