/-
  Words for memory: a slice that reads as a list, a slice of the call's own; what lasts over later worlds. No function of the program is named here.
-/
import Derived.Test.YtjibjoapbjojlaaRows
import Derived.WalkKit
import Derived.WalkLawsBesides
import Derived.Lib.Hide
import Derived.Deep.QuietTactic
import Derived.BigQuiet
import Derived.Laws.OwnMore
import Derived.Maps.AppendAt
import Derived.Laws.AppendOwnNone
import Derived.Lib.AppendZerosOnto
namespace Go.Proofs.Ytjibjoapbjojlaa
open Go.RowKit

theorem ret_int {k : IntKind} {a b : Int} (h : a = b) : Ending.returned (.int k a) = .returned (.int k b) := by rw [h]
theorem dec_self {α : Type} [DecidableEq α] (a : α) : decide (a = a) = true := by simp
theorem ret_bool {a b : Bool} (h : a = b) : Ending.returned (.bool a) = .returned (.bool b) := by rw [h]

theorem block_add (a : Addr) (n : Nat) : (a.add n).block = a.block := by unfold Addr.add; split <;> rfl
theorem add_add' (a : Addr) (i j : Nat) : (a.add i).add j = a.add (i + j) := by
  unfold Addr.add
  by_cases hi : i = 0 <;> by_cases hj : j = 0 <;> simp [hi, hj, Nat.add_assoc]
theorem cell_spot {w : World} {a : Addr} {v : Value} (h : w.cell? a = some v) : a.spot = none := by
  unfold World.cell? at h
  split at h
  · split at h
    · cases h
    · rename_i hs; simpa using hs
  · cases h
/-- The walk's own spelling of the second cell of a struct. -/
theorem cell_succ {w : World} {a : Addr} {v : Value} (i j : Nat) (hj : 0 < j) (h : w.cell? (a.add (i + j)) = some v) : w.cell? ⟨(a.add i).block, (a.add i).off + j, none⟩ = some v := by
  have hs := cell_spot h
  rw [show a.add (i + j) = ⟨(a.add i).block, (a.add i).off + j, none⟩ from ?_] at h
  · exact h
  · rw [← add_add']
    show (if j = 0 then a.add i else { a.add i with off := (a.add i).off + j, spot := none }) = _
    rw [if_neg (by omega)]

/-- A slice's address A leads to the elements l, each laid by enc in size cells. -/
def Rd {α : Type} (w : World) (size : Nat) (enc : α → List Value) (A : Option Addr) (l : List α) : Prop :=
  0 < l.length → ∃ ad, A = some ad ∧ ad.block < w.heap.size ∧ ∀ i x, l[i]? = some x → ∀ j u, (enc x)[j]? = some u → w.cell? (ad.add (i * size + j)) = some u

section
variable {α : Type} {w w' : World} {size : Nat} {enc : α → List Value} {A : Option Addr} {l : List α}

theorem Rd.nil_ : Rd w size enc A [] := fun h => absurd h (by simp)
theorem Rd.keep (h : Rd w size enc A l) (hz : w.heap.size ≤ w'.heap.size) (hk : ∀ p : Addr, p.block < w.heap.size → A.map (·.block) = some p.block → w'.cell? p = w.cell? p) : Rd w' size enc A l := fun hl => by
  obtain ⟨ad, rfl, hb, hc⟩ := h hl
  exact ⟨ad, rfl, by omega, fun i x hx j u hu => (hk _ (by rw [block_add]; exact hb) (by rw [block_add]; rfl)).trans (hc i x hx j u hu)⟩
theorem Rd.below (h : Rd w size enc A l) (hb : Below w.heap.size w w') : Rd w' size enc A l := h.keep hb.size fun _ hp _ => hb.cell hp
theorem Rd.grown (h : Rd w size enc A l) {row : Option Nat} (hg : w.grownBy w' row) (hr : ∀ ad, A = some ad → some ad.block ≠ row) : Rd w' size enc A l :=
  h.keep hg.size fun p hp hA => by
    obtain ⟨ad, rfl, he⟩ : ∃ ad, A = some ad ∧ ad.block = p.block := by cases A <;> simp at hA; exact ⟨_, rfl, hA⟩
    exact World.cell?_of_block (hg.block p.block hp (by rw [← he]; exact hr _ rfl))
theorem Rd.drewN (h : Rd w size enc A l) (n : Nat) : Rd (w.drewN n) size enc A l := h
theorem Rd.lt (h : Rd w size enc A l) (hl : 0 < l.length) : ∀ ad, A = some ad → ad.block < w.heap.size := fun ad e => by
  obtain ⟨ad', e', hb, _⟩ := h hl
  rw [e] at e'
  injection e' with e'
  rw [e']; exact hb
/-- Element i, one cell. -/
theorem Rd.one {i : Nat} {x : α} {u : Value} (h : Rd w 1 enc A l) (hx : l[i]? = some x) (he : enc x = [u]) : ∃ ad, A = some ad ∧ ad.block < w.heap.size ∧ w.cell? (ad.add i) = some u := by
  obtain ⟨ad, rfl, hb, hc⟩ := h (by have := (List.getElem?_eq_some_iff.1 hx).1; omega)
  refine ⟨ad, rfl, hb, ?_⟩
  have := hc i x hx 0 u (by rw [he]; rfl)
  simpa using this
/-- Element i, two cells. -/
theorem Rd.two {i : Nat} {x : α} {u v : Value} (h : Rd w 2 enc A l) (hx : l[i]? = some x) (he : enc x = [u, v]) :
    ∃ ad, A = some ad ∧ ad.block < w.heap.size ∧ w.cell? (ad.add (i * 2)) = some u ∧ w.cell? ⟨(ad.add (i * 2)).block, (ad.add (i * 2)).off + 1, none⟩ = some v := by
  obtain ⟨ad, rfl, hb, hc⟩ := h (by have := (List.getElem?_eq_some_iff.1 hx).1; omega)
  exact ⟨ad, rfl, hb, hc i x hx 0 u (by rw [he]; rfl), cell_succ _ 1 (by omega) (hc i x hx 1 v (by rw [he]; rfl))⟩
theorem Rd.take (h : Rd w size enc A l) (k : Nat) : Rd w size enc A (l.take k) := fun hl => by
  obtain ⟨ad, rfl, hb, hc⟩ := h (by rw [List.length_take] at hl; omega)
  refine ⟨ad, rfl, hb, fun i x hx => hc i x ?_⟩
  rw [List.getElem?_take] at hx
  split at hx
  · exact hx
  · cases hx
/-- A cut from k on; the model keeps the old address where k is the capacity. -/
theorem Rd.drop (h : Rd w size enc A l) {k cap : Nat} (hc : l.length ≤ cap) : Rd w size enc (if cap = k then A else A.map (·.add (k * size))) (l.drop k) := fun hl => by
  rw [List.length_drop] at hl
  obtain ⟨ad, rfl, hb, hcell⟩ := h (by omega)
  rw [if_neg (by omega)]
  refine ⟨ad.add (k * size), rfl, by rw [block_add]; exact hb, fun i x hx j u hu => ?_⟩
  rw [add_add', ← Nat.add_assoc, ← Nat.add_mul]
  exact hcell _ x (by rw [← hx, List.getElem?_drop]) j u hu

end

/-- The slice value v is the call's own: its row lies in a block from base on; its elements are l. -/
def Own {α : Type} (w : World) (base : Nat) (e : TypeId) (size : Nat) (enc : α → List Value) (v : Value) (l : List α) : Prop := w.ownsRow base e size v l.length (l.flatMap enc)

theorem flatMap_at {α : Type} {size : Nat} {enc : α → List Value} (hs : ∀ x, (enc x).length = size) : ∀ (l : List α) (i : Nat) (x : α), l[i]? = some x → ∀ j, j < size → (l.flatMap enc)[i * size + j]? = (enc x)[j]?
  | [], i, x, h, j, hj => by simp at h
  | y :: l, 0, x, h, j, hj => by
    simp at h
    subst h
    simp only [List.flatMap_cons, Nat.zero_mul, Nat.zero_add]
    rw [List.getElem?_append_left (by rw [hs]; exact hj)]
  | y :: l, i + 1, x, h, j, hj => by
    simp only [List.getElem?_cons_succ] at h
    simp only [List.flatMap_cons]
    rw [List.getElem?_append_right (by rw [hs, Nat.add_mul]; omega), hs, show (i + 1) * size + j - size = i * size + j from by rw [Nat.add_mul]; omega]
    exact flatMap_at hs l i x h j hj

theorem below_grown {w w' : World} (h : Below w.heap.size w w') (row : Option Nat) : w.grownBy w' row := ⟨h.os, h.tape, h.output, h.size, fun k hk _ => h.block k hk⟩
theorem grown_below {w w' : World} {row : Option Nat} (h : w.grownBy w' row) (hr : ∀ g, row = some g → w.heap.size ≤ g) : Below w.heap.size w w' :=
  ⟨h.os, h.tape, h.output, h.size, fun k hk => h.block k hk (fun e => by have := hr _ e.symm; omega)⟩
theorem grown_trans {a b c : World} {row : Option Nat} (h : a.grownBy b row) (k : b.grownBy c row) : a.grownBy c row :=
  ⟨k.os.trans h.os, k.tape.trans h.tape, k.output.trans h.output, Nat.le_trans h.size k.size, fun i hi hne => (k.block i (Nat.lt_of_lt_of_le hi h.size) hne).trans (h.block i hi hne)⟩
theorem grown_of_below {a b c : World} {row : Option Nat} (h : a.grownBy b row) (k : Below b.heap.size b c) : a.grownBy c row := grown_trans h (below_grown k row)
theorem below_drewN {B : Nat} {a w : World} (h : Below B a w) (n : Nat) : Below B a (w.drewN n) := ⟨h.os, h.tape, h.output, h.size, h.block⟩
theorem below_cell {w w' : World} {a : Addr} {v : Value} (hb : Below w.heap.size w w') (h : w.cell? a = some v) : w'.cell? a = some v := by
  rw [hb.cell (World.block_lt_of_cell? w a h)]; exact h
/-- Two steps, each below its own world's size. -/
theorem below_step {a b c : World} (h : Below a.heap.size a b) (k : Below b.heap.size b c) : Below a.heap.size a c := h.trans (k.mono h.size)

section
variable {α : Type} {w w' : World} {base : Nat} {e : TypeId} {size : Nat} {enc : α → List Value} {v : Value} {l : List α}
theorem Own.nil_ (w : World) (base : Nat) (e : TypeId) (size : Nat) (enc : α → List Value) : Own w base e size enc (.slice none 0 0) [] := World.ownsRow_nil _ _ _ _
/-- An empty literal: a block of no cells. -/
theorem Own.lit0 (w : World) (e : TypeId) (size : Nat) (enc : α → List Value) : Own (w.alloc (.cells #[] e)) w.heap.size e size enc (.slice (some ⟨w.heap.size, 0, none⟩) 0 0) [] := World.ownsRow_made w #[] 0 (Nat.le_refl _) (Nat.zero_le _) (by simp)
theorem Own.grown (h : Own w base e size enc v l) {row : Option Nat} (hg : w.grownBy w' row) (hne : v.ownBlock = none ∨ v.ownBlock ≠ row) : Own w' base e size enc v l := World.ownsRow.kept h hg hne
theorem Own.below (h : Own w base e size enc v l) (hb : Below w.heap.size w w') : Own w' base e size enc v l := by
  refine World.ownsRow.kept h (below_grown hb none) ?_
  cases hv : v.ownBlock with
  | none => exact .inl rfl
  | some g => exact .inr (by simp)
theorem Own.alloc (h : Own w base e size enc v l) (o : Obj) : Own (w.alloc o) base e size enc v l := h.below ((Below.refl _ _).alloc (Nat.le_refl _) _)
theorem Own.lower (h : Own w base e size enc v l) {base' : Nat} (hb : base' ≤ base) : Own w base' e size enc v l := by
  obtain ⟨h1, h2⟩ := h
  refine ⟨h1, ?_⟩
  rcases h2 with h2 | ⟨g, cap, cur, hv, hg, r⟩
  · exact .inl h2
  · exact .inr ⟨g, cap, cur, hv, by omega, r⟩
theorem Own.lt (h : Own w base e size enc v l) : ∀ k, v.ownBlock = some k → base ≤ k ∧ k < w.heap.size := World.ownsRow.lt h
/-- Its header, and what it reads. -/
theorem Own.form (hs : ∀ x, (enc x).length = size) (h : Own w base e size enc v l) : ∃ A c, v = .slice A l.length c ∧ l.length ≤ c ∧ c ≤ maxLen ∧ Rd w size enc A l ∧ (∀ ad, A = some ad → base ≤ ad.block ∧ ad.block < w.heap.size) := by
  have hlt := h.lt
  have hcells := fun g hg => World.ownsRow.cells h (g := g) hg
  rcases h.2 with ⟨rfl, hl⟩ | ⟨g, cap, cur, rfl, hg, hh, hnc, hcm, _, _⟩
  · have hl0 : l = [] := List.eq_nil_of_length_eq_zero hl
    subst hl0
    exact ⟨none, 0, rfl, Nat.le_refl _, by simp, Rd.nil_, fun ad e => by cases e⟩
  · refine ⟨some ⟨g, 0, none⟩, cap, rfl, hnc, hcm, fun hl => ⟨⟨g, 0, none⟩, rfl, (hlt g rfl).2, fun i x hx j u hu => ?_⟩, fun ad e => by injection e with e; subst e; exact hlt g rfl⟩
    have hj : j < size := by have := (List.getElem?_eq_some_iff.1 hu).1; rw [hs] at this; exact this
    exact hcells g rfl _ u (by rw [flatMap_at hs l i x hx j hj]; exact hu)
/-- What append leaves. -/
theorem Own.of_append {x : α} (h : w.ownsRow base e size v (l.length + 1) (l.flatMap enc ++ enc x)) : Own w base e size enc v (l ++ [x]) := by
  unfold Own
  simpa [List.flatMap_append, List.length_append] using h

end

theorem Own.rd {α : Type} {w : World} {base : Nat} {e : TypeId} {size : Nat} {enc : α → List Value} {A : Option Addr} {n c : Nat} {l : List α} (hs : ∀ x, (enc x).length = size) (h : Own w base e size enc (.slice A n c) l) : Rd w size enc A l := by
  obtain ⟨A', c', e1, _, _, hr, _⟩ := h.form hs
  injection e1 with e1
  rw [e1]; exact hr
theorem flat_set2 {α : Type} {enc : α → List Value} (hs : ∀ x, (enc x).length = 2) {y : α} {u v : Value} (he : enc y = [u, v]) : ∀ (l : List α) (i : Nat), i < l.length → ((l.flatMap enc).set (i * 2) u).set (i * 2 + 1) v = (l.set i y).flatMap enc
  | [], i, h => absurd h (by simp)
  | x :: l, 0, _ => by
    match hx : enc x, hs x with
    | [a, b], _ => simp [List.flatMap_cons, hx, he]
  | x :: l, i + 1, h => by
    have ih := flat_set2 hs he l i (by simpa using h)
    match hx : enc x, hs x with
    | [a, b], _ =>
      simp only [List.flatMap_cons, hx, List.set_cons_succ, show (i + 1) * 2 = i * 2 + 1 + 1 from by omega, List.cons_append, List.nil_append]
      rw [ih]
theorem flat_set1 {α : Type} {enc : α → List Value} (hs : ∀ x, (enc x).length = 1) {y : α} {u : Value} (he : enc y = [u]) : ∀ (l : List α) (i : Nat), i < l.length → (l.flatMap enc).set i u = (l.set i y).flatMap enc
  | [], i, h => absurd h (by simp)
  | x :: l, 0, _ => by
    match hx : enc x, hs x with
    | [a], _ => simp [List.flatMap_cons, hx, he]
  | x :: l, i + 1, h => by
    have ih := flat_set1 hs he l i (by simpa using h)
    match hx : enc x, hs x with
    | [a], _ =>
      simp only [List.flatMap_cons, hx, List.set_cons_succ, List.cons_append, List.nil_append]
      rw [ih]
theorem made2 (a b : Value) : ∀ n : Nat, (madeCells #[a, b] (n * 2)).toList = (List.replicate n ()).flatMap fun _ => [a, b]
  | 0 => by simp [madeCells]
  | n + 1 => by
    have ih := made2 a b n
    have h : ∀ m : Nat, (madeCells #[a, b] m).toList = (List.range m).map fun i => (#[a, b] : Array Value)[i % 2]! := fun m => by simp [madeCells]
    rw [h] at ih ⊢
    rw [show (n + 1) * 2 = n * 2 + 1 + 1 from by omega, List.range_succ, List.range_succ, List.map_append, List.map_append, ih, List.replicate_succ']
    simp [List.flatMap_append, show n * 2 % 2 = 0 from by omega, show (n * 2 + 1) % 2 = 1 from by omega]
theorem flat_replicate {α : Type} (f : α → List Value) (x : α) : ∀ n : Nat, (List.replicate n x).flatMap f = (List.replicate n ()).flatMap fun _ => f x
  | 0 => rfl
  | n + 1 => by simp only [List.replicate_succ, List.flatMap_cons, flat_replicate f x n]

section
variable {α : Type} {w w' : World} {base g n cap : Nat} {e : TypeId} {enc : α → List Value} {l : List α}
theorem Own.set2 (hs : ∀ x, (enc x).length = 2) (h : Own w base e 2 enc (.slice (some ⟨g, 0, none⟩) n cap) l) (hn : n = l.length) {i : Nat} (hi : i < n) {y : α} {u v : Value} (he : enc y = [u, v]) :
    Own ((w.setCell ⟨g, i * 2, none⟩ u).setCell ⟨g, i * 2 + 1, none⟩ v) base e 2 enc (.slice (some ⟨g, 0, none⟩) n cap) (l.set i y) := by
  subst hn
  unfold Own at *
  rw [List.length_set, ← flat_set2 hs he l i hi]
  exact (World.ownsRow.stored (World.ownsRow.stored h _ u).1 _ v).1
theorem Own.set1 (hs : ∀ x, (enc x).length = 1) (h : Own w base e 1 enc (.slice (some ⟨g, 0, none⟩) n cap) l) (hn : n = l.length) {i : Nat} (hi : i < n) {y : α} {u : Value} (he : enc y = [u]) :
    Own (w.setCell ⟨g, i, none⟩ u) base e 1 enc (.slice (some ⟨g, 0, none⟩) n cap) (l.set i y) := by
  subst hn
  unfold Own at *
  rw [List.length_set, ← flat_set1 hs he l i hi]
  exact (World.ownsRow.stored h _ u).1
/-- The cells of element i: what they hold; not frozen. -/
theorem Own.cell2 {size : Nat} (hs : ∀ x, (enc x).length = size) (h : Own w base e size enc (.slice (some ⟨g, 0, none⟩) n cap) l) (hn : n = l.length) {i : Nat} {x : α} (hx : l[i]? = some x) {j : Nat} (hj : j < size) :
    w.cell? ⟨g, i * size + j, none⟩ = (enc x)[j]? ∧ w.frozen? ⟨g, i * size + j, none⟩ = false := by
  subst hn
  have hi : i < l.length := (List.getElem?_eq_some_iff.1 hx).1
  refine ⟨?_, World.ownsRow.frozenAt h _⟩
  rw [World.ownsRow.cellAt h _ (by
    calc i * size + j < i * size + size := by omega
      _ = (i + 1) * size := by rw [Nat.add_mul, Nat.one_mul]
      _ ≤ l.length * size := Nat.mul_le_mul_right _ hi), flatMap_at hs l i x hx j hj]
theorem grown_setCell {a : World} {row : Option Nat} (h : a.grownBy w row) {p : Addr} (hp : some p.block = row ∨ a.heap.size ≤ p.block) (u : Value) : a.grownBy (w.setCell p u) row :=
  ⟨h.os, h.tape, h.output, by simpa [World.setCell] using h.size, fun i hi hne => (Below.heap_setCell w p u i (by
    rintro rfl
    rcases hp with hp | hp
    · exact hne hp
    · omega)).trans (h.block i hi hne)⟩

end

section
variable {α : Type} {w w' : World} {base n cap : Nat} {e : TypeId} {size : Nat} {enc : α → List Value} {A : Option Addr} {l : List α}
theorem Own.head (h : Own w base e size enc (.slice A n cap) l) (hn : 0 < n) : ∃ g, A = some ⟨g, 0, none⟩ ∧ base ≤ g ∧ g < w.heap.size := by
  have hlt := h.lt
  rcases h.2 with ⟨h', hl⟩ | ⟨g, cap', cur, h', hg, hh, hnc, _⟩
  · injection h' with h1 h2 h3; omega
  · injection h' with h1 h2 h3
    subst h1
    exact ⟨g, rfl, hg, (hlt g rfl).2⟩
theorem Own.len (h : Own w base e size enc (.slice A n cap) l) : n = l.length := by
  rcases h.2 with ⟨h', hl⟩ | ⟨g, cap', cur, h', _⟩
  · injection h' with h1 h2 h3; omega
  · injection h' with h1 h2 h3
theorem Own.cap_le (h : Own w base e size enc (.slice A n cap) l) : n ≤ cap := by
  rcases h.2 with ⟨h', hl⟩ | ⟨g, cap', cur, h', _, _, hnc, _⟩
  · injection h' with h1 h2 h3; omega
  · injection h' with h1 h2 h3; omega
theorem Own.of_raw2 {g : Nat} (hs : ∀ x, (enc x).length = 2) (hn : n = l.length) {i : Nat} (hi : i < n) {y : α} {u v : Value} (he : enc y = [u, v])
    (h : w.ownsRow base e 2 (.slice (some ⟨g, 0, none⟩) n cap) n (((l.flatMap enc).set (i * 2) u).set (i * 2 + 1) v)) : Own w base e 2 enc (.slice (some ⟨g, 0, none⟩) n cap) (l.set i y) := by
  subst hn
  unfold Own
  rw [List.length_set, ← flat_set2 hs he l i hi]
  exact h

end

/-- append of one element to a slice of the call's own. -/
theorem wpList_append1 {P : Program} {α : Type} {w : World} {ops : Array Oper} {rest : List Oper} {o : Oper} {a : Act} {Q : Exit → Act → World → Prop} {enc : α → List Value} (s x : Operand) (t e : TypeId) {z : Value} {size bytes : Nat}
    (hinfo : (P.info? e).map (fun i => (i.zero, i.size, i.bytes)) = some (some z, size, bytes)) (ht : P.underlying t = some (.slice e)) (hzs : z.cells.size = size) (hsz : 0 < size)
    (hgd : o.guard = none) (ho : o.op = .call { callee := .builtin .append, args := #[s, x], argTypes := #[t, t] })
    {base : Nat} {v : Value} {l : List α} (y : α) (hs : a.eval s = v) (hown : Own w base e size enc v l) {ad : Addr} {c : Nat} (hx : a.eval x = .slice (some ad) 1 c) (henc : ∀ x, (enc x).length = size)
    (hy : ∀ j u, (enc y)[j]? = some u → w.cell? (ad.add j) = some u) (h1 : ∀ u ∈ enc y, u.oneCell' = true) (hl : (l.length + 1) * bytes ≤ 140737488355328) (h63 : l.length + 1 ≤ 9223372036854775807) (hbase : base ≤ w.heap.size)
    (h : ∀ A' c' w', Own w' base e size enc (.slice A' (l.length + 1) c') (l ++ [y]) → w.grownBy w' v.ownBlock → wpList P ops Q rest (a.put o.dst (.slice A' (l.length + 1) c')) w') : wpList P ops Q (o :: rest) a w := by
  obtain ⟨i0, hi, hz0, hz1, hz2⟩ := info_parts hinfo
  refine wpList_append_own w hgd s x t ho base e i0 z size bytes ht hi hz0 hz1 hz2 hzs hsz v l.length (l.flatMap enc) hs hown ad 1 c (enc y) hx (by rw [henc, Nat.one_mul]) hy h1 (by unfold maxLen; omega) hl hbase ?_
  intro v' w' hown' hg' _
  have ho := Own.of_append (x := y) hown'
  obtain ⟨A', c', rfl, _⟩ := ho.form henc
  rw [List.length_append, List.length_singleton] at ho
  have hv : (Value.slice A' (l ++ [y]).length c') = .slice A' (l.length + 1) c' := by rw [List.length_append, List.length_singleton]
  rw [hv]
  exact h A' c' w' ho hg'

theorem flat_len {α : Type} {size : Nat} {enc : α → List Value} (hs : ∀ x, (enc x).length = size) : ∀ l : List α, (l.flatMap enc).length = l.length * size
  | [] => by simp
  | x :: l => by rw [List.flatMap_cons, List.length_append, hs, flat_len hs l, List.length_cons, Nat.add_mul, Nat.one_mul, Nat.add_comm]
theorem flat_at_mem {α : Type} {size : Nat} (hsz : 0 < size) {enc : α → List Value} (hs : ∀ x, (enc x).length = size) (l : List α) (j : Nat) (u : Value) (h : (l.flatMap enc)[j]? = some u) : ∃ i x, l[i]? = some x ∧ ∃ k, (enc x)[k]? = some u ∧ j = i * size + k := by
  have hj : j < l.length * size := by
    have := (List.getElem?_eq_some_iff.1 h).1
    rw [flat_len hs] at this
    exact this
  have hi : j / size < l.length := Nat.div_lt_of_lt_mul (by rw [Nat.mul_comm]; exact hj)
  refine ⟨j / size, l[j / size], List.getElem?_eq_getElem hi, j % size, ?_, (Nat.div_add_mod' j size).symm⟩
  rw [← flatMap_at hs l (j / size) l[j / size] (List.getElem?_eq_getElem hi) (j % size) (Nat.mod_lt _ hsz), Nat.div_add_mod']
  exact h
/-- append of a list that reads somewhere, onto a slice of the call's own. -/
theorem wpList_appendL {P : Program} {α : Type} {w : World} {ops : Array Oper} {rest : List Oper} {o : Oper} {a : Act} {Q : Exit → Act → World → Prop} {enc : α → List Value} (s x : Operand) (t e : TypeId) {z : Value} {size bytes : Nat}
    (hinfo : (P.info? e).map (fun i => (i.zero, i.size, i.bytes)) = some (some z, size, bytes)) (ht : P.underlying t = some (.slice e)) (hzs : z.cells.size = size) (hsz : 0 < size)
    (hgd : o.guard = none) (ho : o.op = .call { callee := .builtin .append, args := #[s, x], argTypes := #[t, t] })
    {base : Nat} {v : Value} {l ys : List α} (hs : a.eval s = v) (hown : Own w base e size enc v l) {A : Option Addr} {n c : Nat} (hx : a.eval x = .slice A n c) (hn : n = ys.length) (hnil : A = none → c = 0) (henc : ∀ x, (enc x).length = size)
    (hy : Rd w size enc A ys) (h1 : ∀ y ∈ ys, ∀ u ∈ enc y, u.oneCell' = true) (hl : (l.length + n) * bytes ≤ 140737488355328) (h63 : l.length + n ≤ 9223372036854775807) (hbase : base ≤ w.heap.size)
    (h : ∀ A' c' w', Own w' base e size enc (.slice A' (l.length + n) c') (l ++ ys) → w.grownBy w' v.ownBlock → wpList P ops Q rest (a.put o.dst (.slice A' (l.length + n) c')) w') : wpList P ops Q (o :: rest) a w := by
  obtain ⟨i0, hi, hz0, hz1, hz2⟩ := info_parts hinfo
  cases A with
  | none =>
    have hy0 : ys = [] := by
      cases ys with
      | nil => rfl
      | cons y ys =>
        obtain ⟨ad, h', _⟩ := hy (by simp)
        cases h'
    subst hy0
    simp only [List.length_nil] at hn
    subst hn
    have hc := hnil rfl
    subst hc
    obtain ⟨A', c', hv, _⟩ := hown.form henc
    refine wpList_append_own_none hgd s x t ho base e i0 size ht hi v l.length (l.flatMap enc) hs hown hx ?_
    have := h A' c' w (by rw [List.append_nil, Nat.add_zero, ← hv]; exact hown) (World.grownBy.refl _ _)
    rw [Nat.add_zero, ← hv] at this
    exact this
  | some ad =>
    subst hn
    refine wpList_append_own w hgd s x t ho base e i0 z size bytes ht hi hz0 hz1 hz2 hzs hsz v l.length (l.flatMap enc) hs hown ad ys.length c (ys.flatMap enc) hx ?_ ?_ ?_ (by unfold maxLen; omega) hl hbase ?_
    · exact flat_len henc ys
    · intro j u hj
      obtain ⟨i, y, hy', k, hk, rfl⟩ := flat_at_mem hsz henc ys j u hj
      obtain ⟨ad', e', _, hc⟩ := hy (by have := (List.getElem?_eq_some_iff.1 hy').1; omega)
      injection e' with e'
      subst e'
      exact hc i y hy' k u hk
    · intro u hu
      obtain ⟨y, hy', hu'⟩ := List.mem_flatMap.1 hu
      exact h1 y hy' u hu'
    · intro v' w' hown' hg' _
      have ho : Own w' base e size enc v' (l ++ ys) := by unfold Own; rw [List.flatMap_append, List.length_append]; exact hown'
      obtain ⟨A', c', rfl, _⟩ := ho.form henc
      rw [List.length_append] at ho ⊢
      exact h A' c' w' ho hg'

/-- A world behind W0: what W0 had is as it was. For regions that draw their order and hold calls that make memory: the class of worlds in which each operation has one value. -/
structure BW (W0 : World) where
  w : World
  h : Below W0.heap.size W0 w
instance BW.ne (W0 : World) : Nonempty (BW W0) := ⟨⟨W0, Below.refl _ _⟩⟩
theorem BW.cell {W0 : World} (b : BW W0) {a : Addr} {v : Value} (h : W0.cell? a = some v) : b.w.cell? a = some v := by
  rw [b.h.cell (World.block_lt_of_cell? W0 a h)]; exact h
theorem BW.rd {W0 : World} (b : BW W0) {α : Type} {size : Nat} {enc : α → List Value} {A : Option Addr} {l : List α} (h : Rd W0 size enc A l) : Rd b.w size enc A l := h.below b.h

theorem wp_region_bw {P : Program} {id : Nat} {Q : Exit → Act → World → Prop} {a : Act} {w : World} {l : List Oper} (W0 : World) (hW : Below W0.heap.size W0 w) (hm : P.follows .mixedOrders = true) (hB : Region.lexB .any l.toArray = true)
    (h : wpQuiet P l.toArray (fun w' => ∃ b : BW W0, w' = b.w) (fun a' => ∀ w', (∃ b : BW W0, w' = b.w) → Q .normal a' w') l a) : (Code.region id l.toArray true).wp P Q a w :=
  wp_region_quiet (C := fun w' => ∃ b : BW W0, w' = b.w) hm hB ⟨⟨_, below_drewN hW 1⟩, rfl⟩ (by simpa using h)
theorem calls_bw {P : Program} {f : FuncId} {args : Array Value} {W0 : World} {b : BW W0} {v : Value}
    (h : Calls P f args b.w fun e w' => e = .returned v ∧ Below b.w.heap.size b.w w') : Calls P f args b.w fun e w'' => e = .returned v ∧ ∃ c : BW W0, w'' = c.w :=
  h.mono fun _ _ ⟨he, hm⟩ => ⟨he, ⟨_, below_step b.h hm⟩, rfl⟩
theorem calls_bw_same {P : Program} {f : FuncId} {args : Array Value} {W0 : World} {b : BW W0} {v : Value}
    (h : Calls P f args b.w fun e w' => e = .returned v ∧ b.w = w') : Calls P f args b.w fun e w'' => e = .returned v ∧ ∃ c : BW W0, w'' = c.w :=
  h.mono fun _ _ ⟨he, hm⟩ => ⟨he, b, hm.symm⟩

/-- What is left of a size; -1 if it is not enough. -/
def leftOf (left : Int) (bulk : Nat) : Int := if (bulk : Int) ≤ left then left - bulk else -1
theorem leftOf_some {left : Int} {b : Nat} (h : (b : Int) ≤ left) : leftOf left b = left - b := by unfold leftOf; rw [if_pos h]
theorem leftOf_none {left : Int} {b : Nat} (h : ¬ (b : Int) ≤ left) : leftOf left b = -1 := by unfold leftOf; rw [if_neg h]
end Go.Proofs.Ytjibjoapbjojlaa
