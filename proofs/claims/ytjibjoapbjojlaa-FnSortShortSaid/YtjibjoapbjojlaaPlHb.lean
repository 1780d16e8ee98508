/-
  Blocks and lists apart from what a call wrote.
  Held letters: the program's and the reference's.
  Letters held and let go: the program's and the reference's.
-/
import Derived.Test.YtjibjoapbjojlaaPlW
namespace Go.Proofs.Ytjibjoapbjojlaa

section
open Go.RowKit

theorem turnR_len {b p : Int} {l : List Str} (h : l.length ≤ 1048576) : (turnR b p l).l.length ≤ 1048576 := by
  unfold turnR
  split
  · simpa using h
  · simp [noPlR]
theorem Box.apart {w w' : World} {g g' : Nat} {a b c : Value} (h : Box w g a b c) (hg : w.grownBy w' (some g')) (hne : g ≠ g') : Box w' g a b c :=
  h.kept hg.size (hg.block g h.lt (by intro e; injection e with e; exact hne e))
theorem Box.apartV {w w' : World} {g : Nat} {a b c v : Value} (h : Box w g a b c) (hg : w.grownBy w' v.ownBlock) (hne : ∀ k, v.ownBlock = some k → g ≠ k) : Box w' g a b c :=
  h.kept hg.size (hg.block g h.lt (by intro e; exact hne g e.symm rfl))
theorem Own.apart {α : Type} {w w' : World} {base g' : Nat} {e : TypeId} {size : Nat} {enc : α → List Value} {v : Value} {l : List α} (h : Own w base e size enc v l) (hg : w.grownBy w' (some g')) (hne : ∀ k, v.ownBlock = some k → k ≠ g') : Own w' base e size enc v l := by
  refine h.grown hg ?_
  cases hv : v.ownBlock with
  | none => exact .inl rfl
  | some k => exact .inr (by intro e; injection e with e; exact hne k hv e)
theorem Own.apartV {α : Type} {w w' : World} {base : Nat} {e : TypeId} {size : Nat} {enc : α → List Value} {v u : Value} {l : List α} (h : Own w base e size enc v l) (hg : w.grownBy w' u.ownBlock) (hne : ∀ k, u.ownBlock = some k → v.ownBlock = some k → False) : Own w' base e size enc v l := by
  refine h.grown hg ?_
  cases hv : v.ownBlock with
  | none => exact .inl rfl
  | some k => exact .inr (by intro e; exact hne k e.symm hv)
theorem grown_below_v {w w1 w2 : World} {u : Value} (h : Below w.heap.size w w1) (hg : w1.grownBy w2 u.ownBlock) (hn : ∀ k, u.ownBlock = some k → w.heap.size ≤ k) : Below w.heap.size w w2 :=
  h.trans ⟨hg.os, hg.tape, hg.output, hg.size, fun k hk => hg.block k (by have := h.size; omega) (by intro e; have := hn k e.symm; omega)⟩

end

section
open Go.RowKit

theorem ltEnc_cells {w : World} (x : Lt) {g : Nat} (hg : g = w.heap.size) : ∀ (j : Nat) (u : Value), (ltEnc x)[j]? = some u → (w.alloc (.cells #[.int .i64 x.1, .string x.2] 39)).cell? (Addr.add ⟨g, 0, none⟩ j) = some u := by
  intro j u hu
  match j, hu with
  | 0, hu => simp [ltEnc] at hu; subst hu; exact World.cell?_alloc_at _ _ _ 0 hg
  | 1, hu => simp [ltEnc] at hu; subst hu; exact World.cell?_alloc_at _ _ _ 1 hg

def heldOkB (h : List Str) : Bool := decide (h.length ≤ 30) && h.all codeOk
theorem heldOkB_long {h : List Str} (e : ¬ h.length ≤ 30) : heldOkB h = false := by unfold heldOkB; rw [decide_eq_false e]; rfl
theorem heldOkB_bad {h : List Str} {k : Nat} {x : Str} (hx : h[k]? = some x) (e : codeOk x = false) : heldOkB h = false := by
  unfold heldOkB
  rw [Bool.and_eq_false_iff]
  right
  rw [List.all_eq_false]
  exact ⟨x, List.mem_of_getElem? hx, by simp [e]⟩
theorem heldOkB_good {h : List Str} (e1 : h.length ≤ 30) (e : ∀ (j : Nat) (x : Str), h[j]? = some x → codeOk x = true) : heldOkB h = true := by
  unfold heldOkB
  rw [decide_eq_true e1, Bool.true_and, List.all_eq_true]
  intro x hx
  obtain ⟨k, hk, rfl⟩ := List.getElem_of_mem hx
  exact e k _ (List.getElem?_eq_getElem hk)

end

section
open Go.RowKit

/-- append of one element, and where the new slice lies. -/
theorem wpList_append1L {P : Program} {α : Type} {w : World} {ops : Array Oper} {rest : List Oper} {o : Oper} {a : Act} {Q : Exit → Act → World → Prop} {enc : α → List Value} (s x : Operand) (t e : TypeId) {z : Value} {size bytes : Nat}
    (hinfo : (P.info? e).map (fun i => (i.zero, i.size, i.bytes)) = some (some z, size, bytes)) (ht : P.underlying t = some (.slice e)) (hzs : z.cells.size = size) (hsz : 0 < size)
    (hgd : o.guard = none) (ho : o.op = .call { callee := .builtin .append, args := #[s, x], argTypes := #[t, t] })
    {base k : Nat} {v : Value} {l : List α} (y : α) (hs : a.eval s = v) (hk : k = l.length) (hown : Own w base e size enc v l) {ad : Addr} {c : Nat} (hx : a.eval x = .slice (some ad) 1 c) (henc : ∀ x, (enc x).length = size)
    (hy : ∀ j u, (enc y)[j]? = some u → w.cell? (ad.add j) = some u) (h1 : ∀ u ∈ enc y, u.oneCell' = true) (hl : (k + 1) * bytes ≤ 140737488355328) (h63 : k + 1 ≤ 9223372036854775807) (hbase : base ≤ w.heap.size)
    (h : ∀ g c' w', Own w' base e size enc (.slice (some ⟨g, 0, none⟩) (k + 1) c') (l ++ [y]) → w.grownBy w' v.ownBlock → (v.ownBlock = some g ∨ w.heap.size ≤ g) → wpList P ops Q rest (a.put o.dst (.slice (some ⟨g, 0, none⟩) (k + 1) c')) w') : wpList P ops Q (o :: rest) a w := by
  subst hk
  obtain ⟨i0, hi, hz0, hz1, hz2⟩ := info_parts hinfo
  refine wpList_append_lies w hgd s x t ho base e i0 z size bytes ht hi hz0 hz1 hz2 hzs hsz v l.length (l.flatMap enc) hs hown ad 1 c (enc y) hx (by rw [henc, Nat.one_mul]) hy h1 (by omega) (by unfold maxLen; omega) hl hbase _ rfl ?_
  intro g cap w' hown' hg' hat hlt
  exact h g cap w' (own_push hown' rfl) hg' (by rcases hat with h' | h'; exact .inl h'; exact .inr (by omega))

/-- Two lists of letters and a Bool, as a result. -/
structure LtR where
  f : List Lt
  k : List Lt
  ok : Bool
def LtRet2 (r : LtR) (w : World) (e : Ending) (w' : World) : Prop :=
  ∃ A n c A' n' c', e = .returned (.tuple #[.slice A n c, .slice A' n' c', .bool r.ok]) ∧ Own w' w.heap.size 39 2 ltEnc (.slice A n c) r.f ∧ Own w' w.heap.size 39 2 ltEnc (.slice A' n' c') r.k ∧ (∀ g, (Value.slice A n c).ownBlock = some g → (Value.slice A' n' c').ownBlock = some g → False) ∧ Below w.heap.size w w'
def noLtR : LtR := ⟨[], [], false⟩
theorem noLt (w : World) {w' : World} (hb : Below w.heap.size w w') : LtRet2 noLtR w (.returned (.tuple #[.slice none 0 0, .slice none 0 0, .bool false])) w' :=
  ⟨none, 0, 0, none, 0, 0, rfl, Own.nil_ _ _ _ _ _, Own.nil_ _ _ _ _ _, (fun g e => by cases e), hb⟩

def freeOf (h : List Str) (m : List Lt) : List Lt := m.filter fun x => !strHas h x.2
def keptOf (h : List Str) (m : List Lt) : List Lt := m.filter fun x => strHas h x.2
def holdR (m : List Lt) (h : List Str) : LtR := if batchOk m && heldOkB h then ⟨freeOf h m, keptOf h m, true⟩ else noLtR
theorem take_succ_at {α : Type} {m : List α} {k : Nat} {x : α} (hx : m[k]? = some x) : m.take (k + 1) = m.take k ++ [x] := by
  rw [List.take_add_one, hx]; rfl
theorem free_step {h : List Str} {m : List Lt} {k : Nat} {x : Lt} {v : Bool} (hx : m[k]? = some x) (hv : strHas h x.2 = v) : freeOf h (m.take (k + 1)) = if v then freeOf h (m.take k) else freeOf h (m.take k) ++ [x] := by
  unfold freeOf
  rw [take_succ_at hx, List.filter_append]
  cases v <;> simp [hv]
theorem kept_step {h : List Str} {m : List Lt} {k : Nat} {x : Lt} {v : Bool} (hx : m[k]? = some x) (hv : strHas h x.2 = v) : keptOf h (m.take (k + 1)) = if v then keptOf h (m.take k) ++ [x] else keptOf h (m.take k) := by
  unfold keptOf
  rw [take_succ_at hx, List.filter_append]
  cases v <;> simp [hv]
theorem free_len (h : List Str) (m : List Lt) : (freeOf h m).length ≤ m.length := List.length_filter_le _ _
theorem kept_len (h : List Str) (m : List Lt) : (keptOf h m).length ≤ m.length := List.length_filter_le _ _
theorem holdR_len {m : List Lt} {h : List Str} (hm : m.length ≤ 1048576) : (holdR m h).f.length ≤ 1048576 ∧ (holdR m h).k.length ≤ 1048576 := by
  unfold holdR
  split
  · exact ⟨Nat.le_trans (free_len _ _) hm, Nat.le_trans (kept_len _ _) hm⟩
  · exact ⟨Nat.zero_le _, Nat.zero_le _⟩

/-- Good so far? -/
def goodAt (m : List Lt) (l : List Str) (i : Nat) : Bool := batchOk m && decide (l.length ≤ 30) && (l.take i).all codeOk
theorem goodAt_succ {m : List Lt} {l : List Str} {i : Nat} {x : Str} (hx : l[i]? = some x) : goodAt m l (i + 1) = (goodAt m l i && codeOk x) := by
  unfold goodAt
  rw [take_succ_at hx, List.all_append, Bool.and_assoc (batchOk m && decide (l.length ≤ 30))]
  simp
theorem goodAt_all {m : List Lt} {l : List Str} {i : Nat} (h : i = l.length) : goodAt m l i = (batchOk m && heldOkB l) := by
  unfold goodAt heldOkB
  rw [h, List.take_length, Bool.and_assoc]
theorem own_lit1 (w : World) (e : TypeId) (size : Nat) {α : Type} (enc : α → List Value) (o : Obj) : Own ((w.alloc o).alloc (.cells #[] e)) w.heap.size e size enc (.slice (some ⟨w.heap.size + 1, 0, none⟩) 0 0) [] := by
  have h := (Own.lit0 (w.alloc o) e size enc).lower (base' := w.heap.size) (by simp)
  simpa using h

end
end Go.Proofs.Ytjibjoapbjojlaa
