/-
  A pool: the things in memory that a walk holds, each in blocks of its own; what a call leaves of them. No function of the program is named here.
-/
import Derived.Test.YtjibjoapbjojlaaW
namespace Go.Proofs.Ytjibjoapbjojlaa
open Go.RowKit

/-- A thing in memory, and the blocks in which it lies. -/
structure Piece where
  bs : List Nat
  P : World → Prop
  keep : ∀ w w' : World, w.heap.size ≤ w'.heap.size → (∀ k ∈ bs, w'.heap[k]? = w.heap[k]?) → P w → P w'

theorem own_heap {α : Type} {w w' : World} {base : Nat} {e : TypeId} {size : Nat} {enc : α → List Value} {v : Value} {l : List α} (h : Own w base e size enc v l)
    (hk : ∀ k, v.ownBlock = some k → w'.heap[k]? = w.heap[k]?) : Own w' base e size enc v l := by
  refine ⟨h.1, ?_⟩
  rcases h.2 with hn | ⟨g, cap, cur, rfl, hb, hgg, rest⟩
  · exact .inl hn
  · refine .inr ⟨g, cap, cur, rfl, hb, ?_, rest⟩
    rw [hk g rfl]; exact hgg
/-- A slice of the walk's own. -/
def ownP {α : Type} (e : TypeId) (size : Nat) (enc : α → List Value) (v : Value) (l : List α) : Piece :=
  ⟨v.ownBlock.toList, fun w => Own w 0 e size enc v l, fun _ _ _ hk h => own_heap h fun k e => hk k (by simp [e])⟩

structure Pool (w0 w : World) (ps : List Piece) : Prop where
  below : Below w0.heap.size w0 w
  all : ∀ p ∈ ps, p.P w ∧ ∀ k ∈ p.bs, w0.heap.size ≤ k ∧ k < w.heap.size
  apart : ps.Pairwise fun p q => ∀ k ∈ p.bs, ¬ k ∈ q.bs

section
variable {w0 w w' : World} {ps : List Piece}
theorem mem_own {v : Value} {k : Nat} : k ∈ v.ownBlock.toList ↔ v.ownBlock = some k := by cases v.ownBlock <;> simp [eq_comm]
theorem Pool.nil_ (w : World) : Pool w w [] := ⟨Below.refl _ _, fun p hp => absurd hp (by simp), List.Pairwise.nil⟩
theorem Pool.of_below (h : Below w0.heap.size w0 w) : Pool w0 w [] := ⟨h, fun p hp => absurd hp (by simp), List.Pairwise.nil⟩
theorem Pool.get (h : Pool w0 w ps) (i : Nat) {p : Piece} (hi : ps[i]? = some p) : p.P w := (h.all p (List.mem_of_getElem? hi)).1
theorem Pool.own (h : Pool w0 w ps) (i : Nat) {α : Type} {e : TypeId} {size : Nat} {enc : α → List Value} {v : Value} {l : List α} (hi : ps[i]? = some (ownP e size enc v l)) : Own w 0 e size enc v l := h.get i hi
theorem Pool.step (h : Pool w0 w ps) (hb : Below w.heap.size w w') : Pool w0 w' ps :=
  ⟨below_step h.below hb, fun p hp => by
    obtain ⟨h1, h2⟩ := h.all p hp
    exact ⟨p.keep w w' hb.size (fun k hk => hb.block k (h2 k hk).2) h1, fun k hk => ⟨(h2 k hk).1, by have := (h2 k hk).2; have := hb.size; omega⟩⟩, h.apart⟩
theorem Pool.alloc (h : Pool w0 w ps) (o : Obj) : Pool w0 (w.alloc o) ps := h.step ((Below.refl _ _).alloc (Nat.le_refl _) o)
theorem Pool.drew (h : Pool w0 w ps) (n : Nat) : Pool w0 (w.drewN n) ps := h.step (below_drewN (Below.refl _ _) n)
theorem Pool.drew1 (h : Pool w0 w ps) : Pool w0 w.drew ps := h.drew 1
theorem Pool.add (h : Pool w0 w ps) (hb : Below w.heap.size w w') (p : Piece) (hp : p.P w') (hr : ∀ k ∈ p.bs, w.heap.size ≤ k ∧ k < w'.heap.size) : Pool w0 w' (p :: ps) := by
  have h' := h.step hb
  refine ⟨h'.below, fun q hq => ?_, List.pairwise_cons.2 ⟨fun q hq k hk hk' => ?_, h'.apart⟩⟩
  · rcases List.mem_cons.1 hq with rfl | hq
    · exact ⟨hp, fun k hk => ⟨by have := (hr k hk).1; have := h.below.size; omega, (hr k hk).2⟩⟩
    · exact h'.all q hq
  · have := (hr k hk).1
    have := ((h.all q hq).2 k hk').2
    omega
theorem Pool.addOwn (h : Pool w0 w ps) (hb : Below w.heap.size w w') {α : Type} {e : TypeId} {size : Nat} {enc : α → List Value} {v : Value} {l : List α} (ho : Own w' w.heap.size e size enc v l) : Pool w0 w' (ownP e size enc v l :: ps) :=
  h.add hb (ownP e size enc v l) (ho.lower (Nat.zero_le _)) fun k hk => ho.lt k (mem_own.1 hk)
/-- Two results that lie apart. -/
theorem Pool.addOwn2 (h : Pool w0 w ps) (hb : Below w.heap.size w w') {α β : Type} {e e' : TypeId} {size size' : Nat} {enc : α → List Value} {enc' : β → List Value} {v v' : Value} {l : List α} {l' : List β}
    (ho : Own w' w.heap.size e size enc v l) (ho' : Own w' w.heap.size e' size' enc' v' l') (hd : ∀ g, v.ownBlock = some g → v'.ownBlock = some g → False) : Pool w0 w' (ownP e size enc v l :: ownP e' size' enc' v' l' :: ps) := by
  have h1 := h.addOwn hb ho'
  refine ⟨h1.below, fun q hq => ?_, List.pairwise_cons.2 ⟨fun q hq k hk hk' => ?_, h1.apart⟩⟩
  · rcases List.mem_cons.1 hq with rfl | hq
    · exact ⟨ho.lower (Nat.zero_le _), fun k hk => ⟨by have := (ho.lt k (mem_own.1 hk)).1; have := h.below.size; omega, (ho.lt k (mem_own.1 hk)).2⟩⟩
    · exact h1.all q hq
  · have hk := mem_own.1 hk
    rcases List.mem_cons.1 hq with rfl | hq
    · exact hd k hk (mem_own.1 hk')
    · have := (ho.lt k hk).1
      have := ((h.all q hq).2 k hk').2
      omega
theorem Pool.drop (h : Pool w0 w ps) (i : Nat) : Pool w0 w (ps.eraseIdx i) :=
  ⟨h.below, fun p hp => h.all p (List.mem_of_mem_eraseIdx hp), h.apart.sublist (List.eraseIdx_sublist _ _)⟩
theorem Pool.sub (h : Pool w0 w ps) {qs : List Piece} (hs : qs.Sublist ps) : Pool w0 w qs := ⟨h.below, fun p hp => h.all p (hs.subset hp), h.apart.sublist hs⟩
theorem Pool.perm (h : Pool w0 w ps) {qs : List Piece} (hp : ps.Perm qs) : Pool w0 w qs :=
  ⟨h.below, fun p hm => h.all p (hp.mem_iff.2 hm), (hp.pairwise_iff (fun {_ _} hr k hk hk' => hr k hk' hk)).1 h.apart⟩
/-- What a call hands back, and what was held before. -/
theorem Pool.join (h : Pool w0 w ps) {qs : List Piece} (k : Pool w w' qs) : Pool w0 w' (qs ++ ps) := by
  have h' := h.step k.below
  refine ⟨h'.below, fun p hp => ?_, List.pairwise_append.2 ⟨k.apart, h.apart, fun q hq p hp j hj hj' => ?_⟩⟩
  · rcases List.mem_append.1 hp with hp | hp
    · exact ⟨(k.all p hp).1, fun j hj => ⟨Nat.le_trans h.below.size ((k.all p hp).2 j hj).1, ((k.all p hp).2 j hj).2⟩⟩
    · exact h'.all p hp
  · have := ((k.all q hq).2 j hj).1
    have := ((h.all p hp).2 j hj').2
    omega
theorem Own.raise {α : Type} {w : World} {base base' : Nat} {e : TypeId} {size : Nat} {enc : α → List Value} {v : Value} {l : List α} (h : Own w base e size enc v l) (hb : ∀ k, v.ownBlock = some k → base' ≤ k) : Own w base' e size enc v l := by
  refine ⟨h.1, ?_⟩
  rcases h.2 with hn | ⟨g, cap, cur, rfl, hbg, r⟩
  · exact .inl hn
  · exact .inr ⟨g, cap, cur, rfl, hb g rfl, r⟩
/-- A thing of the pool as a result. -/
theorem Pool.res (h : Pool w0 w ps) (i : Nat) {α : Type} {e : TypeId} {size : Nat} {enc : α → List Value} {v : Value} {l : List α} (hi : ps[i]? = some (ownP e size enc v l)) : Own w w0.heap.size e size enc v l :=
  (h.own i hi).raise fun k hk => ((h.all _ (List.mem_of_getElem? hi)).2 k (mem_own.2 hk)).1
theorem Pool.none_ (h : Pool w0 w ps) : Pool w0 w [] := ⟨h.below, fun p hp => absurd hp (by simp), List.Pairwise.nil⟩
theorem pairwise_set {R : Piece → Piece → Prop} : ∀ {ps : List Piece} {i : Nat} {p p' : Piece}, ps[i]? = some p → (∀ q ∈ ps, R p q → R p' q) → (∀ q ∈ ps, R q p → R q p') → ps.Pairwise R → (ps.set i p').Pairwise R
  | [], _, _, _, hi, _, _, _ => by simp at hi
  | x :: ps, 0, p, p', hi, h1, h2, h => by
    simp at hi
    subst hi
    have := List.pairwise_cons.1 h
    exact List.pairwise_cons.2 ⟨fun q hq => h1 q (by simp [hq]) (this.1 q hq), this.2⟩
  | x :: ps, i + 1, p, p', hi, h1, h2, h => by
    simp only [List.getElem?_cons_succ] at hi
    have := List.pairwise_cons.1 h
    refine List.pairwise_cons.2 ⟨fun q hq => ?_, pairwise_set hi (fun q hq => h1 q (by simp [hq])) (fun q hq => h2 q (by simp [hq])) this.2⟩
    rcases List.mem_or_eq_of_mem_set hq with hq | rfl
    · exact this.1 q hq
    · exact h2 x (by simp) (this.1 p (List.mem_of_getElem? hi))
/-- A call that wrote into the blocks of one of the things. -/
theorem Pool.turn (h : Pool w0 w ps) (i : Nat) {p p' : Piece} (hi : ps[i]? = some p) (hbs : ∀ k, k ∈ p'.bs → (k ∈ p.bs ∨ w.heap.size ≤ k) ∧ k < w'.heap.size) (hp : p'.P w') (hos : w'.os = w.os) (htape : w'.tape = w.tape) (hout : w'.output = w.output) (hsz : w.heap.size ≤ w'.heap.size)
    (hk : ∀ k, k < w.heap.size → ¬ k ∈ p.bs → w'.heap[k]? = w.heap[k]?) : Pool w0 w' (ps.set i p') := by
  have hpm := h.all p (List.mem_of_getElem? hi)
  refine ⟨h.below.trans ⟨hos, htape, hout, hsz, fun k hlt => hk k (by have := h.below.size; omega) fun hm => by have := (hpm.2 k hm).1; omega⟩, fun q hq => ?_, pairwise_set hi (fun q hq hr k hk' hk2 => by
      rcases (hbs k hk').1 with h1 | h1
      · exact hr k h1 hk2
      · have := ((h.all q hq).2 k hk2).2; omega) (fun q hq hr k hk' hk2 => by
      rcases (hbs k hk2).1 with h1 | h1
      · exact hr k hk' h1
      · have := ((h.all q hq).2 k hk').2; omega) h.apart⟩
  obtain ⟨j, hj, rfl⟩ := List.getElem_of_mem hq
  rw [List.length_set] at hj
  by_cases e : i = j
  · subst e
    rw [List.getElem_set_self]
    refine ⟨hp, fun k hm => ?_⟩
    obtain ⟨h1, h2⟩ := hbs k hm
    refine ⟨?_, h2⟩
    rcases h1 with h1 | h1
    · exact (hpm.2 k h1).1
    · have := h.below.size; omega
  · rw [List.getElem_set_ne e]
    obtain ⟨h1, h2⟩ := h.all ps[j] (List.getElem_mem hj)
    have hpi := (List.getElem?_eq_some_iff.1 hi)
    have hap : ∀ k ∈ ps[j].bs, ¬ k ∈ p.bs := by
      intro k hkj hkp
      rcases Nat.lt_or_gt_of_ne e with hlt | hlt
      · have := List.pairwise_iff_getElem.1 h.apart i j hpi.1 hj hlt k
        rw [hpi.2] at this
        exact this hkp hkj
      · have := List.pairwise_iff_getElem.1 h.apart j i hj hpi.1 hlt k
        rw [hpi.2] at this
        exact this hkj hkp
    exact ⟨ps[j].keep w w' hsz (fun k hm => hk k (h2 k hm).2 (hap k hm)) h1, fun k hm => by have := h2 k hm; omega⟩
theorem Pool.turnOwn (h : Pool w0 w ps) (i : Nat) {α β : Type} {e e' : TypeId} {size size' : Nat} {enc : α → List Value} {enc' : β → List Value} {v : Value} {l : List α} {l' : List β} {base : Nat}
    (hi : ps[i]? = some (ownP e size enc v l)) (ho : Own w' base e' size' enc' v l') (hg : w.grownBy w' v.ownBlock) : Pool w0 w' (ps.set i (ownP e' size' enc' v l')) :=
  h.turn i hi (fun k hk => ⟨.inl hk, (ho.lt k (mem_own.1 hk)).2⟩) (ho.lower (Nat.zero_le _)) hg.os hg.tape hg.output hg.size fun k hlt hm => hg.block k hlt (fun e => hm (mem_own.2 e.symm))
/-- append: the new slice lies in the old one's block, or in a new one. -/
theorem Pool.append (h : Pool w0 w ps) (i : Nat) {α β : Type} {e e' : TypeId} {size size' : Nat} {enc : α → List Value} {enc' : β → List Value} {v v' : Value} {l : List α} {l' : List β} {base : Nat}
    (hi : ps[i]? = some (ownP e size enc v l)) (ho : Own w' base e' size' enc' v' l') (hg : w.grownBy w' v.ownBlock) (hat : ∀ k, v'.ownBlock = some k → v.ownBlock = some k ∨ w.heap.size ≤ k) : Pool w0 w' (ps.set i (ownP e' size' enc' v' l')) :=
  h.turn i hi (fun k hk => ⟨(hat k (mem_own.1 hk)).imp mem_own.2 id, (ho.lt k (mem_own.1 hk)).2⟩) (ho.lower (Nat.zero_le _)) hg.os hg.tape hg.output hg.size fun k hlt hm => hg.block k hlt (fun e => hm (mem_own.2 e.symm))

end
end Go.Proofs.Ytjibjoapbjojlaa
