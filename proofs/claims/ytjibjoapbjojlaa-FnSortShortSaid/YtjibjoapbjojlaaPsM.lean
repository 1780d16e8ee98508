/-
  Letters placed into bins, as plain functions; a pool of bins. No function of the program is named here.
-/
import Derived.Test.YtjibjoapbjojlaaPool
import Derived.Test.YtjibjoapbjojlaaPlM
namespace Go.Proofs.Ytjibjoapbjojlaa
open Go.RowKit

def plBin (f : Str → Int) (m : List Lt) (k : Nat) : List Lt := m.filter fun x => decide (f x.2 = (k : Int))
def plBins (B : Nat) (f : Str → Int) (m : List Lt) : List (List Lt) := (List.range B).map (plBin f m)
def plRest (f : Str → Int) (m : List Lt) : List Lt := m.filter fun x => decide (f x.2 < 0)
theorem plBins_len (B : Nat) (f : Str → Int) (m : List Lt) : (plBins B f m).length = B := by simp [plBins]
theorem plBins_at {B k : Nat} {f : Str → Int} {m : List Lt} (h : k < B) : (plBins B f m)[k]? = some (plBin f m k) := by simp [plBins, h]
theorem plBins_nil (B : Nat) (f : Str → Int) : plBins B f [] = List.replicate B [] := by
  unfold plBins
  refine List.ext_getElem (by simp) fun i h1 h2 => ?_
  simp [plBin]
theorem tk_succ {α : Type} {m : List α} {k : Nat} {x : α} (hx : m[k]? = some x) : m.take (k + 1) = m.take k ++ [x] := by
  rw [List.take_add_one, hx]; rfl
theorem plBins_step {B j k : Nat} {f : Str → Int} {m : List Lt} {x : Lt} (hx : m[j]? = some x) (hk : f x.2 = (k : Int)) : plBins B f (m.take (j + 1)) = (plBins B f (m.take j)).set k (plBin f (m.take j) k ++ [x]) := by
  rw [tk_succ hx]
  refine List.ext_getElem? fun i => ?_
  by_cases hi : i < B
  · rw [plBins_at hi, List.getElem?_set]
    by_cases e : k = i
    · subst e
      rw [if_pos rfl, if_pos (by rw [plBins_len]; exact hi)]
      simp [plBin, hk]
    · rw [if_neg e, plBins_at hi]
      have : ¬ (k : Int) = (i : Int) := by omega
      simp [plBin, hk, this]
  · rw [List.getElem?_eq_none (by rw [plBins_len]; omega), List.getElem?_eq_none (by rw [List.length_set, plBins_len]; omega)]
theorem plBins_skip {B j : Nat} {f : Str → Int} {m : List Lt} {x : Lt} (hx : m[j]? = some x) (hk : f x.2 < 0) : plBins B f (m.take (j + 1)) = plBins B f (m.take j) := by
  rw [tk_succ hx]
  unfold plBins
  refine List.map_congr_left fun i _ => ?_
  have : ¬ f x.2 = (i : Int) := by omega
  simp [plBin, this]
theorem plRest_step {j : Nat} {f : Str → Int} {m : List Lt} {x : Lt} (hx : m[j]? = some x) (hk : f x.2 < 0) : plRest f (m.take (j + 1)) = plRest f (m.take j) ++ [x] := by
  rw [tk_succ hx]
  simp [plRest, hk]
theorem plRest_skip {j : Nat} {f : Str → Int} {m : List Lt} {x : Lt} (hx : m[j]? = some x) (hk : ¬ f x.2 < 0) : plRest f (m.take (j + 1)) = plRest f (m.take j) := by
  rw [tk_succ hx]
  have : decide (f x.2 < 0) = false := decide_eq_false hk
  simp [plRest, this]
theorem plBin_len (f : Str → Int) (m : List Lt) (k : Nat) : (plBin f m k).length ≤ m.length := List.length_filter_le _ _
theorem plRest_len (f : Str → Int) (m : List Lt) : (plRest f m).length ≤ m.length := List.length_filter_le _ _
/-- All bins together hold no more letters than there are. -/
theorem plFlat_len {f : Str → Int} : ∀ (B : Nat) (m : List Lt), (plBins B f m).flatten.length ≤ m.length
  | B, [] => by rw [plBins_nil]; simp
  | B, x :: m => by
    have ih := plFlat_len (f := f) B m
    have h : ∀ k, (plBin f (x :: m) k).length = (plBin f m k).length + (if f x.2 = (k : Int) then 1 else 0) := fun k => by
      unfold plBin
      by_cases e : f x.2 = (k : Int) <;> simp [e]
    have h2 : ∀ (l : List Nat), l.Nodup → ((l.map (plBin f (x :: m))).flatten).length ≤ ((l.map (plBin f m)).flatten).length + 1 := by
      intro l
      have h3 : ∀ (l : List Nat), (∀ k ∈ l, ¬ f x.2 = (k : Int)) → ((l.map (plBin f (x :: m))).flatten).length = ((l.map (plBin f m)).flatten).length := by
        intro l
        induction l with
        | nil => intro _; rfl
        | cons a l ih =>
          intro hn
          simp only [List.map_cons, List.flatten_cons, List.length_append]
          rw [h a, if_neg (hn a (by simp)), ih (fun k hk => hn k (by simp [hk]))]
          omega
      induction l with
      | nil => intro _; simp
      | cons a l ih =>
        intro hn
        have hn' := List.nodup_cons.1 hn
        simp only [List.map_cons, List.flatten_cons, List.length_append]
        rw [h a]
        by_cases e : f x.2 = (a : Int)
        · have hne : ∀ k ∈ l, ¬ f x.2 = (k : Int) := fun k hk e2 => by
            have e3 : a = k := by omega
            exact hn'.1 (e3 ▸ hk)
          rw [if_pos e, h3 l hne]
          omega
        · rw [if_neg e]
          have := ih hn'.2
          omega
    have := h2 (List.range B) List.nodup_range
    unfold plBins at ih ⊢
    simp only [List.length_cons]
    omega

/-- A cell an element: the element itself. -/
def rawEnc (v : Value) : List Value := [v]
theorem rawEnc_len (v : Value) : (rawEnc v).length = 1 := rfl
def ltsP (T : TypeId) (v : Value) (l : List Lt) : Piece := ownP T 2 ltEnc v l
def innerP (T : TypeId) : List Value → List (List Lt) → List Piece := List.zipWith (ltsP T)
theorem innerP_at {T : TypeId} {hs : List Value} {ls : List (List Lt)} {k : Nat} {v : Value} {l : List Lt} (h1 : hs[k]? = some v) (h2 : ls[k]? = some l) : (innerP T hs ls)[k]? = some (ltsP T v l) := by
  unfold innerP
  rw [List.getElem?_zipWith, h1, h2]
theorem innerP_set {T : TypeId} : ∀ (hs : List Value) (ls : List (List Lt)) (k : Nat) (v : Value) (l : List Lt), (innerP T hs ls).set k (ltsP T v l) = innerP T (hs.set k v) (ls.set k l)
  | [], ls, k, v, l => by simp [innerP]
  | h :: hs, [], k, v, l => by cases k <;> simp [innerP]
  | h :: hs, x :: ls, 0, v, l => rfl
  | h :: hs, x :: ls, k + 1, v, l => by
    have := innerP_set (T := T) hs ls k v l
    unfold innerP at this ⊢
    simp only [List.zipWith_cons_cons, List.set_cons_succ]
    rw [this]
theorem Pool.nils {w0 w : World} {ps : List Piece} {T : TypeId} (h : Pool w0 w ps) : ∀ n : Nat, Pool w0 w (innerP T (List.replicate n (.slice none 0 0)) (List.replicate n []) ++ ps)
  | 0 => h
  | n + 1 => by
    have ih := Pool.nils h n (T := T)
    exact ih.add (Below.refl _ _) (ltsP T (.slice none 0 0) []) (Own.nil_ _ _ _ _ _) (fun k hk => by simp [ltsP, ownP, Value.ownBlock] at hk)

/-- One letter more in one bin: the row of that bin has grown, and the bin's header is stored anew. -/
theorem Pool.bin {w0 w w2 : World} {T TO : TypeId} {g g' B c n' c' base k : Nat} {v : Value} {hs : List Value} {ls : List (List Lt)} {l l' : List Lt} {o : Piece} {rest : List Piece}
    (h : Pool w0 w (ownP TO 1 rawEnc (.slice (some ⟨g, 0, none⟩) B c) hs :: o :: (innerP T hs ls ++ rest))) (hv : hs[k]? = some v) (hl : ls[k]? = some l) (hg : w.grownBy w2 v.ownBlock) (hat : v.ownBlock = some g' ∨ w.heap.size ≤ g')
    (ho : Own w2 base T 2 ltEnc (.slice (some ⟨g', 0, none⟩) n' c') l') :
    Pool w0 (w2.setCell ⟨g, k, none⟩ (.slice (some ⟨g', 0, none⟩) n' c')) (ownP TO 1 rawEnc (.slice (some ⟨g, 0, none⟩) B c) (hs.set k (.slice (some ⟨g', 0, none⟩) n' c')) :: o :: (innerP T (hs.set k (.slice (some ⟨g', 0, none⟩) n' c')) (ls.set k l') ++ rest)) := by
  have hkl : k < (innerP T hs ls).length := (List.getElem?_eq_some_iff.1 (innerP_at (T := T) hv hl)).1
  have hi : (ownP TO 1 rawEnc (.slice (some ⟨g, 0, none⟩) B c) hs :: o :: (innerP T hs ls ++ rest))[k + 2]? = some (ownP T 2 ltEnc v l) := by
    simp only [List.getElem?_cons_succ]
    rw [List.getElem?_append_left hkl]
    exact innerP_at hv hl
  have h1 := h.append (k + 2) hi ho hg (fun q e => by injection e with e; subst e; exact hat)
  simp only [List.set_cons_succ] at h1
  rw [List.set_append_left _ _ hkl, show ownP T 2 ltEnc (.slice (some ⟨g', 0, none⟩) n' c') l' = ltsP T (.slice (some ⟨g', 0, none⟩) n' c') l' from rfl, innerP_set] at h1
  have ho1 := h1.own 0 rfl
  have hlen := ho1.len
  have hkh : k < B := by rw [hlen]; exact (List.getElem?_eq_some_iff.1 hv).1
  have ho2 := ho1.set1 rawEnc_len hlen hkh (y := Value.slice (some ⟨g', 0, none⟩) n' c') (u := Value.slice (some ⟨g', 0, none⟩) n' c') rfl
  exact h1.turnOwn 0 rfl ho2 (grown_setCell (World.grownBy.refl _ _) (.inl rfl) _)

/-- The header of a bin whose row has grown is still there to be stored. -/
theorem Pool.binCell {w0 w w2 : World} {T TO : TypeId} {g g' B c n' c' base k : Nat} {v : Value} {hs : List Value} {ls : List (List Lt)} {l l' : List Lt} {o : Piece} {rest : List Piece}
    (h : Pool w0 w (ownP TO 1 rawEnc (.slice (some ⟨g, 0, none⟩) B c) hs :: o :: (innerP T hs ls ++ rest))) (hv : hs[k]? = some v) (hl : ls[k]? = some l) (hg : w.grownBy w2 v.ownBlock) (hat : v.ownBlock = some g' ∨ w.heap.size ≤ g')
    (ho : Own w2 base T 2 ltEnc (.slice (some ⟨g', 0, none⟩) n' c') l') : w2.cell? ⟨g, k, none⟩ = some v ∧ w2.frozen? ⟨g, k, none⟩ = false := by
  have hkl : k < (innerP T hs ls).length := (List.getElem?_eq_some_iff.1 (innerP_at (T := T) hv hl)).1
  have hi : (ownP TO 1 rawEnc (.slice (some ⟨g, 0, none⟩) B c) hs :: o :: (innerP T hs ls ++ rest))[k + 2]? = some (ownP T 2 ltEnc v l) := by
    simp only [List.getElem?_cons_succ]
    rw [List.getElem?_append_left hkl]
    exact innerP_at hv hl
  have h1 := (h.append (k + 2) hi ho hg (fun q e => by injection e with e; subst e; exact hat)).own 0 rfl
  have h2 := h1.cell2 rawEnc_len h1.len hv (j := 0) (by omega)
  simpa [rawEnc] using h2
theorem Pool.binHead {w0 w : World} {T TO : TypeId} {g B c k : Nat} {v : Value} {hs : List Value} {ls : List (List Lt)} {l : List Lt} {o : Piece} {rest : List Piece}
    (h : Pool w0 w (ownP TO 1 rawEnc (.slice (some ⟨g, 0, none⟩) B c) hs :: o :: (innerP T hs ls ++ rest))) (hv : hs[k]? = some v) (hl : ls[k]? = some l) : (w.cell? ⟨g, k, none⟩ = some v ∧ w.frozen? ⟨g, k, none⟩ = false) ∧ Own w 0 T 2 ltEnc v l := by
  have hkl : k < (innerP T hs ls).length := (List.getElem?_eq_some_iff.1 (innerP_at (T := T) hv hl)).1
  have hi : (ownP TO 1 rawEnc (.slice (some ⟨g, 0, none⟩) B c) hs :: o :: (innerP T hs ls ++ rest))[k + 2]? = some (ownP T 2 ltEnc v l) := by
    simp only [List.getElem?_cons_succ]
    rw [List.getElem?_append_left hkl]
    exact innerP_at hv hl
  have h1 := h.own 0 rfl
  have h2 := h1.cell2 rawEnc_len h1.len hv (j := 0) (by omega)
  exact ⟨by simpa [rawEnc] using h2, h.own (k + 2) hi⟩

/-- Things taken together as one. -/
def groupP (ps : List Piece) : Piece :=
  ⟨ps.flatMap (·.bs), fun w => (∀ p ∈ ps, p.P w) ∧ ps.Pairwise (fun (p q : Piece) => ∀ k : Nat, k ∈ p.bs → ¬ k ∈ q.bs), fun w w' hs hk h => ⟨fun p hp => p.keep w w' hs (fun k hkp => hk k (List.mem_flatMap.2 ⟨p, hp, hkp⟩)) (h.1 p hp), h.2⟩⟩
theorem Pool.group {w0 w : World} {ps qs : List Piece} (h : Pool w0 w (ps ++ qs)) : Pool w0 w (groupP ps :: qs) := by
  have ha := List.pairwise_append.1 h.apart
  refine ⟨h.below, fun p hp => ?_, List.pairwise_cons.2 ⟨fun q hq k hk => ?_, ha.2.1⟩⟩
  · rcases List.mem_cons.1 hp with rfl | hp
    · refine ⟨⟨fun p hp => (h.all p (by simp [hp])).1, ha.1⟩, fun k hk => ?_⟩
      obtain ⟨p, hp, hkp⟩ := List.mem_flatMap.1 hk
      exact (h.all p (by simp [hp])).2 k hkp
    · exact h.all p (by simp [hp])
  · obtain ⟨p, hp, hkp⟩ := List.mem_flatMap.1 hk
    exact ha.2.2 p hp q hq k hkp
theorem Pool.ungroup {w0 w : World} {ps qs : List Piece} (h : Pool w0 w (groupP ps :: qs)) : Pool w0 w (ps ++ qs) := by
  have ha := List.pairwise_cons.1 h.apart
  have h0 := h.all (groupP ps) (by simp)
  refine ⟨h.below, fun p hp => ?_, List.pairwise_append.2 ⟨h0.1.2, ha.2, fun p hp q hq k hk => ha.1 q hq k (List.mem_flatMap.2 ⟨p, hp, hk⟩)⟩⟩
  rcases List.mem_append.1 hp with hp | hp
  · exact ⟨h0.1.1 p hp, fun k hk => h0.2 k (List.mem_flatMap.2 ⟨p, hp, hk⟩)⟩
  · exact h.all p (by simp [hp])
end Go.Proofs.Ytjibjoapbjojlaa
