/-
  A plan turned: the program's and the reference's.
-/
import Derived.Test.YtbfmohkjnjmmoaaPlV
namespace Go.Proofs.Ytbfmohkjnjmmoaa
open Go.RowKit

/-- A plan and a Bool, as a result. -/
structure PlR where
  b : Int
  p : Int
  l : List Str
  ok : Bool
def noPlR : PlR := ⟨0, 0, [], false⟩
def PlRet (r : PlR) (w : World) (e : Ending) (w' : World) : Prop :=
  ∃ A k cap, e = .returned (.tuple #[.agg #[.int .i64 r.b, .int .i64 r.p, .slice A k cap], .bool r.ok]) ∧ Own w' w.heap.size 9 1 strEnc (.slice A k cap) r.l ∧ Below w.heap.size w w'

theorem heap2_0 (w : World) (o1 o2 : Obj) : ((w.alloc o1).alloc o2).heap[w.heap.size]? = some o1 := by
  show ((w.heap.push o1).push o2)[w.heap.size]? = _
  simp [Array.getElem?_push]
theorem heap2_1 (w : World) (o1 o2 : Obj) : ((w.alloc o1).alloc o2).heap[w.heap.size + 1]? = some o2 := by
  show ((w.heap.push o1).push o2)[w.heap.size + 1]? = _
  rw [Array.getElem?_push, if_pos (by simp)]
theorem box3f {w : World} {g : Nat} {a b c : Value} {t : TypeId} (h : w.heap[g]? = some (.cells #[a, b, c] t (0, 0))) : w.cell? ⟨g, 0, none⟩ = some a ∧ w.cell? ⟨g, 1, none⟩ = some b ∧ w.cell? ⟨g, 2, none⟩ = some c ∧ w.frozen? ⟨g, 0, none⟩ = false ∧ w.frozen? ⟨g, 1, none⟩ = false ∧ w.frozen? ⟨g, 2, none⟩ = false :=
  ⟨(cells_of_heap h 0).1, (cells_of_heap h 1).1, (cells_of_heap h 2).1, (cells_of_heap h 0).2, (cells_of_heap h 1).2, (cells_of_heap h 2).2⟩
/-- A call that wrote into a new block alone. -/
theorem grown_below_at {w w1 w2 : World} {g : Nat} (h : Below w.heap.size w w1) (hg : w1.grownBy w2 (some g)) (hn : w.heap.size ≤ g := by omega) : Below w.heap.size w w2 :=
  h.trans ⟨hg.os, hg.tape, hg.output, hg.size, fun k hk => hg.block k (by have := h.size; omega) (by intro e; injection e with e; omega)⟩
/-- Three cells of one block, stored one behind the other. -/
theorem set3 {w : World} {g : Nat} {x0 x1 x2 : Value} (h0 : w.cell? ⟨g, 0, none⟩ = some x0) (h1 : w.cell? ⟨g, 1, none⟩ = some x1) (h2 : w.cell? ⟨g, 2, none⟩ = some x2) (v0 v1 v2 : Value) :
    (w.setCell ⟨g, 0, none⟩ v0).cell? ⟨g, 0, none⟩ = some v0 ∧ ((w.setCell ⟨g, 0, none⟩ v0).setCell ⟨g, 1, none⟩ v1).cell? ⟨g, 1, none⟩ = some v1 ∧ (((w.setCell ⟨g, 0, none⟩ v0).setCell ⟨g, 1, none⟩ v1).setCell ⟨g, 2, none⟩ v2).cell? ⟨g, 2, none⟩ = some v2 := by
  refine ⟨World.cell?_setCell_same _ _ _ h0, ?_, ?_⟩
  · exact World.cell?_setCell_same _ _ _ (u := x1) (by rw [World.cell?_setCell_other w _ _ _ (by simp)]; exact h1)
  · exact World.cell?_setCell_same _ _ _ (u := x2) (by rw [World.cell?_setCell_other _ _ _ _ (by simp), World.cell?_setCell_other _ _ _ _ (by simp)]; exact h2)
theorem below_set3 {B : Nat} {w0 w : World} {g : Nat} (h : Below B w0 w) (hg : B ≤ g) (v0 v1 v2 : Value) : Below B w0 (((w.setCell ⟨g, 0, none⟩ v0).setCell ⟨g, 1, none⟩ v1).setCell ⟨g, 2, none⟩ v2) :=
  ((h.setCell hg _).setCell hg _).setCell hg _
/-- A block of three cells. -/
structure Box (w : World) (g : Nat) (a b c : Value) : Prop where
  lt : g < w.heap.size
  c0 : w.cell? ⟨g, 0, none⟩ = some a
  c1 : w.cell? ⟨g, 1, none⟩ = some b
  c2 : w.cell? ⟨g, 2, none⟩ = some c
  fz : ∀ j, w.frozen? ⟨g, j, none⟩ = false
theorem Box.of_heap {w : World} {g : Nat} {a b c : Value} {t : TypeId} (h : w.heap[g]? = some (.cells #[a, b, c] t (0, 0))) : Box w g a b c :=
  ⟨(Array.getElem?_eq_some_iff.1 h).1, (box3 h).1, (box3 h).2.1, (box3 h).2.2, fun j => (cells_of_heap h j).2⟩
theorem Box.kept {w w' : World} {g : Nat} {a b c : Value} (h : Box w g a b c) (hs : w.heap.size ≤ w'.heap.size) (hk : w'.heap[g]? = w.heap[g]?) : Box w' g a b c :=
  ⟨by have := h.lt; omega, (World.cell?_of_block (a := ⟨g, 0, none⟩) hk).trans h.c0, (World.cell?_of_block (a := ⟨g, 1, none⟩) hk).trans h.c1, (World.cell?_of_block (a := ⟨g, 2, none⟩) hk).trans h.c2, fun j => (World.frozen?_of_block (a := ⟨g, j, none⟩) hk).trans (h.fz j)⟩
theorem Box.below {w w' : World} {g : Nat} {a b c : Value} (h : Box w g a b c) (hb : Below w.heap.size w w') : Box w' g a b c := h.kept hb.size (hb.block g h.lt)
theorem Box.far {α : Type} {w w' : World} {g base : Nat} {a b c v : Value} {e : TypeId} {size : Nat} {enc : α → List Value} {l : List α} (h : Box w g a b c) (hg : w.grownBy w' v.ownBlock) (ho : Own w base e size enc v l) (hk : g < base) : Box w' g a b c :=
  h.kept hg.size (hg.block g h.lt (by intro e; have := (ho.lt g e.symm).1; omega))
theorem Box.set2 {w : World} {g : Nat} {a b c : Value} (h : Box w g a b c) (v : Value) : Box (w.setCell ⟨g, 2, none⟩ v) g a b v :=
  ⟨by simpa using h.lt, by rw [World.cell?_setCell_other _ _ _ _ (by simp)]; exact h.c0, by rw [World.cell?_setCell_other _ _ _ _ (by simp)]; exact h.c1, World.cell?_setCell_same _ _ _ h.c2, fun j => by rw [World.frozen?_setCell]; exact h.fz j⟩
theorem Box.drew {w : World} {g : Nat} {a b c : Value} (h : Box w g a b c) : Box w.drew g a b c := ⟨h.lt, h.c0, h.c1, h.c2, h.fz⟩
theorem own_push {α : Type} {w : World} {base : Nat} {e : TypeId} {size : Nat} {enc : α → List Value} {v : Value} {l : List α} {k : Nat} {x : α} (h : w.ownsRow base e size v (k + 1) (l.flatMap enc ++ enc x)) (hk : k = l.length) : Own w base e size enc v (l ++ [x]) := by
  subst hk; exact Own.of_append h
theorem below_own {α : Type} {B : Nat} {w0 w w' : World} {base : Nat} {e : TypeId} {size : Nat} {enc : α → List Value} {v : Value} {l : List α} (h : Below B w0 w) (hg : w.grownBy w' v.ownBlock) (ho : Own w base e size enc v l) (hB : B ≤ base) (hw : B ≤ w.heap.size) : Below B w0 w' :=
  h.trans ⟨hg.os, hg.tape, hg.output, hg.size, fun k hk => hg.block k (by omega) (by intro e; have := (ho.lt k e.symm).1; omega)⟩
def turnR (b p : Int) (l : List Str) : PlR := if planOk b p l then ⟨b, p, l.reverse, true⟩ else noPlR

set_option maxHeartbeats 1000000 in
theorem implTurnPlan (b p : Int) (A : Option Addr) (l : List Str) (n cap : Nat) (hl : n = l.length) (hcap : n ≤ cap) (w : World) (hn : n ≤ 16777216) (hs : ∀ x ∈ l, x.size ≤ 1048576) (h : Rd w 1 strEnc A l) :
    Calls Try.prog 30 #[.agg #[.int .i64 b, .int .i64 p, .slice A n cap]] w fun e w' => PlRet (turnR b p l) w e w' := by
  have Hl := Lib.hid hl
  have Hr := Lib.hid h
  have Hs := Lib.hid hs
  clear h hs hl
  have hb2 : ∀ o1 o2, Below w.heap.size w ((w.alloc o1).alloc o2) := fun o1 o2 => ((Below.refl _ _).alloc (Nat.le_refl _) o1).alloc (by simp) o2
  cases hv : planOk b p l
  · have Ht : Hid (turnR b p l = noPlR) := by show turnR _ _ _ = _; unfold turnR; rw [hv]; rfl
    go_enter Try.func30, Try.ntmps30
    go_wp2_with fail
    refine (implPlanValid b p A l _ _ Hl.out hcap _ hn Hs.out (Hr.out.below (hb2 _ _))).mono ?_
    rw [hv]
    rintro e w1 ⟨rfl, hbw⟩
    obtain ⟨r0, r1, r2, f0, f1, f2⟩ := box3f (heap_of_below hbw (g := w.heap.size + 1) (by simp) (heap2_1 _ _ _))
    have hb3 := below_step (hb2 _ _) hbw
    clear hbw
    obtain ⟨s0, s1, s2⟩ := set3 r0 r1 r2 (.int .i64 0) (.int .i64 0) (.slice none 0 0)
    go_wp2
    refine bodyPost_ret (v := .tuple #[.agg #[.int .i64 0, .int .i64 0, .slice none 0 0], .bool false]) (by simp [results, Try.results30, go_sem, s0, s1, s2]) rfl ?_
    rw [Ht.out]
    exact ⟨none, 0, 0, rfl, Own.nil_ _ _ _ _ _, below_set3 hb3 (Nat.le_succ _) _ _ _⟩
  · have Ht : Hid (turnR b p l = ⟨b, p, l.reverse, true⟩) := by show turnR _ _ _ = _; unfold turnR; rw [hv]; rfl
    go_enter Try.func30, Try.ntmps30
    go_wp2_with fail
    refine (implPlanValid b p A l _ _ Hl.out hcap _ hn Hs.out (Hr.out.below (hb2 _ _))).mono ?_
    rw [hv]
    rintro e w1 ⟨rfl, hbw⟩
    have K0 := Lib.hid (heap_of_below hbw (g := w.heap.size) (by simp; omega) (heap2_0 _ _ _))
    have K1 := Lib.hid (heap_of_below hbw (g := w.heap.size + 1) (by simp) (heap2_1 _ _ _))
    have hb3 := below_step (hb2 _ _) hbw
    have hsz : w.heap.size + 1 < w1.heap.size := by have := hbw.size; simp at this; omega
    have Hr1 := Lib.hid (Hr.out.below hb3)
    obtain ⟨c0, c1, c2⟩ := box3 K0.out
    clear hbw
    go_wp2_with fail
    refine (implCopyTexts A l _ _ Hl.out _ hn Hr1.out).mono ?_
    rintro e w2 ⟨rfl, ho2, hb4⟩
    have Ho2 := Lib.hid ho2
    clear ho2
    go_wp2_with fail
    refine (sliceReverse _ _ _ _ l _ hn Ho2.out).mono ?_
    rintro e w3 ⟨rfl, ho3, hg3⟩
    have hb5 := grown_below_at hb4 hg3
    have hb6 := below_step hb3 hb5
    have Ho3 := Lib.hid ho3
    have hlt : w1.heap.size < w3.heap.size := (Ho3.out.lt _ rfl).2
    obtain ⟨c3, c4, c5⟩ := box3 (heap_of_below hb5 (by omega) K0.out)
    obtain ⟨r0, r1, r2, f0, f1, f2⟩ := box3f (heap_of_below hb5 hsz K1.out)
    clear ho3 hg3 hb5 hb4 c0 c1 c2
    obtain ⟨s0, s1, s2⟩ := set3 r0 r1 r2 (.int .i64 b) (.int .i64 p) (.slice (some ⟨w1.heap.size, 0, none⟩) n n)
    go_wp2
    refine bodyPost_ret (v := .tuple #[.agg #[.int .i64 b, .int .i64 p, .slice (some ⟨w1.heap.size, 0, none⟩) n n], .bool true]) (by simp [results, Try.results30, go_sem, s0, s1, s2]) rfl ?_
    rw [Ht.out]
    refine ⟨_, n, n, rfl, ?_, below_set3 hb6 (Nat.le_succ _) _ _ _⟩
    exact (own_setCell (own_setCell (own_setCell (Ho3.out) (by show _ < _; omega) _) (by show _ < _; omega) _) (by show _ < _; omega) _).lower (by have := hb3.size; omega)

theorem rev_take_succ {l : List Str} {k : Nat} {x : Str} (hk : k < l.length) (hx : l[l.length - 1 - k]? = some x) : l.reverse.take (k + 1) = l.reverse.take k ++ [x] := by
  rw [List.take_add_one, List.getElem?_reverse hk, hx]
  rfl

set_option maxHeartbeats 4000000 in
set_option maxRecDepth 100000 in
theorem specTurnPlan (b p : Int) (A : Option Addr) (l : List Str) (n cap : Nat) (hl : n = l.length) (w : World) (hn : n ≤ 16777216) (hs : ∀ x ∈ l, x.size ≤ 1048576) (h : Rd w 1 strEnc A l) :
    Calls Try.prog 31 #[.agg #[.int .i64 b, .int .i64 p, .slice A n cap]] w fun e w' => PlRet (turnR b p l) w e w' := by
  have Hl := Lib.hid hl
  have Hr := Lib.hid h
  have Hs := Lib.hid hs
  clear h hs hl
  have hb2 : ∀ o1 o2, Below w.heap.size w ((w.alloc o1).alloc o2) := fun o1 o2 => ((Below.refl _ _).alloc (Nat.le_refl _) o1).alloc (by simp) o2
  cases hv : planOk b p l
  · have Ht : Hid (turnR b p l = noPlR) := by show turnR _ _ _ = _; unfold turnR; rw [hv]; rfl
    go_enter Try.func31, Try.ntmps31
    go_wp2_with fail
    refine (specPlanValid b p A l _ _ Hl.out _ hn Hs.out (Hr.out.below (hb2 _ _))).mono ?_
    rw [hv]
    rintro e w1 ⟨rfl, hbw⟩
    obtain ⟨r0, r1, r2, f0, f1, f2⟩ := box3f (heap_of_below hbw (g := w.heap.size + 1) (by simp) (heap2_1 _ _ _))
    have hb3 := below_step (hb2 _ _) hbw
    clear hbw
    obtain ⟨s0, s1, s2⟩ := set3 r0 r1 r2 (.int .i64 0) (.int .i64 0) (.slice none 0 0)
    go_wp2
    refine bodyPost_ret (v := .tuple #[.agg #[.int .i64 0, .int .i64 0, .slice none 0 0], .bool false]) (by simp [results, Try.results31, go_sem, s0, s1, s2]) rfl ?_
    rw [Ht.out]
    exact ⟨none, 0, 0, rfl, Own.nil_ _ _ _ _ _, below_set3 hb3 (Nat.le_succ _) _ _ _⟩
  · have Ht : Hid (turnR b p l = ⟨b, p, l.reverse, true⟩) := by show turnR _ _ _ = _; unfold turnR; rw [hv]; rfl
    obtain ⟨i0, hi, hz0, hz1, hz2⟩ := info_parts str_info
    go_enter Try.func31, Try.ntmps31
    go_wp2_with fail
    refine (specPlanValid b p A l _ _ Hl.out _ hn Hs.out (Hr.out.below (hb2 _ _))).mono ?_
    rw [hv]
    rintro e w1 ⟨rfl, hbw⟩
    have K0 := Lib.hid (heap_of_below hbw (g := w.heap.size) (by simp; omega) (heap2_0 _ _ _))
    have K1 := Lib.hid (heap_of_below hbw (g := w.heap.size + 1) (by simp) (heap2_1 _ _ _))
    have hb3 := below_step (hb2 _ _) hbw
    have hsz : w.heap.size + 1 < w1.heap.size := by have := hbw.size; simp at this; omega
    obtain ⟨c0, c1, c2⟩ := box3 K0.out
    clear hbw
    have c2' := fun o => cell_alloc c2 o
    go_wp2_with fail
    go_loopw [5] (fun i wr => ∃ k : Nat, k ≤ n ∧ i = .int .i64 ((n : Int) - 1 - k) ∧ ∃ A' k' cap', k' = k ∧ Hid (Below w1.heap.size w1 wr) ∧ Hid (Box wr w1.heap.size (.int .i64 b) (.int .i64 p) (.slice A' k' cap')) ∧ Hid (Own wr (w1.heap.size + 1) 9 1 strEnc (.slice A' k' cap') (l.reverse.take k))) (fun i _ => (intOf i + 1).toNat)
    case atStart => exact ⟨0, Nat.zero_le _, by simp, none, 0, 0, rfl, (Below.refl _ _).alloc (Nat.le_refl _) _, Box.of_heap (heap_new _ _), Own.nil_ _ _ _ _ _⟩
    case round =>
      clear c0 c1 c2
      obtain ⟨k, hk, rfl, A', k', cap', rfl, Hb, Kb, Ho⟩ := hrel
      obtain ⟨c0, c1, c2⟩ := box3 (heap_of_below Hb.out (by omega) K0.out)
      obtain ⟨-, d0, d1, d2, gz⟩ := Kb.out
      by_cases hlt : k' < n
      · obtain ⟨x, hx⟩ : ∃ x, l[n - 1 - k']? = some x := ⟨_, List.getElem?_eq_getElem (by have := Hl.out; omega)⟩
        obtain ⟨ad, rfl, hab, e0⟩ := (Hr.out.below (below_step hb3 Hb.out)).one hx rfl
        have b1 : 0 ≤ (n : Int) - 1 - (k' : Int) := by omega
        have b2 : (n : Int) - 1 - (k' : Int) < (n : Int) := by omega
        have e1 : ((n : Int) - 1 - (k' : Int)).toNat = n - 1 - k' := by omega
        have d2' := fun o => cell_alloc d2 o
        have c2'' := fun o => cell_alloc c2 o
        have hst : Hid (l.reverse.take (k' + 1) = l.reverse.take k' ++ [x]) := rev_take_succ (by have := Hl.out; omega) (by rw [← Hl.out]; exact hx)
        have hwz : w1.heap.size + 1 ≤ wr.heap.size := by have := Kb.out.lt; omega
        have Hown := Lib.hid (Ho.out.alloc (.cells #[.string x] 9))
        have Hbx := Lib.hid ((Kb.out.below ((Below.refl _ _).alloc (Nat.le_refl _) (.cells #[.string x] 9))).drew)
        have Hba : Hid (Below w1.heap.size w1 (wr.alloc (.cells #[.string x] 9)).drew) := below_drewN (Hb.out.alloc Hb.out.size _) 1
        have hnews : ∀ (j : Nat) (u : Value), [Value.string x][j]? = some u → (wr.alloc (.cells #[.string x] 9)).drew.cell? (Addr.add ⟨wr.heap.size, 0, none⟩ j) = some u := fun j u hj => by
          match j, hj with
          | 0, hj => simp at hj; subst hj; exact World.cell?_alloc_at _ _ _ 0 rfl
        have Hnews := Lib.hid hnews
        clear hnews
        have Hraw : Hid ((wr.alloc (.cells #[.string x] 9)).drew.ownsRow (w1.heap.size + 1) 9 1 (.slice A' k' cap') k' ((l.reverse.take k').flatMap strEnc)) := by
          have h1 := Hown.out
          have h2 := h1.len
          unfold Own at h1
          rw [← h2] at h1
          exact h1
        have Hbs : Hid (w1.heap.size + 1 ≤ (wr.alloc (.cells #[.string x] 9)).drew.heap.size) := by show _ ≤ _; show _ ≤ (wr.alloc _).heap.size; rw [World.size_alloc]; omega
        go_wp2_with fail
        go_region_law (refine step_append_lies _ (by rfl) (.tmp 24) (.tmp 30) 23 (by rfl) (w1.heap.size + 1) 9 i0 (.string ByteArray.empty) 1 16 Try.underlying23 hi hz0 hz1 hz2 rfl (by decide) (.slice A' k' cap') k' ((l.reverse.take k').flatMap strEnc) (by rfl) Hraw.out ⟨wr.heap.size, 0, none⟩ 1 1 [.string x] (by rfl) (by rfl) Hnews.out (fun u hu => by simp at hu; subst hu; rfl) (by decide) (by unfold maxLen; omega) (by omega) Hbs.out _ rfl ?_; intro g c' w2 hown2 hgrow hat hlt2; obtain ⟨-, q0, q1, q2, qz⟩ := Hbx.out.far hgrow (show Own (wr.alloc (.cells #[.string x] 9)).drew _ _ _ _ _ _ from Hown.out) (Nat.lt_succ_self _))
        all_goals
          go_wp2
          go_roundw
          case rel =>
            refine ⟨k' + 1, by omega, by go_num, some ⟨g, 0, none⟩, k' + 1, c', rfl, ?_, Hbx.out.far hgrow (show Own (wr.alloc (.cells #[.string x] 9)).drew _ _ _ _ _ _ from Hown.out) (Nat.lt_succ_self _) |>.set2 _, ?_⟩
            · exact (below_own Hba.out hgrow (show Own (wr.alloc (.cells #[.string x] 9)).drew _ _ _ _ _ _ from Hown.out) (Nat.le_succ _) (Nat.le_of_succ_le Hbs.out)).setCell (Nat.le_refl _) _
            · exact own_setCell (by rw [hst.out]; exact own_push hown2 Hown.out.len) (Nat.lt_succ_self _) _
          case measure => simp [intOf]; omega
      · obtain rfl : k' = n := by omega
        have hb4 := below_step hb3 Hb.out
        obtain ⟨r0, r1, r2, f0, f1, f2⟩ := box3f (heap_of_below Hb.out hsz K1.out)
        obtain ⟨s0, s1, s2⟩ := set3 r0 r1 r2 (.int .i64 b) (.int .i64 p) (.slice A' k' cap')
        go_wp2
        refine bodyPost_ret (v := .tuple #[.agg #[.int .i64 b, .int .i64 p, .slice A' k' cap'], .bool true]) (by simp [results, Try.results31, go_sem, s0, s1, s2]) rfl ?_
        rw [Ht.out]
        refine ⟨_, k', cap', rfl, ?_, below_set3 hb4 (Nat.le_succ _) _ _ _⟩
        have := Ho.out
        rw [List.take_of_length_le (by simp [Hl.out])] at this
        have hk1 : w.heap.size + 1 < w1.heap.size + 1 := by omega
        exact (own_setCell (own_setCell (own_setCell this hk1 _) hk1 _) hk1 _).lower (by have := hb3.size; omega)
end Go.Proofs.Ytbfmohkjnjmmoaa
