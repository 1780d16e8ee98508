/-
  The laws' own helpers on plans: size, copy, comparison.
-/
import Derived.Test.YtfilggdiljpakaaDoorPlQ
import Derived.Deep.RegionHeld3
namespace Go.Proofs.YtfilggdiljpakaaDoor
open Go.RowKit

theorem own_setCell {α : Type} {w : World} {base : Nat} {e : TypeId} {size : Nat} {enc : α → List Value} {v : Value} {l : List α} (h : Own w base e size enc v l) {p : Addr} (hp : p.block < base) (u : Value) : Own (w.setCell p u) base e size enc v l := by
  refine h.grown (row := some p.block) (grown_setCell (World.grownBy.refl _ _) (.inl rfl) u) ?_
  cases hv : v.ownBlock with
  | none => exact .inl rfl
  | some g => right; have := (h.lt g hv).1; simp; omega

set_option maxHeartbeats 1000000 in
theorem lawSzPlan (b p : Int) (A : Option Addr) (l : List Str) (n cap : Nat) (hl : n = l.length) (left : Int) (w : World) (hn : n ≤ 9223372036854775807) (hs : ∀ x ∈ l, x.size ≤ maxLen) (h0 : 0 ≤ left) (h1 : left ≤ 1048576) (h : Rd w 1 strEnc A l) :
    Calls Tryd.prog 34 #[.agg #[.int .i64 b, .int .i64 p, .slice A n cap], .int .i64 left] w fun e w' => e = .returned (.int .i64 (leftOf left (strBulk l))) ∧ Below w.heap.size w w' := by
  have Hl := Lib.hid hl
  have Hr := Lib.hid h
  have Hs := Lib.hid hs
  clear h hs hl
  have Hr1 := fun (g : Obj) => Hr.out.below ((Below.refl w.heap.size w).alloc (Nat.le_refl _) g)
  by_cases q : (strBulk l : Int) ≤ left
  · have hlo := leftOf_some q
    obtain ⟨r, hr⟩ : ∃ r, r = left - (strBulk l : Int) := ⟨_, rfl⟩
    rw [← hr] at hlo
    have hr2 : 0 ≤ r := by omega
    have Hlo := Lib.hid hlo
    clear hlo hr q
    go_enter Tryd.func34, Tryd.ntmps34
    go_wp2_with (go_at_call 74; refine (lawSzStringS _ l _ _ Hl.out _ _ hn Hs.out h0 h1 (Hr1 _)).mono ?_; rw [Hlo.out]; rintro e w' ⟨rfl, rfl⟩)
    go_ret
    exact ⟨by rw [Hlo.out]; rfl, (Below.refl _ _).alloc (Nat.le_refl _) _⟩
  · have Hlo := Lib.hid (leftOf_none q)
    clear q
    go_enter Tryd.func34, Tryd.ntmps34
    go_wp2_with (go_at_call 74; refine (lawSzStringS _ l _ _ Hl.out _ _ hn Hs.out h0 h1 (Hr1 _)).mono ?_; rw [Hlo.out]; rintro e w' ⟨rfl, rfl⟩)
    go_ret
    exact ⟨by rw [Hlo.out]; rfl, (Below.refl _ _).alloc (Nat.le_refl _) _⟩

theorem heap_of_below {B : Nat} {w w' : World} (h : Below B w w') {g : Nat} {o : Obj} (hg : g < B) (ho : w.heap[g]? = some o) : w'.heap[g]? = some o := (h.block g hg).trans ho
theorem heap3_1 (w : World) (o1 o2 o3 : Obj) : (((w.alloc o1).alloc o2).alloc o3).heap[w.heap.size + 1]? = some o2 := by
  show (((w.heap.push o1).push o2).push o3)[w.heap.size + 1]? = _
  simp [Array.getElem_push]
theorem heap3_2 (w : World) (o1 o2 o3 : Obj) : (((w.alloc o1).alloc o2).alloc o3).heap[w.heap.size + 1 + 1]? = some o3 := by
  show (((w.heap.push o1).push o2).push o3)[w.heap.size + 1 + 1]? = _
  simp [Array.getElem_push]
theorem cells_of_heap {w : World} {g : Nat} {cs : Array Value} {t : TypeId} (h : w.heap[g]? = some (.cells cs t (0, 0))) (j : Nat) : w.cell? ⟨g, j, none⟩ = cs[j]? ∧ w.frozen? ⟨g, j, none⟩ = false := by
  constructor <;> simp [World.cell?, World.frozen?, h]

set_option maxHeartbeats 1000000 in
theorem lawToPlan (b p : Int) (A : Option Addr) (l : List Str) (n cap : Nat) (hl : n = l.length) (w : World) (hn : n ≤ 16777216) (h : Rd w 1 strEnc A l) :
    Calls Tryd.prog 35 #[.agg #[.int .i64 b, .int .i64 p, .slice A n cap]] w fun e w' => ∃ g, w.heap.size ≤ g ∧ e = .returned (.agg #[.int .i64 b, .int .i64 p, .slice (some ⟨g, 0, none⟩) n n]) ∧ Own w' g 9 1 strEnc (.slice (some ⟨g, 0, none⟩) n n) l ∧ Below w.heap.size w w' := by
  have Hl := Lib.hid hl
  have Hr := Lib.hid h
  clear h hl
  go_enter Tryd.func35, Tryd.ntmps35
  go_wp2_with fail
  have hb0 : ∀ o1 o2 o3, Below w.heap.size w (((w.alloc o1).alloc o2).alloc o3) := fun o1 o2 o3 => (((Below.refl w.heap.size w).alloc (Nat.le_refl _) o1).alloc (by simp) o2).alloc (by simp; omega) o3
  refine (lawToStringS A l _ _ Hl.out _ hn (Hr.out.below (hb0 _ _ _))).mono ?_
  rintro e w1 ⟨rfl, ho, hb⟩
  have k2 := heap_of_below hb (g := w.heap.size + 1 + 1) (by simp) (heap3_2 _ _ _ _)
  have k1 := heap_of_below hb (g := w.heap.size + 1) (by simp) (heap3_1 _ _ _ _)
  rw [show (((w.alloc (Obj.cells #[Value.int IntKind.i64 b, Value.int IntKind.i64 p, Value.slice A n cap] 48)).alloc (Obj.cells #[Value.int IntKind.i64 0, Value.int IntKind.i64 0, Value.slice none 0 0] 36)).alloc (Obj.cells #[Value.int IntKind.i64 b, Value.int IntKind.i64 p, Value.slice none 0 0] 36)).heap.size = w.heap.size + 1 + 1 + 1 from by simp] at ho hb ⊢
  have hb2 : Below w.heap.size w w1 := (hb0 _ _ _).trans (hb.mono (by omega))
  have Ho := Lib.hid ho
  clear ho hb
  obtain ⟨a0, b0⟩ := cells_of_heap k1 0
  obtain ⟨a1, b1⟩ := cells_of_heap k1 1
  obtain ⟨a2, b2⟩ := cells_of_heap k1 2
  obtain ⟨a3, b3⟩ := cells_of_heap k2 0
  obtain ⟨a4, b4⟩ := cells_of_heap k2 1
  obtain ⟨a5, b5⟩ := cells_of_heap k2 2
  simp only [List.getElem?_toArray, List.getElem?_cons_zero, List.getElem?_cons_succ] at a0 a1 a2 a3 a4 a5
  clear k1 k2
  go_wp2
  exact bodyPost_ret (v := .agg #[.int .i64 b, .int .i64 p, .slice (some ⟨w.heap.size + 1 + 1 + 1, 0, none⟩) n n]) (by simp [results, Tryd.results35, go_sem, a0, a1, a2]) rfl
    ⟨_, by omega, rfl, own_setCell (own_setCell (own_setCell (own_setCell Ho.out (by simp) _) (by simp) _) (by simp) _) (by simp) _, (((hb2.setCell (by simp; omega) _).setCell (by simp) _).setCell (by simp) _).setCell (by simp) _⟩

set_option maxHeartbeats 1000000 in
theorem lawEqPlan (b p : Int) (A B : Option Addr) (l : List Str) (n m capa capb : Nat) (hn : n = l.length) (hm : m = l.length) (w : World) (hna : n ≤ 16777216) (ha : Rd w 1 strEnc A l) (hb : Rd w 1 strEnc B l) :
    Calls Tryd.prog 36 #[.agg #[.int .i64 b, .int .i64 p, .slice A n capa], .agg #[.int .i64 b, .int .i64 p, .slice B m capb]] w fun e w' => e = .returned (.bool true) ∧ Below w.heap.size w w' := by
  have Hn := Lib.hid hn
  have Hm := Lib.hid hm
  have hmn : m ≤ 16777216 := by omega
  have h1 : (b != b) = false := by simp
  have h2 : (p != p) = false := by simp
  have Ha := Lib.hid ha
  have Hb := Lib.hid hb
  clear ha hb hn hm
  go_enter Tryd.func36, Tryd.ntmps36
  have hb2 : ∀ o1 o2, Below w.heap.size w ((w.alloc o1).alloc o2) := fun o1 o2 => ((Below.refl w.heap.size w).alloc (Nat.le_refl _) o1).alloc (by simp) o2
  go_wp2_with (go_at_call 76; refine (lawEqStringS _ _ l l _ _ _ _ Hn.out Hm.out _ hna (by omega) (Ha.out.below (hb2 _ _)) (Hb.out.below (hb2 _ _))).mono ?_; rw [strsEq_self]; rintro e w1 ⟨rfl, hb3⟩)
  go_ret
  exact ⟨rfl, (hb2 _ _).trans (hb3.mono (hb2 _ _).size)⟩
end Go.Proofs.YtfilggdiljpakaaDoor
