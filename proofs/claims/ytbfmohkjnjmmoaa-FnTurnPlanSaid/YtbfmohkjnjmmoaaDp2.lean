/-
  What the reference draws for plans: one that is sometimes not valid.
-/
import Derived.Test.YtbfmohkjnjmmoaaDp1
namespace Go.Proofs.Ytbfmohkjnjmmoaa
open Go.RowKit

/-- A slice's beginning. -/
theorem Own.cut {α : Type} {w : World} {base : Nat} {e : TypeId} {size : Nat} {enc : α → List Value} {A : Option Addr} {n c k : Nat} {l : List α} (hs : ∀ x, (enc x).length = size) (h : Own w base e size enc (.slice A n c) l) (hk : k ≤ n) : Own w base e size enc (.slice A k c) (l.take k) := by
  have hn := h.len
  have hkl : (l.take k).length = k := by rw [List.length_take]; omega
  have hfl : ∀ (l : List α), (l.flatMap enc).length = l.length * size := by
    intro l
    induction l with
    | nil => simp
    | cons x l ih => rw [List.flatMap_cons, List.length_append, ih, hs, List.length_cons, Nat.add_mul]; omega
  refine ⟨hfl _, ?_⟩
  rcases h.2 with ⟨hv, h0⟩ | ⟨g, cap, cur, hv, hb, hh, hnc, hcm, hsz, htk⟩
  · injection hv with e1 e2 e3
    subst e1 e2 e3
    obtain rfl : k = 0 := by omega
    exact .inl ⟨rfl, by simp⟩
  · injection hv with e1 e2 e3
    subst e1 e3
    refine .inr ⟨g, c, cur, by rw [hkl], hb, hh, by omega, hcm, hsz, ?_⟩
    rw [hkl]
    have e4 : (l.take k).flatMap enc = (l.flatMap enc).take (k * size) := by
      have e5 : l.flatMap enc = (l.take k).flatMap enc ++ (l.drop k).flatMap enc := by rw [← List.flatMap_append, List.take_append_drop]
      rw [e5]
      exact (List.take_left' (by rw [hfl, hkl])).symm
    rw [e4, ← htk, List.take_take, Nat.min_eq_left (Nat.mul_le_mul_right _ (by omega))]
theorem Pool.cutOwn {w0 w : World} {ps : List Piece} (h : Pool w0 w ps) (i : Nat) {α : Type} {e : TypeId} {size : Nat} {enc : α → List Value} {A : Option Addr} {n c k : Nat} {l : List α} (hs : ∀ x, (enc x).length = size) (hi : ps[i]? = some (ownP e size enc (.slice A n c) l)) (hk : k ≤ n) : Pool w0 w (ps.set i (ownP e size enc (.slice A k c) (l.take k))) :=
  have e : (Value.slice A k c).ownBlock = (Value.slice A n c).ownBlock := by cases A <;> rfl
  h.turn i hi (fun j hj => ⟨.inl (mem_own.2 (e ▸ mem_own.1 hj)), ((h.own i hi).lt j (e ▸ mem_own.1 hj)).2⟩) ((h.own i hi).cut hs hk) rfl rfl rfl (Nat.le_refl _) (fun _ _ _ => rfl)
theorem Pool.setBox0 {w0 w : World} {ps : List Piece} (h : Pool w0 w ps) (i : Nat) {g : Nat} {a b c : Value} (hi : ps[i]? = some (boxP g a b c)) (j : Nat) (hj : j < 3) (x : Value) : Pool w0 (w.setCell ⟨g, j, none⟩ x) (ps.set i (boxP g (if j = 0 then x else a) (if j = 1 then x else b) (if j = 2 then x else c))) := by
  have hg : w.grownBy (w.setCell ⟨g, j, none⟩ x) (some g) := grown_setCell (p := ⟨g, j, none⟩) (World.grownBy.refl w (some g)) (.inl rfl) x
  have hb := h.box i hi
  have hb' : Box (w.setCell ⟨g, j, none⟩ x) g (if j = 0 then x else a) (if j = 1 then x else b) (if j = 2 then x else c) := by
    match j, hj with
    | 0, _ => exact ⟨by simpa using hb.lt, World.cell?_setCell_same _ _ _ hb.c0, by rw [World.cell?_setCell_other _ _ _ _ (by simp)]; exact hb.c1, by rw [World.cell?_setCell_other _ _ _ _ (by simp)]; exact hb.c2, fun j => by rw [World.frozen?_setCell]; exact hb.fz j⟩
    | 1, _ => exact ⟨by simpa using hb.lt, by rw [World.cell?_setCell_other _ _ _ _ (by simp)]; exact hb.c0, World.cell?_setCell_same _ _ _ hb.c1, by rw [World.cell?_setCell_other _ _ _ _ (by simp)]; exact hb.c2, fun j => by rw [World.frozen?_setCell]; exact hb.fz j⟩
    | 2, _ => exact ⟨by simpa using hb.lt, by rw [World.cell?_setCell_other _ _ _ _ (by simp)]; exact hb.c0, by rw [World.cell?_setCell_other _ _ _ _ (by simp)]; exact hb.c1, World.cell?_setCell_same _ _ _ hb.c2, fun j => by rw [World.frozen?_setCell]; exact hb.fz j⟩
  refine h.turn i hi (fun k hk => ⟨.inl hk, ?_⟩) hb' hg.os hg.tape hg.output hg.size fun k hlt hm => hg.block k hlt (fun e => hm ?_)
  · have hk : k ∈ [g] := hk
    have := List.mem_singleton.1 hk
    subst this; exact hb'.lt
  · injection e with e
    subst e; exact List.mem_singleton.2 rfl

set_option maxHeartbeats 4000000 in
set_option maxRecDepth 100000 in
/-- l3Bad. -/
theorem badPlanP {w0 w : World} {ps : List Piece} {g k : Nat} (b p : Int) (A : Option Addr) (n c : Nat) (l : List Str) (h : Pool w0 w (rdP w0 g k :: ownP 9 1 strEnc (.slice A n c) l :: ps)) (hk : k ≤ 800000) (hn1 : 1 ≤ n) (hn2 : n ≤ 12) (hs : ∀ x ∈ l, x.size = 7) :
    Calls Try.prog 69 #[.pointer (some ⟨g, 0, none⟩), .agg #[.int .i64 b, .int .i64 p, .slice A n c]] w fun e w' => ∃ b' p' A' n' c' l', e = .returned (.agg #[.int .i64 b', .int .i64 p', .slice A' n' c']) ∧ n' ≤ 13 ∧ Hid (∀ x ∈ l', x.size ≤ 1001) ∧ Hid (Pool w0 w' (rdP w0 g (k + 2) :: ownP 9 1 strEnc (.slice A' n' c') l' :: ps)) := by
  have hln := (h.own 1 rfl).len
  subst hln
  have Hlow : Hid (∀ k, (Value.slice A l.length c).ownBlock = some k → k < w.heap.size) := fun k e => ((h.own 1 rfl).lt k e).2
  have Hs := Lib.hid hs
  have Hs' : Hid (∀ x ∈ l, x.size ≤ 1001) := fun x hx => by have := hs x hx; omega
  have H : Hid (Pool w0 ((w.alloc (Obj.cells #[.int .i64 b, .int .i64 p, .slice A l.length c] 25)).alloc (Obj.cells #[.int .i64 0, .int .i64 0, .slice none 0 0] 25)) (rdP w0 g k :: ownP 9 1 strEnc (.slice A l.length c) l :: boxP w.heap.size (.int .i64 b) (.int .i64 p) (.slice A l.length c) :: boxP (w.heap.size + 1) (.int .i64 0) (.int .i64 0) (.slice none 0 0) :: ps)) :=
    ((h.addBox rfl (.int .i64 b) (.int .i64 p) (.slice A l.length c) 25).addBox (g := w.heap.size + 1) (by simp) (.int .i64 0) (.int .i64 0) (.slice none 0 0) 25).perm (by
      refine (List.Perm.swap _ _ _).trans ?_
      exact (List.perm_append_comm (l₁ := [boxP w.heap.size (.int .i64 b) (.int .i64 p) (.slice A l.length c), boxP (w.heap.size + 1) (.int .i64 0) (.int .i64 0) (.slice none 0 0)]) (l₂ := [rdP w0 g k, ownP 9 1 strEnc (.slice A l.length c) l])).append_right ps)
  clear h hs
  go_enter Try.func69, Try.ntmps69
  go_wp2_with fail
  refine (pickP H.out 40 (by omega)).mono ?_
  rintro e w1 ⟨v, rfl, hv0, hv1, H⟩
  clear hv1
  by_cases e0 : v = 0
  · subst e0
    go_wp2_with fail
    refine (numP [1, 17, 16, -1, 9223372036854775807] 5 _ _ _ H.out rfl rfl (by decide) (by decide) (by omega)).mono ?_
    rintro e w2 ⟨x, rfl, -, H⟩
    obtain ⟨-, c0, c1, c2, cz⟩ := H.out.box 2 rfl
    have H : Hid (Pool w0 (w2.setCell ⟨w.heap.size, 0, none⟩ (.int .i64 x)) (rdP w0 g (k + 1 + 1) :: ownP 9 1 strEnc (.slice A l.length c) l :: boxP w.heap.size (.int .i64 x) (.int .i64 p) (.slice A l.length c) :: boxP (w.heap.size + 1) (.int .i64 0) (.int .i64 0) (.slice none 0 0) :: ps)) := H.out.setBox0 2 rfl 0 (by omega) (.int .i64 x)
    obtain ⟨-, d0, d1, d2, dz⟩ := H.out.box 2 rfl
    obtain ⟨-, r0, r1, r2, rz⟩ := H.out.box 3 rfl
    obtain ⟨s0, s1, s2⟩ := set3 r0 r1 r2 (.int .i64 x) (.int .i64 p) (.slice A l.length c)
    go_wp2
    refine bodyPost_ret (v := .agg #[.int .i64 x, .int .i64 p, .slice A l.length c]) (by simp [results, Try.results69, go_sem, s0, s1, s2]) rfl ?_
    exact ⟨x, p, A, l.length, c, l, rfl, by omega, Hs'.out, ((H.out.setBox 3 rfl _ _ _).drop 3).drop 2⟩
  have q0 : (v == 0) = false := by simpa using e0
  by_cases e1 : v = 1
  · subst e1
    go_wp2_with fail
    refine (numP [0, 5, 4, 1] 4 _ _ _ H.out rfl rfl (by decide) (by decide) (by omega)).mono ?_
    rintro e w2 ⟨x, rfl, -, H⟩
    obtain ⟨-, c0, c1, c2, cz⟩ := H.out.box 2 rfl
    have H : Hid (Pool w0 (w2.setCell ⟨w.heap.size, 1, none⟩ (.int .i64 x)) (rdP w0 g (k + 1 + 1) :: ownP 9 1 strEnc (.slice A l.length c) l :: boxP w.heap.size (.int .i64 b) (.int .i64 x) (.slice A l.length c) :: boxP (w.heap.size + 1) (.int .i64 0) (.int .i64 0) (.slice none 0 0) :: ps)) := H.out.setBox0 2 rfl 1 (by omega) (.int .i64 x)
    obtain ⟨-, d0, d1, d2, dz⟩ := H.out.box 2 rfl
    obtain ⟨-, r0, r1, r2, rz⟩ := H.out.box 3 rfl
    obtain ⟨s0, s1, s2⟩ := set3 r0 r1 r2 (.int .i64 b) (.int .i64 x) (.slice A l.length c)
    go_wp2
    refine bodyPost_ret (v := .agg #[.int .i64 b, .int .i64 x, .slice A l.length c]) (by simp [results, Try.results69, go_sem, s0, s1, s2]) rfl ?_
    exact ⟨b, x, A, l.length, c, l, rfl, by omega, Hs'.out, ((H.out.setBox 3 rfl _ _ _).drop 3).drop 2⟩
  have q1 : (v == 1) = false := by simpa using e1
  by_cases e4 : v = 4
  · subst e4
    obtain ⟨-, c0, c1, c2, cz⟩ := H.out.box 2 rfl
    have H : Hid (Pool w0 (w1.setCell ⟨w.heap.size, 2, none⟩ (.slice A 0 c)) (rdP w0 g (k + 1) :: ownP 9 1 strEnc (.slice A l.length c) l :: boxP w.heap.size (.int .i64 b) (.int .i64 p) (.slice A 0 c) :: boxP (w.heap.size + 1) (.int .i64 0) (.int .i64 0) (.slice none 0 0) :: ps)) := H.out.setBox0 2 rfl 2 (by omega) (.slice A 0 c)
    obtain ⟨-, d0, d1, d2, dz⟩ := H.out.box 2 rfl
    obtain ⟨-, r0, r1, r2, rz⟩ := H.out.box 3 rfl
    obtain ⟨s0, s1, s2⟩ := set3 r0 r1 r2 (.int .i64 b) (.int .i64 p) (.slice A 0 c)
    go_wp2
    refine bodyPost_ret (v := .agg #[.int .i64 b, .int .i64 p, .slice A 0 c]) (by simp [results, Try.results69, go_sem, s0, s1, s2]) rfl ?_
    exact ⟨b, p, A, 0, c, [], rfl, by omega, (fun x hx => by cases hx), ((((H.out.setBox 3 rfl _ _ _).drop 3).drop 2).cutOwn 1 (k := 0) strEnc_len rfl (by omega)).rdUp (by omega)⟩
  have q4 : (v == 4) = false := by simpa using e4
  by_cases e2 : v = 2
  · subst e2
    obtain ⟨x, hx⟩ : ∃ x, l[0]? = some x := ⟨_, List.getElem?_eq_getElem (by omega)⟩
    obtain ⟨go, rfl, hgo1, hgo2⟩ := (H.out.own 1 rfl).head (by omega)
    obtain ⟨d0, f0⟩ := (H.out.own 1 rfl).cell2 strEnc_len rfl hx (j := 0) (by omega)
    rw [show (strEnc x)[0]? = some (.string x) from rfl] at d0
    simp only [Nat.zero_mul, Nat.zero_add] at d0 f0
    have HX := Lib.hid hx
    obtain ⟨-, c0, c1, c2, cz⟩ := H.out.box 2 rfl
    obtain ⟨j0, ji, jz0, jz1, jz2⟩ := info_parts str_info
    have HD := Lib.hid (H.out.alloc (Obj.cells #[.string x] 9)).drew1
    have Hraw : Hid ((w1.alloc (Obj.cells #[.string x] 9)).drew.ownsRow 0 9 1 (.slice (some ⟨go, 0, none⟩) l.length c) l.length (l.flatMap strEnc)) := HD.out.own 1 rfl
    have Hnews : Hid (∀ (i : Nat) (z : Value), (strEnc x)[i]? = some z → (w1.alloc (Obj.cells #[.string x] 9)).drew.cell? (Addr.add ⟨w1.heap.size, 0, none⟩ i) = some z) := strEnc_cells x rfl
    have c2' := fun o => cell_alloc c2 o
    have hl0 : 0 < l.length := by omega
    clear hx
    go_wp2_with fail
    go_region_law (refine step_append_lies _ (by rfl) (.tmp 22) (.tmp 27) 23 (by rfl) 0 9 j0 _ 1 16 Try.underlying23 ji jz0 jz1 jz2 rfl (by decide) (.slice (some ⟨go, 0, none⟩) l.length c) l.length (l.flatMap strEnc) (by rfl) Hraw.out _ 1 1 (strEnc x) (by rfl) (by rfl) Hnews.out (strEnc_one x) (by decide) (by unfold maxLen; omega) (by omega) (Nat.zero_le _) _ rfl ?_; intro g3 c3 w5 hown5 hg5 hat5 hlt5; have H5 := Lib.hid (HD.out.append 1 rfl (own_push hown5 rfl) hg5 (fun q e => by injection e with e; subst e; rcases hat5 with h' | h'; exact .inl h'; exact .inr (by show _ ≤ g3; omega))); obtain ⟨-, q0, q1, q2, qz⟩ := H5.out.box 2 rfl)
    all_goals
      have H6 : Hid (Pool w0 (w5.setCell ⟨w.heap.size, 2, none⟩ (.slice (some ⟨g3, 0, none⟩) (l.length + 1) c3)) (rdP w0 g (k + 1) :: ownP 9 1 strEnc (.slice (some ⟨g3, 0, none⟩) (l.length + 1) c3) (l ++ [x]) :: boxP w.heap.size (.int .i64 b) (.int .i64 p) (.slice (some ⟨g3, 0, none⟩) (l.length + 1) c3) :: boxP (w.heap.size + 1) (.int .i64 0) (.int .i64 0) (.slice none 0 0) :: ps)) := H5.out.setBox0 2 rfl 2 (by omega) _
      clear c0 c1 c2 c2' d0 f0 q0 q1 q2 qz cz
      obtain ⟨-, d0', d1', d2', dz⟩ := H6.out.box 2 rfl
      obtain ⟨-, r0, r1, r2, rz⟩ := H6.out.box 3 rfl
      obtain ⟨s0, s1, s2⟩ := set3 r0 r1 r2 (.int .i64 b) (.int .i64 p) (.slice (some ⟨g3, 0, none⟩) (l.length + 1) c3)
      go_wp2
      refine bodyPost_ret (v := .agg #[.int .i64 b, .int .i64 p, .slice (some ⟨g3, 0, none⟩) (l.length + 1) c3]) (by simp [results, Try.results69, go_sem, s0, s1, s2]) rfl ?_
      exact ⟨b, p, _, l.length + 1, c3, l ++ [x], rfl, by omega, (fun y hy => by
        rcases List.mem_append.1 hy with hy | hy
        · exact Hs'.out y hy
        · simp at hy; subst hy; exact Hs'.out y (List.mem_of_getElem? HX.out)), (((H6.out.setBox 3 rfl _ _ _).drop 3).drop 2).rdUp (by omega)⟩
  have q2 : (v == 2) = false := by simpa using e2
  by_cases e3 : v = 3
  · subst e3
    obtain ⟨x, hx⟩ : ∃ x, l[0]? = some x := ⟨_, List.getElem?_eq_getElem (by omega)⟩
    obtain ⟨go, rfl, hgo1, hgo2⟩ := (H.out.own 1 rfl).head (by omega)
    obtain ⟨d0, f0⟩ := (H.out.own 1 rfl).cell2 strEnc_len rfl hx (j := 0) (by omega)
    rw [show (strEnc x)[0]? = some (.string x) from rfl] at d0
    simp only [Nat.zero_mul, Nat.zero_add] at d0 f0
    have hxs := Hs.out x (List.mem_of_getElem? hx)
    have hs2 : (x ++ (⟨#[49]⟩ : Str)).size = 8 := by rw [ByteArray.size_append, hxs]; rfl
    have HX := Lib.hid hx
    obtain ⟨-, c0, c1, c2, cz⟩ := H.out.box 2 rfl
    have HW := Lib.hid H.out.drew1
    have hl0 : 0 < l.length := by omega
    have hl1 : (0 : Int) < (l.length : Int) := by omega
    clear hx
    go_wp2_with fail
    go_region_law ((go_simp; go_at_call 67; refine (badP _ HW.out (by omega) (by rw [hs2]; omega) (by rw [hs2]; omega)).mono ?_; rintro e w2 ⟨s, rfl, hsz, H2⟩; obtain ⟨-, c0', c1', c2', cz'⟩ := H2.out.box 2 rfl; obtain ⟨d0', f0'⟩ := (H2.out.own 1 rfl).cell2 strEnc_len rfl HX.out (j := 0) (by omega); rw [show (strEnc x)[0]? = some (.string x) from rfl] at d0'; simp only [Nat.zero_mul, Nat.zero_add] at d0' f0'))
    all_goals
      have H3 : Hid (Pool w0 (w2.setCell ⟨go, 0, none⟩ (.string s)) (rdP w0 g (k + 1 + 1) :: ownP 9 1 strEnc (.slice (some ⟨go, 0, none⟩) l.length c) (l.set 0 s) :: boxP w.heap.size (.int .i64 b) (.int .i64 p) (.slice (some ⟨go, 0, none⟩) l.length c) :: boxP (w.heap.size + 1) (.int .i64 0) (.int .i64 0) (.slice none 0 0) :: ps)) := by
        have := H2.out.turnOwn 1 rfl ((H2.out.own 1 rfl).set1 strEnc_len rfl (i := 0) (by omega) (y := s) rfl) (grown_setCell (World.grownBy.refl _ _) (.inl rfl) _)
        exact this
      clear c0 c1 c2 d0 f0 c0' c1' c2' d0' f0' H HW cz cz'
      obtain ⟨-, d0, d1, d2, dz⟩ := H3.out.box 2 rfl
      obtain ⟨-, r0, r1, r2, rz⟩ := H3.out.box 3 rfl
      obtain ⟨s0, s1, s2⟩ := set3 r0 r1 r2 (.int .i64 b) (.int .i64 p) (.slice (some ⟨go, 0, none⟩) l.length c)
      go_wp2
      refine bodyPost_ret (v := .agg #[.int .i64 b, .int .i64 p, .slice (some ⟨go, 0, none⟩) l.length c]) (by simp [results, Try.results69, go_sem, s0, s1, s2]) rfl ?_
      exact ⟨b, p, _, l.length, c, l.set 0 s, rfl, by omega, (fun y hy => by
        rcases List.mem_or_eq_of_mem_set hy with hy | rfl
        · exact Hs'.out y hy
        · exact hsz), (((H3.out.setBox 3 rfl _ _ _).drop 3).drop 2).rdUp (by omega)⟩
  have q3 : (v == 3) = false := by simpa using e3
  obtain ⟨-, d0, d1, d2, dz⟩ := H.out.box 2 rfl
  obtain ⟨-, r0, r1, r2, rz⟩ := H.out.box 3 rfl
  obtain ⟨s0, s1, s2⟩ := set3 r0 r1 r2 (.int .i64 b) (.int .i64 p) (.slice A l.length c)
  go_wp2
  refine bodyPost_ret (v := .agg #[.int .i64 b, .int .i64 p, .slice A l.length c]) (by simp [results, Try.results69, go_sem, s0, s1, s2]) rfl ?_
  exact ⟨b, p, A, l.length, c, l, rfl, by omega, Hs'.out, (((H.out.setBox 3 rfl _ _ _).drop 3).drop 2).rdUp (by omega)⟩
end Go.Proofs.Ytbfmohkjnjmmoaa
