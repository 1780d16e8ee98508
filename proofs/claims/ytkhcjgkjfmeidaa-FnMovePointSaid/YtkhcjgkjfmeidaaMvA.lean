/-
  A point of a round moved: the program's.
-/
import Derived.Test.YtkhcjgkjfmeidaaMvP
namespace Go.Proofs.Ytkhcjgkjfmeidaa
open Go.RowKit

theorem own_rawS {w : World} {base m : Nat} {e : TypeId} {A : Option Addr} {cap : Nat} {l : List Str} (h : Own w base e 1 strEnc (.slice A m cap) l) : w.ownsRow base e 1 (.slice A m cap) m (l.flatMap strEnc) := by
  have := h.len
  subst this
  exact h
theorem lit_cellsS (w : World) (x : Str) {t : TypeId} : ∀ (j : Nat) (u : Value), [Value.string x][j]? = some u → (w.alloc (.cells #[.string x] t)).cell? (Addr.add ⟨w.heap.size, 0, none⟩ j) = some u := fun j u hj => by
  match j, hj with
  | 0, hj => simp at hj; subst hj; exact World.cell?_alloc_at _ _ _ 0 rfl

set_option maxHeartbeats 8000000 in
set_option maxRecDepth 100000 in
theorem implMovePoint (b p : Int) (A : Option Addr) (l : List Str) (n cap : Nat) (hl : n = l.length) (hcap : n ≤ cap) (f t : Int) (w : World) (hn : n ≤ 1048576) (hs : ∀ x ∈ l, x.size ≤ 1048576) (h : Rd w 1 strEnc A l) :
    Calls Try.prog 7 #[.agg #[.int .i64 b, .int .i64 p, .slice A n cap], .int .i64 f, .int .i64 t] w fun e w' => PlRet (moveR b p l f t) w e w' := by
  have Hl := Lib.hid hl
  have Hr := Lib.hid h
  have Hs := Lib.hid hs
  clear h hs hl
  have H : Hid (Pool w ((w.alloc (Obj.cells #[.int .i64 b, .int .i64 p, .slice A n cap] 25)).alloc (Obj.cells #[.int .i64 0, .int .i64 0, .slice none 0 0] 25)) [boxP (w.heap.size + 1) (.int .i64 0) (.int .i64 0) (.slice none 0 0), boxP w.heap.size (.int .i64 b) (.int .i64 p) (.slice A n cap)]) := ((Pool.nil_ w).addBox rfl _ _ _ _).addBox (by simp) _ _ _ _
  cases hv : planOk b p l
  · have Ht : Hid (moveR b p l f t = noPlR) := by show moveR _ _ _ _ _ = _; unfold moveR; rw [hv]; rfl
    go_enter Try.func7, Try.ntmps7
    go_wp2_with fail
    refine (implPlanValid b p A l _ _ Hl.out hcap _ (by omega) Hs.out (Hr.out.below H.out.below)).mono ?_
    rw [hv]
    rintro e w1 ⟨rfl, hb⟩
    have H := Lib.hid (H.out.step hb)
    clear hb
    obtain ⟨-, r0, r1, r2, rz⟩ := H.out.box 0 rfl
    obtain ⟨s0, s1, s2⟩ := set3 r0 r1 r2 (.int .i64 0) (.int .i64 0) (.slice none 0 0)
    go_wp2
    refine bodyPost_ret (v := .tuple #[.agg #[.int .i64 0, .int .i64 0, .slice none 0 0], .bool false]) (by simp [results, Try.results7, go_sem, s0, s1, s2]) rfl ?_
    rw [Ht.out]
    exact ⟨none, 0, 0, rfl, Own.nil_ _ _ _ _ _, (H.out.setBox 0 rfl _ _ _).below⟩
  · by_cases hg : 0 ≤ f ∧ f < (n : Int) ∧ 0 ≤ t ∧ t < (n : Int)
    · obtain ⟨hf0, hf1, ht0, ht1⟩ := hg
      obtain ⟨fn, rfl⟩ := Int.eq_ofNat_of_zero_le hf0
      obtain ⟨tn, rfl⟩ := Int.eq_ofNat_of_zero_le ht0
      have hfn : fn < n := by omega
      have htn : tn < n := by omega
      have Ht : Hid (moveR b p l fn tn = ⟨b, p, moveL l fn tn, true⟩) := by
        show moveR _ _ _ _ _ = _
        unfold moveR
        rw [hv, decide_eq_true (by have := Hl.out; omega)]
        rfl
      have q1 : ¬ ((fn : Int) < 0) := by omega
      have q2 : ¬ ((fn : Int) ≥ (n : Int)) := by omega
      have q3 : ¬ ((tn : Int) < 0) := by omega
      have q4 : ¬ ((tn : Int) ≥ (n : Int)) := by omega
      have q5 : ¬ n ≤ fn := by omega
      have q6 : ¬ n ≤ tn := by omega
      obtain ⟨-, c0, c1, c2, -⟩ := H.out.box 1 rfl
      go_enter Try.func7, Try.ntmps7
      go_wp2_with fail
      refine (implPlanValid b p A l _ _ Hl.out hcap _ (by omega) Hs.out (Hr.out.below H.out.below)).mono ?_
      rw [hv]
      rintro e w1 ⟨rfl, hb⟩
      clear c0 c1 c2
      have H := Lib.hid (H.out.step hb)
      clear hb
      obtain ⟨-, c0, c1, c2, -⟩ := H.out.box 1 rfl
      obtain ⟨i0, hi, hz0, hz1, hz2⟩ := info_parts str_info
      go_wp2_with (at_make; refine wpList_make_own _ rfl _ _ 23 rfl w1.heap.size 9 i0 _ 1 Try.underlying23 hi hz0 hz1 .i64 .i64 _ n rfl rfl (by omega) (by rw [hz2]; omega) (by unfold maxLen; omega) (Nat.le_refl _) ?_; intro w2 hown2 hg2; have hb2 : Below w1.heap.size w1 w2 := grown_below hg2 (fun _ e => by cases e); have c2 := below_cell hb2 c2)
      have H : Hid (Pool w w2 [ownP 9 1 strEnc (.slice (some ⟨w1.heap.size, 0, none⟩) 0 n) [], boxP (w.heap.size + 1) (.int .i64 0) (.int .i64 0) (.slice none 0 0), boxP w.heap.size (.int .i64 b) (.int .i64 p) (.slice A n cap)]) := H.out.addOwn hb2 hown2
      clear hown2 hg2 hb2 c0 c1 c2
      obtain ⟨-, c0, c1, c2, -⟩ := H.out.box 2 rfl
      obtain ⟨g, hgq⟩ : ∃ g, w1.heap.size = g := ⟨_, rfl⟩
      rw [hgq] at H ⊢
      clear hgq
      go_loopw [8, 44] (fun v i wr => ∃ k : Nat, k ≤ n ∧ i = .int .i64 k ∧ ∃ m, v = .slice (some ⟨g, 0, none⟩) m n ∧ Hid (Pool w wr [ownP 9 1 strEnc (.slice (some ⟨g, 0, none⟩) m n) ((l.take k).eraseIdx fn), boxP (w.heap.size + 1) (.int .i64 0) (.int .i64 0) (.slice none 0 0), boxP w.heap.size (.int .i64 b) (.int .i64 p) (.slice A n cap)])) (fun _ i _ => n - (intOf i).toNat)
      case atStart => exact ⟨0, Nat.zero_le _, rfl, 0, rfl, H.out⟩
      case round =>
        clear H c0 c1 c2
        obtain ⟨k, hk, rfl, m, rfl, H⟩ := hrel
        have Hm := Lib.hid (H.out.own 0 rfl).len
        by_cases hlt : k < n
        · obtain ⟨x, hx⟩ : ∃ x, l[k]? = some x := ⟨_, List.getElem?_eq_getElem (by have := Hl.out; omega)⟩
          obtain ⟨ad, rfl, hab, e0⟩ := (Hr.out.below H.out.below).one hx rfl
          have Hx := Lib.hid hx
          clear hx
          by_cases he : k = fn
          · have hne : ((k : Int) != (fn : Int)) = false := by simp [he]
            have Hd : Hid ((l.take (k + 1)).eraseIdx fn = (l.take k).eraseIdx fn) := by subst he; exact erase_skip (by have := Hl.out; omega)
            clear he
            go_wp2
            go_roundw
            case rel => exact ⟨k + 1, by omega, by go_num, m, rfl, by rw [Hd.out]; exact H.out⟩
            case measure => simp [intOf]; omega
          · have hne : ((k : Int) != (fn : Int)) = true := by simp; omega
            have Hd : Hid ((l.take (k + 1)).eraseIdx fn = (l.take k).eraseIdx fn ++ [x]) := erase_take Hx.out he
            have Hmn : Hid (m + 1 ≤ n) := by
              have h1 := Hm.out
              rw [List.length_eraseIdx, List.length_take] at h1
              have := Hl.out
              show m + 1 ≤ n
              split at h1 <;> omega
            clear he
            go_wp2_with (at_builtin; refine wpList_append_own_spare _ rfl (.tmp 52) (.tmp 54) 23 rfl 0 9 i0 1 Try.underlying23 hi hz1 g m n _ rfl (own_rawS (H.out.alloc _ |>.own 0 rfl)) ⟨wr.heap.size, 0, none⟩ 1 1 [.string x] rfl rfl (lit_cellsS wr x) (fun u hu => by simp at hu; subst hu; rfl) Hmn.out ?_; intro w3 hown3 hg3)
            have H : Hid (Pool w w3 [ownP 9 1 strEnc (.slice (some ⟨g, 0, none⟩) (m + 1) n) ((l.take (k + 1)).eraseIdx fn), boxP (w.heap.size + 1) (.int .i64 0) (.int .i64 0) (.slice none 0 0), boxP w.heap.size (.int .i64 b) (.int .i64 p) (.slice (some ad) n cap)]) := by
              rw [Hd.out]
              exact (H.out.alloc _).append 0 rfl (own_push hown3 Hm.out) hg3 (fun k e => .inl e)
            go_roundw
            case rel => exact ⟨k + 1, by omega, by go_num, m + 1, rfl, H.out⟩
            case measure => simp [intOf]; omega
        · have hkn : n = k := by omega
          subst hkn
          have hme := Hm.out
          rw [List.take_of_length_le (by have := Hl.out; omega)] at hme H
          have hmn : m + 1 = n := by
            rw [List.length_eraseIdx] at hme
            have := Hl.out
            split at hme <;> omega
          have Hme := Lib.hid hme
          clear hme Hm
          obtain ⟨x, hx⟩ : ∃ x, l[fn]? = some x := ⟨_, List.getElem?_eq_getElem (by have := Hl.out; omega)⟩
          obtain ⟨ad, rfl, hab, e0⟩ := (Hr.out.below H.out.below).one hx rfl
          have Hx := Lib.hid hx
          clear hx
          obtain ⟨-, c0, c1, c2, -⟩ := H.out.box 2 rfl
          have HI := Lib.hid ((H.out.addOwn ((Below.refl _ _).alloc (Nat.le_refl _) _) (ownLit1 wr x 9)).perm (List.Perm.swap _ _ _))
          go_wp2_with fail
          refine (insertAt tn HI.out Hme.out (by omega) (by omega) (by omega)).mono ?_
          rw [hmn]
          rintro e w3 ⟨rfl, H3⟩
          clear H HI c0 c1 c2 e0
          obtain ⟨-, c0, c1, c2, -⟩ := H3.out.box 2 rfl
          obtain ⟨-, r0, r1, r2, rz⟩ := H3.out.box 1 rfl
          obtain ⟨s0, s1, s2⟩ := set3 r0 r1 r2 (.int .i64 b) (.int .i64 p) (.slice (some ⟨g, 0, none⟩) n n)
          go_wp2
          refine bodyPost_ret (v := .tuple #[.agg #[.int .i64 b, .int .i64 p, .slice (some ⟨g, 0, none⟩) n n], .bool true]) (by simp [results, Try.results7, go_sem, s0, s1, s2]) rfl ?_
          rw [Ht.out]
          have hml : moveL l fn tn = (l.eraseIdx fn).take tn ++ x :: (l.eraseIdx fn).drop tn := by unfold moveL; rw [Hx.out]; rfl
          refine ⟨some ⟨g, 0, none⟩, n, n, rfl, ?_, (H3.out.setBox 1 rfl _ _ _).below⟩
          show Own _ _ _ _ _ _ (moveL l fn tn)
          rw [hml]
          exact (H3.out.setBox 1 rfl _ _ _).res 0 rfl
    · have Ht : Hid (moveR b p l f t = noPlR) := by
        show moveR _ _ _ _ _ = _
        unfold moveR
        rw [hv, decide_eq_false (by have := Hl.out; omega)]
        rfl
      have hq : f < 0 ∨ (¬ f < 0 ∧ f ≥ (n : Int)) ∨ (¬ f < 0 ∧ ¬ f ≥ (n : Int) ∧ t < 0) ∨ (¬ f < 0 ∧ ¬ f ≥ (n : Int) ∧ ¬ t < 0 ∧ t ≥ (n : Int)) := by omega
      clear hg
      obtain ⟨-, c0, c1, c2, -⟩ := H.out.box 1 rfl
      rcases hq with q1 | ⟨q1, q2⟩ | ⟨q1, q2, q3⟩ | ⟨q1, q2, q3, q4⟩
      all_goals
        go_enter Try.func7, Try.ntmps7
        go_wp2_with fail
        refine (implPlanValid b p A l _ _ Hl.out hcap _ (by omega) Hs.out (Hr.out.below H.out.below)).mono ?_
        rw [hv]
        rintro e w1 ⟨rfl, hb⟩
        clear c0 c1 c2
        have H := Lib.hid (H.out.step hb)
        clear hb
        obtain ⟨-, c0, c1, c2, -⟩ := H.out.box 1 rfl
        obtain ⟨-, r0, r1, r2, rz⟩ := H.out.box 0 rfl
        obtain ⟨s0, s1, s2⟩ := set3 r0 r1 r2 (.int .i64 0) (.int .i64 0) (.slice none 0 0)
        go_wp2
        refine bodyPost_ret (v := .tuple #[.agg #[.int .i64 0, .int .i64 0, .slice none 0 0], .bool false]) (by simp [results, Try.results7, go_sem, s0, s1, s2]) rfl ?_
        rw [Ht.out]
        exact ⟨none, 0, 0, rfl, Own.nil_ _ _ _ _ _, (H.out.setBox 0 rfl _ _ _).below⟩
end Go.Proofs.Ytkhcjgkjfmeidaa
