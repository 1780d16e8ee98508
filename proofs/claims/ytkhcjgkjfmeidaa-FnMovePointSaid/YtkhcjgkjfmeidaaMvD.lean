/-
  The draw of the law on moved points. (Written by gen_mvd.py.)
-/
import Derived.Test.YtkhcjgkjfmeidaaDq1
import Derived.Deep.CutBlock
namespace Go.Proofs.Ytkhcjgkjfmeidaa
open Go.RowKit

set_option maxHeartbeats 4000000 in
set_option maxRecDepth 100000 in
theorem drawMoveC (A : Option Addr) (bs : List UInt8) (n cap : Nat) (hn : n = bs.length) (hc : n ≤ cap) (w : World) (hlen : n ≤ 1048576) (hr : Rd w 1 byEnc A bs) :
    Calls Try.prog 6 #[.slice A n cap] w fun e w' => ∃ b p A' n' c' l, ∃ f t : Int, e = .returned (.tuple #[.agg #[.int .i64 b, .int .i64 p, .slice A' n' c'], .int .i64 f, .int .i64 t]) ∧ Hid (PlanOut w w' A' n' c' l) := by
  have Hn := Lib.hid hn
  have Hr := Lib.hid hr
  clear hn hr
  have H : Hid (Pool w (w.alloc (Obj.cells #[.int .i64 0, .int .i64 0, .slice none 0 0] 25)) [boxP w.heap.size (.int .i64 0) (.int .i64 0) (.slice none 0 0)]) := (Pool.nil_ w).addBox rfl _ _ _ _
  go_enter Try.func6, Try.ntmps6
  go_wp2_with fail
  refine (openQ A bs n cap Hn.out hc _ hlen Hr.out H.out).mono ?_
  rintro e w1 ⟨g, rfl, H⟩
  go_wp2_with fail
  refine (somePlanP H.out (by omega)).mono ?_
  rintro e w2 ⟨b, p, A1, n1, c1, l1, rfl, hb1, hb2, hp1, hp2, hn1, hn2, Hs, H⟩
  have hln := (H.out.own 1 rfl).len
  subst hln
  have H : Hid (Pool w (w2.alloc (Obj.cells #[.int .i64 b, .int .i64 p, .slice A1 l1.length c1] 25)) (rdP w g (0 + 98) :: boxP w2.heap.size (.int .i64 b) (.int .i64 p) (.slice A1 l1.length c1) :: ownP 9 1 strEnc (.slice A1 l1.length c1) l1 :: [boxP w.heap.size (.int .i64 0) (.int .i64 0) (.slice none 0 0)])) := (H.out.addBox rfl _ _ _ _).swap
  obtain ⟨-, c0, c1', c2, cz⟩ := H.out.box 1 rfl
  go_wp2_with fail
  refine (pickP H.out (l1.length : Int) (by omega)).mono ?_
  rintro e w3 ⟨f, rfl, hf0, hf1, H⟩
  clear c0 c1' c2 cz
  obtain ⟨-, c0, c1', c2, cz⟩ := H.out.box 1 rfl
  go_wp2_with fail
  refine (pickP H.out (l1.length : Int) (by omega)).mono ?_
  rintro e w4 ⟨t, rfl, ht0, ht1, H⟩
  clear c0 c1' c2 cz hf0 hf1 ht0 ht1
  go_wp2_with fail
  refine (pickP H.out 16 (by omega)).mono ?_
  rintro e w5 ⟨u, rfl, hu0, hu1, H⟩
  by_cases h0 : u = 0
  · subst h0
    obtain ⟨-, c0, c1', c2, cz⟩ := H.out.box 1 rfl
    have k2 := fun o => cell_alloc c2 o
    have HW := Lib.hid H.out
    go_wp2_with fail
    refine (numP [-1, (l1.length : Int), 9223372036854775807] 3 _ _ _ HW.out rfl rfl (by decide) (by decide) (by omega)).mono ?_
    rintro e w6 ⟨x, rfl, -, H⟩
    clear c0 c1' c2 cz k2 HW
    obtain ⟨-, c0, c1', c2, cz⟩ := H.out.box 1 rfl
    have H : Hid (Pool w _ (rdP w g (0 + 98 + 1 + 1 + 1 + 1) :: ownP 9 1 strEnc (.slice A1 l1.length c1) l1 :: [boxP w2.heap.size (.int .i64 b) (.int .i64 p) (.slice A1 l1.length c1), boxP w.heap.size (.int .i64 0) (.int .i64 0) (.slice none 0 0)])) := H.out.perm (List.Perm.cons _ (List.Perm.swap _ _ _))
    go_wp2_with fail
    refine (badPlanP b p A1 l1.length c1 l1 H.out (by omega) hn1 hn2 Hs.out).mono ?_
    rintro e w7 ⟨b', p', A2, n2, c2', l2, rfl, hn3, Hs2, H⟩
    clear c0 c1' c2 cz
    obtain ⟨-, r0, r1, r2, rz⟩ := H.out.box 3 rfl
    obtain ⟨s0, s1, s2⟩ := set3 r0 r1 r2 (.int .i64 b') (.int .i64 p') (.slice A2 n2 c2')
    have H5 := Lib.hid (H.out.setBox 3 rfl (.int .i64 b') (.int .i64 p') (.slice A2 n2 c2'))
    go_wp2
    refine bodyPost_ret (v := .tuple #[.agg #[.int .i64 b', .int .i64 p', .slice A2 n2 c2'], .int .i64 x, .int .i64 t]) (by simp [results, Try.results6, go_sem, s0, s1, s2]) rfl ?_
    exact ⟨b', p', A2, n2, c2', l2, x, t, rfl, hn3, Hs2.out, ((H5.out.drop 3).drop 2).drop 0⟩
  · have hq : (u == 0) = false := by simpa using h0
    by_cases h1 : u = 1
    · subst h1
      obtain ⟨-, c0, c1', c2, cz⟩ := H.out.box 1 rfl
      have k2 := fun o => cell_alloc c2 o
      have HW := Lib.hid H.out
      go_wp2_with fail
      refine (numP [-1, (l1.length : Int)] 2 _ _ _ HW.out rfl rfl (by decide) (by decide) (by omega)).mono ?_
      rintro e w6 ⟨x, rfl, -, H⟩
      clear c0 c1' c2 cz k2 HW
      obtain ⟨-, c0, c1', c2, cz⟩ := H.out.box 1 rfl
      have H : Hid (Pool w _ (rdP w g (0 + 98 + 1 + 1 + 1 + 1) :: ownP 9 1 strEnc (.slice A1 l1.length c1) l1 :: [boxP w2.heap.size (.int .i64 b) (.int .i64 p) (.slice A1 l1.length c1), boxP w.heap.size (.int .i64 0) (.int .i64 0) (.slice none 0 0)])) := H.out.perm (List.Perm.cons _ (List.Perm.swap _ _ _))
      go_wp2_with fail
      refine (badPlanP b p A1 l1.length c1 l1 H.out (by omega) hn1 hn2 Hs.out).mono ?_
      rintro e w7 ⟨b', p', A2, n2, c2', l2, rfl, hn3, Hs2, H⟩
      clear c0 c1' c2 cz
      obtain ⟨-, r0, r1, r2, rz⟩ := H.out.box 3 rfl
      obtain ⟨s0, s1, s2⟩ := set3 r0 r1 r2 (.int .i64 b') (.int .i64 p') (.slice A2 n2 c2')
      have H5 := Lib.hid (H.out.setBox 3 rfl (.int .i64 b') (.int .i64 p') (.slice A2 n2 c2'))
      go_wp2
      refine bodyPost_ret (v := .tuple #[.agg #[.int .i64 b', .int .i64 p', .slice A2 n2 c2'], .int .i64 f, .int .i64 x]) (by simp [results, Try.results6, go_sem, s0, s1, s2]) rfl ?_
      exact ⟨b', p', A2, n2, c2', l2, f, x, rfl, hn3, Hs2.out, ((H5.out.drop 3).drop 2).drop 0⟩
    · have hq1 : (u == 1) = false := by simpa using h1
      obtain ⟨-, c0, c1', c2, cz⟩ := H.out.box 1 rfl
      have H : Hid (Pool w _ (rdP w g (0 + 98 + 1 + 1 + 1) :: ownP 9 1 strEnc (.slice A1 l1.length c1) l1 :: [boxP w2.heap.size (.int .i64 b) (.int .i64 p) (.slice A1 l1.length c1), boxP w.heap.size (.int .i64 0) (.int .i64 0) (.slice none 0 0)])) := H.out.perm (List.Perm.cons _ (List.Perm.swap _ _ _))
      go_wp2_with fail
      refine (badPlanP b p A1 l1.length c1 l1 H.out (by omega) hn1 hn2 Hs.out).mono ?_
      rintro e w7 ⟨b', p', A2, n2, c2', l2, rfl, hn3, Hs2, H⟩
      clear c0 c1' c2 cz
      obtain ⟨-, r0, r1, r2, rz⟩ := H.out.box 3 rfl
      obtain ⟨s0, s1, s2⟩ := set3 r0 r1 r2 (.int .i64 b') (.int .i64 p') (.slice A2 n2 c2')
      have H5 := Lib.hid (H.out.setBox 3 rfl (.int .i64 b') (.int .i64 p') (.slice A2 n2 c2'))
      go_wp2
      refine bodyPost_ret (v := .tuple #[.agg #[.int .i64 b', .int .i64 p', .slice A2 n2 c2'], .int .i64 f, .int .i64 t]) (by simp [results, Try.results6, go_sem, s0, s1, s2]) rfl ?_
      exact ⟨b', p', A2, n2, c2', l2, f, t, rfl, hn3, Hs2.out, ((H5.out.drop 3).drop 2).drop 0⟩
end Go.Proofs.Ytkhcjgkjfmeidaa
