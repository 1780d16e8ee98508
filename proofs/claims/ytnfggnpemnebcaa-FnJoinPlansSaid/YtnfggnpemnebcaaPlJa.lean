/-
  Two plans joined. (Written by gen_join.py.)
-/
import Derived.Test.YtnfggnpemnebcaaPlJb
namespace Go.Proofs.Ytnfggnpemnebcaa
open Go.RowKit

set_option maxHeartbeats 4000000 in
set_option maxRecDepth 100000 in
theorem implJoinPlans (b p b' p' : Int) (A A' : Option Addr) (l l' : List Str) (n cap n' cap' : Nat) (hl : n = l.length) (hl' : n' = l'.length) (hcap : n ≤ cap) (hcap' : n' ≤ cap') (hnil : A = none → cap = 0) (hnil' : A' = none → cap' = 0) (w : World) (hn : n ≤ 1048576) (hn' : n' ≤ 1048576) (hs : ∀ x ∈ l, x.size ≤ 1048576) (hs' : ∀ x ∈ l', x.size ≤ 1048576) (h : Rd w 1 strEnc A l) (h' : Rd w 1 strEnc A' l') :
    Calls Try.prog 12 #[.agg #[.int .i64 b, .int .i64 p, .slice A n cap], .agg #[.int .i64 b', .int .i64 p', .slice A' n' cap']] w fun e w' => PlRet (joinR b p l b' p' l') w e w' := by
  have Hl := Lib.hid hl
  have Hl' := Lib.hid hl'
  have Hr := Lib.hid h
  have Hr' := Lib.hid h'
  have Hs := Lib.hid hs
  have Hs' := Lib.hid hs'
  have Hnil := Lib.hid hnil
  have Hnil' := Lib.hid hnil'
  clear h h' hs hs' hl hl' hnil hnil'
  have HB : Hid (Below w.heap.size w (((w.alloc (Obj.cells #[.int .i64 b, .int .i64 p, .slice A n cap] 26)).alloc (Obj.cells #[.int .i64 b', .int .i64 p', .slice A' n' cap'] 26)).alloc (Obj.cells #[.int .i64 0, .int .i64 0, .slice none 0 0] 26))) := (((Below.refl w.heap.size w).alloc (Nat.le_refl _) (Obj.cells #[.int .i64 b, .int .i64 p, .slice A n cap] 26)).alloc (by simp) (Obj.cells #[.int .i64 b', .int .i64 p', .slice A' n' cap'] 26)).alloc (by simp; omega) (Obj.cells #[.int .i64 0, .int .i64 0, .slice none 0 0] 26)
  have BP : Hid (Box (((w.alloc (Obj.cells #[.int .i64 b, .int .i64 p, .slice A n cap] 26)).alloc (Obj.cells #[.int .i64 b', .int .i64 p', .slice A' n' cap'] 26)).alloc (Obj.cells #[.int .i64 0, .int .i64 0, .slice none 0 0] 26)) w.heap.size (.int .i64 b) (.int .i64 p) (.slice A n cap)) := Box.of_heap (heap3_0 w (Obj.cells #[.int .i64 b, .int .i64 p, .slice A n cap] 26) (Obj.cells #[.int .i64 b', .int .i64 p', .slice A' n' cap'] 26) (Obj.cells #[.int .i64 0, .int .i64 0, .slice none 0 0] 26))
  have BQ : Hid (Box (((w.alloc (Obj.cells #[.int .i64 b, .int .i64 p, .slice A n cap] 26)).alloc (Obj.cells #[.int .i64 b', .int .i64 p', .slice A' n' cap'] 26)).alloc (Obj.cells #[.int .i64 0, .int .i64 0, .slice none 0 0] 26)) (w.heap.size + 1) (.int .i64 b') (.int .i64 p') (.slice A' n' cap')) := Box.of_heap (heap3_1 w (Obj.cells #[.int .i64 b, .int .i64 p, .slice A n cap] 26) (Obj.cells #[.int .i64 b', .int .i64 p', .slice A' n' cap'] 26) (Obj.cells #[.int .i64 0, .int .i64 0, .slice none 0 0] 26))
  have BR : Hid (Box (((w.alloc (Obj.cells #[.int .i64 b, .int .i64 p, .slice A n cap] 26)).alloc (Obj.cells #[.int .i64 b', .int .i64 p', .slice A' n' cap'] 26)).alloc (Obj.cells #[.int .i64 0, .int .i64 0, .slice none 0 0] 26)) (w.heap.size + 1 + 1) (.int .i64 0) (.int .i64 0) (.slice none 0 0)) := Box.of_heap (heap3_2 w (Obj.cells #[.int .i64 b, .int .i64 p, .slice A n cap] 26) (Obj.cells #[.int .i64 b', .int .i64 p', .slice A' n' cap'] 26) (Obj.cells #[.int .i64 0, .int .i64 0, .slice none 0 0] 26))
  cases hv : planOk b p l
  · have Ht : Hid (joinR b p l b' p' l' = noPlR) := by show joinR _ _ _ _ _ _ = _; unfold joinR; simp [hv]
    go_enter Try.func12, Try.ntmps12
    go_wp2_with fail
    refine (implPlanValid b p A l _ _ Hl.out hcap _ (by omega) Hs.out (Hr.out.below HB.out)).mono ?_
    rw [hv]
    rintro e w1 ⟨rfl, hb⟩
    have BP := Lib.hid (BP.out.below hb)
    have BQ := Lib.hid (BQ.out.below hb)
    have BR := Lib.hid (BR.out.below hb)
    have HB := Lib.hid (below_step HB.out hb)
    clear hb
    obtain ⟨-, r0, r1, r2, rz⟩ := BR.out
    obtain ⟨s0, s1, s2⟩ := set3 r0 r1 r2 (.int .i64 0) (.int .i64 0) (.slice none 0 0)
    go_wp2
    refine bodyPost_ret (v := .tuple #[.agg #[.int .i64 0, .int .i64 0, .slice none 0 0], .bool false]) (by simp [results, Try.results12, go_sem, s0, s1, s2]) rfl ?_
    rw [Ht.out]
    exact ⟨none, 0, 0, rfl, Own.nil_ _ _ _ _ _, below_set3 HB.out (by omega) _ _ _⟩
  · cases hv' : planOk b' p' l'
    · have Ht : Hid (joinR b p l b' p' l' = noPlR) := by show joinR _ _ _ _ _ _ = _; unfold joinR; simp [hv']
      go_enter Try.func12, Try.ntmps12
      go_wp2_with fail
      refine (implPlanValid b p A l _ _ Hl.out hcap _ (by omega) Hs.out (Hr.out.below HB.out)).mono ?_
      rw [hv]
      rintro e w1 ⟨rfl, hb⟩
      have BP := Lib.hid (BP.out.below hb)
      have BQ := Lib.hid (BQ.out.below hb)
      have BR := Lib.hid (BR.out.below hb)
      have HB := Lib.hid (below_step HB.out hb)
      clear hb
      obtain ⟨-, d0, d1, d2, -⟩ := BQ.out
      go_wp2_with fail
      refine (implPlanValid b' p' A' l' _ _ Hl'.out hcap' _ (by omega) Hs'.out (Hr'.out.below HB.out)).mono ?_
      rw [hv']
      rintro e w2 ⟨rfl, hb⟩
      clear d0 d1 d2
      have BP := Lib.hid (BP.out.below hb)
      have BQ := Lib.hid (BQ.out.below hb)
      have BR := Lib.hid (BR.out.below hb)
      have HB := Lib.hid (below_step HB.out hb)
      clear hb
      obtain ⟨-, r0, r1, r2, rz⟩ := BR.out
      obtain ⟨s0, s1, s2⟩ := set3 r0 r1 r2 (.int .i64 0) (.int .i64 0) (.slice none 0 0)
      go_wp2
      refine bodyPost_ret (v := .tuple #[.agg #[.int .i64 0, .int .i64 0, .slice none 0 0], .bool false]) (by simp [results, Try.results12, go_sem, s0, s1, s2]) rfl ?_
      rw [Ht.out]
      exact ⟨none, 0, 0, rfl, Own.nil_ _ _ _ _ _, below_set3 HB.out (by omega) _ _ _⟩
    · by_cases hbb : b = b'
      · by_cases hpp : p = p'
        · subst hbb
          subst hpp
          have Ht : joinR b p l b p l' = if planOk b p (l ++ l') then ⟨b, p, l ++ l', true⟩ else noPlR := by
            unfold joinR
            rw [hv, hv', decide_eq_true rfl, decide_eq_true rfl]
            rfl
          rw [Ht]
          exact implJoinOk b p A A' l l' n cap n' cap' Hl.out Hl'.out hcap hcap' Hnil.out Hnil'.out w hn hn' Hs.out Hs'.out Hr.out Hr'.out hv hv'
        · have hqb : (b != b') = false := by simp [hbb]
          have hqp : (p != p') = true := by simp [hpp]
          have Ht : Hid (joinR b p l b' p' l' = noPlR) := by show joinR _ _ _ _ _ _ = _; unfold joinR; simp [hpp]
          clear hbb hpp
          go_enter Try.func12, Try.ntmps12
          go_wp2_with fail
          refine (implPlanValid b p A l _ _ Hl.out hcap _ (by omega) Hs.out (Hr.out.below HB.out)).mono ?_
          rw [hv]
          rintro e w1 ⟨rfl, hb⟩
          have BP := Lib.hid (BP.out.below hb)
          have BQ := Lib.hid (BQ.out.below hb)
          have BR := Lib.hid (BR.out.below hb)
          have HB := Lib.hid (below_step HB.out hb)
          clear hb
          obtain ⟨-, d0, d1, d2, -⟩ := BQ.out
          go_wp2_with fail
          refine (implPlanValid b' p' A' l' _ _ Hl'.out hcap' _ (by omega) Hs'.out (Hr'.out.below HB.out)).mono ?_
          rw [hv']
          rintro e w2 ⟨rfl, hb⟩
          clear d0 d1 d2
          have BP := Lib.hid (BP.out.below hb)
          have BQ := Lib.hid (BQ.out.below hb)
          have BR := Lib.hid (BR.out.below hb)
          have HB := Lib.hid (below_step HB.out hb)
          clear hb
          obtain ⟨-, c0, c1, c2, -⟩ := BP.out
          obtain ⟨-, d0, d1, d2, -⟩ := BQ.out
          obtain ⟨-, r0, r1, r2, rz⟩ := BR.out
          obtain ⟨s0, s1, s2⟩ := set3 r0 r1 r2 (.int .i64 0) (.int .i64 0) (.slice none 0 0)
          go_wp2
          refine bodyPost_ret (v := .tuple #[.agg #[.int .i64 0, .int .i64 0, .slice none 0 0], .bool false]) (by simp [results, Try.results12, go_sem, s0, s1, s2]) rfl ?_
          rw [Ht.out]
          exact ⟨none, 0, 0, rfl, Own.nil_ _ _ _ _ _, below_set3 HB.out (by omega) _ _ _⟩
      · have hqb : (b != b') = true := by simp [hbb]
        have Ht : Hid (joinR b p l b' p' l' = noPlR) := by show joinR _ _ _ _ _ _ = _; unfold joinR; simp [hbb]
        clear hbb
        go_enter Try.func12, Try.ntmps12
        go_wp2_with fail
        refine (implPlanValid b p A l _ _ Hl.out hcap _ (by omega) Hs.out (Hr.out.below HB.out)).mono ?_
        rw [hv]
        rintro e w1 ⟨rfl, hb⟩
        have BP := Lib.hid (BP.out.below hb)
        have BQ := Lib.hid (BQ.out.below hb)
        have BR := Lib.hid (BR.out.below hb)
        have HB := Lib.hid (below_step HB.out hb)
        clear hb
        obtain ⟨-, d0, d1, d2, -⟩ := BQ.out
        go_wp2_with fail
        refine (implPlanValid b' p' A' l' _ _ Hl'.out hcap' _ (by omega) Hs'.out (Hr'.out.below HB.out)).mono ?_
        rw [hv']
        rintro e w2 ⟨rfl, hb⟩
        clear d0 d1 d2
        have BP := Lib.hid (BP.out.below hb)
        have BQ := Lib.hid (BQ.out.below hb)
        have BR := Lib.hid (BR.out.below hb)
        have HB := Lib.hid (below_step HB.out hb)
        clear hb
        obtain ⟨-, c0, c1, c2, -⟩ := BP.out
        obtain ⟨-, d0, d1, d2, -⟩ := BQ.out
        obtain ⟨-, r0, r1, r2, rz⟩ := BR.out
        obtain ⟨s0, s1, s2⟩ := set3 r0 r1 r2 (.int .i64 0) (.int .i64 0) (.slice none 0 0)
        go_wp2
        refine bodyPost_ret (v := .tuple #[.agg #[.int .i64 0, .int .i64 0, .slice none 0 0], .bool false]) (by simp [results, Try.results12, go_sem, s0, s1, s2]) rfl ?_
        rw [Ht.out]
        exact ⟨none, 0, 0, rfl, Own.nil_ _ _ _ _ _, below_set3 HB.out (by omega) _ _ _⟩
end Go.Proofs.Ytnfggnpemnebcaa
