/-
  The draw of the law on bins.
-/
import Derived.Test.YtbfmohkjnjmmoaaDp3
namespace Go.Proofs.Ytbfmohkjnjmmoaa
open Go.RowKit

set_option maxHeartbeats 4000000 in
set_option maxRecDepth 100000 in
theorem drawBinC (A : Option Addr) (bs : List UInt8) (n cap : Nat) (hn : n = bs.length) (hc : n ≤ cap) (w : World) (hlen : n ≤ 1048576) (hr : Rd w 1 byEnc A bs) :
    Calls Try.prog 19 #[.slice A n cap] w fun e w' => ∃ b p A' n' c' l q, ∃ s : Str, e = .returned (.tuple #[.agg #[.int .i64 b, .int .i64 p, .slice A' n' c'], .string s, .int .i64 q]) ∧ s.size ≤ 1001 ∧ Hid (PlanOut w w' A' n' c' l) := by
  have Hn := Lib.hid hn
  have Hr := Lib.hid hr
  clear hn hr
  have H : Hid (Pool w (w.alloc (Obj.cells #[.int .i64 0, .int .i64 0, .slice none 0 0] 25)) [boxP w.heap.size (.int .i64 0) (.int .i64 0) (.slice none 0 0)]) := (Pool.nil_ w).addBox rfl _ _ _ _
  go_enter Try.func19, Try.ntmps19
  go_wp2_with fail
  refine (openQ A bs n cap Hn.out hc _ hlen Hr.out H.out).mono ?_
  rintro e w1 ⟨g, rfl, H⟩
  go_wp2_with fail
  refine (drawRankC A bs n cap Hn.out hc _ hlen (Hr.out.below H.out.below)).mono ?_
  rintro e w2 ⟨b, p, A1, n1, c1, l1, s, rfl, hs, HO⟩
  have hn1 := HO.out.1
  have Hs := Lib.hid HO.out.2.1
  have H : Hid (Pool w (w2.alloc (Obj.cells #[.int .i64 b, .int .i64 p, .slice A1 n1 c1] 25)) (rdP w g 0 :: boxP w2.heap.size (.int .i64 b) (.int .i64 p) (.slice A1 n1 c1) :: ownP 9 1 strEnc (.slice A1 n1 c1) l1 :: [boxP w.heap.size (.int .i64 0) (.int .i64 0) (.slice none 0 0)])) :=
    ((H.out.join HO.out.2.2).addBox rfl (.int .i64 b) (.int .i64 p) (.slice A1 n1 c1) 25).perm (by
      refine List.Perm.trans ?_ (List.Perm.swap _ _ _)
      exact List.Perm.cons _ (List.Perm.swap _ _ _))
  clear HO
  go_wp2_with fail
  refine (pickP H.out 12 (by omega)).mono ?_
  rintro e w3 ⟨u, rfl, hu0, hu1, H⟩
  obtain ⟨-, c0, c1', c2, cz⟩ := H.out.box 1 rfl
  obtain ⟨-, r0, r1, r2, rz⟩ := H.out.box 3 rfl
  have HW := Lib.hid H.out.drew1
  by_cases h0 : u = 0
  · subst h0
    have k0 := fun o => cell_alloc c0 o
    have k1 := fun o => cell_alloc c1' o
    have k2 := fun o => cell_alloc c2 o
    go_wp2_with fail
    go_region_law ((go_simp; go_at_call 77; refine (numP [-1, 4, 9223372036854775807] 3 _ _ _ HW.out rfl rfl (by decide) (by decide) (by omega)).mono ?_; rintro e w4 ⟨x, rfl, -, H4⟩; obtain ⟨-, d0, d1, d2, dz⟩ := H4.out.box 1 rfl; obtain ⟨-, r0', r1', r2', rz'⟩ := H4.out.box 3 rfl; obtain ⟨s0, s1, s2⟩ := set3 r0' r1' r2' (.int .i64 b) (.int .i64 p) (.slice A1 n1 c1)))
    all_goals
      have H5 := Lib.hid (H4.out.setBox 3 rfl (.int .i64 b) (.int .i64 p) (.slice A1 n1 c1))
      go_wp2
      refine bodyPost_ret (v := .tuple #[.agg #[.int .i64 b, .int .i64 p, .slice A1 n1 c1], .string s, .int .i64 x]) (by simp [results, Try.results19, go_sem, s0, s1, s2]) rfl ?_
      exact ⟨b, p, A1, n1, c1, l1, x, s, rfl, hs, hn1, Hs.out, ((H5.out.drop 3).drop 1).drop 0⟩
  · have hq : (u == 0) = false := by simpa using h0
    go_wp2_with fail
    go_region_law ((go_simp; go_at_call 66; refine (pickP HW.out _ (by omega)).mono ?_; rintro e w4 ⟨x, rfl, -, -, H4⟩; obtain ⟨-, d0, d1, d2, dz⟩ := H4.out.box 1 rfl; obtain ⟨-, r0', r1', r2', rz'⟩ := H4.out.box 3 rfl; obtain ⟨s0, s1, s2⟩ := set3 r0' r1' r2' (.int .i64 b) (.int .i64 p) (.slice A1 n1 c1)))
    all_goals
      have H5 := Lib.hid (H4.out.setBox 3 rfl (.int .i64 b) (.int .i64 p) (.slice A1 n1 c1))
      go_wp2
      refine bodyPost_ret (v := .tuple #[.agg #[.int .i64 b, .int .i64 p, .slice A1 n1 c1], .string s, .int .i64 x]) (by simp [results, Try.results19, go_sem, s0, s1, s2]) rfl ?_
      exact ⟨b, p, A1, n1, c1, l1, x, s, rfl, hs, hn1, Hs.out, ((H5.out.drop 3).drop 1).drop 0⟩
end Go.Proofs.Ytbfmohkjnjmmoaa
