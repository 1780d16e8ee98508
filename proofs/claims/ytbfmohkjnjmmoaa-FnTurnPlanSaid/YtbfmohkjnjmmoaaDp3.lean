/-
  The draws of laws on one plan: DrawPlanValid, DrawTurnPlan, DrawPlanRank, DrawPlanBin.
-/
import Derived.Test.YtbfmohkjnjmmoaaDp2
namespace Go.Proofs.Ytbfmohkjnjmmoaa
open Go.RowKit

/-- A list of codes that was drawn: what it reads, its bounds. -/
structure PlDr (w : World) (A : Option Addr) (n c : Nat) (l : List Str) : Prop where
  len : n = l.length
  cap : n ≤ c
  few : n ≤ 13
  small : ∀ x ∈ l, x.size ≤ 1048576
  rd : Rd w 1 strEnc A l
  nil : A = none → c = 0
theorem PlDr.of_own {w : World} {base : Nat} {A : Option Addr} {n c : Nat} {l : List Str} (h : Own w base 9 1 strEnc (.slice A n c) l) (hn : n ≤ 13) (hs : ∀ x ∈ l, x.size ≤ 1001) : PlDr w A n c l := by
  refine ⟨h.len, h.cap_le, hn, fun x hx => by have := hs x hx; omega, h.rd strEnc_len, fun e => ?_⟩
  subst e
  rcases h.2 with ⟨hv, _⟩ | ⟨g, cap, cur, hv, _⟩
  · injection hv
  · injection hv with e1 e2 e3
    cases e1
theorem PlDr.below {w w' : World} {A : Option Addr} {n c : Nat} {l : List Str} (h : PlDr w A n c l) (hb : Below w.heap.size w w') : PlDr w' A n c l := ⟨h.len, h.cap, h.few, h.small, h.rd.below hb, h.nil⟩

set_option maxHeartbeats 1000000 in
set_option maxRecDepth 100000 in
/-- The reader is opened, beside other things. -/
theorem openQ (A : Option Addr) (bs : List UInt8) (n cap : Nat) (hn : n = bs.length) (hc : n ≤ cap) (w : World) (hlen : n ≤ 1048576) {w0 : World} {ps : List Piece} (hr : Rd w0 1 byEnc A bs) (H : Pool w0 w ps) :
    Calls Try.prog 64 #[.slice A n cap] w fun e w' => ∃ g, e = .returned (.pointer (some ⟨g, 0, none⟩)) ∧ Hid (Pool w0 w' (rdP w0 g 0 :: ps)) := by
  have hadd : ∀ (m : Nat) (bs' : List UInt8), m = bs'.length → m ≤ 2000 → Rd w0 1 byEnc A bs' → Pool w0 (w.alloc (.cells #[.slice A m cap, .int .i64 0] 124)) (rdP w0 w.heap.size 0 :: ps) := fun m bs' h1 h2 h3 =>
    H.add ((Below.refl _ _).alloc (Nat.le_refl _) _) (rdP w0 w.heap.size 0) ⟨0, A, m, cap, bs', Nat.le_refl _, by show (w.heap.push _)[w.heap.size]? = _; simp, h1, h2, h3⟩ (fun k hk => by
      have hk : k ∈ [w.heap.size] := hk
      have := List.mem_singleton.1 hk
      subst this
      exact ⟨Nat.le_refl _, by simp⟩)
  by_cases h2 : n ≤ 2000
  · have HR := Lib.hid (hadd n bs hn h2 hr)
    have Hn := Lib.hid hn
    clear hn hr hadd
    go_enter Try.func64, Try.ntmps64
    go_wp2
    go_ret
    exact ⟨_, rfl, HR.out⟩
  · have HR := Lib.hid (hadd 2000 (bs.take 2000) (by rw [List.length_take]; omega) (Nat.le_refl _) (hr.take 2000))
    have Hn := Lib.hid hn
    clear hn hr hadd
    go_enter Try.func64, Try.ntmps64
    go_wp2
    go_ret
    exact ⟨_, rfl, HR.out⟩

/-- A drawn plan, its order in memory of its own. -/
def PlanOut (w w' : World) (A : Option Addr) (n c : Nat) (l : List Str) : Prop := n ≤ 13 ∧ (∀ x ∈ l, x.size ≤ 1001) ∧ Pool w w' [ownP 9 1 strEnc (.slice A n c) l]
theorem PlanOut.dr {w w' : World} {A : Option Addr} {n c : Nat} {l : List Str} (h : PlanOut w w' A n c l) : PlDr w' A n c l := PlDr.of_own (h.2.2.own 0 rfl) h.1 h.2.1
theorem PlanOut.below {w w' : World} {A : Option Addr} {n c : Nat} {l : List Str} (h : PlanOut w w' A n c l) : Below w.heap.size w w' := h.2.2.below

set_option maxHeartbeats 1000000 in
set_option maxRecDepth 100000 in
theorem drawValidC (A : Option Addr) (bs : List UInt8) (n cap : Nat) (hn : n = bs.length) (hc : n ≤ cap) (w : World) (hlen : n ≤ 1048576) (hr : Rd w 1 byEnc A bs) :
    Calls Try.prog 85 #[.slice A n cap] w fun e w' => ∃ b p A' n' c' l, e = .returned (.agg #[.int .i64 b, .int .i64 p, .slice A' n' c']) ∧ Hid (PlanOut w w' A' n' c' l) := by
  have Hn := Lib.hid hn
  have Hr := Lib.hid hr
  clear hn hr
  have H : Hid (Pool w (w.alloc (Obj.cells #[.int .i64 0, .int .i64 0, .slice none 0 0] 25)) [boxP w.heap.size (.int .i64 0) (.int .i64 0) (.slice none 0 0)]) := (Pool.nil_ w).addBox rfl _ _ _ _
  go_enter Try.func85, Try.ntmps85
  go_wp2_with fail
  refine (openQ A bs n cap Hn.out hc _ hlen Hr.out H.out).mono ?_
  rintro e w1 ⟨g, rfl, H⟩
  go_wp2_with fail
  refine (somePlanP H.out (by omega)).mono ?_
  rintro e w2 ⟨b, p, A1, n1, c1, l1, rfl, hb1, hb2, hp1, hp2, hn1, hn2, Hs, H⟩
  go_wp2_with fail
  refine (badPlanP b p A1 n1 c1 l1 H.out (by omega) hn1 hn2 Hs.out).mono ?_
  rintro e w3 ⟨b', p', A2, n2, c2, l2, rfl, hn3, Hs2, H⟩
  obtain ⟨-, r0, r1, r2, rz⟩ := H.out.box 2 rfl
  obtain ⟨s0, s1, s2⟩ := set3 r0 r1 r2 (.int .i64 b') (.int .i64 p') (.slice A2 n2 c2)
  have H5 := Lib.hid (H.out.setBox 2 rfl (.int .i64 b') (.int .i64 p') (.slice A2 n2 c2))
  go_wp2
  refine bodyPost_ret (v := .agg #[.int .i64 b', .int .i64 p', .slice A2 n2 c2]) (by simp [results, Try.results85, go_sem, s0, s1, s2]) rfl ?_
  exact ⟨b', p', A2, n2, c2, l2, rfl, hn3, Hs2.out, (H5.out.drop 2).drop 0⟩

set_option maxHeartbeats 1000000 in
set_option maxRecDepth 100000 in
theorem drawTurnC (A : Option Addr) (bs : List UInt8) (n cap : Nat) (hn : n = bs.length) (hc : n ≤ cap) (w : World) (hlen : n ≤ 1048576) (hr : Rd w 1 byEnc A bs) :
    Calls Try.prog 29 #[.slice A n cap] w fun e w' => ∃ b p A' n' c' l, e = .returned (.agg #[.int .i64 b, .int .i64 p, .slice A' n' c']) ∧ Hid (PlanOut w w' A' n' c' l) := by
  have Hn := Lib.hid hn
  have Hr := Lib.hid hr
  clear hn hr
  have H : Hid (Pool w (w.alloc (Obj.cells #[.int .i64 0, .int .i64 0, .slice none 0 0] 25)) [boxP w.heap.size (.int .i64 0) (.int .i64 0) (.slice none 0 0)]) := (Pool.nil_ w).addBox rfl _ _ _ _
  go_enter Try.func29, Try.ntmps29
  go_wp2_with fail
  refine (drawValidC A bs n cap Hn.out hc _ hlen (Hr.out.below H.out.below)).mono ?_
  rintro e w1 ⟨b, p, A2, n2, c2, l2, rfl, HO⟩
  have H := Lib.hid (H.out.join HO.out.2.2)
  obtain ⟨-, r0, r1, r2, rz⟩ := H.out.box 1 rfl
  obtain ⟨s0, s1, s2⟩ := set3 r0 r1 r2 (.int .i64 b) (.int .i64 p) (.slice A2 n2 c2)
  have H5 := Lib.hid (H.out.setBox 1 rfl (.int .i64 b) (.int .i64 p) (.slice A2 n2 c2))
  go_wp2
  refine bodyPost_ret (v := .agg #[.int .i64 b, .int .i64 p, .slice A2 n2 c2]) (by simp [results, Try.results29, go_sem, s0, s1, s2]) rfl ?_
  exact ⟨b, p, A2, n2, c2, l2, rfl, HO.out.1, HO.out.2.1, H5.out.drop 1⟩

set_option maxHeartbeats 2000000 in
set_option maxRecDepth 100000 in
theorem drawRankC (A : Option Addr) (bs : List UInt8) (n cap : Nat) (hn : n = bs.length) (hc : n ≤ cap) (w : World) (hlen : n ≤ 1048576) (hr : Rd w 1 byEnc A bs) :
    Calls Try.prog 14 #[.slice A n cap] w fun e w' => ∃ b p A' n' c' l, ∃ s : Str, e = .returned (.tuple #[.agg #[.int .i64 b, .int .i64 p, .slice A' n' c'], .string s]) ∧ s.size ≤ 1001 ∧ Hid (PlanOut w w' A' n' c' l) := by
  have Hn := Lib.hid hn
  have Hr := Lib.hid hr
  clear hn hr
  have H : Hid (Pool w (w.alloc (Obj.cells #[.int .i64 0, .int .i64 0, .slice none 0 0] 25)) [boxP w.heap.size (.int .i64 0) (.int .i64 0) (.slice none 0 0)]) := (Pool.nil_ w).addBox rfl _ _ _ _
  go_enter Try.func14, Try.ntmps14
  go_wp2_with fail
  refine (openQ A bs n cap Hn.out hc _ hlen Hr.out H.out).mono ?_
  rintro e w1 ⟨g, rfl, H⟩
  go_wp2_with fail
  refine (somePlanP H.out (by omega)).mono ?_
  rintro e w2 ⟨b, p, A1, n1, c1, l1, rfl, hb1, hb2, hp1, hp2, hn1, hn2, Hs, H⟩
  have hln := (H.out.own 1 rfl).len
  subst hln
  have H : Hid (Pool w (w2.alloc (Obj.cells #[.int .i64 b, .int .i64 p, .slice A1 l1.length c1] 25)) (rdP w g (0 + 98) :: boxP w2.heap.size (.int .i64 b) (.int .i64 p) (.slice A1 l1.length c1) :: ownP 9 1 strEnc (.slice A1 l1.length c1) l1 :: [boxP w.heap.size (.int .i64 0) (.int .i64 0) (.slice none 0 0)])) := (H.out.addBox rfl _ _ _ _).swap
  obtain ⟨-, c0, c1', c2, cz⟩ := H.out.box 1 rfl
  have HW := Lib.hid H.out.drew1
  have hl0 : 0 < l1.length := by omega
  obtain ⟨ad, rfl, -, -⟩ := ((H.out.own 2 rfl).rd strEnc_len) hl0
  go_upto_region 3 with fail
  go_cut [6] from 11 to 20 (fun t wx => ∃ x : Str, t = .string x ∧ Hid (x.size = 7) ∧ Hid (Pool w wx (rdP w g (0 + 98 + 1) :: boxP w2.heap.size (.int .i64 b) (.int .i64 p) (.slice (some ad) l1.length c1) :: ownP 9 1 strEnc (.slice (some ad) l1.length c1) l1 :: [boxP w.heap.size (.int .i64 0) (.int .i64 0) (.slice none 0 0)])))
  case first =>
    go_region_law ((go_simp; go_at_call 66; refine (pickP HW.out (l1.length : Int) (by omega)).mono ?_; rintro e w3 ⟨v, rfl, hv0, hv1, H3⟩; obtain ⟨i, rfl⟩ := Int.eq_ofNat_of_zero_le hv0; have hi : i < l1.length := (by omega); have hiI : (i : Int) < (l1.length : Int) := (by omega); obtain ⟨x, hx⟩ : ∃ x, l1[i]? = some x := ⟨_, List.getElem?_eq_getElem hi⟩; obtain ⟨ad', e', -, d0⟩ := ((H3.out.own 2 rfl).rd strEnc_len).one hx rfl; injection e' with e'; subst e'; have Hxs := Lib.hid (Hs.out x (List.mem_of_getElem? hx)); clear hx; obtain ⟨-, c0', c1'', c2', cz'⟩ := H3.out.box 1 rfl))
    all_goals
      go_wp2_with fail
      go_meet
      exact ⟨x, rfl, Hxs.out, H3.out⟩
  case rest =>
  obtain ⟨x, rfl, Hxs, H3⟩ := hcut
  clear c0 c1' c2 cz H HW
  go_wp2_with fail
  refine (pickP H3.out 4 (by omega)).mono ?_
  rintro e w4 ⟨u, rfl, hu0, hu1, H⟩
  by_cases h0 : u = 0
  · subst h0
    go_wp2_with fail
    refine (someCodeP H.out (by omega)).mono ?_
    rintro e w5 ⟨s, rfl, hs, H⟩
    go_wp2_with fail
    refine (badP s H.out (by omega) (by omega) (by omega)).mono ?_
    rintro e w6 ⟨t, rfl, ht, H⟩
    obtain ⟨-, c0, c1', c2, cz⟩ := H.out.box 1 rfl
    have H : Hid (Pool w w6 (rdP w g (0 + 98 + 1 + 1 + 8 + 1) :: ownP 9 1 strEnc (.slice (some ad) l1.length c1) l1 :: [boxP w2.heap.size (.int .i64 b) (.int .i64 p) (.slice (some ad) l1.length c1), boxP w.heap.size (.int .i64 0) (.int .i64 0) (.slice none 0 0)])) := H.out.perm (List.Perm.cons _ (List.Perm.swap _ _ _))
    go_wp2_with fail
    refine (badPlanP b p (some ad) l1.length c1 l1 H.out (by omega) hn1 hn2 Hs.out).mono ?_
    rintro e w7 ⟨b', p', A2, n2, c2', l2, rfl, hn3, Hs2, H⟩
    clear c0 c1' c2 cz
    obtain ⟨-, r0, r1, r2, rz⟩ := H.out.box 3 rfl
    obtain ⟨s0, s1, s2⟩ := set3 r0 r1 r2 (.int .i64 b') (.int .i64 p') (.slice A2 n2 c2')
    have H5 := Lib.hid (H.out.setBox 3 rfl (.int .i64 b') (.int .i64 p') (.slice A2 n2 c2'))
    go_wp2
    refine bodyPost_ret (v := .tuple #[.agg #[.int .i64 b', .int .i64 p', .slice A2 n2 c2'], .string t]) (by simp [results, Try.results14, go_sem, s0, s1, s2]) rfl ?_
    exact ⟨b', p', A2, n2, c2', l2, t, rfl, ht, hn3, Hs2.out, ((H5.out.drop 3).drop 2).drop 0⟩
  · have hq : (u == 0) = false := by simpa using h0
    obtain ⟨-, c0, c1', c2, cz⟩ := H.out.box 1 rfl
    have H : Hid (Pool w w4 (rdP w g (0 + 98 + 1 + 1) :: ownP 9 1 strEnc (.slice (some ad) l1.length c1) l1 :: [boxP w2.heap.size (.int .i64 b) (.int .i64 p) (.slice (some ad) l1.length c1), boxP w.heap.size (.int .i64 0) (.int .i64 0) (.slice none 0 0)])) := H.out.perm (List.Perm.cons _ (List.Perm.swap _ _ _))
    go_wp2_with fail
    refine (badPlanP b p (some ad) l1.length c1 l1 H.out (by omega) hn1 hn2 Hs.out).mono ?_
    rintro e w7 ⟨b', p', A2, n2, c2', l2, rfl, hn3, Hs2, H⟩
    clear c0 c1' c2 cz
    obtain ⟨-, r0, r1, r2, rz⟩ := H.out.box 3 rfl
    obtain ⟨s0, s1, s2⟩ := set3 r0 r1 r2 (.int .i64 b') (.int .i64 p') (.slice A2 n2 c2')
    have H5 := Lib.hid (H.out.setBox 3 rfl (.int .i64 b') (.int .i64 p') (.slice A2 n2 c2'))
    go_wp2
    refine bodyPost_ret (v := .tuple #[.agg #[.int .i64 b', .int .i64 p', .slice A2 n2 c2'], .string x]) (by simp [results, Try.results14, go_sem, s0, s1, s2]) rfl ?_
    exact ⟨b', p', A2, n2, c2', l2, x, rfl, by have := Hxs.out; omega, hn3, Hs2.out, ((H5.out.drop 3).drop 2).drop 0⟩
end Go.Proofs.Ytbfmohkjnjmmoaa
