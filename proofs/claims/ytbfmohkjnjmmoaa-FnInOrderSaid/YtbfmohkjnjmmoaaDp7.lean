/-
  The draw of the law on letters in order.
-/
import Derived.Test.YtbfmohkjnjmmoaaDq2
import Derived.Test.YtbfmohkjnjmmoaaEq
namespace Go.Proofs.Ytbfmohkjnjmmoaa
open Go.RowKit

theorem LtRet2.open {f k : List Lt} {ok : Bool} {w w' : World} {e : Ending} (h : LtRet2 ⟨f, k, ok⟩ w e w') :
    ∃ A n c A' n' c', e = .returned (.tuple #[.slice A n c, .slice A' n' c', .bool ok]) ∧ Own w' w.heap.size 42 2 ltEnc (.slice A n c) f ∧ Own w' w.heap.size 42 2 ltEnc (.slice A' n' c') k ∧ (∀ g, (Value.slice A n c).ownBlock = some g → (Value.slice A' n' c').ownBlock = some g → False) ∧ Below w.heap.size w w' := h
theorem run_true {b p : Int} {l : List Str} {m f k : List Lt} (h : runR b p l m = ⟨f, k, true⟩) : planOk b p l = true ∧ batchOk m = true := by
  cases h1 : planOk b p l
  · unfold runR at h; rw [h1] at h; cases h
  · cases h2 : batchOk m
    · rw [run_bad h2] at h; cases h
    · exact ⟨rfl, rfl⟩
theorem nil_cap {α : Type} {w : World} {base n c : Nat} {e : TypeId} {size : Nat} {enc : α → List Value} {A : Option Addr} {l : List α} (h : Own w base e size enc (.slice A n c) l) : A = none → c = 0 := by
  rintro rfl
  rcases h.2 with ⟨hv, _⟩ | ⟨g, cap, cur, hv, _⟩
  · injection hv
  · injection hv with e1 e2 e3
    cases e1

set_option maxHeartbeats 4000000 in
set_option maxRecDepth 100000 in
theorem drawOrdC (A : Option Addr) (bs : List UInt8) (n cap : Nat) (hn : n = bs.length) (hc : n ≤ cap) (w : World) (hlen : n ≤ 1048576) (hr : Rd w 1 byEnc A bs) :
    Calls Try.prog 47 #[.slice A n cap] w fun e w' => ∃ b p A1 n1 c1 l A2 n2 c2 m, e = .returned (.tuple #[.agg #[.int .i64 b, .int .i64 p, .slice A1 n1 c1], .slice A2 n2 c2]) ∧ Hid (PBOut w w' A1 n1 c1 l A2 n2 c2 m) := by
  have Hn := Lib.hid hn
  have Hr := Lib.hid hr
  clear hn hr
  have H : Hid (Pool w (w.alloc (Obj.cells #[.int .i64 0, .int .i64 0, .slice none 0 0] 25)) [boxP w.heap.size (.int .i64 0) (.int .i64 0) (.slice none 0 0)]) := (Pool.nil_ w).addBox rfl _ _ _ _
  go_enter Try.func47, Try.ntmps47
  go_wp2_with fail
  refine (openQ A bs n cap Hn.out hc _ hlen Hr.out H.out).mono ?_
  rintro e w1 ⟨g, rfl, H⟩
  go_wp2_with fail
  refine (drawRunC A bs n cap Hn.out hc _ hlen (Hr.out.below H.out.below)).mono ?_
  rintro e w2 ⟨b, p, A1, n1, c1, l, A2, n2, c2, m, rfl, HO⟩
  have hn1 := HO.out.1
  have hn2 := HO.out.2.2.1
  have Hl := Lib.hid HO.out.2.1
  have Hm := Lib.hid HO.out.2.2.2.1
  have H1 : Hid (Pool w (w2.alloc (Obj.cells #[.int .i64 b, .int .i64 p, .slice A1 n1 c1] 25)) [boxP w2.heap.size (.int .i64 b) (.int .i64 p) (.slice A1 n1 c1), ownP 9 1 strEnc (.slice A1 n1 c1) l, ownP 42 2 ltEnc (.slice A2 n2 c2) m, rdP w g 0, boxP w.heap.size (.int .i64 0) (.int .i64 0) (.slice none 0 0)]) := (H.out.join HO.out.2.2.2.2).addBox rfl _ _ _ _
  clear HO H
  have Hz : Hid (∀ x ∈ l, x.size ≤ 1048576) := fun x hx => by have := Hl.out x hx; omega
  have Hy : Hid (∀ x ∈ m, x.2.size ≤ 1048576) := fun x hx => by have := Hm.out x hx; omega
  obtain ⟨rf, rk, ok, hr⟩ : ∃ rf rk ok, runR b p l m = ⟨rf, rk, ok⟩ := ⟨_, _, _, rfl⟩
  have HR := Lib.hid hr
  clear hr
  have Hln := Lib.hid (H1.out.own 1 rfl).len
  have Hmn := Lib.hid (H1.out.own 2 rfl).len
  obtain ⟨-, c0, c1', c2', cz⟩ := H1.out.box 0 rfl
  go_wp2_with fail
  refine (specRunPlan b p A1 A2 l m _ _ _ _ Hln.out Hmn.out _ (by omega) (by omega) Hz.out Hy.out ((H1.out.own 1 rfl).rd strEnc_len) ((H1.out.own 2 rfl).rd ltEnc_len)).mono ?_
  rw [HR.out]
  intro e w3 hret
  obtain ⟨A3, n3, c3, A4, n4, c4, rfl, ho, ho', hd, hb⟩ := hret.open
  have H := Lib.hid (H1.out.addOwn2 hb ho ho' hd)
  have Hfn := Lib.hid ho.len
  clear ho ho' hd hb c0 c1' c2' cz H1
  cases ok
  · obtain ⟨-, c0, c1', c2', cz⟩ := H.out.box 2 rfl
    obtain ⟨-, r0, r1, r2, rz⟩ := H.out.box 6 rfl
    obtain ⟨s0, s1, s2⟩ := set3 r0 r1 r2 (.int .i64 b) (.int .i64 p) (.slice A1 n1 c1)
    have H5 := Lib.hid (H.out.setBox 6 rfl (.int .i64 b) (.int .i64 p) (.slice A1 n1 c1))
    go_wp2
    refine bodyPost_ret (v := .tuple #[.agg #[.int .i64 b, .int .i64 p, .slice A1 n1 c1], .slice A2 n2 c2]) (by simp [results, Try.results47, go_sem, s0, s1, s2]) rfl ?_
    exact ⟨b, p, A1, n1, c1, l, A2, n2, c2, m, rfl, hn1, Hl.out, hn2, Hm.out, ((((H5.out.drop 6).drop 5).drop 2).drop 1).drop 0⟩
  · obtain ⟨hp, hm⟩ := run_true HR.out
    have hrr := HR.out
    rw [run_round hp hm] at hrr
    injection hrr with e1 e2 e3
    have hfl : n3 ≤ 61 := by
      rw [Hfn.out, ← e1]
      have := (round_perm (plan_nodup hp) m).length_eq
      rw [List.length_append] at this
      have := Hmn.out
      omega
    have Hf : Hid (∀ x ∈ rf, x.2.size ≤ 1001) := fun x hx => Hm.out x (by rw [← e1] at hx; exact (mem_round.1 hx).2)
    clear e1 e2 hp hm
    try clear e3
    try clear hrr
    have H : Hid (Pool w w3 (rdP w g 0 :: [ownP 42 2 ltEnc (.slice A3 n3 c3) rf, ownP 42 2 ltEnc (.slice A4 n4 c4) rk, boxP w2.heap.size (.int .i64 b) (.int .i64 p) (.slice A1 n1 c1), ownP 9 1 strEnc (.slice A1 n1 c1) l, ownP 42 2 ltEnc (.slice A2 n2 c2) m, boxP w.heap.size (.int .i64 0) (.int .i64 0) (.slice none 0 0)])) :=
      H.out.perm (List.perm_middle (l₁ := [ownP 42 2 ltEnc (.slice A3 n3 c3) rf, ownP 42 2 ltEnc (.slice A4 n4 c4) rk, boxP w2.heap.size (.int .i64 b) (.int .i64 p) (.slice A1 n1 c1), ownP 9 1 strEnc (.slice A1 n1 c1) l, ownP 42 2 ltEnc (.slice A2 n2 c2) m]) (l₂ := [boxP w.heap.size (.int .i64 0) (.int .i64 0) (.slice none 0 0)]))
    go_wp2_with fail
    refine (pickP H.out 2 (by omega)).mono ?_
    rintro e w4 ⟨u, rfl, hu0, hu1, H⟩
    obtain ⟨-, c0, c1', c2', cz⟩ := H.out.box 3 rfl
    obtain ⟨-, r0, r1, r2, rz⟩ := H.out.box 6 rfl
    obtain ⟨s0, s1, s2⟩ := set3 r0 r1 r2 (.int .i64 b) (.int .i64 p) (.slice A1 n1 c1)
    have H5 := Lib.hid (H.out.setBox 6 rfl (.int .i64 b) (.int .i64 p) (.slice A1 n1 c1))
    by_cases h0 : u = 0
    · subst h0
      go_wp2
      refine bodyPost_ret (v := .tuple #[.agg #[.int .i64 b, .int .i64 p, .slice A1 n1 c1], .slice A3 n3 c3]) (by simp [results, Try.results47, go_sem, s0, s1, s2]) rfl ?_
      exact ⟨b, p, A1, n1, c1, l, A3, n3, c3, rf, rfl, hn1, Hl.out, hfl, Hf.out, (((((H5.out.drop 6).drop 5).drop 3).drop 2).drop 0).swap⟩
    · have hq : (u == 0) = false := by simpa using h0
      go_wp2
      refine bodyPost_ret (v := .tuple #[.agg #[.int .i64 b, .int .i64 p, .slice A1 n1 c1], .slice A2 n2 c2]) (by simp [results, Try.results47, go_sem, s0, s1, s2]) rfl ?_
      exact ⟨b, p, A1, n1, c1, l, A2, n2, c2, m, rfl, hn1, Hl.out, hn2, Hm.out, ((((H5.out.drop 6).drop 3).drop 2).drop 1).drop 0⟩
end Go.Proofs.Ytbfmohkjnjmmoaa
