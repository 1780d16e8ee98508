/-
  The law on letters in order.
-/
import Derived.Test.YtbfmohkjnjmmoaaEq
import Derived.Test.YtbfmohkjnjmmoaaDp7
import Derived.Test.YtbfmohkjnjmmoaaPlD
namespace Go.Proofs.Ytbfmohkjnjmmoaa
open Go.RowKit

theorem ord_ready {b p : Int} {l : List Str} {m rf rk : List Lt} {ok : Bool} (h : runR b p l m = ⟨rf, rk, ok⟩) : inOrd b p l m = (ok && (rk.isEmpty && ltsEq rf m)) := by
  unfold inOrd readyOk
  cases h1 : planOk b p l
  · unfold runR at h; rw [h1] at h
    have h : noLtR = _ := h
    injection h with e1 e2 e3
    rw [← e3]; rfl
  · cases h2 : batchOk m
    · rw [run_bad h2] at h
      injection h with e1 e2 e3
      rw [← e3]; rfl
    · rw [run_round h1 h2] at h
      injection h with e1 e2 e3
      rw [← e1, ← e2, ← e3, ← ord_run (plan_nodup h1) m]; rfl

set_option maxHeartbeats 8000000 in
set_option maxRecDepth 100000 in
theorem walkFnInOrder (A : Option Addr) (bs : List UInt8) (c : Nat) (w : World) (h : ByIn w A bs c) :
    Calls Try.prog 10 #[.slice A bs.length c] w fun e w' => e = .returned (.bool true) ∧ Below w.heap.size w w' := by
  obtain ⟨hlc, hcm, hr⟩ := h
  have Hr := Lib.hid hr
  unfold maxLen at hcm
  clear hr
  by_cases hlen : ¬ (bs.length : Int) ≤ 1048576
  · go_enter Try.func10, Try.ntmps10
    go_wp2
    go_ret
    exact ⟨rfl, Below.refl _ _⟩
  have hlen := Decidable.not_not.1 hlen
  go_enter Try.func10, Try.ntmps10
  go_wp2_with fail
  refine (drawOrdC A bs _ _ rfl hlc _ (by omega) Hr.out).mono ?_
  rintro e w1 ⟨b, p, A1, n1, c1, l, A2, n2, c2, m, rfl, HO⟩
  have hn := HO.out.1
  have hk := HO.out.2.2.1
  have Hz : Hid (∀ x ∈ l, x.size ≤ 1048576) := fun x hx => by have := HO.out.2.1 x hx; omega
  have Hy : Hid (∀ x ∈ m, x.2.size ≤ 1048576) := fun x hx => by have := HO.out.2.2.2.1 x hx; omega
  have H : Hid (Pool w (w1.alloc (Obj.cells #[.int .i64 b, .int .i64 p, .slice A1 n1 c1] 25)) [boxP w1.heap.size (.int .i64 b) (.int .i64 p) (.slice A1 n1 c1), ownP 9 1 strEnc (.slice A1 n1 c1) l, ownP 42 2 ltEnc (.slice A2 n2 c2) m]) := HO.out.2.2.2.2.addBox rfl _ _ _ _
  clear HO
  have hln := (H.out.own 1 rfl).len
  have hlm := (H.out.own 2 rfl).len
  subst hln hlm
  have Hcl := Lib.hid (H.out.own 1 rfl).cap_le
  have Hcm := Lib.hid (H.out.own 2 rfl).cap_le
  have hrl := runR_len (b := b) (p := p) (l := l) (m := m) (by omega)
  obtain ⟨rf, rk, ok, hr⟩ : ∃ rf rk ok, runR b p l m = ⟨rf, rk, ok⟩ := ⟨_, _, _, rfl⟩
  rw [hr] at hrl
  have hfl : rf.length ≤ 1048576 := hrl.1
  have hkl : rk.length ≤ 1048576 := hrl.2
  have HI := Lib.hid (ord_ready hr)
  have HR := Lib.hid hr
  clear hr hrl
  obtain ⟨v, hv⟩ : ∃ v, inOrd b p l m = v := ⟨_, rfl⟩
  have Hv := Lib.hid hv
  rw [hv] at HI
  have hvv : (v != v) = false := by simp
  clear hv
  obtain ⟨-, c0, c1', c2', cz⟩ := H.out.box 0 rfl
  go_wp2_with fail
  refine (implInOrder b p A1 A2 l m _ _ _ _ rfl rfl Hcl.out Hcm.out _ (by omega) (by omega) Hz.out Hy.out ((H.out.own 1 rfl).rd strEnc_len) ((H.out.own 2 rfl).rd ltEnc_len)).mono ?_
  rw [Hv.out]
  rintro e w2 ⟨rfl, hb⟩
  have H := Lib.hid (H.out.step hb)
  clear hb c0 c1' c2' cz
  obtain ⟨-, c0, c1', c2', cz⟩ := H.out.box 0 rfl
  go_wp2_with fail
  refine (specInOrder b p A1 A2 l m _ _ _ _ rfl rfl _ (by omega) (by omega) Hz.out Hy.out ((H.out.own 1 rfl).rd strEnc_len) ((H.out.own 2 rfl).rd ltEnc_len)).mono ?_
  rw [Hv.out]
  rintro e w3 ⟨rfl, hb⟩
  have H := Lib.hid (H.out.step hb)
  clear hb c0 c1' c2' cz
  obtain ⟨-, c0, c1', c2', cz⟩ := H.out.box 0 rfl
  go_wp2_with fail
  refine (implRunPlan b p A1 A2 l m _ _ _ _ rfl rfl Hcl.out Hcm.out _ (by omega) (by omega) Hz.out Hy.out ((H.out.own 1 rfl).rd strEnc_len) ((H.out.own 2 rfl).rd ltEnc_len)).mono ?_
  rw [HR.out]
  intro e w4 hret
  obtain ⟨A3, n3, c3, A4, n4, c4, rfl, ho, ho', hd, hb⟩ := hret.open
  have H := Lib.hid (H.out.addOwn2 hb ho ho' hd)
  have e3 := ho.len
  have e4 := ho'.len
  subst e3 e4
  clear ho ho' hd hb c0 c1' c2' cz
  cases ok
  · have hv2 : v = false := HI.out
    subst hv2
    go_wp2
    go_ret
    exact ⟨rfl, H.out.below⟩
  · by_cases h0 : rk.length = 0
    · have hv2 : v = ltsEq rf m := by
        have := HI.out
        rw [List.eq_nil_of_length_eq_zero h0] at this
        simpa using this
      have hk0 : ((rk.length : Int) == 0) = true := by simp [h0]
      have Hv2 := Lib.hid hv2
      clear hv2 h0
      go_wp2_with fail
      refine (soBatchAny A3 A2 rf m _ _ c3 c2 rfl rfl _ (by omega) (by omega) ((H.out.own 0 rfl).rd ltEnc_len) ((H.out.own 4 rfl).rd ltEnc_len)).mono ?_
      rw [← Hv2.out]
      rintro e w5 ⟨rfl, hb⟩
      have H := Lib.hid (H.out.step hb)
      have hvw : (v == v) = true := by simp
      clear hb
      go_wp2
      go_ret
      exact ⟨rfl, H.out.below⟩
    · have hv2 : v = false := by
        rw [HI.out]
        cases rk with
        | nil => exact absurd rfl h0
        | cons a r => rfl
      subst hv2
      have hk0 : ((rk.length : Int) == 0) = false := by simp; intro e; exact h0 (by simp [e])
      go_wp2
      go_ret
      exact ⟨rfl, H.out.below⟩
end Go.Proofs.Ytbfmohkjnjmmoaa
