/-
  The law on moved points.
-/
import Derived.Test.YtkhcjgkjfmeidaaMvL
import Derived.Test.YtkhcjgkjfmeidaaMvD
namespace Go.Proofs.Ytkhcjgkjfmeidaa
open Go.RowKit

set_option maxHeartbeats 8000000 in
set_option maxRecDepth 100000 in
theorem walkFnMovePoint (A : Option Addr) (bs : List UInt8) (c : Nat) (w : World) (h : ByIn w A bs c) :
    Calls Try.prog 3 #[.slice A bs.length c] w fun e w' => e = .returned (.bool true) ∧ Below w.heap.size w w' := by
  obtain ⟨hlc, hcm, hr⟩ := h
  have Hr := Lib.hid hr
  unfold maxLen at hcm
  clear hr
  by_cases hlen : ¬ (bs.length : Int) ≤ 1048576
  · go_enter Try.func3, Try.ntmps3
    go_wp2
    go_ret
    exact ⟨rfl, Below.refl _ _⟩
  have hlen := Decidable.not_not.1 hlen
  go_enter Try.func3, Try.ntmps3
  go_wp2_with fail
  refine (drawMoveC A bs _ _ rfl hlc _ (by omega) Hr.out).mono ?_
  rintro e w1 ⟨b, p, A1, n, c1, l, f, t, rfl, HO⟩
  have hn := HO.out.1
  have HD := Lib.hid HO.out.dr
  have hln := HD.out.len
  subst hln
  have Hz := Lib.hid HD.out.small
  have hcap := HD.out.cap
  have Hcap := Lib.hid hcap
  have H : Hid (Pool w (w1.alloc (Obj.cells #[.int .i64 b, .int .i64 p, .slice A1 l.length c1] 25)) [boxP w1.heap.size (.int .i64 b) (.int .i64 p) (.slice A1 l.length c1), ownP 9 1 strEnc (.slice A1 l.length c1) l]) := HO.out.2.2.addBox rfl _ _ _ _
  clear HO HD
  have hrl0 : (moveR b p l f t).l.length ≤ 1048576 := moveR_len (by omega)
  obtain ⟨rb, rp, rl, ok, hr⟩ : ∃ rb rp rl ok, moveR b p l f t = ⟨rb, rp, rl, ok⟩ := ⟨_, _, _, _, rfl⟩
  rw [hr] at hrl0
  have hrl : rl.length ≤ 1048576 := hrl0
  clear hrl0
  have HR := Lib.hid hr
  clear hr
  obtain ⟨-, c0, c1', c2, cz⟩ := H.out.box 0 rfl
  go_wp2_with fail
  refine (implMovePoint b p A1 l _ _ rfl Hcap.out f t _ (by omega) Hz.out ((H.out.own 1 rfl).rd strEnc_len)).mono ?_
  rw [HR.out]
  intro e w2 hret
  obtain ⟨A2, n2, c2', rfl, ho, hb⟩ := hret.open
  have H := Lib.hid (H.out.addOwn hb ho)
  have hl2 := (H.out.own 0 rfl).len
  subst hl2
  clear hret ho hb c0 c1' c2 cz
  have H : Hid (Pool w (w2.alloc (Obj.cells #[.int .i64 rb, .int .i64 rp, .slice A2 rl.length c2'] 25)) [boxP w2.heap.size (.int .i64 rb) (.int .i64 rp) (.slice A2 rl.length c2'), ownP 9 1 strEnc (.slice A2 rl.length c2') rl, boxP w1.heap.size (.int .i64 b) (.int .i64 p) (.slice A1 l.length c1), ownP 9 1 strEnc (.slice A1 l.length c1) l]) := H.out.addBox rfl _ _ _ _
  obtain ⟨-, c0, c1', c2, cz⟩ := H.out.box 2 rfl
  go_wp2_with fail
  refine (specMovePoint b p A1 l _ _ rfl Hcap.out f t _ (by omega) Hz.out ((H.out.own 3 rfl).rd strEnc_len)).mono ?_
  rw [HR.out]
  intro e w3 hret
  obtain ⟨A3, n3, c3', rfl, ho, hb⟩ := hret.open
  have H := Lib.hid (H.out.addOwn hb ho)
  have hl3 := (H.out.own 0 rfl).len
  subst hl3
  clear hret ho hb c0 c1' c2 cz
  have H : Hid (Pool w (w3.alloc (Obj.cells #[.int .i64 rb, .int .i64 rp, .slice A3 rl.length c3'] 25)) [boxP w3.heap.size (.int .i64 rb) (.int .i64 rp) (.slice A3 rl.length c3'), ownP 9 1 strEnc (.slice A3 rl.length c3') rl, boxP w2.heap.size (.int .i64 rb) (.int .i64 rp) (.slice A2 rl.length c2'), ownP 9 1 strEnc (.slice A2 rl.length c2') rl, boxP w1.heap.size (.int .i64 b) (.int .i64 p) (.slice A1 l.length c1), ownP 9 1 strEnc (.slice A1 l.length c1) l]) := H.out.addBox rfl _ _ _ _
  obtain ⟨-, d0, d1, d2, dz⟩ := H.out.box 0 rfl
  obtain ⟨-, c0, c1', c2, cz⟩ := H.out.box 2 rfl
  go_wp2_with fail
  refine (soPlansSame rb rp A2 A3 rl _ c2' c3' rfl _ (by omega) ((H.out.own 3 rfl).rd strEnc_len) ((H.out.own 1 rfl).rd strEnc_len)).mono ?_
  rintro e w4 ⟨rfl, hb⟩
  have H := Lib.hid (H.out.step hb)
  clear hb c0 c1' c2 cz d0 d1 d2 dz
  obtain ⟨-, d0, d1, d2, dz⟩ := H.out.box 0 rfl
  obtain ⟨-, c0, c1', c2, cz⟩ := H.out.box 2 rfl
  cases ok
  · go_wp2_with fail
    refine (soPlansSame rb rp A2 A3 rl _ c2' c3' rfl _ (by omega) ((H.out.own 3 rfl).rd strEnc_len) ((H.out.own 1 rfl).rd strEnc_len)).mono ?_
    rintro e w5 ⟨rfl, hb⟩
    have H := Lib.hid (H.out.step hb)
    clear hb c0 c1' c2 cz d0 d1 d2 dz
    go_wp2
    go_ret
    exact ⟨rfl, H.out.below⟩
  · obtain ⟨hp, rfl, rfl, fn, tn, rfl, rfl, hfn, htn, hrl2⟩ := move_true HR.out
    have Hp := Lib.hid hp
    have Hrl := Lib.hid hrl2
    have Hq : Hid (planOk b p rl = true) := by show _ = _; rw [hrl2]; exact plan_perm (move_perm hfn) hp
    have Hbk : Hid (moveR b p rl tn fn = ⟨b, p, l, true⟩) := by show _ = _; rw [hrl2]; exact move_fine hp hfn htn
    have Hll : Hid (rl.length = l.length) := by show _ = _; rw [hrl2]; exact moveL_len hfn htn
    have Hzr : Hid (∀ x ∈ rl, x.size ≤ 1048576) := fun x hx => by
      rw [hrl2] at hx
      exact Hz.out x ((move_perm hfn).mem_iff.1 hx)
    have Hcq := Lib.hid (H.out.own 3 rfl).cap_le
    clear hp hrl2 d0 d1 d2 dz
    go_wp2_with fail
    refine (implMovePoint b p A2 rl _ _ rfl Hcq.out tn fn _ (by omega) Hzr.out ((H.out.own 3 rfl).rd strEnc_len)).mono ?_
    rw [Hbk.out]
    intro e w5 hret
    obtain ⟨A4, n4, c4', rfl, ho, hb⟩ := hret.open
    have H := Lib.hid ((((H.out.drop 1).drop 0).addOwn hb ho))
    have hl4 := (H.out.own 0 rfl).len
    subst hl4
    clear hret ho hb c0 c1' c2 cz
    have H : Hid (Pool w (w5.alloc (Obj.cells #[.int .i64 b, .int .i64 p, .slice A4 l.length c4'] 25)) [boxP w5.heap.size (.int .i64 b) (.int .i64 p) (.slice A4 l.length c4'), ownP 9 1 strEnc (.slice A4 l.length c4') l, boxP w2.heap.size (.int .i64 b) (.int .i64 p) (.slice A2 rl.length c2'), ownP 9 1 strEnc (.slice A2 rl.length c2') rl, boxP w1.heap.size (.int .i64 b) (.int .i64 p) (.slice A1 l.length c1), ownP 9 1 strEnc (.slice A1 l.length c1) l]) := H.out.addBox rfl _ _ _ _
    go_wp2_with fail
    go_loopw [12] (fun i wr => ∃ j : Nat, j ≤ l.length ∧ i = .int .i64 j ∧ Hid (Pool w wr [boxP w5.heap.size (.int .i64 b) (.int .i64 p) (.slice A4 l.length c4'), ownP 9 1 strEnc (.slice A4 l.length c4') l, boxP w2.heap.size (.int .i64 b) (.int .i64 p) (.slice A2 rl.length c2'), ownP 9 1 strEnc (.slice A2 rl.length c2') rl, boxP w1.heap.size (.int .i64 b) (.int .i64 p) (.slice A1 l.length c1), ownP 9 1 strEnc (.slice A1 l.length c1) l])) (fun i _ => l.length - (intOf i).toNat)
    case atStart => exact ⟨0, Nat.zero_le _, rfl, H.out⟩
    case round =>
      clear H
      obtain ⟨j, hj, rfl, H⟩ := hrel
      obtain ⟨-, c0, c1', c2, cz⟩ := H.out.box 4 rfl
      by_cases hlt : j < l.length
      · obtain ⟨x, hx⟩ : ∃ x, l[j]? = some x := ⟨_, List.getElem?_eq_getElem hlt⟩
        have Hx := Lib.hid hx
        clear hx
        go_wp2_with fail
        go_loopw [13] (fun i wr => ∃ k : Nat, k ≤ j ∧ i = .int .i64 k ∧ Hid (Pool w wr [boxP w5.heap.size (.int .i64 b) (.int .i64 p) (.slice A4 l.length c4'), ownP 9 1 strEnc (.slice A4 l.length c4') l, boxP w2.heap.size (.int .i64 b) (.int .i64 p) (.slice A2 rl.length c2'), ownP 9 1 strEnc (.slice A2 rl.length c2') rl, boxP w1.heap.size (.int .i64 b) (.int .i64 p) (.slice A1 l.length c1), ownP 9 1 strEnc (.slice A1 l.length c1) l])) (fun i _ => j - (intOf i).toNat)
        case atStart => exact ⟨0, Nat.zero_le _, rfl, H.out⟩
        case round =>
          clear H c0 c1' c2 cz
          obtain ⟨k, hk, rfl, H⟩ := hrel
          by_cases hlt2 : k < j
          · obtain ⟨y, hy⟩ : ∃ y, l[k]? = some y := ⟨_, List.getElem?_eq_getElem (by omega)⟩
            have Hy := Lib.hid hy
            clear hy
            obtain ⟨ad, rfl, hab, e0⟩ := ((H.out.own 5 rfl).rd strEnc_len).one Hx.out rfl
            obtain ⟨ad', hade, -, e1⟩ := ((H.out.own 5 rfl).rd strEnc_len).one Hy.out rfl
            injection hade with hade
            subst hade
            obtain ⟨-, c0, c1', c2, cz⟩ := H.out.box 4 rfl
            obtain ⟨-, d0, d1, d2, dz⟩ := H.out.box 2 rfl
            obtain ⟨u, hu⟩ : ∃ u, rankOf b p rl y = u := ⟨_, rfl⟩
            obtain ⟨v, hv⟩ : ∃ v, rankOf b p rl x = v := ⟨_, rfl⟩
            have Huv : Hid (¬ j = fn → ¬ k = fn → u < v) := fun h1 h2 => by
              rw [← hu, ← hv, rank_at Hq.out (show rl[posM fn tn k]? = some y by rw [Hrl.out, posM_get hfn htn h2]; exact Hy.out), rank_at Hq.out (show rl[posM fn tn j]? = some x by rw [Hrl.out, posM_get hfn htn h1]; exact Hx.out)]
              have := posM_lt (f := fn) (t := tn) h2 h1 hlt2
              omega
            have f0 : ∀ b' : BW wr, b'.w.cell? ⟨w2.heap.size, 0, none⟩ = some (.int .i64 b) := fun b' => b'.cell d0
            have f1 : ∀ b' : BW wr, b'.w.cell? ⟨w2.heap.size, 1, none⟩ = some (.int .i64 p) := fun b' => b'.cell d1
            have f2 : ∀ b' : BW wr, b'.w.cell? ⟨w2.heap.size, 2, none⟩ = some (.slice A2 rl.length c2') := fun b' => b'.cell d2
            have f3 : ∀ b' : BW wr, b'.w.cell? ⟨w1.heap.size, 2, none⟩ = some (.slice (some ad) l.length c1) := fun b' => b'.cell c2
            have f4 : ∀ b' : BW wr, b'.w.cell? (ad.add j) = some (.string x) := fun b' => b'.cell e0
            have f5 : ∀ b' : BW wr, b'.w.cell? (ad.add k) = some (.string y) := fun b' => b'.cell e1
            have Hlr := Lib.hid ((H.out.own 3 rfl).rd strEnc_len)
            have KU : Hid (∀ b' : BW wr, Calls Try.prog 10 #[.agg #[.int .i64 b, .int .i64 p, .slice A2 rl.length c2'], .string y] b'.w fun e w' => e = .returned (.int .i64 u) ∧ Below b'.w.heap.size b'.w w') := fun b' => by
              have := implPlanRank b p A2 rl _ _ rfl Hcq.out y b'.w (by omega) Hzr.out (b'.rd Hlr.out)
              rw [hu] at this; exact this
            have KV : Hid (∀ b' : BW wr, Calls Try.prog 10 #[.agg #[.int .i64 b, .int .i64 p, .slice A2 rl.length c2'], .string x] b'.w fun e w' => e = .returned (.int .i64 v) ∧ Below b'.w.heap.size b'.w w') := fun b' => by
              have := implPlanRank b p A2 rl _ _ rfl Hcq.out x b'.w (by omega) Hzr.out (b'.rd Hlr.out)
              rw [hv] at this; exact this
            have hjI : (j : Int) < (l.length : Int) := by omega
            have hkI : (k : Int) < (l.length : Int) := by omega
            have hkj : (k : Int) < (j : Int) := by omega
            clear hu hv
            go_wp2_with fail
            refine wp_region_bw wr (Below.refl _ _) (by kernel_rfl) (by kernel_rfl) ?_
            repeat (go_big_quiet_step ((go_at_call 10; first | with_reducible exact calls_bw (KU.out _) | with_reducible exact calls_bw (KV.out _))))
            refine wpQuiet_nil ?_
            rintro _ ⟨bw, rfl⟩
            have H3 := Lib.hid (H.out.step bw.h)
            clear f0 f1 f2 f3 f4 f5 KU KV c0 c1' c2 cz d0 d1 d2 dz e0 e1 hab Hlr H
            generalize bw.w = w9 at *
            have hfin : Hid (∀ Z : Prop, (((j : Int) != (fn : Int)) = false → Z) → (((j : Int) != (fn : Int)) = true → ((k : Int) != (fn : Int)) = false → Z) → (((j : Int) != (fn : Int)) = true → ((k : Int) != (fn : Int)) = true → decide (u < v) = true → u < v → Z) → Z) := fun Z z1 z2 z3 => by
              by_cases h1 : j = fn
              · exact z1 (by simp [h1])
              · by_cases h2 : k = fn
                · exact z2 (by simp; omega) (by simp [h2])
                · exact z3 (by simp; omega) (by simp; omega) (decide_eq_true (Huv.out h1 h2)) (Huv.out h1 h2)
            refine hfin.out _ (fun q1 => ?_) (fun q1 q2 => ?_) (fun q1 q2 q3 q4 => ?_)
            all_goals
              go_wp2
              go_roundw
              case rel => exact ⟨k + 1, by omega, by go_num, H3.out⟩
              case measure => simp [intOf]; omega
          · have hkj : k = j := by omega
            subst hkj
            have hkk : ¬ ((k : Int) < (k : Int)) := by omega
            go_wp2
            go_roundw
            case rel => exact ⟨k + 1, by omega, by go_num, H.out⟩
            case measure => simp [intOf]; omega
      · have hjl : l.length = j := by omega
        clear c0 c1' c2 cz
        obtain ⟨z, hzx⟩ : ∃ z, l[fn]? = some z := ⟨_, List.getElem?_eq_getElem hfn⟩
        obtain ⟨ad, rfl, hab, e0⟩ := ((H.out.own 5 rfl).rd strEnc_len).one hzx rfl
        have Hrk : Hid (rankOf b p rl z = (tn : Int)) := rank_at Hq.out (by rw [Hrl.out, move_at hfn htn]; exact hzx)
        clear hzx
        obtain ⟨-, a0, a1, a2, az⟩ := H.out.box 0 rfl
        obtain ⟨-, c0, c1', c2, cz⟩ := H.out.box 4 rfl
        obtain ⟨-, d0, d1, d2, dz⟩ := H.out.box 2 rfl
        have g0 : ∀ b' : BW wr, b'.w.cell? ⟨w5.heap.size, 0, none⟩ = some (.int .i64 b) := fun b' => b'.cell a0
        have g1 : ∀ b' : BW wr, b'.w.cell? ⟨w5.heap.size, 1, none⟩ = some (.int .i64 p) := fun b' => b'.cell a1
        have g2 : ∀ b' : BW wr, b'.w.cell? ⟨w5.heap.size, 2, none⟩ = some (.slice A4 l.length c4') := fun b' => b'.cell a2
        have f0 : ∀ b' : BW wr, b'.w.cell? ⟨w2.heap.size, 0, none⟩ = some (.int .i64 b) := fun b' => b'.cell d0
        have f1 : ∀ b' : BW wr, b'.w.cell? ⟨w2.heap.size, 1, none⟩ = some (.int .i64 p) := fun b' => b'.cell d1
        have f2 : ∀ b' : BW wr, b'.w.cell? ⟨w2.heap.size, 2, none⟩ = some (.slice A2 rl.length c2') := fun b' => b'.cell d2
        have h0 : ∀ b' : BW wr, b'.w.cell? ⟨w1.heap.size, 0, none⟩ = some (.int .i64 b) := fun b' => b'.cell c0
        have h1 : ∀ b' : BW wr, b'.w.cell? ⟨w1.heap.size, 1, none⟩ = some (.int .i64 p) := fun b' => b'.cell c1'
        have h2 : ∀ b' : BW wr, b'.w.cell? ⟨w1.heap.size, 2, none⟩ = some (.slice (some ad) l.length c1) := fun b' => b'.cell c2
        have h3 : ∀ b' : BW wr, b'.w.cell? (ad.add fn) = some (.string z) := fun b' => b'.cell e0
        have Hlr := Lib.hid ((H.out.own 3 rfl).rd strEnc_len)
        have Hl4 := Lib.hid ((H.out.own 1 rfl).rd strEnc_len)
        have Hl1 := Lib.hid ((H.out.own 5 rfl).rd strEnc_len)
        have K1 : Hid (∀ b' : BW wr, Calls Try.prog 9 #[.agg #[.int .i64 b, .int .i64 p, .slice A4 l.length c4'], .agg #[.int .i64 b, .int .i64 p, .slice (some ad) l.length c1]] b'.w fun e w' => e = .returned (.bool true) ∧ Below b'.w.heap.size b'.w w') := fun b' =>
          soPlansSame b p A4 (some ad) l _ c4' c1 rfl b'.w (by omega) (b'.rd Hl4.out) (b'.rd Hl1.out)
        have K2 : Hid (∀ b' : BW wr, Calls Try.prog 10 #[.agg #[.int .i64 b, .int .i64 p, .slice A2 rl.length c2'], .string z] b'.w fun e w' => e = .returned (.int .i64 (tn : Int)) ∧ Below b'.w.heap.size b'.w w') := fun b' => by
          have := implPlanRank b p A2 rl _ _ rfl Hcq.out z b'.w (by omega) Hzr.out (b'.rd Hlr.out)
          rw [Hrk.out] at this; exact this
        have K3 : Hid (∀ b' : BW wr, Calls Try.prog 11 #[.agg #[.int .i64 b, .int .i64 p, .slice A2 rl.length c2']] b'.w fun e w' => e = .returned (.bool true) ∧ Below b'.w.heap.size b'.w w') := fun b' => by
          have := implPlanValid b p A2 rl _ _ rfl Hcq.out b'.w (by omega) Hzr.out (b'.rd Hlr.out)
          rw [Hq.out] at this; exact this
        have hfI : (fn : Int) < (l.length : Int) := by omega
        have htt : ((tn : Int) == (tn : Int)) = true := by simp
        have hjj : ¬ ((j : Int) < (l.length : Int)) := by omega
        clear hjl
        go_wp2_with fail
        refine wp_region_bw wr (Below.refl _ _) (by kernel_rfl) (by kernel_rfl) ?_
        repeat (go_big_quiet_step (first
          | (go_at_call 9; with_reducible exact calls_bw (K1.out _))
          | (go_at_call 10; with_reducible exact calls_bw (K2.out _))
          | (go_at_call 11; with_reducible exact calls_bw (K3.out _))))
        refine wpQuiet_nil ?_
        rintro _ ⟨bw, rfl⟩
        have H3 := Lib.hid (H.out.step bw.h)
        clear f0 f1 f2 g0 g1 g2 h0 h1 h2 h3 K1 K2 K3 a0 a1 a2 az c0 c1' c2 cz d0 d1 d2 dz e0 hab Hlr Hl4 Hl1 H
        generalize bw.w = w9 at *
        go_wp2
        go_ret
        exact ⟨rfl, H3.out.below⟩
end Go.Proofs.Ytkhcjgkjfmeidaa
