/-
  The law on letters exchanged before the passes.
-/
import Derived.Test.YtfilggdiljpakaaEq
import Derived.Test.YtfilggdiljpakaaSb
import Derived.Test.YtfilggdiljpakaaDp7
import Derived.Test.YtfilggdiljpakaaPlD
namespace Go.Proofs.Ytfilggdiljpakaa
open Go.RowKit

theorem Pool.swapLt {w0 w : World} {ps : List Piece} {g n cap i : Nat} {e : TypeId} {x : List Lt} {u v : Lt} (H : Pool w0 w (ownP e 2 ltEnc (.slice (some ⟨g, 0, none⟩) n cap) x :: ps)) (hn : n = x.length) (hi : i + 1 < n) :
    Pool w0 ((((w.setCell ⟨g, (i + 1) * 2, none⟩ (.int .i64 u.1)).setCell ⟨g, (i + 1) * 2 + 1, none⟩ (.string u.2)).setCell ⟨g, i * 2, none⟩ (.int .i64 v.1)).setCell ⟨g, i * 2 + 1, none⟩ (.string v.2)) (ownP e 2 ltEnc (.slice (some ⟨g, 0, none⟩) n cap) (swapAt x i u v) :: ps) := by
  have hB := (H.own 0 rfl).set2 ltEnc_len hn (i := i + 1) (by omega) (y := u) (u := .int .i64 u.1) (v := .string u.2) rfl
  have hC := hB.set2 ltEnc_len (by rw [List.length_set]; exact hn) (i := i) (by omega) (y := v) (u := .int .i64 v.1) (v := .string v.2) rfl
  have g1 := grown_setCell (World.grownBy.refl w (some g)) (p := ⟨g, (i + 1) * 2, none⟩) (.inl rfl) (Value.int .i64 u.1)
  have g2 := grown_setCell g1 (p := ⟨g, (i + 1) * 2 + 1, none⟩) (.inl rfl) (Value.string u.2)
  have g3 := grown_setCell g2 (p := ⟨g, i * 2, none⟩) (.inl rfl) (Value.int .i64 v.1)
  have g4 := grown_setCell g3 (p := ⟨g, i * 2 + 1, none⟩) (.inl rfl) (Value.string v.2)
  exact H.turnOwn 0 rfl hC g4

set_option maxHeartbeats 8000000 in
set_option maxRecDepth 100000 in
theorem walkFnRunAny (A : Option Addr) (bs : List UInt8) (c : Nat) (A' : Option Addr) (bs' : List UInt8) (c' : Nat) (w : World) (h : ByIn w A bs c) (h' : ByIn w A' bs' c') :
    Calls Try.prog 4 #[.slice A bs.length c, .slice A' bs'.length c'] w fun e w' => e = .returned (.bool true) ∧ Below w.heap.size w w' := by
  obtain ⟨hlc, hcm, hr⟩ := h
  obtain ⟨-, hcm', -⟩ := h'
  have Hr := Lib.hid hr
  unfold maxLen at hcm hcm'
  clear hr
  by_cases hlen : ¬ (bs.length : Int) ≤ 1048576
  · go_enter Try.func4, Try.ntmps4
    go_wp2
    go_ret
    exact ⟨rfl, Below.refl _ _⟩
  have hlen := Decidable.not_not.1 hlen
  by_cases hlen' : ¬ (bs'.length : Int) ≤ 1048576
  · go_enter Try.func4, Try.ntmps4
    go_wp2
    go_ret
    exact ⟨rfl, Below.refl _ _⟩
  have hlen' := Decidable.not_not.1 hlen'
  obtain ⟨M, hM⟩ : ∃ M, bs'.length = M := ⟨_, rfl⟩
  rw [hM] at hlen' ⊢
  clear hM
  go_enter Try.func4, Try.ntmps4
  go_wp2_with fail
  refine (drawRunC A bs _ _ rfl hlc _ (by omega) Hr.out).mono ?_
  rintro e w1 ⟨b, p, A1, n1, c1, l, A2, n2, c2, m, rfl, HO⟩
  have hn := HO.out.1
  have hk := HO.out.2.2.1
  have Hz : Hid (∀ x ∈ l, x.size ≤ 1048576) := fun x hx => by have := HO.out.2.1 x hx; omega
  have Hy : Hid (∀ x ∈ m, x.2.size ≤ 1048576) := fun x hx => by have := HO.out.2.2.2.1 x hx; omega
  have H : Hid (Pool w (w1.alloc (Obj.cells #[.int .i64 b, .int .i64 p, .slice A1 n1 c1] 35)) [boxP w1.heap.size (.int .i64 b) (.int .i64 p) (.slice A1 n1 c1), ownP 9 1 strEnc (.slice A1 n1 c1) l, ownP 41 2 ltEnc (.slice A2 n2 c2) m]) := HO.out.2.2.2.2.addBox rfl _ _ _ _
  clear HO
  have hln := (H.out.own 1 rfl).len
  have hlm := (H.out.own 2 rfl).len
  subst hln hlm
  have Hcl := Lib.hid (H.out.own 1 rfl).cap_le
  have Hcm := Lib.hid (H.out.own 2 rfl).cap_le
  have hrl := runR_len (b := b) (p := p) (l := l) (m := m) (by omega)
  obtain ⟨rf, rk, ok, hr⟩ : ∃ rf rk ok, runR b p l m = ⟨rf, rk, ok⟩ := ⟨_, _, _, rfl⟩
  rw [hr] at hrl
  have hfl : rf.length ≤ 1048576 := hrl.1
  have hkl : rk.length ≤ 1048576 := hrl.2
  have HR := Lib.hid hr
  clear hr hrl
  obtain ⟨-, c0, c1', c2', cz⟩ := H.out.box 0 rfl
  go_wp2_with fail
  refine (implRunPlan b p A1 A2 l m _ _ _ _ rfl rfl Hcl.out Hcm.out _ (by omega) (by omega) Hz.out Hy.out ((H.out.own 1 rfl).rd strEnc_len) ((H.out.own 2 rfl).rd ltEnc_len)).mono ?_
  rw [HR.out]
  intro e w2 hret
  obtain ⟨A3, n3, c3, A4, n4, c4, rfl, ho, ho', hd, hb⟩ := hret.open
  have H := Lib.hid (H.out.addOwn2 hb ho ho' hd)
  have e3 := ho.len
  have e4 := ho'.len
  subst e3 e4
  clear ho ho' hd hb c0 c1' c2' cz
  obtain ⟨-, c0, c1', c2', cz⟩ := H.out.box 2 rfl
  go_wp2_with fail
  refine (specRunPlan b p A1 A2 l m _ _ _ _ rfl rfl _ (by omega) (by omega) Hz.out Hy.out ((H.out.own 3 rfl).rd strEnc_len) ((H.out.own 4 rfl).rd ltEnc_len)).mono ?_
  rw [HR.out]
  intro e w3 hret
  obtain ⟨A5, n5, c5, A6, n6, c6, rfl, ho, ho', hd, hb⟩ := hret.open
  have H := Lib.hid (H.out.addOwn2 hb ho ho' hd)
  have e3 := ho.len
  have e4 := ho'.len
  subst e3 e4
  clear ho ho' hd hb c0 c1' c2' cz
  go_wp2_with fail
  refine (soBatchSame A3 A5 rf _ c3 c5 rfl _ (by omega) ((H.out.own 2 rfl).rd ltEnc_len) ((H.out.own 0 rfl).rd ltEnc_len)).mono ?_
  rintro e w4 ⟨rfl, hb⟩
  have H := Lib.hid (H.out.step hb)
  clear hb
  cases ok
  · go_wp2_with fail
    refine (soBatchSame A3 A5 rf _ c3 c5 rfl _ (by omega) ((H.out.own 2 rfl).rd ltEnc_len) ((H.out.own 0 rfl).rd ltEnc_len)).mono ?_
    rintro e w6 ⟨rfl, hb⟩
    have H := Lib.hid (H.out.step hb)
    clear hb
    go_wp2
    go_ret
    exact ⟨rfl, H.out.below⟩
  · obtain ⟨hp, hm⟩ := run_true HR.out
    have hrr := HR.out
    rw [run_round hp hm] at hrr
    injection hrr with e1 e2 e3
    have Hrf := Lib.hid e1
    have Hp := Lib.hid hp
    have Hm := Lib.hid hm
    have hm60 := ((batch_iff m).1 hm).1
    have hm14 : m.length ≤ 14 := by omega
    have Hnil := Lib.hid (nil_cap (H.out.own 6 rfl))
    clear e1 e2 hp hm hm60 hk
    try clear e3
    try clear hrr
    have H : Hid (Pool w w4 [ownP 41 2 ltEnc (.slice A3 rf.length c3) rf, ownP 41 2 ltEnc (.slice A4 rk.length c4) rk, boxP w1.heap.size (.int .i64 b) (.int .i64 p) (.slice A1 l.length c1), ownP 9 1 strEnc (.slice A1 l.length c1) l, ownP 41 2 ltEnc (.slice A2 m.length c2) m]) := (H.out.drop 1).drop 0
    have H0 : Hid (Pool w (w4.alloc (Obj.cells #[] 41)) [ownP 41 2 ltEnc (.slice (some ⟨w4.heap.size, 0, none⟩) 0 0) [], ownP 41 2 ltEnc (.slice A3 rf.length c3) rf, ownP 41 2 ltEnc (.slice A4 rk.length c4) rk, boxP w1.heap.size (.int .i64 b) (.int .i64 p) (.slice A1 l.length c1), ownP 9 1 strEnc (.slice A1 l.length c1) l, ownP 41 2 ltEnc (.slice A2 m.length c2) m]) := H.out.addOwn ((Below.refl _ _).alloc (Nat.le_refl _) _) (Own.lit0 w4 41 2 ltEnc)
    have Hrm := Lib.hid ((H0.out.own 5 rfl).rd ltEnc_len)
    clear H
    go_wp2_with (first
      | (at_builtin; refine wpList_appendAt (.tmp 65) (.tmp 66) 23 41 lt_info Try.underlying23 rfl (by decide) rfl rfl rfl rfl (H0.out.own 0 rfl).len (H0.out.own 0 rfl) rfl Hnil.out ltEnc_len Hrm.out (fun y _ => ltEnc_one y) (by omega) (by omega) (Nat.zero_le _) ?_; intro A7 c7 w7 ho7 hg7 hat7; rw [Nat.zero_add] at ho7 hat7 ⊢; rw [List.nil_append] at ho7; have H7 := Lib.hid (H0.out.append 0 rfl ho7 hg7 hat7); clear ho7 hg7 hat7)
      | fail)
    go_loopw [14] (fun t wr => ∃ (i : Nat) (x : List Lt), x.length = m.length ∧ t = .int .i64 ((i : Int) + 1) ∧ i ≤ m.length ∧ Hid (Stab m x) ∧ Hid (Pool w wr [ownP 41 2 ltEnc (.slice A7 m.length c7) x, ownP 41 2 ltEnc (.slice A3 rf.length c3) rf, ownP 41 2 ltEnc (.slice A4 rk.length c4) rk, boxP w1.heap.size (.int .i64 b) (.int .i64 p) (.slice A1 l.length c1), ownP 9 1 strEnc (.slice A1 l.length c1) l, ownP 41 2 ltEnc (.slice A2 m.length c2) m])) (fun t _ => m.length + 1 - (intOf t).toNat)
    case atStart => exact ⟨0, m, rfl, rfl, Nat.zero_le _, Stab.refl m, H7.out⟩
    case round =>
      clear H7 H0 Hrm
      obtain ⟨i, x, hxl, rfl, hi, HS, H⟩ := hrel
      by_cases hlt : (i : Int) + 1 < (m.length : Int)
      · obtain ⟨u, hu⟩ : ∃ u, x[i]? = some u := ⟨_, List.getElem?_eq_getElem (by omega)⟩
        obtain ⟨v, hv⟩ : ∃ v, x[i + 1]? = some v := ⟨_, List.getElem?_eq_getElem (by omega)⟩
        obtain ⟨ad, rfl, hab, c0, c1'⟩ := ((H.out.own 0 rfl).rd ltEnc_len).two hu rfl
        obtain ⟨ad', e', -, d0, d1⟩ := ((H.out.own 0 rfl).rd ltEnc_len).two hv rfl
        injection e' with e2
        subst e2
        obtain ⟨g7, hg7, hg1, hg2⟩ := (H.out.own 0 rfl).head (by omega)
        injection hg7 with hg7
        have Hg7 := Lib.hid hg7
        clear hg7
        have hi1 : ((i : Int) + 1).toNat = i + 1 := by omega
        have hiI : (i : Int) < (m.length : Int) := by omega
        by_cases he : v.2 = u.2
        · have hq := str_t he
          clear hu hv
          go_wp2_with fail
          go_quiet (fail)
          go_wp2
          go_roundw
          case rel => exact ⟨i + 1, x, hxl, by go_num, by omega, HS.out, H.out.drew _⟩
          case measure => simp [intOf]; omega
        · have hq := str_f he
          by_cases hpar : ((M : Int) + ((i : Int) + 1)) % 2 = 0
          · have hq2 : (((M : Int) + ((i : Int) + 1)) % 2 == 0) = true := by simpa using hpar
            have Hu := Lib.hid hu
            have Hv := Lib.hid hv
            have HS' : Hid (Stab m (swapAt x i u v)) := HS.out.trans (stab_swap hu hv (fun e => he e.symm))
            have hl' : (swapAt x i u v).length = m.length := HS'.out.len
            clear hu hv hpar
            go_wp2_with fail
            go_quiet (fail)
            obtain rfl := Hg7.out
            have H3 := Lib.hid (H.out.drew nq)
            clear H c0 c1' d0 d1 hab hq hq2
            generalize wr.drewN nq = wq at *
            have hl2 := (H3.out.own 0 rfl).len
            have hgz := ((H3.out.own 0 rfl).lt g7 rfl).2
            have hgn : g7 ≠ wq.heap.size := by omega
            have hgn' : wq.heap.size ≠ g7 := by omega
            obtain ⟨c0, e0⟩ := (H3.out.own 0 rfl).cell2 ltEnc_len hl2 Hu.out (j := 0) (by omega)
            obtain ⟨c1', e1⟩ := (H3.out.own 0 rfl).cell2 ltEnc_len hl2 Hu.out (j := 1) (by omega)
            obtain ⟨d0, f0⟩ := (H3.out.own 0 rfl).cell2 ltEnc_len hl2 Hv.out (j := 0) (by omega)
            obtain ⟨d1, f1⟩ := (H3.out.own 0 rfl).cell2 ltEnc_len hl2 Hv.out (j := 1) (by omega)
            rw [show (ltEnc u)[0]? = some (.int .i64 u.1) from rfl, Nat.add_zero] at c0
            rw [show (ltEnc u)[1]? = some (.string u.2) from rfl] at c1'
            rw [show (ltEnc v)[0]? = some (.int .i64 v.1) from rfl, Nat.add_zero] at d0
            rw [show (ltEnc v)[1]? = some (.string v.2) from rfl] at d1
            rw [Nat.add_zero] at e0 f0
            have H4 := Lib.hid ((H3.out.swapLt (i := i) (u := u) (v := v) hl2 (by omega)).alloc (Obj.cells #[.int .i64 v.1, .string v.2] 41))
            have hi0 : (0 : Int) ≤ (i : Int) + 1 := by omega
            have hi2 : ¬ ((i : Int) + 1 < 0) := by omega
            clear hl2
            go_wp2
            go_roundw
            case rel => exact ⟨i + 1, _, hl', by go_num, by omega, HS'.out, H4.out⟩
            case measure => simp [intOf]; omega
          · have hq2 : (((M : Int) + ((i : Int) + 1)) % 2 == 0) = false := by simpa using hpar
            clear hu hv hpar
            go_wp2_with fail
            go_quiet (fail)
            go_wp2
            go_roundw
            case rel => exact ⟨i + 1, x, hxl, by go_num, by omega, HS.out, H.out.drew _⟩
            case measure => simp [intOf]; omega
      · have Hbx : Hid (batchOk x = true) := stab_batch HS.out Hm.out
        have Hrx : Hid ((runR b p l x).f = rf) := by
          show _ = _
          rw [run_round Hp.out Hbx.out]
          show roundOf l x = rf
          rw [stab_round HS.out]; exact Hrf.out
        have Hrs : Hid ((runR b p l (sortLt m)).f = rf) := by
          show _ = _
          rw [run_round Hp.out (stab_batch (sortLt_stab m) Hm.out)]
          show roundOf l (sortLt m) = rf
          rw [stab_round (sortLt_stab m)]; exact Hrf.out
        have Hyx : Hid (∀ y ∈ x, y.2.size ≤ 1048576) := fun y hy => Hy.out y (HS.out.1.mem_iff.1 hy)
        have Hys : Hid (∀ y ∈ sortLt m, y.2.size ≤ 1048576) := fun y hy => Hy.out y ((sortLt_stab m).1.mem_iff.1 hy)
        have Hsl : Hid (m.length = (sortLt m).length) := (sortLt_len m).symm
        have Hxl : Hid (m.length = x.length) := hxl.symm
        have Hc7 := Lib.hid (H.out.own 0 rfl).cap_le
        have HB : Hid (Pool w wr.drew [boxP w1.heap.size (.int .i64 b) (.int .i64 p) (.slice A1 l.length c1)]) := (((((H.out.drop 5).drop 4).drop 2).drop 1).drop 0).drew1
        have HD := Lib.hid H.out.drew1
        obtain ⟨sm, hsm⟩ : ∃ sm, sortLt m = sm := ⟨_, rfl⟩
        rw [hsm] at Hrs Hys Hsl
        have Hsm := Lib.hid hsm
        clear hsm hxl H
        go_wp2_with fail
        go_region_held3 (fun w' => w'.cell? ⟨w1.heap.size, 0, none⟩ = some (.int .i64 b) ∧ w'.cell? ⟨w1.heap.size, 1, none⟩ = some (.int .i64 p) ∧ w'.cell? ⟨w1.heap.size, 2, none⟩ = some (.slice A1 l.length c1))
          (first
            | exact ⟨(HB.out.box 0 rfl).c0, (HB.out.box 0 rfl).c1, (HB.out.box 0 rfl).c2⟩
            | fail)
          (first
            | (go_at_call 12; refine (soSortedC A2 m _ c2 rfl Hcm.out _ (by omega) Hy.out Hm.out ((HD.out.own 5 rfl).rd ltEnc_len)).mono ?_; rw [Hsm.out]; rintro e w5 ⟨g8, rfl, ho, hb⟩; have HD := Lib.hid (HD.out.addOwn hb ho); have HB := Lib.hid (HB.out.step hb); clear hb ho)
            | (go_at_call 16; refine (soRunC b p A1 (some ⟨g8, 0, none⟩) l sm _ _ _ _ rfl Hsl.out Hcl.out (Nat.le_refl _) _ (by omega) (by omega) Hz.out Hys.out ((HD.out.own 5 rfl).rd strEnc_len) ((HD.out.own 0 rfl).rd ltEnc_len)).mono ?_; rw [Hrs.out]; rintro e w6 ⟨A9, n9, c9, rfl, ho, hb⟩; have HD := Lib.hid (HD.out.addOwn hb ho); have HB := Lib.hid (HB.out.step hb); have H9 := Lib.hid ho.len; clear hb ho)
            | fail)
        have h9 := H9.out
        subst h9
        clear H9
        obtain ⟨-, c0, c1', c2', cz⟩ := HB.out.box 0 rfl
        go_wp2_with fail
        refine (soRunC b p A1 A7 l x _ _ _ _ rfl Hxl.out Hcl.out Hc7.out _ (by omega) (by omega) Hz.out Hyx.out ((HD.out.own 6 rfl).rd strEnc_len) ((HD.out.own 2 rfl).rd ltEnc_len)).mono ?_
        rw [Hrx.out]
        rintro e w10 ⟨A10, n10, c10, rfl, ho, hb⟩
        have HD := Lib.hid (HD.out.addOwn hb ho)
        have h10 := ho.len
        subst h10
        clear ho hb c0 c1' c2' cz
        go_wp2_with fail
        refine (soBatchSame A10 A3 rf _ c10 c3 rfl _ (by omega) ((HD.out.own 0 rfl).rd ltEnc_len) ((HD.out.own 4 rfl).rd ltEnc_len)).mono ?_
        rintro e w11 ⟨rfl, hb⟩
        have HD := Lib.hid (HD.out.step hb)
        clear hb
        go_wp2_with fail
        refine (soBatchSame A9 A3 rf _ c9 c3 rfl _ (by omega) ((HD.out.own 1 rfl).rd ltEnc_len) ((HD.out.own 4 rfl).rd ltEnc_len)).mono ?_
        rintro e w12 ⟨rfl, hb⟩
        have HD := Lib.hid (HD.out.step hb)
        clear hb
        go_wp2
        go_ret
        exact ⟨rfl, HD.out.below⟩
end Go.Proofs.Ytfilggdiljpakaa
