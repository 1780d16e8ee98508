/-
  The law on all passes.
-/
import Derived.Test.YtbfmohkjnjmmoaaEq
import Derived.Test.YtbfmohkjnjmmoaaDp7
import Derived.Test.YtbfmohkjnjmmoaaPlD
namespace Go.Proofs.Ytbfmohkjnjmmoaa
open Go.RowKit

set_option maxHeartbeats 8000000 in
set_option maxRecDepth 100000 in
theorem walkFnRunPlan (A : Option Addr) (bs : List UInt8) (c : Nat) (w : World) (h : ByIn w A bs c) :
    Calls Try.prog 11 #[.slice A bs.length c] w fun e w' => e = .returned (.bool true) ∧ Below w.heap.size w w' := by
  obtain ⟨hlc, hcm, hr⟩ := h
  have Hr := Lib.hid hr
  unfold maxLen at hcm
  clear hr
  by_cases hlen : ¬ (bs.length : Int) ≤ 1048576
  · go_enter Try.func11, Try.ntmps11
    go_wp2
    go_ret
    exact ⟨rfl, Below.refl _ _⟩
  have hlen := Decidable.not_not.1 hlen
  go_enter Try.func11, Try.ntmps11
  go_wp2_with fail
  refine (drawRunC A bs _ _ rfl hlc _ (by omega) Hr.out).mono ?_
  rintro e w1 ⟨b, p, A1, n1, c1, l, A2, n2, c2, m, rfl, HO⟩
  have hn := HO.out.1
  have hk := HO.out.2.2.1
  have Hz : Hid (∀ x ∈ l, x.size ≤ 1048576) := fun x hx => by have := HO.out.2.1 x hx; omega
  have Hy : Hid (∀ x ∈ m, x.2.size ≤ 1048576) := fun x hx => by have := HO.out.2.2.2.1 x hx; omega
  have H : Hid (Pool w (w1.alloc (Obj.cells #[.int .i64 b, .int .i64 p, .slice A1 n1 c1] 25)) [boxP w1.heap.size (.int .i64 b) (.int .i64 p) (.slice A1 n1 c1), ownP 9 1 strEnc (.slice A1 n1 c1) l, ownP 42 2 ltEnc (.slice A2 n2 c2) m]) := HO.out.2.2.2.2.addBox rfl _ _ _ _
  clear HO
  have hln := (H.out.own 1 rfl).len
  have hlm := (H.out.own 2 rfl).len
  subst hln hlm
  have Hcl := Lib.hid (H.out.own 1 rfl).cap_le
  have Hcm := Lib.hid (H.out.own 2 rfl).cap_le
  have hrl := runR_len (b := b) (p := p) (l := l) (m := m) (by omega)
  obtain ⟨rf, rk, ok, hr⟩ : ∃ rf rk ok, runR b p l m = ⟨rf, rk, ok⟩ := ⟨_, _, _, rfl⟩
  rw [hr] at hrl
  have hfl : rf.length ≤ 1048576 := hrl.1
  have hkl : rk.length ≤ 1048576 := hrl.2
  have HR := Lib.hid hr
  clear hr hrl
  obtain ⟨-, c0, c1', c2', cz⟩ := H.out.box 0 rfl
  go_wp2_with fail
  refine (implRunPlan b p A1 A2 l m _ _ _ _ rfl rfl Hcl.out Hcm.out _ (by omega) (by omega) Hz.out Hy.out ((H.out.own 1 rfl).rd strEnc_len) ((H.out.own 2 rfl).rd ltEnc_len)).mono ?_
  rw [HR.out]
  intro e w2 hret
  obtain ⟨A3, n3, c3, A4, n4, c4, rfl, ho, ho', hd, hb⟩ := hret.open
  have H := Lib.hid (H.out.addOwn2 hb ho ho' hd)
  have e3 := ho.len
  have e4 := ho'.len
  subst e3 e4
  clear ho ho' hd hb c0 c1' c2' cz
  obtain ⟨-, c0, c1', c2', cz⟩ := H.out.box 2 rfl
  go_wp2_with fail
  refine (specRunPlan b p A1 A2 l m _ _ _ _ rfl rfl _ (by omega) (by omega) Hz.out Hy.out ((H.out.own 3 rfl).rd strEnc_len) ((H.out.own 4 rfl).rd ltEnc_len)).mono ?_
  rw [HR.out]
  intro e w3 hret
  obtain ⟨A5, n5, c5, A6, n6, c6, rfl, ho, ho', hd, hb⟩ := hret.open
  have H := Lib.hid (H.out.addOwn2 hb ho ho' hd)
  have e3 := ho.len
  have e4 := ho'.len
  subst e3 e4
  clear ho ho' hd hb c0 c1' c2' cz
  go_wp2_with fail
  refine (soBatchSame A3 A5 rf _ c3 c5 rfl _ (by omega) ((H.out.own 2 rfl).rd ltEnc_len) ((H.out.own 0 rfl).rd ltEnc_len)).mono ?_
  rintro e w4 ⟨rfl, hb⟩
  have H := Lib.hid (H.out.step hb)
  clear hb
  go_wp2_with fail
  refine (soBatchSame A4 A6 rk _ c4 c6 rfl _ (by omega) ((H.out.own 3 rfl).rd ltEnc_len) ((H.out.own 1 rfl).rd ltEnc_len)).mono ?_
  rintro e w5 ⟨rfl, hb⟩
  have H := Lib.hid (H.out.step hb)
  clear hb
  cases ok
  · go_wp2_with fail
    refine (soBatchSame A3 A5 rf _ c3 c5 rfl _ (by omega) ((H.out.own 2 rfl).rd ltEnc_len) ((H.out.own 0 rfl).rd ltEnc_len)).mono ?_
    rintro e w6 ⟨rfl, hb⟩
    have H := Lib.hid (H.out.step hb)
    clear hb
    go_wp2_with fail
    refine (soBatchSame A4 A6 rk _ c4 c6 rfl _ (by omega) ((H.out.own 3 rfl).rd ltEnc_len) ((H.out.own 1 rfl).rd ltEnc_len)).mono ?_
    rintro e w7 ⟨rfl, hb⟩
    have H := Lib.hid (H.out.step hb)
    clear hb
    go_wp2
    go_ret
    exact ⟨rfl, H.out.below⟩
  · obtain ⟨hp, hm⟩ := run_true HR.out
    have hrr := HR.out
    rw [run_round hp hm] at hrr
    injection hrr with e1 e2 e3
    have Hrf := Lib.hid e1
    have Hrk := Lib.hid e2
    have Hp := Lib.hid hp
    have Hm := Lib.hid hm
    have Hnd := Lib.hid (plan_nodup hp)
    clear e1 e2 hp hm
    try clear e3
    try clear hrr
    have H := Lib.hid ((H.out.drop 1).drop 0)
    go_wp2_with fail
    go_loopw [11] (fun t wr => ∃ i : Nat, i ≤ rf.length ∧ t = .int .i64 ((i : Int) + 1) ∧ Hid (Pool w wr [ownP 42 2 ltEnc (.slice A3 rf.length c3) rf, ownP 42 2 ltEnc (.slice A4 rk.length c4) rk, boxP w1.heap.size (.int .i64 b) (.int .i64 p) (.slice A1 l.length c1), ownP 9 1 strEnc (.slice A1 l.length c1) l, ownP 42 2 ltEnc (.slice A2 m.length c2) m])) (fun t _ => rf.length + 1 - (intOf t).toNat)
    case atStart => exact ⟨0, Nat.zero_le _, rfl, H.out⟩
    case round =>
      clear H
      obtain ⟨i, hi, rfl, H⟩ := hrel
      by_cases hlt : (i : Int) + 1 < (rf.length : Int)
      · obtain ⟨x, hx⟩ : ∃ x, rf[i]? = some x := ⟨_, List.getElem?_eq_getElem (by omega)⟩
        obtain ⟨y, hy⟩ : ∃ y, rf[i + 1]? = some y := ⟨_, List.getElem?_eq_getElem (by omega)⟩
        obtain ⟨ad, rfl, hab, c0, c1'⟩ := ((H.out.own 0 rfl).rd ltEnc_len).two hx rfl
        obtain ⟨ad', e', -, d0, d1⟩ := ((H.out.own 0 rfl).rd ltEnc_len).two hy rfl
        injection e' with e'
        subst e'
        have hi1 : ((i : Int) + 1).toNat = i + 1 := by omega
        have hiI : (i : Int) < (rf.length : Int) := by omega
        by_cases he : y.2 = x.2
        · have Hlt : Hid (findOf m x.1 < findOf m y.1) := round_stable Hnd.out Hm.out (by rw [Hrf.out]; exact hx) (by rw [Hrf.out]; exact hy) he.symm
          obtain ⟨u, hu⟩ : ∃ u, findOf m x.1 = u := ⟨_, rfl⟩
          obtain ⟨v, hv⟩ : ∃ v, findOf m y.1 = v := ⟨_, rfl⟩
          rw [hu, hv] at Hlt
          have hvu : decide (v < u) = false := decide_eq_false (by have := Hlt.out; omega)
          have f0 : ∀ b : BW wr, b.w.cell? (ad.add (i * 2)) = some (.int .i64 x.1) := fun b => b.cell c0
          have f1 : ∀ b : BW wr, b.w.cell? ⟨(ad.add (i * 2)).block, (ad.add (i * 2)).off + 1, none⟩ = some (.string x.2) := fun b => b.cell c1'
          have f2 : ∀ b : BW wr, b.w.cell? (ad.add ((i + 1) * 2)) = some (.int .i64 y.1) := fun b => b.cell d0
          have f3 : ∀ b : BW wr, b.w.cell? ⟨(ad.add ((i + 1) * 2)).block, (ad.add ((i + 1) * 2)).off + 1, none⟩ = some (.string y.2) := fun b => b.cell d1
          have Hmr := Lib.hid ((H.out.own 4 rfl).rd ltEnc_len)
          have K1 : Hid (∀ b : BW wr, Calls Try.prog 46 #[.slice A2 m.length c2, .int .i64 x.1] b.w fun e w' => e = .returned (.int .i64 u) ∧ Below b.w.heap.size b.w w') := fun b => by
            have := soPlaceC A2 m _ c2 x.1 rfl Hcm.out b.w (by omega) Hy.out (b.rd Hmr.out)
            rw [hu] at this; exact this
          have K2 : Hid (∀ b : BW wr, Calls Try.prog 46 #[.slice A2 m.length c2, .int .i64 y.1] b.w fun e w' => e = .returned (.int .i64 v) ∧ Below b.w.heap.size b.w w') := fun b => by
            have := soPlaceC A2 m _ c2 y.1 rfl Hcm.out b.w (by omega) Hy.out (b.rd Hmr.out)
            rw [hv] at this; exact this
          have hq := str_t he
          clear hx hy hu hv he
          go_wp2_with fail
          refine wp_region_bw wr (Below.refl _ _) (by kernel_rfl) (by kernel_rfl) ?_
          repeat (go_big_quiet_step ((go_at_call 46; first | with_reducible exact calls_bw (K1.out _) | with_reducible exact calls_bw (K2.out _))))
          refine wpQuiet_nil ?_
          rintro _ ⟨bw, rfl⟩
          have H3 := Lib.hid (H.out.step bw.h)
          clear f0 f1 f2 f3 K1 K2 c0 c1' d0 d1 hq
          generalize bw.w = w7 at *
          go_wp2
          go_roundw
          case rel => exact ⟨i + 1, by omega, by go_num, H3.out⟩
          case measure => simp [intOf]; omega
        · have hq := str_f he
          clear hx hy
          go_wp2_with fail
          go_quiet (fail)
          go_wp2
          go_roundw
          case rel => exact ⟨i + 1, by omega, by go_num, H.out.drew _⟩
          case measure => simp [intOf]; omega
      · have Hn3 := Lib.hid (nil_cap (H.out.own 0 rfl))
        have Hn4 := Lib.hid (nil_cap (H.out.own 1 rfl))
        have Hc3 := Lib.hid (H.out.own 0 rfl).cap_le
        have Hperm : Hid ((rf ++ rk).Perm m) := by show List.Perm _ _; rw [← Hrf.out, ← Hrk.out]; exact round_perm Hnd.out m
        have hsum : rf.length + rk.length = m.length := by have := Hperm.out.length_eq; rw [List.length_append] at this; exact this
        have Hsum := Lib.hid hsum
        have hfm : rf.length ≤ m.length := by omega
        have hkm : rk.length ≤ m.length := by omega
        have Hall : Hid (∀ x ∈ rf ++ rk, x ∈ m) := fun x hx => Hperm.out.mem_iff.1 hx
        have Hyf : Hid (∀ x ∈ rf, x.2.size ≤ 1048576) := fun x hx => Hy.out x (Hall.out x (List.mem_append_left _ hx))
        have Hbf : Hid (batchOk rf = true) := by
          show _ = _
          exact batch_sub (List.sublist_append_left rf rk) (batch_perm Hperm.out.symm Hm.out)
        have Hio : Hid (inOrd b p l rf = true) := by
          show _ = _
          unfold inOrd readyOk
          rw [Hp.out, Hbf.out, ← Hrf.out, round_sorted Hnd.out]; rfl
        have Hrr : Hid ((runR b p l rf).f = rf) := by
          show _ = _
          rw [run_round Hp.out Hbf.out]
          show roundOf l rf = rf
          rw [← Hrf.out]; exact round_round Hnd.out m
        have H0 : Hid (Pool w (wr.alloc (Obj.cells #[] 42)) [ownP 42 2 ltEnc (.slice (some ⟨wr.heap.size, 0, none⟩) 0 0) [], ownP 42 2 ltEnc (.slice A3 rf.length c3) rf, ownP 42 2 ltEnc (.slice A4 rk.length c4) rk, boxP w1.heap.size (.int .i64 b) (.int .i64 p) (.slice A1 l.length c1), ownP 9 1 strEnc (.slice A1 l.length c1) l, ownP 42 2 ltEnc (.slice A2 m.length c2) m]) := H.out.addOwn ((Below.refl _ _).alloc (Nat.le_refl _) _) (Own.lit0 wr 42 2 ltEnc)
        have Hr3 := Lib.hid ((H0.out.own 1 rfl).rd ltEnc_len)
        clear H hsum
        go_wp2_with (first
          | (have _g := G1; at_builtin; refine wpList_appendAt (.tmp 105) (.tmp 106) 40 42 lt_info Try.underlying40 rfl (by decide) rfl rfl rfl rfl (H7.out.own 0 rfl).len (H7.out.own 0 rfl) rfl Hn4.out ltEnc_len Hr4.out (fun y _ => ltEnc_one y) (by omega) (by omega) (Nat.zero_le _) ?_; intro A8 c8 w8 ho8 hg8 hat8; have H8 := Lib.hid (H7.out.append 0 rfl ho8 hg8 hat8); rw [Hsum.out] at H8 ⊢; obtain ⟨-, c0, c1', c2', cz⟩ := H8.out.box 3 rfl; clear ho8 hg8 hat8)
          | (at_builtin; refine wpList_appendAt (.tmp 103) (.tmp 104) 40 42 lt_info Try.underlying40 rfl (by decide) rfl rfl rfl rfl (H0.out.own 0 rfl).len (H0.out.own 0 rfl) rfl Hn3.out ltEnc_len Hr3.out (fun y _ => ltEnc_one y) (by omega) (by omega) (Nat.zero_le _) ?_; intro A7 c7 w7 ho7 hg7 hat7; rw [Nat.zero_add] at ho7 hat7 ⊢; rw [List.nil_append] at ho7; have H7 := Lib.hid (H0.out.append 0 rfl ho7 hg7 hat7); have Hr4 := Lib.hid ((H7.out.own 2 rfl).rd ltEnc_len); have G1 : True := trivial; clear ho7 hg7 hat7)
          | fail)
        refine (implInOrder b p A1 A3 l rf _ _ _ _ rfl rfl Hcl.out Hc3.out _ (by omega) (by omega) Hz.out Hyf.out ((H8.out.own 4 rfl).rd strEnc_len) ((H8.out.own 1 rfl).rd ltEnc_len)).mono ?_
        rw [Hio.out]
        rintro e w9 ⟨rfl, hb⟩
        have H := Lib.hid (H8.out.step hb)
        clear hb c0 c1' c2' cz H0 H7 H8 Hr3 Hr4
        go_wp2_with fail
        refine (soAllC A8 A2 (rf ++ rk) m _ c8 c2 (by rw [List.length_append]; exact Hsum.out.symm) rfl Hcm.out _ (by omega) Hy.out Hm.out Hall.out ((H.out.own 0 rfl).rd ltEnc_len) ((H.out.own 5 rfl).rd ltEnc_len)).mono ?_
        rintro e w10 ⟨rfl, hb⟩
        have H := Lib.hid (H.out.step hb)
        clear hb
        obtain ⟨-, c0, c1', c2', cz⟩ := H.out.box 3 rfl
        go_wp2_with fail
        refine (soRunC b p A1 A3 l rf _ _ _ _ rfl rfl Hcl.out Hc3.out _ (by omega) (by omega) Hz.out Hyf.out ((H.out.own 4 rfl).rd strEnc_len) ((H.out.own 1 rfl).rd ltEnc_len)).mono ?_
        rw [Hrr.out]
        rintro e w11 ⟨A9, n9, c9, rfl, ho, hb⟩
        have H := Lib.hid (H.out.addOwn hb ho)
        have e9 := ho.len
        subst e9
        clear ho hb c0 c1' c2' cz
        go_wp2_with fail
        refine (soBatchSame A9 A3 rf _ c9 c3 rfl _ (by omega) ((H.out.own 0 rfl).rd ltEnc_len) ((H.out.own 2 rfl).rd ltEnc_len)).mono ?_
        rintro e w12 ⟨rfl, hb⟩
        have H := Lib.hid (H.out.step hb)
        clear hb
        go_wp2
        go_ret
        exact ⟨rfl, H.out.below⟩
end Go.Proofs.Ytbfmohkjnjmmoaa
