/-
  The law on how often letters are handled.
-/
import Derived.Test.YtbfmohkjnjmmoaaEbD
import Derived.Test.YtbfmohkjnjmmoaaDq2
namespace Go.Proofs.Ytbfmohkjnjmmoaa
open Go.RowKit

set_option maxHeartbeats 8000000 in
set_option maxRecDepth 100000 in
theorem walkFnTreat (A : Option Addr) (bs : List UInt8) (c : Nat) (w : World) (h : ByIn w A bs c) :
    Calls Try.prog 8 #[.slice A bs.length c] w fun e w' => e = .returned (.bool true) ∧ Below w.heap.size w w' := by
  obtain ⟨hlc, hcm, hr⟩ := h
  have Hr := Lib.hid hr
  unfold maxLen at hcm
  clear hr
  by_cases hlen : ¬ (bs.length : Int) ≤ 1048576
  · go_enter Try.func8, Try.ntmps8
    go_wp2
    go_ret
    exact ⟨rfl, Below.refl _ _⟩
  have hlen := Decidable.not_not.1 hlen
  go_enter Try.func8, Try.ntmps8
  go_wp2_with fail
  refine (drawTreatC A bs _ _ rfl hlc _ (by omega) Hr.out).mono ?_
  rintro e w1 ⟨b, p, A1, n1, c1, l, A2, n2, c2, m, rfl, HO⟩
  have hn := HO.out.1
  have hk := HO.out.2.2.1
  have Hz : Hid (∀ x ∈ l, x.size ≤ 1048576) := fun x hx => by have := HO.out.2.1 x hx; omega
  have Hy : Hid (∀ x ∈ m, x.2.size ≤ 1048576) := fun x hx => by have := HO.out.2.2.2.1 x hx; omega
  have H : Hid (Pool w (w1.alloc (Obj.cells #[.int .i64 b, .int .i64 p, .slice A1 n1 c1] 25)) [boxP w1.heap.size (.int .i64 b) (.int .i64 p) (.slice A1 n1 c1), ownP 9 1 strEnc (.slice A1 n1 c1) l, ownP 42 2 ltEnc (.slice A2 n2 c2) m]) := HO.out.2.2.2.2.addBox rfl _ _ _ _
  clear HO
  have hln := (H.out.own 1 rfl).len
  have hlm := (H.out.own 2 rfl).len
  subst hln hlm
  have Hcl := Lib.hid (H.out.own 1 rfl).cap_le
  have Hcm := Lib.hid (H.out.own 2 rfl).cap_le
  obtain ⟨v, hv⟩ : ∃ v, treatVal b p l m = v := ⟨_, rfl⟩
  have Hv := Lib.hid hv
  have hvv : (v != v) = false := by simp
  have hvw : (v == v) = true := by simp
  clear hv
  obtain ⟨-, c0, c1', c2', cz⟩ := H.out.box 0 rfl
  go_wp2_with fail
  refine (implTreatCount b p A1 A2 l m _ _ _ _ rfl rfl Hcl.out Hcm.out _ (by omega) (by omega) Hz.out Hy.out ((H.out.own 1 rfl).rd strEnc_len) ((H.out.own 2 rfl).rd ltEnc_len)).mono ?_
  rw [Hv.out]
  rintro e w2 ⟨rfl, hb⟩
  have H := Lib.hid (H.out.step hb)
  clear hb c0 c1' c2' cz
  obtain ⟨-, c0, c1', c2', cz⟩ := H.out.box 0 rfl
  go_wp2_with fail
  refine (specTreatCount b p A1 A2 l m _ _ _ _ rfl rfl _ (by omega) (by omega) Hz.out Hy.out ((H.out.own 1 rfl).rd strEnc_len) ((H.out.own 2 rfl).rd ltEnc_len)).mono ?_
  rw [Hv.out]
  rintro e w3 ⟨rfl, hb⟩
  have H := Lib.hid (H.out.step hb)
  clear hb c0 c1' c2' cz
  obtain ⟨-, c0, c1', c2', cz⟩ := H.out.box 0 rfl
  cases hrd : readyOk b p l m
  · have hv1 : v = -1 := by rw [← Hv.out]; unfold treatVal; rw [hrd]; rfl
    subst hv1
    clear hrd
    go_wp2_with fail
    refine (specTreatCount b p A1 A2 l m _ _ _ _ rfl rfl _ (by omega) (by omega) Hz.out Hy.out ((H.out.own 1 rfl).rd strEnc_len) ((H.out.own 2 rfl).rd ltEnc_len)).mono ?_
    rw [Hv.out]
    rintro e w4 ⟨rfl, hb⟩
    have H := Lib.hid (H.out.step hb)
    clear hb c0 c1' c2' cz
    go_wp2
    go_ret
    exact ⟨rfl, H.out.below⟩
  · have hrd2 : planOk b p l = true ∧ batchOk m = true := by unfold readyOk at hrd; simpa using hrd
    obtain ⟨⟨hb1, hb2⟩, ⟨hp1, hp2⟩, -, hcapl, -⟩ := planOk_parts hrd2.1
    obtain ⟨B, rfl⟩ : ∃ B : Nat, b = B := ⟨b.toNat, by omega⟩
    obtain ⟨E, rfl⟩ : ∃ E : Nat, p = E := ⟨p.toNat, by omega⟩
    rw [Int.toNat_natCast, pw_nat] at hcapl
    have Hp := Lib.hid hrd2.1
    have Hm := Lib.hid hrd2.2
    have hB : 0 < B := by omega
    have Hfin : Hid (v = (passSum B l m E : Int)) := by
      show _ = _
      obtain ⟨k, rfl⟩ : ∃ k, E = k + 1 := ⟨E - 1, by omega⟩
      rw [← Hv.out, passSum_eq hB]
      unfold treatVal
      rw [hrd]
      show treatTo l _ m m.length = _
      rw [treat_all, show (((k + 1 : Nat) : Int) - 1) = (k : Int) from by omega]
      simp only [Int.natCast_add, Int.natCast_mul]
    have hv0 : 0 ≤ v := by rw [Hfin.out]; omega
    have Hend : Hid (passN B l E m = roundOf l m) := passN_round hB (plan_nodup hrd2.1) (by omega) (by omega) m
    have Hio : Hid (inOrd (B : Int) (E : Int) l (passN B l E m) = true) := by
      show _ = _
      unfold inOrd readyOk
      rw [Hp.out, pass_batch Hm.out, Hend.out, round_sorted (plan_nodup Hp.out)]; rfl
    have hml : m.length ≤ 60 := ((batch_iff m).1 hrd2.2).1
    clear hrd hrd2 hcapl
    go_wp2_with fail
    go_loopw [6, 7, 8] (fun s x t wr => ∃ (j n3 q : Nat) (A3 : Option Addr) (c3 : Nat), j ≤ E ∧ t = .int .i64 j ∧ s = .int .i64 (q : Int) ∧ x = .slice A3 n3 c3 ∧ Hid (q = passSum B l m j) ∧ q ≤ j * 60 ∧ n3 ≤ 60 ∧ Hid (n3 = (passN B l j m).length) ∧ Hid (n3 ≤ c3) ∧ Hid (Rd wr 2 ltEnc A3 (passN B l j m)) ∧ Hid (Pool w wr [boxP w1.heap.size (.int .i64 B) (.int .i64 E) (.slice A1 l.length c1), ownP 9 1 strEnc (.slice A1 l.length c1) l])) (fun _ _ t _ => E - (intOf t).toNat)
    case atStart => exact ⟨0, m.length, 0, A2, c2, Nat.zero_le _, rfl, rfl, rfl, rfl, by omega, hml, rfl, Hcm.out, (H.out.own 2 rfl).rd ltEnc_len, H.out.drop 2⟩
    case round =>
      clear H c0 c1' c2' cz
      obtain ⟨j, n3, q, A3, c3, hj, rfl, rfl, rfl, Hq, hq60, hn3, Hn3, Hc3, Hx, H⟩ := hrel
      obtain ⟨-, c0, c1', c2', cz⟩ := H.out.box 0 rfl
      have Hxs : Hid (∀ y ∈ passN B l j m, y.2.size ≤ 1048576) := fun y hy => Hy.out y (passN_mem hy)
      by_cases hlt : j < E
      · obtain ⟨Bs, hBs⟩ : ∃ Bs, plBins B (passF B l j) (passN B l j m) = Bs := ⟨_, rfl⟩
        obtain ⟨Rs, hRs⟩ : ∃ Rs, plRest (passF B l j) (passN B l j m) = Rs := ⟨_, rfl⟩
        have HBR : Hid (binR (B : Int) (E : Int) l (passN B l j m) (j : Int) = ⟨Bs, Rs, true⟩) := by show _ = _; rw [binR_pass Hp.out (pass_batch Hm.out j) hlt, hBs, hRs]
        have HR0 : Hid (0 < j → Rs = []) := fun h0 => by
          obtain ⟨k, rfl⟩ : ∃ k, j = k + 1 := ⟨j - 1, by omega⟩
          rw [← hRs]; exact pass_rest l m k
        have HBl : Hid (Bs.length = B) := by show _ = _; rw [← hBs, plBins_len]
        have HBf : Hid (Bs.flatten = passN B l (j + 1) m) := by show _ = _; rw [← hBs]; rfl
        have hRl : Rs.length ≤ 60 := by rw [← hRs]; exact Nat.le_trans (plRest_len _ _) (Nat.le_trans (passN_len _ _ _ _) hml)
        clear hBs hRs
        go_wp2_with fail
        refine (implPlanPass B E A1 A3 l (passN B l j m) _ _ _ _ rfl Hn3.out Hcl.out Hc3.out (j : Int) _ (by omega) (by omega) Hz.out Hxs.out ((H.out.own 1 rfl).rd strEnc_len) Hx.out).mono ?_
        rw [HBR.out]
        intro e w4 hret
        obtain ⟨A4, n4, c4, hs, A5, n5, c5, rfl, hlen, hp⟩ := hret.open
        have hbr : BinsRd w4 A4 hs Bs := hp.binsRd (T := 42) (fun p hp => by simp [hp]) hlen
        have HBd := Lib.hid hbr
        have hn4 := (hp.own 0 rfl).len
        have Hn4 := Lib.hid hn4
        have hn4b : n4 ≤ 60 := by have := HBl.out; omega
        have hn5 := (hp.own 1 rfl).len
        have hn5b : n5 ≤ 60 := by omega
        have Hn5 := Lib.hid hn5
        have hb := hp.below
        have H := Lib.hid (H.out.step hb)
        clear hp hbr hn4 hn5 hlen hb c0 c1' c2' cz hret
        have Hbf : Hid (batchOk Bs.flatten = true) := by show _ = _; rw [HBf.out]; exact pass_batch Hm.out (j + 1)
        have Hsf : Hid (∀ y ∈ Bs.flatten, y.2.size ≤ 1048576) := fun y hy => Hy.out y (passN_mem (by rw [HBf.out] at hy; exact hy))
        have Hlen2 := passN_len B l (j + 1) m
        have Hq2 : Hid (q + n3 = passSum B l m (j + 1)) := by show _ = passSum B l m j + (passN B l j m).length; rw [← Hq.out, ← Hn3.out]
        by_cases h0 : 0 < j
        · have h5 : n5 = 0 := by rw [Hn5.out, HR0.out h0]; rfl
          subst h5
          go_wp2_with fail
          refine (implCollectOk A4 hs Bs n4 c4 Hn4.out _ hn4b Hbf.out Hsf.out HBd.out).mono ?_
          rintro e w5 ⟨A6, n6, c6, rfl, ho, hb⟩
          rw [HBf.out] at ho
          have H := Lib.hid (H.out.step hb)
          have Ho := Lib.hid ho
          have hn6 : n6 ≤ 60 := by have := ho.len; omega
          clear ho hb
          go_wp2
          go_roundw
          case rel => exact ⟨j + 1, n6, q + n3, A6, c6, by omega, by go_num, by go_num, rfl, Hq2.out, by omega, hn6, Ho.out.len, Ho.out.cap_le, Ho.out.rd ltEnc_len, H.out⟩
          case measure => simp [intOf]; omega
        · obtain rfl : j = 0 := by omega
          go_wp2_with fail
          refine (implCollectOk A4 hs Bs n4 c4 Hn4.out _ hn4b Hbf.out Hsf.out HBd.out).mono ?_
          rintro e w5 ⟨A6, n6, c6, rfl, ho, hb⟩
          rw [HBf.out] at ho
          have H := Lib.hid (H.out.step hb)
          have Ho := Lib.hid ho
          have hn6 : n6 ≤ 60 := by have := ho.len; omega
          clear ho hb
          go_wp2
          go_roundw
          case rel => exact ⟨1, n6, q + n3, A6, c6, by omega, by go_num, by go_num, rfl, Hq2.out, by omega, hn6, Ho.out.len, Ho.out.cap_le, Ho.out.rd ltEnc_len, H.out⟩
          case measure => simp [intOf]; omega
      · obtain rfl : j = E := by omega
        have hvq : v = (q : Int) := by rw [Hfin.out, Hq.out]
        subst hvq
        go_wp2_with fail
        refine (implInOrder B j A1 A3 l (passN B l j m) _ _ _ _ rfl Hn3.out Hcl.out Hc3.out _ (by omega) (by omega) Hz.out Hxs.out ((H.out.own 1 rfl).rd strEnc_len) Hx.out).mono ?_
        rw [Hio.out]
        rintro e w4 ⟨rfl, hb⟩
        have H := Lib.hid (H.out.step hb)
        clear hb c0 c1' c2' cz
        go_wp2
        go_ret
        exact ⟨rfl, H.out.below⟩
end Go.Proofs.Ytbfmohkjnjmmoaa
