/-
  The law on one pass.
-/
import Derived.Test.YtbfmohkjnjmmoaaEbE
import Derived.Test.YtbfmohkjnjmmoaaDq2
namespace Go.Proofs.Ytbfmohkjnjmmoaa
open Go.RowKit

theorem binR_true {b p : Int} {l : List Str} {m : List Lt} {q : Int} {bs : List (List Lt)} {k : List Lt} (h : binR b p l m q = ⟨bs, k, true⟩) : passOk b p l q = true ∧ batchOk m = true ∧ bs = plBins b.toNat (fun c => binVal b l c q) m ∧ k = plRest (fun c => binVal b l c q) m := by
  unfold binR at h
  cases h1 : passOk b p l q
  · rw [h1] at h; cases h
  · cases h2 : batchOk m
    · rw [h1, h2] at h; cases h
    · rw [h1, h2] at h
      injection h with e1 e2 e3
      exact ⟨rfl, rfl, e1.symm, e2.symm⟩

set_option maxHeartbeats 8000000 in
set_option maxRecDepth 100000 in
theorem walkFnPlanPass (A : Option Addr) (bs : List UInt8) (c : Nat) (w : World) (h : ByIn w A bs c) :
    Calls Try.prog 9 #[.slice A bs.length c] w fun e w' => e = .returned (.bool true) ∧ Below w.heap.size w w' := by
  obtain ⟨hlc, hcm, hr⟩ := h
  have Hr := Lib.hid hr
  unfold maxLen at hcm
  clear hr
  by_cases hlen : ¬ (bs.length : Int) ≤ 1048576
  · go_enter Try.func9, Try.ntmps9
    go_wp2
    go_ret
    exact ⟨rfl, Below.refl _ _⟩
  have hlen := Decidable.not_not.1 hlen
  go_enter Try.func9, Try.ntmps9
  go_wp2_with fail
  refine (drawPassC A bs _ _ rfl hlc _ (by omega) Hr.out).mono ?_
  rintro e w1 ⟨b, p, A1, n1, c1, l, A2, n2, c2, m, q, rfl, HO⟩
  have hn := HO.out.1
  have hk := HO.out.2.2.1
  have Hz : Hid (∀ x ∈ l, x.size ≤ 1048576) := fun x hx => by have := HO.out.2.1 x hx; omega
  have Hy : Hid (∀ x ∈ m, x.2.size ≤ 1048576) := fun x hx => by have := HO.out.2.2.2.1 x hx; omega
  have H : Hid (Pool w (w1.alloc (Obj.cells #[.int .i64 b, .int .i64 p, .slice A1 n1 c1] 25)) [boxP w1.heap.size (.int .i64 b) (.int .i64 p) (.slice A1 n1 c1), ownP 9 1 strEnc (.slice A1 n1 c1) l, ownP 42 2 ltEnc (.slice A2 n2 c2) m]) := HO.out.2.2.2.2.addBox rfl _ _ _ _
  clear HO
  have hln := (H.out.own 1 rfl).len
  have hlm := (H.out.own 2 rfl).len
  subst hln hlm
  have Hcl := Lib.hid (H.out.own 1 rfl).cap_le
  have Hcm := Lib.hid (H.out.own 2 rfl).cap_le
  have hrl := binR_len b p l m q
  obtain ⟨Bs, Rs, ok, hr⟩ : ∃ Bs Rs ok, binR b p l m q = ⟨Bs, Rs, ok⟩ := ⟨_, _, _, rfl⟩
  rw [hr] at hrl
  have hBl : Bs.length ≤ 1048576 := hrl.1
  have hRl : Rs.length ≤ m.length := hrl.2.2.1
  have HBn : Hid (∀ y ∈ Bs, y.length ≤ 1048576) := fun y hy => Nat.le_trans (hrl.2.1 y hy) (by omega)
  have HR := Lib.hid hr
  clear hr hrl
  obtain ⟨-, c0, c1', c2', cz⟩ := H.out.box 0 rfl
  go_wp2_with fail
  refine (implPlanPass b p A1 A2 l m _ _ _ _ rfl rfl Hcl.out Hcm.out q _ (by omega) (by omega) Hz.out Hy.out ((H.out.own 1 rfl).rd strEnc_len) ((H.out.own 2 rfl).rd ltEnc_len)).mono ?_
  rw [HR.out]
  intro e w2 hret
  obtain ⟨A3, n3, c3, hs, A4, n4, c4, rfl, hlen3, hp⟩ := hret.open
  have hbr : BinsRd w2 A3 hs Bs := hp.binsRd (T := 42) (fun p hp => by simp [hp]) hlen3
  have H1 := Lib.hid hbr
  have hn3 := (hp.own 0 rfl).len
  have hn4 := (hp.own 1 rfl).len
  subst hn4
  have Hn3 := Lib.hid hn3
  have Hl3 := Lib.hid hlen3
  have R1 := Lib.hid ((hp.own 1 rfl).rd ltEnc_len)
  have hb := hp.below
  have H := Lib.hid (H.out.step hb)
  clear hret hp hbr hn3 hlen3 hb c0 c1' c2' cz
  obtain ⟨-, c0, c1', c2', cz⟩ := H.out.box 0 rfl
  go_wp2_with fail
  refine (specPlanPass b p A1 A2 l m _ _ _ _ rfl rfl q _ (by omega) (by omega) Hz.out Hy.out ((H.out.own 1 rfl).rd strEnc_len) ((H.out.own 2 rfl).rd ltEnc_len)).mono ?_
  rw [HR.out]
  intro e w3 hret
  obtain ⟨A5, n5, c5, gs, A6, n6, c6, rfl, hlen5, hp⟩ := hret.open
  have hbr : BinsRd w3 A5 gs Bs := hp.binsRd (T := 42) (fun p hp => by simp [hp]) hlen5
  have H2 := Lib.hid hbr
  have hn5 := (hp.own 0 rfl).len
  have hn6 := (hp.own 1 rfl).len
  subst hn6
  have Hn5 := Lib.hid hn5
  have R2 := Lib.hid ((hp.own 1 rfl).rd ltEnc_len)
  have hb := hp.below
  have H := Lib.hid (H.out.step hb)
  have H1 := Lib.hid (H1.out.below hb)
  have R1 := Lib.hid (R1.out.below hb)
  clear hret hp hbr hn5 hlen5 hb c0 c1' c2' cz
  have hn3b : n3 ≤ 1048576 := by have := Hn3.out; have := Hl3.out; omega
  go_wp2_with fail
  refine (soBinsSame A3 A5 hs gs Bs n3 n5 c3 c5 Hn3.out Hn5.out _ hn3b HBn.out H1.out H2.out).mono ?_
  rintro e w4 ⟨rfl, hb⟩
  have H := Lib.hid (H.out.step hb)
  have H1 := Lib.hid (H1.out.below hb)
  have H2 := Lib.hid (H2.out.below hb)
  have R1 := Lib.hid (R1.out.below hb)
  have R2 := Lib.hid (R2.out.below hb)
  clear hb
  go_wp2_with fail
  refine (soBatchSame A4 A6 Rs _ c4 c6 rfl _ (by omega) R1.out R2.out).mono ?_
  rintro e w5 ⟨rfl, hb⟩
  have H := Lib.hid (H.out.step hb)
  have H1 := Lib.hid (H1.out.below hb)
  have H2 := Lib.hid (H2.out.below hb)
  have R1 := Lib.hid (R1.out.below hb)
  have R2 := Lib.hid (R2.out.below hb)
  clear hb
  cases ok
  · go_wp2_with fail
    refine (soBinsSame A3 A5 hs gs Bs n3 n5 c3 c5 Hn3.out Hn5.out _ hn3b HBn.out H1.out H2.out).mono ?_
    rintro e w6 ⟨rfl, hb⟩
    have H := Lib.hid (H.out.step hb)
    have R1 := Lib.hid (R1.out.below hb)
    have R2 := Lib.hid (R2.out.below hb)
    clear hb
    go_wp2_with fail
    refine (soBatchSame A4 A6 Rs _ c4 c6 rfl _ (by omega) R1.out R2.out).mono ?_
    rintro e w7 ⟨rfl, hb⟩
    have H := Lib.hid (H.out.step hb)
    clear hb
    go_wp2
    go_ret
    exact ⟨rfl, H.out.below⟩
  · obtain ⟨hpo, hm, e1, e2⟩ := binR_true HR.out
    obtain ⟨⟨hb1, hb2⟩, hq1, hq2, hp4⟩ := passOk_parts hpo
    obtain ⟨B, rfl⟩ : ∃ B : Nat, b = B := ⟨b.toNat, by omega⟩
    rw [Int.toNat_natCast] at e1
    obtain ⟨f, hf⟩ : ∃ f : Str → Int, f = fun c => binVal (B : Int) l c q := ⟨_, rfl⟩
    rw [← hf] at e1 e2
    have Hf := Lib.hid hf
    have HBs := Lib.hid e1
    have HRs := Lib.hid e2
    have Hpo := Lib.hid hpo
    have Hm := Lib.hid hm
    have hml : m.length ≤ 60 := ((batch_iff m).1 hm).1
    have Hfb : Hid (∀ c, f c < (B : Int)) := fun c => by
      rw [Hf.out]
      show binVal (B : Int) l c q < (B : Int)
      rcases binVal_sign (b := (B : Int)) (by omega) l c q with ⟨h, -⟩ | ⟨k, h, h', -⟩
      · omega
      · rw [h']; omega
    have hnB : n3 = B := by rw [Hn3.out, Hl3.out, e1, plBins_len]
    subst hnB
    have Hall : Hid (Rs.length + Bs.flatten.length = m.length) := by show _ = _; rw [e1, e2]; exact bins_all Hfb.out m
    have Hload : Hid (loadsR (n3 : Int) p l m q = loadsOf Bs) := by show loadsOf (binR _ _ _ _ _).b = _; rw [HR.out]
    clear hf e1 e2 hpo hm H2 R2
    obtain ⟨-, c0, c1', c2', cz⟩ := H.out.box 0 rfl
    go_wp2_with fail
    refine (implBinLoads (n3 : Int) p A1 A2 l m _ _ _ _ rfl rfl Hcl.out Hcm.out q _ (by omega) (by omega) Hz.out Hy.out ((H.out.own 1 rfl).rd strEnc_len) ((H.out.own 2 rfl).rd ltEnc_len)).mono ?_
    rw [Hload.out]
    rintro e w6 ⟨A7, n7, c7, rfl, ho, hb⟩
    have hn7 : n7 = n3 := by rw [ho.len, loads_len, HBs.out, plBins_len]
    subst hn7
    have L1 := Lib.hid (ho.rd intEnc_len)
    have H := Lib.hid (H.out.step hb)
    have H1 := Lib.hid (H1.out.below hb)
    have R1 := Lib.hid (R1.out.below hb)
    clear ho hb c0 c1' c2' cz
    have hmm : ((m.length : Int) == (m.length : Int)) = true := by simp
    have hbb : ((n7 : Int) == (n7 : Int)) = true := by simp
    go_wp2_with fail
    go_loopw [13, 14] (fun s t wr => ∃ (k N : Nat), k ≤ n7 ∧ t = .int .i64 k ∧ s = .int .i64 (N : Int) ∧ Hid (N = Rs.length + (Bs.take k).flatten.length) ∧ N ≤ m.length ∧ Hid (Below w6.heap.size w6 wr) ∧ Hid (Pool w wr [boxP w1.heap.size (.int .i64 n7) (.int .i64 p) (.slice A1 l.length c1), ownP 9 1 strEnc (.slice A1 l.length c1) l, ownP 42 2 ltEnc (.slice A2 m.length c2) m])) (fun _ t _ => n7 - (intOf t).toNat)
    case atStart => exact ⟨0, Rs.length, Nat.zero_le _, rfl, rfl, by show _ = _; simp, hRl, Below.refl _ _, H.out⟩
    case round =>
      clear H
      obtain ⟨k, N, hkn, rfl, rfl, HN, hN, HW, H⟩ := hrel
      by_cases hlt : k < n7
      · obtain ⟨y, hyk⟩ : ∃ y, Bs[k]? = some y := ⟨_, List.getElem?_eq_getElem (by have := Hl3.out; have := Hn3.out; omega)⟩
        have hyb : y = plBin f m k := by
          rw [HBs.out, plBins_at hlt] at hyk
          injection hyk with hyk; exact hyk.symm
        have hyl : y.length ≤ m.length := by rw [hyb]; exact plBin_len _ _ _
        have HF : Hid (N + y.length = Rs.length + (Bs.take (k + 1)).flatten.length) := by show _ = _; rw [flat_tk hyk, List.length_append, HN.out]; omega
        have hF2 : N + y.length ≤ m.length := by
          have e1 := flat_tk_len Bs (k + 1)
          have := HF.out
          have := Hall.out
          omega
        obtain ⟨A8, c8, hv, h1, h2, h3⟩ := (H1.out.below HW.out).inn k y hyk
        obtain ⟨ad, rfl, hab, b0⟩ := (H1.out.below HW.out).out.one hv rfl
        have Hyb := Lib.hid hyb
        have Hyr := Lib.hid h3
        have Hyk := Lib.hid hyk
        have Hhv := Lib.hid hv
        have hkI : (k : Int) < (n7 : Int) := by omega
        clear hyb hyk hv h2 h3
        go_wp2_with fail
        go_loopw [15] (fun t wi => ∃ i : Nat, i ≤ y.length ∧ t = .int .i64 i ∧ Hid (Below wr.heap.size wr wi) ∧ Hid (Pool w wi [boxP w1.heap.size (.int .i64 n7) (.int .i64 p) (.slice A1 l.length c1), ownP 9 1 strEnc (.slice A1 l.length c1) l, ownP 42 2 ltEnc (.slice A2 m.length c2) m])) (fun t _ => y.length - (intOf t).toNat)
        case atStart => exact ⟨0, Nat.zero_le _, rfl, Below.refl _ _, H.out⟩
        case round =>
          clear H
          obtain ⟨i, hil, rfl, HV, H⟩ := hrel
          have b1 := below_cell HV.out b0
          obtain ⟨-, c0, c1', c2', cz⟩ := H.out.box 0 rfl
          by_cases hi : i < y.length
          · obtain ⟨x, hx⟩ : ∃ x, y[i]? = some x := ⟨_, List.getElem?_eq_getElem hi⟩
            obtain ⟨bd, rfl, hbd, d0, d1⟩ := (Hyr.out.below HV.out).two hx rfl
            have hxv : f x.2 = (k : Int) := by rw [Hyb.out] at hx; exact bin_val hx
            have Hpb : Hid (planBinOf (n7 : Int) p l x.2 q = (k : Int)) := by
              show _ = _
              unfold planBinOf
              rw [Hpo.out]
              show binVal _ _ _ _ = _
              rw [← hxv, Hf.out]
            have a0 := cell_alloc c0 (Obj.cells #[.int .i64 x.1, .string x.2] 42)
            have a1 := cell_alloc c1' (Obj.cells #[.int .i64 x.1, .string x.2] 42)
            have a2 := cell_alloc c2' (Obj.cells #[.int .i64 x.1, .string x.2] 42)
            have a3 : (wr.alloc (Obj.cells #[.int .i64 x.1, .string x.2] 42)).cell? ⟨wr.heap.size, 0, none⟩ = some (.int .i64 x.1) := World.cell?_alloc_at _ _ _ 0 rfl
            have a4 : (wr.alloc (Obj.cells #[.int .i64 x.1, .string x.2] 42)).cell? ⟨wr.heap.size, 1, none⟩ = some (.string x.2) := World.cell?_alloc_at _ _ _ 1 rfl
            have a5 := cell_alloc b1 (Obj.cells #[.int .i64 x.1, .string x.2] 42)
            have f0 : ∀ b : BW (wr.alloc (Obj.cells #[.int .i64 x.1, .string x.2] 42)), b.w.cell? ⟨w1.heap.size, 0, none⟩ = some (.int .i64 n7) := fun b => b.cell a0
            have f1 : ∀ b : BW (wr.alloc (Obj.cells #[.int .i64 x.1, .string x.2] 42)), b.w.cell? ⟨w1.heap.size, 1, none⟩ = some (.int .i64 p) := fun b => b.cell a1
            have f2 : ∀ b : BW (wr.alloc (Obj.cells #[.int .i64 x.1, .string x.2] 42)), b.w.cell? ⟨w1.heap.size, 2, none⟩ = some (.slice A1 l.length c1) := fun b => b.cell a2
            have f3 : ∀ b : BW (wr.alloc (Obj.cells #[.int .i64 x.1, .string x.2] 42)), b.w.cell? ⟨wr.heap.size, 0, none⟩ = some (.int .i64 x.1) := fun b => b.cell a3
            have f4 : ∀ b : BW (wr.alloc (Obj.cells #[.int .i64 x.1, .string x.2] 42)), b.w.cell? ⟨wr.heap.size, 1, none⟩ = some (.string x.2) := fun b => b.cell a4
            have f5 : ∀ b : BW (wr.alloc (Obj.cells #[.int .i64 x.1, .string x.2] 42)), b.w.cell? (ad.add k) = some (.slice (some bd) y.length c8) := fun b => b.cell a5
            have Hlr := Lib.hid (((H.out.alloc (Obj.cells #[.int .i64 x.1, .string x.2] 42)).own 1 rfl).rd strEnc_len)
            have Hmr := Lib.hid (((H.out.alloc (Obj.cells #[.int .i64 x.1, .string x.2] 42)).own 2 rfl).rd ltEnc_len)
            have KP : Hid (∀ b : BW (wr.alloc (Obj.cells #[.int .i64 x.1, .string x.2] 42)), Calls Try.prog 17 #[.agg #[.int .i64 n7, .int .i64 p, .slice A1 l.length c1], .string x.2, .int .i64 q] b.w fun e w' => e = .returned (.int .i64 k) ∧ Below b.w.heap.size b.w w') := fun b => by
              have := implPlanBin (n7 : Int) p A1 l _ _ rfl Hcl.out x.2 q b.w (by omega) Hz.out (b.rd Hlr.out)
              rw [Hpb.out] at this; exact this
            have hkk : ((k : Int) != (k : Int)) = false := by simp
            by_cases h0 : i = 0
            · have hi0 : decide ((0 : Int) < (i : Int)) = false := decide_eq_false (by omega)
              have hi0' : decide (0 < i) = false := decide_eq_false (by omega)
              clear hx hxv h0
              go_wp2_with fail
              refine wp_region_bw (wr.alloc (Obj.cells #[.int .i64 x.1, .string x.2] 42)) (Below.refl _ _) (by kernel_rfl) (by kernel_rfl) ?_
              repeat (go_big_quiet_step ((go_at_call 17; with_reducible exact calls_bw (KP.out _))))
              refine wpQuiet_nil ?_
              rintro _ ⟨bw, rfl⟩
              have H3 := Lib.hid ((H.out.alloc (Obj.cells #[.int .i64 x.1, .string x.2] 42)).step bw.h)
              have HV3 := Lib.hid (below_step (HV.out.alloc HV.out.size (Obj.cells #[.int .i64 x.1, .string x.2] 42)) (bw.h))
              clear f0 f1 f2 f3 f4 f5 KP a0 a1 a2 a3 a4 a5 c0 c1' c2' cz b1 d0 d1
              generalize bw.w = w9 at *
              go_wp2
              go_roundw
              case rel => exact ⟨i + 1, by omega, by go_num, HV3.out, H3.out⟩
              case measure => simp [intOf]; omega
            · obtain ⟨i, rfl⟩ : ∃ i', i = i' + 1 := ⟨i - 1, by omega⟩
              obtain ⟨z, hzz⟩ : ∃ z, y[i]? = some z := ⟨_, List.getElem?_eq_getElem (by omega)⟩
              obtain ⟨bd', e', -, z0, z1⟩ := (Hyr.out.below HV.out).two hzz rfl
              injection e' with e'
              subst e'
              have Hlt : Hid (findOf m z.1 < findOf m x.1) := bin_stable (f := f) (k := k) Hm.out (by rw [← Hyb.out]; exact hzz) (by rw [← Hyb.out]; exact hx)
              obtain ⟨u, hu⟩ : ∃ u, findOf m z.1 = u := ⟨_, rfl⟩
              obtain ⟨v, hv⟩ : ∃ v, findOf m x.1 = v := ⟨_, rfl⟩
              rw [hu, hv] at Hlt
              have hvu : decide (v ≤ u) = false := decide_eq_false (by have := Hlt.out; omega)
              have a6 := cell_alloc z0 (Obj.cells #[.int .i64 x.1, .string x.2] 42)
              have f6 : ∀ b : BW (wr.alloc (Obj.cells #[.int .i64 x.1, .string x.2] 42)), b.w.cell? (bd.add (i * 2)) = some (.int .i64 z.1) := fun b => b.cell a6
              have K1 : Hid (∀ b : BW (wr.alloc (Obj.cells #[.int .i64 x.1, .string x.2] 42)), Calls Try.prog 46 #[.slice A2 m.length c2, .int .i64 z.1] b.w fun e w' => e = .returned (.int .i64 u) ∧ Below b.w.heap.size b.w w') := fun b => by
                have := soPlaceC A2 m _ c2 z.1 rfl Hcm.out b.w (by omega) Hy.out (b.rd Hmr.out)
                rw [hu] at this; exact this
              have K2 : Hid (∀ b : BW (wr.alloc (Obj.cells #[.int .i64 x.1, .string x.2] 42)), Calls Try.prog 46 #[.slice A2 m.length c2, .int .i64 x.1] b.w fun e w' => e = .returned (.int .i64 v) ∧ Below b.w.heap.size b.w w') := fun b => by
                have := soPlaceC A2 m _ c2 x.1 rfl Hcm.out b.w (by omega) Hy.out (b.rd Hmr.out)
                rw [hv] at this; exact this
              have hi1 : ((i : Int) + 1).toNat = i + 1 := by omega
              have hiI : (i : Int) < (y.length : Int) := by omega
              clear hx hxv hzz hu hv z0 z1
              go_wp2_with fail
              refine wp_region_bw (wr.alloc (Obj.cells #[.int .i64 x.1, .string x.2] 42)) (Below.refl _ _) (by kernel_rfl) (by kernel_rfl) ?_
              repeat (go_big_quiet_step ((first | (go_at_call 17; with_reducible exact calls_bw (KP.out _)) | (go_at_call 46; first | with_reducible exact calls_bw (K1.out _) | with_reducible exact calls_bw (K2.out _)))))
              refine wpQuiet_nil ?_
              rintro _ ⟨bw, rfl⟩
              have H3 := Lib.hid ((H.out.alloc (Obj.cells #[.int .i64 x.1, .string x.2] 42)).step bw.h)
              have HV3 := Lib.hid (below_step (HV.out.alloc HV.out.size (Obj.cells #[.int .i64 x.1, .string x.2] 42)) (bw.h))
              clear f0 f1 f2 f3 f4 f5 f6 KP K1 K2 a0 a1 a2 a3 a4 a5 a6 c0 c1' c2' cz b1 d0 d1
              generalize bw.w = w9 at *
              go_wp2
              go_roundw
              case rel => exact ⟨i + 1 + 1, by omega, by go_num, HV3.out, H3.out⟩
              case measure => simp [intOf]; omega
          · obtain rfl : i = y.length := by omega
            have HW2 := Lib.hid (below_step HW.out HV.out)
            obtain ⟨ld, rfl, hld, l0⟩ := (L1.out.below HW2.out).one (loads_at Hyk.out) rfl
            have hyy : ((y.length : Int) != (y.length : Int)) = false := by simp
            go_wp2_with fail
            go_quiet (fail)
            go_wp2
            go_roundw
            case rel => exact ⟨k + 1, N + y.length, by omega, by go_num, by go_num, HF.out, hF2, below_drewN HW2.out _, H.out.drew _⟩
            case measure => simp [intOf]; omega
      · obtain rfl : k = n7 := by omega
        have hNm : N = m.length := by
          have h1 := HN.out
          rw [List.take_of_length_le (by have := Hl3.out; have := Hn3.out; omega)] at h1
          rw [h1]; exact Hall.out
        subst hNm
        have R3 := Lib.hid (R1.out.below HW.out)
        go_wp2_with fail
        go_loopw [17] (fun t wi => ∃ i : Nat, i ≤ Rs.length ∧ t = .int .i64 i ∧ Hid (Below wr.heap.size wr wi) ∧ Hid (Pool w wi [boxP w1.heap.size (.int .i64 k) (.int .i64 p) (.slice A1 l.length c1), ownP 9 1 strEnc (.slice A1 l.length c1) l, ownP 42 2 ltEnc (.slice A2 m.length c2) m])) (fun t _ => Rs.length - (intOf t).toNat)
        case atStart => exact ⟨0, Nat.zero_le _, rfl, Below.refl _ _, H.out⟩
        case round =>
          clear H
          obtain ⟨i, hil, rfl, HV, H⟩ := hrel
          obtain ⟨-, c0, c1', c2', cz⟩ := H.out.box 0 rfl
          by_cases hi : i < Rs.length
          · obtain ⟨x, hx⟩ : ∃ x, Rs[i]? = some x := ⟨_, List.getElem?_eq_getElem hi⟩
            obtain ⟨bd, rfl, hbd, d0, d1⟩ := (R3.out.below HV.out).two hx rfl
            have hxv : f x.2 < 0 := by rw [HRs.out] at hx; exact rest_val hx
            have Hrk : Hid (rankOf (k : Int) p l x.2 = -1) := by
              show _ = _
              have hb := hxv
              rw [Hf.out] at hb
              rcases binVal_sign (b := (k : Int)) (by omega) l x.2 q with ⟨-, hn⟩ | ⟨j, -, hj, -⟩
              · unfold rankOf
                rw [hn]; split <;> rfl
              · simp only [hj] at hb; omega
            have f0 : ∀ b : BW wr, b.w.cell? ⟨w1.heap.size, 0, none⟩ = some (.int .i64 k) := fun b => b.cell c0
            have f1 : ∀ b : BW wr, b.w.cell? ⟨w1.heap.size, 1, none⟩ = some (.int .i64 p) := fun b => b.cell c1'
            have f2 : ∀ b : BW wr, b.w.cell? ⟨w1.heap.size, 2, none⟩ = some (.slice A1 l.length c1) := fun b => b.cell c2'
            have f3 : ∀ b : BW wr, b.w.cell? ⟨(bd.add (i * 2)).block, (bd.add (i * 2)).off + 1, none⟩ = some (.string x.2) := fun b => b.cell d1
            have Hlr := Lib.hid ((H.out.own 1 rfl).rd strEnc_len)
            have KR : Hid (∀ b : BW wr, Calls Try.prog 15 #[.agg #[.int .i64 k, .int .i64 p, .slice A1 l.length c1], .string x.2] b.w fun e w' => e = .returned (.int .i64 (-1)) ∧ Below b.w.heap.size b.w w') := fun b => by
              have := implPlanRank (k : Int) p A1 l _ _ rfl Hcl.out x.2 b.w (by omega) Hz.out (b.rd Hlr.out)
              rw [Hrk.out] at this; exact this
            have hiI : (i : Int) < (Rs.length : Int) := by omega
            clear hx hxv
            go_wp2_with fail
            refine wp_region_bw wr (Below.refl _ _) (by kernel_rfl) (by kernel_rfl) ?_
            repeat (go_big_quiet_step ((go_at_call 15; with_reducible exact calls_bw (KR.out _))))
            refine wpQuiet_nil ?_
            rintro _ ⟨bw, rfl⟩
            have H3 := Lib.hid (H.out.step bw.h)
            have HV3 := Lib.hid (below_step HV.out bw.h)
            clear f0 f1 f2 f3 KR c0 c1' c2' cz d0 d1
            generalize bw.w = w9 at *
            go_wp2
            go_roundw
            case rel => exact ⟨i + 1, by omega, by go_num, HV3.out, H3.out⟩
            case measure => simp [intOf]; omega
          · obtain rfl : i = Rs.length := by omega
            go_wp2
            go_ret
            exact ⟨rfl, H.out.below⟩
end Go.Proofs.Ytbfmohkjnjmmoaa
