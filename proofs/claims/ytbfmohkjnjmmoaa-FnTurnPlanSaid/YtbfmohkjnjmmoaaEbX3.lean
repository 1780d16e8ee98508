/-
  The law on turned rounds.
-/
import Derived.Test.YtbfmohkjnjmmoaaEbT
namespace Go.Proofs.Ytbfmohkjnjmmoaa
open Go.RowKit

set_option maxHeartbeats 8000000 in
set_option maxRecDepth 100000 in
theorem walkFnTurnPlan (A : Option Addr) (bs : List UInt8) (c : Nat) (A' : Option Addr) (bs' : List UInt8) (c' : Nat) (w : World) (h : ByIn w A bs c) (h' : ByIn w A' bs' c') :
    Calls Try.prog 6 #[.slice A bs.length c, .slice A' bs'.length c'] w fun e w' => e = .returned (.bool true) ∧ Below w.heap.size w w' := by
  obtain ⟨hlc, hcm, hr⟩ := h
  obtain ⟨-, hcm', -⟩ := h'
  have Hr := Lib.hid hr
  unfold maxLen at hcm hcm'
  clear hr
  by_cases hlen : ¬ (bs.length : Int) ≤ 1048576
  · go_enter Try.func6, Try.ntmps6
    go_wp2
    go_ret
    exact ⟨rfl, Below.refl _ _⟩
  have hlen := Decidable.not_not.1 hlen
  by_cases hlen' : ¬ (bs'.length : Int) ≤ 1048576
  · go_enter Try.func6, Try.ntmps6
    go_wp2
    go_ret
    exact ⟨rfl, Below.refl _ _⟩
  have hlen' := Decidable.not_not.1 hlen'
  obtain ⟨M, hM⟩ : ∃ M, bs'.length = M := ⟨_, rfl⟩
  rw [hM] at hlen' ⊢
  clear hM
  go_enter Try.func6, Try.ntmps6
  go_wp2_with fail
  refine (drawTurnC A bs _ _ rfl hlc _ (by omega) Hr.out).mono ?_
  rintro e w1 ⟨b, p, A1, n, c1, l, rfl, HO⟩
  have hn := HO.out.1
  have HD := Lib.hid HO.out.dr
  have hln := HD.out.len
  subst hln
  have Hz := Lib.hid HD.out.small
  have hcap := HD.out.cap
  have H : Hid (Pool w (w1.alloc (Obj.cells #[.int .i64 b, .int .i64 p, .slice A1 l.length c1] 25)) [boxP w1.heap.size (.int .i64 b) (.int .i64 p) (.slice A1 l.length c1), ownP 9 1 strEnc (.slice A1 l.length c1) l]) := HO.out.2.2.addBox rfl _ _ _ _
  clear HO HD
  have hrl0 : (turnR b p l).l.length ≤ 13 := by
    unfold turnR; split
    · show l.reverse.length ≤ 13; rw [List.length_reverse]; exact hn
    · exact Nat.zero_le _
  obtain ⟨rb, rp, rl, ok, hr⟩ : ∃ rb rp rl ok, turnR b p l = ⟨rb, rp, rl, ok⟩ := ⟨_, _, _, _, rfl⟩
  rw [hr] at hrl0
  have hrl : rl.length ≤ 13 := hrl0
  clear hrl0
  have HR := Lib.hid hr
  clear hr
  obtain ⟨-, c0, c1', c2, cz⟩ := H.out.box 0 rfl
  go_wp2_with fail
  refine (implTurnPlan b p A1 l _ _ rfl hcap _ (by omega) Hz.out ((H.out.own 1 rfl).rd strEnc_len)).mono ?_
  rw [HR.out]
  intro e w2 hret
  obtain ⟨A2, n2, c2', rfl, ho, hb⟩ := hret.open
  have H := Lib.hid (H.out.addOwn hb ho)
  have hl2 := (H.out.own 0 rfl).len
  subst hl2
  clear ho hb c0 c1' c2 cz
  have H : Hid (Pool w (w2.alloc (Obj.cells #[.int .i64 rb, .int .i64 rp, .slice A2 rl.length c2'] 25)) [boxP w2.heap.size (.int .i64 rb) (.int .i64 rp) (.slice A2 rl.length c2'), ownP 9 1 strEnc (.slice A2 rl.length c2') rl, boxP w1.heap.size (.int .i64 b) (.int .i64 p) (.slice A1 l.length c1), ownP 9 1 strEnc (.slice A1 l.length c1) l]) := H.out.addBox rfl _ _ _ _
  obtain ⟨-, c0, c1', c2, cz⟩ := H.out.box 2 rfl
  go_wp2_with fail
  refine (specTurnPlan b p A1 l _ _ rfl _ (by omega) Hz.out ((H.out.own 3 rfl).rd strEnc_len)).mono ?_
  rw [HR.out]
  intro e w3 hret
  obtain ⟨A3, n3, c3', rfl, ho, hb⟩ := hret.open
  have H := Lib.hid (H.out.addOwn hb ho)
  have hl3 := (H.out.own 0 rfl).len
  subst hl3
  clear ho hb c0 c1' c2 cz
  have H : Hid (Pool w (w3.alloc (Obj.cells #[.int .i64 rb, .int .i64 rp, .slice A3 rl.length c3'] 25)) [boxP w3.heap.size (.int .i64 rb) (.int .i64 rp) (.slice A3 rl.length c3'), ownP 9 1 strEnc (.slice A3 rl.length c3') rl, boxP w2.heap.size (.int .i64 rb) (.int .i64 rp) (.slice A2 rl.length c2'), ownP 9 1 strEnc (.slice A2 rl.length c2') rl, boxP w1.heap.size (.int .i64 b) (.int .i64 p) (.slice A1 l.length c1), ownP 9 1 strEnc (.slice A1 l.length c1) l]) := H.out.addBox rfl _ _ _ _
  obtain ⟨-, d0, d1, d2, dz⟩ := H.out.box 0 rfl
  obtain ⟨-, c0, c1', c2, cz⟩ := H.out.box 2 rfl
  go_wp2_with fail
  refine (soPlansSame rb rp A2 A3 rl _ c2' c3' rfl _ (by omega) ((H.out.own 3 rfl).rd strEnc_len) ((H.out.own 1 rfl).rd strEnc_len)).mono ?_
  rintro e w4 ⟨rfl, hb⟩
  have H := Lib.hid (H.out.step hb)
  clear hb c0 c1' c2 cz d0 d1 d2 dz
  obtain ⟨-, d0, d1, d2, dz⟩ := H.out.box 0 rfl
  obtain ⟨-, c0, c1', c2, cz⟩ := H.out.box 2 rfl
  cases ok
  · go_wp2_with fail
    refine (soPlansSame rb rp A2 A3 rl _ c2' c3' rfl _ (by omega) ((H.out.own 3 rfl).rd strEnc_len) ((H.out.own 1 rfl).rd strEnc_len)).mono ?_
    rintro e w5 ⟨rfl, hb⟩
    have H := Lib.hid (H.out.step hb)
    clear hb c0 c1' c2 cz d0 d1 d2 dz
    go_wp2
    go_ret
    exact ⟨rfl, H.out.below⟩
  · cases hp : planOk b p l
    · have := HR.out; rw [turn_bad hp] at this; cases this
    have hrr := HR.out
    rw [turn_ok hp] at hrr
    injection hrr with e1 e2 e3 e4
    subst e1 e2
    have Hrev := Lib.hid e3
    clear e3
    have Hp := Lib.hid hp
    clear hp d0 d1 d2 dz
    try clear e4
    try clear hrr
    have hlr : rl.length = l.length := by rw [← Hrev.out, List.length_reverse]
    have Hpr : Hid (planOk b p rl = true) := by show _ = _; rw [← Hrev.out]; exact plan_reverse Hp.out
    have Hzr : Hid (∀ x ∈ rl, x.size ≤ 1048576) := fun x hx => Hz.out x (List.mem_reverse.1 (by rw [Hrev.out]; exact hx))
    have Htt : Hid (turnR b p rl = ⟨b, p, l, true⟩) := by show _ = _; rw [turn_ok Hpr.out, ← Hrev.out, List.reverse_reverse]
    have Hcq := Lib.hid (H.out.own 3 rfl).cap_le
    have hl1 : 1 ≤ l.length := (planOk_parts Hp.out).2.2.1.1
    have Hlr := Lib.hid hlr
    clear hlr
    go_wp2_with fail
    refine (implTurnPlan b p A2 rl _ _ rfl Hcq.out _ (by rw [Hlr.out]; omega) Hzr.out ((H.out.own 3 rfl).rd strEnc_len)).mono ?_
    rw [Htt.out]
    intro e w5 hret
    obtain ⟨A4, n4, c4', rfl, ho, hb⟩ := hret.open
    have H := Lib.hid (H.out.addOwn hb ho)
    have hl4 : n4 = l.length := (H.out.own 0 rfl).len
    subst hl4
    clear ho hb c0 c1' c2 cz
    have H : Hid (Pool w (w5.alloc (Obj.cells #[.int .i64 b, .int .i64 p, .slice A4 l.length c4'] 25)) [boxP w5.heap.size (.int .i64 b) (.int .i64 p) (.slice A4 l.length c4'), ownP 9 1 strEnc (.slice A4 l.length c4') l, boxP w3.heap.size (.int .i64 b) (.int .i64 p) (.slice A3 rl.length c3'), ownP 9 1 strEnc (.slice A3 rl.length c3') rl, boxP w2.heap.size (.int .i64 b) (.int .i64 p) (.slice A2 rl.length c2'), ownP 9 1 strEnc (.slice A2 rl.length c2') rl, boxP w1.heap.size (.int .i64 b) (.int .i64 p) (.slice A1 l.length c1), ownP 9 1 strEnc (.slice A1 l.length c1) l]) := H.out.addBox rfl _ _ _ _
    have H : Hid (Pool w ((w5.alloc (Obj.cells #[.int .i64 b, .int .i64 p, .slice A4 l.length c4'] 25)).alloc (Obj.cells #[] 42)) [ownP 42 2 ltEnc (.slice (some ⟨w5.heap.size + 1, 0, none⟩) 0 0) [], boxP w5.heap.size (.int .i64 b) (.int .i64 p) (.slice A4 l.length c4'), ownP 9 1 strEnc (.slice A4 l.length c4') l, boxP w3.heap.size (.int .i64 b) (.int .i64 p) (.slice A3 rl.length c3'), ownP 9 1 strEnc (.slice A3 rl.length c3') rl, boxP w2.heap.size (.int .i64 b) (.int .i64 p) (.slice A2 rl.length c2'), ownP 9 1 strEnc (.slice A2 rl.length c2') rl, boxP w1.heap.size (.int .i64 b) (.int .i64 p) (.slice A1 l.length c1), ownP 9 1 strEnc (.slice A1 l.length c1) l]) :=
      H.out.addOwn ((Below.refl _ _).alloc (Nat.le_refl _) _) (by have := Own.lit0 (w5.alloc (Obj.cells #[.int .i64 b, .int .i64 p, .slice A4 l.length c4'] 25)) 42 2 ltEnc; simpa using this)
    obtain ⟨j0, ji, jz0, jz1, jz2⟩ := info_parts lt_info
    go_wp2_with fail
    go_loopw [12, 13] (fun s i wr => ∃ (j : Nat) (A5 : Option Addr) (c5 : Nat) (m : List Lt), j ≤ l.length ∧ i = .int .i64 j ∧ s = .slice A5 j c5 ∧ Hid (∀ x ∈ m, x.2.size ≤ 1048576) ∧ Hid (Pool w wr [ownP 42 2 ltEnc (.slice A5 j c5) m, boxP w5.heap.size (.int .i64 b) (.int .i64 p) (.slice A4 l.length c4'), ownP 9 1 strEnc (.slice A4 l.length c4') l, boxP w3.heap.size (.int .i64 b) (.int .i64 p) (.slice A3 rl.length c3'), ownP 9 1 strEnc (.slice A3 rl.length c3') rl, boxP w2.heap.size (.int .i64 b) (.int .i64 p) (.slice A2 rl.length c2'), ownP 9 1 strEnc (.slice A2 rl.length c2') rl, boxP w1.heap.size (.int .i64 b) (.int .i64 p) (.slice A1 l.length c1), ownP 9 1 strEnc (.slice A1 l.length c1) l])) (fun _ i _ => l.length - (intOf i).toNat)
    case atStart => exact ⟨0, _, 0, [], Nat.zero_le _, rfl, rfl, (fun x hx => by cases hx), H.out⟩
    case round =>
      clear H
      obtain ⟨j, A5, c5, m, hj, rfl, rfl, Hs, H⟩ := hrel
      obtain ⟨-, c0, c1', c2, cz⟩ := H.out.box 7 rfl
      by_cases hlt : j < l.length
      · obtain ⟨rr, hrr⟩ : ∃ rr, (j * 7 + M) % l.length = rr := ⟨_, rfl⟩
        have hrl : rr < l.length := by rw [← hrr]; exact Nat.mod_lt _ (by omega)
        have hrI : (rr : Int) < (l.length : Int) := by omega
        obtain ⟨x, hx⟩ : ∃ x, l[rr]? = some x := ⟨_, List.getElem?_eq_getElem hrl⟩
        obtain ⟨ad, rfl, hab, e0⟩ := ((H.out.own 8 rfl).rd strEnc_len).one hx rfl
        have hxs := Hz.out x (List.mem_of_getElem? hx)
        have Hxs := Lib.hid hxs
        have hml := (H.out.own 0 rfl).len
        have Hml := Lib.hid hml
        have HD := Lib.hid (H.out.alloc (Obj.cells #[.int .i64 (1 + (j : Int)), .string x] 42)).drew1
        have Hraw : Hid ((wr.alloc (Obj.cells #[.int .i64 (1 + (j : Int)), .string x] 42)).drew.ownsRow 0 42 2 (.slice A5 j c5) j (m.flatMap ltEnc)) := own_raw (HD.out.own 0 rfl)
        have Hnews : Hid (∀ (i : Nat) (z : Value), (ltEnc (1 + (j : Int), x))[i]? = some z → (wr.alloc (Obj.cells #[.int .i64 (1 + (j : Int)), .string x] 42)).drew.cell? (Addr.add ⟨wr.heap.size, 0, none⟩ i) = some z) := ltEnc_cells (1 + (j : Int), x) rfl
        have k2 := fun o => cell_alloc c2 o
        have k0 := fun o => cell_alloc e0 o
        have s1 : IntKind.i64.wrap (1 + (j : Int)) = 1 + (j : Int) := IntWalk.i64_in _ (by omega)
        have s2 : IntKind.i64.wrap ((j : Int) * 7) = (j : Int) * 7 := IntWalk.i64_in _ (by omega)
        have s3 : IntKind.i64.wrap ((j : Int) * 7 + (M : Int)) = (j : Int) * 7 + (M : Int) := IntWalk.i64_in _ (by omega)
        have s4 : ((j : Int) * 7 + (M : Int)).tmod (l.length : Int) = (rr : Int) := by rw [Int.tmod_eq_emod_of_nonneg (by omega), ← hrr]; rfl
        have s5 : ((j : Int) * 7 + (M : Int)) % (l.length : Int) = (rr : Int) := by rw [← hrr]; rfl
        have hl0 : ¬ (l.length : Int) = 0 := by omega
        have hnil : ¬ l = [] := by intro e; subst e; simp at hl1
        clear hx hml hxs hrr
        go_wp2_with fail
        go_region_law (refine step_append_lies _ (by rfl) (.tmp 68) (.tmp 85) 40 (by rfl) 0 42 j0 _ 2 24 Try.underlying40 ji jz0 jz1 jz2 rfl (by decide) (.slice A5 j c5) j (m.flatMap ltEnc) (by rfl) Hraw.out _ 1 1 (ltEnc (1 + (j : Int), x)) (by rfl) (by rfl) Hnews.out (ltEnc_one _) (by decide) (by unfold maxLen; omega) (by omega) (Nat.zero_le _) _ rfl ?_; intro g3 c3 w6 hown6 hg6 hat6 hlt6)
        all_goals
          have H6 : Hid (Pool w w6 [ownP 42 2 ltEnc (.slice (some ⟨g3, 0, none⟩) (j + 1) c3) (m ++ [(1 + (j : Int), x)]), boxP w5.heap.size (.int .i64 b) (.int .i64 p) (.slice A4 l.length c4'), ownP 9 1 strEnc (.slice A4 l.length c4') l, boxP w3.heap.size (.int .i64 b) (.int .i64 p) (.slice A3 rl.length c3'), ownP 9 1 strEnc (.slice A3 rl.length c3') rl, boxP w2.heap.size (.int .i64 b) (.int .i64 p) (.slice A2 rl.length c2'), ownP 9 1 strEnc (.slice A2 rl.length c2') rl, boxP w1.heap.size (.int .i64 b) (.int .i64 p) (.slice (some ad) l.length c1), ownP 9 1 strEnc (.slice (some ad) l.length c1) l]) := HD.out.append 0 rfl (own_push hown6 Hml.out) hg6 (fun q e => by injection e with e; subst e; rcases hat6 with h' | h'; exact .inl h'; exact .inr (by show _ ≤ g3; omega))
          go_wp2
          go_roundw
          case rel => exact ⟨j + 1, _, c3, _, by omega, by go_num, rfl, (fun y hy => by
            rcases List.mem_append.1 hy with hy | hy
            · exact Hs.out y hy
            · simp at hy; subst hy; exact Hxs.out), H6.out⟩
          case measure => simp [intOf]; omega
      · obtain rfl : j = l.length := by omega
        have HB : Hid (Pool w wr [boxP w5.heap.size (.int .i64 b) (.int .i64 p) (.slice A4 l.length c4'), boxP w2.heap.size (.int .i64 b) (.int .i64 p) (.slice A2 rl.length c2'), boxP w1.heap.size (.int .i64 b) (.int .i64 p) (.slice A1 l.length c1)]) := (((((H.out.drop 8).drop 6).drop 4).drop 3).drop 2).drop 0
        have hml := (H.out.own 0 rfl).len
        have Hcm := Lib.hid (H.out.own 0 rfl).cap_le
        obtain ⟨X, hX⟩ : ∃ X, (runR b p l m).f = X := ⟨_, rfl⟩
        have hXl : X.length ≤ 1048576 := by rw [← hX]; exact (runR_len (by omega)).1
        have HY : Hid ((runR b p rl m.reverse).f = X.reverse) := by show _ = _; rw [← Hrev.out, run_turn Hp.out, hX]
        have HX := Lib.hid hX
        have Hml := Lib.hid hml
        have Hsr : Hid (∀ x ∈ m.reverse, x.2.size ≤ 1048576) := fun x hx => Hs.out x (List.mem_reverse.1 hx)
        have HD := Lib.hid H.out.drew1
        have HE := Lib.hid HB.out.drew1
        clear hX hml
        go_wp2_with fail
        go_region_held3 (fun w' => w'.cell? ⟨w5.heap.size, 0, none⟩ = some (.int .i64 b) ∧ w'.cell? ⟨w5.heap.size, 1, none⟩ = some (.int .i64 p) ∧ w'.cell? ⟨w5.heap.size, 2, none⟩ = some (.slice A4 l.length c4') ∧ w'.cell? ⟨w2.heap.size, 0, none⟩ = some (.int .i64 b) ∧ w'.cell? ⟨w2.heap.size, 1, none⟩ = some (.int .i64 p) ∧ w'.cell? ⟨w2.heap.size, 2, none⟩ = some (.slice A2 rl.length c2') ∧ w'.cell? ⟨w1.heap.size, 0, none⟩ = some (.int .i64 b) ∧ w'.cell? ⟨w1.heap.size, 1, none⟩ = some (.int .i64 p) ∧ w'.cell? ⟨w1.heap.size, 2, none⟩ = some (.slice A1 l.length c1))
          (first
            | exact ⟨(HB.out.box 0 rfl).c0, (HB.out.box 0 rfl).c1, (HB.out.box 0 rfl).c2, (HB.out.box 1 rfl).c0, (HB.out.box 1 rfl).c1, (HB.out.box 1 rfl).c2, (HB.out.box 2 rfl).c0, (HB.out.box 2 rfl).c1, (HB.out.box 2 rfl).c2⟩
            | fail)
          (first
            | (go_at_call 25; refine (soPlansSame b p A4 A1 l _ c4' c1 rfl _ (by omega) ((HD.out.own 2 rfl).rd strEnc_len) ((HD.out.own 8 rfl).rd strEnc_len)).mono ?_; rintro e w7 ⟨rfl, hb⟩; have HD := Lib.hid (HD.out.step hb); have HB := Lib.hid (HE.out.step hb); clear hb)
            | (have _g := G4; go_at_call 32; refine (soTurnedC A9 X n9 c9 HXn.out _ hn9 ((HD.out.own 0 rfl).rd ltEnc_len)).mono ?_; rintro e w11 ⟨A10, c10, rfl, ho, hb⟩; have HD := Lib.hid (HD.out.addOwn hb ho); have HB := Lib.hid (HB.out.step hb); clear hb ho)
            | (go_at_call 32; refine (soTurnedC A5 m _ c5 Hml.out _ (by omega) ((HD.out.own 0 rfl).rd ltEnc_len)).mono ?_; rintro e w8 ⟨A7, c7, rfl, ho, hb⟩; have HD := Lib.hid (HD.out.addOwn hb ho); have HB := Lib.hid (HB.out.step hb); have Hc7 := Lib.hid ho.cap_le; clear hb ho)
            | (have _g := G3; go_at_call 27; refine (soRunC b p A1 A5 l m _ _ _ _ rfl Hml.out hcap Hcm.out _ (by omega) (by omega) Hz.out Hs.out ((HD.out.own 10 rfl).rd strEnc_len) ((HD.out.own 2 rfl).rd ltEnc_len)).mono ?_; rw [HX.out]; rintro e w10 ⟨A9, n9, c9, rfl, ho, hb⟩; have HD := Lib.hid (HD.out.addOwn hb ho); have HB := Lib.hid (HB.out.step hb); have HXn := Lib.hid ho.len; have hn9 : n9 ≤ 1048576 := (by have := ho.len; omega); have G4 : True := trivial; clear hb ho)
            | (go_at_call 27; refine (soRunC b p A2 A7 rl m.reverse _ _ _ _ rfl (by rw [List.length_reverse]; exact Hml.out) Hcq.out Hc7.out _ (by omega) (by omega) Hzr.out Hsr.out ((HD.out.own 7 rfl).rd strEnc_len) ((HD.out.own 0 rfl).rd ltEnc_len)).mono ?_; rw [HY.out]; rintro e w9 ⟨A8, n8, c8, rfl, ho, hb⟩; have HD := Lib.hid (HD.out.addOwn hb ho); have HB := Lib.hid (HB.out.step hb); have H8n := Lib.hid ho.len; have G3 : True := trivial; clear hb ho)
            | (go_at_call 28; obtain rfl : n8 = n9 := (by rw [H8n.out, List.length_reverse, HXn.out]); refine (soBatchSame A8 A10 X.reverse _ c8 c10 H8n.out _ (by omega) ((HD.out.own 2 rfl).rd ltEnc_len) ((HD.out.own 0 rfl).rd ltEnc_len)).mono ?_; rintro e w12 ⟨rfl, hb⟩; have HD := Lib.hid (HD.out.step hb); have HB := Lib.hid (HB.out.step hb); clear hb)
            | fail)
        go_wp2
        go_ret
        exact ⟨rfl, HD.out.below⟩
end Go.Proofs.Ytbfmohkjnjmmoaa
