/-
  The law on joined rounds.
-/
import Derived.Test.YtnfggnpemnebcaaEq
import Derived.Test.YtnfggnpemnebcaaDp8
import Derived.Test.YtnfggnpemnebcaaPlJa
import Derived.Test.YtnfggnpemnebcaaPlJs
namespace Go.Proofs.Ytnfggnpemnebcaa
open Go.RowKit

theorem LtRet2.open {f k : List Lt} {ok : Bool} {w w' : World} {e : Ending} (h : LtRet2 ⟨f, k, ok⟩ w e w') :
    ∃ A n c A' n' c', e = .returned (.tuple #[.slice A n c, .slice A' n' c', .bool ok]) ∧ Own w' w.heap.size 40 2 ltEnc (.slice A n c) f ∧ Own w' w.heap.size 40 2 ltEnc (.slice A' n' c') k ∧ (∀ g, (Value.slice A n c).ownBlock = some g → (Value.slice A' n' c').ownBlock = some g → False) ∧ Below w.heap.size w w' := h
theorem nil_cap {α : Type} {w : World} {base n c : Nat} {e : TypeId} {size : Nat} {enc : α → List Value} {A : Option Addr} {l : List α} (h : Own w base e size enc (.slice A n c) l) : A = none → c = 0 := by
  rintro rfl
  rcases h.2 with ⟨hv, _⟩ | ⟨g, cap, cur, hv, _⟩
  · injection hv
  · injection hv with e1 e2 e3
    cases e1
theorem join_true {b p b' p' rb rp : Int} {l l' rl : List Str} (h : joinR b p l b' p' l' = ⟨rb, rp, rl, true⟩) : planOk b p l = true ∧ planOk b p l' = true ∧ planOk b p (l ++ l') = true ∧ b = b' ∧ p = p' ∧ b = rb ∧ p = rp ∧ rl = l ++ l' := by
  unfold joinR at h
  split at h
  · rename_i hc
    simp only [Bool.and_eq_true, decide_eq_true_eq] at hc
    obtain ⟨⟨⟨⟨h1, h2⟩, h3⟩, h4⟩, h5⟩ := hc
    subst h3 h4
    injection h with e1 e2 e3 e4
    exact ⟨h1, h2, h5, rfl, rfl, e1, e2, e3.symm⟩
  · injection h with e1 e2 e3 e4
    cases e4
theorem join_rest {l l' : List Str} (hn : (l ++ l').Nodup) (m : List Lt) : roundOf l' (m.filter fun x => !(strIdx l x.2).isSome) = roundOf l' m := flatMap_congr' fun c hc => by
  rw [List.filter_filter]
  refine List.filter_congr fun x _ => ?_
  by_cases h : x.2 = c
  · have hx : ¬ x.2 ∈ l := fun hl => (List.nodup_append.1 hn).2.2 x.2 hl x.2 (h ▸ hc) rfl
    have : (strIdx l x.2).isSome = false := Bool.eq_false_iff.2 fun hs => hx (has_iff.1 hs)
    rw [this]; simp [h]
  · simp [h]
theorem run_join {b p : Int} {l l' : List Str} (hp : planOk b p l = true) (hq : planOk b p l' = true) (hj : planOk b p (l ++ l') = true) (m : List Lt) : (runR b p (l ++ l') m).f = (runR b p l m).f ++ (runR b p l' (runR b p l m).k).f := by
  cases hm : batchOk m
  · rw [run_bad hm, run_bad hm]
    have h0 : batchOk ([] : List Lt) = true := by decide
    show ([] : List Lt) = [] ++ (runR b p l' []).f
    rw [run_round hq h0]
    show ([] : List Lt) = [] ++ roundOf l' []
    rw [List.nil_append]
    exact (flat_nil fun a _ => rfl).symm
  · rw [run_round hp hm, run_round hj hm]
    show roundOf (l ++ l') m = roundOf l m ++ (runR b p l' (m.filter fun x => !(strIdx l x.2).isSome)).f
    rw [run_round hq (batch_sub List.filter_sublist hm)]
    show _ = roundOf l m ++ roundOf l' _
    rw [round_append, join_rest (plan_nodup hj)]
theorem run_k_mem {b p : Int} {l : List Str} {m f k : List Lt} {ok : Bool} (hp : planOk b p l = true) (h : runR b p l m = ⟨f, k, ok⟩) : ∀ x ∈ k, x ∈ m := by
  intro x hx
  cases hm : batchOk m
  · rw [run_bad hm] at h
    injection h with e1 e2 e3
    rw [← e2] at hx; cases hx
  · rw [run_round hp hm] at h
    injection h with e1 e2 e3
    rw [← e2] at hx
    exact (List.mem_filter.1 hx).1

set_option maxHeartbeats 8000000 in
set_option maxRecDepth 100000 in
theorem walkFnJoinPlans (A : Option Addr) (bs : List UInt8) (c : Nat) (A' : Option Addr) (bs' : List UInt8) (c' : Nat) (w : World) (h : ByIn w A bs c) (h' : ByIn w A' bs' c') :
    Calls Try.prog 5 #[.slice A bs.length c, .slice A' bs'.length c'] w fun e w' => e = .returned (.bool true) ∧ Below w.heap.size w w' := by
  obtain ⟨hlc, hcm, hr⟩ := h
  obtain ⟨-, hcm', -⟩ := h'
  have Hr := Lib.hid hr
  unfold maxLen at hcm hcm'
  clear hr
  by_cases hlen : ¬ (bs.length : Int) ≤ 1048576
  · go_enter Try.func5, Try.ntmps5
    go_wp2
    go_ret
    exact ⟨rfl, Below.refl _ _⟩
  have hlen := Decidable.not_not.1 hlen
  by_cases hlen' : ¬ (bs'.length : Int) ≤ 1048576
  · go_enter Try.func5, Try.ntmps5
    go_wp2
    go_ret
    exact ⟨rfl, Below.refl _ _⟩
  have hlen' := Decidable.not_not.1 hlen'
  obtain ⟨M, hM⟩ : ∃ M, bs'.length = M := ⟨_, rfl⟩
  rw [hM] at hlen' ⊢
  clear hM
  go_enter Try.func5, Try.ntmps5
  go_wp2_with fail
  refine (drawJoinC A bs _ _ rfl hlc _ (by omega) Hr.out).mono ?_
  rintro e w1 ⟨b, p, A1, n1, c1, l1, b', p', A2, n2, c2, l2, rfl, HP, HQ, hb0⟩
  have HB0 := Lib.hid hb0
  clear hb0
  have e1 := HP.out.len
  have e2 := HQ.out.len
  subst e1 e2
  have hn1 := HP.out.few
  have hn2 := HQ.out.few
  have H : Hid (Pool w1 ((w1.alloc (Obj.cells #[.int .i64 b, .int .i64 p, .slice A1 l1.length c1] 26)).alloc (Obj.cells #[.int .i64 b', .int .i64 p', .slice A2 l2.length c2] 26)) [boxP (w1.heap.size + 1) (.int .i64 b') (.int .i64 p') (.slice A2 l2.length c2), boxP w1.heap.size (.int .i64 b) (.int .i64 p) (.slice A1 l1.length c1)]) := ((Pool.nil_ w1).addBox rfl _ _ _ _).addBox (by simp) _ _ _ _
  obtain ⟨rb, rp, rl, ok, hr⟩ : ∃ rb rp rl ok, joinR b p l1 b' p' l2 = ⟨rb, rp, rl, ok⟩ := ⟨_, _, _, _, rfl⟩
  have hrl : rl.length ≤ 1048576 := by have := joinR_len (b := b) (p := p) (b' := b') (p' := p') (l := l1) (l' := l2); rw [hr] at this; exact this
  have HR := Lib.hid hr
  clear hr
  obtain ⟨-, d0, d1, d2, dz⟩ := H.out.box 0 rfl
  obtain ⟨-, c0, c1', c2', cz⟩ := H.out.box 1 rfl
  go_wp2_with fail
  refine (implJoinPlans b p b' p' A1 A2 l1 l2 _ _ _ _ rfl rfl HP.out.cap HQ.out.cap HP.out.nil HQ.out.nil _ (by omega) (by omega) HP.out.small HQ.out.small (HP.out.rd.below H.out.below) (HQ.out.rd.below H.out.below)).mono ?_
  rw [HR.out]
  intro e w2 hret
  obtain ⟨A3, n3, c3, rfl, ho, hb⟩ := hret.open
  have H := Lib.hid (H.out.addOwn hb ho)
  have hl3 := (H.out.own 0 rfl).len
  subst hl3
  clear hret ho hb c0 c1' c2' cz d0 d1 d2 dz
  have H : Hid (Pool w1 (w2.alloc (Obj.cells #[.int .i64 rb, .int .i64 rp, .slice A3 rl.length c3] 26)) [boxP w2.heap.size (.int .i64 rb) (.int .i64 rp) (.slice A3 rl.length c3), ownP 9 1 strEnc (.slice A3 rl.length c3) rl, boxP (w1.heap.size + 1) (.int .i64 b') (.int .i64 p') (.slice A2 l2.length c2), boxP w1.heap.size (.int .i64 b) (.int .i64 p) (.slice A1 l1.length c1)]) := H.out.addBox rfl _ _ _ _
  obtain ⟨-, d0, d1, d2, dz⟩ := H.out.box 2 rfl
  obtain ⟨-, c0, c1', c2', cz⟩ := H.out.box 3 rfl
  go_wp2_with fail
  refine (specJoinPlans b p b' p' A1 A2 l1 l2 _ _ _ _ rfl rfl HP.out.nil HQ.out.nil _ (by omega) (by omega) HP.out.small HQ.out.small (HP.out.rd.below H.out.below) (HQ.out.rd.below H.out.below)).mono ?_
  rw [HR.out]
  intro e w3 hret
  obtain ⟨A4, n4, c4, rfl, ho, hb⟩ := hret.open
  have H := Lib.hid (H.out.addOwn hb ho)
  have hl4 := (H.out.own 0 rfl).len
  subst hl4
  clear hret ho hb c0 c1' c2' cz d0 d1 d2 dz
  have H : Hid (Pool w1 (w3.alloc (Obj.cells #[.int .i64 rb, .int .i64 rp, .slice A4 rl.length c4] 26)) [boxP w3.heap.size (.int .i64 rb) (.int .i64 rp) (.slice A4 rl.length c4), ownP 9 1 strEnc (.slice A4 rl.length c4) rl, boxP w2.heap.size (.int .i64 rb) (.int .i64 rp) (.slice A3 rl.length c3), ownP 9 1 strEnc (.slice A3 rl.length c3) rl, boxP (w1.heap.size + 1) (.int .i64 b') (.int .i64 p') (.slice A2 l2.length c2), boxP w1.heap.size (.int .i64 b) (.int .i64 p) (.slice A1 l1.length c1)]) := H.out.addBox rfl _ _ _ _
  obtain ⟨-, d0, d1, d2, dz⟩ := H.out.box 0 rfl
  obtain ⟨-, c0, c1', c2', cz⟩ := H.out.box 2 rfl
  go_wp2_with fail
  refine (soPlansSame rb rp A3 A4 rl _ c3 c4 rfl _ (by omega) ((H.out.own 3 rfl).rd strEnc_len) ((H.out.own 1 rfl).rd strEnc_len)).mono ?_
  rintro e w4 ⟨rfl, hb⟩
  have H := Lib.hid (H.out.step hb)
  clear hb c0 c1' c2' cz d0 d1 d2 dz
  obtain ⟨-, d0, d1, d2, dz⟩ := H.out.box 0 rfl
  obtain ⟨-, c0, c1', c2', cz⟩ := H.out.box 2 rfl
  cases ok
  · go_wp2_with fail
    refine (soPlansSame rb rp A3 A4 rl _ c3 c4 rfl _ (by omega) ((H.out.own 3 rfl).rd strEnc_len) ((H.out.own 1 rfl).rd strEnc_len)).mono ?_
    rintro e w5 ⟨rfl, hb⟩
    have H := Lib.hid (H.out.step hb)
    clear hb c0 c1' c2' cz d0 d1 d2 dz
    go_wp2
    go_ret
    exact ⟨rfl, below_step HB0.out H.out.below⟩
  · obtain ⟨hp1, hp2, hp3, rfl, rfl, rfl, rfl, hrl2⟩ := join_true HR.out
    have Hp1 := Lib.hid hp1
    have Hp2 := Lib.hid hp2
    have Hrl := Lib.hid hrl2
    have Hp3 : Hid (planOk b p rl = true) := by show _ = _; rw [hrl2]; exact hp3
    have hl60 : rl.length ≤ 60 ∧ 1 ≤ rl.length := ⟨planOk_len Hp3.out, (planOk_parts Hp3.out).2.2.1.1⟩
    obtain ⟨hl60, hl1⟩ := hl60
    have Hsum : Hid (rl.length = l1.length + l2.length) := by show _ = _; rw [hrl2, List.length_append]
    have Hzr : Hid (∀ x ∈ rl, x.size ≤ 1048576) := fun x hx => by
      rw [hrl2] at hx
      rcases List.mem_append.1 hx with hx | hx
      · exact HP.out.small x hx
      · exact HQ.out.small x hx
    clear hp1 hp2 hp3 hrl2 d0 d1 d2 dz
    have H : Hid (Pool w1 (w4.alloc (Obj.cells #[] 40)) [ownP 40 2 ltEnc (.slice (some ⟨w4.heap.size, 0, none⟩) 0 0) [], boxP w3.heap.size (.int .i64 b) (.int .i64 p) (.slice A4 rl.length c4), ownP 9 1 strEnc (.slice A4 rl.length c4) rl, boxP w2.heap.size (.int .i64 b) (.int .i64 p) (.slice A3 rl.length c3), ownP 9 1 strEnc (.slice A3 rl.length c3) rl, boxP (w1.heap.size + 1) (.int .i64 b) (.int .i64 p) (.slice A2 l2.length c2), boxP w1.heap.size (.int .i64 b) (.int .i64 p) (.slice A1 l1.length c1)]) := H.out.addOwn ((Below.refl _ _).alloc (Nat.le_refl _) _) (Own.lit0 w4 40 2 ltEnc)
    obtain ⟨j0, ji, jz0, jz1, jz2⟩ := info_parts lt_info
    clear c0 c1' c2' cz
    go_wp2_with fail
    go_loopw [11, 12] (fun s i wr => ∃ (j : Nat) (A5 : Option Addr) (c5 : Nat) (m : List Lt), j ≤ rl.length ∧ i = .int .i64 j ∧ s = .slice A5 j c5 ∧ Hid (∀ x ∈ m, x.2.size ≤ 1048576) ∧ Hid (Pool w1 wr [ownP 40 2 ltEnc (.slice A5 j c5) m, boxP w3.heap.size (.int .i64 b) (.int .i64 p) (.slice A4 rl.length c4), ownP 9 1 strEnc (.slice A4 rl.length c4) rl, boxP w2.heap.size (.int .i64 b) (.int .i64 p) (.slice A3 rl.length c3), ownP 9 1 strEnc (.slice A3 rl.length c3) rl, boxP (w1.heap.size + 1) (.int .i64 b) (.int .i64 p) (.slice A2 l2.length c2), boxP w1.heap.size (.int .i64 b) (.int .i64 p) (.slice A1 l1.length c1)])) (fun _ i _ => rl.length - (intOf i).toNat)
    case atStart => exact ⟨0, _, 0, [], Nat.zero_le _, rfl, rfl, (fun x hx => by cases hx), H.out⟩
    case round =>
      clear H
      obtain ⟨j, A5, c5, m, hj, rfl, rfl, Hs, H⟩ := hrel
      obtain ⟨-, c0, c1', c2', cz⟩ := H.out.box 3 rfl
      by_cases hlt : j < rl.length
      · obtain ⟨rr, hrr⟩ : ∃ rr, (j * 5 + M) % rl.length = rr := ⟨_, rfl⟩
        have hrl : rr < rl.length := by rw [← hrr]; exact Nat.mod_lt _ (by omega)
        have hrI : (rr : Int) < (rl.length : Int) := by omega
        obtain ⟨x, hx⟩ : ∃ x, rl[rr]? = some x := ⟨_, List.getElem?_eq_getElem hrl⟩
        obtain ⟨ad, rfl, hab, e0⟩ := ((H.out.own 4 rfl).rd strEnc_len).one hx rfl
        have Hxs := Lib.hid (Hzr.out x (List.mem_of_getElem? hx))
        have Hml := Lib.hid (H.out.own 0 rfl).len
        have HD := Lib.hid (H.out.alloc (Obj.cells #[.int .i64 (1 + (j : Int)), .string x] 40)).drew1
        have Hraw : Hid ((wr.alloc (Obj.cells #[.int .i64 (1 + (j : Int)), .string x] 40)).drew.ownsRow 0 40 2 (.slice A5 j c5) j (m.flatMap ltEnc)) := own_raw (HD.out.own 0 rfl)
        have Hnews : Hid (∀ (i : Nat) (z : Value), (ltEnc (1 + (j : Int), x))[i]? = some z → (wr.alloc (Obj.cells #[.int .i64 (1 + (j : Int)), .string x] 40)).drew.cell? (Addr.add ⟨wr.heap.size, 0, none⟩ i) = some z) := ltEnc_cells (1 + (j : Int), x) rfl
        have k2 := fun o => cell_alloc c2' o
        have k0 := fun o => cell_alloc e0 o
        have s1 : IntKind.i64.wrap (1 + (j : Int)) = 1 + (j : Int) := IntWalk.i64_in _ (by omega)
        have s2 : IntKind.i64.wrap ((j : Int) * 5) = (j : Int) * 5 := IntWalk.i64_in _ (by omega)
        have s3 : IntKind.i64.wrap ((j : Int) * 5 + (M : Int)) = (j : Int) * 5 + (M : Int) := IntWalk.i64_in _ (by omega)
        have s4 : ((j : Int) * 5 + (M : Int)).tmod (rl.length : Int) = (rr : Int) := by rw [Int.tmod_eq_emod_of_nonneg (by omega), ← hrr]; rfl
        have s5 : ((j : Int) * 5 + (M : Int)) % (rl.length : Int) = (rr : Int) := by rw [← hrr]; rfl
        have hl0 : ¬ (rl.length : Int) = 0 := by omega
        have hnil : ¬ rl = [] := by intro e; subst e; simp at hl1
        clear hx hrr
        go_wp2_with fail
        go_region_law (refine step_append_lies _ (by rfl) (.tmp 71) (.tmp 88) 38 (by rfl) 0 40 j0 _ 2 24 Try.underlying38 ji jz0 jz1 jz2 rfl (by decide) (.slice A5 j c5) j (m.flatMap ltEnc) (by rfl) Hraw.out _ 1 1 (ltEnc (1 + (j : Int), x)) (by rfl) (by rfl) Hnews.out (ltEnc_one _) (by decide) (by unfold maxLen; omega) (by omega) (Nat.zero_le _) _ rfl ?_; intro g3 c6 w6 hown6 hg6 hat6 hlt6)
        all_goals
          have H6 : Hid (Pool w1 w6 [ownP 40 2 ltEnc (.slice (some ⟨g3, 0, none⟩) (j + 1) c6) (m ++ [(1 + (j : Int), x)]), boxP w3.heap.size (.int .i64 b) (.int .i64 p) (.slice A4 rl.length c4), ownP 9 1 strEnc (.slice A4 rl.length c4) rl, boxP w2.heap.size (.int .i64 b) (.int .i64 p) (.slice (some ad) rl.length c3), ownP 9 1 strEnc (.slice (some ad) rl.length c3) rl, boxP (w1.heap.size + 1) (.int .i64 b) (.int .i64 p) (.slice A2 l2.length c2), boxP w1.heap.size (.int .i64 b) (.int .i64 p) (.slice A1 l1.length c1)]) := HD.out.append 0 rfl (own_push hown6 Hml.out) hg6 (fun q e => by injection e with e; subst e; rcases hat6 with h' | h'; exact .inl h'; exact .inr (by show _ ≤ g3; omega))
          go_wp2
          go_roundw
          case rel => exact ⟨j + 1, _, c6, _, by omega, by go_num, rfl, (fun y hy => by
            rcases List.mem_append.1 hy with hy | hy
            · exact Hs.out y hy
            · simp at hy; subst hy; exact Hxs.out), H6.out⟩
          case measure => simp [intOf]; omega
      · obtain rfl : j = rl.length := by omega
        have Hml := Lib.hid (H.out.own 0 rfl).len
        have Hcm := Lib.hid (H.out.own 0 rfl).cap_le
        have Hcx := Lib.hid (H.out.own 4 rfl).cap_le
        have hm60 : m.length ≤ 60 := by have := Hml.out; omega
        obtain ⟨f, k, ok, hr⟩ : ∃ f k ok, runR b p l1 m = ⟨f, k, ok⟩ := ⟨_, _, _, rfl⟩
        have hfk := runR_len (b := b) (p := p) (l := l1) (m := m) (by omega)
        rw [hr] at hfk
        have hfl : f.length ≤ 1048576 := hfk.1
        have hkl : k.length ≤ 1048576 := hfk.2
        have Hsk : Hid (∀ x ∈ k, x.2.size ≤ 1048576) := fun x hx => Hs.out x (run_k_mem Hp1.out hr x hx)
        obtain ⟨f2, hf2⟩ : ∃ f2, (runR b p l2 k).f = f2 := ⟨_, rfl⟩
        have hf2l : f2.length ≤ 1048576 := by rw [← hf2]; exact (runR_len (by omega)).1
        have Hj : Hid ((runR b p rl m).f = f ++ f2) := by
          show _ = _
          rw [Hrl.out, run_join Hp1.out Hp2.out (by rw [← Hrl.out]; exact Hp3.out) m, hr]
          show f ++ (runR b p l2 k).f = _
          rw [hf2]
        have hjl : (f ++ f2).length ≤ 1048576 := by rw [← Hj.out]; exact (runR_len (by omega)).1
        have Hr1 := Lib.hid hr
        have Hf2 := Lib.hid hf2
        clear hr hf2 hfk c0 c1' c2' cz
        obtain ⟨-, z0, z1, z2, zz⟩ := H.out.box 3 rfl
        obtain ⟨-, c0, c1', c2', cz⟩ := H.out.box 6 rfl
        go_wp2_with fail
        refine (implRunPlan b p A1 A5 l1 m _ _ _ _ rfl Hml.out HP.out.cap Hcm.out _ (by omega) (by omega) HP.out.small Hs.out (HP.out.rd.below H.out.below) ((H.out.own 0 rfl).rd ltEnc_len)).mono ?_
        rw [Hr1.out]
        intro e w7 hret
        obtain ⟨A6, n6, c6, A7, n7, c7, rfl, ho, ho', hd, hb⟩ := hret.open
        have H := Lib.hid (H.out.addOwn2 hb ho ho' hd)
        have e6 := ho.len
        have e7 := ho'.len
        subst e6 e7
        clear hret ho ho' hd hb c0 c1' c2' cz z0 z1 z2 zz
        have Hc7 := Lib.hid (H.out.own 1 rfl).cap_le
        obtain ⟨-, c0, c1', c2', cz⟩ := H.out.box 7 rfl
        go_wp2_with fail
        refine (soRunC b p A2 A7 l2 k _ _ _ _ rfl rfl HQ.out.cap Hc7.out _ (by omega) (by omega) HQ.out.small Hsk.out (HQ.out.rd.below H.out.below) ((H.out.own 1 rfl).rd ltEnc_len)).mono ?_
        rw [Hf2.out]
        rintro e w8 ⟨A8, n8, c8, rfl, ho, hb⟩
        have H := Lib.hid (H.out.addOwn hb ho)
        have e8 := ho.len
        subst e8
        clear ho hb c0 c1' c2' cz
        obtain ⟨-, c0, c1', c2', cz⟩ := H.out.box 6 rfl
        go_wp2_with fail
        refine (soRunC b p A3 A5 rl m _ _ _ _ rfl Hml.out Hcx.out Hcm.out _ (by omega) (by omega) Hzr.out Hs.out ((H.out.own 7 rfl).rd strEnc_len) ((H.out.own 3 rfl).rd ltEnc_len)).mono ?_
        rw [Hj.out]
        rintro e w9 ⟨A9, n9, c9, rfl, ho, hb⟩
        have H := Lib.hid (H.out.addOwn hb ho)
        have e9 : n9 = f.length + f2.length := by rw [ho.len, List.length_append]
        subst e9
        clear ho hb c0 c1' c2' cz
        have H0 : Hid (Pool w1 (w9.alloc (Obj.cells #[] 40)) _) := H.out.addOwn ((Below.refl _ _).alloc (Nat.le_refl _) _) (Own.lit0 w9 40 2 ltEnc)
        have Hn6 := Lib.hid (nil_cap (H0.out.own 3 rfl))
        have Hn8 := Lib.hid (nil_cap (H0.out.own 2 rfl))
        have Hr6 := Lib.hid ((H0.out.own 3 rfl).rd ltEnc_len)
        have hjl2 : f.length + f2.length ≤ 1048576 := by rw [List.length_append] at hjl; exact hjl
        clear H
        go_wp2_with (first
          | (have _g := G1; at_builtin; refine wpList_appendAt (.tmp 105) (.tmp 106) 38 40 lt_info Try.underlying38 rfl (by decide) rfl rfl rfl rfl (H7.out.own 0 rfl).len (H7.out.own 0 rfl) rfl Hn8.out ltEnc_len Hr8.out (fun y _ => ltEnc_one y) (by omega) (by omega) (Nat.zero_le _) ?_; intro A11 c11 w11 ho8 hg8 hat8; have H8 := Lib.hid (H7.out.append 0 rfl ho8 hg8 hat8); clear ho8 hg8 hat8)
          | (at_builtin; refine wpList_appendAt (.tmp 103) (.tmp 104) 38 40 lt_info Try.underlying38 rfl (by decide) rfl rfl rfl rfl (H0.out.own 0 rfl).len (H0.out.own 0 rfl) rfl Hn6.out ltEnc_len Hr6.out (fun y _ => ltEnc_one y) (by omega) (by omega) (Nat.zero_le _) ?_; intro A10 c10 w10 ho7 hg7 hat7; rw [Nat.zero_add] at ho7 hat7 ⊢; rw [List.nil_append] at ho7; have H7 := Lib.hid (H0.out.append 0 rfl ho7 hg7 hat7); have Hr8 := Lib.hid ((H7.out.own 2 rfl).rd ltEnc_len); have G1 : True := trivial; clear ho7 hg7 hat7)
          | fail)
        refine (soBatchSame A9 A11 (f ++ f2) _ c9 c11 (by rw [List.length_append]) _ (by omega) ((H8.out.own 1 rfl).rd ltEnc_len) ((H8.out.own 0 rfl).rd ltEnc_len)).mono ?_
        rintro e w12 ⟨rfl, hb⟩
        have H := Lib.hid (H8.out.step hb)
        clear hb H0 H7 H8
        obtain ⟨-, c0, c1', c2', cz⟩ := H.out.box 8 rfl
        obtain ⟨-, d0, d1, d2, dz⟩ := H.out.box 10 rfl
        obtain ⟨-, z0, z1, z2, zz⟩ := H.out.box 11 rfl
        go_wp2_with fail
        refine (implPlanValid b p A3 rl _ _ rfl Hcx.out _ (by omega) Hzr.out ((H.out.own 9 rfl).rd strEnc_len)).mono ?_
        rw [Hp3.out]
        rintro e w13 ⟨rfl, hb⟩
        have H := Lib.hid (H.out.step hb)
        clear hb c0 c1' c2' cz d0 d1 d2 dz z0 z1 z2 zz
        obtain ⟨-, c0, c1', c2', cz⟩ := H.out.box 8 rfl
        obtain ⟨-, d0, d1, d2, dz⟩ := H.out.box 10 rfl
        obtain ⟨-, z0, z1, z2, zz⟩ := H.out.box 11 rfl
        have hfin : ((rl.length : Int) == (l1.length : Int) + (l2.length : Int)) = true := by have := Hsum.out; simp; omega
        go_wp2
        go_ret
        exact ⟨rfl, below_step HB0.out H.out.below⟩
end Go.Proofs.Ytnfggnpemnebcaa
