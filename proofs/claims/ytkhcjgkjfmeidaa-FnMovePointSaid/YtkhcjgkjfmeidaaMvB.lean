/-
  A point of a round moved: the reference's.
-/
import Derived.Test.YtkhcjgkjfmeidaaMvA
import Derived.Test.YtkhcjgkjfmeidaaPlB
namespace Go.Proofs.Ytkhcjgkjfmeidaa
open Go.RowKit

theorem moveL_spec {l : List Str} {f t : Nat} {x : Str} (hx : l[f]? = some x) : (([] ++ (([] ++ l.take f) ++ l.drop (f + 1)).take t) ++ [x]) ++ (([] ++ l.take f) ++ l.drop (f + 1)).drop t = moveL l f t := by
  unfold moveL
  rw [hx, List.eraseIdx_eq_take_drop_succ]
  simp [Option.toList]

set_option maxHeartbeats 8000000 in
set_option maxRecDepth 100000 in
theorem specMovePoint (b p : Int) (A : Option Addr) (l : List Str) (n cap : Nat) (hl : n = l.length) (hcap : n ≤ cap) (f t : Int) (w : World) (hn : n ≤ 1048576) (hs : ∀ x ∈ l, x.size ≤ 1048576) (h : Rd w 1 strEnc A l) :
    Calls Try.prog 8 #[.agg #[.int .i64 b, .int .i64 p, .slice A n cap], .int .i64 f, .int .i64 t] w fun e w' => PlRet (moveR b p l f t) w e w' := by
  have Hl := Lib.hid hl
  have Hr := Lib.hid h
  have Hs := Lib.hid hs
  clear h hs hl
  have H : Hid (Pool w ((w.alloc (Obj.cells #[.int .i64 b, .int .i64 p, .slice A n cap] 25)).alloc (Obj.cells #[.int .i64 0, .int .i64 0, .slice none 0 0] 25)) [boxP (w.heap.size + 1) (.int .i64 0) (.int .i64 0) (.slice none 0 0), boxP w.heap.size (.int .i64 b) (.int .i64 p) (.slice A n cap)]) := ((Pool.nil_ w).addBox rfl _ _ _ _).addBox (by simp) _ _ _ _
  cases hv : planOk b p l
  · have Ht : Hid (moveR b p l f t = noPlR) := by show moveR _ _ _ _ _ = _; unfold moveR; rw [hv]; rfl
    go_enter Try.func8, Try.ntmps8
    go_wp2_with fail
    refine (specPlanValid b p A l _ _ Hl.out _ (by omega) Hs.out (Hr.out.below H.out.below)).mono ?_
    rw [hv]
    rintro e w1 ⟨rfl, hb⟩
    have H := Lib.hid (H.out.step hb)
    clear hb
    obtain ⟨-, r0, r1, r2, rz⟩ := H.out.box 0 rfl
    obtain ⟨s0, s1, s2⟩ := set3 r0 r1 r2 (.int .i64 0) (.int .i64 0) (.slice none 0 0)
    go_wp2
    refine bodyPost_ret (v := .tuple #[.agg #[.int .i64 0, .int .i64 0, .slice none 0 0], .bool false]) (by simp [results, Try.results8, go_sem, s0, s1, s2]) rfl ?_
    rw [Ht.out]
    exact ⟨none, 0, 0, rfl, Own.nil_ _ _ _ _ _, (H.out.setBox 0 rfl _ _ _).below⟩
  · by_cases hg : 0 ≤ f ∧ f < (n : Int)
    · have Hd1 : Hid (decide (0 ≤ f ∧ f < (n : Int)) = true) := decide_eq_true hg
      by_cases hg' : 0 ≤ t ∧ t < (n : Int)
      · have Hd2 : Hid (decide (0 ≤ t ∧ t < (n : Int)) = true) := decide_eq_true hg'
        obtain ⟨hf0, hf1⟩ := hg
        obtain ⟨ht0, ht1⟩ := hg'
        obtain ⟨fn, rfl⟩ := Int.eq_ofNat_of_zero_le hf0
        obtain ⟨tn, rfl⟩ := Int.eq_ofNat_of_zero_le ht0
        have hfn : fn < n := by omega
        have htn : tn < n := by omega
        have Ht : Hid (moveR b p l fn tn = ⟨b, p, moveL l fn tn, true⟩) := by
          show moveR _ _ _ _ _ = _
          unfold moveR
          rw [hv, decide_eq_true (by have := Hl.out; omega)]
          rfl
        obtain ⟨x, hx⟩ : ∃ x, l[fn]? = some x := ⟨_, List.getElem?_eq_getElem (by have := Hl.out; omega)⟩
        obtain ⟨ad, rfl, -, -⟩ := Hr.out.one hx rfl
        have Hx := Lib.hid hx
        clear hx
        obtain ⟨-, c0, c1, c2, -⟩ := H.out.box 1 rfl
        go_enter Try.func8, Try.ntmps8
        go_wp2_with fail
        refine (specPlanValid b p _ l _ _ Hl.out _ (by omega) Hs.out (Hr.out.below H.out.below)).mono ?_
        rw [hv]
        rintro e w1 ⟨rfl, hb⟩
        clear c0 c1 c2
        have H := Lib.hid (H.out.step hb)
        clear hb
        obtain ⟨-, c0, c1, c2, -⟩ := H.out.box 1 rfl
        go_wp2_with fail
        refine (passIn _ _ _).mono ?_
        rw [Hd1.out]
        rintro e w2 ⟨rfl, rfl⟩
        go_wp2_with fail
        refine (passIn _ _ _).mono ?_
        rw [Hd2.out]
        rintro e w2 ⟨rfl, rfl⟩
        obtain ⟨f1, hf1e⟩ : ∃ f1, fn + 1 = f1 := ⟨_, rfl⟩
        have hw1 : IntKind.i64.wrap ((fn : Int) + 1) = (f1 : Int) := (IntWalk.i64_in _ (by omega)).trans (by omega)
        have z1 : (0 : Int) ≤ (fn : Int) := by omega
        have z2 : (fn : Int) ≤ (n : Int) := by omega
        have z3 : (fn : Int) ≤ (cap : Int) := by omega
        have z4 : (0 : Int) ≤ (f1 : Int) := by omega
        have z5 : (f1 : Int) ≤ (n : Int) := by omega
        have z6 : (n : Int) ≤ (cap : Int) := by omega
        have z7 : (f1 : Int) ≤ (cap : Int) := by omega
        have z8 : (n : Int) - (f1 : Int) = ((n - f1 : Nat) : Int) := by omega
        have z9 : (cap : Int) - (f1 : Int) = ((cap - f1 : Nat) : Int) := by omega
        go_upto_region 3 with fail
        have K0 : Hid (Pool w (w1.alloc (Obj.cells #[] 9)).drew (ownP 9 1 strEnc (.slice (some ⟨w1.heap.size, 0, none⟩) 0 0) [] :: [boxP (w.heap.size + 1) (.int .i64 0) (.int .i64 0) (.slice none 0 0), boxP w.heap.size (.int .i64 b) (.int .i64 p) (.slice (some ad) n cap)])) := (H.out.addOwn ((Below.refl _ _).alloc (Nat.le_refl _) _) (Own.lit0 w1 9 1 strEnc)).drew1
        have c2' := fun o => cell_alloc c2 o
        obtain ⟨n1, hn1⟩ : ∃ n1, fn + (n - f1) = n1 := ⟨_, rfl⟩
        have HrT : Hid (∀ wx, Below w.heap.size w wx → Rd wx 1 strEnc (some ad) (l.take fn)) := fun wx hb => (Hr.out.below hb).take fn
        have HrD : Hid (∀ wx, Below w.heap.size w wx → Rd wx 1 strEnc (if cap = f1 then some ad else some (ad.add f1)) (l.drop f1)) := fun wx hb => by
          have h := (Hr.out.below hb).drop (k := f1) (cap := cap) (by have := Hl.out; omega)
          rw [Nat.mul_one] at h
          exact h
        have HlT : Hid (fn = (l.take fn).length) := by show _ = _; rw [List.length_take]; have := Hl.out; omega
        have HlD : Hid (n - f1 = (l.drop f1).length) := by show _ = _; rw [List.length_drop]; have := Hl.out; omega
        have HnD : Hid ((if cap = f1 then some ad else some (ad.add f1)) = none → cap - f1 = 0) := fun e => by split at e <;> cases e
        go_region_held3 (fun w' => w'.cell? ⟨w.heap.size, 2, none⟩ = some (.slice (some ad) n cap))
          (with_reducible first
            | exact dr c2
            | exact dr (cell_alloc c2 _)
            | exact (HB.out.box 2 rfl).c2
            | exact (HA.out.box 2 rfl).c2
            | fail)
          (first
            | (with_reducible show (if _ then Oper.wp _ _ _ (w1.alloc (Obj.cells #[] 9)).drew _ _ else _); refine step_appendS (.tmp 32) (.tmp 36) K0.out 0 rfl (HrT.out _ K0.out.below) HlT.out (fun e => by cases e) rfl rfl rfl rfl rfl rfl fn (by simp) (by omega) ?_; intro g3 c3 w3 HA)
            | (with_reducible show (if _ then Oper.wp _ _ _ w3 _ _ else _); refine step_appendS (.tmp 37) (.tmp 42) HA.out 0 rfl (HrD.out _ HA.out.below) HlD.out HnD.out rfl rfl rfl rfl rfl (by rw [List.nil_append]; exact HlT.out) n1 hn1.symm (by omega) ?_; intro g4 c4 w4 HB)
            | fail)
        clear HA K0 c0 c1 c2 c2' HrT HrD HnD
        obtain ⟨A9, hA9⟩ : ∃ A9, (if cap = f1 then some ad else some (ad.add f1)) = A9 := ⟨_, rfl⟩
        rw [hA9]
        clear hA9
        obtain ⟨lr, hlr⟩ : ∃ lr, ([] ++ l.take fn) ++ l.drop f1 = lr := ⟨_, rfl⟩
        have H : Hid (Pool w w4 [ownP 9 1 strEnc (.slice (some ⟨g4, 0, none⟩) n1 c4) lr, boxP (w.heap.size + 1) (.int .i64 0) (.int .i64 0) (.slice none 0 0), boxP w.heap.size (.int .i64 b) (.int .i64 p) (.slice (some ad) n cap)]) := by rw [← hlr]; exact HB.out
        have Hlr := Lib.hid hlr
        clear HB hlr HlT HlD
        have Hlen : Hid (n1 = lr.length) := (H.out.own 0 rfl).len
        have hc4 : n1 ≤ c4 := (H.out.own 0 rfl).cap_le
        obtain ⟨-, c0, c1, c2, -⟩ := H.out.box 2 rfl
        obtain ⟨ad', hade, hab, e0⟩ := (Hr.out.below H.out.below).one Hx.out rfl
        injection hade with hade
        subst hade
        obtain ⟨t1, ht1e⟩ : ∃ t1, tn + 1 = t1 := ⟨_, rfl⟩
        have y1 : (0 : Int) ≤ (tn : Int) := by omega
        have y2 : (tn : Int) ≤ (n1 : Int) := by omega
        have y3 : (tn : Int) ≤ (c4 : Int) := by omega
        have y4 : (n1 : Int) - (tn : Int) = ((n1 - tn : Nat) : Int) := by omega
        have y5 : (c4 : Int) - (tn : Int) = ((c4 - tn : Nat) : Int) := by omega
        have y6 : (n1 : Int) ≤ (c4 : Int) := by omega
        have y7 : (fn : Int) < (n : Int) := by omega
        clear z1 z2 z3 z4 z5 z6 z7 z8 z9 hw1
        have HtT : Hid (tn = (lr.take tn).length) := by show _ = _; rw [List.length_take]; have := Hlen.out; omega
        go_upto_region 4 with fail
        have KS : Hid (∀ wx, Below w4.heap.size w4 wx → wx.cell? ⟨w.heap.size, 2, none⟩ = some (.slice (some ad) n cap) ∧ wx.cell? (ad.add fn) = some (.string x)) := fun wx hb => ⟨below_cell hb c2, below_cell hb e0⟩
        have KA : Hid (Pool w4 (w4.alloc (Obj.cells #[] 9)).drew [ownP 9 1 strEnc (.slice (some ⟨w4.heap.size, 0, none⟩) 0 0) []]) := ((Pool.nil_ w4).addOwn ((Below.refl _ _).alloc (Nat.le_refl _) _) (Own.lit0 w4 9 1 strEnc)).drew1
        have KB : Hid (Pool w4 ((w4.alloc (Obj.cells #[] 9)).alloc (Obj.cells #[.string x] 9)).drew [ownP 9 1 strEnc (.slice (some ⟨w4.heap.size + 1, 0, none⟩) 1 1) [x], ownP 9 1 strEnc (.slice (some ⟨w4.heap.size, 0, none⟩) 0 0) []]) := by
          have h := (((Pool.nil_ w4).addOwn ((Below.refl _ _).alloc (Nat.le_refl _) _) (Own.lit0 w4 9 1 strEnc)).addOwn ((Below.refl _ _).alloc (Nat.le_refl _) _) (ownLit1 (w4.alloc (Obj.cells #[] 9)) x 9)).drew1
          rw [World.size_alloc] at h
          exact h
        have KC : Hid (Pool w4 ((w4.alloc (Obj.cells #[.string x] 9)).alloc (Obj.cells #[] 9)).drew [ownP 9 1 strEnc (.slice (some ⟨w4.heap.size, 0, none⟩) 1 1) [x], ownP 9 1 strEnc (.slice (some ⟨w4.heap.size + 1, 0, none⟩) 0 0) []]) := by
          have h := (((Pool.nil_ w4).addOwn ((Below.refl _ _).alloc (Nat.le_refl _) _) (ownLit1 w4 x 9)).addOwn ((Below.refl _ _).alloc (Nat.le_refl _) _) (Own.lit0 (w4.alloc (Obj.cells #[.string x] 9)) 9 1 strEnc)).drew1
          rw [World.size_alloc] at h
          exact h.perm (List.Perm.swap _ _ _)
        have HrR : Hid (∀ wx, Below w4.heap.size w4 wx → Rd wx 1 strEnc (some ⟨g4, 0, none⟩) (lr.take tn)) := fun wx hb => (((H.out.own 0 rfl).rd strEnc_len).below hb).take tn
        have hk0 : Below w4.heap.size w4 w4.drew := (Pool.nil_ w4).drew1.below
        have hka := KA.out.below
        have hkx : Below w4.heap.size w4 (w4.alloc (Obj.cells #[.string x] 9)).drew := ((Pool.nil_ w4).alloc _).drew1.below
        have hky : Below w4.heap.size w4 (w4.alloc (Obj.cells #[] 9)) := ((Pool.nil_ w4).alloc _).below
        have hkz : Below w4.heap.size w4 (w4.alloc (Obj.cells #[.string x] 9)) := ((Pool.nil_ w4).alloc _).below
        have hkb := KB.out.below
        have hkc := KC.out.below
        have hsv : ∀ o, (w4.alloc o).cell? ⟨w.heap.size, 2, none⟩ = some (.slice (some ad) n cap) := fun o => cell_alloc c2 o
        go_cut [9] from 44 to 55 (fun s wx => ∃ g6 c6, s = .slice (some ⟨g6, 0, none⟩) t1 c6 ∧ Hid (Pool w4 wx [ownP 9 1 strEnc (.slice (some ⟨g6, 0, none⟩) t1 c6) (([] ++ lr.take tn) ++ [x])]))
        case first =>
          go_region_held3 (fun w' => w'.cell? ⟨w.heap.size, 2, none⟩ = some (.slice (some ad) n cap) ∧ w'.cell? (ad.add fn) = some (.string x))
            (with_reducible first
              | exact KS.out _ hk0
              | exact KS.out _ hka
              | exact KS.out _ hkb
              | exact KS.out _ hkx
              | exact KS.out _ hky
              | exact KS.out _ hkz
              | exact KS.out _ hkc
              | exact KS.out _ ((Below.refl _ w4).alloc (Nat.le_refl _) _)
              | exact KS.out _ (below_drewN ((Below.refl _ w4).alloc (Nat.le_refl _) _) 1)
              | exact KS.out _ HJ.out.below
              | exact KS.out _ HD.out.below
              | exact KS.out _ HA.out.below
              | exact KS.out _ HB.out.below
              | exact KS.out _ HC.out.below
              | exact KS.out _ (HA.out.below.alloc HA.out.below.size _)
              | fail)
            (first
              | (with_reducible show (if _ then Oper.wp _ _ _ (w4.alloc (Obj.cells #[] 9)).drew _ _ else _); refine step_appendS (.tmp 44) (.tmp 47) KA.out 0 rfl (HrR.out _ hka) HtT.out (fun e => by cases e) rfl rfl rfl rfl rfl rfl tn (by simp) (by omega) ?_; intro g5 c5 w5 HA)
              | (with_reducible show (if _ then Oper.wp _ _ _ ((w4.alloc (Obj.cells #[] 9)).alloc (Obj.cells #[.string x] 9)).drew _ _ else _); refine step_appendS (.tmp 44) (.tmp 47) KB.out 1 rfl (HrR.out _ hkb) HtT.out (fun e => by cases e) rfl rfl rfl rfl rfl rfl tn (by simp) (by omega) ?_; intro g5 c5 w5 HB)
              | (with_reducible show (if _ then Oper.wp _ _ _ ((w4.alloc (Obj.cells #[.string x] 9)).alloc (Obj.cells #[] 9)).drew _ _ else _); refine step_appendS (.tmp 44) (.tmp 47) KC.out 1 rfl (HrR.out _ hkc) HtT.out (fun e => by cases e) rfl rfl rfl rfl rfl rfl tn (by simp) (by omega) ?_; intro g5 c5 w5 HC)
              | (with_reducible show (if _ then Oper.wp _ _ _ (w5.alloc (Obj.cells #[.string x] 9)) _ _ else _); have HD := Lib.hid (HA.out.addOwn ((Below.refl _ _).alloc (Nat.le_refl _) _) (ownLit1 w5 x 9)); refine step_appendS (.tmp 48) (.tmp 54) HD.out 1 rfl ((HD.out.own 0 rfl).rd strEnc_len) rfl (fun e => by cases e) rfl rfl rfl rfl rfl (by rw [List.nil_append]; exact HtT.out) t1 ht1e.symm (by omega) ?_; intro g6 c6 w6 HJ)
              | (with_reducible show (if _ then Oper.wp _ _ _ w5 _ _ else _); refine step_appendS (.tmp 48) (.tmp 54) HB.out 1 rfl ((HB.out.own 0 rfl).rd strEnc_len) rfl (fun e => by cases e) rfl rfl rfl rfl rfl (by rw [List.nil_append]; exact HtT.out) t1 ht1e.symm (by omega) ?_; intro g6 c6 w6 HJ)
              | (with_reducible show (if _ then Oper.wp _ _ _ w5 _ _ else _); refine step_appendS (.tmp 48) (.tmp 54) HC.out 1 rfl ((HC.out.own 0 rfl).rd strEnc_len) rfl (fun e => by cases e) rfl rfl rfl rfl rfl (by rw [List.nil_append]; exact HtT.out) t1 ht1e.symm (by omega) ?_; intro g6 c6 w6 HJ)
              | fail)
          all_goals
            go_wp2_with fail
            go_meet
            exact ⟨g6, c6, rfl, HJ.out.drop 0⟩
        case rest =>
        obtain ⟨g6, c6, rfl, HX⟩ := hcut
        have HP := Lib.hid (H.out.join HX.out)
        clear HX KA KB KC KS HrR hk0 hka hkb hkc hkx hky hkz hsv H c0 c1 c2 e0 y1 y2 y3 y6 y7 HtT
        have HtT : Hid (t1 = (([] ++ lr.take tn) ++ [x]).length) := (HP.out.own 0 rfl).len
        obtain ⟨-, c0, c1, c2, -⟩ := HP.out.box 3 rfl
        obtain ⟨nn, hnn⟩ : ∃ nn, t1 + (n1 - tn) = nn := ⟨_, rfl⟩
        have y1 : (0 : Int) ≤ (tn : Int) := by omega
        have y2 : (tn : Int) ≤ (n1 : Int) := by omega
        have y3 : (tn : Int) ≤ (c4 : Int) := by omega
        have y6 : (n1 : Int) ≤ (c4 : Int) := by omega
        have HrD : Hid (Rd wc 1 strEnc (if c4 = tn then some ⟨g4, 0, none⟩ else some ⟨g4, tn, none⟩) (lr.drop tn)) := by
          have h := ((HP.out.own 1 rfl).rd strEnc_len).drop (k := tn) (cap := c4) (by have := Hlen.out; omega)
          rw [Nat.mul_one, Option.map_some, show (⟨g4, 0, none⟩ : Addr).add tn = ⟨g4, tn, none⟩ from by unfold Addr.add; split <;> simp_all] at h
          exact h
        have HlD : Hid (n1 - tn = (lr.drop tn).length) := by show _ = _; rw [List.length_drop]; have := Hlen.out; omega
        have HnD : Hid ((if c4 = tn then some (⟨g4, 0, none⟩ : Addr) else some ⟨g4, tn, none⟩) = none → c4 - tn = 0) := fun e => by split at e <;> cases e
        have KS : Hid (∀ wx, Below wc.heap.size wc wx → wx.cell? ⟨w.heap.size, 0, none⟩ = some (.int .i64 b) ∧ wx.cell? ⟨w.heap.size, 1, none⟩ = some (.int .i64 p)) := fun wx hb => ⟨below_cell hb c0, below_cell hb c1⟩
        have HPd := Lib.hid HP.out.drew1
        have HrDd : Hid (Rd wc.drew 1 strEnc (if c4 = tn then some ⟨g4, 0, none⟩ else some ⟨g4, tn, none⟩) (lr.drop tn)) := HrD.out.drewN 1
        have hkd : Below wc.heap.size wc wc.drew := (Pool.nil_ wc).drew1.below
        have x1 : ¬ w.heap.size + 1 = w.heap.size := by omega
        have x2 : ¬ w.heap.size = w.heap.size + 1 := by omega
        go_wp2_with fail
        go_region_held3 (fun w' => w'.cell? ⟨w.heap.size, 0, none⟩ = some (.int .i64 b) ∧ w'.cell? ⟨w.heap.size, 1, none⟩ = some (.int .i64 p))
          (with_reducible first
            | exact KS.out _ hkd
            | exact ⟨(HJ.out.box 3 rfl).c0, (HJ.out.box 3 rfl).c1⟩
            | exact ⟨((HJ.out.setBox 2 rfl _ _ _).box 3 rfl).c0, ((HJ.out.setBox 2 rfl _ _ _).box 3 rfl).c1⟩
            | fail)
          (first
            | (with_reducible show (if _ then Oper.wp _ _ _ wc.drew _ _ else _); refine step_appendS (.tmp 60) (.tmp 63) HPd.out 0 rfl HrDd.out HlD.out HnD.out rfl rfl rfl rfl rfl HtT.out nn hnn.symm (by omega) ?_; intro g7 c7 w7 HJ; obtain ⟨-, q0, q1, q2, qz⟩ := HJ.out.box 2 rfl; obtain ⟨s0, s1, s2⟩ := set3 q0 q1 q2 (.int .i64 b) (.int .i64 p) (.slice (some ⟨g7, 0, none⟩) nn c7))
            | fail)
        have hnnl : Hid (([] ++ lr.take tn ++ [x]) ++ lr.drop tn = moveL l fn tn) := by
          rw [← Hlr.out, ← hf1e]
          exact moveL_spec Hx.out
        all_goals
          clear c0 c1 c2 hkd HPd HrDd HrD HlD HnD KS
          obtain ⟨A7, hA7⟩ : ∃ A7, (if c4 = tn then some (⟨g4, 0, none⟩ : Addr) else some ⟨g4, tn, none⟩) = A7 := ⟨_, rfl⟩
          rw [hA7]
          clear hA7
          go_wp2_with fail
          refine bodyPost_ret (v := .tuple #[.agg #[.int .i64 b, .int .i64 p, .slice (some ⟨g7, 0, none⟩) nn c7], .bool true]) (by simp [results, Try.results8, go_sem, s0, s1, s2]) rfl ?_
          rw [Ht.out]
          refine ⟨some ⟨g7, 0, none⟩, nn, c7, rfl, ?_, (HJ.out.setBox 2 rfl _ _ _).below⟩
          show Own _ _ _ _ _ _ (moveL l fn tn)
          rw [← hnnl.out]
          exact (HJ.out.setBox 2 rfl _ _ _).res 0 rfl
      · have Hd2 : Hid (decide (0 ≤ t ∧ t < (n : Int)) = false) := decide_eq_false hg'
        have Ht : Hid (moveR b p l f t = noPlR) := by
          show moveR _ _ _ _ _ = _
          unfold moveR
          rw [hv, decide_eq_false (by have := Hl.out; omega)]
          rfl
        clear hg hg'
        obtain ⟨-, c0, c1, c2, -⟩ := H.out.box 1 rfl
        go_enter Try.func8, Try.ntmps8
        go_wp2_with fail
        refine (specPlanValid b p A l _ _ Hl.out _ (by omega) Hs.out (Hr.out.below H.out.below)).mono ?_
        rw [hv]
        rintro e w1 ⟨rfl, hb⟩
        clear c0 c1 c2
        have H := Lib.hid (H.out.step hb)
        clear hb
        obtain ⟨-, c0, c1, c2, -⟩ := H.out.box 1 rfl
        go_wp2_with fail
        refine (passIn _ _ _).mono ?_
        rw [Hd1.out]
        rintro e w2 ⟨rfl, rfl⟩
        go_wp2_with fail
        refine (passIn _ _ _).mono ?_
        rw [Hd2.out]
        rintro e w2 ⟨rfl, rfl⟩
        obtain ⟨-, r0, r1, r2, rz⟩ := H.out.box 0 rfl
        obtain ⟨s0, s1, s2⟩ := set3 r0 r1 r2 (.int .i64 0) (.int .i64 0) (.slice none 0 0)
        go_wp2
        refine bodyPost_ret (v := .tuple #[.agg #[.int .i64 0, .int .i64 0, .slice none 0 0], .bool false]) (by simp [results, Try.results8, go_sem, s0, s1, s2]) rfl ?_
        rw [Ht.out]
        exact ⟨none, 0, 0, rfl, Own.nil_ _ _ _ _ _, (H.out.setBox 0 rfl _ _ _).below⟩
    · have Hd1 : Hid (decide (0 ≤ f ∧ f < (n : Int)) = false) := decide_eq_false hg
      have Ht : Hid (moveR b p l f t = noPlR) := by
        show moveR _ _ _ _ _ = _
        unfold moveR
        rw [hv, decide_eq_false (by have := Hl.out; omega)]
        rfl
      clear hg
      obtain ⟨-, c0, c1, c2, -⟩ := H.out.box 1 rfl
      go_enter Try.func8, Try.ntmps8
      go_wp2_with fail
      refine (specPlanValid b p A l _ _ Hl.out _ (by omega) Hs.out (Hr.out.below H.out.below)).mono ?_
      rw [hv]
      rintro e w1 ⟨rfl, hb⟩
      clear c0 c1 c2
      have H := Lib.hid (H.out.step hb)
      clear hb
      obtain ⟨-, c0, c1, c2, -⟩ := H.out.box 1 rfl
      go_wp2_with fail
      refine (passIn _ _ _).mono ?_
      rw [Hd1.out]
      rintro e w2 ⟨rfl, rfl⟩
      obtain ⟨-, r0, r1, r2, rz⟩ := H.out.box 0 rfl
      obtain ⟨s0, s1, s2⟩ := set3 r0 r1 r2 (.int .i64 0) (.int .i64 0) (.slice none 0 0)
      go_wp2
      refine bodyPost_ret (v := .tuple #[.agg #[.int .i64 0, .int .i64 0, .slice none 0 0], .bool false]) (by simp [results, Try.results8, go_sem, s0, s1, s2]) rfl ?_
      rw [Ht.out]
      exact ⟨none, 0, 0, rfl, Own.nil_ _ _ _ _ _, (H.out.setBox 0 rfl _ _ _).below⟩
end Go.Proofs.Ytkhcjgkjfmeidaa
