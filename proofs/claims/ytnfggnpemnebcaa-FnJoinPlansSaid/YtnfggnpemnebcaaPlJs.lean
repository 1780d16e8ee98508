/-
  Two plans joined: the reference's.
-/
import Derived.Test.YtnfggnpemnebcaaPlJb
namespace Go.Proofs.Ytnfggnpemnebcaa
open Go.RowKit

/-- append onto a list of texts of the pool, as a step of a region that draws. -/
theorem step_appendP {P : Program} {w0 w : World} {ps : List Piece} {ops : Array Oper} {o : Oper} {a : Act} {K : Act → World → Prop} {Q : Exit → Act → World → Prop} {F : Prop} (s x : Operand) {k n c : Nat} {v : Value} {l ys : List Str} {A : Option Addr} {t : TypeId}
    (H : Pool w0 w ps) (i : Nat) (hi : ps[i]? = some (ownP 9 1 strEnc v l)) (hy : Rd w0 1 strEnc A ys) (hn : n = ys.length) (hnil : A = none → c = 0)
    (hinfo : (P.info? 9).map (fun i => (i.zero, i.size, i.bytes)) = some (some (.string ByteArray.empty), 1, 16)) (ht : P.underlying t = some (.slice 9))
    (ho : (o.guard, o.op) = (none, .call { callee := .builtin .append, args := #[s, x], argTypes := #[t, t] }))
    (hs : a.eval s = v) (hx : a.eval x = .slice A n c) (hk : k = l.length) (m : Nat) (hm : m = k + n) (hl : m * 16 ≤ 140737488355328)
    (h : ∀ A' c' w', Hid (Pool w0 w' (ps.set i (ownP 9 1 strEnc (.slice A' m c') (l ++ ys)))) → K (a.put o.dst (.slice A' m c')) w') :
    if Region.wanted o (yielded ops a.tmps) = true then Oper.wp P o a w K Q else F := by
  subst hm
  injection ho with hgd hop
  refine step_appendL s x t 9 hinfo ht rfl (by decide) hgd hop hs hx hk (H.own i hi) hn hnil strEnc_len (hy.below H.below) (fun y _ u hu => by simp [strEnc] at hu; subst hu; rfl) hl (by omega) (Nat.zero_le _) fun A' c' w' ho hg hat => h A' c' w' (H.append i hi ho hg fun k e => ?_)
  rcases hat with h | h
  · exact .inl (h.symm.trans e)
  · exact .inr (by have := Option.some.inj (h.symm.trans e); omega)

set_option maxHeartbeats 4000000 in
set_option maxRecDepth 100000 in
theorem specJoinPlans (b p b' p' : Int) (A A' : Option Addr) (l l' : List Str) (n cap n' cap' : Nat) (hl : n = l.length) (hl' : n' = l'.length) (hnil : A = none → cap = 0) (hnil' : A' = none → cap' = 0) (w : World) (hn : n ≤ 1048576) (hn' : n' ≤ 1048576) (hs : ∀ x ∈ l, x.size ≤ 1048576) (hs' : ∀ x ∈ l', x.size ≤ 1048576) (h : Rd w 1 strEnc A l) (h' : Rd w 1 strEnc A' l') :
    Calls Try.prog 10 #[.agg #[.int .i64 b, .int .i64 p, .slice A n cap], .agg #[.int .i64 b', .int .i64 p', .slice A' n' cap']] w fun e w' => PlRet (joinR b p l b' p' l') w e w' := by
  have Hl := Lib.hid hl
  have Hl' := Lib.hid hl'
  have Hr := Lib.hid h
  have Hr' := Lib.hid h'
  have Hs := Lib.hid hs
  have Hs' := Lib.hid hs'
  have Hnil := Lib.hid hnil
  have Hnil' := Lib.hid hnil'
  clear h h' hs hs' hl hl' hnil hnil'
  have H : Hid (Pool w (((w.alloc (Obj.cells #[.int .i64 b, .int .i64 p, .slice A n cap] 26)).alloc (Obj.cells #[.int .i64 b', .int .i64 p', .slice A' n' cap'] 26)).alloc (Obj.cells #[.int .i64 0, .int .i64 0, .slice none 0 0] 26)) [boxP (w.heap.size + 1 + 1) (.int .i64 0) (.int .i64 0) (.slice none 0 0), boxP (w.heap.size + 1) (.int .i64 b') (.int .i64 p') (.slice A' n' cap'), boxP w.heap.size (.int .i64 b) (.int .i64 p) (.slice A n cap)]) := (((Pool.nil_ w).addBox rfl _ _ _ _).addBox (by simp) _ _ _ _).addBox (by simp) _ _ _ _
  go_enter Try.func10, Try.ntmps10
  go_upto_region 1 with fail
  generalize (((w.alloc (Obj.cells #[.int .i64 b, .int .i64 p, .slice A n cap] 26)).alloc (Obj.cells #[.int .i64 b', .int .i64 p', .slice A' n' cap'] 26)).alloc (Obj.cells #[.int .i64 0, .int .i64 0, .slice none 0 0] 26)) = w1 at H ⊢
  obtain ⟨-, d0, d1, d2, -⟩ := H.out.box 1 rfl
  obtain ⟨-, c0, c1, c2, -⟩ := H.out.box 2 rfl
  have hzz := (H.out.box 0 rfl).lt
  have Hr1 := Lib.hid (Hr.out.below H.out.below)
  have Hr1' := Lib.hid (Hr'.out.below H.out.below)
  have KA : Hid (Pool w1 (w1.alloc (Obj.cells #[] 9)).drew [ownP 9 1 strEnc (.slice (some ⟨w1.heap.size, 0, none⟩) 0 0) []]) := ((Pool.nil_ w1).addOwn ((Below.refl _ _).alloc (Nat.le_refl _) _) (Own.lit0 w1 9 1 strEnc)).drew1
  have KB : Hid (Pool w1 ((w1.alloc (Obj.cells #[] 9)).alloc (Obj.cells #[.int .i64 0, .int .i64 0, .slice none 0 0] 26)).drew [boxP (w1.heap.size + 1) (.int .i64 0) (.int .i64 0) (.slice none 0 0), ownP 9 1 strEnc (.slice (some ⟨w1.heap.size, 0, none⟩) 0 0) []]) := (((Pool.nil_ w1).addOwn ((Below.refl _ _).alloc (Nat.le_refl _) _) (Own.lit0 w1 9 1 strEnc)).addBox (by simp) _ _ _ _).drew1
  have KC : Hid (Pool w1 ((w1.alloc (Obj.cells #[.int .i64 0, .int .i64 0, .slice none 0 0] 26)).alloc (Obj.cells #[] 9)).drew [ownP 9 1 strEnc (.slice (some ⟨w1.heap.size + 1, 0, none⟩) 0 0) [], boxP w1.heap.size (.int .i64 0) (.int .i64 0) (.slice none 0 0)]) := by
    have h := (((Pool.nil_ w1).addBox rfl (.int .i64 0) (.int .i64 0) (.slice none 0 0) 26).addOwn ((Below.refl _ _).alloc (Nat.le_refl _) _) (Own.lit0 (w1.alloc (Obj.cells #[.int .i64 0, .int .i64 0, .slice none 0 0] 26)) 9 1 strEnc)).drew1
    rw [World.size_alloc] at h
    exact h
  have hb7 : Below w1.heap.size w1 w1 := Below.refl _ _
  have hb8 : Below w1.heap.size w1 w1 := Below.refl _ _
  go_cut [6] from 7 to 18 (fun t wx => ∃ gz A3 k3, t = .pointer (some ⟨gz, 0, none⟩) ∧ Hid (Pool w1 wx [ownP 9 1 strEnc (.slice A3 (n + n') k3) (l ++ l'), boxP gz (.int .i64 b) (.int .i64 p) (.slice A3 (n + n') k3)]))
  case first =>
    go_region_held3 (fun w' => w'.cell? ⟨w.heap.size, 0, none⟩ = some (.int .i64 b) ∧ w'.cell? ⟨w.heap.size, 1, none⟩ = some (.int .i64 p) ∧ w'.cell? ⟨w.heap.size, 2, none⟩ = some (.slice A n cap) ∧ w'.cell? ⟨w.heap.size + 1, 2, none⟩ = some (.slice A' n' cap'))
      (with_reducible first
        | exact ⟨dr c0, dr c1, dr c2, dr d2⟩
        | exact ⟨dr (cell_alloc c0 _), dr (cell_alloc c1 _), dr (cell_alloc c2 _), dr (cell_alloc d2 _)⟩
        | exact ⟨dr (cell_alloc (cell_alloc c0 _) _), dr (cell_alloc (cell_alloc c1 _) _), dr (cell_alloc (cell_alloc c2 _) _), dr (cell_alloc (cell_alloc d2 _) _)⟩
        | exact ⟨below_cell hb7 c0, below_cell hb7 c1, below_cell hb7 c2, below_cell hb7 d2⟩
        | exact ⟨cell_alloc (below_cell hb7 c0) _, cell_alloc (below_cell hb7 c1) _, cell_alloc (below_cell hb7 c2) _, cell_alloc (below_cell hb7 d2) _⟩
        | exact ⟨below_cell hb8 c0, below_cell hb8 c1, below_cell hb8 c2, below_cell hb8 d2⟩
        | exact ⟨cell_alloc (below_cell hb8 c0) _, cell_alloc (below_cell hb8 c1) _, cell_alloc (below_cell hb8 c2) _, cell_alloc (below_cell hb8 d2) _⟩
        | exact ⟨keepS (below_cell hb7 c0) (by omega), keepS (below_cell hb7 c1) (by omega), keepS (below_cell hb7 c2) (by omega), keepS (below_cell hb7 d2) (by omega)⟩
        | fail)
      (first
        | (with_reducible show (if _ then Oper.wp _ _ _ (w1.alloc (Obj.cells #[] 9)).drew _ _ else _); refine step_appendP (.tmp 11) (.tmp 13) KA.out 0 rfl Hr1.out Hl.out Hnil.out rfl rfl rfl rfl rfl rfl n (by simp) (by omega) ?_; intro A4 c4 w4 HA; have hb7 : Below w1.heap.size w1 w4 := HA.out.below; have hb8 : Below w1.heap.size w1 w4 := hb7; have hsz4 := hb7.size)
        | (with_reducible show (if _ then Oper.wp _ _ _ ((w1.alloc (Obj.cells #[] 9)).alloc (Obj.cells #[.int .i64 0, .int .i64 0, .slice none 0 0] 26)).drew _ _ else _); refine step_appendP (.tmp 11) (.tmp 13) KB.out 1 rfl Hr1.out Hl.out Hnil.out rfl rfl rfl rfl rfl rfl n (by simp) (by omega) ?_; intro A4 c4 w4 HBx; have hb7 : Below w1.heap.size w1 w4 := HBx.out.below; have hb8 : Below w1.heap.size w1 w4 := hb7; have hsz4 := hb7.size)
        | (with_reducible show (if _ then Oper.wp _ _ _ ((w1.alloc (Obj.cells #[.int .i64 0, .int .i64 0, .slice none 0 0] 26)).alloc (Obj.cells #[] 9)).drew _ _ else _); refine step_appendP (.tmp 11) (.tmp 13) KC.out 0 rfl Hr1.out Hl.out Hnil.out rfl rfl rfl rfl rfl rfl n (by simp) (by omega) ?_; intro A4 c4 w4 HCx; have hb7 : Below w1.heap.size w1 w4 := HCx.out.below; have hb8 : Below w1.heap.size w1 w4 := hb7; have hsz4 := hb7.size)
        | (with_reducible show (if _ then Oper.wp _ _ _ w4 _ _ else _); refine step_appendP (.tmp 14) (.tmp 16) HA.out 0 rfl Hr1'.out Hl'.out Hnil'.out rfl rfl rfl rfl rfl Hl.out (n + n') rfl (by omega) ?_; intro A5 c5 w5 JA; have hb7 : Below w1.heap.size w1 w5 := JA.out.below)
        | (with_reducible show (if _ then Oper.wp _ _ _ w4 _ _ else _); refine step_appendP (.tmp 14) (.tmp 16) HBx.out 1 rfl Hr1'.out Hl'.out Hnil'.out rfl rfl rfl rfl rfl Hl.out (n + n') rfl (by omega) ?_; intro A5 c5 w5 JB; have hb7 : Below w1.heap.size w1 w5 := JB.out.below; obtain ⟨-, q0, q1, q2, qz⟩ := JB.out.box 0 rfl; obtain ⟨s0, s1, s2⟩ := set3 q0 q1 q2 (.int .i64 b) (.int .i64 p) (.slice A5 (n + n') c5))
        | (with_reducible show (if _ then Oper.wp _ _ _ w4 _ _ else _); refine step_appendP (.tmp 14) (.tmp 16) HCx.out 0 rfl Hr1'.out Hl'.out Hnil'.out rfl rfl rfl rfl rfl Hl.out (n + n') rfl (by omega) ?_; intro A5 c5 w5 JC; have hb7 : Below w1.heap.size w1 w5 := JC.out.below; obtain ⟨-, q0, q1, q2, qz⟩ := JC.out.box 1 rfl; obtain ⟨s0, s1, s2⟩ := set3 q0 q1 q2 (.int .i64 b) (.int .i64 p) (.slice A5 (n + n') c5))
        | (with_reducible show (if _ then Oper.wp _ _ _ (w4.alloc (Obj.cells #[.int .i64 0, .int .i64 0, .slice none 0 0] 26)) _ _ else _); have HD := Lib.hid (HA.out.addBox rfl (.int .i64 0) (.int .i64 0) (.slice none 0 0) 26); refine step_appendP (.tmp 14) (.tmp 16) HD.out 1 rfl Hr1'.out Hl'.out Hnil'.out rfl rfl rfl rfl rfl Hl.out (n + n') rfl (by omega) ?_; intro A5 c5 w5 JD; have hb7 : Below w1.heap.size w1 w5 := JD.out.below; obtain ⟨-, q0, q1, q2, qz⟩ := JD.out.box 0 rfl; obtain ⟨s0, s1, s2⟩ := set3 q0 q1 q2 (.int .i64 b) (.int .i64 p) (.slice A5 (n + n') c5))
        | fail)
    all_goals
      go_wp2_with fail
      go_meet
      first
        | exact ⟨_, A5, c5, rfl, (JA.out.addBox rfl _ _ _ _).perm (List.Perm.swap _ _ _)⟩
        | exact ⟨_, A5, c5, rfl, (JB.out.setBox 0 rfl _ _ _).perm (List.Perm.swap _ _ _)⟩
        | exact ⟨_, A5, c5, rfl, JC.out.setBox 1 rfl _ _ _⟩
        | exact ⟨_, A5, c5, rfl, (JD.out.setBox 0 rfl _ _ _).perm (List.Perm.swap _ _ _)⟩
  case rest =>
    obtain ⟨gz, A3, k3, rfl, HX⟩ := hcut
    have HP := Lib.hid (H.out.join HX.out)
    have HsJ : Hid (∀ x ∈ l ++ l', x.size ≤ 1048576) := fun x hx => by
      rcases List.mem_append.1 hx with hx | hx
      · exact Hs.out x hx
      · exact Hs'.out x hx
    have Hlj : Hid (n + n' = (l ++ l').length) := by show _ = _; rw [List.length_append, ← Hl.out, ← Hl'.out]
    clear HX H KA KB KC c0 c1 c2 d0 d1 d2 hb7 hb8 Hr1 Hr1'
    obtain ⟨-, c0, c1, c2, -⟩ := HP.out.box 4 rfl
    obtain ⟨-, d0, d1, d2, -⟩ := HP.out.box 3 rfl
    obtain ⟨-, e0, e1, e2, -⟩ := HP.out.box 1 rfl
    cases hv : planOk b p l
    · have Ht : Hid (joinR b p l b' p' l' = noPlR) := by show joinR _ _ _ _ _ _ = _; unfold joinR; simp [hv]
      go_wp2_with fail
      refine (specPlanValid b p A l _ _ Hl.out _ (by omega) Hs.out (Hr.out.below HP.out.below)).mono ?_
      rw [hv]
      rintro e w2 ⟨rfl, hb⟩
      clear c0 c1 c2 d0 d1 d2 e0 e1 e2
      have HP := Lib.hid (HP.out.step hb)
      clear hb
      obtain ⟨-, c0, c1, c2, -⟩ := HP.out.box 4 rfl
      obtain ⟨-, d0, d1, d2, -⟩ := HP.out.box 3 rfl
      obtain ⟨-, e0, e1, e2, -⟩ := HP.out.box 1 rfl
      obtain ⟨-, r0, r1, r2, rz⟩ := HP.out.box 2 rfl
      obtain ⟨s0, s1, s2⟩ := set3 r0 r1 r2 (.int .i64 0) (.int .i64 0) (.slice none 0 0)
      go_wp2
      refine bodyPost_ret (v := .tuple #[.agg #[.int .i64 0, .int .i64 0, .slice none 0 0], .bool false]) (by simp [results, Try.results10, go_sem, s0, s1, s2]) rfl ?_
      rw [Ht.out]
      exact ⟨none, 0, 0, rfl, Own.nil_ _ _ _ _ _, (HP.out.setBox 2 rfl _ _ _).below⟩
    · cases hv' : planOk b' p' l'
      · have Ht : Hid (joinR b p l b' p' l' = noPlR) := by show joinR _ _ _ _ _ _ = _; unfold joinR; simp [hv']
        go_wp2_with fail
        refine (specPlanValid b p A l _ _ Hl.out _ (by omega) Hs.out (Hr.out.below HP.out.below)).mono ?_
        rw [hv]
        rintro e w2 ⟨rfl, hb⟩
        clear c0 c1 c2 d0 d1 d2 e0 e1 e2
        have HP := Lib.hid (HP.out.step hb)
        clear hb
        obtain ⟨-, c0, c1, c2, -⟩ := HP.out.box 4 rfl
        obtain ⟨-, d0, d1, d2, -⟩ := HP.out.box 3 rfl
        obtain ⟨-, e0, e1, e2, -⟩ := HP.out.box 1 rfl
        go_wp2_with fail
        refine (specPlanValid b' p' A' l' _ _ Hl'.out _ (by omega) Hs'.out (Hr'.out.below HP.out.below)).mono ?_
        rw [hv']
        rintro e w3 ⟨rfl, hb⟩
        clear c0 c1 c2 d0 d1 d2 e0 e1 e2
        have HP := Lib.hid (HP.out.step hb)
        clear hb
        obtain ⟨-, c0, c1, c2, -⟩ := HP.out.box 4 rfl
        obtain ⟨-, d0, d1, d2, -⟩ := HP.out.box 3 rfl
        obtain ⟨-, e0, e1, e2, -⟩ := HP.out.box 1 rfl
        obtain ⟨-, r0, r1, r2, rz⟩ := HP.out.box 2 rfl
        obtain ⟨s0, s1, s2⟩ := set3 r0 r1 r2 (.int .i64 0) (.int .i64 0) (.slice none 0 0)
        go_wp2
        refine bodyPost_ret (v := .tuple #[.agg #[.int .i64 0, .int .i64 0, .slice none 0 0], .bool false]) (by simp [results, Try.results10, go_sem, s0, s1, s2]) rfl ?_
        rw [Ht.out]
        exact ⟨none, 0, 0, rfl, Own.nil_ _ _ _ _ _, (HP.out.setBox 2 rfl _ _ _).below⟩
      · by_cases hbb : b = b'
        · have hqb : (b != b') = false := by simp [hbb]
          by_cases hpp : p = p'
          · have hqp : (p != p') = false := by simp [hpp]
            obtain ⟨v, hvj⟩ : ∃ v, planOk b p (l ++ l') = v := ⟨_, rfl⟩
            have Ht : Hid (joinR b p l b' p' l' = if v then ⟨b, p, l ++ l', true⟩ else noPlR) := by show joinR _ _ _ _ _ _ = _; unfold joinR; rw [hv, hv', decide_eq_true hbb, decide_eq_true hpp, hvj]; rfl
            clear hbb hpp
            cases v
            · go_wp2_with fail
              refine (specPlanValid b p A l _ _ Hl.out _ (by omega) Hs.out (Hr.out.below HP.out.below)).mono ?_
              rw [hv]
              rintro e w2 ⟨rfl, hb⟩
              clear c0 c1 c2 d0 d1 d2 e0 e1 e2
              have HP := Lib.hid (HP.out.step hb)
              clear hb
              obtain ⟨-, c0, c1, c2, -⟩ := HP.out.box 4 rfl
              obtain ⟨-, d0, d1, d2, -⟩ := HP.out.box 3 rfl
              obtain ⟨-, e0, e1, e2, -⟩ := HP.out.box 1 rfl
              go_wp2_with fail
              refine (specPlanValid b' p' A' l' _ _ Hl'.out _ (by omega) Hs'.out (Hr'.out.below HP.out.below)).mono ?_
              rw [hv']
              rintro e w3 ⟨rfl, hb⟩
              clear c0 c1 c2 d0 d1 d2 e0 e1 e2
              have HP := Lib.hid (HP.out.step hb)
              clear hb
              obtain ⟨-, c0, c1, c2, -⟩ := HP.out.box 4 rfl
              obtain ⟨-, d0, d1, d2, -⟩ := HP.out.box 3 rfl
              obtain ⟨-, e0, e1, e2, -⟩ := HP.out.box 1 rfl
              go_wp2_with fail
              refine (specPlanValid b p A3 (l ++ l') _ _ Hlj.out _ (by omega) HsJ.out ((HP.out.own 0 rfl).rd strEnc_len)).mono ?_
              rw [hvj]
              rintro e w4 ⟨rfl, hb⟩
              clear c0 c1 c2 d0 d1 d2 e0 e1 e2
              have HP := Lib.hid (HP.out.step hb)
              clear hb
              obtain ⟨-, c0, c1, c2, -⟩ := HP.out.box 4 rfl
              obtain ⟨-, d0, d1, d2, -⟩ := HP.out.box 3 rfl
              obtain ⟨-, e0, e1, e2, -⟩ := HP.out.box 1 rfl
              obtain ⟨-, r0, r1, r2, rz⟩ := HP.out.box 2 rfl
              obtain ⟨s0, s1, s2⟩ := set3 r0 r1 r2 (.int .i64 0) (.int .i64 0) (.slice none 0 0)
              go_wp2
              refine bodyPost_ret (v := .tuple #[.agg #[.int .i64 0, .int .i64 0, .slice none 0 0], .bool false]) (by simp [results, Try.results10, go_sem, s0, s1, s2]) rfl ?_
              rw [Ht.out]
              exact ⟨none, 0, 0, rfl, Own.nil_ _ _ _ _ _, (HP.out.setBox 2 rfl _ _ _).below⟩
            · go_wp2_with fail
              refine (specPlanValid b p A l _ _ Hl.out _ (by omega) Hs.out (Hr.out.below HP.out.below)).mono ?_
              rw [hv]
              rintro e w2 ⟨rfl, hb⟩
              clear c0 c1 c2 d0 d1 d2 e0 e1 e2
              have HP := Lib.hid (HP.out.step hb)
              clear hb
              obtain ⟨-, c0, c1, c2, -⟩ := HP.out.box 4 rfl
              obtain ⟨-, d0, d1, d2, -⟩ := HP.out.box 3 rfl
              obtain ⟨-, e0, e1, e2, -⟩ := HP.out.box 1 rfl
              go_wp2_with fail
              refine (specPlanValid b' p' A' l' _ _ Hl'.out _ (by omega) Hs'.out (Hr'.out.below HP.out.below)).mono ?_
              rw [hv']
              rintro e w3 ⟨rfl, hb⟩
              clear c0 c1 c2 d0 d1 d2 e0 e1 e2
              have HP := Lib.hid (HP.out.step hb)
              clear hb
              obtain ⟨-, c0, c1, c2, -⟩ := HP.out.box 4 rfl
              obtain ⟨-, d0, d1, d2, -⟩ := HP.out.box 3 rfl
              obtain ⟨-, e0, e1, e2, -⟩ := HP.out.box 1 rfl
              go_wp2_with fail
              refine (specPlanValid b p A3 (l ++ l') _ _ Hlj.out _ (by omega) HsJ.out ((HP.out.own 0 rfl).rd strEnc_len)).mono ?_
              rw [hvj]
              rintro e w4 ⟨rfl, hb⟩
              clear c0 c1 c2 d0 d1 d2 e0 e1 e2
              have HP := Lib.hid (HP.out.step hb)
              clear hb
              obtain ⟨-, c0, c1, c2, -⟩ := HP.out.box 4 rfl
              obtain ⟨-, d0, d1, d2, -⟩ := HP.out.box 3 rfl
              obtain ⟨-, e0, e1, e2, -⟩ := HP.out.box 1 rfl
              obtain ⟨-, r0, r1, r2, rz⟩ := HP.out.box 2 rfl
              obtain ⟨s0, s1, s2⟩ := set3 r0 r1 r2 (.int .i64 b) (.int .i64 p) (.slice A3 (n + n') k3)
              go_wp2
              refine bodyPost_ret (v := .tuple #[.agg #[.int .i64 b, .int .i64 p, .slice A3 (n + n') k3], .bool true]) (by simp [results, Try.results10, go_sem, s0, s1, s2]) rfl ?_
              rw [Ht.out]
              exact ⟨A3, n + n', k3, rfl, (HP.out.setBox 2 rfl _ _ _).res 0 rfl, (HP.out.setBox 2 rfl _ _ _).below⟩
          · have hqp : (p != p') = true := by simp [hpp]
            have Ht : Hid (joinR b p l b' p' l' = noPlR) := by show joinR _ _ _ _ _ _ = _; unfold joinR; simp [hpp]
            clear hbb hpp
            go_wp2_with fail
            refine (specPlanValid b p A l _ _ Hl.out _ (by omega) Hs.out (Hr.out.below HP.out.below)).mono ?_
            rw [hv]
            rintro e w2 ⟨rfl, hb⟩
            clear c0 c1 c2 d0 d1 d2 e0 e1 e2
            have HP := Lib.hid (HP.out.step hb)
            clear hb
            obtain ⟨-, c0, c1, c2, -⟩ := HP.out.box 4 rfl
            obtain ⟨-, d0, d1, d2, -⟩ := HP.out.box 3 rfl
            obtain ⟨-, e0, e1, e2, -⟩ := HP.out.box 1 rfl
            go_wp2_with fail
            refine (specPlanValid b' p' A' l' _ _ Hl'.out _ (by omega) Hs'.out (Hr'.out.below HP.out.below)).mono ?_
            rw [hv']
            rintro e w3 ⟨rfl, hb⟩
            clear c0 c1 c2 d0 d1 d2 e0 e1 e2
            have HP := Lib.hid (HP.out.step hb)
            clear hb
            obtain ⟨-, c0, c1, c2, -⟩ := HP.out.box 4 rfl
            obtain ⟨-, d0, d1, d2, -⟩ := HP.out.box 3 rfl
            obtain ⟨-, e0, e1, e2, -⟩ := HP.out.box 1 rfl
            obtain ⟨-, r0, r1, r2, rz⟩ := HP.out.box 2 rfl
            obtain ⟨s0, s1, s2⟩ := set3 r0 r1 r2 (.int .i64 0) (.int .i64 0) (.slice none 0 0)
            go_wp2
            refine bodyPost_ret (v := .tuple #[.agg #[.int .i64 0, .int .i64 0, .slice none 0 0], .bool false]) (by simp [results, Try.results10, go_sem, s0, s1, s2]) rfl ?_
            rw [Ht.out]
            exact ⟨none, 0, 0, rfl, Own.nil_ _ _ _ _ _, (HP.out.setBox 2 rfl _ _ _).below⟩
        · have hqb : (b != b') = true := by simp [hbb]
          have Ht : Hid (joinR b p l b' p' l' = noPlR) := by show joinR _ _ _ _ _ _ = _; unfold joinR; simp [hbb]
          clear hbb
          go_wp2_with fail
          refine (specPlanValid b p A l _ _ Hl.out _ (by omega) Hs.out (Hr.out.below HP.out.below)).mono ?_
          rw [hv]
          rintro e w2 ⟨rfl, hb⟩
          clear c0 c1 c2 d0 d1 d2 e0 e1 e2
          have HP := Lib.hid (HP.out.step hb)
          clear hb
          obtain ⟨-, c0, c1, c2, -⟩ := HP.out.box 4 rfl
          obtain ⟨-, d0, d1, d2, -⟩ := HP.out.box 3 rfl
          obtain ⟨-, e0, e1, e2, -⟩ := HP.out.box 1 rfl
          go_wp2_with fail
          refine (specPlanValid b' p' A' l' _ _ Hl'.out _ (by omega) Hs'.out (Hr'.out.below HP.out.below)).mono ?_
          rw [hv']
          rintro e w3 ⟨rfl, hb⟩
          clear c0 c1 c2 d0 d1 d2 e0 e1 e2
          have HP := Lib.hid (HP.out.step hb)
          clear hb
          obtain ⟨-, c0, c1, c2, -⟩ := HP.out.box 4 rfl
          obtain ⟨-, d0, d1, d2, -⟩ := HP.out.box 3 rfl
          obtain ⟨-, e0, e1, e2, -⟩ := HP.out.box 1 rfl
          obtain ⟨-, r0, r1, r2, rz⟩ := HP.out.box 2 rfl
          obtain ⟨s0, s1, s2⟩ := set3 r0 r1 r2 (.int .i64 0) (.int .i64 0) (.slice none 0 0)
          go_wp2
          refine bodyPost_ret (v := .tuple #[.agg #[.int .i64 0, .int .i64 0, .slice none 0 0], .bool false]) (by simp [results, Try.results10, go_sem, s0, s1, s2]) rfl ?_
          rw [Ht.out]
          exact ⟨none, 0, 0, rfl, Own.nil_ _ _ _ _ _, (HP.out.setBox 2 rfl _ _ _).below⟩
end Go.Proofs.Ytnfggnpemnebcaa
