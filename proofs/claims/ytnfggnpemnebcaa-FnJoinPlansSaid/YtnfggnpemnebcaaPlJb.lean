/-
  Two plans joined, both valid and alike: the program's.
-/
import Derived.Test.YtnfggnpemnebcaaPlJ
import Derived.Deep.Cut
import Derived.Deep.CutRange
namespace Go.Proofs.Ytnfggnpemnebcaa
open Go.RowKit

theorem heap3_0 (w : World) (o1 o2 o3 : Obj) : (((w.alloc o1).alloc o2).alloc o3).heap[w.heap.size]? = some o1 := by
  show (((w.heap.push o1).push o2).push o3)[w.heap.size]? = _
  rw [Array.getElem?_push, if_neg (by simp; omega), Array.getElem?_push, if_neg (by simp), Array.getElem?_push, if_pos rfl]
theorem Box.set3 {w : World} {g : Nat} {a b c : Value} (h : Box w g a b c) (x y z : Value) : Box (((w.setCell ⟨g, 0, none⟩ x).setCell ⟨g, 1, none⟩ y).setCell ⟨g, 2, none⟩ z) g x y z := by
  refine ⟨by simpa using h.lt, ?_, ?_, ?_, fun j => by rw [World.frozen?_setCell, World.frozen?_setCell, World.frozen?_setCell]; exact h.fz j⟩
  · rw [World.cell?_setCell_other _ _ _ _ (by simp), World.cell?_setCell_other _ _ _ _ (by simp)]
    exact World.cell?_setCell_same _ _ _ h.c0
  · rw [World.cell?_setCell_other _ _ _ _ (by simp)]
    exact World.cell?_setCell_same _ _ _ (u := b) (by rw [World.cell?_setCell_other w _ _ _ (by simp)]; exact h.c1)
  · exact World.cell?_setCell_same _ _ _ (u := c) (by rw [World.cell?_setCell_other _ _ _ _ (by simp), World.cell?_setCell_other _ _ _ _ (by simp)]; exact h.c2)
theorem Pool.setBox {w0 w : World} {ps : List Piece} (h : Pool w0 w ps) (i : Nat) {g : Nat} {a b c : Value} (hi : ps[i]? = some (boxP g a b c)) (x y z : Value) : Pool w0 (((w.setCell ⟨g, 0, none⟩ x).setCell ⟨g, 1, none⟩ y).setCell ⟨g, 2, none⟩ z) (ps.set i (boxP g x y z)) := by
  have hg : w.grownBy (((w.setCell ⟨g, 0, none⟩ x).setCell ⟨g, 1, none⟩ y).setCell ⟨g, 2, none⟩ z) (some g) := by
    have g1 : w.grownBy (w.setCell ⟨g, 0, none⟩ x) (some g) := grown_setCell (p := ⟨g, 0, none⟩) (World.grownBy.refl w (some g)) (.inl rfl) x
    have g2 : w.grownBy ((w.setCell ⟨g, 0, none⟩ x).setCell ⟨g, 1, none⟩ y) (some g) := grown_setCell (p := ⟨g, 1, none⟩) g1 (.inl rfl) y
    exact grown_setCell (p := ⟨g, 2, none⟩) g2 (.inl rfl) z
  have hb := (h.box i hi).set3 x y z
  refine h.turn i hi (fun k hk => ⟨.inl hk, ?_⟩) hb hg.os hg.tape hg.output hg.size fun k hlt hm => hg.block k hlt (fun e => hm ?_)
  · have hk : k ∈ [g] := hk
    have := List.mem_singleton.1 hk
    subst this; exact hb.lt
  · injection e with e
    subst e; exact List.mem_singleton.2 rfl
theorem dr {w : World} {a : Addr} {v : Value} (h : w.cell? a = some v) : w.drew.cell? a = some v := h
theorem keepS {w : World} {g k j : Nat} {u x y z : Value} (h : w.cell? ⟨k, j, none⟩ = some u) (hne : k ≠ g) : (((w.setCell ⟨g, 0, none⟩ x).setCell ⟨g, 1, none⟩ y).setCell ⟨g, 2, none⟩ z).cell? ⟨k, j, none⟩ = some u := by
  rw [World.cell?_setCell_other _ _ _ _ (by simp), World.cell?_setCell_other _ _ _ _ (by simp), World.cell?_setCell_other _ _ _ _ (by simp)]
  exact h
/-- The header of two slices. -/
def Hdr (w : World) (g : Nat) (u v : Value) : Prop := w.cell? ⟨g, 0, none⟩ = some u ∧ w.cell? ⟨g, 1, none⟩ = some v
theorem concatAt {w0 w : World} {ps : List Piece} (A B : Option Addr) (l r : List Str) (n m c d g : Nat) (H : Pool w0 w ps) (hh : Hdr w g (.slice A n c) (.slice B m d)) (hln : n = l.length) (hrn : m = r.length) (hn : n ≤ 16777216) (hm : m ≤ 16777216) (hcn : A = none → c = 0) (hdn : B = none → d = 0) (hl : Rd w0 1 strEnc A l) (hr : Rd w0 1 strEnc B r) :
    Calls Try.prog 38 #[.slice (some ⟨g, 0, none⟩) 2 2] w fun e w' => ∃ A' c', e = .returned (.slice A' (n + m) c') ∧ Hid (Pool w0 w' (ownP 9 1 strEnc (.slice A' (n + m) c') (l ++ r) :: ps)) :=
  (concatSt A B l r n m c d g hln hrn w hn hm hcn hdn hh.1 hh.2 (hl.below H.below) (hr.below H.below)).mono fun _ _ ⟨A', c', he, ho, hb⟩ => ⟨A', c', he, H.addOwn hb ho⟩

set_option maxHeartbeats 4000000 in
set_option maxRecDepth 100000 in
theorem implJoinOk (b p : Int) (A A' : Option Addr) (l l' : List Str) (n cap n' cap' : Nat) (hl : n = l.length) (hl' : n' = l'.length) (hcap : n ≤ cap) (hcap' : n' ≤ cap') (hnil : A = none → cap = 0) (hnil' : A' = none → cap' = 0) (w : World) (hn : n ≤ 1048576) (hn' : n' ≤ 1048576) (hs : ∀ x ∈ l, x.size ≤ 1048576) (hs' : ∀ x ∈ l', x.size ≤ 1048576) (h : Rd w 1 strEnc A l) (h' : Rd w 1 strEnc A' l') (hv : planOk b p l = true) (hv' : planOk b p l' = true) :
    Calls Try.prog 12 #[.agg #[.int .i64 b, .int .i64 p, .slice A n cap], .agg #[.int .i64 b, .int .i64 p, .slice A' n' cap']] w fun e w' => PlRet (if planOk b p (l ++ l') then ⟨b, p, l ++ l', true⟩ else noPlR) w e w' := by
  have Hl := Lib.hid hl
  have Hl' := Lib.hid hl'
  have Hr := Lib.hid h
  have Hr' := Lib.hid h'
  have Hs := Lib.hid hs
  have Hs' := Lib.hid hs'
  have Hnil := Lib.hid hnil
  have Hnil' := Lib.hid hnil'
  clear h h' hs hs' hl hl' hnil hnil'
  have H : Hid (Pool w (((w.alloc (Obj.cells #[.int .i64 b, .int .i64 p, .slice A n cap] 26)).alloc (Obj.cells #[.int .i64 b, .int .i64 p, .slice A' n' cap'] 26)).alloc (Obj.cells #[.int .i64 0, .int .i64 0, .slice none 0 0] 26)) [boxP (w.heap.size + 1 + 1) (.int .i64 0) (.int .i64 0) (.slice none 0 0), boxP (w.heap.size + 1) (.int .i64 b) (.int .i64 p) (.slice A' n' cap'), boxP w.heap.size (.int .i64 b) (.int .i64 p) (.slice A n cap)]) := (((Pool.nil_ w).addBox rfl _ _ _ _).addBox (by simp) _ _ _ _).addBox (by simp) _ _ _ _
  obtain ⟨v, hvj⟩ : ∃ v, planOk b p (l ++ l') = v := ⟨_, rfl⟩
  rw [hvj]
  have Hvj := Lib.hid hvj
  clear hvj
  obtain ⟨-, d0, d1, d2, -⟩ := H.out.box 1 rfl
  obtain ⟨-, c0, c1, c2, -⟩ := H.out.box 2 rfl
  go_enter Try.func12, Try.ntmps12
  go_wp2_with fail
  refine (implPlanValid b p A l _ _ Hl.out hcap _ (by omega) Hs.out (Hr.out.below H.out.below)).mono ?_
  rw [hv]
  rintro e w1 ⟨rfl, hb⟩
  clear c0 c1 c2 d0 d1 d2
  have H := Lib.hid (H.out.step hb)
  clear hb
  obtain ⟨-, d0, d1, d2, -⟩ := H.out.box 1 rfl
  go_wp2_with fail
  refine (implPlanValid b p A' l' _ _ Hl'.out hcap' _ (by omega) Hs'.out (Hr'.out.below H.out.below)).mono ?_
  rw [hv']
  rintro e w2 ⟨rfl, hb⟩
  clear d0 d1 d2
  have H := Lib.hid (H.out.step hb)
  clear hb hv hv'
  obtain ⟨-, d0, d1, d2, -⟩ := H.out.box 1 rfl
  obtain ⟨-, c0, c1, c2, -⟩ := H.out.box 2 rfl
  have hzz := (H.out.box 0 rfl).lt
  go_upto_region 3 with fail
  have Hr2 := Lib.hid (Hr.out.below H.out.below)
  have Hr2' := Lib.hid (Hr'.out.below H.out.below)
  have KA : Hid (Pool w2 (w2.alloc (Obj.cells #[.slice A n cap, .slice A' n' cap'] 22)).drew []) := ((Pool.nil_ w2).alloc _).drew1
  have KB : Hid (Pool w2 ((w2.alloc (Obj.cells #[.slice A n cap, .slice A' n' cap'] 22)).alloc (Obj.cells #[.int .i64 0, .int .i64 0, .slice none 0 0] 26)).drew [boxP (w2.heap.size + 1) (.int .i64 0) (.int .i64 0) (.slice none 0 0)]) := (((Pool.nil_ w2).alloc _).addBox (by simp) _ _ _ _).drew1
  have KC : Hid (Pool w2 ((w2.alloc (Obj.cells #[.int .i64 0, .int .i64 0, .slice none 0 0] 26)).alloc (Obj.cells #[.slice A n cap, .slice A' n' cap'] 22)).drew [boxP w2.heap.size (.int .i64 0) (.int .i64 0) (.slice none 0 0)]) := (((Pool.nil_ w2).addBox rfl _ _ _ _).alloc _).drew1
  have GA : Hid (Hdr (w2.alloc (Obj.cells #[.slice A n cap, .slice A' n' cap'] 22)).drew w2.heap.size (.slice A n cap) (.slice A' n' cap')) := ⟨World.cell?_alloc_at _ _ _ 0 rfl, World.cell?_alloc_at _ _ _ 1 rfl⟩
  have GB : Hid (Hdr ((w2.alloc (Obj.cells #[.slice A n cap, .slice A' n' cap'] 22)).alloc (Obj.cells #[.int .i64 0, .int .i64 0, .slice none 0 0] 26)).drew w2.heap.size (.slice A n cap) (.slice A' n' cap')) := ⟨cell_alloc (World.cell?_alloc_at _ _ _ 0 rfl) _, cell_alloc (World.cell?_alloc_at _ _ _ 1 rfl) _⟩
  have GC : Hid (Hdr ((w2.alloc (Obj.cells #[.int .i64 0, .int .i64 0, .slice none 0 0] 26)).alloc (Obj.cells #[.slice A n cap, .slice A' n' cap'] 22)).drew (w2.heap.size + 1) (.slice A n cap) (.slice A' n' cap')) := by
    have h0 : ((w2.alloc (Obj.cells #[.int .i64 0, .int .i64 0, .slice none 0 0] 26)).alloc (Obj.cells #[.slice A n cap, .slice A' n' cap'] 22)).cell? ⟨(w2.alloc (Obj.cells #[.int .i64 0, .int .i64 0, .slice none 0 0] 26)).heap.size, 0, none⟩ = some (.slice A n cap) := World.cell?_alloc_at _ _ _ 0 rfl
    have h1 : ((w2.alloc (Obj.cells #[.int .i64 0, .int .i64 0, .slice none 0 0] 26)).alloc (Obj.cells #[.slice A n cap, .slice A' n' cap'] 22)).cell? ⟨(w2.alloc (Obj.cells #[.int .i64 0, .int .i64 0, .slice none 0 0] 26)).heap.size, 1, none⟩ = some (.slice A' n' cap') := World.cell?_alloc_at _ _ _ 1 rfl
    rw [World.size_alloc] at h0 h1
    exact ⟨h0, h1⟩
  have hb7 : Below w2.heap.size w2 w2 := Below.refl _ _
  go_cut [6] from 30 to 40 (fun t wx => ∃ gz A3 k3, t = .pointer (some ⟨gz, 0, none⟩) ∧ Hid (Pool w2 wx [ownP 9 1 strEnc (.slice A3 (n + n') k3) (l ++ l'), boxP gz (.int .i64 b) (.int .i64 p) (.slice A3 (n + n') k3)]))
  case first =>
    go_region_held3 (fun w' => w'.cell? ⟨w.heap.size, 0, none⟩ = some (.int .i64 b) ∧ w'.cell? ⟨w.heap.size, 1, none⟩ = some (.int .i64 p) ∧ w'.cell? ⟨w.heap.size, 2, none⟩ = some (.slice A n cap) ∧ w'.cell? ⟨w.heap.size + 1, 2, none⟩ = some (.slice A' n' cap'))
      (with_reducible first
        | exact ⟨dr c0, dr c1, dr c2, dr d2⟩
        | exact ⟨dr (cell_alloc c0 _), dr (cell_alloc c1 _), dr (cell_alloc c2 _), dr (cell_alloc d2 _)⟩
        | exact ⟨dr (cell_alloc (cell_alloc c0 _) _), dr (cell_alloc (cell_alloc c1 _) _), dr (cell_alloc (cell_alloc c2 _) _), dr (cell_alloc (cell_alloc d2 _) _)⟩
        | exact ⟨below_cell hb7 c0, below_cell hb7 c1, below_cell hb7 c2, below_cell hb7 d2⟩
        | exact ⟨cell_alloc (below_cell hb7 c0) _, cell_alloc (below_cell hb7 c1) _, cell_alloc (below_cell hb7 c2) _, cell_alloc (below_cell hb7 d2) _⟩
        | exact ⟨keepS (below_cell hb7 c0) (by omega), keepS (below_cell hb7 c1) (by omega), keepS (below_cell hb7 c2) (by omega), keepS (below_cell hb7 d2) (by omega)⟩
        | exact ⟨c0, c1, c2, d2⟩
        | exact ⟨cell_alloc c0 _, cell_alloc c1 _, cell_alloc c2 _, cell_alloc d2 _⟩
        | exact ⟨cell_alloc (cell_alloc c0 _) _, cell_alloc (cell_alloc c1 _) _, cell_alloc (cell_alloc c2 _) _, cell_alloc (cell_alloc d2 _) _⟩
        | fail)
      (first
        | (go_at_call 38; with_reducible refine (concatAt A A' l l' n n' cap cap' w2.heap.size KA.out GA.out Hl.out Hl'.out (by omega) (by omega) Hnil.out Hnil'.out Hr2.out Hr2'.out).mono ?_; rintro e w3 ⟨A3, k3, rfl, HA⟩; have hb7 : Below w2.heap.size w2 w3 := HA.out.below)
        | (go_at_call 38; with_reducible refine (concatAt A A' l l' n n' cap cap' w2.heap.size KB.out GB.out Hl.out Hl'.out (by omega) (by omega) Hnil.out Hnil'.out Hr2.out Hr2'.out).mono ?_; rintro e w3 ⟨A3, k3, rfl, HBx⟩; have hb7 : Below w2.heap.size w2 w3 := HBx.out.below; obtain ⟨-, q0, q1, q2, qz⟩ := HBx.out.box 1 rfl; obtain ⟨s0, s1, s2⟩ := set3 q0 q1 q2 (.int .i64 b) (.int .i64 p) (.slice A3 (n + n') k3))
        | (go_at_call 38; with_reducible refine (concatAt A A' l l' n n' cap cap' (w2.heap.size + 1) KC.out GC.out Hl.out Hl'.out (by omega) (by omega) Hnil.out Hnil'.out Hr2.out Hr2'.out).mono ?_; rintro e w3 ⟨A3, k3, rfl, HCx⟩; have hb7 : Below w2.heap.size w2 w3 := HCx.out.below; obtain ⟨-, q0, q1, q2, qz⟩ := HCx.out.box 1 rfl; obtain ⟨s0, s1, s2⟩ := set3 q0 q1 q2 (.int .i64 b) (.int .i64 p) (.slice A3 (n + n') k3)))
    all_goals
      go_wp2_with fail
      go_meet
      first
        | exact ⟨_, A3, k3, rfl, (HA.out.addBox rfl _ _ _ _).perm (List.Perm.swap _ _ _)⟩
        | exact ⟨_, A3, k3, rfl, HBx.out.setBox 1 rfl _ _ _⟩
        | exact ⟨_, A3, k3, rfl, HCx.out.setBox 1 rfl _ _ _⟩
  case rest =>
    obtain ⟨gz, A3, k3, rfl, HX⟩ := hcut
    have HP := Lib.hid (H.out.join HX.out)
    have ho := HP.out.own 0 rfl
    have hc3 := ho.cap_le
    have Hrd := Lib.hid (ho.rd strEnc_len)
    have HsJ : Hid (∀ x ∈ l ++ l', x.size ≤ 1048576) := fun x hx => by
      rcases List.mem_append.1 hx with hx | hx
      · exact Hs.out x hx
      · exact Hs'.out x hx
    have Hlj : Hid (n + n' = (l ++ l').length) := by show _ = _; rw [List.length_append, ← Hl.out, ← Hl'.out]
    clear ho HX H KA KB KC GA GB GC
    obtain ⟨-, e0, e1, e2, -⟩ := HP.out.box 1 rfl
    cases v
    · go_wp2_with fail
      refine (implPlanValid b p A3 (l ++ l') _ _ Hlj.out hc3 _ (by omega) HsJ.out Hrd.out).mono ?_
      rw [Hvj.out]
      rintro e w4 ⟨rfl, hb⟩
      clear e0 e1 e2
      have HP := Lib.hid (HP.out.step hb)
      clear hb
      obtain ⟨-, r0, r1, r2, rz⟩ := HP.out.box 2 rfl
      obtain ⟨s0, s1, s2⟩ := set3 r0 r1 r2 (.int .i64 0) (.int .i64 0) (.slice none 0 0)
      go_wp2
      refine bodyPost_ret (v := .tuple #[.agg #[.int .i64 0, .int .i64 0, .slice none 0 0], .bool false]) (by simp [results, Try.results12, go_sem, s0, s1, s2]) rfl ?_
      exact ⟨none, 0, 0, rfl, Own.nil_ _ _ _ _ _, (HP.out.setBox 2 rfl _ _ _).below⟩
    · go_wp2_with fail
      refine (implPlanValid b p A3 (l ++ l') _ _ Hlj.out hc3 _ (by omega) HsJ.out Hrd.out).mono ?_
      rw [Hvj.out]
      rintro e w4 ⟨rfl, hb⟩
      clear e0 e1 e2
      have HP := Lib.hid (HP.out.step hb)
      clear hb
      obtain ⟨-, e0, e1, e2, -⟩ := HP.out.box 1 rfl
      obtain ⟨-, r0, r1, r2, rz⟩ := HP.out.box 2 rfl
      obtain ⟨s0, s1, s2⟩ := set3 r0 r1 r2 (.int .i64 b) (.int .i64 p) (.slice A3 (n + n') k3)
      go_wp2
      refine bodyPost_ret (v := .tuple #[.agg #[.int .i64 b, .int .i64 p, .slice A3 (n + n') k3], .bool true]) (by simp [results, Try.results12, go_sem, s0, s1, s2]) rfl ?_
      exact ⟨A3, n + n', k3, rfl, (HP.out.setBox 2 rfl _ _ _).res 0 rfl, (HP.out.setBox 2 rfl _ _ _).below⟩
end Go.Proofs.Ytnfggnpemnebcaa
