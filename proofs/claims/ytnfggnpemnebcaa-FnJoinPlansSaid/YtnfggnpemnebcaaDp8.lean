/-
  The draw of the law on joined rounds.
-/
import Derived.Test.YtnfggnpemnebcaaDq1
import Derived.Test.YtnfggnpemnebcaaAppL
import Derived.Deep.CutBlock
import Derived.Test.YtnfggnpemnebcaaRegZ
import Derived.Deep.DrawnRows
namespace Go.Proofs.Ytnfggnpemnebcaa
open Go.RowKit

theorem Own.lit1 (w : World) (x : Str) (t : TypeId) : Own (w.alloc (.cells #[.string x] t)) w.heap.size t 1 strEnc (.slice (some ⟨w.heap.size, 0, none⟩) 1 1) [x] := World.ownsRow_lit w #[.string x] 1 (Nat.le_refl _) (by unfold maxLen; omega) rfl
/-- append onto a list of texts of the pool, as a step of a region that draws; what is appended may be new. -/
theorem step_appendQ {P : Program} {w0 w : World} {ps : List Piece} {ops : Array Oper} {o : Oper} {a : Act} {K : Act → World → Prop} {Q : Exit → Act → World → Prop} {F : Prop} (s x : Operand) {k n c : Nat} {v : Value} {l ys : List Str} {A : Option Addr} {t : TypeId}
    (H : Pool w0 w ps) (i : Nat) (hi : ps[i]? = some (ownP 9 1 strEnc v l)) (hy : Rd w 1 strEnc A ys) (hn : n = ys.length) (hnil : A = none → c = 0)
    (hinfo : (P.info? 9).map (fun i => (i.zero, i.size, i.bytes)) = some (some (.string ByteArray.empty), 1, 16)) (ht : P.underlying t = some (.slice 9))
    (ho : (o.guard, o.op) = (none, .call { callee := .builtin .append, args := #[s, x], argTypes := #[t, t] }))
    (hs : a.eval s = v) (hx : a.eval x = .slice A n c) (hk : k = l.length) (m : Nat) (hm : m = k + n) (hl : m * 16 ≤ 140737488355328)
    (h : ∀ A' c' w', Hid (Pool w0 w' (ps.set i (ownP 9 1 strEnc (.slice A' m c') (l ++ ys)))) → K (a.put o.dst (.slice A' m c')) w') :
    if Region.wanted o (yielded ops a.tmps) = true then Oper.wp P o a w K Q else F := by
  subst hm
  injection ho with hgd hop
  refine step_appendL s x t 9 hinfo ht rfl (by decide) hgd hop hs hx hk (H.own i hi) hn hnil strEnc_len hy (fun y _ u hu => by simp [strEnc] at hu; subst hu; rfl) hl (by omega) (Nat.zero_le _) fun A' c' w' ho hg hat => h A' c' w' (H.append i hi ho hg fun k e => ?_)
  rcases hat with h | h
  · exact .inl (h.symm.trans e)
  · exact .inr (by have := Option.some.inj (h.symm.trans e); omega)
def Away (A : Option Addr) (a b : Nat) : Prop := ∀ ad, A = some ad → ad.block ≠ a ∧ ad.block ≠ b
theorem PlDr.set6 {w : World} {A : Option Addr} {n c a b : Nat} {l : List Str} (h : PlDr w A n c l) (hA : Away A a b) (x0 x1 x2 y0 y1 y2 : Value) : PlDr ((((((w.setCell ⟨a, 0, none⟩ x0).setCell ⟨a, 1, none⟩ x1).setCell ⟨a, 2, none⟩ x2).setCell ⟨b, 0, none⟩ y0).setCell ⟨b, 1, none⟩ y1).setCell ⟨b, 2, none⟩ y2) A n c l := by
  refine ⟨h.len, h.cap, h.few, h.small, h.rd.keep (by simp) fun p _ hb => ?_, h.nil⟩
  obtain ⟨ad, rfl, he⟩ : ∃ ad, A = some ad ∧ ad.block = p.block := by cases A <;> simp at hb; exact ⟨_, rfl, hb⟩
  obtain ⟨h1, h2⟩ := hA ad rfl
  have hp1 : p.block ≠ a := he ▸ h1
  have hp2 : p.block ≠ b := he ▸ h2
  have o : ∀ (w : World) (g j : Nat) (v : Value), p.block ≠ g → (w.setCell ⟨g, j, none⟩ v).cell? p = w.cell? p := fun w g j v hne => World.cell?_setCell_other _ _ _ _ (by intro e; exact hne (congrArg Addr.block e).symm)
  rw [o _ _ _ _ hp2, o _ _ _ _ hp2, o _ _ _ _ hp2, o _ _ _ _ hp1, o _ _ _ _ hp1, o _ _ _ _ hp1]
theorem Pool.away {w0 w : World} {ps : List Piece} (h : Pool w0 w ps) (i j : Nat) {p q : Piece} (hi : ps[i]? = some p) (hj : ps[j]? = some q) (hne : i ≠ j) : ∀ k ∈ p.bs, ¬ k ∈ q.bs := by
  obtain ⟨hil, rfl⟩ := List.getElem?_eq_some_iff.1 hi
  obtain ⟨hjl, rfl⟩ := List.getElem?_eq_some_iff.1 hj
  intro k hk hk'
  rcases Nat.lt_or_gt_of_ne hne with hlt | hlt
  · exact List.pairwise_iff_getElem.1 h.apart i j hil hjl hlt k hk hk'
  · exact List.pairwise_iff_getElem.1 h.apart j i hjl hil hlt k hk' hk
/-- What the third cell of a block holds. -/
def hdAt (w : World) (g : Nat) : Value := (w.cell? ⟨g, 2, none⟩).getD (.bool false)
theorem hdAt_of {w : World} {g : Nat} {v : Value} (h : w.cell? ⟨g, 2, none⟩ = some v) : w.cell? ⟨g, 2, none⟩ = some (hdAt w g) := by unfold hdAt; rw [h]; rfl
theorem hdAt_eq {w : World} {g : Nat} {v : Value} (h : w.cell? ⟨g, 2, none⟩ = some v) : hdAt w g = v := by unfold hdAt; rw [h]; rfl
theorem addr_at (g k : Nat) : (⟨g, 0, none⟩ : Addr).add k = ⟨g, k, none⟩ := by unfold Addr.add; split <;> simp_all

attribute [local go_sem ↓] Go.wp_at_zero Go.wp_at_succ

set_option maxHeartbeats 8000000 in
set_option maxRecDepth 100000 in
theorem drawJoinC (A : Option Addr) (bs : List UInt8) (n cap : Nat) (hn : n = bs.length) (hc : n ≤ cap) (w : World) (hlen : n ≤ 1048576) (hr : Rd w 1 byEnc A bs) :
    Calls Try.prog 18 #[.slice A n cap] w fun e w' => ∃ b p A1 n1 c1 l1 b' p' A2 n2 c2 l2, e = .returned (.tuple #[.agg #[.int .i64 b, .int .i64 p, .slice A1 n1 c1], .agg #[.int .i64 b', .int .i64 p', .slice A2 n2 c2]]) ∧ Hid (PlDr w' A1 n1 c1 l1) ∧ Hid (PlDr w' A2 n2 c2 l2) ∧ Below w.heap.size w w' := by
  have Hn := Lib.hid hn
  have Hr := Lib.hid hr
  clear hn hr
  have H : Hid (Pool w ((w.alloc (Obj.cells #[.int .i64 0, .int .i64 0, .slice none 0 0] 26)).alloc (Obj.cells #[.int .i64 0, .int .i64 0, .slice none 0 0] 26)) [boxP (w.heap.size + 1) (.int .i64 0) (.int .i64 0) (.slice none 0 0), boxP w.heap.size (.int .i64 0) (.int .i64 0) (.slice none 0 0)]) := ((Pool.nil_ w).addBox rfl _ _ _ _).addBox (by simp) _ _ _ _
  go_enter Try.func18, Try.ntmps18
  go_wp2_with fail
  refine (openQ A bs n cap Hn.out hc _ hlen Hr.out H.out).mono ?_
  rintro e w1 ⟨g, rfl, H⟩
  go_wp2_with fail
  refine (somePlanP H.out (by omega)).mono ?_
  rintro e w2 ⟨b, p, A1, n1, c1, l, rfl, hb1, hb2, hp1, hp2, hn1, hn2, Hs, H⟩
  have hln := (H.out.own 1 rfl).len
  subst hln
  have hl0 : 0 < l.length := by omega
  obtain ⟨g1, rfl, -, -⟩ := (H.out.own 1 rfl).head (by omega)
  have Hcap := Lib.hid (H.out.own 1 rfl).cap_le
  have hmx : 1 ≤ max p 2 ∧ max p 2 ≤ 4 := by omega
  have H : Hid (Pool w (w2.alloc (Obj.cells #[.int .i64 b, .int .i64 (max p 2), .slice (some ⟨g1, 0, none⟩) l.length c1] 26)) (rdP w g (0 + 98) :: boxP w2.heap.size (.int .i64 b) (.int .i64 (max p 2)) (.slice (some ⟨g1, 0, none⟩) l.length c1) :: [ownP 9 1 strEnc (.slice (some ⟨g1, 0, none⟩) l.length c1) l, boxP (w.heap.size + 1) (.int .i64 0) (.int .i64 0) (.slice none 0 0), boxP w.heap.size (.int .i64 0) (.int .i64 0) (.slice none 0 0)])) := (H.out.addBox rfl _ _ _ _).swap
  go_wp2_with fail
  refine (pickP H.out ((l.length : Int) + 1) (by omega)).mono ?_
  rintro e w3 ⟨v, rfl, hv0, hv1, H⟩
  obtain ⟨k, rfl⟩ := Int.eq_ofNat_of_zero_le hv0
  have hk : k ≤ l.length := by omega
  have hcap := Hcap.out
  have hkI : (k : Int) ≤ (l.length : Int) := by omega
  have hkc : (k : Int) ≤ (c1 : Int) := by omega
  have hkc' : k ≤ c1 := by omega
  clear hv0 hv1
  obtain ⟨p2, hp2⟩ : ∃ p2, max p 2 = p2 := ⟨_, rfl⟩
  rw [hp2] at H hmx
  obtain ⟨-, c0, c1', c2, cz⟩ := H.out.box 1 rfl
  have k0 := fun o => cell_alloc c0 o
  have k1 := fun o => cell_alloc c1' o
  have k2 := fun o => cell_alloc c2 o
  clear hp2
  have hz3 : w.heap.size + 1 < w3.heap.size := (H.out.box 3 rfl).lt
  go_upto_region 5 with fail
  go_region
  have H : Hid (Pool w (w3.alloc (Obj.cells #[.int .i64 b, .int .i64 p2, .slice (some ⟨g1, 0, none⟩) k c1] 26)) [boxP w3.heap.size (.int .i64 b) (.int .i64 p2) (.slice (some ⟨g1, 0, none⟩) k c1), rdP w g (0 + 98 + 1), boxP w2.heap.size (.int .i64 b) (.int .i64 p2) (.slice (some ⟨g1, 0, none⟩) l.length c1), ownP 9 1 strEnc (.slice (some ⟨g1, 0, none⟩) l.length c1) l, boxP (w.heap.size + 1) (.int .i64 0) (.int .i64 0) (.slice none 0 0), boxP w.heap.size (.int .i64 0) (.int .i64 0) (.slice none 0 0)]) := H.out.addBox rfl _ _ _ _
  clear k0 k1 k2 c0 c1' c2 cz
  obtain ⟨-, c0, c1', c2, cz⟩ := H.out.box 2 rfl
  have k0 := fun o => cell_alloc c0 o
  have k1 := fun o => cell_alloc c1' o
  have k2 := fun o => cell_alloc c2 o
  have hks : (c1 : Int) - (k : Int) = ((c1 - k : Nat) : Int) := by omega
  have hls : (l.length : Int) - (k : Int) = ((l.length - k : Nat) : Int) := by omega
  go_upto_region 6 with fail
  go_region
  generalize hA8 : (if c1 = k then some (⟨g1, 0, none⟩ : Addr) else some ⟨g1, k, none⟩) = A8
  obtain ⟨n8, hn8⟩ : ∃ n8, l.length - k = n8 := ⟨_, rfl⟩
  obtain ⟨c8, hc8⟩ : ∃ c8, c1 - k = c8 := ⟨_, rfl⟩
  rw [hn8, hc8]
  have HA8 := Lib.hid hA8
  have Hn8 := Lib.hid hn8
  have Hc8 := Lib.hid hc8
  have hn8l : n8 ≤ 12 := by omega
  have hc8l : n8 ≤ c8 := by omega
  have H : Hid (Pool w ((w3.alloc (Obj.cells #[.int .i64 b, .int .i64 p2, .slice (some ⟨g1, 0, none⟩) k c1] 26)).alloc (Obj.cells #[.int .i64 b, .int .i64 p2, .slice A8 n8 c8] 26)).drew.drew (rdP w g (0 + 98 + 1) :: [boxP (w3.heap.size + 1) (.int .i64 b) (.int .i64 p2) (.slice A8 n8 c8), boxP w3.heap.size (.int .i64 b) (.int .i64 p2) (.slice (some ⟨g1, 0, none⟩) k c1), boxP w2.heap.size (.int .i64 b) (.int .i64 p2) (.slice (some ⟨g1, 0, none⟩) l.length c1), ownP 9 1 strEnc (.slice (some ⟨g1, 0, none⟩) l.length c1) l, boxP (w.heap.size + 1) (.int .i64 0) (.int .i64 0) (.slice none 0 0), boxP w.heap.size (.int .i64 0) (.int .i64 0) (.slice none 0 0)])) :=
    (((H.out.addBox (g := w3.heap.size + 1) (by simp) (.int .i64 b) (.int .i64 p2) (.slice A8 n8 c8) 26).drew1).drew1).perm (List.perm_middle (l₁ := [boxP (w3.heap.size + 1) (.int .i64 b) (.int .i64 p2) (.slice A8 n8 c8), boxP w3.heap.size (.int .i64 b) (.int .i64 p2) (.slice (some ⟨g1, 0, none⟩) k c1)]) (l₂ := [boxP w2.heap.size (.int .i64 b) (.int .i64 p2) (.slice (some ⟨g1, 0, none⟩) l.length c1), ownP 9 1 strEnc (.slice (some ⟨g1, 0, none⟩) l.length c1) l, boxP (w.heap.size + 1) (.int .i64 0) (.int .i64 0) (.slice none 0 0), boxP w.heap.size (.int .i64 0) (.int .i64 0) (.slice none 0 0)]))
  have HRp : Hid (∀ wx : World, Own wx 0 9 1 strEnc (.slice (some ⟨g1, 0, none⟩) l.length c1) l → PlDr wx (some ⟨g1, 0, none⟩) k c1 (l.take k)) := fun wx ho =>
    ⟨by rw [List.length_take]; omega, hkc', by omega, fun x hx => by have := Hs.out x (List.mem_of_mem_take hx); omega, (ho.rd strEnc_len).take k, fun e => by cases e⟩
  have HRq : Hid (∀ wx : World, Own wx 0 9 1 strEnc (.slice (some ⟨g1, 0, none⟩) l.length c1) l → PlDr wx A8 n8 c8 (l.drop k)) := fun wx ho => by
    refine ⟨by rw [List.length_drop]; exact Hn8.out.symm, hc8l, by omega, fun x hx => by have := Hs.out x (List.mem_of_mem_drop hx); omega, ?_, fun e => by have := HA8.out; split at this <;> (rw [e] at this; cases this)⟩
    have := (ho.rd strEnc_len).drop (k := k) hcap
    rw [show (if c1 = k then some (⟨g1, 0, none⟩ : Addr) else (some (⟨g1, 0, none⟩ : Addr)).map (·.add (k * 1))) = A8 from by
      rw [← HA8.out]
      split
      · rfl
      · rw [Nat.mul_one, Option.map_some, addr_at]] at this
    exact this
  clear hA8 hn8 hc8 k0 k1 k2 c0 c1' c2 cz hks hls
  go_wp2_with fail
  refine (pickP H.out 10 (by omega)).mono ?_
  rintro e w4 ⟨v, rfl, hv0, hv1, H⟩
  have hgp : g1 ≠ w.heap.size ∧ g1 ≠ w.heap.size + 1 := by
    refine ⟨fun e => ?_, fun e => ?_⟩
    · exact H.out.away 4 6 rfl rfl (by decide) g1 (by show g1 ∈ [g1]; simp) (by rw [e]; exact List.mem_singleton.2 rfl)
    · exact H.out.away 4 5 rfl rfl (by decide) g1 (by show g1 ∈ [g1]; simp) (by rw [e]; exact List.mem_singleton.2 rfl)
  have HAp : Hid (Away (some ⟨g1, 0, none⟩) w.heap.size (w.heap.size + 1)) := fun ad e => by injection e with e; subst e; exact hgp
  have HAq : Hid (Away A8 w.heap.size (w.heap.size + 1)) := fun ad e => by
    have := HA8.out
    rw [e] at this
    split at this <;> (injection this with this; subst this; exact hgp)
  clear hgp
  go_upto_block 0 with fail
  go_cut [] from 43 to 59 (fun wx => ∃ b9 p9 A9 n9 c9 l9, Hid (PlDr wx (some ⟨g1, 0, none⟩) k c1 (l.take k)) ∧ Hid (PlDr wx A9 n9 c9 l9) ∧ Hid (Away A9 w.heap.size (w.heap.size + 1)) ∧ Hid (Pool w wx [boxP (w3.heap.size + 1) (.int .i64 b9) (.int .i64 p9) (.slice A9 n9 c9), boxP w3.heap.size (.int .i64 b) (.int .i64 p2) (.slice (some ⟨g1, 0, none⟩) k c1), boxP (w.heap.size + 1) (.int .i64 0) (.int .i64 0) (.slice none 0 0), boxP w.heap.size (.int .i64 0) (.int .i64 0) (.slice none 0 0)]))
  case first =>
    by_cases e0 : v = 0
    · subst e0
      go_wp2_with fail
      refine (somePlanP H.out (by omega)).mono ?_
      rintro e w5 ⟨b9, p9, A9, n9, c9, l9, rfl, -, -, -, -, -, hn9, Hs9, H9⟩
      obtain ⟨-, d0, d1, d2, dz⟩ := H9.out.box 2 rfl
      have H10 := Lib.hid (H9.out.setBox 2 rfl (.int .i64 b9) (.int .i64 p9) (.slice A9 n9 c9))
      go_wp2_with fail
      go_meet
      exact ⟨b9, p9, A9, n9, c9, l9, HRp.out _ (H10.out.own 5 rfl), PlDr.of_own (H10.out.own 1 rfl) (by omega) (fun y hy => by have := Hs9.out y hy; omega),
        (fun ad e => ⟨fun h => H10.out.away 1 7 rfl rfl (by decide) ad.block (mem_own.2 (by rw [e]; rfl)) (by rw [h]; exact List.mem_singleton.2 rfl), fun h => H10.out.away 1 6 rfl rfl (by decide) ad.block (mem_own.2 (by rw [e]; rfl)) (by rw [h]; exact List.mem_singleton.2 rfl)⟩),
        (((H10.out.drop 5).drop 4).drop 1).drop 0⟩
    · have q0 : (v == 0) = false := by simpa using e0
      by_cases e1 : v = 1
      · subst e1
        obtain ⟨x, hx⟩ : ∃ x, l[0]? = some x := ⟨_, List.getElem?_eq_getElem hl0⟩
        have Hxs := Lib.hid (Hs.out x (List.mem_of_getElem? hx))
        obtain ⟨-, d0, d1, d2, dz⟩ := H.out.box 1 rfl
        obtain ⟨-, t0, t1, t2, tz⟩ := H.out.box 3 rfl
        obtain ⟨e2, -⟩ := (H.out.own 4 rfl).cell2 strEnc_len rfl hx (j := 0) (by omega)
        rw [show (strEnc x)[0]? = some (.string x) from rfl] at e2
        simp only [Nat.zero_mul, Nat.zero_add] at e2
        have HQ4 := Lib.hid (HRq.out _ (H.out.own 4 rfl))
        have KA : Hid (Pool w4 (w4.alloc (Obj.cells #[] 9)).drew [ownP 9 1 strEnc (.slice (some ⟨w4.heap.size, 0, none⟩) 0 0) ([])]) := ((Pool.nil_ w4).addOwn ((Below.refl _ _).alloc (Nat.le_refl _) _) (Own.lit0 w4 9 1 strEnc)).drew1
        have KB : Hid (Pool w4 ((w4.alloc (Obj.cells #[] 9)).alloc (Obj.cells #[.string x] 9)).drew [ownP 9 1 strEnc (.slice (some ⟨w4.heap.size + 1, 0, none⟩) 1 1) ([x]), ownP 9 1 strEnc (.slice (some ⟨w4.heap.size, 0, none⟩) 0 0) ([])]) := by
          have h := (((Pool.nil_ w4).addOwn ((Below.refl _ _).alloc (Nat.le_refl _) _) (Own.lit0 w4 9 1 strEnc)).addOwn ((Below.refl _ _).alloc (Nat.le_refl _) _) (Own.lit1 (w4.alloc (Obj.cells #[] 9)) x 9)).drew1
          rw [World.size_alloc] at h
          exact h
        have KC : Hid (Pool w4 ((w4.alloc (Obj.cells #[.string x] 9)).alloc (Obj.cells #[] 9)).drew [ownP 9 1 strEnc (.slice (some ⟨w4.heap.size, 0, none⟩) 1 1) ([x]), ownP 9 1 strEnc (.slice (some ⟨w4.heap.size + 1, 0, none⟩) 0 0) ([])]) := by
          have h := ((((Pool.nil_ w4).addOwn ((Below.refl _ _).alloc (Nat.le_refl _) _) (Own.lit1 w4 x 9)).addOwn ((Below.refl _ _).alloc (Nat.le_refl _) _) (Own.lit0 (w4.alloc (Obj.cells #[.string x] 9)) 9 1 strEnc)).drew1).swap
          rw [World.size_alloc] at h
          exact h
        clear hx
        have hl0I : (0 : Int) < (l.length : Int) := by omega
        have hS0 : Below w4.heap.size w4 w4.drew := (Pool.nil_ w4).drew1.below
        have D2 := Lib.hid d2
        have T2 := Lib.hid t2
        have E2 := Lib.hid e2
        clear d2 t2 e2 d0 d1 t0 t1
        go_wp2_with fail
        refine wp_region_Z (Below w4.heap.size w4) 11 12 #[false, false, false, false, false, false, false, false, false, false, false, false] (by kernel_rfl) (by rfl) (by rfl) (fun hc => ?_)
        refine anyZ_take (i := 1) (v := ?_) [2, 3, 9, 11] rfl (by rfl) (by kernel_rfl) (by kernel_rfl) (by kernel_rfl) (by kernel_rfl) (by kernel_rfl) (fun _ _ _ h => h) hc (Or.inl ⟨by rfl, ?hy1⟩) hS0 (fun hc => ?rest1)
        case hy1 => intro w hSw; go_simp <;> with_reducible rfl
        try simp only [Act.put, List.setIfInBounds_toArray, List.set_cons_zero, List.set_cons_succ]
        refine anyZ_take (i := 2) (v := ?_) [3, 9, 11] rfl (by rfl) (by kernel_rfl) (by kernel_rfl) (by kernel_rfl) (by kernel_rfl) (by kernel_rfl) (fun _ _ _ h => h) hc (Or.inl ⟨by rfl, ?hy2⟩) hS0 (fun hc => ?rest2)
        case hy2 => intro w hSw; have q2 := below_cell hSw D2.out; go_simp <;> with_reducible rfl
        try simp only [Act.put, List.setIfInBounds_toArray, List.set_cons_zero, List.set_cons_succ]
        refine anyZ_take (i := 4) (v := ?_) [5, 6, 7, 8, 9, 11] rfl (by rfl) (by kernel_rfl) (by kernel_rfl) (by kernel_rfl) (by kernel_rfl) (by kernel_rfl) (fun _ _ _ h => h) hc (Or.inl ⟨by rfl, ?hy4⟩) hS0 (fun hc => ?rest4)
        case hy4 => intro w hSw; go_simp <;> with_reducible rfl
        try simp only [Act.put, List.setIfInBounds_toArray, List.set_cons_zero, List.set_cons_succ]
        refine anyZ_take (i := 5) (v := ?_) [6, 7, 8, 9, 11] rfl (by rfl) (by kernel_rfl) (by kernel_rfl) (by kernel_rfl) (by kernel_rfl) (by kernel_rfl) (fun _ _ _ h => h) hc (Or.inl ⟨by rfl, ?hy5⟩) hS0 (fun hc => ?rest5)
        case hy5 => intro w hSw; have q2 := below_cell hSw T2.out; go_simp <;> with_reducible rfl
        try simp only [Act.put, List.setIfInBounds_toArray, List.set_cons_zero, List.set_cons_succ]
        refine anyZ_take (i := 6) (v := ?_) [7, 8, 9, 11] rfl (by rfl) (by kernel_rfl) (by kernel_rfl) (by kernel_rfl) (by kernel_rfl) (by kernel_rfl) (fun _ _ _ h => h) hc (Or.inl ⟨by rfl, ?hy6⟩) hS0 (fun hc => ?rest6)
        case hy6 => intro w hSw; go_simp <;> with_reducible rfl
        try simp only [Act.put, List.setIfInBounds_toArray, List.set_cons_zero, List.set_cons_succ]
        refine anyZ_take (i := 7) (v := ?_) [8, 9, 11] rfl (by rfl) (by kernel_rfl) (by kernel_rfl) (by kernel_rfl) (by kernel_rfl) (by kernel_rfl) (fun _ _ _ h => h) hc (Or.inl ⟨by rfl, ?hy7⟩) hS0 (fun hc => ?rest7)
        case hy7 => intro w hSw; have q2 := below_cell hSw E2.out; go_simp <;> with_reducible rfl
        try simp only [Act.put, List.setIfInBounds_toArray, List.set_cons_zero, List.set_cons_succ]
        have hkx : Below w4.heap.size w4 (w4.alloc (Obj.cells #[.string x] 9)).drew := ((Pool.nil_ w4).alloc _).drew1.below
        refine anyZ_two (i := 0) (j := 8) (by kernel_rfl) rfl rfl (fun K hK => ?_) (fun K hK => ?_)
        · as_aux_lemma =>
          have HK := Lib.hid hK
          clear hK
          go_simp
          refine HK.out _ _ (Or.inr (KA.out.below)) ?_
          clear HK K
          try simp only [List.setIfInBounds_toArray, List.set_cons_zero]
          refine anyZ_two (i := 3) (j := 8) (by kernel_rfl) rfl rfl (fun K hK => ?_) (fun K hK => ?_)
          · as_aux_lemma =>
            have HK := Lib.hid hK
            clear hK
            refine step_appendQ (.tmp 49) (.tmp 51) KA.out 0 rfl (HQ4.out.rd.below KA.out.below) HQ4.out.len HQ4.out.nil rfl rfl rfl rfl rfl rfl n8 (by simp) (by omega) ?_
            intro A5 c5 w5 HA
            refine HK.out _ _ (Or.inr HA.out.below) ?_
            clear HK K
            try simp only [Act.put, List.setIfInBounds_toArray, List.set_cons_zero, List.set_cons_succ]
            have HD := Lib.hid (HA.out.addOwn ((Below.refl _ _).alloc (Nat.le_refl _) _) (Own.lit1 w5 x 9))
            refine anyZ_one (i := 8) (by kernel_rfl) rfl (fun K hK => ?_)
            have HK := Lib.hid hK
            clear hK
            go_simp
            refine HK.out _ _ (Or.inr (HD.out.below)) ?_
            clear HK K
            try simp only [List.setIfInBounds_toArray, List.set_cons_zero, List.set_cons_succ]
            refine anyZ_one (i := 9) (by kernel_rfl) rfl (fun K hK => ?_)
            have HK := Lib.hid hK
            clear hK
            refine step_appendQ (.tmp 52) (.tmp 57) HD.out 1 rfl ((HD.out.own 0 rfl).rd strEnc_len) rfl (fun e => by cases e) rfl rfl rfl rfl rfl (by rw [List.nil_append]; exact HQ4.out.len) (n8 + 1) rfl (by omega) ?_
            intro A6 c6 w6 J
            refine HK.out _ _ (Or.inr J.out.below) ?_
            clear HK K
            try simp only [Act.put, List.setIfInBounds_toArray, List.set_cons_zero, List.set_cons_succ]
            refine anyZ_one (i := 10) (by kernel_rfl) rfl (fun K hK => ?_)
            have HK := Lib.hid hK
            clear hK
            go_simp
            refine HK.out _ _ (Or.inr (J.out.below)) ?_
            clear HK K
            try simp only [List.setIfInBounds_toArray, List.set_cons_zero, List.set_cons_succ]
            have HJ := Lib.hid (H.out.join J.out)
            obtain ⟨-, r0, r1, r2, rz⟩ := HJ.out.box 3 rfl
            refine anyZ_one (i := 11) (by kernel_rfl) rfl (fun K hK => ?_)
            have HK := Lib.hid hK
            clear hK
            go_simp
            refine HK.out _ _ (Or.inl rfl) ?_
            clear HK K
            refine anyZ_done (by kernel_rfl) ?_ _
            have H10 := Lib.hid (HJ.out.setBox0 3 rfl 2 (by omega) (.slice A6 (n8 + 1) c6))
            clear r0 r1 r2 rz HJ
            go_wp2_with fail
            go_meet
            exact ⟨b, p2, A6, n8 + 1, c6, _, HRp.out _ (H10.out.own 6 rfl), PlDr.of_own (H10.out.own 1 rfl) (by omega) (fun y hy => by
                rw [List.nil_append] at hy
                rcases List.mem_append.1 hy with hy | hy
                · have := Hs.out y (List.mem_of_mem_drop hy); omega
                · simp at hy; subst hy; have := Hxs.out; omega),
              (fun ad e => ⟨fun h => H10.out.away 1 8 rfl rfl (by decide) ad.block (mem_own.2 (by rw [e]; rfl)) (by rw [h]; exact List.mem_singleton.2 rfl), fun h => H10.out.away 1 7 rfl rfl (by decide) ad.block (mem_own.2 (by rw [e]; rfl)) (by rw [h]; exact List.mem_singleton.2 rfl)⟩),
              ((((H10.out.drop 6).drop 5).drop 2).drop 1).drop 0⟩
          · as_aux_lemma =>
            have HK := Lib.hid hK
            clear hK
            go_simp
            refine HK.out _ _ (Or.inr (KB.out.below)) ?_
            clear HK K
            try simp only [List.setIfInBounds_toArray, List.set_cons_zero, List.set_cons_succ]
            refine anyZ_one (i := 3) (by kernel_rfl) rfl (fun K hK => ?_)
            have HK := Lib.hid hK
            clear hK
            refine step_appendQ (.tmp 49) (.tmp 51) KB.out 1 rfl (HQ4.out.rd.below KB.out.below) HQ4.out.len HQ4.out.nil rfl rfl rfl rfl rfl rfl n8 (by simp) (by omega) ?_
            intro A5 c5 w5 HB
            refine HK.out _ _ (Or.inr HB.out.below) ?_
            clear HK K
            try simp only [Act.put, List.setIfInBounds_toArray, List.set_cons_zero, List.set_cons_succ]
            refine anyZ_one (i := 9) (by kernel_rfl) rfl (fun K hK => ?_)
            have HK := Lib.hid hK
            clear hK
            refine step_appendQ (.tmp 52) (.tmp 57) HB.out 1 rfl ((HB.out.own 0 rfl).rd strEnc_len) rfl (fun e => by cases e) rfl rfl rfl rfl rfl (by rw [List.nil_append]; exact HQ4.out.len) (n8 + 1) rfl (by omega) ?_
            intro A6 c6 w6 J
            refine HK.out _ _ (Or.inr J.out.below) ?_
            clear HK K
            try simp only [Act.put, List.setIfInBounds_toArray, List.set_cons_zero, List.set_cons_succ]
            refine anyZ_one (i := 10) (by kernel_rfl) rfl (fun K hK => ?_)
            have HK := Lib.hid hK
            clear hK
            go_simp
            refine HK.out _ _ (Or.inr (J.out.below)) ?_
            clear HK K
            try simp only [List.setIfInBounds_toArray, List.set_cons_zero, List.set_cons_succ]
            have HJ := Lib.hid (H.out.join J.out)
            obtain ⟨-, r0, r1, r2, rz⟩ := HJ.out.box 3 rfl
            refine anyZ_one (i := 11) (by kernel_rfl) rfl (fun K hK => ?_)
            have HK := Lib.hid hK
            clear hK
            go_simp
            refine HK.out _ _ (Or.inl rfl) ?_
            clear HK K
            refine anyZ_done (by kernel_rfl) ?_ _
            have H10 := Lib.hid (HJ.out.setBox0 3 rfl 2 (by omega) (.slice A6 (n8 + 1) c6))
            clear r0 r1 r2 rz HJ
            go_wp2_with fail
            go_meet
            exact ⟨b, p2, A6, n8 + 1, c6, _, HRp.out _ (H10.out.own 6 rfl), PlDr.of_own (H10.out.own 1 rfl) (by omega) (fun y hy => by
                rw [List.nil_append] at hy
                rcases List.mem_append.1 hy with hy | hy
                · have := Hs.out y (List.mem_of_mem_drop hy); omega
                · simp at hy; subst hy; have := Hxs.out; omega),
              (fun ad e => ⟨fun h => H10.out.away 1 8 rfl rfl (by decide) ad.block (mem_own.2 (by rw [e]; rfl)) (by rw [h]; exact List.mem_singleton.2 rfl), fun h => H10.out.away 1 7 rfl rfl (by decide) ad.block (mem_own.2 (by rw [e]; rfl)) (by rw [h]; exact List.mem_singleton.2 rfl)⟩),
              ((((H10.out.drop 6).drop 5).drop 2).drop 1).drop 0⟩
        · as_aux_lemma =>
          have HK := Lib.hid hK
          clear hK
          go_simp
          refine HK.out _ _ (Or.inr (hkx)) ?_
          clear HK K
          try simp only [List.setIfInBounds_toArray, List.set_cons_zero, List.set_cons_succ]
          refine anyZ_one (i := 0) (by kernel_rfl) rfl (fun K hK => ?_)
          have HK := Lib.hid hK
          clear hK
          go_simp
          refine HK.out _ _ (Or.inr (KC.out.below)) ?_
          clear HK K
          try simp only [List.setIfInBounds_toArray, List.set_cons_zero]
          refine anyZ_one (i := 3) (by kernel_rfl) rfl (fun K hK => ?_)
          have HK := Lib.hid hK
          clear hK
          refine step_appendQ (.tmp 49) (.tmp 51) KC.out 1 rfl (HQ4.out.rd.below KC.out.below) HQ4.out.len HQ4.out.nil rfl rfl rfl rfl rfl rfl n8 (by simp) (by omega) ?_
          intro A5 c5 w5 HC
          refine HK.out _ _ (Or.inr HC.out.below) ?_
          clear HK K
          try simp only [Act.put, List.setIfInBounds_toArray, List.set_cons_zero, List.set_cons_succ]
          refine anyZ_one (i := 9) (by kernel_rfl) rfl (fun K hK => ?_)
          have HK := Lib.hid hK
          clear hK
          refine step_appendQ (.tmp 52) (.tmp 57) HC.out 1 rfl ((HC.out.own 0 rfl).rd strEnc_len) rfl (fun e => by cases e) rfl rfl rfl rfl rfl (by rw [List.nil_append]; exact HQ4.out.len) (n8 + 1) rfl (by omega) ?_
          intro A6 c6 w6 J
          refine HK.out _ _ (Or.inr J.out.below) ?_
          clear HK K
          try simp only [Act.put, List.setIfInBounds_toArray, List.set_cons_zero, List.set_cons_succ]
          refine anyZ_one (i := 10) (by kernel_rfl) rfl (fun K hK => ?_)
          have HK := Lib.hid hK
          clear hK
          go_simp
          refine HK.out _ _ (Or.inr (J.out.below)) ?_
          clear HK K
          try simp only [List.setIfInBounds_toArray, List.set_cons_zero, List.set_cons_succ]
          have HJ := Lib.hid (H.out.join J.out)
          obtain ⟨-, r0, r1, r2, rz⟩ := HJ.out.box 3 rfl
          refine anyZ_one (i := 11) (by kernel_rfl) rfl (fun K hK => ?_)
          have HK := Lib.hid hK
          clear hK
          go_simp
          refine HK.out _ _ (Or.inl rfl) ?_
          clear HK K
          refine anyZ_done (by kernel_rfl) ?_ _
          have H10 := Lib.hid (HJ.out.setBox0 3 rfl 2 (by omega) (.slice A6 (n8 + 1) c6))
          clear r0 r1 r2 rz HJ
          go_wp2_with fail
          go_meet
          exact ⟨b, p2, A6, n8 + 1, c6, _, HRp.out _ (H10.out.own 6 rfl), PlDr.of_own (H10.out.own 1 rfl) (by omega) (fun y hy => by
              rw [List.nil_append] at hy
              rcases List.mem_append.1 hy with hy | hy
              · have := Hs.out y (List.mem_of_mem_drop hy); omega
              · simp at hy; subst hy; have := Hxs.out; omega),
            (fun ad e => ⟨fun h => H10.out.away 1 8 rfl rfl (by decide) ad.block (mem_own.2 (by rw [e]; rfl)) (by rw [h]; exact List.mem_singleton.2 rfl), fun h => H10.out.away 1 7 rfl rfl (by decide) ad.block (mem_own.2 (by rw [e]; rfl)) (by rw [h]; exact List.mem_singleton.2 rfl)⟩),
            ((((H10.out.drop 6).drop 5).drop 2).drop 1).drop 0⟩
      · have q1 : (v == 1) = false := by simpa using e1
        go_wp2_with fail
        go_meet
        exact ⟨b, p2, A8, n8, c8, _, HRp.out _ (H.out.own 4 rfl), HRq.out _ (H.out.own 4 rfl), HAq.out, ((H.out.drop 4).drop 3).drop 0⟩
  case rest =>
  obtain ⟨b9, p9, A9, n9, c9, l9, HP, HQ, HA, H⟩ := hcut
  obtain ⟨-, c0, c1', c2, cz⟩ := H.out.box 1 rfl
  obtain ⟨-, d0, d1, d2, dz⟩ := H.out.box 0 rfl
  obtain ⟨-, r0, r1, r2, rz⟩ := H.out.box 3 rfl
  obtain ⟨-, t0, t1, t2, tz⟩ := H.out.box 2 rfl
  have x1 : ¬ w.heap.size = w3.heap.size := by omega
  have x2 : ¬ w.heap.size = w3.heap.size + 1 := by omega
  have x3 : ¬ w.heap.size + 1 = w3.heap.size := by omega
  have x4 : ¬ w.heap.size + 1 = w3.heap.size + 1 := by omega
  have y1 : ¬ w3.heap.size = w.heap.size := by omega
  have y2 : ¬ w3.heap.size + 1 = w.heap.size := by omega
  have y3 : ¬ w3.heap.size = w.heap.size + 1 := by omega
  have y4 : ¬ w3.heap.size + 1 = w.heap.size + 1 := by omega
  go_wp2_with fail
  go_region
  have H6 := Lib.hid ((H.out.setBox 3 rfl (.int .i64 b) (.int .i64 p2) (.slice (some ⟨g1, 0, none⟩) k c1)).setBox 2 rfl (.int .i64 b9) (.int .i64 p9) (.slice A9 n9 c9))
  have HP6 := Lib.hid (HP.out.set6 HAp.out (.int .i64 b) (.int .i64 p2) (.slice (some ⟨g1, 0, none⟩) k c1) (.int .i64 b9) (.int .i64 p9) (.slice A9 n9 c9))
  have HQ6 := Lib.hid (HQ.out.set6 HA.out (.int .i64 b) (.int .i64 p2) (.slice (some ⟨g1, 0, none⟩) k c1) (.int .i64 b9) (.int .i64 p9) (.slice A9 n9 c9))
  clear x1 x2 x3 x4 y1 y2 y3 y4 c0 c1' c2 cz d0 d1 d2 dz r0 r1 r2 rz t0 t1 t2 tz H HP HQ
  generalize hW : ((((((wc.setCell ⟨w.heap.size, 0, none⟩ (.int .i64 b)).setCell ⟨w.heap.size, 1, none⟩ (.int .i64 p2)).setCell ⟨w.heap.size, 2, none⟩ (.slice (some ⟨g1, 0, none⟩) k c1)).setCell ⟨w.heap.size + 1, 0, none⟩ (.int .i64 b9)).setCell ⟨w.heap.size + 1, 1, none⟩ (.int .i64 p9)).setCell ⟨w.heap.size + 1, 2, none⟩ (.slice A9 n9 c9)) = wf at HP6 HQ6 H6 ⊢
  clear hW
  obtain ⟨-, f0, f1, f2, -⟩ := H6.out.box 3 rfl
  obtain ⟨-, h0, h1, h2, -⟩ := H6.out.box 2 rfl
  go_wp2
  refine bodyPost_ret (v := .tuple #[.agg #[.int .i64 b, .int .i64 p2, .slice (some ⟨g1, 0, none⟩) k c1], .agg #[.int .i64 b9, .int .i64 p9, .slice A9 n9 c9]]) (by simp [results, Try.results18, go_sem, f0, f1, f2, h0, h1, h2]) rfl ?_
  exact ⟨b, p2, _, k, c1, _, b9, p9, A9, n9, c9, l9, rfl, HP6.out.below ((Pool.nil_ wf).drew1).below, HQ6.out.below ((Pool.nil_ wf).drew1).below, (H6.out.drew1).below⟩
end Go.Proofs.Ytnfggnpemnebcaa
