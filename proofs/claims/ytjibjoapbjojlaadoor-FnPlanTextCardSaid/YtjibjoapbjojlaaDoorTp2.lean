/-
  A plan out of its text: the program's and the reference's.
-/
import Derived.Test.YtjibjoapbjojlaaDoorTp1
import Derived.Test.YtjibjoapbjojlaaDoorTx3
import Derived.Test.YtjibjoapbjojlaaDoorPlW
import Derived.Test.YtjibjoapbjojlaaDoorPlJb
namespace Go.Proofs.YtjibjoapbjojlaaDoor
open Go.RowKit

noncomputable def parR (t : Str) : PlR := ⟨(parsePl t).1.1, (parsePl t).1.2.1, (parsePl t).1.2.2, (parsePl t).2⟩
theorem parR_short {t : Str} (h : ¬ 3 ≤ (parts t).length) : parR t = noPlR := by
  unfold parR parsePl
  rw [if_neg (fun e => h e.1)]; rfl
theorem parR_no {t x y : Str} (hx : (parts t)[0]? = some x) (hy : (parts t)[1]? = some y) (h3 : 3 ≤ (parts t).length) (h : ¬ ((parts t).length ≤ 62 ∧ numOk x.data.toList = true ∧ numOk y.data.toList = true ∧ planOk (numVal x.data.toList) (numVal y.data.toList) ((parts t).drop 2) = true)) : parR t = noPlR := by
  have e0 : (parts t).getD 0 ByteArray.empty = x := by rw [List.getD_eq_getElem?_getD, hx]; rfl
  have e1 : (parts t).getD 1 ByteArray.empty = y := by rw [List.getD_eq_getElem?_getD, hy]; rfl
  have := parsePl_impl h3
  unfold plOf at this
  rw [e0, e1] at this
  unfold parR
  rw [this, if_neg h]; rfl
theorem parR_yes {t x y : Str} (hx : (parts t)[0]? = some x) (hy : (parts t)[1]? = some y) (h3 : 3 ≤ (parts t).length) (h : (parts t).length ≤ 62 ∧ numOk x.data.toList = true ∧ numOk y.data.toList = true ∧ planOk (numVal x.data.toList) (numVal y.data.toList) ((parts t).drop 2) = true) : parR t = ⟨numVal x.data.toList, numVal y.data.toList, (parts t).drop 2, true⟩ := by
  have e0 : (parts t).getD 0 ByteArray.empty = x := by rw [List.getD_eq_getElem?_getD, hx]; rfl
  have e1 : (parts t).getD 1 ByteArray.empty = y := by rw [List.getD_eq_getElem?_getD, hy]; rfl
  have := parsePl_impl h3
  unfold plOf at this
  rw [e0, e1] at this
  unfold parR
  rw [this, if_pos h]
theorem parR_spec {t x y : Str} (hx : (parts t)[0]? = some x) (hy : (parts t)[1]? = some y) (h3 : 3 ≤ (parts t).length) : parR t = (open Classical in if fmtP (numVal x.data.toList) (numVal y.data.toList) ((parts t).drop 2) = t then ⟨numVal x.data.toList, numVal y.data.toList, (parts t).drop 2, true⟩ else noPlR) := by
  have e0 : (parts t).getD 0 ByteArray.empty = x := by rw [List.getD_eq_getElem?_getD, hx]; rfl
  have e1 : (parts t).getD 1 ByteArray.empty = y := by rw [List.getD_eq_getElem?_getD, hy]; rfl
  have e2 : plOf (parts t) = (numVal x.data.toList, numVal y.data.toList, (parts t).drop 2) := by unfold plOf; rw [e0, e1]
  unfold parR parsePl
  rw [e2]
  by_cases h : fmtP (numVal x.data.toList) (numVal y.data.toList) ((parts t).drop 2) = t
  · rw [if_pos h, if_pos ⟨h3, h⟩]
  · rw [if_neg h, if_neg (fun e => h e.2)]; rfl
theorem parR_len (t : Str) : (parR t).l.length ≤ t.size := by
  have := parts_len t
  unfold parR parsePl plOf
  split
  · show ((parts t).drop 2).length ≤ _
    rw [List.length_drop]; omega
  · simp

set_option maxHeartbeats 4000000 in
set_option maxRecDepth 100000 in
theorem implParsePlan (s : Str) (hs : s.size ≤ 1048576) (w : World) :
    Calls Tryd.prog 22 #[.string s] w fun e w' => PlRet (parR s) w e w' := by
  have H0 : Hid (Pool w (w.alloc (Obj.cells #[.int .i64 0, .int .i64 0, .slice none 0 0] 36)) [boxP w.heap.size (.int .i64 0) (.int .i64 0) (.slice none 0 0)]) := (Pool.nil_ w).addBox rfl _ _ _ _
  go_enter Tryd.func22, Tryd.ntmps22
  go_wp2_with fail
  refine (implSplit s hs _).mono ?_
  rintro e w1 ⟨A, n, c, rfl, ho, hb⟩
  have H := Lib.hid (H0.out.addOwn hb ho)
  have hln := (H.out.own 0 rfl).len
  have hcp := (H.out.own 0 rfl).cap_le
  have hpl := parts_len s
  have Hz : Hid (∀ x ∈ parts s, x.size ≤ 1048576) := fun x hx => by have := parts_size hx; omega
  clear ho hb H0
  have fin : ∀ (wv : World), Pool w wv [boxP w.heap.size (.int .i64 0) (.int .i64 0) (.slice none 0 0)] → parR s = noPlR → PlRet (parR s) w (.returned (.tuple #[.agg #[.int .i64 0, .int .i64 0, .slice none 0 0], .bool false])) (((wv.setCell ⟨w.heap.size, 0, none⟩ (.int .i64 0)).setCell ⟨w.heap.size, 1, none⟩ (.int .i64 0)).setCell ⟨w.heap.size, 2, none⟩ (.slice none 0 0)) := fun wv hp e => by
    rw [e]
    exact ⟨none, 0, 0, rfl, Own.nil_ _ _ _ _ _, below_set3 hp.below (Nat.le_refl _) _ _ _⟩
  have Fin := Lib.hid fin
  clear fin
  by_cases h3 : ¬ 3 ≤ n
  · have Ht : Hid (parR s = noPlR) := parR_short (by omega)
    have h3I : (n : Int) < 3 := by omega
    have HB := Lib.hid (H.out.drop 0)
    obtain ⟨-, r0, r1, r2, rz⟩ := H.out.box 1 rfl
    obtain ⟨s0, s1, s2⟩ := set3 r0 r1 r2 (.int .i64 0) (.int .i64 0) (.slice none 0 0)
    go_wp2
    refine bodyPost_ret (v := .tuple #[.agg #[.int .i64 0, .int .i64 0, .slice none 0 0], .bool false]) (by simp [results, Tryd.results22, go_sem, s0, s1, s2]) rfl ?_
    exact Fin.out _ HB.out Ht.out
  have h3 := Decidable.not_not.1 h3
  have h3I : ¬ (n : Int) < 3 := by omega
  obtain ⟨x, hx⟩ : ∃ x, (parts s)[0]? = some x := ⟨_, List.getElem?_eq_getElem (by omega)⟩
  obtain ⟨y, hy⟩ : ∃ y, (parts s)[1]? = some y := ⟨_, List.getElem?_eq_getElem (by omega)⟩
  by_cases h62 : 62 < n
  · have Ht : Hid (parR s = noPlR) := parR_no hx hy (by omega) (fun e => by have := e.1; omega)
    have h62I : (62 : Int) < (n : Int) := by omega
    have HB := Lib.hid (H.out.drop 0)
    obtain ⟨-, r0, r1, r2, rz⟩ := H.out.box 1 rfl
    obtain ⟨s0, s1, s2⟩ := set3 r0 r1 r2 (.int .i64 0) (.int .i64 0) (.slice none 0 0)
    go_wp2
    refine bodyPost_ret (v := .tuple #[.agg #[.int .i64 0, .int .i64 0, .slice none 0 0], .bool false]) (by simp [results, Tryd.results22, go_sem, s0, s1, s2]) rfl ?_
    exact Fin.out _ HB.out Ht.out
  have h62I : ¬ (62 : Int) < (n : Int) := by omega
  obtain ⟨g, hgA, hg1, hg2⟩ := (H.out.own 0 rfl).head (by omega)
  subst hgA
  have hzx := Hz.out x (List.mem_of_getElem? hx)
  have hzy := Hz.out y (List.mem_of_getElem? hy)
  obtain ⟨b, hbv⟩ : ∃ b, numVal x.data.toList = b := ⟨_, rfl⟩
  obtain ⟨p, hpv⟩ : ∃ p, numVal y.data.toList = p := ⟨_, rfl⟩
  obtain ⟨ob, hob⟩ : ∃ b, numOk x.data.toList = b := ⟨_, rfl⟩
  obtain ⟨op, hop⟩ : ∃ b, numOk y.data.toList = b := ⟨_, rfl⟩
  have K0 : Hid (∀ w, Calls Tryd.prog 39 #[.string x] w fun e w' => e = .returned (.tuple #[.int .i64 b, .bool ob]) ∧ Below w.heap.size w w') := fun w => by have := implNumber x hzx w; rw [hbv, hob] at this; exact this
  have K1 : Hid (∀ w, Calls Tryd.prog 39 #[.string y] w fun e w' => e = .returned (.tuple #[.int .i64 p, .bool op]) ∧ Below w.heap.size w w') := fun w => by have := implNumber y hzy w; rw [hpv, hop] at this; exact this
  have HN : Hid (¬ (ob = true ∧ op = true ∧ planOk b p ((parts s).drop 2) = true) → parR s = noPlR) := fun h => parR_no hx hy (by omega) (fun e => by
    rw [hob, hop, hbv, hpv] at e
    exact h e.2)
  have HY : Hid ((ob = true ∧ op = true ∧ planOk b p ((parts s).drop 2) = true) → parR s = ⟨b, p, (parts s).drop 2, true⟩) := fun h => by
    have := parR_yes hx hy (by omega) (by rw [hob, hop, hbv, hpv]; exact ⟨by omega, h⟩)
    rw [hbv, hpv] at this; exact this
  have Hx := Lib.hid hx
  have Hy := Lib.hid hy
  have Hln := Lib.hid hln
  have q0 : w1.cell? ⟨g, 0, none⟩ = some (.string x) := by
    have := ((H.out.own 0 rfl).cell2 strEnc_len hln hx (j := 0) (by omega)).1
    simpa [strEnc] using this
  have hnb : n ≤ 1048577 := by omega
  clear hx hy hbv hpv hob hop hzx hzy hln hpl
  go_wp2_with fail
  refine (K0.out _).mono ?_
  rintro e w2 ⟨rfl, hb⟩
  have H := Lib.hid (H.out.step hb)
  clear hb q0
  have q1 : w2.cell? ⟨g, 1, none⟩ = some (.string y) := by
    have := ((H.out.own 0 rfl).cell2 strEnc_len Hln.out Hy.out (j := 0) (by omega)).1
    simpa [strEnc] using this
  have hg2' := ((H.out.own 0 rfl).lt g rfl).2
  go_wp2_with fail
  refine (K1.out _).mono ?_
  rintro e w3 ⟨rfl, hb⟩
  have H := Lib.hid (H.out.step hb)
  clear hb q1
  cases ob
  · have Ht := Lib.hid (HN.out (fun e => by cases e.1))
    have HB := Lib.hid (H.out.drop 0)
    obtain ⟨-, r0, r1, r2, rz⟩ := H.out.box 1 rfl
    obtain ⟨s0, s1, s2⟩ := set3 r0 r1 r2 (.int .i64 0) (.int .i64 0) (.slice none 0 0)
    go_wp2
    refine bodyPost_ret (v := .tuple #[.agg #[.int .i64 0, .int .i64 0, .slice none 0 0], .bool false]) (by simp [results, Tryd.results22, go_sem, s0, s1, s2]) rfl ?_
    exact Fin.out _ HB.out Ht.out
  cases op
  · have Ht := Lib.hid (HN.out (fun e => by cases e.2.1))
    have HB := Lib.hid (H.out.drop 0)
    obtain ⟨-, r0, r1, r2, rz⟩ := H.out.box 1 rfl
    obtain ⟨s0, s1, s2⟩ := set3 r0 r1 r2 (.int .i64 0) (.int .i64 0) (.slice none 0 0)
    go_wp2
    refine bodyPost_ret (v := .tuple #[.agg #[.int .i64 0, .int .i64 0, .slice none 0 0], .bool false]) (by simp [results, Tryd.results22, go_sem, s0, s1, s2]) rfl ?_
    exact Fin.out _ HB.out Ht.out
  obtain ⟨L, hL⟩ : ∃ L, (parts s).drop 2 = L := ⟨_, rfl⟩
  have hLn : n - 2 = L.length := by have := Hln.out; rw [← hL, List.length_drop]; omega
  have HzL : Hid (∀ x ∈ L, x.size ≤ 1048576) := fun x hx => Hz.out x (by rw [← hL] at hx; exact List.mem_of_mem_drop hx)
  rw [hL] at HN HY
  have hrd : Rd w3 1 strEnc (some ⟨g, 2, none⟩) L := by
    have := ((H.out.own 0 rfl).rd strEnc_len).drop (k := 2) (cap := c) (by have := Hln.out; omega)
    rw [if_neg (by omega), hL] at this
    exact this
  have HR := Lib.hid hrd
  have HLn := Lib.hid hLn
  have hc2 : (2 : Int) ≤ (c : Int) := by omega
  have hn2 : (2 : Int) ≤ (n : Int) := by omega
  have hcn : ¬ c = 2 := by omega
  clear hL hrd hLn
  go_wp2_with fail
  refine (implCopyTexts (some ⟨g, 2, none⟩) L _ _ HLn.out _ (by omega) HR.out).mono ?_
  rintro e w4 ⟨rfl, ho, hb⟩
  have H := Lib.hid ((H.out.addOwn hb ho).addBox rfl (.int .i64 b) (.int .i64 p) (.slice (some ⟨w3.heap.size, 0, none⟩) (n - 2) (n - 2)) 36)
  clear ho hb
  obtain ⟨-, c0, c1, c2, cz⟩ := H.out.box 0 rfl
  cases hv : planOk b p L
  · have Ht := Lib.hid (HN.out (fun e => by rw [hv] at e; cases e.2.2))
    go_wp2_with fail
    refine (implPlanValid b p _ L _ _ HLn.out (Nat.le_refl _) _ (by omega) HzL.out ((H.out.own 1 rfl).rd strEnc_len)).mono ?_
    rw [hv]
    rintro e w5 ⟨rfl, hb⟩
    have H := Lib.hid (H.out.step hb)
    clear hb hv c0 c1 c2 cz
    have HB := Lib.hid (((H.out.drop 2).drop 1).drop 0)
    obtain ⟨-, r0, r1, r2, rz⟩ := H.out.box 3 rfl
    obtain ⟨s0, s1, s2⟩ := set3 r0 r1 r2 (.int .i64 0) (.int .i64 0) (.slice none 0 0)
    go_wp2
    refine bodyPost_ret (v := .tuple #[.agg #[.int .i64 0, .int .i64 0, .slice none 0 0], .bool false]) (by simp [results, Tryd.results22, go_sem, s0, s1, s2]) rfl ?_
    exact Fin.out _ HB.out Ht.out
  · have Ht := Lib.hid (HY.out (by simp [hv]))
    go_wp2_with fail
    refine (implPlanValid b p _ L _ _ HLn.out (Nat.le_refl _) _ (by omega) HzL.out ((H.out.own 1 rfl).rd strEnc_len)).mono ?_
    rw [hv]
    rintro e w5 ⟨rfl, hb⟩
    have H := Lib.hid (H.out.step hb)
    clear hb hv c0 c1 c2 cz
    obtain ⟨-, c0, c1, c2, cz⟩ := H.out.box 0 rfl
    obtain ⟨-, r0, r1, r2, rz⟩ := H.out.box 3 rfl
    obtain ⟨s0, s1, s2⟩ := set3 r0 r1 r2 (.int .i64 b) (.int .i64 p) (.slice (some ⟨w3.heap.size, 0, none⟩) (n - 2) (n - 2))
    have H5 := Lib.hid (H.out.setBox 3 rfl (.int .i64 b) (.int .i64 p) (.slice (some ⟨w3.heap.size, 0, none⟩) (n - 2) (n - 2)))
    go_wp2
    refine bodyPost_ret (v := .tuple #[.agg #[.int .i64 b, .int .i64 p, .slice (some ⟨w3.heap.size, 0, none⟩) (n - 2) (n - 2)], .bool true]) (by simp [results, Tryd.results22, go_sem, s0, s1, s2]) rfl ?_
    rw [Ht.out]
    exact ⟨_, _, _, rfl, H5.out.res 1 rfl, H5.out.below⟩
end Go.Proofs.YtjibjoapbjojlaaDoor
