/-
  The law on the text of plans.
-/
import Derived.Test.YtjibjoapbjojlaaDoorTp3
import Derived.Test.YtjibjoapbjojlaaDoorDs4
namespace Go.Proofs.YtjibjoapbjojlaaDoor
open Go.RowKit

set_option maxHeartbeats 2000000 in
set_option maxRecDepth 100000 in
theorem soPlansEq (b p : Int) (A B : Option Addr) (l : List Str) (n c d : Nat) (hl : n = l.length) (w : World) (hn : n ≤ 16777216) (h : Rd w 1 strEnc A l) (h2 : Rd w 1 strEnc B l) :
    Calls Tryd.prog 23 #[.agg #[.int .i64 b, .int .i64 p, .slice A n c], .agg #[.int .i64 b, .int .i64 p, .slice B n d]] w fun e w' => e = .returned (.bool true) ∧ Below w.heap.size w w' := by
  have Hl := Lib.hid hl
  have Hr := Lib.hid h
  have Hs := Lib.hid h2
  have q1 : (b != b) = false := by simp
  have q2 : (p != p) = false := by simp
  have H : Hid (Pool w ((w.alloc (Obj.cells #[.int .i64 b, .int .i64 p, .slice A n c] 36)).alloc (Obj.cells #[.int .i64 b, .int .i64 p, .slice B n d] 36)) [boxP (w.heap.size + 1) (.int .i64 b) (.int .i64 p) (.slice B n d), boxP w.heap.size (.int .i64 b) (.int .i64 p) (.slice A n c)]) := ((Pool.nil_ w).addBox rfl _ _ _ _).addBox (by simp) _ _ _ _
  clear h h2 hl
  go_enter Tryd.func23, Tryd.ntmps23
  go_wp2
  go_loopw [5] (fun i wr => ∃ j : Nat, j ≤ n ∧ i = .int .i64 j ∧ Hid (Pool w wr [boxP (w.heap.size + 1) (.int .i64 b) (.int .i64 p) (.slice B n d), boxP w.heap.size (.int .i64 b) (.int .i64 p) (.slice A n c)])) (fun i _ => n - (intOf i).toNat)
  case atStart => exact ⟨0, Nat.zero_le _, rfl, H.out⟩
  case round =>
    clear H
    obtain ⟨j, hj, rfl, H⟩ := hrel
    obtain ⟨-, d0, d1, d2, -⟩ := H.out.box 0 rfl
    obtain ⟨-, c0, c1, c2, -⟩ := H.out.box 1 rfl
    by_cases hlt : j < n
    · obtain ⟨x, hx⟩ : ∃ x, l[j]? = some x := ⟨_, List.getElem?_eq_getElem (by have := Hl.out; omega)⟩
      obtain ⟨ad, rfl, hab, e0⟩ := (Hr.out.below H.out.below).one hx rfl
      obtain ⟨bd, rfl, hbb, f0⟩ := (Hs.out.below H.out.below).one hx rfl
      have hq := str_t (a := x) rfl
      clear hx
      go_wp2
      go_quiet (fail)
      go_wp2
      go_roundw
      case rel => exact ⟨j + 1, by omega, by go_num, H.out.drew _⟩
      case measure => simp [intOf]; omega
    · obtain rfl : j = n := by omega
      go_wp2
      go_ret
      exact ⟨rfl, H.out.below⟩

theorem parR_small {s : Str} (hs : s.size ≤ 1048576) : ∀ x ∈ (parR s).l, x.size ≤ 1048576 := by
  unfold parR parsePl plOf
  split
  · intro x hx
    have := parts_size (List.mem_of_mem_drop hx)
    omega
  · intro x hx; simp at hx
theorem parR_fmt {s : Str} (h : (parR s).ok = true) : fmtP (parR s).b (parR s).p (parR s).l = s :=
  fmt_parsePl (q := (parsePl s).1) (by rw [← (show (parsePl s).2 = true from h)])

set_option maxHeartbeats 8000000 in
set_option maxRecDepth 100000 in
theorem walkFnPlanText (A : Option Addr) (bs : List UInt8) (c : Nat) (A' : Option Addr) (bs' : List UInt8) (c' : Nat) (w : World) (h : ByIn w A bs c) (h' : ByIn w A' bs' c') :
    Calls Tryd.prog 5 #[.slice A bs.length c, .slice A' bs'.length c'] w fun e w' => e = .returned (.bool true) ∧ Below w.heap.size w w' := by
  obtain ⟨hlc, hcm, hr⟩ := h
  obtain ⟨hlc', hcm', hr'⟩ := h'
  have Hr := Lib.hid hr
  have Hr' := Lib.hid hr'
  unfold maxLen at hcm hcm'
  clear hr hr'
  by_cases hlen : ¬ (bs.length : Int) ≤ 1048576
  · go_enter Tryd.func5, Tryd.ntmps5
    go_wp2
    go_ret
    exact ⟨rfl, Below.refl _ _⟩
  have hlen := Decidable.not_not.1 hlen
  by_cases hlen' : ¬ (bs'.length : Int) ≤ 1048576
  · go_enter Tryd.func5, Tryd.ntmps5
    go_wp2
    go_ret
    exact ⟨rfl, Below.refl _ _⟩
  have hlen' := Decidable.not_not.1 hlen'
  go_enter Tryd.func5, Tryd.ntmps5
  go_wp2_with fail
  refine (drawFormatPlanC A bs _ _ rfl hlc _ (by omega) Hr.out).mono ?_
  rintro e w1 ⟨b, p, A1, n1, c1, l, rfl, HO⟩
  have hn1 := HO.out.1
  have Hs : Hid (∀ x ∈ l, x.size ≤ 1048576) := fun x hx => by have := HO.out.2.1 x hx; omega
  have H : Hid (Pool w (w1.alloc (Obj.cells #[.int .i64 b, .int .i64 p, .slice A1 n1 c1] 36)) [boxP w1.heap.size (.int .i64 b) (.int .i64 p) (.slice A1 n1 c1), ownP 9 1 strEnc (.slice A1 n1 c1) l]) := HO.out.2.2.addBox rfl _ _ _ _
  have hln := (H.out.own 1 rfl).len
  subst hln
  have Hc := Lib.hid (H.out.own 1 rfl).cap_le
  have HA : Hid (0 < l.length → ∃ g o, A1 = some ⟨g, o, none⟩) := fun h0 => by
    obtain ⟨g, hg, -⟩ := (H.out.own 1 rfl).head h0
    exact ⟨g, 0, hg⟩
  clear HO
  have K2 : ∀ (s : Str), s.size ≤ 1000 → ∃ q z m ok, Hid (parR s = ⟨q, z, m, ok⟩) ∧ m.length ≤ 1048576 ∧ Hid (∀ x ∈ m, x.size ≤ 1048576) ∧ Hid (ok = true → fmtP q z m = s) := fun s hs =>
    ⟨(parR s).b, (parR s).p, (parR s).l, (parR s).ok, rfl, Nat.le_trans (parR_len s) (by omega), parR_small (by omega), fun h => parR_fmt h⟩
  obtain ⟨T, hT⟩ : ∃ T, fmtP b p l = T := ⟨_, rfl⟩
  have HTT := Lib.hid hT
  have hTT : (ByteArray.toList T == ByteArray.toList T) = true := by simp
  obtain ⟨-, c0, c1', c2, cz⟩ := H.out.box 0 rfl
  cases hok : planOk b p l
  · have hTe : T = ByteArray.empty := by rw [← hT]; unfold fmtP; rw [hok]; rfl
    subst hTe
    have Hok := Lib.hid hok
    have hq := str_t (a := ByteArray.empty) (b := (⟨#[]⟩ : Str)) rfl
    clear hT hok
    go_wp2_with fail
    refine (implFormatPlan b p A1 l _ c1 rfl Hc.out HA.out _ (by omega) Hs.out ((H.out.own 1 rfl).rd strEnc_len)).mono ?_
    rw [HTT.out]
    rintro e w2 ⟨rfl, hb⟩
    have H := Lib.hid (H.out.step hb)
    clear hb c0 c1' c2 cz
    obtain ⟨-, c0, c1', c2, cz⟩ := H.out.box 0 rfl
    go_wp2_with fail
    refine (specFormatPlan b p A1 l _ c1 rfl _ (by omega) Hs.out ((H.out.own 1 rfl).rd strEnc_len)).mono ?_
    rw [HTT.out]
    rintro e w3 ⟨rfl, hb⟩
    have H := Lib.hid (H.out.step hb)
    clear hb c0 c1' c2 cz
    obtain ⟨-, c0, c1', c2, cz⟩ := H.out.box 0 rfl
    go_wp2_with fail
    refine (implPlanValid b p A1 l _ c1 rfl Hc.out _ (by omega) Hs.out ((H.out.own 1 rfl).rd strEnc_len)).mono ?_
    rw [Hok.out]
    rintro e w4 ⟨rfl, hb⟩
    have H := Lib.hid (H.out.step hb)
    clear hb c0 c1' c2 cz
    go_wp2_with fail
    refine (drawParsePlanC A' bs' _ _ rfl hlc' _ (by omega) (Hr'.out.below H.out.below)).mono ?_
    rintro e w5 ⟨s, rfl, hs, hb⟩
    have H := Lib.hid ((H.out.step hb).none_)
    clear hb
    obtain ⟨q, z, m, ok, Hm, hm, Hy, Hf⟩ := K2 s hs
    go_wp2_with fail
    refine (implParsePlan s (by omega) _).mono ?_
    rw [Hm.out]
    rintro e w6 ⟨A6, n6, c6, rfl, ho, hb⟩
    have H : Hid (Pool w (w6.alloc (Obj.cells #[.int .i64 q, .int .i64 z, .slice A6 n6 c6] 36)) [boxP w6.heap.size (.int .i64 q) (.int .i64 z) (.slice A6 n6 c6), ownP 9 1 strEnc (.slice A6 n6 c6) m]) := (H.out.addOwn hb ho).addBox rfl _ _ _ _
    have hl6 : n6 = m.length := ho.len
    subst hl6
    clear ho hb
    go_wp2_with fail
    refine (specParsePlan s (by omega) _).mono ?_
    rw [Hm.out]
    rintro e w7 ⟨A7, n7, c7, rfl, hl7, hp7⟩
    have H : Hid (Pool w (w7.alloc (Obj.cells #[.int .i64 q, .int .i64 z, .slice A7 n7 c7] 36)) [boxP w7.heap.size (.int .i64 q) (.int .i64 z) (.slice A7 n7 c7), subP A7 m, boxP w6.heap.size (.int .i64 q) (.int .i64 z) (.slice A6 m.length c6), ownP 9 1 strEnc (.slice A6 m.length c6) m]) := (H.out.join hp7).addBox rfl _ _ _ _
    have hl7 : n7 = m.length := hl7
    subst hl7
    clear hp7
    obtain ⟨-, c0, c1', c2, cz⟩ := H.out.box 2 rfl
    obtain ⟨-, d0, d1, d2, dz⟩ := H.out.box 0 rfl
    go_wp2_with fail
    refine (soPlansEq q z A6 A7 m _ c6 c7 rfl _ (by omega) ((H.out.own 3 rfl).rd strEnc_len) (H.out.sub_rd 1 rfl)).mono ?_
    rintro e w8 ⟨rfl, hb⟩
    have H := Lib.hid (H.out.step hb)
    clear hb c0 c1' c2 cz d0 d1 d2 dz
    cases ok
    · go_wp2
      go_ret
      exact ⟨rfl, H.out.below⟩
    · have Hc6 := Lib.hid (H.out.own 3 rfl).cap_le
      have HA6 : Hid (0 < m.length → ∃ g o, A6 = some ⟨g, o, none⟩) := fun h0 => by
        obtain ⟨g, hg, -⟩ := (H.out.own 3 rfl).head h0
        exact ⟨g, 0, hg⟩
      have Hff : Hid (fmtP q z m = s) := Hf.out rfl
      have hss : (ByteArray.toList s == ByteArray.toList s) = true := by simp
      obtain ⟨-, c0, c1', c2, cz⟩ := H.out.box 2 rfl
      go_wp2_with fail
      refine (implFormatPlan q z A6 m _ c6 rfl Hc6.out HA6.out _ (by omega) Hy.out ((H.out.own 3 rfl).rd strEnc_len)).mono ?_
      rw [Hff.out]
      rintro e w9 ⟨rfl, hb⟩
      have H := Lib.hid (H.out.step hb)
      clear hb c0 c1' c2 cz
      go_wp2
      go_ret
      exact ⟨rfl, H.out.below⟩
  · have hTz : 1 ≤ T.size ∧ T.size ≤ 1000 := by
      have hp := planOk_parts hok
      have h0 := decS_size (b := b) (by omega) (by omega)
      have h1 := decS_size (b := p) (by omega) (by omega)
      have h2 := joinL_codes hp.2.2.2.2
      rw [← hT]
      unfold fmtP
      rw [if_pos hok, ByteArray.size_append, ByteArray.size_append, ByteArray.size_append, ByteArray.size_append, show cSp.size = 1 from rfl]
      omega
    have hne : ¬ T = (⟨#[]⟩ : Str) := by
      rintro rfl
      have := hTz.1
      cases this
    have hq2 := str_f hne
    have hq : (ByteArray.toList T).isEmpty = false := by simpa using hq2
    have Hok := Lib.hid hok
    have KP : Hid (∀ W, Calls Tryd.prog 22 #[.string T] W fun e w' => ∃ A n c, e = .returned (.tuple #[.agg #[.int .i64 b, .int .i64 p, .slice A n c], .bool true]) ∧ Own w' W.heap.size 9 1 strEnc (.slice A n c) l ∧ Below W.heap.size W w') := fun W => by
      have h1 : parR T = ⟨b, p, l, true⟩ := by
        unfold parR
        rw [← hT, parse_fmtP hok]
      have := implParsePlan T (by omega) W
      rw [h1] at this
      exact this
    clear hT hok hne
    go_wp2_with fail
    refine (implFormatPlan b p A1 l _ c1 rfl Hc.out HA.out _ (by omega) Hs.out ((H.out.own 1 rfl).rd strEnc_len)).mono ?_
    rw [HTT.out]
    rintro e w2 ⟨rfl, hb⟩
    have H := Lib.hid (H.out.step hb)
    clear hb c0 c1' c2 cz
    obtain ⟨-, c0, c1', c2, cz⟩ := H.out.box 0 rfl
    go_wp2_with fail
    refine (specFormatPlan b p A1 l _ c1 rfl _ (by omega) Hs.out ((H.out.own 1 rfl).rd strEnc_len)).mono ?_
    rw [HTT.out]
    rintro e w3 ⟨rfl, hb⟩
    have H := Lib.hid (H.out.step hb)
    clear hb c0 c1' c2 cz
    obtain ⟨-, c0, c1', c2, cz⟩ := H.out.box 0 rfl
    go_wp2_with fail
    refine (implPlanValid b p A1 l _ c1 rfl Hc.out _ (by omega) Hs.out ((H.out.own 1 rfl).rd strEnc_len)).mono ?_
    rw [Hok.out]
    rintro e w4 ⟨rfl, hb⟩
    have H := Lib.hid (H.out.step hb)
    clear hb c0 c1' c2 cz
    go_wp2_with fail
    refine (KP.out _).mono ?_
    rintro e w4 ⟨A4, n4, c4, rfl, ho, hb⟩
    have H : Hid (Pool w (w4.alloc (Obj.cells #[.int .i64 b, .int .i64 p, .slice A4 n4 c4] 36)) [boxP w4.heap.size (.int .i64 b) (.int .i64 p) (.slice A4 n4 c4), ownP 9 1 strEnc (.slice A4 n4 c4) l, boxP w1.heap.size (.int .i64 b) (.int .i64 p) (.slice A1 l.length c1), ownP 9 1 strEnc (.slice A1 l.length c1) l]) := (H.out.addOwn hb ho).addBox rfl _ _ _ _
    have hl4 : n4 = l.length := ho.len
    subst hl4
    clear ho hb
    obtain ⟨-, d0, d1, d2, dz⟩ := H.out.box 0 rfl
    obtain ⟨-, c0, c1', c2, cz⟩ := H.out.box 2 rfl
    go_wp2_with fail
    refine (soPlansEq b p A4 A1 l _ c4 c1 rfl _ (by omega) ((H.out.own 1 rfl).rd strEnc_len) ((H.out.own 3 rfl).rd strEnc_len)).mono ?_
    rintro e w5 ⟨rfl, hb⟩
    have H := Lib.hid (H.out.step hb)
    clear hb c0 c1' c2 cz d0 d1 d2 dz
    go_wp2_with fail
    refine (drawParsePlanC A' bs' _ _ rfl hlc' _ (by omega) (Hr'.out.below H.out.below)).mono ?_
    rintro e w5 ⟨s, rfl, hs, hb⟩
    have H := Lib.hid ((H.out.step hb).none_)
    clear hb
    obtain ⟨q, z, m, ok, Hm, hm, Hy, Hf⟩ := K2 s hs
    go_wp2_with fail
    refine (implParsePlan s (by omega) _).mono ?_
    rw [Hm.out]
    rintro e w6 ⟨A6, n6, c6, rfl, ho, hb⟩
    have H : Hid (Pool w (w6.alloc (Obj.cells #[.int .i64 q, .int .i64 z, .slice A6 n6 c6] 36)) [boxP w6.heap.size (.int .i64 q) (.int .i64 z) (.slice A6 n6 c6), ownP 9 1 strEnc (.slice A6 n6 c6) m]) := (H.out.addOwn hb ho).addBox rfl _ _ _ _
    have hl6 : n6 = m.length := ho.len
    subst hl6
    clear ho hb
    go_wp2_with fail
    refine (specParsePlan s (by omega) _).mono ?_
    rw [Hm.out]
    rintro e w7 ⟨A7, n7, c7, rfl, hl7, hp7⟩
    have H : Hid (Pool w (w7.alloc (Obj.cells #[.int .i64 q, .int .i64 z, .slice A7 n7 c7] 36)) [boxP w7.heap.size (.int .i64 q) (.int .i64 z) (.slice A7 n7 c7), subP A7 m, boxP w6.heap.size (.int .i64 q) (.int .i64 z) (.slice A6 m.length c6), ownP 9 1 strEnc (.slice A6 m.length c6) m]) := (H.out.join hp7).addBox rfl _ _ _ _
    have hl7 : n7 = m.length := hl7
    subst hl7
    clear hp7
    obtain ⟨-, c0, c1', c2, cz⟩ := H.out.box 2 rfl
    obtain ⟨-, d0, d1, d2, dz⟩ := H.out.box 0 rfl
    go_wp2_with fail
    refine (soPlansEq q z A6 A7 m _ c6 c7 rfl _ (by omega) ((H.out.own 3 rfl).rd strEnc_len) (H.out.sub_rd 1 rfl)).mono ?_
    rintro e w8 ⟨rfl, hb⟩
    have H := Lib.hid (H.out.step hb)
    clear hb c0 c1' c2 cz d0 d1 d2 dz
    cases ok
    · go_wp2
      go_ret
      exact ⟨rfl, H.out.below⟩
    · have Hc6 := Lib.hid (H.out.own 3 rfl).cap_le
      have HA6 : Hid (0 < m.length → ∃ g o, A6 = some ⟨g, o, none⟩) := fun h0 => by
        obtain ⟨g, hg, -⟩ := (H.out.own 3 rfl).head h0
        exact ⟨g, 0, hg⟩
      have Hff : Hid (fmtP q z m = s) := Hf.out rfl
      have hss : (ByteArray.toList s == ByteArray.toList s) = true := by simp
      obtain ⟨-, c0, c1', c2, cz⟩ := H.out.box 2 rfl
      go_wp2_with fail
      refine (implFormatPlan q z A6 m _ c6 rfl Hc6.out HA6.out _ (by omega) Hy.out ((H.out.own 3 rfl).rd strEnc_len)).mono ?_
      rw [Hff.out]
      rintro e w9 ⟨rfl, hb⟩
      have H := Lib.hid (H.out.step hb)
      clear hb c0 c1' c2 cz
      go_wp2
      go_ret
      exact ⟨rfl, H.out.below⟩
end Go.Proofs.YtjibjoapbjojlaaDoor
