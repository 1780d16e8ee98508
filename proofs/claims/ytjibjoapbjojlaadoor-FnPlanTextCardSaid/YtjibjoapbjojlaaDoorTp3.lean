/-
  A plan out of its text: the reference's, whose codes are a part of a slice.
-/
import Derived.Test.YtjibjoapbjojlaaDoorTp2
namespace Go.Proofs.YtjibjoapbjojlaaDoor
open Go.RowKit

/-- Strings that read at an address, in a block of their own. -/
def subP (A : Option Addr) (l : List Str) : Piece :=
  ⟨(A.map (·.block)).toList, fun w => Rd w 1 strEnc A l, fun w w' hs hk h hl => by
    obtain ⟨ad, rfl, hb, hc⟩ := h hl
    exact ⟨ad, rfl, by omega, fun i x hx j u hu => by
      have := hc i x hx j u hu
      rw [World.cell?_of_block (hk (ad.add (i * 1 + j)).block (by rw [block_add]; simp))]; exact this⟩⟩
theorem Pool.sub_rd {w0 w : World} {ps : List Piece} (h : Pool w0 w ps) (i : Nat) {A : Option Addr} {l : List Str} (hi : ps[i]? = some (subP A l)) : Rd w 1 strEnc A l := h.get i hi
def SpRet (r : PlR) (w : World) (e : Ending) (w' : World) : Prop :=
  ∃ A k cap, e = .returned (.tuple #[.agg #[.int .i64 r.b, .int .i64 r.p, .slice A k cap], .bool r.ok]) ∧ k = r.l.length ∧ Pool w w' [subP A r.l]
theorem SpRet.no {w w' : World} (hb : Below w.heap.size w w') : SpRet noPlR w (.returned (.tuple #[.agg #[.int .i64 0, .int .i64 0, .slice none 0 0], .bool false])) w' :=
  ⟨none, 0, 0, rfl, rfl, (Pool.of_below hb).add (Below.refl _ _) (subP none []) Rd.nil_ (fun k hk => by simp [subP] at hk)⟩

set_option maxHeartbeats 4000000 in
set_option maxRecDepth 100000 in
theorem specParsePlan (s : Str) (hs : s.size ≤ 1048576) (w : World) :
    Calls Tryd.prog 25 #[.string s] w fun e w' => SpRet (parR s) w e w' := by
  have H0 : Hid (Pool w (w.alloc (Obj.cells #[.int .i64 0, .int .i64 0, .slice none 0 0] 36)) [boxP w.heap.size (.int .i64 0) (.int .i64 0) (.slice none 0 0)]) := (Pool.nil_ w).addBox rfl _ _ _ _
  go_enter Tryd.func25, Tryd.ntmps25
  go_wp2_with fail
  refine (specCut s 32 rfl hs _).mono ?_
  rintro e w1 ⟨A, n, c, rfl, ho, hb⟩
  have H := Lib.hid (H0.out.addOwn hb ho)
  have hln := (H.out.own 0 rfl).len
  have hcp := (H.out.own 0 rfl).cap_le
  have hpl := parts_len s
  have Hz : Hid (∀ x ∈ parts s, x.size ≤ 1048576) := fun x hx => by have := parts_size hx; omega
  clear ho hb H0
  have fin : ∀ (wv : World), Pool w wv [boxP w.heap.size (.int .i64 0) (.int .i64 0) (.slice none 0 0)] → parR s = noPlR → SpRet (parR s) w (.returned (.tuple #[.agg #[.int .i64 0, .int .i64 0, .slice none 0 0], .bool false])) (((wv.setCell ⟨w.heap.size, 0, none⟩ (.int .i64 0)).setCell ⟨w.heap.size, 1, none⟩ (.int .i64 0)).setCell ⟨w.heap.size, 2, none⟩ (.slice none 0 0)) := fun wv hp e => by
    rw [e]
    exact SpRet.no (below_set3 hp.below (Nat.le_refl _) _ _ _)
  have Fin := Lib.hid fin
  clear fin
  by_cases h3 : ¬ 3 ≤ n
  · have Ht : Hid (parR s = noPlR) := parR_short (by omega)
    have h3I : (n : Int) < 3 := by omega
    have HB := Lib.hid (H.out.drop 0)
    obtain ⟨-, r0, r1, r2, rz⟩ := H.out.box 1 rfl
    obtain ⟨s0, s1, s2⟩ := set3 r0 r1 r2 (.int .i64 0) (.int .i64 0) (.slice none 0 0)
    clear hln
    go_wp2
    refine bodyPost_ret (v := .tuple #[.agg #[.int .i64 0, .int .i64 0, .slice none 0 0], .bool false]) (by simp [results, Tryd.results25, go_sem, s0, s1, s2]) rfl ?_
    exact Fin.out _ HB.out Ht.out
  have h3 := Decidable.not_not.1 h3
  have h3I : ¬ (n : Int) < 3 := by omega
  obtain ⟨x, hx⟩ : ∃ x, (parts s)[0]? = some x := ⟨_, List.getElem?_eq_getElem (by omega)⟩
  obtain ⟨y, hy⟩ : ∃ y, (parts s)[1]? = some y := ⟨_, List.getElem?_eq_getElem (by omega)⟩
  obtain ⟨g, hgA, hg1, hg2⟩ := (H.out.own 0 rfl).head (by omega)
  subst hgA
  have hzx := Hz.out x (List.mem_of_getElem? hx)
  have hzy := Hz.out y (List.mem_of_getElem? hy)
  have hsp := parR_spec hx hy (by omega)
  obtain ⟨b, hbv⟩ : ∃ b, numVal x.data.toList = b := ⟨_, rfl⟩
  obtain ⟨p, hpv⟩ : ∃ p, numVal y.data.toList = p := ⟨_, rfl⟩
  obtain ⟨ob, hob⟩ : ∃ b, numOk x.data.toList = b := ⟨_, rfl⟩
  obtain ⟨op, hop⟩ : ∃ b, numOk y.data.toList = b := ⟨_, rfl⟩
  obtain ⟨L, hL⟩ : ∃ L, (parts s).drop 2 = L := ⟨_, rfl⟩
  rw [hbv, hpv, hL] at hsp
  have Hsp := Lib.hid hsp
  have K0 : Hid (∀ w, Calls Tryd.prog 36 #[.string x] w fun e w' => e = .returned (.tuple #[.int .i64 b, .bool ob]) ∧ w = w') := fun w => by have := specNum x hzx w; rw [hbv, hob] at this; exact this
  have K1 : Hid (∀ w, Calls Tryd.prog 36 #[.string y] w fun e w' => e = .returned (.tuple #[.int .i64 p, .bool op]) ∧ w = w') := fun w => by have := specNum y hzy w; rw [hpv, hop] at this; exact this
  have Hln := Lib.hid hln
  have q0 : w1.cell? ⟨g, 0, none⟩ = some (.string x) := by
    have := ((H.out.own 0 rfl).cell2 strEnc_len hln hx (j := 0) (by omega)).1
    simpa [strEnc] using this
  have q1 : w1.cell? ⟨g, 1, none⟩ = some (.string y) := by
    have := ((H.out.own 0 rfl).cell2 strEnc_len hln hy (j := 0) (by omega)).1
    simpa [strEnc] using this
  have hLn : n - 2 = L.length := by rw [← hL, List.length_drop]; omega
  have HzL : Hid (∀ x ∈ L, x.size ≤ 1048576) := fun x hx => Hz.out x (by rw [← hL] at hx; exact List.mem_of_mem_drop hx)
  have hrd : Rd w1 1 strEnc (some ⟨g, 2, none⟩) L := by
    have := ((H.out.own 0 rfl).rd strEnc_len).drop (k := 2) (cap := c) (by omega)
    rw [if_neg (by omega), hL] at this
    exact this
  have hgb : w.heap.size ≤ g ∧ g < w1.heap.size := (H.out.all _ (List.mem_cons_self)).2 g (show g ∈ [g] from List.mem_singleton.2 rfl)
  have HS : Hid (Pool w w1 [subP (some ⟨g, 2, none⟩) L, boxP w.heap.size (.int .i64 0) (.int .i64 0) (.slice none 0 0)]) := by
    have hP := H.out
    refine ⟨hP.below, fun q hq => ?_, List.pairwise_cons.2 ⟨fun q hq k hk hk' => ?_, List.pairwise_cons.2 ⟨fun q hq => absurd hq (by simp), List.Pairwise.nil⟩⟩⟩
    · rcases List.mem_cons.1 hq with rfl | hq
      · refine ⟨hrd, fun k hk => ?_⟩
        have hk : k ∈ [g] := hk
        have := List.mem_singleton.1 hk
        subst this
        exact hgb
      · exact hP.all q (List.mem_cons_of_mem _ hq)
    · have hk : k ∈ [g] := hk
      have := List.mem_singleton.1 hk
      subst this
      exact (List.pairwise_cons.1 hP.apart).1 q hq k (show k ∈ [k] from List.mem_singleton.2 rfl) hk'
  have HLn := Lib.hid hLn
  have hc2 : (2 : Int) ≤ (c : Int) := by omega
  have hn2 : (2 : Int) ≤ (n : Int) := by omega
  have hcI : (n : Int) ≤ (c : Int) := by omega
  have hcn : ¬ c = 2 := by omega
  have hnb : n ≤ 1048577 := by omega
  have hpos : 0 < L.length := by omega
  have Hpos := Lib.hid hpos
  clear hx hy hbv hpv hob hop hzx hzy hln hpl hL hrd hLn H hsp hpos hgb
  go_wp2_with (first
    | (go_at_call 36; with_reducible refine (K0.out _).mono ?_; rintro e w2 ⟨rfl, rfl⟩)
    | (go_at_call 36; with_reducible refine (K1.out _).mono ?_; rintro e w2 ⟨rfl, rfl⟩)
    | fail)
  have H := Lib.hid (HS.out.addBox rfl (.int .i64 b) (.int .i64 p) (.slice (some ⟨g, 2, none⟩) (n - 2) (c - 2)) 36)
  clear HS q0 q1
  refine (specFormatPlan b p _ L _ _ HLn.out _ (by omega) HzL.out (H.out.sub_rd 1 rfl)).mono ?_
  rintro e w3 ⟨rfl, hb⟩
  have H := Lib.hid (H.out.step hb)
  clear hb
  obtain ⟨F, hF⟩ : ∃ F, fmtP b p L = F := ⟨_, rfl⟩
  rw [hF] at Hsp
  have HF := Lib.hid hF
  rw [hF]
  clear hF
  by_cases he : F = s
  · have Ht : Hid (parR s = ⟨b, p, L, true⟩) := by show _ = _; rw [Hsp.out, if_pos he]
    have hq : (ByteArray.toList F != ByteArray.toList s) = false := by rw [bne, str_t he]; rfl
    have hq2 := str_t he
    obtain ⟨-, c0, c1, c2, cz⟩ := H.out.box 0 rfl
    obtain ⟨-, r0, r1, r2, rz⟩ := H.out.box 2 rfl
    obtain ⟨s0, s1, s2⟩ := set3 r0 r1 r2 (.int .i64 b) (.int .i64 p) (.slice (some ⟨g, 2, none⟩) (n - 2) (c - 2))
    have H5 := Lib.hid (H.out.setBox 2 rfl (.int .i64 b) (.int .i64 p) (.slice (some ⟨g, 2, none⟩) (n - 2) (c - 2)))
    clear he
    go_wp2
    refine bodyPost_ret (v := .tuple #[.agg #[.int .i64 b, .int .i64 p, .slice (some ⟨g, 2, none⟩) (n - 2) (c - 2)], .bool true]) (by simp [results, Tryd.results25, go_sem, s0, s1, s2]) rfl ?_
    rw [Ht.out]
    exact ⟨_, _, _, rfl, HLn.out, (H5.out.drop 2).drop 0⟩
  · have Ht : Hid (parR s = noPlR) := by show _ = _; rw [Hsp.out, if_neg he]
    have hq2 := str_f he
    have hq : (ByteArray.toList F != ByteArray.toList s) = true := by rw [bne, hq2]; rfl
    have HB := Lib.hid ((H.out.drop 1).drop 0)
    obtain ⟨-, r0, r1, r2, rz⟩ := H.out.box 2 rfl
    obtain ⟨s0, s1, s2⟩ := set3 r0 r1 r2 (.int .i64 0) (.int .i64 0) (.slice none 0 0)
    clear he
    go_wp2
    refine bodyPost_ret (v := .tuple #[.agg #[.int .i64 0, .int .i64 0, .slice none 0 0], .bool false]) (by simp [results, Tryd.results25, go_sem, s0, s1, s2]) rfl ?_
    exact Fin.out _ HB.out Ht.out
end Go.Proofs.YtjibjoapbjojlaaDoor
