/-
  What the reference draws as plans and as their text.
-/
import Derived.Test.YtjibjoapbjojlaaDoorDs1
import Derived.Test.YtjibjoapbjojlaaDoorTp1
import Derived.Deep.Cut
import Derived.Deep.RegionHeld3
namespace Go.Proofs.YtjibjoapbjojlaaDoor
open Go.RowKit

theorem cds_push {l : List Str} {f : Str} (h : cdsOk l = true) (hf : codeOk f = true) (hn : strIdx l f = none) : cdsOk (l ++ [f]) = true := by
  refine (cdsOk_iff _).2 fun i hi => ?_
  rw [List.length_append, List.length_singleton] at hi
  by_cases hl : i < l.length
  · have h1 := (cdsOk_iff l).1 h i hl
    rw [cdOkAt_eq (List.getElem?_eq_getElem hl)] at h1
    rw [cdOkAt_eq ((List.getElem?_append_left hl).trans (List.getElem?_eq_getElem hl)), List.take_append_of_le_length (by omega)]
    exact h1
  · obtain rfl : i = l.length := by omega
    rw [cdOkAt_eq (x := f) (by simp), hf, List.take_left, hn]
    rfl
theorem pw_drawn : ∀ n : Fin 13, ∀ b : Fin 11, 2 ≤ b.val → 1 ≤ n.val → passesOk (max (lpOf (n.val : Int) (b.val : Int)) 1) = true ∧ (n.val : Int) ≤ pw (b.val : Int) (max (lpOf (n.val : Int) (b.val : Int)) 1).toNat := by decide +kernel
theorem plan_drawn {b : Int} {n : Nat} {l : List Str} (h1 : 2 ≤ b) (h2 : b ≤ 10) (hl : n = l.length) (hn1 : 1 ≤ n) (hn2 : n ≤ 12) (hc : cdsOk l = true) : planOk b (max (lpOf (n : Int) b) 1) l = true := by
  obtain ⟨k, rfl⟩ := Int.eq_ofNat_of_zero_le (show 0 ≤ b by omega)
  obtain ⟨e1, e2⟩ := pw_drawn ⟨n, by omega⟩ ⟨k, by omega⟩ (by show 2 ≤ k; omega) hn1
  simp only at e1 e2
  subst hl
  unfold planOk
  rw [hc, e1, show binsOk (k : Int) = true from by unfold binsOk; rw [decide_eq_true_eq]; omega, decide_eq_true e2, decide_eq_true (show 1 ≤ l.length ∧ l.length ≤ 60 by omega)]
  rfl
theorem fmtP_bd {b p : Int} {l : List Str} (h : planOk b p l = true) (hn : l.length ≤ 12) : 1 ≤ (fmtP b p l).size ∧ (fmtP b p l).size ≤ 200 := by
  have hp := planOk_parts h
  have h0 := decS_size (b := b) (by omega) (by omega)
  have h1 := decS_size (b := p) (by omega) (by omega)
  have h2 := joinL_codes hp.2.2.2.2
  unfold fmtP
  rw [if_pos h, ByteArray.size_append, ByteArray.size_append, ByteArray.size_append, ByteArray.size_append, show cSp.size = 1 from rfl]
  omega
theorem str_one5 {x : Str} (h : x ∈ [(⟨#[]⟩ : Str), (⟨#[48]⟩ : Str), (⟨#[32]⟩ : Str), (⟨#[45]⟩ : Str), (⟨#[120]⟩ : Str)]) : x.size ≤ 1 := by
  simp only [List.mem_cons, List.not_mem_nil, or_false] at h
  rcases h with rfl | rfl | rfl | rfl | rfl <;> decide

set_option maxHeartbeats 2000000 in
set_option maxRecDepth 100000 in
/-- l3Order: at least one code. -/
theorem orderD {w0 w : World} {ps : List Piece} {g k : Nat} (h : Pool w0 w (rdP w0 g k :: ps)) (hk : k ≤ 800000) :
    Calls Tryd.prog 86 #[.pointer (some ⟨g, 0, none⟩), .int .i64 12] w fun e w' => ∃ A n c l, e = .returned (.slice A n c) ∧ 1 ≤ n ∧ n ≤ 12 ∧ Hid (cdsOk l = true) ∧ Hid (Pool w0 w' (rdP w0 g (k + 97) :: ownP 9 1 strEnc (.slice A n c) l :: ps)) := by
  have H : Hid (Pool w0 (w.alloc (Obj.cells #[] 9)) (rdP w0 g k :: ownP 9 1 strEnc (.slice (some ⟨w.heap.size, 0, none⟩) 0 0) [] :: ps)) :=
    (h.addOwn ((Below.refl _ _).alloc (Nat.le_refl _) _) (Own.lit0 w 9 1 strEnc)).swap
  clear h
  go_enter Tryd.func86, Tryd.ntmps86
  go_wp2_with fail
  refine (pickP H.out 12 (by omega)).mono ?_
  rintro e w1 ⟨v, rfl, hv0, hv1, H⟩
  obtain ⟨n0, rfl⟩ := Int.eq_ofNat_of_zero_le hv0
  have hn0 : n0 ≤ 11 := by omega
  clear hv0 hv1
  go_wp2_with fail
  go_loopw [5, 6] (fun s i wr => ∃ (j : Nat) (A : Option Addr) (n c : Nat) (l : List Str) (q : Nat), j ≤ n0 + 1 ∧ i = .int .i64 j ∧ s = .slice A n c ∧ n + j ≤ n0 + 1 ∧ (j = n0 + 1 ∨ 1 ≤ n) ∧ q + 8 * j ≤ k + 1 + 8 * (n0 + 1) ∧ Hid (cdsOk l = true) ∧ Hid (Pool w0 wr (rdP w0 g q :: ownP 9 1 strEnc (.slice A n c) l :: ps))) (fun _ i _ => (intOf i).toNat)
  case atStart => exact ⟨n0 + 1, _, 0, 0, [], k + 1, Nat.le_refl _, by go_num, rfl, by omega, .inl rfl, by omega, Lib.hid rfl, H.out⟩
  case round =>
    clear H
    obtain ⟨j, A, n, c, l, q, hj, rfl, rfl, hn, hor, hq, Hs, H⟩ := hrel
    by_cases hlt : 0 < j
    · go_wp2_with fail
      refine (someCodeQ H.out (by omega)).mono ?_
      rintro e w2 ⟨f, rfl, hf, H2⟩
      have hln := (H2.out.own 1 rfl).len
      obtain ⟨v, hv⟩ : ∃ v, idxInt (strIdx l f) = v := ⟨_, rfl⟩
      have Hor := Lib.hid hor
      have Hln := Lib.hid hln
      have Hv := Lib.hid hv
      clear H hor hln hv
      by_cases hv0 : v < 0
      · have Hs3 : Hid (cdsOk (l ++ [f]) = true) := cds_push Hs.out hf (idxInt_neg.1 (by rw [Hv.out]; exact hv0))
        clear hf
        go_wp2_with (first
          | (go_at_call 105; refine (specRank A l n c Hln.out f _ (by omega) ((H2.out.own 1 rfl).rd strEnc_len)).mono ?_; rw [Hv.out]; rintro e w3 ⟨rfl, rfl⟩)
          | (at_builtin; refine wpList_append1L (.tmp 23) (.tmp 25) 34 9 str_info Tryd.underlying34 rfl (by decide) rfl rfl f rfl Hln.out ((H2.out.alloc _).own 1 rfl) rfl strEnc_len (strEnc_cells f rfl) (strEnc_one _) (by omega) (by omega) (Nat.zero_le _) ?_; intro g3 c3 w5 ho3 hg3 hat3))
        have H5 : Hid (Pool w0 w5 (rdP w0 g (q + 8) :: ownP 9 1 strEnc (.slice (some ⟨g3, 0, none⟩) (n + 1) c3) (l ++ [f]) :: ps)) := (H2.out.alloc (Obj.cells #[.string f] 9)).append 1 rfl ho3 hg3 (fun q e => by injection e with e; subst e; exact hat3)
        clear ho3 hg3 hat3 H2
        go_roundw
        case rel => exact ⟨j - 1, _, n + 1, c3, l ++ [f], q + 8, by omega, by go_num, rfl, by omega, .inr (by omega), by omega, Hs3, H5.out⟩
        case measure => simp [intOf]; omega
      · clear hf
        have hn1 : 1 ≤ n := by
          rcases Hor.out with h | h
          · exfalso
            have h0 : l = [] := List.eq_nil_of_length_eq_zero (by have := Hln.out; omega)
            have h1 := Hv.out
            rw [h0] at h1
            have h1 : (-1 : Int) = v := h1
            omega
          · exact h
        go_wp2_with (go_at_call 105; refine (specRank A l n c Hln.out f _ (by omega) ((H2.out.own 1 rfl).rd strEnc_len)).mono ?_; rw [Hv.out]; rintro e w3 ⟨rfl, rfl⟩)
        go_roundw
        case rel => exact ⟨j - 1, A, n, c, l, q + 8, by omega, by go_num, rfl, by omega, .inr hn1, by omega, Hs.out, H2.out⟩
        case measure => simp [intOf]; omega
    · obtain rfl : j = 0 := by omega
      go_wp2
      go_ret
      exact ⟨A, n, c, l, rfl, by omega, by omega, Hs.out, H.out.rdUp (by omega)⟩

set_option maxHeartbeats 2000000 in
set_option maxRecDepth 100000 in
/-- l3Some: a plan in range. -/
theorem somePlanD {w0 w : World} {ps : List Piece} {g k : Nat} (h : Pool w0 w (rdP w0 g k :: ps)) (hk : k ≤ 700000) :
    Calls Tryd.prog 61 #[.pointer (some ⟨g, 0, none⟩)] w fun e w' => ∃ b p A n c l, e = .returned (.agg #[.int .i64 b, .int .i64 p, .slice A n c]) ∧ n ≤ 12 ∧ Hid (planOk b p l = true) ∧ Hid (Pool w0 w' (rdP w0 g (k + 98) :: ownP 9 1 strEnc (.slice A n c) l :: ps)) := by
  have H : Hid (Pool w0 (w.alloc (Obj.cells #[.int .i64 0, .int .i64 0, .slice none 0 0] 36)) (rdP w0 g k :: boxP w.heap.size (.int .i64 0) (.int .i64 0) (.slice none 0 0) :: ps)) := (h.addBox rfl _ _ _ _).swap
  clear h
  go_enter Tryd.func61, Tryd.ntmps61
  go_wp2_with fail
  refine (numP [4, 3, 5, 2, 10] 5 _ _ _ H.out (by simp) rfl (by decide) (by decide) (by omega)).mono ?_
  rintro e w1 ⟨b, rfl, hb, H⟩
  have hb' : 2 ≤ b ∧ b ≤ 10 := by simp at hb; omega
  clear hb
  go_wp2_with fail
  refine (orderD H.out (by omega)).mono ?_
  rintro e w2 ⟨A, n, c, l, rfl, hn1, hn2, Hs, H⟩
  obtain ⟨v, hv⟩ : ∃ v, lpOf (n : Int) b = v := ⟨_, rfl⟩
  have Hok : Hid (planOk b (max v 1) l = true) := by rw [← hv]; exact plan_drawn hb'.1 hb'.2 (H.out.own 1 rfl).len hn1 hn2 Hs.out
  have Hv := Lib.hid hv
  clear hv
  obtain ⟨-, c0, c1, c2, cz⟩ := H.out.box 2 rfl
  obtain ⟨s0, s1, s2⟩ := set3 c0 c1 c2 (.int .i64 b) (.int .i64 (max v 1)) (.slice A n c)
  go_wp2_with (go_at_call 87; refine (specLeastPasses (n : Int) b _).mono ?_; rw [Hv.out]; rintro e w3 ⟨rfl, rfl⟩)
  refine bodyPost_ret (v := .agg #[.int .i64 b, .int .i64 (max v 1), .slice A n c]) (by simp [results, Tryd.results61, go_sem, s0, s1, s2]) rfl ?_
  exact ⟨b, max v 1, A, n, c, l, rfl, hn2, Hok.out, (H.out.setBox 2 rfl _ _ _).drop 2⟩

set_option maxHeartbeats 1000000 in
set_option maxRecDepth 100000 in
theorem drawFormatPlanC (A : Option Addr) (bs : List UInt8) (n cap : Nat) (hn : n = bs.length) (hc : n ≤ cap) (w : World) (hlen : n ≤ 1048576) (hr : Rd w 1 byEnc A bs) :
    Calls Tryd.prog 18 #[.slice A n cap] w fun e w' => ∃ b p A' n' c' l, e = .returned (.agg #[.int .i64 b, .int .i64 p, .slice A' n' c']) ∧ Hid (PlanOut w w' A' n' c' l) := by
  have Hn := Lib.hid hn
  have Hr := Lib.hid hr
  clear hn hr
  have H : Hid (Pool w (w.alloc (Obj.cells #[.int .i64 0, .int .i64 0, .slice none 0 0] 36)) [boxP w.heap.size (.int .i64 0) (.int .i64 0) (.slice none 0 0)]) := (Pool.nil_ w).addBox rfl _ _ _ _
  go_enter Tryd.func18, Tryd.ntmps18
  go_wp2_with fail
  refine (drawValidC A bs n cap Hn.out hc _ hlen (Hr.out.below H.out.below)).mono ?_
  rintro e w1 ⟨b, p, A2, n2, c2, l2, rfl, HO⟩
  have H := Lib.hid (H.out.join HO.out.2.2)
  obtain ⟨-, r0, r1, r2, rz⟩ := H.out.box 1 rfl
  obtain ⟨s0, s1, s2⟩ := set3 r0 r1 r2 (.int .i64 b) (.int .i64 p) (.slice A2 n2 c2)
  have H5 := Lib.hid (H.out.setBox 1 rfl (.int .i64 b) (.int .i64 p) (.slice A2 n2 c2))
  go_wp2
  refine bodyPost_ret (v := .agg #[.int .i64 b, .int .i64 p, .slice A2 n2 c2]) (by simp [results, Tryd.results18, go_sem, s0, s1, s2]) rfl ?_
  exact ⟨b, p, A2, n2, c2, l2, rfl, HO.out.1, HO.out.2.1, H5.out.drop 1⟩

set_option maxHeartbeats 2000000 in
set_option maxRecDepth 100000 in
theorem drawParsePlanC (A : Option Addr) (bs : List UInt8) (n cap : Nat) (hn : n = bs.length) (hc : n ≤ cap) (w : World) (hlen : n ≤ 1048576) (hr : Rd w 1 byEnc A bs) :
    Calls Tryd.prog 24 #[.slice A n cap] w fun e w' => ∃ s : Str, e = .returned (.string s) ∧ s.size ≤ 1000 ∧ Below w.heap.size w w' := by
  have Hn := Lib.hid hn
  have Hr := Lib.hid hr
  clear hn hr
  go_enter Tryd.func24, Tryd.ntmps24
  go_wp2_with fail
  refine (openP A bs n cap Hn.out hc _ hlen Hr.out).mono ?_
  rintro e w1 ⟨g, rfl, H1⟩
  go_wp2_with fail
  refine (somePlanD H1.out (by omega)).mono ?_
  rintro e w2 ⟨b0, p0, A2, n2, c2, l2, rfl, hn2, Hok, H2⟩
  have hln := (H2.out.own 1 rfl).len
  obtain ⟨G, hG⟩ : ∃ G, fmtP b0 p0 l2 = G := ⟨_, rfl⟩
  have hGz := fmtP_bd Hok.out (by omega)
  rw [hG] at hGz
  have Hln := Lib.hid hln
  have HG := Lib.hid hG
  clear H1 hG hln
  go_wp2_with fail
  refine (specFormatPlan b0 p0 A2 l2 n2 c2 Hln.out _ (by omega) (fun x hx => by have := codeOk_size (cds_code (planOk_parts Hok.out).2.2.2.2 hx); omega) ((H2.out.own 1 rfl).rd strEnc_len)).mono ?_
  rw [HG.out]
  rintro e w3 ⟨rfl, hb⟩
  have H3 := Lib.hid ((H2.out.step hb).drop 1)
  clear hb H2
  go_wp2_with fail
  refine (pickP H3.out 2 (by omega)).mono ?_
  rintro e w4 ⟨v, rfl, hv0, hv1, H4⟩
  clear H3
  by_cases h0 : v = 0
  · subst h0
    go_wp2
    go_ret
    exact ⟨G, rfl, by omega, H4.out.below⟩
  · have hq : (v == 0) = false := by simpa using h0
    clear h0 hv0 hv1
    go_wp2_with fail
    refine (pickP H4.out 256 (by omega)).mono ?_
    rintro e w5 ⟨a, rfl, ha0, ha1, H5⟩
    clear H4
    go_wp2_with fail
    refine (pickP H5.out 256 (by omega)).mono ?_
    rintro e w6 ⟨b, rfl, hb0, hb1, H6⟩
    clear H5
    have hab : 0 ≤ a + b := by omega
    obtain ⟨i, hi⟩ := Int.eq_ofNat_of_zero_le (show 0 ≤ (a + b) % (G.size : Int) from Int.emod_nonneg _ (by omega))
    have hiz : (i : Int) < (G.size : Int) := by rw [← hi]; exact Int.emod_lt_of_pos _ (by omega)
    have hi' : (a + b).tmod (G.size : Int) = (i : Int) := by rw [Int.tmod_eq_emod_of_nonneg hab]; exact hi
    go_upto_region 6 with fail
    have HW := Lib.hid H6.out.drew1
    have hi0 : (0 : Int) ≤ (i : Int) := by omega
    have hi1 : (i : Int) ≤ (G.size : Int) := by omega
    obtain ⟨E, hE⟩ : ∃ E, G.extract 0 i = E := ⟨_, rfl⟩
    have hEz : E.size ≤ 200 := by rw [← hE, ByteArray.size_extract]; omega
    clear hab hi hi'
    go_region_held3 (fun _ => True) (first | trivial | fail)
      (first
        | (go_at_call 52; refine (ofP [(⟨#[]⟩ : Str), (⟨#[48]⟩ : Str), (⟨#[32]⟩ : Str), (⟨#[45]⟩ : Str), (⟨#[120]⟩ : Str)] 5 5 _ _ HW.out rfl rfl (by decide) (by decide) (by omega)).mono ?_; rintro e w7 ⟨x, rfl, hx, H7⟩; have hxz : x.size ≤ 1 := str_one5 hx; have hxs : ¬ 9223372036854775807 < E.size + x.size := (by omega); clear hx)
        | (go_at_call 51; refine (pickP H7.out 2 (by omega)).mono ?_; rintro e w8 ⟨u, rfl, hu0, hu1, H8⟩; obtain ⟨j, rfl⟩ := Int.eq_ofNat_of_zero_le hu0; have hj0 : (0 : Int) ≤ (i : Int) + (j : Int) := (by omega); have hj1 : (i : Int) + (j : Int) ≤ (G.size : Int) := (by omega); have hjw : IntKind.i64.wrap ((i : Int) + (j : Int)) = (i : Int) + (j : Int) := (by rw [IntKind.wrap_i64]; omega); have hjt : ((i : Int) + (j : Int)).toNat = i + j := (by omega); obtain ⟨E2, hE2⟩ : ∃ E2, G.extract (i + j) G.size = E2 := ⟨_, rfl⟩; have hE2z : E2.size ≤ 200 := (by rw [← hE2, ByteArray.size_extract]; omega); have hxs2 : ¬ 9223372036854775807 < E.size + x.size + E2.size := (by omega))
        | fail)
    all_goals
      clear hjw hjt hE hE2
      go_wp2
      go_ret
      exact ⟨_, rfl, by simp only [ByteArray.size_append]; omega, H8.out.below⟩
end Go.Proofs.YtjibjoapbjojlaaDoor
