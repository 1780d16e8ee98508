/-
  What the reference draws for the text of letters.
  What the reference draws as the text of letters.
-/
import Derived.Test.YtjibjoapbjojlaaDoorDs1
import Derived.Test.YtjibjoapbjojlaaDoorTb2
import Derived.Deep.Cut
import Derived.Deep.RegionHeld3
namespace Go.Proofs.YtjibjoapbjojlaaDoor

section
open Go.RowKit

/-- Letters as they are drawn: numbers seven apart. -/
def Drawn (first : Int) (l : List Lt) : Prop := ∀ (i : Nat) (x : Lt), l[i]? = some x → x.1 = first + (i : Int) * 7 ∧ codeOk x.2 = true
theorem Drawn.nil (first : Int) : Drawn first [] := fun i x h => by simp at h
theorem Drawn.push {first : Int} {l : List Lt} {n : Nat} {f : Str} (h : Drawn first l) (hn : n = l.length) (hf : codeOk f = true) : Drawn first (l ++ [(first + (n : Int) * 7, f)]) := fun i x hx => by
  by_cases hi : i < l.length
  · rw [List.getElem?_append_left hi] at hx
    exact h i x hx
  · rw [List.getElem?_append_right (by omega)] at hx
    have h0 := (List.getElem?_eq_some_iff.1 hx).1
    simp at h0
    obtain rfl : i = n := by omega
    rw [show i - l.length = 0 from by omega] at hx
    simp at hx
    subst hx
    exact ⟨rfl, hf⟩
theorem Drawn.ok {first : Int} {l : List Lt} (h : Drawn first l) (h0 : 1 ≤ first) (h1 : first ≤ 100) (hn : l.length ≤ 14) : batchOk l = true := by
  refine (batchOk_iff l).2 ⟨by omega, fun i hi => ?_⟩
  have hx := List.getElem?_eq_getElem hi
  obtain ⟨e1, e2⟩ := h i _ hx
  rw [ltOkAt_eq hx, e2, Bool.and_true, Bool.and_eq_true]
  refine ⟨by simp only [decide_eq_true_eq]; omega, idNew_iff.2 fun j y hj hy => ?_⟩
  obtain ⟨e3, -⟩ := h j y hy
  omega

set_option maxHeartbeats 2000000 in
set_option maxRecDepth 100000 in
/-- l2Some. -/
theorem someLtD {w0 w : World} {ps : List Piece} {g k : Nat} (first : Int) (h : Pool w0 w (rdP w0 g k :: ps)) (hk : k ≤ 700000) (hf0 : 1 ≤ first) (hf1 : first ≤ 100) :
    Calls Tryd.prog 50 #[.pointer (some ⟨g, 0, none⟩), .int .i64 first] w fun e w' => ∃ A n c l, e = .returned (.slice A n c) ∧ n ≤ 14 ∧ Hid (batchOk l = true) ∧ Hid (Pool w0 w' (rdP w0 g (k + 113) :: ownP 55 2 ltEnc (.slice A n c) l :: ps)) := by
  have H : Hid (Pool w0 (w.alloc (Obj.cells #[] 55)) (rdP w0 g k :: ownP 55 2 ltEnc (.slice (some ⟨w.heap.size, 0, none⟩) 0 0) [] :: ps)) :=
    (h.addOwn ((Below.refl _ _).alloc (Nat.le_refl _) _) (Own.lit0 w 55 2 ltEnc)).swap
  clear h
  go_enter Tryd.func50, Tryd.ntmps50
  go_wp2_with fail
  refine (numP [6, 4, 9, 2, 14, 0, 1] 7 _ _ _ H.out (by simp) rfl (by decide) (by decide) (by omega)).mono ?_
  rintro e w1 ⟨x, rfl, hx, H⟩
  have hx' : 0 ≤ x ∧ x ≤ 14 := by simp at hx; omega
  obtain ⟨n0, rfl⟩ := Int.eq_ofNat_of_zero_le hx'.1
  have hn0 : n0 ≤ 14 := by omega
  clear hx hx'
  go_wp2_with fail
  go_loopw [5, 6] (fun s i wr => ∃ (j : Nat) (A : Option Addr) (n c : Nat) (l : List Lt) (q : Nat), j ≤ n0 ∧ i = .int .i64 j ∧ s = .slice A n c ∧ n + j ≤ n0 ∧ q + 8 * j ≤ k + 1 + 8 * n0 ∧ Hid (Drawn first l) ∧ Hid (Pool w0 wr (rdP w0 g q :: ownP 55 2 ltEnc (.slice A n c) l :: ps))) (fun _ i _ => (intOf i).toNat)
  case atStart => exact ⟨n0, _, 0, 0, [], k + 1, Nat.le_refl _, rfl, rfl, by omega, by omega, Drawn.nil first, H.out⟩
  case round =>
    clear H
    obtain ⟨j, A, n, c, l, q, hj, rfl, rfl, hn, hq, Hs, H⟩ := hrel
    by_cases hlt : 0 < j
    · go_wp2_with fail
      refine (someCodeQ H.out (by omega)).mono ?_
      rintro e w2 ⟨f, rfl, hf', H2⟩
      have hf := Lib.hid hf'
      clear hf'
      have Hln := Lib.hid (H2.out.own 1 rfl).len
      clear H
      go_wp2_with (at_builtin; refine wpList_append1L (.tmp 15) (.tmp 24) 22 55 lt_info Tryd.underlying22 rfl (by decide) rfl rfl (first + (n : Int) * 7, f) rfl Hln.out ((H2.out.alloc _).own 1 rfl) rfl ltEnc_len (ltEnc_cells (first + (n : Int) * 7, f) rfl) (ltEnc_one _) (by omega) (by omega) (Nat.zero_le _) ?_; intro g3 c3 w5 ho3 hg3 hat3)
      have H5 : Hid (Pool w0 w5 (rdP w0 g (q + 8) :: ownP 55 2 ltEnc (.slice (some ⟨g3, 0, none⟩) (n + 1) c3) (l ++ [(first + (n : Int) * 7, f)]) :: ps)) := (H2.out.alloc (Obj.cells #[.int .i64 (first + (n : Int) * 7), .string f] 55)).append 1 rfl ho3 hg3 (fun q e => by injection e with e; subst e; exact hat3)
      clear ho3 hg3 hat3 H2
      go_roundw
      case rel => exact ⟨j - 1, _, n + 1, c3, _, q + 8, by omega, by go_num, rfl, by omega, by omega, Hs.out.push Hln.out hf.out, H5.out⟩
      case measure => simp [intOf]; omega
    · obtain rfl : j = 0 := by omega
      go_wp2
      go_ret
      exact ⟨A, n, c, l, rfl, by omega, Hs.out.ok hf0 hf1 (by have := (H.out.own 1 rfl).len; omega), H.out.rdUp (by omega)⟩

set_option maxHeartbeats 1000000 in
set_option maxRecDepth 100000 in
/-- l2Open: letters that are sometimes no batch. -/
theorem openLtP {w0 w : World} {ps : List Piece} {g k : Nat} (h : Pool w0 w (rdP w0 g k :: ps)) (hk : k ≤ 600000) :
    Calls Tryd.prog 42 #[.pointer (some ⟨g, 0, none⟩)] w fun e w' => ∃ A n c l, e = .returned (.slice A n c) ∧ (n ≤ 14 ∨ n = 61) ∧ Hid (∀ x ∈ l, x.2.size ≤ 1001) ∧ Hid (Pool w0 w' (rdP w0 g (k + 117) :: ownP 55 2 ltEnc (.slice A n c) l :: ps)) := by
  have H := Lib.hid h
  clear h
  go_enter Tryd.func42, Tryd.ntmps42
  go_wp2_with fail
  refine (pickP H.out 5 (by omega)).mono ?_
  rintro e w1 ⟨v, rfl, hv0, hv1, H1⟩
  clear H
  go_wp2_with fail
  refine (someLtD (1 + v) H1.out (by omega) (by omega) (by omega)).mono ?_
  rintro e w2 ⟨A, n, c, l, rfl, hn, HO, H2⟩
  clear H1
  go_wp2_with fail
  refine (badLtP A n c l H2.out (by omega) hn (fun x hx => codeOk_size (batch_id HO.out hx).2.2)).mono ?_
  rintro e w3 ⟨A', n', c', l', rfl, hn', Hs, H3⟩
  clear H2
  go_wp2
  go_ret
  exact ⟨A', n', c', l', rfl, hn', Hs.out, H3.out.rdUp (by omega)⟩

/-- Letters that were drawn, in memory of their own. -/
def LtOut (w w' : World) (A : Option Addr) (n c : Nat) (l : List Lt) : Prop := (n ≤ 14 ∨ n = 61) ∧ (∀ x ∈ l, x.2.size ≤ 1001) ∧ Pool w w' [ownP 55 2 ltEnc (.slice A n c) l]

set_option maxHeartbeats 1000000 in
set_option maxRecDepth 100000 in
theorem drawFormatBatchC (A : Option Addr) (bs : List UInt8) (n cap : Nat) (hn : n = bs.length) (hc : n ≤ cap) (w : World) (hlen : n ≤ 1048576) (hr : Rd w 1 byEnc A bs) :
    Calls Tryd.prog 12 #[.slice A n cap] w fun e w' => ∃ A' n' c' l, e = .returned (.slice A' n' c') ∧ LtOut w w' A' n' c' l := by
  have Hn := Lib.hid hn
  have Hr := Lib.hid hr
  clear hn hr
  go_enter Tryd.func12, Tryd.ntmps12
  go_wp2_with fail
  refine (openP A bs n cap Hn.out hc _ hlen Hr.out).mono ?_
  rintro e w1 ⟨g, rfl, H1⟩
  go_wp2_with fail
  refine (openLtP H1.out (by omega)).mono ?_
  rintro e w2 ⟨A2, n2, c2, l2, rfl, hn2, Hs, H2⟩
  clear H1
  go_wp2
  go_ret
  exact ⟨A2, n2, c2, l2, rfl, hn2, Hs.out, H2.out.drop 0⟩

end

section
open Go.RowKit

theorem fmtB_bd {l : List Lt} (h : batchOk l = true) (hn : l.length ≤ 14) : 1 ≤ (fmtB l).size ∧ (fmtB l).size ≤ 200 := by
  rw [fmtB_join h]
  split
  · exact ⟨by decide, by decide⟩
  · rename_i h0
    have h1 := joinL_size_le (l.map ltPiece) 12 (fun y hy => by
      obtain ⟨x, hx, rfl⟩ := List.mem_map.1 hy
      exact (ltPiece_size h hx).2)
    rw [List.length_map] at h1
    omega

theorem str_one {x : Str} (h : x ∈ [(⟨#[]⟩ : Str), (⟨#[48]⟩ : Str), (⟨#[32]⟩ : Str), (⟨#[58]⟩ : Str), (⟨#[45]⟩ : Str), (⟨#[120]⟩ : Str)]) : x.size ≤ 1 := by
  simp only [List.mem_cons, List.not_mem_nil, or_false] at h
  rcases h with rfl | rfl | rfl | rfl | rfl | rfl <;> decide

set_option maxHeartbeats 2000000 in
set_option maxRecDepth 100000 in
theorem drawParseBatchC (A : Option Addr) (bs : List UInt8) (n cap : Nat) (hn : n = bs.length) (hc : n ≤ cap) (w : World) (hlen : n ≤ 1048576) (hr : Rd w 1 byEnc A bs) :
    Calls Tryd.prog 17 #[.slice A n cap] w fun e w' => ∃ s : Str, e = .returned (.string s) ∧ s.size ≤ 1000 ∧ Below w.heap.size w w' := by
  have Hn := Lib.hid hn
  have Hr := Lib.hid hr
  clear hn hr
  go_enter Tryd.func17, Tryd.ntmps17
  go_wp2_with fail
  refine (openP A bs n cap Hn.out hc _ hlen Hr.out).mono ?_
  rintro e w1 ⟨g, rfl, H1⟩
  go_wp2_with fail
  refine (someLtD 1 H1.out (by omega) (by omega) (by omega)).mono ?_
  rintro e w2 ⟨A2, n2, c2, l2, rfl, hn2, Hok, H2⟩
  have hln := (H2.out.own 1 rfl).len
  obtain ⟨G, hG⟩ : ∃ G, fmtB l2 = G := ⟨_, rfl⟩
  have hGz := fmtB_bd Hok.out (by omega)
  rw [hG] at hGz
  have Hln := Lib.hid hln
  have HG := Lib.hid hG
  clear H1 hG hln
  go_wp2_with fail
  refine (specFormatBatch A2 l2 n2 c2 Hln.out _ (by omega) (fun x hx => by have := codeOk_size (batch_id Hok.out hx).2.2; omega) ((H2.out.own 1 rfl).rd ltEnc_len)).mono ?_
  rw [HG.out]
  rintro e w3 ⟨rfl, hb⟩
  have H3 := Lib.hid ((H2.out.step hb).drop 1)
  clear hb H2
  go_wp2_with fail
  refine (pickP H3.out 2 (by omega)).mono ?_
  rintro e w4 ⟨v, rfl, hv0, hv1, H4⟩
  clear H3
  by_cases h0 : v = 0
  · subst h0
    go_wp2
    go_ret
    exact ⟨G, rfl, by omega, H4.out.below⟩
  · have hq : (v == 0) = false := by simpa using h0
    clear h0 hv0 hv1
    go_wp2_with fail
    refine (pickP H4.out 256 (by omega)).mono ?_
    rintro e w5 ⟨a, rfl, ha0, ha1, H5⟩
    clear H4
    go_wp2_with fail
    refine (pickP H5.out 256 (by omega)).mono ?_
    rintro e w6 ⟨b, rfl, hb0, hb1, H6⟩
    clear H5
    have hab : 0 ≤ a + b := by omega
    obtain ⟨i, hi⟩ := Int.eq_ofNat_of_zero_le (show 0 ≤ (a + b) % (G.size : Int) from Int.emod_nonneg _ (by omega))
    have hiz : (i : Int) < (G.size : Int) := by rw [← hi]; exact Int.emod_lt_of_pos _ (by omega)
    have hi' : (a + b).tmod (G.size : Int) = (i : Int) := by rw [Int.tmod_eq_emod_of_nonneg hab]; exact hi
    go_upto_region 6 with fail
    have HW := Lib.hid H6.out.drew1
    have hi0 : (0 : Int) ≤ (i : Int) := by omega
    have hi1 : (i : Int) ≤ (G.size : Int) := by omega
    obtain ⟨E, hE⟩ : ∃ E, G.extract 0 i = E := ⟨_, rfl⟩
    have hEz : E.size ≤ 200 := by rw [← hE, ByteArray.size_extract]; omega
    clear hab hi hi'
    go_region_held3 (fun _ => True) (first | trivial | fail)
      (first
        | (go_at_call 52; refine (ofP [(⟨#[]⟩ : Str), (⟨#[48]⟩ : Str), (⟨#[32]⟩ : Str), (⟨#[58]⟩ : Str), (⟨#[45]⟩ : Str), (⟨#[120]⟩ : Str)] 6 6 _ _ HW.out rfl rfl (by decide) (by decide) (by omega)).mono ?_; rintro e w7 ⟨x, rfl, hx, H7⟩; have hxz : x.size ≤ 1 := str_one hx; have hxs : ¬ 9223372036854775807 < E.size + x.size := (by omega); clear hx)
        | (go_at_call 51; refine (pickP H7.out 2 (by omega)).mono ?_; rintro e w8 ⟨u, rfl, hu0, hu1, H8⟩; obtain ⟨j, rfl⟩ := Int.eq_ofNat_of_zero_le hu0; have hj0 : (0 : Int) ≤ (i : Int) + (j : Int) := (by omega); have hj1 : (i : Int) + (j : Int) ≤ (G.size : Int) := (by omega); have hjw : IntKind.i64.wrap ((i : Int) + (j : Int)) = (i : Int) + (j : Int) := (by rw [IntKind.wrap_i64]; omega); have hjt : ((i : Int) + (j : Int)).toNat = i + j := (by omega); obtain ⟨E2, hE2⟩ : ∃ E2, G.extract (i + j) G.size = E2 := ⟨_, rfl⟩; have hE2z : E2.size ≤ 200 := (by rw [← hE2, ByteArray.size_extract]; omega); have hxs2 : ¬ 9223372036854775807 < E.size + x.size + E2.size := (by omega))
        | fail)
    all_goals
      clear hjw hjt hE hE2
      go_wp2
      go_ret
      exact ⟨_, rfl, by simp only [ByteArray.size_append]; omega, H8.out.below⟩

end
end Go.Proofs.YtjibjoapbjojlaaDoor
