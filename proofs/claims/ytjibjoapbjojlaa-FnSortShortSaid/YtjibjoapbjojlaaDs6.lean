/-
  What the reference draws as letters.
-/
import Derived.Test.YtjibjoapbjojlaaDs1
namespace Go.Proofs.Ytjibjoapbjojlaa
open Go.RowKit

/-- Letters as they are drawn: numbers seven apart. -/
def Drawn (first : Int) (l : List Lt) : Prop := ∀ (i : Nat) (x : Lt), l[i]? = some x → x.1 = first + (i : Int) * 7 ∧ codeOk x.2 = true
theorem Drawn.nil (first : Int) : Drawn first [] := fun i x h => by simp at h
theorem Drawn.push {first : Int} {l : List Lt} {n : Nat} {f : Str} (h : Drawn first l) (hn : n = l.length) (hf : codeOk f = true) : Drawn first (l ++ [(first + (n : Int) * 7, f)]) := fun i x hx => by
  by_cases hi : i < l.length
  · rw [List.getElem?_append_left hi] at hx
    exact h i x hx
  · rw [List.getElem?_append_right (by omega)] at hx
    have h0 := (List.getElem?_eq_some_iff.1 hx).1
    simp at h0
    obtain rfl : i = n := by omega
    rw [show i - l.length = 0 from by omega] at hx
    simp at hx
    subst hx
    exact ⟨rfl, hf⟩
theorem Drawn.ok {first : Int} {l : List Lt} (h : Drawn first l) (h0 : 1 ≤ first) (h1 : first ≤ 100) (hn : l.length ≤ 14) : batchOk l = true := by
  refine (batchOk_iff l).2 ⟨by omega, fun i hi => ?_⟩
  have hx := List.getElem?_eq_getElem hi
  obtain ⟨e1, e2⟩ := h i _ hx
  rw [ltOkAt_eq hx, e2, Bool.and_true, Bool.and_eq_true]
  refine ⟨by simp only [decide_eq_true_eq]; omega, idNew_iff.2 fun j y hj hy => ?_⟩
  obtain ⟨e3, -⟩ := h j y hy
  omega

set_option maxHeartbeats 2000000 in
set_option maxRecDepth 100000 in
/-- l2Some. -/
theorem someLtD {w0 w : World} {ps : List Piece} {g k : Nat} (first : Int) (h : Pool w0 w (rdP w0 g k :: ps)) (hk : k ≤ 700000) (hf0 : 1 ≤ first) (hf1 : first ≤ 100) :
    Calls Try.prog 22 #[.pointer (some ⟨g, 0, none⟩), .int .i64 first] w fun e w' => ∃ A n c l, e = .returned (.slice A n c) ∧ n ≤ 14 ∧ Hid (batchOk l = true) ∧ Hid (Pool w0 w' (rdP w0 g (k + 113) :: ownP 39 2 ltEnc (.slice A n c) l :: ps)) := by
  have H : Hid (Pool w0 (w.alloc (Obj.cells #[] 39)) (rdP w0 g k :: ownP 39 2 ltEnc (.slice (some ⟨w.heap.size, 0, none⟩) 0 0) [] :: ps)) :=
    (h.addOwn ((Below.refl _ _).alloc (Nat.le_refl _) _) (Own.lit0 w 39 2 ltEnc)).swap
  clear h
  go_enter Try.func22, Try.ntmps22
  go_wp2_with fail
  refine (numP [6, 4, 9, 2, 14, 0, 1] 7 _ _ _ H.out (by simp) rfl (by decide) (by decide) (by omega)).mono ?_
  rintro e w1 ⟨x, rfl, hx, H⟩
  have hx' : 0 ≤ x ∧ x ≤ 14 := by simp at hx; omega
  obtain ⟨n0, rfl⟩ := Int.eq_ofNat_of_zero_le hx'.1
  have hn0 : n0 ≤ 14 := by omega
  clear hx hx'
  go_wp2_with fail
  go_loopw [5, 6] (fun s i wr => ∃ (j : Nat) (A : Option Addr) (n c : Nat) (l : List Lt) (q : Nat), j ≤ n0 ∧ i = .int .i64 j ∧ s = .slice A n c ∧ n + j ≤ n0 ∧ q + 8 * j ≤ k + 1 + 8 * n0 ∧ Hid (Drawn first l) ∧ Hid (Pool w0 wr (rdP w0 g q :: ownP 39 2 ltEnc (.slice A n c) l :: ps))) (fun _ i _ => (intOf i).toNat)
  case atStart => exact ⟨n0, _, 0, 0, [], k + 1, Nat.le_refl _, rfl, rfl, by omega, by omega, Drawn.nil first, H.out⟩
  case round =>
    clear H
    obtain ⟨j, A, n, c, l, q, hj, rfl, rfl, hn, hq, Hs, H⟩ := hrel
    by_cases hlt : 0 < j
    · go_wp2_with fail
      refine (someCodeQ H.out (by omega)).mono ?_
      rintro e w2 ⟨f, rfl, hf', H2⟩
      have hf := Lib.hid hf'
      clear hf'
      have Hln := Lib.hid (H2.out.own 1 rfl).len
      clear H
      go_wp2_with (at_builtin; refine wpList_append1L (.tmp 15) (.tmp 24) 23 39 lt_info Try.underlying23 rfl (by decide) rfl rfl (first + (n : Int) * 7, f) rfl Hln.out ((H2.out.alloc _).own 1 rfl) rfl ltEnc_len (ltEnc_cells (first + (n : Int) * 7, f) rfl) (ltEnc_one _) (by omega) (by omega) (Nat.zero_le _) ?_; intro g3 c3 w5 ho3 hg3 hat3)
      have H5 : Hid (Pool w0 w5 (rdP w0 g (q + 8) :: ownP 39 2 ltEnc (.slice (some ⟨g3, 0, none⟩) (n + 1) c3) (l ++ [(first + (n : Int) * 7, f)]) :: ps)) := (H2.out.alloc (Obj.cells #[.int .i64 (first + (n : Int) * 7), .string f] 39)).append 1 rfl ho3 hg3 (fun q e => by injection e with e; subst e; exact hat3)
      clear ho3 hg3 hat3 H2
      go_roundw
      case rel => exact ⟨j - 1, _, n + 1, c3, _, q + 8, by omega, by go_num, rfl, by omega, by omega, Hs.out.push Hln.out hf.out, H5.out⟩
      case measure => simp [intOf]; omega
    · obtain rfl : j = 0 := by omega
      go_wp2
      go_ret
      exact ⟨A, n, c, l, rfl, by omega, Hs.out.ok hf0 hf1 (by have := (H.out.own 1 rfl).len; omega), H.out.rdUp (by omega)⟩

set_option maxHeartbeats 1000000 in
set_option maxRecDepth 100000 in
/-- l2Open: letters that are sometimes no batch. -/
theorem openLtP {w0 w : World} {ps : List Piece} {g k : Nat} (h : Pool w0 w (rdP w0 g k :: ps)) (hk : k ≤ 600000) :
    Calls Try.prog 12 #[.pointer (some ⟨g, 0, none⟩)] w fun e w' => ∃ A n c l, e = .returned (.slice A n c) ∧ (n ≤ 14 ∨ n = 61) ∧ Hid (∀ x ∈ l, x.2.size ≤ 1001) ∧ Hid (Pool w0 w' (rdP w0 g (k + 117) :: ownP 39 2 ltEnc (.slice A n c) l :: ps)) := by
  have H := Lib.hid h
  clear h
  go_enter Try.func12, Try.ntmps12
  go_wp2_with fail
  refine (pickP H.out 5 (by omega)).mono ?_
  rintro e w1 ⟨v, rfl, hv0, hv1, H1⟩
  clear H
  go_wp2_with fail
  refine (someLtD (1 + v) H1.out (by omega) (by omega) (by omega)).mono ?_
  rintro e w2 ⟨A, n, c, l, rfl, hn, HO, H2⟩
  clear H1
  go_wp2_with fail
  refine (badLtP A n c l H2.out (by omega) hn (fun x hx => codeOk_size (batch_id HO.out hx).2.2)).mono ?_
  rintro e w3 ⟨A', n', c', l', rfl, hn', Hs, H3⟩
  clear H2
  go_wp2
  go_ret
  exact ⟨A', n', c', l', rfl, hn', Hs.out, H3.out.rdUp (by omega)⟩

/-- Letters that were drawn, in memory of their own. -/
def LtOut (w w' : World) (A : Option Addr) (n c : Nat) (l : List Lt) : Prop := (n ≤ 14 ∨ n = 61) ∧ (∀ x ∈ l, x.2.size ≤ 1001) ∧ Pool w w' [ownP 39 2 ltEnc (.slice A n c) l]

set_option maxHeartbeats 1000000 in
set_option maxRecDepth 100000 in
theorem drawSortShortC (A : Option Addr) (bs : List UInt8) (n cap : Nat) (hn : n = bs.length) (hc : n ≤ cap) (w : World) (hlen : n ≤ 1048576) (hr : Rd w 1 byEnc A bs) :
    Calls Try.prog 4 #[.slice A n cap] w fun e w' => ∃ A' n' c' l, e = .returned (.slice A' n' c') ∧ LtOut w w' A' n' c' l := by
  have Hn := Lib.hid hn
  have Hr := Lib.hid hr
  clear hn hr
  go_enter Try.func4, Try.ntmps4
  go_wp2_with fail
  refine (openP A bs n cap Hn.out hc _ hlen Hr.out).mono ?_
  rintro e w1 ⟨g, rfl, H1⟩
  go_wp2_with fail
  refine (openLtP H1.out (by omega)).mono ?_
  rintro e w2 ⟨A2, n2, c2, l2, rfl, hn2, Hs, H2⟩
  clear H1
  go_wp2
  go_ret
  exact ⟨A2, n2, c2, l2, rfl, hn2, Hs.out, H2.out.drop 0⟩
end Go.Proofs.Ytjibjoapbjojlaa
