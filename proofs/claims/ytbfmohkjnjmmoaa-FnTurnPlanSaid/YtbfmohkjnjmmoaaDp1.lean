/-
  What the reference draws for plans: codes in order, a plan.
-/
import Derived.Test.YtbfmohkjnjmmoaaDp0
import Derived.Test.YtbfmohkjnjmmoaaPlA
import Derived.Test.YtbfmohkjnjmmoaaCap
import Derived.Test.YtbfmohkjnjmmoaaPlJb
namespace Go.Proofs.Ytbfmohkjnjmmoaa
open Go.RowKit

theorem Pool.swap {w0 w : World} {a b : Piece} {ps : List Piece} (h : Pool w0 w (a :: b :: ps)) : Pool w0 w (b :: a :: ps) := h.perm (List.Perm.swap _ _ _)
theorem strEnc_cells {w : World} {t : TypeId} (x : Str) {g : Nat} (hg : g = w.heap.size) : ∀ (j : Nat) (u : Value), (strEnc x)[j]? = some u → (w.alloc (.cells #[.string x] t)).cell? (Addr.add ⟨g, 0, none⟩ j) = some u := by
  subst hg
  intro j u hu
  have hj : j < 1 := (List.getElem?_eq_some_iff.1 hu).1
  obtain rfl : j = 0 := by omega
  simp [strEnc] at hu
  subst hu
  rw [show (Addr.add ⟨w.heap.size, 0, none⟩ 0) = (⟨w.heap.size, 0, none⟩ : Addr) from rfl, World.cell?_alloc_at _ _ _ _ rfl]
  rfl

set_option maxHeartbeats 2000000 in
set_option maxRecDepth 100000 in
/-- l3Order: at least one code. -/
theorem orderP {w0 w : World} {ps : List Piece} {g k : Nat} (h : Pool w0 w (rdP w0 g k :: ps)) (hk : k ≤ 800000) :
    Calls Try.prog 112 #[.pointer (some ⟨g, 0, none⟩), .int .i64 12] w fun e w' => ∃ A n c l, e = .returned (.slice A n c) ∧ 1 ≤ n ∧ n ≤ 12 ∧ Hid (∀ x ∈ l, x.size = 7) ∧ Hid (Pool w0 w' (rdP w0 g (k + 97) :: ownP 9 1 strEnc (.slice A n c) l :: ps)) := by
  have H : Hid (Pool w0 (w.alloc (Obj.cells #[] 9)) (rdP w0 g k :: ownP 9 1 strEnc (.slice (some ⟨w.heap.size, 0, none⟩) 0 0) [] :: ps)) :=
    (h.addOwn ((Below.refl _ _).alloc (Nat.le_refl _) _) (Own.lit0 w 9 1 strEnc)).swap
  clear h
  go_enter Try.func112, Try.ntmps112
  go_wp2_with fail
  refine (pickP H.out 12 (by omega)).mono ?_
  rintro e w1 ⟨v, rfl, hv0, hv1, H⟩
  obtain ⟨n0, rfl⟩ := Int.eq_ofNat_of_zero_le hv0
  have hn0 : n0 ≤ 11 := by omega
  clear hv0 hv1
  go_wp2_with fail
  go_loopw [5, 6] (fun s i wr => ∃ (j : Nat) (A : Option Addr) (n c : Nat) (l : List Str) (q : Nat), j ≤ n0 + 1 ∧ i = .int .i64 j ∧ s = .slice A n c ∧ n + j ≤ n0 + 1 ∧ (j = n0 + 1 ∨ 1 ≤ n) ∧ q + 8 * j ≤ k + 1 + 8 * (n0 + 1) ∧ Hid (∀ x ∈ l, x.size = 7) ∧ Hid (Pool w0 wr (rdP w0 g q :: ownP 9 1 strEnc (.slice A n c) l :: ps))) (fun _ i _ => (intOf i).toNat)
  case atStart => exact ⟨n0 + 1, _, 0, 0, [], k + 1, Nat.le_refl _, by go_num, rfl, by omega, .inl rfl, by omega, (fun x hx => by cases hx), H.out⟩
  case round =>
    clear H
    obtain ⟨j, A, n, c, l, q, hj, rfl, rfl, hn, hor, hq, Hs, H⟩ := hrel
    by_cases hlt : 0 < j
    · go_wp2_with fail
      refine (someCodeP H.out (by omega)).mono ?_
      rintro e w2 ⟨f, rfl, hf, H2⟩
      have hln := (H2.out.own 1 rfl).len
      obtain ⟨v, hv⟩ : ∃ v, idxInt (strIdx l f) = v := ⟨_, rfl⟩
      have Hor := Lib.hid hor
      have Hln := Lib.hid hln
      have Hv := Lib.hid hv
      clear H hor hln hv
      by_cases hv0 : v < 0
      · go_wp2_with (first
          | (go_at_call 72; refine (specRank A l n c Hln.out f _ (by omega) ((H2.out.own 1 rfl).rd strEnc_len)).mono ?_; rw [Hv.out]; rintro e w3 ⟨rfl, rfl⟩)
          | (at_builtin; refine wpList_append1L (.tmp 23) (.tmp 25) 23 9 str_info Try.underlying23 rfl (by decide) rfl rfl f rfl Hln.out ((H2.out.alloc _).own 1 rfl) rfl strEnc_len (strEnc_cells f rfl) (strEnc_one _) (by omega) (by omega) (Nat.zero_le _) ?_; intro g3 c3 w5 ho3 hg3 hat3))
        have H5 : Hid (Pool w0 w5 (rdP w0 g (q + 8) :: ownP 9 1 strEnc (.slice (some ⟨g3, 0, none⟩) (n + 1) c3) (l ++ [f]) :: ps)) := (H2.out.alloc (Obj.cells #[.string f] 9)).append 1 rfl ho3 hg3 (fun q e => by injection e with e; subst e; exact hat3)
        clear ho3 hg3 hat3 H2
        go_roundw
        case rel => exact ⟨j - 1, _, n + 1, c3, l ++ [f], q + 8, by omega, by go_num, rfl, by omega, .inr (by omega), by omega, (fun x hx => by
          rcases List.mem_append.1 hx with hx | hx
          · exact Hs.out x hx
          · simp at hx; subst hx; exact hf), H5.out⟩
        case measure => simp [intOf]; omega
      · have hn1 : 1 ≤ n := by
          rcases Hor.out with h | h
          · exfalso
            have h0 : l = [] := List.eq_nil_of_length_eq_zero (by have := Hln.out; omega)
            have h1 := Hv.out
            rw [h0] at h1
            have h1 : (-1 : Int) = v := h1
            omega
          · exact h
        go_wp2_with (go_at_call 72; refine (specRank A l n c Hln.out f _ (by omega) ((H2.out.own 1 rfl).rd strEnc_len)).mono ?_; rw [Hv.out]; rintro e w3 ⟨rfl, rfl⟩)
        go_roundw
        case rel => exact ⟨j - 1, A, n, c, l, q + 8, by omega, by go_num, rfl, by omega, .inr hn1, by omega, Hs.out, H2.out⟩
        case measure => simp [intOf]; omega
    · obtain rfl : j = 0 := by omega
      go_wp2
      go_ret
      exact ⟨A, n, c, l, rfl, by omega, by omega, Hs.out, H.out.rdUp (by omega)⟩

theorem firstFrom_le (f : Int → Bool) : ∀ (n : Nat) (i : Int), firstFrom f i n = -1 ∨ (i ≤ firstFrom f i n ∧ firstFrom f i n < i + n)
  | 0, i => .inl rfl
  | n + 1, i => by
    unfold firstFrom
    split
    · right; omega
    · rcases firstFrom_le f n (i + 1) with h | h
      · exact .inl h
      · right; omega
theorem lpOf_le (c b : Int) : lpOf c b = -1 ∨ (1 ≤ lpOf c b ∧ lpOf c b ≤ 4) := by
  unfold lpOf
  split
  · rcases firstFrom_le (fun p => decide (c ≤ pw b p.toNat)) 4 1 with h | h
    · exact .inl h
    · right; omega
  · exact .inl rfl

set_option maxHeartbeats 2000000 in
set_option maxRecDepth 100000 in
/-- l3Some: a plan in range. -/
theorem somePlanP {w0 w : World} {ps : List Piece} {g k : Nat} (h : Pool w0 w (rdP w0 g k :: ps)) (hk : k ≤ 700000) :
    Calls Try.prog 65 #[.pointer (some ⟨g, 0, none⟩)] w fun e w' => ∃ b p A n c l, e = .returned (.agg #[.int .i64 b, .int .i64 p, .slice A n c]) ∧ 2 ≤ b ∧ b ≤ 10 ∧ 1 ≤ p ∧ p ≤ 4 ∧ 1 ≤ n ∧ n ≤ 12 ∧ Hid (∀ x ∈ l, x.size = 7) ∧ Hid (Pool w0 w' (rdP w0 g (k + 98) :: ownP 9 1 strEnc (.slice A n c) l :: ps)) := by
  have H : Hid (Pool w0 (w.alloc (Obj.cells #[.int .i64 0, .int .i64 0, .slice none 0 0] 25)) (rdP w0 g k :: boxP w.heap.size (.int .i64 0) (.int .i64 0) (.slice none 0 0) :: ps)) := (h.addBox rfl _ _ _ _).swap
  clear h
  go_enter Try.func65, Try.ntmps65
  go_wp2_with fail
  refine (numP [4, 3, 5, 2, 10] 5 _ _ _ H.out (by simp) rfl (by decide) (by decide) (by omega)).mono ?_
  rintro e w1 ⟨b, rfl, hb, H⟩
  have hb' : 2 ≤ b ∧ b ≤ 10 := by simp at hb; omega
  clear hb
  go_wp2_with fail
  refine (orderP H.out (by omega)).mono ?_
  rintro e w2 ⟨A, n, c, l, rfl, hn1, hn2, Hs, H⟩
  obtain ⟨v, hv⟩ : ∃ v, lpOf (n : Int) b = v := ⟨_, rfl⟩
  have hvr : v = -1 ∨ (1 ≤ v ∧ v ≤ 4) := by rw [← hv]; exact lpOf_le _ _
  have Hv := Lib.hid hv
  clear hv
  obtain ⟨-, c0, c1, c2, cz⟩ := H.out.box 2 rfl
  obtain ⟨s0, s1, s2⟩ := set3 c0 c1 c2 (.int .i64 b) (.int .i64 (max v 1)) (.slice A n c)
  go_wp2_with (go_at_call 113; refine (specLeastPasses (n : Int) b _).mono ?_; rw [Hv.out]; rintro e w3 ⟨rfl, rfl⟩)
  refine bodyPost_ret (v := .agg #[.int .i64 b, .int .i64 (max v 1), .slice A n c]) (by simp [results, Try.results65, go_sem, s0, s1, s2]) rfl ?_
  exact ⟨b, max v 1, A, n, c, l, rfl, hb'.1, hb'.2, by omega, by omega, hn1, hn2, Hs.out, (H.out.setBox 2 rfl _ _ _).drop 2⟩
end Go.Proofs.Ytbfmohkjnjmmoaa
