/-
  What the reference draws for batches on plans: letters, most of them for a code of the plan, sometimes not valid.
  The draws of the laws on batches and plans.
-/
import Derived.Test.YtjibjoapbjojlaaDq1
namespace Go.Proofs.Ytjibjoapbjojlaa

section
open Go.RowKit

theorem flat_code : ∀ (l : List Lt) (i : Nat) (x : Lt) (s : Str), l[i]? = some x → (l.flatMap ltEnc).set (i * 2 + 1) (.string s) = (l.set i (x.1, s)).flatMap ltEnc
  | [], _, _, _, h => by simp at h
  | y :: l, 0, x, s, h => by
    simp at h; subst h
    simp [ltEnc]
  | y :: l, i + 1, x, s, h => by
    simp only [List.getElem?_cons_succ] at h
    rw [show (i + 1) * 2 + 1 = (i * 2 + 1) + 2 from by omega, List.flatMap_cons, List.set_cons_succ, List.flatMap_cons, ← flat_code l i x s h]
    rfl
theorem flat_id : ∀ (l : List Lt) (i : Nat) (x : Lt) (v : Int), l[i]? = some x → (l.flatMap ltEnc).set (i * 2) (.int .i64 v) = (l.set i (v, x.2)).flatMap ltEnc
  | [], _, _, _, h => by simp at h
  | y :: l, 0, x, s, h => by
    simp at h; subst h
    simp [ltEnc]
  | y :: l, i + 1, x, s, h => by
    simp only [List.getElem?_cons_succ] at h
    rw [show (i + 1) * 2 = (i * 2) + 2 from by omega, List.flatMap_cons, List.set_cons_succ, List.flatMap_cons, ← flat_id l i x s h]
    rfl
theorem own_rawL {w : World} {base n c : Nat} {A : Option Addr} {l : List Lt} (h : Own w base 39 2 ltEnc (.slice A n c) l) : w.ownsRow base 39 2 (.slice A n c) n (l.flatMap ltEnc) := by
  have hn := h.len
  unfold Own at h
  rw [← hn] at h
  exact h
theorem own_code {w : World} {base g n c i : Nat} {x : Lt} {l : List Lt} (h : Own w base 39 2 ltEnc (.slice (some ⟨g, 0, none⟩) n c) l) (hx : l[i]? = some x) (s : Str) : Own (w.setCell ⟨g, i * 2 + 1, none⟩ (.string s)) base 39 2 ltEnc (.slice (some ⟨g, 0, none⟩) n c) (l.set i (x.1, s)) := by
  have h2 := (World.ownsRow.stored (own_rawL h) (i * 2 + 1) (.string s)).1
  rw [flat_code l i x s hx] at h2
  unfold Own
  rw [List.length_set, ← h.len]
  exact h2
theorem own_id {w : World} {base g n c i : Nat} {x : Lt} {l : List Lt} (h : Own w base 39 2 ltEnc (.slice (some ⟨g, 0, none⟩) n c) l) (hx : l[i]? = some x) (v : Int) : Own (w.setCell ⟨g, i * 2, none⟩ (.int .i64 v)) base 39 2 ltEnc (.slice (some ⟨g, 0, none⟩) n c) (l.set i (v, x.2)) := by
  have h2 := (World.ownsRow.stored (own_rawL h) (i * 2) (.int .i64 v)).1
  rw [flat_id l i x v hx] at h2
  unfold Own
  rw [List.length_set, ← h.len]
  exact h2
def slLen : Value → Nat
  | .slice _ n _ => n
  | _ => 0

set_option maxHeartbeats 2000000 in
set_option maxRecDepth 100000 in
/-- l2Some. -/
theorem someLtP {w0 w : World} {ps : List Piece} {g k : Nat} (first : Int) (h : Pool w0 w (rdP w0 g k :: ps)) (hk : k ≤ 700000) (hf0 : 0 ≤ first) (hf1 : first ≤ 100) :
    Calls Try.prog 22 #[.pointer (some ⟨g, 0, none⟩), .int .i64 first] w fun e w' => ∃ A n c l, e = .returned (.slice A n c) ∧ n ≤ 14 ∧ Hid (∀ x ∈ l, x.2.size = 7) ∧ Hid (Pool w0 w' (rdP w0 g (k + 113) :: ownP 39 2 ltEnc (.slice A n c) l :: ps)) := by
  have H : Hid (Pool w0 (w.alloc (Obj.cells #[] 39)) (rdP w0 g k :: ownP 39 2 ltEnc (.slice (some ⟨w.heap.size, 0, none⟩) 0 0) [] :: ps)) :=
    (h.addOwn ((Below.refl _ _).alloc (Nat.le_refl _) _) (Own.lit0 w 39 2 ltEnc)).swap
  clear h
  go_enter Try.func22, Try.ntmps22
  go_wp2_with fail
  refine (numP [6, 4, 9, 2, 14, 0, 1] 7 _ _ _ H.out (by simp) rfl (by decide) (by decide) (by omega)).mono ?_
  rintro e w1 ⟨x, rfl, hx, H⟩
  have hx' : 0 ≤ x ∧ x ≤ 14 := by simp at hx; omega
  obtain ⟨n0, rfl⟩ := Int.eq_ofNat_of_zero_le hx'.1
  have hn0 : n0 ≤ 14 := by omega
  clear hx hx'
  go_wp2_with fail
  go_loopw [5, 6] (fun s i wr => ∃ (j : Nat) (A : Option Addr) (n c : Nat) (l : List Lt) (q : Nat), j ≤ n0 ∧ i = .int .i64 j ∧ s = .slice A n c ∧ n + j ≤ n0 ∧ q + 8 * j ≤ k + 1 + 8 * n0 ∧ Hid (∀ x ∈ l, x.2.size = 7) ∧ Hid (Pool w0 wr (rdP w0 g q :: ownP 39 2 ltEnc (.slice A n c) l :: ps))) (fun _ i _ => (intOf i).toNat)
  case atStart => exact ⟨n0, _, 0, 0, [], k + 1, Nat.le_refl _, rfl, rfl, by omega, by omega, (fun x hx => by cases hx), H.out⟩
  case round =>
    clear H
    obtain ⟨j, A, n, c, l, q, hj, rfl, rfl, hn, hq, Hs, H⟩ := hrel
    by_cases hlt : 0 < j
    · go_wp2_with fail
      refine (someCodeP H.out (by omega)).mono ?_
      rintro e w2 ⟨f, rfl, hf, H2⟩
      have Hln := Lib.hid (H2.out.own 1 rfl).len
      clear H
      go_wp2_with (at_builtin; refine wpList_append1L (.tmp 15) (.tmp 24) 23 39 lt_info Try.underlying23 rfl (by decide) rfl rfl (first + (n : Int) * 7, f) rfl Hln.out ((H2.out.alloc _).own 1 rfl) rfl ltEnc_len (ltEnc_cells (first + (n : Int) * 7, f) rfl) (ltEnc_one _) (by omega) (by omega) (Nat.zero_le _) ?_; intro g3 c3 w5 ho3 hg3 hat3)
      have H5 : Hid (Pool w0 w5 (rdP w0 g (q + 8) :: ownP 39 2 ltEnc (.slice (some ⟨g3, 0, none⟩) (n + 1) c3) (l ++ [(first + (n : Int) * 7, f)]) :: ps)) := (H2.out.alloc (Obj.cells #[.int .i64 (first + (n : Int) * 7), .string f] 39)).append 1 rfl ho3 hg3 (fun q e => by injection e with e; subst e; exact hat3)
      clear ho3 hg3 hat3 H2
      go_roundw
      case rel => exact ⟨j - 1, _, n + 1, c3, _, q + 8, by omega, by go_num, rfl, by omega, by omega, (fun x hx => by
        rcases List.mem_append.1 hx with hx | hx
        · exact Hs.out x hx
        · simp at hx; subst hx; exact hf), H5.out⟩
      case measure => simp [intOf]; omega
    · obtain rfl : j = 0 := by omega
      go_wp2
      go_ret
      exact ⟨A, n, c, l, rfl, by omega, Hs.out, H.out.rdUp (by omega)⟩

set_option maxHeartbeats 4000000 in
set_option maxRecDepth 100000 in
/-- l2Bad. -/
theorem badLtP {w0 w : World} {ps : List Piece} {g k0 : Nat} (A : Option Addr) (n c : Nat) (l : List Lt) (h : Pool w0 w (rdP w0 g k0 :: ownP 39 2 ltEnc (.slice A n c) l :: ps)) (hk0 : k0 ≤ 800000) (hn : n ≤ 14) (hs : ∀ x ∈ l, x.2.size = 7) :
    Calls Try.prog 21 #[.pointer (some ⟨g, 0, none⟩), .slice A n c] w fun e w' => ∃ A' n' c' l', e = .returned (.slice A' n' c') ∧ (n' ≤ 14 ∨ n' = 61) ∧ Hid (∀ x ∈ l', x.2.size ≤ 1001) ∧ Hid (Pool w0 w' (rdP w0 g (k0 + 3) :: ownP 39 2 ltEnc (.slice A' n' c') l' :: ps)) := by
  have H := Lib.hid h
  have Hs := Lib.hid hs
  have Hs' : Hid (∀ x ∈ l, x.2.size ≤ 1001) := fun x hx => by have := hs x hx; omega
  clear h hs
  by_cases h0 : n = 0
  · go_enter Try.func21, Try.ntmps21
    go_wp2
    go_ret
    exact ⟨A, n, c, l, by first | rfl | (rw [h0]), by omega, Hs'.out, H.out.rdUp (by omega)⟩
  · have hq : ((n : Int) == 0) = false := by simp; omega
    go_enter Try.func21, Try.ntmps21
    go_wp2_with fail
    refine (pickP H.out (n : Int) (by omega)).mono ?_
    rintro e w1 ⟨k, rfl, hk0', hk1, H⟩
    obtain ⟨k, rfl⟩ := Int.eq_ofNat_of_zero_le hk0'
    have hkn : k < n := by omega
    clear hk0' hk1
    go_wp2_with fail
    refine (pickP H.out 40 (by omega)).mono ?_
    rintro e w2 ⟨v, rfl, hv0, hv1, H⟩
    obtain ⟨x, hx⟩ : ∃ x, l[k]? = some x := ⟨_, List.getElem?_eq_getElem (by have := (H.out.own 1 rfl).len; omega)⟩
    have hxs := Hs.out x (List.mem_of_getElem? hx)
    obtain ⟨go, rfl, hgo1, hgo2⟩ := (H.out.own 1 rfl).head (by omega)
    by_cases e0 : v = 0
    · subst e0
      obtain ⟨c1, f1⟩ := (H.out.own 1 rfl).cell2 ltEnc_len (H.out.own 1 rfl).len hx (j := 1) (by omega)
      rw [show (ltEnc x)[1]? = some (.string x.2) from rfl] at c1
      have hs2 : (x.2 ++ (⟨#[49]⟩ : Str)).size = 8 := by rw [ByteArray.size_append, hxs]; rfl
      have Hx := Lib.hid hx
      clear hx
      go_wp2_with fail
      refine (badP _ H.out (by omega) (by rw [hs2]; omega) (by rw [hs2]; omega)).mono ?_
      rintro e w3 ⟨s, rfl, hsz, H⟩
      clear c1 f1
      obtain ⟨c2, f2⟩ := (H.out.own 1 rfl).cell2 ltEnc_len (H.out.own 1 rfl).len Hx.out (j := 1) (by omega)
      rw [show (ltEnc x)[1]? = some (.string x.2) from rfl] at c2
      have H5 : Hid (Pool w0 (w3.setCell ⟨go, k * 2 + 1, none⟩ (.string s)) (rdP w0 g (k0 + 1 + 1 + 1) :: ownP 39 2 ltEnc (.slice (some ⟨go, 0, none⟩) n c) (l.set k (x.1, s)) :: ps)) := by
        have := H.out.turnOwn 1 rfl (own_code (H.out.own 1 rfl) Hx.out s) (grown_setCell (World.grownBy.refl _ _) (.inl rfl) _)
        exact this
      go_wp2
      go_ret
      exact ⟨_, n, c, _, rfl, by omega, (fun y hy => by
        rcases List.mem_or_eq_of_mem_set hy with hy | rfl
        · exact Hs'.out y hy
        · exact hsz), H5.out⟩
    · have q0 : (v == 0) = false := by simpa using e0
      by_cases e1 : v = 1
      · subst e1
        obtain ⟨y, hy⟩ : ∃ y, l[0]? = some y := ⟨_, List.getElem?_eq_getElem (by have := (H.out.own 1 rfl).len; omega)⟩
        obtain ⟨c1, f1⟩ := (H.out.own 1 rfl).cell2 ltEnc_len (H.out.own 1 rfl).len hy (j := 0) (by omega)
        rw [show (ltEnc y)[0]? = some (.int .i64 y.1) from rfl] at c1
        simp only [Nat.zero_mul, Nat.zero_add] at c1 f1
        have Hx := Lib.hid hx
        clear hx hy
        go_wp2_with fail
        refine (numP [0, 10000, 9999, -1, y.1] 5 _ _ _ H.out rfl rfl (by decide) (by decide) (by omega)).mono ?_
        rintro e w3 ⟨z, rfl, -, H⟩
        clear c1 f1
        obtain ⟨c2, f2⟩ := (H.out.own 1 rfl).cell2 ltEnc_len (H.out.own 1 rfl).len Hx.out (j := 0) (by omega)
        rw [show (ltEnc x)[0]? = some (.int .i64 x.1) from rfl] at c2
        simp only [Nat.add_zero] at c2 f2
        have H5 : Hid (Pool w0 (w3.setCell ⟨go, k * 2, none⟩ (.int .i64 z)) (rdP w0 g (k0 + 1 + 1 + 1) :: ownP 39 2 ltEnc (.slice (some ⟨go, 0, none⟩) n c) (l.set k (z, x.2)) :: ps)) := by
          have := H.out.turnOwn 1 rfl (own_id (H.out.own 1 rfl) Hx.out z) (grown_setCell (World.grownBy.refl _ _) (.inl rfl) _)
          exact this
        go_wp2
        go_ret
        exact ⟨_, n, c, _, rfl, by omega, (fun y hy => by
          rcases List.mem_or_eq_of_mem_set hy with hy | rfl
          · exact Hs'.out y hy
          · exact Hs'.out x (List.mem_of_getElem? Hx.out)), H5.out⟩
      · have q1 : (v == 1) = false := by simpa using e1
        by_cases e2 : v = 2
        · subst e2
          clear hx
          go_wp2
          go_loopw [1] (fun s wr => ∃ (A : Option Addr) (n c : Nat) (l : List Lt), s = .slice A n c ∧ n ≤ 61 ∧ Hid (∀ x ∈ l, x.2.size ≤ 1001) ∧ Hid (Pool w0 wr (rdP w0 g (k0 + 1 + 1) :: ownP 39 2 ltEnc (.slice A n c) l :: ps))) (fun s _ => 61 - slLen s)
          case atStart => exact ⟨_, n, c, _, rfl, by omega, Hs'.out, H.out⟩
          case round =>
            clear H Hs'
            obtain ⟨A, n, c, l, rfl, hn31, Hs', H⟩ := hrel
            by_cases hlt : n < 61
            · go_wp2_with (at_builtin; refine wpList_append1L (.tmp 48) (.tmp 53) 23 39 lt_info Try.underlying23 rfl (by decide) rfl rfl (1000 + (n : Int), (⟨#[49, 50, 48, 48, 49, 48, 49]⟩ : Str)) rfl (H.out.own 1 rfl).len ((H.out.alloc _).own 1 rfl) rfl ltEnc_len (ltEnc_cells (1000 + (n : Int), (⟨#[49, 50, 48, 48, 49, 48, 49]⟩ : Str)) rfl) (ltEnc_one _) (by omega) (by omega) (Nat.zero_le _) ?_; intro g3 c3 w5 ho3 hg3 hat3)
              have H5 : Hid (Pool w0 w5 (rdP w0 g (k0 + 1 + 1) :: ownP 39 2 ltEnc (.slice (some ⟨g3, 0, none⟩) (n + 1) c3) (l ++ [(1000 + (n : Int), (⟨#[49, 50, 48, 48, 49, 48, 49]⟩ : Str))]) :: ps)) := (H.out.alloc (Obj.cells #[.int .i64 (1000 + (n : Int)), .string (⟨#[49, 50, 48, 48, 49, 48, 49]⟩ : Str)] 39)).append 1 rfl ho3 hg3 (fun q e => by injection e with e; subst e; exact hat3)
              clear ho3 hg3 hat3
              go_roundw
              case rel => exact ⟨_, n + 1, c3, _, rfl, by omega, (fun y hy => by
                rcases List.mem_append.1 hy with hy | hy
                · exact Hs'.out y hy
                · simp at hy; subst hy; show 7 ≤ 1001; omega), H5.out⟩
              case measure => simp [slLen]; omega
            · go_wp2
              go_ret
              exact ⟨A, n, c, l, rfl, by omega, Hs'.out, H.out.rdUp (by omega)⟩
        · have q2 : (v == 2) = false := by simpa using e2
          go_wp2
          go_ret
          exact ⟨_, n, c, _, rfl, by omega, Hs'.out, H.out.rdUp (by omega)⟩

end

section
open Go.RowKit

/-- A plan and letters that were drawn, each in memory of its own. -/
def PBOut (w w' : World) (A : Option Addr) (n c : Nat) (l : List Str) (D : Option Addr) (k d : Nat) (m : List Lt) : Prop :=
  n ≤ 13 ∧ (∀ x ∈ l, x.size ≤ 1001) ∧ (k ≤ 14 ∨ k = 61) ∧ (∀ x ∈ m, x.2.size ≤ 1001) ∧ Pool w w' [ownP 9 1 strEnc (.slice A n c) l, ownP 39 2 ltEnc (.slice D k d) m]

end
end Go.Proofs.Ytjibjoapbjojlaa
