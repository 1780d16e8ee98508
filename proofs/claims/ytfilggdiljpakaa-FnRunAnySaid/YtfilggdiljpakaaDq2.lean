/-
  What the reference draws for batches on plans: letters, most of them for a code of the plan, sometimes not valid.
  The draws of the laws on batches and plans.
-/
import Derived.Test.YtfilggdiljpakaaDq1
namespace Go.Proofs.Ytfilggdiljpakaa

section
open Go.RowKit

theorem flat_code : ∀ (l : List Lt) (i : Nat) (x : Lt) (s : Str), l[i]? = some x → (l.flatMap ltEnc).set (i * 2 + 1) (.string s) = (l.set i (x.1, s)).flatMap ltEnc
  | [], _, _, _, h => by simp at h
  | y :: l, 0, x, s, h => by
    simp at h; subst h
    simp [ltEnc]
  | y :: l, i + 1, x, s, h => by
    simp only [List.getElem?_cons_succ] at h
    rw [show (i + 1) * 2 + 1 = (i * 2 + 1) + 2 from by omega, List.flatMap_cons, List.set_cons_succ, List.flatMap_cons, ← flat_code l i x s h]
    rfl
theorem flat_id : ∀ (l : List Lt) (i : Nat) (x : Lt) (v : Int), l[i]? = some x → (l.flatMap ltEnc).set (i * 2) (.int .i64 v) = (l.set i (v, x.2)).flatMap ltEnc
  | [], _, _, _, h => by simp at h
  | y :: l, 0, x, s, h => by
    simp at h; subst h
    simp [ltEnc]
  | y :: l, i + 1, x, s, h => by
    simp only [List.getElem?_cons_succ] at h
    rw [show (i + 1) * 2 = (i * 2) + 2 from by omega, List.flatMap_cons, List.set_cons_succ, List.flatMap_cons, ← flat_id l i x s h]
    rfl
theorem own_rawL {w : World} {base n c : Nat} {A : Option Addr} {l : List Lt} (h : Own w base 41 2 ltEnc (.slice A n c) l) : w.ownsRow base 41 2 (.slice A n c) n (l.flatMap ltEnc) := by
  have hn := h.len
  unfold Own at h
  rw [← hn] at h
  exact h
theorem own_code {w : World} {base g n c i : Nat} {x : Lt} {l : List Lt} (h : Own w base 41 2 ltEnc (.slice (some ⟨g, 0, none⟩) n c) l) (hx : l[i]? = some x) (s : Str) : Own (w.setCell ⟨g, i * 2 + 1, none⟩ (.string s)) base 41 2 ltEnc (.slice (some ⟨g, 0, none⟩) n c) (l.set i (x.1, s)) := by
  have h2 := (World.ownsRow.stored (own_rawL h) (i * 2 + 1) (.string s)).1
  rw [flat_code l i x s hx] at h2
  unfold Own
  rw [List.length_set, ← h.len]
  exact h2
theorem own_id {w : World} {base g n c i : Nat} {x : Lt} {l : List Lt} (h : Own w base 41 2 ltEnc (.slice (some ⟨g, 0, none⟩) n c) l) (hx : l[i]? = some x) (v : Int) : Own (w.setCell ⟨g, i * 2, none⟩ (.int .i64 v)) base 41 2 ltEnc (.slice (some ⟨g, 0, none⟩) n c) (l.set i (v, x.2)) := by
  have h2 := (World.ownsRow.stored (own_rawL h) (i * 2) (.int .i64 v)).1
  rw [flat_id l i x v hx] at h2
  unfold Own
  rw [List.length_set, ← h.len]
  exact h2
def slLen : Value → Nat
  | .slice _ n _ => n
  | _ => 0

set_option maxHeartbeats 2000000 in
set_option maxRecDepth 100000 in
/-- l2Some. -/
theorem someLtP {w0 w : World} {ps : List Piece} {g k : Nat} (first : Int) (h : Pool w0 w (rdP w0 g k :: ps)) (hk : k ≤ 700000) (hf0 : 0 ≤ first) (hf1 : first ≤ 100) :
    Calls Try.prog 33 #[.pointer (some ⟨g, 0, none⟩), .int .i64 first] w fun e w' => ∃ A n c l, e = .returned (.slice A n c) ∧ n ≤ 14 ∧ Hid (∀ x ∈ l, x.2.size = 7) ∧ Hid (Pool w0 w' (rdP w0 g (k + 113) :: ownP 41 2 ltEnc (.slice A n c) l :: ps)) := by
  have H : Hid (Pool w0 (w.alloc (Obj.cells #[] 41)) (rdP w0 g k :: ownP 41 2 ltEnc (.slice (some ⟨w.heap.size, 0, none⟩) 0 0) [] :: ps)) :=
    (h.addOwn ((Below.refl _ _).alloc (Nat.le_refl _) _) (Own.lit0 w 41 2 ltEnc)).swap
  clear h
  go_enter Try.func33, Try.ntmps33
  go_wp2_with fail
  refine (numP [6, 4, 9, 2, 14, 0, 1] 7 _ _ _ H.out (by simp) rfl (by decide) (by decide) (by omega)).mono ?_
  rintro e w1 ⟨x, rfl, hx, H⟩
  have hx' : 0 ≤ x ∧ x ≤ 14 := by simp at hx; omega
  obtain ⟨n0, rfl⟩ := Int.eq_ofNat_of_zero_le hx'.1
  have hn0 : n0 ≤ 14 := by omega
  clear hx hx'
  go_wp2_with fail
  go_loopw [5, 6] (fun s i wr => ∃ (j : Nat) (A : Option Addr) (n c : Nat) (l : List Lt) (q : Nat), j ≤ n0 ∧ i = .int .i64 j ∧ s = .slice A n c ∧ n + j ≤ n0 ∧ q + 8 * j ≤ k + 1 + 8 * n0 ∧ Hid (∀ x ∈ l, x.2.size = 7) ∧ Hid (Pool w0 wr (rdP w0 g q :: ownP 41 2 ltEnc (.slice A n c) l :: ps))) (fun _ i _ => (intOf i).toNat)
  case atStart => exact ⟨n0, _, 0, 0, [], k + 1, Nat.le_refl _, rfl, rfl, by omega, by omega, (fun x hx => by cases hx), H.out⟩
  case round =>
    clear H
    obtain ⟨j, A, n, c, l, q, hj, rfl, rfl, hn, hq, Hs, H⟩ := hrel
    by_cases hlt : 0 < j
    · go_wp2_with fail
      refine (someCodeP H.out (by omega)).mono ?_
      rintro e w2 ⟨f, rfl, hf, H2⟩
      have Hln := Lib.hid (H2.out.own 1 rfl).len
      clear H
      go_wp2_with (at_builtin; refine wpList_append1L (.tmp 15) (.tmp 24) 23 41 lt_info Try.underlying23 rfl (by decide) rfl rfl (first + (n : Int) * 7, f) rfl Hln.out ((H2.out.alloc _).own 1 rfl) rfl ltEnc_len (ltEnc_cells (first + (n : Int) * 7, f) rfl) (ltEnc_one _) (by omega) (by omega) (Nat.zero_le _) ?_; intro g3 c3 w5 ho3 hg3 hat3)
      have H5 : Hid (Pool w0 w5 (rdP w0 g (q + 8) :: ownP 41 2 ltEnc (.slice (some ⟨g3, 0, none⟩) (n + 1) c3) (l ++ [(first + (n : Int) * 7, f)]) :: ps)) := (H2.out.alloc (Obj.cells #[.int .i64 (first + (n : Int) * 7), .string f] 41)).append 1 rfl ho3 hg3 (fun q e => by injection e with e; subst e; exact hat3)
      clear ho3 hg3 hat3 H2
      go_roundw
      case rel => exact ⟨j - 1, _, n + 1, c3, _, q + 8, by omega, by go_num, rfl, by omega, by omega, (fun x hx => by
        rcases List.mem_append.1 hx with hx | hx
        · exact Hs.out x hx
        · simp at hx; subst hx; exact hf), H5.out⟩
      case measure => simp [intOf]; omega
    · obtain rfl : j = 0 := by omega
      go_wp2
      go_ret
      exact ⟨A, n, c, l, rfl, by omega, Hs.out, H.out.rdUp (by omega)⟩

set_option maxHeartbeats 4000000 in
set_option maxRecDepth 100000 in
/-- l3Mail. -/
theorem mailP {w0 w : World} {ps : List Piece} {g k : Nat} (b p : Int) (A : Option Addr) (n c : Nat) (l : List Str) (h : Pool w0 w (rdP w0 g k :: ownP 9 1 strEnc (.slice A n c) l :: ps)) (hk : k ≤ 600000) (hn1 : 1 ≤ n) (hn2 : n ≤ 12) (hs : ∀ x ∈ l, x.size = 7) :
    Calls Try.prog 43 #[.pointer (some ⟨g, 0, none⟩), .agg #[.int .i64 b, .int .i64 p, .slice A n c]] w fun e w' => ∃ A' n' c' m, e = .returned (.slice A' n' c') ∧ n' ≤ 14 ∧ Hid (∀ x ∈ m, x.2.size = 7) ∧ Hid (Pool w0 w' (rdP w0 g (k + 150) :: ownP 41 2 ltEnc (.slice A' n' c') m :: ownP 9 1 strEnc (.slice A n c) l :: ps)) := by
  have hln := (h.own 1 rfl).len
  subst hln
  have Hs := Lib.hid hs
  have hl0 : 0 < l.length := by omega
  have hl1 : (0 : Int) < (l.length : Int) := by omega
  obtain ⟨ad, rfl, -, -⟩ := ((h.own 1 rfl).rd strEnc_len) hl0
  have H : Hid (Pool w0 (w.alloc (Obj.cells #[.int .i64 b, .int .i64 p, .slice (some ad) l.length c] 35)) (rdP w0 g k :: boxP w.heap.size (.int .i64 b) (.int .i64 p) (.slice (some ad) l.length c) :: ownP 9 1 strEnc (.slice (some ad) l.length c) l :: ps)) := (h.addBox rfl (.int .i64 b) (.int .i64 p) (.slice (some ad) l.length c) 35).swap
  clear h hs
  go_enter Try.func43, Try.ntmps43
  go_wp2_with fail
  refine (pickP H.out 4 (by omega)).mono ?_
  rintro e w1 ⟨v, rfl, hv0, hv1, H⟩
  go_wp2_with fail
  refine (someLtP (1 + v) H.out (by omega) (by omega) (by omega)).mono ?_
  rintro e w2 ⟨A1, n1, c1, m, rfl, hn3, Hm, H⟩
  go_wp2_with fail
  go_loopw [6] (fun i wr => ∃ (j : Nat) (m : List Lt) (q : Nat), j ≤ n1 ∧ i = .int .i64 j ∧ q ≤ k + 114 + 2 * j ∧ Hid (∀ x ∈ m, x.2.size = 7) ∧ Hid (Pool w0 wr (rdP w0 g q :: ownP 41 2 ltEnc (.slice A1 n1 c1) m :: boxP w.heap.size (.int .i64 b) (.int .i64 p) (.slice (some ad) l.length c) :: ownP 9 1 strEnc (.slice (some ad) l.length c) l :: ps))) (fun i _ => n1 - (intOf i).toNat)
  case atStart => exact ⟨0, m, _, Nat.zero_le _, rfl, by omega, Hm.out, H.out⟩
  case round =>
    clear H Hm
    obtain ⟨j, m, q, hj, rfl, hq, Hm, H⟩ := hrel
    by_cases hlt : j < n1
    · go_wp2_with fail
      refine (pickP H.out 6 (by omega)).mono ?_
      rintro e w3 ⟨u, rfl, hu0, hu1, H⟩
      obtain ⟨-, c0, c1', c2, cz⟩ := H.out.box 2 rfl
      by_cases h0 : u = 0
      · subst h0
        go_wp2
        go_roundw
        case rel => exact ⟨j + 1, m, q + 1, by omega, by go_num, by omega, Hm.out, H.out⟩
        case measure => simp [intOf]; omega
      · have hup : 0 < u := by omega
        have hlen := (H.out.own 1 rfl).len
        obtain ⟨y, hy⟩ : ∃ y, m[j]? = some y := ⟨_, List.getElem?_eq_getElem (by omega)⟩
        obtain ⟨go, rfl, hgo1, hgo2⟩ := (H.out.own 1 rfl).head (by omega)
        obtain ⟨d1, f1⟩ := (H.out.own 1 rfl).cell2 ltEnc_len (H.out.own 1 rfl).len hy (j := 1) (by omega)
        rw [show (ltEnc y)[1]? = some (.string y.2) from rfl] at d1
        have HW := Lib.hid H.out.drew1
        have Hy := Lib.hid hy
        have hjI : (j : Int) < (n1 : Int) := by omega
        clear hlen hy
        go_wp2_with fail
        go_region_law ((go_simp; go_at_call 34; refine (pickP HW.out (l.length : Int) (by omega)).mono ?_; rintro e w4 ⟨v, rfl, hv0, hv1, H4⟩; obtain ⟨i, rfl⟩ := Int.eq_ofNat_of_zero_le hv0; have hi : i < l.length := (by omega); have hiI : (i : Int) < (l.length : Int) := (by omega); obtain ⟨x, hx⟩ : ∃ x, l[i]? = some x := ⟨_, List.getElem?_eq_getElem hi⟩; obtain ⟨ad', e', -, e0⟩ := ((H4.out.own 3 rfl).rd strEnc_len).one hx rfl; injection e' with e'; subst e'; have Hxs := Lib.hid (Hs.out x (List.mem_of_getElem? hx)); clear hx; obtain ⟨-, c0', c1'', c2', cz'⟩ := H4.out.box 2 rfl; obtain ⟨d1', f1'⟩ := (H4.out.own 1 rfl).cell2 ltEnc_len (H4.out.own 1 rfl).len Hy.out (j := 1) (by omega); rw [show (ltEnc y)[1]? = some (.string y.2) from rfl] at d1'))
        all_goals
          have H5 : Hid (Pool w0 (w4.setCell ⟨go, j * 2 + 1, none⟩ (.string x)) (rdP w0 g (q + 1 + 1) :: ownP 41 2 ltEnc (.slice (some ⟨go, 0, none⟩) n1 c1) (m.set j (y.1, x)) :: boxP w.heap.size (.int .i64 b) (.int .i64 p) (.slice (some ad) l.length c) :: ownP 9 1 strEnc (.slice (some ad) l.length c) l :: ps)) := by
            have := H4.out.turnOwn 1 rfl (own_code (H4.out.own 1 rfl) Hy.out x) (grown_setCell (World.grownBy.refl _ _) (.inl rfl) _)
            exact this
          clear c0 c1' c2 cz c0' c1'' c2' cz' d1 f1 d1' f1' e0
          go_wp2
          go_roundw
          case rel => exact ⟨j + 1, _, q + 1 + 1, by omega, by go_num, by omega, (fun z hz => by
            rcases List.mem_or_eq_of_mem_set hz with hz | rfl
            · exact Hm.out z hz
            · exact Hxs.out), H5.out⟩
          case measure => simp [intOf]; omega
    · obtain rfl : j = n1 := by omega
      go_wp2
      go_ret
      exact ⟨A1, j, c1, m, rfl, hn3, Hm.out, (H.out.drop 2).rdUp (by omega)⟩

set_option maxHeartbeats 4000000 in
set_option maxRecDepth 100000 in
/-- l2Bad. -/
theorem badLtP {w0 w : World} {ps : List Piece} {g k0 : Nat} (A : Option Addr) (n c : Nat) (l : List Lt) (h : Pool w0 w (rdP w0 g k0 :: ownP 41 2 ltEnc (.slice A n c) l :: ps)) (hk0 : k0 ≤ 800000) (hn : n ≤ 14) (hs : ∀ x ∈ l, x.2.size = 7) :
    Calls Try.prog 32 #[.pointer (some ⟨g, 0, none⟩), .slice A n c] w fun e w' => ∃ A' n' c' l', e = .returned (.slice A' n' c') ∧ (n' ≤ 14 ∨ n' = 61) ∧ Hid (∀ x ∈ l', x.2.size ≤ 1001) ∧ Hid (Pool w0 w' (rdP w0 g (k0 + 3) :: ownP 41 2 ltEnc (.slice A' n' c') l' :: ps)) := by
  have H := Lib.hid h
  have Hs := Lib.hid hs
  have Hs' : Hid (∀ x ∈ l, x.2.size ≤ 1001) := fun x hx => by have := hs x hx; omega
  clear h hs
  by_cases h0 : n = 0
  · go_enter Try.func32, Try.ntmps32
    go_wp2
    go_ret
    exact ⟨A, n, c, l, by first | rfl | (rw [h0]), by omega, Hs'.out, H.out.rdUp (by omega)⟩
  · have hq : ((n : Int) == 0) = false := by simp; omega
    go_enter Try.func32, Try.ntmps32
    go_wp2_with fail
    refine (pickP H.out (n : Int) (by omega)).mono ?_
    rintro e w1 ⟨k, rfl, hk0', hk1, H⟩
    obtain ⟨k, rfl⟩ := Int.eq_ofNat_of_zero_le hk0'
    have hkn : k < n := by omega
    clear hk0' hk1
    go_wp2_with fail
    refine (pickP H.out 40 (by omega)).mono ?_
    rintro e w2 ⟨v, rfl, hv0, hv1, H⟩
    obtain ⟨x, hx⟩ : ∃ x, l[k]? = some x := ⟨_, List.getElem?_eq_getElem (by have := (H.out.own 1 rfl).len; omega)⟩
    have hxs := Hs.out x (List.mem_of_getElem? hx)
    obtain ⟨go, rfl, hgo1, hgo2⟩ := (H.out.own 1 rfl).head (by omega)
    by_cases e0 : v = 0
    · subst e0
      obtain ⟨c1, f1⟩ := (H.out.own 1 rfl).cell2 ltEnc_len (H.out.own 1 rfl).len hx (j := 1) (by omega)
      rw [show (ltEnc x)[1]? = some (.string x.2) from rfl] at c1
      have hs2 : (x.2 ++ (⟨#[49]⟩ : Str)).size = 8 := by rw [ByteArray.size_append, hxs]; rfl
      have Hx := Lib.hid hx
      clear hx
      go_wp2_with fail
      refine (badP _ H.out (by omega) (by rw [hs2]; omega) (by rw [hs2]; omega)).mono ?_
      rintro e w3 ⟨s, rfl, hsz, H⟩
      clear c1 f1
      obtain ⟨c2, f2⟩ := (H.out.own 1 rfl).cell2 ltEnc_len (H.out.own 1 rfl).len Hx.out (j := 1) (by omega)
      rw [show (ltEnc x)[1]? = some (.string x.2) from rfl] at c2
      have H5 : Hid (Pool w0 (w3.setCell ⟨go, k * 2 + 1, none⟩ (.string s)) (rdP w0 g (k0 + 1 + 1 + 1) :: ownP 41 2 ltEnc (.slice (some ⟨go, 0, none⟩) n c) (l.set k (x.1, s)) :: ps)) := by
        have := H.out.turnOwn 1 rfl (own_code (H.out.own 1 rfl) Hx.out s) (grown_setCell (World.grownBy.refl _ _) (.inl rfl) _)
        exact this
      go_wp2
      go_ret
      exact ⟨_, n, c, _, rfl, by omega, (fun y hy => by
        rcases List.mem_or_eq_of_mem_set hy with hy | rfl
        · exact Hs'.out y hy
        · exact hsz), H5.out⟩
    · have q0 : (v == 0) = false := by simpa using e0
      by_cases e1 : v = 1
      · subst e1
        obtain ⟨y, hy⟩ : ∃ y, l[0]? = some y := ⟨_, List.getElem?_eq_getElem (by have := (H.out.own 1 rfl).len; omega)⟩
        obtain ⟨c1, f1⟩ := (H.out.own 1 rfl).cell2 ltEnc_len (H.out.own 1 rfl).len hy (j := 0) (by omega)
        rw [show (ltEnc y)[0]? = some (.int .i64 y.1) from rfl] at c1
        simp only [Nat.zero_mul, Nat.zero_add] at c1 f1
        have Hx := Lib.hid hx
        clear hx hy
        go_wp2_with fail
        refine (numP [0, 10000, 9999, -1, y.1] 5 _ _ _ H.out rfl rfl (by decide) (by decide) (by omega)).mono ?_
        rintro e w3 ⟨z, rfl, -, H⟩
        clear c1 f1
        obtain ⟨c2, f2⟩ := (H.out.own 1 rfl).cell2 ltEnc_len (H.out.own 1 rfl).len Hx.out (j := 0) (by omega)
        rw [show (ltEnc x)[0]? = some (.int .i64 x.1) from rfl] at c2
        simp only [Nat.add_zero] at c2 f2
        have H5 : Hid (Pool w0 (w3.setCell ⟨go, k * 2, none⟩ (.int .i64 z)) (rdP w0 g (k0 + 1 + 1 + 1) :: ownP 41 2 ltEnc (.slice (some ⟨go, 0, none⟩) n c) (l.set k (z, x.2)) :: ps)) := by
          have := H.out.turnOwn 1 rfl (own_id (H.out.own 1 rfl) Hx.out z) (grown_setCell (World.grownBy.refl _ _) (.inl rfl) _)
          exact this
        go_wp2
        go_ret
        exact ⟨_, n, c, _, rfl, by omega, (fun y hy => by
          rcases List.mem_or_eq_of_mem_set hy with hy | rfl
          · exact Hs'.out y hy
          · exact Hs'.out x (List.mem_of_getElem? Hx.out)), H5.out⟩
      · have q1 : (v == 1) = false := by simpa using e1
        by_cases e2 : v = 2
        · subst e2
          clear hx
          go_wp2
          go_loopw [1] (fun s wr => ∃ (A : Option Addr) (n c : Nat) (l : List Lt), s = .slice A n c ∧ n ≤ 61 ∧ Hid (∀ x ∈ l, x.2.size ≤ 1001) ∧ Hid (Pool w0 wr (rdP w0 g (k0 + 1 + 1) :: ownP 41 2 ltEnc (.slice A n c) l :: ps))) (fun s _ => 61 - slLen s)
          case atStart => exact ⟨_, n, c, _, rfl, by omega, Hs'.out, H.out⟩
          case round =>
            clear H Hs'
            obtain ⟨A, n, c, l, rfl, hn31, Hs', H⟩ := hrel
            by_cases hlt : n < 61
            · go_wp2_with (at_builtin; refine wpList_append1L (.tmp 48) (.tmp 53) 23 41 lt_info Try.underlying23 rfl (by decide) rfl rfl (1000 + (n : Int), (⟨#[49, 50, 48, 48, 49, 48, 49]⟩ : Str)) rfl (H.out.own 1 rfl).len ((H.out.alloc _).own 1 rfl) rfl ltEnc_len (ltEnc_cells (1000 + (n : Int), (⟨#[49, 50, 48, 48, 49, 48, 49]⟩ : Str)) rfl) (ltEnc_one _) (by omega) (by omega) (Nat.zero_le _) ?_; intro g3 c3 w5 ho3 hg3 hat3)
              have H5 : Hid (Pool w0 w5 (rdP w0 g (k0 + 1 + 1) :: ownP 41 2 ltEnc (.slice (some ⟨g3, 0, none⟩) (n + 1) c3) (l ++ [(1000 + (n : Int), (⟨#[49, 50, 48, 48, 49, 48, 49]⟩ : Str))]) :: ps)) := (H.out.alloc (Obj.cells #[.int .i64 (1000 + (n : Int)), .string (⟨#[49, 50, 48, 48, 49, 48, 49]⟩ : Str)] 41)).append 1 rfl ho3 hg3 (fun q e => by injection e with e; subst e; exact hat3)
              clear ho3 hg3 hat3
              go_roundw
              case rel => exact ⟨_, n + 1, c3, _, rfl, by omega, (fun y hy => by
                rcases List.mem_append.1 hy with hy | hy
                · exact Hs'.out y hy
                · simp at hy; subst hy; show 7 ≤ 1001; omega), H5.out⟩
              case measure => simp [slLen]; omega
            · go_wp2
              go_ret
              exact ⟨A, n, c, l, rfl, by omega, Hs'.out, H.out.rdUp (by omega)⟩
        · have q2 : (v == 2) = false := by simpa using e2
          go_wp2
          go_ret
          exact ⟨_, n, c, _, rfl, by omega, Hs'.out, H.out.rdUp (by omega)⟩
end

section
open Go.RowKit

/-- A plan and letters that were drawn, each in memory of its own. -/
def PBOut (w w' : World) (A : Option Addr) (n c : Nat) (l : List Str) (D : Option Addr) (k d : Nat) (m : List Lt) : Prop :=
  n ≤ 13 ∧ (∀ x ∈ l, x.size ≤ 1001) ∧ (k ≤ 14 ∨ k = 61) ∧ (∀ x ∈ m, x.2.size ≤ 1001) ∧ Pool w w' [ownP 9 1 strEnc (.slice A n c) l, ownP 41 2 ltEnc (.slice D k d) m]

set_option maxHeartbeats 4000000 in
set_option maxRecDepth 100000 in
theorem drawPassC (A : Option Addr) (bs : List UInt8) (n cap : Nat) (hn : n = bs.length) (hc : n ≤ cap) (w : World) (hlen : n ≤ 1048576) (hr : Rd w 1 byEnc A bs) :
    Calls Try.prog 26 #[.slice A n cap] w fun e w' => ∃ b p A1 n1 c1 l A2 n2 c2 m q, e = .returned (.tuple #[.agg #[.int .i64 b, .int .i64 p, .slice A1 n1 c1], .slice A2 n2 c2, .int .i64 q]) ∧ Hid (PBOut w w' A1 n1 c1 l A2 n2 c2 m) := by
  have Hn := Lib.hid hn
  have Hr := Lib.hid hr
  clear hn hr
  have H : Hid (Pool w (w.alloc (Obj.cells #[.int .i64 0, .int .i64 0, .slice none 0 0] 35)) [boxP w.heap.size (.int .i64 0) (.int .i64 0) (.slice none 0 0)]) := (Pool.nil_ w).addBox rfl _ _ _ _
  go_enter Try.func26, Try.ntmps26
  go_wp2_with fail
  refine (openQ A bs n cap Hn.out hc _ hlen Hr.out H.out).mono ?_
  rintro e w1 ⟨g, rfl, H⟩
  go_wp2_with fail
  refine (somePlanP H.out (by omega)).mono ?_
  rintro e w2 ⟨b, p, A1, n1, c1, l, rfl, hb1, hb2, hp1, hp2, hn1, hn2, Hs, H⟩
  have H : Hid (Pool w (w2.alloc (Obj.cells #[.int .i64 b, .int .i64 p, .slice A1 n1 c1] 35)) (rdP w g (0 + 98) :: ownP 9 1 strEnc (.slice A1 n1 c1) l :: [boxP w2.heap.size (.int .i64 b) (.int .i64 p) (.slice A1 n1 c1), boxP w.heap.size (.int .i64 0) (.int .i64 0) (.slice none 0 0)])) :=
    ((H.out.addBox rfl (.int .i64 b) (.int .i64 p) (.slice A1 n1 c1) 35).swap).perm (List.Perm.cons _ (List.Perm.swap _ _ _))
  obtain ⟨-, c0, c1', c2, cz⟩ := H.out.box 2 rfl
  go_wp2_with fail
  refine (mailP b p A1 n1 c1 l H.out (by omega) hn1 hn2 Hs.out).mono ?_
  rintro e w3 ⟨A2, n2, c2', m, rfl, hn3, Hm, H⟩
  clear c0 c1' c2 cz
  obtain ⟨-, c0, c1', c2, cz⟩ := H.out.box 3 rfl
  go_wp2_with fail
  refine (pickP H.out p (by omega)).mono ?_
  rintro e w4 ⟨q, rfl, hq0, hq1, H⟩
  clear c0 c1' c2 cz
  obtain ⟨-, c0, c1', c2, cz⟩ := H.out.box 3 rfl
  go_wp2_with fail
  refine (pickP H.out 16 (by omega)).mono ?_
  rintro e w5 ⟨u, rfl, hu0, hu1, H⟩
  clear c0 c1' c2 cz
  obtain ⟨-, c0, c1', c2, cz⟩ := H.out.box 3 rfl
  by_cases h0 : u = 0
  · subst h0
    go_wp2_with fail
    refine (numP [-1, p, 9223372036854775807] 3 _ _ _ H.out rfl rfl (by simp) (by decide) (by omega)).mono ?_
    rintro e w6 ⟨y, rfl, -, H⟩
    clear c0 c1' c2 cz
    have H : Hid (Pool w w6 (rdP w g (0 + 98 + 150 + 1 + 1 + 1) :: ownP 9 1 strEnc (.slice A1 n1 c1) l :: ownP 41 2 ltEnc (.slice A2 n2 c2') m :: [boxP w2.heap.size (.int .i64 b) (.int .i64 p) (.slice A1 n1 c1), boxP w.heap.size (.int .i64 0) (.int .i64 0) (.slice none 0 0)])) := H.out.perm (List.Perm.cons _ (List.Perm.swap _ _ _))
    obtain ⟨-, c0, c1', c2, cz⟩ := H.out.box 3 rfl
    go_wp2_with fail
    refine (badPlanP b p A1 n1 c1 l H.out (by omega) hn1 hn2 Hs.out).mono ?_
    rintro e w7 ⟨b', p', A3, n3, c3', l3, rfl, hn4, Hs3, H⟩
    clear c0 c1' c2 cz
    have H := Lib.hid (H.out.perm (List.Perm.cons _ (List.Perm.swap _ _ _)))
    go_wp2_with fail
    refine (badLtP A2 n2 c2' m H.out (by omega) hn3 Hm.out).mono ?_
    rintro e w8 ⟨A4, n4, c4', m4, rfl, hn5, Hm4, H⟩
    obtain ⟨-, r0, r1, r2, rz⟩ := H.out.box 4 rfl
    obtain ⟨s0, s1, s2⟩ := set3 r0 r1 r2 (.int .i64 b') (.int .i64 p') (.slice A3 n3 c3')
    have H5 := Lib.hid (H.out.setBox 4 rfl (.int .i64 b') (.int .i64 p') (.slice A3 n3 c3'))
    go_wp2
    refine bodyPost_ret (v := .tuple #[.agg #[.int .i64 b', .int .i64 p', .slice A3 n3 c3'], .slice A4 n4 c4', .int .i64 y]) (by simp [results, Try.results26, go_sem, s0, s1, s2]) rfl ?_
    exact ⟨b', p', A3, n3, c3', l3, A4, n4, c4', m4, y, rfl, hn4, Hs3.out, hn5, Hm4.out, (((H5.out.drop 4).drop 3).drop 0).swap⟩
  · have hq : (u == 0) = false := by simpa using h0
    clear c0 c1' c2 cz
    have H : Hid (Pool w w5 (rdP w g (0 + 98 + 150 + 1 + 1) :: ownP 9 1 strEnc (.slice A1 n1 c1) l :: ownP 41 2 ltEnc (.slice A2 n2 c2') m :: [boxP w2.heap.size (.int .i64 b) (.int .i64 p) (.slice A1 n1 c1), boxP w.heap.size (.int .i64 0) (.int .i64 0) (.slice none 0 0)])) := H.out.perm (List.Perm.cons _ (List.Perm.swap _ _ _))
    obtain ⟨-, c0, c1', c2, cz⟩ := H.out.box 3 rfl
    go_wp2_with fail
    refine (badPlanP b p A1 n1 c1 l H.out (by omega) hn1 hn2 Hs.out).mono ?_
    rintro e w7 ⟨b', p', A3, n3, c3', l3, rfl, hn4, Hs3, H⟩
    clear c0 c1' c2 cz
    have H := Lib.hid (H.out.perm (List.Perm.cons _ (List.Perm.swap _ _ _)))
    go_wp2_with fail
    refine (badLtP A2 n2 c2' m H.out (by omega) hn3 Hm.out).mono ?_
    rintro e w8 ⟨A4, n4, c4', m4, rfl, hn5, Hm4, H⟩
    obtain ⟨-, r0, r1, r2, rz⟩ := H.out.box 4 rfl
    obtain ⟨s0, s1, s2⟩ := set3 r0 r1 r2 (.int .i64 b') (.int .i64 p') (.slice A3 n3 c3')
    have H5 := Lib.hid (H.out.setBox 4 rfl (.int .i64 b') (.int .i64 p') (.slice A3 n3 c3'))
    go_wp2
    refine bodyPost_ret (v := .tuple #[.agg #[.int .i64 b', .int .i64 p', .slice A3 n3 c3'], .slice A4 n4 c4', .int .i64 q]) (by simp [results, Try.results26, go_sem, s0, s1, s2]) rfl ?_
    exact ⟨b', p', A3, n3, c3', l3, A4, n4, c4', m4, q, rfl, hn4, Hs3.out, hn5, Hm4.out, (((H5.out.drop 4).drop 3).drop 0).swap⟩

set_option maxHeartbeats 2000000 in
set_option maxRecDepth 100000 in
theorem drawRunC (A : Option Addr) (bs : List UInt8) (n cap : Nat) (hn : n = bs.length) (hc : n ≤ cap) (w : World) (hlen : n ≤ 1048576) (hr : Rd w 1 byEnc A bs) :
    Calls Try.prog 13 #[.slice A n cap] w fun e w' => ∃ b p A1 n1 c1 l A2 n2 c2 m, e = .returned (.tuple #[.agg #[.int .i64 b, .int .i64 p, .slice A1 n1 c1], .slice A2 n2 c2]) ∧ Hid (PBOut w w' A1 n1 c1 l A2 n2 c2 m) := by
  have Hn := Lib.hid hn
  have Hr := Lib.hid hr
  clear hn hr
  have H : Hid (Pool w (w.alloc (Obj.cells #[.int .i64 0, .int .i64 0, .slice none 0 0] 35)) [boxP w.heap.size (.int .i64 0) (.int .i64 0) (.slice none 0 0)]) := (Pool.nil_ w).addBox rfl _ _ _ _
  go_enter Try.func13, Try.ntmps13
  go_wp2_with fail
  refine (drawPassC A bs n cap Hn.out hc _ hlen (Hr.out.below H.out.below)).mono ?_
  rintro e w1 ⟨b, p, A1, n1, c1, l, A2, n2, c2, m, q, rfl, HO⟩
  have H1 : Hid (Pool w (w1.alloc (Obj.cells #[.int .i64 b, .int .i64 p, .slice A1 n1 c1] 35)) [boxP w1.heap.size (.int .i64 b) (.int .i64 p) (.slice A1 n1 c1), ownP 9 1 strEnc (.slice A1 n1 c1) l, ownP 41 2 ltEnc (.slice A2 n2 c2) m, boxP w.heap.size (.int .i64 0) (.int .i64 0) (.slice none 0 0)]) := (H.out.join HO.out.2.2.2.2).addBox rfl _ _ _ _
  obtain ⟨-, c0, c1', c2', cz⟩ := H1.out.box 0 rfl
  obtain ⟨-, r0, r1, r2, rz⟩ := H1.out.box 3 rfl
  obtain ⟨s0, s1, s2⟩ := set3 r0 r1 r2 (.int .i64 b) (.int .i64 p) (.slice A1 n1 c1)
  have H5 := Lib.hid (H1.out.setBox 3 rfl (.int .i64 b) (.int .i64 p) (.slice A1 n1 c1))
  go_wp2
  refine bodyPost_ret (v := .tuple #[.agg #[.int .i64 b, .int .i64 p, .slice A1 n1 c1], .slice A2 n2 c2]) (by simp [results, Try.results13, go_sem, s0, s1, s2]) rfl ?_
  exact ⟨b, p, A1, n1, c1, l, A2, n2, c2, m, rfl, HO.out.1, HO.out.2.1, HO.out.2.2.1, HO.out.2.2.2.1, (H5.out.drop 3).drop 0⟩

end
end Go.Proofs.Ytfilggdiljpakaa
