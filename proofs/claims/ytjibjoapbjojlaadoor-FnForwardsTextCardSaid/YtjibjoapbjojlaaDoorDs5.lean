/-
  What the reference draws as orders and as their text.
-/
import Derived.Test.YtjibjoapbjojlaaDoorDs1
import Derived.Test.YtjibjoapbjojlaaDoorFmA
import Derived.Test.YtjibjoapbjojlaaDoorFwR
import Derived.Test.YtjibjoapbjojlaaDoorFwC
import Derived.Deep.Cut
import Derived.Deep.RegionHeld3
namespace Go.Proofs.YtjibjoapbjojlaaDoor
open Go.RowKit

theorem fws_push {l : List Fw} {f t : Str} (h : fwsOk l = true) (hl : l.length < 30) (hf : codeOk f = true) (ht : codeOk t = true) (hn : fwIdx l f = none) : fwsOk (l ++ [(f, t)]) = true := by
  refine (fwsOk_iff _).2 ⟨by rw [List.length_append, List.length_singleton]; omega, fun i hi => ?_⟩
  rw [List.length_append, List.length_singleton] at hi
  by_cases hl : i < l.length
  · have h1 := ((fwsOk_iff l).1 h).2 i hl
    rw [fwOkAt_eq (List.getElem?_eq_getElem hl)] at h1
    rw [fwOkAt_eq ((List.getElem?_append_left hl).trans (List.getElem?_eq_getElem hl)), List.take_append_of_le_length (by omega)]
    exact h1
  · obtain rfl : i = l.length := by omega
    rw [fwOkAt_eq (x := (f, t)) (by simp), hf, ht, List.take_left, hn]
    rfl
theorem fmtOf_bd {l : List Fw} (h : fwsOk l = true) (hn : l.length ≤ 8) : 1 ≤ (fmtOf l).size ∧ (fmtOf l).size ≤ 200 := by
  unfold fmtOf
  rw [if_pos h]
  by_cases h0 : l = []
  · rw [if_pos h0]; exact ⟨by decide, by decide⟩
  · rw [if_neg h0]
    have h1 := joinL_size_le (l.map fwPiece) 15 (fun y hy => by
      obtain ⟨x, hx, rfl⟩ := List.mem_map.1 hy
      have := fws_codes h hx
      rw [fwPiece_size this.1 this.2]; omega)
    rw [List.length_map] at h1
    refine ⟨?_, by omega⟩
    obtain ⟨x, r, rfl⟩ := List.exists_cons_of_ne_nil h0
    have h3 := joinL_data ((x :: r).map fwPiece)
    rw [List.map_cons, List.map_cons, Lib.join_cons] at h3
    have h4 := congrArg List.length h3
    rw [List.length_append] at h4
    have h5 := fwPiece_size (fws_codes h (List.mem_cons_self)).1 (fws_codes h (List.mem_cons_self)).2
    have h6 : (fwPiece x).data.toList.length = 15 := h5
    have h7 : (joinL (fwPiece x :: r.map fwPiece)).data.toList.length = (joinL (fwPiece x :: r.map fwPiece)).size := rfl
    rw [List.map_cons]
    omega
theorem str_oneF {x : Str} (h : x ∈ [(⟨#[]⟩ : Str), (⟨#[48]⟩ : Str), (⟨#[32]⟩ : Str), (⟨#[62]⟩ : Str), (⟨#[45]⟩ : Str), (⟨#[120]⟩ : Str)]) : x.size ≤ 1 := by
  simp only [List.mem_cons, List.not_mem_nil, or_false] at h
  rcases h with rfl | rfl | rfl | rfl | rfl | rfl <;> decide
theorem fw_second {w : World} {base g n c : Nat} {x : Fw} {r : List Fw} (h : Own w base 79 2 fwEnc (.slice (some ⟨g, 0, none⟩) n c) (x :: r)) (s : Str) : Own (w.setCell ⟨g, 1, none⟩ (.string s)) base 79 2 fwEnc (.slice (some ⟨g, 0, none⟩) n c) ((x.1, s) :: r) := by
  have hn := h.len
  have hr : w.ownsRow base 79 2 (.slice (some ⟨g, 0, none⟩) n c) n ((x :: r).flatMap fwEnc) := by
    have := h; unfold Own at this; rw [← hn] at this; exact this
  have h2 := (World.ownsRow.stored hr 1 (.string s)).1
  unfold Own
  rw [show ((x.1, s) :: r).length = n from hn.symm ▸ rfl]
  exact h2

set_option maxHeartbeats 1000000 in
set_option maxRecDepth 100000 in
/-- l4Code: a code. -/
theorem fwCodeP {w0 w : World} {ps : List Piece} {g k : Nat} (h : Pool w0 w (rdP w0 g k :: ps)) (hk : k ≤ 900000) :
    Calls Tryd.prog 90 #[.pointer (some ⟨g, 0, none⟩)] w fun e w' => ∃ s : Str, e = .returned (.string s) ∧ Hid (codeOk s = true) ∧ Hid (Pool w0 w' (rdP w0 g (k + 1) :: ps)) := by
  have H := Lib.hid h
  clear h
  go_enter Tryd.func90, Tryd.ntmps90
  go_wp2_with fail
  refine (pickP H.out 9 (by omega)).mono ?_
  rintro e w1 ⟨v, rfl, hv0, hv1, H1⟩
  clear H
  go_wp2_with fail
  refine (showD v 2 _ hv0 (by omega) (by omega)).mono ?_
  rintro e w2 ⟨s, rfl, hs, hd, hb⟩
  have H2 := Lib.hid (H1.out.step hb)
  have Hc : Hid (codeOk ((⟨#[49, 50, 48, 48, 49]⟩ : Str) ++ s) = true) := codeOk_of (by rw [ByteArray.size_append, hs]; rfl) (allDig_app (by decide) hd)
  clear hb hd
  go_wp2
  go_ret
  exact ⟨_, rfl, Hc.out, H2.out⟩

set_option maxHeartbeats 2000000 in
set_option maxRecDepth 100000 in
/-- l4Some: valid orders. -/
theorem someFwD {w0 w : World} {ps : List Piece} {g k : Nat} (h : Pool w0 w (rdP w0 g k :: ps)) (hk : k ≤ 800000) :
    Calls Tryd.prog 65 #[.pointer (some ⟨g, 0, none⟩)] w fun e w' => ∃ A n c l, e = .returned (.slice A n c) ∧ n ≤ 8 ∧ Hid (fwsOk l = true) ∧ Hid (Pool w0 w' (rdP w0 g (k + 20) :: ownP 79 2 fwEnc (.slice A n c) l :: ps)) := by
  have H : Hid (Pool w0 (w.alloc (Obj.cells #[] 79)) (rdP w0 g k :: ownP 79 2 fwEnc (.slice (some ⟨w.heap.size, 0, none⟩) 0 0) [] :: ps)) :=
    (h.addOwn ((Below.refl _ _).alloc (Nat.le_refl _) _) (Own.lit0 w 79 2 fwEnc)).swap
  clear h
  go_enter Tryd.func65, Tryd.ntmps65
  go_wp2_with fail
  refine (numP [4, 3, 6, 2, 8, 0] 6 _ _ _ H.out (by simp) rfl (by decide) (by decide) (by omega)).mono ?_
  rintro e w1 ⟨x, rfl, hx, H⟩
  have hx' : 0 ≤ x ∧ x ≤ 8 := by simp at hx; omega
  obtain ⟨n0, rfl⟩ := Int.eq_ofNat_of_zero_le hx'.1
  have hn0 : n0 ≤ 8 := by omega
  clear hx hx'
  go_wp2_with fail
  go_loopw [3, 4] (fun s i wr => ∃ (j : Nat) (A : Option Addr) (n c : Nat) (l : List Fw) (q : Nat), j ≤ n0 ∧ i = .int .i64 j ∧ s = .slice A n c ∧ n + j ≤ n0 ∧ q + 2 * j ≤ k + 1 + 2 * n0 ∧ Hid (fwsOk l = true) ∧ Hid (Pool w0 wr (rdP w0 g q :: ownP 79 2 fwEnc (.slice A n c) l :: ps))) (fun _ i _ => (intOf i).toNat)
  case atStart => exact ⟨n0, _, 0, 0, [], k + 1, Nat.le_refl _, rfl, rfl, by omega, by omega, Lib.hid rfl, H.out⟩
  case round =>
    clear H
    obtain ⟨j, A, n, c, l, q, hj, rfl, rfl, hn, hq, Hs, H⟩ := hrel
    by_cases hlt : 0 < j
    · go_wp2_with fail
      refine (fwCodeP H.out (by omega)).mono ?_
      rintro e w2 ⟨f, rfl, Hf, H2⟩
      go_wp2_with fail
      refine (fwCodeP H2.out (by omega)).mono ?_
      rintro e w3 ⟨t, rfl, Ht, H3⟩
      have H4 : Hid (Pool w0 (w3.alloc (Obj.cells #[.string f, .string t] 79)) (rdP w0 g (q + 1 + 1) :: ownP 79 2 fwEnc (.slice A n c) l :: ps)) := H3.out.alloc _
      have Hln := Lib.hid (H3.out.own 1 rfl).len
      obtain ⟨v, hv⟩ : ∃ v, idxInt (fwIdx l f) = v := ⟨_, rfl⟩
      have Hv := Lib.hid hv
      clear hv H H2 H3
      by_cases hv0 : v < 0
      · have Hs3 : Hid (fwsOk (l ++ [(f, t)]) = true) := fws_push Hs.out (by have := Hln.out; omega) Hf.out Ht.out (idxInt_neg.1 (by rw [Hv.out]; exact hv0))
        go_wp2_with (first
          | (go_at_call 89; refine (specIndex A l n c Hln.out f _ (by omega) ((H4.out.own 1 rfl).rd fwEnc_len)).mono ?_; rw [Hv.out]; rintro e w4 ⟨rfl, rfl⟩)
          | (at_builtin; refine wpList_append1L (.tmp 24) (.tmp 26) 43 79 fw_info Tryd.underlying43 rfl (by decide) rfl rfl (f, t) rfl Hln.out ((H4.out.alloc _).own 1 rfl) rfl fwEnc_len (fwEnc_cells (f, t) (by simp)) (fwEnc_one _) (by omega) (by omega) (Nat.zero_le _) ?_; intro g3 c3 w5 ho3 hg3 hat3))
        have H5 : Hid (Pool w0 w5 (rdP w0 g (q + 1 + 1) :: ownP 79 2 fwEnc (.slice (some ⟨g3, 0, none⟩) (n + 1) c3) (l ++ [(f, t)]) :: ps)) := (H4.out.alloc (Obj.cells #[.string f, .string t] 79)).append 1 rfl ho3 hg3 (fun q e => by injection e with e; subst e; exact hat3)
        clear ho3 hg3 hat3 H4
        go_roundw
        case rel => exact ⟨j - 1, _, n + 1, c3, l ++ [(f, t)], q + 1 + 1, by omega, by go_num, rfl, by omega, by omega, Hs3, H5.out⟩
        case measure => simp [intOf]; omega
      · go_wp2_with (go_at_call 89; refine (specIndex A l n c Hln.out f _ (by omega) ((H4.out.own 1 rfl).rd fwEnc_len)).mono ?_; rw [Hv.out]; rintro e w4 ⟨rfl, rfl⟩)
        go_roundw
        case rel => exact ⟨j - 1, A, n, c, l, q + 1 + 1, by omega, by go_num, rfl, by omega, by omega, Hs.out, H4.out⟩
        case measure => simp [intOf]; omega
    · obtain rfl : j = 0 := by omega
      go_wp2
      go_ret
      exact ⟨A, n, c, l, rfl, by omega, Hs.out, H.out.rdUp (by omega)⟩

set_option maxHeartbeats 4000000 in
set_option maxRecDepth 100000 in
/-- l4Bad. -/
theorem badFwP {w0 w : World} {ps : List Piece} {g k0 : Nat} (A : Option Addr) (n c : Nat) (l : List Fw) (h : Pool w0 w (rdP w0 g k0 :: ownP 79 2 fwEnc (.slice A n c) l :: ps)) (hk0 : k0 ≤ 800000) (hn : n ≤ 8) (hs : ∀ x ∈ l, x.1.size = 7 ∧ x.2.size = 7) :
    Calls Tryd.prog 88 #[.pointer (some ⟨g, 0, none⟩), .slice A n c] w fun e w' => ∃ A' n' c' l', e = .returned (.slice A' n' c') ∧ n' ≤ 31 ∧ Hid (∀ x ∈ l', x.1.size ≤ 1001 ∧ x.2.size ≤ 1001) ∧ Hid (Pool w0 w' (rdP w0 g (k0 + 2) :: ownP 79 2 fwEnc (.slice A' n' c') l' :: ps)) := by
  have H := Lib.hid h
  have Hs := Lib.hid hs
  have Hs' : Hid (∀ x ∈ l, x.1.size ≤ 1001 ∧ x.2.size ≤ 1001) := fun x hx => by have := hs x hx; omega
  clear h hs
  by_cases h0 : n = 0
  · go_enter Tryd.func88, Tryd.ntmps88
    go_wp2
    go_ret
    exact ⟨A, n, c, l, by first | rfl | (rw [h0]), by omega, Hs'.out, H.out.rdUp (by omega)⟩
  · have hq : ((n : Int) == 0) = false := by simp; omega
    go_enter Tryd.func88, Tryd.ntmps88
    go_wp2_with fail
    refine (pickP H.out 40 (by omega)).mono ?_
    rintro e w1 ⟨v, rfl, hv0, hv1, H1⟩
    obtain ⟨x, r, hxr⟩ : ∃ x r, l = x :: r := by
      cases l with
      | nil => have := (H.out.own 1 rfl).len; simp at this; omega
      | cons x r => exact ⟨x, r, rfl⟩
    subst hxr
    obtain ⟨hx1, hx2⟩ := Hs.out x (by simp)
    obtain ⟨go, rfl, hgo1, hgo2⟩ := (H1.out.own 1 rfl).head (by omega)
    clear H
    by_cases e0 : v = 0
    · subst e0
      obtain ⟨c1, f1⟩ := (H1.out.own 1 rfl).cell2 fwEnc_len (H1.out.own 1 rfl).len (i := 0) (x := x) rfl (j := 1) (by omega)
      rw [show (fwEnc x)[1]? = some (.string x.2) from rfl] at c1
      simp only [Nat.zero_mul, Nat.zero_add] at c1 f1
      have hs2 : (x.2 ++ (⟨#[49]⟩ : Str)).size = 8 := by rw [ByteArray.size_append, hx2]; rfl
      go_wp2_with fail
      refine (badP _ H1.out (by omega) (by rw [hs2]; omega) (by rw [hs2]; omega)).mono ?_
      rintro e w2 ⟨s, rfl, hsz, H2⟩
      clear c1 f1 H1
      obtain ⟨c2, f2⟩ := (H2.out.own 1 rfl).cell2 fwEnc_len (H2.out.own 1 rfl).len (i := 0) (x := x) rfl (j := 1) (by omega)
      rw [show (fwEnc x)[1]? = some (.string x.2) from rfl] at c2
      simp only [Nat.zero_mul, Nat.zero_add] at c2 f2
      have H5 : Hid (Pool w0 (w2.setCell ⟨go, 1, none⟩ (.string s)) (rdP w0 g (k0 + 1 + 1) :: ownP 79 2 fwEnc (.slice (some ⟨go, 0, none⟩) n c) ((x.1, s) :: r) :: ps)) := by
        have := H2.out.turnOwn 1 rfl (fw_second (H2.out.own 1 rfl) s) (grown_setCell (World.grownBy.refl _ _) (.inl rfl) _)
        exact this
      go_wp2
      go_ret
      exact ⟨_, n, c, _, rfl, by omega, (fun y hy => by
        rcases List.mem_cons.1 hy with rfl | hy
        · exact ⟨by show x.1.size ≤ 1001; omega, hsz⟩
        · exact Hs'.out y (List.mem_cons_of_mem _ hy)), H5.out⟩
    · have q0 : (v == 0) = false := by simpa using e0
      by_cases e1 : v = 1
      · subst e1
        obtain ⟨c0, f0⟩ := (H1.out.own 1 rfl).cell2 fwEnc_len (H1.out.own 1 rfl).len (i := 0) (x := x) rfl (j := 0) (by omega)
        obtain ⟨c1, f1⟩ := (H1.out.own 1 rfl).cell2 fwEnc_len (H1.out.own 1 rfl).len (i := 0) (x := x) rfl (j := 1) (by omega)
        rw [show (fwEnc x)[0]? = some (.string x.1) from rfl] at c0
        rw [show (fwEnc x)[1]? = some (.string x.2) from rfl] at c1
        simp only [Nat.zero_mul, Nat.zero_add] at c0 c1 f0 f1
        go_wp2_with (at_builtin; refine wpList_append1L (.tmp 25) (.tmp 29) 43 79 fw_info Tryd.underlying43 rfl (by decide) rfl rfl x rfl (H1.out.own 1 rfl).len ((H1.out.alloc _).own 1 rfl) rfl fwEnc_len (fwEnc_cells x rfl) (fwEnc_one _) (by omega) (by omega) (Nat.zero_le _) ?_; intro g3 c3 w5 ho3 hg3 hat3)
        have H5 : Hid (Pool w0 w5 (rdP w0 g (k0 + 1) :: ownP 79 2 fwEnc (.slice (some ⟨g3, 0, none⟩) (n + 1) c3) (x :: r ++ [x]) :: ps)) := (H1.out.alloc (Obj.cells #[.string x.1, .string x.2] 79)).append 1 rfl ho3 hg3 (fun q e => by injection e with e; subst e; exact hat3)
        clear ho3 hg3 hat3
        go_ret
        exact ⟨_, n + 1, c3, _, rfl, by omega, (fun y hy => by
          rcases List.mem_append.1 hy with hy | hy
          · exact Hs'.out y hy
          · simp at hy; subst hy; exact Hs'.out y (by simp)), H5.out.rdUp (by omega)⟩
      · have q1 : (v == 1) = false := by simpa using e1
        by_cases e2 : v = 2
        · subst e2
          go_wp2
          go_loopw [1] (fun s wr => ∃ (A : Option Addr) (n c : Nat) (l : List Fw), s = .slice A n c ∧ n ≤ 31 ∧ Hid (∀ x ∈ l, x.1.size ≤ 1001 ∧ x.2.size ≤ 1001) ∧ Hid (Pool w0 wr (rdP w0 g (k0 + 1) :: ownP 79 2 fwEnc (.slice A n c) l :: ps))) (fun s _ => 31 - slLen s)
          case atStart => exact ⟨_, n, c, _, rfl, by omega, Hs'.out, H1.out⟩
          case round =>
            clear H1 Hs'
            obtain ⟨A, n, c, l, rfl, hn31, Hs', H⟩ := hrel
            by_cases hlt : n < 31
            · go_wp2_with fail
              refine (showD _ 7 _ (by omega) (by omega) (by omega)).mono ?_
              rintro e w2 ⟨f, rfl, hf, -, hb⟩
              have H2 := Lib.hid (H.out.step hb)
              clear hb H
              go_wp2_with (at_builtin; refine wpList_append1L (.tmp 36) (.tmp 42) 43 79 fw_info Tryd.underlying43 rfl (by decide) rfl rfl (f, (⟨#[49, 50, 48, 48, 49, 48, 48]⟩ : Str)) rfl (H2.out.own 1 rfl).len ((H2.out.alloc _).own 1 rfl) rfl fwEnc_len (fwEnc_cells (f, (⟨#[49, 50, 48, 48, 49, 48, 48]⟩ : Str)) rfl) (fwEnc_one _) (by omega) (by omega) (Nat.zero_le _) ?_; intro g3 c3 w5 ho3 hg3 hat3)
              have H5 : Hid (Pool w0 w5 (rdP w0 g (k0 + 1) :: ownP 79 2 fwEnc (.slice (some ⟨g3, 0, none⟩) (n + 1) c3) (l ++ [(f, (⟨#[49, 50, 48, 48, 49, 48, 48]⟩ : Str))]) :: ps)) := (H2.out.alloc (Obj.cells #[.string f, .string (⟨#[49, 50, 48, 48, 49, 48, 48]⟩ : Str)] 79)).append 1 rfl ho3 hg3 (fun q e => by injection e with e; subst e; exact hat3)
              clear ho3 hg3 hat3
              go_roundw
              case rel => exact ⟨_, n + 1, c3, _, rfl, by omega, (fun y hy => by
                rcases List.mem_append.1 hy with hy | hy
                · exact Hs'.out y hy
                · simp at hy; subst hy; exact ⟨by show f.size ≤ 1001; omega, by show 7 ≤ 1001; omega⟩), H5.out⟩
              case measure => simp [slLen]; omega
            · go_wp2
              go_ret
              exact ⟨A, n, c, l, rfl, hn31, Hs'.out, H.out.rdUp (by omega)⟩
        · have q2 : (v == 2) = false := by simpa using e2
          go_wp2
          go_ret
          exact ⟨_, n, c, _, rfl, by omega, Hs'.out, H1.out.rdUp (by omega)⟩

/-- Orders that were drawn, in memory of their own. -/
def FwsOut (w w' : World) (A : Option Addr) (n c : Nat) (l : List Fw) : Prop := n ≤ 31 ∧ (∀ x ∈ l, x.1.size ≤ 1001 ∧ x.2.size ≤ 1001) ∧ Pool w w' [ownP 79 2 fwEnc (.slice A n c) l]

set_option maxHeartbeats 1000000 in
set_option maxRecDepth 100000 in
theorem drawFormatForwardsC (A : Option Addr) (bs : List UInt8) (n cap : Nat) (hn : n = bs.length) (hc : n ≤ cap) (w : World) (hlen : n ≤ 1048576) (hr : Rd w 1 byEnc A bs) :
    Calls Tryd.prog 26 #[.slice A n cap] w fun e w' => ∃ A' n' c' l, e = .returned (.slice A' n' c') ∧ FwsOut w w' A' n' c' l := by
  have Hn := Lib.hid hn
  have Hr := Lib.hid hr
  clear hn hr
  have K : Hid (∀ (w1 : World) (g : Nat), Hid (Pool w w1 [rdP w g 0]) → Calls Tryd.prog 62 #[.pointer (some ⟨g, 0, none⟩)] w1 fun e w' => ∃ A' n' c' l, e = .returned (.slice A' n' c') ∧ FwsOut w w' A' n' c' l) := fun w1 g H => by
    go_enter Tryd.func62, Tryd.ntmps62
    go_wp2_with fail
    refine (someFwD H.out (by omega)).mono ?_
    rintro e w2 ⟨A2, n2, c2, l2, rfl, hn2, Hok, H2⟩
    go_wp2_with fail
    refine (badFwP A2 n2 c2 l2 H2.out (by omega) hn2 (fun x hx => by have := fws_codes Hok.out hx; exact ⟨codeOk_size this.1, codeOk_size this.2⟩)).mono ?_
    rintro e w3 ⟨A3, n3, c3, l3, rfl, hn3, Hs3, H3⟩
    clear H2 H
    go_wp2
    go_ret
    exact ⟨A3, n3, c3, l3, rfl, hn3, Hs3.out, H3.out.drop 0⟩
  go_enter Tryd.func26, Tryd.ntmps26
  go_wp2_with fail
  refine (openP A bs n cap Hn.out hc _ hlen Hr.out).mono ?_
  rintro e w1 ⟨g, rfl, H1⟩
  go_wp2_with fail
  refine (K.out _ _ H1).mono ?_
  rintro e w2 ⟨A2, n2, c2, l2, rfl, hO⟩
  have HO := Lib.hid hO
  clear hO H1
  go_wp2
  go_ret
  exact ⟨A2, n2, c2, l2, rfl, HO.out⟩

set_option maxHeartbeats 2000000 in
set_option maxRecDepth 100000 in
theorem drawParseForwardsC (A : Option Addr) (bs : List UInt8) (n cap : Nat) (hn : n = bs.length) (hc : n ≤ cap) (w : World) (hlen : n ≤ 1048576) (hr : Rd w 1 byEnc A bs) :
    Calls Tryd.prog 32 #[.slice A n cap] w fun e w' => ∃ s : Str, e = .returned (.string s) ∧ s.size ≤ 1000 ∧ Below w.heap.size w w' := by
  have Hn := Lib.hid hn
  have Hr := Lib.hid hr
  clear hn hr
  go_enter Tryd.func32, Tryd.ntmps32
  go_wp2_with fail
  refine (openP A bs n cap Hn.out hc _ hlen Hr.out).mono ?_
  rintro e w1 ⟨g, rfl, H1⟩
  go_wp2_with fail
  refine (someFwD H1.out (by omega)).mono ?_
  rintro e w2 ⟨A2, n2, c2, l2, rfl, hn2, Hok, H2⟩
  have hln := (H2.out.own 1 rfl).len
  obtain ⟨G, hG⟩ : ∃ G, fmtOf l2 = G := ⟨_, rfl⟩
  have hGz := fmtOf_bd Hok.out (by omega)
  rw [hG] at hGz
  have Hln := Lib.hid hln
  have HG := Lib.hid hG
  clear H1 hG hln
  go_wp2_with fail
  refine (specFormat A2 l2 n2 c2 Hln.out _ (by omega) (fun x hx => by have := fws_codes Hok.out hx; have h1 := codeOk_size this.1; have h2 := codeOk_size this.2; omega) ((H2.out.own 1 rfl).rd fwEnc_len)).mono ?_
  rw [HG.out]
  rintro e w3 ⟨rfl, hb⟩
  have H3 := Lib.hid ((H2.out.step hb).drop 1)
  clear hb H2
  go_wp2_with fail
  refine (pickP H3.out 2 (by omega)).mono ?_
  rintro e w4 ⟨v, rfl, hv0, hv1, H4⟩
  clear H3
  by_cases h0 : v = 0
  · subst h0
    go_wp2
    go_ret
    exact ⟨G, rfl, by omega, H4.out.below⟩
  · have hq : (v == 0) = false := by simpa using h0
    clear h0 hv0 hv1
    go_wp2_with fail
    refine (pickP H4.out (G.size : Int) (by omega)).mono ?_
    rintro e w6 ⟨a, rfl, ha0, ha1, H6⟩
    clear H4
    obtain ⟨i, rfl⟩ := Int.eq_ofNat_of_zero_le ha0
    have hiz : (i : Int) < (G.size : Int) := by omega
    clear ha0 ha1
    go_upto_region 6 with fail
    have HW := Lib.hid H6.out.drew1
    have hi0 : (0 : Int) ≤ (i : Int) := by omega
    have hi1 : (i : Int) ≤ (G.size : Int) := by omega
    obtain ⟨E, hE⟩ : ∃ E, G.extract 0 i = E := ⟨_, rfl⟩
    have hEz : E.size ≤ 200 := by rw [← hE, ByteArray.size_extract]; omega
    go_region_held3 (fun _ => True) (first | trivial | fail)
      (first
        | (go_at_call 52; refine (ofP [(⟨#[]⟩ : Str), (⟨#[48]⟩ : Str), (⟨#[32]⟩ : Str), (⟨#[62]⟩ : Str), (⟨#[45]⟩ : Str), (⟨#[120]⟩ : Str)] 6 6 _ _ HW.out rfl rfl (by decide) (by decide) (by omega)).mono ?_; rintro e w7 ⟨x, rfl, hx, H7⟩; have hxz : x.size ≤ 1 := str_oneF hx; have hxs : ¬ 9223372036854775807 < E.size + x.size := (by omega); clear hx)
        | (go_at_call 51; refine (pickP H7.out 2 (by omega)).mono ?_; rintro e w8 ⟨u, rfl, hu0, hu1, H8⟩; obtain ⟨j, rfl⟩ := Int.eq_ofNat_of_zero_le hu0; have hj0 : (0 : Int) ≤ (i : Int) + (j : Int) := (by omega); have hj1 : (i : Int) + (j : Int) ≤ (G.size : Int) := (by omega); have hjw : IntKind.i64.wrap ((i : Int) + (j : Int)) = (i : Int) + (j : Int) := (by rw [IntKind.wrap_i64]; omega); have hjt : ((i : Int) + (j : Int)).toNat = i + j := (by omega); obtain ⟨E2, hE2⟩ : ∃ E2, G.extract (i + j) G.size = E2 := ⟨_, rfl⟩; have hE2z : E2.size ≤ 200 := (by rw [← hE2, ByteArray.size_extract]; omega); have hxs2 : ¬ 9223372036854775807 < E.size + x.size + E2.size := (by omega))
        | fail)
    all_goals
      clear hjw hjt hE hE2
      go_wp2
      go_ret
      exact ⟨_, rfl, by simp only [ByteArray.size_append]; omega, H8.out.below⟩
end Go.Proofs.YtjibjoapbjojlaaDoor
