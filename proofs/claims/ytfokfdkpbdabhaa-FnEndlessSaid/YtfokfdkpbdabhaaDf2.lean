/-
  What the reference draws for orders: sometimes not valid; the draws of the laws.
-/
import Derived.Test.YtfokfdkpbdabhaaDf1
namespace Go.Proofs.Ytfokfdkpbdabhaa
open Go.RowKit

/-- From block base on anything may be new; below it only block g. -/
structure Gb (base g : Nat) (w w' : World) : Prop where
  os : w'.os = w.os
  tape : w'.tape = w.tape
  output : w'.output = w.output
  size : w.heap.size ≤ w'.heap.size
  block : ∀ k, k < base → k ≠ g → w'.heap[k]? = w.heap[k]?
theorem Gb.refl (base g : Nat) (w : World) : Gb base g w w := ⟨rfl, rfl, rfl, Nat.le_refl _, fun _ _ _ => rfl⟩
theorem Gb.of_grown {base g : Nat} {w a b : World} (h : Gb base g w a) (hg : a.grownBy b (some g)) (hb : base ≤ a.heap.size) : Gb base g w b :=
  ⟨hg.os.trans h.os, hg.tape.trans h.tape, hg.output.trans h.output, Nat.le_trans h.size hg.size, fun k hk hne => (hg.block k (by omega) (by intro e; injection e with e; exact hne e)).trans (h.block k hk hne)⟩
theorem Gb.of_row {base g : Nat} {w a b : World} {row : Option Nat} (h : Gb base g w a) (hg : a.grownBy b row) (ho : ∀ k, row = some k → base ≤ k) (hb : base ≤ a.heap.size) : Gb base g w b :=
  ⟨hg.os.trans h.os, hg.tape.trans h.tape, hg.output.trans h.output, Nat.le_trans h.size hg.size, fun k hk hne => (hg.block k (by omega) (by intro e; have := ho k e.symm; omega)).trans (h.block k hk hne)⟩
theorem Gb.to_grown {g : Nat} {w a b : World} (h : w.grownBy a (some g)) (hb : Gb w.heap.size g a b) : w.grownBy b (some g) :=
  ⟨hb.os.trans h.os, hb.tape.trans h.tape, hb.output.trans h.output, Nat.le_trans h.size hb.size, fun k hk hne => (hb.block k hk (by intro e; exact hne (by rw [e]))).trans (h.block k hk hne)⟩
def slLen : Value → Nat
  | .slice _ n _ => n
  | _ => 0

theorem own_second {w : World} {base g n c : Nat} {x : Fw} {r : List Fw} (h : Own w base 34 2 fwEnc (.slice (some ⟨g, 0, none⟩) n c) (x :: r)) (s : Str) : Own (w.setCell ⟨g, 1, none⟩ (.string s)) base 34 2 fwEnc (.slice (some ⟨g, 0, none⟩) n c) ((x.1, s) :: r) := by
  have hn := h.len
  have hr : w.ownsRow base 34 2 (.slice (some ⟨g, 0, none⟩) n c) n ((x :: r).flatMap fwEnc) := by
    have := h; unfold Own at this; rw [← hn] at this; exact this
  have h2 := (World.ownsRow.stored hr 1 (.string s)).1
  unfold Own
  rw [show ((x.1, s) :: r).length = n from hn.symm ▸ rfl]
  exact h2

set_option maxHeartbeats 2000000 in
set_option maxRecDepth 100000 in
theorem badFwC (B g p base n c : Nat) (A : Option Addr) (l : List Fw) (w : World) (h : Rdr w B g p) (hp : p ≤ 850000) (ho : Own w base 34 2 fwEnc (.slice A n c) l) (hgb : g < base) (hbw : base ≤ w.heap.size) (hn : n ≤ 8) (hs : ∀ x ∈ l, x.1.size = 7 ∧ x.2.size = 7) :
    Calls Try.prog 98 #[.pointer (some ⟨g, 0, none⟩), .slice A n c] w fun e w' => ∃ A' n' c' l', e = .returned (.slice A' n' c') ∧ Own w' base 34 2 fwEnc (.slice A' n' c') l' ∧ n' ≤ 31 ∧ (∀ x ∈ l', (1 ≤ x.1.size ∧ x.1.size ≤ 1001) ∧ x.2.size ≤ 1001) ∧ (∃ p', p' ≤ p + 2 ∧ Rdr w' B g p') ∧ Gb base g w w' := by
  have H := Lib.hid h
  have Ho := Lib.hid ho
  have Hs := Lib.hid hs
  have Hs' : Hid (∀ x ∈ l, (1 ≤ x.1.size ∧ x.1.size ≤ 1001) ∧ x.2.size ≤ 1001) := fun x hx => by have := hs x hx; omega
  clear h ho hs
  by_cases h0 : n = 0
  · go_enter Try.func98, Try.ntmps98
    go_wp2
    go_ret
    exact ⟨A, n, c, l, by first | rfl | (rw [h0]), Ho.out, by omega, Hs'.out, ⟨p, by omega, H.out⟩, Gb.refl _ _ _⟩
  · have hq : ((n : Int) == 0) = false := by simp; omega
    go_enter Try.func98, Try.ntmps98
    go_wp2_with fail
    refine (pickC B g p _ _ H.out (by omega)).mono ?_
    rintro e w1 ⟨v, rfl, hv0, hv1, hr1, hg1⟩
    have R1 := Lib.hid hr1
    have O1 := Lib.hid (own_apart Ho.out hg1 hgb)
    have G1 := Lib.hid ((Gb.refl base g w).of_grown hg1 hbw)
    have hb1 : base ≤ w1.heap.size := by have := hg1.size; omega
    clear hr1 hg1
    obtain ⟨x, r, hxr⟩ : ∃ x r, l = x :: r := by
      cases l with
      | nil => have := Ho.out.len; simp at this; omega
      | cons x r => exact ⟨x, r, rfl⟩
    subst hxr
    obtain ⟨hx1, hx2⟩ := Hs.out x (by simp)
    obtain ⟨go, rfl, hgo1, hgo2⟩ := O1.out.head (by omega)
    by_cases e0 : v = 0
    · subst e0
      obtain ⟨c1, f1⟩ := O1.out.cell2 fwEnc_len O1.out.len (i := 0) (x := x) rfl (j := 1) (by omega)
      rw [show (fwEnc x)[1]? = some (.string x.2) from rfl] at c1
      simp only [Nat.zero_mul, Nat.zero_add] at c1 f1
      have hs2 : (x.2 ++ (⟨#[49]⟩ : Str)).size = 8 := by rw [ByteArray.size_append, hx2]; rfl
      go_wp2_with fail
      refine (badC B g (p + 1) _ _ R1.out (by omega) (by rw [hs2]; omega) (by rw [hs2]; omega)).mono ?_
      rintro e w2 ⟨s, rfl, hsz, hd⟩
      obtain ⟨p2, hp2, hr2⟩ := hd.rd
      have R2 := Lib.hid hr2
      have O2 := Lib.hid (own_apart O1.out hd.gr hgb)
      have G2 := Lib.hid (G1.out.of_grown hd.gr hb1)
      have hb2 : base ≤ w2.heap.size := by have := hd.gr.size; omega
      obtain ⟨c2, f2⟩ := O2.out.cell2 fwEnc_len O2.out.len (i := 0) (x := x) rfl (j := 1) (by omega)
      rw [show (fwEnc x)[1]? = some (.string x.2) from rfl] at c2
      simp only [Nat.zero_mul, Nat.zero_add] at c2 f2
      have hgs : w2.grownBy (w2.setCell ⟨go, 1, none⟩ (.string s)) (some go) := grown_setCell (World.grownBy.refl _ _) (.inl rfl) _
      have R3 := Lib.hid (R2.out.far hgs (fun k e => by injection e with e; omega))
      have G3 := Lib.hid (G2.out.of_row hgs (fun k e => by injection e with e; omega) hb2)
      have O3 := Lib.hid (own_second O2.out s)
      clear hd hr2 hgs c1 f1
      go_wp2
      go_ret
      exact ⟨_, n, c, (x.1, s) :: r, rfl, O3.out, by omega, (fun y hy => by
        rcases List.mem_cons.1 hy with rfl | hy
        · exact ⟨by show 1 ≤ x.1.size ∧ x.1.size ≤ 1001; omega, hsz⟩
        · exact Hs'.out y (List.mem_cons_of_mem _ hy)), ⟨p2, by omega, R3.out⟩, G3.out⟩
    · have q0 : (v == 0) = false := by simpa using e0
      by_cases e1 : v = 1
      · subst e1
        obtain ⟨c0, f0⟩ := O1.out.cell2 fwEnc_len O1.out.len (i := 0) (x := x) rfl (j := 0) (by omega)
        obtain ⟨c1, f1⟩ := O1.out.cell2 fwEnc_len O1.out.len (i := 0) (x := x) rfl (j := 1) (by omega)
        rw [show (fwEnc x)[0]? = some (.string x.1) from rfl] at c0
        rw [show (fwEnc x)[1]? = some (.string x.2) from rfl] at c1
        simp only [Nat.zero_mul, Nat.zero_add] at c0 c1 f0 f1
        go_wp2_with (at_builtin; refine wpList_append1L (.tmp 25) (.tmp 29) 27 34 fw_info Try.underlying27 rfl (by decide) rfl rfl x rfl O1.out.len (O1.out.alloc _) rfl fwEnc_len (fwEnc_cells x rfl) (fwEnc_one _) (by omega) (by omega) (by simp; omega) ?_; intro g3 c3 w5 ho3 hg3 hat3)
        have hbC := (Below.refl w1.heap.size w1).alloc (Nat.le_refl _) (Obj.cells #[.string x.1, .string x.2] 34)
        have hlo : ∀ k, (Value.slice (some ⟨go, 0, none⟩) n c).ownBlock = some k → base ≤ k := fun k e => (O1.out.lt k e).1
        have R5 := Lib.hid ((R1.out.below hbC).far hg3 (fun k e => by have := hlo k e; omega))
        have G5 := Lib.hid (((G1.out.of_row (row := none) (below_grown hbC none) (fun k e => by cases e) hb1)).of_row hg3 hlo (by simp; omega))
        go_ret
        exact ⟨_, n + 1, c3, _, rfl, ho3, by omega, (fun y hy => by
          rcases List.mem_append.1 hy with hy | hy
          · exact Hs'.out y hy
          · simp at hy; subst hy; exact Hs'.out y (by simp)), ⟨p + 1, by omega, R5.out⟩, G5.out⟩
      · have q1 : (v == 1) = false := by simpa using e1
        by_cases e2 : v = 2
        · subst e2
          go_wp2
          go_loopw [1] (fun s wr => ∃ (A : Option Addr) (n c : Nat) (l : List Fw), s = .slice A n c ∧ n ≤ 31 ∧ base ≤ wr.heap.size ∧ Hid (Own wr base 34 2 fwEnc (.slice A n c) l) ∧ Hid (∀ x ∈ l, (1 ≤ x.1.size ∧ x.1.size ≤ 1001) ∧ x.2.size ≤ 1001) ∧ Hid (Rdr wr B g (p + 1)) ∧ Hid (Gb base g w wr)) (fun s _ => 31 - slLen s)
          case atStart => exact ⟨_, n, c, _, rfl, by omega, hb1, O1.out, Hs'.out, R1.out, G1.out⟩
          case round =>
            clear R1 O1 G1 Hs'
            obtain ⟨A, n, c, l, rfl, hn31, hbr, Ho, Hs', R, G⟩ := hrel
            by_cases hlt : n < 31
            · go_wp2_with fail
              refine (showC _ 7 _ (by omega) (by omega) (by omega)).mono ?_
              rintro e w2 ⟨f, rfl, hf, hb⟩
              have O2 := Lib.hid (Ho.out.below hb)
              have R2 := Lib.hid (R.out.below hb)
              have G2 := Lib.hid (G.out.of_row (row := none) (below_grown hb none) (fun k e => by cases e) hbr)
              have hbr2 : base ≤ w2.heap.size := by have := hb.size; omega
              clear hb
              go_wp2_with (at_builtin; refine wpList_append1L (.tmp 36) (.tmp 42) 27 34 fw_info Try.underlying27 rfl (by decide) rfl rfl (f, (⟨#[49, 50, 48, 48, 49, 48, 48]⟩ : Str)) rfl O2.out.len (O2.out.alloc _) rfl fwEnc_len (fwEnc_cells (f, (⟨#[49, 50, 48, 48, 49, 48, 48]⟩ : Str)) rfl) (fwEnc_one _) (by omega) (by omega) (by simp; omega) ?_; intro g3 c3 w5 ho3 hg3 hat3)
              have hbC := (Below.refl w2.heap.size w2).alloc (Nat.le_refl _) (Obj.cells #[.string f, .string (⟨#[49, 50, 48, 48, 49, 48, 48]⟩ : Str)] 34)
              have hlo : ∀ k, (Value.slice A n c).ownBlock = some k → base ≤ k := fun k e => (O2.out.lt k e).1
              have R5 := Lib.hid ((R2.out.below hbC).far hg3 (fun k e => by have := hlo k e; omega))
              have G5 := Lib.hid (((G2.out.of_row (row := none) (below_grown hbC none) (fun k e => by cases e) hbr2)).of_row hg3 hlo (by simp; omega))
              have hz5 : base ≤ w5.heap.size := by have := hg3.size; simp at this; omega
              have O5 := Lib.hid ho3
              clear ho3 hg3 hat3
              go_roundw
              case rel => exact ⟨_, n + 1, c3, _, rfl, by omega, hz5, O5.out, (fun y hy => by
                rcases List.mem_append.1 hy with hy | hy
                · exact Hs'.out y hy
                · simp at hy; subst hy; exact ⟨by show 1 ≤ f.size ∧ f.size ≤ 1001; omega, by show 7 ≤ 1001; omega⟩), R5.out, G5.out⟩
              case measure => simp [slLen]; omega
            · go_wp2
              go_ret
              exact ⟨A, n, c, l, rfl, Ho.out, hn31, Hs'.out, ⟨p + 1, by omega, R.out⟩, G.out⟩
        · have q2 : (v == 2) = false := by simpa using e2
          go_wp2
          go_ret
          exact ⟨_, n, c, _, rfl, O1.out, by omega, Hs'.out, ⟨p + 1, by omega, R1.out⟩, G1.out⟩

/-- Orders that were drawn: a list of their own, its bounds. -/
structure FwOut (w w' : World) (A : Option Addr) (n c : Nat) (l : List Fw) : Prop where
  own : Own w' w.heap.size 34 2 fwEnc (.slice A n c) l
  len : n ≤ 31
  small : ∀ x ∈ l, x.1.size ≤ 1048576 ∧ x.2.size ≤ 1048576
theorem FwOut.below {w a b : World} {A : Option Addr} {n c : Nat} {l : List Fw} (h : FwOut w a A n c l) (hb : Below a.heap.size a b) : FwOut w b A n c l := ⟨h.own.below hb, h.len, h.small⟩
theorem FwOut.moved {w a b : World} {A : Option Addr} {n c g : Nat} {l : List Fw} (h : FwOut w a A n c l) (hg : a.grownBy b (some g)) (hgw : g < w.heap.size) : FwOut w b A n c l := ⟨own_apart h.own hg hgw, h.len, h.small⟩

set_option maxHeartbeats 1000000 in
set_option maxRecDepth 100000 in
theorem openFwC (B g p : Nat) (w : World) (h : Rdr w B g p) (hp : p ≤ 800000) :
    Calls Try.prog 67 #[.pointer (some ⟨g, 0, none⟩)] w fun e w' => ∃ A n c l, e = .returned (.slice A n c) ∧ FwOut w w' A n c l ∧ (∃ p', p' ≤ p + 30 ∧ Rdr w' B g p') ∧ w.grownBy w' (some g) := by
  have hgw := h.lt
  have H := Lib.hid h
  clear h
  go_enter Try.func67, Try.ntmps67
  go_wp2_with fail
  refine (someC B g p _ H.out (by omega)).mono ?_
  rintro e w1 ⟨A, n, c, l, rfl, hn, hs, hd⟩
  obtain ⟨p1, hp1, hr1⟩ := hd.rd
  have hz := hd.gr.size
  have Hd := Lib.hid hd
  clear hd
  go_wp2_with fail
  refine (badFwC B g p1 w.heap.size n c A l _ hr1 (by omega) Hd.out.own hgw (by omega) hn hs).mono ?_
  rintro e w2 ⟨A2, n2, c2, l2, rfl, ho2, hn2, hs2, ⟨p2, hp2, hr2⟩, hg2⟩
  have HO : Hid (FwOut w w2 A2 n2 c2 l2) := ⟨ho2, hn2, fun x hx => by have := hs2 x hx; omega⟩
  have HR := Lib.hid hr2
  have HG := Lib.hid (Gb.to_grown Hd.out.gr hg2)
  clear hr1 ho2 hs2 hr2 hg2
  go_wp2
  go_ret
  exact ⟨A2, n2, c2, l2, rfl, HO.out, ⟨p2, by omega, HR.out⟩, HG.out⟩

set_option maxHeartbeats 1000000 in
set_option maxRecDepth 100000 in
theorem drawNextC (A : Option Addr) (bs : List UInt8) (n cap : Nat) (hn : n = bs.length) (hc : n ≤ cap) (w : World) (hlen : n ≤ 1048576) (hr : Rd w 1 byEnc A bs) :
    Calls Try.prog 24 #[.slice A n cap] w fun e w' => ∃ A' n' c' l, ∃ s : Str, e = .returned (.tuple #[.slice A' n' c', .string s]) ∧ FwOut w w' A' n' c' l ∧ s.size ≤ 1048576 ∧ Below w.heap.size w w' := by
  have Hn := Lib.hid hn
  have Hr := Lib.hid hr
  clear hn hr
  go_enter Try.func24, Try.ntmps24
  go_wp2_with fail
  refine (openC A bs n cap Hn.out hc _ hlen Hr.out).mono ?_
  rintro e w1 ⟨rfl, hr1, hb1⟩
  have hgw := hr1.lt
  have hz1 := hb1.size
  have H1 := Lib.hid hb1
  go_wp2_with fail
  refine (openFwC _ _ 0 _ hr1 (by omega)).mono ?_
  rintro e w2 ⟨A2, n2, c2, l2, rfl, ho, ⟨p2, hp2, hr2⟩, hg2⟩
  have hz2 := hg2.size
  have O2 := Lib.hid ho
  have B2 := Lib.hid (grown_below_g H1.out hg2 (Nat.le_refl _))
  have R2 := Lib.hid hr2
  clear hr1 hb1 ho hr2 hg2
  go_wp2_with fail
  refine (codeC _ _ p2 _ R2.out (by omega)).mono ?_
  rintro e w3 ⟨s, rfl, hs, hd⟩
  obtain ⟨p3, hp3, hr3⟩ := hd.rd
  have O3 := Lib.hid (O2.out.moved hd.gr hgw)
  have B3 := Lib.hid (grown_below_g B2.out hd.gr (Nat.le_refl _))
  clear hd
  go_wp2_with fail
  refine (badC _ _ p3 s _ hr3 (by omega) (by omega) (by omega)).mono ?_
  rintro e w4 ⟨t, rfl, ht, hd⟩
  have O4 := Lib.hid (O3.out.moved hd.gr hgw)
  have B4 := Lib.hid (grown_below_g B3.out hd.gr (Nat.le_refl _))
  clear hd hr3
  go_wp2
  go_ret2
  exact ⟨A2, n2, c2, l2, t, rfl, ⟨O4.out.own.lower hz1, O4.out.len, O4.out.small⟩, by omega, B4.out⟩
end Go.Proofs.Ytfokfdkpbdabhaa
