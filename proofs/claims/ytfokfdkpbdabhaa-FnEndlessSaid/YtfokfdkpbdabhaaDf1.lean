/-
  What the reference draws for orders: lists of orders.
-/
import Derived.Test.YtfokfdkpbdabhaaDf0
namespace Go.Proofs.Ytfokfdkpbdabhaa
open Go.RowKit

theorem own_push {α : Type} {w : World} {base : Nat} {e : TypeId} {size : Nat} {enc : α → List Value} {v : Value} {l : List α} {k : Nat} {x : α} (h : w.ownsRow base e size v (k + 1) (l.flatMap enc ++ enc x)) (hk : k = l.length) : Own w base e size enc v (l ++ [x]) := by
  subst hk; exact Own.of_append h
theorem own_apart {α : Type} {w w' : World} {base g' : Nat} {e : TypeId} {size : Nat} {enc : α → List Value} {v : Value} {l : List α} (h : Own w base e size enc v l) (hg : w.grownBy w' (some g')) (hne : g' < base) : Own w' base e size enc v l := by
  refine h.grown hg ?_
  cases hv : v.ownBlock with
  | none => exact .inl rfl
  | some k => exact .inr (by intro e; injection e with e; have := (h.lt k hv).1; omega)
/-- append of one element. -/
theorem wpList_append1L {P : Program} {α : Type} {w : World} {ops : Array Oper} {rest : List Oper} {o : Oper} {a : Act} {Q : Exit → Act → World → Prop} {enc : α → List Value} (s x : Operand) (t e : TypeId) {z : Value} {size bytes : Nat}
    (hinfo : (P.info? e).map (fun i => (i.zero, i.size, i.bytes)) = some (some z, size, bytes)) (ht : P.underlying t = some (.slice e)) (hzs : z.cells.size = size) (hsz : 0 < size)
    (hgd : o.guard = none) (ho : o.op = .call { callee := .builtin .append, args := #[s, x], argTypes := #[t, t] })
    {base k : Nat} {v : Value} {l : List α} (y : α) (hs : a.eval s = v) (hk : k = l.length) (hown : Own w base e size enc v l) {ad : Addr} {c : Nat} (hx : a.eval x = .slice (some ad) 1 c) (henc : ∀ x, (enc x).length = size)
    (hy : ∀ j u, (enc y)[j]? = some u → w.cell? (ad.add j) = some u) (h1 : ∀ u ∈ enc y, u.oneCell' = true) (hl : (k + 1) * bytes ≤ 140737488355328) (h63 : k + 1 ≤ 9223372036854775807) (hbase : base ≤ w.heap.size)
    (h : ∀ g c' w', Own w' base e size enc (.slice (some ⟨g, 0, none⟩) (k + 1) c') (l ++ [y]) → w.grownBy w' v.ownBlock → (v.ownBlock = some g ∨ w.heap.size ≤ g) → wpList P ops Q rest (a.put o.dst (.slice (some ⟨g, 0, none⟩) (k + 1) c')) w') : wpList P ops Q (o :: rest) a w := by
  subst hk
  obtain ⟨i0, hi, hz0, hz1, hz2⟩ := info_parts hinfo
  refine wpList_append_lies w hgd s x t ho base e i0 z size bytes ht hi hz0 hz1 hz2 hzs hsz v l.length (l.flatMap enc) hs hown ad 1 c (enc y) hx (by rw [henc, Nat.one_mul]) hy h1 (by omega) (by unfold maxLen; omega) hl hbase _ rfl ?_
  intro g cap w' hown' hg' hat hlt
  exact h g cap w' (own_push hown' rfl) hg' (by rcases hat with h' | h'; exact .inl h'; exact .inr (by omega))

theorem grown_new {w a b : World} {g : Nat} {row : Option Nat} (h : w.grownBy a (some g)) (hg : a.grownBy b row) (ho : ∀ k, row = some k → w.heap.size ≤ k) : w.grownBy b (some g) :=
  ⟨hg.os.trans h.os, hg.tape.trans h.tape, hg.output.trans h.output, Nat.le_trans h.size hg.size, fun k hk hne => (hg.block k (by have := h.size; omega) (by intro e; have := ho k e.symm; omega)).trans (h.block k hk hne)⟩
theorem Rdr.far {a b : World} {B g p : Nat} {row : Option Nat} (h : Rdr a B g p) (hg : a.grownBy b row) (hne : ∀ k, row = some k → g < k) : Rdr b B g p := by
  obtain ⟨ho, A, n, cap, bs, hh, hn, h2, hr, ha⟩ := h
  refine ⟨ho, A, n, cap, bs, ?_, hn, h2, ?_, ha⟩
  · rw [hg.block g (Array.getElem?_eq_some_iff.1 hh).1 (by intro e; have := hne g e.symm; omega)]; exact hh
  · by_cases h0 : 0 < n
    · exact hr.grown hg (fun ad e => by intro e'; have := hne _ e'.symm; have := ha ad e h0; omega)
    · exact fun hl => absurd hl (by omega)
theorem Rdr.lt {w : World} {B g p : Nat} (h : Rdr w B g p) : g < w.heap.size := by
  obtain ⟨-, A, n, cap, bs, hh, -⟩ := h; exact (Array.getElem?_eq_some_iff.1 hh).1

/-- A list of orders that was drawn: its own memory, its bounds; the reader has moved. -/
structure FwDr (w : World) (B g p k base : Nat) (w' : World) (A : Option Addr) (n c : Nat) (l : List Fw) : Prop where
  own : Own w' base 34 2 fwEnc (.slice A n c) l
  len : n ≤ 31
  small : ∀ x ∈ l, (1 ≤ x.1.size ∧ x.1.size ≤ 1001) ∧ x.2.size ≤ 1001
  rd : ∃ p', p' ≤ p + k ∧ Rdr w' B g p'
  gr : w.grownBy w' (some g)

set_option maxHeartbeats 2000000 in
set_option maxRecDepth 100000 in
theorem someC (B g p : Nat) (w : World) (h : Rdr w B g p) (hp : p ≤ 800000) :
    Calls Try.prog 99 #[.pointer (some ⟨g, 0, none⟩)] w fun e w' => ∃ A n c l, e = .returned (.slice A n c) ∧ n ≤ 8 ∧ (∀ x ∈ l, x.1.size = 7 ∧ x.2.size = 7) ∧ FwDr w B g p 20 w.heap.size w' A n c l := by
  have hgw := h.lt
  have H := Lib.hid h
  have hb1 : Below w.heap.size w (w.alloc (.cells #[] 34)) := (Below.refl _ _).alloc (Nat.le_refl _) _
  have O1 := Lib.hid (Own.lit0 w 34 2 fwEnc)
  have H1 := Lib.hid (h.below hb1)
  have hbA := fun o => (Below.refl (w.alloc (.cells #[] 34)).heap.size (w.alloc (.cells #[] 34))).alloc (Nat.le_refl _) o
  clear h
  go_enter Try.func99, Try.ntmps99
  go_wp2_with fail
  refine (numC B g p _ [4, 3, 6, 2, 8, 0] 6 _ rfl (by decide) _ (H1.out.below (hbA _)) (by omega) (by decide) (rd_ints [4, 3, 6, 2, 8, 0] (w.alloc (.cells #[] 34)) _ (by simp)) (fun ad e => by injection e with e; subst e; show w.heap.size + 1 ≠ g; omega)).mono ?_
  rintro e w1 ⟨x, rfl, hx, hd⟩
  have hx' : 0 ≤ x ∧ x ≤ 8 := by simp at hx; omega
  obtain ⟨n0, rfl⟩ := Int.eq_ofNat_of_zero_le hx'.1
  have hn0 : n0 ≤ 8 := by omega
  obtain ⟨p1, hp1, hr1⟩ := hd.rd
  have R1 := Lib.hid hr1
  have G1 : Hid (w.grownBy w1 (some g)) := grown_trans (below_grown (below_step hb1 (hbA _)) _) hd.gr
  have P1 := Lib.hid (own_apart (O1.out.below (hbA _)) hd.gr hgw)
  clear hd hr1 hx hx' hb1 hbA
  go_wp2_with fail
  go_loopw [3, 4] (fun s i wr => ∃ (j : Nat) (A : Option Addr) (n c : Nat) (l : List Fw) (q : Nat), j ≤ n0 ∧ i = .int .i64 j ∧ s = .slice A n c ∧ n + j ≤ n0 ∧ q + 2 * j ≤ p + 1 + 2 * n0 ∧ Hid (Own wr w.heap.size 34 2 fwEnc (.slice A n c) l) ∧ Hid (∀ x ∈ l, x.1.size = 7 ∧ x.2.size = 7) ∧ Hid (Rdr wr B g q) ∧ Hid (w.grownBy wr (some g))) (fun _ i _ => (intOf i).toNat)
  case atStart => exact ⟨n0, _, 0, 0, [], p1, Nat.le_refl _, rfl, rfl, by omega, by omega, P1.out, (fun x hx => by cases hx), R1.out, G1.out⟩
  case round =>
    clear R1 G1 P1
    obtain ⟨j, A, n, c, l, q, hj, rfl, rfl, hn, hq, Ho, Hs, R, G⟩ := hrel
    by_cases hlt : 0 < j
    · go_wp2_with fail
      refine (codeC B g q _ R.out (by omega)).mono ?_
      rintro e w2 ⟨f, rfl, hf, hd⟩
      obtain ⟨q2, hq2, hr2⟩ := hd.rd
      have R2 := Lib.hid hr2
      have G2 := Lib.hid (grown_trans G.out hd.gr)
      have O2 := Lib.hid (own_apart Ho.out hd.gr hgw)
      clear hd hr2
      go_wp2_with fail
      refine (codeC B g q2 _ R2.out (by omega)).mono ?_
      rintro e w3 ⟨t, rfl, ht, hd⟩
      obtain ⟨q3, hq3, hr3⟩ := hd.rd
      have R3 := Lib.hid hr3
      have G3 := Lib.hid (grown_trans G2.out hd.gr)
      have O3 := Lib.hid (own_apart O2.out hd.gr hgw)
      clear hd hr3
      have hbB := (Below.refl w3.heap.size w3).alloc (Nat.le_refl _) (Obj.cells #[.string f, .string t] 34)
      have O4 := Lib.hid (O3.out.below hbB)
      have R4 := Lib.hid (R3.out.below hbB)
      have G4 := Lib.hid (grown_of_below G3.out hbB)
      have hz3 : w.heap.size ≤ w3.heap.size := G3.out.size
      obtain ⟨v, hv⟩ : ∃ v, idxInt (fwIdx l f) = v := ⟨_, rfl⟩
      have Hv := Lib.hid hv
      clear hv
      by_cases hv0 : v < 0
      · go_wp2_with (first
          | (go_at_call 71; refine (specIndex A l n c O4.out.len f _ (by omega) (O4.out.rd fwEnc_len)).mono ?_; rw [Hv.out]; rintro e w4 ⟨rfl, rfl⟩)
          | (at_builtin; refine wpList_append1L (.tmp 24) (.tmp 26) 27 34 fw_info Try.underlying27 rfl (by decide) rfl rfl (f, t) rfl O4.out.len (O4.out.alloc _) rfl fwEnc_len (fwEnc_cells (f, t) (by simp)) (fwEnc_one _) (by omega) (by omega) (by simp; omega) ?_; intro g3 c3 w5 ho3 hg3 hat3))
        have hlo : ∀ k, (Value.slice A n c).ownBlock = some k → w.heap.size ≤ k := fun k e => (O4.out.lt k e).1
        have hbC := (Below.refl (w3.alloc (Obj.cells #[.string f, .string t] 34)).heap.size (w3.alloc (Obj.cells #[.string f, .string t] 34))).alloc (Nat.le_refl _) (Obj.cells #[.string f, .string t] 34)
        have R5 := Lib.hid ((R4.out.below hbC).far hg3 (fun k e => by have := hlo k e; omega))
        have G5 := Lib.hid (grown_new (grown_of_below G4.out hbC) hg3 hlo)
        have O5 := Lib.hid ho3
        clear ho3 hg3 hat3 hbC
        go_roundw
        case rel => exact ⟨j - 1, some ⟨g3, 0, none⟩, n + 1, c3, l ++ [(f, t)], q3, by omega, by go_num, rfl, by omega, by omega, O5.out, (fun x hx => by
          rcases List.mem_append.1 hx with hx | hx
          · exact Hs.out x hx
          · simp at hx; subst hx; exact ⟨hf, ht⟩), R5.out, G5.out⟩
        case measure => simp [intOf]; omega
      · go_wp2_with (go_at_call 71; refine (specIndex A l n c O4.out.len f _ (by omega) (O4.out.rd fwEnc_len)).mono ?_; rw [Hv.out]; rintro e w4 ⟨rfl, rfl⟩)
        go_roundw
        case rel => exact ⟨j - 1, A, n, c, l, q3, by omega, by go_num, rfl, by omega, by omega, O4.out, Hs.out, R4.out, G4.out⟩
        case measure => simp [intOf]; omega
    · obtain rfl : j = 0 := by omega
      go_wp2
      go_ret
      exact ⟨A, n, c, l, rfl, by omega, Hs.out, Ho.out, by omega, (fun x hx => by have := Hs.out x hx; omega), ⟨q, by omega, R.out⟩, G.out⟩
end Go.Proofs.Ytfokfdkpbdabhaa
