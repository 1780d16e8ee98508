/-
  What the reference draws for letters: batches.
-/
import Derived.Test.YtfokfdkpbdabhaaDh0
namespace Go.Proofs.Ytfokfdkpbdabhaa
open Go.RowKit

theorem flat_code : ∀ (l : List Lt) (i : Nat) (x : Lt) (s : Str), l[i]? = some x → (l.flatMap ltEnc).set (i * 2 + 1) (.string s) = (l.set i (x.1, s)).flatMap ltEnc
  | [], _, _, _, h => by simp at h
  | y :: l, 0, x, s, h => by
    simp at h; subst h
    simp [ltEnc]
  | y :: l, i + 1, x, s, h => by
    simp only [List.getElem?_cons_succ] at h
    rw [show (i + 1) * 2 + 1 = (i * 2 + 1) + 2 from by omega, List.flatMap_cons, List.set_cons_succ, List.flatMap_cons, ← flat_code l i x s h]
    rfl
theorem flat_id : ∀ (l : List Lt) (i : Nat) (x : Lt) (v : Int), l[i]? = some x → (l.flatMap ltEnc).set (i * 2) (.int .i64 v) = (l.set i (v, x.2)).flatMap ltEnc
  | [], _, _, _, h => by simp at h
  | y :: l, 0, x, s, h => by
    simp at h; subst h
    simp [ltEnc]
  | y :: l, i + 1, x, s, h => by
    simp only [List.getElem?_cons_succ] at h
    rw [show (i + 1) * 2 = (i * 2) + 2 from by omega, List.flatMap_cons, List.set_cons_succ, List.flatMap_cons, ← flat_id l i x s h]
    rfl
theorem own_raw {w : World} {base n c : Nat} {A : Option Addr} {l : List Lt} (h : Own w base 54 2 ltEnc (.slice A n c) l) : w.ownsRow base 54 2 (.slice A n c) n (l.flatMap ltEnc) := by
  have hn := h.len
  unfold Own at h
  rw [← hn] at h
  exact h
theorem own_code {w : World} {base g n c i : Nat} {x : Lt} {l : List Lt} (h : Own w base 54 2 ltEnc (.slice (some ⟨g, 0, none⟩) n c) l) (hx : l[i]? = some x) (s : Str) : Own (w.setCell ⟨g, i * 2 + 1, none⟩ (.string s)) base 54 2 ltEnc (.slice (some ⟨g, 0, none⟩) n c) (l.set i (x.1, s)) := by
  have h2 := (World.ownsRow.stored (own_raw h) (i * 2 + 1) (.string s)).1
  rw [flat_code l i x s hx] at h2
  unfold Own
  rw [List.length_set, ← h.len]
  exact h2
theorem own_id {w : World} {base g n c i : Nat} {x : Lt} {l : List Lt} (h : Own w base 54 2 ltEnc (.slice (some ⟨g, 0, none⟩) n c) l) (hx : l[i]? = some x) (v : Int) : Own (w.setCell ⟨g, i * 2, none⟩ (.int .i64 v)) base 54 2 ltEnc (.slice (some ⟨g, 0, none⟩) n c) (l.set i (v, x.2)) := by
  have h2 := (World.ownsRow.stored (own_raw h) (i * 2) (.int .i64 v)).1
  rw [flat_id l i x v hx] at h2
  unfold Own
  rw [List.length_set, ← h.len]
  exact h2

set_option maxHeartbeats 2000000 in
set_option maxRecDepth 100000 in
theorem someLtC (B g p : Nat) (first : Int) (w : World) (h : Rdr w B g p) (hp : p ≤ 800000) (hf0 : 0 ≤ first) (hf1 : first ≤ 100) :
    Calls Try.prog 102 #[.pointer (some ⟨g, 0, none⟩), .int .i64 first] w fun e w' => ∃ A n c l, e = .returned (.slice A n c) ∧ n ≤ 14 ∧ Own w' w.heap.size 54 2 ltEnc (.slice A n c) l ∧ (∀ x ∈ l, x.2.size = 7) ∧ Drew w B g p 200 w' := by
  have hgw := h.lt
  have H := Lib.hid h
  have hb1 : Below w.heap.size w (w.alloc (.cells #[] 54)) := (Below.refl _ _).alloc (Nat.le_refl _) _
  have O1 := Lib.hid (Own.lit0 w 54 2 ltEnc)
  have H1 := Lib.hid (h.below hb1)
  have hbA := fun o => (Below.refl (w.alloc (.cells #[] 54)).heap.size (w.alloc (.cells #[] 54))).alloc (Nat.le_refl _) o
  clear h
  go_enter Try.func102, Try.ntmps102
  go_wp2_with fail
  refine (numC B g p _ [6, 4, 9, 2, 14, 0, 1] 7 _ rfl (by decide) _ (H1.out.below (hbA _)) (by omega) (by decide) (rd_ints [6, 4, 9, 2, 14, 0, 1] (w.alloc (.cells #[] 54)) _ (by simp)) (fun ad e => by injection e with e; subst e; show w.heap.size + 1 ≠ g; omega)).mono ?_
  rintro e w1 ⟨x, rfl, hx, hd⟩
  have hx' : 0 ≤ x ∧ x ≤ 14 := by simp at hx; omega
  obtain ⟨n0, rfl⟩ := Int.eq_ofNat_of_zero_le hx'.1
  have hn0 : n0 ≤ 14 := by omega
  obtain ⟨p1, hp1, hr1⟩ := hd.rd
  have R1 := Lib.hid hr1
  have G1 : Hid (w.grownBy w1 (some g)) := grown_trans (below_grown (below_step hb1 (hbA _)) _) hd.gr
  have P1 := Lib.hid (own_apart (O1.out.below (hbA _)) hd.gr hgw)
  clear hd hr1 hx hx' hb1 hbA
  go_wp2_with fail
  go_loopw [5, 6] (fun s i wr => ∃ (j : Nat) (A : Option Addr) (n c : Nat) (l : List Lt) (q : Nat), j ≤ n0 ∧ i = .int .i64 j ∧ s = .slice A n c ∧ n + j ≤ n0 ∧ q + 8 * j ≤ p + 1 + 8 * n0 ∧ Hid (Own wr w.heap.size 54 2 ltEnc (.slice A n c) l) ∧ Hid (∀ x ∈ l, x.2.size = 7) ∧ Hid (Rdr wr B g q) ∧ Hid (w.grownBy wr (some g))) (fun _ i _ => (intOf i).toNat)
  case atStart => exact ⟨n0, _, 0, 0, [], p1, Nat.le_refl _, rfl, rfl, by omega, by omega, P1.out, (fun x hx => by cases hx), R1.out, G1.out⟩
  case round =>
    clear R1 G1 P1
    obtain ⟨j, A, n, c, l, q, hj, rfl, rfl, hn, hq, Ho, Hs, R, G⟩ := hrel
    by_cases hlt : 0 < j
    · go_wp2_with fail
      refine (someCodeC B g q _ R.out (by omega)).mono ?_
      rintro e w2 ⟨f, rfl, hf, hd⟩
      obtain ⟨q2, hq2, hr2⟩ := hd.rd
      have R2 := Lib.hid hr2
      have G2 := Lib.hid (grown_trans G.out hd.gr)
      have O2 := Lib.hid (own_apart Ho.out hd.gr hgw)
      have hz2 : w.heap.size ≤ w2.heap.size := G2.out.size
      clear hd hr2
      go_wp2_with (at_builtin; refine wpList_append1L (.tmp 15) (.tmp 24) 45 54 lt_info Try.underlying45 rfl (by decide) rfl rfl (first + (n : Int) * 7, f) rfl O2.out.len (O2.out.alloc _) rfl ltEnc_len (ltEnc_cells (first + (n : Int) * 7, f) rfl) (ltEnc_one _) (by omega) (by omega) (by simp; omega) ?_; intro g3 c3 w5 ho3 hg3 hat3)
      have hlo : ∀ k, (Value.slice A n c).ownBlock = some k → w.heap.size ≤ k := fun k e => (O2.out.lt k e).1
      have hbC := (Below.refl w2.heap.size w2).alloc (Nat.le_refl _) (Obj.cells #[.int .i64 (first + (n : Int) * 7), .string f] 54)
      have R5 := Lib.hid ((R2.out.below hbC).far hg3 (fun k e => by have := hlo k e; omega))
      have G5 := Lib.hid (grown_new (grown_of_below G2.out hbC) hg3 hlo)
      have O5 := Lib.hid ho3
      clear ho3 hg3 hat3 hbC
      go_roundw
      case rel => exact ⟨j - 1, some ⟨g3, 0, none⟩, n + 1, c3, _, q2, by omega, by go_num, rfl, by omega, by omega, O5.out, (fun x hx => by
        rcases List.mem_append.1 hx with hx | hx
        · exact Hs.out x hx
        · simp at hx; subst hx; exact hf), R5.out, G5.out⟩
      case measure => simp [intOf]; omega
    · obtain rfl : j = 0 := by omega
      go_wp2
      go_ret
      exact ⟨A, n, c, l, rfl, by omega, Ho.out, Hs.out, ⟨q, by omega, R.out⟩, G.out⟩

set_option maxHeartbeats 2000000 in
set_option maxRecDepth 100000 in
theorem mailC (B g p : Nat) (w : World) (h : Rdr w B g p) (hp : p ≤ 700000) :
    Calls Try.prog 80 #[.pointer (some ⟨g, 0, none⟩)] w fun e w' => ∃ A n c l, e = .returned (.slice A n c) ∧ n ≤ 14 ∧ Own w' w.heap.size 54 2 ltEnc (.slice A n c) l ∧ (∀ x ∈ l, x.2.size = 7) ∧ Drew w B g p 300 w' := by
  have hgw := h.lt
  have H := Lib.hid h
  clear h
  go_enter Try.func80, Try.ntmps80
  go_wp2_with fail
  refine (pickC B g p _ _ H.out (by omega)).mono ?_
  rintro e w1 ⟨v, rfl, hv0, hv1, hr1, hg1⟩
  have hz1 := hg1.size
  have D1 : Hid (Drew w B g p 1 w1) := ⟨⟨p + 1, Nat.le_refl _, hr1⟩, hg1⟩
  clear hg1
  go_wp2_with fail
  refine (someLtC B g (p + 1) (1 + v) _ hr1 (by omega) (by omega) (by omega)).mono ?_
  rintro e w2 ⟨A, n, c, l, rfl, hn, ho, hs, hd⟩
  obtain ⟨p2, hp2, hr2⟩ := hd.rd
  have R2 := Lib.hid hr2
  have G2 := Lib.hid (grown_trans D1.out.gr hd.gr)
  have O2 := Lib.hid (ho.lower hz1)
  have S2 := Lib.hid hs
  clear hr1 hd hr2 ho hs
  go_wp2_with fail
  go_loopw [4] (fun i wr => ∃ (j : Nat) (l : List Lt) (q : Nat), j ≤ n ∧ i = .int .i64 j ∧ q ≤ p2 + j ∧ Hid (Own wr w.heap.size 54 2 ltEnc (.slice A n c) l) ∧ Hid (∀ x ∈ l, x.2.size = 7) ∧ Hid (Rdr wr B g q) ∧ Hid (w.grownBy wr (some g))) (fun i _ => n - (intOf i).toNat)
  case atStart => exact ⟨0, l, p2, Nat.zero_le _, rfl, by omega, O2.out, S2.out, R2.out, G2.out⟩
  case round =>
    clear R2 G2 O2 S2
    obtain ⟨j, l, q, hj, rfl, hq, Ho, Hs, R, G⟩ := hrel
    by_cases hlt : j < n
    · go_wp2_with fail
      refine (codeC B g q _ R.out (by omega)).mono ?_
      rintro e w3 ⟨f, rfl, hf, hd⟩
      obtain ⟨q3, hq3, hr3⟩ := hd.rd
      have R3 := Lib.hid hr3
      have G3 := Lib.hid (grown_trans G.out hd.gr)
      have O3 := Lib.hid (own_apart Ho.out hd.gr hgw)
      have hz3 : w.heap.size ≤ w3.heap.size := G3.out.size
      clear hd hr3
      obtain ⟨x, hx⟩ : ∃ x, l[j]? = some x := ⟨_, List.getElem?_eq_getElem (by have := O3.out.len; omega)⟩
      obtain ⟨go, rfl, hgo1, hgo2⟩ := O3.out.head (by omega)
      obtain ⟨c1', f1⟩ := O3.out.cell2 ltEnc_len O3.out.len hx (j := 1) (by omega)
      rw [show (ltEnc x)[1]? = some (.string x.2) from rfl] at c1'
      have hgs : w3.grownBy (w3.setCell ⟨go, j * 2 + 1, none⟩ (.string f)) (some go) := grown_setCell (World.grownBy.refl _ _) (.inl rfl) _
      have R4 := Lib.hid (R3.out.far hgs (fun k e => by injection e with e; omega))
      have G4 := Lib.hid (grown_new G3.out hgs (fun k e => by injection e with e; omega))
      have O4 := Lib.hid (own_code O3.out hx f)
      have S4 : Hid (∀ y ∈ l.set j (x.1, f), y.2.size = 7) := fun y hy => by
        rcases List.mem_or_eq_of_mem_set hy with hy | rfl
        · exact Hs.out y hy
        · exact hf
      clear hgs hx
      go_wp2
      go_roundw
      case rel => exact ⟨j + 1, _, q3, by omega, by go_num, by omega, O4.out, S4.out, R4.out, G4.out⟩
      case measure => simp [intOf]; omega
    · obtain rfl : j = n := by omega
      go_wp2
      go_ret
      exact ⟨A, j, c, l, rfl, hn, Ho.out, Hs.out, ⟨q, by omega, R.out⟩, G.out⟩
end Go.Proofs.Ytfokfdkpbdabhaa
