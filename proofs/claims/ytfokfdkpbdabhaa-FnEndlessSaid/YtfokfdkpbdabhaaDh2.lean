/-
  What the reference draws for HoldBatch.
-/
import Derived.Test.YtfokfdkpbdabhaaDh1
namespace Go.Proofs.Ytfokfdkpbdabhaa
open Go.RowKit

set_option maxHeartbeats 2000000 in
set_option maxRecDepth 100000 in
theorem badLtC (B g p base n c : Nat) (A : Option Addr) (l : List Lt) (w : World) (h : Rdr w B g p) (hp : p ≤ 850000) (ho : Own w base 54 2 ltEnc (.slice A n c) l) (hgb : g < base) (hbw : base ≤ w.heap.size) (hn : n ≤ 14) (hs : ∀ x ∈ l, x.2.size = 7) :
    Calls Try.prog 79 #[.pointer (some ⟨g, 0, none⟩), .slice A n c] w fun e w' => ∃ A' n' c' l', e = .returned (.slice A' n' c') ∧ Own w' base 54 2 ltEnc (.slice A' n' c') l' ∧ n' ≤ 61 ∧ (∀ x ∈ l', x.2.size ≤ 1001) ∧ (∃ p', p' ≤ p + 3 ∧ Rdr w' B g p') ∧ Gb base g w w' := by
  have H := Lib.hid h
  have Ho := Lib.hid ho
  have Hs := Lib.hid hs
  have Hs' : Hid (∀ x ∈ l, x.2.size ≤ 1001) := fun x hx => by have := hs x hx; omega
  clear h ho hs
  by_cases h0 : n = 0
  · go_enter Try.func79, Try.ntmps79
    go_wp2
    go_ret
    exact ⟨A, n, c, l, by first | rfl | (rw [h0]), Ho.out, by omega, Hs'.out, ⟨p, by omega, H.out⟩, Gb.refl _ _ _⟩
  · have hq : ((n : Int) == 0) = false := by simp; omega
    go_enter Try.func79, Try.ntmps79
    go_wp2_with fail
    refine (pickC B g p _ _ H.out (by omega)).mono ?_
    rintro e w1 ⟨k, rfl, hk0, hk1, hr1, hg1⟩
    obtain ⟨k, rfl⟩ := Int.eq_ofNat_of_zero_le hk0
    have hkn : k < n := by omega
    have R1 := Lib.hid hr1
    have O1 := Lib.hid (own_apart Ho.out hg1 hgb)
    have G1 := Lib.hid ((Gb.refl base g w).of_grown hg1 hbw)
    have hb1 : base ≤ w1.heap.size := by have := hg1.size; omega
    clear hr1 hg1 hk0 hk1
    go_wp2_with fail
    refine (pickC B g (p + 1) _ _ R1.out (by omega)).mono ?_
    rintro e w2 ⟨v, rfl, hv0, hv1, hr1, hg1⟩
    have R2 := Lib.hid hr1
    have O2 := Lib.hid (own_apart O1.out hg1 hgb)
    have G2 := Lib.hid (G1.out.of_grown hg1 hb1)
    have hb2 : base ≤ w2.heap.size := by have := hg1.size; omega
    clear hr1 hg1 R1 O1 G1
    obtain ⟨x, hx⟩ : ∃ x, l[k]? = some x := ⟨_, List.getElem?_eq_getElem (by have := O2.out.len; omega)⟩
    have hxs := Hs.out x (List.mem_of_getElem? hx)
    obtain ⟨go, rfl, hgo1, hgo2⟩ := O2.out.head (by omega)
    by_cases e0 : v = 0
    · subst e0
      obtain ⟨c1, f1⟩ := O2.out.cell2 ltEnc_len O2.out.len hx (j := 1) (by omega)
      rw [show (ltEnc x)[1]? = some (.string x.2) from rfl] at c1
      have hs2 : (x.2 ++ (⟨#[49]⟩ : Str)).size = 8 := by rw [ByteArray.size_append, hxs]; rfl
      have Hx := Lib.hid hx
      clear hx
      go_wp2_with fail
      refine (badC B g (p + 2) _ _ R2.out (by omega) (by rw [hs2]; omega) (by rw [hs2]; omega)).mono ?_
      rintro e w3 ⟨s, rfl, hsz, hd⟩
      obtain ⟨p2, hp2, hr2⟩ := hd.rd
      have R3 := Lib.hid hr2
      have O3 := Lib.hid (own_apart O2.out hd.gr hgb)
      have G3 := Lib.hid (G2.out.of_grown hd.gr hb2)
      have hb3 : base ≤ w3.heap.size := by have := hd.gr.size; omega
      obtain ⟨c2, f2⟩ := O3.out.cell2 ltEnc_len O3.out.len Hx.out (j := 1) (by omega)
      rw [show (ltEnc x)[1]? = some (.string x.2) from rfl] at c2
      have hgs : w3.grownBy (w3.setCell ⟨go, k * 2 + 1, none⟩ (.string s)) (some go) := grown_setCell (World.grownBy.refl _ _) (.inl rfl) _
      have R4 := Lib.hid (R3.out.far hgs (fun k e => by injection e with e; omega))
      have G4 := Lib.hid (G3.out.of_row hgs (fun k e => by injection e with e; omega) hb3)
      have O4 := Lib.hid (own_code O3.out Hx.out s)
      clear hd hr2 hgs c1 f1
      go_wp2
      go_ret
      exact ⟨_, n, c, _, rfl, O4.out, by omega, (fun y hy => by
        rcases List.mem_or_eq_of_mem_set hy with hy | rfl
        · exact Hs'.out y hy
        · exact hsz), ⟨p2, by omega, R4.out⟩, G4.out⟩
    · have q0 : (v == 0) = false := by simpa using e0
      by_cases e1 : v = 1
      · subst e1
        obtain ⟨y, hy⟩ : ∃ y, l[0]? = some y := ⟨_, List.getElem?_eq_getElem (by have := O2.out.len; omega)⟩
        obtain ⟨c1, f1⟩ := O2.out.cell2 ltEnc_len O2.out.len hy (j := 0) (by omega)
        rw [show (ltEnc y)[0]? = some (.int .i64 y.1) from rfl] at c1
        simp only [Nat.zero_mul, Nat.zero_add] at c1 f1
        have Hx := Lib.hid hx
        have hbA := fun o => (Below.refl w2.heap.size w2).alloc (Nat.le_refl _) o
        clear hx hy
        go_wp2_with fail
        refine (numC B g (p + 2) _ [0, 10000, 9999, -1, y.1] 5 _ rfl (by decide) _ (R2.out.below (hbA _)) (by omega) (by decide) (rd_ints [0, 10000, 9999, -1, y.1] w2 _ rfl) (fun ad e => by injection e with e; subst e; show w2.heap.size ≠ g; omega)).mono ?_
        rintro e w3 ⟨z, rfl, hz, hd⟩
        obtain ⟨p2, hp2, hr2⟩ := hd.rd
        have R3 := Lib.hid hr2
        have O3 := Lib.hid (own_apart (O2.out.below (hbA _)) hd.gr hgb)
        have G3 := Lib.hid ((G2.out.of_row (row := none) (below_grown (hbA _) none) (fun k e => by cases e) hb2).of_grown hd.gr (by simp; omega))
        have hb3 : base ≤ w3.heap.size := by have := hd.gr.size; simp at this; omega
        obtain ⟨c2, f2⟩ := O3.out.cell2 ltEnc_len O3.out.len Hx.out (j := 0) (by omega)
        rw [show (ltEnc x)[0]? = some (.int .i64 x.1) from rfl] at c2
        simp only [Nat.add_zero] at c2 f2
        have hgs : w3.grownBy (w3.setCell ⟨go, k * 2, none⟩ (.int .i64 z)) (some go) := grown_setCell (World.grownBy.refl _ _) (.inl rfl) _
        have R4 := Lib.hid (R3.out.far hgs (fun k e => by injection e with e; omega))
        have G4 := Lib.hid (G3.out.of_row hgs (fun k e => by injection e with e; omega) hb3)
        have O4 := Lib.hid (own_id O3.out Hx.out z)
        clear hd hr2 hgs c1 f1 hz hbA
        go_wp2
        go_ret
        exact ⟨_, n, c, _, rfl, O4.out, by omega, (fun y hy => by
          rcases List.mem_or_eq_of_mem_set hy with hy | rfl
          · exact Hs'.out y hy
          · exact Hs'.out x (List.mem_of_getElem? Hx.out)), ⟨p2, by omega, R4.out⟩, G4.out⟩
      · have q1 : (v == 1) = false := by simpa using e1
        by_cases e2 : v = 2
        · subst e2
          clear hx
          go_wp2
          go_loopw [1] (fun s wr => ∃ (A : Option Addr) (n c : Nat) (l : List Lt), s = .slice A n c ∧ n ≤ 61 ∧ base ≤ wr.heap.size ∧ Hid (Own wr base 54 2 ltEnc (.slice A n c) l) ∧ Hid (∀ x ∈ l, x.2.size ≤ 1001) ∧ Hid (Rdr wr B g (p + 2)) ∧ Hid (Gb base g w wr)) (fun s _ => 61 - slLen s)
          case atStart => exact ⟨_, n, c, _, rfl, by omega, hb2, O2.out, Hs'.out, R2.out, G2.out⟩
          case round =>
            clear R2 O2 G2 Hs'
            obtain ⟨A, n, c, l, rfl, hn31, hbr, Ho, Hs', R, G⟩ := hrel
            by_cases hlt : n < 61
            · go_wp2_with (at_builtin; refine wpList_append1L (.tmp 48) (.tmp 53) 45 54 lt_info Try.underlying45 rfl (by decide) rfl rfl (1000 + (n : Int), (⟨#[49, 50, 48, 48, 49, 48, 49]⟩ : Str)) rfl Ho.out.len (Ho.out.alloc _) rfl ltEnc_len (ltEnc_cells (1000 + (n : Int), (⟨#[49, 50, 48, 48, 49, 48, 49]⟩ : Str)) rfl) (ltEnc_one _) (by omega) (by omega) (by simp; omega) ?_; intro g3 c3 w5 ho3 hg3 hat3)
              have hbC := (Below.refl wr.heap.size wr).alloc (Nat.le_refl _) (Obj.cells #[.int .i64 (1000 + (n : Int)), .string (⟨#[49, 50, 48, 48, 49, 48, 49]⟩ : Str)] 54)
              have hlo : ∀ k, (Value.slice A n c).ownBlock = some k → base ≤ k := fun k e => (Ho.out.lt k e).1
              have R5 := Lib.hid ((R.out.below hbC).far hg3 (fun k e => by have := hlo k e; omega))
              have G5 := Lib.hid (((G.out.of_row (row := none) (below_grown hbC none) (fun k e => by cases e) hbr)).of_row hg3 hlo (by simp; omega))
              have hz5 : base ≤ w5.heap.size := by have := hg3.size; simp at this; omega
              have O5 := Lib.hid ho3
              clear ho3 hg3 hat3
              go_roundw
              case rel => exact ⟨_, n + 1, c3, _, rfl, by omega, hz5, O5.out, (fun y hy => by
                rcases List.mem_append.1 hy with hy | hy
                · exact Hs'.out y hy
                · simp at hy; subst hy; show 7 ≤ 1001; omega), R5.out, G5.out⟩
              case measure => simp [slLen]; omega
            · go_wp2
              go_ret
              exact ⟨A, n, c, l, rfl, Ho.out, hn31, Hs'.out, ⟨p + 2, by omega, R.out⟩, G.out⟩
        · have q2 : (v == 2) = false := by simpa using e2
          go_wp2
          go_ret
          exact ⟨_, n, c, _, rfl, O2.out, by omega, Hs'.out, ⟨p + 2, by omega, R2.out⟩, G2.out⟩
theorem str_info : (Try.prog.info? 9).map (fun i => (i.zero, i.size, i.bytes)) = some (some (.string ByteArray.empty), 1, 16) := by kernel_rfl
theorem strEnc_cells {w : World} {t : TypeId} (x : Str) {g : Nat} (hg : g = w.heap.size) : ∀ (j : Nat) (u : Value), (strEnc x)[j]? = some u → (w.alloc (.cells #[.string x] t)).cell? (Addr.add ⟨g, 0, none⟩ j) = some u := by
  subst hg
  intro j u hu
  have hj : j < 1 := (List.getElem?_eq_some_iff.1 hu).1
  obtain rfl : j = 0 := by omega
  simp [strEnc] at hu
  subst hu
  rw [show (Addr.add ⟨w.heap.size, 0, none⟩ 0) = (⟨w.heap.size, 0, none⟩ : Addr) from rfl, World.cell?_alloc_at _ _ _ _ rfl]
  rfl

/-- Letters, or texts, that were drawn. -/
structure LtOut (w w' : World) (A : Option Addr) (n c : Nat) (l : List Lt) : Prop where
  own : Own w' w.heap.size 54 2 ltEnc (.slice A n c) l
  len : n ≤ 61
  small : ∀ x ∈ l, x.2.size ≤ 1048576
theorem LtOut.below {w a b : World} {A : Option Addr} {n c : Nat} {l : List Lt} (h : LtOut w a A n c l) (hb : Below a.heap.size a b) : LtOut w b A n c l := ⟨h.own.below hb, h.len, h.small⟩
theorem LtOut.moved {w a b : World} {A : Option Addr} {n c g : Nat} {l : List Lt} (h : LtOut w a A n c l) (hg : a.grownBy b (some g)) (hgw : g < w.heap.size) : LtOut w b A n c l := ⟨own_apart h.own hg hgw, h.len, h.small⟩
theorem LtOut.far {w a b : World} {A : Option Addr} {n c : Nat} {l : List Lt} {row : Option Nat} {z : Nat} (h : LtOut w a A n c l) (hg : a.grownBy b row) (hz : ∀ k, (Value.slice A n c).ownBlock = some k → k < z) (hr : ∀ k, row = some k → z ≤ k) : LtOut w b A n c l :=
  ⟨h.own.grown hg (by
    cases hv : (Value.slice A n c).ownBlock with
    | none => exact .inl rfl
    | some k => exact .inr (fun e => by have h1 := hz k hv; have h2 := hr k e.symm; omega)), h.len, h.small⟩
structure StOut (w w' : World) (A : Option Addr) (n c : Nat) (l : List Str) : Prop where
  own : Own w' w.heap.size 9 1 strEnc (.slice A n c) l
  len : n ≤ 31
  small : ∀ x ∈ l, x.size ≤ 1048576
theorem StOut.below {w a b : World} {A : Option Addr} {n c : Nat} {l : List Str} (h : StOut w a A n c l) (hb : Below a.heap.size a b) : StOut w b A n c l := ⟨h.own.below hb, h.len, h.small⟩

set_option maxHeartbeats 2000000 in
set_option maxRecDepth 100000 in
theorem drawHoldC (A : Option Addr) (bs : List UInt8) (n cap : Nat) (hn : n = bs.length) (hc : n ≤ cap) (w : World) (hlen : n ≤ 1048576) (hr : Rd w 1 byEnc A bs) :
    Calls Try.prog 39 #[.slice A n cap] w fun e w' => ∃ A1 n1 c1 l A2 n2 c2 h, e = .returned (.tuple #[.slice A1 n1 c1, .slice A2 n2 c2]) ∧ LtOut w w' A1 n1 c1 l ∧ StOut w w' A2 n2 c2 h ∧ Below w.heap.size w w' := by
  have Hn := Lib.hid hn
  have Hr := Lib.hid hr
  clear hn hr
  go_enter Try.func39, Try.ntmps39
  go_wp2_with fail
  refine (openC A bs n cap Hn.out hc _ hlen Hr.out).mono ?_
  rintro e w1 ⟨rfl, hr1, hb1⟩
  have hgw := hr1.lt
  have hz1 := hb1.size
  have H1 := Lib.hid hb1
  go_wp2_with fail
  refine (mailC _ _ 0 _ hr1 (by omega)).mono ?_
  rintro e w2 ⟨A2, n2, c2, l2, rfl, hn2, ho2, hs2, hd⟩
  obtain ⟨p2, hp2, hr2⟩ := hd.rd
  have hz2 := hd.gr.size
  have Hd := Lib.hid hd
  clear hr1 hb1 hd
  go_wp2_with fail
  refine (badLtC _ _ p2 w1.heap.size n2 c2 A2 l2 _ hr2 (by omega) ho2 hgw (by omega) hn2 hs2).mono ?_
  rintro e w3 ⟨A3, n3, c3, l3, rfl, ho3, hn3, hs3, ⟨p3, hp3, hr3⟩, hg3⟩
  have G3 := Lib.hid (Gb.to_grown Hd.out.gr hg3)
  have hz3 : w1.heap.size ≤ w3.heap.size := G3.out.size
  have O3 : Hid (LtOut w1 w3 A3 n3 c3 l3) := ⟨ho3, hn3, fun x hx => by have := hs3 x hx; omega⟩
  have Z3 : Hid (∀ k, (Value.slice A3 n3 c3).ownBlock = some k → k < w3.heap.size) := fun k e => (ho3.lt k e).2
  have R3 := Lib.hid hr3
  clear ho2 hs2 hr2 ho3 hs3 hr3 hg3 Hd
  have hbA := fun o => (Below.refl w3.heap.size w3).alloc (Nat.le_refl _) o
  have S3 := Lib.hid (Own.lit0 w3 9 1 strEnc)
  have O4 := Lib.hid (O3.out.below (hbA (.cells #[] 9)))
  have R4 := Lib.hid (R3.out.below (hbA (.cells #[] 9)))
  have G4 := Lib.hid (grown_new (row := none) G3.out (below_grown (hbA (.cells #[] 9)) none) (fun k e => by cases e))
  have hgw3 : w.heap.size < w3.heap.size := by omega
  clear R3 O3 G3 hbA
  go_wp2_with fail
  refine (pickC _ _ p3 _ _ R4.out (by omega)).mono ?_
  rintro e w4 ⟨v, rfl, hv0, hv1, hr1, hg1⟩
  obtain ⟨n0, rfl⟩ := Int.eq_ofNat_of_zero_le hv0
  have hn0 : n0 ≤ 3 := by omega
  have hz5 : w3.heap.size ≤ w4.heap.size := by have := hg1.size; simp at this; omega
  have R5 := Lib.hid hr1
  have S5 := Lib.hid (own_apart S3.out hg1 hgw3)
  have O5 := Lib.hid (O4.out.moved hg1 hgw)
  have G5 := Lib.hid (grown_trans G4.out hg1)
  clear hr1 hg1 R4 S3 O4 G4 hv0 hv1
  go_wp2_with fail
  go_loopw [6, 7] (fun s i wr => ∃ (j : Nat) (A : Option Addr) (n c : Nat) (h : List Str), j ≤ n0 ∧ i = .int .i64 j ∧ s = .slice A n c ∧ n + j ≤ n0 ∧ Hid (Own wr w3.heap.size 9 1 strEnc (.slice A n c) h) ∧ Hid (∀ x ∈ h, x.size = 7) ∧ Hid (∃ q, q + j ≤ p3 + 4 ∧ Rdr wr w.heap.size w.heap.size q) ∧ Hid (LtOut w1 wr A3 n3 c3 l3) ∧ Hid (w1.grownBy wr (some w.heap.size)) ∧ w3.heap.size ≤ wr.heap.size) (fun _ i _ => (intOf i).toNat)
  case atStart => exact ⟨n0, _, 0, 0, [], Nat.le_refl _, rfl, rfl, by omega, S5.out, (fun x hx => by cases hx), ⟨p3 + 1, by omega, R5.out⟩, O5.out, G5.out, hz5⟩
  case round =>
    clear R5 S5 O5 G5
    obtain ⟨j, A, n, c, h, hj, rfl, rfl, hn, So, Hs, ⟨q, hq, r⟩, O, G, hzr⟩ := hrel
    have R := Lib.hid r
    clear r
    by_cases hlt : 0 < j
    · go_wp2_with fail
      refine (codeC _ _ q _ R.out (by omega)).mono ?_
      rintro e w6 ⟨f, rfl, hf, hd⟩
      obtain ⟨q2, hq2, hr2⟩ := hd.rd
      have R6 := Lib.hid hr2
      have G6 := Lib.hid (grown_trans G.out hd.gr)
      have S6 := Lib.hid (own_apart So.out hd.gr hgw3)
      have O6 := Lib.hid (O.out.moved hd.gr hgw)
      have hz6 : w3.heap.size ≤ w6.heap.size := by have := hd.gr.size; omega
      clear hd hr2
      go_wp2_with (at_builtin; refine wpList_append1L (.tmp 21) (.tmp 24) 46 9 str_info Try.underlying46 rfl (by decide) rfl rfl f rfl S6.out.len (S6.out.alloc _) rfl strEnc_len (strEnc_cells f rfl) (strEnc_one _) (by omega) (by omega) (by simp; omega) ?_; intro g3 cx w7 ho3 hg3 hat3)
      have hlo : ∀ k, (Value.slice A n c).ownBlock = some k → w3.heap.size ≤ k := fun k e => (S6.out.lt k e).1
      have hbC := (Below.refl w6.heap.size w6).alloc (Nat.le_refl _) (Obj.cells #[.string f] 9)
      have R7 := Lib.hid ((R6.out.below hbC).far hg3 (fun k e => by have := hlo k e; omega))
      have G7 := Lib.hid (grown_new (grown_of_below G6.out hbC) hg3 (fun k e => by have := hlo k e; omega))
      have O7 := Lib.hid ((O6.out.below hbC).far hg3 Z3.out hlo)
      have S7 := Lib.hid ho3
      have hz7 : w3.heap.size ≤ w7.heap.size := by have := hg3.size; simp at this; omega
      clear ho3 hg3 hat3 hbC
      go_roundw
      case rel => exact ⟨j - 1, some ⟨g3, 0, none⟩, n + 1, cx, _, by omega, by go_num, rfl, by omega, S7.out, (fun x hx => by
        rcases List.mem_append.1 hx with hx | hx
        · exact Hs.out x hx
        · simp at hx; subst hx; exact hf), ⟨q2, by omega, R7.out⟩, O7.out, G7.out, hz7⟩
      case measure => simp [intOf]; omega
    · obtain rfl : j = 0 := by omega
      have Hs' : Hid (∀ x ∈ h, x.size ≤ 1048576) := fun x hx => by have := Hs.out x hx; omega
      clear Hs
      go_wp2_with fail
      refine (pickC _ _ q _ _ R.out (by omega)).mono ?_
      rintro e w6 ⟨v, rfl, hv0, hv1, hr1, hg1⟩
      have S6 := Lib.hid (own_apart So.out hg1 hgw3)
      have O6 := Lib.hid (O.out.moved hg1 hgw)
      have G6 := Lib.hid (grown_trans G.out hg1)
      have hz6 : w3.heap.size ≤ w6.heap.size := by have := hg1.size; omega
      clear hr1 hg1
      by_cases e0 : v = 0
      · subst e0
        go_wp2_with (at_builtin; refine wpList_append1L (.tmp 30) (.tmp 31) 46 9 str_info Try.underlying46 rfl (by decide) rfl rfl (⟨#[120]⟩ : Str) rfl S6.out.len (S6.out.alloc _) rfl strEnc_len (strEnc_cells (⟨#[120]⟩ : Str) rfl) (strEnc_one _) (by omega) (by omega) (by simp; omega) ?_; intro g3 cx w7 ho3 hg3 hat3)
        have hlo : ∀ k, (Value.slice A n c).ownBlock = some k → w3.heap.size ≤ k := fun k e => (S6.out.lt k e).1
        have hbC := (Below.refl w6.heap.size w6).alloc (Nat.le_refl _) (Obj.cells #[.string (⟨#[120]⟩ : Str)] 9)
        have G7 := Lib.hid (grown_new (grown_of_below G6.out hbC) hg3 (fun k e => by have := hlo k e; omega))
        have O7 := Lib.hid ((O6.out.below hbC).far hg3 Z3.out hlo)
        have hz7 : w3.heap.size ≤ w7.heap.size := by have := hg3.size; simp at this; omega
        have S7 := Lib.hid ho3
        clear ho3 hg3 hat3 hbC
        go_ret2
        exact ⟨A3, n3, c3, l3, _, n + 1, _, _, rfl, ⟨O7.out.own.lower hz1, O7.out.len, O7.out.small⟩, ⟨S7.out.lower (by omega), by omega, (fun x hx => by
          rcases List.mem_append.1 hx with hx | hx
          · exact Hs'.out x hx
          · simp at hx; subst hx; show 1 ≤ 1048576; omega)⟩, grown_below_g H1.out G7.out (Nat.le_refl _)⟩
      · have q0 : (v == 0) = false := by simpa using e0
        by_cases e1 : v = 1
        · subst e1
          go_wp2
          go_loopw [6] (fun s wr => ∃ (A : Option Addr) (n c : Nat) (h : List Str), s = .slice A n c ∧ n ≤ 31 ∧ Hid (Own wr w3.heap.size 9 1 strEnc (.slice A n c) h) ∧ Hid (∀ x ∈ h, x.size ≤ 1048576) ∧ Hid (LtOut w1 wr A3 n3 c3 l3) ∧ Hid (w1.grownBy wr (some w.heap.size)) ∧ w3.heap.size ≤ wr.heap.size) (fun s _ => 31 - slLen s)
          case atStart => exact ⟨A, n, c, h, rfl, by omega, S6.out, Hs'.out, O6.out, G6.out, hz6⟩
          case round =>
            clear S6 O6 G6 Hs' hz6
            obtain ⟨A, n, c, h, rfl, hn31, S6, Hs', O6, G6, hz6⟩ := hrel
            by_cases hlt : n < 31
            · go_wp2_with (at_builtin; refine wpList_append1L (.tmp 38) (.tmp 39) 46 9 str_info Try.underlying46 rfl (by decide) rfl rfl (⟨#[49, 50, 48, 48, 49, 48, 48]⟩ : Str) rfl S6.out.len (S6.out.alloc _) rfl strEnc_len (strEnc_cells (⟨#[49, 50, 48, 48, 49, 48, 48]⟩ : Str) rfl) (strEnc_one _) (by omega) (by omega) (by simp; omega) ?_; intro g3 cx w7 ho3 hg3 hat3)
              have hlo : ∀ k, (Value.slice A n c).ownBlock = some k → w3.heap.size ≤ k := fun k e => (S6.out.lt k e).1
              have hbC := (Below.refl wr.heap.size wr).alloc (Nat.le_refl _) (Obj.cells #[.string (⟨#[49, 50, 48, 48, 49, 48, 48]⟩ : Str)] 9)
              have G7 := Lib.hid (grown_new (grown_of_below G6.out hbC) hg3 (fun k e => by have := hlo k e; omega))
              have O7 := Lib.hid ((O6.out.below hbC).far hg3 Z3.out hlo)
              have hz7 : w3.heap.size ≤ w7.heap.size := by have := hg3.size; simp at this; omega
              have S7 := Lib.hid ho3
              clear ho3 hg3 hat3 hbC
              go_roundw
              case rel => exact ⟨_, n + 1, cx, _, rfl, by omega, S7.out, (fun x hx => by
                rcases List.mem_append.1 hx with hx | hx
                · exact Hs'.out x hx
                · simp at hx; subst hx; show 7 ≤ 1048576; omega), O7.out, G7.out, hz7⟩
              case measure => simp [slLen]; omega
            · go_wp2
              go_ret2
              exact ⟨A3, n3, c3, l3, A, n, c, h, rfl, ⟨O6.out.own.lower hz1, O6.out.len, O6.out.small⟩, ⟨S6.out.lower (by omega), by omega, Hs'.out⟩, grown_below_g H1.out G6.out (Nat.le_refl _)⟩
        · have q1 : (v == 1) = false := by simpa using e1
          go_wp2
          go_ret2
          exact ⟨A3, n3, c3, l3, A, n, c, h, rfl, ⟨O6.out.own.lower hz1, O6.out.len, O6.out.small⟩, ⟨S6.out.lower (by omega), by omega, Hs'.out⟩, grown_below_g H1.out G6.out (Nat.le_refl _)⟩
end Go.Proofs.Ytfokfdkpbdabhaa
